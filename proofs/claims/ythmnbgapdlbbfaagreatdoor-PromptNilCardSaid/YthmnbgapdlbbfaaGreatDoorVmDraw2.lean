/- Regions that draw their order: operations that neither write nor make blocks. -/
import Derived.Test.YthmnbgapdlbbfaaGreatDoorVmDraw1
set_option linter.unusedSimpArgs false
set_option linter.unusedVariables false
namespace Go.Vm
open Go.RowKit

variable {P : Program}

/-- What an operation that neither writes nor makes blocks must do, in whatever world. -/
def PureS (P : Program) (ρ : Ren) (s : Sem Next) (v : Value) : Prop := ∀ w, ∃ v', s.run P w = .ok (.value v') w ∧ VRel ρ v v'

theorem PureS.mk' {ρ : Ren} {s : Sem Value} {v : Value} (h : ∀ w, ∃ v', s.run P w = .ok v' w ∧ VRel ρ v v') : PureS P ρ (do pure (.value (← s))) v := by
  intro w
  obtain ⟨v', h1, h2⟩ := h w
  exact ⟨v', by simp [h1], h2⟩

theorem lenA_pure {w : World} {ρ : Ren} {μ : Mem} {argTypes : Array TypeId} {ty : TypeId} {args : List Value} {args' : Array Value} {v : Value}
    (h : lenA P μ argTypes args = some v) (ha : LRel ρ args args'.toList) (hk : ∀ k e, (argTypes[0]?).bind P.underlying ≠ some (.map k e)) : (Builtin.len_ argTypes ty args').run P w = .ok v w ∧ litV v = true := by
  unfold lenA at h
  split at h
  case h_2 => cases h
  case h_1 t x hat =>
    have hat' := toList_one hat
    subst hat'
    obtain ⟨x', rfl, hx⟩ := one_arg ha
    cases hu : und P t with
    | none => simp [hu] at h
    | some d =>
      have hr := und_run hu w
      simp only [hu] at h
      cases d <;> simp only at h <;> try (cases h; done)
      case string =>
        cases hs : vStr x with
        | none => simp [hs] at h
        | some s =>
          obtain ⟨rfl, rfl⟩ := vStr_rel hs hx
          simp [hs] at h
          subst h
          exact ⟨by simp [Builtin.len_, hr, goInt], rfl⟩
      case array n e =>
        injection h with h
        subst h
        refine ⟨?_, rfl⟩
        simp only [Builtin.len_, List.getElem?_toArray, List.getElem?_cons_zero, Sem.run_bind, hr, Result.andThen_ok]
        cases x' <;> rfl
      case slice e =>
        cases hs : vSlice x with
        | none => simp [hs] at h
        | some y =>
          obtain ⟨q, n, c⟩ := y
          simp [hs] at h
          subst h
          rcases vSlice_rel hs hx with ⟨_, _, rfl⟩ | ⟨b, o, p, a', c', _, _, _, rfl, _⟩
          · exact ⟨by simp [Builtin.len_, hr, goInt], rfl⟩
          · exact ⟨by simp [Builtin.len_, hr, goInt], rfl⟩
      case map k e => exact absurd (by simpa using (show P.underlying t = some (.map k e) from hu)) (hk k e)

theorem convert_pure {μ μ' : Mem} {src dst : TypeId} {x v : Value} (h : convertA P μ src dst x = some (v, μ')) (hs : ∀ e, P.underlying src ≠ some (.slice e)) (hd : ∀ e, P.underlying dst ≠ some (.slice e)) :
    μ' = μ ∧ ∀ {ρ : Ren} {x' : Value}, VRel ρ x x' → ∀ w, ∃ v', (convert src dst x').run P w = .ok v' w ∧ VRel ρ v v' := by
  unfold convertA at h
  split at h
  · rename_i k n
    cases hu : und P dst with
    | none => simp [hu] at h
    | some d =>
      simp only [hu] at h
      cases hsr : und P src with
      | none => cases d <;> simp [hsr] at h
      | some s =>
        cases d <;> simp [hsr] at h
        case int k' =>
          obtain ⟨rfl, rfl⟩ := h
          refine ⟨rfl, fun hx w => ?_⟩
          have e := hx.same rfl
          subst e
          exact ⟨_, by simp [convert, und_run hsr w, und_run hu w, Conv.intToInt], .lit rfl⟩
        case string =>
          obtain ⟨rfl, rfl⟩ := h
          refine ⟨rfl, fun hx w => ?_⟩
          have e := hx.same rfl
          subst e
          exact ⟨_, by simp [convert, und_run hsr w, und_run hu w, Conv.intToString], .lit rfl⟩
  · rename_i s
    cases hsr : und P src with
    | none => simp [hsr] at h
    | some d0 =>
      simp only [hsr, Option.bind_some] at h
      unfold strTo at h
      cases hu : und P dst with
      | none => simp [hu] at h
      | some d =>
        simp only [hu] at h
        cases d <;> simp only at h <;> try (cases h; done)
        case string =>
          injection h with h
          injection h with h1 h2
          subst h1 h2
          refine ⟨rfl, fun hx w => ?_⟩
          have e := hx.same rfl
          subst e
          exact ⟨_, by simp [convert, und_run hsr w, und_run hu w], .lit rfl⟩
        case slice e => exact absurd hu (hd e)
  · rename_i a n c
    cases hsd : isStrA P dst with
    | false => simp [hsd] at h
    | true =>
      simp only [hsd, cond_true] at h
      unfold toStr at h
      cases he : elemA P src with
      | none => simp [he] at h
      | some e => exact absurd (elemA_und he) (hs e)
  · cases h

theorem pure_sound {o : Oper} (hk : kindOf P o = .pure) {A : Regs} {μ μ' : Mem} {v : Value} (h : opA P A μ o.op = some (v, μ')) :
    μ' = μ ∧ ∀ {ρ : Ren} {a : Act}, EszOK ρ μ → RRel ρ A a.tmps → PureS P ρ (execOp a.eval o) v := by
  unfold execOp
  unfold kindOf at hk
  cases ho : o.op <;> rw [ho] at h hk <;> simp only [opA] at h ⊢ <;> try (first | (cases h; done) | (cases hk; done))
  case move x =>
    injection h with h
    injection h with h1 h2
    subst h1 h2
    exact ⟨rfl, fun _ hr w => ⟨_, rfl, hr.eval x⟩⟩
  case assign x =>
    injection h with h
    injection h with h1 h2
    subst h1 h2
    exact ⟨rfl, fun _ hr w => ⟨_, rfl, hr.eval x⟩⟩
  case pick c x y =>
    obtain ⟨k, rfl⟩ := pairM_some h
    refine ⟨rfl, fun _ hr w => ?_⟩
    unfold pickA at k
    split at k
    · rename_i t hc
      injection k with k
      subst k
      have := hr.eval c
      rw [hc] at this
      have e := this.same rfl
      refine ⟨_, by simp [e, asBool]; rfl, ?_⟩
      cases t
      · exact hr.eval y
      · exact hr.eval x
    · cases k
  case build t parts =>
    obtain ⟨k, rfl⟩ := pairM_some h
    exact ⟨rfl, fun _ hr => .mk' fun w => build_run hr k⟩
  case nilCheck x =>
    obtain ⟨k, rfl⟩ := pairM_some h
    refine ⟨rfl, fun _ hr w => ?_⟩
    have hx := hr.eval x
    obtain ⟨e, hs⟩ := nilCheckA_shape k hx
    subst e
    rcases hs with ⟨p, e⟩ | ⟨f, y, z, e⟩ | ⟨l, y, z, e⟩ <;> rw [e] at hx ⊢ <;> exact ⟨_, rfl, hx⟩
  case binOp op t x y _ =>
    obtain ⟨k, rfl⟩ := pairM_some h
    refine ⟨rfl, fun _ hr => .mk' fun w => ?_⟩
    obtain ⟨h1, h2⟩ := binA_run (cx := x) (cy := y) (w := w) k (hr.eval x) (hr.eval y)
    exact ⟨v, h1, .lit h2⟩
  case unOp op t x =>
    obtain ⟨k, rfl⟩ := pairM_some h
    exact ⟨rfl, fun _ hr => .mk' fun w => ⟨v, unA_run (w := w) k (hr.eval x), unA_rel k⟩⟩
  case convert s d x =>
    have hs : ∀ e, P.underlying s ≠ some (.slice e) := fun e he => by simp [he] at hk
    have hd : ∀ e, P.underlying d ≠ some (.slice e) := fun e he => by
      cases hus : P.underlying s with
      | none => simp [he, hus] at hk
      | some ds => cases ds <;> simp [he, hus] at hk
    obtain ⟨h1, h2⟩ := convert_pure h hs hd
    exact ⟨h1, fun _ hr => .mk' fun w => h2 (hr.eval x) w⟩
  case makeInterface t x =>
    obtain ⟨k, rfl⟩ := pairM_some h
    exact ⟨rfl, fun _ hr => .mk' fun w => ifaceA_sound k (hr.eval x)⟩
  case makeFunc fn first captured =>
    obtain ⟨k, rfl⟩ := pairM_some h
    exact ⟨rfl, fun _ hr => .mk' fun w => ⟨_, rfl, funcA_rel hr k⟩⟩
  case slice t x lo hi mx =>
    obtain ⟨k, rfl⟩ := pairM_some h
    exact ⟨rfl, fun hE hr => .mk' fun w => sliceA_any hE k (hr.eval x) (optA_rel hr lo) (optA_rel hr hi) (optA_rel hr mx)⟩
  case fieldAddr s x f =>
    obtain ⟨k, rfl⟩ := pairM_some h
    exact ⟨rfl, fun _ hr => .mk' fun w => fieldAddr_run k (hr.eval x)⟩
  case field t x f =>
    obtain ⟨k, rfl⟩ := pairM_some h
    exact ⟨rfl, fun _ hr => .mk' fun w => field_run k (hr.eval x)⟩
  case indexAddr t x i =>
    obtain ⟨k, rfl⟩ := pairM_some h
    exact ⟨rfl, fun _ hr => .mk' fun w => indexAddr_run k (hr.eval x) (hr.eval i)⟩
  case index t x i =>
    obtain ⟨k, rfl⟩ := pairM_some h
    exact ⟨rfl, fun _ hr => .mk' fun w => index_run k (hr.eval x) (hr.eval i)⟩
  case extract t i =>
    obtain ⟨k, rfl⟩ := pairM_some h
    exact ⟨rfl, fun _ hr => .mk' fun w => extractA_sound k (hr.eval t)⟩
  case call c =>
    obtain ⟨callee, args, argTypes⟩ := c
    cases callee with
    | value f => cases hk
    | invoke r n => cases hk
    | builtin b =>
      simp only [callA] at h
      have hX : ∀ a : Act, ∃ X, (do let d ← resolve a.eval { callee := .builtin b, args, argTypes } o.type; invoke d.target d.args : Sem Next) = builtin b argTypes o.type X (args.map a.eval) := fun a => ⟨_, by
        unfold resolve
        rfl⟩
      cases b <;> simp only [builtinA] at h hk <;> try (first | (cases h; done) | (cases hk; done))
      case len =>
        obtain ⟨k, rfl⟩ := pairM_some (show pairM μ (lenA P μ argTypes _) = some (v, μ') from h)
        refine ⟨rfl, fun _ hr w => ?_⟩
        obtain ⟨X, hX⟩ := hX _
        rw [hX]
        obtain ⟨h1, h2⟩ := lenA_pure (ty := o.type) (w := w) k (args_rel hr args) (fun q e he => by rw [he] at hk; cases hk)
        exact PureS.mk' (fun w' => ⟨v, (lenA_pure (ty := o.type) (w := w') k (args_rel hr args) (fun q e he => by rw [he] at hk; cases hk)).1, .lit h2⟩) w
      case cap =>
        obtain ⟨k, rfl⟩ := pairM_some (show pairM μ (capA P argTypes _) = some (v, μ') from h)
        refine ⟨rfl, fun _ hr w => ?_⟩
        obtain ⟨X, hX⟩ := hX _
        rw [hX]
        exact PureS.mk' (fun w' => ⟨v, (capA_run (ty := o.type) (w := w') k (args_rel hr args)).1, .lit (capA_run (ty := o.type) (w := w') k (args_rel hr args)).2⟩) w
      case min =>
        obtain ⟨k, rfl⟩ := pairM_some (show pairM μ (minmaxA false _) = some (v, μ') from h)
        refine ⟨rfl, fun _ hr w => ?_⟩
        obtain ⟨X, hX⟩ := hX _
        rw [hX]
        refine PureS.mk' (fun w' => ?_) w
        obtain ⟨h1, h2⟩ := minmax_run (P := P) (argTypes := argTypes) (ty := o.type) (w := w') k (args_rel hr args)
        exact ⟨v, by simpa using h1, .lit h2⟩
      case max =>
        obtain ⟨k, rfl⟩ := pairM_some (show pairM μ (minmaxA true _) = some (v, μ') from h)
        refine ⟨rfl, fun _ hr w => ?_⟩
        obtain ⟨X, hX⟩ := hX _
        rw [hX]
        refine PureS.mk' (fun w' => ?_) w
        obtain ⟨h1, h2⟩ := minmax_run (P := P) (argTypes := argTypes) (ty := o.type) (w := w') k (args_rel hr args)
        exact ⟨v, by simpa using h1, .lit h2⟩

theorem read_shape {o : Oper} (hk : kindOf P o = .read) : ∃ t x, o.op = .load t x := by
  unfold kindOf at hk
  cases ho : o.op <;> rw [ho] at hk <;> try (cases hk; done)
  case load t x => exact ⟨t, x, rfl⟩
  case convert s d x =>
    simp only at hk
    split at hk <;> cases hk
  case call c =>
    obtain ⟨callee, args, argTypes⟩ := c
    cases callee with
    | builtin b =>
      cases b <;> try (cases hk; done)
      case len =>
        simp only at hk
        split at hk <;> cases hk
    | _ => cases hk

theorem not_work_callee {o : Oper} (hk : isWork (kindOf P o) = false) : calleeOf o.op = none := by
  unfold calleeOf
  split
  · rename_i c ho
    split
    · rename_i f hf
      exfalso
      obtain ⟨callee, args, argTypes⟩ := c
      simp only at hf
      subst hf
      unfold kindOf at hk
      rw [ho] at hk
      cases hk
    · rfl
  · rfl

end Go.Vm
