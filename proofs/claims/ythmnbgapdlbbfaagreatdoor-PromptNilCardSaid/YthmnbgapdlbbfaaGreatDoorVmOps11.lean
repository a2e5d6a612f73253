/- The operations that enter no function: all of them. -/
import Derived.Test.YthmnbgapdlbbfaaGreatDoorVmOps10
set_option linter.unusedSimpArgs false
set_option linter.unusedVariables false
namespace Go.Vm
open Go.RowKit

variable {P : Program}

theorem OpS.mkV {ρ : Ren} {μ μ' : Mem} {w : World} {s : Sem Value} {v : Value} (h : ∃ ρ' v' w', s.run P w = .ok v' w' ∧ VRel ρ' v v' ∧ Adv ρ μ w ρ' μ' w') :
    OpS P ρ μ w (do pure (.value (← s))) v μ' := by
  obtain ⟨ρ', v', w', h1, h2, h3⟩ := h
  exact ⟨ρ', v', w', .value v', by simp [h1], .inl rfl, h2, h3⟩

theorem OpS.mkU {ρ : Ren} {μ μ' : Mem} {w : World} {s : Sem Unit} (h : ∃ w', s.run P w = .ok () w' ∧ Adv ρ μ w ρ μ' w') :
    OpS P ρ μ w (do s; pure .skip) undef μ' := by
  obtain ⟨w', h1, h3⟩ := h
  exact ⟨ρ, undef, w', .skip, by simp [h1], .inr ⟨rfl, rfl⟩, undef_rel ρ, h3⟩

theorem OpS.mkE {ρ : Ren} {μ : Mem} {w : World} {s : Sem Value} {v : Value} (h : MRel ρ μ.blks w) (hr : ∃ v', s.run P w = .ok v' w ∧ VRel ρ v v') :
    OpS P ρ μ w (do pure (.value (← s))) v μ := by
  obtain ⟨v', h1, h2⟩ := hr
  exact OpS.valS h h1 h2

theorem args_rel {ρ : Ren} {A : Regs} {a : Act} (h : RRel ρ A a.tmps) (xs : Array Operand) : LRel ρ (xs.toList.map (evA A)) (xs.map a.eval).toList := by
  refine ⟨by simp, fun i u u' hu hu' => ?_⟩
  simp only [List.getElem?_map, Array.toList_map] at hu hu'
  cases hp : xs.toList[i]? with
  | none => simp [hp] at hu
  | some x =>
    simp [hp] at hu hu'
    subst hu hu'
    exact h.eval x

theorem optA_rel {ρ : Ren} {A : Regs} {a : Act} (h : RRel ρ A a.tmps) (x : Option Operand) : ORelV ρ (optA A x) (x.map a.eval) := by
  cases x with
  | none => exact .inl ⟨rfl, rfl⟩
  | some x => exact .inr ⟨_, _, rfl, rfl, h.eval x⟩

theorem builtinA_sound {ρ : Ren} {μ μ' : Mem} {w : World} (hm : MRel ρ μ.blks w) {b : Builtin} {argTypes : Array TypeId} {ty : TypeId} {consts : Array Bool} {args : List Value} {args' : Array Value} {v : Value}
    (h : builtinA P μ b argTypes args = some (v, μ')) (ha : LRel ρ args args'.toList) : OpS P ρ μ w (builtin b argTypes ty consts args') v μ' := by
  cases b <;> simp only [builtinA] at h <;> try (cases h; done)
  case append => exact .mkV (appendA_sound hm h ha)
  case copy =>
    obtain ⟨w', h1, h2, h3⟩ := copyA_sound (ty := ty) hm h ha
    exact .mkV ⟨ρ, v, w', h1, .lit h2, h3⟩
  case clear =>
    obtain ⟨w', h1, h2, h3⟩ := clearA_sound (ty := ty) hm h ha
    exact .mkV ⟨ρ, v, w', h1, by subst h2; exact .of_plain ρ rfl, h3⟩
  case len =>
    obtain ⟨k, rfl⟩ := pairM_some (show pairM μ (lenA P μ argTypes args) = some (v, μ') from h)
    obtain ⟨h1, h2⟩ := lenA_run (ty := ty) hm k ha
    exact .mkE hm ⟨v, h1, .lit h2⟩
  case cap =>
    obtain ⟨k, rfl⟩ := pairM_some (show pairM μ (capA P argTypes args) = some (v, μ') from h)
    obtain ⟨h1, h2⟩ := capA_run (ty := ty) (w := w) k ha
    exact .mkE hm ⟨v, h1, .lit h2⟩
  case min =>
    obtain ⟨k, rfl⟩ := pairM_some (show pairM μ (minmaxA false args) = some (v, μ') from h)
    obtain ⟨h1, h2⟩ := minmax_run (P := P) (argTypes := argTypes) (ty := ty) (w := w) k ha
    exact .mkE hm ⟨v, by simpa using h1, .lit h2⟩
  case max =>
    obtain ⟨k, rfl⟩ := pairM_some (show pairM μ (minmaxA true args) = some (v, μ') from h)
    obtain ⟨h1, h2⟩ := minmax_run (P := P) (argTypes := argTypes) (ty := ty) (w := w) k ha
    exact .mkE hm ⟨v, by simpa using h1, .lit h2⟩

theorem nilCheckA_shape {ρ : Ren} {x x' v : Value} (h : nilCheckA x = some v) (hx : VRel ρ x x') :
    v = x ∧ ((∃ p, x' = .pointer (some p)) ∨ (∃ f y z, x' = .func (.func f) y z) ∨ ∃ l y z, x' = .func (.yield l) y z) := by
  unfold nilCheckA at h
  split at h
  · injection h with h
    subst h
    cases hx with
    | lit h => simp [litV] at h
    | ptr h => exact ⟨rfl, .inl ⟨_, rfl⟩⟩
  · injection h with h
    subst h
    cases hx with
    | lit h => simp [litV] at h
    | func _ h1 h2 h3 h4 => exact ⟨rfl, .inr (.inl ⟨_, _, _, rfl⟩)⟩
    | fn g h => exact ⟨rfl, .inr (.inl ⟨_, _, _, rfl⟩)⟩
  · injection h with h
    subst h
    cases hx with
    | lit h => simp [litV] at h
    | yield h => exact ⟨rfl, .inr (.inr ⟨_, _, _, rfl⟩)⟩
    | fn g h => cases h
  · cases h

theorem funcA_rel {ρ : Ren} {A : Regs} {a : Act} (h : RRel ρ A a.tmps) {fn : Fn} {first captured : Array Operand} {v : Value} (hf : funcA fn (first.map (evA A)) (captured.map (evA A)) = some v) :
    VRel ρ v (.func fn (first.map a.eval) (captured.map a.eval)) := by
  unfold funcA at hf
  split at hf
  · injection hf with hf
    subst hf
    have e : ∀ (xs : Array Operand) (i : Nat) (u u' : Value), (xs.map (evA A))[i]? = some u → (xs.map a.eval)[i]? = some u' → VRel ρ u u' := by
      intro xs i u u' hu hu'
      simp only [Array.getElem?_map] at hu hu'
      cases hx : xs[i]? with
      | none => simp [hx] at hu
      | some x =>
        simp [hx] at hu hu'
        subst hu hu'
        exact h.eval x
    exact .func _ (by simp) (e first) (by simp) (e captured)
  · cases hf

theorem ifaceA_sound {ρ : Ren} {w : World} {t : TypeId} {x x' v : Value} (h : ifaceA P t x = some v) (hx : VRel ρ x x') : ∃ v', (Instr.makeInterface t x').run P w = .ok v' w ∧ VRel ρ v v' := by
  unfold ifaceA at h
  split at h
  · cases h
  · cases h
  · rename_i d hni hu
    split at h
    · injection h with h
      subst h
      refine ⟨.iface t x', ?_, .iface t hx⟩
      have hr := und_run hu w
      simp only [Instr.makeInterface, Sem.run_bind, hr, Result.andThen_ok]
      cases d <;> first | rfl | exact absurd rfl (hni _)
    · cases h

theorem extractA_sound {ρ : Ren} {w : World} {i : Nat} {x x' v : Value} (h : extractA x i = some v) (hx : VRel ρ x x') : ∃ v', (Instr.extract x' i).run P w = .ok v' w ∧ VRel ρ v v' := by
  unfold extractA at h
  split at h
  · rename_i vs
    cases hx with
    | lit h => simp [litV] at h
    | tuple hs ex =>
      rename_i vs'
      obtain ⟨u', h1, h2⟩ := (LRel.of_arrays hs ex).get h
      have h1 : vs'[i]? = some u' := by simpa using h1
      exact ⟨u', by simp [Instr.extract, h1], h2⟩
  · cases h

theorem unA_rel {ρ : Ren} {op : UnOp} {x v : Value} (h : unA P op x = some v) : VRel ρ v v := by
  unfold unA at h
  split at h
  · unfold Op.unary at h
    split at h <;> first
      | (injection h with h; subst h; exact .lit rfl)
      | (cases h; done)
  · cases h

theorem opA_sound {ρ : Ren} {μ μ' : Mem} {w : World} (hm : MRel ρ μ.blks w) {A : Regs} {a : Act} (hr : RRel ρ A a.tmps) {o : Oper} {v : Value} (h : opA P A μ o.op = some (v, μ')) :
    OpS P ρ μ w (execOp a.eval o) v μ' := by
  unfold execOp
  cases ho : o.op <;> rw [ho] at h <;> simp only [opA] at h ⊢ <;> try (cases h; done)
  case move x =>
    injection h with h
    injection h with h1 h2
    subst h1 h2
    exact .val hm rfl (hr.eval x)
  case assign x =>
    injection h with h
    injection h with h1 h2
    subst h1 h2
    exact .val hm rfl (hr.eval x)
  case pick c x y =>
    obtain ⟨k, rfl⟩ := pairM_some h
    unfold pickA at k
    split at k
    · rename_i t hc
      injection k with k
      subst k
      have := hr.eval c
      rw [hc] at this
      have e := this.same rfl
      refine .val hm (by simp [e, asBool]; rfl) ?_
      cases t
      · exact hr.eval y
      · exact hr.eval x
    · cases k
  case alloc t => exact .mkV (allocA_sound hm h _)
  case box t x => exact .mkV (boxA_sound hm h (hr.eval x))
  case build t parts =>
    obtain ⟨k, rfl⟩ := pairM_some h
    exact .mkE hm (build_run hr k)
  case buildSlice t len parts => exact .mkV (buildSlice_sound hm hr h)
  case load t x =>
    obtain ⟨k, rfl⟩ := pairM_some h
    exact .mkE hm (loadA_run hm k (hr.eval x))
  case store t x y =>
    unfold unitM at h
    cases hs : storeOp P μ t (evA A x) (evA A y) with
    | none => simp [hs] at h
    | some μ2 =>
      simp [hs] at h
      obtain ⟨rfl, rfl⟩ := h
      exact .mkU (storeOp_sound hm hs (hr.eval x) (hr.eval y))
  case nilCheck x =>
    obtain ⟨k, rfl⟩ := pairM_some h
    have hx := hr.eval x
    obtain ⟨e, hs⟩ := nilCheckA_shape k hx
    subst e
    rcases hs with ⟨p, e⟩ | ⟨f, y, z, e⟩ | ⟨l, y, z, e⟩ <;> rw [e] at hx ⊢ <;> exact .val hm rfl hx
  case binOp op t x y _ =>
    obtain ⟨k, rfl⟩ := pairM_some h
    obtain ⟨h1, h2⟩ := binA_run (cx := x) (cy := y) (w := w) k (hr.eval x) (hr.eval y)
    exact .mkE hm ⟨v, h1, .lit h2⟩
  case unOp op t x =>
    obtain ⟨k, rfl⟩ := pairM_some h
    have h1 := unA_run (w := w) k (hr.eval x)
    refine .mkE hm ⟨v, h1, ?_⟩
    exact unA_rel k
  case convert s d x => exact .mkV (convertA_sound hm h (hr.eval x))
  case makeInterface t x =>
    obtain ⟨k, rfl⟩ := pairM_some h
    exact .mkE hm (ifaceA_sound k (hr.eval x))
  case makeFunc fn first captured =>
    obtain ⟨k, rfl⟩ := pairM_some h
    exact .mkE hm ⟨_, rfl, funcA_rel hr k⟩
  case makeMap t r =>
    cases r with
    | some r => simp at h
    | none => exact .mkV (mapA_sound hm h)
  case makeSlice t l c => exact .mkV (makeSlice_sound hm h (hr.eval l) (hr.eval c))
  case slice t x lo hi mx =>
    obtain ⟨k, rfl⟩ := pairM_some h
    exact .mkE hm (sliceA_run hm k (hr.eval x) (optA_rel hr lo) (optA_rel hr hi) (optA_rel hr mx))
  case fieldAddr s x f =>
    obtain ⟨k, rfl⟩ := pairM_some h
    exact .mkE hm (fieldAddr_run k (hr.eval x))
  case field t x f =>
    obtain ⟨k, rfl⟩ := pairM_some h
    exact .mkE hm (field_run k (hr.eval x))
  case indexAddr t x i =>
    obtain ⟨k, rfl⟩ := pairM_some h
    exact .mkE hm (indexAddr_run k (hr.eval x) (hr.eval i))
  case index t x i =>
    obtain ⟨k, rfl⟩ := pairM_some h
    exact .mkE hm (index_run k (hr.eval x) (hr.eval i))
  case lookup t x k ok =>
    obtain ⟨h1, rfl⟩ := pairM_some h
    exact .mkE hm (lookupA_run hm h1 (hr.eval x) (hr.eval k))
  case mapUpdate t m k x =>
    unfold unitM at h
    cases hs : mapUpdateA P μ t (evA A m) (evA A k) (evA A x) with
    | none => simp [hs] at h
    | some μ2 =>
      simp [hs] at h
      obtain ⟨rfl, rfl⟩ := h
      exact .mkU (mapUpdateA_sound hm hs (hr.eval m) (hr.eval k) (hr.eval x))
  case insert t m k x =>
    unfold unitM at h
    cases hs : mapUpdateA P μ t (evA A m) (evA A k) (evA A x) with
    | none => simp [hs] at h
    | some μ2 =>
      simp [hs] at h
      obtain ⟨rfl, rfl⟩ := h
      exact .mkU (mapUpdateA_sound hm hs (hr.eval m) (hr.eval k) (hr.eval x))
  case range t x => exact .mkV (rangeA_sound hm h (hr.eval x))
  case next it s =>
    obtain ⟨w', h1, h2, h3⟩ := nextA_sound (t := o.type) hm h (hr.eval it)
    exact .mkV ⟨ρ, v, w', h1, .of_plain ρ h2, h3⟩
  case extract t i =>
    obtain ⟨k, rfl⟩ := pairM_some h
    exact .mkE hm (extractA_sound k (hr.eval t))
  case call c =>
    unfold callA at h
    split at h
    · rename_i b hc
      have hX : ∃ X, (do let d ← resolve a.eval c o.type; invoke d.target d.args : Sem Next) = builtin b c.argTypes o.type X (c.args.map a.eval) := ⟨_, by
        unfold resolve
        rw [hc]
        rfl⟩
      obtain ⟨X, hX⟩ := hX
      rw [hX]
      exact builtinA_sound hm h (args_rel hr c.args)
    · cases h

end Go.Vm
