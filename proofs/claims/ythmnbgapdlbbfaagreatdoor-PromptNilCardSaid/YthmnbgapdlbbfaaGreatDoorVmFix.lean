/- The evaluator without fuel: 'evw' satisfies its own equation, and what it tells is told with some fuel. -/
import Derived.Test.YthmnbgapdlbbfaaGreatDoorVmFrame
set_option linter.unusedSimpArgs false
set_option linter.unusedVariables false
namespace Go.Vm

abbrev Ask := Option Nat × Job × Mem × Out
def Told (f : Ev) (L : List Ask) : Prop := ∀ q ∈ L, f q.1 q.2.1 q.2.2.1 = some q.2.2.2
/-- What it tells leans on finitely many answers. -/
def FinUse {α : Type} (F : Ev → Option α) : Prop := ∀ f r, F f = some r → ∃ L, Told f L ∧ ∀ g, Told g L → F g = some r

theorem Told.nil (f : Ev) : Told f [] := fun _ hq => nomatch hq
theorem Told.append {f : Ev} {L M : List Ask} : Told f (L ++ M) ↔ Told f L ∧ Told f M := by
  unfold Told
  constructor
  · intro h
    exact ⟨fun q hq => h q (List.mem_append_left _ hq), fun q hq => h q (List.mem_append_right _ hq)⟩
  · rintro ⟨h1, h2⟩ q hq
    rcases List.mem_append.1 hq with h | h
    · exact h1 q h
    · exact h2 q h

theorem FinUse.const {α : Type} (x : Option α) : FinUse (fun _ => x) := fun f r h => ⟨[], Told.nil f, fun _ _ => h⟩
theorem FinUse.call (ro : Option Nat) (job : Job) (μ : Mem) : FinUse (fun f : Ev => f ro job μ) := fun f r h =>
  ⟨[(ro, job, μ, r)], fun q hq => by
    rw [List.mem_singleton] at hq
    subst hq
    exact h, fun g hg => hg (ro, job, μ, r) (by simp)⟩
theorem FinUse.bind {α β : Type} {F : Ev → Option α} {G : α → Ev → Option β} (hF : FinUse F) (hG : ∀ a, FinUse (G a)) : FinUse (fun f => (F f).bind fun a => G a f) := by
  intro f r h
  obtain ⟨a, ha, hb⟩ := Option.bind_eq_some_iff.1 h
  obtain ⟨L1, t1, k1⟩ := hF f a ha
  obtain ⟨L2, t2, k2⟩ := hG a f r hb
  refine ⟨L1 ++ L2, Told.append.2 ⟨t1, t2⟩, fun g hg => ?_⟩
  obtain ⟨g1, g2⟩ := Told.append.1 hg
  exact Option.bind_eq_some_iff.2 ⟨a, k1 g g1, k2 g g2⟩
theorem FinUse.of_eq {α : Type} {F G : Ev → Option α} (h : ∀ f, F f = G f) (hG : FinUse G) : FinUse F := by
  have : F = G := funext h
  rw [this]
  exact hG
theorem FinUse.ask {α : Type} {F : Ev → Option α} {ro : Option Nat} {job : Job} {μ : Mem} (G : Out → Ev → Option α) (h : ∀ f, F f = (f ro job μ).bind fun o => G o f) (hG : ∀ o, FinUse (G o)) : FinUse F :=
  .of_eq h (.bind (.call ro job μ) hG)

section
variable {P : Program}

theorem seq_fin (ro : Option Nat) (x y : Code) (A : Regs) (μ : Mem) : FinUse fun f => seqStep f ro x y A μ := by
  refine .ask (fun o f => match o with | (.normal, A', μ') => f ro (.code y A') μ' | r => some r) (ro := ro) (job := .code x A) (μ := μ) (fun f => ?_) fun o => ?_
  · unfold seqStep
    cases f ro (.code x A) μ with
    | none => rfl
    | some o => obtain ⟨e, A', μ'⟩ := o; cases e <;> rfl
  · obtain ⟨e, A', μ'⟩ := o
    cases e <;> first | exact FinUse.call _ _ _ | exact FinUse.const _

theorem loop_fin (ro : Option Nat) (body : Code) (A : Regs) (μ : Mem) : FinUse fun f => loopStep f ro body A μ := by
  refine .ask (fun o f => match o with | (.normal, A', μ') => f ro (.code (.loop body) A') μ' | r => some r) (ro := ro) (job := .code body A) (μ := μ) (fun f => ?_) fun o => ?_
  · unfold loopStep
    cases f ro (.code body A) μ with
    | none => rfl
    | some o => obtain ⟨e, A', μ'⟩ := o; cases e <;> rfl
  · obtain ⟨e, A', μ'⟩ := o
    cases e <;> first | exact FinUse.call _ _ _ | exact FinUse.const _

theorem block_fin (ro : Option Nat) (id : Nat) (body : Code) (A : Regs) (μ : Mem) : FinUse fun f => blockStep f ro id body A μ := by
  refine .ask (fun o f => match o with | (.exit id', A', μ') => some (if id' = id then .normal else .exit id', A', μ') | r => some r) (ro := ro) (job := .code body A) (μ := μ) (fun f => ?_) fun o => ?_
  · unfold blockStep
    cases f ro (.code body A) μ with
    | none => rfl
    | some o => obtain ⟨e, A', μ'⟩ := o; cases e <;> rfl
  · obtain ⟨e, A', μ'⟩ := o
    cases e <;> exact FinUse.const _

theorem scope_fin (ro : Option Nat) (whole cur : Code) (A : Regs) (μ : Mem) : FinUse fun f => scopeStep f ro whole cur A μ := by
  refine .ask (fun o f => match o with | (.goto l, A', μ') => (match findLabel whole l with | some rest => f ro (.scope whole rest A') μ' | none => some (.goto l, A', μ')) | r => some r) (ro := ro) (job := .code cur A) (μ := μ) (fun f => ?_) fun o => ?_
  · unfold scopeStep
    cases f ro (.code cur A) μ with
    | none => rfl
    | some o => obtain ⟨e, A', μ'⟩ := o; cases e <;> rfl
  · obtain ⟨e, A', μ'⟩ := o
    cases e with
    | goto l =>
      simp only
      cases findLabel whole l with
      | none => exact FinUse.const _
      | some rest => exact FinUse.call _ _ _
    | normal => exact FinUse.const _
    | exit => exact FinUse.const _
    | ret => exact FinUse.const _

theorem cond_fin (ro : Option Nat) (c : Value) (x y : Code) (A : Regs) (μ : Mem) : FinUse fun f => condStep f ro c x y A μ := by
  unfold condStep
  cases c <;> first | exact FinUse.call _ _ _ | exact FinUse.const _

theorem goCall_fin (ro : Option Nat) (g : Value) (args : List Value) (μ : Mem) : FinUse fun f => goCall f ro g args μ := by
  unfold goCall
  split <;> first | exact FinUse.call _ _ _ | exact FinUse.const _

theorem oper_fin (ro : Option Nat) (o : Oper) (A : Regs) (μ : Mem) : FinUse fun f => operStep P f ro o A μ := by
  unfold operStep
  split
  · exact goCall_fin _ _ _ _
  · exact FinUse.const _

theorem ops_fin (ro : Option Nat) (ops : List Oper) : ∀ (l : List Oper) (A : Regs) (μ : Mem), FinUse fun f => opsRun P f ro ops l A μ := by
  intro l
  induction l with
  | nil => intro A μ; exact FinUse.const _
  | cons o rest ih =>
    intro A μ
    unfold opsRun
    cases !guardOk ops A o with
    | true => exact FinUse.const _
    | false =>
      simp only [cond_false]
      cases Region.wanted o (yieldedA ops A) with
      | false => exact ih _ _
      | true =>
        simp only [cond_true]
        refine .of_eq (G := fun f => (operStep P f ro o A μ).bind fun (_, B, μ') => opsRun P f ro ops rest (putR A o.dst (getR B 0)) μ') (fun f => ?_) (.bind (oper_fin _ _ _ _) fun o => ih _ _)
        cases operStep P f ro o A μ with
        | none => rfl
        | some r => rfl

theorem draws_fin (ro : Option Nat) (ops : List Oper) : ∀ (pl : List (Nat × List Nat)) (lds : List Loaded) (A : Regs) (μ : Mem), FinUse fun f => drawRun P f ro ops pl lds A μ := by
  intro pl
  induction pl with
  | nil => intro lds A μ; exact FinUse.const _
  | cons p rest ih =>
    obtain ⟨i, ms⟩ := p
    intro lds A μ
    unfold drawRun
    cases ops[i]? with
    | none => exact FinUse.const _
    | some o =>
      simp only
      cases !guardOk ops A o with
      | true => exact FinUse.const _
      | false =>
        simp only [cond_false]
        cases Region.wanted o (yieldedA ops A) with
        | false => exact ih _ _ _
        | true =>
          simp only [cond_true]
          refine .of_eq (G := fun f => (operStep P f ro o A μ).bind fun (_, B, μ') => bif keepsA P μ' lds ms then drawRun P f ro ops rest (addLd i o A (getR B 0) lds) (putR A o.dst (getR B 0)) μ' else none) (fun f => ?_) (.bind (oper_fin _ _ _ _) fun r => ?_)
          · cases operStep P f ro o A μ with
            | none => rfl
            | some r => rfl
          · simp only
            cases keepsA P r.2.2 lds ms with
            | true => exact ih _ _ _
            | false => exact FinUse.const _

theorem range_fin (ro : Option Nat) (g : Operand) (ps : Array Tmp) (assign body : Code) (A : Regs) (μ : Mem) : FinUse fun f => rangeStep f ro g ps assign body A μ := by
  unfold rangeStep
  split
  · rename_i h first captured _
    cases roOk μ ro with
    | false => exact FinUse.const _
    | true =>
      simp only [cond_true]
      refine .ask (fun o _ => endRange μ.size A o.2.2) (ro := none) (job := .fn h (first.toList ++ [.func (.yield μ.size) #[] #[]] ++ captured.toList)) (μ := μ.push (.loop .ready none A ps assign body)) (fun f => ?_) fun o => FinUse.const _
      generalize f none _ _ = r
      cases r with
      | none => rfl
      | some o => rfl
  · exact FinUse.const _

theorem code_fin (ro : Option Nat) (c : Code) (A : Regs) (μ : Mem) : FinUse fun f => codeStep P f ro c A μ := by
  cases c with
  | region id ops draw =>
    unfold codeStep regionStep
    cases draw with
    | false => exact ops_fin _ _ _ _ _
    | true =>
      simp only [cond_true]
      cases planOf P ops.toList with
      | none => exact FinUse.const _
      | some pl => exact draws_fin _ _ _ _ _ _
  | seq x y => exact seq_fin _ _ _ _ _
  | cond c x y => exact cond_fin _ _ _ _ _ _
  | block id body => exact block_fin _ _ _ _ _
  | loop body => exact loop_fin _ _ _ _
  | rangeFunc g ps assign body => exact range_fin _ _ _ _ _ _ _
  | scope body => exact FinUse.call _ _ _
  | skip => exact FinUse.const _
  | label => exact FinUse.const _
  | exit => exact FinUse.const _
  | goto => exact FinUse.const _
  | ret => exact FinUse.const _
  | refuse => exact FinUse.const _

theorem fn_fin (orc : Oracle) (f : FuncId) (args : List Value) (μ : Mem) : FinUse fun g => fnStep P orc g f args μ := by
  unfold fnStep
  cases orc f args μ with
  | some r => exact FinUse.const _
  | none =>
    simp only
    cases P.funcs[f]? with
    | none => exact FinUse.const _
    | some fn =>
      simp only
      cases fn.body with
      | none => exact FinUse.const _
      | some c =>
        simp only
        split
        · exact FinUse.const _
        · refine .ask (fun o _ => match o with
            | (.normal, A', μ') | (.ret, A', μ') =>
              match resultsA P fn A' μ' with
              | some v =>
                match tidy μ.size v μ' with
                | (v', μ2) => some (.normal, one v', { μ2 with low := min μ.low μ'.low })
              | none => none
            | _ => none) (ro := none) (job := .code c ⟨fn.ntmps, loadR .e 0 args⟩) (μ := { μ with low := big }) (fun g => ?_) fun o => FinUse.const _
          dsimp only
          generalize g none _ _ = r
          cases r with
          | none => rfl
          | some o => obtain ⟨e, A', μ'⟩ := o; cases e <;> rfl

theorem bodyYield_fin (l : Nat) (body : Code) (A : Regs) (μ : Mem) : FinUse fun f => bodyYield f l body A μ := by
  unfold bodyYield
  split
  · rename_i pend tm ps assign body' _
    refine .ask (fun o _ => endYield l o.1 o.2.2) (ro := some l) (job := .code body A) (μ := μ.set l (.loop .busy pend tm ps assign body')) (fun f => ?_) fun o => FinUse.const _
    generalize f _ _ _ = r
    cases r with
    | none => rfl
    | some o => rfl
  · exact FinUse.const _

theorem yield_fin (l : Nat) (args : List Value) (μ : Mem) : FinUse fun f => yieldStep f l args μ := by
  unfold yieldStep
  split
  · rename_i st pend tm ps assign body _
    split
    · refine .ask (fun o f => match o with | (.normal, A1, μ1) => bodyYield f l body A1 μ1 | _ => none) (ro := some l) (job := .code assign (paramsA (ps.toList.zip args) tm)) (μ := μ) (fun f => ?_) fun o => ?_
      · generalize f _ _ _ = r
        cases r with
        | none => rfl
        | some o => obtain ⟨e, A', μ'⟩ := o; cases e <;> rfl
      · obtain ⟨e, A', μ'⟩ := o
        cases e <;> first | exact bodyYield_fin _ _ _ _ | exact FinUse.const _
    · exact FinUse.const _
  · exact FinUse.const _

theorem step_fin (orc : Oracle) (ro : Option Nat) (job : Job) (μ : Mem) : FinUse fun f => evStep P orc f ro job μ := by
  cases job with
  | code c A => exact code_fin _ _ _ _
  | scope w c A => exact scope_fin _ _ _ _ _
  | fn f args => exact fn_fin _ _ _ _
  | yield l args => exact yield_fin _ _ _

variable (P) in
theorem ev_succ (orc : Oracle) (n : Nat) : ev P orc (n + 1) = evStep P orc (ev P orc n) := rfl

theorem ev_more (orc : Oracle) : ∀ (n : Nat) (ro : Option Nat) (job : Job) (μ : Mem) (r : Out), ev P orc n ro job μ = some r → ev P orc (n + 1) ro job μ = some r := by
  intro n
  induction n with
  | zero => intro ro job μ r h; cases h
  | succ n ih =>
    intro ro job μ r h
    rw [ev_succ] at h
    obtain ⟨L, h1, h2⟩ := step_fin orc ro job μ _ _ h
    rw [ev_succ]
    exact h2 _ fun q hq => ih _ _ _ _ (h1 q hq)

theorem ev_mono (orc : Oracle) {n m : Nat} (h : n ≤ m) {ro : Option Nat} {job : Job} {μ : Mem} {r : Out} (hr : ev P orc n ro job μ = some r) : ev P orc m ro job μ = some r := by
  induction h with
  | refl => exact hr
  | step _ ih => exact ev_more orc _ _ _ _ _ ih

variable (P) in
/-- With as much fuel as it takes. -/
noncomputable def evw (orc : Oracle) : Ev := fun ro job μ =>
  open Classical in if h : ∃ r : Nat × Out, ev P orc r.1 ro job μ = some r.2 then some (Classical.choose h).2 else none

theorem evw_of {orc : Oracle} {n : Nat} {ro : Option Nat} {job : Job} {μ : Mem} {r : Out} (h : ev P orc n ro job μ = some r) : evw P orc ro job μ = some r := by
  have hx : ∃ r : Nat × Out, ev P orc r.1 ro job μ = some r.2 := ⟨(n, r), h⟩
  unfold evw
  rw [dif_pos hx]
  have hc := Classical.choose_spec hx
  have h1 := ev_mono orc (Nat.le_max_left n (Classical.choose hx).1) h
  have h2 := ev_mono orc (Nat.le_max_right n (Classical.choose hx).1) hc
  rw [h1] at h2
  exact h2.symm

theorem evw_fuel {orc : Oracle} {ro : Option Nat} {job : Job} {μ : Mem} {r : Out} (h : evw P orc ro job μ = some r) : ∃ n, ev P orc n ro job μ = some r := by
  unfold evw at h
  split at h
  · rename_i hx
    injection h with h
    exact ⟨_, h ▸ Classical.choose_spec hx⟩
  · cases h

theorem told_fuel {orc : Oracle} : ∀ L : List Ask, Told (evw P orc) L → ∃ n, Told (ev P orc n) L := by
  intro L
  induction L with
  | nil => intro _; exact ⟨0, Told.nil _⟩
  | cons q L ih =>
    intro h
    obtain ⟨n, hn⟩ := ih fun q hq => h q (List.mem_cons_of_mem _ hq)
    obtain ⟨m, hm⟩ := evw_fuel (h q (by simp))
    refine ⟨max n m, fun r hr => ?_⟩
    rcases List.mem_cons.1 hr with rfl | hr
    · exact ev_mono orc (Nat.le_max_right _ _) hm
    · exact ev_mono orc (Nat.le_max_left _ _) (hn r hr)

theorem evw_eq (orc : Oracle) (ro : Option Nat) (job : Job) (μ : Mem) : evw P orc ro job μ = evStep P orc (evw P orc) ro job μ := by
  have key : ∀ r, evw P orc ro job μ = some r ↔ evStep P orc (evw P orc) ro job μ = some r := by
    intro r
    constructor
    · intro h
      obtain ⟨n, hn⟩ := evw_fuel h
      cases n with
      | zero => cases hn
      | succ n =>
        obtain ⟨L, h1, h2⟩ := step_fin orc ro job μ _ _ (show evStep P orc (ev P orc n) ro job μ = some r from hn)
        exact h2 _ fun q hq => evw_of (h1 q hq)
    · intro h
      obtain ⟨L, h1, h2⟩ := step_fin orc ro job μ _ _ h
      obtain ⟨n, hn⟩ := told_fuel L h1
      exact evw_of (n := n + 1) (h2 _ hn)
  cases h1 : evw P orc ro job μ with
  | some r => exact ((key r).1 h1).symm
  | none =>
    cases h2 : evStep P orc (evw P orc) ro job μ with
    | none => rfl
    | some r => rw [(key r).2 h2] at h1; cases h1

end
end Go.Vm
