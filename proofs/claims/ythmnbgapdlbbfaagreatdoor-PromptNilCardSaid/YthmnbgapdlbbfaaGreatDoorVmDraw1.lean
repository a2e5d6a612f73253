/- Regions that draw their order: what an order that was checked says; operations that neither write nor make blocks. -/
import Derived.Test.YthmnbgapdlbbfaaGreatDoorVmEv4
set_option linter.unusedSimpArgs false
set_option linter.unusedVariables false
namespace Go.Vm
open Go.RowKit

variable {P : Program}

/-! ### Of lists -/
theorem nodupB_spec : ∀ (l : List Nat), nodupB l = true → l.Nodup := by
  intro l
  induction l with
  | nil => intro _; exact List.nodup_nil
  | cons x l ih =>
    intro h
    simp only [nodupB, Bool.and_eq_true, Bool.not_eq_true'] at h
    exact List.nodup_cons.2 ⟨by simpa using h.1, ih h.2⟩

theorem ahead_iff {os d r : List Nat} {i j : Nat} (h : os = d ++ j :: r) (hn : os.Nodup) : ahead os i j = true ↔ i ∈ d := by
  subst h
  have hj : j ∉ d := fun hm => (List.nodup_append.1 hn).2.2 j hm j (by simp) rfl
  have e2 : (d ++ j :: r).idxOf j = d.length := by
    rw [List.idxOf_append, if_neg hj]
    simp
  unfold ahead
  rw [e2]
  constructor
  · intro h
    have h : (d ++ j :: r).idxOf i < d.length := by simpa using h
    rcases Decidable.em (i ∈ d) with hd | hd
    · exact hd
    · rw [List.idxOf_append, if_neg hd] at h; omega
  · intro h
    have : (d ++ j :: r).idxOf i < d.length := by
      rw [List.idxOf_append, if_pos h]
      exact List.idxOf_lt_length_of_mem h
    simpa using this
theorem ahead_irr (os : List Nat) (i : Nat) : ahead os i i = false := by
  unfold ahead; exact bltF (Nat.lt_irrefl _)
theorem ahead_asym {os : List Nat} {i j : Nat} (h : ahead os i j = true) : ahead os j i = false := by
  unfold ahead at *
  have : os.idxOf i < os.idxOf j := by simpa using h
  exact bltF (by omega)

theorem filter_le {α : Type} {p q : α → Bool} (h : ∀ x, q x = true → p x = true) : ∀ l : List α, (l.filter q).length ≤ (l.filter p).length := by
  intro l
  induction l with
  | nil => simp
  | cons x l ih =>
    simp only [List.filter_cons]
    cases hq : q x with
    | true => rw [h x hq]; simp; exact ih
    | false => cases p x <;> simp <;> omega
theorem filter_lt {α : Type} {p q : α → Bool} (h : ∀ x, q x = true → p x = true) {y : α} (hp : p y = true) (hq : q y = false) : ∀ l : List α, y ∈ l → (l.filter q).length < (l.filter p).length := by
  intro l
  induction l with
  | nil => intro hm; cases hm
  | cons x l ih =>
    intro hm
    simp only [List.filter_cons]
    rcases List.mem_cons.1 hm with rfl | hm
    · rw [hp, hq]
      have := filter_le h l
      simp; omega
    · have := ih hm
      cases hq' : q x with
      | true => rw [h x hq']; simp; exact this
      | false => cases p x <;> simp <;> omega

/-! ### What was checked -/
structure Plan (P : Program) (ops : List Oper) (pre : List (List Nat)) (pl : List (Nat × List Nat)) : Prop where
  nodup : (pl.map (·.1)).Nodup
  mem : ∀ i, i < ops.length → i ∈ pl.map (·.1)
  bef : ∀ i o, ops[i]? = some o → ∀ j ∈ preAt pre i, ∃ e ∈ o.after.toList, Region.binds .any e = true ∧ (e.on = j ∨ j ∈ preAt pre e.on)
  less : ∀ i o, ops[i]? = some o → ∀ e ∈ o.after.toList, Region.binds .any e = true → e.on < i
  dst : ∀ i j d, i < ops.length → j < ops.length → dstAt ops i = some d → dstAt ops j = some d → i = j
  looks : ∀ i d j, i < ops.length → d ∈ looksOf ops i → j < ops.length → i ≠ j → dstAt ops j = some d →
    (j ∈ preAt pre i ∧ ahead (pl.map (·.1)) j i = true) ∨ (i ∈ preAt pre j ∧ ahead (pl.map (·.1)) i j = true)
  work : ∀ a i, a < ops.length → i < ops.length → isWork (kindAt P ops a) = true → i ≠ a → ahead (pl.map (·.1)) i a = true ∨ a ∈ preAt pre i ∨ (kindAt P ops i = .fresh ∧ ∀ l, l < ops.length → i ∈ preAt pre l → a ∈ preAt pre l)
  mask : ∀ i ms l, (i, ms) ∈ pl → isWork (kindAt P ops i) = true → l ∈ pl.map (·.1) → ahead (pl.map (·.1)) l i = true → kindAt P ops l = .read → l ∈ preAt pre i ∨ l ∈ ms

theorem dstAt_lt {ops : List Oper} {i d : Nat} (h : dstAt ops i = some d) : i < ops.length := by
  unfold dstAt at h
  rcases Nat.lt_or_ge i ops.length with h' | h'
  · exact h'
  · rw [List.getElem?_eq_none h'] at h; cases h

theorem Plan.of_ok {ops : List Oper} {pre : List (List Nat)} {pl : List (Nat × List Nat)} (h : planOk P ops pre pl = true) : Plan P ops pre pl := by
  unfold planOk at h
  simp only [Bool.and_eq_true] at h
  obtain ⟨⟨⟨⟨⟨⟨h1, h2⟩, h3⟩, h4⟩, h5⟩, h6⟩, h7⟩ := h
  have lt_of : ∀ i o, ops[i]? = some o → i < ops.length := fun i o ho => by
    rcases Nat.lt_or_ge i ops.length with h' | h'
    · exact h'
    · rw [List.getElem?_eq_none h'] at ho; cases ho
  refine ⟨nodupB_spec _ h1, ?_, ?_, ?_, ?_, ?_, ?_, ?_⟩
  · intro i hi
    have := List.all_eq_true.1 h2 i (by simpa using hi)
    simpa using this
  · intro i o ho j hj
    have := List.all_eq_true.1 h3 i (by simpa using lt_of i o ho)
    simp only [ho, Bool.and_eq_true] at this
    have := List.all_eq_true.1 this.1 j hj
    obtain ⟨e, he, hb⟩ := List.any_eq_true.1 this
    simp only [Bool.and_eq_true, Bool.or_eq_true, beq_iff_eq] at hb
    exact ⟨e, he, hb.1, by simpa using hb.2⟩
  · intro i o ho e he hb
    have := List.all_eq_true.1 h3 i (by simpa using lt_of i o ho)
    simp only [ho, Bool.and_eq_true] at this
    have := List.all_eq_true.1 this.2 e he
    simpa [hb] using this
  · intro i j d hi hj hdi hdj
    have := List.all_eq_true.1 h4 i (by simpa using hi)
    have := List.all_eq_true.1 this j (by simpa using hj)
    simp only [hdi, hdj, Bool.or_eq_true, beq_iff_eq] at this
    rcases this with h | h
    · exact h
    · simp at h
  · intro i d j hi hd hj hne hdj
    have := List.all_eq_true.1 h5 i (by simpa using hi)
    have := List.all_eq_true.1 this d hd
    have := List.all_eq_true.1 this j (by simpa using hj)
    simp only [hdj, Bool.or_eq_true, Bool.and_eq_true, beq_iff_eq] at this
    rcases this with ((h | h) | h) | h
    · exact absurd h hne
    · simp at h
    · exact .inl ⟨by simpa using h.1, h.2⟩
    · exact .inr ⟨by simpa using h.1, h.2⟩
  · intro a i ha hi hw hne
    have := List.all_eq_true.1 h6 a (by simpa using ha)
    simp only [hw, Bool.not_true, Bool.false_or] at this
    have := List.all_eq_true.1 this i (by simpa using hi)
    simp only [Bool.or_eq_true, Bool.and_eq_true, beq_iff_eq] at this
    rcases this with ((h | h) | h) | h
    · exact absurd h hne
    · exact .inl h
    · exact .inr (.inl (by simpa using h))
    · refine .inr (.inr ⟨h.1, fun l hl hil => ?_⟩)
      have := List.all_eq_true.1 h.2 l (by simpa using hl)
      simpa [hil] using this
  · intro i ms l hm hw hl hal hk
    have := List.all_eq_true.1 h7 (i, ms) hm
    simp only [hw, Bool.not_true, Bool.false_or] at this
    have := List.all_eq_true.1 this l hl
    simp only [hal, hk, Bool.not_true, Bool.false_or, Bool.or_eq_true] at this
    rcases this with (h | h) | h
    · exact .inl (by simpa using h)
    · exact .inr (by simpa using h)
    · simp at h

/-! ### The same registers looked at -/
def Agree (ops : List Oper) (i : Nat) (A B : Regs) : Prop := ∀ d ∈ looksOf ops i, getR A d = getR B d

theorem agree_operand {ops : List Oper} {i : Nat} {o : Oper} (ho : ops[i]? = some o) {A B : Regs} (h : Agree ops i A B) : ∀ x ∈ o.op.operands, evA A x = evA B x := by
  intro x hx
  cases x with
  | tmp t =>
    refine h t ?_
    unfold looksOf
    rw [ho]
    refine List.mem_append_left _ (List.mem_filterMap.2 ⟨.tmp t, by simpa using hx, rfl⟩)
  | _ => rfl

theorem agree_guard {ops : List Oper} {i : Nat} {o : Oper} (ho : ops[i]? = some o) {A B : Regs} (h : Agree ops i A B) :
    guardOk ops A o = guardOk ops B o ∧ Region.wanted o (yieldedA ops A) = Region.wanted o (yieldedA ops B) := by
  unfold guardOk Region.wanted
  cases hg : o.guard with
  | none => exact ⟨rfl, rfl⟩
  | some x =>
    obtain ⟨j, want⟩ := x
    simp only
    unfold yieldedA
    cases hd : (ops[j]?).bind (·.dst) with
    | none => exact ⟨rfl, rfl⟩
    | some d =>
      have : getR A d = getR B d := by
        refine h d ?_
        unfold looksOf
        rw [ho]
        refine List.mem_append_right _ ?_
        simp only [hg]
        unfold dstAt
        rw [hd]
        simp
      simp only [this]
      exact ⟨trivial, trivial⟩

theorem partsA_congr {A B : Regs} {parts : Array (Nat × Operand)} (h : ∀ x ∈ (parts.toList.map (·.2)).toArray, evA A x = evA B x) : partsA A parts = partsA B parts := by
  unfold partsA
  refine List.map_congr_left fun y hy => ?_
  have := h y.2 (by simp only [List.mem_toArray, List.mem_map]; exact ⟨y, hy, rfl⟩)
  obtain ⟨i, x⟩ := y
  show (i, evA A x) = (i, evA B x)
  rw [this]

theorem args_congr {A B : Regs} {xs : Array Operand} (h : ∀ x ∈ xs, evA A x = evA B x) : xs.toList.map (evA A) = xs.toList.map (evA B) ∧ xs.map (evA A) = xs.map (evA B) :=
  ⟨List.map_congr_left fun x hx => h x (by simpa using hx), Array.map_congr_left h⟩

theorem optA_congr {A B : Regs} {x : Option Operand} (h : ∀ y, x = some y → evA A y = evA B y) : optA A x = optA B x := by
  cases x with
  | none => rfl
  | some y => simp [optA, h y rfl]

theorem opA_congr {A B : Regs} {μ : Mem} {op : Op} (h : ∀ x ∈ op.operands, evA A x = evA B x) : opA P A μ op = opA P B μ op := by
  cases op <;> simp only [opA] <;> try rfl
  case move x => rw [h x (by simp [Op.operands])]
  case assign x => rw [h x (by simp [Op.operands])]
  case pick c x y => rw [h c (by simp [Op.operands]), h x (by simp [Op.operands]), h y (by simp [Op.operands])]
  case box t x => rw [h x (by simp [Op.operands])]
  case build t parts => rw [partsA_congr h]
  case buildSlice t l parts => rw [partsA_congr h]
  case load t x => rw [h x (by simp [Op.operands])]
  case store t x y => rw [h x (by simp [Op.operands]), h y (by simp [Op.operands])]
  case nilCheck x => rw [h x (by simp [Op.operands])]
  case binOp op t x y k => rw [h x (by simp [Op.operands]), h y (by simp [Op.operands])]
  case unOp op t x => rw [h x (by simp [Op.operands])]
  case convert s d x => rw [h x (by simp [Op.operands])]
  case makeInterface t x => rw [h x (by simp [Op.operands])]
  case makeFunc fn first captured =>
    rw [(args_congr (xs := first) fun x hx => h x (by simp [Op.operands, hx])).2, (args_congr (xs := captured) fun x hx => h x (by simp [Op.operands, hx])).2]
  case makeSlice t l c => rw [h l (by simp [Op.operands]), h c (by simp [Op.operands])]
  case slice t x lo hi mx =>
    rw [h x (by simp [Op.operands]), optA_congr (x := lo) fun y hy => h y (by simp [Op.operands, hy]), optA_congr (x := hi) fun y hy => h y (by simp [Op.operands, hy]),
      optA_congr (x := mx) fun y hy => h y (by simp [Op.operands, hy])]
  case fieldAddr t x f => rw [h x (by simp [Op.operands])]
  case field t x f => rw [h x (by simp [Op.operands])]
  case indexAddr t x y => rw [h x (by simp [Op.operands]), h y (by simp [Op.operands])]
  case index t x y => rw [h x (by simp [Op.operands]), h y (by simp [Op.operands])]
  case lookup t x y ok => rw [h x (by simp [Op.operands]), h y (by simp [Op.operands])]
  case mapUpdate t m k x => rw [h m (by simp [Op.operands]), h k (by simp [Op.operands]), h x (by simp [Op.operands])]
  case insert t m k x => rw [h m (by simp [Op.operands]), h k (by simp [Op.operands]), h x (by simp [Op.operands])]
  case range t x => rw [h x (by simp [Op.operands])]
  case next x s => rw [h x (by simp [Op.operands])]
  case extract x i => rw [h x (by simp [Op.operands])]
  case call c =>
    unfold callA
    split
    · rw [(args_congr (xs := c.args) fun x hx => h x (by simp [Op.operands, Call.operands, hx])).1]
    · rfl

theorem operStep_congr {ih : Ev} {ro : Option Nat} {A B : Regs} {μ : Mem} {o : Oper} (h : ∀ x ∈ o.op.operands, evA A x = evA B x) : operStep P ih ro o A μ = operStep P ih ro o B μ := by
  unfold operStep
  split
  · rename_i f args hcal
    have hop : ∃ c : Call, o.op = .call c ∧ c.callee = .value f ∧ c.args = args := by
      unfold calleeOf at hcal
      split at hcal
      · rename_i c ho
        split at hcal
        · rename_i g hg
          injection hcal with hcal
          injection hcal with h1 h2
          subst h1
          exact ⟨c, ho, hg, h2⟩
        · cases hcal
      · cases hcal
    obtain ⟨c, ho, hcf, rfl⟩ := hop
    have hx : ∀ x ∈ c.operands, evA A x = evA B x := fun x hx => h x (by rw [ho]; exact hx)
    rw [hx f (by simp [Call.operands, hcf]), (args_congr (xs := c.args) fun x hxx => hx x (by simp [Call.operands, hxx])).1]
  · rw [opA_congr h]

end Go.Vm
