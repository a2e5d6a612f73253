/- The class tables as lists: the class of a character by search in halves. No program here. -/
import Derived.Test.YthmnbgapdlbbfaaGreatDoorVmTab
import Derived.Test.YthmnbgapdlbbfaaGreatDoorVmW
set_option linter.unusedSimpArgs false
set_option linter.unusedVariables false
namespace Go.Vm
/-- A table's cells. -/
def tabCells : List (Nat × Nat) → List Value
  | [] => []
  | p :: t => .int .i32 p.1 :: .int .u8 p.2 :: tabCells t
theorem tabCells_from : ∀ (t : List (Nat × Nat)) (i : Nat) (h : i < t.length), (tabCells t)[i * 2]? = some (.int .i32 (t[i].1 : Nat))
  | p :: t, 0, _ => rfl
  | p :: t, i + 1, h => by
    have := tabCells_from t i (by simpa using h)
    rw [show (i + 1) * 2 = i * 2 + 1 + 1 by omega]
    simpa [tabCells] using this
theorem tabCells_is : ∀ (t : List (Nat × Nat)) (i : Nat) (h : i < t.length), (tabCells t)[i * 2 + 1]? = some (.int .u8 (t[i].2 : Nat))
  | p :: t, 0, _ => rfl
  | p :: t, i + 1, h => by
    have := tabCells_is t i (by simpa using h)
    rw [show (i + 1) * 2 + 1 = i * 2 + 1 + 1 + 1 by omega]
    simpa [tabCells] using this

/-- Rising, and within bounds. -/
def risingB : List (Nat × Nat) → Bool
  | [] => true
  | [p] => Nat.blt p.1 1114112
  | p :: q :: t => Nat.blt p.1 q.1 && risingB (q :: t)
def okT (t : List (Nat × Nat)) : Bool := Nat.blt 0 t.length && Nat.blt t.length 100000 && risingB t && (match t with | p :: _ => Nat.beq p.1 0 | [] => false)

theorem rising_lt : ∀ (t : List (Nat × Nat)), risingB t = true → ∀ (i j : Nat) (hi : i < j) (hj : j < t.length), (t[i]'(by omega)).1 < t[j].1 := by
  intro t
  induction t with
  | nil => intro _ i j _ hj; simp at hj
  | cons p t ih =>
    intro h i j hi hj
    cases t with
    | nil => simp at hj; omega
    | cons q t =>
      simp only [risingB, Bool.and_eq_true] at h
      have h1 : p.1 < q.1 := by simpa using h.1
      have ih' := ih h.2
      cases j with
      | zero => omega
      | succ j =>
        cases i with
        | zero =>
          cases j with
          | zero => exact h1
          | succ j =>
            have := ih' 0 (j + 1) (by omega) (by simpa using hj)
            simp only [List.getElem_cons_zero, List.getElem_cons_succ] at this ⊢
            omega
        | succ i =>
          have := ih' i j (by omega) (by simpa using hj)
          simpa using this
theorem rising_top : ∀ (t : List (Nat × Nat)), risingB t = true → ∀ (i : Nat) (hi : i < t.length), t[i].1 < 1114112 := by
  intro t
  induction t with
  | nil => intro _ i hi; simp at hi
  | cons p t ih =>
    intro h i hi
    cases t with
    | nil =>
      simp at hi
      subst hi
      simpa [risingB] using h
    | cons q t =>
      simp only [risingB, Bool.and_eq_true] at h
      cases i with
      | zero =>
        have h1 : p.1 < q.1 := by simpa using h.1
        have := ih h.2 0 (by simp)
        simp only [List.getElem_cons_zero] at this ⊢
        omega
      | succ i => simpa using ih h.2 i (by simpa using hi)

theorem stepIn_at : ∀ (t : List (Nat × Nat)), risingB t = true → ∀ (is c i : Nat) (hi : i < t.length), t[i].1 ≤ c → (∀ (h : i + 1 < t.length), c < t[i + 1].1) →
    stepIn t is c = (t[i].2, if h : i + 1 < t.length then t[i + 1].1 - 1 else 0x10ffff) := by
  intro t
  induction t with
  | nil => intro _ is c i hi; simp at hi
  | cons p t ih =>
    intro h is c i hi h1 h2
    have hp : p.1 ≤ c := by
      cases i with
      | zero => exact h1
      | succ i =>
        have := rising_lt _ h 0 (i + 1) (by omega) hi
        simp only [List.getElem_cons_zero] at this
        omega
    unfold stepIn
    rw [if_neg (by omega)]
    cases i with
    | zero =>
      cases t with
      | nil => simp [stepIn]
      | cons q t =>
        have := h2 (by simp)
        simp only [List.getElem_cons_succ, List.getElem_cons_zero] at this
        unfold stepIn
        rw [if_pos this]
        simp
    | succ i =>
      have hr : risingB t = true := by
        cases t with
        | nil => rfl
        | cons q t => simp only [risingB, Bool.and_eq_true] at h; exact h.2
      have := ih hr p.2 c i (by simpa using hi) (by simpa using h1) (fun hh => by
        have := h2 (by simp; omega)
        simp only [List.getElem_cons_succ] at this
        exact this)
      rw [this]
      simp

theorem goodRune_lt (r : Int) : goodRune r < 1114112 := by
  unfold goodRune
  split
  · omega
  · omega
end Go.Vm
