/- The same values; loads looked at again. -/
import Derived.Test.YthmnbgapdlbbfaaGreatDoorVmFresh
set_option linter.unusedSimpArgs false
set_option linter.unusedVariables false
namespace Go.Vm
open Go.RowKit

variable {P : Program}

theorem sameL_eq {n : Nat} (ih : ∀ v u, sameV n v u = true → u = v) : ∀ x y : List Value, sameV.sameL n x y = true → y = x := by
  intro x
  induction x with
  | nil => intro y h; cases y with | nil => rfl | cons b y => simp [sameV.sameL] at h
  | cons a x ihx =>
    intro y h
    cases y with
    | nil => simp [sameV.sameL] at h
    | cons b y =>
      simp only [sameV.sameL, Bool.and_eq_true] at h
      rw [ih _ _ h.1, ihx _ h.2]

theorem strEq_same {a b : ByteArray} (h : strEq a b = true) : b = a := by
  unfold strEq at h
  simp only [beq_iff_eq] at h
  cases a; cases b
  congr 1
  exact (Array.ext' h).symm

theorem sameV_eq : ∀ (n : Nat) (v u : Value), sameV n v u = true → u = v := by
  intro n
  induction n with
  | zero => intro v u h; simp [sameV] at h
  | succ n ih =>
    intro v u h
    unfold sameV at h
    split at h <;> first
      | (cases h; done)
      | rfl
      | (simp only [Bool.and_eq_true, beq_iff_eq] at h; simp [h]; done)
      | (rw [strEq_same h]; done)
      | skip
    · rename_i hn
      injection hn with e
      subst e
      simp only [Bool.and_eq_true, beq_iff_eq] at h
      obtain ⟨⟨h1, h2⟩, h3⟩ := h
      have e2 := Array.ext' (sameL_eq ih _ _ h2)
      have e3 := Array.ext' (sameL_eq ih _ _ h3)
      rw [h1, e2, e3]
    · rename_i hn
      injection hn with e
      subst e
      simp only [Bool.and_eq_true, beq_iff_eq] at h
      rw [h.1, ih _ _ h.2]
    · rename_i hn
      injection hn with e
      subst e
      have e := Array.ext' (sameL_eq ih _ _ h)
      rw [e]

theorem keepsA_spec {μ : Mem} {lds : List Loaded} {ms : List Nat} (h : keepsA P μ lds ms = true) {l : Nat} {t : TypeId} {ad v : Value} (hm : (l, t, ad, v) ∈ lds) (hl : l ∈ ms) : loadA P μ t ad = some v := by
  unfold keepsA at h
  have := List.all_eq_true.1 h _ hm
  simp only [Bool.or_eq_true, Bool.not_eq_true'] at this
  rcases this with h | h
  · simp [hl] at h
  · split at h
    · rename_i u hu
      rw [hu, sameV_eq 6 v u h]
    · cases h

end Go.Vm
