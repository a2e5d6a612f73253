/- class.find: the class of a character in a table. -/
import Derived.Test.YthmnbgapdlbbfaaGreatDoorSeatF
import Derived.Test.YthmnbgapdlbbfaaGreatDoorVmTabs
set_option linter.unusedSimpArgs false
set_option linter.unusedVariables false
open Go Go.Vm Go.Proofs
namespace Go.Vm.Seat
set_option maxRecDepth 100000
set_option maxHeartbeats 1000000
theorem find_ret {orc : Oracle} (ho : ∀ args μ, orc 280 args μ = none) {t : List (Nat × Nat)} {μ : Mem} {b c e : Nat} {wr : Bool} (hb : μ.blks[b]? = some (.cells (tabCells t) wr e)) (hok : okT t = true) (hl : μ.low ≤ big) (r : Int) :
    Ret Tryz.prog orc 280 [.slice (some ⟨b, 0, none⟩) t.length c, .int .i32 r] μ (.tuple #[.int .u8 (classOf t r).1, .int .i32 (classOf t r).2]) μ := by
  have hok' := hok
  unfold okT at hok'
  simp only [Bool.and_eq_true] at hok'
  obtain ⟨⟨⟨k1, k2⟩, k3⟩, k4⟩ := hok'
  have k1 : 0 < t.length := by simpa using k1
  have k2 : t.length < 100000 := by simpa using k2
  have hg := goodRune_lt r
  have h0 : t[0].1 ≤ goodRune r := by
    cases t with
    | nil => simp at k1
    | cons p t =>
      have : p.1 = 0 := by simpa using k4
      simp only [List.getElem_cons_zero]
      omega
  refine ret_of (WFn_enter Tryz.f280 _ Tryz.func280 rfl (ho _ _) (by rw [Tryz.ntmps280]; simp) (by rw [Tryz.ntmps280]; simp) ?_)
  rw [Tryz.ntmps280]
  have fin : ∀ (R : RF), (∃ lo : Nat, ∃ h : lo < t.length, R 4 = .int .u8 (t[lo].2 : Nat) ∧ R 5 = .int .i32 ((if h : lo + 1 < t.length then t[lo + 1].1 - 1 else 0x10ffff : Nat) : Int) ∧ t[lo].1 ≤ goodRune r ∧ (∀ (h : lo + 1 < t.length), goodRune r < t[lo + 1].1)) →
      retK Tryz.prog Tryz.f280 μ (fun u ν => u = .tuple #[.int .u8 (classOf t r).1, .int .i32 (classOf t r).2] ∧ ν = μ) .ret R { blks := μ.blks, low := big } := by
    rintro R ⟨lo, hlo, h4, h5, h6, h7⟩
    have hs := stepIn_at t k3 0 (goodRune r) lo hlo h6 h7
    refine retK_same (v := .tuple #[R 4, R 5]) rfl (by rw [h4, h5]; rfl) hl ⟨?_, rfl⟩
    rw [h4, h5]
    unfold classOf
    rw [hs]
  have hgr : (r < 0 ∧ goodRune r = 65533) ∨ (¬ r < 0 ∧ 1114111 < r ∧ goodRune r = 65533) ∨ (¬ r < 0 ∧ ¬ 1114111 < r ∧ 55296 ≤ r ∧ r ≤ 57343 ∧ goodRune r = 65533) ∨ (¬ r < 0 ∧ ¬ 1114111 < r ∧ 55296 ≤ r ∧ ¬ r ≤ 57343 ∧ (goodRune r : Int) = r) ∨ (¬ r < 0 ∧ ¬ 1114111 < r ∧ ¬ 55296 ≤ r ∧ (goodRune r : Int) = r) := by
    unfold goodRune
    split
    all_goals omega
  refine W_cut (fun R' μ' => μ' = ⟨μ.blks, big⟩ ∧ R' 0 = .slice (some ⟨b, 0, none⟩) t.length c ∧ R' 1 = .int .i32 r) (by
    simp -dsimp -implicitDefEqProofs only [go_sem, ↓reduceIte, Nat.reduceLT, Nat.reduceEqDiff, Nat.reduceAdd, Nat.reduceMul, Int.reduceEq, Int.reduceLT, Int.reduceLE, not_false_eq_true]
    exact ⟨trivial, trivial, trivial⟩) ?_
  rintro R μ1 ⟨rfl, e0, e1⟩
  refine W_cut (fun R' μ' => μ' = ⟨μ.blks, big⟩ ∧ R' 0 = .slice (some ⟨b, 0, none⟩) t.length c ∧ R' 1 = .int .i32 (goodRune r : Nat)) (by
    rcases hgr with ⟨a1, hgr⟩ | ⟨a1, a2, hgr⟩ | ⟨a1, a2, a3, a4, hgr⟩ | ⟨a1, a2, a3, a4, hgr⟩ | ⟨a1, a2, a3, hgr⟩
    · simp -dsimp -implicitDefEqProofs only [go_sem, ↓reduceIte, Nat.reduceLT, Nat.reduceEqDiff, Nat.reduceAdd, Nat.reduceMul, Int.reduceEq, Int.reduceLT, Int.reduceLE, not_false_eq_true, e0, e1, a1]
      rw [hgr]
      exact ⟨trivial, trivial, rfl⟩
    · simp -dsimp -implicitDefEqProofs only [go_sem, ↓reduceIte, Nat.reduceLT, Nat.reduceEqDiff, Nat.reduceAdd, Nat.reduceMul, Int.reduceEq, Int.reduceLT, Int.reduceLE, not_false_eq_true, e0, e1, a1, a2]
      rw [hgr]
      exact ⟨trivial, trivial, rfl⟩
    · simp -dsimp -implicitDefEqProofs only [go_sem, ↓reduceIte, Nat.reduceLT, Nat.reduceEqDiff, Nat.reduceAdd, Nat.reduceMul, Int.reduceEq, Int.reduceLT, Int.reduceLE, not_false_eq_true, e0, e1, a1, a2, a3, a4]
      rw [hgr]
      exact ⟨trivial, trivial, rfl⟩
    · simp -dsimp -implicitDefEqProofs only [go_sem, ↓reduceIte, Nat.reduceLT, Nat.reduceEqDiff, Nat.reduceAdd, Nat.reduceMul, Int.reduceEq, Int.reduceLT, Int.reduceLE, not_false_eq_true, e0, e1, a1, a2, a3, a4]
      rw [hgr]
      exact ⟨trivial, trivial, rfl⟩
    · simp -dsimp -implicitDefEqProofs only [go_sem, ↓reduceIte, Nat.reduceLT, Nat.reduceEqDiff, Nat.reduceAdd, Nat.reduceMul, Int.reduceEq, Int.reduceLT, Int.reduceLE, not_false_eq_true, e0, e1, a1, a2, a3]
      rw [hgr]
      exact ⟨trivial, trivial, rfl⟩) ?_
  clear e0 e1 R
  rintro R μ1 ⟨rfl, e0, e1⟩
  simp -dsimp -implicitDefEqProofs only [go_sem, ↓reduceIte, Nat.reduceLT, Nat.reduceEqDiff, Nat.reduceAdd, Nat.reduceMul, Int.reduceEq, Int.reduceLT, Int.reduceLE, not_false_eq_true, e0, e1]
  refine WLoop_inv (fun k R' μ' => μ' = ⟨μ.blks, big⟩ ∧ R' 0 = .slice (some ⟨b, 0, none⟩) t.length c ∧ R' 1 = .int .i32 (goodRune r : Nat) ∧ ∃ lo hi : Nat, k = hi - lo ∧ lo < hi ∧ hi ≤ t.length ∧ R' 6 = .int .i64 lo ∧ R' 7 = .int .i64 hi ∧ (∃ h : lo < t.length, t[lo].1 ≤ goodRune r) ∧ (∀ h : hi < t.length, goodRune r < t[hi].1)) ?_ (k := t.length) ⟨rfl, ?_, ?_, 0, t.length, by omega, by omega, Nat.le_refl _, ?_, ?_, ⟨k1, h0⟩, fun h => absurd h (Nat.lt_irrefl _)⟩
  · clear e0 e1 R
    rintro k R μ1 ⟨rfl, e0, e1, lo, hi, rfl, l1, l2, e6, e7, ⟨l3, l4⟩, l5⟩
    by_cases hc : 1 < hi - lo
    · have w1 : IntKind.i64.wrap ((hi : Int) - lo) = ((hi - lo : Nat) : Int) := by rw [wrap_i64] <;> omega
      have w2 : IntKind.i64.wrap ((lo : Int) + hi) = ((lo + hi : Nat) : Int) := by rw [wrap_i64] <;> omega
      have w3 : IntKind.i64.wrap (((lo + hi : Nat) : Int).tdiv 2) = (((lo + hi) / 2 : Nat) : Int) := by
        rw [show (((lo + hi : Nat) : Int).tdiv 2) = (((lo + hi) / 2 : Nat) : Int) from rfl, wrap_i64] <;> omega
      have c1 : (1 : Int) < ((hi - lo : Nat) : Int) := by omega
      have hm : (lo + hi) / 2 < t.length := by omega
      have c2 : Nat.blt ((lo + hi) / 2) t.length = true := bltT hm
      have hf := tabCells_from t _ hm
      by_cases hlt : goodRune r < t[(lo + hi) / 2].1
      · have c3 : (goodRune r : Int) < (t[(lo + hi) / 2].1 : Nat) := by omega
        simp -dsimp -implicitDefEqProofs only [go_sem, ↓reduceIte, Nat.reduceLT, Nat.reduceEqDiff, Nat.reduceAdd, Nat.reduceMul, Int.reduceEq, Int.reduceLT, Int.reduceLE, not_false_eq_true, e0, e1, e6, e7, w1, w2, w3, c1, c2, hb, hf, c3, Mem.get, cellsAt, Nat.zero_add, Nat.add_zero]
        exact ⟨(lo + hi) / 2 - lo, by omega, trivial, trivial, trivial, lo, (lo + hi) / 2, rfl, by omega, by omega, by first | trivial | rfl | omega, by first | trivial | rfl | omega, ⟨l3, l4⟩, fun _ => hlt⟩
      · have c3 : ¬ (goodRune r : Int) < (t[(lo + hi) / 2].1 : Nat) := by omega
        simp -dsimp -implicitDefEqProofs only [go_sem, ↓reduceIte, Nat.reduceLT, Nat.reduceEqDiff, Nat.reduceAdd, Nat.reduceMul, Int.reduceEq, Int.reduceLT, Int.reduceLE, not_false_eq_true, e0, e1, e6, e7, w1, w2, w3, c1, c2, hb, hf, c3, Mem.get, cellsAt, Nat.zero_add, Nat.add_zero]
        exact ⟨hi - (lo + hi) / 2, by omega, trivial, trivial, trivial, (lo + hi) / 2, hi, rfl, by omega, by omega, by first | trivial | rfl | omega, by first | trivial | rfl | omega, ⟨hm, by omega⟩, l5⟩
    · have w1 : IntKind.i64.wrap ((hi : Int) - lo) = ((hi - lo : Nat) : Int) := by rw [wrap_i64] <;> omega
      have c1 : ¬ (1 : Int) < ((hi - lo : Nat) : Int) := by omega
      have hlo : hi = lo + 1 := by omega
      subst hlo
      have c2 : Nat.blt lo t.length = true := bltT l3
      have hi2 := tabCells_is t _ l3
      by_cases hh : lo + 1 < t.length
      · have c4 : ((lo + 1 : Nat) : Int) < (t.length : Nat) := by omega
        have c5 : Nat.blt (lo + 1) t.length = true := bltT hh
        have hf := tabCells_from t _ hh
        have ht := rising_top t k3 _ hh
        have hz := rising_lt t k3 lo (lo + 1) (by omega) hh
        have w4 : IntKind.i32.wrap ((t[lo + 1].1 : Nat) - 1 : Int) = ((t[lo + 1].1 - 1 : Nat) : Int) := by rw [wrap_i32] <;> omega
        simp -dsimp -implicitDefEqProofs only [go_sem, ↓reduceIte, Nat.reduceLT, Nat.reduceEqDiff, Nat.reduceAdd, Nat.reduceMul, Int.reduceEq, Int.reduceLT, Int.reduceLE, not_false_eq_true, e0, e1, e6, e7, w1, c1, c4]
        refine xDraw_same (by kernel_rfl) ?_
        simp -dsimp -implicitDefEqProofs only [go_sem, ↓reduceIte, Nat.reduceLT, Nat.reduceEqDiff, Nat.reduceAdd, Nat.reduceMul, Int.reduceEq, Int.reduceLT, Int.reduceLE, not_false_eq_true, e0, e1, e6, e7, w1, c1, c2, c4, c5, hb, hi2, hf, w4, Mem.get, cellsAt, Nat.zero_add, Nat.add_zero]
        refine fin _ ⟨lo, l3, ?_, ?_, l4, l5⟩
        · simp -dsimp -implicitDefEqProofs only [go_sem, ↓reduceIte, Nat.reduceLT, Nat.reduceEqDiff, Nat.reduceAdd, Nat.reduceMul, Int.reduceEq, Int.reduceLT, Int.reduceLE, not_false_eq_true]
        · simp -dsimp -implicitDefEqProofs only [go_sem, ↓reduceIte, Nat.reduceLT, Nat.reduceEqDiff, Nat.reduceAdd, Nat.reduceMul, Int.reduceEq, Int.reduceLT, Int.reduceLE, not_false_eq_true]
          rw [dif_pos hh]
      · have c4 : ¬ ((lo + 1 : Nat) : Int) < (t.length : Nat) := by omega
        simp -dsimp -implicitDefEqProofs only [go_sem, ↓reduceIte, Nat.reduceLT, Nat.reduceEqDiff, Nat.reduceAdd, Nat.reduceMul, Int.reduceEq, Int.reduceLT, Int.reduceLE, not_false_eq_true, e0, e1, e6, e7, w1, c1, c2, c4, hb, hi2, Mem.get, cellsAt, Nat.zero_add, Nat.add_zero]
        refine fin _ ⟨lo, l3, ?_, ?_, l4, l5⟩
        · simp -dsimp -implicitDefEqProofs only [go_sem, ↓reduceIte, Nat.reduceLT, Nat.reduceEqDiff, Nat.reduceAdd, Nat.reduceMul, Int.reduceEq, Int.reduceLT, Int.reduceLE, not_false_eq_true]
        · simp -dsimp -implicitDefEqProofs only [go_sem, ↓reduceIte, Nat.reduceLT, Nat.reduceEqDiff, Nat.reduceAdd, Nat.reduceMul, Int.reduceEq, Int.reduceLT, Int.reduceLE, not_false_eq_true]
          rw [dif_neg hh]
          rfl
  · simp -dsimp -implicitDefEqProofs only [go_sem, ↓reduceIte, Nat.reduceLT, Nat.reduceEqDiff, Nat.reduceAdd, Nat.reduceMul, Int.reduceEq, Int.reduceLT, Int.reduceLE, not_false_eq_true, e0]
  · simp -dsimp -implicitDefEqProofs only [go_sem, ↓reduceIte, Nat.reduceLT, Nat.reduceEqDiff, Nat.reduceAdd, Nat.reduceMul, Int.reduceEq, Int.reduceLT, Int.reduceLE, not_false_eq_true, e1]
  · simp -dsimp -implicitDefEqProofs only [go_sem, ↓reduceIte, Nat.reduceLT, Nat.reduceEqDiff, Nat.reduceAdd, Nat.reduceMul, Int.reduceEq, Int.reduceLT, Int.reduceLE, not_false_eq_true]
    rfl
  · simp -dsimp -implicitDefEqProofs only [go_sem, ↓reduceIte, Nat.reduceLT, Nat.reduceEqDiff, Nat.reduceAdd, Nat.reduceMul, Int.reduceEq, Int.reduceLT, Int.reduceLE, not_false_eq_true]
end Go.Vm.Seat
