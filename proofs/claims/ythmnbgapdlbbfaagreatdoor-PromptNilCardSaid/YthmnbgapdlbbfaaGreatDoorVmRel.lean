/- The relation between the abstract machine's memory and a world of the model. -/
import Derived.Test.YthmnbgapdlbbfaaGreatDoorVmA
import Derived.Below
import Derived.Laws.NewBlocks
set_option linter.unusedSimpArgs false
set_option linter.unusedVariables false
namespace Go.Vm

/-! ### Registers -/
theorem beqF {a b : Nat} (h : a ≠ b) : Nat.beq a b = false := by
  cases hh : Nat.beq a b with
  | false => rfl
  | true => exact absurd (Nat.eq_of_beq_eq_true hh) h
theorem bltF {a b : Nat} (h : ¬ a < b) : Nat.blt a b = false := by
  cases hh : Nat.blt a b with
  | false => rfl
  | true => exact absurd (by simpa using hh) h
theorem bltT {a b : Nat} (h : a < b) : Nat.blt a b = true := by simpa using h
theorem RT.get_e (d i : Nat) : RT.get d .e i = undef := by cases d <;> rfl

theorem RT.get_set (d : Nat) : ∀ (t : RT) (i j : Nat) (x : Value), i + 1 < 2 ^ d → j + 1 < 2 ^ d →
    RT.get d (RT.set d t i x) j = if j = i then x else RT.get d t j := by
  induction d with
  | zero => intro t i j x hi; simp at hi
  | succ d ih =>
    intro t i j x hi hj
    have hp : 2 ^ (d + 1) = 2 * 2 ^ d := by rw [Nat.pow_succ, Nat.mul_comm]
    rw [hp] at hi hj
    have key : ∀ (l r : RT) (v : Value), RT.get (d + 1) (bif Nat.beq i 0 then .n l x r else bif Nat.beq (i % 2) 1 then .n (RT.set d l (i / 2) x) v r else .n l v (RT.set d r (i / 2 - 1) x)) j =
        if j = i then x else RT.get (d + 1) (.n l v r) j := by
      intro l r v
      rcases Nat.eq_zero_or_pos i with rfl | hi0
      · simp only [cond_true, show Nat.beq 0 0 = true from rfl]
        by_cases hj0 : j = 0
        · subst hj0; rfl
        · have hb : Nat.beq j 0 = false := beqF hj0
          simp [RT.get, hb, hj0]
      · have hb : Nat.beq i 0 = false := beqF (by omega)
        simp only [hb, cond_false]
        by_cases h1 : i % 2 = 1
        · have hb1 : Nat.beq (i % 2) 1 = true := by simp [h1]
          simp only [hb1, cond_true]
          by_cases hj0 : j = 0
          · subst hj0
            have : ¬ (0 = i) := by omega
            simp [RT.get, this]
          · have hbj : Nat.beq j 0 = false := beqF hj0
            by_cases hj1 : j % 2 = 1
            · have hbj1 : Nat.beq (j % 2) 1 = true := by simp [hj1]
              simp only [RT.get, hbj, cond_false, hbj1, cond_true]
              rw [ih _ _ _ _ (by omega) (by omega)]
              by_cases he : j = i
              · subst he; simp
              · rw [if_neg he, if_neg (by omega)]
            · have hbj1 : Nat.beq (j % 2) 1 = false := beqF hj1
              have he : j ≠ i := by intro e; subst e; exact hj1 h1
              simp only [RT.get, hbj, cond_false, hbj1]
              rw [if_neg he]
        · have hb1 : Nat.beq (i % 2) 1 = false := beqF h1
          simp only [hb1, cond_false]
          by_cases hj0 : j = 0
          · subst hj0
            have : ¬ (0 = i) := by omega
            simp [RT.get, this]
          · have hbj : Nat.beq j 0 = false := beqF hj0
            by_cases hj1 : j % 2 = 1
            · have hbj1 : Nat.beq (j % 2) 1 = true := by simp [hj1]
              have he : j ≠ i := by intro e; subst e; exact h1 hj1
              simp only [RT.get, hbj, cond_false, hbj1, cond_true]
              rw [if_neg he]
            · have hbj1 : Nat.beq (j % 2) 1 = false := beqF hj1
              simp only [RT.get, hbj, cond_false, hbj1]
              rw [ih _ _ _ _ (by omega) (by omega)]
              by_cases he : j = i
              · subst he; simp
              · rw [if_neg he, if_neg (by omega)]
    cases t with
    | e =>
      have := key .e .e undef
      simp only [RT.set]
      have e2 : RT.set d .e (i / 2 - 1) x = RT.set d .e (i / 2 - 1) x := rfl
      have h0 : (if j = i then x else RT.get (d + 1) RT.e j) = if j = i then x else RT.get (d + 1) (.n .e undef .e) j := by
        congr 1
        simp only [RT.get, RT.get_e]
        cases Nat.beq j 0 <;> cases Nat.beq (j % 2) 1 <;> rfl
      rw [h0, ← this]
    | n l v r => exact key l r v

theorem nt_setR (A : Regs) (i : Nat) (v : Value) : (setR A i v).nt = A.nt := by
  unfold setR; cases Nat.blt i A.nt <;> rfl
@[simp] theorem nt_putR (A : Regs) (d : Option Tmp) (v : Value) : (putR A d v).nt = A.nt := by
  cases d <;> simp [putR, nt_setR]

theorem getR_setR {A : Regs} (h : A.nt ≤ 4000) (i j : Nat) (v : Value) : getR (setR A i v) j = if j = i ∧ i < A.nt then v else getR A j := by
  unfold setR getR
  by_cases hi : i < A.nt
  · have hb : Nat.blt i A.nt = true := by simpa using hi
    simp only [hb, cond_true]
    by_cases hj : j < A.nt
    · have hbj : Nat.blt j A.nt = true := by simpa using hj
      simp only [hbj, cond_true]
      rw [RT.get_set 12 _ _ _ _ (by omega) (by omega)]
      simp [hi]
    · have hbj : Nat.blt j A.nt = false := bltF hj
      have : ¬ (j = i ∧ i < A.nt) := by omega
      simp [hbj, this]
  · have hb : Nat.blt i A.nt = false := bltF hi
    have : ¬ (j = i ∧ i < A.nt) := by omega
    simp [hb, this]

/-! ### Values -/
/-- Where an abstract block lies: the model's block, and the shift of its cells. -/
structure Pl where
  blk : Nat
  sh : Nat
  /-- so many of the model's cells lie behind the shift -/
  lim : Nat
  /-- an element's cells, where a slice's capacity is not known -/
  esz : Nat
abbrev Ren := List Pl

def litV : Value → Bool
  | .bool _ | .int _ _ | .float _ _ | .complex _ _ _ | .string _ | .nilFunc | .nilIface => true
  | .pointer a => a.isNone
  | .slice a _ _ => a.isNone
  | .map r => r.isNone
  | .chan r => r.isNone
  | _ => false

inductive VRel (ρ : Ren) : Value → Value → Prop
  | top (v : Value) : VRel ρ (.chan (some 0)) v
  | lit {v : Value} (h : litV v = true) : VRel ρ v v
  | ptr {b o : Nat} {p : Pl} (h : ρ[b]? = some p) : VRel ρ (.pointer (some ⟨b, o, none⟩)) (.pointer (some ⟨p.1, p.2 + o, none⟩))
  | exact {b o n c : Nat} {p : Pl} (h : ρ[b]? = some p) (hc : c < big) (hn : n ≤ c) : VRel ρ (.slice (some ⟨b, o, none⟩) n c) (.slice (some ⟨p.1, p.2 + o, none⟩) n c)
  | loose {b o n k a c : Nat} {p : Pl} (h : ρ[b]? = some p) (hn : n ≤ k) (hc : k ≤ c) (ha : 0 < k → a = p.2 + o) (hs : p.2 ≤ a) (hl : a + c * p.esz ≤ p.2 + p.lim) :
      VRel ρ (.slice (some ⟨b, o, none⟩) n (big + k)) (.slice (some ⟨p.1, a, none⟩) n c)
  | map {r : Nat} {p : Pl} (h : ρ[r]? = some p) : VRel ρ (.map (some r)) (.map (some p.1))
  | func (f : FuncId) {x x' y y' : Array Value} (hx : x.size = x'.size) (ex : ∀ (i : Nat) (u u' : Value), x[i]? = some u → x'[i]? = some u' → VRel ρ u u')
      (hy : y.size = y'.size) (ey : ∀ (i : Nat) (u u' : Value), y[i]? = some u → y'[i]? = some u' → VRel ρ u u') : VRel ρ (.func (.func f) x y) (.func (.func f) x' y')
  | yield {l : Nat} {p : Pl} (h : ρ[l]? = some p) : VRel ρ (.func (.yield l) #[] #[]) (.func (.yield p.1) #[] #[])
  | iface (t : TypeId) {v v' : Value} (h : VRel ρ v v') : VRel ρ (.iface t v) (.iface t v')
  | agg {x x' : Array Value} (hx : x.size = x'.size) (ex : ∀ (i : Nat) (u u' : Value), x[i]? = some u → x'[i]? = some u' → VRel ρ u u') : VRel ρ (.agg x) (.agg x')
  | tuple {x x' : Array Value} (hx : x.size = x'.size) (ex : ∀ (i : Nat) (u u' : Value), x[i]? = some u → x'[i]? = some u' → VRel ρ u u') : VRel ρ (.tuple x) (.tuple x')
  | fn (g : Fn) (h : (match g with | .yield _ => false | _ => true) = true) : VRel ρ (.func g #[] #[]) (.func g #[] #[])

/-- Lists, place by place. -/
def LRel (ρ : Ren) (x y : List Value) : Prop := x.length = y.length ∧ ∀ (i : Nat) (u u' : Value), x[i]? = some u → y[i]? = some u' → VRel ρ u u'

theorem LRel.nil (ρ : Ren) : LRel ρ [] [] := ⟨rfl, fun i u u' h => by simp at h⟩
theorem LRel.cons {ρ : Ren} {u u' : Value} {x y : List Value} (h : VRel ρ u u') (ht : LRel ρ x y) : LRel ρ (u :: x) (u' :: y) := by
  refine ⟨by simp [ht.1], fun i a b ha hb => ?_⟩
  cases i with
  | zero => simp at ha hb; subst ha hb; exact h
  | succ i => simp at ha hb; exact ht.2 i a b ha hb
theorem LRel.of_cons {ρ : Ren} {u : Value} {x y : List Value} (h : LRel ρ (u :: x) y) : ∃ u' y', y = u' :: y' ∧ VRel ρ u u' ∧ LRel ρ x y' := by
  cases y with
  | nil => exact absurd h.1 (by simp)
  | cons u' y' =>
    refine ⟨u', y', rfl, h.2 0 u u' rfl rfl, by have := h.1; simp at this; exact this, fun i a b ha hb => h.2 (i + 1) a b ?_ ?_⟩ <;> simpa
theorem LRel.of_nil {ρ : Ren} {y : List Value} (h : LRel ρ [] y) : y = [] := by
  have := h.1; simp at this; exact List.length_eq_zero_iff.1 this.symm
theorem LRel.append {ρ : Ren} {x x' y y' : List Value} (h : LRel ρ x y) (h' : LRel ρ x' y') : LRel ρ (x ++ x') (y ++ y') := by
  refine ⟨by simp [h.1, h'.1], fun i u u' hu hu' => ?_⟩
  by_cases hi : i < x.length
  · rw [List.getElem?_append_left hi] at hu
    rw [List.getElem?_append_left (h.1 ▸ hi)] at hu'
    exact h.2 i u u' hu hu'
  · rw [List.getElem?_append_right (by omega)] at hu
    rw [List.getElem?_append_right (by rw [← h.1]; omega), ← h.1] at hu'
    exact h'.2 _ u u' hu hu'
theorem LRel.take {ρ : Ren} {x y : List Value} (h : LRel ρ x y) (n : Nat) : LRel ρ (x.take n) (y.take n) := by
  refine ⟨by simp [h.1], fun i u u' hu hu' => ?_⟩
  simp only [List.getElem?_take] at hu hu'
  split at hu
  · rename_i hi; rw [if_pos hi] at hu'; exact h.2 i u u' hu hu'
  · cases hu
theorem LRel.drop {ρ : Ren} {x y : List Value} (h : LRel ρ x y) (n : Nat) : LRel ρ (x.drop n) (y.drop n) :=
  ⟨by simp [h.1], fun i u u' hu hu' => h.2 (n + i) u u' (by simpa using hu) (by simpa using hu')⟩
theorem LRel.get {ρ : Ren} {x y : List Value} (h : LRel ρ x y) {i : Nat} {u : Value} (hu : x[i]? = some u) : ∃ u', y[i]? = some u' ∧ VRel ρ u u' := by
  have hi : i < y.length := by
    have h1 := h.1
    have : i < x.length := by rcases Nat.lt_or_ge i x.length with h | h; exact h; rw [List.getElem?_eq_none h] at hu; cases hu
    omega
  exact ⟨y[i], by simp [hi], h.2 i u _ hu (by simp [hi])⟩

theorem VRel.agg_l {ρ : Ren} {x y : List Value} (h : LRel ρ x y) : VRel ρ (.agg x.toArray) (.agg y.toArray) :=
  .agg (by simp [h.1]) (fun i u u' hu hu' => h.2 i u u' (by simpa using hu) (by simpa using hu'))
theorem VRel.tuple_l {ρ : Ren} {x y : List Value} (h : LRel ρ x y) : VRel ρ (.tuple x.toArray) (.tuple y.toArray) :=
  .tuple (by simp [h.1]) (fun i u u' hu hu' => h.2 i u u' (by simpa using hu) (by simpa using hu'))
theorem LRel.of_arrays {ρ : Ren} {x x' : Array Value} (hx : x.size = x'.size) (ex : ∀ (i : Nat) (u u' : Value), x[i]? = some u → x'[i]? = some u' → VRel ρ u u') : LRel ρ x.toList x'.toList :=
  ⟨by simpa using hx, fun i u u' hu hu' => ex i u u' (by simpa using hu) (by simpa using hu')⟩

/-- A longer renaming relates what a shorter one did. -/
theorem VRel.mono {ρ ρ' : Ren} (hp : ∀ (b : Nat) (p : Pl), ρ[b]? = some p → ρ'[b]? = some p) {v v' : Value} (h : VRel ρ v v') : VRel ρ' v v' := by
  induction h with
  | top v => exact .top v
  | lit h => exact .lit h
  | ptr h => exact .ptr (hp _ _ h)
  | exact h hc hn => exact .exact (hp _ _ h) hc hn
  | loose h hn hc ha hs hl => exact .loose (hp _ _ h) hn hc ha hs hl
  | map h => exact .map (hp _ _ h)
  | func f hx _ hy _ ix iy => exact .func f hx ix hy iy
  | yield h => exact .yield (hp _ _ h)
  | iface t _ ih => exact .iface t ih
  | agg hx _ ih => exact .agg hx ih
  | tuple hx _ ih => exact .tuple hx ih
  | fn g h => exact .fn g h
theorem LRel.mono {ρ ρ' : Ren} (hp : ∀ (b : Nat) (p : Pl), ρ[b]? = some p → ρ'[b]? = some p) {x y : List Value} (h : LRel ρ x y) : LRel ρ' x y :=
  ⟨h.1, fun i u u' hu hu' => (h.2 i u u' hu hu').mono hp⟩

/-! What is plain is related to itself alone. -/
theorem plainN_rel (ρ : Ren) (n : Nat) : ∀ v, plainN n v = true → VRel ρ v v := by
  induction n with
  | zero => intro v h; simp [plainN] at h
  | succ n ih =>
    intro v h
    cases v with
    | iface t v => exact .iface t (ih v (by simpa [plainN] using h))
    | agg cs =>
      refine .agg rfl fun i u u' hu hu' => ?_
      rw [hu] at hu'; cases hu'
      simp only [plainN, List.all_eq_true] at h
      exact ih u (h u (by rw [Array.mem_toList_iff]; exact Array.mem_of_getElem? hu))
    | tuple cs =>
      refine .tuple rfl fun i u u' hu hu' => ?_
      rw [hu] at hu'; cases hu'
      simp only [plainN, List.all_eq_true] at h
      exact ih u (h u (by rw [Array.mem_toList_iff]; exact Array.mem_of_getElem? hu))
    | func fn first captured =>
      simp only [plainN, Bool.and_eq_true, Array.isEmpty_iff] at h
      obtain ⟨⟨h1, rfl⟩, rfl⟩ := h
      exact .fn fn h1
    | bool _ => exact .lit rfl
    | int _ _ => exact .lit rfl
    | float _ _ => exact .lit rfl
    | complex _ _ _ => exact .lit rfl
    | string _ => exact .lit rfl
    | nilFunc => exact .lit rfl
    | nilIface => exact .lit rfl
    | _ => exact .lit (by simpa [plainN, litV] using h)

theorem plainN_same {ρ : Ren} (n : Nat) : ∀ v v', plainN n v = true → VRel ρ v v' → v' = v := by
  induction n with
  | zero => intro v v' h; simp [plainN] at h
  | succ n ih =>
    intro v v' h hv
    cases hv with
    | top v => simp [plainN] at h
    | lit h => rfl
    | ptr h' => simp [plainN] at h
    | exact h' => simp [plainN] at h
    | loose h' => simp [plainN] at h
    | map h' => simp [plainN] at h
    | yield h' => simp [plainN] at h
    | func f hx ex hy ey =>
      simp only [plainN, Bool.and_eq_true, Array.isEmpty_iff] at h
      obtain ⟨⟨h1, rfl⟩, rfl⟩ := h
      have e1 := Array.eq_empty_of_size_eq_zero hx.symm
      have e2 := Array.eq_empty_of_size_eq_zero hy.symm
      rw [e1, e2]
    | iface t hh => rw [ih _ _ (by simpa [plainN] using h) hh]
    | agg hx ex =>
      rename_i x x'
      simp only [plainN, List.all_eq_true] at h
      congr 1
      apply Array.ext hx.symm
      intro i h1 h2
      exact ih _ _ (h _ (by simp)) (ex i x[i] x'[i] (by simp) (by simp))
    | tuple hx ex =>
      rename_i x x'
      simp only [plainN, List.all_eq_true] at h
      congr 1
      apply Array.ext hx.symm
      intro i h1 h2
      exact ih _ _ (h _ (by simp)) (ex i x[i] x'[i] (by simp) (by simp))
    | fn g h => rfl

theorem VRel.of_plain (ρ : Ren) {v : Value} (h : plain v = true) : VRel ρ v v := plainN_rel ρ 4 v h
theorem VRel.same {ρ : Ren} {v v' : Value} (h : VRel ρ v v') (hp : plain v = true) : v' = v := plainN_same 4 v v' hp h
/-- Under any renaming. -/
theorem VRel.plain_any {ρ ρ' : Ren} {v v' : Value} (h : VRel ρ v v') (hp : plain v = true) : VRel ρ' v v' := by
  rw [h.same hp]; exact .of_plain ρ' hp

theorem undef_rel (ρ : Ren) : VRel ρ undef undef := .of_plain ρ rfl

end Go.Vm
