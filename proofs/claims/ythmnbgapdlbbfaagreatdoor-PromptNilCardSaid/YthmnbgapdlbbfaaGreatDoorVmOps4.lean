/- The operations that enter no function: operators, building, slicing. -/
import Derived.Test.YthmnbgapdlbbfaaGreatDoorVmOps3
set_option linter.unusedSimpArgs false
set_option linter.unusedVariables false
namespace Go.Vm
open Go.RowKit

variable {P : Program}

theorem eqGuard_none {op : BinOp} (w : World) (t : TypeId) (cx cy : Operand) {x y : Value} (h1 : ∀ xs, x ≠ .agg xs) (h2 : x ≠ .nilIface) : (eqGuard op t cx cy x y).run P w = .ok () w := by
  cases x <;> first | exact absurd rfl (h1 _) | exact absurd rfl h2 | (unfold eqGuard; split <;> simp)

theorem binOp_eql {w : World} {t : TypeId} {x y : Value} {b : Bool} (hi : vInt x = none) (hs : vStr x = none) (hf : ∀ k n, x ≠ .float k n) (hc : ∀ k n m, x ≠ .complex k n m)
    (h : (Op.equal t x y).run P w = .ok b w) : (binOp .eql t x y).run P w = .ok (.bool b) w := by
  have e : binOp .eql t x y = (do pure (.bool (← Op.equal t x y))) := by
    cases x <;> first | rfl | (simp [vInt] at hi; done) | (simp [vStr] at hs; done) | exact absurd rfl (hf _ _) | exact absurd rfl (hc _ _ _)
  rw [e]; simp [h]
theorem binOp_neq {w : World} {t : TypeId} {x y : Value} {b : Bool} (hi : vInt x = none) (hs : vStr x = none) (hf : ∀ k n, x ≠ .float k n) (hc : ∀ k n m, x ≠ .complex k n m)
    (h : (Op.equal t x y).run P w = .ok b w) : (binOp .neq t x y).run P w = .ok (.bool (!b)) w := by
  have e : binOp .neq t x y = (do pure (.bool (!(← Op.equal t x y)))) := by
    cases x <;> first | rfl | (simp [vInt] at hi; done) | (simp [vStr] at hs; done) | exact absurd rfl (hf _ _) | exact absurd rfl (hc _ _ _)
  rw [e]; simp [h]

theorem eqV_shape {n : Nat} {t : TypeId} {x y : Value} {b : Bool} (h : eqV P n t x y = some b) : (∀ k m, x ≠ .float k m) ∧ (∀ k m l, x ≠ .complex k m l) ∧ x ≠ .chan (some 0) := by
  refine ⟨fun k m e => ?_, fun k m l e => ?_, fun e => ?_⟩ <;>
  · subst e
    cases n with
    | zero => simp [eqV] at h
    | succ n =>
      unfold eqV at h
      split at h <;> simp [vBool, vInt, vStr, nilPtr, nilSlice, nilMap, nilFn, vAgg] at h

theorem cmpBin_run {w : World} {ρ : Ren} {op : BinOp} {t : TypeId} {cx cy : Operand} {x y x' y' v : Value} (hi : vInt x = none) (hs : vStr x = none) (h : cmpBin P op t x y = some v) (hx : VRel ρ x x') (hy : VRel ρ y y') :
    (do eqGuard op t cx cy x' y'; binOp op t x' y' : Sem Value).run P w = .ok v w ∧ litV v = true := by
  have key : ∀ b : Bool, eqA P t x y = some b → (Op.equal t x' y').run P w = .ok b w ∧ (eqGuard op t cx cy x' y').run P w = .ok () w ∧
      vInt x' = none ∧ vStr x' = none ∧ (∀ k n, x' ≠ .float k n) ∧ (∀ k n m, x' ≠ .complex k n m) := by
    intro b hb
    have gen : eqV P 6 t x y = some b → (Op.equal t x' y').run P w = .ok b w ∧ vInt x' = none ∧ vStr x' = none ∧ (∀ k n, x' ≠ .float k n) ∧ (∀ k n m, x' ≠ .complex k n m) := by
      intro he
      obtain ⟨s1, s2, s3⟩ := eqV_shape he
      refine ⟨eqV_run 6 10000 t x y x' y' b (by omega) he hx hy, ?_⟩
      cases hx with
      | top => exact absurd rfl s3
      | lit hl => exact ⟨hi, hs, s1, s2⟩
      | _ => exact ⟨rfl, rfl, fun _ _ => by simp, fun _ _ _ => by simp⟩
    unfold eqA at hb
    split at hb
    · rename_i xs
      cases hg : P.eqGuardType P.depth t with
      | true => simp [hg] at hb
      | false =>
        simp only [hg, cond_false] at hb
        obtain ⟨r1, r2, r3, r4, r5⟩ := gen hb
        refine ⟨r1, ?_, r2, r3, r4, r5⟩
        cases hx with
        | lit hl => cases hl
        | agg hsz hex =>
          cases y' <;> (unfold eqGuard; split <;> simp [hg])
    · cases hb
    · rename_i n1 n2
      obtain ⟨r1, r2, r3, r4, r5⟩ := gen hb
      refine ⟨r1, eqGuard_none w t cx cy ?_ ?_, r2, r3, r4, r5⟩
      · intro xs e
        subst e
        cases hx with
        | top => exact (eqV_shape hb).2.2 rfl
        | lit hl => cases hl
        | agg => exact n1 _ rfl
      · intro e
        subst e
        cases hx with
        | top => exact (eqV_shape hb).2.2 rfl
        | lit hl => exact n2 rfl
  cases op <;> simp only [cmpBin] at h <;> try (cases h; done)
  · cases he : eqA P t x y with
    | none => simp [he] at h
    | some b =>
      simp [he] at h; subst h
      obtain ⟨r1, r2, r3, r4, r5, r6⟩ := key b he
      exact ⟨by simp [r2, binOp_eql r3 r4 r5 r6 r1], rfl⟩
  · cases he : eqA P t x y with
    | none => simp [he] at h
    | some b =>
      simp [he] at h; subst h
      obtain ⟨r1, r2, r3, r4, r5, r6⟩ := key b he
      exact ⟨by simp [r2, binOp_neq r3 r4 r5 r6 r1], rfl⟩

theorem binA_run {w : World} {ρ : Ren} {op : BinOp} {t : TypeId} {cx cy : Operand} {x y x' y' v : Value} (h : binA P op t x y = some v) (hx : VRel ρ x x') (hy : VRel ρ y y') :
    (do eqGuard op t cx cy x' y'; binOp op t x' y' : Sem Value).run P w = .ok v w ∧ litV v = true := by
  unfold binA at h
  split at h
  · rename_i k a
    have e := hx.same rfl; subst e
    have hg : (eqGuard op t cx cy (.int k a) y').run P w = .ok () w := eqGuard_none w t cx cy (by simp) (by simp)
    split at h
    · cases h2 : vInt y with
      | none => simp [h2] at h
      | some c =>
        obtain ⟨k', c⟩ := c
        obtain ⟨_, rfl⟩ := vInt_rel h2 hy
        simp only [h2, Option.bind_some] at h
        have := shiftA_run (P := P) (w := w) (k' := k') h t
        simp only [if_true] at this
        exact ⟨by simp [hg, this.1], this.2⟩
    · cases h2 : vInt y with
      | none => simp [h2] at h
      | some c =>
        obtain ⟨k', c⟩ := c
        obtain ⟨_, rfl⟩ := vInt_rel h2 hy
        simp only [h2, Option.bind_some] at h
        have := shiftA_run (P := P) (w := w) (k' := k') h t
        simp only [Bool.false_eq_true, if_false] at this
        exact ⟨by simp [hg, this.1], this.2⟩
    · cases h2 : vInt y with
      | none => simp [h2] at h
      | some c =>
        obtain ⟨k', c⟩ := c
        obtain ⟨_, rfl⟩ := vInt_rel h2 hy
        simp only [h2, Option.bind_some] at h
        by_cases hk : k = k'
        · subst hk
          simp at h
          have := intBin_run (P := P) (w := w) h t
          exact ⟨by simp [hg, this.1], this.2⟩
        · have : (k == k') = false := by simp [hk]
          rw [this, cond_false] at h; cases h
  · rename_i a
    have e := hx.same rfl; subst e
    have hg : (eqGuard op t cx cy (.string a) y').run P w = .ok () w := eqGuard_none w t cx cy (by simp) (by simp)
    cases h2 : vStr y with
    | none => simp [h2] at h
    | some c =>
      obtain ⟨_, rfl⟩ := vStr_rel h2 hy
      simp only [h2, Option.bind_some] at h
      have := strBin_run (P := P) (w := w) h
      have hb : binOp op t (.string a) (.string c) = Op.stringOp op a c := by cases op <;> rfl
      refine ⟨by simp [hg, hb, this], ?_⟩
      cases op <;> simp only [strBin] at h <;> try (cases h; done)
      · cases hh : Nat.ble (a.size + c.size) (2 ^ 62) <;> rw [hh] at h <;> simp at h; subst h; rfl
      · injection h with h; subst h; rfl
      · injection h with h; subst h; rfl
  · rename_i n1 n2
    have hi : vInt x = none := by cases x <;> first | rfl | exact absurd rfl (n1 _ _)
    have hs : vStr x = none := by cases x <;> first | rfl | exact absurd rfl (n2 _)
    exact cmpBin_run hi hs h hx hy

theorem unA_run {w : World} {ρ : Ren} {op : UnOp} {x x' v : Value} (h : unA P op x = some v) (hx : VRel ρ x x') : (Op.unary op x').run P w = .ok v w := by
  unfold unA at h
  split at h
  · rename_i hp
    rw [hx.same hp]
    exact pureVal_run h w
  · cases h

end Go.Vm
