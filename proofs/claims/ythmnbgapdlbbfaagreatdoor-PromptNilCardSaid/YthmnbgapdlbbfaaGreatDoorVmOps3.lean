/- The operations that enter no function: numbers, comparisons, building, slicing. -/
import Derived.Test.YthmnbgapdlbbfaaGreatDoorVmOps2
import Derived.Laws.StructEq
set_option linter.unusedSimpArgs false
set_option linter.unusedVariables false
namespace Go.Vm
open Go.RowKit

variable {P : Program}

theorem pureVal_run {α : Type} {s : Sem α} {a : α} (h : pureVal P s = some a) (w : World) : s.run P w = .ok a w := by
  induction s with
  | pure b => simp [pureVal] at h; subst h; rfl
  | program k ih => simp only [pureVal] at h; exact ih P h
  | _ => simp [pureVal] at h

theorem strEq_eq (a b : ByteArray) : strEq a b = (a == b) := by
  unfold strEq
  rw [beq_toListBytes, ByteArray.toList_eq, ByteArray.toList_eq]

theorem toList_data (a : ByteArray) : a.toList = a.data.toList := ByteArray.toList_eq a

theorem strBin_run {w : World} {op : BinOp} {a b : ByteArray} {v : Value} (h : strBin op a b = some v) : (Op.stringOp op a b).run P w = .ok v w := by
  cases op <;> simp only [strBin] at h <;> try (cases h; done)
  · -- add
    by_cases hs : a.size + b.size ≤ 2 ^ 62
    · have hb : Nat.ble (a.size + b.size) (2 ^ 62) = true := by simpa using hs
      rw [hb, cond_true] at h
      injection h with h
      subst h
      have : ¬ (((a.size + b.size : Nat) : Int) > IntKind.i64.max) := by simp [IntKind.max, IntKind.signed, IntKind.bits]; omega
      simp only [Op.stringOp]
      rw [if_neg this]
      simp
      cases a; cases b
      apply ByteArray.ext
      simp [ByteArray.data_append]
    · have hb : Nat.ble (a.size + b.size) (2 ^ 62) = false := by
        cases hh : Nat.ble (a.size + b.size) (2 ^ 62) with
        | false => rfl
        | true => exact absurd (Nat.le_of_ble_eq_true hh) hs
      rw [hb] at h; cases h
  · injection h with h
    subst h
    simp [Op.stringOp, strEq_eq, beq_toListBytes]
  · injection h with h
    subst h
    simp [Op.stringOp, strEq_eq, beq_toListBytes]

theorem intBin_run {w : World} {op : BinOp} {k : IntKind} {a b : Int} {v : Value} (h : intBin op k a b = some v) (x : TypeId) :
    (binOp op x (.int k a) (.int k b)).run P w = .ok v w ∧ litV v = true := by
  cases op <;> simp only [intBin] at h <;> try (cases h; done)
  case quo =>
    by_cases hb : b = 0
    · subst hb; simp at h
    · have : (b == 0) = false := by simp [hb]
      rw [this, cond_false] at h
      injection h with h; subst h
      exact ⟨by simp [binOp, Op.intDiv, hb], rfl⟩
  case rem =>
    by_cases hb : b = 0
    · subst hb; simp at h
    · have : (b == 0) = false := by simp [hb]
      rw [this, cond_false] at h
      injection h with h; subst h
      exact ⟨by simp [binOp, Op.intDiv, hb], rfl⟩
  all_goals (injection h with h; subst h; exact ⟨by simp [binOp, Op.intArith, Op.intCmp, Op.intBits, bne], rfl⟩)

theorem shiftA_run {w : World} {left : Bool} {k k' : IntKind} {a b : Int} {v : Value} (h : shiftA left k a b = some v) (x : TypeId) :
    (binOp (if left then .shl else .shr) x (.int k a) (.int k' b)).run P w = .ok v w ∧ litV v = true := by
  unfold shiftA at h
  by_cases hb : b < 0
  · simp [hb] at h
  · rw [decide_eq_false hb, cond_false] at h
    cases left <;> simp at h <;> subst h <;> exact ⟨by simp [binOp, Op.shift, hb], rfl⟩

theorem eqFs_run {w : World} {rec : TypeId → Value → Value → Option Bool} {ρ : Ren} {d : Nat}
    (hr : ∀ (t : TypeId) (x y x' y' : Value) (b : Bool), rec t x y = some b → VRel ρ x x' → VRel ρ y y' → (Op.equalIn d t x' y').run P w = .ok b w) :
    ∀ (fs : List Field) (xs ys : List Value) (X Y : Array Value) (b : Bool), eqFs P rec fs xs ys = some b → LRel ρ xs X.toList → LRel ρ ys Y.toList → (Op.eqFields d X Y fs).run P w = .ok b w := by
  intro fs
  induction fs with
  | nil => intro xs ys X Y b h _ _; simp [eqFs] at h; subst h; rfl
  | cons f fs ih =>
    intro xs ys X Y b h hX hY
    unfold eqFs at h
    unfold Op.eqFields
    by_cases hn : f.name = "_"
    · have : (f.name == "_") = true := by simp [hn]
      rw [this, cond_true] at h
      rw [if_neg (by simp [hn])]
      exact ih xs ys X Y b h hX hY
    · have : (f.name == "_") = false := by simp [hn]
      rw [this, cond_false] at h
      rw [if_pos hn]
      cases ha : partA P f.type xs f.offset with
      | none => simp [ha] at h
      | some a =>
        cases hb : partA P f.type ys f.offset with
        | none => simp [ha, hb] at h
        | some c =>
          simp only [ha, hb, Option.bind_some] at h
          obtain ⟨a', r1, v1⟩ := part_run (w := w) ha hX
          obtain ⟨c', r2, v2⟩ := part_run (w := w) hb hY
          cases hc : rec f.type a c with
          | none => simp [hc] at h
          | some r =>
            simp only [hc, Option.bind_some] at h
            have r3 := hr f.type a c a' c' r hc v1 v2
            simp only [Sem.run_bind, r1, r2, r3, Result.andThen_ok]
            cases r with
            | false => simp at h; subst h; simp
            | true => simp at h; simpa using ih xs ys X Y b h hX hY

theorem vBool_rel {ρ : Ren} {v v' : Value} {b : Bool} (h : vBool v = some b) (hv : VRel ρ v v') : v = .bool b ∧ v' = .bool b := by
  cases v with
  | bool s' => simp [vBool] at h; subst h; exact ⟨rfl, hv.same rfl⟩
  | _ => cases h

theorem fieldsOf_und {t : TypeId} {fs : Array Field} (h : und P t = some (.struct fs)) : P.fieldsOf t = fs := by
  have : P.underlying t = some (.struct fs) := h
  simp [Program.fieldsOf, this]

set_option maxHeartbeats 1000000 in
theorem nilPtr_run {w : World} {ρ : Ren} {d : Nat} {t : TypeId} {e : TypeId} {x y x' y' : Value} {b : Bool} (hr : (underlying t).run P w = .ok (.pointer e) w) (h : nilPtr x y = some b) (hx : VRel ρ x x') (hy : VRel ρ y y') :
    (Op.equalIn (d + 1) t x' y').run P w = .ok b w := by
  unfold nilPtr at h
  split at h
  · split at h <;> try (cases h; done)
    injection h with h; subst h
    have e1 := hx.same rfl; subst e1
    cases hy with
    | lit hl => simp [Op.equalIn, hr]
    | ptr hl => simp [Op.equalIn, hr]
  · split at h <;> try (cases h; done)
    injection h with h; subst h
    have e1 := hy.same rfl; subst e1
    cases hx with
    | lit hl => simp [litV] at hl
    | ptr hl => simp [Op.equalIn, hr]
  · cases h
set_option maxHeartbeats 1000000 in
theorem nilSlice_run {w : World} {ρ : Ren} {d : Nat} {t : TypeId} {e : TypeId} {x y x' y' : Value} {b : Bool} (hr : (underlying t).run P w = .ok (.slice e) w) (h : nilSlice x y = some b) (hx : VRel ρ x x') (hy : VRel ρ y y') :
    (Op.equalIn (d + 1) t x' y').run P w = .ok b w := by
  unfold nilSlice at h
  split at h
  · split at h <;> try (cases h; done)
    injection h with h; subst h
    have e1 := hx.same rfl; subst e1
    cases hy with
    | lit hl => simp [Op.equalIn, hr]
    | exact hl => simp [Op.equalIn, hr]
    | loose hl => simp [Op.equalIn, hr]
  · split at h <;> try (cases h; done)
    injection h with h; subst h
    have e1 := hy.same rfl; subst e1
    cases hx with
    | lit hl => simp [litV] at hl
    | exact hl => simp [Op.equalIn, hr]
    | loose hl => simp [Op.equalIn, hr]
  · cases h
set_option maxHeartbeats 1000000 in
theorem nilMap_run {w : World} {ρ : Ren} {d : Nat} {t : TypeId} {e1 e2 : TypeId} {x y x' y' : Value} {b : Bool} (hr : (underlying t).run P w = .ok (.map e1 e2) w) (h : nilMap x y = some b) (hx : VRel ρ x x') (hy : VRel ρ y y') :
    (Op.equalIn (d + 1) t x' y').run P w = .ok b w := by
  unfold nilMap at h
  split at h
  · split at h <;> try (cases h; done)
    injection h with h; subst h
    have e1 := hx.same rfl; subst e1
    cases hy with
    | lit hl => simp [Op.equalIn, hr]
    | map hl => simp [Op.equalIn, hr]
  · split at h <;> try (cases h; done)
    injection h with h; subst h
    have e1 := hy.same rfl; subst e1
    cases hx with
    | lit hl => simp [litV] at hl
    | map hl => simp [Op.equalIn, hr]
  · cases h
set_option maxHeartbeats 1000000 in
theorem nilFn_run {w : World} {ρ : Ren} {d : Nat} {t : TypeId} {ps rs : Array TypeId} {va : Bool} {x y x' y' : Value} {b : Bool} (hr : (underlying t).run P w = .ok (.func ps rs va) w) (h : nilFn x y = some b) (hx : VRel ρ x x') (hy : VRel ρ y y') :
    (Op.equalIn (d + 1) t x' y').run P w = .ok b w := by
  unfold nilFn at h
  split at h
  · split at h <;> try (cases h; done)
    · injection h with h; subst h
      have e1 := hx.same rfl; subst e1
      have e2 := hy.same rfl; subst e2
      simp [Op.equalIn, hr]
    · injection h with h; subst h
      have e1 := hx.same rfl; subst e1
      cases hy with
      | lit hl => simp [litV] at hl
      | func => simp [Op.equalIn, hr]
      | yield => simp [Op.equalIn, hr]
      | fn => simp [Op.equalIn, hr]
  · split at h <;> try (cases h; done)
    injection h with h; subst h
    have e1 := hy.same rfl; subst e1
    cases hx with
    | lit hl => simp [litV] at hl
    | func => simp [Op.equalIn, hr]
    | yield => simp [Op.equalIn, hr]
    | fn => simp [Op.equalIn, hr]
  · cases h
set_option maxHeartbeats 1000000 in
theorem eqV_run {w : World} {ρ : Ren} : ∀ (n d : Nat) (t : TypeId) (x y x' y' : Value) (b : Bool), n ≤ d → eqV P n t x y = some b → VRel ρ x x' → VRel ρ y y' → (Op.equalIn d t x' y').run P w = .ok b w := by
  intro n
  induction n with
  | zero => intro d t x y x' y' b _ h; simp [eqV] at h
  | succ n ih =>
    intro d t x y x' y' b hd h hx hy
    obtain ⟨d, rfl⟩ : ∃ e, d = e + 1 := ⟨d - 1, by omega⟩
    unfold eqV at h
    cases hu : und P t with
    | none => simp [hu] at h
    | some ty =>
      simp only [hu] at h
      have hr := und_run hu w
      cases ty <;> simp only at h <;> try (cases h; done)
      case bool =>
        cases h1 : vBool x with
        | none => simp [h1] at h
        | some a =>
          cases h2 : vBool y with
          | none => simp [h1, h2] at h
          | some c =>
            obtain ⟨_, rfl⟩ := vBool_rel h1 hx
            obtain ⟨_, rfl⟩ := vBool_rel h2 hy
            simp [h1, h2] at h
            subst h
            simp [Op.equalIn, hr]
      case int q =>
        cases h1 : vInt x with
        | none => simp [h1] at h
        | some a =>
          obtain ⟨k, a⟩ := a
          cases h2 : vInt y with
          | none => simp [h1, h2] at h
          | some c =>
            obtain ⟨k', c⟩ := c
            obtain ⟨_, rfl⟩ := vInt_rel h1 hx
            obtain ⟨_, rfl⟩ := vInt_rel h2 hy
            simp only [h1, h2, Option.bind_some] at h
            by_cases hk : k = k'
            · subst hk
              simp at h
              subst h
              simp [Op.equalIn, hr]
            · have : (k == k') = false := by simp [hk]
              rw [this, cond_false] at h; cases h
      case string =>
        cases h1 : vStr x with
        | none => simp [h1] at h
        | some a =>
          cases h2 : vStr y with
          | none => simp [h1, h2] at h
          | some c =>
            obtain ⟨_, rfl⟩ := vStr_rel h1 hx
            obtain ⟨_, rfl⟩ := vStr_rel h2 hy
            simp [h1, h2] at h
            subst h
            simp [Op.equalIn, hr, strEq_eq]
      case pointer e => exact nilPtr_run hr h hx hy
      case slice e => exact nilSlice_run hr h hx hy
      case map e1 e2 => exact nilMap_run hr h hx hy
      case func => exact nilFn_run hr h hx hy
      case struct fs =>
        cases hst : P.stoodInHeld t with
        | true => simp [hst] at h
        | false =>
          simp only [hst, cond_false] at h
          cases h1 : vAgg x with
          | none => simp [h1] at h
          | some xs =>
            cases h2 : vAgg y with
            | none => simp [h1, h2] at h
            | some ys =>
              obtain ⟨X, rfl, hX⟩ := vAgg_rel h1 hx
              obtain ⟨Y, rfl, hY⟩ := vAgg_rel h2 hy
              simp only [h1, h2, Option.bind_some] at h
              have hf := fieldsOf_und hu
              rw [run_equalIn_struct w d t X Y (by rw [hf]; exact hu) hst, hf]
              exact eqFs_run (fun t x y x' y' b hb hx hy => ih d t x y x' y' b (by omega) hb hx hy) fs.toList xs ys X Y b h hX hY

end Go.Vm
