/- Operations that make one new block of cells, whatever the memory. -/
import Derived.Test.YthmnbgapdlbbfaaGreatDoorVmDraw2
set_option linter.unusedSimpArgs false
set_option linter.unusedVariables false
namespace Go.Vm
open Go.RowKit

variable {P : Program}

def MkOk (mk : Addr → Value) : Prop := (∀ a, mk a = .pointer (some a)) ∨ ∃ n c : Nat, c < big ∧ n ≤ c ∧ ∀ a, mk a = .slice (some a) n c

theorem MkOk.rel {mk : Addr → Value} (h : MkOk mk) {ρ : Ren} {b : Nat} {p : Pl} (hp : ρ[b]? = some p) (h0 : p.2 = 0) : VRel ρ (mk ⟨b, 0, none⟩) (mk ⟨p.1, 0, none⟩) := by
  rcases h with h | ⟨n, c, h1, h2, h⟩
  · rw [h, h]
    have := VRel.ptr (o := 0) hp
    rw [h0] at this
    exact this
  · rw [h, h]
    have := VRel.exact (o := 0) (n := n) (c := c) hp h1 h2
    rw [h0] at this
    exact this

theorem newA_some {μ μ' : Mem} {e : Nat} {vs : List Value} {a : Addr} (h : newA μ e vs = some (a, μ')) : a = ⟨μ.size, 0, none⟩ ∧ μ' = μ.push (.cells vs true e) ∧ ∀ u ∈ vs, atomic u = true := by
  unfold newA at h
  split at h
  · rename_i hat
    injection h with h
    injection h with h1 h2
    exact ⟨h1.symm, h2.symm, List.all_eq_true.1 hat⟩
  · cases h

/-- The run: a new block. -/
def FreshS (P : Program) (ρ : Ren) (s : Sem Value) (mk : Addr → Value) (vs : List Value) : Prop :=
  ∀ w : World, ∃ (C : Array Value) (t : TypeId), s.run P w = .ok (mk ⟨w.heap.size, 0, none⟩) (w.alloc (.cells C t)) ∧ LRel ρ vs C.toList

theorem repl_rel {ρ : Ren} {z : Value} (hpz : plain z = true) {m : Nat} {Z : Array Value} (hZ : Z.toList = repl m z.cells.toList) : LRel ρ (repl m z.cells.toList) Z.toList := by
  rw [hZ]
  have hz1 := plain_cells_rel (ρ := ρ) hpz
  refine ⟨rfl, fun i u u' hu hu' => ?_⟩
  rw [hu] at hu'
  injection hu' with hu'
  subst hu'
  have hil : i < m * z.cells.toList.length := by
    rcases Nat.lt_or_ge i (m * z.cells.toList.length) with h | h
    · exact h
    · rw [List.getElem?_eq_none (by rw [(repl_get m z.cells.toList).1]; exact h)] at hu; cases hu
  rw [(repl_get m z.cells.toList).2 i hil] at hu
  exact hz1.2 _ u u hu hu

theorem allocA_fresh {μ μ' : Mem} {t : TypeId} {v : Value} (h : allocA P μ t = some (v, μ')) : ∃ mk vs, MkOk mk ∧ v = mk ⟨μ.size, 0, none⟩ ∧ μ' = μ.push (.cells vs true 0) ∧ (∀ u ∈ vs, atomic u = true) ∧
    ∀ (ρ : Ren) (old : Value), FreshS P ρ (Instr.alloc t true old) mk vs := by
  unfold allocA at h
  cases hz : zeroA P t with
  | none => simp [hz] at h
  | some z =>
    obtain ⟨_, _, _, hpz⟩ := zeroA_some hz
    simp only [hz, Option.bind_some, ptrM] at h
    cases hn : newA μ 0 z.cells.toList with
    | none => simp [hn] at h
    | some am =>
      obtain ⟨ad, μ2⟩ := am
      simp [hn] at h
      obtain ⟨rfl, rfl⟩ := h
      obtain ⟨rfl, rfl, hat⟩ := newA_some hn
      exact ⟨fun a => .pointer (some a), _, .inl fun _ => rfl, rfl, rfl, hat, fun ρ old w => ⟨z.cells, t, by simp [Instr.alloc, zeroA_run hz, newVar, newRow], plain_cells_rel hpz⟩⟩

theorem boxA_fresh {μ μ' : Mem} {t : TypeId} {x v : Value} (h : boxA μ x = some (v, μ')) : ∃ mk vs, MkOk mk ∧ v = mk ⟨μ.size, 0, none⟩ ∧ μ' = μ.push (.cells vs true 0) ∧ (∀ u ∈ vs, atomic u = true) ∧
    ∀ (ρ : Ren) (x' : Value), VRel ρ x x' → FreshS P ρ (Instr.box t x') mk vs := by
  unfold boxA at h
  split at h
  · rename_i hk
    simp only [ptrM] at h
    cases hn : newA μ 0 x.cells.toList with
    | none => simp [hn] at h
    | some am =>
      obtain ⟨ad, μ2⟩ := am
      simp [hn] at h
      obtain ⟨rfl, rfl⟩ := h
      obtain ⟨rfl, rfl, hat⟩ := newA_some hn
      exact ⟨fun a => .pointer (some a), _, .inl fun _ => rfl, rfl, rfl, hat, fun ρ x' hx w => ⟨x'.cells, t, by simp [Instr.box, newVar, newRow], cells_of hx hk⟩⟩
  · cases h

theorem makeSlice_fresh {μ μ' : Mem} {t : TypeId} {l c v : Value} (h : makeSliceA P μ t l c = some (v, μ')) : ∃ mk vs, MkOk mk ∧ v = mk ⟨μ.size, 0, none⟩ ∧ μ' = μ.push (.cells vs true 0) ∧ (∀ u ∈ vs, atomic u = true) ∧
    ∀ (ρ : Ren) (l' c' : Value), VRel ρ l l' → VRel ρ c c' → FreshS P ρ (Instr.makeSlice t l' c') mk vs := by
  unfold makeSliceA at h
  cases he : elemA P t with
  | none => simp [he] at h
  | some elem =>
    have hu := elemA_und he
    simp only [he, Option.bind_some] at h
    cases h1 : asNat l with
    | none => simp [h1] at h
    | some n =>
      simp only [h1, Option.bind_some] at h
      cases h2 : asNat c with
      | none => simp [h2] at h
      | some m =>
        simp only [h2, Option.bind_some] at h
        cases hs : szOf P elem with
        | none => simp [hs] at h
        | some sz =>
          simp only [hs, Option.bind_some] at h
          cases hb : bytesOf' P elem with
          | none => simp [hb] at h
          | some bs =>
            simp only [hb, Option.bind_some] at h
            cases hz : zeroA P elem with
            | none => simp [hz] at h
            | some z =>
              obtain ⟨_, _, _, hpz⟩ := zeroA_some hz
              simp only [hz, Option.bind_some] at h
              cases hcnd : (Nat.ble n m && Nat.ble (m * bs) (2 ^ 47) && Nat.ble m (2 ^ 47) && z.cells.size == sz) with
              | false => rw [hcnd, cond_false] at h; cases h
              | true =>
                rw [hcnd, cond_true] at h
                simp only [Bool.and_eq_true, beq_iff_eq] at hcnd
                obtain ⟨⟨⟨q1, q2⟩, q3⟩, q4⟩ := hcnd
                have q1 := Nat.le_of_ble_eq_true q1
                have q2 := Nat.le_of_ble_eq_true q2
                have q3 := Nat.le_of_ble_eq_true q3
                obtain ⟨i, hi, hi1, hi2⟩ := info_bytes hs hb
                cases hn : newA μ 0 (repl m z.cells.toList) with
                | none => simp [hn] at h
                | some am =>
                  obtain ⟨ad, μ2⟩ := am
                  simp [hn] at h
                  obtain ⟨rfl, rfl⟩ := h
                  obtain ⟨rfl, rfl, hat⟩ := newA_some hn
                  refine ⟨fun a => .slice (some a) n m, _, .inr ⟨n, m, by unfold big; omega, q1, fun _ => rfl⟩, rfl, rfl, hat, fun ρ l' c' hl hc w => ?_⟩
                  obtain ⟨k1, rfl, rfl⟩ := asNat_rel h1 hl
                  obtain ⟨k2, rfl, rfl⟩ := asNat_rel h2 hc
                  have wn : IntKind.i64.wrap (n : Int) = n := wrap_small (by omega)
                  have wm : IntKind.i64.wrap (m : Int) = m := wrap_small (by omega)
                  have t1 : ¬ ((281474976710656 : Int) < (bs : Int) * (m : Int)) := by
                    have : (bs : Int) * (m : Int) = ((m * bs : Nat) : Int) := by rw [Nat.mul_comm]; simp
                    rw [this]; omega
                  have t2 : ¬ (m < n) := by omega
                  have t3 : ¬ ((m : Int) < 0) := by omega
                  have t4 : ¬ ((n : Int) < 0) := by omega
                  by_cases h0 : m * sz = 0
                  · have e : (repl m z.cells.toList).length = 0 := by rw [(repl_get m z.cells.toList).1]; simp [q4, h0]
                    refine ⟨#[], elem, ?_, repl_rel hpz (by rw [List.length_eq_zero_iff.1 e])⟩
                    simp [Instr.makeSlice, und_run hu, asInt, asIntOf, typeInfo, sizeOf, hi, hi1, hi2, wn, wm, t1, t2, t3, t4, h0, newRow]
                    exact congrArg (fun c => w.alloc (.cells c elem)) (Array.ext' (by simp))
                  · refine ⟨(Array.range (m * z.cells.size)).map (z.cells[· % z.cells.size]!), elem, ?_, repl_rel hpz (range_zeros m z.cells)⟩
                    simp [Instr.makeSlice, und_run hu, asInt, asIntOf, typeInfo, sizeOf, hi, hi1, hi2, wn, wm, t1, t2, t3, t4, h0, newRow, zeroA_run hz, q4]

theorem buildSlice_fresh {μ μ' : Mem} {A : Regs} {t : TypeId} {len : Nat} {parts : Array (Nat × Operand)} {v : Value} (h : buildSliceA P μ t len (partsA A parts) = some (v, μ')) :
    ∃ mk vs, MkOk mk ∧ v = mk ⟨μ.size, 0, none⟩ ∧ μ' = μ.push (.cells vs true 0) ∧ (∀ u ∈ vs, atomic u = true) ∧
    ∀ (ρ : Ren) (a : Act), RRel ρ A a.tmps → FreshS P ρ (Instr.buildSlice t len (parts.map fun (i, x) => (i, a.eval x))) mk vs := by
  unfold buildSliceA at h
  cases he : elemA P t with
  | none => simp [he] at h
  | some elem =>
    have hu := elemA_und he
    simp only [he, Option.bind_some] at h
    cases hs : szOf P elem with
    | none => simp [hs] at h
    | some sz =>
      simp only [hs, Option.bind_some] at h
      cases hz : zeroA P elem with
      | none => simp [hz] at h
      | some z =>
        obtain ⟨_, _, _, hpz⟩ := zeroA_some hz
        simp only [hz, Option.bind_some] at h
        cases hc : (Nat.ble (len * sz) (2 ^ 24) && z.cells.size == sz && Nat.ble len (2 ^ 24)) with
        | false => rw [hc, cond_false] at h; cases h
        | true =>
          rw [hc, cond_true] at h
          simp only [Bool.and_eq_true, beq_iff_eq] at hc
          obtain ⟨⟨hc1, hc2⟩, hc3⟩ := hc
          have hc1 := Nat.le_of_ble_eq_true hc1
          have hc3 := Nat.le_of_ble_eq_true hc3
          cases hf : fillA (fun i => some (i * sz, sz)) (repl len z.cells.toList) (partsA A parts) with
          | none => simp [hf] at h
          | some r =>
            simp only [hf, Option.bind_some] at h
            cases hn : newA μ 0 r with
            | none => simp [hn] at h
            | some am =>
              obtain ⟨ad, μ2⟩ := am
              simp [hn] at h
              obtain ⟨rfl, rfl⟩ := h
              obtain ⟨rfl, rfl, hat⟩ := newA_some hn
              refine ⟨fun a => .slice (some a) len len, _, .inr ⟨len, len, by unfold big; omega, Nat.le_refl _, fun _ => rfl⟩, rfl, rfl, hat, fun ρ a hr w => ?_⟩
              have hzeros : ∃ Z : Array Value, (do let zero ← (if len * sz = 0 then pure #[] else do pure (← zeroValue elem).cells : Sem (Array Value)); pure ((Array.range (len * sz)).map (zero[· % zero.size]!)) : Sem (Array Value)).run P w = .ok Z w ∧ Z.toList = repl len z.cells.toList := by
                by_cases h0 : len * sz = 0
                · refine ⟨#[], by simp [h0], ?_⟩
                  have e : (repl len z.cells.toList).length = 0 := by rw [(repl_get len z.cells.toList).1]; simp [hc2, h0]
                  rw [List.length_eq_zero_iff.1 e]
                · refine ⟨(Array.range (len * z.cells.size)).map (z.cells[· % z.cells.size]!), by simp [h0, zeroA_run hz, hc2], range_zeros len z.cells⟩
              obtain ⟨Z, hZ1, hZ2⟩ := hzeros
              obtain ⟨R, h1, h2⟩ := fill_rel _ _ _ _ Z hf (repl_rel hpz hZ2) (partsA_rel hr parts)
              refine ⟨R, elem, ?_, h2⟩
              have hnot : ¬ (len * sz > 2 ^ 24) := by omega
              unfold Instr.buildSlice
              simp only [Sem.run_bind, und_run hu, szOf_run hs, Result.andThen_ok, Sem.run_ite, if_neg hnot]
              have hZ1' := hZ1
              simp only [Sem.run_bind] at hZ1'
              by_cases h0 : len * sz = 0
              · simp only [h0, if_true, Sem.run_pure, Result.andThen_ok] at hZ1' ⊢
                injection hZ1' with hZ1'
                rw [hZ1']
                simp at h1
                simp [h1, newRow]
              · simp only [h0, if_false, Sem.run_bind, zeroA_run hz, Sem.run_pure, Result.andThen_ok] at hZ1' ⊢
                injection hZ1' with hZ1'
                rw [hZ1']
                simp at h1
                simp [h1, newRow]

theorem fresh_sound {o : Oper} (hk : kindOf P o = .fresh) {A : Regs} {μ μ' : Mem} {v : Value} (h : opA P A μ o.op = some (v, μ')) :
    ∃ mk vs, MkOk mk ∧ v = mk ⟨μ.size, 0, none⟩ ∧ μ' = μ.push (.cells vs true 0) ∧ (∀ u ∈ vs, atomic u = true) ∧
    ∀ (ρ : Ren) (a : Act), RRel ρ A a.tmps → ∀ w : World, ∃ (C : Array Value) (t : TypeId), (execOp a.eval o).run P w = .ok (.value (mk ⟨w.heap.size, 0, none⟩)) (w.alloc (.cells C t)) ∧ LRel ρ vs C.toList := by
  have lift : ∀ {ρ : Ren} {s : Sem Value} {mk : Addr → Value} {vs : List Value}, FreshS P ρ s mk vs → ∀ w : World, ∃ (C : Array Value) (t : TypeId), (do pure (.value (← s)) : Sem Next).run P w = .ok (.value (mk ⟨w.heap.size, 0, none⟩)) (w.alloc (.cells C t)) ∧ LRel ρ vs C.toList := by
    intro ρ s mk vs h w
    obtain ⟨C, t, h1, h2⟩ := h w
    exact ⟨C, t, by simp [h1], h2⟩
  unfold execOp
  unfold kindOf at hk
  cases ho : o.op <;> rw [ho] at h hk <;> simp only [opA] at h ⊢ <;> try (first | (cases h; done) | (cases hk; done))
  case alloc t =>
    obtain ⟨mk, vs, h1, h2, h3, h4, h5⟩ := allocA_fresh h
    exact ⟨mk, vs, h1, h2, h3, h4, fun ρ a hr => lift (h5 ρ _)⟩
  case box t x =>
    obtain ⟨mk, vs, h1, h2, h3, h4, h5⟩ := boxA_fresh (t := t) h
    exact ⟨mk, vs, h1, h2, h3, h4, fun ρ a hr => lift (h5 ρ _ (hr.eval x))⟩
  case buildSlice t len parts =>
    obtain ⟨mk, vs, h1, h2, h3, h4, h5⟩ := buildSlice_fresh h
    exact ⟨mk, vs, h1, h2, h3, h4, fun ρ a hr => lift (h5 ρ a hr)⟩
  case makeSlice t l c =>
    obtain ⟨mk, vs, h1, h2, h3, h4, h5⟩ := makeSlice_fresh h
    exact ⟨mk, vs, h1, h2, h3, h4, fun ρ a hr => lift (h5 ρ _ _ (hr.eval l) (hr.eval c))⟩
  case convert s d x =>
    simp only at hk
    split at hk <;> cases hk
  case call c =>
    obtain ⟨callee, args, argTypes⟩ := c
    cases callee with
    | builtin b =>
      cases b <;> try (cases hk; done)
      case len =>
        simp only at hk
        split at hk <;> cases hk
    | _ => cases hk

end Go.Vm
