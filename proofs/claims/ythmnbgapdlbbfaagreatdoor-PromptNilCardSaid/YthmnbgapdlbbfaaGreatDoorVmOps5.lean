/- The operations that enter no function: building structs and slices. -/
import Derived.Test.YthmnbgapdlbbfaaGreatDoorVmOps4
set_option linter.unusedSimpArgs false
set_option linter.unusedVariables false
namespace Go.Vm
open Go.RowKit

variable {P : Program}

/-! ### Building -/
theorem foldl_set (off : Nat) : ∀ (l : List Value) (k : Nat) (C : Array Value),
    ((l.zipIdx k).foldl (fun cs (x : Value × Nat) => cs.setIfInBounds (off + x.2) x.1) C).size = C.size ∧
    ∀ i, i < C.size → ((l.zipIdx k).foldl (fun cs (x : Value × Nat) => cs.setIfInBounds (off + x.2) x.1) C)[i]? = if off + k ≤ i ∧ i < off + k + l.length then l[i - (off + k)]? else C[i]? := by
  intro l
  induction l with
  | nil => intro k C; refine ⟨rfl, fun i _ => ?_⟩; rw [if_neg (by simp)]; rfl
  | cons v l ih =>
    intro k C
    obtain ⟨h1, h2⟩ := ih (k + 1) (C.setIfInBounds (off + k) v)
    rw [List.zipIdx_cons, List.foldl_cons]
    refine ⟨by rw [h1]; simp, fun i hi => ?_⟩
    rw [h2 i (by simpa using hi)]
    simp only [List.length_cons, Array.getElem?_setIfInBounds]
    by_cases ha : off + (k + 1) ≤ i ∧ i < off + (k + 1) + l.length
    · rw [if_pos ha, if_pos (by omega), show i - (off + k) = (i - (off + (k + 1))) + 1 by omega, List.getElem?_cons_succ]
    · rw [if_neg ha]
      by_cases hb : off + k = i
      · subst hb
        rw [if_pos rfl, if_pos (by omega)]
        simp
      · rw [if_neg hb, if_neg (by omega)]

theorem foldl_set_writeAt {C : Array Value} {c' : List Value} {off : Nat} {l : List Value} (h : writeAt C.toList off l = some c') :
    (l.zipIdx.foldl (fun cs (x : Value × Nat) => cs.setIfInBounds (off + x.2) x.1) C).toList = c' := by
  obtain ⟨w1, w2, w3, w4⟩ := writeAt_some h
  obtain ⟨h1, h2⟩ := foldl_set off l 0 C
  apply List.ext_getElem?
  intro i
  simp only [Array.getElem?_toList]
  simp only [Array.length_toList] at w1 w2
  rcases Nat.lt_or_ge i C.size with hi | hi
  · rw [h2 i hi]
    by_cases hc : off + 0 ≤ i ∧ i < off + 0 + l.length
    · rw [if_pos hc]
      obtain ⟨j, rfl⟩ : ∃ j, i = off + j := ⟨i - off, by omega⟩
      rw [w4 j (by omega)]
      congr 1
      omega
    · rw [if_neg hc, w3 i (by omega)]
      simp
  · rw [Array.getElem?_eq_none (by rw [h1]; exact hi), List.getElem?_eq_none (by omega)]

theorem writeAt_rel {ρ : Ren} {c c' cs' vs vs' : List Value} {off : Nat} (h : writeAt c off vs = some c') (hc : LRel ρ c cs') (hv : LRel ρ vs vs') :
    ∃ d, writeAt cs' off vs' = some d ∧ LRel ρ c' d := by
  unfold writeAt at h
  split at h
  · rename_i hl
    injection h with h
    subst h
    refine ⟨cs'.take off ++ vs' ++ cs'.drop (off + vs'.length), ?_, ?_⟩
    · unfold writeAt; rw [if_pos (by rw [← hc.1, ← hv.1]; exact hl)]
    · rw [← hv.1]; exact ((hc.take off).append hv).append (hc.drop _)
  · cases h

/-- Parts with the same places. -/
def PRel (ρ : Ren) (x y : List (Nat × Value)) : Prop := x.length = y.length ∧ ∀ (i : Nat) (u u' : Nat × Value), x[i]? = some u → y[i]? = some u' → u.1 = u'.1 ∧ VRel ρ u.2 u'.2
theorem PRel.tail {ρ : Ren} {u : Nat × Value} {x y : List (Nat × Value)} (h : PRel ρ (u :: x) y) : ∃ u' y', y = u' :: y' ∧ u.1 = u'.1 ∧ VRel ρ u.2 u'.2 ∧ PRel ρ x y' := by
  cases y with
  | nil => exact absurd h.1 (by simp)
  | cons u' y' =>
    have h0 := h.2 0 u u' rfl rfl
    exact ⟨u', y', rfl, h0.1, h0.2, by have := h.1; simpa using this, fun i a b ha hb => h.2 (i + 1) a b (by simpa) (by simpa)⟩

theorem fill_rel {ρ : Ren} {place : Nat → Option (Nat × Nat)} : ∀ (parts parts' : List (Nat × Value)) (c r : List Value) (C : Array Value), fillA place c parts = some r → LRel ρ c C.toList → PRel ρ parts parts' →
    ∃ R : Array Value, Instr.fill place C parts' = some R ∧ LRel ρ r R.toList := by
  intro parts
  induction parts with
  | nil =>
    intro parts' c r C h hC hp
    have : parts' = [] := by have := hp.1; simp at this; exact List.length_eq_zero_iff.1 this.symm
    subst this
    simp [fillA] at h
    subst h
    exact ⟨C, rfl, hC⟩
  | cons u parts ih =>
    intro parts' c r C h hC hp
    obtain ⟨u', y', rfl, h1, h2, h3⟩ := hp.tail
    obtain ⟨i, v⟩ := u
    obtain ⟨i', v'⟩ := u'
    simp only at h1 h2
    subst h1
    unfold fillA at h
    unfold Instr.fill
    cases hpl : place i with
    | none => simp [hpl] at h
    | some os =>
      obtain ⟨off, size⟩ := os
      simp only [hpl] at h ⊢
      cases hk : (known v && v.cells.size == size) with
      | false => rw [hk, cond_false] at h; cases h
      | true =>
        rw [hk, cond_true] at h
        simp only [Bool.and_eq_true, beq_iff_eq] at hk
        have hcl := cells_of h2 hk.1
        have hsz : v'.cells.size = size := by have := hcl.1; simp at this; omega
        cases hw : writeAt c off v.cells.toList with
        | none => simp [hw] at h
        | some c' =>
          simp only [hw] at h
          obtain ⟨d, hd, hrel⟩ := writeAt_rel hw hC hcl
          have hb := (writeAt_some hd).1
          have hcond : (decide (v'.cells.size ≠ size) || decide (off + v'.cells.size > C.size)) = false := by
            simp at hb
            simp [hsz]; omega
          simp only [hcond, Bool.false_eq_true, if_false]
          have hfold : (Array.foldl (fun cs x => match x with | (c, j) => cs.setIfInBounds (off + j) c) C v'.cells.zipIdx).toList = d := by
            rw [← Array.foldl_toList, Array.toList_zipIdx]
            exact foldl_set_writeAt hd
          exact ih y' c' r _ h (by rw [hfold]; exact hrel) h3

theorem partsA_rel {ρ : Ren} {A : Regs} {a : Act} (h : RRel ρ A a.tmps) (parts : Array (Nat × Operand)) : PRel ρ (partsA A parts) (parts.map fun (i, x) => (i, a.eval x)).toList := by
  refine ⟨by simp [partsA], fun i u u' hu hu' => ?_⟩
  simp only [partsA, List.getElem?_map, Array.toList_map] at hu hu'
  cases hp : parts.toList[i]? with
  | none => simp [hp] at hu
  | some x =>
    simp [hp] at hu hu'
    subst hu hu'
    exact ⟨rfl, h.eval _⟩

theorem plain_cells_rel {ρ : Ren} {z : Value} (hz : plain z = true) : LRel ρ z.cells.toList z.cells.toList := by
  refine cells_of (.of_plain ρ hz) ?_
  cases z <;> first | rfl | (rename_i r; cases r <;> first | rfl | cases hz)

theorem mapM_places {fs : Array Field} (w : World) (hs : ∀ (i : Nat) (fd : Field), fs[i]? = some fd → ∃ n, szOf P fd.type = some n) :
    ∃ pl : Array (Nat × Nat), (fs.mapM (fun f => do pure (f.offset, ← sizeOf f.type)) : Sem (Array (Nat × Nat))).run P w = .ok pl w ∧
      ∀ i : Nat, pl[i]? = (fs[i]?).bind fun (fd : Field) => (szOf P fd.type).map fun n => (fd.offset, n) := by
  have key : ∀ (l : List Field), (∀ (i : Nat) (fd : Field), l[i]? = some fd → ∃ n, szOf P fd.type = some n) →
      ∃ pl : List (Nat × Nat), (l.mapM (fun f => do pure (f.offset, ← sizeOf f.type)) : Sem (List (Nat × Nat))).run P w = .ok pl w ∧
        ∀ i : Nat, pl[i]? = (l[i]?).bind fun (fd : Field) => (szOf P fd.type).map fun n => (fd.offset, n) := by
    intro l
    induction l with
    | nil => intro _; exact ⟨[], by simp, fun i => by simp⟩
    | cons f l ih =>
      intro h
      obtain ⟨pl, h1, h2⟩ := ih fun i fd hi => h (i + 1) fd (by simpa)
      obtain ⟨n, hn⟩ := h 0 f rfl
      refine ⟨(f.offset, n) :: pl, by simp only [List.mapM_cons, Sem.run_bind, szOf_run hn, Result.andThen_ok, h1, Sem.run_pure], fun i => ?_⟩
      cases i with
      | zero => simp [hn]
      | succ i => simpa using h2 i
  obtain ⟨pl, h1, h2⟩ := key fs.toList (fun i fd hi => hs i fd (by simpa using hi))
  refine ⟨pl.toArray, ?_, fun i => by simpa using h2 i⟩
  rw [Array.mapM_eq_mapM_toList]
  simp only [Sem.run_map, h1, Result.andThen_ok]

theorem build_run {w : World} {ρ : Ren} {A : Regs} {a : Act} (hr : RRel ρ A a.tmps) {t : TypeId} {parts : Array (Nat × Operand)} {v : Value} (h : buildA P t (partsA A parts) = some v) :
    ∃ v', (Instr.build t (parts.map fun (i, x) => (i, a.eval x))).run P w = .ok v' w ∧ VRel ρ v v' := by
  unfold buildA at h
  cases hz : zeroA P t with
  | none => simp [hz] at h
  | some z =>
    obtain ⟨_, _, _, hpz⟩ := zeroA_some hz
    simp only [hz, Option.bind_some] at h
    cases hu : und P t with
    | none => simp [hu] at h
    | some d =>
      simp only [hu] at h
      cases d <;> simp only at h <;> try (cases h; done)
      case array len elem =>
        cases hs : szOf P elem with
        | none => simp [hs] at h
        | some sz =>
          simp only [hs, Option.bind_some] at h
          cases hf : fillA (fun i => some (i * sz, sz)) z.cells.toList (partsA A parts) with
          | none => simp [hf] at h
          | some r =>
            simp [hf] at h
            subst h
            obtain ⟨R, h1, h2⟩ := fill_rel _ _ _ _ z.cells hf (plain_cells_rel hpz) (partsA_rel hr parts)
            refine ⟨.agg R, ?_, ?_⟩
            · simp [Instr.build, zeroA_run hz, und_run hu, szOf_run hs]
              simp at h1
              rw [h1]
              rfl
            · have := VRel.agg_l h2
              simpa using this
      case struct fs =>
        cases hall : (fs.toList.all fun f => (szOf P f.type).isSome) with
        | false => rw [hall, cond_false] at h; cases h
        | true =>
          rw [hall, cond_true] at h
          simp only [List.all_eq_true] at hall
          obtain ⟨pl, hp1, hp2⟩ := mapM_places (P := P) (fs := fs) w fun i fd hi => Option.isSome_iff_exists.1 (hall fd (by
            rw [Array.mem_toList_iff]; exact Array.mem_of_getElem? hi))
          cases hf : fillA (fun i => (fs[i]?).bind fun (fd : Field) => (szOf P fd.type).map fun n => (fd.offset, n)) z.cells.toList (partsA A parts) with
          | none => simp [hf] at h
          | some r =>
            simp [hf] at h
            subst h
            obtain ⟨R, h1, h2⟩ := fill_rel _ _ _ _ z.cells hf (plain_cells_rel hpz) (partsA_rel hr parts)
            have he : (fun i => pl[i]?) = (fun i => (fs[i]?).bind fun (fd : Field) => (szOf P fd.type).map fun n => (fd.offset, n)) := funext hp2
            refine ⟨.agg R, ?_, ?_⟩
            · unfold Instr.build
              simp only [Sem.run_bind, zeroA_run hz, und_run hu, Result.andThen_ok]
              rw [hp1]
              simp only [Result.andThen_ok]
              rw [he, h1]
              rfl
            · have := VRel.agg_l h2
              simpa using this

/-! ### Zeros -/
theorem repl_get {α : Type} (n : Nat) (z : List α) : (repl n z).length = n * z.length ∧ ∀ i, i < n * z.length → (repl n z)[i]? = z[i % z.length]? := by
  unfold repl
  induction n with
  | zero => simp
  | succ n ih =>
    simp only [List.replicate_succ, List.flatten_cons]
    obtain ⟨h1, h2⟩ := ih
    refine ⟨by rw [List.length_append, h1, Nat.succ_mul, Nat.add_comm], fun i hi => ?_⟩
    rcases Nat.lt_or_ge i z.length with hz | hz
    · rw [List.getElem?_append_left hz, Nat.mod_eq_of_lt hz]
    · rw [List.getElem?_append_right hz, h2 _ (by rw [Nat.succ_mul] at hi; omega)]
      congr 1
      rw [Nat.mod_eq_sub_mod hz]

theorem range_zeros (n : Nat) (z : Array Value) : ((Array.range (n * z.size)).map (z[· % z.size]!)).toList = repl n z.toList := by
  obtain ⟨h1, h2⟩ := repl_get n z.toList
  apply List.ext_getElem?
  intro i
  simp only [Array.length_toList] at h1 h2
  rcases Nat.lt_or_ge i (n * z.size) with hi | hi
  · rw [h2 i hi]
    have hz : 0 < z.size := by rcases Nat.eq_zero_or_pos z.size with h | h; simp [h] at hi; exact h
    have hm := Nat.mod_lt i hz
    simp [hi, hm]
  · have e1 : (repl n z.toList)[i]? = none := List.getElem?_eq_none (by rw [h1]; exact hi)
    rw [e1]
    simp; omega

theorem zeroCells_list (n : Nat) (z : Array Value) : (Builtin.zeroCells z n).toList = repl n z.toList := range_zeros n z

/-- A new block of cells, made now. -/
theorem new_here {ρ : Ren} {μ μ' : Mem} {w : World} (h : MRel ρ μ.blks w) {e : Nat} {vs : List Value} {a : Addr} (t : TypeId) (C : Array Value)
    (hs : newA μ e vs = some (a, μ')) (hv : LRel ρ vs C.toList) :
    ∃ ρ', (ρ'[μ.size]? = some ⟨w.heap.size, 0, C.size, e⟩) ∧ a = ⟨μ.size, 0, none⟩ ∧ Adv ρ μ w ρ' μ' (w.alloc (.cells C t)) := by
  obtain ⟨h1, h2, h3⟩ := newA_sound (t := t) (C := C) (fr := (0, 0)) h hs hv (fun i v hi => by simpa using hi) (Newer.alloc w _) (fun i _ => by simp)
  exact ⟨_, h2, h1, h3⟩

theorem buildSlice_sound {w : World} {ρ : Ren} {μ μ' : Mem} (hm : MRel ρ μ.blks w) {A : Regs} {a : Act} (hr : RRel ρ A a.tmps) {t : TypeId} {len : Nat} {parts : Array (Nat × Operand)} {v : Value}
    (h : buildSliceA P μ t len (partsA A parts) = some (v, μ')) :
    ∃ ρ' v' w', (Instr.buildSlice t len (parts.map fun (i, x) => (i, a.eval x))).run P w = .ok v' w' ∧ VRel ρ' v v' ∧ Adv ρ μ w ρ' μ' w' := by
  unfold buildSliceA at h
  cases he : elemA P t with
  | none => simp [he] at h
  | some elem =>
    have hu := elemA_und he
    simp only [he, Option.bind_some] at h
    cases hs : szOf P elem with
    | none => simp [hs] at h
    | some sz =>
      simp only [hs, Option.bind_some] at h
      cases hz : zeroA P elem with
      | none => simp [hz] at h
      | some z =>
        obtain ⟨_, _, _, hpz⟩ := zeroA_some hz
        simp only [hz, Option.bind_some] at h
        cases hc : (Nat.ble (len * sz) (2 ^ 24) && z.cells.size == sz && Nat.ble len (2 ^ 24)) with
        | false => rw [hc, cond_false] at h; cases h
        | true =>
          rw [hc, cond_true] at h
          simp only [Bool.and_eq_true, beq_iff_eq] at hc
          obtain ⟨⟨hc1, hc2⟩, hc3⟩ := hc
          have hc1 := Nat.le_of_ble_eq_true hc1
          have hc3 := Nat.le_of_ble_eq_true hc3
          cases hf : fillA (fun i => some (i * sz, sz)) (repl len z.cells.toList) (partsA A parts) with
          | none => simp [hf] at h
          | some r =>
            simp only [hf, Option.bind_some] at h
            cases hn : newA μ 0 r with
            | none => simp [hn] at h
            | some am =>
              obtain ⟨ad, μ2⟩ := am
              simp [hn] at h
              obtain ⟨rfl, rfl⟩ := h
              -- the zeros, as the model lays them
              have hzeros : ∃ Z : Array Value, (do let zero ← (if len * sz = 0 then pure #[] else do pure (← zeroValue elem).cells : Sem (Array Value)); pure ((Array.range (len * sz)).map (zero[· % zero.size]!)) : Sem (Array Value)).run P w = .ok Z w ∧ Z.toList = repl len z.cells.toList := by
                by_cases h0 : len * sz = 0
                · refine ⟨#[], by simp [h0], ?_⟩
                  have e : (repl len z.cells.toList).length = 0 := by rw [(repl_get len z.cells.toList).1]; simp [hc2, h0]
                  rw [List.length_eq_zero_iff.1 e]
                · refine ⟨(Array.range (len * z.cells.size)).map (z.cells[· % z.cells.size]!), by simp [h0, zeroA_run hz, hc2], range_zeros len z.cells⟩
              obtain ⟨Z, hZ1, hZ2⟩ := hzeros
              have hzr : LRel ρ (repl len z.cells.toList) Z.toList := by
                rw [hZ2]
                have hz1 := plain_cells_rel (ρ := ρ) hpz
                refine ⟨rfl, fun i u u' hu hu' => ?_⟩
                rw [hu] at hu'
                injection hu' with hu'
                subst hu'
                have hil : i < len * z.cells.toList.length := by
                  rcases Nat.lt_or_ge i (len * z.cells.toList.length) with h | h
                  · exact h
                  · rw [List.getElem?_eq_none (by rw [(repl_get len z.cells.toList).1]; exact h)] at hu; cases hu
                rw [(repl_get len z.cells.toList).2 i hil] at hu
                exact hz1.2 _ u u hu hu
              obtain ⟨R, h1, h2⟩ := fill_rel _ _ _ _ Z hf hzr (partsA_rel hr parts)
              obtain ⟨ρ', k1, k2, k3⟩ := new_here hm elem R hn h2
              refine ⟨ρ', .slice (some ⟨w.heap.size, 0, none⟩) len len, w.alloc (.cells R elem), ?_, ?_, k3⟩
              · have hnot : ¬ (len * sz > 2 ^ 24) := by omega
                unfold Instr.buildSlice
                simp only [Sem.run_bind, und_run hu, szOf_run hs, Result.andThen_ok, Sem.run_ite, if_neg hnot]
                have hZ1' := hZ1
                simp only [Sem.run_bind] at hZ1'
                by_cases h0 : len * sz = 0
                · simp only [h0, if_true, Sem.run_pure, Result.andThen_ok] at hZ1' ⊢
                  injection hZ1' with hZ1'
                  rw [hZ1']
                  simp at h1
                  simp [h1, newRow]
                · simp only [h0, if_false, Sem.run_bind, zeroA_run hz, Sem.run_pure, Result.andThen_ok] at hZ1' ⊢
                  injection hZ1' with hZ1'
                  rw [hZ1']
                  simp at h1
                  simp [h1, newRow]
              · subst k2
                have hb : len < big := by unfold big; omega
                have := VRel.exact (o := 0) (n := len) (c := len) k1 hb (Nat.le_refl _)
                simpa using this

end Go.Vm
