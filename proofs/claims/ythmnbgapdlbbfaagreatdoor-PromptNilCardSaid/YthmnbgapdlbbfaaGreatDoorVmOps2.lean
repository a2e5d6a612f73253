/- The operations that enter no function: types, values, structs, addresses. -/
import Derived.Test.YthmnbgapdlbbfaaGreatDoorVmOps1
import Derived.Laws.Entries
set_option linter.unusedSimpArgs false
set_option linter.unusedVariables false
namespace Go.Vm
open Go.RowKit

variable {P : Program}

theorem und_run {t : TypeId} {d : TypeDesc} (h : und P t = some d) (w : World) : (underlying t).run P w = .ok d w := by
  have : P.underlying t = some d := h
  simp [underlying, this]
theorem szOf_some {t : TypeId} {n : Nat} (h : szOf P t = some n) : ∃ i, P.info? t = some i ∧ i.size = n := by
  unfold szOf at h
  cases hi : P.info? t with
  | none => simp [hi] at h
  | some i => exact ⟨i, rfl, by simpa [hi] using h⟩
theorem szOf_run {t : TypeId} {n : Nat} (h : szOf P t = some n) (w : World) : (sizeOf t).run P w = .ok n w := by
  obtain ⟨i, hi, rfl⟩ := szOf_some h
  simp [sizeOf, typeInfo, hi]
theorem zeroA_some {t : TypeId} {z : Value} (h : zeroA P t = some z) : ∃ i, P.info? t = some i ∧ i.zero = some z ∧ plain z = true := by
  unfold zeroA at h
  cases hi : P.info? t with
  | none => simp [hi] at h
  | some i =>
    simp only [hi, Option.bind_some] at h
    cases hz : i.zero with
    | none => simp [hz] at h
    | some y =>
      simp only [hz, Option.bind_some] at h
      cases hp : plain y with
      | false => simp [hp] at h
      | true => simp [hp] at h; subst h; exact ⟨i, rfl, hz, hp⟩
theorem zeroA_run {t : TypeId} {z : Value} (h : zeroA P t = some z) (w : World) : (zeroValue t).run P w = .ok z w := by
  obtain ⟨i, hi, hz, _⟩ := zeroA_some h
  simp [zeroValue, typeInfo, hi, hz]
theorem aggA_run {t : TypeId} {b : Bool} (h : aggA P t = some b) (w : World) : (isAgg t).run P w = .ok b w := by
  unfold aggA at h
  cases hu : und P t with
  | none => simp [hu] at h
  | some d =>
    have := und_run hu w
    cases d <;> simp [hu] at h <;> subst h <;> simp [isAgg, this]

/-- The cells of a value that is known. -/
theorem cells_of {ρ : Ren} {v v' : Value} (h : VRel ρ v v') (hk : known v = true) : LRel ρ v.cells.toList v'.cells.toList := by
  have one : ∀ u u' : Value, VRel ρ u u' → LRel ρ [u] [u'] := fun u u' h => LRel.cons h (LRel.nil ρ)
  cases h with
  | top v => cases hk
  | lit h => cases v <;> first | exact one _ _ (.lit h) | (simp [litV] at h)
  | ptr h => exact one _ _ (.ptr h)
  | exact h hc hn => exact one _ _ (.exact h hc hn)
  | loose h hn hc ha hs hl => exact one _ _ (.loose h hn hc ha hs hl)
  | map h => exact one _ _ (.map h)
  | func f hx ex hy ey => exact one _ _ (.func f hx ex hy ey)
  | yield h => exact one _ _ (.yield h)
  | iface t h => exact one _ _ (.iface t h)
  | agg hx ex => exact LRel.of_arrays hx ex
  | tuple hx ex => exact one _ _ (.tuple hx ex)
  | fn g h => exact one _ _ (.fn g h)

/-! ### What an operation that enters no function must do -/
def OpS (P : Program) (ρ : Ren) (μ : Mem) (w : World) (s : Sem Next) (v : Value) (μ' : Mem) : Prop :=
  ∃ ρ' v' w' r, s.run P w = .ok r w' ∧ (r = .value v' ∨ (r = .skip ∧ v' = undef)) ∧ VRel ρ' v v' ∧ Adv ρ μ w ρ' μ' w'

theorem OpS.val {ρ : Ren} {μ : Mem} {w : World} {s : Sem Next} {v v' : Value} (h : MRel ρ μ.blks w) (hr : s.run P w = .ok (.value v') w) (hv : VRel ρ v v') : OpS P ρ μ w s v μ :=
  ⟨ρ, v', w, _, hr, .inl rfl, hv, Adv.refl h⟩

/-- A value, wrapped as execOp does. -/
theorem OpS.valS {ρ : Ren} {μ : Mem} {w : World} {s : Sem Value} {v v' : Value} (h : MRel ρ μ.blks w) (hr : s.run P w = .ok v' w) (hv : VRel ρ v v') :
    OpS P ρ μ w (do pure (.value (← s))) v μ := OpS.val h (by simp [hr]) hv

theorem pairM_some {μ μ' : Mem} {x : Option Value} {v : Value} (h : pairM μ x = some (v, μ')) : x = some v ∧ μ' = μ := by
  unfold pairM at h
  cases x with
  | none => cases h
  | some y => simp at h; exact ⟨by rw [h.1], h.2.symm⟩

theorem vPtr_some {v : Value} {b o : Nat} (h : vPtr v = some (b, o)) : v = .pointer (some ⟨b, o, none⟩) := by
  cases v with
  | pointer a =>
    cases a with
    | none => cases h
    | some a =>
      obtain ⟨ab, ao, as⟩ := a
      cases as with
      | none => simp [vPtr, aOf] at h; obtain ⟨rfl, rfl⟩ := h; rfl
      | some s => simp [vPtr, aOf] at h
  | _ => cases h
theorem vPtr_rel {ρ : Ren} {v v' : Value} {b o : Nat} (h : vPtr v = some (b, o)) (hv : VRel ρ v v') : ∃ p, ρ[b]? = some p ∧ v' = .pointer (some ⟨p.1, p.2 + o, none⟩) := by
  rw [vPtr_some h] at hv
  cases hv with
  | lit h => cases h
  | ptr h => exact ⟨_, h, rfl⟩
theorem vInt_rel {ρ : Ren} {v v' : Value} {k : IntKind} {n : Int} (h : vInt v = some (k, n)) (hv : VRel ρ v v') : v = .int k n ∧ v' = .int k n := by
  cases v with
  | int k' n' => simp [vInt] at h; obtain ⟨rfl, rfl⟩ := h; exact ⟨rfl, hv.same rfl⟩
  | _ => cases h
theorem vStr_rel {ρ : Ren} {v v' : Value} {s : ByteArray} (h : vStr v = some s) (hv : VRel ρ v v') : v = .string s ∧ v' = .string s := by
  cases v with
  | string s' => simp [vStr] at h; subst h; exact ⟨rfl, hv.same rfl⟩
  | _ => cases h
theorem asNat_rel {ρ : Ren} {v v' : Value} {n : Nat} (h : asNat v = some n) (hv : VRel ρ v v') : ∃ k, v = .int k n ∧ v' = .int k n := by
  unfold asNat at h
  cases hi : vInt v with
  | none => simp [hi] at h
  | some x =>
    obtain ⟨k, m⟩ := x
    obtain ⟨e1, e2⟩ := vInt_rel hi hv
    simp only [hi] at h
    cases m with
    | ofNat m => simp at h; subst h; exact ⟨k, e1, e2⟩
    | negSucc m => simp at h
theorem vAgg_rel {ρ : Ren} {v v' : Value} {l : List Value} (h : vAgg v = some l) (hv : VRel ρ v v') : ∃ C : Array Value, v' = .agg C ∧ LRel ρ l C.toList := by
  cases v with
  | agg cs =>
    simp [vAgg] at h; subst h
    cases hv with
    | lit h => cases h
    | agg hx ex => exact ⟨_, rfl, LRel.of_arrays hx ex⟩
  | _ => cases h

/-- A slice. -/
theorem vSlice_rel {ρ : Ren} {v v' : Value} {x : Option (Nat × Nat)} {n c : Nat} (h : vSlice v = some (x, n, c)) (hv : VRel ρ v v') :
    (x = none ∧ v = .slice none n c ∧ v' = .slice none n c) ∨
    (∃ b o p a' c', x = some (b, o) ∧ ρ[b]? = some p ∧ v = .slice (some ⟨b, o, none⟩) n c ∧ v' = .slice (some ⟨p.1, a', none⟩) n c' ∧
      ((c < big ∧ c' = c ∧ a' = p.2 + o ∧ n ≤ c) ∨ (∃ k, c = big + k ∧ n ≤ k ∧ k ≤ c' ∧ (0 < k → a' = p.2 + o) ∧ p.2 ≤ a' ∧ a' + c' * p.esz ≤ p.2 + p.lim))) := by
  cases v with
  | slice a m d =>
    cases a with
    | none =>
      simp [vSlice] at h
      obtain ⟨rfl, rfl, rfl⟩ := h
      exact .inl ⟨rfl, rfl, hv.same rfl⟩
    | some a =>
      obtain ⟨ab, ao, as⟩ := a
      cases as with
      | some s => simp [vSlice, aOf] at h
      | none =>
        simp [vSlice, aOf] at h
        obtain ⟨rfl, rfl, rfl⟩ := h
        cases hv with
        | lit h => cases h
        | exact h hc hn => exact .inr ⟨ab, ao, _, _, _, rfl, h, rfl, rfl, .inl ⟨hc, rfl, rfl, hn⟩⟩
        | loose h hn hc ha hs hl => exact .inr ⟨ab, ao, _, _, _, rfl, h, rfl, rfl, .inr ⟨_, rfl, hn, hc, ha, hs, hl⟩⟩
  | _ => cases h

/-! ### Loads and stores -/
theorem loadA_run {ρ : Ren} {μ : Mem} {w : World} (h : MRel ρ μ.blks w) {t : TypeId} {a a' v : Value} (hl : loadA P μ t a = some v) (ha : VRel ρ a a') :
    ∃ v', (Instr.loadAt t a').run P w = .ok v' w ∧ VRel ρ v v' := by
  unfold loadA at hl
  cases hp : vPtr a with
  | none => simp [hp] at hl
  | some x =>
    obtain ⟨b, o⟩ := x
    obtain ⟨p, hρ, rfl⟩ := vPtr_rel hp ha
    simp only [hp] at hl
    cases hc : cellsAt μ b with
    | none => simp [hc] at hl
    | some c =>
      obtain ⟨wr, ez, hb⟩ := cellsAt_some hc
      simp only [hc] at hl
      cases hg : aggA P t with
      | none => simp [hg] at hl
      | some g =>
        have hag := aggA_run hg w
        simp only [hg] at hl
        cases g with
        | false =>
          obtain ⟨v', h1, h2, _⟩ := cell_rel h hb hρ hl
          refine ⟨v', ?_, h2⟩
          simp [Instr.loadAt, Instr.sureAddr, loadVar, hag, h1]
        | true =>
          cases hs : szOf P t with
          | none => simp [hs] at hl
          | some n =>
            simp only [hs, Option.bind_some] at hl
            cases hr : readN c o n with
            | none => simp [hr] at hl
            | some l =>
              simp only [hr, Option.map_some, Option.some.injEq] at hl
              subst hl
              obtain ⟨hn, hl⟩ := readN_some hr
              obtain ⟨l', k1, k2, _⟩ := cells_rel h hb hρ hl
              have hrun := run_loadCells_list (P := P) w ⟨p.1, p.2 + o, none⟩ l' (fun j v hv => by rw [add_plain]; exact k2 j v hv)
              rw [← k1.1, hn] at hrun
              refine ⟨.agg l'.toArray, ?_, VRel.agg_l k1⟩
              simp [Instr.loadAt, Instr.sureAddr, loadVar, hag, szOf_run hs, hrun]

theorem storeOp_sound {ρ : Ren} {μ μ' : Mem} {w : World} (h : MRel ρ μ.blks w) {t : TypeId} {a a' v v' : Value} (hl : storeOp P μ t a v = some μ') (ha : VRel ρ a a') (hv : VRel ρ v v') :
    ∃ w', (Instr.storeAt t a' v').run P w = .ok () w' ∧ Adv ρ μ w ρ μ' w' := by
  unfold storeOp at hl
  cases hp : vPtr a with
  | none => simp [hp] at hl
  | some x =>
    obtain ⟨b, o⟩ := x
    obtain ⟨p, hρ, rfl⟩ := vPtr_rel hp ha
    simp only [hp] at hl
    cases hc : (szOf P t == some v.cells.size && known v) with
    | false => simp [hc] at hl
    | true =>
      simp only [hc, cond_true] at hl
      simp only [Bool.and_eq_true, beq_iff_eq] at hc
      obtain ⟨hs, hk⟩ := hc
      have hcl := cells_of hv hk
      obtain ⟨hrun, hadv⟩ := storeA_sound (P := P) h hl hρ hcl
      refine ⟨_, ?_, hadv⟩
      have hsz : v'.cells.size = v.cells.size := by have := hcl.1; simpa using this.symm
      rw [← hsz] at hs
      simp [Instr.storeAt, Instr.sureAddr, storeVar, szOf_run hs, hrun]

/-! ### Parts of a struct or an array -/
theorem part_run {ρ : Ren} {w : World} {t : TypeId} {cs : List Value} {C : Array Value} {off : Nat} {v : Value} (h : partA P t cs off = some v) (hC : LRel ρ cs C.toList) :
    ∃ v', (part t C off).run P w = .ok v' w ∧ VRel ρ v v' := by
  unfold partA at h
  cases hg : aggA P t with
  | none => simp [hg] at h
  | some g =>
    have hag := aggA_run hg w
    simp only [hg] at h
    cases g with
    | false =>
      obtain ⟨v', h1, h2⟩ := hC.get h
      have h1' : C[off]? = some v' := by simpa using h1
      exact ⟨v', by simp [part, hag, h1'], h2⟩
    | true =>
      cases hs : szOf P t with
      | none => simp [hs] at h
      | some n =>
        simp only [hs, Option.bind_some] at h
        unfold readN at h
        simp only at h
        split at h
        · rename_i hl
          simp at h
          subst h
          refine ⟨.agg (C.extract off (off + n)), by simp [part, hag, szOf_run hs], ?_⟩
          have e : (C.extract off (off + n)) = ((C.toList.drop off).take n).toArray := by
            apply Array.ext'
            simp [List.take_drop]
          rw [e]
          have := VRel.agg_l ((hC.drop off).take n)
          simpa using this
        · simp at h

theorem field_run {ρ : Ren} {w : World} {t : TypeId} {x x' : Value} {f : Nat} {v : Value} (h : fieldA P t x f = some v) (hx : VRel ρ x x') :
    ∃ v', (Instr.field t x' f).run P w = .ok v' w ∧ VRel ρ v v' := by
  unfold fieldA at h
  cases hf : fieldsA P t with
  | none => simp [hf] at h
  | some fs =>
    have hu : und P t = some (.struct fs) := by
      unfold fieldsA at hf
      cases hu : und P t with
      | none => simp [hu] at hf
      | some d => cases d <;> simp [hu] at hf; subst hf; rfl
    simp only [hf, Option.bind_some] at h
    cases ha : vAgg x with
    | none => simp [ha] at h
    | some cs =>
      obtain ⟨C, rfl, hC⟩ := vAgg_rel ha hx
      simp only [ha, Option.bind_some] at h
      cases hfd : fs[f]? with
      | none => simp [hfd] at h
      | some fd =>
        simp only [hfd, Option.bind_some] at h
        obtain ⟨v', h1, h2⟩ := part_run (w := w) h hC
        exact ⟨v', by simp [Instr.field, und_run hu, hfd, asAgg, h1], h2⟩

theorem arr_und {t : TypeId} {fs : Array Field} (hf : fieldsA P t = some fs) : und P t = some (.struct fs) := by
  unfold fieldsA at hf
  cases hu : und P t with
  | none => simp [hu] at hf
  | some d => cases d <;> simp [hu] at hf; subst hf; rfl
theorem elemA_und {t e : TypeId} (h : elemA P t = some e) : und P t = some (.slice e) := by
  unfold elemA at h
  cases hu : und P t with
  | none => simp [hu] at h
  | some d => cases d <;> simp [hu] at h; subst h; rfl
theorem intA_und {t : TypeId} {k : IntKind} (h : intA P t = some k) : und P t = some (.int k) := by
  unfold intA at h
  cases hu : und P t with
  | none => simp [hu] at h
  | some d => cases d <;> simp [hu] at h; subst h; rfl
theorem mapA'_und {t k e : TypeId} (h : mapA' P t = some (k, e)) : und P t = some (.map k e) := by
  unfold mapA' at h
  cases hu : und P t with
  | none => simp [hu] at h
  | some d => cases d <;> simp [hu] at h; obtain ⟨rfl, rfl⟩ := h; rfl
theorem isStrA_und {t : TypeId} (h : isStrA P t = true) : und P t = some .string := by
  unfold isStrA at h
  cases hu : und P t with
  | none => simp [hu] at h
  | some d => cases d <;> simp [hu] at h; rfl

/-! ### Addresses -/
theorem fieldAddr_run {ρ : Ren} {w : World} {t : TypeId} {x x' : Value} {f : Nat} {v : Value} (h : fieldAddrA P t x f = some v) (hx : VRel ρ x x') :
    ∃ v', (Instr.fieldAt t x' f).run P w = .ok v' w ∧ VRel ρ v v' := by
  unfold fieldAddrA at h
  cases hf : fieldsA P t with
  | none => simp [hf] at h
  | some fs =>
    have hu := arr_und hf
    simp only [hf, Option.bind_some] at h
    cases hp : vPtr x with
    | none => simp [hp] at h
    | some bo =>
      obtain ⟨b, o⟩ := bo
      obtain ⟨p, hρ, rfl⟩ := vPtr_rel hp hx
      simp only [hp, Option.bind_some] at h
      cases hfd : fs[f]? with
      | none => simp [hfd] at h
      | some fd =>
        simp only [hfd, Option.bind_some] at h
        cases hs : szOf P fd.type with
        | none => simp [hs] at h
        | some n =>
          simp only [hs] at h
          by_cases hn : n = 0
          · subst hn; simp at h
          · have hb : (n == 0) = false := by simp [hn]
            simp [hb] at h
            subst h
            refine ⟨.pointer (some ⟨p.1, p.2 + (o + fd.offset), none⟩), ?_, .ptr hρ⟩
            simp [Instr.fieldAt, und_run hu, hfd, Instr.sureAddr, fieldPlace, szOf_run hs, hn, add_plain, Nat.add_assoc]

theorem indexAddr_run {ρ : Ren} {w : World} {t : TypeId} {x x' i i' : Value} {v : Value} (h : indexAddrA P t x i = some v) (hx : VRel ρ x x') (hi : VRel ρ i i') :
    ∃ v', (Instr.indexAt t x' i').run P w = .ok v' w ∧ VRel ρ v v' := by
  unfold indexAddrA at h
  cases hu : und P t with
  | none => simp [hu] at h
  | some d =>
    simp only [hu] at h
    cases d with
    | array len elem =>
      simp only at h
      cases hp : vPtr x with
      | none => simp [hp] at h
      | some bo =>
        obtain ⟨b, o⟩ := bo
        obtain ⟨p, hρ, rfl⟩ := vPtr_rel hp hx
        simp only [hp, Option.bind_some] at h
        cases hn : asNat i with
        | none => simp [hn] at h
        | some j =>
          obtain ⟨k, rfl, rfl⟩ := asNat_rel hn hi
          simp only [hn, Option.bind_some] at h
          cases hs : szOf P elem with
          | none => simp [hs] at h
          | some sz =>
            simp only [hs, Option.bind_some] at h
            by_cases hj : j < len
            · rw [bltT hj, cond_true] at h
              injection h with h
              subst h
              refine ⟨.pointer (some ⟨p.1, p.2 + (o + j * sz), none⟩), ?_, .ptr hρ⟩
              have h1 : (0 : Int) ≤ (j : Int) ∧ (j : Int) < (len : Int) := by omega
              simp [Instr.indexAt, asIntOf, und_run hu, Instr.sureAddr, h1, szOf_run hs, add_plain, Nat.add_assoc]
              intro hh; omega
            · rw [bltF hj, cond_false] at h; cases h
    | slice elem =>
      simp only at h
      cases hsl : vSlice x with
      | none => simp [hsl] at h
      | some y =>
        obtain ⟨z, len, cap⟩ := y
        simp only [hsl] at h
        cases z with
        | none => simp at h
        | some bo =>
          obtain ⟨b, o⟩ := bo
          simp only at h
          rcases vSlice_rel hsl hx with ⟨hz, _⟩ | ⟨b', o', p, a', c', hz, hρ, _, rfl, hcap⟩
          · cases hz
          · cases hz
            cases hn : asNat i with
            | none => simp [hn] at h
            | some j =>
              obtain ⟨k, rfl, rfl⟩ := asNat_rel hn hi
              simp only [hn, Option.bind_some] at h
              cases hs : szOf P elem with
              | none => simp [hs] at h
              | some sz =>
                simp only [hs, Option.bind_some] at h
                by_cases hj : j < len
                · rw [bltT hj, cond_true] at h
                  injection h with h
                  subst h
                  have ha : a' = p.2 + o := by
                    rcases hcap with ⟨_, _, h, _⟩ | ⟨k, _, h1, _, h2, _⟩
                    · exact h
                    · exact h2 (by omega)
                  subst ha
                  refine ⟨.pointer (some ⟨p.1, p.2 + (o + j * sz), none⟩), ?_, .ptr hρ⟩
                  have h1 : (0 : Int) ≤ (j : Int) ∧ (j : Int) < (len : Int) := by omega
                  simp [Instr.indexAt, asIntOf, und_run hu, h1, szOf_run hs, add_plain, Nat.add_assoc]
                  intro hh; omega
                · rw [bltF hj, cond_false] at h; cases h
    | _ => cases h

theorem index_run {ρ : Ren} {w : World} {t : TypeId} {x x' i i' : Value} {v : Value} (h : indexA P t x i = some v) (hx : VRel ρ x x') (hi : VRel ρ i i') :
    ∃ v', (Instr.index t x' i').run P w = .ok v' w ∧ VRel ρ v v' := by
  unfold indexA at h
  cases hu : und P t with
  | none => simp [hu] at h
  | some d =>
    simp only [hu] at h
    cases d with
    | array len elem =>
      simp only at h
      cases ha : vAgg x with
      | none => simp [ha] at h
      | some cs =>
        obtain ⟨C, rfl, hC⟩ := vAgg_rel ha hx
        simp only [ha, Option.bind_some] at h
        cases hn : asNat i with
        | none => simp [hn] at h
        | some j =>
          obtain ⟨k, rfl, rfl⟩ := asNat_rel hn hi
          simp only [hn, Option.bind_some] at h
          by_cases hj : j < len
          · rw [bltT hj, cond_true] at h
            cases hs : szOf P elem with
            | none => simp [hs] at h
            | some sz =>
              simp only [hs, Option.bind_some] at h
              obtain ⟨v', h1, h2⟩ := part_run (w := w) h hC
              have h0 : (0 : Int) ≤ (j : Int) ∧ (j : Int) < (len : Int) := by omega
              exact ⟨v', by simp [Instr.index, asIntOf, und_run hu, h0, szOf_run hs, h1]; intro hh; omega, h2⟩
          · rw [bltF hj, cond_false] at h; cases h
    | string =>
      simp only at h
      cases hs : vStr x with
      | none => simp [hs] at h
      | some s =>
        obtain ⟨rfl, rfl⟩ := vStr_rel hs hx
        simp only [hs, Option.bind_some] at h
        cases hn : asNat i with
        | none => simp [hn] at h
        | some j =>
          obtain ⟨k, rfl, rfl⟩ := asNat_rel hn hi
          simp only [hn, Option.bind_some] at h
          cases hb : s.data.toList[j]? with
          | none => simp [hb] at h
          | some c =>
            simp only [hb, Option.map_some, Option.some.injEq] at h
            subst h
            have hg : s[j]? = some c := by
              have hlt : j < s.size := by
                rcases Nat.lt_or_ge j s.data.toList.length with h | h
                · simpa using h
                · rw [List.getElem?_eq_none h] at hb; cases hb
              rw [getElem?_pos s j hlt]
              have : s.data.toList[j]? = some s.data.toList[j] := by simp
              rw [this] at hb
              injection hb with hb
              rw [← hb]
              rfl
            refine ⟨.int .u8 c.toNat, ?_, .lit rfl⟩
            simp [Instr.index, asIntOf, und_run hu, hg]
    | _ => cases h

end Go.Vm
