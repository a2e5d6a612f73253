/- Reading and writing: the abstract machine's memory against the model's. -/
import Derived.Test.YthmnbgapdlbbfaaGreatDoorVmMem
import Derived.Laws.IdiomCopy
import Derived.Laws.Append
set_option linter.unusedSimpArgs false
set_option linter.unusedVariables false
namespace Go.Vm
open Go.RowKit

variable {P : Program}

theorem add_plain (b o i : Nat) : (⟨b, o, none⟩ : Addr).add i = ⟨b, o + i, none⟩ := by
  unfold Addr.add; split <;> simp_all

theorem atomic_one {ρ : Ren} {v v' : Value} (h : VRel ρ v v') (ha : atomic v = true) : v'.oneCell' = true := by
  cases h with
  | top v => cases ha
  | lit h => cases v <;> first | rfl | (simp [litV] at h) | (simp [atomic] at ha)
  | agg hx ex => cases ha
  | tuple hx ex => cases ha
  | _ => rfl

theorem cellsAt_some {μ : Mem} {b : Nat} {c : List Value} (h : cellsAt μ b = some c) : ∃ wr e, μ.blks[b]? = some (.cells c wr e) := by
  unfold cellsAt Mem.get at h
  split at h
  · rename_i c' wr e hb; cases h; exact ⟨wr, e, hb⟩
  · cases h

/-- A cell that is known. -/
theorem cell_rel {ρ : Ren} {μ : Mem} {w : World} (h : MRel ρ μ.blks w) {b i : Nat} {c : List Value} {wr : Bool} {ez : Nat} {p : Pl} {v : Value}
    (hb : μ.blks[b]? = some (.cells c wr ez)) (hp : ρ[b]? = some p) (hi : c[i]? = some v) :
    ∃ v', w.cell? ⟨p.1, p.2 + i, none⟩ = some v' ∧ VRel ρ v v' ∧ atomic v = true ∧ (wr = true → w.frozen? ⟨p.1, p.2 + i, none⟩ = false) := by
  obtain ⟨_, C, e, fr, hh, hl1, hl2, hf, hc⟩ := h.obj b _ p hb hp
  obtain ⟨v', h1, h2, h3⟩ := hc i v hi
  refine ⟨v', by simp [World.cell?, hh, h1], h2, h3, fun hw => ?_⟩
  have hil : i < c.length := by
    rcases Nat.lt_or_ge i c.length with h | h
    · exact h
    · rw [List.getElem?_eq_none h] at hi; cases hi
  have := hf hw (p.2 + i) (by omega) (by omega)
  simp only [World.frozen?, hh]
  simp only [Bool.and_eq_false_iff, decide_eq_false_iff_not]
  omega

theorem readN_some {c l : List Value} {o n : Nat} (h : readN c o n = some l) : l.length = n ∧ ∀ j v, l[j]? = some v → c[o + j]? = some v := by
  unfold readN at h
  simp only at h
  split at h
  · rename_i hl
    cases h
    refine ⟨hl, fun j v hv => ?_⟩
    rw [List.getElem?_take] at hv
    split at hv
    · simpa using hv
    · cases hv
  · cases h

/-- Some cells that are known, as the model holds them. -/
theorem cells_rel {ρ : Ren} {μ : Mem} {w : World} (h : MRel ρ μ.blks w) {b o : Nat} {c l : List Value} {wr : Bool} {ez : Nat} {p : Pl}
    (hb : μ.blks[b]? = some (.cells c wr ez)) (hp : ρ[b]? = some p) (hl : ∀ j v, l[j]? = some v → c[o + j]? = some v) :
    ∃ l' : List Value, LRel ρ l l' ∧ (∀ j v, l'[j]? = some v → w.cell? ⟨p.1, p.2 + o + j, none⟩ = some v) ∧ (∀ v ∈ l, atomic v = true) ∧
      (wr = true → ∀ j, j < l.length → w.frozen? ⟨p.1, p.2 + o + j, none⟩ = false) := by
  induction l generalizing o with
  | nil => exact ⟨[], LRel.nil ρ, fun j v hv => by simp at hv, fun v hv => by simp at hv, fun _ j hj => by simp at hj⟩
  | cons u l ih =>
    obtain ⟨l', h1, h2, h3, h4⟩ := ih (o := o + 1) fun j v hv => by
      have := hl (j + 1) v (by simpa using hv)
      rwa [show o + (j + 1) = o + 1 + j by omega] at this
    obtain ⟨u', k1, k2, k3, k4⟩ := cell_rel h hb hp (hl 0 u rfl)
    refine ⟨u' :: l', LRel.cons k2 h1, fun j v hv => ?_, fun v hv => ?_, fun hw j hj => ?_⟩
    · cases j with
      | zero => simp at hv; subst hv; simpa using k1
      | succ j =>
        have := h2 j v (by simpa using hv)
        rwa [show p.2 + (o + 1) + j = p.2 + o + (j + 1) by omega] at this
    · rcases List.mem_cons.1 hv with rfl | hv
      · exact k3
      · exact h3 v hv
    · cases j with
      | zero => simpa using k4 hw
      | succ j =>
        have := h4 hw j (by simpa using hj)
        rwa [show p.2 + (o + 1) + j = p.2 + o + (j + 1) by omega] at this

/-- The model's block behind some stores. -/
theorem setCells_heap (b : Nat) : ∀ (vs : List Value) (o : Nat) (w : World) (C : Array Value) (e : TypeId) (fr : Nat × Nat), w.heap[b]? = some (.cells C e fr) →
    ∃ C' : Array Value, (w.setCells b o vs).heap[b]? = some (.cells C' e fr) ∧ C'.size = C.size ∧
      (∀ k, k < o ∨ o + vs.length ≤ k → C'[k]? = C[k]?) ∧ (∀ j, o + j < C.size → j < vs.length → C'[o + j]? = vs[j]?)
  | [], o, w, C, e, fr, h => ⟨C, h, rfl, fun _ _ => rfl, fun j _ hj => by simp at hj⟩
  | v :: r, o, w, C, e, fr, h => by
    have h1 : (w.setCell ⟨b, o, none⟩ v).heap[b]? = some (.cells (C.setIfInBounds o v) e fr) := by simp [World.setCell, Array.getElem?_modify, h]
    obtain ⟨C', k1, k2, k3, k4⟩ := setCells_heap b r (o + 1) _ _ e fr h1
    refine ⟨C', k1, by rw [k2]; simp, fun k hk => ?_, fun j hj hl => ?_⟩
    · rw [k3 k (by simp at hk; omega), Array.getElem?_setIfInBounds]
      simp at hk
      rw [if_neg (by omega)]
    · cases j with
      | zero =>
        rw [Nat.add_zero, k3 o (by omega), Array.getElem?_setIfInBounds]
        simp at hj ⊢
        omega
      | succ j =>
        have := k4 j (by simp; omega) (by simpa using hl)
        rw [show o + (j + 1) = o + 1 + j by omega, this]
        simp

theorem setCells_turn (b : Nat) : ∀ (vs : List Value) (o : Nat) (w : World), Turn b w (w.setCells b o vs)
  | [], _, w => Turn.refl b w
  | v :: r, o, w => by
    have h1 : Turn b w (w.setCell ⟨b, o, none⟩ v) := ⟨by simp, fun k hk => Below.heap_setCell w _ v k hk, rfl, rfl, rfl⟩
    exact h1.trans (setCells_turn b r (o + 1) _)

theorem writeAt_some {c c' vs : List Value} {o : Nat} (h : writeAt c o vs = some c') : o + vs.length ≤ c.length ∧ c'.length = c.length ∧
    (∀ k, k < o ∨ o + vs.length ≤ k → c'[k]? = c[k]?) ∧ (∀ j, j < vs.length → c'[o + j]? = vs[j]?) := by
  unfold writeAt at h
  split at h
  · rename_i hl
    cases h
    refine ⟨hl, by simp; omega, fun k hk => ?_, fun j hj => ?_⟩
    · rcases hk with hk | hk
      · rw [List.append_assoc, List.getElem?_append_left (by simp; omega), List.getElem?_take, if_pos hk]
      · rw [List.getElem?_append_right (by simp; omega)]
        simp
        congr 1
        omega
    · rw [List.append_assoc, List.getElem?_append_right (by simp; omega), List.getElem?_append_left (by simp; omega)]
      congr 1
      simp; omega
  · cases h

theorem mark_blks (μ : Mem) (b : Nat) (vs : List Value) : (μ.mark b vs).blks = μ.blks := by unfold Mem.mark; split <;> rfl
theorem mark_low (μ : Mem) (b : Nat) (vs : List Value) : (μ.mark b vs).low ≤ μ.low := by unfold Mem.mark; split <;> simp; omega
theorem mark_plain {μ : Mem} {b s : Nat} {vs : List Value} (hs : b < s) (hl : s ≤ (μ.mark b vs).low) : ∀ v ∈ vs, plain v = true := by
  unfold Mem.mark at hl
  split at hl
  · rename_i h; simpa using h
  · simp at hl; omega
theorem mark_eta (μ : Mem) (b : Nat) (vs : List Value) (l : List AObj) : (({ μ with blks := l } : Mem).mark b vs) = { blks := l, low := (({ μ with blks := l } : Mem).mark b vs).low } := by
  unfold Mem.mark; split <;> rfl

/-- Stores. -/
theorem storeA_sound {ρ : Ren} {μ μ' : Mem} {w : World} (h : MRel ρ μ.blks w) {b o : Nat} {vs vs' : List Value} {p : Pl}
    (hs : storeA μ b o vs = some μ') (hp : ρ[b]? = some p) (hv : LRel ρ vs vs') :
    (storeCells ⟨p.1, p.2 + o, none⟩ vs').run P w = .ok () (w.setCells p.1 (p.2 + o) vs') ∧ Adv ρ μ w ρ μ' (w.setCells p.1 (p.2 + o) vs') := by
  unfold storeA at hs
  split at hs
  · rename_i he
    simp at he; subst he
    have := hv.of_nil; subst this
    cases hs
    exact ⟨rfl, Adv.refl h⟩
  · split at hs
    · rename_i hne c ez hb
      split at hs
      · rename_i hat
        split at hs
        · rename_i c' hw
          injection hs with hs
          subst hs
          simp only [List.all_eq_true] at hat
          have hb' : μ.blks[b]? = some (.cells c true ez) := hb
          obtain ⟨w1, w2, w3, w4⟩ := writeAt_some hw
          have hone : ∀ v ∈ vs', v.oneCell' = true := fun v' hv' => by
            obtain ⟨i, hi, rfl⟩ := List.getElem_of_mem hv'
            have : i < vs.length := by rw [hv.1]; exact hi
            exact atomic_one (hv.2 i vs[i] vs'[i] (by simp [this]) (by simp [hi])) (hat _ (by simp))
          have hcell : ∀ j, j < vs'.length → ∃ v', w.cell? ⟨p.1, p.2 + o + j, none⟩ = some v' ∧ w.frozen? ⟨p.1, p.2 + o + j, none⟩ = false := fun j hj => by
            have hj' : o + j < c.length := by rw [← hv.1] at hj; omega
            obtain ⟨v', h1, _, _, h4⟩ := cell_rel h hb' hp (i := o + j) (v := c[o + j]) (by simp [hj'])
            rw [← Nat.add_assoc] at h1 h4
            exact ⟨v', h1, h4 rfl⟩
          have hrun := run_storeCells_cells (P := P) p.1 (p.2 + o) vs' 0 w (fun j hj => by obtain ⟨v', h1, _⟩ := hcell j hj; simp [h1]) (fun j hj => by obtain ⟨v', _, h1⟩ := hcell j hj; simpa using h1) hone
          refine ⟨by simpa using hrun, ?_⟩
          obtain ⟨_, C, e, fr, hh, _⟩ := h.obj b _ p hb' hp
          obtain ⟨C', k1, k2, k3, k4⟩ := setCells_heap p.1 vs' (p.2 + o) w C e fr hh
          have new : ∀ ρ₀ : Ren, LRel ρ₀ vs vs' → ORel ρ₀ w p (.cells c true ez) → ORel ρ₀ (w.setCells p.1 (p.2 + o) vs') p (.cells c' true ez) := by
            intro ρ₀ hv₀ ho
            obtain ⟨hz₀, C₀, e₀, fr₀, hh₀, hl1, hl2, hf₀, hc₀⟩ := ho
            rw [hh] at hh₀; cases hh₀
            refine ⟨hz₀, C', e, fr, k1, by rw [w2]; exact hl1, by rw [k2]; exact hl2, hf₀, fun i v hi => ?_⟩
            have hic : i < c.length := by
              rw [← w2]
              rcases Nat.lt_or_ge i c'.length with h | h
              · exact h
              · rw [List.getElem?_eq_none h] at hi; cases hi
            obtain ⟨u', hu1, hu2, hu3⟩ := hc₀ i c[i] (by simp [hic])
            by_cases hin : i < o ∨ o + vs.length ≤ i
            · rw [w3 i hin] at hi
              have : c[i] = v := by simpa [hic] using hi
              subst this
              refine ⟨u', ?_, hu2, hu3⟩
              rw [k3 (p.2 + i) (by rw [← hv.1]; omega)]
              exact hu1
            · obtain ⟨j, rfl⟩ : ∃ j, i = o + j := ⟨i - o, by omega⟩
              have hj : j < vs.length := by omega
              rw [w4 j hj] at hi
              have hsz : p.2 + (o + j) < C.size := by
                rcases Nat.lt_or_ge (p.2 + (o + j)) C.size with h | h
                · exact h
                · rw [Array.getElem?_eq_none h] at hu1; cases hu1
              refine ⟨vs'[j]'(by rw [← hv.1]; exact hj), ?_, hv₀.2 j v _ hi (by simp [← hv.1, hj]), hat v (List.mem_of_getElem? hi)⟩
              rw [show p.2 + (o + j) = p.2 + o + j by omega, k4 j (by omega) (by rw [← hv.1]; exact hj)]
              simp [← hv.1, hj]
          have heta : ((μ.set b (.cells c' true ez)).mark b vs) = { blks := μ.blks.set b (.cells c' true ez), low := ((μ.set b (.cells c' true ez)).mark b vs).low } := mark_eta μ b vs _
          rw [heta]
          refine Adv.turn h hb' rfl hp (setCells_turn p.1 vs' (p.2 + o) w) (new ρ hv (h.obj b _ p hb' hp)) (mark_low _ _ _) ?_
          intro s hbs hsl ho
          refine new _ ⟨hv.1, fun i u u' hu hu' => (hv.2 i u u' hu hu').plain_any (mark_plain hbs hsl u (List.mem_of_getElem? hu))⟩ ho
        · cases hs
      · cases hs
    · cases hs

theorem get_app {α : Type} {l m : List α} {i : Nat} {v : α} (h : l[i]? = some v) : (l ++ m)[i]? = some v := by
  rw [List.getElem?_append_left]
  · exact h
  · rcases Nat.lt_or_ge i l.length with h' | h'
    · exact h'
    · rw [List.getElem?_eq_none h'] at h; cases h

/-- A new block of cells. -/
theorem newA_sound {ρ : Ren} {μ μ' : Mem} {w w' : World} (h : MRel ρ μ.blks w) {e : Nat} {vs vs' : List Value} {a : Addr} {t : TypeId} {C : Array Value} {fr : Nat × Nat}
    (hs : newA μ e vs = some (a, μ')) (hv : LRel ρ vs vs') (hC : ∀ (i : Nat) (v : Value), vs'[i]? = some v → C[i]? = some v) (hn : Newer w w' (.cells C t fr)) (hfr : ∀ i, i < C.size → ¬ (fr.1 ≤ i ∧ i < fr.2)) :
    a = ⟨μ.size, 0, none⟩ ∧ (ρ ++ [⟨w.heap.size, 0, C.size, e⟩])[μ.size]? = some ⟨w.heap.size, 0, C.size, e⟩ ∧ Adv ρ μ w (ρ ++ [⟨w.heap.size, 0, C.size, e⟩]) μ' w' := by
  unfold newA at hs
  split at hs
  · rename_i hat
    simp only [List.all_eq_true] at hat
    cases hs
    refine ⟨rfl, by rw [Mem.size, ← h.len]; simp, Adv.new _ _ rfl h hn ?_⟩
    have hlen : vs.length ≤ C.size := by
      rcases Nat.eq_zero_or_pos vs.length with h0 | h0
      · omega
      · have hl := hv.1
        obtain ⟨v, hx⟩ : ∃ v, vs'[vs.length - 1]? = some v := ⟨vs'[vs.length - 1]'(by omega), by simp⟩
        have := hC _ _ hx
        rcases Nat.lt_or_ge (vs.length - 1) C.size with h1 | h1
        · omega
        · rw [Array.getElem?_eq_none h1] at this; cases this
    refine ⟨rfl, C, t, fr, hn.new, hlen, by simp, fun _ j _ hj => hfr j (by simpa using hj), fun i v hi => ?_⟩
    obtain ⟨v', h1, h2⟩ := hv.get hi
    exact ⟨v', by simpa using hC i v' h1, h2.mono fun b p hb => get_push_lt hb, hat v (List.mem_of_getElem? hi)⟩
  · cases hs

end Go.Vm
