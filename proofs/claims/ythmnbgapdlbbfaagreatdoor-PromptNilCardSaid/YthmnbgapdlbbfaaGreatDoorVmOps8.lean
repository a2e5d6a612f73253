/- The operations that enter no function: append, copy, clear, against the model's. -/
import Derived.Test.YthmnbgapdlbbfaaGreatDoorVmOps7
set_option linter.unusedSimpArgs false
set_option linter.unusedVariables false
namespace Go.Vm
open Go.RowKit

variable {P : Program}

theorem toList_two {α : Type} {a : Array α} {x y : α} (h : a.toList = [x, y]) : a = #[x, y] := Array.ext' h
theorem toList_one {α : Type} {a : Array α} {x : α} (h : a.toList = [x]) : a = #[x] := Array.ext' h

theorem two_args {ρ : Ren} {x y : Value} {args' : Array Value} (h : LRel ρ [x, y] args'.toList) : ∃ x' y', args' = #[x', y'] ∧ VRel ρ x x' ∧ VRel ρ y y' := by
  obtain ⟨x', l, h1, h2, h3⟩ := h.of_cons
  obtain ⟨y', l2, h4, h5, h6⟩ := h3.of_cons
  have := h6.of_nil
  subst this h4
  exact ⟨x', y', toList_two h1, h2, h5⟩
theorem one_arg {ρ : Ren} {x : Value} {args' : Array Value} (h : LRel ρ [x] args'.toList) : ∃ x', args' = #[x'] ∧ VRel ρ x x' := by
  obtain ⟨x', l, h1, h2, h3⟩ := h.of_cons
  have := h3.of_nil
  subst this
  exact ⟨x', toList_one h1, h2⟩

theorem Newer.drew (w : World) (O : Obj) : Newer w (w.drew.alloc O) O :=
  ⟨by simp, fun _ h => heap_alloc_lt w.drew O h, heap_alloc_new w.drew O, rfl, rfl, rfl⟩

set_option maxHeartbeats 4000000 in
set_option maxRecDepth 100000 in
theorem appendA_sound {w : World} {ρ : Ren} {μ μ' : Mem} (hm : MRel ρ μ.blks w) {argTypes : Array TypeId} {ty : TypeId} {args : List Value} {args' : Array Value} {v : Value}
    (h : appendA P μ argTypes args = some (v, μ')) (ha : LRel ρ args args'.toList) :
    ∃ ρ' v' w', (Builtin.append_ argTypes ty args').run P w = .ok v' w' ∧ VRel ρ' v v' ∧ Adv ρ μ w ρ' μ' w' := by
  unfold appendA at h
  split at h
  case h_2 => cases h
  case h_1 sT xT s x hat =>
    have hat' := toList_two hat
    subst hat'
    obtain ⟨s', x', rfl, hs, hx⟩ := two_args ha
    cases he : elemA P sT with
    | none => simp [he] at h
    | some elem =>
      have hu := elemA_und he
      simp only [he, Option.bind_some] at h
      cases hseq : seqA P xT with
      | false => simp [hseq] at h
      | true =>
        simp only [hseq, Bool.not_true, cond_false] at h
        cases hsz : szOf P elem with
        | none => simp [hsz] at h
        | some sz =>
          simp only [hsz, Option.bind_some] at h
          cases hby : bytesOf' P elem with
          | none => simp [hby] at h
          | some bs =>
            simp only [hby, Option.bind_some] at h
            obtain ⟨i, hi, rfl, rfl⟩ := info_bytes hsz hby
            cases hz : zeroA P elem with
            | none => simp [hz] at h
            | some z =>
              obtain ⟨i2, hi2, hz2, _⟩ := zeroA_some hz
              rw [hi] at hi2; injection hi2 with hi2; subst hi2
              simp only [hz, Option.bind_some] at h
              cases hn : sliceLen x with
              | none => simp [hn] at h
              | some n =>
                simp only [hn, Option.bind_some] at h
                have hlen := sliceLen_rel (P := P) hn hx w
                cases hf : firstA μ i.size n x with
                | none => simp [hf] at h
                | some new =>
                  simp only [hf, Option.bind_some] at h
                  cases hnl : (new.length == n * i.size && z.cells.size == i.size) with
                  | false => simp [hnl] at h
                  | true =>
                    simp only [hnl, Bool.not_true, cond_false] at h
                    simp only [Bool.and_eq_true, beq_iff_eq] at hnl
                    obtain ⟨hnl, hzs⟩ := hnl
                    obtain ⟨new', hnew, _, hfirst, hatom⟩ := firstA_rel (P := P) hm hf hx (fun m hm' => by rw [hn] at hm'; injection hm' with hm'; omega)
                    have hdrew : ∀ k, k < w.heap.size → w.drew.heap[k]? = w.heap[k]? := fun _ _ => rfl
                    cases hsl : vSlice s with
                    | none => simp [hsl] at h
                    | some y =>
                      obtain ⟨q, len, cap⟩ := y
                      simp only [hsl] at h
                      rcases vSlice_rel hsl hs with ⟨rfl, hse, rfl⟩ | ⟨b, o, p, a', c', rfl, hρ, hse, rfl, hcap⟩
                      · -- nil
                        cases len with
                        | succ _ => simp at h
                        | zero =>
                          cases cap with
                          | succ _ => simp at h
                          | zero =>
                            simp only at h
                            by_cases hn0 : n = 0
                            · have e : (n == 0) = true := by simp [hn0]
                              rw [e, cond_true] at h
                              injection h with h
                              injection h with h1 h2
                              subst h1 h2
                              refine ⟨ρ, .slice none 0 0, w, ?_, hs, Adv.refl hm⟩
                              have := append_room (P := P) (w := w) (w' := w) (base := none) (len := 0) (cap := 0) (ty := ty) hu hseq hi hlen (by omega) (hfirst w fun _ _ => rfl) (fun a e => by cases e) (fun _ => rfl)
                              rw [hn0] at this
                              simpa using this
                            · have e : (n == 0) = false := by simp [hn0]
                              rw [e, cond_false] at h
                              cases hc : (Nat.ble (n * i.bytes) (2 ^ 47) && Nat.ble n (2 ^ 47)) with
                              | false => rw [hc, cond_false] at h; cases h
                              | true =>
                                rw [hc, cond_true] at h
                                simp only [Bool.and_eq_true] at hc
                                have hc1 := Nat.le_of_ble_eq_true hc.1
                                have hc2 := Nat.le_of_ble_eq_true hc.2
                                obtain ⟨nc, rest, hge, hrl, hrun⟩ := append_new (P := P) (w := w) (base := none) (len := 0) (cap := 0) (ty := ty) (olds := []) (news := new') hu hseq hi hz2 hlen (by omega) (by simpa using hc1) (by simpa using hc2) (by simp [Builtin.firstCells]) (hfirst w.drew hdrew)
                                cases hnw : newA μ i.size new with
                                | none => simp [hnw] at h
                                | some am =>
                                  obtain ⟨ad, μ2⟩ := am
                                  simp [hnw] at h
                                  obtain ⟨rfl, rfl⟩ := h
                                  obtain ⟨k1, k2, k3⟩ := newA_sound (t := elem) (fr := (0, 0)) (C := ([] ++ new' ++ rest).toArray) hm hnw hnew (fun i v hv => by simpa using get_app hv) (Newer.drew w _) (fun i _ => by simp)
                                  subst k1
                                  refine ⟨_, _, _, hrun, ?_, k3⟩
                                  have hsize : ([] ++ new' ++ rest).toArray.size = nc * i.size := by
                                    have h1 := hnew.1
                                    rw [hzs] at hrl
                                    simp only [List.nil_append, List.size_toArray, List.length_append, ← h1, hnl, hrl, ← Nat.add_mul]
                                    congr 1; omega
                                  have := VRel.loose (o := 0) (n := 0 + n) (k := n) (a := 0) (c := nc) k2 (by omega) (by omega) (fun _ => rfl) (Nat.le_refl _) (by rw [hsize]; simp)
                                  simpa using this
                      · simp only at h
                        unfold appendAt at h
                        by_cases hn0 : n = 0
                        · have e : (n == 0) = true := by simp [hn0]
                          rw [e, cond_true] at h
                          injection h with h
                          injection h with h1 h2
                          subst h1 h2
                          have hnil : new' = [] := by
                            have := hnew.1
                            rw [hnl, hn0] at this
                            simp at this
                            exact List.length_eq_zero_iff.1 this.symm
                          have hle : len ≤ c' := by
                            rcases hcap with ⟨_, rfl, _, h⟩ | ⟨k, _, h1, h2, _⟩ <;> omega
                          refine ⟨ρ, .slice (some ⟨p.1, a', none⟩) len c', w, ?_, hs, Adv.refl hm⟩
                          have hfw := hfirst w fun _ _ => rfl
                          have := append_room (P := P) (w := w) (w' := w) (base := some ⟨p.1, a', none⟩) (len := len) (cap := c') (ty := ty) hu hseq hi hlen (by omega) hfw (fun a e => by rw [hnil]; rfl) (fun e => by cases e)
                          rw [hn0] at this
                          simpa using this
                        · have e : (n == 0) = false := by simp [hn0]
                          rw [e, cond_false] at h
                          -- the room that is known
                          have hroom : (bif Nat.blt cap big then cap else cap - big) = (if cap < big then cap else cap - big) := by
                            by_cases hc : cap < big
                            · rw [bltT hc, cond_true, if_pos hc]
                            · rw [bltF hc, cond_false, if_neg hc]
                          rw [hroom] at h
                          by_cases hfit : len + n ≤ (if cap < big then cap else cap - big)
                          · rw [bleT hfit, cond_true] at h
                            cases hst : storeA μ b (o + len * i.size) new with
                            | none => simp [hst] at h
                            | some μ2 =>
                              simp [hst] at h
                              obtain ⟨rfl, rfl⟩ := h
                              obtain ⟨hrun, hadv⟩ := storeA_sound (P := P) hm hst hρ hnew
                              have hoff : a' = p.2 + o ∧ len + n ≤ c' := by
                                rcases hcap with ⟨hlt, rfl, h, _⟩ | ⟨k, rfl, h1, h2, h3, _⟩
                                · rw [if_pos hlt] at hfit; exact ⟨h, hfit⟩
                                · rw [if_neg (by omega)] at hfit; exact ⟨h3 (by omega), by omega⟩
                              obtain ⟨rfl, hcc⟩ := hoff
                              have hres := append_room (P := P) (w := w) (base := some ⟨p.1, p.2 + o, none⟩) (len := len) (cap := c') (ty := ty) hu hseq hi hlen hcc (hfirst w fun _ _ => rfl)
                                (fun a e => by injection e with e; rw [← e, add_plain, show p.2 + o + len * i.size = p.2 + (o + len * i.size) by omega]; exact hrun) (fun e => by cases e)
                              refine ⟨ρ, _, _, hres, ?_, hadv⟩
                              rcases hcap with ⟨hlt, rfl, _, _⟩ | ⟨k, rfl, h1, h2, h3, h4, h5⟩
                              · rw [if_pos hlt] at hfit
                                exact .exact hρ hlt hfit
                              · rw [if_neg (by omega)] at hfit
                                exact .loose hρ (by omega) h2 h3 h4 h5
                          · rw [bleF hfit, cond_false] at h
                            cases hc : (Nat.ble ((len + n) * i.bytes) (2 ^ 47) && Nat.ble (len + n) (2 ^ 47)) with
                            | false => rw [hc, cond_false] at h; cases h
                            | true =>
                              rw [hc, cond_true] at h
                              simp only [Bool.and_eq_true] at hc
                              have hc1 := Nat.le_of_ble_eq_true hc.1
                              have hc2 := Nat.le_of_ble_eq_true hc.2
                              cases hold : firstA μ i.size len s with
                              | none => simp [hold] at h
                              | some old =>
                                simp only [hold, Option.bind_some] at h
                                have hslen : sliceLen s = some len := by rw [hse]; rfl
                                obtain ⟨old', hold', holdlen, hofirst, hoatom⟩ := firstA_rel (P := P) hm hold hs (fun m hm' => by rw [hslen] at hm'; injection hm' with hm'; omega)
                                have holdl := holdlen (by rw [hse]; intro s; simp)
                                -- a new array, of whatever capacity
                                have fresh : ∀ μ2 : Mem, newA μ i.size (old ++ new) = some (⟨μ.size, 0, none⟩, μ2) → c' < len + n →
                                    ∃ ρ' v' w', (Builtin.append_ #[sT, xT] ty #[.slice (some ⟨p.1, a', none⟩) len c', x']).run P w = .ok v' w' ∧ VRel ρ' (slc μ.size 0 (len + n) (big + (len + n))) v' ∧ Adv ρ μ w ρ' μ2 w' := by
                                  intro μ2 hnw hlt
                                  obtain ⟨nc, rest, hge, hrl, hrun⟩ := append_new (P := P) (w := w) (base := some ⟨p.1, a', none⟩) (len := len) (cap := c') (ty := ty) (olds := old') (news := new') hu hseq hi hz2 hlen hlt hc1 hc2 (hofirst w.drew hdrew) (hfirst w.drew hdrew)
                                  obtain ⟨k1, k2, k3⟩ := newA_sound (t := elem) (fr := (0, 0)) (C := (old' ++ new' ++ rest).toArray) hm hnw (hold'.append hnew) (fun i v hv => by simpa using get_app hv) (Newer.drew w _) (fun i _ => by simp)
                                  refine ⟨_, _, _, hrun, ?_, k3⟩
                                  have hsize : (old' ++ new' ++ rest).toArray.size = nc * i.size := by
                                    have h1 := hnew.1
                                    have h2 := hold'.1
                                    rw [hzs] at hrl
                                    simp only [List.size_toArray, List.length_append, ← h1, ← h2, hnl, holdl, hrl, ← Nat.add_mul]
                                    congr 1; omega
                                  have := VRel.loose (o := 0) (n := len + n) (k := len + n) (a := 0) (c := nc) k2 (Nat.le_refl _) hge (fun _ => rfl) (Nat.le_refl _) (by rw [hsize]; simp)
                                  simpa [slc] using this
                                by_cases hcb : cap < big
                                · rw [bltT hcb, cond_true] at h
                                  cases hnw : newA μ i.size (old ++ new) with
                                  | none => simp [hnw] at h
                                  | some am =>
                                    obtain ⟨ad, μ2⟩ := am
                                    simp [hnw] at h
                                    obtain ⟨rfl, rfl⟩ := h
                                    have had : ad = ⟨μ.size, 0, none⟩ := by
                                      unfold newA at hnw
                                      split at hnw
                                      · injection hnw with hnw; injection hnw with h1 _; exact h1.symm
                                      · cases hnw
                                    subst had
                                    rw [if_pos hcb] at hfit
                                    have hcc : c' < len + n := by
                                      rcases hcap with ⟨_, rfl, _⟩ | ⟨k, rfl, _⟩
                                      · omega
                                      · omega
                                    exact fresh μ2 hnw hcc
                                · rw [bltF hcb, cond_false] at h
                                  rw [if_neg hcb] at hfit
                                  cases hez : eszA μ b with
                                  | none => simp [hez] at h
                                  | some ez =>
                                    simp only [hez, Option.bind_some] at h
                                    cases hcnd : (ez == i.size && (new.all atomic && old.all atomic)) with
                                    | false => rw [hcnd, cond_false] at h; cases h
                                    | true =>
                                      rw [hcnd, cond_true] at h
                                      injection h with h
                                      injection h with h1 h2
                                      subst h1 h2
                                      simp only [Bool.and_eq_true, beq_iff_eq, List.all_eq_true] at hcnd
                                      obtain ⟨rfl, hat1, hat2⟩ := hcnd
                                      obtain ⟨cs, hbc⟩ : ∃ cs, μ.blks[b]? = some (.cells cs true i.size) := by
                                        unfold eszA Mem.get at hez
                                        split at hez
                                        · rename_i cs e hx; injection hez with hez; subst hez; exact ⟨cs, hx⟩
                                        · cases hez
                                      have hlive := (hm.obj b _ p hbc hρ).lt rfl
                                      obtain ⟨hpe, C, e, fr, hh, hl1, hl2, hfz, hcells⟩ := hm.obj b _ p hbc hρ
                                      rcases hcap with ⟨hlt, _⟩ | ⟨k, rfl, hnk, hkc, hoff, hsa, hlim⟩
                                      · exact absurd hlt hcb
                                      · rw [hpe] at hlim
                                        by_cases hroom2 : len + n ≤ c'
                                        · -- in place
                                          have hin : a' + (len + n) * i.size ≤ p.2 + p.lim := by
                                            have : (len + n) * i.size ≤ c' * i.size := Nat.mul_le_mul_right _ hroom2
                                            omega
                                          have hnl' : new'.length = n * i.size := by rw [← hnew.1]; exact hnl
                                          have hcl : ∀ j, j < new'.length → (w.cell? ⟨p.1, a' + len * i.size + j, none⟩).isSome = true := by
                                            intro j hj
                                            have : a' + len * i.size + j < C.size := by rw [hnl'] at hj; rw [Nat.add_mul] at hin; omega
                                            simp [World.cell?, hh, this]
                                          have hfr : ∀ j, j < new'.length → w.frozen? ⟨p.1, a' + len * i.size + j, none⟩ = false := by
                                            intro j hj
                                            have h1 := hfz rfl (a' + len * i.size + j) (by omega) (by rw [hnl'] at hj; rw [Nat.add_mul] at hin; omega)
                                            simp only [World.frozen?, hh, Bool.and_eq_false_iff, decide_eq_false_iff_not]
                                            omega
                                          have hone := one_all hnew hatom
                                          have hstc := run_storeCells_cells (P := P) p.1 (a' + len * i.size) new' 0 w (by simpa using hcl) (by simpa using hfr) hone
                                          have hres := append_room (P := P) (w := w) (base := some ⟨p.1, a', none⟩) (len := len) (cap := c') (ty := ty) hu hseq hi hlen hroom2 (hfirst w fun _ _ => rfl)
                                            (fun a e => by injection e with e; rw [← e, add_plain]; simpa using hstc) (fun e => by cases e)
                                          obtain ⟨C', k1, k2, k3, k4⟩ := setCells_heap p.1 new' (a' + len * i.size) w C e fr hh
                                          refine ⟨ρ ++ [⟨p.1, a', p.2 + p.lim - a', i.size⟩], _, _, hres, ?_, Adv.renew hm hbc rfl hρ (setCells_turn p.1 new' _ w) ⟨p.1, a', p.2 + p.lim - a', i.size⟩ rfl ?_⟩
                                          · have hpl : (ρ ++ [⟨p.1, a', p.2 + p.lim - a', i.size⟩])[μ.size]? = some ⟨p.1, a', p.2 + p.lim - a', i.size⟩ := by rw [Mem.size, ← hm.len]; simp
                                            have := VRel.loose (o := 0) (n := len + n) (k := len + n) (a := a') (c := c') hpl (Nat.le_refl _) hroom2 (fun _ => rfl) (Nat.le_refl _) (by show a' + c' * i.size ≤ a' + (p.2 + p.lim - a'); omega)
                                            simpa [slc] using this
                                          · refine ⟨rfl, C', e, fr, k1, ?_, ?_, fun _ j h1 h2 => hfz rfl j (by simp only at h1; omega) (by simp only at h2; omega), fun j v hj => ?_⟩
                                            · simp only [List.length_append, holdl, hnl, ← Nat.add_mul]; omega
                                            · rw [k2]; simp only; omega
                                            · simp only
                                              by_cases hjo : j < old.length
                                              · rw [List.getElem?_append_left hjo] at hj
                                                have hk0 : 0 < len := by
                                                  rcases Nat.eq_zero_or_pos len with h | h
                                                  · rw [holdl, h] at hjo; simp at hjo
                                                  · exact h
                                                have ha := hoff (by omega)
                                                obtain ⟨v', hv1, hv2⟩ := hold'.get hj
                                                refine ⟨v', ?_, hv2.mono fun b p hb => get_push_lt hb, hat2 v (List.mem_of_getElem? hj)⟩
                                                rw [k3 (a' + j) (by left; rw [holdl] at hjo; omega)]
                                                -- what the model's array holds there
                                                have hcell : ∃ u, C[a' + j]? = some u ∧ v' = u := by
                                                  have hrd := hofirst w fun _ _ => rfl
                                                  have hjc : a' + j < C.size := by rw [holdl] at hjo; rw [Nat.add_mul] at hin; omega
                                                  refine ⟨C[a' + j], by simp [hjc], ?_⟩
                                                  have hall : ∀ q v, ((C.toList.drop a').take (len * i.size))[q]? = some v → w.cell? ((⟨p.1, a', none⟩ : Addr).add q) = some v := by
                                                    intro q v hq
                                                    rw [add_plain]
                                                    rw [List.getElem?_take] at hq
                                                    split at hq
                                                    · rw [List.getElem?_drop] at hq
                                                      simp only [World.cell?, hh]
                                                      simpa using hq
                                                    · cases hq
                                                  have hl := run_loadCells_list (P := P) w ⟨p.1, a', none⟩ ((C.toList.drop a').take (len * i.size)) hall
                                                  have hlen2 : ((C.toList.drop a').take (len * i.size)).length = len * i.size := by
                                                    rw [Nat.add_mul] at hin
                                                    simp; omega
                                                  rw [hlen2] at hl
                                                  have hrd2 : (Builtin.firstCells i.size len (.slice (some ⟨p.1, a', none⟩) len c')).run P w = .ok ((C.toList.drop a').take (len * i.size)).toArray w := by
                                                    simp only [Builtin.firstCells]; exact hl
                                                  rw [hrd2] at hrd
                                                  injection hrd with hrd
                                                  have hrd : (C.toList.drop a').take (len * i.size) = old' := by
                                                    have := congrArg Array.toList hrd
                                                    simpa using this
                                                  rw [← hrd, List.getElem?_take] at hv1
                                                  split at hv1
                                                  · rw [List.getElem?_drop] at hv1
                                                    simp [hjc] at hv1
                                                    exact hv1.symm
                                                  · cases hv1
                                                obtain ⟨u, hu1, rfl⟩ := hcell
                                                exact hu1
                                              · rw [List.getElem?_append_right (by omega)] at hj
                                                obtain ⟨v', hv1, hv2⟩ := hnew.get hj
                                                have hjn : j - old.length < new'.length := by
                                                  rcases Nat.lt_or_ge (j - old.length) new'.length with h | h
                                                  · exact h
                                                  · rw [List.getElem?_eq_none h] at hv1; cases hv1
                                                refine ⟨v', ?_, hv2.mono fun b p hb => get_push_lt hb, hat1 v (List.mem_of_getElem? hj)⟩
                                                have := k4 (j - old.length) (by rw [hnl'] at hjn; rw [Nat.add_mul] at hin; omega) hjn
                                                rw [holdl] at this hv1
                                                rw [show a' + j = a' + len * i.size + (j - len * i.size) by rw [holdl] at hjo; omega, this]
                                                exact hv1
                                        · -- a new array; the elder block is dead
                                          have hnw : newA μ i.size (old ++ new) = some (⟨μ.size, 0, none⟩, μ.push (.cells (old ++ new) true i.size)) := by
                                            unfold newA
                                            rw [if_pos]
                                            simp only [List.all_eq_true, List.mem_append]
                                            rintro u (hu | hu)
                                            · exact hat2 u hu
                                            · exact hat1 u hu
                                          obtain ⟨nc, rest, hge, hrl, hrun⟩ := append_new (P := P) (w := w) (base := some ⟨p.1, a', none⟩) (len := len) (cap := c') (ty := ty) (olds := old') (news := new') hu hseq hi hz2 hlen (by omega) hc1 hc2 (hofirst w.drew hdrew) (hfirst w.drew hdrew)
                                          have hkill := Adv.turn (low := μ.low) hm hbc rfl hρ (Turn.refl p.1 w) (x := .dead) trivial (Nat.le_refl _) (fun _ _ _ _ => trivial)
                                          have hsz2 : (μ.set b .dead).size = μ.size := by simp [Mem.set, Mem.size]
                                          have hnw2 : newA (μ.set b .dead) i.size (old ++ new) = some (⟨(μ.set b .dead).size, 0, none⟩, (μ.set b .dead).push (.cells (old ++ new) true i.size)) := by
                                            unfold newA
                                            rw [if_pos]
                                            simp only [List.all_eq_true, List.mem_append]
                                            rintro u (hu | hu)
                                            · exact hat2 u hu
                                            · exact hat1 u hu
                                          obtain ⟨k1, k2, k3⟩ := newA_sound (t := elem) (fr := (0, 0)) (C := (old' ++ new' ++ rest).toArray) hkill.rel hnw2 (hold'.append hnew) (fun i v hv => by simpa using get_app hv) (Newer.drew w _) (fun i _ => by simp)
                                          refine ⟨_, _, _, hrun, ?_, Adv.trans hm hkill k3⟩
                                          have hsize : (old' ++ new' ++ rest).toArray.size = nc * i.size := by
                                            have h1 := hnew.1
                                            have h2 := hold'.1
                                            rw [hzs] at hrl
                                            simp only [List.size_toArray, List.length_append, ← h1, ← h2, hnl, holdl, hrl, ← Nat.add_mul]
                                            congr 1; omega
                                          rw [show ({ blks := μ.blks.set b .dead, low := μ.low } : Mem).size = μ.size from hsz2] at k2
                                          have := VRel.loose (o := 0) (n := len + n) (k := len + n) (a := 0) (c := nc) k2 (Nat.le_refl _) hge (fun _ => rfl) (Nat.le_refl _) (by rw [hsize]; simp)
                                          simpa [slc] using this

end Go.Vm
