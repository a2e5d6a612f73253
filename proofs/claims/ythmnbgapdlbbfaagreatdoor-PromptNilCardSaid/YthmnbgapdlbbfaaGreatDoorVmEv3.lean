/- Soundness of the evaluator: what is left of a call's blocks; a function's results; functions. -/
import Derived.Test.YthmnbgapdlbbfaaGreatDoorVmEv2
set_option linter.unusedSimpArgs false
set_option linter.unusedVariables false
namespace Go.Vm
open Go.RowKit

variable {P : Program}

/-! ### Moving a result's blocks -/
theorem mapM_some {α β : Type} {f : α → Option β} : ∀ (l : List α) (os : List β), l.mapM f = some os → os.length = l.length ∧ ∀ (i : Nat) (x : α), l[i]? = some x → ∃ y : β, f x = some y ∧ os[i]? = some y := by
  intro l
  induction l with
  | nil => intro os h; simp at h; subst h; exact ⟨rfl, fun i x h => by simp at h⟩
  | cons a l ih =>
    intro os h
    simp only [List.mapM_cons] at h
    cases ha : f a with
    | none => simp [ha] at h
    | some b =>
      cases hl : l.mapM f with
      | none => simp [ha, hl] at h
      | some bs =>
        simp [ha, hl] at h
        subst h
        obtain ⟨h1, h2⟩ := ih bs hl
        refine ⟨by simp [h1], fun i x hx => ?_⟩
        cases i with
        | zero => simp at hx; subst hx; exact ⟨b, ha, rfl⟩
        | succ i => simpa using h2 i x (by simpa using hx)

theorem dedup_spec (l : List Nat) : (dedup l).Nodup ∧ ∀ x ∈ dedup l, x ∈ l := by
  unfold dedup
  have key : ∀ (l acc : List Nat), acc.Nodup → (l.foldl (fun acc x => if acc.contains x then acc else acc ++ [x]) acc).Nodup ∧
      ∀ x ∈ l.foldl (fun acc x => if acc.contains x then acc else acc ++ [x]) acc, x ∈ acc ∨ x ∈ l := by
    intro l
    induction l with
    | nil => intro acc h; exact ⟨h, fun x hx => .inl hx⟩
    | cons y l ih =>
      intro acc h
      simp only [List.foldl_cons]
      by_cases hy : acc.contains y = true
      · rw [if_pos hy]
        obtain ⟨h1, h2⟩ := ih acc h
        exact ⟨h1, fun x hx => (h2 x hx).imp id (List.mem_cons_of_mem _)⟩
      · rw [if_neg hy]
        have hy' : y ∉ acc := by simpa using hy
        obtain ⟨h1, h2⟩ := ih (acc ++ [y]) (List.nodup_append.2 ⟨h, by simp, fun a ha b hb => by simp at hb; subst hb; exact fun e => hy' (e ▸ ha)⟩)
        refine ⟨h1, fun x hx => ?_⟩
        rcases h2 x hx with h | h
        · rcases List.mem_append.1 h with h | h
          · exact .inl h
          · simp at h; subst h; exact .inr (by simp)
        · exact .inr (List.mem_cons_of_mem _ h)
  obtain ⟨h1, h2⟩ := key l [] List.nodup_nil
  exact ⟨h1, fun x hx => (h2 x hx).resolve_left (by simp)⟩

theorem refs1_ge {s : Nat} {v : Value} : ∀ x ∈ refs1 s v, s ≤ x := by
  intro x hx
  have one : ∀ u : Value, x ∈ (match u with | .pointer (some a) => if s ≤ a.block then [a.block] else [] | .slice (some a) _ _ => if s ≤ a.block then [a.block] else [] | _ => []) → s ≤ x := by
    intro u hu
    split at hu
    · split at hu
      · rename_i h; simp at hu; subst hu; exact h
      · cases hu
    · split at hu
      · rename_i h; simp at hu; subst hu; exact h
      · cases hu
    · cases hu
  unfold refs1 at hx
  split at hx
  · split at hx
    · rename_i h; simp at hx; subst hx; exact h
    · cases hx
  · split at hx
    · rename_i h; simp at hx; subst hx; exact h
    · cases hx
  · obtain ⟨u, _, hu⟩ := List.mem_flatMap.1 hx
    exact one u hu
  · obtain ⟨u, _, hu⟩ := List.mem_flatMap.1 hx
    exact one u hu
  · cases hx

/-- A renaming against an elder one. -/
def ReOk (s : Nat) (l : List Nat) (ρ' ρ2 : Ren) : Prop :=
  (∀ b p, b < s → ρ'[b]? = some p → ρ2[b]? = some p) ∧ ∀ i b p, l[i]? = some b → ρ'[b]? = some p → ρ2[s + i]? = some p

theorem renAt_ok {s : Nat} {l : List Nat} {ρ' ρ2 : Ren} (h : ReOk s l ρ' ρ2) {b o : Nat} {a' : Addr} (hr : renAt s l ⟨b, o, none⟩ = some a') {p : Pl} (hp : ρ'[b]? = some p) :
    ∃ c, a' = ⟨c, o, none⟩ ∧ ρ2[c]? = some p := by
  unfold renAt at hr
  simp only at hr
  split at hr
  · rename_i hb
    injection hr with hr
    exact ⟨b, hr.symm, h.1 b p hb hp⟩
  · split at hr
    · rename_i i hi
      simp at hr
      subst hr
      refine ⟨s + i, rfl, h.2 i b p ?_ hp⟩
      rw [List.idxOf?_eq_some_iff] at hi
      obtain ⟨hlt, hh, _⟩ := hi
      rw [List.getElem?_eq_getElem hlt]
      exact congrArg some (by simpa using hh)
    · cases hr

theorem renList_ok {n s : Nat} {l : List Nat} {ρ' ρ2 : Ren} (ih : ∀ v v2 v', renN n s l v = some v2 → VRel ρ' v v' → VRel ρ2 v2 v') {x y z : List Value} (h : x.mapM (renN n s l) = some y) (hr : LRel ρ' x z) : LRel ρ2 y z := by
  obtain ⟨h1, h2⟩ := mapM_some x y h
  refine ⟨h1.trans hr.1, fun i u u' hu hu' => ?_⟩
  have hi : i < x.length := by
    rcases Nat.lt_or_ge i x.length with h | h
    · exact h
    · rw [List.getElem?_eq_none (by omega)] at hu; cases hu
  obtain ⟨q, e1, e2⟩ := h2 i x[i] (by simp [hi])
  rw [hu] at e2
  injection e2 with e2
  subst e2
  exact ih _ _ _ e1 (hr.2 i _ _ (by simp [hi]) hu')

theorem renN_rel {s : Nat} {l : List Nat} {ρ' ρ2 : Ren} (h : ReOk s l ρ' ρ2) : ∀ (n : Nat) (v v2 v' : Value), renN n s l v = some v2 → VRel ρ' v v' → VRel ρ2 v2 v' := by
  intro n
  induction n with
  | zero => intro v v2 v' hr; cases hr
  | succ n ih =>
    intro v v2 v' hr hv
    have pl : (if plain v then some v else none) = some v2 → VRel ρ2 v2 v' := by
      intro hr
      split at hr
      · rename_i hp
        injection hr with hr
        subst hr
        exact hv.plain_any hp
      · cases hr
    cases v with
    | pointer a =>
      cases a with
      | none => exact pl hr
      | some a =>
        change (renAt s l a).map _ = some v2 at hr
        cases hv with
        | lit hl => simp [litV] at hl
        | ptr hp =>
          obtain ⟨a', hx, rfl⟩ := Option.map_eq_some_iff.1 hr
          obtain ⟨c, rfl, hc⟩ := renAt_ok h hx hp
          exact .ptr hc
    | slice a m cp =>
      cases a with
      | none => exact pl hr
      | some a =>
        change (renAt s l a).map _ = some v2 at hr
        cases hv with
        | lit hl => simp [litV] at hl
        | exact hp h1 h2 =>
          obtain ⟨a', hx, rfl⟩ := Option.map_eq_some_iff.1 hr
          obtain ⟨c, rfl, hc⟩ := renAt_ok h hx hp
          exact .exact hc h1 h2
        | loose hp h1 h2 h3 h4 h5 =>
          obtain ⟨a', hx, rfl⟩ := Option.map_eq_some_iff.1 hr
          obtain ⟨c, rfl, hc⟩ := renAt_ok h hx hp
          exact .loose hc h1 h2 h3 h4 h5
    | func g first captured =>
      cases g with
      | func f =>
        change (match first.toList.mapM (renN n s l), captured.toList.mapM (renN n s l) with
          | some x, some y => some (Value.func (.func f) x.toArray y.toArray)
          | _, _ => none) = some v2 at hr
        obtain ⟨x', y', rfl, h1, h2⟩ := func_rel hv
        split at hr
        · rename_i x y hx hy
          injection hr with hr
          subst hr
          have k1 := renList_ok ih hx h1
          have k2 := renList_ok ih hy h2
          exact .func _ (by simpa using k1.1) (fun i u u' hu hu' => k1.2 i u u' (by simpa using hu) (by simpa using hu')) (by simpa using k2.1) (fun i u u' hu hu' => k2.2 i u u' (by simpa using hu) (by simpa using hu'))
        · cases hr
      | _ => exact pl hr
    | tuple vs =>
      change (vs.toList.mapM (renN n s l)).map _ = some v2 at hr
      cases hx : vs.toList.mapM (renN n s l) with
      | none => simp [hx] at hr
      | some y =>
        simp [hx] at hr
        subst hr
        cases hv with
        | lit hl => simp [litV] at hl
        | tuple hs ex =>
          have := VRel.tuple_l (renList_ok ih hx (LRel.of_arrays hs ex))
          simpa using this
    | _ => exact pl hr

theorem plainObj_rel {ρ' ρ2 : Ren} {w : World} {p : Pl} {o : AObj} (ho : plainObj o = true) (h : ORel ρ' w p o) : ORel ρ2 w p o := by
  cases o with
  | cells c wr e =>
    obtain ⟨hz, C, t, fr, hh, h1, h2, h3, h4⟩ := h
    have ho : ∀ v ∈ c, plain v = true := by
      cases wr with
      | false => cases ho
      | true => exact List.all_eq_true.1 ho
    exact ⟨hz, C, t, fr, hh, h1, h2, h3, fun i v hi => let ⟨v', k1, k2, k3⟩ := h4 i v hi; ⟨v', k1, k2.plain_any (ho v (List.mem_of_getElem? hi)), k3⟩⟩
  | _ => cases ho

theorem take_get {α : Type} {l : List α} {s b : Nat} {o : α} (h : (l.take s)[b]? = some o) : b < s ∧ l[b]? = some o := by
  rw [List.getElem?_take] at h
  split at h
  · rename_i hb; exact ⟨hb, h⟩
  · cases h

theorem tidy_sound {ρ ρ' : Ren} {μ μ' μ2 : Mem} {w w' : World} {v v2 v' : Value} (hm : MRel ρ μ.blks w) (ha : Adv ρ { μ with low := big } w ρ' μ' w') (hv : VRel ρ' v v') (ht : tidy μ.size v μ' = (v2, μ2)) :
    ∃ ρ2, VRel ρ2 v2 v' ∧ Adv ρ μ w ρ2 { μ2 with low := min μ.low μ'.low } w' := by
  have hgrow : μ.size ≤ μ'.blks.length := ha.grow
  have hρ : ρ.length = μ.size := hm.len
  have whole : Adv ρ μ w ρ' { μ' with low := min μ.low μ'.low } w' :=
    ⟨ha.rel, ha.pre, ha.size, ha.keep, ha.own, ha.lives, ha.os, ha.tape, ha.output, Nat.min_le_left _ _, ha.grow, fun s hs hl hr => ha.cut s hs (Nat.le_trans hl (Nat.min_le_right _ _)) hr⟩
  unfold tidy at ht
  split at ht
  · injection ht with h1 h2
    subst h1 h2
    exact ⟨ρ', hv, whole⟩
  · rename_i hlow
    have hcut : MRel ρ (μ'.blks.take μ.size) w' := by
      have := ha.cut μ.size (Nat.le_refl _) (by omega) (by
        rw [List.take_of_length_le (by omega : ρ.length ≤ μ.size)]
        show MRel ρ (μ.blks.take μ.blks.length) w
        rw [List.take_length]
        exact hm)
      rwa [List.take_of_length_le (by omega : ρ.length ≤ μ.size)] at this
    split at ht
    · rename_i hp
      injection ht with h1 h2
      subst h1 h2
      refine ⟨ρ, hv.plain_any hp, hcut, fun _ _ h => h, ha.size, ha.keep, fun r hr ho => ?_, fun r hr ho => ?_, ha.os, ha.tape, ha.output, Nat.min_le_left _ _, ?_, fun s hs hl hr => ?_⟩
      · obtain ⟨b, o, p, hb, hoo, hpp, hpr⟩ := ho
        exact ha.own r hr ⟨b, o, p, (take_get hb).2, hoo, ha.pre b p hpp, hpr⟩
      · obtain ⟨b, o, p, hb, hoo, hpp, hpr⟩ := ho
        exact ha.lives r hr ⟨b, o, p, (take_get hb).2, hoo, ha.pre b p hpp, hpr⟩
      · have : μ.size = μ.blks.length := rfl
        simp; omega
      · have := ha.cut s hs (Nat.le_trans hl (Nat.min_le_right _ _)) hr
        simp only [List.take_take]
        rw [Nat.min_eq_left (show s ≤ μ.size from hs)]
        exact this
    · dsimp only at ht
      split at ht
      · rename_i v3 os hren hos
        injection ht with h1 h2
        subst h1 h2
        obtain ⟨hnd, hmem⟩ := dedup_spec (refs1 μ.size v)
        generalize dedup (refs1 μ.size v) = l at *
        have hge : ∀ b ∈ l, μ.size ≤ b := fun b hb => refs1_ge b (hmem b hb)
        obtain ⟨hl1, hl2⟩ := mapM_some l os hos
        have hl3 : ∀ (i b : Nat), l[i]? = some b → ∃ o, μ'.blks[b]? = some o ∧ plainObj o = true ∧ os[i]? = some o := by
          intro i b hb
          obtain ⟨o, h1, h2⟩ := hl2 i b hb
          cases hg : μ'.get b with
          | none => simp [hg] at h1
          | some o' =>
            simp [hg] at h1
            obtain ⟨h1, rfl⟩ := h1
            exact ⟨o', hg, h1, h2⟩
        let ρ2 : Ren := ρ ++ l.map fun b => (ρ'[b]?).getD ⟨0, 0, 0, 0⟩
        have hre : ReOk μ.size l ρ' ρ2 := by
          refine ⟨fun b p hb hp => ?_, fun i b p hi hp => ?_⟩
          · have h1 : ρ[b]? = some ρ[b] := by simp [show b < ρ.length by omega]
            have h2 := ha.pre _ _ h1
            rw [hp] at h2
            injection h2 with h2
            show (ρ ++ _)[b]? = _
            rw [List.getElem?_append_left (by omega), h1, h2]
          · show (ρ ++ _)[μ.size + i]? = _
            rw [List.getElem?_append_right (by omega), hρ, Nat.add_sub_cancel_left]
            simp [hi, hp]
        -- where a block of the new memory came from
        have src : ∀ (c : Nat) (o : AObj) (p : Pl), (μ'.blks.take μ.size ++ os)[c]? = some o → ρ2[c]? = some p → ∃ b, μ'.blks[b]? = some o ∧ ρ'[b]? = some p ∧ (c < μ.size ∧ b = c ∨ μ.size ≤ c ∧ μ.size ≤ b ∧ l[c - μ.size]? = some b ∧ plainObj o = true) := by
          intro c o p hc hp
          have htl : (μ'.blks.take μ.size).length = μ.size := by simp; omega
          by_cases hlt : c < μ.size
          · rw [List.getElem?_append_left (by omega)] at hc
            have h1 : ρ[c]? = some ρ[c] := by simp [show c < ρ.length by omega]
            have h2 : ρ2[c]? = some ρ[c] := by
              show (ρ ++ _)[c]? = _
              rw [List.getElem?_append_left (by omega), h1]
            rw [hp] at h2
            injection h2 with h2
            subst h2
            exact ⟨c, (take_get hc).2, ha.pre _ _ h1, .inl ⟨hlt, rfl⟩⟩
          · rw [List.getElem?_append_right (by omega), htl] at hc
            have hi : c - μ.size < l.length := by
              rcases Nat.lt_or_ge (c - μ.size) os.length with h | h
              · omega
              · rw [List.getElem?_eq_none h] at hc; cases hc
            obtain ⟨o', k1, k2, k3⟩ := hl3 (c - μ.size) l[c - μ.size] (by simp [hi])
            rw [hc] at k3
            injection k3 with k3
            subst k3
            obtain ⟨q, hq⟩ := ha.rel.place k1
            have h2 := hre.2 (c - μ.size) l[c - μ.size] q (by simp [hi]) hq
            rw [show μ.size + (c - μ.size) = c by omega, hp] at h2
            injection h2 with h2
            subst h2
            exact ⟨_, k1, hq, .inr ⟨by omega, hge _ (List.getElem_mem hi), by simp [hi], k2⟩⟩
        refine ⟨ρ2, renN_rel hre 4 _ _ _ hren hv, ⟨?_, fun c o p hc hp => ?_, fun c d o x p q hne hc hd ho hx hp hq => ?_⟩, fun b p hp => get_app hp, ha.size, ha.keep, fun r hr ho => ?_, fun r hr ho => ?_, ha.os, ha.tape, ha.output, Nat.min_le_left _ _, ?_, fun s hs hl hr => ?_⟩
        · simp [ρ2, hl1]; omega
        · obtain ⟨b, k1, k2, k3⟩ := src c o p hc hp
          rcases k3 with ⟨hlt, rfl⟩ | ⟨_, _, _, hpo⟩
          · have htl : (μ'.blks.take μ.size)[b]? = some o := by rw [List.getElem?_take, if_pos hlt]; exact k1
            obtain ⟨q, hq⟩ := hcut.place htl
            have := ha.pre _ _ hq
            rw [k2] at this
            injection this with this
            subst this
            exact (hcut.obj b o _ htl hq).mono fun b p hp => get_app hp
          · exact plainObj_rel hpo (ha.rel.obj b o p k1 k2)
        · obtain ⟨b, k1, k2, k3⟩ := src c o p hc hp
          obtain ⟨b', k1', k2', k3'⟩ := src d x q hd hq
          refine ha.rel.inj b b' o x p q ?_ k1 k1' ho hx k2 k2'
          rcases k3 with ⟨h1, rfl⟩ | ⟨h1, h2, h3, _⟩ <;> rcases k3' with ⟨h1', rfl⟩ | ⟨h1', h2', h3', _⟩
          · exact hne
          · omega
          · omega
          · intro e
            subst e
            have := (List.getElem?_inj (by
              rcases Nat.lt_or_ge (c - μ.size) l.length with h | h
              · exact h
              · rw [List.getElem?_eq_none h] at h3; cases h3) hnd).1 (h3.trans h3'.symm)
            omega
        · obtain ⟨c, o, p, hc, hoo, hpp, hpr⟩ := ho
          obtain ⟨b, k1, k2, _⟩ := src c o p hc hpp
          exact ha.own r hr ⟨b, o, p, k1, hoo, k2, hpr⟩
        · obtain ⟨c, o, p, hc, hoo, hpp, hpr⟩ := ho
          obtain ⟨b, k1, k2, _⟩ := src c o p hc hpp
          exact ha.lives r hr ⟨b, o, p, k1, hoo, k2, hpr⟩
        · show μ.blks.length ≤ (μ'.blks.take μ.size ++ os).length
          simp only [List.length_append, List.length_take]
          have : μ.size = μ.blks.length := rfl
          omega
        · have := ha.cut s hs (Nat.le_trans hl (Nat.min_le_right _ _)) hr
          show MRel (ρ.take s) ((μ'.blks.take μ.size ++ os).take s) w'
          have hs' : s ≤ μ.size := hs
          rw [List.take_append_of_le_length (by simp; omega), List.take_take, Nat.min_eq_left hs']
          exact this
      · injection ht with h1 h2
        subst h1 h2
        exact ⟨ρ', hv, whole⟩

/-! ### Results -/
def resA (P : Program) (A : Regs) (μ : Mem) : ResultVar → Option Value
  | .tmp t => some (getR A t)
  | .cell a t => loadA P μ t (getR A a)
def resC (C : Array Value) : ResultVar → Sem Value
  | .tmp t => pure (C.getD t undef)
  | .cell a t => do loadVar t (← asAddr (C.getD a undef))

theorem res_one {ρ : Ren} {μ : Mem} {w : World} (hm : MRel ρ μ.blks w) {A : Regs} {C : Array Value} (hr : RRel ρ A C) {r : ResultVar} {u : Value} (h1 : resA P A μ r = some u) :
    ∃ u', (resC C r).run P w = .ok u' w ∧ VRel ρ u u' := by
  cases r with
  | tmp t =>
    injection h1 with h1
    subst h1
    exact ⟨_, rfl, hr.val t⟩
  | cell a t =>
    change loadA P μ t (getR A a) = some u at h1
    obtain ⟨u', q1, q2⟩ := loadA_run (P := P) hm h1 (hr.val a)
    refine ⟨u', ?_, q2⟩
    rw [← q1]
    have : ∃ b o, vPtr (getR A a) = some (b, o) := by
      unfold loadA at h1
      cases hp : vPtr (getR A a) with
      | none => simp [hp] at h1
      | some x => exact ⟨x.1, x.2, rfl⟩
    obtain ⟨b, o, hp⟩ := this
    obtain ⟨p, _, e⟩ := vPtr_rel hp (hr.val a)
    simp only [resC]
    rw [e]
    simp [asAddr, Instr.loadAt, Instr.sureAddr]

theorem res_all {ρ : Ren} {μ : Mem} {w : World} (hm : MRel ρ μ.blks w) {A : Regs} {C : Array Value} (hr : RRel ρ A C) : ∀ (rs : List ResultVar) (vs : List Value), rs.mapM (resA P A μ) = some vs →
    ∃ vs' : List Value, (rs.mapM (resC C)).run P w = .ok vs' w ∧ LRel ρ vs vs' := by
  intro rs
  induction rs with
  | nil => intro vs h; simp at h; subst h; exact ⟨[], by simp, LRel.nil ρ⟩
  | cons r rs ih =>
    intro vs h
    simp only [List.mapM_cons] at h
    cases h1 : resA P A μ r with
    | none => simp [h1] at h
    | some u =>
      cases h2 : rs.mapM (resA P A μ) with
      | none => simp [h1, h2] at h
      | some us =>
        simp [h1, h2] at h
        subst h
        obtain ⟨us', k1, k2⟩ := ih us h2
        obtain ⟨u', q1, q2⟩ := res_one hm hr h1
        exact ⟨u' :: us', by simp only [List.mapM_cons, Sem.run_bind, q1, Result.andThen_ok, k1, Sem.run_pure], LRel.cons q2 k2⟩

theorem results_run {ρ : Ren} {μ : Mem} {w : World} (hm : MRel ρ μ.blks w) {A : Regs} {C : Array Value} (hr : RRel ρ A C) {fn : Func} {v : Value} (h : resultsA P fn A μ = some v) :
    ∃ v', (results fn C).run P w = .ok v' w ∧ VRel ρ v v' := by
  have hA : resultsA P fn A μ = (match fn.results.toList.mapM (resA P A μ) with | some [v] => some v | some vs => some (.tuple vs.toArray) | none => none) := by
    unfold resultsA
    have : ∀ (f g : ResultVar → Option Value), (∀ r, f r = g r) → fn.results.toList.mapM f = fn.results.toList.mapM g := fun f g h => by rw [funext h]
    rw [this _ (resA P A μ) (fun r => by cases r <;> rfl)]
    rcases List.mapM (resA P A μ) fn.results.toList with _ | (_ | ⟨x, _ | ⟨y, l⟩⟩) <;> rfl
  rw [hA] at h
  cases hvs : fn.results.toList.mapM (resA P A μ) with
  | none => rw [hvs] at h; cases h
  | some vs =>
    rw [hvs] at h
    obtain ⟨vs', k1, k2⟩ := res_all hm hr _ _ hvs
    have hrun : (results fn C).run P w = .ok (if h : vs'.toArray.size = 1 then vs'.toArray[0] else .tuple vs'.toArray) w := by
      have hC : results fn C = (do let vs ← fn.results.mapM (resC C); pure (if h : vs.size = 1 then vs[0] else .tuple vs)) := by
        unfold results
        have : ∀ (f g : ResultVar → Sem Value), (∀ r, f r = g r) → fn.results.mapM f = fn.results.mapM g := fun f g h => by rw [funext h]
        rw [this _ (resC C) (fun r => by cases r <;> rfl)]
      rw [hC]
      simp only [Sem.run_bind]
      rw [Array.mapM_eq_mapM_toList]
      simp only [Sem.run_map, k1]
      rfl
    rw [hrun]
    refine ⟨_, rfl, ?_⟩
    split at h
    · rename_i v0 e
      injection e with e
      injection h with h
      subst h e
      obtain ⟨u', y', rfl, q1, q2⟩ := k2.of_cons
      have := q2.of_nil
      subst this
      simpa using q1
    · rename_i vs0 hno e
      injection e with e
      injection h with h
      subst h e
      have hne : ¬ vs'.toArray.size = 1 := by
        intro h1
        have : vs.length = 1 := by rw [k2.1]; simpa using h1
        match vs, this, hno with
        | [u], _, hno => exact hno u rfl
      rw [dif_neg hne]
      exact VRel.tuple_l k2
    · rename_i e
      cases e

end Go.Vm
