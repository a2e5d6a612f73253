/- Regions that draw their order: the run. -/
import Derived.Test.YthmnbgapdlbbfaaGreatDoorVmDraw5
set_option linter.unusedSimpArgs false
set_option linter.unusedVariables false
namespace Go.Vm
open Go.RowKit

variable {P : Program}

section
variable {ih : Ev} {ro : Option Nat} {ops : Array Oper} {pre : List (List Nat)} {pl : List (Nat × List Nat)} {A0 : Regs} {μ0 : Mem} {ρ0 : Ren} {w0 : World} {s : Nat} {fin : Out}

def Listed (listed : Array Bool) (i : Nat) : Prop := listed.getD i false = true

theorem listed_set {listed : Array Bool} {i : Nat} (hi : i < listed.size) (j : Nat) : Listed (listed.setIfInBounds i true) j ↔ Listed listed j ∨ j = i := by
  unfold Listed
  by_cases hij : i = j
  · subst hij
    simp [hi]
  · rw [getD_set_ne false hij]
    constructor
    · exact .inl
    · rintro (h | h)
      · exact h
      · exact absurd h.symm hij

/-- Among those that are ready: all that binds them is behind. -/
theorem ready_facts (hp : Plan P ops.toList pre pl) {listed : Array Bool} (hsz : listed.size = ops.size) {D : Nat → Prop} (hD : ∀ i, D i ↔ Listed listed i) (hdown : ∀ i, D i → ∀ j ∈ preAt pre i, D j) {i : Nat} (h : i ∈ Region.ready .any ops listed) :
    ∃ o, ops[i]? = some o ∧ i < listed.size ∧ ¬ D i ∧ ∀ j ∈ preAt pre i, D j := by
  obtain ⟨h0, o, ho, hall⟩ := mem_ready.1 h
  have hlt : i < ops.size := by
    rcases Nat.lt_or_ge i ops.size with h' | h'
    · exact h'
    · rw [Array.getElem?_eq_none h'] at ho; cases ho
  refine ⟨o, ho, by omega, fun hd => ?_, fun j hj => ?_⟩
  · have := (hD i).1 hd
    unfold Listed at this
    have hl : i < listed.size := by omega
    simp [hl] at h0 this
    rw [h0] at this; cases this
  · obtain ⟨e, he, hb, hor⟩ := hp.bef i o (by simpa using ho) j hj
    have hon : D e.on := (hD e.on).2 (hall e (by simpa using he) hb)
    rcases hor with rfl | hj
    · exact hon
    · exact hdown _ hon j hj

/-- What it looks at is as it was when its turn came. -/
theorem look_late (hp : Plan P ops.toList pre pl) {D : Nat → Prop} {a : Act} {w : World} {done rest : List (Nat × List Nat)} {lds : List Loaded} {A : Regs} {μ : Mem} {ρ : Ren} {H : Regs} {R : Nat → Option Nat}
    (hc : Core P ih ro ops.toList pre pl A0 μ0 ρ0 w0 s fin D a w done rest lds A μ ρ H R) {i : Nat} {Ai : Regs} (hi : i < ops.toList.length) (hnD : ¬ D i) (hpre : ∀ j ∈ preAt pre i, D j)
    (hdn : ∀ j, ahead (pl.map (·.1)) j i = true → j ∈ done.map (·.1))
    (hl : ∀ d ∈ looksOf ops.toList i, (getR Ai d = getR A0 d ∧ ∀ j, ahead (pl.map (·.1)) j i = true → dstAt ops.toList j ≠ some d) ∨ ∃ j, ahead (pl.map (·.1)) j i = true ∧ dstAt ops.toList j = some d ∧ getR Ai d = getR A d) :
    Agree ops.toList i H Ai := by
  intro d hd
  rcases hl d hd with ⟨h1, h2⟩ | ⟨j, h1, h2, h3⟩
  · rw [h1]
    refine hc.ah d fun j hj he => ?_
    have hne : i ≠ j := fun e => hnD (e ▸ hj)
    rcases hp.looks i d j hi hd (dstAt_lt he) hne he with ⟨_, q⟩ | ⟨q, _⟩
    · exact h2 j q he
    · exact hnD (hc.down j hj i q)
  · have hne : i ≠ j := fun e => by subst e; rw [ahead_irr] at h1; cases h1
    rw [h3]
    rcases hp.looks i d j hi hd (dstAt_lt h2) hne h2 with ⟨q, _⟩ | ⟨_, q⟩
    · exact hc.ad j d (hpre j q) (hdn j h1) h2
    · rw [ahead_asym h1] at q; cases q

theorem get_list {o : Oper} {i : Nat} (h : ops[i]? = some o) : ops.toList[i]? = some o := by simpa using h

theorem put_ne {a : Act} {od : Option Tmp} {u : Value} {d : Nat} (h : od ≠ some d) : (a.put od u).tmps.getD d undef = a.tmps.getD d undef := by
  cases od with
  | none => rfl
  | some k =>
    have hk : k ≠ d := fun e => h (by rw [e])
    show (a.tmps.setIfInBounds k u).getD d undef = _
    simp only [Array.getD_eq_getD_getElem?]
    rw [Array.getElem?_setIfInBounds_ne hk]
theorem put_undef {a : Act} {d : Nat} : (a.put (some d) undef).tmps.getD d undef = undef := by
  show (a.tmps.setIfInBounds d undef).getD d undef = _
  by_cases h : d < a.tmps.size
  · simp [Array.getD_eq_getD_getElem?, h]
  · rw [Array.getD_eq_getD_getElem?, Array.getElem?_eq_none (by simp; omega)]
    rfl
theorem put_eq {a : Act} {d : Nat} {u : Value} (h : d < a.tmps.size) : (a.put (some d) u).tmps.getD d undef = u := by
  show (a.tmps.setIfInBounds d u).getD d undef = _
  simp [Array.getD_eq_getD_getElem?, h]

theorem ahead_done {os d r : List Nat} (h : os = d ++ r) {i j : Nat} (hi : i ∈ d) (ha : ahead os j i = true) : j ∈ d := by
  subst h
  unfold ahead at ha
  have ha : (d ++ r).idxOf j < (d ++ r).idxOf i := by simpa using ha
  rw [List.idxOf_append, List.idxOf_append, if_pos hi] at ha
  have := List.idxOf_lt_length_of_mem hi
  rcases Decidable.em (j ∈ d) with h | h
  · exact h
  · rw [if_neg h] at ha; omega

theorem PendOf.lt {L : List Oper} {os : List Nat} {A0 A : Regs} {w0 w : World} {a : Act} {μ : Mem} {ρ : Ren} {done : List Nat} {i r : Nat} (h : PendOf P L os A0 A w0 w a μ ρ done i (some r)) : r < w.heap.size := by
  obtain ⟨o, Hb, _, _, _, h4⟩ := h
  rcases h4 with ⟨_, q, _⟩ | ⟨_, ρx, ax, wx, u, C, t, _, _, _, r4, _, r6, _⟩
  · cases q
  · injection r4 with r4
    rw [r4]
    exact lt_of_heap r6

/-- One that is late is run. -/
theorem run_late (hp : Plan P ops.toList pre pl) {D : Nat → Prop} {a : Act} {w : World} {done rest : List (Nat × List Nat)} {lds : List Loaded} {A : Regs} {μ : Mem} {ρ : Ren} {H : Regs} {R : Nat → Option Nat}
    (hc : Core P ih ro ops.toList pre pl A0 μ0 ρ0 w0 s fin D a w done rest lds A μ ρ H R) {i : Nat} {o : Oper} (ho : ops[i]? = some o) (hnD : ¬ D i) (hpre : ∀ j ∈ preAt pre i, D j) (hd : i ∈ done.map (·.1))
    (hw : isWork (kindAt P ops.toList i) = false) {n : Nat} {R0 : Option Nat} {K : Act → World → Prop} {Q : Exit → Act → World → Prop}
    (hK : ∀ a' H', Core P ih ro ops.toList pre pl A0 μ0 ρ0 w0 s fin (fun j => D j ∨ j = i) a' w done rest lds A μ ρ H' R → K a' w) :
    wpOpIn (FW R0) n P ops Q i K a w := by
  obtain ⟨o', Ai, μi, v, h1, h2, h3, h4, h5⟩ := hc.late i hd hnD
  have ho' := get_list ho
  rw [ho'] at h1
  injection h1 with h1
  subst h1
  have hi := get_lt ho'
  have hag := look_late hp hc hi hnD hpre (fun j hj => ahead_done (r := rest.map (·.1)) (by rw [hc.split]; simp) hd hj) h2
  obtain ⟨hg1, hg2⟩ := agree_guard ho' hag
  have hgH : guardOk ops.toList H o = true := by rw [hg1]; exact h3
  have hws := wanted_same (ops := ops) hc.rr hgH
  have hsH : H.nt ≤ 4000 := by rw [hc.ntH]; exact hc.small
  have hdi : ∀ d, dstAt ops.toList i = some d ↔ o.dst = some d := fun d => by rw [dstAt_of ho']
  have other : ∀ j d, j ≠ i → dstAt ops.toList j = some d → o.dst ≠ some d := fun j d hj hd he =>
    hj (hp.dst j i d (dstAt_lt hd) hi hd ((hdi d).2 he))
  -- the state behind it
  have core' : ∀ (u u' : Value), VRel ρ u u' → (∀ d, o.dst = some d → d < A0.nt → getR A d = u) →
      Core P ih ro ops.toList pre pl A0 μ0 ρ0 w0 s fin (fun j => D j ∨ j = i) (a.put o.dst u') w done rest lds A μ ρ (putR H o.dst u) R := by
    intro u u' hu hval
    have hown : ∀ d, o.dst = some d → getR (putR H o.dst u) d = getR A d := by
      intro d hd
      by_cases hlt : d < A0.nt
      · rw [hval d hd hlt, hd]
        exact getR_put_eq hsH (by rw [hc.ntH]; exact hlt)
      · rw [getR_out (A := A) (by rw [hc.ntA]; exact hlt), getR_out (by rw [nt_putR, hc.ntH]; exact hlt)]
    have isD : ∀ j, (D j ∨ j = i) → j ∉ done.map (·.1) → D j ∧ j ≠ i := fun j hj hjd =>
      ⟨hj.resolve_right fun e => hjd (e ▸ hd), fun e => hjd (e ▸ hd)⟩
    refine ⟨hc.split, hc.run, fun j hj hwj => .inl (hc.works j hj hwj), fun j hj hjd => ?_, fun j k q h1 h2 h3 h4 => hc.apart j k q (isD j h1 h2).1 h2 (isD k h3 h4).1 h4, fun j hj q hq => ?_, hc.adv, hc.rr.put _ hu, ?_, hc.ntA, by rw [nt_putR]; exact hc.ntH, hc.small, fun d hno => ?_, fun j d hj hjd hdj => ?_, hc.ac, fun j hj hnj => hc.late j hj fun h => hnj (.inl h)⟩
    · obtain ⟨k1, k2⟩ := isD j hj hjd
      exact (hc.pend j k1 hjd).step (fun _ h => h) (fun _ _ _ _ => rfl) (fun d hd => put_ne (other j d k2 hd)) (fun _ _ h => h) (fun _ _ _ h => ⟨rfl, h⟩)
    · rcases hj with hj | rfl
      · exact .inl (hc.down j hj q hq)
      · exact .inl (hpre q hq)
    · have := hc.mks
      cases o.dst <;> exact this
    · have hne : o.dst ≠ some d := fun he => hno i (.inr rfl) ((hdi d).2 he)
      rw [getR_put_ne hsH hne]
      exact hc.ah d fun j hj => hno j (.inl hj)
    · by_cases hji : j = i
      · subst hji
        exact hown d ((hdi d).1 hdj)
      · have hjD : D j := hj.resolve_right hji
        rw [getR_put_ne hsH (other j d hji hdj)]
        exact hc.ad j d hjD hjd hdj
  unfold wpOpIn
  simp only [ho]
  rw [hws, hg2]
  cases hwd : Region.wanted o (yieldedA ops.toList Ai) with
  | false =>
    rw [if_neg (by simp)]
    refine ⟨fun _ _ => trivial, hK _ _ (core' undef undef (undef_rel ρ) fun d hd hlt => ?_)⟩
    rw [h4 d hd hlt, hwd]
    rfl
  | true =>
    rw [if_pos rfl]
    obtain ⟨q1, q2, q3⟩ := h5 hwd
    have hval : ∀ d, o.dst = some d → d < A0.nt → getR A d = v := fun d hd hlt => by rw [h4 d hd hlt, hwd]; rfl
    refine ⟨fun _ _ => trivial, ?_⟩
    have hsem : o.semAt (FW R0).round a.eval = execOp a.eval o := Oper.semAt_eq _ _ _ (fun c e => by rw [e] at q1; cases q1)
    rw [hsem]
    have hk : isWork (kindOf P o) = false := by rw [← kindAt_of ho']; exact hw
    have hopn := agree_operand ho' hag
    have hrun : ∃ v', (execOp a.eval o).run P w = .ok (.value v') w ∧ VRel ρ v v' := by
      cases hko : kindOf P o with
      | pure =>
        have q1' : opA P H μi o.op = some (v, μi) := by rw [opA_congr hopn]; exact q1
        exact (pure_sound hko q1').2 q2 hc.rr w
      | read =>
        obtain ⟨t, x, hx⟩ := read_shape hko
        obtain ⟨_, hld⟩ := q3 t x hx
        rw [← hopn x (by rw [hx]; simp [Op.operands])] at hld
        obtain ⟨v', r1, r2⟩ := loadA_run (P := P) hc.adv.rel hld (hc.rr.eval x)
        exact ⟨v', by unfold execOp; rw [hx]; simp [r1], r2⟩
      | fresh => rw [hko] at hk; cases hk
      | act => rw [hko] at hk; cases hk
    obtain ⟨v', r1, r2⟩ := hrun
    rw [r1]
    exact hK _ _ (core' v v' r2 hval)

/-- An act has its turn, and is run. -/
theorem run_work (hN : NoNum P) (hF : SFn P ih) (hY : SYield P ih) (hp : Plan P ops.toList pre pl) (hm0 : MRel ρ0 μ0.blks w0) {D : Nat → Prop} {a : Act} {w : World} {done r : List (Nat × List Nat)} {lds : List Loaded} {A : Regs} {μ : Mem} {ρ : Ren} {H : Regs} {R : Nat → Option Nat} {i : Nat} {ms : List Nat}
    (hc : Core P ih ro ops.toList pre pl A0 μ0 ρ0 w0 s fin D a w done ((i, ms) :: r) lds A μ ρ H R) {o : Oper} (ho : ops[i]? = some o) (hnD : ¬ D i) (hpre : ∀ j ∈ preAt pre i, D j)
    (hw : isWork (kindAt P ops.toList i) = true) {n : Nat} {R0 : Option Nat} {K : Act → World → Prop} {Q : Exit → Act → World → Prop}
    (hK : ∀ a' w' lds' A' μ' ρ' H', Core P ih ro ops.toList pre pl A0 μ0 ρ0 w0 s fin (fun j => D j ∨ j = i) a' w' (done ++ [(i, ms)]) r lds' A' μ' ρ' H' R → K a' w') :
    wpOpIn (FW R0) n P ops Q i K a w := by
  have ho' := get_list ho
  have hi := get_lt ho'
  obtain ⟨hahead, hnot⟩ := plan_at hp hc.split
  have hsA : A.nt ≤ 4000 := by rw [hc.ntA]; exact hc.small
  have hsH : H.nt ≤ 4000 := by rw [hc.ntH]; exact hc.small
  have hdi : ∀ d, dstAt ops.toList i = some d ↔ o.dst = some d := fun d => by rw [dstAt_of ho']
  have other : ∀ j d, j ≠ i → dstAt ops.toList j = some d → o.dst ≠ some d := fun j d hj hd he =>
    hj (hp.dst j i d (dstAt_lt hd) hi hd ((hdi d).2 he))
  have hag : Agree ops.toList i H A := by
    refine look_late hp hc hi hnD hpre (fun j hj => (hahead j).1 hj) fun d _ => ?_
    by_cases hj : ∃ j, ahead (pl.map (·.1)) j i = true ∧ dstAt ops.toList j = some d
    · obtain ⟨j, h1, h2⟩ := hj
      exact .inr ⟨j, h1, h2, rfl⟩
    · exact .inl ⟨hc.ac d fun j hjd he => hj ⟨j, (hahead j).2 hjd, he⟩, fun j h1 h2 => hj ⟨j, h1, h2⟩⟩
  obtain ⟨hg1, hg2⟩ := agree_guard ho' hag
  have hrun := hc.run
  simp only [drawRun, ho'] at hrun
  cases hg : guardOk ops.toList A o with
  | false => rw [hg] at hrun; cases hrun
  | true =>
    rw [hg] at hrun
    simp only [Bool.not_true, cond_false] at hrun
    have hws := wanted_same (ops := ops) hc.rr (hg1.trans hg)
    have isD : ∀ j, (D j ∨ j = i) → j ∉ (done ++ [(i, ms)]).map (·.1) → D j ∧ j ≠ i ∧ j ∉ done.map (·.1) := fun j hj hjd => by
      have hne : j ≠ i := fun e => hjd (by rw [List.map_append, e]; simp)
      exact ⟨hj.resolve_right hne, hne, fun hm => hjd (by rw [List.map_append]; exact List.mem_append_left _ hm)⟩
    -- the state behind it
    have core' : ∀ (u u' : Value) (lds2 : List Loaded) (μ2 : Mem) (ρ2 : Ren) (w2 : World), VRel ρ2 u u' → Adv ρ μ w ρ2 μ2 w2 → drawRun P ih ro ops.toList r lds2 (putR A o.dst u) μ2 = some fin → (∀ x ∈ lds, x ∈ lds2) →
        (∀ l ∈ done.map (·.1), ¬ D l → kindAt P ops.toList l = .read → ∀ t ad v, (l, t, ad, v) ∈ lds → loadA P μ t ad = some v → loadA P μ2 t ad = some v) →
        Core P ih ro ops.toList pre pl A0 μ0 ρ0 w0 s fin (fun j => D j ∨ j = i) (a.put o.dst u') w2 (done ++ [(i, ms)]) r lds2 (putR A o.dst u) μ2 ρ2 (putR H o.dst u) R := by
      intro u u' lds2 μ2 ρ2 w2 hu hadv hr hl hloads
      refine ⟨by rw [hc.split]; simp, hr, fun j hj hwj => ?_, fun j hj hjd => ?_, fun j k q h1 h2 h3 h4 => hc.apart j k q (isD j h1 h2).1 (isD j h1 h2).2.2 (isD k h3 h4).1 (isD k h3 h4).2.2, fun j hj q hq => ?_, hc.adv.trans hm0 hadv, (hc.rr.mono hadv.pre).put _ hu, ?_, by rw [nt_putR]; exact hc.ntA, by rw [nt_putR]; exact hc.ntH, hc.small, fun d hno => ?_, fun j d hj hjd hdj => ?_, fun d hno => ?_, fun j hj hnj => ?_⟩
      · rw [List.map_append] at hj
        rcases List.mem_append.1 hj with hj | hj
        · exact .inl (hc.works j hj hwj)
        · simp at hj; exact .inr hj
      · obtain ⟨k1, k2, k3⟩ := isD j hj hjd
        refine (hc.pend j k1 k3).step (fun q hq => by rw [List.map_append]; exact List.mem_append_left _ hq) (fun q d hq hd => ?_) (fun d hd => put_ne (other j d k2 hd)) hadv.pre (fun r' _ hlt hn => ⟨?_, fun h => hn (hadv.lives r' hlt h)⟩)
        · exact getR_put_ne hsA (other q d (fun e => hnot (e ▸ hq)) hd)
        · refine hadv.keep r' hlt ?_
          rintro ⟨b, x, p, h1, h2, h3⟩
          exact hn ⟨b, x, p, h1, owned_live h2, h3⟩
      · rcases hj with hj | rfl
        · exact .inl (hc.down j hj q hq)
        · exact .inl (hpre q hq)
      · have := hc.mks.adv hc.adv.rel hadv
        cases o.dst <;> exact this
      · have hne : o.dst ≠ some d := fun he => hno i (.inr rfl) ((hdi d).2 he)
        rw [getR_put_ne hsH hne]
        exact hc.ah d fun j hj => hno j (.inl hj)
      · by_cases hji : j = i
        · subst hji
          have hd := (hdi d).1 hdj
          by_cases hlt : d < A0.nt
          · rw [hd, getR_put_eq hsH (by rw [hc.ntH]; exact hlt), getR_put_eq hsA (by rw [hc.ntA]; exact hlt)]
          · rw [getR_out (by rw [nt_putR, hc.ntH]; exact hlt), getR_out (by rw [nt_putR, hc.ntA]; exact hlt)]
        · have hjD : D j := hj.resolve_right hji
          have hjd' : j ∈ done.map (·.1) := by
            rw [List.map_append] at hjd
            rcases List.mem_append.1 hjd with h | h
            · exact h
            · simp at h; exact absurd h hji
          have hne := other j d hji hdj
          rw [getR_put_ne hsH hne, getR_put_ne hsA hne]
          exact hc.ad j d hjD hjd' hdj
      · have hne : o.dst ≠ some d := fun he => hno i (by simp) ((hdi d).2 he)
        rw [getR_put_ne hsA hne]
        exact hc.ac d fun j hj => hno j (by rw [List.map_append]; exact List.mem_append_left _ hj)
      · rw [List.map_append] at hj
        have hnDj : ¬ D j := fun h => hnj (.inl h)
        have hji : j ≠ i := fun h => hnj (.inr h)
        rcases List.mem_append.1 hj with hj | hj
        · exact (hc.late j hj hnDj).step hp hsA ho' ((hahead j).2 hj) (ahead_trans (hp := hp) hc.split hj) hadv.pre hl (fun hkj t ad v hm hld => hloads j hj hnDj hkj t ad v hm hld)
        · simp at hj; exact absurd hj hji
    have hmsk : ∀ l ∈ done.map (·.1), ¬ D l → kindAt P ops.toList l = .read → l ∈ ms := by
      intro l hl hnl hk
      have hmem : (i, ms) ∈ pl := by rw [hc.split]; simp
      have hlo : l ∈ pl.map (·.1) := by rw [hc.split, List.map_append]; exact List.mem_append_left _ hl
      rcases hp.mask i ms l hmem hw hlo ((hahead l).2 hl) hk with h | h
      · exact absurd (hpre l h) hnl
      · exact h
    unfold wpOpIn
    simp only [ho]
    rw [hws, hg2]
    cases hwd : Region.wanted o (yieldedA ops.toList A) with
    | false =>
      rw [hwd, cond_false] at hrun
      rw [if_neg (by simp)]
      exact ⟨fun _ _ => trivial, hK _ _ _ _ _ _ _ (core' undef undef lds μ ρ w (undef_rel ρ) (Adv.refl hc.adv.rel) hrun (fun _ h => h) (fun _ _ _ _ _ _ _ _ h => h))⟩
    | true =>
      rw [hwd, cond_true] at hrun
      rw [if_pos rfl]
      split at hrun
      · rename_i e1 B μ2 hop
        cases hkeep : keepsA P μ2 lds ms with
        | false => rw [hkeep] at hrun; cases hrun
        | true =>
          rw [hkeep, cond_true] at hrun
          have hop' : operStep P ih ro o H μ = some (e1, B, μ2) := by rw [operStep_congr (agree_operand ho' hag)]; exact hop
          refine oper_sound hN hF hY hop' hc.adv.rel hc.rr fun ρ2 v' w2 hv hadv => ?_
          refine hK _ _ _ _ _ _ _ (core' (getR B 0) v' (addLd i o A (getR B 0) lds) μ2 ρ2 w2 hv hadv hrun (fun x hx => ?_) (fun l hl hnl hk t ad v hm _ => keepsA_spec hkeep hm (hmsk l hl hnl hk)))
          unfold addLd
          split
          · exact List.mem_cons_of_mem _ hx
          · exact hx
      · cases hrun

/-- A new block is made ahead of its turn. -/
theorem run_early (hp : Plan P ops.toList pre pl) (hm0 : MRel ρ0 μ0.blks w0) {D : Nat → Prop} {a : Act} {w : World} {done r : List (Nat × List Nat)} {lds : List Loaded} {A : Regs} {μ : Mem} {ρ : Ren} {H : Regs} {R : Nat → Option Nat} {m : Nat} {msm : List Nat}
    (hc : Core P ih ro ops.toList pre pl A0 μ0 ρ0 w0 s fin D a w done ((m, msm) :: r) lds A μ ρ H R) (hmw : isWork (kindAt P ops.toList m) = true) (hmD : ¬ D m) (hmL : m < ops.toList.length)
    {i : Nat} {o : Oper} (ho : ops[i]? = some o) (hnD : ¬ D i) (hpre : ∀ j ∈ preAt pre i, D j) (hid : i ∉ done.map (·.1)) (hk : kindAt P ops.toList i = .fresh)
    {n : Nat} {R0 : Option Nat} {K : Act → World → Prop} {Q : Exit → Act → World → Prop}
    (hK : ∀ a' w' H' R', Core P ih ro ops.toList pre pl A0 μ0 ρ0 w0 s fin (fun j => D j ∨ j = i) a' w' done ((m, msm) :: r) lds A μ ρ H' R' → K a' w') :
    wpOpIn (FW R0) n P ops Q i K a w := by
  have ho' := get_list ho
  have hi := get_lt ho'
  have hko : kindOf P o = .fresh := by rw [← kindAt_of ho']; exact hk
  have hsA : A.nt ≤ 4000 := by rw [hc.ntA]; exact hc.small
  have hsH : H.nt ≤ 4000 := by rw [hc.ntH]; exact hc.small
  have hdi : ∀ d, dstAt ops.toList i = some d ↔ o.dst = some d := fun d => by rw [dstAt_of ho']
  have other : ∀ j d, j ≠ i → dstAt ops.toList j = some d → o.dst ≠ some d := fun j d hj hd he =>
    hj (hp.dst j i d (dstAt_lt hd) hi hd ((hdi d).2 he))
  -- its turn
  have hin : i ∈ ((m, msm) :: r).map (·.1) := by
    have := hp.mem i hi
    rw [hc.split, List.map_append] at this
    exact (List.mem_append.1 this).resolve_left hid
  obtain ⟨y, hy, hyi⟩ := List.mem_map.1 hin
  obtain ⟨r1, r2, hrest⟩ := List.append_of_mem hy
  obtain ⟨i', msi⟩ := y
  simp only at hyi
  subst hyi
  have hos : pl.map (·.1) = (done.map (·.1) ++ r1.map (·.1)) ++ i' :: r2.map (·.1) := by rw [hc.split, hrest]; simp
  have hah : ∀ j, ahead (pl.map (·.1)) j i' = true ↔ j ∈ done.map (·.1) ++ r1.map (·.1) := fun j => ahead_iff hos hp.nodup
  have hdisj : ∀ j, j ∈ done.map (·.1) → j ∈ r1.map (·.1) → False := by
    intro j h1 h2
    have hn := hp.nodup
    rw [hos] at hn
    exact (List.nodup_append.1 (List.nodup_append.1 hn).1).2.2 j h1 j h2 rfl
  obtain ⟨hahm, hnotm⟩ := plan_at hp hc.split
  have hlk : ∀ d ∈ looksOf ops.toList i', (getR H d = getR A0 d ∧ ∀ j, ahead (pl.map (·.1)) j i' = true → dstAt ops.toList j ≠ some d) ∨ ∃ j ∈ done.map (·.1), dstAt ops.toList j = some d ∧ getR H d = getR A d := by
    intro d hd
    by_cases hj : ∃ j, j ≠ i' ∧ dstAt ops.toList j = some d
    · obtain ⟨j, hji, hjd⟩ := hj
      have hjl := dstAt_lt hjd
      have uniq : ∀ k, dstAt ops.toList k = some d → k = j := fun k hkd => hp.dst k j d (dstAt_lt hkd) hjl hkd hjd
      rcases hp.looks i' d j hi hd hjl (fun e => hji e.symm) hjd with ⟨q1, q2⟩ | ⟨q1, q2⟩
      · have hDj := hpre j q1
        have hjdone : j ∈ done.map (·.1) := by
          refine Classical.byContradiction fun hnd => ?_
          have hjm : j ≠ m := fun e => hmD (e ▸ hDj)
          rcases hp.work m j hmL hjl hmw hjm with h | h | ⟨_, h⟩
          · exact hnd ((hahm j).1 h)
          · exact hmD (hc.down j hDj m h)
          · exact hmD (hpre m (h i' hi q1))
        exact .inr ⟨j, hjdone, hjd, hc.ad j d hDj hjdone hjd⟩
      · refine .inl ⟨hc.ah d fun k hDk hkd => ?_, fun k hka hkd => ?_⟩
        · rw [uniq k hkd] at hDk
          exact hnD (hc.down j hDk i' q1)
        · rw [uniq k hkd, ahead_asym q2] at hka
          cases hka
    · refine .inl ⟨hc.ah d fun k hDk hkd => ?_, fun k hka hkd => ?_⟩
      · exact hj ⟨k, fun e => hnD (e ▸ hDk), hkd⟩
      · exact hj ⟨k, (fun e => by rw [e, ahead_irr] at hka; cases hka), hkd⟩
  have hrun0 := hc.run
  rw [hrest] at hrun0
  obtain ⟨ldsb, Ab, μb, hrun, hntb, hAb⟩ := future r1 lds A μ hsA _ _ hrun0
  have hag : Agree ops.toList i' H Ab := by
    intro d hd
    rcases hlk d hd with ⟨h1, h2⟩ | ⟨j, h1, h2, h3⟩
    · rw [h1, hAb d fun j hj => h2 j ((hah j).2 (List.mem_append_right _ hj))]
      exact (hc.ac d fun j hj => h2 j ((hah j).2 (List.mem_append_left _ hj))).symm
    · rw [h3, hAb d fun k hk hkd => ?_]
      have : k = j := hp.dst k j d (dstAt_lt hkd) (dstAt_lt h2) hkd h2
      exact hdisj j h1 (this ▸ hk)
  obtain ⟨hg1, hg2⟩ := agree_guard ho' hag
  simp only [drawRun, ho'] at hrun
  cases hg : guardOk ops.toList Ab o with
  | false => rw [hg] at hrun; cases hrun
  | true =>
    rw [hg] at hrun
    simp only [Bool.not_true, cond_false] at hrun
    have hws := wanted_same (ops := ops) hc.rr (hg1.trans hg)
    -- the state behind it
    have core' : ∀ (hv u' : Value) (w2 : World) (x : Option Nat), VRel ρ hv u' → Adv ρ μ w ρ μ w2 → (∀ q, x = some q → q = w.heap.size) →
        PendOf P ops.toList (pl.map (·.1)) A0 A w0 w2 (a.put o.dst u') μ ρ (done.map (·.1)) i' x → (∀ k, k < w.heap.size → w2.heap[k]? = w.heap[k]?) →
        Core P ih ro ops.toList pre pl A0 μ0 ρ0 w0 s fin (fun j => D j ∨ j = i') (a.put o.dst u') w2 done ((m, msm) :: r) lds A μ ρ (putR H o.dst hv) (fun j => if j = i' then x else R j) := by
      intro hv u' w2 x hu hadv hx hpend hold
      have isI : ∀ j ∈ done.map (·.1), j ≠ i' := fun j hj e => hid (e ▸ hj)
      refine ⟨hc.split, hc.run, fun j hj hwj => .inl (hc.works j hj hwj), fun j hj hjd => ?_, fun j k q h1 h2 h3 h4 hjk h5 => ?_, fun j hj q hq => ?_, hc.adv.trans hm0 hadv, hc.rr.put _ hu, ?_, hc.ntA, by rw [nt_putR]; exact hc.ntH, hc.small, fun d hno => ?_, fun j d hj hjd hdj => ?_, hc.ac, fun j hj hnj => hc.late j hj fun h => hnj (.inl h)⟩
      · by_cases hji : j = i'
        · subst hji
          rw [if_pos rfl]
          exact hpend
        · rw [if_neg hji]
          exact (hc.pend j (hj.resolve_right hji) hjd).step (fun _ h => h) (fun _ _ _ _ => rfl) (fun d hd => put_ne (other j d hji hd)) (fun _ _ h => h) (fun q _ hlt h => ⟨hold q hlt, h⟩)
      · have lt_of : ∀ j, D j → j ∉ done.map (·.1) → ∀ q, R j = some q → q < w.heap.size := fun j h1 h2 q h => (h ▸ hc.pend j h1 h2).lt
        by_cases hji : j = i' <;> by_cases hki : k = i'
        · exact absurd (hji.trans hki.symm) hjk
        · rw [if_pos hji] at h5
          rw [if_neg hki]
          have e := hx q h5
          intro h6
          have := lt_of k (h3.resolve_right hki) h4 q h6
          omega
        · rw [if_neg hji] at h5
          rw [if_pos hki]
          have := lt_of j (h1.resolve_right hji) h2 q h5
          intro h6
          have e := hx q h6
          omega
        · rw [if_neg hji] at h5
          rw [if_neg hki]
          exact hc.apart j k q (h1.resolve_right hji) h2 (h3.resolve_right hki) h4 hjk h5
      · rcases hj with hj | rfl
        · exact .inl (hc.down j hj q hq)
        · exact .inl (hpre q hq)
      · have := hc.mks.adv hc.adv.rel hadv
        cases o.dst <;> exact this
      · have hne : o.dst ≠ some d := fun he => hno i' (.inr rfl) ((hdi d).2 he)
        rw [getR_put_ne hsH hne]
        exact hc.ah d fun j hj => hno j (.inl hj)
      · have hji := isI j hjd
        rw [getR_put_ne hsH (other j d hji hdj)]
        exact hc.ad j d (hj.resolve_right hji) hjd hdj
    unfold wpOpIn
    simp only [ho]
    rw [hws, hg2]
    cases hwd : Region.wanted o (yieldedA ops.toList Ab) with
    | false =>
      rw [if_neg (by simp)]
      refine ⟨fun _ _ => trivial, hK _ _ _ _ (core' undef undef w none (undef_rel ρ) (Adv.refl hc.adv.rel) (fun q h => by cases h) ⟨o, H, ho', hko, hlk, .inl ⟨by rw [hg2]; exact hwd, rfl, fun d hd => ?_⟩⟩ (fun _ _ => rfl))⟩
      rw [hd]
      exact put_undef
    | true =>
      rw [if_pos rfl]
      rw [hwd, cond_true] at hrun
      have hop : operStep P ih ro o Ab μb = outM (opA P Ab μb o.op) := by
        unfold operStep
        rw [fresh_callee hko]
      rw [hop] at hrun
      cases hopA : opA P Ab μb o.op with
      | none => rw [hopA] at hrun; simp [outM] at hrun
      | some y =>
        obtain ⟨v, μ1⟩ := y
        have hopH : opA P H μb o.op = some (v, μ1) := by rw [opA_congr (agree_operand ho' hag)]; exact hopA
        obtain ⟨mk, vs, _, _, _, _, hfr⟩ := fresh_sound hko hopH
        obtain ⟨C, t, e1, _⟩ := hfr ρ a hc.rr w
        refine ⟨fun _ _ => trivial, ?_⟩
        have hsem : o.semAt (FW R0).round a.eval = execOp a.eval o := Oper.semAt_eq _ _ _ (fun c e => by rw [e] at hopH; cases hopH)
        rw [hsem, e1]
        refine hK _ _ _ _ (core' (.chan (some 0)) _ _ (some w.heap.size) (.top _) (Adv.extra hc.adv.rel _) (fun q h => by injection h with h; exact h.symm)
          ⟨o, H, ho', hko, hlk, .inr ⟨by rw [hg2]; exact hwd, ρ, a, w, _, C, t, hc.rr, fun _ _ h => h, e1, rfl, hc.adv.size, heap_alloc_new w _, ?_, fun d hd hlt => ?_⟩⟩ (fun k hk => heap_alloc_lt w _ hk))
        · rintro ⟨b, x, p, h1, h2, h3, h4⟩
          have := (hc.adv.rel.obj b x p h1 h3).lt h2
          omega
        · rw [hd]
          exact put_eq (by rw [hc.rr.size, hc.ntH]; exact hlt)

/-- Whatever order is drawn. -/
theorem any_sound (hN : NoNum P) (hF : SFn P ih) (hY : SYield P ih) (hp : Plan P ops.toList pre pl) (hm0 : MRel ρ0 μ0.blks w0) {e : AExit} {A' : Regs} {μ' : Mem} {n : Nat} {R0 : Option Nat} {Q : Exit → Act → World → Prop}
    (hf : Fin ρ0 μ0 w0 s e A' μ' Q) : ∀ (fuel : Nat) (listed : Array Bool) (D : Nat → Prop) (a : Act) (w : World) (done rest : List (Nat × List Nat)) (lds : List Loaded) (A : Regs) (μ : Mem) (ρ : Ren) (H : Regs) (R : Nat → Option Nat),
      ((List.range ops.size).filter (fun i => !listed.getD i true)).length ≤ fuel → listed.size = ops.size → (∀ i, D i ↔ Listed listed i) →
      Core P ih ro ops.toList pre pl A0 μ0 ρ0 w0 s (e, A', μ') D a w done rest lds A μ ρ H R →
      wpAnyIn (FW R0) n P .any ops Q fuel listed a w := by
  have finish : ∀ (listed : Array Bool) (D : Nat → Prop) (a : Act) (w : World) (done rest : List (Nat × List Nat)) (lds : List Loaded) (A : Regs) (μ : Mem) (ρ : Ren) (H : Regs) (R : Nat → Option Nat), listed.size = ops.size → (∀ i, D i ↔ Listed listed i) →
      Core P ih ro ops.toList pre pl A0 μ0 ρ0 w0 s (e, A', μ') D a w done rest lds A μ ρ H R → Region.ready .any ops listed = [] → Q (exitOf e) a w ∧ e = .normal := by
    intro listed D a w done rest lds A μ ρ H R hsz hD hc hr
    obtain ⟨done, rest, lds, A, μ, ρ, H, hc, hhead⟩ := advance hp rest done lds A μ ρ H hc
    have all : ∀ i, i < ops.size → D i := by
      intro i
      induction i using Nat.strongRecOn with
      | _ i IH =>
        intro hi
        refine Classical.byContradiction fun hnd => ?_
        have hmem : i ∈ Region.ready .any ops listed := by
          rw [mem_ready]
          refine ⟨?_, ops[i], by simp [hi], fun e' he hb => ?_⟩
          · have hl : i < listed.size := by omega
            have : ¬ Listed listed i := fun h => hnd ((hD i).2 h)
            unfold Listed at this
            simp [hl] at this ⊢
            exact this
          · have := hp.less i ops[i] (by simp [hi]) e' (by simpa using he) hb
            exact (hD _).1 (IH e'.on this (by omega))
        rw [hr] at hmem
        cases hmem
    have hrest : rest = [] := by
      cases rest with
      | nil => rfl
      | cons x r =>
        obtain ⟨i, ms⟩ := x
        have hh := hhead _ _ rfl
        have hrun := hc.run
        simp only [drawRun] at hrun
        cases ho : ops.toList[i]? with
        | none => simp [ho] at hrun
        | some o => exact absurd (all i (by simpa using get_lt ho)) hh.2
    subst hrest
    have hrun := hc.run
    simp only [drawRun] at hrun
    injection hrun with hrun
    injection hrun with e1 hrun
    injection hrun with e2 e3
    subst e1 e2 e3
    refine ⟨hf ρ w a hc.adv ⟨by rw [hc.ntA]; exact hc.small, by rw [hc.rr.size, hc.ntH, hc.ntA], fun d => ?_⟩ hc.mks, rfl⟩
    have : getR A d = getR H d := by
      by_cases hj : ∃ j, D j ∧ dstAt ops.toList j = some d
      · obtain ⟨j, h1, h2⟩ := hj
        have hjd : j ∈ done.map (·.1) := by
          have := hp.mem j (dstAt_lt h2)
          rw [hc.split] at this
          simpa using this
        exact (hc.ad j d h1 hjd h2).symm
      · rw [hc.ah d fun j h1 h2 => hj ⟨j, h1, h2⟩]
        exact hc.ac d fun j h1 h2 => hj ⟨j, all j (by simpa using dstAt_lt h2), h2⟩
    rw [this]
    exact hc.rr.val d
  intro fuel
  induction fuel with
  | zero =>
    intro listed D a w done rest lds A μ ρ H R hn hsz hD hc
    have hr : Region.ready .any ops listed = [] := by
      cases hr : Region.ready .any ops listed with
      | nil => rfl
      | cons i l =>
        have hi : i ∈ Region.ready .any ops listed := by rw [hr]; simp
        obtain ⟨o, ho, hlt, _, _⟩ := ready_facts hp hsz hD hc.down hi
        have h0 := (mem_ready.1 hi).1
        have : i ∈ (List.range ops.size).filter (fun i => !listed.getD i true) := List.mem_filter.2 ⟨by simp; omega, by rw [h0]; rfl⟩
        have h1 : (List.range ops.size).filter (fun i => !listed.getD i true) = [] := List.length_eq_zero_iff.1 (by omega)
        rw [h1] at this
        cases this
    obtain ⟨h1, h2⟩ := finish listed D a w done rest lds A μ ρ H R hsz hD hc hr
    exact ⟨hr, by subst h2; exact h1⟩
  | succ fuel IH =>
    intro listed D a w done rest lds A μ ρ H R hn hsz hD hc
    refine ⟨fun hr => ?_, fun i hi => ?_⟩
    · obtain ⟨h1, h2⟩ := finish listed D a w done rest lds A μ ρ H R hsz hD hc hr
      subst h2; exact h1
    · obtain ⟨o, ho, hlt, hnD, hpre⟩ := ready_facts hp hsz hD hc.down hi
      obtain ⟨done, rest, lds, A, μ, ρ, H, hc, hhead⟩ := advance hp rest done lds A μ ρ H hc
      have ho' := get_list ho
      have hiL := get_lt ho'
      have h0 := (mem_ready.1 hi).1
      have hcnt : ((List.range ops.size).filter (fun j => !(listed.setIfInBounds i true).getD j true)).length ≤ fuel := by
        have := filter_lt (p := fun j => !listed.getD j true) (q := fun j => !(listed.setIfInBounds i true).getD j true) (y := i) (fun x hx => by
          by_cases hix : i = x
          · subst hix; simp [hlt] at hx
          · rw [getD_set_ne true hix] at hx; exact hx) (by rw [h0]; rfl) (by simp [hlt]) (List.range ops.size) (by simp; omega)
        omega
      have hD' : ∀ j, (D j ∨ j = i) ↔ Listed (listed.setIfInBounds i true) j := fun j => by
        rw [listed_set hlt, hD j]
      have hsz' : (listed.setIfInBounds i true).size = ops.size := by simp [hsz]
      cases hw : isWork (kindAt P ops.toList i) with
      | false =>
        have hd : i ∈ done.map (·.1) := by
          have hmem := hp.mem i hiL
          rw [hc.split, List.map_append] at hmem
          rcases List.mem_append.1 hmem with h | h
          · exact h
          · cases rest with
            | nil => cases h
            | cons x r =>
              obtain ⟨m, ms⟩ := x
              obtain ⟨hwm, hnm⟩ := hhead _ _ rfl
              have hmL : m < ops.toList.length := by
                have hrun := hc.run
                simp only [drawRun] at hrun
                cases hom : ops.toList[m]? with
                | none => simp [hom] at hrun
                | some o => exact get_lt hom
              have hne : i ≠ m := fun e => by subst e; rw [hw] at hwm; cases hwm
              rcases hp.work m i hmL hiL hwm hne with h | h | ⟨h, _⟩
              · exact ((plan_at hp hc.split).1 i).1 h
              · exact absurd (hpre m h) hnm
              · rw [h] at hw; cases hw
        exact run_late hp hc ho hnD hpre hd hw fun a' H' hc' => IH _ _ _ _ _ _ _ _ _ _ _ _ hcnt hsz' hD' hc'
      | true =>
        have hmem := hp.mem i hiL
        rw [hc.split, List.map_append] at hmem
        rcases List.mem_append.1 hmem with h | h
        · exact absurd (hc.works i h hw) hnD
        · cases rest with
          | nil => cases h
          | cons x r =>
            obtain ⟨m, ms⟩ := x
            obtain ⟨hwm, hnm⟩ := hhead _ _ rfl
            have hmL : m < ops.toList.length := by
              have hrun := hc.run
              simp only [drawRun] at hrun
              cases hom : ops.toList[m]? with
              | none => simp [hom] at hrun
              | some o => exact get_lt hom
            by_cases hm : i = m
            · subst hm
              exact run_work hN hF hY hp hm0 hc ho hnD hpre hw fun a' w' lds' A' μ' ρ' H' hc' => IH _ _ _ _ _ _ _ _ _ _ _ _ hcnt hsz' hD' hc'
            · have hid : i ∉ done.map (·.1) := fun h => hnD (hc.works i h hw)
              rcases hp.work m i hmL hiL hwm hm with h | h | ⟨h, _⟩
              · exact absurd (((plan_at hp hc.split).1 i).1 h) hid
              · exact absurd (hpre m h) hnm
              · exact run_early hp hm0 hc hwm hnm hmL ho hnD hpre hid h fun a' w' H' R' hc' => IH _ _ _ _ _ _ _ _ _ _ _ _ hcnt hsz' hD' hc'

end

theorem draw_ok (hN : NoNum P) (hM : P.follows .mixedOrders = true) : DrawOK P := by
  intro ih hF hY ro id ops A μ e A' μ' h n ρ w a R0 s Q hc hf
  unfold regionStep at h
  rw [cond_true] at h
  split at h
  · rename_i pl hpl
    unfold planOf at hpl
    cases hok : planOk P ops.toList (preOf ops.toList) (planRaw P ops.toList (preOf ops.toList)) with
    | false => rw [hok] at hpl; cases hpl
    | true =>
      rw [hok, cond_true] at hpl
      injection hpl with hpl
      have hp := Plan.of_ok hok
      rw [hpl] at hp
      refine wpIn_region_any hM ?_
      have hadv : Adv ρ μ w ρ μ { w with drawn := w.drawn + 1 } :=
        ⟨hc.m.newer fun _ _ => rfl, fun _ _ h => h, Nat.le_refl _, fun _ _ _ => rfl, fun _ _ h => h, fun _ _ h => h, rfl, rfl, rfl, Nat.le_refl _, Nat.le_refl _, fun s _ _ h => h.newer fun _ _ => rfl⟩
      refine any_sound hN hF hY hp hc.m hf ops.size _ (fun _ => False) a _ [] pl [] A μ ρ A (fun _ => none) ?_ (by simp) (fun i => ?_) ?_ (ro := ro) (A0 := A)
      · exact Nat.le_trans (List.length_filter_le _ _) (by simp)
      · refine ⟨False.elim, fun h => ?_⟩
        unfold Listed at h
        simp only [Array.getD_eq_getD_getElem?, Array.getElem?_replicate] at h
        split at h <;> cases h
      · exact ⟨rfl, h, (fun i hi => by cases hi), (fun i hi => hi.elim), (fun i j r hi => hi.elim), (fun i hi => hi.elim), hadv, hc.r, hc.mks.adv hc.m hadv, rfl, rfl, hc.r.small, (fun d _ => rfl), (fun j d hj => hj.elim), (fun d _ => rfl), (fun i hi => by cases hi)⟩
  · cases h

end Go.Vm
