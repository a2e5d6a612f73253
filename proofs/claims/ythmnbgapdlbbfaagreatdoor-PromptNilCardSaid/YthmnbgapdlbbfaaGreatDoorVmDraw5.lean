/- Regions that draw their order: turns. -/
import Derived.Test.YthmnbgapdlbbfaaGreatDoorVmDraw3
set_option linter.unusedSimpArgs false
set_option linter.unusedVariables false
namespace Go.Vm
open Go.RowKit

variable {P : Program}

section
variable {ih : Ev} {ro : Option Nat} {L : List Oper} {pre : List (List Nat)} {pl : List (Nat × List Nat)} {A0 : Regs} {μ0 : Mem} {ρ0 : Ren} {w0 : World} {s : Nat} {fin : Out}

/-- The turn of one whose run changes nothing now: it is neither an act nor has been run. -/
theorem turn_plain (hp : Plan P L pre pl) {D : Nat → Prop} {a : Act} {w : World} {μ : Mem} {ρ : Ren} {H : Regs} {R : Nat → Option Nat} {r done : List (Nat × List Nat)} {lds : List Loaded} {A : Regs} {i : Nat} {ms : List Nat}
    (hc : Core P ih ro L pre pl A0 μ0 ρ0 w0 s fin D a w done ((i, ms) :: r) lds A μ ρ H R) (hnD : ¬ D i) (hw : isWork (kindAt P L i) = false) :
    ∃ lds2 A2, Core P ih ro L pre pl A0 μ0 ρ0 w0 s fin D a w (done ++ [(i, ms)]) r lds2 A2 μ ρ H R := by
  obtain ⟨hahead, hnot⟩ := plan_at hp hc.split
  have hrun := hc.run
  simp only [drawRun] at hrun
  cases ho : L[i]? with
  | none => simp [ho] at hrun
  | some o =>
    simp only [ho] at hrun
    cases hg : guardOk L A o with
    | false => rw [hg] at hrun; cases hrun
    | true =>
      rw [hg] at hrun
      simp only [Bool.not_true, cond_false] at hrun
      have hsA : A.nt ≤ 4000 := by rw [hc.ntA]; exact hc.small
      have other : ∀ j d, j ≠ i → dstAt L j = some d → o.dst ≠ some d := fun j d hj hd he =>
        hj (hp.dst j i d (dstAt_lt hd) (get_lt ho) hd (by rw [dstAt_of ho]; exact he))
      have hsubm : ∀ j, j ∉ (done ++ [(i, ms)]).map (·.1) → j ∉ done.map (·.1) := fun j hj hm => hj (by rw [List.map_append]; exact List.mem_append_left _ hm)
      -- whatever value it has
      have go : ∀ (u : Value) (lds2 : List Loaded), drawRun P ih ro L r lds2 (putR A o.dst u) μ = some fin → (∀ x ∈ lds, x ∈ lds2) →
          LateOf P L (pl.map (·.1)) A0 (putR A o.dst u) μ lds2 ρ i →
          Core P ih ro L pre pl A0 μ0 ρ0 w0 s fin D a w (done ++ [(i, ms)]) r lds2 (putR A o.dst u) μ ρ H R := by
        intro u lds2 hr hl hlate
        refine ⟨by rw [hc.split]; simp, hr, fun j hj hwj => ?_, fun j hj hjd => ?_, fun j k q h1 h2 h3 h4 => hc.apart j k q h1 (hsubm j h2) h3 (hsubm k h4), hc.down, hc.adv, hc.rr, hc.mks, by rw [nt_putR]; exact hc.ntA, hc.ntH, hc.small, hc.ah, fun j d hj hjd hd => ?_, fun d hd => ?_, fun j hj hnj => ?_⟩
        · rw [List.map_append] at hj
          rcases List.mem_append.1 hj with hj | hj
          · exact hc.works j hj hwj
          · simp at hj; subst hj; rw [hw] at hwj; cases hwj
        · refine (hc.pend j hj (hsubm j hjd)).step (fun q hq => by rw [List.map_append]; exact List.mem_append_left _ hq) (fun q d hq hd => ?_) (fun _ _ => rfl) (fun _ _ h => h) (fun _ _ _ h => ⟨rfl, h⟩)
          exact getR_put_ne hsA (other q d (fun e => hnot (e ▸ hq)) hd)
        · have hji : j ≠ i := fun e => hnD (e ▸ hj)
          have hjd' : j ∈ done.map (·.1) := by
            rw [List.map_append] at hjd
            rcases List.mem_append.1 hjd with h | h
            · exact h
            · simp at h; exact absurd h hji
          rw [getR_put_ne hsA (other j d hji hd)]
          exact hc.ad j d hj hjd' hd
        · have hi : dstAt L i ≠ some d := hd i (by simp)
          rw [dstAt_of ho] at hi
          rw [getR_put_ne hsA hi]
          exact hc.ac d fun j hj => hd j (by rw [List.map_append]; exact List.mem_append_left _ hj)
        · rw [List.map_append] at hj
          rcases List.mem_append.1 hj with hj | hj
          · exact (hc.late j hj hnj).step hp hsA ho ((hahead j).2 hj) (ahead_trans (hp := hp) hc.split hj) (fun _ _ h => h) hl (fun _ _ _ _ _ h => h)
          · simp at hj; subst hj; exact hlate
      have hlooks : ∀ (u : Value), ∀ d ∈ looksOf L i, (getR A d = getR A0 d ∧ ∀ j, ahead (pl.map (·.1)) j i = true → dstAt L j ≠ some d) ∨ ∃ j, ahead (pl.map (·.1)) j i = true ∧ dstAt L j = some d ∧ getR A d = getR (putR A o.dst u) d := by
        intro u d _
        by_cases hj : ∃ j, ahead (pl.map (·.1)) j i = true ∧ dstAt L j = some d
        · obtain ⟨j, h1, h2⟩ := hj
          have hne : j ≠ i := fun e => by subst e; rw [ahead_irr] at h1; cases h1
          exact .inr ⟨j, h1, h2, (getR_put_ne hsA (other j d hne h2)).symm⟩
        · refine .inl ⟨hc.ac d fun j hjd he => hj ⟨j, (hahead j).2 hjd, he⟩, fun j h1 h2 => hj ⟨j, h1, h2⟩⟩
      have hdst : ∀ (u : Value), ∀ d, o.dst = some d → d < A0.nt → getR (putR A o.dst u) d = u := by
        intro u d hd hlt
        rw [hd]
        exact getR_put_eq hsA (by rw [hc.ntA]; exact hlt)
      cases hwd : Region.wanted o (yieldedA L A) with
      | false =>
        rw [hwd, cond_false] at hrun
        refine ⟨_, _, go undef lds hrun (fun _ h => h) ⟨o, A, μ, undef, ho, hlooks undef, hg, fun d hd hlt => ?_, fun h => by rw [hwd] at h; cases h⟩⟩
        rw [hwd]
        exact hdst undef d hd hlt
      | true =>
        rw [hwd, cond_true] at hrun
        have hk : isWork (kindOf P o) = false := by rw [← kindAt_of ho]; exact hw
        have hop : operStep P ih ro o A μ = outM (opA P A μ o.op) := by
          unfold operStep
          rw [not_work_callee hk]
        rw [hop] at hrun
        cases hopA : opA P A μ o.op with
        | none => rw [hopA] at hrun; simp [outM] at hrun
        | some y =>
          obtain ⟨v, μ1⟩ := y
          have hμ : μ1 = μ := by
            cases hko : kindOf P o with
            | pure => exact (pure_sound hko hopA).1
            | read =>
              obtain ⟨t, x, hx⟩ := read_shape hko
              rw [hx] at hopA
              exact (pairM_some hopA).2
            | fresh => rw [hko] at hk; cases hk
            | act => rw [hko] at hk; cases hk
          subst hμ
          rw [hopA] at hrun
          simp only [outM] at hrun
          cases hkeep : keepsA P μ1 lds ms with
          | false => rw [hkeep] at hrun; cases hrun
          | true =>
            rw [hkeep, cond_true] at hrun
            have hv : getR (one v) 0 = v := rfl
            rw [hv] at hrun
            refine ⟨_, _, go v (addLd i o A v lds) hrun (fun x hx => ?_) ⟨o, A, μ1, v, ho, hlooks v, hg, fun d hd hlt => ?_, fun _ => ⟨hopA, EszOK.of_rel hc.adv.rel, fun t x hx => ⟨?_, ?_⟩⟩⟩⟩
            · unfold addLd
              split
              · exact List.mem_cons_of_mem _ hx
              · exact hx
            · rw [hwd]
              exact hdst v d hd hlt
            · unfold addLd
              rw [hx]
              simp
            · rw [hx] at hopA
              exact (pairM_some hopA).1

/-- The turn of one that has been run ahead of it. -/
theorem turn_pend (hp : Plan P L pre pl) {D : Nat → Prop} {a : Act} {w : World} {μ : Mem} {ρ : Ren} {H : Regs} {R : Nat → Option Nat} {r done : List (Nat × List Nat)} {lds : List Loaded} {A : Regs} {i : Nat} {ms : List Nat}
    (hc : Core P ih ro L pre pl A0 μ0 ρ0 w0 s fin D a w done ((i, ms) :: r) lds A μ ρ H R) (hD : D i) :
    ∃ lds2 A2 μ2 ρ2 H2, Core P ih ro L pre pl A0 μ0 ρ0 w0 s fin D a w (done ++ [(i, ms)]) r lds2 A2 μ2 ρ2 H2 R := by
  obtain ⟨hahead, hnot⟩ := plan_at hp hc.split
  obtain ⟨o, Hb, ho, hk, hlk, hcase⟩ := hc.pend i hD hnot
  have hsA : A.nt ≤ 4000 := by rw [hc.ntA]; exact hc.small
  have hsH : H.nt ≤ 4000 := by rw [hc.ntH]; exact hc.small
  have hw : isWork (kindAt P L i) = true := by rw [kindAt_of ho, hk]; rfl
  have other : ∀ j d, j ≠ i → dstAt L j = some d → o.dst ≠ some d := fun j d hj hd he =>
    hj (hp.dst j i d (dstAt_lt hd) (get_lt ho) hd (by rw [dstAt_of ho]; exact he))
  have hsubm : ∀ j, j ∉ (done ++ [(i, ms)]).map (·.1) → j ∉ done.map (·.1) ∧ j ≠ i := fun j hj =>
    ⟨fun hm => hj (by rw [List.map_append]; exact List.mem_append_left _ hm), fun e => hj (by rw [List.map_append, e]; simp)⟩
  have hag : Agree L i Hb A := by
    intro d hd
    rcases hlk d hd with ⟨h1, h2⟩ | ⟨j, h1, h2, h3⟩
    · rw [h1, hc.ac d fun j hj => h2 j ((hahead j).2 hj)]
    · exact h3
  obtain ⟨hg1, hg2⟩ := agree_guard ho hag
  have hrun := hc.run
  simp only [drawRun, ho] at hrun
  cases hg : guardOk L A o with
  | false => rw [hg] at hrun; cases hrun
  | true =>
    rw [hg] at hrun
    simp only [Bool.not_true, cond_false] at hrun
    have hmsk : ∀ l ∈ done.map (·.1), ¬ D l → kindAt P L l = .read → l ∈ ms := by
      intro l hl hnl hkl
      have hmem : (i, ms) ∈ pl := by rw [hc.split]; simp
      have hlo : l ∈ pl.map (·.1) := by rw [hc.split, List.map_append]; exact List.mem_append_left _ hl
      rcases hp.mask i ms l hmem hw hlo ((hahead l).2 hl) hkl with h | h
      · exact absurd (hc.down i hD l h) hnl
      · exact h
    have go : ∀ (u : Value) (lds2 : List Loaded) (μ2 : Mem) (ρ2 : Ren), drawRun P ih ro L r lds2 (putR A o.dst u) μ2 = some fin → (∀ x ∈ lds, x ∈ lds2) → Adv ρ0 μ0 w0 ρ2 μ2 w → (∀ (b : Nat) (p : Pl), ρ[b]? = some p → ρ2[b]? = some p) →
        (∀ d, o.dst = some d → d < A0.nt → VRel ρ2 u (a.tmps.getD d undef)) →
        (∀ l ∈ done.map (·.1), ¬ D l → kindAt P L l = .read → ∀ t ad v, (l, t, ad, v) ∈ lds → loadA P μ t ad = some v → loadA P μ2 t ad = some v) →
        (∀ j q, D j → j ∉ done.map (·.1) → j ≠ i → R j = some q → ¬ Lies ρ μ.blks q → ¬ Lies ρ2 μ2.blks q) →
        Core P ih ro L pre pl A0 μ0 ρ0 w0 s fin D a w (done ++ [(i, ms)]) r lds2 (putR A o.dst u) μ2 ρ2 (putR H o.dst u) R := by
      intro u lds2 μ2 ρ2 hr hl hadv hρ hu hloads hlies
      refine ⟨by rw [hc.split]; simp, hr, fun j hj hwj => ?_, fun j hj hjd => ?_, fun j k q h1 h2 h3 h4 => hc.apart j k q h1 (hsubm j h2).1 h3 (hsubm k h4).1, hc.down, hadv, (hc.rr.mono hρ).reg (fun d hd hlt => hu d hd (by rw [← hc.ntH]; exact hlt)), hc.mks, by rw [nt_putR]; exact hc.ntA, by rw [nt_putR]; exact hc.ntH, hc.small, fun d hno => ?_, fun j d hj hjd hdj => ?_, fun d hd => ?_, fun j hj hnj => ?_⟩
      · rw [List.map_append] at hj
        rcases List.mem_append.1 hj with hj | hj
        · exact hc.works j hj hwj
        · simp at hj; subst hj; exact hD
      · obtain ⟨h1, h2⟩ := hsubm j hjd
        refine (hc.pend j hj h1).step (fun q hq => by rw [List.map_append]; exact List.mem_append_left _ hq) (fun q d hq hd => ?_) (fun _ _ => rfl) hρ (fun q hq _ hn => ⟨rfl, hlies j q hj h1 h2 hq hn⟩)
        exact getR_put_ne hsA (other q d (fun e => hnot (e ▸ hq)) hd)
      · have hne : o.dst ≠ some d := fun he => hno i hD (by rw [dstAt_of ho]; exact he)
        rw [getR_put_ne hsH hne]
        exact hc.ah d hno
      · by_cases hji : j = i
        · subst hji
          rw [dstAt_of ho] at hdj
          by_cases hlt : d < A0.nt
          · rw [hdj, getR_put_eq hsH (by rw [hc.ntH]; exact hlt), getR_put_eq hsA (by rw [hc.ntA]; exact hlt)]
          · rw [getR_out (by rw [nt_putR, hc.ntH]; exact hlt), getR_out (by rw [nt_putR, hc.ntA]; exact hlt)]
        · have hjd' : j ∈ done.map (·.1) := by
            rw [List.map_append] at hjd
            rcases List.mem_append.1 hjd with h | h
            · exact h
            · simp at h; exact absurd h hji
          have hne := other j d hji hdj
          rw [getR_put_ne hsH hne, getR_put_ne hsA hne]
          exact hc.ad j d hj hjd' hdj
      · have hi : dstAt L i ≠ some d := hd i (by simp)
        rw [dstAt_of ho] at hi
        rw [getR_put_ne hsA hi]
        exact hc.ac d fun j hj => hd j (by rw [List.map_append]; exact List.mem_append_left _ hj)
      · rw [List.map_append] at hj
        rcases List.mem_append.1 hj with hj | hj
        · exact (hc.late j hj hnj).step hp hsA ho ((hahead j).2 hj) (ahead_trans (hp := hp) hc.split hj) hρ hl (fun hkj t ad v hm hld => hloads j hj hnj hkj t ad v hm hld)
        · simp at hj; subst hj; exact absurd hD hnj
    rcases hcase with ⟨q1, _, q3⟩ | ⟨q1, ρx, ax, wx, u, C, t, r1, r2, r3, r4, r5, r6, r7, r8⟩
    · rw [hg2] at q1
      rw [q1, cond_false] at hrun
      exact ⟨_, _, _, _, _, go undef lds μ ρ hrun (fun _ h => h) hc.adv (fun _ _ h => h) (fun d hd _ => by rw [q3 d hd]; exact undef_rel ρ) (fun _ _ _ _ _ _ _ _ h => h) (fun _ _ _ _ _ _ h => h)⟩
    · rw [hg2] at q1
      rw [q1, cond_true] at hrun
      have hop : operStep P ih ro o A μ = outM (opA P A μ o.op) := by
        unfold operStep
        rw [fresh_callee hk]
      rw [hop] at hrun
      cases hopA : opA P A μ o.op with
      | none => rw [hopA] at hrun; simp [outM] at hrun
      | some y =>
        obtain ⟨v, μ1⟩ := y
        rw [hopA] at hrun
        simp only [outM] at hrun
        have hopH : opA P Hb μ o.op = some (v, μ1) := by rw [opA_congr (agree_operand ho hag)]; exact hopA
        obtain ⟨mk, vs, hmk, rfl, rfl, hat, hfr⟩ := fresh_sound hk hopH
        obtain ⟨C', t', e1, e2⟩ := hfr ρx ax r1 wx
        rw [r3] at e1
        injection e1 with e3 e4
        injection e3 with e3
        have hC : Obj.cells C t = Obj.cells C' t' := by
          have h1 := heap_alloc_new wx (.cells C t)
          rw [e4, heap_alloc_new wx (.cells C' t')] at h1
          injection h1 with h1
          exact h1.symm
        injection hC with hC1 hC2
        subst hC1 hC2
        cases hkeep : keepsA P (μ.push (.cells vs true 0)) lds ms with
        | false => rw [hkeep] at hrun; cases hrun
        | true =>
          rw [hkeep, cond_true] at hrun
          have hv : getR (one (mk ⟨μ.size, 0, none⟩)) 0 = mk ⟨μ.size, 0, none⟩ := rfl
          rw [hv] at hrun
          have hlen : vs.length ≤ C.size := by rw [e2.1]; simp
          have hpre : ∀ (b : Nat) (p : Pl), ρ[b]? = some p → (ρ ++ [⟨wx.heap.size, 0, C.size, 0⟩])[b]? = some p := fun b p hb => get_push_lt hb
          have hadv := hc.adv.known (o := .cells vs true 0) r5 r7 ⟨wx.heap.size, 0, C.size, 0⟩ rfl
            ⟨rfl, C, t, (0, 0), r6, hlen, by simp, fun _ j _ _ hf => by omega, fun k x hx => by
              obtain ⟨x', k1, k2⟩ := e2.get hx
              exact ⟨x', by simpa using k1, (k2.mono r2).mono hpre, hat x (List.mem_of_getElem? hx)⟩⟩
          have hnew : (ρ ++ [⟨wx.heap.size, 0, C.size, 0⟩])[μ.size]? = some (⟨wx.heap.size, 0, C.size, 0⟩ : Pl) := by rw [Mem.size, ← hc.adv.rel.len]; simp
          refine ⟨_, _, _, _, _, go (mk ⟨μ.size, 0, none⟩) (addLd i o A (mk ⟨μ.size, 0, none⟩) lds) _ _ hrun (fun x hx => ?_) hadv hpre (fun d hd hlt => ?_) (fun l hl hnl hkl t ad v hm _ => keepsA_spec hkeep hm (hmsk l hl hnl hkl)) (fun j q hj hjd hji hq hn => ?_)⟩
          · unfold addLd
            split
            · exact List.mem_cons_of_mem _ hx
            · exact hx
          · rw [r8 d hd hlt, e3]
            exact hmk.rel hnew rfl
          · refine not_lies_known hc.adv.rel hn fun e => ?_
            exact hc.apart i j q hD hnot hj hjd (fun e => hji e.symm) (by rw [r4, ← e]) hq

/-- Turns, up to an act that has not been run. -/
theorem advance (hp : Plan P L pre pl) {D : Nat → Prop} {a : Act} {w : World} {R : Nat → Option Nat} : ∀ (rest done : List (Nat × List Nat)) (lds : List Loaded) (A : Regs) (μ : Mem) (ρ : Ren) (H : Regs),
    Core P ih ro L pre pl A0 μ0 ρ0 w0 s fin D a w done rest lds A μ ρ H R →
    ∃ done' rest' lds' A' μ' ρ' H', Core P ih ro L pre pl A0 μ0 ρ0 w0 s fin D a w done' rest' lds' A' μ' ρ' H' R ∧ ∀ x r, rest' = x :: r → isWork (kindAt P L x.1) = true ∧ ¬ D x.1 := by
  intro rest
  induction rest with
  | nil => intro done lds A μ ρ H hc; exact ⟨done, [], lds, A, μ, ρ, H, hc, fun x r h => by cases h⟩
  | cons x r IH =>
    obtain ⟨i, ms⟩ := x
    intro done lds A μ ρ H hc
    rcases Classical.em (D i) with hD | hnD
    · obtain ⟨lds2, A2, μ2, ρ2, H2, hc2⟩ := turn_pend hp hc hD
      exact IH _ _ _ _ _ _ hc2
    · cases hw : isWork (kindAt P L i) with
      | true => exact ⟨done, _, lds, A, μ, ρ, H, hc, fun x r h => by injection h with h1 h2; subst h1; exact ⟨hw, hnD⟩⟩
      | false =>
        obtain ⟨lds2, A2, hc2⟩ := turn_plain hp hc hnD hw
        exact IH _ _ _ _ _ _ hc2

/-- What the order's run comes to at a later turn. -/
theorem future (r1 : List (Nat × List Nat)) : ∀ (lds : List Loaded) (A : Regs) (μ : Mem), A.nt ≤ 4000 → ∀ (x : Nat × List Nat) (r2 : List (Nat × List Nat)), drawRun P ih ro L (r1 ++ x :: r2) lds A μ = some fin →
    ∃ lds' A' μ', drawRun P ih ro L (x :: r2) lds' A' μ' = some fin ∧ A'.nt = A.nt ∧ ∀ d, (∀ j ∈ r1.map (·.1), dstAt L j ≠ some d) → getR A' d = getR A d := by
  induction r1 with
  | nil => intro lds A μ _ x r2 h; exact ⟨lds, A, μ, h, rfl, fun _ _ => rfl⟩
  | cons y r1 IH =>
    obtain ⟨i, ms⟩ := y
    intro lds A μ hs x r2 h
    simp only [List.cons_append, drawRun] at h
    cases ho : L[i]? with
    | none => simp [ho] at h
    | some o =>
      simp only [ho] at h
      have go : ∀ u lds2 μ2, drawRun P ih ro L (r1 ++ x :: r2) lds2 (putR A o.dst u) μ2 = some fin → ∃ lds' A' μ', drawRun P ih ro L (x :: r2) lds' A' μ' = some fin ∧ A'.nt = A.nt ∧
          ∀ d, (∀ j ∈ ((i, ms) :: r1).map (·.1), dstAt L j ≠ some d) → getR A' d = getR A d := by
        intro u lds2 μ2 h
        obtain ⟨lds', A', μ', h1, h2, h3⟩ := IH lds2 _ μ2 (by rw [nt_putR]; exact hs) x r2 h
        refine ⟨lds', A', μ', h1, by rw [h2, nt_putR], fun d hd => ?_⟩
        rw [h3 d fun j hj => hd j (by simp at hj ⊢; exact .inr hj)]
        exact getR_put_ne hs (by have := hd i (by simp); rwa [dstAt_of ho] at this)
      cases hg : guardOk L A o with
      | false => rw [hg] at h; cases h
      | true =>
        rw [hg] at h
        simp only [Bool.not_true, cond_false] at h
        cases hw : Region.wanted o (yieldedA L A) with
        | false => rw [hw, cond_false] at h; exact go _ _ _ h
        | true =>
          rw [hw, cond_true] at h
          split at h
          · rename_i e1 B μ2 hop
            cases hk : keepsA P μ2 lds ms with
            | false => rw [hk] at h; cases h
            | true => rw [hk, cond_true] at h; exact go _ _ _ h
          · cases h

end
end Go.Vm
