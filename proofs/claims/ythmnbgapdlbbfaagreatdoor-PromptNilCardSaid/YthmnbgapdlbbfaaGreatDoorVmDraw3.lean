/- Regions that draw their order: whatever order is drawn, the run ends as the order that was checked. -/
import Derived.Test.YthmnbgapdlbbfaaGreatDoorVmSame
set_option linter.unusedSimpArgs false
set_option linter.unusedVariables false
namespace Go.Vm
open Go.RowKit

variable {P : Program}

/-- An operation that has had its turn in the order, but not yet in the run. -/
def LateOf (P : Program) (L : List Oper) (os : List Nat) (A0 A : Regs) (μ : Mem) (lds : List Loaded) (ρ : Ren) (i : Nat) : Prop :=
  ∃ o Ai μi v, L[i]? = some o ∧
    (∀ d ∈ looksOf L i, (getR Ai d = getR A0 d ∧ ∀ j, ahead os j i = true → dstAt L j ≠ some d) ∨ ∃ j, ahead os j i = true ∧ dstAt L j = some d ∧ getR Ai d = getR A d) ∧
    guardOk L Ai o = true ∧
    (∀ d, o.dst = some d → d < A0.nt → getR A d = if Region.wanted o (yieldedA L Ai) then v else undef) ∧
    (Region.wanted o (yieldedA L Ai) = true → opA P Ai μi o.op = some (v, μi) ∧ EszOK ρ μi ∧ ∀ t x, o.op = .load t x → (i, t, evA Ai x, v) ∈ lds ∧ loadA P μ t (evA Ai x) = some v)

/-- An operation that has been run ahead of its turn: it makes one new block, or was not wanted. -/
def PendOf (P : Program) (L : List Oper) (os : List Nat) (A0 A : Regs) (w0 w : World) (a : Act) (μ : Mem) (ρ : Ren) (done : List Nat) (i : Nat) (x : Option Nat) : Prop :=
  ∃ o Hb, L[i]? = some o ∧ kindOf P o = .fresh ∧
    (∀ d ∈ looksOf L i, (getR Hb d = getR A0 d ∧ ∀ j, ahead os j i = true → dstAt L j ≠ some d) ∨ ∃ j ∈ done, dstAt L j = some d ∧ getR Hb d = getR A d) ∧
    ((Region.wanted o (yieldedA L Hb) = false ∧ x = none ∧ ∀ d, o.dst = some d → a.tmps.getD d undef = undef) ∨
     (Region.wanted o (yieldedA L Hb) = true ∧ ∃ (ρx : Ren) (ax : Act) (wx : World) (u : Value) (C : Array Value) (t : TypeId), RRel ρx Hb ax.tmps ∧ (∀ (b : Nat) (p : Pl), ρx[b]? = some p → ρ[b]? = some p) ∧
       (execOp ax.eval o).run P wx = .ok (.value u) (wx.alloc (.cells C t)) ∧ x = some wx.heap.size ∧ w0.heap.size ≤ wx.heap.size ∧ w.heap[wx.heap.size]? = some (.cells C t) ∧
       ¬ Lies ρ μ.blks wx.heap.size ∧ ∀ d, o.dst = some d → d < A0.nt → a.tmps.getD d undef = u))

structure Core (P : Program) (ih : Ev) (ro : Option Nat) (L : List Oper) (pre : List (List Nat)) (pl : List (Nat × List Nat)) (A0 : Regs) (μ0 : Mem) (ρ0 : Ren) (w0 : World) (s : Nat) (fin : Out)
    (D : Nat → Prop) (a : Act) (w : World) (done rest : List (Nat × List Nat)) (lds : List Loaded) (A : Regs) (μ : Mem) (ρ : Ren) (H : Regs) (R : Nat → Option Nat) : Prop where
  split : pl = done ++ rest
  run : drawRun P ih ro L rest lds A μ = some fin
  works : ∀ i ∈ done.map (·.1), isWork (kindAt P L i) = true → D i
  pend : ∀ i, D i → i ∉ done.map (·.1) → PendOf P L (pl.map (·.1)) A0 A w0 w a μ ρ (done.map (·.1)) i (R i)
  apart : ∀ i j r, D i → i ∉ done.map (·.1) → D j → j ∉ done.map (·.1) → i ≠ j → R i = some r → R j ≠ some r
  down : ∀ i, D i → ∀ j ∈ preAt pre i, D j
  adv : Adv ρ0 μ0 w0 ρ μ w
  rr : RRel ρ H a.tmps
  mks : Marks s w a.defers
  ntA : A.nt = A0.nt
  ntH : H.nt = A0.nt
  small : A0.nt ≤ 4000
  ah : ∀ d, (∀ j, D j → dstAt L j ≠ some d) → getR H d = getR A0 d
  ad : ∀ j d, D j → j ∈ done.map (·.1) → dstAt L j = some d → getR H d = getR A d
  ac : ∀ d, (∀ j ∈ done.map (·.1), dstAt L j ≠ some d) → getR A d = getR A0 d
  late : ∀ i ∈ done.map (·.1), ¬ D i → LateOf P L (pl.map (·.1)) A0 A μ lds ρ i

theorem getR_put_ne {A : Regs} (hs : A.nt ≤ 4000) {od : Option Tmp} {u : Value} {d : Nat} (h : od ≠ some d) : getR (putR A od u) d = getR A d := by
  cases od with
  | none => rfl
  | some i =>
    show getR (setR A i u) d = _
    rw [getR_setR hs, if_neg]
    intro hc
    exact h (by rw [hc.1])
theorem getR_put_eq {A : Regs} (hs : A.nt ≤ 4000) {u : Value} {d : Nat} (hd : d < A.nt) : getR (putR A (some d) u) d = u := by
  show getR (setR A d u) d = _
  rw [getR_setR hs, if_pos ⟨rfl, hd⟩]
theorem getR_out {A : Regs} {d : Nat} (h : ¬ d < A.nt) : getR A d = undef := by
  unfold getR
  rw [bltF h, cond_false]

theorem dstAt_of {L : List Oper} {i : Nat} {o : Oper} (ho : L[i]? = some o) : dstAt L i = o.dst := by
  unfold dstAt; rw [ho]; rfl
theorem kindAt_of {L : List Oper} {i : Nat} {o : Oper} (ho : L[i]? = some o) : kindAt P L i = kindOf P o := by
  unfold kindAt; rw [ho]
theorem get_lt {L : List Oper} {i : Nat} {o : Oper} (ho : L[i]? = some o) : i < L.length := by
  rcases Nat.lt_or_ge i L.length with h | h
  · exact h
  · rw [List.getElem?_eq_none h] at ho; cases ho

/-- A late operation stays late: another has had its turn. -/
theorem LateOf.step {L : List Oper} {pre : List (List Nat)} {pl : List (Nat × List Nat)} (hp : Plan P L pre pl) {A0 A : Regs} (hs : A.nt ≤ 4000) {μ μ2 : Mem} {lds lds2 : List Loaded} {ρ ρ2 : Ren} {l i : Nat} {o : Oper} (ho : L[i]? = some o)
    (hal : ahead (pl.map (·.1)) l i = true) (htr : ∀ j, ahead (pl.map (·.1)) j l = true → j ≠ i) {u : Value}
    (hρ : ∀ (b : Nat) (p : Pl), ρ[b]? = some p → ρ2[b]? = some p) (hlds : ∀ x ∈ lds, x ∈ lds2) (hload : kindAt P L l = .read → ∀ t ad v, (l, t, ad, v) ∈ lds → loadA P μ t ad = some v → loadA P μ2 t ad = some v)
    (h : LateOf P L (pl.map (·.1)) A0 A μ lds ρ l) : LateOf P L (pl.map (·.1)) A0 (putR A o.dst u) μ2 lds2 ρ2 l := by
  obtain ⟨ol, Al, μl, v, h1, h2, h3, h4, h5⟩ := h
  have hne : l ≠ i := fun e => by subst e; rw [ahead_irr] at hal; cases hal
  have other : ∀ j d, j ≠ i → dstAt L j = some d → o.dst ≠ some d := fun j d hj hd he =>
    hj (hp.dst j i d (dstAt_lt hd) (get_lt ho) hd (by rw [dstAt_of ho]; exact he))
  refine ⟨ol, Al, μl, v, h1, fun d hd => ?_, h3, fun d hd hlt => ?_, fun hw => ?_⟩
  · rcases h2 d hd with h | ⟨j, q1, q2, q3⟩
    · exact .inl h
    · exact .inr ⟨j, q1, q2, by rw [getR_put_ne hs (other j d (htr j q1) q2)]; exact q3⟩
  · rw [getR_put_ne hs (other l d hne (by rw [dstAt_of h1]; exact hd))]
    exact h4 d hd hlt
  · obtain ⟨q1, q2, q3⟩ := h5 hw
    exact ⟨q1, q2.mono hρ, fun t x hx => let ⟨r1, r2⟩ := q3 t x hx; ⟨hlds _ r1, hload (by rw [kindAt_of h1]; unfold kindOf; rw [hx]) _ _ _ r1 r2⟩⟩

section
variable {ih : Ev} {ro : Option Nat} {L : List Oper} {pre : List (List Nat)} {pl : List (Nat × List Nat)} {A0 : Regs} {μ0 : Mem} {ρ0 : Ren} {w0 : World} {s : Nat} {fin : Out}

theorem plan_at (hp : Plan P L pre pl) {done r : List (Nat × List Nat)} {i : Nat} {ms : List Nat} (h : pl = done ++ (i, ms) :: r) :
    (∀ j, ahead (pl.map (·.1)) j i = true ↔ j ∈ done.map (·.1)) ∧ i ∉ done.map (·.1) := by
  have e : pl.map (·.1) = done.map (·.1) ++ i :: r.map (·.1) := by rw [h]; simp
  have hn := hp.nodup
  refine ⟨fun j => ahead_iff e hn, fun hm => ?_⟩
  rw [e] at hn
  exact (List.nodup_append.1 hn).2.2 i hm i (by simp) rfl

/-- Who stands ahead of one that has had its turn is not the one whose turn it is. -/
theorem ahead_trans {hp : Plan P L pre pl} {done r : List (Nat × List Nat)} {i : Nat} {ms : List Nat} (h : pl = done ++ (i, ms) :: r) {l : Nat} (hl : l ∈ done.map (·.1)) :
    ∀ j, ahead (pl.map (·.1)) j l = true → j ≠ i := by
  intro j hj e
  subst e
  have := ((plan_at hp h).1 l).2 hl
  rw [ahead_asym this] at hj
  cases hj

/-- A pending operation stays so. -/
theorem PendOf.step {L : List Oper} {os : List Nat} {A0 A A2 : Regs} {w0 w w2 : World} {a a2 : Act} {μ μ2 : Mem} {ρ ρ2 : Ren} {done done2 : List Nat} {i : Nat} {x : Option Nat} (hdone : ∀ j ∈ done, j ∈ done2)
    (hA : ∀ j d, j ∈ done → dstAt L j = some d → getR A2 d = getR A d) (ha : ∀ d, dstAt L i = some d → a2.tmps.getD d undef = a.tmps.getD d undef)
    (hρ : ∀ (b : Nat) (p : Pl), ρ[b]? = some p → ρ2[b]? = some p) (hw : ∀ r, x = some r → r < w.heap.size → ¬ Lies ρ μ.blks r → w2.heap[r]? = w.heap[r]? ∧ ¬ Lies ρ2 μ2.blks r)
    (h : PendOf P L os A0 A w0 w a μ ρ done i x) : PendOf P L os A0 A2 w0 w2 a2 μ2 ρ2 done2 i x := by
  obtain ⟨o, Hb, h1, h2, h3, h4⟩ := h
  have hd : ∀ d, o.dst = some d → dstAt L i = some d := fun d hd => by rw [dstAt_of h1]; exact hd
  refine ⟨o, Hb, h1, h2, fun d hd => ?_, ?_⟩
  · rcases h3 d hd with h | ⟨j, q1, q2, q3⟩
    · exact .inl h
    · exact .inr ⟨j, hdone j q1, q2, by rw [hA j d q1 q2]; exact q3⟩
  · rcases h4 with ⟨q1, q2, q3⟩ | ⟨q1, ρx, ax, wx, u, C, t, r1, r2, r3, r4, r5, r6, r7, r8⟩
    · exact .inl ⟨q1, q2, fun d hdd => by rw [ha d (hd d hdd)]; exact q3 d hdd⟩
    · obtain ⟨e1, e2⟩ := hw _ r4 (lt_of_heap r6) r7
      exact .inr ⟨q1, ρx, ax, wx, u, C, t, r1, fun b p hb => hρ b p (r2 b p hb), r3, r4, r5, by rw [e1]; exact r6, e2, fun d hdd hlt => by rw [ha d (hd d hdd)]; exact r8 d hdd hlt⟩

/-- A block that was made ahead of its turn is known now. -/
theorem Adv.known {ρ ρ' : Ren} {μ μ' : Mem} {w w' : World} (h : Adv ρ μ w ρ' μ' w') {r : Nat} (hr : w.heap.size ≤ r) (hn : ¬ Lies ρ' μ'.blks r) {o : AObj} (pl : Pl) (hpl : pl.1 = r) (ho : ORel (ρ' ++ [pl]) w' pl o) :
    Adv ρ μ w (ρ' ++ [pl]) (μ'.push o) w' := by
  have hpre : ∀ (b : Nat) (p : Pl), ρ'[b]? = some p → (ρ' ++ [pl])[b]? = some p := fun b p hb => get_push_lt hb
  have hm := h.rel
  have hnew : (ρ' ++ [pl])[μ'.blks.length]? = some pl := by rw [← hm.len]; simp
  -- where a block comes from
  have src : ∀ (c : Nat) (x : AObj) (q : Pl), (μ'.blks ++ [o])[c]? = some x → (ρ' ++ [pl])[c]? = some q → (μ'.blks[c]? = some x ∧ ρ'[c]? = some q) ∨ (c = μ'.blks.length ∧ x = o ∧ q = pl) := by
    intro c x q hc hq
    rcases get_push hc with hc | ⟨hcl, hx⟩
    · obtain ⟨q', hq'⟩ := hm.place hc
      have e := hpre c q' hq'
      rw [hq] at e
      injection e with e
      subst e
      exact .inl ⟨hc, hq'⟩
    · subst hcl
      rw [hnew] at hq
      injection hq with hq
      exact .inr ⟨rfl, hx, hq.symm⟩
  refine ⟨⟨by simp [Mem.push, hm.len], fun c x q hc hq => ?_, fun c d x y p q hne hc hd hox hly hp hq => ?_⟩, fun b p hb => hpre b p (h.pre b p hb), h.size, h.keep, fun r' hr' ho' => ?_, fun r' hr' ho' => ?_, h.os, h.tape, h.output, h.low, ?_, fun s hs hl hm0 => ?_⟩
  · rcases src c x q hc hq with ⟨h1, h2⟩ | ⟨_, rfl, rfl⟩
    · exact (hm.obj c x q h1 h2).mono hpre
    · exact ho
  · rcases src c x p hc hp with ⟨h1, h2⟩ | ⟨e1, e2, e3⟩ <;> rcases src d y q hd hq with ⟨h1', h2'⟩ | ⟨e1', e2', e3'⟩
    · exact hm.inj c d x y p q hne h1 h1' hox hly h2 h2'
    · subst e3'
      rw [hpl]
      exact fun e => hn ⟨c, x, p, h1, owned_live hox, h2, e⟩
    · subst e3
      rw [hpl]
      exact fun e => hn ⟨d, y, q, h1', hly, h2', e.symm⟩
    · exact absurd (e1.trans e1'.symm) hne
  · obtain ⟨c, x, q, hc, hox, hq, hqr⟩ := ho'
    rcases src c x q hc hq with ⟨h1, h2⟩ | ⟨_, _, rfl⟩
    · exact h.own r' hr' ⟨c, x, q, h1, hox, h2, hqr⟩
    · omega
  · obtain ⟨c, x, q, hc, hox, hq, hqr⟩ := ho'
    rcases src c x q hc hq with ⟨h1, h2⟩ | ⟨_, _, rfl⟩
    · exact h.lives r' hr' ⟨c, x, q, h1, hox, h2, hqr⟩
    · omega
  · have := h.grow
    simp [Mem.push]; omega
  · have e : (μ'.push o).blks.take s = μ'.blks.take s := by
      have := h.grow
      simp [Mem.push, List.take_append_of_le_length (show s ≤ μ'.blks.length by omega)]
    rw [e]
    exact h.cut s hs hl hm0

theorem not_lies_known {ρ : Ren} {l : List AObj} {w : World} (hm : MRel ρ l w) {r : Nat} (hn : ¬ Lies ρ l r) {o : AObj} {pl : Pl} (hne : pl.1 ≠ r) : ¬ Lies (ρ ++ [pl]) (l ++ [o]) r := by
  rintro ⟨c, x, q, hc, hox, hq, hqr⟩
  rcases get_push hc with hc | ⟨hcl, hx⟩
  · obtain ⟨q', hq'⟩ := hm.place hc
    have e := get_push_lt (x := pl) hq'
    rw [hq] at e
    injection e with e
    subst e
    exact hn ⟨c, x, q, hc, hox, hq', hqr⟩
  · subst hcl
    have : (ρ ++ [pl])[l.length]? = some pl := by rw [← hm.len]; simp
    rw [hq] at this
    injection this with this
    subst this
    exact hne hqr

theorem fresh_callee {o : Oper} (hk : kindOf P o = .fresh) : calleeOf o.op = none := by
  unfold calleeOf
  split
  · rename_i c ho
    split
    · rename_i f hf
      exfalso
      obtain ⟨callee, args, argTypes⟩ := c
      simp only at hf
      subst hf
      unfold kindOf at hk
      rw [ho] at hk
      cases hk
    · rfl
  · rfl

theorem RRel.reg {ρ : Ren} {H : Regs} {C : Array Value} (h : RRel ρ H C) {od : Option Tmp} {u : Value} (hu : ∀ d, od = some d → d < H.nt → VRel ρ u (C.getD d undef)) : RRel ρ (putR H od u) C := by
  cases od with
  | none => exact h
  | some d =>
    refine ⟨by rw [nt_putR]; exact h.small, by rw [nt_putR]; exact h.size, fun i => ?_⟩
    show VRel ρ (getR (setR H d u) i) _
    rw [getR_setR h.small]
    by_cases hc : i = d ∧ d < H.nt
    · obtain ⟨rfl, hd⟩ := hc
      rw [if_pos ⟨rfl, hd⟩]
      exact hu i rfl hd
    · rw [if_neg hc]
      exact h.val i

end
end Go.Vm
