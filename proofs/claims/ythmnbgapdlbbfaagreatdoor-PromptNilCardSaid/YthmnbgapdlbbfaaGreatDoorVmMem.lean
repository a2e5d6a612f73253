/- Memory and world: the relation, and the primitive ways in which both go on. -/
import Derived.Test.YthmnbgapdlbbfaaGreatDoorVmRel
set_option linter.unusedSimpArgs false
set_option linter.unusedVariables false
namespace Go.Vm
open Go.RowKit

/-- Registers against a frame's temporaries. -/
structure RRel (ρ : Ren) (A : Regs) (C : Array Value) : Prop where
  small : A.nt ≤ 4000
  size : C.size = A.nt
  val : ∀ i, VRel ρ (getR A i) (C.getD i undef)

theorem RRel.mono {ρ ρ' : Ren} (hp : ∀ (b : Nat) (p : Pl), ρ[b]? = some p → ρ'[b]? = some p) {A : Regs} {C : Array Value} (h : RRel ρ A C) : RRel ρ' A C :=
  ⟨h.small, h.size, fun i => (h.val i).mono hp⟩

theorem RRel.set {ρ : Ren} {A : Regs} {C : Array Value} (h : RRel ρ A C) (d : Nat) {v v' : Value} (hv : VRel ρ v v') : RRel ρ (setR A d v) (C.setIfInBounds d v') := by
  refine ⟨by rw [nt_setR]; exact h.small, by rw [nt_setR, Array.size_setIfInBounds]; exact h.size, fun i => ?_⟩
  rw [getR_setR h.small]
  have hs := h.size
  have hi := h.val i
  by_cases hc : i = d ∧ d < A.nt
  · obtain ⟨rfl, hd⟩ := hc
    rw [if_pos ⟨rfl, hd⟩]
    have : (C.setIfInBounds i v').getD i undef = v' := by
      simp [Array.getD_eq_getD_getElem?, hs, hd]
    rw [this]; exact hv
  · rw [if_neg hc]
    have : (C.setIfInBounds d v').getD i undef = C.getD i undef := by
      simp only [Array.getD_eq_getD_getElem?, Array.getElem?_setIfInBounds]
      by_cases hdi : d = i
      · subst hdi
        have : ¬ d < C.size := by omega
        rw [if_pos rfl, if_neg this]
        simp [Array.getElem?_eq_none (by omega : C.size ≤ d)]
      · rw [if_neg hdi]
    rw [this]; exact hi

theorem RRel.put {ρ : Ren} {A : Regs} {a : Act} (h : RRel ρ A a.tmps) (d : Option Tmp) {v v' : Value} (hv : VRel ρ v v') : RRel ρ (putR A d v) (a.put d v').tmps := by
  cases d with
  | none => exact h
  | some d => exact h.set d hv

theorem RRel.eval {ρ : Ren} {A : Regs} {a : Act} (h : RRel ρ A a.tmps) (x : Operand) : VRel ρ (evA A x) (a.eval x) := by
  cases x with
  | tmp t => exact h.val t
  | const v =>
    unfold evA Act.eval
    by_cases hp : plain v = true
    · simp only [hp, if_true]; exact .of_plain ρ hp
    · simp only [hp]; exact .top _
  | global g => exact .top _
  | func f => exact .func f rfl (fun i u u' hu => by simp at hu) rfl (fun i u u' hu => by simp at hu)

/-- What the model's block must be like. -/
def ORel (ρ : Ren) (w : World) (p : Pl) : AObj → Prop
  | .cells c wr esz => p.esz = esz ∧ ∃ C e fr, w.heap[p.1]? = some (.cells C e fr) ∧ c.length ≤ p.lim ∧ p.2 + p.lim ≤ C.size ∧
      (wr = true → ∀ j, p.2 ≤ j → j < p.2 + p.lim → ¬ (fr.1 ≤ j ∧ j < fr.2)) ∧
      ∀ (i : Nat) (v : Value), c[i]? = some v → ∃ v', C[p.2 + i]? = some v' ∧ VRel ρ v v' ∧ atomic v = true
  | .map es => p.2 = 0 ∧ ∃ ES clock, w.heap[p.1]? = some (.map ES clock) ∧ ES.size = es.length ∧
      ∀ (i : Nat) (k v : Value), es[i]? = some (k, v) → ∃ e : MapEntry, ES[i]? = some e ∧ e.key = k ∧ plain k = true ∧ VRel ρ v e.val
  | .iter s pos => p.2 = 0 ∧ w.heap[p.1]? = some (.stringIter s pos)
  | .loop st pend tm ps assign body => p.2 = 0 ∧ ∃ L : Loop, w.heap[p.1]? = some (.loop L) ∧ L.state = st ∧ L.pending = pend ∧ RRel ρ tm L.tmps ∧ L.params = ps ∧ L.assign = assign ∧ L.body = body
  | .dead => True

def owned : AObj → Bool
  | .cells _ wr _ => wr
  | .dead => false
  | _ => true
def live : AObj → Bool
  | .dead => false
  | _ => true

theorem owned_live' {o : AObj} (h : owned o = true) : live o = true := by cases o <;> first | rfl | cases h

theorem ORel.mono {ρ ρ' : Ren} (hp : ∀ (b : Nat) (p : Pl), ρ[b]? = some p → ρ'[b]? = some p) {w : World} {p : Pl} {o : AObj} (h : ORel ρ w p o) : ORel ρ' w p o := by
  cases o with
  | cells c wr esz =>
    obtain ⟨hz, C, e, fr, hh, hl1, hl2, hf, hc⟩ := h
    exact ⟨hz, C, e, fr, hh, hl1, hl2, hf, fun i v hv => let ⟨v', h1, h2, h3⟩ := hc i v hv; ⟨v', h1, h2.mono hp, h3⟩⟩
  | map es =>
    obtain ⟨h0, ES, clock, hh, hs, hc⟩ := h
    exact ⟨h0, ES, clock, hh, hs, fun i k v hv => let ⟨e, h1, h2, h3, h4⟩ := hc i k v hv; ⟨e, h1, h2, h3, h4.mono hp⟩⟩
  | iter s pos => exact h
  | loop st pend tm ps assign body =>
    obtain ⟨h0, L, hh, h1, h2, h3, h4⟩ := h
    exact ⟨h0, L, hh, h1, h2, h3.mono hp, h4⟩
  | dead => trivial

/-- In a world in which that block is the same. -/
theorem ORel.world {ρ : Ren} {w w' : World} {p : Pl} {o : AObj} (h : ORel ρ w p o) (hw : live o = true → w'.heap[p.1]? = w.heap[p.1]?) : ORel ρ w' p o := by
  cases o with
  | dead => trivial
  | cells c wr esz => have e := hw rfl; simp only [ORel] at *; rw [e]; exact h
  | map es => have e := hw rfl; simp only [ORel] at *; rw [e]; exact h
  | iter s pos => have e := hw rfl; simp only [ORel] at *; rw [e]; exact h
  | loop st pend tm ps assign body => have e := hw rfl; simp only [ORel] at *; rw [e]; exact h

/-- A live block is a block of the model's. -/
theorem ORel.lt {ρ : Ren} {w : World} {p : Pl} {o : AObj} (h : ORel ρ w p o) (ho : live o = true) : p.1 < w.heap.size := by
  have key : ∀ {x : Obj}, w.heap[p.1]? = some x → p.1 < w.heap.size := fun hx => by
    rcases Nat.lt_or_ge p.1 w.heap.size with h | h
    · exact h
    · rw [Array.getElem?_eq_none h] at hx; cases hx
  cases o with
  | cells c wr esz => obtain ⟨_, C, e, fr, hh, _⟩ := h; exact key hh
  | map es => obtain ⟨_, ES, clock, hh, _⟩ := h; exact key hh
  | iter s pos => exact key h.2
  | loop st pend tm ps assign body => obtain ⟨_, L, hh, _⟩ := h; exact key hh
  | dead => cases ho

structure MRel (ρ : Ren) (l : List AObj) (w : World) : Prop where
  len : ρ.length = l.length
  obj : ∀ (b : Nat) (o : AObj) (p : Pl), l[b]? = some o → ρ[b]? = some p → ORel ρ w p o
  inj : ∀ (b c : Nat) (o x : AObj) (p q : Pl), b ≠ c → l[b]? = some o → l[c]? = some x → owned o = true → live x = true → ρ[b]? = some p → ρ[c]? = some q → p.1 ≠ q.1

theorem MRel.place {ρ : Ren} {l : List AObj} {w : World} (h : MRel ρ l w) {b : Nat} {o : AObj} (hb : l[b]? = some o) : ∃ p, ρ[b]? = some p := by
  have : b < ρ.length := by
    rw [h.len]
    rcases Nat.lt_or_ge b l.length with h | h
    · exact h
    · rw [List.getElem?_eq_none h] at hb; cases hb
  exact ⟨ρ[b], by simp [this]⟩

/-- The model's blocks that may be written. -/
def Own (ρ : Ren) (l : List AObj) (r : Nat) : Prop := ∃ (b : Nat) (o : AObj) (p : Pl), l[b]? = some o ∧ owned o = true ∧ ρ[b]? = some p ∧ p.1 = r

/-- The model's blocks that are known. -/
def Lies (ρ : Ren) (l : List AObj) (r : Nat) : Prop := ∃ (b : Nat) (o : AObj) (p : Pl), l[b]? = some o ∧ live o = true ∧ ρ[b]? = some p ∧ p.1 = r

/-- How memory and world have gone on. -/
structure Adv (ρ : Ren) (μ : Mem) (w : World) (ρ' : Ren) (μ' : Mem) (w' : World) : Prop where
  rel : MRel ρ' μ'.blks w'
  pre : ∀ (b : Nat) (p : Pl), ρ[b]? = some p → ρ'[b]? = some p
  size : w.heap.size ≤ w'.heap.size
  keep : ∀ r, r < w.heap.size → ¬ Own ρ μ.blks r → w'.heap[r]? = w.heap[r]?
  own : ∀ r, r < w.heap.size → Own ρ' μ'.blks r → Own ρ μ.blks r
  lives : ∀ r, r < w.heap.size → Lies ρ' μ'.blks r → Lies ρ μ.blks r
  os : w'.os = w.os
  tape : w'.tape = w.tape
  output : w'.output = w.output
  low : μ'.low ≤ μ.low
  grow : μ.blks.length ≤ μ'.blks.length
  cut : ∀ s, s ≤ μ.blks.length → s ≤ μ'.low → MRel (ρ.take s) (μ.blks.take s) w → MRel (ρ.take s) (μ'.blks.take s) w'

theorem Adv.refl {ρ : Ren} {μ : Mem} {w : World} (h : MRel ρ μ.blks w) : Adv ρ μ w ρ μ w :=
  ⟨h, fun _ _ h => h, Nat.le_refl _, fun _ _ _ => rfl, fun _ _ h => h, fun _ _ h => h, rfl, rfl, rfl, Nat.le_refl _, Nat.le_refl _, fun _ _ _ h => h⟩

theorem take_of_pre {ρ ρ' : Ren} (hp : ∀ (b : Nat) (p : Pl), ρ[b]? = some p → ρ'[b]? = some p) {s : Nat} (hs : s ≤ ρ.length) : ρ'.take s = ρ.take s := by
  apply List.ext_getElem?
  intro i
  simp only [List.getElem?_take]
  split
  · rename_i hi
    have : i < ρ.length := by omega
    rw [hp i ρ[i] (by simp [this])]
    simp [this]
  · rfl

theorem Adv.trans {ρ ρ₁ ρ₂ : Ren} {μ μ₁ μ₂ : Mem} {w w₁ w₂ : World} (h0 : MRel ρ μ.blks w) (h : Adv ρ μ w ρ₁ μ₁ w₁) (k : Adv ρ₁ μ₁ w₁ ρ₂ μ₂ w₂) : Adv ρ μ w ρ₂ μ₂ w₂ where
  rel := k.rel
  pre b p hb := k.pre b p (h.pre b p hb)
  size := Nat.le_trans h.size k.size
  keep r hr hn := (k.keep r (Nat.lt_of_lt_of_le hr h.size) fun ho => hn (h.own r hr ho)).trans (h.keep r hr hn)
  own r hr ho := h.own r hr (k.own r (Nat.lt_of_lt_of_le hr h.size) ho)
  lives r hr ho := h.lives r hr (k.lives r (Nat.lt_of_lt_of_le hr h.size) ho)
  os := k.os.trans h.os
  tape := k.tape.trans h.tape
  output := k.output.trans h.output
  low := Nat.le_trans k.low h.low
  grow := Nat.le_trans h.grow k.grow
  cut s hs hl hm := by
    have h1 := h.cut s hs (Nat.le_trans hl k.low) hm
    have e : ρ₁.take s = ρ.take s := take_of_pre h.pre (by rw [h0.len]; exact hs)
    have h2 := k.cut s (Nat.le_trans hs h.grow) hl (by rw [e]; exact h1)
    rw [e] at h2
    exact h2

/-! ### New blocks -/
theorem get_push_lt {α : Type} {l : List α} {x : α} {i : Nat} {o : α} (h : l[i]? = some o) : (l ++ [x])[i]? = some o := by
  rw [List.getElem?_append_left]
  · exact h
  · rcases Nat.lt_or_ge i l.length with h' | h'
    · exact h'
    · rw [List.getElem?_eq_none h'] at h; cases h
theorem get_push {α : Type} {l : List α} {x : α} {i : Nat} {o : α} (h : (l ++ [x])[i]? = some o) : l[i]? = some o ∨ (i = l.length ∧ o = x) := by
  rcases Nat.lt_trichotomy i l.length with h' | h' | h'
  · rw [List.getElem?_append_left h'] at h; exact .inl h
  · subst h'; simp at h; exact .inr ⟨rfl, h.symm⟩
  · rw [List.getElem?_eq_none (by simp; omega)] at h; cases h

theorem heap_alloc_lt (w : World) (O : Obj) {k : Nat} (h : k < w.heap.size) : (w.alloc O).heap[k]? = w.heap[k]? := Below.heap_alloc w O k h
theorem heap_alloc_new (w : World) (O : Obj) : (w.alloc O).heap[w.heap.size]? = some O := by
  show (w.heap.push O)[w.heap.size]? = _
  simp

/-- The world after a new block, some other worlds' fields kept. -/
structure Newer (w w' : World) (O : Obj) : Prop where
  size : w'.heap.size = w.heap.size + 1
  old : ∀ k, k < w.heap.size → w'.heap[k]? = w.heap[k]?
  new : w'.heap[w.heap.size]? = some O
  os : w'.os = w.os
  tape : w'.tape = w.tape
  output : w'.output = w.output

theorem Newer.alloc (w : World) (O : Obj) : Newer w (w.alloc O) O :=
  ⟨by simp, fun _ h => heap_alloc_lt w O h, heap_alloc_new w O, rfl, rfl, rfl⟩

theorem MRel.newer {ρ : Ren} {l : List AObj} {w w' : World} (h : MRel ρ l w) (hn : ∀ k, k < w.heap.size → w'.heap[k]? = w.heap[k]?) : MRel ρ l w' :=
  ⟨h.len, fun b o p hb hp => (h.obj b o p hb hp).world fun hl => hn _ ((h.obj b o p hb hp).lt hl), h.inj⟩

theorem Adv.new {ρ : Ren} {μ : Mem} {w w' : World} {O : Obj} (o : AObj) (pl : Pl) (hpl : pl.1 = w.heap.size) (h : MRel ρ μ.blks w) (hn : Newer w w' O)
    (ho : ORel (ρ ++ [pl]) w' pl o) : Adv ρ μ w (ρ ++ [pl]) (μ.push o) w' := by
  have hpre : ∀ (b : Nat) (p : Pl), ρ[b]? = some p → (ρ ++ [pl])[b]? = some p := fun b p hb => get_push_lt hb
  have hold := h.newer hn.old
  have hnew : (ρ ++ [pl])[μ.blks.length]? = some pl := by rw [← h.len]; simp
  refine ⟨⟨by simp [Mem.push, h.len], ?_, ?_⟩, hpre, by rw [hn.size]; omega, fun r hr _ => hn.old r hr, ?_, ?_, hn.os, hn.tape, hn.output, Nat.le_refl _, by simp [Mem.push], ?_⟩
  · intro b x p hb0 hp
    rcases get_push hb0 with hb | ⟨hbl, hxo⟩
    · obtain ⟨q, hq⟩ := h.place hb
      have e := hpre b q hq
      rw [hp] at e
      injection e with e
      subst e
      exact (hold.obj b x _ hb hq).mono hpre
    · subst hbl hxo
      rw [hnew] at hp
      injection hp with hp
      subst hp
      exact ho
  · intro b c x y p q hne hb0 hc0 hox hly hp hq
    rcases get_push hb0 with hb | ⟨hbl, hxo⟩
    · obtain ⟨p', hp'⟩ := h.place hb
      have ep := hpre b p' hp'
      rw [hp] at ep
      injection ep with ep
      subst ep
      rcases get_push hc0 with hc | ⟨hcl, hyo⟩
      · obtain ⟨q', hq'⟩ := h.place hc
        have eq := hpre c q' hq'
        rw [hq] at eq
        injection eq with eq
        subst eq
        exact h.inj b c x y _ _ hne hb hc hox hly hp' hq'
      · subst hcl
        rw [hnew] at hq
        injection hq with hq
        subst hq
        have hl : live x = true := by cases x <;> first | rfl | cases hox
        have := (h.obj b x _ hb hp').lt hl
        rw [hpl]
        omega
    · subst hbl
      rw [hnew] at hp
      injection hp with hp
      subst hp
      rcases get_push hc0 with hc | ⟨hcl, hyo⟩
      · obtain ⟨q', hq'⟩ := h.place hc
        have eq := hpre c q' hq'
        rw [hq] at eq
        injection eq with eq
        subst eq
        have := (h.obj c y _ hc hq').lt hly
        rw [hpl]
        omega
      · exact absurd hcl.symm hne
  · rintro r hr ⟨b, x, p, hb0, hox, hp, hpr⟩
    rcases get_push hb0 with hb | ⟨hbl, hxo⟩
    · obtain ⟨q, hq⟩ := h.place hb
      have e := hpre b q hq
      rw [hp] at e
      injection e with e
      subst e
      exact ⟨b, x, p, hb, hox, hq, hpr⟩
    · subst hbl
      rw [hnew] at hp
      injection hp with hp
      subst hp
      omega
  · rintro r hr ⟨b, x, p, hb0, hox, hp, hpr⟩
    rcases get_push hb0 with hb | ⟨hbl, hxo⟩
    · obtain ⟨q, hq⟩ := h.place hb
      have e := hpre b q hq
      rw [hp] at e
      injection e with e
      subst e
      exact ⟨b, x, p, hb, hox, hq, hpr⟩
    · subst hbl
      rw [hnew] at hp
      injection hp with hp
      subst hp
      omega
  · intro s hs _ hm
    have : (μ.push o).blks.take s = μ.blks.take s := by simp [Mem.push, List.take_append_of_le_length hs]
    rw [this]
    exact hm.newer hn.old

/-! ### A block's contents turn -/
/-- Of the heap only block r may have turned. -/
structure Turn (r : Nat) (w w' : World) : Prop where
  size : w'.heap.size = w.heap.size
  old : ∀ k, k ≠ r → w'.heap[k]? = w.heap[k]?
  os : w'.os = w.os
  tape : w'.tape = w.tape
  output : w'.output = w.output

theorem Turn.refl (r : Nat) (w : World) : Turn r w w := ⟨rfl, fun _ _ => rfl, rfl, rfl, rfl⟩
theorem Turn.trans {r : Nat} {a b c : World} (h : Turn r a b) (k : Turn r b c) : Turn r a c :=
  ⟨k.size.trans h.size, fun i hi => (k.old i hi).trans (h.old i hi), k.os.trans h.os, k.tape.trans h.tape, k.output.trans h.output⟩

theorem get_set_eq {α : Type} {l : List α} {b : Nat} {o x : α} (h : l[b]? = some o) : (l.set b x)[b]? = some x := by
  rcases Nat.lt_or_ge b l.length with h' | h'
  · simp [h']
  · rw [List.getElem?_eq_none h'] at h; cases h

theorem Adv.turn {ρ : Ren} {μ : Mem} {w w' : World} {b : Nat} {o x : AObj} {p : Pl} {low : Nat} (h : MRel ρ μ.blks w) (hb : μ.blks[b]? = some o) (ho : owned o = true) (hp : ρ[b]? = some p)
    (ht : Turn p.1 w w') (hx : ORel ρ w' p x) (hlow : low ≤ μ.low)
    (hc : ∀ s, b < s → s ≤ low → ORel (ρ.take s) w p o → ORel (ρ.take s) w' p x) : Adv ρ μ w ρ { blks := μ.blks.set b x, low := low } w' := by
  have hlive : live o = true := by cases o <;> first | rfl | cases ho
  have other : ∀ (c : Nat) (y : AObj) (q : Pl), c ≠ b → μ.blks[c]? = some y → ρ[c]? = some q → live y = true → w'.heap[q.1]? = w.heap[q.1]? := fun c y q hne hcy hq hly =>
    ht.old _ fun e => h.inj b c o y p q (fun e => hne e.symm) hb hcy ho hly hp hq e.symm
  have gen : ∀ (ρ₀ : Ren) (l : List AObj), (∀ (c : Nat) (y : AObj), l[c]? = some y → μ.blks[c]? = some y) → (∀ (c : Nat) (q : Pl), ρ₀[c]? = some q → ρ[c]? = some q) →
      MRel ρ₀ l w → (l[b]? = some o → ORel ρ₀ w' p x) → MRel ρ₀ (l.set b x) w' := by
    intro ρ₀ l hl hr hm hbx
    refine ⟨by simp [hm.len], ?_, ?_⟩
    · intro c y q hcy hq
      by_cases hcb : b = c
      · subst hcb
        have hbl : b < l.length := by
          rcases Nat.lt_or_ge b l.length with h' | h'
          · exact h'
          · rw [List.getElem?_eq_none (by simpa using h')] at hcy; cases hcy
        obtain ⟨o', ho'⟩ : ∃ o', l[b]? = some o' := ⟨l[b], by simp [hbl]⟩
        have e := hl b o' ho'
        rw [hb] at e; cases e
        rw [get_set_eq ho'] at hcy; cases hcy
        have e := hr b q hq
        rw [hp] at e; cases e
        exact hbx ho'
      · rw [List.getElem?_set_ne hcb] at hcy
        exact (hm.obj c y q hcy hq).world fun hly => other c y q (fun e => hcb e.symm) (hl c y hcy) (hr c q hq) hly
    · have back : ∀ (c : Nat) (y : AObj), (l.set b x)[c]? = some y → ∃ y', l[c]? = some y' ∧ (c = b ∧ y = x ∧ y' = o ∨ c ≠ b ∧ y = y') := by
        intro c y hcy
        by_cases hcb : b = c
        · subst hcb
          have hbl : b < l.length := by
            rcases Nat.lt_or_ge b l.length with h' | h'
            · exact h'
            · rw [List.getElem?_eq_none (by simpa using h')] at hcy; cases hcy
          obtain ⟨o', ho'⟩ : ∃ o', l[b]? = some o' := ⟨l[b], by simp [hbl]⟩
          have e := hl b o' ho'
          rw [hb] at e; cases e
          rw [get_set_eq ho'] at hcy; cases hcy
          exact ⟨o, ho', .inl ⟨rfl, rfl, rfl⟩⟩
        · rw [List.getElem?_set_ne hcb] at hcy
          exact ⟨y, hcy, .inr ⟨fun e => hcb e.symm, rfl⟩⟩
      intro c d y z q q' hne hc hd hoy hlz hq hq'
      obtain ⟨y', hy', hcy⟩ := back c y hc
      obtain ⟨z', hz', hdz⟩ := back d z hd
      refine hm.inj c d y' z' q q' hne hy' hz' ?_ ?_ hq hq'
      · rcases hcy with ⟨_, _, rfl⟩ | ⟨_, rfl⟩
        · exact ho
        · exact hoy
      · rcases hdz with ⟨_, _, rfl⟩ | ⟨_, rfl⟩
        · exact hlive
        · exact hlz
  refine ⟨gen ρ μ.blks (fun _ _ h => h) (fun _ _ h => h) h fun _ => hx, fun _ _ h => h, by rw [ht.size]; exact Nat.le_refl _, ?_, ?_, ?_, ht.os, ht.tape, ht.output, hlow, by simp, ?_⟩
  · intro r _ hn
    refine ht.old r fun e => hn ?_
    exact ⟨b, o, p, hb, ho, hp, e.symm⟩
  · rintro r _ ⟨c, y, q, hcy, hoy, hq, rfl⟩
    by_cases hcb : b = c
    · subst hcb
      rw [hp] at hq; cases hq
      exact ⟨b, o, p, hb, ho, hp, rfl⟩
    · rw [List.getElem?_set_ne hcb] at hcy
      exact ⟨c, y, q, hcy, hoy, hq, rfl⟩
  · rintro r _ ⟨c, y, q, hcy, hoy, hq, rfl⟩
    by_cases hcb : b = c
    · subst hcb
      rw [hp] at hq; cases hq
      exact ⟨b, o, p, hb, hlive, hp, rfl⟩
    · rw [List.getElem?_set_ne hcb] at hcy
      exact ⟨c, y, q, hcy, hoy, hq, rfl⟩
  · intro s hs hl hm
    have e : (μ.blks.set b x).take s = (μ.blks.take s).set b x := by rw [List.take_set]
    show MRel (ρ.take s) ((μ.blks.set b x).take s) w'
    rw [e]
    refine gen (ρ.take s) (μ.blks.take s) ?_ ?_ hm ?_
    · intro c y hcy
      rw [List.getElem?_take] at hcy
      split at hcy
      · exact hcy
      · cases hcy
    · intro c q hq
      rw [List.getElem?_take] at hq
      split at hq
      · exact hq
      · cases hq
    · intro hbs
      have hbs' : b < s := by
        rw [List.getElem?_take] at hbs
        split at hbs
        · assumption
        · cases hbs
      exact hc s hbs' hl (hm.obj b o p hbs (by rw [List.getElem?_take, if_pos hbs']; exact hp))

/-- The block that the model writes is known by a new number; the elder one is dead. -/
theorem Adv.renew {ρ : Ren} {μ : Mem} {w w' : World} {b : Nat} {o x : AObj} {p : Pl} (h : MRel ρ μ.blks w) (hb : μ.blks[b]? = some o) (ho : owned o = true) (hp : ρ[b]? = some p)
    (ht : Turn p.1 w w') (pl : Pl) (hpl : pl.1 = p.1) (hx : ORel (ρ ++ [pl]) w' pl x) : Adv ρ μ w (ρ ++ [pl]) ((μ.set b .dead).push x) w' := by
  have hpre : ∀ (c : Nat) (q : Pl), ρ[c]? = some q → (ρ ++ [pl])[c]? = some q := fun c q hc => get_push_lt hc
  have hk := Adv.turn (low := μ.low) h hb ho hp (Turn.refl p.1 w) (x := .dead) trivial (Nat.le_refl _) (fun _ _ _ _ => trivial)
  have hkr := hk.rel
  have hnew : (ρ ++ [pl])[(μ.blks.set b .dead).length]? = some pl := by rw [List.length_set, ← h.len]; simp
  -- of what lives behind the kill nothing lies there
  have free : ∀ (c : Nat) (y : AObj) (q : Pl), (μ.blks.set b .dead)[c]? = some y → ρ[c]? = some q → live y = true → q.1 ≠ p.1 := by
    intro c y q hc hq hl
    by_cases hcb : b = c
    · subst hcb
      rw [get_set_eq hb] at hc
      cases hc; cases hl
    · rw [List.getElem?_set_ne hcb] at hc
      exact fun e => h.inj b c o y p q hcb hb hc ho hl hp hq e.symm
  have turned : ∀ (ρ₀ : Ren) (l : List AObj), (∀ (c : Nat) (y : AObj), l[c]? = some y → (μ.blks.set b .dead)[c]? = some y) → (∀ (c : Nat) (q : Pl), ρ₀[c]? = some q → ρ[c]? = some q) →
      MRel ρ₀ l w → MRel ρ₀ l w' := fun ρ₀ l hl hr hm =>
    ⟨hm.len, fun c y q hc hq => (hm.obj c y q hc hq).world fun hly => ht.old _ (free c y q (hl c y hc) (hr c q hq) hly), hm.inj⟩
  have hkt := turned ρ _ (fun _ _ h => h) (fun _ _ h => h) hkr
  have low0 : ((μ.set b .dead).push x).low = μ.low := rfl
  refine ⟨⟨by simp [Mem.push, Mem.set, h.len], ?_, ?_⟩, hpre, by rw [ht.size]; exact Nat.le_refl _, ?_, ?_, ?_, ht.os, ht.tape, ht.output, Nat.le_refl _, by simp [Mem.push, Mem.set], ?_⟩
  · intro c y q hc0 hq
    rcases get_push hc0 with hc | ⟨hcl, hy⟩
    · obtain ⟨q', hq'⟩ := hkt.place hc
      have e := hpre c q' hq'
      rw [hq] at e
      injection e with e
      subst e
      exact (hkt.obj c y _ hc hq').mono hpre
    · subst hcl hy
      rw [show (μ.set b .dead).blks.length = (μ.blks.set b .dead).length from rfl, hnew] at hq
      injection hq with hq
      subst hq
      exact hx
  · intro c d y z q r hne hc0 hd0 hoy hlz hq hr
    rcases get_push hc0 with hc | ⟨hcl, hy⟩
    · obtain ⟨q', hq'⟩ := hkt.place hc
      have eq := hpre c q' hq'
      rw [hq] at eq
      injection eq with eq
      subst eq
      rcases get_push hd0 with hd | ⟨hdl, hz⟩
      · obtain ⟨r', hr'⟩ := hkt.place hd
        have er := hpre d r' hr'
        rw [hr] at er
        injection er with er
        subst er
        exact hkt.inj c d y z _ _ hne hc hd hoy hlz hq' hr'
      · subst hdl
        rw [show (μ.set b .dead).blks.length = (μ.blks.set b .dead).length from rfl, hnew] at hr
        injection hr with hr
        subst hr
        have hl : live y = true := by cases y <;> first | rfl | cases hoy
        rw [hpl]; exact free c y q hc hq' hl
    · subst hcl
      rw [show (μ.set b .dead).blks.length = (μ.blks.set b .dead).length from rfl, hnew] at hq
      injection hq with hq
      subst hq
      rcases get_push hd0 with hd | ⟨hdl, hz⟩
      · obtain ⟨r', hr'⟩ := hkt.place hd
        have er := hpre d r' hr'
        rw [hr] at er
        injection er with er
        subst er
        rw [hpl]; exact fun e => free d z r hd hr' hlz e.symm
      · exact absurd hdl.symm hne
  · intro r _ hn
    exact ht.old r fun e => hn ⟨b, o, p, hb, ho, hp, e.symm⟩
  · rintro r _ ⟨c, y, q, hc0, hoy, hq, hqr⟩
    rcases get_push hc0 with hc | ⟨hcl, hy⟩
    · obtain ⟨q', hq'⟩ := hkt.place hc
      have eq := hpre c q' hq'
      rw [hq] at eq
      injection eq with eq
      subst eq
      by_cases hcb : b = c
      · subst hcb
        rw [show (μ.set b .dead).blks = μ.blks.set b .dead from rfl, get_set_eq hb] at hc
        cases hc; cases hoy
      · rw [show (μ.set b .dead).blks = μ.blks.set b .dead from rfl, List.getElem?_set_ne hcb] at hc
        exact ⟨c, y, q, hc, hoy, hq', hqr⟩
    · subst hcl
      rw [show (μ.set b .dead).blks.length = (μ.blks.set b .dead).length from rfl, hnew] at hq
      injection hq with hq
      subst hq
      exact ⟨b, o, p, hb, ho, hp, hpl ▸ hqr⟩
  · rintro r _ ⟨c, y, q, hc0, hoy, hq, hqr⟩
    rcases get_push hc0 with hc | ⟨hcl, hy⟩
    · obtain ⟨q', hq'⟩ := hkt.place hc
      have eq := hpre c q' hq'
      rw [hq] at eq
      injection eq with eq
      subst eq
      by_cases hcb : b = c
      · subst hcb
        rw [show (μ.set b .dead).blks = μ.blks.set b .dead from rfl, get_set_eq hb] at hc
        cases hc; cases hoy
      · rw [show (μ.set b .dead).blks = μ.blks.set b .dead from rfl, List.getElem?_set_ne hcb] at hc
        exact ⟨c, y, q, hc, hoy, hq', hqr⟩
    · subst hcl
      rw [show (μ.set b .dead).blks.length = (μ.blks.set b .dead).length from rfl, hnew] at hq
      injection hq with hq
      subst hq
      exact ⟨b, o, p, hb, owned_live' ho, hp, hpl ▸ hqr⟩
  · intro s hs hl hm
    have e : ((μ.set b .dead).push x).blks.take s = (μ.blks.set b .dead).take s := by
      simp [Mem.push, Mem.set, List.take_append_of_le_length (show s ≤ (μ.blks.set b .dead).length by simpa using hs)]
    rw [e]
    have h1 := hk.cut s hs hl hm
    refine turned (ρ.take s) _ ?_ ?_ h1
    · intro c y hc
      rw [List.getElem?_take] at hc
      split at hc
      · exact hc
      · cases hc
    · intro c q hq
      rw [List.getElem?_take] at hq
      split at hq
      · exact hq
      · cases hq

end Go.Vm
