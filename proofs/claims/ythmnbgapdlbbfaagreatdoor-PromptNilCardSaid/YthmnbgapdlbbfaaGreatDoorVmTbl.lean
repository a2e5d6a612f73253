/- Tables of calls that were run, whose arguments may be slices that are only read. -/
import Derived.Test.YthmnbgapdlbbfaaGreatDoorVmFrame
set_option linter.unusedSimpArgs false
set_option linter.unusedVariables false
namespace Go.Vm
open Go.RowKit

variable {P : Program}

/-- An argument of an entry: a plain value, or a slice with these cells (length, capacity as it is written, an element's cells). -/
inductive TArg where
  | val (v : Value)
  | sl (n c e : Nat) (cs : List Value)

def runArgs : Nat → List TArg → List Value
  | _, [] => []
  | k, .val v :: r => v :: runArgs k r
  | k, .sl n c _ _ :: r => slc k 0 n c :: runArgs (k + 1) r
def runBlks : List TArg → List AObj
  | [] => []
  | .val _ :: r => runBlks r
  | .sl _ _ e cs :: r => .cells cs false e :: runBlks r
def argPlain : TArg → Bool
  | .val v => plain v
  | .sl _ _ _ cs => cs.all fun v => plain v && atomic v
def argOk (μ : Mem) (t : TArg) (u : Value) : Bool :=
  match t with
  | .val v => sameV 4 v u
  | .sl n c e cs =>
    match u with
    | .slice (some ⟨b, o, none⟩) n' c' =>
      Nat.beq n n' && Nat.beq c c' && !Nat.beq c big && (match μ.get b with
        | some (.cells l _ e') => Nat.beq e e' && Nat.ble o l.length && sameV.sameL 4 cs ((l.drop o).take cs.length)
        | _ => false)
    | _ => false
def argsOk (μ : Mem) : List TArg → List Value → Bool
  | [], [] => true
  | t :: ts, v :: vs => argOk μ t v && argsOk μ ts vs
  | _, _ => false

/-- A value's own blocks (those from k on) moved up to s. -/
def upAt (k s : Nat) (a : Addr) : Option Addr :=
  if a.block < k then none else if a.spot.isNone then some { a with block := s + (a.block - k) } else none
def upN : Nat → Nat → Nat → Value → Option Value
  | 0, _, _, _ => none
  | _ + 1, k, s, .pointer (some a) => (upAt k s a).map fun a => .pointer (some a)
  | _ + 1, k, s, .slice (some a) n c => (upAt k s a).map fun a => .slice (some a) n c
  | n + 1, k, s, .tuple vs => (vs.toList.mapM (upN n k s)).map fun x => .tuple x.toArray
  | _ + 1, _, _, v => if plain v then some v else none

structure Entry where
  f : FuncId
  args : List TArg
  v : Value
  os : List AObj

def Entry.put (x : Entry) (μ : Mem) : Option (Value × Mem) :=
  match upN 3 (runBlks x.args).length μ.size x.v with
  | some v => some (v, { μ with blks := μ.blks ++ x.os })
  | none => none
def tfind : List Entry → FuncId → List Value → Mem → Option (Value × Mem)
  | [], _, _, _ => none
  | x :: r, f, args, μ => bif Nat.beq x.f f && argsOk μ x.args args then x.put μ else tfind r f args μ
def tblOrc (t : List Entry) : Oracle := tfind t

def EntryOK2 (P : Program) (x : Entry) : Prop :=
  (∃ fn c, P.funcs[x.f]? = some fn ∧ fn.body = some c) ∧
  ∀ n ρ μ w (args : List Value) (args' : Array Value) v μ', argsOk μ x.args args = true → x.put μ = some (v, μ') → MRel ρ μ.blks w → LRel ρ args args'.toList → CallsIn Fence.wide n P x.f args' w (EndsV ρ μ w μ' v)

theorem tbl_ok {t : List Entry} (h : ∀ x ∈ t, EntryOK2 P x) : OrcOK P (tblOrc t) := by
  intro f args μ v μ' ho
  unfold tblOrc at ho
  induction t with
  | nil => cases ho
  | cons x r ih =>
    unfold tfind at ho
    cases hc : Nat.beq x.f f && argsOk μ x.args args with
    | false =>
      rw [hc, cond_false] at ho
      exact ih (fun e he => h e (List.mem_cons_of_mem _ he)) ho
    | true =>
      rw [hc, cond_true] at ho
      simp only [Bool.and_eq_true] at hc
      obtain ⟨hf, ha⟩ := hc
      have e1 : x.f = f := Nat.eq_of_beq_eq_true hf
      subst e1
      obtain ⟨k1, k2⟩ := h x (by simp)
      exact ⟨k1, fun n ρ w args' hm hl => k2 n ρ μ w args args' v μ' ha ho hm hl⟩

/-- The run of an entry. -/
def entryOf (f : FuncId) (args : List TArg) (r : Option Out) : Option Entry :=
  match r with
  | some (_, B, μ) =>
    bif (μ.blks.drop (runBlks args).length).all plainObj && args.all argPlain then some ⟨f, args, getR B 0, μ.blks.drop (runBlks args).length⟩ else none
  | none => none

theorem runBlks_ro : ∀ (ts : List TArg) (o : AObj), o ∈ runBlks ts → owned o = false := by
  intro ts
  induction ts with
  | nil => intro o h; cases h
  | cons t ts ih =>
    intro o h
    cases t with
    | val v => exact ih o h
    | sl n c e cs =>
      rcases List.mem_cons.1 h with rfl | h
      · rfl
      · exact ih o h

theorem place_arg {ρ : Ren} {μ : Mem} {w : World} (hm : MRel ρ μ.blks w) {n c e : Nat} {cs : List Value} {u u' : Value} (ha : argOk μ (.sl n c e cs) u = true) (hp : argPlain (.sl n c e cs) = true) (hu : VRel ρ u u') :
    ∃ p0 : Pl, (∀ ρ', ORel ρ' w p0 (.cells cs false e)) ∧ ∀ (ρ' : Ren) (k : Nat), ρ'[k]? = some p0 → VRel ρ' (slc k 0 n c) u' := by
  unfold argOk at ha
  simp only at ha
  split at ha
  case h_2 => cases ha
  case h_1 b o n' c' =>
    simp only [Bool.and_eq_true] at ha
    obtain ⟨⟨⟨h1, h2⟩, h3⟩, h4⟩ := ha
    have e1 : n = n' := Nat.eq_of_beq_eq_true h1
    have e2 : c = c' := Nat.eq_of_beq_eq_true h2
    subst e1 e2
    have hcb : c ≠ big := by
      intro k
      rw [k] at h3
      revert h3
      rw [show Nat.beq big big = true by simp]
      intro h3
      cases h3
    split at h4
    case h_2 => cases h4
    case h_1 l wr e' hb =>
      simp only [Bool.and_eq_true] at h4
      obtain ⟨⟨h5, h6⟩, h7⟩ := h4
      have e3 : e = e' := Nat.eq_of_beq_eq_true h5
      subst e3
      have hol : o ≤ l.length := by simpa using h6
      have hcs : cs = (l.drop o).take cs.length := (sameL_eq (sameV_eq 4) _ _ h7).symm
      obtain ⟨p, hρ⟩ := hm.place hb
      obtain ⟨hz, C, t, fr, hh, hlen, hsz, _, hcont⟩ := hm.obj b _ p hb hρ
      have hcl : cs.length ≤ l.length - o := by
        have := congrArg List.length hcs
        simp only [List.length_take, List.length_drop] at this
        omega
      refine ⟨⟨p.blk, p.sh + o, p.lim - o, e⟩, fun ρ' => ⟨rfl, C, t, fr, hh, by show cs.length ≤ p.lim - o; omega, by show p.sh + o + (p.lim - o) ≤ C.size; omega, fun h => (by cases h), ?_⟩, ?_⟩
      · intro i v hv
        have hv' : l[o + i]? = some v := by
          rw [hcs] at hv
          rw [List.getElem?_take] at hv
          split at hv
          · rwa [List.getElem?_drop] at hv
          · cases hv
        obtain ⟨v', k1, k2, k3⟩ := hcont (o + i) v hv'
        have hpl : plain v = true := by
          have := List.all_eq_true.1 hp v (List.mem_of_getElem? hv)
          simp only [Bool.and_eq_true] at this
          exact this.1
        exact ⟨v', by show C[p.sh + o + i]? = some v'; rw [Nat.add_assoc]; exact k1, k2.plain_any hpl, k3⟩
      · intro ρ' k hk
        cases hu with
        | lit h => simp [litV] at h
        | exact hp' hc hn =>
          rw [hρ] at hp'
          injection hp' with hp'
          subst hp'
          exact .exact hk hc hn
        | @loose _ _ _ k0 a c' _ hp' hn hc ha' hs hl =>
          rw [hρ] at hp'
          injection hp' with hp'
          subst hp'
          have hk0 : 0 < k0 := by
            rcases Nat.eq_zero_or_pos k0 with h | h
            · exfalso
              apply hcb
              rw [h]
              exact Nat.add_zero _
            · exact h
          have ha2 := ha' hk0
          refine VRel.loose (p := ⟨p.blk, p.sh + o, p.lim - o, e⟩) hk hn hc (fun _ => by show a = p.sh + o + 0; exact ha2) (by show p.sh + o ≤ a; rw [ha2]; exact Nat.le_refl _) ?_
          show a + c' * e ≤ p.sh + o + (p.lim - o)
          have hl' : a + c' * p.esz ≤ p.sh + p.lim := hl
          rw [hz] at hl'
          omega

theorem place_args {ρ : Ren} {μ : Mem} {w : World} (hm : MRel ρ μ.blks w) : ∀ (ts : List TArg) (vs vs' : List Value), argsOk μ ts vs = true → ts.all argPlain = true → LRel ρ vs vs' →
    ∃ ρ0 : Ren, ρ0.length = (runBlks ts).length ∧ (∀ (b : Nat) (o : AObj) (p : Pl), (runBlks ts)[b]? = some o → ρ0[b]? = some p → ∀ ρ', ORel ρ' w p o) ∧ ∀ pre : Ren, LRel (pre ++ ρ0) (runArgs pre.length ts) vs' := by
  intro ts
  induction ts with
  | nil =>
    intro vs vs' ha _ hl
    cases vs with
    | cons => cases ha
    | nil =>
      rw [LRel.of_nil hl]
      exact ⟨[], rfl, fun b o p hb => (by simp [runBlks] at hb), fun pre => LRel.nil _⟩
  | cons t ts ih =>
    intro vs vs' ha hp hl
    cases vs with
    | nil => cases ha
    | cons v vs =>
      simp only [argsOk, Bool.and_eq_true] at ha
      simp only [List.all_cons, Bool.and_eq_true] at hp
      obtain ⟨u', y', rfl, hv, hl'⟩ := hl.of_cons
      obtain ⟨ρ0, h1, h2, h3⟩ := ih vs y' ha.2 hp.2 hl'
      cases t with
      | val x =>
        have e : v = x := sameV_eq 4 _ _ ha.1
        subst e
        exact ⟨ρ0, h1, h2, fun pre => .cons (hv.plain_any hp.1) (h3 pre)⟩
      | sl n c e cs =>
        obtain ⟨p0, k1, k2⟩ := place_arg hm ha.1 hp.1 hv
        refine ⟨p0 :: ρ0, by simp [runBlks, h1], ?_, fun pre => ?_⟩
        · intro b o p hb hpb
          cases b with
          | zero =>
            simp only [runBlks, List.getElem?_cons_zero, Option.some.injEq] at hb hpb
            subst hb hpb
            exact k1
          | succ b =>
            simp only [runBlks, List.getElem?_cons_succ] at hb hpb
            exact h2 b o p hb hpb
        · have := h3 (pre ++ [p0])
          rw [List.append_assoc, List.length_append] at this
          exact .cons (k2 _ _ (by simp)) this

theorem upAt_ok {k s : Nat} {ρ1 ρ2 : Ren} (h : ∀ b p, k ≤ b → ρ1[b]? = some p → ρ2[s + (b - k)]? = some p) {b o : Nat} {a' : Addr} (hr : upAt k s ⟨b, o, none⟩ = some a') {p : Pl} (hp : ρ1[b]? = some p) :
    ∃ c, a' = ⟨c, o, none⟩ ∧ ρ2[c]? = some p := by
  unfold upAt at hr
  simp only at hr
  split at hr
  · cases hr
  · rename_i hb
    simp at hr
    subst hr
    exact ⟨_, rfl, h b p (by omega) hp⟩

theorem upN_rel {k s : Nat} {ρ1 ρ2 : Ren} (h : ∀ b p, k ≤ b → ρ1[b]? = some p → ρ2[s + (b - k)]? = some p) : ∀ (n : Nat) (v v2 v' : Value), upN n k s v = some v2 → VRel ρ1 v v' → VRel ρ2 v2 v' := by
  intro n
  induction n with
  | zero => intro v v2 v' hr; cases hr
  | succ n ih =>
    intro v v2 v' hr hv
    have pl : (if plain v then some v else none) = some v2 → VRel ρ2 v2 v' := by
      intro hr
      split at hr
      · rename_i hp
        injection hr with hr
        subst hr
        exact hv.plain_any hp
      · cases hr
    cases v with
    | pointer a =>
      cases a with
      | none => exact pl hr
      | some a =>
        change (upAt k s a).map _ = some v2 at hr
        cases hv with
        | lit hl => simp [litV] at hl
        | ptr hp =>
          obtain ⟨a', hx, rfl⟩ := Option.map_eq_some_iff.1 hr
          obtain ⟨c, rfl, hc⟩ := upAt_ok h hx hp
          exact .ptr hc
    | slice a m cp =>
      cases a with
      | none => exact pl hr
      | some a =>
        change (upAt k s a).map _ = some v2 at hr
        cases hv with
        | lit hl => simp [litV] at hl
        | exact hp h1 h2 =>
          obtain ⟨a', hx, rfl⟩ := Option.map_eq_some_iff.1 hr
          obtain ⟨c, rfl, hc⟩ := upAt_ok h hx hp
          exact .exact hc h1 h2
        | loose hp h1 h2 h3 h4 h5 =>
          obtain ⟨a', hx, rfl⟩ := Option.map_eq_some_iff.1 hr
          obtain ⟨c, rfl, hc⟩ := upAt_ok h hx hp
          exact .loose hc h1 h2 h3 h4 h5
    | tuple vs =>
      change (vs.toList.mapM (upN n k s)).map _ = some v2 at hr
      cases hx : vs.toList.mapM (upN n k s) with
      | none => simp [hx] at hr
      | some y =>
        simp [hx] at hr
        subst hr
        cases hv with
        | lit hl => simp [litV] at hl
        | tuple hs ex =>
          obtain ⟨h1, h2⟩ := mapM_some _ y hx
          have hr := LRel.of_arrays hs ex
          have hL : LRel ρ2 y _ := ⟨h1.trans hr.1, fun i u u' hu hu' => by
            have hi : i < vs.toList.length := by
              rcases Nat.lt_or_ge i y.length with h | h
              · omega
              · rw [List.getElem?_eq_none h] at hu; cases hu
            obtain ⟨z, e1, e2⟩ := h2 i vs.toList[i] (by rw [List.getElem?_eq_getElem hi])
            rw [hu] at e2
            injection e2 with e2
            subst e2
            exact ih _ _ _ e1 (hr.2 i _ _ (by rw [List.getElem?_eq_getElem hi]) hu')⟩
          have := VRel.tuple_l hL
          simpa using this
    | _ => exact pl hr

theorem plainObj_owned {o : AObj} (h : plainObj o = true) : owned o = true := by
  cases o with
  | cells c wr e => cases wr with | true => rfl | false => cases h
  | _ => cases h

/-- New blocks, of a run on few blocks, beside those that are known. -/
theorem frame_many {ρ ρ0 ρ1 : Ren} {μ μ0 μ1 : Mem} {w w' : World} (hm : MRel ρ μ.blks w) (hro : ∀ o ∈ μ0.blks, owned o = false) (ha : Adv ρ0 μ0 w ρ1 μ1 w') (k : Nat) (hp : (μ1.blks.drop k).all plainObj = true) :
    ∀ (m : Nat), m ≤ (μ1.blks.drop k).length → ∃ ρ2, Adv ρ μ w (ρ ++ ρ2) { μ with blks := μ.blks ++ (μ1.blks.drop k).take m } w' ∧ ρ2.length = m ∧ ∀ j p, j < m → ρ1[k + j]? = some p → ρ2[j]? = some p := by
  have noOwn : ∀ r, ¬ Own ρ0 μ0.blks r := by
    rintro r ⟨b, o, p, hb, ho, _, _⟩
    have := hro o (List.mem_of_getElem? hb)
    rw [this] at ho
    cases ho
  have old : ∀ r, r < w.heap.size → w'.heap[r]? = w.heap[r]? := fun r hr => ha.keep r hr (noOwn r)
  have same : Adv ρ μ w ρ μ w' := ⟨hm.newer old, fun _ _ h => h, ha.size, fun k hk _ => old k hk, fun _ _ h => h, fun _ _ h => h, ha.os, ha.tape, ha.output, Nat.le_refl _, Nat.le_refl _, fun s _ _ h => h.newer old⟩
  intro m
  induction m with
  | zero =>
    intro _
    refine ⟨[], ?_, rfl, fun j p hj => by omega⟩
    simpa using same
  | succ m ih =>
    intro hlen
    obtain ⟨ρ2, h1, h2, h3⟩ := ih (by omega)
    have hlt : m < (μ1.blks.drop k).length := by omega
    let o := (μ1.blks.drop k)[m]
    have ho : (μ1.blks.drop k)[m]? = some o := List.getElem?_eq_getElem hlt
    have ho1 : μ1.blks[k + m]? = some o := by rw [List.getElem?_drop] at ho; exact ho
    have hpo : plainObj o = true := List.all_eq_true.1 hp o (List.mem_of_getElem? ho)
    obtain ⟨p, hρ⟩ := ha.rel.place ho1
    have hge : w.heap.size ≤ p.1 := by
      refine Nat.le_of_not_lt fun hlt => ?_
      exact noOwn _ (ha.own p.1 hlt ⟨k + m, o, p, ho1, plainObj_owned hpo, hρ, rfl⟩)
    have hn : ¬ Lies (ρ ++ ρ2) (μ.blks ++ (μ1.blks.drop k).take m) p.1 := by
      rintro ⟨b, x, q, hb, hx, hq, he⟩
      by_cases hbs : b < μ.blks.length
      · rw [List.getElem?_append_left hbs] at hb
        rw [List.getElem?_append_left (by rw [hm.len]; exact hbs)] at hq
        have := (hm.obj b x q hb hq).lt hx
        omega
      · rw [List.getElem?_append_right (by omega)] at hb
        rw [List.getElem?_append_right (by rw [hm.len]; omega)] at hq
        rw [hm.len] at hq
        have hbm : b - μ.blks.length < m ∧ (μ1.blks.drop k)[b - μ.blks.length]? = some x := take_get hb
        have hx1 : μ1.blks[k + (b - μ.blks.length)]? = some x := by
          have := hbm.2
          rw [List.getElem?_drop] at this
          exact this
        obtain ⟨q1, hq1⟩ := ha.rel.place hx1
        have := h3 _ q1 hbm.1 hq1
        rw [hq] at this
        injection this with this
        subst this
        exact ha.rel.inj (k + m) (k + (b - μ.blks.length)) o x p q (by omega) ho1 hx1 (plainObj_owned hpo) hx hρ hq1 he.symm
    have hk := h1.known (r := p.1) hge hn p rfl (o := o) (plainObj_rel (ρ' := ρ1) hpo (ha.rel.obj _ _ _ ho1 hρ))
    refine ⟨ρ2 ++ [p], ?_, by simp [h2], ?_⟩
    · have e : (μ1.blks.drop k).take (m + 1) = (μ1.blks.drop k).take m ++ [o] := by
        rw [List.take_add_one, ho]
        rfl
      rw [e]
      rw [List.append_assoc] at hk
      have e2 : (({ μ with blks := μ.blks ++ (μ1.blks.drop k).take m } : Mem).push o) = { μ with blks := μ.blks ++ ((μ1.blks.drop k).take m ++ [o]) } := by
        simp [Mem.push]
      rw [e2] at hk
      exact hk
    · intro j q hj hq
      by_cases hjm : j = m
      · subst hjm
        rw [hρ] at hq
        injection hq with hq
        subst hq
        rw [List.getElem?_append_right (by omega), h2]
        simp
      · rw [List.getElem?_append_left (by omega)]
        exact h3 j q (by omega) hq

theorem entry_ok {orc : Oracle} {k : Nat} (hF : SFn P (ev P orc k)) {f : FuncId} {args : List TArg} {x : Entry}
    (h : entryOf f args (ev P orc k none (.fn f (runArgs 0 args)) ⟨runBlks args, big⟩) = some x) : EntryOK2 P x := by
  unfold entryOf at h
  split at h
  case h_2 => cases h
  case h_1 e B μ1 hrun =>
    cases hc : (μ1.blks.drop (runBlks args).length).all plainObj && args.all argPlain with
    | false => rw [hc] at h; cases h
    | true =>
      rw [hc, cond_true] at h
      injection h with h
      subst h
      simp only [Bool.and_eq_true] at hc
      obtain ⟨hbody, hcall⟩ := hF _ _ _ _ _ _ _ hrun
      refine ⟨hbody, fun n ρ μ w vs args' v μ' hok hput hm hl => ?_⟩
      obtain ⟨ρ0, h1, h2, h3⟩ := place_args hm args vs args'.toList hok hc.2 hl
      have h3' := h3 []
      simp only [List.nil_append, List.length_nil] at h3'
      have hm0 : MRel ρ0 (runBlks args) w := ⟨h1, fun b o p hb hp => h2 b o p hb hp ρ0, fun b c o y p q hne hb hcc ho => by
        rw [runBlks_ro args o (List.mem_of_getElem? hb)] at ho
        cases ho⟩
      refine (hcall n ρ0 w args' hm0 h3').mono fun en w' he => ?_
      cases en with
      | panicked ch => exact he.elim
      | outgrown => exact he.elim
      | returned v' =>
        obtain ⟨ρ1, hv, hadv⟩ := he
        obtain ⟨ρ2, k1, k2, k3⟩ := frame_many (ρ := ρ) (μ := μ) hm (fun o ho => runBlks_ro args o ho) hadv (runBlks args).length hc.1 _ (Nat.le_refl _)
        rw [List.take_length] at k1
        unfold Entry.put at hput
        split at hput
        · rename_i v2 hup
          injection hput with hput
          injection hput with e1 e2
          subst e1 e2
          refine ⟨ρ ++ ρ2, upN_rel (fun b p hb hp => ?_) 3 _ _ _ hup hv, k1⟩
          change (runBlks args).length ≤ b at hb
          show (ρ ++ ρ2)[μ.size + (b - (runBlks args).length)]? = some p
          rw [Mem.size, ← hm.len, List.getElem?_append_right (by omega), Nat.add_sub_cancel_left]
          refine k3 _ p ?_ (by rw [show (runBlks args).length + (b - (runBlks args).length) = b by omega]; exact hp)
          have : b < ρ1.length := by
            rcases Nat.lt_or_ge b ρ1.length with h | h
            · exact h
            · rw [List.getElem?_eq_none h] at hp; cases hp
          rw [hadv.rel.len] at this
          rw [List.length_drop]
          omega
        · cases hput

end Go.Vm
