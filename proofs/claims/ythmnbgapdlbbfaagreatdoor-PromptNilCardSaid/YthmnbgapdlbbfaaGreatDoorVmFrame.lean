/- A call that was run on an empty memory, on any memory. -/
import Derived.Test.YthmnbgapdlbbfaaGreatDoorVmDraw4
set_option linter.unusedSimpArgs false
set_option linter.unusedVariables false
namespace Go.Vm
open Go.RowKit

variable {P : Program}

theorem frame_same {ρ ρ' : Ren} {μ μ1 : Mem} {w w' : World} (hm : MRel ρ μ.blks w) (ha : Adv [] ⟨[], big⟩ w ρ' μ1 w') : Adv ρ μ w ρ μ w' := by
  have old : ∀ k, k < w.heap.size → w'.heap[k]? = w.heap[k]? := fun k hk => ha.keep k hk (by
    rintro ⟨b, o, p, hb, _⟩
    cases hb)
  exact ⟨hm.newer old, fun _ _ h => h, ha.size, fun k hk _ => old k hk, fun _ _ h => h, fun _ _ h => h, ha.os, ha.tape, ha.output, Nat.le_refl _, Nat.le_refl _, fun s _ _ h => h.newer old⟩

theorem frame_plain {ρ ρ' : Ren} {μ μ1 : Mem} {w w' : World} {v v' : Value} (hm : MRel ρ μ.blks w) (ha : Adv [] ⟨[], big⟩ w ρ' μ1 w') (hv : VRel ρ' v v') (hp : plain v = true) :
    ∃ ρ2, VRel ρ2 v v' ∧ Adv ρ μ w ρ2 μ w' := ⟨ρ, hv.plain_any hp, frame_same hm ha⟩

theorem frame_slice {ρ ρ' : Ren} {μ μ1 : Mem} {w w' : World} {n c e : Nat} {cs : List Value} {v' : Value} (hm : MRel ρ μ.blks w) (ha : Adv [] ⟨[], big⟩ w ρ' μ1 w') (hv : VRel ρ' (slc 0 0 n c) v')
    (hb : μ1.blks = [.cells cs true e]) (hp : cs.all plain = true) : ∃ ρ2, VRel ρ2 (slc μ.size 0 n c) v' ∧ Adv ρ μ w ρ2 (μ.push (.cells cs true e)) w' := by
  have h0 : μ1.blks[0]? = some (.cells cs true e) := by rw [hb]; rfl
  obtain ⟨p, hρ⟩ := ha.rel.place h0
  have hge : w.heap.size ≤ p.1 := by
    refine Nat.le_of_not_lt fun hlt => ?_
    obtain ⟨b, o, q, hb', _⟩ := ha.lives p.1 hlt ⟨0, _, p, h0, rfl, hρ, rfl⟩
    cases hb'
  have hnew : (ρ ++ [p])[μ.size]? = some p := by rw [Mem.size, ← hm.len]; simp
  refine ⟨ρ ++ [p], ?_, (frame_same hm ha).known hge ?_ p rfl (plainObj_rel (ρ' := ρ') hp (ha.rel.obj 0 _ p h0 hρ))⟩
  · unfold slc at hv ⊢
    cases hv with
    | lit h => simp [litV] at h
    | exact h h1 h2 =>
      rw [hρ] at h
      injection h with h
      subst h
      exact .exact hnew h1 h2
    | loose h h1 h2 h3 h4 h5 =>
      rw [hρ] at h
      injection h with h
      subst h
      exact .loose hnew h1 h2 h3 h4 h5
  · rintro ⟨b, o, q, h1, h2, h3, h4⟩
    have := (hm.obj b o q h1 h3).lt h2
    omega

/-- What a call that was run on an empty memory hands back. -/
inductive Back where
  | plain (v : Value)
  | row (n c e : Nat) (cs : List Value)

def Back.put (μ : Mem) : Back → Value × Mem
  | .plain v => (v, μ)
  | .row n c e cs => (slc μ.size 0 n c, μ.push (.cells cs true e))

/-- Is this how the run ended? -/
def backOf (r : Option Out) : Option Back :=
  match r with
  | some (_, B, μ) =>
    bif plain (getR B 0) then some (.plain (getR B 0)) else
    match getR B 0 with
    | .slice (some ⟨0, 0, none⟩) n c =>
      match μ.blks with
      | [.cells cs true e] => bif cs.all plain then some (.row n c e cs) else none
      | _ => none
    | _ => none
  | none => none

theorem back_ok {orc : Oracle} {k : Nat} (hF : SFn P (ev P orc k)) {f : FuncId} {args : List Value} {x : Back} (h : backOf (ev P orc k none (.fn f args) ⟨[], big⟩) = some x) (hp : args.all plain = true) :
    (∃ fn c, P.funcs[f]? = some fn ∧ fn.body = some c) ∧
    ∀ n ρ μ w (args' : Array Value), MRel ρ μ.blks w → LRel ρ args args'.toList → CallsIn Fence.wide n P f args' w (EndsV ρ μ w (x.put μ).2 (x.put μ).1) := by
  unfold backOf at h
  split at h
  case h_2 => cases h
  case h_1 e B μ1 hrun =>
    obtain ⟨hbody, hcall⟩ := hF _ _ _ _ _ _ _ hrun
    refine ⟨hbody, fun n ρ μ w args' hm ha => ?_⟩
    have hargs : LRel [] args args'.toList :=
      ⟨ha.1, fun i u u' hu hu' => (ha.2 i u u' hu hu').plain_any (List.all_eq_true.1 hp u (List.mem_of_getElem? hu))⟩
    refine (hcall n [] w args' ⟨rfl, fun b o p hb => (by cases hb), fun b c o x p q _ hb => (by cases hb)⟩ hargs).mono fun en w' he => ?_
    cases en with
    | panicked ch => exact he.elim
    | outgrown => exact he.elim
    | returned v' =>
      obtain ⟨ρ', hv, hadv⟩ := he
      cases hpl : plain (getR B 0) with
      | true =>
        rw [hpl, cond_true] at h
        injection h with h
        subst h
        exact frame_plain hm hadv hv hpl
      | false =>
        rw [hpl, cond_false] at h
        split at h
        · rename_i n0 c0 hB
          split at h
          · rename_i cs e0 hbl
            cases hcs : cs.all plain with
            | false => rw [hcs] at h; cases h
            | true =>
              rw [hcs, cond_true] at h
              injection h with h
              subst h
              rw [hB] at hv
              exact frame_slice hm hadv hv hbl hcs
          · cases h
        · cases h

/-- A table of calls that were run. -/
abbrev Table := List (FuncId × List Value × Back)
def sameArgs : List Value → List Value → Bool
  | [], [] => true
  | x :: xs, y :: ys => sameV 4 x y && sameArgs xs ys
  | _, _ => false
def Table.find (t : Table) (f : FuncId) (args : List Value) : Option Back :=
  match t with
  | [] => none
  | (g, as, x) :: r => bif Nat.beq g f && sameArgs as args then some x else Table.find r f args
def tableOrc (t : Table) : Oracle := fun f args μ => (t.find f args).map (·.put μ)

def EntryOK (P : Program) (f : FuncId) (args : List Value) (x : Back) : Prop :=
  (∃ fn c, P.funcs[f]? = some fn ∧ fn.body = some c) ∧
  ∀ n ρ μ w (args' : Array Value), MRel ρ μ.blks w → LRel ρ args args'.toList → CallsIn Fence.wide n P f args' w (EndsV ρ μ w (x.put μ).2 (x.put μ).1)

theorem sameArgs_eq : ∀ x y : List Value, sameArgs x y = true → y = x := by
  intro x
  induction x with
  | nil => intro y h; cases y with | nil => rfl | cons b y => cases h
  | cons a x ih =>
    intro y h
    cases y with
    | nil => cases h
    | cons b y =>
      simp only [sameArgs, Bool.and_eq_true] at h
      rw [sameV_eq 4 _ _ h.1, ih _ h.2]

theorem table_ok {t : Table} (h : ∀ e ∈ t, EntryOK P e.1 e.2.1 e.2.2) : OrcOK P (tableOrc t) := by
  intro f args μ v μ' ho
  unfold tableOrc at ho
  obtain ⟨x, hx, hput⟩ := Option.map_eq_some_iff.1 ho
  have key : ∀ t : Table, (∀ e ∈ t, EntryOK P e.1 e.2.1 e.2.2) → t.find f args = some x → EntryOK P f args x := by
    intro t
    induction t with
    | nil => intro _ h; cases h
    | cons e r ih =>
      obtain ⟨g, as, y⟩ := e
      intro hall hf
      unfold Table.find at hf
      cases hc : Nat.beq g f && sameArgs as args with
      | false =>
        rw [hc, cond_false] at hf
        exact ih (fun e he => hall e (List.mem_cons_of_mem _ he)) hf
      | true =>
        rw [hc, cond_true] at hf
        injection hf with hf
        subst hf
        simp only [Bool.and_eq_true] at hc
        have e1 : g = f := Nat.eq_of_beq_eq_true hc.1
        have e2 := sameArgs_eq _ _ hc.2
        subst e1 e2
        exact hall (g, args, y) (by simp)
  have hk := key t h hx
  have e1 : (x.put μ).1 = v := by rw [hput]
  have e2 : (x.put μ).2 = μ' := by rw [hput]
  refine ⟨hk.1, fun n ρ w args' hm ha => ?_⟩
  have := hk.2 n ρ μ w args' hm ha
  rw [e1, e2] at this
  exact this

end Go.Vm
