/- Soundness of the evaluator: what is claimed of each job; control. -/
import Derived.Test.YthmnbgapdlbbfaaGreatDoorVmOps11
import Derived.RangeFuncLeaves
import Derived.LoopNIn
import Derived.TacticsIn
import Derived.RangeFuncRecord
set_option linter.unusedSimpArgs false
set_option linter.unusedVariables false
namespace Go.Vm
open Go.RowKit

variable {P : Program}

def FW (ro : Option Nat) : Fence := { Fence.wide with round := ro }
theorem FW_room (ro : Option Nat) (k : Nat) : (FW ro).room k := fun d h => by cases h
theorem FW_depth (ro : Option Nat) {n : Nat} : (FW ro).depth.isSome = true → 1 ≤ n := fun h => by cases h
theorem callsIn_FW {R0 : Option Nat} {n : Nat} {f : FuncId} {args : Array Value} {w : World} {R : Ending → World → Prop} (h : CallsIn Fence.wide n P f args w R) : CallsIn (FW R0) n P f args w R := h

def exitOf : AExit → Exit
  | .normal => .normal
  | .exit id => .exit id
  | .goto l => .goto l
  | .ret => .ret

def RoRel (ρ : Ren) (ro R0 : Option Nat) : Prop := (ro = none ∧ R0 = none) ∨ ∃ l p, ro = some l ∧ ρ[l]? = some p ∧ R0 = some p.1
theorem RoRel.mono {ρ ρ' : Ren} {ro R0 : Option Nat} (hp : ∀ (b : Nat) (p : Pl), ρ[b]? = some p → ρ'[b]? = some p) (h : RoRel ρ ro R0) : RoRel ρ' ro R0 := by
  rcases h with h | ⟨l, p, h1, h2, h3⟩
  · exact .inl h
  · exact .inr ⟨l, p, h1, hp _ _ h2, h3⟩

def markOf (r : Nat) : Deferred := { target := .collected r, args := #[] }
/-- The marks that ranges over functions have left among an activation's deferred calls. -/
def Marks (s : Nat) (w : World) (ds : List Deferred) : Prop :=
  ∃ rs : List Nat, ds = rs.map markOf ∧ rs.Nodup ∧ ∀ r ∈ rs, s ≤ r ∧ w.heap[r]? = some (.deferred (some []))

theorem Marks.nil (s : Nat) (w : World) : Marks s w [] := ⟨[], rfl, List.nodup_nil, fun r h => by cases h⟩

/-- A block for deferred calls is never owned. -/
theorem not_own_deferred {ρ : Ren} {l : List AObj} {w : World} (hm : MRel ρ l w) {r : Nat} {x : Option (List Deferred)} (h : w.heap[r]? = some (.deferred x)) :
    ∀ (b : Nat) (o : AObj) (p : Pl), l[b]? = some o → live o = true → ρ[b]? = some p → p.1 ≠ r := by
  intro b o p hb ho hp e
  subst e
  have := hm.obj b o p hb hp
  cases o with
  | cells c wr esz => obtain ⟨_, C, e, fr, hh, _⟩ := this; rw [h] at hh; cases hh
  | map es => obtain ⟨_, ES, clock, hh, _⟩ := this; rw [h] at hh; cases hh
  | iter s pos => obtain ⟨_, hh⟩ := this; rw [h] at hh; cases hh
  | loop st pend tm ps assign body => obtain ⟨_, L, hh, _⟩ := this; rw [h] at hh; cases hh
  | dead => cases ho

theorem owned_live {o : AObj} (h : owned o = true) : live o = true := by cases o <;> first | rfl | cases h

theorem Marks.adv {s : Nat} {ρ ρ' : Ren} {μ μ' : Mem} {w w' : World} {ds : List Deferred} (h : Marks s w ds) (hm : MRel ρ μ.blks w) (ha : Adv ρ μ w ρ' μ' w') : Marks s w' ds := by
  obtain ⟨rs, h1, h2, h3⟩ := h
  refine ⟨rs, h1, h2, fun r hr => ⟨(h3 r hr).1, ?_⟩⟩
  have hh := (h3 r hr).2
  have hlt : r < w.heap.size := by
    rcases Nat.lt_or_ge r w.heap.size with h | h
    · exact h
    · rw [Array.getElem?_eq_none h] at hh; cases hh
  rw [ha.keep r hlt ?_]
  · exact hh
  · rintro ⟨b, o, p, hb, ho, hp, hpr⟩
    exact not_own_deferred hm hh b o p hb (owned_live ho) hp hpr

structure Ctx (ρ : Ren) (μ : Mem) (w : World) (A : Regs) (a : Act) (ro R0 : Option Nat) (s : Nat) : Prop where
  m : MRel ρ μ.blks w
  r : RRel ρ A a.tmps
  ro : RoRel ρ ro R0
  mks : Marks s w a.defers
  sz : s ≤ w.heap.size

/-- What is owed at a job's end. -/
def Fin (ρ : Ren) (μ : Mem) (w : World) (s : Nat) (e : AExit) (A' : Regs) (μ' : Mem) (Q : Exit → Act → World → Prop) : Prop :=
  ∀ ρ' w' a', Adv ρ μ w ρ' μ' w' → RRel ρ' A' a'.tmps → Marks s w' a'.defers → Q (exitOf e) a' w'

theorem Ctx.next {ρ ρ' : Ren} {μ μ' : Mem} {w w' : World} {A A' : Regs} {a a' : Act} {ro R0 : Option Nat} {s : Nat} (h : Ctx ρ μ w A a ro R0 s) (ha : Adv ρ μ w ρ' μ' w')
    (hr : RRel ρ' A' a'.tmps) (hk : Marks s w' a'.defers) : Ctx ρ' μ' w' A' a' ro R0 s :=
  ⟨ha.rel, hr, h.ro.mono ha.pre, hk, Nat.le_trans h.sz ha.size⟩

theorem Fin.next {ρ ρ₁ : Ren} {μ μ₁ μ' : Mem} {w w₁ : World} {s : Nat} {e : AExit} {A' : Regs} {Q : Exit → Act → World → Prop} (hm : MRel ρ μ.blks w) (h : Fin ρ μ w s e A' μ' Q)
    (ha : Adv ρ μ w ρ₁ μ₁ w₁) : Fin ρ₁ μ₁ w₁ s e A' μ' Q :=
  fun ρ' w' a' h1 h2 h3 => h ρ' w' a' (ha.trans hm h1) h2 h3

/-- A call's end. -/
def EndsV (ρ : Ren) (μ : Mem) (w : World) (μ' : Mem) (v : Value) : Ending → World → Prop
  | .returned v', w' => ∃ ρ', VRel ρ' v v' ∧ Adv ρ μ w ρ' μ' w'
  | _, _ => False

/-- Code in a scope. -/
def ScopeWp (F : Fence) (n : Nat) (P : Program) (whole cur : Code) (Q : Exit → Act → World → Prop) (a : Act) (w : World) : Prop :=
  ∀ (b : Frame) (k : List Item) (cs : List Frame), b.roundOf = F.round → F.fn b.fn → F.room (cs.length + 1 + n) →
    ∃ e a' w', Q e a' w' ∧ ArrivesIn (Machine.fenced P F) P (lone (b.atR a (.code cur :: .inScope whole :: k)) cs w) b k cs e a' w'

def SCode (P : Program) (ih : Ev) : Prop := ∀ ro c A μ e A' μ', ih ro (.code c A) μ = some (e, A', μ') →
  ∀ n ρ w a R0 s Q, Ctx ρ μ w A a ro R0 s → Fin ρ μ w s e A' μ' Q → c.wpIn (FW R0) n P Q a w
def SScope (P : Program) (ih : Ev) : Prop := ∀ ro whole cur A μ e A' μ', ih ro (.scope whole cur A) μ = some (e, A', μ') →
  ∀ n ρ w a R0 s Q, Ctx ρ μ w A a ro R0 s → Fin ρ μ w s e A' μ' Q → ScopeWp (FW R0) n P whole cur Q a w
def SLoop (P : Program) (k : Nat) (ih : Ev) : Prop := ∀ ro c A μ e A' μ', ih ro (.code (.loop c) A) μ = some (e, A', μ') →
  ∀ n ρ w a R0 s Q, Ctx ρ μ w A a ro R0 s → Fin ρ μ w s e A' μ' Q → Code.roundsIn (FW R0) n P c Q k a w
def SFn (P : Program) (ih : Ev) : Prop := ∀ ro f args μ e B μ', ih ro (.fn f args) μ = some (e, B, μ') →
  (∃ fn c, P.funcs[f]? = some fn ∧ fn.body = some c) ∧
  ∀ n ρ w (args' : Array Value), MRel ρ μ.blks w → LRel ρ args args'.toList → CallsIn Fence.wide n P f args' w (EndsV ρ μ w μ' (getR B 0))
def SYield (P : Program) (ih : Ev) : Prop := ∀ ro l args μ e B μ', ih ro (.yield l args) μ = some (e, B, μ') →
  ∀ n R0 ρ w (args' : Array Value) (p : Pl), MRel ρ μ.blks w → LRel ρ args args'.toList → ρ[l]? = some p →
    ∃ g tmps assign body, (Instr.yield p.1 args').run P w = .ok (.round p.1 g tmps assign body) w ∧ RoundIn (FW R0) n P p.1 g tmps assign body w (EndsV ρ μ w μ' (getR B 0))

/-! ### Control -/
section
variable {ih : Ev}

theorem seq_sound (hC : SCode P ih) {ro : Option Nat} {x y : Code} {A : Regs} {μ : Mem} {e : AExit} {A' : Regs} {μ' : Mem} (h : seqStep ih ro x y A μ = some (e, A', μ'))
    {n : Nat} {ρ : Ren} {w : World} {a : Act} {R0 : Option Nat} {s : Nat} {Q : Exit → Act → World → Prop} (hc : Ctx ρ μ w A a ro R0 s) (hf : Fin ρ μ w s e A' μ' Q) :
    (Code.seq x y).wpIn (FW R0) n P Q a w := by
  unfold seqStep at h
  apply wpIn_seq
  split at h
  · rename_i A1 μ1 hx
    refine hC _ _ _ _ _ _ _ hx n ρ w a R0 s _ hc fun ρ1 w1 a1 h1 h2 h3 => ?_
    exact hC _ _ _ _ _ _ _ h n ρ1 w1 a1 R0 s Q (hc.next h1 h2 h3) (hf.next hc.m h1)
  · rename_i hno
    refine hC _ _ _ _ _ _ _ h n ρ w a R0 s _ hc fun ρ1 w1 a1 h1 h2 h3 => ?_
    have := hf ρ1 w1 a1 h1 h2 h3
    cases e with
    | normal => exact absurd h (hno _ _)
    | _ => exact this

theorem block_sound (hC : SCode P ih) {ro : Option Nat} {id : Nat} {x : Code} {A : Regs} {μ : Mem} {e : AExit} {A' : Regs} {μ' : Mem} (h : blockStep ih ro id x A μ = some (e, A', μ'))
    {n : Nat} {ρ : Ren} {w : World} {a : Act} {R0 : Option Nat} {s : Nat} {Q : Exit → Act → World → Prop} (hc : Ctx ρ μ w A a ro R0 s) (hf : Fin ρ μ w s e A' μ' Q) :
    (Code.block id x).wpIn (FW R0) n P Q a w := by
  unfold blockStep at h
  apply wpIn_block
  split at h
  · rename_i id' A1 μ1 hx
    injection h with h
    injection h with e1 h
    injection h with e2 e3
    subst e1 e2 e3
    refine hC _ _ _ _ _ _ _ hx n ρ w a R0 s _ hc fun ρ1 w1 a1 h1 h2 h3 => ?_
    have := hf ρ1 w1 a1 h1 h2 h3
    simp only [exitOf, Exit.inBlock]
    by_cases hid : id' = id
    · rw [if_pos hid] at this ⊢; exact this
    · rw [if_neg hid] at this ⊢; exact this
  · rename_i hno
    refine hC _ _ _ _ _ _ _ h n ρ w a R0 s _ hc fun ρ1 w1 a1 h1 h2 h3 => ?_
    have := hf ρ1 w1 a1 h1 h2 h3
    cases e with
    | exit id' => exact absurd h (hno _ _ _)
    | _ => exact this

theorem loop_sound (hC : SCode P ih) {k : Nat} (hL : SLoop P k ih) {ro : Option Nat} {x : Code} {A : Regs} {μ : Mem} {e : AExit} {A' : Regs} {μ' : Mem} (h : loopStep ih ro x A μ = some (e, A', μ'))
    {n : Nat} {ρ : Ren} {w : World} {a : Act} {R0 : Option Nat} {s : Nat} {Q : Exit → Act → World → Prop} (hc : Ctx ρ μ w A a ro R0 s) (hf : Fin ρ μ w s e A' μ' Q) :
    Code.roundsIn (FW R0) n P x Q (k + 1) a w := by
  unfold loopStep at h
  rw [roundsIn_succ]
  split at h
  · rename_i A1 μ1 hx
    refine hC _ _ _ _ _ _ _ hx n ρ w a R0 s _ hc fun ρ1 w1 a1 h1 h2 h3 => ?_
    exact hL _ _ _ _ _ _ _ h n ρ1 w1 a1 R0 s Q (hc.next h1 h2 h3) (hf.next hc.m h1)
  · rename_i hno
    refine hC _ _ _ _ _ _ _ h n ρ w a R0 s _ hc fun ρ1 w1 a1 h1 h2 h3 => ?_
    have := hf ρ1 w1 a1 h1 h2 h3
    cases e with
    | normal => exact absurd h (hno _ _)
    | _ => exact this

theorem cond_sound (hC : SCode P ih) {ro : Option Nat} {c : Operand} {x y : Code} {A : Regs} {μ : Mem} {e : AExit} {A' : Regs} {μ' : Mem} (h : condStep ih ro (evA A c) x y A μ = some (e, A', μ'))
    {n : Nat} {ρ : Ren} {w : World} {a : Act} {R0 : Option Nat} {s : Nat} {Q : Exit → Act → World → Prop} (hc : Ctx ρ μ w A a ro R0 s) (hf : Fin ρ μ w s e A' μ' Q) :
    (Code.cond c x y).wpIn (FW R0) n P Q a w := by
  unfold condStep at h
  split at h
  · rename_i t ht
    have hv := hc.r.eval c
    rw [ht] at hv
    refine wpIn_cond (hv.same rfl) ?_
    have := hC _ _ _ _ _ _ _ h n ρ w a R0 s Q hc hf
    cases t <;> exact this
  · cases h

theorem stepR_scope {b : Frame} {a : Act} {k : List Item} {cs : List Frame} {w : World} {c : Code} : step P (lone (b.atR a (.code (.scope c) :: k)) cs w) = .next (lone (b.atR a (.code c :: .inScope c :: k)) cs w) :=
  step_lone_go (by simp [stepG, stepG.exec, Frame.atR])
theorem stepR_inScope {b : Frame} {a : Act} {k : List Item} {cs : List Frame} {w : World} {c : Code} : step P (lone (b.atR a (.inScope c :: k)) cs w) = .next (lone (b.atR a k) cs w) :=
  step_lone_go (by simp [stepG, stepG.exec, Frame.atR])

theorem scope_enter {F : Fence} {n : Nat} {c : Code} {Q : Exit → Act → World → Prop} {a : Act} {w : World} (h : ScopeWp F n P c c Q a w) : (Code.scope c).wpIn F n P Q a w :=
  fun b k cs hro hb hr => let ⟨e, a', w', q, r⟩ := h b k cs hro hb hr; ⟨e, a', w', q, .of_steps (.one (fenced_calm hb hr rfl) stepR_scope) r⟩

/-- How code in a scope may be left. -/
def scopePost (F : Fence) (n : Nat) (P : Program) (whole : Code) (Q : Exit → Act → World → Prop) : Exit → Act → World → Prop
  | .goto l, a, w => (∃ rest, findLabel whole l = some rest ∧ ScopeWp F n P whole rest Q a w) ∨ (findLabel whole l = none ∧ Q (.goto l) a w)
  | e, a, w => Q e a w

theorem scope_run {F : Fence} {n : Nat} {whole cur : Code} {Q : Exit → Act → World → Prop} {a : Act} {w : World} (h : cur.wpIn F n P (scopePost F n P whole Q) a w) : ScopeWp F n P whole cur Q a w := by
  intro b k cs hro hb hr
  obtain ⟨e, a₁, w₁, hq, harr⟩ := h b (.inScope whole :: k) cs hro hb hr
  cases e with
  | normal => exact ⟨.normal, a₁, w₁, hq, StepsIn.trans harr (.one (fenced_calm hb hr rfl) stepR_inScope)⟩
  | exit id =>
    have hx : exitTo id (.inScope whole :: k) = exitTo id k := by simp [exitTo]
    exact ⟨.exit id, a₁, w₁, hq, fun k' hk => harr.1 k' (by rw [hx]; exact hk), fun hr' hk => let ⟨k₁, h1, h2⟩ := harr.2 hr' (by rw [hx]; exact hk); ⟨k₁, h1, h2⟩⟩
  | goto l =>
    rcases hq with ⟨rest, hf, hs⟩ | ⟨hf, hq⟩
    · have hg : gotoIn l (.inScope whole :: k) = some (.code rest :: .inScope whole :: k) := by simp [gotoIn, hf]
      obtain ⟨e₂, a₂, w₂, hq₂, harr₂⟩ := hs b k cs hro hb hr
      exact ⟨e₂, a₂, w₂, hq₂, .of_steps (harr.1 _ hg) harr₂⟩
    · have hx : gotoIn l (.inScope whole :: k) = gotoIn l k := by simp [gotoIn, hf]
      exact ⟨.goto l, a₁, w₁, hq, fun k' hk => harr.1 k' (by rw [hx]; exact hk), fun hr' hk => let ⟨k₁, h1, h2⟩ := harr.2 hr' (by rw [hx]; exact hk); ⟨k₁, h1, h2⟩⟩
  | ret => exact ⟨_, a₁, w₁, hq, harr⟩
  | panic ch => exact ⟨_, a₁, w₁, hq, harr⟩
  | outgrown => exact ⟨_, a₁, w₁, hq, harr⟩

theorem scope_sound (hC : SCode P ih) (hS : SScope P ih) {ro : Option Nat} {whole cur : Code} {A : Regs} {μ : Mem} {e : AExit} {A' : Regs} {μ' : Mem} (h : scopeStep ih ro whole cur A μ = some (e, A', μ'))
    {n : Nat} {ρ : Ren} {w : World} {a : Act} {R0 : Option Nat} {s : Nat} {Q : Exit → Act → World → Prop} (hc : Ctx ρ μ w A a ro R0 s) (hf : Fin ρ μ w s e A' μ' Q) :
    ScopeWp (FW R0) n P whole cur Q a w := by
  unfold scopeStep at h
  apply scope_run
  split at h
  · rename_i l A1 μ1 hx
    refine hC _ _ _ _ _ _ _ hx n ρ w a R0 s _ hc fun ρ1 w1 a1 h1 h2 h3 => ?_
    simp only [exitOf, scopePost]
    split at h
    · rename_i rest hl
      exact .inl ⟨rest, hl, hS _ _ _ _ _ _ _ _ h n ρ1 w1 a1 R0 s Q (hc.next h1 h2 h3) (hf.next hc.m h1)⟩
    · rename_i hl
      injection h with h
      injection h with e1 h
      injection h with e2 e3
      subst e1 e2 e3
      exact .inr ⟨hl, hf ρ1 w1 a1 h1 h2 h3⟩
  · rename_i hno
    refine hC _ _ _ _ _ _ _ h n ρ w a R0 s _ hc fun ρ1 w1 a1 h1 h2 h3 => ?_
    have := hf ρ1 w1 a1 h1 h2 h3
    cases e with
    | goto l => exact absurd h (hno _ _ _)
    | _ => exact this

end
end Go.Vm
