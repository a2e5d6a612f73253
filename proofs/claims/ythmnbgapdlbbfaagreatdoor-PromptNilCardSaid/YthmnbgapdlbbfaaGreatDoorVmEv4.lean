/- Soundness of the evaluator: functions; the induction on fuel. -/
import Derived.Test.YthmnbgapdlbbfaaGreatDoorVmEv3
set_option linter.unusedSimpArgs false
set_option linter.unusedVariables false
namespace Go.Vm
open Go.RowKit

variable {P : Program}

theorem loadR_get : ∀ (args : List Value) (t : RT) (i j : Nat), i + args.length ≤ 4000 → j < 4000 →
    RT.get 12 (loadR t i args) j = if i ≤ j ∧ j < i + args.length then (args[j - i]?).getD undef else RT.get 12 t j := by
  intro args
  induction args with
  | nil => intro t i j _ _; rw [if_neg (by simp)]; rfl
  | cons v r ih =>
    intro t i j hi hj
    simp only [List.length_cons] at hi
    unfold loadR
    rw [ih _ _ _ (by omega) hj, RT.get_set 12 _ _ _ _ (by omega) (by omega)]
    by_cases h1 : i + 1 ≤ j ∧ j < i + 1 + r.length
    · rw [if_pos h1, if_pos (by simp; omega)]
      rw [show j - i = (j - (i + 1)) + 1 by omega]
      simp
    · rw [if_neg h1]
      by_cases h2 : j = i
      · subst h2
        rw [if_pos rfl, if_pos (by simp)]
        simp
      · rw [if_neg h2, if_neg (by simp only [List.length_cons]; omega)]

theorem args_regs {ρ : Ren} {args : List Value} {args' : Array Value} (h : LRel ρ args args'.toList) {nt : Nat} (hn : nt ≤ 4000) (hl : args.length ≤ nt) :
    RRel ρ ⟨nt, loadR .e 0 args⟩ (args' ++ Array.replicate (nt - args'.size) undef) := by
  have hsz : args'.size = args.length := by rw [h.1]; simp
  refine ⟨hn, by simp; omega, fun i => ?_⟩
  unfold getR
  by_cases hi : i < nt
  · simp only [bltT hi, cond_true]
    rw [loadR_get _ _ _ _ (by omega) (by omega)]
    by_cases h1 : i < args.length
    · rw [if_pos (by omega), Nat.sub_zero]
      obtain ⟨u', k1, k2⟩ := h.get (show args[i]? = some args[i] by simp [h1])
      have : (args' ++ Array.replicate (nt - args'.size) undef).getD i undef = u' := by
        rw [Array.getD_eq_getD_getElem?, Array.getElem?_append_left (by omega)]
        have : args'[i]? = some u' := by simpa using k1
        rw [this]; rfl
      rw [this]
      simpa [h1] using k2
    · rw [if_neg (by omega), RT.get_e]
      have : (args' ++ Array.replicate (nt - args'.size) undef).getD i undef = undef := by
        rw [Array.getD_eq_getD_getElem?, Array.getElem?_append_right (by omega)]
        simp only [Array.getElem?_replicate]
        split <;> rfl
      rw [this]
      exact undef_rel ρ
  · simp only [bltF hi, cond_false]
    have : (args' ++ Array.replicate (nt - args'.size) undef).getD i undef = undef := by
      rw [Array.getD_eq_getD_getElem?, Array.getElem?_eq_none (by simp; omega)]
      rfl
    rw [this]
    exact undef_rel ρ

/-! ### A function leaves -/
theorem MRel.besides {ρ : Ren} {l : List AObj} {w w' : World} (h : MRel ρ l w) {rs : List Nat} (hd : ∀ r ∈ rs, ∃ x, w.heap[r]? = some (.deferred x)) (hw : ∀ k, k ∉ rs → w'.heap[k]? = w.heap[k]?) : MRel ρ l w' := by
  refine ⟨h.len, fun b o p hb hp => (h.obj b o p hb hp).world fun hl => hw _ fun hmem => ?_, h.inj⟩
  obtain ⟨x, hx⟩ := hd _ hmem
  exact not_own_deferred h hx b o p hb hl hp rfl

/-- Of the heap only the blocks of rs may have turned. -/
structure Besides (rs : List Nat) (w w' : World) : Prop where
  size : w'.heap.size = w.heap.size
  old : ∀ k, k ∉ rs → w'.heap[k]? = w.heap[k]?
  os : w'.os = w.os
  tape : w'.tape = w.tape
  output : w'.output = w.output

theorem Adv.besides {ρ ρ' : Ren} {μ μ' : Mem} {w w₁ w' : World} (h : Adv ρ μ w ρ' μ' w₁) {rs : List Nat} (hd : ∀ r ∈ rs, w.heap.size ≤ r ∧ w₁.heap[r]? = some (.deferred (some []))) (hb : Besides rs w₁ w') :
    Adv ρ μ w ρ' μ' w' where
  rel := h.rel.besides (fun r hr => ⟨_, (hd r hr).2⟩) hb.old
  pre := h.pre
  size := by rw [hb.size]; exact h.size
  keep r hr ho := (hb.old r fun hm => by have := (hd r hm).1; omega).trans (h.keep r hr ho)
  own := h.own
  lives := h.lives
  os := hb.os.trans h.os
  tape := hb.tape.trans h.tape
  output := hb.output.trans h.output
  low := h.low
  grow := h.grow
  cut s hs hl hr := (h.cut s hs hl hr).besides (fun r hr => ⟨_, (hd r hr).2⟩) hb.old

theorem leaves_marks {F : Fence} {n : Nat} {fn : Func} {tmps : Array Value} {R : Ending → World → Prop} : ∀ (rs : List Nat) (w : World), rs.Nodup → (∀ r ∈ rs, w.heap[r]? = some (.deferred (some []))) →
    (∀ w', Besides rs w w' → ∃ v, (results fn tmps).run P w' = .ok v w' ∧ R (.returned v) w') → LeavesInM F n P fn tmps R (rs.map markOf) .returning w := by
  intro rs
  induction rs with
  | nil => intro w _ _ h; exact h w ⟨rfl, fun _ _ => rfl, rfl, rfl, rfl⟩
  | cons r rs ih =>
    intro w hnd hd h
    have hr := hd r (by simp)
    have hlt := lt_of_heap hr
    rw [List.nodup_cons] at hnd
    refine ⟨by simp, .inl ⟨r, w.putObj r (.deferred none), rfl, run_takeDeferred hr, ?_⟩⟩
    have ht := putObj_turn w r (.deferred none)
    refine ih _ hnd.2 (fun q hq => ?_) (fun w' hb => h w' ⟨hb.size.trans ht.size, fun k hk => ?_, hb.os.trans ht.os, hb.tape.trans ht.tape, hb.output.trans ht.output⟩)
    · rw [ht.old q (fun e => hnd.1 (e ▸ hq))]
      exact hd q (List.mem_cons_of_mem _ hq)
    · have h1 : k ∉ rs := fun hm => hk (List.mem_cons_of_mem _ hm)
      have h2 : k ≠ r := fun e => hk (by simp [e])
      rw [hb.old k h1, ht.old k h2]

def OrcOK (P : Program) (orc : Oracle) : Prop := ∀ f args μ v μ', orc f args μ = some (v, μ') →
  (∃ fn c, P.funcs[f]? = some fn ∧ fn.body = some c) ∧
  ∀ n ρ w (args' : Array Value), MRel ρ μ.blks w → LRel ρ args args'.toList → CallsIn Fence.wide n P f args' w (EndsV ρ μ w μ' v)

def DrawOK (P : Program) : Prop := ∀ (ih : Ev), SFn P ih → SYield P ih → ∀ (ro : Option Nat) (id : Nat) (ops : Array Oper) (A : Regs) (μ : Mem) (e : AExit) (A' : Regs) (μ' : Mem),
  regionStep P ih ro ops.toList true A μ = some (e, A', μ') → ∀ (n : Nat) (ρ : Ren) (w : World) (a : Act) (R0 : Option Nat) (s : Nat) (Q : Exit → Act → World → Prop),
    Ctx ρ μ w A a ro R0 s → Fin ρ μ w s e A' μ' Q → (Code.region id ops true).wpIn (FW R0) n P Q a w

section
variable {ih : Ev} {orc : Oracle}

theorem body_sound (hC : SCode P ih) {f : FuncId} {fn : Func} {c : Code} (hf : P.funcs[f]? = some fn) (hb : fn.body = some c) {args : List Value} {μ : Mem} (hl : args.length ≤ fn.ntmps) (hn : fn.ntmps ≤ 4000)
    {e : AExit} {A1 : Regs} {μ1 : Mem} (hrun : ih none (.code c ⟨fn.ntmps, loadR .e 0 args⟩) { μ with low := big } = some (e, A1, μ1)) (he : e = .normal ∨ e = .ret) {v : Value} (hres : resultsA P fn A1 μ1 = some v)
    (n : Nat) (ρ : Ren) (w : World) (args' : Array Value) (hm : MRel ρ μ.blks w) (ha : LRel ρ args args'.toList) :
    CallsIn Fence.wide n P f args' w (EndsV ρ μ w { (tidy μ.size v μ1).2 with low := min μ.low μ1.low } (tidy μ.size v μ1).1) := by
  refine callsIn_of_wp_marks hf hb trivial ?_ rfl
  have hc : Ctx ρ { μ with low := big } w ⟨fn.ntmps, loadR .e 0 args⟩ { tmps := args' ++ Array.replicate (fn.ntmps - args'.size) undef, defers := [] } none none w.heap.size :=
    ⟨hm, args_regs ha hn hl, .inl ⟨rfl, rfl⟩, Marks.nil _ _, Nat.le_refl _⟩
  refine hC _ _ _ _ _ _ _ hrun n ρ w _ none w.heap.size _ hc fun ρ1 w1 a1 ha1 hr1 hk1 => ?_
  have goal : LeavesInM Fence.wide n P fn a1.tmps (EndsV ρ μ w { (tidy μ.size v μ1).2 with low := min μ.low μ1.low } (tidy μ.size v μ1).1) a1.defers .returning w1 := by
    obtain ⟨rs, e1, h1, h2⟩ := hk1
    rw [e1]
    refine leaves_marks rs w1 h1 (fun r hr => (h2 r hr).2) fun w' hbs => ?_
    have ha2 := ha1.besides h2 hbs
    obtain ⟨v', k1, k2⟩ := results_run (P := P) ha2.rel hr1 hres
    exact ⟨v', k1, tidy_sound hm ha2 k2 rfl⟩
  rcases he with rfl | rfl <;> exact goal

theorem fn_sound (hO : OrcOK P orc) (hC : SCode P ih) {f : FuncId} {args : List Value} {μ : Mem} {e : AExit} {B : Regs} {μ' : Mem} (h : fnStep P orc ih f args μ = some (e, B, μ')) :
    (∃ fn c, P.funcs[f]? = some fn ∧ fn.body = some c) ∧
    ∀ n ρ w (args' : Array Value), MRel ρ μ.blks w → LRel ρ args args'.toList → CallsIn Fence.wide n P f args' w (EndsV ρ μ w μ' (getR B 0)) := by
  unfold fnStep at h
  split at h
  · rename_i v μ1 ho
    injection h with h
    injection h with h1 h
    injection h with h2 h3
    subst h1 h2 h3
    exact hO _ _ _ _ _ ho
  · split at h
    · cases h
    · rename_i fn hf
      split at h
      · cases h
      · rename_i c hb
        refine ⟨⟨fn, c, hf, hb⟩, ?_⟩
        split at h
        · cases h
        · rename_i hlen
          simp only [Bool.or_eq_true, decide_eq_true_eq, not_or, Nat.not_lt] at hlen
          split at h
          · rename_i A1 μ1 hrun
            split at h
            · rename_i v hres
              injection h with h
              injection h with h1 h
              injection h with h2 h3
              subst h1 h2 h3
              exact body_sound hC hf hb hlen.1 hlen.2 hrun (.inl rfl) hres
            · cases h
          · rename_i A1 μ1 hrun
            split at h
            · rename_i v hres
              injection h with h
              injection h with h1 h
              injection h with h2 h3
              subst h1 h2 h3
              exact body_sound hC hf hb hlen.1 hlen.2 hrun (.inr rfl) hres
            · cases h
          · cases h

theorem code_sound (hN : NoNum P) (hD : DrawOK P) (hC : SCode P ih) (hS : SScope P ih) {k : Nat} (hL : SLoop P k ih) (hF : SFn P ih) (hY : SYield P ih) {ro : Option Nat} {c : Code} {A : Regs} {μ : Mem}
    {e : AExit} {A' : Regs} {μ' : Mem} (h : codeStep P ih ro c A μ = some (e, A', μ'))
    {n : Nat} {ρ : Ren} {w : World} {a : Act} {R0 : Option Nat} {s : Nat} {Q : Exit → Act → World → Prop} (hc : Ctx ρ μ w A a ro R0 s) (hf : Fin ρ μ w s e A' μ' Q) : c.wpIn (FW R0) n P Q a w := by
  have stay : ∀ (e0 : AExit), some (e0, A, μ) = some (e, A', μ') → Q (exitOf e0) a w := by
    intro e0 h
    injection h with h
    injection h with h1 h
    injection h with h2 h3
    subst h1 h2 h3
    exact hf ρ w a (Adv.refl hc.m) hc.r hc.mks
  cases c with
  | skip => exact wpIn_skip (stay .normal h)
  | label l => exact wpIn_label (stay .normal h)
  | region id ops draw =>
    cases draw with
    | true => exact hD ih hF hY ro id ops A μ e A' μ' h n ρ w a R0 s Q hc hf
    | false => exact wpIn_region_list (ops_sound hN hF hY ops.toList A μ e A' μ' h n ρ w a R0 s Q hc hf)
  | seq x y => exact seq_sound hC h hc hf
  | cond c x y => exact cond_sound hC h hc hf
  | block id body => exact block_sound hC h hc hf
  | loop body => exact wpIn_loop_rounds _ (loop_sound hC hL h hc hf)
  | rangeFunc g ps assign body => exact range_sound hN hF h hc hf
  | exit id => exact wpIn_exit (stay (.exit id) h)
  | scope body => exact scope_enter (hS _ _ _ _ _ _ _ _ h n ρ w a R0 s Q hc hf)
  | goto l => exact wpIn_goto (stay (.goto l) h)
  | ret => exact wpIn_ret (stay .ret h)
  | refuse x => cases h

end

theorem ev_sound (hN : NoNum P) (hD : DrawOK P) {orc : Oracle} (hO : OrcOK P orc) : ∀ k : Nat, SCode P (ev P orc k) ∧ SScope P (ev P orc k) ∧ SLoop P k (ev P orc k) ∧ SFn P (ev P orc k) ∧ SYield P (ev P orc k) := by
  intro k
  induction k with
  | zero =>
    refine ⟨fun _ _ _ _ _ _ _ h => ?_, fun _ _ _ _ _ _ _ _ h => ?_, fun _ _ _ _ _ _ _ h => ?_, fun _ _ _ _ _ _ _ h => ?_, fun _ _ _ _ _ _ _ h => ?_⟩ <;> cases h
  | succ k ih =>
    obtain ⟨hC, hS, hL, hF, hY⟩ := ih
    refine ⟨?_, ?_, ?_, ?_, ?_⟩
    · intro ro c A μ e A' μ' h n ρ w a R0 s Q hc hf
      exact code_sound hN hD hC hS hL hF hY (show codeStep P (ev P orc k) ro c A μ = _ from h) hc hf
    · intro ro whole cur A μ e A' μ' h n ρ w a R0 s Q hc hf
      exact scope_sound hC hS (show scopeStep (ev P orc k) ro whole cur A μ = _ from h) hc hf
    · intro ro c A μ e A' μ' h n ρ w a R0 s Q hc hf
      exact loop_sound hC hL (show loopStep (ev P orc k) ro c A μ = _ from h) hc hf
    · intro ro f args μ e B μ' h
      exact fn_sound hO hC (show fnStep P orc (ev P orc k) f args μ = _ from h)
    · intro ro l args μ e B μ' h n R0 ρ w args' p hm ha hp
      exact yield_sound hC (show yieldStep (ev P orc k) l args μ = _ from h) n R0 ρ w args' p hm ha hp

end Go.Vm
