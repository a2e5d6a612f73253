/- Soundness of the evaluator: operations, regions in the order of the text, ranges over functions, rounds. -/
import Derived.Test.YthmnbgapdlbbfaaGreatDoorVmEv1
set_option linter.unusedSimpArgs false
set_option linter.unusedVariables false
namespace Go.Vm
open Go.RowKit

variable {P : Program}

def NoNum (P : Program) : Prop := ∀ (f : FuncId) (fn : Func), P.funcs[f]? = some fn → (fn.name == "runtime.NumGoroutine") = false

theorem callFunc_run (hN : NoNum P) {f : FuncId} (h : ∃ fn c, P.funcs[f]? = some fn ∧ fn.body = some c) (args : Array Value) (w : World) : (callFunc f args).run P w = .ok (.enter f args) w := by
  obtain ⟨fn, c, h1, h2⟩ := h
  have h3 := hN f fn h1
  simp only [beq_eq_false_iff_ne, ne_eq] at h3
  simp [callFunc, h1, h3, h2]

theorem func_rel {ρ : Ren} {f : FuncId} {x y : Array Value} {v' : Value} (h : VRel ρ (.func (.func f) x y) v') :
    ∃ x' y', v' = .func (.func f) x' y' ∧ LRel ρ x.toList x'.toList ∧ LRel ρ y.toList y'.toList := by
  cases h with
  | lit h => simp [litV] at h
  | func _ h1 h2 h3 h4 => exact ⟨_, _, rfl, LRel.of_arrays h1 h2, LRel.of_arrays h3 h4⟩
  | fn g h => exact ⟨_, _, rfl, LRel.nil ρ, LRel.nil ρ⟩
theorem yield_rel {ρ : Ren} {l : Nat} {x y : Array Value} {v' : Value} (h : VRel ρ (.func (.yield l) x y) v') :
    ∃ p, ρ[l]? = some p ∧ x = #[] ∧ y = #[] ∧ v' = .func (.yield p.1) #[] #[] := by
  cases h with
  | lit h => simp [litV] at h
  | yield h => exact ⟨_, h, rfl, rfl, rfl⟩
  | fn g h => cases h

theorem bool_same {ρ : Ren} {v v' : Value} (hk : known v = true) (h : VRel ρ v v') : vBool v' = vBool v := by
  cases h <;> first | rfl | cases hk

theorem wanted_same {ρ : Ren} {A : Regs} {a : Act} (hr : RRel ρ A a.tmps) {ops : Array Oper} {o : Oper} (hg : guardOk ops.toList A o = true) :
    Region.wanted o (yielded ops a.tmps) = Region.wanted o (yieldedA ops.toList A) := by
  unfold Region.wanted
  unfold guardOk at hg
  cases hgd : o.guard with
  | none => rfl
  | some x =>
    obtain ⟨j, want⟩ := x
    simp only [hgd] at hg ⊢
    have : yielded ops a.tmps j = yieldedA ops.toList A j := by
      unfold yielded yieldedA
      simp only [Array.getElem?_toList] at hg ⊢
      cases hd : (ops[j]?).bind (·.dst) with
      | none => rfl
      | some d =>
        simp only [hd] at hg
        simp only [Option.bind_some]
        have hv := hr.val d
        have hb := bool_same hg hv
        have e1 : (match getR A d with | .bool b => some b | _ => none) = vBool (getR A d) := by cases getR A d <;> rfl
        have e2 : (match a.tmps[d]? with | some (.bool b) => some b | _ => none) = vBool (a.tmps.getD d undef) := by
          cases ht : a.tmps[d]? with
          | none =>
            have e : a.tmps.getD d undef = undef := by simp [Array.getD_eq_getD_getElem?, ht]
            rw [e]; rfl
          | some x =>
            have e : a.tmps.getD d undef = x := by simp [Array.getD_eq_getD_getElem?, ht]
            rw [e]
            cases x <;> rfl
        exact e2.trans (hb.trans e1.symm)
    rw [this]

section
variable {ih : Ev}

theorem outM_some {x : Option (Value × Mem)} {e : AExit} {B : Regs} {μ' : Mem} (h : outM x = some (e, B, μ')) : ∃ v, x = some (v, μ') ∧ getR B 0 = v ∧ e = .normal := by
  unfold outM at h
  split at h
  · rename_i v μ1
    injection h with h
    injection h with h1 h
    injection h with h2 h3
    subst h1 h2 h3
    exact ⟨v, rfl, rfl, rfl⟩
  · cases h

theorem oper_sound (hN : NoNum P) (hF : SFn P ih) (hY : SYield P ih) {ro : Option Nat} {o : Oper} {A : Regs} {μ : Mem} {e : AExit} {B : Regs} {μ' : Mem}
    (h : operStep P ih ro o A μ = some (e, B, μ')) {n : Nat} {ρ : Ren} {w : World} {a : Act} {R0 : Option Nat} (hm : MRel ρ μ.blks w) (hr : RRel ρ A a.tmps)
    {K : Act → World → Prop} {Q : Exit → Act → World → Prop} (hK : ∀ ρ' v' w', VRel ρ' (getR B 0) v' → Adv ρ μ w ρ' μ' w' → K (a.put o.dst v') w') :
    o.wpIn (FW R0) n P a w K Q := by
  refine ⟨fun _ _ => trivial, ?_⟩
  unfold operStep at h
  split at h
  · rename_i f args hcal
    have hop : ∃ c : Call, o.op = .call c ∧ c.callee = .value f ∧ c.args = args := by
      unfold calleeOf at hcal
      split at hcal
      · rename_i c ho
        split at hcal
        · rename_i g hg
          injection hcal with hcal
          injection hcal with h1 h2
          subst h1
          exact ⟨c, ho, hg, h2⟩
        · cases hcal
      · cases hcal
    obtain ⟨c, ho, hcf, rfl⟩ := hop
    have hsem : o.semAt (FW R0).round a.eval = execOp a.eval o := Oper.semAt_eq _ _ _ (fun c' e => by rw [ho] at e; cases e)
    have hex : execOp a.eval o = (do let d ← Deferred.ofValue (a.eval f) (c.args.map a.eval); invoke d.target d.args) := by
      unfold execOp
      rw [ho]
      simp only [resolve, hcf]
    rw [hsem, hex]
    have hargs := args_rel hr c.args
    have hfv := hr.eval f
    unfold goCall at h
    split at h
    · rename_i g first captured hgv
      rw [hgv] at hfv
      obtain ⟨x', y', e1, h1, h2⟩ := func_rel hfv
      obtain ⟨hbody, hcall⟩ := hF _ _ _ _ _ _ _ h
      rw [e1]
      have hrun : (do let d ← Deferred.ofValue (.func (.func g) x' y') (c.args.map a.eval); invoke d.target d.args : Sem Next).run P w = .ok (.enter g (x' ++ c.args.map a.eval ++ y')) w := by
        simp [Deferred.ofValue, invoke, callFunc_run hN hbody]
      rw [hrun, Oper.uponIn_enter]
      refine ⟨FW_depth R0, callsIn_FW (CallsIn.mono (hcall (n - 1) ρ w _ hm ?_) fun e' w'' he => ?_)⟩
      · simpa using (h1.append hargs).append h2
      · cases e' with
        | returned v' => obtain ⟨ρ', hv, ha⟩ := he; exact hK ρ' v' w'' hv ha
        | panicked ch => exact he.elim
        | outgrown => exact he.elim
    · rename_i l first captured hgv
      rw [hgv] at hfv
      obtain ⟨p, hp, hx, hy, e1⟩ := yield_rel hfv
      subst hx
      rw [e1]
      obtain ⟨g, tmps, assign, body, hrun, hround⟩ := hY _ _ _ _ _ _ _ h (n - 1) R0 ρ w (c.args.map a.eval) p hm (by simpa using hargs) hp
      have hrun2 : (do let d ← Deferred.ofValue (.func (.yield p.1) #[] #[]) (c.args.map a.eval); invoke d.target d.args : Sem Next).run P w = .ok (.round p.1 g tmps assign body) w := by
        simp [Deferred.ofValue, invoke, hrun]
      rw [hrun2, Oper.uponIn_round]
      refine ⟨FW_depth R0, RoundIn.mono hround fun e' w'' he => ?_⟩
      cases e' with
      | returned v' => obtain ⟨ρ', hv, ha⟩ := he; exact hK ρ' v' w'' hv ha
      | panicked ch => exact he.elim
      | outgrown => exact he.elim
    · cases h
  · obtain ⟨v, h1, h2, _⟩ := outM_some h
    have hsem : o.semAt (FW R0).round a.eval = execOp a.eval o := Oper.semAt_eq _ _ _ (fun c e => by rw [e] at h1; cases h1)
    rw [hsem]
    obtain ⟨ρ', v', w', r, hrun, hrv, hv, ha⟩ := opA_sound hm hr h1
    rw [hrun]
    rcases hrv with rfl | ⟨rfl, rfl⟩
    · exact hK ρ' v' w' (by rw [h2]; exact hv) ha
    · exact hK ρ' undef w' (by rw [h2]; exact hv) ha

theorem ops_sound (hN : NoNum P) (hF : SFn P ih) (hY : SYield P ih) {ro : Option Nat} {ops : Array Oper} : ∀ (rest : List Oper) (A : Regs) (μ : Mem) (e : AExit) (A' : Regs) (μ' : Mem),
    opsRun P ih ro ops.toList rest A μ = some (e, A', μ') → ∀ (n : Nat) (ρ : Ren) (w : World) (a : Act) (R0 : Option Nat) (s : Nat) (Q : Exit → Act → World → Prop),
      Ctx ρ μ w A a ro R0 s → Fin ρ μ w s e A' μ' Q → wpListIn (FW R0) n P ops Q rest a w := by
  intro rest
  induction rest with
  | nil =>
    intro A μ e A' μ' h n ρ w a R0 s Q hc hf
    simp only [opsRun] at h
    injection h with h
    injection h with h1 h
    injection h with h2 h3
    subst h1 h2 h3
    exact hf ρ w a (Adv.refl hc.m) hc.r hc.mks
  | cons o rest IH =>
    intro A μ e A' μ' h n ρ w a R0 s Q hc hf
    simp only [opsRun] at h
    cases hg : guardOk ops.toList A o with
    | false => rw [hg] at h; cases h
    | true =>
      rw [hg] at h
      simp only [Bool.not_true, cond_false] at h
      unfold wpListIn
      rw [wanted_same hc.r hg]
      cases hw : Region.wanted o (yieldedA ops.toList A) with
      | true =>
        rw [hw, cond_true] at h
        rw [if_pos rfl]
        split at h
        · rename_i e1 B μ1 hop
          refine oper_sound hN hF hY hop hc.m hc.r fun ρ1 v1 w1 hv ha => ?_
          have hc1 : Ctx ρ1 μ1 w1 (putR A o.dst (getR B 0)) (a.put o.dst v1) ro R0 s := by
            refine hc.next ha ((hc.r.mono ha.pre).put _ hv) ?_
            have := hc.mks.adv hc.m ha
            cases o.dst <;> exact this
          exact IH _ _ _ _ _ h n ρ1 w1 _ R0 s Q hc1 (hf.next hc.m ha)
        · cases h
      | false =>
        rw [hw, cond_false] at h
        rw [if_neg (by simp)]
        refine ⟨fun _ _ => trivial, IH _ _ _ _ _ h n ρ w _ R0 s Q ⟨hc.m, hc.r.put _ (undef_rel ρ), hc.ro, ?_, hc.sz⟩ hf⟩
        have := hc.mks
        cases o.dst <;> exact this

/-! ### Ranges over functions -/
theorem Adv.extra {ρ : Ren} {μ : Mem} {w : World} (hm : MRel ρ μ.blks w) (O : Obj) : Adv ρ μ w ρ μ (w.alloc O) where
  rel := hm.newer fun k hk => heap_alloc_lt w O hk
  pre _ _ h := h
  size := by simp
  keep r hr _ := heap_alloc_lt w O hr
  own _ _ h := h
  lives _ _ h := h
  os := rfl
  tape := rfl
  output := rfl
  low := Nat.le_refl _
  grow := Nat.le_refl _
  cut s _ _ h := h.newer fun k hk => heap_alloc_lt w O hk

theorem getLoop_run {w : World} {l : Nat} {L : Loop} (h : w.heap[l]? = some (.loop L)) : (Instr.getLoop l).run P w = .ok L w := by
  simp [Instr.getLoop, getObj, Sem.run, h]

theorem enter_sound {ρ : Ren} {μ : Mem} {w : World} {A : Regs} {a : Act} {ro R0 : Option Nat} {s : Nat} (hc : Ctx ρ μ w A a ro R0 s) (hro : roOk μ ro = true)
    (fn : FuncId) (ps : Array Tmp) (assign body : Code) : ∃ l mark w₁, (Instr.enterLoop fn a.tmps ps assign body R0).run P w = .ok (l, mark) w₁ ∧
      Adv ρ μ w (ρ ++ [⟨l, 0, 0, 0⟩]) (μ.push (.loop .ready none A ps assign body)) w₁ ∧ Marks s w₁ (mark ++ a.defers) := by
  rcases hc.ro with ⟨rfl, rfl⟩ | ⟨l0, p, rfl, hp, rfl⟩
  · let w0 := w.alloc (.deferred (some []))
    let L : Loop := { state := .ready, pending := none, fn, tmps := a.tmps, params := ps, assign, body, defers := w.heap.size }
    have ha0 := Adv.extra hc.m (.deferred (some []))
    have hn := Newer.alloc w0 (.loop L)
    have ha1 : Adv ρ μ w0 (ρ ++ [⟨w0.heap.size, 0, 0, 0⟩]) (μ.push (.loop .ready none A ps assign body)) (w0.alloc (.loop L)) :=
      Adv.new _ _ rfl ha0.rel hn ⟨rfl, L, hn.new, rfl, rfl, hc.r.mono fun b p hb => get_push_lt hb, rfl, rfl, rfl⟩
    refine ⟨w0.heap.size, [markOf w.heap.size], w0.alloc (.loop L), ?_, ha0.trans hc.m ha1, ?_⟩
    · simp [Instr.enterLoop, newObj]
      rfl
    · have hmk := hc.mks.adv hc.m (ha0.trans hc.m ha1)
      obtain ⟨rs, h1, h2, h3⟩ := hmk
      obtain ⟨rs', h1', h2', h3'⟩ := hc.mks
      have hrs : rs' = rs := by
        have : rs'.map markOf = rs.map markOf := h1'.symm.trans h1
        have hinj : ∀ (l m : List Nat), l.map markOf = m.map markOf → l = m := by
          intro l
          induction l with
          | nil => intro m h; cases m with | nil => rfl | cons y m => simp at h
          | cons x l ih =>
            intro m h
            cases m with
            | nil => simp at h
            | cons y m =>
              simp only [List.map_cons, List.cons.injEq] at h
              have hxy : x = y := by have := h.1; simp only [markOf] at this; injection this with this; injection this
              rw [hxy, ih m h.2]
        exact hinj _ _ this
      subst hrs
      refine ⟨w.heap.size :: rs', by simp [h1], List.nodup_cons.2 ⟨fun hmem => ?_, h2⟩, fun r hr => ?_⟩
      · have := (h3' _ hmem).2
        rw [Array.getElem?_eq_none (Nat.le_refl _)] at this
        cases this
      · rcases List.mem_cons.1 hr with rfl | hr
        · refine ⟨hc.sz, ?_⟩
          rw [heap_alloc_lt w0 _ (by simp [w0])]
          exact heap_alloc_new w _
        · exact h3 r hr
  · have hL : ∃ L : Loop, w.heap[p.1]? = some (.loop L) := by
      unfold roOk at hro
      simp only at hro
      split at hro
      · rename_i st pend tm pp as bd hb
        obtain ⟨_, L, hh, _⟩ := hc.m.obj l0 _ _ hb hp
        exact ⟨L, hh⟩
      · cases hro
    obtain ⟨L0, hL0⟩ := hL
    let L : Loop := { state := .ready, pending := none, fn, tmps := a.tmps, params := ps, assign, body, defers := L0.defers }
    have hn := Newer.alloc w (.loop L)
    have ha1 : Adv ρ μ w (ρ ++ [⟨w.heap.size, 0, 0, 0⟩]) (μ.push (.loop .ready none A ps assign body)) (w.alloc (.loop L)) :=
      Adv.new _ _ rfl hc.m hn ⟨rfl, L, hn.new, rfl, rfl, hc.r.mono fun b p hb => get_push_lt hb, rfl, rfl, rfl⟩
    refine ⟨w.heap.size, [], w.alloc (.loop L), ?_, ha1, hc.mks.adv hc.m ha1⟩
    simp [Instr.enterLoop, newObj, getLoop_run hL0]
    rfl

theorem lt_of_heap {w : World} {r : Nat} {o : Obj} (h : w.heap[r]? = some o) : r < w.heap.size := by
  rcases Nat.lt_or_ge r w.heap.size with h' | h'
  · exact h'
  · rw [Array.getElem?_eq_none h'] at h; cases h

theorem putObj_turn (w : World) (l : Nat) (o : Obj) : Turn l w (w.putObj l o) :=
  ⟨by simp [World.putObj], fun k hk => World.putObj_heap_other hk, rfl, rfl, rfl⟩
theorem putObj_at {w : World} {l : Nat} {x : Obj} (h : w.heap[l]? = some x) (o : Obj) : (w.putObj l o).heap[l]? = some o := by
  have := lt_of_heap h
  simp [World.putObj, this]

/-- A loop's record turns, its registers as they were. -/
theorem loop_turn {ρ : Ren} {μ : Mem} {w : World} (hm : MRel ρ μ.blks w) {l : Nat} {st st' : LoopState} {pend pend' : Option Code} {tm : Regs} {ps : Array Tmp} {assign body : Code} {p : Pl}
    (hb : μ.get l = some (.loop st pend tm ps assign body)) (hp : ρ[l]? = some p) :
    ∃ L : Loop, w.heap[p.1]? = some (.loop L) ∧ L.state = st ∧ L.pending = pend ∧ RRel ρ tm L.tmps ∧ L.params = ps ∧ L.assign = assign ∧ L.body = body ∧
      Adv ρ μ w ρ (μ.set l (.loop st' pend' tm ps assign body)) (w.putObj p.1 (.loop { L with state := st', pending := pend' })) := by
  obtain ⟨h0, L, hh, h1, h2, h3, h4, h5, h6⟩ := hm.obj l _ _ hb hp
  refine ⟨L, hh, h1, h2, h3, h4, h5, h6, ?_⟩
  have := Adv.turn (low := μ.low) (x := .loop st' pend' tm ps assign body) hm hb rfl hp (putObj_turn w p.1 (.loop { L with state := st', pending := pend' }))
    ⟨h0, _, putObj_at hh _, rfl, rfl, h3, h4, h5, h6⟩ (Nat.le_refl _) (fun s _ _ ho => ?_)
  · exact this
  · obtain ⟨k0, L', k1, k2, k3, k4, k5⟩ := ho
    rw [hh] at k1
    injection k1 with k1
    injection k1 with k1
    subst k1
    exact ⟨k0, _, putObj_at hh _, rfl, rfl, k4, h4, h5, h6⟩

theorem jump_sound {pend : Option Code} {A : Regs} {μ : Mem} {e : AExit} {A' : Regs} {μ' : Mem} (h : jumpOut pend A μ = some (e, A', μ')) {F : Fence} {n : Nat} {Q : Exit → Act → World → Prop} {a : Act} {w : World}
    (hq : Q (exitOf e) a w) : (pend = none → Q .normal a w) ∧ ∀ c, pend = some c → c.wpIn F n P Q a w := by
  unfold jumpOut at h
  split at h <;> first
    | (injection h with h
       injection h with h1 h
       subst h1
       refine ⟨fun hn => ?_, fun c hc => ?_⟩
       · first | exact hq | cases hn
       · first
         | (cases hc; done)
         | (injection hc with hc; subst hc; first | exact wpIn_ret hq | exact wpIn_exit hq | exact wpIn_goto hq))
    | cases h

theorem range_sound (hN : NoNum P) (hF : SFn P ih) {ro : Option Nat} {g : Operand} {ps : Array Tmp} {assign body : Code} {A : Regs} {μ : Mem} {e : AExit} {A' : Regs} {μ' : Mem}
    (h : rangeStep ih ro g ps assign body A μ = some (e, A', μ')) {n : Nat} {ρ : Ren} {w : World} {a : Act} {R0 : Option Nat} {s : Nat} {Q : Exit → Act → World → Prop}
    (hc : Ctx ρ μ w A a ro R0 s) (hf : Fin ρ μ w s e A' μ' Q) : (Code.rangeFunc g ps assign body).wpIn (FW R0) n P Q a w := by
  unfold rangeStep at h
  split at h
  case h_2 => cases h
  case h_1 f first captured hg =>
    cases hro : roOk μ ro with
    | false => rw [hro] at h; cases h
    | true =>
      rw [hro, cond_true] at h
      split at h
      case h_2 => cases h
      case h_1 e1 B μ2 hcall0 =>
        refine wpIn_rangeFunc fun fn _ => ?_
        obtain ⟨l, mark, w₁, hen, ha1, hmk⟩ := enter_sound (P := P) hc hro fn ps assign body
        have hgv := hc.r.eval g
        rw [hg] at hgv
        obtain ⟨x', y', ev', h1, h2⟩ := func_rel hgv
        obtain ⟨hbody, hcall⟩ := hF _ _ _ _ _ _ _ hcall0
        have hnew : (ρ ++ [⟨l, 0, 0, 0⟩])[μ.size]? = some (⟨l, 0, 0, 0⟩ : Pl) := by rw [Mem.size, ← hc.m.len]; simp
        refine ⟨l, mark, w₁, { target := .fn (.func f) y', args := x' ++ #[.func (.yield l) #[] #[]] }, w₁, f, x' ++ #[.func (.yield l) #[] #[]] ++ y', w₁, hen, ?_, fun _ _ => trivial, ?_, FW_depth R0, ?_⟩
        · simp only [resolve, rangeCall, ev', Deferred.ofValue]
          simp [Act.eval]
        · simp [invoke, callFunc_run hN hbody]
        · refine callsIn_FW (CallsIn.mono (hcall (n - 1) _ w₁ _ ha1.rel ?_) fun e' w₃ he => ?_)
          · have hy : VRel (ρ ++ [⟨l, 0, 0, 0⟩]) (.func (.yield μ.size) #[] #[]) (.func (.yield l) #[] #[]) := VRel.yield hnew
            have := ((h1.mono ha1.pre).append (LRel.cons hy (LRel.nil _))).append (h2.mono ha1.pre)
            simpa using this
          · cases e' with
            | panicked ch => exact he.elim
            | outgrown => exact he.elim
            | returned v' =>
              obtain ⟨ρ', _, ha2⟩ := he
              unfold endRange at h
              split at h
              case h_2 => cases h
              case h_1 st pend tm pp as bd hl =>
                split at h
                · cases h
                · rename_i hst
                  have hp' := ha2.pre _ _ hnew
                  obtain ⟨L, k1, k2, k3, _, _, _, _, ha3⟩ := loop_turn (st' := .exhausted) (pend' := pend) ha2.rel hl hp'
                  have hA := (ha1.trans hc.m ha2).trans hc.m ha3
                  have hend : (Instr.endLoop l).run P w₃ = .ok pend (w₃.putObj l (.loop { L with state := .exhausted, pending := pend })) := by
                    have hb : (L.state == LoopState.busy) = false := by
                      rw [k2]
                      cases st <;> first | rfl | exact absurd rfl hst
                    have hset : (setObj l (.loop { L with state := .exhausted })).run P w₃ = .ok () (w₃.putObj l (.loop { L with state := .exhausted })) := run_setObj_loop _ k1
                    simp only [Instr.endLoop, Sem.run_bind, getLoop_run k1, Result.andThen_ok, hb, hset, k3]
                    subst k3
                    simp [hset]
                  refine ⟨pend, _, hend, ?_⟩
                  have hj := fun hq => jump_sound (P := P) h (F := FW R0) (n := n) (Q := Q) (a := { a with defers := mark ++ a.defers }) (w := w₃.putObj l (.loop { L with state := .exhausted, pending := pend })) hq
                  have heq : A' = A ∧ μ' = μ2.set μ.size (.loop .exhausted pend tm pp as bd) := by
                    unfold jumpOut at h
                    split at h <;> first
                      | (injection h with h
                         injection h with h1 h
                         injection h with h2 h3
                         exact ⟨h2.symm, h3.symm⟩)
                      | cases h
                  obtain ⟨rfl, rfl⟩ := heq
                  have hj2 := hj (hf ρ' _ _ hA (hc.r.mono hA.pre) ((hmk.adv ha1.rel ha2).adv ha2.rel ha3))
                  cases pend with
                  | none => exact hj2.1 rfl
                  | some c => exact hj2.2 c rfl

/-! ### Rounds -/
theorem params_rel {ρ : Ren} : ∀ (xs : List Tmp) (vs vs' : List Value) (A : Regs) (C : Array Value), LRel ρ vs vs' → RRel ρ A C →
    RRel ρ (paramsA (xs.zip vs) A) ((xs.zip vs').foldl (fun tmps (x : Tmp × Value) => tmps.setIfInBounds x.1 x.2) C) := by
  intro xs
  induction xs with
  | nil => intro vs vs' A C _ h; simpa [paramsA] using h
  | cons x xs IH =>
    intro vs vs' A C hv h
    cases vs with
    | nil =>
      have := hv.of_nil
      subst this
      simpa [paramsA] using h
    | cons v vs =>
      obtain ⟨u', y', rfl, h1, h2⟩ := hv.of_cons
      simp only [List.zip_cons_cons, paramsA, List.foldl_cons]
      exact IH _ _ _ _ h2 (h.set x h1)

theorem yield_sound (hC : SCode P ih) {l : Nat} {args : List Value} {μ : Mem} {e : AExit} {B : Regs} {μ' : Mem} (h : yieldStep ih l args μ = some (e, B, μ')) (n : Nat) (R0 : Option Nat) (ρ : Ren) (w : World)
    (args' : Array Value) (p : Pl) (hm : MRel ρ μ.blks w) (ha : LRel ρ args args'.toList) (hp : ρ[l]? = some p) :
    ∃ g tmps assign body, (Instr.yield p.1 args').run P w = .ok (.round p.1 g tmps assign body) w ∧ RoundIn (FW R0) n P p.1 g tmps assign body w (EndsV ρ μ w μ' (getR B 0)) := by
  unfold yieldStep at h
  split at h
  case h_2 => cases h
  case h_1 st pend tm ps assign body hl =>
    split at h
    case isFalse => cases h
    case isTrue hlen =>
      obtain ⟨_, L, hh, h1, h2, h3, h4, h5, h6⟩ := hm.obj l _ _ hl hp
      split at h
      case h_2 => cases h
      case h_1 A1 μ1 hass =>
        have hsz : args'.size = L.params.size := by rw [h4, ← hlen, ha.1]; simp
        refine ⟨L.fn, (L.params.zip args').foldl (fun tmps (t, a) => tmps.setIfInBounds t a) L.tmps, L.assign, L.body, ?_, ?_⟩
        · simp [Instr.yield, getLoop_run hh, hsz]
        · have htm : RRel ρ (paramsA (ps.toList.zip args) tm) ((L.params.zip args').foldl (fun tmps (t, a) => tmps.setIfInBounds t a) L.tmps) := by
            have := params_rel ps.toList args args'.toList tm L.tmps ha h3
            rw [← Array.foldl_toList, Array.toList_zip, h4]
            exact this
          refine roundIn_of_wpIn (F := FW R0) trivial ?_
          have hc : Ctx ρ μ w (paramsA (ps.toList.zip args) tm) { tmps := (L.params.zip args').foldl (fun tmps (t, a) => tmps.setIfInBounds t a) L.tmps, defers := [] } (some l) (some p.1) 0 :=
            ⟨hm, htm, .inr ⟨l, p, rfl, hp, rfl⟩, Marks.nil 0 w, Nat.zero_le _⟩
          rw [h5, h6]
          refine hC _ _ _ _ _ _ _ hass n ρ w _ (some p.1) 0 _ hc fun ρ1 w1 a1 ha1 hr1 hk1 => ?_
          unfold bodyYield at h
          split at h
          case h_2 => cases h
          case h_1 pend1 tm1 ps1 assign1 body1 hl1 =>
            split at h
            case h_2 => cases h
            case h_1 e2 B2 μ2 hbody =>
              have hp1 := ha1.pre _ _ hp
              obtain ⟨L1, k1, k2, k3, _, _, _, _, ha2⟩ := loop_turn (st' := .busy) (pend' := pend1) ha1.rel hl1 hp1
              have hset : ∀ o : Obj, (setObj p.1 o).run P w1 = .ok () (w1.putObj p.1 o) := fun o => run_setObj_loop o k1
              refine ⟨w1.putObj p.1 (.loop { L1 with state := .busy, pending := pend1 }), ?_, ?_⟩
              · subst k3
                simp only [Instr.beginRound, Sem.run_bind, getLoop_run k1, Result.andThen_ok, hset, k2, Sem.run_pure]
              · have hc1 := hc.next ha1 hr1 hk1
                have hc2 : Ctx ρ1 _ _ A1 a1 (some l) (some p.1) 0 := hc1.next ha2 hr1 (hk1.adv ha1.rel ha2)
                refine hC _ _ _ _ _ _ _ hbody n ρ1 _ a1 (some p.1) 0 _ hc2 fun ρ3 w3 a3 ha3 hr3 hk3 => ?_
                unfold endYield at h
                split at h
                case h_2 => cases h
                case h_1 st3 pend3 tm3 ps3 assign3 body3 hl3 =>
                  injection h with h
                  injection h with q1 h
                  injection h with q2 q3
                  subst q1 q2 q3
                  have hp3 := ha3.pre _ _ hp1
                  obtain ⟨L3, m1, m2, m3, _, _, _, _, ha4⟩ := loop_turn (st' := if (jumpOf e2).isNone then .ready else .done) (pend' := jumpOf e2) ha3.rel hl3 hp3
                  have hset3 : ∀ o : Obj, (setObj p.1 o).run P w3 = .ok () (w3.putObj p.1 o) := fun o => run_setObj_loop o m1
                  have hend : (Instr.endRound p.1 (jumpOf e2)).run P w3 = .ok (.bool (jumpOf e2).isNone) (w3.putObj p.1 (.loop { L3 with state := if (jumpOf e2).isNone then .ready else .done, pending := jumpOf e2 })) := by
                    simp only [Instr.endRound, Sem.run_bind, getLoop_run m1, Result.andThen_ok, hset3, Sem.run_pure]
                  have hadv : Adv ρ μ w ρ3 _ _ := (((ha1.trans hm ha2).trans hm ha3).trans hm ha4)
                  have hR : EndsV ρ μ w (μ2.set l (.loop (if (jumpOf e2).isNone then .ready else .done) (jumpOf e2) tm3 ps3 assign3 body3)) (getR (one (.bool (jumpOf e2).isNone)) 0) (.returned (.bool (jumpOf e2).isNone)) (w3.putObj p.1 (.loop { L3 with state := if (jumpOf e2).isNone then .ready else .done, pending := jumpOf e2 })) :=
                    ⟨ρ3, .lit rfl, hadv⟩
                  cases e2 <;> exact ⟨_, _, hend, hR⟩

end
end Go.Vm
