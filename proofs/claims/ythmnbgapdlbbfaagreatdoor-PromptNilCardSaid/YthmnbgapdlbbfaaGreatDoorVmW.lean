/- Rules of a run: what a run without fuel comes to; registers as a function. -/
import Derived.Test.YthmnbgapdlbbfaaGreatDoorVmFix
import Derived.Attr
set_option linter.unusedSimpArgs false
set_option linter.unusedVariables false
namespace Go.Vm

abbrev RF := Nat → Value
def upd (R : RF) (d : Nat) (v : Value) : RF := fun i => bif Nat.beq i d then v else R i
structure AR (nt : Nat) (A : Regs) (R : RF) : Prop where
  eqn : A.nt = nt
  small : nt ≤ 4000
  val : ∀ i, getR A i = R i
def evR (R : RF) : Operand → Value
  | .tmp t => R t
  | .const v => if plain v then v else top
  | .global _ => top
  | .func f => .func (.func f) #[] #[]
def putF (nt : Nat) (R : RF) (d : Option Tmp) (v : Value) : RF :=
  match d with
  | some d => bif Nat.blt d nt then upd R d v else R
  | none => R

theorem AR.ev {nt : Nat} {A : Regs} {R : RF} (h : AR nt A R) : evA A = evR R := by
  funext x
  cases x with
  | tmp t => exact h.val t
  | const v => rfl
  | global g => rfl
  | func f => rfl
theorem AR.put {nt : Nat} {A : Regs} {R : RF} (h : AR nt A R) (d : Option Tmp) (v : Value) : AR nt (putR A d v) (putF nt R d v) := by
  cases d with
  | none => exact h
  | some d =>
    refine ⟨by rw [nt_putR]; exact h.eqn, h.small, fun i => ?_⟩
    show getR (setR A d v) i = _
    rw [getR_setR (by rw [h.eqn]; exact h.small), h.eqn]
    unfold putF
    by_cases hd : d < nt
    · simp only [bltT hd, cond_true]
      unfold upd
      by_cases hi : i = d
      · subst hi
        rw [if_pos ⟨rfl, hd⟩, show Nat.beq i i = true by simp]
        rfl
      · rw [if_neg (fun k => hi k.1), beqF hi]
        exact h.val i
    · simp only [bltF hd, cond_false]
      rw [if_neg (fun k => hd k.2)]
      exact h.val i

section
variable (P : Program)

def partsE (E : Operand → Value) (parts : Array (Nat × Operand)) : List (Nat × Value) := parts.toList.map fun (i, x) => (i, E x)
def callE (E : Operand → Value) (μ : Mem) (c : Call) : Option (Value × Mem) :=
  match c.callee with
  | .builtin b => builtinA P μ b c.argTypes (c.args.toList.map E)
  | _ => none
def opE (E : Operand → Value) (μ : Mem) (o : Op) : Option (Value × Mem) :=
  match o with
  | .move x => some (E x, μ)
  | .assign x => some (E x, μ)
  | .pick c a b => pairM μ (pickA (E c) (E a) (E b))
  | .alloc t => allocA P μ t
  | .box _ x => boxA μ (E x)
  | .build t parts => pairM μ (buildA P t (partsE E parts))
  | .buildSlice t len parts => buildSliceA P μ t len (partsE E parts)
  | .load t a => pairM μ (loadA P μ t (E a))
  | .store t a x => unitM (storeOp P μ t (E a) (E x))
  | .nilCheck x => pairM μ (nilCheckA (E x))
  | .binOp op t x y _ => pairM μ (binA P op t (E x) (E y))
  | .unOp op _ x => pairM μ (unA P op (E x))
  | .convert s d x => convertA P μ s d (E x)
  | .makeInterface t x => pairM μ (ifaceA P t (E x))
  | .makeFunc fn first captured => pairM μ (funcA fn (first.map E) (captured.map E))
  | .makeMap _ r => if r.isSome then none else mapA μ
  | .makeSlice t l c => makeSliceA P μ t (E l) (E c)
  | .slice t x lo hi mx => pairM μ (sliceA P μ t (E x) (lo.map E) (hi.map E) (mx.map E))
  | .fieldAddr s x f => pairM μ (fieldAddrA P s (E x) f)
  | .field t x f => pairM μ (fieldA P t (E x) f)
  | .indexAddr t x i => pairM μ (indexAddrA P t (E x) (E i))
  | .index t x i => pairM μ (indexA P t (E x) (E i))
  | .lookup t x k ok => pairM μ (lookupA P μ t (E x) (E k) ok)
  | .mapUpdate t m k x => unitM (mapUpdateA P μ t (E m) (E k) (E x))
  | .insert t m k x => unitM (mapUpdateA P μ t (E m) (E k) (E x))
  | .range t x => rangeA P μ t (E x)
  | .next it isString => nextA μ (E it) isString
  | .extract t i => pairM μ (extractA (E t) i)
  | .call c => callE P E μ c
  | _ => none
theorem opA_E (A : Regs) (μ : Mem) (o : Op) : opA P A μ o = opE P (evA A) μ o := by cases o <;> rfl

def resultsF (fn : Func) (R : RF) (μ : Mem) : Option Value :=
  match fn.results.toList.mapM (fun r => match r with
    | .tmp t => some (R t)
    | .cell a t => loadA P μ t (R a)) with
  | some [v] => some v
  | some vs => some (.tuple vs.toArray)
  | none => none

def yieldedF (ops : List Oper) (R : RF) (j : Nat) : Option Bool :=
  match (ops[j]?).bind (·.dst) with
  | some d => match R d with | .bool b => some b | _ => none
  | none => none
def guardOkF (ops : List Oper) (R : RF) (o : Oper) : Bool :=
  match o.guard with
  | none => true
  | some (j, _) => match (ops[j]?).bind (·.dst) with | some d => known (R d) | none => true

theorem AR.yielded {nt : Nat} {A : Regs} {R : RF} (h : AR nt A R) (ops : List Oper) : yieldedA ops A = yieldedF ops R := by
  funext j
  unfold yieldedA yieldedF
  cases (ops[j]?).bind (·.dst) with
  | none => rfl
  | some d => simp only [h.val d]; cases R d <;> rfl
theorem AR.guardOk {nt : Nat} {A : Regs} {R : RF} (h : AR nt A R) (ops : List Oper) (o : Oper) : guardOk ops A o = guardOkF ops R o := by
  unfold Vm.guardOk guardOkF
  cases o.guard with
  | none => rfl
  | some g =>
    obtain ⟨j, b⟩ := g
    cases hd : (ops[j]?).bind (·.dst) with
    | none => simp only [hd]
    | some d => simp only [hd, h.val d]

variable (orc : Oracle)

/-- A call answers v, with that memory. -/
def Ret (g : FuncId) (args : List Value) (μ : Mem) (v : Value) (μ' : Mem) : Prop := evw P orc none (.fn g args) μ = some (.normal, one v, μ')
def RetY (l : Nat) (args : List Value) (μ : Mem) (v : Value) (μ' : Mem) : Prop := evw P orc none (.yield l args) μ = some (.normal, one v, μ')
def WFn (g : FuncId) (args : List Value) (μ : Mem) (K : Value → Mem → Prop) : Prop := ∃ v μ', Ret P orc g args μ v μ' ∧ K v μ'
def WYield (l : Nat) (args : List Value) (μ : Mem) (K : Value → Mem → Prop) : Prop := ∃ v μ', RetY P orc l args μ v μ' ∧ K v μ'
def WCall (f : Value) (args : List Value) (μ : Mem) (K : Value → Mem → Prop) : Prop :=
  match f with
  | .func (.func g) first captured => WFn P orc g (first.toList ++ args ++ captured.toList) μ K
  | .func (.yield l) first _ => WYield P orc l (first.toList ++ args) μ K
  | _ => False
def thenM (x : Option (Value × Mem)) (K : Value → Mem → Prop) : Prop :=
  match x with
  | some (v, μ) => K v μ
  | none => False
def WOp (o : Op) (R : RF) (μ : Mem) (K : Value → Mem → Prop) : Prop :=
  match calleeOf o with
  | some (f, args) => WCall P orc (evR R f) (args.toList.map (evR R)) μ K
  | none => thenM (opE P (evR R) μ o) K
def WOps (nt : Nat) (ops : List Oper) : List Oper → RF → Mem → (RF → Mem → Prop) → Prop
  | [], R, μ, K => K R μ
  | o :: rest, R, μ, K =>
    bif !guardOkF ops R o then False else
    bif Region.wanted o (yieldedF ops R) then WOp P orc o.op R μ fun v μ' => WOps nt ops rest (putF nt R o.dst v) μ' K
    else WOps nt ops rest (putF nt R o.dst undef) μ K
def addLdF (i : Nat) (o : Oper) (R : RF) (v : Value) (lds : List Loaded) : List Loaded :=
  match o.op with
  | .load t x => (i, t, evR R x, v) :: lds
  | _ => lds
def WDraw (nt : Nat) (ops : List Oper) : List (Nat × List Nat) → List Loaded → RF → Mem → (RF → Mem → Prop) → Prop
  | [], _, R, μ, K => K R μ
  | (i, ms) :: rest, lds, R, μ, K =>
    match ops[i]? with
    | none => False
    | some o =>
      bif !guardOkF ops R o then False else
      bif Region.wanted o (yieldedF ops R) then
        WOp P orc o.op R μ fun v μ' => keepsA P μ' lds ms = true ∧ WDraw nt ops rest (addLdF i o R v lds) (putF nt R o.dst v) μ' K
      else WDraw nt ops rest lds (putF nt R o.dst undef) μ K

abbrev Post := AExit → RF → Mem → Prop
def Okk (nt : Nat) (x : Option Out) (Q : Post) : Prop := ∃ e A R μ, x = some (e, A, μ) ∧ AR nt A R ∧ Q e R μ
def seqK (K : RF → Mem → Prop) (Q : Post) : Post
  | .normal, R, μ => K R μ
  | e, R, μ => Q e R μ
def blkK (id : Nat) (Q : Post) : Post
  | .exit id', R, μ => Q (if id' = id then .normal else .exit id') R μ
  | e, R, μ => Q e R μ
def condP (v : Value) (X Y : Prop) : Prop :=
  match v with
  | .bool t => bif t then X else Y
  | _ => False
/-- A scope that goes on at some place of it. -/
def Sc (ro : Option Nat) (nt : Nat) (whole cur : Code) (R : RF) (μ : Mem) (Q : Post) : Prop := ∀ A, AR nt A R → Okk nt (evw P orc ro (.scope whole cur A) μ) Q
def scK (ro : Option Nat) (nt : Nat) (whole : Code) (Q : Post) : Post
  | .goto l, R, μ => match findLabel whole l with | some rest => Sc P orc ro nt whole rest R μ Q | none => Q (.goto l) R μ
  | e, R, μ => Q e R μ
def WLoop (ro : Option Nat) (nt : Nat) (body : Code) (R : RF) (μ : Mem) (Q : Post) : Prop := ∀ A, AR nt A R → Okk nt (evw P orc ro (.code (.loop body) A) μ) Q
def WRange (ro : Option Nat) (nt : Nat) (g : Operand) (ps : Array Tmp) (assign body : Code) (R : RF) (μ : Mem) (Q : Post) : Prop :=
  ∀ A, AR nt A R → Okk nt (evw P orc ro (.code (.rangeFunc g ps assign body) A) μ) Q
def WRegion (nt : Nat) (ops : List Oper) (draw : Bool) (R : RF) (μ : Mem) (K : RF → Mem → Prop) : Prop :=
  bif draw then
    match planOf P ops with
    | some pl => WDraw P orc nt ops pl [] R μ K
    | none => False
  else WOps P orc nt ops ops R μ K
def W (ro : Option Nat) (nt : Nat) : Code → RF → Mem → Post → Prop
  | .skip, R, μ, Q => Q .normal R μ
  | .label _, R, μ, Q => Q .normal R μ
  | .region _ ops draw, R, μ, Q => WRegion P orc nt ops.toList draw R μ (Q .normal)
  | .seq x y, R, μ, Q => W ro nt x R μ (seqK (fun R' μ' => W ro nt y R' μ' Q) Q)
  | .cond c x y, R, μ, Q => condP (evR R c) (W ro nt x R μ Q) (W ro nt y R μ Q)
  | .block id body, R, μ, Q => W ro nt body R μ (blkK id Q)
  | .loop body, R, μ, Q => WLoop P orc ro nt body R μ Q
  | .rangeFunc g ps assign body, R, μ, Q => WRange P orc ro nt g ps assign body R μ Q
  | .exit id, R, μ, Q => Q (.exit id) R μ
  | .scope body, R, μ, Q => Sc P orc ro nt body body R μ Q
  | .goto l, R, μ, Q => Q (.goto l) R μ
  | .ret, R, μ, Q => Q .ret R μ
  | .refuse _, _, _, _ => False
end

section
variable {P : Program} {orc : Oracle} {nt : Nat}

theorem Okk.mono {x : Option Out} {Q Q' : Post} (h : Okk nt x Q) (hQ : ∀ e R μ, Q e R μ → Q' e R μ) : Okk nt x Q' := by
  obtain ⟨e, A, R, μ, h1, h2, h3⟩ := h
  exact ⟨e, A, R, μ, h1, h2, hQ _ _ _ h3⟩

theorem evw_fn_ro (ro : Option Nat) (g : FuncId) (args : List Value) (μ : Mem) : evw P orc ro (.fn g args) μ = evw P orc none (.fn g args) μ := by
  rw [evw_eq, evw_eq orc none]
  rfl
theorem evw_yield_ro (ro : Option Nat) (l : Nat) (args : List Value) (μ : Mem) : evw P orc ro (.yield l args) μ = evw P orc none (.yield l args) μ := by
  rw [evw_eq, evw_eq orc none]
  rfl

theorem getR_one (v : Value) : getR (one v) 0 = v := rfl

theorem oper_ok {ro : Option Nat} {o : Oper} {A : Regs} {R : RF} {μ : Mem} {K : Value → Mem → Prop} (hA : AR nt A R) (h : WOp P orc o.op R μ K) :
    ∃ B μ', operStep P (evw P orc) ro o A μ = some (.normal, B, μ') ∧ K (getR B 0) μ' := by
  unfold operStep
  unfold WOp at h
  cases hc : calleeOf o.op with
  | none =>
    rw [hc] at h
    simp only at h ⊢
    rw [opA_E, hA.ev]
    unfold thenM at h
    cases hx : opE P (evR R) μ o.op with
    | none => rw [hx] at h; exact h.elim
    | some r =>
      obtain ⟨v, μ'⟩ := r
      rw [hx] at h
      exact ⟨one v, μ', rfl, h⟩
  | some fa =>
    obtain ⟨f, args⟩ := fa
    rw [hc] at h
    simp only at h ⊢
    rw [hA.ev]
    unfold WCall at h
    unfold goCall
    split at h
    · rename_i g first captured hv
      simp only [hv]
      obtain ⟨v, μ', h1, h2⟩ := h
      rw [evw_fn_ro, h1]
      exact ⟨one v, μ', rfl, h2⟩
    · rename_i l first captured hv
      simp only [hv]
      obtain ⟨v, μ', h1, h2⟩ := h
      rw [evw_yield_ro, h1]
      exact ⟨one v, μ', rfl, h2⟩
    · exact h.elim

theorem ops_ok {ro : Option Nat} {ops : List Oper} : ∀ {l : List Oper} {A : Regs} {R : RF} {μ : Mem} {K : RF → Mem → Prop}, AR nt A R → WOps P orc nt ops l R μ K →
    ∃ A' R' μ', opsRun P (evw P orc) ro ops l A μ = some (.normal, A', μ') ∧ AR nt A' R' ∧ K R' μ' := by
  intro l
  induction l with
  | nil => intro A R μ K hA h; exact ⟨A, R, μ, rfl, hA, h⟩
  | cons o rest ih =>
    intro A R μ K hA h
    unfold opsRun
    unfold WOps at h
    rw [hA.guardOk, hA.yielded]
    cases hg : !guardOkF ops R o with
    | true => rw [hg] at h; exact h.elim
    | false =>
      rw [hg] at h
      simp only [cond_false] at h ⊢
      cases hw : Region.wanted o (yieldedF ops R) with
      | false =>
        rw [hw] at h
        simp only [cond_false] at h ⊢
        exact ih (hA.put _ _) h
      | true =>
        rw [hw] at h
        simp only [cond_true] at h ⊢
        obtain ⟨B, μ', h1, h2⟩ := oper_ok (ro := ro) hA h
        rw [h1]
        exact ih (hA.put _ _) h2

theorem addLd_F {A : Regs} {R : RF} (hA : AR nt A R) (i : Nat) (o : Oper) (v : Value) (lds : List Loaded) : addLd i o A v lds = addLdF i o R v lds := by
  unfold addLd addLdF
  rw [hA.ev]
  cases o.op <;> rfl

theorem draw_ok' {ro : Option Nat} {ops : List Oper} : ∀ {pl : List (Nat × List Nat)} {lds : List Loaded} {A : Regs} {R : RF} {μ : Mem} {K : RF → Mem → Prop}, AR nt A R → WDraw P orc nt ops pl lds R μ K →
    ∃ A' R' μ', drawRun P (evw P orc) ro ops pl lds A μ = some (.normal, A', μ') ∧ AR nt A' R' ∧ K R' μ' := by
  intro pl
  induction pl with
  | nil => intro lds A R μ K hA h; exact ⟨A, R, μ, rfl, hA, h⟩
  | cons p rest ih =>
    obtain ⟨i, ms⟩ := p
    intro lds A R μ K hA h
    unfold drawRun
    unfold WDraw at h
    cases ho : ops[i]? with
    | none => rw [ho] at h; exact h.elim
    | some o =>
      rw [ho] at h
      simp only at h ⊢
      rw [hA.guardOk, hA.yielded]
      cases hg : !guardOkF ops R o with
      | true => rw [hg] at h; exact h.elim
      | false =>
        rw [hg] at h
        simp only [cond_false] at h ⊢
        cases hw : Region.wanted o (yieldedF ops R) with
        | false =>
          rw [hw] at h
          simp only [cond_false] at h ⊢
          exact ih (hA.put _ _) h
        | true =>
          rw [hw] at h
          simp only [cond_true] at h ⊢
          obtain ⟨B, μ', h1, h2, h3⟩ := oper_ok (ro := ro) hA h
          rw [h1]
          simp only [h2, cond_true, addLd_F hA]
          exact ih (hA.put _ _) h3

theorem W_ok {ro : Option Nat} : ∀ {c : Code} {R : RF} {μ : Mem} {Q : Post}, W P orc ro nt c R μ Q → ∀ A, AR nt A R → Okk nt (evw P orc ro (.code c A) μ) Q := by
  intro c
  induction c with
  | skip => intro R μ Q h A hA; rw [evw_eq]; exact ⟨.normal, A, R, μ, rfl, hA, h⟩
  | label l => intro R μ Q h A hA; rw [evw_eq]; exact ⟨.normal, A, R, μ, rfl, hA, h⟩
  | exit id => intro R μ Q h A hA; rw [evw_eq]; exact ⟨.exit id, A, R, μ, rfl, hA, h⟩
  | goto l => intro R μ Q h A hA; rw [evw_eq]; exact ⟨.goto l, A, R, μ, rfl, hA, h⟩
  | ret => intro R μ Q h A hA; rw [evw_eq]; exact ⟨.ret, A, R, μ, rfl, hA, h⟩
  | refuse w => intro R μ Q h; exact h.elim
  | region id ops draw =>
    intro R μ Q h A hA
    rw [evw_eq]
    show Okk nt (regionStep P (evw P orc) ro ops.toList draw A μ) Q
    change WRegion P orc nt ops.toList draw R μ (Q .normal) at h
    unfold WRegion at h
    unfold regionStep
    cases draw with
    | false =>
      simp only [cond_false] at h ⊢
      obtain ⟨A', R', μ', h1, h2, h3⟩ := ops_ok (ro := ro) hA h
      exact ⟨_, A', R', μ', h1, h2, h3⟩
    | true =>
      simp only [cond_true] at h ⊢
      cases hp : planOf P ops.toList with
      | none => rw [hp] at h; exact h.elim
      | some pl =>
        rw [hp] at h
        obtain ⟨A', R', μ', h1, h2, h3⟩ := draw_ok' (ro := ro) hA h
        exact ⟨_, A', R', μ', h1, h2, h3⟩
  | seq x y hx hy =>
    intro R μ Q h A hA
    rw [evw_eq]
    show Okk nt (seqStep (evw P orc) ro x y A μ) Q
    obtain ⟨e, A1, R1, μ1, h1, h2, h3⟩ := hx h A hA
    unfold seqStep
    rw [h1]
    cases e with
    | normal => exact hy h3 A1 h2
    | exit id => exact ⟨_, A1, R1, μ1, rfl, h2, h3⟩
    | goto l => exact ⟨_, A1, R1, μ1, rfl, h2, h3⟩
    | ret => exact ⟨_, A1, R1, μ1, rfl, h2, h3⟩
  | cond c x y hx hy =>
    intro R μ Q h A hA
    rw [evw_eq]
    show Okk nt (condStep (evw P orc) ro (evA A c) x y A μ) Q
    rw [hA.ev]
    change condP (evR R c) _ _ at h
    unfold condP at h
    unfold condStep
    split at h
    · rename_i t ht
      simp only [ht]
      cases t with
      | true => exact hx h A hA
      | false => exact hy h A hA
    · exact h.elim
  | block id body hb =>
    intro R μ Q h A hA
    rw [evw_eq]
    show Okk nt (blockStep (evw P orc) ro id body A μ) Q
    obtain ⟨e, A1, R1, μ1, h1, h2, h3⟩ := hb h A hA
    unfold blockStep
    rw [h1]
    cases e with
    | exit id' => exact ⟨_, A1, R1, μ1, rfl, h2, h3⟩
    | normal => exact ⟨_, A1, R1, μ1, rfl, h2, h3⟩
    | goto l => exact ⟨_, A1, R1, μ1, rfl, h2, h3⟩
    | ret => exact ⟨_, A1, R1, μ1, rfl, h2, h3⟩
  | loop body hb => intro R μ Q h A hA; exact h A hA
  | rangeFunc g ps assign body _ _ => intro R μ Q h A hA; exact h A hA
  | scope body hb =>
    intro R μ Q h A hA
    rw [evw_eq]
    exact h A hA

theorem WLoop_step {ro : Option Nat} {body : Code} {R : RF} {μ : Mem} {Q : Post} (h : W P orc ro nt body R μ (seqK (fun R' μ' => WLoop P orc ro nt body R' μ' Q) Q)) : WLoop P orc ro nt body R μ Q := by
  intro A hA
  rw [evw_eq]
  show Okk nt (loopStep (evw P orc) ro body A μ) Q
  obtain ⟨e, A1, R1, μ1, h1, h2, h3⟩ := W_ok h A hA
  unfold loopStep
  rw [h1]
  cases e with
  | normal => exact h3 A1 h2
  | exit id => exact ⟨_, A1, R1, μ1, rfl, h2, h3⟩
  | goto l => exact ⟨_, A1, R1, μ1, rfl, h2, h3⟩
  | ret => exact ⟨_, A1, R1, μ1, rfl, h2, h3⟩

theorem Sc_step {ro : Option Nat} {whole cur : Code} {R : RF} {μ : Mem} {Q : Post} (h : W P orc ro nt cur R μ (scK P orc ro nt whole Q)) : Sc P orc ro nt whole cur R μ Q := by
  intro A hA
  rw [evw_eq]
  show Okk nt (scopeStep (evw P orc) ro whole cur A μ) Q
  obtain ⟨e, A1, R1, μ1, h1, h2, h3⟩ := W_ok h A hA
  unfold scopeStep
  rw [h1]
  cases e with
  | goto l =>
    simp only
    change (match findLabel whole l with | some rest => Sc P orc ro nt whole rest R1 μ1 Q | none => Q (.goto l) R1 μ1) at h3
    cases hf : findLabel whole l with
    | none => rw [hf] at h3; exact ⟨_, A1, R1, μ1, rfl, h2, h3⟩
    | some rest => rw [hf] at h3; exact h3 A1 h2
  | normal => exact ⟨_, A1, R1, μ1, rfl, h2, h3⟩
  | exit id => exact ⟨_, A1, R1, μ1, rfl, h2, h3⟩
  | ret => exact ⟨_, A1, R1, μ1, rfl, h2, h3⟩

/-- A loop, by what holds at the head of each round; k: how many rounds are left at most. -/
theorem WLoop_inv {ro : Option Nat} {body : Code} {Q : Post} (I : Nat → RF → Mem → Prop)
    (h : ∀ k R μ, I k R μ → W P orc ro nt body R μ (seqK (fun R' μ' => ∃ j, j < k ∧ I j R' μ') Q)) : ∀ {k : Nat} {R : RF} {μ : Mem}, I k R μ → WLoop P orc ro nt body R μ Q := by
  have key : ∀ n k, k ≤ n → ∀ R μ, I k R μ → WLoop P orc ro nt body R μ Q := by
    intro n
    induction n with
    | zero =>
      intro k hk R μ hI A hA
      obtain ⟨e, A1, R1, μ1, h1, h2, h3⟩ := W_ok (h k R μ hI) A hA
      rw [evw_eq]
      show Okk nt (loopStep (evw P orc) ro body A μ) Q
      unfold loopStep
      rw [h1]
      cases e with
      | normal => obtain ⟨j, hj, _⟩ := h3; omega
      | exit id => exact ⟨_, A1, R1, μ1, rfl, h2, h3⟩
      | goto l => exact ⟨_, A1, R1, μ1, rfl, h2, h3⟩
      | ret => exact ⟨_, A1, R1, μ1, rfl, h2, h3⟩
    | succ n ih =>
      intro k hk R μ hI A hA
      obtain ⟨e, A1, R1, μ1, h1, h2, h3⟩ := W_ok (h k R μ hI) A hA
      rw [evw_eq]
      show Okk nt (loopStep (evw P orc) ro body A μ) Q
      unfold loopStep
      rw [h1]
      cases e with
      | normal =>
        obtain ⟨j, hj, hI'⟩ := h3
        exact ih j (by omega) R1 μ1 hI' A1 h2
      | exit id => exact ⟨_, A1, R1, μ1, rfl, h2, h3⟩
      | goto l => exact ⟨_, A1, R1, μ1, rfl, h2, h3⟩
      | ret => exact ⟨_, A1, R1, μ1, rfl, h2, h3⟩
  intro k R μ hI
  exact key k k (Nat.le_refl _) R μ hI

/-! ### Weaker ends, and cuts -/
theorem thenM_mono {x : Option (Value × Mem)} {K K' : Value → Mem → Prop} (hK : ∀ v μ, K v μ → K' v μ) (h : thenM x K) : thenM x K' := by
  cases x with
  | none => exact h
  | some r => exact hK _ _ h
theorem WOp_mono {o : Op} {R : RF} {μ : Mem} {K K' : Value → Mem → Prop} (hK : ∀ v μ, K v μ → K' v μ) (h : WOp P orc o R μ K) : WOp P orc o R μ K' := by
  unfold WOp at h ⊢
  split at h
  · unfold WCall at h ⊢
    split at h
    · obtain ⟨v, μ', h1, h2⟩ := h; exact ⟨v, μ', h1, hK _ _ h2⟩
    · obtain ⟨v, μ', h1, h2⟩ := h; exact ⟨v, μ', h1, hK _ _ h2⟩
    · exact h
  · exact thenM_mono hK h
theorem WOps_mono {ops : List Oper} : ∀ {l : List Oper} {R : RF} {μ : Mem} {K K' : RF → Mem → Prop}, (∀ R μ, K R μ → K' R μ) → WOps P orc nt ops l R μ K → WOps P orc nt ops l R μ K' := by
  intro l
  induction l with
  | nil => intro R μ K K' hK h; exact hK _ _ h
  | cons o rest ih =>
    intro R μ K K' hK h
    unfold WOps at h ⊢
    cases hg : !guardOkF ops R o with
    | true => rw [hg] at h; exact h.elim
    | false =>
      rw [hg] at h
      simp only [cond_false] at h ⊢
      cases hw : Region.wanted o (yieldedF ops R) with
      | false => rw [hw] at h; exact ih hK h
      | true => rw [hw] at h; exact WOp_mono (fun v μ' hk => ih hK hk) h
theorem WDraw_mono {ops : List Oper} : ∀ {pl : List (Nat × List Nat)} {lds : List Loaded} {R : RF} {μ : Mem} {K K' : RF → Mem → Prop}, (∀ R μ, K R μ → K' R μ) → WDraw P orc nt ops pl lds R μ K → WDraw P orc nt ops pl lds R μ K' := by
  intro pl
  induction pl with
  | nil => intro lds R μ K K' hK h; exact hK _ _ h
  | cons p rest ih =>
    obtain ⟨i, ms⟩ := p
    intro lds R μ K K' hK h
    unfold WDraw at h ⊢
    cases ho : ops[i]? with
    | none => rw [ho] at h; exact h.elim
    | some o =>
      rw [ho] at h
      simp only at h ⊢
      cases hg : !guardOkF ops R o with
      | true => rw [hg] at h; exact h.elim
      | false =>
        rw [hg] at h
        simp only [cond_false] at h ⊢
        cases hw : Region.wanted o (yieldedF ops R) with
        | false => rw [hw] at h; exact ih hK h
        | true => rw [hw] at h; exact WOp_mono (fun v μ' hk => ⟨hk.1, ih hK hk.2⟩) h
theorem W_mono {ro : Option Nat} : ∀ {c : Code} {R : RF} {μ : Mem} {Q Q' : Post}, (∀ e R μ, Q e R μ → Q' e R μ) → W P orc ro nt c R μ Q → W P orc ro nt c R μ Q' := by
  intro c
  induction c with
  | skip => intro R μ Q Q' hQ h; exact hQ _ _ _ h
  | label l => intro R μ Q Q' hQ h; exact hQ _ _ _ h
  | exit id => intro R μ Q Q' hQ h; exact hQ _ _ _ h
  | goto l => intro R μ Q Q' hQ h; exact hQ _ _ _ h
  | ret => intro R μ Q Q' hQ h; exact hQ _ _ _ h
  | refuse w => intro R μ Q Q' hQ h; exact h
  | region id ops draw =>
    intro R μ Q Q' hQ h
    change WRegion P orc nt ops.toList draw R μ (Q .normal) at h
    change WRegion P orc nt ops.toList draw R μ (Q' .normal)
    unfold WRegion at h ⊢
    cases draw with
    | false => exact WOps_mono (fun R μ => hQ .normal R μ) h
    | true =>
      simp only [cond_true] at h ⊢
      cases hp : planOf P ops.toList with
      | none => rw [hp] at h; exact h.elim
      | some pl => rw [hp] at h; exact WDraw_mono (fun R μ => hQ .normal R μ) h
  | seq x y hx hy =>
    intro R μ Q Q' hQ h
    refine hx (Q := seqK (fun R' μ' => W P orc ro nt y R' μ' Q) Q) (fun e R μ he => ?_) h
    cases e with
    | normal => exact hy hQ he
    | exit id => exact hQ _ _ _ he
    | goto l => exact hQ _ _ _ he
    | ret => exact hQ _ _ _ he
  | cond c x y hx hy =>
    intro R μ Q Q' hQ h
    change condP (evR R c) _ _ at h
    change condP (evR R c) _ _
    unfold condP at h ⊢
    split at h
    · rename_i t ht
      cases t with
      | true => exact hx hQ h
      | false => exact hy hQ h
    · exact h
  | block id body hb =>
    intro R μ Q Q' hQ h
    refine hb (Q := blkK id Q) (fun e R μ he => ?_) h
    cases e with
    | exit i => exact hQ _ _ _ he
    | normal => exact hQ _ _ _ he
    | goto l => exact hQ _ _ _ he
    | ret => exact hQ _ _ _ he
  | loop body _ => intro R μ Q Q' hQ h A hA; exact (h A hA).mono hQ
  | rangeFunc g ps a b _ _ => intro R μ Q Q' hQ h A hA; exact (h A hA).mono hQ
  | scope body _ => intro R μ Q Q' hQ h A hA; exact (h A hA).mono hQ

/-- Only its plain end, of which something holds. -/
def midK (M : RF → Mem → Prop) : Post
  | .normal, R, μ => M R μ
  | _, _, _ => False
theorem W_cut {ro : Option Nat} {x y : Code} {R : RF} {μ : Mem} {Q : Post} (M : RF → Mem → Prop) (h1 : W P orc ro nt x R μ (midK M)) (h2 : ∀ R' μ', M R' μ' → W P orc ro nt y R' μ' Q) :
    W P orc ro nt (.seq x y) R μ Q := by
  show W P orc ro nt x R μ (seqK (fun R' μ' => W P orc ro nt y R' μ' Q) Q)
  refine W_mono (Q := midK M) (fun e R μ he => ?_) h1
  cases e with
  | normal => exact h2 _ _ he
  | exit id => exact he.elim
  | goto l => exact he.elim
  | ret => exact he.elim

/-! ### Calls -/
theorem WFn_ret {g : FuncId} {args : List Value} {μ : Mem} {v : Value} {μ' : Mem} (h : Ret P orc g args μ v μ') (K : Value → Mem → Prop) : WFn P orc g args μ K = K v μ' := by
  unfold WFn
  refine propext ⟨?_, fun hk => ⟨v, μ', h, hk⟩⟩
  rintro ⟨v1, μ1, h1, hk⟩
  unfold Ret at h h1
  rw [h] at h1
  injection h1 with h1
  injection h1 with _ h1
  injection h1 with h2 h3
  have : v = v1 := by
    have := congrArg (fun A => getR A 0) h2
    exact this
  rw [this, h3]
  exact hk

theorem WFn.mono {g : FuncId} {args : List Value} {μ : Mem} {K K' : Value → Mem → Prop} (h : WFn P orc g args μ K) (hK : ∀ v μ', K v μ' → K' v μ') : WFn P orc g args μ K' := by
  obtain ⟨v, μ', h1, h2⟩ := h
  exact ⟨v, μ', h1, hK _ _ h2⟩

def argsF (args : List Value) : RF := fun i => (args[i]?).getD undef
/-- A function's end: its results, and its own blocks away. -/
def retK (P : Program) (fn : Func) (μ0 : Mem) (K : Value → Mem → Prop) : Post
  | .normal, R, μ => (match resultsF P fn R μ with | some v => K (tidy μ0.size v μ).1 { (tidy μ0.size v μ).2 with low := min μ0.low μ.low } | none => False)
  | .ret, R, μ => (match resultsF P fn R μ with | some v => K (tidy μ0.size v μ).1 { (tidy μ0.size v μ).2 with low := min μ0.low μ.low } | none => False)
  | _, _, _ => False

theorem retK_ret {fn : Func} {μ0 : Mem} {K : Value → Mem → Prop} {R : RF} {μ : Mem} {v : Value} (h : resultsF P fn R μ = some v) (hk : K (tidy μ0.size v μ).1 { (tidy μ0.size v μ).2 with low := min μ0.low μ.low }) : retK P fn μ0 K .ret R μ := by
  show (match resultsF P fn R μ with | some v => K (tidy μ0.size v μ).1 { (tidy μ0.size v μ).2 with low := min μ0.low μ.low } | none => False)
  rw [h]
  exact hk
theorem retK_normal {fn : Func} {μ0 : Mem} {K : Value → Mem → Prop} {R : RF} {μ : Mem} {v : Value} (h : resultsF P fn R μ = some v) (hk : K (tidy μ0.size v μ).1 { (tidy μ0.size v μ).2 with low := min μ0.low μ.low }) : retK P fn μ0 K .normal R μ := by
  show (match resultsF P fn R μ with | some v => K (tidy μ0.size v μ).1 { (tidy μ0.size v μ).2 with low := min μ0.low μ.low } | none => False)
  rw [h]
  exact hk
/-- A plain answer of a function that made nothing. -/
theorem retK_same {fn : Func} {μ : Mem} {K : Value → Mem → Prop} {R : RF} {v : Value} (h : resultsF P fn R { μ with low := big } = some v) (hp : plain v = true) (hl : μ.low ≤ big) (hk : K v μ) : retK P fn μ K .ret R { μ with low := big } := by
  refine retK_ret h ?_
  have : tidy μ.size v { μ with low := big } = (v, { μ with low := big }) := by
    unfold tidy
    split
    · rfl
    · simp [Mem.size, hp]
  rw [this]
  simp only [Nat.min_eq_left hl]
  exact hk

theorem results_F {fn : Func} {A : Regs} {R : RF} (hA : AR nt A R) (μ : Mem) : resultsA P fn A μ = resultsF P fn R μ := by
  unfold resultsA resultsF
  simp only [hA.val]
  rfl

theorem args_AR {nt : Nat} {args : List Value} (hn : nt ≤ 4000) (hl : args.length ≤ nt) : AR nt ⟨nt, loadR .e 0 args⟩ (argsF args) := by
  refine ⟨rfl, hn, fun i => ?_⟩
  unfold getR argsF
  by_cases hi : i < nt
  · simp only [bltT hi, cond_true]
    rw [loadR_get _ _ _ _ (by omega) (by omega)]
    by_cases h1 : i < args.length
    · rw [if_pos (by omega), Nat.sub_zero]
    · rw [if_neg (by omega), RT.get_e, List.getElem?_eq_none (by omega)]
      rfl
  · simp only [bltF hi, cond_false]
    rw [List.getElem?_eq_none (by omega)]
    rfl

theorem WFn_enter {g : FuncId} {args : List Value} {μ : Mem} {K : Value → Mem → Prop} (fn : Func) (c : Code) (hf : P.funcs[g]? = some fn) (hb : fn.body = some c) (ho : orc g args μ = none)
    (hl : args.length ≤ fn.ntmps) (hn : fn.ntmps ≤ 4000) (h : W P orc none fn.ntmps c (argsF args) { μ with low := big } (retK P fn μ K)) : WFn P orc g args μ K := by
  obtain ⟨e, A, R, μ1, h1, h2, h3⟩ := W_ok h _ (args_AR hn hl)
  have hne : ¬ ((decide (fn.ntmps < args.length) || decide (4000 < fn.ntmps)) = true) := by simp; omega
  have key : (match resultsF P fn R μ1 with | some v => K (tidy μ.size v μ1).1 { (tidy μ.size v μ1).2 with low := min μ.low μ1.low } | none => False) → (e = .normal ∨ e = .ret) → WFn P orc g args μ K := by
    intro hk he
    cases hr : resultsF P fn R μ1 with
    | none => rw [hr] at hk; exact hk.elim
    | some v =>
      rw [hr] at hk
      refine ⟨_, _, ?_, hk⟩
      unfold Ret
      rw [evw_eq]
      show fnStep P orc (evw P orc) g args μ = _
      unfold fnStep
      simp only [ho, hf, hb]
      rw [if_neg hne, h1]
      rcases he with rfl | rfl <;> simp only [results_F h2, hr]
  cases e with
  | normal => exact key h3 (.inl rfl)
  | ret => exact key h3 (.inr rfl)
  | exit id => exact h3.elim
  | goto l => exact h3.elim

theorem ret_of {g : FuncId} {args : List Value} {μ : Mem} {v : Value} {μ' : Mem} (h : WFn P orc g args μ fun u ν => u = v ∧ ν = μ') : Ret P orc g args μ v μ' := by
  obtain ⟨_, _, h, rfl, rfl⟩ := h
  exact h
/-! ### Yields and ranges -/
def paramsF (nt : Nat) : List (Tmp × Value) → RF → RF
  | [], R => R
  | (p, x) :: r, R => paramsF nt r (putF nt R (some p) x)
theorem AR.params {A : Regs} {R : RF} : ∀ (l : List (Tmp × Value)) {A : Regs} {R : RF}, AR nt A R → AR nt (paramsA l A) (paramsF nt l R) := by
  intro l
  induction l with
  | nil => intro A R h; exact h
  | cons p r ih =>
    obtain ⟨p, x⟩ := p
    intro A R h
    exact ih (h.put (some p) x)

def yieldK (l : Nat) (K : Value → Mem → Prop) : Post := fun e _ μ2 =>
  match μ2.get l with
  | some (.loop _ _ tm ps assign body) => K (.bool (jumpOf e).isNone) (μ2.set l (.loop (if (jumpOf e).isNone then .ready else .done) (jumpOf e) tm ps assign body))
  | _ => False
def assignK (P : Program) (orc : Oracle) (nt : Nat) (l : Nat) (body : Code) (K : Value → Mem → Prop) : Post
  | .normal, R1, μ1 =>
    match μ1.get l with
    | some (.loop .ready pend tm ps assign body') => W P orc (some l) nt body R1 (μ1.set l (.loop .busy pend tm ps assign body')) (yieldK l K)
    | _ => False
  | _, _, _ => False

theorem WYield_enter {l : Nat} {args : List Value} {μ : Mem} {K : Value → Mem → Prop} {st : LoopState} {pend : Option Code} {tm : Regs} {ps : Array Tmp} {assign body : Code} {R : RF}
    (hm : μ.get l = some (.loop st pend tm ps assign body)) (hl : args.length = ps.size) (hA : AR nt tm R)
    (h : W P orc (some l) nt assign (paramsF nt (ps.toList.zip args) R) μ (assignK P orc nt l body K)) : WYield P orc l args μ K := by
  obtain ⟨e, A1, R1, μ1, h1, h2, h3⟩ := W_ok h _ (AR.params (A := tm) (R := R) _ hA)
  cases e with
  | exit id => exact h3.elim
  | goto l => exact h3.elim
  | ret => exact h3.elim
  | normal =>
    change (match μ1.get l with
      | some (.loop .ready pend tm ps assign body') => W P orc (some l) nt body R1 (μ1.set l (.loop .busy pend tm ps assign body')) (yieldK l K)
      | _ => False) at h3
    split at h3
    · rename_i pend1 tm1 ps1 assign1 body1 hm1
      obtain ⟨e, A2, R2, μ2, k1, k2, k3⟩ := W_ok h3 A1 h2
      unfold yieldK at k3
      split at k3
      · rename_i st2 pend2 tm2 ps2 assign2 body2 hm2
        refine ⟨_, _, ?_, k3⟩
        unfold RetY
        rw [evw_eq]
        show yieldStep (evw P orc) l args μ = _
        unfold yieldStep
        simp only [hm]
        rw [if_pos hl, h1]
        simp only
        unfold bodyYield
        simp only [hm1]
        rw [k1]
        simp only
        unfold endYield
        simp only [hm2]
      · exact k3.elim
    · exact h3.elim

def rangeK (l : Nat) (R : RF) (Q : Post) : Value → Mem → Prop := fun _ μ2 =>
  match μ2.get l with
  | some (.loop st pend tm p a b) =>
    st ≠ .busy ∧ (match pend with
      | none => Q .normal R (μ2.set l (.loop .exhausted pend tm p a b))
      | some .ret => Q .ret R (μ2.set l (.loop .exhausted pend tm p a b))
      | some (.exit id) => Q (.exit id) R (μ2.set l (.loop .exhausted pend tm p a b))
      | some (.goto t) => Q (.goto t) R (μ2.set l (.loop .exhausted pend tm p a b))
      | some _ => False)
  | _ => False

theorem WRange_enter {ro : Option Nat} {g : Operand} {ps : Array Tmp} {assign body : Code} {R : RF} {μ : Mem} {Q : Post} {f : FuncId} {first captured : Array Value}
    (hg : evR R g = .func (.func f) first captured) (hr : roOk μ ro = true)
    (h : ∀ A, AR nt A R → WFn P orc f (first.toList ++ [.func (.yield μ.size) #[] #[]] ++ captured.toList) (μ.push (.loop .ready none A ps assign body)) (rangeK μ.size R Q)) : WRange P orc ro nt g ps assign body R μ Q := by
  intro A hA
  rw [evw_eq]
  show Okk nt (rangeStep (evw P orc) ro g ps assign body A μ) Q
  unfold rangeStep
  rw [hA.ev, hg]
  simp only [hr, cond_true]
  obtain ⟨v, μ2, h1, h2⟩ := h A hA
  unfold Ret at h1
  rw [h1]
  simp only
  unfold rangeK at h2
  unfold endRange
  split at h2
  · rename_i st pend tm p a b hm
    simp only [hm]
    obtain ⟨h3, h4⟩ := h2
    rw [if_neg h3]
    unfold jumpOut
    split at h4
    · exact ⟨_, A, R, _, rfl, hA, h4⟩
    · exact ⟨_, A, R, _, rfl, hA, h4⟩
    · exact ⟨_, A, R, _, rfl, hA, h4⟩
    · exact ⟨_, A, R, _, rfl, hA, h4⟩
    · exact h4.elim
  · exact h2.elim

end
end Go.Vm
