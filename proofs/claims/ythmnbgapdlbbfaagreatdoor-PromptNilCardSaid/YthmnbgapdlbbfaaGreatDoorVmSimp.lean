/- Rewriting a run, operation by operation. -/
import Derived.Test.YthmnbgapdlbbfaaGreatDoorVmW
set_option linter.unusedSimpArgs false
set_option linter.unusedVariables false
namespace Go.Vm

universe u
variable {P : Program} {orc : Oracle} {ro : Option Nat} {nt : Nat}

/-- Something that hangs on another thing: what stands beside it is left alone by 'simp -dsimp'. -/
inductive Dum {α : Sort u} (a : α) : Type
  | mk
abbrev dum {α : Sort u} (a : α) : Dum a := .mk

def xV (x : Option Value) (K : Value → Prop) (_ : Dum K) : Prop :=
  match x with
  | some v => K v
  | none => False
def xU (x : Option Mem) (K : Mem → Prop) (_ : Dum K) : Prop :=
  match x with
  | some μ => K μ
  | none => False
def xM (x : Option (Value × Mem)) (K : Value → Mem → Prop) (_ : Dum K) : Prop := thenM x K
/-- First the value, then what goes on with it. -/
def xE (v : Value) (K : Value → Prop) (_ : Dum K) : Prop := K v
@[go_sem] theorem xE_go (v : Value) (K : Value → Prop) (d : Dum K) : xE v K d = K v := rfl
def xC (v : Value) (X Y : Prop) (_ : Dum (X, Y)) : Prop := condP v X Y
def xFn (P : Program) (orc : Oracle) (g : FuncId) (args : List Value) (μ : Mem) (K : Value → Mem → Prop) (_ : Dum K) : Prop := WFn P orc g args μ K
def xYield (P : Program) (orc : Oracle) (l : Nat) (args : List Value) (μ : Mem) (K : Value → Mem → Prop) (_ : Dum K) : Prop := WYield P orc l args μ K
def xCall (P : Program) (orc : Oracle) (f : Value) (args : List Value) (μ : Mem) (K : Value → Mem → Prop) (_ : Dum K) : Prop := WCall P orc f args μ K
def xLoop (P : Program) (orc : Oracle) (ro : Option Nat) (nt : Nat) (body : Code) (R : RF) (μ : Mem) (Q : Post) (_ : Dum (body, R, Q)) : Prop := WLoop P orc ro nt body R μ Q
def xSc (P : Program) (orc : Oracle) (ro : Option Nat) (nt : Nat) (whole cur : Code) (R : RF) (μ : Mem) (Q : Post) (_ : Dum (whole, cur, R, Q)) : Prop := Sc P orc ro nt whole cur R μ Q
def xRange (P : Program) (orc : Oracle) (ro : Option Nat) (nt : Nat) (g : Operand) (ps : Array Tmp) (a b : Code) (R : RF) (μ : Mem) (Q : Post) (_ : Dum (g, ps, a, b, R, Q)) : Prop := WRange P orc ro nt g ps a b R μ Q
def xDraw (P : Program) (orc : Oracle) (nt : Nat) (ops : List Oper) (R : RF) (μ : Mem) (K : RF → Mem → Prop) (_ : Dum (ops, R, K)) : Prop := WRegion P orc nt ops true R μ K
@[go_sem] theorem xV_some (v : Value) (K : Value → Prop) (d : Dum K) : xV (some v) K d = K v := rfl
@[go_sem] theorem xU_some (μ : Mem) (K : Mem → Prop) (d : Dum K) : xU (some μ) K d = K μ := rfl
@[go_sem] theorem xM_some (v : Value) (μ : Mem) (K : Value → Mem → Prop) (d : Dum K) : xM (some (v, μ)) K d = K v μ := rfl
@[go_sem] theorem xV_none (K : Value → Prop) (d : Dum K) : xV none K d = False := rfl
@[go_sem] theorem xU_none (K : Mem → Prop) (d : Dum K) : xU none K d = False := rfl
@[go_sem] theorem xM_none (K : Value → Mem → Prop) (d : Dum K) : xM none K d = False := rfl
@[go_sem] theorem xC_true (X Y : Prop) (d : Dum (X, Y)) : xC (.bool true) X Y d = X := rfl
@[go_sem] theorem xC_false (X Y : Prop) (d : Dum (X, Y)) : xC (.bool false) X Y d = Y := rfl
theorem xC_dec {p : Prop} [Decidable p] {X Y : Prop} {d : Dum (X, Y)} (h1 : p → X) (h2 : ¬ p → Y) : xC (.bool (decide p)) X Y d := by
  by_cases h : p
  · rw [decide_eq_true h]; exact h1 h
  · rw [decide_eq_false h]; exact h2 h
theorem xC_bool {b : Bool} {X Y : Prop} {d : Dum (X, Y)} (h1 : b = true → X) (h2 : b = false → Y) : xC (.bool b) X Y d := by
  cases b
  · exact h2 rfl
  · exact h1 rfl

attribute [go_sem] Option.map_some Option.map_none Option.bind_some Option.bind_none List.map_cons List.map_nil decide_true decide_false List.nil_append List.cons_append Option.getD_some Bool.not_true Bool.not_false cond_true cond_false

/-! ### Code -/
@[go_sem ↓] theorem W_skip (R : RF) (μ : Mem) (Q : Post) : W P orc ro nt .skip R μ Q = Q .normal R μ := rfl
@[go_sem ↓] theorem W_label (l : Nat) (R : RF) (μ : Mem) (Q : Post) : W P orc ro nt (.label l) R μ Q = Q .normal R μ := rfl
@[go_sem ↓] theorem W_seq (x y : Code) (R : RF) (μ : Mem) (Q : Post) : W P orc ro nt (.seq x y) R μ Q = W P orc ro nt x R μ (seqK (fun R' μ' => W P orc ro nt y R' μ' Q) Q) := rfl
@[go_sem ↓] theorem W_cond (c : Operand) (x y : Code) (R : RF) (μ : Mem) (Q : Post) : W P orc ro nt (.cond c x y) R μ Q = xC (evR R c) (W P orc ro nt x R μ Q) (W P orc ro nt y R μ Q) .mk := rfl
@[go_sem ↓] theorem W_block (id : Nat) (b : Code) (R : RF) (μ : Mem) (Q : Post) : W P orc ro nt (.block id b) R μ Q = W P orc ro nt b R μ (blkK id Q) := rfl
@[go_sem ↓] theorem W_loop (b : Code) (R : RF) (μ : Mem) (Q : Post) : W P orc ro nt (.loop b) R μ Q = xLoop P orc ro nt b R μ Q .mk := rfl
@[go_sem ↓] theorem W_range (g : Operand) (ps : Array Tmp) (a b : Code) (R : RF) (μ : Mem) (Q : Post) : W P orc ro nt (.rangeFunc g ps a b) R μ Q = xRange P orc ro nt g ps a b R μ Q .mk := rfl
@[go_sem ↓] theorem W_exit (id : Nat) (R : RF) (μ : Mem) (Q : Post) : W P orc ro nt (.exit id) R μ Q = Q (.exit id) R μ := rfl
@[go_sem ↓] theorem W_scope (b : Code) (R : RF) (μ : Mem) (Q : Post) : W P orc ro nt (.scope b) R μ Q = xSc P orc ro nt b b R μ Q .mk := rfl
@[go_sem ↓] theorem W_goto (l : Nat) (R : RF) (μ : Mem) (Q : Post) : W P orc ro nt (.goto l) R μ Q = Q (.goto l) R μ := rfl
@[go_sem ↓] theorem W_ret (R : RF) (μ : Mem) (Q : Post) : W P orc ro nt .ret R μ Q = Q .ret R μ := rfl
@[go_sem ↓] theorem W_ops (id : Nat) (l : List Oper) (R : RF) (μ : Mem) (Q : Post) : W P orc ro nt (.region id l.toArray false) R μ Q = WOps P orc nt l l R μ (Q .normal) := rfl
@[go_sem ↓] theorem W_draw (id : Nat) (l : List Oper) (R : RF) (μ : Mem) (Q : Post) : W P orc ro nt (.region id l.toArray true) R μ Q = xDraw P orc nt l R μ (Q .normal) .mk := rfl
@[go_sem ↓] theorem seqK_normal (K : RF → Mem → Prop) (Q : Post) (R : RF) (μ : Mem) : seqK K Q .normal R μ = K R μ := rfl
@[go_sem ↓] theorem seqK_exit (K : RF → Mem → Prop) (Q : Post) (id : Nat) (R : RF) (μ : Mem) : seqK K Q (.exit id) R μ = Q (.exit id) R μ := rfl
@[go_sem ↓] theorem seqK_goto (K : RF → Mem → Prop) (Q : Post) (id : Nat) (R : RF) (μ : Mem) : seqK K Q (.goto id) R μ = Q (.goto id) R μ := rfl
@[go_sem ↓] theorem seqK_ret (K : RF → Mem → Prop) (Q : Post) (R : RF) (μ : Mem) : seqK K Q .ret R μ = Q .ret R μ := rfl
@[go_sem ↓] theorem midK_normal (M : RF → Mem → Prop) (R : RF) (μ : Mem) : midK M .normal R μ = M R μ := rfl
@[go_sem ↓] theorem blkK_normal (i : Nat) (Q : Post) (R : RF) (μ : Mem) : blkK i Q .normal R μ = Q .normal R μ := rfl
@[go_sem ↓] theorem blkK_same (i : Nat) (Q : Post) (R : RF) (μ : Mem) : blkK i Q (.exit i) R μ = Q .normal R μ := by
  show Q (if i = i then .normal else .exit i) R μ = _
  rw [if_pos rfl]
theorem blkK_exit (i id : Nat) (Q : Post) (R : RF) (μ : Mem) (h : ¬ id = i) : blkK i Q (.exit id) R μ = Q (.exit id) R μ := by
  show Q (if id = i then .normal else .exit id) R μ = _
  rw [if_neg h]
attribute [go_sem] blkK_exit
@[go_sem ↓] theorem blkK_goto (i : Nat) (Q : Post) (id : Nat) (R : RF) (μ : Mem) : blkK i Q (.goto id) R μ = Q (.goto id) R μ := rfl
@[go_sem ↓] theorem blkK_ret (i : Nat) (Q : Post) (R : RF) (μ : Mem) : blkK i Q .ret R μ = Q .ret R μ := rfl

/-! ### Registers -/
@[go_sem] theorem upd_app (R : RF) (d : Nat) (v : Value) (i : Nat) : upd R d v i = if i = d then v else R i := by
  unfold upd
  by_cases h : i = d
  · subst h; simp
  · rw [if_neg h, beqF h]; rfl
@[go_sem] theorem putF_none (R : RF) (v : Value) : putF nt R none v = R := rfl
theorem putF_some {d : Nat} (h : d < nt) (R : RF) (v : Value) : putF nt R (some d) v = upd R d v := by
  unfold putF
  simp only [bltT h, cond_true]
attribute [go_sem] putF_some
@[go_sem] theorem argsF_zero (a : Value) (l : List Value) : argsF (a :: l) 0 = a := rfl
@[go_sem] theorem argsF_succ (a : Value) (l : List Value) (n : Nat) : argsF (a :: l) (n + 1) = argsF l n := by simp [argsF]
@[go_sem] theorem argsF_nil (n : Nat) : argsF [] n = undef := by simp [argsF]
@[go_sem] theorem evR_tmp (R : RF) (t : Tmp) : evR R (.tmp t) = R t := rfl
@[go_sem] theorem evR_int (R : RF) (k : IntKind) (n : Int) : evR R (.const (.int k n)) = .int k n := rfl
@[go_sem] theorem evR_bool (R : RF) (b : Bool) : evR R (.const (.bool b)) = .bool b := rfl
@[go_sem] theorem evR_string (R : RF) (s : ByteArray) : evR R (.const (.string s)) = .string s := rfl
@[go_sem] theorem evR_nilp (R : RF) : evR R (.const (.pointer none)) = .pointer none := rfl
@[go_sem] theorem evR_nils (R : RF) (n c : Nat) : evR R (.const (.slice none n c)) = .slice none n c := rfl
@[go_sem] theorem evR_nilm (R : RF) : evR R (.const (.map none)) = .map none := rfl
@[go_sem] theorem evR_nilf (R : RF) : evR R (.const .nilFunc) = .nilFunc := rfl
theorem evR_plain {v : Value} (h : plain v = true) (R : RF) : evR R (.const v) = v := by
  show (if plain v then v else top) = v
  rw [if_pos h]
@[go_sem] theorem evR_func (R : RF) (f : FuncId) : evR R (.func f) = .func (.func f) #[] #[] := rfl

/-! ### Operations in a row -/
/-- The slot of an operation of the region. -/
def slotOf (ops : List Oper) (j : Nat) : Option Nat := (ops[j]?).bind (·.dst)
def gdV (v : Value) (b : Bool) (X Y : Prop) (_ : Dum (X, Y)) : Prop :=
  bif known v then (bif (vBool v == some b) then X else Y) else False
def gdO (s : Option Nat) (R : RF) (b : Bool) (X Y : Prop) (_ : Dum (R, X, Y)) : Prop :=
  match s with
  | some d => gdV (R d) b X Y .mk
  | none => Y
@[go_sem] theorem gdO_some (d : Nat) (R : RF) (b : Bool) (X Y : Prop) (e : Dum (R, X, Y)) : gdO (some d) R b X Y e = gdV (R d) b X Y .mk := rfl
@[go_sem] theorem gdV_tt (X Y : Prop) (e : Dum (X, Y)) : gdV (.bool true) true X Y e = X := rfl
@[go_sem] theorem gdV_tf (X Y : Prop) (e : Dum (X, Y)) : gdV (.bool true) false X Y e = Y := rfl
@[go_sem] theorem gdV_ft (X Y : Prop) (e : Dum (X, Y)) : gdV (.bool false) true X Y e = Y := rfl
@[go_sem] theorem gdV_ff (X Y : Prop) (e : Dum (X, Y)) : gdV (.bool false) false X Y e = X := rfl
@[go_sem] theorem gdV_undef (b : Bool) (X Y : Prop) (e : Dum (X, Y)) : gdV undef b X Y e = Y := rfl

@[go_sem ↓] theorem WOps_nil (ops : List Oper) (R : RF) (μ : Mem) (K : RF → Mem → Prop) : WOps P orc nt ops [] R μ K = K R μ := rfl
theorem putF_some' {d : Nat} (h : d < nt) (R : RF) (v : Value) : putF nt R (some d) v = upd R d v := putF_some h R v
theorem WOps_cons (ops : List Oper) {d : Nat} (h : d < nt) (op : Op) (ty : TypeId) (pos : String) (after : Array Edge) (rest : List Oper) (R : RF) (μ : Mem) (K : RF → Mem → Prop) :
    WOps P orc nt ops (⟨some d, op, ty, pos, after, none⟩ :: rest) R μ K = WOp P orc op R μ fun v μ' => WOps P orc nt ops rest (upd R d v) μ' K := by
  show WOp P orc op R μ (fun v μ' => WOps P orc nt ops rest (putF nt R (some d) v) μ' K) = _
  simp only [putF_some h]
attribute [go_sem ↓] WOps_cons
@[go_sem ↓] theorem WOps_cons_none (ops : List Oper) (op : Op) (ty : TypeId) (pos : String) (after : Array Edge) (rest : List Oper) (R : RF) (μ : Mem) (K : RF → Mem → Prop) :
    WOps P orc nt ops (⟨none, op, ty, pos, after, none⟩ :: rest) R μ K = WOp P orc op R μ fun v μ' => WOps P orc nt ops rest R μ' K := rfl
theorem WOps_guard0 (ops : List Oper) (dst : Option Tmp) (op : Op) (ty : TypeId) (pos : String) (after : Array Edge) (j : Nat) (b : Bool) (rest : List Oper) (R : RF) (μ : Mem) (K : RF → Mem → Prop) :
    WOps P orc nt ops (⟨dst, op, ty, pos, after, some (j, b)⟩ :: rest) R μ K =
      gdO (slotOf ops j) R b (WOp P orc op R μ fun v μ' => WOps P orc nt ops rest (putF nt R dst v) μ' K) (WOps P orc nt ops rest (putF nt R dst undef) μ K) .mk := by
  show (bif !guardOkF ops R ⟨dst, op, ty, pos, after, some (j, b)⟩ then False else bif (yieldedF ops R j == some b) then _ else _) = _
  unfold guardOkF yieldedF slotOf gdO
  cases h : (ops[j]?).bind (·.dst) with
  | none => simp [h]
  | some d =>
    simp only [h]
    unfold gdV
    cases known (R d) with
    | false => rfl
    | true =>
      simp only [Bool.not_true, cond_false, cond_true]
      generalize R d = v
      cases v <;> rfl
theorem WOps_guard (ops : List Oper) {d : Nat} (h : d < nt) (op : Op) (ty : TypeId) (pos : String) (after : Array Edge) (j : Nat) (b : Bool) (rest : List Oper) (R : RF) (μ : Mem) (K : RF → Mem → Prop) :
    WOps P orc nt ops (⟨some d, op, ty, pos, after, some (j, b)⟩ :: rest) R μ K =
      gdO (slotOf ops j) R b (WOp P orc op R μ fun v μ' => WOps P orc nt ops rest (upd R d v) μ' K) (WOps P orc nt ops rest (upd R d undef) μ K) .mk := by
  have e : putF nt R (some d) = upd R d := funext (putF_some h R)
  rw [WOps_guard0, e]
attribute [go_sem ↓] WOps_guard
@[go_sem ↓] theorem WOps_guard_none (ops : List Oper) (op : Op) (ty : TypeId) (pos : String) (after : Array Edge) (j : Nat) (b : Bool) (rest : List Oper) (R : RF) (μ : Mem) (K : RF → Mem → Prop) :
    WOps P orc nt ops (⟨none, op, ty, pos, after, some (j, b)⟩ :: rest) R μ K =
      gdO (slotOf ops j) R b (WOp P orc op R μ fun v μ' => WOps P orc nt ops rest R μ' K) (WOps P orc nt ops rest R μ K) .mk := WOps_guard0 ..
@[go_sem] theorem slotOf_zero (o : Oper) (l : List Oper) : slotOf (o :: l) 0 = o.dst := rfl
@[go_sem] theorem slotOf_succ (o : Oper) (l : List Oper) (n : Nat) : slotOf (o :: l) (n + 1) = slotOf l n := by simp [slotOf]

/-! ### Regions that draw their order, without loads that are looked at again -/
def drawIs (P : Program) (ops : List Oper) (perm : List Nat) : Bool :=
  match planOf P ops with
  | some pl => pl.map (·.1) == perm && pl.all (·.2.isEmpty)
  | none => false
def permL (ops : List Oper) : List Nat → List Oper
  | [] => []
  | i :: is => match ops[i]? with | some o => o :: permL ops is | none => ⟨none, .panic (.tmp 0), 0, "", #[], none⟩ :: permL ops is
theorem keepsA_nil (μ : Mem) (lds : List Loaded) : keepsA P μ lds [] = true := by
  unfold keepsA
  simp
theorem WDraw_ops {ops : List Oper} : ∀ {pl : List (Nat × List Nat)}, pl.all (·.2.isEmpty) = true → ∀ {lds : List Loaded} {R : RF} {μ : Mem} {K : RF → Mem → Prop},
    WOps P orc nt ops (permL ops (pl.map (·.1))) R μ K → WDraw P orc nt ops pl lds R μ K := by
  intro pl
  induction pl with
  | nil => intro _ lds R μ K h; exact h
  | cons p rest ih =>
    obtain ⟨i, ms⟩ := p
    intro hall lds R μ K h
    simp only [List.all_cons, Bool.and_eq_true] at hall
    obtain ⟨h1, h2⟩ := hall
    have hms : ms = [] := by simpa using h1
    subst hms
    unfold WDraw
    simp only [List.map_cons, permL] at h
    cases ho : ops[i]? with
    | none =>
      rw [ho] at h
      simp only at h
      unfold WOps at h
      have hg : guardOkF ops R ⟨none, .panic (.tmp 0), 0, "", #[], none⟩ = true := rfl
      rw [hg] at h
      exact h.elim
    | some o =>
      rw [ho] at h
      simp only at h ⊢
      unfold WOps at h
      cases hg : !guardOkF ops R o with
      | true => rw [hg] at h; exact h.elim
      | false =>
        rw [hg] at h
        simp only [cond_false] at h ⊢
        cases hw : Region.wanted o (yieldedF ops R) with
        | false => rw [hw] at h; exact ih h2 h
        | true => rw [hw] at h; exact WOp_mono (fun v μ' hk => ⟨keepsA_nil _ _, ih h2 hk⟩) h
theorem xDraw_perm {ops : List Oper} (perm : List Nat) (h : drawIs P ops perm = true) {R : RF} {μ : Mem} {K : RF → Mem → Prop} {d : Dum (ops, R, K)} (hk : WOps P orc nt ops (permL ops perm) R μ K) : xDraw P orc nt ops R μ K d := by
  unfold xDraw WRegion
  unfold drawIs at h
  simp only [cond_true]
  cases hp : planOf P ops with
  | none => rw [hp] at h; cases h
  | some pl =>
    rw [hp] at h
    simp only [Bool.and_eq_true, beq_iff_eq] at h
    obtain ⟨h1, h2⟩ := h
    subst h1
    exact WDraw_ops h2 hk
theorem permL_map (ops : List Oper) : ∀ is : List Nat, permL ops is = is.map fun i => (ops[i]?).getD ⟨none, .panic (.tmp 0), 0, "", #[], none⟩ := by
  intro is
  induction is with
  | nil => rfl
  | cons i is ih =>
    simp only [permL, List.map_cons]
    cases ops[i]? with
    | none => simp [ih]
    | some o => simp [ih]
theorem permL_range (ops : List Oper) : permL ops (List.range ops.length) = ops := by
  rw [permL_map]
  apply List.ext_getElem?
  intro i
  simp only [List.getElem?_map]
  by_cases h : i < ops.length
  · rw [List.getElem?_range h]
    simp [h]
  · rw [List.getElem?_eq_none (by simpa using h), List.getElem?_eq_none (by simpa using h)]
    rfl
theorem xDraw_same {ops : List Oper} (h : drawIs P ops (List.range ops.length) = true) {R : RF} {μ : Mem} {K : RF → Mem → Prop} {d : Dum (ops, R, K)} (hk : WOps P orc nt ops ops R μ K) : xDraw P orc nt ops R μ K d :=
  xDraw_perm _ h (by rw [permL_range]; exact hk)
theorem permL_nil (ops : List Oper) : permL ops [] = [] := rfl
theorem permL_cons {ops : List Oper} {i : Nat} {is : List Nat} {o : Oper} (h : ops[i]? = some o) : permL ops (i :: is) = o :: permL ops is := by simp only [permL, h]

/-! ### Operations -/
@[go_sem ↓] theorem WOp_move (x : Operand) (R : RF) (μ : Mem) (K : Value → Mem → Prop) : WOp P orc (.move x) R μ K = xE (evR R x) (fun v => K v μ) .mk := rfl
@[go_sem ↓] theorem WOp_assign (x : Operand) (R : RF) (μ : Mem) (K : Value → Mem → Prop) : WOp P orc (.assign x) R μ K = xE (evR R x) (fun v => K v μ) .mk := rfl
theorem thenM_pair (μ : Mem) (x : Option Value) (K : Value → Mem → Prop) : thenM (pairM μ x) K = xV x (fun v => K v μ) .mk := by cases x <;> rfl
theorem thenM_unit (x : Option Mem) (K : Value → Mem → Prop) : thenM (unitM x) K = xU x (fun μ' => K undef μ') .mk := by cases x <;> rfl
@[go_sem ↓] theorem WOp_pick (c a b : Operand) (R : RF) (μ : Mem) (K : Value → Mem → Prop) : WOp P orc (.pick c a b) R μ K = xV (pickA (evR R c) (evR R a) (evR R b)) (fun v => K v μ) .mk := thenM_pair _ _ _
@[go_sem ↓] theorem WOp_alloc (t : TypeId) (R : RF) (μ : Mem) (K : Value → Mem → Prop) : WOp P orc (.alloc t) R μ K = xM (allocA P μ t) K .mk := rfl
@[go_sem ↓] theorem WOp_box (t : TypeId) (x : Operand) (R : RF) (μ : Mem) (K : Value → Mem → Prop) : WOp P orc (.box t x) R μ K = xM (boxA μ (evR R x)) K .mk := rfl
@[go_sem ↓] theorem WOp_build (t : TypeId) (ps : List (Nat × Operand)) (R : RF) (μ : Mem) (K : Value → Mem → Prop) : WOp P orc (.build t ps.toArray) R μ K = xV (buildA P t (ps.map fun p => (p.1, evR R p.2))) (fun v => K v μ) .mk := thenM_pair _ _ _
@[go_sem ↓] theorem WOp_buildSlice (t : TypeId) (n : Nat) (ps : List (Nat × Operand)) (R : RF) (μ : Mem) (K : Value → Mem → Prop) : WOp P orc (.buildSlice t n ps.toArray) R μ K = xM (buildSliceA P μ t n (ps.map fun p => (p.1, evR R p.2))) K .mk := rfl
@[go_sem ↓] theorem WOp_load (t : TypeId) (a : Operand) (R : RF) (μ : Mem) (K : Value → Mem → Prop) : WOp P orc (.load t a) R μ K = xV (loadA P μ t (evR R a)) (fun v => K v μ) .mk := thenM_pair _ _ _
@[go_sem ↓] theorem WOp_store (t : TypeId) (a x : Operand) (R : RF) (μ : Mem) (K : Value → Mem → Prop) : WOp P orc (.store t a x) R μ K = xU (storeOp P μ t (evR R a) (evR R x)) (fun μ' => K undef μ') .mk := thenM_unit _ _
@[go_sem ↓] theorem WOp_nilCheck (x : Operand) (R : RF) (μ : Mem) (K : Value → Mem → Prop) : WOp P orc (.nilCheck x) R μ K = xV (nilCheckA (evR R x)) (fun v => K v μ) .mk := thenM_pair _ _ _
@[go_sem ↓] theorem WOp_binOp (op : BinOp) (t u : TypeId) (x y : Operand) (R : RF) (μ : Mem) (K : Value → Mem → Prop) : WOp P orc (.binOp op t x y u) R μ K = xV (binA P op t (evR R x) (evR R y)) (fun v => K v μ) .mk := thenM_pair _ _ _
@[go_sem ↓] theorem WOp_unOp (op : UnOp) (t : TypeId) (x : Operand) (R : RF) (μ : Mem) (K : Value → Mem → Prop) : WOp P orc (.unOp op t x) R μ K = xV (unA P op (evR R x)) (fun v => K v μ) .mk := thenM_pair _ _ _
@[go_sem ↓] theorem WOp_convert (s t : TypeId) (x : Operand) (R : RF) (μ : Mem) (K : Value → Mem → Prop) : WOp P orc (.convert s t x) R μ K = xM (convertA P μ s t (evR R x)) K .mk := rfl
@[go_sem ↓] theorem WOp_iface (t : TypeId) (x : Operand) (R : RF) (μ : Mem) (K : Value → Mem → Prop) : WOp P orc (.makeInterface t x) R μ K = xV (ifaceA P t (evR R x)) (fun v => K v μ) .mk := thenM_pair _ _ _
@[go_sem ↓] theorem WOp_makeFunc (f : FuncId) (a b : List Operand) (R : RF) (μ : Mem) (K : Value → Mem → Prop) : WOp P orc (.makeFunc (.func f) a.toArray b.toArray) R μ K = K (.func (.func f) (a.map (evR R)).toArray (b.map (evR R)).toArray) μ := by
  show thenM (pairM μ (funcA (.func f) (a.toArray.map (evR R)) (b.toArray.map (evR R)))) K = _
  rw [thenM_pair, List.map_toArray, List.map_toArray]
  rfl
@[go_sem ↓] theorem WOp_makeMap (t : TypeId) (R : RF) (μ : Mem) (K : Value → Mem → Prop) : WOp P orc (.makeMap t none) R μ K = K (.map (some μ.size)) (μ.push (.map [])) := rfl
@[go_sem ↓] theorem WOp_makeSlice (t : TypeId) (l c : Operand) (R : RF) (μ : Mem) (K : Value → Mem → Prop) : WOp P orc (.makeSlice t l c) R μ K = xM (makeSliceA P μ t (evR R l) (evR R c)) K .mk := rfl
@[go_sem ↓] theorem WOp_slice (t : TypeId) (x : Operand) (lo hi mx : Option Operand) (R : RF) (μ : Mem) (K : Value → Mem → Prop) : WOp P orc (.slice t x lo hi mx) R μ K = xV (sliceA P μ t (evR R x) (lo.map (evR R)) (hi.map (evR R)) (mx.map (evR R))) (fun v => K v μ) .mk := thenM_pair _ _ _
@[go_sem ↓] theorem WOp_fieldAddr (t : TypeId) (x : Operand) (f : Nat) (R : RF) (μ : Mem) (K : Value → Mem → Prop) : WOp P orc (.fieldAddr t x f) R μ K = xV (fieldAddrA P t (evR R x) f) (fun v => K v μ) .mk := thenM_pair _ _ _
@[go_sem ↓] theorem WOp_field (t : TypeId) (x : Operand) (f : Nat) (R : RF) (μ : Mem) (K : Value → Mem → Prop) : WOp P orc (.field t x f) R μ K = xV (fieldA P t (evR R x) f) (fun v => K v μ) .mk := thenM_pair _ _ _
@[go_sem ↓] theorem WOp_indexAddr (t : TypeId) (x i : Operand) (R : RF) (μ : Mem) (K : Value → Mem → Prop) : WOp P orc (.indexAddr t x i) R μ K = xV (indexAddrA P t (evR R x) (evR R i)) (fun v => K v μ) .mk := thenM_pair _ _ _
@[go_sem ↓] theorem WOp_index (t : TypeId) (x i : Operand) (R : RF) (μ : Mem) (K : Value → Mem → Prop) : WOp P orc (.index t x i) R μ K = xV (indexA P t (evR R x) (evR R i)) (fun v => K v μ) .mk := thenM_pair _ _ _
@[go_sem ↓] theorem WOp_lookup (t : TypeId) (x k : Operand) (ok : Bool) (R : RF) (μ : Mem) (K : Value → Mem → Prop) : WOp P orc (.lookup t x k ok) R μ K = xV (lookupA P μ t (evR R x) (evR R k) ok) (fun v => K v μ) .mk := thenM_pair _ _ _
@[go_sem ↓] theorem WOp_mapUpdate (t : TypeId) (m k x : Operand) (R : RF) (μ : Mem) (K : Value → Mem → Prop) : WOp P orc (.mapUpdate t m k x) R μ K = xU (mapUpdateA P μ t (evR R m) (evR R k) (evR R x)) (fun μ' => K undef μ') .mk := thenM_unit _ _
@[go_sem ↓] theorem WOp_insert (t : TypeId) (m k x : Operand) (R : RF) (μ : Mem) (K : Value → Mem → Prop) : WOp P orc (.insert t m k x) R μ K = xU (mapUpdateA P μ t (evR R m) (evR R k) (evR R x)) (fun μ' => K undef μ') .mk := thenM_unit _ _
@[go_sem ↓] theorem WOp_rangeStr (t : TypeId) (x : Operand) (R : RF) (μ : Mem) (K : Value → Mem → Prop) : WOp P orc (.range t x) R μ K = xM (rangeA P μ t (evR R x)) K .mk := rfl
@[go_sem ↓] theorem WOp_next (it : Operand) (s : Bool) (R : RF) (μ : Mem) (K : Value → Mem → Prop) : WOp P orc (.next it s) R μ K = xM (nextA μ (evR R it) s) K .mk := rfl
@[go_sem ↓] theorem WOp_extract (t : Operand) (i : Nat) (R : RF) (μ : Mem) (K : Value → Mem → Prop) : WOp P orc (.extract t i) R μ K = xV (extractA (evR R t) i) (fun v => K v μ) .mk := thenM_pair _ _ _
@[go_sem ↓] theorem WOp_builtin (b : Builtin) (args : List Operand) (ts : Array TypeId) (R : RF) (μ : Mem) (K : Value → Mem → Prop) :
    WOp P orc (.call ⟨.builtin b, args.toArray, ts⟩) R μ K = xM (builtinA P μ b ts (args.map (evR R))) K .mk := rfl
@[go_sem ↓] theorem WOp_call (f : Operand) (args : List Operand) (ts : Array TypeId) (R : RF) (μ : Mem) (K : Value → Mem → Prop) :
    WOp P orc (.call ⟨.value f, args.toArray, ts⟩) R μ K = xCall P orc (evR R f) (args.map (evR R)) μ K .mk := rfl
@[go_sem] theorem WCall_fn (g : FuncId) (first captured : List Value) (args : List Value) (μ : Mem) (K : Value → Mem → Prop) :
    xCall P orc (.func (.func g) first.toArray captured.toArray) args μ K .mk = xFn P orc g (first ++ args ++ captured) μ K .mk := rfl
@[go_sem] theorem WCall_yield (l : Nat) (args : List Value) (μ : Mem) (K : Value → Mem → Prop) :
    xCall P orc (.func (.yield l) #[] #[]) args μ K .mk = xYield P orc l args μ K .mk := rfl

/-! ### Integers -/
@[go_sem] theorem pick_t (a b : Value) : pickA (.bool true) a b = some a := rfl
@[go_sem] theorem pick_f (a b : Value) : pickA (.bool false) a b = some b := rfl
@[go_sem] theorem bin_add (t : TypeId) (k : IntKind) (a b : Int) : binA P .add t (.int k a) (.int k b) = some (.int k (k.wrap (a + b))) := by cases k <;> rfl
@[go_sem] theorem bin_sub (t : TypeId) (k : IntKind) (a b : Int) : binA P .sub t (.int k a) (.int k b) = some (.int k (k.wrap (a - b))) := by cases k <;> rfl
@[go_sem] theorem bin_mul (t : TypeId) (k : IntKind) (a b : Int) : binA P .mul t (.int k a) (.int k b) = some (.int k (k.wrap (a * b))) := by cases k <;> rfl
@[go_sem] theorem bin_eql (t : TypeId) (k : IntKind) (a b : Int) : binA P .eql t (.int k a) (.int k b) = some (.bool (decide (a = b))) := by cases k <;> rfl
@[go_sem] theorem bin_neq (t : TypeId) (k : IntKind) (a b : Int) : binA P .neq t (.int k a) (.int k b) = some (.bool (!decide (a = b))) := by cases k <;> rfl
@[go_sem] theorem bin_lss (t : TypeId) (k : IntKind) (a b : Int) : binA P .lss t (.int k a) (.int k b) = some (.bool (decide (a < b))) := by cases k <;> rfl
@[go_sem] theorem bin_leq (t : TypeId) (k : IntKind) (a b : Int) : binA P .leq t (.int k a) (.int k b) = some (.bool (decide (a ≤ b))) := by cases k <;> rfl
@[go_sem] theorem bin_gtr (t : TypeId) (k : IntKind) (a b : Int) : binA P .gtr t (.int k a) (.int k b) = some (.bool (decide (b < a))) := by cases k <;> rfl
@[go_sem] theorem bin_geq (t : TypeId) (k : IntKind) (a b : Int) : binA P .geq t (.int k a) (.int k b) = some (.bool (decide (b ≤ a))) := by cases k <;> rfl
theorem bin_quo (t : TypeId) (k : IntKind) (a b : Int) (h : ¬ b = 0) : binA P .quo t (.int k a) (.int k b) = some (.int k (k.wrap (a.tdiv b))) := by
  have e : (b == 0) = false := by simpa using h
  cases k <;> (show (bif (b == 0) then none else _) = _; rw [e]; rfl)
theorem bin_rem (t : TypeId) (k : IntKind) (a b : Int) (h : ¬ b = 0) : binA P .rem t (.int k a) (.int k b) = some (.int k (a.tmod b)) := by
  have e : (b == 0) = false := by simpa using h
  cases k <;> (show (bif (b == 0) then none else _) = _; rw [e]; rfl)
attribute [go_sem] bin_quo bin_rem
@[go_sem] theorem bin_sadd (t : TypeId) (a b : ByteArray) : binA P .add t (.string a) (.string b) = bif Nat.ble (a.size + b.size) (2 ^ 62) then some (.string ⟨(a.data.toList ++ b.data.toList).toArray⟩) else none := rfl
@[go_sem] theorem bin_seql (t : TypeId) (a b : ByteArray) : binA P .eql t (.string a) (.string b) = some (.bool (strEq a b)) := rfl
@[go_sem] theorem bin_sneq (t : TypeId) (a b : ByteArray) : binA P .neq t (.string a) (.string b) = some (.bool (!strEq a b)) := rfl

theorem wrap_i64 {x : Int} (h1 : -9223372036854775808 ≤ x) (h2 : x < 9223372036854775808) : IntKind.i64.wrap x = x := by
  unfold IntKind.wrap
  simp only [IntKind.bits, IntKind.signed, Bool.true_and, decide_eq_true_eq, Nat.reducePow, Nat.reduceSub, ge_iff_le]
  split <;> omega
theorem wrap_i32 {x : Int} (h1 : -2147483648 ≤ x) (h2 : x < 2147483648) : IntKind.i32.wrap x = x := by
  unfold IntKind.wrap
  simp only [IntKind.bits, IntKind.signed, Bool.true_and, decide_eq_true_eq, Nat.reduceSub, ge_iff_le]
  split <;> omega
theorem wrap_u8 {x : Int} (h1 : 0 ≤ x) (h2 : x < 256) : IntKind.u8.wrap x = x := by
  unfold IntKind.wrap
  simp only [IntKind.bits, IntKind.signed, Bool.false_and, Bool.false_eq_true, if_false]
  omega
theorem wrap_i8 {x : Int} (h1 : -128 ≤ x) (h2 : x < 128) : IntKind.i8.wrap x = x := by
  unfold IntKind.wrap
  simp only [IntKind.bits, IntKind.signed, Bool.true_and, decide_eq_true_eq, Nat.reduceSub, ge_iff_le]
  split <;> omega

end Go.Vm
