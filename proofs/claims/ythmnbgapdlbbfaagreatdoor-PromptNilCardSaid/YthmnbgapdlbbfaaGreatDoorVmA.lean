/- The abstract machine: an evaluator with fuel over the model's own code, on an abstract memory of blocks. No theorem here. -/
import Derived.CallsIn
import Derived.OrdersIn
set_option linter.unusedSimpArgs false
set_option linter.unusedVariables false
namespace Go.Vm

/-- Registers: a tree by binary places. -/
inductive RT where
  | e
  | n (l : RT) (v : Value) (r : RT)
  deriving Inhabited

def RT.get : Nat → RT → Nat → Value
  | 0, _, _ => undef
  | _ + 1, .e, _ => undef
  | d + 1, .n l v r, i => bif Nat.beq i 0 then v else bif Nat.beq (i % 2) 1 then RT.get d l (i / 2) else RT.get d r (i / 2 - 1)
def RT.set : Nat → RT → Nat → Value → RT
  | 0, t, _, _ => t
  | d + 1, .e, i, x => bif Nat.beq i 0 then .n .e x .e else bif Nat.beq (i % 2) 1 then .n (RT.set d .e (i / 2) x) undef .e else .n .e undef (RT.set d .e (i / 2 - 1) x)
  | d + 1, .n l v r, i, x => bif Nat.beq i 0 then .n l x r else bif Nat.beq (i % 2) 1 then .n (RT.set d l (i / 2) x) v r else .n l v (RT.set d r (i / 2 - 1) x)

structure Regs where
  nt : Nat
  t : RT
  deriving Inhabited

def getR (A : Regs) (i : Nat) : Value := bif Nat.blt i A.nt then A.t.get 12 i else undef
def setR (A : Regs) (i : Nat) (v : Value) : Regs := bif Nat.blt i A.nt then ⟨A.nt, A.t.set 12 i v⟩ else A
def loadR : RT → Nat → List Value → RT
  | t, _, [] => t
  | t, i, v :: r => loadR (t.set 12 i v) (i + 1) r

/-- What a block of the abstract memory is. `wr`: may be written; `esz`: an element's cells, where a slice of unknown capacity lies in it. -/
inductive AObj where
  | cells (c : List Value) (wr : Bool) (esz : Nat)
  | map (es : List (Value × Value))
  | iter (s : ByteArray) (pos : Nat)
  | loop (st : LoopState) (pend : Option Code) (tmps : Regs) (params : Array Tmp) (assign body : Code)
  | dead
  deriving Inhabited

/-- Blocks, and the least block into which something that is not plain was stored. -/
structure Mem where
  blks : List AObj
  low : Nat

def big : Nat := 9223372036854775808
/-- Unknown: stands for any value. -/
def top : Value := .chan (some 0)

def plainN : Nat → Value → Bool
  | 0, _ => false
  | _ + 1, .bool _ | _ + 1, .int _ _ | _ + 1, .float _ _ | _ + 1, .complex _ _ _ | _ + 1, .string _ => true
  | _ + 1, .pointer a => a.isNone
  | _ + 1, .slice a _ _ => a.isNone
  | _ + 1, .map r => r.isNone
  | _ + 1, .chan r => r.isNone
  | _ + 1, .func fn first captured => (match fn with | .yield _ => false | _ => true) && first.isEmpty && captured.isEmpty
  | _ + 1, .nilFunc | _ + 1, .nilIface => true
  | n + 1, .iface _ v => plainN n v
  | n + 1, .agg cs => cs.toList.all (plainN n)
  | n + 1, .tuple cs => cs.toList.all (plainN n)
def plain (v : Value) : Bool := plainN 4 v

/-- Does it lie in one cell (and is known)? -/
def atomic : Value → Bool
  | .agg _ | .tuple _ | .chan (some _) => false
  | _ => true
def known : Value → Bool
  | .chan (some _) => false
  | _ => true

def pureVal {α : Type} (P : Program) : Sem α → Option α
  | .pure a => some a
  | .program k => pureVal P (k P)
  | _ => none

def evA (A : Regs) : Operand → Value
  | .tmp t => getR A t
  | .const v => if plain v then v else top
  | .global _ => top
  | .func f => .func (.func f) #[] #[]

def putR (A : Regs) (d : Option Tmp) (v : Value) : Regs :=
  match d with
  | some t => setR A t v
  | none => A

def Mem.get (μ : Mem) (b : Nat) : Option AObj := μ.blks[b]?
def Mem.size (μ : Mem) : Nat := μ.blks.length
def Mem.push (μ : Mem) (o : AObj) : Mem := { μ with blks := μ.blks ++ [o] }
def Mem.set (μ : Mem) (b : Nat) (o : AObj) : Mem := { μ with blks := μ.blks.set b o }
def Mem.mark (μ : Mem) (b : Nat) (vs : List Value) : Mem := if vs.all plain then μ else { μ with low := min μ.low b }

def cellsAt (μ : Mem) (b : Nat) : Option (List Value) :=
  match μ.get b with
  | some (.cells c _ _) => some c
  | _ => none

/-- n cells from o on. -/
def readN (c : List Value) (o n : Nat) : Option (List Value) :=
  let r := (c.drop o).take n
  if r.length = n then some r else none

def writeAt (c : List Value) (o : Nat) (vs : List Value) : Option (List Value) :=
  if o + vs.length ≤ c.length then some (c.take o ++ vs ++ c.drop (o + vs.length)) else none

/-- Stores some cells into block b. -/
def storeA (μ : Mem) (b o : Nat) (vs : List Value) : Option Mem :=
  if vs.isEmpty then some μ else
  match μ.get b with
  | some (.cells c true e) =>
    if vs.all atomic then
      match writeAt c o vs with
      | some c' => some ((μ.set b (.cells c' true e)).mark b vs)
      | none => none
    else none
  | _ => none

def newA (μ : Mem) (e : Nat) (vs : List Value) : Option (Addr × Mem) :=
  if vs.all atomic then some (⟨μ.size, 0, none⟩, μ.push (.cells vs true e)) else none

/-! Small readers: one thing at a time (a match on three things at once is a great term, and costs at each step). -/
def vInt : Value → Option (IntKind × Int)
  | .int k n => some (k, n)
  | _ => none
def vStr : Value → Option ByteArray
  | .string s => some s
  | _ => none
/-- A pointer: block and offset. -/
def aOf : Addr → Option (Nat × Nat)
  | ⟨b, o, none⟩ => some (b, o)
  | _ => none
def vPtr : Value → Option (Nat × Nat)
  | .pointer (some a) => aOf a
  | _ => none
/-- A slice: where (none: nil), length, capacity. -/
def vSlice : Value → Option (Option (Nat × Nat) × Nat × Nat)
  | .slice none n c => some (none, n, c)
  | .slice (some a) n c => (aOf a).map fun x => (some x, n, c)
  | _ => none
def asNat (v : Value) : Option Nat :=
  match vInt v with
  | some (_, .ofNat n) => some n
  | _ => none
def ptr (b o : Nat) : Value := .pointer (some ⟨b, o, none⟩)
def slc (b o n c : Nat) : Value := .slice (some ⟨b, o, none⟩) n c

section
variable (P : Program)

def und (t : TypeId) : Option TypeDesc := P.underlying t
def szOf (t : TypeId) : Option Nat := (P.info? t).map (·.size)
def bytesOf' (t : TypeId) : Option Nat := (P.info? t).map (·.bytes)
def zeroA (t : TypeId) : Option Value := (P.info? t).bind fun i => i.zero.bind fun z => bif plain z then some z else none
def aggA (t : TypeId) : Option Bool :=
  match und P t with
  | some (.struct _) => some true
  | some (.array _ _) => some true
  | some _ => some false
  | none => none
def elemA (t : TypeId) : Option TypeId := match und P t with | some (.slice e) => some e | _ => none
def arrA (t : TypeId) : Option (Nat × TypeId) := match und P t with | some (.array n e) => some (n, e) | _ => none
def fieldsA (t : TypeId) : Option (Array Field) := match und P t with | some (.struct fs) => some fs | _ => none
def mapA' (t : TypeId) : Option (TypeId × TypeId) := match und P t with | some (.map k e) => some (k, e) | _ => none
def isStrA (t : TypeId) : Bool := match und P t with | some .string => true | _ => false
def intA (t : TypeId) : Option IntKind := match und P t with | some (.int k) => some k | _ => none

def loadA (μ : Mem) (t : TypeId) (a : Value) : Option Value :=
  match vPtr a with
  | some (b, o) =>
    match cellsAt μ b with
    | some c =>
      match aggA P t with
      | some true => (szOf P t).bind fun n => (readN c o n).map fun l => .agg l.toArray
      | some false => c[o]?
      | none => none
    | none => none
  | none => none

def storeOp (μ : Mem) (t : TypeId) (a v : Value) : Option Mem :=
  match vPtr a with
  | some (b, o) => bif szOf P t == some v.cells.size && known v then storeA μ b o v.cells.toList else none
  | none => none

def partA (t : TypeId) (cs : List Value) (off : Nat) : Option Value :=
  match aggA P t with
  | some true => (szOf P t).bind fun n => (readN cs off n).map fun l => .agg l.toArray
  | some false => cs[off]?
  | none => none
def vAgg : Value → Option (List Value)
  | .agg cs => some cs.toList
  | _ => none

def strEq (a b : ByteArray) : Bool := a.data.toList == b.data.toList

/-- Comparison with nil. -/
def nilPtr (x y : Value) : Option Bool :=
  match x with
  | .pointer none => match y with | .pointer b => some b.isNone | _ => none
  | .pointer (some _) => match y with | .pointer none => some false | _ => none
  | _ => none
def nilSlice (x y : Value) : Option Bool :=
  match x with
  | .slice none _ _ => match y with | .slice b _ _ => some b.isNone | _ => none
  | .slice (some _) _ _ => match y with | .slice none _ _ => some false | _ => none
  | _ => none
def nilMap (x y : Value) : Option Bool :=
  match x with
  | .map none => match y with | .map b => some b.isNone | _ => none
  | .map (some _) => match y with | .map none => some false | _ => none
  | _ => none
def nilFn (x y : Value) : Option Bool :=
  match x with
  | .nilFunc => match y with | .nilFunc => some true | .func _ _ _ => some false | _ => none
  | .func _ _ _ => match y with | .nilFunc => some false | _ => none
  | _ => none
def vBool : Value → Option Bool
  | .bool b => some b
  | _ => none
/-- Fields, one behind the other. -/
def eqFs (rec : TypeId → Value → Value → Option Bool) : List Field → List Value → List Value → Option Bool
  | [], _, _ => some true
  | f :: fs, xs, ys =>
    bif f.name == "_" then eqFs rec fs xs ys else
    (partA P f.type xs f.offset).bind fun a => (partA P f.type ys f.offset).bind fun b => (rec f.type a b).bind fun r =>
    bif r then eqFs rec fs xs ys else some false
/-- As the model compares, where nothing is left open. -/
def eqV : Nat → TypeId → Value → Value → Option Bool
  | 0, _, _, _ => none
  | d + 1, t, x, y =>
    match und P t with
    | some .bool => (vBool x).bind fun a => (vBool y).map fun b => a == b
    | some (.int _) => (vInt x).bind fun (k, a) => (vInt y).bind fun (k', b) => bif k == k' then some (a == b) else none
    | some .string => (vStr x).bind fun a => (vStr y).map fun b => strEq a b
    | some (.pointer _) => nilPtr x y
    | some (.slice _) => nilSlice x y
    | some (.map _ _) => nilMap x y
    | some (.func _ _ _) => nilFn x y
    | some (.struct fs) => bif P.stoodInHeld t then none else (vAgg x).bind fun xs => (vAgg y).bind fun ys => eqFs P (eqV d) fs.toList xs ys
    | _ => none
def eqA (t : TypeId) (x y : Value) : Option Bool :=
  match x with
  | .agg _ => bif P.eqGuardType P.depth t then none else eqV P 6 t x y
  | .nilIface => none
  | _ => eqV P 6 t x y

def intBin (op : BinOp) (k : IntKind) (a b : Int) : Option Value :=
  match op with
  | .add => some (.int k (k.wrap (a + b)))
  | .sub => some (.int k (k.wrap (a - b)))
  | .mul => some (.int k (k.wrap (a * b)))
  | .eql => some (.bool (a == b))
  | .neq => some (.bool (!(a == b)))
  | .lss => some (.bool (decide (a < b)))
  | .leq => some (.bool (decide (a ≤ b)))
  | .gtr => some (.bool (decide (b < a)))
  | .geq => some (.bool (decide (b ≤ a)))
  | .quo => bif b == 0 then none else some (.int k (k.wrap (a.tdiv b)))
  | .rem => bif b == 0 then none else some (.int k (a.tmod b))
  | .and => some (.int k (k.wrap (BitVec.ofInt k.bits a &&& BitVec.ofInt k.bits b).toNat))
  | .or => some (.int k (k.wrap (BitVec.ofInt k.bits a ||| BitVec.ofInt k.bits b).toNat))
  | .xor => some (.int k (k.wrap (BitVec.ofInt k.bits a ^^^ BitVec.ofInt k.bits b).toNat))
  | .andNot => some (.int k (k.wrap (BitVec.ofInt k.bits a &&& ~~~BitVec.ofInt k.bits b).toNat))
  | _ => none
def shiftA (left : Bool) (k : IntKind) (a b : Int) : Option Value :=
  bif decide (b < 0) then none else
  bif left then some (.int k (k.wrap (a * 2 ^ (min b.toNat k.bits)))) else some (.int k (a.fdiv (2 ^ (min b.toNat k.bits))))
def strBin (op : BinOp) (a b : ByteArray) : Option Value :=
  match op with
  | .add => bif Nat.ble (a.size + b.size) (2 ^ 62) then some (.string ⟨(a.data.toList ++ b.data.toList).toArray⟩) else none
  | .eql => some (.bool (strEq a b))
  | .neq => some (.bool (!strEq a b))
  | _ => none
def cmpBin (op : BinOp) (t : TypeId) (x y : Value) : Option Value :=
  match op with
  | .eql => (eqA P t x y).map .bool
  | .neq => (eqA P t x y).map fun b => .bool (!b)
  | _ => none
def binA (op : BinOp) (t : TypeId) (x y : Value) : Option Value :=
  match x with
  | .int k a =>
    match op with
    | .shl => (vInt y).bind fun (_, b) => shiftA true k a b
    | .shr => (vInt y).bind fun (_, b) => shiftA false k a b
    | op => (vInt y).bind fun (k', b) => bif k == k' then intBin op k a b else none
  | .string a => (vStr y).bind fun b => strBin op a b
  | x => cmpBin P op t x y

def sliceLen (v : Value) : Option Nat :=
  match v with
  | .slice _ n _ => some n
  | .string s => some s.size
  | _ => none

/-- The first n elements of a slice or a string, as cells. -/
def firstA (μ : Mem) (sz n : Nat) (v : Value) : Option (List Value) :=
  match v with
  | .string s => some ((s.data.toList.take n).map fun b => .int .u8 b.toNat)
  | v =>
    match vSlice v with
    | some (some (b, o), _, _) => bif n * sz == 0 then some [] else (cellsAt μ b).bind fun c => readN c o (n * sz)
    | some (none, _, _) => bif n == 0 then some [] else none
    | none => none

def seqA (t : TypeId) : Bool := match und P t with | some (.slice _) => true | some .string => true | _ => false

def eszA (μ : Mem) (b : Nat) : Option Nat :=
  match μ.get b with
  | some (.cells _ true e) => some e
  | _ => none

/-- To append to a slice that lies at b, o. -/
def appendAt (μ : Mem) (sz by' b o len cap n : Nat) (new : List Value) (s : Value) : Option (Value × Mem) :=
  bif n == 0 then some (s, μ) else
  bif Nat.ble (len + n) (bif Nat.blt cap big then cap else cap - big) then (storeA μ b (o + len * sz) new).map fun μ' => (slc b o (len + n) cap, μ')
  else bif Nat.ble ((len + n) * by') (2 ^ 47) && Nat.ble (len + n) (2 ^ 47) then
    (firstA μ sz len s).bind fun old =>
      bif Nat.blt cap big then (newA μ sz (old ++ new)).map fun (a, μ') => (.slice (some a) (len + n) (big + (len + n)), μ')
      else (eszA μ b).bind fun e =>
        bif e == sz && (new.all atomic && old.all atomic) then
          some (slc μ.size 0 (len + n) (big + (len + n)), (μ.set b .dead).push (.cells (old ++ new) true e))
        else none
  else none

def appendA (μ : Mem) (argTypes : Array TypeId) (args : List Value) : Option (Value × Mem) :=
  match argTypes.toList, args with
  | [sType, xType], [s, x] =>
    (elemA P sType).bind fun elem =>
    bif !seqA P xType then none else
    (szOf P elem).bind fun sz => (bytesOf' P elem).bind fun by' => (zeroA P elem).bind fun z => (sliceLen x).bind fun n =>
    (firstA μ sz n x).bind fun new => bif !(new.length == n * sz && z.cells.size == sz) then none else
    match vSlice s with
    | some (none, 0, 0) =>
      bif n == 0 then some (s, μ) else
      bif Nat.ble (n * by') (2 ^ 47) && Nat.ble n (2 ^ 47) then (newA μ sz new).map fun (a, μ') => (.slice (some a) n (big + n), μ') else none
    | some (some (b, o), len, cap) => appendAt μ sz by' b o len cap n new s
    | _ => none
  | _, _ => none

def copyA (μ : Mem) (argTypes : Array TypeId) (args : List Value) : Option (Value × Mem) :=
  match argTypes.toList, args with
  | [dType, _], [dst, src] =>
    (elemA P dType).bind fun elem => (szOf P elem).bind fun sz => (sliceLen src).bind fun sLen =>
    match vSlice dst with
    | some (base, dLen, _) =>
      (firstA μ sz (min sLen dLen) src).bind fun l =>
      match base with
      | some (b, o) => (storeA μ b o l).map fun μ' => (.int .i64 (min sLen dLen : Nat), μ')
      | none => bif min sLen dLen == 0 then some (.int .i64 0, μ) else none
    | none => none
  | _, _ => none

def repl {α : Type} (n : Nat) (l : List α) : List α := (List.replicate n l).flatten

def clearA (μ : Mem) (argTypes : Array TypeId) (args : List Value) : Option (Value × Mem) :=
  match argTypes.toList, args with
  | [t], [x] =>
    (elemA P t).bind fun elem =>
    match vSlice x with
    | some (none, _, _) => some (.tuple #[], μ)
    | some (some (b, o), n, _) => bif n == 0 then some (.tuple #[], μ) else (zeroA P elem).bind fun z => (storeA μ b o (repl n z.cells.toList)).map fun μ' => (.tuple #[], μ')
    | none => none
  | _, _ => none

def lenA (μ : Mem) (argTypes : Array TypeId) (args : List Value) : Option Value :=
  match argTypes.toList, args with
  | [t], [x] =>
    match und P t with
    | some .string => (vStr x).map fun s => .int .i64 s.size
    | some (.array n _) => some (.int .i64 n)
    | some (.slice _) => (vSlice x).map fun (_, n, _) => .int .i64 n
    | some (.map _ _) =>
      match x with
      | .map none => some (.int .i64 0)
      | .map (some r) => match μ.get r with | some (.map es) => some (.int .i64 es.length) | _ => none
      | _ => none
    | _ => none
  | _, _ => none

def capA (argTypes : Array TypeId) (args : List Value) : Option Value :=
  match argTypes.toList, args with
  | [t], [x] =>
    match und P t with
    | some (.array n _) => some (.int .i64 n)
    | some (.slice _) => (vSlice x).bind fun (_, _, c) => bif Nat.blt c big then some (.int .i64 c) else none
    | _ => none
  | _, _ => none

def boundA (v : Value) (y : Nat) : Option Nat := (asNat v).bind fun i => bif Nat.ble i y then some i else none
def boundsA (len cap : Nat) (lo hi mx : Option Value) : Option (Nat × Nat × Nat) :=
  (match mx with | some v => boundA v cap | none => some cap).bind fun m =>
  (match hi with | some v => boundA v m | none => bif mx.isSome then none else some len).bind fun h =>
  (match lo with | some v => boundA v h | none => some 0).map fun l => (l, h, m)

def cellsEsz (μ : Mem) (b : Nat) : Option Nat :=
  match μ.get b with
  | some (.cells _ _ e) => some e
  | _ => none

def offA (m l o sz : Nat) : Nat := bif m == l then o else o + l * sz
def sliceStr (s : ByteArray) (lo hi mx : Option Value) : Option Value :=
  bif mx.isSome then none else
  (boundsA s.size s.size lo hi none).map fun (l, h, _) => .string ⟨((s.data.toList.take h).drop l).toArray⟩
def sliceSl (μ : Mem) (sz b o len cap : Nat) (lo hi mx : Option Value) : Option Value :=
  bif Nat.blt cap big then (boundsA len cap lo hi mx).map fun (l, h, m) => slc b (offA m l o sz) (h - l) (m - l)
  else bif mx.isSome then
    bif Nat.blt 0 (cap - big) && Nat.blt (cap - big) big then (boundsA len (cap - big) lo hi mx).map fun (l, h, m) => slc b (offA m l o sz) (h - l) (m - l) else none
  else bif cellsEsz μ b == some sz then (boundsA len (cap - big) lo hi mx).map fun (l, h, _) => slc b (o + l * sz) (h - l) (big + (cap - big - l)) else none
def sliceA (μ : Mem) (t : TypeId) (x : Value) (lo hi mx : Option Value) : Option Value :=
  match und P t with
  | some (.array n elem) =>
    (vPtr x).bind fun (b, o) => (szOf P elem).bind fun sz => bif Nat.blt n big then (boundsA n n lo hi mx).map fun (l, h, m) => slc b (offA m l o sz) (h - l) (m - l) else none
  | some .string => (vStr x).bind fun s => sliceStr s lo hi mx
  | some (.slice elem) =>
    match vSlice x with
    | some (none, 0, 0) => (szOf P elem).bind fun _ => (boundsA 0 0 lo hi mx).map fun _ => .slice none 0 0
    | some (some (b, o), len, cap) => (szOf P elem).bind fun sz => sliceSl μ sz b o len cap lo hi mx
    | _ => none
  | _ => none

def fieldAddrA (s : TypeId) (x : Value) (f : Nat) : Option Value :=
  (fieldsA P s).bind fun fs => (vPtr x).bind fun (b, o) => (fs[f]?).bind fun fd =>
  bif szOf P fd.type == some 0 || (szOf P fd.type).isNone then none else some (ptr b (o + fd.offset))

def indexAddrA (t : TypeId) (x i : Value) : Option Value :=
  match und P t with
  | some (.array len elem) =>
    (vPtr x).bind fun (b, o) => (asNat i).bind fun i => (szOf P elem).bind fun sz => bif Nat.blt i len then some (ptr b (o + i * sz)) else none
  | some (.slice elem) =>
    match vSlice x with
    | some (some (b, o), len, _) => (asNat i).bind fun i => (szOf P elem).bind fun sz => bif Nat.blt i len then some (ptr b (o + i * sz)) else none
    | _ => none
  | _ => none

def fieldA (t : TypeId) (x : Value) (f : Nat) : Option Value :=
  (fieldsA P t).bind fun fs => (vAgg x).bind fun cs => (fs[f]?).bind fun fd => partA P fd.type cs fd.offset

def indexA (t : TypeId) (x i : Value) : Option Value :=
  match und P t with
  | some (.array len elem) => (vAgg x).bind fun cs => (asNat i).bind fun i => bif Nat.blt i len then (szOf P elem).bind fun sz => partA P elem cs (i * sz) else none
  | some .string => (vStr x).bind fun s => (asNat i).bind fun i => (s.data.toList[i]?).map fun b => .int .u8 b.toNat
  | _ => none

/-- As Instr.fill, on lists. -/
def fillA (place : Nat → Option (Nat × Nat)) (cells : List Value) : List (Nat × Value) → Option (List Value)
  | [] => some cells
  | (i, v) :: rest =>
    match place i with
    | none => none
    | some (off, size) =>
      bif known v && v.cells.size == size then
        match writeAt cells off v.cells.toList with
        | some cells' => fillA place cells' rest
        | none => none
      else none

def buildA (t : TypeId) (parts : List (Nat × Value)) : Option Value :=
  (zeroA P t).bind fun z =>
  match und P t with
  | some (.struct fs) =>
    bif fs.toList.all fun f => (szOf P f.type).isSome then
      (fillA (fun i => (fs[i]?).bind fun fd => (szOf P fd.type).map fun n => (fd.offset, n)) z.cells.toList parts).map fun l => .agg l.toArray
    else none
  | some (.array _ elem) =>
    (szOf P elem).bind fun sz => (fillA (fun i => some (i * sz, sz)) z.cells.toList parts).map fun l => .agg l.toArray
  | _ => none

def buildSliceA (μ : Mem) (t : TypeId) (len : Nat) (parts : List (Nat × Value)) : Option (Value × Mem) :=
  (elemA P t).bind fun elem => (szOf P elem).bind fun sz => (zeroA P elem).bind fun z =>
  bif Nat.ble (len * sz) (2 ^ 24) && z.cells.size == sz && Nat.ble len (2 ^ 24) then
    (fillA (fun i => some (i * sz, sz)) (repl len z.cells.toList) parts).bind fun cs => (newA μ 0 cs).map fun (a, μ') => (.slice (some a) len len, μ')
  else none

def makeSliceA (μ : Mem) (t : TypeId) (l c : Value) : Option (Value × Mem) :=
  (elemA P t).bind fun elem => (asNat l).bind fun l => (asNat c).bind fun c => (szOf P elem).bind fun sz => (bytesOf' P elem).bind fun by' => (zeroA P elem).bind fun z =>
  bif Nat.ble l c && Nat.ble (c * by') (2 ^ 47) && Nat.ble c (2 ^ 47) && z.cells.size == sz then
    (newA μ 0 (repl c z.cells.toList)).map fun (a, μ') => (.slice (some a) l c, μ')
  else none

def utf8All (s : ByteArray) : Nat → Nat → List Value
  | 0, _ => []
  | n + 1, i => bif Nat.blt i s.size then .int .i32 (Int.ofNat (Utf8.decode s i).1) :: utf8All s n (i + (Utf8.decode s i).2) else []

def runesText : List Value → Option (List UInt8)
  | [] => some []
  | v :: r => match vInt v with | some (.i32, n) => (runesText r).map fun t => (Utf8.encode n).data.toList ++ t | _ => none
def bytesText : List Value → Option (List UInt8)
  | [] => some []
  | v :: r => match vInt v with | some (.u8, n) => (bytesText r).map fun t => UInt8.ofNat n.toNat :: t | _ => none

def looseM (x : Option (Addr × Mem)) (n : Nat) : Option (Value × Mem) := x.map fun (a, μ') => (.slice (some a) n (big + n), μ')
def strTo (μ : Mem) (dst : TypeId) (s : ByteArray) : Option (Value × Mem) :=
  match und P dst with
  | some .string => some (.string s, μ)
  | some (.slice e) =>
    match intA P e with
    | some .u8 => looseM (newA μ 1 (s.data.toList.map fun b => .int .u8 b.toNat)) s.size
    | some .i32 => looseM (newA μ 1 (utf8All s s.size 0)) (utf8All s s.size 0).length
    | _ => none
  | _ => none
def toStr (μ : Mem) (src : TypeId) (x : Value) : Option (Value × Mem) :=
  (elemA P src).bind fun e => (sliceLen x).bind fun n => (firstA μ 1 n x).bind fun l =>
  match intA P e with
  | some .u8 => (bytesText l).map fun t => (.string ⟨t.toArray⟩, μ)
  | some .i32 => (runesText l).map fun t => (.string ⟨t.toArray⟩, μ)
  | _ => none
def convertA (μ : Mem) (src dst : TypeId) (x : Value) : Option (Value × Mem) :=
  match x with
  | .int _ n =>
    match und P dst with
    | some (.int k) => (und P src).map fun _ => (.int k (k.wrap n), μ)
    | some .string => (und P src).map fun _ => (.string (Utf8.encode n), μ)
    | _ => none
  | .string s => (und P src).bind fun _ => strTo P μ dst s
  | .slice a n c => bif isStrA P dst then toStr P μ src (.slice a n c) else none
  | _ => none

def keyEq (k k' : Value) : Option Bool :=
  match k with
  | .int q a => (vInt k').bind fun (q', b) => bif q == q' then some (a == b) else none
  | .string a => (vStr k').map fun b => strEq a b
  | _ => none
def findA (k : Value) : List (Value × Value) → Nat → Option (Option (Nat × Value))
  | [], _ => some none
  | (k', v) :: r, i =>
    match keyEq k k' with
    | some true => some (some (i, v))
    | some false => findA k r (i + 1)
    | none => none
def entriesA (μ : Mem) (x : Value) : Option (List (Value × Value)) :=
  match x with
  | .map none => some []
  | .map (some r) => match μ.get r with | some (.map es) => some es | _ => none
  | _ => none
def keyOk (t : TypeId) (k : Value) : Bool :=
  match und P t with
  | some (.int _) => (vInt k).isSome
  | some .string => (vStr k).isSome
  | _ => false

def lookupA (μ : Mem) (t : TypeId) (x k : Value) (ok : Bool) : Option Value :=
  (mapA' P t).bind fun (kt, elem) => bif keyOk P kt k then
    (zeroA P elem).bind fun z => (entriesA μ x).bind fun es => (findA k es 0).map fun
      | some (_, v) => bif ok then .tuple #[v, .bool true] else v
      | none => bif ok then .tuple #[z, .bool false] else z
  else none

def mapUpdateA (μ : Mem) (t : TypeId) (m k v : Value) : Option Mem :=
  (mapA' P t).bind fun (kt, _) => bif keyOk P kt k && known v then
    match m with
    | .map (some r) =>
      match μ.get r with
      | some (.map es) => (findA k es 0).map fun
        | some (i, _) => (μ.set r (.map (es.set i (k, v)))).mark r [v]
        | none => (μ.set r (.map (es ++ [(k, v)]))).mark r [v]
      | _ => none
    | _ => none
  else none

def nextA (μ : Mem) (it : Value) (isString : Bool) : Option (Value × Mem) :=
  bif !isString then none else
  match vPtr it with
  | some (r, 0) =>
    match μ.get r with
    | some (.iter s pos) =>
      bif Nat.blt pos s.size then
        some (.tuple #[.bool true, .int .i64 pos, .int .i32 (Utf8.decode s pos).1], μ.set r (.iter s (pos + (Utf8.decode s pos).2)))
      else some (.tuple #[.bool false], μ)
    | _ => none
  | _ => none

def minmaxA (isMax : Bool) (args : List Value) : Option Value :=
  match args with
  | [x, y] => (vInt x).bind fun (k, a) => (vInt y).map fun (_, b) => .int k (bif isMax then (bif decide (a < b) then b else a) else (bif decide (b < a) then b else a))
  | _ => none

def builtinA (μ : Mem) (b : Builtin) (argTypes : Array TypeId) (args : List Value) : Option (Value × Mem) :=
  match b with
  | .append => appendA P μ argTypes args
  | .copy => copyA P μ argTypes args
  | .clear => clearA P μ argTypes args
  | .len => (lenA P μ argTypes args).map (·, μ)
  | .cap => (capA P argTypes args).map (·, μ)
  | .min => (minmaxA false args).map (·, μ)
  | .max => (minmaxA true args).map (·, μ)
  | _ => none

def pairM (μ : Mem) (x : Option Value) : Option (Value × Mem) := x.map (·, μ)
def ptrM (x : Option (Addr × Mem)) : Option (Value × Mem) := x.map fun (a, μ') => (.pointer (some a), μ')
def unitM (x : Option Mem) : Option (Value × Mem) := x.map fun μ' => (undef, μ')
def pickA (c a b : Value) : Option Value := match c with | .bool t => some (bif t then a else b) | _ => none
def allocA (μ : Mem) (t : TypeId) : Option (Value × Mem) := (zeroA P t).bind fun z => ptrM (newA μ 0 z.cells.toList)
def boxA (μ : Mem) (x : Value) : Option (Value × Mem) := if known x then ptrM (newA μ 0 x.cells.toList) else none
def nilCheckA : Value → Option Value
  | .pointer (some a) => some (.pointer (some a))
  | .func (.func f) first captured => some (.func (.func f) first captured)
  | .func (.yield l) first captured => some (.func (.yield l) first captured)
  | _ => none
def unA (op : UnOp) (x : Value) : Option Value := if plain x then pureVal P (Op.unary op x) else none
def ifaceA (t : TypeId) (x : Value) : Option Value :=
  match und P t with
  | some (.interface _) | none => none
  | some _ => if known x then some (.iface t x) else none
def funcA : Fn → Array Value → Array Value → Option Value
  | .func f, first, captured => some (.func (.func f) first captured)
  | _, _, _ => none
def mapA (μ : Mem) : Option (Value × Mem) := some (.map (some μ.size), μ.push (.map []))
def rangeA (μ : Mem) (t : TypeId) (x : Value) : Option (Value × Mem) :=
  bif isStrA P t then (vStr x).map fun s => (ptr μ.size 0, μ.push (.iter s 0)) else none
def extractA (t : Value) (i : Nat) : Option Value := match t with | .tuple vs => vs.toList[i]? | _ => none
def partsA (A : Regs) (parts : Array (Nat × Operand)) : List (Nat × Value) := parts.toList.map fun (i, x) => (i, evA A x)
def callA (A : Regs) (μ : Mem) (c : Call) : Option (Value × Mem) :=
  match c.callee with
  | .builtin b => builtinA P μ b c.argTypes (c.args.toList.map (evA A))
  | _ => none
def optA (A : Regs) (x : Option Operand) : Option Value := x.map (evA A)

/-- One operation that enters no function. -/
def opA (A : Regs) (μ : Mem) (o : Op) : Option (Value × Mem) :=
  match o with
  | .move x => some (evA A x, μ)
  | .assign x => some (evA A x, μ)
  | .pick c a b => pairM μ (pickA (evA A c) (evA A a) (evA A b))
  | .alloc t => allocA P μ t
  | .box _ x => boxA μ (evA A x)
  | .build t parts => pairM μ (buildA P t (partsA A parts))
  | .buildSlice t len parts => buildSliceA P μ t len (partsA A parts)
  | .load t a => pairM μ (loadA P μ t (evA A a))
  | .store t a x => unitM (storeOp P μ t (evA A a) (evA A x))
  | .nilCheck x => pairM μ (nilCheckA (evA A x))
  | .binOp op t x y _ => pairM μ (binA P op t (evA A x) (evA A y))
  | .unOp op _ x => pairM μ (unA P op (evA A x))
  | .convert s d x => convertA P μ s d (evA A x)
  | .makeInterface t x => pairM μ (ifaceA P t (evA A x))
  | .makeFunc fn first captured => pairM μ (funcA fn (first.map (evA A)) (captured.map (evA A)))
  | .makeMap _ r => if r.isSome then none else mapA μ
  | .makeSlice t l c => makeSliceA P μ t (evA A l) (evA A c)
  | .slice t x lo hi mx => pairM μ (sliceA P μ t (evA A x) (optA A lo) (optA A hi) (optA A mx))
  | .fieldAddr s x f => pairM μ (fieldAddrA P s (evA A x) f)
  | .field t x f => pairM μ (fieldA P t (evA A x) f)
  | .indexAddr t x i => pairM μ (indexAddrA P t (evA A x) (evA A i))
  | .index t x i => pairM μ (indexA P t (evA A x) (evA A i))
  | .lookup t x k ok => pairM μ (lookupA P μ t (evA A x) (evA A k) ok)
  | .mapUpdate t m k x => unitM (mapUpdateA P μ t (evA A m) (evA A k) (evA A x))
  | .insert t m k x => unitM (mapUpdateA P μ t (evA A m) (evA A k) (evA A x))
  | .range t x => rangeA P μ t (evA A x)
  | .next it isString => nextA μ (evA A it) isString
  | .extract t i => pairM μ (extractA (evA A t) i)
  | .call c => callA P A μ c
  | _ => none

end

/-! ### Moving a result's blocks -/

/-- The blocks from s on that a value names itself. -/
def refs1 (s : Nat) : Value → List Nat
  | .pointer (some a) => if s ≤ a.block then [a.block] else []
  | .slice (some a) _ _ => if s ≤ a.block then [a.block] else []
  | .func _ first captured => (first.toList ++ captured.toList).flatMap fun | .pointer (some a) => if s ≤ a.block then [a.block] else [] | .slice (some a) _ _ => if s ≤ a.block then [a.block] else [] | _ => []
  | .tuple vs => vs.toList.flatMap fun | .pointer (some a) => if s ≤ a.block then [a.block] else [] | .slice (some a) _ _ => if s ≤ a.block then [a.block] else [] | _ => []
  | _ => []

def dedup (l : List Nat) : List Nat := l.foldl (fun acc x => if acc.contains x then acc else acc ++ [x]) []

def renAt (s : Nat) (l : List Nat) (a : Addr) : Option Addr :=
  if a.block < s then some a else
  match l.idxOf? a.block with
  | some i => if a.spot.isNone then some { a with block := s + i } else none
  | none => none

/-- The value with its blocks renamed; none: it names one that is not on the list. -/
def renN : Nat → Nat → List Nat → Value → Option Value
  | 0, _, _, _ => none
  | _ + 1, s, l, .pointer (some a) => (renAt s l a).map fun a => .pointer (some a)
  | _ + 1, s, l, .slice (some a) n c => (renAt s l a).map fun a => .slice (some a) n c
  | n + 1, s, l, .func (.func f) first captured =>
    match first.toList.mapM (renN n s l), captured.toList.mapM (renN n s l) with
    | some x, some y => some (.func (.func f) x.toArray y.toArray)
    | _, _ => none
  | n + 1, s, l, .tuple vs => (vs.toList.mapM (renN n s l)).map fun x => .tuple x.toArray
  | _ + 1, _, _, v => if plain v then some v else none

def plainObj : AObj → Bool
  | .cells c true _ => c.all plain
  | _ => false

/-- Behind a call: if nothing older names what the call made, what the result does not name goes. -/
def tidy (s : Nat) (v : Value) (μ : Mem) : Value × Mem :=
  if μ.low < s then (v, μ) else
  if plain v then (v, { μ with blks := μ.blks.take s }) else
  let l := dedup (refs1 s v)
  match renN 4 s l v, l.mapM (fun b => (μ.get b).bind fun o => if plainObj o then some o else none) with
  | some v', some os => (v', { μ with blks := μ.blks.take s ++ os })
  | _, _ => (v, μ)

/-! ### Regions that draw their order -/
inductive Kind where | pure | read | fresh | act
  deriving DecidableEq

def kindOf (P : Program) (o : Oper) : Kind :=
  match o.op with
  | .load _ _ => .read
  | .alloc _ | .box _ _ | .buildSlice _ _ _ | .makeSlice _ _ _ => .fresh
  | .store _ _ _ | .mapUpdate _ _ _ _ | .insert _ _ _ _ | .lookup _ _ _ _ | .range _ _ | .next _ _ | .makeMap _ _ => .act
  | .convert s d _ => (match P.underlying s, P.underlying d with | some (.slice _), _ => .act | _, some (.slice _) => .act | _, _ => .pure)
  | .call { callee := .builtin .len, argTypes := ts, .. } => (match (ts[0]?).bind P.underlying with | some (.map ..) => .act | _ => .pure)
  | .call { callee := .builtin .cap, .. } | .call { callee := .builtin .min, .. } | .call { callee := .builtin .max, .. } => .pure
  | .call _ => .act
  | .move _ | .assign _ | .pick _ _ _ | .build _ _ | .nilCheck _ | .binOp _ _ _ _ _ | .unOp _ _ _ | .makeInterface _ _ | .makeFunc _ _ _
  | .slice _ _ _ _ _ | .fieldAddr _ _ _ | .field _ _ _ | .indexAddr _ _ _ | .index _ _ _ | .extract _ _ => .pure
  | _ => .act

/-- What each operation must come behind (all, not the next alone): by numbers of lesser operations. -/
def preOf (ops : List Oper) : List (List Nat) :=
  ops.foldl (fun acc o =>
    let own := (o.after.toList.filter fun e => Region.binds .any e).map (·.on)
    acc ++ [dedup (own ++ own.flatMap fun j => acc.getD j [])]) []

def regsOf (o : Oper) : List Nat := o.op.operands.toList.filterMap fun | .tmp t => some t | _ => none

def kindAt (P : Program) (ops : List Oper) (i : Nat) : Kind := match ops[i]? with | some o => kindOf P o | none => .act
def isWork : Kind → Bool
  | .act | .fresh => true
  | _ => false
def dstAt (ops : List Oper) (i : Nat) : Option Nat := (ops[i]?).bind (·.dst)
def looksOf (ops : List Oper) (i : Nat) : List Nat :=
  match ops[i]? with
  | some o => regsOf o ++ (match o.guard with | some (g, _) => (dstAt ops g).toList | none => [])
  | none => []
def preAt (pre : List (List Nat)) (i : Nat) : List Nat := pre.getD i []
/-- i stands ahead of j in the order. -/
def ahead (os : List Nat) (i j : Nat) : Bool := Nat.blt (os.idxOf i) (os.idxOf j)
def nodupB : List Nat → Bool
  | [] => true
  | x :: l => !l.contains x && nodupB l

/-- Each is behind what binds it. -/
def okPre (ops : List Oper) (pre : List (List Nat)) : Bool :=
  (List.range ops.length).all fun i => match ops[i]? with
    | some o => ((preAt pre i).all fun j => o.after.toList.any fun e => Region.binds .any e && (e.on == j || (preAt pre e.on).contains j)) && o.after.toList.all fun e => !Region.binds .any e || Nat.blt e.on i
    | none => false
/-- No slot has two writers. -/
def okDst (ops : List Oper) : Bool :=
  (List.range ops.length).all fun i => (List.range ops.length).all fun j => i == j || (match dstAt ops i, dstAt ops j with | some a, some b => a != b | _, _ => true)
/-- Who reads a slot is in order with who writes it. -/
def okLooks (ops : List Oper) (pre : List (List Nat)) (os : List Nat) : Bool :=
  (List.range ops.length).all fun i => (looksOf ops i).all fun d => (List.range ops.length).all fun j =>
    i == j || dstAt ops j != some d || ((preAt pre i).contains j && ahead os j i) || ((preAt pre j).contains i && ahead os i j)
/-- Whatever stands behind an act is bound to be. -/
def okWork (P : Program) (ops : List Oper) (pre : List (List Nat)) (os : List Nat) : Bool :=
  (List.range ops.length).all fun a => !isWork (kindAt P ops a) || (List.range ops.length).all fun i => i == a || ahead os i a || (preAt pre i).contains a ||
    (kindAt P ops i == .fresh && (List.range ops.length).all fun l => !(preAt pre l).contains i || (preAt pre l).contains a)
/-- Loads that an act may come ahead of are looked at again behind it. -/
def okMasks (P : Program) (ops : List Oper) (pre : List (List Nat)) (pl : List (Nat × List Nat)) : Bool :=
  pl.all fun (i, ms) => !isWork (kindAt P ops i) || (pl.map (·.1)).all fun l => !ahead (pl.map (·.1)) l i || (preAt pre i).contains l || ms.contains l || kindAt P ops l != .read
def planOk (P : Program) (ops : List Oper) (pre : List (List Nat)) (pl : List (Nat × List Nat)) : Bool :=
  nodupB (pl.map (·.1)) && (List.range ops.length).all ((pl.map (·.1)).contains ·) && okPre ops pre && okDst ops && okLooks ops pre (pl.map (·.1)) && okWork P ops pre (pl.map (·.1)) && okMasks P ops pre pl

/-- The order in which it is run here, each with the loads that are looked at again behind it. -/
def planRaw (P : Program) (ops : List Oper) (pre : List (List Nat)) : List (Nat × List Nat) :=
  let idx := List.range ops.length
  let work := idx.filter fun i => isWork (kindAt P ops i)
  let step (done : List Nat) : Option Nat :=
    let ready (i : Nat) : Bool := !done.contains i && (preAt pre i).all (done.contains ·)
    match idx.find? fun i => ready i && !isWork (kindAt P ops i) with
    | some i => some i
    | none => match work.find? (fun i => !done.contains i) with | some i => if ready i then some i else none | none => none
  let os := (List.range ops.length).foldl (fun (done : List Nat) _ => match step done with | some i => done ++ [i] | none => done) []
  ((List.range os.length).zip os).map fun (p, i) =>
    (i, if isWork (kindAt P ops i) then (os.take p).filter fun l => kindAt P ops l == .read && !(preAt pre i).contains l else [])
def planOf (P : Program) (ops : List Oper) : Option (List (Nat × List Nat)) :=
  bif planOk P ops (preOf ops) (planRaw P ops (preOf ops)) then some (planRaw P ops (preOf ops)) else none

/-- The same value? -/
def sameV : Nat → Value → Value → Bool
  | 0, _, _ => false
  | _ + 1, .bool a, .bool b => a == b
  | _ + 1, .int k a, .int q b => k == q && a == b
  | _ + 1, .string a, .string b => strEq a b
  | _ + 1, .pointer a, .pointer b => a == b
  | _ + 1, .slice a n c, .slice b m d => a == b && n == m && c == d
  | _ + 1, .map a, .map b => a == b
  | _ + 1, .nilFunc, .nilFunc | _ + 1, .nilIface, .nilIface => true
  | n + 1, .func (.func f) x y, .func (.func g) x' y' => f == g && sameL n x.toList x'.toList && sameL n y.toList y'.toList
  | n + 1, .iface t v, .iface u w => t == u && sameV n v w
  | n + 1, .agg x, .agg y => sameL n x.toList y.toList
  | _ + 1, _, _ => false
where sameL (n : Nat) : List Value → List Value → Bool
  | [], [] => true
  | x :: xs, y :: ys => sameV n x y && sameL n xs ys
  | _, _ => false
abbrev Loaded := Nat × TypeId × Value × Value
def keepsA (P : Program) (μ : Mem) (lds : List Loaded) (ms : List Nat) : Bool :=
  lds.all fun (l, t, a, v) => !ms.contains l || (match loadA P μ t a with | some u => sameV 6 v u | none => false)
def addLd (i : Nat) (o : Oper) (A : Regs) (v : Value) (lds : List Loaded) : List Loaded :=
  match o.op with
  | .load t x => (i, t, evA A x, v) :: lds
  | _ => lds

/-! ### The evaluator -/
inductive AExit where
  | normal
  | exit (id : Nat)
  | goto (l : Nat)
  | ret

inductive Job where
  | code (c : Code) (A : Regs)
  | scope (whole cur : Code) (A : Regs)
  | fn (f : FuncId) (args : List Value)
  | yield (l : Nat) (args : List Value)

/-- How it ended; a frame's registers, or a call's value (alone, in slot 0); the memory. -/
abbrev Out := AExit × Regs × Mem
def one (v : Value) : Regs := ⟨1, .n .e v .e⟩

def yieldedA (ops : List Oper) (A : Regs) (j : Nat) : Option Bool :=
  match (ops[j]?).bind (·.dst) with
  | some d => match getR A d with | .bool b => some b | _ => none
  | none => none

def resultsA (P : Program) (fn : Func) (A : Regs) (μ : Mem) : Option Value :=
  match fn.results.toList.mapM (fun r => match r with
    | .tmp t => some (getR A t)
    | .cell a t => loadA P μ t (getR A a)) with
  | some [v] => some v
  | some vs => some (.tuple vs.toArray)
  | none => none

/-- What is proved of functions elsewhere: asked ahead of their bodies. -/
abbrev Oracle := FuncId → List Value → Mem → Option (Value × Mem)

abbrev Ev := Option Nat → Job → Mem → Option Out

def jumpOut (jump : Option Code) (A : Regs) (μ : Mem) : Option Out :=
  match jump with
  | none => some (.normal, A, μ)
  | some .ret => some (.ret, A, μ)
  | some (.exit id) => some (.exit id, A, μ)
  | some (.goto t) => some (.goto t, A, μ)
  | some _ => none

/-- Where a range over a function stands in a round: the round's record must still be one. -/
def roOk (μ : Mem) : Option Nat → Bool
  | none => true
  | some l => match μ.get l with | some (.loop ..) => true | _ => false

def endRange (l : Nat) (A : Regs) (μ : Mem) : Option Out :=
  match μ.get l with
  | some (.loop st pend tm p a b) => if st = .busy then none else jumpOut pend A (μ.set l (.loop .exhausted pend tm p a b))
  | _ => none

def rangeStep (ih : Ev) (ro : Option Nat) (g : Operand) (ps : Array Tmp) (assign body : Code) (A : Regs) (μ : Mem) : Option Out :=
  match evA A g with
  | .func (.func f) first captured =>
    bif roOk μ ro then
      match ih none (.fn f (first.toList ++ [.func (.yield μ.size) #[] #[]] ++ captured.toList)) (μ.push (.loop .ready none A ps assign body)) with
      | some (_, _, μ2) => endRange μ.size A μ2
      | none => none
    else none
  | _ => none

def loopStep (ih : Ev) (ro : Option Nat) (body : Code) (A : Regs) (μ : Mem) : Option Out :=
  match ih ro (.code body A) μ with
  | some (.normal, A', μ') => ih ro (.code (.loop body) A') μ'
  | r => r

def seqStep (ih : Ev) (ro : Option Nat) (x y : Code) (A : Regs) (μ : Mem) : Option Out :=
  match ih ro (.code x A) μ with
  | some (.normal, A', μ') => ih ro (.code y A') μ'
  | r => r

def blockStep (ih : Ev) (ro : Option Nat) (id : Nat) (body : Code) (A : Regs) (μ : Mem) : Option Out :=
  match ih ro (.code body A) μ with
  | some (.exit id', A', μ') => some (if id' = id then .normal else .exit id', A', μ')
  | r => r

def condStep (ih : Ev) (ro : Option Nat) (c : Value) (x y : Code) (A : Regs) (μ : Mem) : Option Out :=
  match c with
  | .bool t => ih ro (.code (bif t then x else y) A) μ
  | _ => none

def goCall (ih : Ev) (ro : Option Nat) (f : Value) (args : List Value) (μ : Mem) : Option Out :=
  match f with
  | .func (.func g) first captured => ih ro (.fn g (first.toList ++ args ++ captured.toList)) μ
  | .func (.yield l) first _ => ih ro (.yield l (first.toList ++ args)) μ
  | _ => none

def outM (x : Option (Value × Mem)) : Option Out :=
  match x with
  | some (v, μ) => some (.normal, one v, μ)
  | none => none

def calleeOf : Op → Option (Operand × Array Operand)
  | .call c => match c.callee with | .value f => some (f, c.args) | _ => none
  | _ => none

def operStep (P : Program) (ih : Ev) (ro : Option Nat) (o : Oper) (A : Regs) (μ : Mem) : Option Out :=
  match calleeOf o.op with
  | some (f, args) => goCall ih ro (evA A f) (args.toList.map (evA A)) μ
  | none => outM (opA P A μ o.op)

/-- Is it known whether it is guarded? -/
def guardOk (ops : List Oper) (A : Regs) (o : Oper) : Bool :=
  match o.guard with
  | none => true
  | some (j, _) => match (ops[j]?).bind (·.dst) with | some d => known (getR A d) | none => true

/-- Operations in the order of the text. -/
def opsRun (P : Program) (ih : Ev) (ro : Option Nat) (ops : List Oper) : List Oper → Regs → Mem → Option Out
  | [], A, μ => some (.normal, A, μ)
  | o :: rest, A, μ =>
    bif !guardOk ops A o then none else
    bif Region.wanted o (yieldedA ops A) then
      match operStep P ih ro o A μ with
      | some (_, B, μ') => opsRun P ih ro ops rest (putR A o.dst (getR B 0)) μ'
      | none => none
    else opsRun P ih ro ops rest (putR A o.dst undef) μ

/-- Operations by a plan. -/
def drawRun (P : Program) (ih : Ev) (ro : Option Nat) (ops : List Oper) : List (Nat × List Nat) → List Loaded → Regs → Mem → Option Out
  | [], _, A, μ => some (.normal, A, μ)
  | (i, ms) :: rest, lds, A, μ =>
    match ops[i]? with
    | none => none
    | some o =>
      bif !guardOk ops A o then none else
      bif Region.wanted o (yieldedA ops A) then
        match operStep P ih ro o A μ with
        | some (_, B, μ') =>
          bif keepsA P μ' lds ms then drawRun P ih ro ops rest (addLd i o A (getR B 0) lds) (putR A o.dst (getR B 0)) μ' else none
        | none => none
      else drawRun P ih ro ops rest lds (putR A o.dst undef) μ

def regionStep (P : Program) (ih : Ev) (ro : Option Nat) (ops : List Oper) (draw : Bool) (A : Regs) (μ : Mem) : Option Out :=
  bif draw then
    match planOf P ops with
    | some pl => drawRun P ih ro ops pl [] A μ
    | none => none
  else opsRun P ih ro ops ops A μ

def codeStep (P : Program) (ih : Ev) (ro : Option Nat) (c : Code) (A : Regs) (μ : Mem) : Option Out :=
  match c with
  | .skip => some (.normal, A, μ)
  | .label _ => some (.normal, A, μ)
  | .region _ ops draw => regionStep P ih ro ops.toList draw A μ
  | .seq x y => seqStep ih ro x y A μ
  | .cond c x y => condStep ih ro (evA A c) x y A μ
  | .block id body => blockStep ih ro id body A μ
  | .loop body => loopStep ih ro body A μ
  | .rangeFunc g ps assign body => rangeStep ih ro g ps assign body A μ
  | .exit id => some (.exit id, A, μ)
  | .scope body => ih ro (.scope body body A) μ
  | .goto l => some (.goto l, A, μ)
  | .ret => some (.ret, A, μ)
  | .refuse _ => none

def fnStep (P : Program) (orc : Oracle) (ih : Ev) (f : FuncId) (args : List Value) (μ : Mem) : Option Out :=
  match orc f args μ with
  | some (v, μ') => some (.normal, one v, μ')
  | none =>
    match P.funcs[f]? with
    | none => none
    | some fn =>
      match fn.body with
      | none => none
      | some c =>
        if fn.ntmps < args.length || 4000 < fn.ntmps then none else
        match ih none (.code c ⟨fn.ntmps, loadR .e 0 args⟩) { μ with low := big } with
        | some (.normal, A', μ') | some (.ret, A', μ') =>
          match resultsA P fn A' μ' with
          | some v =>
            match tidy μ.size v μ' with
            | (v', μ2) => some (.normal, one v', { μ2 with low := min μ.low μ'.low })
          | none => none
        | _ => none

def jumpOf : AExit → Option Code
  | .normal => none
  | .exit id => some (.exit id)
  | .goto t => some (.goto t)
  | .ret => some .ret

/-- The end of a round. -/
def endYield (l : Nat) (e : AExit) (μ : Mem) : Option Out :=
  match μ.get l with
  | some (.loop _ _ tm ps assign body) =>
    some (.normal, one (.bool (jumpOf e).isNone), μ.set l (.loop (if (jumpOf e).isNone then .ready else .done) (jumpOf e) tm ps assign body))
  | _ => none
/-- A round, its variables set. -/
def bodyYield (ih : Ev) (l : Nat) (body : Code) (A : Regs) (μ : Mem) : Option Out :=
  match μ.get l with
  | some (.loop .ready pend tm ps assign body') =>
    match ih (some l) (.code body A) (μ.set l (.loop .busy pend tm ps assign body')) with
    | some (e, _, μ2) => endYield l e μ2
    | none => none
  | _ => none
def paramsA : List (Tmp × Value) → Regs → Regs
  | [], A => A
  | (p, x) :: r, A => paramsA r (setR A p x)
def yieldStep (ih : Ev) (l : Nat) (args : List Value) (μ : Mem) : Option Out :=
  match μ.get l with
  | some (.loop _ _ tm ps assign body) =>
    if args.length = ps.size then
      match ih (some l) (.code assign (paramsA (ps.toList.zip args) tm)) μ with
      | some (.normal, A1, μ1) => bodyYield ih l body A1 μ1
      | _ => none
    else none
  | _ => none

def scopeStep (ih : Ev) (ro : Option Nat) (whole cur : Code) (A : Regs) (μ : Mem) : Option Out :=
  match ih ro (.code cur A) μ with
  | some (.goto l, A', μ') =>
    match findLabel whole l with
    | some rest => ih ro (.scope whole rest A') μ'
    | none => some (.goto l, A', μ')
  | r => r

def evStep (P : Program) (orc : Oracle) (ih : Ev) (ro : Option Nat) (job : Job) (μ : Mem) : Option Out :=
  match job with
  | .code c A => codeStep P ih ro c A μ
  | .scope whole cur A => scopeStep ih ro whole cur A μ
  | .fn f args => fnStep P orc ih f args μ
  | .yield l args => yieldStep ih l args μ

noncomputable def ev (P : Program) (orc : Oracle) (n : Nat) : Ev :=
  Nat.rec (fun _ _ _ => none) (fun _ ih => evStep P orc ih) n

end Go.Vm
