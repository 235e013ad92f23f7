/- The abstract machine (AM): values with abstract addresses, frames as finite maps, a heap of objects. Definitions only. Generic over the program. -/
import Derived.WalkKit
import Derived.StillTail
import Derived.Scope
namespace Go.Proofs.Ytnlchlnkibpkaaa.Am
set_option linter.unusedSimpArgs false
set_option linter.unusedVariables false
open Go.RowKit

/-! ### states -/
/-- a guard: a slot, what is wanted of it, whether it is so -/
abbrev Key := Nat × Bool × Bool
inductive Slot where
  | val (v : Value)
  | cnd (ks : List Key) (v : Value)
  | box (cs : List Value)
  | bsl (cs : List Value) (n : Nat)
  | unk

inductive HObj where
  | arr (cells : List Value) (ver : Nat) (own : Bool) (et : TypeId)

abbrev Heap := List HObj
abbrev Fr := List (Nat × Slot)
abbrev Eph := List (Nat × (List Key × (Nat × Nat)))

structure St where
  fr : Fr
  eph : Eph
  h : Heap

def fget : Fr → Nat → Slot
  | [], _ => .unk
  | (k, v) :: r, i => if k = i then v else fget r i
def fput : Fr → Nat → Slot → Fr
  | [], i, v => [(i, v)]
  | (k, u) :: r, i, v => if k = i then (i, v) :: r else (k, u) :: fput r i v
def eget : Eph → Nat → Option (List Key × (Nat × Nat))
  | [], _ => none
  | (k, v) :: r, i => if k = i then some v else eget r i
/-- what was known of addresses in slot `i`, or in the box of slot `i`, goes -/
def edrop : Eph → Nat → Eph
  | [], _ => []
  | (k, (g, (s, o))) :: r, i => if k = i then edrop r i else if s = i then edrop r i else (k, (g, (s, o))) :: edrop r i

def St.put (s : St) (d : Nat) (v : Slot) : St := { s with fr := fput s.fr d v, eph := edrop s.eph d }
/-! ### guards that are not decided -/
def condL (ks : List Key) : Bool := ks.all fun k => k.2.2
def strip : List Key → List Key → Option (List Key)
  | [], r => some r
  | _ :: _, [] => none
  | (d, w, c) :: ks, (d', w', c') :: r => if d = d' then (if w = w' then (if c = c' then strip ks r else none) else none) else none
def asmS (ks : List Key) : Slot → Slot
  | .cnd k v => match strip ks k with
    | some [] => .val v
    | some (x :: r) => .cnd (x :: r) v
    | none => .cnd k v
  | s => s
def asmF (ks : List Key) : Fr → Fr
  | [] => []
  | (k, v) :: r => (k, asmS ks v) :: asmF ks r
def asmE (ks : List Key) : Eph → Eph
  | [] => []
  | (k, (g, p)) :: r => (k, ((match strip ks g with | some g' => g' | none => g), p)) :: asmE ks r
def St.asm (s : St) (ks : List Key) : St := { s with fr := asmF ks s.fr, eph := asmE ks s.eph }
def St.putO (s : St) (d : Option Nat) (v : Slot) : St := match d with | some d => s.put d v | none => s

/-! ### constants and types -/
def pure1 : Value → Bool
  | .int _ _ => true
  | .bool _ => true
  | .string _ => true
  | .pointer none => true
  | .slice none 0 0 => true
  | .map none => true
  | .nilFunc => true
  | .nilIface => true
  | _ => false
def pureV : Value → Bool
  | .agg cs => cs.toList.all pure1
  | .tuple cs => cs.toList.isEmpty
  | v => pure1 v

structure TI where
  agg : Bool
  size : Nat
  bytes : Nat
  zero : Option Value
def isAggD : TypeDesc → Bool
  | .struct _ | .array _ _ => true
  | _ => false
def tinfo (P : Program) (t : TypeId) : Option TI :=
  match P.info? t, P.underlying t with
  | some i, some d => some ⟨isAggD d, i.size, i.bytes, i.zero⟩
  | _, _ => none
def fieldOff (P : Program) (t : TypeId) (f : Nat) : Option (Nat × TypeId) :=
  match P.underlying t with
  | some (.struct fs) => match fs[f]? with
    | some fd => match P.info? fd.type with
      | some i => if i.size = 0 then none else some (fd.offset, fd.type)
      | none => none
    | none => none
  | _ => none

/-! ### operands -/
def ev (s : St) : Operand → Option Value
  | .tmp t => match fget s.fr t with | .val v => some v | _ => none
  | .const v => if pureV v then some v else none
  | .func f => some (.func (.func f) #[] #[])
  | .global _ => none
/-- a slot's box, or a place in it -/
def plc (s : St) : Operand → Option (Nat × Nat)
  | .tmp t => match eget s.eph t with
    | some ([], p) => some p
    | some (_ :: _, _) => none
    | none => match fget s.fr t with | .box _ => some (t, 0) | _ => none
  | _ => none
def evs (s : St) : List Operand → Option (List Value)
  | [] => some []
  | x :: r => match ev s x, evs s r with
    | some v, some l => some (v :: l)
    | _, _ => none

/-! ### cells -/
def rdC (cells : List Value) (off n : Nat) : Option (List Value) := if off + n ≤ cells.length then some ((cells.drop off).take n) else none
def wrC (cells : List Value) (off : Nat) (vs : List Value) : Option (List Value) :=
  if off + vs.length ≤ cells.length then some (cells.take off ++ vs ++ cells.drop (off + vs.length)) else none
def ldC (ti : TI) (cells : List Value) (off : Nat) : Option Value :=
  if ti.agg then (rdC cells off ti.size).map fun l => .agg l.toArray else cells[off]?
def one (v : Value) : Bool := match v with | .agg _ => false | .tuple _ => false | _ => true
/-- a value's cells, of the right number -/
def vcells (n : Nat) (v : Value) : Option (List Value) := if v.cells.size = n ∧ v.cells.toList.all one = true then some v.cells.toList else none

/-! ### operations that yield a value and turn nothing -/
def intBin (op : BinOp) (k : IntKind) (a b : Int) : Option Value :=
  match op with
  | .add => some (.int k (k.wrap (a + b)))
  | .sub => some (.int k (k.wrap (a - b)))
  | .mul => some (.int k (k.wrap (a * b)))
  | .quo => if b = 0 then none else some (.int k (k.wrap (a.tdiv b)))
  | .rem => if b = 0 then none else some (.int k (a.tmod b))
  | .and => some (.int k (k.wrap (BitVec.ofInt k.bits a &&& BitVec.ofInt k.bits b).toNat))
  | .or => some (.int k (k.wrap (BitVec.ofInt k.bits a ||| BitVec.ofInt k.bits b).toNat))
  | .xor => some (.int k (k.wrap (BitVec.ofInt k.bits a ^^^ BitVec.ofInt k.bits b).toNat))
  | .andNot => some (.int k (k.wrap (BitVec.ofInt k.bits a &&& ~~~ BitVec.ofInt k.bits b).toNat))
  | .eql => some (.bool (decide (a = b)))
  | .neq => some (.bool (!decide (a = b)))
  | .lss => some (.bool (decide (a < b)))
  | .leq => some (.bool (decide (a ≤ b)))
  | .gtr => some (.bool (decide (b < a)))
  | .geq => some (.bool (decide (b ≤ a)))
  | _ => none
def shiftBin (op : BinOp) (k : IntKind) (a b : Int) : Option Value :=
  if b < 0 then none else
  match op with
  | .shl => some (.int k (k.wrap (a * 2 ^ (min b.toNat k.bits))))
  | .shr => some (.int k (a.fdiv (2 ^ (min b.toNat k.bits))))
  | _ => none
def strBin (op : BinOp) (a b : ByteArray) : Option Value :=
  match op with
  | .add => if ((a.size + b.size : Nat) : Int) ≤ 9223372036854775807 then some (.string (a ++ b)) else none
  | .eql => some (.bool (decide (a = b)))
  | .neq => some (.bool (!decide (a = b)))
  | _ => none
def eq1 : Value → Value → Bool
  | .int _ a, .int _ b => decide (a = b)
  | .bool a, .bool b => decide (a = b)
  | .string a, .string b => decide (a = b)
  | _, _ => false
def eqL : List Value → List Value → Bool
  | [], [] => true
  | a :: r, b :: q => eq1 a b && eqL r q
  | _, _ => false
/-- `==` of two values of type `t` whose cells pass `chk` is cell by cell -/
def EqOK (P : Program) (t : TypeId) (chk : List Value → Bool) : Prop :=
  ∀ xs ys : Array Value, chk xs.toList = true → chk ys.toList = true → P.eqGuardType P.depth t = false ∧ ∀ w : World, (Op.equalIn 10000 t (.agg xs) (.agg ys)).run P w = .ok (eqL xs.toList ys.toList) w
structure Env where
  P : Program
  eqs : TypeId → Option (List Value → Bool)
def unF (op : UnOp) (x : Value) : Option Value :=
  match op, x with
  | .not, .bool b => some (.bool (!b))
  | .neg, .int k n => some (.int k (k.wrap (0 - n)))
  | _, _ => none

def isNilSl : Value → Option Bool
  | .slice none 0 0 => some true
  | .slice (some _) _ _ => some false
  | _ => none
def binV (N : Env) (op : BinOp) (t : TypeId) (a b : Value) : Option Value :=
  match a, b with
  | .int k x, .int k' y => match op with
    | .shl => shiftBin .shl k x y
    | .shr => shiftBin .shr k x y
    | _ => if k = k' then intBin op k x y else none
  | .string x, .string y => strBin op x y
  | .bool x, .bool y => match op, N.P.underlying t with
    | .eql, some .bool => some (.bool (decide (x = y)))
    | .neq, some .bool => some (.bool (!decide (x = y)))
    | _, _ => none
  | .agg xs, .agg ys => match N.eqs t with
    | some chk => if chk xs.toList && chk ys.toList then (match op with
      | .eql => some (.bool (eqL xs.toList ys.toList))
      | .neq => some (.bool (!eqL xs.toList ys.toList))
      | _ => none) else none
    | none => none
  | .slice p _ _, .slice none 0 0 => match op, N.P.underlying t with
    | .eql, some (.slice _) => some (.bool p.isNone)
    | .neq, some (.slice _) => some (.bool !p.isNone)
    | _, _ => none
  | _, _ => none

/-- the same at an object of the heap: not looked into by evaluation -/
def rdH (cells : List Value) (off n : Nat) : Option (List Value) := rdC cells off n
def ldCH (ti : TI) (cells : List Value) (off : Nat) : Option Value :=
  if ti.agg then (rdH cells off ti.size).map fun l => .agg l.toArray else cells[off]?
def ldH (ti : TI) (h : Heap) (a : Addr) : Option Value :=
  match a.spot with
  | some ver => match h[a.block]? with
    | some (.arr cells v _ _) => if v = ver then ldCH ti cells a.off else none
    | none => none
  | none => none
def loadV (N : Env) (s : St) (t : TypeId) (a : Operand) : Option Value :=
  match tinfo N.P t with
  | none => none
  | some ti => match plc s a with
    | some (sl, off) => match fget s.fr sl with
      | .box cs => ldC ti cs off
      | _ => none
    | none => match ev s a with
      | some (.pointer (some ad)) => ldH ti s.h ad
      | _ => none
def adAdd (a : Addr) (n : Nat) : Addr := ⟨a.block, a.off + n, a.spot⟩
def fieldAddrV (N : Env) (s : St) (t : TypeId) (x : Operand) (f : Nat) : Option Value :=
  match fieldOff N.P t f, ev s x with
  | some (o, _), some (.pointer (some a)) => some (.pointer (some (adAdd a o)))
  | _, _ => none
def indexAddrV (N : Env) (s : St) (t : TypeId) (x i : Operand) : Option Value :=
  match N.P.underlying t, ev s x, ev s i with
  | some (.slice e), some (.slice (some a) len _), some (.int _ n) => match tinfo N.P e with
    | some ti => if 0 ≤ n ∧ n < (len : Int) then some (.pointer (some (adAdd a (n.toNat * ti.size)))) else none
    | none => none
  | some (.array m e), some (.pointer (some a)), some (.int _ n) => match tinfo N.P e with
    | some ti => if 0 ≤ n ∧ n < (m : Int) then some (.pointer (some (adAdd a (n.toNat * ti.size)))) else none
    | none => none
  | _, _, _ => none
def fieldV (N : Env) (s : St) (t : TypeId) (x : Operand) (f : Nat) : Option Value :=
  match fieldOff N.P t f, ev s x with
  | some (o, ft), some (.agg cs) => match tinfo N.P ft with
    | some ti => ldC ti cs.toList o
    | none => none
  | _, _ => none
def indexV (N : Env) (s : St) (t : TypeId) (x i : Operand) : Option Value :=
  match N.P.underlying t, ev s x, ev s i with
  | some (.array m e), some (.agg cs), some (.int _ n) => match tinfo N.P e with
    | some ti => if 0 ≤ n ∧ n < (m : Int) then ldC ti cs.toList (n.toNat * ti.size) else none
    | none => none
  | some .string, some (.string b), some (.int _ n) => if 0 ≤ n then (match b[n.toNat]? with
    | some c => some (.int .u8 c.toNat)
    | none => none) else none
  | _, _, _ => none
def evo (s : St) (d : Int) : Option Operand → Option Int
  | none => some d
  | some x => match ev s x with
    | some (.int _ n) => some n
    | _ => none
def sliceV (N : Env) (s : St) (t : TypeId) (x : Operand) (lo hi : Option Operand) : Option Value :=
  match N.P.underlying t, ev s x with
  | some (.slice e), some (.slice a len _) => match tinfo N.P e, evo s 0 lo, evo s len hi with
    | some ti, some l, some h => if 0 ≤ l ∧ l ≤ h ∧ h ≤ (len : Int) then (match a with
      | none => some (.slice none 0 0)
      | some a => match a.spot, s.h[a.block]? with
        | some ver, some (.arr _ ver' _ et) => if ver = ver' ∧ et = e then some (.slice (some (adAdd a (l.toNat * ti.size))) (h - l).toNat (h - l).toNat) else none
        | _, _ => none) else none
    | _, _, _ => none
  | some .string, some (.string b) => match evo s 0 lo, evo s b.size hi with
    | some l, some h => if 0 ≤ l ∧ l ≤ h ∧ h ≤ (b.size : Int) then some (.string (b.extract l.toNat h.toNat)) else none
    | _, _ => none
  | _, _ => none
def lenV (N : Env) (t : TypeId) (x : Value) : Option Value :=
  match N.P.underlying t, x with
  | some .string, .string b => some (.int .i64 b.size)
  | some (.slice _), .slice _ n _ => some (.int .i64 n)
  | some (.array n _), _ => some (.int .i64 n)
  | _, _ => none
def minmaxV (b : Builtin) (x y : Value) : Option Value :=
  match b, x, y with
  | .min, .int k a, .int k' b => if k = k' then some (.int k (if b < a then b else a)) else none
  | .max, .int k a, .int k' b => if k = k' then some (.int k (if a < b then b else a)) else none
  | _, _, _ => none
def builtinV (N : Env) (s : St) (b : Builtin) (args : Array Operand) (tys : Array TypeId) : Option Value :=
  match b, evs s args.toList with
  | .len, some [x] => match tys[0]? with
    | some t => lenV N t x
    | none => none
  | .min, some [x, y] => minmaxV .min x y
  | .max, some [x, y] => minmaxV .max x y
  | _, _ => none
def convV (N : Env) (src dst : TypeId) (x : Value) : Option Value :=
  match N.P.underlying src, N.P.underlying dst, x with
  | some _, some (.int k), .int _ n => some (.int k (k.wrap n))
  | some _, some .string, .string b => some (.string b)
  | _, _, _ => none
/-- build: parts into the zero value's cells -/
def putParts (place : Nat → Option (Nat × Nat)) (cells : List Value) : List (Nat × Value) → Option (List Value)
  | [] => some cells
  | (i, v) :: r => match place i with
    | none => none
    | some (off, size) => match vcells size v with
      | none => none
      | some vs => match wrC cells off vs with
        | none => none
        | some cs => putParts place cs r
def evParts (s : St) : List (Nat × Operand) → Option (List (Nat × Value))
  | [] => some []
  | (i, x) :: r => match ev s x, evParts s r with
    | some v, some l => some ((i, v) :: l)
    | _, _ => none
def placesOf (P : Program) (t : TypeId) : Option (List (Nat × Nat)) :=
  match P.underlying t with
  | some (.struct fs) => fs.toList.mapM fun f => (P.info? f.type).map fun i => (f.offset, i.size)
  | _ => none
def placeA (sz : Nat) (i : Nat) : Option (Nat × Nat) := some (i * sz, sz)
def buildV (N : Env) (s : St) (t : TypeId) (parts : Array (Nat × Operand)) : Option Value :=
  match tinfo N.P t, evParts s parts.toList with
  | some ti, some ps => match ti.zero with
    | some z => if pureV z && z.cells.toList.all one then (match N.P.underlying t with
      | some (.struct _) => match placesOf N.P t with
        | some pl => (putParts (fun i => pl[i]?) z.cells.toList ps).map fun l => .agg l.toArray
        | none => none
      | some (.array _ e) => match tinfo N.P e with
        | some te => (putParts (placeA te.size) z.cells.toList ps).map fun l => .agg l.toArray
        | none => none
      | _ => none) else none
    | none => none
  | _, _ => none
/-- a branch of a pick: what it is where the condition says so -/
def condV (s : St) (c : Operand) (t want : Bool) : Operand → Option Value
  | .tmp r => match fget s.fr r with
    | .val v => some v
    | .cnd [(d, w, q)] v => match c with
      | .tmp e => if d = e then (if w = want then (if q = (t == want) then some v else none) else none) else none
      | _ => none
    | _ => none
  | x => ev s x
def pickV (s : St) (c : Operand) (t : Bool) (a b : Operand) : Option Value :=
  match condV s c t true a, condV s c t false b with
  | some (.bool x), some (.bool y) => some (.bool (bif t then x else y))
  | _, _ => match t with
    | true => ev s a
    | false => ev s b
def vop (N : Env) (s : St) : Op → Option Value
  | .move x => ev s x
  | .assign x => ev s x
  | .pick c a b => match ev s c with
    | some (.bool t) => pickV s c t a b
    | _ => none
  | .build t parts => buildV N s t parts
  | .load t a => loadV N s t a
  | .binOp op t x y _ => match ev s x, ev s y with
    | some a, some b => binV N op t a b
    | _, _ => none
  | .unOp op _ x => match ev s x with
    | some a => unF op a
    | none => none
  | .convert src dst x => match ev s x with
    | some a => convV N src dst a
    | none => none
  | .fieldAddr t x f => fieldAddrV N s t x f
  | .indexAddr t x i => indexAddrV N s t x i
  | .field t x f => fieldV N s t x f
  | .index t x i => indexV N s t x i
  | .slice t x lo hi none => sliceV N s t x lo hi
  | .extract x k => match ev s x with
    | some (.tuple vs) => vs[k]?
    | _ => none
  | .makeFunc (.func f) first captured => if first.toList.isEmpty then (evs s captured.toList).map fun l => .func (.func f) #[] l.toArray else none
  | .call c => match c.callee with
    | .builtin b => builtinV N s b c.args c.argTypes
    | _ => none
  | .nilCheck x => match ev s x with
    | some (.pointer (some a)) => some (.pointer (some a))
    | some (.func (.func f) a b) => some (.func (.func f) a b)
    | _ => none
  | _ => none
/-- addresses in boxes of slots -/
def epl (N : Env) (s : St) : Op → Option (Nat × Nat)
  | .fieldAddr t x f => match fieldOff N.P t f, plc s x with
    | some (o, _), some (sl, off) => some (sl, off + o)
    | _, _ => none
  | .indexAddr t x i => match N.P.underlying t, plc s x, ev s i with
    | some (.array m e), some (sl, off), some (.int _ n) => match tinfo N.P e with
      | some ti => if 0 ≤ n ∧ n < (m : Int) then some (sl, off + n.toNat * ti.size) else none
      | none => none
    | _, _, _ => none
  | .move x => plc s x
  | .nilCheck x => plc s x
  | _ => none
/-- is an operation carried out? -/
def wantedA (all : Array Oper) (o : Oper) (s : St) : Option Bool :=
  match o.guard with
  | none => some true
  | some (j, want) => match all[j]? with
    | none => some false
    | some q => match q.dst with
      | none => some false
      | some d => match fget s.fr d with
        | .val (.bool b) => some (b == want)
        | .val (.tuple _) => some false
        | _ => none

/-- the guards of an operation, where they are not decided -/
def gkeys (all : Array Oper) (o : Oper) (s : St) : Option (List Key) :=
  match o.guard with
  | none => none
  | some (j, want) => match all[j]? with
    | none => none
    | some q => match q.dst with
      | none => none
      | some d => match fget s.fr d with
        | .val (.bool c) => some [(d, want, c == want)]
        | .cnd ks (.bool c) => some (ks ++ [(d, want, c == want)])
        | _ => none
/-- the cells with which a variable starts -/
def boxC (N : Env) (s : St) : Op → Option (TypeId × List Value)
  | .alloc t => match tinfo N.P t with
    | some ti => match ti.zero with
      | some z => if pureV z then (vcells ti.size z).map fun cs => (t, cs) else none
      | none => none
    | none => none
  | .box t x => match tinfo N.P t, ev s x with
    | some ti, some v => (vcells ti.size v).map fun cs => (t, cs)
    | _, _ => none
  | _ => none
/-- a literal of a slice: its element type, its cells, its length -/
def bslC (N : Env) (s : St) : Op → Option (TypeId × List Value × Nat)
  | .buildSlice t len parts => match N.P.underlying t with
    | some (.slice e) => match tinfo N.P e, evParts s parts.toList with
      | some ti, some ps => match ti.zero with
        | some z => if pureV z && z.cells.toList.all one && decide (z.cells.size = ti.size) && decide (0 < ti.size) && decide (len * ti.size ≤ 16777216) then
            (putParts (placeA ti.size) (List.replicate len z.cells.toList).flatten ps).map fun cs => (e, cs, len)
          else none
        | none => none
      | _, _ => none
    | _ => none
  | _ => none
/-- make([]T, n) -/
def mkC (N : Env) (s : St) : Op → Option (TypeId × List Value × Nat)
  | .makeSlice t l c => match N.P.underlying t, ev s l, ev s c with
    | some (.slice e), some (.int .i64 n), some (.int .i64 n') => match tinfo N.P e with
      | some ti => match ti.zero with
        | some z => if pureV z && z.cells.toList.all one && decide (z.cells.size = ti.size) && decide (0 < ti.size) && decide (n = n') && decide (0 ≤ n) && decide ((ti.bytes : Int) * n ≤ 140737488355328) && decide (n ≤ 140737488355328) then
            some (e, (List.replicate n.toNat z.cells.toList).flatten, n.toNat)
          else none
        | none => none
      | none => none
    | _, _, _ => none
  | _ => none
/-- the items that append is handed -/
def itemsC (s : St) (h : Heap) (sz : Nat) : Operand → Option (List Value × Nat)
  | .tmp t => match fget s.fr t with
    | .bsl cs n => if cs.length = n * sz then some (cs, n) else none
    | .val (.slice (some ⟨id, off, some ver⟩) n _) => match h[id]? with
      | some (.arr cells v _ _) => if v = ver then (rdH cells off (n * sz)).map fun l => (l, n) else none
      | none => none
    | _ => none
  | _ => none

inductive AX where
  | normal
  | exit (id : Nat)
  | ret
def AX.inBlock (id : Nat) : AX → AX
  | .exit id' => if id' = id then .normal else .exit id'
  | e => e

def initFr (args : List Value) (n : Nat) : Fr := (args ++ List.replicate (n - args.length) (Value.tuple #[])).zipIdx.map fun p => (p.2, Slot.val p.1)
def resA (N : Env) (s : St) : List ResultVar → Option (List Value)
  | [] => some []
  | .tmp t :: r => match ev s (.tmp t), resA N s r with
    | some v, some l => some (v :: l)
    | _, _ => none
  | .cell a t :: r => match loadV N s t (.tmp a), resA N s r with
    | some v, some l => some (v :: l)
    | _, _ => none
def resV : List Value → Value
  | [v] => v
  | l => .tuple l.toArray
def SubF (f0 f : Fr) : Prop := ∀ p ∈ f0, fget f p.1 = p.2
/-- no address of an object from n on -/
inductive Scoped (n : Nat) : Value → Prop
  | pure1 {v : Value} : pure1 v = true → Scoped n v
  | tup {cs : Array Value} : (∀ (i : Nat) (v : Value), cs[i]? = some v → Scoped n v) → Scoped n (.tuple cs)
  | agg {cs : Array Value} : (∀ (i : Nat) (v : Value), cs[i]? = some v → Scoped n v) → Scoped n (.agg cs)
  | ptr {id off ver : Nat} : id < n → Scoped n (.pointer (some ⟨id, off, some ver⟩))
  | slice {id off ver len c : Nat} : id < n → Scoped n (.slice (some ⟨id, off, some ver⟩) len c)

inductive Judg where
  | code (c : Code) (s : St) (e : AX) (s' : St)
  | iter (c : Code) (s : St) (e : AX) (s' : St)
  | ops (all : Array Oper) (l : List Oper) (s s' : St)
  | call (f : FuncId) (args : List Value) (h : Heap) (r : Value) (h' : Heap)

def dstOps (n : Nat) (l : List Oper) : Bool := l.all fun o => match o.dst with | some d => decide (d < n) | none => true
def dstOK (n : Nat) : Code → Bool
  | .seq a b => dstOK n a && dstOK n b
  | .cond _ a b => dstOK n a && dstOK n b
  | .block _ c => dstOK n c
  | .loop c => dstOK n c
  | .scope c => dstOK n c
  | .region _ ops _ => dstOps n ops.toList
  | _ => true

/-- the callee and what it is handed besides -/
def calleeA (s : St) : Callee → Option (FuncId × List Value)
  | .value f => match ev s f with
    | some (.func (.func g) first captured) => if first.toList.isEmpty then some (g, captured.toList) else none
    | _ => none
  | _ => none

/-- operations that only read, one behind the other -/
inductive QOps (N : Env) (all : Array Oper) : List Oper → St → St → Prop
  | nil (s : St) : QOps N all [] s s
  | skip {o : Oper} {r : List Oper} {s s1 : St} : wantedA all o s = some false → QOps N all r (s.putO o.dst (.val (.tuple #[]))) s1 → QOps N all (o :: r) s s1
  | val {o : Oper} {r : List Oper} {s s1 : St} {v : Value} : wantedA all o s = some true → vop N s o.op = some v → QOps N all r (s.putO o.dst (.val v)) s1 → QOps N all (o :: r) s s1
  | eph {o : Oper} {r : List Oper} {s s1 : St} {d sl off : Nat} : wantedA all o s = some true → o.dst = some d → epl N s o.op = some (sl, off) → sl ≠ d →
      QOps N all r { s with fr := fput s.fr d .unk, eph := (d, ([], (sl, off))) :: edrop s.eph d } s1 → QOps N all (o :: r) s s1
  | spec {o : Oper} {r : List Oper} {s s1 : St} {ks : List Key} {v : Value} {d : Nat} : gkeys all o s = some ks → vop N (s.asm ks) o.op = some v → o.dst = some d → QOps N all r (s.put d (.cnd ks v)) s1 → QOps N all (o :: r) s s1
  | specE {o : Oper} {r : List Oper} {s s1 : St} {ks : List Key} {d sl off : Nat} : gkeys all o s = some ks → epl N (s.asm ks) o.op = some (sl, off) → o.dst = some d → sl ≠ d →
      QOps N all r { s with fr := fput s.fr d .unk, eph := (d, (ks, (sl, off))) :: edrop s.eph d } s1 → QOps N all (o :: r) s s1

inductive Ev (N : Env) : Judg → Prop
  | skip (s : St) : Ev N (.code .skip s .normal s)
  | label (l : Nat) (s : St) : Ev N (.code (.label l) s .normal s)
  | exit (id : Nat) (s : St) : Ev N (.code (.exit id) s (.exit id) s)
  | ret (s : St) : Ev N (.code .ret s .ret s)
  | seqN {a b : Code} {s s1 s2 : St} {e : AX} : Ev N (.code a s .normal s1) → Ev N (.code b s1 e s2) → Ev N (.code (.seq a b) s e s2)
  | seqX {a b : Code} {s s1 : St} {e : AX} : Ev N (.code a s e s1) → e ≠ .normal → Ev N (.code (.seq a b) s e s1)
  | cond {c : Operand} {x y : Code} {s s1 : St} {e : AX} {t : Bool} : ev s c = some (.bool t) → Ev N (.code (if t then x else y) s e s1) → Ev N (.code (.cond c x y) s e s1)
  | block {id : Nat} {c : Code} {s s1 : St} {e : AX} : Ev N (.code c s e s1) → Ev N (.code (.block id c) s (e.inBlock id) s1)
  | scope {c : Code} {s s1 : St} {e : AX} : Ev N (.code c s e s1) → Ev N (.code (.scope c) s e s1)
  | loop {c : Code} {s s1 : St} {e : AX} : Ev N (.iter c s e s1) → Ev N (.code (.loop c) s e s1)
  | iterX {c : Code} {s s1 : St} {e : AX} : Ev N (.code c s e s1) → e ≠ .normal → Ev N (.iter c s e s1)
  | iterN {c : Code} {s s1 s2 : St} {e : AX} : Ev N (.code c s .normal s1) → Ev N (.iter c s1 e s2) → Ev N (.iter c s e s2)
  | region {id : Nat} {ops : Array Oper} {s s1 : St} : Ev N (.ops ops ops.toList { s with eph := [] } s1) → Ev N (.code (.region id ops false) s .normal s1)
  | regionD {id n : Nat} {ops : Array Oper} {s s1 s2 : St} : N.P.follows .mixedOrders = true → Region.lexTailB .any ops n = true → QOps N ops (ops.toList.take n) { s with eph := [] } s1 → Ev N (.ops ops (ops.toList.drop n) s1 s2) →
      Ev N (.code (.region id ops true) s .normal s2)
  | regionO {id : Nat} {ops : Array Oper} {s sF : St} (Inv : Array Bool → St → Prop) (nxt : Array Bool → St → Nat → St) : N.P.follows .mixedOrders = true → Inv (Array.replicate ops.size false) { s with eph := [] } →
      (∀ S t i o, Inv S t → i ∈ Region.ready .any ops S → ops[i]? = some o → Ev N (.ops ops [o] t (nxt S t i))) →
      (∀ S t i o, Inv S t → i ∈ Region.ready .any ops S → ops[i]? = some o → Inv (S.setIfInBounds i true) (nxt S t i)) →
      (∀ S t, Inv S t → Region.ready .any ops S = [] → SubF sF.fr t.fr ∧ sF.h = t.h) → sF.eph = [] → Ev N (.code (.region id ops true) s .normal sF)
  | weak {c : Code} {s s0 s1 : St} {e : AX} : SubF s0.fr s.fr → s0.h = s.h → s0.eph = [] → Ev N (.code c s0 e s1) → Ev N (.code c s e s1)
  | weakI {c : Code} {s s0 s1 : St} {e : AX} : SubF s0.fr s.fr → s0.h = s.h → s0.eph = [] → Ev N (.iter c s0 e s1) → Ev N (.iter c s e s1)
  | nil (all : Array Oper) (s : St) : Ev N (.ops all [] s s)
  | opSkip {all : Array Oper} {o : Oper} {r : List Oper} {s s1 : St} : wantedA all o s = some false → Ev N (.ops all r (s.putO o.dst (.val (.tuple #[]))) s1) → Ev N (.ops all (o :: r) s s1)
  | opVal {all : Array Oper} {o : Oper} {r : List Oper} {s s1 : St} {v : Value} : wantedA all o s = some true → vop N s o.op = some v → Ev N (.ops all r (s.putO o.dst (.val v)) s1) → Ev N (.ops all (o :: r) s s1)
  | opEph {all : Array Oper} {o : Oper} {r : List Oper} {s s1 : St} {d sl off : Nat} : wantedA all o s = some true → o.dst = some d → epl N s o.op = some (sl, off) → sl ≠ d →
      Ev N (.ops all r { s with fr := fput s.fr d .unk, eph := (d, ([], (sl, off))) :: edrop s.eph d } s1) → Ev N (.ops all (o :: r) s s1)
  | opSpec {all : Array Oper} {o : Oper} {r : List Oper} {s s1 : St} {ks : List Key} {v : Value} {d : Nat} : gkeys all o s = some ks → vop N (s.asm ks) o.op = some v → o.dst = some d →
      Ev N (.ops all r (s.put d (.cnd ks v)) s1) → Ev N (.ops all (o :: r) s s1)
  | opSpecE {all : Array Oper} {o : Oper} {r : List Oper} {s s1 : St} {ks : List Key} {d sl off : Nat} : gkeys all o s = some ks → epl N (s.asm ks) o.op = some (sl, off) → o.dst = some d → sl ≠ d →
      Ev N (.ops all r { s with fr := fput s.fr d .unk, eph := (d, (ks, (sl, off))) :: edrop s.eph d } s1) → Ev N (.ops all (o :: r) s s1)
  | opBox {all : Array Oper} {o : Oper} {r : List Oper} {s s1 : St} {d : Nat} {t : TypeId} {cs : List Value} : wantedA all o s = some true → o.dst = some d → boxC N s o.op = some (t, cs) →
      Ev N (.ops all r (s.put d (.box cs)) s1) → Ev N (.ops all (o :: r) s s1)
  | opBsl {all : Array Oper} {o : Oper} {r : List Oper} {s s1 : St} {d n : Nat} {t : TypeId} {cs : List Value} : wantedA all o s = some true → o.dst = some d → bslC N s o.op = some (t, cs, n) →
      Ev N (.ops all r (s.put d (.bsl cs n)) s1) → Ev N (.ops all (o :: r) s s1)
  | opBoxH {all : Array Oper} {o : Oper} {r : List Oper} {s s1 : St} {t : TypeId} {cs : List Value} : wantedA all o s = some true → boxC N s o.op = some (t, cs) →
      Ev N (.ops all r ({ s with h := s.h ++ [HObj.arr cs 0 true t] }.putO o.dst (.val (.pointer (some ⟨s.h.length, 0, some 0⟩)))) s1) → Ev N (.ops all (o :: r) s s1)
  | opBslH {all : Array Oper} {o : Oper} {r : List Oper} {s s1 : St} {n : Nat} {t : TypeId} {cs : List Value} : wantedA all o s = some true → bslC N s o.op = some (t, cs, n) →
      Ev N (.ops all r ({ s with h := s.h ++ [HObj.arr cs 0 true t] }.putO o.dst (.val (.slice (some ⟨s.h.length, 0, some 0⟩) n n))) s1) → Ev N (.ops all (o :: r) s s1)
  | opMk {all : Array Oper} {o : Oper} {r : List Oper} {s s1 : St} {n : Nat} {t : TypeId} {cs : List Value} : wantedA all o s = some true → mkC N s o.op = some (t, cs, n) →
      Ev N (.ops all r ({ s with h := s.h ++ [HObj.arr cs 0 true t] }.putO o.dst (.val (.slice (some ⟨s.h.length, 0, some 0⟩) n n))) s1) → Ev N (.ops all (o :: r) s s1)
  | opSto {all : Array Oper} {o : Oper} {r : List Oper} {s s1 : St} {t : TypeId} {a x : Operand} {ti : TI} {sl off : Nat} {cs vs cs' : List Value} {v : Value} : wantedA all o s = some true →
      o.op = .store t a x → tinfo N.P t = some ti → plc s a = some (sl, off) → fget s.fr sl = .box cs → ev s x = some v → vcells ti.size v = some vs → wrC cs off vs = some cs' → o.dst = none →
      Ev N (.ops all r { s with fr := fput s.fr sl (.box cs') } s1) → Ev N (.ops all (o :: r) s s1)
  | opStoH {all : Array Oper} {o : Oper} {r : List Oper} {s s1 : St} {t et : TypeId} {a x : Operand} {ti : TI} {id off ver : Nat} {cells vs cells' : List Value} {v : Value} : wantedA all o s = some true →
      o.op = .store t a x → tinfo N.P t = some ti → ev s a = some (.pointer (some ⟨id, off, some ver⟩)) → s.h[id]? = some (.arr cells ver true et) → ev s x = some v → vcells ti.size v = some vs →
      wrC cells off vs = some cells' → o.dst = none →
      Ev N (.ops all r { s with h := s.h.set id (HObj.arr cells' ver true et) } s1) → Ev N (.ops all (o :: r) s s1)
  | opApp0 {all : Array Oper} {o : Oper} {r : List Oper} {s s1 : St} {x y : Operand} {t t2 e : TypeId} {ti : TI} {cs : List Value} {m : Nat} : wantedA all o s = some true →
      o.op = .call { callee := .builtin .append, args := #[x, y], argTypes := #[t, t2] } → N.P.underlying t = some (.slice e) → t2 = t → tinfo N.P e = some ti → 0 < ti.size →
      (ti.zero.map fun z => z.cells.size) = some ti.size → ev s x = some (.slice none 0 0) → itemsC s s.h ti.size y = some (cs, m) → 0 < m → m * ti.bytes ≤ 140737488355328 → m ≤ 140737488355328 →
      Ev N (.ops all r ({ s with h := s.h ++ [HObj.arr cs 0 true e] }.putO o.dst (.val (.slice (some ⟨s.h.length, 0, some 0⟩) m m))) s1) → Ev N (.ops all (o :: r) s s1)
  | opApp {all : Array Oper} {o : Oper} {r : List Oper} {s s1 : St} {x y : Operand} {t t2 e : TypeId} {ti : TI} {cs cells : List Value} {m n c id ver : Nat} : wantedA all o s = some true →
      o.op = .call { callee := .builtin .append, args := #[x, y], argTypes := #[t, t2] } → N.P.underlying t = some (.slice e) → t2 = t → tinfo N.P e = some ti → 0 < ti.size →
      (ti.zero.map fun z => z.cells.size) = some ti.size → ev s x = some (.slice (some ⟨id, 0, some ver⟩) n c) → s.h[id]? = some (.arr cells ver true e) → n * ti.size ≤ cells.length →
      itemsC s s.h ti.size y = some (cs, m) → (n + m) * ti.bytes ≤ 140737488355328 → n + m ≤ 140737488355328 →
      Ev N (.ops all r ({ s with h := s.h.set id (HObj.arr (cells.take (n * ti.size) ++ cs) (ver + 1) true e) }.putO o.dst (.val (.slice (some ⟨id, 0, some (ver + 1)⟩) (n + m) (n + m)))) s1) → Ev N (.ops all (o :: r) s s1)
  | opAppZ {all : Array Oper} {o : Oper} {r : List Oper} {s s1 : St} {x y : Operand} {t t2 e : TypeId} {ti : TI} {p q : Option Addr} {n c c' : Nat} : wantedA all o s = some true →
      o.op = .call { callee := .builtin .append, args := #[x, y], argTypes := #[t, t2] } → N.P.underlying t = some (.slice e) → t2 = t → tinfo N.P e = some ti →
      ev s x = some (.slice p n c) → ev s y = some (.slice q 0 c') → Ev N (.ops all r (s.putO o.dst (.val (.slice p n c))) s1) → Ev N (.ops all (o :: r) s s1)
  | opCall {all : Array Oper} {o : Oper} {r : List Oper} {s s1 : St} {c : Call} {f : FuncId} {cap args : List Value} {fn : Func} {v : Value} {h' : Heap} : wantedA all o s = some true →
      o.op = .call c → calleeA s c.callee = some (f, cap) → evs s c.args.toList = some args → N.P.funcs[f]? = some fn → (fn.name == "runtime.NumGoroutine") = false → fn.body.isNone = false →
      Ev N (.call f (args ++ cap) s.h v h') → Ev N (.ops all r ({ s with h := h' }.putO o.dst (.val v)) s1) → Ev N (.ops all (o :: r) s s1)
  | call {f : FuncId} {fn : Func} {c : Code} {args rs : List Value} {h : Heap} {e : AX} {s1 : St} : N.P.funcs[f]? = some fn → fn.body = some c → dstOK fn.ntmps c = true → args.length ≤ fn.ntmps →
      Ev N (.code c ⟨initFr args fn.ntmps, [], h⟩ e s1) → e = .normal ∨ e = .ret → resA N s1 fn.results.toList = some rs → Ev N (.call f args h (resV rs) s1.h)
  | fresh {f : FuncId} {h h' : Heap} {r : Value} : Ev N (.call f [] [] r h') → Scoped 0 r → Ev N (.call f [] h r h)
  | gc {f : FuncId} {args : List Value} {h h' : Heap} {r : Value} : Ev N (.call f args h r h') → Scoped h.length r → h'.take h.length = h → Ev N (.call f args h r h)
end Go.Proofs.Ytnlchlnkibpkaaa.Am
