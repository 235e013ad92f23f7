/- Several texts, one behind the other. -/
import Derived.WalkKit
import Derived.StillTail
import Derived.Scope
import Derived.Laws.BytesArg
import Derived.Maps.RangeRun
import Derived.Lib.UnsafeStr
import Derived.Lib.ConvBytes
import Derived.Maps.AppendAt
import Derived.LoopN
set_option linter.unusedSimpArgs false
set_option linter.unusedVariables false
set_option maxHeartbeats 8000000
namespace Go.Proofs.YtmdmimkbpikmoaaGreat.Am
open Go.RowKit
abbrev Key:=Nat×Bool×Bool
inductive av where
 | aA (cells:List Value) (ar:Nat) (own:Bool) (et:TypeId)
 | map (es:List (Value×Value))
inductive gu where
 | val (v:Value)
 | Cc (ks:List Key) (v:Value)
 | box (cs:List Value)
 | mx (cs:List Value) (n:Nat)
 | Eo (o:av) (n:Nat)
 | nn (id n:Nat) (seen:List Nat)
 | xf (s:ByteArray) (pos:Nat)
 | dH
def Hc:av→Nat→Nat→Value
 | .aA _ _ _ _,n,i=>.slice (some ⟨i,0,some 0⟩) n n
 | .map _,_,i=>.map (some i)
abbrev ah:=List av
abbrev Fr:=List (Nat×gu)
abbrev C9:=List (Nat×(List Key×(Nat×Nat)))
structure St where
 fr:Fr
 eH:C9
 h:ah
def aW:Fr→Nat→gu
 | [],_=>.dH
 | (k,v) :: r,i=>if k=i then v else aW r i
def fP:Fr→Nat→gu→Fr
 | [],i,v=>[(i,v)]
 | (k,u) :: r,i,v=>if k=i then (i,v) :: r else (k,u) :: fP r i v
def gn:C9→Nat→Option (List Key×(Nat×Nat))
 | [],_=>none
 | (k,v) :: r,i=>if k=i then some v else gn r i
def eX:C9→Nat→C9
 | [],_=>[]
 | (k,(g,(s,o))) :: r,i=>if k=i then eX r i else if s=i then eX r i else (k,(g,(s,o))) :: eX r i
def St.put (s:St) (d:Nat) (v:gu):St:={ s with fr:=fP s.fr d v,eH:=eX s.eH d }
def fc (ks:List Key):Bool:=ks.all fun k=>k.2.2
def nG:List Key→List Key→Option (List Key)
 | [],r=>some r
 | _ :: _,[]=>none
 | (d,w,c) :: ks,(d',w',c') :: r=>if d=d' then (if w=w' then (if c=c' then nG ks r else none) else none) else none
def zF (ks:List Key):gu→gu
 | .Cc k v=>match nG ks k with
   | some []=>.val v
   | some (x :: r)=>.Cc (x :: r) v
   | none=>.Cc k v
 | s=>s
def Fm (ks:List Key):Fr→Fr
 | []=>[]
 | (k,v) :: r=>(k,zF ks v) :: Fm ks r
def Cy (ks:List Key):C9→C9
 | []=>[]
 | (k,(g,p)) :: r=>(k,((match nG ks g with|some g'=>g' | none=>g),p)) :: Cy ks r
def St.sL (s:St) (ks:List Key):St:={ s with fr:=Fm ks s.fr,eH:=Cy ks s.eH }
def St.a9 (s:St) (d:Option Nat) (v:gu):St:=match d with|some d=>s.put d v|none=>s
def be:Value→Bool
 | .int _ _=>true
 | .bool _=>true
 | .string _=>true
 | .pointer none=>true
 | .slice none 0 0=>true
 | .map none=>true
 | .nilFunc=>true
 | .nilIface=>true
 | _=>false
def fT:Value→Bool
 | .agg cs=>cs.toList.all be
 | .tuple cs=>cs.toList.isEmpty
 | v=>be v
structure TI where
 agg:Bool
 size:Nat
 bytes:Nat
 zero:Option Value
def oY:TypeDesc→Bool
 | .struct _ | .array _ _=>true
 | _=>false
def aq (P:Program) (t:TypeId):Option TI:=
 match P.info? t,P.underlying t with
 | some i,some d=>some ⟨oY d,i.size,i.bytes,i.zero⟩
 | _,_=>none
def an (P:Program) (t:TypeId) (f:Nat):Option (Nat×TypeId):=
 match P.underlying t with
 | some (.struct fs)=>match fs[f]? with
   | some fd=>match P.info? fd.type with
     | some i=>if i.size=0 then none else some (fd.offset,fd.type)
     | none=>none
   | none=>none
 | _=>none
def ev (s:St):Operand→Option Value
 | .tmp t=>match aW s.fr t with | .val v=>some v|_=>none
 | .const v=>if fT v then some v else none
 | .func f=>some (.func (.func f) #[] #[])
 | .global _=>none
def pF (s:St):Operand→Option (Nat×Nat)
 | .tmp t=>match gn s.eH t with
   | some ([],p)=>some p
   | some (_ :: _,_)=>none
   | none=>match aW s.fr t with | .box _=>some (t,0) | _=>none
 | _=>none
def tT (s:St):List Operand→Option (List Value)
 | []=>some []
 | x :: r=>match ev s x,tT s r with
   | some v,some l=>some (v :: l)
   | _,_=>none
def vt (cells:List Value) (off n:Nat):Option (List Value):=if off+n≤cells.length then some ((cells.drop off).take n) else none
def ll (cells:List Value) (off:Nat) (vs:List Value):Option (List Value):=
 if off+vs.length≤cells.length then some (cells.take off++vs++cells.drop (off+vs.length)) else none
def JG (ti:TI) (cells:List Value) (off:Nat):Option Value:=
 if ti.agg then (vt cells off ti.size).map fun l=>.agg l.toArray else cells[off]?
def one (v:Value):Bool:=match v with | .agg _=>false | .tuple _=>false|_=>true
def dO (n:Nat) (v:Value):Option (List Value):=if v.cells.size=n∧v.cells.toList.all one=true then some v.cells.toList else none
def vO (op:BinOp) (k:IntKind) (a b:Int):Option Value:=
 match op with
 | .add=>some (.int k (k.wrap (a+b)))
 | .sub=>some (.int k (k.wrap (a-b)))
 | .mul=>some (.int k (k.wrap (a*b)))
 | .quo=>if b=0 then none else some (.int k (k.wrap (a.tdiv b)))
 | .rem=>if b=0 then none else some (.int k (a.tmod b))
 | .and=>some (.int k (k.wrap (BitVec.ofInt k.bits a &&& BitVec.ofInt k.bits b).toNat))
 | .or=>some (.int k (k.wrap (BitVec.ofInt k.bits a ||| BitVec.ofInt k.bits b).toNat))
 | .xor=>some (.int k (k.wrap (BitVec.ofInt k.bits a ^^^ BitVec.ofInt k.bits b).toNat))
 | .andNot=>some (.int k (k.wrap (BitVec.ofInt k.bits a &&& ~~~ BitVec.ofInt k.bits b).toNat))
 | .eql=>some (.bool (decide (a=b)))
 | .neq=>some (.bool (!decide (a=b)))
 | .lss=>some (.bool (decide (a<b)))
 | .leq=>some (.bool (decide (a≤b)))
 | .gtr=>some (.bool (decide (b<a)))
 | .geq=>some (.bool (decide (b≤a)))
 | _=>none
def lL (op:BinOp) (k:IntKind) (a b:Int):Option Value:=
 if b<0 then none else
 match op with
 | .shl=>some (.int k (k.wrap (a*2 ^ (min b.toNat k.bits))))
 | .shr=>some (.int k (a.fdiv (2 ^ (min b.toNat k.bits))))
 | _=>none
def xi (op:BinOp) (a b:ByteArray):Option Value:=
 match op with
 | .add=>if ((a.size+b.size:Nat):Int)≤9223372036854775807 then some (.string (a++b)) else none
 | .eql=>some (.bool (decide (a=b)))
 | .neq=>some (.bool (!decide (a=b)))
 | _=>none
def np:Value→Value→Bool
 | .int _ a,.int _ b=>decide (a=b)
 | .bool a,.bool b=>decide (a=b)
 | .string a,.string b=>decide (a=b)
 | _,_=>false
def jD:List Value→List Value→Bool
 | [],[]=>true
 | a :: r,b :: q=>np a b&&jD r q
 | _,_=>false
def Ez (P:Program) (t:TypeId) (chk:List Value→Bool):Prop:=
 ∀ xs ys:Array Value,chk xs.toList=true→chk ys.toList=true→P.eqGuardType P.depth t=false∧∀ w:World,(Op.equalIn 10000 t (.agg xs) (.agg ys)).run P w = .ok (jD xs.toList ys.toList) w
structure Env where
 P:Program
 KU:TypeId→Option (List Value→Bool)
 keys:TypeId→Option (Value→Bool)
 mA:FuncId→List Value→ah→Option (Value×ah)
def Tw (op:UnOp) (x:Value):Option Value:=
 match op,x with
 | .not,.bool b=>some (.bool (!b))
 | .neg,.int k n=>some (.int k (k.wrap (0-n)))
 | _,_=>none
def JX:Value→Option Bool
 | .slice none 0 0=>some true
 | .slice (some _) _ _=>some false
 | _=>none
def JI (N:Env) (op:BinOp) (t:TypeId) (a b:Value):Option Value:=
 match a,b with
 | .int k x,.int k' y=>match op with
   | .shl=>lL .shl k x y
   | .shr=>lL .shr k x y
   | _=>if k=k' then vO op k x y else none
 | .string x,.string y=>xi op x y
 | .bool x,.bool y=>match op,N.P.underlying t with
   | .eql,some .bool=>some (.bool (decide (x=y)))
   | .neq,some .bool=>some (.bool (!decide (x=y)))
   | _,_=>none
 | .agg xs,.agg ys=>match N.KU t with
   | some chk=>if chk xs.toList&&chk ys.toList then (match op with
     | .eql=>some (.bool (jD xs.toList ys.toList))
     | .neq=>some (.bool (!jD xs.toList ys.toList))
     | _=>none) else none
   | none=>none
 | .slice p _ _,.slice none 0 0=>match op,N.P.underlying t with
   | .eql,some (.slice _)=>some (.bool p.isNone)
   | .neq,some (.slice _)=>some (.bool !p.isNone)
   | _,_=>none
 | .pointer p,.pointer none=>match op,N.P.underlying t with
   | .eql,some (.pointer _)=>some (.bool p.isNone)
   | .neq,some (.pointer _)=>some (.bool !p.isNone)
   | _,_=>none
 | _,_=>none
def jU (cells:List Value) (off n:Nat):Option (List Value):=vt cells off n
def SQ (ti:TI) (cells:List Value) (off:Nat):Option Value:=
 if ti.agg then (jU cells off ti.size).map fun l=>.agg l.toArray else cells[off]?
def Vl (ti:TI) (h:ah) (a:Addr):Option Value:=
 match a.spot with
 | some ar=>match h[a.block]? with
   | some (.aA cells v _ _)=>if v=ar then SQ ti cells a.off else none
   | _=>none
 | none=>none
def pQ (N:Env) (s:St) (t:TypeId) (a:Operand):Option Value:=
 match aq N.P t with
 | none=>none
 | some ti=>match pF s a with
   | some (sl,off)=>match aW s.fr sl with
     | .box cs=>JG ti cs off
     | _=>none
   | none=>match ev s a with
     | some (.pointer (some ad))=>Vl ti s.h ad
     | _=>none
def tp (a:Addr) (n:Nat):Addr:=⟨a.block,a.off+n,a.spot⟩
def gi (N:Env) (s:St) (t:TypeId) (x:Operand) (f:Nat):Option Value:=
 match an N.P t f,ev s x with
 | some (o,_),some (.pointer (some a))=>some (.pointer (some (tp a o)))
 | _,_=>none
def gv (N:Env) (s:St) (t:TypeId) (x i:Operand):Option Value:=
 match N.P.underlying t,ev s x,ev s i with
 | some (.slice e),some (.slice (some a) len _),some (.int _ n)=>match aq N.P e with
   | some ti=>if 0≤n∧n<(len:Int) then some (.pointer (some (tp a (n.toNat*ti.size)))) else none
   | none=>none
 | some (.array m e),some (.pointer (some a)),some (.int _ n)=>match aq N.P e with
   | some ti=>if 0≤n∧n<(m:Int) then some (.pointer (some (tp a (n.toNat*ti.size)))) else none
   | none=>none
 | _,_,_=>none
def mZ (N:Env) (s:St) (t:TypeId) (x:Operand) (f:Nat):Option Value:=
 match an N.P t f,ev s x with
 | some (o,ft),some (.agg cs)=>match aq N.P ft with
   | some ti=>JG ti cs.toList o
   | none=>none
 | _,_=>none
def lG (N:Env) (s:St) (t:TypeId) (x i:Operand):Option Value:=
 match N.P.underlying t,ev s x,ev s i with
 | some (.array m e),some (.agg cs),some (.int _ n)=>match aq N.P e with
   | some ti=>if 0≤n∧n<(m:Int) then JG ti cs.toList (n.toNat*ti.size) else none
   | none=>none
 | some .string,some (.string b),some (.int _ n)=>if 0≤n then (match b[n.toNat]? with
   | some c=>some (.int .u8 c.toNat)
   | none=>none) else none
 | _,_,_=>none
def F3 (s:St) (d:Int):Option Operand→Option Int
 | none=>some d
 | some x=>match ev s x with
   | some (.int _ n)=>some n
   | _=>none
def mK (N:Env) (s:St) (t:TypeId) (x:Operand) (lo hi:Option Operand):Option Value:=
 match N.P.underlying t,ev s x with
 | some (.slice e),some (.slice a len cp)=>match aq N.P e,F3 s 0 lo,F3 s len hi with
   | some ti,some l,some h=>if 0≤l∧l≤h∧h≤(len:Int) then (match a with
     | none=>some (.slice none 0 0)
     | some a=>match a.spot,s.h[a.block]? with
       | some ar,some (.aA _ ver' _ et)=>if ar=ver'∧et=e then some (.slice (some (tp a (l.toNat*ti.size))) (h-l).toNat (h-l).toNat) else none
       | none,_=>if len=0∧cp=0 then some (.slice (some a) 0 0) else none
       | _,_=>none) else none
   | _,_,_=>none
 | some .string,some (.string b)=>match F3 s 0 lo,F3 s b.size hi with
   | some l,some h=>if 0≤l∧l≤h∧h≤(b.size:Int) then some (.string (b.extract l.toNat h.toNat)) else none
   | _,_=>none
 | _,_=>none
def Pc (N:Env) (t:TypeId) (x:Value):Option Value:=
 match N.P.underlying t,x with
 | some .string,.string b=>some (.int .i64 b.size)
 | some (.slice _),.slice _ n _=>some (.int .i64 n)
 | some (.array n _),_=>some (.int .i64 n)
 | _,_=>none
def pX:Value→Value→Bool
 | .agg xs,.agg ys=>jD xs.toList ys.toList
 | a,b=>np a b
def gQ:List (Value×Value)→Value→Option Value
 | [],_=>none
 | (k,v) :: r,x=>if pX x k then some v else gQ r x
def iU:List (Value×Value)→Value→Value→List (Value×Value)
 | [],x,v=>[(x,v)]
 | (k,u) :: r,x,v=>if pX x k then (k,v) :: r else (k,u) :: iU r x v
def la:List (Value×Value)→Value→Option (Nat×Value)
 | [],_=>none
 | (k,u) :: r,x=>if pX x k then some (0,u) else (la r x).map fun p=>(p.1+1,p.2)
def oJ (es:List (Value×Value)) (k z:Value):Value×Nat×List (Value×Value):=
 match la es k with
 | some (j,u)=>(u,j,es)
 | none=>(z,es.length,es++[(k,z)])
def eG (kd:Value→Bool) (es:List (Value×Value)):Bool:=es.all fun p=>kd p.1
def mapOf (s:St):Value→Option (List (Value×Value))
 | .map none=>some []
 | .map (some id)=>match s.h[id]? with
   | some (.map es)=>some es
   | _=>none
 | _=>none
def zeroOf (P:Program) (t:TypeId):Option Value:=
 match aq P t with
 | some ti=>match ti.zero with
   | some z=>if fT z then some z else none
   | none=>none
 | none=>none
def tK (N:Env) (s:St) (t:TypeId) (x i:Operand) (ok:Bool):Option Value:=
 match N.P.underlying t,ev s x,ev s i with
 | some (.map kt et),some m,some k=>match N.keys kt,mapOf s m,zeroOf N.P et with
   | some kd,some es,some z=>if kd k&&eG kd es then some (match gQ es k with
     | some v=>if ok then .tuple #[v,.bool true] else v
     | none=>if ok then .tuple #[z,.bool false] else z) else none
   | _,_,_=>none
 | _,_,_=>none
def nZ (b:Builtin) (x y:Value):Option Value:=
 match b,x,y with
 | .min,.int k a,.int k' b=>if k=k' then some (.int k (if b<a then b else a)) else none
 | .max,.int k a,.int k' b=>if k=k' then some (.int k (if a<b then b else a)) else none
 | _,_,_=>none
def Nm:Value→Option Value
 | .slice (some a) n _=>if 0<n then some (.pointer (some a)) else none
 | .slice none 0 0=>some (.pointer none)
 | _=>none
def Nh (tys:List TypeId) (p n:Value):Option Value:=
 match tys,p,n with
 | [_,_],.pointer _,.int .i64 0=>some (.string .empty)
 | _,_,_=>none
def jl (N:Env) (s:St) (b:Builtin) (args:Array Operand) (tys:Array TypeId):Option Value:=
 match b,tT s args.toList with
 | .len,some [x]=>match tys[0]? with
   | some t=>Pc N t x
   | none=>none
 | .min,some [x,y]=>nZ .min x y
 | .max,some [x,y]=>nZ .max x y
 | .unsafeSliceData,some [x]=>Nm x
 | .unsafeString,some [x,y]=>Nh tys.toList x y
 | _,_=>none
def Be (N:Env) (src dst:TypeId) (x:Value):Option Value:=
 match N.P.underlying src,N.P.underlying dst,x with
 | some _,some (.int k),.int _ n=>some (.int k (k.wrap n))
 | some _,some .string,.string b=>some (.string b)
 | _,_,_=>none
def GO:List Value→Option (List Int)
 | []=>some []
 | .int .u8 n :: r=>match GO r with
   | some l=>some (n :: l)
   | none=>none
 | _=>none
def wu (N:Env) (h:ah) (src dst:TypeId) (x:Value):Option Value:=
 match N.P.underlying src,N.P.underlying dst with
 | some (.slice e),some .string=>match N.P.underlying e with
   | some (.int .u8)=>match x with
     | .slice none 0 0=>some (.string ByteArray.empty)
     | .slice (some a) n c=>if n=0 then some (.string ByteArray.empty) else match a.spot with
       | none=>none
       | some ar=>match h[a.block]? with
         | some (.aA cells v _ _)=>if v=ar then (match jU cells a.off n with
           | some l=>match GO l with
             | some xs=>some (.string (strOfNums xs))
             | none=>none
           | none=>none) else none
         | _=>none
     | _=>none
   | _=>none
 | _,_=>none
def bL (b:ByteArray):List Value:=b.data.toList.map fun x=>.int .u8 x.toNat
def dX (place:Nat→Option (Nat×Nat)) (cells:List Value):List (Nat×Value)→Option (List Value)
 | []=>some cells
 | (i,v) :: r=>match place i with
   | none=>none
   | some (off,size)=>match dO size v with
     | none=>none
     | some vs=>match ll cells off vs with
       | none=>none
       | some cs=>dX place cs r
def iD (s:St):List (Nat×Operand)→Option (List (Nat×Value))
 | []=>some []
 | (i,x) :: r=>match ev s x,iD s r with
   | some v,some l=>some ((i,v) :: l)
   | _,_=>none
def placesOf (P:Program) (t:TypeId):Option (List (Nat×Nat)):=
 match P.underlying t with
 | some (.struct fs)=>fs.toList.mapM fun f=>(P.info? f.type).map fun i=>(f.offset,i.size)
 | _=>none
def sC (sz:Nat) (i:Nat):Option (Nat×Nat):=some (i*sz,sz)
def mS (N:Env) (s:St) (t:TypeId) (parts:Array (Nat×Operand)):Option Value:=
 match aq N.P t,iD s parts.toList with
 | some ti,some ps=>match ti.zero with
   | some z=>if fT z&&z.cells.toList.all one then (match N.P.underlying t with
     | some (.struct _)=>match placesOf N.P t with
       | some pl=>(dX (fun i=>pl[i]?) z.cells.toList ps).map fun l=>.agg l.toArray
       | none=>none
     | some (.array _ e)=>match aq N.P e with
       | some te=>(dX (sC te.size) z.cells.toList ps).map fun l=>.agg l.toArray
       | none=>none
     | _=>none) else none
   | none=>none
 | _,_=>none
def j9 (s:St) (c:Operand) (t want:Bool):Operand→Option Value
 | .tmp r=>match aW s.fr r with
   | .val v=>some v
   | .Cc [(d,w,q)] v=>match c with
     | .tmp e=>if d=e then (if w=want then (if q=(t == want) then some v else none) else none) else none
     | _=>none
   | _=>none
 | x=>ev s x
def tD (s:St) (c:Operand) (t:Bool) (a b:Operand):Option Value:=
 match j9 s c t true a,j9 s c t false b with
 | some (.bool x),some (.bool y)=>some (.bool (bif t then x else y))
 | _,_=>match t with
   | true=>ev s a
   | false=>ev s b
def AM (s:St):Operand→Option Value
 | .tmp x=>match aW s.fr x with
   | .nn id n seen=>match seen.getLast?,s.h[id]? with
     | some i,some (.map es)=>if es.length=n then (match es[i]? with
       | some (k,v)=>if fT k then some (.tuple #[k,v]) else none
       | none=>none) else none
     | _,_=>none
   | _=>none
 | _=>none
def rz (N:Env) (s:St):Op→Option Value
 | .move x=>ev s x
 | .assign x=>ev s x
 | .pick c a b=>match ev s c with
   | some (.bool t)=>tD s c t a b
   | _=>none
 | .build t parts=>mS N s t parts
 | .load t a=>pQ N s t a
 | .binOp op t x y _=>match ev s x,ev s y with
   | some a,some b=>JI N op t a b
   | _,_=>none
 | .unOp op _ x=>match ev s x with
   | some a=>Tw op a
   | none=>none
 | .convert src dst x=>match ev s x with
   | some a=>match Be N src dst a with
     | some v=>some v
     | none=>wu N s.h src dst a
   | none=>none
 | .fieldAddr t x f=>gi N s t x f
 | .indexAddr t x i=>gv N s t x i
 | .field t x f=>mZ N s t x f
 | .index t x i=>lG N s t x i
 | .slice t x lo hi none=>mK N s t x lo hi
 | .lookup t x i ok=>tK N s t x i ok
 | .extract x k=>match ev s x with
   | some (.tuple vs)=>vs[k]?
   | _=>none
 | .makeFunc (.func f) first captured=>if first.toList.isEmpty then (tT s captured.toList).map fun l=>.func (.func f) #[] l.toArray else none
 | .call c=>match c.callee with
   | .builtin b=>jl N s b c.args c.argTypes
   | _=>none
 | .nilCheck x=>match ev s x with
   | some (.pointer (some a))=>some (.pointer (some a))
   | some (.func (.func f) a b)=>some (.func (.func f) a b)
   | _=>none
 | .entry x=>AM s x
 | _=>none
def xx (N:Env) (s:St):Op→Option (Nat×Nat)
 | .fieldAddr t x f=>match an N.P t f,pF s x with
   | some (o,_),some (sl,off)=>some (sl,off+o)
   | _,_=>none
 | .indexAddr t x i=>match N.P.underlying t,pF s x,ev s i with
   | some (.array m e),some (sl,off),some (.int _ n)=>match aq N.P e with
     | some ti=>if 0≤n∧n<(m:Int) then some (sl,off+n.toNat*ti.size) else none
     | none=>none
   | _,_,_=>none
 | .move x=>pF s x
 | .nilCheck x=>pF s x
 | _=>none
def aF (all:Array Oper) (o:Oper) (s:St):Option Bool:=
 match o.guard with
 | none=>some true
 | some (j,want)=>match all[j]? with
   | none=>some false
   | some q=>match q.dst with
     | none=>some false
     | some d=>match aW s.fr d with
       | .val (.bool b)=>some (b == want)
       | .val (.tuple _)=>some false
       | _=>none
def pS (all:Array Oper) (o:Oper) (s:St):Option (List Key):=
 match o.guard with
 | none=>none
 | some (j,want)=>match all[j]? with
   | none=>none
   | some q=>match q.dst with
     | none=>none
     | some d=>match aW s.fr d with
       | .val (.bool c)=>some [(d,want,c == want)]
       | .Cc ks (.bool c)=>some (ks++[(d,want,c == want)])
       | _=>none
def iA (N:Env) (s:St):Op→Option (TypeId×List Value)
 | .alloc t=>match aq N.P t with
   | some ti=>match ti.zero with
     | some z=>if fT z then (dO ti.size z).map fun cs=>(t,cs) else none
     | none=>none
   | none=>none
 | .box t x=>match aq N.P t,ev s x with
   | some ti,some v=>(dO ti.size v).map fun cs=>(t,cs)
   | _,_=>none
 | _=>none
def jw (N:Env) (s:St):Op→Option (TypeId×List Value×Nat)
 | .buildSlice t len parts=>match N.P.underlying t with
   | some (.slice e)=>match aq N.P e,iD s parts.toList with
     | some ti,some ps=>match ti.zero with
       | some z=>if fT z&&z.cells.toList.all one&&decide (z.cells.size=ti.size)&&decide (0<ti.size)&&decide (len*ti.size≤16777216) then
        (dX (sC ti.size) (List.replicate len z.cells.toList).flatten ps).map fun cs=>(e,cs,len)
         else none
       | none=>none
     | _,_=>none
   | _=>none
 | _=>none
def zL (N:Env) (s:St):Op→Option (TypeId×List Value×Nat)
 | .makeSlice t l c=>match N.P.underlying t,ev s l,ev s c with
   | some (.slice e),some (.int .i64 n),some (.int .i64 n')=>match aq N.P e with
     | some ti=>match ti.zero with
       | some z=>if fT z&&z.cells.toList.all one&&decide (z.cells.size=ti.size)&&decide (0<ti.size)&&decide (n=n')&&decide (0≤n)&&decide ((ti.bytes:Int)*n≤140737488355328)&&decide (n≤140737488355328) then
        some (e,(List.replicate n.toNat z.cells.toList).flatten,n.toNat)
         else none
       | none=>none
     | none=>none
   | _,_,_=>none
 | _=>none
def cd (s:St) (h:ah) (sz:Nat):Operand→Option (List Value×Nat)
 | .tmp t=>match aW s.fr t with
   | .mx cs n=>if cs.length=n*sz then some (cs,n) else none
   | .val (.slice (some ⟨id,off,some ar⟩) n _)=>match h[id]? with
     | some (.aA cells v _ _)=>if v=ar then (jU cells off (n*sz)).map fun l=>(l,n) else none
     | _=>none
   | _=>none
 | _=>none
inductive AX where
 | normal
 | exit (id:Nat)
 | ret
def AX.inBlock (id:Nat):AX→AX
 | .exit id'=>if id'=id then .normal else .exit id'
 | e=>e
def jS (args:List Value) (n:Nat):Fr:=(args++List.replicate (n-args.length) (Value.tuple #[])).zipIdx.map fun p=>(p.2,gu.val p.1)
def tx (N:Env) (s:St):List ResultVar→Option (List Value)
 | []=>some []
 | .tmp t :: r=>match ev s (.tmp t),tx N s r with
   | some v,some l=>some (v :: l)
   | _,_=>none
 | .cell a t :: r=>match pQ N s t (.tmp a),tx N s r with
   | some v,some l=>some (v :: l)
   | _,_=>none
def cI:List Value→Value
 | [v]=>v
 | l=>.tuple l.toArray
def pG (f0 f:Fr):Prop:=∀ p∈f0,aW f p.1=p.2
inductive dv (n:Nat):Value→Prop
 | be {v:Value}:be v=true→dv n v
 | En {cs:Array Value}:(∀ (i:Nat) (v:Value),cs[i]? = some v→dv n v)→dv n (.tuple cs)
 | agg {cs:Array Value}:(∀ (i:Nat) (v:Value),cs[i]? = some v→dv n v)→dv n (.agg cs)
 | ptr {id off ar:Nat}:id<n→dv n (.pointer (some ⟨id,off,some ar⟩))
 | slice {id off ar len c:Nat}:id<n→dv n (.slice (some ⟨id,off,some ar⟩) len c)
 | map {id:Nat}:id<n→dv n (.map (some id))
def Rf (n:Nat):av→Prop
 | .aA cells _ _ _=>∀ v∈cells,dv n v
 | .map es=>∀ p∈es,dv n p.2
inductive Gh where
 | code (c:Code) (s:St) (e:AX) (s':St)
 | hZ (c:Code) (s:St) (Q:AX→St→Prop)
 | iter (c:Code) (s:St) (e:AX) (s':St)
 | ops (all:Array Oper) (l:List Oper) (s s':St)
 | call (f:FuncId) (args:List Value) (h:ah) (r:Value) (h':ah)
def iP (n:Nat) (l:List Oper):Bool:=l.all fun o=>match o.dst with|some d=>decide (d<n) | none=>true
def ef (n:Nat):Code→Bool
 | .seq a b=>ef n a&&ef n b
 | .cond _ a b=>ef n a&&ef n b
 | .block _ c=>ef n c
 | .loop c=>ef n c
 | .scope c=>ef n c
 | .region _ ops _=>iP n ops.toList
 | _=>true
def fH (s:St):Callee→Option (FuncId×List Value)
 | .value f=>match ev s f with
   | some (.func (.func g) first captured)=>if first.toList.isEmpty then some (g,captured.toList) else none
   | _=>none
 | _=>none
inductive oz (N:Env) (all:Array Oper):List Oper→St→St→Prop
 | nil (s:St):oz N all [] s s
 | skip {o:Oper} {r:List Oper} {s s1:St}:aF all o s=some false→oz N all r (s.a9 o.dst (.val (.tuple #[]))) s1→oz N all (o :: r) s s1
 | val {o:Oper} {r:List Oper} {s s1:St} {v:Value}:aF all o s=some true→rz N s o.op=some v→oz N all r (s.a9 o.dst (.val v)) s1→oz N all (o :: r) s s1
 | eH {o:Oper} {r:List Oper} {s s1:St} {d sl off:Nat}:aF all o s=some true→o.dst=some d→xx N s o.op=some (sl,off)→sl≠d →
  oz N all r { s with fr:=fP s.fr d .dH,eH:=(d,([],(sl,off))) :: eX s.eH d } s1→oz N all (o :: r) s s1
 | spec {o:Oper} {r:List Oper} {s s1:St} {ks:List Key} {v:Value} {d:Nat}:pS all o s=some ks→rz N (s.sL ks) o.op=some v→o.dst=some d→oz N all r (s.put d (.Cc ks v)) s1→oz N all (o :: r) s s1
 | KQ {o:Oper} {r:List Oper} {s s1:St} {ks:List Key} {d sl off:Nat}:pS all o s=some ks→xx N (s.sL ks) o.op=some (sl,off)→o.dst=some d→sl≠d →
  oz N all r { s with fr:=fP s.fr d .dH,eH:=(d,(ks,(sl,off))) :: eX s.eH d } s1→oz N all (o :: r) s s1
inductive Ev (N:Env):Gh→Prop
 | skip (s:St):Ev N (.code .skip s .normal s)
 | label (l:Nat) (s:St):Ev N (.code (.label l) s .normal s)
 | exit (id:Nat) (s:St):Ev N (.code (.exit id) s (.exit id) s)
 | ret (s:St):Ev N (.code .ret s .ret s)
 | NB {a b:Code} {s s1 s2:St} {e:AX}:Ev N (.code a s .normal s1)→Ev N (.code b s1 e s2)→Ev N (.code (.seq a b) s e s2)
 | IR {a b:Code} {s s1:St} {e:AX}:Ev N (.code a s e s1)→e≠.normal→Ev N (.code (.seq a b) s e s1)
 | cond {c:Operand} {x y:Code} {s s1:St} {e:AX} {t:Bool}:ev s c=some (.bool t)→Ev N (.code (if t then x else y) s e s1)→Ev N (.code (.cond c x y) s e s1)
 | block {id:Nat} {c:Code} {s s1:St} {e:AX}:Ev N (.code c s e s1)→Ev N (.code (.block id c) s (e.inBlock id) s1)
 | scope {c:Code} {s s1:St} {e:AX}:Ev N (.code c s e s1)→Ev N (.code (.scope c) s e s1)
 | loop {c:Code} {s s1:St} {e:AX}:Ev N (.iter c s e s1)→Ev N (.code (.loop c) s e s1)
 | Bh {c:Code} {s s1:St} {e:AX}:Ev N (.code c s e s1)→e≠.normal→Ev N (.iter c s e s1)
 | GI {c:Code} {s s1 s2:St} {e:AX}:Ev N (.code c s .normal s1)→Ev N (.iter c s1 e s2)→Ev N (.iter c s e s2)
 | region {id:Nat} {ops:Array Oper} {s s1:St}:Ev N (.ops ops ops.toList { s with eH:=[] } s1)→Ev N (.code (.region id ops false) s .normal s1)
 | Cd {id n:Nat} {ops:Array Oper} {s s1 s2:St}:N.P.follows .mixedOrders=true→Region.lexTailB .any ops n=true→oz N ops (ops.toList.take n) { s with eH:=[] } s1→Ev N (.ops ops (ops.toList.drop n) s1 s2) →
  Ev N (.code (.region id ops true) s .normal s2)
 | vS {id:Nat} {ops:Array Oper} {s sF:St} (Inv:Array Bool→St→Prop) (nxt:Array Bool→St→Nat→St):N.P.follows .mixedOrders=true→Inv (Array.replicate ops.size false) { s with eH:=[] } →
  (∀ S t i o,Inv S t→i∈Region.ready .any ops S→ops[i]? = some o→Ev N (.ops ops [o] t (nxt S t i))) →
  (∀ S t i o,Inv S t→i∈Region.ready .any ops S→ops[i]? = some o→Inv (S.setIfInBounds i true) (nxt S t i)) →
  (∀ S t,Inv S t→Region.ready .any ops S=[]→pG sF.fr t.fr∧sF.h=t.h)→sF.eH=[]→Ev N (.code (.region id ops true) s .normal sF)
 | ss {c:Code} {s s0 s1:St} {e:AX}:pG s0.fr s.fr→s0.h=s.h→s0.eH=[]→Ev N (.code c s0 e s1)→Ev N (.code c s e s1)
 | RE {c:Code} {s s0 s1:St} {e:AX}:pG s0.fr s.fr→s0.h=s.h→s0.eH=[]→Ev N (.iter c s0 e s1)→Ev N (.iter c s e s1)
 | nil (all:Array Oper) (s:St):Ev N (.ops all [] s s)
 | pa {all:Array Oper} {o:Oper} {r:List Oper} {s s1:St}:aF all o s=some false→Ev N (.ops all r (s.a9 o.dst (.val (.tuple #[]))) s1)→Ev N (.ops all (o :: r) s s1)
 | rP {all:Array Oper} {o:Oper} {r:List Oper} {s s1:St} {v:Value}:aF all o s=some true→rz N s o.op=some v→Ev N (.ops all r (s.a9 o.dst (.val v)) s1)→Ev N (.ops all (o :: r) s s1)
 | xE {all:Array Oper} {o:Oper} {r:List Oper} {s s1:St} {d sl off:Nat}:aF all o s=some true→o.dst=some d→xx N s o.op=some (sl,off)→sl≠d →
  Ev N (.ops all r { s with fr:=fP s.fr d .dH,eH:=(d,([],(sl,off))) :: eX s.eH d } s1)→Ev N (.ops all (o :: r) s s1)
 | xj {all:Array Oper} {o:Oper} {r:List Oper} {s s1:St} {ks:List Key} {v:Value} {d:Nat}:pS all o s=some ks→rz N (s.sL ks) o.op=some v→o.dst=some d →
  Ev N (.ops all r (s.put d (.Cc ks v)) s1)→Ev N (.ops all (o :: r) s s1)
 | rA {all:Array Oper} {o:Oper} {r:List Oper} {s s1:St} {ks:List Key} {d sl off:Nat}:pS all o s=some ks→xx N (s.sL ks) o.op=some (sl,off)→o.dst=some d→sl≠d →
  Ev N (.ops all r { s with fr:=fP s.fr d .dH,eH:=(d,(ks,(sl,off))) :: eX s.eH d } s1)→Ev N (.ops all (o :: r) s s1)
 | uL {all:Array Oper} {o:Oper} {r:List Oper} {s s1:St} {d:Nat} {t:TypeId} {cs:List Value}:aF all o s=some true→o.dst=some d→iA N s o.op=some (t,cs) →
  Ev N (.ops all r (s.put d (.box cs)) s1)→Ev N (.ops all (o :: r) s s1)
 | xI {all:Array Oper} {o:Oper} {r:List Oper} {s s1:St} {d n:Nat} {t:TypeId} {cs:List Value}:aF all o s=some true→o.dst=some d→jw N s o.op=some (t,cs,n) →
  Ev N (.ops all r (s.put d (.mx cs n)) s1)→Ev N (.ops all (o :: r) s s1)
 | pE {all:Array Oper} {o:Oper} {r:List Oper} {s s1:St} {t:TypeId} {cs:List Value}:aF all o s=some true→iA N s o.op=some (t,cs) →
  Ev N (.ops all r ({ s with h:=s.h++[av.aA cs 0 true t] }.a9 o.dst (.val (.pointer (some ⟨s.h.length,0,some 0⟩)))) s1)→Ev N (.ops all (o :: r) s s1)
 | o6 {all:Array Oper} {o:Oper} {r:List Oper} {s s1:St} {n:Nat} {t:TypeId} {cs:List Value}:aF all o s=some true→jw N s o.op=some (t,cs,n) →
  Ev N (.ops all r ({ s with h:=s.h++[av.aA cs 0 true t] }.a9 o.dst (.val (.slice (some ⟨s.h.length,0,some 0⟩) n n))) s1)→Ev N (.ops all (o :: r) s s1)
 | DS {all:Array Oper} {o:Oper} {r:List Oper} {s s1:St} {n:Nat} {t:TypeId} {cs:List Value}:aF all o s=some true→zL N s o.op=some (t,cs,n) →
  Ev N (.ops all r ({ s with h:=s.h++[av.aA cs 0 true t] }.a9 o.dst (.val (.slice (some ⟨s.h.length,0,some 0⟩) n n))) s1)→Ev N (.ops all (o :: r) s s1)
 | yg {all:Array Oper} {o:Oper} {r:List Oper} {s s1:St} {t:TypeId} {a x:Operand} {ti:TI} {sl off:Nat} {cs vs cs':List Value} {v:Value}:aF all o s=some true →
  o.op = .store t a x→aq N.P t=some ti→pF s a=some (sl,off)→aW s.fr sl = .box cs→ev s x=some v→dO ti.size v=some vs→ll cs off vs=some cs'→o.dst=none →
  Ev N (.ops all r { s with fr:=fP s.fr sl (.box cs') } s1)→Ev N (.ops all (o :: r) s s1)
 | pz {all:Array Oper} {o:Oper} {r:List Oper} {s s1:St} {t et:TypeId} {a x:Operand} {ti:TI} {id off ar:Nat} {cells vs cells':List Value} {v:Value}:aF all o s=some true →
  o.op = .store t a x→aq N.P t=some ti→ev s a=some (.pointer (some ⟨id,off,some ar⟩))→s.h[id]? = some (.aA cells ar true et)→ev s x=some v→dO ti.size v=some vs →
  ll cells off vs=some cells'→o.dst=none →
  Ev N (.ops all r { s with h:=s.h.set id (av.aA cells' ar true et) } s1)→Ev N (.ops all (o :: r) s s1)
 | Ff {all:Array Oper} {o:Oper} {r:List Oper} {s s1:St} {t e et:TypeId} {x:Operand} {id off ar n c:Nat} {cells:List Value}:aF all o s=some true →
  o.op = .convert t t x→N.P.underlying t=some (.slice e)→N.P.underlying e=some (.int .u8)→ev s x=some (.slice (some ⟨id,off,some ar⟩) n c)→s.h[id]? = some (.aA cells ar true et)→0<n →
  Ev N (.ops all r ({ s with h:=s.h.set id (av.aA cells ar false et) }.a9 o.dst (.val (.slice (some ⟨id,off,some ar⟩) n c))) s1)→Ev N (.ops all (o :: r) s s1)
 | BV {all:Array Oper} {o:Oper} {r:List Oper} {s s1:St} {d n:Nat} {t:TypeId} {cs:List Value}:aF all o s=some true→o.dst=some d→zL N s o.op=some (t,cs,n) →
  Ev N (.ops all r (s.put d (.Eo (.aA cs 0 true t) n)) s1)→Ev N (.ops all (o :: r) s s1)
 | xv {all:Array Oper} {o:Oper} {r:List Oper} {s s1:St} {d:Nat} {t kt et:TypeId}:aF all o s=some true→o.dst=some d→o.op = .makeMap t none→N.P.underlying t=some (.map kt et) →
  Ev N (.ops all r (s.put d (.Eo (.map []) 0)) s1)→Ev N (.ops all (o :: r) s s1)
 | EZ {all:Array Oper} {o:Oper} {r:List Oper} {s s1:St} {d n:Nat} {x:av}:aW s.fr d = .Eo x n →
  Ev N (.ops all (o :: r) ({ (s.put d .dH) with h:=s.h++[x] }.put d (.val (Hc x n s.h.length))) s1)→Ev N (.ops all (o :: r) s s1)
 | BE {all:Array Oper} {o:Oper} {r:List Oper} {s s0 s1:St}:pG s0.fr s.fr→s0.h=s.h→s0.eH=[]→Ev N (.ops all (o :: r) s0 s1)→Ev N (.ops all (o :: r) s s1)
 | uJ {all:Array Oper} {o:Oper} {r:List Oper} {s s1:St} {t kt et:TypeId}:aF all o s=some true→o.op = .makeMap t none→N.P.underlying t=some (.map kt et) →
  Ev N (.ops all r ({ s with h:=s.h++[av.map []] }.a9 o.dst (.val (.map (some s.h.length)))) s1)→Ev N (.ops all (o :: r) s s1)
 | um {all:Array Oper} {o:Oper} {r:List Oper} {s s1:St} {t kt et:TypeId} {x i y:Operand} {id:Nat} {es:List (Value×Value)} {kd:Value→Bool} {k v:Value}:aF all o s=some true →
  o.op = .mapUpdate t x i y→N.P.underlying t=some (.map kt et)→N.keys kt=some kd→ev s x=some (.map (some id))→s.h[id]? = some (.map es)→ev s i=some k→ev s y=some v→kd k=true→eG kd es=true→o.dst=none →
  Ev N (.ops all r { s with h:=s.h.set id (av.map (iU es k v)) } s1)→Ev N (.ops all (o :: r) s s1)
 | zC {all:Array Oper} {o:Oper} {r:List Oper} {s s1:St} {t kt et:TypeId} {x i:Operand} {id j:Nat} {es es':List (Value×Value)} {kd:Value→Bool} {k z v:Value}:aF all o s=some true →
  o.op = .mapEntry t x i→N.P.underlying t=some (.map kt et)→N.keys kt=some kd→zeroOf N.P et=some z→ev s x=some (.map (some id))→s.h[id]? = some (.map es)→ev s i=some k→kd k=true→eG kd es=true→oJ es k z=(v,j,es') →
  Ev N (.ops all r ({ s with h:=s.h.set id (av.map es') }.a9 o.dst (.val (.tuple #[v,.int .i64 j]))) s1)→Ev N (.ops all (o :: r) s s1)
 | xM {all:Array Oper} {o:Oper} {r:List Oper} {s s1:St} {t:TypeId} {x y i:Operand} {id j:Nat} {es:List (Value×Value)} {k u v:Value}:aF all o s=some true →
  o.op = .entryStore t x i y→ev s x=some (.map (some id))→s.h[id]? = some (.map es)→ev s i=some (.int .i64 j)→ev s y=some v→es[j]? = some (k,u)→o.dst=none →
  Ev N (.ops all r { s with h:=s.h.set id (av.map (es.set j (k,v))) } s1)→Ev N (.ops all (o :: r) s s1)
 | oF {all:Array Oper} {o:Oper} {r:List Oper} {s s1:St} {x y:Operand} {t t2 e:TypeId} {ti:TI} {cs:List Value} {m:Nat}:aF all o s=some true →
  o.op = .call { callee:=.builtin .append,args:=#[x,y],argTypes:=#[t,t2] }→N.P.underlying t=some (.slice e)→t2=t→aq N.P e=some ti→0<ti.size →
  (ti.zero.map fun z=>z.cells.size)=some ti.size→ev s x=some (.slice none 0 0)→cd s s.h ti.size y=some (cs,m)→0<m→m*ti.bytes≤140737488355328→m≤140737488355328 →
  Ev N (.ops all r ({ s with h:=s.h++[av.aA cs 0 true e] }.a9 o.dst (.val (.slice (some ⟨s.h.length,0,some 0⟩) m m))) s1)→Ev N (.ops all (o :: r) s s1)
 | uR {all:Array Oper} {o:Oper} {r:List Oper} {s s1:St} {x y:Operand} {t t2 e:TypeId} {ti:TI} {cs cells:List Value} {m n c id ar:Nat}:aF all o s=some true →
  o.op = .call { callee:=.builtin .append,args:=#[x,y],argTypes:=#[t,t2] }→N.P.underlying t=some (.slice e)→t2=t→aq N.P e=some ti→0<ti.size →
  (ti.zero.map fun z=>z.cells.size)=some ti.size→ev s x=some (.slice (some ⟨id,0,some ar⟩) n c)→s.h[id]? = some (.aA cells ar true e)→n*ti.size≤cells.length →
  cd s s.h ti.size y=some (cs,m)→(n+m)*ti.bytes≤140737488355328→n+m≤140737488355328 →
  Ev N (.ops all r ({ s with h:=s.h.set id (av.aA (cells.take (n*ti.size)++cs) (ar+1) true e) }.a9 o.dst (.val (.slice (some ⟨id,0,some (ar+1)⟩) (n+m) (n+m)))) s1)→Ev N (.ops all (o :: r) s s1)
 | s9 {all:Array Oper} {o:Oper} {r:List Oper} {s s1:St} {x y:Operand} {t t2 e:TypeId} {ti:TI} {p q:Option Addr} {n c c':Nat}:aF all o s=some true →
  o.op = .call { callee:=.builtin .append,args:=#[x,y],argTypes:=#[t,t2] }→N.P.underlying t=some (.slice e)→t2=t→aq N.P e=some ti →
  ev s x=some (.slice p n c)→ev s y=some (.slice q 0 c')→Ev N (.ops all r (s.a9 o.dst (.val (.slice p n c))) s1)→Ev N (.ops all (o :: r) s s1)
 | qX {all:Array Oper} {o:Oper} {r:List Oper} {s s1:St} {x y:Operand} {t t2 e:TypeId} {ti:TI} {b:ByteArray}:aF all o s=some true →
  o.op = .call { callee:=.builtin .append,args:=#[x,y],argTypes:=#[t,t2] }→N.P.underlying t=some (.slice e)→N.P.underlying t2=some .string→aq N.P e=some ti→ti.size=1→ti.bytes=1→ti.zero=some (.int .u8 0) →
  ev s x=some (.slice none 0 0)→ev s y=some (.string b)→0<b.size→b.size≤140737488355328 →
  Ev N (.ops all r ({ s with h:=s.h++[av.aA (bL b) 0 true e] }.a9 o.dst (.val (.slice (some ⟨s.h.length,0,some 0⟩) b.size b.size))) s1)→Ev N (.ops all (o :: r) s s1)
 | rW {all:Array Oper} {o:Oper} {r:List Oper} {s s1:St} {x y:Operand} {t t2 e:TypeId} {ti:TI} {cells:List Value} {n c id ar:Nat} {b:ByteArray}:aF all o s=some true →
  o.op = .call { callee:=.builtin .append,args:=#[x,y],argTypes:=#[t,t2] }→N.P.underlying t=some (.slice e)→N.P.underlying t2=some .string→aq N.P e=some ti→ti.size=1→ti.bytes=1→ti.zero=some (.int .u8 0) →
  ev s x=some (.slice (some ⟨id,0,some ar⟩) n c)→s.h[id]? = some (.aA cells ar true e)→n≤cells.length→ev s y=some (.string b)→n+b.size≤140737488355328 →
  Ev N (.ops all r ({ s with h:=s.h.set id (av.aA (cells.take n++bL b) (ar+1) true e) }.a9 o.dst (.val (.slice (some ⟨id,0,some (ar+1)⟩) (n+b.size) (n+b.size)))) s1)→Ev N (.ops all (o :: r) s s1)
 | wJ {all:Array Oper} {o:Oper} {r:List Oper} {s s1:St} {x y:Operand} {t t2 e:TypeId} {ti:TI} {b:ByteArray}:aF all o s=some true →
  o.op = .call { callee:=.builtin .append,args:=#[x,y],argTypes:=#[t,t2] }→N.P.underlying t=some (.slice e)→N.P.underlying t2=some .string→aq N.P e=some ti→ti.size=1→ti.bytes=1→ti.zero=some (.int .u8 0) →
  ev s x=some (.slice none 0 0)→ev s y=some (.string b)→b.size=0→Ev N (.ops all r (s.a9 o.dst (.val (.slice none 0 0))) s1)→Ev N (.ops all (o :: r) s s1)
 | zA {all:Array Oper} {o:Oper} {r:List Oper} {s s1:St} {t t2 e:TypeId} {ti:TI} {x:Operand} {b:ByteArray}:aF all o s=some true→o.op = .convert t t2 x→N.P.underlying t=some .string→N.P.underlying t2=some (.slice e)→N.P.underlying e=some (.int .u8) →
  aq N.P e=some ti→ti.size=1→ev s x=some (.string b)→b.size≤140737488355328 →
  Ev N (.ops all r ({ s with h:=s.h++[av.aA (bL b) 0 false e] }.a9 o.dst (.val (.slice (some ⟨s.h.length,0,some 0⟩) b.size b.size))) s1)→Ev N (.ops all (o :: r) s s1)
 | xn {all:Array Oper} {o:Oper} {r:List Oper} {s s1:St} {t t2 e:TypeId} {ti:TI} {x y:Operand} {b:ByteArray} {id ar:Nat} {cells:List Value}:aF all o s=some true→o.op = .call { callee:=.builtin .unsafeString,args:=#[x,y],argTypes:=#[t,t2] } →
  N.P.underlying t=some (.pointer e)→aq N.P e=some ti→ti.size=1→ev s x=some (.pointer (some ⟨id,0,some ar⟩))→s.h[id]? = some (.aA cells ar true e)→ev s y=some (.int .i64 b.size)→0<b.size→b.size≤140737488355328→cells.take b.size=bL b →
  Ev N (.ops all r ({ s with h:=s.h.set id (av.aA cells ar false e) }.a9 o.dst (.val (.string b))) s1)→Ev N (.ops all (o :: r) s s1)
 | oM {all:Array Oper} {o:Oper} {r:List Oper} {s s1:St} {c:Call} {f:FuncId} {cap args:List Value} {fn:Func} {v:Value} {h':ah}:aF all o s=some true →
  o.op = .call c→fH s c.callee=some (f,cap)→tT s c.args.toList=some args→N.P.funcs[f]? = some fn→(fn.name == "runtime.NumGoroutine")=false→fn.body.isNone=false →
  Ev N (.call f (args++cap) s.h v h')→Ev N (.ops all r ({ s with h:=h' }.a9 o.dst (.val v)) s1)→Ev N (.ops all (o :: r) s s1)
 | call {f:FuncId} {fn:Func} {c:Code} {args rs:List Value} {h:ah} {e:AX} {s1:St}:N.P.funcs[f]? = some fn→fn.body=some c→ef fn.ntmps c=true→args.length≤fn.ntmps →
  Ev N (.code c ⟨jS args fn.ntmps,[],h⟩ e s1)→e = .normal∨e = .ret→tx N s1 fn.results.toList=some rs→Ev N (.call f args h (cI rs) s1.h)
 | mj {all:Array Oper} {o:Oper} {r:List Oper} {s s1:St} {d id:Nat} {t kt et:TypeId} {x:Operand} {es:List (Value×Value)}:aF all o s=some true→o.dst=some d→o.op = .range t x →
  N.P.underlying t=some (.map kt et)→ev s x=some (.map (some id))→s.h[id]? = some (.map es)→Ev N (.ops all r (s.put d (.nn id es.length [])) s1)→Ev N (.ops all (o :: r) s s1)
 | j7 {all:Array Oper} {o:Oper} {r:List Oper} {s s1:St} {d:Nat} {t:TypeId} {x:Operand} {b:ByteArray}:aF all o s=some true→o.dst=some d→o.op = .range t x →
  N.P.underlying t=some .string→ev s x=some (.string b)→Ev N (.ops all r (s.put d (.xf b 0)) s1)→Ev N (.ops all (o :: r) s s1)
 | nL {all:Array Oper} {o:Oper} {r:List Oper} {s s1:St} {x p c k:Nat} {b:ByteArray}:aF all o s=some true→o.op = .next (.tmp x) true→aW s.fr x = .xf b p→p<b.size→Utf8.decode b p=(c,k) →
  Ev N (.ops all r ({ s with fr:=fP s.fr x (.xf b (p+k)) }.a9 o.dst (.val (.tuple #[.bool true,.int .i64 p,.int .i32 c]))) s1)→Ev N (.ops all (o :: r) s s1)
 | nQ {all:Array Oper} {o:Oper} {r:List Oper} {s s1:St} {x p:Nat} {b:ByteArray}:aF all o s=some true→o.op = .next (.tmp x) true→aW s.fr x = .xf b p→b.size≤p →
  Ev N (.ops all r (s.a9 o.dst (.val (.tuple #[.bool false]))) s1)→Ev N (.ops all (o :: r) s s1)
 | qZ {all:Array Oper} {o:Oper} {r:List Oper} {s s1:St} {x m n i:Nat} {seen:List Nat} {es:List (Value×Value)} {k v:Value}:aF all o s=some true→o.op = .next (.tmp x) false→aW s.fr x = .nn m n seen→s.h[m]? = some (.map es)→es.length=n →
  ((List.range n).filter fun j=>!seen.contains j)=[i]→es[i]? = some (k,v)→fT k=true→Ev N (.ops all r ({ s with fr:=fP s.fr x (.nn m n (seen++[i])) }.a9 o.dst (.val (.tuple #[.bool true,k,v]))) s1)→Ev N (.ops all (o :: r) s s1)
 | rv {all:Array Oper} {o:Oper} {r:List Oper} {s s1:St} {x m n:Nat} {seen:List Nat} {es:List (Value×Value)}:aF all o s=some true→o.op = .next (.tmp x) false→aW s.fr x = .nn m n seen→s.h[m]? = some (.map es)→es.length=n →
  ((List.range n).filter fun j=>!seen.contains j)=[]→Ev N (.ops all r (s.a9 o.dst (.val (.tuple #[.bool false]))) s1)→Ev N (.ops all (o :: r) s s1)
 | NG {f:FuncId} {args:List Value} {h h':ah} {r:Value}:N.mA f args h=some (r,h')→Ev N (.call f args h r h')
 | Oa {c:Code} {s s1:St} {e:AX} {Q:AX→St→Prop}:Ev N (.code c s e s1)→Q e s1→Ev N (.hZ c s Q)
 | Hd {c:Code} {s:St} {R Q:AX→St→Prop}:Ev N (.hZ c s R)→(∀ e s',R e s'→Q e s')→Ev N (.hZ c s Q)
 | Kw {c:Code} {s s0:St} {Q:AX→St→Prop}:pG s0.fr s.fr→s0.h=s.h→s0.eH=[]→Ev N (.hZ c s0 Q)→Ev N (.hZ c s Q)
 | O5 {a b:Code} {s:St} {R Q:AX→St→Prop}:Ev N (.hZ a s R)→(∀ e s',R e s'→e≠.normal→Q e s')→(∀ s',R .normal s'→Ev N (.hZ b s' Q))→Ev N (.hZ (.seq a b) s Q)
 | EA {id:Nat} {c:Code} {s:St} {Q:AX→St→Prop}:Ev N (.hZ c s (fun e s'=>Q (e.inBlock id) s'))→Ev N (.hZ (.block id c) s Q)
 | S9 {x:Operand} {a b:Code} {s:St} {t:Bool} {Q:AX→St→Prop}:ev s x=some (.bool t)→Ev N (.hZ (if t then a else b) s Q)→Ev N (.hZ (.cond x a b) s Q)
 | Kt {c:Code} {s:St} {Q:AX→St→Prop} (Inv:Nat→St→Prop) (k:Nat):Inv k s→(∀ k s',Inv k s'→Ev N (.hZ c s' (fun e s''=>(e = .normal∧∃ m,k=m+1∧Inv m s'')∨(e≠.normal∧Q e s''))))→Ev N (.hZ (.loop c) s Q)
 | KL {id:Nat} {ops:Array Oper} {o:Oper} {r:List Oper} {s s0:St} {x d m n:Nat} {seen:List Nat} {es:List (Value×Value)} {Q:AX→St→Prop} (f:Nat→St):ops.toList=o :: r→o.guard=none→o.op = .next (.tmp x) false→o.dst=some d→x≠d →
  aW s.fr x = .nn m n seen→s.h[m]? = some (.map es)→es.length=n→es.all (fun p=>fT p.1)=true →
  ((∀ i,i<n→i∈seen)→Ev N (.ops ops r ({ s with eH:=[] }.put d (.val (.tuple #[.bool false]))) s0))→((∀ i,i<n→i∈seen)→Q .normal s0) →
  (∀ (i:Nat) (k v:Value),es[i]? = some (k,v)→i∉seen→Ev N (.ops ops r (St.put ⟨fP s.fr x (.nn m n (seen++[i])),[],s.h⟩ d (.val (.tuple #[.bool true,k,v]))) (f i))) →
  (∀ (i:Nat) (k v:Value),es[i]? = some (k,v)→i∉seen→Q .normal (f i))→Ev N (.hZ (.region id ops false) s Q)
 | Pw {c:Code} {s s1:St} {e:AX}:Ev N (.hZ c s (fun e' s'=>e'=e∧pG s1.fr s'.fr∧s1.h=s'.h))→s1.eH=[]→Ev N (.code c s e s1)
 | OG {f:FuncId} {args:List Value} {h h1 g:ah} {r:Value}:Ev N (.call f args h r (h1++g))→dv h1.length r→h.length≤h1.length→(∀ (i:Nat) (o:av),h1[i]? = some o→h[i]? = some o∨Rf h1.length o)→Ev N (.call f args h r h1)
 | fresh {f:FuncId} {h h':ah} {r:Value}:Ev N (.call f [] [] r h')→dv 0 r→Ev N (.call f [] h r h)
 | gc {f:FuncId} {args:List Value} {h h':ah} {r:Value}:Ev N (.call f args h r h')→dv h.length r→h'.take h.length=h→Ev N (.call f args h r h)
structure M where
 block:Nat
 base:Nat
 room:Nat
 et:TypeId
abbrev Mu:=List (List M)
def fQ (μ:Mu) (id ar:Nat):Option M:=match μ[id]? with
 | some l=>l[ar]?
 | none=>none
def eU (μ μ':Mu):Prop:=∀ (id:Nat) (l:List M),μ[id]? = some l→∃ l',μ'[id]? = some (l++l')
theorem eU.refl (μ:Mu):eU μ μ:=fun _ l h=>⟨[],by simpa using h⟩
theorem eU.trans {a b c:Mu} (h:eU a b) (k:eU b c):eU a c:=fun id l hl=>by
 obtain⟨l1,h1⟩:=h id l hl
 obtain⟨l2,h2⟩:=k id _ h1
 exact⟨l1++l2,by rw[h2,List.append_assoc]⟩
theorem eU.at {μ μ':Mu} (h:eU μ μ') {id ar:Nat} {m:M} (hm:fQ μ id ar=some m):fQ μ' id ar=some m:=by{
unfold fQ at hm
split at hm
·rename_i l hl
 obtain⟨l',h'⟩:=h id l hl
 have hlt:ar<l.length:=by
  rcases Nat.lt_or_ge ar l.length with h|h
  ·exact h
  ·simp [List.getElem?_eq_none h] at hm
 simp [fQ,h',List.getElem?_append_left hlt,hm]
·cases hm}
theorem eU.push (μ:Mu) (l:List M):eU μ (μ++[l]):=fun id l' h=>by
 have hlt:id<μ.length:=by
  rcases Nat.lt_or_ge id μ.length with h' | h'
  ·exact h'
  ·simp [List.getElem?_eq_none h'] at h
 exact⟨[],by simp [List.getElem?_append_left hlt,h]⟩
theorem cM (μ:Mu) (m:M):fQ (μ++[[m]]) μ.length 0=some m:=by simp [fQ]
def jM (μ:Mu) (id:Nat) (m:M):Mu:=μ.modify id (·++[m])
theorem eU.Ny (μ:Mu) (id:Nat) (m:M):eU μ (jM μ id m):=fun i l h=>by
 by_cases hi:id=i
 ·subst hi
  exact⟨[m],by simp [jM,h]⟩
 ·exact⟨[],by simp [jM,hi,h]⟩
inductive VR (P:Program) (μ:Mu):Value→Value→Prop
 | pure {v:Value}:be v=true→VR P μ v v
 | ptr {id off ar:Nat} {m:M}:fQ μ id ar=some m→VR P μ (.pointer (some ⟨id,off,some ar⟩)) (.pointer (some ⟨m.block,m.base+off,none⟩))
 | slice {id off ar len c cap:Nat} {m:M}:fQ μ id ar=some m→len≤cap→cap≤maxLen→off+cap*P.cellsOf m.et=m.room →
  VR P μ (.slice (some ⟨id,off,some ar⟩) len c) (.slice (some ⟨m.block,m.base+off,none⟩) len cap)
 | fz {id off ar c o:Nat} {m:M}:fQ μ id ar=some m→0<off→VR P μ (.slice (some ⟨id,off,some ar⟩) 0 c) (.slice (some ⟨m.block,o,none⟩) 0 0)
 | fA {id off:Nat} {a:Addr}:VR P μ (.slice (some ⟨id,off,none⟩) 0 0) (.slice (some a) 0 0)
 | map {id:Nat} {m:M}:fQ μ id 0=some m→VR P μ (.map (some id)) (.map (some m.block))
 | agg {cs cs':Array Value}:cs.size=cs'.size→(∀ (i:Nat) (v v':Value),cs[i]? = some v→cs'[i]? = some v'→VR P μ v v')→VR P μ (.agg cs) (.agg cs')
 | tuple {cs cs':Array Value}:cs.size=cs'.size→(∀ (i:Nat) (v v':Value),cs[i]? = some v→cs'[i]? = some v'→VR P μ v v')→VR P μ (.tuple cs) (.tuple cs')
 | func {f:FuncId} {cs cs':Array Value}:cs.size=cs'.size→(∀ (i:Nat) (v v':Value),cs[i]? = some v→cs'[i]? = some v'→VR P μ v v') →
  VR P μ (.func (.func f) #[] cs) (.func (.func f) #[] cs')
def dE (P:Program) (μ:Mu):List Value→List Value→Prop
 | [],[]=>True
 | a :: l,b :: l'=>VR P μ a b∧dE P μ l l'
 | _,_=>False
section
variable {P:Program} {μ μ':Mu} {v v':Value} {l l':List Value}
theorem VR.mono (hx:eU μ μ') (h:VR P μ v v'):VR P μ' v v':=by{
induction h with
| pure h=>exact .pure h
| ptr h=>exact .ptr (hx.at h)
| slice h a b c=>exact .slice (hx.at h) a b c
| fz h a=>exact .fz (hx.at h) a
| fA=>exact .fA
| map h=>exact .map (hx.at h)
| agg h _ ih=>exact .agg h ih
| tuple h _ ih=>exact .tuple h ih
| func h _ ih=>exact .func h ih}
theorem dE.mono (hx:eU μ μ'):∀ {l l':List Value},dE P μ l l'→dE P μ' l l'
 | [],[],_=>trivial
 | _ :: _,_ :: _,⟨h,k⟩=>⟨h.mono hx,dE.mono hx k⟩
 | [],_ :: _,h=>h.elim
 | _ :: _,[],h=>h.elim
theorem dE.length:∀ {l l':List Value},dE P μ l l'→l.length=l'.length
 | [],[],_=>rfl
 | _ :: _,_ :: _,⟨_,k⟩=>by simp [dE.length k]
 | [],_ :: _,h=>h.elim
 | _ :: _,[],h=>h.elim
theorem dE.get:∀ {l l':List Value} {i:Nat} {v:Value},dE P μ l l'→l[i]? = some v→∃ v',l'[i]? = some v'∧VR P μ v v'
 | _ :: _,b :: _,0,_,⟨h,_⟩,e=>by simp at e;subst e;exact⟨b,by simp,h⟩
 | _ :: _,_ :: _,i+1,_,⟨_,k⟩,e=>by simpa using dE.get k (by simpa using e)
 | [],[],_,_,_,e=>by simp at e
 | [],_ :: _,_,_,h,_=>h.elim
 | _ :: _,[],_,_,h,_=>h.elim
theorem dE.of:∀ {l l':List Value},l.length=l'.length→(∀ (i:Nat) (v v':Value),l[i]? = some v→l'[i]? = some v'→VR P μ v v')→dE P μ l l'
 | [],[],_,_=>trivial
 | a :: l,b :: l',h,k=>⟨k 0 a b rfl rfl,dE.of (by simpa using h) fun i v v' e e'=>k (i+1) v v' (by simpa using e) (by simpa using e')⟩
 | [],_ :: _,h,_=>by simp at h
 | _ :: _,[],h,_=>by simp at h
theorem dE.at (h:dE P μ l l') {i:Nat} {v v':Value} (e:l[i]? = some v) (e':l'[i]? = some v'):VR P μ v v':=by{
obtain⟨u,hu,k⟩:=h.get e
rw[e'] at hu
cases hu
exact k}
theorem dE.append:∀ {a a' b b':List Value},dE P μ a a'→dE P μ b b'→dE P μ (a++b) (a'++b')
 | [],[],_,_,_,k=>k
 | _ :: _,_ :: _,_,_,⟨h,q⟩,k=>⟨h,dE.append q k⟩
 | [],_ :: _,_,_,h,_=>h.elim
 | _ :: _,[],_,_,h,_=>h.elim
theorem dE.take (n:Nat):∀ {l l':List Value},dE P μ l l'→dE P μ (l.take n) (l'.take n)
 | [],[],_=>by simp [dE]
 | _ :: _,_ :: _,⟨h,k⟩=>by
   cases n with
   | zero=>simp [dE]
   | succ n=>exact⟨h,dE.take n k⟩
 | [],_ :: _,h=>h.elim
 | _ :: _,[],h=>h.elim
theorem dE.drop (n:Nat):∀ {l l':List Value},dE P μ l l'→dE P μ (l.drop n) (l'.drop n)
 | [],[],_=>by simp [dE]
 | _ :: _,_ :: _,⟨h,k⟩=>by
   cases n with
   | zero=>exact⟨h,k⟩
   | succ n=>exact dE.drop n k
 | [],_ :: _,h=>h.elim
 | _ :: _,[],h=>h.elim
theorem dE.pure:∀ {l:List Value},l.all be=true→dE P μ l l
 | [],_=>trivial
 | a :: l,h=>by
   simp only[List.all_cons,Bool.and_eq_true] at h
   exact⟨.pure h.1,dE.pure h.2⟩
theorem dE.agg (h:dE P μ l l'):VR P μ (.agg l.toArray) (.agg l'.toArray):=.agg (by simpa using h.length) fun i v v' e e'=>h.at (by simpa using e) (by simpa using e')
theorem dE.En (h:dE P μ l l'):VR P μ (.tuple l.toArray) (.tuple l'.toArray):=.tuple (by simpa using h.length) fun i v v' e e'=>h.at (by simpa using e) (by simpa using e')
theorem VR.dM (h:VR P μ v v') (hp:be v=true):v'=v:=by
 cases h<;>first|rfl|(simp [be] at hp)
theorem VR.int {k:IntKind} {n:Int} (h:VR P μ (.int k n) v'):v' = .int k n:=h.dM rfl
theorem VR.bool {b:Bool} (h:VR P μ (.bool b) v'):v' = .bool b:=h.dM rfl
theorem VR.string {b:ByteArray} (h:VR P μ (.string b) v'):v' = .string b:=h.dM rfl
theorem VR.oc {cs:Array Value} (h:VR P μ (.tuple cs) v'):∃ cs',v' = .tuple cs'∧dE P μ cs.toList cs'.toList:=by{
cases h with
| pure h=>simp [be] at h
| tuple h k=>exact⟨_,rfl,.of (by simpa using h) fun i v v' e e'=>k i v v' (by simpa using e) (by simpa using e')⟩}
theorem VR.mU {cs:Array Value} (h:VR P μ (.agg cs) v'):∃ cs',v' = .agg cs'∧dE P μ cs.toList cs'.toList:=by{
cases h with
| pure h=>simp [be] at h
| agg h k=>exact⟨_,rfl,.of (by simpa using h) fun i v v' e e'=>k i v v' (by simpa using e) (by simpa using e')⟩}
theorem VR.jJ {a:Addr} (h:VR P μ (.pointer (some a)) v'):∃ id off ar m,a=⟨id,off,some ar⟩∧fQ μ id ar=some m∧v' = .pointer (some ⟨m.block,m.base+off,none⟩):=by{
cases h with
| pure h=>simp [be] at h
| ptr h=>exact⟨_,_,_,_,rfl,h,rfl⟩}
theorem VR.vV {f:Fn} {a b:Array Value} (h:VR P μ (.func f a b) v'):∃ g b',f = .func g∧a=#[]∧v' = .func (.func g) #[] b'∧dE P μ b.toList b'.toList:=by{
cases h with
| pure h=>simp [be] at h
| func h k=>exact⟨_,_,rfl,rfl,rfl,.of (by simpa using h) fun i v v' e e'=>k i v v' (by simpa using e) (by simpa using e')⟩}
theorem VR.undef:VR P μ Go.undef Go.undef:=.tuple rfl fun i v v' e _=>by simp at e
theorem VR.FL (h:VR P μ (.tuple #[]) v'):v'=Go.undef:=by{
obtain⟨cs',rfl,k⟩:=h.oc
have e:=k.length
have e':cs'=#[]:=by
 apply Array.eq_empty_of_size_eq_zero
 simpa using e.symm
rw[e']
rfl}
theorem VR.one (h:VR P μ v v') (h1:one v=true):one v'=true:=by
 cases h<;>first|exact h1|rfl
theorem B6 (v:Value):one v=v.oneCell':=by cases v<;>rfl
theorem VR.cells (h:VR P μ v v'):dE P μ v.cells.toList v'.cells.toList:=by{
cases h with
| agg h k=>exact .of (by simpa [Value.cells] using h) fun i v v' e e'=>k i v v' (by simpa [Value.cells] using e) (by simpa [Value.cells] using e')
| pure h=>cases v<;>first|exact⟨.pure h,trivial⟩ | (simp [be] at h)
| ptr h=>exact⟨.ptr h,trivial⟩
| slice h a b c=>exact⟨.slice h a b c,trivial⟩
| fz h a=>exact⟨.fz h a,trivial⟩
| fA=>exact⟨.fA,trivial⟩
| map h=>exact⟨.map h,trivial⟩
| tuple h k=>exact⟨.tuple h k,trivial⟩
| func h k=>exact⟨.func h k,trivial⟩}
theorem VR.g6 (h:fT v=true):VR P μ v v:=by{
cases v with
| agg cs=>
  have h':cs.toList.all be=true:=h
  have:=(dE.pure (P:=P) (μ:=μ) h').agg
  simpa using this
| tuple cs=>
  have h':cs.toList.isEmpty=true:=h
  have e:cs=#[]:=by simpa using h'
  subst e
  exact VR.undef
| _=>exact .pure h}
theorem dE.qU:∀ {l l':List Value},dE P μ l l'→l.all one=true→l'.all one=true
 | [],[],_,_=>rfl
 | _ :: _,_ :: _,⟨h,k⟩,e=>by
   simp only[List.all_cons,Bool.and_eq_true] at e ⊢
   exact⟨h.one e.1,dE.qU k e.2⟩
 | [],_ :: _,h,_=>h.elim
 | _ :: _,[],h,_=>h.elim
theorem dE.vt (h:dE P μ l l') {off n:Nat} {r:List Value} (e:vt l off n=some r):∃ r',vt l' off n=some r'∧dE P μ r r'∧off+n≤l'.length∧r'=(l'.drop off).take n:=by{
unfold Am.vt at e
split at e
·rename_i hle
 cases e
 have:=h.length
 exact⟨_,by rw[Am.vt,if_pos (by omega)],(h.drop off).take n,by omega,rfl⟩
·cases e}
theorem dE.ll (h:dE P μ l l') {off:Nat} {vs vs' r:List Value} (hv:dE P μ vs vs') (e:ll l off vs=some r) : dE P μ r (l'.take off++vs'++l'.drop (off+vs'.length))∧off+vs'.length≤l'.length:=by{
unfold Am.ll at e
split at e
·rename_i hle
 cases e
 have:=h.length
 have hvl:=hv.length
 rw[← hvl]
 exact⟨((h.take off).append hv).append (h.drop _),by omega⟩
·cases e}
theorem gB {n:Nat} {v:Value} {cs:List Value} (h:dO n v=some cs):cs=v.cells.toList∧cs.length=n∧v.cells.size=n∧cs.all one=true:=by{
unfold dO at h
split at h
·rename_i hh
 cases h
 exact⟨rfl,by simpa using hh.1,hh.1,hh.2⟩
·cases h}
theorem bY {t:TypeId} {ti:TI} (h:aq P t=some ti):∃ i d,P.info? t=some i∧P.underlying t=some d∧ti=⟨oY d,i.size,i.bytes,i.zero⟩:=by{
unfold aq at h
split at h
·rename_i i d hi hd
 cases h
 exact⟨i,d,hi,hd,rfl⟩
·cases h}
theorem ed {t:TypeId} {ti:TI} (h:aq P t=some ti):P.cellsOf t=ti.size:=by
 obtain⟨i,d,hi,hd,rfl⟩:=bY h
 simp [Program.cellsOf,hi]
end
structure lk (P:Program) (μ:Mu) (w:World) (id:Nat) (cells:List Value) (ar:Nat) (own:Bool) (et:TypeId) (m:M):Prop where
 qN:∃ l,μ[id]? = some l∧l.length=ar+1∧l[ar]? = some m
 ez:m.et=et
 cell:∀ (j:Nat) (v:Value),cells[j]? = some v→∃ v',w.cell? ⟨m.block,m.base+j,none⟩=some v'∧VR P μ v v'
 one:cells.all one=true
 eF:m.block<w.heap.size
 own:own=true→m.base=0∧∃ cur,w.heap[m.block]? = some (.cells cur et (0,0))∧m.room=cur.size
theorem lk.at {P:Program} {μ:Mu} {w:World} {id ar:Nat} {cells:List Value} {own:Bool} {et:TypeId} {m:M} (h:lk P μ w id cells ar own et m):fQ μ id ar=some m:=by
 obtain⟨l,h1,_,h3⟩:=h.qN
 simp [fQ,h1,h3]
def iz (P:Program) (μ:Mu):List (Value×Value)→List MapEntry→Prop
 | [],[]=>True
 | (k,v) :: r,e :: q=>e.key=k∧VR P μ v e.val∧iz P μ r q
 | _,_=>False
theorem iz.mono {P:Program} {μ μ':Mu} (hx:eU μ μ'):∀ {l:List (Value×Value)} {q:List MapEntry},iz P μ l q→iz P μ' l q
 | [],[],_=>trivial
 | (_,_) :: _,_ :: _,⟨h1,h2,h3⟩=>⟨h1,h2.mono hx,iz.mono hx h3⟩
 | [],_ :: _,h=>h.elim
 | (_,_) :: _,[],h=>h.elim
def yS (en:Array MapEntry) (clock:Nat):Prop:=clock=en.size∧∀ (i:Nat) (e:MapEntry),en[i]? = some e→e.born=i
theorem yS.nil:yS #[] 0:=⟨rfl,fun i e h=>by simp at h⟩
structure lj (P:Program) (μ:Mu) (w:World) (id:Nat) (es:List (Value×Value)) (m:M):Prop where
 qN:μ[id]? = some [m]
 eF:m.block<w.heap.size
 yG:∃ en clock,w.heap[m.block]? = some (.map en clock)∧iz P μ es en.toList∧yS en clock
def av.own:av→Bool
 | .aA _ _ o _=>o
 | .map _=>true
def av.ar:av→Nat
 | .aA _ v _ _=>v
 | .map _=>0
def OR (P:Program) (μ:Mu) (w:World) (id:Nat):av→M→Prop
 | .aA cells ar own et,m=>lk P μ w id cells ar own et m
 | .map es,m=>lj P μ w id es m
theorem OR.at {P:Program} {μ:Mu} {w:World} {id:Nat}:∀ {o:av} {m:M},OR P μ w id o m→fQ μ id o.ar=some m
 | .aA ..,_,h=>lk.at h
 | .map _,_,h=>by
   have:=lj.qN h
   simp [fQ,this,av.ar]
theorem OR.eF {P:Program} {μ:Mu} {w:World} {id:Nat}:∀ {o:av} {m:M},OR P μ w id o m→m.block<w.heap.size
 | .aA ..,_,h=>lk.eF h
 | .map _,_,h=>lj.eF h
structure b8 (P:Program) (μ:Mu) (h:ah) (w:World):Prop where
 len:μ.length=h.length
 ob:∀ (id:Nat) (o:av),h[id]? = some o→∃ m,OR P μ w id o m
 se:∀ (id1 id2:Nat) (o1 o2:av) (m1 m2:M),id1≠id2→h[id1]? = some o1→h[id2]? = some o2→o1.own=true→fQ μ id1 o1.ar=some m1→fQ μ id2 o2.ar=some m2→m1.block≠m2.block
theorem b8.obj {P:Program} {μ:Mu} {h:ah} {w:World} (H:b8 P μ h w) (id:Nat) (cells:List Value) (ar:Nat) (own:Bool) (et:TypeId) (ho:h[id]? = some (.aA cells ar own et)):∃ m,lk P μ w id cells ar own et m:=H.ob _ _ ho
theorem b8.Ep {P:Program} {μ:Mu} {h:ah} {w:World} (H:b8 P μ h w) {id:Nat} {o:av} {m:M} (ho:h[id]? = some o) (hm:fQ μ id o.ar=some m):OR P μ w id o m:=by{
obtain⟨m',h'⟩:=H.ob _ _ ho
have:=h'.at
rw[hm] at this
cases this
exact h'}
def fa (μ:Mu) (h:ah) (b:Nat):Prop:=∃ (id:Nat) (o:av) (m:M),h[id]? = some o∧o.own=true∧fQ μ id o.ar=some m∧m.block=b
def gM (μ:Mu) (h:ah) (b:Nat):Prop:=∃ (id:Nat) (o:av) (m:M),h[id]? = some o∧fQ μ id o.ar=some m∧m.block=b
theorem fa.eF {μ:Mu} {h:ah} {b:Nat} (k:fa μ h b):gM μ h b:=by
 obtain⟨id,o,m,h1,_,h2,h3⟩:=k
 exact⟨id,o,m,h1,h2,h3⟩
theorem fa.aA {μ:Mu} {h:ah} {id v:Nat} {c:List Value} {e:TypeId} {m:M} (h1:h[id]? = some (.aA c v true e)) (h2:fQ μ id v=some m):fa μ h m.block:=⟨id,_,m,h1,rfl,h2,rfl⟩
theorem gM.lt {P:Program} {μ:Mu} {h:ah} {w:World} {b:Nat} (H:b8 P μ h w) (k:gM μ h b):b<w.heap.size:=by
 obtain⟨id,o,m,h1,h2,rfl⟩:=k
 exact (H.Ep h1 h2).eF
structure pT (Own0:Nat→Prop) (w0 w:World):Prop where
 os:w.os=w0.os
 tape:w.tape=w0.tape
 output:w.output=w0.output
 size:w0.heap.size≤w.heap.size
 block:∀ k,k<w0.heap.size→¬ Own0 k→w.heap[k]? = w0.heap[k]?
theorem pT.refl (O:Nat→Prop) (w:World):pT O w w:=⟨rfl,rfl,rfl,Nat.le_refl _,fun _ _ _=>rfl⟩
theorem pT.trans {O O':Nat→Prop} {a b c:World} (h:pT O a b) (k:pT O' b c) (hO:∀ x,O' x→O x∨a.heap.size≤x):pT O a c:=
 ⟨k.os.trans h.os,k.tape.trans h.tape,k.output.trans h.output,Nat.le_trans h.size k.size,fun x hx hn=>
  (k.block x (Nat.lt_of_lt_of_le hx h.size) fun ho=>(hO x ho).elim hn fun h'=>by omega).trans (h.block x hx hn)⟩
def dZ:gu→Bool
 | .box _=>true
 | .mx _ _=>true
 | .Eo _ _=>true
 | .nn _ _ _=>true
 | .xf _ _=>true
 | _=>false
def tS (P:Program) (μ:Mu) (b:Nat) (cs:List Value) (w:World):Prop:=∃ cur e,w.heap[b]? = some (.cells cur e (0,0))∧dE P μ cs cur.toList∧cs.all one=true
def Vu (P:Program) (μ:Mu) (b:Nat) (w:World) (n:Nat) (v':Value):av→Prop
 | .aA cs ar own t=>ar=0∧own=true∧v' = .slice (some ⟨b,0,none⟩) n n∧∃ cur,w.heap[b]? = some (.cells cur t (0,0))∧dE P μ cs cur.toList∧cs.all one=true∧n*P.cellsOf t=cur.size∧n≤140737488355328
 | .map es=>v' = .map (some b)∧∃ en clock,w.heap[b]? = some (.map en clock)∧iz P μ es en.toList∧yS en clock
def j4 (P:Program) (μ:Mu) (b:Nat) (w:World):gu→Value→Prop
 | .val v,v'=>VR P μ v v'
 | .Cc ks v,v'=>if fc ks=true then VR P μ v v' else v'=undef
 | .box cs,v'=>v' = .pointer (some ⟨b,0,none⟩)∧tS P μ b cs w
 | .mx cs n,v'=>v' = .slice (some ⟨b,0,none⟩) n n∧tS P μ b cs w
 | .Eo o n,v'=>Vu P μ b w n v' o
 | .nn id n seen,v'=>v' = .pointer (some ⟨b,0,none⟩)∧∃ m,fQ μ id 0=some m∧w.heap[b]? = some (.mapIter (some m.block) n seen.toArray n)
 | .xf s pos,v'=>v' = .pointer (some ⟨b,0,none⟩)∧w.heap[b]? = some (.stringIter s pos)
 | .dH,_=>True
theorem lJ {t:Nat} {p:List Key×(Nat×Nat)}:∀ {e:C9},gn e t=some p→(t,p)∈e
 | [],h=>by simp [gn] at h
 | (k,v) :: r,h=>by
   simp only[gn] at h
   split at h
   ·rename_i hk
    cases h
    subst hk
    exact List.mem_cons_self
   ·exact List.mem_cons_of_mem _ (lJ h)
theorem mh {t sl off:Nat} {g:List Key} (i:Nat):∀ {e:C9},(t,(g,(sl,off)))∈eX e i→(t,(g,(sl,off)))∈e∧t≠i∧sl≠i
 | [],h=>by simp [eX] at h
 | (k,(_,(s,o))) :: r,h=>by
   simp only[eX] at h
   split at h
   ·have:=mh i h
    exact⟨List.mem_cons_of_mem _ this.1,this.2⟩
   ·rename_i hk
    split at h
    ·have:=mh i h
     exact⟨List.mem_cons_of_mem _ this.1,this.2⟩
    ·rename_i hs
     rcases List.mem_cons.1 h with h|h
     ·cases h
      exact⟨List.mem_cons_self,hk,hs⟩
     ·have:=mh i h
      exact⟨List.mem_cons_of_mem _ this.1,this.2⟩
structure Bs where
 w0:World
 own:Nat→Prop
 eF:Nat→Prop
 μ0:Mu
structure cb (N:Env) (B:Bs) (n:Nat) (μ:Mu) (β:Nat→Nat) (s:St) (a:Act) (w:World):Prop where
 defers:a.defers=[]
 size:a.tmps.size=n
 slot:∀ t,t<n→j4 N.P μ (β t) w (aW s.fr t) (a.tmps.getD t undef)
 hi:∀ t,n≤t→aW s.fr t = .dH
 eH:∀ t g sl off,(t,(g,(sl,off)))∈s.eH→t<n∧(if fc g=true then a.tmps.getD t undef = .pointer (some ⟨β sl,off,none⟩) else a.tmps.getD t undef=undef)∧∃ cs,aW s.fr sl = .box cs
 heap:b8 N.P μ s.h w
 fr:pT B.own B.w0 w
 ext:eU B.μ0 μ
 own:∀ b,fa μ s.h b→B.own b∨B.w0.heap.size≤b
 eF:∀ b,gM μ s.h b→B.eF b∨B.w0.heap.size≤b
 jo:∀ t,dZ (aW s.fr t)=true→B.w0.heap.size≤β t∧β t<w.heap.size
 nz:∀ t t',dZ (aW s.fr t)=true→dZ (aW s.fr t')=true→t≠t'→β t≠β t'
 eN:∀ t,dZ (aW s.fr t)=true→¬ gM μ s.h (β t)
def gT (k:Value):List MapEntry→Nat→Option (Nat×Value)
 | [],_=>none
 | e :: q,i=>if pX k e.key then some (i,e.val) else gT k q (i+1)
structure rN (P:Program) (kt:TypeId) (kd:Value→Bool):Prop where
 pure:∀ v,kd v=true→fT v=true
 eq:∀ a b,kd a=true→kd b=true→pX a b=true→a=b
 refl:∀ a,kd a=true→pX a a=true
 check:∀ em v w,kd v=true→(Instr.checkKey em 10000 kt v).run P w = .ok () w
 find:∀ v (es:List MapEntry) w,kd v=true→(∀ e∈es,kd e.key=true)→(Instr.findKey kt v es).run P w = .ok (gT v es 0) w
 stays:∀ v w,kd v=true→(Instr.keyThatStays v v).run P w = .ok v w
def lz (P:Program) (f:FuncId) (args:List Value) (h:ah) (r:Value) (h':ah):Prop:=
 ∀ (μ:Mu) (w:World) (args':Array Value),b8 P μ h w→dE P μ args args'.toList →
   Calls P f args' w fun e w'=>∃ μ' r',e = .returned r'∧VR P μ' r r'∧b8 P μ' h' w'∧eU μ μ'∧pT (fa μ h) w w' ∧
    (∀ b,fa μ' h' b→fa μ h b∨w.heap.size≤b)∧(∀ b,gM μ' h' b→gM μ h b∨w.heap.size≤b)
abbrev qW (N:Env) (f:FuncId) (args:List Value) (h:ah) (r:Value) (h':ah):Prop:=lz N.P f args h r h'
structure mC (N:Env):Prop where
 KU:∀ t chk,N.KU t=some chk→Ez N.P t chk∧∀ l l':List Value,∀ μ:Mu,dE N.P μ l l'→chk l=true→l'=l
 keys:∀ kt kd,N.keys kt=some kd→rN N.P kt kd
 mA:∀ f args h r h',N.mA f args h=some (r,h')→lz N.P f args h r h'
section
variable {N:Env} {B:Bs} {n:Nat} {μ:Mu} {β:Nat→Nat} {s:St} {a:Act} {w:World}
theorem di (R:cb N B n μ β s a w) {t:Nat} (h:aW s.fr t≠.dH):t<n:=by{
rcases Nat.lt_or_ge t n with h' | h'
·exact h'
·exact absurd (R.hi t h') h}
theorem aI (R:cb N B n μ β s a w) {x:Operand} {v:Value} (h:ev s x=some v):VR N.P μ v (a.eval x):=by{
cases x with
| tmp t=>
  simp only[ev] at h
  split at h
  ·rename_i u hu
   cases h
   have hs:=R.slot t (di R (by rw[hu];simp))
   rw[hu] at hs
   exact hs
  ·cases h
| const c=>
  simp only[ev] at h
  split at h
  ·rename_i hp
   cases h
   exact VR.g6 hp
  ·cases h
| func f=>
  simp only[ev] at h
  cases h
  exact .func rfl fun i v v' e _=>by simp at e
| global g=>simp [ev] at h}
theorem gJ (R:cb N B n μ β s a w):∀ {l:List Operand} {vs:List Value},tT s l=some vs→dE N.P μ vs (l.map a.eval)
 | [],vs,h=>by
   simp only[tT] at h
   cases h
   trivial
 | x :: r,vs,h=>by
   simp only[tT] at h
   split at h
   ·rename_i v l hv hl
    cases h
    exact⟨aI R hv,gJ R hl⟩
   ·cases h
theorem je (R:cb N B n μ β s a w) {x:Operand} {sl off:Nat} (h:pF s x=some (sl,off)) : a.eval x = .pointer (some ⟨β sl,off,none⟩)∧∃ cs,aW s.fr sl = .box cs:=by{
cases x with
| tmp t=>
  simp only[pF] at h
  split at h
  ·rename_i p hp
   obtain rfl:p=(sl,off):=by simpa using h
   have h2:=R.eH _ [] sl off (lJ hp)
   have h3:=h2.2.1
   simp only[fc,List.all_nil,if_true] at h3
   exact⟨h3,h2.2.2⟩
  ·cases h
  ·split at h
   ·rename_i cs hb
    cases h
    have hs:=R.slot _ (di R (by rw[hb];simp))
    rw[hb] at hs
    exact⟨hs.1,cs,hb⟩
   ·cases h
| const c=>simp [pF] at h
| func f=>simp [pF] at h
| global g=>simp [pF] at h}
theorem Cl (R:cb N B n μ β s a w) {sl:Nat} {cs:List Value} (h:aW s.fr sl = .box cs):tS N.P μ (β sl) cs w:=by{
have hs:=R.slot sl (di R (by rw[h];simp))
rw[h] at hs
exact hs.2}
theorem tS.cell {P:Program} {b:Nat} {cs:List Value} (h:tS P μ b cs w) {j:Nat} {u:Value} (hu:cs[j]? = some u):∃ u',w.cell? ⟨b,j,none⟩=some u'∧VR P μ u u':=by{
obtain⟨cur,e,hw,hv,_⟩:=h
obtain⟨u',h1,h2⟩:=hv.get hu
exact⟨u',by simpa [World.cell?,hw] using h1,h2⟩}
theorem AF {P:Program} {b:Nat}:∀ (l:List Value) (o:Nat),(∀ (j:Nat) (u:Value),l[j]? = some u→∃ u',w.cell? ⟨b,o+j,none⟩=some u'∧VR P μ u u') →
 ∃ l',dE P μ l l'∧∀ (j:Nat) (u':Value),l'[j]? = some u'→w.cell? ⟨b,o+j,none⟩=some u'
 | [],_,_=>⟨[],trivial,fun j u' h=>by simp at h⟩
 | u :: l,o,h=>by
   obtain⟨u',h1,h2⟩:=h 0 u rfl
   obtain⟨l',k1,k2⟩:=AF l (o+1) fun j v hv=>by
    have:=h (j+1) v (by simpa using hv)
    rwa [show o+(j+1)=o+1+j from by omega] at this
   refine⟨u' :: l',⟨h2,k1⟩,fun j v hv=>?_⟩
   cases j with
   | zero=>simp at hv;subst hv;exact h1
   | succ j=>rw[show o+(j+1)=o+1+j from by omega];exact k2 j v (by simpa using hv)
theorem jg {P:Program} {t:TypeId} {d:TypeDesc} (h:P.underlying t=some d) (w:World):(isAgg t).run P w = .ok (oY d) w:=by
 cases d<;>simp [isAgg,run_underlying h,oY]
theorem bW {P:Program} {t:TypeId} {i:TypeInfo} (h:P.info? t=some i) (w:World):(sizeOf t).run P w = .ok i.size w:=by simp [sizeOf,typeInfo,h]
theorem He {P:Program} {t:TypeId} {ti:TI} {cells:List Value} {b base off:Nat} {v:Value} (ht:aq P t=some ti) (hv:JG ti cells off=some v) (hc:∀ (j:Nat) (u:Value),cells[j]? = some u→∃ u',w.cell? ⟨b,base+j,none⟩=some u'∧VR P μ u u') : ∃ v',(loadVar t ⟨b,base+off,none⟩).run P w = .ok v' w∧VR P μ v v':=by{
obtain⟨i,d,hi,hd,rfl⟩:=bY ht
unfold JG at hv
simp only at hv
split at hv
·rename_i hagg
 unfold Am.vt at hv
 split at hv
 ·rename_i hle
  simp only[Option.map_some,Option.some.injEq] at hv
  subst hv
  obtain⟨l',k1,k2⟩:=AF (w:=w) (P:=P) (μ:=μ) (b:=b) ((cells.drop off).take i.size) (base+off) fun j u hu=>by
   rw[List.getElem?_take] at hu
   split at hu
   ·rw[List.getElem?_drop] at hu
    have:=hc (off+j) u hu
    rwa [← Nat.add_assoc] at this
   ·cases hu
  have hl:l'.length=i.size:=by
   rw[← k1.length,List.length_take,List.length_drop]
   omega
  refine⟨.agg l'.toArray,?_,k1.agg⟩
  have hr:=run_loadCells_list (P:=P) w ⟨b,base+off,none⟩ l' fun j u hu=>by
   rw[Addr.add_lit]
   exact k2 j u hu
  rw[hl] at hr
  simp [loadVar,jg hd,hagg,bW hi,hr]
 ·simp at hv
·rename_i hagg
 obtain⟨u',h1,h2⟩:=hc off v hv
 refine⟨u',?_,h2⟩
 simp [loadVar,jg hd,hagg,h1]}
theorem yb (R:cb N B n μ β s a w) {t:TypeId} {x:Operand} {v:Value} (h:pQ N s t x=some v):∃ v',(Instr.loadAt t (a.eval x)).run N.P w = .ok v' w∧VR N.P μ v v':=by{
unfold pQ at h
split at h
·cases h
·rename_i ti ht
 split at h
 ·rename_i sl off hp
  obtain⟨he,_⟩:=je R hp
  split at h
  ·rename_i cs hb
   obtain⟨v',h1,h2⟩:=He (w:=w) (μ:=μ) (b:=β sl) (base:=0) ht h fun j u hu=>by
    rw[Nat.zero_add]
    exact (Cl R hb).cell hu
   rw[Nat.zero_add] at h1
   exact⟨v',by simp [Instr.loadAt,Instr.sureAddr,he,h1],h2⟩
  ·cases h
 ·split at h
  ·rename_i ad hv
   obtain⟨id,off,ar,m,rfl,hm,he⟩:=(aI R hv).jJ
   simp only[Vl] at h
   split at h
   ·rename_i cells v' own et ho
    split at h
    ·rename_i hver
     subst hver
     obtain⟨m',hm'⟩:=R.heap.obj _ _ _ _ _ ho
     have:=hm'.at
     rw[hm] at this
     cases this
     have h:JG ti cells off=some v:=h
     obtain⟨v'',h1,h2⟩:=He (w:=w) (μ:=μ) (b:=m.block) (base:=m.base) ht h hm'.cell
     exact⟨v'',by simp [Instr.loadAt,Instr.sureAddr,he,h1],h2⟩
    ·cases h
   ·cases h
  ·cases h}
theorem mD {P:Program} {t:TypeId} {f o:Nat} {ft:TypeId} (h:an P t f=some (o,ft)) : ∃ fs fd i,P.underlying t=some (.struct fs)∧fs[f]? = some fd∧P.info? fd.type=some i∧i.size≠0∧o=fd.offset∧ft=fd.type:=by{
unfold an at h
split at h
·rename_i fs hfs
 split at h
 ·rename_i fd hfd
  split at h
  ·rename_i i hi
   split at h
   ·cases h
   ·rename_i hz
    cases h
    exact⟨fs,fd,i,hfs,hfd,hi,hz,rfl,rfl⟩
  ·cases h
 ·cases h
·cases h}
theorem nx {P:Program} {t:TypeId} {f o:Nat} {ft:TypeId} (h:an P t f=some (o,ft)) (b off:Nat) (w:World) :
 (Instr.fieldAt t (.pointer (some ⟨b,off,none⟩)) f).run P w = .ok (.pointer (some ⟨b,off+o,none⟩)) w:=by
 obtain⟨fs,fd,i,h1,h2,h3,h4,rfl,rfl⟩:=mD h
 simp [Instr.fieldAt,run_underlying h1,h2,Instr.sureAddr,fieldPlace,bW h3,h4,Addr.add_lit]
theorem tR (R:cb N B n μ β s a w) {t:TypeId} {x:Operand} {f:Nat} {v:Value} (h:gi N s t x f=some v) : ∃ v',(Instr.fieldAt t (a.eval x) f).run N.P w = .ok v' w∧VR N.P μ v v':=by{
unfold gi at h
split at h
·rename_i o ft ad hf hv
 cases h
 obtain⟨id,off,ar,m,rfl,hm,he⟩:=(aI R hv).jJ
 refine⟨_,by rw[he];exact nx hf _ _ _,?_⟩
 rw[Nat.add_assoc]
 exact .ptr hm
·cases h}
theorem VR.Wb {P:Program} {ad:Addr} {len c:Nat} {v':Value} (h:VR P μ (.slice (some ad) len c) v') (hs:ad.spot=none):len=0:=by{
cases h with
| pure h=>simp [be] at h
| slice h a b c=>cases hs
| fz h a=>rfl
| fA=>rfl}
theorem VR.KI {P:Program} {ad:Addr} {len c:Nat} {v':Value} (h:VR P μ (.slice (some ad) len c) v'):∃ a cap,v' = .slice (some a) len cap∧len≤cap:=by{
cases h with
| pure h=>simp [be] at h
| slice h a b c=>exact⟨_,_,rfl,a⟩
| fz h a=>exact⟨_,_,rfl,Nat.le_refl _⟩
| fA=>exact⟨_,_,rfl,Nat.le_refl _⟩}
theorem VR.oC {P:Program} {ad:Addr} {len c:Nat} {v':Value} (hs:ad.spot≠none) (h:VR P μ (.slice (some ad) len c) v') : ∃ id off ar m o cap,ad=⟨id,off,some ar⟩∧fQ μ id ar=some m∧v' = .slice (some ⟨m.block,o,none⟩) len cap∧len≤cap∧cap≤maxLen ∧ ((o=m.base+off∧off+cap*P.cellsOf m.et=m.room)∨(len=0∧cap=0∧0<off)):=by{
cases h with
| pure h=>simp [be] at h
| slice h a b c=>exact⟨_,_,_,_,_,_,rfl,h,rfl,a,b,.inl ⟨rfl,c⟩⟩
| fz h a=>exact⟨_,_,_,_,_,_,rfl,h,rfl,Nat.le_refl _,by simp [maxLen],.inr ⟨rfl,rfl,a⟩⟩
| fA=>exact (hs rfl).elim}
theorem nM {P:Program} {t e:TypeId} (h:P.underlying t=some (.slice e)):P.elem t=e:=by simp [Program.elem,h]
theorem xA {P:Program} {t e:TypeId} {m:Nat} (h:P.underlying t=some (.array m e)):P.elem t=e∧P.arrayLen t=m:=by simp [Program.elem,Program.arrayLen,h]
theorem kX {P:Program} {t e:TypeId} {m:Nat} {ti:TI} (h:P.underlying t=some (.array m e)) (ht:aq P e=some ti) (b off:Nat) (k:IntKind) (i:Int) (h0:0≤i) (h1:i<(m:Int)) (w:World) : (Instr.indexAt t (.pointer (some ⟨b,off,none⟩)) (.int k i)).run P w = .ok (.pointer (some ⟨b,off+i.toNat*ti.size,none⟩)) w:=by{
obtain⟨j,d,hi,hd,rfl⟩:=bY ht
obtain⟨e1,e2⟩:=xA h
rw[run_indexAt_array w t ⟨b,off,none⟩ k i (by rw[e1,e2];exact h),e1,e2,if_pos ⟨h0,h1⟩,bW hi]
simp [Addr.add_lit]}
theorem tW (R:cb N B n μ β s a w) {t:TypeId} {x i:Operand} {v:Value} (h:gv N s t x i=some v) : ∃ v',(Instr.indexAt t (a.eval x) (a.eval i)).run N.P w = .ok v' w∧VR N.P μ v v':=by{
unfold gv at h
split at h
·rename_i e ad len c k q hu hx hi
 split at h
 ·rename_i ti ht
  split at h
  ·rename_i hr
   cases h
   obtain⟨j,d,hj,hd,rfl⟩:=bY ht
   have hspot:ad.spot≠none:=fun hs=>by
    have:=(aI R hx).Wb hs
    omega
   obtain⟨id,off,ar,m,o,cap,rfl,hm,he,hlc,_,hcase⟩:=(aI R hx).oC hspot
   have hi':=(aI R hi).int
   rcases hcase with ⟨rfl,_⟩ | ⟨h0,_,_⟩
   ·refine⟨.pointer (some ⟨m.block,m.base+off+q.toNat*j.size,none⟩),?_,?_⟩
    ·rw[he,hi',run_indexAt_slice w t _ len cap k q (by rw[nM hu];exact hu),if_pos hr,nM hu,bW hj]
     simp [Addr.add_lit]
    ·rw[Nat.add_assoc]
     exact .ptr hm
   ·omega
  ·cases h
 ·cases h
·rename_i m e ad k q hu hx hi
 split at h
 ·rename_i ti ht
  split at h
  ·rename_i hr
   cases h
   obtain⟨id,off,ar,mm,rfl,hm,he⟩:=(aI R hx).jJ
   have hi':=(aI R hi).int
   refine⟨_,by rw[he,hi'];exact kX hu ht _ _ _ _ hr.1 hr.2 _,?_⟩
   rw[Nat.add_assoc]
   exact .ptr hm
  ·cases h
 ·cases h
·cases h}
theorem x8 {P:Program} {t:TypeId} {ti:TI} {cs cs':Array Value} {off:Nat} {v:Value} (ht:aq P t=some ti) (hv:JG ti cs.toList off=some v) (h:dE P μ cs.toList cs'.toList) : ∃ v',(part t cs' off).run P w = .ok v' w∧VR P μ v v':=by{
obtain⟨i,d,hi,hd,rfl⟩:=bY ht
unfold JG at hv
simp only at hv
split at hv
·rename_i hagg
 cases hr:Am.vt cs.toList off i.size with
 | none=>simp [hr] at hv
 | some l=>
   simp only[hr,Option.map_some,Option.some.injEq] at hv
   subst hv
   obtain⟨r',h1,h2,h3,rfl⟩:=h.vt hr
   have e:cs'.extract off (off+i.size)=((cs'.toList.drop off).take i.size).toArray:=by
    apply Array.toList_inj.1
    rw[Array.toList_extract]
    simp [List.extract]
   refine⟨.agg ((cs'.toList.drop off).take i.size).toArray,?_,h2.agg⟩
   simp [part,jg hd,hagg,bW hi,e]
·rename_i hagg
 obtain⟨u',h1,h2⟩:=h.get hv
 have h1':cs'[off]? = some u':=by simpa using h1
 exact⟨u',by simp [part,jg hd,hagg,h1'],h2⟩}
theorem Dw (R:cb N B n μ β s a w) {t:TypeId} {x:Operand} {f:Nat} {v:Value} (h:mZ N s t x f=some v) : ∃ v',(Instr.field t (a.eval x) f).run N.P w = .ok v' w∧VR N.P μ v v':=by{
unfold mZ at h
split at h
·rename_i o ft cs hf hv
 split at h
 ·rename_i ti ht
  obtain⟨fs,fd,i,h1,h2,h3,h4,rfl,rfl⟩:=mD hf
  obtain⟨cs',he,hl⟩:=(aI R hv).mU
  obtain⟨v',k1,k2⟩:=x8 (w:=w) ht h hl
  exact⟨v',by simp [Instr.field,run_underlying h1,h2,he,asAgg,k1],k2⟩
 ·cases h
·cases h}
theorem Dg (R:cb N B n μ β s a w) {t:TypeId} {x i:Operand} {v:Value} (h:lG N s t x i=some v) : ∃ v',(Instr.index t (a.eval x) (a.eval i)).run N.P w = .ok v' w∧VR N.P μ v v':=by{
unfold lG at h
split at h
·rename_i m e cs k q hu hx hi
 split at h
 ·rename_i ti ht
  split at h
  ·rename_i hr
   obtain⟨j,d,hj,hd,rfl⟩:=bY ht
   obtain⟨cs',he,hl⟩:=(aI R hx).mU
   have hi':=(aI R hi).int
   obtain⟨v',k1,k2⟩:=x8 (w:=w) ht h hl
   exact⟨v',by simp only[Instr.index,he,hi',asIntOf,Sem.run_bind,Sem.run_pure,Result.andThen_ok,run_underlying hu,hr,and_self,if_true,bW hj,k1],k2⟩
  ·cases h
 ·cases h
·rename_i b k q hu hx hi
 split at h
 ·rename_i h0
  split at h
  ·rename_i c hc
   cases h
   have hx':=(aI R hx).string
   have hi':=(aI R hi).int
   refine⟨.int .u8 c.toNat,?_,.pure rfl⟩
   simp [Instr.index,hx',hi',asIntOf,run_underlying hu,h0,hc]
  ·cases h
 ·cases h
·cases h}
end
section
variable {N:Env} {B:Bs} {n:Nat} {μ:Mu} {β:Nat→Nat} {s:St} {a:Act} {w:World}
theorem uF (a b:ByteArray):(a.toList == b.toList)=decide (a=b):=by{
rw[Bool.eq_iff_iff,beq_iff_eq,decide_eq_true_eq]
constructor
·intro h
 rw[ByteArray.toList_eq,ByteArray.toList_eq] at h
 have h':=Array.toList_inj.1 h
 cases a;cases b
 simpa using h'
·rintro rfl
 rfl}
theorem ld {P:Program} (w:World) {t e:TypeId} (p:Option Addr) (l c:Nat) (hu:P.underlying t=some (.slice e)):(Op.equal t (.slice p l c) (.slice none 0 0)).run P w = .ok p.isNone w:=by{
have h:∀ d:Nat,(Op.equalIn (d+1) t (.slice p l c) (.slice none 0 0)).run P w = .ok p.isNone w:=fun d=>by
 cases p<;>simp [Op.equalIn,run_underlying hu]
exact h 9999}
theorem kg {P:Program} (w:World) {t e:TypeId} (p:Option Addr) (hu:P.underlying t=some (.pointer e)):(Op.equal t (.pointer p) (.pointer none)).run P w = .ok p.isNone w:=by{
have h:∀ d:Nat,(Op.equalIn (d+1) t (.pointer p) (.pointer none)).run P w = .ok p.isNone w:=fun d=>by
 cases p<;>simp [Op.equalIn,run_underlying hu]
exact h 9999}
theorem AS {op:BinOp} {t:TypeId} {k:IntKind} {x y:Int} {v:Value} {P:Program} (h:vO op k x y=some v) (w:World):(binOp op t (.int k x) (.int k y)).run P w = .ok v w∧be v=true:=by{
unfold vO at h
split at h
all_goals first
 | (cases h;exact⟨by simp [binOp,Op.intArith,Op.intBits,Op.intCmp,Bool.beq_eq_decide_eq,bne],rfl⟩)
 | (split at h
    ·cases h
    ·rename_i hz
     cases h
     exact⟨by simp [binOp,Op.intDiv,hz],rfl⟩)
 | (cases h;done)}
theorem ou {op:BinOp} {t:TypeId} {k k':IntKind} {x y:Int} {v:Value} {P:Program} (h:lL op k x y=some v) (w:World):(binOp op t (.int k x) (.int k' y)).run P w = .ok v w∧be v=true:=by{
unfold lL at h
split at h
·cases h
·rename_i hy
 split at h
 ·cases h
  exact⟨by simp [binOp,Op.shift,hy],rfl⟩
 ·cases h
  exact⟨by simp [binOp,Op.shift,hy],rfl⟩
 ·cases h}
theorem AI {op:BinOp} {t:TypeId} {x y:ByteArray} {v:Value} {P:Program} (h:xi op x y=some v) (w:World):(binOp op t (.string x) (.string y)).run P w = .ok v w∧be v=true:=by{
unfold xi at h
split at h
·split at h
 ·rename_i hle
  cases h
  refine⟨?_,rfl⟩
  have:¬ (((x.size+y.size:Nat):Int) > IntKind.i64.max):=by rw[IntKind.max_i64];omega
  simp only[binOp,Op.stringOp,this,if_false]
  rfl
 ·cases h
·cases h
 exact⟨by simp only[binOp,Op.stringOp,uF];rfl,rfl⟩
·cases h
 exact⟨by simp only[binOp,Op.stringOp,uF];rfl,rfl⟩
·cases h}
theorem eA {op:BinOp} {t:TypeId} {x y:Operand} {a b:Value} {P:Program} (w:World) (ha:∀ cs,a≠.agg cs) (hb:a≠.nilIface):(eqGuard op t x y a b).run P w = .ok () w:=by
 unfold eqGuard
 cases op<;>simp<;>split<;>first|rfl|(exact absurd rfl (ha _)) | (exact absurd rfl hb) | simp_all
theorem Gz (hN:mC N) {op:BinOp} {t:TypeId} {x y v u u':Value} {X Y:Operand} (h:JI N op t x y=some v) (hx:VR N.P μ x u) (hy:VR N.P μ y u') (w:World) : ∃ v',(do eqGuard op t X Y u u';binOp op t u u':Sem Value).run N.P w = .ok v' w∧VR N.P μ v v':=by{
unfold JI at h
split at h
·rename_i k p k' q
 rw[hx.int,hy.int]
 have hg:=eA (op:=op) (t:=t) (x:=X) (y:=Y) (a:=.int k p) (b:=.int k' q) (P:=N.P) w (by simp) (by simp)
 split at h
 ·obtain⟨h1,h2⟩:=ou (t:=t) (k':=k') (P:=N.P) h w
  exact⟨v,by simp only[Sem.run_bind,hg,Result.andThen_ok,h1],.pure h2⟩
 ·obtain⟨h1,h2⟩:=ou (t:=t) (k':=k') (P:=N.P) h w
  exact⟨v,by simp only[Sem.run_bind,hg,Result.andThen_ok,h1],.pure h2⟩
 ·split at h
  ·rename_i hk
   subst hk
   obtain⟨h1,h2⟩:=AS (t:=t) (P:=N.P) h w
   exact⟨v,by simp only[Sem.run_bind,hg,Result.andThen_ok,h1],.pure h2⟩
  ·cases h
·rename_i p q
 rw[hx.string,hy.string]
 have hg:=eA (op:=op) (t:=t) (x:=X) (y:=Y) (a:=.string p) (b:=.string q) (P:=N.P) w (by simp) (by simp)
 obtain⟨h1,h2⟩:=AI (t:=t) (P:=N.P) h w
 exact⟨v,by simp only[Sem.run_bind,hg,Result.andThen_ok,h1],.pure h2⟩
·rename_i p q
 rw[hx.bool,hy.bool]
 have hg:=eA (op:=op) (t:=t) (x:=X) (y:=Y) (a:=.bool p) (b:=.bool q) (P:=N.P) w (by simp) (by simp)
 split at h
 ·rename_i hu
  cases h
  exact⟨.bool (decide (p=q)),by rw[Sem.run_bind,hg,Result.andThen_ok,run_eql_bool w t p q hu,Bool.beq_eq_decide_eq],.pure rfl⟩
 ·rename_i hu
  cases h
  exact⟨.bool (!decide (p=q)),by rw[Sem.run_bind,hg,Result.andThen_ok,run_neq_bool w t p q hu,Bool.beq_eq_decide_eq],.pure rfl⟩
 ·cases h
·rename_i p q
 split at h
 ·rename_i chk hc
  obtain⟨he,hf⟩:=hN.KU t chk hc
  split at h
  ·rename_i hb
   simp only[Bool.and_eq_true] at hb
   obtain⟨p',rfl,hp⟩:=hx.mU
   obtain⟨q',rfl,hq⟩:=hy.mU
   have ep:=hf _ _ _ hp hb.1
   have eq:=hf _ _ _ hq hb.2
   have ep':p'=p:=Array.toList_inj.1 ep
   have eq':q'=q:=Array.toList_inj.1 eq
   subst ep'
   subst eq'
   obtain⟨h1,h2⟩:=he p' q' hb.1 hb.2
   have hg:=run_eqGuard_agg (P:=N.P) w op t X Y p' q' h1
   split at h
   ·cases h
    exact⟨_,by simp only[Sem.run_bind,hg,Result.andThen_ok,binOp,Op.equal,Op.maxDepth,h2 w,Sem.run_pure],.pure rfl⟩
   ·cases h
    exact⟨_,by simp only[Sem.run_bind,hg,Result.andThen_ok,binOp,Op.equal,Op.maxDepth,h2 w,Sem.run_pure],.pure rfl⟩
   ·cases h
  ·cases h
 ·cases h
·rename_i p c1 c2
 have hy':u' = .slice none 0 0:=hy.dM rfl
 subst hy'
 have hu':∃ p' l' c',u = .slice p' l' c'∧p'.isNone=p.isNone:=by
  cases p with
  | none=>cases hx with|pure hp=>exact⟨_,_,_,rfl,rfl⟩
  | some ad=>
    obtain⟨_,_,rfl,_⟩:=hx.KI
    exact⟨_,_,_,rfl,rfl⟩
 obtain⟨p',l',c',rfl,hp⟩:=hu'
 have hg:=eA (op:=op) (t:=t) (x:=X) (y:=Y) (a:=.slice p' l' c') (b:=.slice none 0 0) (P:=N.P) w (by simp) (by simp)
 split at h
 ·rename_i e hu
  cases h
  refine⟨.bool p.isNone,?_,.pure rfl⟩
  rw[← hp,Sem.run_bind,hg,Result.andThen_ok]
  simp only[binOp]
  simp [ld w p' l' c' hu]
 ·rename_i e hu
  cases h
  refine⟨.bool !p.isNone,?_,.pure rfl⟩
  rw[← hp,Sem.run_bind,hg,Result.andThen_ok]
  simp only[binOp]
  simp [ld w p' l' c' hu]
 ·cases h
·rename_i p
 have hy':u' = .pointer none:=hy.dM rfl
 subst hy'
 have hu':∃ p',u = .pointer p'∧p'.isNone=p.isNone:=by
  cases p with
  | none=>cases hx with|pure hp=>exact⟨_,rfl,rfl⟩
  | some ad=>
    obtain⟨_,_,_,_,_,_,rfl⟩:=hx.jJ
    exact⟨_,rfl,rfl⟩
 obtain⟨p',rfl,hp⟩:=hu'
 have hg:=eA (op:=op) (t:=t) (x:=X) (y:=Y) (a:=.pointer p') (b:=.pointer none) (P:=N.P) w (by simp) (by simp)
 split at h
 ·rename_i e hu
  cases h
  refine⟨.bool p.isNone,?_,.pure rfl⟩
  rw[← hp,Sem.run_bind,hg,Result.andThen_ok]
  simp only[binOp]
  simp [kg w p' hu]
 ·rename_i e hu
  cases h
  refine⟨.bool !p.isNone,?_,.pure rfl⟩
  rw[← hp,Sem.run_bind,hg,Result.andThen_ok]
  simp only[binOp]
  simp [kg w p' hu]
 ·cases h
·cases h}
theorem II {op:UnOp} {x v u:Value} {P:Program} (h:Tw op x=some v) (hx:VR P μ x u) (w:World):∃ v',(Op.unary op u).run P w = .ok v' w∧VR P μ v v':=by{
unfold Tw at h
split at h
·cases h
 rw[hx.bool]
 exact⟨_,by simp only[Op.unary,Sem.run_pure],.pure rfl⟩
·cases h
 rw[hx.int]
 exact⟨_,by simp only[Op.unary,Op.intArith,Sem.run_pure],.pure rfl⟩
·cases h}
theorem DM {src dst:TypeId} {x v u:Value} (h:Be N src dst x=some v) (hx:VR N.P μ x u) (w:World):∃ v',(convert src dst u).run N.P w = .ok v' w∧VR N.P μ v v':=by{
unfold Be at h
split at h
·rename_i d k q m hs hd
 cases h
 rw[hx.int]
 exact⟨_,by simp only[convert,Sem.run_bind,run_underlying hs,run_underlying hd,Result.andThen_ok,Conv.intToInt,Sem.run_pure],.pure rfl⟩
·rename_i d b hs hd
 cases h
 rw[hx.string]
 refine⟨.string b,?_,.pure rfl⟩
 simp [convert,run_underlying hs,run_underlying hd]
·cases h}
theorem mu (R:cb N B n μ β s a w) {d q:Int} {x:Option Operand} (h:F3 s d x=some q):(x=none∧q=d)∨∃ o k,x=some o∧a.eval o = .int k q:=by{
cases x with
| none=>simp only[F3] at h;cases h;exact .inl ⟨rfl,rfl⟩
| some o=>
  simp only[F3] at h
  split at h
  ·rename_i k m hv
   cases h
   exact .inr ⟨o,k,rfl,(aI R hv).int⟩
  ·cases h}
theorem kp {P:Program} (isS:Bool) (len cap:Nat) (lo hi:Option Value) (l h:Int) (h0:0≤l) (h1:l≤h) (h2:h≤(len:Int)) (h3:len≤cap) (hl:(lo=none∧l=0)∨∃ k,lo=some (.int k l)) (hh:(hi=none∧h=len)∨∃ k,hi=some (.int k h)) (w:World) : (Instr.sliceBounds isS len cap lo hi none).run P w = .ok (l.toNat,h.toNat,cap) w:=by{
have eh:(h.toNat:Int)=h:=Int.toNat_of_nonneg (by omega)
have e1:∀ (k:IntKind) (c:BoundsCode),(Instr.sliceBound (.int k h) cap c).run P w = .ok h.toNat w:=fun k c=>run_sliceBound w k h cap c (by omega) (by omega)
have e2:∀ (k:IntKind) (c:BoundsCode) (m:Nat),l≤(m:Int)→(Instr.sliceBound (.int k l) m c).run P w = .ok l.toNat w:=fun k c m hm=>run_sliceBound w k l m c h0 hm
rcases hl with ⟨rfl,rfl⟩ | ⟨kl,rfl⟩<;>rcases hh with ⟨rfl,rfl⟩ | ⟨kh,rfl⟩
·simp [Instr.sliceBounds]
·simp only[Instr.sliceBounds,Sem.run_bind,Sem.run_pure,Result.andThen_ok,e1]
 simp
·simp only[Instr.sliceBounds,Sem.run_bind,Sem.run_pure,Result.andThen_ok,e2 kl _ len (by omega),Int.toNat_natCast]
·simp only[Instr.sliceBounds,Sem.run_bind,Sem.run_pure,Result.andThen_ok,e1,e2 kl _ h.toNat (by omega)]}
theorem zR (R:cb N B n μ β s a w) {t:TypeId} {x:Operand} {lo hi:Option Operand} {v:Value} (h:mK N s t x lo hi=some v) : ∃ v',(Instr.sliceAt t (a.eval x) (lo.map a.eval) (hi.map a.eval) none).run N.P w = .ok v' w∧VR N.P μ v v':=by{
unfold mK at h
split at h
·rename_i e ad len c hu hx
 split at h
 ·rename_i ti l q ht hl hh
  split at h
  ·rename_i hr
   obtain⟨j,d,hj,hd,rfl⟩:=bY ht
   have hl':((lo.map a.eval)=none∧l=0)∨∃ k,(lo.map a.eval)=some (.int k l):=by
    rcases mu R hl with ⟨rfl,rfl⟩ | ⟨o,k,rfl,e⟩
    ·exact .inl ⟨rfl,rfl⟩
    ·exact .inr ⟨k,by simp [e]⟩
   have hh':((hi.map a.eval)=none∧q=(len:Int))∨∃ k,(hi.map a.eval)=some (.int k q):=by
    rcases mu R hh with ⟨rfl,rfl⟩ | ⟨o,k,rfl,e⟩
    ·exact .inl ⟨rfl,rfl⟩
    ·exact .inr ⟨k,by simp [e]⟩
   split at h
   ·rename_i hn
    cases h
    have hxx:=aI R hx
    generalize hev:a.eval x=u at hxx
    cases hxx with
    | pure hp=>
      have:len=0∧c=0:=by
       unfold be at hp
       split at hp<;>simp_all
      obtain⟨rfl,rfl⟩:=this
      have l0:l=0:=by omega
      have q0:q=0:=by omega
      subst l0
      subst q0
      have hb:=kp (P:=N.P) true 0 0 (lo.map a.eval) (hi.map a.eval) 0 0 (by omega) (by omega) (by omega) (by omega) hl' hh' w
      refine⟨.slice none 0 0,?_,.pure rfl⟩
      rw[run_sliceAt_slice w t _ _ _ _ (by rw[nM hu];exact hu)]
      simp [Instr.slice,run_underlying hu,hb,bW hj]
   ·rename_i ad
    split at h
    ·rename_i ar cells ver' own et hsp ho
     split at h
     ·rename_i hve
      obtain⟨rfl,rfl⟩:=hve
      cases h
      obtain⟨id,off,ver2,m,o,cap,rfl,hm,he,hlc,hcm,hcase⟩:=(aI R hx).oC (by rw[hsp];simp)
      cases hsp
      obtain⟨m',hm'⟩:=R.heap.obj _ _ _ _ _ ho
      have hat:=hm'.at
      rw[hm] at hat
      cases hat
      have hsz:N.P.cellsOf m.et=j.size:=by simp [hm'.ez,Program.cellsOf,hj]
      have hb:=kp (P:=N.P) true len cap (lo.map a.eval) (hi.map a.eval) l q hr.1 hr.2.1 hr.2.2 hlc hl' hh' w
      have hrun:(Instr.sliceAt t (a.eval x) (lo.map a.eval) (hi.map a.eval) none).run N.P w = .ok (.slice (some (if cap=l.toNat then ⟨m.block,o,none⟩ else ⟨m.block,o+l.toNat*j.size,none⟩)) (q.toNat-l.toNat) (cap-l.toNat)) w:=by
       rw[he,run_sliceAt_slice w t _ _ _ _ (by rw[nM hu];exact hu)]
       simp only[Instr.slice,Sem.run_bind,run_underlying hu,Result.andThen_ok,hb,bW hj,Sem.run_pure,Option.map_some,Addr.add_lit]
       split<;>rfl
      refine⟨_,hrun,?_⟩
      have hq:(q-l).toNat=q.toNat-l.toNat:=by omega
      rw[hq]
      have hroom:∀ x:Nat,x≤cap→x*j.size+(cap-x)*j.size=cap*j.size:=fun x hx=>by rw[← Nat.add_mul];congr 1;omega
      have hlcap:l.toNat≤cap:=by omega
      rcases hcase with ⟨rfl,hrm⟩ | ⟨rfl,rfl,h3⟩
      ·by_cases hcl:cap=l.toNat
       ·rw[if_pos hcl,show q.toNat-l.toNat=0 from by omega,show cap-l.toNat=0 from by omega]
        by_cases hz:l.toNat*j.size=0
        ·have e:tp ⟨id,off,some ar⟩ (l.toNat*j.size)=⟨id,off,some ar⟩:=by simp [tp,hz]
         rw[e]
         refine .slice hm (Nat.le_refl _) (by simp [maxLen]) ?_
         rw[← hrm,hsz,hcl,hz,Nat.zero_mul]
        ·exact .fz hm (by simp only;omega)
       ·rw[if_neg hcl,Nat.add_assoc]
        refine .slice hm (by omega) (by omega) ?_
        have hrr:=hroom l.toNat hlcap
        rw[hsz] at hrm
        show off+l.toNat*j.size+(cap-l.toNat)*N.P.cellsOf m.et=m.room
        rw[hsz]
        omega
      ·have e0:l.toNat=0:=by omega
       have e1:q.toNat=0:=by omega
       rw[if_pos (by omega),e0,e1]
       simp only[Nat.zero_mul,Nat.sub_zero]
       exact .fz hm (by simp only;omega)
     ·cases h
    ·rename_i hsp
     split at h
     ·rename_i hz
      obtain⟨rfl,rfl⟩:=hz
      cases h
      have hxx:=aI R hx
      generalize hev:a.eval x=u at hxx
      cases hxx with
      | pure hp=>simp [be] at hp
      | slice=>cases hsp
      | fz=>cases hsp
      | @fA id off a'=>
        have l0:l=0:=by omega
        have q0:q=0:=by omega
        subst l0
        subst q0
        have hb:=kp (P:=N.P) true 0 0 (lo.map a.eval) (hi.map a.eval) 0 0 (by omega) (by omega) (by omega) (by omega) hl' hh' w
        refine⟨.slice (some a') 0 0,?_,.fA⟩
        rw[run_sliceAt_slice w t _ _ _ _ (by rw[nM hu];exact hu)]
        simp [Instr.slice,run_underlying hu,hb,bW hj]
     ·cases h
    ·cases h
  ·cases h
 ·cases h
·rename_i b hu hx
 split at h
 ·rename_i l q hl hh
  split at h
  ·rename_i hr
   cases h
   have hl':((lo.map a.eval)=none∧l=0)∨∃ k,(lo.map a.eval)=some (.int k l):=by
    rcases mu R hl with ⟨rfl,rfl⟩ | ⟨o,k,rfl,e⟩
    ·exact .inl ⟨rfl,rfl⟩
    ·exact .inr ⟨k,by simp [e]⟩
   have hh':((hi.map a.eval)=none∧q=(b.size:Int))∨∃ k,(hi.map a.eval)=some (.int k q):=by
    rcases mu R hh with ⟨rfl,rfl⟩ | ⟨o,k,rfl,e⟩
    ·exact .inl ⟨rfl,rfl⟩
    ·exact .inr ⟨k,by simp [e]⟩
   have hb:=kp (P:=N.P) false b.size b.size (lo.map a.eval) (hi.map a.eval) l q hr.1 hr.2.1 hr.2.2 (Nat.le_refl _) hl' hh' w
   refine⟨.string (b.extract l.toNat q.toNat),?_,.pure rfl⟩
   rw[(aI R hx).string]
   simp [Instr.sliceAt,Instr.slice,run_underlying hu,hb]
  ·cases h
 ·cases h
·cases h}
end
theorem vh (off:Nat):∀ (vs:List Value) (k:Nat) (cs:Array Value),off+k+vs.length≤cs.size →
 ((vs.zipIdx k).foldl (fun cs p=>cs.setIfInBounds (off+p.2) p.1) cs).toList=cs.toList.take (off+k)++vs++cs.toList.drop (off+k+vs.length)
 | [],k,cs,_=>by simp
 | v :: vs,k,cs,h=>by
   rw[List.zipIdx_cons,List.foldl_cons]
   have h':off+(k+1)+vs.length≤(cs.setIfInBounds (off+k) v).size:=by
    simp only[Array.size_setIfInBounds]
    simp only[List.length_cons] at h
    omega
   rw[vh off vs (k+1) _ h']
   simp only[Array.toList_setIfInBounds]
   have hlt:off+k<cs.toList.length:=by
    simp only[List.length_cons] at h
    simp only[Array.length_toList]
    omega
   rw[show off+(k+1)=off+k+1 from by omega,List.take_set,List.drop_set_of_lt (by omega),List.length_cons,show off+k+(vs.length+1)=off+k+1+vs.length from by omega]
   congr 1
   have e:∀ (l:List Value) (n:Nat),n<l.length→(l.take (n+1)).set n v=l.take n++[v]:=by
    intro l n hn
    apply List.ext_getElem
    ·simp only[List.length_set,List.length_take,List.length_append,List.length_singleton]
     omega
    ·intro i h1 h2
     simp only[List.getElem_set,List.getElem_append,List.length_take,List.getElem_take,List.getElem_singleton]
     split
     ·rename_i e
      subst e
      rw[dif_neg (by omega)]
     ·rename_i e
      simp only[List.length_set,List.length_take] at h1
      rw[dif_pos (by omega)]
   rw[e _ _ hlt]
   simp
section
variable {N:Env} {B:Bs} {n:Nat} {μ:Mu} {β:Nat→Nat} {s:St} {a:Act} {w:World}
theorem BT:∀ {l:List Value} {xs:List Int},GO l=some xs→l=xs.map (Value.int .u8)
 | [],xs,h=>by simp only[GO] at h;cases h;rfl
 | v :: l,xs,h=>by
   unfold GO at h
   split at h
   ·rename_i heq;cases heq
   ·rename_i n r heq
    cases heq
    split at h
    ·rename_i q hq
     cases h
     rw[BT hq]
     rfl
    ·cases h
   ·cases h
theorem GQ (R:cb N B n μ β s a w) {src dst:TypeId} {x:Operand} {p v:Value} (hx:ev s x=some p) (h:wu N s.h src dst p=some v) : ∃ v',(convert src dst (a.eval x)).run N.P w = .ok v' w∧VR N.P μ v v':=by{
unfold wu at h
split at h
·rename_i e hs hd
 split at h
 ·rename_i he
  split at h
  ·cases h
   have hxx:=aI R hx
   rw[hxx.dM rfl]
   exact⟨_,run_convert_bytes_nil w src e hs he 0 0 dst hd,.pure rfl⟩
  ·rename_i ad len c
   split at h
   ·rename_i hz
    subst hz
    cases h
    have hxx:=aI R hx
    generalize a.eval x=u at hxx
    obtain⟨a',cap,rfl⟩:∃ a' cap,u = .slice (some a') 0 cap:=by
     cases hxx with
     | pure hp=>simp [be] at hp
     | slice=>exact⟨_,_,rfl⟩
     | fz=>exact⟨_,_,rfl⟩
     | fA=>exact⟨_,_,rfl⟩
    refine⟨.string ByteArray.empty,?_,.pure rfl⟩
    rw[run_convert_bytes_string w src dst e _ _ _ hs he hd]
    have:=run_bytesToString (P:=N.P) w a' 0 cap [] (by simp [loadCells,loadCellsFrom])
    simpa using this
   rename_i hnz
   split at h
   ·cases h
   ·rename_i ar hsp
    split at h
    ·rename_i cells v' own et ho
     split at h
     ·rename_i hve
      subst hve
      split at h
      ·rename_i l hl
       split at h
       ·rename_i xs hxs
        cases h
        obtain⟨id,off,ver2,m,o,cap,rfl,hm,heq,hlc,hcm,hcase⟩:=(aI R hx).oC (by rw[hsp];simp)
        cases hsp
        obtain⟨m',hm'⟩:=R.heap.obj _ _ _ _ _ ho
        have hat:=hm'.at
        rw[hm] at hat
        cases hat
        unfold jU vt at hl
        split at hl
        ·rename_i hle
         cases hl
         have hlm:=BT hxs
         have hlen:xs.length=len:=by
          have:=congrArg List.length hlm
          rw[List.length_take,List.length_drop,List.length_map] at this
          simp only at hle this
          omega
         rw[heq]
         rcases hcase with ⟨rfl,_⟩ | ⟨rfl,rfl,_⟩
         ·refine⟨_,run_convert_bytes_arg w src e hs he m.block (m.base+off) len cap xs hlen (fun i hi=>?_) dst hd,.pure rfl⟩
          have hci:cells[off+i]? = some (.int .u8 (xs.getD i 0)):=by
           have:=congrArg (fun z:List Value=>z[i]?) hlm
           simp only[List.getElem?_map,List.getElem?_take,List.getElem?_drop] at this
           rw[if_pos hi] at this
           rw[this,List.getD_eq_getElem?_getD,List.getElem?_eq_getElem (by omega:i<xs.length)]
           rfl
          obtain⟨u,k1,k2⟩:=hm'.cell _ _ hci
          rw[k2.int] at k1
          rw[Nat.add_assoc]
          exact k1
         ·have hx0:xs=[]:=List.eq_nil_of_length_eq_zero hlen
          subst hx0
          refine⟨.string ByteArray.empty,?_,.pure rfl⟩
          rw[run_convert_bytes_string w src dst e _ _ _ hs he hd]
          have:=run_bytesToString (P:=N.P) w ⟨m.block,o,none⟩ 0 0 [] (by simp [loadCells,loadCellsFrom])
          simpa using this
        ·cases hl
       ·cases h
      ·cases h
     ·cases h
    ·cases h
  ·cases h
 ·cases h
·cases h}
def Av (P:Program) (μ:Mu):List (Nat×Value)→List (Nat×Value)→Prop
 | [],[]=>True
 | (i,v) :: l,(j,u) :: l'=>i=j∧VR P μ v u∧Av P μ l l'
 | _,_=>False
theorem jH (R:cb N B n μ β s a w):∀ {l:List (Nat×Operand)} {ps:List (Nat×Value)},iD s l=some ps→Av N.P μ ps (l.map fun p=>(p.1,a.eval p.2))
 | [],ps,h=>by
   simp only[iD] at h
   cases h
   trivial
 | (i,x) :: r,ps,h=>by
   simp only[iD] at h
   split at h
   ·rename_i v l hv hl
    cases h
    exact⟨rfl,aI R hv,jH R hl⟩
   ·cases h
theorem kT {P:Program} {place:Nat→Option (Nat×Nat)}:∀ {ps ps':List (Nat×Value)} {cells l:List Value} {cells':Array Value},Av P μ ps ps'→dE P μ cells cells'.toList →
 dX place cells ps=some l→∃ l',Instr.fill place cells' ps'=some l'∧dE P μ l l'.toList
 | [],[],cells,l,cells',_,hc,h=>by
   simp only[dX] at h
   cases h
   exact⟨cells',rfl,hc⟩
 | (i,v) :: ps,(j,u) :: ps',cells,l,cells',⟨hij,hv,hp⟩,hc,h=>by
   subst hij
   simp only[dX] at h
   split at h
   ·cases h
   ·rename_i off size hpl
    split at h
    ·cases h
    ·rename_i vs hvs
     split at h
     ·cases h
     ·rename_i cs hcs
      obtain⟨rfl,h2,h3,h4⟩:=gB hvs
      obtain⟨k1,k2⟩:=hc.ll hv.cells hcs
      have hus:u.cells.size=size:=by
       have:=hv.cells.length
       simp only[Array.length_toList] at this h2
       omega
      have hfit:¬ (u.cells.size≠size∨off+u.cells.size > cells'.size):=by
       rw[not_or]
       refine⟨by simpa using hus,?_⟩
       simp only[Array.length_toList] at k2
       omega
      have hf:=vh off u.cells.toList 0 cells' (by simpa using k2)
      simp only[Nat.add_zero] at hf
      have e:(u.cells.zipIdx.foldl (fun cs p=>cs.setIfInBounds (off+p.2) p.1) cells')=(u.cells.toList.zipIdx.foldl (fun cs p=>cs.setIfInBounds (off+p.2) p.1) cells'):=by
       rw[← Array.foldl_toList,Array.toList_zipIdx]
      have k1':dE P μ cs (u.cells.zipIdx.foldl (fun cs p=>cs.setIfInBounds (off+p.2) p.1) cells').toList:=by
       rw[e,hf]
       exact k1
      obtain⟨l',q1,q2⟩:=kT hp k1' h
      refine⟨l',?_,q2⟩
      simp only[Instr.fill,hpl,Bool.or_eq_true,decide_eq_true_eq]
      rw[if_neg (by simpa using hfit)]
      exact q1
 | [],_ :: _,_,_,_,h,_,_=>h.elim
 | _ :: _,[],_,_,_,h,_,_=>h.elim
theorem Al (R:cb N B n μ β s a w) {t:TypeId} {parts:Array (Nat×Operand)} {v:Value} (h:mS N s t parts=some v) : ∃ v',(Instr.build t (parts.map fun (i,x)=>(i,a.eval x))).run N.P w = .ok v' w∧VR N.P μ v v':=by{
unfold mS at h
split at h
·rename_i ti ps ht hps
 obtain⟨i,d,hi,hd,rfl⟩:=bY ht
 have hP:=jH R hps
 have hl:(parts.map fun (i,x)=>(i,a.eval x)).toList=parts.toList.map fun p=>(p.1,a.eval p.2):=by simp
 split at h
 ·rename_i z hz
  simp only at hz
  split at h
  ·rename_i hpz
   simp only[Bool.and_eq_true] at hpz
   have hzz:dE N.P μ z.cells.toList z.cells.toList:=(VR.g6 hpz.1).cells
   split at h
   ·rename_i fs hu
    split at h
    ·rename_i pl hpl
     cases hq:dX (fun i=>pl[i]?) z.cells.toList ps with
     | none=>simp [hq] at h
     | some l=>
       simp only[hq,Option.map_some,Option.some.injEq] at h
       subst h
       obtain⟨l',k1,k2⟩:=kT hP hzz hq
       refine⟨.agg l',run_build w t _ l' ?_,?_⟩
       ·have hpl':fs.toList.mapM (fun f=>(N.P.info? f.type).map fun i=>(f.offset,i.size))=some pl:=by simpa [placesOf,hu] using hpl
        rw[hl]
        simp only[Program.built,hi,hu,hz,hpl']
        simpa using k1
       ·have:=k2.agg
        simpa using this
    ·cases h
   ·rename_i m e hu
    split at h
    ·rename_i te hte
     obtain⟨ie,de,hie,hde,rfl⟩:=bY hte
     cases hq:dX (sC ie.size) z.cells.toList ps with
     | none=>simp [hq] at h
     | some l=>
       simp only[hq,Option.map_some,Option.some.injEq] at h
       subst h
       obtain⟨l',k1,k2⟩:=kT hP hzz hq
       refine⟨.agg l',run_build w t _ l' ?_,?_⟩
       ·rw[hl]
        simp only[Program.built,hi,hu,hz,hie]
        exact k1
       ·have:=k2.agg
        simpa using this
    ·cases h
   ·cases h
  ·cases h
 ·cases h
·cases h}
theorem Gu {P:Program} {t ty:TypeId} {tys:Array TypeId} {x v u:Value} (ht:tys[0]? = some t) (h:(match P.underlying t,x with
 | some .string,.string b=>some (.int .i64 b.size)
 | some (.slice _),.slice _ n _=>some (.int .i64 n)
 | some (.array n _),_=>some (.int .i64 n)
 | _,_=>none:Option Value)=some v) (hx:VR P μ x u) (w:World):(Builtin.len_ tys ty #[u]).run P w = .ok v w∧be v=true:=by
 split at h
 ·rename_i b hu
  cases h
  rw[hx.string]
  exact⟨by simp [Builtin.len_,ht,run_underlying hu,goInt],rfl⟩
 ·rename_i e p m c hu
  cases h
  have:∃ p' c',u = .slice p' m c':=by
   cases hx with
   | pure hp=>exact⟨_,_,rfl⟩
   | slice _ _ _ _=>exact⟨_,_,rfl⟩
   | fz _ _=>exact⟨_,_,rfl⟩
   | fA=>exact⟨_,_,rfl⟩
  obtain⟨p',c',rfl⟩:=this
  exact⟨by simp [Builtin.len_,ht,run_underlying hu,goInt],rfl⟩
 ·rename_i m e hu
  cases h
  exact⟨by simp [Builtin.len_,ht,run_underlying hu,goInt],rfl⟩
 ·cases h
theorem tL {b:Builtin} {x y v u u':Value} {P:Program} {tys:Array TypeId} {ty:TypeId} {cs:Array Bool} (h:nZ b x y=some v) (hx:VR P μ x u) (hy:VR P μ y u') (w:World) : (builtin b tys ty cs #[u,u']).run P w = .ok (.value v) w∧be v=true:=by{
unfold nZ at h
split at h
·split at h
 ·cases h
  rw[hx.int,hy.int]
  refine⟨?_,rfl⟩
  simp only[builtin,Builtin.min_,List.foldlM_cons,List.foldlM_nil,Builtin.min2,Sem.run_bind,Sem.run_pure,Result.andThen_ok]
 ·cases h
·split at h
 ·cases h
  rw[hx.int,hy.int]
  refine⟨?_,rfl⟩
  simp only[builtin,Builtin.max_,List.foldlM_cons,List.foldlM_nil,Builtin.max2,Sem.run_bind,Sem.run_pure,Result.andThen_ok,gt_iff_lt]
 ·cases h
·cases h}
theorem wA (R:cb N B n μ β s a w) {b:Builtin} {args:Array Operand} {tys:Array TypeId} {ty:TypeId} {cs:Array Bool} {v:Value} (h:jl N s b args tys=some v) : ∃ v',(builtin b tys ty cs (args.map a.eval)).run N.P w = .ok (.value v') w∧VR N.P μ v v':=by{
have hl:(args.map a.eval)=(args.toList.map a.eval).toArray:=by rw[← Array.toList_map,Array.toArray_toList]
unfold jl at h
split at h
·rename_i x hv
 have hr:=gJ R hv
 split at h
 ·rename_i t ht
  obtain⟨u,hu,hx⟩:∃ u,args.toList.map a.eval=[u]∧VR N.P μ x u:=by
   generalize args.toList.map a.eval=l at hr
   match l,hr with
   | [u],⟨hx,_⟩=>exact⟨u,rfl,hx⟩
  rw[hl,hu]
  obtain⟨h1,h2⟩:=Gu (ty:=ty) ht h hx w
  exact⟨v,by simp [builtin,h1],.pure h2⟩
 ·cases h
·rename_i x y hv
 have hr:=gJ R hv
 obtain⟨u,u',hu,hx,hy⟩:∃ u u',args.toList.map a.eval=[u,u']∧VR N.P μ x u∧VR N.P μ y u':=by
  generalize args.toList.map a.eval=l at hr
  match l,hr with
  | [u,u'],⟨hx,hy,_⟩=>exact⟨u,u',rfl,hx,hy⟩
 rw[hl,hu]
 obtain⟨h1,h2⟩:=tL (tys:=tys) (ty:=ty) (cs:=cs) h hx hy w
 exact⟨v,h1,.pure h2⟩
·rename_i x y hv
 have hr:=gJ R hv
 obtain⟨u,u',hu,hx,hy⟩:∃ u u',args.toList.map a.eval=[u,u']∧VR N.P μ x u∧VR N.P μ y u':=by
  generalize args.toList.map a.eval=l at hr
  match l,hr with
  | [u,u'],⟨hx,hy,_⟩=>exact⟨u,u',rfl,hx,hy⟩
 rw[hl,hu]
 obtain⟨h1,h2⟩:=tL (tys:=tys) (ty:=ty) (cs:=cs) h hx hy w
 exact⟨v,h1,.pure h2⟩
·rename_i x hv
 have hr:=gJ R hv
 obtain⟨u,hu,hx⟩:∃ u,args.toList.map a.eval=[u]∧VR N.P μ x u:=by
  generalize args.toList.map a.eval=l at hr
  match l,hr with
  | [u],⟨hx,_⟩=>exact⟨u,rfl,hx⟩
 rw[hl,hu]
 unfold Nm at h
 split at h
 ·rename_i ad k c
  split at h
  ·rename_i hk
   cases h
   cases hx with
   | pure hp=>simp [be] at hp
   | @slice id off ar _ _ cap m hm hlc hcm hrm=>
     have hq:=Lib.run_unsafeSliceData_row (P:=N.P) w tys ty ⟨m.block,m.base+off,none⟩ k cap (Nat.ne_of_gt (Nat.lt_of_lt_of_le hk hlc))
     exact⟨_,by simp only[builtin,Sem.run_bind,hq,Result.andThen_ok,Sem.run_pure],.ptr hm⟩
   | fz=>omega
   | fA=>omega
  ·cases h
 ·cases h
  rw[hx.dM rfl]
  exact⟨.pointer none,by simp only[builtin,Sem.run_bind,Lib.run_unsafeSliceData_nil,Result.andThen_ok,Sem.run_pure],.pure rfl⟩
 ·cases h
·rename_i x y hv
 have hr:=gJ R hv
 obtain⟨u,u',hu,hx,hy⟩:∃ u u',args.toList.map a.eval=[u,u']∧VR N.P μ x u∧VR N.P μ y u':=by
  generalize args.toList.map a.eval=l at hr
  match l,hr with
  | [u,u'],⟨hx,hy,_⟩=>exact⟨u,u',rfl,hx,hy⟩
 rw[hl,hu]
 unfold Nh at h
 split at h
 ·rename_i t1 t2 p ht
  cases h
  rw[hy.int]
  obtain⟨p',rfl⟩:∃ p',u = .pointer p':=by
   cases hx with
   | pure hp=>exact⟨_,rfl⟩
   | ptr=>exact⟨_,rfl⟩
  have:tys=#[t1,t2]:=Array.toList_inj.1 ht
  rw[this]
  exact⟨.string .empty,by simp only[builtin,Sem.run_bind,Lib.run_unsafeString_none,Result.andThen_ok,Sem.run_pure],.pure rfl⟩
 ·cases h
·cases h}
theorem qt (R:cb N B n μ β s a w) {c x:Operand} {t want:Bool} {v:Value} (ht:ev s c=some (.bool t)) (h:j9 s c t want x=some v) (hw:t=want):VR N.P μ v (a.eval x):=by{
cases x with
| tmp r=>
  simp only[j9] at h
  split at h
  ·rename_i u hu
   cases h
   exact aI R (x:=.tmp r) (by simp [ev,hu])
  ·rename_i d w q u hu
   split at h
   ·rename_i e
    split at h
    ·split at h
     ·split at h
      ·rename_i hq
       cases h
       have hs:=R.slot r (di R (by rw[hu];simp))
       rw[hu] at hs
       have hcl:fc [(d,w,q)]=true:=by
        subst hw
        simp [fc,hq]
       simp only[j4,hcl,if_true] at hs
       exact hs
      ·cases h
     ·cases h
    ·cases h
   ·cases h
  ·cases h
| const k=>exact aI R (by simpa [j9] using h)
| func f=>exact aI R (by simpa [j9] using h)
| global g=>exact aI R (by simpa [j9] using h)}
theorem yu (R:cb N B n μ β s a w) {c x y:Operand} {t:Bool} {v:Value} (ht:ev s c=some (.bool t)) (h:tD s c t x y=some v):VR N.P μ v (if t then a.eval x else a.eval y):=by{
unfold tD at h
split at h
·rename_i p q hp hq
 cases h
 cases t with
 | true=>exact qt R ht hp rfl
 | false=>exact qt R ht hq rfl
·split at h
 ·exact aI R h
 ·exact aI R h}
theorem VR.nA {P:Program} {v v':Value} (h:VR P μ v v') (hp:fT v=true):v'=v:=by{
cases v with
| agg cs=>
  obtain⟨cs',rfl,hl⟩:=h.mU
  have h':cs.toList.all be=true:=hp
  have key:∀ {l l':List Value},dE P μ l l'→l.all be=true→l'=l:=by
   intro l
   induction l with
   | nil=>intro l' h _;cases l' with|nil=>rfl|cons _ _=>exact h.elim
   | cons a l ih=>
     intro l' h hq
     cases l' with
     | nil=>exact h.elim
     | cons b l'=>
       simp only[List.all_cons,Bool.and_eq_true] at hq
       rw[h.1.dM hq.1,ih h.2 hq.2]
  have:=key hl h'
  rw[Array.toList_inj.1 this]
| tuple cs=>
  have h':cs.toList.isEmpty=true:=hp
  have e:cs=#[]:=by simpa using h'
  subst e
  exact h.FL
| _=>exact h.dM hp}
theorem iz.find {P:Program} {k:Value}:∀ {es:List (Value×Value)} {q:List MapEntry} (i:Nat),iz P μ es q→(gQ es k=none∧gT k q i=none)∨∃ v j v',gQ es k=some v∧gT k q i=some (j,v')∧VR P μ v v'
 | [],[],_,_=>.inl ⟨rfl,rfl⟩
 | (x,v) :: r,e :: q,i,⟨h1,h2,h3⟩=>by
   simp only[gQ,gT,h1]
   by_cases hk:pX k x=true
   ·exact .inr ⟨v,i,e.val,by rw[if_pos hk],by rw[if_pos hk],h2⟩
   ·rw[if_neg hk,if_neg hk]
    exact iz.find (i+1) h3
 | [],_ :: _,_,h=>h.elim
 | (_,_) :: _,[],_,h=>h.elim
theorem iz.keys {P:Program} {kd:Value→Bool}:∀ {es:List (Value×Value)} {q:List MapEntry},iz P μ es q→eG kd es=true→∀ e∈q,kd e.key=true
 | [],[],_,_,e,he=>by simp at he
 | (x,v) :: r,e :: q,⟨h1,h2,h3⟩,hk,e',he=>by
   simp only[eG,List.all_cons,Bool.and_eq_true] at hk
   rcases List.mem_cons.1 he with rfl|he
   ·rw[h1];exact hk.1
   ·exact iz.keys h3 hk.2 e' he
 | [],_ :: _,h,_,_,_=>h.elim
 | (_,_) :: _,[],h,_,_,_=>h.elim
theorem pe {P:Program} {id:Nat} {v':Value} (h:VR P μ (.map (some id)) v'):∃ m,fQ μ id 0=some m∧v' = .map (some m.block):=by{
cases h with
| pure h=>simp [be] at h
| map h=>exact⟨_,h,rfl⟩}
theorem pU {P:Program} {t:TypeId} {z:Value} (h:zeroOf P t=some z) (w:World):(zeroValue t).run P w = .ok z w∧fT z=true:=by{
unfold zeroOf at h
split at h
·rename_i ti ht
 obtain⟨i,d,hi,hd,rfl⟩:=bY ht
 split at h
 ·rename_i z' hz
  simp only at hz
  split at h
  ·rename_i hp
   cases h
   exact⟨by simp [zeroValue,typeInfo,hi,hz],hp⟩
  ·cases h
 ·cases h
·cases h}
theorem yU (R:cb N B n μ β s a w) {x:Operand} {m:Value} {es:List (Value×Value)} (hx:ev s x=some m) (h:mapOf s m=some es) : (a.eval x = .map none∧es=[])∨∃ b en clock,a.eval x = .map (some b)∧w.heap[b]? = some (.map en clock)∧iz N.P μ es en.toList:=by{
unfold mapOf at h
split at h
·cases h
 exact .inl ⟨(aI R hx).dM rfl,rfl⟩
·rename_i id
 split at h
 ·rename_i es' ho
  cases h
  obtain⟨q,hq,he⟩:=pe (aI R hx)
  have O:lj N.P μ w id es q:=R.heap.Ep ho hq
  obtain⟨en,clock,h1,h2,_⟩:=O.yG
  exact .inr ⟨_,en,clock,he,h1,h2⟩
 ·cases h
·cases h}
theorem GU (hN:mC N) (R:cb N B n μ β s a w) {t:TypeId} {x i:Operand} {ok:Bool} {v:Value} (h:tK N s t x i ok=some v) : ∃ v',(Instr.lookup t (a.eval x) (a.eval i) ok).run N.P w = .ok v' w∧VR N.P μ v v':=by{
unfold tK at h
split at h
·rename_i kt et m k hu hx hk
 split at h
 ·rename_i kd es z hkd hes hz
  split at h
  ·rename_i hc
   simp only[Bool.and_eq_true] at hc
   have K:=hN.keys _ _ hkd
   obtain⟨z1,z2⟩:=pU hz w
   have hke:a.eval i=k:=(aI R hk).nA (K.pure _ hc.1)
   have hzz:VR N.P μ z z:=VR.g6 z2
   have fin:∀ en:List MapEntry,iz N.P μ es en→∃ v',((match gT k en 0 with
    | some (_,v)=>do
      let x ← pure (v,true)
      pure (if ok=true then Value.tuple #[x.1,.bool x.2] else x.1)
    | none=>do
      let z ← zeroValue et
      let x ← pure (z,false)
      pure (if ok=true then Value.tuple #[x.1,.bool x.2] else x.1):Sem Value)).run N.P w = .ok v' w∧VR N.P μ v v':=by
    intro en hen
    have En:∀ {u u':Value} {b:Bool},VR N.P μ u u'→VR N.P μ (.tuple #[u,.bool b]) (.tuple #[u',.bool b]):=fun {u u' b} hu=>by
     have:=dE.En (P:=N.P) (μ:=μ) (l:=[u,.bool b]) (l':=[u',.bool b]) ⟨hu,.pure rfl,trivial⟩
     simpa using this
    rcases iz.find 0 hen (k:=k) with ⟨h1,h2⟩ | ⟨u,j,u',h1,h2,h3⟩
    ·rw[h1] at h
     cases ok with
     | true=>simp at h;subst h;exact⟨_,by simp [h2,z1],En hzz⟩
     | false=>simp at h;subst h;exact⟨_,by simp [h2,z1],hzz⟩
    ·rw[h1] at h
     cases ok with
     | true=>simp at h;subst h;exact⟨_,by simp [h2],En h3⟩
     | false=>simp at h;subst h;exact⟨_,by simp [h2],h3⟩
   rcases yU R hx hes with ⟨he,rfl⟩ | ⟨b,en,clock,he,hb,hen⟩
   ·obtain⟨v',h1,h2⟩:=fin [] trivial
    refine⟨v',?_,h2⟩
    rw[he,hke]
    have f0:=K.find k [] w hc.1 (by simp)
    simp only[Instr.lookup,Sem.run_bind,run_underlying hu,Result.andThen_ok,Sem.run_pure,K.check _ _ _ hc.1,f0]
    exact h1
   ·obtain⟨v',h1,h2⟩:=fin en.toList hen
    refine⟨v',?_,h2⟩
    rw[he,hke]
    have f0:=K.find k en.toList w hc.1 (hen.keys hc.2)
    have hg:(getObj b).run N.P w = .ok (.map en clock) w:=by simp [getObj,Sem.run,hb]
    simp only[Instr.lookup,Sem.run_bind,run_underlying hu,Result.andThen_ok,Sem.run_pure,hg,K.check _ _ _ hc.1,f0]
    exact h1
  ·cases h
 ·cases h
·cases h}
theorem iz.at {P:Program}:∀ {es:List (Value×Value)} {q:List MapEntry} {i:Nat} {k v:Value},iz P μ es q→es[i]? = some (k,v)→∃ e,q[i]? = some e∧e.key=k∧VR P μ v e.val
 | [],[],_,_,_,_,h=>by simp at h
 | (_,_) :: _,e :: _,0,_,_,⟨h1,h2,_⟩,h=>by
   simp only[List.getElem?_cons_zero,Option.some.injEq,Prod.mk.injEq] at h
   obtain⟨rfl,rfl⟩:=h
   exact⟨e,rfl,h1,h2⟩
 | (_,_) :: _,_ :: _,i+1,_,_,⟨_,_,h3⟩,h=>by
   simp only[List.getElem?_cons_succ] at h ⊢
   exact iz.at h3 h
 | [],_ :: _,_,_,_,h,_=>h.elim
 | (_,_) :: _,[],_,_,_,h,_=>h.elim
theorem iz.len {P:Program}:∀ {es:List (Value×Value)} {q:List MapEntry},iz P μ es q→es.length=q.length
 | [],[],_=>rfl
 | (_,_) :: _,_ :: _,⟨_,_,h⟩=>by simp [iz.len h]
 | [],_ :: _,h=>h.elim
 | (_,_) :: _,[],h=>h.elim
theorem yS.nodup {en:Array MapEntry} {clock:Nat} (h:yS en clock):(en.toList.map (·.born)).Nodup:=by{
have:en.toList.map (·.born)=List.range en.toList.length:=by
 apply List.ext_getElem
 ·simp
 ·intro i h1 h2
  simp only[List.getElem_map,List.getElem_range]
  exact h.2 i _ (by simp only[List.length_map,Array.length_toList] at h1;rw[Array.getElem?_eq_getElem h1];simp)
rw[this]
exact List.nodup_range}
theorem FU (R:cb N B n μ β s a w) {x:Operand} {v:Value} (h:AM s x=some v):∃ v',(Instr.entry (a.eval x)).run N.P w = .ok v' w∧VR N.P μ v v':=by{
unfold AM at h
split at h
case h_2=>cases h
rename_i t
split at h
case h_2=>cases h
rename_i id k seen hx
split at h
case h_2=>cases h
rename_i i es hi hes
split at h
case isFalse=>cases h
rename_i hl
split at h
case h_2=>cases h
rename_i key val hkv
split at h
case isFalse=>cases h
rename_i hp
cases h
have hs:=R.slot t (di R (by rw[hx];simp))
rw[hx] at hs
obtain⟨hv,m,hm,hb⟩:=hs
have O:lj N.P μ w id es m:=R.heap.Ep hes hm
obtain⟨en,clock,hmb,hen,hst⟩:=O.yG
obtain⟨e,he,hek,hev⟩:=hen.at hkv
have hlen:en.size=k:=by rw[← hl,hen.len,Array.length_toList]
have hcl:clock=k:=by rw[hst.1,hlen]
have hse:seen.toArray=(seen.dropLast.toArray).push e.born:=by
 have hne:seen≠[]:=by rintro rfl;simp at hi
 have hla:seen.getLast hne=i:=by rw[List.getLast?_eq_some_getLast hne] at hi;exact Option.some.inj hi
 have hb:e.born=i:=hst.2 i e (by rw[← Array.getElem?_toList];exact he)
 have h0:seen=seen.dropLast++[e.born]:=by
  rw[hb,← hla]
  exact (List.dropLast_concat_getLast hne).symm
 conv=>lhs;rw[h0]
 simp
rw[hse,hcl.symm] at hb
refine⟨.tuple #[e.key,e.val],?_,.tuple rfl fun j u u' h1 h2=>?_⟩
·have:a.eval (.tmp t) = .pointer (some ⟨β t,0,none⟩):=hv
 rw[this]
 exact run_entry_at w (β t) m.block clock seen.dropLast.toArray en clock e hb hmb (List.mem_of_getElem? he) hst.nodup
·match j with
 | 0=>
   simp at h1 h2
   rw[← h1,← h2,hek]
   exact .g6 hp
 | 1=>
   simp at h1 h2
   rw[← h1,← h2]
   exact hev
 | j+2=>simp at h1}
theorem l9 (hN:mC N) (R:cb N B n μ β s a w) {o:Oper} {v:Value} (h:rz N s o.op=some v):∃ v',(execOp a.eval o).run N.P w = .ok (.value v') w∧VR N.P μ v v':=by{
unfold rz at h
split at h
·rename_i x ho
 exact⟨a.eval x,by simp [execOp,ho],aI R h⟩
·rename_i x ho
 exact⟨a.eval x,by simp [execOp,ho],aI R h⟩
·rename_i c x y ho
 split at h
 ·rename_i t hc
  have hb:=(aI R hc).bool
  refine⟨if t then a.eval x else a.eval y,?_,yu R hc h⟩
  cases t<;>simp [execOp,ho,hb,asBool]
 ·cases h
·rename_i t parts ho
 obtain⟨v',h1,h2⟩:=Al R h
 exact⟨v',by simp [execOp,ho,h1],h2⟩
·rename_i t x ho
 obtain⟨v',h1,h2⟩:=yb R h
 exact⟨v',by simp [execOp,ho,h1],h2⟩
·rename_i op t x y ty ho
 split at h
 ·rename_i p q hp hq
  obtain⟨v',h1,h2⟩:=Gz hN (X:=x) (Y:=y) h (aI R hp) (aI R hq) w
  refine⟨v',?_,h2⟩
  simp only[execOp,ho]
  rw[Sem.run_bind,h1]
  rfl
 ·cases h
·rename_i op t x ho
 split at h
 ·rename_i p hp
  obtain⟨v',h1,h2⟩:=II h (aI R hp) w
  exact⟨v',by simp [execOp,ho,h1],h2⟩
 ·cases h
·rename_i src dst x ho
 split at h
 ·rename_i p hp
  split at h
  ·rename_i q hq
   cases h
   obtain⟨v',h1,h2⟩:=DM hq (aI R hp) w
   exact⟨v',by simp [execOp,ho,h1],h2⟩
  ·obtain⟨v',h1,h2⟩:=GQ R hp h
   exact⟨v',by simp [execOp,ho,h1],h2⟩
 ·cases h
·rename_i t x f ho
 obtain⟨v',h1,h2⟩:=tR R h
 exact⟨v',by simp [execOp,ho,h1],h2⟩
·rename_i t x i ho
 obtain⟨v',h1,h2⟩:=tW R h
 exact⟨v',by simp [execOp,ho,h1],h2⟩
·rename_i t x f ho
 obtain⟨v',h1,h2⟩:=Dw R h
 exact⟨v',by simp [execOp,ho,h1],h2⟩
·rename_i t x i ho
 obtain⟨v',h1,h2⟩:=Dg R h
 exact⟨v',by simp [execOp,ho,h1],h2⟩
·rename_i t x lo hi ho
 obtain⟨v',h1,h2⟩:=zR R h
 refine⟨v',?_,h2⟩
 simp only[execOp,ho,Option.map_none,Sem.run_bind,h1,Result.andThen_ok,Sem.run_pure]
·rename_i t x i ok ho
 obtain⟨v',h1,h2⟩:=GU hN R h
 exact⟨v',by simp [execOp,ho,h1],h2⟩
·rename_i x k ho
 split at h
 ·rename_i vs hx
  obtain⟨cs',he,hl⟩:=(aI R hx).oc
  obtain⟨u',h1,h2⟩:=hl.get (i:=k) (v:=v) (by simpa using h)
  refine⟨u',?_,h2⟩
  have h1':cs'[k]? = some u':=by simpa using h1
  simp [execOp,ho,he,Instr.extract,h1']
 ·cases h
·rename_i f first captured ho
 split at h
 ·rename_i hf
  cases hq:tT s captured.toList with
  | none=>simp [hq] at h
  | some l=>
    simp only[hq,Option.map_some,Option.some.injEq] at h
    subst h
    have hr:=gJ R hq
    have he:first=#[]:=by simpa using hf
    subst he
    refine⟨.func (.func f) #[] (captured.map a.eval),by simp [execOp,ho,Instr.makeFunc],.func ?_ ?_⟩
    ·simpa using hr.length
    ·intro i v v' e e'
     exact hr.at (by simpa using e) (by simpa using e')
 ·cases h
·rename_i c ho
 split at h
 ·rename_i b hb
  obtain⟨v',h1,h2⟩:=wA R (ty:=o.type) (cs:=c.args.map fun | .const _=>true|_=>false) h
  refine⟨v',?_,h2⟩
  simp only[execOp,ho,resolve,hb,Sem.run_bind,Sem.run_pure,Result.andThen_ok,invoke]
  exact h1
 ·cases h
·rename_i x ho
 split at h
 ·rename_i ad hx
  cases h
  obtain⟨id,off,ar,m,rfl,hm,he⟩:=(aI R hx).jJ
  exact⟨_,by simp only[execOp,ho,he];rfl,.ptr hm⟩
 ·rename_i f p q hx
  cases h
  have hv:=aI R hx
  obtain⟨g,b',hg,rfl,he,hl⟩:=hv.vV
  rw[he] at hv
  exact⟨_,by simp only[execOp,ho,he];rfl,hv⟩
 ·cases h
·rename_i x ho
 obtain⟨v',h1,h2⟩:=FU R h
 exact⟨v',by simp [execOp,ho,h1],h2⟩
·cases h}
end
theorem bw (v:gu):∀ (l:Fr) (i j:Nat),aW (fP l i v) j=if i=j then v else aW l j
 | [],i,j=>by simp [fP,aW]
 | (k,u) :: r,i,j=>by
   simp only[fP]
   by_cases h:k=i
   ·subst h
    simp only[if_true,aW]
    split<;>rfl
   ·rw[if_neg h]
    simp only[aW,bw v r i j]
    by_cases h1:k=j
    ·subst h1
     rw[if_pos rfl,if_pos rfl,if_neg (fun e=>h e.symm)]
    ·rw[if_neg h1,if_neg h1]
theorem rU (a:Act) (d t:Nat) (v:Value) (hd:d<a.tmps.size):(a.put (some d) v).tmps.getD t undef=if d=t then v else a.tmps.getD t undef:=by{
simp only[Act.put,Array.getD_eq_getD_getElem?,Array.getElem?_setIfInBounds]
by_cases h:d=t
·subst h
 simp [hd]
·simp [h]}
theorem tS.mono {P:Program} {μ μ':Mu} {w w':World} {b:Nat} {cs:List Value} (hx:eU μ μ') (hw:w'.heap[b]? = w.heap[b]?) (h:tS P μ b cs w):tS P μ' b cs w':=by
 obtain⟨cur,e,h1,h2,h3⟩:=h
 exact⟨cur,e,hw.trans h1,h2.mono hx,h3⟩
theorem j4.mono {P:Program} {μ μ':Mu} {w w':World} {b:Nat} {sl:gu} {v:Value} (hx:eU μ μ') (hw:dZ sl=true→w'.heap[b]? = w.heap[b]?) (h:j4 P μ b w sl v):j4 P μ' b w' sl v:=by{
cases sl with
| val u=>exact VR.mono hx h
| Cc ks u=>
  simp only[j4] at h ⊢
  split at h
  ·rename_i hc
   rw[if_pos hc]
   exact VR.mono hx h
  ·rename_i hc
   rw[if_neg hc]
   exact h
| box cs=>exact⟨h.1,h.2.mono hx (hw rfl)⟩
| mx cs n=>exact⟨h.1,h.2.mono hx (hw rfl)⟩
| Eo o n=>
  cases o with
  | aA cs ar own t=>
    obtain⟨h1,h2,h3,cur,h4,h5,h6⟩:=h
    exact⟨h1,h2,h3,cur,(hw rfl).trans h4,h5.mono hx,h6⟩
  | map es=>
    obtain⟨h1,en,clock,h4,h5,h6⟩:=h
    exact⟨h1,en,clock,(hw rfl).trans h4,h5.mono hx,h6⟩
| nn id n seen=>
  obtain⟨h1,m,h2,h3⟩:=h
  exact⟨h1,m,eU.at hx h2,(hw rfl).trans h3⟩
| xf s pos=>exact⟨h.1,(hw rfl).trans h.2⟩
| dH=>trivial}
section
variable {N:Env} {B:Bs} {n:Nat} {μ μ':Mu} {β:Nat→Nat} {s:St} {a:Act} {w w':World}
theorem cb.Cb (R:cb N B n μ β s a w) {d:Nat} {sl:gu} {b:Nat} {v':Value} {h':ah} (hd:d<n) (hx:eU μ μ') (hH:b8 N.P μ' h' w') (hF:pT B.own B.w0 w') (hO:∀ b,fa μ' h' b→B.own b∨B.w0.heap.size≤b) (hK:∀ b,gM μ' h' b→B.eF b∨B.w0.heap.size≤b) (hsz:w.heap.size≤w'.heap.size) (hP:∀ t,dZ (aW s.fr t)=true→w'.heap[β t]? = w.heap[β t]?) (hB:∀ t,dZ (aW s.fr t)=true→¬ gM μ' h' (β t)) (hS:j4 N.P μ' b w' sl v') (hN:dZ sl=true→B.w0.heap.size≤b∧b<w'.heap.size∧¬ gM μ' h' b∧∀ t,dZ (aW s.fr t)=true→β t≠b) : cb N B n μ' (fun t=>if d=t then b else β t) ({ s with h:=h' }.put d sl) (a.put (some d) v') w':=by{
have hdt:d<a.tmps.size:=by rw[R.size];exact hd
refine⟨R.defers,by simpa [Act.put] using R.size,?_,?_,?_,hH,hF,R.ext.trans hx,hO,hK,?_,?_,?_⟩
·intro t ht
 simp only[St.put,bw,rU a d t v' hdt]
 by_cases h:d=t
 ·subst h
  simp only[if_true]
  exact hS
 ·simp only[if_neg h]
  exact (R.slot t ht).mono hx (hP t)
·intro t ht
 simp only[St.put,bw]
 rw[if_neg (by omega)]
 exact R.hi t ht
·intro t g sl' off hm
 obtain⟨h1,h2,h3⟩:=mh d hm
 obtain⟨k1,k2,k3⟩:=R.eH t g sl' off h1
 refine⟨k1,?_,?_⟩
 ·simp only[rU a d t v' hdt,if_neg (fun e:d=t=>h2 e.symm),if_neg (fun e:d=sl'=>h3 e.symm)]
  exact k2
 ·simp only[St.put,bw]
  rw[if_neg (fun e=>h3 e.symm)]
  exact k3
·intro t ht
 simp only[St.put,bw] at ht ⊢
 by_cases h:d=t
 ·rw[if_pos h] at ht ⊢
  exact⟨(hN ht).1,(hN ht).2.1⟩
 ·rw[if_neg h] at ht ⊢
  exact⟨(R.jo t ht).1,Nat.lt_of_lt_of_le (R.jo t ht).2 hsz⟩
·intro t t' ht ht' hne
 simp only[St.put,bw] at ht ht' ⊢
 by_cases h:d=t
 ·rw[if_pos h] at ht ⊢
  rw[if_neg (fun e=>hne (h.symm.trans e))] at ht' ⊢
  exact fun e=>(hN ht).2.2.2 t' ht' e.symm
 ·rw[if_neg h] at ht ⊢
  by_cases h':d=t'
  ·rw[if_pos h'] at ht' ⊢
   exact (hN ht').2.2.2 t ht
  ·rw[if_neg h'] at ht' ⊢
   exact R.nz t t' ht ht' hne
·intro t ht
 simp only[St.put,bw] at ht ⊢
 by_cases h:d=t
 ·rw[if_pos h] at ht ⊢
  exact (hN ht).2.2.1
 ·rw[if_neg h] at ht ⊢
  exact hB t ht}
theorem cb.Ip (R:cb N B n μ β s a w) {h':ah} (hx:eU μ μ') (hH:b8 N.P μ' h' w') (hF:pT B.own B.w0 w')
 (hO:∀ b,fa μ' h' b→B.own b∨B.w0.heap.size≤b) (hK:∀ b,gM μ' h' b→B.eF b∨B.w0.heap.size≤b) (hsz:w.heap.size≤w'.heap.size)
 (hP:∀ t,dZ (aW s.fr t)=true→w'.heap[β t]? = w.heap[β t]?) (hB:∀ t,dZ (aW s.fr t)=true→¬ gM μ' h' (β t)) :
 cb N B n μ' β { s with h:=h' } a w':=
 ⟨R.defers,R.size,fun t ht=>(R.slot t ht).mono hx (hP t),R.hi,R.eH,hH,hF,R.ext.trans hx,hO,hK,fun t ht=>⟨(R.jo t ht).1,Nat.lt_of_lt_of_le (R.jo t ht).2 hsz⟩,R.nz,hB⟩
theorem cb.AC (R:cb N B n μ β s a w) {d:Option Nat} {v v':Value} {h':ah} (hd:∀ x,d=some x→x<n) (hx:eU μ μ') (hH:b8 N.P μ' h' w') (hF:pT B.own B.w0 w') (hO:∀ b,fa μ' h' b→B.own b∨B.w0.heap.size≤b) (hK:∀ b,gM μ' h' b→B.eF b∨B.w0.heap.size≤b) (hsz:w.heap.size≤w'.heap.size) (hP:∀ t,dZ (aW s.fr t)=true→w'.heap[β t]? = w.heap[β t]?) (hB:∀ t,dZ (aW s.fr t)=true→¬ gM μ' h' (β t)) (hS:VR N.P μ' v v') : ∃ β',cb N B n μ' β' ({ s with h:=h' }.a9 d (.val v)) (a.put d v') w':=by{
cases d with
| none=>exact⟨β,R.Ip hx hH hF hO hK hsz hP hB⟩
| some d=>exact⟨_,R.Cb (b:=0) (hd d rfl) hx hH hF hO hK hsz hP hB hS (fun h=>by simp [dZ] at h)⟩}
theorem kQ:∀ {ks k r:List Key},nG ks k=some r→fc ks=true→fc k=fc r
 | [],k,r,h,_=>by
   simp only[nG] at h
   cases h
   rfl
 | _ :: _,[],r,h,_=>by simp [nG] at h
 | (d,w,c) :: ks,(d',w',c') :: k,r,h,hc=>by
   simp only[nG] at h
   split at h
   ·split at h
    ·split at h
     ·rename_i e
      subst e
      simp only[fc,List.all_cons,Bool.and_eq_true] at hc
      have ih:=kQ h hc.2
      simp only[fc,List.all_cons,hc.1,Bool.true_and]
      exact ih
     ·cases h
    ·cases h
   ·cases h
theorem iN (ks:List Key):∀ (f:Fr) (t:Nat),aW (Fm ks f) t=zF ks (aW f t)
 | [],t=>rfl
 | (k,v) :: r,t=>by
   simp only[Fm,aW]
   split
   ·rfl
   ·exact iN ks r t
theorem vX (ks:List Key) {t:Nat} {g:List Key} {p:Nat×Nat}:∀ {e:C9},(t,(g,p))∈Cy ks e→∃ g0,(t,(g0,p))∈e∧((nG ks g0=some g)∨g=g0)
 | [],h=>by simp [Cy] at h
 | (k,(q,p')) :: r,h=>by
   simp only[Cy] at h
   rcases List.mem_cons.1 h with h|h
   ·simp only[Prod.mk.injEq] at h
    obtain⟨rfl,h1,rfl⟩:=h
    refine⟨q,List.mem_cons_self,?_⟩
    split at h1
    ·rename_i g' hg
     exact .inl (by rw[hg,h1])
    ·exact .inr h1
   ·obtain⟨g0,h1,h2⟩:=vX ks h
    exact⟨g0,List.mem_cons_of_mem _ h1,h2⟩
theorem pM (ks:List Key) (sl:gu):dZ (zF ks sl)=dZ sl:=by{
cases sl with
| Cc k v=>
  simp only[zF]
  split<;>rfl
| _=>rfl}
theorem FD (ks:List Key) {sl:gu} {cs:List Value}:sl = .box cs→zF ks sl = .box cs:=by
 rintro rfl
 rfl
theorem cb.sL (R:cb N B n μ β s a w) {ks:List Key} (hc:fc ks=true):cb N B n μ β (s.sL ks) a w:=by{
refine⟨R.defers,R.size,?_,?_,?_,R.heap,R.fr,R.ext,R.own,R.eF,?_,?_,?_⟩
·intro t ht
 simp only[St.sL,iN]
 have hs:=R.slot t ht
 generalize aW s.fr t=sl at hs
 cases sl with
 | Cc k v=>
   simp only[zF]
   split
   ·rename_i h
    have:=kQ h hc
    simp only[j4] at hs ⊢
    rw[this] at hs
    simpa [fc] using hs
   ·rename_i x r h
    have:=kQ h hc
    simp only[j4] at hs ⊢
    rwa [this] at hs
   ·exact hs
 | _=>exact hs
·intro t ht
 simp only[St.sL,iN,R.hi t ht]
 rfl
·intro t g sl off hm
 obtain⟨g0,h1,h2⟩:=vX ks hm
 obtain⟨k1,k2,cs,k3⟩:=R.eH t g0 sl off h1
 refine⟨k1,?_,cs,?_⟩
 ·rcases h2 with h2|rfl
  ·rwa [kQ h2 hc] at k2
  ·exact k2
 ·simp only[St.sL,iN]
  exact FD ks k3
·intro t ht
 simp only[St.sL,iN,pM] at ht
 exact R.jo t ht
·intro t t' ht ht'
 simp only[St.sL,iN,pM] at ht ht'
 exact R.nz t t' ht ht'
·intro t ht
 simp only[St.sL,iN,pM] at ht
 exact R.eN t ht}
theorem cb.val (R:cb N B n μ β s a w) {d:Option Nat} {v v':Value} (hd:∀ x,d=some x→x<n) (hS:VR N.P μ v v'):∃ β',cb N B n μ β' (s.a9 d (.val v)) (a.put d v') w:=
 R.AC (h':=s.h) hd (eU.refl _) R.heap R.fr R.own R.eF (Nat.le_refl _) (fun _ _=>rfl) R.eN hS
theorem tU {w w':World} {b o:Nat} (h:w'.heap[b]? = w.heap[b]?):w'.cell? ⟨b,o,none⟩=w.cell? ⟨b,o,none⟩:=by simp [World.cell?,h]
theorem lk.mono {P:Program} {id ar:Nat} {cells:List Value} {own:Bool} {et:TypeId} {m:M} (h:lk P μ w id cells ar own et m) (hx:eU μ μ') (hl:μ'[id]? = μ[id]?) (hw:w'.heap[m.block]? = w.heap[m.block]?) (hsz:w.heap.size≤w'.heap.size):lk P μ' w' id cells ar own et m:=by{
refine⟨by rw[hl];exact h.qN,h.ez,?_,h.one,Nat.lt_of_lt_of_le h.eF hsz,?_⟩
·intro j v hj
 obtain⟨v',h1,h2⟩:=h.cell j v hj
 exact⟨v',(tU hw).trans h1,h2.mono hx⟩
·intro ho
 obtain⟨h1,cur,h2,h3⟩:=h.own ho
 exact⟨h1,cur,hw.trans h2,h3⟩}
theorem lj.mono {P:Program} {id:Nat} {es:List (Value×Value)} {m:M} (h:lj P μ w id es m) (hx:eU μ μ') (hl:μ'[id]? = μ[id]?) (hw:w'.heap[m.block]? = w.heap[m.block]?)
 (hsz:w.heap.size≤w'.heap.size):lj P μ' w' id es m:=by
 obtain⟨en,clock,h1,h2,h3⟩:=h.yG
 exact⟨hl.trans h.qN,Nat.lt_of_lt_of_le h.eF hsz,en,clock,hw.trans h1,h2.mono hx,h3⟩
theorem OR.mono {P:Program} {id:Nat} (hx:eU μ μ') (hl:μ'[id]? = μ[id]?) (hsz:w.heap.size≤w'.heap.size):∀ {o:av} {m:M},OR P μ w id o m→w'.heap[m.block]? = w.heap[m.block]?→OR P μ' w' id o m
 | .aA ..,_,h,hw=>lk.mono h hx hl hw hsz
 | .map _,_,h,hw=>lj.mono h hx hl hw hsz
theorem b8.get {P:Program} {h:ah} (H:b8 P μ h w) {id ar:Nat} {cells:List Value} {own:Bool} {et:TypeId} {m:M} (ho:h[id]? = some (.aA cells ar own et)) (hm:fQ μ id ar=some m) :
 lk P μ w id cells ar own et m:=H.Ep ho hm
theorem b8.world {P:Program} {h:ah} (H:b8 P μ h w) (hsz:w.heap.size≤w'.heap.size) (hw:∀ b,gM μ h b→w'.heap[b]? = w.heap[b]?):b8 P μ h w':=by{
refine⟨H.len,?_,H.se⟩
intro id o ho
obtain⟨m,hm⟩:=H.ob _ _ ho
exact⟨m,hm.mono (eU.refl _) rfl hsz (hw _ ⟨id,o,m,ho,hm.at,rfl⟩)⟩}
theorem fu {α:Type} {l:List α} {x:α} {i:Nat} (h:i<l.length):(l++[x])[i]? = l[i]?:=List.getElem?_append_left h
theorem gj {h:ah} {x o:av} {id:Nat} (ho:(h++[x])[id]? = some o):(id<h.length∧h[id]? = some o)∨(id=h.length∧o=x):=by{
rcases Nat.lt_trichotomy id h.length with hi|hi|hi
·rw[fu hi] at ho
 exact .inl ⟨hi,ho⟩
·subst hi
 simp at ho
 exact .inr ⟨rfl,ho.symm⟩
·rw[List.getElem?_eq_none (by simp;omega)] at ho
 cases ho}
theorem b8.So {P:Program} {h:ah} (H:b8 P μ h w) {o:av} {m:M} (hsz:w.heap.size≤w'.heap.size) (hb:∀ b,gM μ h b→b≠m.block) (hw:∀ k,k<w.heap.size→w'.heap[k]? = w.heap[k]?) (hn:OR P (μ++[[m]]) w' h.length o m):b8 P (μ++[[m]]) (h++[o]) w':=by{
have hold:∀ {id:Nat},id<h.length→(μ++[[m]])[id]? = μ[id]?:=fun {id} hi=>fu (by rw[H.len];exact hi)
have hatold:∀ {id v:Nat},id<h.length→fQ (μ++[[m]]) id v=fQ μ id v:=fun {id v} hi=>by unfold fQ;rw[hold hi]
refine⟨by simp [H.len],?_,?_⟩
·intro id o' ho
 rcases gj ho with ⟨hi,ho'⟩ | ⟨rfl,rfl⟩
 ·obtain⟨q,hq⟩:=H.ob _ _ ho'
  exact⟨q,hq.mono (eU.push _ _) (hold hi) hsz (hw _ hq.eF)⟩
 ·exact⟨m,hn⟩
·intro id1 id2 o1 o2 m1 m2 hne h1 h2 ho k1 k2
 rcases gj h1 with ⟨hi,g1⟩ | ⟨rfl,rfl⟩<;>rcases gj h2 with ⟨hi',g2⟩ | ⟨rfl,rfl⟩
 ·rw[hatold hi] at k1
  rw[hatold hi'] at k2
  exact H.se _ _ _ _ _ _ hne g1 g2 ho k1 k2
 ·rw[hatold hi] at k1
  have:=hn.at
  rw[k2] at this
  cases this
  exact hb _ ⟨_,_,_,g1,k1,rfl⟩
 ·rw[hatold hi'] at k2
  have:=hn.at
  rw[k1] at this
  cases this
  exact Ne.symm (hb _ ⟨_,_,_,g2,k2,rfl⟩)
 ·exact absurd rfl hne}
theorem b8.Np {P:Program} {h:ah} (H:b8 P μ h w) {o:av} {m:M} (hsz:w.heap.size≤w'.heap.size) (hb:w.heap.size≤m.block)
 (hw:∀ k,k<w.heap.size→w'.heap[k]? = w.heap[k]?) (hn:OR P (μ++[[m]]) w' h.length o m):b8 P (μ++[[m]]) (h++[o]) w':=
 H.So hsz (fun b hbb=>by have:=hbb.lt H;omega) hw hn
theorem b8.new {P:Program} {h:ah} (H:b8 P μ h w) {cells:List Value} {cur:Array Value} {e:TypeId} {b:Nat} (hsz:w.heap.size≤w'.heap.size) (hb:w.heap.size≤b) (hbl:b<w'.heap.size) (hw:∀ k,k<w.heap.size→w'.heap[k]? = w.heap[k]?) (hr:w'.heap[b]? = some (.cells cur e (0,0))) (hc:∀ (j:Nat) (v:Value),cells[j]? = some v→∃ v',cur[j]? = some v'∧VR P μ v v') (h1:cells.all one=true) : b8 P (μ++[[⟨b,0,cur.size,e⟩]]) (h++[.aA cells 0 true e]) w':=by{
refine H.Np (m:=⟨b,0,cur.size,e⟩) hsz hb hw ?_
refine⟨⟨[⟨b,0,cur.size,e⟩],by rw[← H.len];simp,rfl,rfl⟩,rfl,?_,h1,hbl,fun _=>⟨rfl,cur,hr,rfl⟩⟩
intro j v hj
obtain⟨v',k1,k2⟩:=hc j v hj
exact⟨v',by simp [World.cell?,hr,k1],k2.mono (eU.push _ _)⟩}
theorem iH {h:ah} {o:av} {m:M} {b:Nat} (hv:o.ar=0) (hlen:μ.length=h.length) (hb:gM (μ++[[m]]) (h++[o]) b):gM μ h b∨b=m.block:=by{
obtain⟨id,o',m',h1,h2,rfl⟩:=hb
rcases gj h1 with ⟨hi,g1⟩ | ⟨rfl,rfl⟩
·exact .inl ⟨id,o',m',g1,by unfold fQ at h2 ⊢;rwa [fu (by omega)] at h2,rfl⟩
·rw[hv,← hlen,cM] at h2
 cases h2
 exact .inr rfl}
theorem lO {h:ah} {o:av} {m:M} {b:Nat} (hv:o.ar=0) (hlen:μ.length=h.length) (hb:fa (μ++[[m]]) (h++[o]) b):fa μ h b∨b=m.block:=by{
obtain⟨id,o',m',h1,ho,h2,rfl⟩:=hb
rcases gj h1 with ⟨hi,g1⟩ | ⟨rfl,rfl⟩
·exact .inl ⟨id,o',m',g1,ho,by unfold fQ at h2 ⊢;rwa [fu (by omega)] at h2,rfl⟩
·rw[hv,← hlen,cM] at h2
 cases h2
 exact .inr rfl}
theorem HG {h:ah} {cells:List Value} {m:M} {e:TypeId} {b:Nat} (hlen:μ.length=h.length) (hb:fa (μ++[[m]]) (h++[.aA cells 0 true e]) b):fa μ h b∨b=m.block:=lO rfl hlen hb
theorem Cu {h:ah} {cells:List Value} {m:M} {e:TypeId} {b:Nat} (hlen:μ.length=h.length) (hb:gM (μ++[[m]]) (h++[.aA cells 0 true e]) b):gM μ h b∨b=m.block:=iH rfl hlen hb
end
section
variable {N:Env} {B:Bs} {n:Nat} {μ μ':Mu} {β:Nat→Nat} {s:St} {a:Act} {w w':World}
theorem b8.Hi {P:Program} {h:ah} (H:b8 P μ h w) {id:Nat} {o o':av} {m m':M} (ho:h[id]? = some o) (hown:o.own=true) (hm:fQ μ id o.ar=some m) (hx:eU μ μ') (hl:μ'.length=μ.length) (hsame:∀ i,i≠id→μ'[i]? = μ[i]?) (hn:OR P μ' w' id o' m') (hb:m'.block=m.block∨w.heap.size≤m'.block) (hsz:w.heap.size≤w'.heap.size) (hw:∀ k,k<w.heap.size→k≠m.block→w'.heap[k]? = w.heap[k]?):b8 P μ' (h.set id o') w':=by{
have hid:id<h.length:=(List.getElem?_eq_some_iff.1 ho).1
have hcase:∀ {i:Nat} {q:av},(h.set id o')[i]? = some q→(i≠id∧h[i]? = some q)∨(i=id∧q=o'):=by
 intro i q hi
 rw[List.getElem?_set] at hi
 by_cases e:id=i
 ·subst e
  simp only[if_true,hid,Option.some.injEq] at hi
  exact .inr ⟨rfl,hi.symm⟩
 ·rw[if_neg e] at hi
  exact .inl ⟨fun e'=>e e'.symm,hi⟩
have hat:∀ {i v:Nat},i≠id→fQ μ' i v=fQ μ i v:=fun {i v} hi=>by unfold fQ;rw[hsame i hi]
have hblk:∀ {i:Nat} {x:av} {q:M},i≠id→h[i]? = some x→fQ μ i x.ar=some q→m'.block≠q.block:=by
 intro i x q hi h1 h2
 rcases hb with hb|hb
 ·rw[hb]
  exact H.se _ _ _ _ _ _ (fun e=>hi e.symm) ho h1 hown hm h2
 ·have:=(H.Ep h1 h2).eF
  omega
refine⟨by simp [hl,H.len],?_,?_⟩
·intro i x hi
 rcases hcase hi with ⟨hne,h1⟩ | ⟨rfl,rfl⟩
 ·obtain⟨q,hq⟩:=H.ob _ _ h1
  exact⟨q,hq.mono hx (hsame i hne) hsz (hw _ hq.eF fun e=>H.se _ _ _ _ _ _ (fun e=>hne e.symm) ho h1 hown hm hq.at e.symm)⟩
 ·exact⟨m',hn⟩
·intro i1 i2 o1 o2 m1 m2 hne h1 h2 ho1 k1 k2
 rcases hcase h1 with ⟨hi,g1⟩ | ⟨rfl,rfl⟩<;>rcases hcase h2 with ⟨hi',g2⟩ | ⟨rfl,rfl⟩
 ·rw[hat hi] at k1
  rw[hat hi'] at k2
  exact H.se _ _ _ _ _ _ hne g1 g2 ho1 k1 k2
 ·rw[hat hi] at k1
  have:=hn.at
  rw[k2] at this
  cases this
  exact fun e=>hblk hi g1 k1 e.symm
 ·rw[hat hi'] at k2
  have:=hn.at
  rw[k1] at this
  cases this
  exact hblk hi' g2 k2
 ·exact absurd rfl hne}
theorem b8.Na {P:Program} {h:ah} (H:b8 P μ h w) {id ar ver':Nat} {cells cells':List Value} {et:TypeId} {m m':M} (ho:h[id]? = some (.aA cells ar true et)) (hm:fQ μ id ar=some m)
 (hx:eU μ μ') (hl:μ'.length=μ.length) (hsame:∀ i,i≠id→μ'[i]? = μ[i]?) (hn:lk P μ' w' id cells' ver' true et m') (hb:m'.block=m.block∨w.heap.size≤m'.block)
 (hsz:w.heap.size≤w'.heap.size) (hw:∀ k,k<w.heap.size→k≠m.block→w'.heap[k]? = w.heap[k]?):b8 P μ' (h.set id (.aA cells' ver' true et)) w':=
 H.Hi ho rfl hm hx hl hsame hn hb hsz hw
theorem vl {h:ah} {x o:av} {id i:Nat} (ho:(h.set id x)[i]? = some o):(i≠id∧h[i]? = some o)∨(i=id∧o=x):=by{
rw[List.getElem?_set] at ho
by_cases e:id=i
·subst e
 simp only[if_true] at ho
 split at ho
 ·exact .inr ⟨rfl,(Option.some.inj ho).symm⟩
 ·cases ho
·rw[if_neg e] at ho
 exact .inl ⟨fun e'=>e e'.symm,ho⟩}
theorem mw {h:ah} {id:Nat} {o':av} {m':M} {b:Nat} (hsame:∀ i,i≠id→μ'[i]? = μ[i]?) (hm':fQ μ' id o'.ar=some m') (hb:fa μ' (h.set id o') b):fa μ h b∨b=m'.block:=by{
obtain⟨i,x,q,h1,ho,h2,rfl⟩:=hb
rcases vl h1 with ⟨hne,g1⟩ | ⟨rfl,rfl⟩
·exact .inl ⟨i,x,q,g1,ho,by unfold fQ at h2 ⊢;rwa [hsame i hne] at h2,rfl⟩
·rw[hm'] at h2
 cases h2
 exact .inr rfl}
theorem iu {h:ah} {id:Nat} {o':av} {m':M} {b:Nat} (hsame:∀ i,i≠id→μ'[i]? = μ[i]?) (hm':fQ μ' id o'.ar=some m') (hb:gM μ' (h.set id o') b):gM μ h b∨b=m'.block:=by{
obtain⟨i,x,q,h1,h2,rfl⟩:=hb
rcases vl h1 with ⟨hne,g1⟩ | ⟨rfl,rfl⟩
·exact .inl ⟨i,x,q,g1,by unfold fQ at h2 ⊢;rwa [hsame i hne] at h2,rfl⟩
·rw[hm'] at h2
 cases h2
 exact .inr rfl}
theorem tM {h:ah} {id ver':Nat} {cells':List Value} {et:TypeId} {m':M} {b:Nat} (hsame:∀ i,i≠id→μ'[i]? = μ[i]?) (hm':fQ μ' id ver'=some m')
 (hb:fa μ' (h.set id (.aA cells' ver' true et)) b):fa μ h b∨b=m'.block:=mw (o':=.aA cells' ver' true et) hsame hm' hb
theorem lB {h:ah} {id ver':Nat} {cells':List Value} {et:TypeId} {m':M} {b:Nat} (hsame:∀ i,i≠id→μ'[i]? = μ[i]?) (hm':fQ μ' id ver'=some m')
 (hb:gM μ' (h.set id (.aA cells' ver' true et)) b):gM μ h b∨b=m'.block:=iu (o':=.aA cells' ver' true et) hsame hm' hb
theorem b8.KV {P:Program} {h:ah} (H:b8 P μ h w) {id:Nat} {es es':List (Value×Value)} {m:M} (ho:h[id]? = some (.map es)) (hm:fQ μ id 0=some m) {en:Array MapEntry} {clock:Nat}
 (hr:w'.heap[m.block]? = some (.map en clock)) (he:iz P μ es' en.toList) (hst:yS en clock) (hsz:w.heap.size≤w'.heap.size) (hw:∀ k,k<w.heap.size→k≠m.block→w'.heap[k]? = w.heap[k]?):b8 P μ (h.set id (.map es')) w':=by
 have O:lj P μ w id es m:=H.Ep ho hm
 exact H.Hi ho rfl hm (eU.refl _) rfl (fun _ _=>rfl) (o':=.map es') (m':=m) ⟨O.qN,Nat.lt_of_lt_of_le O.eF hsz,en,clock,hr,he,hst⟩ (.inl rfl) hsz hw
theorem cU (w:World) (o:Obj) {k:Nat} (h:k<w.heap.size):(w.alloc o).heap[k]? = w.heap[k]?:=Below.heap_alloc w o k h
theorem pT.alloc {O:Nat→Prop} {w0:World} (h:pT O w0 w) (o:Obj):pT O w0 (w.alloc o):=
 ⟨h.os,h.tape,h.output,by have:=h.size;simp;omega,fun k hk hn=>(cU w o (Nat.lt_of_lt_of_le hk h.size)).trans (h.block k hk hn)⟩
theorem pT.grow {O:Nat→Prop} {w0:World} (h:pT O w0 w) (ho:w'.os=w.os) (ht:w'.tape=w.tape) (hu:w'.output=w.output) (hsz:w.heap.size≤w'.heap.size)
 (hw:∀ k,k<w.heap.size→w'.heap[k]? = w.heap[k]?):pT O w0 w':=
 ⟨ho.trans h.os,ht.trans h.tape,hu.trans h.output,Nat.le_trans h.size hsz,fun k hk hn=>(hw k (Nat.lt_of_lt_of_le hk h.size)).trans (h.block k hk hn)⟩
theorem Fp {P:Program} {cs:List Value} {cur:Array Value} {e:TypeId} {b:Nat} (hr:w.heap[b]? = some (.cells cur e (0,0))) (h:dE P μ cs cur.toList) (h1:cs.all one=true):tS P μ b cs w:=⟨cur,e,hr,h,h1⟩
theorem cb.BY (R:cb N B n μ β s a w) {d:Nat} {sl:gu} {cs:List Value} {cur:Array Value} {e:TypeId} {v':Value} (hd:d<n) (hc:dE N.P μ cs cur.toList) (h1:cs.all one=true) (hS:(tS N.P μ w.heap.size cs (w.alloc (.cells cur e))→j4 N.P μ w.heap.size (w.alloc (.cells cur e)) sl v')):∃ β',cb N B n μ β' (s.put d sl) (a.put (some d) v') (w.alloc (.cells cur e)):=by{
have hnew:(w.alloc (.cells cur e)).heap[w.heap.size]? = some (.cells cur e (0,0)):=heap_alloc_new w _
have hlt:=fun (t:Nat) (ht:dZ (aW s.fr t)=true)=>(R.jo t ht).2
refine⟨_,R.Cb (h':=s.h) (b:=w.heap.size) hd (eU.refl _) (R.heap.world (by simp) fun b hb=>cU w _ (hb.lt R.heap)) (R.fr.alloc _) R.own R.eF (by simp)
 (fun t ht=>cU w _ (hlt t ht)) R.eN (hS (Fp hnew hc h1)) fun _=>⟨R.fr.size,by simp,fun hb=>by have:=hb.lt R.heap;omega,fun t ht=>by have:=hlt t ht;omega⟩⟩}
theorem cb.wl (R:cb N B n μ β s a w) {d:Nat} {sl:gu} {ob:Obj} {v':Value} (hd:d<n) (hS:(w.alloc ob).heap[w.heap.size]? = some ob→j4 N.P μ w.heap.size (w.alloc ob) sl v'):∃ β',cb N B n μ β' (s.put d sl) (a.put (some d) v') (w.alloc ob):=by{
have hnew:(w.alloc ob).heap[w.heap.size]? = some ob:=by rw[heap_alloc_new w ob]
have hlt:=fun (t:Nat) (ht:dZ (aW s.fr t)=true)=>(R.jo t ht).2
refine⟨_,R.Cb (h':=s.h) (b:=w.heap.size) hd (eU.refl _) (R.heap.world (by simp) fun b hb=>cU w _ (hb.lt R.heap)) (R.fr.alloc _) R.own R.eF (by simp)
 (fun t ht=>cU w _ (hlt t ht)) R.eN (hS hnew) fun _=>⟨R.fr.size,by simp,fun hb=>by have:=hb.lt R.heap;omega,fun t ht=>by have:=hlt t ht;omega⟩⟩}
theorem Gm {a:Act} {d:Nat} (hd:d<a.tmps.size):a.put (some d) (a.tmps.getD d undef)=a:=by{
unfold Act.put
have:a.tmps.setIfInBounds d (a.tmps.getD d undef)=a.tmps:=by
 apply Array.ext
 ·simp
 ·intro i h1 h2
  rw[Array.getElem_setIfInBounds h2]
  split
  ·rename_i e
   subst e
   simp [Array.getD_eq_getD_getElem?,h2]
  ·rfl
simp only[this]}
theorem cb.Wf (R:cb N B n μ β s a w) {d m:Nat} {x:av} (hs:aW s.fr d = .Eo x m):∃ μ' β',cb N B n μ' β' ({ (s.put d .dH) with h:=s.h++[x] }.put d (.val (Hc x m s.h.length))) a w:=by{
have hd:d<n:=by
 rcases Nat.lt_or_ge d n with h|h
 ·exact h
 ·have:=R.hi d h
  rw[hs] at this
  cases this
have hp:dZ (aW s.fr d)=true:=by rw[hs];rfl
have hsl:=R.slot d hd
rw[hs] at hsl
have hbn:=R.jo d hp
have hda:d<a.tmps.size:=by rw[R.size];exact hd
generalize hv':a.tmps.getD d undef=v' at hsl
have R1:=R.Cb (μ':=μ) (h':=s.h) (w':=w) (d:=d) (sl:=.dH) (b:=0) (v':=v') hd (eU.refl _) R.heap R.fr R.own R.eF (Nat.le_refl _) (fun _ _=>rfl) R.eN trivial (fun h=>by simp [dZ] at h)
have ha:a.put (some d) v'=a:=by rw[← hv'];exact Gm hda
rw[ha] at R1
obtain⟨mm,hmb,hO,hV⟩:∃ mm:M,mm.block=β d∧OR N.P (μ++[[mm]]) w s.h.length x mm∧VR N.P (μ++[[mm]]) (Hc x m s.h.length) v':=by
 cases x with
 | aA cs ar own t=>
   obtain⟨rfl,rfl,h3,cur,h4,h5,h6,h7,h8⟩:=hsl
   have hat:fQ (μ++[[⟨β d,0,cur.size,t⟩]]) s.h.length 0=some ⟨β d,0,cur.size,t⟩:=by rw[← R.heap.len];exact cM _ _
   refine⟨⟨β d,0,cur.size,t⟩,rfl,⟨⟨[⟨β d,0,cur.size,t⟩],by rw[← R.heap.len];simp,rfl,rfl⟩,rfl,fun j v hj=>?_,h6,hbn.2,fun _=>⟨rfl,cur,h4,rfl⟩⟩,?_⟩
   ·obtain⟨u,k1,k2⟩:=h5.get hj
    exact⟨u,by simp only[World.cell?,h4];simpa using k1,k2.mono (eU.push _ _)⟩
   ·rw[h3]
    have hml:maxLen=9223372036854775807:=by simp [maxLen]
    have:=VR.slice (P:=N.P) (off:=0) (len:=m) (c:=m) (cap:=m) hat (Nat.le_refl _) (by omega) (by simp only;omega)
    exact this
 | map es=>
   obtain⟨h3,en,clock,h4,h5,h6⟩:=hsl
   have hat:fQ (μ++[[⟨β d,0,0,0⟩]]) s.h.length 0=some ⟨β d,0,0,0⟩:=by rw[← R.heap.len];exact cM _ _
   refine⟨⟨β d,0,0,0⟩,rfl,⟨by rw[← R.heap.len];simp,hbn.2,en,clock,h4,h5.mono (eU.push _ _),h6⟩,?_⟩
   rw[h3]
   exact .map hat
have hver:x.ar=0:=by
 cases x with
 | aA cs ar own t=>exact hsl.1
 | map es=>rfl
have hH:=R1.heap.So (m:=mm) (w':=w) (o:=x) (Nat.le_refl _) (fun b hb e=>by rw[hmb] at e;exact R.eN d hp (e▸hb)) (fun _ _=>rfl) hO
have hne:∀ t,dZ (aW (s.put d .dH).fr t)=true→t≠d∧dZ (aW s.fr t)=true:=fun t ht=>by
 simp only[St.put,bw] at ht
 split at ht
 ·simp [dZ] at ht
 ·rename_i h
  exact⟨fun e=>h e.symm,ht⟩
have R2:=R1.Cb (μ':=μ++[[mm]]) (h':=s.h++[x]) (w':=w) (d:=d) (sl:=.val (Hc x m s.h.length)) (b:=0) (v':=v') hd (eU.push _ _) hH R1.fr
 (fun b hb=>by
  rcases lO hver R.heap.len hb with h|h
  ·exact R.own b h
  ·rw[h,hmb];exact .inr hbn.1)
 (fun b hb=>by
  rcases iH hver R.heap.len hb with h|h
  ·exact R.eF b h
  ·rw[h,hmb];exact .inr hbn.1)
 (Nat.le_refl _) (fun _ _=>rfl)
 (fun t ht hb=>by
  obtain⟨h1,h2⟩:=hne t ht
  simp only[if_neg (Ne.symm h1)] at hb
  rcases iH hver R.heap.len hb with h|h
  ·exact R.eN t h2 h
  ·rw[hmb] at h
   exact R.nz t d h2 hp h1 h)
 hV (fun h=>by simp [dZ] at h)
rw[ha] at R2
exact⟨_,_,R2⟩}
theorem cb.rS (R:cb N B n μ β s a w) {d:Option Nat} {cells:List Value} {cur:Array Value} {e:TypeId} {v v':Value} {b:Nat} (hd:∀ x,d=some x→x<n) (ho:w'.os=w.os) (ht:w'.tape=w.tape) (hu:w'.output=w.output) (hsz:w.heap.size≤w'.heap.size) (hw:∀ k,k<w.heap.size→w'.heap[k]? = w.heap[k]?) (hb:w.heap.size≤b) (hbl:b<w'.heap.size) (hr:w'.heap[b]? = some (.cells cur e (0,0))) (hc:∀ (j:Nat) (v:Value),cells[j]? = some v→∃ v',cur[j]? = some v'∧VR N.P μ v v') (h1:cells.all one=true) (hv:VR N.P (μ++[[⟨b,0,cur.size,e⟩]]) v v') : ∃ μ' β',eU μ μ'∧cb N B n μ' β' ({ s with h:=s.h++[av.aA cells 0 true e] }.a9 d (.val v)) (a.put d v') w':=by{
have hlt:=fun (t:Nat) (ht:dZ (aW s.fr t)=true)=>(R.jo t ht).2
obtain⟨β',h⟩:=R.AC (d:=d) hd (eU.push _ _) (R.heap.new hsz hb hbl hw hr hc h1) (R.fr.grow ho ht hu hsz hw)
 (fun x hx=>by
  rcases HG R.heap.len hx with h|h
  ·exact R.own x h
  ·have:=R.fr.size
   simp only at h
   exact .inr (by omega))
 (fun x hx=>by
  rcases Cu R.heap.len hx with h|h
  ·exact R.eF x h
  ·have:=R.fr.size
   simp only at h
   exact .inr (by omega))
 hsz (fun t ht=>hw _ (hlt t ht))
 (fun t ht hx=>by
  rcases Cu R.heap.len hx with h|h
  ·exact R.eN t ht h
  ·have:=hlt t ht
   simp only at h
   omega) hv
exact⟨_,β',eU.push _ _,h⟩}
theorem s8 {P:Program} (t:TypeId) (v:Value) (w:World):(newVar t v).run P w = .ok ⟨w.heap.size,0,none⟩ (w.alloc (.cells v.cells t)):=by simp [newVar,newRow]
theorem x4 (R:cb N B n μ β s a w) {o:Oper} {t:TypeId} {cs:List Value} (h:iA N s o.op=some (t,cs)) : ∃ cur,(execOp a.eval o).run N.P w = .ok (.value (.pointer (some ⟨w.heap.size,0,none⟩))) (w.alloc (.cells cur t))∧dE N.P μ cs cur.toList∧cs.all one=true:=by{
unfold iA at h
split at h
·rename_i t' ho
 split at h
 ·rename_i ti ht
  obtain⟨i,d,hi,hd,rfl⟩:=bY ht
  split at h
  ·rename_i z hz
   simp only at hz
   split at h
   ·rename_i hp
    cases hv:dO i.size z with
    | none=>simp [hv] at h
    | some l=>
      simp only[hv,Option.map_some,Option.some.injEq,Prod.mk.injEq] at h
      obtain⟨rfl,rfl⟩:=h
      obtain⟨rfl,h2,h3,h4⟩:=gB hv
      refine⟨z.cells,?_,(VR.g6 hp).cells,h4⟩
      simp [execOp,ho,Instr.alloc,zeroValue,typeInfo,hi,hz,s8]
   ·cases h
  ·cases h
 ·cases h
·rename_i t' x ho
 split at h
 ·rename_i ti v ht hx
  obtain⟨i,d,hi,hd,rfl⟩:=bY ht
  cases hv:dO i.size v with
  | none=>simp [hv] at h
  | some l=>
    simp only[hv,Option.map_some,Option.some.injEq,Prod.mk.injEq] at h
    obtain⟨rfl,rfl⟩:=h
    obtain⟨rfl,h2,h3,h4⟩:=gB hv
    refine⟨(a.eval x).cells,?_,(aI R hx).cells,h4⟩
    simp [execOp,ho,Instr.box,s8]
 ·cases h
·cases h}
theorem uv {z:Array Value}:∀ (k:Nat),((Array.range (k*z.size)).map fun i=>z[i % z.size]!).toList=(List.replicate k z.toList).flatten:=by{
intro k
have e:∀ k:Nat,(List.range (k*z.size)).map (fun i=>z[i % z.size]!)=(List.replicate k z.toList).flatten:=by
 intro k
 induction k with
 | zero=>simp
 | succ k ih=>
   rw[Nat.succ_mul,List.range_add,List.map_append,ih,List.replicate_succ',List.flatten_append,List.map_map]
   congr 1
   simp only[List.flatten_cons,List.flatten_nil,List.append_nil]
   apply List.ext_getElem
   ·simp
   ·intro i h1 h2
    simp only[List.length_map,List.length_range] at h1
    simp only[List.getElem_map,List.getElem_range,Function.comp_apply,Nat.mul_add_mod_self_right,Nat.mod_eq_of_lt h1,Array.getElem_toList]
    simp [h1]
rw[Array.toList_map,Array.toList_range,e]}
theorem o5 {z:Array Value} (k:Nat):(madeCells z (k*z.size)).toList=(List.replicate k z.toList).flatten:=by
 unfold madeCells
 exact uv k
theorem dE.flat {P:Program} {l l':List Value} (h:dE P μ l l'):∀ k:Nat,dE P μ (List.replicate k l).flatten (List.replicate k l').flatten
 | 0=>trivial
 | k+1=>by
   rw[List.replicate_succ,List.replicate_succ,List.flatten_cons,List.flatten_cons]
   exact h.append (dE.flat h k)
theorem sY {l:List Value} (h:l.all one=true):∀ k:Nat,((List.replicate k l).flatten).all one=true
 | 0=>rfl
 | k+1=>by rw[List.replicate_succ,List.flatten_cons,List.all_append,h,sY h k];rfl
theorem wS {cells vs r:List Value} {off:Nat} (h:ll cells off vs=some r) (h1:cells.all one=true) (h2:vs.all one=true):r.all one=true∧r.length=cells.length:=by{
unfold Am.ll at h
split at h
·rename_i hle
 cases h
 have a1:(cells.take off).all one=true:=by
  rw[List.all_eq_true] at h1 ⊢
  exact fun x hx=>h1 x (List.mem_of_mem_take hx)
 have a2:(cells.drop (off+vs.length)).all one=true:=by
  rw[List.all_eq_true] at h1 ⊢
  exact fun x hx=>h1 x (List.mem_of_mem_drop hx)
 refine⟨by rw[List.all_append,List.all_append,a1,a2,h2];rfl,?_⟩
 simp only[List.length_append,List.length_take,List.length_drop]
 omega
·cases h}
theorem nH {place:Nat→Option (Nat×Nat)}:∀ {ps:List (Nat×Value)} {cells l:List Value},dX place cells ps=some l→cells.all one=true→l.all one=true∧l.length=cells.length
 | [],cells,l,h,h1=>by
   simp only[dX] at h
   cases h
   exact⟨h1,rfl⟩
 | (i,v) :: ps,cells,l,h,h1=>by
   simp only[dX] at h
   split at h
   ·cases h
   ·split at h
    ·cases h
    ·rename_i vs hvs
     split at h
     ·cases h
     ·rename_i cs hcs
      obtain⟨_,_,_,h4⟩:=gB hvs
      obtain⟨k1,k2⟩:=wS hcs h1 h4
      obtain⟨q1,q2⟩:=nH h k1
      exact⟨q1,q2.trans k2⟩
theorem zG (R:cb N B n μ β s a w) {o:Oper} {t:TypeId} {cs:List Value} {m:Nat} (h:jw N s o.op=some (t,cs,m)) : ∃ cur,(execOp a.eval o).run N.P w = .ok (.value (.slice (some ⟨w.heap.size,0,none⟩) m m)) (w.alloc (.cells cur t))∧dE N.P μ cs cur.toList∧cs.all one=true∧cs.length=m*N.P.cellsOf t∧m≤16777216:=by{
unfold jw at h
split at h
·rename_i t' len parts ho
 split at h
 ·rename_i e hu
  split at h
  ·rename_i ti ps ht hps
   obtain⟨i,d,hi,hd,rfl⟩:=bY ht
   split at h
   ·rename_i z hz
    simp only at hz
    split at h
    ·rename_i hc
     simp only[Bool.and_eq_true,decide_eq_true_eq] at hc
     obtain⟨⟨⟨⟨c1,c2⟩,c3⟩,c4⟩,c5⟩:=hc
     cases hq:dX (sC i.size) (List.replicate len z.cells.toList).flatten ps with
     | none=>simp [hq] at h
     | some l=>
       simp only[hq,Option.map_some,Option.some.injEq,Prod.mk.injEq] at h
       obtain⟨rfl,rfl,rfl⟩:=h
       have hz0:0<z.cells.size:=by omega
       have hrm:=uv (z:=z.cells) len
       have hzz:dE N.P μ z.cells.toList z.cells.toList:=(VR.g6 c1).cells
       obtain⟨l',k1,k2⟩:=kT (cells':=(Array.range (len*z.cells.size)).map fun i=>z.cells[i % z.cells.size]!) (jH R hps) (by rw[hrm];exact hzz.flat len) hq
       obtain⟨q1,q2⟩:=nH hq (sY c2 len)
       have hlen:(List.replicate len z.cells.toList).flatten.length=len*z.cells.size:=by simp
       refine⟨l',?_,k2,q1,?_,?_⟩
       ·have hl:(parts.map fun (i,x)=>(i,a.eval x)).toList=parts.toList.map fun p=>(p.1,a.eval p.2):=by simp
        have hz1:¬ (len*i.size > 2 ^ 24):=by omega
        have k1':Instr.fill (fun x=>some (x*i.size,i.size)) (Array.map (fun x=>z.cells[x % z.cells.size]!) (Array.range (len*i.size))) (parts.map fun (i,x)=>(i,a.eval x)).toList=some l':=by
         rw[hl,← c3]
         rw[← c3] at k1
         exact k1
        by_cases hn:len*i.size=0
        ·have hl0:len=0:=by
          rcases Nat.mul_eq_zero.1 hn with h|h
          ·exact h
          ·omega
         subst hl0
         simp only[Nat.zero_mul] at k1'
         simp only[execOp,ho,Instr.buildSlice,Sem.run_bind,run_underlying hu,Result.andThen_ok,bW hi,Nat.zero_mul,if_true,Sem.run_pure,zeroValue,typeInfo]
         rw[if_neg (by omega)]
         simp only[Sem.run_bind,Sem.run_pure,Result.andThen_ok]
         have e0:(Array.range 0).map (fun i=>(#[]:Array Value)[i % (#[]:Array Value).size]!)=(Array.range 0).map (fun x=>z.cells[x % z.cells.size]!):=by simp
         rw[e0,k1']
         simp [newRow]
        ·simp only[execOp,ho,Instr.buildSlice,Sem.run_bind,run_underlying hu,Result.andThen_ok,bW hi,Sem.run_pure,zeroValue,typeInfo]
         rw[if_neg hz1,if_neg hn]
         simp only[Sem.run_bind,Sem.run_pure,Result.andThen_ok,run_program,hi,hz]
         rw[k1']
         simp [newRow]
       ·rw[q2,hlen,c3]
        simp [Program.cellsOf,hi]
       ·have:len*1≤len*i.size:=Nat.mul_le_mul_left _ c4
        omega
    ·cases h
   ·cases h
  ·cases h
 ·cases h
·cases h}
theorem BF (R:cb N B n μ β s a w) {o:Oper} {t:TypeId} {cs:List Value} {m:Nat} (h:zL N s o.op=some (t,cs,m)) : ∃ cur,(execOp a.eval o).run N.P w = .ok (.value (.slice (some ⟨w.heap.size,0,none⟩) m m)) (w.alloc (.cells cur t))∧dE N.P μ cs cur.toList∧cs.all one=true∧cs.length=m*N.P.cellsOf t∧m≤140737488355328:=by{
unfold zL at h
split at h
·rename_i t' l c ho
 split at h
 ·rename_i e q q' hu hl hc
  split at h
  ·rename_i ti ht
   obtain⟨i,d,hi,hd,rfl⟩:=bY ht
   split at h
   ·rename_i z hz
    simp only at hz
    split at h
    ·rename_i hcs
     simp only[Bool.and_eq_true,decide_eq_true_eq] at hcs
     obtain⟨⟨⟨⟨⟨⟨⟨c1,c2⟩,c3⟩,c4⟩,c5⟩,c6⟩,c7⟩,c8⟩:=hcs
     cases h
     subst c5
     have hz0:0<z.cells.size:=by omega
     have hr:=run_make (P:=N.P) w t' t i z hu hi hz .i64 .i64 q q c6 (Int.le_refl _) (by omega) (by omega)
     refine⟨madeCells z.cells (q.toNat*i.size),?_,?_,sY c2 _,?_,by omega⟩
     ·simp only[execOp,ho,(aI R hl).int,(aI R hc).int,Sem.run_bind,hr,Result.andThen_ok,Sem.run_pure]
     ·rw[← c3,o5]
      exact (VR.g6 (P:=N.P) (μ:=μ) c1).cells.flat _
     ·simp [Program.cellsOf,hi,c3]
    ·cases h
   ·cases h
  ·cases h
 ·cases h
·cases h}
end
section
variable {N:Env} {B:Bs} {n:Nat} {μ μ':Mu} {β:Nat→Nat} {s:St} {a:Act} {w w':World}
theorem aN (R:cb N B n μ β s a w) {all:Array Oper} {o:Oper} {b:Bool} (h:aF all o s=some b):Region.wanted o (yielded all a.tmps)=b:=by{
unfold aF at h
unfold Region.wanted
split at h
·rename_i hg
 cases h
 rw[hg]
·rename_i j want hg
 rw[hg]
 simp only
 split at h
 ·rename_i hj
  cases h
  simp [yielded,hj]
 ·rename_i q hj
  split at h
  ·rename_i hd
   cases h
   simp [yielded,hj,hd]
  ·rename_i d hd
   split at h
   ·rename_i t ht
    cases h
    have hlt:=di R (t:=d) (by rw[ht];simp)
    have hs:=R.slot d hlt
    rw[ht] at hs
    have hv:a.tmps.getD d undef = .bool t:=VR.bool hs
    have hd':a.tmps[d]? = some (.bool t):=by
     rw[Array.getD_eq_getD_getElem?] at hv
     have:d<a.tmps.size:=by rw[R.size];exact hlt
     rw[Array.getElem?_eq_getElem this] at hv ⊢
     simpa using hv
    simp only[yielded,hj,Option.bind_some,hd,hd']
    cases t<;>cases want<;>rfl
   ·rename_i cs ht
    cases h
    have hlt:=di R (t:=d) (by rw[ht];simp)
    have hs:=R.slot d hlt
    rw[ht] at hs
    obtain⟨cs',hv,_⟩:=VR.oc hs
    have hd':a.tmps[d]? = some (.tuple cs'):=by
     rw[Array.getD_eq_getD_getElem?] at hv
     have:d<a.tmps.size:=by rw[R.size];exact hlt
     rw[Array.getElem?_eq_getElem this] at hv ⊢
     simpa using hv
    simp [yielded,hj,hd,hd']
   ·cases h}
theorem jE (R:cb N B n μ β s a w) {all:Array Oper} {o:Oper} {ks:List Key} (h:pS all o s=some ks):Region.wanted o (yielded all a.tmps)=fc ks:=by{
unfold pS at h
unfold Region.wanted
split at h
·cases h
·rename_i j want hg
 rw[hg]
 simp only
 split at h
 ·cases h
 ·rename_i q hj
  split at h
  ·cases h
  ·rename_i d hd
   have hread:∀ {v:Value},d<n→a.tmps.getD d undef=v→a.tmps[d]? = some v:=by
    intro v hlt hv
    rw[Array.getD_eq_getD_getElem?] at hv
    have:d<a.tmps.size:=by rw[R.size];exact hlt
    rw[Array.getElem?_eq_getElem this] at hv ⊢
    simpa using hv
   split at h
   ·rename_i c ht
    cases h
    have hlt:=di R (t:=d) (by rw[ht];simp)
    have hs:=R.slot d hlt
    rw[ht] at hs
    have hd':=hread hlt (VR.bool hs)
    simp only[yielded,hj,Option.bind_some,hd,hd',fc,List.all_cons,List.all_nil,Bool.and_true]
    cases c<;>cases want<;>rfl
   ·rename_i k0 c ht
    cases h
    have hlt:=di R (t:=d) (by rw[ht];simp)
    have hs:=R.slot d hlt
    rw[ht] at hs
    simp only[j4] at hs
    simp only[fc,List.all_append,List.all_cons,List.all_nil,Bool.and_true]
    by_cases hk:fc k0=true
    ·rw[if_pos hk] at hs
     have hd':=hread hlt (VR.bool hs)
     simp only[fc] at hk
     simp only[yielded,hj,Option.bind_some,hd,hd',hk,Bool.true_and]
     cases c<;>cases want<;>rfl
    ·rw[if_neg hk] at hs
     have hd':=hread hlt hs
     simp only[fc] at hk
     simp only[Bool.not_eq_true] at hk
     simp [yielded,hj,hd,hd',undef,hk]
   ·cases h}
theorem lV {P:Program} {all:Array Oper} {o:Oper} {rest:List Oper} {Q:Exit→Act→World→Prop} (hw:Region.wanted o (yielded all a.tmps)=true) (h:o.wp P a w (wpList P all Q rest) Q) : wpList P all Q (o :: rest) a w:=by{
unfold wpList
rw[if_pos hw]
exact .inl h}
theorem bz {P:Program} {all:Array Oper} {o:Oper} {rest:List Oper} {Q:Exit→Act→World→Prop} {v:Value} (hw:Region.wanted o (yielded all a.tmps)=true) (hr:(execOp a.eval o).run P w = .ok (.value v) w')
 (h:wpList P all Q rest (a.put o.dst v) w'):wpList P all Q (o :: rest) a w:=
 lV hw (by unfold Oper.wp;rw[hr];exact h)
theorem mi (R:cb N B n μ β s a w) {o:Oper} {sl off:Nat} (h:xx N s o.op=some (sl,off)) : (execOp a.eval o).run N.P w = .ok (.value (.pointer (some ⟨β sl,off,none⟩))) w∧∃ cs,aW s.fr sl = .box cs:=by{
unfold xx at h
split at h
·rename_i t x f ho
 split at h
 ·rename_i o' ft sl' off' hf hp
  cases h
  obtain⟨he,hb⟩:=je R hp
  refine⟨?_,hb⟩
  simp only[execOp,ho,he,Sem.run_bind,nx hf,Result.andThen_ok,Sem.run_pure]
 ·cases h
·rename_i t x i ho
 split at h
 ·rename_i m e sl' off' k q hu hp hi
  split at h
  ·rename_i ti ht
   split at h
   ·rename_i hr
    cases h
    obtain⟨he,hb⟩:=je R hp
    refine⟨?_,hb⟩
    simp only[execOp,ho,he,(aI R hi).int,Sem.run_bind,kX hu ht _ _ k q hr.1 hr.2,Result.andThen_ok,Sem.run_pure]
   ·cases h
  ·cases h
 ·cases h
·rename_i x ho
 obtain⟨he,hb⟩:=je R h
 exact⟨by simp [execOp,ho,he],hb⟩
·rename_i x ho
 obtain⟨he,hb⟩:=je R h
 exact⟨by simp only[execOp,ho,he];rfl,hb⟩
·cases h}
theorem cb.sc (R:cb N B n μ β s a w) {d sl off:Nat} {ks:List Key} {v':Value} (hd:d<n) (hb:∃ cs,aW s.fr sl = .box cs) (hne:sl≠d) (hv:if fc ks=true then v' = .pointer (some ⟨β sl,off,none⟩) else v'=undef) : ∃ β',cb N B n μ β' { s with fr:=fP s.fr d .dH,eH:=(d,(ks,(sl,off))) :: eX s.eH d } (a.put (some d) v') w:=by{
have R':=R.Cb (h':=s.h) (sl:=.dH) (b:=0) (v':=v') hd (eU.refl _) R.heap R.fr R.own R.eF (Nat.le_refl _) (fun _ _=>rfl) R.eN trivial (fun h=>by simp [dZ] at h)
refine⟨_,{ R' with eH:=?_ }⟩
intro t g sl' off' hm
rcases List.mem_cons.1 hm with hm|hm
·cases hm
 refine⟨hd,?_,?_⟩
 ·simp only[rU a _ _ _ (show _<a.tmps.size by rw[R.size];exact hd),if_true,if_neg (fun e=>hne (Eq.symm e))]
  exact hv
 ·obtain⟨cs,hcs⟩:=hb
  exact⟨cs,by simp only[bw];rw[if_neg (fun e=>hne e.symm)];exact hcs⟩
·exact R'.eH t g sl' off' hm}
theorem nD {P:Program} {t:TypeId} {ti:TI} {v:Value} {b off:Nat} {cur:Array Value} {e:TypeId} (ht:aq P t=some ti) (hs:v.cells.size=ti.size) (h1:v.cells.toList.all one=true) (hr:w.heap[b]? = some (.cells cur e (0,0))) (hl:off+v.cells.size≤cur.size) : (Instr.storeAt t (.pointer (some ⟨b,off,none⟩)) v).run P w = .ok () (w.setRow b (cur.toList.take off++v.cells.toList++cur.toList.drop (off+v.cells.toList.length)).toArray):=by{
obtain⟨i,d,hi,hd,rfl⟩:=bY ht
have hst:=run_storeCells_at P b off e v.cells.toList 0 cur w hr (by simpa using hl) fun u hu=>by
 rw[← B6]
 exact List.all_eq_true.1 h1 u hu
simp only[Nat.add_zero] at hst
simp only at hs
simp only[Instr.storeAt,Instr.sureAddr,storeVar,Sem.run_bind,Sem.run_pure,Result.andThen_ok,bW hi,hs,ne_eq,not_true,if_false,hst]}
theorem pT.setRow {O:Nat→Prop} {w0:World} (h:pT O w0 w) {b:Nat} (hb:O b∨w0.heap.size≤b) (cs:Array Value):pT O w0 (w.setRow b cs):=
 ⟨h.os,h.tape,h.output,by simpa using h.size,fun k hk hn=>(setRow_other w b k cs (fun e=>by rcases hb with hb|hb;exact hn (e▸hb);omega)).trans (h.block k hk hn)⟩
theorem cb.Nx (R:cb N B n μ β s a w) {sl:Nat} {cs cs' vs vs':List Value} {off:Nat} {cur:Array Value} {e:TypeId} (hb:aW s.fr sl = .box cs) (hr:w.heap[β sl]? = some (.cells cur e (0,0))) (hc:dE N.P μ cs cur.toList) (h1:cs.all one=true) (hv:dE N.P μ vs vs') (hv1:vs.all one=true) (hw:ll cs off vs=some cs') : cb N B n μ β { s with fr:=fP s.fr sl (.box cs') } a (w.setRow (β sl) (cur.toList.take off++vs'++cur.toList.drop (off+vs'.length)).toArray):=by{
have hp:dZ (aW s.fr sl)=true:=by rw[hb];rfl
have hnb:=R.eN sl hp
obtain⟨k1,k2⟩:=hc.ll hv hw
obtain⟨q1,q2⟩:=wS hw h1 hv1
have hpr:∀ t,dZ (aW (fP s.fr sl (.box cs')) t)=dZ (aW s.fr t):=fun t=>by
 rw[bw]
 by_cases h:sl=t
 ·subst h
  rw[if_pos rfl,hp]
  rfl
 ·rw[if_neg h]
refine⟨R.defers,R.size,?_,?_,?_,?_,R.fr.setRow (.inr (R.jo sl hp).1) _,R.ext,R.own,R.eF,?_,?_,?_⟩
·intro t ht
 simp only[bw]
 by_cases h:sl=t
 ·subst h
  rw[if_pos rfl]
  have hs:=R.slot sl ht
  rw[hb] at hs
  exact⟨hs.1,Fp (setRow_heap w _ cur _ e _ hr) (by simpa using k1) q1⟩
 ·rw[if_neg h]
  exact (R.slot t ht).mono (eU.refl _) fun hp'=>setRow_other w _ _ _ fun e'=>R.nz t sl hp' hp (fun e''=>h e''.symm) e'
·intro t ht
 simp only[bw]
 have:=di R (t:=sl) (by rw[hb];simp)
 rw[if_neg (by omega)]
 exact R.hi t ht
·intro t g sl' off' hm
 obtain⟨g1,g2,c,g3⟩:=R.eH t g sl' off' hm
 refine⟨g1,g2,?_⟩
 simp only[bw]
 by_cases h:sl=sl'
 ·exact⟨cs',by rw[if_pos h]⟩
 ·exact⟨c,by rw[if_neg h];exact g3⟩
·exact R.heap.world (by simp) fun b hb'=>setRow_other w _ _ _ fun e'=>hnb (e'▸hb')
·intro t ht
 rw[hpr] at ht
 simpa using R.jo t ht
·intro t t' ht ht' hne
 rw[hpr] at ht ht'
 exact R.nz t t' ht ht' hne
·intro t ht
 rw[hpr] at ht
 exact R.eN t ht}
theorem cb.Ch (R:cb N B n μ β s a w) {x:Nat} {sl':gu} (hp:dZ (aW s.fr x)=true) (hp':dZ sl'=true) (hnb:∀ cs,aW s.fr x≠.box cs) (ho:w'.os=w.os) (ht:w'.tape=w.tape) (hu:w'.output=w.output) (hsz:w'.heap.size=w.heap.size) (hw:∀ k,k≠β x→w'.heap[k]? = w.heap[k]?) (hS:j4 N.P μ (β x) w' sl' (a.tmps.getD x undef)):cb N B n μ β { s with fr:=fP s.fr x sl' } a w':=by{
have hsep:=R.eN x hp
have hpr:∀ t,dZ (aW (fP s.fr x sl') t)=dZ (aW s.fr t):=fun t=>by
 rw[bw]
 by_cases h:x=t
 ·subst h
  rw[if_pos rfl,hp,hp']
 ·rw[if_neg h]
refine⟨R.defers,R.size,?_,?_,?_,?_,⟨ho.trans R.fr.os,ht.trans R.fr.tape,hu.trans R.fr.output,by rw[hsz];exact R.fr.size,fun k hk hn=>(hw k (fun e=>by have:=(R.jo x hp).1;omega)).trans (R.fr.block k hk hn)⟩,R.ext,R.own,R.eF,?_,?_,?_⟩
·intro t ht
 simp only[bw]
 by_cases h:x=t
 ·subst h
  rw[if_pos rfl]
  exact hS
 ·rw[if_neg h]
  exact (R.slot t ht).mono (eU.refl _) fun hp'=>hw _ fun e'=>R.nz t x hp' hp (fun e''=>h e''.symm) e'
·intro t ht
 simp only[bw]
 have hx:x<n:=by
  rcases Nat.lt_or_ge x n with h|h
  ·exact h
  ·rw[R.hi x h] at hp
   simp [dZ] at hp
 rw[if_neg (by omega)]
 exact R.hi t ht
·intro t g sl' off' hm
 obtain⟨g1,g2,c,g3⟩:=R.eH t g sl' off' hm
 refine⟨g1,g2,c,?_⟩
 simp only[bw]
 rw[if_neg (by rintro rfl;exact hnb _ g3)]
 exact g3
·exact R.heap.world (by rw[hsz];exact Nat.le_refl _) fun b hb'=>hw _ fun e'=>hsep (e'▸hb')
·intro t ht
 rw[hpr] at ht
 simpa [hsz] using R.jo t ht
·intro t t' ht ht' hne
 rw[hpr] at ht ht'
 exact R.nz t t' ht ht' hne
·intro t ht
 rw[hpr] at ht
 exact R.eN t ht}
theorem Nu {w:World} {b n c:Nat} {cur:Array Value} {et:TypeId} (hc:c≠0) (hr:w.heap[b]? = some (.cells cur et (0,0))):(w.freeze ⟨b,n,none⟩ c).heap[b]? = some (.cells cur et (n,n+c)):=by{
unfold World.freeze
rw[if_neg hc]
simp only
rw[Array.getElem?_modify,if_pos rfl,hr]
simp}
theorem pI {w:World} {b n k c:Nat} (h:k≠b):(w.freeze ⟨b,n,none⟩ c).heap[k]? = w.heap[k]?:=by{
unfold World.freeze
split
·rfl
·simp only
 rw[Array.getElem?_modify,if_neg (fun e=>h e.symm)]}
theorem nU {w:World} {b n c:Nat}:(w.freeze ⟨b,n,none⟩ c).heap.size=w.heap.size:=by{
unfold World.freeze
split
·rfl
·simp}
theorem zi {w:World} {b n c:Nat}:(w.freeze ⟨b,n,none⟩ c).os=w.os∧(w.freeze ⟨b,n,none⟩ c).tape=w.tape∧(w.freeze ⟨b,n,none⟩ c).output=w.output:=by
 unfold World.freeze
 split<;>exact⟨rfl,rfl,rfl⟩
theorem cb.VD (R:cb N B n μ β s a w) {id ar k c:Nat} (hc0:c≠0) {cells:List Value} {et:TypeId} {m:M} {cur:Array Value} {d:Option Nat} {v v':Value} (hd:∀ x,d=some x→x<n) (ho:s.h[id]? = some (.aA cells ar true et)) (hm:fQ μ id ar=some m) (hr:w.heap[m.block]? = some (.cells cur et (0,0))) (hv:VR N.P μ v v') : ∃ β',cb N B n μ β' ({ s with h:=s.h.set id (av.aA cells ar false et) }.a9 d (.val v)) (a.put d v') (w.freeze ⟨m.block,k,none⟩ c):=by{
have O:=R.heap.get ho hm
have hown:fa μ s.h m.block:=fa.aA ho hm
have hx:=R.own _ hown
have hO:lk N.P μ (w.freeze ⟨m.block,k,none⟩ c) id cells ar false et m:=by
 refine⟨O.qN,O.ez,fun j v hj=>?_,O.one,by rw[nU];exact O.eF,fun h=>by cases h⟩
 obtain⟨u,k1,k2⟩:=O.cell j v hj
 refine⟨u,?_,k2⟩
 simp only[World.cell?,hr] at k1
 simp only[World.cell?,Nu hc0 hr]
 exact k1
have hfr:pT B.own B.w0 (w.freeze ⟨m.block,k,none⟩ c):=by
 obtain⟨f1,f2,f3⟩:=zi (w:=w) (b:=m.block) (n:=k) (c:=c)
 refine⟨f1.trans R.fr.os,f2.trans R.fr.tape,f3.trans R.fr.output,by rw[nU];exact R.fr.size,fun q hq hn=>?_⟩
 rw[pI (by
  rintro rfl
  rcases hx with h|h
  ·exact hn h
  ·omega)]
 exact R.fr.block q hq hn
refine R.AC hd (eU.refl _) (R.heap.Hi ho rfl hm (eU.refl _) rfl (fun _ _=>rfl) (o':=.aA cells ar false et) (m':=m) hO (.inl rfl) (by rw[nU];exact Nat.le_refl _) fun q _ hq=>pI hq) hfr ?_ ?_ (by rw[nU];exact Nat.le_refl _) ?_ ?_ hv
·intro b hb
 rcases mw (μ:=μ) (o':=.aA cells ar false et) (fun _ _=>rfl) hm hb with h|h
 ·exact R.own b h
 ·rw[h];exact hx
·intro b hb
 rcases iu (μ:=μ) (o':=.aA cells ar false et) (fun _ _=>rfl) hm hb with h|h
 ·exact R.eF b h
 ·rw[h];exact R.eF _ hown.eF
·intro t ht
 exact pI fun e=>R.eN t ht (e▸hown.eF)
·intro t ht hb
 rcases iu (μ:=μ) (o':=.aA cells ar false et) (fun _ _=>rfl) hm hb with h|h
 ·exact R.eN t ht h
 ·exact R.eN t ht (h▸hown.eF)}
theorem cb.JT (R:cb N B n μ β s a w) {id ar off:Nat} {cells cells' vs vs':List Value} {et:TypeId} {m:M} {cur:Array Value} (ho:s.h[id]? = some (.aA cells ar true et)) (hm:fQ μ id ar=some m) (hr:w.heap[m.block]? = some (.cells cur et (0,0))) (hv:dE N.P μ vs vs') (hv1:vs.all one=true) (hw:ll cells off vs=some cells') : cb N B n μ β { s with h:=s.h.set id (av.aA cells' ar true et) } a (w.setRow m.block (cur.toList.take off++vs'++cur.toList.drop (off+vs'.length)).toArray)∧off+vs'.length≤cur.size:=by{
have O:=R.heap.get ho hm
obtain⟨hb0,cur',hr',hroom⟩:=O.own rfl
rw[hr] at hr'
cases hr'
have hcell:∀ (j:Nat) (v:Value),cells[j]? = some v→∃ v',cur[j]? = some v'∧VR N.P μ v v':=fun j v hj=>by
 obtain⟨v',k1,k2⟩:=O.cell j v hj
 rw[hb0,Nat.zero_add] at k1
 simp only[World.cell?,hr] at k1
 exact⟨v',by simpa using k1,k2⟩
have hvl:=hv.length
have hw':=hw
unfold Am.ll at hw'
split at hw'
case isFalse=>cases hw'
rename_i hle
cases hw'
have hcl:cells.length≤cur.size:=by
 rcases Nat.eq_zero_or_pos cells.length with h0|h0
 ·omega
 ·obtain⟨v',k1,_⟩:=hcell (cells.length-1) cells[cells.length-1] (by simp [List.getElem?_eq_getElem (show cells.length-1<cells.length by omega)])
  have:=(Array.getElem?_eq_some_iff.1 k1).1
  omega
have hfit:off+vs'.length≤cur.size:=by omega
refine⟨?_,hfit⟩
have hown:fa μ s.h m.block:=fa.aA ho hm
obtain⟨q1,q2⟩:=wS hw O.one hv1
have hO:lk N.P μ (w.setRow m.block (cur.toList.take off++vs'++cur.toList.drop (off+vs'.length)).toArray) id (cells.take off++vs++cells.drop (off+vs.length)) ar true et m:=by
 refine⟨O.qN,O.ez,?_,q1,by simpa using O.eF,fun _=>⟨hb0,_,setRow_heap w _ cur _ et _ hr,?_⟩⟩
 ·intro j v hj
  rw[hb0,Nat.zero_add,cell_setRow_same w m.block j cur _ et _ hr]
  simp only[List.getElem?_toArray]
  rw[List.append_assoc] at hj ⊢
  rw[List.getElem?_append] at hj ⊢
  have l1:(cells.take off).length=off:=by simp;omega
  have l2:(cur.toList.take off).length=off:=by simp;omega
  rw[l1] at hj
  rw[l2]
  split at hj
  ·rename_i hlt
   rw[if_pos hlt]
   rw[List.getElem?_take_of_lt hlt] at hj ⊢
   obtain⟨v',k1,k2⟩:=hcell j v hj
   exact⟨v',by simpa using k1,k2⟩
  ·rename_i hge
   rw[if_neg hge]
   rw[List.getElem?_append] at hj ⊢
   rw[← hvl]
   split at hj
   ·rename_i hlt
    rw[if_pos hlt]
    exact hv.get hj
   ·rename_i hge'
    rw[if_neg hge']
    rw[List.getElem?_drop] at hj ⊢
    obtain⟨v',k1,k2⟩:=hcell _ v hj
    exact⟨v',by simpa using k1,k2⟩
 ·rw[hroom]
  simp only[List.size_toArray,List.length_append,List.length_take,List.length_drop,Array.length_toList]
  omega
have hx:=R.own _ hown
refine R.Ip (eU.refl _) (R.heap.Na ho hm (eU.refl _) rfl (fun _ _=>rfl) hO (.inl rfl) (by simp) fun k _ hk=>setRow_other w _ _ _ hk) (R.fr.setRow hx _) ?_ ?_ (by simp) ?_ ?_
·intro b hb
 rcases tM (μ:=μ) (fun _ _=>rfl) hm hb with h|h
 ·exact R.own b h
 ·rw[h];exact hx
·intro b hb
 rcases lB (μ:=μ) (fun _ _=>rfl) hm hb with h|h
 ·exact R.eF b h
 ·rw[h];exact R.eF _ hown.eF
·intro t ht
 exact setRow_other w _ _ _ fun e=>R.eN t ht (e▸hown.eF)
·intro t ht hb
 rcases lB (μ:=μ) (fun _ _=>rfl) hm hb with h|h
 ·exact R.eN t ht h
 ·exact R.eN t ht (h▸hown.eF)}
end
section
variable {N:Env} {B:Bs} {n:Nat} {μ μ':Mu} {β:Nat→Nat} {s:St} {a:Act} {w w':World}
theorem cb.Oi (R:cb N B n μ β s a w) {d:Option Nat} {t:TypeId} (hd:∀ x,d=some x→x<n) : ∃ μ' β',cb N B n μ' β' ({ s with h:=s.h++[av.map []] }.a9 d (.val (.map (some s.h.length)))) (a.put d (.map (some w.heap.size))) (w.alloc (.map #[] 0)):=by{
have hlt:=fun (t:Nat) (ht:dZ (aW s.fr t)=true)=>(R.jo t ht).2
let m:M:=⟨w.heap.size,0,0,t⟩
have hnew:(w.alloc (.map #[] 0)).heap[w.heap.size]? = some (.map #[] 0):=heap_alloc_new w _
have hO:OR N.P (μ++[[m]]) (w.alloc (.map #[] 0)) s.h.length (av.map []) m:=
 ⟨by rw[← R.heap.len];simp,by simp [m],#[],0,hnew,trivial,yS.nil⟩
have hat:fQ (μ++[[m]]) s.h.length 0=some m:=by rw[← R.heap.len];exact cM _ _
obtain⟨β',h⟩:=R.AC (d:=d) (v:=.map (some s.h.length)) (v':=.map (some w.heap.size)) hd (eU.push _ _) (R.heap.Np (m:=m) (by simp) (Nat.le_refl _) (fun k hk=>cU w _ hk) hO) (R.fr.alloc _)
 (fun x hx=>by
  rcases lO rfl R.heap.len hx with h|h
  ·exact R.own x h
  ·have:=R.fr.size
   simp only[m] at h
   exact .inr (by omega))
 (fun x hx=>by
  rcases iH rfl R.heap.len hx with h|h
  ·exact R.eF x h
  ·have:=R.fr.size
   simp only[m] at h
   exact .inr (by omega))
 (by simp) (fun t ht=>cU w _ (hlt t ht))
 (fun t ht hx=>by
  rcases iH rfl R.heap.len hx with h|h
  ·exact R.eN t ht h
  ·have:=hlt t ht
   simp only[m] at h
   omega) (.map hat)
exact⟨_,β',h⟩}
theorem iz.put {P:Program} {kd:Value→Bool} {kt:TypeId} (K:rN P kt kd) {k v v':Value} (hk:kd k=true) (hv:VR P μ v v'):∀ {es:List (Value×Value)} {q:List MapEntry} (i:Nat),iz P μ es q→eG kd es=true →
 (gT k q i=none∧∀ b,iz P μ (iU es k v) (q++[⟨k,v',b⟩])) ∨
 ∃ j u e,gT k q i=some (i+j,u)∧q[j]? = some e∧e.key=k∧iz P μ (iU es k v) (q.modify j fun e=>{ e with key:=k,val:=v' })
 | [],[],_,_,_=>.inl ⟨rfl,fun b=>⟨rfl,hv,trivial⟩⟩
 | (x,u) :: r,e :: q,i,⟨h1,h2,h3⟩,hm=>by
   simp only[eG,List.all_cons,Bool.and_eq_true] at hm
   simp only[iU,gT,h1]
   by_cases hx:pX k x=true
   ·have hkx:k=x:=K.eq _ _ hk hm.1 hx
    refine .inr ⟨0,e.val,e,by rw[if_pos hx];rfl,rfl,by rw[h1,hkx],?_⟩
    rw[if_pos hx]
    simp only[List.modify_zero_cons]
    exact⟨hkx,hv,h3⟩
   ·rw[if_neg hx,if_neg hx]
    rcases iz.put K hk hv (i+1) h3 hm.2 with ⟨k1,k2⟩ | ⟨j,u',e',k1,k2,k3,k4⟩
    ·exact .inl ⟨k1,fun b=>⟨h1,h2,k2 b⟩⟩
    ·refine .inr ⟨j+1,u',e',by rw[k1];congr 2;omega,by simpa using k2,k3,?_⟩
     simp only[List.modify_succ_cons]
     exact⟨h1,h2,k4⟩
 | [],_ :: _,_,h,_=>h.elim
 | (_,_) :: _,[],_,h,_=>h.elim
theorem yS.push {en:Array MapEntry} {clock:Nat} (h:yS en clock) {e:MapEntry} (he:e.born=clock):yS (en.push e) (clock+1):=by{
refine⟨by rw[Array.size_push,h.1],fun i x hx=>?_⟩
rw[Array.getElem?_push] at hx
split at hx
·cases hx
 rw[he,h.1]
 omega
·exact h.2 i x hx}
theorem yS.modify {en:Array MapEntry} {clock:Nat} (h:yS en clock) {j:Nat} {f:MapEntry→MapEntry} (hf:∀ e,(f e).born=e.born):yS (en.modify j f) clock:=by{
refine⟨by rw[Array.size_modify,h.1],fun i x hx=>?_⟩
rw[Array.getElem?_modify] at hx
split at hx
·obtain⟨y,hy,rfl⟩:=Option.map_eq_some_iff.1 hx
 rw[hf]
 exact h.2 i y hy
·exact h.2 i x hx}
theorem cb.OB (hN:mC N) (R:cb N B n μ β s a w) {t kt et:TypeId} {x i y:Operand} {id:Nat} {es:List (Value×Value)} {kd:Value→Bool} {k v:Value} (hu:N.P.underlying t=some (.map kt et)) (hkd:N.keys kt=some kd) (hx:ev s x=some (.map (some id))) (hob:s.h[id]? = some (.map es)) (hk:ev s i=some k) (hv:ev s y=some v) (hkk:kd k=true) (hmk:eG kd es=true) : ∃ w',(Instr.mapUpdate t (a.eval x) (a.eval i) (a.eval y)).run N.P w = .ok () w'∧cb N B n μ β { s with h:=s.h.set id (av.map (iU es k v)) } a w':=by{
have K:=hN.keys _ _ hkd
have hke:a.eval i=k:=(aI R hk).nA (K.pure _ hkk)
obtain⟨m,hm,hxe⟩:=pe (aI R hx)
have O:lj N.P μ w id es m:=R.heap.Ep hob hm
obtain⟨en,clock,hb,hen,hst⟩:=O.yG
have hg:(getObj m.block).run N.P w = .ok (.map en clock) w:=by simp [getObj,Sem.run,hb]
have hset:∀ o:Obj,(setObj m.block o).run N.P w = .ok () { w with heap:=w.heap.setIfInBounds m.block o }:=fun o=>by simp [setObj,Sem.run,hb]
have hf:=K.find k en.toList w hkk (hen.keys hmk)
have hown:fa μ s.h m.block:=⟨id,_,m,hob,rfl,hm,rfl⟩
have key:∀ (en':Array MapEntry) (clock':Nat),iz N.P μ (iU es k v) en'.toList→yS en' clock'→cb N B n μ β { s with h:=s.h.set id (av.map (iU es k v)) } a { w with heap:=w.heap.setIfInBounds m.block (.map en' clock') }:=by
 intro en' clock' he hst'
 have hoth:∀ b,b≠m.block→(w.heap.setIfInBounds m.block (.map en' clock'))[b]? = w.heap[b]?:=fun b hb'=>by
  rw[Array.getElem?_setIfInBounds_ne (fun e=>hb' e.symm)]
 refine R.Ip (eU.refl _) (R.heap.KV hob hm (en:=en') (clock:=clock') (by simp [O.eF]) he hst' (by simp) fun k' _ hk'=>hoth _ hk') ?_ ?_ ?_ (by simp) ?_ ?_
 ·refine⟨R.fr.os,R.fr.tape,R.fr.output,by simpa using R.fr.size,fun k' hk' hn=>?_⟩
  rw[← R.fr.block k' hk' hn]
  refine hoth _ fun e=>?_
  subst e
  rcases R.own _ hown with h|h
  ·exact hn h
  ·omega
 ·intro b hb'
  rcases mw (o':=.map (iU es k v)) (fun _ _=>rfl) hm hb' with h|h
  ·exact R.own b h
  ·rw[h];exact R.own _ hown
 ·intro b hb'
  rcases iu (o':=.map (iU es k v)) (fun _ _=>rfl) hm hb' with h|h
  ·exact R.eF b h
  ·rw[h];exact R.eF _ hown.eF
 ·intro t ht
  exact hoth _ fun e=>R.eN t ht (e▸hown.eF)
 ·intro t ht hb'
  rcases iu (o':=.map (iU es k v)) (fun _ _=>rfl) hm hb' with h|h
  ·exact R.eN t ht h
  ·exact R.eN t ht (h▸hown.eF)
rcases iz.put K hkk (aI R hv) 0 hen hmk with ⟨h1,h2⟩ | ⟨j,u,e,h1,h2,h3,h4⟩
·rw[h1] at hf
 refine⟨_,?_,key (en.push ⟨k,a.eval y,clock⟩) (clock+1) (by simpa using h2 clock) (hst.push rfl)⟩
 simp only[Instr.mapUpdate,hxe,hke,Sem.run_bind,run_underlying hu,Result.andThen_ok,hg,K.check _ _ _ hkk,hf,hset]
·rw[h1] at hf
 have hj:(en[0+j]?.map (·.key)).getD k=k:=by
  rw[Nat.zero_add,← Array.getElem?_toList,h2]
  exact h3
 refine⟨_,?_,key (en.modify (0+j) fun e=>{ e with key:=k,val:=a.eval y }) clock (by rw[Nat.zero_add,Array.toList_modify];exact h4) (hst.modify fun _=>rfl)⟩
 simp only[Instr.mapUpdate,hxe,hke,Sem.run_bind,run_underlying hu,Result.andThen_ok,hg,K.check _ _ _ hkk,hf,hj,K.stays _ _ hkk,hset]}
theorem cb.Az (R:cb N B n μ β s a w) {id:Nat} {es es':List (Value×Value)} {m:M} (hob:s.h[id]? = some (.map es)) (hm:fQ μ id 0=some m) {en':Array MapEntry} {clock':Nat} (he:iz N.P μ es' en'.toList) (hst':yS en' clock') : cb N B n μ β { s with h:=s.h.set id (av.map es') } a { w with heap:=w.heap.setIfInBounds m.block (.map en' clock') }:=by{
have O:lj N.P μ w id es m:=R.heap.Ep hob hm
have hown:fa μ s.h m.block:=⟨id,_,m,hob,rfl,hm,rfl⟩
have hoth:∀ b,b≠m.block→(w.heap.setIfInBounds m.block (.map en' clock'))[b]? = w.heap[b]?:=fun b hb'=>by
 rw[Array.getElem?_setIfInBounds_ne (fun e=>hb' e.symm)]
refine R.Ip (eU.refl _) (R.heap.KV hob hm (en:=en') (clock:=clock') (by simp [O.eF]) he hst' (by simp) fun k' _ hk'=>hoth _ hk') ?_ ?_ ?_ (by simp) ?_ ?_
·refine⟨R.fr.os,R.fr.tape,R.fr.output,by simpa using R.fr.size,fun k' hk' hn=>?_⟩
 rw[← R.fr.block k' hk' hn]
 refine hoth _ fun e=>?_
 subst e
 rcases R.own _ hown with h|h
 ·exact hn h
 ·omega
·intro b hb'
 rcases mw (o':=.map es') (fun _ _=>rfl) hm hb' with h|h
 ·exact R.own b h
 ·rw[h];exact R.own _ hown
·intro b hb'
 rcases iu (o':=.map es') (fun _ _=>rfl) hm hb' with h|h
 ·exact R.eF b h
 ·rw[h];exact R.eF _ hown.eF
·intro t ht
 exact hoth _ fun e=>R.eN t ht (e▸hown.eF)
·intro t ht hb'
 rcases iu (o':=.map es') (fun _ _=>rfl) hm hb' with h|h
 ·exact R.eN t ht h
 ·exact R.eN t ht (h▸hown.eF)}
theorem iz.look {P:Program} {kd:Value→Bool} {kt:TypeId} (K:rN P kt kd) {k:Value} (hk:kd k=true):∀ {es:List (Value×Value)} {q:List MapEntry} (i:Nat),iz P μ es q→eG kd es=true →
 (la es k=none∧gT k q i=none)∨∃ j u e,la es k=some (j,u)∧gT k q i=some (i+j,e.val)∧VR P μ u e.val∧q[j]? = some e∧e.key=k
 | [],[],_,_,_=>.inl ⟨rfl,rfl⟩
 | (x,u) :: r,e :: q,i,⟨h1,h2,h3⟩,hm=>by
   simp only[eG,List.all_cons,Bool.and_eq_true] at hm
   simp only[la,gT,h1]
   by_cases hx:pX k x=true
   ·exact .inr ⟨0,u,e,by rw[if_pos hx],by rw[if_pos hx];rfl,h2,rfl,by rw[h1,K.eq _ _ hk hm.1 hx]⟩
   ·rw[if_neg hx,if_neg hx]
    rcases iz.look K hk (i+1) h3 hm.2 with ⟨k1,k2⟩ | ⟨j,u',e',k1,k2,k3,k4,k5⟩
    ·exact .inl ⟨by rw[k1];rfl,k2⟩
    ·exact .inr ⟨j+1,u',e',by rw[k1];rfl,by rw[k2];congr 2;omega,k3,by simpa using k4,k5⟩
 | [],_ :: _,_,h,_=>h.elim
 | (_,_) :: _,[],_,h,_=>h.elim
theorem iz.push {P:Program} {k v v':Value} {b:Nat} (hv:VR P μ v v'):∀ {es:List (Value×Value)} {q:List MapEntry},iz P μ es q→iz P μ (es++[(k,v)]) (q++[⟨k,v',b⟩])
 | [],[],_=>⟨rfl,hv,trivial⟩
 | (_,_) :: _,_ :: _,⟨h1,h2,h3⟩=>⟨h1,h2,iz.push hv h3⟩
 | [],_ :: _,h=>h.elim
 | (_,_) :: _,[],h=>h.elim
theorem iz.Qz {P:Program} {k u v v':Value} (hv:VR P μ v v'):∀ {es:List (Value×Value)} {q:List MapEntry} (j:Nat),iz P μ es q→es[j]? = some (k,u)→iz P μ (es.set j (k,v)) (q.modify j fun e=>{ e with val:=v' })
 | [],[],_,_,h=>by simp at h
 | (_,_) :: _,_ :: _,0,⟨h1,_,h3⟩,h=>by
   simp only[List.getElem?_cons_zero,Option.some.injEq,Prod.mk.injEq] at h
   simp only[List.set_cons_zero,List.modify_zero_cons]
   exact⟨h1.trans h.1,hv,h3⟩
 | (_,_) :: _,_ :: _,j+1,⟨h1,h2,h3⟩,h=>by
   simp only[List.set_cons_succ,List.modify_succ_cons]
   exact⟨h1,h2,iz.Qz hv j h3 (by simpa using h)⟩
 | [],_ :: _,_,h,_=>h.elim
 | (_,_) :: _,[],_,h,_=>h.elim
theorem cb.LR (hN:mC N) (R:cb N B n μ β s a w) {t kt et:TypeId} {x i:Operand} {id j:Nat} {es es':List (Value×Value)} {kd:Value→Bool} {k z v:Value} (hu:N.P.underlying t=some (.map kt et)) (hkd:N.keys kt=some kd) (hz:zeroOf N.P et=some z) (hx:ev s x=some (.map (some id))) (hob:s.h[id]? = some (.map es)) (hk:ev s i=some k) (hkk:kd k=true) (hmk:eG kd es=true) (hment:oJ es k z=(v,j,es')) : ∃ w' v',(Instr.mapEntry t (a.eval x) (a.eval i)).run N.P w = .ok (.tuple #[v',goInt j]) w'∧VR N.P μ v v'∧cb N B n μ β { s with h:=s.h.set id (av.map es') } a w':=by{
have K:=hN.keys _ _ hkd
have hke:a.eval i=k:=(aI R hk).nA (K.pure _ hkk)
obtain⟨m,hm,hxe⟩:=pe (aI R hx)
have O:lj N.P μ w id es m:=R.heap.Ep hob hm
obtain⟨en,clock,hb,hen,hst⟩:=O.yG
have hg:(getObj m.block).run N.P w = .ok (.map en clock) w:=by simp [getObj,Sem.run,hb]
have hset:∀ o:Obj,(setObj m.block o).run N.P w = .ok () { w with heap:=w.heap.setIfInBounds m.block o }:=fun o=>by simp [setObj,Sem.run,hb]
have hf:=K.find k en.toList w hkk (hen.keys hmk)
obtain⟨hz1,hz2⟩:=pU hz w
unfold oJ at hment
rcases iz.look K hkk 0 hen hmk with ⟨h1,h2⟩ | ⟨j,u,e,h1,h2,h3,h4,h5⟩
·rw[h1] at hment
 cases hment
 rw[h2] at hf
 refine⟨_,z,?_,.g6 hz2,R.Az hob hm (en':=en.push ⟨k,z,clock⟩) (clock':=clock+1) (by simpa using iz.push (.g6 hz2) hen) (hst.push rfl)⟩
 have hl:es.length=clock:=by rw[hst.1,hen.len,Array.length_toList]
 simp only[Instr.mapEntry,hxe,hke,Sem.run_bind,run_underlying hu,Result.andThen_ok,hg,K.check _ _ _ hkk,hf,hset,hz1,Sem.run_pure,hl]
·rw[h1] at hment
 simp only[Prod.mk.injEq] at hment
 obtain⟨rfl,rfl,rfl⟩:=hment
 rw[h2] at hf
 have hje:en[0+j]? = some e:=by rw[Nat.zero_add,← Array.getElem?_toList];exact h4
 have hj:(en[0+j]?.map (·.key)).getD k=k:=by rw[hje];exact h5
 have hbn:(en[0+j]?.map fun x=>(x.born:Int)).getD 0=(j:Int):=by rw[hje];exact congrArg Int.ofNat (hst.2 _ _ (by rwa [Nat.zero_add] at hje))
 have hself:(en.modify (0+j) fun e=>{ e with key:=k }).toList=en.toList:=by
  rw[Nat.zero_add,Array.toList_modify]
  refine List.ext_getElem? fun i=>?_
  rw[List.getElem?_modify]
  split
  ·rename_i h
   subst h
   rw[h4,← h5]
   rfl
  ·simp
 refine⟨_,e.val,?_,h3,R.Az hob hm (en':=en.modify (0+j) fun e=>{ e with key:=k }) (clock':=clock) (by rw[hself];exact hen) (hst.modify fun _=>rfl)⟩
 simp only[Instr.mapEntry,hxe,hke,Sem.run_bind,run_underlying hu,Result.andThen_ok,hg,K.check _ _ _ hkk,hf,hj,hbn,K.stays _ _ hkk,hset,Sem.run_pure]}
theorem cb.Lm (R:cb N B n μ β s a w) {t:TypeId} {x y i:Operand} {id j:Nat} {es:List (Value×Value)} {k u v:Value} (hx:ev s x=some (.map (some id))) (hob:s.h[id]? = some (.map es)) (hi:ev s i=some (.int .i64 j)) (hv:ev s y=some v) (hj:es[j]? = some (k,u)) : ∃ w',(Instr.entryStore t (a.eval x) (a.eval i) (a.eval y)).run N.P w = .ok () w'∧cb N B n μ β { s with h:=s.h.set id (av.map (es.set j (k,v))) } a w':=by{
have hie:a.eval i = .int .i64 j:=(aI R hi).nA rfl
obtain⟨m,hm,hxe⟩:=pe (aI R hx)
have O:lj N.P μ w id es m:=R.heap.Ep hob hm
obtain⟨en,clock,hb,hen,hst⟩:=O.yG
have hg:(getObj m.block).run N.P w = .ok (.map en clock) w:=by simp [getObj,Sem.run,hb]
have hset:∀ o:Obj,(setObj m.block o).run N.P w = .ok () { w with heap:=w.heap.setIfInBounds m.block o }:=fun o=>by simp [setObj,Sem.run,hb]
have hlt:j<en.size:=by
 rw[← Array.length_toList,← hen.len]
 exact (List.getElem?_eq_some_iff.1 hj).1
have hfi:en.findIdx? (fun e=>(e.born:Int) == (j:Int))=some j:=by
 rw[Array.findIdx?_eq_some_iff_getElem]
 refine⟨hlt,by simp [hst.2 j en[j] (Array.getElem?_eq_getElem hlt)],fun i hi=>?_⟩
 have:=hst.2 i en[i] (Array.getElem?_eq_getElem (by omega))
 rw[this]
 simp
 omega
refine⟨_,?_,R.Az hob hm (en':=en.modify j fun e=>{ e with val:=a.eval y }) (clock':=clock) (by rw[Array.toList_modify];exact iz.Qz (aI R hv) j hen hj) (hst.modify fun _=>rfl)⟩
simp only[Instr.entryStore,hxe,hie,asInt,asIntOf,Sem.run_bind,Result.andThen_ok,hg,hset,Sem.run_pure,hfi]}
theorem oB (R:cb N B n μ β s a w) {sz m:Nat} {y:Operand} {cs:List Value} (h:cd s s.h sz y=some (cs,m)) : ∃ ad c news,a.eval y = .slice (some ad) m c∧dE N.P μ cs news∧cs.length=m*sz∧cs.all one=true∧∀ (j:Nat) (u:Value),news[j]? = some u→w.cell? (ad.add j)=some u:=by{
unfold cd at h
split at h
·rename_i t
 split at h
 ·rename_i l k ht
  split at h
  ·rename_i hl
   cases h
   have hs:=R.slot t (di R (by rw[ht];simp))
   rw[ht] at hs
   obtain⟨he,cur,e,hr,hv,h1⟩:=hs
   refine⟨_,_,cur.toList,he,hv,hl,h1,?_⟩
   intro j u hj
   rw[Addr.add_lit,Nat.zero_add]
   simpa [World.cell?,hr] using hj
  ·cases h
 ·rename_i id off ar k c ht
  split at h
  ·rename_i cells v own et ho
   split at h
   ·rename_i hve
    subst hve
    have h:(Am.vt cells off (k*sz)).map (fun l=>(l,k))=some (cs,m):=h
    cases hq:Am.vt cells off (k*sz) with
    | none=>simp [hq] at h
    | some l=>
      simp only[hq,Option.map_some,Option.some.injEq,Prod.mk.injEq] at h
      obtain⟨rfl,rfl⟩:=h
      have hev:ev s (.tmp t)=some (.slice (some ⟨id,off,some v⟩) k c):=by simp [ev,ht]
      obtain⟨id',off',ver',m,o,cap,hid,hm,he,hlc,_,hcase⟩:=(aI R hev).oC (by simp)
      cases hid
      have O:=R.heap.get ho hm
      have hq':=hq
      unfold Am.vt at hq'
      split at hq'
      case isFalse=>cases hq'
      rename_i hle
      cases hq'
      obtain⟨news,k1,k2⟩:=AF (w:=w) (P:=N.P) (μ:=μ) (b:=m.block) ((cells.drop off).take (k*sz)) (m.base+off) fun j u hu=>by
       rw[List.getElem?_take] at hu
       split at hu
       ·rw[List.getElem?_drop] at hu
        have:=O.cell (off+j) u hu
        rwa [← Nat.add_assoc] at this
       ·cases hu
      have hlen:((cells.drop off).take (k*sz)).length=k*sz:=by
       rw[List.length_take,List.length_drop]
       omega
      have hone:((cells.drop off).take (k*sz)).all one=true:=by
       have:=O.one
       rw[List.all_eq_true] at this ⊢
       exact fun x hx=>this x (List.mem_of_mem_drop (List.mem_of_mem_take hx))
      refine⟨⟨m.block,o,none⟩,cap,news,he,k1,hlen,hone,?_⟩
      intro j u hj
      rw[Addr.add_lit]
      rcases hcase with ⟨rfl,_⟩ | ⟨h0,_,_⟩
      ·exact k2 j u hj
      ·subst h0
       have hn:=k1.length
       rw[hlen,Nat.zero_mul] at hn
       have:news=[]:=List.eq_nil_of_length_eq_zero hn.symm
       subst this
       simp at hj
   ·cases h
  ·cases h
 ·cases h
·cases h}
theorem yZ {P:Program} {cs news:List Value} (h:dE P μ cs news) (h1:cs.all one=true):∀ u∈news,u.oneCell'=true:=fun u hu=>by
 rw[← B6]
 exact List.all_eq_true.1 (h.qU h1) u hu
theorem xg {P:Program} {e:TypeId} {ti:TI} (ht:aq P e=some ti) (hz:(ti.zero.map fun z=>z.cells.size)=some ti.size) : ∃ i z,P.info? e=some i∧i.zero=some z∧i.size=ti.size∧i.bytes=ti.bytes∧z.cells.size=ti.size:=by{
obtain⟨i,d,hi,hd,rfl⟩:=bY ht
simp only at hz
cases hzz:i.zero with
| none=>simp [hzz] at hz
| some z=>exact⟨i,z,hi,hzz,rfl,rfl,by simpa [hzz] using hz⟩}
theorem mV {P:Program} {x y:Operand} {t:TypeId} {o:Oper} (ho:o.op = .call { callee:=.builtin .append,args:=#[x,y],argTypes:=#[t,t] }) {v:Value}
 (hr:(Builtin.append_ #[t,t] o.type #[a.eval x,a.eval y]).run P w = .ok v w'):(execOp a.eval o).run P w = .ok (.value v) w':=by
 simp only[execOp,ho,resolve,Sem.run_bind,Sem.run_pure,Result.andThen_ok,invoke,builtin,List.map_toArray,List.map_cons,List.map_nil,hr]
theorem GM (R:cb N B n μ β s a w) {o:Oper} {x y:Operand} {t e:TypeId} {ti:TI} {cs:List Value} {m:Nat} (hd:∀ d,o.dst=some d→d<n) (ho:o.op = .call { callee:=.builtin .append,args:=#[x,y],argTypes:=#[t,t] }) (hu:N.P.underlying t=some (.slice e)) (ht:aq N.P e=some ti) (hs0:0<ti.size) (hz:(ti.zero.map fun z=>z.cells.size)=some ti.size) (hx:ev s x=some (.slice none 0 0)) (hy:cd s s.h ti.size y=some (cs,m)) (hm:0<m) (hb:m*ti.bytes≤140737488355328) (hmx:m≤140737488355328) : ∃ v' w' μ' β',(execOp a.eval o).run N.P w = .ok (.value v') w'∧cb N B n μ' β' ({ s with h:=s.h++[av.aA cs 0 true e] }.a9 o.dst (.val (.slice (some ⟨s.h.length,0,some 0⟩) m m))) (a.put o.dst v') w':=by{
obtain⟨i,z,hi,hzz,hsz,hby,hzs⟩:=xg ht hz
obtain⟨ad,c,news,he,hv,hlen,h1,hnews⟩:=oB R hy
have hxe:a.eval x = .slice none 0 0:=(aI R hx).dM rfl
have hml:maxLen=9223372036854775807:=by simp [maxLen]
obtain⟨v',w',hr,hown,hg,hnil,hat⟩:=run_append_own_at (P:=N.P) w w.heap.size t o.type e i z ti.size ti.bytes hu hi hzz hsz hby hzs hs0 (.slice none 0 0) 0 [] (World.ownsRow_nil w w.heap.size e ti.size) ad m c news
 (by rw[← hv.length];exact hlen) hnews (yZ hv h1) (by omega) (by simpa using hb) (Nat.le_refl _)
simp only[Nat.zero_add,List.nil_append] at hown
obtain⟨hl2,h2⟩:=hown
rcases h2 with ⟨_,h0⟩ | ⟨g,cap,cur,rfl,hgb,hgr,hmc,hcm,hcs,htake⟩
·omega
·have hw:∀ k,k<w.heap.size→w'.heap[k]? = w.heap[k]?:=fun k hk=>hg.block k hk (by simp [Value.ownBlock])
 obtain⟨μ',β',_,h⟩:=R.rS (d:=o.dst) (cells:=cs) (cur:=cur) (e:=e) (v:=.slice (some ⟨s.h.length,0,some 0⟩) m m) (v':=.slice (some ⟨g,0,none⟩) m cap) hd hg.os hg.tape hg.output hg.size hw hgb
  (Array.getElem?_eq_some_iff.1 hgr).1 hgr
  (fun j v hj=>by
   obtain⟨v',k1,k2⟩:=hv.get hj
   rw[← htake,List.getElem?_take] at k1
   split at k1
   ·exact⟨v',by simpa using k1,k2⟩
   ·cases k1)
  h1 (by
   have:=cM μ ⟨g,0,cur.size,e⟩
   rw[R.heap.len] at this
   have hh:=VR.slice (P:=N.P) (c:=m) (len:=m) (cap:=cap) (off:=0) this hmc hcm (by simp only[hcs,ed ht];omega)
   simpa using hh)
 exact⟨_,w',μ',β',mV ho (by rw[hxe,he];exact hr),h⟩}
theorem y6 (R:cb N B n μ β s a w) {d:Option Nat} {e:TypeId} {ti:TI} {cs cells news:List Value} {cur:Array Value} {m k id ar:Nat} {q:M} {v':Value} {w':World} (hd:∀ x,d=some x→x<n) (ht:aq N.P e=some ti) (hob:s.h[id]? = some (.aA cells ar true e)) (hq:fQ μ id ar=some q) (hkl:k*ti.size≤cells.length) (hb0:q.base=0) (hr:w.heap[q.block]? = some (.cells cur e (0,0))) (hks:k*ti.size≤cur.size) (hv:dE N.P μ cs news) (h1:cs.all one=true) (hown:w'.ownsRow 0 e ti.size v' (k+m) (cur.toList.take (k*ti.size)++news)) (hg:w.grownBy w' (some q.block)) (hnil:v'≠.slice none 0 0) (hat:v'.ownBlock=some q.block∨v'.ownBlock=some w.heap.size) : ∃ μ' β',cb N B n μ' β' ({ s with h:=s.h.set id (av.aA (cells.take (k*ti.size)++cs) (ar+1) true e) }.a9 d (.val (.slice (some ⟨id,0,some (ar+1)⟩) (k+m) (k+m)))) (a.put d v') w':=by{
have O:=R.heap.get hob hq
obtain⟨hl2,h2⟩:=hown
rcases h2 with ⟨h0,_⟩ | ⟨g,cap',cur',rfl,_,hgr,hmc,hcm',hcs,htake⟩
·exact absurd h0 hnil
have hgq:g=q.block∨g=w.heap.size:=by
 rcases hat with h|h
 ·left;simpa [Value.ownBlock] using h
 ·right;simpa [Value.ownBlock] using h
have hlt:id<s.h.length:=by
 rcases Nat.lt_or_ge id s.h.length with h' | h'
 ·exact h'
 ·simp [List.getElem?_eq_none h'] at hob
obtain⟨hs,g1,g2,g3⟩:=O.qN
let m':M:=⟨g,0,cur'.size,e⟩
have hbump:(jM μ id m')[id]? = some (hs++[m']):=by simp [jM,g1]
have hsame:∀ i',i'≠id→(jM μ id m')[i']? = μ[i']?:=fun i' hi'=>by simp [jM,Ne.symm hi']
have hnew:fQ (jM μ id m') id (ar+1)=some m':=by
 unfold fQ
 rw[hbump]
 simp only
 rw[← g2,List.getElem?_append_right (Nat.le_refl _)]
 simp
have hwo:∀ k',k'<w.heap.size→k'≠q.block→w'.heap[k']? = w.heap[k']?:=fun k' hk' hne=>hg.block k' hk' (fun e=>hne (Option.some.inj e))
have hgl:g<w'.heap.size:=(Array.getElem?_eq_some_iff.1 hgr).1
have htk:dE N.P μ (cells.take (k*ti.size)) (cur.toList.take (k*ti.size)):=by
 refine dE.of ?_ ?_
 ·have hcl:cur.toList.length=cur.size:=Array.length_toList
  rw[List.length_take,List.length_take,hcl,Nat.min_eq_left hkl,Nat.min_eq_left hks]
 ·intro j u u' hj hj'
  rw[List.getElem?_take] at hj hj'
  split at hj
  ·rename_i hlt'
   rw[if_pos hlt'] at hj'
   obtain⟨u2,k1,k2⟩:=O.cell j u hj
   rw[hb0,Nat.zero_add] at k1
   simp only[World.cell?,hr] at k1
   simp at k1 hj'
   rw[hj'] at k1
   cases k1
   exact k2
  ·cases hj
have hall:=htk.append hv
rw[← htake] at hall
have hO:lk N.P (jM μ id m') w' id (cells.take (k*ti.size)++cs) (ar+1) true e m':=by
 refine⟨⟨_,hbump,by simp [g2],by rw[← g2,List.getElem?_append_right (Nat.le_refl _)];simp⟩,rfl,?_,?_,hgl,fun _=>⟨rfl,cur',hgr,rfl⟩⟩
 ·intro j u hj
  obtain⟨u',k1,k2⟩:=hall.get hj
  rw[List.getElem?_take] at k1
  split at k1
  ·refine⟨u',?_,k2.mono (eU.Ny _ _ _)⟩
   show w'.cell? ⟨g,0+j,none⟩=some u'
   simp only[World.cell?,hgr,Nat.zero_add]
   simpa using k1
  ·cases k1
 ·rw[List.all_append,h1,Bool.and_true]
  have:=O.one
  rw[List.all_eq_true] at this ⊢
  exact fun x hx=>this x (List.mem_of_mem_take hx)
have hown0:fa μ s.h q.block:=fa.aA hob hq
have hx0:=R.own _ hown0
have hfs:=R.fr.size
have hplt:=fun (t:Nat) (hp:dZ (aW s.fr t)=true)=>(R.jo t hp).2
obtain⟨β',hfin⟩:=R.AC (d:=d) (v:=.slice (some ⟨id,0,some (ar+1)⟩) (k+m) (k+m)) (v':=.slice (some ⟨g,0,none⟩) (k+m) cap') hd (eU.Ny μ id m')
 (R.heap.Na hob hq (eU.Ny μ id m') (by simp [jM]) hsame hO (by rcases hgq with h|h;exact .inl h;exact .inr (by simp only[m'];omega)) hg.size hwo)
 ⟨hg.os.trans R.fr.os,hg.tape.trans R.fr.tape,hg.output.trans R.fr.output,Nat.le_trans hfs hg.size,fun k' hk' hn=>(hwo k' (Nat.lt_of_lt_of_le hk' hfs) (fun e'=>by rcases hx0 with h|h;exact hn (e'▸h);omega)).trans (R.fr.block k' hk' hn)⟩
 (fun b hb=>by
  rcases tM hsame hnew hb with h|h
  ·exact R.own b h
  ·rcases hgq with h' | h'
   ·rw[h];simp only[m'];rw[h'];exact hx0
   ·rw[h];simp only[m'];exact .inr (by omega))
 (fun b hb=>by
  rcases lB hsame hnew hb with h|h
  ·exact R.eF b h
  ·rcases hgq with h' | h'
   ·rw[h];simp only[m'];rw[h'];exact R.eF _ hown0.eF
   ·rw[h];simp only[m'];exact .inr (by omega))
 hg.size (fun t hp=>hwo _ (hplt t hp) fun e'=>R.eN t hp (e'▸hown0.eF))
 (fun t hp hb=>by
  rcases lB hsame hnew hb with h|h
  ·exact R.eN t hp h
  ·rcases hgq with h' | h'
   ·exact R.eN t hp (by rw[h];simp only[m'];rw[h'];exact hown0.eF)
   ·have:=hplt t hp
    simp only[m'] at h
    omega)
 (by
  have hh:=VR.slice (P:=N.P) (c:=k+m) (len:=k+m) (cap:=cap') (off:=0) hnew hmc hcm' (by simp only[m',hcs,ed ht];omega)
  simpa [m'] using hh)
exact⟨_,β',hfin⟩}
theorem Iv (R:cb N B n μ β s a w) {o:Oper} {x y:Operand} {t e:TypeId} {ti:TI} {cs cells:List Value} {m k c id ar:Nat} (hd:∀ d,o.dst=some d→d<n) (ho:o.op = .call { callee:=.builtin .append,args:=#[x,y],argTypes:=#[t,t] }) (hu:N.P.underlying t=some (.slice e)) (ht:aq N.P e=some ti) (hs0:0<ti.size) (hz:(ti.zero.map fun z=>z.cells.size)=some ti.size) (hx:ev s x=some (.slice (some ⟨id,0,some ar⟩) k c)) (hob:s.h[id]? = some (.aA cells ar true e)) (hkl:k*ti.size≤cells.length) (hy:cd s s.h ti.size y=some (cs,m)) (hb:(k+m)*ti.bytes≤140737488355328) (hmx:k+m≤140737488355328) : ∃ v' w' μ' β',(execOp a.eval o).run N.P w = .ok (.value v') w' ∧ cb N B n μ' β' ({ s with h:=s.h.set id (av.aA (cells.take (k*ti.size)++cs) (ar+1) true e) }.a9 o.dst (.val (.slice (some ⟨id,0,some (ar+1)⟩) (k+m) (k+m)))) (a.put o.dst v') w':=by{
obtain⟨i,z,hi,hzz,hsz,hby,hzs⟩:=xg ht hz
obtain⟨ad,cc,news,he,hv,hlen,h1,hnews⟩:=oB R hy
obtain⟨id',off',ver',q,oo,cap,hid,hq,hxe,hkc,hcm,hcase⟩:=(aI R hx).oC (by simp)
cases hid
have O:=R.heap.get hob hq
obtain⟨hb0,cur,hr,hroom⟩:=O.own rfl
obtain⟨hoo,hrm⟩:oo=q.base+0∧0+cap*N.P.cellsOf q.et=q.room:=by
 rcases hcase with h|⟨_,_,h0⟩
 ·exact h
 ·omega
rw[hb0] at hoo
simp only[Nat.zero_add,O.ez,ed ht,hroom] at hrm hoo
subst hoo
have hml:maxLen=9223372036854775807:=by simp [maxLen]
have hks:k*ti.size≤cur.size:=by rw[← hrm];exact Nat.mul_le_mul_right _ hkc
have hrow:w.ownsRow 0 e ti.size (.slice (some ⟨q.block,0,none⟩) k cap) k (cur.toList.take (k*ti.size)):=
 ⟨by rw[List.length_take,Array.length_toList];omega,.inr ⟨q.block,cap,cur,rfl,Nat.zero_le _,hr,hkc,hcm,hrm.symm,rfl⟩⟩
obtain⟨v',w',hrun,hown,hg,hnil,hat⟩:=run_append_own_at (P:=N.P) w 0 t o.type e i z ti.size ti.bytes hu hi hzz hsz hby hzs hs0 _ k _ hrow ad m cc news
 (by rw[← hv.length];exact hlen) hnews (yZ hv h1) (by omega) hb (Nat.zero_le _)
obtain⟨μ',β',R'⟩:=y6 (d:=o.dst) R hd ht hob hq hkl hb0 hr hks hv h1 hown hg (fun h0=>by have:=hnil.1 h0;simp at this) (by simpa [Value.ownBlock] using hat)
exact⟨_,w',_,β',mV ho (by rw[hxe,he];exact hrun),R'⟩}
theorem jh (b:ByteArray):(bL b).length=b.size:=Lib.strCells_length b
theorem nk (b:ByteArray):(bL b).all be=true:=by{
rw[List.all_eq_true]
intro x hx
simp only[bL,List.mem_map] at hx
obtain⟨y,_,rfl⟩:=hx
rfl}
theorem o4 (b:ByteArray):(bL b).all one=true:=by{
rw[List.all_eq_true]
intro x hx
simp only[bL,List.mem_map] at hx
obtain⟨y,_,rfl⟩:=hx
rfl}
theorem wj {P:Program} {e:TypeId} {ti:TI} (ht:aq P e=some ti) (h1:ti.size=1) (h2:ti.bytes=1) (hz:ti.zero=some (.int .u8 0)):∃ i,P.info? e=some i∧i.zero=some (.int .u8 0)∧i.size=1∧i.bytes=1:=by
 obtain⟨i,d,hi,hd,rfl⟩:=bY ht
 exact⟨i,hi,hz,h1,h2⟩
theorem qH {P:Program} {t u ty e:TypeId} {i:TypeInfo} (ht:P.underlying t=some (.slice e)) (hu:P.underlying u=some .string) (hi:P.info? e=some i) (hz:i.zero=some (.int .u8 0)) (hs:i.size=1) (hb:i.bytes=1) {v:Value} {k:Nat} {xs:List Value} {base:Nat} (hown:w.ownsRow base e 1 v k xs) (b:ByteArray) (hl:k+b.size≤140737488355328) (hbase:base≤w.heap.size) : ∃ v' w',(Builtin.append_ #[t,u] ty #[v,.string b]).run P w = .ok v' w'∧w'.ownsRow base e 1 v' (k+b.size) (xs++bL b)∧w.grownBy w' v.ownBlock∧(v' = .slice none 0 0↔v = .slice none 0 0∧b.size=0)∧(v'.ownBlock=v.ownBlock∨v'.ownBlock=some w.heap.size):=by{
obtain⟨v',w',hrun,h1,h2,h3⟩:=Lib.run_append_own_string w base t u ty e i ht hu hi hz hs hb v k xs hown b (by unfold maxLen;omega) (by omega) hbase
refine⟨v',w',hrun,h1,h2,h3,?_⟩
have hxl:xs.length=k:=by simpa using hown.1
rcases hown.2 with ⟨rfl,rfl⟩ | ⟨g,cap,cur,rfl,hbg,hg,hnc,hcm,hcs,htake⟩
·by_cases hm:b.size=0
 ·exact .inl (by rw[h3.2 ⟨rfl,hm⟩])
 ·have hr:=run_append_nil_string (P:=P) w t u ty e i (.int .u8 0) ht hu hi hz b (by omega) (by omega) (by rw[hb];omega)
  have:=hrun.symm.trans hr
  simp only[Result.ok.injEq] at this
  exact .inr (by rw[this.1];rfl)
·by_cases hroom:k+b.size≤cap
 ·have hr:=Lib.run_append_room_string (P:=P) w t u ty e i ht hu hi hs g k cap cur hg b hroom (by omega)
  have:=hrun.symm.trans hr
  simp only[Result.ok.injEq] at this
  exact .inl (by rw[this.1];rfl)
 ·have holds:∀ j u,xs[j]? = some u→w.cell? ((⟨g,0,none⟩:Addr).add j)=some u:=hown.cells (g:=g) rfl
  have hr:=Lib.run_append_grow_string (P:=P) w t u ty e i (.int .u8 0) ht hu hi hz ⟨g,0,none⟩ k cap xs (by rw[hs];simpa using hxl) holds b (by omega) (by omega) (by rw[hb];exact growslice_fits (by omega) (by omega))
  have:=hrun.symm.trans hr
  simp only[Result.ok.injEq] at this
  exact .inr (by rw[this.1];rfl)}
theorem lK {P:Program} {x y:Operand} {t u:TypeId} {o:Oper} (ho:o.op = .call { callee:=.builtin .append,args:=#[x,y],argTypes:=#[t,u] }) {v:Value}
 (hr:(Builtin.append_ #[t,u] o.type #[a.eval x,a.eval y]).run P w = .ok v w'):(execOp a.eval o).run P w = .ok (.value v) w':=by
 simp only[execOp,ho,resolve,Sem.run_bind,Sem.run_pure,Result.andThen_ok,invoke,builtin,List.map_toArray,List.map_cons,List.map_nil,hr]
theorem CA (R:cb N B n μ β s a w) {o:Oper} {x y:Operand} {t u e:TypeId} {ti:TI} {b:ByteArray} (hd:∀ d,o.dst=some d→d<n) (ho:o.op = .call { callee:=.builtin .append,args:=#[x,y],argTypes:=#[t,u] }) (ht:N.P.underlying t=some (.slice e)) (hu:N.P.underlying u=some .string) (hti:aq N.P e=some ti) (hs1:ti.size=1) (hb1:ti.bytes=1) (hz:ti.zero=some (.int .u8 0)) (hx:ev s x=some (.slice none 0 0)) (hy:ev s y=some (.string b)) (hb0:0<b.size) (hb:b.size≤140737488355328) : ∃ v' w' μ' β',(execOp a.eval o).run N.P w = .ok (.value v') w'∧cb N B n μ' β' ({ s with h:=s.h++[av.aA (bL b) 0 true e] }.a9 o.dst (.val (.slice (some ⟨s.h.length,0,some 0⟩) b.size b.size))) (a.put o.dst v') w':=by{
obtain⟨i,hi,hzz,hsz,hby⟩:=wj hti hs1 hb1 hz
have hxe:a.eval x = .slice none 0 0:=(aI R hx).dM rfl
have hye:a.eval y = .string b:=(aI R hy).string
obtain⟨v',w',hr,hown,hg,hnil,hat⟩:=qH (P:=N.P) (ty:=o.type) ht hu hi hzz hsz hby (World.ownsRow_nil w w.heap.size e 1) b (by omega) (Nat.le_refl _)
simp only[Nat.zero_add,List.nil_append] at hown
obtain⟨hl2,h2⟩:=hown
rcases h2 with ⟨_,h0⟩ | ⟨g,cap,cur,rfl,hgb,hgr,hmc,hcm,hcs,htake⟩
·omega
·have hw:∀ k,k<w.heap.size→w'.heap[k]? = w.heap[k]?:=fun k hk=>hg.block k hk (by simp [Value.ownBlock])
 obtain⟨μ',β',_,h⟩:=R.rS (d:=o.dst) (cells:=bL b) (cur:=cur) (e:=e) (v:=.slice (some ⟨s.h.length,0,some 0⟩) b.size b.size) (v':=.slice (some ⟨g,0,none⟩) b.size cap) hd hg.os hg.tape hg.output hg.size hw hgb
  (Array.getElem?_eq_some_iff.1 hgr).1 hgr
  (fun j v hj=>by
   rw[← htake,List.getElem?_take] at hj
   split at hj
   ·exact⟨v,by simpa using hj,.pure (List.all_eq_true.1 (nk b) v (by rw[← htake];exact List.mem_of_getElem? (i:=j) (by rw[List.getElem?_take];rename_i hlt;rw[if_pos hlt];exact hj)))⟩
   ·cases hj)
  (o4 b) (by
   have:=cM μ ⟨g,0,cur.size,e⟩
   rw[R.heap.len] at this
   have hh:=VR.slice (P:=N.P) (c:=b.size) (len:=b.size) (cap:=cap) (off:=0) this hmc hcm (by simp only[hcs,ed hti,hs1];omega)
   simpa using hh)
 exact⟨_,w',μ',β',lK ho (by rw[hxe,hye];exact hr),h⟩}
theorem FY (R:cb N B n μ β s a w) {o:Oper} {x y:Operand} {t u e:TypeId} {ti:TI} {cells:List Value} {k c id ar:Nat} {b:ByteArray} (hd:∀ d,o.dst=some d→d<n) (ho:o.op = .call { callee:=.builtin .append,args:=#[x,y],argTypes:=#[t,u] }) (hut:N.P.underlying t=some (.slice e)) (huu:N.P.underlying u=some .string) (ht:aq N.P e=some ti) (hs1:ti.size=1) (hb1:ti.bytes=1) (hz:ti.zero=some (.int .u8 0)) (hx:ev s x=some (.slice (some ⟨id,0,some ar⟩) k c)) (hob:s.h[id]? = some (.aA cells ar true e)) (hkl:k≤cells.length) (hy:ev s y=some (.string b)) (hb:k+b.size≤140737488355328) : ∃ v' w' μ' β',(execOp a.eval o).run N.P w = .ok (.value v') w' ∧ cb N B n μ' β' ({ s with h:=s.h.set id (av.aA (cells.take k++bL b) (ar+1) true e) }.a9 o.dst (.val (.slice (some ⟨id,0,some (ar+1)⟩) (k+b.size) (k+b.size)))) (a.put o.dst v') w':=by{
obtain⟨i,hi,hzz,hsz,hby⟩:=wj ht hs1 hb1 hz
have hye:a.eval y = .string b:=(aI R hy).string
obtain⟨id',off',ver',q,oo,cap,hid,hq,hxe,hkc,hcm,hcase⟩:=(aI R hx).oC (by simp)
cases hid
have O:=R.heap.get hob hq
obtain⟨hb0,cur,hr,hroom⟩:=O.own rfl
obtain⟨hoo,hrm⟩:oo=q.base+0∧0+cap*N.P.cellsOf q.et=q.room:=by
 rcases hcase with h|⟨_,_,h0⟩
 ·exact h
 ·omega
rw[hb0] at hoo
simp only[Nat.zero_add,O.ez,ed ht,hroom,hs1,Nat.mul_one] at hrm hoo
subst hoo
have hks:k≤cur.size:=by omega
have hrow:w.ownsRow 0 e 1 (.slice (some ⟨q.block,0,none⟩) k cap) k (cur.toList.take k):=
 ⟨by rw[List.length_take,Array.length_toList];omega,.inr ⟨q.block,cap,cur,rfl,Nat.zero_le _,hr,hkc,hcm,by omega,by simp⟩⟩
obtain⟨v',w',hrun,hown,hg,hnil,hat⟩:=qH (P:=N.P) (ty:=o.type) hut huu hi hzz hsz hby hrow b hb (Nat.zero_le _)
obtain⟨μ',β',R'⟩:=y6 (d:=o.dst) (m:=b.size) (k:=k) R hd ht hob hq (by rw[hs1];omega) hb0 hr (by rw[hs1];omega) (dE.pure (nk b)) (o4 b) (by rw[hs1,Nat.mul_one];exact hown) hg (fun h0=>by have:=hnil.1 h0;simp at this) (by simpa [Value.ownBlock] using hat)
rw[hs1,Nat.mul_one] at R'
exact⟨_,w',_,β',lK ho (by rw[hxe,hye];exact hrun),R'⟩}
theorem J7 (R:cb N B n μ β s a w) {o:Oper} {x:Operand} {t u e:TypeId} {ti:TI} {b:ByteArray} (hd:∀ d,o.dst=some d→d<n) (ho:o.op = .convert t u x) (ht:N.P.underlying t=some .string) (hu:N.P.underlying u=some (.slice e)) (he:N.P.underlying e=some (.int .u8)) (hti:aq N.P e=some ti) (hs1:ti.size=1) (hx:ev s x=some (.string b)) (hb:b.size≤140737488355328) : ∃ v' w' μ' β',(execOp a.eval o).run N.P w = .ok (.value v') w'∧cb N B n μ' β' ({ s with h:=s.h++[av.aA (bL b) 0 false e] }.a9 o.dst (.val (.slice (some ⟨s.h.length,0,some 0⟩) b.size b.size))) (a.put o.dst v') w':=by{
have hxe:a.eval x = .string b:=(aI R hx).string
have hrun:=Lib.run_convert_string_bytes (P:=N.P) w t u e b ht hu he
have hge:=grownCap_ge w b.size 0 e
have hcm:grownCap w b.size 0 e≤maxLen:=grownCap_le_maxLen w b.size 0 e (by unfold maxLen;omega)
have hsize:=Lib.bytesWorld_size w e b
have hnew:=Lib.bytesWorld_at_new w e b
have hcs:(Lib.bytesCells w e b).size=grownCap w b.size 0 e:=by
 simp only[Lib.bytesCells,Array.size_append,Array.size_map,Array.size_replicate]
 have:b.data.size=b.size:=rfl
 omega
have hold:∀ k,k<w.heap.size→(Lib.bytesWorld w e b).heap[k]? = w.heap[k]?:=fun k hk=>Lib.bytesWorld_at_old w e b k hk
have hrest:(Lib.bytesWorld w e b).os=w.os∧(Lib.bytesWorld w e b).tape=w.tape∧(Lib.bytesWorld w e b).output=w.output:=by
 obtain⟨f1,f2,f3⟩:=zi (w:=w.drew.alloc (.cells (Lib.bytesCells w e b) e)) (b:=w.heap.size) (n:=(Lib.bytesCells w e b).size) (c:=1)
 exact⟨f1,f2,f3⟩
have hplt:=fun (t:Nat) (ht:dZ (aW s.fr t)=true)=>(R.jo t ht).2
let m:M:=⟨w.heap.size,0,(Lib.bytesCells w e b).size,e⟩
have hO:OR N.P (μ++[[m]]) (Lib.bytesWorld w e b) s.h.length (av.aA (bL b) 0 false e) m:=by
 refine⟨⟨[m],by rw[← R.heap.len];simp,rfl,rfl⟩,rfl,fun j v hj=>?_,o4 b,by simp only[m];omega,fun h=>by cases h⟩
 refine⟨v,?_,.pure (List.all_eq_true.1 (nk b) v (List.mem_of_getElem? hj))⟩
 have hlt:j<b.size:=by rw[← jh];exact (List.getElem?_eq_some_iff.1 hj).1
 simp only[m,Nat.zero_add]
 rw[Lib.bytesWorld_cell w e b j hlt]
 simp only[bL,List.getElem?_map] at hj
 obtain⟨y,hy,rfl⟩:=Option.map_eq_some_iff.1 hj
 rw[List.getD_eq_getElem?_getD,hy]
 rfl
have hat:fQ (μ++[[m]]) s.h.length 0=some m:=by rw[← R.heap.len];exact cM _ _
have hfs:=R.fr.size
obtain⟨β',h⟩:=R.AC (d:=o.dst) (v:=.slice (some ⟨s.h.length,0,some 0⟩) b.size b.size) (v':=.slice (some ⟨w.heap.size,0,none⟩) b.size (grownCap w b.size 0 e)) hd (eU.push _ _)
 (R.heap.Np (m:=m) (by omega) (by simp [m]) hold hO) (R.fr.grow hrest.1 hrest.2.1 hrest.2.2 (by omega) hold)
 (fun x hx=>by
  rcases lO rfl R.heap.len hx with h|h
  ·exact R.own x h
  ·exact .inr (by rw[h];exact hfs))
 (fun x hx=>by
  rcases iH rfl R.heap.len hx with h|h
  ·exact R.eF x h
  ·exact .inr (by rw[h];exact hfs))
 (by omega) (fun t ht=>hold _ (hplt t ht))
 (fun t ht hx=>by
  rcases iH rfl R.heap.len hx with h|h
  ·exact R.eN t ht h
  ·have:=hplt t ht
   simp only[m] at h
   omega)
 (by
  have hh:=VR.slice (P:=N.P) (c:=b.size) (len:=b.size) (cap:=grownCap w b.size 0 e) (off:=0) hat hge hcm (by simp only[m,hcs,ed hti,hs1];omega)
  simpa [m] using hh)
exact⟨_,_,_,β',by simp only[execOp,ho,hxe,Sem.run_bind,hrun,Result.andThen_ok,Sem.run_pure],h⟩}
theorem G4 (R:cb N B n μ β s a w) {o:Oper} {x y:Operand} {t u e:TypeId} {ti:TI} {b:ByteArray} {id ar:Nat} {cells:List Value} (hd:∀ d,o.dst=some d→d<n) (ho:o.op = .call { callee:=.builtin .unsafeString,args:=#[x,y],argTypes:=#[t,u] }) (ht:N.P.underlying t=some (.pointer e)) (hti:aq N.P e=some ti) (hs1:ti.size=1) (hx:ev s x=some (.pointer (some ⟨id,0,some ar⟩))) (hob:s.h[id]? = some (.aA cells ar true e)) (hy:ev s y=some (.int .i64 b.size)) (hb0:0<b.size) (hb:b.size≤140737488355328) (htk:cells.take b.size=bL b) : ∃ w' β',(execOp a.eval o).run N.P w = .ok (.value (.string b)) w'∧cb N B n μ β' ({ s with h:=s.h.set id (av.aA cells ar false e) }.a9 o.dst (.val (.string b))) (a.put o.dst (.string b)) w':=by{
obtain⟨id',off',ver',m,hid,hm,hxe⟩:=(aI R hx).jJ
cases hid
have hye:a.eval y = .int .i64 b.size:=(aI R hy).int
have O:=R.heap.get hob hm
obtain⟨hb0',cur,hr,hroom⟩:=O.own rfl
have hsz:b.data.toList.length=b.size:=rfl
have hcell:∀ j x,b.data.toList[j]? = some x→w.cell? ((⟨m.block,0,none⟩:Addr).add j)=some (.int .u8 x.toNat):=by
 intro j x hj
 have hlt:j<b.size:=by rw[← hsz];exact (List.getElem?_eq_some_iff.1 hj).1
 have hc:cells[j]? = some (.int .u8 x.toNat):=by
  rw[← List.getElem?_take_of_lt hlt,htk]
  simp only[bL,List.getElem?_map,hj,Option.map_some]
 obtain⟨v',k1,k2⟩:=O.cell j _ hc
 rw[k2.int,hb0',Nat.zero_add] at k1
 rw[Addr.add_lit,Nat.zero_add]
 exact k1
have hfit:b.size≤cur.size:=by
 have h1:=(jh b).symm
 rw[← htk,List.length_take] at h1
 rcases Nat.eq_zero_or_pos b.size with h0|h0
 ·omega
 ·have hc:∃ v,cells[b.size-1]? = some v:=⟨_,List.getElem?_eq_getElem (show b.size-1<cells.length by omega)⟩
  obtain⟨v,hv⟩:=hc
  obtain⟨v',k1,_⟩:=O.cell _ v hv
  rw[hb0',Nat.zero_add] at k1
  simp only[World.cell?,hr] at k1
  have:=(Array.getElem?_eq_some_iff.1 (by simpa using k1)).1
  omega
have hrun:=Lib.run_unsafeString_row (P:=N.P) w t u o.type e ht (by rw[ed hti,hs1]) m.block cur.size (by simp [World.shape?,hr]) b.data.toList (by intro h;rw[h] at hsz;simp at hsz;omega) (by rw[hsz];exact hfit) (by rw[hsz];omega) hcell
rw[hsz] at hrun
obtain⟨β',R'⟩:=R.VD (k:=0) (c:=b.size) (d:=o.dst) (v:=.string b) (v':=.string b) (by omega) hd hob hm hr (.pure rfl)
refine⟨_,β',?_,R'⟩
have hbb:(⟨b.data.toList.toArray⟩:ByteArray)=b:=by simp
rw[hbb] at hrun
rw[hb0'] at hxe
simp only[execOp,ho,resolve,Sem.run_bind,Sem.run_pure,Result.andThen_ok,invoke,builtin,List.map_toArray,List.map_cons,List.map_nil,hxe,hye,Nat.add_zero,hrun]}
end
end Go.Proofs.YtmdmimkbpikmoaaGreat.Am
