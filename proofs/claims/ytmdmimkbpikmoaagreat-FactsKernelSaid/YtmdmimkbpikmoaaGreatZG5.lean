/- Several texts, one behind the other. -/
import Derived.Test.YtmdmimkbpikmoaaGreatZG1
import Derived.Test.YtmdmimkbpikmoaaGreatZFa
import Derived.Test.YtmdmimkbpikmoaaGreatZTy
import Derived.RangeFuncBox
import Derived.RangeFuncNested
import Derived.RangeFuncBound
import Derived.RangeFuncCalls
import Derived.RangeFuncLeaves
import Derived.Shelf.Abstract
import Derived.Shelf.RegionOpen
import Derived.WalkKit
import Derived.OwnWalkIn
import Derived.TacticsInMore
import Derived.LoopNIn
import Derived.LoopIn
import Derived.Maps.AppendAt
import Derived.Lib.Builder
import Derived.Laws.Externs
import Derived.Test.YtmdmimkbpikmoaaGreatRows
import Derived.ProofKit
import Derived.OpenShut
import Derived.ChangeOld
import Derived.Below
import Derived.Carry
import Derived.SizedLaws
set_option linter.unusedSimpArgs false
set_option linter.unusedVariables false
set_option maxHeartbeats 8000000
namespace Go.Proofs.YtmdmimkbpikmoaaGreat
set_option maxRecDepth 20000
open Go.RowKit Am Ty
abbrev aX.val (s:aX):Value:=.agg #[u64 s.a,u64 s.b,u64 s.c,u64 s.d]
def ub (s t:aX):Nat→List Value
 | 0=>[u64 s.a,u64 s.b,u64 s.c,u64 s.d]
 | 1=>[u64 (mq s.a t.a),u64 s.b,u64 s.c,u64 s.d]
 | 2=>[u64 (mq s.a t.a),u64 (mq s.b t.b),u64 s.c,u64 s.d]
 | 3=>[u64 (mq s.a t.a),u64 (mq s.b t.b),u64 (mq s.c t.c),u64 s.d]
 | _=>[u64 (mq s.a t.a),u64 (mq s.b t.b),u64 (mq s.c t.c),u64 (mq s.d t.d)]
set_option maxRecDepth 20000 in
theorem F9 {h:ah} {s t:aX} (hs:du s) (ht:du t):FW env 105 [s.val,t.val] h fun r h'=>r=(s.union t).val∧h'=h:=by{
have w0:IntKind.u64.wrap ((BitVec.ofInt IntKind.u64.bits s.a ||| BitVec.ofInt IntKind.u64.bits t.a).toNat)=mq s.a t.a:=wL hs.a ht.a
have w1:IntKind.u64.wrap ((BitVec.ofInt IntKind.u64.bits s.b ||| BitVec.ofInt IntKind.u64.bits t.b).toNat)=mq s.b t.b:=wL hs.b ht.b
have w2:IntKind.u64.wrap ((BitVec.ofInt IntKind.u64.bits s.c ||| BitVec.ofInt IntKind.u64.bits t.c).toNat)=mq s.c t.c:=wL hs.c ht.c
have w3:IntKind.u64.wrap ((BitVec.ofInt IntKind.u64.bits s.d ||| BitVec.ofInt IntKind.u64.bits t.d).toNat)=mq s.d t.d:=wL hs.d ht.d
refine fe Tryz.func105 ?_;simp only[push_cast]
refine aC ?_
refine cO 4 (fun k=>[(2,.box (ub s t k)),(3,.box [u64 t.a,u64 t.b,u64 t.c,u64 t.d]),(4,.box [u64 0,u64 0,u64 0,u64 0]),(6,.val (i64 k))]) (fun _=>h) (fun _=>True) ⟨rfl,rfl,rfl,rfl,trivial⟩ rfl trivial ?_
intro k hk _
rcases (by omega:k=0∨k=1∨k=2∨k=3∨k=4) with rfl|rfl|rfl|rfl|rfl
·show CW _ _ ⟨[(2,.box [u64 s.a,u64 s.b,u64 s.c,u64 s.d]),(3,.box [u64 t.a,u64 t.b,u64 t.c,u64 t.d]),(4,.box [u64 0,u64 0,u64 0,u64 0]),(6,.val (i64 0))],[],h⟩ _
 have e1:IntKind.i64.wrap (0+1)=1:=by decide
 refine aC ?_
 refine ae rfl ?_
 refine aC ?_
 refine aQ 8 mixed kr ?_
 repeat (first|apply zs|apply zr|apply zn|((first|apply zx|apply zy);·simp only[push_cast,env,Nat.reduceEqDiff,reduceIte,Nat.reduceAdd,Nat.reduceMul,Nat.reduceLeDiff,reduceCtorEq,Nat.reduceSub,Int.reduceToNat,w0,e1,Int.reduceToNat]<;>first|exact rfl|exact .inl rfl|exact .inr rfl) | apply zq|apply zb|apply zo|apply zk|apply zl)
 exact⟨by decide,⟨rfl,rfl,rfl,rfl,trivial⟩,rfl,trivial⟩
·show CW _ _ ⟨[(2,.box [u64 (mq s.a t.a),u64 s.b,u64 s.c,u64 s.d]),(3,.box [u64 t.a,u64 t.b,u64 t.c,u64 t.d]),(4,.box [u64 0,u64 0,u64 0,u64 0]),(6,.val (i64 1))],[],h⟩ _
 have e1:IntKind.i64.wrap (1+1)=2:=by decide
 refine aC ?_
 refine ae rfl ?_
 refine aC ?_
 refine aQ 8 mixed kr ?_
 repeat (first|apply zs|apply zr|apply zn|((first|apply zx|apply zy);·simp only[push_cast,env,Nat.reduceEqDiff,reduceIte,Nat.reduceAdd,Nat.reduceMul,Nat.reduceLeDiff,reduceCtorEq,Nat.reduceSub,Int.reduceToNat,w1,e1,Int.reduceToNat]<;>first|exact rfl|exact .inl rfl|exact .inr rfl) | apply zq|apply zb|apply zo|apply zk|apply zl)
 exact⟨by decide,⟨rfl,rfl,rfl,rfl,trivial⟩,rfl,trivial⟩
·show CW _ _ ⟨[(2,.box [u64 (mq s.a t.a),u64 (mq s.b t.b),u64 s.c,u64 s.d]),(3,.box [u64 t.a,u64 t.b,u64 t.c,u64 t.d]),(4,.box [u64 0,u64 0,u64 0,u64 0]),(6,.val (i64 2))],[],h⟩ _
 have e1:IntKind.i64.wrap (2+1)=3:=by decide
 refine aC ?_
 refine ae rfl ?_
 refine aC ?_
 refine aQ 8 mixed kr ?_
 repeat (first|apply zs|apply zr|apply zn|((first|apply zx|apply zy);·simp only[push_cast,env,Nat.reduceEqDiff,reduceIte,Nat.reduceAdd,Nat.reduceMul,Nat.reduceLeDiff,reduceCtorEq,Nat.reduceSub,Int.reduceToNat,w2,e1,Int.reduceToNat]<;>first|exact rfl|exact .inl rfl|exact .inr rfl) | apply zq|apply zb|apply zo|apply zk|apply zl)
 exact⟨by decide,⟨rfl,rfl,rfl,rfl,trivial⟩,rfl,trivial⟩
·show CW _ _ ⟨[(2,.box [u64 (mq s.a t.a),u64 (mq s.b t.b),u64 (mq s.c t.c),u64 s.d]),(3,.box [u64 t.a,u64 t.b,u64 t.c,u64 t.d]),(4,.box [u64 0,u64 0,u64 0,u64 0]),(6,.val (i64 3))],[],h⟩ _
 have e1:IntKind.i64.wrap (3+1)=4:=by decide
 refine aC ?_
 refine ae rfl ?_
 refine aC ?_
 refine aQ 8 mixed kr ?_
 repeat (first|apply zs|apply zr|apply zn|((first|apply zx|apply zy);·simp only[push_cast,env,Nat.reduceEqDiff,reduceIte,Nat.reduceAdd,Nat.reduceMul,Nat.reduceLeDiff,reduceCtorEq,Nat.reduceSub,Int.reduceToNat,w3,e1,Int.reduceToNat]<;>first|exact rfl|exact .inl rfl|exact .inr rfl) | apply zq|apply zb|apply zo|apply zk|apply zl)
 exact⟨by decide,⟨rfl,rfl,rfl,rfl,trivial⟩,rfl,trivial⟩
·show CW _ _ ⟨[(2,.box [u64 (mq s.a t.a),u64 (mq s.b t.b),u64 (mq s.c t.c),u64 (mq s.d t.d)]),(3,.box [u64 t.a,u64 t.b,u64 t.c,u64 t.d]),(4,.box [u64 0,u64 0,u64 0,u64 0]),(6,.val (i64 4))],[],h⟩ _
 refine aC ?_
 refine af rfl ?_
 refine az ?_
 show CW _ _ _ _
 refine aC ?_
 refine ai ?_
 refine⟨_,ak,?_,rfl⟩
 rfl}
theorem div_pow {w:Int} (hw:pW w) (j:Nat):0≤w / 2 ^ j∧w / 2 ^ j<18446744073709551616:=by{
obtain⟨x,rfl⟩:∃ x:Nat,w=x:=⟨w.toNat,by have:=hw.1;omega⟩
have e:(x:Int) / 2 ^ j=((x / 2 ^ j:Nat):Int):=by simp
have h1:x / 2 ^ j≤x:=Nat.div_le_self _ _
have:=hw.2
rw[e]
generalize x / 2 ^ j=q at h1 ⊢
omega}
def MA (P:Program) (R:TypeId→List Value→Prop):List TypeId→List Value→Prop
 | [],vs=>vs=[]
 | t :: r,vs=>∃ a b,vs=a++b∧a.length=P.cellsOf t∧R t a∧MA P R r b
theorem xZ {P:Program} {R:TypeId→List Value→Prop}:∀ {l:List Field} {vs:List Value},wQ P R l vs→MA P R (l.map (·.type)) vs
 | [],_,h=>h
 | _ :: _,_,⟨a,b,h1,h2,h3,h4⟩=>⟨a,b,h1,h2,h3,xZ h4⟩
theorem tn {α:Type} {c:Nat} {R:List Value→Prop} {f:α→List Value} {Q:α→Prop} (k:∀ vs,R vs→∃ x,vs=f x∧Q x):∀ {m:Nat} {vs:List Value},ui c R m vs→∃ l:List α,l.length=m∧vs=l.flatMap f∧∀ x∈l,Q x
 | 0,vs,h=>⟨[],rfl,h,fun x hx=>by cases hx⟩
 | m+1,vs,⟨a,b,h1,_,h3,h4⟩=>by
   obtain⟨x,rfl,hx⟩:=k a h3
   obtain⟨l,rfl,rfl,hl⟩:=tn k h4
   refine⟨x :: l,rfl,by rw[h1];rfl,fun y hy=>?_⟩
   rcases List.mem_cons.1 hy with rfl|hy
   ·exact hx
   ·exact hl y hy
theorem gH {h:ah} {n:Nat} {t:TypeId} {l:List TypeId} {vs:List Value} (hu:Tryz.prog.underlying t=some (.struct (Tryz.prog.fieldsOf t))) (hl:(Tryz.prog.fieldsOf t).toList.map (·.type)=l) (k:gL Tryz.prog h (n+1) t vs):MA Tryz.prog (gL Tryz.prog h n) l vs:=by{
unfold gL at k
rw[hu] at k
exact hl▸xZ k}
theorem wY {h:ah} {n:Nat} {vs:List Value} (k:gL Tryz.prog h n 3 vs):∃ i,vs=[i64 i]∧(Lit.int .i64 i).wf=true:=by{
cases n with
| zero=>exact k.elim
| succ n=>
  unfold gL at k
  rw[show Tryz.prog.underlying 3=some (.int .i64) by kernel_rfl] at k
  exact k}
theorem Mp {h:ah} {n:Nat} {vs:List Value} (k:gL Tryz.prog h n 52 vs):∃ i,vs=[u64 i]∧pW i:=by{
cases n with
| zero=>exact k.elim
| succ n=>
  unfold gL at k
  rw[show Tryz.prog.underlying 52=some (.int .u64) by kernel_rfl] at k
  obtain⟨i,h1,h2⟩:=k
  simp only[Lit.wf,Bool.and_eq_true,decide_eq_true_eq] at h2
  have e1:IntKind.u64.min=0:=by decide
  have e2:IntKind.u64.max=18446744073709551615:=by decide
  exact⟨i,h1,by omega,by omega⟩}
theorem Gr {h:ah} {n:Nat} {vs:List Value} (k:gL Tryz.prog h n 54 vs):∃ s:aX,vs=s.cells∧du s:=by{
cases n with
| zero=>exact k.elim
| succ n=>
  unfold gL at k
  rw[show Tryz.prog.underlying 54=some (.array 4 52) by kernel_rfl] at k
  obtain⟨l,hl,rfl,hq⟩:=tn (f:=fun i=>[u64 i]) (Q:=fun i=>pW i) (fun vs h=>Mp h) k
  match l,hl with
  | [a,b,c,d],_=>exact⟨⟨a,b,c,d⟩,rfl,hq a (by simp),hq b (by simp),hq c (by simp),hq d (by simp)⟩}
theorem qz {α β:Type}:∀ (z:List (α×β)),(z.map (·.1)).zip (z.map (·.2))=z
 | []=>rfl
 | (a,b) :: z=>by simp [qz z]
abbrev u8 (n:Int):Value:=.int .u8 n
theorem Bw {w:Int} (hw:pW w) {j:Nat} (hj:j<64):IntKind.u64.wrap ((BitVec.ofInt IntKind.u64.bits (w.fdiv (2 ^ (min j IntKind.u64.bits))) &&& BitVec.ofInt IntKind.u64.bits 1).toNat)=w / 2 ^ j % 2:=by{
have hb:IntKind.u64.bits=64:=rfl
rw[hb,Nat.min_eq_left om,Int.fdiv_eq_ediv_of_nonneg _ (Int.pow_nonneg (by decide))]
have h:=div_pow hw j
generalize w / 2 ^ j=q at h
obtain⟨x,rfl⟩:∃ x:Nat,q=x:=⟨q.toNat,by omega⟩
have e1:(BitVec.ofInt 64 (x:Int)).toNat=x:=by
 rw[BitVec.toNat_ofInt]
 have:=Int.emod_eq_of_lt (a:=(x:Int)) (b:=((2 ^ 64:Nat):Int)) om (by have:=h.2;simpa using this)
 rw[this]
 rfl
have e2:(BitVec.ofInt 64 1).toNat=1:=by decide
rw[BitVec.toNat_and,e1,e2,Nat.and_one_is_mod]
rw[wrap_u64 ⟨by omega,by omega⟩]
omega}
theorem BA {h:ah} {s:aX} {b:Nat} (hs:du s) (hb:b<256):FW env 214 [s.val,u8 b] h fun r h'=>r = .bool (s.has b)∧h'=h:=by{
obtain⟨j,hj⟩:∃ j:Nat,j=b % 64:=⟨_,rfl⟩
have hj2:j<64:=by omega
have q2:(b:Int).tmod 64=(j:Int):=by
 rw[Int.tmod_eq_emod_of_nonneg om]
 omega
have q3:((j:Int)<0)=False:=by simp
have ww:=hs.word (b / 64)
have q5:=Bw ww hj2
have hres:s.has b=decide (s.word (b / 64) / 2 ^ j % 2=1):=by
 unfold aX.has
 rw[yJ ww,hj]
have q1:IntKind.u8.wrap ((b:Int).tdiv 64)=((b / 64:Nat):Int):=by
 rw[Int.tdiv_eq_ediv_of_nonneg om]
 unfold IntKind.wrap
 simp only[IntKind.bits,IntKind.signed,Bool.false_and,Bool.false_eq_true,if_false]
 omega
rw[hres]
refine fe Tryz.func214 ?_;simp only[push_cast]
rcases (by omega:b / 64=0∨b / 64=1∨b / 64=2∨b / 64=3) with e|e|e|e
all_goals
 rw[e] at q1 q5 ⊢
 simp only[aX.word] at q5 ⊢
·rw[show ((0:Nat):Int)=0 from rfl] at q1
 repeat (first|apply zs|apply zr|apply zn|((first|apply zx|apply zy);·simp only[push_cast,env,Nat.reduceEqDiff,reduceIte,Nat.reduceAdd,Nat.reduceMul,Nat.reduceLeDiff,reduceCtorEq,Nat.reduceSub,Int.reduceToNat,q1,q2,q3,q5,Int.reduceEq,Int.reduceLT,Int.reduceLE,Nat.mul_one]<;>first|exact rfl|exact .inl rfl|exact .inr rfl) | apply zq|apply zb|apply zo|apply zk|apply zl)
 refine ai ?_
 exact⟨_,ak,rfl,rfl⟩
·rw[show ((1:Nat):Int)=1 from rfl] at q1
 repeat (first|apply zs|apply zr|apply zn|((first|apply zx|apply zy);·simp only[push_cast,env,Nat.reduceEqDiff,reduceIte,Nat.reduceAdd,Nat.reduceMul,Nat.reduceLeDiff,reduceCtorEq,Nat.reduceSub,Int.reduceToNat,q1,q2,q3,q5,Int.reduceEq,Int.reduceLT,Int.reduceLE,Nat.mul_one]<;>first|exact rfl|exact .inl rfl|exact .inr rfl) | apply zq|apply zb|apply zo|apply zk|apply zl)
 refine ai ?_
 exact⟨_,ak,rfl,rfl⟩
·rw[show ((2:Nat):Int)=2 from rfl] at q1
 repeat (first|apply zs|apply zr|apply zn|((first|apply zx|apply zy);·simp only[push_cast,env,Nat.reduceEqDiff,reduceIte,Nat.reduceAdd,Nat.reduceMul,Nat.reduceLeDiff,reduceCtorEq,Nat.reduceSub,Int.reduceToNat,q1,q2,q3,q5,Int.reduceEq,Int.reduceLT,Int.reduceLE,Nat.mul_one]<;>first|exact rfl|exact .inl rfl|exact .inr rfl) | apply zq|apply zb|apply zo|apply zk|apply zl)
 refine ai ?_
 exact⟨_,ak,rfl,rfl⟩
·rw[show ((3:Nat):Int)=3 from rfl] at q1
 repeat (first|apply zs|apply zr|apply zn|((first|apply zx|apply zy);·simp only[push_cast,env,Nat.reduceEqDiff,reduceIte,Nat.reduceAdd,Nat.reduceMul,Nat.reduceLeDiff,reduceCtorEq,Nat.reduceSub,Int.reduceToNat,q1,q2,q3,q5,Int.reduceEq,Int.reduceLT,Int.reduceLE,Nat.mul_one]<;>first|exact rfl|exact .inl rfl|exact .inr rfl) | apply zq|apply zb|apply zo|apply zk|apply zl)
 refine ai ?_
 exact⟨_,ak,rfl,rfl⟩}
end Go.Proofs.YtmdmimkbpikmoaaGreat
namespace Go.Proofs.YtmdmimkbpikmoaaGreat.Pr
set_option maxRecDepth 20000
open Go.RowKit Go.Shelf Am Ty
attribute [local go_sem] Oper.semAt_some
noncomputable def env:Env:=⟨Tryz.prog,YtmdmimkbpikmoaaGreat.env.KU,jB,fun _ _ _=>none⟩
@[push_cast] theorem PU:env.P=Tryz.prog:=rfl
theorem Ah:mC env:=⟨EE,sT,fun f args h r h' e=>by cases e⟩
theorem BA {h:ah} {s:aX} {b:Nat} (hs:du s) (hb:b<256):FW env 214 [s.val,u8 b] h fun r h'=>r = .bool (s.has b)∧h'=h:=by{
obtain⟨j,hj⟩:∃ j:Nat,j=b % 64:=⟨_,rfl⟩
have hj2:j<64:=by omega
have q2:(b:Int).tmod 64=(j:Int):=by
 rw[Int.tmod_eq_emod_of_nonneg om]
 omega
have q3:((j:Int)<0)=False:=by simp
have ww:=hs.word (b / 64)
have q5:=Bw ww hj2
have hres:s.has b=decide (s.word (b / 64) / 2 ^ j % 2=1):=by
 unfold aX.has
 rw[yJ ww,hj]
have q1:IntKind.u8.wrap ((b:Int).tdiv 64)=((b / 64:Nat):Int):=by
 rw[Int.tdiv_eq_ediv_of_nonneg om]
 unfold IntKind.wrap
 simp only[IntKind.bits,IntKind.signed,Bool.false_and,Bool.false_eq_true,if_false]
 omega
rw[hres]
refine fe Tryz.func214 ?_;simp only[push_cast]
rcases (by omega:b / 64=0∨b / 64=1∨b / 64=2∨b / 64=3) with e|e|e|e
all_goals
 rw[e] at q1 q5 ⊢
 simp only[aX.word] at q5 ⊢
·rw[show ((0:Nat):Int)=0 from rfl] at q1
 repeat (first|apply zs|apply zr|apply zn|((first|apply zx|apply zy);·simp only[push_cast,env,Nat.reduceEqDiff,reduceIte,Nat.reduceAdd,Nat.reduceMul,Nat.reduceLeDiff,reduceCtorEq,Nat.reduceSub,Int.reduceToNat,q1,q2,q3,q5,Int.reduceEq,Int.reduceLT,Int.reduceLE,Nat.mul_one]<;>first|exact rfl|exact .inl rfl|exact .inr rfl) | apply zq|apply zb|apply zo|apply zk|apply zl)
 refine ai ?_
 exact⟨_,ak,rfl,rfl⟩
·rw[show ((1:Nat):Int)=1 from rfl] at q1
 repeat (first|apply zs|apply zr|apply zn|((first|apply zx|apply zy);·simp only[push_cast,env,Nat.reduceEqDiff,reduceIte,Nat.reduceAdd,Nat.reduceMul,Nat.reduceLeDiff,reduceCtorEq,Nat.reduceSub,Int.reduceToNat,q1,q2,q3,q5,Int.reduceEq,Int.reduceLT,Int.reduceLE,Nat.mul_one]<;>first|exact rfl|exact .inl rfl|exact .inr rfl) | apply zq|apply zb|apply zo|apply zk|apply zl)
 refine ai ?_
 exact⟨_,ak,rfl,rfl⟩
·rw[show ((2:Nat):Int)=2 from rfl] at q1
 repeat (first|apply zs|apply zr|apply zn|((first|apply zx|apply zy);·simp only[push_cast,env,Nat.reduceEqDiff,reduceIte,Nat.reduceAdd,Nat.reduceMul,Nat.reduceLeDiff,reduceCtorEq,Nat.reduceSub,Int.reduceToNat,q1,q2,q3,q5,Int.reduceEq,Int.reduceLT,Int.reduceLE,Nat.mul_one]<;>first|exact rfl|exact .inl rfl|exact .inr rfl) | apply zq|apply zb|apply zo|apply zk|apply zl)
 refine ai ?_
 exact⟨_,ak,rfl,rfl⟩
·rw[show ((3:Nat):Int)=3 from rfl] at q1
 repeat (first|apply zs|apply zr|apply zn|((first|apply zx|apply zy);·simp only[push_cast,env,Nat.reduceEqDiff,reduceIte,Nat.reduceAdd,Nat.reduceMul,Nat.reduceLeDiff,reduceCtorEq,Nat.reduceSub,Int.reduceToNat,q1,q2,q3,q5,Int.reduceEq,Int.reduceLT,Int.reduceLE,Nat.mul_one]<;>first|exact rfl|exact .inl rfl|exact .inr rfl) | apply zq|apply zb|apply zo|apply zk|apply zl)
 refine ai ?_
 exact⟨_,ak,rfl,rfl⟩}
theorem has_eq {s:aX} {n:Nat} (h:n<256):s.has n=nc s.a s.b s.c s.d n:=by
 unfold aX.has nc sd aX.word
 rcases (by omega:n / 64=0∨n / 64=1∨n / 64=2∨n / 64=3) with e|e|e|e<;>rw[e]<;>rfl
variable (has:Nat→Bool)
set_option maxRecDepth 100000 in
theorem Il (b:Nat) (w:World) (h0:w.cell? ⟨b,0,none⟩=some (.pointer (some ⟨b,0,none⟩))) : Calls Tryz.prog 205 #[.pointer (some ⟨b,0,none⟩)] w fun e w'=>e = .returned (.tuple #[])∧w'=w:=by{
have hj:∃ j,Tryz.prog.info? 228=some j:=⟨_,rfl⟩
obtain⟨j,hj⟩:=hj
refine calls_of_wp Tryz.func205 rfl ?_
simp only[Tryz.ntmps205,List.size_toArray,List.length_cons,List.length_nil,Nat.reduceAdd,Nat.reduceSub,Array.replicate_succ,Array.replicate_zero,List.push_toArray,List.append_toArray,List.nil_append,List.cons_append]
go_wp2
rw[Lib.run_neq_ptr_same w _ Tryz.underlying226 hj]
go_wp2
go_end0
exact⟨rfl,rfl⟩}
set_option maxRecDepth 100000 in
theorem Eu (b k:Nat) (w:World) (hk:0<k) (h0:w.cell? ⟨b,0,none⟩=some (.pointer none)) (hsh:w.shape? b=some (228,k)) (hfz:w.frozen? ⟨b,0,none⟩=false) (hl:liesAt Tryz.prog Tryz.prog.depth 228 (k / Tryz.prog.cellsOf 228) 0 228 1=true) : Calls Tryz.prog 205 #[.pointer (some ⟨b,0,none⟩)] w fun e w'=>e = .returned (.tuple #[])∧w'=w.setCell ⟨b,0,none⟩ (.pointer (some ⟨b,0,none⟩)):=by{
obtain⟨j,hj,hjs⟩:∃ j,Tryz.prog.info? 228=some j∧j.size≠0:=by
 have:(Tryz.prog.info? 228).map (·.size)=some 2:=by kernel_rfl
 obtain⟨j,hj,hjs⟩:=Option.map_eq_some_iff.1 this
 exact⟨j,hj,by rw[hjs];decide⟩
refine calls_of_wp Tryz.func205 rfl ?_
simp only[Tryz.ntmps205,List.size_toArray,List.length_cons,List.length_nil,Nat.reduceAdd,Nat.reduceSub,Array.replicate_succ,Array.replicate_zero,List.push_toArray,List.append_toArray,List.nil_append,List.cons_append]
go_wp2
rw[Lib.run_to_unsafe w ⟨b,0,none⟩ Tryz.underlying226 Tryz.underlying263 hj hjs hsh hk]
simp only[Result.andThen]
rw[Oper.upon_value]
go_wp2
rw[run_callFunc_extern Tryz.func215 kr kr kr (e:=Extern.AbiNoEscape.same) kr]
rw[Lib.run_noEscape]
simp only[Result.andThen]
rw[Oper.upon_value]
go_wp2
rw[Lib.run_from_unsafe w ⟨b,0,none⟩ Tryz.underlying263 Tryz.underlying226 hj hsh hl]
simp only[Result.andThen]
rw[Oper.upon_value]
go_wp2
go_end0
exact⟨rfl,rfl⟩}
theorem Dy {P:Program} {e:TypeId} (hc:P.cellsOf e=2) (count:Nat) (hn:1≤count):liesAt P P.depth e count 0 e 1=true:=by{
have hd:P.depth=(2*(P.types.size+Made.depth)+1)+1:=rfl
rw[hd]
simp only[liesAt,Bool.or_eq_true]
left
rw[hd]
simp [rowAt,hc,hn,sameLayout]}
variable (has:Nat→Bool)
theorem nJ {k:Nat} (h:k<256):bQ has (k+1)=if has k then bQ has k++[⟨k,h⟩] else bQ has k:=by
 simp only[bQ,dif_pos h]
theorem jA (k:Nat):(bQ has k).length≤k:=by{
induction k with
| zero=>simp [bQ]
| succ k ih=>
  simp only[bQ]
  split
  ·split
   ·simp only[List.length_append,List.length_cons,List.length_nil];omega
   ·omega
  ·omega}
abbrev Hx (x:Nat):Value:=.int .u8 x
def sK (a b c d:Int):Value:=.agg #[.int .u64 a,.int .u64 b,.int .u64 c,.int .u64 d]
structure zH (n₀ Bn:Nat) (W W':World):Prop where
 below:Below n₀ W W'
 eF:W'.heap[Bn]? = W.heap[Bn]?
theorem zH.trans {n₀ Bn:Nat} {A B C:World} (h:zH n₀ Bn A B) (k:zH n₀ Bn B C):zH n₀ Bn A C:=⟨h.below.trans k.below,k.eF.trans h.eF⟩
theorem zH.refl (n₀ Bn:Nat) (A:World):zH n₀ Bn A A:=⟨Below.refl _ _,rfl⟩
theorem zH.of {n₀ Bn:Nat} {A B:World} (h:Below A.heap.size A B) (hn:n₀≤A.heap.size) (hb:Bn<A.heap.size):zH n₀ Bn A B:=⟨h.mono hn,h.block Bn hb⟩
theorem wrap_u8 {k:Nat} (h:k<256):IntKind.u8.wrap (k:Int)=k:=by{
unfold IntKind.wrap
simp only[IntKind.bits,IntKind.signed,Bool.false_and,Bool.false_eq_true,if_false]
omega}
set_option maxRecDepth 100000 in
theorem Kp (a b c d:Int) (hh:∀ (w:World) (x:Nat),x<256→Calls Tryz.prog 214 #[sK a b c d,Hx x] w fun e w'=>e = .returned (.bool (has x))∧Below w.heap.size w w') (n:Nat) (hn:1≤n) (l Bn n₀:Nat) (J Jx:List (Fin 256)→World→Prop) (hY:∀ (pre:List (Fin 256)) (x:Fin 256) W,J pre W→pre.length<257→YieldAt Fence.wide (n-1) Tryz.prog l #[Hx x.1] W fun e W'=> (e = .returned (.bool true)∧J (pre++[x]) W'∧zH n₀ Bn W W')∨(e = .returned (.bool false)∧Jx (pre++[x]) W')) (W:World) (hn0:n₀≤W.heap.size) (hBW:Bn<W.heap.size) (h0c:W.cell? ⟨Bn,0,none⟩=some (.int .u64 a)) (h1c:W.cell? ⟨Bn,1,none⟩=some (.int .u64 b)) (h2c:W.cell? ⟨Bn,2,none⟩=some (.int .u64 c)) (h3c:W.cell? ⟨Bn,3,none⟩=some (.int .u64 d)) (hJ:AbidesFrom W.heap.size J) (h0:J [] W) : CallsIn Fence.wide n Tryz.prog 213 #[.func (.yield l) #[] #[],.pointer (some ⟨Bn,0,none⟩)] W fun e W'=>(∃ v,e = .returned v) ∧ ((∃ ys,ys=bQ has 256∧J ys W')∨(∃ pre,True∧Jx pre W')):=by{
refine callsIn_of_wp Tryz.func213 rfl trivial ?_ rfl
simp only[Tryz.ntmps213,List.size_toArray,List.length_cons,List.length_nil,Nat.reduceAdd,Nat.reduceSub,Array.replicate_succ,Array.replicate_zero,List.push_toArray,List.append_toArray,List.nil_append,List.cons_append]
gi_wp2
gi_loopw [3] (fun p wr=>∃ k:Nat,k≤256∧p = .int .i64 k∧J (bQ has k) wr∧zH n₀ Bn W wr) (fun i _=>256-(intOf i).toNat)
case atStart=>exact⟨0,by omega,rfl,h0,zH.refl _ _ _⟩
case round=>
 obtain⟨k,hk,rfl,hJs,hnx⟩:=hrel
 have c0:=(World.cell?_of_block (a:=⟨Bn,0,none⟩) hnx.eF).trans h0c
 have c1:=(World.cell?_of_block (a:=⟨Bn,1,none⟩) hnx.eF).trans h1c
 have c2:=(World.cell?_of_block (a:=⟨Bn,2,none⟩) hnx.eF).trans h2c
 have c3:=(World.cell?_of_block (a:=⟨Bn,3,none⟩) hnx.eF).trans h3c
 by_cases hlt:k<256
 ·have hwr:=wrap_u8 hlt
  have hgr:∀ {A B:World},Below A.heap.size A B→A.grownBy B none:=fun {A B} h=>⟨h.os,h.tape,h.output,h.size,fun j hj _=>h.block j hj⟩
  have hlen:(bQ has k).length<257:=Nat.lt_of_le_of_lt (jA has k) om
  cases hb:has k with
  | true=>
    have hs:=nJ has hlt
    rw[hb,if_pos rfl] at hs
    have hhk:=hh
    gi_wp2_with (refine⟨trivial,?_⟩;gi_at_call 214;refine (callsIn_wide.2 (hh _ k hlt)).mono ?_;clear hh;rw[hb];rintro e w' ⟨rfl,hbw⟩;have hJ':=hJ _ wr w' none hJs (hgr hbw) (fun r h=>by cases h);obtain⟨fn,tmps,assign,body,hy,hR⟩:=hY _ ⟨k,hlt⟩ w' hJ' hlen)
    refine hR.mono ?_
    rintro e W3 (⟨rfl,hJ3,hk3⟩ | ⟨rfl,hJx3⟩)
    ·gi_wp2
     go_roundw
     case rel=>exact⟨k+1,by omega,by simp,by rw[hs];exact hJ3,hnx.trans ((zH.of hbw (by have:=hnx.below.size;omega) (by have:=hnx.below.size;omega)).trans hk3)⟩
     case measure=>simp [intOf];omega
    ·gi_wp2
     refine bodyPost_ret (results_none rfl _ _ _) rfl ?_
     exact⟨⟨_,rfl⟩,.inr ⟨_,trivial,hJx3⟩⟩
  | false=>
    have hs:=nJ has hlt
    rw[hb,if_neg (by decide)] at hs
    gi_wp2_with (refine⟨trivial,?_⟩;gi_at_call 214;refine (callsIn_wide.2 (hh _ k hlt)).mono ?_;clear hh;rw[hb];rintro e w' ⟨rfl,hbw⟩;have hJ':=hJ _ wr w' none hJs (hgr hbw) (fun r h=>by cases h))
    refine⟨fun _ h=>(by cases h),?_⟩
    gi_wp2
    go_roundw
    case rel=>exact⟨k+1,by omega,by simp,by rw[hs];exact hJ',hnx.trans (zH.of hbw (by have:=hnx.below.size;omega) (by have:=hnx.below.size;omega))⟩
    case measure=>simp [intOf];omega
 ·obtain rfl:k=256:=by omega
  gi_wp2
  go_end0
  exact⟨⟨_,rfl⟩,.inl ⟨_,rfl,hJs⟩⟩}
theorem Mh (n:Nat) (a b c d:Int) (w:World) : CallsIn Fence.wide n Tryz.prog 204 #[sK a b c d] w fun e w'=>e = .returned (.func (.func 213) #[] #[.pointer (some ⟨w.heap.size,0,none⟩)])∧w'=w.alloc (.cells #[.int .u64 a,.int .u64 b,.int .u64 c,.int .u64 d] 54):=by{
refine callsIn_of_wp Tryz.func204 rfl trivial ?_ rfl
simp only[Tryz.ntmps204,List.size_toArray,List.length_cons,List.length_nil,Nat.reduceAdd,Nat.reduceSub,Array.replicate_succ,Array.replicate_zero,List.push_toArray,List.append_toArray,List.nil_append,List.cons_append]
unfold sK
gi_wp2
go_ret
exact⟨rfl,rfl⟩}
theorem Ek (a b c d:Int) (hh:∀ (w:World) (x:Nat),x<256→Calls Tryz.prog 214 #[sK a b c d,Hx x] w fun e w'=>e = .returned (.bool (has x))∧Below w.heap.size w w')
 (n:Nat) (hn:1≤n) (Bn n₀:Nat) (w:World) (hBn:Bn<w.heap.size) (hn0:n₀≤w.heap.size) (hc:w.heap[Bn]? = some (.cells #[.int .u64 a,.int .u64 b,.int .u64 c,.int .u64 d] 54 (0,0))) :
 SeqStopsK Fence.wide n Tryz.prog 213 #[.pointer (some ⟨Bn,0,none⟩)] (fun x:Fin 256=>#[Hx x.1]) (zH n₀ Bn) (fun ys=>ys=bQ has 256) (fun _=>True) 257 w:=fun l J Jx W hW hJ _ hY h0=>by
 have hW':=hW.block Bn om
 rw[hc] at hW'
 have hcell:∀ j v,(#[Value.int .u64 a,.int .u64 b,.int .u64 c,.int .u64 d]:Array Value)[j]? = some v→W.cell? ⟨Bn,j,none⟩=some v:=fun j v hj=>by simp only[World.cell?,hW'];exact hj
 exact Kp has a b c d hh n hn l Bn n₀ J Jx hY W (by have:=hW.size;omega) (by have:=hW.size;omega) (hcell 0 _ rfl) (hcell 1 _ rfl) (hcell 2 _ rfl) (hcell 3 _ rfl) hJ h0
theorem pV (bs:List (Fin 256)) (x:Fin 256):b9 (bs++[x])=jd (b9 bs) x.1:=by simp [b9]
theorem kS (l:List (Nat×Nat)):(dt l).length=2*l.length:=by{
induction l with
| nil=>rfl
| cons x l ih=>simp only[dt,List.flatMap_cons,List.length_append,List.length_cons,List.length_nil] at ih ⊢;omega}
theorem ku (l m:List (Nat×Nat)):dt (l++m)=dt l++dt m:=by simp [dt]
theorem E6 {α:Type} {p:List α→Prop} (h0:p []) (h1:∀ l x,p l→p (l++[x])) (l:List α):p l:=by{
have:∀ r:List α,p r.reverse:=fun r=>by
 induction r with
 | nil=>exact h0
 | cons x r ih=>rw[List.reverse_cons];exact h1 _ _ ih
have:=this l.reverse
rwa [List.reverse_reverse] at this}
theorem nY (bs:List (Fin 256)):(b9 bs).length≤bs.length∧∀ p∈b9 bs,p.2<256:=by{
induction bs using E6 with
| h0=>simp [b9]
| h1 bs x ih=>
  rw[pV]
  obtain⟨h1,h2⟩:=ih
  unfold jd
  split
  ·rename_i lo hi hl
   have hne:b9 bs≠[]:=by rintro e;rw[e] at hl;simp at hl
   have:0<(b9 bs).length:=List.length_pos_iff.2 hne
   split
   ·refine⟨by simp only[List.length_append,List.length_dropLast,List.length_cons,List.length_nil];omega,fun p hp=>?_⟩
    rcases List.mem_append.1 hp with hp|hp
    ·exact h2 p (List.dropLast_subset _ hp)
    ·obtain rfl:p=(lo,x.1):=by simpa using hp
     exact x.2
   ·refine⟨by simp only[List.length_append,List.length_cons,List.length_nil];omega,fun p hp=>?_⟩
    rcases List.mem_append.1 hp with hp|hp
    ·exact h2 p hp
    ·obtain rfl:p=(x.1,x.1):=by simpa using hp
     exact x.2
  ·exact⟨by simp,fun p hp=>by obtain rfl:p=(x.1,x.1):=by simpa using hp
                              exact x.2⟩}
theorem Ia:(Tryz.prog.info? 214).map (fun i=>(i.zero,i.size,i.bytes))=some (some (.agg #[.int .i64 0,.int .i64 0]),2,16):=by kernel_rfl
theorem Gt {w:World} {base:Nat} {e:TypeId} {g n cap off:Nat} {xs ys:List Value} {v:Value} (h:w.ownsRow base e 2 (.slice (some ⟨g,0,none⟩) n cap) n xs) (hy:ys=xs.set off v):(w.setCell ⟨g,off,none⟩ v).ownsRow base e 2 (.slice (some ⟨g,0,none⟩) n cap) n ys:=by{
obtain⟨h1,h2⟩:=h
rcases h2 with ⟨h2,_⟩ | ⟨g',cap',cur,hv,hb,hg,h3,h4,h5,h6⟩
·cases h2
·cases hv
 have hlt:g<w.heap.size:=(Array.getElem?_eq_some_iff.1 hg).1
 refine⟨by rw[hy,List.length_set,h1],.inr ⟨g,cap,cur.setIfInBounds off v,rfl,hb,?_,h3,h4,by simpa using h5,?_⟩⟩
 ·show (w.heap.modify g _)[g]? = _
  rw[Array.getElem?_modify,if_pos rfl,hg]
  simp
 ·rw[hy,← h6,Array.toList_setIfInBounds,List.take_set]}
theorem As (l:List (Nat×Nat)) (lo hi x:Nat):dt (l++[(lo,x)])=(dt (l++[(lo,hi)])).set (2*l.length+1) (.int .i64 x):=by{
rw[ku,ku,List.set_append_right _ _ (by rw[kS];omega),kS]
simp only[show 2*l.length+1-2*l.length=1 by omega]
rfl}
theorem A0 (l:List (Nat×Nat)) (lo hi:Nat):(dt (l++[(lo,hi)]))[2*l.length+1]? = some (.int .i64 hi):=by{
rw[ku,List.getElem?_append_right (by rw[kS];omega),kS]
simp only[show 2*l.length+1-2*l.length=1 by omega]
rfl}
theorem rQ (l:List (Nat×Nat)) (lo hi b:Nat):jd (l++[(lo,hi)]) b=if hi+1=b then l++[(lo,b)] else l++[(lo,hi)]++[(b,b)]:=by simp [jd]
theorem SI {w:World} {n₀ Bn:Nat} (hn:n₀≤w.heap.size) (hb:Bn<w.heap.size):∀ (W:World) (l:Nat) (o o':Obj),w.heap.size≤l→W.heap[l]? = some o→o.isCells=false→o.isWalk=false→zH n₀ Bn W (W.putObj l o'):=fun W l o o' h1 h2 h3 h4=>
 ⟨belowK_b hn W l o o' h1 h2 h3 h4,(grownBy_putObj' W l o').block Bn (by have:=(Array.getElem?_eq_some_iff.1 h2).1;omega) (fun e=>by cases e;omega)⟩
theorem BB (w:World) (x y:Value) (t:TypeId):∀ (j:Nat) (u:Value),[x,y][j]? = some u→(w.alloc (.cells #[x,y] t)).cell? ((⟨w.heap.size,0,none⟩:Addr).add j)=some u:=by{
intro j u hj
have hn:=World.alloc_heap_new w (.cells #[x,y] t)
match j,hj with
| 0,hj=>simp at hj;subst hj;simp only[World.cell?,Addr.add,if_true,hn];rfl
| 1,hj=>simp at hj;subst hj;rw[Addr.add_lit];simp only[World.cell?,hn];rfl
| j+2,hj=>simp at hj}
theorem BK {W:World} {base n b:Nat} {v:Value} {xs:List Value} {cs:Array Value} (h:W.ownsRow base 214 2 v n xs) (hb:W.heap[b]? = some (.cells cs 54 (0,0))):v.ownBlock≠some b:=by{
intro e
rcases h.2 with ⟨rfl,_⟩ | ⟨g,cap,cur,rfl,_,hg,_⟩
·simp [Value.ownBlock] at e
·have:g=b:=by simpa [Value.ownBlock] using e
 subst this
 rw[hb] at hg
 simp at hg}
theorem HC {b:Nat} {cs:Array Value} {t:TypeId}:Own (fun (_:List (Fin 256)) W=>W.heap[b]? = some (.cells cs t (0,0))):=by{
rintro s X Y row h hg hrow
rw[hg.block b (Array.getElem?_eq_some_iff.1 h).1 (fun e=>by
 obtain⟨o,ho,hc⟩:=hrow b e.symm
 rw[h] at ho;cases ho;cases hc)]
exact h}
def La (v:Value):Prop:=v = .slice none 0 0
theorem xQ {v:Value} (hv:La v) (W:World):(Builtin.len_ #[210] 3 #[v]).run Tryz.prog W = .ok (.int .i64 0) W:=by
 simp [show v = .slice none 0 0 from hv,Builtin.len_,run_underlying Tryz.underlying210,goInt]
set_option maxRecDepth 100000 in
theorem HD (a b c d:Int) (hh:∀ (w:World) (x:Nat),x<256→Calls Tryz.prog 214 #[sK a b c d,Hx x] w fun e w'=>e = .returned (.bool (has x))∧Below w.heap.size w w') (w:World) : CallsIn Fence.wide 3 Tryz.prog 175 #[sK a b c d] w fun e W'=>∃ v,e = .returned v∧W'.ownsRow w.heap.size 214 2 v (b9 (bQ has 256)).length (dt (b9 (bQ has 256)))∧(v = .slice none 0 0↔b9 (bQ has 256)=[])∧Below w.heap.size w W':=by{
obtain⟨i0,hi,hz0,hz1,hz2⟩:=info_parts Ia
refine callsIn_of_wp_marks Tryz.func175 rfl trivial ?_ rfl
simp only[Tryz.ntmps175,List.size_toArray,List.length_cons,List.length_nil,Nat.reduceAdd,Nat.reduceSub,Array.replicate_succ,Array.replicate_zero,List.push_toArray,List.append_toArray,List.nil_append,List.cons_append]
have hall:=fun W=>Mh (3-1) a b c d W
unfold sK at hall ⊢
gi_wp2_with (refine⟨trivial,?_⟩;gi_at_call 204;refine (hall _).mono ?_;clear hall;rintro e w' ⟨rfl,rfl⟩)
have bO:Boxed (((w.alloc (.cells #[.int .u64 a,.int .u64 b,.int .u64 c,.int .u64 d] 54)).alloc (.cells #[.slice none 0 0] 210)).alloc (.cells #[.int .u64 a,.int .u64 b,.int .u64 c,.int .u64 d] 54)) (w.heap.size+1) 210 (.slice none 0 0):=by
 have:=(Boxed.new (w.alloc (.cells #[.int .u64 a,.int .u64 b,.int .u64 c,.int .u64 d] 54)) 210 (.slice none 0 0)).alloc (.cells #[.int .u64 a,.int .u64 b,.int .u64 c,.int .u64 d] 54)
 rwa [World.size_alloc] at this
have bN:(((w.alloc (.cells #[.int .u64 a,.int .u64 b,.int .u64 c,.int .u64 d] 54)).alloc (.cells #[.slice none 0 0] 210)).alloc (.cells #[.int .u64 a,.int .u64 b,.int .u64 c,.int .u64 d] 54)).heap[w.heap.size+2]? = some (.cells #[.int .u64 a,.int .u64 b,.int .u64 c,.int .u64 d] 54 (0,0)):=by
 have:=World.alloc_heap_new ((w.alloc (.cells #[.int .u64 a,.int .u64 b,.int .u64 c,.int .u64 d] 54)).alloc (.cells #[.slice none 0 0] 210)) (.cells #[.int .u64 a,.int .u64 b,.int .u64 c,.int .u64 d] 54)
 simpa using this
have hB0:Below w.heap.size w (((w.alloc (.cells #[.int .u64 a,.int .u64 b,.int .u64 c,.int .u64 d] 54)).alloc (.cells #[.slice none 0 0] 210)).alloc (.cells #[.int .u64 a,.int .u64 b,.int .u64 c,.int .u64 d] 54)):=(((Below.refl _ w).alloc (Nat.le_refl _) _).alloc (by simp) _).alloc (by simp;omega) _
obtain⟨W0,hW0⟩:∃ W0,(((w.alloc (.cells #[.int .u64 a,.int .u64 b,.int .u64 c,.int .u64 d] 54)).alloc (.cells #[.slice none 0 0] 210)).alloc (.cells #[.int .u64 a,.int .u64 b,.int .u64 c,.int .u64 d] 54))=W0:=⟨_,rfl⟩
have hsz:W0.heap.size=w.heap.size+3:=by rw[← hW0];simp
rw[hW0] at bO bN hB0 ⊢
refine wpIn_rangeFunc_ownG rfl (by decide) (gf:=213) (lb:=#[.pointer (some ⟨w.heap.size+2,0,none⟩)]) rfl trivial (enters_of Tryz.func213 kr rfl)
 (Ek has a b c d hh (3-1) (by decide) (w.heap.size+2) w.heap.size W0 om om bN) (zH.trans) (SI om om) (Below.refl _ _) (fun _=>rfl)
 (fun pre W=>(∃ v,Boxed W (w.heap.size+1) 210 v∧W.ownsRow w.heap.size 214 2 v (b9 pre).length (dt (b9 pre))∧(v = .slice none 0 0↔b9 pre=[]))∧(Below w.heap.size W0 W∧W.heap[w.heap.size+2]? = some (.cells #[.int .u64 a,.int .u64 b,.int .u64 c,.int .u64 d] 54 (0,0))))
 (fun _ _ _=>False)
 (OwnFrom.and (Own.from (holdsRow_own w.heap.size (w.heap.size+1) 210 214 2 (fun pre=>(b9 pre).length) (fun pre=>dt (b9 pre)) (fun pre v=>v = .slice none 0 0↔b9 pre=[])) _) (OwnFrom.and (ownFrom_below om om) (Own.from HC _)))
 (fun _ _ _ _ _ hs _ _=>hs)
 ⟨⟨_,bO,World.ownsRow_nil _ _ _ _,by simp [b9]⟩,Below.refl _ _,bN⟩
 (fun x=>{ tmps:=#[.agg #[.int .u64 a,.int .u64 b,.int .u64 c,.int .u64 d],.pointer (some ⟨w.heap.size,0,none⟩),.slice none 0 0,.pointer (some ⟨w.heap.size+1,0,none⟩),Hx x.1,undef,.agg #[.int .u64 a,.int .u64 b,.int .u64 c,.int .u64 d],.func (.func 213) #[] #[.pointer (some ⟨w.heap.size+2,0,none⟩)],Hx x.1,undef,undef,undef,undef,undef,undef,undef,undef,undef,undef,undef,undef,undef,undef,undef,undef,undef,undef,undef,undef,undef,undef,undef,undef,undef,undef,undef,undef,undef,undef,undef,undef],defers:=[] }) ?assign ?body ?done ?stop
case assign=>
 intro l x W K hK
 gi_wp2
 exact hK
case body=>
 rintro l pre x W ⟨⟨v,hv,hrow,hnil⟩,hB,hN⟩ hlt
 have hc:=hv.cell
 have hx:=x.2
 have hlen:=(nY pre).1
 have hlen2:(b9 pre).length≤257:=by omega
 have hrs:=pV pre x
 have hbd:=(nY pre).2
 have hBs:=hB.size
 have hfzc:∀ {A:World} {g n cap:Nat} {xs:List Value},A.ownsRow w.heap.size 214 2 (.slice (some ⟨g,0,none⟩) n cap) n xs→∀ j,A.frozen? ⟨g,j,none⟩=false:=fun {A g n cap xs} h j=>by
  rcases h.2 with ⟨h2,_⟩ | ⟨g',cap',cur,hv,_,hg,_⟩
  ·cases h2
  ·cases hv
   simp [World.frozen?,hg]
 rcases List.eq_nil_or_concat (b9 pre) with hr|⟨rs,⟨lo,hi2⟩,hr⟩
 ·have hveq:La v:=hnil.2 hr
  have e1:b9 (pre++[x])=[(x.1,x.1)]:=by rw[hrs,hr];rfl
  rw[hr] at hrow
  clear hnil hlen hlen2 hbd hh hfzc hlt hrs hr
  gi_wp2
  rw[xQ hveq W]
  simp only[Result.andThen]
  rw[Oper.uponIn_value]
  gi_wp2_with (gi_at_builtin;refine wpListIn_append_own _ rfl _ _ 210 rfl w.heap.size 214 i0 (.agg #[.int .i64 0,.int .i64 0]) 2 16 Tryz.underlying210 hi hz0 hz1 hz2 rfl (by decide) _ _ _ rfl (hrow.alloc _) ⟨W.heap.size,0,none⟩ 1 1 [.int .i64 x.1,.int .i64 x.1] rfl rfl (BB _ _ _ _) (by simp [Value.oneCell']) (by simp [maxLen]) (by decide) (by simp;omega) ?_;intro v' w1 hown' hgrow _;obtain⟨g',cap',rfl⟩:=ownsRow_succ hown';obtain⟨hv1,hv2,hr2,hk2,hb2⟩:=hv.appended (by decide) hrow om om hown' hgrow;have hc1:=hv1.cell;have hf1:=hv1.frozen)
  have hnb:=BK hrow hN
  have hN1:(w1.setCell ⟨w.heap.size+1,0,none⟩ (.slice (some ⟨g',0,none⟩) 1 cap')).heap[w.heap.size+2]? = W.heap[w.heap.size+2]?:=by
   rw[Below.heap_setCell _ _ _ _ (by simp),hgrow.block _ (by simp;omega) (fun e=>hnb e.symm),Below.heap_alloc _ _ _ om]
  exact⟨hk2.from _,⟨hb2,hN1⟩,⟨_,hv2,by rw[e1];simpa [dt] using hr2,by rw[e1];simp⟩,hB.trans hb2,hN1.trans hN⟩
 ·rw[List.concat_eq_append] at hr
  rw[hr] at hrow hbd hlen2
  have hk:rs.length≤256:=by simp only[List.length_append,List.length_cons,List.length_nil] at hlen2;omega
  have hh2:hi2<256:=hbd (lo,hi2) (by simp)
  have hl1:(rs++[(lo,hi2)]).length=rs.length+1:=by simp
  rw[hl1] at hrow
  obtain⟨g,cap,rfl⟩:=ownsRow_succ hrow
  have ci:=hrow.cells (g:=g) rfl (2*rs.length+1) _ (A0 rs lo hi2)
  rw[Addr.add_lit,Nat.zero_add,Nat.mul_comm 2 rs.length] at ci
  have ff:=hfzc hrow (rs.length*2+1)
  clear hnil hlen hlen2 hbd hh hfzc hlt
  have hnb:=BK hrow hN
  have hnb2:g≠w.heap.size+2:=fun e=>hnb (by rw[e];rfl)
  have hgB:g≠w.heap.size+1:=fun e=>by
   have:=hv.not_row (by decide) hrow
   exact this (by rw[e];rfl)
  have hgb:w.heap.size≤g:=by
   rcases hrow.2 with ⟨h2,_⟩ | ⟨g',cap',cur,hv',hbg,_⟩
   ·cases h2
   ·cases hv';exact hbg
  by_cases he:hi2+1=x.1
  ·have he2:((hi2:Int)+1=(x.1:Int))=True:=by simp;omega
   have e1:b9 (pre++[x])=rs++[(lo,x.1)]:=by rw[hrs,hr,rQ,if_pos he]
   gi_wp2
   have hs:=Gt (off:=rs.length*2+1) (v:=.int .i64 x.1) (ys:=dt (rs++[(lo,x.1)])) hrow (by rw[As rs lo hi2,Nat.mul_comm 2])
   refine⟨(KeepsOthers.setCell _ _ _).from _,⟨(Below.refl _ W).setCell (p:=⟨g,rs.length*2+1,none⟩) hgb _,Below.heap_setCell _ _ _ _ (fun e=>hnb2 e.symm)⟩,⟨_,?_,by rw[e1];simpa using hs,by rw[e1];simp⟩,hB.trans ((Below.refl _ W).setCell (p:=⟨g,rs.length*2+1,none⟩) hgb _),by rw[Below.heap_setCell _ _ _ _ (fun e=>hnb2 e.symm)];exact hN⟩
   show (W.setCell _ _).heap[w.heap.size+1]? = _
   rw[Below.heap_setCell _ _ _ _ (fun e=>hgB e.symm)]
   exact hv
  ·have he2:((hi2:Int)+1=(x.1:Int))=False:=by simp;omega
   have e1:b9 (pre++[x])=rs++[(lo,hi2)]++[(x.1,x.1)]:=by rw[hrs,hr,rQ,if_neg he]
   gi_wp2_with (gi_at_builtin;refine wpListIn_append_own _ rfl _ _ 210 rfl w.heap.size 214 i0 (.agg #[.int .i64 0,.int .i64 0]) 2 16 Tryz.underlying210 hi hz0 hz1 hz2 rfl (by decide) _ _ _ rfl (hrow.alloc _) ⟨W.heap.size,0,none⟩ 1 1 [.int .i64 x.1,.int .i64 x.1] rfl rfl (BB _ _ _ _) (by simp [Value.oneCell']) (by simp [maxLen];omega) om (by simp;omega) ?_;intro v' w1 hown' hgrow _;obtain⟨g',cap',rfl⟩:=ownsRow_succ hown';obtain⟨hv1,hv2,hr2,hk2,hb2⟩:=hv.appended (by decide) hrow om om hown' hgrow;have hc1:=hv1.cell;have hf1:=hv1.frozen)
   have hN1:(w1.setCell ⟨w.heap.size+1,0,none⟩ (.slice (some ⟨g',0,none⟩) (rs.length+1+1) cap')).heap[w.heap.size+2]? = W.heap[w.heap.size+2]?:=by
    rw[Below.heap_setCell _ _ _ _ (by simp),hgrow.block _ (by simp;omega) (fun e=>hnb e.symm),Below.heap_alloc _ _ _ om]
   exact⟨hk2.from _,⟨hb2,hN1⟩,⟨_,hv2,by rw[e1,show (rs++[(lo,hi2)]++[(x.1,x.1)]).length=rs.length+1+1 by simp,ku (rs++[(lo,hi2)])];exact hr2,by rw[e1];simp⟩,hB.trans hb2,hN1.trans hN⟩
case done=>
 rintro D ys W hD rfl ⟨⟨v,hv,hrow,hnil⟩,hB,hN⟩ hK
 have hc:=hv.cell
 gi_wp2
 refine⟨by simp,.inl ⟨_,_,rfl,run_takeDeferred hK,?_⟩⟩
 exact⟨_,results_tmp rfl _ _ _,v,rfl,ownsRow_putObj hrow _ hK rfl,hnil,hB0.trans (hB.trans (belowK_b (w:=w) (Nat.le_refl _) W D _ _ om hK rfl rfl))⟩
case stop=>
 rintro D c pre W _ _ h _
 exact h.elim}
theorem tj (P:Program) (w:World):b8 P [] [] w:=⟨rfl,fun id o h=>by simp at h,fun a b o1 o2 m1 m2 _ h=>by simp at h⟩
theorem Kl (b:Nat):¬ fa [] [] b:=by
 rintro⟨i,o,m,h1,_⟩
 simp at h1
theorem Dv {a b c d:Int} (ha:pW a) (hb:pW b) (hc:pW c) (hd:pW d) (w:World) (x:Nat) (hx:x<256) : Calls Tryz.prog 214 #[sK a b c d,Hx x] w fun e w'=>e = .returned (.bool (nc a b c d x))∧Below w.heap.size w w':=by{
have hs:du ⟨a,b,c,d⟩:=⟨ha,hb,hc,hd⟩
have k:=BA (h:=[]) hs hx
unfold FW at k
obtain⟨r,h',hcall,rfl,rfl⟩:=k
have hv:dE Tryz.prog [] [(aX.mk a b c d).val,u8 x] (#[sK a b c d,Hx x]:Array Value).toList:=by
 refine⟨?_,.pure rfl,trivial⟩
 exact dE.agg (l:=[.int .u64 a,.int .u64 b,.int .u64 c,.int .u64 d]) (l':=[.int .u64 a,.int .u64 b,.int .u64 c,.int .u64 d]) (dE.pure rfl)
refine (hcall.calls Ah [] w #[sK a b c d,Hx x] (tj _ w) hv).mono ?_
rintro e w' ⟨μ',r',rfl,hr,hH,hX,hF,hO,hK⟩
rw[hr.bool,has_eq hx]
exact⟨rfl,hF.os,hF.tape,hF.output,hF.size,fun k hk=>hF.block k hk (Kl k)⟩}
theorem rm {w:Int} (h:uq w=true):pW w:=by
 simp only[uq,Bool.and_eq_true,decide_eq_true_eq] at h
 exact h
theorem IK {args:List Value} {h h':ah} {r:Value} (e:ja h args=some (r,h')):lz Tryz.prog 175 args h r h':=by{
unfold ja at e
split at e
case h_2=>cases e
rename_i cs
split at e
case h_2=>cases e
rename_i a b c d hcs
split at e
case isFalse=>cases e
rename_i hw
simp only[Bool.and_eq_true] at hw
obtain⟨⟨⟨wa,wb⟩,wc⟩,wd⟩:=hw
intro μ w args' hH hA
have hargs:args'=#[sK a b c d]:=by
 generalize he:args'.toList=l at hA
 match l,hA with
 | [v],⟨hv,_⟩=>
   obtain⟨cs',rfl,hl⟩:=hv.mU
   rw[hcs] at hl
   generalize hq:cs'.toList=q at hl
   match q,hl with
   | [v1,v2,v3,v4],⟨h1,h2,h3,h4,_⟩=>
     rw[h1.int,h2.int,h3.int,h4.int] at hq
     have:cs'=#[.int .u64 a,.int .u64 b,.int .u64 c,.int .u64 d]:=Array.toList_inj.1 hq
     rw[this] at he
     exact Array.toList_inj.1 he
subst hargs
refine (callsIn_wide.1 (HD (nc a b c d) a b c d (fun w x hx=>Dv (rm wa) (rm wb) (rm wc) (rm wd) w x hx) w)).mono ?_
rintro e2 w' ⟨v,rfl,hrow,hnil,hB⟩
have hfr:pT (fa μ h) w w':=⟨hB.os,hB.tape,hB.output,hB.size,fun k hk _=>hB.block k hk⟩
have hH':b8 Tryz.prog μ h w':=hH.world hB.size fun b hb=>hB.block b (hb.lt hH)
generalize b9 (bQ (nc a b c d) 256)=rs at *
split at e
·rename_i hr
 cases e
 have:rs=[]:=by simpa using hr
 rw[hnil.2 this]
 exact⟨μ,_,rfl,.pure rfl,hH',eU.refl _,hfr,fun b hb=>.inl hb,fun b hb=>.inl hb⟩
·rename_i hr
 cases e
 have hne:rs≠[]:=by simpa using hr
 rcases hrow.2 with ⟨h0,_⟩ | ⟨g,cap,cur,rfl,hbg,hg,hnc,hcm,hcs2,htk⟩
 ·exact absurd (hnil.1 h0) hne
 ·have hone:(dt rs).all one=true:=by
   rw[List.all_eq_true]
   intro x hx
   simp only[dt,List.mem_flatMap,List.mem_cons,List.not_mem_nil,or_false] at hx
   obtain⟨p,_,rfl|rfl⟩:=hx<;>rfl
  have hpu:∀ x∈dt rs,be x=true:=by
   intro x hx
   simp only[dt,List.mem_flatMap,List.mem_cons,List.not_mem_nil,or_false] at hx
   obtain⟨p,_,rfl|rfl⟩:=hx<;>rfl
  have hcell:∀ (j:Nat) (v:Value),(dt rs)[j]? = some v→∃ v',cur[j]? = some v'∧VR Tryz.prog μ v v':=fun j v hj=>by
   refine⟨v,?_,.pure (hpu v (List.mem_of_getElem? hj))⟩
   rw[← htk,List.getElem?_take] at hj
   split at hj
   ·simpa using hj
   ·cases hj
  have hnew:=hH.new (cells:=dt rs) (cur:=cur) (e:=214) (b:=g) hB.size hbg (Array.getElem?_eq_some_iff.1 hg).1 (fun k hk=>hB.block k hk) hg hcell hone
  refine⟨_,_,rfl,?_,hnew,eU.push _ _,hfr,fun b hb=>?_,fun b hb=>?_⟩
  ·have:=cM μ ⟨g,0,cur.size,214⟩
   rw[hH.len] at this
   have hh:=VR.slice (P:=Tryz.prog) (c:=rs.length) (len:=rs.length) (cap:=cap) (off:=0) this hnc hcm (by
    have:Tryz.prog.cellsOf 214=2:=by kernel_rfl
    simp only[this,hcs2];omega)
   simpa using hh
  ·rcases lO rfl hH.len hb with h1|h1
   ·exact .inl h1
   ·exact .inr (by rw[h1];exact hbg)
  ·rcases iH rfl hH.len hb with h1|h1
   ·exact .inl h1
   ·exact .inr (by rw[h1];exact hbg)}
theorem Pq {args:List Value} {h h':ah} {r:Value} (e:qi h args=some (r,h')):lz Tryz.prog 205 args h r h':=by{
unfold qi at e
split at e
case h_2=>cases e
rename_i id ar
split at e
case h_2=>cases e
rename_i p x v et hid
split at e
case isFalse=>cases e
rename_i hv
subst hv
split at e
case isFalse=>cases e
rename_i het
subst het
intro μ w args' hH hA
obtain⟨m,hm⟩:=hH.obj _ _ _ _ _ hid
obtain⟨hb0,cur,hr,hroom⟩:=hm.own rfl
have hargs:args'=#[.pointer (some ⟨m.block,0,none⟩)]:=by
 generalize he:args'.toList=l at hA
 match l,hA with
 | [u],⟨hu,_⟩=>
   obtain⟨id',off',ver',m',hq,hm',rfl⟩:=hu.jJ
   cases hq
   rw[hm.at] at hm'
   cases hm'
   rw[hb0] at he
   exact Array.toList_inj.1 he
subst hargs
obtain⟨v0,k0,q0⟩:=hm.cell 0 _ rfl
obtain⟨v1,k1,q1⟩:=hm.cell 1 _ rfl
rw[hb0] at k0 k1
have hsize:1<cur.size:=by
 simp only[World.cell?,hr] at k1
 exact (Array.getElem?_eq_some_iff.1 (by simpa using k1)).1
have hce:Tryz.prog.cellsOf 228=2:=by kernel_rfl
split at e
·cases e
 rw[q0.dM rfl] at k0
 have hl:=Dy hce (cur.size / 2) om
 refine (Eu m.block cur.size w om k0 (by simp [World.shape?,hr]) (by simp [World.frozen?,hr]) (by rw[hce];exact hl)).mono ?_
 rintro e2 w' ⟨rfl,rfl⟩
 have hgr:w.grownBy (w.setCell ⟨m.block,0,none⟩ (.pointer (some ⟨m.block,0,none⟩))) (some m.block):=grownBy_setCell' w m.block _
 have hnew:(w.setCell ⟨m.block,0,none⟩ (.pointer (some ⟨m.block,0,none⟩))).heap[m.block]? = some (.cells (cur.setIfInBounds 0 (.pointer (some ⟨m.block,0,none⟩))) 228 (0,0)):=by
  show (w.heap.modify m.block _)[m.block]? = _
  rw[Array.getElem?_modify,if_pos rfl,hr]
  simp
 have hO:lk Tryz.prog μ (w.setCell ⟨m.block,0,none⟩ (.pointer (some ⟨m.block,0,none⟩))) id [.pointer (some ⟨id,0,some v⟩),x] v true 228 m:=by
  refine⟨hm.qN,hm.ez,fun j u hj=>?_,?_,Nat.lt_of_lt_of_le hm.eF hgr.size,fun _=>⟨hb0,_,hnew,by simpa using hroom⟩⟩
  ·rw[hb0,Nat.zero_add]
   match j with
   | 0=>
     cases hj
     refine⟨.pointer (some ⟨m.block,0,none⟩),?_,?_⟩
     ·simp only[World.cell?,hnew]
      simp only[Option.isSome_none,Bool.false_eq_true,if_false]
      rw[Array.getElem?_setIfInBounds_self_of_lt om]
     ·have:=VR.ptr (P:=Tryz.prog) (off:=0) hm.at
      rwa [hb0] at this
   | 1=>
     cases hj
     refine⟨v1,?_,q1⟩
     simp only[World.cell?,hr] at k1
     simp only[World.cell?,hnew]
     simp only[Option.isSome_none,Bool.false_eq_true,if_false] at k1 ⊢
     rw[Array.getElem?_setIfInBounds_ne (by decide)]
     simpa using k1
   | j+2=>simp at hj
  ·have:=hm.one
   simp only[List.all_cons,Bool.and_eq_true] at this ⊢
   exact⟨rfl,this.2⟩
 have hHR:=hH.Na hid hm.at (eU.refl _) rfl (fun _ _=>rfl) hO (.inl rfl) hgr.size fun k hk hne=>hgr.block k hk (fun e=>hne (Option.some.inj e))
 refine⟨μ,_,rfl,VR.undef,hHR,eU.refl _,⟨hgr.os,hgr.tape,hgr.output,hgr.size,fun k hk hn=>hgr.block k hk (fun e=>hn (by cases e;exact fa.aA hid hm.at))⟩,fun b hb=>?_,fun b hb=>?_⟩
 ·rcases tM (fun _ _=>rfl) hm.at hb with h1|h1
  ·exact .inl h1
  ·exact .inl (h1▸fa.aA hid hm.at)
 ·rcases lB (fun _ _=>rfl) hm.at hb with h1|h1
  ·exact .inl h1
  ·exact .inl (h1▸(fa.aA hid hm.at).eF)
·rename_i a
 split at e
 case isFalse=>cases e
 rename_i ha
 subst ha
 cases e
 obtain⟨id',off',ver',m',hq,hm',hv0⟩:=q0.jJ
 cases hq
 rw[hm.at] at hm'
 cases hm'
 rw[hv0,hb0] at k0
 refine (Il m.block w k0).mono ?_
 rintro e2 w' ⟨rfl,rfl⟩
 exact⟨μ,_,rfl,VR.undef,hH,eU.refl _,pT.refl _ _,fun b hb=>.inl hb,fun b hb=>.inl hb⟩}
end Go.Proofs.YtmdmimkbpikmoaaGreat.Pr
namespace Go.Proofs.YtmdmimkbpikmoaaGreat
open Am
theorem zP:∀ f args h r h',kR f args h=some (r,h')→lz Tryz.prog f args h r h':=fun f args h r h' e=>by
 unfold kR at e
 split at e
 ·rename_i hf;subst hf;exact Pr.Pq e
 ·split at e
  ·rename_i hf;subst hf;exact Pr.IK e
  ·cases e
end Go.Proofs.YtmdmimkbpikmoaaGreat
namespace Go.Proofs.YtmdmimkbpikmoaaGreat
open Go.RowKit Am Ty
theorem Ah:mC env:=⟨EE,sT,zP⟩
end Go.Proofs.YtmdmimkbpikmoaaGreat
namespace Go.Proofs.YtmdmimkbpikmoaaGreat
set_option maxRecDepth 20000
open Go.ChangeShapes Go.WideShapes Go.ChangeAt Go.RowKit Am Ty
theorem own:ownKnob Tryz.prog.godebug=none:=by kernel_rfl
theorem laidOut:laidOutB Tryz.prog=true:=by kernel_rfl
theorem yx {μ:Mu} {h:ah} {W w':World} (hn:mF h) (k:pT (fa μ h) W w'):Below W.heap.size W w':=
 ⟨k.os,k.tape,k.output,k.size,fun i hi=>k.block i hi fun ⟨_,_,_,h1,h2,_⟩=>by have:=hn _ _ h1;rw[h2] at this;cases this⟩
end Go.Proofs.YtmdmimkbpikmoaaGreat
namespace Go.Proofs.YtmdmimkbpikmoaaGreat.Am
open Go.RowKit
def lE (P:Program) (t:TypeId):Bool:=match P.underlying t with
 | some (.struct _)=>true
 | some (.array _ _)=>true
 | _=>false
def OJ (P:Program) (h:ah) (t:TypeId) (a:Value):Prop:=∃ n vs,gL P h n t vs∧((lE P t=true∧a = .agg vs.toArray)∨(lE P t=false∧vs=[a]))
def qj (P:Program) (h:ah):List TypeId→List Value→Prop
 | [],[]=>True
 | t :: ts,a :: avs=>OJ P h t a∧qj P h ts avs
 | _,_=>False
theorem OJ.mono {P:Program} {h h':ah} {t:TypeId} {a:Value} (hp:h <+: h'):OJ P h t a→OJ P h' t a:=fun ⟨n,vs,k,e⟩=>⟨n,vs,k.mono hp,e⟩
section
variable {P:Program} {W:World}
theorem wN {ts:List TypeId} {base:Nat} {t:TypeId} {v:Value} (hk:qy P ts t=true) (hval:Value.okWide P W .any base t v) (ha:lE P t=false):v.cells.toList=[v]:=by{
unfold Value.okWide at hval
unfold qy at hk
unfold lE at ha
cases hu:P.underlying t with
| none=>rw[hu] at hk;simp at hk
| some d=>
  rw[hu] at hk ha hval
  cases d<;>simp at hk ha<;>simp only[Cell.okWide,Cell.ok,hu] at hval<;>cases v<;>first|rfl|exact hval.elim|simp at hval}
theorem AL {base:Nat} {t:TypeId} {v:Value} (hval:Value.okWide P W .any base t v) (ha:lE P t=true):∃ cs,v = .agg cs:=by{
unfold Value.okWide at hval
unfold lE at ha
split at ha
·rename_i hu
 rw[hu] at hval
 exact hval.imp fun _ h=>h.1
·rename_i hu
 rw[hu] at hval
 exact hval.imp fun _ h=>h.1
·cases ha}
theorem D8 {H:Type} {enc:TypeId×Value→H} {held:Bool} {ts:List TypeId} (hcl:ts.all (qy P ts)=true) {base:Nat} {t:TypeId} {v:Value} {d:DataW H} {p:List MemPlace} (ht:t∈ts) (hval:Value.okWide P W .any base t v) (h0:DataW.Trod enc P W 0 (fun _=>true) held t v d p) (hw:(d.weights P t).all (fun b=>decide (b≤reachBytes))=true) {μ:Mu} {h:ah} (H:b8 P μ h W) (hn:mF h) : ∃ μ' h' a,h <+: h'∧eU μ μ'∧b8 P μ' h' W∧mF h'∧VR P μ' a v∧OJ P h' t a:=by{
obtain⟨n,hn0⟩:=h0
obtain⟨μ',h',vs,h1,h2,h3,h4,h5,h6,h7⟩:=kJ hcl n _ _ _ ht hn0 hw μ h H hn
cases ha:lE P t with
| true=>
  obtain⟨cs,rfl⟩:=AL hval ha
  have h5':dE P μ' vs cs.toList:=h5
  refine⟨μ',h',.agg vs.toArray,h1,h2,h3,h4,?_,n,vs,h7,.inl ⟨ha,rfl⟩⟩
  have:=dE.agg h5'
  simpa using this
| false=>
  have e:=wN (List.all_eq_true.1 hcl t ht) hval ha
  rw[e] at h5
  match vs,h5,h7 with
  | [a],h5,h7=>exact⟨μ',h',a,h1,h2,h3,h4,h5.1,n,[a],h7,.inr ⟨ha,rfl⟩⟩}
theorem qj.mono {h h':ah} (hp:h <+: h'):∀ {ts:List TypeId} {avs:List Value},qj P h ts avs→qj P h' ts avs
 | [],[],_=>trivial
 | _ :: _,_ :: _,⟨h1,h2⟩=>⟨h1.mono hp,qj.mono hp h2⟩
 | [],_ :: _,h=>h.elim
 | _ :: _,[],h=>h.elim
theorem rY {H:Type} {enc:TypeId×Value→H} {held:Bool} {ts:List TypeId} (hcl:ts.all (qy P ts)=true) {base:Nat}:∀ {tys:List TypeId} {vs:List Value} {ds:List (DataW H)} {p:List MemPlace},(∀ t∈tys,t∈ts) →
 DataW.TrodAll enc P W 0 (fun _=>true) held tys vs ds p→(∀ (i:Nat) (t:TypeId) (v:Value),tys[i]? = some t→vs[i]? = some v→Value.okWide P W .any base t v) →
 (∀ (i:Nat) (t:TypeId) (d:DataW H),tys[i]? = some t→ds[i]? = some d→(d.weights P t).all (fun b=>decide (b≤reachBytes))=true)→∀ {μ:Mu} {h:ah},b8 P μ h W→mF h →
 ∃ μ' h' avs,h <+: h'∧eU μ μ'∧b8 P μ' h' W∧mF h'∧dE P μ' avs vs∧qj P h' tys avs
 | [],[],[],_,_,_,_,_,μ,h,H,hn=>⟨μ,h,[],List.prefix_refl _,eU.refl _,H,hn,trivial,trivial⟩
 | t :: tys,v :: vs,d :: ds,_,ht,⟨p,q,k1,k2,_⟩,hv,hw,μ,h,H,hn=>by
   obtain⟨μ1,h1,a,p1,x1,H1,n1,v1,r1⟩:=D8 hcl (ht t List.mem_cons_self) (hv 0 t v rfl rfl) k1 (hw 0 t d rfl rfl) H hn
   obtain⟨μ2,h2,avs,p2,x2,H2,n2,v2,r2⟩:=rY hcl (fun t h=>ht t (List.mem_cons_of_mem _ h)) k2 (fun i t v e1 e2=>hv (i+1) t v (by simpa using e1) (by simpa using e2)) (fun i t d e1 e2=>hw (i+1) t d (by simpa using e1) (by simpa using e2)) H1 n1
   exact⟨μ2,h2,a :: avs,p1.trans p2,x1.trans x2,H2,n2,⟨v1.mono x2,v2⟩,r1.mono p2,r2⟩
 | [],_ :: _,_,_,_,h,_,_,_,_,_,_=>by simp [DataW.TrodAll] at h
 | [],[],_ :: _,_,_,h,_,_,_,_,_,_=>by simp [DataW.TrodAll] at h
 | _ :: _,[],_,_,_,h,_,_,_,_,_,_=>by simp [DataW.TrodAll] at h
 | _ :: _,_ :: _,[],_,_,h,_,_,_,_,_,_=>by simp [DataW.TrodAll] at h
end
end Go.Proofs.YtmdmimkbpikmoaaGreat.Am
namespace Go.Proofs.YtmdmimkbpikmoaaGreat
set_option maxRecDepth 20000
open Go.ChangeShapes Go.WideShapes Go.ChangeAt Go.RowKit Am Ty
theorem tj {W:World}:b8 Tryz.prog [] [] W:=⟨rfl,fun id o h1=>by simp at h1,fun a b o1 o2 m1 m2 _ h1=>by simp at h1⟩
set_option maxRecDepth 100000 in
theorem AE {H:Type} {enc:TypeId×Value→H} {f:FuncId} {W:World} {base:Nat} {tys ts:List TypeId} {args:Array Value} {ds:List (DataW H)} {p:List MemPlace} (hcl:ts.all (qy Tryz.prog ts)=true) (htys:tys.all (fun t=>ts.contains t)=true) (hf:∀ (h:ah) (avs:List Value),qj Tryz.prog h tys avs→FW env f avs h fun r _=>r = .bool true) (hval:∀ (j:Nat) (t:TypeId) (v:Value),tys[j]? = some t→args.toList[j]? = some v→Value.okWide Tryz.prog W .any base t v) (h0:DataW.TrodAll enc Tryz.prog W 0 (fun _=>true) true tys args.toList ds p) (hw:∀ (i:Nat) (t:TypeId) (d:DataW H),tys[i]? = some t→ds[i]? = some d→(d.weights Tryz.prog t).all (fun b=>decide (b≤reachBytes))=true) : Calls Tryz.prog f args W fun e W'=>e = .returned (.bool true)∧Below W.heap.size W W':=by{
obtain⟨μ,h,avs,_,_,H,hno,hv,hr⟩:=rY hcl (fun t ht=>by have:=List.all_eq_true.1 htys t ht;simpa using this) h0 hval hw (μ:=[]) (h:=[]) tj (fun id o h1=>by simp at h1)
have k:=hf h avs hr
unfold FW at k
obtain⟨r,h',k1,rfl⟩:=k
refine (Ev.calls Ah k1 μ W args H hv).mono fun e W' ⟨μ',r',he,hvr,_,_,hfr,_,_⟩=>?_
exact⟨by rw[he,VR.bool hvr],yx hno hfr⟩}
theorem CT {H:Type} {enc:TypeId×Value→H} {W W':World} (hb:Below W.heap.size W W') (tys:List TypeId) (ht:∀ t∈tys,Tryz.prog.readableRec t=true∧t<Tryz.prog.types.size):∀ (vs:List Value) (ds:List (DataW H)) (p:List MemPlace), DataW.TrodAll enc Tryz.prog W 0 (fun _=>true) true tys vs ds p→DataW.TrodAll enc Tryz.prog W' 0 (fun b=>decide (b<W.heap.size)) true tys vs ds p:=by{
induction tys with
| nil=>
  intro vs ds p h
  obtain⟨rfl,rfl,rfl⟩:=trodAll_nil h
  exact trodAll_mk0
| cons t tys ih=>
  intro vs ds p h
  obtain⟨v,vs',d,ds',p1,q1,rfl,rfl,rfl,k1,k2⟩:=trodAll_cons h
  have lt0:∀ x∈p1,x.block<W.heap.size:=by obtain⟨m,hm⟩:=k1;exact DataW.trod_lt m _ _ _ hm
  have h1:=ht t List.mem_cons_self
  exact trodAll_cons_mk (Below.trod laidOut h1.1 h1.2 k1 hb lt0) (ih (fun t h=>ht t (List.mem_cons_of_mem _ h)) _ _ _ k2)}
theorem Ba {H:Type} {enc:TypeId×Value→H} {W W':World} (hb:Below W.heap.size W W') {tys:List TypeId} (ht:tys.all (fun t=>Tryz.prog.readableRec t&&decide (t<Tryz.prog.types.size))=true) {vs:List Value} {ds:List (DataW H)} {p:List MemPlace}
 (h:DataW.TrodAll enc Tryz.prog W 0 (fun _=>true) true tys vs ds p):DataW.TrodAll enc Tryz.prog W' 0 (fun b=>decide (b<W.heap.size)) true tys vs ds p:=
 CT hb tys (fun t h=>by have:=List.all_eq_true.1 ht t h;simp only[Bool.and_eq_true,decide_eq_true_eq] at this;exact this) _ _ _ h
end Go.Proofs.YtmdmimkbpikmoaaGreat
namespace Go.Proofs.YtmdmimkbpikmoaaGreat
set_option maxRecDepth 20000
open Go.RowKit Am Ty
abbrev i32 (n:Int):Value:=.int .i32 n
def uj (lo hi c:Int):Bool:=decide (lo≤c)&&decide (c≤hi)
theorem ze {h:ah} {c:Int}:FW env 122 [i32 c] h fun r h'=>r = .bool (uj 65 90 c)∧h'=h:=by{
refine fe Tryz.func122 ?_;simp only[push_cast]
by_cases q1:65≤c
·by_cases q2:c≤90
 ·repeat (first|apply zs|apply zr|apply zn|((first|apply zx|apply zy);·simp only[push_cast,env,Nat.reduceEqDiff,reduceIte,Nat.reduceAdd,Nat.reduceMul,Nat.reduceLeDiff,reduceCtorEq,Nat.reduceSub,Int.reduceToNat,q1,q2,decide_true]<;>first|exact rfl|exact .inl rfl|exact .inr rfl) | apply zq|apply zb|apply zo|apply zk|apply zl)
  refine ai ?_
  exact⟨_,ak,by simp [cI,uj,q1,q2],rfl⟩
 ·repeat (first|apply zs|apply zr|apply zn|((first|apply zx|apply zy);·simp only[push_cast,env,Nat.reduceEqDiff,reduceIte,Nat.reduceAdd,Nat.reduceMul,Nat.reduceLeDiff,reduceCtorEq,Nat.reduceSub,Int.reduceToNat,q1,q2,decide_true,decide_false]<;>first|exact rfl|exact .inl rfl|exact .inr rfl) | apply zq|apply zb|apply zo|apply zk|apply zl)
  refine ai ?_
  exact⟨_,ak,by simp [cI,uj,q1,q2],rfl⟩
·repeat (first|apply zs|apply zr|apply zn|((first|apply zx|apply zy);·simp only[push_cast,env,Nat.reduceEqDiff,reduceIte,Nat.reduceAdd,Nat.reduceMul,Nat.reduceLeDiff,reduceCtorEq,Nat.reduceSub,Int.reduceToNat,q1,decide_false]<;>first|exact rfl|exact .inl rfl|exact .inr rfl) | apply zq|apply zb|apply zo|apply zk|apply zl)
 refine ai ?_
 exact⟨_,ak,by simp [cI,uj,q1],rfl⟩}
theorem GF {h:ah} {c:Int}:FW env 168 [i32 c] h fun r h'=>r = .bool (uj 97 122 c)∧h'=h:=by{
refine fe Tryz.func168 ?_;simp only[push_cast]
by_cases q1:97≤c
·by_cases q2:c≤122
 ·repeat (first|apply zs|apply zr|apply zn|((first|apply zx|apply zy);·simp only[push_cast,env,Nat.reduceEqDiff,reduceIte,Nat.reduceAdd,Nat.reduceMul,Nat.reduceLeDiff,reduceCtorEq,Nat.reduceSub,Int.reduceToNat,q1,q2,decide_true]<;>first|exact rfl|exact .inl rfl|exact .inr rfl) | apply zq|apply zb|apply zo|apply zk|apply zl)
  refine ai ?_
  exact⟨_,ak,by simp [cI,uj,q1,q2],rfl⟩
 ·repeat (first|apply zs|apply zr|apply zn|((first|apply zx|apply zy);·simp only[push_cast,env,Nat.reduceEqDiff,reduceIte,Nat.reduceAdd,Nat.reduceMul,Nat.reduceLeDiff,reduceCtorEq,Nat.reduceSub,Int.reduceToNat,q1,q2,decide_true,decide_false]<;>first|exact rfl|exact .inl rfl|exact .inr rfl) | apply zq|apply zb|apply zo|apply zk|apply zl)
  refine ai ?_
  exact⟨_,ak,by simp [cI,uj,q1,q2],rfl⟩
·repeat (first|apply zs|apply zr|apply zn|((first|apply zx|apply zy);·simp only[push_cast,env,Nat.reduceEqDiff,reduceIte,Nat.reduceAdd,Nat.reduceMul,Nat.reduceLeDiff,reduceCtorEq,Nat.reduceSub,Int.reduceToNat,q1,decide_false]<;>first|exact rfl|exact .inl rfl|exact .inr rfl) | apply zq|apply zb|apply zo|apply zk|apply zl)
 refine ai ?_
 exact⟨_,ak,by simp [cI,uj,q1],rfl⟩}
theorem Ge {h:ah} {c:Int}:FW env 169 [i32 c] h fun r h'=>r = .bool (uj 48 57 c)∧h'=h:=by{
refine fe Tryz.func169 ?_;simp only[push_cast]
by_cases q1:48≤c
·by_cases q2:c≤57
 ·repeat (first|apply zs|apply zr|apply zn|((first|apply zx|apply zy);·simp only[push_cast,env,Nat.reduceEqDiff,reduceIte,Nat.reduceAdd,Nat.reduceMul,Nat.reduceLeDiff,reduceCtorEq,Nat.reduceSub,Int.reduceToNat,q1,q2,decide_true]<;>first|exact rfl|exact .inl rfl|exact .inr rfl) | apply zq|apply zb|apply zo|apply zk|apply zl)
  refine ai ?_
  exact⟨_,ak,by simp [cI,uj,q1,q2],rfl⟩
 ·repeat (first|apply zs|apply zr|apply zn|((first|apply zx|apply zy);·simp only[push_cast,env,Nat.reduceEqDiff,reduceIte,Nat.reduceAdd,Nat.reduceMul,Nat.reduceLeDiff,reduceCtorEq,Nat.reduceSub,Int.reduceToNat,q1,q2,decide_true,decide_false]<;>first|exact rfl|exact .inl rfl|exact .inr rfl) | apply zq|apply zb|apply zo|apply zk|apply zl)
  refine ai ?_
  exact⟨_,ak,by simp [cI,uj,q1,q2],rfl⟩
·repeat (first|apply zs|apply zr|apply zn|((first|apply zx|apply zy);·simp only[push_cast,env,Nat.reduceEqDiff,reduceIte,Nat.reduceAdd,Nat.reduceMul,Nat.reduceLeDiff,reduceCtorEq,Nat.reduceSub,Int.reduceToNat,q1,decide_false]<;>first|exact rfl|exact .inl rfl|exact .inr rfl) | apply zq|apply zb|apply zo|apply zk|apply zl)
 refine ai ?_
 exact⟨_,ak,by simp [cI,uj,q1],rfl⟩}
def xl (c:Int):Bool:=uj 65 90 c||uj 97 122 c||uj 48 57 c
def bn (b:ByteArray) (i:Nat):Nat:=(b.get! i).toNat
theorem vQ {b:ByteArray} {i:Nat} (hi:i<b.size):∃ c:UInt8,b[i]? = some c∧c.toNat=bn b i:=by{
refine⟨b[i],getElem?_pos b i hi,?_⟩
obtain⟨bs⟩:=b
show (bs[i]).toNat=(bs[i]!).toNat
rw[getElem!_pos bs i hi]}
theorem AG {n:Nat} (h:xl (n:Int)=true):n<128:=by{
unfold xl uj at h
simp only[Bool.or_eq_true,Bool.and_eq_true,decide_eq_true_eq] at h
omega}
theorem uA {b:ByteArray} {i:Nat} (h:bn b i<128):Utf8.decode b i=(bn b i,1):=by{
unfold bn at h ⊢
unfold Utf8.decode
simp only[Nat.add_zero]
rw[if_pos h]}
theorem DW {b:ByteArray} {i:Nat} (h:¬ bn b i<128):128≤(Utf8.decode b i).1:=by{
unfold bn at h
unfold Utf8.decode
simp only[Nat.add_zero]
rw[if_neg h]
split
·split
 ·simp only;omega
 ·simp [Utf8.runeError]
·split
 ·split
  ·rename_i hq;simp only[ge_iff_le,Bool.and_eq_true,decide_eq_true_eq] at hq;simp only;omega
  ·simp [Utf8.runeError]
 ·split
  ·split
   ·rename_i hq;simp only[ge_iff_le,Bool.and_eq_true,decide_eq_true_eq] at hq;simp only;omega
   ·simp [Utf8.runeError]
  ·simp [Utf8.runeError]}
theorem PV {b:ByteArray} {i:Nat}:xl ((Utf8.decode b i).1:Int)=xl (bn b i:Int):=by{
by_cases h:bn b i<128
·rw[uA h]
·have h1:=DW h
 cases e1:xl ((Utf8.decode b i).1:Int) with
 | true=>have:=AG e1;omega
 | false=>
   cases e2:xl (bn b i:Int) with
   | true=>exact absurd (AG e2) h
   | false=>rfl}
structure M0 (b:ByteArray) (k:Nat):Prop where
 le:k≤b.size
 all:∀ i<k,xl (bn b i:Int)=true
 stop:k<b.size→xl (bn b k:Int)=false
def CG (b:ByteArray):Bool:=(List.range b.size).all fun i=>xl (bn b i:Int)
theorem M0.eq {b:ByteArray} {k:Nat} (h:M0 b k):decide ((k:Int)=(b.size:Int))=CG b:=by{
have:=h.le
cases e:CG b with
| true=>
  simp only[CG,List.all_eq_true,List.mem_range] at e
  refine decide_eq_true ?_
  by_cases hk:k<b.size
  ·have:=h.stop hk;rw[e k hk] at this;cases this
  ·omega
| false=>
  refine decide_eq_false fun hk=>?_
  have hk':k=b.size:=by omega
  have:CG b=true:=by
   simp only[CG,List.all_eq_true,List.mem_range]
   intro i hi
   exact h.all i om
  rw[e] at this
  cases this}
def bI (b:ByteArray):Bool:=decide (0<b.size)&&decide (b.size≤32)&&uj 65 90 (bn b 0:Int)&&CG b
theorem Og {h:ah} {b:ByteArray} (hb:b.size≤140737488355328):FW env 123 [.string b] h fun r h'=>(∃ k:Nat,M0 b k∧r=i64 k)∧h'=h:=by{
refine fe Tryz.func123 ?_;simp only[push_cast]
refine aC ?_
refine HN (t:=9) rfl rfl rfl kr rfl ?_
refine aC ?_
refine rr (fun m s=>∃ p,m=b.size-p∧p≤b.size∧(∀ i<p,xl (bn b i:Int)=true)∧bA [(0,.val (.string b)),(6,.xf b p)] s.fr∧s.h=h) b.size ⟨0,rfl,Nat.zero_le _,fun i hi=>absurd hi om,aK,rfl⟩ ?_
rintro m s ⟨p,rfl,hp,hall,hf,hh⟩
refine aB _ hf ?_
rw[hh]
by_cases hlt:p<b.size
·refine zu ?_
 refine ER (b:=b) (p:=p) rfl rfl rfl hlt ?_
 have hC:=PV (b:=b) (i:=p)
 have hnx:xl (bn b p:Int)=true→(Utf8.decode b p).2=1:=fun ha=>by rw[uA (AG ha)]
 generalize Utf8.decode b p=cw at hC hnx
 obtain⟨c,w⟩:=cw
 simp only at hC hnx
 refine aC ?_
 refine ae rfl ?_
 refine aC ?_
 refine zj Tryz.func122 ?_
 refine ze.mono ?_
 rintro _ h1 ⟨rfl,rfl⟩
 cases g1:uj 65 90 (c:Int) with
 | true=>
   have hcc:xl (c:Int)=true:=by simp [xl,g1]
   rw[hcc] at hC
   have hw:=hnx hC.symm
   subst hw
   refine aC ?_
   refine af rfl ?_
   refine aC ?_
   refine⟨b.size-(p+1),by omega,p+1,rfl,by omega,fun i hi=>?_,aK,rfl⟩
   rcases (by omega:i<p∨i=p) with hi|rfl
   ·exact hall i hi
   ·exact hC.symm
 | false=>
   repeat (first|apply zs|apply zr|apply zn|((first|apply zx|apply zy);·simp only[push_cast,env,Nat.reduceEqDiff,reduceIte,Nat.reduceAdd,Nat.reduceMul,Nat.reduceLeDiff,reduceCtorEq,Nat.reduceSub,Int.reduceToNat,Bool.not_false]<;>first|exact rfl|exact .inl rfl|exact .inr rfl) | apply zq|apply zb|apply zo|apply zk|apply zl)
   refine zj Tryz.func168 ?_
   refine GF.mono ?_
   rintro _ h1 ⟨rfl,rfl⟩
   cases g2:uj 97 122 (c:Int) with
   | true=>
     have hcc:xl (c:Int)=true:=by simp [xl,g1,g2]
     rw[hcc] at hC
     have hw:=hnx hC.symm
     subst hw
     refine aC ?_
     refine af rfl ?_
     refine aC ?_
     refine⟨b.size-(p+1),by omega,p+1,rfl,by omega,fun i hi=>?_,aK,rfl⟩
     rcases (by omega:i<p∨i=p) with hi|rfl
     ·exact hall i hi
     ·exact hC.symm
   | false=>
     refine aC ?_
     refine zj Tryz.func169 ?_
     refine Ge.mono ?_
     rintro _ h1 ⟨rfl,rfl⟩
     cases g3:uj 48 57 (c:Int) with
     | true=>
       have hcc:xl (c:Int)=true:=by simp [xl,g1,g2,g3]
       rw[hcc] at hC
       have hw:=hnx hC.symm
       subst hw
       refine aC ?_
       refine af rfl ?_
       refine aC ?_
       refine⟨b.size-(p+1),by omega,p+1,rfl,by omega,fun i hi=>?_,aK,rfl⟩
       rcases (by omega:i<p∨i=p) with hi|rfl
       ·exact hall i hi
       ·exact hC.symm
     | false=>
       have hcc:xl (c:Int)=false:=by simp [xl,g1,g2,g3]
       rw[hcc] at hC
       refine aC ?_
       refine ae rfl ?_
       refine aC ?_
       refine ai ?_
       exact⟨_,ak,⟨p,⟨by omega,hall,fun _=>hC.symm⟩,rfl⟩,rfl⟩
·obtain rfl:p=b.size:=by omega
 refine zu ?_
 refine G0 (b:=b) (p:=b.size) rfl rfl rfl (Nat.le_refl _) ?_
 refine aC ?_
 refine af rfl ?_
 refine az ?_
 show CW _ _ _ _
 refine aC ?_
 refine ai ?_
 exact⟨_,ak,⟨b.size,⟨Nat.le_refl _,hall,fun h=>absurd h om⟩,rfl⟩,rfl⟩}
theorem jb {b:ByteArray}:b=⟨#[]⟩↔b.size=0:=by{
constructor
·rintro rfl;rfl
·intro h
 obtain⟨bs⟩:=b
 have:bs=#[]:=Array.eq_empty_of_size_eq_zero h
 rw[this]}
theorem wrap_i32 {n:Int} (h0:0≤n) (h1:n<2147483648):IntKind.i32.wrap n=n:=by{
unfold IntKind.wrap
simp only[IntKind.bits,IntKind.signed]
simp
omega}
theorem y4 {h:ah} {b:ByteArray} (hb:b.size≤140737488355328):FW env 49 [.string b] h fun r h'=>r = .bool (bI b)∧h'=h:=by{
refine fe Tryz.func49 ?_;simp only[push_cast]
by_cases q1:0<b.size
·have e1:¬ b=⟨#[]⟩:=fun e=>by rw[jb] at e;omega
 by_cases q2:b.size≤32
 ·have d2:decide ((b.size:Int)≤32)=true:=decide_eq_true om
  obtain⟨c,hc,hcn⟩:=vQ q1
  have hcl:c.toNat<256:=c.toNat_lt
  have e4:IntKind.i32.wrap (bn b 0:Int)=(bn b 0:Int):=wrap_i32 om om
  refine kL e1 d2 hc hcn e4 ?_
  refine zj Tryz.func122 ?_
  refine ze.mono ?_
  rintro _ h1 ⟨rfl,rfl⟩
  cases g:uj 65 90 (bn b 0:Int) with
  | false=>
    refine aC ?_
    refine ai ?_
    exact⟨_,ak,by simp [cI,bI,g],rfl⟩
  | true=>
    refine aC ?_
    refine zj Tryz.func123 ?_
    refine (Og hb).mono ?_
    rintro _ h1 ⟨⟨k,hk,rfl⟩,rfl⟩
    have e5:=hk.eq
    refine aG e5 ?_
    refine ai ?_
    exact⟨_,ak,by simp [cI,bI,q1,q2,g],rfl⟩
 ·have d2:decide ((b.size:Int)≤32)=false:=decide_eq_false om
  refine fh e1 d2 ?_
  refine ai ?_
  exact⟨_,ak,by simp [cI,bI,q2],rfl⟩
·have e1:b=⟨#[]⟩:=jb.2 om
 refine aG e1 ?_
 refine ai ?_
 exact⟨_,ak,by simp [cI,bI,q1],rfl⟩}
structure gO where
 kind:Int
 prod:Int
 mask:Int
 aj:List Int
 deriving DecidableEq
def bj (h:ah) (v:Value) (l:List ByteArray):Prop:=bT h v l.length (l.map .string) 9 16
def fO (h:ah) (v:Value) (l:List gO):Prop:=
 ∃ us:List Value,us.length=l.length∧bT h v l.length ((l.zip us).flatMap fun p=>[i64 p.1.kind,i64 p.1.prod,i64 p.1.mask,p.2]) 67 48∧∀ (i:Nat) (r:gO) (u:Value),l[i]? = some r→us[i]? = some u→tH h u r.aj
theorem bj.mono {h h':ah} {v:Value} {l:List ByteArray} (hr:bj h v l) (hp:h <+: h'):bj h' v l:=bT.mono hr hp
theorem fO.mono {h h':ah} {v:Value} {l:List gO} (hr:fO h v l) (hp:h <+: h'):fO h' v l:=by
 obtain⟨us,hl,hs,hu⟩:=hr
 exact⟨us,hl,hs.mono hp,fun i r u h1 h2=>(hu i r u h1 h2).mono hp⟩
theorem bj.form {h:ah} {v:Value} {l:List ByteArray} (hr:bj h v l):∃ p c,v = .slice p l.length c:=bT.form hr
theorem fO.form {h:ah} {v:Value} {l:List gO} (hr:fO h v l):∃ p c,v = .slice p l.length c:=by
 obtain⟨_,_,hs,_⟩:=hr
 exact hs.form
theorem fO.le {h:ah} {v:Value} {l:List gO} (hr:fO h v l):l.length≤140737488355328:=by{
obtain⟨_,_,hs,_⟩:=hr
have:=hs.1
omega}
theorem bj.le {h:ah} {v:Value} {l:List ByteArray} (hr:bj h v l):l.length≤140737488355328:=by
 have:=hr.1
 omega
theorem bj.at {h:ah} {v:Value} {l:List ByteArray} (hr:bj h v l) {i:Nat} (hi:i<l.length) :
 ∃ id ar own c cells,v = .slice (some ⟨id,0,some ar⟩) l.length c∧h[id]? = some (.aA cells ar own 9)∧cells[i]? = some (.string l[i]):=by
 obtain⟨id,ar,own,c,rfl,hid⟩:=bT.at hr om
 exact⟨id,ar,own,c,_,rfl,hid,by simp [hi]⟩
theorem Ht {l:List gO} {us:List Value} (hl:us.length=l.length) {i:Nat} (hi:i<l.length) :
 jU ((l.zip us).flatMap fun p=>[i64 p.1.kind,i64 p.1.prod,i64 p.1.mask,p.2]) (i*4) 4=some [i64 l[i].kind,i64 l[i].prod,i64 l[i].mask,us[i]'(hl▸hi)]:=by
 refine bS (f:=fun p:gO×Value=>[i64 p.1.kind,i64 p.1.prod,i64 p.1.mask,p.2]) (fun _=>rfl) (l.zip us) i (l[i],us[i]'(hl▸hi)) ?_
 simp [List.getElem?_zip_eq_some,hi,hl▸hi]
theorem fO.at {h:ah} {v:Value} {l:List gO} (hr:fO h v l) {i:Nat} (hi:i<l.length) : ∃ id ar own c cells p n c',v = .slice (some ⟨id,0,some ar⟩) l.length c∧h[id]? = some (.aA cells ar own 67)∧n=l[i].aj.length ∧ jU cells (i*4) 4=some [i64 l[i].kind,i64 l[i].prod,i64 l[i].mask,.slice p n c']∧tH h (.slice p n c') l[i].aj:=by{
obtain⟨us,hl,hs,hu⟩:=hr
obtain⟨id,ar,own,c,rfl,hid⟩:=hs.at om
have hi':i<us.length:=hl▸hi
have hS:=hu i l[i] us[i] (by simp [hi]) (by simp [hi'])
obtain⟨p,c',hp⟩:=bT.form hS
refine⟨id,ar,own,c,_,p,l[i].aj.length,c',rfl,hid,rfl,?_,?_⟩
·rw[← hp]
 exact Ht hl hi
·rw[← hp]
 exact hS}
def wt (l:List ByteArray) (x:ByteArray) (r:Int):Prop:=(∃ (k:Nat) (hk:k<l.length),l[k]=x∧(∀ (i:Nat) (hi:i<k),l[i]'om≠x)∧r=k)∨((∀ (i:Nat) (hi:i<l.length),l[i]≠x)∧r = -1)
theorem wt.AV {l:List ByteArray} {x:ByteArray} {r r':Int} (h:wt l x r) (h':wt l x r'):r=r':=by{
rcases h with ⟨k,hk,e,hn,rfl⟩ | ⟨hn,rfl⟩
·rcases h' with ⟨k',hk',e',hn',rfl⟩ | ⟨hn',rfl⟩
 ·rcases (by omega:k<k'∨k=k'∨k'<k) with g|g|g
  ·exact absurd e (hn' k g)
  ·rw[g]
  ·exact absurd e' (hn k' g)
 ·exact absurd e (hn' k hk)
·rcases h' with ⟨k',hk',e',hn',rfl⟩ | ⟨hn',rfl⟩
 ·exact absurd e' (hn k' hk')
 ·rfl}
section
variable {h:ah} {vn:Value} {l:List ByteArray} {b:ByteArray}
def BU (l:List ByteArray) (b:ByteArray) (i:Int):Prop:=if bI b=true then wt l b i else i = -1
theorem BU.AV {i j:Int} (h1:BU l b i) (h2:BU l b j):i=j:=by{
unfold BU at h1 h2
split at h1
·rename_i q
 rw[if_pos q] at h2
 exact h1.AV h2
·rename_i q
 rw[if_neg q] at h2
 rw[h1,h2]}
def l7 (h:ah) (v:Value) (fr:List gO) (l:List ByteArray):Prop:=
 ∃ (s0 s1:ByteArray) (p2 p3 p4 p5 p6 p9 p12 p13 p14:Option Addr) (n2 n3 n4 n5 n6 n9 n12 n13 n14 c2 c3 c4 c5 c6 c9 c12 c13 c14:Nat) (i7 i8:Int) (uf un:Value),v = .agg #[.string s0,.string s1,.slice p2 n2 c2,.slice p3 n3 c3,.slice p4 n4 c4,.slice p5 n5 c5,.slice p6 n6 c6,i64 i7,i64 i8,.slice p9 n9 c9,uf,un,.slice p12 n12 c12,.slice p13 n13 c13,.slice p14 n14 c14]∧fO h uf fr∧bj h un l
theorem l7.mono {h h':ah} {v:Value} {fr:List gO} {l:List ByteArray} (hr:l7 h v fr l) (hp:h <+: h'):l7 h' v fr l:=by{
obtain⟨s0,s1,p2,p3,p4,p5,p6,p9,p12,p13,p14,n2,n3,n4,n5,n6,n9,n12,n13,n14,c2,c3,c4,c5,c6,c9,c12,c13,c14,i7,i8,uf,un,rfl,hf,hn⟩:=hr
obtain⟨pf,cf,rfl⟩:=hf.form
obtain⟨pn,cn,rfl⟩:=hn.form
exact⟨_,_,_,_,_,_,_,_,_,_,_,_,_,_,_,_,_,_,_,_,_,_,_,_,_,_,_,_,_,_,_,_,_,rfl,hf.mono hp,hn.mono hp⟩}
end
end Go.Proofs.YtmdmimkbpikmoaaGreat
namespace Go.Proofs.YtmdmimkbpikmoaaGreat
set_option maxRecDepth 20000
open Go.ChangeShapes Go.WideShapes Go.ChangeAt Go.RowKit Am Ty
def A2:List TypeId:=[43,28,34,35,67,36,9,41,22,51,4,49,56,3,54,52,23,80,82,
 24,112,25,114,26,85,83,136,32,63,61,65,39,37,70,38]
set_option maxRecDepth 100000 in
theorem Du:A2.all (qy Tryz.prog A2)=true:=by kernel_rfl
theorem iv {h:ah} {n:Nat} {vs:List Value} (k:gL Tryz.prog h n 9 vs):∃ s:ByteArray,vs=[.string s]∧s.size≤140737488355328:=by{
cases n with
| zero=>exact k.elim
| succ n=>
  unfold gL at k
  rw[show Tryz.prog.underlying 9=some .string by kernel_rfl] at k
  obtain⟨s,h1,h2⟩:=k
  exact⟨s,h1,Nat.le_trans h2 (by decide)⟩}
theorem KE {α:Type} {f:α→Value}:∀ l:List α,l.flatMap (fun x=>[f x])=l.map f
 | []=>rfl
 | x :: l=>by rw[List.flatMap_cons,KE l];rfl
theorem Ho {h:ah} {n:Nat} {vs:List Value} (k:gL Tryz.prog h n 36 vs):∃ u l,vs=[u]∧bj h u l∧∀ s∈l,s.size≤140737488355328:=by{
cases n with
| zero=>exact k.elim
| succ n=>
  unfold gL at k
  rw[show Tryz.prog.underlying 36=some (.slice 9) by kernel_rfl] at k
  rcases k with rfl|rfl|⟨id,len,c,cells,rfl,hb,hid,he⟩
  ·exact⟨_,[],rfl,⟨by simp,.inl ⟨.inl rfl,rfl,rfl⟩⟩,by simp⟩
  ·exact⟨_,[],rfl,⟨by simp,.inl ⟨.inr rfl,rfl,rfl⟩⟩,by simp⟩
  ·obtain⟨l,rfl,rfl,hq⟩:=tn (f:=fun s=>[Value.string s]) (Q:=fun s=>s.size≤140737488355328) (fun vs h=>iv h) he
   rw[show Tryz.prog.bytesOf 9=16 by kernel_rfl] at hb
   rw[KE] at hid
   exact⟨_,l,rfl,⟨Nat.le_trans hb (by decide),.inr ⟨id,0,false,c,rfl,hid⟩⟩,hq⟩}
structure Sym where
 kind:Int
 text:ByteArray
 set:aX
 name:ByteArray
 sep:ByteArray
structure Prod where
 lex:Bool
 sort:ByteArray
 cons:ByteArray
 bracket:Bool
 aj:List Sym
structure dK where
 assoc:Int
 cons:List ByteArray
structure ew where
 sort:ByteArray
 set:aX
structure dC where
 sort:ByteArray
 jR:ByteArray
inductive Item where
 | mk (kind:Int) (text:ByteArray) (n:Int) (bG:List Item)
def Item.kind:Item→Int | .mk k _ _ _=>k
def Item.text:Item→ByteArray | .mk _ t _ _=>t
def Item.n:Item→Int | .mk _ _ n _=>n
def Item.bG:Item→List Item | .mk _ _ _ l=>l
structure Hy where
 cons:ByteArray
 bG:List Item
structure bM where
 start:ByteArray
 layout:ByteArray
 aa:List Prod
 au:List (List dK)
 follows:List ew
 al:List dC
 boxes:List Hy
def cV {α:Type} (f:α→Value→List Value) (R:ah→Value→α→Prop) (et:TypeId) (b:Nat) (h:ah) (v:Value) (l:List α):Prop:=
 ∃ us:List Value,us.length=l.length∧bT h v l.length ((l.zip us).flatMap fun p=>f p.1 p.2) et b∧∀ (i:Nat) (x:α) (u:Value),l[i]? = some x→us[i]? = some u→R h u x
section
variable {α:Type} {f:α→Value→List Value} {R:ah→Value→α→Prop} {et:TypeId} {b:Nat} {h h':ah} {v:Value} {l:List α}
theorem cV.mono (hR:∀ u x,x∈l→R h u x→R h' u x) (hr:cV f R et b h v l) (hp:h <+: h'):cV f R et b h' v l:=by
 obtain⟨us,hl,hs,hu⟩:=hr
 exact⟨us,hl,hs.mono hp,fun i r u h1 h2=>hR _ _ (List.mem_of_getElem? h1) (hu i r u h1 h2)⟩
theorem cV.form (hr:cV f R et b h v l):∃ p c,v = .slice p l.length c:=by
 obtain⟨_,_,hs,_⟩:=hr
 exact hs.form
theorem cV.le (hr:cV f R et b h v l):l.length*b≤140737488355328:=by
 obtain⟨_,_,hs,_⟩:=hr
 exact hs.1
theorem cV.at {k:Nat} (hk:∀ x u,(f x u).length=k) (hr:cV f R et b h v l) {i:Nat} (hi:i<l.length) : ∃ id ar own c cells u,v = .slice (some ⟨id,0,some ar⟩) l.length c∧h[id]? = some (.aA cells ar own et)∧jU cells (i*k) k=some (f l[i] u)∧R h u l[i]:=by{
obtain⟨us,hl,hs,hu⟩:=hr
obtain⟨id,ar,own,c,rfl,hid⟩:=hs.at om
have hi':i<us.length:=hl▸hi
refine⟨id,ar,own,c,_,us[i],rfl,hid,?_,hu i l[i] us[i] (by simp [hi]) (by simp [hi'])⟩
refine bS (f:=fun p:α×Value=>f p.1 p.2) (fun _=>hk _ _) (l.zip us) i (l[i],us[i]) ?_
simp [List.getElem?_zip_eq_some,hi,hl▸hi]}
theorem cV.nil:cV f R et b h (.slice none 0 0) []:=⟨[],rfl,⟨by simp,.inl ⟨.inl rfl,rfl,rfl⟩⟩,fun i r u h=>by simp at h⟩
theorem Dh {n:Nat} {t:TypeId} {vs:List Value} {Q:α→Prop} (hu:Tryz.prog.underlying t=some (.slice et)) (hb:Tryz.prog.bytesOf et=b) (hel:∀ vs,gL Tryz.prog h n et vs→∃ x u,vs=f x u∧R h u x∧Q x) (k:gL Tryz.prog h (n+1) t vs) : ∃ u l,vs=[u]∧cV f R et b h u l∧∀ x∈l,Q x:=by{
unfold gL at k
rw[hu] at k
rcases k with rfl|rfl|⟨id,len,c,cells,rfl,hb',hid,he⟩
·exact⟨_,[],rfl,cV.nil,by simp⟩
·exact⟨_,[],rfl,⟨[],rfl,⟨by simp,.inl ⟨.inr rfl,rfl,rfl⟩⟩,fun i r u h=>by simp at h⟩,by simp⟩
·obtain⟨z,rfl,rfl,hz⟩:=tn (f:=fun p:α×Value=>f p.1 p.2) (Q:=fun p=>R h p.2 p.1∧Q p.1) (fun vs h=>by obtain⟨x,u,e,q⟩:=hel vs h;exact⟨(x,u),e,q⟩) he
 rw[hb] at hb'
 refine⟨_,z.map (·.1),rfl,⟨z.map (·.2),by simp,⟨by rw[List.length_map];exact Nat.le_trans hb' (by decide),.inr ⟨id,0,false,c,by rw[List.length_map],by rw[qz];exact hid⟩⟩,fun i r u h1 h2=>?_⟩,fun x hx=>?_⟩
 ·rw[List.getElem?_map,Option.map_eq_some_iff] at h1 h2
  obtain⟨p,h3,rfl⟩:=h1
  obtain⟨q,h4,rfl⟩:=h2
  obtain rfl:=Option.some.inj (h3.symm.trans h4)
  exact (hz p (List.mem_of_getElem? h3)).1
 ·rw[List.mem_map] at hx
  obtain⟨p,hp,rfl⟩:=hx
  exact (hz p hp).2}
theorem Lx {n:Nat} {t:TypeId} {vs:List Value} {g:α→List Value} {Q:α→Prop} (hu:Tryz.prog.underlying t=some (.slice et)) (hb:Tryz.prog.bytesOf et=b) (hel:∀ vs,gL Tryz.prog h n et vs→∃ x,vs=g x∧Q x) (k:gL Tryz.prog h (n+1) t vs) : ∃ (u:Value) (l:List α),vs=[u]∧bT h u l.length (l.flatMap g) et b∧∀ x∈l,Q x:=by{
unfold gL at k
rw[hu] at k
rcases k with rfl|rfl|⟨id,len,c,cells,rfl,hb',hid,he⟩
·exact⟨_,[],rfl,⟨by simp,.inl ⟨.inl rfl,rfl,rfl⟩⟩,by simp⟩
·exact⟨_,[],rfl,⟨by simp,.inl ⟨.inr rfl,rfl,rfl⟩⟩,by simp⟩
·obtain⟨l,rfl,rfl,hq⟩:=tn (f:=g) (Q:=Q) hel he
 rw[hb] at hb'
 exact⟨_,l,rfl,⟨Nat.le_trans hb' (by decide),.inr ⟨id,0,false,c,rfl,hid⟩⟩,hq⟩}
end
abbrev mo:Nat:=140737488355328
def Sym.cells (s:Sym):List Value:=[i64 s.kind,.string s.text,u64 s.set.a,u64 s.set.b,u64 s.set.c,u64 s.set.d,.string s.name,.string s.sep]
def ew.cells (s:ew):List Value:=[.string s.sort,u64 s.set.a,u64 s.set.b,u64 s.set.c,u64 s.set.d]
def dC.cells (s:dC):List Value:=[.string s.sort,.string s.jR]
structure ul (s:Sym):Prop where
 text:s.text.size≤mo
 name:s.name.size≤mo
 sep:s.sep.size≤mo
 set:du s.set
structure oK (p:Prod):Prop where
 sort:p.sort.size≤mo
 cons:p.cons.size≤mo
 aj:∀ s∈p.aj,ul s
def fR (h:ah) (v:Value) (l:List Sym):Prop:=bT h v l.length (l.flatMap Sym.cells) 56 88
def eR:ah→Value→List Prod→Prop:=cV (fun p u=>[.bool p.lex,.string p.sort,.string p.cons,.bool p.bracket,u]) (fun h u p=>fR h u p.aj) 51 72
def eL:ah→Value→List dK→Prop:=cV (fun p u=>[i64 p.assoc,u]) (fun h u p=>bj h u p.cons) 82 32
def j1:ah→Value→List (List dK)→Prop:=cV (fun _ u=>[u]) (fun h u p=>eL h u p) 80 24
def oX (h:ah) (v:Value) (l:List ew):Prop:=bT h v l.length (l.flatMap ew.cells) 112 48
def pJ (h:ah) (v:Value) (l:List dC):Prop:=bT h v l.length (l.flatMap dC.cells) 114 32
inductive bJ (h:ah):Value→List Item→Prop where
 | mk {v:Value} {l:List Item} (us:List Value):us.length=l.length→bT h v l.length ((l.zip us).flatMap fun p=>[i64 p.1.kind,.string p.1.text,i64 p.1.n,p.2]) 136 56→(∀ (i:Nat) (x:Item) (u:Value),l[i]? = some x→us[i]? = some u→bJ h u x.bG)→bJ h v l
theorem bJ.iff {h:ah} {v:Value} {l:List Item}:bJ h v l↔cV (fun p u=>[i64 p.kind,.string p.text,i64 p.n,u]) (fun h u p=>bJ h u p.bG) 136 56 h v l:=
 ⟨fun k=>by cases k with|mk us h1 h2 h3=>exact⟨us,h1,h2,h3⟩,fun ⟨us,h1,h2,h3⟩=>.mk us h1 h2 h3⟩
def lY:ah→Value→List Hy→Prop:=cV (fun p u=>[.string p.cons,u]) (fun h u p=>bJ h u p.bG) 85 40
def bM.val (d:bM) (up uc uf ur ub:Value):List Value:=[.string d.start,.string d.layout,up,uc,uf,ur,ub]
structure bH (h:ah) (d:bM) (up uc uf ur ub:Value):Prop where
 aa:eR h up d.aa
 au:j1 h uc d.au
 follows:oX h uf d.follows
 al:pJ h ur d.al
 boxes:lY h ub d.boxes
theorem bH.form {h:ah} {d:bM} {up uc uf ur ub:Value} (k:bH h d up uc uf ur ub):∃ p1 c1 p2 c2 p3 c3 p4 c4 p5 c5,up = .slice p1 d.aa.length c1∧uc = .slice p2 d.au.length c2∧uf = .slice p3 d.follows.length c3∧ur = .slice p4 d.al.length c4∧ub = .slice p5 d.boxes.length c5∧d.aa.length≤140737488355328∧d.au.length≤140737488355328∧d.follows.length≤140737488355328∧d.al.length≤140737488355328∧d.boxes.length≤140737488355328:=by{
obtain⟨p1,c1,rfl⟩:=cV.form k.aa
obtain⟨p2,c2,rfl⟩:=cV.form k.au
obtain⟨p3,c3,rfl⟩:=bT.form k.follows
obtain⟨p4,c4,rfl⟩:=bT.form k.al
obtain⟨p5,c5,rfl⟩:=cV.form k.boxes
exact⟨p1,c1,p2,c2,p3,c3,p4,c4,p5,c5,rfl,rfl,rfl,rfl,rfl,by have:=cV.le k.aa;omega,by have:=cV.le k.au;omega,by have:=k.follows.1;omega,by have:=k.al.1;omega,by have:=cV.le k.boxes;omega⟩}
def yF (h:ah) (v:Value) (d:bM):Prop:=∃ up uc uf ur ub,v = .agg (d.val up uc uf ur ub).toArray∧bH h d up uc uf ur ub
structure qd (d:bM):Prop where
 start:d.start.size≤mo
 layout:d.layout.size≤mo
 aa:∀ p∈d.aa,oK p
 au:∀ c∈d.au,∀ g∈c,∀ s∈g.cons,s.size≤mo
 follows:∀ f∈d.follows,f.sort.size≤mo∧du f.set
 al:∀ f∈d.al,f.sort.size≤mo∧f.jR.size≤mo
 boxes:∀ f∈d.boxes,f.cons.size≤mo
theorem bJ.mono {h h':ah} {v:Value} {l:List Item} (k:bJ h v l) (hp:h <+: h'):bJ h' v l:=by
 induction k with
 | mk us h1 h2 _ ih=>exact .mk us h1 (h2.mono hp) ih
theorem fR.mono {h h':ah} {v:Value} {l:List Sym} (hr:fR h v l) (hp:h <+: h'):fR h' v l:=bT.mono hr hp
theorem eR.mono {h h':ah} {v:Value} {l:List Prod} (hr:eR h v l) (hp:h <+: h'):eR h' v l:=cV.mono (fun _ _ _ k=>fR.mono k hp) hr hp
theorem eL.mono {h h':ah} {v:Value} {l:List dK} (hr:eL h v l) (hp:h <+: h'):eL h' v l:=cV.mono (fun _ _ _ k=>bj.mono k hp) hr hp
theorem j1.mono {h h':ah} {v:Value} {l:List (List dK)} (hr:j1 h v l) (hp:h <+: h'):j1 h' v l:=cV.mono (fun _ _ _ k=>eL.mono k hp) hr hp
theorem lY.mono {h h':ah} {v:Value} {l:List Hy} (hr:lY h v l) (hp:h <+: h'):lY h' v l:=cV.mono (fun _ _ _ k=>bJ.mono k hp) hr hp
theorem bH.mono {h h':ah} {d:bM} {up uc uf ur ub:Value} (hr:bH h d up uc uf ur ub) (hp:h <+: h'):bH h' d up uc uf ur ub:=
 ⟨hr.aa.mono hp,hr.au.mono hp,bT.mono hr.follows hp,bT.mono hr.al hp,hr.boxes.mono hp⟩
theorem yF.mono {h h':ah} {v:Value} {d:bM} (hr:yF h v d) (hp:h <+: h'):yF h' v d:=by
 obtain⟨up,uc,uf,ur,ub,rfl,k⟩:=hr
 exact⟨up,uc,uf,ur,ub,rfl,k.mono hp⟩
section
variable {h:ah} {n:Nat} {vs:List Value}
theorem BP (k:gL Tryz.prog h n 4 vs):∃ b,vs=[.bool b]:=by{
cases n with
| zero=>exact k.elim
| succ n=>
  unfold gL at k
  rw[show Tryz.prog.underlying 4=some .bool by kernel_rfl] at k
  exact k}
theorem Kq (k:gL Tryz.prog h n 56 vs):∃ s:Sym,vs=s.cells∧ul s:=by{
cases n with
| zero=>exact k.elim
| succ n=>
  obtain⟨a0,b0,rfl,_,k0,a1,b1,rfl,_,k1,a2,b2,rfl,_,k2,a3,b3,rfl,_,k3,a4,b4,rfl,_,k4,rfl⟩:=gH (l:=[3,9,54,9,9]) kr kr k
  obtain⟨i,rfl,_⟩:=wY k0
  obtain⟨s1,rfl,w1⟩:=iv k1
  obtain⟨s2,rfl,w2⟩:=Gr k2
  obtain⟨s3,rfl,w3⟩:=iv k3
  obtain⟨s4,rfl,w4⟩:=iv k4
  exact⟨⟨i,s1,s2,s3,s4⟩,rfl,w1,w3,w4,w2⟩}
theorem EO (k:gL Tryz.prog h n 49 vs):∃ u l,vs=[u]∧fR h u l∧∀ s∈l,ul s:=by{
cases n with
| zero=>exact k.elim
| succ n=>exact Lx (et:=56) (g:=Sym.cells) (Q:=ul) kr kr (fun vs k=>Kq k) k}
theorem HO (k:gL Tryz.prog h n 51 vs):∃ (p:Prod) (u:Value),vs=[.bool p.lex,.string p.sort,.string p.cons,.bool p.bracket,u]∧fR h u p.aj∧oK p:=by{
cases n with
| zero=>exact k.elim
| succ n=>
  obtain⟨a0,b0,rfl,_,k0,a1,b1,rfl,_,k1,a2,b2,rfl,_,k2,a3,b3,rfl,_,k3,a4,b4,rfl,_,k4,rfl⟩:=gH (l:=[4,9,9,4,49]) kr kr k
  obtain⟨x0,rfl⟩:=BP k0
  obtain⟨s1,rfl,w1⟩:=iv k1
  obtain⟨s2,rfl,w2⟩:=iv k2
  obtain⟨x3,rfl⟩:=BP k3
  obtain⟨u,l,rfl,hl,w4⟩:=EO k4
  exact⟨⟨x0,s1,s2,x3,l⟩,u,rfl,hl,w1,w2,w4⟩}
theorem Gd (k:gL Tryz.prog h n 22 vs):∃ u l,vs=[u]∧eR h u l∧∀ p∈l,oK p:=by{
cases n with
| zero=>exact k.elim
| succ n=>exact Dh (et:=51) kr kr (fun vs k=>HO k) k}
theorem E7 (k:gL Tryz.prog h n 82 vs):∃ (p:dK) (u:Value),vs=[i64 p.assoc,u]∧bj h u p.cons∧∀ s∈p.cons,s.size≤mo:=by{
cases n with
| zero=>exact k.elim
| succ n=>
  obtain⟨a0,b0,rfl,_,k0,a1,b1,rfl,_,k1,rfl⟩:=gH (l:=[3,36]) kr kr k
  obtain⟨i,rfl,_⟩:=wY k0
  obtain⟨u,l,rfl,hl,w⟩:=Ho k1
  exact⟨⟨i,l⟩,u,rfl,hl,w⟩}
theorem F7 (k:gL Tryz.prog h n 80 vs):∃ u l,vs=[u]∧eL h u l∧∀ g∈l,∀ s∈g.cons,s.size≤mo:=by{
cases n with
| zero=>exact k.elim
| succ n=>exact Dh (et:=82) (Q:=fun g:dK=>∀ s∈g.cons,s.size≤mo) kr kr (fun vs k=>E7 k) k}
theorem DC (k:gL Tryz.prog h n 23 vs):∃ u l,vs=[u]∧j1 h u l∧∀ c∈l,∀ g∈c,∀ s∈g.cons,s.size≤mo:=by{
cases n with
| zero=>exact k.elim
| succ n=>exact Dh (et:=80) (Q:=fun c:List dK=>∀ g∈c,∀ s∈g.cons,s.size≤mo) kr kr (fun vs k=>by obtain⟨u,l,e,h1,h2⟩:=F7 k;exact⟨l,u,e,h1,h2⟩) k}
theorem CF (k:gL Tryz.prog h n 112 vs):∃ s:ew,vs=s.cells∧s.sort.size≤mo∧du s.set:=by{
cases n with
| zero=>exact k.elim
| succ n=>
  obtain⟨a0,b0,rfl,_,k0,a1,b1,rfl,_,k1,rfl⟩:=gH (l:=[9,54]) kr kr k
  obtain⟨s1,rfl,w1⟩:=iv k0
  obtain⟨s2,rfl,w2⟩:=Gr k1
  exact⟨⟨s1,s2⟩,rfl,w1,w2⟩}
theorem Ed (k:gL Tryz.prog h n 114 vs):∃ s:dC,vs=s.cells∧s.sort.size≤mo∧s.jR.size≤mo:=by{
cases n with
| zero=>exact k.elim
| succ n=>
  obtain⟨a0,b0,rfl,_,k0,a1,b1,rfl,_,k1,rfl⟩:=gH (l:=[9,9]) kr kr k
  obtain⟨s1,rfl,w1⟩:=iv k0
  obtain⟨s2,rfl,w2⟩:=iv k1
  exact⟨⟨s1,s2⟩,rfl,w1,w2⟩}
theorem zY (k:gL Tryz.prog h n 24 vs):∃ u l,vs=[u]∧oX h u l∧∀ s∈l,s.sort.size≤mo∧du s.set:=by{
cases n with
| zero=>exact k.elim
| succ n=>exact Lx (et:=112) (g:=ew.cells) (Q:=fun s:ew=>s.sort.size≤mo∧du s.set) kr kr (fun vs k=>CF k) k}
theorem A9 (k:gL Tryz.prog h n 25 vs):∃ u l,vs=[u]∧pJ h u l∧∀ s∈l,s.sort.size≤mo∧s.jR.size≤mo:=by{
cases n with
| zero=>exact k.elim
| succ n=>exact Lx (et:=114) (g:=dC.cells) (Q:=fun s:dC=>s.sort.size≤mo∧s.jR.size≤mo) kr kr (fun vs k=>Ed k) k}
end
theorem yd {h:ah}:∀ {n:Nat} {vs:List Value},gL Tryz.prog h n 83 vs→∃ u l,vs=[u]∧bJ h u l
 | 0,_,k=>k.elim
 | 1,vs,k=>by
   obtain⟨u,l,e,h1,_⟩:=Dh (et:=136) (f:=fun (p:Item) u=>[i64 p.kind,.string p.text,i64 p.n,u]) (R:=fun h u p=>bJ h u p.bG) (b:=56) (n:=0) (h:=h) (Q:=fun _:Item=>True) kr kr (fun vs k=>False.elim k) k
   exact⟨u,l,e,bJ.iff.2 h1⟩
 | n+2,vs,k=>by
   obtain⟨u,l,e,h1,_⟩:=Dh (et:=136) (f:=fun (p:Item) u=>[i64 p.kind,.string p.text,i64 p.n,u]) (R:=fun h u p=>bJ h u p.bG) (b:=56) (Q:=fun _:Item=>True) kr kr (fun vs k=>by
    obtain⟨a0,b0,rfl,_,k0,a1,b1,rfl,_,k1,a2,b2,rfl,_,k2,a3,b3,rfl,_,k3,rfl⟩:=gH (l:=[3,9,3,83]) kr kr k
    obtain⟨i,rfl,_⟩:=wY k0
    obtain⟨s1,rfl,w1⟩:=iv k1
    obtain⟨j,rfl,_⟩:=wY k2
    obtain⟨u,l,rfl,hl⟩:=yd k3
    exact⟨.mk i s1 j l,u,rfl,hl,trivial⟩) k
   exact⟨u,l,e,bJ.iff.2 h1⟩
section
variable {h:ah} {n:Nat} {vs:List Value}
theorem Mc (k:gL Tryz.prog h n 85 vs):∃ (p:Hy) (u:Value),vs=[.string p.cons,u]∧bJ h u p.bG∧p.cons.size≤mo:=by{
cases n with
| zero=>exact k.elim
| succ n=>
  obtain⟨a0,b0,rfl,_,k0,a1,b1,rfl,_,k1,rfl⟩:=gH (l:=[9,83]) kr kr k
  obtain⟨s1,rfl,w1⟩:=iv k0
  obtain⟨u,l,rfl,hl⟩:=yd k1
  exact⟨⟨s1,l⟩,u,rfl,hl,w1⟩}
theorem Hn (k:gL Tryz.prog h n 26 vs):∃ u l,vs=[u]∧lY h u l∧∀ s∈l,s.cons.size≤mo:=by{
cases n with
| zero=>exact k.elim
| succ n=>exact Dh (et:=85) (Q:=fun s:Hy=>s.cons.size≤mo) kr kr (fun vs k=>Mc k) k}
theorem LS (k:gL Tryz.prog h n 28 vs):∃ d:bM,yF h (.agg vs.toArray) d∧qd d:=by{
cases n with
| zero=>exact k.elim
| succ n=>
  obtain⟨a0,b0,rfl,_,k0,a1,b1,rfl,_,k1,a2,b2,rfl,_,k2,a3,b3,rfl,_,k3,a4,b4,rfl,_,k4,a5,b5,rfl,_,k5,a6,b6,rfl,_,k6,rfl⟩:=gH (l:=[9,9,22,23,24,25,26]) kr kr k
  obtain⟨s0,rfl,w0⟩:=iv k0
  obtain⟨s1,rfl,w1⟩:=iv k1
  obtain⟨u2,l2,rfl,h2,w2⟩:=Gd k2
  obtain⟨u3,l3,rfl,h3,w3⟩:=DC k3
  obtain⟨u4,l4,rfl,h4,w4⟩:=zY k4
  obtain⟨u5,l5,rfl,h5,w5⟩:=A9 k5
  obtain⟨u6,l6,rfl,h6,w6⟩:=Hn k6
  exact⟨⟨s0,s1,l2,l3,l4,l5,l6⟩,⟨u2,u3,u4,u5,u6,rfl,h2,h3,h4,h5,h6⟩,w0,w1,w2,w3,w4,w5,w6⟩}
end
theorem HJ {h:ah} {a:Value} (k:OJ Tryz.prog h 28 a):∃ d:bM,yF h a d∧qd d:=by{
obtain⟨n,vs,k,⟨_,rfl⟩ | ⟨h1,_⟩⟩:=k
·exact LS k
·have:lE Tryz.prog 28=true:=by kernel_rfl
 rw[this] at h1
 cases h1}
end Go.Proofs.YtmdmimkbpikmoaaGreat
namespace Go.Proofs.YtmdmimkbpikmoaaGreat
set_option maxRecDepth 20000
open Go.RowKit Am Ty
mutual
def Rs:Item→Nat
 | .mk _ _ _ l=>iY l
def iY:List Item→Nat
 | []=>0
 | x :: r=>1+Rs x+iY r
end
theorem J3 (x:Item):Rs x=iY x.bG:=by cases x;rfl
def s6 (l:List Item):Nat:=(l.map fun x=>iY x.bG).sum
theorem lW:∀ l:List Item,iY l=l.length+s6 l
 | []=>rfl
 | x :: l=>by
   unfold iY
   rw[lW l,J3]
   simp only[s6,List.length_cons,List.map_cons,List.sum_cons]
   omega
theorem uU {l:List Item} {k:Nat} (hk:k<l.length):s6 (l.take (k+1))=s6 (l.take k)+iY l[k].bG:=by{
unfold s6
rw[List.take_succ_eq_append_getElem hk,List.map_append,List.sum_append]
simp only[List.map_cons,List.map_nil,List.sum_cons,List.sum_nil,Nat.add_zero]}
theorem BL {l:List Item} {k:Nat}:s6 (l.take k)≤s6 l:=by{
unfold s6
conv=>rhs;rw[← List.take_append_drop k l,List.map_append,List.sum_append]
omega}
structure Lc (c:Nat) (m:Int):Prop where
 eq:c≤1000000000000→0≤m∧m≤c∧(m=c∨160<m)
theorem Lc.add {c c' t:Nat} {m m':Int} (h:Lc c m) (h':Lc c' m') (hle:m≤160) (e:t=c+c'):Lc t (IntKind.i64.wrap (m+m')):=by{
subst e
refine⟨fun hc=>?_⟩
obtain⟨a1,a2,a3⟩:=h.eq om
obtain⟨b1,b2,b3⟩:=h'.eq om
rw[ax om om]
omega}
section
variable {h:ah}
theorem rT {l:List Item} {us:List Value} (hl:us.length=l.length) {i:Nat} (hi:i<l.length) :
 jU ((l.zip us).flatMap fun p=>[i64 p.1.kind,.string p.1.text,i64 p.1.n,p.2]) (i*4) 4=some [i64 l[i].kind,.string l[i].text,i64 l[i].n,us[i]'(hl▸hi)]:=by
 refine bS (f:=fun p:Item×Value=>[i64 p.1.kind,.string p.1.text,i64 p.1.n,p.2]) (fun _=>rfl) (l.zip us) i (l[i],us[i]'(hl▸hi)) ?_
 simp [List.getElem?_zip_eq_some,hi,hl▸hi]
theorem vL {v:Value} {l:List Item} (hr:bJ h v l):FW env 55 [v,i64 160] h fun r h'=>(∃ m,Lc (iY l) m∧r=i64 m)∧h'=h:=by{
induction hr with
| @mk v l us hl hs hu ih=>
  obtain⟨p,c,rfl⟩:=hs.form
  have hle:=hs.1
  have hn:l.length≤140737488355328:=by omega
  refine fe Tryz.func55 ?_;simp only[push_cast]
  refine aC ?_
  refine aZ l.length (fun k (m:Int)=>[(0,.val (.slice p l.length c)),(1,.val (i64 160)),(5,.val (i64 m)),(6,.val (i64 k))]) (fun _ _=>h) (fun k m=>Lc (l.length+s6 (l.take k)) m) (l.length:Int) aK rfl ⟨fun _=>by simp [s6]⟩ ?_
  intro k m hk hC
  have hend:Lc (l.length+s6 (l.take k)) m→(160<m∨k=l.length)→Lc (iY l) m:=fun hC ho=>by
   rw[lW]
   refine⟨fun hc=>?_⟩
   have:=BL (l:=l) (k:=k)
   obtain⟨a1,a2,a3⟩:=hC.eq om
   rcases ho with ho|rfl
   ·exact⟨a1,by omega,.inr ho⟩
   ·rw[List.take_length] at a2 a3
    exact⟨a1,a2,a3⟩
  by_cases hlt:k<l.length
  ·by_cases q:m≤160
   ·obtain⟨id,ar,own,c',hv,hid⟩:=bT.at hs om
    cases hv
    have e1:=cg hlt
    have e2:=inc hlt hn
    have e3:=aS hlt
    have d1:=decide_eq_true q
    have hi':k<us.length:=hl▸hlt
    have hg:=rT hl hlt
    have hg3:=eK (j:=3) hg om
    simp only[List.getElem?_cons_succ,List.getElem?_cons_zero] at hg3
    have hrec:=ih k l[k] us[k] (by simp [hlt]) (by simp [hi'])
    refine fh e3 d1 ?_
    refine ae rfl ?_
    refine gV e1 hid hg3 ?_
    refine zj Tryz.func55 ?_
    refine hrec.mono ?_
    rintro _ h1 ⟨⟨m',hm,rfl⟩,rfl⟩
    refine aG e2 ?_
    exact⟨hlt,IntKind.i64.wrap (m+m'),aK,rfl,hC.add hm q (by rw[uU hlt];omega)⟩
   ·have e3:=aS hlt
    have d1:=decide_eq_false q
    refine fh e3 d1 ?_
    refine af rfl ?_
    refine az ?_
    show CW _ _ _ _
    refine aC ?_
    refine ai ?_
    exact⟨_,ak,⟨m,hend hC (.inl om),rfl⟩,rfl⟩
  ·have e3:=aP hlt
   obtain rfl:k=l.length:=by omega
   refine aG e3 ?_
   refine af rfl ?_
   refine az ?_
   show CW _ _ _ _
   refine aC ?_
   refine ai ?_
   exact⟨_,ak,⟨m,hend hC (.inr rfl),rfl⟩,rfl⟩}
end
def cJ {α:Type} (f:α→Nat) (l:List α):Nat:=(l.map f).sum
theorem gK {α:Type} {f:α→Nat} {l:List α} {k:Nat} (hk:k<l.length):cJ f (l.take (k+1))=cJ f (l.take k)+f l[k]:=by{
unfold cJ
rw[List.take_succ_eq_append_getElem hk,List.map_append,List.sum_append]
simp only[List.map_cons,List.map_nil,List.sum_cons,List.sum_nil,Nat.add_zero]}
theorem jC {α:Type} {f:α→Nat} {l:List α} {k:Nat}:cJ f (l.take k)≤cJ f l:=by{
unfold cJ
conv=>rhs;rw[← List.take_append_drop k l,List.map_append,List.sum_append]
omega}
theorem sN {α:Type} {f:α→Nat}:∀ {l:List α} {x:α},x∈l→f x≤cJ f l
 | y :: l,x,h=>by
   simp only[cJ,List.map_cons,List.sum_cons]
   rcases List.mem_cons.1 h with rfl|h
   ·omega
   ·have:=sN (f:=f) h
    unfold cJ at this
    omega
def vy (c:List dK):Nat:=c.length+cJ (fun g=>g.cons.length) c
def cX (d:bM):Nat:=d.aa.length+d.au.length+d.follows.length+d.al.length+d.boxes.length+cJ (fun p=>p.aj.length) d.aa+cJ vy d.au+cJ (fun b=>iY b.bG) d.boxes
structure lN (c:Nat) (m:Int):Prop where
 lo:0≤m
 hi:m≤1000000000000000
 eq:m=c∨(160<m∧160<c)
theorem lN.add {c t c':Nat} {m:Int} (h:lN c m) (hm:m≤160) (ht:t≤140737488355328) (e:c'=c+t):lN c' (m+t):=by{
subst e
obtain⟨a,b,e⟩:=h
exact⟨by omega,by omega,by omega⟩}
theorem lN.To {c c':Nat} {m:Int} (h:lN c m) (hm:160<m) (hc:c≤c'):lN c' m:=by
 obtain⟨a,b,e⟩:=h
 exact⟨a,b,by omega⟩
theorem lN.wr {c:Nat} {m:Int} {t:Nat} (h:lN c m) (ht:t≤140737488355328):IntKind.i64.wrap (m+t)=m+t:=by
 obtain⟨a,b,e⟩:=h
 exact ax om om
def wV (d:bM):Prop:=∀ b∈d.boxes,iY b.bG≤1000000000000
section
variable {h:ah} {d:bM} {up uc uf ur ub:Value}
theorem Hj (hd:bH h d up uc uf ur ub):FW env 25 [.agg (d.val up uc uf ur ub).toArray,i64 160] h fun r h'=>(∃ m,(wV d→lN (cX d) m)∧r=i64 m)∧h'=h:=by{
obtain⟨p1,c1,p2,c2,p3,c3,p4,c4,p5,c5,rfl,rfl,rfl,rfl,rfl,l1,l2,l3,l4,l5⟩:=bH.form hd
have e1:IntKind.i64.wrap ((d.aa.length:Int)+(d.au.length:Int))=(d.aa.length:Int)+d.au.length:=ax om om
have e2:IntKind.i64.wrap ((d.aa.length:Int)+(d.au.length:Int)+d.follows.length)=(d.aa.length:Int)+d.au.length+d.follows.length:=ax om om
have e3:IntKind.i64.wrap ((d.aa.length:Int)+(d.au.length:Int)+d.follows.length+d.al.length)=(d.aa.length:Int)+d.au.length+d.follows.length+d.al.length:=ax om om
have e4:IntKind.i64.wrap ((d.aa.length:Int)+(d.au.length:Int)+d.follows.length+d.al.length+d.boxes.length)=(d.aa.length:Int)+d.au.length+d.follows.length+d.al.length+d.boxes.length:=ax om om
obtain⟨B,hB⟩:∃ B:List Value,B=[.string d.start,.string d.layout,.slice p1 d.aa.length c1,.slice p2 d.au.length c2,.slice p3 d.follows.length c3,.slice p4 d.al.length c4,.slice p5 d.boxes.length c5]:=⟨_,rfl⟩
obtain⟨b0,hb0⟩:∃ b0:Nat,b0=d.aa.length+d.au.length+d.follows.length+d.al.length+d.boxes.length:=⟨_,rfl⟩
refine fe Tryz.func25 ?_;simp only[push_cast]
unfold bM.val
refine fi e1 e2 e3 e4 ?_
refine CW.mono (Q:=fun e s'=>e = .exit 0∧∃ m,lN (b0+cJ (fun p=>p.aj.length) d.aa) m∧s'.h=h∧bA [(1,.val (i64 160)),(2,.box B),(5,.val (i64 m))] s'.fr) ?_ ?_
·refine aZ d.aa.length (fun k (m:Int)=>[(1,.val (i64 160)),(2,.box B),(5,.val (i64 m)),(6,.val (i64 k))]) (fun _ _=>h) (fun k m=>lN (b0+cJ (fun p=>p.aj.length) (d.aa.take k)) m) (b0:Int) (by rw[hB,hb0];push_cast;exact aK) rfl ⟨by omega,by omega,.inl (by simp [cJ])⟩ ?_
 intro k m hk hC
 by_cases hlt:k<d.aa.length
 ·have q3:=aS hlt
  by_cases q:m≤160
  ·obtain⟨id,ar,own,c',cells,u,hv,hid,hrd,hu⟩:=cV.at (k:=5) (fun _ _=>rfl) hd.aa hlt
   cases hv
   obtain⟨ps,cs,rfl⟩:=bT.form hu
   have hg:=eK (j:=4) hrd om
   simp only[List.getElem?_cons_succ,List.getElem?_cons_zero] at hg
   have w1:=cg hlt
   have w2:=inc hlt l1
   have d1:=decide_eq_true q
   have hs:d.aa[k].aj.length≤140737488355328:=by have:=hu.1;omega
   have w3:=hC.wr hs
   rw[hB]
   refine fh q3 d1 ?_
   refine ae rfl ?_
   refine kL w1 hid hg w3 w2 ?_
   exact⟨hlt,m+d.aa[k].aj.length,aK,rfl,hC.add q hs (by rw[gK hlt];omega)⟩
  ·have d1:=decide_eq_false q
   rw[hB]
   refine fh q3 d1 ?_
   refine af rfl ?_
   refine az ?_
   exact⟨rfl,m,hC.To om (by have:=jC (f:=fun p:Prod=>p.aj.length) (l:=d.aa) (k:=k);omega),rfl,aK⟩
 ·have q3:=aP hlt
  obtain rfl:k=d.aa.length:=by omega
  rw[List.take_length] at hC
  rw[hB]
  refine aG q3 ?_
  refine af rfl ?_
  refine az ?_
  exact⟨rfl,m,hC,rfl,aK⟩
rintro e s' ⟨rfl,m,hC,hh,hf⟩
show CW _ _ _ _
refine aB _ hf ?_
rw[hh]
obtain⟨c1',hc1'⟩:∃ c1':Nat,c1'=b0+cJ (fun p=>p.aj.length) d.aa:=⟨_,rfl⟩
rw[← hc1'] at hC
clear hf hh s'
refine aC ?_
refine CW.mono (Q:=fun e s'=>e = .exit 2∧∃ m,lN (c1'+cJ vy d.au) m∧s'.h=h∧bA [(1,.val (i64 160)),(2,.box B),(5,.val (i64 m))] s'.fr) ?_ ?_
·refine aZ d.au.length (fun k (m:Int)=>[(1,.val (i64 160)),(2,.box B),(5,.val (i64 m)),(7,.val (i64 k))]) (fun _ _=>h) (fun k m=>lN (c1'+cJ vy (d.au.take k)) m) m aK rfl (by simpa [cJ] using hC) ?_
 clear hC m
 intro k m hk hC
 by_cases hlt:k<d.au.length
 ·have q3:=aS hlt
  by_cases q:m≤160
  ·obtain⟨id,ar,own,c',cells,u,hv,hid,hrd,hu⟩:=cV.at (k:=1) (fun _ _=>rfl) hd.au hlt
   cases hv
   obtain⟨ps,cs,rfl⟩:=cV.form hu
   have hg:=gZ hrd om
   simp only[List.getElem?_cons_zero,Nat.mul_one] at hg
   have w1:=cg hlt
   have w2:=inc hlt l2
   have d1:=decide_eq_true q
   have hs:d.au[k].length≤140737488355328:=by have:=cV.le hu;omega
   have w3:=hC.wr hs
   have hC2:lN (c1'+cJ vy (d.au.take k)+d.au[k].length) (m+d.au[k].length):=hC.add q hs rfl
   have hfin:cJ vy (d.au.take (k+1))=cJ vy (d.au.take k)+(d.au[k].length+cJ (fun g=>g.cons.length) d.au[k]):=gK hlt
   obtain⟨B',hB'⟩:∃ B',B'=B:=⟨_,rfl⟩
   rw[hB]
   refine fh q3 d1 ?_
   refine ae rfl ?_
   refine kL w1 hid hg w3 Nat.mul_one ?_
   refine CW.mono (Q:=fun e s'=>e = .exit 4∧∃ m,lN (c1'+cJ vy (d.au.take (k+1))) m∧s'.h=h∧bA [(1,.val (i64 160)),(2,.box B'),(5,.val (i64 m)),(7,.val (i64 k))] s'.fr) ?_ ?_
   ·refine aZ d.au[k].length (fun j (m:Int)=>[(1,.val (i64 160)),(2,.box B'),(5,.val (i64 m)),(7,.val (i64 k)),(8,.val (i64 j))]) (fun _ _=>h) (fun j m=>lN (c1'+cJ vy (d.au.take k)+d.au[k].length+cJ (fun g=>g.cons.length) (d.au[k].take j)) m) (m+d.au[k].length) (by rw[hB',hB];exact aK) rfl (by simpa [cJ] using hC2) ?_
    clear hC2 hC w3 d1 q m
    intro j m hj hC
    rw[hB',hB]
    by_cases hjl:j<d.au[k].length
    ·have q4:=aS hjl
     by_cases q:m≤160
     ·obtain⟨id2,ver2,own2,c2',cells2,u2,hv2,hid2,hrd2,hu2⟩:=cV.at (k:=2) (fun _ _=>rfl) hu hjl
      cases hv2
      obtain⟨ps2,cs2,rfl⟩:=bT.form hu2
      have hg2:=eK (j:=1) hrd2 om
      simp only[List.getElem?_cons_succ,List.getElem?_cons_zero] at hg2
      have w4:=cg hjl
      have w5:=inc hjl hs
      have d1:=decide_eq_true q
      have hs2:(d.au[k])[j].cons.length≤140737488355328:=by have:=hu2.1;omega
      have w6:=hC.wr hs2
      refine DB q4 d1 w1 hid hg Nat.mul_one ?_
      refine ae rfl ?_
      refine HU w1 hid hg Nat.mul_one w4 hid2 hg2 w6 w5 ?_
      exact⟨hjl,m+(d.au[k])[j].cons.length,aK,rfl,hC.add q hs2 (by rw[gK hjl];omega)⟩
     ·have d1:=decide_eq_false q
      refine DB q4 d1 w1 hid hg Nat.mul_one ?_
      refine af rfl ?_
      refine az ?_
      exact⟨rfl,m,hC.To om (by have:=jC (f:=fun g:dK=>g.cons.length) (l:=d.au[k]) (k:=j);omega),rfl,aK⟩
    ·have q4:=aP hjl
     obtain rfl:j=d.au[k].length:=by omega
     rw[List.take_length] at hC
     refine kL q4 w1 hid hg Nat.mul_one ?_
     refine af rfl ?_
     refine az ?_
     exact⟨rfl,m,hfin ▸ (by rw[← Nat.add_assoc,← Nat.add_assoc];exact hC),rfl,aK⟩
   rintro e s' ⟨rfl,m',hC',hh,hf⟩
   show CW _ _ _ _
   refine aB _ hf ?_
   rw[hh,hB',hB]
   refine aG w2 ?_
   exact⟨hlt,m',aK,rfl,hC'⟩
  ·have d1:=decide_eq_false q
   rw[hB]
   refine fh q3 d1 ?_
   refine af rfl ?_
   refine az ?_
   exact⟨rfl,m,hC.To om (by have:=jC (f:=vy) (l:=d.au) (k:=k);omega),rfl,aK⟩
 ·have q3:=aP hlt
  obtain rfl:k=d.au.length:=by omega
  rw[List.take_length] at hC
  rw[hB]
  refine aG q3 ?_
  refine af rfl ?_
  refine az ?_
  exact⟨rfl,m,hC,rfl,aK⟩
clear hC m
rintro e s' ⟨rfl,m,hC,hh,hf⟩
show CW _ _ _ _
refine aB _ hf ?_
rw[hh]
obtain⟨c2',hc2'⟩:∃ c2':Nat,c2'=c1'+cJ vy d.au:=⟨_,rfl⟩
rw[← hc2'] at hC
clear hf hh s'
have hpn:cX d=c2'+cJ (fun b=>iY b.bG) d.boxes:=by unfold cX;omega
refine aC ?_
refine aZ d.boxes.length (fun k (m:Int)=>[(1,.val (i64 160)),(2,.box B),(5,.val (i64 m)),(9,.val (i64 k))]) (fun _ _=>h) (fun k m=>wV d→lN (c2'+cJ (fun b=>iY b.bG) (d.boxes.take k)) m) m aK rfl (fun _=>by simpa [cJ] using hC) ?_
clear hC m
intro k m hk hC
by_cases hlt:k<d.boxes.length
·have q3:=aS hlt
 by_cases q:m≤160
 ·obtain⟨id,ar,own,c',cells,u,hv,hid,hrd,hu⟩:=cV.at (k:=2) (fun _ _=>rfl) hd.boxes hlt
  cases hv
  have hg:=eK (j:=1) hrd om
  simp only[List.getElem?_cons_succ,List.getElem?_cons_zero] at hg
  have w1:=cg hlt
  have w2:=inc hlt l5
  have d1:=decide_eq_true q
  obtain⟨ps,cs,rfl⟩:=cV.form (bJ.iff.1 hu)
  rw[hB]
  refine fh q3 d1 ?_
  refine ae rfl ?_
  refine gV w1 hid hg ?_
  refine zj Tryz.func55 ?_
  refine (vL hu).mono ?_
  rintro _ h1 ⟨⟨m',hm,rfl⟩,rfl⟩
  refine aG w2 ?_
  refine⟨hlt,IntKind.i64.wrap (m+m'),aK,rfl,fun hsm=>?_⟩
  have hC':=hC hsm
  have hle:=hsm _ (List.getElem_mem hlt)
  obtain⟨a1,a2,a3⟩:=hm.eq hle
  obtain⟨b1,b2,b3⟩:=hC'
  rw[ax om om,gK hlt]
  exact⟨by omega,by omega,by omega⟩
 ·have d1:=decide_eq_false q
  rw[hB]
  refine fh q3 d1 ?_
  refine af rfl ?_
  refine az ?_
  show CW _ _ _ _
  refine aC ?_
  refine ai ?_
  exact⟨_,ak,⟨m,fun hsm=>hpn▸(hC hsm).To om (by have:=jC (f:=fun b:Hy=>iY b.bG) (l:=d.boxes) (k:=k);omega),rfl⟩,rfl⟩
·have q3:=aP hlt
 obtain rfl:k=d.boxes.length:=by omega
 rw[List.take_length] at hC
 rw[hB]
 refine aG q3 ?_
 refine af rfl ?_
 refine az ?_
 show CW _ _ _ _
 refine aC ?_
 refine ai ?_
 exact⟨_,ak,⟨m,fun hsm=>hpn▸hC hsm,rfl⟩,rfl⟩}
end
end Go.Proofs.YtmdmimkbpikmoaaGreat
namespace Go.Proofs.YtmdmimkbpikmoaaGreat.Am
open Go.RowKit
def pg (ds:List Nat):Fr→Bool
 | []=>true
 | (k,_) :: r=>!ds.contains k&&pg ds r
theorem ji {ds:List Nat}:∀ {fr:Fr},pg ds fr=true→iq ds fr=fr
 | [],_=>rfl
 | (k,v) :: r,h=>by
   unfold pg at h
   rw[Bool.and_eq_true,Bool.not_eq_true'] at h
   unfold iq
   rw[h.1,ji h.2]
   rfl
section
variable {N:Env} {ops:Array Oper}
theorem bm {id:Nat} {fr:Fr} {h:ah} {Q:AX→St→Prop} (L:List (List Nat)) (act:List Nat) (hs:List ah) (resL:List gD) (frF:Fr) (hm:N.P.follows .mixedOrders=true) (hc:wF ops L act=true) (ha:act.all (fun a=>decide (a<ops.size))=true) (hb:pg (dstsOf ops) fr=true)
 (hS:ay N ops L act resL (h :: hs) fr 0 ops.toList) (ht:A7 ops resL=true) (hF:ia ops resL fr frF) (k:Q .normal ⟨frF,[],sP (h :: hs) act.length⟩):CW N (.region id ops true) ⟨fr,[],h⟩ Q:=
 oP L act (h :: hs) resL fr frF _ hm hc ha ht rfl rfl (ji hb) hS hF k
theorem bx {id:Nat} {fr:Fr} {h:ah} {Q:AX→St→Prop} (L:List (List Nat)) (resL:List gD) (frF:Fr) (hm:N.P.follows .mixedOrders=true) (hc:wF ops L []=true) (hb:pg (dstsOf ops) fr=true)
 (hS:aV N ops L resL fr h 0 ops.toList) (ht:A7 ops resL=true) (hF:ia ops resL fr frF) (k:Q .normal ⟨frF,[],h⟩):CW N (.region id ops true) ⟨fr,[],h⟩ Q:=
 CK L resL fr frF hm hc ht rfl (ji hb) hS hF k
end
def T1 (N:Env):Gh→Prop
 | .ops all (o :: r) s sF=>∃ s',Ev N (.ops all [o] s s')∧Ev N (.ops all r s' sF)
 | _=>True
theorem Ev.TX {N:Env} {j:Gh} (h:Ev N j):T1 N j:=by{
induction h
case pa hw h _=>exact⟨_,.pa hw (.nil _ _),h⟩
case rP hw hv h _=>exact⟨_,.rP hw hv (.nil _ _),h⟩
case xE hw hd he hne h _=>exact⟨_,.xE hw hd he hne (.nil _ _),h⟩
case xj hg hv hd h _=>exact⟨_,.xj hg hv hd (.nil _ _),h⟩
case rA hg he hd hne h _=>exact⟨_,.rA hg he hd hne (.nil _ _),h⟩
case uL hw hd hb h _=>exact⟨_,.uL hw hd hb (.nil _ _),h⟩
case xI hw hd hb h _=>exact⟨_,.xI hw hd hb (.nil _ _),h⟩
case pE hw hb h _=>exact⟨_,.pE hw hb (.nil _ _),h⟩
case o6 hw hb h _=>exact⟨_,.o6 hw hb (.nil _ _),h⟩
case DS hw hb h _=>exact⟨_,.DS hw hb (.nil _ _),h⟩
case yg hw ho ht hp hb hx hv hq hd h _=>exact⟨_,.yg hw ho ht hp hb hx hv hq hd (.nil _ _),h⟩
case pz hw ho ht ha hid hx hv hq hd h _=>exact⟨_,.pz hw ho ht ha hid hx hv hq hd (.nil _ _),h⟩
case Ff hw ho ht he hx hob hk h _=>exact⟨_,.Ff hw ho ht he hx hob hk (.nil _ _),h⟩
case BV hw hd hb h _=>exact⟨_,.BV hw hd hb (.nil _ _),h⟩
case xv hw hd ho hu h _=>exact⟨_,.xv hw hd ho hu (.nil _ _),h⟩
case EZ hs h ih=>obtain⟨s',k1,k2⟩:=ih;exact⟨s',.EZ hs k1,k2⟩
case BE hf hh he h ih=>obtain⟨s',k1,k2⟩:=ih;exact⟨s',.BE hf hh he k1,k2⟩
case uJ hw ho hu h _=>exact⟨_,.uJ hw ho hu (.nil _ _),h⟩
case um hw ho hu hkd hx hid hk hv hkk hmk hd h _=>exact⟨_,.um hw ho hu hkd hx hid hk hv hkk hmk hd (.nil _ _),h⟩
case zC hw ho hu hkd hz hx hid hk hkk hmk hm h _=>exact⟨_,.zC hw ho hu hkd hz hx hid hk hkk hmk hm (.nil _ _),h⟩
case xM hw ho hx hid hi hv hj hd h _=>exact⟨_,.xM hw ho hx hid hi hv hj hd (.nil _ _),h⟩
case oF hw ho hu h2 ht h3 h4 hx hi h5 h6 h7 h _=>exact⟨_,.oF hw ho hu h2 ht h3 h4 hx hi h5 h6 h7 (.nil _ _),h⟩
case uR hw ho hu h2 ht h3 h4 hx hid h8 hi h5 h6 h _=>exact⟨_,.uR hw ho hu h2 ht h3 h4 hx hid h8 hi h5 h6 (.nil _ _),h⟩
case s9 hw ho hu h2 ht hx hy h _=>exact⟨_,.s9 hw ho hu h2 ht hx hy (.nil _ _),h⟩
case mj hw hd ho hu hx hid h _=>exact⟨_,.mj hw hd ho hu hx hid (.nil _ _),h⟩
case j7 hw hd ho hu hx h _=>exact⟨_,.j7 hw hd ho hu hx (.nil _ _),h⟩
case nL hw ho hx hp hc h _=>exact⟨_,.nL hw ho hx hp hc (.nil _ _),h⟩
case nQ hw ho hx hp h _=>exact⟨_,.nQ hw ho hx hp (.nil _ _),h⟩
case qZ hw ho hx hid hl hf hkv hp h _=>exact⟨_,.qZ hw ho hx hid hl hf hkv hp (.nil _ _),h⟩
case rv hw ho hx hid hl hf h _=>exact⟨_,.rv hw ho hx hid hl hf (.nil _ _),h⟩
case qX hw ho hu h2 ht h3 h4 h5 hx hy h6 h7 h _=>exact⟨_,.qX hw ho hu h2 ht h3 h4 h5 hx hy h6 h7 (.nil _ _),h⟩
case rW hw ho hu h2 ht h3 h4 h5 hx hid h8 hy h6 h _=>exact⟨_,.rW hw ho hu h2 ht h3 h4 h5 hx hid h8 hy h6 (.nil _ _),h⟩
case wJ hw ho hu h2 ht h3 h4 h5 hx hy h6 h _=>exact⟨_,.wJ hw ho hu h2 ht h3 h4 h5 hx hy h6 (.nil _ _),h⟩
case zA hw ho hu h2 h3 ht h4 hx h5 h _=>exact⟨_,.zA hw ho hu h2 h3 ht h4 hx h5 (.nil _ _),h⟩
case xn hw ho hu ht h1 hx hid hy h2 h3 h4 h _=>exact⟨_,.xn hw ho hu ht h1 hx hid hy h2 h3 h4 (.nil _ _),h⟩
case oM hw ho hc ha hf hn hb he h _ _=>exact⟨_,.oM hw ho hc ha hf hn hb he (.nil _ _),h⟩
all_goals trivial}
theorem Ev.cut {N:Env} {all:Array Oper} {o:Oper} {r:List Oper} {s sF:St} (h:Ev N (.ops all (o :: r) s sF)):∃ s',Ev N (.ops all [o] s s')∧Ev N (.ops all r s' sF):=h.TX
def KJ (ops:Array Oper) (L:List (List Nat)) (n:Nat):Bool:=decide (n<ops.size)&&(List.range ops.size).all fun i=>decide (i<n)||(List.range i).all fun j=>(fK L i).contains j
section
variable {N:Env} {ops:Array Oper} {L:List (List Nat)} {act:List Nat} {s0 sF:St} {res:Nat→gD} {Hs:Nat→ah} {n:Nat}
def NU (N:Env) (ops:Array Oper) (act:List Nat) (s0:St) (res:Nat→gD) (Hs:Nat→ah) (n:Nat) (sF:St) (S:Array Bool) (t:St):Prop:=
 (wx N ops act s0 res Hs S t∧∀ j,n≤j→S.getD j false=false) ∨
 (S.size=ops.size∧∃ m,n<m∧m≤ops.size∧(∀ j,j<ops.size→(S.getD j false=true↔j<m))∧Ev N (.ops ops (ops.toList.drop m) t sF))
theorem NU.step (C:tw ops L act) (hn:KJ ops L n=true) (hT:∀ j sl off,res j = .ep sl off→∀ i,bF ops i≠some sl) (hstep:∀ i o k,i<n→ops[i]? = some o→k≤act.length→gm L act i k=true→∃ V,View ops L s0 res i V∧V.h=Hs k∧One N ops o V (res i) (Hs (if i∈act then k+1 else k))) (hact:∀ a∈act,a<n) {frP:Fr} (hF:∀ p∈frP,((∀ j,bF ops j≠some p.1)∧aW s0.fr p.1=p.2)∨∃ j,j<n∧bF ops j=some p.1∧res j = .sl p.2) (hE:Ev N (.ops ops (ops.toList.drop n) ⟨frP,[],Hs act.length⟩ sF)) {S:Array Bool} {t:St} {i:Nat} {o:Oper} (I:NU N ops act s0 res Hs n sF S t) (hi:i∈Region.ready .any ops S) (ho:ops[i]? = some o) : ∃ s',Ev N (.ops ops [o] t s')∧NU N ops act s0 res Hs n sF (S.setIfInBounds i true) s':=by{
unfold KJ at hn
rw[Bool.and_eq_true,decide_eq_true_eq,List.all_eq_true] at hn
obtain⟨hns,htl⟩:=hn
have htl':∀ i,i<ops.size→n≤i→∀ j,j<i→j∈fK L i:=fun i hi hni j hj=>by
 have:=htl i (List.mem_range.2 hi)
 rw[Bool.or_eq_true,decide_eq_true_eq] at this
 rcases this with h|h
 ·omega
 ·rw[List.all_eq_true] at h
  exact List.contains_iff_mem.1 (h j (List.mem_range.2 hj))
obtain⟨hun,oi,hoi,hall⟩:=mem_ready.1 hi
obtain rfl:oi=o:=Option.some.inj (hoi.symm.trans ho)
have hlt:i<ops.size:=(Array.getElem?_eq_some_iff.1 ho).1
have hnot:S.getD i false=false:=getD_both hun
have hr:∀ o,ops[i]? = some o→∀ e∈o.after,Region.binds .any e=true→S.getD e.on false=true:=fun o' ho' e he hb=>by
 obtain rfl:oi=o':=Option.some.inj (ho.symm.trans ho')
 exact hall e he hb
have hdrop:∀ m,ops[m]? = some oi→ops.toList.drop m=oi :: ops.toList.drop (m+1):=fun m hm=>by
 have h1:m<ops.toList.length:=by simpa using (Array.getElem?_eq_some_iff.1 hm).1
 rw[List.drop_eq_getElem_cons h1]
 congr 1
 have:=(Array.getElem?_eq_some_iff.1 hm).2
 simpa using this
rcases I with ⟨I,hlow⟩ | ⟨hsz,m,hm1,hm2,hS,hEv⟩
·by_cases hin:i<n
 ·obtain⟨s',k1,k2⟩:=I.step C hT (fun o k=>hstep i o k hin) hi ho
  refine⟨s',k1,.inl ⟨k2,fun j hj=>?_⟩⟩
  cases hb:(S.setIfInBounds i true).getD j false with
  | false=>rfl
  | true=>
    rcases (eM (by rw[I.size];exact hlt)).1 hb with rfl|h
    ·omega
    ·rw[hlow j hj] at h;cases h
 ·have hanc:∀ j,j<i→S.getD j false=true:=fun j hj=>jK C I.size I.closed i j hlt hr (htl' i hlt (by omega) j hj)
  have hin':i=n:=by
   rcases Nat.lt_or_ge n i with h|h
   ·have:=hanc n h
    rw[hlow n (Nat.le_refl _)] at this
    cases this
   ·omega
  subst hin'
  have hsub:pG frP t.fr:=fun p hp=>by
   rcases hF p hp with ⟨h1,h2⟩ | ⟨j,h0,h1,h2⟩
   ·exact (I.out p.1 h1).1.trans h2
   ·exact (I.qJ j p.1 p.2 h1 (hanc j h0) h2).1
  have hh:Hs act.length=t.h:=by
   obtain⟨k,hk,hh,hpre⟩:=I.pre
   have:k=act.length:=by
    rcases Nat.lt_or_ge k act.length with h|h
    ·have:=(hpre k h).1 (hanc _ (hact _ (by simp [h])))
     omega
    ·omega
   rw[hh,this]
  rw[hdrop i ho] at hE
  obtain⟨s',k1,k2⟩:=Ev.cut (.BE (s0:=⟨frP,[],Hs act.length⟩) hsub hh rfl hE)
  refine⟨s',k1,.inr ⟨by simp [I.size],i+1,by omega,by omega,fun j hj=>?_,k2⟩⟩
  rw[eM (by rw[I.size];exact hlt)]
  constructor
  ·rintro (rfl|h)
   ·omega
   ·rcases Nat.lt_or_ge j i with h2|h2
    ·omega
    ·rw[hlow j h2] at h;cases h
  ·intro h
   rcases Nat.lt_or_ge j i with h2|h2
   ·exact .inr (hanc j h2)
   ·exact .inl (by omega)
·have him:m≤i:=by
  rcases Nat.lt_or_ge i m with h|h
  ·have:=(hS i hlt).2 h
   rw[hnot] at this
   cases this
  ·exact h
 have hcl:∀ j o,ops[j]? = some o→S.getD j false=true→∀ e∈o.after,Region.binds .any e=true→S.getD e.on false=true:=fun j o hj hl e he hb=>by
  have h1:=C.low j o hj e he hb
  have h2:=(hS j (Array.getElem?_eq_some_iff.1 hj).1).1 hl
  exact (hS e.on (by omega)).2 (by omega)
 have hie:i=m:=by
  rcases Nat.lt_or_ge m i with h|h
  ·have:=jK C hsz hcl i m hlt hr (htl' i hlt (by omega) m h)
   have:=(hS m (by omega)).1 this
   omega
  ·omega
 subst hie
 rw[hdrop i ho] at hEv
 obtain⟨s',k1,k2⟩:=hEv.cut
 refine⟨s',k1,.inr ⟨by simp [hsz],i+1,by omega,by omega,fun j hj=>?_,k2⟩⟩
 rw[eM (by rw[hsz];exact hlt),hS j hj]
 omega}
end
section
variable {N:Env} {ops:Array Oper}
def JB (ops:Array Oper) (resL:List gD) (n:Nat) (fr:Fr):Fr→Prop
 | []=>True
 | (x,v) :: r=>((x∉dstsOf ops∧aW fr x=v)∨aW (iT ops resL (List.range n)) x=v∧v≠.dH)∧JB ops resL n fr r
theorem JB.at {resL:List gD} {n:Nat} {fr:Fr}:∀ {frF:Fr} {p:Nat×gu},JB ops resL n fr frF→p∈frF→((∀ j,bF ops j≠some p.1)∧aW fr p.1=p.2)∨∃ j,j<n∧bF ops j=some p.1∧jx resL j = .sl p.2
 | [],p,_,h=>by cases h
 | (x,v) :: r,p,⟨h1,h2⟩,h=>by
   rcases List.mem_cons.1 h with rfl|h
   ·rcases h1 with ⟨h3,h4⟩ | ⟨h3,h4⟩
    ·exact .inl ⟨fun j hj=>h3 (iw hj),h4⟩
    ·rcases jr (ops:=ops) (resL:=resL) (x:=x) (l:=List.range n) with h|⟨j,k1,k2,k3⟩
     ·exact (h4 (h3.symm.trans h)).elim
     ·exact .inr ⟨j,List.mem_range.1 k2,k1,by rw[j3 k3,h3]⟩
   ·exact JB.at h2 h
theorem fm.V5 {L:List (List Nat)} {act:List Nat} {resL:List gD} {hs:List ah} {fr:Fr} {n:Nat} {i:Nat} {o:Oper} (h:fm N ops L act resL hs fr 0 (ops.toList.take n)) (hi:i<n) (ho:ops[i]? = some o):fY N ops L act resL hs fr i o (List.range (act.length+1)):=by
 have:=fm.at (j:=i) h (by rw[List.getElem?_take,if_pos hi];simpa using ho)
 rwa [Nat.zero_add] at this
end
attribute [push_cast] Hc
end Go.Proofs.YtmdmimkbpikmoaaGreat.Am
namespace Go.Proofs.YtmdmimkbpikmoaaGreat
set_option maxRecDepth 20000
open Go.RowKit Am Ty
theorem jf {t e:TypeId} {ti:TI} {v:Value} {n:Nat} {cells cs:List Value} {h hk:ah} (hu:env.P.underlying t=some (.slice e)) (ht:aq env.P e=some ti) (hs0:0<ti.size) (hz:(ti.zero.map fun z=>z.cells.size)=some ti.size) (G:aL h hk v n cells e) (hp:h <+: hk) (hl:cells.length=n*ti.size) (hc:cs.length=ti.size) (hb:(n+1)*ti.bytes≤140737488355328) (hn:n+1≤140737488355328):∃ p c h', (∀ (all:Array Oper) (o:Oper) (s:St) (x:Operand) (y:Nat),s.h=hk→aF all o s=some true→o.op = .call { callee:=.builtin .append,args:=#[x,.tmp y],argTypes:=#[t,t] }→ev s x=some v→aW s.fr y = .mx cs 1 → One env all o s (.sl (.val (.slice p (n+1) c))) h') ∧ aL h h' (.slice p (n+1) c) (n+1) (cells++cs) e∧h <+: h'∧(∀ j o,bB v j=false→hk[j]? = some o→h'[j]? = some o)∧(∀ x,bB (.slice p (n+1) c) x=true→bB v x=true∨x=hk.length)∧hk.length≤h'.length:=by{
have hi:∀ (s:St) (y:Nat),aW s.fr y = .mx cs 1→cd s s.h ti.size (.tmp y)=some (cs,1):=fun s y hy=>by simp only[cd,hy,hc,Nat.one_mul,if_true]
rcases G with ⟨rfl,rfl,rfl⟩ | ⟨id,ar,h1,rfl,h3⟩
·refine⟨some ⟨hk.length,0,some 0⟩,1,hk++[av.aA cs 0 true e],fun all o s x y e hw ho hx hy=>?_,.inr ⟨hk.length,0,hp.length_le,rfl,aJ⟩,bU hp,fun j o _ h=>bg h,fun x hx=>?_,by simp⟩
 ·subst e
  exact .y5 hw ho hu rfl ht hs0 hz hx (hi s y hy) (by decide) (by simpa using hb) (by decide)
 ·simp only[bB,beq_iff_eq] at hx
  exact .inr hx.symm
·refine⟨some ⟨id,0,some (ar+1)⟩,n+1,hk.set id (av.aA (cells++cs) (ar+1) true e),fun all o s x y e hw ho hx hy=>?_,.inr ⟨id,ar+1,h1,rfl,aw h3⟩,a8 hp h1,fun j o hj h=>?_,fun x hx=>?_,by simp⟩
 ·subst e
  have:=One.KF (N:=env) hw ho hu rfl ht hs0 hz hx h3 om (hi s y hy) hb hn
  rwa [List.take_of_length_le om] at this
 ·simp only[bB,beq_eq_false_iff_ne] at hj
  rw[aD hj]
  exact h
 ·simp only[bB] at hx ⊢
  exact .inl hx}
theorem CQ {h:ah} {i j:Nat} {x y z:av} (hi:h[i]? = some x) (hj:h[j]? = some y) (hne:x≠y):(h.set i z)[j]? = some y:=by
 rw[aD (by rintro rfl;rw[hi] at hj;exact hne (Option.some.inj hj))]
 exact hj
theorem aL.obj {h hk:ah} {v:Value} {n:Nat} {cells:List Value} {et:TypeId} (g:aL h hk v n cells et) {j:Nat} (hj:bB v j=true):∃ ar,hk[j]? = some (.aA cells ar true et):=by{
rcases g with ⟨_,_,rfl⟩ | ⟨id,ar,h1,rfl,h3⟩
·simp [bB] at hj
·simp only[bB,beq_iff_eq] at hj
 subst hj
 exact⟨ar,h3⟩}
def fU (l:List (ByteArray×Int)):List (Value×Value):=l.map fun p=>(.string p.1,i64 p.2)
def iG:List (ByteArray×Int)→ByteArray→Option Int
 | [],_=>none
 | (k,v) :: r,x=>if x=k then some v else iG r x
def dx:List (ByteArray×Int)→ByteArray→Int→List (ByteArray×Int)
 | [],x,v=>[(x,v)]
 | (k,u) :: r,x,v=>if x=k then (k,v) :: r else (k,u) :: dx r x v
def dJ (l:List (ByteArray×Int)) (x:ByteArray):Int:=(iG l x).getD 0
theorem ov (x:ByteArray):∀ l,gQ (fU l) (.string x)=(iG l x).map i64
 | []=>rfl
 | (k,v) :: r=>by
   have ih:=ov x r
   unfold fU at ih ⊢
   simp only[List.map_cons,gQ,iG,pX,np,decide_eq_true_eq]
   split
   ·rfl
   ·exact ih
theorem dY (x:ByteArray) (v:Int):∀ l,iU (fU l) (.string x) (i64 v)=fU (dx l x v)
 | []=>rfl
 | (k,u) :: r=>by
   have ih:=dY x v r
   unfold fU at ih ⊢
   simp only[List.map_cons,iU,dx,pX,np,decide_eq_true_eq]
   split
   ·rfl
   ·rw[ih];rfl
theorem lX (x y:ByteArray) (v:Int):∀ l,iG (dx l x v) y=if y=x then some v else iG l y
 | []=>rfl
 | (k,u) :: r=>by
   have ih:=lX x y v r
   unfold dx
   by_cases h:x=k
   ·subst h
    rw[if_pos rfl]
    unfold iG
    by_cases hy:y=x
    ·rw[if_pos hy,if_pos hy]
    ·rw[if_neg hy,if_neg hy,if_neg hy]
   ·rw[if_neg h]
    unfold iG
    by_cases hy:y=k
    ·rw[if_pos hy,if_pos hy,if_neg (by rintro rfl;exact h hy)]
    ·rw[if_neg hy,if_neg hy,ih]
theorem eV (x y:ByteArray) (v:Int) (l:List (ByteArray×Int)):dJ (dx l x v) y=if y=x then v else dJ l y:=by{
unfold dJ
rw[lX]
split<;>rfl}
theorem br (l:List (ByteArray×Int)):eG eZ (fU l)=true:=by{
unfold eG fU
rw[List.all_map,List.all_eq_true]
intro x _
rfl}
@[push_cast] theorem OU:jB 9=some eZ:=rfl
@[push_cast] theorem OP (x:ByteArray):eZ (.string x)=true:=rfl
attribute [push_cast] br tK mapOf zeroOf
theorem fy (l:List (ByteArray×Int)) (x:ByteArray):(gQ (fU l) (.string x)=none∧dJ l x=0)∨(gQ (fU l) (.string x)=some (i64 (dJ l x))):=by{
rw[ov]
unfold dJ
cases iG l x with
| none=>exact .inl ⟨rfl,rfl⟩
| some v=>exact .inr rfl}
def zD (l:List ByteArray) (s:ByteArray):Bool:=l.any fun t=>decide (t=s)
theorem cQ {l:List ByteArray} {s:ByteArray}:zD l s=true↔s∈l:=by{
unfold zD
simp only[List.any_eq_true,decide_eq_true_eq]
exact⟨fun ⟨_,h,e⟩=>e▸h,fun h=>⟨s,h,rfl⟩⟩}
def fX (l:List ByteArray) (p:Prod):List ByteArray:=if zD l p.sort=true then l else l++[p.sort]
def aE (ps:List Prod):List ByteArray:=ps.foldl fX []
def eP (ps:List Prod) (s:ByteArray) (x:Bool):Bool:=ps.any fun p=>decide (p.sort=s)&&(p.lex == x)
def cH (ps:List Prod) (s:ByteArray):Int:=(if eP ps s true=true then 1 else 0)+(if eP ps s false=true then 2 else 0)
theorem xd (ps:List Prod) (p:Prod):aE (ps++[p])=fX (aE ps) p:=by{
unfold aE
rw[List.foldl_append]
rfl}
theorem oL {s:ByteArray}:∀ (ps:List Prod) (l:List ByteArray),s∈ps.foldl fX l↔s∈l∨∃ p∈ps,p.sort=s
 | [],l=>by simp
 | p :: ps,l=>by
   rw[List.foldl_cons,oL ps]
   unfold fX
   split
   ·rename_i h
    constructor
    ·rintro (h1|⟨q,hq,rfl⟩)
     ·exact .inl h1
     ·exact .inr ⟨q,List.mem_cons_of_mem _ hq,rfl⟩
    ·rintro (h1|⟨q,hq,rfl⟩)
     ·exact .inl h1
     ·rcases List.mem_cons.1 hq with rfl|hq
      ·exact .inl (cQ.1 h)
      ·exact .inr ⟨q,hq,rfl⟩
   ·constructor
    ·rintro (h1|⟨q,hq,rfl⟩)
     ·rcases List.mem_append.1 h1 with h1|h1
      ·exact .inl h1
      ·exact .inr ⟨p,List.mem_cons_self,(List.mem_singleton.1 h1).symm⟩
     ·exact .inr ⟨q,List.mem_cons_of_mem _ hq,rfl⟩
    ·rintro (h1|⟨q,hq,rfl⟩)
     ·exact .inl (List.mem_append_left _ h1)
     ·rcases List.mem_cons.1 hq with rfl|hq
      ·exact .inl (List.mem_append_right _ (by simp))
      ·exact .inr ⟨q,hq,rfl⟩
theorem pY {ps:List Prod} {s:ByteArray}:s∈aE ps↔∃ p∈ps,p.sort=s:=by{
unfold aE
rw[oL]
simp}
theorem nh {ps:List Prod} {s:ByteArray} {x:Bool}:eP ps s x=true↔∃ p∈ps,p.sort=s∧p.lex=x:=by
 unfold eP
 simp only[List.any_eq_true,Bool.and_eq_true,decide_eq_true_eq,beq_iff_eq]
theorem pN (ps:List Prod) (s:ByteArray):cH ps s=0∨cH ps s=1∨cH ps s=2∨cH ps s=3:=by
 unfold cH
 split<;>split<;>simp
theorem tk {ps:List Prod} {s:ByteArray}:cH ps s=0↔s∉aE ps:=by{
rw[pY]
unfold cH
constructor
·rintro h ⟨p,hp,rfl⟩
 cases hx:p.lex with
 | true=>
   have:=nh.2 ⟨p,hp,rfl,hx⟩
   rw[if_pos this] at h
   split at h<;>omega
 | false=>
   have:=nh.2 ⟨p,hp,rfl,hx⟩
   rw[if_pos this] at h
   split at h<;>omega
·intro h
 have k:∀ x,¬ eP ps s x=true:=fun x hx=>by
  obtain⟨p,h1,h2,_⟩:=nh.1 hx
  exact h ⟨p,h1,h2⟩
 rw[if_neg (k _),if_neg (k _)]
 rfl}
def OL (n:Int) (x:Bool):Int:=if x then (if n=0∨n=1 then 1 else 3) else (if n=0∨n=2 then 2 else 3)
theorem qh (ps:List Prod) (p:Prod) (s:ByteArray) (x:Bool):eP (ps++[p]) s x=(eP ps s x||(decide (p.sort=s)&&(p.lex == x))):=by{
unfold eP
rw[List.any_append]
simp}
theorem Aa (ps:List Prod) (p:Prod) (s:ByteArray):cH (ps++[p]) s=if s=p.sort then OL (cH ps s) p.lex else cH ps s:=by{
unfold cH
rw[qh,qh]
by_cases h:s=p.sort
·subst h
 cases p.lex<;>cases eP ps p.sort true<;>cases eP ps p.sort false<;>simp [OL]
·have h':¬ p.sort=s:=fun e=>h e.symm
 simp [h,h']}
theorem Au {ps:List Prod} {k:Nat} (hk:k<ps.length):aE (ps.take (k+1))=fX (aE (ps.take k)) ps[k]:=by
 rw[List.take_succ_eq_append_getElem hk,xd]
theorem GY {ps:List Prod} {k:Nat} (hk:k<ps.length) (s:ByteArray):cH (ps.take (k+1)) s=if s=ps[k].sort then OL (cH (ps.take k) s) ps[k].lex else cH (ps.take k) s:=by
 rw[List.take_succ_eq_append_getElem hk,Aa]
theorem bZ {ps:List Prod}:(aE ps).length≤ps.length:=by{
have:∀ (ps:List Prod) (l:List ByteArray),(ps.foldl fX l).length≤l.length+ps.length:=by
 intro ps
 induction ps with
 | nil=>intro l;simp
 | cons p ps ih=>
   intro l
   rw[List.foldl_cons]
   have:=ih (fX l p)
   have h2:(fX l p).length≤l.length+1:=by
    unfold fX
    split<;>simp
   simp only[List.length_cons]
   omega
have h2:=this ps []
simp only[List.length_nil,Nat.zero_add] at h2
exact h2}
theorem Fz {n:Int} (h:n=0∨n=1∨n=2∨n=3):IntKind.i64.wrap (BitVec.ofInt IntKind.i64.bits n ||| BitVec.ofInt IntKind.i64.bits 1).toNat=OL n true:=by
 rcases h with rfl|rfl|rfl|rfl<;>decide
theorem EM {n:Int} (h:n=0∨n=1∨n=2∨n=3):IntKind.i64.wrap (BitVec.ofInt IntKind.i64.bits n ||| BitVec.ofInt IntKind.i64.bits 2).toNat=OL n false:=by
 rcases h with rfl|rfl|rfl|rfl<;>decide
structure Is (h0 hk:ah) (ib im:Nat) (D:List Value) (sv:Value) (ps qs:List Prod):Prop where
 p:h0 <+: hk
 b:hk[ib]? = some (.aA (D++[sv,.map (some im)]) 0 true 190)
 m:∃ es,hk[im]? = some (.map (fU es))∧∀ s,dJ es s=cH qs s
 s:aL h0 hk sv (aE ps).length ((aE ps).map .string) 9
 lb:h0.length≤ib
 lm:h0.length≤im
section
variable {h:ah} {d:bM} {up uc uf ur ub:Value}
theorem Cs (hd:bH h d up uc uf ur ub):FW env 66 [.agg (d.val up uc uf ur ub).toArray] h fun r h'=>∃ ib im sv,r = .pointer (some ⟨ib,0,some 0⟩)∧Is h h' ib im (d.val up uc uf ur ub) sv d.aa d.aa:=by{
obtain⟨p1,c1,p2,c2,p3,c3,p4,c4,p5,c5,rfl,rfl,rfl,rfl,rfl,l1,l2,l3,l4,l5⟩:=bH.form hd
obtain⟨B,hB⟩:∃ B:List Value,B=[.string d.start,.string d.layout,.slice p1 d.aa.length c1,.slice p2 d.au.length c2,.slice p3 d.follows.length c3,.slice p4 d.al.length c4,.slice p5 d.boxes.length c5]:=⟨_,rfl⟩
refine fe Tryz.func66 ?_;simp only[push_cast]
unfold bM.val
refine zu ?_
iterate 2 (apply ei;·simp only[push_cast,env,Nat.reduceEqDiff,reduceIte,Nat.reduceAdd,Nat.reduceMul,Nat.reduceLeDiff,reduceCtorEq,Nat.reduceSub,Int.reduceToNat]<;>exact rfl)
refine zu ?_
iterate 1 (apply ei;·simp only[push_cast,env,Nat.reduceEqDiff,reduceIte,Nat.reduceAdd,Nat.reduceMul,Nat.reduceLeDiff,reduceCtorEq,Nat.reduceSub,Int.reduceToNat]<;>exact rfl)
refine kP (kt:=9) (et:=3) ak rfl kr ?_
iterate 1 (apply ei;·simp only[push_cast,env,Nat.reduceEqDiff,reduceIte,Nat.reduceAdd,Nat.reduceMul,Nat.reduceLeDiff,reduceCtorEq,Nat.reduceSub,Int.reduceToNat]<;>exact rfl)
refine dA (t:=190) (cs:=B++[bX,.map (some h.length)]) ak (by rw[hB];exact ak) ?_
have hlen:(h++[av.map []]).length=h.length+1:=by simp
dsimp only[St.a9,St.put]
rw[hlen]
have hBk:Is h (h++[av.map []]++[av.aA (B++[bX,.map (some h.length)]) 0 true 190]) (h.length+1) h.length B bX [] []:=
 ⟨bU (bU (List.prefix_refl _)),by rw[← hlen];exact aJ,⟨[],bg aJ,fun s=>rfl⟩,aL.nil,by omega,by omega⟩
generalize (h++[av.map []]++[av.aA (B++[bX,.map (some h.length)]) 0 true 190])=h2 at hBk ⊢
generalize h.length+1=ib at hBk ⊢
generalize h.length=im at hBk ⊢
refine aC ?_
refine aZ d.aa.length (fun k (x:ah×Value)=>[(3,.val (.pointer (some ⟨ib,0,some 0⟩))),(11,.val (.slice p1 d.aa.length c1)),(12,.val (i64 d.aa.length)),(13,.val (i64 k))]) (fun _ x=>x.1)
 (fun k x=>Is h x.1 ib im B x.2 (d.aa.take k) (d.aa.take k)) (h2,bX) aK rfl hBk ?_
clear hBk hlen
rintro k ⟨hk,sv⟩ hkn K
simp only at K ⊢
by_cases hlt:k<d.aa.length
·obtain⟨id,ar,own,c',cells,u,hv,hid,hrd,hu⟩:=cV.at (k:=5) (fun _ _=>rfl) (hd.aa.mono K.p) hlt
 cases hv
 obtain⟨ps,cs,rfl⟩:=bT.form hu
 have w1:=cg hlt
 have w2:=inc hlt l1
 have q3:=aS hlt
 obtain⟨P,hP⟩:∃ P:Prod,P=d.aa[k]:=⟨_,rfl⟩
 rw[← hP] at hrd hu
 refine aG q3 ?_
 refine ae rfl ?_
 obtain⟨es,hm,hes⟩:=K.m
 have hb:=K.b
 have hn:=hes P.sort
 have hrg:=pN (d.aa.take k) P.sort
 have hz:=tk (ps:=d.aa.take k) (s:=P.sort)
 refine gV w1 hid hrd ?_
 rw[hB] at hb
 have hkk:=br es
 generalize hN:cH (d.aa.take k) P.sort=n at hn hrg hz
 refine CW.mono (Q:=fun e s'=>e = .normal∧s'.h=hk∧bA [(3,.val (.pointer (some ⟨ib,0,some 0⟩))),(5,.box [.bool P.lex,.string P.sort,.string P.cons,.bool P.bracket,.slice ps P.aj.length cs]),(11,.val (.slice (some ⟨id,0,some ar⟩) d.aa.length c1)),(12,.val (i64 d.aa.length)),(13,.val (i64 k)),(24,.val (.bool (decide (n=0))))] s'.fr) ?_ ?_
 ·refine aQ 7 mixed kr ?_
  rcases fy es P.sort with ⟨hg,h0⟩ | hg
  ·obtain rfl:n=0:=by rw[← hn,h0]
   refine fi hb hm hg hkk ?_
   exact⟨rfl,rfl,aK⟩
  ·rw[hn] at hg
   refine fi hb hm hg hkk ?_
   exact⟨rfl,rfl,aK⟩
 rintro e s' ⟨rfl,hh,hf⟩
 show CW _ _ _ _
 refine aB _ hf ?_
 rw[hh]
 refine zu ?_
 refine CW.mono (Q:=fun e s'=>e = .normal∧∃ (hk':ah) (sv':Value),Is h hk' ib im B sv' (d.aa.take (k+1)) (d.aa.take k)∧s'.h=hk'∧bA [(3,.val (.pointer (some ⟨ib,0,some 0⟩))),(5,.box [.bool P.lex,.string P.sort,.string P.cons,.bool P.bracket,.slice ps P.aj.length cs]),(11,.val (.slice (some ⟨id,0,some ar⟩) d.aa.length c1)),(12,.val (i64 d.aa.length)),(13,.val (i64 k))] s'.fr) ?_ ?_
 ·have hst:=Au hlt
  rw[← hP] at hst
  unfold fX at hst
  by_cases hn0:n=0
  ·have hnm:¬ zD (aE (d.aa.take k)) P.sort=true:=by rw[cQ];exact hz.1 hn0
   rw[if_neg hnm] at hst
   refine ae (by rw[hn0];rfl) ?_
   have hsl:(aE (d.aa.take k)).length≤140737488355328:=by
    have:=bZ (ps:=d.aa.take k)
    rw[List.length_take] at this
    omega
   have hsl2:(aE (d.aa.take k)).length≤k:=by
    have:=bZ (ps:=d.aa.take k)
    rw[List.length_take] at this
    omega
   have l1b:=cV.le hd.aa
   obtain⟨q,cq,rfl⟩:=K.s.form
   have hb0:=K.b
   rw[hB] at hb0
   have nb:bB (.slice q (aE (d.aa.take k)).length cq) ib=false:=by
    cases hbb:bB (.slice q (aE (d.aa.take k)).length cq) ib with
    | false=>rfl
    | true=>
      obtain⟨ver2,h5⟩:=K.s.obj hbb
      rw[hb0] at h5
      simp only[Option.some.injEq,av.aA.injEq] at h5
      exact absurd h5.2.2.2 (by decide)
   have nm:bB (.slice q (aE (d.aa.take k)).length cq) im=false:=by
    cases hbb:bB (.slice q (aE (d.aa.take k)).length cq) im with
    | false=>rfl
    | true=>
      obtain⟨ver2,h5⟩:=K.s.obj hbb
      rw[hm] at h5
      cases h5
   obtain⟨p2',cc2,hk2,hone,G2,hp2,hk2k,hx2,hl2⟩:=jf (cs:=[.string P.sort]) (t:=36) kr HB (by decide) rfl K.s K.p (by simp) rfl (by simp only;omega) om
   have hb2:=hk2k _ _ nb hb0
   have hm2:=hk2k _ _ nm hm
   refine aB [(3,.val (.pointer (some ⟨ib,0,some 0⟩))),(5,.box [.bool P.lex,.string P.sort,.string P.cons,.bool P.bracket,.slice ps P.aj.length cs]),(11,.val (.slice (some ⟨id,0,some ar⟩) d.aa.length c1)),(12,.val (i64 d.aa.length)),(13,.val (i64 k))] aK ?_
   show CW _ _ ⟨_,[],hk⟩ _
   apply bm (L:=[[],[],[1],[2],[3],[],[5],[6],[4,7],[0],[9],[0,1,2,3,4,5,6,7,8,10]]) (act:=[8,11]) (hs:=[hk2,hk2.set ib (.aA [.string d.start,.string d.layout,.slice (some ⟨id,0,some ar⟩) d.aa.length c1,.slice p2 d.au.length c2,.slice p3 d.follows.length c3,.slice p4 d.al.length c4,.slice p5 d.boxes.length c5,.slice p2' ((aE (d.aa.take k)).length+1) cc2,.map (some im)] 0 true 190)]) (resL:=[_,_,_,_,_,_,_,_,_,_,_,_]) (frF:=[(3,.val (.pointer (some ⟨ib,0,some 0⟩))),(5,.box [.bool P.lex,.string P.sort,.string P.cons,.bool P.bracket,.slice ps P.aj.length cs]),(11,.val (.slice (some ⟨id,0,some ar⟩) d.aa.length c1)),(12,.val (i64 d.aa.length)),(13,.val (i64 k))])
   case hm=>exact mixed
   case hc=>kernel_rfl
   case ha=>rfl
   case hb=>rfl
   case hS=>
    refine Gc hb hb2 ?_
    apply ay.cons
    ·rfl
    ·refine⟨?_,trivial⟩
     exact hone _ _ _ _ _ rfl ak rfl ak ak
    ·rfl
    refine Gc hb hb2 ?_
    apply ay.cons
    ·rfl
    ·refine⟨?_,trivial⟩
     exact One.jP (r:=.sl .dH) (cells':=[.string d.start,.string d.layout,.slice (some ⟨id,0,some ar⟩) d.aa.length c1,.slice p2 d.au.length c2,.slice p3 d.follows.length c3,.slice p4 d.al.length c4,.slice p5 d.boxes.length c5,.slice p2' ((aE (d.aa.take k)).length+1) cc2,.map (some im)]) ak rfl ak ak hb2 ak rfl rfl rfl
    ·rfl
    exact ay.nil _
   case ht=>rfl
   case hF=>exact zh
   refine⟨rfl,hk2.set ib (.aA [.string d.start,.string d.layout,.slice (some ⟨id,0,some ar⟩) d.aa.length c1,.slice p2 d.au.length c2,.slice p3 d.follows.length c3,.slice p4 d.al.length c4,.slice p5 d.boxes.length c5,.slice p2' ((aE (d.aa.take k)).length+1) cc2,.map (some im)] 0 true 190),.slice p2' ((aE (d.aa.take k)).length+1) cc2,?_,rfl,aK⟩
   ·have n2:bB (.slice p2' ((aE (d.aa.take k)).length+1) cc2) ib=false:=by
     cases hbb:bB (.slice p2' ((aE (d.aa.take k)).length+1) cc2) ib with
     | false=>rfl
     | true=>
       rcases hx2 _ hbb with h5|h5
       ·rw[h5] at nb;cases nb
       ·have:=(List.getElem?_eq_some_iff.1 hb0).1;omega
    have hne:ib≠im:=by rintro rfl;rw[hm] at hb0;cases hb0
    refine⟨a8 hp2 K.lb,?_,⟨es,?_,hes⟩,?_,K.lb,K.lm⟩
    ·rw[aw hb2,hB];rfl
    ·rw[aD hne];exact hm2
    ·rw[hst,List.length_append,List.map_append]
     refine G2.mono fun i o hi ho=>?_
     rw[aD (by rintro rfl;rw[n2] at hi;cases hi)]
     exact ho
  ·have hnm:zD (aE (d.aa.take k)) P.sort=true:=by
    rw[cQ]
    exact Classical.byContradiction fun hc=>hn0 (hz.2 hc)
   rw[if_pos hnm] at hst
   refine af (by rw[decide_eq_false hn0];rfl) ?_
   refine cz ?_
   exact⟨rfl,hk,sv,⟨K.p,K.b,K.m,by rw[hst];exact K.s,K.lb,K.lm⟩,rfl,aK⟩
 clear hf hh s'
 rintro e s' ⟨rfl,hk',sv',K',hh,hf⟩
 show CW _ _ _ _
 refine aB _ hf ?_
 rw[hh]
 clear hf hh s' hm hb hes hn hkk
 obtain⟨es,hm,hes⟩:=K'.m
 have hb:=K'.b
 rw[hB] at hb
 have hn:=hes P.sort
 rw[hN] at hn
 have hkk:=br es
 have hput:∀ x:Bool,x=P.lex→Is h (hk'.set im (.map (fU (dx es P.sort (OL n x))))) ib im B sv' (d.aa.take (k+1)) (d.aa.take (k+1)):=fun x hx=>by
  have hne:ib≠im:=by rintro rfl;rw[hm] at hb;cases hb
  refine⟨a8 K'.p K'.lm,?_,⟨_,aw hm,fun s=>?_⟩,K'.s.mono fun j o hj ho=>?_,K'.lb,K'.lm⟩
  ·rw[aD (Ne.symm hne),K'.b]
  ·rw[eV,GY hlt,← hP,hes,hx]
   split
   ·rename_i e
    rw[e,hN]
   ·rfl
  ·obtain⟨ver2,h5⟩:=K'.s.obj hj
   exact CQ hm ho (by rintro rfl;rw[h5] at ho;cases ho)
 rcases fy es P.sort with ⟨hg,h0⟩ | hg
 ·obtain rfl:n=0:=by rw[← hn,h0]
  refine aC ?_
  cases hx:P.lex with
  | true=>
    refine ae rfl ?_
    refine aC ?_
    refine aQ 8 mixed kr ?_
    have ho:=Fz hrg
    refine kL hb hm hg hkk ho ?_
    refine fN (kt:=9) (et:=3) (kd:=eZ) ak rfl rfl kr rfl ak hm ak ak rfl hkk ?_
    dsimp only
    rw[dY]
    refine aG w2 ?_
    exact⟨hlt,(_,sv'),aK,rfl,hput _ hx.symm⟩
  | false=>
    refine af rfl ?_
    refine aC ?_
    refine aQ 8 mixed kr ?_
    have ho:=EM hrg
    refine kL hb hm hg hkk ho ?_
    refine fN (kt:=9) (et:=3) (kd:=eZ) ak rfl rfl kr rfl ak hm ak ak rfl hkk ?_
    dsimp only
    rw[dY]
    refine aG w2 ?_
    exact⟨hlt,(_,sv'),aK,rfl,hput _ hx.symm⟩
 ·rw[hn] at hg
  refine aC ?_
  cases hx:P.lex with
  | true=>
    refine ae rfl ?_
    refine aC ?_
    refine aQ 8 mixed kr ?_
    have ho:=Fz hrg
    refine kL hb hm hg hkk ho ?_
    refine fN (kt:=9) (et:=3) (kd:=eZ) ak rfl rfl kr rfl ak hm ak ak rfl hkk ?_
    dsimp only
    rw[dY]
    refine aG w2 ?_
    exact⟨hlt,(_,sv'),aK,rfl,hput _ hx.symm⟩
  | false=>
    refine af rfl ?_
    refine aC ?_
    refine aQ 8 mixed kr ?_
    have ho:=EM hrg
    refine kL hb hm hg hkk ho ?_
    refine fN (kt:=9) (et:=3) (kd:=eZ) ak rfl rfl kr rfl ak hm ak ak rfl hkk ?_
    dsimp only
    rw[dY]
    refine aG w2 ?_
    exact⟨hlt,(_,sv'),aK,rfl,hput _ hx.symm⟩
·have q3:=aP hlt
 obtain rfl:k=d.aa.length:=by omega
 rw[List.take_length] at K
 refine aG q3 ?_
 refine af rfl ?_
 refine az ?_
 show CW _ _ _ _
 refine aC ?_
 refine ai ?_
 exact⟨_,ak,ib,im,sv,rfl,by rw[← hB];exact K⟩}
end
theorem Is.mono {h0 hk hk':ah} {ib im:Nat} {D:List Value} {sv:Value} {ps qs:List Prod} (K:Is h0 hk ib im D sv ps qs) (hp:hk <+: hk'):Is h0 hk' ib im D sv ps qs:=
 ⟨K.p.trans hp,ag hp K.b,let ⟨es,h1,h2⟩:=K.m;⟨es,ag hp h1,h2⟩,K.s.mono fun _ _ _ h=>ag hp h,K.lb,K.lm⟩
def Bk (h:ah) (r:Value) (d:bM):Prop:=∃ h0 ib im sv up uc uf ur ub,r = .pointer (some ⟨ib,0,some 0⟩)∧bH h0 d up uc uf ur ub∧Is h0 h ib im (d.val up uc uf ur ub) sv d.aa d.aa
theorem Bk.mono {h h':ah} {r:Value} {d:bM} (K:Bk h r d) (hp:h <+: h'):Bk h' r d:=by
 obtain⟨h0,ib,im,sv,up,uc,uf,ur,ub,e,h1,h2⟩:=K
 exact⟨h0,ib,im,sv,up,uc,uf,ur,ub,e,h1,h2.mono hp⟩
def iK (P:Prop) (r:Value):Prop:=∃ (e:Int) (w:ByteArray),r = .tuple #[i64 e,.string w]∧(e=0↔P)
theorem JY {n:Int} (h:n=0∨n=1∨n=2∨n=3):IntKind.i64.wrap (BitVec.ofInt IntKind.i64.bits n &&& BitVec.ofInt IntKind.i64.bits 1).toNat=n % 2:=by
 rcases h with rfl|rfl|rfl|rfl<;>decide
theorem CD {ps:List Prod} {s:ByteArray}:(!decide (cH ps s % 2=0))=eP ps s true:=by
 unfold cH
 cases eP ps s true<;>cases eP ps s false<;>rfl
section
variable {h:ah} {r:Value} {d:bM}
theorem mM (hk:Bk h r d) {s:ByteArray}:FW env 132 [r,.string s] h fun r h'=>r = .bool (eP d.aa s true)∧h'=h:=by{
obtain⟨h0,ib,im,sv,up,uc,uf,ur,ub,rfl,hd,K⟩:=hk
have hd:=hd.mono K.p
obtain⟨p1,c1,p2,c2,p3,c3,p4,c4,p5,c5,rfl,rfl,rfl,rfl,rfl,l1,l2,l3,l4,l5⟩:=bH.form hd
obtain⟨es,hm,hes⟩:=K.m
have hb:=K.b
unfold bM.val at hb
simp only[List.cons_append,List.nil_append] at hb
have hkk:=br es
have hss:bj h sv (aE d.aa):=K.s.sl (b:=16) (by have:=bZ (ps:=d.aa);have:=cV.le hd.aa;omega)
obtain⟨pq,cq,rfl⟩:=hss.form
have hn:=hes s
have hrg:=pN d.aa s
have hod:=CD (ps:=d.aa) (s:=s)
generalize cH d.aa s=n at hn hrg hod
have ha:=JY hrg
refine fe Tryz.func132 ?_;simp only[push_cast]
rcases fy es s with ⟨hg,h0'⟩ | hg
·obtain rfl:n=0:=by rw[← hn,h0']
 refine kL hb hm hg hkk ha ?_
 refine ai ?_
 exact⟨_,ak,by rw[← hod];rfl,rfl⟩
·rw[hn] at hg
 refine kL hb hm hg hkk ha ?_
 refine ai ?_
 exact⟨_,ak,by rw[← hod];rfl,rfl⟩}
theorem FG (hk:Bk h r d):FW env 68 [r] h fun r h'=>iK (∀ s∈aE d.aa,cH d.aa s≠3) r∧h'=h:=by{
obtain⟨h0,ib,im,sv,up,uc,uf,ur,ub,rfl,hd,K⟩:=hk
have hd:=hd.mono K.p
obtain⟨p1,c1,p2,c2,p3,c3,p4,c4,p5,c5,rfl,rfl,rfl,rfl,rfl,l1,l2,l3,l4,l5⟩:=bH.form hd
obtain⟨es,hm,hes⟩:=K.m
have hb:=K.b
unfold bM.val at hb
simp only[List.cons_append,List.nil_append] at hb
have hkk:=br es
have hss:bj h sv (aE d.aa):=K.s.sl (b:=16) (by have:=bZ (ps:=d.aa);have:=cV.le hd.aa;omega)
obtain⟨pq,cq,rfl⟩:=hss.form
have hsl:=hss.le
refine fe Tryz.func68 ?_;simp only[push_cast]
refine aG hb ?_
refine cO (aE d.aa).length (fun k=>[(0,.val (.pointer (some ⟨ib,0,some 0⟩))),(9,.val (.slice pq (aE d.aa).length cq)),(10,.val (i64 (aE d.aa).length)),(11,.val (i64 k))]) (fun _=>h) (fun k=>∀ i (hi:i<(aE d.aa).length),i<k→cH d.aa (aE d.aa)[i]≠3) aK rfl (fun i _ hi=>absurd hi om) ?_
intro k hkn hall
by_cases hlt:k<(aE d.aa).length
·obtain⟨id,ar,own,c',cells,hv,hid,hc⟩:=hss.at hlt
 cases hv
 have e1:=cg hlt
 have e2:=inc hlt hsl
 have e3:=aS hlt
 refine aG e3 ?_
 refine ae rfl ?_
 have hn:=hes (aE d.aa)[k]
 have hstep:cH d.aa (aE d.aa)[k]≠3→∀ i (hi:i<(aE d.aa).length),i<k+1→cH d.aa (aE d.aa)[i]≠3:=fun h3 i hi h2=>by
  rcases (by omega:i<k∨i=k) with h4|rfl
  ·exact hall i hi h4
  ·exact h3
 have hmem:(aE d.aa)[k]∈aE d.aa:=List.getElem_mem hlt
 generalize hN:cH d.aa (aE d.aa)[k]=n at hn hstep
 rcases fy es (aE d.aa)[k] with ⟨hg,h0'⟩ | hg
 ·obtain rfl:n=0:=by rw[← hn,h0']
  refine Tm e1 hid hc hb hm hg hkk Nat.mul_one ?_
  refine af rfl ?_
  refine aG e2 ?_
  exact⟨hlt,aK,rfl,hstep (by decide)⟩
 ·rw[hn] at hg
  by_cases h3:n=3
  ·have hd3:=decide_eq_true h3
   refine HU e1 hid hc hb hm hg hkk Nat.mul_one hd3 ?_
   refine ae rfl ?_
   refine aC ?_
   refine ai ?_
   exact⟨_,ak,⟨42,_,rfl,⟨fun h=>(by cases h),fun h=>absurd (hN.trans h3) (h _ hmem)⟩⟩,rfl⟩
  ·have hd3:=decide_eq_false h3
   refine HU e1 hid hc hb hm hg hkk Nat.mul_one hd3 ?_
   refine af rfl ?_
   refine aG e2 ?_
   exact⟨hlt,aK,rfl,hstep h3⟩
·have e3:=aP hlt
 obtain rfl:k=(aE d.aa).length:=by omega
 refine aG e3 ?_
 refine af rfl ?_
 refine az ?_
 show CW _ _ _ _
 refine aC ?_
 refine ai ?_
 refine⟨_,ak,⟨0,_,rfl,fun _ s hs=>?_,fun _=>rfl⟩,rfl⟩
 obtain⟨i,hi,rfl⟩:=List.getElem_of_mem hs
 exact hall i hi hi}
theorem IL (hk:Bk h r d):FW env 69 [r] h fun r h'=>iK (cH d.aa d.start=2∧(d.layout.size=0∨cH d.aa d.layout=1)) r∧h'=h:=by{
obtain⟨h0,ib,im,sv,up,uc,uf,ur,ub,rfl,hd,K⟩:=hk
have hd:=hd.mono K.p
obtain⟨p1,c1,p2,c2,p3,c3,p4,c4,p5,c5,rfl,rfl,rfl,rfl,rfl,l1,l2,l3,l4,l5⟩:=bH.form hd
obtain⟨es,hm,hes⟩:=K.m
have hb:=K.b
unfold bM.val at hb
simp only[List.cons_append,List.nil_append] at hb
have hkk:=br es
have hss:bj h sv (aE d.aa):=K.s.sl (b:=16) (by have:=bZ (ps:=d.aa);have:=cV.le hd.aa;omega)
obtain⟨pq,cq,rfl⟩:=hss.form
refine fe Tryz.func69 ?_;simp only[push_cast]
have hn1:=hes d.start
have hn2:=hes d.layout
generalize hN1:cH d.aa d.start=n1 at hn1
generalize hN2:cH d.aa d.layout=n2 at hn2
refine aC ?_
refine CW.mono (Q:=fun e s'=>e = .normal∧s'.h=h∧bA [(0,.val (.pointer (some ⟨ib,0,some 0⟩))),(14,.val (.bool (!decide (n1=2))))] s'.fr) ?_ ?_
·refine aQ 10 mixed kr ?_
 rcases fy es d.start with ⟨hg,h0'⟩ | hg
 ·obtain rfl:n1=0:=by rw[← hn1,h0']
  refine fi hb hm hg hkk ?_
  exact⟨rfl,rfl,aK⟩
 ·rw[hn1] at hg
  refine fi hb hm hg hkk ?_
  exact⟨rfl,rfl,aK⟩
rintro e s' ⟨rfl,hh,hf⟩
show CW _ _ _ _
refine aB _ hf ?_
rw[hh]
refine zu ?_
by_cases q1:n1=2
·refine af (by rw[decide_eq_true q1];rfl) ?_
 refine aC ?_
 clear hf hh s'
 refine CW.mono (Q:=fun e s'=>e = .normal∧s'.h=h∧bA [(0,.val (.pointer (some ⟨ib,0,some 0⟩))),(38,.val (.bool (!decide (d.layout=⟨#[]⟩) && !decide (n2=1))))] s'.fr) ?_ ?_
 ·refine aQ 18 mixed kr ?_
  by_cases q2:d.layout=⟨#[]⟩
  ·have dq2:=decide_eq_true q2
   refine fi hb hm hkk dq2 ?_
   exact⟨rfl,rfl,(by simp only[push_cast,Nat.reduceEqDiff,reduceIte,dq2,Bool.not_true,Bool.false_and])⟩
  ·have dq2:=decide_eq_false q2
   rcases fy es d.layout with ⟨hg,h0'⟩ | hg
   ·obtain rfl:n2=0:=by rw[← hn2,h0']
    refine kL hb hm hg hkk dq2 ?_
    exact⟨rfl,rfl,(by simp only[push_cast,Nat.reduceEqDiff,reduceIte,dq2,Bool.not_false,Bool.true_and])⟩
   ·rw[hn2] at hg
    refine kL hb hm hg hkk dq2 ?_
    exact⟨rfl,rfl,(by simp only[push_cast,Nat.reduceEqDiff,reduceIte,dq2,Bool.not_false,Bool.true_and])⟩
 rintro e s' ⟨rfl,hh,hf⟩
 show CW _ _ _ _
 refine aB _ hf ?_
 rw[hh]
 refine zu ?_
 refine dF rfl (fun ht=>?_) (fun ht=>?_)
 ·refine aC ?_
  refine aQ 6 mixed kr ?_
  refine aG hb ?_
  refine ai ?_
  simp only[Bool.and_eq_true,Bool.not_eq_true',decide_eq_false_iff_not,jb] at ht
  refine⟨_,ak,⟨41,_,rfl,⟨fun h=>(by cases h),fun h=>?_⟩⟩,rfl⟩
  omega
 ·refine aC ?_
  refine ai ?_
  simp only[Bool.and_eq_false_iff,Bool.not_eq_false',decide_eq_true_eq,jb] at ht
  exact⟨_,ak,⟨0,_,rfl,⟨fun _=>⟨q1,ht⟩,fun _=>rfl⟩⟩,rfl⟩
·refine ae (by rw[decide_eq_false q1];rfl) ?_
 refine aC ?_
 refine aQ 6 mixed kr ?_
 refine aG hb ?_
 refine ai ?_
 exact⟨_,ak,⟨40,_,rfl,⟨fun h=>(by cases h),fun h=>absurd h.1 q1⟩⟩,rfl⟩}
end
theorem iW {all:Array Oper} {o:Oper} {r:List Oper} {s:St} {K:St→Prop} {x y:Operand} {t e:TypeId} {ti:TI} {vx v:Value} {n m b:Nat} {cells cs:List Value} {h:ah} (hu:env.P.underlying t=some (.slice e)) (ht:aq env.P e=some ti) (hs0:0<ti.size) (hz:(ti.zero.map fun z=>z.cells.size)=some ti.size) (hx:aL h s.h vx n cells e) (hp:h <+: s.h) (hl:cells.length=n*ti.size) (hy:bT s.h v m cs e b) (hlc:cs.length=m*ti.size) (hb:(n+m)*ti.bytes≤140737488355328) (hmx:n+m≤140737488355328) (hw:aF all o s=some true) (ho:o.op = .call { callee:=.builtin .append,args:=#[x,y],argTypes:=#[t,t] }) (hxv:ev s x=some vx) (hyv:ev s y=some v) (k:∀ p c h',h <+: h'→aL h h' (.slice p (n+m) c) (n+m) (cells++cs) e→(∀ j o,bB vx j=false→s.h[j]? = some o→h'[j]? = some o)→OW env all r ({ s with h:=h' }.a9 o.dst (.val (.slice p (n+m) c))) K):OW env all (o :: r) s K:=by{
obtain⟨px,cx,rfl⟩:=hx.form
obtain⟨py,cy,rfl⟩:=hy.form
rcases Nat.eq_zero_or_pos m with rfl|h0
·have hc0:cs=[]:=List.eq_nil_of_length_eq_zero om
 subst hc0
 refine IP (t:=t) hw ho hu ht hxv hyv ?_
 have:=k px cx s.h hp (by simpa using hx) (fun j o _ h=>h)
 exact this
·obtain⟨id,ar,own,c',hv,hid⟩:=hy.at h0
 cases hv
 have hyt:∃ tmp,y = .tmp tmp:=by
  cases y with
  | tmp t=>exact⟨t,rfl⟩
  | const q=>
    simp only[ev] at hyv
    split at hyv
    ·rename_i hp
     cases hyv
     simp [fT,be] at hp
    ·cases hyv
  | func f=>simp [ev] at hyv
  | global g=>simp [ev] at hyv
 obtain⟨tm,rfl⟩:=hyt
 have hf:aW s.fr tm = .val (.slice (some ⟨id,0,some ar⟩) m cy):=by
  simp only[ev] at hyv
  split at hyv
  ·rename_i q hq
   cases hyv
   exact hq
  ·cases hyv
 have hrd:jU cs 0 (m*ti.size)=some cs:=by
  simp only[jU,vt,Nat.zero_add,List.drop_zero,hlc]
  rw[if_pos (Nat.le_refl _),← hlc,List.take_length]
 have hi:cd s s.h ti.size (.tmp tm)=some (cs,m):=by
  simp only[cd,hf,hid,if_true]
  first|rw[hrd];rfl|(unfold jU at hrd;rw[hrd];rfl)
 rcases hx with ⟨rfl,rfl,e3⟩ | ⟨idx,vex,e1,e2,e3⟩
 ·rw[e3] at hxv
  have hk:=k (some ⟨s.h.length,0,some 0⟩) m (s.h++[av.aA cs 0 true e]) (bU hp) (by rw[Nat.zero_add,List.nil_append];exact .inr ⟨s.h.length,0,hp.length_le,rfl,aJ⟩) (fun j o _ h=>bg h)
  rw[Nat.zero_add] at hk hb hmx
  exact og (t:=t) (cs:=cs) (m:=m) hw ho hu ht hs0 hz hxv hi h0 hb hmx hk
 ·have hk:=k (some ⟨idx,0,some (vex+1)⟩) (n+m) (s.h.set idx (av.aA (cells++cs) (vex+1) true e)) (a8 hp e1) (.inr ⟨idx,vex+1,e1,rfl,aw e3⟩) (fun j o hj h=>by
   rw[e2] at hj
   simp only[bB,beq_eq_false_iff_ne] at hj
   rw[aD hj]
   exact h)
  rw[e2] at hxv
  refine oZ (t:=t) (cs:=cs) (m:=m) hw ho hu ht hs0 hz hxv e3 om hi hb hmx ?_
  rw[List.take_of_length_le om]
  exact hk}
theorem J0 {all:Array Oper} {o:Oper} {r:List Oper} {s:St} {K:St→Prop} {x y:Operand} {t e:TypeId} {ti:TI} {vx:Value} {n m:Nat} {cells cs:List Value} {h:ah} (hu:env.P.underlying t=some (.slice e)) (ht:aq env.P e=some ti) (hs0:0<ti.size) (hz:(ti.zero.map fun z=>z.cells.size)=some ti.size) (hx:aL h s.h vx n cells e) (hp:h <+: s.h) (hl:cells.length=n*ti.size) (h0:0<m) (hi:cd s s.h ti.size y=some (cs,m)) (hb:(n+m)*ti.bytes≤140737488355328) (hmx:n+m≤140737488355328) (hw:aF all o s=some true) (ho:o.op = .call { callee:=.builtin .append,args:=#[x,y],argTypes:=#[t,t] }) (hxv:ev s x=some vx) (k:∀ p c h',h <+: h'→aL h h' (.slice p (n+m) c) (n+m) (cells++cs) e→(∀ j o,bB vx j=false→s.h[j]? = some o→h'[j]? = some o)→OW env all r ({ s with h:=h' }.a9 o.dst (.val (.slice p (n+m) c))) K):OW env all (o :: r) s K:=by{
rcases hx with ⟨rfl,rfl,e3⟩ | ⟨idx,vex,e1,e2,e3⟩
·rw[e3] at hxv
 have hk:=k (some ⟨s.h.length,0,some 0⟩) m (s.h++[av.aA cs 0 true e]) (bU hp) (by rw[Nat.zero_add,List.nil_append];exact .inr ⟨s.h.length,0,hp.length_le,rfl,aJ⟩) (fun j o _ h=>bg h)
 rw[Nat.zero_add] at hk hb hmx
 exact og (t:=t) (cs:=cs) (m:=m) hw ho hu ht hs0 hz hxv hi h0 hb hmx hk
·have hk:=k (some ⟨idx,0,some (vex+1)⟩) (n+m) (s.h.set idx (av.aA (cells++cs) (vex+1) true e)) (a8 hp e1) (.inr ⟨idx,vex+1,e1,rfl,aw e3⟩) (fun j o hj h=>by
  rw[e2] at hj
  simp only[bB,beq_eq_false_iff_ne] at hj
  rw[aD hj]
  exact h)
 rw[e2] at hxv
 refine oZ (t:=t) (cs:=cs) (m:=m) hw ho hu ht hs0 hz hxv e3 om hi hb hmx ?_
 rw[List.take_of_length_le om]
 exact hk}
theorem ig {l:List Sym} {i:Nat} (hi:i<l.length):jU (l.flatMap Sym.cells) (i*8) 8=some [i64 l[i].kind,.string l[i].text,u64 l[i].set.a,u64 l[i].set.b,u64 l[i].set.c,u64 l[i].set.d,.string l[i].name,.string l[i].sep]:=bS (f:=Sym.cells) (fun _=>rfl) l i l[i] (by simp [hi])
def cW (l:List Sym):List ByteArray:=l.filterMap fun s=>if s.name=⟨#[]⟩ then none else some s.name
theorem xX {l:List Sym} {k:Nat} (hk:k<l.length):cW (l.take (k+1))=if l[k].name=⟨#[]⟩ then cW (l.take k) else cW (l.take k)++[l[k].name]:=by{
unfold cW
rw[List.take_succ_eq_append_getElem hk,List.filterMap_append]
by_cases h:l[k].name=⟨#[]⟩
·rw[if_pos h];simp [h]
·rw[if_neg h];simp [h]}
theorem tB {l:List Sym}:(cW l).length≤l.length:=List.length_filterMap_le ..
section
variable {h:ah}
theorem yy {p:Prod} {u:Value} (hy:fR h u p.aj):FW env 128 [.agg #[.bool p.lex,.string p.sort,.string p.cons,.bool p.bracket,u]] h fun r h'=>h <+: h'∧aL h h' r (cW p.aj).length ((cW p.aj).map .string) 9:=by{
obtain⟨ps,cs,rfl⟩:=bT.form hy
have hle:p.aj.length*88≤140737488355328:=hy.1
have hl:p.aj.length≤140737488355328:=by omega
have z0:(cW []).length=0:=rfl
refine fe Tryz.func128 ?_;simp only[push_cast]
refine aC ?_
refine aZ p.aj.length (fun k (x:ah×Option Addr×Nat)=>[(3,.val (.slice x.2.1 (cW (p.aj.take k)).length x.2.2)),(7,.val (.slice ps p.aj.length cs)),(8,.val (i64 p.aj.length)),(9,.val (i64 k))]) (fun _ x=>x.1)
 (fun k x=>h <+: x.1∧aL h x.1 (.slice x.2.1 (cW (p.aj.take k)).length x.2.2) (cW (p.aj.take k)).length ((cW (p.aj.take k)).map .string) 9) (h,none,0) (lH z0) rfl ⟨List.prefix_refl _,aL.nil⟩ ?_
rintro k ⟨hk,q,cq⟩ hkn ⟨hp,hG⟩
simp only at hp hG ⊢
by_cases hlt:k<p.aj.length
·obtain⟨id,ar,own,c',hv,hid⟩:=bT.at (hy.mono hp) om
 cases hv
 have hg:=ig hlt
 have e1:=cg hlt
 have e2:=inc hlt hl
 have e3:=aS hlt
 have hs:=xX hlt
 have hlen:(cW (p.aj.take k)).length≤k:=by
  have:=tB (l:=p.aj.take k)
  rw[List.length_take] at this
  omega
 refine aG e3 ?_
 refine ae rfl ?_
 by_cases q1:p.aj[k].name=⟨#[]⟩
 ·rw[if_pos q1] at hs
  have d1:=decide_eq_true q1
  refine fi e1 hid hg d1 ?_
  refine af rfl ?_
  refine aG e2 ?_
  refine⟨hlt,(hk,q,cq),(lH hs),rfl,hp,?_⟩
  rw[hs]
  exact hG
 ·rw[if_neg q1] at hs
  have hs2:(cW (p.aj.take (k+1))).length=(cW (p.aj.take k)).length+1:=by rw[hs];simp
  have d1:=decide_eq_false q1
  refine fi e1 hid hg d1 ?_
  refine ae rfl ?_
  refine aC ?_
  refine mn (t:=36) ak rfl kr HB (by decide) rfl ak rfl hG hp (by simp) rfl (by simp only;omega) om ?_
  intro p' c' h' k1 k2 _ _
  refine aG e2 ?_
  refine⟨hlt,(h',p',c'),(lH hs2),rfl,k2,?_⟩
  rw[hs,List.length_append,List.map_append]
  exact k1
·have e3:=aP hlt
 obtain rfl:k=p.aj.length:=by omega
 rw[List.take_length] at hG
 refine aG e3 ?_
 refine af rfl ?_
 refine az ?_
 show CW _ _ _ _
 refine aC ?_
 refine ai ?_
 rw[List.take_length]
 refine⟨_,ak,hp,?_⟩
 exact hG}
end
def nP (l:List Prod):List ByteArray:=l.flatMap fun p=>cW p.aj
def nR (l:List dC):List ByteArray:=l.flatMap fun x=>[x.sort,x.jR]
def fF (d:bM):List ByteArray:=nP d.aa++d.follows.map (·.sort)++nR d.al
theorem Ji {l:List Prod} {k:Nat} (hk:k<l.length):nP (l.take (k+1))=nP (l.take k)++cW l[k].aj:=by{
unfold nP
rw[List.take_succ_eq_append_getElem hk,List.flatMap_append]
simp}
theorem Jy {l:List dC} {k:Nat} (hk:k<l.length):nR (l.take (k+1))=nR (l.take k)++[l[k].sort,l[k].jR]:=by{
unfold nR
rw[List.take_succ_eq_append_getElem hk,List.flatMap_append]
simp}
theorem w7:∀ (l:List Prod),(nP l).length≤cJ (fun p=>p.aj.length) l
 | []=>by simp [nP]
 | p :: l=>by
   have h1:=w7 l
   have h2:=tB (l:=p.aj)
   unfold nP cJ at *
   simp only[List.flatMap_cons,List.length_append,List.map_cons,List.sum_cons]
   omega
theorem KH {l:List Prod} {k:Nat}:(nP (l.take k)).length≤cJ (fun p=>p.aj.length) l:=Nat.le_trans (w7 _) jC
theorem js {l:List ew} {i:Nat} (hi:i<l.length):jU (l.flatMap ew.cells) (i*5) 5=some [.string l[i].sort,u64 l[i].set.a,u64 l[i].set.b,u64 l[i].set.c,u64 l[i].set.d]:=bS (f:=ew.cells) (fun _=>rfl) l i l[i] (by simp [hi])
theorem ij {l:List dC} {i:Nat} (hi:i<l.length):jU (l.flatMap dC.cells) (i*2) 2=some [.string l[i].sort,.string l[i].jR]:=bS (f:=dC.cells) (fun _=>rfl) l i l[i] (by simp [hi])
section
variable {h:ah} {r:Value} {d:bM}
theorem vJ (hk:Bk h r d) (hpn:cX d≤160):FW env 70 [r] h fun r h'=>iK (∀ s∈fF d,cH d.aa s≠0) r∧h <+: h':=by{
have hk0:=hk
obtain⟨h0,ib,im,sv,up,uc,uf,ur,ub,rfl,hd,K⟩:=hk
have hd:=hd.mono K.p
obtain⟨p1,c1,p2,c2,p3,c3,p4,c4,p5,c5,rfl,rfl,rfl,rfl,rfl,l1,l2,l3,l4,l5⟩:=bH.form hd
obtain⟨es,hm,hes⟩:=K.m
have hb:=K.b
unfold bM.val at hb
simp only[List.cons_append,List.nil_append] at hb
have hkk:=br es
have hss:bj h sv (aE d.aa):=K.s.sl (b:=16) (by have:=bZ (ps:=d.aa);have:=cV.le hd.aa;omega)
obtain⟨pq,cq,rfl⟩:=hss.form
have b1:d.aa.length≤160:=by unfold cX at hpn;omega
have b2:d.follows.length≤160:=by unfold cX at hpn;omega
have b3:d.al.length≤160:=by unfold cX at hpn;omega
have b4:cJ (fun p=>p.aj.length) d.aa≤160:=by unfold cX at hpn;omega
have z0:(nP []).length=0:=rfl
refine fe Tryz.func70 ?_;simp only[push_cast]
refine aG hb ?_
refine CW.mono (Q:=fun e s'=>e = .exit 0∧∃ (h1:ah) (q:Option Addr) (c:Nat),h <+: h1∧aL h h1 (.slice q (nP d.aa).length c) (nP d.aa).length ((nP d.aa).map .string) 9∧s'.h=h1∧bA [(0,.val (.pointer (some ⟨ib,0,some 0⟩))),(4,.val (.slice q (nP d.aa).length c))] s'.fr) ?_ ?_
·refine aZ d.aa.length (fun k (x:ah×Option Addr×Nat)=>[(0,.val (.pointer (some ⟨ib,0,some 0⟩))),(4,.val (.slice x.2.1 (nP (d.aa.take k)).length x.2.2)),(17,.val (.slice p1 d.aa.length c1)),(18,.val (i64 d.aa.length)),(19,.val (i64 k))]) (fun _ x=>x.1)
  (fun k x=>h <+: x.1∧aL h x.1 (.slice x.2.1 (nP (d.aa.take k)).length x.2.2) (nP (d.aa.take k)).length ((nP (d.aa.take k)).map .string) 9) (h,none,0) (lH z0) rfl ⟨List.prefix_refl _,aL.nil⟩ ?_
 rintro k ⟨hk,q,cq⟩ hkn ⟨hp,hG⟩
 simp only at hp hG ⊢
 by_cases hlt:k<d.aa.length
 ·obtain⟨id,ar,own,c',cells,u,hv,hid,hrd,hu⟩:=cV.at (k:=5) (fun _ _=>rfl) (hd.aa.mono hp) hlt
  cases hv
  obtain⟨ps,cs,rfl⟩:=bT.form hu
  have w1:=cg hlt
  have w2:=inc hlt l1
  have q3:=aS hlt
  have hst:=Ji hlt
  have hle1:=KH (l:=d.aa) (k:=k)
  have hle2:=KH (l:=d.aa) (k:=k+1)
  rw[hst,List.length_append] at hle2
  have hst2:(nP (d.aa.take (k+1))).length=(nP (d.aa.take k)).length+(cW d.aa[k].aj).length:=by rw[hst,List.length_append]
  refine aG q3 ?_
  refine ae rfl ?_
  refine gV w1 hid hrd ?_
  refine zj Tryz.func128 ?_
  refine (yy hu).mono ?_
  rintro rn h1 ⟨hp1,G1⟩
  have hS:bT h1 rn (cW d.aa[k].aj).length ((cW d.aa[k].aj).map .string) 9 16:=G1.sl om
  refine aC ?_
  refine iW (t:=36) (b:=16) kr HB (by decide) rfl (hG.mono fun _ _ _ ho=>ag hp1 ho) (hp.trans hp1) (by simp) hS (by simp) (by simp only;omega) om ak rfl ak ak ?_
  intro p' c' h' k1 k2 _
  refine aG w2 ?_
  refine⟨hlt,(h',p',c'),(lH hst2),rfl,k1,?_⟩
  rw[hst,List.length_append,List.map_append]
  exact k2
 ·have q3:=aP hlt
  obtain rfl:k=d.aa.length:=by omega
  rw[List.take_length] at hG
  refine aG q3 ?_
  refine af rfl ?_
  refine az ?_
  exact⟨rfl,hk,q,cq,hp,hG,rfl,by rw[List.take_length];exact aK⟩
rintro e s' ⟨rfl,h1,q,c,hp1,hG1,hh,hf⟩
show CW _ _ _ _
refine aB _ hf ?_
rw[hh]
clear hf hh s'
have hb1:=ag hp1 hb
have hlP:(nP d.aa).length≤160:=Nat.le_trans (w7 _) b4
have f0:([]:List ew).length=0:=rfl
refine aG hb1 ?_
refine CW.mono (Q:=fun e s'=>e = .exit 2∧∃ (h2:ah) (q:Option Addr) (c:Nat),h <+: h2∧aL h h2 (.slice q ((nP d.aa).length+d.follows.length) c) ((nP d.aa).length+d.follows.length) ((nP d.aa++d.follows.map (·.sort)).map .string) 9∧s'.h=h2∧bA [(0,.val (.pointer (some ⟨ib,0,some 0⟩))),(4,.val (.slice q ((nP d.aa).length+d.follows.length) c))] s'.fr) ?_ ?_
·refine aZ d.follows.length (fun k (x:ah×Option Addr×Nat)=>[(0,.val (.pointer (some ⟨ib,0,some 0⟩))),(4,.val (.slice x.2.1 ((nP d.aa).length+k) x.2.2)),(32,.val (.slice p3 d.follows.length c3)),(33,.val (i64 d.follows.length)),(34,.val (i64 k))]) (fun _ x=>x.1)
  (fun k x=>h <+: x.1∧aL h x.1 (.slice x.2.1 ((nP d.aa).length+k) x.2.2) ((nP d.aa).length+k) ((nP d.aa++(d.follows.take k).map (·.sort)).map .string) 9) (h1,q,c) (by simp only[push_cast,Nat.reduceEqDiff,reduceIte,Nat.add_zero]) rfl ⟨hp1,by simpa using hG1⟩ ?_
 clear hG1 hp1 hb1
 rintro k ⟨hk,q,cq⟩ hkn ⟨hp,hG⟩
 simp only at hp hG ⊢
 by_cases hlt:k<d.follows.length
 ·obtain⟨id,ar,own,c',hv,hid⟩:=bT.at (bT.mono hd.follows hp) om
  cases hv
  have hrd:=js hlt
  have w1:=cg hlt
  have w2:=inc hlt l3
  have q3:=aS hlt
  refine aG q3 ?_
  refine ae rfl ?_
  refine gV w1 hid hrd ?_
  refine mn (t:=36) ak rfl kr HB (by decide) rfl ak rfl hG hp (by simp;omega) rfl (by simp only;omega) om ?_
  intro p' c' h' k1 k2 _ _
  refine aG w2 ?_
  refine⟨hlt,(h',p',c'),(by simp only[push_cast,Nat.reduceEqDiff,reduceIte,Nat.add_assoc]),rfl,k2,?_⟩
  have hst:nP d.aa++(d.follows.take (k+1)).map (·.sort)=nP d.aa++(d.follows.take k).map (·.sort)++[d.follows[k].sort]:=by
   rw[List.take_succ_eq_append_getElem hlt,List.map_append,List.append_assoc]
   rfl
  rw[hst,List.map_append]
  exact k1
 ·have q3:=aP hlt
  obtain rfl:k=d.follows.length:=by omega
  rw[List.take_length] at hG
  refine aG q3 ?_
  refine af rfl ?_
  refine az ?_
  exact⟨rfl,hk,q,cq,hp,hG,rfl,aK⟩
clear hG1 hp1 hb1
rintro e s' ⟨rfl,h2,q,c,hp1,hG1,hh,hf⟩
show CW _ _ _ _
refine aB _ hf ?_
rw[hh]
clear hf hh s'
have hb1:=ag hp1 hb
generalize hL:nP d.aa++d.follows.map (·.sort)=L at hG1
have hLl:(nP d.aa).length+d.follows.length=L.length:=by rw[← hL];simp
have hLb:L.length≤320:=by omega
rw[hLl] at hG1 ⊢
refine aG hb1 ?_
refine CW.mono (Q:=fun e s'=>e = .exit 4∧∃ (h2:ah) (q:Option Addr) (c:Nat),h <+: h2∧aL h h2 (.slice q (fF d).length c) (fF d).length ((fF d).map .string) 9∧s'.h=h2∧bA [(0,.val (.pointer (some ⟨ib,0,some 0⟩))),(4,.val (.slice q (fF d).length c))] s'.fr) ?_ ?_
·refine aZ d.al.length (fun k (x:ah×Option Addr×Nat)=>[(0,.val (.pointer (some ⟨ib,0,some 0⟩))),(4,.val (.slice x.2.1 (L++nR (d.al.take k)).length x.2.2)),(48,.val (.slice p4 d.al.length c4)),(49,.val (i64 d.al.length)),(50,.val (i64 k))]) (fun _ x=>x.1)
  (fun k x=>h <+: x.1∧aL h x.1 (.slice x.2.1 (L++nR (d.al.take k)).length x.2.2) (L++nR (d.al.take k)).length ((L++nR (d.al.take k)).map .string) 9) (h2,q,c) (by rw[List.take_zero,show nR []=[] from rfl,List.append_nil];exact aK) rfl ⟨hp1,by rw[List.take_zero,show nR []=[] from rfl,List.append_nil];exact hG1⟩ ?_
 clear hG1 hp1 hb1
 rintro k ⟨hk,q,cq⟩ hkn ⟨hp,hG⟩
 simp only at hp hG ⊢
 by_cases hlt:k<d.al.length
 ·obtain⟨id,ar,own,c',hv,hid⟩:=bT.at (bT.mono hd.al hp) om
  cases hv
  have hrd:=ij hlt
  have w1:=cg hlt
  have w2:=inc hlt l4
  have q3:=aS hlt
  have hst:=Jy hlt
  have hRl:(nR (d.al.take k)).length≤2*k:=by
   have:∀ l:List dC,(nR l).length=2*l.length:=fun l=>by induction l<;>simp_all [nR];omega
   rw[this,List.length_take]
   omega
  have hLk:(L++nR (d.al.take k)).length≤1000:=by rw[List.length_append];omega
  have hst2:(L++nR (d.al.take (k+1))).length=(L++nR (d.al.take k)).length+2:=by rw[hst];simp;omega
  have hst3:L++nR (d.al.take (k+1))=L++nR (d.al.take k)++[d.al[k].sort,d.al[k].jR]:=by rw[hst,List.append_assoc]
  refine aG q3 ?_
  refine ae rfl ?_
  refine gV w1 hid hrd ?_
  refine J0 (t:=36) (cs:=[.string d.al[k].sort,.string d.al[k].jR]) (m:=2) kr HB (by decide) rfl hG hp (by simp) (by decide) rfl (by simp only;omega) om ak rfl ak ?_
  intro p' c' h' k1 k2 _
  refine aG w2 ?_
  refine⟨hlt,(h',p',c'),(lH hst2),rfl,k1,?_⟩
  rw[hst2,hst3,List.map_append]
  exact k2
 ·have q3:=aP hlt
  obtain rfl:k=d.al.length:=by omega
  rw[List.take_length] at hG
  have hAL:L++nR d.al=fF d:=by rw[← hL];rfl
  rw[hAL] at hG
  refine aG q3 ?_
  refine af rfl ?_
  refine az ?_
  exact⟨rfl,hk,q,cq,hp,hG,rfl,by rw[List.take_length,hAL];exact aK⟩
clear hG1 hp1 hb1 hL hLl hLb
rintro e s' ⟨rfl,h3,q,c,hp1,hG1,hh,hf⟩
show CW _ _ _ _
refine aB _ hf ?_
rw[hh]
clear hf hh s'
have hb1:=ag hp1 hb
have hm1:=ag hp1 hm
have hAl:(fF d).length≤100000:=by
 have:∀ l:List dC,(nR l).length=2*l.length:=fun l=>by induction l<;>simp_all [nR];omega
 unfold fF
 rw[List.length_append,List.length_append,this,List.length_map]
 omega
have hN:bj h3 (.slice q (fF d).length c) (fF d):=hG1.sl (b:=16) om
refine aC ?_
refine cO (fF d).length (fun k=>[(0,.val (.pointer (some ⟨ib,0,some 0⟩))),(62,.val (.slice q (fF d).length c)),(63,.val (i64 (fF d).length)),(64,.val (i64 k))]) (fun _=>h3) (fun k=>∀ i (hi:i<(fF d).length),i<k→cH d.aa (fF d)[i]≠0) aK rfl (fun i _ hi=>absurd hi om) ?_
intro k hkn hall
by_cases hlt:k<(fF d).length
·obtain⟨id,ar,own,c',cells,hv,hid,hc⟩:=hN.at hlt
 cases hv
 have e1:=cg hlt
 have e2:=inc hlt om
 have e3:=aS hlt
 refine aG e3 ?_
 refine ae rfl ?_
 have hn:=hes (fF d)[k]
 have hstep:cH d.aa (fF d)[k]≠0→∀ i (hi:i<(fF d).length),i<k+1→cH d.aa (fF d)[i]≠0:=fun h3 i hi h2=>by
  rcases (by omega:i<k∨i=k) with h4|rfl
  ·exact hall i hi h4
  ·exact h3
 have hmem:(fF d)[k]∈fF d:=List.getElem_mem hlt
 generalize hNN:cH d.aa (fF d)[k]=n at hn hstep
 rcases fy es (fF d)[k] with ⟨hg,h0'⟩ | hg
 ·obtain rfl:n=0:=by rw[← hn,h0']
  refine Tm e1 hid hc hb1 hm1 hg hkk Nat.mul_one ?_
  refine ae rfl ?_
  refine aC ?_
  refine ai ?_
  exact⟨_,ak,⟨43,_,rfl,⟨fun h=>(by cases h),fun h=>absurd hNN (h _ hmem)⟩⟩,hp1⟩
 ·rw[hn] at hg
  by_cases h3':n=0
  ·have hd3:=decide_eq_true h3'
   refine HU e1 hid hc hb1 hm1 hg hkk Nat.mul_one hd3 ?_
   refine ae rfl ?_
   refine aC ?_
   refine ai ?_
   exact⟨_,ak,⟨43,_,rfl,⟨fun h=>(by cases h),fun h=>absurd (hNN.trans h3') (h _ hmem)⟩⟩,hp1⟩
  ·have hd3:=decide_eq_false h3'
   refine HU e1 hid hc hb1 hm1 hg hkk Nat.mul_one hd3 ?_
   refine af rfl ?_
   refine aG e2 ?_
   exact⟨hlt,aK,rfl,hstep h3'⟩
·have e3:=aP hlt
 obtain rfl:k=(fF d).length:=by omega
 refine aG e3 ?_
 refine af rfl ?_
 refine az ?_
 show CW _ _ _ _
 refine aC ?_
 refine ai ?_
 refine⟨_,ak,⟨0,_,rfl,fun _ s hs=>?_,fun _=>rfl⟩,hp1⟩
 obtain⟨i,hi,rfl⟩:=List.getElem_of_mem hs
 exact hall i hi hi}
end
theorem rL {f:FuncId} {args:List Value} {h:ah} {K:Value→Prop} (hh:FW env f args h fun r h'=>(dv h.length r∧h <+: h')∧K r):FW env f args h fun r h'=>K r∧h'=h:=by{
unfold FW at hh ⊢
obtain⟨r,h',h0,⟨h1,h2⟩,h3⟩:=hh
exact⟨r,h,.gc h0 h1 (by obtain⟨t,rfl⟩:=h2;simp),h3,rfl⟩}
theorem iK.OK {P:Prop} {r:Value} (k:iK P r) {n:Nat}:dv n r:=by{
obtain⟨e,w,rfl,_⟩:=k
refine .En fun i v hv=>?_
rcases i with _|_|i
·cases hv;exact .be rfl
·cases hv;exact .be rfl
·simp at hv}
theorem mc {f:FuncId} {args:List Value} {h:ah} {P:Prop} (hh:FW env f args h fun r h'=>iK P r∧h <+: h'):FW env f args h fun r h'=>iK P r∧h'=h:=
 rL (hh.mono fun r h' ⟨h1,h2⟩=>⟨⟨h1.OK,h2⟩,h1⟩)
theorem vE {f:FuncId} {args:List Value} {h:ah} {b:Bool} (hh:FW env f args h fun r h'=>r = .bool b∧h <+: h'):FW env f args h fun r h'=>r = .bool b∧h'=h:=
 rL (hh.mono fun r h' ⟨h1,h2⟩=>⟨⟨h1▸.be rfl,h2⟩,h1⟩)
abbrev Sym.val (s:Sym):Value:=.agg #[i64 s.kind,.string s.text,u64 s.set.a,u64 s.set.b,u64 s.set.c,u64 s.set.d,.string s.name,.string s.sep]
abbrev Prod.val (p:Prod) (u:Value):Value:=.agg #[.bool p.lex,.string p.sort,.string p.cons,.bool p.bracket,u]
def dG (s:Sym):Bool:=decide (s.kind=4)||decide (s.kind=5)
section
variable {h:ah}
theorem rc {s:Sym}:FW env 134 [s.val] h fun r h'=>r = .bool (dG s)∧h'=h:=by{
refine fe Tryz.func134 ?_;simp only[push_cast]
by_cases q:s.kind=4
·have d1:=decide_eq_true q
 refine aG d1 ?_
 refine ai ?_
 exact⟨_,ak,by unfold dG;rw[d1];rfl,rfl⟩
·have d1:=decide_eq_false q
 refine aG d1 ?_
 refine ai ?_
 exact⟨_,ak,by unfold dG;rw[d1];rfl,rfl⟩}
def mW {α:Type} (P:α→Bool) (l:List α) (r:Int):Prop:=(∃ (k:Nat) (hk:k<l.length),P l[k]=true∧(∀ (i:Nat) (hi:i<k),P (l[i]'om)=false)∧r=k)∨((∀ x∈l,P x=false)∧r = -1)
theorem mW.neg {α:Type} {P:α→Bool} {l:List α} {r:Int} (h:mW P l r):decide (0≤r)=l.any P:=by{
rcases h with ⟨k,hk,h1,_,rfl⟩ | ⟨h1,rfl⟩
·rw[decide_eq_true om]
 exact (List.any_eq_true.2 ⟨_,List.getElem_mem hk,h1⟩).symm
·symm
 rw[show decide ((0:Int)≤-1)=false from rfl,List.any_eq_false]
 intro x hx
 simp [h1 x hx]}
theorem CX {u:Value} {l:List Sym} {g:FuncId} {fn:Func} {cap:List Value} {P:Sym→Bool} (hy:fR h u l) (hf:env.P.funcs[g]? = some fn) (hnm:(fn.name == "runtime.NumGoroutine")=false) (hb:fn.body.isNone=false) (hP:∀ s∈l,FW env g (s.val :: cap) h fun r h'=>r = .bool (P s)∧h'=h):FW env 174 [u,.func (.func g) #[] cap.toArray] h fun r h'=>(∃ i,mW P l i∧r=i64 i)∧h'=h:=by{
obtain⟨ps,cs,rfl⟩:=bT.form hy
have hl:l.length≤140737488355328:=by have:=hy.1;omega
refine fe Tryz.func174 ?_;simp only[push_cast]
refine aC ?_
refine cO l.length (fun k=>[(0,.val (.slice ps l.length cs)),(1,.val (.func (.func g) #[] cap.toArray)),(7,.val (i64 l.length)),(8,.val (i64 k))]) (fun _=>h) (fun k=>∀ i (hi:i<l.length),i<k→P l[i]=false) aK rfl (fun i _ hi=>absurd hi om) ?_
intro k hkn hall
by_cases hlt:k<l.length
·obtain⟨id,ar,own,c',hv,hid⟩:=bT.at hy om
 have hg:=ig hlt
 have hPk:=hP _ (List.getElem_mem hlt)
 cases hv
 have e1:=cg hlt
 have e2:=inc hlt hl
 have e3:=aS hlt
 refine aG e3 ?_
 refine ae rfl ?_
 refine gV e1 hid hg ?_
 refine zc (f:=g) (cap:=cap) (args:=[l[k].val]) (fn:=fn) (by simp only[push_cast,Nat.reduceEqDiff,reduceIte]) hf hnm hb ?_
 refine hPk.mono ?_
 rintro _ h1 ⟨rfl,rfl⟩
 cases hq:P l[k] with
 | true=>
   refine aC ?_
   refine ae rfl ?_
   refine aC ?_
   refine ai ?_
   exact⟨_,ak,⟨_,.inl ⟨k,hlt,hq,fun i hi=>hall i om hi,rfl⟩,rfl⟩,rfl⟩
 | false=>
   refine aC ?_
   refine af rfl ?_
   refine aG e2 ?_
   refine⟨hlt,aK,rfl,fun i hi h2=>?_⟩
   rcases (by omega:i<k∨i=k) with h3|rfl
   ·exact hall i hi h3
   ·exact hq
·have e3:=aP hlt
 obtain rfl:k=l.length:=by omega
 refine aG e3 ?_
 refine af rfl ?_
 refine az ?_
 show CW _ _ _ _
 refine aC ?_
 refine ai ?_
 refine⟨_,ak,⟨_,.inr ⟨fun x hx=>?_,rfl⟩,rfl⟩,rfl⟩
 obtain⟨i,hi,rfl⟩:=List.getElem_of_mem hx
 exact hall i hi hi}
theorem De {u:Value} {l:List Prod} {g:FuncId} {fn:Func} {cap:List Value} {P:Prod→Bool} (hy:eR h u l) (hf:env.P.funcs[g]? = some fn) (hnm:(fn.name == "runtime.NumGoroutine")=false) (hb:fn.body.isNone=false) (hP:∀ p∈l,∀ u,fR h u p.aj→FW env g (p.val u :: cap) h fun r h'=>r = .bool (P p)∧h'=h):FW env 53 [u,.func (.func g) #[] cap.toArray] h fun r h'=>(∃ i,mW P l i∧r=i64 i)∧h'=h:=by{
obtain⟨ps,cs,rfl⟩:=cV.form hy
have hl:l.length≤140737488355328:=by have:=cV.le hy;omega
refine fe Tryz.func53 ?_;simp only[push_cast]
refine aC ?_
refine cO l.length (fun k=>[(0,.val (.slice ps l.length cs)),(1,.val (.func (.func g) #[] cap.toArray)),(7,.val (i64 l.length)),(8,.val (i64 k))]) (fun _=>h) (fun k=>∀ i (hi:i<l.length),i<k→P l[i]=false) aK rfl (fun i _ hi=>absurd hi om) ?_
intro k hkn hall
by_cases hlt:k<l.length
·obtain⟨id,ar,own,c',cells,u',hv,hid,hg,hu⟩:=cV.at (k:=5) (fun _ _=>rfl) hy hlt
 have hPk:=hP _ (List.getElem_mem hlt) u' hu
 cases hv
 have e1:=cg hlt
 have e2:=inc hlt hl
 have e3:=aS hlt
 refine aG e3 ?_
 refine ae rfl ?_
 refine gV e1 hid hg ?_
 refine zc (f:=g) (cap:=cap) (args:=[l[k].val u']) (fn:=fn) (by simp only[push_cast,Nat.reduceEqDiff,reduceIte]) hf hnm hb ?_
 refine hPk.mono ?_
 rintro _ h1 ⟨rfl,rfl⟩
 cases hq:P l[k] with
 | true=>
   refine aC ?_
   refine ae rfl ?_
   refine aC ?_
   refine ai ?_
   exact⟨_,ak,⟨_,.inl ⟨k,hlt,hq,fun i hi=>hall i om hi,rfl⟩,rfl⟩,rfl⟩
 | false=>
   refine aC ?_
   refine af rfl ?_
   refine aG e2 ?_
   refine⟨hlt,aK,rfl,fun i hi h2=>?_⟩
   rcases (by omega:i<k∨i=k) with h3|rfl
   ·exact hall i hi h3
   ·exact hq
·have e3:=aP hlt
 obtain rfl:k=l.length:=by omega
 refine aG e3 ?_
 refine af rfl ?_
 refine az ?_
 show CW _ _ _ _
 refine aC ?_
 refine ai ?_
 refine⟨_,ak,⟨_,.inr ⟨fun x hx=>?_,rfl⟩,rfl⟩,rfl⟩
 obtain⟨i,hi,rfl⟩:=List.getElem_of_mem hx
 exact hall i hi hi}
theorem oh {u:Value} {l:List Sym} {g:FuncId} {fn:Func} {cap:List Value} {P:Sym→Bool} (hy:fR h u l) (hf:env.P.funcs[g]? = some fn) (hnm:(fn.name == "runtime.NumGoroutine")=false) (hb:fn.body.isNone=false) (hP:∀ s∈l,FW env g (s.val :: cap) h fun r h'=>r = .bool (P s)∧h'=h):FW env 130 [u,.func (.func g) #[] cap.toArray] h fun r h'=>r = .bool (l.any P)∧h'=h:=by{
have hI:=CX hy hf hnm hb hP
obtain⟨ps,cs,rfl⟩:=bT.form hy
refine fe Tryz.func130 ?_;simp only[push_cast]
refine aC ?_
refine zj Tryz.func174 ?_
refine hI.mono ?_
rintro _ h1 ⟨⟨i,hi,rfl⟩,rfl⟩
have hd:=hi.neg
refine aG hd ?_
refine ai ?_
exact⟨_,ak,rfl,rfl⟩}
end
def qg (name:ByteArray) (p:Prod):Bool:=!p.lex&&decide (p.cons=name)
def ju (ps:List Prod) (name:ByteArray) (r:Int):Prop:=(name.size=0∧r = -1)∨(name.size≠0∧mW (qg name) ps r)
section
variable {h:ah} {d:bM} {up uc uf ur ub:Value}
theorem E5 {p:Prod} {u:Value} {name:ByteArray} {ix:Nat} (hx:h[ix]? = some (.aA [.string name] 0 true 9)) (hy:fR h u p.aj):FW env 54 [p.val u,.pointer (some ⟨ix,0,some 0⟩)] h fun r h'=>r = .bool (qg name p)∧h'=h:=by{
obtain⟨ps,cs,rfl⟩:=bT.form hy
unfold Prod.val
refine fe Tryz.func54 ?_;simp only[push_cast]
cases hl:p.lex with
| true=>
  refine aG hl ?_
  refine ai ?_
  exact⟨_,ak,by unfold qg;rw[hl];rfl,rfl⟩
| false=>
  refine fh hl hx ?_
  refine ai ?_
  exact⟨_,ak,by unfold qg;rw[hl];rfl,rfl⟩}
theorem rJ {name:ByteArray} (hd:bH h d up uc uf ur ub):FW env 24 [.agg (d.val up uc uf ur ub).toArray,.string name] h fun r h'=>(∃ i,ju d.aa name i∧r=i64 i)∧h'=h:=by{
refine rL (K:=fun r=>∃ i,ju d.aa name i∧r=i64 i) ?_
obtain⟨p1,c1,p2,c2,p3,c3,p4,c4,p5,c5,rfl,rfl,rfl,rfl,rfl,l1,l2,l3,l4,l5⟩:=bH.form hd
refine fe Tryz.func24 ?_;simp only[push_cast]
unfold bM.val
refine zu ?_
iterate 1 (apply ei;·simp only[push_cast,env,Nat.reduceEqDiff,reduceIte,Nat.reduceAdd,Nat.reduceMul,Nat.reduceLeDiff,reduceCtorEq,Nat.reduceSub,Int.reduceToNat]<;>exact rfl)
refine dA (t:=9) (cs:=[.string name]) ak ak ?_
dsimp only[St.a9,St.put]
have hx:(h++[av.aA [.string name] 0 true 9])[h.length]? = some (.aA [.string name] 0 true 9):=aJ
have hpre:h <+: h++[av.aA [.string name] 0 true 9]:=aH
generalize (h++[av.aA [.string name] 0 true 9])=h1 at hx hpre ⊢
have hlen:=hpre.length_le
by_cases q:name=⟨#[]⟩
·have d1:=decide_eq_true q
 refine fh hx d1 ?_
 refine ae rfl ?_
 refine aC ?_
 refine ai ?_
 exact⟨_,ak,⟨.be rfl,hpre⟩,-1,.inl ⟨jb.1 q,rfl⟩,rfl⟩
·have d1:=decide_eq_false q
 refine fh hx d1 ?_
 refine af rfl ?_
 refine aC ?_
 refine zj Tryz.func53 ?_
 refine (De (P:=qg name) (cap:=[.pointer (some ⟨h.length,0,some 0⟩)]) (g:=54) (fn:=Tryz.f54) (hd.aa.mono hpre) Tryz.func54 kr kr (fun p _ u hu=>E5 hx hu)).mono ?_
 rintro _ h2 ⟨⟨i,hi,rfl⟩,rfl⟩
 refine aC ?_
 refine ai ?_
 exact⟨_,ak,⟨.be rfl,hpre⟩,i,.inr ⟨fun h=>q (jb.2 h),hi⟩,rfl⟩}
theorem H6 {pv:Value} {p:Prod} {u:Value} (hy:fR h u p.aj):FW env 76 [pv,p.val u] h fun r h'=>r = .bool (p.aj.any (fun s=>decide (s.kind=1)&&decide (s.text=⟨#[]⟩))||p.aj.all dG)∧h'=h:=by{
obtain⟨ps,cs,rfl⟩:=bT.form hy
have hle:p.aj.length*88≤140737488355328:=hy.1
have hl:p.aj.length≤140737488355328:=by omega
refine fe Tryz.func76 ?_;simp only[push_cast]
refine aC ?_
refine cO p.aj.length (fun k=>[(5,.val (.bool ((p.aj.take k).all dG))),(9,.val (.slice ps p.aj.length cs)),(10,.val (i64 p.aj.length)),(11,.val (i64 k))]) (fun _=>h) (fun k=>∀ i (hi:i<p.aj.length),i<k→(decide (p.aj[i].kind=1)&&decide (p.aj[i].text=⟨#[]⟩))=false) aK rfl (fun i _ hi=>absurd hi om) ?_
intro k hkn hall
by_cases hlt:k<p.aj.length
·obtain⟨id,ar,own,c',hv,hid⟩:=bT.at hy om
 cases hv
 have hg:=ig hlt
 have e1:=cg hlt
 have e2:=inc hlt hl
 have e3:=aS hlt
 have hst:(p.aj.take (k+1)).all dG=((p.aj.take k).all dG&&dG p.aj[k]):=by
  rw[List.take_succ_eq_append_getElem hlt,List.all_append]
  simp
 have hstep:(decide (p.aj[k].kind=1)&&decide (p.aj[k].text=⟨#[]⟩))=false→∀ i (hi:i<p.aj.length),i<k+1→(decide (p.aj[i].kind=1)&&decide (p.aj[i].text=⟨#[]⟩))=false:=fun h3 i hi h2=>by
  rcases (by omega:i<k∨i=k) with h4|rfl
  ·exact hall i hi h4
  ·exact h3
 refine aG e3 ?_
 refine ae rfl ?_
 obtain⟨q,hq⟩:∃ q,q=(decide (p.aj[k].kind=1)&&decide (p.aj[k].text=⟨#[]⟩)):=⟨_,rfl⟩
 rw[← hq] at hstep
 by_cases q1:p.aj[k].kind=1
 ·have d1:=decide_eq_true q1
  by_cases q2:p.aj[k].text=⟨#[]⟩
  ·have d2:=decide_eq_true q2
   refine kL e1 hid hg d1 d2 ?_
   refine ae rfl ?_
   refine aC ?_
   refine ai ?_
   refine⟨_,ak,?_,rfl⟩
   have:p.aj.any (fun s=>decide (s.kind=1)&&decide (s.text=⟨#[]⟩))=true:=List.any_eq_true.2 ⟨_,List.getElem_mem hlt,by rw[d1,d2];rfl⟩
   rw[this]
   rfl
  ·have d2:=decide_eq_false q2
   rw[d1,d2] at hq
   refine kL e1 hid hg d1 d2 ?_
   refine af rfl ?_
   cases hA:(p.aj.take k).all dG with
   | false=>
     rw[hA,Bool.false_and] at hst
     refine aG e2 ?_
     refine⟨hlt,(lH hst),rfl,hstep hq⟩
   | true=>
     rw[hA,Bool.true_and] at hst
     refine aC ?_
     refine zj Tryz.func134 ?_
     refine rc.mono ?_
     rintro _ h1 ⟨rfl,rfl⟩
     refine aG e2 ?_
     refine⟨hlt,(lH hst),rfl,hstep hq⟩
 ·have d1:=decide_eq_false q1
  rw[d1] at hq
  refine fi e1 hid hg d1 ?_
  refine af rfl ?_
  cases hA:(p.aj.take k).all dG with
  | false=>
    rw[hA,Bool.false_and] at hst
    refine aG e2 ?_
    refine⟨hlt,(lH hst),rfl,hstep hq⟩
  | true=>
    rw[hA,Bool.true_and] at hst
    refine aC ?_
    refine zj Tryz.func134 ?_
    refine rc.mono ?_
    rintro _ h1 ⟨rfl,rfl⟩
    refine aG e2 ?_
    refine⟨hlt,(lH hst),rfl,hstep hq⟩
·have e3:=aP hlt
 obtain rfl:k=p.aj.length:=by omega
 refine aG e3 ?_
 refine af rfl ?_
 refine az ?_
 show CW _ _ _ _
 refine aC ?_
 refine ai ?_
 refine⟨_,ak,?_,rfl⟩
 have:p.aj.any (fun s=>decide (s.kind=1)&&decide (s.text=⟨#[]⟩))=false:=List.any_eq_false.2 fun x hx=>by
  obtain⟨i,hi,rfl⟩:=List.getElem_of_mem hx
  rw[hall i hi hi]
  decide
 rw[this,List.take_length]
 rfl}
end
section
variable {h:ah} {r:Value} {d:bM}
theorem nX {i1 i2:Nat} {g:FuncId} {fn:Func} {er:Int} {B:Prod→Bool} (hk:Bk h r d) (hf:env.P.funcs[g]? = some fn) (hnm:(fn.name == "runtime.NumGoroutine")=false) (hbd:fn.body.isNone=false) (hx1:h[i1]? = some (.aA [.func (.func g) #[] #[]] 0 true 142)) (hx2:h[i2]? = some (.aA [i64 er] 0 true 44)) (he:er≠0) (hB:∀ p∈d.aa,∀ u,fR h u p.aj→FW env g [r,p.val u] h fun x h'=>x = .bool (B p)∧h'=h) : FW env 129 [r,.pointer (some ⟨i1,0,some 0⟩),.pointer (some ⟨i2,0,some 0⟩)] h fun x h'=>iK (∀ p∈d.aa,B p=false) x∧h'=h:=by{
obtain⟨h0,ib,im,sv,up,uc,uf,ur,ub,rfl,hd,K⟩:=hk
have hd:=hd.mono K.p
obtain⟨p1,c1,p2,c2,p3,c3,p4,c4,p5,c5,rfl,rfl,rfl,rfl,rfl,l1,l2,l3,l4,l5⟩:=bH.form hd
obtain⟨es,hm,hes⟩:=K.m
have hb:=K.b
unfold bM.val at hb
simp only[List.cons_append,List.nil_append] at hb
have hkk:=br es
have hss:bj h sv (aE d.aa):=K.s.sl (b:=16) (by have:=bZ (ps:=d.aa);have:=cV.le hd.aa;omega)
obtain⟨pq,cq,rfl⟩:=hss.form
refine fe Tryz.func129 ?_;simp only[push_cast]
refine aG hb ?_
refine cO d.aa.length (fun k=>[(0,.val (.pointer (some ⟨ib,0,some 0⟩))),(1,.val (.pointer (some ⟨i1,0,some 0⟩))),(2,.val (.pointer (some ⟨i2,0,some 0⟩))),(12,.val (.slice p1 d.aa.length c1)),(13,.val (i64 d.aa.length)),(14,.val (i64 k))]) (fun _=>h) (fun k=>∀ i (hi:i<d.aa.length),i<k→B d.aa[i]=false) aK rfl (fun i _ hi=>absurd hi om) ?_
intro k hkn hall
by_cases hlt:k<d.aa.length
·obtain⟨id,ar,own,c',cells,u,hv,hid,hg,hu⟩:=cV.at (k:=5) (fun _ _=>rfl) hd.aa hlt
 cases hv
 have hPk:=hB _ (List.getElem_mem hlt) u hu
 obtain⟨ps,cs,rfl⟩:=bT.form hu
 have e1:=cg hlt
 have e2:=inc hlt l1
 have e3:=aS hlt
 refine aG e3 ?_
 refine ae rfl ?_
 refine fi e1 hid hg hx1 ?_
 refine zc (f:=g) (cap:=[]) (args:=[.pointer (some ⟨ib,0,some 0⟩),d.aa[k].val (.slice ps d.aa[k].aj.length cs)]) (fn:=fn) ak hf hnm hbd ?_
 rw[List.append_nil]
 refine hPk.mono ?_
 rintro _ h1 ⟨rfl,rfl⟩
 cases hq:B d.aa[k] with
 | true=>
   refine aC ?_
   refine ae rfl ?_
   refine aC ?_
   refine aQ 4 mixed kr ?_
   refine aG hx2 ?_
   refine ai ?_
   exact⟨_,ak,⟨er,_,rfl,⟨fun h=>absurd h he,fun h=>absurd (h _ (List.getElem_mem hlt)) (by rw[hq];decide)⟩⟩,rfl⟩
 | false=>
   refine aC ?_
   refine af rfl ?_
   refine aG e2 ?_
   refine⟨hlt,aK,rfl,fun i hi h2=>?_⟩
   rcases (by omega:i<k∨i=k) with h3|rfl
   ·exact hall i hi h3
   ·exact hq
·have e3:=aP hlt
 obtain rfl:k=d.aa.length:=by omega
 refine aG e3 ?_
 refine af rfl ?_
 refine az ?_
 show CW _ _ _ _
 refine aC ?_
 refine ai ?_
 refine⟨_,ak,⟨0,_,rfl,fun _ p hp=>?_,fun _=>rfl⟩,rfl⟩
 obtain⟨i,hi,rfl⟩:=List.getElem_of_mem hp
 exact hall i hi hi}
def Et (ps:List Prod):Prop:=∀ (i:Nat) (hi:i<ps.length) (c:Int),ju ps ps[i].cons c→¬ (ps[i].lex=false∧0≤c∧c<i)
theorem ju.AV {ps:List Prod} {n:ByteArray} {a b:Int} (h1:ju ps n a) (h2:ju ps n b):a=b:=by{
rcases h1 with ⟨e1,rfl⟩ | ⟨e1,f1⟩<;>rcases h2 with ⟨e2,rfl⟩ | ⟨e2,f2⟩
·rfl
·exact absurd e1 e2
·exact absurd e2 e1
·rcases f1 with ⟨k,hk,a1,a2,rfl⟩ | ⟨a1,rfl⟩<;>rcases f2 with ⟨k',hk',b1,b2,rfl⟩ | ⟨b1,rfl⟩
 ·rcases (by omega:k<k'∨k=k'∨k'<k) with g|g|g
  ·have:=b2 k g;rw[a1] at this;cases this
  ·rw[g]
  ·have:=a2 k' g;rw[b1] at this;cases this
 ·have:=b1 _ (List.getElem_mem hk);rw[a1] at this;cases this
 ·have:=a1 _ (List.getElem_mem hk');rw[b1] at this;cases this
 ·rfl}
theorem GZ (hk:Bk h r d):FW env 73 [r] h fun x h'=>iK (Et d.aa) x∧h'=h:=by{
obtain⟨h0,ib,im,sv,up,uc,uf,ur,ub,rfl,hd,K⟩:=hk
have hd:=hd.mono K.p
obtain⟨p1,c1,p2,c2,p3,c3,p4,c4,p5,c5,rfl,rfl,rfl,rfl,rfl,l1,l2,l3,l4,l5⟩:=bH.form hd
obtain⟨es,hm,hes⟩:=K.m
have hb:=K.b
unfold bM.val at hb
simp only[List.cons_append,List.nil_append] at hb
have hkk:=br es
have hss:bj h sv (aE d.aa):=K.s.sl (b:=16) (by have:=bZ (ps:=d.aa);have:=cV.le hd.aa;omega)
obtain⟨pq,cq,rfl⟩:=hss.form
refine fe Tryz.func73 ?_;simp only[push_cast]
refine aG hb ?_
refine cO d.aa.length (fun k=>[(0,.val (.pointer (some ⟨ib,0,some 0⟩))),(11,.val (.slice p1 d.aa.length c1)),(12,.val (i64 d.aa.length)),(13,.val (i64 k))]) (fun _=>h) (fun k=>∀ i (hi:i<d.aa.length),i<k→∀ c:Int,ju d.aa d.aa[i].cons c→¬ (d.aa[i].lex=false∧0≤c∧c<i)) aK rfl (fun i _ hi=>absurd hi om) ?_
intro k hkn hall
by_cases hlt:k<d.aa.length
·obtain⟨id,ar,own,c',cells,u,hv,hid,hg,hu⟩:=cV.at (k:=5) (fun _ _=>rfl) hd.aa hlt
 cases hv
 obtain⟨ps,cs,rfl⟩:=bT.form hu
 have e1:=cg hlt
 have e2:=inc hlt l1
 have e3:=aS hlt
 have hstep:∀ ci:Int,ju d.aa d.aa[k].cons ci→¬ (d.aa[k].lex=false∧0≤ci∧ci<k)→∀ i (hi:i<d.aa.length),i<k+1→∀ c:Int,ju d.aa d.aa[i].cons c→¬ (d.aa[i].lex=false∧0≤c∧c<i):=fun ci hci h3 i hi h2 c hc=>by
  rcases (by omega:i<k∨i=k) with h4|rfl
  ·exact hall i hi h4 c hc
  ·rw[hc.AV hci];exact h3
 refine aG e3 ?_
 refine ae rfl ?_
 refine gV e1 hid hg ?_
 refine aQ 6 mixed kr ?_
 refine aG hb ?_
 refine zj Tryz.func24 ?_
 refine (rJ (name:=d.aa[k].cons) hd).mono ?_
 rintro _ h1 ⟨⟨ci,hci,rfl⟩,rfl⟩
 cases hl:d.aa[k].lex with
 | true=>
   refine aG hl ?_
   refine af rfl ?_
   refine aG e2 ?_
   exact⟨hlt,aK,rfl,hstep ci hci (fun h=>by rw[hl] at h;cases h.1)⟩
 | false=>
   by_cases q1:0≤ci
   ·have d1:=decide_eq_true q1
    by_cases q2:ci<(k:Int)
    ·have d2:=decide_eq_true q2
     refine gV hl d1 d2 ?_
     refine ae rfl ?_
     refine aC ?_
     refine aQ 3 mixed kr ?_
     refine aC ?_
     refine ai ?_
     exact⟨_,ak,⟨45,_,rfl,⟨fun h=>(by cases h),fun h=>absurd ⟨hl,q1,q2⟩ (h k hlt ci hci)⟩⟩,rfl⟩
    ·have d2:=decide_eq_false q2
     refine gV hl d1 d2 ?_
     refine af rfl ?_
     refine aG e2 ?_
     exact⟨hlt,aK,rfl,hstep ci hci (fun h=>q2 h.2.2)⟩
   ·have d1:=decide_eq_false q1
    refine fh hl d1 ?_
    refine af rfl ?_
    refine aG e2 ?_
    exact⟨hlt,aK,rfl,hstep ci hci (fun h=>q1 h.2.1)⟩
·have e3:=aP hlt
 obtain rfl:k=d.aa.length:=by omega
 refine aG e3 ?_
 refine af rfl ?_
 refine az ?_
 show CW _ _ _ _
 refine aC ?_
 refine ai ?_
 refine⟨_,ak,⟨0,_,rfl,fun _ i hi c hc=>hall i hi hi c hc,fun _=>rfl⟩,rfl⟩}
end
def b7 (b:ByteArray):Bool:=decide (b=⟨#[]⟩)
def jN (d:bM) (lex:Bool) (s:Sym):Bool:=if lex then (!b7 s.sep||(!b7 s.name && !eP d.aa s.name true)) else (!decide (s.kind=1)&&(b7 s.name||decide (s.name=d.layout)))
section
variable {h:ah} {r:Value} {d:bM}
theorem FF {i2 i3:Nat} {p:Prod} {u:Value} {s:Sym} (hk:Bk h r d) (hy:fR h u p.aj) (hx3:h[i3]? = some (.aA [.bool p.lex,.string p.sort,.string p.cons,.bool p.bracket,u] 0 true 51)) (hx2:h[i2]? = some (.aA [r] 0 true 137)) : FW env 131 [s.val,.pointer (some ⟨i3,0,some 0⟩),.pointer (some ⟨i2,0,some 0⟩)] h fun x h'=>x = .bool (jN d p.lex s)∧h'=h:=by{
have hk0:=hk
obtain⟨h0,ib,im,sv,up,uc,uf,ur,ub,rfl,hd,K⟩:=hk
have hd:=hd.mono K.p
obtain⟨p1,c1,p2,c2,p3,c3,p4,c4,p5,c5,rfl,rfl,rfl,rfl,rfl,l1,l2,l3,l4,l5⟩:=bH.form hd
obtain⟨es,hm,hes⟩:=K.m
have hb:=K.b
unfold bM.val at hb
simp only[List.cons_append,List.nil_append] at hb
have hkk:=br es
have hss:bj h sv (aE d.aa):=K.s.sl (b:=16) (by have:=bZ (ps:=d.aa);have:=cV.le hd.aa;omega)
obtain⟨pq,cq,rfl⟩:=hss.form
obtain⟨ps,cs,rfl⟩:=bT.form hy
refine fe Tryz.func131 ?_;simp only[push_cast]
cases hl:p.lex with
| true=>
  rw[hl] at hx3
  by_cases q1:s.sep=⟨#[]⟩
  ·have d1:=decide_eq_true q1
   by_cases q2:s.name=⟨#[]⟩
   ·have d2:=decide_eq_true q2
    refine aG hx3 ?_
    refine ae rfl ?_
    refine fh d1 d2 ?_
    refine ai ?_
    exact⟨_,ak,by simp [cI,jN,b7,d1,d2],rfl⟩
   ·have d2:=decide_eq_false q2
    refine aG hx3 ?_
    refine ae rfl ?_
    refine gV d1 d2 hx2 ?_
    refine zj Tryz.func132 ?_
    refine (mM hk0).mono ?_
    rintro _ h1 ⟨rfl,rfl⟩
    refine aC ?_
    refine ai ?_
    exact⟨_,ak,by simp [cI,jN,b7,d1,d2],rfl⟩
  ·have d1:=decide_eq_false q1
   refine aG hx3 ?_
   refine ae rfl ?_
   refine aG d1 ?_
   refine ai ?_
   exact⟨_,ak,by simp [cI,jN,b7,d1],rfl⟩
| false=>
  rw[hl] at hx3
  refine aG hx3 ?_
  refine af rfl ?_
  refine aC ?_
  refine aQ 18 mixed kr ?_
  by_cases q1:s.kind=1
  ·have d1:=decide_eq_true q1
   refine aG d1 ?_
   refine ai ?_
   exact⟨_,ak,by simp [cI,jN,d1],rfl⟩
  ·have d1:=decide_eq_false q1
   by_cases q2:s.name=⟨#[]⟩
   ·have d2:=decide_eq_true q2
    refine fh d1 d2 ?_
    refine ai ?_
    exact⟨_,ak,by simp [cI,jN,b7,d1,d2],rfl⟩
   ·have d2:=decide_eq_false q2
    refine fi d1 d2 hx2 hb ?_
    refine ai ?_
    exact⟨_,ak,by simp [cI,jN,b7,d1,d2],rfl⟩}
theorem JQ {p:Prod} {u:Value} (hk:Bk h r d) (hy:fR h u p.aj):FW env 72 [r,p.val u] h fun x h'=>x = .bool (p.aj.any (jN d p.lex))∧h'=h:=by{
refine vE ?_
have hk0:=hk
obtain⟨ps,cs,rfl⟩:=bT.form hy
obtain⟨ib,rfl⟩:∃ ib,r = .pointer (some ⟨ib,0,some 0⟩):=by obtain⟨_,ib,_,_,_,_,_,_,_,e,_⟩:=hk;exact⟨ib,e⟩
unfold Prod.val
refine fe Tryz.func72 ?_;simp only[push_cast]
refine zu ?_
refine dA (t:=137) (cs:=[.pointer (some ⟨ib,0,some 0⟩)]) ak ak ?_
dsimp only[St.a9,St.put]
have hp1:h <+: h++[av.aA [.pointer (some ⟨ib,0,some 0⟩)] 0 true 137]:=aH
have hx2:(h++[av.aA [.pointer (some ⟨ib,0,some 0⟩)] 0 true 137])[h.length]? = some (.aA [.pointer (some ⟨ib,0,some 0⟩)] 0 true 137):=aJ
generalize (h++[av.aA [.pointer (some ⟨ib,0,some 0⟩)] 0 true 137])=h1 at hp1 hx2 ⊢
generalize h.length=i2 at hx2 ⊢
refine dA (t:=51) (cs:=[.bool p.lex,.string p.sort,.string p.cons,.bool p.bracket,.slice ps p.aj.length cs]) ak ak ?_
dsimp only[St.a9,St.put]
have hp2:h1 <+: h1++[av.aA [.bool p.lex,.string p.sort,.string p.cons,.bool p.bracket,.slice ps p.aj.length cs] 0 true 51]:=aH
have hx3:(h1++[av.aA [.bool p.lex,.string p.sort,.string p.cons,.bool p.bracket,.slice ps p.aj.length cs] 0 true 51])[h1.length]? = some (.aA [.bool p.lex,.string p.sort,.string p.cons,.bool p.bracket,.slice ps p.aj.length cs] 0 true 51):=aJ
generalize (h1++[av.aA [.bool p.lex,.string p.sort,.string p.cons,.bool p.bracket,.slice ps p.aj.length cs] 0 true 51])=h2 at hp2 hx3 ⊢
generalize h1.length=i3 at hx3 ⊢
have hx2':=ag hp2 hx2
have hp:=hp1.trans hp2
refine aG hx3 ?_
refine zj Tryz.func130 ?_
refine (oh (P:=jN d p.lex) (cap:=[.pointer (some ⟨i3,0,some 0⟩),.pointer (some ⟨i2,0,some 0⟩)]) (g:=131) (fn:=Tryz.f131) (hy.mono hp) Tryz.func131 kr kr (fun s _=>FF (hk0.mono hp) (hy.mono hp) hx3 hx2')).mono ?_
rintro _ h2 ⟨rfl,rfl⟩
refine aC ?_
refine ai ?_
exact⟨_,ak,rfl,hp⟩}
end
end Go.Proofs.YtmdmimkbpikmoaaGreat
namespace Go.Proofs.YtmdmimkbpikmoaaGreat.Am
open Go.RowKit
section
variable {N:Env} {ops:Array Oper} {L:List (List Nat)} {act:List Nat} {s0:St} {res res':Nat→gD} {Hs:Nat→ah} {a st d:Nat} {cs':List Value} {v0:gu}
def gW (N:Env) (ops:Array Oper) (act:List Nat) (s0:St) (res res':Nat→gD) (Hs:Nat→ah) (st:Nat) (S:Array Bool) (t:St):Prop:=
 (S.getD st false=false∧wx N ops act s0 res Hs S t)∨(S.getD st false=true∧wx N ops act s0 res' Hs S t)
structure zQ (N:Env) (ops:Array Oper) (L:List (List Nat)) (act:List Nat) (s0:St) (res res':Nat→gD) (a st d:Nat) (cs':List Value) (v0:gu):Prop where
 same:∀ j,j≠a→res' j=res j
 da:bF ops a=some d
 VH:res a = .sl v0
 ra:res' a = .sl (.box cs')
 o:∃ o,ops[st]? = some o∧o.dst=none
 M9:a∈fK L st
 na:st∉act
 free:∀ i,i≠st→a∉fK L i
 VJ:∀ o h,ops[st]? = some o→∃ V,View ops L s0 res st V∧V.h=h∧∀ t,fL V t→Ev N (.ops ops [o] t { t with fr:=fP t.fr d (.box cs') })
theorem gW.step (C:tw ops L act) (Z:zQ N ops L act s0 res res' a st d cs' v0) (hT:∀ j sl off,res j = .ep sl off→∀ i,bF ops i≠some sl) (hstep:∀ i o k,i≠st→ops[i]? = some o→k≤act.length→gm L act i k=true→∃ V,View ops L s0 res i V∧V.h=Hs k∧One N ops o V (res i) (Hs (if i∈act then k+1 else k))) {S:Array Bool} {t:St} {i:Nat} {o:Oper} (I:gW N ops act s0 res res' Hs st S t) (hi:i∈Region.ready .any ops S) (ho:ops[i]? = some o) : ∃ s',Ev N (.ops ops [o] t s')∧gW N ops act s0 res res' Hs st (S.setIfInBounds i true) s':=by{
have hT':∀ j sl off,res' j = .ep sl off→∀ i,bF ops i≠some sl:=fun j sl off h=>by
 by_cases hj:j=a
 ·subst hj
  rw[Z.ra] at h
  cases h
 ·rw[Z.same j hj] at h
  exact hT j sl off h
obtain⟨hun,oi,hoi,hall⟩:=mem_ready.1 hi
obtain rfl:oi=o:=Option.some.inj (hoi.symm.trans ho)
have hlt:i<ops.size:=(Array.getElem?_eq_some_iff.1 ho).1
have hr:∀ o,ops[i]? = some o→∀ e∈o.after,Region.binds .any e=true→S.getD e.on false=true:=fun o' ho' e he hb=>by
 obtain rfl:oi=o':=Option.some.inj (ho.symm.trans ho')
 exact hall e he hb
have hnot:S.getD i false=false:=getD_both hun
obtain⟨ost,host,hdn⟩:=Z.o
have hstd:bF ops st=none:=by simp [bF,host,hdn]
rcases I with ⟨h0,I⟩ | ⟨h0,I⟩
·by_cases his:i=st
 ·subst his
  have hltS:i<S.size:=by rw[I.size];exact hlt
  have hset:∀ j,((S.setIfInBounds i true).getD j false=true)↔(j=i∨S.getD j false=true):=fun j=>eM hltS
  obtain⟨V,hV,hVh,hsto⟩:=Z.VJ oi t.h ho
  have hsub:=hV.sub C I hlt hr hVh
  have hain:S.getD a false=true:=jK C I.size I.closed i a hlt hr Z.M9
  refine⟨_,hsto t hsub,.inr ⟨(hset i).2 (.inl rfl),by simp [I.size],fun j o hj hl e he hb=>?_,?_,fun x hx=>?_,fun j d' v hj hl hv=>?_,fun j d' sl off hj hl hv=>?_,I.ON⟩⟩
  ·rw[hset]
   rcases (hset j).1 hl with rfl|h
   ·exact .inr (hr o hj e he hb)
   ·exact .inr (I.closed j o hj h e he hb)
  ·obtain⟨k,hk,hh,hpre⟩:=I.pre
   refine⟨k,hk,hh,fun j hj=>?_⟩
   rw[hset]
   constructor
   ·rintro (h|h)
    ·exact (Z.na (by rw[← h];simp [hj])).elim
    ·exact (hpre j hj).1 h
   ·exact fun h=>.inr ((hpre j hj).2 h)
  ·have hxd:d≠x:=fun e=>hx a (e▸Z.da)
   simp only[bw]
   rw[if_neg hxd]
   exact I.out x hx
  ·have hji:j≠i:=fun e=>by rw[e,hstd] at hj;cases hj
   have hl':=((hset j).1 hl).resolve_left hji
   by_cases hja:j=a
   ·subst hja
    obtain rfl:d=d':=Option.some.inj (Z.da.symm.trans hj)
    rw[Z.ra] at hv
    cases hv
    simp only[bw,if_true]
    exact⟨trivial,(I.qJ j d v0 hj hl' Z.VH).2⟩
   ·have hdd:d≠d':=fun e=>hja (C.dst j a d (e▸hj) Z.da)
    simp only[bw]
    rw[if_neg hdd]
    rw[Z.same j hja] at hv
    exact I.qJ j d' v hj hl' hv
  ·have hji:j≠i:=fun e=>by rw[e,hstd] at hj;cases hj
   have hja:j≠a:=fun e=>by rw[e,Z.ra] at hv;cases hv
   rw[Z.same j hja] at hv
   exact I.Dj j d' sl off hj (((hset j).1 hl).resolve_left hji) hv
 ·obtain⟨s',h1,h2⟩:=I.step C hT (fun o k=>hstep i o k his) hi ho
  exact⟨s',h1,.inl ⟨by rw[getD_set_ne false his];exact h0,h2⟩⟩
·have his:i≠st:=fun e=>by rw[e,h0] at hnot;cases hnot
 have hlst:st<ops.size:=(Array.getElem?_eq_some_iff.1 host).1
 have hia:i≠a:=fun e=>by
  have:=jK C I.size I.closed st a hlst (fun o' ho' e he hb=>I.closed st o' ho' h0 e he hb) Z.M9
  rw[← e,hnot] at this
  cases this
 obtain⟨s',h1,h2⟩:=I.step C hT' (fun o k h1 h2 h3=>by
  obtain⟨V,hV,hVh,hone⟩:=hstep i o k his h1 h2 h3
  refine⟨V,⟨fun x=>?_,fun x p hp=>?_,hV.n⟩,hVh,by rw[Z.same i hia];exact hone⟩
  ·rcases hV.f x with h|h|⟨j,h4,h5,h6⟩
   ·exact .inl h
   ·exact .inr (.inl h)
   ·refine .inr (.inr ⟨j,h4,h5,?_⟩)
    rw[Z.same j (fun e=>Z.free i his (e▸h5))]
    exact h6
  ·obtain⟨j,sl,off,h4,h5,h6,h7⟩:=hV.e x p hp
   refine⟨j,sl,off,h4,h5,?_,h7⟩
   rw[Z.same j (fun e=>Z.free i his (e▸h5))]
   exact h6) hi ho
 exact⟨s',h1,.inr ⟨by rw[getD_set_ne false his];exact h0,h2⟩⟩}
theorem CS {id:Nat} {s:St} {frF:Fr} (hm:N.P.follows .mixedOrders=true) (C:tw ops L act) (Z:zQ N ops L act s res res' a st d cs' v0) (hT:∀ j sl off,res j = .ep sl off→∀ i,bF ops i≠some sl) (hstep:∀ i o k,i≠st→ops[i]? = some o→k≤act.length→gm L act i k=true→∃ V,View ops L s res i V∧V.h=Hs k∧One N ops o V (res i) (Hs (if i∈act then k+1 else k))) (hact:∀ a∈act,a<ops.size) (h0:s.h=Hs 0) (hF:∀ p∈frF,((∀ j,bF ops j≠some p.1)∧aW s.fr p.1=p.2)∨∃ j,bF ops j=some p.1∧res' j = .sl p.2) : Ev N (.code (.region id ops true) s .normal ⟨frF,[],Hs act.length⟩):=by{
classical
refine .vS (gW N ops act s res res' Hs st) (fun S t i=>match ops[i]? with
 | some o=>if h:∃ s',Ev N (.ops ops [o] t s')∧gW N ops act s res res' Hs st (S.setIfInBounds i true) s' then h.choose else t
 | none=>t) hm ?_ ?_ ?_ ?_ rfl
·refine .inl ⟨getD_replicate_false _ _,by simp,fun j o _ hl=>?_,⟨0,Nat.zero_le _,h0,fun j _=>?_⟩,fun x _=>⟨rfl,rfl⟩,fun j d v _ hl=>?_,fun j d sl off _ hl=>?_,fun q hq=>by cases hq⟩
 ·rw[getD_replicate_false] at hl
  cases hl
 ·rw[getD_replicate_false]
  simp
 ·rw[getD_replicate_false] at hl
  cases hl
 ·rw[getD_replicate_false] at hl
  cases hl
·intro S t i o I hi ho
 simp only[ho]
 have h:=gW.step C Z hT hstep I hi ho
 rw[dif_pos h]
 exact h.choose_spec.1
·intro S t i o I hi ho
 simp only[ho]
 have h:=gW.step C Z hT hstep I hi ho
 rw[dif_pos h]
 exact h.choose_spec.2
·intro S t I hr
 have hsz:S.size=ops.size:=by
  rcases I with ⟨_,I⟩ | ⟨_,I⟩
  ·exact I.size
  ·exact I.size
 have hall:∀ i,i<ops.size→S.getD i false=true:=by
  intro i
  induction i using Nat.strongRecOn with
  | _ i ih=>
    intro hi
    cases hb:S.getD i false with
    | true=>rfl
    | false=>
      have:i∈Region.ready .any ops S:=mem_ready.2 ⟨getD_in (by rw[hsz];exact hi) hb,ops[i],Array.getElem?_eq_getElem hi,fun e he hbi=>by
       have hlow:=C.low i _ (Array.getElem?_eq_getElem hi) e he hbi
       exact ih e.on hlow (by omega)⟩
      rw[hr] at this
      cases this
 obtain⟨ost,host,_⟩:=Z.o
 have hst:=hall st (Array.getElem?_eq_some_iff.1 host).1
 rcases I with ⟨h,_⟩ | ⟨_,I⟩
 ·rw[hst] at h
  cases h
 refine⟨fun p hp=>?_,?_⟩
 ·rcases hF p hp with ⟨h1,h2⟩ | ⟨j,h1,h2⟩
  ·exact (I.out p.1 h1).1.trans h2
  ·exact (I.qJ j p.1 p.2 h1 (hall j (tG h1)) h2).1
 ·obtain⟨k,hk,hh,hpre⟩:=I.pre
  have:k=act.length:=by
   rcases Nat.lt_or_ge k act.length with h|h
   ·have:=(hpre k h).1 (hall _ (hact _ (by simp [h])))
    omega
   ·omega
  rw[hh,this]}
def F0 (ops:Array Oper) (L:List (List Nat)) (a st:Nat):Bool:=(List.range L.length).all fun i=>decide (i=st) || !(fK L i).contains a
theorem Fl (h:F0 ops L a st=true) {i:Nat} (hi:i≠st):a∉fK L i:=fun hm=>by
 unfold F0 at h
 rw[List.all_eq_true] at h
 have hl:i<L.length:=by
  rcases Nat.lt_or_ge i L.length with h1|h1
  ·exact h1
  ·unfold fK at hm
   rw[List.getElem?_eq_none h1] at hm
   cases hm
 have:=h i (List.mem_range.2 hl)
 simp only[Bool.or_eq_true,decide_eq_true_eq,Bool.not_eq_true',List.contains_eq_mem,decide_eq_false_iff_not] at this
 rcases this with h1|h1
 ·exact hi h1
 ·exact h1 hm
theorem B8 {id:Nat} {fr:Fr} {h:ah} {Q:AX→St→Prop} (L:List (List Nat)) (act:List Nat) (hs:List ah) (resL:List gD) (frF:Fr) (a st d:Nat) (cs':List Value) {cs vs:List Value} {o:Oper} {ty:TypeId} {x y:Operand} {ti:TI} {off:Nat} {v:Value} (hm:N.P.follows .mixedOrders=true) (hc:wF ops L act=true) (ha:act.all (fun a=>decide (a<ops.size))=true) (hb:pg (dstsOf ops) fr=true) (hfree:F0 ops L a st=true) (hna:act.contains st=false) (hanc:(fK L st).contains a=true) (ho:ops[st]? = some o) (hop:o.op = .store ty x y) (hod:o.dst=none) (hda:bF ops a=some d) (hS1:ay N ops L act resL (h :: hs) fr 0 (ops.toList.take st)) (hS2:ay N ops L act resL (h :: hs) fr (st+1) (ops.toList.drop (st+1))) (hra:resL[a]? = some (.sl (.box cs))) (hti:aq N.P ty=some ti) (hw:∀ H,aF ops o (vw ops L resL fr H st)=some true) (hp:∀ H,pF (vw ops L resL fr H st) x=some (d,off)) (hbx:∀ H,aW (vw ops L resL fr H st).fr d = .box cs) (hv:∀ H,ev (vw ops L resL fr H st) y=some v) (hvs:dO ti.size v=some vs) (hwr:ll cs off vs=some cs') (ht:A7 ops resL=true) (hF:ia ops (resL.set a (.sl (.box cs'))) fr frF) (k:Q .normal ⟨frF,[],sP (h :: hs) act.length⟩):CW N (.region id ops true) ⟨fr,[],h⟩ Q:=by{
have C:=uK hc
unfold CW
have hvw:∀ H i,vw ops L resL fr H i=fC ops L resL fr H i:=fun H i=>by unfold vw fC;rw[ji hb]
have hS1':=ay.ok (fr:=fr) (by rw[ji hb];exact hS1)
have hS2':=ay.ok (fr:=fr) (by rw[ji hb];exact hS2)
have hal:a<resL.length:=(List.getElem?_eq_some_iff.1 hra).1
have hT:∀ j sl off,jx resL j = .ep sl off→∀ i,bF ops i≠some sl:=by
 intro j sl off hr i hi
 unfold jx at hr
 cases hj:resL[j]? with
 | none=>simp [hj] at hr
 | some r=>
   simp only[hj,Option.getD_some] at hr
   have:=List.all_eq_true.1 ht r (List.mem_of_getElem? hj)
   rw[hr] at this
   simp only[Bool.not_eq_true',List.contains_eq_mem,decide_eq_false_iff_not] at this
   exact this (iw hi)
refine⟨_,_,CS (s:=⟨fr,[],h⟩) (res:=jx resL) (res':=jx (resL.set a (.sl (.box cs')))) (Hs:=sP (h :: hs)) (a:=a) (st:=st) (d:=d) (cs':=cs') (v0:=.box cs) hm C ?_ hT ?_ (fun a h=>by simpa using List.all_eq_true.1 ha a h) rfl (fun p hp=>hF.at hp),k⟩
·refine⟨fun j hj=>?_,hda,?_,?_,⟨o,ho,hod⟩,List.contains_iff_mem.1 hanc,fun hh=>(by rw[List.contains_iff_mem.2 hh] at hna;cases hna),fun i hi=>Fl hfree hi,fun o' H ho'=>?_⟩
 ·unfold jx
  rw[List.getElem?_set_ne (fun e=>hj e.symm)]
 ·unfold jx
  rw[hra]
  rfl
 ·unfold jx
  rw[List.getElem?_set_self hal]
  rfl
 ·obtain rfl:o=o':=Option.some.inj (ho.symm.trans ho')
  refine⟨fC ops L resL fr H st,xu (s0:=⟨fr,[],h⟩) C,rfl,fun t hsub=>?_⟩
  rw[← hvw] at hsub
  exact .yg (bd hsub (hw H)) hop hti (jZ hsub (hp H)) (zB hsub (hbx H)) (aY hsub (hv H)) hvs hwr hod (.nil _ _)
·intro i o' k hne ho' hk hst
 refine⟨fC ops L resL fr (sP (h :: hs) k) i,xu (s0:=⟨fr,[],h⟩) C,rfl,?_⟩
 have hlt:i<ops.size:=(Array.getElem?_eq_some_iff.1 ho').1
 rcases Nat.lt_or_ge i st with h1|h1
 ·exact (fm.V5 hS1' h1 ho').at (List.mem_range.2 (by omega)) hst
 ·have:=fm.at (j:=i-(st+1)) hS2' (by rw[List.getElem?_drop,show st+1+(i-(st+1))=i by omega];simpa using ho')
  rw[show st+1+(i-(st+1))=i by omega] at this
  exact this.at (List.mem_range.2 (by omega)) hst}
end
end Go.Proofs.YtmdmimkbpikmoaaGreat.Am
namespace Go.Proofs.YtmdmimkbpikmoaaGreat
set_option maxRecDepth 20000
open Go.RowKit Am Ty
def Hp (l:List Sym) (i:Nat):Bool:=match l[i]? with
 | some s=>!decide (s.kind=1)
 | none=>false
def jc (l:List Sym) (n:Nat):List Nat:=(List.range n).filter (Hp l)
theorem Di {l:List Sym} {n:Nat}:jc l (n+1)=if Hp l n=true then jc l n++[n] else jc l n:=by{
unfold jc
rw[List.range_succ,List.filter_append]
cases h:Hp l n<;>simp [h]}
theorem FV {l:List Sym} {n:Nat}:(jc l n).length≤n:=by
 unfold jc
 exact Nat.le_trans (List.length_filter_le _ _) (by simp)
theorem Je {l:List Sym} {i:Nat} (hi:i<l.length):Hp l i = !decide (l[i].kind=1):=by
 unfold Hp
 rw[List.getElem?_eq_getElem hi]
theorem HK {l:List Sym} {n i:Nat} (h:i∈jc l n):i<n:=by
 unfold jc at h
 simpa using (List.mem_filter.1 h).1
def Ea (l:List Nat):List Value:=l.map fun n:Nat=>i64 (n:Int)
section
variable {h:ah} {r:Value} {d:bM}
theorem G3 {p:Prod} {u:Value} (hy:fR h u p.aj):FW env 133 [p.val u] h fun x h'=>h <+: h'∧aL h h' x (jc p.aj p.aj.length).length (Ea (jc p.aj p.aj.length)) 3:=by{
obtain⟨ps,cs,rfl⟩:=bT.form hy
have hle:p.aj.length*88≤140737488355328:=hy.1
have hl:p.aj.length≤140737488355328:=by omega
have z0:(jc p.aj 0).length=0:=rfl
unfold Prod.val
refine fe Tryz.func133 ?_;simp only[push_cast]
refine aC ?_
refine aZ p.aj.length (fun k (x:ah×Option Addr×Nat)=>[(3,.val (.slice x.2.1 (jc p.aj k).length x.2.2)),(7,.val (.slice ps p.aj.length cs)),(8,.val (i64 p.aj.length)),(9,.val (i64 k))]) (fun _ x=>x.1)
 (fun k x=>h <+: x.1∧aL h x.1 (.slice x.2.1 (jc p.aj k).length x.2.2) (jc p.aj k).length (Ea (jc p.aj k)) 3) (h,none,0) (lH z0) rfl ⟨List.prefix_refl _,aL.nil⟩ ?_
rintro k ⟨hk,q,cq⟩ hkn ⟨hp,hG⟩
simp only at hp hG ⊢
by_cases hlt:k<p.aj.length
·obtain⟨id,ar,own,c',hv,hid⟩:=bT.at (hy.mono hp) om
 cases hv
 have hg:=ig hlt
 have e1:=cg hlt
 have e2:=inc hlt hl
 have e3:=aS hlt
 have hs:=Di (l:=p.aj) (n:=k)
 rw[Je hlt] at hs
 have hlen:(jc p.aj k).length≤k:=FV
 refine aG e3 ?_
 refine ae rfl ?_
 by_cases q1:p.aj[k].kind=1
 ·have d1:=decide_eq_true q1
  rw[d1,if_neg (by decide)] at hs
  refine fi e1 hid hg d1 ?_
  refine af rfl ?_
  refine aG e2 ?_
  refine⟨hlt,(hk,q,cq),(lH hs),rfl,hp,?_⟩
  rw[hs]
  exact hG
 ·have d1:=decide_eq_false q1
  rw[d1,if_pos (by decide)] at hs
  have hs2:(jc p.aj (k+1)).length=(jc p.aj k).length+1:=by rw[hs];simp
  refine fi e1 hid hg d1 ?_
  refine ae rfl ?_
  refine aC ?_
  refine mn (t:=39) ak rfl kr NY (by decide) rfl ak rfl hG hp (by simp [Ea]) rfl (by simp only;omega) om ?_
  intro p' c' h' k1 k2 _ _
  refine aG e2 ?_
  refine⟨hlt,(h',p',c'),(lH hs2),rfl,k2,?_⟩
  rw[hs,List.length_append]
  unfold Ea at k1 ⊢
  rw[List.map_append]
  exact k1
·have e3:=aP hlt
 obtain rfl:k=p.aj.length:=by omega
 refine aG e3 ?_
 refine af rfl ?_
 refine az ?_
 show CW _ _ _ _
 refine aC ?_
 refine ai ?_
 refine⟨_,ak,hp,?_⟩
 exact hG}
def s7 (p:Prod):Bool:=p.bracket&&(match jc p.aj p.aj.length with
 | [x]=>decide (x=0)||decide (x+1=p.aj.length)||(match p.aj[x]? with
   | some s=>!decide (s.kind=3) || !decide (s.name=p.sort)
   | none=>true)
 | _=>true)
theorem zV {p:Prod} {u:Value} (hy:fR h u p.aj):FW env 74 [r,p.val u] h fun x h'=>x = .bool (s7 p)∧h'=h:=by{
refine vE ?_
have hy0:=hy
obtain⟨ps,cs,rfl⟩:=bT.form hy
have hle:p.aj.length*88≤140737488355328:=hy.1
refine fe Tryz.func74 ?_;simp only[push_cast]
cases hb:p.bracket with
| false=>
  refine aG hb ?_
  refine ae rfl ?_
  refine aC ?_
  refine ai ?_
  exact⟨_,ak,by unfold s7;rw[hb];rfl,List.prefix_refl _⟩
| true=>
  refine aG hb ?_
  refine af rfl ?_
  refine aG hb ?_
  refine zj Tryz.func133 ?_
  rw[List.append_nil]
  refine FW.mono (Q:=fun x h'=>h <+: h'∧aL h h' x (jc p.aj p.aj.length).length (Ea (jc p.aj p.aj.length)) 3) (by have:=G3 hy0;unfold Prod.val at this;rw[hb] at this;exact this) ?_
  rintro x h1 ⟨hp1,hG⟩
  obtain⟨qx,cx,rfl⟩:=hG.form
  have hBr:s7 p=(match jc p.aj p.aj.length with
   | [x]=>decide (x=0)||decide (x+1=p.aj.length)||(match p.aj[x]? with
     | some s=>!decide (s.kind=3) || !decide (s.name=p.sort)
     | none=>true)
   | _=>true):=by unfold s7;rw[hb];rfl
  have hlt:∀ x∈jc p.aj p.aj.length,x<p.aj.length:=fun x hx=>HK hx
  generalize jc p.aj p.aj.length=H at hG hBr hlt ⊢
  by_cases hl1:H.length=1
  ·obtain⟨x,rfl⟩:∃ x,H=[x]:=by
    match H,hl1 with
    | [x],_=>exact⟨x,rfl⟩
   have hxl:=hlt x (by simp)
   obtain⟨io,vo,_,i2,i3⟩:=hG.wz (by simp)
   rw[i2]
   simp only[Ea,List.map_cons,List.map_nil] at i3
   have w0:IntKind.i64.wrap ((p.aj.length:Int)-1)=(p.aj.length:Int)-1:=ax om om
   simp only at hBr
   by_cases q0:x=0
   ·have d0:decide ((x:Int)=0)=true:=decide_eq_true om
    refine aC ?_
    refine aQ 18 mixed kr ?_
    refine fh i3 d0 ?_
    refine ae rfl ?_
    refine aC ?_
    refine ai ?_
    exact⟨_,ak,by rw[hBr,decide_eq_true q0];rfl,hp1⟩
   ·have d0:decide ((x:Int)=0)=false:=decide_eq_false om
    by_cases q1:x+1=p.aj.length
    ·have d1:decide ((x:Int)=(p.aj.length:Int)-1)=true:=decide_eq_true om
     refine aC ?_
     refine aQ 18 mixed kr ?_
     refine fi i3 d0 w0 d1 ?_
     refine ae rfl ?_
     refine aC ?_
     refine ai ?_
     exact⟨_,ak,by rw[hBr,decide_eq_true q1,Bool.or_true];rfl,hp1⟩
    ·have d1:decide ((x:Int)=(p.aj.length:Int)-1)=false:=decide_eq_false om
     obtain⟨id,ar,own,c',hv,hid⟩:=bT.at (hy0.mono hp1) om
     cases hv
     have hg:=ig hxl
     have e1:=cg hxl
     rw[decide_eq_false q0,decide_eq_false q1,List.getElem?_eq_getElem hxl] at hBr
     simp only[Bool.false_or] at hBr
     refine aC ?_
     refine aQ 18 mixed kr ?_
     refine fi i3 d0 w0 d1 ?_
     refine af rfl ?_
     refine aC ?_
     refine aB [(3,.box [.bool p.lex,.string p.sort,.string p.cons,.bool true,.slice (some ⟨id,0,some ar⟩) p.aj.length cs]),(5,.val (.slice (some ⟨io,0,some vo⟩) 1 1))] aK ?_
     show CW _ _ ⟨_,[],h1⟩ _
     apply B8 (L:=[[],[0],[],[2],[2,3],[0,1,2,3,4],[0,1,2,3,4,5],[],[0,1,2,3,4,5,6,7]]) (act:=[]) (hs:=[]) (resL:=[_,_,_,_,_,_,_,_,.sl .dH]) (frF:=[(3,.box [.bool p.lex,.string p.sort,.string p.cons,.bool true,.slice (some ⟨id,0,some ar⟩) p.aj.length cs]),(6,.box [i64 p.aj[x].kind,.string p.aj[x].text,u64 p.aj[x].set.a,u64 p.aj[x].set.b,u64 p.aj[x].set.c,u64 p.aj[x].set.d,.string p.aj[x].name,.string p.aj[x].sep])]) (a:=7) (st:=8) (d:=6) (cs':=[i64 p.aj[x].kind,.string p.aj[x].text,u64 p.aj[x].set.a,u64 p.aj[x].set.b,u64 p.aj[x].set.c,u64 p.aj[x].set.d,.string p.aj[x].name,.string p.aj[x].sep])
     case hm=>exact mixed
     case hc=>kernel_rfl
     case ha=>rfl
     case hb=>rfl
     case hfree=>rfl
     case hna=>rfl
     case hanc=>rfl
     case ho=>rfl
     case hop=>rfl
     case hod=>rfl
     case hda=>rfl
     case hS1=>exact We i3 e1 hid hg
     case hS2=>exact Ts
     case hra=>rfl
     case hti=>exact Jd
     case hw=>intro H;exact ak
     case hp=>intro H;exact (by simp only[push_cast,env,Nat.reduceEqDiff,reduceIte,pF,gn]<;>exact rfl)
     case hbx=>intro H;exact ak
     case hv=>intro H;exact ak
     case hvs=>rfl
     case hwr=>rfl
     case ht=>rfl
     case hF=>exact zh
     show CW _ _ _ _
     by_cases q2:p.aj[x].kind=3
     ·have d2:=decide_eq_true q2
      by_cases q3:p.aj[x].name=p.sort
      ·have d3:=decide_eq_true q3
       refine fh d2 d3 ?_
       refine ai ?_
       exact⟨_,ak,by rw[hBr,d2,d3];rfl,hp1⟩
      ·have d3:=decide_eq_false q3
       refine fh d2 d3 ?_
       refine ai ?_
       exact⟨_,ak,by rw[hBr,d2,d3];rfl,hp1⟩
     ·have d2:=decide_eq_false q2
      refine aG d2 ?_
      refine ai ?_
      exact⟨_,ak,by rw[hBr,d2];rfl,hp1⟩
  ·have dn:decide ((H.length:Int)=1)=false:=decide_eq_false om
   refine aC ?_
   refine aQ 18 mixed kr ?_
   refine aG dn ?_
   refine ae rfl ?_
   refine aC ?_
   refine ai ?_
   refine⟨_,ak,?_,hp1⟩
   rw[hBr]
   match H,hl1 with
   | [],_=>rfl
   | [x],h=>exact absurd rfl h
   | _ :: _ :: _,_=>rfl}
end
def fI (s:Sym):Nat:=if s.kind=1 then s.text.size else 1
def g7 (l:List Sym):Nat:=cJ (fun s=>if dG s=true then 1 else 0) l
def uk (d:bM) (p:Prod):Bool:=decide (4<(g7 p.aj:Int))||decide (80<(cJ fI p.aj:Int)+(if (!p.lex && !b7 d.layout)=true then (p.aj.length:Int)-1 else 0))
section
variable {h:ah} {r:Value} {d:bM}
theorem nN {α:Type} {f:α→Nat} {B:Nat}:∀ {l:List α},(∀ x∈l,f x≤B)→cJ f l≤l.length*B
 | [],_=>by simp [cJ]
 | x :: l,h=>by
   have h1:=nN (f:=f) (B:=B) (l:=l) fun y hy=>h y (List.mem_cons_of_mem _ hy)
   have h2:=h x List.mem_cons_self
   unfold cJ at *
   simp only[List.map_cons,List.sum_cons,List.length_cons,Nat.succ_mul]
   omega
theorem JJ {p:Prod} {u:Value} (hk:Bk h r d) (hy:fR h u p.aj) (hw:oK p) (hn:p.aj.length≤10000):FW env 75 [r,p.val u] h fun x h'=>x = .bool (uk d p)∧h'=h:=by{
obtain⟨h0,ib,im,sv,up,uc,uf,ur,ub,rfl,hd,K⟩:=hk
have hd:=hd.mono K.p
obtain⟨p1,c1,p2,c2,p3,c3,p4,c4,p5,c5,rfl,rfl,rfl,rfl,rfl,l1,l2,l3,l4,l5⟩:=bH.form hd
obtain⟨es,hm,hes⟩:=K.m
have hb:=K.b
unfold bM.val at hb
simp only[List.cons_append,List.nil_append] at hb
have hkk:=br es
have hss:bj h sv (aE d.aa):=K.s.sl (b:=16) (by have:=bZ (ps:=d.aa);have:=cV.le hd.aa;omega)
obtain⟨pq,cq,rfl⟩:=hss.form
obtain⟨ps,cs,rfl⟩:=bT.form hy
have hl:p.aj.length≤140737488355328:=by omega
have bd1:∀ k,cJ fI (p.aj.take k)≤10000*140737488355328:=fun k=>by
 have h1:cJ fI p.aj≤p.aj.length*140737488355328:=nN fun s hs=>by
  have:=(hw.aj s hs).text
  unfold fI
  split
  ·exact this
  ·decide
 have h2:=jC (f:=fI) (l:=p.aj) (k:=k)
 have h3:p.aj.length*140737488355328≤10000*140737488355328:=Nat.mul_le_mul hn (Nat.le_refl _)
 omega
have bd2:∀ k,g7 (p.aj.take k)≤10000:=fun k=>by
 have h1:g7 p.aj≤p.aj.length*1:=nN fun s hs=>by split<;>decide
 have h2:g7 (p.aj.take k)≤g7 p.aj:=jC
 omega
have z1:((g7 []:Nat):Int)=0:=rfl
have z2:((cJ fI []:Nat):Int)=0:=rfl
refine fe Tryz.func75 ?_;simp only[push_cast]
refine aC ?_
refine CW.mono (Q:=fun e s'=>e = .exit 0∧s'.h=h∧bA [(0,.val (.pointer (some ⟨ib,0,some 0⟩))),(3,.box [.bool p.lex,.string p.sort,.string p.cons,.bool p.bracket,.slice ps p.aj.length cs]),(5,.val (i64 (g7 p.aj:Int))),(6,.val (i64 (cJ fI p.aj:Int)))] s'.fr) ?_ ?_
·refine cO p.aj.length (fun k=>[(0,.val (.pointer (some ⟨ib,0,some 0⟩))),(3,.box [.bool p.lex,.string p.sort,.string p.cons,.bool p.bracket,.slice ps p.aj.length cs]),(5,.val (i64 (g7 (p.aj.take k):Int))),(6,.val (i64 (cJ fI (p.aj.take k):Int))),(10,.val (.slice ps p.aj.length cs)),(11,.val (i64 p.aj.length)),(12,.val (i64 k))]) (fun _=>h) (fun _=>True) (UZ z1 z2) rfl trivial ?_
 intro k hkn _
 by_cases hlt:k<p.aj.length
 ·obtain⟨id,ar,own,c',hv,hid⟩:=bT.at hy om
  cases hv
  have hg:=ig hlt
  have e1:=cg hlt
  have e2:=inc hlt hl
  have e3:=aS hlt
  have b1:=bd1 (k+1)
  have b2:=bd2 (k+1)
  have s1:cJ fI (p.aj.take (k+1))=cJ fI (p.aj.take k)+fI p.aj[k]:=gK hlt
  have s2:g7 (p.aj.take (k+1))=g7 (p.aj.take k)+(if dG p.aj[k]=true then 1 else 0):=gK hlt
  rw[s1] at b1
  rw[s2] at b2
  generalize cJ fI (p.aj.take k)=A at s1 b1
  generalize g7 (p.aj.take k)=O at s2 b2
  generalize hA':cJ fI (p.aj.take (k+1))=A' at s1
  generalize hO':g7 (p.aj.take (k+1))=O' at s2
  refine aG e3 ?_
  refine ae rfl ?_
  refine gV e1 hid hg ?_
  refine zj Tryz.func134 ?_
  refine rc.mono ?_
  rintro _ h1 ⟨rfl,rfl⟩
  refine aC ?_
  refine CW.mono (Q:=fun e s'=>e = .normal∧s'.h=h1∧bA [(0,.val (.pointer (some ⟨ib,0,some 0⟩))),(3,.box [.bool p.lex,.string p.sort,.string p.cons,.bool p.bracket,.slice (some ⟨id,0,some ar⟩) p.aj.length cs]),(5,.val (i64 (O':Int))),(6,.val (i64 (A:Int))),(8,.box [i64 p.aj[k].kind,.string p.aj[k].text,u64 p.aj[k].set.a,u64 p.aj[k].set.b,u64 p.aj[k].set.c,u64 p.aj[k].set.d,.string p.aj[k].name,.string p.aj[k].sep]),(10,.val (.slice (some ⟨id,0,some ar⟩) p.aj.length cs)),(11,.val (i64 p.aj.length)),(12,.val (i64 k))] s'.fr) ?_ ?_
  ·cases hL:dG p.aj[k] with
   | true=>
     rw[hL,if_pos rfl] at s2 b2
     have w0:IntKind.i64.wrap ((O:Int)+1)=(O':Int):=by rw[ax om om,s2];rfl
     refine ae rfl ?_
     refine aG w0 ?_
     exact⟨rfl,rfl,aK⟩
   | false=>
     rw[hL,if_neg (by decide)] at s2 b2
     have w0:(O:Int)=(O':Int):=by omega
     refine af rfl ?_
     refine cz ?_
     exact⟨rfl,rfl,(lH w0)⟩
  rintro e s' ⟨rfl,hh,hf⟩
  show CW _ _ _ _
  refine aB _ hf ?_
  rw[hh]
  by_cases q1:p.aj[k].kind=1
  ·have d1:=decide_eq_true q1
   have s3:fI p.aj[k]=p.aj[k].text.size:=if_pos q1
   rw[s3] at s1 b1
   have w0:IntKind.i64.wrap ((A:Int)+p.aj[k].text.size)=(A':Int):=by rw[ax om om,s1];omega
   refine aG d1 ?_
   refine ae rfl ?_
   refine fh w0 e2 ?_
   exact⟨hlt,(UZ hA' hO'),rfl,trivial⟩
  ·have d1:=decide_eq_false q1
   have s3:fI p.aj[k]=1:=if_neg q1
   rw[s3] at s1 b1
   have w0:IntKind.i64.wrap ((A:Int)+1)=(A':Int):=by rw[ax om om,s1];rfl
   refine aG d1 ?_
   refine af rfl ?_
   refine fh w0 e2 ?_
   exact⟨hlt,(UZ hA' hO'),rfl,trivial⟩
 ·have e3:=aP hlt
  obtain rfl:k=p.aj.length:=by omega
  rw[List.take_length]
  refine aG e3 ?_
  refine af rfl ?_
  refine az ?_
  exact⟨rfl,rfl,aK⟩
rintro e s' ⟨rfl,hh,hf⟩
show CW _ _ _ _
refine aB _ hf ?_
rw[hh]
have b1:=bd1 p.aj.length
have b2:=bd2 p.aj.length
rw[List.take_length] at b1 b2
have hres:uk d p=(decide (4<(g7 p.aj:Int))||decide (80<(cJ fI p.aj:Int)+(if (!p.lex && !b7 d.layout)=true then (p.aj.length:Int)-1 else 0))):=rfl
generalize cJ fI p.aj=A at hres b1
generalize g7 p.aj=O at hres b2
cases hl1:p.lex with
| true=>
  rw[hl1] at hres
  simp only[Bool.not_true,Bool.false_and,Bool.false_eq_true,if_false,Int.add_zero] at hres
  refine aC ?_
  refine af rfl ?_
  by_cases q5:4<(O:Int)
  ·have d5:=decide_eq_true q5
   rw[d5,Bool.true_or] at hres
   refine aG d5 ?_
   refine ai ?_
   exact⟨_,ak,by rw[hres];rfl,rfl⟩
  ·have d5:=decide_eq_false q5
   rw[d5,Bool.false_or] at hres
   refine aG d5 ?_
   refine ai ?_
   exact⟨_,ak,by rw[hres];rfl,rfl⟩
| false=>
  rw[hl1] at hres
  by_cases q2:d.layout=⟨#[]⟩
  ·have d2:=decide_eq_true q2
   unfold b7 at hres
   rw[d2] at hres
   simp only[Bool.not_true,Bool.and_false,Bool.false_eq_true,if_false,Int.add_zero] at hres
   refine fh hb d2 ?_
   refine af rfl ?_
   by_cases q5:4<(O:Int)
   ·have d5:=decide_eq_true q5
    rw[d5,Bool.true_or] at hres
    refine aG d5 ?_
    refine ai ?_
    exact⟨_,ak,by rw[hres];rfl,rfl⟩
   ·have d5:=decide_eq_false q5
    rw[d5,Bool.false_or] at hres
    refine aG d5 ?_
    refine ai ?_
    exact⟨_,ak,by rw[hres];rfl,rfl⟩
  ·have d2:=decide_eq_false q2
   unfold b7 at hres
   rw[d2] at hres
   simp only[Bool.not_false,Bool.and_true,if_true] at hres
   have w1:IntKind.i64.wrap ((p.aj.length:Int)-1)=(p.aj.length:Int)-1:=ax om om
   have w2:IntKind.i64.wrap ((A:Int)+((p.aj.length:Int)-1))=(A:Int)+((p.aj.length:Int)-1):=ax om om
   refine fh hb d2 ?_
   refine ae rfl ?_
   refine fh w1 w2 ?_
   refine ai ?_
   exact⟨_,ak,by rw[hres];rfl,rfl⟩}
end
inductive rE (ps:List Prod) (st:Prod→List ByteArray) (a:ByteArray):ByteArray→Prop
 | one {p:Prod} {n:ByteArray}:p∈ps→p.sort=a→n∈st p→rE ps st a n
 | more {b:ByteArray} {p:Prod} {n:ByteArray}:rE ps st a b→p∈ps→p.sort=b→n∈st p→rE ps st a n
structure RI (ps:List Prod) (st:Prod→List ByteArray) (a:ByteArray) (es:List (ByteArray×Int)) (L:List ByteArray):Prop where
 z:∀ s,dJ es s=0∨dJ es s=1
 s:∀ s,dJ es s≠0→rE ps st a s
 l:∀ s∈L,s=a∨rE ps st a s
 c:∀ b,(b=a∨dJ es b≠0)→b∉L→∀ p∈ps,p.sort=b→∀ n∈st p,dJ es n≠0
 k:∀ p∈es,p.2=1
structure RM (ps:List Prod) (st:Prod→List ByteArray) (a kj:ByteArray) (es:List (ByteArray×Int)) (L:List ByteArray) (k:Nat):Prop where
 z:∀ s,dJ es s=0∨dJ es s=1
 s:∀ s,dJ es s≠0→rE ps st a s
 l:∀ s∈L,s=a∨rE ps st a s
 h:kj=a∨rE ps st a kj
 c:∀ b,b≠kj→(b=a∨dJ es b≠0)→b∉L→∀ p∈ps,p.sort=b→∀ n∈st p,dJ es n≠0
 m:kj∈L∨∀ p∈ps.take k,p.sort=kj→∀ n∈st p,dJ es n≠0
 k:∀ p∈es,p.2=1
section
variable {ps:List Prod} {st:Prod→List ByteArray} {a kj:ByteArray} {es:List (ByteArray×Int)} {L:List ByteArray} {k:Nat}
theorem RI.start:RI ps st a [] [a]:=⟨fun _=>.inl rfl,fun _ h=>absurd rfl h,fun s h=>.inl (List.mem_singleton.1 h),fun b hb hn=>by
 rcases hb with rfl|hb
 ·exact absurd (List.mem_singleton.2 rfl) hn
 ·exact absurd rfl hb,fun p h=>by simp at h⟩
theorem RI.pop (R:RI ps st a es (L++[kj])):RM ps st a kj es L 0:=
 ⟨R.z,R.s,fun s h=>R.l s (List.mem_append_left _ h),R.l _ (by simp),fun b hb h1 h2=>R.c b h1 (by simp [h2,hb]),.inr (by simp),R.k⟩
theorem RM.next (R:RM ps st a kj es L k) (hk:k<ps.length) (h:ps[k].sort=kj→∀ n∈st ps[k],dJ es n≠0):RM ps st a kj es L (k+1):=by{
refine⟨R.z,R.s,R.l,R.h,R.c,?_,R.k⟩
rcases R.m with m|m
·exact .inl m
·refine .inr fun p hp=>?_
 rw[List.take_succ_eq_append_getElem hk] at hp
 rcases List.mem_append.1 hp with hp|hp
 ·exact m p hp
 ·rw[List.mem_singleton.1 hp];exact h}
theorem RM.fin (R:RM ps st a kj es L ps.length):RI ps st a es L:=by{
refine⟨R.z,R.s,R.l,fun b hb hn p hp e=>?_,R.k⟩
by_cases q:b=kj
·subst q
 rcases R.m with m|m
 ·exact absurd m hn
 ·rw[List.take_length] at m
  exact m p hp e
·exact R.c b q hb hn p hp e}
theorem zt {x:ByteArray}:∀ {es:List (ByteArray×Int)},(∀ p∈es,p.2=1)→∀ p∈dx es x 1,p.2=1
 | [],_,p,hp=>by simp [dx] at hp;rw[hp]
 | (k,u) :: r,h,p,hp=>by
   unfold dx at hp
   split at hp
   ·rcases List.mem_cons.1 hp with rfl|hp
    ·rfl
    ·exact h p (List.mem_cons_of_mem _ hp)
   ·rcases List.mem_cons.1 hp with rfl|hp
    ·exact h _ List.mem_cons_self
    ·exact zt (fun p hp=>h p (List.mem_cons_of_mem _ hp)) p hp
theorem RM.add {n:ByteArray} (R:RM ps st a kj es L k) (h0:dJ es n=0) (hr:rE ps st a n):RM ps st a kj (dx es n 1) (L++[n]) k:=by{
have hg:∀ s,dJ es s≠0→dJ (dx es n 1) s≠0:=fun s h=>by rw[eV];split<;>first|decide|exact h
refine⟨fun s=>?_,fun s h=>?_,fun s h=>?_,R.h,fun b hb h1 h2 p hp e x hx=>?_,?_,zt R.k⟩
·rw[eV];split
 ·exact .inr rfl
 ·exact R.z s
·rw[eV] at h;split at h
 ·rename_i e;rw[e];exact hr
 ·exact R.s s h
·rcases List.mem_append.1 h with h|h
 ·exact R.l s h
 ·rw[List.mem_singleton.1 h];exact .inr hr
·rw[List.mem_append,not_or] at h2
 refine hg x (R.c b hb ?_ h2.1 p hp e x hx)
 rcases h1 with h1|h1
 ·exact .inl h1
 ·refine .inr ?_
  rw[eV,if_neg (fun e=>h2.2 (List.mem_singleton.2 e))] at h1
  exact h1
·rcases R.m with m|m
 ·exact .inl (List.mem_append_left _ m)
 ·exact .inr fun p hp e x hx=>hg x (m p hp e x hx)}
theorem RI.done (R:RI ps st a es []) {s:ByteArray}:dJ es s≠0↔rE ps st a s:=by{
refine⟨R.s s,fun h=>?_⟩
induction h with
| one h1 h2 h3=>exact R.c a (.inl rfl) (by simp) _ h1 h2 _ h3
| more _ h1 h2 h3 ih=>exact R.c _ (.inr ih) (by simp) _ h1 h2 _ h3}
def pZ (U:List ByteArray) (es:List (ByteArray×Int)):Nat:=(U.filter fun n=>decide (dJ es n=0)).length
theorem uO {es:List (ByteArray×Int)} {n:ByteArray} (h0:dJ es n=0):∀ {U:List ByteArray},pZ U (dx es n 1)≤pZ U es∧(n∈U→pZ U (dx es n 1)+1≤pZ U es)
 | []=>by simp [pZ]
 | x :: U=>by
   have ih:=uO (es:=es) (n:=n) h0 (U:=U)
   unfold pZ at *
   by_cases e:x=n
   ·subst e
    have h1:dJ (dx es x 1) x≠0:=by rw[eV,if_pos rfl];decide
    simp only[List.filter_cons,h0,h1,decide_true,decide_false,if_true,if_false,List.length_cons,Bool.false_eq_true]
    exact⟨by omega,fun _=>by omega⟩
   ·have h1:dJ (dx es n 1) x=dJ es x:=by rw[eV,if_neg e]
    simp only[List.filter_cons,h1]
    split
    ·simp only[List.length_cons]
     exact⟨by omega,fun h=>by have:=ih.2 ((List.mem_cons.1 h).resolve_left (fun h=>e h.symm));omega⟩
    ·exact⟨ih.1,fun h=>ih.2 ((List.mem_cons.1 h).resolve_left (fun h=>e h.symm))⟩
theorem G8 {U:List ByteArray} {es:List (ByteArray×Int)}:pZ U es≤U.length:=List.length_filter_le _ _
theorem pA {s:ByteArray} {v:Int}:∀ {es:List (ByteArray×Int)},iG es s=some v→(s,v)∈es
 | [],h=>by cases h
 | (k,u) :: r,h=>by
   unfold iG at h
   split at h
   ·rename_i e;subst e;cases h;exact List.mem_cons_self
   ·exact List.mem_cons_of_mem _ (pA h)
theorem nI {s:ByteArray} {v:Int}:∀ {es:List (ByteArray×Int)},(s,v)∈es→∃ u,iG es s=some u
 | (k,u) :: r,h=>by
   unfold iG
   split
   ·exact⟨u,rfl⟩
   ·rename_i e
    rcases List.mem_cons.1 h with h|h
    ·cases h;exact absurd rfl e
    ·exact nI h
theorem JU {es:List (ByteArray×Int)} (h:∀ p∈es,p.2=1) {p:ByteArray×Int} (hp:p∈es):dJ es p.1≠0:=by{
obtain⟨u,hu⟩:=nI (s:=p.1) (v:=p.2) hp
have:=h _ (pA hu)
unfold dJ
rw[hu]
simp only[Option.getD_some]
simp only at this
omega}
theorem HX {es:List (ByteArray×Int)} {s:ByteArray} (h:dJ es s≠0):∃ p∈es,p.1=s:=by{
unfold dJ at h
cases e:iG es s with
| none=>rw[e] at h;exact absurd rfl h
| some v=>exact⟨_,pA e,rfl⟩}
end
end Go.Proofs.YtmdmimkbpikmoaaGreat
