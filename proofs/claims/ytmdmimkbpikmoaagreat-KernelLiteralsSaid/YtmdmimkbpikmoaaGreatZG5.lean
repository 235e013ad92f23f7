/- Several texts, one behind the other. -/
import Derived.Test.YtmdmimkbpikmoaaGreatG1
import Derived.Test.YtmdmimkbpikmoaaGreatZFa
import Derived.Test.YtmdmimkbpikmoaaGreatZTy
import Derived.RangeFuncBox
import Derived.RangeFuncNested
import Derived.RangeFuncBound
import Derived.RangeFuncCalls
import Derived.RangeFuncLeaves
import Derived.Shelf.Abstract
import Derived.Shelf.RegionOpen
import Derived.WalkKit
import Derived.OwnWalkIn
import Derived.TacticsInMore
import Derived.LoopNIn
import Derived.LoopIn
import Derived.Maps.AppendAt
import Derived.Lib.Builder
import Derived.Laws.Externs
import Derived.Test.YtmdmimkbpikmoaaGreatRows
import Derived.ProofKit
import Derived.OpenShut
import Derived.ChangeOld
import Derived.Below
import Derived.Carry
import Derived.SizedLaws
set_option linter.unusedSimpArgs false
set_option linter.unusedVariables false
set_option maxHeartbeats 8000000
namespace Go.Proofs.YtmdmimkbpikmoaaGreat
set_option maxRecDepth 20000
open Go.RowKit Am Ty
abbrev aZ.val (s:aZ):Value:=.agg #[u64 s.a,u64 s.b,u64 s.c,u64 s.d]
def ub (s t:aZ):Nat→List Value
 | 0=>[u64 s.a,u64 s.b,u64 s.c,u64 s.d]
 | 1=>[u64 (ls s.a t.a),u64 s.b,u64 s.c,u64 s.d]
 | 2=>[u64 (ls s.a t.a),u64 (ls s.b t.b),u64 s.c,u64 s.d]
 | 3=>[u64 (ls s.a t.a),u64 (ls s.b t.b),u64 (ls s.c t.c),u64 s.d]
 | _=>[u64 (ls s.a t.a),u64 (ls s.b t.b),u64 (ls s.c t.c),u64 (ls s.d t.d)]
set_option maxRecDepth 20000 in
theorem CT {h:ah} {s t:aZ} (hs:du s) (ht:du t):FW env 105 [s.val,t.val] h fun r h'=>r=(s.union t).val∧h'=h:=by{
have w0:IntKind.u64.wrap ((BitVec.ofInt IntKind.u64.bits s.a ||| BitVec.ofInt IntKind.u64.bits t.a).toNat)=ls s.a t.a:=u4 hs.a ht.a
have w1:IntKind.u64.wrap ((BitVec.ofInt IntKind.u64.bits s.b ||| BitVec.ofInt IntKind.u64.bits t.b).toNat)=ls s.b t.b:=u4 hs.b ht.b
have w2:IntKind.u64.wrap ((BitVec.ofInt IntKind.u64.bits s.c ||| BitVec.ofInt IntKind.u64.bits t.c).toNat)=ls s.c t.c:=u4 hs.c ht.c
have w3:IntKind.u64.wrap ((BitVec.ofInt IntKind.u64.bits s.d ||| BitVec.ofInt IntKind.u64.bits t.d).toNat)=ls s.d t.d:=u4 hs.d ht.d
refine fe Tryz.func105 ?_;simp only[push_cast]
refine aB ?_
refine df 4 (fun k=>[(2,.box (ub s t k)),(3,.box [u64 t.a,u64 t.b,u64 t.c,u64 t.d]),(4,.box [u64 0,u64 0,u64 0,u64 0]),(6,.val (i64 k))]) (fun _=>h) (fun _=>True) ⟨rfl,rfl,rfl,rfl,trivial⟩ rfl trivial ?_
intro k hk _
rcases (by omega:k=0∨k=1∨k=2∨k=3∨k=4) with rfl|rfl|rfl|rfl|rfl
·show CW _ _ ⟨[(2,.box [u64 s.a,u64 s.b,u64 s.c,u64 s.d]),(3,.box [u64 t.a,u64 t.b,u64 t.c,u64 t.d]),(4,.box [u64 0,u64 0,u64 0,u64 0]),(6,.val (i64 0))],[],h⟩ _
 have e1:IntKind.i64.wrap (0+1)=1:=by decide
 refine aB ?_
 refine af rfl ?_
 refine aB ?_
 refine aL 8 mixed kr ?_
 repeat (first|apply zs|apply zr|apply zn|((first|apply zx|apply zy);·simp only[push_cast,env,Nat.reduceEqDiff,reduceIte,Nat.reduceAdd,Nat.reduceMul,Nat.reduceLeDiff,reduceCtorEq,Nat.reduceSub,Int.reduceToNat,w0,e1,Int.reduceToNat]<;>first|exact rfl|exact .inl rfl|exact .inr rfl) | apply zq|apply zb|apply zo|apply zk|apply zl)
 exact⟨by decide,⟨rfl,rfl,rfl,rfl,trivial⟩,rfl,trivial⟩
·show CW _ _ ⟨[(2,.box [u64 (ls s.a t.a),u64 s.b,u64 s.c,u64 s.d]),(3,.box [u64 t.a,u64 t.b,u64 t.c,u64 t.d]),(4,.box [u64 0,u64 0,u64 0,u64 0]),(6,.val (i64 1))],[],h⟩ _
 have e1:IntKind.i64.wrap (1+1)=2:=by decide
 refine aB ?_
 refine af rfl ?_
 refine aB ?_
 refine aL 8 mixed kr ?_
 repeat (first|apply zs|apply zr|apply zn|((first|apply zx|apply zy);·simp only[push_cast,env,Nat.reduceEqDiff,reduceIte,Nat.reduceAdd,Nat.reduceMul,Nat.reduceLeDiff,reduceCtorEq,Nat.reduceSub,Int.reduceToNat,w1,e1,Int.reduceToNat]<;>first|exact rfl|exact .inl rfl|exact .inr rfl) | apply zq|apply zb|apply zo|apply zk|apply zl)
 exact⟨by decide,⟨rfl,rfl,rfl,rfl,trivial⟩,rfl,trivial⟩
·show CW _ _ ⟨[(2,.box [u64 (ls s.a t.a),u64 (ls s.b t.b),u64 s.c,u64 s.d]),(3,.box [u64 t.a,u64 t.b,u64 t.c,u64 t.d]),(4,.box [u64 0,u64 0,u64 0,u64 0]),(6,.val (i64 2))],[],h⟩ _
 have e1:IntKind.i64.wrap (2+1)=3:=by decide
 refine aB ?_
 refine af rfl ?_
 refine aB ?_
 refine aL 8 mixed kr ?_
 repeat (first|apply zs|apply zr|apply zn|((first|apply zx|apply zy);·simp only[push_cast,env,Nat.reduceEqDiff,reduceIte,Nat.reduceAdd,Nat.reduceMul,Nat.reduceLeDiff,reduceCtorEq,Nat.reduceSub,Int.reduceToNat,w2,e1,Int.reduceToNat]<;>first|exact rfl|exact .inl rfl|exact .inr rfl) | apply zq|apply zb|apply zo|apply zk|apply zl)
 exact⟨by decide,⟨rfl,rfl,rfl,rfl,trivial⟩,rfl,trivial⟩
·show CW _ _ ⟨[(2,.box [u64 (ls s.a t.a),u64 (ls s.b t.b),u64 (ls s.c t.c),u64 s.d]),(3,.box [u64 t.a,u64 t.b,u64 t.c,u64 t.d]),(4,.box [u64 0,u64 0,u64 0,u64 0]),(6,.val (i64 3))],[],h⟩ _
 have e1:IntKind.i64.wrap (3+1)=4:=by decide
 refine aB ?_
 refine af rfl ?_
 refine aB ?_
 refine aL 8 mixed kr ?_
 repeat (first|apply zs|apply zr|apply zn|((first|apply zx|apply zy);·simp only[push_cast,env,Nat.reduceEqDiff,reduceIte,Nat.reduceAdd,Nat.reduceMul,Nat.reduceLeDiff,reduceCtorEq,Nat.reduceSub,Int.reduceToNat,w3,e1,Int.reduceToNat]<;>first|exact rfl|exact .inl rfl|exact .inr rfl) | apply zq|apply zb|apply zo|apply zk|apply zl)
 exact⟨by decide,⟨rfl,rfl,rfl,rfl,trivial⟩,rfl,trivial⟩
·show CW _ _ ⟨[(2,.box [u64 (ls s.a t.a),u64 (ls s.b t.b),u64 (ls s.c t.c),u64 (ls s.d t.d)]),(3,.box [u64 t.a,u64 t.b,u64 t.c,u64 t.d]),(4,.box [u64 0,u64 0,u64 0,u64 0]),(6,.val (i64 4))],[],h⟩ _
 refine aB ?_
 refine ae rfl ?_
 refine aC ?_
 show CW _ _ _ _
 refine aB ?_
 refine ai ?_
 refine⟨_,ak,?_,rfl⟩
 rfl}
theorem div_pow {w:Int} (hw:qg w) (j:Nat):0≤w / 2 ^ j∧w / 2 ^ j<18446744073709551616:=by{
obtain⟨x,rfl⟩:∃ x:Nat,w=x:=⟨w.toNat,by have:=hw.1;omega⟩
have e:(x:Int) / 2 ^ j=((x / 2 ^ j:Nat):Int):=by simp
have h1:x / 2 ^ j≤x:=Nat.div_le_self _ _
have:=hw.2
rw[e]
generalize x / 2 ^ j=q at h1 ⊢
omega}
theorem Ej {α:Type} {c:Nat} {R:List Value→Prop} {f:α→List Value} {Q:α→Prop} (k:∀ vs,R vs→∃ x,vs=f x∧Q x):∀ {m:Nat} {vs:List Value},sR c R m vs→∃ l:List α,l.length=m∧vs=l.flatMap f∧∀ x∈l,Q x
 | 0,vs,h=>⟨[],rfl,h,fun x hx=>by cases hx⟩
 | m+1,vs,⟨a,b,h1,_,h3,h4⟩=>by
   obtain⟨x,rfl,hx⟩:=k a h3
   obtain⟨l,rfl,rfl,hl⟩:=Ej k h4
   refine⟨x :: l,rfl,by rw[h1];rfl,fun y hy=>?_⟩
   rcases List.mem_cons.1 hy with rfl|hy
   ·exact hx
   ·exact hl y hy
abbrev u8 (n:Int):Value:=.int .u8 n
theorem Ac {w:Int} (hw:qg w) {j:Nat} (hj:j<64):IntKind.u64.wrap ((BitVec.ofInt IntKind.u64.bits (w.fdiv (2 ^ (min j IntKind.u64.bits))) &&& BitVec.ofInt IntKind.u64.bits 1).toNat)=w / 2 ^ j % 2:=by{
have hb:IntKind.u64.bits=64:=rfl
rw[hb,Nat.min_eq_left om,Int.fdiv_eq_ediv_of_nonneg _ (Int.pow_nonneg (by decide))]
have h:=div_pow hw j
generalize w / 2 ^ j=q at h
obtain⟨x,rfl⟩:∃ x:Nat,q=x:=⟨q.toNat,by omega⟩
have e1:(BitVec.ofInt 64 (x:Int)).toNat=x:=by
 rw[BitVec.toNat_ofInt]
 have:=Int.emod_eq_of_lt (a:=(x:Int)) (b:=((2 ^ 64:Nat):Int)) om (by have:=h.2;simpa using this)
 rw[this]
 rfl
have e2:(BitVec.ofInt 64 1).toNat=1:=by decide
rw[BitVec.toNat_and,e1,e2,Nat.and_one_is_mod]
rw[wrap_u64 ⟨by omega,by omega⟩]
omega}
theorem zM {h:ah} {s:aZ} {b:Nat} (hs:du s) (hb:b<256):FW env 214 [s.val,u8 b] h fun r h'=>r = .bool (s.has b)∧h'=h:=by{
obtain⟨j,hj⟩:∃ j:Nat,j=b % 64:=⟨_,rfl⟩
have hj2:j<64:=by omega
have q2:(b:Int).tmod 64=(j:Int):=by
 rw[Int.tmod_eq_emod_of_nonneg om]
 omega
have q3:((j:Int)<0)=False:=by simp
have ww:=hs.word (b / 64)
have q5:=Ac ww hj2
have hres:s.has b=decide (s.word (b / 64) / 2 ^ j % 2=1):=by
 unfold aZ.has
 rw[wt ww,hj]
have q1:IntKind.u8.wrap ((b:Int).tdiv 64)=((b / 64:Nat):Int):=by
 rw[Int.tdiv_eq_ediv_of_nonneg om]
 unfold IntKind.wrap
 simp only[IntKind.bits,IntKind.signed,Bool.false_and,Bool.false_eq_true,if_false]
 omega
rw[hres]
refine fe Tryz.func214 ?_;simp only[push_cast]
rcases (by omega:b / 64=0∨b / 64=1∨b / 64=2∨b / 64=3) with e|e|e|e
all_goals
 rw[e] at q1 q5 ⊢
 simp only[aZ.word] at q5 ⊢
·rw[show ((0:Nat):Int)=0 from rfl] at q1
 repeat (first|apply zs|apply zr|apply zn|((first|apply zx|apply zy);·simp only[push_cast,env,Nat.reduceEqDiff,reduceIte,Nat.reduceAdd,Nat.reduceMul,Nat.reduceLeDiff,reduceCtorEq,Nat.reduceSub,Int.reduceToNat,q1,q2,q3,q5,Int.reduceEq,Int.reduceLT,Int.reduceLE,Nat.mul_one]<;>first|exact rfl|exact .inl rfl|exact .inr rfl) | apply zq|apply zb|apply zo|apply zk|apply zl)
 refine ai ?_
 exact⟨_,ak,rfl,rfl⟩
·rw[show ((1:Nat):Int)=1 from rfl] at q1
 repeat (first|apply zs|apply zr|apply zn|((first|apply zx|apply zy);·simp only[push_cast,env,Nat.reduceEqDiff,reduceIte,Nat.reduceAdd,Nat.reduceMul,Nat.reduceLeDiff,reduceCtorEq,Nat.reduceSub,Int.reduceToNat,q1,q2,q3,q5,Int.reduceEq,Int.reduceLT,Int.reduceLE,Nat.mul_one]<;>first|exact rfl|exact .inl rfl|exact .inr rfl) | apply zq|apply zb|apply zo|apply zk|apply zl)
 refine ai ?_
 exact⟨_,ak,rfl,rfl⟩
·rw[show ((2:Nat):Int)=2 from rfl] at q1
 repeat (first|apply zs|apply zr|apply zn|((first|apply zx|apply zy);·simp only[push_cast,env,Nat.reduceEqDiff,reduceIte,Nat.reduceAdd,Nat.reduceMul,Nat.reduceLeDiff,reduceCtorEq,Nat.reduceSub,Int.reduceToNat,q1,q2,q3,q5,Int.reduceEq,Int.reduceLT,Int.reduceLE,Nat.mul_one]<;>first|exact rfl|exact .inl rfl|exact .inr rfl) | apply zq|apply zb|apply zo|apply zk|apply zl)
 refine ai ?_
 exact⟨_,ak,rfl,rfl⟩
·rw[show ((3:Nat):Int)=3 from rfl] at q1
 repeat (first|apply zs|apply zr|apply zn|((first|apply zx|apply zy);·simp only[push_cast,env,Nat.reduceEqDiff,reduceIte,Nat.reduceAdd,Nat.reduceMul,Nat.reduceLeDiff,reduceCtorEq,Nat.reduceSub,Int.reduceToNat,q1,q2,q3,q5,Int.reduceEq,Int.reduceLT,Int.reduceLE,Nat.mul_one]<;>first|exact rfl|exact .inl rfl|exact .inr rfl) | apply zq|apply zb|apply zo|apply zk|apply zl)
 refine ai ?_
 exact⟨_,ak,rfl,rfl⟩}
end Go.Proofs.YtmdmimkbpikmoaaGreat
namespace Go.Proofs.YtmdmimkbpikmoaaGreat.Pr
set_option maxRecDepth 20000
open Go.RowKit Go.Shelf Am Ty
attribute [local go_sem] Oper.semAt_some
noncomputable def env:Env:=⟨Tryz.prog,YtmdmimkbpikmoaaGreat.env.IF,jg,fun _ _ _=>none⟩
@[push_cast] theorem On:env.P=Tryz.prog:=rfl
theorem ye:lU env:=⟨DW,rP,fun f args h r h' e=>by cases e⟩
theorem zM {h:ah} {s:aZ} {b:Nat} (hs:du s) (hb:b<256):FW env 214 [s.val,u8 b] h fun r h'=>r = .bool (s.has b)∧h'=h:=by{
obtain⟨j,hj⟩:∃ j:Nat,j=b % 64:=⟨_,rfl⟩
have hj2:j<64:=by omega
have q2:(b:Int).tmod 64=(j:Int):=by
 rw[Int.tmod_eq_emod_of_nonneg om]
 omega
have q3:((j:Int)<0)=False:=by simp
have ww:=hs.word (b / 64)
have q5:=Ac ww hj2
have hres:s.has b=decide (s.word (b / 64) / 2 ^ j % 2=1):=by
 unfold aZ.has
 rw[wt ww,hj]
have q1:IntKind.u8.wrap ((b:Int).tdiv 64)=((b / 64:Nat):Int):=by
 rw[Int.tdiv_eq_ediv_of_nonneg om]
 unfold IntKind.wrap
 simp only[IntKind.bits,IntKind.signed,Bool.false_and,Bool.false_eq_true,if_false]
 omega
rw[hres]
refine fe Tryz.func214 ?_;simp only[push_cast]
rcases (by omega:b / 64=0∨b / 64=1∨b / 64=2∨b / 64=3) with e|e|e|e
all_goals
 rw[e] at q1 q5 ⊢
 simp only[aZ.word] at q5 ⊢
·rw[show ((0:Nat):Int)=0 from rfl] at q1
 repeat (first|apply zs|apply zr|apply zn|((first|apply zx|apply zy);·simp only[push_cast,env,Nat.reduceEqDiff,reduceIte,Nat.reduceAdd,Nat.reduceMul,Nat.reduceLeDiff,reduceCtorEq,Nat.reduceSub,Int.reduceToNat,q1,q2,q3,q5,Int.reduceEq,Int.reduceLT,Int.reduceLE,Nat.mul_one]<;>first|exact rfl|exact .inl rfl|exact .inr rfl) | apply zq|apply zb|apply zo|apply zk|apply zl)
 refine ai ?_
 exact⟨_,ak,rfl,rfl⟩
·rw[show ((1:Nat):Int)=1 from rfl] at q1
 repeat (first|apply zs|apply zr|apply zn|((first|apply zx|apply zy);·simp only[push_cast,env,Nat.reduceEqDiff,reduceIte,Nat.reduceAdd,Nat.reduceMul,Nat.reduceLeDiff,reduceCtorEq,Nat.reduceSub,Int.reduceToNat,q1,q2,q3,q5,Int.reduceEq,Int.reduceLT,Int.reduceLE,Nat.mul_one]<;>first|exact rfl|exact .inl rfl|exact .inr rfl) | apply zq|apply zb|apply zo|apply zk|apply zl)
 refine ai ?_
 exact⟨_,ak,rfl,rfl⟩
·rw[show ((2:Nat):Int)=2 from rfl] at q1
 repeat (first|apply zs|apply zr|apply zn|((first|apply zx|apply zy);·simp only[push_cast,env,Nat.reduceEqDiff,reduceIte,Nat.reduceAdd,Nat.reduceMul,Nat.reduceLeDiff,reduceCtorEq,Nat.reduceSub,Int.reduceToNat,q1,q2,q3,q5,Int.reduceEq,Int.reduceLT,Int.reduceLE,Nat.mul_one]<;>first|exact rfl|exact .inl rfl|exact .inr rfl) | apply zq|apply zb|apply zo|apply zk|apply zl)
 refine ai ?_
 exact⟨_,ak,rfl,rfl⟩
·rw[show ((3:Nat):Int)=3 from rfl] at q1
 repeat (first|apply zs|apply zr|apply zn|((first|apply zx|apply zy);·simp only[push_cast,env,Nat.reduceEqDiff,reduceIte,Nat.reduceAdd,Nat.reduceMul,Nat.reduceLeDiff,reduceCtorEq,Nat.reduceSub,Int.reduceToNat,q1,q2,q3,q5,Int.reduceEq,Int.reduceLT,Int.reduceLE,Nat.mul_one]<;>first|exact rfl|exact .inl rfl|exact .inr rfl) | apply zq|apply zb|apply zo|apply zk|apply zl)
 refine ai ?_
 exact⟨_,ak,rfl,rfl⟩}
theorem has_eq {s:aZ} {n:Nat} (h:n<256):s.has n=mo s.a s.b s.c s.d n:=by
 unfold aZ.has mo qK aZ.word
 rcases (by omega:n / 64=0∨n / 64=1∨n / 64=2∨n / 64=3) with e|e|e|e<;>rw[e]<;>rfl
variable (has:Nat→Bool)
set_option maxRecDepth 100000 in
theorem FK (b:Nat) (w:World) (h0:w.cell? ⟨b,0,none⟩=some (.pointer (some ⟨b,0,none⟩))) : Calls Tryz.prog 205 #[.pointer (some ⟨b,0,none⟩)] w fun e w'=>e = .returned (.tuple #[])∧w'=w:=by{
have hj:∃ j,Tryz.prog.info? 228=some j:=⟨_,rfl⟩
obtain⟨j,hj⟩:=hj
refine calls_of_wp Tryz.func205 rfl ?_
simp only[Tryz.ntmps205,List.size_toArray,List.length_cons,List.length_nil,Nat.reduceAdd,Nat.reduceSub,Array.replicate_succ,Array.replicate_zero,List.push_toArray,List.append_toArray,List.nil_append,List.cons_append]
go_wp2
rw[Lib.run_neq_ptr_same w _ Tryz.underlying226 hj]
go_wp2
go_end0
exact⟨rfl,rfl⟩}
set_option maxRecDepth 100000 in
theorem E7 (b k:Nat) (w:World) (hk:0<k) (h0:w.cell? ⟨b,0,none⟩=some (.pointer none)) (hsh:w.shape? b=some (228,k)) (hfz:w.frozen? ⟨b,0,none⟩=false) (hl:liesAt Tryz.prog Tryz.prog.depth 228 (k / Tryz.prog.cellsOf 228) 0 228 1=true) : Calls Tryz.prog 205 #[.pointer (some ⟨b,0,none⟩)] w fun e w'=>e = .returned (.tuple #[])∧w'=w.setCell ⟨b,0,none⟩ (.pointer (some ⟨b,0,none⟩)):=by{
obtain⟨j,hj,hjs⟩:∃ j,Tryz.prog.info? 228=some j∧j.size≠0:=by
 have:(Tryz.prog.info? 228).map (·.size)=some 2:=by kernel_rfl
 obtain⟨j,hj,hjs⟩:=Option.map_eq_some_iff.1 this
 exact⟨j,hj,by rw[hjs];decide⟩
refine calls_of_wp Tryz.func205 rfl ?_
simp only[Tryz.ntmps205,List.size_toArray,List.length_cons,List.length_nil,Nat.reduceAdd,Nat.reduceSub,Array.replicate_succ,Array.replicate_zero,List.push_toArray,List.append_toArray,List.nil_append,List.cons_append]
go_wp2
rw[Lib.run_to_unsafe w ⟨b,0,none⟩ Tryz.underlying226 Tryz.underlying263 hj hjs hsh hk]
simp only[Result.andThen]
rw[Oper.upon_value]
go_wp2
rw[run_callFunc_extern Tryz.func215 kr kr kr (e:=Extern.AbiNoEscape.same) kr]
rw[Lib.run_noEscape]
simp only[Result.andThen]
rw[Oper.upon_value]
go_wp2
rw[Lib.run_from_unsafe w ⟨b,0,none⟩ Tryz.underlying263 Tryz.underlying226 hj hsh hl]
simp only[Result.andThen]
rw[Oper.upon_value]
go_wp2
go_end0
exact⟨rfl,rfl⟩}
theorem Cg {P:Program} {e:TypeId} (hc:P.cellsOf e=2) (count:Nat) (hn:1≤count):liesAt P P.depth e count 0 e 1=true:=by{
have hd:P.depth=(2*(P.types.size+Made.depth)+1)+1:=rfl
rw[hd]
simp only[liesAt,Bool.or_eq_true]
left
rw[hd]
simp [rowAt,hc,hn,sameLayout]}
variable (has:Nat→Bool)
theorem mR {k:Nat} (h:k<256):bM has (k+1)=if has k then bM has k++[⟨k,h⟩] else bM has k:=by
 simp only[bM,dif_pos h]
theorem jb (k:Nat):(bM has k).length≤k:=by{
induction k with
| zero=>simp [bM]
| succ k ih=>
  simp only[bM]
  split
  ·split
   ·simp only[List.length_append,List.length_cons,List.length_nil];omega
   ·omega
  ·omega}
abbrev Fq (x:Nat):Value:=.int .u8 x
def rz (a b c d:Int):Value:=.agg #[.int .u64 a,.int .u64 b,.int .u64 c,.int .u64 d]
structure ya (n₀ Bn:Nat) (W W':World):Prop where
 below:Below n₀ W W'
 ef:W'.heap[Bn]? = W.heap[Bn]?
theorem ya.trans {n₀ Bn:Nat} {A B C:World} (h:ya n₀ Bn A B) (k:ya n₀ Bn B C):ya n₀ Bn A C:=⟨h.below.trans k.below,k.ef.trans h.ef⟩
theorem ya.refl (n₀ Bn:Nat) (A:World):ya n₀ Bn A A:=⟨Below.refl _ _,rfl⟩
theorem ya.of {n₀ Bn:Nat} {A B:World} (h:Below A.heap.size A B) (hn:n₀≤A.heap.size) (hb:Bn<A.heap.size):ya n₀ Bn A B:=⟨h.mono hn,h.block Bn hb⟩
theorem wrap_u8 {k:Nat} (h:k<256):IntKind.u8.wrap (k:Int)=k:=by{
unfold IntKind.wrap
simp only[IntKind.bits,IntKind.signed,Bool.false_and,Bool.false_eq_true,if_false]
omega}
set_option maxRecDepth 100000 in
theorem HK (a b c d:Int) (hh:∀ (w:World) (x:Nat),x<256→Calls Tryz.prog 214 #[rz a b c d,Fq x] w fun e w'=>e = .returned (.bool (has x))∧Below w.heap.size w w') (n:Nat) (hn:1≤n) (l Bn n₀:Nat) (J Jx:List (Fin 256)→World→Prop) (hY:∀ (pre:List (Fin 256)) (x:Fin 256) W,J pre W→pre.length<257→YieldAt Fence.wide (n-1) Tryz.prog l #[Fq x.1] W fun e W'=> (e = .returned (.bool true)∧J (pre++[x]) W'∧ya n₀ Bn W W')∨(e = .returned (.bool false)∧Jx (pre++[x]) W')) (W:World) (hn0:n₀≤W.heap.size) (hBW:Bn<W.heap.size) (h0c:W.cell? ⟨Bn,0,none⟩=some (.int .u64 a)) (h1c:W.cell? ⟨Bn,1,none⟩=some (.int .u64 b)) (h2c:W.cell? ⟨Bn,2,none⟩=some (.int .u64 c)) (h3c:W.cell? ⟨Bn,3,none⟩=some (.int .u64 d)) (hJ:AbidesFrom W.heap.size J) (h0:J [] W) : CallsIn Fence.wide n Tryz.prog 213 #[.func (.yield l) #[] #[],.pointer (some ⟨Bn,0,none⟩)] W fun e W'=>(∃ v,e = .returned v) ∧ ((∃ ys,ys=bM has 256∧J ys W')∨(∃ pre,True∧Jx pre W')):=by{
refine callsIn_of_wp Tryz.func213 rfl trivial ?_ rfl
simp only[Tryz.ntmps213,List.size_toArray,List.length_cons,List.length_nil,Nat.reduceAdd,Nat.reduceSub,Array.replicate_succ,Array.replicate_zero,List.push_toArray,List.append_toArray,List.nil_append,List.cons_append]
gi_wp2
gi_loopw [3] (fun p wr=>∃ k:Nat,k≤256∧p = .int .i64 k∧J (bM has k) wr∧ya n₀ Bn W wr) (fun i _=>256-(intOf i).toNat)
case atStart=>exact⟨0,by omega,rfl,h0,ya.refl _ _ _⟩
case round=>
 obtain⟨k,hk,rfl,hJs,hnx⟩:=hrel
 have c0:=(World.cell?_of_block (a:=⟨Bn,0,none⟩) hnx.ef).trans h0c
 have c1:=(World.cell?_of_block (a:=⟨Bn,1,none⟩) hnx.ef).trans h1c
 have c2:=(World.cell?_of_block (a:=⟨Bn,2,none⟩) hnx.ef).trans h2c
 have c3:=(World.cell?_of_block (a:=⟨Bn,3,none⟩) hnx.ef).trans h3c
 by_cases hlt:k<256
 ·have hwr:=wrap_u8 hlt
  have hgr:∀ {A B:World},Below A.heap.size A B→A.grownBy B none:=fun {A B} h=>⟨h.os,h.tape,h.output,h.size,fun j hj _=>h.block j hj⟩
  have hlen:(bM has k).length<257:=Nat.lt_of_le_of_lt (jb has k) om
  cases hb:has k with
  | true=>
    have hs:=mR has hlt
    rw[hb,if_pos rfl] at hs
    have hhk:=hh
    gi_wp2_with (refine⟨trivial,?_⟩;gi_at_call 214;refine (callsIn_wide.2 (hh _ k hlt)).mono ?_;clear hh;rw[hb];rintro e w' ⟨rfl,hbw⟩;have hJ':=hJ _ wr w' none hJs (hgr hbw) (fun r h=>by cases h);obtain⟨fn,tmps,assign,body,hy,hR⟩:=hY _ ⟨k,hlt⟩ w' hJ' hlen)
    refine hR.mono ?_
    rintro e W3 (⟨rfl,hJ3,hk3⟩ | ⟨rfl,hJx3⟩)
    ·gi_wp2
     go_roundw
     case rel=>exact⟨k+1,by omega,by simp,by rw[hs];exact hJ3,hnx.trans ((ya.of hbw (by have:=hnx.below.size;omega) (by have:=hnx.below.size;omega)).trans hk3)⟩
     case measure=>simp [intOf];omega
    ·gi_wp2
     refine bodyPost_ret (results_none rfl _ _ _) rfl ?_
     exact⟨⟨_,rfl⟩,.inr ⟨_,trivial,hJx3⟩⟩
  | false=>
    have hs:=mR has hlt
    rw[hb,if_neg (by decide)] at hs
    gi_wp2_with (refine⟨trivial,?_⟩;gi_at_call 214;refine (callsIn_wide.2 (hh _ k hlt)).mono ?_;clear hh;rw[hb];rintro e w' ⟨rfl,hbw⟩;have hJ':=hJ _ wr w' none hJs (hgr hbw) (fun r h=>by cases h))
    refine⟨fun _ h=>(by cases h),?_⟩
    gi_wp2
    go_roundw
    case rel=>exact⟨k+1,by omega,by simp,by rw[hs];exact hJ',hnx.trans (ya.of hbw (by have:=hnx.below.size;omega) (by have:=hnx.below.size;omega))⟩
    case measure=>simp [intOf];omega
 ·obtain rfl:k=256:=by omega
  gi_wp2
  go_end0
  exact⟨⟨_,rfl⟩,.inl ⟨_,rfl,hJs⟩⟩}
theorem Kp (n:Nat) (a b c d:Int) (w:World) : CallsIn Fence.wide n Tryz.prog 204 #[rz a b c d] w fun e w'=>e = .returned (.func (.func 213) #[] #[.pointer (some ⟨w.heap.size,0,none⟩)])∧w'=w.alloc (.cells #[.int .u64 a,.int .u64 b,.int .u64 c,.int .u64 d] 54):=by{
refine callsIn_of_wp Tryz.func204 rfl trivial ?_ rfl
simp only[Tryz.ntmps204,List.size_toArray,List.length_cons,List.length_nil,Nat.reduceAdd,Nat.reduceSub,Array.replicate_succ,Array.replicate_zero,List.push_toArray,List.append_toArray,List.nil_append,List.cons_append]
unfold rz
gi_wp2
go_ret
exact⟨rfl,rfl⟩}
theorem Bd (a b c d:Int) (hh:∀ (w:World) (x:Nat),x<256→Calls Tryz.prog 214 #[rz a b c d,Fq x] w fun e w'=>e = .returned (.bool (has x))∧Below w.heap.size w w')
 (n:Nat) (hn:1≤n) (Bn n₀:Nat) (w:World) (hBn:Bn<w.heap.size) (hn0:n₀≤w.heap.size) (hc:w.heap[Bn]? = some (.cells #[.int .u64 a,.int .u64 b,.int .u64 c,.int .u64 d] 54 (0,0))) :
 SeqStopsK Fence.wide n Tryz.prog 213 #[.pointer (some ⟨Bn,0,none⟩)] (fun x:Fin 256=>#[Fq x.1]) (ya n₀ Bn) (fun ys=>ys=bM has 256) (fun _=>True) 257 w:=fun l J Jx W hW hJ _ hY h0=>by
 have hW':=hW.block Bn om
 rw[hc] at hW'
 have hcell:∀ j v,(#[Value.int .u64 a,.int .u64 b,.int .u64 c,.int .u64 d]:Array Value)[j]? = some v→W.cell? ⟨Bn,j,none⟩=some v:=fun j v hj=>by simp only[World.cell?,hW'];exact hj
 exact HK has a b c d hh n hn l Bn n₀ J Jx hY W (by have:=hW.size;omega) (by have:=hW.size;omega) (hcell 0 _ rfl) (hcell 1 _ rfl) (hcell 2 _ rfl) (hcell 3 _ rfl) hJ h0
theorem o5 (bs:List (Fin 256)) (x:Fin 256):bY (bs++[x])=iF (bY bs) x.1:=by simp [bY]
theorem j6 (l:List (Nat×Nat)):(cO l).length=2*l.length:=by{
induction l with
| nil=>rfl
| cons x l ih=>simp only[cO,List.flatMap_cons,List.length_append,List.length_cons,List.length_nil] at ih ⊢;omega}
theorem j3 (l m:List (Nat×Nat)):cO (l++m)=cO l++cO m:=by simp [cO]
theorem Dq {α:Type} {p:List α→Prop} (h0:p []) (h1:∀ l x,p l→p (l++[x])) (l:List α):p l:=by{
have:∀ r:List α,p r.reverse:=fun r=>by
 induction r with
 | nil=>exact h0
 | cons x r ih=>rw[List.reverse_cons];exact h1 _ _ ih
have:=this l.reverse
rwa [List.reverse_reverse] at this}
theorem mW (bs:List (Fin 256)):(bY bs).length≤bs.length∧∀ p∈bY bs,p.2<256:=by{
induction bs using Dq with
| h0=>simp [bY]
| h1 bs x ih=>
  rw[o5]
  obtain⟨h1,h2⟩:=ih
  unfold iF
  split
  ·rename_i lo hi hl
   have hne:bY bs≠[]:=by rintro e;rw[e] at hl;simp at hl
   have:0<(bY bs).length:=List.length_pos_iff.2 hne
   split
   ·refine⟨by simp only[List.length_append,List.length_dropLast,List.length_cons,List.length_nil];omega,fun p hp=>?_⟩
    rcases List.mem_append.1 hp with hp|hp
    ·exact h2 p (List.dropLast_subset _ hp)
    ·obtain rfl:p=(lo,x.1):=by simpa using hp
     exact x.2
   ·refine⟨by simp only[List.length_append,List.length_cons,List.length_nil];omega,fun p hp=>?_⟩
    rcases List.mem_append.1 hp with hp|hp
    ·exact h2 p hp
    ·obtain rfl:p=(x.1,x.1):=by simpa using hp
     exact x.2
  ·exact⟨by simp,fun p hp=>by obtain rfl:p=(x.1,x.1):=by simpa using hp
                              exact x.2⟩}
theorem GA:(Tryz.prog.info? 214).map (fun i=>(i.zero,i.size,i.bytes))=some (some (.agg #[.int .i64 0,.int .i64 0]),2,16):=by kernel_rfl
theorem C0 {w:World} {base:Nat} {e:TypeId} {g n cap off:Nat} {xs ys:List Value} {v:Value} (h:w.ownsRow base e 2 (.slice (some ⟨g,0,none⟩) n cap) n xs) (hy:ys=xs.set off v):(w.setCell ⟨g,off,none⟩ v).ownsRow base e 2 (.slice (some ⟨g,0,none⟩) n cap) n ys:=by{
obtain⟨h1,h2⟩:=h
rcases h2 with ⟨h2,_⟩ | ⟨g',cap',cur,hv,hb,hg,h3,h4,h5,h6⟩
·cases h2
·cases hv
 have hlt:g<w.heap.size:=(Array.getElem?_eq_some_iff.1 hg).1
 refine⟨by rw[hy,List.length_set,h1],.inr ⟨g,cap,cur.setIfInBounds off v,rfl,hb,?_,h3,h4,by simpa using h5,?_⟩⟩
 ·show (w.heap.modify g _)[g]? = _
  rw[Array.getElem?_modify,if_pos rfl,hg]
  simp
 ·rw[hy,← h6,Array.toList_setIfInBounds,List.take_set]}
theorem yA (l:List (Nat×Nat)) (lo hi x:Nat):cO (l++[(lo,x)])=(cO (l++[(lo,hi)])).set (2*l.length+1) (.int .i64 x):=by{
rw[j3,j3,List.set_append_right _ _ (by rw[j6];omega),j6]
simp only[show 2*l.length+1-2*l.length=1 by omega]
rfl}
theorem yO (l:List (Nat×Nat)) (lo hi:Nat):(cO (l++[(lo,hi)]))[2*l.length+1]? = some (.int .i64 hi):=by{
rw[j3,List.getElem?_append_right (by rw[j6];omega),j6]
simp only[show 2*l.length+1-2*l.length=1 by omega]
rfl}
theorem rK (l:List (Nat×Nat)) (lo hi b:Nat):iF (l++[(lo,hi)]) b=if hi+1=b then l++[(lo,b)] else l++[(lo,hi)]++[(b,b)]:=by simp [iF]
theorem QJ {w:World} {n₀ Bn:Nat} (hn:n₀≤w.heap.size) (hb:Bn<w.heap.size):∀ (W:World) (l:Nat) (o o':Obj),w.heap.size≤l→W.heap[l]? = some o→o.isCells=false→o.isWalk=false→ya n₀ Bn W (W.putObj l o'):=fun W l o o' h1 h2 h3 h4=>
 ⟨belowK_b hn W l o o' h1 h2 h3 h4,(grownBy_putObj' W l o').block Bn (by have:=(Array.getElem?_eq_some_iff.1 h2).1;omega) (fun e=>by cases e;omega)⟩
theorem zH (w:World) (x y:Value) (t:TypeId):∀ (j:Nat) (u:Value),[x,y][j]? = some u→(w.alloc (.cells #[x,y] t)).cell? ((⟨w.heap.size,0,none⟩:Addr).add j)=some u:=by{
intro j u hj
have hn:=World.alloc_heap_new w (.cells #[x,y] t)
match j,hj with
| 0,hj=>simp at hj;subst hj;simp only[World.cell?,Addr.add,if_true,hn];rfl
| 1,hj=>simp at hj;subst hj;rw[Addr.add_lit];simp only[World.cell?,hn];rfl
| j+2,hj=>simp at hj}
theorem Ag {W:World} {base n b:Nat} {v:Value} {xs:List Value} {cs:Array Value} (h:W.ownsRow base 214 2 v n xs) (hb:W.heap[b]? = some (.cells cs 54 (0,0))):v.ownBlock≠some b:=by{
intro e
rcases h.2 with ⟨rfl,_⟩ | ⟨g,cap,cur,rfl,_,hg,_⟩
·simp [Value.ownBlock] at e
·have:g=b:=by simpa [Value.ownBlock] using e
 subst this
 rw[hb] at hg
 simp at hg}
theorem F3 {b:Nat} {cs:Array Value} {t:TypeId}:Own (fun (_:List (Fin 256)) W=>W.heap[b]? = some (.cells cs t (0,0))):=by{
rintro s X Y row h hg hrow
rw[hg.block b (Array.getElem?_eq_some_iff.1 h).1 (fun e=>by
 obtain⟨o,ho,hc⟩:=hrow b e.symm
 rw[h] at ho;cases ho;cases hc)]
exact h}
def IT (v:Value):Prop:=v = .slice none 0 0
theorem xl {v:Value} (hv:IT v) (W:World):(Builtin.len_ #[210] 3 #[v]).run Tryz.prog W = .ok (.int .i64 0) W:=by
 simp [show v = .slice none 0 0 from hv,Builtin.len_,run_underlying Tryz.underlying210,goInt]
set_option maxRecDepth 100000 in
theorem Ip (a b c d:Int) (hh:∀ (w:World) (x:Nat),x<256→Calls Tryz.prog 214 #[rz a b c d,Fq x] w fun e w'=>e = .returned (.bool (has x))∧Below w.heap.size w w') (w:World) : CallsIn Fence.wide 3 Tryz.prog 175 #[rz a b c d] w fun e W'=>∃ v,e = .returned v∧W'.ownsRow w.heap.size 214 2 v (bY (bM has 256)).length (cO (bY (bM has 256)))∧(v = .slice none 0 0↔bY (bM has 256)=[])∧Below w.heap.size w W':=by{
obtain⟨i0,hi,hz0,hz1,hz2⟩:=info_parts GA
refine callsIn_of_wp_marks Tryz.func175 rfl trivial ?_ rfl
simp only[Tryz.ntmps175,List.size_toArray,List.length_cons,List.length_nil,Nat.reduceAdd,Nat.reduceSub,Array.replicate_succ,Array.replicate_zero,List.push_toArray,List.append_toArray,List.nil_append,List.cons_append]
have hall:=fun W=>Kp (3-1) a b c d W
unfold rz at hall ⊢
gi_wp2_with (refine⟨trivial,?_⟩;gi_at_call 204;refine (hall _).mono ?_;clear hall;rintro e w' ⟨rfl,rfl⟩)
have bO:Boxed (((w.alloc (.cells #[.int .u64 a,.int .u64 b,.int .u64 c,.int .u64 d] 54)).alloc (.cells #[.slice none 0 0] 210)).alloc (.cells #[.int .u64 a,.int .u64 b,.int .u64 c,.int .u64 d] 54)) (w.heap.size+1) 210 (.slice none 0 0):=by
 have:=(Boxed.new (w.alloc (.cells #[.int .u64 a,.int .u64 b,.int .u64 c,.int .u64 d] 54)) 210 (.slice none 0 0)).alloc (.cells #[.int .u64 a,.int .u64 b,.int .u64 c,.int .u64 d] 54)
 rwa [World.size_alloc] at this
have bN:(((w.alloc (.cells #[.int .u64 a,.int .u64 b,.int .u64 c,.int .u64 d] 54)).alloc (.cells #[.slice none 0 0] 210)).alloc (.cells #[.int .u64 a,.int .u64 b,.int .u64 c,.int .u64 d] 54)).heap[w.heap.size+2]? = some (.cells #[.int .u64 a,.int .u64 b,.int .u64 c,.int .u64 d] 54 (0,0)):=by
 have:=World.alloc_heap_new ((w.alloc (.cells #[.int .u64 a,.int .u64 b,.int .u64 c,.int .u64 d] 54)).alloc (.cells #[.slice none 0 0] 210)) (.cells #[.int .u64 a,.int .u64 b,.int .u64 c,.int .u64 d] 54)
 simpa using this
have hB0:Below w.heap.size w (((w.alloc (.cells #[.int .u64 a,.int .u64 b,.int .u64 c,.int .u64 d] 54)).alloc (.cells #[.slice none 0 0] 210)).alloc (.cells #[.int .u64 a,.int .u64 b,.int .u64 c,.int .u64 d] 54)):=(((Below.refl _ w).alloc (Nat.le_refl _) _).alloc (by simp) _).alloc (by simp;omega) _
obtain⟨W0,hW0⟩:∃ W0,(((w.alloc (.cells #[.int .u64 a,.int .u64 b,.int .u64 c,.int .u64 d] 54)).alloc (.cells #[.slice none 0 0] 210)).alloc (.cells #[.int .u64 a,.int .u64 b,.int .u64 c,.int .u64 d] 54))=W0:=⟨_,rfl⟩
have hsz:W0.heap.size=w.heap.size+3:=by rw[← hW0];simp
rw[hW0] at bO bN hB0 ⊢
refine wpIn_rangeFunc_ownG rfl (by decide) (gf:=213) (lb:=#[.pointer (some ⟨w.heap.size+2,0,none⟩)]) rfl trivial (enters_of Tryz.func213 kr rfl)
 (Bd has a b c d hh (3-1) (by decide) (w.heap.size+2) w.heap.size W0 om om bN) (ya.trans) (QJ om om) (Below.refl _ _) (fun _=>rfl)
 (fun pre W=>(∃ v,Boxed W (w.heap.size+1) 210 v∧W.ownsRow w.heap.size 214 2 v (bY pre).length (cO (bY pre))∧(v = .slice none 0 0↔bY pre=[]))∧(Below w.heap.size W0 W∧W.heap[w.heap.size+2]? = some (.cells #[.int .u64 a,.int .u64 b,.int .u64 c,.int .u64 d] 54 (0,0))))
 (fun _ _ _=>False)
 (OwnFrom.and (Own.from (holdsRow_own w.heap.size (w.heap.size+1) 210 214 2 (fun pre=>(bY pre).length) (fun pre=>cO (bY pre)) (fun pre v=>v = .slice none 0 0↔bY pre=[])) _) (OwnFrom.and (ownFrom_below om om) (Own.from F3 _)))
 (fun _ _ _ _ _ hs _ _=>hs)
 ⟨⟨_,bO,World.ownsRow_nil _ _ _ _,by simp [bY]⟩,Below.refl _ _,bN⟩
 (fun x=>{ tmps:=#[.agg #[.int .u64 a,.int .u64 b,.int .u64 c,.int .u64 d],.pointer (some ⟨w.heap.size,0,none⟩),.slice none 0 0,.pointer (some ⟨w.heap.size+1,0,none⟩),Fq x.1,undef,.agg #[.int .u64 a,.int .u64 b,.int .u64 c,.int .u64 d],.func (.func 213) #[] #[.pointer (some ⟨w.heap.size+2,0,none⟩)],Fq x.1,undef,undef,undef,undef,undef,undef,undef,undef,undef,undef,undef,undef,undef,undef,undef,undef,undef,undef,undef,undef,undef,undef,undef,undef,undef,undef,undef,undef,undef,undef,undef,undef],defers:=[] }) ?assign ?body ?done ?stop
case assign=>
 intro l x W K hK
 gi_wp2
 exact hK
case body=>
 rintro l pre x W ⟨⟨v,hv,hrow,hnil⟩,hB,hN⟩ hlt
 have hc:=hv.cell
 have hx:=x.2
 have hlen:=(mW pre).1
 have hlen2:(bY pre).length≤257:=by omega
 have hrs:=o5 pre x
 have hbd:=(mW pre).2
 have hBs:=hB.size
 have hfzc:∀ {A:World} {g n cap:Nat} {xs:List Value},A.ownsRow w.heap.size 214 2 (.slice (some ⟨g,0,none⟩) n cap) n xs→∀ j,A.frozen? ⟨g,j,none⟩=false:=fun {A g n cap xs} h j=>by
  rcases h.2 with ⟨h2,_⟩ | ⟨g',cap',cur,hv,_,hg,_⟩
  ·cases h2
  ·cases hv
   simp [World.frozen?,hg]
 rcases List.eq_nil_or_concat (bY pre) with hr|⟨rs,⟨lo,hi2⟩,hr⟩
 ·have hveq:IT v:=hnil.2 hr
  have e1:bY (pre++[x])=[(x.1,x.1)]:=by rw[hrs,hr];rfl
  rw[hr] at hrow
  clear hnil hlen hlen2 hbd hh hfzc hlt hrs hr
  gi_wp2
  rw[xl hveq W]
  simp only[Result.andThen]
  rw[Oper.uponIn_value]
  gi_wp2_with (gi_at_builtin;refine wpListIn_append_own _ rfl _ _ 210 rfl w.heap.size 214 i0 (.agg #[.int .i64 0,.int .i64 0]) 2 16 Tryz.underlying210 hi hz0 hz1 hz2 rfl (by decide) _ _ _ rfl (hrow.alloc _) ⟨W.heap.size,0,none⟩ 1 1 [.int .i64 x.1,.int .i64 x.1] rfl rfl (zH _ _ _ _) (by simp [Value.oneCell']) (by simp [maxLen]) (by decide) (by simp;omega) ?_;intro v' w1 hown' hgrow _;obtain⟨g',cap',rfl⟩:=ownsRow_succ hown';obtain⟨hv1,hv2,hr2,hk2,hb2⟩:=hv.appended (by decide) hrow om om hown' hgrow;have hc1:=hv1.cell;have hf1:=hv1.frozen)
  have hnb:=Ag hrow hN
  have hN1:(w1.setCell ⟨w.heap.size+1,0,none⟩ (.slice (some ⟨g',0,none⟩) 1 cap')).heap[w.heap.size+2]? = W.heap[w.heap.size+2]?:=by
   rw[Below.heap_setCell _ _ _ _ (by simp),hgrow.block _ (by simp;omega) (fun e=>hnb e.symm),Below.heap_alloc _ _ _ om]
  exact⟨hk2.from _,⟨hb2,hN1⟩,⟨_,hv2,by rw[e1];simpa [cO] using hr2,by rw[e1];simp⟩,hB.trans hb2,hN1.trans hN⟩
 ·rw[List.concat_eq_append] at hr
  rw[hr] at hrow hbd hlen2
  have hk:rs.length≤256:=by simp only[List.length_append,List.length_cons,List.length_nil] at hlen2;omega
  have hh2:hi2<256:=hbd (lo,hi2) (by simp)
  have hl1:(rs++[(lo,hi2)]).length=rs.length+1:=by simp
  rw[hl1] at hrow
  obtain⟨g,cap,rfl⟩:=ownsRow_succ hrow
  have ci:=hrow.cells (g:=g) rfl (2*rs.length+1) _ (yO rs lo hi2)
  rw[Addr.add_lit,Nat.zero_add,Nat.mul_comm 2 rs.length] at ci
  have ff:=hfzc hrow (rs.length*2+1)
  clear hnil hlen hlen2 hbd hh hfzc hlt
  have hnb:=Ag hrow hN
  have hnb2:g≠w.heap.size+2:=fun e=>hnb (by rw[e];rfl)
  have hgB:g≠w.heap.size+1:=fun e=>by
   have:=hv.not_row (by decide) hrow
   exact this (by rw[e];rfl)
  have hgb:w.heap.size≤g:=by
   rcases hrow.2 with ⟨h2,_⟩ | ⟨g',cap',cur,hv',hbg,_⟩
   ·cases h2
   ·cases hv';exact hbg
  by_cases he:hi2+1=x.1
  ·have he2:((hi2:Int)+1=(x.1:Int))=True:=by simp;omega
   have e1:bY (pre++[x])=rs++[(lo,x.1)]:=by rw[hrs,hr,rK,if_pos he]
   gi_wp2
   have hs:=C0 (off:=rs.length*2+1) (v:=.int .i64 x.1) (ys:=cO (rs++[(lo,x.1)])) hrow (by rw[yA rs lo hi2,Nat.mul_comm 2])
   refine⟨(KeepsOthers.setCell _ _ _).from _,⟨(Below.refl _ W).setCell (p:=⟨g,rs.length*2+1,none⟩) hgb _,Below.heap_setCell _ _ _ _ (fun e=>hnb2 e.symm)⟩,⟨_,?_,by rw[e1];simpa using hs,by rw[e1];simp⟩,hB.trans ((Below.refl _ W).setCell (p:=⟨g,rs.length*2+1,none⟩) hgb _),by rw[Below.heap_setCell _ _ _ _ (fun e=>hnb2 e.symm)];exact hN⟩
   show (W.setCell _ _).heap[w.heap.size+1]? = _
   rw[Below.heap_setCell _ _ _ _ (fun e=>hgB e.symm)]
   exact hv
  ·have he2:((hi2:Int)+1=(x.1:Int))=False:=by simp;omega
   have e1:bY (pre++[x])=rs++[(lo,hi2)]++[(x.1,x.1)]:=by rw[hrs,hr,rK,if_neg he]
   gi_wp2_with (gi_at_builtin;refine wpListIn_append_own _ rfl _ _ 210 rfl w.heap.size 214 i0 (.agg #[.int .i64 0,.int .i64 0]) 2 16 Tryz.underlying210 hi hz0 hz1 hz2 rfl (by decide) _ _ _ rfl (hrow.alloc _) ⟨W.heap.size,0,none⟩ 1 1 [.int .i64 x.1,.int .i64 x.1] rfl rfl (zH _ _ _ _) (by simp [Value.oneCell']) (by simp [maxLen];omega) om (by simp;omega) ?_;intro v' w1 hown' hgrow _;obtain⟨g',cap',rfl⟩:=ownsRow_succ hown';obtain⟨hv1,hv2,hr2,hk2,hb2⟩:=hv.appended (by decide) hrow om om hown' hgrow;have hc1:=hv1.cell;have hf1:=hv1.frozen)
   have hN1:(w1.setCell ⟨w.heap.size+1,0,none⟩ (.slice (some ⟨g',0,none⟩) (rs.length+1+1) cap')).heap[w.heap.size+2]? = W.heap[w.heap.size+2]?:=by
    rw[Below.heap_setCell _ _ _ _ (by simp),hgrow.block _ (by simp;omega) (fun e=>hnb e.symm),Below.heap_alloc _ _ _ om]
   exact⟨hk2.from _,⟨hb2,hN1⟩,⟨_,hv2,by rw[e1,show (rs++[(lo,hi2)]++[(x.1,x.1)]).length=rs.length+1+1 by simp,j3 (rs++[(lo,hi2)])];exact hr2,by rw[e1];simp⟩,hB.trans hb2,hN1.trans hN⟩
case done=>
 rintro D ys W hD rfl ⟨⟨v,hv,hrow,hnil⟩,hB,hN⟩ hK
 have hc:=hv.cell
 gi_wp2
 refine⟨by simp,.inl ⟨_,_,rfl,run_takeDeferred hK,?_⟩⟩
 exact⟨_,results_tmp rfl _ _ _,v,rfl,ownsRow_putObj hrow _ hK rfl,hnil,hB0.trans (hB.trans (belowK_b (w:=w) (Nat.le_refl _) W D _ _ om hK rfl rfl))⟩
case stop=>
 rintro D c pre W _ _ h _
 exact h.elim}
theorem rc (P:Program) (w:World):bZ P [] [] w:=⟨rfl,fun id o h=>by simp at h,fun a b o1 o2 m1 m2 _ h=>by simp at h⟩
theorem Gd (b:Nat):¬ eH [] [] b:=by
 rintro⟨i,o,m,h1,_⟩
 simp at h1
theorem Bq {a b c d:Int} (ha:qg a) (hb:qg b) (hc:qg c) (hd:qg d) (w:World) (x:Nat) (hx:x<256) : Calls Tryz.prog 214 #[rz a b c d,Fq x] w fun e w'=>e = .returned (.bool (mo a b c d x))∧Below w.heap.size w w':=by{
have hs:du ⟨a,b,c,d⟩:=⟨ha,hb,hc,hd⟩
have k:=zM (h:=[]) hs hx
unfold FW at k
obtain⟨r,h',hcall,rfl,rfl⟩:=k
have hv:di Tryz.prog [] [(aZ.mk a b c d).val,u8 x] (#[rz a b c d,Fq x]:Array Value).toList:=by
 refine⟨?_,.pure rfl,trivial⟩
 exact di.agg (l:=[.int .u64 a,.int .u64 b,.int .u64 c,.int .u64 d]) (l':=[.int .u64 a,.int .u64 b,.int .u64 c,.int .u64 d]) (di.pure rfl)
refine (hcall.calls ye [] w #[rz a b c d,Fq x] (rc _ w) hv).mono ?_
rintro e w' ⟨μ',r',rfl,hr,hH,hX,hF,hO,hK⟩
rw[hr.bool,has_eq hx]
exact⟨rfl,hF.os,hF.tape,hF.output,hF.size,fun k hk=>hF.block k hk (Gd k)⟩}
theorem pY {w:Int} (h:tH w=true):qg w:=by
 simp only[tH,Bool.and_eq_true,decide_eq_true_eq] at h
 exact h
theorem FD {args:List Value} {h h':ah} {r:Value} (e:iJ h args=some (r,h')):k8 Tryz.prog 175 args h r h':=by{
unfold iJ at e
split at e
case h_2=>cases e
rename_i cs
split at e
case h_2=>cases e
rename_i a b c d hcs
split at e
case isFalse=>cases e
rename_i hw
simp only[Bool.and_eq_true] at hw
obtain⟨⟨⟨wa,wb⟩,wc⟩,wd⟩:=hw
intro μ w args' hH hA
have hargs:args'=#[rz a b c d]:=by
 generalize he:args'.toList=l at hA
 match l,hA with
 | [v],⟨hv,_⟩=>
   obtain⟨cs',rfl,hl⟩:=hv.lZ
   rw[hcs] at hl
   generalize hq:cs'.toList=q at hl
   match q,hl with
   | [v1,v2,v3,v4],⟨h1,h2,h3,h4,_⟩=>
     rw[h1.int,h2.int,h3.int,h4.int] at hq
     have:cs'=#[.int .u64 a,.int .u64 b,.int .u64 c,.int .u64 d]:=Array.toList_inj.1 hq
     rw[this] at he
     exact Array.toList_inj.1 he
subst hargs
refine (callsIn_wide.1 (Ip (mo a b c d) a b c d (fun w x hx=>Bq (pY wa) (pY wb) (pY wc) (pY wd) w x hx) w)).mono ?_
rintro e2 w' ⟨v,rfl,hrow,hnil,hB⟩
have hfr:pb (eH μ h) w w':=⟨hB.os,hB.tape,hB.output,hB.size,fun k hk _=>hB.block k hk⟩
have hH':bZ Tryz.prog μ h w':=hH.world hB.size fun b hb=>hB.block b (hb.lt hH)
generalize bY (bM (mo a b c d) 256)=rs at *
split at e
·rename_i hr
 cases e
 have:rs=[]:=by simpa using hr
 rw[hnil.2 this]
 exact⟨μ,_,rfl,.pure rfl,hH',eA.refl _,hfr,fun b hb=>.inl hb,fun b hb=>.inl hb⟩
·rename_i hr
 cases e
 have hne:rs≠[]:=by simpa using hr
 rcases hrow.2 with ⟨h0,_⟩ | ⟨g,cap,cur,rfl,hbg,hg,hnc,hcm,hcs2,htk⟩
 ·exact absurd (hnil.1 h0) hne
 ·have hone:(cO rs).all one=true:=by
   rw[List.all_eq_true]
   intro x hx
   simp only[cO,List.mem_flatMap,List.mem_cons,List.not_mem_nil,or_false] at hx
   obtain⟨p,_,rfl|rfl⟩:=hx<;>rfl
  have hpu:∀ x∈cO rs,be x=true:=by
   intro x hx
   simp only[cO,List.mem_flatMap,List.mem_cons,List.not_mem_nil,or_false] at hx
   obtain⟨p,_,rfl|rfl⟩:=hx<;>rfl
  have hcell:∀ (j:Nat) (v:Value),(cO rs)[j]? = some v→∃ v',cur[j]? = some v'∧VR Tryz.prog μ v v':=fun j v hj=>by
   refine⟨v,?_,.pure (hpu v (List.mem_of_getElem? hj))⟩
   rw[← htk,List.getElem?_take] at hj
   split at hj
   ·simpa using hj
   ·cases hj
  have hnew:=hH.new (cells:=cO rs) (cur:=cur) (e:=214) (b:=g) hB.size hbg (Array.getElem?_eq_some_iff.1 hg).1 (fun k hk=>hB.block k hk) hg hcell hone
  refine⟨_,_,rfl,?_,hnew,eA.push _ _,hfr,fun b hb=>?_,fun b hb=>?_⟩
  ·have:=cA μ ⟨g,0,cur.size,214⟩
   rw[hH.len] at this
   have hh:=VR.slice (P:=Tryz.prog) (c:=rs.length) (len:=rs.length) (cap:=cap) (off:=0) this hnc hcm (by
    have:Tryz.prog.cellsOf 214=2:=by kernel_rfl
    simp only[this,hcs2];omega)
   simpa using hh
  ·rcases kU rfl hH.len hb with h1|h1
   ·exact .inl h1
   ·exact .inr (by rw[h1];exact hbg)
  ·rcases ig rfl hH.len hb with h1|h1
   ·exact .inl h1
   ·exact .inr (by rw[h1];exact hbg)}
theorem Pz {args:List Value} {h h':ah} {r:Value} (e:o8 h args=some (r,h')):k8 Tryz.prog 205 args h r h':=by{
unfold o8 at e
split at e
case h_2=>cases e
rename_i id au
split at e
case h_2=>cases e
rename_i p x v et hid
split at e
case isFalse=>cases e
rename_i hv
subst hv
split at e
case isFalse=>cases e
rename_i het
subst het
intro μ w args' hH hA
obtain⟨m,hm⟩:=hH.obj _ _ _ _ _ hid
obtain⟨hb0,cur,hr,hroom⟩:=hm.own rfl
have hargs:args'=#[.pointer (some ⟨m.block,0,none⟩)]:=by
 generalize he:args'.toList=l at hA
 match l,hA with
 | [u],⟨hu,_⟩=>
   obtain⟨id',off',ver',m',hq,hm',rfl⟩:=hu.js
   cases hq
   rw[hm.at] at hm'
   cases hm'
   rw[hb0] at he
   exact Array.toList_inj.1 he
subst hargs
obtain⟨v0,k0,q0⟩:=hm.cell 0 _ rfl
obtain⟨v1,k1,q1⟩:=hm.cell 1 _ rfl
rw[hb0] at k0 k1
have hsize:1<cur.size:=by
 simp only[World.cell?,hr] at k1
 exact (Array.getElem?_eq_some_iff.1 (by simpa using k1)).1
have hce:Tryz.prog.cellsOf 228=2:=by kernel_rfl
split at e
·cases e
 rw[q0.dD rfl] at k0
 have hl:=Cg hce (cur.size / 2) om
 refine (E7 m.block cur.size w om k0 (by simp [World.shape?,hr]) (by simp [World.frozen?,hr]) (by rw[hce];exact hl)).mono ?_
 rintro e2 w' ⟨rfl,rfl⟩
 have hgr:w.grownBy (w.setCell ⟨m.block,0,none⟩ (.pointer (some ⟨m.block,0,none⟩))) (some m.block):=grownBy_setCell' w m.block _
 have hnew:(w.setCell ⟨m.block,0,none⟩ (.pointer (some ⟨m.block,0,none⟩))).heap[m.block]? = some (.cells (cur.setIfInBounds 0 (.pointer (some ⟨m.block,0,none⟩))) 228 (0,0)):=by
  show (w.heap.modify m.block _)[m.block]? = _
  rw[Array.getElem?_modify,if_pos rfl,hr]
  simp
 have hO:kx Tryz.prog μ (w.setCell ⟨m.block,0,none⟩ (.pointer (some ⟨m.block,0,none⟩))) id [.pointer (some ⟨id,0,some v⟩),x] v true 228 m:=by
  refine⟨hm.pi,hm.ez,fun j u hj=>?_,?_,Nat.lt_of_lt_of_le hm.ef hgr.size,fun _=>⟨hb0,_,hnew,by simpa using hroom⟩⟩
  ·rw[hb0,Nat.zero_add]
   match j with
   | 0=>
     cases hj
     refine⟨.pointer (some ⟨m.block,0,none⟩),?_,?_⟩
     ·simp only[World.cell?,hnew]
      simp only[Option.isSome_none,Bool.false_eq_true,if_false]
      rw[Array.getElem?_setIfInBounds_self_of_lt om]
     ·have:=VR.ptr (P:=Tryz.prog) (off:=0) hm.at
      rwa [hb0] at this
   | 1=>
     cases hj
     refine⟨v1,?_,q1⟩
     simp only[World.cell?,hr] at k1
     simp only[World.cell?,hnew]
     simp only[Option.isSome_none,Bool.false_eq_true,if_false] at k1 ⊢
     rw[Array.getElem?_setIfInBounds_ne (by decide)]
     simpa using k1
   | j+2=>simp at hj
  ·have:=hm.one
   simp only[List.all_cons,Bool.and_eq_true] at this ⊢
   exact⟨rfl,this.2⟩
 have hHR:=hH.IX hid hm.at (eA.refl _) rfl (fun _ _=>rfl) hO (.inl rfl) hgr.size fun k hk hne=>hgr.block k hk (fun e=>hne (Option.some.inj e))
 refine⟨μ,_,rfl,VR.undef,hHR,eA.refl _,⟨hgr.os,hgr.tape,hgr.output,hgr.size,fun k hk hn=>hgr.block k hk (fun e=>hn (by cases e;exact eH.aj hid hm.at))⟩,fun b hb=>?_,fun b hb=>?_⟩
 ·rcases ri (fun _ _=>rfl) hm.at hb with h1|h1
  ·exact .inl h1
  ·exact .inl (h1▸eH.aj hid hm.at)
 ·rcases kR (fun _ _=>rfl) hm.at hb with h1|h1
  ·exact .inl h1
  ·exact .inl (h1▸(eH.aj hid hm.at).ef)
·rename_i a
 split at e
 case isFalse=>cases e
 rename_i ha
 subst ha
 cases e
 obtain⟨id',off',ver',m',hq,hm',hv0⟩:=q0.js
 cases hq
 rw[hm.at] at hm'
 cases hm'
 rw[hv0,hb0] at k0
 refine (FK m.block w k0).mono ?_
 rintro e2 w' ⟨rfl,rfl⟩
 exact⟨μ,_,rfl,VR.undef,hH,eA.refl _,pb.refl _ _,fun b hb=>.inl hb,fun b hb=>.inl hb⟩}
end Go.Proofs.YtmdmimkbpikmoaaGreat.Pr
namespace Go.Proofs.YtmdmimkbpikmoaaGreat
open Am
theorem yi:∀ f args h r h',j8 f args h=some (r,h')→k8 Tryz.prog f args h r h':=fun f args h r h' e=>by
 unfold j8 at e
 split at e
 ·rename_i hf;subst hf;exact Pr.Pz e
 ·split at e
  ·rename_i hf;subst hf;exact Pr.FD e
  ·cases e
end Go.Proofs.YtmdmimkbpikmoaaGreat
namespace Go.Proofs.YtmdmimkbpikmoaaGreat
open Go.RowKit Am Ty
theorem ye:lU env:=⟨DW,rP,yi⟩
end Go.Proofs.YtmdmimkbpikmoaaGreat
namespace Go.Proofs.YtmdmimkbpikmoaaGreat
set_option maxRecDepth 20000
open Go.ChangeShapes Go.WideShapes Go.ChangeAt Go.RowKit Am Ty
theorem own:ownKnob Tryz.prog.godebug=none:=by kernel_rfl
theorem laidOut:laidOutB Tryz.prog=true:=by kernel_rfl
theorem xP {μ:Mu} {h:ah} {W w':World} (hn:lV h) (k:pb (eH μ h) W w'):Below W.heap.size W w':=
 ⟨k.os,k.tape,k.output,k.size,fun i hi=>k.block i hi fun ⟨_,_,_,h1,h2,_⟩=>by have:=hn _ _ h1;rw[h2] at this;cases this⟩
end Go.Proofs.YtmdmimkbpikmoaaGreat
namespace Go.Proofs.YtmdmimkbpikmoaaGreat.Am
open Go.RowKit
def kL (P:Program) (t:TypeId):Bool:=match P.underlying t with
 | some (.struct _)=>true
 | some (.array _ _)=>true
 | _=>false
def Mj (P:Program) (h:ah) (t:TypeId) (a:Value):Prop:=∃ n vs,nE P h n t vs∧((kL P t=true∧a = .agg vs.toArray)∨(kL P t=false∧vs=[a]))
def o7 (P:Program) (h:ah):List TypeId→List Value→Prop
 | [],[]=>True
 | t :: ts,a :: avs=>Mj P h t a∧o7 P h ts avs
 | _,_=>False
theorem Mj.mono {P:Program} {h h':ah} {t:TypeId} {a:Value} (hp:h <+: h'):Mj P h t a→Mj P h' t a:=fun ⟨n,vs,k,e⟩=>⟨n,vs,k.mono hp,e⟩
section
variable {P:Program} {W:World}
theorem uv {ts:List TypeId} {base:Nat} {t:TypeId} {v:Value} (hk:o9 P ts t=true) (hval:Value.okWide P W .any base t v) (ha:kL P t=false):v.cells.toList=[v]:=by{
unfold Value.okWide at hval
unfold o9 at hk
unfold kL at ha
cases hu:P.underlying t with
| none=>rw[hu] at hk;simp at hk
| some d=>
  rw[hu] at hk ha hval
  cases d<;>simp at hk ha<;>simp only[Cell.okWide,Cell.ok,hu] at hval<;>cases v<;>first|rfl|exact hval.elim|simp at hval}
theorem yP {base:Nat} {t:TypeId} {v:Value} (hval:Value.okWide P W .any base t v) (ha:kL P t=true):∃ cs,v = .agg cs:=by{
unfold Value.okWide at hval
unfold kL at ha
split at ha
·rename_i hu
 rw[hu] at hval
 exact hval.imp fun _ h=>h.1
·rename_i hu
 rw[hu] at hval
 exact hval.imp fun _ h=>h.1
·cases ha}
theorem Bx {H:Type} {enc:TypeId×Value→H} {held:Bool} {ts:List TypeId} (hcl:ts.all (o9 P ts)=true) {base:Nat} {t:TypeId} {v:Value} {d:DataW H} {p:List MemPlace} (ht:t∈ts) (hval:Value.okWide P W .any base t v) (h0:DataW.Trod enc P W 0 (fun _=>true) held t v d p) (hw:(d.weights P t).all (fun b=>decide (b≤reachBytes))=true) {μ:Mu} {h:ah} (H:bZ P μ h W) (hn:lV h) : ∃ μ' h' a,h <+: h'∧eA μ μ'∧bZ P μ' h' W∧lV h'∧VR P μ' a v∧Mj P h' t a:=by{
obtain⟨n,hn0⟩:=h0
obtain⟨μ',h',vs,h1,h2,h3,h4,h5,h6,h7⟩:=j4 hcl n _ _ _ ht hn0 hw μ h H hn
cases ha:kL P t with
| true=>
  obtain⟨cs,rfl⟩:=yP hval ha
  have h5':di P μ' vs cs.toList:=h5
  refine⟨μ',h',.agg vs.toArray,h1,h2,h3,h4,?_,n,vs,h7,.inl ⟨ha,rfl⟩⟩
  have:=di.agg h5'
  simpa using this
| false=>
  have e:=uv (List.all_eq_true.1 hcl t ht) hval ha
  rw[e] at h5
  match vs,h5,h7 with
  | [a],h5,h7=>exact⟨μ',h',a,h1,h2,h3,h4,h5.1,n,[a],h7,.inr ⟨ha,rfl⟩⟩}
theorem o7.mono {h h':ah} (hp:h <+: h'):∀ {ts:List TypeId} {avs:List Value},o7 P h ts avs→o7 P h' ts avs
 | [],[],_=>trivial
 | _ :: _,_ :: _,⟨h1,h2⟩=>⟨h1.mono hp,o7.mono hp h2⟩
 | [],_ :: _,h=>h.elim
 | _ :: _,[],h=>h.elim
theorem sA {H:Type} {enc:TypeId×Value→H} {held:Bool} {ts:List TypeId} (hcl:ts.all (o9 P ts)=true) {base:Nat}:∀ {tys:List TypeId} {vs:List Value} {ds:List (DataW H)} {p:List MemPlace},(∀ t∈tys,t∈ts) →
 DataW.TrodAll enc P W 0 (fun _=>true) held tys vs ds p→(∀ (i:Nat) (t:TypeId) (v:Value),tys[i]? = some t→vs[i]? = some v→Value.okWide P W .any base t v) →
 (∀ (i:Nat) (t:TypeId) (d:DataW H),tys[i]? = some t→ds[i]? = some d→(d.weights P t).all (fun b=>decide (b≤reachBytes))=true)→∀ {μ:Mu} {h:ah},bZ P μ h W→lV h →
 ∃ μ' h' avs,h <+: h'∧eA μ μ'∧bZ P μ' h' W∧lV h'∧di P μ' avs vs∧o7 P h' tys avs
 | [],[],[],_,_,_,_,_,μ,h,H,hn=>⟨μ,h,[],List.prefix_refl _,eA.refl _,H,hn,trivial,trivial⟩
 | t :: tys,v :: vs,d :: ds,_,ht,⟨p,q,k1,k2,_⟩,hv,hw,μ,h,H,hn=>by
   obtain⟨μ1,h1,a,p1,x1,H1,n1,v1,r1⟩:=Bx hcl (ht t List.mem_cons_self) (hv 0 t v rfl rfl) k1 (hw 0 t d rfl rfl) H hn
   obtain⟨μ2,h2,avs,p2,x2,H2,n2,v2,r2⟩:=sA hcl (fun t h=>ht t (List.mem_cons_of_mem _ h)) k2 (fun i t v e1 e2=>hv (i+1) t v (by simpa using e1) (by simpa using e2)) (fun i t d e1 e2=>hw (i+1) t d (by simpa using e1) (by simpa using e2)) H1 n1
   exact⟨μ2,h2,a :: avs,p1.trans p2,x1.trans x2,H2,n2,⟨v1.mono x2,v2⟩,r1.mono p2,r2⟩
 | [],_ :: _,_,_,_,h,_,_,_,_,_,_=>by simp [DataW.TrodAll] at h
 | [],[],_ :: _,_,_,h,_,_,_,_,_,_=>by simp [DataW.TrodAll] at h
 | _ :: _,[],_,_,_,h,_,_,_,_,_,_=>by simp [DataW.TrodAll] at h
 | _ :: _,_ :: _,[],_,_,h,_,_,_,_,_,_=>by simp [DataW.TrodAll] at h
end
end Go.Proofs.YtmdmimkbpikmoaaGreat.Am
namespace Go.Proofs.YtmdmimkbpikmoaaGreat
set_option maxRecDepth 20000
open Go.ChangeShapes Go.WideShapes Go.ChangeAt Go.RowKit Am Ty
theorem rc {W:World}:bZ Tryz.prog [] [] W:=⟨rfl,fun id o h1=>by simp at h1,fun a b o1 o2 m1 m2 _ h1=>by simp at h1⟩
set_option maxRecDepth 100000 in
theorem zC {H:Type} {enc:TypeId×Value→H} {f:FuncId} {W:World} {base:Nat} {tys ts:List TypeId} {args:Array Value} {ds:List (DataW H)} {p:List MemPlace} (hcl:ts.all (o9 Tryz.prog ts)=true) (htys:tys.all (fun t=>ts.contains t)=true) (hf:∀ (h:ah) (avs:List Value),o7 Tryz.prog h tys avs→FW env f avs h fun r _=>r = .bool true) (hval:∀ (j:Nat) (t:TypeId) (v:Value),tys[j]? = some t→args.toList[j]? = some v→Value.okWide Tryz.prog W .any base t v) (h0:DataW.TrodAll enc Tryz.prog W 0 (fun _=>true) true tys args.toList ds p) (hw:∀ (i:Nat) (t:TypeId) (d:DataW H),tys[i]? = some t→ds[i]? = some d→(d.weights Tryz.prog t).all (fun b=>decide (b≤reachBytes))=true) : Calls Tryz.prog f args W fun e W'=>e = .returned (.bool true)∧Below W.heap.size W W':=by{
obtain⟨μ,h,avs,_,_,H,hno,hv,hr⟩:=sA hcl (fun t ht=>by have:=List.all_eq_true.1 htys t ht;simpa using this) h0 hval hw (μ:=[]) (h:=[]) rc (fun id o h1=>by simp at h1)
have k:=hf h avs hr
unfold FW at k
obtain⟨r,h',k1,rfl⟩:=k
refine (Ev.calls ye k1 μ W args H hv).mono fun e W' ⟨μ',r',he,hvr,_,_,hfr,_,_⟩=>?_
exact⟨by rw[he,VR.bool hvr],xP hno hfr⟩}
theorem Ch {H:Type} {enc:TypeId×Value→H} {W W':World} (hb:Below W.heap.size W W') (tys:List TypeId) (ht:∀ t∈tys,Tryz.prog.readableRec t=true∧t<Tryz.prog.types.size):∀ (vs:List Value) (ds:List (DataW H)) (p:List MemPlace), DataW.TrodAll enc Tryz.prog W 0 (fun _=>true) true tys vs ds p→DataW.TrodAll enc Tryz.prog W' 0 (fun b=>decide (b<W.heap.size)) true tys vs ds p:=by{
induction tys with
| nil=>
  intro vs ds p h
  obtain⟨rfl,rfl,rfl⟩:=trodAll_nil h
  exact trodAll_mk0
| cons t tys ih=>
  intro vs ds p h
  obtain⟨v,vs',d,ds',p1,q1,rfl,rfl,rfl,k1,k2⟩:=trodAll_cons h
  have lt0:∀ x∈p1,x.block<W.heap.size:=by obtain⟨m,hm⟩:=k1;exact DataW.trod_lt m _ _ _ hm
  have h1:=ht t List.mem_cons_self
  exact trodAll_cons_mk (Below.trod laidOut h1.1 h1.2 k1 hb lt0) (ih (fun t h=>ht t (List.mem_cons_of_mem _ h)) _ _ _ k2)}
theorem yB {H:Type} {enc:TypeId×Value→H} {W W':World} (hb:Below W.heap.size W W') {tys:List TypeId} (ht:tys.all (fun t=>Tryz.prog.readableRec t&&decide (t<Tryz.prog.types.size))=true) {vs:List Value} {ds:List (DataW H)} {p:List MemPlace}
 (h:DataW.TrodAll enc Tryz.prog W 0 (fun _=>true) true tys vs ds p):DataW.TrodAll enc Tryz.prog W' 0 (fun b=>decide (b<W.heap.size)) true tys vs ds p:=
 Ch hb tys (fun t h=>by have:=List.all_eq_true.1 ht t h;simp only[Bool.and_eq_true,decide_eq_true_eq] at this;exact this) _ _ _ h
end Go.Proofs.YtmdmimkbpikmoaaGreat
namespace Go.Proofs.YtmdmimkbpikmoaaGreat
set_option maxRecDepth 20000
open Go.RowKit Am Ty
abbrev i32 (n:Int):Value:=.int .i32 n
def sP (lo hi c:Int):Bool:=decide (lo≤c)&&decide (c≤hi)
theorem wG {h:ah} {c:Int}:FW env 122 [i32 c] h fun r h'=>r = .bool (sP 65 90 c)∧h'=h:=by{
refine fe Tryz.func122 ?_;simp only[push_cast]
by_cases q1:65≤c
·by_cases q2:c≤90
 ·repeat (first|apply zs|apply zr|apply zn|((first|apply zx|apply zy);·simp only[push_cast,env,Nat.reduceEqDiff,reduceIte,Nat.reduceAdd,Nat.reduceMul,Nat.reduceLeDiff,reduceCtorEq,Nat.reduceSub,Int.reduceToNat,q1,q2,decide_true]<;>first|exact rfl|exact .inl rfl|exact .inr rfl) | apply zq|apply zb|apply zo|apply zk|apply zl)
  refine ai ?_
  exact⟨_,ak,by simp [cD,sP,q1,q2],rfl⟩
 ·repeat (first|apply zs|apply zr|apply zn|((first|apply zx|apply zy);·simp only[push_cast,env,Nat.reduceEqDiff,reduceIte,Nat.reduceAdd,Nat.reduceMul,Nat.reduceLeDiff,reduceCtorEq,Nat.reduceSub,Int.reduceToNat,q1,q2,decide_true,decide_false]<;>first|exact rfl|exact .inl rfl|exact .inr rfl) | apply zq|apply zb|apply zo|apply zk|apply zl)
  refine ai ?_
  exact⟨_,ak,by simp [cD,sP,q1,q2],rfl⟩
·repeat (first|apply zs|apply zr|apply zn|((first|apply zx|apply zy);·simp only[push_cast,env,Nat.reduceEqDiff,reduceIte,Nat.reduceAdd,Nat.reduceMul,Nat.reduceLeDiff,reduceCtorEq,Nat.reduceSub,Int.reduceToNat,q1,decide_false]<;>first|exact rfl|exact .inl rfl|exact .inr rfl) | apply zq|apply zb|apply zo|apply zk|apply zl)
 refine ai ?_
 exact⟨_,ak,by simp [cD,sP,q1],rfl⟩}
theorem DB {h:ah} {c:Int}:FW env 168 [i32 c] h fun r h'=>r = .bool (sP 97 122 c)∧h'=h:=by{
refine fe Tryz.func168 ?_;simp only[push_cast]
by_cases q1:97≤c
·by_cases q2:c≤122
 ·repeat (first|apply zs|apply zr|apply zn|((first|apply zx|apply zy);·simp only[push_cast,env,Nat.reduceEqDiff,reduceIte,Nat.reduceAdd,Nat.reduceMul,Nat.reduceLeDiff,reduceCtorEq,Nat.reduceSub,Int.reduceToNat,q1,q2,decide_true]<;>first|exact rfl|exact .inl rfl|exact .inr rfl) | apply zq|apply zb|apply zo|apply zk|apply zl)
  refine ai ?_
  exact⟨_,ak,by simp [cD,sP,q1,q2],rfl⟩
 ·repeat (first|apply zs|apply zr|apply zn|((first|apply zx|apply zy);·simp only[push_cast,env,Nat.reduceEqDiff,reduceIte,Nat.reduceAdd,Nat.reduceMul,Nat.reduceLeDiff,reduceCtorEq,Nat.reduceSub,Int.reduceToNat,q1,q2,decide_true,decide_false]<;>first|exact rfl|exact .inl rfl|exact .inr rfl) | apply zq|apply zb|apply zo|apply zk|apply zl)
  refine ai ?_
  exact⟨_,ak,by simp [cD,sP,q1,q2],rfl⟩
·repeat (first|apply zs|apply zr|apply zn|((first|apply zx|apply zy);·simp only[push_cast,env,Nat.reduceEqDiff,reduceIte,Nat.reduceAdd,Nat.reduceMul,Nat.reduceLeDiff,reduceCtorEq,Nat.reduceSub,Int.reduceToNat,q1,decide_false]<;>first|exact rfl|exact .inl rfl|exact .inr rfl) | apply zq|apply zb|apply zo|apply zk|apply zl)
 refine ai ?_
 exact⟨_,ak,by simp [cD,sP,q1],rfl⟩}
theorem Fg {h:ah} {c:Int}:FW env 169 [i32 c] h fun r h'=>r = .bool (sP 48 57 c)∧h'=h:=by{
refine fe Tryz.func169 ?_;simp only[push_cast]
by_cases q1:48≤c
·by_cases q2:c≤57
 ·repeat (first|apply zs|apply zr|apply zn|((first|apply zx|apply zy);·simp only[push_cast,env,Nat.reduceEqDiff,reduceIte,Nat.reduceAdd,Nat.reduceMul,Nat.reduceLeDiff,reduceCtorEq,Nat.reduceSub,Int.reduceToNat,q1,q2,decide_true]<;>first|exact rfl|exact .inl rfl|exact .inr rfl) | apply zq|apply zb|apply zo|apply zk|apply zl)
  refine ai ?_
  exact⟨_,ak,by simp [cD,sP,q1,q2],rfl⟩
 ·repeat (first|apply zs|apply zr|apply zn|((first|apply zx|apply zy);·simp only[push_cast,env,Nat.reduceEqDiff,reduceIte,Nat.reduceAdd,Nat.reduceMul,Nat.reduceLeDiff,reduceCtorEq,Nat.reduceSub,Int.reduceToNat,q1,q2,decide_true,decide_false]<;>first|exact rfl|exact .inl rfl|exact .inr rfl) | apply zq|apply zb|apply zo|apply zk|apply zl)
  refine ai ?_
  exact⟨_,ak,by simp [cD,sP,q1,q2],rfl⟩
·repeat (first|apply zs|apply zr|apply zn|((first|apply zx|apply zy);·simp only[push_cast,env,Nat.reduceEqDiff,reduceIte,Nat.reduceAdd,Nat.reduceMul,Nat.reduceLeDiff,reduceCtorEq,Nat.reduceSub,Int.reduceToNat,q1,decide_false]<;>first|exact rfl|exact .inl rfl|exact .inr rfl) | apply zq|apply zb|apply zo|apply zk|apply zl)
 refine ai ?_
 exact⟨_,ak,by simp [cD,sP,q1],rfl⟩}
def vG (c:Int):Bool:=sP 65 90 c||sP 97 122 c||sP 48 57 c
def bn (b:ByteArray) (i:Nat):Nat:=(b.get! i).toNat
theorem kD {b:ByteArray} {i:Nat} (hi:i<b.size):∃ c:UInt8,b[i]? = some c∧c.toNat=bn b i:=by{
refine⟨b[i],getElem?_pos b i hi,?_⟩
obtain⟨bs⟩:=b
show (bs[i]).toNat=(bs[i]!).toNat
rw[getElem!_pos bs i hi]}
theorem ym {n:Nat} (h:vG (n:Int)=true):n<128:=by{
unfold vG sP at h
simp only[Bool.or_eq_true,Bool.and_eq_true,decide_eq_true_eq] at h
omega}
theorem tz {b:ByteArray} {i:Nat} (h:bn b i<128):Utf8.decode b i=(bn b i,1):=by{
unfold bn at h ⊢
unfold Utf8.decode
simp only[Nat.add_zero]
rw[if_pos h]}
theorem BZ {b:ByteArray} {i:Nat} (h:¬ bn b i<128):128≤(Utf8.decode b i).1:=by{
unfold bn at h
unfold Utf8.decode
simp only[Nat.add_zero]
rw[if_neg h]
split
·split
 ·simp only;omega
 ·simp [Utf8.runeError]
·split
 ·split
  ·rename_i hq;simp only[ge_iff_le,Bool.and_eq_true,decide_eq_true_eq] at hq;simp only;omega
  ·simp [Utf8.runeError]
 ·split
  ·split
   ·rename_i hq;simp only[ge_iff_le,Bool.and_eq_true,decide_eq_true_eq] at hq;simp only;omega
   ·simp [Utf8.runeError]
  ·simp [Utf8.runeError]}
theorem NF {b:ByteArray} {i:Nat}:vG ((Utf8.decode b i).1:Int)=vG (bn b i:Int):=by{
by_cases h:bn b i<128
·rw[tz h]
·have h1:=BZ h
 cases e1:vG ((Utf8.decode b i).1:Int) with
 | true=>have:=ym e1;omega
 | false=>
   cases e2:vG (bn b i:Int) with
   | true=>exact absurd (ym e2) h
   | false=>rfl}
structure Ja (b:ByteArray) (k:Nat):Prop where
 le:k≤b.size
 all:∀ i<k,vG (bn b i:Int)=true
 stop:k<b.size→vG (bn b k:Int)=false
def BB (b:ByteArray):Bool:=(List.range b.size).all fun i=>vG (bn b i:Int)
theorem Ja.eq {b:ByteArray} {k:Nat} (h:Ja b k):decide ((k:Int)=(b.size:Int))=BB b:=by{
have:=h.le
cases e:BB b with
| true=>
  simp only[BB,List.all_eq_true,List.mem_range] at e
  refine decide_eq_true ?_
  by_cases hk:k<b.size
  ·have:=h.stop hk;rw[e k hk] at this;cases this
  ·omega
| false=>
  refine decide_eq_false fun hk=>?_
  have hk':k=b.size:=by omega
  have:BB b=true:=by
   simp only[BB,List.all_eq_true,List.mem_range]
   intro i hi
   exact h.all i om
  rw[e] at this
  cases this}
def bJ (b:ByteArray):Bool:=decide (0<b.size)&&decide (b.size≤32)&&sP 65 90 (bn b 0:Int)&&BB b
theorem LH {h:ah} {b:ByteArray} (hb:b.size≤140737488355328):FW env 123 [.string b] h fun r h'=>(∃ k:Nat,Ja b k∧r=i64 k)∧h'=h:=by{
refine fe Tryz.func123 ?_;simp only[push_cast]
refine aB ?_
refine GY (t:=9) rfl rfl rfl kr rfl ?_
refine aB ?_
refine pH (fun m s=>∃ p,m=b.size-p∧p≤b.size∧(∀ i<p,vG (bn b i:Int)=true)∧bB [(0,.val (.string b)),(6,.uU b p)] s.fr∧s.h=h) b.size ⟨0,rfl,Nat.zero_le _,fun i hi=>absurd hi om,aO,rfl⟩ ?_
rintro m s ⟨p,rfl,hp,hall,hf,hh⟩
refine aA _ hf ?_
rw[hh]
by_cases hlt:p<b.size
·refine zu ?_
 refine CQ (b:=b) (p:=p) rfl rfl rfl hlt ?_
 have hC:=NF (b:=b) (i:=p)
 have hnx:vG (bn b p:Int)=true→(Utf8.decode b p).2=1:=fun ha=>by rw[tz (ym ha)]
 generalize Utf8.decode b p=cw at hC hnx
 obtain⟨c,w⟩:=cw
 simp only at hC hnx
 refine aB ?_
 refine af rfl ?_
 refine aB ?_
 refine zj Tryz.func122 ?_
 refine wG.mono ?_
 rintro _ h1 ⟨rfl,rfl⟩
 cases g1:sP 65 90 (c:Int) with
 | true=>
   have hcc:vG (c:Int)=true:=by simp [vG,g1]
   rw[hcc] at hC
   have hw:=hnx hC.symm
   subst hw
   refine aB ?_
   refine ae rfl ?_
   refine aB ?_
   refine⟨b.size-(p+1),by omega,p+1,rfl,by omega,fun i hi=>?_,aO,rfl⟩
   rcases (by omega:i<p∨i=p) with hi|rfl
   ·exact hall i hi
   ·exact hC.symm
 | false=>
   repeat (first|apply zs|apply zr|apply zn|((first|apply zx|apply zy);·simp only[push_cast,env,Nat.reduceEqDiff,reduceIte,Nat.reduceAdd,Nat.reduceMul,Nat.reduceLeDiff,reduceCtorEq,Nat.reduceSub,Int.reduceToNat,Bool.not_false]<;>first|exact rfl|exact .inl rfl|exact .inr rfl) | apply zq|apply zb|apply zo|apply zk|apply zl)
   refine zj Tryz.func168 ?_
   refine DB.mono ?_
   rintro _ h1 ⟨rfl,rfl⟩
   cases g2:sP 97 122 (c:Int) with
   | true=>
     have hcc:vG (c:Int)=true:=by simp [vG,g1,g2]
     rw[hcc] at hC
     have hw:=hnx hC.symm
     subst hw
     refine aB ?_
     refine ae rfl ?_
     refine aB ?_
     refine⟨b.size-(p+1),by omega,p+1,rfl,by omega,fun i hi=>?_,aO,rfl⟩
     rcases (by omega:i<p∨i=p) with hi|rfl
     ·exact hall i hi
     ·exact hC.symm
   | false=>
     refine aB ?_
     refine zj Tryz.func169 ?_
     refine Fg.mono ?_
     rintro _ h1 ⟨rfl,rfl⟩
     cases g3:sP 48 57 (c:Int) with
     | true=>
       have hcc:vG (c:Int)=true:=by simp [vG,g1,g2,g3]
       rw[hcc] at hC
       have hw:=hnx hC.symm
       subst hw
       refine aB ?_
       refine ae rfl ?_
       refine aB ?_
       refine⟨b.size-(p+1),by omega,p+1,rfl,by omega,fun i hi=>?_,aO,rfl⟩
       rcases (by omega:i<p∨i=p) with hi|rfl
       ·exact hall i hi
       ·exact hC.symm
     | false=>
       have hcc:vG (c:Int)=false:=by simp [vG,g1,g2,g3]
       rw[hcc] at hC
       refine aB ?_
       refine af rfl ?_
       refine aB ?_
       refine ai ?_
       exact⟨_,ak,⟨p,⟨by omega,hall,fun _=>hC.symm⟩,rfl⟩,rfl⟩
·obtain rfl:p=b.size:=by omega
 refine zu ?_
 refine CS (b:=b) (p:=b.size) rfl rfl rfl (Nat.le_refl _) ?_
 refine aB ?_
 refine ae rfl ?_
 refine aC ?_
 show CW _ _ _ _
 refine aB ?_
 refine ai ?_
 exact⟨_,ak,⟨b.size,⟨Nat.le_refl _,hall,fun h=>absurd h om⟩,rfl⟩,rfl⟩}
theorem jd {b:ByteArray}:b=⟨#[]⟩↔b.size=0:=by{
constructor
·rintro rfl;rfl
·intro h
 obtain⟨bs⟩:=b
 have:bs=#[]:=Array.eq_empty_of_size_eq_zero h
 rw[this]}
theorem wrap_i32 {n:Int} (h0:0≤n) (h1:n<2147483648):IntKind.i32.wrap n=n:=by{
unfold IntKind.wrap
simp only[IntKind.bits,IntKind.signed]
simp
omega}
theorem wl {h:ah} {b:ByteArray} (hb:b.size≤140737488355328):FW env 49 [.string b] h fun r h'=>r = .bool (bJ b)∧h'=h:=by{
refine fe Tryz.func49 ?_;simp only[push_cast]
by_cases q1:0<b.size
·have e1:¬ b=⟨#[]⟩:=fun e=>by rw[jd] at e;omega
 by_cases q2:b.size≤32
 ·have d2:decide ((b.size:Int)≤32)=true:=decide_eq_true om
  obtain⟨c,hc,hcn⟩:=kD q1
  have hcl:c.toNat<256:=c.toNat_lt
  have e4:IntKind.i32.wrap (bn b 0:Int)=(bn b 0:Int):=wrap_i32 om om
  refine ox e1 d2 hc hcn e4 ?_
  refine zj Tryz.func122 ?_
  refine wG.mono ?_
  rintro _ h1 ⟨rfl,rfl⟩
  cases g:sP 65 90 (bn b 0:Int) with
  | false=>
    refine aB ?_
    refine ai ?_
    exact⟨_,ak,by simp [cD,bJ,g],rfl⟩
  | true=>
    refine aB ?_
    refine zj Tryz.func123 ?_
    refine (LH hb).mono ?_
    rintro _ h1 ⟨⟨k,hk,rfl⟩,rfl⟩
    have e5:=hk.eq
    refine aG e5 ?_
    refine ai ?_
    exact⟨_,ak,by simp [cD,bJ,q1,q2,g],rfl⟩
 ·have d2:decide ((b.size:Int)≤32)=false:=decide_eq_false om
  refine fM e1 d2 ?_
  refine ai ?_
  exact⟨_,ak,by simp [cD,bJ,q2],rfl⟩
·have e1:b=⟨#[]⟩:=jd.2 om
 refine aG e1 ?_
 refine ai ?_
 exact⟨_,ak,by simp [cD,bJ,q1],rfl⟩}
structure gD where
 kind:Int
 prod:Int
 mask:Int
 al:List Int
 deriving DecidableEq
def bh (h:ah) (v:Value) (l:List ByteArray):Prop:=bW h v l.length (l.map .string) 9 16
def fm (h:ah) (v:Value) (l:List gD):Prop:=
 ∃ us:List Value,us.length=l.length∧bW h v l.length ((l.zip us).flatMap fun p=>[i64 p.1.kind,i64 p.1.prod,i64 p.1.mask,p.2]) 67 48∧∀ (i:Nat) (r:gD) (u:Value),l[i]? = some r→us[i]? = some u→si h u r.al
theorem bh.mono {h h':ah} {v:Value} {l:List ByteArray} (hr:bh h v l) (hp:h <+: h'):bh h' v l:=bW.mono hr hp
theorem fm.mono {h h':ah} {v:Value} {l:List gD} (hr:fm h v l) (hp:h <+: h'):fm h' v l:=by
 obtain⟨us,hl,hs,hu⟩:=hr
 exact⟨us,hl,hs.mono hp,fun i r u h1 h2=>(hu i r u h1 h2).mono hp⟩
theorem bh.form {h:ah} {v:Value} {l:List ByteArray} (hr:bh h v l):∃ p c,v = .slice p l.length c:=bW.form hr
theorem fm.form {h:ah} {v:Value} {l:List gD} (hr:fm h v l):∃ p c,v = .slice p l.length c:=by
 obtain⟨_,_,hs,_⟩:=hr
 exact hs.form
theorem fm.le {h:ah} {v:Value} {l:List gD} (hr:fm h v l):l.length≤140737488355328:=by{
obtain⟨_,_,hs,_⟩:=hr
have:=hs.1
omega}
theorem bh.le {h:ah} {v:Value} {l:List ByteArray} (hr:bh h v l):l.length≤140737488355328:=by
 have:=hr.1
 omega
theorem bh.at {h:ah} {v:Value} {l:List ByteArray} (hr:bh h v l) {i:Nat} (hi:i<l.length) :
 ∃ id au own c cells,v = .slice (some ⟨id,0,some au⟩) l.length c∧h[id]? = some (.aj cells au own 9)∧cells[i]? = some (.string l[i]):=by
 obtain⟨id,au,own,c,rfl,hid⟩:=bW.at hr om
 exact⟨id,au,own,c,_,rfl,hid,by simp [hi]⟩
theorem E8 {l:List gD} {us:List Value} (hl:us.length=l.length) {i:Nat} (hi:i<l.length) :
 je ((l.zip us).flatMap fun p=>[i64 p.1.kind,i64 p.1.prod,i64 p.1.mask,p.2]) (i*4) 4=some [i64 l[i].kind,i64 l[i].prod,i64 l[i].mask,us[i]'(hl▸hi)]:=by
 refine bG (f:=fun p:gD×Value=>[i64 p.1.kind,i64 p.1.prod,i64 p.1.mask,p.2]) (fun _=>rfl) (l.zip us) i (l[i],us[i]'(hl▸hi)) ?_
 simp [List.getElem?_zip_eq_some,hi,hl▸hi]
theorem fm.at {h:ah} {v:Value} {l:List gD} (hr:fm h v l) {i:Nat} (hi:i<l.length) : ∃ id au own c cells p n c',v = .slice (some ⟨id,0,some au⟩) l.length c∧h[id]? = some (.aj cells au own 67)∧n=l[i].al.length ∧ je cells (i*4) 4=some [i64 l[i].kind,i64 l[i].prod,i64 l[i].mask,.slice p n c']∧si h (.slice p n c') l[i].al:=by{
obtain⟨us,hl,hs,hu⟩:=hr
obtain⟨id,au,own,c,rfl,hid⟩:=hs.at om
have hi':i<us.length:=hl▸hi
have hS:=hu i l[i] us[i] (by simp [hi]) (by simp [hi'])
obtain⟨p,c',hp⟩:=bW.form hS
refine⟨id,au,own,c,_,p,l[i].al.length,c',rfl,hid,rfl,?_,?_⟩
·rw[← hp]
 exact E8 hl hi
·rw[← hp]
 exact hS}
def vh (l:List ByteArray) (x:ByteArray) (r:Int):Prop:=(∃ (k:Nat) (hk:k<l.length),l[k]=x∧(∀ (i:Nat) (hi:i<k),l[i]'om≠x)∧r=k)∨((∀ (i:Nat) (hi:i<l.length),l[i]≠x)∧r = -1)
theorem vh.zB {l:List ByteArray} {x:ByteArray} {r r':Int} (h:vh l x r) (h':vh l x r'):r=r':=by{
rcases h with ⟨k,hk,e,hn,rfl⟩ | ⟨hn,rfl⟩
·rcases h' with ⟨k',hk',e',hn',rfl⟩ | ⟨hn',rfl⟩
 ·rcases (by omega:k<k'∨k=k'∨k'<k) with g|g|g
  ·exact absurd e (hn' k g)
  ·rw[g]
  ·exact absurd e' (hn k' g)
 ·exact absurd e (hn' k hk)
·rcases h' with ⟨k',hk',e',hn',rfl⟩ | ⟨hn',rfl⟩
 ·exact absurd e' (hn k' hk')
 ·rfl}
section
variable {h:ah} {vn:Value} {l:List ByteArray} {b:ByteArray}
def Aw (l:List ByteArray) (b:ByteArray) (i:Int):Prop:=if bJ b=true then vh l b i else i = -1
theorem Aw.zB {i j:Int} (h1:Aw l b i) (h2:Aw l b j):i=j:=by{
unfold Aw at h1 h2
split at h1
·rename_i q
 rw[if_pos q] at h2
 exact h1.zB h2
·rename_i q
 rw[if_neg q] at h2
 rw[h1,h2]}
def lA (h:ah) (v:Value) (fr:List gD) (l:List ByteArray):Prop:=
 ∃ (s0 s1:ByteArray) (p2 p3 p4 p5 p6 p9 p12 p13 p14:Option Addr) (n2 n3 n4 n5 n6 n9 Mk n13 n14 c2 c3 c4 c5 c6 c9 c12 c13 c14:Nat) (i7 i8:Int) (uf un:Value),v = .agg #[.string s0,.string s1,.slice p2 n2 c2,.slice p3 n3 c3,.slice p4 n4 c4,.slice p5 n5 c5,.slice p6 n6 c6,i64 i7,i64 i8,.slice p9 n9 c9,uf,un,.slice p12 Mk c12,.slice p13 n13 c13,.slice p14 n14 c14]∧fm h uf fr∧bh h un l
theorem lA.mono {h h':ah} {v:Value} {fr:List gD} {l:List ByteArray} (hr:lA h v fr l) (hp:h <+: h'):lA h' v fr l:=by{
obtain⟨s0,s1,p2,p3,p4,p5,p6,p9,p12,p13,p14,n2,n3,n4,n5,n6,n9,Mk,n13,n14,c2,c3,c4,c5,c6,c9,c12,c13,c14,i7,i8,uf,un,rfl,hf,hn⟩:=hr
obtain⟨pf,cf,rfl⟩:=hf.form
obtain⟨pn,cn,rfl⟩:=hn.form
exact⟨_,_,_,_,_,_,_,_,_,_,_,_,_,_,_,_,_,_,_,_,_,_,_,_,_,_,_,_,_,_,_,_,_,rfl,hf.mono hp,hn.mono hp⟩}
end
end Go.Proofs.YtmdmimkbpikmoaaGreat
namespace Go.Proofs.YtmdmimkbpikmoaaGreat
set_option maxRecDepth 20000
open Go.ChangeShapes Go.WideShapes Go.ChangeAt Go.RowKit Am Ty
def yN:List TypeId:=[43,28,34,35,67,36,9,41,22,51,4,49,56,3,54,52,23,80,82,
 24,112,25,114,26,85,83,136,32,63,61,65,39,37,70,38]
set_option maxRecDepth 100000 in
theorem AP:yN.all (o9 Tryz.prog yN)=true:=by kernel_rfl
theorem Lh {h:ah} {n:Nat} {vs:List Value} (k:nE Tryz.prog h n 9 vs):∃ s:ByteArray,vs=[.string s]∧s.size≤140737488355328:=by{
cases n with
| zero=>exact k.elim
| succ n=>
  unfold nE at k
  rw[show Tryz.prog.underlying 9=some .string by kernel_rfl] at k
  obtain⟨s,h1,h2⟩:=k
  exact⟨s,h1,Nat.le_trans h2 (by decide)⟩}
theorem II {α:Type} {f:α→Value}:∀ l:List α,l.flatMap (fun x=>[f x])=l.map f
 | []=>rfl
 | x :: l=>by rw[List.flatMap_cons,II l];rfl
theorem DT {h:ah} {n:Nat} {vs:List Value} (k:nE Tryz.prog h n 36 vs):∃ u l,vs=[u]∧bh h u l∧∀ s∈l,s.size≤140737488355328:=by{
cases n with
| zero=>exact k.elim
| succ n=>
  unfold nE at k
  rw[show Tryz.prog.underlying 36=some (.slice 9) by kernel_rfl] at k
  rcases k with rfl|rfl|⟨id,len,c,cells,rfl,hb,hid,he⟩
  ·exact⟨_,[],rfl,⟨by simp,.inl ⟨.inl rfl,rfl,rfl⟩⟩,by simp⟩
  ·exact⟨_,[],rfl,⟨by simp,.inl ⟨.inr rfl,rfl,rfl⟩⟩,by simp⟩
  ·obtain⟨l,rfl,rfl,hq⟩:=Ej (f:=fun s=>[Value.string s]) (Q:=fun s=>s.size≤140737488355328) (fun vs h=>Lh h) he
   rw[show Tryz.prog.bytesOf 9=16 by kernel_rfl] at hb
   rw[II] at hid
   exact⟨_,l,rfl,⟨Nat.le_trans hb (by decide),.inr ⟨id,0,false,c,rfl,hid⟩⟩,hq⟩}
structure Sym where
 kind:Int
 text:ByteArray
 set:aZ
 name:ByteArray
 sep:ByteArray
structure Prod where
 lex:Bool
 sort:ByteArray
 cons:ByteArray
 bracket:Bool
 al:List Sym
structure dT where
 assoc:Int
 cons:List ByteArray
structure eZ where
 sort:ByteArray
 set:aZ
structure dB where
 sort:ByteArray
 jO:ByteArray
inductive Item where
 | mk (kind:Int) (text:ByteArray) (n:Int) (bR:List Item)
def Item.kind:Item→Int | .mk k _ _ _=>k
def Item.text:Item→ByteArray | .mk _ t _ _=>t
def Item.n:Item→Int | .mk _ _ n _=>n
def Item.bR:Item→List Item | .mk _ _ _ l=>l
structure I0 where
 cons:ByteArray
 bR:List Item
structure b7 where
 start:ByteArray
 layout:ByteArray
 aa:List Prod
 ax:List (List dT)
 follows:List eZ
 an:List dB
 boxes:List I0
def cT {α:Type} (f:α→Value→List Value) (R:ah→Value→α→Prop) (et:TypeId) (b:Nat) (h:ah) (v:Value) (l:List α):Prop:=
 ∃ us:List Value,us.length=l.length∧bW h v l.length ((l.zip us).flatMap fun p=>f p.1 p.2) et b∧∀ (i:Nat) (x:α) (u:Value),l[i]? = some x→us[i]? = some u→R h u x
section
variable {α:Type} {f:α→Value→List Value} {R:ah→Value→α→Prop} {et:TypeId} {b:Nat} {h h':ah} {v:Value} {l:List α}
theorem cT.mono (hR:∀ u x,x∈l→R h u x→R h' u x) (hr:cT f R et b h v l) (hp:h <+: h'):cT f R et b h' v l:=by
 obtain⟨us,hl,hs,hu⟩:=hr
 exact⟨us,hl,hs.mono hp,fun i r u h1 h2=>hR _ _ (List.mem_of_getElem? h1) (hu i r u h1 h2)⟩
theorem cT.form (hr:cT f R et b h v l):∃ p c,v = .slice p l.length c:=by
 obtain⟨_,_,hs,_⟩:=hr
 exact hs.form
theorem cT.le (hr:cT f R et b h v l):l.length*b≤140737488355328:=by
 obtain⟨_,_,hs,_⟩:=hr
 exact hs.1
theorem cT.at {k:Nat} (hk:∀ x u,(f x u).length=k) (hr:cT f R et b h v l) {i:Nat} (hi:i<l.length) : ∃ id au own c cells u,v = .slice (some ⟨id,0,some au⟩) l.length c∧h[id]? = some (.aj cells au own et)∧je cells (i*k) k=some (f l[i] u)∧R h u l[i]:=by{
obtain⟨us,hl,hs,hu⟩:=hr
obtain⟨id,au,own,c,rfl,hid⟩:=hs.at om
have hi':i<us.length:=hl▸hi
refine⟨id,au,own,c,_,us[i],rfl,hid,?_,hu i l[i] us[i] (by simp [hi]) (by simp [hi'])⟩
refine bG (f:=fun p:α×Value=>f p.1 p.2) (fun _=>hk _ _) (l.zip us) i (l[i],us[i]) ?_
simp [List.getElem?_zip_eq_some,hi,hl▸hi]}
theorem cT.nil:cT f R et b h (.slice none 0 0) []:=⟨[],rfl,⟨by simp,.inl ⟨.inl rfl,rfl,rfl⟩⟩,fun i r u h=>by simp at h⟩
end
abbrev vN:Nat:=140737488355328
def Sym.cells (s:Sym):List Value:=[i64 s.kind,.string s.text,u64 s.set.a,u64 s.set.b,u64 s.set.c,u64 s.set.d,.string s.name,.string s.sep]
def eZ.cells (s:eZ):List Value:=[.string s.sort,u64 s.set.a,u64 s.set.b,u64 s.set.c,u64 s.set.d]
def dB.cells (s:dB):List Value:=[.string s.sort,.string s.jO]
structure Ey (s:Sym):Prop where
 text:s.text.size≤vN
 name:s.name.size≤vN
 sep:s.sep.size≤vN
 set:du s.set
structure ui (p:Prod):Prop where
 sort:p.sort.size≤vN
 cons:p.cons.size≤vN
 al:∀ s∈p.al,Ey s
def fV (h:ah) (v:Value) (l:List Sym):Prop:=bW h v l.length (l.flatMap Sym.cells) 56 88
def eP:ah→Value→List Prod→Prop:=cT (fun p u=>[.bool p.lex,.string p.sort,.string p.cons,.bool p.bracket,u]) (fun h u p=>fV h u p.al) 51 72
def eR:ah→Value→List dT→Prop:=cT (fun p u=>[i64 p.assoc,u]) (fun h u p=>bh h u p.cons) 82 32
def kN:ah→Value→List (List dT)→Prop:=cT (fun _ u=>[u]) (fun h u p=>eR h u p) 80 24
def tM (h:ah) (v:Value) (l:List eZ):Prop:=bW h v l.length (l.flatMap eZ.cells) 112 48
def tR (h:ah) (v:Value) (l:List dB):Prop:=bW h v l.length (l.flatMap dB.cells) 114 32
inductive b9 (h:ah):Value→List Item→Prop where
 | mk {v:Value} {l:List Item} (us:List Value):us.length=l.length→bW h v l.length ((l.zip us).flatMap fun p=>[i64 p.1.kind,.string p.1.text,i64 p.1.n,p.2]) 136 56→(∀ (i:Nat) (x:Item) (u:Value),l[i]? = some x→us[i]? = some u→b9 h u x.bR)→b9 h v l
theorem b9.iff {h:ah} {v:Value} {l:List Item}:b9 h v l↔cT (fun p u=>[i64 p.kind,.string p.text,i64 p.n,u]) (fun h u p=>b9 h u p.bR) 136 56 h v l:=
 ⟨fun k=>by cases k with|mk us h1 h2 h3=>exact⟨us,h1,h2,h3⟩,fun ⟨us,h1,h2,h3⟩=>.mk us h1 h2 h3⟩
def mB:ah→Value→List I0→Prop:=cT (fun p u=>[.string p.cons,u]) (fun h u p=>b9 h u p.bR) 85 40
def b7.val (d:b7) (up uc uf ur ub:Value):List Value:=[.string d.start,.string d.layout,up,uc,uf,ur,ub]
structure bK (h:ah) (d:b7) (up uc uf ur ub:Value):Prop where
 aa:eP h up d.aa
 ax:kN h uc d.ax
 follows:tM h uf d.follows
 an:tR h ur d.an
 boxes:mB h ub d.boxes
theorem bK.form {h:ah} {d:b7} {up uc uf ur ub:Value} (k:bK h d up uc uf ur ub):∃ p1 c1 p2 c2 p3 c3 p4 c4 p5 c5,up = .slice p1 d.aa.length c1∧uc = .slice p2 d.ax.length c2∧uf = .slice p3 d.follows.length c3∧ur = .slice p4 d.an.length c4∧ub = .slice p5 d.boxes.length c5∧d.aa.length≤140737488355328∧d.ax.length≤140737488355328∧d.follows.length≤140737488355328∧d.an.length≤140737488355328∧d.boxes.length≤140737488355328:=by{
obtain⟨p1,c1,rfl⟩:=cT.form k.aa
obtain⟨p2,c2,rfl⟩:=cT.form k.ax
obtain⟨p3,c3,rfl⟩:=bW.form k.follows
obtain⟨p4,c4,rfl⟩:=bW.form k.an
obtain⟨p5,c5,rfl⟩:=cT.form k.boxes
exact⟨p1,c1,p2,c2,p3,c3,p4,c4,p5,c5,rfl,rfl,rfl,rfl,rfl,by have:=cT.le k.aa;omega,by have:=cT.le k.ax;omega,by have:=k.follows.1;omega,by have:=k.an.1;omega,by have:=cT.le k.boxes;omega⟩}
def C5 (h:ah) (v:Value) (d:b7):Prop:=∃ up uc uf ur ub,v = .agg (d.val up uc uf ur ub).toArray∧bK h d up uc uf ur ub
structure tJ (d:b7):Prop where
 start:d.start.size≤vN
 layout:d.layout.size≤vN
 aa:∀ p∈d.aa,ui p
 ax:∀ c∈d.ax,∀ g∈c,∀ s∈g.cons,s.size≤vN
 follows:∀ f∈d.follows,f.sort.size≤vN∧du f.set
 an:∀ f∈d.an,f.sort.size≤vN∧f.jO.size≤vN
 boxes:∀ f∈d.boxes,f.cons.size≤vN
theorem b9.mono {h h':ah} {v:Value} {l:List Item} (k:b9 h v l) (hp:h <+: h'):b9 h' v l:=by
 induction k with
 | mk us h1 h2 _ ih=>exact .mk us h1 (h2.mono hp) ih
theorem fV.mono {h h':ah} {v:Value} {l:List Sym} (hr:fV h v l) (hp:h <+: h'):fV h' v l:=bW.mono hr hp
theorem eP.mono {h h':ah} {v:Value} {l:List Prod} (hr:eP h v l) (hp:h <+: h'):eP h' v l:=cT.mono (fun _ _ _ k=>fV.mono k hp) hr hp
theorem eR.mono {h h':ah} {v:Value} {l:List dT} (hr:eR h v l) (hp:h <+: h'):eR h' v l:=cT.mono (fun _ _ _ k=>bh.mono k hp) hr hp
theorem kN.mono {h h':ah} {v:Value} {l:List (List dT)} (hr:kN h v l) (hp:h <+: h'):kN h' v l:=cT.mono (fun _ _ _ k=>eR.mono k hp) hr hp
theorem mB.mono {h h':ah} {v:Value} {l:List I0} (hr:mB h v l) (hp:h <+: h'):mB h' v l:=cT.mono (fun _ _ _ k=>b9.mono k hp) hr hp
theorem bK.mono {h h':ah} {d:b7} {up uc uf ur ub:Value} (hr:bK h d up uc uf ur ub) (hp:h <+: h'):bK h' d up uc uf ur ub:=
 ⟨hr.aa.mono hp,hr.ax.mono hp,bW.mono hr.follows hp,bW.mono hr.an hp,hr.boxes.mono hp⟩
theorem C5.mono {h h':ah} {v:Value} {d:b7} (hr:C5 h v d) (hp:h <+: h'):C5 h' v d:=by
 obtain⟨up,uc,uf,ur,ub,rfl,k⟩:=hr
 exact⟨up,uc,uf,ur,ub,rfl,k.mono hp⟩
end Go.Proofs.YtmdmimkbpikmoaaGreat
namespace Go.Proofs.YtmdmimkbpikmoaaGreat
set_option maxRecDepth 20000
open Go.RowKit Am Ty
mutual
def PW:Item→Nat
 | .mk _ _ _ l=>kB l
def kB:List Item→Nat
 | []=>0
 | x :: r=>1+PW x+kB r
end
theorem HF (x:Item):PW x=kB x.bR:=by cases x;rfl
def xG (l:List Item):Nat:=(l.map fun x=>kB x.bR).sum
theorem mC:∀ l:List Item,kB l=l.length+xG l
 | []=>rfl
 | x :: l=>by
   unfold kB
   rw[mC l,HF]
   simp only[xG,List.length_cons,List.map_cons,List.sum_cons]
   omega
theorem A4 {l:List Item} {k:Nat} (hk:k<l.length):xG (l.take (k+1))=xG (l.take k)+kB l[k].bR:=by{
unfold xG
rw[List.take_succ_eq_append_getElem hk,List.map_append,List.sum_append]
simp only[List.map_cons,List.map_nil,List.sum_cons,List.sum_nil,Nat.add_zero]}
theorem HN {l:List Item} {k:Nat}:xG (l.take k)≤xG l:=by{
unfold xG
conv=>rhs;rw[← List.take_append_drop k l,List.map_append,List.sum_append]
omega}
structure Rc (c:Nat) (m:Int):Prop where
 eq:c≤1000000000000→0≤m∧m≤c∧(m=c∨160<m)
theorem Rc.add {c c' t:Nat} {m m':Int} (h:Rc c m) (h':Rc c' m') (hle:m≤160) (e:t=c+c'):Rc t (IntKind.i64.wrap (m+m')):=by{
subst e
refine⟨fun hc=>?_⟩
obtain⟨a1,a2,a3⟩:=h.eq om
obtain⟨b1,b2,b3⟩:=h'.eq om
rw[ay om om]
omega}
section
variable {h:ah}
theorem xj {l:List Item} {us:List Value} (hl:us.length=l.length) {i:Nat} (hi:i<l.length) :
 je ((l.zip us).flatMap fun p=>[i64 p.1.kind,.string p.1.text,i64 p.1.n,p.2]) (i*4) 4=some [i64 l[i].kind,.string l[i].text,i64 l[i].n,us[i]'(hl▸hi)]:=by
 refine bG (f:=fun p:Item×Value=>[i64 p.1.kind,.string p.1.text,i64 p.1.n,p.2]) (fun _=>rfl) (l.zip us) i (l[i],us[i]'(hl▸hi)) ?_
 simp [List.getElem?_zip_eq_some,hi,hl▸hi]
end
def dp {α:Type} (f:α→Nat) (l:List α):Nat:=(l.map f).sum
theorem oc {α:Type} {f:α→Nat} {l:List α} {k:Nat} (hk:k<l.length):dp f (l.take (k+1))=dp f (l.take k)+f l[k]:=by{
unfold dp
rw[List.take_succ_eq_append_getElem hk,List.map_append,List.sum_append]
simp only[List.map_cons,List.map_nil,List.sum_cons,List.sum_nil,Nat.add_zero]}
theorem qd {α:Type} {f:α→Nat} {l:List α} {k:Nat}:dp f (l.take k)≤dp f l:=by{
unfold dp
conv=>rhs;rw[← List.take_append_drop k l,List.map_append,List.sum_append]
omega}
theorem qS {α:Type} {f:α→Nat}:∀ {l:List α} {x:α},x∈l→f x≤dp f l
 | y :: l,x,h=>by
   simp only[dp,List.map_cons,List.sum_cons]
   rcases List.mem_cons.1 h with rfl|h
   ·omega
   ·have:=qS (f:=f) h
    unfold dp at this
    omega
def CF (c:List dT):Nat:=c.length+dp (fun g=>g.cons.length) c
def cZ (d:b7):Nat:=d.aa.length+d.ax.length+d.follows.length+d.an.length+d.boxes.length+dp (fun p=>p.al.length) d.aa+dp CF d.ax+dp (fun b=>kB b.bR) d.boxes
structure Dy (c:Nat) (m:Int):Prop where
 lo:0≤m
 hi:m≤1000000000000000
 eq:m=c∨(160<m∧160<c)
theorem Dy.add {c t c':Nat} {m:Int} (h:Dy c m) (hm:m≤160) (ht:t≤140737488355328) (e:c'=c+t):Dy c' (m+t):=by{
subst e
obtain⟨a,b,e⟩:=h
exact⟨by omega,by omega,by omega⟩}
theorem Dy.wr {c:Nat} {m:Int} {t:Nat} (h:Dy c m) (ht:t≤140737488355328):IntKind.i64.wrap (m+t)=m+t:=by
 obtain⟨a,b,e⟩:=h
 exact ay om om
section
variable {h:ah} {d:b7} {up uc uf ur ub:Value}
end
end Go.Proofs.YtmdmimkbpikmoaaGreat
namespace Go.Proofs.YtmdmimkbpikmoaaGreat.Am
open Go.RowKit
def nU (ds:List Nat):Fr→Bool
 | []=>true
 | (k,_) :: r=>!ds.contains k&&nU ds r
theorem iN {ds:List Nat}:∀ {fr:Fr},nU ds fr=true→gL ds fr=fr
 | [],_=>rfl
 | (k,v) :: r,h=>by
   unfold nU at h
   rw[Bool.and_eq_true,Bool.not_eq_true'] at h
   unfold gL
   rw[h.1,iN h.2]
   rfl
section
variable {N:Env} {ops:Array Oper}
theorem bi {id:Nat} {fr:Fr} {h:ah} {Q:AX→St→Prop} (L:List (List Nat)) (act:List Nat) (hs:List ah) (resL:List fW) (frF:Fr) (hm:N.P.follows .mixedOrders=true) (hc:uG ops L act=true) (ha:act.all (fun a=>decide (a<ops.size))=true) (hb:nU (dstsOf ops) fr=true)
 (hS:az N ops L act resL (h :: hs) fr 0 ops.toList) (ht:za ops resL=true) (hF:gI ops resL fr frF) (k:Q .normal ⟨frF,[],qH (h :: hs) act.length⟩):CW N (.region id ops true) ⟨fr,[],h⟩ Q:=
 Ca L act (h :: hs) resL fr frF _ hm hc ha ht rfl rfl (iN hb) hS hF k
theorem bu {id:Nat} {fr:Fr} {h:ah} {Q:AX→St→Prop} (L:List (List Nat)) (resL:List fW) (frF:Fr) (hm:N.P.follows .mixedOrders=true) (hc:uG ops L []=true) (hb:nU (dstsOf ops) fr=true)
 (hS:aR N ops L resL fr h 0 ops.toList) (ht:za ops resL=true) (hF:gI ops resL fr frF) (k:Q .normal ⟨frF,[],h⟩):CW N (.region id ops true) ⟨fr,[],h⟩ Q:=
 Bz L resL fr frF hm hc ht rfl (iN hb) hS hF k
end
def SP (N:Env):De→Prop
 | .ops all (o :: r) s sF=>∃ s',Ev N (.ops all [o] s s')∧Ev N (.ops all r s' sF)
 | _=>True
theorem Ev.Rt {N:Env} {j:De} (h:Ev N j):SP N j:=by{
induction h
case nW hw h _=>exact⟨_,.nW hw (.nil _ _),h⟩
case rU hw hv h _=>exact⟨_,.rU hw hv (.nil _ _),h⟩
case xd hw hd he hne h _=>exact⟨_,.xd hw hd he hne (.nil _ _),h⟩
case uW hg hv hd h _=>exact⟨_,.uW hg hv hd (.nil _ _),h⟩
case pQ hg he hd hne h _=>exact⟨_,.pQ hg he hd hne (.nil _ _),h⟩
case sV hw hd hb h _=>exact⟨_,.sV hw hd hb (.nil _ _),h⟩
case xV hw hd hb h _=>exact⟨_,.xV hw hd hb (.nil _ _),h⟩
case nH hw hb h _=>exact⟨_,.nH hw hb (.nil _ _),h⟩
case nN hw hb h _=>exact⟨_,.nN hw hb (.nil _ _),h⟩
case A7 hw hb h _=>exact⟨_,.A7 hw hb (.nil _ _),h⟩
case xh hw ho ht hp hb hx hv hq hd h _=>exact⟨_,.xh hw ho ht hp hb hx hv hq hd (.nil _ _),h⟩
case ov hw ho ht ha hid hx hv hq hd h _=>exact⟨_,.ov hw ho ht ha hid hx hv hq hd (.nil _ _),h⟩
case Fm hw ho ht he hx hob hk h _=>exact⟨_,.Fm hw ho ht he hx hob hk (.nil _ _),h⟩
case At hw hd hb h _=>exact⟨_,.At hw hd hb (.nil _ _),h⟩
case uP hw hd ho hu h _=>exact⟨_,.uP hw hd ho hu (.nil _ _),h⟩
case Da hs h ih=>obtain⟨s',k1,k2⟩:=ih;exact⟨s',.Da hs k1,k2⟩
case zV hf hh he h ih=>obtain⟨s',k1,k2⟩:=ih;exact⟨s',.zV hf hh he k1,k2⟩
case ud hw ho hu h _=>exact⟨_,.ud hw ho hu (.nil _ _),h⟩
case uh hw ho hu hkd hx hid hk hv hkk hmk hd h _=>exact⟨_,.uh hw ho hu hkd hx hid hk hv hkk hmk hd (.nil _ _),h⟩
case xy hw ho hu hkd hz hx hid hk hkk hmk hm h _=>exact⟨_,.xy hw ho hu hkd hz hx hid hk hkk hmk hm (.nil _ _),h⟩
case xf hw ho hx hid hi hv hj hd h _=>exact⟨_,.xf hw ho hx hid hi hv hj hd (.nil _ _),h⟩
case nX hw ho hu h2 ht h3 h4 hx hi h5 h6 h7 h _=>exact⟨_,.nX hw ho hu h2 ht h3 h4 hx hi h5 h6 h7 (.nil _ _),h⟩
case tG hw ho hu h2 ht h3 h4 hx hid h8 hi h5 h6 h _=>exact⟨_,.tG hw ho hu h2 ht h3 h4 hx hid h8 hi h5 h6 (.nil _ _),h⟩
case qQ hw ho hu h2 ht hx hy h _=>exact⟨_,.qQ hw ho hu h2 ht hx hy (.nil _ _),h⟩
case lB hw hd ho hu hx hid h _=>exact⟨_,.lB hw hd ho hu hx hid (.nil _ _),h⟩
case jL hw hd ho hu hx h _=>exact⟨_,.jL hw hd ho hu hx (.nil _ _),h⟩
case mM hw ho hx hp hc h _=>exact⟨_,.mM hw ho hx hp hc (.nil _ _),h⟩
case mH hw ho hx hp h _=>exact⟨_,.mH hw ho hx hp (.nil _ _),h⟩
case pO hw ho hx hid hl hf hkv hp h _=>exact⟨_,.pO hw ho hx hid hl hf hkv hp (.nil _ _),h⟩
case pG hw ho hx hid hl hf h _=>exact⟨_,.pG hw ho hx hid hl hf (.nil _ _),h⟩
case pK hw ho hu h2 ht h3 h4 h5 hx hy h6 h7 h _=>exact⟨_,.pK hw ho hu h2 ht h3 h4 h5 hx hy h6 h7 (.nil _ _),h⟩
case sB hw ho hu h2 ht h3 h4 h5 hx hid h8 hy h6 h _=>exact⟨_,.sB hw ho hu h2 ht h3 h4 h5 hx hid h8 hy h6 (.nil _ _),h⟩
case um hw ho hu h2 ht h3 h4 h5 hx hy h6 h _=>exact⟨_,.um hw ho hu h2 ht h3 h4 h5 hx hy h6 (.nil _ _),h⟩
case xT hw ho hu h2 h3 ht h4 hx h5 h _=>exact⟨_,.xT hw ho hu h2 h3 ht h4 hx h5 (.nil _ _),h⟩
case ul hw ho hu ht h1 hx hid hy h2 h3 h4 h _=>exact⟨_,.ul hw ho hu ht h1 hx hid hy h2 h3 h4 (.nil _ _),h⟩
case ou hw ho hc ha hf hn hb he h _ _=>exact⟨_,.ou hw ho hc ha hf hn hb he (.nil _ _),h⟩
all_goals trivial}
theorem Ev.cut {N:Env} {all:Array Oper} {o:Oper} {r:List Oper} {s sF:St} (h:Ev N (.ops all (o :: r) s sF)):∃ s',Ev N (.ops all [o] s s')∧Ev N (.ops all r s' sF):=h.Rt
def IB (ops:Array Oper) (L:List (List Nat)) (n:Nat):Bool:=decide (n<ops.size)&&(List.range ops.size).all fun i=>decide (i<n)||(List.range i).all fun j=>(fw L i).contains j
section
variable {N:Env} {ops:Array Oper} {L:List (List Nat)} {act:List Nat} {s0 sF:St} {res:Nat→fW} {Hs:Nat→ah} {n:Nat}
def I6 (N:Env) (ops:Array Oper) (act:List Nat) (s0:St) (res:Nat→fW) (Hs:Nat→ah) (n:Nat) (sF:St) (S:Array Bool) (t:St):Prop:=
 (uk N ops act s0 res Hs S t∧∀ j,n≤j→S.getD j false=false) ∨
 (S.size=ops.size∧∃ m,n<m∧m≤ops.size∧(∀ j,j<ops.size→(S.getD j false=true↔j<m))∧Ev N (.ops ops (ops.toList.drop m) t sF))
theorem I6.step (C:qw ops L act) (hn:IB ops L n=true) (hT:∀ j sl off,res j = .ep sl off→∀ i,bA ops i≠some sl) (hstep:∀ i o k,i<n→ops[i]? = some o→k≤act.length→fP L act i k=true→∃ V,View ops L s0 res i V∧V.h=Hs k∧One N ops o V (res i) (Hs (if i∈act then k+1 else k))) (hact:∀ a∈act,a<n) {frP:Fr} (hF:∀ p∈frP,((∀ j,bA ops j≠some p.1)∧aS s0.fr p.1=p.2)∨∃ j,j<n∧bA ops j=some p.1∧res j = .sl p.2) (hE:Ev N (.ops ops (ops.toList.drop n) ⟨frP,[],Hs act.length⟩ sF)) {S:Array Bool} {t:St} {i:Nat} {o:Oper} (I:I6 N ops act s0 res Hs n sF S t) (hi:i∈Region.ready .any ops S) (ho:ops[i]? = some o) : ∃ s',Ev N (.ops ops [o] t s')∧I6 N ops act s0 res Hs n sF (S.setIfInBounds i true) s':=by{
unfold IB at hn
rw[Bool.and_eq_true,decide_eq_true_eq,List.all_eq_true] at hn
obtain⟨hns,htl⟩:=hn
have htl':∀ i,i<ops.size→n≤i→∀ j,j<i→j∈fw L i:=fun i hi hni j hj=>by
 have:=htl i (List.mem_range.2 hi)
 rw[Bool.or_eq_true,decide_eq_true_eq] at this
 rcases this with h|h
 ·omega
 ·rw[List.all_eq_true] at h
  exact List.contains_iff_mem.1 (h j (List.mem_range.2 hj))
obtain⟨hun,oi,hoi,hall⟩:=mem_ready.1 hi
obtain rfl:oi=o:=Option.some.inj (hoi.symm.trans ho)
have hlt:i<ops.size:=(Array.getElem?_eq_some_iff.1 ho).1
have hnot:S.getD i false=false:=getD_both hun
have hr:∀ o,ops[i]? = some o→∀ e∈o.after,Region.binds .any e=true→S.getD e.on false=true:=fun o' ho' e he hb=>by
 obtain rfl:oi=o':=Option.some.inj (ho.symm.trans ho')
 exact hall e he hb
have hdrop:∀ m,ops[m]? = some oi→ops.toList.drop m=oi :: ops.toList.drop (m+1):=fun m hm=>by
 have h1:m<ops.toList.length:=by simpa using (Array.getElem?_eq_some_iff.1 hm).1
 rw[List.drop_eq_getElem_cons h1]
 congr 1
 have:=(Array.getElem?_eq_some_iff.1 hm).2
 simpa using this
rcases I with ⟨I,hlow⟩ | ⟨hsz,m,hm1,hm2,hS,hEv⟩
·by_cases hin:i<n
 ·obtain⟨s',k1,k2⟩:=I.step C hT (fun o k=>hstep i o k hin) hi ho
  refine⟨s',k1,.inl ⟨k2,fun j hj=>?_⟩⟩
  cases hb:(S.setIfInBounds i true).getD j false with
  | false=>rfl
  | true=>
    rcases (ew (by rw[I.size];exact hlt)).1 hb with rfl|h
    ·omega
    ·rw[hlow j hj] at h;cases h
 ·have hanc:∀ j,j<i→S.getD j false=true:=fun j hj=>jl C I.size I.closed i j hlt hr (htl' i hlt (by omega) j hj)
  have hin':i=n:=by
   rcases Nat.lt_or_ge n i with h|h
   ·have:=hanc n h
    rw[hlow n (Nat.le_refl _)] at this
    cases this
   ·omega
  subst hin'
  have hsub:oG frP t.fr:=fun p hp=>by
   rcases hF p hp with ⟨h1,h2⟩ | ⟨j,h0,h1,h2⟩
   ·exact (I.out p.1 h1).1.trans h2
   ·exact (I.pe j p.1 p.2 h1 (hanc j h0) h2).1
  have hh:Hs act.length=t.h:=by
   obtain⟨k,hk,hh,hpre⟩:=I.pre
   have:k=act.length:=by
    rcases Nat.lt_or_ge k act.length with h|h
    ·have:=(hpre k h).1 (hanc _ (hact _ (by simp [h])))
     omega
    ·omega
   rw[hh,this]
  rw[hdrop i ho] at hE
  obtain⟨s',k1,k2⟩:=Ev.cut (.zV (s0:=⟨frP,[],Hs act.length⟩) hsub hh rfl hE)
  refine⟨s',k1,.inr ⟨by simp [I.size],i+1,by omega,by omega,fun j hj=>?_,k2⟩⟩
  rw[ew (by rw[I.size];exact hlt)]
  constructor
  ·rintro (rfl|h)
   ·omega
   ·rcases Nat.lt_or_ge j i with h2|h2
    ·omega
    ·rw[hlow j h2] at h;cases h
  ·intro h
   rcases Nat.lt_or_ge j i with h2|h2
   ·exact .inr (hanc j h2)
   ·exact .inl (by omega)
·have him:m≤i:=by
  rcases Nat.lt_or_ge i m with h|h
  ·have:=(hS i hlt).2 h
   rw[hnot] at this
   cases this
  ·exact h
 have hcl:∀ j o,ops[j]? = some o→S.getD j false=true→∀ e∈o.after,Region.binds .any e=true→S.getD e.on false=true:=fun j o hj hl e he hb=>by
  have h1:=C.low j o hj e he hb
  have h2:=(hS j (Array.getElem?_eq_some_iff.1 hj).1).1 hl
  exact (hS e.on (by omega)).2 (by omega)
 have hie:i=m:=by
  rcases Nat.lt_or_ge m i with h|h
  ·have:=jl C hsz hcl i m hlt hr (htl' i hlt (by omega) m h)
   have:=(hS m (by omega)).1 this
   omega
  ·omega
 subst hie
 rw[hdrop i ho] at hEv
 obtain⟨s',k1,k2⟩:=hEv.cut
 refine⟨s',k1,.inr ⟨by simp [hsz],i+1,by omega,by omega,fun j hj=>?_,k2⟩⟩
 rw[ew (by rw[hsz];exact hlt),hS j hj]
 omega}
end
section
variable {N:Env} {ops:Array Oper}
def Gg (ops:Array Oper) (resL:List fW) (n:Nat) (fr:Fr):Fr→Prop
 | []=>True
 | (x,v) :: r=>((x∉dstsOf ops∧aS fr x=v)∨aS (iC ops resL (List.range n)) x=v∧v≠.dy)∧Gg ops resL n fr r
theorem Gg.at {resL:List fW} {n:Nat} {fr:Fr}:∀ {frF:Fr} {p:Nat×fK},Gg ops resL n fr frF→p∈frF→((∀ j,bA ops j≠some p.1)∧aS fr p.1=p.2)∨∃ j,j<n∧bA ops j=some p.1∧i4 resL j = .sl p.2
 | [],p,_,h=>by cases h
 | (x,v) :: r,p,⟨h1,h2⟩,h=>by
   rcases List.mem_cons.1 h with rfl|h
   ·rcases h1 with ⟨h3,h4⟩ | ⟨h3,h4⟩
    ·exact .inl ⟨fun j hj=>h3 (gK hj),h4⟩
    ·rcases iV (ops:=ops) (resL:=resL) (x:=x) (l:=List.range n) with h|⟨j,k1,k2,k3⟩
     ·exact (h4 (h3.symm.trans h)).elim
     ·exact .inr ⟨j,List.mem_range.1 k2,k1,by rw[jF k3,h3]⟩
   ·exact Gg.at h2 h
theorem eO.T4 {L:List (List Nat)} {act:List Nat} {resL:List fW} {hs:List ah} {fr:Fr} {n:Nat} {i:Nat} {o:Oper} (h:eO N ops L act resL hs fr 0 (ops.toList.take n)) (hi:i<n) (ho:ops[i]? = some o):fE N ops L act resL hs fr i o (List.range (act.length+1)):=by
 have:=eO.at (j:=i) h (by rw[List.getElem?_take,if_pos hi];simpa using ho)
 rwa [Nat.zero_add] at this
end
attribute [push_cast] D8
end Go.Proofs.YtmdmimkbpikmoaaGreat.Am
namespace Go.Proofs.YtmdmimkbpikmoaaGreat
set_option maxRecDepth 20000
open Go.RowKit Am Ty
theorem gN {t e:TypeId} {ti:TI} {v:Value} {n:Nat} {cells cs:List Value} {h hk:ah} (hu:env.P.underlying t=some (.slice e)) (ht:ar env.P e=some ti) (hs0:0<ti.size) (hz:(ti.zero.map fun z=>z.cells.size)=some ti.size) (G:aK h hk v n cells e) (hp:h <+: hk) (hl:cells.length=n*ti.size) (hc:cs.length=ti.size) (hb:(n+1)*ti.bytes≤140737488355328) (hn:n+1≤140737488355328):∃ p c h', (∀ (all:Array Oper) (o:Oper) (s:St) (x:Operand) (y:Nat),s.h=hk→aE all o s=some true→o.op = .call { callee:=.builtin .append,args:=#[x,.tmp y],argTypes:=#[t,t] }→ev s x=some v→aS s.fr y = .nj cs 1 → One env all o s (.sl (.val (.slice p (n+1) c))) h') ∧ aK h h' (.slice p (n+1) c) (n+1) (cells++cs) e∧h <+: h'∧(∀ j o,bX v j=false→hk[j]? = some o→h'[j]? = some o)∧(∀ x,bX (.slice p (n+1) c) x=true→bX v x=true∨x=hk.length)∧hk.length≤h'.length:=by{
have hi:∀ (s:St) (y:Nat),aS s.fr y = .nj cs 1→ct s s.h ti.size (.tmp y)=some (cs,1):=fun s y hy=>by simp only[ct,hy,hc,Nat.one_mul,if_true]
rcases G with ⟨rfl,rfl,rfl⟩ | ⟨id,au,h1,rfl,h3⟩
·refine⟨some ⟨hk.length,0,some 0⟩,1,hk++[av.aj cs 0 true e],fun all o s x y e hw ho hx hy=>?_,.inr ⟨hk.length,0,hp.length_le,rfl,aJ⟩,cS hp,fun j o _ h=>bo h,fun x hx=>?_,by simp⟩
 ·subst e
  exact .yJ hw ho hu rfl ht hs0 hz hx (hi s y hy) (by decide) (by simpa using hb) (by decide)
 ·simp only[bX,beq_iff_eq] at hx
  exact .inr hx.symm
·refine⟨some ⟨id,0,some (au+1)⟩,n+1,hk.set id (av.aj (cells++cs) (au+1) true e),fun all o s x y e hw ho hx hy=>?_,.inr ⟨id,au+1,h1,rfl,aw h3⟩,aY hp h1,fun j o hj h=>?_,fun x hx=>?_,by simp⟩
 ·subst e
  have:=One.Ko (N:=env) hw ho hu rfl ht hs0 hz hx h3 om (hi s y hy) hb hn
  rwa [List.take_of_length_le om] at this
 ·simp only[bX,beq_eq_false_iff_ne] at hj
  rw[aD hj]
  exact h
 ·simp only[bX] at hx ⊢
  exact .inl hx}
theorem BK {h:ah} {i j:Nat} {x y z:av} (hi:h[i]? = some x) (hj:h[j]? = some y) (hne:x≠y):(h.set i z)[j]? = some y:=by
 rw[aD (by rintro rfl;rw[hi] at hj;exact hne (Option.some.inj hj))]
 exact hj
theorem aK.obj {h hk:ah} {v:Value} {n:Nat} {cells:List Value} {et:TypeId} (g:aK h hk v n cells et) {j:Nat} (hj:bX v j=true):∃ au,hk[j]? = some (.aj cells au true et):=by{
rcases g with ⟨_,_,rfl⟩ | ⟨id,au,h1,rfl,h3⟩
·simp [bX] at hj
·simp only[bX,beq_iff_eq] at hj
 subst hj
 exact⟨au,h3⟩}
def fz (l:List (ByteArray×Int)):List (Value×Value):=l.map fun p=>(.string p.1,i64 p.2)
def ia:List (ByteArray×Int)→ByteArray→Option Int
 | [],_=>none
 | (k,v) :: r,x=>if x=k then some v else ia r x
def cW:List (ByteArray×Int)→ByteArray→Int→List (ByteArray×Int)
 | [],x,v=>[(x,v)]
 | (k,u) :: r,x,v=>if x=k then (k,v) :: r else (k,u) :: cW r x v
def dx (l:List (ByteArray×Int)) (x:ByteArray):Int:=(ia l x).getD 0
theorem mN (x:ByteArray):∀ l,gj (fz l) (.string x)=(ia l x).map i64
 | []=>rfl
 | (k,v) :: r=>by
   have ih:=mN x r
   unfold fz at ih ⊢
   simp only[List.map_cons,gj,ia,oU,mw,decide_eq_true_eq]
   split
   ·rfl
   ·exact ih
theorem dJ (x:ByteArray) (v:Int):∀ l,iE (fz l) (.string x) (i64 v)=fz (cW l x v)
 | []=>rfl
 | (k,u) :: r=>by
   have ih:=dJ x v r
   unfold fz at ih ⊢
   simp only[List.map_cons,iE,cW,oU,mw,decide_eq_true_eq]
   split
   ·rfl
   ·rw[ih];rfl
theorem lh (x y:ByteArray) (v:Int):∀ l,ia (cW l x v) y=if y=x then some v else ia l y
 | []=>rfl
 | (k,u) :: r=>by
   have ih:=lh x y v r
   unfold cW
   by_cases h:x=k
   ·subst h
    rw[if_pos rfl]
    unfold ia
    by_cases hy:y=x
    ·rw[if_pos hy,if_pos hy]
    ·rw[if_neg hy,if_neg hy,if_neg hy]
   ·rw[if_neg h]
    unfold ia
    by_cases hy:y=k
    ·rw[if_pos hy,if_pos hy,if_neg (by rintro rfl;exact h hy)]
    ·rw[if_neg hy,if_neg hy,ih]
theorem eI (x y:ByteArray) (v:Int) (l:List (ByteArray×Int)):dx (cW l x v) y=if y=x then v else dx l y:=by{
unfold dx
rw[lh]
split<;>rfl}
theorem bm (l:List (ByteArray×Int)):ei eB (fz l)=true:=by{
unfold ei fz
rw[List.all_map,List.all_eq_true]
intro x _
rfl}
@[push_cast] theorem MO:jg 9=some eB:=rfl
@[push_cast] theorem Ms (x:ByteArray):eB (.string x)=true:=rfl
attribute [push_cast] bm qD mapOf zeroOf
theorem eT (l:List (ByteArray×Int)) (x:ByteArray):(gj (fz l) (.string x)=none∧dx l x=0)∨(gj (fz l) (.string x)=some (i64 (dx l x))):=by{
rw[mN]
unfold dx
cases ia l x with
| none=>exact .inl ⟨rfl,rfl⟩
| some v=>exact .inr rfl}
def w6 (l:List ByteArray) (s:ByteArray):Bool:=l.any fun t=>decide (t=s)
theorem cE {l:List ByteArray} {s:ByteArray}:w6 l s=true↔s∈l:=by{
unfold w6
simp only[List.any_eq_true,decide_eq_true_eq]
exact⟨fun ⟨_,h,e⟩=>e▸h,fun h=>⟨s,h,rfl⟩⟩}
def fD (l:List ByteArray) (p:Prod):List ByteArray:=if w6 l p.sort=true then l else l++[p.sort]
def aF (ps:List Prod):List ByteArray:=ps.foldl fD []
def dC (ps:List Prod) (s:ByteArray) (x:Bool):Bool:=ps.any fun p=>decide (p.sort=s)&&(p.lex == x)
def b6 (ps:List Prod) (s:ByteArray):Int:=(if dC ps s true=true then 1 else 0)+(if dC ps s false=true then 2 else 0)
theorem u5 (ps:List Prod) (p:Prod):aF (ps++[p])=fD (aF ps) p:=by{
unfold aF
rw[List.foldl_append]
rfl}
theorem tf {s:ByteArray}:∀ (ps:List Prod) (l:List ByteArray),s∈ps.foldl fD l↔s∈l∨∃ p∈ps,p.sort=s
 | [],l=>by simp
 | p :: ps,l=>by
   rw[List.foldl_cons,tf ps]
   unfold fD
   split
   ·rename_i h
    constructor
    ·rintro (h1|⟨q,hq,rfl⟩)
     ·exact .inl h1
     ·exact .inr ⟨q,List.mem_cons_of_mem _ hq,rfl⟩
    ·rintro (h1|⟨q,hq,rfl⟩)
     ·exact .inl h1
     ·rcases List.mem_cons.1 hq with rfl|hq
      ·exact .inl (cE.1 h)
      ·exact .inr ⟨q,hq,rfl⟩
   ·constructor
    ·rintro (h1|⟨q,hq,rfl⟩)
     ·rcases List.mem_append.1 h1 with h1|h1
      ·exact .inl h1
      ·exact .inr ⟨p,List.mem_cons_self,(List.mem_singleton.1 h1).symm⟩
     ·exact .inr ⟨q,List.mem_cons_of_mem _ hq,rfl⟩
    ·rintro (h1|⟨q,hq,rfl⟩)
     ·exact .inl (List.mem_append_left _ h1)
     ·rcases List.mem_cons.1 hq with rfl|hq
      ·exact .inl (List.mem_append_right _ (by simp))
      ·exact .inr ⟨q,hq,rfl⟩
theorem oV {ps:List Prod} {s:ByteArray}:s∈aF ps↔∃ p∈ps,p.sort=s:=by{
unfold aF
rw[tf]
simp}
theorem l8 {ps:List Prod} {s:ByteArray} {x:Bool}:dC ps s x=true↔∃ p∈ps,p.sort=s∧p.lex=x:=by
 unfold dC
 simp only[List.any_eq_true,Bool.and_eq_true,decide_eq_true_eq,beq_iff_eq]
theorem oM (ps:List Prod) (s:ByteArray):b6 ps s=0∨b6 ps s=1∨b6 ps s=2∨b6 ps s=3:=by
 unfold b6
 split<;>split<;>simp
theorem ss {ps:List Prod} {s:ByteArray}:b6 ps s=0↔s∉aF ps:=by{
rw[oV]
unfold b6
constructor
·rintro h ⟨p,hp,rfl⟩
 cases hx:p.lex with
 | true=>
   have:=l8.2 ⟨p,hp,rfl,hx⟩
   rw[if_pos this] at h
   split at h<;>omega
 | false=>
   have:=l8.2 ⟨p,hp,rfl,hx⟩
   rw[if_pos this] at h
   split at h<;>omega
·intro h
 have k:∀ x,¬ dC ps s x=true:=fun x hx=>by
  obtain⟨p,h1,h2,_⟩:=l8.1 hx
  exact h ⟨p,h1,h2⟩
 rw[if_neg (k _),if_neg (k _)]
 rfl}
def Mg (n:Int) (x:Bool):Int:=if x then (if n=0∨n=1 then 1 else 3) else (if n=0∨n=2 then 2 else 3)
theorem o6 (ps:List Prod) (p:Prod) (s:ByteArray) (x:Bool):dC (ps++[p]) s x=(dC ps s x||(decide (p.sort=s)&&(p.lex == x))):=by{
unfold dC
rw[List.any_append]
simp}
theorem yL (ps:List Prod) (p:Prod) (s:ByteArray):b6 (ps++[p]) s=if s=p.sort then Mg (b6 ps s) p.lex else b6 ps s:=by{
unfold b6
rw[o6,o6]
by_cases h:s=p.sort
·subst h
 cases p.lex<;>cases dC ps p.sort true<;>cases dC ps p.sort false<;>simp [Mg]
·have h':¬ p.sort=s:=fun e=>h e.symm
 simp [h,h']}
theorem yG {ps:List Prod} {k:Nat} (hk:k<ps.length):aF (ps.take (k+1))=fD (aF (ps.take k)) ps[k]:=by
 rw[List.take_succ_eq_append_getElem hk,u5]
theorem Eu {ps:List Prod} {k:Nat} (hk:k<ps.length) (s:ByteArray):b6 (ps.take (k+1)) s=if s=ps[k].sort then Mg (b6 (ps.take k) s) ps[k].lex else b6 (ps.take k) s:=by
 rw[List.take_succ_eq_append_getElem hk,yL]
theorem b8 {ps:List Prod}:(aF ps).length≤ps.length:=by{
have:∀ (ps:List Prod) (l:List ByteArray),(ps.foldl fD l).length≤l.length+ps.length:=by
 intro ps
 induction ps with
 | nil=>intro l;simp
 | cons p ps ih=>
   intro l
   rw[List.foldl_cons]
   have:=ih (fD l p)
   have h2:(fD l p).length≤l.length+1:=by
    unfold fD
    split<;>simp
   simp only[List.length_cons]
   omega
have h2:=this ps []
simp only[List.length_nil,Nat.zero_add] at h2
exact h2}
theorem CK {n:Int} (h:n=0∨n=1∨n=2∨n=3):IntKind.i64.wrap (BitVec.ofInt IntKind.i64.bits n ||| BitVec.ofInt IntKind.i64.bits 1).toNat=Mg n true:=by
 rcases h with rfl|rfl|rfl|rfl<;>decide
theorem ER {n:Int} (h:n=0∨n=1∨n=2∨n=3):IntKind.i64.wrap (BitVec.ofInt IntKind.i64.bits n ||| BitVec.ofInt IntKind.i64.bits 2).toNat=Mg n false:=by
 rcases h with rfl|rfl|rfl|rfl<;>decide
structure Ha (h0 hk:ah) (ib im:Nat) (D:List Value) (sv:Value) (ps qs:List Prod):Prop where
 p:h0 <+: hk
 b:hk[ib]? = some (.aj (D++[sv,.map (some im)]) 0 true 190)
 m:∃ es,hk[im]? = some (.map (fz es))∧∀ s,dx es s=b6 qs s
 s:aK h0 hk sv (aF ps).length ((aF ps).map .string) 9
 lb:h0.length≤ib
 lm:h0.length≤im
section
variable {h:ah} {d:b7} {up uc uf ur ub:Value}
theorem zD (hd:bK h d up uc uf ur ub):FW env 66 [.agg (d.val up uc uf ur ub).toArray] h fun r h'=>∃ ib im sv,r = .pointer (some ⟨ib,0,some 0⟩)∧Ha h h' ib im (d.val up uc uf ur ub) sv d.aa d.aa:=by{
obtain⟨p1,c1,p2,c2,p3,c3,p4,c4,p5,c5,rfl,rfl,rfl,rfl,rfl,l1,l2,l3,l4,l5⟩:=bK.form hd
obtain⟨B,hB⟩:∃ B:List Value,B=[.string d.start,.string d.layout,.slice p1 d.aa.length c1,.slice p2 d.ax.length c2,.slice p3 d.follows.length c3,.slice p4 d.an.length c4,.slice p5 d.boxes.length c5]:=⟨_,rfl⟩
refine fe Tryz.func66 ?_;simp only[push_cast]
unfold b7.val
refine zu ?_
iterate 2 (apply ej;·simp only[push_cast,env,Nat.reduceEqDiff,reduceIte,Nat.reduceAdd,Nat.reduceMul,Nat.reduceLeDiff,reduceCtorEq,Nat.reduceSub,Int.reduceToNat]<;>exact rfl)
refine zu ?_
iterate 1 (apply ej;·simp only[push_cast,env,Nat.reduceEqDiff,reduceIte,Nat.reduceAdd,Nat.reduceMul,Nat.reduceLeDiff,reduceCtorEq,Nat.reduceSub,Int.reduceToNat]<;>exact rfl)
refine j5 (kt:=9) (et:=3) ak rfl kr ?_
iterate 1 (apply ej;·simp only[push_cast,env,Nat.reduceEqDiff,reduceIte,Nat.reduceAdd,Nat.reduceMul,Nat.reduceLeDiff,reduceCtorEq,Nat.reduceSub,Int.reduceToNat]<;>exact rfl)
refine dw (t:=190) (cs:=B++[bD,.map (some h.length)]) ak (by rw[hB];exact ak) ?_
have hlen:(h++[av.map []]).length=h.length+1:=by simp
dsimp only[St.aX,St.put]
rw[hlen]
have hBk:Ha h (h++[av.map []]++[av.aj (B++[bD,.map (some h.length)]) 0 true 190]) (h.length+1) h.length B bD [] []:=
 ⟨cS (cS (List.prefix_refl _)),by rw[← hlen];exact aJ,⟨[],bo aJ,fun s=>rfl⟩,aK.nil,by omega,by omega⟩
generalize (h++[av.map []]++[av.aj (B++[bD,.map (some h.length)]) 0 true 190])=h2 at hBk ⊢
generalize h.length+1=ib at hBk ⊢
generalize h.length=im at hBk ⊢
refine aB ?_
refine a9 d.aa.length (fun k (x:ah×Value)=>[(3,.val (.pointer (some ⟨ib,0,some 0⟩))),(11,.val (.slice p1 d.aa.length c1)),(12,.val (i64 d.aa.length)),(13,.val (i64 k))]) (fun _ x=>x.1)
 (fun k x=>Ha h x.1 ib im B x.2 (d.aa.take k) (d.aa.take k)) (h2,bD) aO rfl hBk ?_
clear hBk hlen
rintro k ⟨hk,sv⟩ hkn K
simp only at K ⊢
by_cases hlt:k<d.aa.length
·obtain⟨id,au,own,c',cells,u,hv,hid,hrd,hu⟩:=cT.at (k:=5) (fun _ _=>rfl) (hd.aa.mono K.p) hlt
 cases hv
 obtain⟨ps,cs,rfl⟩:=bW.form hu
 have w1:=cH hlt
 have w2:=inc hlt l1
 have q3:=aV hlt
 obtain⟨P,hP⟩:∃ P:Prod,P=d.aa[k]:=⟨_,rfl⟩
 rw[← hP] at hrd hu
 refine aG q3 ?_
 refine af rfl ?_
 obtain⟨es,hm,hes⟩:=K.m
 have hb:=K.b
 have hn:=hes P.sort
 have hrg:=oM (d.aa.take k) P.sort
 have hz:=ss (ps:=d.aa.take k) (s:=P.sort)
 refine ir w1 hid hrd ?_
 rw[hB] at hb
 have hkk:=bm es
 generalize hN:b6 (d.aa.take k) P.sort=n at hn hrg hz
 refine CW.mono (Q:=fun e s'=>e = .normal∧s'.h=hk∧bB [(3,.val (.pointer (some ⟨ib,0,some 0⟩))),(5,.box [.bool P.lex,.string P.sort,.string P.cons,.bool P.bracket,.slice ps P.al.length cs]),(11,.val (.slice (some ⟨id,0,some au⟩) d.aa.length c1)),(12,.val (i64 d.aa.length)),(13,.val (i64 k)),(24,.val (.bool (decide (n=0))))] s'.fr) ?_ ?_
 ·refine aL 7 mixed kr ?_
  rcases eT es P.sort with ⟨hg,h0⟩ | hg
  ·obtain rfl:n=0:=by rw[← hn,h0]
   refine fN hb hm hg hkk ?_
   exact⟨rfl,rfl,aO⟩
  ·rw[hn] at hg
   refine fN hb hm hg hkk ?_
   exact⟨rfl,rfl,aO⟩
 rintro e s' ⟨rfl,hh,hf⟩
 show CW _ _ _ _
 refine aA _ hf ?_
 rw[hh]
 refine zu ?_
 refine CW.mono (Q:=fun e s'=>e = .normal∧∃ (hk':ah) (sv':Value),Ha h hk' ib im B sv' (d.aa.take (k+1)) (d.aa.take k)∧s'.h=hk'∧bB [(3,.val (.pointer (some ⟨ib,0,some 0⟩))),(5,.box [.bool P.lex,.string P.sort,.string P.cons,.bool P.bracket,.slice ps P.al.length cs]),(11,.val (.slice (some ⟨id,0,some au⟩) d.aa.length c1)),(12,.val (i64 d.aa.length)),(13,.val (i64 k))] s'.fr) ?_ ?_
 ·have hst:=yG hlt
  rw[← hP] at hst
  unfold fD at hst
  by_cases hn0:n=0
  ·have hnm:¬ w6 (aF (d.aa.take k)) P.sort=true:=by rw[cE];exact hz.1 hn0
   rw[if_neg hnm] at hst
   refine af (by rw[hn0];rfl) ?_
   have hsl:(aF (d.aa.take k)).length≤140737488355328:=by
    have:=b8 (ps:=d.aa.take k)
    rw[List.length_take] at this
    omega
   have hsl2:(aF (d.aa.take k)).length≤k:=by
    have:=b8 (ps:=d.aa.take k)
    rw[List.length_take] at this
    omega
   have l1b:=cT.le hd.aa
   obtain⟨q,cq,rfl⟩:=K.s.form
   have hb0:=K.b
   rw[hB] at hb0
   have nb:bX (.slice q (aF (d.aa.take k)).length cq) ib=false:=by
    cases hbb:bX (.slice q (aF (d.aa.take k)).length cq) ib with
    | false=>rfl
    | true=>
      obtain⟨ver2,h5⟩:=K.s.obj hbb
      rw[hb0] at h5
      simp only[Option.some.injEq,av.aj.injEq] at h5
      exact absurd h5.2.2.2 (by decide)
   have nm:bX (.slice q (aF (d.aa.take k)).length cq) im=false:=by
    cases hbb:bX (.slice q (aF (d.aa.take k)).length cq) im with
    | false=>rfl
    | true=>
      obtain⟨ver2,h5⟩:=K.s.obj hbb
      rw[hm] at h5
      cases h5
   obtain⟨p2',cc2,hk2,hone,G2,hp2,hk2k,hx2,hl2⟩:=gN (cs:=[.string P.sort]) (t:=36) kr Fu (by decide) rfl K.s K.p (by simp) rfl (by simp only;omega) om
   have hb2:=hk2k _ _ nb hb0
   have hm2:=hk2k _ _ nm hm
   refine aA [(3,.val (.pointer (some ⟨ib,0,some 0⟩))),(5,.box [.bool P.lex,.string P.sort,.string P.cons,.bool P.bracket,.slice ps P.al.length cs]),(11,.val (.slice (some ⟨id,0,some au⟩) d.aa.length c1)),(12,.val (i64 d.aa.length)),(13,.val (i64 k))] aO ?_
   show CW _ _ ⟨_,[],hk⟩ _
   apply bi (L:=[[],[],[1],[2],[3],[],[5],[6],[4,7],[0],[9],[0,1,2,3,4,5,6,7,8,10]]) (act:=[8,11]) (hs:=[hk2,hk2.set ib (.aj [.string d.start,.string d.layout,.slice (some ⟨id,0,some au⟩) d.aa.length c1,.slice p2 d.ax.length c2,.slice p3 d.follows.length c3,.slice p4 d.an.length c4,.slice p5 d.boxes.length c5,.slice p2' ((aF (d.aa.take k)).length+1) cc2,.map (some im)] 0 true 190)]) (resL:=[_,_,_,_,_,_,_,_,_,_,_,_]) (frF:=[(3,.val (.pointer (some ⟨ib,0,some 0⟩))),(5,.box [.bool P.lex,.string P.sort,.string P.cons,.bool P.bracket,.slice ps P.al.length cs]),(11,.val (.slice (some ⟨id,0,some au⟩) d.aa.length c1)),(12,.val (i64 d.aa.length)),(13,.val (i64 k))])
   case hm=>exact mixed
   case hc=>kernel_rfl
   case ha=>rfl
   case hb=>rfl
   case hS=>
    refine FO hb hb2 ?_
    apply az.cons
    ·rfl
    ·refine⟨?_,trivial⟩
     exact hone _ _ _ _ _ rfl ak rfl ak ak
    ·rfl
    refine FO hb hb2 ?_
    apply az.cons
    ·rfl
    ·refine⟨?_,trivial⟩
     exact One.jn (r:=.sl .dy) (cells':=[.string d.start,.string d.layout,.slice (some ⟨id,0,some au⟩) d.aa.length c1,.slice p2 d.ax.length c2,.slice p3 d.follows.length c3,.slice p4 d.an.length c4,.slice p5 d.boxes.length c5,.slice p2' ((aF (d.aa.take k)).length+1) cc2,.map (some im)]) ak rfl ak ak hb2 ak rfl rfl rfl
    ·rfl
    exact az.nil _
   case ht=>rfl
   case hF=>exact zh
   refine⟨rfl,hk2.set ib (.aj [.string d.start,.string d.layout,.slice (some ⟨id,0,some au⟩) d.aa.length c1,.slice p2 d.ax.length c2,.slice p3 d.follows.length c3,.slice p4 d.an.length c4,.slice p5 d.boxes.length c5,.slice p2' ((aF (d.aa.take k)).length+1) cc2,.map (some im)] 0 true 190),.slice p2' ((aF (d.aa.take k)).length+1) cc2,?_,rfl,aO⟩
   ·have n2:bX (.slice p2' ((aF (d.aa.take k)).length+1) cc2) ib=false:=by
     cases hbb:bX (.slice p2' ((aF (d.aa.take k)).length+1) cc2) ib with
     | false=>rfl
     | true=>
       rcases hx2 _ hbb with h5|h5
       ·rw[h5] at nb;cases nb
       ·have:=(List.getElem?_eq_some_iff.1 hb0).1;omega
    have hne:ib≠im:=by rintro rfl;rw[hm] at hb0;cases hb0
    refine⟨aY hp2 K.lb,?_,⟨es,?_,hes⟩,?_,K.lb,K.lm⟩
    ·rw[aw hb2,hB];rfl
    ·rw[aD hne];exact hm2
    ·rw[hst,List.length_append,List.map_append]
     refine G2.mono fun i o hi ho=>?_
     rw[aD (by rintro rfl;rw[n2] at hi;cases hi)]
     exact ho
  ·have hnm:w6 (aF (d.aa.take k)) P.sort=true:=by
    rw[cE]
    exact Classical.byContradiction fun hc=>hn0 (hz.2 hc)
   rw[if_pos hnm] at hst
   refine ae (by rw[decide_eq_false hn0];rfl) ?_
   refine cj ?_
   exact⟨rfl,hk,sv,⟨K.p,K.b,K.m,by rw[hst];exact K.s,K.lb,K.lm⟩,rfl,aO⟩
 clear hf hh s'
 rintro e s' ⟨rfl,hk',sv',K',hh,hf⟩
 show CW _ _ _ _
 refine aA _ hf ?_
 rw[hh]
 clear hf hh s' hm hb hes hn hkk
 obtain⟨es,hm,hes⟩:=K'.m
 have hb:=K'.b
 rw[hB] at hb
 have hn:=hes P.sort
 rw[hN] at hn
 have hkk:=bm es
 have hput:∀ x:Bool,x=P.lex→Ha h (hk'.set im (.map (fz (cW es P.sort (Mg n x))))) ib im B sv' (d.aa.take (k+1)) (d.aa.take (k+1)):=fun x hx=>by
  have hne:ib≠im:=by rintro rfl;rw[hm] at hb;cases hb
  refine⟨aY K'.p K'.lm,?_,⟨_,aw hm,fun s=>?_⟩,K'.s.mono fun j o hj ho=>?_,K'.lb,K'.lm⟩
  ·rw[aD (Ne.symm hne),K'.b]
  ·rw[eI,Eu hlt,← hP,hes,hx]
   split
   ·rename_i e
    rw[e,hN]
   ·rfl
  ·obtain⟨ver2,h5⟩:=K'.s.obj hj
   exact BK hm ho (by rintro rfl;rw[h5] at ho;cases ho)
 rcases eT es P.sort with ⟨hg,h0⟩ | hg
 ·obtain rfl:n=0:=by rw[← hn,h0]
  refine aB ?_
  cases hx:P.lex with
  | true=>
    refine af rfl ?_
    refine aB ?_
    refine aL 8 mixed kr ?_
    have ho:=CK hrg
    refine ox hb hm hg hkk ho ?_
    refine fq (kt:=9) (et:=3) (kd:=eB) ak rfl rfl kr rfl ak hm ak ak rfl hkk ?_
    dsimp only
    rw[dJ]
    refine aG w2 ?_
    exact⟨hlt,(_,sv'),aO,rfl,hput _ hx.symm⟩
  | false=>
    refine ae rfl ?_
    refine aB ?_
    refine aL 8 mixed kr ?_
    have ho:=ER hrg
    refine ox hb hm hg hkk ho ?_
    refine fq (kt:=9) (et:=3) (kd:=eB) ak rfl rfl kr rfl ak hm ak ak rfl hkk ?_
    dsimp only
    rw[dJ]
    refine aG w2 ?_
    exact⟨hlt,(_,sv'),aO,rfl,hput _ hx.symm⟩
 ·rw[hn] at hg
  refine aB ?_
  cases hx:P.lex with
  | true=>
    refine af rfl ?_
    refine aB ?_
    refine aL 8 mixed kr ?_
    have ho:=CK hrg
    refine ox hb hm hg hkk ho ?_
    refine fq (kt:=9) (et:=3) (kd:=eB) ak rfl rfl kr rfl ak hm ak ak rfl hkk ?_
    dsimp only
    rw[dJ]
    refine aG w2 ?_
    exact⟨hlt,(_,sv'),aO,rfl,hput _ hx.symm⟩
  | false=>
    refine ae rfl ?_
    refine aB ?_
    refine aL 8 mixed kr ?_
    have ho:=ER hrg
    refine ox hb hm hg hkk ho ?_
    refine fq (kt:=9) (et:=3) (kd:=eB) ak rfl rfl kr rfl ak hm ak ak rfl hkk ?_
    dsimp only
    rw[dJ]
    refine aG w2 ?_
    exact⟨hlt,(_,sv'),aO,rfl,hput _ hx.symm⟩
·have q3:=aT hlt
 obtain rfl:k=d.aa.length:=by omega
 rw[List.take_length] at K
 refine aG q3 ?_
 refine ae rfl ?_
 refine aC ?_
 show CW _ _ _ _
 refine aB ?_
 refine ai ?_
 exact⟨_,ak,ib,im,sv,rfl,by rw[← hB];exact K⟩}
end
theorem Ha.mono {h0 hk hk':ah} {ib im:Nat} {D:List Value} {sv:Value} {ps qs:List Prod} (K:Ha h0 hk ib im D sv ps qs) (hp:hk <+: hk'):Ha h0 hk' ib im D sv ps qs:=
 ⟨K.p.trans hp,ag hp K.b,let ⟨es,h1,h2⟩:=K.m;⟨es,ag hp h1,h2⟩,K.s.mono fun _ _ _ h=>ag hp h,K.lb,K.lm⟩
def Bk (h:ah) (r:Value) (d:b7):Prop:=∃ h0 ib im sv up uc uf ur ub,r = .pointer (some ⟨ib,0,some 0⟩)∧bK h0 d up uc uf ur ub∧Ha h0 h ib im (d.val up uc uf ur ub) sv d.aa d.aa
theorem Bk.mono {h h':ah} {r:Value} {d:b7} (K:Bk h r d) (hp:h <+: h'):Bk h' r d:=by
 obtain⟨h0,ib,im,sv,up,uc,uf,ur,ub,e,h1,h2⟩:=K
 exact⟨h0,ib,im,sv,up,uc,uf,ur,ub,e,h1,h2.mono hp⟩
def ii (P:Prop) (r:Value):Prop:=∃ (e:Int) (w:ByteArray),r = .tuple #[i64 e,.string w]∧(e=0↔P)
theorem HP {n:Int} (h:n=0∨n=1∨n=2∨n=3):IntKind.i64.wrap (BitVec.ofInt IntKind.i64.bits n &&& BitVec.ofInt IntKind.i64.bits 1).toNat=n % 2:=by
 rcases h with rfl|rfl|rfl|rfl<;>decide
theorem BP {ps:List Prod} {s:ByteArray}:(!decide (b6 ps s % 2=0))=dC ps s true:=by
 unfold b6
 cases dC ps s true<;>cases dC ps s false<;>rfl
section
variable {h:ah} {r:Value} {d:b7}
theorem ml (hk:Bk h r d) {s:ByteArray}:FW env 132 [r,.string s] h fun r h'=>r = .bool (dC d.aa s true)∧h'=h:=by{
obtain⟨h0,ib,im,sv,up,uc,uf,ur,ub,rfl,hd,K⟩:=hk
have hd:=hd.mono K.p
obtain⟨p1,c1,p2,c2,p3,c3,p4,c4,p5,c5,rfl,rfl,rfl,rfl,rfl,l1,l2,l3,l4,l5⟩:=bK.form hd
obtain⟨es,hm,hes⟩:=K.m
have hb:=K.b
unfold b7.val at hb
simp only[List.cons_append,List.nil_append] at hb
have hkk:=bm es
have hss:bh h sv (aF d.aa):=K.s.sl (b:=16) (by have:=b8 (ps:=d.aa);have:=cT.le hd.aa;omega)
obtain⟨pq,cq,rfl⟩:=hss.form
have hn:=hes s
have hrg:=oM d.aa s
have hod:=BP (ps:=d.aa) (s:=s)
generalize b6 d.aa s=n at hn hrg hod
have ha:=HP hrg
refine fe Tryz.func132 ?_;simp only[push_cast]
rcases eT es s with ⟨hg,h0'⟩ | hg
·obtain rfl:n=0:=by rw[← hn,h0']
 refine ox hb hm hg hkk ha ?_
 refine ai ?_
 exact⟨_,ak,by rw[← hod];rfl,rfl⟩
·rw[hn] at hg
 refine ox hb hm hg hkk ha ?_
 refine ai ?_
 exact⟨_,ak,by rw[← hod];rfl,rfl⟩}
theorem DC (hk:Bk h r d):FW env 68 [r] h fun r h'=>ii (∀ s∈aF d.aa,b6 d.aa s≠3) r∧h'=h:=by{
obtain⟨h0,ib,im,sv,up,uc,uf,ur,ub,rfl,hd,K⟩:=hk
have hd:=hd.mono K.p
obtain⟨p1,c1,p2,c2,p3,c3,p4,c4,p5,c5,rfl,rfl,rfl,rfl,rfl,l1,l2,l3,l4,l5⟩:=bK.form hd
obtain⟨es,hm,hes⟩:=K.m
have hb:=K.b
unfold b7.val at hb
simp only[List.cons_append,List.nil_append] at hb
have hkk:=bm es
have hss:bh h sv (aF d.aa):=K.s.sl (b:=16) (by have:=b8 (ps:=d.aa);have:=cT.le hd.aa;omega)
obtain⟨pq,cq,rfl⟩:=hss.form
have hsl:=hss.le
refine fe Tryz.func68 ?_;simp only[push_cast]
refine aG hb ?_
refine df (aF d.aa).length (fun k=>[(0,.val (.pointer (some ⟨ib,0,some 0⟩))),(9,.val (.slice pq (aF d.aa).length cq)),(10,.val (i64 (aF d.aa).length)),(11,.val (i64 k))]) (fun _=>h) (fun k=>∀ i (hi:i<(aF d.aa).length),i<k→b6 d.aa (aF d.aa)[i]≠3) aO rfl (fun i _ hi=>absurd hi om) ?_
intro k hkn hall
by_cases hlt:k<(aF d.aa).length
·obtain⟨id,au,own,c',cells,hv,hid,hc⟩:=hss.at hlt
 cases hv
 have e1:=cH hlt
 have e2:=inc hlt hsl
 have e3:=aV hlt
 refine aG e3 ?_
 refine af rfl ?_
 have hn:=hes (aF d.aa)[k]
 have hstep:b6 d.aa (aF d.aa)[k]≠3→∀ i (hi:i<(aF d.aa).length),i<k+1→b6 d.aa (aF d.aa)[i]≠3:=fun h3 i hi h2=>by
  rcases (by omega:i<k∨i=k) with h4|rfl
  ·exact hall i hi h4
  ·exact h3
 have hmem:(aF d.aa)[k]∈aF d.aa:=List.getElem_mem hlt
 generalize hN:b6 d.aa (aF d.aa)[k]=n at hn hstep
 rcases eT es (aF d.aa)[k] with ⟨hg,h0'⟩ | hg
 ·obtain rfl:n=0:=by rw[← hn,h0']
  refine Re e1 hid hc hb hm hg hkk Nat.mul_one ?_
  refine ae rfl ?_
  refine aG e2 ?_
  exact⟨hlt,aO,rfl,hstep (by decide)⟩
 ·rw[hn] at hg
  by_cases h3:n=3
  ·have hd3:=decide_eq_true h3
   refine M9 e1 hid hc hb hm hg hkk Nat.mul_one hd3 ?_
   refine af rfl ?_
   refine aB ?_
   refine ai ?_
   exact⟨_,ak,⟨42,_,rfl,⟨fun h=>(by cases h),fun h=>absurd (hN.trans h3) (h _ hmem)⟩⟩,rfl⟩
  ·have hd3:=decide_eq_false h3
   refine M9 e1 hid hc hb hm hg hkk Nat.mul_one hd3 ?_
   refine ae rfl ?_
   refine aG e2 ?_
   exact⟨hlt,aO,rfl,hstep h3⟩
·have e3:=aT hlt
 obtain rfl:k=(aF d.aa).length:=by omega
 refine aG e3 ?_
 refine ae rfl ?_
 refine aC ?_
 show CW _ _ _ _
 refine aB ?_
 refine ai ?_
 refine⟨_,ak,⟨0,_,rfl,fun _ s hs=>?_,fun _=>rfl⟩,rfl⟩
 obtain⟨i,hi,rfl⟩:=List.getElem_of_mem hs
 exact hall i hi hi}
theorem HT (hk:Bk h r d):FW env 69 [r] h fun r h'=>ii (b6 d.aa d.start=2∧(d.layout.size=0∨b6 d.aa d.layout=1)) r∧h'=h:=by{
obtain⟨h0,ib,im,sv,up,uc,uf,ur,ub,rfl,hd,K⟩:=hk
have hd:=hd.mono K.p
obtain⟨p1,c1,p2,c2,p3,c3,p4,c4,p5,c5,rfl,rfl,rfl,rfl,rfl,l1,l2,l3,l4,l5⟩:=bK.form hd
obtain⟨es,hm,hes⟩:=K.m
have hb:=K.b
unfold b7.val at hb
simp only[List.cons_append,List.nil_append] at hb
have hkk:=bm es
have hss:bh h sv (aF d.aa):=K.s.sl (b:=16) (by have:=b8 (ps:=d.aa);have:=cT.le hd.aa;omega)
obtain⟨pq,cq,rfl⟩:=hss.form
refine fe Tryz.func69 ?_;simp only[push_cast]
have hn1:=hes d.start
have hn2:=hes d.layout
generalize hN1:b6 d.aa d.start=n1 at hn1
generalize hN2:b6 d.aa d.layout=n2 at hn2
refine aB ?_
refine CW.mono (Q:=fun e s'=>e = .normal∧s'.h=h∧bB [(0,.val (.pointer (some ⟨ib,0,some 0⟩))),(14,.val (.bool (!decide (n1=2))))] s'.fr) ?_ ?_
·refine aL 10 mixed kr ?_
 rcases eT es d.start with ⟨hg,h0'⟩ | hg
 ·obtain rfl:n1=0:=by rw[← hn1,h0']
  refine fN hb hm hg hkk ?_
  exact⟨rfl,rfl,aO⟩
 ·rw[hn1] at hg
  refine fN hb hm hg hkk ?_
  exact⟨rfl,rfl,aO⟩
rintro e s' ⟨rfl,hh,hf⟩
show CW _ _ _ _
refine aA _ hf ?_
rw[hh]
refine zu ?_
by_cases q1:n1=2
·refine ae (by rw[decide_eq_true q1];rfl) ?_
 refine aB ?_
 clear hf hh s'
 refine CW.mono (Q:=fun e s'=>e = .normal∧s'.h=h∧bB [(0,.val (.pointer (some ⟨ib,0,some 0⟩))),(38,.val (.bool (!decide (d.layout=⟨#[]⟩) && !decide (n2=1))))] s'.fr) ?_ ?_
 ·refine aL 18 mixed kr ?_
  by_cases q2:d.layout=⟨#[]⟩
  ·have dq2:=decide_eq_true q2
   refine fN hb hm hkk dq2 ?_
   exact⟨rfl,rfl,(by simp only[push_cast,Nat.reduceEqDiff,reduceIte,dq2,Bool.not_true,Bool.false_and])⟩
  ·have dq2:=decide_eq_false q2
   rcases eT es d.layout with ⟨hg,h0'⟩ | hg
   ·obtain rfl:n2=0:=by rw[← hn2,h0']
    refine ox hb hm hg hkk dq2 ?_
    exact⟨rfl,rfl,(by simp only[push_cast,Nat.reduceEqDiff,reduceIte,dq2,Bool.not_false,Bool.true_and])⟩
   ·rw[hn2] at hg
    refine ox hb hm hg hkk dq2 ?_
    exact⟨rfl,rfl,(by simp only[push_cast,Nat.reduceEqDiff,reduceIte,dq2,Bool.not_false,Bool.true_and])⟩
 rintro e s' ⟨rfl,hh,hf⟩
 show CW _ _ _ _
 refine aA _ hf ?_
 rw[hh]
 refine zu ?_
 refine dH rfl (fun ht=>?_) (fun ht=>?_)
 ·refine aB ?_
  refine aL 6 mixed kr ?_
  refine aG hb ?_
  refine ai ?_
  simp only[Bool.and_eq_true,Bool.not_eq_true',decide_eq_false_iff_not,jd] at ht
  refine⟨_,ak,⟨41,_,rfl,⟨fun h=>(by cases h),fun h=>?_⟩⟩,rfl⟩
  omega
 ·refine aB ?_
  refine ai ?_
  simp only[Bool.and_eq_false_iff,Bool.not_eq_false',decide_eq_true_eq,jd] at ht
  exact⟨_,ak,⟨0,_,rfl,⟨fun _=>⟨q1,ht⟩,fun _=>rfl⟩⟩,rfl⟩
·refine af (by rw[decide_eq_false q1];rfl) ?_
 refine aB ?_
 refine aL 6 mixed kr ?_
 refine aG hb ?_
 refine ai ?_
 exact⟨_,ak,⟨40,_,rfl,⟨fun h=>(by cases h),fun h=>absurd h.1 q1⟩⟩,rfl⟩}
end
theorem iH {all:Array Oper} {o:Oper} {r:List Oper} {s:St} {K:St→Prop} {x y:Operand} {t e:TypeId} {ti:TI} {vx v:Value} {n m b:Nat} {cells cs:List Value} {h:ah} (hu:env.P.underlying t=some (.slice e)) (ht:ar env.P e=some ti) (hs0:0<ti.size) (hz:(ti.zero.map fun z=>z.cells.size)=some ti.size) (hx:aK h s.h vx n cells e) (hp:h <+: s.h) (hl:cells.length=n*ti.size) (hy:bW s.h v m cs e b) (hlc:cs.length=m*ti.size) (hb:(n+m)*ti.bytes≤140737488355328) (hmx:n+m≤140737488355328) (hw:aE all o s=some true) (ho:o.op = .call { callee:=.builtin .append,args:=#[x,y],argTypes:=#[t,t] }) (hxv:ev s x=some vx) (hyv:ev s y=some v) (k:∀ p c h',h <+: h'→aK h h' (.slice p (n+m) c) (n+m) (cells++cs) e→(∀ j o,bX vx j=false→s.h[j]? = some o→h'[j]? = some o)→OW env all r ({ s with h:=h' }.aX o.dst (.val (.slice p (n+m) c))) K):OW env all (o :: r) s K:=by{
obtain⟨px,cx,rfl⟩:=hx.form
obtain⟨py,cy,rfl⟩:=hy.form
rcases Nat.eq_zero_or_pos m with rfl|h0
·have hc0:cs=[]:=List.eq_nil_of_length_eq_zero om
 subst hc0
 refine FR (t:=t) hw ho hu ht hxv hyv ?_
 have:=k px cx s.h hp (by simpa using hx) (fun j o _ h=>h)
 exact this
·obtain⟨id,au,own,c',hv,hid⟩:=hy.at h0
 cases hv
 have hyt:∃ tmp,y = .tmp tmp:=by
  cases y with
  | tmp t=>exact⟨t,rfl⟩
  | const q=>
    simp only[ev] at hyv
    split at hyv
    ·rename_i hp
     cases hyv
     simp [fB,be] at hp
    ·cases hyv
  | func f=>simp [ev] at hyv
  | global g=>simp [ev] at hyv
 obtain⟨tm,rfl⟩:=hyt
 have hf:aS s.fr tm = .val (.slice (some ⟨id,0,some au⟩) m cy):=by
  simp only[ev] at hyv
  split at hyv
  ·rename_i q hq
   cases hyv
   exact hq
  ·cases hyv
 have hrd:je cs 0 (m*ti.size)=some cs:=by
  simp only[je,s7,Nat.zero_add,List.drop_zero,hlc]
  rw[if_pos (Nat.le_refl _),← hlc,List.take_length]
 have hi:ct s s.h ti.size (.tmp tm)=some (cs,m):=by
  simp only[ct,hf,hid,if_true]
  first|rw[hrd];rfl|(unfold je at hrd;rw[hrd];rfl)
 rcases hx with ⟨rfl,rfl,e3⟩ | ⟨idx,vex,e1,e2,e3⟩
 ·rw[e3] at hxv
  have hk:=k (some ⟨s.h.length,0,some 0⟩) m (s.h++[av.aj cs 0 true e]) (cS hp) (by rw[Nat.zero_add,List.nil_append];exact .inr ⟨s.h.length,0,hp.length_le,rfl,aJ⟩) (fun j o _ h=>bo h)
  rw[Nat.zero_add] at hk hb hmx
  exact mX (t:=t) (cs:=cs) (m:=m) hw ho hu ht hs0 hz hxv hi h0 hb hmx hk
 ·have hk:=k (some ⟨idx,0,some (vex+1)⟩) (n+m) (s.h.set idx (av.aj (cells++cs) (vex+1) true e)) (aY hp e1) (.inr ⟨idx,vex+1,e1,rfl,aw e3⟩) (fun j o hj h=>by
   rw[e2] at hj
   simp only[bX,beq_eq_false_iff_ne] at hj
   rw[aD hj]
   exact h)
  rw[e2] at hxv
  refine oC (t:=t) (cs:=cs) (m:=m) hw ho hu ht hs0 hz hxv e3 om hi hb hmx ?_
  rw[List.take_of_length_le om]
  exact hk}
theorem Hf {all:Array Oper} {o:Oper} {r:List Oper} {s:St} {K:St→Prop} {x y:Operand} {t e:TypeId} {ti:TI} {vx:Value} {n m:Nat} {cells cs:List Value} {h:ah} (hu:env.P.underlying t=some (.slice e)) (ht:ar env.P e=some ti) (hs0:0<ti.size) (hz:(ti.zero.map fun z=>z.cells.size)=some ti.size) (hx:aK h s.h vx n cells e) (hp:h <+: s.h) (hl:cells.length=n*ti.size) (h0:0<m) (hi:ct s s.h ti.size y=some (cs,m)) (hb:(n+m)*ti.bytes≤140737488355328) (hmx:n+m≤140737488355328) (hw:aE all o s=some true) (ho:o.op = .call { callee:=.builtin .append,args:=#[x,y],argTypes:=#[t,t] }) (hxv:ev s x=some vx) (k:∀ p c h',h <+: h'→aK h h' (.slice p (n+m) c) (n+m) (cells++cs) e→(∀ j o,bX vx j=false→s.h[j]? = some o→h'[j]? = some o)→OW env all r ({ s with h:=h' }.aX o.dst (.val (.slice p (n+m) c))) K):OW env all (o :: r) s K:=by{
rcases hx with ⟨rfl,rfl,e3⟩ | ⟨idx,vex,e1,e2,e3⟩
·rw[e3] at hxv
 have hk:=k (some ⟨s.h.length,0,some 0⟩) m (s.h++[av.aj cs 0 true e]) (cS hp) (by rw[Nat.zero_add,List.nil_append];exact .inr ⟨s.h.length,0,hp.length_le,rfl,aJ⟩) (fun j o _ h=>bo h)
 rw[Nat.zero_add] at hk hb hmx
 exact mX (t:=t) (cs:=cs) (m:=m) hw ho hu ht hs0 hz hxv hi h0 hb hmx hk
·have hk:=k (some ⟨idx,0,some (vex+1)⟩) (n+m) (s.h.set idx (av.aj (cells++cs) (vex+1) true e)) (aY hp e1) (.inr ⟨idx,vex+1,e1,rfl,aw e3⟩) (fun j o hj h=>by
  rw[e2] at hj
  simp only[bX,beq_eq_false_iff_ne] at hj
  rw[aD hj]
  exact h)
 rw[e2] at hxv
 refine oC (t:=t) (cs:=cs) (m:=m) hw ho hu ht hs0 hz hxv e3 om hi hb hmx ?_
 rw[List.take_of_length_le om]
 exact hk}
theorem gV {l:List Sym} {i:Nat} (hi:i<l.length):je (l.flatMap Sym.cells) (i*8) 8=some [i64 l[i].kind,.string l[i].text,u64 l[i].set.a,u64 l[i].set.b,u64 l[i].set.c,u64 l[i].set.d,.string l[i].name,.string l[i].sep]:=bG (f:=Sym.cells) (fun _=>rfl) l i l[i] (by simp [hi])
def cg (l:List Sym):List ByteArray:=l.filterMap fun s=>if s.name=⟨#[]⟩ then none else some s.name
theorem wO {l:List Sym} {k:Nat} (hk:k<l.length):cg (l.take (k+1))=if l[k].name=⟨#[]⟩ then cg (l.take k) else cg (l.take k)++[l[k].name]:=by{
unfold cg
rw[List.take_succ_eq_append_getElem hk,List.filterMap_append]
by_cases h:l[k].name=⟨#[]⟩
·rw[if_pos h];simp [h]
·rw[if_neg h];simp [h]}
theorem rX {l:List Sym}:(cg l).length≤l.length:=List.length_filterMap_le ..
section
variable {h:ah}
theorem vY {p:Prod} {u:Value} (hy:fV h u p.al):FW env 128 [.agg #[.bool p.lex,.string p.sort,.string p.cons,.bool p.bracket,u]] h fun r h'=>h <+: h'∧aK h h' r (cg p.al).length ((cg p.al).map .string) 9:=by{
obtain⟨ps,cs,rfl⟩:=bW.form hy
have hle:p.al.length*88≤140737488355328:=hy.1
have hl:p.al.length≤140737488355328:=by omega
have z0:(cg []).length=0:=rfl
refine fe Tryz.func128 ?_;simp only[push_cast]
refine aB ?_
refine a9 p.al.length (fun k (x:ah×Option Addr×Nat)=>[(3,.val (.slice x.2.1 (cg (p.al.take k)).length x.2.2)),(7,.val (.slice ps p.al.length cs)),(8,.val (i64 p.al.length)),(9,.val (i64 k))]) (fun _ x=>x.1)
 (fun k x=>h <+: x.1∧aK h x.1 (.slice x.2.1 (cg (p.al.take k)).length x.2.2) (cg (p.al.take k)).length ((cg (p.al.take k)).map .string) 9) (h,none,0) (lF z0) rfl ⟨List.prefix_refl _,aK.nil⟩ ?_
rintro k ⟨hk,q,cq⟩ hkn ⟨hp,hG⟩
simp only at hp hG ⊢
by_cases hlt:k<p.al.length
·obtain⟨id,au,own,c',hv,hid⟩:=bW.at (hy.mono hp) om
 cases hv
 have hg:=gV hlt
 have e1:=cH hlt
 have e2:=inc hlt hl
 have e3:=aV hlt
 have hs:=wO hlt
 have hlen:(cg (p.al.take k)).length≤k:=by
  have:=rX (l:=p.al.take k)
  rw[List.length_take] at this
  omega
 refine aG e3 ?_
 refine af rfl ?_
 by_cases q1:p.al[k].name=⟨#[]⟩
 ·rw[if_pos q1] at hs
  have d1:=decide_eq_true q1
  refine fN e1 hid hg d1 ?_
  refine ae rfl ?_
  refine aG e2 ?_
  refine⟨hlt,(hk,q,cq),(lF hs),rfl,hp,?_⟩
  rw[hs]
  exact hG
 ·rw[if_neg q1] at hs
  have hs2:(cg (p.al.take (k+1))).length=(cg (p.al.take k)).length+1:=by rw[hs];simp
  have d1:=decide_eq_false q1
  refine fN e1 hid hg d1 ?_
  refine af rfl ?_
  refine aB ?_
  refine lf (t:=36) ak rfl kr Fu (by decide) rfl ak rfl hG hp (by simp) rfl (by simp only;omega) om ?_
  intro p' c' h' k1 k2 _ _
  refine aG e2 ?_
  refine⟨hlt,(h',p',c'),(lF hs2),rfl,k2,?_⟩
  rw[hs,List.length_append,List.map_append]
  exact k1
·have e3:=aT hlt
 obtain rfl:k=p.al.length:=by omega
 rw[List.take_length] at hG
 refine aG e3 ?_
 refine ae rfl ?_
 refine aC ?_
 show CW _ _ _ _
 refine aB ?_
 refine ai ?_
 rw[List.take_length]
 refine⟨_,ak,hp,?_⟩
 exact hG}
end
def nP (l:List Prod):List ByteArray:=l.flatMap fun p=>cg p.al
def nR (l:List dB):List ByteArray:=l.flatMap fun x=>[x.sort,x.jO]
def eM (d:b7):List ByteArray:=nP d.aa++d.follows.map (·.sort)++nR d.an
theorem HV {l:List Prod} {k:Nat} (hk:k<l.length):nP (l.take (k+1))=nP (l.take k)++cg l[k].al:=by{
unfold nP
rw[List.take_succ_eq_append_getElem hk,List.flatMap_append]
simp}
theorem HW {l:List dB} {k:Nat} (hk:k<l.length):nR (l.take (k+1))=nR (l.take k)++[l[k].sort,l[k].jO]:=by{
unfold nR
rw[List.take_succ_eq_append_getElem hk,List.flatMap_append]
simp}
theorem vK:∀ (l:List Prod),(nP l).length≤dp (fun p=>p.al.length) l
 | []=>by simp [nP]
 | p :: l=>by
   have h1:=vK l
   have h2:=rX (l:=p.al)
   unfold nP dp at *
   simp only[List.flatMap_cons,List.length_append,List.map_cons,List.sum_cons]
   omega
theorem Iu {l:List Prod} {k:Nat}:(nP (l.take k)).length≤dp (fun p=>p.al.length) l:=Nat.le_trans (vK _) qd
theorem iR {l:List eZ} {i:Nat} (hi:i<l.length):je (l.flatMap eZ.cells) (i*5) 5=some [.string l[i].sort,u64 l[i].set.a,u64 l[i].set.b,u64 l[i].set.c,u64 l[i].set.d]:=bG (f:=eZ.cells) (fun _=>rfl) l i l[i] (by simp [hi])
theorem gM {l:List dB} {i:Nat} (hi:i<l.length):je (l.flatMap dB.cells) (i*2) 2=some [.string l[i].sort,.string l[i].jO]:=bG (f:=dB.cells) (fun _=>rfl) l i l[i] (by simp [hi])
section
variable {h:ah} {r:Value} {d:b7}
theorem uE (hk:Bk h r d) (hpn:cZ d≤160):FW env 70 [r] h fun r h'=>ii (∀ s∈eM d,b6 d.aa s≠0) r∧h <+: h':=by{
have hk0:=hk
obtain⟨h0,ib,im,sv,up,uc,uf,ur,ub,rfl,hd,K⟩:=hk
have hd:=hd.mono K.p
obtain⟨p1,c1,p2,c2,p3,c3,p4,c4,p5,c5,rfl,rfl,rfl,rfl,rfl,l1,l2,l3,l4,l5⟩:=bK.form hd
obtain⟨es,hm,hes⟩:=K.m
have hb:=K.b
unfold b7.val at hb
simp only[List.cons_append,List.nil_append] at hb
have hkk:=bm es
have hss:bh h sv (aF d.aa):=K.s.sl (b:=16) (by have:=b8 (ps:=d.aa);have:=cT.le hd.aa;omega)
obtain⟨pq,cq,rfl⟩:=hss.form
have b1:d.aa.length≤160:=by unfold cZ at hpn;omega
have b2:d.follows.length≤160:=by unfold cZ at hpn;omega
have b3:d.an.length≤160:=by unfold cZ at hpn;omega
have b4:dp (fun p=>p.al.length) d.aa≤160:=by unfold cZ at hpn;omega
have z0:(nP []).length=0:=rfl
refine fe Tryz.func70 ?_;simp only[push_cast]
refine aG hb ?_
refine CW.mono (Q:=fun e s'=>e = .exit 0∧∃ (h1:ah) (q:Option Addr) (c:Nat),h <+: h1∧aK h h1 (.slice q (nP d.aa).length c) (nP d.aa).length ((nP d.aa).map .string) 9∧s'.h=h1∧bB [(0,.val (.pointer (some ⟨ib,0,some 0⟩))),(4,.val (.slice q (nP d.aa).length c))] s'.fr) ?_ ?_
·refine a9 d.aa.length (fun k (x:ah×Option Addr×Nat)=>[(0,.val (.pointer (some ⟨ib,0,some 0⟩))),(4,.val (.slice x.2.1 (nP (d.aa.take k)).length x.2.2)),(17,.val (.slice p1 d.aa.length c1)),(18,.val (i64 d.aa.length)),(19,.val (i64 k))]) (fun _ x=>x.1)
  (fun k x=>h <+: x.1∧aK h x.1 (.slice x.2.1 (nP (d.aa.take k)).length x.2.2) (nP (d.aa.take k)).length ((nP (d.aa.take k)).map .string) 9) (h,none,0) (lF z0) rfl ⟨List.prefix_refl _,aK.nil⟩ ?_
 rintro k ⟨hk,q,cq⟩ hkn ⟨hp,hG⟩
 simp only at hp hG ⊢
 by_cases hlt:k<d.aa.length
 ·obtain⟨id,au,own,c',cells,u,hv,hid,hrd,hu⟩:=cT.at (k:=5) (fun _ _=>rfl) (hd.aa.mono hp) hlt
  cases hv
  obtain⟨ps,cs,rfl⟩:=bW.form hu
  have w1:=cH hlt
  have w2:=inc hlt l1
  have q3:=aV hlt
  have hst:=HV hlt
  have hle1:=Iu (l:=d.aa) (k:=k)
  have hle2:=Iu (l:=d.aa) (k:=k+1)
  rw[hst,List.length_append] at hle2
  have hst2:(nP (d.aa.take (k+1))).length=(nP (d.aa.take k)).length+(cg d.aa[k].al).length:=by rw[hst,List.length_append]
  refine aG q3 ?_
  refine af rfl ?_
  refine ir w1 hid hrd ?_
  refine zj Tryz.func128 ?_
  refine (vY hu).mono ?_
  rintro rn h1 ⟨hp1,G1⟩
  have hS:bW h1 rn (cg d.aa[k].al).length ((cg d.aa[k].al).map .string) 9 16:=G1.sl om
  refine aB ?_
  refine iH (t:=36) (b:=16) kr Fu (by decide) rfl (hG.mono fun _ _ _ ho=>ag hp1 ho) (hp.trans hp1) (by simp) hS (by simp) (by simp only;omega) om ak rfl ak ak ?_
  intro p' c' h' k1 k2 _
  refine aG w2 ?_
  refine⟨hlt,(h',p',c'),(lF hst2),rfl,k1,?_⟩
  rw[hst,List.length_append,List.map_append]
  exact k2
 ·have q3:=aT hlt
  obtain rfl:k=d.aa.length:=by omega
  rw[List.take_length] at hG
  refine aG q3 ?_
  refine ae rfl ?_
  refine aC ?_
  exact⟨rfl,hk,q,cq,hp,hG,rfl,by rw[List.take_length];exact aO⟩
rintro e s' ⟨rfl,h1,q,c,hp1,hG1,hh,hf⟩
show CW _ _ _ _
refine aA _ hf ?_
rw[hh]
clear hf hh s'
have hb1:=ag hp1 hb
have hlP:(nP d.aa).length≤160:=Nat.le_trans (vK _) b4
have f0:([]:List eZ).length=0:=rfl
refine aG hb1 ?_
refine CW.mono (Q:=fun e s'=>e = .exit 2∧∃ (h2:ah) (q:Option Addr) (c:Nat),h <+: h2∧aK h h2 (.slice q ((nP d.aa).length+d.follows.length) c) ((nP d.aa).length+d.follows.length) ((nP d.aa++d.follows.map (·.sort)).map .string) 9∧s'.h=h2∧bB [(0,.val (.pointer (some ⟨ib,0,some 0⟩))),(4,.val (.slice q ((nP d.aa).length+d.follows.length) c))] s'.fr) ?_ ?_
·refine a9 d.follows.length (fun k (x:ah×Option Addr×Nat)=>[(0,.val (.pointer (some ⟨ib,0,some 0⟩))),(4,.val (.slice x.2.1 ((nP d.aa).length+k) x.2.2)),(32,.val (.slice p3 d.follows.length c3)),(33,.val (i64 d.follows.length)),(34,.val (i64 k))]) (fun _ x=>x.1)
  (fun k x=>h <+: x.1∧aK h x.1 (.slice x.2.1 ((nP d.aa).length+k) x.2.2) ((nP d.aa).length+k) ((nP d.aa++(d.follows.take k).map (·.sort)).map .string) 9) (h1,q,c) (by simp only[push_cast,Nat.reduceEqDiff,reduceIte,Nat.add_zero]) rfl ⟨hp1,by simpa using hG1⟩ ?_
 clear hG1 hp1 hb1
 rintro k ⟨hk,q,cq⟩ hkn ⟨hp,hG⟩
 simp only at hp hG ⊢
 by_cases hlt:k<d.follows.length
 ·obtain⟨id,au,own,c',hv,hid⟩:=bW.at (bW.mono hd.follows hp) om
  cases hv
  have hrd:=iR hlt
  have w1:=cH hlt
  have w2:=inc hlt l3
  have q3:=aV hlt
  refine aG q3 ?_
  refine af rfl ?_
  refine ir w1 hid hrd ?_
  refine lf (t:=36) ak rfl kr Fu (by decide) rfl ak rfl hG hp (by simp;omega) rfl (by simp only;omega) om ?_
  intro p' c' h' k1 k2 _ _
  refine aG w2 ?_
  refine⟨hlt,(h',p',c'),(by simp only[push_cast,Nat.reduceEqDiff,reduceIte,Nat.add_assoc]),rfl,k2,?_⟩
  have hst:nP d.aa++(d.follows.take (k+1)).map (·.sort)=nP d.aa++(d.follows.take k).map (·.sort)++[d.follows[k].sort]:=by
   rw[List.take_succ_eq_append_getElem hlt,List.map_append,List.append_assoc]
   rfl
  rw[hst,List.map_append]
  exact k1
 ·have q3:=aT hlt
  obtain rfl:k=d.follows.length:=by omega
  rw[List.take_length] at hG
  refine aG q3 ?_
  refine ae rfl ?_
  refine aC ?_
  exact⟨rfl,hk,q,cq,hp,hG,rfl,aO⟩
clear hG1 hp1 hb1
rintro e s' ⟨rfl,h2,q,c,hp1,hG1,hh,hf⟩
show CW _ _ _ _
refine aA _ hf ?_
rw[hh]
clear hf hh s'
have hb1:=ag hp1 hb
generalize hL:nP d.aa++d.follows.map (·.sort)=L at hG1
have hLl:(nP d.aa).length+d.follows.length=L.length:=by rw[← hL];simp
have hLb:L.length≤320:=by omega
rw[hLl] at hG1 ⊢
refine aG hb1 ?_
refine CW.mono (Q:=fun e s'=>e = .exit 4∧∃ (h2:ah) (q:Option Addr) (c:Nat),h <+: h2∧aK h h2 (.slice q (eM d).length c) (eM d).length ((eM d).map .string) 9∧s'.h=h2∧bB [(0,.val (.pointer (some ⟨ib,0,some 0⟩))),(4,.val (.slice q (eM d).length c))] s'.fr) ?_ ?_
·refine a9 d.an.length (fun k (x:ah×Option Addr×Nat)=>[(0,.val (.pointer (some ⟨ib,0,some 0⟩))),(4,.val (.slice x.2.1 (L++nR (d.an.take k)).length x.2.2)),(48,.val (.slice p4 d.an.length c4)),(49,.val (i64 d.an.length)),(50,.val (i64 k))]) (fun _ x=>x.1)
  (fun k x=>h <+: x.1∧aK h x.1 (.slice x.2.1 (L++nR (d.an.take k)).length x.2.2) (L++nR (d.an.take k)).length ((L++nR (d.an.take k)).map .string) 9) (h2,q,c) (by rw[List.take_zero,show nR []=[] from rfl,List.append_nil];exact aO) rfl ⟨hp1,by rw[List.take_zero,show nR []=[] from rfl,List.append_nil];exact hG1⟩ ?_
 clear hG1 hp1 hb1
 rintro k ⟨hk,q,cq⟩ hkn ⟨hp,hG⟩
 simp only at hp hG ⊢
 by_cases hlt:k<d.an.length
 ·obtain⟨id,au,own,c',hv,hid⟩:=bW.at (bW.mono hd.an hp) om
  cases hv
  have hrd:=gM hlt
  have w1:=cH hlt
  have w2:=inc hlt l4
  have q3:=aV hlt
  have hst:=HW hlt
  have hRl:(nR (d.an.take k)).length≤2*k:=by
   have:∀ l:List dB,(nR l).length=2*l.length:=fun l=>by induction l<;>simp_all [nR];omega
   rw[this,List.length_take]
   omega
  have hLk:(L++nR (d.an.take k)).length≤1000:=by rw[List.length_append];omega
  have hst2:(L++nR (d.an.take (k+1))).length=(L++nR (d.an.take k)).length+2:=by rw[hst];simp;omega
  have hst3:L++nR (d.an.take (k+1))=L++nR (d.an.take k)++[d.an[k].sort,d.an[k].jO]:=by rw[hst,List.append_assoc]
  refine aG q3 ?_
  refine af rfl ?_
  refine ir w1 hid hrd ?_
  refine Hf (t:=36) (cs:=[.string d.an[k].sort,.string d.an[k].jO]) (m:=2) kr Fu (by decide) rfl hG hp (by simp) (by decide) rfl (by simp only;omega) om ak rfl ak ?_
  intro p' c' h' k1 k2 _
  refine aG w2 ?_
  refine⟨hlt,(h',p',c'),(lF hst2),rfl,k1,?_⟩
  rw[hst2,hst3,List.map_append]
  exact k2
 ·have q3:=aT hlt
  obtain rfl:k=d.an.length:=by omega
  rw[List.take_length] at hG
  have hAL:L++nR d.an=eM d:=by rw[← hL];rfl
  rw[hAL] at hG
  refine aG q3 ?_
  refine ae rfl ?_
  refine aC ?_
  exact⟨rfl,hk,q,cq,hp,hG,rfl,by rw[List.take_length,hAL];exact aO⟩
clear hG1 hp1 hb1 hL hLl hLb
rintro e s' ⟨rfl,h3,q,c,hp1,hG1,hh,hf⟩
show CW _ _ _ _
refine aA _ hf ?_
rw[hh]
clear hf hh s'
have hb1:=ag hp1 hb
have hm1:=ag hp1 hm
have hAl:(eM d).length≤100000:=by
 have:∀ l:List dB,(nR l).length=2*l.length:=fun l=>by induction l<;>simp_all [nR];omega
 unfold eM
 rw[List.length_append,List.length_append,this,List.length_map]
 omega
have hN:bh h3 (.slice q (eM d).length c) (eM d):=hG1.sl (b:=16) om
refine aB ?_
refine df (eM d).length (fun k=>[(0,.val (.pointer (some ⟨ib,0,some 0⟩))),(62,.val (.slice q (eM d).length c)),(63,.val (i64 (eM d).length)),(64,.val (i64 k))]) (fun _=>h3) (fun k=>∀ i (hi:i<(eM d).length),i<k→b6 d.aa (eM d)[i]≠0) aO rfl (fun i _ hi=>absurd hi om) ?_
intro k hkn hall
by_cases hlt:k<(eM d).length
·obtain⟨id,au,own,c',cells,hv,hid,hc⟩:=hN.at hlt
 cases hv
 have e1:=cH hlt
 have e2:=inc hlt om
 have e3:=aV hlt
 refine aG e3 ?_
 refine af rfl ?_
 have hn:=hes (eM d)[k]
 have hstep:b6 d.aa (eM d)[k]≠0→∀ i (hi:i<(eM d).length),i<k+1→b6 d.aa (eM d)[i]≠0:=fun h3 i hi h2=>by
  rcases (by omega:i<k∨i=k) with h4|rfl
  ·exact hall i hi h4
  ·exact h3
 have hmem:(eM d)[k]∈eM d:=List.getElem_mem hlt
 generalize hNN:b6 d.aa (eM d)[k]=n at hn hstep
 rcases eT es (eM d)[k] with ⟨hg,h0'⟩ | hg
 ·obtain rfl:n=0:=by rw[← hn,h0']
  refine Re e1 hid hc hb1 hm1 hg hkk Nat.mul_one ?_
  refine af rfl ?_
  refine aB ?_
  refine ai ?_
  exact⟨_,ak,⟨43,_,rfl,⟨fun h=>(by cases h),fun h=>absurd hNN (h _ hmem)⟩⟩,hp1⟩
 ·rw[hn] at hg
  by_cases h3':n=0
  ·have hd3:=decide_eq_true h3'
   refine M9 e1 hid hc hb1 hm1 hg hkk Nat.mul_one hd3 ?_
   refine af rfl ?_
   refine aB ?_
   refine ai ?_
   exact⟨_,ak,⟨43,_,rfl,⟨fun h=>(by cases h),fun h=>absurd (hNN.trans h3') (h _ hmem)⟩⟩,hp1⟩
  ·have hd3:=decide_eq_false h3'
   refine M9 e1 hid hc hb1 hm1 hg hkk Nat.mul_one hd3 ?_
   refine ae rfl ?_
   refine aG e2 ?_
   exact⟨hlt,aO,rfl,hstep h3'⟩
·have e3:=aT hlt
 obtain rfl:k=(eM d).length:=by omega
 refine aG e3 ?_
 refine ae rfl ?_
 refine aC ?_
 show CW _ _ _ _
 refine aB ?_
 refine ai ?_
 refine⟨_,ak,⟨0,_,rfl,fun _ s hs=>?_,fun _=>rfl⟩,hp1⟩
 obtain⟨i,hi,rfl⟩:=List.getElem_of_mem hs
 exact hall i hi hi}
end
theorem sf {f:FuncId} {args:List Value} {h:ah} {K:Value→Prop} (hh:FW env f args h fun r h'=>(cV h.length r∧h <+: h')∧K r):FW env f args h fun r h'=>K r∧h'=h:=by{
unfold FW at hh ⊢
obtain⟨r,h',h0,⟨h1,h2⟩,h3⟩:=hh
exact⟨r,h,.gc h0 h1 (by obtain⟨t,rfl⟩:=h2;simp),h3,rfl⟩}
theorem ii.Mt {P:Prop} {r:Value} (k:ii P r) {n:Nat}:cV n r:=by{
obtain⟨e,w,rfl,_⟩:=k
refine .Ct fun i v hv=>?_
rcases i with _|_|i
·cases hv;exact .be rfl
·cases hv;exact .be rfl
·simp at hv}
theorem lq {f:FuncId} {args:List Value} {h:ah} {P:Prop} (hh:FW env f args h fun r h'=>ii P r∧h <+: h'):FW env f args h fun r h'=>ii P r∧h'=h:=
 sf (hh.mono fun r h' ⟨h1,h2⟩=>⟨⟨h1.Mt,h2⟩,h1⟩)
theorem uq {f:FuncId} {args:List Value} {h:ah} {b:Bool} (hh:FW env f args h fun r h'=>r = .bool b∧h <+: h'):FW env f args h fun r h'=>r = .bool b∧h'=h:=
 sf (hh.mono fun r h' ⟨h1,h2⟩=>⟨⟨h1▸.be rfl,h2⟩,h1⟩)
abbrev Sym.val (s:Sym):Value:=.agg #[i64 s.kind,.string s.text,u64 s.set.a,u64 s.set.b,u64 s.set.c,u64 s.set.d,.string s.name,.string s.sep]
abbrev Prod.val (p:Prod) (u:Value):Value:=.agg #[.bool p.lex,.string p.sort,.string p.cons,.bool p.bracket,u]
def dW (s:Sym):Bool:=decide (s.kind=4)||decide (s.kind=5)
section
variable {h:ah}
theorem pF {s:Sym}:FW env 134 [s.val] h fun r h'=>r = .bool (dW s)∧h'=h:=by{
refine fe Tryz.func134 ?_;simp only[push_cast]
by_cases q:s.kind=4
·have d1:=decide_eq_true q
 refine aG d1 ?_
 refine ai ?_
 exact⟨_,ak,by unfold dW;rw[d1];rfl,rfl⟩
·have d1:=decide_eq_false q
 refine aG d1 ?_
 refine ai ?_
 exact⟨_,ak,by unfold dW;rw[d1];rfl,rfl⟩}
def lX {α:Type} (P:α→Bool) (l:List α) (r:Int):Prop:=(∃ (k:Nat) (hk:k<l.length),P l[k]=true∧(∀ (i:Nat) (hi:i<k),P (l[i]'om)=false)∧r=k)∨((∀ x∈l,P x=false)∧r = -1)
theorem lX.neg {α:Type} {P:α→Bool} {l:List α} {r:Int} (h:lX P l r):decide (0≤r)=l.any P:=by{
rcases h with ⟨k,hk,h1,_,rfl⟩ | ⟨h1,rfl⟩
·rw[decide_eq_true om]
 exact (List.any_eq_true.2 ⟨_,List.getElem_mem hk,h1⟩).symm
·symm
 rw[show decide ((0:Int)≤-1)=false from rfl,List.any_eq_false]
 intro x hx
 simp [h1 x hx]}
theorem Cp {u:Value} {l:List Sym} {g:FuncId} {fn:Func} {cap:List Value} {P:Sym→Bool} (hy:fV h u l) (hf:env.P.funcs[g]? = some fn) (hnm:(fn.name == "runtime.NumGoroutine")=false) (hb:fn.body.isNone=false) (hP:∀ s∈l,FW env g (s.val :: cap) h fun r h'=>r = .bool (P s)∧h'=h):FW env 174 [u,.func (.func g) #[] cap.toArray] h fun r h'=>(∃ i,lX P l i∧r=i64 i)∧h'=h:=by{
obtain⟨ps,cs,rfl⟩:=bW.form hy
have hl:l.length≤140737488355328:=by have:=hy.1;omega
refine fe Tryz.func174 ?_;simp only[push_cast]
refine aB ?_
refine df l.length (fun k=>[(0,.val (.slice ps l.length cs)),(1,.val (.func (.func g) #[] cap.toArray)),(7,.val (i64 l.length)),(8,.val (i64 k))]) (fun _=>h) (fun k=>∀ i (hi:i<l.length),i<k→P l[i]=false) aO rfl (fun i _ hi=>absurd hi om) ?_
intro k hkn hall
by_cases hlt:k<l.length
·obtain⟨id,au,own,c',hv,hid⟩:=bW.at hy om
 have hg:=gV hlt
 have hPk:=hP _ (List.getElem_mem hlt)
 cases hv
 have e1:=cH hlt
 have e2:=inc hlt hl
 have e3:=aV hlt
 refine aG e3 ?_
 refine af rfl ?_
 refine ir e1 hid hg ?_
 refine zc (f:=g) (cap:=cap) (args:=[l[k].val]) (fn:=fn) (by simp only[push_cast,Nat.reduceEqDiff,reduceIte]) hf hnm hb ?_
 refine hPk.mono ?_
 rintro _ h1 ⟨rfl,rfl⟩
 cases hq:P l[k] with
 | true=>
   refine aB ?_
   refine af rfl ?_
   refine aB ?_
   refine ai ?_
   exact⟨_,ak,⟨_,.inl ⟨k,hlt,hq,fun i hi=>hall i om hi,rfl⟩,rfl⟩,rfl⟩
 | false=>
   refine aB ?_
   refine ae rfl ?_
   refine aG e2 ?_
   refine⟨hlt,aO,rfl,fun i hi h2=>?_⟩
   rcases (by omega:i<k∨i=k) with h3|rfl
   ·exact hall i hi h3
   ·exact hq
·have e3:=aT hlt
 obtain rfl:k=l.length:=by omega
 refine aG e3 ?_
 refine ae rfl ?_
 refine aC ?_
 show CW _ _ _ _
 refine aB ?_
 refine ai ?_
 refine⟨_,ak,⟨_,.inr ⟨fun x hx=>?_,rfl⟩,rfl⟩,rfl⟩
 obtain⟨i,hi,rfl⟩:=List.getElem_of_mem hx
 exact hall i hi hi}
theorem Cl {u:Value} {l:List Prod} {g:FuncId} {fn:Func} {cap:List Value} {P:Prod→Bool} (hy:eP h u l) (hf:env.P.funcs[g]? = some fn) (hnm:(fn.name == "runtime.NumGoroutine")=false) (hb:fn.body.isNone=false) (hP:∀ p∈l,∀ u,fV h u p.al→FW env g (p.val u :: cap) h fun r h'=>r = .bool (P p)∧h'=h):FW env 53 [u,.func (.func g) #[] cap.toArray] h fun r h'=>(∃ i,lX P l i∧r=i64 i)∧h'=h:=by{
obtain⟨ps,cs,rfl⟩:=cT.form hy
have hl:l.length≤140737488355328:=by have:=cT.le hy;omega
refine fe Tryz.func53 ?_;simp only[push_cast]
refine aB ?_
refine df l.length (fun k=>[(0,.val (.slice ps l.length cs)),(1,.val (.func (.func g) #[] cap.toArray)),(7,.val (i64 l.length)),(8,.val (i64 k))]) (fun _=>h) (fun k=>∀ i (hi:i<l.length),i<k→P l[i]=false) aO rfl (fun i _ hi=>absurd hi om) ?_
intro k hkn hall
by_cases hlt:k<l.length
·obtain⟨id,au,own,c',cells,u',hv,hid,hg,hu⟩:=cT.at (k:=5) (fun _ _=>rfl) hy hlt
 have hPk:=hP _ (List.getElem_mem hlt) u' hu
 cases hv
 have e1:=cH hlt
 have e2:=inc hlt hl
 have e3:=aV hlt
 refine aG e3 ?_
 refine af rfl ?_
 refine ir e1 hid hg ?_
 refine zc (f:=g) (cap:=cap) (args:=[l[k].val u']) (fn:=fn) (by simp only[push_cast,Nat.reduceEqDiff,reduceIte]) hf hnm hb ?_
 refine hPk.mono ?_
 rintro _ h1 ⟨rfl,rfl⟩
 cases hq:P l[k] with
 | true=>
   refine aB ?_
   refine af rfl ?_
   refine aB ?_
   refine ai ?_
   exact⟨_,ak,⟨_,.inl ⟨k,hlt,hq,fun i hi=>hall i om hi,rfl⟩,rfl⟩,rfl⟩
 | false=>
   refine aB ?_
   refine ae rfl ?_
   refine aG e2 ?_
   refine⟨hlt,aO,rfl,fun i hi h2=>?_⟩
   rcases (by omega:i<k∨i=k) with h3|rfl
   ·exact hall i hi h3
   ·exact hq
·have e3:=aT hlt
 obtain rfl:k=l.length:=by omega
 refine aG e3 ?_
 refine ae rfl ?_
 refine aC ?_
 show CW _ _ _ _
 refine aB ?_
 refine ai ?_
 refine⟨_,ak,⟨_,.inr ⟨fun x hx=>?_,rfl⟩,rfl⟩,rfl⟩
 obtain⟨i,hi,rfl⟩:=List.getElem_of_mem hx
 exact hall i hi hi}
theorem nC {u:Value} {l:List Sym} {g:FuncId} {fn:Func} {cap:List Value} {P:Sym→Bool} (hy:fV h u l) (hf:env.P.funcs[g]? = some fn) (hnm:(fn.name == "runtime.NumGoroutine")=false) (hb:fn.body.isNone=false) (hP:∀ s∈l,FW env g (s.val :: cap) h fun r h'=>r = .bool (P s)∧h'=h):FW env 130 [u,.func (.func g) #[] cap.toArray] h fun r h'=>r = .bool (l.any P)∧h'=h:=by{
have hI:=Cp hy hf hnm hb hP
obtain⟨ps,cs,rfl⟩:=bW.form hy
refine fe Tryz.func130 ?_;simp only[push_cast]
refine aB ?_
refine zj Tryz.func174 ?_
refine hI.mono ?_
rintro _ h1 ⟨⟨i,hi,rfl⟩,rfl⟩
have hd:=hi.neg
refine aG hd ?_
refine ai ?_
exact⟨_,ak,rfl,rfl⟩}
end
def lT (name:ByteArray) (p:Prod):Bool:=!p.lex&&decide (p.cons=name)
def iX (ps:List Prod) (name:ByteArray) (r:Int):Prop:=(name.size=0∧r = -1)∨(name.size≠0∧lX (lT name) ps r)
section
variable {h:ah} {d:b7} {up uc uf ur ub:Value}
theorem Cv {p:Prod} {u:Value} {name:ByteArray} {ix:Nat} (hx:h[ix]? = some (.aj [.string name] 0 true 9)) (hy:fV h u p.al):FW env 54 [p.val u,.pointer (some ⟨ix,0,some 0⟩)] h fun r h'=>r = .bool (lT name p)∧h'=h:=by{
obtain⟨ps,cs,rfl⟩:=bW.form hy
unfold Prod.val
refine fe Tryz.func54 ?_;simp only[push_cast]
cases hl:p.lex with
| true=>
  refine aG hl ?_
  refine ai ?_
  exact⟨_,ak,by unfold lT;rw[hl];rfl,rfl⟩
| false=>
  refine fM hl hx ?_
  refine ai ?_
  exact⟨_,ak,by unfold lT;rw[hl];rfl,rfl⟩}
theorem qh {name:ByteArray} (hd:bK h d up uc uf ur ub):FW env 24 [.agg (d.val up uc uf ur ub).toArray,.string name] h fun r h'=>(∃ i,iX d.aa name i∧r=i64 i)∧h'=h:=by{
refine sf (K:=fun r=>∃ i,iX d.aa name i∧r=i64 i) ?_
obtain⟨p1,c1,p2,c2,p3,c3,p4,c4,p5,c5,rfl,rfl,rfl,rfl,rfl,l1,l2,l3,l4,l5⟩:=bK.form hd
refine fe Tryz.func24 ?_;simp only[push_cast]
unfold b7.val
refine zu ?_
iterate 1 (apply ej;·simp only[push_cast,env,Nat.reduceEqDiff,reduceIte,Nat.reduceAdd,Nat.reduceMul,Nat.reduceLeDiff,reduceCtorEq,Nat.reduceSub,Int.reduceToNat]<;>exact rfl)
refine dw (t:=9) (cs:=[.string name]) ak ak ?_
dsimp only[St.aX,St.put]
have hx:(h++[av.aj [.string name] 0 true 9])[h.length]? = some (.aj [.string name] 0 true 9):=aJ
have hpre:h <+: h++[av.aj [.string name] 0 true 9]:=aI
generalize (h++[av.aj [.string name] 0 true 9])=h1 at hx hpre ⊢
have hlen:=hpre.length_le
by_cases q:name=⟨#[]⟩
·have d1:=decide_eq_true q
 refine fM hx d1 ?_
 refine af rfl ?_
 refine aB ?_
 refine ai ?_
 exact⟨_,ak,⟨.be rfl,hpre⟩,-1,.inl ⟨jd.1 q,rfl⟩,rfl⟩
·have d1:=decide_eq_false q
 refine fM hx d1 ?_
 refine ae rfl ?_
 refine aB ?_
 refine zj Tryz.func53 ?_
 refine (Cl (P:=lT name) (cap:=[.pointer (some ⟨h.length,0,some 0⟩)]) (g:=54) (fn:=Tryz.f54) (hd.aa.mono hpre) Tryz.func54 kr kr (fun p _ u hu=>Cv hx hu)).mono ?_
 rintro _ h2 ⟨⟨i,hi,rfl⟩,rfl⟩
 refine aB ?_
 refine ai ?_
 exact⟨_,ak,⟨.be rfl,hpre⟩,i,.inr ⟨fun h=>q (jd.2 h),hi⟩,rfl⟩}
theorem FA {pv:Value} {p:Prod} {u:Value} (hy:fV h u p.al):FW env 76 [pv,p.val u] h fun r h'=>r = .bool (p.al.any (fun s=>decide (s.kind=1)&&decide (s.text=⟨#[]⟩))||p.al.all dW)∧h'=h:=by{
obtain⟨ps,cs,rfl⟩:=bW.form hy
have hle:p.al.length*88≤140737488355328:=hy.1
have hl:p.al.length≤140737488355328:=by omega
refine fe Tryz.func76 ?_;simp only[push_cast]
refine aB ?_
refine df p.al.length (fun k=>[(5,.val (.bool ((p.al.take k).all dW))),(9,.val (.slice ps p.al.length cs)),(10,.val (i64 p.al.length)),(11,.val (i64 k))]) (fun _=>h) (fun k=>∀ i (hi:i<p.al.length),i<k→(decide (p.al[i].kind=1)&&decide (p.al[i].text=⟨#[]⟩))=false) aO rfl (fun i _ hi=>absurd hi om) ?_
intro k hkn hall
by_cases hlt:k<p.al.length
·obtain⟨id,au,own,c',hv,hid⟩:=bW.at hy om
 cases hv
 have hg:=gV hlt
 have e1:=cH hlt
 have e2:=inc hlt hl
 have e3:=aV hlt
 have hst:(p.al.take (k+1)).all dW=((p.al.take k).all dW&&dW p.al[k]):=by
  rw[List.take_succ_eq_append_getElem hlt,List.all_append]
  simp
 have hstep:(decide (p.al[k].kind=1)&&decide (p.al[k].text=⟨#[]⟩))=false→∀ i (hi:i<p.al.length),i<k+1→(decide (p.al[i].kind=1)&&decide (p.al[i].text=⟨#[]⟩))=false:=fun h3 i hi h2=>by
  rcases (by omega:i<k∨i=k) with h4|rfl
  ·exact hall i hi h4
  ·exact h3
 refine aG e3 ?_
 refine af rfl ?_
 obtain⟨q,hq⟩:∃ q,q=(decide (p.al[k].kind=1)&&decide (p.al[k].text=⟨#[]⟩)):=⟨_,rfl⟩
 rw[← hq] at hstep
 by_cases q1:p.al[k].kind=1
 ·have d1:=decide_eq_true q1
  by_cases q2:p.al[k].text=⟨#[]⟩
  ·have d2:=decide_eq_true q2
   refine ox e1 hid hg d1 d2 ?_
   refine af rfl ?_
   refine aB ?_
   refine ai ?_
   refine⟨_,ak,?_,rfl⟩
   have:p.al.any (fun s=>decide (s.kind=1)&&decide (s.text=⟨#[]⟩))=true:=List.any_eq_true.2 ⟨_,List.getElem_mem hlt,by rw[d1,d2];rfl⟩
   rw[this]
   rfl
  ·have d2:=decide_eq_false q2
   rw[d1,d2] at hq
   refine ox e1 hid hg d1 d2 ?_
   refine ae rfl ?_
   cases hA:(p.al.take k).all dW with
   | false=>
     rw[hA,Bool.false_and] at hst
     refine aG e2 ?_
     refine⟨hlt,(lF hst),rfl,hstep hq⟩
   | true=>
     rw[hA,Bool.true_and] at hst
     refine aB ?_
     refine zj Tryz.func134 ?_
     refine pF.mono ?_
     rintro _ h1 ⟨rfl,rfl⟩
     refine aG e2 ?_
     refine⟨hlt,(lF hst),rfl,hstep hq⟩
 ·have d1:=decide_eq_false q1
  rw[d1] at hq
  refine fN e1 hid hg d1 ?_
  refine ae rfl ?_
  cases hA:(p.al.take k).all dW with
  | false=>
    rw[hA,Bool.false_and] at hst
    refine aG e2 ?_
    refine⟨hlt,(lF hst),rfl,hstep hq⟩
  | true=>
    rw[hA,Bool.true_and] at hst
    refine aB ?_
    refine zj Tryz.func134 ?_
    refine pF.mono ?_
    rintro _ h1 ⟨rfl,rfl⟩
    refine aG e2 ?_
    refine⟨hlt,(lF hst),rfl,hstep hq⟩
·have e3:=aT hlt
 obtain rfl:k=p.al.length:=by omega
 refine aG e3 ?_
 refine ae rfl ?_
 refine aC ?_
 show CW _ _ _ _
 refine aB ?_
 refine ai ?_
 refine⟨_,ak,?_,rfl⟩
 have:p.al.any (fun s=>decide (s.kind=1)&&decide (s.text=⟨#[]⟩))=false:=List.any_eq_false.2 fun x hx=>by
  obtain⟨i,hi,rfl⟩:=List.getElem_of_mem hx
  rw[hall i hi hi]
  decide
 rw[this,List.take_length]
 rfl}
end
section
variable {h:ah} {r:Value} {d:b7}
theorem nc {i1 i2:Nat} {g:FuncId} {fn:Func} {er:Int} {B:Prod→Bool} (hk:Bk h r d) (hf:env.P.funcs[g]? = some fn) (hnm:(fn.name == "runtime.NumGoroutine")=false) (hbd:fn.body.isNone=false) (hx1:h[i1]? = some (.aj [.func (.func g) #[] #[]] 0 true 142)) (hx2:h[i2]? = some (.aj [i64 er] 0 true 44)) (he:er≠0) (hB:∀ p∈d.aa,∀ u,fV h u p.al→FW env g [r,p.val u] h fun x h'=>x = .bool (B p)∧h'=h) : FW env 129 [r,.pointer (some ⟨i1,0,some 0⟩),.pointer (some ⟨i2,0,some 0⟩)] h fun x h'=>ii (∀ p∈d.aa,B p=false) x∧h'=h:=by{
obtain⟨h0,ib,im,sv,up,uc,uf,ur,ub,rfl,hd,K⟩:=hk
have hd:=hd.mono K.p
obtain⟨p1,c1,p2,c2,p3,c3,p4,c4,p5,c5,rfl,rfl,rfl,rfl,rfl,l1,l2,l3,l4,l5⟩:=bK.form hd
obtain⟨es,hm,hes⟩:=K.m
have hb:=K.b
unfold b7.val at hb
simp only[List.cons_append,List.nil_append] at hb
have hkk:=bm es
have hss:bh h sv (aF d.aa):=K.s.sl (b:=16) (by have:=b8 (ps:=d.aa);have:=cT.le hd.aa;omega)
obtain⟨pq,cq,rfl⟩:=hss.form
refine fe Tryz.func129 ?_;simp only[push_cast]
refine aG hb ?_
refine df d.aa.length (fun k=>[(0,.val (.pointer (some ⟨ib,0,some 0⟩))),(1,.val (.pointer (some ⟨i1,0,some 0⟩))),(2,.val (.pointer (some ⟨i2,0,some 0⟩))),(12,.val (.slice p1 d.aa.length c1)),(13,.val (i64 d.aa.length)),(14,.val (i64 k))]) (fun _=>h) (fun k=>∀ i (hi:i<d.aa.length),i<k→B d.aa[i]=false) aO rfl (fun i _ hi=>absurd hi om) ?_
intro k hkn hall
by_cases hlt:k<d.aa.length
·obtain⟨id,au,own,c',cells,u,hv,hid,hg,hu⟩:=cT.at (k:=5) (fun _ _=>rfl) hd.aa hlt
 cases hv
 have hPk:=hB _ (List.getElem_mem hlt) u hu
 obtain⟨ps,cs,rfl⟩:=bW.form hu
 have e1:=cH hlt
 have e2:=inc hlt l1
 have e3:=aV hlt
 refine aG e3 ?_
 refine af rfl ?_
 refine fN e1 hid hg hx1 ?_
 refine zc (f:=g) (cap:=[]) (args:=[.pointer (some ⟨ib,0,some 0⟩),d.aa[k].val (.slice ps d.aa[k].al.length cs)]) (fn:=fn) ak hf hnm hbd ?_
 rw[List.append_nil]
 refine hPk.mono ?_
 rintro _ h1 ⟨rfl,rfl⟩
 cases hq:B d.aa[k] with
 | true=>
   refine aB ?_
   refine af rfl ?_
   refine aB ?_
   refine aL 4 mixed kr ?_
   refine aG hx2 ?_
   refine ai ?_
   exact⟨_,ak,⟨er,_,rfl,⟨fun h=>absurd h he,fun h=>absurd (h _ (List.getElem_mem hlt)) (by rw[hq];decide)⟩⟩,rfl⟩
 | false=>
   refine aB ?_
   refine ae rfl ?_
   refine aG e2 ?_
   refine⟨hlt,aO,rfl,fun i hi h2=>?_⟩
   rcases (by omega:i<k∨i=k) with h3|rfl
   ·exact hall i hi h3
   ·exact hq
·have e3:=aT hlt
 obtain rfl:k=d.aa.length:=by omega
 refine aG e3 ?_
 refine ae rfl ?_
 refine aC ?_
 show CW _ _ _ _
 refine aB ?_
 refine ai ?_
 refine⟨_,ak,⟨0,_,rfl,fun _ p hp=>?_,fun _=>rfl⟩,rfl⟩
 obtain⟨i,hi,rfl⟩:=List.getElem_of_mem hp
 exact hall i hi hi}
def Dj (ps:List Prod):Prop:=∀ (i:Nat) (hi:i<ps.length) (c:Int),iX ps ps[i].cons c→¬ (ps[i].lex=false∧0≤c∧c<i)
theorem iX.zB {ps:List Prod} {n:ByteArray} {a b:Int} (h1:iX ps n a) (h2:iX ps n b):a=b:=by{
rcases h1 with ⟨e1,rfl⟩ | ⟨e1,f1⟩<;>rcases h2 with ⟨e2,rfl⟩ | ⟨e2,f2⟩
·rfl
·exact absurd e1 e2
·exact absurd e2 e1
·rcases f1 with ⟨k,hk,a1,a2,rfl⟩ | ⟨a1,rfl⟩<;>rcases f2 with ⟨k',hk',b1,b2,rfl⟩ | ⟨b1,rfl⟩
 ·rcases (by omega:k<k'∨k=k'∨k'<k) with g|g|g
  ·have:=b2 k g;rw[a1] at this;cases this
  ·rw[g]
  ·have:=a2 k' g;rw[b1] at this;cases this
 ·have:=b1 _ (List.getElem_mem hk);rw[a1] at this;cases this
 ·have:=a1 _ (List.getElem_mem hk');rw[b1] at this;cases this
 ·rfl}
theorem EK (hk:Bk h r d):FW env 73 [r] h fun x h'=>ii (Dj d.aa) x∧h'=h:=by{
obtain⟨h0,ib,im,sv,up,uc,uf,ur,ub,rfl,hd,K⟩:=hk
have hd:=hd.mono K.p
obtain⟨p1,c1,p2,c2,p3,c3,p4,c4,p5,c5,rfl,rfl,rfl,rfl,rfl,l1,l2,l3,l4,l5⟩:=bK.form hd
obtain⟨es,hm,hes⟩:=K.m
have hb:=K.b
unfold b7.val at hb
simp only[List.cons_append,List.nil_append] at hb
have hkk:=bm es
have hss:bh h sv (aF d.aa):=K.s.sl (b:=16) (by have:=b8 (ps:=d.aa);have:=cT.le hd.aa;omega)
obtain⟨pq,cq,rfl⟩:=hss.form
refine fe Tryz.func73 ?_;simp only[push_cast]
refine aG hb ?_
refine df d.aa.length (fun k=>[(0,.val (.pointer (some ⟨ib,0,some 0⟩))),(11,.val (.slice p1 d.aa.length c1)),(12,.val (i64 d.aa.length)),(13,.val (i64 k))]) (fun _=>h) (fun k=>∀ i (hi:i<d.aa.length),i<k→∀ c:Int,iX d.aa d.aa[i].cons c→¬ (d.aa[i].lex=false∧0≤c∧c<i)) aO rfl (fun i _ hi=>absurd hi om) ?_
intro k hkn hall
by_cases hlt:k<d.aa.length
·obtain⟨id,au,own,c',cells,u,hv,hid,hg,hu⟩:=cT.at (k:=5) (fun _ _=>rfl) hd.aa hlt
 cases hv
 obtain⟨ps,cs,rfl⟩:=bW.form hu
 have e1:=cH hlt
 have e2:=inc hlt l1
 have e3:=aV hlt
 have hstep:∀ ci:Int,iX d.aa d.aa[k].cons ci→¬ (d.aa[k].lex=false∧0≤ci∧ci<k)→∀ i (hi:i<d.aa.length),i<k+1→∀ c:Int,iX d.aa d.aa[i].cons c→¬ (d.aa[i].lex=false∧0≤c∧c<i):=fun ci hci h3 i hi h2 c hc=>by
  rcases (by omega:i<k∨i=k) with h4|rfl
  ·exact hall i hi h4 c hc
  ·rw[hc.zB hci];exact h3
 refine aG e3 ?_
 refine af rfl ?_
 refine ir e1 hid hg ?_
 refine aL 6 mixed kr ?_
 refine aG hb ?_
 refine zj Tryz.func24 ?_
 refine (qh (name:=d.aa[k].cons) hd).mono ?_
 rintro _ h1 ⟨⟨ci,hci,rfl⟩,rfl⟩
 cases hl:d.aa[k].lex with
 | true=>
   refine aG hl ?_
   refine ae rfl ?_
   refine aG e2 ?_
   exact⟨hlt,aO,rfl,hstep ci hci (fun h=>by rw[hl] at h;cases h.1)⟩
 | false=>
   by_cases q1:0≤ci
   ·have d1:=decide_eq_true q1
    by_cases q2:ci<(k:Int)
    ·have d2:=decide_eq_true q2
     refine ir hl d1 d2 ?_
     refine af rfl ?_
     refine aB ?_
     refine aL 3 mixed kr ?_
     refine aB ?_
     refine ai ?_
     exact⟨_,ak,⟨45,_,rfl,⟨fun h=>(by cases h),fun h=>absurd ⟨hl,q1,q2⟩ (h k hlt ci hci)⟩⟩,rfl⟩
    ·have d2:=decide_eq_false q2
     refine ir hl d1 d2 ?_
     refine ae rfl ?_
     refine aG e2 ?_
     exact⟨hlt,aO,rfl,hstep ci hci (fun h=>q2 h.2.2)⟩
   ·have d1:=decide_eq_false q1
    refine fM hl d1 ?_
    refine ae rfl ?_
    refine aG e2 ?_
    exact⟨hlt,aO,rfl,hstep ci hci (fun h=>q1 h.2.1)⟩
·have e3:=aT hlt
 obtain rfl:k=d.aa.length:=by omega
 refine aG e3 ?_
 refine ae rfl ?_
 refine aC ?_
 show CW _ _ _ _
 refine aB ?_
 refine ai ?_
 refine⟨_,ak,⟨0,_,rfl,fun _ i hi c hc=>hall i hi hi c hc,fun _=>rfl⟩,rfl⟩}
end
def cN (b:ByteArray):Bool:=decide (b=⟨#[]⟩)
def iw (d:b7) (lex:Bool) (s:Sym):Bool:=if lex then (!cN s.sep||(!cN s.name && !dC d.aa s.name true)) else (!decide (s.kind=1)&&(cN s.name||decide (s.name=d.layout)))
section
variable {h:ah} {r:Value} {d:b7}
theorem CR {i2 i3:Nat} {p:Prod} {u:Value} {s:Sym} (hk:Bk h r d) (hy:fV h u p.al) (hx3:h[i3]? = some (.aj [.bool p.lex,.string p.sort,.string p.cons,.bool p.bracket,u] 0 true 51)) (hx2:h[i2]? = some (.aj [r] 0 true 137)) : FW env 131 [s.val,.pointer (some ⟨i3,0,some 0⟩),.pointer (some ⟨i2,0,some 0⟩)] h fun x h'=>x = .bool (iw d p.lex s)∧h'=h:=by{
have hk0:=hk
obtain⟨h0,ib,im,sv,up,uc,uf,ur,ub,rfl,hd,K⟩:=hk
have hd:=hd.mono K.p
obtain⟨p1,c1,p2,c2,p3,c3,p4,c4,p5,c5,rfl,rfl,rfl,rfl,rfl,l1,l2,l3,l4,l5⟩:=bK.form hd
obtain⟨es,hm,hes⟩:=K.m
have hb:=K.b
unfold b7.val at hb
simp only[List.cons_append,List.nil_append] at hb
have hkk:=bm es
have hss:bh h sv (aF d.aa):=K.s.sl (b:=16) (by have:=b8 (ps:=d.aa);have:=cT.le hd.aa;omega)
obtain⟨pq,cq,rfl⟩:=hss.form
obtain⟨ps,cs,rfl⟩:=bW.form hy
refine fe Tryz.func131 ?_;simp only[push_cast]
cases hl:p.lex with
| true=>
  rw[hl] at hx3
  by_cases q1:s.sep=⟨#[]⟩
  ·have d1:=decide_eq_true q1
   by_cases q2:s.name=⟨#[]⟩
   ·have d2:=decide_eq_true q2
    refine aG hx3 ?_
    refine af rfl ?_
    refine fM d1 d2 ?_
    refine ai ?_
    exact⟨_,ak,by simp [cD,iw,cN,d1,d2],rfl⟩
   ·have d2:=decide_eq_false q2
    refine aG hx3 ?_
    refine af rfl ?_
    refine ir d1 d2 hx2 ?_
    refine zj Tryz.func132 ?_
    refine (ml hk0).mono ?_
    rintro _ h1 ⟨rfl,rfl⟩
    refine aB ?_
    refine ai ?_
    exact⟨_,ak,by simp [cD,iw,cN,d1,d2],rfl⟩
  ·have d1:=decide_eq_false q1
   refine aG hx3 ?_
   refine af rfl ?_
   refine aG d1 ?_
   refine ai ?_
   exact⟨_,ak,by simp [cD,iw,cN,d1],rfl⟩
| false=>
  rw[hl] at hx3
  refine aG hx3 ?_
  refine ae rfl ?_
  refine aB ?_
  refine aL 18 mixed kr ?_
  by_cases q1:s.kind=1
  ·have d1:=decide_eq_true q1
   refine aG d1 ?_
   refine ai ?_
   exact⟨_,ak,by simp [cD,iw,d1],rfl⟩
  ·have d1:=decide_eq_false q1
   by_cases q2:s.name=⟨#[]⟩
   ·have d2:=decide_eq_true q2
    refine fM d1 d2 ?_
    refine ai ?_
    exact⟨_,ak,by simp [cD,iw,cN,d1,d2],rfl⟩
   ·have d2:=decide_eq_false q2
    refine fN d1 d2 hx2 hb ?_
    refine ai ?_
    exact⟨_,ak,by simp [cD,iw,cN,d1,d2],rfl⟩}
theorem Hu {p:Prod} {u:Value} (hk:Bk h r d) (hy:fV h u p.al):FW env 72 [r,p.val u] h fun x h'=>x = .bool (p.al.any (iw d p.lex))∧h'=h:=by{
refine uq ?_
have hk0:=hk
obtain⟨ps,cs,rfl⟩:=bW.form hy
obtain⟨ib,rfl⟩:∃ ib,r = .pointer (some ⟨ib,0,some 0⟩):=by obtain⟨_,ib,_,_,_,_,_,_,_,e,_⟩:=hk;exact⟨ib,e⟩
unfold Prod.val
refine fe Tryz.func72 ?_;simp only[push_cast]
refine zu ?_
refine dw (t:=137) (cs:=[.pointer (some ⟨ib,0,some 0⟩)]) ak ak ?_
dsimp only[St.aX,St.put]
have hp1:h <+: h++[av.aj [.pointer (some ⟨ib,0,some 0⟩)] 0 true 137]:=aI
have hx2:(h++[av.aj [.pointer (some ⟨ib,0,some 0⟩)] 0 true 137])[h.length]? = some (.aj [.pointer (some ⟨ib,0,some 0⟩)] 0 true 137):=aJ
generalize (h++[av.aj [.pointer (some ⟨ib,0,some 0⟩)] 0 true 137])=h1 at hp1 hx2 ⊢
generalize h.length=i2 at hx2 ⊢
refine dw (t:=51) (cs:=[.bool p.lex,.string p.sort,.string p.cons,.bool p.bracket,.slice ps p.al.length cs]) ak ak ?_
dsimp only[St.aX,St.put]
have hp2:h1 <+: h1++[av.aj [.bool p.lex,.string p.sort,.string p.cons,.bool p.bracket,.slice ps p.al.length cs] 0 true 51]:=aI
have hx3:(h1++[av.aj [.bool p.lex,.string p.sort,.string p.cons,.bool p.bracket,.slice ps p.al.length cs] 0 true 51])[h1.length]? = some (.aj [.bool p.lex,.string p.sort,.string p.cons,.bool p.bracket,.slice ps p.al.length cs] 0 true 51):=aJ
generalize (h1++[av.aj [.bool p.lex,.string p.sort,.string p.cons,.bool p.bracket,.slice ps p.al.length cs] 0 true 51])=h2 at hp2 hx3 ⊢
generalize h1.length=i3 at hx3 ⊢
have hx2':=ag hp2 hx2
have hp:=hp1.trans hp2
refine aG hx3 ?_
refine zj Tryz.func130 ?_
refine (nC (P:=iw d p.lex) (cap:=[.pointer (some ⟨i3,0,some 0⟩),.pointer (some ⟨i2,0,some 0⟩)]) (g:=131) (fn:=Tryz.f131) (hy.mono hp) Tryz.func131 kr kr (fun s _=>CR (hk0.mono hp) (hy.mono hp) hx3 hx2')).mono ?_
rintro _ h2 ⟨rfl,rfl⟩
refine aB ?_
refine ai ?_
exact⟨_,ak,rfl,hp⟩}
end
end Go.Proofs.YtmdmimkbpikmoaaGreat
namespace Go.Proofs.YtmdmimkbpikmoaaGreat.Am
open Go.RowKit
section
variable {N:Env} {ops:Array Oper} {L:List (List Nat)} {act:List Nat} {s0:St} {res res':Nat→fW} {Hs:Nat→ah} {a st d:Nat} {cs':List Value} {v0:fK}
def gB (N:Env) (ops:Array Oper) (act:List Nat) (s0:St) (res res':Nat→fW) (Hs:Nat→ah) (st:Nat) (S:Array Bool) (t:St):Prop:=
 (S.getD st false=false∧uk N ops act s0 res Hs S t)∨(S.getD st false=true∧uk N ops act s0 res' Hs S t)
structure yg (N:Env) (ops:Array Oper) (L:List (List Nat)) (act:List Nat) (s0:St) (res res':Nat→fW) (a st d:Nat) (cs':List Value) (v0:fK):Prop where
 same:∀ j,j≠a→res' j=res j
 da:bA ops a=some d
 Tv:res a = .sl v0
 ra:res' a = .sl (.box cs')
 o:∃ o,ops[st]? = some o∧o.dst=none
 I8:a∈fw L st
 na:st∉act
 free:∀ i,i≠st→a∉fw L i
 TN:∀ o h,ops[st]? = some o→∃ V,View ops L s0 res st V∧V.h=h∧∀ t,fl V t→Ev N (.ops ops [o] t { t with fr:=fp t.fr d (.box cs') })
theorem gB.step (C:qw ops L act) (Z:yg N ops L act s0 res res' a st d cs' v0) (hT:∀ j sl off,res j = .ep sl off→∀ i,bA ops i≠some sl) (hstep:∀ i o k,i≠st→ops[i]? = some o→k≤act.length→fP L act i k=true→∃ V,View ops L s0 res i V∧V.h=Hs k∧One N ops o V (res i) (Hs (if i∈act then k+1 else k))) {S:Array Bool} {t:St} {i:Nat} {o:Oper} (I:gB N ops act s0 res res' Hs st S t) (hi:i∈Region.ready .any ops S) (ho:ops[i]? = some o) : ∃ s',Ev N (.ops ops [o] t s')∧gB N ops act s0 res res' Hs st (S.setIfInBounds i true) s':=by{
have hT':∀ j sl off,res' j = .ep sl off→∀ i,bA ops i≠some sl:=fun j sl off h=>by
 by_cases hj:j=a
 ·subst hj
  rw[Z.ra] at h
  cases h
 ·rw[Z.same j hj] at h
  exact hT j sl off h
obtain⟨hun,oi,hoi,hall⟩:=mem_ready.1 hi
obtain rfl:oi=o:=Option.some.inj (hoi.symm.trans ho)
have hlt:i<ops.size:=(Array.getElem?_eq_some_iff.1 ho).1
have hr:∀ o,ops[i]? = some o→∀ e∈o.after,Region.binds .any e=true→S.getD e.on false=true:=fun o' ho' e he hb=>by
 obtain rfl:oi=o':=Option.some.inj (ho.symm.trans ho')
 exact hall e he hb
have hnot:S.getD i false=false:=getD_both hun
obtain⟨ost,host,hdn⟩:=Z.o
have hstd:bA ops st=none:=by simp [bA,host,hdn]
rcases I with ⟨h0,I⟩ | ⟨h0,I⟩
·by_cases his:i=st
 ·subst his
  have hltS:i<S.size:=by rw[I.size];exact hlt
  have hset:∀ j,((S.setIfInBounds i true).getD j false=true)↔(j=i∨S.getD j false=true):=fun j=>ew hltS
  obtain⟨V,hV,hVh,hsto⟩:=Z.TN oi t.h ho
  have hsub:=hV.sub C I hlt hr hVh
  have hain:S.getD a false=true:=jl C I.size I.closed i a hlt hr Z.I8
  refine⟨_,hsto t hsub,.inr ⟨(hset i).2 (.inl rfl),by simp [I.size],fun j o hj hl e he hb=>?_,?_,fun x hx=>?_,fun j d' v hj hl hv=>?_,fun j d' sl off hj hl hv=>?_,I.Mh⟩⟩
  ·rw[hset]
   rcases (hset j).1 hl with rfl|h
   ·exact .inr (hr o hj e he hb)
   ·exact .inr (I.closed j o hj h e he hb)
  ·obtain⟨k,hk,hh,hpre⟩:=I.pre
   refine⟨k,hk,hh,fun j hj=>?_⟩
   rw[hset]
   constructor
   ·rintro (h|h)
    ·exact (Z.na (by rw[← h];simp [hj])).elim
    ·exact (hpre j hj).1 h
   ·exact fun h=>.inr ((hpre j hj).2 h)
  ·have hxd:d≠x:=fun e=>hx a (e▸Z.da)
   simp only[bt]
   rw[if_neg hxd]
   exact I.out x hx
  ·have hji:j≠i:=fun e=>by rw[e,hstd] at hj;cases hj
   have hl':=((hset j).1 hl).resolve_left hji
   by_cases hja:j=a
   ·subst hja
    obtain rfl:d=d':=Option.some.inj (Z.da.symm.trans hj)
    rw[Z.ra] at hv
    cases hv
    simp only[bt,if_true]
    exact⟨trivial,(I.pe j d v0 hj hl' Z.Tv).2⟩
   ·have hdd:d≠d':=fun e=>hja (C.dst j a d (e▸hj) Z.da)
    simp only[bt]
    rw[if_neg hdd]
    rw[Z.same j hja] at hv
    exact I.pe j d' v hj hl' hv
  ·have hji:j≠i:=fun e=>by rw[e,hstd] at hj;cases hj
   have hja:j≠a:=fun e=>by rw[e,Z.ra] at hv;cases hv
   rw[Z.same j hja] at hv
   exact I.Bc j d' sl off hj (((hset j).1 hl).resolve_left hji) hv
 ·obtain⟨s',h1,h2⟩:=I.step C hT (fun o k=>hstep i o k his) hi ho
  exact⟨s',h1,.inl ⟨by rw[getD_set_ne false his];exact h0,h2⟩⟩
·have his:i≠st:=fun e=>by rw[e,h0] at hnot;cases hnot
 have hlst:st<ops.size:=(Array.getElem?_eq_some_iff.1 host).1
 have hia:i≠a:=fun e=>by
  have:=jl C I.size I.closed st a hlst (fun o' ho' e he hb=>I.closed st o' ho' h0 e he hb) Z.I8
  rw[← e,hnot] at this
  cases this
 obtain⟨s',h1,h2⟩:=I.step C hT' (fun o k h1 h2 h3=>by
  obtain⟨V,hV,hVh,hone⟩:=hstep i o k his h1 h2 h3
  refine⟨V,⟨fun x=>?_,fun x p hp=>?_,hV.n⟩,hVh,by rw[Z.same i hia];exact hone⟩
  ·rcases hV.f x with h|h|⟨j,h4,h5,h6⟩
   ·exact .inl h
   ·exact .inr (.inl h)
   ·refine .inr (.inr ⟨j,h4,h5,?_⟩)
    rw[Z.same j (fun e=>Z.free i his (e▸h5))]
    exact h6
  ·obtain⟨j,sl,off,h4,h5,h6,h7⟩:=hV.e x p hp
   refine⟨j,sl,off,h4,h5,?_,h7⟩
   rw[Z.same j (fun e=>Z.free i his (e▸h5))]
   exact h6) hi ho
 exact⟨s',h1,.inr ⟨by rw[getD_set_ne false his];exact h0,h2⟩⟩}
theorem BL {id:Nat} {s:St} {frF:Fr} (hm:N.P.follows .mixedOrders=true) (C:qw ops L act) (Z:yg N ops L act s res res' a st d cs' v0) (hT:∀ j sl off,res j = .ep sl off→∀ i,bA ops i≠some sl) (hstep:∀ i o k,i≠st→ops[i]? = some o→k≤act.length→fP L act i k=true→∃ V,View ops L s res i V∧V.h=Hs k∧One N ops o V (res i) (Hs (if i∈act then k+1 else k))) (hact:∀ a∈act,a<ops.size) (h0:s.h=Hs 0) (hF:∀ p∈frF,((∀ j,bA ops j≠some p.1)∧aS s.fr p.1=p.2)∨∃ j,bA ops j=some p.1∧res' j = .sl p.2) : Ev N (.code (.region id ops true) s .normal ⟨frF,[],Hs act.length⟩):=by{
classical
refine .vz (gB N ops act s res res' Hs st) (fun S t i=>match ops[i]? with
 | some o=>if h:∃ s',Ev N (.ops ops [o] t s')∧gB N ops act s res res' Hs st (S.setIfInBounds i true) s' then h.choose else t
 | none=>t) hm ?_ ?_ ?_ ?_ rfl
·refine .inl ⟨getD_replicate_false _ _,by simp,fun j o _ hl=>?_,⟨0,Nat.zero_le _,h0,fun j _=>?_⟩,fun x _=>⟨rfl,rfl⟩,fun j d v _ hl=>?_,fun j d sl off _ hl=>?_,fun q hq=>by cases hq⟩
 ·rw[getD_replicate_false] at hl
  cases hl
 ·rw[getD_replicate_false]
  simp
 ·rw[getD_replicate_false] at hl
  cases hl
 ·rw[getD_replicate_false] at hl
  cases hl
·intro S t i o I hi ho
 simp only[ho]
 have h:=gB.step C Z hT hstep I hi ho
 rw[dif_pos h]
 exact h.choose_spec.1
·intro S t i o I hi ho
 simp only[ho]
 have h:=gB.step C Z hT hstep I hi ho
 rw[dif_pos h]
 exact h.choose_spec.2
·intro S t I hr
 have hsz:S.size=ops.size:=by
  rcases I with ⟨_,I⟩ | ⟨_,I⟩
  ·exact I.size
  ·exact I.size
 have hall:∀ i,i<ops.size→S.getD i false=true:=by
  intro i
  induction i using Nat.strongRecOn with
  | _ i ih=>
    intro hi
    cases hb:S.getD i false with
    | true=>rfl
    | false=>
      have:i∈Region.ready .any ops S:=mem_ready.2 ⟨getD_in (by rw[hsz];exact hi) hb,ops[i],Array.getElem?_eq_getElem hi,fun e he hbi=>by
       have hlow:=C.low i _ (Array.getElem?_eq_getElem hi) e he hbi
       exact ih e.on hlow (by omega)⟩
      rw[hr] at this
      cases this
 obtain⟨ost,host,_⟩:=Z.o
 have hst:=hall st (Array.getElem?_eq_some_iff.1 host).1
 rcases I with ⟨h,_⟩ | ⟨_,I⟩
 ·rw[hst] at h
  cases h
 refine⟨fun p hp=>?_,?_⟩
 ·rcases hF p hp with ⟨h1,h2⟩ | ⟨j,h1,h2⟩
  ·exact (I.out p.1 h1).1.trans h2
  ·exact (I.pe j p.1 p.2 h1 (hall j (re h1)) h2).1
 ·obtain⟨k,hk,hh,hpre⟩:=I.pre
  have:k=act.length:=by
   rcases Nat.lt_or_ge k act.length with h|h
   ·have:=(hpre k h).1 (hall _ (hact _ (by simp [h])))
    omega
   ·omega
  rw[hh,this]}
def CL (ops:Array Oper) (L:List (List Nat)) (a st:Nat):Bool:=(List.range L.length).all fun i=>decide (i=st) || !(fw L i).contains a
theorem DY (h:CL ops L a st=true) {i:Nat} (hi:i≠st):a∉fw L i:=fun hm=>by
 unfold CL at h
 rw[List.all_eq_true] at h
 have hl:i<L.length:=by
  rcases Nat.lt_or_ge i L.length with h1|h1
  ·exact h1
  ·unfold fw at hm
   rw[List.getElem?_eq_none h1] at hm
   cases hm
 have:=h i (List.mem_range.2 hl)
 simp only[Bool.or_eq_true,decide_eq_true_eq,Bool.not_eq_true',List.contains_eq_mem,decide_eq_false_iff_not] at this
 rcases this with h1|h1
 ·exact hi h1
 ·exact h1 hm
theorem An {id:Nat} {fr:Fr} {h:ah} {Q:AX→St→Prop} (L:List (List Nat)) (act:List Nat) (hs:List ah) (resL:List fW) (frF:Fr) (a st d:Nat) (cs':List Value) {cs vs:List Value} {o:Oper} {ty:TypeId} {x y:Operand} {ti:TI} {off:Nat} {v:Value} (hm:N.P.follows .mixedOrders=true) (hc:uG ops L act=true) (ha:act.all (fun a=>decide (a<ops.size))=true) (hb:nU (dstsOf ops) fr=true) (hfree:CL ops L a st=true) (hna:act.contains st=false) (hanc:(fw L st).contains a=true) (ho:ops[st]? = some o) (hop:o.op = .store ty x y) (hod:o.dst=none) (hda:bA ops a=some d) (hS1:az N ops L act resL (h :: hs) fr 0 (ops.toList.take st)) (hS2:az N ops L act resL (h :: hs) fr (st+1) (ops.toList.drop (st+1))) (hra:resL[a]? = some (.sl (.box cs))) (hti:ar N.P ty=some ti) (hw:∀ H,aE ops o (vw ops L resL fr H st)=some true) (hp:∀ H,oE (vw ops L resL fr H st) x=some (d,off)) (hbx:∀ H,aS (vw ops L resL fr H st).fr d = .box cs) (hv:∀ H,ev (vw ops L resL fr H st) y=some v) (hvs:dQ ti.size v=some vs) (hwr:lj cs off vs=some cs') (ht:za ops resL=true) (hF:gI ops (resL.set a (.sl (.box cs'))) fr frF) (k:Q .normal ⟨frF,[],qH (h :: hs) act.length⟩):CW N (.region id ops true) ⟨fr,[],h⟩ Q:=by{
have C:=tc hc
unfold CW
have hvw:∀ H i,vw ops L resL fr H i=fa ops L resL fr H i:=fun H i=>by unfold vw fa;rw[iN hb]
have hS1':=az.ok (fr:=fr) (by rw[iN hb];exact hS1)
have hS2':=az.ok (fr:=fr) (by rw[iN hb];exact hS2)
have hal:a<resL.length:=(List.getElem?_eq_some_iff.1 hra).1
have hT:∀ j sl off,i4 resL j = .ep sl off→∀ i,bA ops i≠some sl:=by
 intro j sl off hr i hi
 unfold i4 at hr
 cases hj:resL[j]? with
 | none=>simp [hj] at hr
 | some r=>
   simp only[hj,Option.getD_some] at hr
   have:=List.all_eq_true.1 ht r (List.mem_of_getElem? hj)
   rw[hr] at this
   simp only[Bool.not_eq_true',List.contains_eq_mem,decide_eq_false_iff_not] at this
   exact this (gK hi)
refine⟨_,_,BL (s:=⟨fr,[],h⟩) (res:=i4 resL) (res':=i4 (resL.set a (.sl (.box cs')))) (Hs:=qH (h :: hs)) (a:=a) (st:=st) (d:=d) (cs':=cs') (v0:=.box cs) hm C ?_ hT ?_ (fun a h=>by simpa using List.all_eq_true.1 ha a h) rfl (fun p hp=>hF.at hp),k⟩
·refine⟨fun j hj=>?_,hda,?_,?_,⟨o,ho,hod⟩,List.contains_iff_mem.1 hanc,fun hh=>(by rw[List.contains_iff_mem.2 hh] at hna;cases hna),fun i hi=>DY hfree hi,fun o' H ho'=>?_⟩
 ·unfold i4
  rw[List.getElem?_set_ne (fun e=>hj e.symm)]
 ·unfold i4
  rw[hra]
  rfl
 ·unfold i4
  rw[List.getElem?_set_self hal]
  rfl
 ·obtain rfl:o=o':=Option.some.inj (ho.symm.trans ho')
  refine⟨fa ops L resL fr H st,u9 (s0:=⟨fr,[],h⟩) C,rfl,fun t hsub=>?_⟩
  rw[← hvw] at hsub
  exact .xh (a8 hsub (hw H)) hop hti (jG hsub (hp H)) (xL hsub (hbx H)) (aU hsub (hv H)) hvs hwr hod (.nil _ _)
·intro i o' k hne ho' hk hst
 refine⟨fa ops L resL fr (qH (h :: hs) k) i,u9 (s0:=⟨fr,[],h⟩) C,rfl,?_⟩
 have hlt:i<ops.size:=(Array.getElem?_eq_some_iff.1 ho').1
 rcases Nat.lt_or_ge i st with h1|h1
 ·exact (eO.T4 hS1' h1 ho').at (List.mem_range.2 (by omega)) hst
 ·have:=eO.at (j:=i-(st+1)) hS2' (by rw[List.getElem?_drop,show st+1+(i-(st+1))=i by omega];simpa using ho')
  rw[show st+1+(i-(st+1))=i by omega] at this
  exact this.at (List.mem_range.2 (by omega)) hst}
end
end Go.Proofs.YtmdmimkbpikmoaaGreat.Am
namespace Go.Proofs.YtmdmimkbpikmoaaGreat
set_option maxRecDepth 20000
open Go.RowKit Am Ty
def DJ (l:List Sym) (i:Nat):Bool:=match l[i]? with
 | some s=>!decide (s.kind=1)
 | none=>false
def iK (l:List Sym) (n:Nat):List Nat:=(List.range n).filter (DJ l)
theorem Bf {l:List Sym} {n:Nat}:iK l (n+1)=if DJ l n=true then iK l n++[n] else iK l n:=by{
unfold iK
rw[List.range_succ,List.filter_append]
cases h:DJ l n<;>simp [h]}
theorem CB {l:List Sym} {n:Nat}:(iK l n).length≤n:=by
 unfold iK
 exact Nat.le_trans (List.length_filter_le _ _) (by simp)
theorem Ic {l:List Sym} {i:Nat} (hi:i<l.length):DJ l i = !decide (l[i].kind=1):=by
 unfold DJ
 rw[List.getElem?_eq_getElem hi]
theorem Fz {l:List Sym} {n i:Nat} (h:i∈iK l n):i<n:=by
 unfold iK at h
 simpa using (List.mem_filter.1 h).1
def Bb (l:List Nat):List Value:=l.map fun n:Nat=>i64 (n:Int)
section
variable {h:ah} {r:Value} {d:b7}
theorem DU {p:Prod} {u:Value} (hy:fV h u p.al):FW env 133 [p.val u] h fun x h'=>h <+: h'∧aK h h' x (iK p.al p.al.length).length (Bb (iK p.al p.al.length)) 3:=by{
obtain⟨ps,cs,rfl⟩:=bW.form hy
have hle:p.al.length*88≤140737488355328:=hy.1
have hl:p.al.length≤140737488355328:=by omega
have z0:(iK p.al 0).length=0:=rfl
unfold Prod.val
refine fe Tryz.func133 ?_;simp only[push_cast]
refine aB ?_
refine a9 p.al.length (fun k (x:ah×Option Addr×Nat)=>[(3,.val (.slice x.2.1 (iK p.al k).length x.2.2)),(7,.val (.slice ps p.al.length cs)),(8,.val (i64 p.al.length)),(9,.val (i64 k))]) (fun _ x=>x.1)
 (fun k x=>h <+: x.1∧aK h x.1 (.slice x.2.1 (iK p.al k).length x.2.2) (iK p.al k).length (Bb (iK p.al k)) 3) (h,none,0) (lF z0) rfl ⟨List.prefix_refl _,aK.nil⟩ ?_
rintro k ⟨hk,q,cq⟩ hkn ⟨hp,hG⟩
simp only at hp hG ⊢
by_cases hlt:k<p.al.length
·obtain⟨id,au,own,c',hv,hid⟩:=bW.at (hy.mono hp) om
 cases hv
 have hg:=gV hlt
 have e1:=cH hlt
 have e2:=inc hlt hl
 have e3:=aV hlt
 have hs:=Bf (l:=p.al) (n:=k)
 rw[Ic hlt] at hs
 have hlen:(iK p.al k).length≤k:=CB
 refine aG e3 ?_
 refine af rfl ?_
 by_cases q1:p.al[k].kind=1
 ·have d1:=decide_eq_true q1
  rw[d1,if_neg (by decide)] at hs
  refine fN e1 hid hg d1 ?_
  refine ae rfl ?_
  refine aG e2 ?_
  refine⟨hlt,(hk,q,cq),(lF hs),rfl,hp,?_⟩
  rw[hs]
  exact hG
 ·have d1:=decide_eq_false q1
  rw[d1,if_pos (by decide)] at hs
  have hs2:(iK p.al (k+1)).length=(iK p.al k).length+1:=by rw[hs];simp
  refine fN e1 hid hg d1 ?_
  refine af rfl ?_
  refine aB ?_
  refine lf (t:=39) ak rfl kr Mo (by decide) rfl ak rfl hG hp (by simp [Bb]) rfl (by simp only;omega) om ?_
  intro p' c' h' k1 k2 _ _
  refine aG e2 ?_
  refine⟨hlt,(h',p',c'),(lF hs2),rfl,k2,?_⟩
  rw[hs,List.length_append]
  unfold Bb at k1 ⊢
  rw[List.map_append]
  exact k1
·have e3:=aT hlt
 obtain rfl:k=p.al.length:=by omega
 refine aG e3 ?_
 refine ae rfl ?_
 refine aC ?_
 show CW _ _ _ _
 refine aB ?_
 refine ai ?_
 refine⟨_,ak,hp,?_⟩
 exact hG}
def qO (p:Prod):Bool:=p.bracket&&(match iK p.al p.al.length with
 | [x]=>decide (x=0)||decide (x+1=p.al.length)||(match p.al[x]? with
   | some s=>!decide (s.kind=3) || !decide (s.name=p.sort)
   | none=>true)
 | _=>true)
theorem yS {p:Prod} {u:Value} (hy:fV h u p.al):FW env 74 [r,p.val u] h fun x h'=>x = .bool (qO p)∧h'=h:=by{
refine uq ?_
have hy0:=hy
obtain⟨ps,cs,rfl⟩:=bW.form hy
have hle:p.al.length*88≤140737488355328:=hy.1
refine fe Tryz.func74 ?_;simp only[push_cast]
cases hb:p.bracket with
| false=>
  refine aG hb ?_
  refine af rfl ?_
  refine aB ?_
  refine ai ?_
  exact⟨_,ak,by unfold qO;rw[hb];rfl,List.prefix_refl _⟩
| true=>
  refine aG hb ?_
  refine ae rfl ?_
  refine aG hb ?_
  refine zj Tryz.func133 ?_
  rw[List.append_nil]
  refine FW.mono (Q:=fun x h'=>h <+: h'∧aK h h' x (iK p.al p.al.length).length (Bb (iK p.al p.al.length)) 3) (by have:=DU hy0;unfold Prod.val at this;rw[hb] at this;exact this) ?_
  rintro x h1 ⟨hp1,hG⟩
  obtain⟨qx,cx,rfl⟩:=hG.form
  have hBr:qO p=(match iK p.al p.al.length with
   | [x]=>decide (x=0)||decide (x+1=p.al.length)||(match p.al[x]? with
     | some s=>!decide (s.kind=3) || !decide (s.name=p.sort)
     | none=>true)
   | _=>true):=by unfold qO;rw[hb];rfl
  have hlt:∀ x∈iK p.al p.al.length,x<p.al.length:=fun x hx=>Fz hx
  generalize iK p.al p.al.length=H at hG hBr hlt ⊢
  by_cases hl1:H.length=1
  ·obtain⟨x,rfl⟩:∃ x,H=[x]:=by
    match H,hl1 with
    | [x],_=>exact⟨x,rfl⟩
   have hxl:=hlt x (by simp)
   obtain⟨io,vo,_,i2,i3⟩:=hG.vV (by simp)
   rw[i2]
   simp only[Bb,List.map_cons,List.map_nil] at i3
   have w0:IntKind.i64.wrap ((p.al.length:Int)-1)=(p.al.length:Int)-1:=ay om om
   simp only at hBr
   by_cases q0:x=0
   ·have d0:decide ((x:Int)=0)=true:=decide_eq_true om
    refine aB ?_
    refine aL 18 mixed kr ?_
    refine fM i3 d0 ?_
    refine af rfl ?_
    refine aB ?_
    refine ai ?_
    exact⟨_,ak,by rw[hBr,decide_eq_true q0];rfl,hp1⟩
   ·have d0:decide ((x:Int)=0)=false:=decide_eq_false om
    by_cases q1:x+1=p.al.length
    ·have d1:decide ((x:Int)=(p.al.length:Int)-1)=true:=decide_eq_true om
     refine aB ?_
     refine aL 18 mixed kr ?_
     refine fN i3 d0 w0 d1 ?_
     refine af rfl ?_
     refine aB ?_
     refine ai ?_
     exact⟨_,ak,by rw[hBr,decide_eq_true q1,Bool.or_true];rfl,hp1⟩
    ·have d1:decide ((x:Int)=(p.al.length:Int)-1)=false:=decide_eq_false om
     obtain⟨id,au,own,c',hv,hid⟩:=bW.at (hy0.mono hp1) om
     cases hv
     have hg:=gV hxl
     have e1:=cH hxl
     rw[decide_eq_false q0,decide_eq_false q1,List.getElem?_eq_getElem hxl] at hBr
     simp only[Bool.false_or] at hBr
     refine aB ?_
     refine aL 18 mixed kr ?_
     refine fN i3 d0 w0 d1 ?_
     refine ae rfl ?_
     refine aB ?_
     refine aA [(3,.box [.bool p.lex,.string p.sort,.string p.cons,.bool true,.slice (some ⟨id,0,some au⟩) p.al.length cs]),(5,.val (.slice (some ⟨io,0,some vo⟩) 1 1))] aO ?_
     show CW _ _ ⟨_,[],h1⟩ _
     apply An (L:=[[],[0],[],[2],[2,3],[0,1,2,3,4],[0,1,2,3,4,5],[],[0,1,2,3,4,5,6,7]]) (act:=[]) (hs:=[]) (resL:=[_,_,_,_,_,_,_,_,.sl .dy]) (frF:=[(3,.box [.bool p.lex,.string p.sort,.string p.cons,.bool true,.slice (some ⟨id,0,some au⟩) p.al.length cs]),(6,.box [i64 p.al[x].kind,.string p.al[x].text,u64 p.al[x].set.a,u64 p.al[x].set.b,u64 p.al[x].set.c,u64 p.al[x].set.d,.string p.al[x].name,.string p.al[x].sep])]) (a:=7) (st:=8) (d:=6) (cs':=[i64 p.al[x].kind,.string p.al[x].text,u64 p.al[x].set.a,u64 p.al[x].set.b,u64 p.al[x].set.c,u64 p.al[x].set.d,.string p.al[x].name,.string p.al[x].sep])
     case hm=>exact mixed
     case hc=>kernel_rfl
     case ha=>rfl
     case hb=>rfl
     case hfree=>rfl
     case hna=>rfl
     case hanc=>rfl
     case ho=>rfl
     case hop=>rfl
     case hod=>rfl
     case hda=>rfl
     case hS1=>exact T5 i3 e1 hid hg
     case hS2=>exact Q6
     case hra=>rfl
     case hti=>exact Cw
     case hw=>intro H;exact ak
     case hp=>intro H;exact (by simp only[push_cast,env,Nat.reduceEqDiff,reduceIte,oE,fI]<;>exact rfl)
     case hbx=>intro H;exact ak
     case hv=>intro H;exact ak
     case hvs=>rfl
     case hwr=>rfl
     case ht=>rfl
     case hF=>exact zh
     show CW _ _ _ _
     by_cases q2:p.al[x].kind=3
     ·have d2:=decide_eq_true q2
      by_cases q3:p.al[x].name=p.sort
      ·have d3:=decide_eq_true q3
       refine fM d2 d3 ?_
       refine ai ?_
       exact⟨_,ak,by rw[hBr,d2,d3];rfl,hp1⟩
      ·have d3:=decide_eq_false q3
       refine fM d2 d3 ?_
       refine ai ?_
       exact⟨_,ak,by rw[hBr,d2,d3];rfl,hp1⟩
     ·have d2:=decide_eq_false q2
      refine aG d2 ?_
      refine ai ?_
      exact⟨_,ak,by rw[hBr,d2];rfl,hp1⟩
  ·have dn:decide ((H.length:Int)=1)=false:=decide_eq_false om
   refine aB ?_
   refine aL 18 mixed kr ?_
   refine aG dn ?_
   refine af rfl ?_
   refine aB ?_
   refine ai ?_
   refine⟨_,ak,?_,hp1⟩
   rw[hBr]
   match H,hl1 with
   | [],_=>rfl
   | [x],h=>exact absurd rfl h
   | _ :: _ :: _,_=>rfl}
end
def gH (s:Sym):Nat:=if s.kind=1 then s.text.size else 1
def fU (l:List Sym):Nat:=dp (fun s=>if dW s=true then 1 else 0) l
def tY (d:b7) (p:Prod):Bool:=decide (4<(fU p.al:Int))||decide (80<(dp gH p.al:Int)+(if (!p.lex && !cN d.layout)=true then (p.al.length:Int)-1 else 0))
section
variable {h:ah} {r:Value} {d:b7}
theorem lu {α:Type} {f:α→Nat} {B:Nat}:∀ {l:List α},(∀ x∈l,f x≤B)→dp f l≤l.length*B
 | [],_=>by simp [dp]
 | x :: l,h=>by
   have h1:=lu (f:=f) (B:=B) (l:=l) fun y hy=>h y (List.mem_cons_of_mem _ hy)
   have h2:=h x List.mem_cons_self
   unfold dp at *
   simp only[List.map_cons,List.sum_cons,List.length_cons,Nat.succ_mul]
   omega
theorem Gm {p:Prod} {u:Value} (hk:Bk h r d) (hy:fV h u p.al) (hw:ui p) (hn:p.al.length≤10000):FW env 75 [r,p.val u] h fun x h'=>x = .bool (tY d p)∧h'=h:=by{
obtain⟨h0,ib,im,sv,up,uc,uf,ur,ub,rfl,hd,K⟩:=hk
have hd:=hd.mono K.p
obtain⟨p1,c1,p2,c2,p3,c3,p4,c4,p5,c5,rfl,rfl,rfl,rfl,rfl,l1,l2,l3,l4,l5⟩:=bK.form hd
obtain⟨es,hm,hes⟩:=K.m
have hb:=K.b
unfold b7.val at hb
simp only[List.cons_append,List.nil_append] at hb
have hkk:=bm es
have hss:bh h sv (aF d.aa):=K.s.sl (b:=16) (by have:=b8 (ps:=d.aa);have:=cT.le hd.aa;omega)
obtain⟨pq,cq,rfl⟩:=hss.form
obtain⟨ps,cs,rfl⟩:=bW.form hy
have hl:p.al.length≤140737488355328:=by omega
have bd1:∀ k,dp gH (p.al.take k)≤10000*140737488355328:=fun k=>by
 have h1:dp gH p.al≤p.al.length*140737488355328:=lu fun s hs=>by
  have:=(hw.al s hs).text
  unfold gH
  split
  ·exact this
  ·decide
 have h2:=qd (f:=gH) (l:=p.al) (k:=k)
 have h3:p.al.length*140737488355328≤10000*140737488355328:=Nat.mul_le_mul hn (Nat.le_refl _)
 omega
have bd2:∀ k,fU (p.al.take k)≤10000:=fun k=>by
 have h1:fU p.al≤p.al.length*1:=lu fun s hs=>by split<;>decide
 have h2:fU (p.al.take k)≤fU p.al:=qd
 omega
have z1:((fU []:Nat):Int)=0:=rfl
have z2:((dp gH []:Nat):Int)=0:=rfl
refine fe Tryz.func75 ?_;simp only[push_cast]
refine aB ?_
refine CW.mono (Q:=fun e s'=>e = .exit 0∧s'.h=h∧bB [(0,.val (.pointer (some ⟨ib,0,some 0⟩))),(3,.box [.bool p.lex,.string p.sort,.string p.cons,.bool p.bracket,.slice ps p.al.length cs]),(5,.val (i64 (fU p.al:Int))),(6,.val (i64 (dp gH p.al:Int)))] s'.fr) ?_ ?_
·refine df p.al.length (fun k=>[(0,.val (.pointer (some ⟨ib,0,some 0⟩))),(3,.box [.bool p.lex,.string p.sort,.string p.cons,.bool p.bracket,.slice ps p.al.length cs]),(5,.val (i64 (fU (p.al.take k):Int))),(6,.val (i64 (dp gH (p.al.take k):Int))),(10,.val (.slice ps p.al.length cs)),(11,.val (i64 p.al.length)),(12,.val (i64 k))]) (fun _=>h) (fun _=>True) (RQ z1 z2) rfl trivial ?_
 intro k hkn _
 by_cases hlt:k<p.al.length
 ·obtain⟨id,au,own,c',hv,hid⟩:=bW.at hy om
  cases hv
  have hg:=gV hlt
  have e1:=cH hlt
  have e2:=inc hlt hl
  have e3:=aV hlt
  have b1:=bd1 (k+1)
  have b2:=bd2 (k+1)
  have s1:dp gH (p.al.take (k+1))=dp gH (p.al.take k)+gH p.al[k]:=oc hlt
  have s2:fU (p.al.take (k+1))=fU (p.al.take k)+(if dW p.al[k]=true then 1 else 0):=oc hlt
  rw[s1] at b1
  rw[s2] at b2
  generalize dp gH (p.al.take k)=A at s1 b1
  generalize fU (p.al.take k)=O at s2 b2
  generalize hA':dp gH (p.al.take (k+1))=A' at s1
  generalize hO':fU (p.al.take (k+1))=O' at s2
  refine aG e3 ?_
  refine af rfl ?_
  refine ir e1 hid hg ?_
  refine zj Tryz.func134 ?_
  refine pF.mono ?_
  rintro _ h1 ⟨rfl,rfl⟩
  refine aB ?_
  refine CW.mono (Q:=fun e s'=>e = .normal∧s'.h=h1∧bB [(0,.val (.pointer (some ⟨ib,0,some 0⟩))),(3,.box [.bool p.lex,.string p.sort,.string p.cons,.bool p.bracket,.slice (some ⟨id,0,some au⟩) p.al.length cs]),(5,.val (i64 (O':Int))),(6,.val (i64 (A:Int))),(8,.box [i64 p.al[k].kind,.string p.al[k].text,u64 p.al[k].set.a,u64 p.al[k].set.b,u64 p.al[k].set.c,u64 p.al[k].set.d,.string p.al[k].name,.string p.al[k].sep]),(10,.val (.slice (some ⟨id,0,some au⟩) p.al.length cs)),(11,.val (i64 p.al.length)),(12,.val (i64 k))] s'.fr) ?_ ?_
  ·cases hL:dW p.al[k] with
   | true=>
     rw[hL,if_pos rfl] at s2 b2
     have w0:IntKind.i64.wrap ((O:Int)+1)=(O':Int):=by rw[ay om om,s2];rfl
     refine af rfl ?_
     refine aG w0 ?_
     exact⟨rfl,rfl,aO⟩
   | false=>
     rw[hL,if_neg (by decide)] at s2 b2
     have w0:(O:Int)=(O':Int):=by omega
     refine ae rfl ?_
     refine cj ?_
     exact⟨rfl,rfl,(lF w0)⟩
  rintro e s' ⟨rfl,hh,hf⟩
  show CW _ _ _ _
  refine aA _ hf ?_
  rw[hh]
  by_cases q1:p.al[k].kind=1
  ·have d1:=decide_eq_true q1
   have s3:gH p.al[k]=p.al[k].text.size:=if_pos q1
   rw[s3] at s1 b1
   have w0:IntKind.i64.wrap ((A:Int)+p.al[k].text.size)=(A':Int):=by rw[ay om om,s1];omega
   refine aG d1 ?_
   refine af rfl ?_
   refine fM w0 e2 ?_
   exact⟨hlt,(RQ hA' hO'),rfl,trivial⟩
  ·have d1:=decide_eq_false q1
   have s3:gH p.al[k]=1:=if_neg q1
   rw[s3] at s1 b1
   have w0:IntKind.i64.wrap ((A:Int)+1)=(A':Int):=by rw[ay om om,s1];rfl
   refine aG d1 ?_
   refine ae rfl ?_
   refine fM w0 e2 ?_
   exact⟨hlt,(RQ hA' hO'),rfl,trivial⟩
 ·have e3:=aT hlt
  obtain rfl:k=p.al.length:=by omega
  rw[List.take_length]
  refine aG e3 ?_
  refine ae rfl ?_
  refine aC ?_
  exact⟨rfl,rfl,aO⟩
rintro e s' ⟨rfl,hh,hf⟩
show CW _ _ _ _
refine aA _ hf ?_
rw[hh]
have b1:=bd1 p.al.length
have b2:=bd2 p.al.length
rw[List.take_length] at b1 b2
have hres:tY d p=(decide (4<(fU p.al:Int))||decide (80<(dp gH p.al:Int)+(if (!p.lex && !cN d.layout)=true then (p.al.length:Int)-1 else 0))):=rfl
generalize dp gH p.al=A at hres b1
generalize fU p.al=O at hres b2
cases hl1:p.lex with
| true=>
  rw[hl1] at hres
  simp only[Bool.not_true,Bool.false_and,Bool.false_eq_true,if_false,Int.add_zero] at hres
  refine aB ?_
  refine ae rfl ?_
  by_cases q5:4<(O:Int)
  ·have d5:=decide_eq_true q5
   rw[d5,Bool.true_or] at hres
   refine aG d5 ?_
   refine ai ?_
   exact⟨_,ak,by rw[hres];rfl,rfl⟩
  ·have d5:=decide_eq_false q5
   rw[d5,Bool.false_or] at hres
   refine aG d5 ?_
   refine ai ?_
   exact⟨_,ak,by rw[hres];rfl,rfl⟩
| false=>
  rw[hl1] at hres
  by_cases q2:d.layout=⟨#[]⟩
  ·have d2:=decide_eq_true q2
   unfold cN at hres
   rw[d2] at hres
   simp only[Bool.not_true,Bool.and_false,Bool.false_eq_true,if_false,Int.add_zero] at hres
   refine fM hb d2 ?_
   refine ae rfl ?_
   by_cases q5:4<(O:Int)
   ·have d5:=decide_eq_true q5
    rw[d5,Bool.true_or] at hres
    refine aG d5 ?_
    refine ai ?_
    exact⟨_,ak,by rw[hres];rfl,rfl⟩
   ·have d5:=decide_eq_false q5
    rw[d5,Bool.false_or] at hres
    refine aG d5 ?_
    refine ai ?_
    exact⟨_,ak,by rw[hres];rfl,rfl⟩
  ·have d2:=decide_eq_false q2
   unfold cN at hres
   rw[d2] at hres
   simp only[Bool.not_false,Bool.and_true,if_true] at hres
   have w1:IntKind.i64.wrap ((p.al.length:Int)-1)=(p.al.length:Int)-1:=ay om om
   have w2:IntKind.i64.wrap ((A:Int)+((p.al.length:Int)-1))=(A:Int)+((p.al.length:Int)-1):=ay om om
   refine fM hb d2 ?_
   refine af rfl ?_
   refine fM w1 w2 ?_
   refine ai ?_
   exact⟨_,ak,by rw[hres];rfl,rfl⟩}
end
inductive sr (ps:List Prod) (st:Prod→List ByteArray) (a:ByteArray):ByteArray→Prop
 | one {p:Prod} {n:ByteArray}:p∈ps→p.sort=a→n∈st p→sr ps st a n
 | more {b:ByteArray} {p:Prod} {n:ByteArray}:sr ps st a b→p∈ps→p.sort=b→n∈st p→sr ps st a n
structure RI (ps:List Prod) (st:Prod→List ByteArray) (a:ByteArray) (es:List (ByteArray×Int)) (L:List ByteArray):Prop where
 z:∀ s,dx es s=0∨dx es s=1
 s:∀ s,dx es s≠0→sr ps st a s
 l:∀ s∈L,s=a∨sr ps st a s
 c:∀ b,(b=a∨dx es b≠0)→b∉L→∀ p∈ps,p.sort=b→∀ n∈st p,dx es n≠0
 k:∀ p∈es,p.2=1
structure RM (ps:List Prod) (st:Prod→List ByteArray) (a kC:ByteArray) (es:List (ByteArray×Int)) (L:List ByteArray) (k:Nat):Prop where
 z:∀ s,dx es s=0∨dx es s=1
 s:∀ s,dx es s≠0→sr ps st a s
 l:∀ s∈L,s=a∨sr ps st a s
 h:kC=a∨sr ps st a kC
 c:∀ b,b≠kC→(b=a∨dx es b≠0)→b∉L→∀ p∈ps,p.sort=b→∀ n∈st p,dx es n≠0
 m:kC∈L∨∀ p∈ps.take k,p.sort=kC→∀ n∈st p,dx es n≠0
 k:∀ p∈es,p.2=1
section
variable {ps:List Prod} {st:Prod→List ByteArray} {a kC:ByteArray} {es:List (ByteArray×Int)} {L:List ByteArray} {k:Nat}
theorem RI.start:RI ps st a [] [a]:=⟨fun _=>.inl rfl,fun _ h=>absurd rfl h,fun s h=>.inl (List.mem_singleton.1 h),fun b hb hn=>by
 rcases hb with rfl|hb
 ·exact absurd (List.mem_singleton.2 rfl) hn
 ·exact absurd rfl hb,fun p h=>by simp at h⟩
theorem RI.pop (R:RI ps st a es (L++[kC])):RM ps st a kC es L 0:=
 ⟨R.z,R.s,fun s h=>R.l s (List.mem_append_left _ h),R.l _ (by simp),fun b hb h1 h2=>R.c b h1 (by simp [h2,hb]),.inr (by simp),R.k⟩
theorem RM.next (R:RM ps st a kC es L k) (hk:k<ps.length) (h:ps[k].sort=kC→∀ n∈st ps[k],dx es n≠0):RM ps st a kC es L (k+1):=by{
refine⟨R.z,R.s,R.l,R.h,R.c,?_,R.k⟩
rcases R.m with m|m
·exact .inl m
·refine .inr fun p hp=>?_
 rw[List.take_succ_eq_append_getElem hk] at hp
 rcases List.mem_append.1 hp with hp|hp
 ·exact m p hp
 ·rw[List.mem_singleton.1 hp];exact h}
theorem RM.fin (R:RM ps st a kC es L ps.length):RI ps st a es L:=by{
refine⟨R.z,R.s,R.l,fun b hb hn p hp e=>?_,R.k⟩
by_cases q:b=kC
·subst q
 rcases R.m with m|m
 ·exact absurd m hn
 ·rw[List.take_length] at m
  exact m p hp e
·exact R.c b q hb hn p hp e}
theorem w5 {x:ByteArray}:∀ {es:List (ByteArray×Int)},(∀ p∈es,p.2=1)→∀ p∈cW es x 1,p.2=1
 | [],_,p,hp=>by simp [cW] at hp;rw[hp]
 | (k,u) :: r,h,p,hp=>by
   unfold cW at hp
   split at hp
   ·rcases List.mem_cons.1 hp with rfl|hp
    ·rfl
    ·exact h p (List.mem_cons_of_mem _ hp)
   ·rcases List.mem_cons.1 hp with rfl|hp
    ·exact h _ List.mem_cons_self
    ·exact w5 (fun p hp=>h p (List.mem_cons_of_mem _ hp)) p hp
theorem RM.add {n:ByteArray} (R:RM ps st a kC es L k) (h0:dx es n=0) (hr:sr ps st a n):RM ps st a kC (cW es n 1) (L++[n]) k:=by{
have hg:∀ s,dx es s≠0→dx (cW es n 1) s≠0:=fun s h=>by rw[eI];split<;>first|decide|exact h
refine⟨fun s=>?_,fun s h=>?_,fun s h=>?_,R.h,fun b hb h1 h2 p hp e x hx=>?_,?_,w5 R.k⟩
·rw[eI];split
 ·exact .inr rfl
 ·exact R.z s
·rw[eI] at h;split at h
 ·rename_i e;rw[e];exact hr
 ·exact R.s s h
·rcases List.mem_append.1 h with h|h
 ·exact R.l s h
 ·rw[List.mem_singleton.1 h];exact .inr hr
·rw[List.mem_append,not_or] at h2
 refine hg x (R.c b hb ?_ h2.1 p hp e x hx)
 rcases h1 with h1|h1
 ·exact .inl h1
 ·refine .inr ?_
  rw[eI,if_neg (fun e=>h2.2 (List.mem_singleton.2 e))] at h1
  exact h1
·rcases R.m with m|m
 ·exact .inl (List.mem_append_left _ m)
 ·exact .inr fun p hp e x hx=>hg x (m p hp e x hx)}
theorem RI.done (R:RI ps st a es []) {s:ByteArray}:dx es s≠0↔sr ps st a s:=by{
refine⟨R.s s,fun h=>?_⟩
induction h with
| one h1 h2 h3=>exact R.c a (.inl rfl) (by simp) _ h1 h2 _ h3
| more _ h1 h2 h3 ih=>exact R.c _ (.inr ih) (by simp) _ h1 h2 _ h3}
def o4 (U:List ByteArray) (es:List (ByteArray×Int)):Nat:=(U.filter fun n=>decide (dx es n=0)).length
theorem tt {es:List (ByteArray×Int)} {n:ByteArray} (h0:dx es n=0):∀ {U:List ByteArray},o4 U (cW es n 1)≤o4 U es∧(n∈U→o4 U (cW es n 1)+1≤o4 U es)
 | []=>by simp [o4]
 | x :: U=>by
   have ih:=tt (es:=es) (n:=n) h0 (U:=U)
   unfold o4 at *
   by_cases e:x=n
   ·subst e
    have h1:dx (cW es x 1) x≠0:=by rw[eI,if_pos rfl];decide
    simp only[List.filter_cons,h0,h1,decide_true,decide_false,if_true,if_false,List.length_cons,Bool.false_eq_true]
    exact⟨by omega,fun _=>by omega⟩
   ·have h1:dx (cW es n 1) x=dx es x:=by rw[eI,if_neg e]
    simp only[List.filter_cons,h1]
    split
    ·simp only[List.length_cons]
     exact⟨by omega,fun h=>by have:=ih.2 ((List.mem_cons.1 h).resolve_left (fun h=>e h.symm));omega⟩
    ·exact⟨ih.1,fun h=>ih.2 ((List.mem_cons.1 h).resolve_left (fun h=>e h.symm))⟩
theorem EY {U:List ByteArray} {es:List (ByteArray×Int)}:o4 U es≤U.length:=List.length_filter_le _ _
theorem oK {s:ByteArray} {v:Int}:∀ {es:List (ByteArray×Int)},ia es s=some v→(s,v)∈es
 | [],h=>by cases h
 | (k,u) :: r,h=>by
   unfold ia at h
   split at h
   ·rename_i e;subst e;cases h;exact List.mem_cons_self
   ·exact List.mem_cons_of_mem _ (oK h)
theorem nh {s:ByteArray} {v:Int}:∀ {es:List (ByteArray×Int)},(s,v)∈es→∃ u,ia es s=some u
 | (k,u) :: r,h=>by
   unfold ia
   split
   ·exact⟨u,rfl⟩
   ·rename_i e
    rcases List.mem_cons.1 h with h|h
    ·cases h;exact absurd rfl e
    ·exact nh h
theorem Gc {es:List (ByteArray×Int)} (h:∀ p∈es,p.2=1) {p:ByteArray×Int} (hp:p∈es):dx es p.1≠0:=by{
obtain⟨u,hu⟩:=nh (s:=p.1) (v:=p.2) hp
have:=h _ (oK hu)
unfold dx
rw[hu]
simp only[Option.getD_some]
simp only at this
omega}
theorem Gy {es:List (ByteArray×Int)} {s:ByteArray} (h:dx es s≠0):∃ p∈es,p.1=s:=by{
unfold dx at h
cases e:ia es s with
| none=>rw[e] at h;exact absurd rfl h
| some v=>exact⟨_,oK e,rfl⟩}
end
structure RS where
 hk:ah
 es:List (ByteArray×Int)
 l:List ByteArray
 au:Nat
 sw:List Value
structure Ly (h:ah) (im it:Nat) (x:RS):Prop where
 p:h <+: x.hk
 m:x.hk[im]? = some (.map (fz x.es))
 t:x.hk[it]? = some (.aj (x.l.map .string++x.sw) x.au true 9)
theorem Ly.ext {h h':ah} {im it:Nat} {x:RS} (R:Ly h im it x) (hp:x.hk <+: h'):Ly h im it ⟨h',x.es,x.l,x.au,x.sw⟩:=⟨R.p.trans hp,ag hp R.m,ag hp R.t⟩
def pd (U:List ByteArray) (x:RS):Nat:=2*o4 U x.es+x.l.length
theorem wF {all:Array Oper} {o:Oper} {r:List Oper} {s:St} {K:St→Prop} {x:Operand} {t y:Nat} {e:TypeId} {ti:TI} {cs cells sw:List Value} {n c id au:Nat} (hw:aE all o s=some true) (ho:o.op = .call { callee:=.builtin .append,args:=#[x,.tmp y],argTypes:=#[t,t] }) (hu:env.P.underlying t=some (.slice e)) (ht:ar env.P e=some ti) (hs0:0<ti.size) (hz:(ti.zero.map fun z=>z.cells.size)=some ti.size) (hx:ev s x=some (.slice (some ⟨id,0,some au⟩) n c)) (hid:s.h[id]? = some (.aj (cells++sw) au true e)) (hl:cells.length=n*ti.size) (hy:aS s.fr y = .nj cs 1) (hc:cs.length=ti.size) (hb:(n+1)*ti.bytes≤140737488355328) (hn:n+1≤140737488355328) (k:OW env all r ({ s with h:=s.h.set id (av.aj (cells++cs) (au+1) true e) }.aX o.dst (.val (.slice (some ⟨id,0,some (au+1)⟩) (n+1) (n+1)))) K):OW env all (o :: r) s K:=by{
have hi:ct s s.h ti.size (.tmp y)=some (cs,1):=by simp only[ct,hy,hc,Nat.one_mul,if_true]
refine oC hw ho hu ht hs0 hz hx hid (by rw[List.length_append];omega) hi hb hn ?_
rw[← hl,List.take_left']
·exact k
·rfl}
section
variable {h:ah} {r:Value} {d:b7}
theorem s4 {g:FuncId} {fn:Func} {st:Prod→List ByteArray} {a:ByteArray} (hk:Bk h r d) (hf:env.P.funcs[g]? = some fn) (hnm:(fn.name == "runtime.NumGoroutine")=false) (hbd:fn.body.isNone=false) (hU:(d.aa.flatMap st).length≤100000) (hP:∀ p∈d.aa,∀ u h1,h <+: h1→fV h1 u p.al→FW env g [p.val u] h1 fun x h'=>h1 <+: h'∧aK h1 h' x (st p).length ((st p).map .string) 9) : FW env 135 [r,.string a,.func (.func g) #[] #[]] h fun x h'=>h <+: h'∧∃ im es,x = .map (some im)∧h.length≤im∧h'[im]? = some (.map (fz es))∧RI d.aa st a es []:=by{
have hk0:=hk
obtain⟨h0,ib,im,sv,up,uc,uf,ur,ub,rfl,hd,K⟩:=hk
have hd:=hd.mono K.p
obtain⟨p1,c1,p2,c2,p3,c3,p4,c4,p5,c5,rfl,rfl,rfl,rfl,rfl,l1,l2,l3,l4,l5⟩:=bK.form hd
obtain⟨es,hm,hes⟩:=K.m
have hb:=K.b
unfold b7.val at hb
simp only[List.cons_append,List.nil_append] at hb
have hkk:=bm es
have hss:bh h sv (aF d.aa):=K.s.sl (b:=16) (by have:=b8 (ps:=d.aa);have:=cT.le hd.aa;omega)
obtain⟨pq,cq,rfl⟩:=hss.form
obtain⟨U,hUe⟩:∃ U,U=d.aa.flatMap st:=⟨_,rfl⟩
rw[← hUe] at hU
have hUm:∀ p∈d.aa,∀ n∈st p,n∈U:=fun p hp n hn=>by rw[hUe];exact List.mem_flatMap.2 ⟨p,hp,hn⟩
have hUl:∀ p∈d.aa,(st p).length≤100000:=fun p hp=>by
 refine Nat.le_trans ?_ hU
 rw[hUe,List.length_flatMap]
 exact qS (f:=fun p=>(st p).length) hp
refine fe Tryz.func135 ?_;simp only[push_cast]
refine zu ?_
iterate 1 (apply ej;·simp only[push_cast,env,Nat.reduceEqDiff,reduceIte,Nat.reduceAdd,Nat.reduceMul,Nat.reduceLeDiff,reduceCtorEq,Nat.reduceSub,Int.reduceToNat]<;>exact rfl)
refine zu ?_
refine j5 (kt:=9) (et:=3) ak rfl kr ?_
iterate 1 (apply ej;·simp only[push_cast,env,Nat.reduceEqDiff,reduceIte,Nat.reduceAdd,Nat.reduceMul,Nat.reduceLeDiff,reduceCtorEq,Nat.reduceSub,Int.reduceToNat]<;>exact rfl)
refine zu ?_
iterate 1 (apply ej;·simp only[push_cast,env,Nat.reduceEqDiff,reduceIte,Nat.reduceAdd,Nat.reduceMul,Nat.reduceLeDiff,reduceCtorEq,Nat.reduceSub,Int.reduceToNat]<;>exact rfl)
refine cz (t:=9) (cs:=[.string a]) (n:=1) ak ak ?_
refine aB ?_
have hlen:(h++[av.map []]).length=h.length+1:=by simp
rw[hlen]
have h0I:Ly h h.length (h.length+1) ⟨h++[av.map []]++[av.aj [.string a] 0 true 9],[],[a],0,[]⟩:=
 ⟨cS (cS (List.prefix_refl _)),bo aJ,by rw[← hlen];exact aJ⟩
generalize (h++[av.map []]++[av.aj [.string a] 0 true 9])=h2 at h0I ⊢
obtain⟨im,him⟩:∃ im,im=h.length:=⟨_,rfl⟩
rw[← him] at h0I hlen ⊢
refine eY (pd U) (fun x=>[(0,.val (.pointer (some ⟨ib,0,some 0⟩))),(2,.val (.func (.func g) #[] #[])),(7,.val (.map (some im))),(8,.val (.slice (some ⟨im+1,0,some x.au⟩) x.l.length x.l.length))]) (fun x=>x.hk)
 (fun x=>Ly h im (im+1) x∧RI d.aa st a x.es x.l∧pd U x≤2*U.length+1) ⟨h2,[],[a],0,[]⟩ aO rfl ⟨h0I,.start,?_⟩ ?_
·have:=EY (U:=U) (es:=[])
 simp only[pd,List.length_singleton]
 omega
rintro⟨hk,es,l,ver0,sw⟩ ⟨hS,hI,hM⟩
simp only at hI hM ⊢
rcases List.eq_nil_or_concat l with rfl|⟨l,x,hc⟩
·refine aB ?_
 refine ae rfl ?_
 refine aC ?_
 show CW _ _ _ _
 refine aB ?_
 refine ai ?_
 exact⟨_,ak,hS.p,im,es,rfl,by omega,hS.m,hI⟩
rw[List.concat_eq_append] at hc
subst hc
have hL:l.length+1≤2*U.length+1:=by simp only[pd,List.length_append,List.length_singleton] at hM;omega
have f1:(l++[x]).length=l.length+1:=by simp
have d1:decide (0<(l.length:Int)+1)=true:=decide_eq_true om
have d2:IntKind.i64.wrap ((l.length:Int)+1-1)=l.length:=by rw[Int.add_sub_cancel];exact ay om om
have d3:(0≤(l.length:Int)∧(l.length:Int)<(l.length:Int)+1)=True:=by simp;omega
have d4:((l++[x]).map Value.string++sw)[l.length]? = some (.string x):=by simp
have d5:(0≤(l.length:Int)∧(l.length:Int)≤(l.length:Int)+1)=True:=by simp;omega
have ht:=hS.t
simp only at ht
have hb1:=ag hS.p hb
simp only at hb1
refine fM f1 d1 ?_
refine af rfl ?_
repeat (first|apply zs|apply zr|apply zn|((first|apply zx|apply zy);·simp only[push_cast,env,Nat.reduceEqDiff,reduceIte,Nat.reduceAdd,Nat.reduceMul,Nat.reduceLeDiff,reduceCtorEq,Nat.reduceSub,Int.reduceToNat,f1,d2,d3,ht,Nat.mul_one,d4,d5,Nat.zero_mul,Int.sub_zero,hb1]<;>first|exact rfl|exact .inl rfl|exact .inr rfl) | apply zq|apply zb|apply zo|apply zk|apply zl)
refine a9 d.aa.length (fun k (y:RS)=>[(0,.val (.pointer (some ⟨ib,0,some 0⟩))),(2,.val (.func (.func g) #[] #[])),(7,.val (.map (some im))),(8,.val (.slice (some ⟨im+1,0,some y.au⟩) y.l.length y.l.length)),(9,.val (.string x)),(35,.val (.slice p1 d.aa.length c1)),(36,.val (i64 d.aa.length)),(37,.val (i64 k))]) (fun _ y=>y.hk)
 (fun k y=>Ly h im (im+1) y∧RM d.aa st a x y.es y.l k∧pd U y+1≤pd U ⟨hk,es,l++[x],ver0,sw⟩) ⟨hk,es,l,ver0,.string x :: sw⟩ aO rfl ⟨⟨hS.p,hS.m,?_⟩,hI.pop,?_⟩ ?_
·simp only
 rw[ht]
 simp
·simp [pd]
 omega
rintro k ⟨hk2,es2,l2,ver2,junk2⟩ hkn ⟨hS2,hI2,hM2⟩
simp only at hI2 hM2 ⊢
by_cases hlt:k<d.aa.length
·obtain⟨id,au,own,c',cells,u,hv,hid,hrd,hu⟩:=cT.at (k:=5) (fun _ _=>rfl) (hd.aa.mono hS2.p) hlt
 cases hv
 have hmem:=List.getElem_mem hlt
 have hPk:=hP _ hmem u hk2 hS2.p hu
 have hYl:=hUl _ hmem
 obtain⟨ps,cs,rfl⟩:=bW.form hu
 have w1:=cH hlt
 have w2:=inc hlt l1
 have q3:=aV hlt
 refine aG q3 ?_
 refine af rfl ?_
 simp only at hid
 by_cases b1:d.aa[k].sort=x
 ·have db:=decide_eq_true b1
  refine fN w1 hid hrd db ?_
  refine ae rfl ?_
  refine aB ?_
  refine zc (f:=g) (cap:=[]) (args:=[d.aa[k].val (.slice ps d.aa[k].al.length cs)]) (fn:=fn) ak hf hnm hbd ?_
  rw[List.append_nil]
  refine hPk.mono ?_
  rintro w h3 ⟨hp3,hG3⟩
  have hi1:=cX hS2.m
  have hi2:=cX hS2.t
  simp only at hi1 hi2
  obtain⟨pw,cw',rfl⟩:=hG3.form
  have hS3:=hS2.ext hp3
  simp only at hS3
  refine aB ?_
  refine a9 (st d.aa[k]).length (fun j (y:RS)=>[(0,.val (.pointer (some ⟨ib,0,some 0⟩))),(2,.val (.func (.func g) #[] #[])),(7,.val (.map (some im))),(8,.val (.slice (some ⟨im+1,0,some y.au⟩) y.l.length y.l.length)),(9,.val (.string x)),(35,.val (.slice (some ⟨id,0,some au⟩) d.aa.length c1)),(36,.val (i64 d.aa.length)),(37,.val (i64 k)),(47,.val (.slice pw (st d.aa[k]).length cw')),(48,.val (i64 (st d.aa[k]).length)),(49,.val (i64 j))]) (fun _ y=>y.hk)
   (fun j y=>Ly h im (im+1) y∧RM d.aa st a x y.es y.l k∧pd U y+1≤pd U ⟨hk,es,l++[x],ver0,sw⟩∧aK hk2 y.hk (.slice pw (st d.aa[k]).length cw') (st d.aa[k]).length ((st d.aa[k]).map .string) 9∧∀ n∈(st d.aa[k]).take j,dx y.es n≠0) ⟨h3,es2,l2,ver2,junk2⟩ aO rfl ⟨hS3,hI2,hM2,hG3,by simp⟩ ?_
  rintro j ⟨hk4,es4,l4,ver4,junk4⟩ hjn ⟨hS4,hI4,hM4,hG4,hJ4⟩
  simp only at hI4 hM4 hG4 hJ4 ⊢
  by_cases hjl:j<(st d.aa[k]).length
  ·have hN4:bh hk4 _ (st d.aa[k]):=hG4.sl (b:=16) om
   obtain⟨id5,ver5,own5,c5',cells5,hv5,hid5,hc5⟩:=hN4.at hjl
   cases hv5
   have v1:=cH hjl
   have v2:=inc hjl om
   have v3:=aV hjl
   have hmem2:=List.getElem_mem hjl
   have hm4:=hS4.m
   have ht4:=hS4.t
   simp only at hm4 ht4
   have hkk4:=bm es4
   have hz4:=hI4.z (st d.aa[k])[j]
   have hstep:∀ e',(∀ s,dx es4 s≠0→dx e' s≠0)→dx e' (st d.aa[k])[j]≠0→∀ n∈(st d.aa[k]).take (j+1),dx e' n≠0:=fun e' g1 g2 n hn=>by
    rw[List.take_succ_eq_append_getElem hjl,List.mem_append] at hn
    rcases hn with hn|hn
    ·exact g1 n (hJ4 n hn)
    ·rw[List.mem_singleton.1 hn];exact g2
   refine aG v3 ?_
   refine af rfl ?_
   by_cases hN0:dx es4 (st d.aa[k])[j]=0
   ·have hRx:sr d.aa st a (st d.aa[k])[j]:=by
     rcases hI4.h with e|e
     ·exact .one hmem (b1.trans e) hmem2
     ·exact .more e hmem b1 hmem2
    have hI5:=hI4.add hN0 hRx
    have hun:=(tt (es:=es4) hN0 (U:=U)).2 (hUm _ hmem _ hmem2)
    have hgr:∀ s,dx es4 s≠0→dx (cW es4 (st d.aa[k])[j] 1) s≠0:=fun s h=>by rw[eI];split<;>first|decide|exact h
    have hg2:dx (cW es4 (st d.aa[k])[j] 1) (st d.aa[k])[j]≠0:=by rw[eI,if_pos rfl];decide
    have hmx:l4.length+1≤1000000:=by simp only[pd] at hM4 hM;omega
    have hne1:im≠im+1:=by omega
    rcases eT es4 (st d.aa[k])[j] with ⟨hg,h0'⟩ | hg
    ·refine y8 v1 hid5 hc5 hm4 hg hkk4 Nat.mul_one ?_
     refine af rfl ?_
     refine aB ?_
     refine fq (kt:=9) (et:=3) (kd:=eB) ak rfl rfl kr rfl ak hm4 ak ak rfl hkk4 ?_
     dsimp only
     rw[dJ]
     refine aB ?_
     refine wF (t:=36) (cells:=l4.map .string) (sw:=junk4) ak rfl kr Fu (by decide) rfl ak (by rw[aD hne1];exact ht4) (by simp) ak rfl (by simp only;omega) om ?_
     refine aG v2 ?_
     refine⟨hjl,⟨(hk4.set im (.map (fz (cW es4 (st d.aa[k])[j] 1)))).set (im+1) (.aj (l4.map .string++[.string (st d.aa[k])[j]]) (ver4+1) true 9),cW es4 (st d.aa[k])[j] 1,l4++[(st d.aa[k])[j]],ver4+1,[]⟩,(by simp only[push_cast,Nat.reduceEqDiff,reduceIte,List.length_append]),rfl,⟨aY (aY hS4.p om) om,?_,?_⟩,hI5,?_,?_,hstep _ hgr hg2⟩
     ·simp only
      rw[aD om]
      exact aw hm4
     ·simp only
      rw[aw (by rw[aD hne1];exact ht4)]
      simp
     ·simp only[pd,List.length_append,List.length_singleton] at hM4 hun ⊢
      omega
     ·refine hG4.mono fun q o hj ho=>?_
      have:=(hG4.lt hj).1
      rw[aD om,aD om]
      exact ho
    ·rw[hN0] at hg
     refine y8 v1 hid5 hc5 hm4 hg hkk4 Nat.mul_one ?_
     refine af rfl ?_
     refine aB ?_
     refine fq (kt:=9) (et:=3) (kd:=eB) ak rfl rfl kr rfl ak hm4 ak ak rfl hkk4 ?_
     dsimp only
     rw[dJ]
     refine aB ?_
     refine wF (t:=36) (cells:=l4.map .string) (sw:=junk4) ak rfl kr Fu (by decide) rfl ak (by rw[aD hne1];exact ht4) (by simp) ak rfl (by simp only;omega) om ?_
     refine aG v2 ?_
     refine⟨hjl,⟨(hk4.set im (.map (fz (cW es4 (st d.aa[k])[j] 1)))).set (im+1) (.aj (l4.map .string++[.string (st d.aa[k])[j]]) (ver4+1) true 9),cW es4 (st d.aa[k])[j] 1,l4++[(st d.aa[k])[j]],ver4+1,[]⟩,(by simp only[push_cast,Nat.reduceEqDiff,reduceIte,List.length_append]),rfl,⟨aY (aY hS4.p om) om,?_,?_⟩,hI5,?_,?_,hstep _ hgr hg2⟩
     ·simp only
      rw[aD om]
      exact aw hm4
     ·simp only
      rw[aw (by rw[aD hne1];exact ht4)]
      simp
     ·simp only[pd,List.length_append,List.length_singleton] at hM4 hun ⊢
      omega
     ·refine hG4.mono fun q o hj ho=>?_
      have:=(hG4.lt hj).1
      rw[aD om,aD om]
      exact ho
   ·have h1:=hz4.resolve_left hN0
    have hg:=(eT es4 (st d.aa[k])[j]).resolve_left (fun h=>hN0 h.2)
    rw[h1] at hg
    refine y8 v1 hid5 hc5 hm4 hg hkk4 Nat.mul_one ?_
    refine ae rfl ?_
    refine aG v2 ?_
    exact⟨hjl,⟨hk4,es4,l4,ver4,junk4⟩,aO,rfl,hS4,hI4,hM4,hG4,hstep _ (fun _ h=>h) hN0⟩
  ·have v3:=aT hjl
   obtain rfl:j=(st d.aa[k]).length:=by omega
   rw[List.take_length] at hJ4
   refine aG v3 ?_
   refine ae rfl ?_
   refine aC ?_
   show CW _ _ _ _
   refine aG w2 ?_
   exact⟨hlt,⟨hk4,es4,l4,ver4,junk4⟩,aO,rfl,hS4,hI4.next hlt (fun _=>hJ4),hM4⟩
 ·have db:=decide_eq_false b1
  refine fN w1 hid hrd db ?_
  refine af rfl ?_
  refine aC ?_
  show CW _ _ _ _
  refine aG w2 ?_
  exact⟨hlt,⟨hk2,es2,l2,ver2,junk2⟩,aO,rfl,hS2,hI2.next hlt (fun e=>absurd e b1),hM2⟩
·have q3:=aT hlt
 obtain rfl:k=d.aa.length:=by omega
 refine aG q3 ?_
 refine ae rfl ?_
 refine aC ?_
 exact⟨⟨hk2,es2,l2,ver2,junk2⟩,by omega,aO,rfl,hS2,hI2.fin,by omega⟩}
end
def eW (l:List Sym):List Sym:=l.filter fun s=>!dW s
theorem yt {l:List Sym} {k:Nat} (hk:k<l.length):eW (l.take (k+1))=if dW l[k]=true then eW (l.take k) else eW (l.take k)++[l[k]]:=by{
unfold eW
rw[List.take_succ_eq_append_getElem hk,List.filter_append]
cases h:dW l[k]<;>simp [h]}
theorem th {l:List Sym}:(eW l).length≤l.length:=List.length_filter_le _ _
def gu (l:List Sym):List ByteArray:=match eW l with
 | [s]=>if ((decide (s.kind=3)||decide (s.kind=6)) && !cN s.name)=true then [s.name] else []
 | _=>[]
theorem AZ {l:List Sym}:(gu l).length≤1:=by{
unfold gu
split
·split<;>simp
·simp}
theorem tu {l:List Sym}:(l.flatMap Sym.cells).length=l.length*8:=by{
induction l with
| nil=>rfl
| cons s l ih=>rw[List.flatMap_cons,List.length_append,ih,List.length_cons];show 8+_=_;omega}
section
variable {h:ah} {r:Value} {d:b7}
theorem GQ {p:Prod} {u:Value} (hy:fV h u p.al):FW env 136 [p.val u] h fun x h'=>h <+: h'∧aK h h' x (gu p.al).length ((gu p.al).map .string) 9:=by{
obtain⟨ps,cs,rfl⟩:=bW.form hy
have hle:p.al.length*88≤140737488355328:=hy.1
have hl:p.al.length≤140737488355328:=by omega
have z0:(eW []).length=0:=rfl
refine fe Tryz.func136 ?_;simp only[push_cast]
refine aB ?_
refine CW.mono (Q:=fun e s'=>e = .exit 0∧∃ (h1:ah) (q:Option Addr) (c:Nat),h <+: h1∧aK h h1 (.slice q (eW p.al).length c) (eW p.al).length ((eW p.al).flatMap Sym.cells) 56∧s'.h=h1∧bB [(3,.val (.slice q (eW p.al).length c))] s'.fr) ?_ ?_
·refine a9 p.al.length (fun k (x:ah×Option Addr×Nat)=>[(3,.val (.slice x.2.1 (eW (p.al.take k)).length x.2.2)),(7,.val (.slice ps p.al.length cs)),(8,.val (i64 p.al.length)),(9,.val (i64 k))]) (fun _ x=>x.1)
  (fun k x=>h <+: x.1∧aK h x.1 (.slice x.2.1 (eW (p.al.take k)).length x.2.2) (eW (p.al.take k)).length ((eW (p.al.take k)).flatMap Sym.cells) 56) (h,none,0) (lF z0) rfl ⟨List.prefix_refl _,aK.nil⟩ ?_
 rintro k ⟨hk,q,cq⟩ hkn ⟨hp,hG⟩
 simp only at hp hG ⊢
 by_cases hlt:k<p.al.length
 ·obtain⟨id,au,own,c',hv,hid⟩:=bW.at (hy.mono hp) om
  cases hv
  have hg:=gV hlt
  have e1:=cH hlt
  have e2:=inc hlt hl
  have e3:=aV hlt
  have hs:=yt hlt
  have hlen:(eW (p.al.take k)).length≤k:=by
   have:=th (l:=p.al.take k)
   rw[List.length_take] at this
   omega
  refine aG e3 ?_
  refine af rfl ?_
  refine ir e1 hid hg ?_
  refine zj Tryz.func134 ?_
  refine pF.mono ?_
  rintro _ h1 ⟨rfl,rfl⟩
  cases hL:dW p.al[k] with
  | true=>
    rw[if_pos hL] at hs
    refine aB ?_
    refine ae rfl ?_
    refine aG e2 ?_
    refine⟨hlt,(h1,q,cq),(lF hs),rfl,hp,?_⟩
    rw[hs]
    exact hG
  | false=>
    rw[if_neg (by rw[hL];decide)] at hs
    have hs2:(eW (p.al.take (k+1))).length=(eW (p.al.take k)).length+1:=by rw[hs];simp
    refine aB ?_
    refine af rfl ?_
    refine aB ?_
    refine lf (t:=49) (cs:=Sym.cells p.al[k]) ak rfl kr Cw (by decide) rfl ak rfl hG hp tu rfl (by simp only;omega) om ?_
    intro p' c' h' k1 k2 _ _
    refine aG e2 ?_
    refine⟨hlt,(h',p',c'),(lF hs2),rfl,k2,?_⟩
    rw[hs,List.length_append,List.flatMap_append,List.flatMap_singleton]
    exact k1
 ·have e3:=aT hlt
  obtain rfl:k=p.al.length:=by omega
  rw[List.take_length] at hG
  refine aG e3 ?_
  refine ae rfl ?_
  refine aC ?_
  refine⟨rfl,hk,q,cq,hp,hG,rfl,?_⟩
  rw[List.take_length]
  exact aO
rintro e s' ⟨rfl,h1,q,c,hp1,hG1,hh,hf⟩
show CW _ _ _ _
refine aA _ hf ?_
rw[hh]
clear hf hh s'
have hBr:gu p.al=(match eW p.al with
 | [s]=>if ((decide (s.kind=3)||decide (s.kind=6)) && !cN s.name)=true then [s.name] else []
 | _=>[]):=rfl
have hML:=th (l:=p.al)
generalize eW p.al=M at hG1 hBr hML ⊢
by_cases hl1:M.length=1
·obtain⟨s,rfl⟩:∃ x,M=[x]:=by
  match M,hl1 with
  | [x],_=>exact⟨x,rfl⟩
 obtain⟨io,vo,_,i2,i3⟩:=hG1.vV (by simp)
 cases i2
 rw[List.flatMap_singleton] at i3
 unfold Sym.cells at i3
 simp only at hBr
 by_cases q3:s.name=⟨#[]⟩
 ·have d3:=decide_eq_true q3
  by_cases q1:s.kind=3
  ·have d1:=decide_eq_true q1
   refine fN i3 d1 d3 Nat.mul_one ?_
   refine ae rfl ?_
   refine aB ?_
   refine ai ?_
   refine⟨_,ak,hp1,?_⟩
   rw[hBr]
   rw[if_neg (by simp [cN,d3])]
   exact aK.nil
  ·have d1:=decide_eq_false q1
   by_cases q2:s.kind=6
   ·have d2:=decide_eq_true q2
    refine ox i3 d1 d2 d3 Nat.mul_one ?_
    refine ae rfl ?_
    refine aB ?_
    refine ai ?_
    refine⟨_,ak,hp1,?_⟩
    rw[hBr]
    rw[if_neg (by simp [cN,d3])]
    exact aK.nil
   ·have d2:=decide_eq_false q2
    refine ox i3 d1 d2 d3 Nat.mul_one ?_
    refine ae rfl ?_
    refine aB ?_
    refine ai ?_
    refine⟨_,ak,hp1,?_⟩
    rw[hBr]
    rw[if_neg (by simp [cN,d3])]
    exact aK.nil
 ·have d3:=decide_eq_false q3
  by_cases q1:s.kind=3
  ·have d1:=decide_eq_true q1
   refine fN i3 d1 d3 Nat.mul_one ?_
   refine af rfl ?_
   refine zu ?_
   iterate 4 (apply ej;·simp only[push_cast,env,Nat.reduceEqDiff,reduceIte,Nat.reduceAdd,Nat.reduceMul,Nat.reduceLeDiff,reduceCtorEq,Nat.reduceSub,Int.reduceToNat,i3,Nat.mul_one]<;>exact rfl)
   refine cz (t:=9) (cs:=[.string s.name]) (n:=1) ak ak ?_
   refine aB ?_
   refine ai ?_
   refine⟨_,ak,cS hp1,?_⟩
   rw[hBr,if_pos (by simp [cN,d1,d1,d3])]
   exact .inr ⟨h1.length,0,hp1.length_le,rfl,aJ⟩
  ·have d1:=decide_eq_false q1
   by_cases q2:s.kind=6
   ·have d2:=decide_eq_true q2
    refine ox i3 d1 d2 d3 Nat.mul_one ?_
    refine af rfl ?_
    refine zu ?_
    iterate 4 (apply ej;·simp only[push_cast,env,Nat.reduceEqDiff,reduceIte,Nat.reduceAdd,Nat.reduceMul,Nat.reduceLeDiff,reduceCtorEq,Nat.reduceSub,Int.reduceToNat,i3,Nat.mul_one]<;>exact rfl)
    refine cz (t:=9) (cs:=[.string s.name]) (n:=1) ak ak ?_
    refine aB ?_
    refine ai ?_
    refine⟨_,ak,cS hp1,?_⟩
    rw[hBr,if_pos (by simp [cN,d1,d2,d3])]
    exact .inr ⟨h1.length,0,hp1.length_le,rfl,aJ⟩
   ·have d2:=decide_eq_false q2
    refine ox i3 d1 d2 d3 Nat.mul_one ?_
    refine ae rfl ?_
    refine aB ?_
    refine ai ?_
    refine⟨_,ak,hp1,?_⟩
    rw[hBr]
    rw[if_neg (by simp [d1,d2])]
    exact aK.nil
·have dn:decide ((M.length:Int)=1)=false:=decide_eq_false om
 refine aG dn ?_
 have hBe:gu p.al=[]:=by
  rw[hBr]
  match M,hl1 with
  | [],_=>rfl
  | [x],h=>exact absurd rfl h
  | _ :: _ :: _,_=>rfl
 refine ae rfl ?_
 refine aB ?_
 refine ai ?_
 refine⟨_,ak,hp1,?_⟩
 rw[hBe]
 exact aK.nil}
theorem D5 (hk:Bk h r d) (hpn:cZ d≤160):FW env 77 [r] h fun x h'=>ii (∀ s∈aF d.aa,¬ sr d.aa (fun p=>gu p.al) s s) x∧h'=h:=by{
refine lq ?_
have hk0:=hk
have hU:(d.aa.flatMap fun p=>gu p.al).length≤100000:=by
 rw[List.length_flatMap]
 have:=lu (f:=fun p:Prod=>(gu p.al).length) (B:=1) (l:=d.aa) fun p _=>AZ
 unfold cZ at hpn
 unfold dp at this
 omega
obtain⟨h0,ib,im,sv,up,uc,uf,ur,ub,rfl,hd,K⟩:=hk
have hd:=hd.mono K.p
obtain⟨p1,c1,p2,c2,p3,c3,p4,c4,p5,c5,rfl,rfl,rfl,rfl,rfl,l1,l2,l3,l4,l5⟩:=bK.form hd
obtain⟨es,hm,hes⟩:=K.m
have hb:=K.b
unfold b7.val at hb
simp only[List.cons_append,List.nil_append] at hb
have hkk:=bm es
have hss:bh h sv (aF d.aa):=K.s.sl (b:=16) (by have:=b8 (ps:=d.aa);have:=cT.le hd.aa;omega)
obtain⟨pq,cq,rfl⟩:=hss.form
have hsl:=hss.le
refine fe Tryz.func77 ?_;simp only[push_cast]
refine aG hb ?_
refine a9 (aF d.aa).length (fun k (x:ah)=>[(0,.val (.pointer (some ⟨ib,0,some 0⟩))),(9,.val (.slice pq (aF d.aa).length cq)),(10,.val (i64 (aF d.aa).length)),(11,.val (i64 k))]) (fun _ x=>x) (fun k x=>h <+: x∧∀ i (hi:i<(aF d.aa).length),i<k→¬ sr d.aa (fun p=>gu p.al) (aF d.aa)[i] (aF d.aa)[i]) h aO rfl ⟨List.prefix_refl _,fun i _ hi=>absurd hi om⟩ ?_
rintro k h1 hkn ⟨hp,hall⟩
by_cases hlt:k<(aF d.aa).length
·obtain⟨id,au,own,c',cells,hv,hid,hc⟩:=(bh.mono hss hp).at hlt
 cases hv
 have e1:=cH hlt
 have e2:=inc hlt hsl
 have e3:=aV hlt
 have hmem:(aF d.aa)[k]∈aF d.aa:=List.getElem_mem hlt
 generalize hS:(aF d.aa)[k]=S at hc hmem
 have hstep:¬ sr d.aa (fun p=>gu p.al) S S→∀ i (hi:i<(aF d.aa).length),i<k+1→¬ sr d.aa (fun p=>gu p.al) (aF d.aa)[i] (aF d.aa)[i]:=fun h3 i hi h2=>by
  rcases (by omega:i<k∨i=k) with h4|rfl
  ·exact hall i hi h4
  ·rw[hS];exact h3
 refine aG e3 ?_
 refine af rfl ?_
 refine fN e1 hid hc Nat.mul_one ?_
 refine zj Tryz.func135 ?_
 refine (s4 (st:=fun p=>gu p.al) (hk0.mono hp) Tryz.func136 kr kr hU (fun p _ u h1 _ hy=>GQ hy)).mono ?_
 rintro _ h2 ⟨hp2,im2,es2,rfl,_,hm2,hR⟩
 have hkk2:=bm es2
 have hdn:=hR.done (s:=S)
 have hz:=hR.z S
 generalize hn:dx es2 S=n at hdn hz
 rcases eT es2 S with ⟨hg,h0'⟩ | hg
 ·obtain rfl:n=0:=by rw[← hn,h0']
  refine fN hm2 hg hkk2 Nat.mul_one ?_
  refine ae rfl ?_
  refine aG e2 ?_
  exact⟨hlt,h2,aO,rfl,hp.trans hp2,hstep (fun h=>hdn.2 h rfl)⟩
 ·rw[hn] at hg
  rcases hz with rfl|rfl
  ·refine fN hm2 hg hkk2 Nat.mul_one ?_
   refine ae rfl ?_
   refine aG e2 ?_
   exact⟨hlt,h2,aO,rfl,hp.trans hp2,hstep (fun h=>hdn.2 h rfl)⟩
  ·refine fN hm2 hg hkk2 Nat.mul_one ?_
   refine af rfl ?_
   refine aB ?_
   refine ai ?_
   exact⟨_,ak,⟨48,_,rfl,⟨fun h=>(by cases h),fun h=>absurd (hdn.1 (by decide)) (h _ hmem)⟩⟩,hp.trans hp2⟩
·have e3:=aT hlt
 obtain rfl:k=(aF d.aa).length:=by omega
 refine aG e3 ?_
 refine ae rfl ?_
 refine aC ?_
 show CW _ _ _ _
 refine aB ?_
 refine ai ?_
 refine⟨_,ak,⟨0,_,rfl,fun _ s hs=>?_,fun _=>rfl⟩,hp⟩
 obtain⟨i,hi,rfl⟩:=List.getElem_of_mem hs
 exact hall i hi hi}
end
def iB (s:ByteArray) (e:Bool):Bool:=(cN s&&e)||bJ s
def jc (s:aZ):Bool:=decide (s.a=0)&&(decide (s.b=0)&&(decide (s.c=0)&&decide (s.d=0)))
def bf (s:Sym):Bool:=
 if s.kind=1 then decide ((s.text.size:Int)≤32)&&(jc s.set&&(cN s.name&&cN s.sep))
 else if s.kind=2 then cN s.text&&(cN s.name&&cN s.sep)
 else if s.kind=3 then cN s.text&&(jc s.set&&(bJ s.name&&cN s.sep))
 else if s.kind=4 then cN s.text&&(cN s.sep&&(cN s.name||(jc s.set&&bJ s.name)))
 else if s.kind=5∨s.kind=6 then (if cN s.name then cN s.text&&cN s.sep else cN s.text&&(jc s.set&&(bJ s.name&&decide ((s.sep.size:Int)≤32))))
 else false
def bV (p:Prod):Bool:=
 (bJ p.sort&&(iB p.cons true&&(decide (p.al.length≠0)&&decide (p.al.length≤12))))&&((if p.lex then !p.bracket else (p.bracket == cN p.cons))&&p.al.all bf)
def dh (g:dT):Bool:=decide (0≤g.assoc)&&(decide (g.assoc≤3)&&(decide (g.cons.length≠0)&&(decide (g.cons.length≤16)&&g.cons.all bJ)))
def dK (l:List dT):Bool:=l.all dh&&(decide (l.length≠0)&&decide (l.length≤16))
def jt (x:Item):Bool:=
 if x.kind=1 then decide ((x.text.size:Int)≤32)&&(decide (x.n=0)&&decide (x.bR.length=0))
 else if x.kind=2 then cN x.text&&((decide (0≤x.n)&&decide (x.n≤999999))&&decide (x.bR.length=0))
 else if x.kind=3∨x.kind=4 then cN x.text&&(decide (x.n=0)&&decide (x.bR.length=0))
 else if x.kind=5 then cN x.text&&(decide (0≤x.n)&&decide (x.n≤999999))
 else if x.kind=6 then cN x.text&&decide (x.n=0)
 else false
mutual
def Q8:Item→Bool
 | .mk k t n l=>jt (.mk k t n l)&&x7 l
def x7:List Item→Bool
 | []=>true
 | x :: r=>Q8 x&&x7 r
end
def gO (b:I0):Bool:=bJ b.cons&&(x7 b.bR&&decide (kB b.bR≤64))
def cQ (d:b7):Bool:=
 (iB d.start true&&(iB d.layout true&&decide (d.aa.length≤200)))&&(d.aa.all bV&&(d.ax.all dK&&(d.follows.all (fun f=>bJ f.sort)&&(d.an.all (fun x=>bJ x.sort&&bJ x.jO)&&d.boxes.all gO))))
theorem pU:∀ l:List Item,x7 l=l.all Q8
 | []=>rfl
 | x :: l=>by unfold x7;rw[pU l];rfl
theorem JN (x:Item):Q8 x=(jt x&&x7 x.bR):=by cases x;rfl
theorem Ax {b:ByteArray}:cN b=true↔b.size=0:=by unfold cN;rw[decide_eq_true_eq];exact jd
end Go.Proofs.YtmdmimkbpikmoaaGreat
