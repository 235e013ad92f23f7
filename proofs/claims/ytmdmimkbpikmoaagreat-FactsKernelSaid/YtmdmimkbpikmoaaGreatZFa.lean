/- Several texts, one behind the other. -/
import Derived.Test.YtmdmimkbpikmoaaGreatZTy
import Derived.DeepKeys
set_option linter.unusedSimpArgs false
set_option linter.unusedVariables false
set_option maxHeartbeats 8000000
namespace Go.Proofs.YtmdmimkbpikmoaaGreat
set_option maxRecDepth 20000
open Go.RowKit Am Ty
def IU (l:List ch):Int:=(l.map fun r=>(r.rhs.length:Int)+1).sum
def aX.zero:aX:=⟨0,0,0,0⟩
def AR (cK:Int) (s:aT):Prop:=s.nt < -1∨cK≤s.nt∨(0≤s.nt∧s.set≠aX.zero)
def C3 (cK:Int) (r:ch):Prop:=r.lhs<0∨cK≤r.lhs∨80<r.rhs.length∨∃ s∈r.rhs,AR cK s
def mN (g:ca):Prop:=g.cK<1∨4096<g.cK∨g.start<0∨g.cK≤g.start∨8192<g.rules.length∨∃ r∈g.rules,C3 g.cK r
instance (cK:Int) (s:aT):Decidable (AR cK s):=by unfold AR;infer_instance
instance (cK:Int) (r:ch):Decidable (C3 cK r):=by unfold C3;infer_instance
instance (g:ca):Decidable (mN g):=by unfold mN;infer_instance
def eT (g:ca):Int:=if mN g then 3 else 0
theorem IG (a b:aX):jD a.cells b.cells=decide (a=b):=by
 cases a;cases b
 simp only[aX.cells,jD,np,Bool.and_true,aX.mk.injEq,Bool.decide_and]
theorem Fs (a b c d:Int) (s:aX):(decide (a=s.a)&&(decide (b=s.b)&&(decide (c=s.c)&&decide (d=s.d))))=decide (aX.mk a b c d=s):=by
 have:=IG ⟨a,b,c,d⟩ s
 simpa only[aX.cells,jD,np,Bool.and_true] using this
theorem lD (s:aX):(decide (s.a=0)&&(decide (s.b=0)&&(decide (s.c=0)&&decide (s.d=0))))=decide (s=aX.zero):=by
 cases s
 simp only[aX.zero,aX.mk.injEq,Bool.decide_and]
attribute [push_cast] tI
theorem Hr {h:ah} {g:ca} {v:Value} (hr:jQ h v g):FW env 60 [v] h fun r h'=>r=i64 (eT g)∧h'=h:=by{
obtain⟨u,rfl,hu⟩:=hr
obtain⟨p,c,rfl⟩:=hu.form
have hle:=hu.le
refine fe Tryz.func60 ?_;simp only[push_cast]
by_cases c1:g.cK<1
·have e1:=decide_eq_true c1
 refine aG e1 ?_
 refine ae (ir e1) ?_
 refine aG e1 ?_
 refine ai ?_
 exact⟨_,ak,by rw[eT,if_pos];exact⟨rfl,rfl⟩;unfold mN;exact .inl c1⟩
have e1:=decide_eq_false c1
by_cases c2:4096<g.cK
·have e2:=decide_eq_true c2
 refine fh e1 e2 ?_
 refine ae (OD e1 e2) ?_
 refine fh e1 e2 ?_
 refine ai ?_
 exact⟨_,ak,by rw[eT,if_pos];exact⟨rfl,rfl⟩;unfold mN;exact .inr (.inl c2)⟩
have e2:=decide_eq_false c2
by_cases c3:g.start<0
·have e3:=decide_eq_true c3
 refine gV e1 e2 e3 ?_
 refine ae (KK e1 e2 e3) ?_
 refine gV e1 e2 e3 ?_
 refine ai ?_
 exact⟨_,ak,by rw[eT,if_pos];exact⟨rfl,rfl⟩;unfold mN;exact .inr (.inr (.inl c3))⟩
have e3:=decide_eq_false c3
by_cases c4:g.cK≤g.start
·have e4:=decide_eq_true c4
 refine fi e1 e2 e3 e4 ?_
 refine ae (Wd e1 e2 e3 e4) ?_
 refine fi e1 e2 e3 e4 ?_
 refine ai ?_
 exact⟨_,ak,by rw[eT,if_pos];exact⟨rfl,rfl⟩;unfold mN;exact .inr (.inr (.inr (.inl c4)))⟩
have e4:=decide_eq_false c4
by_cases c5:8192<g.rules.length
·have e5:decide (8192<(g.rules.length:Int))=true:=decide_eq_true om
 refine kL e1 e2 e3 e4 e5 ?_
 refine ae (VA e1 e2 e3 e4 e5) ?_
 refine kL e1 e2 e3 e4 e5 ?_
 refine ai ?_
 exact⟨_,ak,by rw[eT,if_pos];exact⟨rfl,rfl⟩;unfold mN;exact .inr (.inr (.inr (.inr (.inl c5))))⟩
have e5:decide (8192<(g.rules.length:Int))=false:=decide_eq_false om
refine kL e1 e2 e3 e4 e5 ?_
refine af (VA e1 e2 e3 e4 e5) ?_
refine aC ?_
refine cO g.rules.length (fun k=>[(1,.box [i64 g.cK,i64 g.start,.slice p g.rules.length c]),(34,.val (.slice p g.rules.length c)),(35,.val (i64 g.rules.length)),(36,.val (i64 k))]) (fun _=>h) (fun k=>∀ r∈g.rules.take k,¬ C3 g.cK r) aK rfl (by simp) ?_
intro k hk hI
by_cases hlt:k<g.rules.length
·obtain⟨id,ar,own,c',cells,p',n',c2,hv,hid,hn,hrd,hu'⟩:=hu.at hlt
 cases hv
 have e6:=cg hlt
 have e7:=inc hlt hle
 have e8:=aS hlt
 refine fi e6 hid hrd e8 ?_
 refine ae rfl ?_
 have hmem:g.rules[k]∈g.rules:=List.getElem_mem hlt
 by_cases r1:g.rules[k].lhs<0
 ·have f1:=decide_eq_true r1
  refine fi e6 hid hrd f1 ?_
  refine ae (ir f1) ?_
  refine aG f1 ?_
  refine ai ?_
  exact⟨_,ak,by rw[eT,if_pos];exact⟨rfl,rfl⟩;exact .inr (.inr (.inr (.inr (.inr ⟨_,hmem,.inl r1⟩))))⟩
 have f1:=decide_eq_false r1
 by_cases r2:g.cK≤g.rules[k].lhs
 ·have f2:=decide_eq_true r2
  refine kL e6 hid hrd f1 f2 ?_
  refine ae (OD f1 f2) ?_
  refine fh f1 f2 ?_
  refine ai ?_
  exact⟨_,ak,by rw[eT,if_pos];exact⟨rfl,rfl⟩;exact .inr (.inr (.inr (.inr (.inr ⟨_,hmem,.inr (.inl r2)⟩))))⟩
 have f2:=decide_eq_false r2
 by_cases r3:80<g.rules[k].rhs.length
 ·have f3:decide (80<(n':Int))=true:=decide_eq_true om
  refine DB e6 hid hrd f1 f2 f3 ?_
  refine ae (KK f1 f2 f3) ?_
  refine gV f1 f2 f3 ?_
  refine ai ?_
  exact⟨_,ak,by rw[eT,if_pos];exact⟨rfl,rfl⟩;exact .inr (.inr (.inr (.inr (.inr ⟨_,hmem,.inr (.inr (.inl r3))⟩))))⟩
 have f3:decide (80<(n':Int))=false:=decide_eq_false om
 refine DB e6 hid hrd f1 f2 f3 ?_
 refine af (KK f1 f2 f3) ?_
 refine aC ?_
 refine cO n' (fun j=>[(1,.box [i64 g.cK,i64 g.start,.slice (some ⟨id,0,some ar⟩) g.rules.length c]),(34,.val (.slice (some ⟨id,0,some ar⟩) g.rules.length c)),(35,.val (i64 g.rules.length)),(36,.val (i64 k)),(57,.val (.slice p' n' c2)),(58,.val (i64 n')),(59,.val (i64 j))]) (fun _=>h)
  (fun j=>∀ s∈g.rules[k].rhs.take j,¬ AR g.cK s) aK rfl (by simp) ?_
 intro j hj hJ
 by_cases hjl:j<n'
 ·rw[hn] at hu' hj hjl ⊢
  obtain⟨id2,ver2,own2,c3',cells2,hv2,hid2,hrd2⟩:=hu'.at hjl
  cases hv2
  have e9:=cg hjl
  have e10:=inc hjl om
  have e11:=aS hjl
  refine fi e9 hid2 hrd2 e11 ?_
  refine ae rfl ?_
  have hmem2:g.rules[k].rhs[j]∈g.rules[k].rhs:=List.getElem_mem hjl
  by_cases s1:g.rules[k].rhs[j].nt < -1
  ·have g1:=decide_eq_true s1
   refine fi e9 hid2 hrd2 g1 ?_
   refine ae (ir g1) ?_
   refine aG g1 ?_
   refine ai ?_
   exact⟨_,ak,by rw[eT,if_pos];exact⟨rfl,rfl⟩;exact .inr (.inr (.inr (.inr (.inr ⟨_,hmem,.inr (.inr (.inr ⟨_,hmem2,.inl s1⟩))⟩))))⟩
  have g1:=decide_eq_false s1
  by_cases s2:g.cK≤g.rules[k].rhs[j].nt
  ·have g2:=decide_eq_true s2
   refine kL e9 hid2 hrd2 g1 g2 ?_
   refine ae (OD g1 g2) ?_
   refine fh g1 g2 ?_
   refine ai ?_
   exact⟨_,ak,by rw[eT,if_pos];exact⟨rfl,rfl⟩;exact .inr (.inr (.inr (.inr (.inr ⟨_,hmem,.inr (.inr (.inr ⟨_,hmem2,.inr (.inl s2)⟩))⟩))))⟩
  have g2:=decide_eq_false s2
  by_cases s3:0≤g.rules[k].rhs[j].nt
  ·have g3:=decide_eq_true s3
   by_cases s4:g.rules[k].rhs[j].set=aX.zero
   ·have g4:=decide_eq_true s4
    repeat (first|apply zs|apply zr|apply zn|((first|apply zx|apply zy);·simp only[push_cast,env,Nat.reduceEqDiff,reduceIte,Nat.reduceAdd,Nat.reduceMul,Nat.reduceLeDiff,reduceCtorEq,Nat.reduceSub,Int.reduceToNat,e9,hid2,hrd2,g1,g2,g3,lD,g4]<;>first|exact rfl|exact .inl rfl|exact .inr rfl) | apply zq|apply zb|apply zo|apply zk|apply zl)
    refine af (by simp only[push_cast,env,Nat.reduceEqDiff,reduceIte,g1,g2,g3,lD,g4]<;>exact rfl) ?_
    refine aG e10 ?_
    refine⟨hjl,aK,rfl,?_⟩
    intro s hs
    rw[List.take_succ_eq_append_getElem hjl,List.mem_append] at hs
    rcases hs with hs|hs
    ·exact hJ s hs
    ·obtain rfl:s=_:=by simpa using hs
     unfold AR
     simp only[s1,s2,s4,ne_eq,not_true,and_false,or_false,not_false_eq_true]
   ·have g4:=decide_eq_false s4
    repeat (first|apply zs|apply zr|apply zn|((first|apply zx|apply zy);·simp only[push_cast,env,Nat.reduceEqDiff,reduceIte,Nat.reduceAdd,Nat.reduceMul,Nat.reduceLeDiff,reduceCtorEq,Nat.reduceSub,Int.reduceToNat,e9,hid2,hrd2,g1,g2,g3,lD,g4]<;>first|exact rfl|exact .inl rfl|exact .inr rfl) | apply zq|apply zb|apply zo|apply zk|apply zl)
    refine ae (by simp only[push_cast,env,Nat.reduceEqDiff,reduceIte,g1,g2,g3,lD,g4]<;>exact rfl) ?_
    repeat (first|apply zs|apply zr|apply zn|((first|apply zx|apply zy);·simp only[push_cast,env,Nat.reduceEqDiff,reduceIte,Nat.reduceAdd,Nat.reduceMul,Nat.reduceLeDiff,reduceCtorEq,Nat.reduceSub,Int.reduceToNat,g1,g2,g3,lD,g4]<;>first|exact rfl|exact .inl rfl|exact .inr rfl) | apply zq|apply zb|apply zo|apply zk|apply zl)
    refine ai ?_
    exact⟨_,ak,by rw[eT,if_pos];exact⟨rfl,rfl⟩;exact .inr (.inr (.inr (.inr (.inr ⟨_,hmem,.inr (.inr (.inr ⟨_,hmem2,.inr (.inr ⟨s3,s4⟩)⟩))⟩))))⟩
  ·have g3:=decide_eq_false s3
   refine DB e9 hid2 hrd2 g1 g2 g3 ?_
   refine af (KK g1 g2 g3) ?_
   refine aG e10 ?_
   refine⟨hjl,aK,rfl,?_⟩
   intro s hs
   rw[List.take_succ_eq_append_getElem hjl,List.mem_append] at hs
   rcases hs with hs|hs
   ·exact hJ s hs
   ·obtain rfl:s=_:=by simpa using hs
    unfold AR
    simp only[s1,s2,s3,false_and,or_false,not_false_eq_true]
 ·obtain rfl:j=n':=by omega
  have e11:=aP hjl
  refine aG e11 ?_
  refine af rfl ?_
  refine az ?_
  show CW _ _ _ _
  refine aG e7 ?_
  refine⟨hlt,aK,rfl,?_⟩
  intro r hr
  rw[List.take_succ_eq_append_getElem hlt,List.mem_append] at hr
  rcases hr with hr|hr
  ·exact hI r hr
  ·obtain rfl:r=_:=by simpa using hr
   rw[hn,List.take_length] at hJ
   unfold C3
   rintro (h1|h1|h1|⟨s,h1,h2⟩)
   ·exact r1 h1
   ·exact r2 h1
   ·exact r3 h1
   ·exact hJ s h1 h2
·have e8:=aP hlt
 obtain rfl:k=g.rules.length:=by omega
 refine aG e8 ?_
 refine af rfl ?_
 refine az ?_
 show CW _ _ _ _
 refine aC ?_
 refine ai ?_
 rw[List.take_length] at hI
 refine⟨_,ak,?_⟩
 rw[eT,if_neg]
 ·exact⟨rfl,rfl⟩
 ·unfold mN
  rintro (h1|h1|h1|h1|h1|⟨r,h1,h2⟩)
  ·exact c1 h1
  ·exact c2 h1
  ·exact c3 h1
  ·exact c4 h1
  ·exact c5 h1
  ·exact hI r h1 h2}
theorem eK {cells l:List Value} {off n j:Nat} (h:jU cells off n=some l) (hj:j<n):cells[off+j]? = l[j]?:=by{
unfold jU vt at h
split at h
·cases h
 rw[List.getElem?_take_of_lt hj,List.getElem?_drop]
·cases h}
theorem gZ {cells l:List Value} {off n:Nat} (h:jU cells off n=some l) (hj:0<n):cells[off]? = l[0]?:=eK (j:=0) h hj
def FE (g:ca) (lim:Int):Prop:=lim<g.cK∨lim<g.rules.length∨lim<g.cK+IU g.rules
instance (g:ca) (lim:Int):Decidable (FE g lim):=by unfold FE;infer_instance
attribute [push_cast] tJ
def ms (id:Nat) (h:ah) (u:Value) (l:List aT):Prop:=∀ h':ah,(∀ j o,j≠id→h[j]? = some o→h'[j]? = some o)→jI h' u l
theorem ms.rd {id:Nat} {h:ah} {u:Value} {l:List aT} (k:ms id h u l):jI h u l:=k h fun _ _ _ h=>h
theorem ms.mono {id:Nat} {h h':ah} {u:Value} {l:List aT} (k:ms id h u l) (hh:∀ j o,j≠id→h[j]? = some o→h'[j]? = some o):ms id h' u l:=
 fun h2 h3=>k h2 fun j o hj ho=>h3 j o hj (hh j o hj ho)
abbrev UU (p:ch×Value):List Value:=[i64 p.1.lhs,p.2]
def mH (h hk:ah) (u:Value) (l:List ch):Prop:=
 h <+: hk∧l.length≤1000000∧∃ us:List Value,us.length=l.length∧((l=[]∧u = .slice none 0 0)∨∃ id ar,h.length≤id∧u = .slice (some ⟨id,0,some ar⟩) l.length l.length ∧
   hk[id]? = some (.aA ((l.zip us).flatMap UU) ar true 63)∧∀ (i:Nat) (r:ch) (x:Value),l[i]? = some r→us[i]? = some x→ms id hk x r.rhs)
theorem dp {hk h1:ah} (hp:hk <+: h1):∀ {j:Nat} {o:av},hk[j]? = some o→h1[j]? = some o:=fun h=>ag hp h
theorem mH.grow {h hk h1:ah} {u:Value} {l:List ch} (b:mH h hk u l) (hp:hk <+: h1):mH h h1 u l:=by{
obtain⟨b1,b0,us,b2,b3⟩:=b
refine⟨b1.trans hp,b0,us,b2,?_⟩
rcases b3 with b3|⟨id,ar,c1,c2,c3,c4⟩
·exact .inl b3
·exact .inr ⟨id,ar,c1,c2,dp hp c3,fun i r x h1 h2=>(c4 i r x h1 h2).mono fun j o _ ho=>dp hp ho⟩}
theorem mH.rd {h hk:ah} {u:Value} {l:List ch} (b:mH h hk u l):fW hk u l:=by{
obtain⟨b1,b0,us,b2,b3⟩:=b
rcases b3 with ⟨rfl,rfl⟩ | ⟨id,ar,c1,c2,c3,c4⟩
·exact⟨[],rfl,⟨by simp,.inl ⟨.inl rfl,rfl,rfl⟩⟩,fun i r u h=>by simp at h⟩
·exact⟨us,b2,⟨by omega,.inr ⟨id,ar,true,_,c2,c3⟩⟩,fun i r x h1 h2=>(c4 i r x h1 h2).rd⟩}
theorem aH {h:ah} {x:av}:h <+: h++[x]:=⟨[x],rfl⟩
theorem aJ {h:ah} {x:av}:(h++[x])[h.length]? = some x:=by simp
def R7 {G:Type} (n k:Nat) (F:Nat→G→Fr) (H:Nat→G→ah) (I:Nat→G→Prop) (Q:AX→St→Prop):AX→St→Prop
 | .normal,s=>k<n∧∃ g,bA (F (k+1) g) s.fr∧s.h=H (k+1) g∧I (k+1) g
 | e,s=>Q e s
theorem aZ {N:Env} {G:Type} {c:Code} {s:St} {Q:AX→St→Prop} (n:Nat) (F:Nat→G→Fr) (H:Nat→G→ah) (I:Nat→G→Prop) (g0:G) (h0:bA (F 0 g0) s.fr) (hh:s.h=H 0 g0) (hI:I 0 g0) (hs:∀ k g,k≤n→I k g→CW N c ⟨F k g,[],H k g⟩ (R7 n k F H I Q)):CW N (.loop c) s Q:=by{
refine rr (fun m s=>∃ k g,m=n-k∧k≤n∧bA (F k g) s.fr∧s.h=H k g∧I k g) n ⟨0,g0,rfl,Nat.zero_le _,h0,hh,hI⟩ ?_
rintro m s ⟨k,g,rfl,hk,hf,hh,hI⟩
refine aB _ hf ?_
rw[hh]
refine (hs k g hk hI).mono fun e s' hq=>?_
cases e with
| normal=>
  obtain⟨h1,g',h2,h3,h4⟩:=hq
  exact⟨n-(k+1),by omega,k+1,g',rfl,by omega,h2,h3,h4⟩
| exit id=>exact hq
| ret=>exact hq}
theorem mH.form {h hk:ah} {u:Value} {l:List ch} (b:mH h hk u l):∃ p c,u = .slice p l.length c:=by{
obtain⟨_,_,us,_,⟨rfl,rfl⟩ | ⟨id,ar,_,rfl,_⟩⟩:=b
·exact⟨_,_,rfl⟩
·exact⟨_,_,rfl⟩}
theorem vU:Tryz.prog.underlying 54=some (.array 4 52):=by kernel_rfl
theorem BH:Tryz.prog.underlying 52=some (.int .u64):=by kernel_rfl
theorem IN:Tryz.prog.underlying 3=some (.int .i64):=by kernel_rfl
theorem Eh:Tryz.prog.cellsOf 52=1:=by kernel_rfl
theorem zd {xs:Array Value} {off:Nat} {v:Value} {w:World} (h:xs[off]? = some v):(part 52 xs off).run Tryz.prog w = .ok v w:=run_part_plain w kr h
theorem ym {xs:Array Value} {off:Nat} {v:Value} {w:World} (h:xs[off]? = some v):(part 3 xs off).run Tryz.prog w = .ok v w:=run_part_plain w kr h
theorem uX (d:Nat) (xs ys:Array Value) (f g:Nat→Int) (w:World):∀ (is:List Nat),(∀ i∈is,xs[i]? = some (.int .u64 (f i))∧ys[i]? = some (.int .u64 (g i))) →
 (Op.eqItems (d+1) 52 1 xs ys is).run Tryz.prog w = .ok (is.all fun i=>decide (f i=g i)) w
 | [],_=>by simp [Op.eqItems]
 | i :: is,h=>by
   obtain⟨h1,h2⟩:=h i List.mem_cons_self
   have ih:=uX d xs ys f g w is fun j hj=>h j (List.mem_cons_of_mem _ hj)
   simp only[Op.eqItems,Sem.run_bind,Nat.mul_one,zd h1,zd h2,Result.andThen_ok,run_equalIn_int w d _ _ _ _ _ BH,List.all_cons]
   by_cases he:f i=g i
   ·simp only[he,beq_self_eq_true,Bool.not_true,Bool.false_eq_true,if_false,decide_true,Bool.true_and]
    exact ih
   ·simp [he]
theorem BR (d:Nat) (a b c e a' b' c' e':Int) (w:World):(Op.equalIn (d+2) 54 (.agg #[.int .u64 a,.int .u64 b,.int .u64 c,.int .u64 e]) (.agg #[.int .u64 a',.int .u64 b',.int .u64 c',.int .u64 e'])).run Tryz.prog w = .ok (decide (a=a')&&(decide (b=b')&&(decide (c=c')&&decide (e=e')))) w:=by{
obtain⟨i,hi⟩:=info_of_underlying BH
rw[run_equalIn_array w (d+1) _ _ vU hi,Eh]
rw[uX d _ _ (fun i=>[a,b,c,e].getD i 0) (fun i=>[a',b',c',e'].getD i 0) w]
·simp only[show List.range 4=[0,1,2,3] from rfl,List.all_cons,List.all_nil,Bool.and_true,List.getD_cons_zero,List.getD_cons_succ]
·intro i hi
 have:i=0∨i=1∨i=2∨i=3:=by simp at hi;omega
 rcases this with rfl|rfl|rfl|rfl<;>exact⟨rfl,rfl⟩}
theorem Fj (a b c e n:Int) (w:World):(part 54 #[.int .i64 n,.int .u64 a,.int .u64 b,.int .u64 c,.int .u64 e] 1).run Tryz.prog w = .ok (.agg #[.int .u64 a,.int .u64 b,.int .u64 c,.int .u64 e]) w:=by{
obtain⟨i,hi⟩:=info_of_underlying vU
have hs:(Tryz.prog.info? 54).map (·.size)=some 4:=by kernel_rfl
rw[hi] at hs
simp only[Option.map_some,Option.some.injEq] at hs
simp [part,jg vU,oY,bW hi,hs]}
noncomputable def OI (i:Nat):Option Field:=(Tryz.prog.fieldsOf 65)[i]?
theorem IM (d:Nat) (n a b c e n' a' b' c' e':Int) (w:World):(Op.equalIn (d+3) 65 (.agg #[.int .i64 n,.int .u64 a,.int .u64 b,.int .u64 c,.int .u64 e]) (.agg #[.int .i64 n',.int .u64 a',.int .u64 b',.int .u64 c',.int .u64 e'])).run Tryz.prog w = .ok (decide (n=n')&&(decide (a=a')&&(decide (b=b')&&(decide (c=c')&&decide (e=e'))))) w:=by{
obtain⟨f0,h0⟩:∃ f,OI 0=some f:=Option.isSome_iff_exists.1 kr
obtain⟨f1,h1⟩:∃ f,OI 1=some f:=Option.isSome_iff_exists.1 kr
have hsz:(Tryz.prog.fieldsOf 65).size=2:=by kernel_rfl
have hl:(Tryz.prog.fieldsOf 65).toList=[f0,f1]:=by
 apply List.ext_getElem?
 intro i
 match i with
 | 0=>simpa [OI] using h0
 | 1=>simpa [OI] using h1
 | i+2=>simp [hsz]
have t0:(OI 0).map (fun f=>(f.type,f.offset,f.name == "_"))=some (3,0,false):=by kernel_rfl
have t1:(OI 1).map (fun f=>(f.type,f.offset,f.name == "_"))=some (54,1,false):=by kernel_rfl
rw[h0] at t0
rw[h1] at t1
simp only[Option.map_some,Option.some.injEq,Prod.mk.injEq,beq_eq_false_iff_ne,ne_eq] at t0 t1
obtain⟨a1,a2,a3⟩:=t0
obtain⟨b1,b2,b3⟩:=t1
rw[run_equalIn_struct w (d+2) _ _ _ kr kr,hl]
simp only[Op.eqFields,a1,a2,a3,b1,b2,b3,ne_eq,not_false_eq_true,if_true,Sem.run_bind]
rw[ym (v:=.int .i64 n) rfl]
simp only[Result.andThen_ok]
rw[ym (v:=.int .i64 n') rfl]
simp only[Result.andThen_ok,run_equalIn_int w (d+1) _ _ _ _ _ IN]
by_cases he:n=n'
·simp only[he,beq_self_eq_true,Bool.not_true,Bool.false_eq_true,if_false,decide_true,Bool.true_and,Sem.run_bind,Fj,Result.andThen_ok,BR]
 generalize (decide (a=a')&&(decide (b=b')&&(decide (c=c')&&decide (e=e'))))=r
 cases r<;>simp
·simp [he]}
theorem Hl {l:List Value} (h:tI l=true):∃ a b c e,l=[.int .u64 a,.int .u64 b,.int .u64 c,.int .u64 e]:=by{
unfold tI at h
split at h
·exact⟨_,_,_,_,rfl⟩
·cases h}
theorem GC {l:List Value} (h:tJ l=true):∃ n a b c e,l=[.int .i64 n,.int .u64 a,.int .u64 b,.int .u64 c,.int .u64 e]:=by{
unfold tJ at h
split at h
·exact⟨_,_,_,_,_,rfl⟩
·cases h}
theorem tg {μ:Mu}:∀ {l l':List Value},(∀ v∈l,∃ k a,v = .int k a)→dE Tryz.prog μ l l'→l'=l
 | [],[],_,_=>rfl
 | v :: l,v' :: l',h,⟨h1,h2⟩=>by
   obtain⟨k,a,rfl⟩:=h v List.mem_cons_self
   rw[VR.int h1,tg (fun u hu=>h u (List.mem_cons_of_mem _ hu)) h2]
 | [],_ :: _,_,h=>h.elim
 | _ :: _,[],_,h=>h.elim
theorem wP {xs:Array Value} {l:List Value} (h:xs.toList=l):xs=l.toArray:=by rw[← h]
theorem EE:∀ t chk,env.KU t=some chk→Ez Tryz.prog t chk∧∀ l l':List Value,∀ μ:Mu,dE Tryz.prog μ l l'→chk l=true→l'=l:=by{
intro t chk h
simp only[env] at h
split at h
·rename_i ht
 subst ht
 cases h
 refine⟨fun xs ys h1 h2=>⟨by kernel_rfl,fun w=>?_⟩,?_⟩
 ·obtain⟨a,b,c,e,hx⟩:=Hl h1
  obtain⟨a',b',c',e',hy⟩:=Hl h2
  rw[hx,hy,wP hx,wP hy]
  rw[show (10000:Nat)=9998+2 from rfl]
  rw[BR 9998]
  simp only[jD,np,Bool.and_true]
 ·intro l l' μ hv hc
  obtain⟨a,b,c,e,rfl⟩:=Hl hc
  exact tg (by simp) hv
·split at h
 ·rename_i ht
  subst ht
  cases h
  refine⟨fun xs ys h1 h2=>⟨by kernel_rfl,fun w=>?_⟩,?_⟩
  ·obtain⟨n,a,b,c,e,hx⟩:=GC h1
   obtain⟨n',a',b',c',e',hy⟩:=GC h2
   rw[hx,hy,wP hx,wP hy]
   rw[show (10000:Nat)=9997+3 from rfl]
   rw[IM 9997]
   simp only[jD,np,Bool.and_true]
  ·intro l l' μ hv hc
   obtain⟨n,a,b,c,e,rfl⟩:=GC hc
   exact tg (by simp) hv
 ·exact AJ t chk h}
end Go.Proofs.YtmdmimkbpikmoaaGreat
namespace Go.Proofs.YtmdmimkbpikmoaaGreat
open Go.RowKit Am Ty
theorem GD:(env.P.funcs.toList.all fun fn=>!(fn.name == "runtime.NumGoroutine"))=true:=by kernel_rfl
theorem SK:sB env (fun _=>true):=fun f fn _ hf=>by
 have:=List.all_eq_true.1 GD fn (Array.mem_toList_iff.2 (Array.mem_of_getElem? hf))
 simpa using this
set_option maxRecDepth 100000
theorem Db:((Bl env (fun _=>true) 200 10 26 [] []).map fun p=>p.1)=some (.bool true):=by kernel_rfl
theorem si {h:ah}:FW env 26 [] h fun r h'=>r = .bool true∧h'=h:=by{
have h1:=Db
cases hc:Bl env (fun _=>true) 200 10 26 [] [] with
| none=>rw[hc] at h1;cases h1
| some p=>
  obtain⟨r,h'⟩:=p
  rw[hc] at h1
  simp only[Option.map_some,Option.some.injEq] at h1
  subst h1
  have h2:=(qD mixed SK 10 _ _ _ _ _ hc).2
  unfold FW
  exact⟨_,_,.fresh h2 (.be rfl),rfl,rfl⟩}
end Go.Proofs.YtmdmimkbpikmoaaGreat
namespace Go.Proofs.YtmdmimkbpikmoaaGreat
set_option maxRecDepth 20000
open Go.RowKit Am Ty
def V8 {G:Type} (m:G→Nat) (F:G→Fr) (H:G→ah) (I:G→Prop) (g:G) (Q:AX→St→Prop):AX→St→Prop
 | .normal,s=>∃ g',m g'<m g∧bA (F g') s.fr∧s.h=H g'∧I g'
 | e,s=>Q e s
theorem fp {N:Env} {G:Type} {c:Code} {s:St} {Q:AX→St→Prop} (m:G→Nat) (F:G→Fr) (H:G→ah) (I:G→Prop) (g0:G) (h0:bA (F g0) s.fr) (hh:s.h=H g0) (hI:I g0) (hs:∀ g,I g→CW N c ⟨F g,[],H g⟩ (V8 m F H I g Q)):CW N (.loop c) s Q:=by{
refine rr (fun n s=>∃ g,n=m g∧bA (F g) s.fr∧s.h=H g∧I g) (m g0) ⟨g0,rfl,h0,hh,hI⟩ ?_
rintro n s ⟨g,rfl,hf,hh,hI⟩
refine aB _ hf ?_
rw[hh]
refine (hs g hI).mono fun e s' hq=>?_
cases e with
| normal=>
  obtain⟨g',h1,h2,h3,h4⟩:=hq
  exact⟨m g',h1,g',rfl,h2,h3,h4⟩
| exit id=>exact hq
| ret=>exact hq}
theorem bU {h H:ah} {x:av} (hp:h <+: H):h <+: H++[x]:=hp.trans aH
theorem a8 {h H:ah} {id:Nat} {x:av} (hp:h <+: H) (hi:h.length≤id):h <+: H.set id x:=by
 obtain⟨tl,rfl⟩:=hp
 rw[List.prefix_iff_eq_take,List.take_set_of_le hi,List.take_left]
theorem aD {H:ah} {i j:Nat} {x:av} (h:i≠j):(H.set i x)[j]? = H[j]?:=List.getElem?_set_ne h
theorem aw {H:ah} {i:Nat} {x y:av} (h:H[i]? = some y):(H.set i x)[i]? = some x:=List.getElem?_set_self (List.getElem?_eq_some_iff.1 h).1
theorem cD {H:ah} {i:Nat} {y:av} (h:H[i]? = some y):i<H.length:=(List.getElem?_eq_some_iff.1 h).1
theorem bg {H:ah} {x:av} {i:Nat} {y:av} (h:H[i]? = some y):(H++[x])[i]? = some y:=dp aH h
theorem oV {α:Type} {f:α→Value} {l:List α} {i:Nat} {x:α} (hi:i<l.length):ll (l.map f) i [f x]=some ((l.set i x).map f):=by{
unfold ll
rw[if_pos (by simp only[List.length_map,List.length_singleton];omega)]
congr 1
rw[List.set_eq_take_append_cons_drop,if_pos hi]
simp}
theorem dN {α:Type} {f:α→List Value} {k:Nat} (hf:∀ x,(f x).length=k):∀ l:List α,(l.flatMap f).length=l.length*k
 | []=>by simp
 | x :: l=>by simp only[List.flatMap_cons,List.length_append,hf,dN hf l,List.length_cons,Nat.succ_mul];omega
theorem Cr {α:Type} {f:α→List Value} {k:Nat} (hf:∀ x,(f x).length=k) {l:List α} {i:Nat} {x:α} (hi:i<l.length):ll (l.flatMap f) (i*k) (f x)=some ((l.set i x).flatMap f):=by{
have h1:(i+1)*k≤l.length*k:=Nat.mul_le_mul_right k hi
have h2:(i+1)*k=i*k+k:=Nat.succ_mul i k
unfold ll
rw[if_pos (by rw[dN hf,hf];omega),hf]
congr 1
rw[List.set_eq_take_append_cons_drop,if_pos hi,List.flatMap_append,List.flatMap_cons]
have e:l.flatMap f=(l.take i).flatMap f++(f l[i]++(l.drop (i+1)).flatMap f):=by
 conv=>lhs;rw[← List.take_append_drop i l,List.flatMap_append,List.drop_eq_getElem_cons hi,List.flatMap_cons]
have hti:((l.take i).flatMap f).length=i*k:=by rw[dN hf,List.length_take,Nat.min_eq_left om]
rw[e]
simp only[List.append_assoc]
rw[List.take_left' hti,← hti,List.drop_append,List.drop_of_length_le om,show (List.flatMap f (List.take i l)).length+k-(List.flatMap f (List.take i l)).length=k by omega,← hf l[i],List.drop_left,List.nil_append]}
theorem oN {n:Nat} {v:Value}:(List.replicate n [v]).flatten=List.replicate n v:=by{
induction n with
| zero=>rfl
| succ n ih=>rw[List.replicate_succ,List.flatten_cons,ih,List.replicate_succ];rfl}
theorem Bj {α:Type} {f:α→Value} {n:Nat} {x:α}:List.replicate n (f x)=(List.replicate n x).map f:=by simp
theorem Gf {α:Type} {f:α→List Value} {n:Nat} {x:α}:(List.replicate n (f x)).flatten=(List.replicate n x).flatMap f:=by{
induction n with
| zero=>rfl
| succ n ih=>rw[List.replicate_succ,List.flatten_cons,ih,List.replicate_succ,List.flatMap_cons]}
theorem wo {α:Type} {f:α→Value} {l:List α} {i:Nat} (hi:i<l.length):(l.map f)[i]? = some (f l[i]):=by simp [hi]
section
variable {all:Array Oper} {o:Oper} {r:List Oper} {s:St} {K:St→Prop}
theorem xa {x:Operand} {t e:TypeId} {ti:TI} {z:Value} {n:Int} {N:Nat} {cs:List Value} (hw:aF all o s=some true) (ho:o.op = .makeSlice t x x) (hx:ev s x=some (i64 n)) (hN:n=N) (hu:env.P.underlying t=some (.slice e)) (ht:aq env.P e=some ti) (hz:ti.zero=some z) (hp:(fT z&&z.cells.toList.all one&&decide (z.cells.size=ti.size)&&decide (0<ti.size))=true) (hb:N*ti.bytes≤140737488355328) (hN2:N≤140737488355328) (hcs:(List.replicate N z.cells.toList).flatten=cs) (k:OW env all r ({ s with h:=s.h++[av.aA cs 0 true e] }.a9 o.dst (.val (.slice (some ⟨s.h.length,0,some 0⟩) N N))) K):OW env all (o :: r) s K:=by{
subst hN hcs
refine P5 hw ?_ k
rw[ho]
have h1:(ti.bytes:Int)*(N:Int)≤140737488355328:=by
 have:((N*ti.bytes:Nat):Int)≤140737488355328:=by omega
 rw[Int.natCast_mul,Int.mul_comm] at this
 exact this
have h2:(N:Int)≤140737488355328:=by omega
unfold zL
simp only[hu,hx,ht,hz]
rw[if_pos (by rw[hp,decide_eq_true trivial,decide_eq_true (Int.natCast_nonneg N),decide_eq_true h1,decide_eq_true h2];rfl),Int.toNat_natCast]}
theorem Ef {x:Operand} {n:Int} {N:Nat} (hw:aF all o s=some true) (ho:o.op = .makeSlice 74 x x) (hx:ev s x=some (i64 n)) (hN:n=N) (hN2:N≤1000000)
 (k:OW env all r ({ s with h:=s.h++[av.aA ((List.replicate N false).map Value.bool) 0 true 4] }.a9 o.dst (.val (.slice (some ⟨s.h.length,0,some 0⟩) N N))) K):OW env all (o :: r) s K:=by
 refine xa hw ho hx hN kr VI rfl (by rfl) (by simp only;omega) om (by rw[← Bj];exact oN) k
theorem xU {x:Operand} {n:Int} {N:Nat} (hw:aF all o s=some true) (ho:o.op = .makeSlice 39 x x) (hx:ev s x=some (i64 n)) (hN:n=N) (hN2:N≤1000000)
 (k:OW env all r ({ s with h:=s.h++[av.aA ((List.replicate N (0:Int)).map i64) 0 true 3] }.a9 o.dst (.val (.slice (some ⟨s.h.length,0,some 0⟩) N N))) K):OW env all (o :: r) s K:=by
 refine xa hw ho hx hN kr NY rfl (by rfl) (by simp only;omega) om (by rw[← Bj];exact oN) k
theorem Hg {x:Operand} {n:Int} {N:Nat} (hw:aF all o s=some true) (ho:o.op = .makeSlice 38 x x) (hx:ev s x=some (i64 n)) (hN:n=N) (hN2:N≤1000000)
 (k:OW env all r ({ s with h:=s.h++[av.aA ((List.replicate N (⟨0,0,0,0⟩:aX)).flatMap aX.cells) 0 true 54] }.a9 o.dst (.val (.slice (some ⟨s.h.length,0,some 0⟩) N N))) K):OW env all (o :: r) s K:=by
 refine xa hw ho hx hN kr Rb rfl (by rfl) (by simp only;omega) om (Gf (f:=aX.cells) (n:=N) (x:=⟨0,0,0,0⟩)) k
end
inductive Iy (T:aT→Prop) (rules:List ch):Int→Prop
 | mk (r:ch):r∈rules→(∀ s∈r.rhs,s.nt<0→T s)→(∀ s∈r.rhs,0≤s.nt→Iy T rules s.nt)→Iy T rules r.lhs
def bit (m:List Bool) (i:Int):Bool:=m.getD i.toNat false
theorem eg {m:List Bool} {i:Int} (h0:0≤i) (h1:i<m.length):bit m i=m[i.toNat]'om:=by{
unfold bit
rw[List.getD_eq_getElem?_getD,List.getElem?_eq_getElem (by omega:i.toNat<m.length)]
rfl}
theorem oq {m:List Bool} {i:Int} (h0:0≤i) (h1:i<m.length):(m.map Value.bool)[i.toNat]? = some (.bool (bit m i)):=by
 rw[wo (by omega:i.toNat<m.length),eg h0 h1]
theorem qT {m:List Bool} {i j:Int} {b:Bool} (h0:0≤i) (h1:i<m.length) (j0:0≤j):bit (m.set i.toNat b) j=if i=j then b else bit m j:=by{
unfold bit
simp only[List.getD_eq_getElem?_getD,List.getElem?_set]
by_cases h:i=j
·subst h
 rw[if_pos rfl,if_pos rfl,if_pos om]
 rfl
·rw[if_neg om,if_neg h]}
theorem wE {n:Nat} {i:Int}:bit (List.replicate n false) i=false:=by{
unfold bit
rw[List.getD_eq_getElem?_getD,List.getElem?_replicate]
split<;>rfl}
theorem zW {m:List Bool} {i:Int} (h0:0≤i) (h1:i<m.length) (hb:bit m i=false):(m.set i.toNat true).count false<m.count false:=by{
rw[eg h0 h1] at hb
have hp:0<m.count false:=List.count_pos_iff.2 (hb▸List.getElem_mem _)
rw[List.count_set (by omega:i.toNat<m.length),hb]
simp only[beq_self_eq_true,if_true,Bool.true_beq,Bool.false_eq_true,if_false]
omega}
def Marks (n:Int) (D:Int→Prop) (m:List Bool):Prop:=(m.length:Int)=n∧∀ i:Int,0≤i→i<n→(bit m i=true↔D i)
theorem Marks.eq {n:Int} {D:Int→Prop} {m m':List Bool} (h:Marks n D m) (h':Marks n D m'):m=m':=by{
have hl:m.length=m'.length:=by have:=h.1;have:=h'.1;omega
refine List.ext_getElem hl fun i h1 h2=>?_
have a1:=h.2 i om (by have:=h.1;omega)
have a2:=h'.2 i om (by have:=h.1;omega)
rw[eg om om] at a1 a2
simp only[Int.toNat_natCast] at a1 a2
cases hm:m[i]<;>cases hm':m'[i]<;>simp_all}
def D7 (h h':ah) (v:Value) (n:Nat) (cells:List Value) (et:TypeId):Prop:=∃ id ar,h.length≤id∧v = .slice (some ⟨id,0,some ar⟩) n n∧h'[id]? = some (.aA cells ar true et)
abbrev Ct (h h':ah) (v:Value) (m:List Bool):Prop:=D7 h h' v m.length (m.map Value.bool) 4
theorem Ct.rd {h h':ah} {v:Value} {m:List Bool} (k:Ct h h' v m) (hl:m.length≤1000000):kD h' v m:=by
 obtain⟨id,ar,h1,h2,h3⟩:=k
 exact⟨by omega,.inr ⟨id,ar,true,_,h2,h3⟩⟩
def VQ (g:ca):Prop:=¬ mN g
structure ee (g:ca):Prop where
 n1:1≤g.cK
 n2:g.cK≤4096
 s1:0≤g.start
 s2:g.start<g.cK
 rl:g.rules.length≤8192
 r:∀ r∈g.rules,0≤r.lhs∧r.lhs<g.cK∧r.rhs.length≤80∧∀ s∈r.rhs,-1≤s.nt∧s.nt<g.cK∧(0≤s.nt→s.set=aX.zero)
theorem Fb {g:ca} (h:¬ mN g):ee g:=by{
have k:∀ p:Prop,¬ ¬ p→p:=fun p=>Classical.not_not.1
refine⟨k _ fun c=>h (.inl om),k _ fun c=>h (.inr (.inl om)),k _ fun c=>h (.inr (.inr (.inl om))),k _ fun c=>h (.inr (.inr (.inr (.inl om)))),k _ fun c=>h (.inr (.inr (.inr (.inr (.inl om))))),fun r hr=>?_⟩
have hr':¬ C3 g.cK r:=fun c=>h (.inr (.inr (.inr (.inr (.inr ⟨r,hr,c⟩)))))
refine⟨k _ fun c=>hr' (.inl om),k _ fun c=>hr' (.inr (.inl om)),k _ fun c=>hr' (.inr (.inr (.inl om))),fun s hs=>?_⟩
have hs':¬ AR g.cK s:=fun c=>hr' (.inr (.inr (.inr ⟨s,hs,c⟩)))
exact⟨k _ fun c=>hs' (.inl om),k _ fun c=>hs' (.inr (.inl om)),fun h0=>k _ fun c=>hs' (.inr (.inr ⟨h0,c⟩))⟩}
def aL (h hk:ah) (v:Value) (n:Nat) (cells:List Value) (et:TypeId):Prop:=(n=0∧cells=[]∧v = .slice none 0 0)∨D7 h hk v n cells et
def bB:Value→Nat→Bool
 | .slice (some a) _ _,j=>a.block == j
 | _,_=>false
section
variable {h hk:ah} {v:Value} {n b:Nat} {cells:List Value} {et:TypeId}
theorem aL.nil:aL h hk (.slice none 0 0) 0 [] et:=.inl ⟨rfl,rfl,rfl⟩
theorem aL.form (g:aL h hk v n cells et):∃ p c,v = .slice p n c:=by{
rcases g with ⟨rfl,_,rfl⟩ | ⟨id,ar,_,rfl,_⟩
·exact⟨_,_,rfl⟩
·exact⟨_,_,rfl⟩}
theorem aL.sl (g:aL h hk v n cells et) (hb:n*b≤140737488355328):bT hk v n cells et b:=by{
rcases g with ⟨rfl,rfl,rfl⟩ | ⟨id,ar,_,h2,h3⟩
·exact⟨hb,.inl ⟨.inl rfl,rfl,rfl⟩⟩
·exact⟨hb,.inr ⟨id,ar,true,_,h2,h3⟩⟩}
theorem aL.mono {h':ah} (g:aL h hk v n cells et) (hp:∀ j o,bB v j=true→hk[j]? = some o→h'[j]? = some o):aL h h' v n cells et:=by{
rcases g with g|⟨id,ar,h1,rfl,h3⟩
·exact .inl g
·exact .inr ⟨id,ar,h1,rfl,hp _ _ (by simp [bB]) h3⟩}
theorem D7.mono {h':ah} (g:D7 h hk v n cells et) (hp:∀ j o,bB v j=true→hk[j]? = some o→h'[j]? = some o):D7 h h' v n cells et:=by
 obtain⟨id,ar,h1,rfl,h3⟩:=g
 exact⟨id,ar,h1,rfl,hp _ _ (by simp [bB]) h3⟩
theorem aL.lt (g:aL h hk v n cells et) {j:Nat} (hj:bB v j=true):h.length≤j∧j<hk.length:=by{
rcases g with ⟨_,_,rfl⟩ | ⟨id,ar,h1,rfl,h3⟩
·simp [bB] at hj
·simp only[bB,beq_iff_eq] at hj
 subst hj
 exact⟨h1,cD h3⟩}
theorem aL.wz (g:aL h hk v n cells et) (hn:0<n):D7 h hk v n cells et:=by{
rcases g with ⟨h0,_⟩ | g
·omega
·exact g}
end
section
variable {all:Array Oper} {o:Oper} {r:List Oper} {s:St} {K:St→Prop}
theorem mn {x:Operand} {t y:Nat} {e:TypeId} {ti:TI} {v:Value} {cs cells:List Value} {n:Nat} {h:ah} (hw:aF all o s=some true) (ho:o.op = .call { callee:=.builtin .append,args:=#[x,.tmp y],argTypes:=#[t,t] }) (hu:env.P.underlying t=some (.slice e)) (ht:aq env.P e=some ti) (hs0:0<ti.size) (hz:(ti.zero.map fun z=>z.cells.size)=some ti.size) (hx:ev s x=some v) (hy:aW s.fr y = .mx cs 1) (G:aL h s.h v n cells e) (hp:h <+: s.h) (hl:cells.length=n*ti.size) (hc:cs.length=ti.size) (hb:(n+1)*ti.bytes≤140737488355328) (hn:n+1≤140737488355328) (k:∀ p c h',aL h h' (.slice p (n+1) c) (n+1) (cells++cs) e→h <+: h'→(∀ j o,bB v j=false→s.h[j]? = some o→h'[j]? = some o)→s.h.length≤h'.length→OW env all r ({ s with h:=h' }.a9 o.dst (.val (.slice p (n+1) c))) K):OW env all (o :: r) s K:=by{
have hi:cd s s.h ti.size (.tmp y)=some (cs,1):=by simp only[cd,hy,hc,Nat.one_mul,if_true]
rcases G with ⟨rfl,rfl,rfl⟩ | ⟨id,ar,h1,rfl,h3⟩
·refine og hw ho hu ht hs0 hz hx hi (by decide) (by simpa using hb) (by decide) ?_
 exact k (some ⟨s.h.length,0,some 0⟩) 1 _ (.inr ⟨s.h.length,0,hp.length_le,rfl,by simp⟩) (bU hp) (fun j o _ h=>bg h) (by simp)
·refine oZ hw ho hu ht hs0 hz hx h3 om hi hb hn ?_
 rw[List.take_of_length_le om]
 refine k (some ⟨id,0,some (ar+1)⟩) (n+1) _ (.inr ⟨id,ar+1,h1,rfl,aw h3⟩) (a8 hp h1) (fun j o hj h=>?_) (by simp)
 simp only[bB,beq_eq_false_iff_ne] at hj
 rw[aD hj]
 exact h}
theorem xD {x:Operand} {y:Nat} {v:Value} {l:List Int} {b:Int} {h:ah} (hw:aF all o s=some true) (ho:o.op = .call { callee:=.builtin .append,args:=#[x,.tmp y],argTypes:=#[39,39] }) (hx:ev s x=some v) (hy:aW s.fr y = .mx [i64 b] 1) (G:aL h s.h v l.length (l.map i64) 3) (hp:h <+: s.h) (hn:l.length≤1000000) (k:∀ p c h',aL h h' (.slice p (l.length+1) c) (l++[b]).length ((l++[b]).map i64) 3→h <+: h'→(∀ j o,bB v j=false→s.h[j]? = some o→h'[j]? = some o)→s.h.length≤h'.length→OW env all r ({ s with h:=h' }.a9 o.dst (.val (.slice p (l.length+1) c))) K):OW env all (o :: r) s K:=by{
refine mn hw ho kr NY (by decide) rfl hx hy G hp (by simp) rfl (by simp only;omega) om fun p c h' h1 h2 h3 h4=>k p c h' ?_ h2 h3 h4
rw[List.map_append,List.length_append]
exact h1}
theorem df {t:TypeId} {cs:List Value} {n:Nat} (hw:aF all o s=some true) (hm:jw env s o.op=some (t,cs,n)) (k:OW env all r ({ s with h:=s.h++[av.aA cs 0 true t] }.a9 o.dst (.val (.slice (some ⟨s.h.length,0,some 0⟩) n n))) K):OW env all (o :: r) s K:=by{
unfold OW at k ⊢
obtain⟨s2,k1,k2⟩:=k
exact⟨s2,.o6 hw hm k1,k2⟩}
end
theorem Bb:∀ {m m':List Bool},m.length=m'.length→(∀ (i:Nat) (h1:i<m.length) (h2:i<m'.length),m[i]=true→m'[i]=true)→m.count true≤m'.count true
 | [],[],_,_=>Nat.le_refl _
 | a :: m,b :: m',hl,hh=>by
   have ih:=Bb (m:=m) (m':=m') (by simpa using hl) fun i h1 h2 h=>hh (i+1) (by simpa using h1) (by simpa using h2) h
   have h0:=hh 0 (by simp) (by simp)
   simp only[List.getElem_cons_zero] at h0
   rw[List.count_cons,List.count_cons]
   cases a<;>cases b<;>simp_all<;>omega
theorem vG:∀ {m m':List Bool},m.length=m'.length→(∀ (i:Nat) (h1:i<m.length) (h2:i<m'.length),m[i]=true→m'[i]=true)→(∃ (i:Nat) (h1:i<m.length) (h2:i<m'.length),m[i]=false∧m'[i]=true)→m.count true<m'.count true
 | [],[],_,_,⟨i,h1,_⟩=>by simp at h1
 | a :: m,b :: m',hl,hh,⟨i,h1,h2,h3,h4⟩=>by
   have hl':m.length=m'.length:=by simpa using hl
   have hh':∀ (i:Nat) (h1:i<m.length) (h2:i<m'.length),m[i]=true→m'[i]=true:=fun i h1 h2 h=>hh (i+1) (by simpa using h1) (by simpa using h2) h
   have h0:=hh 0 (by simp) (by simp)
   simp only[List.getElem_cons_zero] at h0
   rw[List.count_cons,List.count_cons]
   cases i with
   | zero=>
     simp only[List.getElem_cons_zero] at h3 h4
     subst h3 h4
     have:=Bb hl' hh'
     simp
     omega
   | succ i=>
     have ih:=vG hl' hh' ⟨i,by simpa using h1,by simpa using h2,by simpa using h3,by simpa using h4⟩
     cases a<;>cases b<;>simp_all<;>omega
theorem yi {m:List Bool} (h:m.length≤m.count true):∀ b∈m,b=true:=by{
have:m.count true=m.length:=Nat.le_antisymm List.count_le_length h
rw[List.count_eq_length] at this
exact fun b hb=>(this b hb).symm}
def KW (n:Int) (m m':List Bool):Prop:=∀ i:Int,0≤i→i<n→bit m i=true→bit m' i=true
theorem KW.get {n:Int} {m m':List Bool} (h:KW n m m') (h1:(m.length:Int)=n) (h2:(m'.length:Int)=n):∀ (i:Nat) (h1:i<m.length) (h2:i<m'.length),m[i]=true→m'[i]=true:=by{
intro i k1 k2 k
have:=h i om om
rw[eg om om,eg om om] at this
exact this k}
def Tq (T:aT→Prop) (P:aT→List Bool→Bool):Prop:=∀ s m,P s m=true↔(s.nt<0→T s)∧(0≤s.nt→bit m s.nt=true)
def Sat (P:aT→List Bool→Bool) (m:List Bool) (r:ch):Prop:=∀ s∈r.rhs,P s m=true
def qY (P:aT→List Bool→Bool) (rules:List ch) (m:List Bool):Prop:=∀ r∈rules,Sat P m r→bit m r.lhs=true
def SL (P:aT→List Bool→Bool) (g:ca) (m m':List Bool):Prop:=(m'.length:Int)=g.cK∧∀ i:Int,0≤i→i<g.cK→(bit m' i=true↔∃ r∈g.rules,r.lhs=i∧Sat P m r)
structure mT (T:aT→Prop) (P:aT→List Bool→Bool) (g:ca) (k:Nat) (m:List Bool):Prop where
 l:(m.length:Int)=g.cK
 s:∀ i:Int,0≤i→i<g.cK→bit m i=true→Iy T g.rules i
 u:∀ i:Int,0≤i→i<g.cK→bit m i=true→∃ r∈g.rules,r.lhs=i∧Sat P m r
 c:k≤m.count true∨qY P g.rules m
section
variable {T:aT→Prop} {P:aT→List Bool→Bool} {g:ca} {m m':List Bool} {k:Nat}
theorem Sat.mono (hP:Tq T P) (R:ee g) {r:ch} (hr:r∈g.rules) (hle:KW g.cK m m') (h:Sat P m r):Sat P m' r:=by{
intro s hs
have h1:=(hP s m).1 (h s hs)
obtain⟨_,_,_,hS⟩:=R.r r hr
have h2:=hS s hs
exact (hP s m').2 ⟨h1.1,fun h0=>hle _ h0 om (h1.2 h0)⟩}
theorem mT.start (hn:(m.length:Int)=g.cK) (h:∀ i,bit m i=false):mT T P g 0 m:=
 ⟨hn,fun i _ _ hb=>(by rw[h] at hb;cases hb),fun i _ _ hb=>(by rw[h] at hb;cases hb),.inl (Nat.zero_le _)⟩
theorem mT.step (hP:Tq T P) (R:ee g) (h:mT T P g k m) (hr:SL P g m m'):mT T P g (k+1) m':=by{
have hle:KW g.cK m m':=fun i h0 h1 hb=>(hr.2 i h0 h1).2 (h.u i h0 h1 hb)
refine⟨hr.1,fun i h0 h1 hb=>?_,fun i h0 h1 hb=>?_,?_⟩
·obtain⟨r,hr1,rfl,hS⟩:=(hr.2 i h0 h1).1 hb
 obtain⟨_,_,_,hS'⟩:=R.r r hr1
 exact .mk r hr1 (fun s hs=>((hP s m).1 (hS s hs)).1) (fun s hs k0=>h.s _ k0 (by have:=hS' s hs;omega) (((hP s m).1 (hS s hs)).2 k0))
·obtain⟨r,hr1,rfl,hS⟩:=(hr.2 i h0 h1).1 hb
 exact⟨r,hr1,rfl,hS.mono hP R hr1 hle⟩
·by_cases hc:qY P g.rules m
 ·have hge:KW g.cK m' m:=fun i h0 h1 hb=>by
   obtain⟨r,hr1,rfl,hS⟩:=(hr.2 i h0 h1).1 hb
   exact hc r hr1 hS
  refine .inr fun r hr1 hS=>?_
  obtain⟨l1,l2,_⟩:=R.r r hr1
  exact (hr.2 _ l1 l2).2 ⟨r,hr1,rfl,hS.mono hP R hr1 hge⟩
 ·rcases h.c with h3|h3
  ·refine .inl ?_
   have:∃ r,r∈g.rules∧Sat P m r∧bit m r.lhs=false:=by
    refine Classical.byContradiction fun hn=>hc fun r hr1 hS=>?_
    cases hb:bit m r.lhs with
    | true=>rfl
    | false=>exact (hn ⟨r,hr1,hS,hb⟩).elim
   obtain⟨r,hr1,hS,hb⟩:=this
   obtain⟨l1,l2,_⟩:=R.r r hr1
   have hb':bit m' r.lhs=true:=(hr.2 _ l1 l2).2 ⟨r,hr1,rfl,hS⟩
   have hl:=h.l
   have hl':=hr.1
   have:m.count true<m'.count true:=by
    refine vG om (hle.get hl hl') ⟨r.lhs.toNat,by omega,by omega,?_,?_⟩
    ·rw[← eg l1 om];exact hb
    ·rw[← eg l1 om];exact hb'
   omega
  ·exact (hc h3).elim}
theorem qY.VZ (hP:Tq T P) (hc:qY P g.rules m) {i:Int} (hd:Iy T g.rules i):bit m i=true:=by
 induction hd with
 | mk r hr hT hD ih=>exact hc r hr fun s hs=>(hP s m).2 ⟨hT s hs,fun h0=>ih s hs h0⟩
theorem mT.fin (hP:Tq T P) (R:ee g) (h:mT T P g k m) (hk:g.cK≤k):Marks g.cK (Iy T g.rules) m:=by{
refine⟨h.l,fun i h0 h1=>⟨h.s i h0 h1,fun hd=>?_⟩⟩
have hl:=h.l
rcases h.c with hc|hc
·have:=yi (m:=m) om
 rw[eg h0 om]
 exact this _ (List.getElem_mem _)
·exact hc.VZ hP hd}
end
inductive Reached (g:ca):Int→Prop
 | start:Reached g g.start
 | step (r:ch) (s:aT):r∈g.rules→s∈r.rhs→0≤s.nt→Reached g r.lhs→Reached g s.nt
def Gv (g:ca) (m:List Bool) (i:Int):Prop:=∀ r∈g.rules,r.lhs=i→∀ s∈r.rhs,0≤s.nt→bit m s.nt=true
def mE (m m':List Bool):Prop:=∀ i:Int,0≤i→bit m i=true→bit m' i=true
theorem mE.refl {m:List Bool}:mE m m:=fun _ _ h=>h
theorem mE.trans {a b c:List Bool} (h:mE a b) (k:mE b c):mE a c:=fun i h0 h1=>k i h0 (h i h0 h1)
theorem mE.set {m:List Bool} {i:Int} (h0:0≤i) (h1:i<m.length):mE m (m.set i.toNat true):=fun j j0 hj=>by
 rw[qT h0 h1 j0]
 split
 ·rfl
 ·exact hj
theorem Gv.mono {g:ca} {m m':List Bool} {i:Int} (h:Gv g m i) (hl:mE m m'):Gv g m' i:=fun r hr e s hs h0=>hl _ h0 (h r hr e s hs h0)
structure sA (g:ca) (m:List Bool) (l:List Int) (now:Int→Prop):Prop where
 n:(m.length:Int)=g.cK
 s:∀ i:Int,0≤i→bit m i=true→Reached g i
 st:bit m g.start=true
 li:∀ x∈l,0≤x∧x<g.cK∧bit m x=true
 p:∀ i:Int,0≤i→bit m i=true→i∈l∨now i∨Gv g m i
theorem sA.fin {g:ca} {m:List Bool} (R:ee g) (h:sA g m [] fun _=>False):Marks g.cK (Reached g) m:=by{
refine⟨h.n,fun i h0 h1=>⟨h.s i h0,fun hr=>?_⟩⟩
clear h0 h1
induction hr with
| start=>exact h.st
| step r s hr hs h0 _ ih=>
  rcases h.p r.lhs (R.r r hr).1 ih with h1|h1|h1
  ·cases h1
  ·exact h1.elim
  ·exact h1 r hr rfl s hs h0}
theorem sA.pop {g:ca} {m:List Bool} {l:List Int} {x:Int} (h:sA g m (l++[x]) fun _=>False):sA g m l fun i=>i=x:=by{
refine⟨h.n,h.s,h.st,fun y hy=>h.li y (List.mem_append_left _ hy),fun i h0 h1=>?_⟩
rcases h.p i h0 h1 with k|k|k
·rw[List.mem_append] at k
 rcases k with k|k
 ·exact .inl k
 ·exact .inr (.inl (by simpa using k))
·exact k.elim
·exact .inr (.inr k)}
theorem sA.next {g:ca} {m:List Bool} {l:List Int} {x:Int} (h:sA g m l fun i=>i=x) (hp:Gv g m x):sA g m l fun _=>False:=by{
refine⟨h.n,h.s,h.st,h.li,fun i h0 h1=>?_⟩
rcases h.p i h0 h1 with k|k|k
·exact .inl k
·exact .inr (.inr (k▸hp))
·exact .inr (.inr k)}
theorem sA.start {g:ca} {N:Nat} (R:ee g) (hN:g.cK=N):sA g ((List.replicate N false).set g.start.toNat true) [g.start] fun _=>False:=by{
have s1:=R.s1
have s2:=R.s2
have hb:∀ i:Int,0≤i→(bit ((List.replicate N false).set g.start.toNat true) i=true↔i=g.start):=fun i h0=>by
 rw[qT s1 (by simp;omega) h0,wE]
 constructor
 ·intro h
  split at h
  ·rename_i e
   exact e.symm
  ·cases h
 ·rintro rfl
  rw[if_pos rfl]
refine⟨by simp [hN],fun i h0 h1=>(hb i h0).1 h1▸.start,(hb _ s1).2 rfl,fun x hx=>?_,fun i h0 h1=>?_⟩
·obtain rfl:x=_:=by simpa using hx
 exact⟨s1,s2,(hb _ s1).2 rfl⟩
·exact .inl (by simp [(hb i h0).1 h1])}
def Iz (g:ca) (m:List Bool):Prop:=∀ r∈g.rules,bit m r.lhs=true→∀ s∈r.rhs,0≤s.nt→bit m s.nt=true
structure kA (g:ca) (k:Nat) (m:List Bool):Prop where
 n:(m.length:Int)=g.cK
 s:∀ i:Int,0≤i→bit m i=true→Reached g i
 st:bit m g.start=true
 c:k+1≤m.count true∨Iz g m
structure Nj (g:ca) (m:List Bool) (k:Nat) (m':List Bool):Prop where
 n:(m'.length:Int)=g.cK
 s:∀ i:Int,0≤i→bit m' i=true→Reached g i
 le:mE m m'
 d:∀ r∈g.rules.take k,bit m r.lhs=true→∀ s∈r.rhs,0≤s.nt→bit m' s.nt=true
theorem kA.start {g:ca} {N:Nat} (R:ee g) (hN:g.cK=N):kA g 0 ((List.replicate N false).set g.start.toNat true):=by{
have h:=sA.start R hN
have s1:=R.s1
refine⟨h.n,h.s,h.st,.inl ?_⟩
have h1:=h.st
have hn:=h.n
have s2:=R.s2
rw[eg s1 om] at h1
exact List.count_pos_iff.2 (List.mem_iff_getElem.2 ⟨_,_,h1⟩)}
theorem kA.step {g:ca} {m m':List Bool} {k:Nat} (R:ee g) (h:kA g k m) (hr:Nj g m g.rules.length m'):kA g (k+1) m':=by{
have hd:=hr.d
rw[List.take_length] at hd
refine⟨hr.n,hr.s,hr.le _ R.s1 h.st,?_⟩
have hl:=h.n
have hl':=hr.n
have hle:∀ (i:Nat) (h1:i<m.length) (h2:i<m'.length),m[i]=true→m'[i]=true:=KW.get (n:=g.cK) (fun i h0 _=>hr.le i h0) hl hl'
by_cases hc:∃ i:Int,0≤i∧i<g.cK∧bit m i=false∧bit m' i=true
·rcases h.c with h3|h3
 ·obtain⟨i,h0,h1,h2,h4⟩:=hc
  have:=vG om hle ⟨i.toNat,by omega,by omega,by rw[← eg h0 om];exact h2,by rw[← eg h0 om];exact h4⟩
  exact .inl om
 ·-- what is closed stays: but something was added,which is reached: no
  obtain⟨i,h0,h1,h2,h4⟩:=hc
  have hre:=hr.s i h0 h4
  have:∀ j,Reached g j→bit m j=true:=fun j hj=>by
   induction hj with
   | start=>exact h.st
   | step r s hr hs h0 _ ih=>exact h3 r hr ih s hs h0
  rw[this i hre] at h2
  cases h2
·refine .inr fun r hr1 hb s hs h0=>?_
 obtain⟨l1,l2,_,hS⟩:=R.r r hr1
 have hs2:=hS s hs
 have hge:∀ i:Int,0≤i→i<g.cK→bit m' i=true→bit m i=true:=fun i h0 h1 hb=>by
  cases h:bit m i with
  | true=>rfl
  | false=>exact (hc ⟨i,h0,h1,h,hb⟩).elim
 exact hd r hr1 (hge _ l1 l2 hb) s hs h0}
theorem kA.fin {g:ca} {m:List Bool} {k:Nat} (R:ee g) (h:kA g k m) (hk:g.cK≤k+1):Marks g.cK (Reached g) m:=by{
have hl:=h.n
refine⟨h.n,fun i h0 h1=>⟨h.s i h0,fun hr=>?_⟩⟩
rcases h.c with hc|hc
·have:=yi (m:=m) om
 rw[eg h0 om]
 exact this _ (List.getElem_mem _)
·clear h0 h1
 induction hr with
 | start=>exact h.st
 | step r s hr hs h0 _ ih=>exact hc r hr ih s hs h0}
def pW (w:Int):Prop:=0≤w∧w<18446744073709551616
def sd (w:Int) (j:Nat):Bool:=w.toNat.testBit j
def aX.word (s:aX):Nat→Int
 | 0=>s.a
 | 1=>s.b
 | 2=>s.c
 | _=>s.d
def aX.has (s:aX) (n:Nat):Bool:=sd (s.word (n / 64)) (n % 64)
structure du (s:aX):Prop where
 a:pW s.a
 b:pW s.b
 c:pW s.c
 d:pW s.d
theorem du.word {s:aX} (h:du s) (i:Nat):pW (s.word i):=by{
match i with
| 0=>exact h.a
| 1=>exact h.b
| 2=>exact h.c
| n+3=>exact h.d}
theorem EY {v w:Int} (hv:pW v) (hw:pW w) (h:∀ j,j<64→sd v j=sd w j):v=w:=by{
have:v.toNat=w.toNat:=by
 refine Nat.eq_of_testBit_eq fun j=>?_
 by_cases hj:j<64
 ·exact h j hj
 ·have e:∀ u:Int,pW u→u.toNat.testBit j=false:=fun u hu=>by
   refine Nat.testBit_lt_two_pow (Nat.lt_of_lt_of_le (m:=2 ^ 64) (by have:=hu.1;have:=hu.2;omega) (Nat.pow_le_pow_right (by decide) om))
  rw[e v hv,e w hw]
have:=hv.1
have:=hw.1
omega}
theorem aX.ext {s t:aX} (hs:du s) (ht:du t) (h:∀ n,n<256→s.has n=t.has n):s=t:=by{
have key:∀ i,i<4→s.word i=t.word i:=fun i hi=>EY (hs.word i) (ht.word i) fun j hj=>by
 have:=h (i*64+j) om
 unfold aX.has at this
 rwa [show (i*64+j) / 64=i by omega,show (i*64+j) % 64=j by omega] at this
have h0:=key 0 (by decide)
have h1:=key 1 (by decide)
have h2:=key 2 (by decide)
have h3:=key 3 (by decide)
cases s;cases t
simp only[aX.word] at h0 h1 h2 h3
simp only[h0,h1,h2,h3]}
def mq (v w:Int):Int:=((v.toNat ||| w.toNat:Nat):Int)
theorem kO {v w:Int} (hv:pW v) (hw:pW w):pW (mq v w):=by
 have:v.toNat ||| w.toNat<2 ^ 64:=Nat.or_lt_two_pow (by have:=hv.1;have:=hv.2;omega) (by have:=hw.1;have:=hw.2;omega)
 exact⟨Int.natCast_nonneg _,by unfold mq;omega⟩
theorem H4 {v w:Int} {j:Nat}:sd (mq v w) j=(sd v j||sd w j):=by
 unfold sd mq
 rw[Int.toNat_natCast,Nat.testBit_or]
theorem wrap_u64 {x:Int} (h:pW x):IntKind.u64.wrap x=x:=by{
have h1:=h.1
have h2:=h.2
unfold IntKind.wrap
simp only[IntKind.bits,IntKind.signed,Bool.false_and,Bool.false_eq_true,if_false]
omega}
theorem wL {v w:Int} (hv:pW v) (hw:pW w):IntKind.u64.wrap ((BitVec.ofInt 64 v ||| BitVec.ofInt 64 w).toNat)=mq v w:=by{
have e:∀ u:Int,pW u→(BitVec.ofInt 64 u).toNat=u.toNat:=fun u hu=>by
 rw[BitVec.toNat_ofInt]
 have:=hu.1
 have:=hu.2
 congr 1
 exact Int.emod_eq_of_lt hu.1 (by simpa using hu.2)
rw[BitVec.toNat_or,e v hv,e w hw]
exact wrap_u64 (kO hv hw)}
def aX.union (s t:aX):aX:=⟨mq s.a t.a,mq s.b t.b,mq s.c t.c,mq s.d t.d⟩
theorem Gx {s t:aX} (hs:du s) (ht:du t):du (s.union t):=⟨kO hs.a ht.a,kO hs.b ht.b,kO hs.c ht.c,kO hs.d ht.d⟩
theorem o9 {s t:aX} {n:Nat}:(s.union t).has n=(s.has n||t.has n):=by{
unfold aX.has
have:(s.union t).word (n / 64)=mq (s.word (n / 64)) (t.word (n / 64)):=by
 match n / 64 with
 | 0=>rfl
 | 1=>rfl
 | 2=>rfl
 | k+3=>rfl
rw[this,H4]}
theorem JE:du aX.zero:=⟨⟨by decide,by decide⟩,⟨by decide,by decide⟩,⟨by decide,by decide⟩,⟨by decide,by decide⟩⟩
theorem Gs {n:Nat}:aX.zero.has n=false:=by{
unfold aX.has sd
have:aX.zero.word (n / 64)=0:=by
 match n / 64 with
 | 0=>rfl
 | 1=>rfl
 | 2=>rfl
 | k+3=>rfl
rw[this]
simp}
theorem xg {s:aX} (hs:du s) (h:∀ n,n<256→s.has n=false):s=aX.zero:=aX.ext hs JE fun n hn=>by rw[h n hn,Gs]
theorem yJ {w:Int} (hw:pW w) {j:Nat}:sd w j=decide (w / 2 ^ j % 2=1):=by{
have h0:=hw.1
obtain⟨x,rfl⟩:∃ x:Nat,w=x:=⟨w.toNat,by omega⟩
unfold sd
rw[Int.toNat_natCast,Nat.testBit_eq_decide_div_mod_eq]
have:(x:Int) / 2 ^ j % 2=((x / 2 ^ j % 2:Nat):Int):=by simp
rw[this]
by_cases h:x / 2 ^ j % 2=1
·rw[decide_eq_true h,decide_eq_true om]
·rw[decide_eq_false h,decide_eq_false om]}
def nE (D:Int→Prop) (s:aT):Prop:=0≤s.nt∧D s.nt
inductive Pv (rules:List ch) (D:Int→Prop) (b:Nat):Int→Prop
 | mk (r:ch) (k:Nat) (hk:k<r.rhs.length):r∈rules→(∀ s∈r.rhs.take k,nE D s)→(r.rhs[k].nt<0→r.rhs[k].set.has b=true)→(0≤r.rhs[k].nt→Pv rules D b r.rhs[k].nt)→Pv rules D b r.lhs
def tV (l:List aX) (i:Int):aX:=l.getD i.toNat aX.zero
theorem Hu {l:List aX} {i:Int} (h0:0≤i) (h1:i<l.length):tV l i=l[i.toNat]'om:=by{
unfold tV
rw[List.getD_eq_getElem?_getD,List.getElem?_eq_getElem (by omega:i.toNat<l.length)]
rfl}
def DX (s t:aX):Prop:=∀ b,b<256→s.has b=true→t.has b=true
theorem DX.refl {s:aX}:DX s s:=fun _ _ h=>h
theorem DX.trans {a b c:aX} (h:DX a b) (k:DX b c):DX a c:=fun i h0 h1=>k i h0 (h i h0 h1)
theorem DX.left {s t:aX}:DX s (s.union t):=fun b _ h=>by rw[o9,h];rfl
theorem DX.right {s t:aX}:DX t (s.union t):=fun b _ h=>by rw[o9,h,Bool.or_true]
def lF (out:List aX) (s:aT):aX:=if s.nt<0 then s.set else tV out s.nt
structure Ju (g:ca) (D:Int→Prop) (out:List aX):Prop where
 n:(out.length:Int)=g.cK
 wf:∀ i:Int,0≤i→i<g.cK→du (tV out i)
 s:∀ i:Int,0≤i→i<g.cK→∀ b,b<256→(tV out i).has b=true→Pv g.rules D b i
def wM (D:Int→Prop) (out:List aX) (r:ch) (s:aX):Prop:=∀ (k:Nat) (hk:k<r.rhs.length),(∀ x∈r.rhs.take k,nE D x)→DX (lF out r.rhs[k]) s
def wi (g:ca) (D:Int→Prop) (out:List aX):Prop:=(out.length:Int)=g.cK∧∀ i:Int,0≤i→i<g.cK→du (tV out i)∧∀ b,b<256→((tV out i).has b=true↔Pv g.rules D b i)
theorem Ju.fin {g:ca} {D:Int→Prop} {out:List aX} (R:ee g) (h:Ju g D out) (hc:∀ r∈g.rules,wM D out r (tV out r.lhs)):wi g D out:=by{
refine⟨h.n,fun i h0 h1=>⟨h.wf i h0 h1,fun b hb=>⟨h.s i h0 h1 b hb,fun hf=>?_⟩⟩⟩
clear h0 h1
induction hf with
| mk r k hk hr hp hs hn ih=>
  refine hc r hr k hk hp b hb ?_
  unfold lF
  split
  ·rename_i h0
   exact hs h0
  ·rename_i h0
   exact ih om}
theorem wi.eq {g:ca} {D:Int→Prop} {a b:List aX} (ha:wi g D a) (hb:wi g D b):a=b:=by{
have hl:a.length=b.length:=by have:=ha.1;have:=hb.1;omega
refine List.ext_getElem hl fun i h1 h2=>?_
have hn:=ha.1
have a1:=ha.2 i om om
have a2:=hb.2 i om om
rw[Hu om om] at a1 a2
simp only[Int.toNat_natCast] at a1 a2
refine aX.ext a1.1 a2.1 fun n hn=>?_
have:=(a1.2 n hn).trans (a2.2 n hn).symm
cases h3:a[i].has n<;>cases h4:b[i].has n<;>simp_all}
def Ut (s:aX):Nat:=((List.range 256).filter fun b=>!s.has b).length
def room (l:List aX):Nat:=(l.map Ut).sum
structure wX (g:ca) (D:Int→Prop) (out:List aX) (r:ch) (j:Nat) (s:aX):Prop where
 wf:du s
 le:DX (tV out r.lhs) s
 so:∀ b,b<256→s.has b=true→Pv g.rules D b r.lhs
 c:∀ (k:Nat) (hk:k<r.rhs.length),k<j→(∀ x∈r.rhs.take k,nE D x)→DX (lF out r.rhs[k]) s
theorem wX.start {g:ca} {D:Int→Prop} {out:List aX} {r:ch} (R:ee g) (h:Ju g D out) (hr:r∈g.rules):wX g D out r 0 (tV out r.lhs):=by
 obtain⟨l1,l2,_⟩:=R.r r hr
 exact⟨h.wf _ l1 l2,.refl,h.s _ l1 l2,fun k _ hk=>by omega⟩
theorem wX.step {g:ca} {D:Int→Prop} {out:List aX} {r:ch} {j:Nat} {s:aX} (R:ee g) (hW:∀ r∈g.rules,∀ s∈r.rhs,du s.set) (h:Ju g D out) (hr:r∈g.rules) (hp:wX g D out r j s) (hj:j<r.rhs.length) (hn:∀ x∈r.rhs.take j,nE D x) : wX g D out r (j+1) (s.union (lF out r.rhs[j])):=by{
obtain⟨l1,l2,l3,hS⟩:=R.r r hr
have hs:=hS _ (List.getElem_mem hj)
have hw:du (lF out r.rhs[j]):=by
 unfold lF
 split
 ·exact hW r hr _ (List.getElem_mem hj)
 ·exact h.wf _ om om
refine⟨Gx hp.wf hw,hp.le.trans .left,fun b hb hh=>?_,fun k hk hkj hx=>?_⟩
·rw[o9,Bool.or_eq_true] at hh
 rcases hh with hh|hh
 ·exact hp.so b hb hh
 ·refine .mk r j hj hr hn (fun h0=>?_) fun h0=>?_
  ·unfold lF at hh
   rwa [if_pos h0] at hh
  ·unfold lF at hh
   rw[if_neg om] at hh
   exact h.s _ h0 hs.2.1 b hb hh
·rcases Nat.lt_or_ge k j with h1|h1
 ·exact (hp.c k hk h1 hx).trans .left
 ·obtain rfl:k=j:=by omega
  exact .right}
theorem wX.stop {g:ca} {D:Int→Prop} {out:List aX} {r:ch} {j:Nat} {s:aX} (hp:wX g D out r (j+1) s) (hj:j<r.rhs.length) (hn:¬ nE D r.rhs[j]):wM D out r s:=by{
intro k hk hx
rcases Nat.lt_or_ge k (j+1) with h1|h1
·exact hp.c k hk h1 hx
·refine (hn (hx _ ?_)).elim
 rw[List.mem_take_iff_getElem]
 exact⟨j,by omega,rfl⟩}
theorem wX.all {g:ca} {D:Int→Prop} {out:List aX} {r:ch} {s:aX} (hp:wX g D out r r.rhs.length s):wM D out r s:=fun k hk hx=>hp.c k hk hk hx
inductive DL (rules:List ch):List aT→Nat→Nat→Prop
 | nil:DL rules [] 0 0
 | byte {s:aT} {l:List aT} {n z:Nat}:s.nt<0→s.set≠aX.zero→DL rules l n z→DL rules (s :: l) (n+1) (z+1)
 | nt {r:ch} {s:aT} {l:List aT} {n1 z1 n2 z2:Nat}:r∈rules→0≤s.nt→s.nt=r.lhs→DL rules r.rhs n1 z1→DL rules l n2 z2→DL rules (s :: l) (n1+n2) (z1+z2+1)
inductive DH (rules:List ch):Nat→List aT→Nat→Prop
 | nil {k:Nat}:DH rules k [] 0
 | byte {k:Nat} {s:aT} {l:List aT} {n:Nat}:s.nt<0→s.set≠aX.zero→DH rules k l n→DH rules k (s :: l) (n+1)
 | nt {k:Nat} {r:ch} {s:aT} {l:List aT} {n1 n2:Nat}:r∈rules→0≤s.nt→s.nt=r.lhs→DH rules k r.rhs n1→DH rules (k+1) l n2→DH rules (k+1) (s :: l) (n1+n2)
inductive DF (rules:List ch):List Bool→List aT→Nat→Prop
 | nil {m:List Bool}:DF rules m [] 0
 | byte {m:List Bool} {s:aT} {l:List aT} {n:Nat}:s.nt<0→s.set≠aX.zero→DF rules m l n→DF rules m (s :: l) (n+1)
 | nt {m:List Bool} {r:ch} {s:aT} {l:List aT} {n1 n2:Nat}:r∈rules→0≤s.nt→s.nt=r.lhs→bit m r.lhs=false→DF rules (m.set r.lhs.toNat true) r.rhs n1→DF rules m l n2→DF rules m (s :: l) (n1+n2)
def DN (rules:List ch) (A:Int) (n:Nat):Prop:=∃ r∈rules,r.lhs=A∧∃ z,DL rules r.rhs n z
theorem U9 {g:ca} (R:ee g):∀ (z:Nat) (l:List aT) (n:Nat) (m:List Bool),(m.length:Int)=g.cK→DL g.rules l n z → (∃ r∈g.rules,bit m r.lhs=true∧∃ n' z',n'≤n∧z'<z∧DL g.rules r.rhs n' z')∨∃ n',n'≤n∧DF g.rules m l n':=by{
intro z
induction z using Nat.strongRecOn with
| _ z IH=>
  intro l n m hm hd
  cases hd with
  | nil=>exact .inr ⟨0,Nat.le_refl _,.nil⟩
  | byte h1 h2 h3=>
    rcases IH _ (Nat.lt_succ_self _) _ _ m hm h3 with ⟨r,hr,hb,n',z',a1,a2,a3⟩ | ⟨n',a1,a2⟩
    ·exact .inl ⟨r,hr,hb,n',z',by omega,by omega,a3⟩
    ·exact .inr ⟨n'+1,by omega,.byte h1 h2 a2⟩
  | @nt r s l n1 z1 n2 z2 hr h0 hs h1 h2=>
    obtain⟨l1,l2,_⟩:=R.r r hr
    cases hb:bit m r.lhs with
    | true=>exact .inl ⟨r,hr,hb,n1,z1,by omega,by omega,h1⟩
    | false=>
      rcases IH z1 om _ _ (m.set r.lhs.toNat true) (by simp [hm]) h1 with ⟨r',hr',hb',n',z',a1,a2,a3⟩ | ⟨n',a1,a2⟩
      ·obtain⟨l1',l2',_⟩:=R.r r' hr'
       rw[qT l1 om l1'] at hb'
       by_cases e:r.lhs=r'.lhs
       ·have hd':DL g.rules (s :: l) (n'+n2) (z'+z2+1):=.nt hr' h0 (hs.trans e) a3 h2
        rcases IH (z'+z2+1) om _ _ m hm hd' with ⟨q,hq,b1,b2,b3,b4,b5,b6⟩ | ⟨q,b1,b2⟩
        ·exact .inl ⟨q,hq,b1,b2,b3,by omega,by omega,b6⟩
        ·exact .inr ⟨q,by omega,b2⟩
       ·rw[if_neg e] at hb'
        exact .inl ⟨r',hr',hb',n',z',by omega,by omega,a3⟩
      ·rcases IH z2 om _ _ m hm h2 with ⟨q,hq,b1,b2,b3,b4,b5,b6⟩ | ⟨q,b1,b2⟩
       ·exact .inl ⟨q,hq,b1,b2,b3,by omega,by omega,b6⟩
       ·exact .inr ⟨n'+q,by omega,.nt hr h0 hs hb a2 b2⟩}
theorem GB {m:List Bool} {i:Int} (h0:0≤i) (h1:i<m.length) (hb:bit m i=false):(m.set i.toNat true).count true=m.count true+1∧m.count true<m.length:=by{
rw[eg h0 h1] at hb
have e:(m.set i.toNat true).count true=m.count true+1:=by
 rw[List.count_set (by omega:i.toNat<m.length),hb]
 simp
have:=List.count_le_length (a:=true) (l:=m.set i.toNat true)
rw[List.length_set] at this
omega}
theorem DF.dh {g:ca} (R:ee g) {m:List Bool} {l:List aT} {n:Nat} (h:DF g.rules m l n):(m.length:Int)=g.cK→∀ k,m.length≤m.count true+k→DH g.rules k l n:=by{
induction h with
| nil=>exact fun _ _ _=>.nil
| byte h1 h2 _ ih=>exact fun hm k hk=>.byte h1 h2 (ih hm k hk)
| @nt m r s l n1 n2 hr h0 hs hb _ _ ih1 ih2=>
  intro hm k hk
  obtain⟨l1,l2,_⟩:=R.r r hr
  have hc:=GB l1 om hb
  obtain⟨k',rfl⟩:∃ k',k=k'+1:=⟨k-1,by omega⟩
  exact .nt hr h0 hs (ih1 (by simp [hm]) k' (by rw[List.length_set,hc.1];omega)) (ih2 hm _ hk)}
theorem DL.dh {g:ca} (R:ee g) {l:List aT} {n z:Nat} (h:DL g.rules l n z) {k:Nat} (hk:g.cK≤k):∃ n',n'≤n∧DH g.rules k l n':=by{
obtain⟨N,hN⟩:∃ N:Nat,g.cK=N:=⟨g.cK.toNat,by have:=R.n1;omega⟩
rcases U9 R z l n (List.replicate N false) (by simp [hN]) h with ⟨r,_,hb,_⟩ | ⟨n',h1,h2⟩
·rw[wE] at hb
 cases hb
·exact⟨n',h1,h2.dh R (by simp [hN]) k (by simp;omega)⟩}
def cT (l:List Int) (i:Int):Int:=l.getD i.toNat (-1)
theorem oe {l:List Int} {i:Int} (h0:0≤i) (h1:i<l.length):cT l i=l[i.toNat]'om:=by{
unfold cT
rw[List.getD_eq_getElem?_getD,List.getElem?_eq_getElem (by omega:i.toNat<l.length)]
rfl}
theorem lU {l:List Int} {i j:Int} {b:Int} (h0:0≤i) (h1:i<l.length) (j0:0≤j):cT (l.set i.toNat b) j=if i=j then b else cT l j:=by{
unfold cT
simp only[List.getD_eq_getElem?_getD,List.getElem?_set]
by_cases h:i=j
·subst h
 rw[if_pos rfl,if_pos rfl,if_pos om]
 rfl
·rw[if_neg om,if_neg h]}
theorem G9 {n:Nat} {i:Int}:cT (List.replicate n (-1)) i = -1:=by{
unfold cT
rw[List.getD_eq_getElem?_getD,List.getElem?_replicate]
split<;>rfl}
theorem xP {l:List Int} {i:Int} (h0:0≤i) (h1:i<l.length):(l.map i64)[i.toNat]? = some (i64 (cT l i)):=by
 rw[wo (by omega:i.toNat<l.length),oe h0 h1]
def jy (k:List Int) (s:aT):Int:=if 0≤s.nt then cT k s.nt else if s.set≠aX.zero then 1 else -1
def fM (k:List Int):List aT→Int
 | []=>0
 | s :: l=>if jy k s<0∨fM k l<0 then -1 else min (jy k s+fM k l) 513
structure mR (g:ca) (out:List Int):Prop where
 n:(out.length:Int)=g.cK
 s:∀ i:Int,0≤i→i<g.cK→cT out i = -1∨∃ n,DN g.rules i n∧cT out i=min (n:Int) 513
theorem mR.range {g:ca} {out:List Int} (h:mR g out) {i:Int} (h0:0≤i) (h1:i<g.cK):-1≤cT out i∧cT out i≤513:=by
 rcases h.s i h0 h1 with e|⟨n,_,e⟩<;>omega
theorem mR.jy {g:ca} {out:List Int} (h:mR g out) {s:aT} (hs:s.nt<g.cK):-1≤jy out s∧jy out s≤513:=by{
unfold Proofs.YtmdmimkbpikmoaaGreat.jy
split
·exact h.range ‹_› hs
·split<;>omega}
theorem mR.fJ {g:ca} {out:List Int} (h:mR g out):∀ {l:List aT},(∀ s∈l,s.nt<g.cK)→0≤fM out l→∃ n z,DL g.rules l n z∧fM out l=min (n:Int) 513
 | [],_,_=>⟨0,0,.nil,by simp [fM];omega⟩
 | s :: l,hl,h0=>by
   unfold fM at h0 ⊢
   split at h0
   ·omega
   ·rename_i hc
    obtain⟨n,z,h1,h2⟩:=h.fJ (l:=l) (fun s hs=>hl s (List.mem_cons_of_mem _ hs)) om
    rw[if_neg hc]
    unfold Proofs.YtmdmimkbpikmoaaGreat.jy at hc ⊢
    by_cases hn:0≤s.nt
    ·rw[if_pos hn] at hc ⊢
     rcases h.s s.nt hn (hl s List.mem_cons_self) with e|⟨n1,⟨r,hr,e1,z1,hd⟩,e⟩
     ·omega
     ·exact⟨n1+n,z1+z+1,.nt hr hn e1.symm hd h1,by omega⟩
    ·rw[if_neg hn] at hc ⊢
     by_cases hz:s.set≠aX.zero
     ·rw[if_pos hz] at hc ⊢
      exact⟨n+1,z+1,.byte om hz h1,by omega⟩
     ·rw[if_neg hz] at hc
      omega
def Br (out:List Int) (r:ch):Prop:=0≤fM out r.rhs→0≤cT out r.lhs∧cT out r.lhs≤fM out r.rhs
theorem D6 {g:ca} {out:List Int} (hc:∀ r∈g.rules,Br out r) {l:List aT} {n z:Nat} (h:DL g.rules l n z):0≤fM out l∧fM out l≤min (n:Int) 513:=by{
induction h with
| nil=>simp [fM];omega
| @byte s l n z h1 h2 _ ih=>
  have e:jy out s=1:=by unfold jy;rw[if_neg om,if_pos h2]
  unfold fM
  rw[if_neg om,e]
  omega
| @nt r s l n1 z1 n2 z2 hr h0 hs _ _ ih1 ih2=>
  have hk:=hc r hr ih1.1
  have e:jy out s=cT out r.lhs:=by unfold jy;rw[if_pos h0,hs]
  unfold fM
  rw[if_neg om,e]
  omega}
def Ja (g:ca) (i v:Int):Prop:=(v = -1∧∀ n,¬ DN g.rules i n)∨(0≤v∧(∃ n,DN g.rules i n∧v=min (n:Int) 513)∧∀ n,DN g.rules i n→v≤min (n:Int) 513)
def pj (g:ca) (out:List Int):Prop:=(out.length:Int)=g.cK∧∀ i:Int,0≤i→i<g.cK→Ja g i (cT out i)
theorem pj.eq {g:ca} {a b:List Int} (ha:pj g a) (hb:pj g b):a=b:=by{
have hl:a.length=b.length:=by have:=ha.1;have:=hb.1;omega
refine List.ext_getElem hl fun i h1 h2=>?_
have hn:=ha.1
have a1:=ha.2 i om om
have a2:=hb.2 i om om
rw[oe om om] at a1 a2
simp only[Int.toNat_natCast] at a1 a2
rcases a1 with ⟨e1,n1⟩ | ⟨p1,⟨x,hx,ex⟩,q1⟩<;>rcases a2 with ⟨e2,n2⟩ | ⟨p2,⟨y,hy,ey⟩,q2⟩
·omega
·exact (n1 y hy).elim
·exact (n2 x hx).elim
·have:=q1 y hy
 have:=q2 x hx
 omega}
theorem mR.fin {g:ca} {out:List Int} (h:mR g out) (hc:∀ i:Int,0≤i→i<g.cK→∀ n,DN g.rules i n→0≤cT out i∧cT out i≤min (n:Int) 513):pj g out:=by{
refine⟨h.n,fun i h0 h1=>?_⟩
rcases h.s i h0 h1 with e|⟨n,hn,e⟩
·refine .inl ⟨e,fun n hn=>?_⟩
 have:=hc i h0 h1 n hn
 omega
·exact .inr ⟨by omega,⟨n,hn,e⟩,fun n' hn'=>(hc i h0 h1 n' hn').2⟩}
theorem mR.closed {g:ca} {out:List Int} (h:mR g out) (hc:∀ r∈g.rules,Br out r):pj g out:=by{
refine h.fin fun i h0 h1 n hn=>?_
obtain⟨r,hr,rfl,z,hd⟩:=hn
have h2:=D6 hc hd
have h3:=hc r hr h2.1
omega}
theorem mR.put {g:ca} {out:List Int} {r:ch} {v:Int} (R:ee g) (h:mR g out) (hr:r∈g.rules) (hv:v=fM out r.rhs) (h0:0≤v):mR g (out.set r.lhs.toNat v):=by{
obtain⟨l1,l2,_,hS⟩:=R.r r hr
have hn:=h.n
refine⟨by simp [hn],fun i i0 i1=>?_⟩
rw[lU l1 om i0]
split
·rename_i e
 obtain⟨n,z,h1,h2⟩:=h.fJ (fun s hs=>(hS s hs).2.1) om
 exact .inr ⟨n,⟨r,hr,e,z,h1⟩,by omega⟩
·exact h.s i i0 i1}
def lI (v:Int):Nat:=if v<0 then 514 else v.toNat
def ua (l:List Int):Nat:=(l.map lI).sum
def Bt (n:Int) (a b:List Int):Prop:=∀ i:Int,0≤i→i<n→0≤cT a i→0≤cT b i∧cT b i≤cT a i
theorem Bt.refl {n:Int} {a:List Int}:Bt n a a:=fun _ _ _ h=>⟨h,Int.le_refl _⟩
theorem Bt.trans {n:Int} {a b c:List Int} (h:Bt n a b) (k:Bt n b c):Bt n a c:=fun i h0 h1 h2=>by
 have:=h i h0 h1 h2
 have:=k i h0 h1 this.1
 omega
theorem Bt.fM {n:Int} {a b:List Int} (h:Bt n a b):∀ {l:List aT},(∀ s∈l,s.nt<n)→0≤fM a l→0≤fM b l∧fM b l≤fM a l
 | [],_,_=>by simp [Proofs.YtmdmimkbpikmoaaGreat.fM]
 | s :: l,hl,h0=>by
   unfold Proofs.YtmdmimkbpikmoaaGreat.fM at h0 ⊢
   split at h0
   ·omega
   ·rename_i hc
    have ih:=h.fM (l:=l) (fun s hs=>hl s (List.mem_cons_of_mem _ hs)) om
    have hs:0≤jy b s∧jy b s≤jy a s:=by
     unfold jy at hc ⊢
     by_cases hn:0≤s.nt
     ·rw[if_pos hn] at hc ⊢
      rw[if_pos hn]
      exact h _ hn (hl s List.mem_cons_self) om
     ·rw[if_neg hn] at hc ⊢
      rw[if_neg hn]
      omega
    rw[if_neg om,if_neg hc]
    omega
structure kK (g:ca) (k:Nat) (out:List Int):Prop where
 i:mR g out
 h:∀ l n,DH g.rules k l n→0≤fM out l∧fM out l≤min (n:Int) 513
structure LH (g:ca) (out0:List Int) (k:Nat) (out:List Int):Prop where
 i:mR g out
 b:Bt g.cK out0 out
 d:∀ r∈g.rules.take k,0≤fM out0 r.rhs→0≤cT out r.lhs∧cT out r.lhs≤fM out0 r.rhs
theorem kK.start {g:ca} {N:Nat} (hN:g.cK=N):kK g 0 (List.replicate N (-1)):=by{
refine⟨⟨by simp [hN],fun i _ _=>.inl G9⟩,fun l n h=>?_⟩
generalize hk:(0:Nat)=k at h
induction h with
| nil=>simp [fM];omega
| @byte k s l n h1 h2 _ ih=>
  have:=ih hk
  have e:jy (List.replicate N (-1)) s=1:=by unfold jy;rw[if_neg om,if_pos h2]
  unfold fM
  rw[if_neg om,e]
  omega
| nt=>omega}
theorem kK.step {g:ca} {k:Nat} {out out':List Int} (R:ee g) (h:kK g k out) (hr:LH g out g.rules.length out'):kK g (k+1) out':=by{
have hd:=hr.d
rw[List.take_length] at hd
refine⟨hr.i,fun l n hh=>?_⟩
generalize hk:k+1=k' at hh
induction hh with
| nil=>simp [fM];omega
| @byte k s l n h1 h2 _ ih=>
  have:=ih hk
  have e:jy out' s=1:=by unfold jy;rw[if_neg om,if_pos h2]
  unfold fM
  rw[if_neg om,e]
  omega
| @nt k2 r s l n1 n2 hr1 h0 hs h1 _ _ ih2=>
  obtain rfl:k=k2:=by omega
  have i2:=ih2 hk
  have i1:=h.h _ _ h1
  have:=hd r hr1 i1.1
  have e:jy out' s=cT out' r.lhs:=by unfold jy;rw[if_pos h0,hs]
  unfold fM
  rw[if_neg om,e]
  omega}
theorem kK.fin {g:ca} {k:Nat} {out:List Int} (R:ee g) (h:kK g k out) (hk:g.cK<k):pj g out:=by{
refine h.i.fin fun i h0 h1 n hn=>?_
obtain⟨r,hr,rfl,z,hd⟩:=hn
have hs:DL g.rules [⟨r.lhs,aX.zero⟩] (n+0) (z+0+1):=.nt (s:=⟨r.lhs,aX.zero⟩) hr h0 rfl hd .nil
obtain⟨n',h2,h3⟩:=hs.dh R (k:=k) om
have:=h.h _ _ h3
have e:fM out [⟨r.lhs,aX.zero⟩]=if cT out r.lhs<0∨(0:Int)<0 then -1 else min (cT out r.lhs+0) 513:=by
 simp only[fM,jy,if_pos h0]
rw[e] at this
have hr2:=h.i.range h0 h1
split at this<;>omega}
end Go.Proofs.YtmdmimkbpikmoaaGreat
