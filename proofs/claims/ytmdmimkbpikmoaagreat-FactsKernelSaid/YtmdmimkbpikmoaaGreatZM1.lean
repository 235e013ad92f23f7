/- Several texts, one behind the other. -/
import Derived.Test.YtmdmimkbpikmoaaGreatZTf
import Derived.Test.YtmdmimkbpikmoaaGreatZG5
import Derived.Test.YtmdmimkbpikmoaaGreatZG1
import Derived.Test.YtmdmimkbpikmoaaGreatZTy
set_option linter.unusedSimpArgs false
set_option linter.unusedVariables false
set_option maxHeartbeats 8000000
namespace Go.Proofs.YtmdmimkbpikmoaaGreat
set_option maxRecDepth 20000
open Go.RowKit Am Ty
section
variable {d:bM}
theorem wR {lex:Bool} {s:Sym} (h:s.kind=1→s.text≠⟨#[]⟩):fl d lex s≠[]:=by{
unfold fl
split
·rename_i k
 have h1:=h k
 unfold iX
 intro e
 rw[List.map_eq_nil_iff,List.range_eq_nil] at e
 exact h1 (jb.2 e)
·split<;>simp}
variable {h:ah} {up uc uf ur ub:Value}
end
def zI (ua:Bool) (Y:List Sym):Option Int→Int→List Int→Prop
 | _,_,[]=>True
 | prev,last,s :: r=>if s<0 then ua=true∧prev≠none∧(∃ t r',r=t :: r'∧last<t)∧zI ua Y (some s) last r
   else last≤s∧s<(Y.length:Int)∧(last<s→0≤last→∃ q,prev=some q∧ua=decide (q<0))∧(s=last→∃ y,Y[s.toNat]? = some y∧y.kind=1)∧zI ua Y (some s) s r
def tZ:Option Int→List Int→Option Int
 | p,[]=>p
 | _,s :: r=>tZ (some s) r
def tF:Int→List Int→Int
 | l,[]=>l
 | l,s :: r=>tF (if s<0 then l else s) r
theorem zv (p:Option Int) (A B:List Int):tZ p (A++B)=tZ (tZ p A) B:=by{
induction A generalizing p with
| nil=>rfl
| cons s r ih=>exact ih _}
theorem yw (l:Int) (A B:List Int):tF l (A++B)=tF (tF l A) B:=by{
induction A generalizing l with
| nil=>rfl
| cons s r ih=>exact ih _}
section
variable {ua:Bool} {Y:List Sym} {d:bM}
theorem Bf {A B:List Int}:∀ {p:Option Int} {l:Int},zI ua Y p l A→zI ua Y (tZ p A) (tF l A) B→zI ua Y p l (A++B):=by{
induction A with
| nil=>intro p l _ h;exact h
| cons s r ih=>
  intro p l h1 h2
  rw[List.cons_append]
  unfold zI at h1 ⊢
  unfold tZ tF at h2
  by_cases hs:s<0
  ·rw[if_pos hs] at h1 h2 ⊢
   obtain⟨a,b,⟨t,r',e,c⟩,f⟩:=h1
   refine⟨a,b,⟨t,r'++B,by rw[e];rfl,c⟩,ih f h2⟩
  ·rw[if_neg hs] at h1 h2 ⊢
   obtain⟨a,b,c,e,f⟩:=h1
   exact⟨a,b,c,e,ih f h2⟩}
theorem Bi {k:Nat} (hk:k<Y.length):∀ n,(0<n→Y[k].kind=1)→zI ua Y (some (k:Int)) (k:Int) (List.replicate n (k:Int))
 | 0,_=>trivial
 | n+1,h=>by
   rw[List.replicate_succ]
   unfold zI
   rw[if_neg om]
   exact⟨Int.le_refl _,by omega,fun h _=>absurd h om,fun _=>⟨Y[k],by rw[Int.toNat_natCast,List.getElem?_eq_getElem hk],h om⟩,Bi hk n fun _=>h om⟩
theorem sH {k:Int}:∀ n,0<n→∀ p,tZ p (List.replicate n k)=some k
 | 0,h,_=>absurd h om
 | 1,_,_=>rfl
 | n+2,_,p=>by
   rw[List.replicate_succ]
   exact sH (n+1) om (some k)
theorem sI {k:Nat}:∀ n,0<n→∀ l,tF l (List.replicate n (k:Int))=(k:Int)
 | 0,h,_=>absurd h om
 | 1,_,l=>by
   show tF (if (k:Int)<0 then l else (k:Int)) []=_
   rw[if_neg om]
   rfl
 | n+2,_,l=>by
   rw[List.replicate_succ]
   exact sI (n+1) om _
theorem DZ {lex:Bool} {s:Sym} (h:s.kind≠1):(fl d lex s).length=1:=by{
unfold fl
rw[if_neg h]
split<;>rfl}
abbrev vu (d:bM) (lex:Bool):Bool:=!lex && !b7 d.layout
structure M2 (d:bM) (p:Prod) (R:vY) (k:Nat):Prop where
 ok:zI (vu d p.lex) p.aj none (-1) R.os
 l:tF (-1) R.os<(k:Int)
 n:R.os.length=R.rhs.length
 q:R.os≠[]→∃ q,tZ none R.os=some q∧0≤q
theorem M2.put {p:Prod} {R:vY} {k:Nat} (I:M2 d p R k) (hk:k<p.aj.length) (hs:p.aj[k].kind=1→p.aj[k].text≠⟨#[]⟩):M2 d p (fD d p.lex R k p.aj[k]) (k+1):=by{
have hne:=wR (d:=d) (lex:=p.lex) hs
have hl1:p.aj[k].kind≠1→(fl d p.lex p.aj[k]).length=1:=DZ
obtain⟨n,hn⟩:∃ n,(fl d p.lex p.aj[k]).length=n+1:=by
 cases e:fl d p.lex p.aj[k] with
 | nil=>exact absurd e hne
 | cons a r=>exact⟨r.length,rfl⟩
have hrep:(List.replicate (n+1) (k:Int))=(k:Int) :: List.replicate n (k:Int):=List.replicate_succ
have htail:zI (vu d p.lex) p.aj (some (k:Int)) (k:Int) (List.replicate n (k:Int)):=Bi hk n fun h0=>by
 apply Classical.byContradiction
 intro q
 have:=hl1 q
 omega
have hR:R.rhs=[]↔R.os=[]:=by
 rw[← List.length_eq_zero_iff,← List.length_eq_zero_iff,I.n]
unfold fD
rw[hn]
cases hp:jn d p.lex R.rhs with
| true=>
  have hg:vu d p.lex=true:=by
   unfold jn at hp
   simp only[Bool.and_eq_true] at hp
   unfold vu
   rw[hp.2.1,hp.2.2]
   rfl
  have hno:R.os≠[]:=by
   intro e
   unfold jn at hp
   rw[hR.2 e] at hp
   cases hp
  obtain⟨q,hq,hq0⟩:=I.q hno
  rw[if_pos rfl,if_pos rfl]
  have hB:zI (vu d p.lex) p.aj (tZ none R.os) (tF (-1) R.os) ([-1]++List.replicate (n+1) (k:Int)):=by
   rw[hrep]
   show zI _ _ _ _ (-1 :: (k:Int) :: List.replicate n (k:Int))
   unfold zI
   rw[if_pos (by decide)]
   refine⟨hg,by rw[hq];simp,⟨_,_,rfl,I.l⟩,?_⟩
   unfold zI
   rw[if_neg om]
   have:=I.l
   exact⟨by omega,by omega,fun _ _=>⟨-1,rfl,by rw[hg];rfl⟩,fun h=>absurd h om,htail⟩
  refine⟨?_,?_,?_,fun _=>⟨k,?_,by omega⟩⟩
  ·simp only
   rw[List.append_assoc]
   exact Bf I.ok hB
  ·simp only
   rw[yw,sI _ om]
   omega
  ·simp only[List.length_append,List.length_replicate,hn,I.n]
   rfl
  ·simp only
   rw[zv,sH _ om]
| false=>
  rw[if_neg (by decide),if_neg (by decide),List.append_nil,List.append_nil]
  have hB:zI (vu d p.lex) p.aj (tZ none R.os) (tF (-1) R.os) (List.replicate (n+1) (k:Int)):=by
   rw[hrep]
   unfold zI
   rw[if_neg om]
   have:=I.l
   refine⟨by omega,by omega,fun _ h0=>?_,fun h=>absurd h om,htail⟩
   have hno:R.os≠[]:=by
    intro e
    rw[e] at h0
    exact absurd h0 (by decide)
   obtain⟨q,hq,hq0⟩:=I.q hno
   refine⟨q,hq,?_⟩
   rw[decide_eq_false om]
   unfold jn at hp
   have hnr:R.rhs.isEmpty=false:=by
    cases e:R.rhs with
    | nil=>exact absurd (hR.1 e) hno
    | cons=>rfl
   rw[hnr] at hp
   exact hp
  refine⟨?_,?_,?_,fun _=>⟨k,?_,by omega⟩⟩
  ·simp only
   exact Bf I.ok hB
  ·simp only
   rw[yw,sI _ om]
   omega
  ·simp only[List.length_append,List.length_replicate,hn,I.n]
  ·simp only
   rw[zv,sH _ om]}
theorem Ck (hc:dI d) {p:Prod} (hp:p∈d.aa):∀ s∈p.aj,s.kind=1→s.text≠⟨#[]⟩:=by{
have hn:∀ p∈d.aa,(p.aj.any (fun s=>decide (s.kind=1)&&decide (s.text=⟨#[]⟩))||p.aj.all dG)=false:=hc 8 (by decide)
have h:=hn p hp
rw[Bool.or_eq_false_iff] at h
intro s hs h1 h2
have:=List.any_eq_false.1 h.1 s hs
rw[decide_eq_true h1,decide_eq_true h2] at this
exact this rfl}
theorem Ft {x:ch×gO} (hx:x∈uZ d) (h0:x.2.kind=0):∃ (i:Nat) (hi:i<d.aa.length) (m:Nat),m<k8 d.aa[i]∧x=nj d i d.aa[i] m:=by{
unfold uZ at hx
rw[List.mem_append,List.mem_append] at hx
rcases hx with (hx|hx) | hx
·have key:∀ k,k≤d.aa.length→∀ x∈ii d k,∃ (i:Nat) (hi:i<d.aa.length) (m:Nat),m<k8 d.aa[i]∧x=nj d i d.aa[i] m:=by
  intro k
  induction k with
  | zero=>intro _ x hx;simp [ii] at hx
  | succ k ih=>
    intro hk x hx
    rw[jk (show k<d.aa.length by omega),List.mem_append] at hx
    rcases hx with hx|hx
    ·exact ih om x hx
    ·unfold jX at hx
     rw[List.mem_map] at hx
     obtain⟨m,hm,rfl⟩:=hx
     exact⟨k,by omega,m,List.mem_range.1 hm,rfl⟩
 exact key _ (Nat.le_refl _) x hx
·have:=Hk x hx
 omega
·have:=Gg x hx
 omega}
end
theorem eL.kY {a b:ah} {v:Value} {l:List dK} {ts:List TypeId} (h:eL a v l) (k:cj ts a b) (h1:82∉ts) (h2:9∉ts):eL b v l:=cV.kY h k h1 fun u x hu=>bT.kY hu k h2
theorem bJ.kY {a b:ah} {v:Value} {l:List Item} {ts:List TypeId} (h:bJ a v l) (k:cj ts a b) (h1:136∉ts):bJ b v l:=by
 induction h with
 | mk us h1' h2 _ ih=>exact .mk us h1' (h2.kY k h1) ih
section
variable {h:ah} {d:bM} {up uc uf ur ub:Value}
end
end Go.Proofs.YtmdmimkbpikmoaaGreat
namespace Go.Proofs.YtmdmimkbpikmoaaGreat.Am
open Go.RowKit
section
variable {N:Env} {ops:Array Oper} {L:List (List Nat)} {act:List Nat} {s0:St} {res res':Nat→gD} {Hs:Nat→ah} {a st d:Nat} {cs':List Value} {v0:gu}
theorem gW.Ci (C:tw ops L act) (Z:zQ N ops L act s0 res res' a st d cs' v0) (hT:∀ j sl off,res j = .ep sl off→∀ i,bF ops i≠some sl) {S:Array Bool} {t:St} {i:Nat} {o:Oper} (hstep:∀ o k,i≠st→ops[i]? = some o→k≤act.length→gm L act i k=true→∃ V,View ops L s0 res i V∧V.h=Hs k∧One N ops o V (res i) (Hs (if i∈act then k+1 else k))) (I:gW N ops act s0 res res' Hs st S t) (hi:i∈Region.ready .any ops S) (ho:ops[i]? = some o) : ∃ s',Ev N (.ops ops [o] t s')∧gW N ops act s0 res res' Hs st (S.setIfInBounds i true) s':=by{
have hT':∀ j sl off,res' j = .ep sl off→∀ i,bF ops i≠some sl:=fun j sl off h=>by
 by_cases hj:j=a
 ·subst hj
  rw[Z.ra] at h
  cases h
 ·rw[Z.same j hj] at h
  exact hT j sl off h
obtain⟨hun,oi,hoi,hall⟩:=mem_ready.1 hi
obtain rfl:oi=o:=Option.some.inj (hoi.symm.trans ho)
have hlt:i<ops.size:=(Array.getElem?_eq_some_iff.1 ho).1
have hr:∀ o,ops[i]? = some o→∀ e∈o.after,Region.binds .any e=true→S.getD e.on false=true:=fun o' ho' e he hb=>by
 obtain rfl:oi=o':=Option.some.inj (ho.symm.trans ho')
 exact hall e he hb
have hnot:S.getD i false=false:=getD_both hun
obtain⟨ost,host,hdn⟩:=Z.o
have hstd:bF ops st=none:=by simp [bF,host,hdn]
rcases I with ⟨h0,I⟩ | ⟨h0,I⟩
·by_cases his:i=st
 ·subst his
  have hltS:i<S.size:=by rw[I.size];exact hlt
  have hset:∀ j,((S.setIfInBounds i true).getD j false=true)↔(j=i∨S.getD j false=true):=fun j=>eM hltS
  obtain⟨V,hV,hVh,hsto⟩:=Z.VJ oi t.h ho
  have hsub:=hV.sub C I hlt hr hVh
  have hain:S.getD a false=true:=jK C I.size I.closed i a hlt hr Z.M9
  refine⟨_,hsto t hsub,.inr ⟨(hset i).2 (.inl rfl),by simp [I.size],fun j o hj hl e he hb=>?_,?_,fun x hx=>?_,fun j d' v hj hl hv=>?_,fun j d' sl off hj hl hv=>?_,I.ON⟩⟩
  ·rw[hset]
   rcases (hset j).1 hl with rfl|h
   ·exact .inr (hr o hj e he hb)
   ·exact .inr (I.closed j o hj h e he hb)
  ·obtain⟨k,hk,hh,hpre⟩:=I.pre
   refine⟨k,hk,hh,fun j hj=>?_⟩
   rw[hset]
   constructor
   ·rintro (h|h)
    ·exact (Z.na (by rw[← h];simp [hj])).elim
    ·exact (hpre j hj).1 h
   ·exact fun h=>.inr ((hpre j hj).2 h)
  ·have hxd:d≠x:=fun e=>hx a (e▸Z.da)
   simp only[bw]
   rw[if_neg hxd]
   exact I.out x hx
  ·have hji:j≠i:=fun e=>by rw[e,hstd] at hj;cases hj
   have hl':=((hset j).1 hl).resolve_left hji
   by_cases hja:j=a
   ·subst hja
    obtain rfl:d=d':=Option.some.inj (Z.da.symm.trans hj)
    rw[Z.ra] at hv
    cases hv
    simp only[bw,if_true]
    exact⟨trivial,(I.qJ j d v0 hj hl' Z.VH).2⟩
   ·have hdd:d≠d':=fun e=>hja (C.dst j a d (e▸hj) Z.da)
    simp only[bw]
    rw[if_neg hdd]
    rw[Z.same j hja] at hv
    exact I.qJ j d' v hj hl' hv
  ·have hji:j≠i:=fun e=>by rw[e,hstd] at hj;cases hj
   have hja:j≠a:=fun e=>by rw[e,Z.ra] at hv;cases hv
   rw[Z.same j hja] at hv
   exact I.Dj j d' sl off hj (((hset j).1 hl).resolve_left hji) hv
 ·obtain⟨s',h1,h2⟩:=I.step C hT (fun o k=>hstep o k his) hi ho
  exact⟨s',h1,.inl ⟨by rw[getD_set_ne false his];exact h0,h2⟩⟩
·have his:i≠st:=fun e=>by rw[e,h0] at hnot;cases hnot
 have hlst:st<ops.size:=(Array.getElem?_eq_some_iff.1 host).1
 have hia:i≠a:=fun e=>by
  have:=jK C I.size I.closed st a hlst (fun o' ho' e he hb=>I.closed st o' ho' h0 e he hb) Z.M9
  rw[← e,hnot] at this
  cases this
 obtain⟨s',h1,h2⟩:=I.step C hT' (fun o k h1 h2 h3=>by
  obtain⟨V,hV,hVh,hone⟩:=hstep o k his h1 h2 h3
  refine⟨V,⟨fun x=>?_,fun x p hp=>?_,hV.n⟩,hVh,by rw[Z.same i hia];exact hone⟩
  ·rcases hV.f x with h|h|⟨j,h4,h5,h6⟩
   ·exact .inl h
   ·exact .inr (.inl h)
   ·refine .inr (.inr ⟨j,h4,h5,?_⟩)
    rw[Z.same j (fun e=>Z.free i his (e▸h5))]
    exact h6
  ·obtain⟨j,sl,off,h4,h5,h6,h7⟩:=hV.e x p hp
   refine⟨j,sl,off,h4,h5,?_,h7⟩
   rw[Z.same j (fun e=>Z.free i his (e▸h5))]
   exact h6) hi ho
 exact⟨s',h1,.inr ⟨by rw[getD_set_ne false his];exact h0,h2⟩⟩}
variable {res1 res2 res12:Nat→gD} {a1 st1 d1 a2 st2 d2:Nat} {cs1 cs2:List Value} {v1 v2:gu}
def FJ (N:Env) (ops:Array Oper) (act:List Nat) (s0:St) (res res1 res2 res12:Nat→gD) (Hs:Nat→ah) (st1 st2:Nat) (S:Array Bool) (t:St):Prop:=
 (S.getD st2 false=false∧gW N ops act s0 res res1 Hs st1 S t)∨(S.getD st2 false=true∧gW N ops act s0 res2 res12 Hs st1 S t)
theorem FJ.step (C:tw ops L act) (Z1:zQ N ops L act s0 res res1 a1 st1 d1 cs1 v1) (Z1':zQ N ops L act s0 res2 res12 a1 st1 d1 cs1 v1) (Z2:zQ N ops L act s0 res res2 a2 st2 d2 cs2 v2) (Z2':zQ N ops L act s0 res1 res12 a2 st2 d2 cs2 v2) (hne:st1≠st2) (hT:∀ j sl off,res j = .ep sl off→∀ i,bF ops i≠some sl) (hT1:∀ j sl off,res1 j = .ep sl off→∀ i,bF ops i≠some sl) (hT2:∀ j sl off,res2 j = .ep sl off→∀ i,bF ops i≠some sl) (hstep:∀ i o k,i≠st1→i≠st2→ops[i]? = some o→k≤act.length→gm L act i k=true→∃ V,View ops L s0 res i V∧V.h=Hs k∧One N ops o V (res i) (Hs (if i∈act then k+1 else k))) {S:Array Bool} {t:St} {i:Nat} {o:Oper} (I:FJ N ops act s0 res res1 res2 res12 Hs st1 st2 S t) (hi:i∈Region.ready .any ops S) (ho:ops[i]? = some o) : ∃ s',Ev N (.ops ops [o] t s')∧FJ N ops act s0 res res1 res2 res12 Hs st1 st2 (S.setIfInBounds i true) s':=by{
obtain⟨hun,oi,hoi,hall⟩:=mem_ready.1 hi
have hnot:S.getD i false=false:=getD_both hun
have hlt:i<ops.size:=(Array.getElem?_eq_some_iff.1 ho).1
rcases I with ⟨h0,I⟩ | ⟨h0,I⟩
·by_cases his:i=st2
 ·subst his
  have hset:∀ (hs:S.size=ops.size),(S.setIfInBounds i true).getD i false=true:=fun hs=>(eM (by rw[hs];exact hlt)).2 (.inl rfl)
  rcases I with ⟨h1,I⟩ | ⟨h1,I⟩
  ·obtain⟨s',k1,k2⟩:=gW.Ci C Z2 hT (fun o k h=>absurd rfl h) (.inl ⟨h0,I⟩) hi ho
   refine⟨s',k1,?_⟩
   rcases k2 with ⟨k2,_⟩ | ⟨k2,k3⟩
   ·rw[hset I.size] at k2;cases k2
   ·exact .inr ⟨k2,.inl ⟨by rw[getD_set_ne false (fun e=>hne e.symm)];exact h1,k3⟩⟩
  ·obtain⟨s',k1,k2⟩:=gW.Ci C Z2' hT1 (fun o k h=>absurd rfl h) (.inl ⟨h0,I⟩) hi ho
   refine⟨s',k1,?_⟩
   rcases k2 with ⟨k2,_⟩ | ⟨k2,k3⟩
   ·rw[hset I.size] at k2;cases k2
   ·exact .inr ⟨k2,.inr ⟨by rw[getD_set_ne false (fun e=>hne e.symm)];exact h1,k3⟩⟩
 ·obtain⟨s',k1,k2⟩:=gW.Ci C Z1 hT (fun o k h=>hstep i o k h his) I hi ho
  exact⟨s',k1,.inl ⟨by rw[getD_set_ne false his];exact h0,k2⟩⟩
·have his:i≠st2:=fun e=>by rw[e,h0] at hnot;cases hnot
 obtain⟨ost,host,_⟩:=Z2.o
 have hlst:st2<ops.size:=(Array.getElem?_eq_some_iff.1 host).1
 have hia:i≠a2:=fun e=>by
  have hcs:S.size=ops.size∧(∀ (j:Nat) (o:Oper),ops[j]? = some o→S.getD j false=true→∀ e∈o.after,Region.binds .any e=true→S.getD e.on false=true):=by
   rcases I with ⟨_,I⟩ | ⟨_,I⟩
   ·exact⟨I.size,I.closed⟩
   ·exact⟨I.size,I.closed⟩
  have:=jK C hcs.1 hcs.2 st2 a2 hlst (fun o' ho' e he hb=>hcs.2 st2 o' ho' h0 e he hb) Z2.M9
  rw[← e,hnot] at this
  cases this
 obtain⟨s',k1,k2⟩:=gW.Ci C Z1' hT2 (fun o k h h1 h2 h3=>by
  obtain⟨V,hV,hVh,hone⟩:=hstep i o k h his h1 h2 h3
  refine⟨V,⟨fun x=>?_,fun x p hp=>?_,hV.n⟩,hVh,by rw[Z2.same i hia];exact hone⟩
  ·rcases hV.f x with h|h|⟨j,h4,h5,h6⟩
   ·exact .inl h
   ·exact .inr (.inl h)
   ·refine .inr (.inr ⟨j,h4,h5,?_⟩)
    rw[Z2.same j (fun e=>Z2.free i his (e▸h5))]
    exact h6
  ·obtain⟨j,sl,off,h4,h5,h6,h7⟩:=hV.e x p hp
   refine⟨j,sl,off,h4,h5,?_,h7⟩
   rw[Z2.same j (fun e=>Z2.free i his (e▸h5))]
   exact h6) I hi ho
 exact⟨s',k1,.inr ⟨by rw[getD_set_ne false his];exact h0,k2⟩⟩}
end
end Go.Proofs.YtmdmimkbpikmoaaGreat.Am
namespace Go.Proofs.YtmdmimkbpikmoaaGreat
set_option maxRecDepth 20000
open Go.RowKit Am Ty
theorem xB {a b:ByteArray}:∀ {l:List ByteArray},a∈l→b∈l→l.idxOf a=l.idxOf b→a=b
 | x :: l,ha,hb,h=>by
   rw[nv,nv] at h
   by_cases e1:a=x
   ·by_cases e2:b=x
    ·rw[e1,e2]
    ·rw[if_pos e1,if_neg e2] at h;omega
   ·by_cases e2:b=x
    ·rw[if_neg e1,if_pos e2] at h;omega
    ·rw[if_neg e1,if_neg e2] at h
     exact xB ((List.mem_cons.1 ha).resolve_left e1) ((List.mem_cons.1 hb).resolve_left e2) om
 | [],ha,_,_=>by cases ha
theorem ya {a b:bt}:∀ {l:List bt},a∈l→b∈l→l.idxOf a=l.idxOf b→a=b
 | x :: l,ha,hb,h=>by
   rw[mr,mr] at h
   by_cases e1:a=x
   ·by_cases e2:b=x
    ·rw[e1,e2]
    ·rw[if_pos e1,if_neg e2] at h;omega
   ·by_cases e2:b=x
    ·rw[if_neg e1,if_pos e2] at h;omega
    ·rw[if_neg e1,if_neg e2] at h
     exact ya ((List.mem_cons.1 ha).resolve_left e1) ((List.mem_cons.1 hb).resolve_left e2) om
 | [],ha,_,_=>by cases ha
theorem Ca {x:bt}:∀ {l:List bt},x∈l→l.idxOf x<l.length
 | [],h=>by simp at h
 | a :: l,h=>by
   rw[mr]
   by_cases e:x=a
   ·rw[if_pos e];simp
   ·rw[if_neg e]
    have:=Ca ((List.mem_cons.1 h).resolve_left e)
    simp only[List.length_cons]
    omega
theorem filter_one {α:Type} {P:α→Bool}:∀ {l:List α} {k:Nat} (hk:k<l.length),(∀ (j:Nat) (hj:j<l.length),j≠k→P l[j]=false)→l.filter P=if P l[k]=true then [l[k]] else []
 | a :: l,0,hk,h=>by
   have hl:l.filter P=[]:=by
    rw[List.filter_eq_nil_iff]
    intro x hx
    obtain⟨j,hj,rfl⟩:=List.getElem_of_mem hx
    have:=h (j+1) (by simpa using hj) om
    simp only[List.getElem_cons_succ] at this
    rw[this]
    decide
   rw[List.filter_cons,hl]
   rfl
 | a :: l,k+1,hk,h=>by
   have ha:=h 0 (by simp) om
   simp only[List.getElem_cons_zero] at ha
   rw[List.filter_cons,if_neg (by rw[ha];decide)]
   exact filter_one (by simpa using hk) fun j hj hne=>by
    have:=h (j+1) (by simpa using hj) om
    simpa using this
theorem yh {α β:Type} {f:α→List β} {b:β}:∀ {l:List α},(∀ x∈l,f x≠[])→l.flatMap f=[b]→∃ s,l=[s]∧f s=[b]
 | [],_,h=>by simp at h
 | s :: r,hn,h=>by
   rw[List.flatMap_cons] at h
   have hs:=hn s List.mem_cons_self
   cases hf:f s with
   | nil=>exact absurd hf hs
   | cons x t=>
     rw[hf,List.cons_append] at h
     have h1:=List.cons.inj h
     have h2:=List.append_eq_nil_iff.1 h1.2
     cases r with
     | nil=>exact⟨s,rfl,by rw[hf,h1.1,h2.1]⟩
     | cons y r=>
       rw[List.flatMap_cons] at h2
       exact absurd (List.append_eq_nil_iff.1 h2.2).1 (hn y (by simp))
section
variable {d:bM}
abbrev cN (d:bM):Nat:=nS d+nK d
def nO (d:bM) (y:aT):Bool:=decide (y.nt=(cN d:Int))
def fx (d:bM) (y:aT):Prop:=y.nt = -1∨(0≤y.nt∧y.nt<(cN d:Int)∧y.set=tX)
theorem fx.no {y:aT} (h:fx d y):nO d y=false:=decide_eq_false (by rcases h with h|h<;>omega)
theorem nd (h:b7 d.layout=false):bl d=(cN d:Int):=if_neg (by rw[h];decide)
theorem fx.sort {s:ByteArray} (h:s∈aE d.aa):fx d (dy (eE d s)):=.inr ⟨by show (0:Int)≤(eE d s:Int);omega,by
 have:eE d s<nS d:=rD h
 show (eE d s:Int)<_
 unfold cN
 omega,rfl⟩
theorem kH {k:bt} (h:k∈bh d.aa):nS d≤i4 d k∧i4 d k<cN d:=by{
have:(bh d.aa).idxOf k<nK d:=Ca h
unfold i4 cN
omega}
theorem fx.list {k:bt} (h:k∈bh d.aa):fx d (dy (i4 d k)):=.inr ⟨by show (0:Int)≤(i4 d k:Int);omega,by
 have:=kH h
 show (i4 d k:Int)<_
 omega,rfl⟩
theorem fx.part {n:ByteArray} {x:aX} (h:b7 n=true∨n∈aE d.aa):fx d (iR d n x):=by{
unfold iR
split
·exact .inl rfl
·rename_i e
 exact fx.sort (h.resolve_left e)}
theorem GN {p:Prod} (G:tb d p) {s:Sym} (hs:s∈p.aj):∀ y∈fl d p.lex s,fx d y:=by{
intro y hy
unfold fl at hy
split at hy
·unfold iX at hy
 rw[List.mem_map] at hy
 obtain⟨i,_,rfl⟩:=hy
 exact .inl rfl
·rename_i hk
 split at hy
 ·rename_i hl
  obtain rfl:=List.mem_singleton.1 hy
  exact fx.list (mem_keys.2 ⟨p,G.mem,s,hs,hl,rfl⟩)
 ·obtain rfl:=List.mem_singleton.1 hy
  exact fx.part ((G.nm s hs).resolve_left hk)}
def Bv (d:bM) (p:Prod) (mask:Nat):Nat→List Sym
 | 0=>[]
 | k+1=>match p.aj[k]? with
   | some s=>if dG s=true∧(bP d p mask k).mask % 2=0 then Bv d p mask k else Bv d p mask k++[s]
   | none=>Bv d p mask k
structure RH (d:bM) (p:Prod) (mask k:Nat):Prop where
 a:∀ y∈(bP d p mask k).rhs,fx d y∨(y=dy (bl d)∧b7 d.layout=false)
 b:(bP d p mask k).rhs.filter (fun y=>!nO d y)=(Bv d p mask k).flatMap (fl d p.lex)
 c:(ej (p.aj.take k)).Sublist (Bv d p mask k)
 e:∀ s∈Bv d p mask k,s∈p.aj
theorem IF {p:Prod} (G:tb d p) {mask:Nat}:∀ k,k≤p.aj.length→RH d p mask k
 | 0,_=>⟨fun y h=>by simp [bP] at h,rfl,by rw[List.take_zero];exact List.Sublist.refl _,fun s h=>by simp [Bv] at h⟩
 | k+1,hk=>by
   obtain⟨A,B,C,E⟩:=IF G (mask:=mask) k om
   have hk':k<p.aj.length:=by omega
   have hmem:=List.getElem_mem hk'
   have hgap:∀ y∈(if jn d p.lex (bP d p mask k).rhs=true then [dy (bl d)] else []),y=dy (bl d)∧b7 d.layout=false:=fun y hy=>by
    split at hy
    ·rename_i hp
     obtain rfl:=List.mem_singleton.1 hy
     unfold jn at hp
     simp only[Bool.and_eq_true,Bool.not_eq_true'] at hp
     exact⟨rfl,hp.2.2⟩
    ·cases hy
   have hgf:(if jn d p.lex (bP d p mask k).rhs=true then [dy (bl d)] else []).filter (fun y=>!nO d y)=[]:=by
    rw[List.filter_eq_nil_iff]
    intro y hy
    obtain⟨rfl,hl⟩:=hgap y hy
    have:nO d (dy (bl d))=true:=decide_eq_true (nd hl)
    rw[this]
    decide
   have hown:=GN G hmem
   have hof:(fl d p.lex p.aj[k]).filter (fun y=>!nO d y)=fl d p.lex p.aj[k]:=by
    rw[List.filter_eq_self]
    intro y hy
    rw[(hown y hy).no]
    rfl
   have hput:∀ m,(fD d p.lex ⟨m,(bP d p mask k).rhs,(bP d p mask k).os⟩ k p.aj[k]).rhs=(bP d p mask k).rhs++(if jn d p.lex (bP d p mask k).rhs=true then [dy (bl d)] else [])++fl d p.lex p.aj[k]:=fun m=>rfl
   have hC2:Bv d p mask (k+1)=if dG p.aj[k]=true∧(bP d p mask k).mask % 2=0 then Bv d p mask k else Bv d p mask k++[p.aj[k]]:=by
    conv=>lhs;unfold Bv
    rw[List.getElem?_eq_getElem hk']
   have hU:=kG (d:=d) (mask:=mask) hk'
   have hM:=sD hk'
   have hin:∀ m,(bP d p mask (k+1)).rhs=(fD d p.lex ⟨m,(bP d p mask k).rhs,(bP d p mask k).os⟩ k p.aj[k]).rhs→¬ (dG p.aj[k]=true∧(bP d p mask k).mask % 2=0)→RH d p mask (k+1):=fun m hR hn=>by
    rw[hput] at hR
    rw[if_neg hn] at hC2
    refine⟨?_,?_,?_,?_⟩
    ·rw[hR]
     intro y hy
     rw[List.mem_append,List.mem_append] at hy
     rcases hy with (hy|hy) | hy
     ·exact A y hy
     ·exact .inr (hgap y hy)
     ·exact .inl (hown y hy)
    ·rw[hR,List.filter_append,List.filter_append,B,hgf,hof,hC2,List.flatMap_append,List.flatMap_singleton,List.append_nil]
    ·rw[hM,hC2]
     split
     ·exact C.trans (List.sublist_append_left _ _)
     ·exact C.append (List.Sublist.refl _)
    ·rw[hC2]
     intro s hs
     rw[List.mem_append,List.mem_singleton] at hs
     rcases hs with hs|rfl
     ·exact E s hs
     ·exact hmem
   unfold jv at hU
   by_cases hl:dG p.aj[k]=true
   ·rw[if_pos hl] at hU
    by_cases hm:(bP d p mask k).mask % 2=0
    ·rw[if_pos hm] at hU
     rw[if_pos ⟨hl,hm⟩] at hC2
     rw[if_pos hl] at hM
     exact⟨by rw[hU];exact A,by rw[hU,hC2];exact B,by rw[hM,hC2];exact C,by rw[hC2];exact E⟩
    ·rw[if_neg hm] at hU
     exact hin _ (by rw[hU]) fun h=>hm h.2
   ·rw[if_neg hl] at hU
    exact hin (bP d p mask k).mask (by rw[hU]) fun h=>hl h.1
theorem Bu (hc:dI d) {p:Prod} (hp:p∈d.aa):ej p.aj≠[]:=by{
have h8:∀ p∈d.aa,(p.aj.any (fun s=>decide (s.kind=1)&&decide (s.text=⟨#[]⟩))||p.aj.all dG)=false:=hc 8 (by decide)
have:=(Bool.or_eq_false_iff.1 (h8 p hp)).2
intro e
unfold ej at e
rw[List.filter_eq_nil_iff] at e
have:p.aj.all dG=true:=by
 rw[List.all_eq_true]
 intro s hs
 have:=e s hs
 simpa using this
simp_all}
theorem Dr (hc:dI d) {p:Prod} (hp:p∈d.aa) {mask k:Nat} (hk:k<(cZ d p mask).rhs.length) (hj:∀ (j:Nat) (hj:j<(cZ d p mask).rhs.length),j≠k→nO d (cZ d p mask).rhs[j]=true):∃ s,ej p.aj=[s]∧s∈p.aj∧fl d p.lex s=[(cZ d p mask).rhs[k]]:=by{
have G:=lx hc hp
have C:=IF G (mask:=mask) _ (Nat.le_refl _)
have hf:=filter_one (P:=fun y=>!nO d y) hk fun j h1 h2=>by rw[hj j h1 h2];rfl
have hb:=C.b
have hU:bP d p mask p.aj.length=cZ d p mask:=rfl
rw[hU] at hb
rw[hb] at hf
have hn:∀ s∈Bv d p mask p.aj.length,fl d p.lex s≠[]:=fun s hs=>wR (Ck hc hp s (C.e s hs))
have hm:=Bu hc hp
have hsub:=C.c
rw[List.take_length] at hsub
split at hf
·obtain⟨s,e1,e2⟩:=yh hn hf
 rw[e1] at hsub
 refine⟨s,?_,C.e s (by rw[e1];simp),e2⟩
 have hl:=hsub.length_le
 cases hmy:ej p.aj with
 | nil=>exact absurd hmy hm
 | cons a l=>
   rw[hmy] at hsub hl
   cases l with
   | nil=>
     have:=hsub.subset (List.mem_singleton.2 rfl)
     rw[List.mem_singleton.1 this]
   | cons b l=>simp at hl
·exfalso
 cases hch:Bv d p mask p.aj.length with
 | nil=>
   rw[hch,List.sublist_nil] at hsub
   exact hm hsub
 | cons s r=>
   rw[hch,List.flatMap_cons,List.append_eq_nil_iff] at hf
   exact hn s (by rw[hch];simp) hf.1}
end
section
variable {d:bM}
def gR (d:bM):ca:=⟨(aU d:Int),(cA d:Int),(uZ d).map (·.1)⟩
inductive yC (d:bM) (r:ch):Prop
 | user {p:Prod} {m:Nat}:p∈d.aa→r=⟨eE d p.sort,(cZ d p m).rhs⟩→yC d r
 | one {k:bt}:k∈bh d.aa→r=⟨i4 d k,[iR d k.name k.set]⟩→yC d r
 | more {k:bt}:k∈bh d.aa→r=⟨i4 d k,jW d k⟩→yC d r
 | bare:b7 d.layout=true→r=⟨cA d,[dy (eE d d.start)]⟩→yC d r
 | Jp:b7 d.layout=false→r=⟨bl d,[]⟩→yC d r
 | Ki:b7 d.layout=false→r=⟨bl d,[dy (bl d),dy (eE d d.layout)]⟩→yC d r
 | Tt:b7 d.layout=false→r=⟨cA d,[dy (bl d),dy (eE d d.start),dy (bl d)]⟩→yC d r
theorem sa {r:ch} (h:r∈(gR d).rules):yC d r:=by{
unfold gR at h
simp only[List.mem_map] at h
obtain⟨x,hx,rfl⟩:=h
by_cases h0:x.2.kind=0
·obtain⟨i,hi,m,_,rfl⟩:=Ft hx h0
 exact .user (List.getElem_mem hi) rfl
·unfold uZ at hx
 rw[List.mem_append,List.mem_append] at hx
 rcases hx with (hx|hx) | hx
 ·exfalso
  have key:∀ k,k≤d.aa.length→∀ x∈ii d k,x.2.kind=0:=by
   intro k
   induction k with
   | zero=>intro _ x hx;simp [ii] at hx
   | succ k ih=>
     intro hk x hx
     rw[jk (show k<d.aa.length by omega),List.mem_append] at hx
     rcases hx with hx|hx
     ·exact ih om x hx
     ·unfold jX at hx
      rw[List.mem_map] at hx
      obtain⟨m,hm,rfl⟩:=hx
      rfl
  exact h0 (key _ (Nat.le_refl _) _ hx)
 ·unfold iS at hx
  rw[List.mem_flatMap] at hx
  obtain⟨k,hk,hx⟩:=hx
  unfold An at hx
  simp only[List.mem_cons,List.not_mem_nil,or_false] at hx
  rcases hx with rfl|rfl
  ·exact .one hk rfl
  ·exact .more hk rfl
 ·unfold oD at hx
  split at hx
  ·rename_i e
   simp only[List.mem_cons,List.not_mem_nil,or_false] at hx
   subst hx
   exact .bare e rfl
  ·rename_i e
   have e:b7 d.layout=false:=Bool.not_eq_true _▸e
   simp only[List.mem_cons,List.not_mem_nil,or_false] at hx
   rcases hx with rfl|rfl|rfl
   ·exact .Jp e rfl
   ·exact .Ki e rfl
   ·exact .Tt e rfl}
theorem ED (hc:dI d) {p:Prod} (hp:p∈d.aa) {m:Nat}:∃ y∈(cZ d p m).rhs,fx d y:=by{
have C:=IF (lx hc hp) (mask:=m) _ (Nat.le_refl _)
by_cases h:∃ y∈(cZ d p m).rhs,nO d y=false
·obtain⟨y,hy,hg⟩:=h
 refine⟨y,hy,(C.a y hy).resolve_right fun e=>?_⟩
 rw[e.1] at hg
 exact absurd (nd e.2) (of_decide_eq_false hg)
·exfalso
 have hnil:(cZ d p m).rhs.filter (fun y=>!nO d y)=[]:=by
  rw[List.filter_eq_nil_iff]
  intro y hy hn
  exact h ⟨y,hy,by simpa using hn⟩
 have hb:=C.b
 have hU:bP d p m p.aj.length=cZ d p m:=rfl
 rw[hU,hnil] at hb
 have hsub:=C.c
 rw[List.take_length] at hsub
 cases hch:Bv d p m p.aj.length with
 | nil=>
   rw[hch,List.sublist_nil] at hsub
   exact Bu hc hp hsub
 | cons s r=>
   rw[hch,List.flatMap_cons] at hb
   exact wR (Ck hc hp s (C.e s (by rw[hch];simp))) (List.append_eq_nil_iff.1 hb.symm).1}
theorem DK (hc:dI d) (G:jz d) {r:ch} (h:r∈(gR d).rules):(∃ y∈r.rhs,fx d y)∨(r=⟨bl d,[]⟩∧b7 d.layout=false):=by{
cases sa h with
| user hp e=>subst e;exact .inl (ED hc hp)
| one hk e=>subst e;exact .inl ⟨_,List.mem_singleton.2 rfl,fx.part (G.k _ hk).1⟩
| more hk e=>subst e;exact .inl ⟨_,by unfold jW;simp,fx.list hk⟩
| bare _ e=>subst e;exact .inl ⟨_,List.mem_singleton.2 rfl,fx.sort G.st⟩
| Jp hl e=>exact .inr ⟨e,hl⟩
| Ki hl e=>subst e;exact .inl ⟨dy (eE d d.layout),by simp,fx.sort (G.ly.resolve_left (by rw[hl];decide))⟩
| Tt hl e=>subst e;exact .inl ⟨dy (eE d d.start),by simp,fx.sort G.st⟩}
theorem y9 (hc:dI d) (G:jz d) {i:Int} (h:eI (gR d) i):i=(cN d:Int)∧b7 d.layout=false:=by{
induction h with
| mk r hr ht hn ih=>
  rcases DK hc G hr with ⟨y,hy,hC⟩ | ⟨rfl,hl⟩
  ·rcases hC with h1|⟨h1,h2,_⟩
   ·exact (ht y hy om).elim
   ·have:=(ih y hy h1).1
    omega
  ·exact⟨nd hl,hl⟩}
theorem Fw (hl:b7 d.layout=false):eI (gR d) (cN d:Int):=by{
have hm:(⟨bl d,[]⟩:ch)∈(gR d).rules:=by
 unfold gR
 simp only[List.mem_map]
 refine⟨(⟨bl d,[]⟩,⟨3,0,0,[]⟩),?_,rfl⟩
 unfold uZ oD
 rw[if_neg (by rw[hl];decide)]
 simp
have:=Iy.mk (T:=yo) _ hm (fun s hs=>by cases hs) (fun s hs=>by cases hs)
have e:bl d=(cN d:Int):=nd hl
rw[← e]
exact this}
abbrev KS (d:bM):ByteArray→ByteArray→Prop:=rE d.aa (fun p=>gG p.aj)
inductive Pk (d:bM) (a b:Int):Prop
 | sort {p:Prod} {n:ByteArray}:p∈d.aa→a=eE d p.sort→n∈gG p.aj→n∈aE d.aa→b=eE d n→Pk d a b
 | list {p:Prod} {k:bt}:p∈d.aa→a=eE d p.sort→k∈bh d.aa→(b7 k.name=true∨k.name∈gG p.aj)→b=i4 d k→Pk d a b
 | part {k:bt}:k∈bh d.aa→a=i4 d k→b7 k.name=false→b=eE d k.name→Pk d a b
 | out:(cN d:Int)≤a→b<(cN d:Int)→Pk d a b
theorem j5 (hc:dI d) (G:jz d) {a b:Int} (h:Edge (gR d) (eI (gR d)) a b):Pk d a b:=by{
obtain⟨r,hr,rfl,k,hk,h0,hb,hj⟩:=h
have hg:∀ (j:Nat) (hj:j<r.rhs.length),j≠k→r.rhs[j].nt=(cN d:Int)∧b7 d.layout=false:=fun j h1 h2=>y9 hc G (hj j h1 h2).2
have hno:∀ (j:Nat) (hj:j<r.rhs.length),j≠k→¬ fx d r.rhs[j]:=fun j h1 h2 hC=>by
 have:=(hg j h1 h2).1
 rcases hC with hC|hC<;>omega
cases sa hr with
| @user p m hp e=>
  subst e
  obtain⟨s,hm,hs,ho⟩:=Dr hc hp hk fun j h1 h2=>decide_eq_true (hg j h1 h2).1
  have hrs:=oQ (hc 0 (by decide)) hp hs
  have hnl:dG s=false:=by
   have:s∈ej p.aj:=by rw[hm];exact List.mem_singleton.2 rfl
   unfold ej at this
   simpa using (List.mem_filter.1 this).2
  rcases (lM hrs).2.2 with k1|k2|k3|k4|k5|k6
  ·unfold fl at ho
   rw[if_pos k1] at ho
   have:(cZ d _ _).rhs[k]∈iX s.text:=by rw[ho];exact List.mem_singleton.2 rfl
   unfold iX at this
   rw[List.mem_map] at this
   obtain⟨i,_,e⟩:=this
   rw[← e] at h0
   exact absurd h0 (show ¬ ((0:Int)≤-1) by decide)
  ·unfold bf at hrs
   rw[if_neg om,if_pos k2] at hrs
   simp only[Bool.and_eq_true] at hrs
   unfold fl fV iR at ho
   rw[if_neg om,if_neg (by simp;omega),if_pos hrs.2.1] at ho
   have e:=(List.cons.inj ho).1
   rw[← e] at h0
   exact absurd h0 (show ¬ ((0:Int)≤-1) by decide)
  ·unfold bf at hrs
   rw[if_neg om,if_neg om,if_pos k3] at hrs
   simp only[Bool.and_eq_true] at hrs
   have hem:=Df hrs.2.2.1
   unfold fl fV iR at ho
   rw[if_neg om,if_neg (by simp;omega),if_neg (by rw[hem];decide)] at ho
   have e:=(List.cons.inj ho).1
   refine .sort hp rfl (n:=s.name) ?_ ?_ ?_
   ·unfold gG
    rw[hm]
    simp [k3,hem]
   ·exact ((lx hc hp).nm s hs).resolve_left om |>.resolve_left (by rw[hem];decide)
   ·rw[← hb,← e]
    rfl
  ·unfold dG at hnl
   simp [k4] at hnl
  ·unfold dG at hnl
   simp [k5] at hnl
  ·have hlb:fV s=true:=by unfold fV;simp [k6]
   unfold fl at ho
   rw[if_neg om,if_pos hlb] at ho
   have e:=(List.cons.inj ho).1
   refine .list hp rfl (mem_keys.2 ⟨_,hp,s,hs,hlb,rfl⟩) ?_ (by rw[← hb,← e];rfl)
   cases hem:b7 s.name with
   | true=>exact .inl hem
   | false=>
     refine .inr ?_
     unfold gG
     rw[hm]
     simp [k6,hem,ik]
| one hk' e=>
  subst e
  obtain rfl:k=0:=by simp at hk;exact hk
  simp only[List.getElem_cons_zero] at h0 hb
  unfold iR at h0 hb
  split at h0
  ·exact absurd h0 (show ¬ ((0:Int)≤-1) by decide)
  ·rename_i q
   rw[if_neg q] at hb
   exact .part hk' rfl (by simpa using q) hb.symm
| more hk' e=>
  exfalso
  subst e
  unfold jW at hk hno
  have hlast:(([dy (i4 d _)]++dP d _++(if b7 (bt.sep _)=true then [] else iX (bt.sep _)++dP d _)++[iR d _ _]):List aT).length-1<_:=Nat.sub_lt (Nat.lt_of_le_of_lt (Nat.zero_le _) hk) (by decide)
  by_cases hk0:k=0
  ·have h1:=hno _ hlast (by
    rw[hk0]
    simp only[List.length_append,List.length_cons,List.length_nil]
    omega)
   rw[List.getElem_append_right (by simp only[List.length_append,List.length_singleton];omega)] at h1
   simp only[List.length_append,List.length_singleton,Nat.add_sub_cancel,Nat.sub_self,List.getElem_cons_zero] at h1
   exact h1 (fx.part (G.k _ hk').1)
  ·have h1:=hno 0 (Nat.lt_of_le_of_lt (Nat.zero_le _) hk) (fun e=>hk0 e.symm)
   simp only[List.cons_append,List.append_assoc,List.getElem_cons_zero] at h1
   exact h1 (fx.list hk')
| bare hl e=>
  subst e
  obtain rfl:k=0:=by simp at hk;exact hk
  simp only[List.getElem_cons_zero] at hb
  refine .out ?_ ?_
  ·show (cN d:Int)≤(cA d:Int)
   unfold cA cN
   omega
  ·rw[← hb]
   have:=fx.sort G.st
   rcases this with h|h
   ·simp only[List.getElem_cons_zero] at h0
    omega
   ·exact h.2.1
| Jp hl e=>subst e;simp at hk
| Ki hl e=>
  subst e
  have hC:fx d (dy (eE d d.layout)):=fx.sort (G.ly.resolve_left (by rw[hl];decide))
  obtain rfl:k=1:=by
   simp at hk
   rcases (by omega:k=0∨k=1) with h|h
   ·exact absurd hC (hno 1 (by simp) om)
   ·exact h
  simp only[List.getElem_cons_succ,List.getElem_cons_zero] at hb h0
  refine .out (by show (cN d:Int)≤bl d;rw[nd hl];omega) ?_
  rw[← hb]
  rcases hC with h|h
  ·omega
  ·exact h.2.1
| Tt hl e=>
  subst e
  have hC:fx d (dy (eE d d.start)):=fx.sort G.st
  obtain rfl:k=1:=by
   rcases (by omega:k=1∨k≠1) with h|h
   ·exact h
   ·exact absurd hC (hno 1 (by simp) om)
  simp only[List.getElem_cons_succ,List.getElem_cons_zero] at hb h0
  refine .out ?_ ?_
  ·show (cN d:Int)≤(cA d:Int)
   unfold cA cN
   omega
  ·rw[← hb]
   rcases hC with h|h
   ·omega
   ·exact h.2.1}
theorem iZ {s:ByteArray} (h:s∈aE d.aa):eE d s<nS d:=rD h
theorem ot {a b:ByteArray} (ha:a∈aE d.aa) (hb:b∈aE d.aa) (h:eE d a=eE d b):a=b:=xB ha hb h
theorem Im {a b:bt} (ha:a∈bh d.aa) (hb:b∈bh d.aa) (h:i4 d a=i4 d b):a=b:=ya ha hb (by unfold i4 at h;omega)
def Wg (d:bM) (s:ByteArray) (b:Int):Prop:=(∃ n∈aE d.aa,b=eE d n∧KS d s n)∨(∃ k∈bh d.aa,b=i4 d k∧(b7 k.name=true∨KS d s k.name))
theorem gE (G:jz d) {p:Prod} (hp:p∈d.aa):p.sort∈aE d.aa:=(G.p p hp).so
theorem V6 (hc:dI d) (G:jz d) {s:ByteArray} (hs:s∈aE d.aa) {b:Int} (h:kB (Edge (gR d) (eI (gR d))) (eE d s:Int) b):Wg d s b:=by{
have hlt:=iZ hs
induction h with
| one e=>
  cases j5 hc G e with
  | sort hp ea hn hm eb=>
    obtain rfl:=ot hs (gE G hp) om
    exact .inl ⟨_,hm,eb,.one hp rfl hn⟩
  | list hp ea hk hn eb=>
    obtain rfl:=ot hs (gE G hp) om
    exact .inr ⟨_,hk,eb,hn.imp id fun h=>.one hp rfl h⟩
  | part hk ea _ _=>
    have:=(kH hk).1
    omega
  | out ha _=>unfold cN at ha;omega
| more _ e ih=>
  rcases ih with ⟨n,hn,rfl,hr⟩ | ⟨k,hk,rfl,hr⟩
  ·have hlt':=iZ hn
   cases j5 hc G e with
   | sort hp ea hn' hm eb=>
     obtain rfl:=ot hn (gE G hp) om
     exact .inl ⟨_,hm,eb,.more hr hp rfl hn'⟩
   | list hp ea hk hn' eb=>
     obtain rfl:=ot hn (gE G hp) om
     exact .inr ⟨_,hk,eb,hn'.imp id fun h=>.more hr hp rfl h⟩
   | part hk ea _ _=>
     have:=(kH hk).1
     omega
   | out ha _=>unfold cN at ha;omega
  ·have hlk:=kH hk
   cases j5 hc G e with
   | sort hp ea _ _ _=>
     have:=iZ (gE G hp)
     omega
   | list hp ea _ _ _=>
     have:=iZ (gE G hp)
     omega
   | part hk' ea hem eb=>
     obtain rfl:=Im hk hk' om
     exact .inl ⟨_,((G.k _ hk).1).resolve_left (by rw[hem];decide),eb,hr.resolve_left (by rw[hem];decide)⟩
   | out ha _=>omega}
theorem kB.head {E:Int→Int→Prop} {a b:Int} (h:kB E a b):∃ c,E a c∧(c=b∨kB E c b):=by{
induction h with
| one e=>exact⟨_,e,.inl rfl⟩
| more _ e ih=>
  obtain⟨c,e1,rfl|h⟩:=ih
  ·exact⟨_,e1,.inr (.one e)⟩
  ·exact⟨c,e1,.inr (.more h e)⟩}
theorem FT (hc:dI d) (G:jz d):¬ At (Edge (gR d) (eI (gR d))):=by{
rintro⟨x,hx⟩
have hS:∀ s∈aE d.aa,¬ kB (Edge (gR d) (eI (gR d))) (eE d s:Int) (eE d s:Int):=fun s hs h=>by
 have hlt:=iZ hs
 rcases V6 hc G hs h with ⟨n,hn,e,hr⟩ | ⟨k,hk,e,_⟩
 ·obtain rfl:=ot hs hn om
  exact (hc 9 (by decide):∀ s∈aE d.aa,¬ rE d.aa (fun p=>gG p.aj) s s) s hs hr
 ·have:=(kH hk).1
  omega
have hb:x<(cN d:Int):=by
 have:∀ {a b:Int},kB (Edge (gR d) (eI (gR d))) a b→b<(cN d:Int):=fun h=>by
  have key:∀ {a b:Int},Edge (gR d) (eI (gR d)) a b→b<(cN d:Int):=fun e=>by
   cases j5 hc G e with
   | sort _ _ _ hm eb=>have:=iZ hm;unfold cN;omega
   | list _ _ hk _ eb=>have:=kH hk;omega
   | part hk _ hem eb=>have:=iZ (((G.k _ hk).1).resolve_left (by rw[hem];decide));unfold cN;omega
   | out _ h=>exact h
  cases h with
  | one e=>exact key e
  | more _ e=>exact key e
 exact this hx
obtain⟨c,e,hr⟩:=hx.head
cases j5 hc G e with
| sort hp ea _ _ _=>subst ea;exact hS _ (gE G hp) hx
| list hp ea _ _ _=>subst ea;exact hS _ (gE G hp) hx
| part hk ea hem eb=>
  subst ea eb
  have hm:=((G.k _ hk).1).resolve_left (by rw[hem];decide)
  rcases hr with hr|hr
  ·have:=iZ hm
   have:=(kH hk).1
   omega
  ·exact hS _ hm (.more hr e)
| out ha _=>omega}
end
theorem tu.rd {h h':ah} {v:Value} {l:List ch} (k:tu h h' v l) (hl:l.length≤1000000) (hs:∀ r∈l,r.rhs.length≤1000000):fW h' v l:=by{
obtain⟨us,e,G,hu⟩:=k
refine⟨us,e,G.sl om,fun i r u h1 h2=>?_⟩
obtain⟨n,en,g⟩:=hu i r u h1 h2
have hr:=hs r (List.mem_of_getElem? h1)
have:n=r.rhs.length:=by
 have:(UR r).length=r.rhs.length*5:=jT
 omega
subst this
exact g.sl (b:=40) om}
section
variable {d:bM}
def AO (d:bM) (lex:Bool):Nat:=if (!lex && !b7 d.layout)=true then 1 else 0
theorem Ij {lex:Bool} {s:Sym}:(fl d lex s).length=fI s:=by{
unfold fl fI iX
split
·simp
·split<;>rfl}
theorem B9 {p:Prod} {m:Nat}:∀ k,k≤p.aj.length→(bP d p m k).rhs.length≤cJ fI (p.aj.take k)+AO d p.lex*(k-1)
 | 0,_=>by simp [bP]
 | k+1,hk=>by
   have ih:=B9 (p:=p) (m:=m) k om
   have hk':k<p.aj.length:=by omega
   have hS:=gK (f:=fI) hk'
   have hU:=kG (d:=d) (mask:=m) hk'
   have hmul:AO d p.lex*(k-1)≤AO d p.lex*k:=Nat.mul_le_mul_left _ om
   have hput:∀ x,(fD d p.lex ⟨x,(bP d p m k).rhs,(bP d p m k).os⟩ k p.aj[k]).rhs.length≤cJ fI (p.aj.take (k+1))+AO d p.lex*k:=fun x=>by
    show ((bP d p m k).rhs++(if jn d p.lex (bP d p m k).rhs=true then [dy (bl d)] else [])++fl d p.lex p.aj[k]).length≤_
    rw[List.length_append,List.length_append,Ij,hS]
    split
    ·rename_i hp
     unfold jn at hp
     simp only[Bool.and_eq_true,Bool.not_eq_true'] at hp
     have h1:AO d p.lex=1:=by unfold AO;rw[if_pos (by simp [hp.2])]
     have h2:k≠0:=fun e=>by
      subst e
      have:=hp.1
      simp [bP] at this
     rw[h1] at ih ⊢
     simp only[List.length_singleton]
     omega
    ·simp only[List.length_nil]
     omega
   unfold jv at hU
   rw[Nat.add_sub_cancel]
   split at hU
   ·split at hU
    ·rw[hU,hS]
     show (bP d p m k).rhs.length≤_
     omega
    ·rw[hU];exact hput _
   ·rw[hU];exact hput (bP d p m k).mask
theorem Od {y:aT} (h:fx d y∨(y=dy (bl d)∧b7 d.layout=false)):-1≤y.nt∧y.nt<(aU d:Int)∧(0≤y.nt→y.set=aX.zero):=by{
have hc:cN d≤cA d:=by unfold cN cA;omega
have ht:cA d<aU d:=by unfold aU;omega
rcases h with (h|⟨h1,h2,h3⟩) | ⟨rfl,hl⟩
·exact⟨by omega,by omega,fun h0=>by omega⟩
·exact⟨by omega,by omega,fun _=>h3⟩
·have e:bl d=(cN d:Int):=nd hl
 have h1:cN d<cA d:=by unfold cN cA;rw[if_neg (by rw[hl];decide)];omega
 refine⟨?_,?_,fun _=>rfl⟩
 ·show -1≤bl d;omega
 ·show bl d<_;omega}
theorem xc (hl:b7 d.layout=false):0≤bl d∧bl d<(aU d:Int):=by{
have e:bl d=(cN d:Int):=nd hl
have h1:cN d<aU d:=by unfold cN aU cA;omega
omega}
theorem GH {s:ByteArray} (h:s∈aE d.aa):(eE d s:Int)<(aU d:Int):=by{
have:=iZ h
unfold aU cA
omega}
theorem Bz (hc:dI d) (G:jz d) {r:ch} (h:r∈(gR d).rules):0≤r.lhs∧r.lhs<(aU d:Int)∧r.rhs.length≤80∧∀ y∈r.rhs,fx d y∨(y=dy (bl d)∧b7 d.layout=false):=by{
have hsp:∀ k:bt,(dP d k).length≤1∧∀ y∈dP d k,y=dy (bl d)∧b7 d.layout=false:=fun k=>by
 unfold dP
 split
 ·rename_i e
  simp only[Bool.and_eq_true,Bool.not_eq_true'] at e
  exact⟨by simp,fun y hy=>⟨List.mem_singleton.1 hy,e.2⟩⟩
 ·exact⟨by simp,fun y hy=>by cases hy⟩
cases sa h with
| @user p m hp e=>
  subst e
  have hG:=lx hc hp
  refine⟨by show (0:Int)≤(eE d p.sort:Int);omega,GH hG.so,?_,?_⟩
  ·have h1:=B9 (d:=d) (p:=p) (m:=m) _ (Nat.le_refl _)
   rw[List.take_length] at h1
   have h7:∀ p∈d.aa,uk d p=false:=hc 7 (by decide)
   have h2:=(Bool.or_eq_false_iff.1 (h7 p hp)).2
   have h3:=of_decide_eq_false h2
   have hr:cE d=true:=hc 0 (by decide)
   have h4:=mI hr hp
   show (bP d p m p.aj.length).rhs.length≤80
   unfold AO at h1
   split at h1
   ·rename_i e
    rw[if_pos e] at h3
    omega
   ·rename_i e
    rw[if_neg e] at h3
    omega
  ·exact (IF hG (mask:=m) _ (Nat.le_refl _)).a
| @one k hk e=>
  subst e
  have:=kH hk
  unfold cN at this
  refine⟨by show (0:Int)≤(i4 d k:Int);omega,?_,by simp,fun y hy=>?_⟩
  ·show (i4 d k:Int)<_
   unfold aU cA
   omega
  ·obtain rfl:=List.mem_singleton.1 hy
   exact .inl (fx.part (G.k _ hk).1)
| @more k hk e=>
  subst e
  have:=kH hk
  unfold cN at this
  refine⟨by show (0:Int)≤(i4 d k:Int);omega,?_,?_,fun y hy=>?_⟩
  ·show (i4 d k:Int)<_
   unfold aU cA
   omega
  ·have h1:=(hsp k).1
   have h2:=(G.k _ hk).2
   show (jW d k).length≤80
   unfold jW iX
   simp only[List.length_append,List.length_singleton]
   split
   ·simp only[List.length_nil];omega
   ·simp only[List.length_append,List.length_map,List.length_range];omega
  ·have hy:y∈jW d k:=hy
   unfold jW at hy
   simp only[List.mem_append,List.mem_singleton] at hy
   rcases hy with ((rfl|hy) | hy) | rfl
   ·exact .inl (fx.list hk)
   ·exact .inr ((hsp k).2 y hy)
   ·split at hy
    ·cases hy
    ·rw[List.mem_append] at hy
     rcases hy with hy|hy
     ·unfold iX at hy
      rw[List.mem_map] at hy
      obtain⟨i,_,rfl⟩:=hy
      exact .inl (.inl rfl)
     ·exact .inr ((hsp k).2 y hy)
   ·exact .inl (fx.part (G.k _ hk).1)
| bare hl e=>
  subst e
  refine⟨by show (0:Int)≤(cA d:Int);omega,by show (cA d:Int)<(aU d:Int);unfold aU;omega,by simp,fun y hy=>?_⟩
  obtain rfl:=List.mem_singleton.1 hy
  exact .inl (fx.sort G.st)
| Jp hl e=>
  subst e
  exact⟨(xc hl).1,(xc hl).2,by simp,fun y hy=>by cases hy⟩
| Ki hl e=>
  subst e
  refine⟨(xc hl).1,(xc hl).2,by simp,fun y hy=>?_⟩
  simp only[List.mem_cons,List.not_mem_nil,or_false] at hy
  rcases hy with rfl|rfl
  ·exact .inr ⟨rfl,hl⟩
  ·exact .inl (fx.sort (G.ly.resolve_left (by rw[hl];decide)))
| Tt hl e=>
  subst e
  refine⟨by show (0:Int)≤(cA d:Int);omega,by show (cA d:Int)<(aU d:Int);unfold aU;omega,by simp,fun y hy=>?_⟩
  simp only[List.mem_cons,List.not_mem_nil,or_false] at hy
  rcases hy with rfl|rfl|rfl
  ·exact .inr ⟨rfl,hl⟩
  ·exact .inl (fx.sort G.st)
  ·exact .inr ⟨rfl,hl⟩}
theorem Q3 (hc:dI d) (G:jz d) (hp:cX d≤160):¬ mN (gR d):=by{
have hnS:nS d≤200:=by
 have:=bZ (ps:=d.aa)
 have:=G.n
 unfold nS
 omega
have hnK:nK d≤3000:=G.kn
have ht:cA d≤3201:=by unfold cA;split<;>omega
have hn:aU d=cA d+1:=rfl
have hl:=rI G hp
rintro (h|h|h|h|h|⟨r,hr,h⟩)
·have h:(aU d:Int)<1:=h;omega
·have h:4096<(aU d:Int):=h;omega
·have h:(cA d:Int)<0:=h;omega
·have h:(aU d:Int)≤(cA d:Int):=h;omega
·have h:8192<((uZ d).map (·.1)).length:=h
 rw[List.length_map] at h
 omega
·obtain⟨h1,h2,h3,h4⟩:=Bz hc G hr
 rcases h with h|h|h|⟨s,hs,h⟩
 ·omega
 ·have h:(aU d:Int)≤r.lhs:=h;omega
 ·omega
 ·obtain⟨q1,q2,q3⟩:=Od (h4 s hs)
  rcases h with h|h|⟨h,h'⟩
  ·omega
  ·have h:(aU d:Int)≤s.nt:=h;omega
  ·exact h' (q3 h)}
abbrev Lh:ByteArray:=⟨#[103,97,112]⟩
theorem ET {b:ByteArray} (h:yt b):b≠Lh:=by{
rintro rfl
obtain⟨c,e⟩:=h
have h1:=congrArg (fun b:ByteArray=>b.data.toList.getLast?) e
simp [ByteArray.data_append] at h1}
theorem DU (hc:dI d) {nm:List ByteArray} (hl:nm.length=nK d) (he:∀ b∈nm,yt b) {i:Nat} {x:ByteArray} (hx:(iC d nm)[i]? = some x):x=Lh↔(i:Int)=cN d∧b7 d.layout=false:=by{
unfold iC at hx
have hS:(aE d.aa).length=nS d:=rfl
rcases Nat.lt_or_ge i (nS d) with h1|h1
·rw[List.append_assoc,List.append_assoc,List.getElem?_append_left om] at hx
 have hm:=List.mem_of_getElem? hx
 have:bI x=true:=by
  unfold aE at hm
  rw[oL] at hm
  obtain⟨p,hp,rfl⟩:=hm.resolve_left (by simp)
  have hr:cE d=true:=hc 0 (by decide)
  unfold cE at hr
  simp only[Bool.and_eq_true] at hr
  have hrp:=List.all_eq_true.1 hr.2.1 _ hp
  unfold ct at hrp
  simp only[Bool.and_eq_true] at hrp
  exact hrp.1.1
 constructor
 ·rintro rfl
  exact absurd this (by decide)
 ·rintro⟨e,_⟩
  unfold cN at e
  omega
·rw[List.append_assoc,List.append_assoc,List.getElem?_append_right om,hS] at hx
 rcases Nat.lt_or_ge i (cN d) with h2|h2
 ·rw[List.getElem?_append_left (by unfold cN at h2;omega)] at hx
  have:=ET (he x (List.mem_of_getElem? hx))
  exact⟨fun e=>absurd e this,fun e=>by omega⟩
 ·rw[List.getElem?_append_right (by unfold cN at h2;omega),hl] at hx
  cases hly:b7 d.layout with
  | true=>
    rw[if_pos hly] at hx
    refine⟨fun e=>?_,fun e=>by cases e.2⟩
    have hm:=List.mem_of_getElem? hx
    simp only[List.nil_append,List.mem_singleton] at hm
    rw[hm] at e
    exact absurd e (by decide)
  | false=>
    rw[if_neg (by rw[hly];decide)] at hx
    rcases (by omega:i=cN d∨cN d<i) with rfl|h3
    ·have:cN d-nS d-nK d=0:=by unfold cN;omega
     rw[this] at hx
     simp only[List.cons_append,List.nil_append,List.getElem?_cons_zero,Option.some.injEq] at hx
     exact⟨fun _=>⟨rfl,rfl⟩,fun _=>hx.symm⟩
    ·have:∃ j,i-nS d-nK d=j+1:=⟨i-nS d-nK d-1,by unfold cN at h3;omega⟩
     obtain⟨j,hj⟩:=this
     rw[hj,List.cons_append,List.getElem?_cons_succ,List.nil_append] at hx
     have hm:=List.mem_singleton.1 (List.mem_of_getElem? hx)
     refine⟨fun e=>?_,fun e=>by omega⟩
     rw[hm] at e
     exact absurd e (by decide)}
end
theorem yR {v:Value} {l:List Int} {b:Int} {h hk:ah} (G:aL h hk v l.length (l.map i64) 3) (hp:h <+: hk) (hn:l.length≤1000000):∃ p c h', (∀ (all:Array Oper) (o:Oper) (s:St) (x:Operand) (y:Nat),s.h=hk→aF all o s=some true→o.op = .call { callee:=.builtin .append,args:=#[x,.tmp y],argTypes:=#[39,39] }→ev s x=some v→aW s.fr y = .mx [i64 b] 1 → One env all o s (.sl (.val (.slice p (l.length+1) c))) h') ∧ aL h h' (.slice p (l.length+1) c) (l++[b]).length ((l++[b]).map i64) 3∧h <+: h'∧(∀ j o,bB v j=false→hk[j]? = some o→h'[j]? = some o)∧∀ x,bB (.slice p (l.length+1) c) x=true→bB v x=true∨x=hk.length:=by{
have hu:env.P.underlying 39=some (.slice 3):=by kernel_rfl
have ht:aq env.P 3=_:=NY
have hl:(l++[b]).length=l.length+1:=by simp
have hm:(l++[b]).map i64=l.map i64++[i64 b]:=by simp
rw[hl,hm]
have hi:∀ (s:St) (y:Nat),aW s.fr y = .mx [i64 b] 1→cd s s.h 1 (.tmp y)=some ([i64 b],1):=fun s y hy=>by simp only[cd,hy];rfl
rcases G with ⟨h0,hc,rfl⟩ | ⟨id,ar,h1,rfl,h3⟩
·have hl0:l=[]:=List.eq_nil_of_length_eq_zero h0
 subst hl0
 refine⟨some ⟨hk.length,0,some 0⟩,1,hk++[av.aA [i64 b] 0 true 3],fun all o s x y e hw ho hx hy=>?_,.inr ⟨hk.length,0,hp.length_le,rfl,aJ⟩,bU hp,fun j o _ h=>bg h,fun x hx=>?_⟩
 ·subst e
  exact .y5 hw ho hu rfl ht (by decide) rfl hx (hi s y hy) (by decide) (by decide) (by decide)
 ·simp only[bB,beq_iff_eq] at hx
  exact .inr hx.symm
·refine⟨some ⟨id,0,some (ar+1)⟩,l.length+1,hk.set id (av.aA (l.map i64++[i64 b]) (ar+1) true 3),fun all o s x y e hw ho hx hy=>?_,.inr ⟨id,ar+1,h1,rfl,aw h3⟩,a8 hp h1,fun j o hj h=>?_,fun x hx=>?_⟩
 ·subst e
  have:=One.KF (N:=env) hw ho hu rfl ht (by decide) rfl hx h3 (by simp) (hi s y hy) (by simp only;omega) om
  rwa [List.take_of_length_le (by simp)] at this
 ·simp only[bB,beq_eq_false_iff_ne] at hj
  rw[aD hj]
  exact h
 ·simp only[bB] at hx ⊢
  exact .inl hx}
theorem By {all:Array Oper} {o:Oper} {s:St} {h h':ah} {t et:TypeId} {a x:Operand} {ti:TI} {id off ar:Nat} {cells vs cells':List Value} {v:Value} {r:gD} (hh:s.h=h) (hw:aF all o s=some true) (ho:o.op = .store t a x) (ht:aq env.P t=some ti) (ha:ev s a=some (.pointer (some ⟨id,off,some ar⟩))) (hid:h[id]? = some (.aA cells ar true et)) (hx:ev s x=some v) (hv:dO ti.size v=some vs)
 (hq:ll cells off vs=some cells') (hd:o.dst=none) (he:h'=h.set id (av.aA cells' ar true et)):One env all o s r h':=by
 subst hh he
 exact .jP hw ho ht ha hid hx hv hq hd
structure OF (h hk:ah) (io:Nat) (us:List Value) (ls:List (List Int)):Prop where
 n:us.length=ls.length
 g:∀ (i:Nat) (u:Value) (l:List Int),us[i]? = some u→ls[i]? = some l→aL h hk u l.length (l.map i64) 3
 d:∀ (i j:Nat) (u w:Value) (x:Nat),i≠j→us[i]? = some u→us[j]? = some w→bB u x=true→bB w x=false
 o:∀ (i:Nat) (u:Value),us[i]? = some u→bB u io=false
theorem OF.put {h hk h':ah} {io i:Nat} {us:List Value} {ls:List (List Int)} {v v':Value} {l l':List Int} {vs:List Value} (H:OF h hk io us ls) (hi:us[i]? = some v) (hl:ls[i]? = some l) (hio:io<hk.length) (G:aL h h' v' l'.length (l'.map i64) 3) (hp:∀ j o,bB v j=false→hk[j]? = some o→h'[j]? = some o) (hx:∀ x,bB v' x=true→bB v x=true∨x=hk.length) : OF h (h'.set io (.aA vs 0 true 39)) io (us.set i v') (ls.set i l'):=by{
have hiu:i<us.length:=(List.getElem?_eq_some_iff.1 hi).1
have hil:i<ls.length:=(List.getElem?_eq_some_iff.1 hl).1
have kj:∀ (j:Nat) (u:Value),us[j]? = some u→∀ x,bB u x=true→x<hk.length∧x≠io:=fun j u hj x hu=>by
 obtain⟨l,hl⟩:∃ l,ls[j]? = some l:=⟨ls[j]'(by rw[← H.n];exact (List.getElem?_eq_some_iff.1 hj).1),by simp⟩
 have h1:=(H.g j u l hj hl).lt hu
 refine⟨h1.2,?_⟩
 rintro rfl
 rw[H.o j u hj] at hu
 cases hu
have v'io:bB v' io=false:=by
 cases hb:bB v' io with
 | false=>rfl
 | true=>
   rcases hx io hb with h1|h1
   ·exact ((kj i v hi io h1).2 rfl).elim
   ·omega
have setne:∀ (u:Value),bB u io=false→∀ j o,bB u j=true→h'[j]? = some o→(h'.set io (.aA vs 0 true 39))[j]? = some o:=fun u hu j o hj ho=>by
 rw[aD (by rintro rfl;rw[hu] at hj;cases hj)]
 exact ho
refine⟨by simp [H.n],fun j u q hj hq=>?_,fun j k u w x hjk hj hk2 hu=>?_,fun j u hj=>?_⟩
·rw[List.getElem?_set] at hj hq
 by_cases e:i=j
 ·subst e
  rw[if_pos rfl,if_pos hiu] at hj
  rw[if_pos rfl,if_pos hil] at hq
  cases hj;cases hq
  exact G.mono (setne _ v'io)
 ·rw[if_neg e] at hj hq
  refine (H.g j u q hj hq).mono fun x o hx1 ho=>?_
  exact setne u (H.o j u hj) x o hx1 (hp x o (H.d j i u v x (Ne.symm e) hj hi hx1) ho)
·rw[List.getElem?_set] at hj hk2
 by_cases e:i=j
 ·subst e
  rw[if_pos rfl,if_pos hiu] at hj
  rw[if_neg hjk] at hk2
  cases hj
  rcases hx x hu with h1|h1
  ·exact H.d i k v w x hjk hi hk2 h1
  ·cases hb:bB w x with
   | false=>rfl
   | true=>have:=(kj k w hk2 x hb).1;omega
 ·rw[if_neg e] at hj
  by_cases e2:i=k
  ·subst e2
   rw[if_pos rfl,if_pos hiu] at hk2
   cases hk2
   cases hb:bB v' x with
   | false=>rfl
   | true=>
     rcases hx x hb with h1|h1
     ·rw[H.d j i u v x hjk hj hi hu] at h1
      cases h1
     ·have:=(kj j u hj x hu).1;omega
  ·rw[if_neg e2] at hk2
   exact H.d j k u w x hjk hj hk2 hu
·rw[List.getElem?_set] at hj
 by_cases e:i=j
 ·subst e
  rw[if_pos rfl,if_pos hiu] at hj
  cases hj
  exact v'io
 ·rw[if_neg e] at hj
  exact H.o j u hj}
theorem VN {us:List Value} {i:Nat} {u:Value} (hi:i<us.length):ll us i [u]=some (us.set i u):=by
 have:=oV (f:=id) (l:=us) (x:=u) hi
 simpa using this
def eY (ls:List (List Int)) (i:Int):List Int:=ls.getD i.toNat []
theorem y7 {ls:List (List Int)} {i j:Int} {l:List Int} (h0:0≤i) (h1:i<ls.length) (j0:0≤j):eY (ls.set i.toNat l) j=if i=j then l else eY ls j:=by{
unfold eY
simp only[List.getD_eq_getElem?_getD,List.getElem?_set]
by_cases h:i=j
·subst h
 rw[if_pos rfl,if_pos rfl,if_pos om]
 rfl
·rw[if_neg om,if_neg h]}
theorem Fa {n:Nat} {i:Int}:eY (List.replicate n []) i=[]:=by{
unfold eY
rw[List.getD_eq_getElem?_getD,List.getElem?_replicate]
split<;>rfl}
theorem sQ {ls:List (List Int)} {i:Int} (h0:0≤i) (h1:i<ls.length):ls[i.toNat]? = some (eY ls i):=by{
unfold eY
rw[List.getD_eq_getElem?_getD,List.getElem?_eq_getElem (by omega:i.toNat<ls.length)]
rfl}
def ow (D:Int→Prop) (r:ch) (n:Nat) (b:Int):Prop:=∃ (k:Nat) (hk:k<r.rhs.length),k<n∧0≤r.rhs[k].nt∧r.rhs[k].nt=b∧∀ (j:Nat) (hj:j<r.rhs.length),j≠k→nE D r.rhs[j]
structure LI (g:ca) (D:Int→Prop) (k:Nat) (ls:List (List Int)):Prop where
 n:(ls.length:Int)=g.cK
 m:∀ a b:Int,0≤a→a<g.cK→(b∈eY ls a↔∃ r∈g.rules.take k,r.lhs=a∧ow D r r.rhs.length b)
theorem LI.Om {g:ca} {D:Int→Prop} {ls:List (List Int)} (h:LI g D g.rules.length ls) {a b:Int} (h0:0≤a) (h1:a<g.cK):b∈eY ls a↔Edge g D a b:=by{
rw[h.m a b h0 h1,List.take_length]
constructor
·rintro⟨r,hr,e,k,hk,_,h2,h3,h4⟩
 exact⟨r,hr,e,k,hk,h2,h3,h4⟩
·rintro⟨r,hr,e,k,hk,h2,h3,h4⟩
 exact⟨r,hr,e,k,hk,hk,h2,h3,h4⟩}
structure SG where
 hk:ah
 us:List Value
 ls:List (List Int)
structure VS (h:ah) (N k:Nat) (x:SG):Prop where
 p:h <+: x.hk
 o:x.hk[h.length]? = some (.aA x.us 0 true 39)
 l:OF h x.hk h.length x.us x.ls
 n:x.us.length=N
 b:∀ l∈x.ls,l.length≤80*k
theorem C7 {all:Array Oper} {o:Oper} {r:List Oper} {s:St} {K:St→Prop} {x:Operand} {n:Int} {N:Nat} (hw:aF all o s=some true) (ho:o.op = .makeSlice 132 x x) (hx:ev s x=some (i64 n)) (hN:n=N) (hN2:N≤1000000)
 (k:OW env all r ({ s with h:=s.h++[av.aA (List.replicate N bX) 0 true 39] }.a9 o.dst (.val (.slice (some ⟨s.h.length,0,some 0⟩) N N))) K):OW env all (o :: r) s K:=by
 exact xa hw ho hx hN kr Q1 rfl (by rfl) (by simp only;omega) om oN k
def Mv (g:ca) (h h':ah) (x:Value):Prop:=∃ us ls,x = .slice (some ⟨h.length,0,some 0⟩) us.length us.length∧h'[h.length]? = some (.aA us 0 true 39)∧OF h h' h.length us ls∧LI g (eI g) g.rules.length ls∧∀ l∈ls,l.length≤655360
theorem Gq {h:ah} {g:ca} {v mv:Value} {m:List Bool} (hr:jQ h v g) (R:ee g) (hm:Marks g.cK (eI g) m) (hmr:kD h mv m):FW env 64 [v,mv] h fun x h'=>Mv g h h' x∧h <+: h':=by{
obtain⟨u,rfl,hu⟩:=id hr
obtain⟨p,c,rfl⟩:=hu.form
have hle:=hu.le
have n1:=R.n1
have n2:=R.n2
have hrl:=R.rl
obtain⟨N,hN⟩:∃ N:Nat,g.cK=N:=⟨g.cK.toNat,by omega⟩
have hml:=hm.1
obtain⟨idm,verm,owm,cm,rfl,hgm⟩:=bT.at hmr om
have hm2:m.length=N:=by omega
refine fe Tryz.func64 ?_;simp only[push_cast]
refine aC ?_
refine C7 (N:=N) ak rfl ak hN om ?_
refine aC ?_
refine aZ g.rules.length (fun k (x:SG)=>[(1,.val (.slice (some ⟨idm,0,some verm⟩) m.length cm)),(2,.box [i64 g.cK,i64 g.start,.slice p g.rules.length c]),(5,.val (.slice (some ⟨h.length,0,some 0⟩) N N)),(17,.val (.slice p g.rules.length c)),(18,.val (i64 g.rules.length)),(19,.val (i64 k))]) (fun _ x=>x.hk)
 (fun k x=>VS h N k x∧LI g (eI g) k x.ls) ⟨_,List.replicate N bX,List.replicate N []⟩ aK rfl ⟨⟨aH,aJ,⟨by simp,?_,?_,?_⟩,by simp,?_⟩,⟨by simp [hN],?_⟩⟩ ?_
·intro i u l h1 h2
 have hi:i<N:=by have:=(List.getElem?_eq_some_iff.1 h1).1;simpa using this
 rw[List.getElem?_replicate,if_pos hi] at h1 h2
 cases h1;cases h2
 exact aL.nil
·intro i j u w x _ h1 _ h3
 rw[List.getElem?_replicate] at h1
 split at h1<;>cases h1
 simp [bB] at h3
·intro i u h1
 rw[List.getElem?_replicate] at h1
 split at h1<;>cases h1
 rfl
·intro l hl
 rw[List.mem_replicate] at hl
 rw[hl.2]
 simp
·intro a b h0 h1
 rw[Fa]
 simp
rintro k ⟨hk,us,ls⟩ hkn ⟨⟨hp,ho,hl,hn,hb⟩,hI⟩
simp only at hp ho hl hn hb hI ⊢
by_cases hlt:k<g.rules.length
·obtain⟨id,ar,own,c',cells,p',n',c2,hv,hid,hn,hrd,hu'⟩:=hu.at hlt
 cases hv
 subst hn
 have e0:=gZ hrd om
 have e0':=eK (j:=1) hrd om
 simp only[List.getElem?_cons_succ,List.getElem?_cons_zero] at e0 e0'
 have e1:=cg hlt
 have e2:=inc hlt hle
 have e3:=aS hlt
 have hmem:g.rules[k]∈_:=List.getElem_mem hlt
 have hn2:=jI.le hu'
 obtain⟨a1,a2,a3,hS⟩:=R.r _ hmem
 have hid2:=dp hp hid
 have hgm2:=dp hp hgm
 refine fi e1 hid2 hrd e3 ?_
 refine ae rfl ?_
 refine gV e1 hid2 hrd ?_
 refine CW.mono (Q:=fun e s'=>e = .exit 2∧s'.h=hk∧bA [(1,.val (.slice (some ⟨idm,0,some verm⟩) m.length cm)),(2,.box [i64 g.cK,i64 g.start,.slice (some ⟨id,0,some ar⟩) g.rules.length c]),(5,.val (.slice (some ⟨h.length,0,some 0⟩) N N)),(7,.box [i64 g.rules[k].lhs,.slice p' g.rules[k].rhs.length c2]),(8,.val (i64 (eQ m g.rules[k].rhs))),(17,.val (.slice (some ⟨id,0,some ar⟩) g.rules.length c)),(18,.val (i64 g.rules.length)),(19,.val (i64 k))] s'.fr) ?_ ?_
 ·refine cO g.rules[k].rhs.length (fun j=>[(1,.val (.slice (some ⟨idm,0,some verm⟩) m.length cm)),(2,.box [i64 g.cK,i64 g.start,.slice (some ⟨id,0,some ar⟩) g.rules.length c]),(5,.val (.slice (some ⟨h.length,0,some 0⟩) N N)),(7,.box [i64 g.rules[k].lhs,.slice p' g.rules[k].rhs.length c2]),(8,.val (i64 (eQ m (g.rules[k].rhs.take j)))),(17,.val (.slice (some ⟨id,0,some ar⟩) g.rules.length c)),(18,.val (i64 g.rules.length)),(19,.val (i64 k)),(24,.val (.slice p' g.rules[k].rhs.length c2)),(25,.val (i64 g.rules[k].rhs.length)),(26,.val (i64 j))]) (fun _=>hk)
   (fun _=>True) (by simp only[push_cast,Nat.reduceEqDiff,reduceIte,List.take_zero,eQ,List.countP_nil]) rfl trivial ?_
  intro j hj _
  by_cases hjl:j<g.rules[k].rhs.length
  ·obtain⟨id2,ver2,own2,c3,cells2,hv2,hid2,hrd2⟩:=hu'.at hjl
   cases hv2
   have e9:=cg hjl
   have e10:=inc hjl om
   have e11:=aS hjl
   have g0:=gZ hrd2 om
   simp only[List.getElem?_cons_zero] at g0
   have hmem2:g.rules[k].rhs[j]∈_:=List.getElem_mem hjl
   have hs2:=hS _ hmem2
   have hid4:=dp hp hid2
   have hbt:=Dx (m:=m) hjl
   have hble:=J6 (m:=m) (l:=g.rules[k].rhs.take j)
   rw[List.length_take,Nat.min_eq_left hj] at hble
   have e4:IntKind.i64.wrap ((eQ m (g.rules[k].rhs.take j):Int)+1)=(eQ m (g.rules[k].rhs.take j):Int)+1:=ax om om
   refine fi e9 hid4 hrd2 e11 ?_
   refine ae rfl ?_
   refine gV e9 hid4 hrd2 ?_
   by_cases h0:0≤g.rules[k].rhs[j].nt
   ·have d1:decide (g.rules[k].rhs[j].nt<0)=false:=decide_eq_false om
    have q3:=Ay (N:=m.length) h0 om
    have qb:=oq (m:=m) h0 om
    refine kL d1 q3 hgm2 qb Nat.mul_one ?_
    refine dF ak (fun b1=>?_) (fun b1=>?_)
    ·have e:dV m g.rules[k].rhs[j]=false:=by unfold dV;rw[decide_eq_true h0];simpa using b1
     rw[e] at hbt
     refine fh e4 e10 ?_
     exact⟨hjl,(by simp only[push_cast,Nat.reduceEqDiff,reduceIte,hbt,Bool.false_eq_true,if_false]),rfl,trivial⟩
    ·have e:dV m g.rules[k].rhs[j]=true:=by unfold dV;rw[decide_eq_true h0];simpa using b1
     rw[e] at hbt
     refine aG e10 ?_
     exact⟨hjl,(lH hbt),rfl,trivial⟩
   ·have d1:decide (g.rules[k].rhs[j].nt<0)=true:=decide_eq_true om
    have e:dV m g.rules[k].rhs[j]=false:=by unfold dV;rw[decide_eq_false h0];rfl
    rw[e] at hbt
    refine aG d1 ?_
    refine ae rfl ?_
    refine fh e4 e10 ?_
    exact⟨hjl,(by simp only[push_cast,Nat.reduceEqDiff,reduceIte,hbt,Bool.false_eq_true,if_false]),rfl,trivial⟩
  ·have e11:=aP hjl
   obtain rfl:j=g.rules[k].rhs.length:=by omega
   refine aG e11 ?_
   refine af rfl ?_
   refine az ?_
   rw[List.take_length]
   exact⟨rfl,rfl,aK⟩
 rintro e s' ⟨rfl,hh,hf⟩
 show CW _ _ _ _
 refine aB _ hf ?_
 rw[hh]
 clear hh hf s'
 refine aC ?_
 refine aZ g.rules[k].rhs.length (fun j (x:SG)=>[(1,.val (.slice (some ⟨idm,0,some verm⟩) m.length cm)),(2,.box [i64 g.cK,i64 g.start,.slice (some ⟨id,0,some ar⟩) g.rules.length c]),(5,.val (.slice (some ⟨h.length,0,some 0⟩) N N)),(7,.box [i64 g.rules[k].lhs,.slice p' g.rules[k].rhs.length c2]),(8,.val (i64 (eQ m g.rules[k].rhs))),(17,.val (.slice (some ⟨id,0,some ar⟩) g.rules.length c)),(18,.val (i64 g.rules.length)),(19,.val (i64 k)),(45,.val (.slice p' g.rules[k].rhs.length c2)),(46,.val (i64 g.rules[k].rhs.length)),(47,.val (i64 j))]) (fun _ x=>x.hk)
  (fun j x=>h <+: x.hk∧x.hk[h.length]? = some (.aA x.us 0 true 39)∧OF h x.hk h.length x.us x.ls∧x.us.length=N∧(∀ l∈x.ls,l.length≤80*k+j)∧(x.ls.length:Int)=g.cK∧∀ a b:Int,0≤a→a<g.cK→(b∈eY x.ls a↔(∃ r∈g.rules.take k,r.lhs=a∧ow (eI g) r r.rhs.length b)∨g.rules[k].lhs=a∧ow (eI g) g.rules[k] j b)) ⟨hk,us,ls⟩ aK rfl ⟨hp,ho,hl,hn,hb,hI.n,?_⟩ ?_
 ·intro a b h0 h1
  rw[hI.m a b h0 h1]
  refine⟨.inl,fun hh=>hh.elim (fun h=>h) fun h=>?_⟩
  obtain⟨_,k0,_,hlt0,_⟩:=h
  exact absurd hlt0 (Nat.not_lt_zero _)
 rintro j ⟨hk1,us1,ls1⟩ hjn ⟨hp1,ho1,hl1,hn1,hb1,hnl1,hm1⟩
 simp only at hp1 ho1 hl1 hn1 hb1 hnl1 hm1 ⊢
 by_cases hjl:j<g.rules[k].rhs.length
 ·obtain⟨id2,ver2,own2,c3,cells2,hv2,hid2,hrd2⟩:=hu'.at hjl
  cases hv2
  have e9:=cg hjl
  have e10:=inc hjl om
  have e11:=aS hjl
  have g0:=gZ hrd2 om
  simp only[List.getElem?_cons_zero] at g0
  have hmem2:g.rules[k].rhs[j]∈_:=List.getElem_mem hjl
  have hs2:=hS _ hmem2
  have hid4:=dp hp1 hid2
  have hgm3:=dp hp1 hgm
  have hbo:=sG (m:=m) hjl
  have hedge:ow (eI g) g.rules[k] (j+1) g.rules[k].rhs[j].nt↔ow (eI g) g.rules[k] (j+1) g.rules[k].rhs[j].nt:=Iff.rfl
  have hone:(0≤g.rules[k].rhs[j].nt∧(eQ m g.rules[k].rhs=0∨(eQ m g.rules[k].rhs=1∧dV m g.rules[k].rhs[j]=false)))→∀ b,ow (eI g) g.rules[k] (j+1) b↔ow (eI g) g.rules[k] j b∨b=g.rules[k].rhs[j].nt:=by
   rintro⟨h0,hB⟩ b
   have hB:=hbo.1 hB
   constructor
   ·rintro⟨k0,hk0,h1,h2,h3,h4⟩
    by_cases e:k0=j
    ·subst e
     exact .inr h3.symm
    ·exact .inl ⟨k0,hk0,by omega,h2,h3,h4⟩
   ·rintro (⟨k0,hk0,h1,h2,h3,h4⟩ | rfl)
    ·exact⟨k0,hk0,by omega,h2,h3,h4⟩
    ·exact⟨j,hjl,by omega,h0,rfl,fun y hy hne=>(vi hm (hS _ (List.getElem_mem hy)).2.1).1 (hB y hy hne)⟩
  have hnot:¬ (0≤g.rules[k].rhs[j].nt∧(eQ m g.rules[k].rhs=0∨(eQ m g.rules[k].rhs=1∧dV m g.rules[k].rhs[j]=false)))→∀ b,ow (eI g) g.rules[k] (j+1) b↔ow (eI g) g.rules[k] j b:=by
   intro hc b
   constructor
   ·rintro⟨k0,hk0,h1,h2,h3,h4⟩
    by_cases e:k0=j
    ·subst e
     exact (hc ⟨h2,hbo.2 fun y hy hne=>(vi hm (hS _ (List.getElem_mem hy)).2.1).2 (h4 y hy hne)⟩).elim
    ·exact⟨k0,hk0,by omega,h2,h3,h4⟩
   ·rintro⟨k0,hk0,h1,h2,h3,h4⟩
    exact⟨k0,hk0,by omega,h2,h3,h4⟩
  refine fi e9 hid4 hrd2 e11 ?_
  refine ae rfl ?_
  by_cases h0:0≤g.rules[k].rhs[j].nt
  ·have d0:=decide_eq_true h0
   have q3:=Ay (N:=m.length) h0 om
   have qb:=oq (m:=m) h0 om
   have hnb:dV m g.rules[k].rhs[j]=bit m g.rules[k].rhs[j].nt:=by unfold dV;rw[d0];rfl
   by_cases w1:eQ m g.rules[k].rhs=0
   ·have d1:decide ((eQ m g.rules[k].rhs:Int)=0)=true:=decide_eq_true om
    have hB:0≤g.rules[k].rhs[j].nt∧(eQ m g.rules[k].rhs=0∨(eQ m g.rules[k].rhs=1∧dV m g.rules[k].rhs[j]=false)):=⟨h0,(.inl w1)⟩
    refine kL e9 hid4 hrd2 d0 d1 ?_
    refine ae (ir d1) ?_
    refine aC ?_
    refine aB [(1,.val (.slice (some ⟨idm,0,some verm⟩) m.length cm)),(2,.box [i64 g.cK,i64 g.start,.slice (some ⟨id,0,some ar⟩) g.rules.length c]),(5,.val (.slice (some ⟨h.length,0,some 0⟩) N N)),(7,.box [i64 g.rules[k].lhs,.slice (some ⟨id2,0,some ver2⟩) g.rules[k].rhs.length c2]),(8,.val (i64 (eQ m g.rules[k].rhs))),(17,.val (.slice (some ⟨id,0,some ar⟩) g.rules.length c)),(18,.val (i64 g.rules.length)),(19,.val (i64 k)),(45,.val (.slice (some ⟨id2,0,some ver2⟩) g.rules[k].rhs.length c2)),(46,.val (i64 g.rules[k].rhs.length)),(47,.val (i64 j)),(12,.box [i64 g.rules[k].rhs[j].nt,u64 g.rules[k].rhs[j].set.a,u64 g.rules[k].rhs[j].set.b,u64 g.rules[k].rhs[j].set.c,u64 g.rules[k].rhs[j].set.d])] aK ?_
    have hA:g.rules[k].lhs.toNat<us1.length:=by omega
    obtain⟨v,hv⟩:∃ v,us1[g.rules[k].lhs.toNat]? = some v:=⟨_,List.getElem?_eq_getElem hA⟩
    have hlA:=sQ (ls:=ls1) a1 om
    have G:=hl1.g _ _ _ hv hlA
    obtain⟨pv,cv,rfl⟩:=G.form
    have hlen:(eY ls1 g.rules[k].lhs).length≤80*k+j:=hb1 _ (List.mem_of_getElem? hlA)
    obtain⟨p2,c2',h2,hone1,G2,hp2,hpr,hx2⟩:=yR (b:=g.rules[k].rhs[j].nt) G hp1 om
    have ho2:h2[h.length]? = some (.aA us1 0 true 39):=hpr _ _ (hl1.o _ _ hv) ho1
    have r1:=Ay (N:=N) a1 om
    refine oP [[],[],[1],[],[],[4],[3,5],[6],[],[8],[9],[7,10],[0,2],[0,1,2,3,4,5,6,7,8,9,10,11,12]] [11,13] [hk1,h2,h2.set h.length (.aA (us1.set g.rules[k].lhs.toNat (.slice p2 ((eY ls1 g.rules[k].lhs).length+1) c2')) 0 true 39)]
     [.sl (.val (.slice (some ⟨h.length,0,some 0⟩) N N)),.ep 7 0,.sl (.val (i64 g.rules[k].lhs)),.sl (.val (.slice (some ⟨h.length,0,some 0⟩) N N)),.ep 7 0,.sl (.val (i64 g.rules[k].lhs)),.sl (.val (.pointer (some ⟨h.length,g.rules[k].lhs.toNat,some 0⟩))),.sl (.val (.slice pv (eY ls1 g.rules[k].lhs).length cv)),
      .ep 12 0,.sl (.val (i64 g.rules[k].rhs[j].nt)),.sl (.mx [i64 g.rules[k].rhs[j].nt] 1),.sl (.val (.slice p2 ((eY ls1 g.rules[k].lhs).length+1) c2')),.sl (.val (.pointer (some ⟨h.length,g.rules[k].lhs.toNat,some 0⟩))),.sl .dH]
     [(1,.val (.slice (some ⟨idm,0,some verm⟩) m.length cm)),(2,.box [i64 g.cK,i64 g.start,.slice (some ⟨id,0,some ar⟩) g.rules.length c]),(5,.val (.slice (some ⟨h.length,0,some 0⟩) N N)),(7,.box [i64 g.rules[k].lhs,.slice (some ⟨id2,0,some ver2⟩) g.rules[k].rhs.length c2]),(8,.val (i64 (eQ m g.rules[k].rhs))),(17,.val (.slice (some ⟨id,0,some ar⟩) g.rules.length c)),(18,.val (i64 g.rules.length)),(19,.val (i64 k)),(45,.val (.slice (some ⟨id2,0,some ver2⟩) g.rules[k].rhs.length c2)),(46,.val (i64 g.rules[k].rhs.length)),(47,.val (i64 j)),(12,.box [i64 g.rules[k].rhs[j].nt,u64 g.rules[k].rhs[j].set.a,u64 g.rules[k].rhs[j].set.b,u64 g.rules[k].rhs[j].set.c,u64 g.rules[k].rhs[j].set.d])]
     [(1,.val (.slice (some ⟨idm,0,some verm⟩) m.length cm)),(2,.box [i64 g.cK,i64 g.start,.slice (some ⟨id,0,some ar⟩) g.rules.length c]),(5,.val (.slice (some ⟨h.length,0,some 0⟩) N N)),(7,.box [i64 g.rules[k].lhs,.slice (some ⟨id2,0,some ver2⟩) g.rules[k].rhs.length c2]),(8,.val (i64 (eQ m g.rules[k].rhs))),(17,.val (.slice (some ⟨id,0,some ar⟩) g.rules.length c)),(18,.val (i64 g.rules.length)),(19,.val (i64 k)),(45,.val (.slice (some ⟨id2,0,some ver2⟩) g.rules[k].rhs.length c2)),(46,.val (i64 g.rules[k].rhs.length)),(47,.val (i64 j))] _ mixed kr rfl rfl rfl rfl rfl ?_ ⟨.inl ⟨by decide,rfl⟩,.inl ⟨by decide,rfl⟩,.inl ⟨by decide,rfl⟩,.inl ⟨by decide,rfl⟩,.inl ⟨by decide,rfl⟩,.inl ⟨by decide,rfl⟩,.inl ⟨by decide,rfl⟩,.inl ⟨by decide,rfl⟩,.inl ⟨by decide,rfl⟩,.inl ⟨by decide,rfl⟩,.inl ⟨by decide,rfl⟩,trivial⟩ ?_
    ·refine tQ r1 ho1 hv Nat.mul_one ?_
     apply ay.cons
     ·rfl
     ·refine⟨?_,trivial⟩
      exact hone1 _ _ _ _ _ rfl ak rfl ak ak
     ·rfl
     refine Gc r1 Nat.mul_one ?_
     apply ay.cons
     ·rfl
     ·refine⟨?_,trivial⟩
      exact By (r:=.sl .dH) rfl ak rfl ak ak ho2 ak rfl (VN hA) rfl rfl
     ·rfl
     exact ay.nil _
    ·show CW _ _ _ _
     refine aG e10 ?_
     have hN2:=hl1.put (vs:=us1.set g.rules[k].lhs.toNat (.slice p2 ((eY ls1 g.rules[k].lhs).length+1) c2')) hv hlA (cD ho1) (l':=eY ls1 g.rules[k].lhs++[g.rules[k].rhs[j].nt]) (by rw[List.length_append] at G2 ⊢;exact G2) hpr hx2
     refine⟨hjl,⟨_,us1.set g.rules[k].lhs.toNat (.slice p2 ((eY ls1 g.rules[k].lhs).length+1) c2'),ls1.set g.rules[k].lhs.toNat (eY ls1 g.rules[k].lhs++[g.rules[k].rhs[j].nt])⟩,aK,rfl,a8 hp2 (Nat.le_refl _),aw ho2,hN2,by simp [hn1],fun l hl=>?_,by simp [hnl1],fun a b y0 y1=>?_⟩
     ·rcases List.mem_or_eq_of_mem_set hl with h|rfl
      ·have:=hb1 l h
       omega
      ·simp only[List.length_append,List.length_singleton]
       omega
     ·simp only
      rw[y7 a1 om y0]
      by_cases e:g.rules[k].lhs=a
      ·subst e
       rw[if_pos rfl,List.mem_append,hm1 _ b y0 y1,List.mem_singleton]
       simp only[true_and]
       rw[hone hB b,or_assoc]
      ·rw[if_neg e,hm1 a b y0 y1]
       simp only[e,false_and,or_false]
   ·have d1:decide ((eQ m g.rules[k].rhs:Int)=0)=false:=decide_eq_false om
    by_cases w2:eQ m g.rules[k].rhs=1
    ·have d2:decide ((eQ m g.rules[k].rhs:Int)=1)=true:=decide_eq_true om
     cases w3:bit m g.rules[k].rhs[j].nt with
     | true=>
       rw[w3] at qb hnb
       have hno:¬ (0≤g.rules[k].rhs[j].nt∧(eQ m g.rules[k].rhs=0∨(eQ m g.rules[k].rhs=1∧dV m g.rules[k].rhs[j]=false))):=fun hh=>hh.2.elim w1 fun h=>(by rw[hnb] at h;cases h.2)
       repeat (first|apply zs|apply zr|apply zn|((first|apply zx|apply zy);·simp only[push_cast,env,Nat.reduceEqDiff,reduceIte,Nat.reduceAdd,Nat.reduceMul,Nat.reduceLeDiff,reduceCtorEq,Nat.reduceSub,Int.reduceToNat,e9,hid4,hrd2,d0,d1,d2,q3,hgm3,qb,Nat.mul_one]<;>first|exact rfl|exact .inl rfl|exact .inr rfl) | apply zq|apply zb|apply zo|apply zk|apply zl)
       refine af (VW d0 d1 d2 q3 hgm3 qb Nat.mul_one) ?_
       refine aG e10 ?_
       refine⟨hjl,⟨hk1,us1,ls1⟩,aK,rfl,hp1,ho1,hl1,hn1,fun l h=>by have:=hb1 l h;omega,hnl1,fun a b y0 y1=>?_⟩
       rw[hm1 a b y0 y1,hnot hno b]
     | false=>
       rw[w3] at qb hnb
       have hB:0≤g.rules[k].rhs[j].nt∧(eQ m g.rules[k].rhs=0∨(eQ m g.rules[k].rhs=1∧dV m g.rules[k].rhs[j]=false)):=⟨h0,(.inr ⟨w2,hnb⟩)⟩
       repeat (first|apply zs|apply zr|apply zn|((first|apply zx|apply zy);·simp only[push_cast,env,Nat.reduceEqDiff,reduceIte,Nat.reduceAdd,Nat.reduceMul,Nat.reduceLeDiff,reduceCtorEq,Nat.reduceSub,Int.reduceToNat,e9,hid4,hrd2,d0,d1,d2,q3,hgm3,qb,Nat.mul_one]<;>first|exact rfl|exact .inl rfl|exact .inr rfl) | apply zq|apply zb|apply zo|apply zk|apply zl)
       refine ae (VU d1 d2 q3 hgm3 qb Nat.mul_one) ?_
       refine aC ?_
       refine aB [(1,.val (.slice (some ⟨idm,0,some verm⟩) m.length cm)),(2,.box [i64 g.cK,i64 g.start,.slice (some ⟨id,0,some ar⟩) g.rules.length c]),(5,.val (.slice (some ⟨h.length,0,some 0⟩) N N)),(7,.box [i64 g.rules[k].lhs,.slice (some ⟨id2,0,some ver2⟩) g.rules[k].rhs.length c2]),(8,.val (i64 (eQ m g.rules[k].rhs))),(17,.val (.slice (some ⟨id,0,some ar⟩) g.rules.length c)),(18,.val (i64 g.rules.length)),(19,.val (i64 k)),(45,.val (.slice (some ⟨id2,0,some ver2⟩) g.rules[k].rhs.length c2)),(46,.val (i64 g.rules[k].rhs.length)),(47,.val (i64 j)),(12,.box [i64 g.rules[k].rhs[j].nt,u64 g.rules[k].rhs[j].set.a,u64 g.rules[k].rhs[j].set.b,u64 g.rules[k].rhs[j].set.c,u64 g.rules[k].rhs[j].set.d])] aK ?_
       have hA:g.rules[k].lhs.toNat<us1.length:=by omega
       obtain⟨v,hv⟩:∃ v,us1[g.rules[k].lhs.toNat]? = some v:=⟨_,List.getElem?_eq_getElem hA⟩
       have hlA:=sQ (ls:=ls1) a1 om
       have G:=hl1.g _ _ _ hv hlA
       obtain⟨pv,cv,rfl⟩:=G.form
       have hlen:(eY ls1 g.rules[k].lhs).length≤80*k+j:=hb1 _ (List.mem_of_getElem? hlA)
       obtain⟨p2,c2',h2,hone1,G2,hp2,hpr,hx2⟩:=yR (b:=g.rules[k].rhs[j].nt) G hp1 om
       have ho2:h2[h.length]? = some (.aA us1 0 true 39):=hpr _ _ (hl1.o _ _ hv) ho1
       have r1:=Ay (N:=N) a1 om
       refine oP [[],[],[1],[],[],[4],[3,5],[6],[],[8],[9],[7,10],[0,2],[0,1,2,3,4,5,6,7,8,9,10,11,12]] [11,13] [hk1,h2,h2.set h.length (.aA (us1.set g.rules[k].lhs.toNat (.slice p2 ((eY ls1 g.rules[k].lhs).length+1) c2')) 0 true 39)]
        [.sl (.val (.slice (some ⟨h.length,0,some 0⟩) N N)),.ep 7 0,.sl (.val (i64 g.rules[k].lhs)),.sl (.val (.slice (some ⟨h.length,0,some 0⟩) N N)),.ep 7 0,.sl (.val (i64 g.rules[k].lhs)),.sl (.val (.pointer (some ⟨h.length,g.rules[k].lhs.toNat,some 0⟩))),.sl (.val (.slice pv (eY ls1 g.rules[k].lhs).length cv)),
         .ep 12 0,.sl (.val (i64 g.rules[k].rhs[j].nt)),.sl (.mx [i64 g.rules[k].rhs[j].nt] 1),.sl (.val (.slice p2 ((eY ls1 g.rules[k].lhs).length+1) c2')),.sl (.val (.pointer (some ⟨h.length,g.rules[k].lhs.toNat,some 0⟩))),.sl .dH]
        [(1,.val (.slice (some ⟨idm,0,some verm⟩) m.length cm)),(2,.box [i64 g.cK,i64 g.start,.slice (some ⟨id,0,some ar⟩) g.rules.length c]),(5,.val (.slice (some ⟨h.length,0,some 0⟩) N N)),(7,.box [i64 g.rules[k].lhs,.slice (some ⟨id2,0,some ver2⟩) g.rules[k].rhs.length c2]),(8,.val (i64 (eQ m g.rules[k].rhs))),(17,.val (.slice (some ⟨id,0,some ar⟩) g.rules.length c)),(18,.val (i64 g.rules.length)),(19,.val (i64 k)),(45,.val (.slice (some ⟨id2,0,some ver2⟩) g.rules[k].rhs.length c2)),(46,.val (i64 g.rules[k].rhs.length)),(47,.val (i64 j)),(12,.box [i64 g.rules[k].rhs[j].nt,u64 g.rules[k].rhs[j].set.a,u64 g.rules[k].rhs[j].set.b,u64 g.rules[k].rhs[j].set.c,u64 g.rules[k].rhs[j].set.d])]
        [(1,.val (.slice (some ⟨idm,0,some verm⟩) m.length cm)),(2,.box [i64 g.cK,i64 g.start,.slice (some ⟨id,0,some ar⟩) g.rules.length c]),(5,.val (.slice (some ⟨h.length,0,some 0⟩) N N)),(7,.box [i64 g.rules[k].lhs,.slice (some ⟨id2,0,some ver2⟩) g.rules[k].rhs.length c2]),(8,.val (i64 (eQ m g.rules[k].rhs))),(17,.val (.slice (some ⟨id,0,some ar⟩) g.rules.length c)),(18,.val (i64 g.rules.length)),(19,.val (i64 k)),(45,.val (.slice (some ⟨id2,0,some ver2⟩) g.rules[k].rhs.length c2)),(46,.val (i64 g.rules[k].rhs.length)),(47,.val (i64 j))] _ mixed kr rfl rfl rfl rfl rfl ?_ ⟨.inl ⟨by decide,rfl⟩,.inl ⟨by decide,rfl⟩,.inl ⟨by decide,rfl⟩,.inl ⟨by decide,rfl⟩,.inl ⟨by decide,rfl⟩,.inl ⟨by decide,rfl⟩,.inl ⟨by decide,rfl⟩,.inl ⟨by decide,rfl⟩,.inl ⟨by decide,rfl⟩,.inl ⟨by decide,rfl⟩,.inl ⟨by decide,rfl⟩,trivial⟩ ?_
       ·refine tQ r1 ho1 hv Nat.mul_one ?_
        apply ay.cons
        ·rfl
        ·refine⟨?_,trivial⟩
         exact hone1 _ _ _ _ _ rfl ak rfl ak ak
        ·rfl
        refine Gc r1 Nat.mul_one ?_
        apply ay.cons
        ·rfl
        ·refine⟨?_,trivial⟩
         exact By (r:=.sl .dH) rfl ak rfl ak ak ho2 ak rfl (VN hA) rfl rfl
        ·rfl
        exact ay.nil _
       ·show CW _ _ _ _
        refine aG e10 ?_
        have hN2:=hl1.put (vs:=us1.set g.rules[k].lhs.toNat (.slice p2 ((eY ls1 g.rules[k].lhs).length+1) c2')) hv hlA (cD ho1) (l':=eY ls1 g.rules[k].lhs++[g.rules[k].rhs[j].nt]) (by rw[List.length_append] at G2 ⊢;exact G2) hpr hx2
        refine⟨hjl,⟨_,us1.set g.rules[k].lhs.toNat (.slice p2 ((eY ls1 g.rules[k].lhs).length+1) c2'),ls1.set g.rules[k].lhs.toNat (eY ls1 g.rules[k].lhs++[g.rules[k].rhs[j].nt])⟩,aK,rfl,a8 hp2 (Nat.le_refl _),aw ho2,hN2,by simp [hn1],fun l hl=>?_,by simp [hnl1],fun a b y0 y1=>?_⟩
        ·rcases List.mem_or_eq_of_mem_set hl with h|rfl
         ·have:=hb1 l h
          omega
         ·simp only[List.length_append,List.length_singleton]
          omega
        ·simp only
         rw[y7 a1 om y0]
         by_cases e:g.rules[k].lhs=a
         ·subst e
          rw[if_pos rfl,List.mem_append,hm1 _ b y0 y1,List.mem_singleton]
          simp only[true_and]
          rw[hone hB b,or_assoc]
         ·rw[if_neg e,hm1 a b y0 y1]
          simp only[e,false_and,or_false]
    ·have d2:decide ((eQ m g.rules[k].rhs:Int)=1)=false:=decide_eq_false om
     have hno:¬ (0≤g.rules[k].rhs[j].nt∧(eQ m g.rules[k].rhs=0∨(eQ m g.rules[k].rhs=1∧dV m g.rules[k].rhs[j]=false))):=fun hh=>hh.2.elim w1 fun h=>w2 h.1
     refine DB e9 hid4 hrd2 d0 d1 d2 ?_
     refine af (KK d0 d1 d2) ?_
     refine aG e10 ?_
     refine⟨hjl,⟨hk1,us1,ls1⟩,aK,rfl,hp1,ho1,hl1,hn1,fun l h=>by have:=hb1 l h;omega,hnl1,fun a b y0 y1=>?_⟩
     rw[hm1 a b y0 y1,hnot hno b]
  ·have d0:=decide_eq_false h0
   refine fi e9 hid4 hrd2 d0 ?_
   refine af (ir d0) ?_
   refine aG e10 ?_
   refine⟨hjl,⟨hk1,us1,ls1⟩,aK,rfl,hp1,ho1,hl1,hn1,fun l h=>by have:=hb1 l h;omega,hnl1,fun a b y0 y1=>?_⟩
   rw[hm1 a b y0 y1,hnot (fun hh=>h0 hh.1) b]
 ·have e11:=aP hjl
  obtain rfl:j=g.rules[k].rhs.length:=by omega
  refine aG e11 ?_
  refine af rfl ?_
  refine az ?_
  show CW _ _ _ _
  refine aG e2 ?_
  refine⟨hlt,⟨hk1,us1,ls1⟩,aK,rfl,⟨hp1,ho1,hl1,hn1,fun l h=>by have:=hb1 l h;omega⟩,hnl1,fun a b h0 h1=>?_⟩
  rw[hm1 a b h0 h1,FC hlt]
·have e3:=aP hlt
 obtain rfl:k=g.rules.length:=by omega
 refine aG e3 ?_
 refine af rfl ?_
 refine az ?_
 show CW _ _ _ _
 refine aC ?_
 refine ai ?_
 refine⟨_,ak,⟨us,ls,by rw[hn];rfl,ho,hl,hI,fun l h=>by have:=hb l h;omega⟩,hp⟩}
end Go.Proofs.YtmdmimkbpikmoaaGreat
