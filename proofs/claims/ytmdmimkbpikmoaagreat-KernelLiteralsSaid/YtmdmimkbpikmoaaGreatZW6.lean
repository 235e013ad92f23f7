/- Several texts, one behind the other. -/
import Derived.Test.YtmdmimkbpikmoaaGreatZV3
import Derived.Test.YtmdmimkbpikmoaaGreatZG5
import Derived.Sort.Statements
import Derived.Test.YtmdmimkbpikmoaaGreatZFa
import Derived.Sort.LotA
import Derived.Sort.LotC
import Derived.Sort.LotD2
set_option linter.unusedSimpArgs false
set_option linter.unusedVariables false
set_option maxHeartbeats 8000000
namespace Go.Proofs.YtmdmimkbpikmoaaGreat
set_option maxRecDepth 20000
open Go.RowKit Am Ty
abbrev bd.val (s:bd):Value:=.agg #[i64 s.nt,u64 s.set.a,u64 s.set.b,u64 s.set.c,u64 s.set.d]
section
variable {h:ah}
theorem tQ {s:Sym}:FW env 92 [s.val] h fun r h'=>r = .bool (ik s)∧h'=h:=by{
refine fe Tryz.func92 ?_;simp only[push_cast]
by_cases q:s.kind=5
·have d1:=decide_eq_true q
 refine aG d1 ?_
 refine ai ?_
 exact⟨_,ak,by unfold ik;rw[d1];rfl,rfl⟩
·have d1:=decide_eq_false q
 refine aG d1 ?_
 refine ai ?_
 exact⟨_,ak,by unfold ik;rw[d1];rfl,rfl⟩}
theorem wH {p:Prod} {u:Value} {s:Sym} (hy:fV h u p.al):FW env 93 [p.val u,s.val] h fun r h'=>r=(iq p.lex s).val∧h'=h:=by{
obtain⟨ps,cs,rfl⟩:=bW.form hy
refine fe Tryz.func93 ?_;simp only[push_cast]
refine aB ?_
refine ai ?_
exact⟨_,ak,rfl,rfl⟩}
theorem lN {n:Int}:FW env 99 [i64 n] h fun r h'=>r=(dN n).val∧h'=h:=by{
refine fe Tryz.func99 ?_;simp only[push_cast]
refine aB ?_
refine ai ?_
exact⟨_,ak,rfl,rfl⟩}
theorem DN {p:Prod} {u:Value} (hy:fV h u p.al) (ho:fU p.al≤4):FW env 95 [p.val u] h fun r h'=>r=i64 (jy p:Int)∧h'=h:=by{
obtain⟨ps,cs,rfl⟩:=bW.form hy
have hle:p.al.length*88≤140737488355328:=hy.1
have hl:p.al.length≤140737488355328:=by omega
have z0:(2:Int) ^ fU []=1:=rfl
refine fe Tryz.func95 ?_;simp only[push_cast]
refine aB ?_
refine df p.al.length (fun k=>[(3,.val (i64 ((2:Int) ^ fU (p.al.take k)))),(7,.val (.slice ps p.al.length cs)),(8,.val (i64 p.al.length)),(9,.val (i64 k))]) (fun _=>h) (fun _=>True) (lF z0) rfl trivial ?_
intro k hkn _
by_cases hlt:k<p.al.length
·obtain⟨id,au,own,c',hv,hid⟩:=bW.at hy om
 cases hv
 have hg:=gV hlt
 have e1:=cH hlt
 have e2:=inc hlt hl
 have e3:=aV hlt
 have s2:fU (p.al.take (k+1))=fU (p.al.take k)+(if dW p.al[k]=true then 1 else 0):=oc hlt
 have b2:fU (p.al.take (k+1))≤fU p.al:=qd
 refine aG e3 ?_
 refine af rfl ?_
 have tl:dW p.al[k]=(decide (p.al[k].kind=4)||decide (p.al[k].kind=5)):=rfl
 cases hL:dW p.al[k] with
 | true=>
   rw[if_pos hL] at s2
   have w0:IntKind.i64.wrap ((2:Int) ^ fU (p.al.take k)*2)=(2:Int) ^ fU (p.al.take (k+1)):=by
    rw[s2,Int.pow_succ]
    generalize ho2:fU (p.al.take k)=o at *
    have:o=0∨o=1∨o=2∨o=3:=by omega
    rcases this with rfl|rfl|rfl|rfl<;>decide
   by_cases q1:p.al[k].kind=4
   ·have d1:=decide_eq_true q1
    refine fN e1 hid hg d1 ?_
    refine af rfl ?_
    refine fM w0 e2 ?_
    exact⟨hlt,aO,rfl,trivial⟩
   ·have d1:=decide_eq_false q1
    have d2:decide (p.al[k].kind=5)=true:=by rw[hL,d1,Bool.false_or] at tl;exact tl.symm
    refine ox e1 hid hg d1 d2 ?_
    refine af rfl ?_
    refine fM w0 e2 ?_
    exact⟨hlt,aO,rfl,trivial⟩
 | false=>
   rw[if_neg (by rw[hL];decide),Nat.add_zero] at s2
   rw[hL] at tl
   have d1:decide (p.al[k].kind=4)=false:=by cases e:decide (p.al[k].kind=4)<;>simp [e] at tl ⊢
   have d2:decide (p.al[k].kind=5)=false:=by rw[d1,Bool.false_or] at tl;exact tl.symm
   refine ox e1 hid hg d1 d2 ?_
   refine ae rfl ?_
   refine aG e2 ?_
   exact⟨hlt,(lF s2),rfl,trivial⟩
·have e3:=aT hlt
 obtain rfl:k=p.al.length:=by omega
 refine aG e3 ?_
 refine ae rfl ?_
 refine aC ?_
 show CW _ _ _ _
 refine aB ?_
 refine ai ?_
 refine⟨_,ak,?_,rfl⟩
 rw[List.take_length]
 unfold jy
 rw[Int.natCast_pow]
 rfl}
theorem Nm {v:Value} {x:Nat} (hs:bW h v 1 [.int .u8 (x:Int)] 5 1) (hx:x<256):FW env 142 [v] h fun r h'=>r=(fX x).val∧h'=h:=by{
obtain⟨id,au,own,c,rfl,hid⟩:=hs.at (by decide)
refine fe Tryz.func142 ?_;simp only[push_cast]
obtain⟨n,hn⟩:∃ n:Nat,n=1:=⟨1,rfl⟩
refine aB ?_
refine df n (fun k=>[(2,.box [u64 0,u64 0,u64 0,u64 0]),(3,.box (if k=0 then [u64 0,u64 0,u64 0,u64 0] else [u64 (fX x).a,u64 (fX x).b,u64 (fX x).c,u64 (fX x).d])),(6,.val (.slice (some ⟨id,0,some au⟩) n c)),(7,.val (i64 n)),(8,.val (i64 k))]) (fun _=>h) (fun _=>True) (by rw[hn];exact (by simp only[push_cast,Nat.reduceEqDiff,reduceIte,Int.reduceAdd])) rfl trivial ?_
intro k hkn _
by_cases hlt:k<n
·obtain rfl:k=0:=by omega
 have e1:((0:Int)≤0∧(0:Int)<(n:Int))=True:=eq_true om
 have e1':((0:Int)<(n:Int))=True:=eq_true om
 have e3:decide ((0:Int)<(n:Int))=true:=decide_eq_true om
 refine aG e3 ?_
 refine af rfl ?_
 repeat (first|apply zs|apply zr|apply zn|((first|apply zx|apply zy);·simp only[push_cast,env,Nat.reduceEqDiff,reduceIte,Nat.reduceAdd,Nat.reduceMul,Nat.reduceLeDiff,reduceCtorEq,Nat.reduceSub,Int.reduceToNat,e1,e1',hid,Nat.mul_one,List.getElem?_cons_zero]<;>first|exact rfl|exact .inl rfl|exact .inr rfl) | apply zq|apply zb|apply zo|apply zk|apply zl)
 obtain⟨m,hm⟩:∃ m,m=x % 64:=⟨_,rfl⟩
 have hm64:m<64:=by omega
 have hmod:(x:Int).tmod 64=(m:Int):=by rw[Int.tmod_eq_emod_of_nonneg om];omega
 have hw4:∀ m:Fin 64,IntKind.u64.wrap ((BitVec.ofInt IntKind.u64.bits 0 ||| BitVec.ofInt IntKind.u64.bits (IntKind.u64.wrap (1*2 ^ min (m.1:Int).toNat IntKind.u64.bits))).toNat:Int)=(2:Int) ^ m.1:=by decide
 have hw4:=hw4 ⟨m,hm64⟩
 simp only[Int.toNat_natCast] at hw4
 have hw5:IntKind.i64.wrap 1=1:=by decide
 rcases (by omega:x / 64=0∨x / 64=1∨x / 64=2∨x / 64=3) with hq|hq|hq|hq
 ·have hw1:IntKind.u8.wrap ((x:Int).tdiv 64)=0:=by rw[Int.tdiv_eq_ediv_of_nonneg om,IntKind.wrap_u8];omega
  have hb:fX x=⟨2 ^ m,0,0,0⟩:=by unfold fX;rw[hq,hm];simp
  refine aG hw1 ?_
  refine⟨hlt,?_,rfl,trivial⟩
  show bB [_,(3,.box (if 0+1=0 then _ else _)),_,_,_] _
  rw[if_neg (by decide),hb]
  exact (by simp only[push_cast,Nat.reduceEqDiff,reduceIte,hmod,hw4,hw5,Int.reduceAdd])
 ·have hw1:IntKind.u8.wrap ((x:Int).tdiv 64)=1:=by rw[Int.tdiv_eq_ediv_of_nonneg om,IntKind.wrap_u8];omega
  have hb:fX x=⟨0,2 ^ m,0,0⟩:=by unfold fX;rw[hq,hm];simp
  refine aG hw1 ?_
  refine⟨hlt,?_,rfl,trivial⟩
  show bB [_,(3,.box (if 0+1=0 then _ else _)),_,_,_] _
  rw[if_neg (by decide),hb]
  exact (by simp only[push_cast,Nat.reduceEqDiff,reduceIte,hmod,hw4,hw5,Int.reduceAdd])
 ·have hw1:IntKind.u8.wrap ((x:Int).tdiv 64)=2:=by rw[Int.tdiv_eq_ediv_of_nonneg om,IntKind.wrap_u8];omega
  have hb:fX x=⟨0,0,2 ^ m,0⟩:=by unfold fX;rw[hq,hm];simp
  refine aG hw1 ?_
  refine⟨hlt,?_,rfl,trivial⟩
  show bB [_,(3,.box (if 0+1=0 then _ else _)),_,_,_] _
  rw[if_neg (by decide),hb]
  exact (by simp only[push_cast,Nat.reduceEqDiff,reduceIte,hmod,hw4,hw5,Int.reduceAdd])
 ·have hw1:IntKind.u8.wrap ((x:Int).tdiv 64)=3:=by rw[Int.tdiv_eq_ediv_of_nonneg om,IntKind.wrap_u8];omega
  have hb:fX x=⟨0,0,0,2 ^ m⟩:=by unfold fX;rw[hq,hm];simp
  refine aG hw1 ?_
  refine⟨hlt,?_,rfl,trivial⟩
  show bB [_,(3,.box (if 0+1=0 then _ else _)),_,_,_] _
  rw[if_neg (by decide),hb]
  exact (by simp only[push_cast,Nat.reduceEqDiff,reduceIte,hmod,hw4,hw5,Int.reduceAdd])
·have e3:=aT hlt
 obtain rfl:k=n:=by omega
 have k0:(k=0)=False:=by simp;omega
 refine aG e3 ?_
 refine ae rfl ?_
 refine aC ?_
 show CW _ _ _ _
 rw[if_neg om]
 refine aB ?_
 refine ai ?_
 exact⟨_,ak,rfl,rfl⟩}
def sI (t:ByteArray) (k:Nat):List bd:=(List.range k).map fun i=>⟨-1,fX (bn t i)⟩
theorem BS {t:ByteArray} {k:Nat}:sI t (k+1)=sI t k++[⟨-1,fX (bn t k)⟩]:=by{
unfold sI
rw[List.range_succ,List.map_append]
rfl}
theorem wu {t:ByteArray} {k:Nat}:(sI t k).length=k:=by simp [sI]
theorem kb {l:List bd}:(l.flatMap bd.cells).length=l.length*5:=dv (f:=bd.cells) (k:=5) (fun _=>rfl) l
theorem E9 {t:ByteArray} (ht:t.size≤1000000):FW env 101 [.string t] h fun r h'=>h <+: h'∧aK h h' r (fu t).length ((fu t).flatMap bd.cells) 65:=by{
have z0:sI t 0=[]:=rfl
refine fe Tryz.func101 ?_;simp only[push_cast]
refine aB ?_
refine a9 t.size (fun k (x:ah×Option Addr×Nat)=>[(0,.val (.string t)),(3,.val (.slice x.2.1 k x.2.2)),(6,.val (i64 t.size)),(7,.val (i64 k))]) (fun _ x=>x.1)
 (fun k x=>h <+: x.1∧aK h x.1 (.slice x.2.1 k x.2.2) k ((sI t k).flatMap bd.cells) 65) (h,none,0) aO rfl ⟨List.prefix_refl _,aK.nil⟩ ?_
rintro k ⟨hk,q,cq⟩ hkn ⟨hp,hG⟩
simp only at hp hG ⊢
by_cases hlt:k<t.size
·have e1:=cH hlt
 have e2:=inc hlt om
 have e3:=aV hlt
 obtain⟨c,hc,hcn⟩:=kD hlt
 have hcl:bn t k<256:=hcn▸c.toNat_lt
 refine aG e3 ?_
 refine af rfl ?_
 refine zu ?_
 iterate 2 (refine zx pR ?_)
 refine zu ?_
 iterate 4 (refine zx (MU e1 hc hcn) ?_)
 refine cz (t:=5) (cs:=[.int .u8 (bn t k:Int)]) (n:=1) ak ak ?_
 dsimp only[St.aX,St.put]
 have hp2:hk <+: hk++[av.aj [.int .u8 (bn t k:Int)] 0 true 5]:=aI
 have hb2:bW (hk++[av.aj [.int .u8 (bn t k:Int)] 0 true 5]) (.slice (some ⟨hk.length,0,some 0⟩) 1 1) 1 [.int .u8 (bn t k:Int)] 5 1:=⟨by decide,.inr ⟨hk.length,0,true,1,rfl,aJ⟩⟩
 have hG2:aK h (hk++[av.aj [.int .u8 (bn t k:Int)] 0 true 5]) (.slice q k cq) k ((sI t k).flatMap bd.cells) 65:=hG.mono fun j o _ ho=>bo ho
 generalize (hk++[av.aj [.int .u8 (bn t k:Int)] 0 true 5])=h2 at hp2 hb2 hG2 ⊢
 generalize hk.length=i2 at hb2 ⊢
 refine aB ?_
 refine zj Tryz.func142 ?_
 refine (Nm hb2 hcl).mono ?_
 rintro _ h3 ⟨rfl,e7⟩
 obtain rfl:=e7.symm
 refine aB ?_
 refine lf (t:=61) (cs:=bd.cells ⟨-1,fX (bn t k)⟩) ak rfl kr vW (by decide) rfl ak rfl hG2 (hp.trans hp2) (by rw[kb,wu]) rfl (by simp only;omega) om ?_
 intro p' c' h' k1 k2 _ _
 refine aG e2 ?_
 refine⟨hlt,(h',p',c'),aO,rfl,k2,?_⟩
 rw[BS,List.flatMap_append,List.flatMap_singleton]
 exact k1
·have e3:=aT hlt
 obtain rfl:k=t.size:=by omega
 refine aG e3 ?_
 refine ae rfl ?_
 refine aC ?_
 show CW _ _ _ _
 refine aB ?_
 refine ai ?_
 refine⟨_,ak,hp,?_⟩
 show aK _ _ _ (sI t t.size).length ((sI t t.size).flatMap bd.cells) _
 rw[wu]
 exact hG}
end
def rO (ts:List TypeId):av→Bool
 | .aj _ _ true et=>!(ts.any fun t=>decide (t=et))
 | _=>true
def cd (ts:List TypeId) (a b:ah):Prop:=∀ (j:Nat) (o:av),a[j]? = some o→rO ts o=true→b[j]? = some o
section
variable {ts ts':List TypeId} {a b c h0 hk h':ah}
theorem cd.refl:cd ts a a:=fun _ _ k _=>k
theorem cd.trans (k1:cd ts a b) (k2:cd ts b c):cd ts a c:=fun j o e q=>k2 j o (k1 j o e q) q
theorem cd.pre (k:a <+: b):cd ts a b:=fun j o e _=>ag k e
theorem cd.low (k:cd ts a b) (h:∀ t∈ts,t∈ts'):cd ts' a b:=fun j o e q=>k j o e (by
 cases o with
 | aj cells au own et=>
   cases own with
   | false=>rfl
   | true=>
     simp only[rO,Bool.not_eq_true',List.any_eq_false,decide_eq_true_eq] at q ⊢
     exact fun t ht=>q t (h t ht)
 | _=>rfl)
theorem dG {cells:List Value} {au:Nat} {own:Bool} {et:TypeId} (h:et∉ts):rO ts (.aj cells au own et)=true:=by{
cases own with
| false=>rfl
| true=>
  simp only[rO,Bool.not_eq_true',List.any_eq_false,decide_eq_true_eq]
  exact fun t ht e=>h (e▸ht)}
theorem aK.ed {v:Value} {n:Nat} {cells:List Value} {et:TypeId} (G:aK h0 a v n cells et) (k:cd ts a b) (h:et∉ts):aK h0 b v n cells et:=by{
rcases G with G|⟨id,au,h1,h2,h3⟩
·exact .inl G
·exact .inr ⟨id,au,h1,h2,k _ _ h3 (dG h)⟩}
theorem cd.push {v:Value} {n:Nat} {cells:List Value} {et:TypeId} (G:aK h0 a v n cells et) (k:∀ j o,bX v j=false→a[j]? = some o→b[j]? = some o):cd [et] a b:=fun j o e q=>k j o (by
 cases hb:bX v j with
 | false=>rfl
 | true=>
   obtain⟨au,h5⟩:=G.obj hb
   rw[e] at h5
   cases h5
   simp [rO] at q) e
theorem cd.set {i au:Nat} {cells:List Value} {et:TypeId} {x:av} (h:a[i]? = some (.aj cells au true et)):cd [et] a (a.set i x):=fun j o e q=>by
 by_cases hij:i=j
 ·subst hij
  rw[h] at e
  cases e
  simp [rO] at q
 ·rw[aD hij];exact e
def gh {α:Type} (f:α→Value→List Value) (g:α→List Value) (w:Nat) (et et2:TypeId) (h0 hk:ah) (v:Value) (l:List α):Prop:=
 ∃ us:List Value,us.length=l.length∧aK h0 hk v l.length ((l.zip us).flatMap fun p=>f p.1 p.2) et∧∀ (i:Nat) (x:α) (u:Value),l[i]? = some x→us[i]? = some u→∃ n,(g x).length=n*w∧aK h0 hk u n (g x) et2
variable {α:Type} {f:α→Value→List Value} {g:α→List Value} {w:Nat} {et et2:TypeId} {v:Value} {l:List α}
theorem gh.nil:gh f g w et et2 h0 hk bD []:=⟨[],rfl,aK.nil,fun i x u h=>by simp at h⟩
theorem gh.form (k:gh f g w et et2 h0 hk v l):∃ p c,v = .slice p l.length c:=by obtain⟨_,_,G,_⟩:=k;exact G.form
theorem gh.ed (k:gh f g w et et2 h0 a v l) (hk:cd ts a b) (h1:et∉ts) (h2:et2∉ts):gh f g w et et2 h0 b v l:=by{
obtain⟨us,hl,G,hu⟩:=k
refine⟨us,hl,G.ed hk h1,fun i x u k1 k2=>?_⟩
obtain⟨n,e,g'⟩:=hu i x u k1 k2
exact⟨n,e,g'.ed hk h2⟩}
end
abbrev TE:dt→Value→List Value:=fun r u=>[i64 r.lhs,u]
abbrev Tu:dt→List Value:=fun r=>r.rhs.flatMap bd.cells
abbrev Tw:gD→Value→List Value:=fun o u=>[i64 o.kind,i64 o.prod,i64 o.mask,u]
abbrev Rb:gD→List Value:=fun o=>o.al.map i64
def tZ:=gh TE Tu 5 63 65
def yw:=gh Tw Rb 1 67 3
structure MK where
 start:ByteArray
 layout:ByteArray
 vP:Value
 vC:Value
 Mm:Value
 Ml:Value
 vB:Value
 fk:Int
 st:Int
 vr:Value
 vf:Value
 vn:Value
 vb:Value
 vF:Value
 vR:Value
 is:Nat
 il:Nat
 vo:Value
 lL:Int
def MK.cells (m:MK):List Value:=[.string m.start,.string m.layout,m.vP,m.vC,m.Mm,m.Ml,m.vB,i64 m.fk,i64 m.st,m.vr,m.vf,m.vn,m.vb,m.vF,m.vR,.map (some m.is),.map (some m.il),m.vo,i64 m.lL]
structure MR (h0 hk:ah) (im:Nat) (m:MK) (l:List (dt×gD)):Prop where
 p:h0 <+: hk
 lm:h0.length≤im
 o:hk[im]? = some (.aj m.cells 0 true 94)
 r:tZ h0 hk m.vr (l.map (·.1))
 f:yw h0 hk m.vf (l.map (·.2))
abbrev Hl:List TypeId:=[63,67,94]
section
variable {h0 hk:ah} {im:Nat} {m:MK} {l:List (dt×gD)}
theorem BT {α β:Type} {l:List α} {W:List β} (h:W.length=l.length) {x:α} {u:β}:(l++[x]).zip (W++[u])=l.zip W++[(x,u)]:=by
 rw[List.zip_append h.symm]
 rfl
theorem gh.push {α:Type} {f:α→Value→List Value} {g:α→List Value} {w:Nat} {et et2:TypeId} {h0 a b:ah} {v' u:Value} {l:List α} {x:α} {us:List Value} {n:Nat} (hl:us.length=l.length) (hu:∀ (i:Nat) (x:α) (u:Value),l[i]? = some x→us[i]? = some u→∃ n,(g x).length=n*w∧aK h0 a u n (g x) et2) (hk:cd [et] a b) (hne:et2≠et) (hG:aK h0 b v' (l.length+1) (((l.zip us).flatMap fun p=>f p.1 p.2)++f x u) et) (hn:(g x).length=n*w) (hx:aK h0 a u n (g x) et2):gh f g w et et2 h0 b v' (l++[x]):=by{
have hnm:et2∉[et]:=by simpa using hne
refine⟨us++[u],by simp [hl],?_,fun i y z k1 k2=>?_⟩
·rw[BT hl,List.flatMap_append,List.flatMap_singleton,List.length_append]
 exact hG
·rcases Nat.lt_trichotomy i l.length with h|h|h
 ·rw[List.getElem?_append_left h] at k1
  rw[List.getElem?_append_left om] at k2
  obtain⟨n',e,g'⟩:=hu i y z k1 k2
  exact⟨n',e,g'.ed hk hnm⟩
 ·subst h
  rw[List.getElem?_append_right (Nat.le_refl _),Nat.sub_self] at k1
  rw[List.getElem?_append_right om,hl,Nat.sub_self] at k2
  cases k1
  cases k2
  exact⟨n,hn,hx.ed hk hnm⟩
 ·have:=(List.getElem?_eq_some_iff.1 k1).1
  simp at this
  omega}
end
section
variable {h0 hk:ah} {im:Nat} {m:MK} {l:List (dt×gD)}
theorem tq {α:Type} {f:α→Value→List Value} {k:Nat} (hf:∀ x u,(f x u).length=k) {l:List α} {us:List Value} (h:us.length=l.length):((l.zip us).flatMap fun p=>f p.1 p.2).length=l.length*k:=by
 rw[dv (f:=fun p:α×Value=>f p.1 p.2) (k:=k) (fun _=>hf _ _),List.length_zip,h,Nat.min_self]
theorem jX (M:MR h0 hk im m l) {lhs kd pr mk:Int} {ur uo:Value} {rhs:List bd} {os:List Int} (hr:aK h0 hk ur rhs.length (rhs.flatMap bd.cells) 65) (ho:aK h0 hk uo os.length (os.map i64) 3) (hl:l.length≤1000000) : FW env 98 [.pointer (some ⟨im,0,some 0⟩),i64 lhs,ur,.agg #[i64 kd,i64 pr,i64 mk,uo]] hk fun r h'=>r = .tuple #[]∧∃ vr' vf',MR h0 h' im { m with vr:=vr',vf:=vf' } (l++[(⟨lhs,rhs⟩,⟨kd,pr,mk,os⟩)])∧cd Hl hk h':=by{
have hob:=M.o
obtain⟨us1,hn1,hG1,hu1⟩:=M.r
obtain⟨us2,hn2,hG2,hu2⟩:=M.f
have ll1:(l.map (·.1)).length=l.length:=List.length_map ..
have ll2:(l.map (·.2)).length=l.length:=List.length_map ..
have hc1:=tq (f:=TE) (k:=2) (fun _ _=>rfl) hn1
have hc2:=tq (f:=Tw) (k:=4) (fun _ _=>rfl) hn2
obtain⟨pu,cu,rfl⟩:=hr.form
obtain⟨po,co,rfl⟩:=ho.form
unfold MK.cells at hob
refine fe Tryz.func98 ?_;simp only[push_cast]
refine aG hob ?_
refine kW (t:=32) (cs:=[i64 lhs,.slice pu rhs.length cu]) ak rfl kr MW (by decide) rfl ak rfl hG1 M.p hc1 rfl (by simp only;omega) om ?_
intro p1 c1 h2 k1 k2 k3 _
have kp1:cd [63] hk h2:=cd.push hG1 k3
have hob2:=kp1 _ _ hob (dG (by decide))
refine aG hob2 ?_
refine ch (v:=.slice p1 ((l.map (·.1)).length+1) c1) (vs:=[.slice p1 ((l.map (·.1)).length+1) c1]) (cells':=MK.cells { m with vr:=.slice p1 ((l.map (·.1)).length+1) c1 }) ak rfl rfl rfl ak hob2 ak rfl rfl ?_
dsimp only
have kp2:cd [94] h2 (h2.set im (.aj (MK.cells { m with vr:=.slice p1 ((l.map (·.1)).length+1) c1 }) 0 true 94)):=cd.set hob2
have hob3:(h2.set im (.aj (MK.cells { m with vr:=.slice p1 ((l.map (·.1)).length+1) c1 }) 0 true 94))[im]? = some (.aj (MK.cells { m with vr:=.slice p1 ((l.map (·.1)).length+1) c1 }) 0 true 94):=aw hob2
have hp3:h0 <+: h2.set im (.aj (MK.cells { m with vr:=.slice p1 ((l.map (·.1)).length+1) c1 }) 0 true 94):=aY k2 M.lm
generalize (h2.set im (.aj (MK.cells { m with vr:=.slice p1 ((l.map (·.1)).length+1) c1 }) 0 true 94))=h3 at kp2 hob3 hp3 ⊢
have R1:tZ h0 h2 (.slice p1 ((l.map (·.1)).length+1) c1) (l.map (·.1)++[⟨lhs,rhs⟩]):=gh.push (x:=(⟨lhs,rhs⟩:dt)) hn1 hu1 kp1 (by decide) k1 kb hr
have R3:=R1.ed kp2 (by decide) (by decide)
have kp13:cd [63,94] hk h3:=(kp1.low (by simp)).trans (kp2.low (by simp))
have hG23:=hG2.ed kp13 (by decide)
have ho3:=ho.ed kp13 (by decide)
have hu23:∀ (i:Nat) (x:gD) (u:Value),(l.map (·.2))[i]? = some x→us2[i]? = some u→∃ n,(Rb x).length=n*1∧aK h0 h3 u n (Rb x) 3:=fun i x u a b=>by
 obtain⟨n,e,g⟩:=hu2 i x u a b
 exact⟨n,e,g.ed kp13 (by decide)⟩
obtain⟨p2,c2,h4,hone,k4,k5,k6,_,_⟩:=gN (cs:=[i64 kd,i64 pr,i64 mk,.slice po os.length co]) (t:=35) kr QZ (by decide) rfl hG23 hp3 hc2 rfl (by simp only;omega) om
have kp4:cd [67] h3 h4:=cd.push hG23 k6
have hob4:=kp4 _ _ hob3 (dG (by decide))
obtain⟨vr1,hvr1⟩:∃ v,v=Value.slice p1 ((l.map (·.1)).length+1) c1:=⟨_,rfl⟩
rw[← hvr1] at hob3 hob4 R3
unfold MK.cells at hob3 hob4
simp only at hob3 hob4
refine aB ?_
refine aA [(0,.val (.pointer (some ⟨im,0,some 0⟩))),(7,.box [i64 kd,i64 pr,i64 mk,.slice po os.length co])] aO ?_
show CW _ _ ⟨_,[],h3⟩ _
apply bi (L:=[[],[],[1],[2],[3],[4],[],[6],[5,7],[0],[9],[10],[0,1,2,3,4,5,6,7,8,11]]) (act:=[8,12]) (hs:=[h4,h4.set im (.aj (MK.cells { m with vr:=vr1,vf:=.slice p2 ((l.map (·.2)).length+1) c2 }) 0 true 94)]) (resL:=[_,_,_,_,_,_,_,_,_,_,_,_,_]) (frF:=[(0,.val (.pointer (some ⟨im,0,some 0⟩)))])
case hm=>exact mixed
case hc=>kernel_rfl
case ha=>rfl
case hb=>rfl
case hS=>
 refine FO hob3 hob4 ?_
 apply az.cons
 ·rfl
 ·refine⟨?_,trivial⟩
  exact hone _ _ _ _ _ rfl ak rfl ak ak
 ·rfl
 refine FO hob3 hob4 ?_
 apply az.cons
 ·rfl
 ·refine⟨?_,trivial⟩
  exact One.jn (r:=.sl .dy) (cells':=MK.cells { m with vr:=vr1,vf:=.slice p2 ((l.map (·.2)).length+1) c2 }) ak rfl ak ak hob4 ak rfl rfl rfl
 ·rfl
 exact az.nil _
case ht=>rfl
case hF=>exact zh
have kp5:cd [94] h4 (h4.set im (.aj (MK.cells { m with vr:=vr1,vf:=.slice p2 ((l.map (·.2)).length+1) c2 }) 0 true 94)):=cd.set hob4
have F1:yw h0 h4 (.slice p2 ((l.map (·.2)).length+1) c2) (l.map (·.2)++[⟨kd,pr,mk,os⟩]):=gh.push (x:=(⟨kd,pr,mk,os⟩:gD)) hn2 hu23 kp4 (by decide) k4 (by simp) ho3
have hfin:cd Hl hk (h4.set im (.aj (MK.cells { m with vr:=vr1,vf:=.slice p2 ((l.map (·.2)).length+1) c2 }) 0 true 94)):=((kp13.low (by simp)).trans (kp4.low (by simp))).trans (kp5.low (by simp))
refine⟨_,ak,rfl,vr1,.slice p2 ((l.map (·.2)).length+1) c2,⟨aY k5 M.lm,M.lm,aw hob4,?_,?_⟩,hfin⟩
·rw[List.map_append]
 exact (R3.ed kp4 (by decide) (by decide)).ed kp5 (by decide) (by decide)
·rw[List.map_append]
 exact F1.ed kp5 (by decide) (by decide)}
end
def kE (l:List (bI×Int)):List (Value×Value):=l.map fun p=>(p.1.val,i64 p.2)
def oP:List (bI×Int)→bI→Option Int
 | [],_=>none
 | (k,v) :: r,x=>if x=k then some v else oP r x
theorem AG (x y:bI):oU x.val y.val=decide (x=y):=by{
cases x with|mk a b c d=>cases y with|mk a' b' c' d'=>
cases c with|mk c1 c2 c3 c4=>cases c' with|mk e1 e2 e3 e4=>
simp only[oU,jk,mw,Bool.and_true,bI.mk.injEq,aZ.mk.injEq,Bool.decide_and,Bool.and_assoc]}
theorem CJ (x:bI):∀ l,gj (kE l) x.val=(oP l x).map i64
 | []=>rfl
 | (k,v) :: r=>by
   have ih:=CJ x r
   unfold kE at ih ⊢
   simp only[List.map_cons,gj,oP,AG,decide_eq_true_eq]
   split
   ·rfl
   ·exact ih
theorem DV (x:bI) (v:Int):∀ l,oP l x=none→iE (kE l) x.val (i64 v)=kE (l++[(x,v)])
 | [],_=>rfl
 | (k,u) :: r,h=>by
   unfold oP at h
   have hne:¬ x=k:=fun e=>by rw[if_pos e] at h;cases h
   rw[if_neg hne] at h
   have ih:=DV x v r h
   unfold kE at ih ⊢
   simp only[List.map_cons,iE,AG,decide_eq_true_eq,List.cons_append]
   rw[if_neg hne,ih]
theorem qf (l:List (bI×Int)):ei (xX ku) (kE l)=true:=by{
unfold ei kE
rw[List.all_map,List.all_eq_true]
intro x _
rfl}
@[push_cast] theorem QC:jg 154=some (xX ku):=rfl
@[push_cast] theorem uH (k:bI):xX ku k.val=true:=rfl
attribute [push_cast] qf
theorem nY {all:Array Oper} {o:Oper} {s:St} {h:ah} {n:Nat} {t:TypeId} {cs:List Value} (hh:s.h=h) (hw:aE all o s=some true) (hb:ja env s o.op=some (t,cs,n)):One env all o s (.sl (.val (.slice (some ⟨h.length,0,some 0⟩) n n))) (h++[av.aj cs 0 true t]):=hh▸.CZ hw hb
structure MS (hk:ah) (m:MK) (d:b7) (es:List (ByteArray×Int)) (ks:List (bI×Int)):Prop where
 sm:hk[m.is]? = some (.map (fz es))
 sg:∀ x∈aF d.aa,gj (fz es) (.string x)=some (i64 (fZ d x:Int))
 lm:hk[m.il]? = some (.map (kE ks))
 lg:∀ k∈bj d.aa,gj (kE ks) k.val=some (i64 (my d k:Int))
 gp:m.lL=bP d
theorem MS.ed {a b:ah} {m:MK} {d:b7} {es:List (ByteArray×Int)} {ks:List (bI×Int)} {ts:List TypeId} (M:MS a m d es ks) (k:cd ts a b):MS b m d es ks:=⟨k _ _ M.sm rfl,M.sg,k _ _ M.lm rfl,M.lg,M.gp⟩
section
variable {h0 hk:ah} {im:Nat} {m:MK} {d:b7} {es:List (ByteArray×Int)} {ks:List (bI×Int)}
theorem xY {name:ByteArray} {set:aZ} (ho:hk[im]? = some (.aj m.cells 0 true 94)) (M:MS hk m d es ks) (hn:cN name=true∨name∈aF d.aa) : FW env 97 [.pointer (some ⟨im,0,some 0⟩),.string name,set.val] hk fun r h'=>r=(mZ d name set).val∧h'=hk:=by{
unfold MK.cells at ho
have hsm:=M.sm
have hkk:=bm es
refine fe Tryz.func97 ?_;simp only[push_cast]
by_cases q:name=⟨#[]⟩
·have d1:=decide_eq_true q
 refine aG d1 ?_
 refine ae rfl ?_
 refine aB ?_
 refine ai ?_
 exact⟨_,ak,by unfold mZ cN;rw[if_pos d1];rfl,rfl⟩
·have d1:=decide_eq_false q
 have hmem:name∈aF d.aa:=hn.resolve_left (by unfold cN;rw[d1];decide)
 have hg:=M.sg name hmem
 refine aG d1 ?_
 refine af rfl ?_
 refine fN ho hsm hg hkk ?_
 refine zj Tryz.func99 ?_
 refine lN.mono ?_
 rintro _ h1 ⟨rfl,e1⟩
 obtain rfl:=e1.symm
 refine aB ?_
 refine ai ?_
 refine⟨_,ak,?_,rfl⟩
 unfold mZ cN
 rw[d1]
 rfl}
theorem LR {p:Prod} {u:Value} {s:Sym} (ho:hk[im]? = some (.aj m.cells 0 true 94)) (M:MS hk m d es ks) (hy:fV hk u p.al) (hp:p∈d.aa) (hs:s∈p.al) (hn:s.kind=1∨cN s.name=true∨s.name∈aF d.aa) (ht:s.text.size≤1000000) : FW env 141 [.pointer (some ⟨im,0,some 0⟩),p.val u,s.val] hk fun r h'=>hk <+: h'∧aK hk h' r (l7 d p.lex s).length ((l7 d p.lex s).flatMap bd.cells) 65:=by{
have hy0:=hy
obtain⟨ps,cs,rfl⟩:=bW.form hy
refine fe Tryz.func141 ?_;simp only[push_cast]
by_cases q1:s.kind=1
·have d1:=decide_eq_true q1
 have hK:l7 d p.lex s=fu s.text:=by unfold l7;rw[if_pos q1]
 rw[hK]
 refine aG d1 ?_
 refine af rfl ?_
 refine aB ?_
 refine zj Tryz.func101 ?_
 refine (E9 ht).mono ?_
 rintro _ h1 ⟨hp1,hG⟩
 obtain⟨q,c,rfl⟩:=hG.form
 refine aB ?_
 refine ai ?_
 refine⟨_,ak,hp1,?_⟩
 exact hG
have d1:=decide_eq_false q1
refine aG d1 ?_
refine ae rfl ?_
refine aB ?_
refine zj Tryz.func92 ?_
refine tQ.mono ?_
rintro _ h1 ⟨rfl,e1⟩
obtain rfl:=e1.symm
cases hL:ik s with
| true=>
  have hK:l7 d p.lex s=[dN (my d (iq p.lex s))]:=by unfold l7;rw[if_neg q1,if_pos hL]
  rw[hK]
  have hmem:iq p.lex s∈bj d.aa:=mem_keys.2 ⟨p,hp,s,hs,hL,rfl⟩
  have hg:=M.lg _ hmem
  have hlm:=M.lm
  have hkk:=qf ks
  have hkd:=uH (iq p.lex s)
  unfold ku at hkk hkd
  have hob:=ho
  unfold MK.cells at hob
  refine aB ?_
  refine af rfl ?_
  refine aB ?_
  refine aA [(0,.val (.pointer (some ⟨im,0,some 0⟩))),(4,.box [.bool p.lex,.string p.sort,.string p.cons,.bool p.bracket,.slice ps p.al.length cs]),(5,.box [i64 s.kind,.string s.text,u64 s.set.a,u64 s.set.b,u64 s.set.c,u64 s.set.d,.string s.name,.string s.sep])] aO ?_
  show CW _ _ ⟨_,[],hk⟩ _
  apply bi (L:=[[],[0],[0,1],[0,1,2],[],[],[4,5],[0,1,2,3,4,5,6],[0,1,2,3,4,5,6,7],[0,1,2,3,4,5,6,7,8],[0,1,2,3,4,5,6,7,8,9]]) (act:=[9]) (hs:=[hk++[av.aj (bd.cells (dN (my d (iq p.lex s)))) 0 true 65]]) (resL:=[_,_,_,_,_,_,_,_,_,_,_]) (frF:=[(6,.val (.slice (some ⟨hk.length,0,some 0⟩) 1 1))])
  case hm=>exact mixed
  case hc=>kernel_rfl
  case ha=>rfl
  case hb=>rfl
  case hS=>
   refine PY hob ?_
   apply az.cons
   ·rfl
   ·refine⟨?_,trivial⟩
    exact bg (fn:=Tryz.f93) (args:=[p.val (.slice ps p.al.length cs),s.val]) (cap:=[]) rfl ak rfl ak ak Tryz.func93 kr kr (wH hy0)
   ·rfl
   refine Iv hob hlm hg hkk hkd ?_
   apply az.cons
   ·rfl
   ·refine⟨?_,trivial⟩
    exact bg (fn:=Tryz.f99) (args:=[i64 (my d (iq p.lex s):Int)]) (cap:=[]) rfl ak rfl ak ak Tryz.func99 kr kr lN
   ·rfl
   apply az.cons
   ·rfl
   ·refine⟨?_,trivial⟩
    exact nY (h:=hk) (n:=1) (t:=65) (cs:=bd.cells (dN (my d (iq p.lex s)))) rfl ak kr
   ·rfl
   exact Q6
  case ht=>rfl
  case hF=>exact zh
  show CW _ _ _ _
  refine aB ?_
  refine ai ?_
  refine⟨_,ak,aI,?_⟩
  exact .inr ⟨hk.length,0,Nat.le_refl _,rfl,aJ⟩
| false=>
  have hK:l7 d p.lex s=[mZ d s.name s.set]:=by unfold l7;rw[if_neg q1,if_neg (by rw[hL];decide)]
  rw[hK]
  refine aB ?_
  refine ae rfl ?_
  refine aB ?_
  refine zj Tryz.func97 ?_
  refine (xY ho M (hn.resolve_left q1)).mono ?_
  rintro _ h2 ⟨rfl,e2⟩
  obtain rfl:=e2.symm
  refine cz (t:=65) (cs:=bd.cells (mZ d s.name s.set)) (n:=1) ak kr ?_
  refine aB ?_
  refine ai ?_
  refine⟨_,ak,aI,?_⟩
  exact .inr ⟨hk.length,0,Nat.le_refl _,rfl,aJ⟩}
end
structure wx (d:b7) (p:Prod):Prop where
 mem:p∈d.aa
 n:p.al.length≤12
 t:∀ s∈p.al,s.text.size≤32
 nm:∀ s∈p.al,s.kind=1∨cN s.name=true∨s.name∈aF d.aa
 so:p.sort∈aF d.aa
 o:fU p.al≤4
theorem wi {d:b7} {lex:Bool} {s:Sym} (h:s.text.size≤32):(l7 d lex s).length≤32:=by{
unfold l7
split
·unfold fu;simp;omega
·split<;>simp}
theorem mr {d:b7} {p:Prod} {mask k:Nat} (hk:k<p.al.length):dE d p mask (k+1)=jw d p.lex (dE d p mask k) k p.al[k]:=by
 conv=>lhs;unfold dE
 rw[List.getElem?_eq_getElem hk]
theorem oH {d:b7} {p:Prod} {mask:Nat} (G:wx d p):∀ k,(dE d p mask k).rhs.length≤33*k∧(dE d p mask k).os.length=(dE d p mask k).rhs.length∧(dE d p mask k).mask≤mask
 | 0=>by simp [dE]
 | k+1=>by
   obtain⟨h1,h2,h3⟩:=oH G k (mask:=mask)
   by_cases hk:k<p.al.length
   ·rw[mr hk]
    have hl:=wi (d:=d) (lex:=p.lex) (G.t _ (List.getElem_mem hk))
    generalize dE d p mask k=R at h1 h2 h3
    have hput:∀ R':zg,R'.rhs=R.rhs→R'.os=R.os→R'.mask≤mask→(jf d p.lex R' k p.al[k]).rhs.length≤33*(k+1)∧(jf d p.lex R' k p.al[k]).os.length=(jf d p.lex R' k p.al[k]).rhs.length∧(jf d p.lex R' k p.al[k]).mask≤mask:=fun R' e1 e2 e3=>by
     unfold jf
     rw[e1,e2]
     refine⟨?_,?_,e3⟩
     ·simp only[List.length_append]
      split<;>simp<;>omega
     ·simp only[List.length_append,List.length_replicate]
      split<;>simp<;>omega
    unfold jw
    split
    ·split
     ·exact⟨by simp only;omega,h2,by simp only;omega⟩
     ·exact hput _ rfl rfl (by simp only;omega)
    ·exact hput R rfl rfl h3
   ·have:dE d p mask (k+1)=dE d p mask k:=by
     conv=>lhs;unfold dE
     rw[List.getElem?_eq_none om]
    rw[this]
    exact⟨by omega,h2,h3⟩
theorem Cb {n:Nat} (h:n<16):IntKind.i64.wrap (BitVec.ofInt IntKind.i64.bits (n:Int) &&& BitVec.ofInt IntKind.i64.bits 1).toNat=((n % 2:Nat):Int):=by
 have:∀ n:Fin 16,IntKind.i64.wrap (BitVec.ofInt IntKind.i64.bits (n.1:Int) &&& BitVec.ofInt IntKind.i64.bits 1).toNat=((n.1 % 2:Nat):Int):=by decide
 exact this ⟨n,h⟩
theorem bW.kp {a b:ah} {v:Value} {n w:Nat} {cells:List Value} {et:TypeId} {ts:List TypeId} (hs:bW a v n cells et w) (k:cd ts a b) (h:et∉ts):bW b v n cells et w:=by{
refine⟨hs.1,?_⟩
rcases hs.2 with h1|⟨id,au,own,c,e,h2⟩
·exact .inl h1
·exact .inr ⟨id,au,own,c,e,k _ _ h2 (dG h)⟩}
theorem wL {all:Array Oper} {o:Oper} {r:List Oper} {s:St} {K:St→Prop} {x:Operand} {t y:Nat} {e:TypeId} {ti:TI} {v:Value} {cs cells:List Value} {n:Nat} {h:ah} (hw:aE all o s=some true) (ho:o.op = .call { callee:=.builtin .append,args:=#[x,.tmp y],argTypes:=#[t,t] }) (hu:env.P.underlying t=some (.slice e)) (ht:ar env.P e=some ti) (hs0:0<ti.size) (hz:(ti.zero.map fun z=>z.cells.size)=some ti.size) (hx:ev s x=some v) (hy:aS s.fr y = .nj cs 1) (G:aK h s.h v n cells e) (hp:h <+: s.h) (hl:cells.length=n*ti.size) (hc:cs.length=ti.size) (hb:(n+1)*ti.bytes≤140737488355328) (hn:n+1≤140737488355328) (k:∀ p c h',aK h h' (.slice p (n+1) c) (n+1) (cells++cs) e→h <+: h'→(∀ j o,bX v j=false→s.h[j]? = some o→h'[j]? = some o)→(∀ x,bX (.slice p (n+1) c) x=true→bX v x=true∨x=s.h.length)→s.h.length≤h'.length→OW env all r ({ s with h:=h' }.aX o.dst (.val (.slice p (n+1) c))) K):OW env all (o :: r) s K:=by{
have hi:ct s s.h ti.size (.tmp y)=some (cs,1):=by simp only[ct,hy,hc,Nat.one_mul,if_true]
rcases G with ⟨rfl,rfl,rfl⟩ | ⟨id,au,h1,rfl,h3⟩
·refine mX hw ho hu ht hs0 hz hx hi (by decide) (by simpa using hb) (by decide) ?_
 exact k (some ⟨s.h.length,0,some 0⟩) 1 _ (.inr ⟨s.h.length,0,hp.length_le,rfl,by simp⟩) (cS hp) (fun j o _ h=>bo h) (fun x hx=>by
  simp only[bX,beq_iff_eq] at hx
  exact .inr hx.symm) (by simp)
·refine oC hw ho hu ht hs0 hz hx h3 om hi hb hn ?_
 rw[List.take_of_length_le om]
 refine k (some ⟨id,0,some (au+1)⟩) (n+1) _ (.inr ⟨id,au+1,h1,rfl,aw h3⟩) (aY hp h1) (fun j o hj h=>?_) (fun x hx=>?_) (by simp)
 ·simp only[bX,beq_eq_false_iff_ne] at hj
  rw[aD hj]
  exact h
 ·simp only[bX] at hx ⊢
  exact .inl hx}
theorem aK.base {a b c:ah} {v:Value} {n:Nat} {cells:List Value} {et:TypeId} (G:aK b c v n cells et) (h:a <+: b):aK a c v n cells et:=by{
rcases G with G|⟨id,au,h1,h2,h3⟩
·exact .inl G
·exact .inr ⟨id,au,Nat.le_trans h.length_le h1,h2,h3⟩}
theorem MR.pre {h0 hk h1:ah} {im:Nat} {m:MK} {l:List (dt×gD)} (M:MR h0 hk im m l) (hp:hk <+: h1):MR h0 h1 im m l:=
 ⟨M.p.trans hp,M.lm,ag hp M.o,M.r.ed (cd.pre (ts:=[]) hp) (by simp) (by simp),M.f.ed (cd.pre (ts:=[]) hp) (by simp) (by simp)⟩
section
variable {h0 hk:ah} {im:Nat} {m:MK} {d:b7} {es:List (ByteArray×Int)} {ks:List (bI×Int)} {l:List (dt×gD)}
theorem Fy (M:MR h0 hk im m l) (S:MS hk m d es ks) (hP:eP hk m.vP d.aa) {kC mask:Nat} (ha:kC<d.aa.length) (G:wx d d.aa[kC]) (hm:mask<16) (hl:l.length≤1000000) : FW env 96 [.pointer (some ⟨im,0,some 0⟩),i64 (kC:Int),i64 (mask:Int)] hk fun r h'=>r = .tuple #[]∧∃ vr' vf',MR h0 h' im { m with vr:=vr',vf:=vf' } (l++[iv d kC d.aa[kC] mask])∧cd Hl hk h':=by{
have hob:=M.o
obtain⟨id,au,own,c',cells,u,hv,hid,hrd,hu⟩:=cT.at (k:=5) (fun _ _=>rfl) hP ha
have hu:fV hk u d.aa[kC].al:=hu
have hu0:=hu
obtain⟨ps,cs,rfl⟩:=bW.form hu
have wa:=cH ha
obtain⟨p,hpe⟩:∃ p,p=d.aa[kC]:=⟨_,rfl⟩
rw[← hpe] at hrd hu hu0 G ⊢
have hn12:=G.n
have hUL:=oH (mask:=mask) G
unfold MK.cells at hob
have hgp:=S.gp
have hob1:=hob
rw[hv] at hob1
refine fe Tryz.func96 ?_;simp only[push_cast]
refine fN hob1 wa hid hrd ?_
refine CW.mono (Q:=fun e s'=>e = .exit 0∧∃ (h1:ah) (vr vo:Value),hk <+: h1∧aK hk h1 vr (fh d p mask).rhs.length ((fh d p mask).rhs.flatMap bd.cells) 65∧aK hk h1 vo (fh d p mask).os.length ((fh d p mask).os.map i64) 3∧s'.h=h1∧bB [(0,.val (.pointer (some ⟨im,0,some 0⟩))),(6,.box [.bool p.lex,.string p.sort,.string p.cons,.bool p.bracket,.slice ps p.al.length cs]),(7,.box [i64 0,i64 (kC:Int),i64 (mask:Int),vo]),(8,.val vr)] s'.fr) ?_ ?_
·refine a9 p.al.length (fun k (x:ah×Value×Value)=>[(0,.val (.pointer (some ⟨im,0,some 0⟩))),(2,.val (i64 ((dE d p mask k).mask:Int))),(6,.box [.bool p.lex,.string p.sort,.string p.cons,.bool p.bracket,.slice ps p.al.length cs]),(7,.box [i64 0,i64 (kC:Int),i64 (mask:Int),x.2.2]),(8,.val x.2.1),(27,.val (.slice ps p.al.length cs)),(28,.val (i64 p.al.length)),(29,.val (i64 k))]) (fun _ x=>x.1)
  (fun k x=>hk <+: x.1∧aK hk x.1 x.2.1 (dE d p mask k).rhs.length ((dE d p mask k).rhs.flatMap bd.cells) 65∧aK hk x.1 x.2.2 (dE d p mask k).os.length ((dE d p mask k).os.map i64) 3) (hk,bD,bD) (by simp only[dE];exact aO) rfl ⟨List.prefix_refl _,aK.nil,aK.nil⟩ ?_
 rintro k ⟨h1,vr,vo⟩ hkn ⟨hp1,hG1,hG2⟩
 simp only at hp1 hG1 hG2 ⊢
 by_cases hlt:k<p.al.length
 ·obtain⟨ids,vers,owns,cs',hvs,hids⟩:=bW.at (hu.mono hp1) om
  cases hvs
  have hgs:=gV hlt
  have e1:=cH hlt
  have e2:=inc hlt om
  have e3:=aV hlt
  have hsuc:=mr (d:=d) (mask:=mask) hlt
  obtain⟨u1,u2,u3⟩:=hUL k
  have hsm:=List.getElem_mem hlt
  have hst:=G.t _ hsm
  have hsn:=G.nm _ hsm
  generalize p.al[k]=s at hgs hsuc hsm hst hsn
  generalize hRR:dE d p mask k=R at hG1 hG2 hsuc u1 u2 u3 ⊢
  obtain⟨qr,cr,rfl⟩:=hG1.form
  obtain⟨qo,co,rfl⟩:=hG2.form
  refine aG e3 ?_
  refine af rfl ?_
  refine zu ?_
  iterate 6 (refine zx (MU e1 hids hgs) ?_)
  refine zu ?_
  iterate 8 (refine zx pR ?_)
  apply zn
  show CW _ _ _ _
  obtain⟨m2,hm2⟩:∃ m2,m2=R.mask / 2:=⟨_,rfl⟩
  obtain⟨r2,hr2⟩:∃ r2,r2=R.mask % 2:=⟨_,rfl⟩
  refine CW.mono (Q:=fun e s'=>s'.h=h1∧((e = .exit 1∧dE d p mask (k+1)=⟨m2,R.rhs,R.os⟩∧bB [(0,.val (.pointer (some ⟨im,0,some 0⟩))),(6,.box [.bool p.lex,.string p.sort,.string p.cons,.bool p.bracket,.slice (some ⟨ids,0,some vers⟩) p.al.length cs]),(27,.val (.slice (some ⟨ids,0,some vers⟩) p.al.length cs)),(28,.val (i64 p.al.length)),(29,.val (i64 k)),(2,.val (i64 (m2:Int))),(7,.box [i64 0,i64 (kC:Int),i64 (mask:Int),.slice qo R.os.length co]),(8,.val (.slice qr R.rhs.length cr))] s'.fr)∨(e = .normal∧∃ M1:Nat,dE d p mask (k+1)=jf d p.lex ⟨M1,R.rhs,R.os⟩ k s∧bB [(0,.val (.pointer (some ⟨im,0,some 0⟩))),(6,.box [.bool p.lex,.string p.sort,.string p.cons,.bool p.bracket,.slice (some ⟨ids,0,some vers⟩) p.al.length cs]),(27,.val (.slice (some ⟨ids,0,some vers⟩) p.al.length cs)),(28,.val (i64 p.al.length)),(29,.val (i64 k)),(2,.val (i64 (M1:Int))),(7,.box [i64 0,i64 (kC:Int),i64 (mask:Int),.slice qo R.os.length co]),(8,.val (.slice qr R.rhs.length cr)),(10,.box [i64 s.kind,.string s.text,u64 s.set.a,u64 s.set.b,u64 s.set.c,u64 s.set.d,.string s.name,.string s.sep]),(9,.val (i64 k))] s'.fr))) ?_ ?_
  ·have hR16:R.mask<16:=by omega
   cases hL:dW s with
   | true=>
     rw[show (decide (s.kind=4)||decide (s.kind=5))=true from hL]
     unfold jw at hsuc
     rw[if_pos hL,← hm2] at hsuc
     have hand:=Cb hR16
     rw[← hr2] at hand
     have hshr:((R.mask:Int)).fdiv (2 ^ min 1 IntKind.i64.bits)=(m2:Int):=by
      rw[show min 1 IntKind.i64.bits=1 from rfl,Int.fdiv_eq_ediv_of_nonneg _ (by decide)]
      omega
     refine af rfl ?_
     by_cases hz:r2=0
     ·have dz:decide ((r2:Int)=0)=true:=decide_eq_true om
      rw[← hr2,if_pos hz] at hsuc
      refine ir hand hshr dz ?_
      refine af rfl ?_
      refine aC ?_
      exact⟨rfl,.inl ⟨rfl,hsuc,aO⟩⟩
     ·have dz:decide ((r2:Int)=0)=false:=decide_eq_false om
      rw[← hr2,if_neg hz] at hsuc
      refine ir hand hshr dz ?_
      refine ae rfl ?_
      refine cj ?_
      exact⟨rfl,.inr ⟨rfl,m2,hsuc,aO⟩⟩
   | false=>
     rw[show (decide (s.kind=4)||decide (s.kind=5))=false from hL]
     unfold jw at hsuc
     rw[if_neg (by rw[hL];decide)] at hsuc
     refine ae rfl ?_
     refine cj ?_
     exact⟨rfl,.inr ⟨rfl,R.mask,hsuc,aO⟩⟩
  rintro e s' ⟨hh,⟨rfl,hsuc,hf⟩ | ⟨rfl,M1,hsuc,hf⟩⟩
  ·show CW _ _ _ _
   refine aA _ hf ?_
   rw[hh]
   clear hf hh s'
   refine aG e2 ?_
   refine⟨hlt,(h1,.slice qr R.rhs.length cr,.slice qo R.os.length co),?_,rfl,hp1,?_,?_⟩
   ·dsimp only
    rw[hsuc]
    exact aO
   ·rw[hsuc]
    exact hG1
   ·rw[hsuc]
    exact hG2
  show CW _ _ _ _
  refine aA _ hf ?_
  rw[hh]
  clear hf hh s'
  obtain⟨R1,hR1⟩:∃ R1,R1=R.rhs++if lK d p.lex R.rhs=true then [dN (bP d)] else []:=⟨_,rfl⟩
  obtain⟨O1,hO1⟩:∃ O1,O1=R.os++if lK d p.lex R.rhs=true then [-1] else []:=⟨_,rfl⟩
  have hsuc2:dE d p mask (k+1)=⟨M1,R1++l7 d p.lex s,O1++List.replicate (l7 d p.lex s).length (k:Int)⟩:=by rw[hsuc,hR1,hO1];rfl
  have hR1l:R1.length≤33*k+1:=by rw[hR1,List.length_append];split<;>simp<;>omega
  have hO1l:O1.length≤33*k+1:=by rw[hO1,List.length_append];split<;>simp<;>omega
  have hob1:=ag hp1 hob
  apply zs
  refine CW.mono (Q:=fun e s'=>e = .normal∧∃ (h2:ah) (q2:Option Addr) (c2:Nat) (q3:Option Addr) (c3:Nat),hk <+: h2∧aK hk h2 (.slice q2 R1.length c2) R1.length (R1.flatMap bd.cells) 65∧aK hk h2 (.slice q3 O1.length c3) O1.length (O1.map i64) 3∧s'.h=h2∧bB [(0,.val (.pointer (some ⟨im,0,some 0⟩))),(6,.box [.bool p.lex,.string p.sort,.string p.cons,.bool p.bracket,.slice (some ⟨ids,0,some vers⟩) p.al.length cs]),(27,.val (.slice (some ⟨ids,0,some vers⟩) p.al.length cs)),(28,.val (i64 p.al.length)),(29,.val (i64 k)),(2,.val (i64 (M1:Int))),(7,.box [i64 0,i64 (kC:Int),i64 (mask:Int),.slice q3 O1.length c3]),(8,.val (.slice q2 R1.length c2)),(9,.val (i64 k)),(10,.box [i64 s.kind,.string s.text,u64 s.set.a,u64 s.set.b,u64 s.set.c,u64 s.set.d,.string s.name,.string s.sep])] s'.fr) ?_ ?_
  ·have hno:lK d p.lex R.rhs=false→hk <+: h1∧aK hk h1 (.slice qr R1.length cr) R1.length (R1.flatMap bd.cells) 65∧aK hk h1 (.slice qo O1.length co) O1.length (O1.map i64) 3∧R1=R.rhs∧O1=R.os:=fun hn=>by
    rw[hn,if_neg (by decide),List.append_nil] at hR1 hO1
    rw[hR1,hO1]
    exact⟨hp1,hG1,hG2,rfl,rfl⟩
   by_cases q1:R.rhs.length=0
   ·have hn:lK d p.lex R.rhs=false:=by unfold lK;rw[List.isEmpty_iff.2 (List.eq_nil_of_length_eq_zero q1)];rfl
    obtain⟨a1,a2,a3,a4,a5⟩:=hno hn
    have dl:decide ((0:Int)<(R.rhs.length:Int))=false:=decide_eq_false om
    refine aG dl ?_
    refine ae rfl ?_
    refine cj ?_
    refine⟨rfl,h1,qr,cr,qo,co,a1,a2,a3,rfl,?_⟩
    rw[a4,a5]
    exact aO
   have dl:decide ((0:Int)<(R.rhs.length:Int))=true:=decide_eq_true om
   have hne:R.rhs.isEmpty=false:=by cases e:R.rhs with|nil=>rw[e] at q1;exact absurd rfl q1|cons a b=>rfl
   cases hlx:p.lex with
   | true=>
     have hn:lK d p.lex R.rhs=false:=by unfold lK;rw[hlx];simp
     obtain⟨a1,a2,a3,a4,a5⟩:=hno hn
     refine fM dl hlx ?_
     refine ae rfl ?_
     refine cj ?_
     refine⟨rfl,h1,qr,cr,qo,co,a1,a2,a3,rfl,?_⟩
     rw[a4,a5]
     exact (lF hlx)
   | false=>
   cases hem:cN d.layout with
   | true=>
     have hn:lK d p.lex R.rhs=false:=by unfold lK;rw[hem];simp
     obtain⟨a1,a2,a3,a4,a5⟩:=hno hn
     have dg:decide (0≤m.lL)=false:=by rw[hgp];unfold bP;rw[if_pos hem];rfl
     refine fN dl hlx hob1 dg ?_
     refine ae rfl ?_
     refine cj ?_
     refine⟨rfl,h1,qr,cr,qo,co,a1,a2,a3,rfl,?_⟩
     rw[a4,a5]
     exact (lF hlx)
   | false=>
     have hn:lK d p.lex R.rhs=true:=by unfold lK;rw[hem,hlx,hne];rfl
     rw[hn,if_pos rfl] at hR1 hO1
     have dg:decide (0≤m.lL)=true:=by rw[hgp];unfold bP;rw[if_neg (by rw[hem];decide)];exact decide_eq_true om
     refine fN dl hlx hob1 dg ?_
     refine af rfl ?_
     refine aG hob1 ?_
     refine zj Tryz.func99 ?_
     refine lN.mono ?_
     rintro _ h2 ⟨rfl,e7⟩
     obtain rfl:=e7.symm
     rw[hgp]
     refine aB ?_
     refine kW (t:=61) (cs:=bd.cells (dN (bP d))) ak rfl kr vW (by decide) rfl ak rfl hG1 hp1 (by rw[kb]) rfl (by simp only;omega) om ?_
     intro p2 c2 h2 k1 k2 k3 _
     have hG22:=hG2.ed (cd.push hG1 k3) (by decide)
     refine aB ?_
     refine kW (t:=39) (cs:=[i64 (-1)]) ak rfl kr Mo (by decide) rfl ak rfl hG22 k2 (by simp) rfl (by simp only;omega) om ?_
     intro p3 c3 h3 k4 k5 k6 _
     have k1':=aK.ed k1 (cd.push hG22 k6) (by decide)
     refine aB ?_
     have l1:R1.length=R.rhs.length+1:=by rw[hR1];simp
     have l2:O1.length=R.os.length+1:=by rw[hO1];simp
     refine⟨rfl,h3,p2,c2,p3,c3,k5,?_,?_,rfl,?_⟩
     ·rw[l1,hR1,List.flatMap_append,List.flatMap_singleton]
      exact k1'
     ·rw[l2,hO1,List.map_append]
      exact k4
     ·rw[l1,l2]
      exact (lF hlx)
  rintro e s' ⟨rfl,h2,q2,c2,q3,c3,hp2,hG3,hG4,hh,hf⟩
  show CW _ _ _ _
  refine aA _ hf ?_
  rw[hh]
  clear hf hh s' hG1 hG2 hob1 hp1
  have hob2:=ag hp2 M.o
  refine aB ?_
  refine zj Tryz.func141 ?_
  refine (LR hob2 (S.ed (cd.pre (ts:=[]) hp2)) (hu.mono hp2) G.mem hsm hsn om).mono ?_
  rintro _ h3 ⟨hp3,hGK⟩
  have hKl:=wi (d:=d) (lex:=p.lex) hst
  generalize l7 d p.lex s=K at hGK hKl hsuc2
  obtain⟨qk,ck,rfl⟩:=hGK.form
  have hlen2:=hp2.length_le
  have hlen3:=hp3.length_le
  refine aB ?_
  refine a9 K.length (fun j (x:ah×Value×Value)=>[(0,.val (.pointer (some ⟨im,0,some 0⟩))),(6,.box [.bool p.lex,.string p.sort,.string p.cons,.bool p.bracket,.slice (some ⟨ids,0,some vers⟩) p.al.length cs]),(27,.val (.slice (some ⟨ids,0,some vers⟩) p.al.length cs)),(28,.val (i64 p.al.length)),(29,.val (i64 k)),(2,.val (i64 (M1:Int))),(9,.val (i64 k)),(7,.box [i64 0,i64 (kC:Int),i64 (mask:Int),x.2.2]),(8,.val x.2.1),(79,.val (.slice qk K.length ck)),(80,.val (i64 K.length)),(81,.val (i64 j))]) (fun _ x=>x.1)
   (fun j x=>hk <+: x.1∧h3.length≤x.1.length∧aK hk x.1 x.2.1 (R1.length+j) ((R1++K.take j).flatMap bd.cells) 65∧aK hk x.1 x.2.2 (O1.length+j) ((O1++List.replicate j (k:Int)).map i64) 3∧aK h2 x.1 (.slice qk K.length ck) K.length (K.flatMap bd.cells) 65∧∀ b,bX x.2.1 b=true→b<h2.length∨h3.length≤b) (h3,.slice q2 R1.length c2,.slice q3 O1.length c3) aO rfl ⟨hp2.trans hp3,Nat.le_refl _,?_,?_,hGK,fun b hb=>.inl (hG3.lt hb).2⟩ ?_
  ·rw[List.take_zero,List.append_nil,Nat.add_zero]
   exact hG3.ed (cd.pre (ts:=[]) hp3) (by simp)
  ·rw[List.replicate_zero,List.append_nil,Nat.add_zero]
   exact hG4.ed (cd.pre (ts:=[]) hp3) (by simp)
  rintro j ⟨h4,vr4,vo4⟩ hjn ⟨hp4,hlen4,hGr,hGo,hGk,hsep⟩
  simp only at hp4 hlen4 hGr hGo hGk hsep ⊢
  by_cases hjl:j<K.length
  ·have v1:=cH hjl
   have v2:=inc hjl om
   have v3:=aV hjl
   obtain⟨idk,verk,ownk,ckk,hvk,hidk⟩:=(hGk.sl (b:=40) om).at om
   cases hvk
   have hgk:je (K.flatMap bd.cells) (j*5) 5=some [i64 K[j].nt,u64 K[j].set.a,u64 K[j].set.b,u64 K[j].set.c,u64 K[j].set.d]:=bG (f:=bd.cells) (k:=5) (fun _=>rfl) K j K[j] (by simp [hjl])
   have htk:K.take (j+1)=K.take j++[K[j]]:=List.take_succ_eq_append_getElem hjl
   generalize K[j]=y at hgk htk
   obtain⟨qr4,cr4,rfl⟩:=hGr.form
   obtain⟨qo4,co4,rfl⟩:=hGo.form
   have hrl:((R1++K.take j).flatMap bd.cells).length=(R1.length+j)*5:=by rw[kb,List.length_append,List.length_take,Nat.min_eq_left om]
   have hol:((O1++List.replicate j (k:Int)).map i64).length=(O1.length+j)*1:=by simp
   refine aG v3 ?_
   refine af rfl ?_
   refine ir v1 hidk hgk ?_
   refine wL (t:=61) (cs:=bd.cells y) ak rfl kr vW (by decide) rfl ak rfl hGr hp4 hrl rfl (by simp only;omega) om ?_
   intro p5 c5 h5 k1 k2 k3 k4 hlen5
   have hlen5:h4.length≤h5.length:=hlen5
   have k4:∀ x,bX (.slice p5 (R1.length+j+1) c5) x=true→bX (.slice qr4 (R1.length+j) cr4) x=true∨x=h4.length:=k4
   have hGo5:=hGo.ed (cd.push hGr k3) (by decide)
   have hGk5:aK h2 h5 (.slice (some ⟨idk,0,some verk⟩) K.length ck) K.length (K.flatMap bd.cells) 65:=hGk.mono fun b o hb ho=>k3 b o (by
    cases e:bX (.slice qr4 (R1.length+j) cr4) b with
    | false=>rfl
    | true=>
      have a1:=hsep b e
      have a2:=hGk.lt hb
      have a3:=hGK.lt hb
      omega) ho
   refine aB ?_
   refine wL (t:=39) (cs:=[i64 (k:Int)]) ak rfl kr Mo (by decide) rfl ak rfl hGo5 k2 hol rfl (by simp only;omega) om ?_
   intro p6 c6 h6 k5 k6 k7 _ hlen6
   have hlen6:h5.length≤h6.length:=hlen6
   have k1':=aK.ed k1 (cd.push hGo5 k7) (by decide)
   have hGk6:=hGk5.ed (cd.push hGo5 k7) (by decide)
   refine aG v2 ?_
   refine⟨hjl,(h6,.slice p5 (R1.length+(j+1)) c5,.slice p6 (O1.length+(j+1)) c6),?_,rfl,k6,?_,?_,?_,hGk6,fun b hb=>?_⟩
   ·dsimp only
    exact (by simp only[push_cast,Nat.reduceEqDiff,reduceIte,Nat.add_assoc])
   ·simp only;omega
   ·rw[htk,← List.append_assoc,List.flatMap_append,List.flatMap_singleton]
    exact k1'
   ·rw[List.replicate_succ',← List.append_assoc,List.map_append]
    exact k5
   ·rcases k4 b hb with a|a
    ·exact hsep b a
    ·right;omega
  ·have v3:=aT hjl
   obtain rfl:j=K.length:=by omega
   rw[List.take_length] at hGr
   refine aG v3 ?_
   refine ae rfl ?_
   refine aC ?_
   show CW _ _ _ _
   refine aG e2 ?_
   refine⟨hlt,(h4,vr4,vo4),?_,rfl,hp4,?_,?_⟩
   ·dsimp only
    rw[hsuc2]
    exact aO
   ·rw[hsuc2]
    simp only[List.length_append]
    exact hGr
   ·rw[hsuc2]
    simp only[List.length_append,List.length_replicate]
    exact hGo
 ·have e3:=aT hlt
  obtain rfl:k=p.al.length:=by omega
  refine aG e3 ?_
  refine ae rfl ?_
  refine aC ?_
  exact⟨rfl,h1,vr,vo,hp1,hG1,hG2,rfl,aO⟩
rintro e s' ⟨rfl,h1,vr,vo,hp1,hG1,hG2,hh,hf⟩
show CW _ _ _ _
refine aA _ hf ?_
rw[hh]
clear hf hh s' hob hob1
have M1:=M.pre hp1
have S1:=S.ed (cd.pre (ts:=[]) hp1)
have hr:=jX M1 (lhs:=(fZ d p.sort:Int)) (kd:=0) (pr:=(kC:Int)) (mk:=(mask:Int)) (hG1.base M.p) (hG2.base M.p) hl
unfold FW at hr
obtain⟨r,h5,hcall,rfl,vr',vf',hM5,hK5⟩:=hr
have hob:=M1.o
unfold MK.cells at hob
have hsm:=S1.sm
have hg:=S1.sg _ G.so
have hkk:=bm es
obtain⟨qr,cr,rfl⟩:=hG1.form
obtain⟨qo,co,rfl⟩:=hG2.form
refine aA [(0,.val (.pointer (some ⟨im,0,some 0⟩))),(6,.box [.bool p.lex,.string p.sort,.string p.cons,.bool p.bracket,.slice ps p.al.length cs]),(7,.box [i64 0,i64 (kC:Int),i64 (mask:Int),.slice qo (fh d p mask).os.length co]),(8,.val (.slice qr (fh d p mask).rhs.length cr))] aO ?_
show CW _ _ ⟨_,[],h1⟩ _
apply bi (L:=[[],[],[1],[1,2],[1,2,3],[],[5],[1,2,3,4,5,6],[],[],[0,1,2,3,4,5,6,7,8,9]]) (act:=[10]) (hs:=[h5]) (resL:=[_,_,_,_,_,_,_,_,_,_,_]) (frF:=[])
case hm=>exact mixed
case hc=>kernel_rfl
case ha=>rfl
case hb=>rfl
case hS=>
 refine tT hob hsm hg hkk ?_
 apply az.cons
 ·rfl
 ·refine⟨?_,trivial⟩
  exact dA (args:=[.pointer (some ⟨im,0,some 0⟩),i64 (fZ d p.sort:Int),.slice qr (fh d p mask).rhs.length cr,.agg #[i64 0,i64 (kC:Int),i64 (mask:Int),.slice qo (fh d p mask).os.length co]]) (cap:=[]) (fn:=Tryz.f98) ak rfl ak ak Tryz.func98 kr kr hcall
 ·rfl
 exact az.nil _
case ht=>rfl
case hF=>exact zh
exact⟨_,ak,rfl,vr',vf',hM5,(cd.pre hp1).trans hK5⟩}
end
theorem A2 {t e:TypeId} {ti:TI} {v w:Value} {n m b:Nat} {cells cs:List Value} {h hk:ah} (hu:env.P.underlying t=some (.slice e)) (ht:ar env.P e=some ti) (hs0:0<ti.size) (hz:(ti.zero.map fun z=>z.cells.size)=some ti.size) (G:aK h hk v n cells e) (hp:h <+: hk) (hl:cells.length=n*ti.size) (hy:bW hk w m cs e b) (hlc:cs.length=m*ti.size) (h0:0<m) (hb:(n+m)*ti.bytes≤140737488355328) (hn:n+m≤140737488355328):∃ p c h', (∀ (all:Array Oper) (o:Oper) (s:St) (x:Operand) (y:Nat),s.h=hk→aE all o s=some true→o.op = .call { callee:=.builtin .append,args:=#[x,.tmp y],argTypes:=#[t,t] }→ev s x=some v→aS s.fr y = .val w → One env all o s (.sl (.val (.slice p (n+m) c))) h') ∧ aK h h' (.slice p (n+m) c) (n+m) (cells++cs) e∧h <+: h'∧(∀ j o,bX v j=false→hk[j]? = some o→h'[j]? = some o):=by{
obtain⟨id,au,own,c',rfl,hid⟩:=hy.at h0
have hrd:je cs 0 (m*ti.size)=some cs:=by
 simp only[je,s7,Nat.zero_add,List.drop_zero,hlc]
 rw[if_pos (Nat.le_refl _),← hlc,List.take_length]
have hi:∀ (s:St) (y:Nat),s.h=hk→aS s.fr y = .val (.slice (some ⟨id,0,some au⟩) m c')→ct s s.h ti.size (.tmp y)=some (cs,m):=fun s y hh hf=>by
 simp only[ct,hf,hh,hid,if_true]
 first|rw[hrd];rfl|(unfold je at hrd;rw[hrd];rfl)
rcases G with ⟨rfl,rfl,rfl⟩ | ⟨idx,vex,h1,rfl,h3⟩
·rw[Nat.zero_add] at hb hn ⊢
 refine⟨some ⟨hk.length,0,some 0⟩,m,hk++[av.aj cs 0 true e],fun all o s x y hh hw ho hx hy=>?_,.inr ⟨hk.length,0,hp.length_le,rfl,by rw[List.nil_append];exact aJ⟩,cS hp,fun j o _ h=>bo h⟩
 have:=hi s y hh hy
 subst hh
 exact .yJ hw ho hu rfl ht hs0 hz hx this h0 hb hn
·refine⟨some ⟨idx,0,some (vex+1)⟩,n+m,hk.set idx (av.aj (cells++cs) (vex+1) true e),fun all o s x y hh hw ho hx hy=>?_,.inr ⟨idx,vex+1,h1,rfl,aw h3⟩,aY hp h1,fun j o hj h=>?_⟩
 ·have h4:=hi s y hh hy
  subst hh
  have:=One.Ko (N:=env) hw ho hu rfl ht hs0 hz hx h3 om h4 hb hn
  rwa [List.take_of_length_le om] at this
 ·simp only[bX,beq_eq_false_iff_ne] at hj
  rw[aD hj]
  exact h}
theorem cT.kp {α:Type} {f:α→Value→List Value} {R:ah→Value→α→Prop} {et:TypeId} {w:Nat} {a b:ah} {v:Value} {l:List α} {ts:List TypeId} (h:cT f R et w a v l) (k:cd ts a b) (hn:et∉ts) (hR:∀ u x,R a u x→R b u x):cT f R et w b v l:=by
 obtain⟨us,hl,hs,hu⟩:=h
 exact⟨us,hl,hs.kp k hn,fun i x u h1 h2=>hR _ _ (hu i x u h1 h2)⟩
theorem eP.kp {a b:ah} {v:Value} {l:List Prod} {ts:List TypeId} (h:eP a v l) (k:cd ts a b) (h1:51∉ts) (h2:56∉ts):eP b v l:=cT.kp h k h1 fun u x hu=>bW.kp hu k h2
section
variable {h0 hk:ah} {im:Nat} {m:MK} {d:b7} {es:List (ByteArray×Int)} {ks:List (bI×Int)}
theorem lD {k:Nat} (hk:k<d.aa.length):iI d (k+1)=iI d k++ji d k d.aa[k]:=by
 conv=>lhs;unfold iI
 rw[List.getElem?_eq_getElem hk]
theorem rA {p:Prod} (h:fU p.al≤4):jy p≤16:=by{
unfold jy
generalize fU p.al=o at h
have:o=0∨o=1∨o=2∨o=3∨o=4:=by omega
rcases this with rfl|rfl|rfl|rfl|rfl<;>decide}
theorem mI (G:∀ p∈d.aa,wx d p):∀ k,(iI d k).length≤16*k
 | 0=>by simp [iI]
 | k+1=>by
   have h:=mI G k
   by_cases hk:k<d.aa.length
   ·rw[lD hk,List.length_append]
    have h2:(ji d k d.aa[k]).length≤16:=by
     unfold ji
     rw[List.length_map,List.length_range]
     exact rA (G _ (List.getElem_mem hk)).o
    omega
   ·have:iI d (k+1)=iI d k:=by
     conv=>lhs;unfold iI
     rw[List.getElem?_eq_none om]
    rw[this]
    omega
theorem KH {k:bI} (S:m.lL=bP d):(!k.lex&&decide (0≤m.lL))=(!k.lex && !cN d.layout):=by{
rw[S]
unfold bP
cases cN d.layout with
| true=>simp
| false=>
  rw[if_neg (by decide)]
  have:decide (0≤((nS d+nK d:Nat):Int))=true:=decide_eq_true om
  rw[this]
  rfl}
theorem xF {ha:ah} {i6 i1 i9:Nat} {k:bI} {l:List bd} {v:Value} (hp:ha <+: hk) (h9:ha.length≤i9) (S:m.lL=bP d) (ho:ha[im]? = some (.aj m.cells 0 true 94)) (hx6:ha[i6]? = some (.aj k.cells 0 true 154)) (hx1:ha[i1]? = some (.aj [.pointer (some ⟨im,0,some 0⟩)] 0 true 89)) (hx9:hk[i9]? = some (.aj [v] 0 true 61)) (hG:aK ha hk v l.length (l.flatMap bd.cells) 65) (hl:l.length≤100000) : FW env 100 [.pointer (some ⟨i6,0,some 0⟩),.pointer (some ⟨i1,0,some 0⟩),.pointer (some ⟨i9,0,some 0⟩)] hk fun r h'=>r = .tuple #[]∧ha <+: h'∧∃ v',h'[i9]? = some (.aj [v'] 0 true 61)∧aK ha h' v' (l++eS d k).length ((l++eS d k).flatMap bd.cells) 65:=by{
have hob:=ag hp ho
have hk6:=ag hp hx6
have hk1:=ag hp hx1
unfold MK.cells at hob
unfold bI.cells at hk6
have hB:=KH (k:=k) S
obtain⟨q,c,rfl⟩:=hG.form
refine fe Tryz.func100 ?_;simp only[push_cast]
cases hlx:k.lex with
| true=>
  rw[hlx] at hk6
  have hK:eS d k=[]:=by unfold eS;rw[hlx];rfl
  rw[hK,List.append_nil]
  refine aG hk6 ?_
  refine ae rfl ?_
  refine aB ?_
  exact⟨_,ak,rfl,hp,_,hx9,hG⟩
| false=>
rw[hlx] at hk6 hB
cases hem:cN d.layout with
| true=>
  rw[hem] at hB
  have dg:decide (0≤m.lL)=false:=by simpa using hB
  have hK:eS d k=[]:=by unfold eS;rw[hem,hlx];rfl
  rw[hK,List.append_nil]
  refine fN hk6 hk1 hob dg ?_
  refine ae rfl ?_
  refine aB ?_
  exact⟨_,ak,rfl,hp,_,hx9,hG⟩
| false=>
  rw[hem] at hB
  have dg:decide (0≤m.lL)=true:=by simpa using hB
  have hK:eS d k=[dN (bP d)]:=by unfold eS;rw[hem,hlx];rfl
  rw[hK]
  obtain⟨p2,c2,h2,hone,k1,k2,k3,k4,k5⟩:=gN (cs:=bd.cells (dN (bP d))) (t:=61) kr vW (by decide) rfl hG hp (by rw[kb]) rfl (by simp only;omega) om
  have n9:bX (.slice q l.length c) i9=false:=by
   cases hbb:bX (.slice q l.length c) i9 with
   | false=>rfl
   | true=>
     obtain⟨ver2,h5⟩:=hG.obj hbb
     rw[hx9] at h5
     simp only[Option.some.injEq,av.aj.injEq] at h5
     exact absurd h5.2.2.2 (by decide)
  have hx92:=k3 _ _ n9 hx9
  rw[S] at hob
  rw[S] at dg
  refine fN hk6 hk1 hob dg ?_
  refine af rfl ?_
  refine aB ?_
  refine aA [(0,.val (.pointer (some ⟨i6,0,some 0⟩))),(1,.val (.pointer (some ⟨i1,0,some 0⟩))),(2,.val (.pointer (some ⟨i9,0,some 0⟩)))] aO ?_
  show CW _ _ ⟨_,[],hk⟩ _
  apply bi (L:=[[],[],[1],[1,2],[1,2,3],[1,2,3,4],[1,2,3,4,5],[0,1,2,3,4,5,6],[0,1,2,3,4,5,6,7]]) (act:=[7,8]) (hs:=[h2,h2.set i9 (.aj [.slice p2 (l.length+1) c2] 0 true 61)]) (resL:=[_,_,_,_,_,_,_,_,_]) (frF:=[])
  case hm=>exact mixed
  case hc=>kernel_rfl
  case ha=>rfl
  case hb=>rfl
  case hS=>
   refine LX hx9 hk1 hob ?_
   apply az.cons
   ·rfl
   ·refine⟨?_,trivial⟩
    exact bg (fn:=Tryz.f99) (args:=[i64 (bP d)]) (cap:=[]) rfl ak rfl ak ak Tryz.func99 kr kr lN
   ·rfl
   refine LX hx9 hk1 hob ?_
   apply az.cons
   ·rfl
   ·refine⟨?_,trivial⟩
    exact hone _ _ _ _ _ rfl ak rfl ak ak
   ·rfl
   refine FO hx9 hx92 ?_
   apply az.cons
   ·rfl
   ·refine⟨?_,trivial⟩
    exact One.jn (r:=.sl .dy) (cells':=[.slice p2 (l.length+1) c2]) ak rfl ak ak hx92 ak rfl rfl rfl
   ·rfl
   exact az.nil _
  case ht=>rfl
  case hF=>exact zh
  refine⟨_,ak,rfl,aY k2 h9,.slice p2 (l.length+1) c2,aw hx92,?_⟩
  rw[List.length_append,List.flatMap_append,List.flatMap_singleton]
  exact k1.mono fun j o hj ho=>by
   show (h2.set i9 _)[j]? = some o
   rw[aD ?_]
   ·exact ho
   ·rintro rfl
    rcases k4 _ hj with a|a
    ·rw[n9] at a;cases a
    ·have:=cX hx9;omega}
end
structure nL (d:b7):Prop where
 p:∀ p∈d.aa,wx d p
 n:d.aa.length≤200
 st:d.start∈aF d.aa
 ly:cN d.layout=true∨d.layout∈aF d.aa
 k:∀ k∈bj d.aa,(cN k.name=true∨k.name∈aF d.aa)∧k.sep.size≤32
 kn:(bj d.aa).length≤3000
theorem Ga {l:List bI} {i:Nat} (hi:i<l.length):je (l.flatMap bI.cells) (i*7) 7=some [.bool l[i].lex,.string l[i].name,u64 l[i].set.a,u64 l[i].set.b,u64 l[i].set.c,u64 l[i].set.d,.string l[i].sep]:=bG (f:=bI.cells) (fun _=>rfl) l i l[i] (by simp [hi])
section
variable {h0 hk:ah} {im:Nat} {m:MK} {d:b7} {es:List (ByteArray×Int)} {ks:List (bI×Int)}
structure JG (h0 hb:ah) (im:Nat) (m:MK) (x:ah×Value×Value) (l:List (dt×gD)):Prop where
 M:MR h0 x.1 im { m with vr:=x.2.1,vf:=x.2.2 } l
 K:cd Hl hb x.1
theorem yk {l:List bI} {k:Nat} (hk:k<l.length):iY d (l.take (k+1))=iY d (l.take k)++B6 d l[k]:=by
 unfold iY
 rw[List.take_succ_eq_append_getElem hk,List.flatMap_append,List.flatMap_singleton]
theorem nT {l:List bI}:(iY d l).length=2*l.length:=by{
unfold iY
induction l with
| nil=>rfl
| cons k l ih=>rw[List.flatMap_cons,List.length_append,ih];simp [B6];omega}
theorem Fp (M:MR h0 hk im m []) (S:MS hk m d es ks) (hP:eP hk m.vP d.aa) (hs1:m.start=d.start) (hs2:m.layout=d.layout) (hO:aK h0 hk m.vo (bj d.aa).length ((bj d.aa).flatMap bI.cells) 154) (G:nL d) (hst:m.st=(dU d:Int)) : FW env 34 [.pointer (some ⟨im,0,some 0⟩)] hk fun r h'=>r = .tuple #[]∧∃ vr vf,MR h0 h' im { m with vr:=vr,vf:=vf } (wP d)∧cd Hl hk h':=by{
have hlP:=cT.le hP
obtain⟨pP,cP,hvP⟩:=cT.form hP
refine fe Tryz.func34 ?_;simp only[push_cast]
refine zu ?_
refine dw (t:=89) (cs:=[.pointer (some ⟨im,0,some 0⟩)]) ak ak ?_
dsimp only[St.aX,St.put]
have hpA:hk <+: hk++[av.aj [.pointer (some ⟨im,0,some 0⟩)] 0 true 89]:=aI
have hx1:(hk++[av.aj [.pointer (some ⟨im,0,some 0⟩)] 0 true 89])[hk.length]? = some (.aj [.pointer (some ⟨im,0,some 0⟩)] 0 true 89):=aJ
generalize (hk++[av.aj [.pointer (some ⟨im,0,some 0⟩)] 0 true 89])=hb at hpA hx1 ⊢
generalize hi1:hk.length=i1 at hx1 ⊢
have KA:cd Hl hk hb:=cd.pre hpA
have MB:=M.pre hpA
have SB:=S.ed KA
have hPB:=hP.mono hpA
have hOB:=hO.ed KA (by decide)
have hobB:=MB.o
unfold MK.cells at hobB
rw[hvP] at hobB hPB
have hPB':eP hb (.slice pP d.aa.length cP) d.aa:=hPB
refine fM hx1 hobB ?_
refine CW.mono (Q:=fun e s'=>e = .exit 0∧∃ x:ah×Value×Value,JG h0 hb im m x (iI d d.aa.length)∧s'.h=x.1∧bB [(1,.val (.pointer (some ⟨i1,0,some 0⟩)))] s'.fr) ?_ ?_
·refine a9 d.aa.length (fun k (x:ah×Value×Value)=>[(1,.val (.pointer (some ⟨i1,0,some 0⟩))),(18,.val (.slice pP d.aa.length cP)),(19,.val (i64 d.aa.length)),(20,.val (i64 k))]) (fun _ x=>x.1) (fun k x=>JG h0 hb im m x (iI d k)) (hb,m.vr,m.vf) aO rfl ⟨MB,cd.refl⟩ ?_
 rintro k ⟨hc,vr,vf⟩ hkn I
 by_cases hlt:k<d.aa.length
 ·have hPC:=hPB'.kp I.K (by decide) (by decide)
  simp only at hPC
  obtain⟨id,au,own,c',cells,u,hv,hid,hrd,hu⟩:=cT.at (k:=5) (fun _ _=>rfl) hPC hlt
  cases hv
  have hu:fV hc u d.aa[k].al:=hu
  have hu0:=hu
  obtain⟨ps,cs,rfl⟩:=bW.form hu
  have w1:=cH hlt
  have w2:=inc hlt om
  have q3:=aV hlt
  have GP:=G.p _ (List.getElem_mem hlt)
  have hmk:=rA GP.o
  have hrl:=mI G.p k
  have hn2:=G.n
  refine aG q3 ?_
  refine af rfl ?_
  refine ir w1 hid hrd ?_
  refine zj Tryz.func95 ?_
  refine (DN hu0 GP.o).mono ?_
  rintro _ h2 ⟨rfl,e7⟩
  obtain rfl:=e7.symm
  have hsucc:=lD hlt
  unfold ji at hsucc
  generalize jy d.aa[k]=N at hmk hsucc
  refine aB ?_
  refine a9 N (fun j (x:ah×Value×Value)=>[(1,.val (.pointer (some ⟨i1,0,some 0⟩))),(2,.val (i64 k)),(18,.val (.slice (some ⟨id,0,some au⟩) d.aa.length cP)),(19,.val (i64 d.aa.length)),(20,.val (i64 k)),(26,.val (i64 N)),(27,.val (i64 j))]) (fun _ x=>x.1) (fun j x=>JG h0 hb im m x (iI d k++(List.range j).map fun q=>iv d k d.aa[k] q)) (hc,vr,vf) aO rfl (by rw[List.range_zero,List.map_nil,List.append_nil];exact I) ?_
  rintro j ⟨hd4,vr4,vf4⟩ hjn J
  by_cases hjl:j<N
  ·have v1:=cH hjl
   have v2:=inc hjl om
   have v3:=aV hjl
   have hx4:=J.K _ _ hx1 (dG (by decide))
   have hPJ:=hPB.kp J.K (by decide) (by decide)
   have SJ:=SB.ed J.K
   have MJ:=J.M
   simp only at hx4 hPJ SJ MJ ⊢
   have SJ':MS hd4 { m with vr:=vr4,vf:=vf4 } d es ks:=⟨SJ.sm,SJ.sg,SJ.lm,SJ.lg,SJ.gp⟩
   have hPJ':eP hd4 ({ m with vr:=vr4,vf:=vf4 }:MK).vP d.aa:=by show eP hd4 m.vP _;rw[hvP];exact hPJ
   refine aG v3 ?_
   refine af rfl ?_
   refine aG hx4 ?_
   refine zj Tryz.func96 ?_
   refine (Fy MJ SJ' hPJ' (kC:=k) (mask:=j) hlt GP om (by simp only[List.length_append,List.length_map,List.length_range];omega)).mono ?_
   rintro _ h5 ⟨rfl,vr5,vf5,M5,K5⟩
   refine aG v2 ?_
   refine⟨hjl,(h5,vr5,vf5),aO,rfl,⟨?_,J.K.trans K5⟩⟩
   rw[List.range_succ,List.map_append,← List.append_assoc]
   exact M5
  ·have v3:=aT hjl
   obtain rfl:j=N:=by omega
   simp only
   refine aG v3 ?_
   refine ae rfl ?_
   refine aC ?_
   show CW _ _ _ _
   refine aG w2 ?_
   refine⟨hlt,(hd4,vr4,vf4),aO,rfl,?_⟩
   show JG _ _ _ _ _ (iI d (k+1))
   rw[hsucc]
   exact J
 ·have e3:=aT hlt
  obtain rfl:k=d.aa.length:=by omega
  simp only
  refine aG e3 ?_
  refine ae rfl ?_
  refine aC ?_
  exact⟨rfl,(hc,vr,vf),I,rfl,aO⟩
rintro e s' ⟨rfl,⟨h2,vr2,vf2⟩,I,hh,hf⟩
show CW _ _ _ _
refine aA _ hf ?_
rw[hh]
clear hf hh s'
obtain⟨qo,co,hvo⟩:=hOB.form
have hx2:=I.K _ _ hx1 (dG (by decide))
have hob2:=I.M.o
simp only[MK.cells,hvo] at hob2
simp only at hx2
have hrN:=mI G.p d.aa.length
have hn200:=G.n
have hkn:=G.kn
refine fM hx2 hob2 ?_
refine CW.mono (Q:=fun e s'=>e = .exit 4∧∃ x:ah×Value×Value,JG h0 hb im m x (iI d d.aa.length++iY d (bj d.aa))∧s'.h=x.1∧bB [(1,.val (.pointer (some ⟨i1,0,some 0⟩)))] s'.fr) ?_ ?_
·refine a9 (bj d.aa).length (fun k (x:ah×Value×Value)=>[(1,.val (.pointer (some ⟨i1,0,some 0⟩))),(39,.val (.slice qo (bj d.aa).length co)),(40,.val (i64 (bj d.aa).length)),(41,.val (i64 k))]) (fun _ x=>x.1) (fun k x=>JG h0 hb im m x (iI d d.aa.length++iY d ((bj d.aa).take k))) (h2,vr2,vf2) aO rfl (by rw[List.take_zero];show JG _ _ _ _ _ (_++[]);rw[List.append_nil];exact I) ?_
 rintro k ⟨hc,vr,vf⟩ hkn' J
 by_cases hlt:k<(bj d.aa).length
 ·have hOC:=hOB.ed J.K (by decide)
  simp only[hvo] at hOC
  obtain⟨id,au,own,c',hv,hid⟩:=(hOC.sl (b:=72) om).at om
  cases hv
  have hkg:=Ga hlt
  have w1:=cH hlt
  have w2:=inc hlt om
  have q3:=aV hlt
  have htk:=yk (d:=d) hlt
  obtain⟨hKn,hKs⟩:=G.k _ (List.getElem_mem hlt)
  have hKm:=List.getElem_mem hlt
  generalize (bj d.aa)[k]=K at hkg htk hKn hKs hKm
  have hlk:(iY d ((bj d.aa).take k)).length≤2*k:=by rw[nT,List.length_take];omega
  generalize hLL:iI d d.aa.length++iY d ((bj d.aa).take k)=L at J
  have hLl:L.length≤10000:=by rw[← hLL,List.length_append];omega
  have MJ:=J.M
  simp only at MJ hid ⊢
  refine aG q3 ?_
  refine af rfl ?_
  refine zu ?_
  iterate 2 (refine zx (MU w1 hid hkg) ?_)
  refine dw (t:=154) (cs:=[.bool false,.string ⟨#[]⟩,u64 0,u64 0,u64 0,u64 0,.string ⟨#[]⟩]) ak ak ?_
  dsimp only[St.aX,St.put]
  refine ch (v:=K.val) (vs:=K.cells) (cells':=K.cells) ak rfl rfl rfl ak aJ ak rfl rfl ?_
  dsimp only
  have hset:(hc++[av.aj [.bool false,.string ⟨#[]⟩,u64 0,u64 0,u64 0,u64 0,.string ⟨#[]⟩] 0 true 154]).set hc.length (.aj K.cells 0 true 154)=hc++[.aj K.cells 0 true 154]:=by simp
  rw[hset]
  have hp3:hc <+: hc++[av.aj K.cells 0 true 154]:=aI
  have hk3:(hc++[av.aj K.cells 0 true 154])[hc.length]? = some (.aj K.cells 0 true 154):=aJ
  generalize (hc++[av.aj K.cells 0 true 154])=h3 at hp3 hk3 ⊢
  generalize hc.length=i6 at hk3 ⊢
  have K3:cd Hl hb h3:=J.K.trans (cd.pre hp3)
  have M3:=MJ.pre hp3
  have hx3:=K3 _ _ hx1 (dG (by decide))
  have S3:=SB.ed K3
  have hob3:=M3.o
  have hk3':=hk3
  simp only[MK.cells] at hob3
  simp only[bI.cells] at hk3'
  have hlm:=S3.lm
  have hgl:=S3.lg _ hKm
  have hkk:=qf ks
  have hkd:=uH K
  unfold ku at hkk hkd
  refine aB ?_
  refine aL 6 mixed kr ?_
  refine y8 hx3 hob3 hk3' hlm hgl hkk hkd ?_
  have S3':MS h3 { m with vr:=vr,vf:=vf } d es ks:=⟨S3.sm,S3.sg,S3.lm,S3.lg,S3.gp⟩
  refine zj Tryz.func97 ?_
  refine (xY M3.o S3' hKn).mono ?_
  rintro _ h4 ⟨rfl,e7⟩
  obtain rfl:=e7.symm
  generalize hPK:mZ d K.name K.set=PK
  refine aB ?_
  iterate 3 (refine zx (OS hx3) ?_)
  refine cz (t:=65) (cs:=bd.cells PK) (n:=1) ak kr ?_
  dsimp only[St.aX,St.put]
  have hp5:h3 <+: h3++[av.aj (bd.cells PK) 0 true 65]:=aI
  have hu5:aK h3 (h3++[av.aj (bd.cells PK) 0 true 65]) (.slice (some ⟨h3.length,0,some 0⟩) 1 1) 1 (bd.cells PK) 65:=.inr ⟨h3.length,0,Nat.le_refl _,rfl,aJ⟩
  generalize (h3++[av.aj (bd.cells PK) 0 true 65])=h5 at hp5 hu5 ⊢
  generalize h3.length=i5 at hu5 ⊢
  refine aB ?_
  refine zj Tryz.func98 ?_
  have hr5:=jX (M3.pre hp5) (lhs:=(my d K:Int)) (kd:=1) (pr:=0) (mk:=0) (rhs:=[PK]) (os:=[]) (uo:=bD) (by simp only[List.flatMap_cons,List.flatMap_nil,List.append_nil];exact hu5.base M3.p) aK.nil om
  refine hr5.mono ?_
  rintro _ h6 ⟨rfl,vr6,vf6,M6,K6⟩
  have K6':cd Hl hb h6:=(K3.trans (cd.pre hp5)).trans K6
  have hx6:=K6' _ _ hx1 (dG (by decide))
  have hk6:=((cd.pre (ts:=Hl) hp5).trans K6) _ _ hk3 (dG (by decide))
  simp only at M6
  refine aB ?_
  refine zj Tryz.func99 ?_
  refine lN.mono ?_
  rintro _ h7 ⟨rfl,e7⟩
  obtain rfl:=e7.symm
  refine cz (t:=65) (cs:=bd.cells (dN (my d K))) (n:=1) ak kr ?_
  dsimp only[St.aX,St.put]
  have hp7:h6 <+: h6++[av.aj (bd.cells (dN (my d K))) 0 true 65]:=aI
  have hu7:aK h6 (h6++[av.aj (bd.cells (dN (my d K))) 0 true 65]) (.slice (some ⟨h6.length,0,some 0⟩) 1 1) 1 (bd.cells (dN (my d K))) 65:=.inr ⟨h6.length,0,Nat.le_refl _,rfl,aJ⟩
  generalize (h6++[av.aj (bd.cells (dN (my d K))) 0 true 65])=h7 at hp7 hu7 ⊢
  generalize hv7:Value.slice (some ⟨h6.length,0,some 0⟩) 1 1=v7 at hu7 ⊢
  have hvc7:dQ 1 v7=some [v7]:=by rw[← hv7];rfl
  refine dw (t:=61) (cs:=[bD]) ak ak ?_
  dsimp only[St.aX,St.put]
  refine ch (v:=v7) (vs:=[v7]) (cells':=[v7]) ak rfl rfl rfl ak aJ ak (by rw[← hv7];rfl) rfl ?_
  dsimp only
  have hset8:(h7++[av.aj [bD] 0 true 61]).set h7.length (.aj [v7] 0 true 61)=h7++[.aj [v7] 0 true 61]:=by simp
  rw[hset8]
  have hp8:h6 <+: h7++[av.aj [v7] 0 true 61]:=cS hp7
  have hx8:(h7++[av.aj [v7] 0 true 61])[h7.length]? = some (.aj [v7] 0 true 61):=aJ
  have hu8:aK h6 (h7++[av.aj [v7] 0 true 61]) v7 1 (bd.cells (dN (my d K))) 65:=hu7.mono fun j o _ ho=>bo ho
  generalize (h7++[av.aj [v7] 0 true 61])=h8 at hp8 hx8 hu8 ⊢
  have hl9:h6.length≤h7.length:=hp7.length_le
  generalize h7.length=i9 at hx8 hl9 ⊢
  refine aB ?_
  refine zc (f:=100) (cap:=[.pointer (some ⟨i6,0,some 0⟩),.pointer (some ⟨i1,0,some 0⟩),.pointer (some ⟨i9,0,some 0⟩)]) (args:=[]) (fn:=Tryz.f100) ak Tryz.func100 kr kr ?_
  have hgp:({ m with vr:=vr6,vf:=vf6 }:MK).lL=bP d:=SB.gp
  refine (xF (ha:=h6) (l:=[dN (my d K)]) hp8 hl9 hgp M6.o hk6 hx6 hx8 (by simp only[List.flatMap_cons,List.flatMap_nil,List.append_nil];exact hu8) (by simp)).mono ?_
  rintro _ h9 ⟨rfl,hp9,v9,hx9,hu9⟩
  have hsl:(eS d K).length≤1:=by unfold eS;split<;>simp
  have hl1:([dN (my d K)]++eS d K).length≤2:=by rw[List.length_append,List.length_singleton];omega
  have hmore:tb d K=([dN (my d K)]++eS d K)++(if cN K.sep=true then [] else fu K.sep++eS d K)++[PK]:=by rw[← hPK];rfl
  generalize hL1:[dN (my d K)]++eS d K=L1 at hu9 hl1 hmore
  obtain⟨L2,hL2⟩:∃ L2,L2=L1++(if cN K.sep=true then [] else fu K.sep++eS d K):=⟨_,rfl⟩
  rw[← hL2] at hmore
  have hk9:=ag hp9 hk6
  simp only[bI.cells] at hk9
  refine aG hk9 ?_
  refine CW.mono (Q:=fun e s'=>e = .normal∧∃ (h10:ah) (v10:Value),h6 <+: h10∧h10[i9]? = some (.aj [v10] 0 true 61)∧aK h6 h10 v10 L2.length (L2.flatMap bd.cells) 65∧s'.h=h10∧bB [(1,.val (.pointer (some ⟨i1,0,some 0⟩))),(6,.val (.pointer (some ⟨i6,0,some 0⟩))),(7,.val (i64 (my d K:Int))),(8,.box [i64 PK.nt,u64 PK.set.a,u64 PK.set.b,u64 PK.set.c,u64 PK.set.d]),(9,.val (.pointer (some ⟨i9,0,some 0⟩))),(39,.val (.slice (some ⟨id,0,some au⟩) (bj d.aa).length co)),(40,.val (i64 (bj d.aa).length)),(41,.val (i64 k))] s'.fr) ?_ ?_
  ·by_cases qs:K.sep=⟨#[]⟩
   ·have d1:=decide_eq_true qs
    rw[if_pos (by unfold cN;exact d1),List.append_nil] at hL2
    rw[d1,hL2]
    refine ae rfl ?_
    refine cj ?_
    exact⟨rfl,h9,v9,hp9,hx9,hu9,rfl,aO⟩
   ·have d1:=decide_eq_false qs
    rw[if_neg (by unfold cN;rw[d1];decide)] at hL2
    rw[d1]
    refine af rfl ?_
    refine aB ?_
    have hlit:=E9 (h:=h9) (t:=K.sep) om
    unfold FW at hlit
    obtain⟨rl,h11,hcallL,hp11,hGl⟩:=hlit
    obtain⟨ql,cl,rfl⟩:=hGl.form
    have hll:(fu K.sep).length=K.sep.size:=by unfold fu;simp
    have hs0:0<K.sep.size:=by
     rcases Nat.eq_zero_or_pos K.sep.size with a|a
     ·exact absurd (jd.2 a) qs
     ·exact a
    have hu11:=hu9.ed (cd.pre (ts:=[]) hp11) (by simp)
    have hx11:=ag hp11 hx9
    have n9:bX v9 i9=false:=by
     cases hbb:bX v9 i9 with
     | false=>rfl
     | true=>
       obtain⟨ver2,h5⟩:=hu9.obj hbb
       rw[hx9] at h5
       simp only[Option.some.injEq,av.aj.injEq] at h5
       exact absurd h5.2.2.2 (by decide)
    obtain⟨p12,c12,h12,honeL,k2,k1,k3⟩:=A2 (t:=61) kr vW (by decide) rfl hu11 (hp9.trans hp11) (by rw[kb]) (hGl.sl (b:=40) om) (by rw[kb]) om (by simp only;omega) om
    have hx12:=k3 _ _ n9 hx11
    have hk11:=ag hp11 hk9
    obtain⟨v12,hv12⟩:∃ v,v=Value.slice p12 (L1.length+(fu K.sep).length) c12:=⟨_,rfl⟩
    have hvc12:dQ 1 v12=some [v12]:=by rw[hv12];rfl
    rw[← hv12] at k2 honeL
    refine aA [(1,.val (.pointer (some ⟨i1,0,some 0⟩))),(6,.val (.pointer (some ⟨i6,0,some 0⟩))),(7,.val (i64 (my d K:Int))),(8,.box [i64 PK.nt,u64 PK.set.a,u64 PK.set.b,u64 PK.set.c,u64 PK.set.d]),(9,.val (.pointer (some ⟨i9,0,some 0⟩))),(10,.val (.func (.func 100) #[] #[.pointer (some ⟨i6,0,some 0⟩),.pointer (some ⟨i1,0,some 0⟩),.pointer (some ⟨i9,0,some 0⟩)])),(39,.val (.slice (some ⟨id,0,some au⟩) (bj d.aa).length co)),(40,.val (i64 (bj d.aa).length)),(41,.val (i64 k))] aO ?_
    show CW _ _ ⟨_,[],h9⟩ _
    try apply zs
    apply bi (L:=[[],[],[1],[1,2],[0,1,2,3],[0,1,2,3,4]]) (act:=[3,4,5]) (hs:=[h11,h12,h12.set i9 (.aj [v12] 0 true 61)]) (resL:=[_,_,_,_,_,_]) (frF:=[(1,.val (.pointer (some ⟨i1,0,some 0⟩))),(6,.val (.pointer (some ⟨i6,0,some 0⟩))),(7,.val (i64 (my d K:Int))),(8,.box [i64 PK.nt,u64 PK.set.a,u64 PK.set.b,u64 PK.set.c,u64 PK.set.d]),(9,.val (.pointer (some ⟨i9,0,some 0⟩))),(10,.val (.func (.func 100) #[] #[.pointer (some ⟨i6,0,some 0⟩),.pointer (some ⟨i1,0,some 0⟩),.pointer (some ⟨i9,0,some 0⟩)])),(39,.val (.slice (some ⟨id,0,some au⟩) (bj d.aa).length co)),(40,.val (i64 (bj d.aa).length)),(41,.val (i64 k))])
    case hm=>exact mixed
    case hc=>kernel_rfl
    case ha=>rfl
    case hb=>rfl
    case hS=>
     refine tT hx9 hx11 hk9 hk11 ?_
     apply az.cons
     ·rfl
     ·refine⟨?_,trivial⟩
      exact dA (args:=[.string K.sep]) (cap:=[]) (fn:=Tryz.f101) ak rfl ak ak Tryz.func101 kr kr hcallL
     ·rfl
     apply az.cons
     ·rfl
     ·refine⟨?_,trivial⟩
      exact honeL _ _ _ _ _ rfl ak rfl ak ak
     ·rfl
     apply az.cons
     ·rfl
     ·refine⟨?_,trivial⟩
      exact One.jn (r:=.sl .dy) (v:=v12) (vs:=[v12]) (cells':=[v12]) ak rfl ak ak hx12 ak hvc12 rfl rfl
     ·rfl
     exact az.nil _
    case ht=>rfl
    case hF=>exact zh
    show CW _ _ _ _
    have hx13:(h12.set i9 (.aj [v12] 0 true 61))[i9]? = some (.aj [v12] 0 true 61):=aw hx12
    have hp13:h6 <+: h12.set i9 (.aj [v12] 0 true 61):=aY k1 hl9
    have hu13:aK h6 (h12.set i9 (.aj [v12] 0 true 61)) v12 (L1++fu K.sep).length ((L1++fu K.sep).flatMap bd.cells) 65:=by
     rw[List.length_append,List.flatMap_append]
     exact k2.ed (cd.set hx12) (by decide)
    generalize (h12.set i9 (av.aj [v12] 0 true 61))=h13 at hx13 hp13 hu13 ⊢
    refine aB ?_
    refine zc (f:=100) (cap:=[.pointer (some ⟨i6,0,some 0⟩),.pointer (some ⟨i1,0,some 0⟩),.pointer (some ⟨i9,0,some 0⟩)]) (args:=[]) (fn:=Tryz.f100) ak Tryz.func100 kr kr ?_
    refine (xF (ha:=h6) (l:=L1++fu K.sep) hp13 hl9 hgp M6.o hk6 hx6 hx13 hu13 (by rw[List.length_append];omega)).mono ?_
    rintro _ h14 ⟨rfl,hp14,v14,hx14,hu14⟩
    refine aB ?_
    refine⟨rfl,h14,v14,hp14,hx14,?_,rfl,aO⟩
    rw[hL2,← List.append_assoc]
    exact hu14
  rintro e s' ⟨rfl,h10,v10,hp10,hx10,hu10,hh,hf⟩
  show CW _ _ _ _
  refine aA _ hf ?_
  rw[hh]
  clear hf hh s'
  have hx1':=ag hp10 hx6
  have hL2l:L2.length≤100:=by
   rw[hL2,List.length_append]
   have:(fu K.sep).length=K.sep.size:=by unfold fu;simp
   split
   ·simp;omega
   ·rw[List.length_append];omega
  obtain⟨q10,c10,rfl⟩:=hu10.form
  obtain⟨p11,c11,h11,hone,k1,k2,k3,k4,k5⟩:=gN (cs:=bd.cells PK) (t:=61) kr vW (by decide) rfl hu10 hp10 (by rw[kb]) rfl (by simp only;omega) om
  have hML:tb d K=L2++[PK]:=hmore
  have hx1'':=ag k2 hx6
  have hr11:=jX (M6.pre k2) (lhs:=(my d K:Int)) (kd:=2) (pr:=0) (mk:=0) (ur:=.slice p11 (L2.length+1) c11) (rhs:=tb d K) (os:=[]) (uo:=bD) (by
   rw[hML,List.length_append,List.flatMap_append,List.flatMap_singleton]
   exact k1.base M6.p) aK.nil (by rw[List.length_append,List.length_singleton];omega)
  unfold FW at hr11
  obtain⟨r12,h12,hcall,rfl,vr12,vf12,M12,K12⟩:=hr11
  refine aA [(1,.val (.pointer (some ⟨i1,0,some 0⟩))),(7,.val (i64 (my d K:Int))),(8,.box [i64 PK.nt,u64 PK.set.a,u64 PK.set.b,u64 PK.set.c,u64 PK.set.d]),(9,.val (.pointer (some ⟨i9,0,some 0⟩))),(39,.val (.slice (some ⟨id,0,some au⟩) (bj d.aa).length co)),(40,.val (i64 (bj d.aa).length)),(41,.val (i64 k))] aO ?_
  show CW _ _ ⟨_,[],h10⟩ _
  apply bi (L:=[[],[],[],[],[3],[2,3,4],[],[0,1,2,3,4,5,6]]) (act:=[5,7]) (hs:=[h11,h12]) (resL:=[_,_,_,_,_,_,_,_]) (frF:=[(1,.val (.pointer (some ⟨i1,0,some 0⟩))),(39,.val (.slice (some ⟨id,0,some au⟩) (bj d.aa).length co)),(40,.val (i64 (bj d.aa).length)),(41,.val (i64 k))])
  case hm=>exact mixed
  case hc=>kernel_rfl
  case ha=>rfl
  case hb=>rfl
  case hS=>
   refine LX hx1' hx1'' hx10 ?_
   apply az.cons
   ·rfl
   ·refine⟨?_,trivial⟩
    exact hone _ _ _ _ _ rfl ak rfl ak ak
   ·rfl
   refine LX hx1' hx1'' hx10 ?_
   apply az.cons
   ·rfl
   ·refine⟨?_,trivial⟩
    exact dA (args:=[.pointer (some ⟨im,0,some 0⟩),i64 (my d K:Int),.slice p11 (L2.length+1) c11,.agg #[i64 2,i64 0,i64 0,bD]]) (cap:=[]) (fn:=Tryz.f98) ak rfl ak ak Tryz.func98 kr kr hcall
   ·rfl
   exact az.nil _
  case ht=>rfl
  case hF=>exact zh
  show CW _ _ _ _
  refine aG w2 ?_
  refine⟨hlt,(h12,vr12,vf12),aO,rfl,⟨?_,(K6'.trans (cd.pre k2)).trans K12⟩⟩
  rw[htk,← List.append_assoc,hLL]
  unfold B6
  rw[hPK]
  have e:L++[((⟨(my d K:Int),[PK]⟩,⟨1,0,0,[]⟩):dt×gD),(⟨(my d K:Int),tb d K⟩,⟨2,0,0,[]⟩)]=(L++[(⟨(my d K:Int),[PK]⟩,⟨1,0,0,[]⟩)])++[(⟨(my d K:Int),tb d K⟩,⟨2,0,0,[]⟩)]:=by simp
  rw[e]
  exact M12
 ·have e3:=aT hlt
  obtain rfl:k=(bj d.aa).length:=by omega
  rw[List.take_length] at J
  simp only
  refine aG e3 ?_
  refine ae rfl ?_
  refine aC ?_
  exact⟨rfl,(hc,vr,vf),J,rfl,aO⟩
clear hob2 hx2 I
rintro e s' ⟨rfl,⟨hz,vr,vf⟩,I,hh,hf⟩
show CW _ _ _ _
refine aA _ hf ?_
rw[hh]
clear hf hh s'
obtain⟨L,hL⟩:∃ L,L=iI d d.aa.length++iY d (bj d.aa):=⟨_,rfl⟩
rw[← hL] at I
have hLl:L.length≤10000:=by rw[hL,List.length_append,nT];omega
have hros:wP d=L++nB d:=by rw[hL];rfl
have MZ:=I.M
have KZ:=I.K
simp only at MZ KZ ⊢
have hxz:=KZ _ _ hx1 (dG (by decide))
have SZ:=SB.ed KZ
have hsm:=SZ.sm
have hg:=SZ.sg _ G.st
have hgp:=SZ.gp
have hkk:=bm es
have obz:=MZ.o
simp only[MK.cells,hs1,hs2,hst] at obz
show CW _ _ ⟨_,[],hz⟩ _
apply zs
apply An (L:=[[],[0],[0,1],[0,1,2],[0,1,2,3],[0,1,2,3,4],[],[6],[6,7],[6,7,8],[],[10],[10,11],[10,11,12],[10,11,12,13],[10,11,12,13,14],[6,7,8,9,10,11,12,13,14,15],[6,7,8,9,10,11,12,13,14,15,16],[],[0,1,2,3,4,5],[6,7,8,9,10,11,12,13,14,15,16,17,18]]) (act:=[]) (hs:=[]) (resL:=[_,_,_,_,_,_,_,_,_,_,_,_,_,_,_,_,_,_,_,_,.sl .dy]) (frF:=[(1,.val (.pointer (some ⟨i1,0,some 0⟩))),(11,.val (i64 (dU d:Int))),(12,.box (bd.cells (dN (fZ d d.start))))]) (a:=18) (st:=20) (d:=12) (cs':=bd.cells (dN (fZ d d.start)))
case hm=>exact mixed
case hc=>kernel_rfl
case ha=>rfl
case hb=>rfl
case hfree=>rfl
case hna=>rfl
case hanc=>rfl
case ho=>rfl
case hop=>rfl
case hod=>rfl
case hda=>rfl
case hS1=>
 refine Iv hxz obz hsm hg hkk ?_
 apply az.cons
 ·rfl
 ·refine⟨?_,trivial⟩
  exact bg (fn:=Tryz.f99) (args:=[i64 ((fZ d d.start:Nat))]) (cap:=[]) rfl ak rfl ak ak Tryz.func99 kr kr lN
 ·rfl
 exact Q6
case hS2=>exact Q6
case hra=>rfl
case hti=>exact vW
case hw=>intro H;exact ak
case hp=>intro H;exact (by simp only[push_cast,env,Nat.reduceEqDiff,reduceIte,oE,fI]<;>exact rfl)
case hbx=>intro H;exact ak
case hv=>intro H;exact ak
case hvs=>rfl
case hwr=>rfl
case ht=>rfl
case hF=>exact zh
show CW _ _ _ _
cases hem:cN d.layout with
| true=>
  have dg:decide (m.lL<0)=true:=by rw[hgp];unfold bP;rw[if_pos hem];rfl
  have hT:nB d=[(⟨dU d,[dN (fZ d d.start)]⟩,⟨5,0,0,[]⟩)]:=by unfold nB;rw[if_pos hem]
  refine ir hxz obz dg ?_
  refine af rfl ?_
  refine zu ?_
  iterate 3 (refine zx (OS hxz) ?_)
  refine cz (t:=65) (cs:=bd.cells (dN (fZ d d.start))) (n:=1) ak kr ?_
  dsimp only[St.aX,St.put]
  have hp5:hz <+: hz++[av.aj (bd.cells (dN (fZ d d.start))) 0 true 65]:=aI
  have hu5:aK hz (hz++[av.aj (bd.cells (dN (fZ d d.start))) 0 true 65]) (.slice (some ⟨hz.length,0,some 0⟩) 1 1) 1 (bd.cells (dN (fZ d d.start))) 65:=.inr ⟨hz.length,0,Nat.le_refl _,rfl,aJ⟩
  generalize (hz++[av.aj (bd.cells (dN (fZ d d.start))) 0 true 65])=h5 at hp5 hu5 ⊢
  generalize hz.length=i5 at hu5 ⊢
  refine aB ?_
  refine zj Tryz.func98 ?_
  have hr5:=jX (MZ.pre hp5) (lhs:=(dU d:Int)) (kd:=5) (pr:=0) (mk:=0) (rhs:=[dN (fZ d d.start)]) (os:=[]) (uo:=bD) (by simp only[List.flatMap_cons,List.flatMap_nil,List.append_nil];exact hu5.base MZ.p) aK.nil om
  refine hr5.mono ?_
  rintro _ h6 ⟨rfl,vr6,vf6,M6,K6⟩
  refine aB ?_
  refine ai ?_
  refine⟨_,ak,rfl,vr6,vf6,?_,(KA.trans KZ).trans ((cd.pre hp5).trans K6)⟩
  rw[hros,hT]
  exact M6
| false=>
  have hgn:bP d=((nS d+nK d:Nat):Int):=by unfold bP;rw[if_neg (by rw[hem];decide)]
  have dg:decide (m.lL<0)=false:=by rw[hgp,hgn];exact decide_eq_false om
  have hT:nB d=[(⟨bP d,[]⟩,⟨3,0,0,[]⟩),(⟨bP d,[dN (bP d),dN (fZ d d.layout)]⟩,⟨4,0,0,[]⟩),(⟨dU d,[dN (bP d),dN (fZ d d.start),dN (bP d)]⟩,⟨5,0,0,[]⟩)]:=by unfold nB;rw[if_neg (by rw[hem];decide)]
  have hly:=G.ly.resolve_left (by rw[hem];decide)
  refine ir hxz obz dg ?_
  refine ae rfl ?_
  rw[hgp] at obz
  refine aB ?_
  refine aL 6 mixed kr ?_
  refine fM hxz obz ?_
  refine zj Tryz.func98 ?_
  have hr5:=jX MZ (lhs:=bP d) (kd:=3) (pr:=0) (mk:=0) (rhs:=[]) (os:=[]) (ur:=bD) (uo:=bD) aK.nil aK.nil om
  refine hr5.mono ?_
  rintro _ h6 ⟨rfl,vr6,vf6,M6,K6⟩
  have KZ6:=KZ.trans K6
  have hx6:=KZ6 _ _ hx1 (dG (by decide))
  have S6:=SB.ed KZ6
  have hsm6:=S6.sm
  have hg6:=S6.sg _ hly
  have ob6:=M6.o
  simp only[MK.cells,hs1,hs2,hst,hgp] at ob6
  have hp7:h6 <+: h6++[av.aj (bd.cells (dN (bP d))++bd.cells (dN (fZ d d.layout))) 0 true 65]:=aI
  have hu7:aK h6 (h6++[av.aj (bd.cells (dN (bP d))++bd.cells (dN (fZ d d.layout))) 0 true 65]) (.slice (some ⟨h6.length,0,some 0⟩) 2 2) 2 (bd.cells (dN (bP d))++bd.cells (dN (fZ d d.layout))) 65:=.inr ⟨h6.length,0,Nat.le_refl _,rfl,aJ⟩
  have hr7:=jX (M6.pre hp7) (lhs:=bP d) (kd:=4) (pr:=0) (mk:=0) (rhs:=[dN (bP d),dN (fZ d d.layout)]) (os:=[]) (uo:=bD) (by simp only[List.flatMap_cons,List.flatMap_nil,List.append_nil];exact hu7.base M6.p) aK.nil (by rw[List.length_append,List.length_singleton];omega)
  unfold FW at hr7
  obtain⟨r8,h8,hcall8,rfl,vr8,vf8,M8,K8⟩:=hr7
  have hx7:=ag hp7 hx6
  have ob7:=ag hp7 ob6
  have hsm7:=ag hp7 hsm6
  refine aB ?_
  refine aA [(1,.val (.pointer (some ⟨i1,0,some 0⟩))),(11,.val (i64 (dU d:Int))),(12,.box (bd.cells (dN (fZ d d.start))))] aO ?_
  show CW _ _ ⟨_,[],h6⟩ _
  try apply zs
  apply bi (L:=[[],[],[1],[1,2],[1,2,3],[],[5],[5,6],[5,6,7],[5,6,7,8],[],[10],[10,11],[10,11,12],[],[14],[14,15],[14,15,16],[14,15,16,17],[14,15,16,17,18],[10,11,12,13,14,15,16,17,18,19],[10,11,12,13,14,15,16,17,18,19,20],[5,6,7,8,9,10,11,12,13,14,15,16,17,18,19,20,21],[],[0,1,2,3,4,5,6,7,8,9,10,11,12,13,14,15,16,17,18,19,20,21,22,23]]) (act:=[22,24]) (hs:=[h6++[av.aj (bd.cells (dN (bP d))++bd.cells (dN (fZ d d.layout))) 0 true 65],h8]) (resL:=[_,_,_,_,_,_,_,_,_,_,_,_,_,_,_,_,_,_,_,_,_,_,_,_,_]) (frF:=[(1,.val (.pointer (some ⟨i1,0,some 0⟩))),(11,.val (i64 (dU d:Int))),(12,.box (bd.cells (dN (fZ d d.start))))])
  case hm=>exact mixed
  case hc=>kernel_rfl
  case ha=>rfl
  case hb=>rfl
  case hS=>
   refine Iw hx6 ob6 hx7 ob7 hsm6 hsm7 hg6 hkk ?_
   apply az.cons
   ·rfl
   ·refine⟨?_,trivial⟩
    exact bg (fn:=Tryz.f99) (args:=[i64 (bP d)]) (cap:=[]) rfl ak rfl ak ak Tryz.func99 kr kr lN
   ·rfl
   refine Iw hx6 ob6 hx7 ob7 hsm6 hsm7 hg6 hkk ?_
   apply az.cons
   ·rfl
   ·refine⟨?_,trivial⟩
    exact bg (fn:=Tryz.f99) (args:=[i64 ((fZ d d.layout:Nat))]) (cap:=[]) rfl ak rfl ak ak Tryz.func99 kr kr lN
   ·rfl
   apply az.cons
   ·rfl
   ·refine⟨?_,trivial⟩
    exact nY (h:=h6) (n:=2) (t:=65) (cs:=bd.cells (dN (bP d))++bd.cells (dN (fZ d d.layout))) rfl ak kr
   ·rfl
   refine Ts ?_
   apply az.cons
   ·rfl
   ·refine⟨?_,trivial⟩
    exact dA (args:=[.pointer (some ⟨im,0,some 0⟩),i64 (bP d),.slice (some ⟨h6.length,0,some 0⟩) 2 2,.agg #[i64 4,i64 0,i64 0,bD]]) (cap:=[]) (fn:=Tryz.f98) ak rfl ak ak Tryz.func98 kr kr hcall8
   ·rfl
   exact az.nil _
  case ht=>rfl
  case hF=>exact zh
  show CW _ _ _ _
  have KZ8:=(KZ6.trans (cd.pre hp7)).trans K8
  have hx8:=KZ8 _ _ hx1 (dG (by decide))
  have ob8:=M8.o
  simp only[MK.cells,hs1,hs2,hst,hgp] at ob8
  have hp9:h8 <+: h8++[av.aj (bd.cells (dN (bP d))++bd.cells (dN (fZ d d.start))++bd.cells (dN (bP d))) 0 true 65]:=aI
  have hu9:aK h8 (h8++[av.aj (bd.cells (dN (bP d))++bd.cells (dN (fZ d d.start))++bd.cells (dN (bP d))) 0 true 65]) (.slice (some ⟨h8.length,0,some 0⟩) 3 3) 3 (bd.cells (dN (bP d))++bd.cells (dN (fZ d d.start))++bd.cells (dN (bP d))) 65:=.inr ⟨h8.length,0,Nat.le_refl _,rfl,aJ⟩
  have hr9:=jX (M8.pre hp9) (lhs:=(dU d:Int)) (kd:=5) (pr:=0) (mk:=0) (rhs:=[dN (bP d),dN (fZ d d.start),dN (bP d)]) (os:=[]) (uo:=bD) (by simp only[List.flatMap_cons,List.flatMap_nil,List.append_nil];rw[← List.append_assoc];exact hu9.base M8.p) aK.nil (by rw[List.length_append,List.length_append,List.length_singleton,List.length_singleton];omega)
  unfold FW at hr9
  obtain⟨r10,h10,hcall10,rfl,vr10,vf10,M10,K10⟩:=hr9
  have hx9:=ag hp9 hx8
  have ob9:=ag hp9 ob8
  refine aA [(1,.val (.pointer (some ⟨i1,0,some 0⟩))),(11,.val (i64 (dU d:Int))),(12,.box (bd.cells (dN (fZ d d.start))))] aO ?_
  show CW _ _ ⟨_,[],h8⟩ _
  try apply zs
  apply bi (L:=[[],[],[],[2],[2,3],[2,3,4],[2,3,4,5],[],[],[8],[8,9],[8,9,10],[8,9,10,11],[2,3,4,5,6,7,8,9,10,11,12],[],[0,1,2,3,4,5,6,7,8,9,10,11,12,13,14]]) (act:=[13,15]) (hs:=[h8++[av.aj (bd.cells (dN (bP d))++bd.cells (dN (fZ d d.start))++bd.cells (dN (bP d))) 0 true 65],h10]) (resL:=[_,_,_,_,_,_,_,_,_,_,_,_,_,_,_,_]) (frF:=[])
  case hm=>exact mixed
  case hc=>kernel_rfl
  case ha=>rfl
  case hb=>rfl
  case hS=>
   refine tT hx8 ob8 hx9 ob9 ?_
   apply az.cons
   ·rfl
   ·refine⟨?_,trivial⟩
    exact bg (fn:=Tryz.f99) (args:=[i64 (bP d)]) (cap:=[]) rfl ak rfl ak ak Tryz.func99 kr kr lN
   ·rfl
   refine tT hx8 ob8 hx9 ob9 ?_
   apply az.cons
   ·rfl
   ·refine⟨?_,trivial⟩
    exact bg (fn:=Tryz.f99) (args:=[i64 (bP d)]) (cap:=[]) rfl ak rfl ak ak Tryz.func99 kr kr lN
   ·rfl
   apply az.cons
   ·rfl
   ·refine⟨?_,trivial⟩
    exact nY (h:=h8) (n:=3) (t:=65) (cs:=bd.cells (dN (bP d))++bd.cells (dN (fZ d d.start))++bd.cells (dN (bP d))) rfl ak kr
   ·rfl
   refine Ts ?_
   apply az.cons
   ·rfl
   ·refine⟨?_,trivial⟩
    exact dA (args:=[.pointer (some ⟨im,0,some 0⟩),i64 (dU d:Int),.slice (some ⟨h8.length,0,some 0⟩) 3 3,.agg #[i64 5,i64 0,i64 0,bD]]) (cap:=[]) (fn:=Tryz.f98) ak rfl ak ak Tryz.func98 kr kr hcall10
   ·rfl
   exact az.nil _
  case ht=>rfl
  case hF=>exact zh
  refine⟨_,ak,rfl,vr10,vf10,?_,(KA.trans KZ8).trans ((cd.pre hp9).trans K10)⟩
  rw[hros,hT]
  have e:L++[((⟨bP d,[]⟩,⟨3,0,0,[]⟩):dt×gD),(⟨bP d,[dN (bP d),dN (fZ d d.layout)]⟩,⟨4,0,0,[]⟩),(⟨dU d,[dN (bP d),dN (fZ d d.start),dN (bP d)]⟩,⟨5,0,0,[]⟩)]=((L++[(⟨bP d,[]⟩,⟨3,0,0,[]⟩)])++[(⟨bP d,[dN (bP d),dN (fZ d d.layout)]⟩,⟨4,0,0,[]⟩)])++[(⟨dU d,[dN (bP d),dN (fZ d d.start),dN (bP d)]⟩,⟨5,0,0,[]⟩)]:=by simp
  rw[e]
  exact M10}
end
theorem bl {all:Array Oper} {o:Oper} {s:St} {h h':ah} {t et:TypeId} {a x:Operand} {ti:TI} {id off au:Nat} {cells vs cells':List Value} {v:Value} {r:fW} (hh:s.h=h) (hw:aE all o s=some true) (ho:o.op = .store t a x) (ht:ar env.P t=some ti) (ha:ev s a=some (.pointer (some ⟨id,off,some au⟩))) (hid:h[id]? = some (.aj cells au true et)) (hx:ev s x=some v) (hv:dQ ti.size v=some vs)
 (hq:lj cells off vs=some cells') (hd:o.dst=none) (he:h'=h.set id (av.aj cells' au true et)):One env all o s r h':=by
 subst hh he
 exact .jn hw ho ht ha hid hx hv hq hd
structure aQ where
 fY:Nat
 mA:Nat
 vO:Nat
 deriving DecidableEq
def aQ.cells (x:aQ):List Value:=[i64 x.fY,i64 x.mA,i64 x.vO]
abbrev aQ.val (x:aQ):Value:=.agg #[i64 x.fY,i64 x.mA,i64 x.vO]
def fj (x y:aQ):Int:=if x.fY≠y.fY then (x.fY:Int)-y.fY else if x.mA≠y.mA then (x.mA:Int)-y.mA else (x.vO:Int)-y.vO
def br (x y:aQ):Bool:=decide (fj x y<0)
def Fv (x:aQ):Prop:=x.fY≤1000000∧x.mA≤1000000∧x.vO≤1000000
theorem zP {x y:aQ}:br x y=true↔x.fY<y.fY∨x.fY=y.fY∧(x.mA<y.mA∨x.mA=y.mA∧x.vO<y.vO):=by{
unfold br fj
rw[decide_eq_true_eq]
by_cases h1:x.fY=y.fY
·rw[if_neg om]
 by_cases h2:x.mA=y.mA
 ·rw[if_neg om]
  omega
 ·rw[if_pos h2]
  omega
·rw[if_pos h1]
 omega}
theorem pZ {x y:aQ}:br x y=false↔¬ (x.fY<y.fY∨x.fY=y.fY∧(x.mA<y.mA∨x.mA=y.mA∧x.vO<y.vO)):=by
 rw[← zP,Bool.not_eq_true]
theorem kc:Go.Sort.SWO br:=by{
refine⟨fun x=>?_,fun x y z h1 h2=>?_,fun x y z h1 h2=>?_⟩
·rw[pZ];omega
·rw[zP] at *;omega
·rw[pZ] at *;omega}
theorem EJ {x y:aQ} (h1:br x y=false) (h2:br y x=false):x=y:=by{
rw[pZ] at h1 h2
cases x;cases y
simp only[aQ.mk.injEq]
simp only at h1 h2
omega}
theorem bF {h:ah} {x y:aQ} (hx:Fv x) (hy:Fv y):FW env 104 [x.val,y.val] h fun r h'=>r=i64 (fj x y)∧h'=h:=by{
obtain⟨x1,x2,x3⟩:=hx
obtain⟨y1,y2,y3⟩:=hy
have e1:IntKind.i64.wrap ((x.fY:Int)-y.fY)=(x.fY:Int)-y.fY:=ay om om
have e2:IntKind.i64.wrap ((x.mA:Int)-y.mA)=(x.mA:Int)-y.mA:=ay om om
have e3:IntKind.i64.wrap ((x.vO:Int)-y.vO)=(x.vO:Int)-y.vO:=ay om om
refine fe Tryz.func104 ?_;simp only[push_cast]
by_cases h1:x.fY=y.fY
·have d1:decide ((x.fY:Int)=(y.fY:Int))=true:=decide_eq_true om
 refine aG d1 ?_
 refine ae rfl ?_
 by_cases h2:x.mA=y.mA
 ·have d2:decide ((x.mA:Int)=(y.mA:Int))=true:=decide_eq_true om
  refine aG d2 ?_
  refine ae rfl ?_
  refine aG e3 ?_
  refine ai ?_
  exact⟨_,ak,by unfold fj;rw[if_neg om,if_neg om];rfl,rfl⟩
 ·have d2:decide ((x.mA:Int)=(y.mA:Int))=false:=decide_eq_false om
  refine aG d2 ?_
  refine af rfl ?_
  refine aG e2 ?_
  refine ai ?_
  exact⟨_,ak,by unfold fj;rw[if_neg om,if_pos h2];rfl,rfl⟩
·have d1:decide ((x.fY:Int)=(y.fY:Int))=false:=decide_eq_false om
 refine aG d1 ?_
 refine af rfl ?_
 refine aG e1 ?_
 refine ai ?_
 exact⟨_,ak,by unfold fj;rw[if_pos h1];rfl,rfl⟩}
instance:Inhabited aQ:=⟨⟨0,0,0⟩⟩
abbrev aP:Value:=.func (.func 104) #[] #[]
def IC (d:Array aQ):List Value:=d.toList.flatMap aQ.cells
structure DA (h:ah) (id au:Nat) (d:Array aQ):Prop where
 g:h[id]? = some (.aj (IC d) au true 70)
 n:d.size≤1000000000
 b:∀ i,i<d.size→Fv d[i]!
theorem bz {d:Array aQ} {i:Nat} (hi:i<d.size):je (IC d) (i*3) 3=some [i64 d[i]!.fY,i64 d[i]!.mA,i64 d[i]!.vO]:=by
 have h1:d.toList[i]? = some d[i]!:=by simp [hi]
 exact bG (f:=aQ.cells) (k:=3) (fun _=>rfl) d.toList i d[i]! h1
theorem cI {d:Array aQ} {i:Nat} {x:aQ} (hi:i<d.size):lj (IC d) (i*3) [i64 x.fY,i64 x.mA,i64 x.vO]=some (IC (d.setIfInBounds i x)):=by{
have:=AF (f:=aQ.cells) (k:=3) (fun _=>rfl) (l:=d.toList) (i:=i) (x:=x) (by simpa using hi)
unfold IC
rw[Array.toList_setIfInBounds]
exact this}
theorem swp_size {d:Array aQ} {i j:Nat}:(Go.Sort.swp d i j).size=d.size:=by unfold Go.Sort.swp;simp
theorem Pl {d:Array aQ} {i j:Nat} (hi:i<d.size) (hj:j<d.size) (h:∀ k,k<d.size→Fv d[k]!):∀ k,k<(Go.Sort.swp d i j).size→Fv (Go.Sort.swp d i j)[k]!:=fun k hk=>by
 rw[swp_size] at hk
 unfold Go.Sort.swp
 rw[getElem!_pos _ _ (by simpa using hk)]
 simp only[Array.getElem_setIfInBounds,Array.size_setIfInBounds,hk]
 split
 ·exact h i hi
 ·split
  ·exact h j hj
  ·rw[← getElem!_pos d k hk];exact h k hk
theorem DA.swp {h:ah} {id au:Nat} {d:Array aQ} (D:DA h id au d) {i j:Nat} (hi:i<d.size) (hj:j<d.size):DA (h.set id (.aj (IC (Go.Sort.swp d i j)) au true 70)) id au (Go.Sort.swp d i j):=
 ⟨aw D.g,by rw[swp_size];exact D.n,Pl hi hj D.b⟩
theorem fA {h:ah} {i:Nat} {x:av} (g:h[i]? = some x):h.set i x=h:=by{
obtain⟨h1,h2⟩:=List.getElem?_eq_some_iff.1 g
rw[← h2]
exact List.set_getElem_self h1}
theorem aM {h:ah} {i:Nat} {x y:av}:(h.set i x).set i y=h.set i y:=List.set_set ..
theorem vk {h:ah} {id au c a b:Nat} {d:Array aQ} (D:DA h id au d) (hab:a≤b) (hb:b≤d.size) : FW env 180 [.slice (some ⟨id,0,some au⟩) d.size c,i64 a,i64 b,aP] h fun r h'=>r = .tuple #[]∧h'=h.set id (.aj (IC (Go.Sort.insertionSort br d a b)) au true 70)∧DA h' id au (Go.Sort.insertionSort br d a b)∧(Go.Sort.insertionSort br d a b).size=d.size:=by{
have hn:=D.n
have e1:IntKind.i64.wrap ((a:Int)+1)=((a+1:Nat):Int):=by rw[ay om om];omega
refine fe Tryz.func180 ?_;simp only[push_cast]
refine aG e1 ?_
refine eY (fun x:Nat×Array aQ×ah=>d.size+2-x.1) (fun x=>[(0,.val (.slice (some ⟨id,0,some au⟩) d.size c)),(1,.val (i64 a)),(2,.val (i64 b)),(3,.val aP),(8,.val (i64 x.1))]) (fun x=>x.2.2)
 (fun x=>a<x.1∧(x.1≤b∨x.1=a+1)∧x.2.1.size=d.size∧x.2.2=h.set id (.aj (IC x.2.1) au true 70)∧DA x.2.2 id au x.2.1∧Go.Sort.insOuter br a b x.1 x.2.1=Go.Sort.insertionSort br d a b) (a+1,d,h) aO rfl ⟨by simp only;omega,.inr rfl,rfl,(fA D.g).symm,D,rfl⟩ ?_
rintro⟨i,dc,hc⟩ ⟨h1,h2,h3,h4,D1,h5⟩
simp only at h1 h2 h3 h4 D1 h5 ⊢
have e2:IntKind.i64.wrap ((i:Int)+1)=(i:Int)+1:=ay om om
by_cases hlt:i<b
·have e3:=aV hlt
 have hstep:Go.Sort.insOuter br a b i dc=Go.Sort.insOuter br a b (i+1) (Go.Sort.insInner br a i dc):=by rw[Go.Sort.insOuter,if_pos hlt]
 refine aG e3 ?_
 refine af rfl ?_
 refine aB ?_
 refine eY (fun y:Nat×Array aQ×ah=>y.1) (fun y=>[(0,.val (.slice (some ⟨id,0,some au⟩) d.size c)),(1,.val (i64 a)),(2,.val (i64 b)),(3,.val aP),(8,.val (i64 i)),(9,.val (i64 y.1))]) (fun y=>y.2.2)
  (fun y=>y.1≤i∧a≤y.1∧y.2.1.size=d.size∧y.2.2=h.set id (.aj (IC y.2.1) au true 70)∧DA y.2.2 id au y.2.1∧Go.Sort.insInner br a y.1 y.2.1=Go.Sort.insInner br a i dc) (i,dc,hc) aO rfl ⟨by simp only;omega,by simp only;omega,h3,h4,D1,rfl⟩ ?_
 rintro⟨j,dj,hj⟩ ⟨k1,k2,k3,k4,D2,k5⟩
 simp only at k1 k2 k3 k4 D2 k5 ⊢
 have hg:=D2.g
 by_cases hja:a<j
 ·obtain⟨q,rfl⟩:∃ q,j=q+1:=⟨j-1,by omega⟩
  have d4:decide ((a:Int)<((q+1:Nat):Int))=true:=decide_eq_true om
  have e5:IntKind.i64.wrap (((q+1:Nat):Int)-1)=(q:Int):=by rw[ay om om];omega
  have hq1:q+1<dj.size:=by omega
  have hq0:q<dj.size:=by omega
  have g1:=bz hq1
  have g0:=bz hq0
  have b1:=D2.b _ hq1
  have b0:=D2.b _ hq0
  have r1:=cH (k:=q+1) (n:=d.size) om
  have r0:=cH (k:=q) (n:=d.size) om
  have hun:Go.Sort.insInner br a (q+1) dj=if (decide (q+1 > a)&&br dj[q+1]! dj[q]!)=true then Go.Sort.insInner br a q (Go.Sort.swp dj (q+1) q) else dj:=rfl
  obtain⟨J,hJ⟩:∃ J,J=q+1:=⟨_,rfl⟩
  rw[← hJ] at d4 e5 g1 b1 r1 hun k5 k1 k2 hq1 ⊢
  refine aB ?_
  cases hl:br dj[J]! dj[q]! with
  | false=>
    have d7:decide (fj dj[J]! dj[q]! < 0)=false:=hl
    have hend:dj=Go.Sort.insInner br a i dc:=by rw[← k5,hun,hl];simp
    apply bu (L:=[[],[],[0,1],[2],[3],[3],[3],[3,5,6],[3,7],[3],[3],[3,10],[3,9,11],[3,12],[3,4,8,13],[3,14],[3,15]]) (resL:=[_,_,_,_,_,_,_,_,_,_,_,_,_,_,_,_,_]) (frF:=[(0,.val (.slice (some ⟨id,0,some au⟩) d.size c)),(1,.val (i64 a)),(2,.val (i64 b)),(3,.val aP),(8,.val (i64 i)),(9,.val (i64 J)),(34,.val (.bool false))])
    case hm=>exact mixed
    case hc=>kernel_rfl
    case hb=>rfl
    case hS=>
     refine IE d4 hg g1 g0 e5 r1 r0 Nat.mul_one ?_
     apply aR.cons
     ·exact bg (fn:=Tryz.f104) (args:=[dj[J]!.val,dj[q]!.val]) (cap:=[]) rfl (iD d4) rfl ak ak Tryz.func104 kr kr (bF b1 b0)
     ·rfl
     exact rG d7 d4
    case ht=>rfl
    case hF=>exact zh
    show CW _ _ _ _
    refine aB ?_
    refine ae rfl ?_
    refine aC ?_
    show CW _ _ _ _
    refine aG e2 ?_
    exact⟨(i+1,dj,hj),by simp only;omega,aO,rfl,by simp only;omega,by simp only;omega,k3,k4,D2,by simp only;rw[hend,← hstep];exact h5⟩
  | true=>
    have d7:decide (fj dj[J]! dj[q]! < 0)=true:=hl
    have hnx:Go.Sort.insInner br a q (Go.Sort.swp dj J q)=Go.Sort.insInner br a i dc:=by rw[← k5,hun,hl];simp [hja];omega
    apply bu (L:=[[],[],[0,1],[2],[3],[3],[3],[3,5,6],[3,7],[3],[3],[3,10],[3,9,11],[3,12],[3,4,8,13],[3,14],[3,15]]) (resL:=[_,_,_,_,_,_,_,_,_,_,_,_,_,_,_,_,_]) (frF:=[(0,.val (.slice (some ⟨id,0,some au⟩) d.size c)),(1,.val (i64 a)),(2,.val (i64 b)),(3,.val aP),(8,.val (i64 i)),(9,.val (i64 J)),(34,.val (.bool true))])
    case hm=>exact mixed
    case hc=>kernel_rfl
    case hb=>rfl
    case hS=>
     refine IE d4 hg g1 g0 e5 r1 r0 Nat.mul_one ?_
     apply aR.cons
     ·exact bg (fn:=Tryz.f104) (args:=[dj[J]!.val,dj[q]!.val]) (cap:=[]) rfl (iD d4) rfl ak ak Tryz.func104 kr kr (bF b1 b0)
     ·rfl
     exact rG d7 d4
    case ht=>rfl
    case hF=>exact zh
    show CW _ _ _ _
    refine aB ?_
    refine af rfl ?_
    refine aB ?_
    refine aA [(0,.val (.slice (some ⟨id,0,some au⟩) d.size c)),(1,.val (i64 a)),(2,.val (i64 b)),(3,.val aP),(8,.val (i64 i)),(9,.val (i64 J))] aO ?_
    show CW _ _ ⟨_,[],hj⟩ _
    apply bi (L:=[[],[],[],[],[3],[],[],[6],[5,6,7],[5,6,7,8],[],[],[10,11],[10,11,12],[0,1],[0,1,5,6,7,8,9,10,11,12,13,14],[2,3,4],[0,1,2,3,4,5,6,7,8,9,10,11,12,13,14,15,16]]) (act:=[15,17]) (hs:=[hj.set id (.aj (IC (dj.setIfInBounds J dj[q]!)) au true 70),hj.set id (.aj (IC (Go.Sort.swp dj J q)) au true 70)]) (resL:=[_,_,_,_,_,_,_,_,_,_,_,_,_,_,_,_,_,_]) (frF:=[(0,.val (.slice (some ⟨id,0,some au⟩) d.size c)),(1,.val (i64 a)),(2,.val (i64 b)),(3,.val aP),(8,.val (i64 i)),(9,.val (i64 J))])
    case hm=>exact mixed
    case hc=>kernel_rfl
    case ha=>rfl
    case hb=>rfl
    case hS=>
     refine Hz hg g1 g0 e5 r1 r0 Nat.mul_one ?_
     apply az.cons
     ·rfl
     ·refine⟨?_,trivial⟩
      exact bl (r:=.sl .dy) rfl ak rfl ak ak hg ak rfl (cI hq1) rfl rfl
     ·rfl
     refine tT e5 r1 r0 Nat.mul_one ?_
     apply az.cons
     ·rfl
     ·refine⟨?_,trivial⟩
      exact bl (r:=.sl .dy) rfl ak rfl ak ak (aw hg) ak rfl (cI (d:=dj.setIfInBounds J dj[q]!) (i:=q) (x:=dj[J]!) (by simpa using hq0)) rfl aM.symm
     ·rfl
     exact az.nil _
    case ht=>rfl
    case hF=>exact zh
    show CW _ _ _ _
    refine aG e5 ?_
    exact⟨(q,Go.Sort.swp dj J q,_),by simp only;omega,aO,rfl,by simp only;omega,by simp only;omega,by simp only;rw[swp_size];exact k3,by simp only;rw[k4,aM],D2.swp hq1 hq0,hnx⟩
 ·have d4:decide ((a:Int)<(j:Int))=false:=decide_eq_false om
  obtain rfl:j=a:=by omega
  have hend:dj=Go.Sort.insInner br j i dc:=by
   rw[← k5]
   cases j with
   | zero=>rfl
   | succ q=>simp [Go.Sort.insInner]
  refine aB ?_
  apply bu (L:=[[],[],[0,1],[2],[3],[3],[3],[3,5,6],[3,7],[3],[3],[3,10],[3,9,11],[3,12],[3,4,8,13],[3,14],[3,15]]) (resL:=[_,_,_,_,_,_,_,_,_,_,_,_,_,_,_,_,_]) (frF:=[(0,.val (.slice (some ⟨id,0,some au⟩) d.size c)),(1,.val (i64 j)),(2,.val (i64 b)),(3,.val aP),(8,.val (i64 i)),(9,.val (i64 j)),(34,.val (.bool false))])
  case hm=>exact mixed
  case hc=>kernel_rfl
  case hb=>rfl
  case hS=>exact AQ d4
  case ht=>rfl
  case hF=>exact zh
  show CW _ _ _ _
  refine aB ?_
  refine ae rfl ?_
  refine aC ?_
  show CW _ _ _ _
  refine aG e2 ?_
  exact⟨(i+1,dj,hj),by simp only;omega,aO,rfl,by simp only;omega,by simp only;omega,k3,k4,D2,by simp only;rw[hend,← hstep];exact h5⟩
·have e3:decide ((i:Int)<(b:Int))=false:=decide_eq_false om
 have hend:Go.Sort.insertionSort br d a b=dc:=by rw[← h5,Go.Sort.insOuter,if_neg hlt]
 refine aG e3 ?_
 refine ae rfl ?_
 refine aC ?_
 refine⟨_,ak,rfl,?_⟩
 simp only[hend]
 exact⟨h4,D1,h3⟩}
theorem yx {h:ah} {id au c a b:Nat} {d:Array aQ} {fv:Value} (D:DA h id au d) (hab:a<b) (hb:b≤d.size) : FW env 184 [.slice (some ⟨id,0,some au⟩) d.size c,i64 a,i64 b,fv] h fun r h'=>r = .tuple #[]∧h'=h.set id (.aj (IC (Go.Sort.reverseRange d a b)) au true 70)∧DA h' id au (Go.Sort.reverseRange d a b)∧(Go.Sort.reverseRange d a b).size=d.size:=by{
have hn:=D.n
have e1:IntKind.i64.wrap ((b:Int)-1)=((b-1:Nat):Int):=by rw[ay om om];omega
obtain⟨B,hB⟩:∃ B,B=b-1:=⟨_,rfl⟩
rw[← hB] at e1
refine fe Tryz.func184 ?_;simp only[push_cast]
refine aG e1 ?_
refine eY (fun x:Nat×Nat×Array aQ×ah=>x.2.1+1-x.1) (fun x=>[(0,.val (.slice (some ⟨id,0,some au⟩) d.size c)),(8,.val (i64 x.1)),(9,.val (i64 x.2.1))]) (fun x=>x.2.2.2)
 (fun x=>x.2.1<d.size∧x.2.2.1.size=d.size∧x.2.2.2=h.set id (.aj (IC x.2.2.1) au true 70)∧DA x.2.2.2 id au x.2.2.1∧Go.Sort.reverseLoop x.1 x.2.1 x.2.2.1=Go.Sort.reverseRange d a b) (a,B,d,h) aO rfl ⟨by simp only;omega,rfl,(fA D.g).symm,D,by simp only;rw[hB];rfl⟩ ?_
rintro⟨i,j,dc,hc⟩ ⟨h1,h3,h4,D1,h5⟩
simp only at h1 h3 h4 D1 h5 ⊢
by_cases hlt:i<j
·have e3:=aV hlt
 have hg:=D1.g
 have hi1:i<dc.size:=by omega
 have hj1:j<dc.size:=by omega
 have g1:=bz hi1
 have g0:=bz hj1
 have r1:=cH (k:=i) (n:=d.size) om
 have r0:=cH (k:=j) (n:=d.size) om
 have e4:IntKind.i64.wrap ((i:Int)+1)=(i:Int)+1:=ay om om
 have e5:IntKind.i64.wrap ((j:Int)-1)=((j-1:Nat):Int):=by rw[ay om om];omega
 have hst:Go.Sort.reverseLoop i j dc=Go.Sort.reverseLoop (i+1) (j-1) (Go.Sort.swp dc i j):=by rw[Go.Sort.reverseLoop,if_pos hlt]
 obtain⟨q,hq⟩:∃ q,q=j-1:=⟨_,rfl⟩
 rw[← hq] at e5 hst
 refine aG e3 ?_
 refine af rfl ?_
 refine aB ?_
 refine aA [(0,.val (.slice (some ⟨id,0,some au⟩) d.size c)),(8,.val (i64 i)),(9,.val (i64 j))] aO ?_
 show CW _ _ ⟨_,[],hc⟩ _
 apply bi (L:=[[],[],[],[],[],[],[4,5],[4,5,6],[],[],[8,9],[8,9,10],[0,1],[0,1,4,5,6,7,8,9,10,11,12],[2,3],[0,1,2,3,4,5,6,7,8,9,10,11,12,13,14]]) (act:=[13,15]) (hs:=[hc.set id (.aj (IC (dc.setIfInBounds i dc[j]!)) au true 70),hc.set id (.aj (IC (Go.Sort.swp dc i j)) au true 70)]) (resL:=[_,_,_,_,_,_,_,_,_,_,_,_,_,_,_,_]) (frF:=[(0,.val (.slice (some ⟨id,0,some au⟩) d.size c)),(8,.val (i64 i)),(9,.val (i64 j))])
 case hm=>exact mixed
 case hc=>kernel_rfl
 case ha=>rfl
 case hb=>rfl
 case hS=>
  refine x9 hg g1 g0 r1 r0 Nat.mul_one ?_
  apply az.cons
  ·rfl
  ·refine⟨?_,trivial⟩
   exact bl (r:=.sl .dy) rfl ak rfl ak ak hg ak rfl (cI (d:=dc) (i:=i) (x:=dc[j]!) hi1) rfl rfl
  ·rfl
  refine x9 hg g1 g0 r1 r0 Nat.mul_one ?_
  apply az.cons
  ·rfl
  ·refine⟨?_,trivial⟩
   exact bl (r:=.sl .dy) rfl ak rfl ak ak (aw hg) ak rfl (cI (d:=dc.setIfInBounds i dc[j]!) (i:=j) (x:=dc[i]!) (by simpa using hj1)) rfl aM.symm
  ·rfl
  exact az.nil _
 case ht=>rfl
 case hF=>exact zh
 show CW _ _ _ _
 refine fM e4 e5 ?_
 exact⟨(i+1,q,Go.Sort.swp dc i j,_),by simp only;omega,aO,rfl,by simp only;omega,by simp only;rw[swp_size];exact h3,by simp only;rw[h4,aM],D1.swp hi1 hj1,by simp only;rw[← hst];exact h5⟩
·have e3:decide ((i:Int)<(j:Int))=false:=decide_eq_false om
 have hend:Go.Sort.reverseRange d a b=dc:=by rw[← h5,Go.Sort.reverseLoop,if_neg hlt]
 refine aG e3 ?_
 refine ae rfl ?_
 refine aC ?_
 refine⟨_,ak,rfl,?_⟩
 simp only[hend]
 exact⟨h4,D1,h3⟩}
theorem Ab {h:ah} {id au c root0 hi first:Nat} {d:Array aQ} (D:DA h id au d) (hb:first+hi≤d.size) (hroot:root0≤hi) : FW env 206 [.slice (some ⟨id,0,some au⟩) d.size c,i64 root0,i64 hi,i64 first,aP] h fun r h'=>r = .tuple #[]∧h'=h.set id (.aj (IC (Go.Sort.siftDown br hi first root0 d)) au true 70)∧DA h' id au (Go.Sort.siftDown br hi first root0 d)∧(Go.Sort.siftDown br hi first root0 d).size=d.size:=by{
have hn:=D.n
refine fe Tryz.func206 ?_;simp only[push_cast]
refine aB ?_
refine eY (fun x:Nat×Array aQ×ah=>2*hi+2-x.1) (fun x=>[(0,.val (.slice (some ⟨id,0,some au⟩) d.size c)),(2,.val (i64 hi)),(3,.val (i64 first)),(4,.val aP),(10,.val (i64 x.1))]) (fun x=>x.2.2)
 (fun x=>x.1≤hi∧x.2.1.size=d.size∧x.2.2=h.set id (.aj (IC x.2.1) au true 70)∧DA x.2.2 id au x.2.1∧Go.Sort.siftDown br hi first x.1 x.2.1=Go.Sort.siftDown br hi first root0 d) (root0,d,h) aO rfl ⟨hroot,rfl,(fA D.g).symm,D,rfl⟩ ?_
rintro⟨root,dc,hc⟩ ⟨h1,h3,h4,D1,h5⟩
simp only at h1 h3 h4 D1 h5 ⊢
have e1:IntKind.i64.wrap (2*(root:Int))=2*(root:Int):=ay om om
have e1':IntKind.i64.wrap (2*(root:Int)+1)=((2*root+1:Nat):Int):=by rw[ay om om];omega
obtain⟨K,hK⟩:∃ K,K=2*root+1:=⟨_,rfl⟩
rw[← hK] at e1'
have hg:=D1.g
by_cases hlt:hi≤K
·have d1:decide ((hi:Int)≤(K:Int))=true:=decide_eq_true om
 have hend:Go.Sort.siftDown br hi first root0 d=dc:=by rw[← h5,Go.Sort.siftDown,dif_pos om]
 refine ir e1 e1' d1 ?_
 refine af rfl ?_
 refine aC ?_
 refine⟨_,ak,rfl,?_⟩
 simp only[hend]
 exact⟨h4,D1,h3⟩
have d1:decide ((hi:Int)≤(K:Int))=false:=decide_eq_false om
have hr1:first+root<dc.size:=by omega
have g2:=bz hr1
have b2:=D1.b _ hr1
have rr2:=cH (k:=first+root) (n:=d.size) om
have e2r:IntKind.i64.wrap ((first:Int)+(root:Int))=((first+root:Nat):Int):=by rw[ay om om];omega
obtain⟨r2,hr2⟩:∃ r2,r2=first+root:=⟨_,rfl⟩
rw[← hr2] at g2 b2 rr2 e2r hr1
have e3:IntKind.i64.wrap ((K:Int)+1)=((K+1:Nat):Int):=by rw[ay om om];omega
refine ir e1 e1' d1 ?_
refine ae rfl ?_
refine aB ?_
refine aA [(0,.val (.slice (some ⟨id,0,some au⟩) d.size c)),(2,.val (i64 hi)),(3,.val (i64 first)),(4,.val aP),(10,.val (i64 root)),(11,.val (i64 K))] aO ?_
show CW _ _ ⟨_,[],hc⟩ _
repeat refine vq ?_
refine CW.mono (Q:=fun e s'=>e = .normal∧s'.h=hc∧∃ (β:Bool) (C:Nat),C=(if β=true then K+1 else K)∧C<hi∧(Go.Sort.siftDown br hi first root dc=if (!br dc[r2]! dc[first+C]!)=true then dc else Go.Sort.siftDown br hi first C (Go.Sort.swp dc r2 (first+C)))∧bB [(0,.val (.slice (some ⟨id,0,some au⟩) d.size c)),(2,.val (i64 hi)),(3,.val (i64 first)),(4,.val aP),(10,.val (i64 root)),(11,.val (i64 K)),(40,.val (.bool β))] s'.fr) ?_ ?_
·by_cases hk2:K+1<hi
 ·have d3:decide (((K+1:Nat):Int)<(hi:Int))=true:=decide_eq_true om
  have hk1:first+K<dc.size:=by omega
  have hk3:first+K+1<dc.size:=by omega
  have gk:=bz hk1
  have gk1:=bz hk3
  have bk:=D1.b _ hk1
  have bk1:=D1.b _ hk3
  have rk:=cH (k:=first+K) (n:=d.size) om
  have rk1:=cH (k:=first+K+1) (n:=d.size) om
  have ek:IntKind.i64.wrap ((first:Int)+(K:Int))=((first+K:Nat):Int):=by rw[ay om om];omega
  have ek1:IntKind.i64.wrap (((first+K:Nat):Int)+1)=((first+K+1:Nat):Int):=by rw[ay om om];omega
  have hS:Go.Sort.siftDown br hi first root dc=if (br dc[first+K]! dc[first+K+1]!)=true then (if (!br dc[r2]! dc[first+(K+1)]!)=true then dc else Go.Sort.siftDown br hi first (K+1) (Go.Sort.swp dc r2 (first+(K+1)))) else (if (!br dc[r2]! dc[first+K]!)=true then dc else Go.Sort.siftDown br hi first K (Go.Sort.swp dc r2 (first+K))):=by
   rw[Go.Sort.siftDown,dif_neg om,hr2,hK]
   simp [show 2*root+1+1<hi by omega,show 2*root+2<hi by omega]
  obtain⟨k1,hk1e⟩:∃ k1,k1=first+K:=⟨_,rfl⟩
  obtain⟨k2,hk2e⟩:∃ k2,k2=first+K+1:=⟨_,rfl⟩
  obtain⟨K1,hK1⟩:∃ K1,K1=K+1:=⟨_,rfl⟩
  rw[← hk2e] at gk1 bk1 rk1 ek1 hS
  rw[← hk1e] at gk bk rk ek ek1 hS
  rw[← hK1] at d3 e3 hS
  cases hl1:br dc[k1]! dc[k2]! with
  | true=>
    have d7:decide (fj dc[k1]! dc[k2]! < 0)=true:=hl1
    have hrun:Go.Sort.siftDown br hi first root dc=if (!br dc[r2]! dc[first+K1]!)=true then dc else Go.Sort.siftDown br hi first K1 (Go.Sort.swp dc r2 (first+K1)):=by rw[hS,hl1];rfl
    apply bu (L:=[[],[0],[],[1,2],[3],[4],[4],[4],[4],[4,7,8],[4,6,9],[4,10],[4],[4],[4],[4,13,14],[4,15],[4,12,16],[4,17],[4,5,11,18],[4,19],[4,20]]) (resL:=[_,_,_,_,_,_,_,_,_,_,_,_,_,_,_,_,_,_,_,_,_,_]) (frF:=[(0,.val (.slice (some ⟨id,0,some au⟩) d.size c)),(2,.val (i64 hi)),(3,.val (i64 first)),(4,.val aP),(10,.val (i64 root)),(11,.val (i64 K)),(40,.val (.bool true))])
    case hm=>exact mixed
    case hc=>kernel_rfl
    case hb=>rfl
    case hS=>
     repeat (first|exact aR.nil _|(apply aR.cons;(·apply zz;simp only[push_cast,env,Nat.reduceEqDiff,reduceIte,Nat.reduceAdd,Nat.reduceMul,Nat.reduceLeDiff,reduceCtorEq,Nat.reduceSub,Int.reduceToNat,e3,d3,hg,gk,gk1,ek,ek1,rk,rk1,Nat.mul_one]<;>exact rfl);(·rfl)))
     apply aR.cons
     ·exact bg (fn:=Tryz.f104) (args:=[dc[k1]!.val,dc[k2]!.val]) (cap:=[]) rfl (iD d3) rfl ak ak Tryz.func104 kr kr (bF bk bk1)
     ·rfl
     exact rG d7 d3
    case ht=>rfl
    case hF=>exact zh
    exact⟨rfl,rfl,true,K1,by rw[if_pos rfl];exact hK1,by omega,hrun,aO⟩
  | false=>
    have d7:decide (fj dc[k1]! dc[k2]! < 0)=false:=hl1
    have hrun:Go.Sort.siftDown br hi first root dc=if (!br dc[r2]! dc[first+K]!)=true then dc else Go.Sort.siftDown br hi first K (Go.Sort.swp dc r2 (first+K)):=by rw[hS,hl1,← hk1e];rfl
    apply bu (L:=[[],[0],[],[1,2],[3],[4],[4],[4],[4],[4,7,8],[4,6,9],[4,10],[4],[4],[4],[4,13,14],[4,15],[4,12,16],[4,17],[4,5,11,18],[4,19],[4,20]]) (resL:=[_,_,_,_,_,_,_,_,_,_,_,_,_,_,_,_,_,_,_,_,_,_]) (frF:=[(0,.val (.slice (some ⟨id,0,some au⟩) d.size c)),(2,.val (i64 hi)),(3,.val (i64 first)),(4,.val aP),(10,.val (i64 root)),(11,.val (i64 K)),(40,.val (.bool false))])
    case hm=>exact mixed
    case hc=>kernel_rfl
    case hb=>rfl
    case hS=>
     repeat (first|exact aR.nil _|(apply aR.cons;(·apply zz;simp only[push_cast,env,Nat.reduceEqDiff,reduceIte,Nat.reduceAdd,Nat.reduceMul,Nat.reduceLeDiff,reduceCtorEq,Nat.reduceSub,Int.reduceToNat,e3,d3,hg,gk,gk1,ek,ek1,rk,rk1,Nat.mul_one]<;>exact rfl);(·rfl)))
     apply aR.cons
     ·exact bg (fn:=Tryz.f104) (args:=[dc[k1]!.val,dc[k2]!.val]) (cap:=[]) rfl (iD d3) rfl ak ak Tryz.func104 kr kr (bF bk bk1)
     ·rfl
     exact rG d7 d3
    case ht=>rfl
    case hF=>exact zh
    exact⟨rfl,rfl,false,K,rfl,by omega,hrun,aO⟩
 ·have d3:decide (((K+1:Nat):Int)<(hi:Int))=false:=decide_eq_false om
  have hrun:Go.Sort.siftDown br hi first root dc=if (!br dc[r2]! dc[first+K]!)=true then dc else Go.Sort.siftDown br hi first K (Go.Sort.swp dc r2 (first+K)):=by
   rw[Go.Sort.siftDown,dif_neg om,hr2,hK]
   simp [show ¬ 2*root+1+1<hi by omega]
  obtain⟨K1,hK1⟩:∃ K1,K1=K+1:=⟨_,rfl⟩
  rw[← hK1] at d3 e3
  apply bu (L:=[[],[0],[],[1,2],[3],[4],[4],[4],[4],[4,7,8],[4,6,9],[4,10],[4],[4],[4],[4,13,14],[4,15],[4,12,16],[4,17],[4,5,11,18],[4,19],[4,20]]) (resL:=[_,_,_,_,_,_,_,_,_,_,_,_,_,_,_,_,_,_,_,_,_,_]) (frF:=[(0,.val (.slice (some ⟨id,0,some au⟩) d.size c)),(2,.val (i64 hi)),(3,.val (i64 first)),(4,.val aP),(10,.val (i64 root)),(11,.val (i64 K)),(40,.val (.bool false))])
  case hm=>exact mixed
  case hc=>kernel_rfl
  case hb=>rfl
  case hS=>exact rG e3 d3
  case ht=>rfl
  case hF=>exact zh
  exact⟨rfl,rfl,false,K,rfl,by omega,hrun,aO⟩
rintro e s' ⟨rfl,hh,β,C,hCe,hCh,hrun,hf⟩
have hCK:K≤C:=by rw[hCe];split<;>omega
show CW _ _ _ _
refine aA _ hf ?_
rw[hh]
clear hf hh
refine CW.mono (Q:=fun e s'=>e = .normal∧s'.h=hc∧bB [(0,.val (.slice (some ⟨id,0,some au⟩) d.size c)),(2,.val (i64 hi)),(3,.val (i64 first)),(4,.val aP),(10,.val (i64 root)),(11,.val (i64 C))] s'.fr) ?_ ?_
·cases β with
 | true=>
   rw[if_pos rfl] at hCe
   rw[← hCe] at e3
   refine af rfl ?_
   refine aG e3 ?_
   exact⟨rfl,rfl,aO⟩
 | false=>
   have hCe':C=K:=hCe
   subst hCe'
   refine ae rfl ?_
   refine aB ?_
   exact⟨rfl,rfl,aO⟩
rintro e s' ⟨rfl,hh,hf⟩
show CW _ _ _ _
refine aA _ hf ?_
rw[hh]
clear hf hh
have hC1:first+C<dc.size:=by omega
have gC:=bz hC1
have bC:=D1.b _ hC1
have rC:=cH (k:=first+C) (n:=d.size) om
have eC:IntKind.i64.wrap ((first:Int)+(C:Int))=((first+C:Nat):Int):=by rw[ay om om];omega
obtain⟨c2,hc2⟩:∃ c2,c2=first+C:=⟨_,rfl⟩
rw[← hc2] at gC bC rC eC hC1 hrun
refine aB ?_
refine aA [(0,.val (.slice (some ⟨id,0,some au⟩) d.size c)),(2,.val (i64 hi)),(3,.val (i64 first)),(4,.val aP),(10,.val (i64 root)),(11,.val (i64 C))] aO ?_
show CW _ _ ⟨_,[],hc⟩ _
cases hl2:br dc[r2]! dc[c2]! with
| false=>
  have d8:decide (fj dc[r2]! dc[c2]! < 0)=false:=hl2
  have hend:Go.Sort.siftDown br hi first root0 d=dc:=by rw[← h5,hrun,hl2];rfl
  apply bu (L:=[[],[],[],[],[2,3],[1,4],[5],[],[],[],[8,9],[7,10],[11],[0,6,12],[13],[14]]) (resL:=[_,_,_,_,_,_,_,_,_,_,_,_,_,_,_,_]) (frF:=[(58,.val (.bool true))])
  case hm=>exact mixed
  case hc=>kernel_rfl
  case hb=>rfl
  case hS=>
   refine IE hg g2 gC e2r eC rr2 rC Nat.mul_one ?_
   apply aR.cons
   ·exact bg (fn:=Tryz.f104) (args:=[dc[r2]!.val,dc[c2]!.val]) (cap:=[]) rfl ak rfl ak ak Tryz.func104 kr kr (bF b2 bC)
   ·rfl
   exact AQ d8
  case ht=>rfl
  case hF=>exact zh
  show CW _ _ _ _
  refine aB ?_
  refine af rfl ?_
  refine aB ?_
  refine ai ?_
  refine⟨_,ak,rfl,?_⟩
  simp only[hend]
  exact⟨h4,D1,h3⟩
| true=>
  have d8:decide (fj dc[r2]! dc[c2]! < 0)=true:=hl2
  have hnx:Go.Sort.siftDown br hi first C (Go.Sort.swp dc r2 c2)=Go.Sort.siftDown br hi first root0 d:=by rw[← h5,hrun,hl2];rfl
  apply bu (L:=[[],[],[],[],[2,3],[1,4],[5],[],[],[],[8,9],[7,10],[11],[0,6,12],[13],[14]]) (resL:=[_,_,_,_,_,_,_,_,_,_,_,_,_,_,_,_]) (frF:=[(0,.val (.slice (some ⟨id,0,some au⟩) d.size c)),(2,.val (i64 hi)),(3,.val (i64 first)),(4,.val aP),(10,.val (i64 root)),(11,.val (i64 C)),(58,.val (.bool false))])
  case hm=>exact mixed
  case hc=>kernel_rfl
  case hb=>rfl
  case hS=>
   refine IE hg g2 gC e2r eC rr2 rC Nat.mul_one ?_
   apply aR.cons
   ·exact bg (fn:=Tryz.f104) (args:=[dc[r2]!.val,dc[c2]!.val]) (cap:=[]) rfl ak rfl ak ak Tryz.func104 kr kr (bF b2 bC)
   ·rfl
   exact AQ d8
  case ht=>rfl
  case hF=>exact zh
  show CW _ _ _ _
  refine aB ?_
  refine ae rfl ?_
  refine aB ?_
  refine aA [(0,.val (.slice (some ⟨id,0,some au⟩) d.size c)),(2,.val (i64 hi)),(3,.val (i64 first)),(4,.val aP),(10,.val (i64 root)),(11,.val (i64 C))] aO ?_
  show CW _ _ ⟨_,[],hc⟩ _
  apply bi (L:=[[],[],[],[1,2],[],[],[],[5,6],[],[],[],[9,10],[8,9,10,11],[8,9,10,11,12],[],[],[],[15,16],[14,15,16,17],[14,15,16,17,18],[0,1,2,3],[0,1,2,3,8,9,10,11,12,13,14,15,16,17,18,19,20],[4,5,6,7],[0,1,2,3,4,5,6,7,8,9,10,11,12,13,14,15,16,17,18,19,20,21,22]]) (act:=[21,23]) (hs:=[hc.set id (.aj (IC (dc.setIfInBounds r2 dc[c2]!)) au true 70),hc.set id (.aj (IC (Go.Sort.swp dc r2 c2)) au true 70)]) (resL:=[_,_,_,_,_,_,_,_,_,_,_,_,_,_,_,_,_,_,_,_,_,_,_,_]) (frF:=[(0,.val (.slice (some ⟨id,0,some au⟩) d.size c)),(2,.val (i64 hi)),(3,.val (i64 first)),(4,.val aP),(11,.val (i64 C))])
  case hm=>exact mixed
  case hc=>kernel_rfl
  case ha=>rfl
  case hb=>rfl
  case hS=>
   refine Iw hg g2 gC e2r eC rr2 rC Nat.mul_one ?_
   apply az.cons
   ·rfl
   ·refine⟨?_,trivial⟩
    exact bl (r:=.sl .dy) rfl ak rfl ak ak hg ak rfl (cI (d:=dc) (i:=r2) (x:=dc[c2]!) hr1) rfl rfl
   ·rfl
   refine Iw hg g2 gC e2r eC rr2 rC Nat.mul_one ?_
   apply az.cons
   ·rfl
   ·refine⟨?_,trivial⟩
    exact bl (r:=.sl .dy) rfl ak rfl ak ak (aw hg) ak rfl (cI (d:=dc.setIfInBounds r2 dc[c2]!) (i:=c2) (x:=dc[r2]!) (by simpa using hC1)) rfl aM.symm
   ·rfl
   exact az.nil _
  case ht=>rfl
  case hF=>exact zh
  show CW _ _ _ _
  refine aB ?_
  exact⟨(C,Go.Sort.swp dc r2 c2,_),by simp only;omega,aO,rfl,by simp only;omega,by simp only;rw[swp_size];exact h3,by simp only;rw[h4,aM],D1.swp hr1 hC1,hnx⟩}
theorem PE (n:Nat):Int.tdiv ((n:Int)-1) 2=(((n-1) / 2:Nat):Int):=by{
cases n with
| zero=>rfl
| succ n=>rw[show ((n+1:Nat):Int)-1=(n:Int) by omega];rfl}
theorem Gr {h:ah} {id au c a b:Nat} {d:Array aQ} (D:DA h id au d) (hab:a≤b) (hb:b≤d.size) : FW env 181 [.slice (some ⟨id,0,some au⟩) d.size c,i64 a,i64 b,aP] h fun r h'=>r = .tuple #[]∧h'=h.set id (.aj (IC (Go.Sort.heapSort br d a b)) au true 70)∧DA h' id au (Go.Sort.heapSort br d a b)∧(Go.Sort.heapSort br d a b).size=d.size:=by{
have hn:=D.n
obtain⟨H,hH⟩:∃ H,H=b-a:=⟨_,rfl⟩
have e1:IntKind.i64.wrap ((b:Int)-(a:Int))=(H:Int):=by rw[ay om om];omega
have e2:IntKind.i64.wrap ((H:Int)-1)=(H:Int)-1:=ay om om
have e3:IntKind.i64.wrap (Int.tdiv ((H:Int)-1) 2)=(((H-1) / 2:Nat):Int):=by rw[PE,ay om om]
obtain⟨K0,hK0⟩:∃ K0,K0=(H-1) / 2+1:=⟨_,rfl⟩
have e3':IntKind.i64.wrap (Int.tdiv ((H:Int)-1) 2)=(K0:Int)-1:=by rw[e3,hK0];omega
refine fe Tryz.func181 ?_;simp only[push_cast]
refine ir e1 e2 e3' ?_
refine eY (fun x:Nat×Array aQ×ah=>x.1) (fun x=>[(0,.val (.slice (some ⟨id,0,some au⟩) d.size c)),(3,.val aP),(8,.val (i64 a)),(9,.val (i64 0)),(10,.val (i64 H)),(11,.val (i64 ((x.1:Int)-1)))]) (fun x=>x.2.2)
 (fun x=>x.1≤K0∧x.2.1.size=d.size∧x.2.2=h.set id (.aj (IC x.2.1) au true 70)∧DA x.2.2 id au x.2.1∧Go.Sort.heapBuild br H a x.1 x.2.1=Go.Sort.heapBuild br H a K0 d) (K0,d,h) aO rfl ⟨Nat.le_refl _,rfl,(fA D.g).symm,D,rfl⟩ ?_
rintro⟨k,dc,hc⟩ ⟨h1,h3,h4,D1,h5⟩
simp only at h1 h3 h4 D1 h5 ⊢
by_cases hk:0<k
·obtain⟨q,rfl⟩:∃ q,k=q+1:=⟨k-1,by omega⟩
 rw[show ((q+1:Nat):Int)-1=(q:Int) by omega]
 have d1:decide (0≤(q:Int))=true:=decide_eq_true om
 have e4:IntKind.i64.wrap ((q:Int)-1)=(q:Int)-1:=ay om om
 refine aG d1 ?_
 refine af rfl ?_
 refine aB ?_
 refine zj Tryz.func206 ?_
 rw[List.append_nil,← h3]
 refine (Ab (c:=c) (root0:=q) (hi:=H) (first:=a) D1 om om).mono ?_
 rintro _ h6 ⟨rfl,k1,k2,k3⟩
 rw[h3]
 refine aG e4 ?_
 exact⟨(q,_,h6),by simp only;omega,aO,rfl,by simp only;omega,k3.trans h3,by simp only;rw[k1,h4,aM],k2,h5⟩
·obtain rfl:k=0:=by omega
 have hbu:dc=Go.Sort.heapBuild br H a K0 d:=h5
 have d1:decide (0≤((0:Nat):Int)-1)=false:=rfl
 rw[show ((0:Nat):Int)-1 = -1 from rfl]
 have d1':decide (0≤(-1:Int))=false:=rfl
 refine aG d1' ?_
 refine ae rfl ?_
 refine aC ?_
 show CW _ _ _ _
 refine aG e2 ?_
 refine eY (fun x:Nat×Array aQ×ah=>x.1) (fun x=>[(0,.val (.slice (some ⟨id,0,some au⟩) d.size c)),(3,.val aP),(8,.val (i64 a)),(9,.val (i64 0)),(10,.val (i64 H)),(12,.val (i64 ((x.1:Int)-1)))]) (fun x=>x.2.2)
  (fun x=>x.1≤H∧x.2.1.size=d.size∧x.2.2=h.set id (.aj (IC x.2.1) au true 70)∧DA x.2.2 id au x.2.1∧Go.Sort.heapPop br a x.1 x.2.1=Go.Sort.heapSort br d a b) (H,dc,hc) aO rfl ⟨Nat.le_refl _,h3,h4,D1,by simp only;rw[hbu];unfold Go.Sort.heapSort;rw[← hH,hK0]⟩ ?_
 clear h1 h3 h4 D1 h5 hbu hk hc dc
 rintro⟨k,dc,hc⟩ ⟨h1,h3,h4,D1,h5⟩
 simp only at h1 h3 h4 D1 h5 ⊢
 by_cases hk:0<k
 ·obtain⟨q,rfl⟩:∃ q,k=q+1:=⟨k-1,by omega⟩
  rw[show ((q+1:Nat):Int)-1=(q:Int) by omega]
  have d1:decide (0≤(q:Int))=true:=decide_eq_true om
  have e4:IntKind.i64.wrap ((q:Int)-1)=(q:Int)-1:=ay om om
  have hun:Go.Sort.heapPop br a (q+1) dc=Go.Sort.heapPop br a q (Go.Sort.siftDown br q a 0 (Go.Sort.swp dc a (a+q))):=rfl
  have hg:=D1.g
  have hi1:a<dc.size:=by omega
  have hj1:a+q<dc.size:=by omega
  have g1:=bz hi1
  have g0:=bz hj1
  have r1:=cH (k:=a) (n:=d.size) om
  have r0:=cH (k:=a+q) (n:=d.size) om
  have e5:IntKind.i64.wrap ((a:Int)+(q:Int))=((a+q:Nat):Int):=by rw[ay om om];omega
  obtain⟨J,hJ⟩:∃ J,J=a+q:=⟨_,rfl⟩
  rw[← hJ] at e5 g0 r0 hj1 hun
  refine aG d1 ?_
  refine af rfl ?_
  refine aB ?_
  refine aA [(0,.val (.slice (some ⟨id,0,some au⟩) d.size c)),(3,.val aP),(8,.val (i64 a)),(9,.val (i64 0)),(10,.val (i64 H)),(12,.val (i64 q))] aO ?_
  show CW _ _ ⟨_,[],hc⟩ _
  apply bi (L:=[[],[],[],[],[],[3,4],[],[],[],[7,8],[6,7,8,9],[6,7,8,9,10],[],[],[12,13],[12,13,14],[0,1],[0,1,6,7,8,9,10,11,12,13,14,15,16],[2,3,4,5],[0,1,2,3,4,5,6,7,8,9,10,11,12,13,14,15,16,17,18]]) (act:=[17,19]) (hs:=[hc.set id (.aj (IC (dc.setIfInBounds a dc[J]!)) au true 70),hc.set id (.aj (IC (Go.Sort.swp dc a J)) au true 70)]) (resL:=[_,_,_,_,_,_,_,_,_,_,_,_,_,_,_,_,_,_,_,_]) (frF:=[(0,.val (.slice (some ⟨id,0,some au⟩) d.size c)),(3,.val aP),(8,.val (i64 a)),(9,.val (i64 0)),(10,.val (i64 H)),(12,.val (i64 q))])
  case hm=>exact mixed
  case hc=>kernel_rfl
  case ha=>rfl
  case hb=>rfl
  case hS=>
   refine Hz hg g1 g0 r1 r0 e5 Nat.mul_one ?_
   apply az.cons
   ·rfl
   ·refine⟨?_,trivial⟩
    exact bl (r:=.sl .dy) rfl ak rfl ak ak hg ak rfl (cI (d:=dc) (i:=a) (x:=dc[J]!) hi1) rfl rfl
   ·rfl
   refine Hz hg g1 g0 r1 r0 e5 Nat.mul_one ?_
   apply az.cons
   ·rfl
   ·refine⟨?_,trivial⟩
    exact bl (r:=.sl .dy) rfl ak rfl ak ak (aw hg) ak rfl (cI (d:=dc.setIfInBounds a dc[J]!) (i:=J) (x:=dc[a]!) (by simpa using hj1)) rfl aM.symm
   ·rfl
   exact az.nil _
  case ht=>rfl
  case hF=>exact zh
  show CW _ _ _ _
  refine aB ?_
  refine zj Tryz.func206 ?_
  have hsz:d.size=(Go.Sort.swp dc a J).size:=by rw[swp_size,h3]
  rw[List.append_nil,hsz]
  refine (Ab (c:=c) (root0:=0) (hi:=q) (first:=a) (D1.swp hi1 hj1) (by rw[← hsz];omega) om).mono ?_
  rintro _ h6 ⟨rfl,k1,k2,k3⟩
  rw[← hsz]
  refine aG e4 ?_
  exact⟨(q,_,h6),by simp only;omega,aO,rfl,by simp only;omega,k3.trans hsz.symm,by simp only;rw[k1,h4,aM,aM],k2,by simp only;rw[← hun];exact h5⟩
 ·obtain rfl:k=0:=by omega
  have hend:Go.Sort.heapSort br d a b=dc:=h5.symm
  rw[show ((0:Nat):Int)-1 = -1 from rfl]
  have d1':decide (0≤(-1:Int))=false:=rfl
  refine aG d1' ?_
  refine ae rfl ?_
  refine aC ?_
  refine⟨_,ak,rfl,?_⟩
  simp only[hend]
  exact⟨h4,D1,h3⟩}
def Mi (dc:Array aQ) (a:Nat) (x:aQ):Bool:=!br dc[a]! x
def PD (dc:Array aQ) (a:Nat) (x:aQ):Bool:=br dc[a]! x
theorem kS {p:aQ→Bool} {d:Array aQ} {j i:Nat} (h:i≤j) (hp:p d[i]! = true):Go.Sort.scanUp p d j i=Go.Sort.scanUp p d j (i+1):=by
 rw[Go.Sort.scanUp,if_pos (by simp [h,hp])]
theorem fS {p:aQ→Bool} {d:Array aQ} {j i:Nat} (h:¬ (i≤j∧p d[i]! = true)):Go.Sort.scanUp p d j i=i:=by
 rw[Go.Sort.scanUp,if_neg (by simpa using h)]
theorem ju {p:aQ→Bool} {d:Array aQ} {i j:Nat} (h:i≤j+1) (hp:p d[j+1]! = true):Go.Sort.scanDown p d i (j+1)=Go.Sort.scanDown p d i j:=by
 rw[Go.Sort.scanDown,if_pos (by simp [h,hp])]
theorem eL {p:aQ→Bool} {d:Array aQ} {i j:Nat} (h:¬ (i≤j∧p d[j]! = true)):Go.Sort.scanDown p d i j=j:=by{
cases j with
| zero=>rfl
| succ j=>rw[Go.Sort.scanDown,if_neg (by simpa using h)]}
theorem wM {d:Array aQ} {a i j i2 j2:Nat} (h1:Go.Sort.scanUp (Mi d a) d j i=i2) (h2:Go.Sort.scanDown (PD d a) d i2 j=j2) (hij:i≤j+2):Go.Sort.partEqLoop br a i j d=if i2 > j2 then (i2,d) else Go.Sort.partEqLoop br a (i2+1) (j2-1) (Go.Sort.swp d i2 j2):=by{
have g1:=Go.Sort.scanUp_ge (Mi d a) d j i
have g2:=Go.Sort.scanDown_le (PD d a) d i2 j
rw[h1] at g1
rw[h2] at g2
have h1':Go.Sort.scanUp (fun x=>!br d[a]! x) d j i=i2:=h1
have h2':Go.Sort.scanDown (fun x=>br d[a]! x) d i2 j=j2:=h2
rw[Go.Sort.partEqLoop]
simp only[h1',h2']
by_cases h:i2 > j2
·rw[if_pos h,if_pos h]
·rw[if_neg h,if_neg h,dif_pos om]}
theorem AS {h:ah} {id au c a b pv:Nat} {d:Array aQ} (D:DA h id au d) (ha:a≤pv) (hpb:pv<b) (hb:b≤d.size) : FW env 186 [.slice (some ⟨id,0,some au⟩) d.size c,i64 a,i64 b,i64 pv,aP] h fun r h'=>r=i64 (Go.Sort.partitionEqual br d a b pv).1∧h'=h.set id (.aj (IC (Go.Sort.partitionEqual br d a b pv).2) au true 70)∧DA h' id au (Go.Sort.partitionEqual br d a b pv).2∧(Go.Sort.partitionEqual br d a b pv).2.size=d.size:=by{
have hn:=D.n
refine fe Tryz.func186 ?_;simp only[push_cast]
refine aB ?_
have hg:=D.g
have hi1:a<d.size:=by omega
have hj1:pv<d.size:=by omega
have g1:=bz hi1
have g0:=bz hj1
have r1:=cH (k:=a) (n:=d.size) om
have r0:=cH (k:=pv) (n:=d.size) om
refine aA [(0,.val (.slice (some ⟨id,0,some au⟩) d.size c)),(1,.val (i64 a)),(2,.val (i64 b)),(3,.val (i64 pv)),(4,.val aP)] aO ?_
show CW _ _ ⟨_,[],h⟩ _
apply bi (L:=[[],[],[],[],[],[],[4,5],[4,5,6],[],[],[8,9],[8,9,10],[0,1],[0,1,4,5,6,7,8,9,10,11,12],[2,3],[0,1,2,3,4,5,6,7,8,9,10,11,12,13,14]]) (act:=[13,15]) (hs:=[h.set id (.aj (IC (d.setIfInBounds a d[pv]!)) au true 70),h.set id (.aj (IC (Go.Sort.swp d a pv)) au true 70)]) (resL:=[_,_,_,_,_,_,_,_,_,_,_,_,_,_,_,_]) (frF:=[(0,.val (.slice (some ⟨id,0,some au⟩) d.size c)),(1,.val (i64 a)),(2,.val (i64 b)),(4,.val aP)])
case hm=>exact mixed
case hc=>kernel_rfl
case ha=>rfl
case hb=>rfl
case hS=>
 refine x9 hg g1 g0 r1 r0 Nat.mul_one ?_
 apply az.cons
 ·rfl
 ·refine⟨?_,trivial⟩
  exact bl (r:=.sl .dy) rfl ak rfl ak ak hg ak rfl (cI (d:=d) (i:=a) (x:=d[pv]!) hi1) rfl rfl
 ·rfl
 refine x9 hg g1 g0 r1 r0 Nat.mul_one ?_
 apply az.cons
 ·rfl
 ·refine⟨?_,trivial⟩
  exact bl (r:=.sl .dy) rfl ak rfl ak ak (aw hg) ak rfl (cI (d:=d.setIfInBounds a d[pv]!) (i:=pv) (x:=d[a]!) (by simpa using hj1)) rfl aM.symm
 ·rfl
 exact az.nil _
case ht=>rfl
case hF=>exact zh
show CW _ _ _ _
have e1:IntKind.i64.wrap ((a:Int)+1)=((a+1:Nat):Int):=by rw[ay om om];omega
have e2:IntKind.i64.wrap ((b:Int)-1)=((b-1:Nat):Int):=by rw[ay om om];omega
obtain⟨i0,hi0⟩:∃ i0,i0=a+1:=⟨_,rfl⟩
obtain⟨j0,hj0⟩:∃ j0,j0=b-1:=⟨_,rfl⟩
rw[← hi0] at e1
rw[← hj0] at e2
have D0:=D.swp hi1 hj1
refine fM e1 e2 ?_
refine eY (fun x:Nat×Nat×Array aQ×ah=>x.2.1+3-x.1) (fun x=>[(0,.val (.slice (some ⟨id,0,some au⟩) d.size c)),(1,.val (i64 a)),(4,.val aP),(11,.val (i64 x.1)),(12,.val (i64 x.2.1))]) (fun x=>x.2.2.2)
 (fun x=>a<x.1∧x.1≤x.2.1+2∧x.2.1<d.size∧x.2.2.1.size=d.size∧x.2.2.2=h.set id (.aj (IC x.2.2.1) au true 70)∧DA x.2.2.2 id au x.2.2.1∧Go.Sort.partEqLoop br a x.1 x.2.1 x.2.2.1=Go.Sort.partitionEqual br d a b pv) (i0,j0,Go.Sort.swp d a pv,_) aO rfl ⟨by simp only;omega,by simp only;omega,by simp only;omega,swp_size,rfl,D0,by simp only;rw[hi0,hj0];rfl⟩ ?_
clear hg g1 g0 D0
rintro⟨i,j,dc,hc⟩ ⟨h1,h2,h2',h3,h4,D1,h5⟩
simp only at h1 h2 h2' h3 h4 D1 h5 ⊢
have hg:=D1.g
have hac:a<dc.size:=by omega
have ga:=bz hac
have ba:=D1.b _ hac
have ra:=cH (k:=a) (n:=d.size) om
obtain⟨i2,hi2⟩:∃ i2,Go.Sort.scanUp (Mi dc a) dc j i=i2:=⟨_,rfl⟩
refine aB ?_
refine CW.mono (Q:=fun e s'=>e = .exit 2∧s'.h=hc∧i≤i2∧i2≤j+2∧bB [(0,.val (.slice (some ⟨id,0,some au⟩) d.size c)),(1,.val (i64 a)),(4,.val aP),(11,.val (i64 i2)),(12,.val (i64 j))] s'.fr) ?_ ?_
·refine eY (fun k:Nat=>j+1-k) (fun k=>[(0,.val (.slice (some ⟨id,0,some au⟩) d.size c)),(1,.val (i64 a)),(4,.val aP),(11,.val (i64 k)),(12,.val (i64 j))]) (fun _=>hc)
  (fun k=>i≤k∧k≤j+2∧Go.Sort.scanUp (Mi dc a) dc j k=i2) i aO rfl ⟨Nat.le_refl _,h2,hi2⟩ ?_
 rintro k ⟨k1,k2,k3⟩
 by_cases hkj:k≤j
 ·have d4:decide ((k:Int)≤(j:Int))=true:=decide_eq_true om
  have hk1:k<dc.size:=by omega
  have gk:=bz hk1
  have bk:=D1.b _ hk1
  have rk:=cH (k:=k) (n:=d.size) om
  have e4:IntKind.i64.wrap ((k:Int)+1)=(k:Int)+1:=ay om om
  cases hl:br dc[a]! dc[k]! with
  | false=>
    have d7:decide (fj dc[a]! dc[k]! < 0)=false:=hl
    refine aB ?_
    apply bu (L:=[[],[],[0,1],[2],[3],[3],[3],[3,5,6],[3,7],[3],[3],[3,9,10],[3,11],[3,4,8,12],[3,13],[3,14],[3,15]]) (resL:=[_,_,_,_,_,_,_,_,_,_,_,_,_,_,_,_,_]) (frF:=[(0,.val (.slice (some ⟨id,0,some au⟩) d.size c)),(1,.val (i64 a)),(4,.val aP),(11,.val (i64 k)),(12,.val (i64 j)),(47,.val (.bool true))])
    case hm=>exact mixed
    case hc=>kernel_rfl
    case hb=>rfl
    case hS=>
     refine yc d4 hg ga gk ra rk Nat.mul_one ?_
     apply aR.cons
     ·exact bg (fn:=Tryz.f104) (args:=[dc[a]!.val,dc[k]!.val]) (cap:=[]) rfl (iD d4) rfl ak ak Tryz.func104 kr kr (bF ba bk)
     ·rfl
     exact rG d7 d4
    case ht=>rfl
    case hF=>exact zh
    show CW _ _ _ _
    refine aB ?_
    refine af rfl ?_
    refine aG e4 ?_
    exact⟨k+1,by dsimp only;omega,aO,rfl,by omega,by omega,by rw[← k3];exact (kS hkj (by unfold Mi;rw[hl];rfl)).symm⟩
  | true=>
    have d7:decide (fj dc[a]! dc[k]! < 0)=true:=hl
    have hst:i2=k:=by rw[← k3];exact fS (by unfold Mi;rw[hl];simp)
    subst hst
    refine aB ?_
    apply bu (L:=[[],[],[0,1],[2],[3],[3],[3],[3,5,6],[3,7],[3],[3],[3,9,10],[3,11],[3,4,8,12],[3,13],[3,14],[3,15]]) (resL:=[_,_,_,_,_,_,_,_,_,_,_,_,_,_,_,_,_]) (frF:=[(0,.val (.slice (some ⟨id,0,some au⟩) d.size c)),(1,.val (i64 a)),(4,.val aP),(11,.val (i64 i2)),(12,.val (i64 j)),(47,.val (.bool false))])
    case hm=>exact mixed
    case hc=>kernel_rfl
    case hb=>rfl
    case hS=>
     refine yc d4 hg ga gk ra rk Nat.mul_one ?_
     apply aR.cons
     ·exact bg (fn:=Tryz.f104) (args:=[dc[a]!.val,dc[i2]!.val]) (cap:=[]) rfl (iD d4) rfl ak ak Tryz.func104 kr kr (bF ba bk)
     ·rfl
     exact rG d7 d4
    case ht=>rfl
    case hF=>exact zh
    show CW _ _ _ _
    refine aB ?_
    refine ae rfl ?_
    refine aC ?_
    exact⟨rfl,rfl,k1,k2,aO⟩
 ·have d4:decide ((k:Int)≤(j:Int))=false:=decide_eq_false om
  have hst:i2=k:=by rw[← k3];exact fS om
  subst hst
  refine aB ?_
  apply bu (L:=[[],[],[0,1],[2],[3],[3],[3],[3,5,6],[3,7],[3],[3],[3,9,10],[3,11],[3,4,8,12],[3,13],[3,14],[3,15]]) (resL:=[_,_,_,_,_,_,_,_,_,_,_,_,_,_,_,_,_]) (frF:=[(0,.val (.slice (some ⟨id,0,some au⟩) d.size c)),(1,.val (i64 a)),(4,.val aP),(11,.val (i64 i2)),(12,.val (i64 j)),(47,.val (.bool false))])
  case hm=>exact mixed
  case hc=>kernel_rfl
  case hb=>rfl
  case hS=>exact AQ d4
  case ht=>rfl
  case hF=>exact zh
  show CW _ _ _ _
  refine aB ?_
  refine ae rfl ?_
  refine aC ?_
  exact⟨rfl,rfl,k1,k2,aO⟩
rintro e s' ⟨rfl,hh,hii,hij2,hf⟩
show CW _ _ _ _
refine aA _ hf ?_
rw[hh]
obtain⟨j2,hj2⟩:∃ j2,Go.Sort.scanDown (PD dc a) dc i2 j=j2:=⟨_,rfl⟩
have hstep:=wM hi2 hj2 h2
refine aB ?_
refine CW.mono (Q:=fun e s'=>e = .exit 4∧s'.h=hc∧j2≤j∧i2≤j2+2∧bB [(0,.val (.slice (some ⟨id,0,some au⟩) d.size c)),(1,.val (i64 a)),(4,.val aP),(11,.val (i64 i2)),(12,.val (i64 j2))] s'.fr) ?_ ?_
·refine eY (fun k:Nat=>k) (fun k=>[(0,.val (.slice (some ⟨id,0,some au⟩) d.size c)),(1,.val (i64 a)),(4,.val aP),(11,.val (i64 i2)),(12,.val (i64 k))]) (fun _=>hc)
  (fun k=>k≤j∧i2≤k+2∧Go.Sort.scanDown (PD dc a) dc i2 k=j2) j aO rfl ⟨Nat.le_refl _,hij2,hj2⟩ ?_
 rintro k ⟨k1,k2,k3⟩
 by_cases hkj:i2≤k
 ·have d4:decide ((i2:Int)≤(k:Int))=true:=decide_eq_true om
  have hk1:k<dc.size:=by omega
  have gk:=bz hk1
  have bk:=D1.b _ hk1
  have rk:=cH (k:=k) (n:=d.size) om
  obtain⟨q,hq⟩:∃ q,k=q+1:=⟨k-1,by omega⟩
  have e4:IntKind.i64.wrap ((k:Int)-1)=(q:Int):=by rw[ay om om];omega
  cases hl:br dc[a]! dc[k]! with
  | true=>
    have d7:decide (fj dc[a]! dc[k]! < 0)=true:=hl
    refine aB ?_
    apply bu (L:=[[],[],[0,1],[2],[3],[3],[3],[3,5,6],[3,7],[3],[3],[3,9,10],[3,11],[3,4,8,12],[3,13],[3,14]]) (resL:=[_,_,_,_,_,_,_,_,_,_,_,_,_,_,_,_]) (frF:=[(0,.val (.slice (some ⟨id,0,some au⟩) d.size c)),(1,.val (i64 a)),(4,.val aP),(11,.val (i64 i2)),(12,.val (i64 k)),(65,.val (.bool true))])
    case hm=>exact mixed
    case hc=>kernel_rfl
    case hb=>rfl
    case hS=>
     refine yc d4 hg ga gk ra rk Nat.mul_one ?_
     apply aR.cons
     ·exact bg (fn:=Tryz.f104) (args:=[dc[a]!.val,dc[k]!.val]) (cap:=[]) rfl (iD d4) rfl ak ak Tryz.func104 kr kr (bF ba bk)
     ·rfl
     exact rG d7 d4
    case ht=>rfl
    case hF=>exact zh
    show CW _ _ _ _
    refine aB ?_
    refine af rfl ?_
    refine aG e4 ?_
    refine⟨q,by dsimp only;omega,aO,rfl,by omega,by omega,?_⟩
    rw[← k3,hq]
    refine (ju om ?_).symm
    rw[← hq]
    exact hl
  | false=>
    have d7:decide (fj dc[a]! dc[k]! < 0)=false:=hl
    have hst:j2=k:=by rw[← k3];exact eL (by unfold PD;rw[hl];simp)
    subst hst
    refine aB ?_
    apply bu (L:=[[],[],[0,1],[2],[3],[3],[3],[3,5,6],[3,7],[3],[3],[3,9,10],[3,11],[3,4,8,12],[3,13],[3,14]]) (resL:=[_,_,_,_,_,_,_,_,_,_,_,_,_,_,_,_]) (frF:=[(0,.val (.slice (some ⟨id,0,some au⟩) d.size c)),(1,.val (i64 a)),(4,.val aP),(11,.val (i64 i2)),(12,.val (i64 j2)),(65,.val (.bool false))])
    case hm=>exact mixed
    case hc=>kernel_rfl
    case hb=>rfl
    case hS=>
     refine yc d4 hg ga gk ra rk Nat.mul_one ?_
     apply aR.cons
     ·exact bg (fn:=Tryz.f104) (args:=[dc[a]!.val,dc[j2]!.val]) (cap:=[]) rfl (iD d4) rfl ak ak Tryz.func104 kr kr (bF ba bk)
     ·rfl
     exact rG d7 d4
    case ht=>rfl
    case hF=>exact zh
    show CW _ _ _ _
    refine aB ?_
    refine ae rfl ?_
    refine aC ?_
    exact⟨rfl,rfl,k1,k2,aO⟩
 ·have d4:decide ((i2:Int)≤(k:Int))=false:=decide_eq_false om
  have hst:j2=k:=by rw[← k3];exact eL om
  subst hst
  refine aB ?_
  apply bu (L:=[[],[],[0,1],[2],[3],[3],[3],[3,5,6],[3,7],[3],[3],[3,9,10],[3,11],[3,4,8,12],[3,13],[3,14]]) (resL:=[_,_,_,_,_,_,_,_,_,_,_,_,_,_,_,_]) (frF:=[(0,.val (.slice (some ⟨id,0,some au⟩) d.size c)),(1,.val (i64 a)),(4,.val aP),(11,.val (i64 i2)),(12,.val (i64 j2)),(65,.val (.bool false))])
  case hm=>exact mixed
  case hc=>kernel_rfl
  case hb=>rfl
  case hS=>exact AQ d4
  case ht=>rfl
  case hF=>exact zh
  show CW _ _ _ _
  refine aB ?_
  refine ae rfl ?_
  refine aC ?_
  exact⟨rfl,rfl,k1,k2,aO⟩
rintro e s' ⟨rfl,hh,hjj,hij3,hf⟩
show CW _ _ _ _
refine aA _ hf ?_
rw[hh]
by_cases hgt:j2<i2
·have d5:decide ((j2:Int)<(i2:Int))=true:=decide_eq_true om
 rw[if_pos hgt,h5] at hstep
 refine aG d5 ?_
 refine af rfl ?_
 refine aC ?_
 show CW _ _ _ _
 refine aB ?_
 refine ai ?_
 refine⟨_,ak,by rw[hstep];rfl,?_⟩
 simp only[hstep]
 exact⟨h4,D1,h3⟩
·have d5:decide ((j2:Int)<(i2:Int))=false:=decide_eq_false om
 rw[if_neg hgt,h5] at hstep
 have hx1:i2<dc.size:=by omega
 have hy1:j2<dc.size:=by omega
 have gx:=bz hx1
 have gy:=bz hy1
 have rx:=cH (k:=i2) (n:=d.size) om
 have ry:=cH (k:=j2) (n:=d.size) om
 have e6:IntKind.i64.wrap ((i2:Int)+1)=(i2:Int)+1:=ay om om
 obtain⟨q,hq⟩:∃ q,q=j2-1:=⟨_,rfl⟩
 have e7:IntKind.i64.wrap ((j2:Int)-1)=(q:Int):=by rw[ay om om];omega
 rw[← hq] at hstep
 refine aG d5 ?_
 refine ae rfl ?_
 refine aB ?_
 refine aA [(0,.val (.slice (some ⟨id,0,some au⟩) d.size c)),(1,.val (i64 a)),(4,.val aP),(11,.val (i64 i2)),(12,.val (i64 j2))] aO ?_
 show CW _ _ ⟨_,[],hc⟩ _
 apply bi (L:=[[],[],[],[],[],[],[4,5],[4,5,6],[],[],[8,9],[8,9,10],[0,1],[0,1,4,5,6,7,8,9,10,11,12],[2,3],[0,1,2,3,4,5,6,7,8,9,10,11,12,13,14]]) (act:=[13,15]) (hs:=[hc.set id (.aj (IC (dc.setIfInBounds i2 dc[j2]!)) au true 70),hc.set id (.aj (IC (Go.Sort.swp dc i2 j2)) au true 70)]) (resL:=[_,_,_,_,_,_,_,_,_,_,_,_,_,_,_,_]) (frF:=[(0,.val (.slice (some ⟨id,0,some au⟩) d.size c)),(1,.val (i64 a)),(4,.val aP),(11,.val (i64 i2)),(12,.val (i64 j2))])
 case hm=>exact mixed
 case hc=>kernel_rfl
 case ha=>rfl
 case hb=>rfl
 case hS=>
  refine x9 hg gx gy rx ry Nat.mul_one ?_
  apply az.cons
  ·rfl
  ·refine⟨?_,trivial⟩
   exact bl (r:=.sl .dy) rfl ak rfl ak ak hg ak rfl (cI (d:=dc) (i:=i2) (x:=dc[j2]!) hx1) rfl rfl
  ·rfl
  refine x9 hg gx gy rx ry Nat.mul_one ?_
  apply az.cons
  ·rfl
  ·refine⟨?_,trivial⟩
   exact bl (r:=.sl .dy) rfl ak rfl ak ak (aw hg) ak rfl (cI (d:=dc.setIfInBounds i2 dc[j2]!) (i:=j2) (x:=dc[i2]!) (by simpa using hy1)) rfl aM.symm
  ·rfl
  exact az.nil _
 case ht=>rfl
 case hF=>exact zh
 show CW _ _ _ _
 refine fM e6 e7 ?_
 exact⟨(i2+1,q,Go.Sort.swp dc i2 j2,_),by simp only;omega,aO,rfl,by simp only;omega,by simp only;omega,by simp only;omega,by simp only;rw[swp_size];exact h3,by simp only;rw[h4,aM],D1.swp hx1 hy1,hstep.symm⟩}
def Ft (dc:Array aQ) (a:Nat) (x:aQ):Bool:=br x dc[a]!
def Fs (dc:Array aQ) (a:Nat) (x:aQ):Bool:=!br x dc[a]!
theorem tW {d:Array aQ} {a i j i2 j2:Nat} (h1:Go.Sort.scanUp (Ft d a) d j i=i2) (h2:Go.Sort.scanDown (Fs d a) d i2 j=j2) (hij:i≤j+2):Go.Sort.partLoop br a i j d=if i2 > j2 then (j2,d) else Go.Sort.partLoop br a (i2+1) (j2-1) (Go.Sort.swp d i2 j2):=by{
have g1:=Go.Sort.scanUp_ge (Ft d a) d j i
have g2:=Go.Sort.scanDown_le (Fs d a) d i2 j
rw[h1] at g1
rw[h2] at g2
have h1':Go.Sort.scanUp (fun x=>br x d[a]!) d j i=i2:=h1
have h2':Go.Sort.scanDown (fun x=>!br x d[a]!) d i2 j=j2:=h2
rw[Go.Sort.partLoop]
simp only[h1',h2']
by_cases h:i2 > j2
·rw[if_pos h,if_pos h]
·rw[if_neg h,if_neg h,dif_pos om]}
theorem FV {h:ah} {id au c a b pv:Nat} {d:Array aQ} (D:DA h id au d) (ha:a≤pv) (hpb:pv<b) (hb:b≤d.size) : FW env 187 [.slice (some ⟨id,0,some au⟩) d.size c,i64 a,i64 b,i64 pv,aP] h fun r h'=>∃ ap:Bool,r = .tuple #[i64 (Go.Sort.partition br d a b pv).1,.bool ap]∧h'=h.set id (.aj (IC (Go.Sort.partition br d a b pv).2.2) au true 70)∧DA h' id au (Go.Sort.partition br d a b pv).2.2∧(Go.Sort.partition br d a b pv).2.2.size=d.size:=by{
have hn:=D.n
rw[Go.Sort.partition_fst,Go.Sort.partition_arr]
refine fe Tryz.func187 ?_;simp only[push_cast]
refine aB ?_
have hi1:a<d.size:=by omega
have hj1:pv<d.size:=by omega
refine aA [(0,.val (.slice (some ⟨id,0,some au⟩) d.size c)),(1,.val (i64 a)),(2,.val (i64 b)),(3,.val (i64 pv)),(4,.val aP)] aO ?_
show CW _ _ ⟨_,[],h⟩ _
have hg:=D.g
have g1:=bz hi1
have g0:=bz hj1
have r1:=cH (k:=a) (n:=d.size) om
have r0:=cH (k:=pv) (n:=d.size) om
apply bi (L:=[[],[],[],[],[],[],[4,5],[4,5,6],[],[],[8,9],[8,9,10],[0,1],[0,1,4,5,6,7,8,9,10,11,12],[2,3],[0,1,2,3,4,5,6,7,8,9,10,11,12,13,14]]) (act:=[13,15]) (hs:=[h.set id (.aj (IC (d.setIfInBounds a d[pv]!)) au true 70),h.set id (.aj (IC (Go.Sort.swp d a pv)) au true 70)]) (resL:=[_,_,_,_,_,_,_,_,_,_,_,_,_,_,_,_]) (frF:=[(0,.val (.slice (some ⟨id,0,some au⟩) d.size c)),(1,.val (i64 a)),(2,.val (i64 b)),(4,.val aP)])
case hm=>exact mixed
case hc=>kernel_rfl
case ha=>rfl
case hb=>rfl
case hS=>
 refine x9 hg g1 g0 r1 r0 Nat.mul_one ?_
 apply az.cons
 ·rfl
 ·refine⟨?_,trivial⟩
  exact bl (r:=.sl .dy) rfl ak rfl ak ak hg ak rfl (cI (d:=d) (i:=a) (x:=d[pv]!) hi1) rfl rfl
 ·rfl
 refine x9 hg g1 g0 r1 r0 Nat.mul_one ?_
 apply az.cons
 ·rfl
 ·refine⟨?_,trivial⟩
  exact bl (r:=.sl .dy) rfl ak rfl ak ak (aw hg) ak rfl (cI (d:=d.setIfInBounds a d[pv]!) (i:=pv) (x:=d[a]!) (by simpa using hj1)) rfl aM.symm
 ·rfl
 exact az.nil _
case ht=>rfl
case hF=>exact zh
show CW _ _ _ _
have e1:IntKind.i64.wrap ((a:Int)+1)=((a+1:Nat):Int):=by rw[ay om om];omega
have e2:IntKind.i64.wrap ((b:Int)-1)=((b-1:Nat):Int):=by rw[ay om om];omega
obtain⟨i0,hi0⟩:∃ i0,i0=a+1:=⟨_,rfl⟩
obtain⟨j0,hj0⟩:∃ j0,j0=b-1:=⟨_,rfl⟩
rw[← hi0] at e1
rw[← hj0] at e2
have D0:=D.swp hi1 hj1
clear hg g1 g0 r1 r0
refine fM e1 e2 ?_
refine aA [(0,.val (.slice (some ⟨id,0,some au⟩) d.size c)),(1,.val (i64 a)),(4,.val aP),(12,.val (i64 i0)),(13,.val (i64 j0))] aO ?_
show CW _ _ ⟨_,[],h.set id (.aj (IC (Go.Sort.swp d a pv)) au true 70)⟩ _
have hR:Go.Sort.partLoop br a (a+1) (b-1) (Go.Sort.swp d a pv)=Go.Sort.partLoop br a i0 j0 (Go.Sort.swp d a pv):=by rw[hi0,hj0]
rw[hR]
obtain⟨R,hR'⟩:∃ R,Go.Sort.partLoop br a i0 j0 (Go.Sort.swp d a pv)=R:=⟨_,rfl⟩
rw[hR']
obtain⟨dc,hdc⟩:∃ dc,Go.Sort.swp d a pv=dc:=⟨_,rfl⟩
obtain⟨hc,hhc⟩:∃ hc,h.set id (.aj (IC dc) au true 70)=hc:=⟨_,rfl⟩
rw[hdc] at D0 hR' ⊢
rw[hhc] at D0 ⊢
have h3:dc.size=d.size:=by rw[← hdc,swp_size]
obtain⟨i,hi⟩:∃ i,i0=i:=⟨_,rfl⟩
obtain⟨j,hj⟩:∃ j,j0=j:=⟨_,rfl⟩
rw[hi] at hR' ⊢ hi0
rw[hj] at hR' ⊢ hj0
have h1:a<i:=by omega
have h2:i≤j+2:=by omega
have h2':j<d.size:=by omega
have haj:a≤j:=by omega
have D1:=D0
have hg:=D1.g
have hac:a<dc.size:=by omega
have ga:=bz hac
have ba:=D1.b _ hac
have ra:=cH (k:=a) (n:=d.size) om
clear e1 e2 hi hj
obtain⟨i2,hi2⟩:∃ i2,Go.Sort.scanUp (Ft dc a) dc j i=i2:=⟨_,rfl⟩
refine aB ?_
refine CW.mono (Q:=fun e s'=>e = .exit 0∧s'.h=hc∧i≤i2∧i2≤j+2∧bB [(0,.val (.slice (some ⟨id,0,some au⟩) d.size c)),(1,.val (i64 a)),(4,.val aP),(12,.val (i64 i2)),(13,.val (i64 j))] s'.fr) ?_ ?_
·refine eY (fun k:Nat=>j+1-k) (fun k=>[(0,.val (.slice (some ⟨id,0,some au⟩) d.size c)),(1,.val (i64 a)),(4,.val aP),(12,.val (i64 k)),(13,.val (i64 j))]) (fun _=>hc)
  (fun k=>i≤k∧k≤j+2∧Go.Sort.scanUp (Ft dc a) dc j k=i2) i aO rfl ⟨Nat.le_refl _,h2,hi2⟩ ?_
 rintro k ⟨k1,k2,k3⟩
 by_cases hkj:k≤j
 ·have d4:decide ((k:Int)≤(j:Int))=true:=decide_eq_true om
  have hk1:k<dc.size:=by omega
  have gk:=bz hk1
  have bk:=D1.b _ hk1
  have rk:=cH (k:=k) (n:=d.size) om
  have e4:IntKind.i64.wrap ((k:Int)+1)=(k:Int)+1:=ay om om
  cases hl:br dc[k]! dc[a]! with
  | true=>
    have d7:decide (fj dc[k]! dc[a]! < 0)=true:=hl
    refine aB ?_
    apply bu (L:=[[],[],[0,1],[2],[3],[3],[3],[3,5,6],[3,7],[3],[3],[3,9,10],[3,11],[3,4,8,12],[3,13],[3,14]]) (resL:=[_,_,_,_,_,_,_,_,_,_,_,_,_,_,_,_]) (frF:=[(0,.val (.slice (some ⟨id,0,some au⟩) d.size c)),(1,.val (i64 a)),(4,.val aP),(12,.val (i64 k)),(13,.val (i64 j)),(47,.val (.bool true))])
    case hm=>exact mixed
    case hc=>kernel_rfl
    case hb=>rfl
    case hS=>
     refine yc d4 hg ga gk ra rk Nat.mul_one ?_
     apply aR.cons
     ·exact bg (fn:=Tryz.f104) (args:=[dc[k]!.val,dc[a]!.val]) (cap:=[]) rfl (iD d4) rfl ak ak Tryz.func104 kr kr (bF bk ba)
     ·rfl
     exact rG d7 d4
    case ht=>rfl
    case hF=>exact zh
    show CW _ _ _ _
    refine aB ?_
    refine af rfl ?_
    refine aG e4 ?_
    exact⟨k+1,by dsimp only;omega,aO,rfl,by omega,by omega,by rw[← k3];exact (kS hkj (by unfold Ft;exact hl)).symm⟩
  | false=>
    have d7:decide (fj dc[k]! dc[a]! < 0)=false:=hl
    have hst:i2=k:=by rw[← k3];exact fS (by unfold Ft;rw[hl];simp)
    subst hst
    refine aB ?_
    apply bu (L:=[[],[],[0,1],[2],[3],[3],[3],[3,5,6],[3,7],[3],[3],[3,9,10],[3,11],[3,4,8,12],[3,13],[3,14]]) (resL:=[_,_,_,_,_,_,_,_,_,_,_,_,_,_,_,_]) (frF:=[(0,.val (.slice (some ⟨id,0,some au⟩) d.size c)),(1,.val (i64 a)),(4,.val aP),(12,.val (i64 i2)),(13,.val (i64 j)),(47,.val (.bool false))])
    case hm=>exact mixed
    case hc=>kernel_rfl
    case hb=>rfl
    case hS=>
     refine yc d4 hg ga gk ra rk Nat.mul_one ?_
     apply aR.cons
     ·exact bg (fn:=Tryz.f104) (args:=[dc[i2]!.val,dc[a]!.val]) (cap:=[]) rfl (iD d4) rfl ak ak Tryz.func104 kr kr (bF bk ba)
     ·rfl
     exact rG d7 d4
    case ht=>rfl
    case hF=>exact zh
    show CW _ _ _ _
    refine aB ?_
    refine ae rfl ?_
    refine aC ?_
    exact⟨rfl,rfl,k1,k2,aO⟩
 ·have d4:decide ((k:Int)≤(j:Int))=false:=decide_eq_false om
  have hst:i2=k:=by rw[← k3];exact fS om
  subst hst
  refine aB ?_
  apply bu (L:=[[],[],[0,1],[2],[3],[3],[3],[3,5,6],[3,7],[3],[3],[3,9,10],[3,11],[3,4,8,12],[3,13],[3,14]]) (resL:=[_,_,_,_,_,_,_,_,_,_,_,_,_,_,_,_]) (frF:=[(0,.val (.slice (some ⟨id,0,some au⟩) d.size c)),(1,.val (i64 a)),(4,.val aP),(12,.val (i64 i2)),(13,.val (i64 j)),(47,.val (.bool false))])
  case hm=>exact mixed
  case hc=>kernel_rfl
  case hb=>rfl
  case hS=>exact AQ d4
  case ht=>rfl
  case hF=>exact zh
  show CW _ _ _ _
  refine aB ?_
  refine ae rfl ?_
  refine aC ?_
  exact⟨rfl,rfl,k1,k2,aO⟩
rintro e s' ⟨rfl,hh,hii,hij2,hf⟩
show CW _ _ _ _
refine aA _ hf ?_
rw[hh]
clear hf hh
obtain⟨j2,hj2⟩:∃ j2,Go.Sort.scanDown (Fs dc a) dc i2 j=j2:=⟨_,rfl⟩
have hstep:=tW hi2 hj2 h2
refine aB ?_
refine CW.mono (Q:=fun e s'=>e = .exit 2∧s'.h=hc∧j2≤j∧a≤j2∧bB [(0,.val (.slice (some ⟨id,0,some au⟩) d.size c)),(1,.val (i64 a)),(4,.val aP),(12,.val (i64 i2)),(13,.val (i64 j2))] s'.fr) ?_ ?_
·refine eY (fun k:Nat=>k) (fun k=>[(0,.val (.slice (some ⟨id,0,some au⟩) d.size c)),(1,.val (i64 a)),(4,.val aP),(12,.val (i64 i2)),(13,.val (i64 k))]) (fun _=>hc)
  (fun k=>k≤j∧a≤k∧Go.Sort.scanDown (Fs dc a) dc i2 k=j2) j aO rfl ⟨Nat.le_refl _,haj,hj2⟩ ?_
 rintro k ⟨k1,k2,k3⟩
 by_cases hkj:i2≤k
 ·have d4:decide ((i2:Int)≤(k:Int))=true:=decide_eq_true om
  have hk1:k<dc.size:=by omega
  have gk:=bz hk1
  have bk:=D1.b _ hk1
  have rk:=cH (k:=k) (n:=d.size) om
  obtain⟨q,hq⟩:∃ q,k=q+1:=⟨k-1,by omega⟩
  have e4:IntKind.i64.wrap ((k:Int)-1)=(q:Int):=by rw[ay om om];omega
  cases hl:br dc[k]! dc[a]! with
  | false=>
    have d7:decide (fj dc[k]! dc[a]! < 0)=false:=hl
    refine aB ?_
    apply bu (L:=[[],[],[0,1],[2],[3],[3],[3],[3,5,6],[3,7],[3],[3],[3,9,10],[3,11],[3,4,8,12],[3,13],[3,14],[3,15]]) (resL:=[_,_,_,_,_,_,_,_,_,_,_,_,_,_,_,_,_]) (frF:=[(0,.val (.slice (some ⟨id,0,some au⟩) d.size c)),(1,.val (i64 a)),(4,.val aP),(12,.val (i64 i2)),(13,.val (i64 k)),(66,.val (.bool true))])
    case hm=>exact mixed
    case hc=>kernel_rfl
    case hb=>rfl
    case hS=>
     refine yc d4 hg ga gk ra rk Nat.mul_one ?_
     apply aR.cons
     ·exact bg (fn:=Tryz.f104) (args:=[dc[k]!.val,dc[a]!.val]) (cap:=[]) rfl (iD d4) rfl ak ak Tryz.func104 kr kr (bF bk ba)
     ·rfl
     exact rG d7 d4
    case ht=>rfl
    case hF=>exact zh
    show CW _ _ _ _
    refine aB ?_
    refine af rfl ?_
    refine aG e4 ?_
    refine⟨q,by dsimp only;omega,aO,rfl,by omega,by omega,?_⟩
    rw[← k3,hq]
    refine (ju om ?_).symm
    rw[← hq]
    unfold Fs
    rw[hl]
    rfl
  | true=>
    have d7:decide (fj dc[k]! dc[a]! < 0)=true:=hl
    have hst:j2=k:=by rw[← k3];exact eL (by unfold Fs;rw[hl];simp)
    subst hst
    refine aB ?_
    apply bu (L:=[[],[],[0,1],[2],[3],[3],[3],[3,5,6],[3,7],[3],[3],[3,9,10],[3,11],[3,4,8,12],[3,13],[3,14],[3,15]]) (resL:=[_,_,_,_,_,_,_,_,_,_,_,_,_,_,_,_,_]) (frF:=[(0,.val (.slice (some ⟨id,0,some au⟩) d.size c)),(1,.val (i64 a)),(4,.val aP),(12,.val (i64 i2)),(13,.val (i64 j2)),(66,.val (.bool false))])
    case hm=>exact mixed
    case hc=>kernel_rfl
    case hb=>rfl
    case hS=>
     refine yc d4 hg ga gk ra rk Nat.mul_one ?_
     apply aR.cons
     ·exact bg (fn:=Tryz.f104) (args:=[dc[j2]!.val,dc[a]!.val]) (cap:=[]) rfl (iD d4) rfl ak ak Tryz.func104 kr kr (bF bk ba)
     ·rfl
     exact rG d7 d4
    case ht=>rfl
    case hF=>exact zh
    show CW _ _ _ _
    refine aB ?_
    refine ae rfl ?_
    refine aC ?_
    exact⟨rfl,rfl,k1,k2,aO⟩
 ·have d4:decide ((i2:Int)≤(k:Int))=false:=decide_eq_false om
  have hst:j2=k:=by rw[← k3];exact eL om
  subst hst
  refine aB ?_
  apply bu (L:=[[],[],[0,1],[2],[3],[3],[3],[3,5,6],[3,7],[3],[3],[3,9,10],[3,11],[3,4,8,12],[3,13],[3,14],[3,15]]) (resL:=[_,_,_,_,_,_,_,_,_,_,_,_,_,_,_,_,_]) (frF:=[(0,.val (.slice (some ⟨id,0,some au⟩) d.size c)),(1,.val (i64 a)),(4,.val aP),(12,.val (i64 i2)),(13,.val (i64 j2)),(66,.val (.bool false))])
  case hm=>exact mixed
  case hc=>kernel_rfl
  case hb=>rfl
  case hS=>exact AQ d4
  case ht=>rfl
  case hF=>exact zh
  show CW _ _ _ _
  refine aB ?_
  refine ae rfl ?_
  refine aC ?_
  exact⟨rfl,rfl,k1,k2,aO⟩
rintro e s' ⟨rfl,hh,hjj,haj2,hf⟩
show CW _ _ _ _
refine aA _ hf ?_
rw[hh]
clear hf hh
by_cases hgt:j2<i2
·have d5:decide ((j2:Int)<(i2:Int))=true:=decide_eq_true om
 rw[if_pos hgt,hR'] at hstep
 have hy1:j2<dc.size:=by omega
 have gy:=bz hy1
 have ry:=cH (k:=j2) (n:=d.size) om
 refine aG d5 ?_
 refine af rfl ?_
 refine aB ?_
 refine aA [(0,.val (.slice (some ⟨id,0,some au⟩) d.size c)),(1,.val (i64 a)),(4,.val aP),(12,.val (i64 i2)),(13,.val (i64 j2))] aO ?_
 show CW _ _ ⟨_,[],hc⟩ _
 apply bi (L:=[[],[],[],[],[],[],[4,5],[4,5,6],[],[],[8,9],[8,9,10],[0,1],[0,1,4,5,6,7,8,9,10,11,12],[2,3],[0,1,2,3,4,5,6,7,8,9,10,11,12,13,14]]) (act:=[13,15]) (hs:=[hc.set id (.aj (IC (dc.setIfInBounds j2 dc[a]!)) au true 70),hc.set id (.aj (IC (Go.Sort.swp dc j2 a)) au true 70)]) (resL:=[_,_,_,_,_,_,_,_,_,_,_,_,_,_,_,_]) (frF:=[(0,.val (.slice (some ⟨id,0,some au⟩) d.size c)),(1,.val (i64 a)),(4,.val aP),(12,.val (i64 i2)),(13,.val (i64 j2))])
 case hm=>exact mixed
 case hc=>kernel_rfl
 case ha=>rfl
 case hb=>rfl
 case hS=>
  refine x9 hg gy ga ry ra Nat.mul_one ?_
  apply az.cons
  ·rfl
  ·refine⟨?_,trivial⟩
   exact bl (r:=.sl .dy) rfl ak rfl ak ak hg ak rfl (cI (d:=dc) (i:=j2) (x:=dc[a]!) hy1) rfl rfl
  ·rfl
  refine x9 hg gy ga ry ra Nat.mul_one ?_
  apply az.cons
  ·rfl
  ·refine⟨?_,trivial⟩
   exact bl (r:=.sl .dy) rfl ak rfl ak ak (aw hg) ak rfl (cI (d:=dc.setIfInBounds j2 dc[a]!) (i:=a) (x:=dc[j2]!) (by simpa using hac)) rfl aM.symm
  ·rfl
  exact az.nil _
 case ht=>rfl
 case hF=>exact zh
 show CW _ _ _ _
 refine aB ?_
 refine ai ?_
 refine⟨_,ak,true,by rw[hstep];rfl,?_⟩
 simp only[hstep]
 exact⟨by rw[← hhc,aM],D1.swp hy1 hac,by rw[swp_size];exact h3⟩
have d5:decide ((j2:Int)<(i2:Int))=false:=decide_eq_false om
rw[if_neg hgt,hR'] at hstep
have hx1:i2<dc.size:=by omega
have hy1:j2<dc.size:=by omega
have gx:=bz hx1
have gy:=bz hy1
have rx:=cH (k:=i2) (n:=d.size) om
have ry:=cH (k:=j2) (n:=d.size) om
have e6:IntKind.i64.wrap ((i2:Int)+1)=(i2:Int)+1:=ay om om
obtain⟨q,hq⟩:∃ q,q=j2-1:=⟨_,rfl⟩
have e7:IntKind.i64.wrap ((j2:Int)-1)=(q:Int):=by rw[ay om om];omega
rw[← hq] at hstep
refine aG d5 ?_
refine ae rfl ?_
refine aB ?_
refine aA [(0,.val (.slice (some ⟨id,0,some au⟩) d.size c)),(1,.val (i64 a)),(4,.val aP),(12,.val (i64 i2)),(13,.val (i64 j2))] aO ?_
show CW _ _ ⟨_,[],hc⟩ _
apply bi (L:=[[],[],[],[],[],[],[4,5],[4,5,6],[],[],[8,9],[8,9,10],[0,1],[0,1,4,5,6,7,8,9,10,11,12],[2,3],[0,1,2,3,4,5,6,7,8,9,10,11,12,13,14]]) (act:=[13,15]) (hs:=[hc.set id (.aj (IC (dc.setIfInBounds i2 dc[j2]!)) au true 70),hc.set id (.aj (IC (Go.Sort.swp dc i2 j2)) au true 70)]) (resL:=[_,_,_,_,_,_,_,_,_,_,_,_,_,_,_,_]) (frF:=[(0,.val (.slice (some ⟨id,0,some au⟩) d.size c)),(1,.val (i64 a)),(4,.val aP),(12,.val (i64 i2)),(13,.val (i64 j2))])
case hm=>exact mixed
case hc=>kernel_rfl
case ha=>rfl
case hb=>rfl
case hS=>
 refine x9 hg gx gy rx ry Nat.mul_one ?_
 apply az.cons
 ·rfl
 ·refine⟨?_,trivial⟩
  exact bl (r:=.sl .dy) rfl ak rfl ak ak hg ak rfl (cI (d:=dc) (i:=i2) (x:=dc[j2]!) hx1) rfl rfl
 ·rfl
 refine x9 hg gx gy rx ry Nat.mul_one ?_
 apply az.cons
 ·rfl
 ·refine⟨?_,trivial⟩
  exact bl (r:=.sl .dy) rfl ak rfl ak ak (aw hg) ak rfl (cI (d:=dc.setIfInBounds i2 dc[j2]!) (i:=j2) (x:=dc[i2]!) (by simpa using hy1)) rfl aM.symm
 ·rfl
 exact az.nil _
case ht=>rfl
case hF=>exact zh
show CW _ _ _ _
refine fM e6 e7 ?_
refine eY (fun x:Nat×Nat×Array aQ×ah=>x.2.1+3-x.1) (fun x=>[(0,.val (.slice (some ⟨id,0,some au⟩) d.size c)),(1,.val (i64 a)),(4,.val aP),(12,.val (i64 x.1)),(13,.val (i64 x.2.1))]) (fun x=>x.2.2.2)
 (fun x=>a<x.1∧x.1≤x.2.1+2∧x.2.1<d.size∧a≤x.2.1∧x.2.2.1.size=d.size∧x.2.2.2=h.set id (.aj (IC x.2.2.1) au true 70)∧DA x.2.2.2 id au x.2.2.1∧Go.Sort.partLoop br a x.1 x.2.1 x.2.2.1=R) (i2+1,q,Go.Sort.swp dc i2 j2,_) aO rfl ⟨by simp only;omega,by simp only;omega,by simp only;omega,by simp only;omega,by simp only;rw[swp_size];exact h3,by simp only;rw[← hhc,aM],D1.swp hx1 hy1,hstep.symm⟩ ?_
clear hg ga gx gy D1 D0 ba h1 h2 h2' haj h3 ra hac hstep hi2 hj2 hR' hhc hdc hi0 hj0 hR hi1 hj1 e6 e7 d5 rx ry hx1 hy1 hgt hii hij2 hjj haj2 hq
clear i2 j2 i j dc hc i0 j0 q
rintro⟨i,j,dc,hc⟩ ⟨h1,h2,h2',haj,h3,h4,D1,h5⟩
simp only at h1 h2 h2' haj h3 h4 D1 h5 ⊢
have hg:=D1.g
have hac:a<dc.size:=by omega
have ga:=bz hac
have ba:=D1.b _ hac
have ra:=cH (k:=a) (n:=d.size) om
obtain⟨i2,hi2⟩:∃ i2,Go.Sort.scanUp (Ft dc a) dc j i=i2:=⟨_,rfl⟩
refine aB ?_
refine CW.mono (Q:=fun e s'=>e = .exit 6∧s'.h=hc∧i≤i2∧i2≤j+2∧bB [(0,.val (.slice (some ⟨id,0,some au⟩) d.size c)),(1,.val (i64 a)),(4,.val aP),(12,.val (i64 i2)),(13,.val (i64 j))] s'.fr) ?_ ?_
·refine eY (fun k:Nat=>j+1-k) (fun k=>[(0,.val (.slice (some ⟨id,0,some au⟩) d.size c)),(1,.val (i64 a)),(4,.val aP),(12,.val (i64 k)),(13,.val (i64 j))]) (fun _=>hc)
  (fun k=>i≤k∧k≤j+2∧Go.Sort.scanUp (Ft dc a) dc j k=i2) i aO rfl ⟨Nat.le_refl _,h2,hi2⟩ ?_
 rintro k ⟨k1,k2,k3⟩
 by_cases hkj:k≤j
 ·have d4:decide ((k:Int)≤(j:Int))=true:=decide_eq_true om
  have hk1:k<dc.size:=by omega
  have gk:=bz hk1
  have bk:=D1.b _ hk1
  have rk:=cH (k:=k) (n:=d.size) om
  have e4:IntKind.i64.wrap ((k:Int)+1)=(k:Int)+1:=ay om om
  cases hl:br dc[k]! dc[a]! with
  | true=>
    have d7:decide (fj dc[k]! dc[a]! < 0)=true:=hl
    refine aB ?_
    apply bu (L:=[[],[],[0,1],[2],[3],[3],[3],[3,5,6],[3,7],[3],[3],[3,9,10],[3,11],[3,4,8,12],[3,13],[3,14]]) (resL:=[_,_,_,_,_,_,_,_,_,_,_,_,_,_,_,_]) (frF:=[(0,.val (.slice (some ⟨id,0,some au⟩) d.size c)),(1,.val (i64 a)),(4,.val aP),(12,.val (i64 k)),(13,.val (i64 j)),(120,.val (.bool true))])
    case hm=>exact mixed
    case hc=>kernel_rfl
    case hb=>rfl
    case hS=>
     refine yc d4 hg ga gk ra rk Nat.mul_one ?_
     apply aR.cons
     ·exact bg (fn:=Tryz.f104) (args:=[dc[k]!.val,dc[a]!.val]) (cap:=[]) rfl (iD d4) rfl ak ak Tryz.func104 kr kr (bF bk ba)
     ·rfl
     exact rG d7 d4
    case ht=>rfl
    case hF=>exact zh
    show CW _ _ _ _
    refine aB ?_
    refine af rfl ?_
    refine aG e4 ?_
    exact⟨k+1,by dsimp only;omega,aO,rfl,by omega,by omega,by rw[← k3];exact (kS hkj (by unfold Ft;exact hl)).symm⟩
  | false=>
    have d7:decide (fj dc[k]! dc[a]! < 0)=false:=hl
    have hst:i2=k:=by rw[← k3];exact fS (by unfold Ft;rw[hl];simp)
    subst hst
    refine aB ?_
    apply bu (L:=[[],[],[0,1],[2],[3],[3],[3],[3,5,6],[3,7],[3],[3],[3,9,10],[3,11],[3,4,8,12],[3,13],[3,14]]) (resL:=[_,_,_,_,_,_,_,_,_,_,_,_,_,_,_,_]) (frF:=[(0,.val (.slice (some ⟨id,0,some au⟩) d.size c)),(1,.val (i64 a)),(4,.val aP),(12,.val (i64 i2)),(13,.val (i64 j)),(120,.val (.bool false))])
    case hm=>exact mixed
    case hc=>kernel_rfl
    case hb=>rfl
    case hS=>
     refine yc d4 hg ga gk ra rk Nat.mul_one ?_
     apply aR.cons
     ·exact bg (fn:=Tryz.f104) (args:=[dc[i2]!.val,dc[a]!.val]) (cap:=[]) rfl (iD d4) rfl ak ak Tryz.func104 kr kr (bF bk ba)
     ·rfl
     exact rG d7 d4
    case ht=>rfl
    case hF=>exact zh
    show CW _ _ _ _
    refine aB ?_
    refine ae rfl ?_
    refine aC ?_
    exact⟨rfl,rfl,k1,k2,aO⟩
 ·have d4:decide ((k:Int)≤(j:Int))=false:=decide_eq_false om
  have hst:i2=k:=by rw[← k3];exact fS om
  subst hst
  refine aB ?_
  apply bu (L:=[[],[],[0,1],[2],[3],[3],[3],[3,5,6],[3,7],[3],[3],[3,9,10],[3,11],[3,4,8,12],[3,13],[3,14]]) (resL:=[_,_,_,_,_,_,_,_,_,_,_,_,_,_,_,_]) (frF:=[(0,.val (.slice (some ⟨id,0,some au⟩) d.size c)),(1,.val (i64 a)),(4,.val aP),(12,.val (i64 i2)),(13,.val (i64 j)),(120,.val (.bool false))])
  case hm=>exact mixed
  case hc=>kernel_rfl
  case hb=>rfl
  case hS=>exact AQ d4
  case ht=>rfl
  case hF=>exact zh
  show CW _ _ _ _
  refine aB ?_
  refine ae rfl ?_
  refine aC ?_
  exact⟨rfl,rfl,k1,k2,aO⟩
rintro e s' ⟨rfl,hh,hii,hij2,hf⟩
show CW _ _ _ _
refine aA _ hf ?_
rw[hh]
clear hf hh
obtain⟨j2,hj2⟩:∃ j2,Go.Sort.scanDown (Fs dc a) dc i2 j=j2:=⟨_,rfl⟩
have hstep:=tW hi2 hj2 h2
refine aB ?_
refine CW.mono (Q:=fun e s'=>e = .exit 8∧s'.h=hc∧j2≤j∧a≤j2∧bB [(0,.val (.slice (some ⟨id,0,some au⟩) d.size c)),(1,.val (i64 a)),(4,.val aP),(12,.val (i64 i2)),(13,.val (i64 j2))] s'.fr) ?_ ?_
·refine eY (fun k:Nat=>k) (fun k=>[(0,.val (.slice (some ⟨id,0,some au⟩) d.size c)),(1,.val (i64 a)),(4,.val aP),(12,.val (i64 i2)),(13,.val (i64 k))]) (fun _=>hc)
  (fun k=>k≤j∧a≤k∧Go.Sort.scanDown (Fs dc a) dc i2 k=j2) j aO rfl ⟨Nat.le_refl _,haj,hj2⟩ ?_
 rintro k ⟨k1,k2,k3⟩
 by_cases hkj:i2≤k
 ·have d4:decide ((i2:Int)≤(k:Int))=true:=decide_eq_true om
  have hk1:k<dc.size:=by omega
  have gk:=bz hk1
  have bk:=D1.b _ hk1
  have rk:=cH (k:=k) (n:=d.size) om
  obtain⟨q,hq⟩:∃ q,k=q+1:=⟨k-1,by omega⟩
  have e4:IntKind.i64.wrap ((k:Int)-1)=(q:Int):=by rw[ay om om];omega
  cases hl:br dc[k]! dc[a]! with
  | false=>
    have d7:decide (fj dc[k]! dc[a]! < 0)=false:=hl
    refine aB ?_
    apply bu (L:=[[],[],[0,1],[2],[3],[3],[3],[3,5,6],[3,7],[3],[3],[3,9,10],[3,11],[3,4,8,12],[3,13],[3,14],[3,15]]) (resL:=[_,_,_,_,_,_,_,_,_,_,_,_,_,_,_,_,_]) (frF:=[(0,.val (.slice (some ⟨id,0,some au⟩) d.size c)),(1,.val (i64 a)),(4,.val aP),(12,.val (i64 i2)),(13,.val (i64 k)),(139,.val (.bool true))])
    case hm=>exact mixed
    case hc=>kernel_rfl
    case hb=>rfl
    case hS=>
     refine yc d4 hg ga gk ra rk Nat.mul_one ?_
     apply aR.cons
     ·exact bg (fn:=Tryz.f104) (args:=[dc[k]!.val,dc[a]!.val]) (cap:=[]) rfl (iD d4) rfl ak ak Tryz.func104 kr kr (bF bk ba)
     ·rfl
     exact rG d7 d4
    case ht=>rfl
    case hF=>exact zh
    show CW _ _ _ _
    refine aB ?_
    refine af rfl ?_
    refine aG e4 ?_
    refine⟨q,by dsimp only;omega,aO,rfl,by omega,by omega,?_⟩
    rw[← k3,hq]
    refine (ju om ?_).symm
    rw[← hq]
    unfold Fs
    rw[hl]
    rfl
  | true=>
    have d7:decide (fj dc[k]! dc[a]! < 0)=true:=hl
    have hst:j2=k:=by rw[← k3];exact eL (by unfold Fs;rw[hl];simp)
    subst hst
    refine aB ?_
    apply bu (L:=[[],[],[0,1],[2],[3],[3],[3],[3,5,6],[3,7],[3],[3],[3,9,10],[3,11],[3,4,8,12],[3,13],[3,14],[3,15]]) (resL:=[_,_,_,_,_,_,_,_,_,_,_,_,_,_,_,_,_]) (frF:=[(0,.val (.slice (some ⟨id,0,some au⟩) d.size c)),(1,.val (i64 a)),(4,.val aP),(12,.val (i64 i2)),(13,.val (i64 j2)),(139,.val (.bool false))])
    case hm=>exact mixed
    case hc=>kernel_rfl
    case hb=>rfl
    case hS=>
     refine yc d4 hg ga gk ra rk Nat.mul_one ?_
     apply aR.cons
     ·exact bg (fn:=Tryz.f104) (args:=[dc[j2]!.val,dc[a]!.val]) (cap:=[]) rfl (iD d4) rfl ak ak Tryz.func104 kr kr (bF bk ba)
     ·rfl
     exact rG d7 d4
    case ht=>rfl
    case hF=>exact zh
    show CW _ _ _ _
    refine aB ?_
    refine ae rfl ?_
    refine aC ?_
    exact⟨rfl,rfl,k1,k2,aO⟩
 ·have d4:decide ((i2:Int)≤(k:Int))=false:=decide_eq_false om
  have hst:j2=k:=by rw[← k3];exact eL om
  subst hst
  refine aB ?_
  apply bu (L:=[[],[],[0,1],[2],[3],[3],[3],[3,5,6],[3,7],[3],[3],[3,9,10],[3,11],[3,4,8,12],[3,13],[3,14],[3,15]]) (resL:=[_,_,_,_,_,_,_,_,_,_,_,_,_,_,_,_,_]) (frF:=[(0,.val (.slice (some ⟨id,0,some au⟩) d.size c)),(1,.val (i64 a)),(4,.val aP),(12,.val (i64 i2)),(13,.val (i64 j2)),(139,.val (.bool false))])
  case hm=>exact mixed
  case hc=>kernel_rfl
  case hb=>rfl
  case hS=>exact AQ d4
  case ht=>rfl
  case hF=>exact zh
  show CW _ _ _ _
  refine aB ?_
  refine ae rfl ?_
  refine aC ?_
  exact⟨rfl,rfl,k1,k2,aO⟩
rintro e s' ⟨rfl,hh,hjj,haj2,hf⟩
show CW _ _ _ _
refine aA _ hf ?_
rw[hh]
clear hf hh
by_cases hgt:j2<i2
·have d5:decide ((j2:Int)<(i2:Int))=true:=decide_eq_true om
 rw[if_pos hgt,h5] at hstep
 have hy1:j2<dc.size:=by omega
 have gy:=bz hy1
 have ry:=cH (k:=j2) (n:=d.size) om
 refine aG d5 ?_
 refine af rfl ?_
 refine aC ?_
 show CW _ _ _ _
 refine aB ?_
 refine aA [(0,.val (.slice (some ⟨id,0,some au⟩) d.size c)),(1,.val (i64 a)),(4,.val aP),(12,.val (i64 i2)),(13,.val (i64 j2))] aO ?_
 show CW _ _ ⟨_,[],hc⟩ _
 apply bi (L:=[[],[],[],[],[],[],[4,5],[4,5,6],[],[],[8,9],[8,9,10],[0,1],[0,1,4,5,6,7,8,9,10,11,12],[2,3],[0,1,2,3,4,5,6,7,8,9,10,11,12,13,14]]) (act:=[13,15]) (hs:=[hc.set id (.aj (IC (dc.setIfInBounds j2 dc[a]!)) au true 70),hc.set id (.aj (IC (Go.Sort.swp dc j2 a)) au true 70)]) (resL:=[_,_,_,_,_,_,_,_,_,_,_,_,_,_,_,_]) (frF:=[(0,.val (.slice (some ⟨id,0,some au⟩) d.size c)),(1,.val (i64 a)),(4,.val aP),(12,.val (i64 i2)),(13,.val (i64 j2))])
 case hm=>exact mixed
 case hc=>kernel_rfl
 case ha=>rfl
 case hb=>rfl
 case hS=>
  refine x9 hg gy ga ry ra Nat.mul_one ?_
  apply az.cons
  ·rfl
  ·refine⟨?_,trivial⟩
   exact bl (r:=.sl .dy) rfl ak rfl ak ak hg ak rfl (cI (d:=dc) (i:=j2) (x:=dc[a]!) hy1) rfl rfl
  ·rfl
  refine x9 hg gy ga ry ra Nat.mul_one ?_
  apply az.cons
  ·rfl
  ·refine⟨?_,trivial⟩
   exact bl (r:=.sl .dy) rfl ak rfl ak ak (aw hg) ak rfl (cI (d:=dc.setIfInBounds j2 dc[a]!) (i:=a) (x:=dc[j2]!) (by simpa using hac)) rfl aM.symm
  ·rfl
  exact az.nil _
 case ht=>rfl
 case hF=>exact zh
 show CW _ _ _ _
 refine aB ?_
 refine ai ?_
 refine⟨_,ak,false,by rw[hstep];rfl,?_⟩
 simp only[hstep]
 exact⟨by rw[h4,aM],D1.swp hy1 hac,by rw[swp_size];exact h3⟩
have d5:decide ((j2:Int)<(i2:Int))=false:=decide_eq_false om
rw[if_neg hgt,h5] at hstep
have hx1:i2<dc.size:=by omega
have hy1:j2<dc.size:=by omega
have gx:=bz hx1
have gy:=bz hy1
have rx:=cH (k:=i2) (n:=d.size) om
have ry:=cH (k:=j2) (n:=d.size) om
have e6:IntKind.i64.wrap ((i2:Int)+1)=(i2:Int)+1:=ay om om
obtain⟨q,hq⟩:∃ q,q=j2-1:=⟨_,rfl⟩
have e7:IntKind.i64.wrap ((j2:Int)-1)=(q:Int):=by rw[ay om om];omega
rw[← hq] at hstep
refine aG d5 ?_
refine ae rfl ?_
refine aB ?_
refine aA [(0,.val (.slice (some ⟨id,0,some au⟩) d.size c)),(1,.val (i64 a)),(4,.val aP),(12,.val (i64 i2)),(13,.val (i64 j2))] aO ?_
show CW _ _ ⟨_,[],hc⟩ _
apply bi (L:=[[],[],[],[],[],[],[4,5],[4,5,6],[],[],[8,9],[8,9,10],[0,1],[0,1,4,5,6,7,8,9,10,11,12],[2,3],[0,1,2,3,4,5,6,7,8,9,10,11,12,13,14]]) (act:=[13,15]) (hs:=[hc.set id (.aj (IC (dc.setIfInBounds i2 dc[j2]!)) au true 70),hc.set id (.aj (IC (Go.Sort.swp dc i2 j2)) au true 70)]) (resL:=[_,_,_,_,_,_,_,_,_,_,_,_,_,_,_,_]) (frF:=[(0,.val (.slice (some ⟨id,0,some au⟩) d.size c)),(1,.val (i64 a)),(4,.val aP),(12,.val (i64 i2)),(13,.val (i64 j2))])
case hm=>exact mixed
case hc=>kernel_rfl
case ha=>rfl
case hb=>rfl
case hS=>
 refine x9 hg gx gy rx ry Nat.mul_one ?_
 apply az.cons
 ·rfl
 ·refine⟨?_,trivial⟩
  exact bl (r:=.sl .dy) rfl ak rfl ak ak hg ak rfl (cI (d:=dc) (i:=i2) (x:=dc[j2]!) hx1) rfl rfl
 ·rfl
 refine x9 hg gx gy rx ry Nat.mul_one ?_
 apply az.cons
 ·rfl
 ·refine⟨?_,trivial⟩
  exact bl (r:=.sl .dy) rfl ak rfl ak ak (aw hg) ak rfl (cI (d:=dc.setIfInBounds i2 dc[j2]!) (i:=j2) (x:=dc[i2]!) (by simpa using hy1)) rfl aM.symm
 ·rfl
 exact az.nil _
case ht=>rfl
case hF=>exact zh
show CW _ _ _ _
refine fM e6 e7 ?_
exact⟨(i2+1,q,Go.Sort.swp dc i2 j2,_),by simp only;omega,aO,rfl,by simp only;omega,by simp only;omega,by simp only;omega,by simp only;omega,by simp only;rw[swp_size];exact h3,by simp only;rw[h4,aM],D1.swp hx1 hy1,hstep.symm⟩}
theorem pk {d:Array aQ} {b i:Nat} (h:i<b) (hp:br d[i]! d[i-1]! = false):Go.Sort.scanSorted br d b i=Go.Sort.scanSorted br d b (i+1):=by
 rw[Go.Sort.scanSorted,if_pos (by simp [h,hp])]
theorem kw {d:Array aQ} {b i:Nat} (h:¬ (i<b∧br d[i]! d[i-1]! = false)):Go.Sort.scanSorted br d b i=i:=by
 rw[Go.Sort.scanSorted,if_neg (by simpa using h)]
theorem uC {d:Array aQ} {b j:Nat} (h:j<b) (hp:br d[j]! d[j-1]! = true):Go.Sort.shiftUp br b j d=Go.Sort.shiftUp br b (j+1) (Go.Sort.swp d j (j-1)):=by
 rw[Go.Sort.shiftUp,if_pos h,hp];rfl
theorem mT {d:Array aQ} {b j:Nat} (h:¬ (j<b∧br d[j]! d[j-1]! = true)):Go.Sort.shiftUp br b j d=d:=by{
rw[Go.Sort.shiftUp]
by_cases hj:j<b
·rw[if_pos hj,if_pos (by simpa [hj] using h)]
·rw[if_neg hj]}
theorem FP {h:ah} {id au c a b:Nat} {d:Array aQ} (D:DA h id au d) (hab:a<b) (hb:b≤d.size) : FW env 185 [.slice (some ⟨id,0,some au⟩) d.size c,i64 a,i64 b,aP] h fun r h'=>r = .bool (Go.Sort.partialInsertionSort br d a b).2∧h'=h.set id (.aj (IC (Go.Sort.partialInsertionSort br d a b).1) au true 70)∧DA h' id au (Go.Sort.partialInsertionSort br d a b).1∧(Go.Sort.partialInsertionSort br d a b).1.size=d.size:=by{
have hn:=D.n
have e1:IntKind.i64.wrap ((a:Int)+1)=((a+1:Nat):Int):=by rw[ay om om];omega
obtain⟨i0,hi0⟩:∃ i0,i0=a+1:=⟨_,rfl⟩
rw[← hi0] at e1
obtain⟨P,hP⟩:∃ P,Go.Sort.partialInsertionSort br d a b=P:=⟨_,rfl⟩
have hP0:Go.Sort.partialIns br a b 5 i0 d=P:=by rw[← hP,hi0];rfl
rw[hP]
clear hP
refine fe Tryz.func185 ?_;simp only[push_cast]
refine aG e1 ?_
refine eY (fun x:Nat×Nat×Array aQ×ah=>5-x.1) (fun x=>[(0,.val (.slice (some ⟨id,0,some au⟩) d.size c)),(1,.val (i64 a)),(2,.val (i64 b)),(3,.val aP),(9,.val (i64 x.2.1)),(10,.val (i64 x.1))]) (fun x=>x.2.2.2)
 (fun x=>x.1≤5∧a<x.2.1∧x.2.1≤b∧x.2.2.1.size=d.size∧x.2.2.2=h.set id (.aj (IC x.2.2.1) au true 70)∧DA x.2.2.2 id au x.2.2.1∧Go.Sort.partialIns br a b (5-x.1) x.2.1 x.2.2.1=P) (0,i0,d,h) aO rfl ⟨by simp only;omega,by simp only;omega,by simp only;omega,rfl,(fA D.g).symm,D,hP0⟩ ?_
clear e1 hi0 hP0 i0
rintro⟨J,i,dc,hc⟩ ⟨h1,h2,h2',h3,h4,D1,h5⟩
simp only at h1 h2 h2' h3 h4 D1 h5 ⊢
by_cases hJ:J<5
·have d1:decide ((J:Int)<5)=true:=decide_eq_true om
 obtain⟨s,hs⟩:∃ s,5-J=s+1:=⟨4-J,by omega⟩
 rw[hs] at h5
 have eJ:IntKind.i64.wrap ((J:Int)+1)=(J:Int)+1:=ay om om
 refine aG d1 ?_
 refine af rfl ?_
 obtain⟨i2,hi2⟩:∃ i2,Go.Sort.scanSorted br dc b i=i2:=⟨_,rfl⟩
 refine aB ?_
 refine CW.mono (Q:=fun e s'=>e = .exit 2∧s'.h=hc∧i≤i2∧i2≤b∧bB [(0,.val (.slice (some ⟨id,0,some au⟩) d.size c)),(1,.val (i64 a)),(2,.val (i64 b)),(3,.val aP),(9,.val (i64 i2)),(10,.val (i64 J))] s'.fr) ?_ ?_
 ·refine eY (fun k:Nat=>b-k) (fun k=>[(0,.val (.slice (some ⟨id,0,some au⟩) d.size c)),(1,.val (i64 a)),(2,.val (i64 b)),(3,.val aP),(9,.val (i64 k)),(10,.val (i64 J))]) (fun _=>hc)
   (fun k=>i≤k∧k≤b∧Go.Sort.scanSorted br dc b k=i2) i aO rfl ⟨Nat.le_refl _,h2',hi2⟩ ?_
  rintro k ⟨k1,k2,k3⟩
  by_cases hkj:k<b
  ·have d4:decide ((k:Int)<(b:Int))=true:=decide_eq_true om
   obtain⟨q,hq⟩:∃ q,k=q+1:=⟨k-1,by omega⟩
   have hqk:k-1=q:=by omega
   have e5:IntKind.i64.wrap ((k:Int)-1)=(q:Int):=by rw[ay om om];omega
   have e4:IntKind.i64.wrap ((k:Int)+1)=(k:Int)+1:=ay om om
   have hp1:k<dc.size:=by omega
   have hq1:q<dc.size:=by omega
   have gp:=bz hp1
   have gq:=bz hq1
   have bp:=D1.b _ hp1
   have bq:=D1.b _ hq1
   have rp:=cH (k:=k) (n:=d.size) om
   have rq:=cH (k:=q) (n:=d.size) om
   have hg:=D1.g
   cases hl:br dc[k]! dc[q]! with
   | false=>
     have d7:decide (fj dc[k]! dc[q]! < 0)=false:=hl
     refine aB ?_
     apply bu (L:=[[],[],[0,1],[2],[3],[3],[3],[3,5,6],[3,7],[3],[3],[3,10],[3,9,11],[3,12],[3,4,8,13],[3,14],[3,15],[3,16]]) (resL:=[_,_,_,_,_,_,_,_,_,_,_,_,_,_,_,_,_,_]) (frF:=[(0,.val (.slice (some ⟨id,0,some au⟩) d.size c)),(1,.val (i64 a)),(2,.val (i64 b)),(3,.val aP),(9,.val (i64 k)),(10,.val (i64 J)),(36,.val (.bool true))])
     case hm=>exact mixed
     case hc=>kernel_rfl
     case hb=>rfl
     case hS=>
      refine IE d4 e5 hg gp gq rp rq Nat.mul_one ?_
      apply aR.cons
      ·exact bg (fn:=Tryz.f104) (args:=[dc[k]!.val,dc[q]!.val]) (cap:=[]) rfl (TM d4 e5) rfl ak ak Tryz.func104 kr kr (bF bp bq)
      ·rfl
      exact Tz d7 d4 e5
     case ht=>rfl
     case hF=>exact zh
     show CW _ _ _ _
     refine aB ?_
     refine af rfl ?_
     refine aG e4 ?_
     exact⟨k+1,by dsimp only;omega,aO,rfl,by omega,by omega,by rw[← k3];exact (pk hkj (by rw[hqk];exact hl)).symm⟩
   | true=>
     have d7:decide (fj dc[k]! dc[q]! < 0)=true:=hl
     have hst:i2=k:=by rw[← k3];exact kw (by rw[hqk,hl];simp)
     subst hst
     refine aB ?_
     apply bu (L:=[[],[],[0,1],[2],[3],[3],[3],[3,5,6],[3,7],[3],[3],[3,10],[3,9,11],[3,12],[3,4,8,13],[3,14],[3,15],[3,16]]) (resL:=[_,_,_,_,_,_,_,_,_,_,_,_,_,_,_,_,_,_]) (frF:=[(0,.val (.slice (some ⟨id,0,some au⟩) d.size c)),(1,.val (i64 a)),(2,.val (i64 b)),(3,.val aP),(9,.val (i64 i2)),(10,.val (i64 J)),(36,.val (.bool false))])
     case hm=>exact mixed
     case hc=>kernel_rfl
     case hb=>rfl
     case hS=>
      refine IE d4 e5 hg gp gq rp rq Nat.mul_one ?_
      apply aR.cons
      ·exact bg (fn:=Tryz.f104) (args:=[dc[i2]!.val,dc[q]!.val]) (cap:=[]) rfl (TM d4 e5) rfl ak ak Tryz.func104 kr kr (bF bp bq)
      ·rfl
      exact Tz d7 d4 e5
     case ht=>rfl
     case hF=>exact zh
     show CW _ _ _ _
     refine aB ?_
     refine ae rfl ?_
     refine aC ?_
     exact⟨rfl,rfl,k1,k2,aO⟩
  ·have d4:decide ((k:Int)<(b:Int))=false:=decide_eq_false om
   have hst:i2=k:=by rw[← k3];exact kw om
   subst hst
   refine aB ?_
   apply bu (L:=[[],[],[0,1],[2],[3],[3],[3],[3,5,6],[3,7],[3],[3],[3,10],[3,9,11],[3,12],[3,4,8,13],[3,14],[3,15],[3,16]]) (resL:=[_,_,_,_,_,_,_,_,_,_,_,_,_,_,_,_,_,_]) (frF:=[(0,.val (.slice (some ⟨id,0,some au⟩) d.size c)),(1,.val (i64 a)),(2,.val (i64 b)),(3,.val aP),(9,.val (i64 i2)),(10,.val (i64 J)),(36,.val (.bool false))])
   case hm=>exact mixed
   case hc=>kernel_rfl
   case hb=>rfl
   case hS=>exact AQ d4
   case ht=>rfl
   case hF=>exact zh
   show CW _ _ _ _
   refine aB ?_
   refine ae rfl ?_
   refine aC ?_
   exact⟨rfl,rfl,k1,k2,aO⟩
 rintro e s' ⟨rfl,hh,hii,hib,hf⟩
 show CW _ _ _ _
 refine aA _ hf ?_
 rw[hh]
 clear hf hh
 have hstep:Go.Sort.partialIns br a b (s+1) i dc=if i2=b then (dc,true) else if b-a<50 then (dc,false) else
  Go.Sort.partialIns br a b s i2 (if b-i2≥2 then Go.Sort.shiftUp br b (i2+1) (if i2-a≥2 then Go.Sort.shiftDown br (i2-1) (Go.Sort.swp dc i2 (i2-1)) else Go.Sort.swp dc i2 (i2-1)) else (if i2-a≥2 then Go.Sort.shiftDown br (i2-1) (Go.Sort.swp dc i2 (i2-1)) else Go.Sort.swp dc i2 (i2-1))):=by
  rw[← hi2];rfl
 rw[h5] at hstep
 clear h5 hi2
 by_cases hib2:i2=b
 ·have d2:decide ((i2:Int)=(b:Int))=true:=decide_eq_true om
  rw[if_pos hib2] at hstep
  refine aG d2 ?_
  refine af rfl ?_
  refine aB ?_
  refine ai ?_
  rw[hstep]
  exact⟨_,ak,rfl,h4,D1,h3⟩
 have d2:decide ((i2:Int)=(b:Int))=false:=decide_eq_false om
 rw[if_neg hib2] at hstep
 have e6:IntKind.i64.wrap ((b:Int)-(a:Int))=((b-a:Nat):Int):=by rw[ay om om];omega
 obtain⟨m,hm⟩:∃ m,m=b-a:=⟨_,rfl⟩
 rw[← hm] at e6
 refine aG d2 ?_
 refine ae rfl ?_
 by_cases h50:m<50
 ·have d3:decide ((m:Int)<50)=true:=decide_eq_true om
  rw[if_pos om] at hstep
  refine fM e6 d3 ?_
  refine af rfl ?_
  refine aB ?_
  refine ai ?_
  rw[hstep]
  exact⟨_,ak,rfl,h4,D1,h3⟩
 have d3:decide ((m:Int)<50)=false:=decide_eq_false om
 rw[if_neg om] at hstep
 refine fM e6 d3 ?_
 refine ae rfl ?_
 clear e6 h50 d3 hm
 obtain⟨q,hq⟩:∃ q,i2=q+1:=⟨i2-1,by omega⟩
 have hqk:i2-1=q:=by omega
 rw[hqk] at hstep
 have e5:IntKind.i64.wrap ((i2:Int)-1)=(q:Int):=by rw[ay om om];omega
 have hp1:i2<dc.size:=by omega
 have hq1:q<dc.size:=by omega
 have gp:=bz hp1
 have gq:=bz hq1
 have bp:=D1.b _ hp1
 have bq:=D1.b _ hq1
 have rp:=cH (k:=i2) (n:=d.size) om
 have rq:=cH (k:=q) (n:=d.size) om
 have hg:=D1.g
 refine aB ?_
 refine aA [(0,.val (.slice (some ⟨id,0,some au⟩) d.size c)),(1,.val (i64 a)),(2,.val (i64 b)),(3,.val aP),(9,.val (i64 i2)),(10,.val (i64 J))] aO ?_
 show CW _ _ ⟨_,[],hc⟩ _
 apply bi (L:=[[],[],[],[],[3],[],[],[6],[5,6,7],[5,6,7,8],[],[],[10,11],[10,11,12],[0,1],[0,1,5,6,7,8,9,10,11,12,13,14],[2,3,4],[0,1,2,3,4,5,6,7,8,9,10,11,12,13,14,15,16]]) (act:=[15,17]) (hs:=[hc.set id (.aj (IC (dc.setIfInBounds i2 dc[q]!)) au true 70),hc.set id (.aj (IC (Go.Sort.swp dc i2 q)) au true 70)]) (resL:=[_,_,_,_,_,_,_,_,_,_,_,_,_,_,_,_,_,_]) (frF:=[(0,.val (.slice (some ⟨id,0,some au⟩) d.size c)),(1,.val (i64 a)),(2,.val (i64 b)),(3,.val aP),(9,.val (i64 i2)),(10,.val (i64 J))])
 case hm=>exact mixed
 case hc=>kernel_rfl
 case ha=>rfl
 case hb=>rfl
 case hS=>
  refine Hz hg gp gq e5 rp rq Nat.mul_one ?_
  apply az.cons
  ·rfl
  ·refine⟨?_,trivial⟩
   exact bl (r:=.sl .dy) rfl ak rfl ak ak hg ak rfl (cI (d:=dc) (i:=i2) (x:=dc[q]!) hp1) rfl rfl
  ·rfl
  refine Hz hg gp gq e5 rp rq Nat.mul_one ?_
  apply az.cons
  ·rfl
  ·refine⟨?_,trivial⟩
   exact bl (r:=.sl .dy) rfl ak rfl ak ak (aw hg) ak rfl (cI (d:=dc.setIfInBounds i2 dc[q]!) (i:=q) (x:=dc[i2]!) (by simpa using hq1)) rfl aM.symm
  ·rfl
  exact az.nil _
 case ht=>rfl
 case hF=>exact zh
 show CW _ _ _ _
 have D2:=D1.swp hp1 hq1
 have h6:hc.set id (.aj (IC (Go.Sort.swp dc i2 q)) au true 70)=h.set id (.aj (IC (Go.Sort.swp dc i2 q)) au true 70):=by rw[h4,aM]
 have h7:(Go.Sort.swp dc i2 q).size=d.size:=by rw[swp_size];exact h3
 clear hp1 hq1 gp gq bp bq rp rq hg
 obtain⟨d1',hd1⟩:∃ d1',Go.Sort.swp dc i2 q=d1':=⟨_,rfl⟩
 rw[hd1] at D2 h6 h7 hstep
 rw[hd1,h6]
 rw[h6] at D2
 clear h6 D1 h4 hd1 h3
 obtain⟨m1,hm1⟩:∃ m1,m1=i2-a:=⟨_,rfl⟩
 have e7:IntKind.i64.wrap ((i2:Int)-(a:Int))=(m1:Int):=by rw[ay om om];omega
 obtain⟨d2',hd2⟩:∃ d2',(if i2-a≥2 then Go.Sort.shiftDown br q d1' else d1')=d2':=⟨_,rfl⟩
 rw[hd2] at hstep
 refine aG e7 ?_
 refine CW.mono (Q:=fun e s'=>e = .normal∧s'.h=h.set id (.aj (IC d2') au true 70)∧DA s'.h id au d2'∧d2'.size=d.size∧bB [(0,.val (.slice (some ⟨id,0,some au⟩) d.size c)),(1,.val (i64 a)),(2,.val (i64 b)),(3,.val aP),(9,.val (i64 i2)),(10,.val (i64 J))] s'.fr) ?_ ?_
 ·by_cases hm2:2≤m1
  ·have d8:decide (2≤(m1:Int))=true:=decide_eq_true om
   rw[if_pos om] at hd2
   refine af (iD d8) ?_
   refine aG e5 ?_
   refine eY (fun x:Nat×Array aQ×ah=>x.1) (fun x=>[(0,.val (.slice (some ⟨id,0,some au⟩) d.size c)),(1,.val (i64 a)),(2,.val (i64 b)),(3,.val aP),(9,.val (i64 i2)),(10,.val (i64 J)),(11,.val (i64 x.1))]) (fun x=>x.2.2)
    (fun x=>x.1≤q∧x.2.1.size=d.size∧x.2.2=h.set id (.aj (IC x.2.1) au true 70)∧DA x.2.2 id au x.2.1∧Go.Sort.shiftDown br x.1 x.2.1=d2') (q,d1',_) aO rfl ⟨Nat.le_refl _,h7,rfl,D2,hd2⟩ ?_
   clear D2 h7 hd2 hstep e5 e7 hm1 hm2 d8
   rintro⟨k,dk,hk⟩ ⟨k1,k2,k3,D3,k4⟩
   simp only at k1 k2 k3 D3 k4 ⊢
   cases k with
   | zero=>
     have k4':d2'=dk:=k4.symm
     refine aB ?_
     refine ae rfl ?_
     refine aC ?_
     subst k4'
     exact⟨rfl,k3,D3,k2,aO⟩
   | succ p=>
     have hun:Go.Sort.shiftDown br (p+1) dk=if (!br dk[p+1]! dk[p]!)=true then dk else Go.Sort.shiftDown br p (Go.Sort.swp dk (p+1) p):=rfl
     rw[k4] at hun
     obtain⟨K,hK⟩:∃ K,K=p+1:=⟨_,rfl⟩
     have d9:decide (1≤(K:Int))=true:=decide_eq_true om
     have e9:IntKind.i64.wrap ((K:Int)-1)=(p:Int):=by rw[ay om om];omega
     rw[← hK] at hun k1 ⊢
     have hp1:K<dk.size:=by omega
     have hq1:p<dk.size:=by omega
     have gp:=bz hp1
     have gq:=bz hq1
     have bp:=D3.b _ hp1
     have bq:=D3.b _ hq1
     have rp:=cH (k:=K) (n:=d.size) om
     have rq:=cH (k:=p) (n:=d.size) om
     have hg:=D3.g
     refine aG d9 ?_
     refine af rfl ?_
     refine aB ?_
     cases hl:br dk[K]! dk[p]! with
     | false=>
       have d7:decide (fj dk[K]! dk[p]! < 0)=false:=hl
       rw[hl] at hun
       have k4':d2'=dk:=hun
       apply bu (L:=[[],[],[],[1,2],[3],[],[],[6],[5,7],[8],[0,4,9],[10],[11]]) (resL:=[_,_,_,_,_,_,_,_,_,_,_,_,_]) (frF:=[(0,.val (.slice (some ⟨id,0,some au⟩) d.size c)),(1,.val (i64 a)),(2,.val (i64 b)),(3,.val aP),(9,.val (i64 i2)),(10,.val (i64 J)),(84,.val (.bool true))])
       case hm=>exact mixed
       case hc=>kernel_rfl
       case hb=>rfl
       case hS=>
        refine yc e9 hg gp gq rp rq Nat.mul_one ?_
        apply aR.cons
        ·exact bg (fn:=Tryz.f104) (args:=[dk[K]!.val,dk[p]!.val]) (cap:=[]) rfl (iD e9) rfl ak ak Tryz.func104 kr kr (bF bp bq)
        ·rfl
        exact rG d7 e9
       case ht=>rfl
       case hF=>exact zh
       show CW _ _ _ _
       refine aB ?_
       refine af rfl ?_
       refine aC ?_
       subst k4'
       exact⟨rfl,k3,D3,k2,aO⟩
     | true=>
       have d7:decide (fj dk[K]! dk[p]! < 0)=true:=hl
       rw[hl] at hun
       have k4':d2'=Go.Sort.shiftDown br p (Go.Sort.swp dk K p):=hun
       apply bu (L:=[[],[],[],[1,2],[3],[],[],[6],[5,7],[8],[0,4,9],[10],[11]]) (resL:=[_,_,_,_,_,_,_,_,_,_,_,_,_]) (frF:=[(0,.val (.slice (some ⟨id,0,some au⟩) d.size c)),(1,.val (i64 a)),(2,.val (i64 b)),(3,.val aP),(9,.val (i64 i2)),(10,.val (i64 J)),(11,.val (i64 K)),(84,.val (.bool false))])
       case hm=>exact mixed
       case hc=>kernel_rfl
       case hb=>rfl
       case hS=>
        refine yc e9 hg gp gq rp rq Nat.mul_one ?_
        apply aR.cons
        ·exact bg (fn:=Tryz.f104) (args:=[dk[K]!.val,dk[p]!.val]) (cap:=[]) rfl (iD e9) rfl ak ak Tryz.func104 kr kr (bF bp bq)
        ·rfl
        exact rG d7 e9
       case ht=>rfl
       case hF=>exact zh
       show CW _ _ _ _
       refine aB ?_
       refine ae rfl ?_
       refine aB ?_
       refine aA [(0,.val (.slice (some ⟨id,0,some au⟩) d.size c)),(1,.val (i64 a)),(2,.val (i64 b)),(3,.val aP),(9,.val (i64 i2)),(10,.val (i64 J)),(11,.val (i64 K))] aO ?_
       show CW _ _ ⟨_,[],hk⟩ _
       apply bi (L:=[[],[],[],[],[3],[],[],[6],[5,6,7],[5,6,7,8],[],[],[10,11],[10,11,12],[0,1],[0,1,5,6,7,8,9,10,11,12,13,14],[2,3,4],[0,1,2,3,4,5,6,7,8,9,10,11,12,13,14,15,16]]) (act:=[15,17]) (hs:=[hk.set id (.aj (IC (dk.setIfInBounds K dk[p]!)) au true 70),hk.set id (.aj (IC (Go.Sort.swp dk K p)) au true 70)]) (resL:=[_,_,_,_,_,_,_,_,_,_,_,_,_,_,_,_,_,_]) (frF:=[(0,.val (.slice (some ⟨id,0,some au⟩) d.size c)),(1,.val (i64 a)),(2,.val (i64 b)),(3,.val aP),(9,.val (i64 i2)),(10,.val (i64 J)),(11,.val (i64 K))])
       case hm=>exact mixed
       case hc=>kernel_rfl
       case ha=>rfl
       case hb=>rfl
       case hS=>
        refine Hz hg gp gq e9 rp rq Nat.mul_one ?_
        apply az.cons
        ·rfl
        ·refine⟨?_,trivial⟩
         exact bl (r:=.sl .dy) rfl ak rfl ak ak hg ak rfl (cI (d:=dk) (i:=K) (x:=dk[p]!) hp1) rfl rfl
        ·rfl
        refine Hz hg gp gq e9 rp rq Nat.mul_one ?_
        apply az.cons
        ·rfl
        ·refine⟨?_,trivial⟩
         exact bl (r:=.sl .dy) rfl ak rfl ak ak (aw hg) ak rfl (cI (d:=dk.setIfInBounds K dk[p]!) (i:=p) (x:=dk[K]!) (by simpa using hq1)) rfl aM.symm
        ·rfl
        exact az.nil _
       case ht=>rfl
       case hF=>exact zh
       show CW _ _ _ _
       refine aG e9 ?_
       exact⟨(p,Go.Sort.swp dk K p,_),by simp only;omega,aO,rfl,by simp only;omega,by simp only;rw[swp_size];exact k2,by simp only;rw[k3,aM],D3.swp hp1 hq1,k4'.symm⟩
  ·have d8:decide (2≤(m1:Int))=false:=decide_eq_false om
   rw[if_neg om] at hd2
   subst hd2
   refine ae (iD d8) ?_
   refine aB ?_
   exact⟨rfl,rfl,D2,h7,aO⟩
 rintro e s' ⟨rfl,hh,D3,h8,hf⟩
 show CW _ _ _ _
 refine aA _ hf ?_
 rw[hh] at D3 ⊢
 clear hf hh D2 hd2 h7 e7 hm1 e5 m1
 obtain⟨m1,hm1⟩:∃ m1,m1=b-i2:=⟨_,rfl⟩
 have e7:IntKind.i64.wrap ((b:Int)-(i2:Int))=(m1:Int):=by rw[ay om om];omega
 obtain⟨d3',hd3⟩:∃ d3',(if b-i2≥2 then Go.Sort.shiftUp br b (i2+1) d2' else d2')=d3':=⟨_,rfl⟩
 rw[hd3] at hstep
 refine aG e7 ?_
 refine CW.mono (Q:=fun e s'=>e = .normal∧s'.h=h.set id (.aj (IC d3') au true 70)∧DA s'.h id au d3'∧d3'.size=d.size∧bB [(0,.val (.slice (some ⟨id,0,some au⟩) d.size c)),(1,.val (i64 a)),(2,.val (i64 b)),(3,.val aP),(9,.val (i64 i2)),(10,.val (i64 J))] s'.fr) ?_ ?_
 ·by_cases hm2:2≤m1
  ·have d8:decide (2≤(m1:Int))=true:=decide_eq_true om
   have e8:IntKind.i64.wrap ((i2:Int)+1)=((i2+1:Nat):Int):=by rw[ay om om];omega
   rw[if_pos om] at hd3
   obtain⟨i3,hi3⟩:∃ i3,i3=i2+1:=⟨_,rfl⟩
   rw[← hi3] at e8 hd3
   refine af (iD d8) ?_
   refine aG e8 ?_
   refine eY (fun x:Nat×Array aQ×ah=>b-x.1) (fun x=>[(0,.val (.slice (some ⟨id,0,some au⟩) d.size c)),(1,.val (i64 a)),(2,.val (i64 b)),(3,.val aP),(9,.val (i64 i2)),(10,.val (i64 J)),(12,.val (i64 x.1))]) (fun x=>x.2.2)
    (fun x=>1≤x.1∧x.1≤b∧x.2.1.size=d.size∧x.2.2=h.set id (.aj (IC x.2.1) au true 70)∧DA x.2.2 id au x.2.1∧Go.Sort.shiftUp br b x.1 x.2.1=d3') (i3,d2',_) aO rfl ⟨by simp only;omega,by simp only;omega,h8,rfl,D3,hd3⟩ ?_
   clear D3 h8 hd3 hstep e7 e8 hm1 hm2 d8
   rintro⟨K,dk,hk⟩ ⟨k0,k1,k2,k3,D3,k4⟩
   simp only at k0 k1 k2 k3 D3 k4 ⊢
   by_cases hKb:K<b
   ·have d9:decide ((K:Int)<(b:Int))=true:=decide_eq_true om
    obtain⟨p,hp⟩:∃ p,p=K-1:=⟨_,rfl⟩
    have e9:IntKind.i64.wrap ((K:Int)-1)=(p:Int):=by rw[ay om om];omega
    have e10:IntKind.i64.wrap ((K:Int)+1)=(K:Int)+1:=ay om om
    have hp1:K<dk.size:=by omega
    have hq1:p<dk.size:=by omega
    have gp:=bz hp1
    have gq:=bz hq1
    have bp:=D3.b _ hp1
    have bq:=D3.b _ hq1
    have rp:=cH (k:=K) (n:=d.size) om
    have rq:=cH (k:=p) (n:=d.size) om
    have hg:=D3.g
    refine aG d9 ?_
    refine af rfl ?_
    refine aB ?_
    cases hl:br dk[K]! dk[p]! with
    | false=>
      have d7:decide (fj dk[K]! dk[p]! < 0)=false:=hl
      rw[mT (by rw[← hp,hl];simp)] at k4
      have k4':d3'=dk:=k4.symm
      apply bu (L:=[[],[],[],[1,2],[3],[],[],[6],[5,7],[8],[0,4,9],[10],[11]]) (resL:=[_,_,_,_,_,_,_,_,_,_,_,_,_]) (frF:=[(0,.val (.slice (some ⟨id,0,some au⟩) d.size c)),(1,.val (i64 a)),(2,.val (i64 b)),(3,.val aP),(9,.val (i64 i2)),(10,.val (i64 J)),(124,.val (.bool true))])
      case hm=>exact mixed
      case hc=>kernel_rfl
      case hb=>rfl
      case hS=>
       refine yc e9 hg gp gq rp rq Nat.mul_one ?_
       apply aR.cons
       ·exact bg (fn:=Tryz.f104) (args:=[dk[K]!.val,dk[p]!.val]) (cap:=[]) rfl (iD e9) rfl ak ak Tryz.func104 kr kr (bF bp bq)
       ·rfl
       exact rG d7 e9
      case ht=>rfl
      case hF=>exact zh
      show CW _ _ _ _
      refine aB ?_
      refine af rfl ?_
      refine aC ?_
      subst k4'
      exact⟨rfl,k3,D3,k2,aO⟩
    | true=>
      have d7:decide (fj dk[K]! dk[p]! < 0)=true:=hl
      rw[uC hKb (by rw[← hp];exact hl),← hp] at k4
      apply bu (L:=[[],[],[],[1,2],[3],[],[],[6],[5,7],[8],[0,4,9],[10],[11]]) (resL:=[_,_,_,_,_,_,_,_,_,_,_,_,_]) (frF:=[(0,.val (.slice (some ⟨id,0,some au⟩) d.size c)),(1,.val (i64 a)),(2,.val (i64 b)),(3,.val aP),(9,.val (i64 i2)),(10,.val (i64 J)),(12,.val (i64 K)),(124,.val (.bool false))])
      case hm=>exact mixed
      case hc=>kernel_rfl
      case hb=>rfl
      case hS=>
       refine yc e9 hg gp gq rp rq Nat.mul_one ?_
       apply aR.cons
       ·exact bg (fn:=Tryz.f104) (args:=[dk[K]!.val,dk[p]!.val]) (cap:=[]) rfl (iD e9) rfl ak ak Tryz.func104 kr kr (bF bp bq)
       ·rfl
       exact rG d7 e9
      case ht=>rfl
      case hF=>exact zh
      show CW _ _ _ _
      refine aB ?_
      refine ae rfl ?_
      refine aB ?_
      refine aA [(0,.val (.slice (some ⟨id,0,some au⟩) d.size c)),(1,.val (i64 a)),(2,.val (i64 b)),(3,.val aP),(9,.val (i64 i2)),(10,.val (i64 J)),(12,.val (i64 K))] aO ?_
      show CW _ _ ⟨_,[],hk⟩ _
      apply bi (L:=[[],[],[],[],[3],[],[],[6],[5,6,7],[5,6,7,8],[],[],[10,11],[10,11,12],[0,1],[0,1,5,6,7,8,9,10,11,12,13,14],[2,3,4],[0,1,2,3,4,5,6,7,8,9,10,11,12,13,14,15,16]]) (act:=[15,17]) (hs:=[hk.set id (.aj (IC (dk.setIfInBounds K dk[p]!)) au true 70),hk.set id (.aj (IC (Go.Sort.swp dk K p)) au true 70)]) (resL:=[_,_,_,_,_,_,_,_,_,_,_,_,_,_,_,_,_,_]) (frF:=[(0,.val (.slice (some ⟨id,0,some au⟩) d.size c)),(1,.val (i64 a)),(2,.val (i64 b)),(3,.val aP),(9,.val (i64 i2)),(10,.val (i64 J)),(12,.val (i64 K))])
      case hm=>exact mixed
      case hc=>kernel_rfl
      case ha=>rfl
      case hb=>rfl
      case hS=>
       refine Hz hg gp gq e9 rp rq Nat.mul_one ?_
       apply az.cons
       ·rfl
       ·refine⟨?_,trivial⟩
        exact bl (r:=.sl .dy) rfl ak rfl ak ak hg ak rfl (cI (d:=dk) (i:=K) (x:=dk[p]!) hp1) rfl rfl
       ·rfl
       refine Hz hg gp gq e9 rp rq Nat.mul_one ?_
       apply az.cons
       ·rfl
       ·refine⟨?_,trivial⟩
        exact bl (r:=.sl .dy) rfl ak rfl ak ak (aw hg) ak rfl (cI (d:=dk.setIfInBounds K dk[p]!) (i:=p) (x:=dk[K]!) (by simpa using hq1)) rfl aM.symm
       ·rfl
       exact az.nil _
      case ht=>rfl
      case hF=>exact zh
      show CW _ _ _ _
      refine aG e10 ?_
      exact⟨(K+1,Go.Sort.swp dk K p,_),by simp only;omega,aO,rfl,by simp only;omega,by simp only;omega,by simp only;rw[swp_size];exact k2,by simp only;rw[k3,aM],D3.swp hp1 hq1,k4⟩
   ·have d9:decide ((K:Int)<(b:Int))=false:=decide_eq_false om
    rw[mT om] at k4
    have k4':d3'=dk:=k4.symm
    refine aG d9 ?_
    refine ae rfl ?_
    refine aC ?_
    subst k4'
    exact⟨rfl,k3,D3,k2,aO⟩
  ·have d8:decide (2≤(m1:Int))=false:=decide_eq_false om
   rw[if_neg om] at hd3
   subst hd3
   refine ae (iD d8) ?_
   refine aB ?_
   exact⟨rfl,rfl,D3,h8,aO⟩
 rintro e s' ⟨rfl,hh,D4,h9,hf⟩
 show CW _ _ _ _
 refine aA _ hf ?_
 rw[hh] at D4 ⊢
 refine aG eJ ?_
 exact⟨(J+1,i2,d3',_),by simp only;omega,aO,rfl,by simp only;omega,by simp only;omega,by simp only;omega,h9,rfl,D4,by simp only;rw[show 5-(J+1)=s by omega];exact hstep.symm⟩
·have d1:decide ((J:Int)<5)=false:=decide_eq_false om
 rw[show 5-J=0 by omega] at h5
 have hend:P=(dc,false):=h5.symm
 refine aG d1 ?_
 refine ae rfl ?_
 refine aC ?_
 show CW _ _ _ _
 refine aB ?_
 refine ai ?_
 rw[hend]
 exact⟨_,ak,rfl,h4,D1,h3⟩}
theorem nJ {h:ah} {id au c a b n sid:Nat} {d:Array aQ} (D:DA h id au d) (ha:a<d.size) (hb:b<d.size) (hs:h[sid]? = some (.aj [i64 n] 0 true 3)) (hn:n≤1000) : FW env 216 [.slice (some ⟨id,0,some au⟩) d.size c,i64 a,i64 b,.pointer (some ⟨sid,0,some 0⟩),aP] h fun r h'=> r = .tuple #[i64 (Go.Sort.order2 br d a b n).1,i64 (Go.Sort.order2 br d a b n).2.1]∧h'=h.set sid (.aj [i64 (Go.Sort.order2 br d a b n).2.2] 0 true 3):=by{
have hg:=D.g
have hsz:=D.n
have ga:=bz ha
have gb:=bz hb
have ba:=D.b _ ha
have bb:=D.b _ hb
have ra:=cH (k:=a) (n:=d.size) ha
have rb:=cH (k:=b) (n:=d.size) hb
have e1:IntKind.i64.wrap ((n:Int)+1)=((n+1:Nat):Int):=by rw[ay om om];omega
refine fe Tryz.func216 ?_;simp only[push_cast]
refine aB ?_
refine aA [(0,.val (.slice (some ⟨id,0,some au⟩) d.size c)),(1,.val (i64 a)),(2,.val (i64 b)),(3,.val (.pointer (some ⟨sid,0,some 0⟩))),(4,.val aP)] aO ?_
show CW _ _ ⟨_,[],h⟩ _
cases hl:br d[b]! d[a]! with
| false=>
  have d7:decide (fj d[b]! d[a]! < 0)=false:=hl
  have ho:Go.Sort.order2 br d a b n=(a,b,n):=by unfold Go.Sort.order2;rw[hl];rfl
  apply bu (L:=[[],[],[],[1,2],[3],[],[],[5,6],[7],[0,4,8],[9]]) (resL:=[_,_,_,_,_,_,_,_,_,_,_]) (frF:=[(1,.val (i64 a)),(2,.val (i64 b)),(22,.val (.bool false))])
  case hm=>exact mixed
  case hc=>kernel_rfl
  case hb=>rfl
  case hS=>
   refine Tt hg ga gb ra rb Nat.mul_one ?_
   apply aR.cons
   ·exact bg (fn:=Tryz.f104) (args:=[d[b]!.val,d[a]!.val]) (cap:=[]) rfl ak rfl ak ak Tryz.func104 kr kr (bF bb ba)
   ·rfl
   exact AQ d7
  case ht=>rfl
  case hF=>exact zh
  show CW _ _ _ _
  refine aB ?_
  refine ae rfl ?_
  refine aB ?_
  refine ai ?_
  exact⟨_,ak,by rw[ho];rfl,by rw[ho];exact (fA hs).symm⟩
| true=>
  have d7:decide (fj d[b]! d[a]! < 0)=true:=hl
  have ho:Go.Sort.order2 br d a b n=(b,a,n+1):=by unfold Go.Sort.order2;rw[hl];rfl
  apply bu (L:=[[],[],[],[1,2],[3],[],[],[5,6],[7],[0,4,8],[9]]) (resL:=[_,_,_,_,_,_,_,_,_,_,_]) (frF:=[(1,.val (i64 a)),(2,.val (i64 b)),(3,.val (.pointer (some ⟨sid,0,some 0⟩))),(22,.val (.bool true))])
  case hm=>exact mixed
  case hc=>kernel_rfl
  case hb=>rfl
  case hS=>
   refine Tt hg ga gb ra rb Nat.mul_one ?_
   apply aR.cons
   ·exact bg (fn:=Tryz.f104) (args:=[d[b]!.val,d[a]!.val]) (cap:=[]) rfl ak rfl ak ak Tryz.func104 kr kr (bF bb ba)
   ·rfl
   exact AQ d7
  case ht=>rfl
  case hF=>exact zh
  show CW _ _ _ _
  refine aB ?_
  refine af rfl ?_
  refine fM hs e1 ?_
  refine ch ak rfl rfl ak ak hs ak rfl rfl ?_
  refine aB ?_
  refine ai ?_
  exact⟨_,ak,by rw[ho];rfl,by rw[ho];rfl⟩}
theorem jB {d:Array aQ} {a b n:Nat} (ha:a<d.size) (hb:b<d.size):(Go.Sort.order2 br d a b n).1<d.size∧(Go.Sort.order2 br d a b n).2.1<d.size∧(Go.Sort.order2 br d a b n).2.2≤n+1:=by{
unfold Go.Sort.order2
split
·exact⟨hb,ha,Nat.le_refl _⟩
·exact⟨ha,hb,Nat.le_succ _⟩}
theorem DA.OX {h:ah} {id au sid n m:Nat} {d:Array aQ} (D:DA h id au d) (hs:h[sid]? = some (.aj [i64 n] 0 true 3)):DA (h.set sid (.aj [i64 m] 0 true 3)) id au d:=
 ⟨by
  rw[aD (by
   rintro rfl
   have:=D.g
   rw[hs] at this
   simp only[Option.some.injEq,av.aj.injEq] at this
   exact absurd this.2.2.2 (by decide))]
  exact D.g,D.n,D.b⟩
theorem oF {h:ah} {id au c a b e n sid:Nat} {d:Array aQ} (D:DA h id au d) (ha:a<d.size) (hb:b<d.size) (he:e<d.size) (hs:h[sid]? = some (.aj [i64 n] 0 true 3)) (hn:n≤900) : FW env 210 [.slice (some ⟨id,0,some au⟩) d.size c,i64 a,i64 b,i64 e,.pointer (some ⟨sid,0,some 0⟩),aP] h fun r h'=> r=i64 (Go.Sort.median br d a b e n).1∧h'=h.set sid (.aj [i64 (Go.Sort.median br d a b e n).2] 0 true 3):=by{
obtain⟨x1,y1,z1⟩:=jB (n:=n) ha hb
obtain⟨q1,hq1⟩:∃ q,Go.Sort.order2 br d a b n=q:=⟨_,rfl⟩
rw[hq1] at x1 y1 z1
obtain⟨x2,y2,z2⟩:=jB (n:=q1.2.2) y1 he
obtain⟨q2,hq2⟩:∃ q,Go.Sort.order2 br d q1.2.1 e q1.2.2=q:=⟨_,rfl⟩
rw[hq2] at x2 y2 z2
obtain⟨q3,hq3⟩:∃ q,Go.Sort.order2 br d q1.1 q2.1 q2.2.2=q:=⟨_,rfl⟩
have hm:Go.Sort.median br d a b e n=(q3.2.1,q3.2.2):=by
 unfold Go.Sort.median
 simp only[hq1,hq2,hq3]
rw[hm]
refine fe Tryz.func210 ?_;simp only[push_cast]
refine aB ?_
refine zj Tryz.func216 ?_
rw[List.append_nil]
refine (nJ (c:=c) D ha hb hs om).mono ?_
rw[hq1]
rintro _ h1 ⟨rfl,k1⟩
have D1:DA h1 id au d:=by rw[k1];exact D.OX hs
have hs1:h1[sid]? = some (.aj [i64 q1.2.2] 0 true 3):=by rw[k1];exact aw hs
refine aB ?_
refine zj Tryz.func216 ?_
rw[List.append_nil]
refine (nJ (c:=c) D1 y1 he hs1 om).mono ?_
rw[hq2]
rintro _ h2 ⟨rfl,k2⟩
have D2:DA h2 id au d:=by rw[k2];exact D1.OX hs1
have hs2:h2[sid]? = some (.aj [i64 q2.2.2] 0 true 3):=by rw[k2];exact aw hs1
refine aB ?_
refine zj Tryz.func216 ?_
rw[List.append_nil]
refine (nJ (c:=c) D2 x1 x2 hs2 om).mono ?_
rw[hq3]
rintro _ h3 ⟨rfl,k3⟩
refine aB ?_
refine ai ?_
exact⟨_,ak,rfl,by rw[k3,k2,k1,aM,aM]⟩}
theorem oj {h:ah} {id au c a n sid:Nat} {d:Array aQ} (D:DA h id au d) (h0:0<a) (ha:a+1<d.size) (hs:h[sid]? = some (.aj [i64 n] 0 true 3)) (hn:n≤900) : FW env 209 [.slice (some ⟨id,0,some au⟩) d.size c,i64 a,.pointer (some ⟨sid,0,some 0⟩),aP] h fun r h'=> r=i64 (Go.Sort.medianAdjacent br d a n).1∧h'=h.set sid (.aj [i64 (Go.Sort.medianAdjacent br d a n).2] 0 true 3):=by{
have hsz:=D.n
have e1:IntKind.i64.wrap ((a:Int)-1)=((a-1:Nat):Int):=by rw[ay om om];omega
have e2:IntKind.i64.wrap ((a:Int)+1)=((a+1:Nat):Int):=by rw[ay om om];omega
have k:=oF (c:=c) (a:=a-1) (b:=a) (e:=a+1) (n:=n) D om om ha hs hn
have hm:Go.Sort.medianAdjacent br d a n=Go.Sort.median br d (a-1) a (a+1) n:=rfl
rw[hm]
obtain⟨p,hp⟩:∃ p,p=a-1:=⟨_,rfl⟩
obtain⟨q,hq⟩:∃ q,q=a+1:=⟨_,rfl⟩
rw[← hp,← hq] at k ⊢
rw[← hp] at e1
rw[← hq] at e2
refine fe Tryz.func209 ?_;simp only[push_cast]
refine fM e1 e2 ?_
refine zj Tryz.func210 ?_
rw[List.append_nil]
refine k.mono ?_
rintro _ h1 ⟨rfl,k1⟩
refine aB ?_
refine ai ?_
exact⟨_,ak,rfl,k1⟩}
theorem Pq {N:Env} {f:FuncId} {args:List Value} {h:ah} {Q:Value→Prop} (k:FW N f args h fun r h'=>Q r∧cV h.length r∧h'.take h.length=h):FW N f args h fun r h'=>Q r∧h'=h:=by{
unfold FW at k ⊢
obtain⟨r,h',h1,h2,h3,h4⟩:=k
exact⟨r,h,.gc h1 h3 h4,h2,rfl⟩}
theorem fL {n:Nat} {a b:Int}:cV n (.tuple #[i64 a,i64 b]):=by{
refine .Ct fun i v h=>?_
match i,h with
| 0,h=>cases h;exact .be rfl
| 1,h=>cases h;exact .be rfl}
theorem cU {h:ah} {n:Nat} {x:av}:(h.set n x).take n=h.take n:=by
 rw[List.take_set,List.set_eq_of_length_le (by simp;omega)]
theorem gU {h:ah} {x:av}:(h++[x]).take h.length=h:=by simp
theorem jx {d:Array aQ} {a b c s:Nat} (ha:a<d.size) (hb:b<d.size) (hc:c<d.size):(Go.Sort.median br d a b c s).2≤s+3:=by{
have h1:=jB (n:=s) ha hb
have h2:=jB (n:=(Go.Sort.order2 br d a b s).2.2) h1.2.1 hc
have h3:=jB (n:=(Go.Sort.order2 br d (Go.Sort.order2 br d a b s).2.1 c (Go.Sort.order2 br d a b s).2.2).2.2) h1.1 h2.1
unfold Go.Sort.median
simp only
omega}
theorem EL {h:ah} {id au c a b:Nat} {d:Array aQ} (D:DA h id au d) (hab:a<b) (hb:b≤d.size) : FW env 183 [.slice (some ⟨id,0,some au⟩) d.size c,i64 a,i64 b,aP] h fun r h'=> (∃ p hint:Nat,r = .tuple #[i64 p,i64 hint]∧a≤p∧p<b)∧h'=h:=by{
have hsz:=D.n
refine Pq ?_
obtain⟨l,hl⟩:∃ l,l=b-a:=⟨_,rfl⟩
obtain⟨q,hq⟩:∃ q,q=l / 4:=⟨_,rfl⟩
obtain⟨x1,hx1⟩:∃ x1,x1=a+q:=⟨_,rfl⟩
obtain⟨x2,hx2⟩:∃ x2,x2=a+q*2:=⟨_,rfl⟩
obtain⟨x3,hx3⟩:∃ x3,x3=a+q*3:=⟨_,rfl⟩
have e1:IntKind.i64.wrap ((b:Int)-a)=(l:Int):=by rw[ay om om];omega
have e2:IntKind.i64.wrap ((l:Int).tdiv 4)=(q:Int):=by
 have:(l:Int).tdiv 4=(q:Int):=by rw[hq];rfl
 rw[this,ay om om]
have e3:IntKind.i64.wrap ((q:Int)*1)=(q:Int):=by rw[ay om om];omega
have e4:IntKind.i64.wrap ((q:Int)*2)=(q:Int)*2:=ay om om
have e5:IntKind.i64.wrap ((q:Int)*3)=(q:Int)*3:=ay om om
have f1:IntKind.i64.wrap ((a:Int)+(q:Int))=(x1:Int):=by rw[ay om om];omega
have f2:IntKind.i64.wrap ((a:Int)+(q:Int)*2)=(x2:Int):=by rw[ay om om];omega
have f3:IntKind.i64.wrap ((a:Int)+(q:Int)*3)=(x3:Int):=by rw[ay om om];omega
have hq4:q*4≤l:=by omega
refine fe Tryz.func183 ?_;simp only[push_cast]
refine zu ?_
iterate 2 (apply ej;·simp only[push_cast,env,Nat.reduceEqDiff,reduceIte,Nat.reduceAdd,Nat.reduceMul,Nat.reduceLeDiff,reduceCtorEq,Nat.reduceSub,Int.reduceToNat]<;>exact rfl)
refine zu ?_
iterate 4 (apply ej;·simp only[push_cast,env,Nat.reduceEqDiff,reduceIte,Nat.reduceAdd,Nat.reduceMul,Nat.reduceLeDiff,reduceCtorEq,Nat.reduceSub,Int.reduceToNat,e1]<;>exact rfl)
refine zu ?_
refine dw (t:=3) (cs:=[i64 0]) ak ak ?_
dsimp only[St.aX,St.put]
have D0:DA (h++[.aj [i64 (0:Nat)] 0 true 3]) id au d:=⟨bo D.g,D.n,D.b⟩
have s0:(h++[.aj [i64 (0:Nat)] 0 true 3])[h.length]? = some (.aj [i64 (0:Nat)] 0 true 3):=aJ
refine Re e1 e2 e3 e4 e5 f1 f2 f3 ?_
by_cases h8:8≤l
·have d1:decide (8≤(l:Int))=true:=decide_eq_true om
 have b1:a<x1∧x1+1<b:=by omega
 have b2:a<x2∧x2+1<b:=by omega
 have b3:a<x3∧x3+1<b:=by omega
 clear e2 e3 e4 e5 f1 f2 f3 hq hx1 hx2 hx3 hq4
 refine af (iD d1) ?_
 by_cases h50:50≤l
 ·have d2:decide (50≤(l:Int))=true:=decide_eq_true om
  clear hl e1
  refine aG d2 ?_
  refine af rfl ?_
  refine aB ?_
  refine zj Tryz.func209 ?_
  rw[List.append_nil]
  refine (oj (c:=c) D0 om om s0 om).mono ?_
  have hm1:=Go.Sort.medianAdjacent_mem br d x1 0
  have hc1:(Go.Sort.medianAdjacent br d x1 0).2≤0+3:=jx om om om
  obtain⟨p1,hp1⟩:∃ p,Go.Sort.medianAdjacent br d x1 0=p:=⟨_,rfl⟩
  rw[hp1] at hm1 hc1 ⊢
  have hr1:a≤p1.1∧p1.1<b:=by omega
  clear hm1 hp1
  rintro _ h1 ⟨rfl,k1⟩
  have D1:DA h1 id au d:=by rw[k1];exact (D0).OX s0
  have s1:h1[h.length]? = some (.aj [i64 p1.2] 0 true 3):=by rw[k1];exact aw s0
  refine aB ?_
  refine zj Tryz.func209 ?_
  rw[List.append_nil]
  refine (oj (c:=c) D1 om om s1 om).mono ?_
  have hm2:=Go.Sort.medianAdjacent_mem br d x2 p1.2
  have hc2:(Go.Sort.medianAdjacent br d x2 p1.2).2≤p1.2+3:=jx om om om
  obtain⟨p2,hp2⟩:∃ p,Go.Sort.medianAdjacent br d x2 p1.2=p:=⟨_,rfl⟩
  rw[hp2] at hm2 hc2 ⊢
  have hr2:a≤p2.1∧p2.1<b:=by omega
  clear hm2 hp2
  rintro _ h2 ⟨rfl,k2⟩
  have D2:DA h2 id au d:=by rw[k2];exact (D1).OX s1
  have s2:h2[h.length]? = some (.aj [i64 p2.2] 0 true 3):=by rw[k2];exact aw s1
  refine aB ?_
  refine zj Tryz.func209 ?_
  rw[List.append_nil]
  refine (oj (c:=c) D2 om om s2 om).mono ?_
  have hm3:=Go.Sort.medianAdjacent_mem br d x3 p2.2
  have hc3:(Go.Sort.medianAdjacent br d x3 p2.2).2≤p2.2+3:=jx om om om
  obtain⟨p3,hp3⟩:∃ p,Go.Sort.medianAdjacent br d x3 p2.2=p:=⟨_,rfl⟩
  rw[hp3] at hm3 hc3 ⊢
  have hr3:a≤p3.1∧p3.1<b:=by omega
  clear hm3 hp3
  rintro _ h3 ⟨rfl,k3⟩
  have D3:DA h3 id au d:=by rw[k3];exact (D2).OX s2
  have s3:h3[h.length]? = some (.aj [i64 p3.2] 0 true 3):=by rw[k3];exact aw s2
  refine aB ?_
  refine zj Tryz.func210 ?_
  rw[List.append_nil]
  refine (oF (c:=c) D3 om om om s3 om).mono ?_
  have hmm:=Go.Sort.median_mem br d p1.1 p2.1 p3.1 p3.2
  have hmc:(Go.Sort.median br d p1.1 p2.1 p3.1 p3.2).2≤p3.2+3:=jx om om om
  obtain⟨pm,hpm⟩:∃ p,Go.Sort.median br d p1.1 p2.1 p3.1 p3.2=p:=⟨_,rfl⟩
  rw[hpm] at hmm hmc ⊢
  have hrm:a≤pm.1∧pm.1<b:=by omega
  clear hmm hpm
  rintro _ hM ⟨rfl,kM⟩
  have sM:hM[h.length]? = some (.aj [i64 pm.2] 0 true 3):=by rw[kM];exact aw s3
  obtain⟨n,hn⟩:∃ n,n=pm.2:=⟨_,rfl⟩
  rw[← hn] at sM
  refine aG sM ?_
  by_cases hz:n=0
  ·have d3:decide ((n:Int)=0)=true:=decide_eq_true om
   refine af (iD d3) ?_
   refine aB ?_
   refine ai ?_
   exact⟨_,ak,⟨_,1,rfl,hrm⟩,fL,(by rw[kM,cU,k3,cU,k2,cU,k1,cU,gU])⟩
  have d3:decide ((n:Int)=0)=false:=decide_eq_false om
  by_cases hz2:n=12
  ·have d4:decide ((n:Int)=12)=true:=decide_eq_true om
   refine ae (iD d3) ?_
   refine aG d4 ?_
   refine af rfl ?_
   refine aB ?_
   refine ai ?_
   exact⟨_,ak,⟨_,2,rfl,hrm⟩,fL,(by rw[kM,cU,k3,cU,k2,cU,k1,cU,gU])⟩
  have d4:decide ((n:Int)=12)=false:=decide_eq_false om
  refine ae (iD d3) ?_
  refine aG d4 ?_
  refine ae rfl ?_
  refine aB ?_
  refine ai ?_
  exact⟨_,ak,⟨_,0,rfl,hrm⟩,fL,(by rw[kM,cU,k3,cU,k2,cU,k1,cU,gU])⟩
 ·have d2:decide (50≤(l:Int))=false:=decide_eq_false om
  clear hl e1
  refine aG d2 ?_
  refine ae rfl ?_
  refine aB ?_
  refine zj Tryz.func210 ?_
  rw[List.append_nil]
  refine (oF (c:=c) D0 om om om s0 om).mono ?_
  have hmm:=Go.Sort.median_mem br d x1 x2 x3 0
  have hmc:(Go.Sort.median br d x1 x2 x3 0).2≤0+3:=jx om om om
  obtain⟨pm,hpm⟩:∃ p,Go.Sort.median br d x1 x2 x3 0=p:=⟨_,rfl⟩
  rw[hpm] at hmm hmc ⊢
  have hrm:a≤pm.1∧pm.1<b:=by omega
  clear hmm hpm
  rintro _ hM ⟨rfl,kM⟩
  have sM:hM[h.length]? = some (.aj [i64 pm.2] 0 true 3):=by rw[kM];exact aw s0
  obtain⟨n,hn⟩:∃ n,n=pm.2:=⟨_,rfl⟩
  rw[← hn] at sM
  refine aG sM ?_
  by_cases hz:n=0
  ·have d3:decide ((n:Int)=0)=true:=decide_eq_true om
   refine af (iD d3) ?_
   refine aB ?_
   refine ai ?_
   exact⟨_,ak,⟨_,1,rfl,hrm⟩,fL,(by rw[kM,cU,gU])⟩
  have d3:decide ((n:Int)=0)=false:=decide_eq_false om
  by_cases hz2:n=12
  ·have d4:decide ((n:Int)=12)=true:=decide_eq_true om
   refine ae (iD d3) ?_
   refine aG d4 ?_
   refine af rfl ?_
   refine aB ?_
   refine ai ?_
   exact⟨_,ak,⟨_,2,rfl,hrm⟩,fL,(by rw[kM,cU,gU])⟩
  have d4:decide ((n:Int)=12)=false:=decide_eq_false om
  refine ae (iD d3) ?_
  refine aG d4 ?_
  refine ae rfl ?_
  refine aB ?_
  refine ai ?_
  exact⟨_,ak,⟨_,0,rfl,hrm⟩,fL,(by rw[kM,cU,gU])⟩
·have d1:decide (8≤(l:Int))=false:=decide_eq_false om
 have b2:a≤x2∧x2<b:=by omega
 clear e2 e3 e4 e5 f1 f2 f3 hq hx1 hx2 hx3 hq4
 refine ae (iD d1) ?_
 repeat (first|apply zs|apply zr|apply zn|((first|apply zx|apply zy);·simp only[push_cast,env,Nat.reduceEqDiff,reduceIte,Nat.reduceAdd,Nat.reduceMul,Nat.reduceLeDiff,reduceCtorEq,Nat.reduceSub,Int.reduceToNat,aJ]<;>first|exact rfl|exact .inl rfl|exact .inr rfl) | apply zq|apply zb|apply zo|apply zk|apply zl)
 refine af rfl ?_
 refine aB ?_
 refine ai ?_
 exact⟨_,ak,⟨_,1,rfl,b2⟩,fL,gU⟩}
end Go.Proofs.YtmdmimkbpikmoaaGreat
