/- Several texts, one behind the other. -/
import Derived.Test.YtmdmimkbpikmoaaGreatZV4
import Derived.Test.YtmdmimkbpikmoaaGreatZG5
import Derived.Sort.Statements
import Derived.Test.YtmdmimkbpikmoaaGreatZFa
import Derived.Sort.LotA
import Derived.Sort.LotC
set_option linter.unusedSimpArgs false
set_option linter.unusedVariables false
set_option maxHeartbeats 8000000
namespace Go.Proofs.YtmdmimkbpikmoaaGreat
set_option maxRecDepth 20000
open Go.RowKit Am Ty
structure JG {α:Type} (f:α→Value→List Value) (R:ai→Value→α→Prop) (et:TypeId) (h hk:ai) (id av:Nat) (l:List α) (us W:List Value) (k:Nat):Prop where
 p:h <+: hk
 n:W.length=l.length
 o:hk[id]? = some (.aq ((l.zip W).flatMap fun p=>f p.1 p.2) av true et)
 d:∀ (i:Nat) (hi:i<l.length),i<k→∃ u,W[i]? = some u∧Fr (fun x=>R x u l[i]) (id+1) hk
 r:∀ i,k≤i→W[i]? = us[i]?
section
variable {α:Type} {f:α→Value→List Value} {R:ai→Value→α→Prop} {et:TypeId} {h hk h5:ai} {id av:Nat} {l:List α} {us W:List Value} {k:Nat}
theorem JG.step {r:Value} (I:JG f R et h hk id av l us W k) (hlt:k<l.length) (hid:h.length≤id) (hp5:hk <+: h5) (hF:Fr (fun x=>R x r l[k]) hk.length h5) : JG f R et h (h5.set id (.aq ((l.zip (W.set k r)).flatMap fun p=>f p.1 p.2) av true et)) id av l us (W.set k r) (k+1):=by{
have hlen1:=dw I.o
have hA5:ka (id+1) hk (h5.set id (.aq ((l.zip (W.set k r)).flatMap fun p=>f p.1 p.2) av true et)):=(ka.pre hp5).trans (ka.set om)
refine⟨aZ (I.p.trans hp5) hid,by rw[List.length_set];exact I.n,aw (af hp5 I.o),fun i hi h2=>?_,fun i hi=>?_⟩
·rcases (by omega:i<k∨i=k) with h4|rfl
 ·obtain⟨u,hu1,hu2⟩:=I.d i hi h4
  exact⟨u,by rw[List.getElem?_set_ne om];exact hu1,hu2.mono hA5⟩
 ·refine⟨_,List.getElem?_set_self (by rw[I.n];exact hlt),(hF.mono ?_).low om⟩
  exact ka.set om
·rw[List.getElem?_set_ne om]
 exact I.r i om}
theorem JG.fin {b c:Nat} (I:JG f R et h hk id av l us W l.length) (hb:l.length*b≤140737488355328):Fr (fun x=>ct f R et b x (.slice (some ⟨id,0,some av⟩) l.length c) l) id hk:=by{
refine fun x e=>⟨W,I.n,⟨hb,.inr ⟨id,av,true,_,rfl,e _ _ (Nat.le_refl _) I.o⟩⟩,fun i y u h1 h2=>?_⟩
obtain⟨hi,rfl⟩:=List.getElem?_eq_some_iff.1 h1
obtain⟨u',hu1,hu2⟩:=I.d i hi hi
rw[hu1] at h2
cases h2
exact hu2 x (e.low om)}
end
theorem lB {all:Array Oper} {o:Oper} {r:List Oper} {s:St} {K:St→Prop} {x:Operand} {t y:Nat} {e:TypeId} {ti:TI} {v:Value} {cs cells:List Value} {n:Nat} {h:ai} (hw:aE all o s=some true) (ho:o.op = .call { callee:=.builtin .append,args:=#[x,.tmp y],argTypes:=#[t,t] }) (hu:env.P.underlying t=some (.slice e)) (ht:au env.P e=some ti) (hs0:0<ti.size) (hz:(ti.zero.map fun z=>z.cells.size)=some ti.size) (hx:ev s x=some v) (hy:aW s.fr y = .nz cs 1) (G:aL h s.h v n cells e) (hp:h <+: s.h) (hl:cells.length=n*ti.size) (hc:cs.length=ti.size) (hb:(n+1)*ti.bytes≤140737488355328) (hn:n+1≤140737488355328) (k:∀ p c h',aL h h' (.slice p (n+1) c) (n+1) (cells++cs) e→h <+: h'→(∀ j o,bX v j=false→s.h[j]? = some o→h'[j]? = some o)→(∀ x,bX (.slice p (n+1) c) x=true→bX v x=true∨x=s.h.length)→OW env all r ({ s with h:=h' }.a9 o.dst (.val (.slice p (n+1) c))) K):OW env all (o :: r) s K:=by{
have hi:cJ s s.h ti.size (.tmp y)=some (cs,1):=by simp only[cJ,hy,hc,Nat.one_mul,if_true]
rcases G with ⟨rfl,rfl,rfl⟩ | ⟨id,av,h1,rfl,h3⟩
·refine nk hw ho hu ht hs0 hz hx hi (by decide) (by simpa using hb) (by decide) ?_
 exact k (some ⟨s.h.length,0,some 0⟩) 1 _ (.inr ⟨s.h.length,0,hp.length_le,rfl,by simp⟩) (dt hp) (fun j o _ h=>bA h) (fun x hx=>by
  simp only[bX,beq_iff_eq] at hx
  exact .inr hx.symm)
·refine o8 hw ho hu ht hs0 hz hx h3 om hi hb hn ?_
 rw[List.take_of_length_le om]
 refine k (some ⟨id,0,some (av+1)⟩) (n+1) _ (.inr ⟨id,av+1,h1,rfl,aw h3⟩) (aZ hp h1) (fun j o hj h=>?_) (fun x hx=>?_)
 ·simp only[bX,beq_eq_false_iff_ne] at hj
  rw[aD hj]
  exact h
 ·simp only[bX] at hx ⊢
  exact .inl hx}
theorem Ch {all:Array Oper} {o:Oper} {s:St} {h h':ai} {t et:TypeId} {a x:Operand} {ti:TI} {id off av:Nat} {cells vs cells':List Value} {v:Value} {r:gu} (hh:s.h=h) (hw:aE all o s=some true) (ho:o.op = .store t a x) (ht:au env.P t=some ti) (ha:ev s a=some (.pointer (some ⟨id,off,some av⟩))) (hid:h[id]? = some (.aq cells av true et)) (hx:ev s x=some v) (hv:ee ti.size v=some vs)
 (hq:lL cells off vs=some cells') (hd:o.dst=none) (he:h'=h.set id (ax.aq cells' av true et)):One env all o s r h':=by
 subst hh he
 exact .jE hw ho ht ha hid hx hv hq hd
abbrev JP:Prod→Value→List Value:=fun p u=>[.bool p.lex,.string p.sort,.string p.cons,.bool p.bracket,u]
abbrev QA:cZ→Value→List Value:=fun p u=>[i64 p.assoc,u]
abbrev Jl:DD→Value→List Value:=fun p u=>[.string p.cons,u]
def kS (d:bS) (vP vC vF vR vB:Value):List Value:=[.string d.start,.string d.layout,vP,vC,vF,vR,vB]
abbrev ZD:List Value:=[.string ⟨#[]⟩,.string ⟨#[]⟩,aH,aH,aH,aH,aH]
structure UI (h hk:ai) (v:Value) (l:List (List cZ)) (vs:List Value) (k:Nat):Prop where
 p:h <+: hk
 n:vs.length=k
 g:aL h hk v k vs 80
 e:∀ (i:Nat) (hi:i<l.length),i<k→∃ u,vs[i]? = some u∧∀ x:ai,(∀ j o,h.length≤j→bX v j=false→hk[j]? = some o→x[j]? = some o)→b9 x u l[i]
theorem yr:∀ {α:Type} {l:List α} {W:List Value},W.length=l.length→((l.zip W).flatMap fun p=>[p.2])=W
 | _,[],[],_=>rfl
 | _,x :: l,w :: W,h=>by
   rw[List.zip_cons_cons,List.flatMap_cons,yr (by simpa using h)]
   rfl
section
variable {h:ai} {d:bS} {up uc uf ur ub:Value}
theorem Dh (hd:bo h d up uc uf ur ub):FW env 32 [.agg (d.val up uc uf ur ub).toArray] h fun r h'=>h <+: h'∧∃ vp vc vf vr vb,r = .agg (d.val vp vc vf vr vb).toArray∧Fr (fun x=>bo x d vp vc vf vr vb) h.length h':=by{
obtain⟨p1,c1,p2,c2,p3,c3,p4,c4,p5,c5,rfl,rfl,rfl,rfl,rfl,l1,l2,l3,l4,l5⟩:=bo.form hd
obtain⟨UP,hUPn,hUPs,hUPr⟩:=id hd.aa
obtain⟨UB,hUBn,hUBs,hUBr⟩:=id hd.boxes
have hcP:((d.aa.zip UP).flatMap fun p=>JP p.1 p.2).length=d.aa.length*5:=by rw[bU (f:=fun p:Prod×Value=>JP p.1 p.2) (k:=5) (fun _=>rfl),List.length_zip,hUPn,Nat.min_self]
have hcB:((d.boxes.zip UB).flatMap fun p=>Jl p.1 p.2).length=d.boxes.length*2:=by rw[bU (f:=fun p:DD×Value=>Jl p.1 p.2) (k:=2) (fun _=>rfl),List.length_zip,hUBn,Nat.min_self]
have hbP:d.aa.length*72≤140737488355328:=ct.le hd.aa
have hbB:d.boxes.length*40≤140737488355328:=ct.le hd.boxes
have hbC:d.aj.length*24≤140737488355328:=ct.le hd.aj
refine fe Tryz.func32 ?_;simp only[push_cast]
unfold bS.val
refine zu ?_
refine dK (t:=28) (cs:=kS d (.slice p1 d.aa.length c1) (.slice p2 d.aj.length c2) (.slice p3 d.follows.length c3) (.slice p4 d.ah.length c4) (.slice p5 d.boxes.length c5)) al kr ?_
dsimp only[St.a9,St.put]
have hp1:h <+: h++[ax.aq (kS d (.slice p1 d.aa.length c1) (.slice p2 d.aj.length c2) (.slice p3 d.follows.length c3) (.slice p4 d.ah.length c4) (.slice p5 d.boxes.length c5)) 0 true 28]:=aJ
have hx1:(h++[ax.aq (kS d (.slice p1 d.aa.length c1) (.slice p2 d.aj.length c2) (.slice p3 d.follows.length c3) (.slice p4 d.ah.length c4) (.slice p5 d.boxes.length c5)) 0 true 28])[h.length]? = some (.aq (kS d (.slice p1 d.aa.length c1) (.slice p2 d.aj.length c2) (.slice p3 d.follows.length c3) (.slice p4 d.ah.length c4) (.slice p5 d.boxes.length c5)) 0 true 28):=aK
have hl1':(h++[ax.aq (kS d (.slice p1 d.aa.length c1) (.slice p2 d.aj.length c2) (.slice p3 d.follows.length c3) (.slice p4 d.ah.length c4) (.slice p5 d.boxes.length c5)) 0 true 28]).length=h.length+1:=by simp
generalize (h++[ax.aq (kS d (.slice p1 d.aa.length c1) (.slice p2 d.aj.length c2) (.slice p3 d.follows.length c3) (.slice p4 d.ah.length c4) (.slice p5 d.boxes.length c5)) 0 true 28])=h1 at hp1 hx1 hl1' ⊢
unfold kS at hx1
refine aG hx1 ?_
refine zj Tryz.func82 ?_
refine (Cv (hUPs.mono hp1) hcP).mono ?_
rintro _ h2 ⟨hp2,hGP⟩
obtain⟨qP,cP,rfl⟩:=hGP.form
have hx2:=af hp2 hx1
refine aC ?_
refine bY (cells':=kS d (.slice qP d.aa.length cP) (.slice p2 d.aj.length c2) (.slice p3 d.follows.length c3) (.slice p4 d.ah.length c4) (.slice p5 d.boxes.length c5)) al rfl rfl rfl al hx2 al rfl rfl ?_
dsimp only
have hx3:(h2.set h.length (.aq (kS d (.slice qP d.aa.length cP) (.slice p2 d.aj.length c2) (.slice p3 d.follows.length c3) (.slice p4 d.ah.length c4) (.slice p5 d.boxes.length c5)) 0 true 28))[h.length]? = some (.aq (kS d (.slice qP d.aa.length cP) (.slice p2 d.aj.length c2) (.slice p3 d.follows.length c3) (.slice p4 d.ah.length c4) (.slice p5 d.boxes.length c5)) 0 true 28):=aw hx2
have hp3:h <+: h2.set h.length (.aq (kS d (.slice qP d.aa.length cP) (.slice p2 d.aj.length c2) (.slice p3 d.follows.length c3) (.slice p4 d.ah.length c4) (.slice p5 d.boxes.length c5)) 0 true 28):=aZ (hp1.trans hp2) (Nat.le_refl _)
have hGP3:aL h1 (h2.set h.length (.aq (kS d (.slice qP d.aa.length cP) (.slice p2 d.aj.length c2) (.slice p3 d.follows.length c3) (.slice p4 d.ah.length c4) (.slice p5 d.boxes.length c5)) 0 true 28)) (.slice qP d.aa.length cP) d.aa.length ((d.aa.zip UP).flatMap fun p=>JP p.1 p.2) 51:=hGP.mono fun j o hj ho=>by
 have:=(hGP.lt hj).1
 rw[aD om]
 exact ho
generalize (h2.set h.length (.aq (kS d (.slice qP d.aa.length cP) (.slice p2 d.aj.length c2) (.slice p3 d.follows.length c3) (.slice p4 d.ah.length c4) (.slice p5 d.boxes.length c5)) 0 true 28))=h3 at hx3 hp3 hGP3 ⊢
clear hGP hx2 hp2
unfold kS at hx3
refine aG hx3 ?_
refine CW.mono (Q:=fun e s'=>e = .exit 0∧∃ hk,h <+: hk∧hk[h.length]? = some (.aq (kS d (.slice qP d.aa.length cP) (.slice p2 d.aj.length c2) (.slice p3 d.follows.length c3) (.slice p4 d.ah.length c4) (.slice p5 d.boxes.length c5)) 0 true 28)∧Fr (fun x=>eL x (.slice qP d.aa.length cP) d.aa) (h.length+1) hk∧s'.h=hk∧bD [(1,.val (.pointer (some ⟨h.length,0,some 0⟩))),(2,.box ZD)] s'.fr) ?_ ?_
·by_cases hz:d.aa.length=0
 ·refine dC d.aa.length (fun k=>[(1,.val (.pointer (some ⟨h.length,0,some 0⟩))),(2,.box ZD),(15,.val (i64 d.aa.length)),(16,.val (i64 k))]) (fun _=>h3) (fun _=>True) aM rfl trivial ?_
  intro k hkn _
  have hlt:¬ k<d.aa.length:=by omega
  have e3:=aT hlt
  refine aG e3 ?_
  refine ae rfl ?_
  refine aB ?_
  refine⟨rfl,h3,hp3,hx3,fun x e=>⟨UP,hUPn,(hGP3.fr (b:=72) hbP) x (by rw[hl1'];exact e),fun i y u h1 h2=>?_⟩,rfl,aM⟩
  have:=(List.getElem?_eq_some_iff.1 h1).1
  omega
 obtain⟨id,av,hid,hv,hob⟩:=hGP3.wJ om
 cases hv
 refine aX d.aa.length (fun k (x:ai×List Value)=>[(1,.val (.pointer (some ⟨h.length,0,some 0⟩))),(2,.box ZD),(15,.val (i64 d.aa.length)),(16,.val (i64 k))]) (fun _ x=>x.1) (fun k x=>JG JP (fun h u p=>fB h u p.an) 51 h x.1 id av d.aa UP x.2 k∧x.1[h.length]? = some (.aq (kS d (.slice (some ⟨id,0,some av⟩) d.aa.length d.aa.length) (.slice p2 d.aj.length c2) (.slice p3 d.follows.length c3) (.slice p4 d.ah.length c4) (.slice p5 d.boxes.length c5)) 0 true 28)) (h3,UP) aM rfl ⟨⟨hp3,hUPn,hob,fun i hi h=>absurd h om,fun i _=>rfl⟩,hx3⟩ ?_
 rintro k ⟨hk,W⟩ hkn ⟨I,hx⟩
 simp only at I hx ⊢
 by_cases hlt:k<d.aa.length
 ·have e1:=cz hlt
  have e2:=inc hlt l1
  have e3:=aU hlt
  have hWk:W[k]? = some (UP[k]'om):=by rw[I.r k (Nat.le_refl _)];simp
  have hg:=ni (f:=JP) (k:=5) (fun _ _=>rfl) hlt hWk
  have hg3:=dE (j:=4) hg om
  simp only[List.getElem?_cons_succ,List.getElem?_cons_zero] at hg3
  have hu:fB h (UP[k]'om) d.aa[k].an:=hUPr k d.aa[k] (UP[k]'om) (by simp [hlt]) (by simp)
  obtain⟨pu,cu,huf⟩:=bT.form hu
  rw[huf] at hg3 hu
  have hcl:=Da (hu.mono I.p) ua
  unfold FW at hcl
  obtain⟨r,h5,hcall,hp5,hGr⟩:=hcl
  have hF:=hGr.fr (b:=88) hu.1
  obtain⟨pr,cr,rfl⟩:=hGr.form
  have ho:=I.o
  have ho5:=af hp5 ho
  have hx5:=af hp5 hx
  have I':=I.step hlt om hp5 hF
  have hx6:(h5.set id (.aq ((d.aa.zip (W.set k (.slice pr d.aa[k].an.length cr))).flatMap fun p=>JP p.1 p.2) av true 51))[h.length]? = some (.aq (kS d (.slice (some ⟨id,0,some av⟩) d.aa.length d.aa.length) (.slice p2 d.aj.length c2) (.slice p3 d.follows.length c3) (.slice p4 d.ah.length c4) (.slice p5 d.boxes.length c5)) 0 true 28):=by rw[aD om];exact hx5
  unfold kS at hx hx5
  refine aG e3 ?_
  refine ag rfl ?_
  refine aC ?_
  refine aA [(1,.val (.pointer (some ⟨h.length,0,some 0⟩))),(2,.box ZD),(3,.val (i64 k)),(15,.val (i64 d.aa.length)),(16,.val (i64 k))] aM ?_
  show CW _ _ ⟨_,[],hk⟩ _
  apply bm (L:=[[],[0],[],[],[3],[],[4,5],[6],[7],[8],[1,2],[10],[0,1,2,3,4,5,6,7,8,9,11]]) (act:=[9,12]) (hs:=[h5,h5.set id (.aq ((d.aa.zip (W.set k (.slice pr d.aa[k].an.length cr))).flatMap fun p=>JP p.1 p.2) av true 51)]) (resL:=[_,_,_,_,_,_,_,_,_,_,_,_,_]) (frF:=[(1,.val (.pointer (some ⟨h.length,0,some 0⟩))),(2,.box ZD),(15,.val (i64 d.aa.length)),(16,.val (i64 k))])
  case hm=>exact mixed
  case hc=>kernel_rfl
  case ha=>rfl
  case hb=>rfl
  case hS=>
   refine NG hx hx5 e1 ho hg3 ?_
   apply az.cons
   ·rfl
   ·refine⟨?_,trivial⟩
    exact dF (args:=[.slice pu d.aa[k].an.length cu]) (cap:=[]) (fn:=Tryz.f83) al rfl al al Tryz.func83 kr kr hcall
   ·rfl
   refine NG hx hx5 e1 ho hg3 ?_
   apply az.cons
   ·rfl
   ·refine⟨?_,trivial⟩
    exact One.jE (r:=.sl .dL) al rfl al al ho5 al rfl (oq (f:=JP) (k:=5) (o:=4) (fun _ _=>rfl) (by decide) (fun _ _ _=>rfl) I.n hlt) rfl
   ·rfl
   exact az.nil _
  case ht=>rfl
  case hF=>exact zh
  show CW _ _ _ _
  refine aG e2 ?_
  exact⟨hlt,(_,_),aM,rfl,I',hx6⟩
 ·have e3:=aT hlt
  obtain rfl:k=d.aa.length:=by omega
  refine aG e3 ?_
  refine ae rfl ?_
  refine aB ?_
  exact⟨rfl,hk,I.p,hx,(I.fin (c:=d.aa.length) hbP).low om,rfl,aM⟩
clear hGP3 hx3 hp3
rintro e s' ⟨rfl,h4,hp4,hx4,hFP,hh,hf⟩
show CW _ _ _ _
refine aA _ hf ?_
rw[hh]
clear hf hh s'
unfold kS at hx4
refine aG hx4 ?_
refine CW.mono (Q:=fun e s'=>e = .exit 2∧∃ hk vs q c,UI h4 hk (.slice q d.aj.length c) d.aj vs d.aj.length∧s'.h=hk∧bD [(1,.val (.pointer (some ⟨h.length,0,some 0⟩))),(2,.box ZD),(4,.val (.slice q d.aj.length c))] s'.fr) ?_ ?_
·refine aX d.aj.length (fun k (x:ai×List Value×Option Addr×Nat)=>[(1,.val (.pointer (some ⟨h.length,0,some 0⟩))),(2,.box ZD),(4,.val (.slice x.2.2.1 k x.2.2.2)),(33,.val (.slice p2 d.aj.length c2)),(34,.val (i64 d.aj.length)),(35,.val (i64 k))]) (fun _ x=>x.1) (fun k x=>UI h4 x.1 (.slice x.2.2.1 k x.2.2.2) d.aj x.2.1 k) (h4,[],none,0) aM rfl ⟨List.prefix_refl _,rfl,aL.nil,fun i _ hi=>absurd hi om⟩ ?_
 rintro k ⟨hk,vs,qC,cC⟩ hkn I
 simp only at I ⊢
 have hpk:=hp4.trans I.p
 by_cases hlt:k<d.aj.length
 ·obtain⟨id,av,own,c',cells,u,hv,hid0,hrd,hu⟩:=ct.at (k:=1) (fun _ _=>rfl) hd.aj hlt
  cases hv
  have hid:=af hpk hid0
  have hu:b9 h u d.aj[k]:=hu
  obtain⟨ps,cs,rfl⟩:=ct.form hu
  have hu':=hu
  obtain⟨UG,hUGn,hUGs,hUGr⟩:=hu'
  have hg:=fI hrd om
  simp only[List.getElem?_cons_zero,Nat.mul_one] at hg
  have w1:=cz hlt
  have w2:=inc hlt l2
  have q3:=aU hlt
  have hbG:d.aj[k].length*32≤140737488355328:=ct.le hu
  have hcG:((d.aj[k].zip UG).flatMap fun p=>QA p.1 p.2).length=d.aj[k].length*2:=by rw[bU (f:=fun p:cZ×Value=>QA p.1 p.2) (k:=2) (fun _=>rfl),List.length_zip,hUGn,Nat.min_self]
  refine aG q3 ?_
  refine ag rfl ?_
  refine fN w1 hid hg Nat.mul_one ?_
  refine zj Tryz.func84 ?_
  refine (Cw (hUGs.mono hpk) hcG).mono ?_
  rintro _ h5 ⟨hp5,hGG⟩
  obtain⟨qG,cG,rfl⟩:=hGG.form
  refine aC ?_
  refine CW.mono (Q:=fun e s'=>e = .exit 4∧∃ h6,hk <+: h6∧Fr (fun x=>b9 x (.slice qG d.aj[k].length cG) d.aj[k]) hk.length h6∧s'.h=h6∧bD [(1,.val (.pointer (some ⟨h.length,0,some 0⟩))),(2,.box ZD),(4,.val (.slice qC k cC)),(6,.val (.slice qG d.aj[k].length cG)),(33,.val (.slice (some ⟨id,0,some av⟩) d.aj.length c2)),(34,.val (i64 d.aj.length)),(35,.val (i64 k))] s'.fr) ?_ ?_
  ·by_cases hz:d.aj[k].length=0
   ·refine dC d.aj[k].length (fun m=>[(1,.val (.pointer (some ⟨h.length,0,some 0⟩))),(2,.box ZD),(4,.val (.slice qC k cC)),(6,.val (.slice qG d.aj[k].length cG)),(33,.val (.slice (some ⟨id,0,some av⟩) d.aj.length c2)),(34,.val (i64 d.aj.length)),(35,.val (i64 k)),(42,.val (i64 d.aj[k].length)),(43,.val (i64 m))]) (fun _=>h5) (fun _=>True) aM rfl trivial ?_
    intro m hmn _
    have hml:¬ m<d.aj[k].length:=by omega
    have e3:=aT hml
    refine aG e3 ?_
    refine ae rfl ?_
    refine aB ?_
    refine⟨rfl,h5,hp5,fun x e=>⟨UG,hUGn,(hGG.fr (b:=32) hbG) x e,fun i y u h1 h2=>?_⟩,rfl,aM⟩
    have:=(List.getElem?_eq_some_iff.1 h1).1
    omega
   obtain⟨idg,verg,hidg,hvg,hobg⟩:=hGG.wJ om
   cases hvg
   refine aX d.aj[k].length (fun m (x:ai×List Value)=>[(1,.val (.pointer (some ⟨h.length,0,some 0⟩))),(2,.box ZD),(4,.val (.slice qC k cC)),(6,.val (.slice (some ⟨idg,0,some verg⟩) d.aj[k].length d.aj[k].length)),(33,.val (.slice (some ⟨id,0,some av⟩) d.aj.length c2)),(34,.val (i64 d.aj.length)),(35,.val (i64 k)),(42,.val (i64 d.aj[k].length)),(43,.val (i64 m))]) (fun _ x=>x.1) (fun m x=>JG QA (fun h u p=>bj h u p.cons) 82 hk x.1 idg verg d.aj[k] UG x.2 m) (h5,UG) aM rfl ⟨hp5,hUGn,hobg,fun i hi h=>absurd h om,fun i _=>rfl⟩ ?_
   rintro m ⟨hm,W⟩ hmn J
   simp only at J ⊢
   by_cases hml:m<d.aj[k].length
   ·have e1:=cz hml
    have e2:=inc hml om
    have e3:=aU hml
    have hWk:W[m]? = some (UG[m]'om):=by rw[J.r m (Nat.le_refl _)];simp
    have hg:=ni (f:=QA) (k:=2) (fun _ _=>rfl) hml hWk
    have hg3:=dE (j:=1) hg om
    simp only[List.getElem?_cons_succ,List.getElem?_cons_zero] at hg3
    have huN:bj h (UG[m]'om) (d.aj[k])[m].cons:=hUGr m (d.aj[k])[m] (UG[m]'om) (by simp [hml]) (by simp)
    obtain⟨pu,cu,huf⟩:=bT.form huN
    rw[huf] at hg3 huN
    have ho:=J.o
    refine aG e3 ?_
    refine ag rfl ?_
    refine gU e1 ho hg3 ?_
    refine zj Tryz.func85 ?_
    refine (Ds (huN.mono (hpk.trans J.p)) (by simp)).mono ?_
    rintro _ h7 ⟨hp7,hGN⟩
    have hF:=hGN.fr (b:=16) huN.1
    obtain⟨pr,cr,rfl⟩:=hGN.form
    have ho7:=af hp7 ho
    have J':=J.step hml hidg hp7 hF
    refine aG e1 ?_
    refine bY al rfl rfl rfl al ho7 al rfl (oq (f:=QA) (k:=2) (o:=1) (fun _ _=>rfl) (by decide) (fun _ _ _=>rfl) J.n hml) ?_
    refine aG e2 ?_
    exact⟨hml,(_,_),aM,rfl,J'⟩
   ·have e3:=aT hml
    obtain rfl:m=d.aj[k].length:=by omega
    refine aG e3 ?_
    refine ae rfl ?_
    refine aB ?_
    exact⟨rfl,hm,J.p,(J.fin (c:=d.aj[k].length) hbG).low hidg,rfl,aM⟩
  rintro e s' ⟨rfl,h6,hp6,hFC,hh,hf⟩
  show CW _ _ _ _
  refine aA _ hf ?_
  rw[hh]
  clear hf hh s'
  have hG6:aL h4 h6 (.slice qC k cC) k vs 80:=I.g.mono fun j o _ ho=>af hp6 ho
  refine aC ?_
  refine lB (t:=23) (cs:=[.slice qG d.aj[k].length cG]) al rfl kr Lv (by decide) rfl al rfl hG6 (I.p.trans hp6) (by rw[I.n,show (_:TI).size=1 from rfl,Nat.mul_one]) rfl (by simp only;omega) om ?_
  intro p' c' h7 k1 k2 k3 k4
  have k4:∀ x,bX (.slice p' (k+1) c') x=true→bX (.slice qC k cC) x=true∨x=h6.length:=k4
  refine aG w2 ?_
  refine⟨hlt,(h7,vs++[.slice qG d.aj[k].length cG],p',c'),aM,rfl,k2,by rw[List.length_append,I.n];rfl,k1,fun i hi h2=>?_⟩
  rcases (by omega:i<k∨i=k) with h8|rfl
  ·obtain⟨u',hu1,hu2⟩:=I.e i hi h8
   refine⟨u',by rw[List.getElem?_append_left (by rw[I.n];exact h8)];exact hu1,fun x hx=>hu2 x fun j o hj ha ho=>?_⟩
   refine hx j o hj ?_ (k3 j o ha (af hp6 ho))
   cases hb:bX (.slice p' (k+1) c') j with
   | false=>rfl
   | true=>
     rcases k4 j hb with h9|h9
     ·rw[ha] at h9;cases h9
     ·have:=dw ho
      have:=hp6.length_le
      omega
  ·refine⟨_,by rw[List.getElem?_append_right (by rw[I.n];exact Nat.le_refl _),I.n,Nat.sub_self];rfl,fun x hx=>hFC x fun j o hj ho=>?_⟩
   have hlk:=I.p.length_le
   have ha:bX (.slice qC i cC) j=false:=by
    cases hb:bX (.slice qC i cC) j with
    | false=>rfl
    | true=>have:=(I.g.lt hb).2;omega
   refine hx j o om ?_ (k3 j o ha ho)
   cases hb:bX (.slice p' (i+1) c') j with
   | false=>rfl
   | true=>
     rcases k4 j hb with h9|h9
     ·rw[ha] at h9;cases h9
     ·have:=dw ho
      omega
 ·have q3:=aT hlt
  obtain rfl:k=d.aj.length:=by omega
  refine aG q3 ?_
  refine ae rfl ?_
  refine aB ?_
  exact⟨rfl,hk,vs,qC,cC,I,rfl,aM⟩
rintro e s' ⟨rfl,h5,vs,qC,cC,I,hh,hf⟩
show CW _ _ _ _
refine aA _ hf ?_
rw[hh]
clear hf hh s'
have hp5:=hp4.trans I.p
have hx5:=af I.p hx4
have hlx:=dw hx4
have hgC:=I.g
have hFC:Fr (fun x=>gL x (.slice qC d.aj.length cC) d.aj) h4.length h5:=by
 refine fun x e=>⟨vs,I.n,?_,fun i y u h1 h2=>?_⟩
 ·rw[yr I.n]
  exact (I.g.fr (b:=24) hbC) x e
 ·obtain⟨hi,rfl⟩:=List.getElem?_eq_some_iff.1 h1
  obtain⟨u',hu1,hu2⟩:=I.e i hi hi
  rw[hu1] at h2
  cases h2
  exact hu2 x fun j o hj _ ho=>e j o hj ho
have hFP5:=hFP.mono (ka.pre I.p)
clear hFP I hgC
refine aC ?_
refine bY (v:=.slice qC d.aj.length cC) (vs:=[.slice qC d.aj.length cC]) (cells':=kS d (.slice qP d.aa.length cP) (.slice qC d.aj.length cC) (.slice p3 d.follows.length c3) (.slice p4 d.ah.length c4) (.slice p5 d.boxes.length c5)) al rfl rfl rfl al hx5 al rfl rfl ?_
dsimp only
obtain⟨h6,hh6⟩:∃ h6,h6=h5.set h.length (.aq (kS d (.slice qP d.aa.length cP) (.slice qC d.aj.length cC) (.slice p3 d.follows.length c3) (.slice p4 d.ah.length c4) (.slice p5 d.boxes.length c5)) 0 true 28):=⟨_,rfl⟩
have hx6:h6[h.length]? = some (.aq (kS d (.slice qP d.aa.length cP) (.slice qC d.aj.length cC) (.slice p3 d.follows.length c3) (.slice p4 d.ah.length c4) (.slice p5 d.boxes.length c5)) 0 true 28):=hh6▸aw hx5
have hA6:ka (h.length+1) h5 h6:=hh6▸ka.set (Nat.lt_succ_self _)
have hp6:h <+: h6:=hh6▸aZ hp5 (Nat.le_refl _)
rw[← hh6]
clear hh6
have hFP6:=hFP5.mono hA6
have hFC6:=(hFC.low (show h.length+1≤h4.length by omega)).mono hA6
clear hFC hFP5 hA6 hx5
have hk1:=Ce (bT.mono hd.follows hp6) (by rw[bU (f:=dO.cells) (k:=5) (fun _=>rfl)])
unfold FW at hk1
obtain⟨rF,h7,hcF,hp7,hGF⟩:=hk1
obtain⟨qF,cF,rfl⟩:=hGF.form
have hk2:=B7 (bT.mono hd.ah (hp6.trans hp7)) (by rw[bU (f:=dh.cells) (k:=2) (fun _=>rfl)])
unfold FW at hk2
obtain⟨rR,h8,hcR,hp8,hGR⟩:=hk2
obtain⟨qR,cR,rfl⟩:=hGR.form
have hx7:=af hp7 hx6
have hx8:=af hp8 hx7
have hlen6:=hp6.length_le
have hFF:Fr (fun x=>jZ x (.slice qF d.follows.length cF) d.follows) (h.length+1) h7:=(hGF.fr (b:=48) hd.follows.1).low (by have:=dw hx6;omega)
have hFR:Fr (fun x=>lJ x (.slice qR d.ah.length cR) d.ah) (h.length+1) h8:=(hGR.fr (b:=32) hd.ah.1).low (by have:=dw hx7;omega)
unfold kS at hx6 hx7 hx8
refine aC ?_
refine aA [(1,.val (.pointer (some ⟨h.length,0,some 0⟩))),(2,.box ZD)] aM ?_
show CW _ _ ⟨_,[],h6⟩ _
apply bm (L:=[[],[0],[1],[],[3],[2,4],[],[0,1,2,3,4,5,6],[],[0,1,2,3,4,5,6,7,8]]) (act:=[2,5,7,9]) (hs:=[h7,h8,h8.set h.length (.aq (kS d (.slice qP d.aa.length cP) (.slice qC d.aj.length cC) (.slice qF d.follows.length cF) (.slice p4 d.ah.length c4) (.slice p5 d.boxes.length c5)) 0 true 28),h8.set h.length (.aq (kS d (.slice qP d.aa.length cP) (.slice qC d.aj.length cC) (.slice qF d.follows.length cF) (.slice qR d.ah.length cR) (.slice p5 d.boxes.length c5)) 0 true 28)]) (resL:=[_,_,_,_,_,_,_,_,_,_]) (frF:=[(1,.val (.pointer (some ⟨h.length,0,some 0⟩))),(2,.box ZD)])
case hm=>exact mixed
case hc=>kernel_rfl
case ha=>rfl
case hb=>rfl
case hS=>
 refine PX hx6 ?_
 apply az.cons
 ·rfl
 ·refine⟨?_,trivial⟩
  exact dF (args:=[.slice p3 d.follows.length c3]) (cap:=[]) (fn:=Tryz.f86) al rfl al al Tryz.func86 kr kr hcF
 ·rfl
 refine HZ hx6 hx7 ?_
 apply az.cons
 ·rfl
 ·refine⟨?_,trivial⟩
  exact dF (args:=[.slice p4 d.ah.length c4]) (cap:=[]) (fn:=Tryz.f87) al rfl al al Tryz.func87 kr kr hcR
 ·rfl
 refine Lu hx6 hx7 hx8 ?_
 apply az.cons
 ·rfl
 ·refine⟨?_,trivial⟩
  exact One.jE (r:=.sl .dL) (cells':=kS d (.slice qP d.aa.length cP) (.slice qC d.aj.length cC) (.slice qF d.follows.length cF) (.slice p4 d.ah.length c4) (.slice p5 d.boxes.length c5)) al rfl al al hx8 al rfl rfl rfl
 ·rfl
 refine Lu hx6 hx7 hx8 ?_
 apply az.cons
 ·rfl
 ·refine⟨?_,trivial⟩
  exact Ch (r:=.sl .dL) rfl al rfl rfl al (aw hx8) al rfl rfl rfl (List.set_set ..).symm
 ·rfl
 exact az.nil _
case ht=>rfl
case hF=>exact zh
show CW _ _ _ _
obtain⟨h9,hh9⟩:∃ h9,h9=h8.set h.length (.aq (kS d (.slice qP d.aa.length cP) (.slice qC d.aj.length cC) (.slice qF d.follows.length cF) (.slice qR d.ah.length cR) (.slice p5 d.boxes.length c5)) 0 true 28):=⟨_,rfl⟩
have hx9:h9[h.length]? = some (.aq (kS d (.slice qP d.aa.length cP) (.slice qC d.aj.length cC) (.slice qF d.follows.length cF) (.slice qR d.ah.length cR) (.slice p5 d.boxes.length c5)) 0 true 28):=hh9▸aw hx8
have hA9:ka (h.length+1) h8 h9:=hh9▸ka.set (Nat.lt_succ_self _)
have hp9:h <+: h9:=hh9▸aZ ((hp6.trans hp7).trans hp8) (Nat.le_refl _)
rw[← hh9]
clear hh9
have hFP9:=hFP6.mono ((ka.pre (hp7.trans hp8)).trans hA9)
have hFC9:=hFC6.mono ((ka.pre (hp7.trans hp8)).trans hA9)
have hFF9:=hFF.mono ((ka.pre hp8).trans hA9)
have hFR9:=hFR.mono hA9
clear hFP6 hFC6 hFF hFR hA9 hx6 hx7 hx8 hcF hcR hGF hGR hp7 hp8
unfold kS at hx9
refine aG hx9 ?_
refine zj Tryz.func88 ?_
refine (Ct (hUBs.mono hp9) hcB).mono ?_
rintro _ h10 ⟨hp10,hGB⟩
obtain⟨qB,cB,rfl⟩:=hGB.form
have hx10:=af hp10 hx9
refine aC ?_
refine bY (cells':=kS d (.slice qP d.aa.length cP) (.slice qC d.aj.length cC) (.slice qF d.follows.length cF) (.slice qR d.ah.length cR) (.slice qB d.boxes.length cB)) al rfl rfl rfl al hx10 al rfl rfl ?_
dsimp only
obtain⟨h11,hh11⟩:∃ h11,h11=h10.set h.length (.aq (kS d (.slice qP d.aa.length cP) (.slice qC d.aj.length cC) (.slice qF d.follows.length cF) (.slice qR d.ah.length cR) (.slice qB d.boxes.length cB)) 0 true 28):=⟨_,rfl⟩
have hx11:h11[h.length]? = some (.aq (kS d (.slice qP d.aa.length cP) (.slice qC d.aj.length cC) (.slice qF d.follows.length cF) (.slice qR d.ah.length cR) (.slice qB d.boxes.length cB)) 0 true 28):=hh11▸aw hx10
have hA11:ka (h.length+1) h10 h11:=hh11▸ka.set (Nat.lt_succ_self _)
have hp11:h <+: h11:=hh11▸aZ (hp9.trans hp10) (Nat.le_refl _)
have hlen9:=dw hx9
have hGB11:aL h9 h11 (.slice qB d.boxes.length cB) d.boxes.length ((d.boxes.zip UB).flatMap fun p=>Jl p.1 p.2) 85:=hGB.mono fun j o hj ho=>by
 have:=(hGB.lt hj).1
 rw[hh11,aD om]
 exact ho
rw[← hh11]
clear hh11
have hA911:ka (h.length+1) h9 h11:=(ka.pre hp10).trans hA11
clear hA11 hx10 hGB hx9
unfold kS at hx11
refine aG hx11 ?_
refine CW.mono (Q:=fun e s'=>e = .exit 6∧∃ hk,h <+: hk∧ka (h.length+1) h9 hk∧hk[h.length]? = some (.aq (kS d (.slice qP d.aa.length cP) (.slice qC d.aj.length cC) (.slice qF d.follows.length cF) (.slice qR d.ah.length cR) (.slice qB d.boxes.length cB)) 0 true 28)∧Fr (fun x=>kH x (.slice qB d.boxes.length cB) d.boxes) (h.length+1) hk∧s'.h=hk∧bD [(1,.val (.pointer (some ⟨h.length,0,some 0⟩))),(2,.box ZD)] s'.fr) ?_ ?_
·by_cases hz:d.boxes.length=0
 ·refine dC d.boxes.length (fun k=>[(1,.val (.pointer (some ⟨h.length,0,some 0⟩))),(2,.box ZD),(78,.val (i64 d.boxes.length)),(79,.val (i64 k))]) (fun _=>h11) (fun _=>True) aM rfl trivial ?_
  intro k hkn _
  have hlt:¬ k<d.boxes.length:=by omega
  have e3:=aT hlt
  refine aG e3 ?_
  refine ae rfl ?_
  refine aB ?_
  refine⟨rfl,h11,hp11,hA911,hx11,fun x e=>⟨UB,hUBn,(hGB11.fr (b:=40) hbB) x (e.low om),fun i y u h1 h2=>?_⟩,rfl,aM⟩
  have:=(List.getElem?_eq_some_iff.1 h1).1
  omega
 obtain⟨id,av,hid,hv,hob⟩:=hGB11.wJ om
 cases hv
 refine aX d.boxes.length (fun k (x:ai×List Value)=>[(1,.val (.pointer (some ⟨h.length,0,some 0⟩))),(2,.box ZD),(78,.val (i64 d.boxes.length)),(79,.val (i64 k))]) (fun _ x=>x.1) (fun k x=>JG Jl (fun h u p=>bh h u p.bl) 85 h x.1 id av d.boxes UB x.2 k∧ka (h.length+1) h9 x.1∧x.1[h.length]? = some (.aq (kS d (.slice qP d.aa.length cP) (.slice qC d.aj.length cC) (.slice qF d.follows.length cF) (.slice qR d.ah.length cR) (.slice (some ⟨id,0,some av⟩) d.boxes.length d.boxes.length)) 0 true 28)) (h11,UB) aM rfl ⟨⟨hp11,hUBn,hob,fun i hi h=>absurd h om,fun i _=>rfl⟩,hA911,hx11⟩ ?_
 rintro k ⟨hk,W⟩ hkn ⟨I,hAk,hx⟩
 simp only at I hAk hx ⊢
 by_cases hlt:k<d.boxes.length
 ·have e1:=cz hlt
  have e2:=inc hlt l5
  have e3:=aU hlt
  have hWk:W[k]? = some (UB[k]'om):=by rw[I.r k (Nat.le_refl _)];simp
  have hg:=ni (f:=Jl) (k:=2) (fun _ _=>rfl) hlt hWk
  have hg3:=dE (j:=1) hg om
  simp only[List.getElem?_cons_succ,List.getElem?_cons_zero] at hg3
  have hu:bh h (UB[k]'om) d.boxes[k].bl:=hUBr k d.boxes[k] (UB[k]'om) (by simp [hlt]) (by simp)
  obtain⟨pu,cu,huf⟩:=ct.form (bh.iff.1 hu)
  rw[huf] at hg3 hu
  have hcl:=Gr hu I.p
  unfold FW at hcl
  obtain⟨r,h5',hcall,hp5',⟨pr,cr,rfl⟩,hF⟩:=hcl
  have ho:=I.o
  have ho5:=af hp5' ho
  have hx5:=af hp5' hx
  have I':=I.step hlt om hp5' hF
  have hA':ka (h.length+1) h9 (h5'.set id (.aq ((d.boxes.zip (W.set k (.slice pr d.boxes[k].bl.length cr))).flatMap fun p=>Jl p.1 p.2) av true 85)):=fun j o hj ho=>by
   have:=dw ho
   rw[aD om]
   exact af hp5' (hAk j o hj ho)
  have hx6:(h5'.set id (.aq ((d.boxes.zip (W.set k (.slice pr d.boxes[k].bl.length cr))).flatMap fun p=>Jl p.1 p.2) av true 85))[h.length]? = some (.aq (kS d (.slice qP d.aa.length cP) (.slice qC d.aj.length cC) (.slice qF d.follows.length cF) (.slice qR d.ah.length cR) (.slice (some ⟨id,0,some av⟩) d.boxes.length d.boxes.length)) 0 true 28):=by rw[aD om];exact hx5
  unfold kS at hx hx5
  refine aG e3 ?_
  refine ag rfl ?_
  refine aC ?_
  refine aA [(1,.val (.pointer (some ⟨h.length,0,some 0⟩))),(2,.box ZD),(8,.val (i64 k)),(78,.val (i64 d.boxes.length)),(79,.val (i64 k))] aM ?_
  show CW _ _ ⟨_,[],hk⟩ _
  apply bm (L:=[[],[0],[],[],[3],[],[4,5],[6],[7],[8],[1,2],[10],[0,1,2,3,4,5,6,7,8,9,11]]) (act:=[9,12]) (hs:=[h5',h5'.set id (.aq ((d.boxes.zip (W.set k (.slice pr d.boxes[k].bl.length cr))).flatMap fun p=>Jl p.1 p.2) av true 85)]) (resL:=[_,_,_,_,_,_,_,_,_,_,_,_,_]) (frF:=[(1,.val (.pointer (some ⟨h.length,0,some 0⟩))),(2,.box ZD),(78,.val (i64 d.boxes.length)),(79,.val (i64 k))])
  case hm=>exact mixed
  case hc=>kernel_rfl
  case ha=>rfl
  case hb=>rfl
  case hS=>
   refine NG hx hx5 e1 ho hg3 ?_
   apply az.cons
   ·rfl
   ·refine⟨?_,trivial⟩
    exact dF (args:=[.slice pu d.boxes[k].bl.length cu]) (cap:=[]) (fn:=Tryz.f89) al rfl al al Tryz.func89 kr kr hcall
   ·rfl
   refine NG hx hx5 e1 ho hg3 ?_
   apply az.cons
   ·rfl
   ·refine⟨?_,trivial⟩
    exact One.jE (r:=.sl .dL) al rfl al al ho5 al rfl (oq (f:=Jl) (k:=2) (o:=1) (fun _ _=>rfl) (by decide) (fun _ _ _=>rfl) I.n hlt) rfl
   ·rfl
   exact az.nil _
  case ht=>rfl
  case hF=>exact zh
  show CW _ _ _ _
  refine aG e2 ?_
  exact⟨hlt,(_,_),aM,rfl,I',hA',hx6⟩
 ·have e3:=aT hlt
  obtain rfl:k=d.boxes.length:=by omega
  refine aG e3 ?_
  refine ae rfl ?_
  refine aB ?_
  exact⟨rfl,hk,I.p,hAk,hx,(I.fin (c:=d.boxes.length) hbB).low om,rfl,aM⟩
rintro e s' ⟨rfl,hk,hpk,hAk,hxk,hFB,hh,hf⟩
show CW _ _ _ _
refine aA _ hf ?_
rw[hh]
clear hf hh s'
unfold kS at hxk
refine aG hxk ?_
refine ak ?_
refine⟨_,al,hpk,.slice qP d.aa.length cP,.slice qC d.aj.length cC,.slice qF d.follows.length cF,.slice qR d.ah.length cR,.slice qB d.boxes.length cB,?_,?_⟩
·rfl
·refine Fr.low (m:=h.length+1) (fun x e=>⟨(hFP9.mono hAk) x e,(hFC9.mono hAk) x e,(hFF9.mono hAk) x e,(hFR9.mono hAk) x e,hFB x e⟩) om}
end
abbrev be.val (s:be):Value:=.agg #[i64 s.nt,u64 s.set.a,u64 s.set.b,u64 s.set.c,u64 s.set.d]
section
variable {h:ai}
theorem ui {s:Sym}:FW env 92 [s.val] h fun r h'=>r = .bool (gV s)∧h'=h:=by{
refine fe Tryz.func92 ?_;simp only[push_cast]
by_cases q:s.kind=5
·have d1:=decide_eq_true q
 refine aG d1 ?_
 refine ak ?_
 exact⟨_,al,by unfold gV;rw[d1];rfl,rfl⟩
·have d1:=decide_eq_false q
 refine aG d1 ?_
 refine ak ?_
 exact⟨_,al,by unfold gV;rw[d1];rfl,rfl⟩}
theorem xN {p:Prod} {u:Value} {s:Sym} (hy:fB h u p.an):FW env 93 [p.val u,s.val] h fun r h'=>r=(iF p.lex s).val∧h'=h:=by{
obtain⟨ps,cs,rfl⟩:=bT.form hy
refine fe Tryz.func93 ?_;simp only[push_cast]
refine aC ?_
refine ak ?_
exact⟨_,al,rfl,rfl⟩}
theorem ml {n:Int}:FW env 99 [i64 n] h fun r h'=>r=(dY n).val∧h'=h:=by{
refine fe Tryz.func99 ?_;simp only[push_cast]
refine aC ?_
refine ak ?_
exact⟨_,al,rfl,rfl⟩}
theorem Eu {p:Prod} {u:Value} (hy:fB h u p.an) (ho:gQ p.an≤4):FW env 95 [p.val u] h fun r h'=>r=i64 (jU p:Int)∧h'=h:=by{
obtain⟨ps,cs,rfl⟩:=bT.form hy
have hle:p.an.length*88≤140737488355328:=hy.1
have hl:p.an.length≤140737488355328:=by omega
have z0:(2:Int) ^ gQ []=1:=rfl
refine fe Tryz.func95 ?_;simp only[push_cast]
refine aC ?_
refine dC p.an.length (fun k=>[(3,.val (i64 ((2:Int) ^ gQ (p.an.take k)))),(7,.val (.slice ps p.an.length cs)),(8,.val (i64 p.an.length)),(9,.val (i64 k))]) (fun _=>h) (fun _=>True) (mi z0) rfl trivial ?_
intro k hkn _
by_cases hlt:k<p.an.length
·obtain⟨id,av,own,c',hv,hid⟩:=bT.at hy om
 cases hv
 have hg:=g7 hlt
 have e1:=cz hlt
 have e2:=inc hlt hl
 have e3:=aU hlt
 have s2:gQ (p.an.take (k+1))=gQ (p.an.take k)+(if fm p.an[k]=true then 1 else 0):=ii hlt
 have b2:gQ (p.an.take (k+1))≤gQ p.an:=ju
 refine aG e3 ?_
 refine ag rfl ?_
 have tl:fm p.an[k]=(decide (p.an[k].kind=4)||decide (p.an[k].kind=5)):=rfl
 cases hL:fm p.an[k] with
 | true=>
   rw[if_pos hL] at s2
   have w0:IntKind.i64.wrap ((2:Int) ^ gQ (p.an.take k)*2)=(2:Int) ^ gQ (p.an.take (k+1)):=by
    rw[s2,Int.pow_succ]
    generalize ho2:gQ (p.an.take k)=o at *
    have:o=0∨o=1∨o=2∨o=3:=by omega
    rcases this with rfl|rfl|rfl|rfl<;>decide
   by_cases q1:p.an[k].kind=4
   ·have d1:=decide_eq_true q1
    refine fN e1 hid hg d1 ?_
    refine ag rfl ?_
    refine fz w0 e2 ?_
    exact⟨hlt,aM,rfl,trivial⟩
   ·have d1:=decide_eq_false q1
    have d2:decide (p.an[k].kind=5)=true:=by rw[hL,d1,Bool.false_or] at tl;exact tl.symm
    refine mE e1 hid hg d1 d2 ?_
    refine ag rfl ?_
    refine fz w0 e2 ?_
    exact⟨hlt,aM,rfl,trivial⟩
 | false=>
   rw[if_neg (by rw[hL];decide),Nat.add_zero] at s2
   rw[hL] at tl
   have d1:decide (p.an[k].kind=4)=false:=by cases e:decide (p.an[k].kind=4)<;>simp [e] at tl ⊢
   have d2:decide (p.an[k].kind=5)=false:=by rw[d1,Bool.false_or] at tl;exact tl.symm
   refine mE e1 hid hg d1 d2 ?_
   refine ae rfl ?_
   refine aG e2 ?_
   exact⟨hlt,(mi s2),rfl,trivial⟩
·have e3:=aT hlt
 obtain rfl:k=p.an.length:=by omega
 refine aG e3 ?_
 refine ae rfl ?_
 refine aB ?_
 show CW _ _ _ _
 refine aC ?_
 refine ak ?_
 refine⟨_,al,?_,rfl⟩
 rw[List.take_length]
 unfold jU
 rw[Int.natCast_pow]
 rfl}
theorem OT {v:Value} {x:Nat} (hs:bT h v 1 [.int .u8 (x:Int)] 5 1) (hx:x<256):FW env 142 [v] h fun r h'=>r=(kX x).val∧h'=h:=by{
obtain⟨id,av,own,c,rfl,hid⟩:=hs.at (by decide)
refine fe Tryz.func142 ?_;simp only[push_cast]
obtain⟨n,hn⟩:∃ n:Nat,n=1:=⟨1,rfl⟩
refine aC ?_
refine dC n (fun k=>[(2,.box [u64 0,u64 0,u64 0,u64 0]),(3,.box (if k=0 then [u64 0,u64 0,u64 0,u64 0] else [u64 (kX x).a,u64 (kX x).b,u64 (kX x).c,u64 (kX x).d])),(6,.val (.slice (some ⟨id,0,some av⟩) n c)),(7,.val (i64 n)),(8,.val (i64 k))]) (fun _=>h) (fun _=>True) (by rw[hn];exact (by simp only[push_cast,Nat.reduceEqDiff,reduceIte,Int.reduceAdd])) rfl trivial ?_
intro k hkn _
by_cases hlt:k<n
·obtain rfl:k=0:=by omega
 have e1:((0:Int)≤0∧(0:Int)<(n:Int))=True:=eq_true om
 have e1':((0:Int)<(n:Int))=True:=eq_true om
 have e3:decide ((0:Int)<(n:Int))=true:=decide_eq_true om
 refine aG e3 ?_
 refine ag rfl ?_
 repeat (first|apply zs|apply zr|apply zn|((first|apply zx|apply zy);·simp only[push_cast,env,Nat.reduceEqDiff,reduceIte,Nat.reduceAdd,Nat.reduceMul,Nat.reduceLeDiff,reduceCtorEq,Nat.reduceSub,Int.reduceToNat,e1,e1',hid,Nat.mul_one,List.getElem?_cons_zero]<;>first|exact rfl|exact .inl rfl|exact .inr rfl) | apply zq|apply zb|apply zo|apply zk|apply zl)
 obtain⟨m,hm⟩:∃ m,m=x % 64:=⟨_,rfl⟩
 have hm64:m<64:=by omega
 have hmod:(x:Int).tmod 64=(m:Int):=by rw[Int.tmod_eq_emod_of_nonneg om];omega
 have hw4:∀ m:Fin 64,IntKind.u64.wrap ((BitVec.ofInt IntKind.u64.bits 0 ||| BitVec.ofInt IntKind.u64.bits (IntKind.u64.wrap (1*2 ^ min (m.1:Int).toNat IntKind.u64.bits))).toNat:Int)=(2:Int) ^ m.1:=by decide
 have hw4:=hw4 ⟨m,hm64⟩
 simp only[Int.toNat_natCast] at hw4
 have hw5:IntKind.i64.wrap 1=1:=by decide
 rcases (by omega:x / 64=0∨x / 64=1∨x / 64=2∨x / 64=3) with hq|hq|hq|hq
 ·have hw1:IntKind.u8.wrap ((x:Int).tdiv 64)=0:=by rw[Int.tdiv_eq_ediv_of_nonneg om,IntKind.wrap_u8];omega
  have hb:kX x=⟨2 ^ m,0,0,0⟩:=by unfold kX;rw[hq,hm];simp
  refine aG hw1 ?_
  refine⟨hlt,?_,rfl,trivial⟩
  show bD [_,(3,.box (if 0+1=0 then _ else _)),_,_,_] _
  rw[if_neg (by decide),hb]
  exact (by simp only[push_cast,Nat.reduceEqDiff,reduceIte,hmod,hw4,hw5,Int.reduceAdd])
 ·have hw1:IntKind.u8.wrap ((x:Int).tdiv 64)=1:=by rw[Int.tdiv_eq_ediv_of_nonneg om,IntKind.wrap_u8];omega
  have hb:kX x=⟨0,2 ^ m,0,0⟩:=by unfold kX;rw[hq,hm];simp
  refine aG hw1 ?_
  refine⟨hlt,?_,rfl,trivial⟩
  show bD [_,(3,.box (if 0+1=0 then _ else _)),_,_,_] _
  rw[if_neg (by decide),hb]
  exact (by simp only[push_cast,Nat.reduceEqDiff,reduceIte,hmod,hw4,hw5,Int.reduceAdd])
 ·have hw1:IntKind.u8.wrap ((x:Int).tdiv 64)=2:=by rw[Int.tdiv_eq_ediv_of_nonneg om,IntKind.wrap_u8];omega
  have hb:kX x=⟨0,0,2 ^ m,0⟩:=by unfold kX;rw[hq,hm];simp
  refine aG hw1 ?_
  refine⟨hlt,?_,rfl,trivial⟩
  show bD [_,(3,.box (if 0+1=0 then _ else _)),_,_,_] _
  rw[if_neg (by decide),hb]
  exact (by simp only[push_cast,Nat.reduceEqDiff,reduceIte,hmod,hw4,hw5,Int.reduceAdd])
 ·have hw1:IntKind.u8.wrap ((x:Int).tdiv 64)=3:=by rw[Int.tdiv_eq_ediv_of_nonneg om,IntKind.wrap_u8];omega
  have hb:kX x=⟨0,0,0,2 ^ m⟩:=by unfold kX;rw[hq,hm];simp
  refine aG hw1 ?_
  refine⟨hlt,?_,rfl,trivial⟩
  show bD [_,(3,.box (if 0+1=0 then _ else _)),_,_,_] _
  rw[if_neg (by decide),hb]
  exact (by simp only[push_cast,Nat.reduceEqDiff,reduceIte,hmod,hw4,hw5,Int.reduceAdd])
·have e3:=aT hlt
 obtain rfl:k=n:=by omega
 have k0:(k=0)=False:=by simp;omega
 refine aG e3 ?_
 refine ae rfl ?_
 refine aB ?_
 show CW _ _ _ _
 rw[if_neg om]
 refine aC ?_
 refine ak ?_
 exact⟨_,al,rfl,rfl⟩}
def tK (t:ByteArray) (k:Nat):List be:=(List.range k).map fun i=>⟨-1,kX (bn t i)⟩
theorem CN {t:ByteArray} {k:Nat}:tK t (k+1)=tK t k++[⟨-1,kX (bn t k)⟩]:=by{
unfold tK
rw[List.range_succ,List.map_append]
rfl}
theorem yo {t:ByteArray} {k:Nat}:(tK t k).length=k:=by simp [tK]
theorem kB {l:List be}:(l.flatMap be.cells).length=l.length*5:=bU (f:=be.cells) (k:=5) (fun _=>rfl) l
theorem Gv {t:ByteArray} (ht:t.size≤1000000):FW env 101 [.string t] h fun r h'=>h <+: h'∧aL h h' r (k9 t).length ((k9 t).flatMap be.cells) 65:=by{
have z0:tK t 0=[]:=rfl
refine fe Tryz.func101 ?_;simp only[push_cast]
refine aC ?_
refine aX t.size (fun k (x:ai×Option Addr×Nat)=>[(0,.val (.string t)),(3,.val (.slice x.2.1 k x.2.2)),(6,.val (i64 t.size)),(7,.val (i64 k))]) (fun _ x=>x.1)
 (fun k x=>h <+: x.1∧aL h x.1 (.slice x.2.1 k x.2.2) k ((tK t k).flatMap be.cells) 65) (h,none,0) aM rfl ⟨List.prefix_refl _,aL.nil⟩ ?_
rintro k ⟨hk,q,cq⟩ hkn ⟨hp,hG⟩
simp only at hp hG ⊢
by_cases hlt:k<t.size
·have e1:=cz hlt
 have e2:=inc hlt om
 have e3:=aU hlt
 obtain⟨c,hc,hcn⟩:=wV hlt
 have hcl:bn t k<256:=hcn▸c.toNat_lt
 refine aG e3 ?_
 refine ag rfl ?_
 refine zu ?_
 iterate 2 (refine zx oA ?_)
 refine zu ?_
 iterate 4 (refine zx (Pn e1 hc hcn) ?_)
 refine cV (t:=5) (cs:=[.int .u8 (bn t k:Int)]) (n:=1) al al ?_
 dsimp only[St.a9,St.put]
 have hp2:hk <+: hk++[ax.aq [.int .u8 (bn t k:Int)] 0 true 5]:=aJ
 have hb2:bT (hk++[ax.aq [.int .u8 (bn t k:Int)] 0 true 5]) (.slice (some ⟨hk.length,0,some 0⟩) 1 1) 1 [.int .u8 (bn t k:Int)] 5 1:=⟨by decide,.inr ⟨hk.length,0,true,1,rfl,aK⟩⟩
 have hG2:aL h (hk++[ax.aq [.int .u8 (bn t k:Int)] 0 true 5]) (.slice q k cq) k ((tK t k).flatMap be.cells) 65:=hG.mono fun j o _ ho=>bA ho
 generalize (hk++[ax.aq [.int .u8 (bn t k:Int)] 0 true 5])=h2 at hp2 hb2 hG2 ⊢
 generalize hk.length=i2 at hb2 ⊢
 refine aC ?_
 refine zj Tryz.func142 ?_
 refine (OT hb2 hcl).mono ?_
 rintro _ h3 ⟨rfl,e7⟩
 obtain rfl:=e7.symm
 refine aC ?_
 refine lU (t:=61) (cs:=be.cells ⟨-1,kX (bn t k)⟩) al rfl kr xX (by decide) rfl al rfl hG2 (hp.trans hp2) (by rw[kB,yo]) rfl (by simp only;omega) om ?_
 intro p' c' h' k1 k2 _ _
 refine aG e2 ?_
 refine⟨hlt,(h',p',c'),aM,rfl,k2,?_⟩
 rw[CN,List.flatMap_append,List.flatMap_singleton]
 exact k1
·have e3:=aT hlt
 obtain rfl:k=t.size:=by omega
 refine aG e3 ?_
 refine ae rfl ?_
 refine aB ?_
 show CW _ _ _ _
 refine aC ?_
 refine ak ?_
 refine⟨_,al,hp,?_⟩
 show aL _ _ _ (tK t t.size).length ((tK t t.size).flatMap be.cells) _
 rw[yo]
 exact hG}
end
def s6 (ts:List TypeId):ax→Bool
 | .aq _ _ true et=>!(ts.any fun t=>decide (t=et))
 | _=>true
def bt (ts:List TypeId) (a b:ai):Prop:=∀ (j:Nat) (o:ax),a[j]? = some o→s6 ts o=true→b[j]? = some o
section
variable {ts ts':List TypeId} {a b c h0 hk h':ai}
theorem bt.refl:bt ts a a:=fun _ _ k _=>k
theorem bt.trans (k1:bt ts a b) (k2:bt ts b c):bt ts a c:=fun j o e q=>k2 j o (k1 j o e q) q
theorem bt.pre (k:a <+: b):bt ts a b:=fun j o e _=>af k e
theorem bt.low (k:bt ts a b) (h:∀ t∈ts,t∈ts'):bt ts' a b:=fun j o e q=>k j o e (by
 cases o with
 | aq cells av own et=>
   cases own with
   | false=>rfl
   | true=>
     simp only[s6,Bool.not_eq_true',List.any_eq_false,decide_eq_true_eq] at q ⊢
     exact fun t ht=>q t (h t ht)
 | _=>rfl)
theorem cH {cells:List Value} {av:Nat} {own:Bool} {et:TypeId} (h:et∉ts):s6 ts (.aq cells av own et)=true:=by{
cases own with
| false=>rfl
| true=>
  simp only[s6,Bool.not_eq_true',List.any_eq_false,decide_eq_true_eq]
  exact fun t ht e=>h (e▸ht)}
theorem aL.dH {v:Value} {n:Nat} {cells:List Value} {et:TypeId} (G:aL h0 a v n cells et) (k:bt ts a b) (h:et∉ts):aL h0 b v n cells et:=by{
rcases G with G|⟨id,av,h1,h2,h3⟩
·exact .inl G
·exact .inr ⟨id,av,h1,h2,k _ _ h3 (cH h)⟩}
theorem bt.push {v:Value} {n:Nat} {cells:List Value} {et:TypeId} (G:aL h0 a v n cells et) (k:∀ j o,bX v j=false→a[j]? = some o→b[j]? = some o):bt [et] a b:=fun j o e q=>k j o (by
 cases hb:bX v j with
 | false=>rfl
 | true=>
   obtain⟨av,h5⟩:=G.obj hb
   rw[e] at h5
   cases h5
   simp [s6] at q) e
theorem bt.set {i av:Nat} {cells:List Value} {et:TypeId} {x:ax} (h:a[i]? = some (.aq cells av true et)):bt [et] a (a.set i x):=fun j o e q=>by
 by_cases hij:i=j
 ·subst hij
  rw[h] at e
  cases e
  simp [s6] at q
 ·rw[aD hij];exact e
def dA {α:Type} (f:α→Value→List Value) (g:α→List Value) (w:Nat) (et et2:TypeId) (h0 hk:ai) (v:Value) (l:List α):Prop:=
 ∃ us:List Value,us.length=l.length∧aL h0 hk v l.length ((l.zip us).flatMap fun p=>f p.1 p.2) et∧∀ (i:Nat) (x:α) (u:Value),l[i]? = some x→us[i]? = some u→∃ n,(g x).length=n*w∧aL h0 hk u n (g x) et2
variable {α:Type} {f:α→Value→List Value} {g:α→List Value} {w:Nat} {et et2:TypeId} {v:Value} {l:List α}
theorem dA.nil:dA f g w et et2 h0 hk aH []:=⟨[],rfl,aL.nil,fun i x u h=>by simp at h⟩
theorem dA.form (k:dA f g w et et2 h0 hk v l):∃ p c,v = .slice p l.length c:=by obtain⟨_,_,G,_⟩:=k;exact G.form
theorem dA.dH (k:dA f g w et et2 h0 a v l) (hk:bt ts a b) (h1:et∉ts) (h2:et2∉ts):dA f g w et et2 h0 b v l:=by{
obtain⟨us,hl,G,hu⟩:=k
refine⟨us,hl,G.dH hk h1,fun i x u k1 k2=>?_⟩
obtain⟨n,e,g'⟩:=hu i x u k1 k2
exact⟨n,e,g'.dH hk h2⟩}
end
abbrev UO:dG→Value→List Value:=fun r u=>[i64 r.lhs,u]
abbrev UR:dG→List Value:=fun r=>r.rhs.flatMap be.cells
abbrev UQ:gN→Value→List Value:=fun o u=>[i64 o.kind,i64 o.prod,i64 o.mask,u]
abbrev Sg:gN→List Value:=fun o=>o.an.map i64
def sw:=dA UO UR 5 63 65
def zR:=dA UQ Sg 1 67 3
structure MK where
 start:ByteArray
 layout:ByteArray
 vP:Value
 vC:Value
 NM:Value
 NJ:Value
 vB:Value
 fx:Int
 st:Int
 vr:Value
 vf:Value
 vn:Value
 vb:Value
 vF:Value
 vR:Value
 is:Nat
 il:Nat
 vo:Value
 mh:Int
def MK.cells (m:MK):List Value:=[.string m.start,.string m.layout,m.vP,m.vC,m.NM,m.NJ,m.vB,i64 m.fx,i64 m.st,m.vr,m.vf,m.vn,m.vb,m.vF,m.vR,.map (some m.is),.map (some m.il),m.vo,i64 m.mh]
structure MR (h0 hk:ai) (im:Nat) (m:MK) (l:List (dG×gN)):Prop where
 p:h0 <+: hk
 lm:h0.length≤im
 o:hk[im]? = some (.aq m.cells 0 true 94)
 r:sw h0 hk m.vr (l.map (·.1))
 f:zR h0 hk m.vf (l.map (·.2))
abbrev Ji:List TypeId:=[63,67,94]
section
variable {h0 hk:ai} {im:Nat} {m:MK} {l:List (dG×gN)}
theorem CQ {α β:Type} {l:List α} {W:List β} (h:W.length=l.length) {x:α} {u:β}:(l++[x]).zip (W++[u])=l.zip W++[(x,u)]:=by
 rw[List.zip_append h.symm]
 rfl
theorem dA.push {α:Type} {f:α→Value→List Value} {g:α→List Value} {w:Nat} {et et2:TypeId} {h0 a b:ai} {v' u:Value} {l:List α} {x:α} {us:List Value} {n:Nat} (hl:us.length=l.length) (hu:∀ (i:Nat) (x:α) (u:Value),l[i]? = some x→us[i]? = some u→∃ n,(g x).length=n*w∧aL h0 a u n (g x) et2) (hk:bt [et] a b) (hne:et2≠et) (hG:aL h0 b v' (l.length+1) (((l.zip us).flatMap fun p=>f p.1 p.2)++f x u) et) (hn:(g x).length=n*w) (hx:aL h0 a u n (g x) et2):dA f g w et et2 h0 b v' (l++[x]):=by{
have hnm:et2∉[et]:=by simpa using hne
refine⟨us++[u],by simp [hl],?_,fun i y z k1 k2=>?_⟩
·rw[CQ hl,List.flatMap_append,List.flatMap_singleton,List.length_append]
 exact hG
·rcases Nat.lt_trichotomy i l.length with h|h|h
 ·rw[List.getElem?_append_left h] at k1
  rw[List.getElem?_append_left om] at k2
  obtain⟨n',e,g'⟩:=hu i y z k1 k2
  exact⟨n',e,g'.dH hk hnm⟩
 ·subst h
  rw[List.getElem?_append_right (Nat.le_refl _),Nat.sub_self] at k1
  rw[List.getElem?_append_right om,hl,Nat.sub_self] at k2
  cases k1
  cases k2
  exact⟨n,hn,hx.dH hk hnm⟩
 ·have:=(List.getElem?_eq_some_iff.1 k1).1
  simp at this
  omega}
end
section
variable {h0 hk:ai} {im:Nat} {m:MK} {l:List (dG×gN)}
theorem uE {α:Type} {f:α→Value→List Value} {k:Nat} (hf:∀ x u,(f x u).length=k) {l:List α} {us:List Value} (h:us.length=l.length):((l.zip us).flatMap fun p=>f p.1 p.2).length=l.length*k:=by
 rw[bU (f:=fun p:α×Value=>f p.1 p.2) (k:=k) (fun _=>hf _ _),List.length_zip,h,Nat.min_self]
theorem kJ (M:MR h0 hk im m l) {lhs kd pr mk:Int} {ur uo:Value} {rhs:List be} {os:List Int} (hr:aL h0 hk ur rhs.length (rhs.flatMap be.cells) 65) (ho:aL h0 hk uo os.length (os.map i64) 3) (hl:l.length≤1000000) : FW env 98 [.pointer (some ⟨im,0,some 0⟩),i64 lhs,ur,.agg #[i64 kd,i64 pr,i64 mk,uo]] hk fun r h'=>r = .tuple #[]∧∃ vr' vf',MR h0 h' im { m with vr:=vr',vf:=vf' } (l++[(⟨lhs,rhs⟩,⟨kd,pr,mk,os⟩)])∧bt Ji hk h':=by{
have hob:=M.o
obtain⟨us1,hn1,hG1,hu1⟩:=M.r
obtain⟨us2,hn2,hG2,hu2⟩:=M.f
have ll1:(l.map (·.1)).length=l.length:=List.length_map ..
have ll2:(l.map (·.2)).length=l.length:=List.length_map ..
have hc1:=uE (f:=UO) (k:=2) (fun _ _=>rfl) hn1
have hc2:=uE (f:=UQ) (k:=4) (fun _ _=>rfl) hn2
obtain⟨pu,cu,rfl⟩:=hr.form
obtain⟨po,co,rfl⟩:=ho.form
unfold MK.cells at hob
refine fe Tryz.func98 ?_;simp only[push_cast]
refine aG hob ?_
refine lB (t:=32) (cs:=[i64 lhs,.slice pu rhs.length cu]) al rfl kr Ri (by decide) rfl al rfl hG1 M.p hc1 rfl (by simp only;omega) om ?_
intro p1 c1 h2 k1 k2 k3 _
have kp1:bt [63] hk h2:=bt.push hG1 k3
have hob2:=kp1 _ _ hob (cH (by decide))
refine aG hob2 ?_
refine bY (v:=.slice p1 ((l.map (·.1)).length+1) c1) (vs:=[.slice p1 ((l.map (·.1)).length+1) c1]) (cells':=MK.cells { m with vr:=.slice p1 ((l.map (·.1)).length+1) c1 }) al rfl rfl rfl al hob2 al rfl rfl ?_
dsimp only
have kp2:bt [94] h2 (h2.set im (.aq (MK.cells { m with vr:=.slice p1 ((l.map (·.1)).length+1) c1 }) 0 true 94)):=bt.set hob2
have hob3:(h2.set im (.aq (MK.cells { m with vr:=.slice p1 ((l.map (·.1)).length+1) c1 }) 0 true 94))[im]? = some (.aq (MK.cells { m with vr:=.slice p1 ((l.map (·.1)).length+1) c1 }) 0 true 94):=aw hob2
have hp3:h0 <+: h2.set im (.aq (MK.cells { m with vr:=.slice p1 ((l.map (·.1)).length+1) c1 }) 0 true 94):=aZ k2 M.lm
generalize (h2.set im (.aq (MK.cells { m with vr:=.slice p1 ((l.map (·.1)).length+1) c1 }) 0 true 94))=h3 at kp2 hob3 hp3 ⊢
have R1:sw h0 h2 (.slice p1 ((l.map (·.1)).length+1) c1) (l.map (·.1)++[⟨lhs,rhs⟩]):=dA.push (x:=(⟨lhs,rhs⟩:dG)) hn1 hu1 kp1 (by decide) k1 kB hr
have R3:=R1.dH kp2 (by decide) (by decide)
have kp13:bt [63,94] hk h3:=(kp1.low (by simp)).trans (kp2.low (by simp))
have hG23:=hG2.dH kp13 (by decide)
have ho3:=ho.dH kp13 (by decide)
have hu23:∀ (i:Nat) (x:gN) (u:Value),(l.map (·.2))[i]? = some x→us2[i]? = some u→∃ n,(Sg x).length=n*1∧aL h0 h3 u n (Sg x) 3:=fun i x u a b=>by
 obtain⟨n,e,g⟩:=hu2 i x u a b
 exact⟨n,e,g.dH kp13 (by decide)⟩
obtain⟨p2,c2,h4,hone,k4,k5,k6,_,_⟩:=iq (cs:=[i64 kd,i64 pr,i64 mk,.slice po os.length co]) (t:=35) kr PF (by decide) rfl hG23 hp3 hc2 rfl (by simp only;omega) om
have kp4:bt [67] h3 h4:=bt.push hG23 k6
have hob4:=kp4 _ _ hob3 (cH (by decide))
obtain⟨vr1,hvr1⟩:∃ v,v=Value.slice p1 ((l.map (·.1)).length+1) c1:=⟨_,rfl⟩
rw[← hvr1] at hob3 hob4 R3
unfold MK.cells at hob3 hob4
simp only at hob3 hob4
refine aC ?_
refine aA [(0,.val (.pointer (some ⟨im,0,some 0⟩))),(7,.box [i64 kd,i64 pr,i64 mk,.slice po os.length co])] aM ?_
show CW _ _ ⟨_,[],h3⟩ _
apply bm (L:=[[],[],[1],[2],[3],[4],[],[6],[5,7],[0],[9],[10],[0,1,2,3,4,5,6,7,8,11]]) (act:=[8,12]) (hs:=[h4,h4.set im (.aq (MK.cells { m with vr:=vr1,vf:=.slice p2 ((l.map (·.2)).length+1) c2 }) 0 true 94)]) (resL:=[_,_,_,_,_,_,_,_,_,_,_,_,_]) (frF:=[(0,.val (.pointer (some ⟨im,0,some 0⟩)))])
case hm=>exact mixed
case hc=>kernel_rfl
case ha=>rfl
case hb=>rfl
case hS=>
 refine HZ hob3 hob4 ?_
 apply az.cons
 ·rfl
 ·refine⟨?_,trivial⟩
  exact hone _ _ _ _ _ rfl al rfl al al
 ·rfl
 refine HZ hob3 hob4 ?_
 apply az.cons
 ·rfl
 ·refine⟨?_,trivial⟩
  exact One.jE (r:=.sl .dL) (cells':=MK.cells { m with vr:=vr1,vf:=.slice p2 ((l.map (·.2)).length+1) c2 }) al rfl al al hob4 al rfl rfl rfl
 ·rfl
 exact az.nil _
case ht=>rfl
case hF=>exact zh
have kp5:bt [94] h4 (h4.set im (.aq (MK.cells { m with vr:=vr1,vf:=.slice p2 ((l.map (·.2)).length+1) c2 }) 0 true 94)):=bt.set hob4
have F1:zR h0 h4 (.slice p2 ((l.map (·.2)).length+1) c2) (l.map (·.2)++[⟨kd,pr,mk,os⟩]):=dA.push (x:=(⟨kd,pr,mk,os⟩:gN)) hn2 hu23 kp4 (by decide) k4 (by simp) ho3
have hfin:bt Ji hk (h4.set im (.aq (MK.cells { m with vr:=vr1,vf:=.slice p2 ((l.map (·.2)).length+1) c2 }) 0 true 94)):=((kp13.low (by simp)).trans (kp4.low (by simp))).trans (kp5.low (by simp))
refine⟨_,al,rfl,vr1,.slice p2 ((l.map (·.2)).length+1) c2,⟨aZ k5 M.lm,M.lm,aw hob4,?_,?_⟩,hfin⟩
·rw[List.map_append]
 exact (R3.dH kp4 (by decide) (by decide)).dH kp5 (by decide) (by decide)
·rw[List.map_append]
 exact F1.dH kp5 (by decide) (by decide)}
end
def kE (l:List (bM×Int)):List (Value×Value):=l.map fun p=>(p.1.val,i64 p.2)
def pV:List (bM×Int)→bM→Option Int
 | [],_=>none
 | (k,v) :: r,x=>if x=k then some v else pV r x
theorem AN (x y:bM):qA x.val y.val=decide (x=y):=by{
cases x with|mk a b c d=>cases y with|mk a' b' c' d'=>
cases c with|mk c1 c2 c3 c4=>cases c' with|mk e1 e2 e3 e4=>
simp only[qA,jy,mZ,Bool.and_true,bM.mk.injEq,a8.mk.injEq,Bool.decide_and,Bool.and_assoc]}
theorem EU (x:bM):∀ l,gK (kE l) x.val=(pV l x).map i64
 | []=>rfl
 | (k,v) :: r=>by
   have ih:=EU x r
   unfold kE at ih ⊢
   simp only[List.map_cons,gK,pV,AN,decide_eq_true_eq]
   split
   ·rfl
   ·exact ih
theorem Fo (x:bM) (v:Int):∀ l,pV l x=none→iT (kE l) x.val (i64 v)=kE (l++[(x,v)])
 | [],_=>rfl
 | (k,u) :: r,h=>by
   unfold pV at h
   have hne:¬ x=k:=fun e=>by rw[if_pos e] at h;cases h
   rw[if_neg hne] at h
   have ih:=Fo x v r h
   unfold kE at ih ⊢
   simp only[List.map_cons,iT,AN,decide_eq_true_eq,List.cons_append]
   rw[if_neg hne,ih]
theorem re (l:List (bM×Int)):eB (xm kQ) (kE l)=true:=by{
unfold eB kE
rw[List.all_map,List.all_eq_true]
intro x _
rfl}
@[push_cast] theorem PO:jx 154=some (xm kQ):=rfl
@[push_cast] theorem vy (k:bM):xm kQ k.val=true:=rfl
attribute [push_cast] re
theorem o0 {all:Array Oper} {o:Oper} {s:St} {h:ai} {n:Nat} {t:TypeId} {cs:List Value} (hh:s.h=h) (hw:aE all o s=some true) (hb:jr env s o.op=some (t,cs,n)):One env all o s (.sl (.val (.slice (some ⟨h.length,0,some 0⟩) n n))) (h++[ax.aq cs 0 true t]):=hh▸.Gq hw hb
structure MS (hk:ai) (m:MK) (d:bS) (es:List (ByteArray×Int)) (ks:List (bM×Int)):Prop where
 sm:hk[m.is]? = some (.map (fK es))
 sg:∀ x∈aF d.aa,gK (fK es) (.string x)=some (i64 (gJ d x:Int))
 lm:hk[m.il]? = some (.map (kE ks))
 lg:∀ k∈br d.aa,gK (kE ks) k.val=some (i64 (mY d k:Int))
 gp:m.mh=bQ d
theorem MS.dH {a b:ai} {m:MK} {d:bS} {es:List (ByteArray×Int)} {ks:List (bM×Int)} {ts:List TypeId} (M:MS a m d es ks) (k:bt ts a b):MS b m d es ks:=⟨k _ _ M.sm rfl,M.sg,k _ _ M.lm rfl,M.lg,M.gp⟩
section
variable {h0 hk:ai} {im:Nat} {m:MK} {d:bS} {es:List (ByteArray×Int)} {ks:List (bM×Int)}
theorem xJ {name:ByteArray} {set:a8} (ho:hk[im]? = some (.aq m.cells 0 true 94)) (M:MS hk m d es ks) (hn:cY name=true∨name∈aF d.aa) : FW env 97 [.pointer (some ⟨im,0,some 0⟩),.string name,set.val] hk fun r h'=>r=(mo d name set).val∧h'=hk:=by{
unfold MK.cells at ho
have hsm:=M.sm
have hkk:=bz es
refine fe Tryz.func97 ?_;simp only[push_cast]
by_cases q:name=⟨#[]⟩
·have d1:=decide_eq_true q
 refine aG d1 ?_
 refine ae rfl ?_
 refine aC ?_
 refine ak ?_
 exact⟨_,al,by unfold mo cY;rw[if_pos d1];rfl,rfl⟩
·have d1:=decide_eq_false q
 have hmem:name∈aF d.aa:=hn.resolve_left (by unfold cY;rw[d1];decide)
 have hg:=M.sg name hmem
 refine aG d1 ?_
 refine ag rfl ?_
 refine fN ho hsm hg hkk ?_
 refine zj Tryz.func99 ?_
 refine ml.mono ?_
 rintro _ h1 ⟨rfl,e1⟩
 obtain rfl:=e1.symm
 refine aC ?_
 refine ak ?_
 refine⟨_,al,?_,rfl⟩
 unfold mo cY
 rw[d1]
 rfl}
theorem Lw {p:Prod} {u:Value} {s:Sym} (ho:hk[im]? = some (.aq m.cells 0 true 94)) (M:MS hk m d es ks) (hy:fB hk u p.an) (hp:p∈d.aa) (hs:s∈p.an) (hn:s.kind=1∨cY s.name=true∨s.name∈aF d.aa) (ht:s.text.size≤1000000) : FW env 141 [.pointer (some ⟨im,0,some 0⟩),p.val u,s.val] hk fun r h'=>hk <+: h'∧aL hk h' r (jS d p.lex s).length ((jS d p.lex s).flatMap be.cells) 65:=by{
have hy0:=hy
obtain⟨ps,cs,rfl⟩:=bT.form hy
refine fe Tryz.func141 ?_;simp only[push_cast]
by_cases q1:s.kind=1
·have d1:=decide_eq_true q1
 have hK:jS d p.lex s=k9 s.text:=by unfold jS;rw[if_pos q1]
 rw[hK]
 refine aG d1 ?_
 refine ag rfl ?_
 refine aC ?_
 refine zj Tryz.func101 ?_
 refine (Gv ht).mono ?_
 rintro _ h1 ⟨hp1,hG⟩
 obtain⟨q,c,rfl⟩:=hG.form
 refine aC ?_
 refine ak ?_
 refine⟨_,al,hp1,?_⟩
 exact hG
have d1:=decide_eq_false q1
refine aG d1 ?_
refine ae rfl ?_
refine aC ?_
refine zj Tryz.func92 ?_
refine ui.mono ?_
rintro _ h1 ⟨rfl,e1⟩
obtain rfl:=e1.symm
cases hL:gV s with
| true=>
  have hK:jS d p.lex s=[dY (mY d (iF p.lex s))]:=by unfold jS;rw[if_neg q1,if_pos hL]
  rw[hK]
  have hmem:iF p.lex s∈br d.aa:=mem_keys.2 ⟨p,hp,s,hs,hL,rfl⟩
  have hg:=M.lg _ hmem
  have hlm:=M.lm
  have hkk:=re ks
  have hkd:=vy (iF p.lex s)
  unfold kQ at hkk hkd
  have hob:=ho
  unfold MK.cells at hob
  refine aC ?_
  refine ag rfl ?_
  refine aC ?_
  refine aA [(0,.val (.pointer (some ⟨im,0,some 0⟩))),(4,.box [.bool p.lex,.string p.sort,.string p.cons,.bool p.bracket,.slice ps p.an.length cs]),(5,.box [i64 s.kind,.string s.text,u64 s.set.a,u64 s.set.b,u64 s.set.c,u64 s.set.d,.string s.name,.string s.sep])] aM ?_
  show CW _ _ ⟨_,[],hk⟩ _
  apply bm (L:=[[],[0],[0,1],[0,1,2],[],[],[4,5],[0,1,2,3,4,5,6],[0,1,2,3,4,5,6,7],[0,1,2,3,4,5,6,7,8],[0,1,2,3,4,5,6,7,8,9]]) (act:=[9]) (hs:=[hk++[ax.aq (be.cells (dY (mY d (iF p.lex s)))) 0 true 65]]) (resL:=[_,_,_,_,_,_,_,_,_,_,_]) (frF:=[(6,.val (.slice (some ⟨hk.length,0,some 0⟩) 1 1))])
  case hm=>exact mixed
  case hc=>kernel_rfl
  case ha=>rfl
  case hb=>rfl
  case hS=>
   refine PX hob ?_
   apply az.cons
   ·rfl
   ·refine⟨?_,trivial⟩
    exact bg (fn:=Tryz.f93) (args:=[p.val (.slice ps p.an.length cs),s.val]) (cap:=[]) rfl al rfl al al Tryz.func93 kr kr (xN hy0)
   ·rfl
   refine NG hob hlm hg hkk hkd ?_
   apply az.cons
   ·rfl
   ·refine⟨?_,trivial⟩
    exact bg (fn:=Tryz.f99) (args:=[i64 (mY d (iF p.lex s):Int)]) (cap:=[]) rfl al rfl al al Tryz.func99 kr kr ml
   ·rfl
   apply az.cons
   ·rfl
   ·refine⟨?_,trivial⟩
    exact o0 (h:=hk) (n:=1) (t:=65) (cs:=be.cells (dY (mY d (iF p.lex s)))) rfl al kr
   ·rfl
   exact Sn
  case ht=>rfl
  case hF=>exact zh
  show CW _ _ _ _
  refine aC ?_
  refine ak ?_
  refine⟨_,al,aJ,?_⟩
  exact .inr ⟨hk.length,0,Nat.le_refl _,rfl,aK⟩
| false=>
  have hK:jS d p.lex s=[mo d s.name s.set]:=by unfold jS;rw[if_neg q1,if_neg (by rw[hL];decide)]
  rw[hK]
  refine aC ?_
  refine ae rfl ?_
  refine aC ?_
  refine zj Tryz.func97 ?_
  refine (xJ ho M (hn.resolve_left q1)).mono ?_
  rintro _ h2 ⟨rfl,e2⟩
  obtain rfl:=e2.symm
  refine cV (t:=65) (cs:=be.cells (mo d s.name s.set)) (n:=1) al kr ?_
  refine aC ?_
  refine ak ?_
  refine⟨_,al,aJ,?_⟩
  exact .inr ⟨hk.length,0,Nat.le_refl _,rfl,aK⟩}
end
structure xy (d:bS) (p:Prod):Prop where
 mem:p∈d.aa
 n:p.an.length≤12
 t:∀ s∈p.an,s.text.size≤32
 nm:∀ s∈p.an,s.kind=1∨cY s.name=true∨s.name∈aF d.aa
 so:p.sort∈aF d.aa
 o:gQ p.an≤4
theorem yA {d:bS} {lex:Bool} {s:Sym} (h:s.text.size≤32):(jS d lex s).length≤32:=by{
unfold jS
split
·unfold k9;simp;omega
·split<;>simp}
theorem mK {d:bS} {p:Prod} {mask k:Nat} (hk:k<p.an.length):dN d p mask (k+1)=jY d p.lex (dN d p mask k) k p.an[k]:=by
 conv=>lhs;unfold dN
 rw[List.getElem?_eq_getElem hk]
theorem lR {d:bS} {p:Prod} {mask:Nat} (G:xy d p):∀ k,(dN d p mask k).rhs.length≤33*k∧(dN d p mask k).os.length=(dN d p mask k).rhs.length∧(dN d p mask k).mask≤mask
 | 0=>by simp [dN]
 | k+1=>by
   obtain⟨h1,h2,h3⟩:=lR G k (mask:=mask)
   by_cases hk:k<p.an.length
   ·rw[mK hk]
    have hl:=yA (d:=d) (lex:=p.lex) (G.t _ (List.getElem_mem hk))
    generalize dN d p mask k=R at h1 h2 h3
    have hput:∀ R':wS,R'.rhs=R.rhs→R'.os=R.os→R'.mask≤mask→(iv d p.lex R' k p.an[k]).rhs.length≤33*(k+1)∧(iv d p.lex R' k p.an[k]).os.length=(iv d p.lex R' k p.an[k]).rhs.length∧(iv d p.lex R' k p.an[k]).mask≤mask:=fun R' e1 e2 e3=>by
     unfold iv
     rw[e1,e2]
     refine⟨?_,?_,e3⟩
     ·simp only[List.length_append]
      split<;>simp<;>omega
     ·simp only[List.length_append,List.length_replicate]
      split<;>simp<;>omega
    unfold jY
    split
    ·split
     ·exact⟨by simp only;omega,h2,by simp only;omega⟩
     ·exact hput _ rfl rfl (by simp only;omega)
    ·exact hput R rfl rfl h3
   ·have:dN d p mask (k+1)=dN d p mask k:=by
     conv=>lhs;unfold dN
     rw[List.getElem?_eq_none om]
    rw[this]
    exact⟨by omega,h2,h3⟩
theorem B9 {n:Nat} (h:n<16):IntKind.i64.wrap (BitVec.ofInt IntKind.i64.bits (n:Int) &&& BitVec.ofInt IntKind.i64.bits 1).toNat=((n % 2:Nat):Int):=by
 have:∀ n:Fin 16,IntKind.i64.wrap (BitVec.ofInt IntKind.i64.bits (n.1:Int) &&& BitVec.ofInt IntKind.i64.bits 1).toNat=((n.1 % 2:Nat):Int):=by decide
 exact this ⟨n,h⟩
theorem bT.dI {a b:ai} {v:Value} {n w:Nat} {cells:List Value} {et:TypeId} {ts:List TypeId} (hs:bT a v n cells et w) (k:bt ts a b) (h:et∉ts):bT b v n cells et w:=by{
refine⟨hs.1,?_⟩
rcases hs.2 with h1|⟨id,av,own,c,e,h2⟩
·exact .inl h1
·exact .inr ⟨id,av,own,c,e,k _ _ h2 (cH h)⟩}
theorem j1 {all:Array Oper} {o:Oper} {r:List Oper} {s:St} {K:St→Prop} {x:Operand} {t y:Nat} {e:TypeId} {ti:TI} {v:Value} {cs cells:List Value} {n:Nat} {h:ai} (hw:aE all o s=some true) (ho:o.op = .call { callee:=.builtin .append,args:=#[x,.tmp y],argTypes:=#[t,t] }) (hu:env.P.underlying t=some (.slice e)) (ht:au env.P e=some ti) (hs0:0<ti.size) (hz:(ti.zero.map fun z=>z.cells.size)=some ti.size) (hx:ev s x=some v) (hy:aW s.fr y = .nz cs 1) (G:aL h s.h v n cells e) (hp:h <+: s.h) (hl:cells.length=n*ti.size) (hc:cs.length=ti.size) (hb:(n+1)*ti.bytes≤140737488355328) (hn:n+1≤140737488355328) (k:∀ p c h',aL h h' (.slice p (n+1) c) (n+1) (cells++cs) e→h <+: h'→(∀ j o,bX v j=false→s.h[j]? = some o→h'[j]? = some o)→(∀ x,bX (.slice p (n+1) c) x=true→bX v x=true∨x=s.h.length)→s.h.length≤h'.length→OW env all r ({ s with h:=h' }.a9 o.dst (.val (.slice p (n+1) c))) K):OW env all (o :: r) s K:=by{
have hi:cJ s s.h ti.size (.tmp y)=some (cs,1):=by simp only[cJ,hy,hc,Nat.one_mul,if_true]
rcases G with ⟨rfl,rfl,rfl⟩ | ⟨id,av,h1,rfl,h3⟩
·refine nk hw ho hu ht hs0 hz hx hi (by decide) (by simpa using hb) (by decide) ?_
 exact k (some ⟨s.h.length,0,some 0⟩) 1 _ (.inr ⟨s.h.length,0,hp.length_le,rfl,by simp⟩) (dt hp) (fun j o _ h=>bA h) (fun x hx=>by
  simp only[bX,beq_iff_eq] at hx
  exact .inr hx.symm) (by simp)
·refine o8 hw ho hu ht hs0 hz hx h3 om hi hb hn ?_
 rw[List.take_of_length_le om]
 refine k (some ⟨id,0,some (av+1)⟩) (n+1) _ (.inr ⟨id,av+1,h1,rfl,aw h3⟩) (aZ hp h1) (fun j o hj h=>?_) (fun x hx=>?_) (by simp)
 ·simp only[bX,beq_eq_false_iff_ne] at hj
  rw[aD hj]
  exact h
 ·simp only[bX] at hx ⊢
  exact .inl hx}
theorem aL.base {a b c:ai} {v:Value} {n:Nat} {cells:List Value} {et:TypeId} (G:aL b c v n cells et) (h:a <+: b):aL a c v n cells et:=by{
rcases G with G|⟨id,av,h1,h2,h3⟩
·exact .inl G
·exact .inr ⟨id,av,Nat.le_trans h.length_le h1,h2,h3⟩}
theorem MR.pre {h0 hk h1:ai} {im:Nat} {m:MK} {l:List (dG×gN)} (M:MR h0 hk im m l) (hp:hk <+: h1):MR h0 h1 im m l:=
 ⟨M.p.trans hp,M.lm,af hp M.o,M.r.dH (bt.pre (ts:=[]) hp) (by simp) (by simp),M.f.dH (bt.pre (ts:=[]) hp) (by simp) (by simp)⟩
section
variable {h0 hk:ai} {im:Nat} {m:MK} {d:bS} {es:List (ByteArray×Int)} {ks:List (bM×Int)} {l:List (dG×gN)}
theorem IE (M:MR h0 hk im m l) (S:MS hk m d es ks) (hP:eL hk m.vP d.aa) {kV mask:Nat} (ha:kV<d.aa.length) (G:xy d d.aa[kV]) (hm:mask<16) (hl:l.length≤1000000) : FW env 96 [.pointer (some ⟨im,0,some 0⟩),i64 (kV:Int),i64 (mask:Int)] hk fun r h'=>r = .tuple #[]∧∃ vr' vf',MR h0 h' im { m with vr:=vr',vf:=vf' } (l++[oF d kV d.aa[kV] mask])∧bt Ji hk h':=by{
have hob:=M.o
obtain⟨id,av,own,c',cells,u,hv,hid,hrd,hu⟩:=ct.at (k:=5) (fun _ _=>rfl) hP ha
have hu:fB hk u d.aa[kV].an:=hu
have hu0:=hu
obtain⟨ps,cs,rfl⟩:=bT.form hu
have wa:=cz ha
obtain⟨p,hpe⟩:∃ p,p=d.aa[kV]:=⟨_,rfl⟩
rw[← hpe] at hrd hu hu0 G ⊢
have hn12:=G.n
have hUL:=lR (mask:=mask) G
unfold MK.cells at hob
have hgp:=S.gp
have hob1:=hob
rw[hv] at hob1
refine fe Tryz.func96 ?_;simp only[push_cast]
refine fN hob1 wa hid hrd ?_
refine CW.mono (Q:=fun e s'=>e = .exit 0∧∃ (h1:ai) (vr vo:Value),hk <+: h1∧aL hk h1 vr (fb d p mask).rhs.length ((fb d p mask).rhs.flatMap be.cells) 65∧aL hk h1 vo (fb d p mask).os.length ((fb d p mask).os.map i64) 3∧s'.h=h1∧bD [(0,.val (.pointer (some ⟨im,0,some 0⟩))),(6,.box [.bool p.lex,.string p.sort,.string p.cons,.bool p.bracket,.slice ps p.an.length cs]),(7,.box [i64 0,i64 (kV:Int),i64 (mask:Int),vo]),(8,.val vr)] s'.fr) ?_ ?_
·refine aX p.an.length (fun k (x:ai×Value×Value)=>[(0,.val (.pointer (some ⟨im,0,some 0⟩))),(2,.val (i64 ((dN d p mask k).mask:Int))),(6,.box [.bool p.lex,.string p.sort,.string p.cons,.bool p.bracket,.slice ps p.an.length cs]),(7,.box [i64 0,i64 (kV:Int),i64 (mask:Int),x.2.2]),(8,.val x.2.1),(27,.val (.slice ps p.an.length cs)),(28,.val (i64 p.an.length)),(29,.val (i64 k))]) (fun _ x=>x.1)
  (fun k x=>hk <+: x.1∧aL hk x.1 x.2.1 (dN d p mask k).rhs.length ((dN d p mask k).rhs.flatMap be.cells) 65∧aL hk x.1 x.2.2 (dN d p mask k).os.length ((dN d p mask k).os.map i64) 3) (hk,aH,aH) (by simp only[dN];exact aM) rfl ⟨List.prefix_refl _,aL.nil,aL.nil⟩ ?_
 rintro k ⟨h1,vr,vo⟩ hkn ⟨hp1,hG1,hG2⟩
 simp only at hp1 hG1 hG2 ⊢
 by_cases hlt:k<p.an.length
 ·obtain⟨ids,vers,owns,cs',hvs,hids⟩:=bT.at (hu.mono hp1) om
  cases hvs
  have hgs:=g7 hlt
  have e1:=cz hlt
  have e2:=inc hlt om
  have e3:=aU hlt
  have hsuc:=mK (d:=d) (mask:=mask) hlt
  obtain⟨u1,u2,u3⟩:=hUL k
  have hsm:=List.getElem_mem hlt
  have hst:=G.t _ hsm
  have hsn:=G.nm _ hsm
  generalize p.an[k]=s at hgs hsuc hsm hst hsn
  generalize hRR:dN d p mask k=R at hG1 hG2 hsuc u1 u2 u3 ⊢
  obtain⟨qr,cr,rfl⟩:=hG1.form
  obtain⟨qo,co,rfl⟩:=hG2.form
  refine aG e3 ?_
  refine ag rfl ?_
  refine zu ?_
  iterate 6 (refine zx (Pn e1 hids hgs) ?_)
  refine zu ?_
  iterate 8 (refine zx oA ?_)
  apply zn
  show CW _ _ _ _
  obtain⟨m2,hm2⟩:∃ m2,m2=R.mask / 2:=⟨_,rfl⟩
  obtain⟨r2,hr2⟩:∃ r2,r2=R.mask % 2:=⟨_,rfl⟩
  refine CW.mono (Q:=fun e s'=>s'.h=h1∧((e = .exit 1∧dN d p mask (k+1)=⟨m2,R.rhs,R.os⟩∧bD [(0,.val (.pointer (some ⟨im,0,some 0⟩))),(6,.box [.bool p.lex,.string p.sort,.string p.cons,.bool p.bracket,.slice (some ⟨ids,0,some vers⟩) p.an.length cs]),(27,.val (.slice (some ⟨ids,0,some vers⟩) p.an.length cs)),(28,.val (i64 p.an.length)),(29,.val (i64 k)),(2,.val (i64 (m2:Int))),(7,.box [i64 0,i64 (kV:Int),i64 (mask:Int),.slice qo R.os.length co]),(8,.val (.slice qr R.rhs.length cr))] s'.fr)∨(e = .normal∧∃ M1:Nat,dN d p mask (k+1)=iv d p.lex ⟨M1,R.rhs,R.os⟩ k s∧bD [(0,.val (.pointer (some ⟨im,0,some 0⟩))),(6,.box [.bool p.lex,.string p.sort,.string p.cons,.bool p.bracket,.slice (some ⟨ids,0,some vers⟩) p.an.length cs]),(27,.val (.slice (some ⟨ids,0,some vers⟩) p.an.length cs)),(28,.val (i64 p.an.length)),(29,.val (i64 k)),(2,.val (i64 (M1:Int))),(7,.box [i64 0,i64 (kV:Int),i64 (mask:Int),.slice qo R.os.length co]),(8,.val (.slice qr R.rhs.length cr)),(10,.box [i64 s.kind,.string s.text,u64 s.set.a,u64 s.set.b,u64 s.set.c,u64 s.set.d,.string s.name,.string s.sep]),(9,.val (i64 k))] s'.fr))) ?_ ?_
  ·have hR16:R.mask<16:=by omega
   cases hL:fm s with
   | true=>
     rw[show (decide (s.kind=4)||decide (s.kind=5))=true from hL]
     unfold jY at hsuc
     rw[if_pos hL,← hm2] at hsuc
     have hand:=B9 hR16
     rw[← hr2] at hand
     have hshr:((R.mask:Int)).fdiv (2 ^ min 1 IntKind.i64.bits)=(m2:Int):=by
      rw[show min 1 IntKind.i64.bits=1 from rfl,Int.fdiv_eq_ediv_of_nonneg _ (by decide)]
      omega
     refine ag rfl ?_
     by_cases hz:r2=0
     ·have dz:decide ((r2:Int)=0)=true:=decide_eq_true om
      rw[← hr2,if_pos hz] at hsuc
      refine gU hand hshr dz ?_
      refine ag rfl ?_
      refine aB ?_
      exact⟨rfl,.inl ⟨rfl,hsuc,aM⟩⟩
     ·have dz:decide ((r2:Int)=0)=false:=decide_eq_false om
      rw[← hr2,if_neg hz] at hsuc
      refine gU hand hshr dz ?_
      refine ae rfl ?_
      refine cE ?_
      exact⟨rfl,.inr ⟨rfl,m2,hsuc,aM⟩⟩
   | false=>
     rw[show (decide (s.kind=4)||decide (s.kind=5))=false from hL]
     unfold jY at hsuc
     rw[if_neg (by rw[hL];decide)] at hsuc
     refine ae rfl ?_
     refine cE ?_
     exact⟨rfl,.inr ⟨rfl,R.mask,hsuc,aM⟩⟩
  rintro e s' ⟨hh,⟨rfl,hsuc,hf⟩ | ⟨rfl,M1,hsuc,hf⟩⟩
  ·show CW _ _ _ _
   refine aA _ hf ?_
   rw[hh]
   clear hf hh s'
   refine aG e2 ?_
   refine⟨hlt,(h1,.slice qr R.rhs.length cr,.slice qo R.os.length co),?_,rfl,hp1,?_,?_⟩
   ·dsimp only
    rw[hsuc]
    exact aM
   ·rw[hsuc]
    exact hG1
   ·rw[hsuc]
    exact hG2
  show CW _ _ _ _
  refine aA _ hf ?_
  rw[hh]
  clear hf hh s'
  obtain⟨R1,hR1⟩:∃ R1,R1=R.rhs++if mR d p.lex R.rhs=true then [dY (bQ d)] else []:=⟨_,rfl⟩
  obtain⟨O1,hO1⟩:∃ O1,O1=R.os++if mR d p.lex R.rhs=true then [-1] else []:=⟨_,rfl⟩
  have hsuc2:dN d p mask (k+1)=⟨M1,R1++jS d p.lex s,O1++List.replicate (jS d p.lex s).length (k:Int)⟩:=by rw[hsuc,hR1,hO1];rfl
  have hR1l:R1.length≤33*k+1:=by rw[hR1,List.length_append];split<;>simp<;>omega
  have hO1l:O1.length≤33*k+1:=by rw[hO1,List.length_append];split<;>simp<;>omega
  have hob1:=af hp1 hob
  apply zs
  refine CW.mono (Q:=fun e s'=>e = .normal∧∃ (h2:ai) (q2:Option Addr) (c2:Nat) (q3:Option Addr) (c3:Nat),hk <+: h2∧aL hk h2 (.slice q2 R1.length c2) R1.length (R1.flatMap be.cells) 65∧aL hk h2 (.slice q3 O1.length c3) O1.length (O1.map i64) 3∧s'.h=h2∧bD [(0,.val (.pointer (some ⟨im,0,some 0⟩))),(6,.box [.bool p.lex,.string p.sort,.string p.cons,.bool p.bracket,.slice (some ⟨ids,0,some vers⟩) p.an.length cs]),(27,.val (.slice (some ⟨ids,0,some vers⟩) p.an.length cs)),(28,.val (i64 p.an.length)),(29,.val (i64 k)),(2,.val (i64 (M1:Int))),(7,.box [i64 0,i64 (kV:Int),i64 (mask:Int),.slice q3 O1.length c3]),(8,.val (.slice q2 R1.length c2)),(9,.val (i64 k)),(10,.box [i64 s.kind,.string s.text,u64 s.set.a,u64 s.set.b,u64 s.set.c,u64 s.set.d,.string s.name,.string s.sep])] s'.fr) ?_ ?_
  ·have hno:mR d p.lex R.rhs=false→hk <+: h1∧aL hk h1 (.slice qr R1.length cr) R1.length (R1.flatMap be.cells) 65∧aL hk h1 (.slice qo O1.length co) O1.length (O1.map i64) 3∧R1=R.rhs∧O1=R.os:=fun hn=>by
    rw[hn,if_neg (by decide),List.append_nil] at hR1 hO1
    rw[hR1,hO1]
    exact⟨hp1,hG1,hG2,rfl,rfl⟩
   by_cases q1:R.rhs.length=0
   ·have hn:mR d p.lex R.rhs=false:=by unfold mR;rw[List.isEmpty_iff.2 (List.eq_nil_of_length_eq_zero q1)];rfl
    obtain⟨a1,a2,a3,a4,a5⟩:=hno hn
    have dl:decide ((0:Int)<(R.rhs.length:Int))=false:=decide_eq_false om
    refine aG dl ?_
    refine ae rfl ?_
    refine cE ?_
    refine⟨rfl,h1,qr,cr,qo,co,a1,a2,a3,rfl,?_⟩
    rw[a4,a5]
    exact aM
   have dl:decide ((0:Int)<(R.rhs.length:Int))=true:=decide_eq_true om
   have hne:R.rhs.isEmpty=false:=by cases e:R.rhs with|nil=>rw[e] at q1;exact absurd rfl q1|cons a b=>rfl
   cases hlx:p.lex with
   | true=>
     have hn:mR d p.lex R.rhs=false:=by unfold mR;rw[hlx];simp
     obtain⟨a1,a2,a3,a4,a5⟩:=hno hn
     refine fz dl hlx ?_
     refine ae rfl ?_
     refine cE ?_
     refine⟨rfl,h1,qr,cr,qo,co,a1,a2,a3,rfl,?_⟩
     rw[a4,a5]
     exact (mi hlx)
   | false=>
   cases hem:cY d.layout with
   | true=>
     have hn:mR d p.lex R.rhs=false:=by unfold mR;rw[hem];simp
     obtain⟨a1,a2,a3,a4,a5⟩:=hno hn
     have dg:decide (0≤m.mh)=false:=by rw[hgp];unfold bQ;rw[if_pos hem];rfl
     refine fN dl hlx hob1 dg ?_
     refine ae rfl ?_
     refine cE ?_
     refine⟨rfl,h1,qr,cr,qo,co,a1,a2,a3,rfl,?_⟩
     rw[a4,a5]
     exact (mi hlx)
   | false=>
     have hn:mR d p.lex R.rhs=true:=by unfold mR;rw[hem,hlx,hne];rfl
     rw[hn,if_pos rfl] at hR1 hO1
     have dg:decide (0≤m.mh)=true:=by rw[hgp];unfold bQ;rw[if_neg (by rw[hem];decide)];exact decide_eq_true om
     refine fN dl hlx hob1 dg ?_
     refine ag rfl ?_
     refine aG hob1 ?_
     refine zj Tryz.func99 ?_
     refine ml.mono ?_
     rintro _ h2 ⟨rfl,e7⟩
     obtain rfl:=e7.symm
     rw[hgp]
     refine aC ?_
     refine lB (t:=61) (cs:=be.cells (dY (bQ d))) al rfl kr xX (by decide) rfl al rfl hG1 hp1 (by rw[kB]) rfl (by simp only;omega) om ?_
     intro p2 c2 h2 k1 k2 k3 _
     have hG22:=hG2.dH (bt.push hG1 k3) (by decide)
     refine aC ?_
     refine lB (t:=39) (cs:=[i64 (-1)]) al rfl kr NN (by decide) rfl al rfl hG22 k2 (by simp) rfl (by simp only;omega) om ?_
     intro p3 c3 h3 k4 k5 k6 _
     have k1':=aL.dH k1 (bt.push hG22 k6) (by decide)
     refine aC ?_
     have l1:R1.length=R.rhs.length+1:=by rw[hR1];simp
     have l2:O1.length=R.os.length+1:=by rw[hO1];simp
     refine⟨rfl,h3,p2,c2,p3,c3,k5,?_,?_,rfl,?_⟩
     ·rw[l1,hR1,List.flatMap_append,List.flatMap_singleton]
      exact k1'
     ·rw[l2,hO1,List.map_append]
      exact k4
     ·rw[l1,l2]
      exact (mi hlx)
  rintro e s' ⟨rfl,h2,q2,c2,q3,c3,hp2,hG3,hG4,hh,hf⟩
  show CW _ _ _ _
  refine aA _ hf ?_
  rw[hh]
  clear hf hh s' hG1 hG2 hob1 hp1
  have hob2:=af hp2 M.o
  refine aC ?_
  refine zj Tryz.func141 ?_
  refine (Lw hob2 (S.dH (bt.pre (ts:=[]) hp2)) (hu.mono hp2) G.mem hsm hsn om).mono ?_
  rintro _ h3 ⟨hp3,hGK⟩
  have hKl:=yA (d:=d) (lex:=p.lex) hst
  generalize jS d p.lex s=K at hGK hKl hsuc2
  obtain⟨qk,ck,rfl⟩:=hGK.form
  have hlen2:=hp2.length_le
  have hlen3:=hp3.length_le
  refine aC ?_
  refine aX K.length (fun j (x:ai×Value×Value)=>[(0,.val (.pointer (some ⟨im,0,some 0⟩))),(6,.box [.bool p.lex,.string p.sort,.string p.cons,.bool p.bracket,.slice (some ⟨ids,0,some vers⟩) p.an.length cs]),(27,.val (.slice (some ⟨ids,0,some vers⟩) p.an.length cs)),(28,.val (i64 p.an.length)),(29,.val (i64 k)),(2,.val (i64 (M1:Int))),(9,.val (i64 k)),(7,.box [i64 0,i64 (kV:Int),i64 (mask:Int),x.2.2]),(8,.val x.2.1),(79,.val (.slice qk K.length ck)),(80,.val (i64 K.length)),(81,.val (i64 j))]) (fun _ x=>x.1)
   (fun j x=>hk <+: x.1∧h3.length≤x.1.length∧aL hk x.1 x.2.1 (R1.length+j) ((R1++K.take j).flatMap be.cells) 65∧aL hk x.1 x.2.2 (O1.length+j) ((O1++List.replicate j (k:Int)).map i64) 3∧aL h2 x.1 (.slice qk K.length ck) K.length (K.flatMap be.cells) 65∧∀ b,bX x.2.1 b=true→b<h2.length∨h3.length≤b) (h3,.slice q2 R1.length c2,.slice q3 O1.length c3) aM rfl ⟨hp2.trans hp3,Nat.le_refl _,?_,?_,hGK,fun b hb=>.inl (hG3.lt hb).2⟩ ?_
  ·rw[List.take_zero,List.append_nil,Nat.add_zero]
   exact hG3.dH (bt.pre (ts:=[]) hp3) (by simp)
  ·rw[List.replicate_zero,List.append_nil,Nat.add_zero]
   exact hG4.dH (bt.pre (ts:=[]) hp3) (by simp)
  rintro j ⟨h4,vr4,vo4⟩ hjn ⟨hp4,hlen4,hGr,hGo,hGk,hsep⟩
  simp only at hp4 hlen4 hGr hGo hGk hsep ⊢
  by_cases hjl:j<K.length
  ·have v1:=cz hjl
   have v2:=inc hjl om
   have v3:=aU hjl
   obtain⟨idk,verk,ownk,ckk,hvk,hidk⟩:=(hGk.sl (b:=40) om).at om
   cases hvk
   have hgk:js (K.flatMap be.cells) (j*5) 5=some [i64 K[j].nt,u64 K[j].set.a,u64 K[j].set.b,u64 K[j].set.c,u64 K[j].set.d]:=bI (f:=be.cells) (k:=5) (fun _=>rfl) K j K[j] (by simp [hjl])
   have htk:K.take (j+1)=K.take j++[K[j]]:=List.take_succ_eq_append_getElem hjl
   generalize K[j]=y at hgk htk
   obtain⟨qr4,cr4,rfl⟩:=hGr.form
   obtain⟨qo4,co4,rfl⟩:=hGo.form
   have hrl:((R1++K.take j).flatMap be.cells).length=(R1.length+j)*5:=by rw[kB,List.length_append,List.length_take,Nat.min_eq_left om]
   have hol:((O1++List.replicate j (k:Int)).map i64).length=(O1.length+j)*1:=by simp
   refine aG v3 ?_
   refine ag rfl ?_
   refine gU v1 hidk hgk ?_
   refine j1 (t:=61) (cs:=be.cells y) al rfl kr xX (by decide) rfl al rfl hGr hp4 hrl rfl (by simp only;omega) om ?_
   intro p5 c5 h5 k1 k2 k3 k4 hlen5
   have hlen5:h4.length≤h5.length:=hlen5
   have k4:∀ x,bX (.slice p5 (R1.length+j+1) c5) x=true→bX (.slice qr4 (R1.length+j) cr4) x=true∨x=h4.length:=k4
   have hGo5:=hGo.dH (bt.push hGr k3) (by decide)
   have hGk5:aL h2 h5 (.slice (some ⟨idk,0,some verk⟩) K.length ck) K.length (K.flatMap be.cells) 65:=hGk.mono fun b o hb ho=>k3 b o (by
    cases e:bX (.slice qr4 (R1.length+j) cr4) b with
    | false=>rfl
    | true=>
      have a1:=hsep b e
      have a2:=hGk.lt hb
      have a3:=hGK.lt hb
      omega) ho
   refine aC ?_
   refine j1 (t:=39) (cs:=[i64 (k:Int)]) al rfl kr NN (by decide) rfl al rfl hGo5 k2 hol rfl (by simp only;omega) om ?_
   intro p6 c6 h6 k5 k6 k7 _ hlen6
   have hlen6:h5.length≤h6.length:=hlen6
   have k1':=aL.dH k1 (bt.push hGo5 k7) (by decide)
   have hGk6:=hGk5.dH (bt.push hGo5 k7) (by decide)
   refine aG v2 ?_
   refine⟨hjl,(h6,.slice p5 (R1.length+(j+1)) c5,.slice p6 (O1.length+(j+1)) c6),?_,rfl,k6,?_,?_,?_,hGk6,fun b hb=>?_⟩
   ·dsimp only
    exact (by simp only[push_cast,Nat.reduceEqDiff,reduceIte,Nat.add_assoc])
   ·simp only;omega
   ·rw[htk,← List.append_assoc,List.flatMap_append,List.flatMap_singleton]
    exact k1'
   ·rw[List.replicate_succ',← List.append_assoc,List.map_append]
    exact k5
   ·rcases k4 b hb with a|a
    ·exact hsep b a
    ·right;omega
  ·have v3:=aT hjl
   obtain rfl:j=K.length:=by omega
   rw[List.take_length] at hGr
   refine aG v3 ?_
   refine ae rfl ?_
   refine aB ?_
   show CW _ _ _ _
   refine aG e2 ?_
   refine⟨hlt,(h4,vr4,vo4),?_,rfl,hp4,?_,?_⟩
   ·dsimp only
    rw[hsuc2]
    exact aM
   ·rw[hsuc2]
    simp only[List.length_append]
    exact hGr
   ·rw[hsuc2]
    simp only[List.length_append,List.length_replicate]
    exact hGo
 ·have e3:=aT hlt
  obtain rfl:k=p.an.length:=by omega
  refine aG e3 ?_
  refine ae rfl ?_
  refine aB ?_
  exact⟨rfl,h1,vr,vo,hp1,hG1,hG2,rfl,aM⟩
rintro e s' ⟨rfl,h1,vr,vo,hp1,hG1,hG2,hh,hf⟩
show CW _ _ _ _
refine aA _ hf ?_
rw[hh]
clear hf hh s' hob hob1
have M1:=M.pre hp1
have S1:=S.dH (bt.pre (ts:=[]) hp1)
have hr:=kJ M1 (lhs:=(gJ d p.sort:Int)) (kd:=0) (pr:=(kV:Int)) (mk:=(mask:Int)) (hG1.base M.p) (hG2.base M.p) hl
unfold FW at hr
obtain⟨r,h5,hcall,rfl,vr',vf',hM5,hK5⟩:=hr
have hob:=M1.o
unfold MK.cells at hob
have hsm:=S1.sm
have hg:=S1.sg _ G.so
have hkk:=bz es
obtain⟨qr,cr,rfl⟩:=hG1.form
obtain⟨qo,co,rfl⟩:=hG2.form
refine aA [(0,.val (.pointer (some ⟨im,0,some 0⟩))),(6,.box [.bool p.lex,.string p.sort,.string p.cons,.bool p.bracket,.slice ps p.an.length cs]),(7,.box [i64 0,i64 (kV:Int),i64 (mask:Int),.slice qo (fb d p mask).os.length co]),(8,.val (.slice qr (fb d p mask).rhs.length cr))] aM ?_
show CW _ _ ⟨_,[],h1⟩ _
apply bm (L:=[[],[],[1],[1,2],[1,2,3],[],[5],[1,2,3,4,5,6],[],[],[0,1,2,3,4,5,6,7,8,9]]) (act:=[10]) (hs:=[h5]) (resL:=[_,_,_,_,_,_,_,_,_,_,_]) (frF:=[])
case hm=>exact mixed
case hc=>kernel_rfl
case ha=>rfl
case hb=>rfl
case hS=>
 refine uV hob hsm hg hkk ?_
 apply az.cons
 ·rfl
 ·refine⟨?_,trivial⟩
  exact dF (args:=[.pointer (some ⟨im,0,some 0⟩),i64 (gJ d p.sort:Int),.slice qr (fb d p mask).rhs.length cr,.agg #[i64 0,i64 (kV:Int),i64 (mask:Int),.slice qo (fb d p mask).os.length co]]) (cap:=[]) (fn:=Tryz.f98) al rfl al al Tryz.func98 kr kr hcall
 ·rfl
 exact az.nil _
case ht=>rfl
case hF=>exact zh
exact⟨_,al,rfl,vr',vf',hM5,(bt.pre hp1).trans hK5⟩}
end
theorem Di {t e:TypeId} {ti:TI} {v w:Value} {n m b:Nat} {cells cs:List Value} {h hk:ai} (hu:env.P.underlying t=some (.slice e)) (ht:au env.P e=some ti) (hs0:0<ti.size) (hz:(ti.zero.map fun z=>z.cells.size)=some ti.size) (G:aL h hk v n cells e) (hp:h <+: hk) (hl:cells.length=n*ti.size) (hy:bT hk w m cs e b) (hlc:cs.length=m*ti.size) (h0:0<m) (hb:(n+m)*ti.bytes≤140737488355328) (hn:n+m≤140737488355328):∃ p c h', (∀ (all:Array Oper) (o:Oper) (s:St) (x:Operand) (y:Nat),s.h=hk→aE all o s=some true→o.op = .call { callee:=.builtin .append,args:=#[x,.tmp y],argTypes:=#[t,t] }→ev s x=some v→aW s.fr y = .val w → One env all o s (.sl (.val (.slice p (n+m) c))) h') ∧ aL h h' (.slice p (n+m) c) (n+m) (cells++cs) e∧h <+: h'∧(∀ j o,bX v j=false→hk[j]? = some o→h'[j]? = some o):=by{
obtain⟨id,av,own,c',rfl,hid⟩:=hy.at h0
have hrd:js cs 0 (m*ti.size)=some cs:=by
 simp only[js,uD,Nat.zero_add,List.drop_zero,hlc]
 rw[if_pos (Nat.le_refl _),← hlc,List.take_length]
have hi:∀ (s:St) (y:Nat),s.h=hk→aW s.fr y = .val (.slice (some ⟨id,0,some av⟩) m c')→cJ s s.h ti.size (.tmp y)=some (cs,m):=fun s y hh hf=>by
 simp only[cJ,hf,hh,hid,if_true]
 first|rw[hrd];rfl|(unfold js at hrd;rw[hrd];rfl)
rcases G with ⟨rfl,rfl,rfl⟩ | ⟨idx,vex,h1,rfl,h3⟩
·rw[Nat.zero_add] at hb hn ⊢
 refine⟨some ⟨hk.length,0,some 0⟩,m,hk++[ax.aq cs 0 true e],fun all o s x y hh hw ho hx hy=>?_,.inr ⟨hk.length,0,hp.length_le,rfl,by rw[List.nil_append];exact aK⟩,dt hp,fun j o _ h=>bA h⟩
 have:=hi s y hh hy
 subst hh
 exact .ze hw ho hu rfl ht hs0 hz hx this h0 hb hn
·refine⟨some ⟨idx,0,some (vex+1)⟩,n+m,hk.set idx (ax.aq (cells++cs) (vex+1) true e),fun all o s x y hh hw ho hx hy=>?_,.inr ⟨idx,vex+1,h1,rfl,aw h3⟩,aZ hp h1,fun j o hj h=>?_⟩
 ·have h4:=hi s y hh hy
  subst hh
  have:=One.MT (N:=env) hw ho hu rfl ht hs0 hz hx h3 om h4 hb hn
  rwa [List.take_of_length_le om] at this
 ·simp only[bX,beq_eq_false_iff_ne] at hj
  rw[aD hj]
  exact h}
theorem ct.dI {α:Type} {f:α→Value→List Value} {R:ai→Value→α→Prop} {et:TypeId} {w:Nat} {a b:ai} {v:Value} {l:List α} {ts:List TypeId} (h:ct f R et w a v l) (k:bt ts a b) (hn:et∉ts) (hR:∀ u x,R a u x→R b u x):ct f R et w b v l:=by
 obtain⟨us,hl,hs,hu⟩:=h
 exact⟨us,hl,hs.dI k hn,fun i x u h1 h2=>hR _ _ (hu i x u h1 h2)⟩
theorem eL.dI {a b:ai} {v:Value} {l:List Prod} {ts:List TypeId} (h:eL a v l) (k:bt ts a b) (h1:51∉ts) (h2:56∉ts):eL b v l:=ct.dI h k h1 fun u x hu=>bT.dI hu k h2
section
variable {h0 hk:ai} {im:Nat} {m:MK} {d:bS} {es:List (ByteArray×Int)} {ks:List (bM×Int)}
theorem ij {k:Nat} (hk:k<d.aa.length):gO d (k+1)=gO d k++jQ d k d.aa[k]:=by
 conv=>lhs;unfold gO
 rw[List.getElem?_eq_getElem hk]
theorem sL {p:Prod} (h:gQ p.an≤4):jU p≤16:=by{
unfold jU
generalize gQ p.an=o at h
have:o=0∨o=1∨o=2∨o=3∨o=4:=by omega
rcases this with rfl|rfl|rfl|rfl|rfl<;>decide}
theorem nH (G:∀ p∈d.aa,xy d p):∀ k,(gO d k).length≤16*k
 | 0=>by simp [gO]
 | k+1=>by
   have h:=nH G k
   by_cases hk:k<d.aa.length
   ·rw[ij hk,List.length_append]
    have h2:(jQ d k d.aa[k]).length≤16:=by
     unfold jQ
     rw[List.length_map,List.length_range]
     exact sL (G _ (List.getElem_mem hk)).o
    omega
   ·have:gO d (k+1)=gO d k:=by
     conv=>lhs;unfold gO
     rw[List.getElem?_eq_none om]
    rw[this]
    omega
theorem M7 {k:bM} (S:m.mh=bQ d):(!k.lex&&decide (0≤m.mh))=(!k.lex && !cY d.layout):=by{
rw[S]
unfold bQ
cases cY d.layout with
| true=>simp
| false=>
  rw[if_neg (by decide)]
  have:decide (0≤((nS d+nK d:Nat):Int))=true:=decide_eq_true om
  rw[this]
  rfl}
theorem ym {ha:ai} {i6 i1 i9:Nat} {k:bM} {l:List be} {v:Value} (hp:ha <+: hk) (h9:ha.length≤i9) (S:m.mh=bQ d) (ho:ha[im]? = some (.aq m.cells 0 true 94)) (hx6:ha[i6]? = some (.aq k.cells 0 true 154)) (hx1:ha[i1]? = some (.aq [.pointer (some ⟨im,0,some 0⟩)] 0 true 89)) (hx9:hk[i9]? = some (.aq [v] 0 true 61)) (hG:aL ha hk v l.length (l.flatMap be.cells) 65) (hl:l.length≤100000) : FW env 100 [.pointer (some ⟨i6,0,some 0⟩),.pointer (some ⟨i1,0,some 0⟩),.pointer (some ⟨i9,0,some 0⟩)] hk fun r h'=>r = .tuple #[]∧ha <+: h'∧∃ v',h'[i9]? = some (.aq [v'] 0 true 61)∧aL ha h' v' (l++eX d k).length ((l++eX d k).flatMap be.cells) 65:=by{
have hob:=af hp ho
have hk6:=af hp hx6
have hk1:=af hp hx1
unfold MK.cells at hob
unfold bM.cells at hk6
have hB:=M7 (k:=k) S
obtain⟨q,c,rfl⟩:=hG.form
refine fe Tryz.func100 ?_;simp only[push_cast]
cases hlx:k.lex with
| true=>
  rw[hlx] at hk6
  have hK:eX d k=[]:=by unfold eX;rw[hlx];rfl
  rw[hK,List.append_nil]
  refine aG hk6 ?_
  refine ae rfl ?_
  refine aC ?_
  exact⟨_,al,rfl,hp,_,hx9,hG⟩
| false=>
rw[hlx] at hk6 hB
cases hem:cY d.layout with
| true=>
  rw[hem] at hB
  have dg:decide (0≤m.mh)=false:=by simpa using hB
  have hK:eX d k=[]:=by unfold eX;rw[hem,hlx];rfl
  rw[hK,List.append_nil]
  refine fN hk6 hk1 hob dg ?_
  refine ae rfl ?_
  refine aC ?_
  exact⟨_,al,rfl,hp,_,hx9,hG⟩
| false=>
  rw[hem] at hB
  have dg:decide (0≤m.mh)=true:=by simpa using hB
  have hK:eX d k=[dY (bQ d)]:=by unfold eX;rw[hem,hlx];rfl
  rw[hK]
  obtain⟨p2,c2,h2,hone,k1,k2,k3,k4,k5⟩:=iq (cs:=be.cells (dY (bQ d))) (t:=61) kr xX (by decide) rfl hG hp (by rw[kB]) rfl (by simp only;omega) om
  have n9:bX (.slice q l.length c) i9=false:=by
   cases hbb:bX (.slice q l.length c) i9 with
   | false=>rfl
   | true=>
     obtain⟨ver2,h5⟩:=hG.obj hbb
     rw[hx9] at h5
     simp only[Option.some.injEq,ax.aq.injEq] at h5
     exact absurd h5.2.2.2 (by decide)
  have hx92:=k3 _ _ n9 hx9
  rw[S] at hob
  rw[S] at dg
  refine fN hk6 hk1 hob dg ?_
  refine ag rfl ?_
  refine aC ?_
  refine aA [(0,.val (.pointer (some ⟨i6,0,some 0⟩))),(1,.val (.pointer (some ⟨i1,0,some 0⟩))),(2,.val (.pointer (some ⟨i9,0,some 0⟩)))] aM ?_
  show CW _ _ ⟨_,[],hk⟩ _
  apply bm (L:=[[],[],[1],[1,2],[1,2,3],[1,2,3,4],[1,2,3,4,5],[0,1,2,3,4,5,6],[0,1,2,3,4,5,6,7]]) (act:=[7,8]) (hs:=[h2,h2.set i9 (.aq [.slice p2 (l.length+1) c2] 0 true 61)]) (resL:=[_,_,_,_,_,_,_,_,_]) (frF:=[])
  case hm=>exact mixed
  case hc=>kernel_rfl
  case ha=>rfl
  case hb=>rfl
  case hS=>
   refine Lu hx9 hk1 hob ?_
   apply az.cons
   ·rfl
   ·refine⟨?_,trivial⟩
    exact bg (fn:=Tryz.f99) (args:=[i64 (bQ d)]) (cap:=[]) rfl al rfl al al Tryz.func99 kr kr ml
   ·rfl
   refine Lu hx9 hk1 hob ?_
   apply az.cons
   ·rfl
   ·refine⟨?_,trivial⟩
    exact hone _ _ _ _ _ rfl al rfl al al
   ·rfl
   refine HZ hx9 hx92 ?_
   apply az.cons
   ·rfl
   ·refine⟨?_,trivial⟩
    exact One.jE (r:=.sl .dL) (cells':=[.slice p2 (l.length+1) c2]) al rfl al al hx92 al rfl rfl rfl
   ·rfl
   exact az.nil _
  case ht=>rfl
  case hF=>exact zh
  refine⟨_,al,rfl,aZ k2 h9,.slice p2 (l.length+1) c2,aw hx92,?_⟩
  rw[List.length_append,List.flatMap_append,List.flatMap_singleton]
  exact k1.mono fun j o hj ho=>by
   show (h2.set i9 _)[j]? = some o
   rw[aD ?_]
   ·exact ho
   ·rintro rfl
    rcases k4 _ hj with a|a
    ·rw[n9] at a;cases a
    ·have:=dw hx9;omega}
end
structure nq (d:bS):Prop where
 p:∀ p∈d.aa,xy d p
 n:d.aa.length≤200
 st:d.start∈aF d.aa
 ly:cY d.layout=true∨d.layout∈aF d.aa
 k:∀ k∈br d.aa,(cY k.name=true∨k.name∈aF d.aa)∧k.sep.size≤32
 kn:(br d.aa).length≤3000
theorem HO {l:List bM} {i:Nat} (hi:i<l.length):js (l.flatMap bM.cells) (i*7) 7=some [.bool l[i].lex,.string l[i].name,u64 l[i].set.a,u64 l[i].set.b,u64 l[i].set.c,u64 l[i].set.d,.string l[i].sep]:=bI (f:=bM.cells) (fun _=>rfl) l i l[i] (by simp [hi])
section
variable {h0 hk:ai} {im:Nat} {m:MK} {d:bS} {es:List (ByteArray×Int)} {ks:List (bM×Int)}
structure Mi (h0 hb:ai) (im:Nat) (m:MK) (x:ai×Value×Value) (l:List (dG×gN)):Prop where
 M:MR h0 x.1 im { m with vr:=x.2.1,vf:=x.2.2 } l
 K:bt Ji hb x.1
theorem Ae {l:List bM} {k:Nat} (hk:k<l.length):iP d (l.take (k+1))=iP d (l.take k)++AD d l[k]:=by
 unfold iP
 rw[List.take_succ_eq_append_getElem hk,List.flatMap_append,List.flatMap_singleton]
theorem pe {l:List bM}:(iP d l).length=2*l.length:=by{
unfold iP
induction l with
| nil=>rfl
| cons k l ih=>rw[List.flatMap_cons,List.length_append,ih];simp [AD];omega}
theorem DR (M:MR h0 hk im m []) (S:MS hk m d es ks) (hP:eL hk m.vP d.aa) (hs1:m.start=d.start) (hs2:m.layout=d.layout) (hO:aL h0 hk m.vo (br d.aa).length ((br d.aa).flatMap bM.cells) 154) (G:nq d) (hst:m.st=(eg d:Int)) : FW env 34 [.pointer (some ⟨im,0,some 0⟩)] hk fun r h'=>r = .tuple #[]∧∃ vr vf,MR h0 h' im { m with vr:=vr,vf:=vf } (nd d)∧bt Ji hk h':=by{
have hlP:=ct.le hP
obtain⟨pP,cP,hvP⟩:=ct.form hP
refine fe Tryz.func34 ?_;simp only[push_cast]
refine zu ?_
refine dK (t:=89) (cs:=[.pointer (some ⟨im,0,some 0⟩)]) al al ?_
dsimp only[St.a9,St.put]
have hpA:hk <+: hk++[ax.aq [.pointer (some ⟨im,0,some 0⟩)] 0 true 89]:=aJ
have hx1:(hk++[ax.aq [.pointer (some ⟨im,0,some 0⟩)] 0 true 89])[hk.length]? = some (.aq [.pointer (some ⟨im,0,some 0⟩)] 0 true 89):=aK
generalize (hk++[ax.aq [.pointer (some ⟨im,0,some 0⟩)] 0 true 89])=hb at hpA hx1 ⊢
generalize hi1:hk.length=i1 at hx1 ⊢
have KA:bt Ji hk hb:=bt.pre hpA
have MB:=M.pre hpA
have SB:=S.dH KA
have hPB:=hP.mono hpA
have hOB:=hO.dH KA (by decide)
have hobB:=MB.o
unfold MK.cells at hobB
rw[hvP] at hobB hPB
have hPB':eL hb (.slice pP d.aa.length cP) d.aa:=hPB
refine fz hx1 hobB ?_
refine CW.mono (Q:=fun e s'=>e = .exit 0∧∃ x:ai×Value×Value,Mi h0 hb im m x (gO d d.aa.length)∧s'.h=x.1∧bD [(1,.val (.pointer (some ⟨i1,0,some 0⟩)))] s'.fr) ?_ ?_
·refine aX d.aa.length (fun k (x:ai×Value×Value)=>[(1,.val (.pointer (some ⟨i1,0,some 0⟩))),(18,.val (.slice pP d.aa.length cP)),(19,.val (i64 d.aa.length)),(20,.val (i64 k))]) (fun _ x=>x.1) (fun k x=>Mi h0 hb im m x (gO d k)) (hb,m.vr,m.vf) aM rfl ⟨MB,bt.refl⟩ ?_
 rintro k ⟨hc,vr,vf⟩ hkn I
 by_cases hlt:k<d.aa.length
 ·have hPC:=hPB'.dI I.K (by decide) (by decide)
  simp only at hPC
  obtain⟨id,av,own,c',cells,u,hv,hid,hrd,hu⟩:=ct.at (k:=5) (fun _ _=>rfl) hPC hlt
  cases hv
  have hu:fB hc u d.aa[k].an:=hu
  have hu0:=hu
  obtain⟨ps,cs,rfl⟩:=bT.form hu
  have w1:=cz hlt
  have w2:=inc hlt om
  have q3:=aU hlt
  have GP:=G.p _ (List.getElem_mem hlt)
  have hmk:=sL GP.o
  have hrl:=nH G.p k
  have hn2:=G.n
  refine aG q3 ?_
  refine ag rfl ?_
  refine gU w1 hid hrd ?_
  refine zj Tryz.func95 ?_
  refine (Eu hu0 GP.o).mono ?_
  rintro _ h2 ⟨rfl,e7⟩
  obtain rfl:=e7.symm
  have hsucc:=ij hlt
  unfold jQ at hsucc
  generalize jU d.aa[k]=N at hmk hsucc
  refine aC ?_
  refine aX N (fun j (x:ai×Value×Value)=>[(1,.val (.pointer (some ⟨i1,0,some 0⟩))),(2,.val (i64 k)),(18,.val (.slice (some ⟨id,0,some av⟩) d.aa.length cP)),(19,.val (i64 d.aa.length)),(20,.val (i64 k)),(26,.val (i64 N)),(27,.val (i64 j))]) (fun _ x=>x.1) (fun j x=>Mi h0 hb im m x (gO d k++(List.range j).map fun q=>oF d k d.aa[k] q)) (hc,vr,vf) aM rfl (by rw[List.range_zero,List.map_nil,List.append_nil];exact I) ?_
  rintro j ⟨hd4,vr4,vf4⟩ hjn J
  by_cases hjl:j<N
  ·have v1:=cz hjl
   have v2:=inc hjl om
   have v3:=aU hjl
   have hx4:=J.K _ _ hx1 (cH (by decide))
   have hPJ:=hPB.dI J.K (by decide) (by decide)
   have SJ:=SB.dH J.K
   have MJ:=J.M
   simp only at hx4 hPJ SJ MJ ⊢
   have SJ':MS hd4 { m with vr:=vr4,vf:=vf4 } d es ks:=⟨SJ.sm,SJ.sg,SJ.lm,SJ.lg,SJ.gp⟩
   have hPJ':eL hd4 ({ m with vr:=vr4,vf:=vf4 }:MK).vP d.aa:=by show eL hd4 m.vP _;rw[hvP];exact hPJ
   refine aG v3 ?_
   refine ag rfl ?_
   refine aG hx4 ?_
   refine zj Tryz.func96 ?_
   refine (IE MJ SJ' hPJ' (kV:=k) (mask:=j) hlt GP om (by simp only[List.length_append,List.length_map,List.length_range];omega)).mono ?_
   rintro _ h5 ⟨rfl,vr5,vf5,M5,K5⟩
   refine aG v2 ?_
   refine⟨hjl,(h5,vr5,vf5),aM,rfl,⟨?_,J.K.trans K5⟩⟩
   rw[List.range_succ,List.map_append,← List.append_assoc]
   exact M5
  ·have v3:=aT hjl
   obtain rfl:j=N:=by omega
   simp only
   refine aG v3 ?_
   refine ae rfl ?_
   refine aB ?_
   show CW _ _ _ _
   refine aG w2 ?_
   refine⟨hlt,(hd4,vr4,vf4),aM,rfl,?_⟩
   show Mi _ _ _ _ _ (gO d (k+1))
   rw[hsucc]
   exact J
 ·have e3:=aT hlt
  obtain rfl:k=d.aa.length:=by omega
  simp only
  refine aG e3 ?_
  refine ae rfl ?_
  refine aB ?_
  exact⟨rfl,(hc,vr,vf),I,rfl,aM⟩
rintro e s' ⟨rfl,⟨h2,vr2,vf2⟩,I,hh,hf⟩
show CW _ _ _ _
refine aA _ hf ?_
rw[hh]
clear hf hh s'
obtain⟨qo,co,hvo⟩:=hOB.form
have hx2:=I.K _ _ hx1 (cH (by decide))
have hob2:=I.M.o
simp only[MK.cells,hvo] at hob2
simp only at hx2
have hrN:=nH G.p d.aa.length
have hn200:=G.n
have hkn:=G.kn
refine fz hx2 hob2 ?_
refine CW.mono (Q:=fun e s'=>e = .exit 4∧∃ x:ai×Value×Value,Mi h0 hb im m x (gO d d.aa.length++iP d (br d.aa))∧s'.h=x.1∧bD [(1,.val (.pointer (some ⟨i1,0,some 0⟩)))] s'.fr) ?_ ?_
·refine aX (br d.aa).length (fun k (x:ai×Value×Value)=>[(1,.val (.pointer (some ⟨i1,0,some 0⟩))),(39,.val (.slice qo (br d.aa).length co)),(40,.val (i64 (br d.aa).length)),(41,.val (i64 k))]) (fun _ x=>x.1) (fun k x=>Mi h0 hb im m x (gO d d.aa.length++iP d ((br d.aa).take k))) (h2,vr2,vf2) aM rfl (by rw[List.take_zero];show Mi _ _ _ _ _ (_++[]);rw[List.append_nil];exact I) ?_
 rintro k ⟨hc,vr,vf⟩ hkn' J
 by_cases hlt:k<(br d.aa).length
 ·have hOC:=hOB.dH J.K (by decide)
  simp only[hvo] at hOC
  obtain⟨id,av,own,c',hv,hid⟩:=(hOC.sl (b:=72) om).at om
  cases hv
  have hkg:=HO hlt
  have w1:=cz hlt
  have w2:=inc hlt om
  have q3:=aU hlt
  have htk:=Ae (d:=d) hlt
  obtain⟨hKn,hKs⟩:=G.k _ (List.getElem_mem hlt)
  have hKm:=List.getElem_mem hlt
  generalize (br d.aa)[k]=K at hkg htk hKn hKs hKm
  have hlk:(iP d ((br d.aa).take k)).length≤2*k:=by rw[pe,List.length_take];omega
  generalize hLL:gO d d.aa.length++iP d ((br d.aa).take k)=L at J
  have hLl:L.length≤10000:=by rw[← hLL,List.length_append];omega
  have MJ:=J.M
  simp only at MJ hid ⊢
  refine aG q3 ?_
  refine ag rfl ?_
  refine zu ?_
  iterate 2 (refine zx (Pn w1 hid hkg) ?_)
  refine dK (t:=154) (cs:=[.bool false,.string ⟨#[]⟩,u64 0,u64 0,u64 0,u64 0,.string ⟨#[]⟩]) al al ?_
  dsimp only[St.a9,St.put]
  refine bY (v:=K.val) (vs:=K.cells) (cells':=K.cells) al rfl rfl rfl al aK al rfl rfl ?_
  dsimp only
  have hset:(hc++[ax.aq [.bool false,.string ⟨#[]⟩,u64 0,u64 0,u64 0,u64 0,.string ⟨#[]⟩] 0 true 154]).set hc.length (.aq K.cells 0 true 154)=hc++[.aq K.cells 0 true 154]:=by simp
  rw[hset]
  have hp3:hc <+: hc++[ax.aq K.cells 0 true 154]:=aJ
  have hk3:(hc++[ax.aq K.cells 0 true 154])[hc.length]? = some (.aq K.cells 0 true 154):=aK
  generalize (hc++[ax.aq K.cells 0 true 154])=h3 at hp3 hk3 ⊢
  generalize hc.length=i6 at hk3 ⊢
  have K3:bt Ji hb h3:=J.K.trans (bt.pre hp3)
  have M3:=MJ.pre hp3
  have hx3:=K3 _ _ hx1 (cH (by decide))
  have S3:=SB.dH K3
  have hob3:=M3.o
  have hk3':=hk3
  simp only[MK.cells] at hob3
  simp only[bM.cells] at hk3'
  have hlm:=S3.lm
  have hgl:=S3.lg _ hKm
  have hkk:=re ks
  have hkd:=vy K
  unfold kQ at hkk hkd
  refine aC ?_
  refine aS 6 mixed kr ?_
  refine Cx hx3 hob3 hk3' hlm hgl hkk hkd ?_
  have S3':MS h3 { m with vr:=vr,vf:=vf } d es ks:=⟨S3.sm,S3.sg,S3.lm,S3.lg,S3.gp⟩
  refine zj Tryz.func97 ?_
  refine (xJ M3.o S3' hKn).mono ?_
  rintro _ h4 ⟨rfl,e7⟩
  obtain rfl:=e7.symm
  generalize hPK:mo d K.name K.set=PK
  refine aC ?_
  iterate 3 (refine zx (Si hx3) ?_)
  refine cV (t:=65) (cs:=be.cells PK) (n:=1) al kr ?_
  dsimp only[St.a9,St.put]
  have hp5:h3 <+: h3++[ax.aq (be.cells PK) 0 true 65]:=aJ
  have hu5:aL h3 (h3++[ax.aq (be.cells PK) 0 true 65]) (.slice (some ⟨h3.length,0,some 0⟩) 1 1) 1 (be.cells PK) 65:=.inr ⟨h3.length,0,Nat.le_refl _,rfl,aK⟩
  generalize (h3++[ax.aq (be.cells PK) 0 true 65])=h5 at hp5 hu5 ⊢
  generalize h3.length=i5 at hu5 ⊢
  refine aC ?_
  refine zj Tryz.func98 ?_
  have hr5:=kJ (M3.pre hp5) (lhs:=(mY d K:Int)) (kd:=1) (pr:=0) (mk:=0) (rhs:=[PK]) (os:=[]) (uo:=aH) (by simp only[List.flatMap_cons,List.flatMap_nil,List.append_nil];exact hu5.base M3.p) aL.nil om
  refine hr5.mono ?_
  rintro _ h6 ⟨rfl,vr6,vf6,M6,K6⟩
  have K6':bt Ji hb h6:=(K3.trans (bt.pre hp5)).trans K6
  have hx6:=K6' _ _ hx1 (cH (by decide))
  have hk6:=((bt.pre (ts:=Ji) hp5).trans K6) _ _ hk3 (cH (by decide))
  simp only at M6
  refine aC ?_
  refine zj Tryz.func99 ?_
  refine ml.mono ?_
  rintro _ h7 ⟨rfl,e7⟩
  obtain rfl:=e7.symm
  refine cV (t:=65) (cs:=be.cells (dY (mY d K))) (n:=1) al kr ?_
  dsimp only[St.a9,St.put]
  have hp7:h6 <+: h6++[ax.aq (be.cells (dY (mY d K))) 0 true 65]:=aJ
  have hu7:aL h6 (h6++[ax.aq (be.cells (dY (mY d K))) 0 true 65]) (.slice (some ⟨h6.length,0,some 0⟩) 1 1) 1 (be.cells (dY (mY d K))) 65:=.inr ⟨h6.length,0,Nat.le_refl _,rfl,aK⟩
  generalize (h6++[ax.aq (be.cells (dY (mY d K))) 0 true 65])=h7 at hp7 hu7 ⊢
  generalize hv7:Value.slice (some ⟨h6.length,0,some 0⟩) 1 1=v7 at hu7 ⊢
  have hvc7:ee 1 v7=some [v7]:=by rw[← hv7];rfl
  refine dK (t:=61) (cs:=[aH]) al al ?_
  dsimp only[St.a9,St.put]
  refine bY (v:=v7) (vs:=[v7]) (cells':=[v7]) al rfl rfl rfl al aK al (by rw[← hv7];rfl) rfl ?_
  dsimp only
  have hset8:(h7++[ax.aq [aH] 0 true 61]).set h7.length (.aq [v7] 0 true 61)=h7++[.aq [v7] 0 true 61]:=by simp
  rw[hset8]
  have hp8:h6 <+: h7++[ax.aq [v7] 0 true 61]:=dt hp7
  have hx8:(h7++[ax.aq [v7] 0 true 61])[h7.length]? = some (.aq [v7] 0 true 61):=aK
  have hu8:aL h6 (h7++[ax.aq [v7] 0 true 61]) v7 1 (be.cells (dY (mY d K))) 65:=hu7.mono fun j o _ ho=>bA ho
  generalize (h7++[ax.aq [v7] 0 true 61])=h8 at hp8 hx8 hu8 ⊢
  have hl9:h6.length≤h7.length:=hp7.length_le
  generalize h7.length=i9 at hx8 hl9 ⊢
  refine aC ?_
  refine zc (f:=100) (cap:=[.pointer (some ⟨i6,0,some 0⟩),.pointer (some ⟨i1,0,some 0⟩),.pointer (some ⟨i9,0,some 0⟩)]) (args:=[]) (fn:=Tryz.f100) al Tryz.func100 kr kr ?_
  have hgp:({ m with vr:=vr6,vf:=vf6 }:MK).mh=bQ d:=SB.gp
  refine (ym (ha:=h6) (l:=[dY (mY d K)]) hp8 hl9 hgp M6.o hk6 hx6 hx8 (by simp only[List.flatMap_cons,List.flatMap_nil,List.append_nil];exact hu8) (by simp)).mono ?_
  rintro _ h9 ⟨rfl,hp9,v9,hx9,hu9⟩
  have hsl:(eX d K).length≤1:=by unfold eX;split<;>simp
  have hl1:([dY (mY d K)]++eX d K).length≤2:=by rw[List.length_append,List.length_singleton];omega
  have hmore:tk d K=([dY (mY d K)]++eX d K)++(if cY K.sep=true then [] else k9 K.sep++eX d K)++[PK]:=by rw[← hPK];rfl
  generalize hL1:[dY (mY d K)]++eX d K=L1 at hu9 hl1 hmore
  obtain⟨L2,hL2⟩:∃ L2,L2=L1++(if cY K.sep=true then [] else k9 K.sep++eX d K):=⟨_,rfl⟩
  rw[← hL2] at hmore
  have hk9:=af hp9 hk6
  simp only[bM.cells] at hk9
  refine aG hk9 ?_
  refine CW.mono (Q:=fun e s'=>e = .normal∧∃ (h10:ai) (v10:Value),h6 <+: h10∧h10[i9]? = some (.aq [v10] 0 true 61)∧aL h6 h10 v10 L2.length (L2.flatMap be.cells) 65∧s'.h=h10∧bD [(1,.val (.pointer (some ⟨i1,0,some 0⟩))),(6,.val (.pointer (some ⟨i6,0,some 0⟩))),(7,.val (i64 (mY d K:Int))),(8,.box [i64 PK.nt,u64 PK.set.a,u64 PK.set.b,u64 PK.set.c,u64 PK.set.d]),(9,.val (.pointer (some ⟨i9,0,some 0⟩))),(39,.val (.slice (some ⟨id,0,some av⟩) (br d.aa).length co)),(40,.val (i64 (br d.aa).length)),(41,.val (i64 k))] s'.fr) ?_ ?_
  ·by_cases qs:K.sep=⟨#[]⟩
   ·have d1:=decide_eq_true qs
    rw[if_pos (by unfold cY;exact d1),List.append_nil] at hL2
    rw[d1,hL2]
    refine ae rfl ?_
    refine cE ?_
    exact⟨rfl,h9,v9,hp9,hx9,hu9,rfl,aM⟩
   ·have d1:=decide_eq_false qs
    rw[if_neg (by unfold cY;rw[d1];decide)] at hL2
    rw[d1]
    refine ag rfl ?_
    refine aC ?_
    have hlit:=Gv (h:=h9) (t:=K.sep) om
    unfold FW at hlit
    obtain⟨rl,h11,hcallL,hp11,hGl⟩:=hlit
    obtain⟨ql,cl,rfl⟩:=hGl.form
    have hll:(k9 K.sep).length=K.sep.size:=by unfold k9;simp
    have hs0:0<K.sep.size:=by
     rcases Nat.eq_zero_or_pos K.sep.size with a|a
     ·exact absurd (jz.2 a) qs
     ·exact a
    have hu11:=hu9.dH (bt.pre (ts:=[]) hp11) (by simp)
    have hx11:=af hp11 hx9
    have n9:bX v9 i9=false:=by
     cases hbb:bX v9 i9 with
     | false=>rfl
     | true=>
       obtain⟨ver2,h5⟩:=hu9.obj hbb
       rw[hx9] at h5
       simp only[Option.some.injEq,ax.aq.injEq] at h5
       exact absurd h5.2.2.2 (by decide)
    obtain⟨p12,c12,h12,honeL,k2,k1,k3⟩:=Di (t:=61) kr xX (by decide) rfl hu11 (hp9.trans hp11) (by rw[kB]) (hGl.sl (b:=40) om) (by rw[kB]) om (by simp only;omega) om
    have hx12:=k3 _ _ n9 hx11
    have hk11:=af hp11 hk9
    obtain⟨v12,hv12⟩:∃ v,v=Value.slice p12 (L1.length+(k9 K.sep).length) c12:=⟨_,rfl⟩
    have hvc12:ee 1 v12=some [v12]:=by rw[hv12];rfl
    rw[← hv12] at k2 honeL
    refine aA [(1,.val (.pointer (some ⟨i1,0,some 0⟩))),(6,.val (.pointer (some ⟨i6,0,some 0⟩))),(7,.val (i64 (mY d K:Int))),(8,.box [i64 PK.nt,u64 PK.set.a,u64 PK.set.b,u64 PK.set.c,u64 PK.set.d]),(9,.val (.pointer (some ⟨i9,0,some 0⟩))),(10,.val (.func (.func 100) #[] #[.pointer (some ⟨i6,0,some 0⟩),.pointer (some ⟨i1,0,some 0⟩),.pointer (some ⟨i9,0,some 0⟩)])),(39,.val (.slice (some ⟨id,0,some av⟩) (br d.aa).length co)),(40,.val (i64 (br d.aa).length)),(41,.val (i64 k))] aM ?_
    show CW _ _ ⟨_,[],h9⟩ _
    try apply zs
    apply bm (L:=[[],[],[1],[1,2],[0,1,2,3],[0,1,2,3,4]]) (act:=[3,4,5]) (hs:=[h11,h12,h12.set i9 (.aq [v12] 0 true 61)]) (resL:=[_,_,_,_,_,_]) (frF:=[(1,.val (.pointer (some ⟨i1,0,some 0⟩))),(6,.val (.pointer (some ⟨i6,0,some 0⟩))),(7,.val (i64 (mY d K:Int))),(8,.box [i64 PK.nt,u64 PK.set.a,u64 PK.set.b,u64 PK.set.c,u64 PK.set.d]),(9,.val (.pointer (some ⟨i9,0,some 0⟩))),(10,.val (.func (.func 100) #[] #[.pointer (some ⟨i6,0,some 0⟩),.pointer (some ⟨i1,0,some 0⟩),.pointer (some ⟨i9,0,some 0⟩)])),(39,.val (.slice (some ⟨id,0,some av⟩) (br d.aa).length co)),(40,.val (i64 (br d.aa).length)),(41,.val (i64 k))])
    case hm=>exact mixed
    case hc=>kernel_rfl
    case ha=>rfl
    case hb=>rfl
    case hS=>
     refine uV hx9 hx11 hk9 hk11 ?_
     apply az.cons
     ·rfl
     ·refine⟨?_,trivial⟩
      exact dF (args:=[.string K.sep]) (cap:=[]) (fn:=Tryz.f101) al rfl al al Tryz.func101 kr kr hcallL
     ·rfl
     apply az.cons
     ·rfl
     ·refine⟨?_,trivial⟩
      exact honeL _ _ _ _ _ rfl al rfl al al
     ·rfl
     apply az.cons
     ·rfl
     ·refine⟨?_,trivial⟩
      exact One.jE (r:=.sl .dL) (v:=v12) (vs:=[v12]) (cells':=[v12]) al rfl al al hx12 al hvc12 rfl rfl
     ·rfl
     exact az.nil _
    case ht=>rfl
    case hF=>exact zh
    show CW _ _ _ _
    have hx13:(h12.set i9 (.aq [v12] 0 true 61))[i9]? = some (.aq [v12] 0 true 61):=aw hx12
    have hp13:h6 <+: h12.set i9 (.aq [v12] 0 true 61):=aZ k1 hl9
    have hu13:aL h6 (h12.set i9 (.aq [v12] 0 true 61)) v12 (L1++k9 K.sep).length ((L1++k9 K.sep).flatMap be.cells) 65:=by
     rw[List.length_append,List.flatMap_append]
     exact k2.dH (bt.set hx12) (by decide)
    generalize (h12.set i9 (ax.aq [v12] 0 true 61))=h13 at hx13 hp13 hu13 ⊢
    refine aC ?_
    refine zc (f:=100) (cap:=[.pointer (some ⟨i6,0,some 0⟩),.pointer (some ⟨i1,0,some 0⟩),.pointer (some ⟨i9,0,some 0⟩)]) (args:=[]) (fn:=Tryz.f100) al Tryz.func100 kr kr ?_
    refine (ym (ha:=h6) (l:=L1++k9 K.sep) hp13 hl9 hgp M6.o hk6 hx6 hx13 hu13 (by rw[List.length_append];omega)).mono ?_
    rintro _ h14 ⟨rfl,hp14,v14,hx14,hu14⟩
    refine aC ?_
    refine⟨rfl,h14,v14,hp14,hx14,?_,rfl,aM⟩
    rw[hL2,← List.append_assoc]
    exact hu14
  rintro e s' ⟨rfl,h10,v10,hp10,hx10,hu10,hh,hf⟩
  show CW _ _ _ _
  refine aA _ hf ?_
  rw[hh]
  clear hf hh s'
  have hx1':=af hp10 hx6
  have hL2l:L2.length≤100:=by
   rw[hL2,List.length_append]
   have:(k9 K.sep).length=K.sep.size:=by unfold k9;simp
   split
   ·simp;omega
   ·rw[List.length_append];omega
  obtain⟨q10,c10,rfl⟩:=hu10.form
  obtain⟨p11,c11,h11,hone,k1,k2,k3,k4,k5⟩:=iq (cs:=be.cells PK) (t:=61) kr xX (by decide) rfl hu10 hp10 (by rw[kB]) rfl (by simp only;omega) om
  have hML:tk d K=L2++[PK]:=hmore
  have hx1'':=af k2 hx6
  have hr11:=kJ (M6.pre k2) (lhs:=(mY d K:Int)) (kd:=2) (pr:=0) (mk:=0) (ur:=.slice p11 (L2.length+1) c11) (rhs:=tk d K) (os:=[]) (uo:=aH) (by
   rw[hML,List.length_append,List.flatMap_append,List.flatMap_singleton]
   exact k1.base M6.p) aL.nil (by rw[List.length_append,List.length_singleton];omega)
  unfold FW at hr11
  obtain⟨r12,h12,hcall,rfl,vr12,vf12,M12,K12⟩:=hr11
  refine aA [(1,.val (.pointer (some ⟨i1,0,some 0⟩))),(7,.val (i64 (mY d K:Int))),(8,.box [i64 PK.nt,u64 PK.set.a,u64 PK.set.b,u64 PK.set.c,u64 PK.set.d]),(9,.val (.pointer (some ⟨i9,0,some 0⟩))),(39,.val (.slice (some ⟨id,0,some av⟩) (br d.aa).length co)),(40,.val (i64 (br d.aa).length)),(41,.val (i64 k))] aM ?_
  show CW _ _ ⟨_,[],h10⟩ _
  apply bm (L:=[[],[],[],[],[3],[2,3,4],[],[0,1,2,3,4,5,6]]) (act:=[5,7]) (hs:=[h11,h12]) (resL:=[_,_,_,_,_,_,_,_]) (frF:=[(1,.val (.pointer (some ⟨i1,0,some 0⟩))),(39,.val (.slice (some ⟨id,0,some av⟩) (br d.aa).length co)),(40,.val (i64 (br d.aa).length)),(41,.val (i64 k))])
  case hm=>exact mixed
  case hc=>kernel_rfl
  case ha=>rfl
  case hb=>rfl
  case hS=>
   refine Lu hx1' hx1'' hx10 ?_
   apply az.cons
   ·rfl
   ·refine⟨?_,trivial⟩
    exact hone _ _ _ _ _ rfl al rfl al al
   ·rfl
   refine Lu hx1' hx1'' hx10 ?_
   apply az.cons
   ·rfl
   ·refine⟨?_,trivial⟩
    exact dF (args:=[.pointer (some ⟨im,0,some 0⟩),i64 (mY d K:Int),.slice p11 (L2.length+1) c11,.agg #[i64 2,i64 0,i64 0,aH]]) (cap:=[]) (fn:=Tryz.f98) al rfl al al Tryz.func98 kr kr hcall
   ·rfl
   exact az.nil _
  case ht=>rfl
  case hF=>exact zh
  show CW _ _ _ _
  refine aG w2 ?_
  refine⟨hlt,(h12,vr12,vf12),aM,rfl,⟨?_,(K6'.trans (bt.pre k2)).trans K12⟩⟩
  rw[htk,← List.append_assoc,hLL]
  unfold AD
  rw[hPK]
  have e:L++[((⟨(mY d K:Int),[PK]⟩,⟨1,0,0,[]⟩):dG×gN),(⟨(mY d K:Int),tk d K⟩,⟨2,0,0,[]⟩)]=(L++[(⟨(mY d K:Int),[PK]⟩,⟨1,0,0,[]⟩)])++[(⟨(mY d K:Int),tk d K⟩,⟨2,0,0,[]⟩)]:=by simp
  rw[e]
  exact M12
 ·have e3:=aT hlt
  obtain rfl:k=(br d.aa).length:=by omega
  rw[List.take_length] at J
  simp only
  refine aG e3 ?_
  refine ae rfl ?_
  refine aB ?_
  exact⟨rfl,(hc,vr,vf),J,rfl,aM⟩
clear hob2 hx2 I
rintro e s' ⟨rfl,⟨hz,vr,vf⟩,I,hh,hf⟩
show CW _ _ _ _
refine aA _ hf ?_
rw[hh]
clear hf hh s'
obtain⟨L,hL⟩:∃ L,L=gO d d.aa.length++iP d (br d.aa):=⟨_,rfl⟩
rw[← hL] at I
have hLl:L.length≤10000:=by rw[hL,List.length_append,pe];omega
have hros:nd d=L++oZ d:=by rw[hL];rfl
have MZ:=I.M
have KZ:=I.K
simp only at MZ KZ ⊢
have hxz:=KZ _ _ hx1 (cH (by decide))
have SZ:=SB.dH KZ
have hsm:=SZ.sm
have hg:=SZ.sg _ G.st
have hgp:=SZ.gp
have hkk:=bz es
have obz:=MZ.o
simp only[MK.cells,hs1,hs2,hst] at obz
show CW _ _ ⟨_,[],hz⟩ _
apply zs
apply AQ (L:=[[],[0],[0,1],[0,1,2],[0,1,2,3],[0,1,2,3,4],[],[6],[6,7],[6,7,8],[],[10],[10,11],[10,11,12],[10,11,12,13],[10,11,12,13,14],[6,7,8,9,10,11,12,13,14,15],[6,7,8,9,10,11,12,13,14,15,16],[],[0,1,2,3,4,5],[6,7,8,9,10,11,12,13,14,15,16,17,18]]) (act:=[]) (hs:=[]) (resL:=[_,_,_,_,_,_,_,_,_,_,_,_,_,_,_,_,_,_,_,_,.sl .dL]) (frF:=[(1,.val (.pointer (some ⟨i1,0,some 0⟩))),(11,.val (i64 (eg d:Int))),(12,.box (be.cells (dY (gJ d d.start))))]) (a:=18) (st:=20) (d:=12) (cs':=be.cells (dY (gJ d d.start)))
case hm=>exact mixed
case hc=>kernel_rfl
case ha=>rfl
case hb=>rfl
case hfree=>rfl
case hna=>rfl
case hanc=>rfl
case ho=>rfl
case hop=>rfl
case hod=>rfl
case hda=>rfl
case hS1=>
 refine NG hxz obz hsm hg hkk ?_
 apply az.cons
 ·rfl
 ·refine⟨?_,trivial⟩
  exact bg (fn:=Tryz.f99) (args:=[i64 ((gJ d d.start:Nat))]) (cap:=[]) rfl al rfl al al Tryz.func99 kr kr ml
 ·rfl
 exact Sn
case hS2=>exact Sn
case hra=>rfl
case hti=>exact xX
case hw=>intro H;exact al
case hp=>intro H;exact (by simp only[push_cast,env,Nat.reduceEqDiff,reduceIte,oX,fY]<;>exact rfl)
case hbx=>intro H;exact al
case hv=>intro H;exact al
case hvs=>rfl
case hwr=>rfl
case ht=>rfl
case hF=>exact zh
show CW _ _ _ _
cases hem:cY d.layout with
| true=>
  have dg:decide (m.mh<0)=true:=by rw[hgp];unfold bQ;rw[if_pos hem];rfl
  have hT:oZ d=[(⟨eg d,[dY (gJ d d.start)]⟩,⟨5,0,0,[]⟩)]:=by unfold oZ;rw[if_pos hem]
  refine gU hxz obz dg ?_
  refine ag rfl ?_
  refine zu ?_
  iterate 3 (refine zx (Si hxz) ?_)
  refine cV (t:=65) (cs:=be.cells (dY (gJ d d.start))) (n:=1) al kr ?_
  dsimp only[St.a9,St.put]
  have hp5:hz <+: hz++[ax.aq (be.cells (dY (gJ d d.start))) 0 true 65]:=aJ
  have hu5:aL hz (hz++[ax.aq (be.cells (dY (gJ d d.start))) 0 true 65]) (.slice (some ⟨hz.length,0,some 0⟩) 1 1) 1 (be.cells (dY (gJ d d.start))) 65:=.inr ⟨hz.length,0,Nat.le_refl _,rfl,aK⟩
  generalize (hz++[ax.aq (be.cells (dY (gJ d d.start))) 0 true 65])=h5 at hp5 hu5 ⊢
  generalize hz.length=i5 at hu5 ⊢
  refine aC ?_
  refine zj Tryz.func98 ?_
  have hr5:=kJ (MZ.pre hp5) (lhs:=(eg d:Int)) (kd:=5) (pr:=0) (mk:=0) (rhs:=[dY (gJ d d.start)]) (os:=[]) (uo:=aH) (by simp only[List.flatMap_cons,List.flatMap_nil,List.append_nil];exact hu5.base MZ.p) aL.nil om
  refine hr5.mono ?_
  rintro _ h6 ⟨rfl,vr6,vf6,M6,K6⟩
  refine aC ?_
  refine ak ?_
  refine⟨_,al,rfl,vr6,vf6,?_,(KA.trans KZ).trans ((bt.pre hp5).trans K6)⟩
  rw[hros,hT]
  exact M6
| false=>
  have hgn:bQ d=((nS d+nK d:Nat):Int):=by unfold bQ;rw[if_neg (by rw[hem];decide)]
  have dg:decide (m.mh<0)=false:=by rw[hgp,hgn];exact decide_eq_false om
  have hT:oZ d=[(⟨bQ d,[]⟩,⟨3,0,0,[]⟩),(⟨bQ d,[dY (bQ d),dY (gJ d d.layout)]⟩,⟨4,0,0,[]⟩),(⟨eg d,[dY (bQ d),dY (gJ d d.start),dY (bQ d)]⟩,⟨5,0,0,[]⟩)]:=by unfold oZ;rw[if_neg (by rw[hem];decide)]
  have hly:=G.ly.resolve_left (by rw[hem];decide)
  refine gU hxz obz dg ?_
  refine ae rfl ?_
  rw[hgp] at obz
  refine aC ?_
  refine aS 6 mixed kr ?_
  refine fz hxz obz ?_
  refine zj Tryz.func98 ?_
  have hr5:=kJ MZ (lhs:=bQ d) (kd:=3) (pr:=0) (mk:=0) (rhs:=[]) (os:=[]) (ur:=aH) (uo:=aH) aL.nil aL.nil om
  refine hr5.mono ?_
  rintro _ h6 ⟨rfl,vr6,vf6,M6,K6⟩
  have KZ6:=KZ.trans K6
  have hx6:=KZ6 _ _ hx1 (cH (by decide))
  have S6:=SB.dH KZ6
  have hsm6:=S6.sm
  have hg6:=S6.sg _ hly
  have ob6:=M6.o
  simp only[MK.cells,hs1,hs2,hst,hgp] at ob6
  have hp7:h6 <+: h6++[ax.aq (be.cells (dY (bQ d))++be.cells (dY (gJ d d.layout))) 0 true 65]:=aJ
  have hu7:aL h6 (h6++[ax.aq (be.cells (dY (bQ d))++be.cells (dY (gJ d d.layout))) 0 true 65]) (.slice (some ⟨h6.length,0,some 0⟩) 2 2) 2 (be.cells (dY (bQ d))++be.cells (dY (gJ d d.layout))) 65:=.inr ⟨h6.length,0,Nat.le_refl _,rfl,aK⟩
  have hr7:=kJ (M6.pre hp7) (lhs:=bQ d) (kd:=4) (pr:=0) (mk:=0) (rhs:=[dY (bQ d),dY (gJ d d.layout)]) (os:=[]) (uo:=aH) (by simp only[List.flatMap_cons,List.flatMap_nil,List.append_nil];exact hu7.base M6.p) aL.nil (by rw[List.length_append,List.length_singleton];omega)
  unfold FW at hr7
  obtain⟨r8,h8,hcall8,rfl,vr8,vf8,M8,K8⟩:=hr7
  have hx7:=af hp7 hx6
  have ob7:=af hp7 ob6
  have hsm7:=af hp7 hsm6
  refine aC ?_
  refine aA [(1,.val (.pointer (some ⟨i1,0,some 0⟩))),(11,.val (i64 (eg d:Int))),(12,.box (be.cells (dY (gJ d d.start))))] aM ?_
  show CW _ _ ⟨_,[],h6⟩ _
  try apply zs
  apply bm (L:=[[],[],[1],[1,2],[1,2,3],[],[5],[5,6],[5,6,7],[5,6,7,8],[],[10],[10,11],[10,11,12],[],[14],[14,15],[14,15,16],[14,15,16,17],[14,15,16,17,18],[10,11,12,13,14,15,16,17,18,19],[10,11,12,13,14,15,16,17,18,19,20],[5,6,7,8,9,10,11,12,13,14,15,16,17,18,19,20,21],[],[0,1,2,3,4,5,6,7,8,9,10,11,12,13,14,15,16,17,18,19,20,21,22,23]]) (act:=[22,24]) (hs:=[h6++[ax.aq (be.cells (dY (bQ d))++be.cells (dY (gJ d d.layout))) 0 true 65],h8]) (resL:=[_,_,_,_,_,_,_,_,_,_,_,_,_,_,_,_,_,_,_,_,_,_,_,_,_]) (frF:=[(1,.val (.pointer (some ⟨i1,0,some 0⟩))),(11,.val (i64 (eg d:Int))),(12,.box (be.cells (dY (gJ d d.start))))])
  case hm=>exact mixed
  case hc=>kernel_rfl
  case ha=>rfl
  case hb=>rfl
  case hS=>
   refine JN hx6 ob6 hx7 ob7 hsm6 hsm7 hg6 hkk ?_
   apply az.cons
   ·rfl
   ·refine⟨?_,trivial⟩
    exact bg (fn:=Tryz.f99) (args:=[i64 (bQ d)]) (cap:=[]) rfl al rfl al al Tryz.func99 kr kr ml
   ·rfl
   refine JN hx6 ob6 hx7 ob7 hsm6 hsm7 hg6 hkk ?_
   apply az.cons
   ·rfl
   ·refine⟨?_,trivial⟩
    exact bg (fn:=Tryz.f99) (args:=[i64 ((gJ d d.layout:Nat))]) (cap:=[]) rfl al rfl al al Tryz.func99 kr kr ml
   ·rfl
   apply az.cons
   ·rfl
   ·refine⟨?_,trivial⟩
    exact o0 (h:=h6) (n:=2) (t:=65) (cs:=be.cells (dY (bQ d))++be.cells (dY (gJ d d.layout))) rfl al kr
   ·rfl
   refine UW ?_
   apply az.cons
   ·rfl
   ·refine⟨?_,trivial⟩
    exact dF (args:=[.pointer (some ⟨im,0,some 0⟩),i64 (bQ d),.slice (some ⟨h6.length,0,some 0⟩) 2 2,.agg #[i64 4,i64 0,i64 0,aH]]) (cap:=[]) (fn:=Tryz.f98) al rfl al al Tryz.func98 kr kr hcall8
   ·rfl
   exact az.nil _
  case ht=>rfl
  case hF=>exact zh
  show CW _ _ _ _
  have KZ8:=(KZ6.trans (bt.pre hp7)).trans K8
  have hx8:=KZ8 _ _ hx1 (cH (by decide))
  have ob8:=M8.o
  simp only[MK.cells,hs1,hs2,hst,hgp] at ob8
  have hp9:h8 <+: h8++[ax.aq (be.cells (dY (bQ d))++be.cells (dY (gJ d d.start))++be.cells (dY (bQ d))) 0 true 65]:=aJ
  have hu9:aL h8 (h8++[ax.aq (be.cells (dY (bQ d))++be.cells (dY (gJ d d.start))++be.cells (dY (bQ d))) 0 true 65]) (.slice (some ⟨h8.length,0,some 0⟩) 3 3) 3 (be.cells (dY (bQ d))++be.cells (dY (gJ d d.start))++be.cells (dY (bQ d))) 65:=.inr ⟨h8.length,0,Nat.le_refl _,rfl,aK⟩
  have hr9:=kJ (M8.pre hp9) (lhs:=(eg d:Int)) (kd:=5) (pr:=0) (mk:=0) (rhs:=[dY (bQ d),dY (gJ d d.start),dY (bQ d)]) (os:=[]) (uo:=aH) (by simp only[List.flatMap_cons,List.flatMap_nil,List.append_nil];rw[← List.append_assoc];exact hu9.base M8.p) aL.nil (by rw[List.length_append,List.length_append,List.length_singleton,List.length_singleton];omega)
  unfold FW at hr9
  obtain⟨r10,h10,hcall10,rfl,vr10,vf10,M10,K10⟩:=hr9
  have hx9:=af hp9 hx8
  have ob9:=af hp9 ob8
  refine aA [(1,.val (.pointer (some ⟨i1,0,some 0⟩))),(11,.val (i64 (eg d:Int))),(12,.box (be.cells (dY (gJ d d.start))))] aM ?_
  show CW _ _ ⟨_,[],h8⟩ _
  try apply zs
  apply bm (L:=[[],[],[],[2],[2,3],[2,3,4],[2,3,4,5],[],[],[8],[8,9],[8,9,10],[8,9,10,11],[2,3,4,5,6,7,8,9,10,11,12],[],[0,1,2,3,4,5,6,7,8,9,10,11,12,13,14]]) (act:=[13,15]) (hs:=[h8++[ax.aq (be.cells (dY (bQ d))++be.cells (dY (gJ d d.start))++be.cells (dY (bQ d))) 0 true 65],h10]) (resL:=[_,_,_,_,_,_,_,_,_,_,_,_,_,_,_,_]) (frF:=[])
  case hm=>exact mixed
  case hc=>kernel_rfl
  case ha=>rfl
  case hb=>rfl
  case hS=>
   refine uV hx8 ob8 hx9 ob9 ?_
   apply az.cons
   ·rfl
   ·refine⟨?_,trivial⟩
    exact bg (fn:=Tryz.f99) (args:=[i64 (bQ d)]) (cap:=[]) rfl al rfl al al Tryz.func99 kr kr ml
   ·rfl
   refine uV hx8 ob8 hx9 ob9 ?_
   apply az.cons
   ·rfl
   ·refine⟨?_,trivial⟩
    exact bg (fn:=Tryz.f99) (args:=[i64 (bQ d)]) (cap:=[]) rfl al rfl al al Tryz.func99 kr kr ml
   ·rfl
   apply az.cons
   ·rfl
   ·refine⟨?_,trivial⟩
    exact o0 (h:=h8) (n:=3) (t:=65) (cs:=be.cells (dY (bQ d))++be.cells (dY (gJ d d.start))++be.cells (dY (bQ d))) rfl al kr
   ·rfl
   refine UW ?_
   apply az.cons
   ·rfl
   ·refine⟨?_,trivial⟩
    exact dF (args:=[.pointer (some ⟨im,0,some 0⟩),i64 (eg d:Int),.slice (some ⟨h8.length,0,some 0⟩) 3 3,.agg #[i64 5,i64 0,i64 0,aH]]) (cap:=[]) (fn:=Tryz.f98) al rfl al al Tryz.func98 kr kr hcall10
   ·rfl
   exact az.nil _
  case ht=>rfl
  case hF=>exact zh
  refine⟨_,al,rfl,vr10,vf10,?_,(KA.trans KZ8).trans ((bt.pre hp9).trans K10)⟩
  rw[hros,hT]
  have e:L++[((⟨bQ d,[]⟩,⟨3,0,0,[]⟩):dG×gN),(⟨bQ d,[dY (bQ d),dY (gJ d d.layout)]⟩,⟨4,0,0,[]⟩),(⟨eg d,[dY (bQ d),dY (gJ d d.start),dY (bQ d)]⟩,⟨5,0,0,[]⟩)]=((L++[(⟨bQ d,[]⟩,⟨3,0,0,[]⟩)])++[(⟨bQ d,[dY (bQ d),dY (gJ d d.layout)]⟩,⟨4,0,0,[]⟩)])++[(⟨eg d,[dY (bQ d),dY (gJ d d.start),dY (bQ d)]⟩,⟨5,0,0,[]⟩)]:=by simp
  rw[e]
  exact M10}
end
theorem bw {all:Array Oper} {o:Oper} {s:St} {h h':ai} {t et:TypeId} {a x:Operand} {ti:TI} {id off av:Nat} {cells vs cells':List Value} {v:Value} {r:gu} (hh:s.h=h) (hw:aE all o s=some true) (ho:o.op = .store t a x) (ht:au env.P t=some ti) (ha:ev s a=some (.pointer (some ⟨id,off,some av⟩))) (hid:h[id]? = some (.aq cells av true et)) (hx:ev s x=some v) (hv:ee ti.size v=some vs)
 (hq:lL cells off vs=some cells') (hd:o.dst=none) (he:h'=h.set id (ax.aq cells' av true et)):One env all o s r h':=by
 subst hh he
 exact .jE hw ho ht ha hid hx hv hq hd
structure aR where
 ef:Nat
 jO:Nat
 nO:Nat
 deriving DecidableEq
def aR.cells (x:aR):List Value:=[i64 x.ef,i64 x.jO,i64 x.nO]
abbrev aR.val (x:aR):Value:=.agg #[i64 x.ef,i64 x.jO,i64 x.nO]
def fA (x y:aR):Int:=if x.ef≠y.ef then (x.ef:Int)-y.ef else if x.jO≠y.jO then (x.jO:Int)-y.jO else (x.nO:Int)-y.nO
def bx (x y:aR):Bool:=decide (fA x y<0)
def GC (x:aR):Prop:=x.ef≤1000000∧x.jO≤1000000∧x.nO≤1000000
theorem wO {x y:aR}:bx x y=true↔x.ef<y.ef∨x.ef=y.ef∧(x.jO<y.jO∨x.jO=y.jO∧x.nO<y.nO):=by{
unfold bx fA
rw[decide_eq_true_eq]
by_cases h1:x.ef=y.ef
·rw[if_neg om]
 by_cases h2:x.jO=y.jO
 ·rw[if_neg om]
  omega
 ·rw[if_pos h2]
  omega
·rw[if_pos h1]
 omega}
theorem me {x y:aR}:bx x y=false↔¬ (x.ef<y.ef∨x.ef=y.ef∧(x.jO<y.jO∨x.jO=y.jO∧x.nO<y.nO)):=by
 rw[← wO,Bool.not_eq_true]
theorem kI:Go.Sort.SWO bx:=by{
refine⟨fun x=>?_,fun x y z h1 h2=>?_,fun x y z h1 h2=>?_⟩
·rw[me];omega
·rw[wO] at *;omega
·rw[me] at *;omega}
theorem zW {x y:aR} (h1:bx x y=false) (h2:bx y x=false):x=y:=by{
rw[me] at h1 h2
cases x;cases y
simp only[aR.mk.injEq]
simp only at h1 h2
omega}
theorem bJ {h:ai} {x y:aR} (hx:GC x) (hy:GC y):FW env 104 [x.val,y.val] h fun r h'=>r=i64 (fA x y)∧h'=h:=by{
obtain⟨x1,x2,x3⟩:=hx
obtain⟨y1,y2,y3⟩:=hy
have e1:IntKind.i64.wrap ((x.ef:Int)-y.ef)=(x.ef:Int)-y.ef:=ay om om
have e2:IntKind.i64.wrap ((x.jO:Int)-y.jO)=(x.jO:Int)-y.jO:=ay om om
have e3:IntKind.i64.wrap ((x.nO:Int)-y.nO)=(x.nO:Int)-y.nO:=ay om om
refine fe Tryz.func104 ?_;simp only[push_cast]
by_cases h1:x.ef=y.ef
·have d1:decide ((x.ef:Int)=(y.ef:Int))=true:=decide_eq_true om
 refine aG d1 ?_
 refine ae rfl ?_
 by_cases h2:x.jO=y.jO
 ·have d2:decide ((x.jO:Int)=(y.jO:Int))=true:=decide_eq_true om
  refine aG d2 ?_
  refine ae rfl ?_
  refine aG e3 ?_
  refine ak ?_
  exact⟨_,al,by unfold fA;rw[if_neg om,if_neg om];rfl,rfl⟩
 ·have d2:decide ((x.jO:Int)=(y.jO:Int))=false:=decide_eq_false om
  refine aG d2 ?_
  refine ag rfl ?_
  refine aG e2 ?_
  refine ak ?_
  exact⟨_,al,by unfold fA;rw[if_neg om,if_pos h2];rfl,rfl⟩
·have d1:decide ((x.ef:Int)=(y.ef:Int))=false:=decide_eq_false om
 refine aG d1 ?_
 refine ag rfl ?_
 refine aG e1 ?_
 refine ak ?_
 exact⟨_,al,by unfold fA;rw[if_pos h1];rfl,rfl⟩}
instance:Inhabited aR:=⟨⟨0,0,0⟩⟩
abbrev aP:Value:=.func (.func 104) #[] #[]
def IC (d:Array aR):List Value:=d.toList.flatMap aR.cells
structure DA (h:ai) (id av:Nat) (d:Array aR):Prop where
 g:h[id]? = some (.aq (IC d) av true 70)
 n:d.size≤1000000000
 b:∀ i,i<d.size→GC d[i]!
theorem bG {d:Array aR} {i:Nat} (hi:i<d.size):js (IC d) (i*3) 3=some [i64 d[i]!.ef,i64 d[i]!.jO,i64 d[i]!.nO]:=by
 have h1:d.toList[i]? = some d[i]!:=by simp [hi]
 exact bI (f:=aR.cells) (k:=3) (fun _=>rfl) d.toList i d[i]! h1
theorem cQ {d:Array aR} {i:Nat} {x:aR} (hi:i<d.size):lL (IC d) (i*3) [i64 x.ef,i64 x.jO,i64 x.nO]=some (IC (d.setIfInBounds i x)):=by{
have:=Bw (f:=aR.cells) (k:=3) (fun _=>rfl) (l:=d.toList) (i:=i) (x:=x) (by simpa using hi)
unfold IC
rw[Array.toList_setIfInBounds]
exact this}
theorem swp_size {d:Array aR} {i j:Nat}:(Go.Sort.swp d i j).size=d.size:=by unfold Go.Sort.swp;simp
theorem Om {d:Array aR} {i j:Nat} (hi:i<d.size) (hj:j<d.size) (h:∀ k,k<d.size→GC d[k]!):∀ k,k<(Go.Sort.swp d i j).size→GC (Go.Sort.swp d i j)[k]!:=fun k hk=>by
 rw[swp_size] at hk
 unfold Go.Sort.swp
 rw[getElem!_pos _ _ (by simpa using hk)]
 simp only[Array.getElem_setIfInBounds,Array.size_setIfInBounds,hk]
 split
 ·exact h i hi
 ·split
  ·exact h j hj
  ·rw[← getElem!_pos d k hk];exact h k hk
theorem DA.swp {h:ai} {id av:Nat} {d:Array aR} (D:DA h id av d) {i j:Nat} (hi:i<d.size) (hj:j<d.size):DA (h.set id (.aq (IC (Go.Sort.swp d i j)) av true 70)) id av (Go.Sort.swp d i j):=
 ⟨aw D.g,by rw[swp_size];exact D.n,Om hi hj D.b⟩
theorem fJ {h:ai} {i:Nat} {x:ax} (g:h[i]? = some x):h.set i x=h:=by{
obtain⟨h1,h2⟩:=List.getElem?_eq_some_iff.1 g
rw[← h2]
exact List.set_getElem_self h1}
theorem aN {h:ai} {i:Nat} {x y:ax}:(h.set i x).set i y=h.set i y:=List.set_set ..
theorem vV {h:ai} {id av c a b:Nat} {d:Array aR} (D:DA h id av d) (hab:a≤b) (hb:b≤d.size) : FW env 180 [.slice (some ⟨id,0,some av⟩) d.size c,i64 a,i64 b,aP] h fun r h'=>r = .tuple #[]∧h'=h.set id (.aq (IC (Go.Sort.insertionSort bx d a b)) av true 70)∧DA h' id av (Go.Sort.insertionSort bx d a b)∧(Go.Sort.insertionSort bx d a b).size=d.size:=by{
have hn:=D.n
have e1:IntKind.i64.wrap ((a:Int)+1)=((a+1:Nat):Int):=by rw[ay om om];omega
refine fe Tryz.func180 ?_;simp only[push_cast]
refine aG e1 ?_
refine fl (fun x:Nat×Array aR×ai=>d.size+2-x.1) (fun x=>[(0,.val (.slice (some ⟨id,0,some av⟩) d.size c)),(1,.val (i64 a)),(2,.val (i64 b)),(3,.val aP),(8,.val (i64 x.1))]) (fun x=>x.2.2)
 (fun x=>a<x.1∧(x.1≤b∨x.1=a+1)∧x.2.1.size=d.size∧x.2.2=h.set id (.aq (IC x.2.1) av true 70)∧DA x.2.2 id av x.2.1∧Go.Sort.insOuter bx a b x.1 x.2.1=Go.Sort.insertionSort bx d a b) (a+1,d,h) aM rfl ⟨by simp only;omega,.inr rfl,rfl,(fJ D.g).symm,D,rfl⟩ ?_
rintro⟨i,dc,hc⟩ ⟨h1,h2,h3,h4,D1,h5⟩
simp only at h1 h2 h3 h4 D1 h5 ⊢
have e2:IntKind.i64.wrap ((i:Int)+1)=(i:Int)+1:=ay om om
by_cases hlt:i<b
·have e3:=aU hlt
 have hstep:Go.Sort.insOuter bx a b i dc=Go.Sort.insOuter bx a b (i+1) (Go.Sort.insInner bx a i dc):=by rw[Go.Sort.insOuter,if_pos hlt]
 refine aG e3 ?_
 refine ag rfl ?_
 refine aC ?_
 refine fl (fun y:Nat×Array aR×ai=>y.1) (fun y=>[(0,.val (.slice (some ⟨id,0,some av⟩) d.size c)),(1,.val (i64 a)),(2,.val (i64 b)),(3,.val aP),(8,.val (i64 i)),(9,.val (i64 y.1))]) (fun y=>y.2.2)
  (fun y=>y.1≤i∧a≤y.1∧y.2.1.size=d.size∧y.2.2=h.set id (.aq (IC y.2.1) av true 70)∧DA y.2.2 id av y.2.1∧Go.Sort.insInner bx a y.1 y.2.1=Go.Sort.insInner bx a i dc) (i,dc,hc) aM rfl ⟨by simp only;omega,by simp only;omega,h3,h4,D1,rfl⟩ ?_
 rintro⟨j,dj,hj⟩ ⟨k1,k2,k3,k4,D2,k5⟩
 simp only at k1 k2 k3 k4 D2 k5 ⊢
 have hg:=D2.g
 by_cases hja:a<j
 ·obtain⟨q,rfl⟩:∃ q,j=q+1:=⟨j-1,by omega⟩
  have d4:decide ((a:Int)<((q+1:Nat):Int))=true:=decide_eq_true om
  have e5:IntKind.i64.wrap (((q+1:Nat):Int)-1)=(q:Int):=by rw[ay om om];omega
  have hq1:q+1<dj.size:=by omega
  have hq0:q<dj.size:=by omega
  have g1:=bG hq1
  have g0:=bG hq0
  have b1:=D2.b _ hq1
  have b0:=D2.b _ hq0
  have r1:=cz (k:=q+1) (n:=d.size) om
  have r0:=cz (k:=q) (n:=d.size) om
  have hun:Go.Sort.insInner bx a (q+1) dj=if (decide (q+1 > a)&&bx dj[q+1]! dj[q]!)=true then Go.Sort.insInner bx a q (Go.Sort.swp dj (q+1) q) else dj:=rfl
  obtain⟨J,hJ⟩:∃ J,J=q+1:=⟨_,rfl⟩
  rw[← hJ] at d4 e5 g1 b1 r1 hun k5 k1 k2 hq1 ⊢
  refine aC ?_
  cases hl:bx dj[J]! dj[q]! with
  | false=>
    have d7:decide (fA dj[J]! dj[q]! < 0)=false:=hl
    have hend:dj=Go.Sort.insInner bx a i dc:=by rw[← k5,hun,hl];simp
    apply bu (L:=[[],[],[0,1],[2],[3],[3],[3],[3,5,6],[3,7],[3],[3],[3,10],[3,9,11],[3,12],[3,4,8,13],[3,14],[3,15]]) (resL:=[_,_,_,_,_,_,_,_,_,_,_,_,_,_,_,_,_]) (frF:=[(0,.val (.slice (some ⟨id,0,some av⟩) d.size c)),(1,.val (i64 a)),(2,.val (i64 b)),(3,.val aP),(8,.val (i64 i)),(9,.val (i64 J)),(34,.val (.bool false))])
    case hm=>exact mixed
    case hc=>kernel_rfl
    case hb=>rfl
    case hS=>
     refine JI d4 hg g1 g0 e5 r1 r0 Nat.mul_one ?_
     apply aQ.cons
     ·exact bg (fn:=Tryz.f104) (args:=[dj[J]!.val,dj[q]!.val]) (cap:=[]) rfl (iQ d4) rfl al al Tryz.func104 kr kr (bJ b1 b0)
     ·rfl
     exact rS d7 d4
    case ht=>rfl
    case hF=>exact zh
    show CW _ _ _ _
    refine aC ?_
    refine ae rfl ?_
    refine aB ?_
    show CW _ _ _ _
    refine aG e2 ?_
    exact⟨(i+1,dj,hj),by simp only;omega,aM,rfl,by simp only;omega,by simp only;omega,k3,k4,D2,by simp only;rw[hend,← hstep];exact h5⟩
  | true=>
    have d7:decide (fA dj[J]! dj[q]! < 0)=true:=hl
    have hnx:Go.Sort.insInner bx a q (Go.Sort.swp dj J q)=Go.Sort.insInner bx a i dc:=by rw[← k5,hun,hl];simp [hja];omega
    apply bu (L:=[[],[],[0,1],[2],[3],[3],[3],[3,5,6],[3,7],[3],[3],[3,10],[3,9,11],[3,12],[3,4,8,13],[3,14],[3,15]]) (resL:=[_,_,_,_,_,_,_,_,_,_,_,_,_,_,_,_,_]) (frF:=[(0,.val (.slice (some ⟨id,0,some av⟩) d.size c)),(1,.val (i64 a)),(2,.val (i64 b)),(3,.val aP),(8,.val (i64 i)),(9,.val (i64 J)),(34,.val (.bool true))])
    case hm=>exact mixed
    case hc=>kernel_rfl
    case hb=>rfl
    case hS=>
     refine JI d4 hg g1 g0 e5 r1 r0 Nat.mul_one ?_
     apply aQ.cons
     ·exact bg (fn:=Tryz.f104) (args:=[dj[J]!.val,dj[q]!.val]) (cap:=[]) rfl (iQ d4) rfl al al Tryz.func104 kr kr (bJ b1 b0)
     ·rfl
     exact rS d7 d4
    case ht=>rfl
    case hF=>exact zh
    show CW _ _ _ _
    refine aC ?_
    refine ag rfl ?_
    refine aC ?_
    refine aA [(0,.val (.slice (some ⟨id,0,some av⟩) d.size c)),(1,.val (i64 a)),(2,.val (i64 b)),(3,.val aP),(8,.val (i64 i)),(9,.val (i64 J))] aM ?_
    show CW _ _ ⟨_,[],hj⟩ _
    apply bm (L:=[[],[],[],[],[3],[],[],[6],[5,6,7],[5,6,7,8],[],[],[10,11],[10,11,12],[0,1],[0,1,5,6,7,8,9,10,11,12,13,14],[2,3,4],[0,1,2,3,4,5,6,7,8,9,10,11,12,13,14,15,16]]) (act:=[15,17]) (hs:=[hj.set id (.aq (IC (dj.setIfInBounds J dj[q]!)) av true 70),hj.set id (.aq (IC (Go.Sort.swp dj J q)) av true 70)]) (resL:=[_,_,_,_,_,_,_,_,_,_,_,_,_,_,_,_,_,_]) (frF:=[(0,.val (.slice (some ⟨id,0,some av⟩) d.size c)),(1,.val (i64 a)),(2,.val (i64 b)),(3,.val aP),(8,.val (i64 i)),(9,.val (i64 J))])
    case hm=>exact mixed
    case hc=>kernel_rfl
    case ha=>rfl
    case hb=>rfl
    case hS=>
     refine Dz hg g1 g0 e5 r1 r0 Nat.mul_one ?_
     apply az.cons
     ·rfl
     ·refine⟨?_,trivial⟩
      exact bw (r:=.sl .dL) rfl al rfl al al hg al rfl (cQ hq1) rfl rfl
     ·rfl
     refine uV e5 r1 r0 Nat.mul_one ?_
     apply az.cons
     ·rfl
     ·refine⟨?_,trivial⟩
      exact bw (r:=.sl .dL) rfl al rfl al al (aw hg) al rfl (cQ (d:=dj.setIfInBounds J dj[q]!) (i:=q) (x:=dj[J]!) (by simpa using hq0)) rfl aN.symm
     ·rfl
     exact az.nil _
    case ht=>rfl
    case hF=>exact zh
    show CW _ _ _ _
    refine aG e5 ?_
    exact⟨(q,Go.Sort.swp dj J q,_),by simp only;omega,aM,rfl,by simp only;omega,by simp only;omega,by simp only;rw[swp_size];exact k3,by simp only;rw[k4,aN],D2.swp hq1 hq0,hnx⟩
 ·have d4:decide ((a:Int)<(j:Int))=false:=decide_eq_false om
  obtain rfl:j=a:=by omega
  have hend:dj=Go.Sort.insInner bx j i dc:=by
   rw[← k5]
   cases j with
   | zero=>rfl
   | succ q=>simp [Go.Sort.insInner]
  refine aC ?_
  apply bu (L:=[[],[],[0,1],[2],[3],[3],[3],[3,5,6],[3,7],[3],[3],[3,10],[3,9,11],[3,12],[3,4,8,13],[3,14],[3,15]]) (resL:=[_,_,_,_,_,_,_,_,_,_,_,_,_,_,_,_,_]) (frF:=[(0,.val (.slice (some ⟨id,0,some av⟩) d.size c)),(1,.val (i64 j)),(2,.val (i64 b)),(3,.val aP),(8,.val (i64 i)),(9,.val (i64 j)),(34,.val (.bool false))])
  case hm=>exact mixed
  case hc=>kernel_rfl
  case hb=>rfl
  case hS=>exact Cj d4
  case ht=>rfl
  case hF=>exact zh
  show CW _ _ _ _
  refine aC ?_
  refine ae rfl ?_
  refine aB ?_
  show CW _ _ _ _
  refine aG e2 ?_
  exact⟨(i+1,dj,hj),by simp only;omega,aM,rfl,by simp only;omega,by simp only;omega,k3,k4,D2,by simp only;rw[hend,← hstep];exact h5⟩
·have e3:decide ((i:Int)<(b:Int))=false:=decide_eq_false om
 have hend:Go.Sort.insertionSort bx d a b=dc:=by rw[← h5,Go.Sort.insOuter,if_neg hlt]
 refine aG e3 ?_
 refine ae rfl ?_
 refine aB ?_
 refine⟨_,al,rfl,?_⟩
 simp only[hend]
 exact⟨h4,D1,h3⟩}
theorem y9 {h:ai} {id av c a b:Nat} {d:Array aR} {fv:Value} (D:DA h id av d) (hab:a<b) (hb:b≤d.size) : FW env 184 [.slice (some ⟨id,0,some av⟩) d.size c,i64 a,i64 b,fv] h fun r h'=>r = .tuple #[]∧h'=h.set id (.aq (IC (Go.Sort.reverseRange d a b)) av true 70)∧DA h' id av (Go.Sort.reverseRange d a b)∧(Go.Sort.reverseRange d a b).size=d.size:=by{
have hn:=D.n
have e1:IntKind.i64.wrap ((b:Int)-1)=((b-1:Nat):Int):=by rw[ay om om];omega
obtain⟨B,hB⟩:∃ B,B=b-1:=⟨_,rfl⟩
rw[← hB] at e1
refine fe Tryz.func184 ?_;simp only[push_cast]
refine aG e1 ?_
refine fl (fun x:Nat×Nat×Array aR×ai=>x.2.1+1-x.1) (fun x=>[(0,.val (.slice (some ⟨id,0,some av⟩) d.size c)),(8,.val (i64 x.1)),(9,.val (i64 x.2.1))]) (fun x=>x.2.2.2)
 (fun x=>x.2.1<d.size∧x.2.2.1.size=d.size∧x.2.2.2=h.set id (.aq (IC x.2.2.1) av true 70)∧DA x.2.2.2 id av x.2.2.1∧Go.Sort.reverseLoop x.1 x.2.1 x.2.2.1=Go.Sort.reverseRange d a b) (a,B,d,h) aM rfl ⟨by simp only;omega,rfl,(fJ D.g).symm,D,by simp only;rw[hB];rfl⟩ ?_
rintro⟨i,j,dc,hc⟩ ⟨h1,h3,h4,D1,h5⟩
simp only at h1 h3 h4 D1 h5 ⊢
by_cases hlt:i<j
·have e3:=aU hlt
 have hg:=D1.g
 have hi1:i<dc.size:=by omega
 have hj1:j<dc.size:=by omega
 have g1:=bG hi1
 have g0:=bG hj1
 have r1:=cz (k:=i) (n:=d.size) om
 have r0:=cz (k:=j) (n:=d.size) om
 have e4:IntKind.i64.wrap ((i:Int)+1)=(i:Int)+1:=ay om om
 have e5:IntKind.i64.wrap ((j:Int)-1)=((j-1:Nat):Int):=by rw[ay om om];omega
 have hst:Go.Sort.reverseLoop i j dc=Go.Sort.reverseLoop (i+1) (j-1) (Go.Sort.swp dc i j):=by rw[Go.Sort.reverseLoop,if_pos hlt]
 obtain⟨q,hq⟩:∃ q,q=j-1:=⟨_,rfl⟩
 rw[← hq] at e5 hst
 refine aG e3 ?_
 refine ag rfl ?_
 refine aC ?_
 refine aA [(0,.val (.slice (some ⟨id,0,some av⟩) d.size c)),(8,.val (i64 i)),(9,.val (i64 j))] aM ?_
 show CW _ _ ⟨_,[],hc⟩ _
 apply bm (L:=[[],[],[],[],[],[],[4,5],[4,5,6],[],[],[8,9],[8,9,10],[0,1],[0,1,4,5,6,7,8,9,10,11,12],[2,3],[0,1,2,3,4,5,6,7,8,9,10,11,12,13,14]]) (act:=[13,15]) (hs:=[hc.set id (.aq (IC (dc.setIfInBounds i dc[j]!)) av true 70),hc.set id (.aq (IC (Go.Sort.swp dc i j)) av true 70)]) (resL:=[_,_,_,_,_,_,_,_,_,_,_,_,_,_,_,_]) (frF:=[(0,.val (.slice (some ⟨id,0,some av⟩) d.size c)),(8,.val (i64 i)),(9,.val (i64 j))])
 case hm=>exact mixed
 case hc=>kernel_rfl
 case ha=>rfl
 case hb=>rfl
 case hS=>
  refine y8 hg g1 g0 r1 r0 Nat.mul_one ?_
  apply az.cons
  ·rfl
  ·refine⟨?_,trivial⟩
   exact bw (r:=.sl .dL) rfl al rfl al al hg al rfl (cQ (d:=dc) (i:=i) (x:=dc[j]!) hi1) rfl rfl
  ·rfl
  refine y8 hg g1 g0 r1 r0 Nat.mul_one ?_
  apply az.cons
  ·rfl
  ·refine⟨?_,trivial⟩
   exact bw (r:=.sl .dL) rfl al rfl al al (aw hg) al rfl (cQ (d:=dc.setIfInBounds i dc[j]!) (i:=j) (x:=dc[i]!) (by simpa using hj1)) rfl aN.symm
  ·rfl
  exact az.nil _
 case ht=>rfl
 case hF=>exact zh
 show CW _ _ _ _
 refine fz e4 e5 ?_
 exact⟨(i+1,q,Go.Sort.swp dc i j,_),by simp only;omega,aM,rfl,by simp only;omega,by simp only;rw[swp_size];exact h3,by simp only;rw[h4,aN],D1.swp hi1 hj1,by simp only;rw[← hst];exact h5⟩
·have e3:decide ((i:Int)<(j:Int))=false:=decide_eq_false om
 have hend:Go.Sort.reverseRange d a b=dc:=by rw[← h5,Go.Sort.reverseLoop,if_neg hlt]
 refine aG e3 ?_
 refine ae rfl ?_
 refine aB ?_
 refine⟨_,al,rfl,?_⟩
 simp only[hend]
 exact⟨h4,D1,h3⟩}
theorem AP {h:ai} {id av c root0 hi first:Nat} {d:Array aR} (D:DA h id av d) (hb:first+hi≤d.size) (hroot:root0≤hi) : FW env 206 [.slice (some ⟨id,0,some av⟩) d.size c,i64 root0,i64 hi,i64 first,aP] h fun r h'=>r = .tuple #[]∧h'=h.set id (.aq (IC (Go.Sort.siftDown bx hi first root0 d)) av true 70)∧DA h' id av (Go.Sort.siftDown bx hi first root0 d)∧(Go.Sort.siftDown bx hi first root0 d).size=d.size:=by{
have hn:=D.n
refine fe Tryz.func206 ?_;simp only[push_cast]
refine aC ?_
refine fl (fun x:Nat×Array aR×ai=>2*hi+2-x.1) (fun x=>[(0,.val (.slice (some ⟨id,0,some av⟩) d.size c)),(2,.val (i64 hi)),(3,.val (i64 first)),(4,.val aP),(10,.val (i64 x.1))]) (fun x=>x.2.2)
 (fun x=>x.1≤hi∧x.2.1.size=d.size∧x.2.2=h.set id (.aq (IC x.2.1) av true 70)∧DA x.2.2 id av x.2.1∧Go.Sort.siftDown bx hi first x.1 x.2.1=Go.Sort.siftDown bx hi first root0 d) (root0,d,h) aM rfl ⟨hroot,rfl,(fJ D.g).symm,D,rfl⟩ ?_
rintro⟨root,dc,hc⟩ ⟨h1,h3,h4,D1,h5⟩
simp only at h1 h3 h4 D1 h5 ⊢
have e1:IntKind.i64.wrap (2*(root:Int))=2*(root:Int):=ay om om
have e1':IntKind.i64.wrap (2*(root:Int)+1)=((2*root+1:Nat):Int):=by rw[ay om om];omega
obtain⟨K,hK⟩:∃ K,K=2*root+1:=⟨_,rfl⟩
rw[← hK] at e1'
have hg:=D1.g
by_cases hlt:hi≤K
·have d1:decide ((hi:Int)≤(K:Int))=true:=decide_eq_true om
 have hend:Go.Sort.siftDown bx hi first root0 d=dc:=by rw[← h5,Go.Sort.siftDown,dif_pos om]
 refine gU e1 e1' d1 ?_
 refine ag rfl ?_
 refine aB ?_
 refine⟨_,al,rfl,?_⟩
 simp only[hend]
 exact⟨h4,D1,h3⟩
have d1:decide ((hi:Int)≤(K:Int))=false:=decide_eq_false om
have hr1:first+root<dc.size:=by omega
have g2:=bG hr1
have b2:=D1.b _ hr1
have rr2:=cz (k:=first+root) (n:=d.size) om
have e2r:IntKind.i64.wrap ((first:Int)+(root:Int))=((first+root:Nat):Int):=by rw[ay om om];omega
obtain⟨r2,hr2⟩:∃ r2,r2=first+root:=⟨_,rfl⟩
rw[← hr2] at g2 b2 rr2 e2r hr1
have e3:IntKind.i64.wrap ((K:Int)+1)=((K+1:Nat):Int):=by rw[ay om om];omega
refine gU e1 e1' d1 ?_
refine ae rfl ?_
refine aC ?_
refine aA [(0,.val (.slice (some ⟨id,0,some av⟩) d.size c)),(2,.val (i64 hi)),(3,.val (i64 first)),(4,.val aP),(10,.val (i64 root)),(11,.val (i64 K))] aM ?_
show CW _ _ ⟨_,[],hc⟩ _
repeat refine vu ?_
refine CW.mono (Q:=fun e s'=>e = .normal∧s'.h=hc∧∃ (β:Bool) (C:Nat),C=(if β=true then K+1 else K)∧C<hi∧(Go.Sort.siftDown bx hi first root dc=if (!bx dc[r2]! dc[first+C]!)=true then dc else Go.Sort.siftDown bx hi first C (Go.Sort.swp dc r2 (first+C)))∧bD [(0,.val (.slice (some ⟨id,0,some av⟩) d.size c)),(2,.val (i64 hi)),(3,.val (i64 first)),(4,.val aP),(10,.val (i64 root)),(11,.val (i64 K)),(40,.val (.bool β))] s'.fr) ?_ ?_
·by_cases hk2:K+1<hi
 ·have d3:decide (((K+1:Nat):Int)<(hi:Int))=true:=decide_eq_true om
  have hk1:first+K<dc.size:=by omega
  have hk3:first+K+1<dc.size:=by omega
  have gk:=bG hk1
  have gk1:=bG hk3
  have bk:=D1.b _ hk1
  have bk1:=D1.b _ hk3
  have rk:=cz (k:=first+K) (n:=d.size) om
  have rk1:=cz (k:=first+K+1) (n:=d.size) om
  have ek:IntKind.i64.wrap ((first:Int)+(K:Int))=((first+K:Nat):Int):=by rw[ay om om];omega
  have ek1:IntKind.i64.wrap (((first+K:Nat):Int)+1)=((first+K+1:Nat):Int):=by rw[ay om om];omega
  have hS:Go.Sort.siftDown bx hi first root dc=if (bx dc[first+K]! dc[first+K+1]!)=true then (if (!bx dc[r2]! dc[first+(K+1)]!)=true then dc else Go.Sort.siftDown bx hi first (K+1) (Go.Sort.swp dc r2 (first+(K+1)))) else (if (!bx dc[r2]! dc[first+K]!)=true then dc else Go.Sort.siftDown bx hi first K (Go.Sort.swp dc r2 (first+K))):=by
   rw[Go.Sort.siftDown,dif_neg om,hr2,hK]
   simp [show 2*root+1+1<hi by omega,show 2*root+2<hi by omega]
  obtain⟨k1,hk1e⟩:∃ k1,k1=first+K:=⟨_,rfl⟩
  obtain⟨k2,hk2e⟩:∃ k2,k2=first+K+1:=⟨_,rfl⟩
  obtain⟨K1,hK1⟩:∃ K1,K1=K+1:=⟨_,rfl⟩
  rw[← hk2e] at gk1 bk1 rk1 ek1 hS
  rw[← hk1e] at gk bk rk ek ek1 hS
  rw[← hK1] at d3 e3 hS
  cases hl1:bx dc[k1]! dc[k2]! with
  | true=>
    have d7:decide (fA dc[k1]! dc[k2]! < 0)=true:=hl1
    have hrun:Go.Sort.siftDown bx hi first root dc=if (!bx dc[r2]! dc[first+K1]!)=true then dc else Go.Sort.siftDown bx hi first K1 (Go.Sort.swp dc r2 (first+K1)):=by rw[hS,hl1];rfl
    apply bu (L:=[[],[0],[],[1,2],[3],[4],[4],[4],[4],[4,7,8],[4,6,9],[4,10],[4],[4],[4],[4,13,14],[4,15],[4,12,16],[4,17],[4,5,11,18],[4,19],[4,20]]) (resL:=[_,_,_,_,_,_,_,_,_,_,_,_,_,_,_,_,_,_,_,_,_,_]) (frF:=[(0,.val (.slice (some ⟨id,0,some av⟩) d.size c)),(2,.val (i64 hi)),(3,.val (i64 first)),(4,.val aP),(10,.val (i64 root)),(11,.val (i64 K)),(40,.val (.bool true))])
    case hm=>exact mixed
    case hc=>kernel_rfl
    case hb=>rfl
    case hS=>
     repeat (first|exact aQ.nil _|(apply aQ.cons;(·apply zz;simp only[push_cast,env,Nat.reduceEqDiff,reduceIte,Nat.reduceAdd,Nat.reduceMul,Nat.reduceLeDiff,reduceCtorEq,Nat.reduceSub,Int.reduceToNat,e3,d3,hg,gk,gk1,ek,ek1,rk,rk1,Nat.mul_one]<;>exact rfl);(·rfl)))
     apply aQ.cons
     ·exact bg (fn:=Tryz.f104) (args:=[dc[k1]!.val,dc[k2]!.val]) (cap:=[]) rfl (iQ d3) rfl al al Tryz.func104 kr kr (bJ bk bk1)
     ·rfl
     exact rS d7 d3
    case ht=>rfl
    case hF=>exact zh
    exact⟨rfl,rfl,true,K1,by rw[if_pos rfl];exact hK1,by omega,hrun,aM⟩
  | false=>
    have d7:decide (fA dc[k1]! dc[k2]! < 0)=false:=hl1
    have hrun:Go.Sort.siftDown bx hi first root dc=if (!bx dc[r2]! dc[first+K]!)=true then dc else Go.Sort.siftDown bx hi first K (Go.Sort.swp dc r2 (first+K)):=by rw[hS,hl1,← hk1e];rfl
    apply bu (L:=[[],[0],[],[1,2],[3],[4],[4],[4],[4],[4,7,8],[4,6,9],[4,10],[4],[4],[4],[4,13,14],[4,15],[4,12,16],[4,17],[4,5,11,18],[4,19],[4,20]]) (resL:=[_,_,_,_,_,_,_,_,_,_,_,_,_,_,_,_,_,_,_,_,_,_]) (frF:=[(0,.val (.slice (some ⟨id,0,some av⟩) d.size c)),(2,.val (i64 hi)),(3,.val (i64 first)),(4,.val aP),(10,.val (i64 root)),(11,.val (i64 K)),(40,.val (.bool false))])
    case hm=>exact mixed
    case hc=>kernel_rfl
    case hb=>rfl
    case hS=>
     repeat (first|exact aQ.nil _|(apply aQ.cons;(·apply zz;simp only[push_cast,env,Nat.reduceEqDiff,reduceIte,Nat.reduceAdd,Nat.reduceMul,Nat.reduceLeDiff,reduceCtorEq,Nat.reduceSub,Int.reduceToNat,e3,d3,hg,gk,gk1,ek,ek1,rk,rk1,Nat.mul_one]<;>exact rfl);(·rfl)))
     apply aQ.cons
     ·exact bg (fn:=Tryz.f104) (args:=[dc[k1]!.val,dc[k2]!.val]) (cap:=[]) rfl (iQ d3) rfl al al Tryz.func104 kr kr (bJ bk bk1)
     ·rfl
     exact rS d7 d3
    case ht=>rfl
    case hF=>exact zh
    exact⟨rfl,rfl,false,K,rfl,by omega,hrun,aM⟩
 ·have d3:decide (((K+1:Nat):Int)<(hi:Int))=false:=decide_eq_false om
  have hrun:Go.Sort.siftDown bx hi first root dc=if (!bx dc[r2]! dc[first+K]!)=true then dc else Go.Sort.siftDown bx hi first K (Go.Sort.swp dc r2 (first+K)):=by
   rw[Go.Sort.siftDown,dif_neg om,hr2,hK]
   simp [show ¬ 2*root+1+1<hi by omega]
  obtain⟨K1,hK1⟩:∃ K1,K1=K+1:=⟨_,rfl⟩
  rw[← hK1] at d3 e3
  apply bu (L:=[[],[0],[],[1,2],[3],[4],[4],[4],[4],[4,7,8],[4,6,9],[4,10],[4],[4],[4],[4,13,14],[4,15],[4,12,16],[4,17],[4,5,11,18],[4,19],[4,20]]) (resL:=[_,_,_,_,_,_,_,_,_,_,_,_,_,_,_,_,_,_,_,_,_,_]) (frF:=[(0,.val (.slice (some ⟨id,0,some av⟩) d.size c)),(2,.val (i64 hi)),(3,.val (i64 first)),(4,.val aP),(10,.val (i64 root)),(11,.val (i64 K)),(40,.val (.bool false))])
  case hm=>exact mixed
  case hc=>kernel_rfl
  case hb=>rfl
  case hS=>exact rS e3 d3
  case ht=>rfl
  case hF=>exact zh
  exact⟨rfl,rfl,false,K,rfl,by omega,hrun,aM⟩
rintro e s' ⟨rfl,hh,β,C,hCe,hCh,hrun,hf⟩
have hCK:K≤C:=by rw[hCe];split<;>omega
show CW _ _ _ _
refine aA _ hf ?_
rw[hh]
clear hf hh
refine CW.mono (Q:=fun e s'=>e = .normal∧s'.h=hc∧bD [(0,.val (.slice (some ⟨id,0,some av⟩) d.size c)),(2,.val (i64 hi)),(3,.val (i64 first)),(4,.val aP),(10,.val (i64 root)),(11,.val (i64 C))] s'.fr) ?_ ?_
·cases β with
 | true=>
   rw[if_pos rfl] at hCe
   rw[← hCe] at e3
   refine ag rfl ?_
   refine aG e3 ?_
   exact⟨rfl,rfl,aM⟩
 | false=>
   have hCe':C=K:=hCe
   subst hCe'
   refine ae rfl ?_
   refine aC ?_
   exact⟨rfl,rfl,aM⟩
rintro e s' ⟨rfl,hh,hf⟩
show CW _ _ _ _
refine aA _ hf ?_
rw[hh]
clear hf hh
have hC1:first+C<dc.size:=by omega
have gC:=bG hC1
have bC:=D1.b _ hC1
have rC:=cz (k:=first+C) (n:=d.size) om
have eC:IntKind.i64.wrap ((first:Int)+(C:Int))=((first+C:Nat):Int):=by rw[ay om om];omega
obtain⟨c2,hc2⟩:∃ c2,c2=first+C:=⟨_,rfl⟩
rw[← hc2] at gC bC rC eC hC1 hrun
refine aC ?_
refine aA [(0,.val (.slice (some ⟨id,0,some av⟩) d.size c)),(2,.val (i64 hi)),(3,.val (i64 first)),(4,.val aP),(10,.val (i64 root)),(11,.val (i64 C))] aM ?_
show CW _ _ ⟨_,[],hc⟩ _
cases hl2:bx dc[r2]! dc[c2]! with
| false=>
  have d8:decide (fA dc[r2]! dc[c2]! < 0)=false:=hl2
  have hend:Go.Sort.siftDown bx hi first root0 d=dc:=by rw[← h5,hrun,hl2];rfl
  apply bu (L:=[[],[],[],[],[2,3],[1,4],[5],[],[],[],[8,9],[7,10],[11],[0,6,12],[13],[14]]) (resL:=[_,_,_,_,_,_,_,_,_,_,_,_,_,_,_,_]) (frF:=[(58,.val (.bool true))])
  case hm=>exact mixed
  case hc=>kernel_rfl
  case hb=>rfl
  case hS=>
   refine JI hg g2 gC e2r eC rr2 rC Nat.mul_one ?_
   apply aQ.cons
   ·exact bg (fn:=Tryz.f104) (args:=[dc[r2]!.val,dc[c2]!.val]) (cap:=[]) rfl al rfl al al Tryz.func104 kr kr (bJ b2 bC)
   ·rfl
   exact Cj d8
  case ht=>rfl
  case hF=>exact zh
  show CW _ _ _ _
  refine aC ?_
  refine ag rfl ?_
  refine aC ?_
  refine ak ?_
  refine⟨_,al,rfl,?_⟩
  simp only[hend]
  exact⟨h4,D1,h3⟩
| true=>
  have d8:decide (fA dc[r2]! dc[c2]! < 0)=true:=hl2
  have hnx:Go.Sort.siftDown bx hi first C (Go.Sort.swp dc r2 c2)=Go.Sort.siftDown bx hi first root0 d:=by rw[← h5,hrun,hl2];rfl
  apply bu (L:=[[],[],[],[],[2,3],[1,4],[5],[],[],[],[8,9],[7,10],[11],[0,6,12],[13],[14]]) (resL:=[_,_,_,_,_,_,_,_,_,_,_,_,_,_,_,_]) (frF:=[(0,.val (.slice (some ⟨id,0,some av⟩) d.size c)),(2,.val (i64 hi)),(3,.val (i64 first)),(4,.val aP),(10,.val (i64 root)),(11,.val (i64 C)),(58,.val (.bool false))])
  case hm=>exact mixed
  case hc=>kernel_rfl
  case hb=>rfl
  case hS=>
   refine JI hg g2 gC e2r eC rr2 rC Nat.mul_one ?_
   apply aQ.cons
   ·exact bg (fn:=Tryz.f104) (args:=[dc[r2]!.val,dc[c2]!.val]) (cap:=[]) rfl al rfl al al Tryz.func104 kr kr (bJ b2 bC)
   ·rfl
   exact Cj d8
  case ht=>rfl
  case hF=>exact zh
  show CW _ _ _ _
  refine aC ?_
  refine ae rfl ?_
  refine aC ?_
  refine aA [(0,.val (.slice (some ⟨id,0,some av⟩) d.size c)),(2,.val (i64 hi)),(3,.val (i64 first)),(4,.val aP),(10,.val (i64 root)),(11,.val (i64 C))] aM ?_
  show CW _ _ ⟨_,[],hc⟩ _
  apply bm (L:=[[],[],[],[1,2],[],[],[],[5,6],[],[],[],[9,10],[8,9,10,11],[8,9,10,11,12],[],[],[],[15,16],[14,15,16,17],[14,15,16,17,18],[0,1,2,3],[0,1,2,3,8,9,10,11,12,13,14,15,16,17,18,19,20],[4,5,6,7],[0,1,2,3,4,5,6,7,8,9,10,11,12,13,14,15,16,17,18,19,20,21,22]]) (act:=[21,23]) (hs:=[hc.set id (.aq (IC (dc.setIfInBounds r2 dc[c2]!)) av true 70),hc.set id (.aq (IC (Go.Sort.swp dc r2 c2)) av true 70)]) (resL:=[_,_,_,_,_,_,_,_,_,_,_,_,_,_,_,_,_,_,_,_,_,_,_,_]) (frF:=[(0,.val (.slice (some ⟨id,0,some av⟩) d.size c)),(2,.val (i64 hi)),(3,.val (i64 first)),(4,.val aP),(11,.val (i64 C))])
  case hm=>exact mixed
  case hc=>kernel_rfl
  case ha=>rfl
  case hb=>rfl
  case hS=>
   refine JN hg g2 gC e2r eC rr2 rC Nat.mul_one ?_
   apply az.cons
   ·rfl
   ·refine⟨?_,trivial⟩
    exact bw (r:=.sl .dL) rfl al rfl al al hg al rfl (cQ (d:=dc) (i:=r2) (x:=dc[c2]!) hr1) rfl rfl
   ·rfl
   refine JN hg g2 gC e2r eC rr2 rC Nat.mul_one ?_
   apply az.cons
   ·rfl
   ·refine⟨?_,trivial⟩
    exact bw (r:=.sl .dL) rfl al rfl al al (aw hg) al rfl (cQ (d:=dc.setIfInBounds r2 dc[c2]!) (i:=c2) (x:=dc[r2]!) (by simpa using hC1)) rfl aN.symm
   ·rfl
   exact az.nil _
  case ht=>rfl
  case hF=>exact zh
  show CW _ _ _ _
  refine aC ?_
  exact⟨(C,Go.Sort.swp dc r2 c2,_),by simp only;omega,aM,rfl,by simp only;omega,by simp only;rw[swp_size];exact h3,by simp only;rw[h4,aN],D1.swp hr1 hC1,hnx⟩}
theorem R9 (n:Nat):Int.tdiv ((n:Int)-1) 2=(((n-1) / 2:Nat):Int):=by{
cases n with
| zero=>rfl
| succ n=>rw[show ((n+1:Nat):Int)-1=(n:Int) by omega];rfl}
theorem HG {h:ai} {id av c a b:Nat} {d:Array aR} (D:DA h id av d) (hab:a≤b) (hb:b≤d.size) : FW env 181 [.slice (some ⟨id,0,some av⟩) d.size c,i64 a,i64 b,aP] h fun r h'=>r = .tuple #[]∧h'=h.set id (.aq (IC (Go.Sort.heapSort bx d a b)) av true 70)∧DA h' id av (Go.Sort.heapSort bx d a b)∧(Go.Sort.heapSort bx d a b).size=d.size:=by{
have hn:=D.n
obtain⟨H,hH⟩:∃ H,H=b-a:=⟨_,rfl⟩
have e1:IntKind.i64.wrap ((b:Int)-(a:Int))=(H:Int):=by rw[ay om om];omega
have e2:IntKind.i64.wrap ((H:Int)-1)=(H:Int)-1:=ay om om
have e3:IntKind.i64.wrap (Int.tdiv ((H:Int)-1) 2)=(((H-1) / 2:Nat):Int):=by rw[R9,ay om om]
obtain⟨K0,hK0⟩:∃ K0,K0=(H-1) / 2+1:=⟨_,rfl⟩
have e3':IntKind.i64.wrap (Int.tdiv ((H:Int)-1) 2)=(K0:Int)-1:=by rw[e3,hK0];omega
refine fe Tryz.func181 ?_;simp only[push_cast]
refine gU e1 e2 e3' ?_
refine fl (fun x:Nat×Array aR×ai=>x.1) (fun x=>[(0,.val (.slice (some ⟨id,0,some av⟩) d.size c)),(3,.val aP),(8,.val (i64 a)),(9,.val (i64 0)),(10,.val (i64 H)),(11,.val (i64 ((x.1:Int)-1)))]) (fun x=>x.2.2)
 (fun x=>x.1≤K0∧x.2.1.size=d.size∧x.2.2=h.set id (.aq (IC x.2.1) av true 70)∧DA x.2.2 id av x.2.1∧Go.Sort.heapBuild bx H a x.1 x.2.1=Go.Sort.heapBuild bx H a K0 d) (K0,d,h) aM rfl ⟨Nat.le_refl _,rfl,(fJ D.g).symm,D,rfl⟩ ?_
rintro⟨k,dc,hc⟩ ⟨h1,h3,h4,D1,h5⟩
simp only at h1 h3 h4 D1 h5 ⊢
by_cases hk:0<k
·obtain⟨q,rfl⟩:∃ q,k=q+1:=⟨k-1,by omega⟩
 rw[show ((q+1:Nat):Int)-1=(q:Int) by omega]
 have d1:decide (0≤(q:Int))=true:=decide_eq_true om
 have e4:IntKind.i64.wrap ((q:Int)-1)=(q:Int)-1:=ay om om
 refine aG d1 ?_
 refine ag rfl ?_
 refine aC ?_
 refine zj Tryz.func206 ?_
 rw[List.append_nil,← h3]
 refine (AP (c:=c) (root0:=q) (hi:=H) (first:=a) D1 om om).mono ?_
 rintro _ h6 ⟨rfl,k1,k2,k3⟩
 rw[h3]
 refine aG e4 ?_
 exact⟨(q,_,h6),by simp only;omega,aM,rfl,by simp only;omega,k3.trans h3,by simp only;rw[k1,h4,aN],k2,h5⟩
·obtain rfl:k=0:=by omega
 have hbu:dc=Go.Sort.heapBuild bx H a K0 d:=h5
 have d1:decide (0≤((0:Nat):Int)-1)=false:=rfl
 rw[show ((0:Nat):Int)-1 = -1 from rfl]
 have d1':decide (0≤(-1:Int))=false:=rfl
 refine aG d1' ?_
 refine ae rfl ?_
 refine aB ?_
 show CW _ _ _ _
 refine aG e2 ?_
 refine fl (fun x:Nat×Array aR×ai=>x.1) (fun x=>[(0,.val (.slice (some ⟨id,0,some av⟩) d.size c)),(3,.val aP),(8,.val (i64 a)),(9,.val (i64 0)),(10,.val (i64 H)),(12,.val (i64 ((x.1:Int)-1)))]) (fun x=>x.2.2)
  (fun x=>x.1≤H∧x.2.1.size=d.size∧x.2.2=h.set id (.aq (IC x.2.1) av true 70)∧DA x.2.2 id av x.2.1∧Go.Sort.heapPop bx a x.1 x.2.1=Go.Sort.heapSort bx d a b) (H,dc,hc) aM rfl ⟨Nat.le_refl _,h3,h4,D1,by simp only;rw[hbu];unfold Go.Sort.heapSort;rw[← hH,hK0]⟩ ?_
 clear h1 h3 h4 D1 h5 hbu hk hc dc
 rintro⟨k,dc,hc⟩ ⟨h1,h3,h4,D1,h5⟩
 simp only at h1 h3 h4 D1 h5 ⊢
 by_cases hk:0<k
 ·obtain⟨q,rfl⟩:∃ q,k=q+1:=⟨k-1,by omega⟩
  rw[show ((q+1:Nat):Int)-1=(q:Int) by omega]
  have d1:decide (0≤(q:Int))=true:=decide_eq_true om
  have e4:IntKind.i64.wrap ((q:Int)-1)=(q:Int)-1:=ay om om
  have hun:Go.Sort.heapPop bx a (q+1) dc=Go.Sort.heapPop bx a q (Go.Sort.siftDown bx q a 0 (Go.Sort.swp dc a (a+q))):=rfl
  have hg:=D1.g
  have hi1:a<dc.size:=by omega
  have hj1:a+q<dc.size:=by omega
  have g1:=bG hi1
  have g0:=bG hj1
  have r1:=cz (k:=a) (n:=d.size) om
  have r0:=cz (k:=a+q) (n:=d.size) om
  have e5:IntKind.i64.wrap ((a:Int)+(q:Int))=((a+q:Nat):Int):=by rw[ay om om];omega
  obtain⟨J,hJ⟩:∃ J,J=a+q:=⟨_,rfl⟩
  rw[← hJ] at e5 g0 r0 hj1 hun
  refine aG d1 ?_
  refine ag rfl ?_
  refine aC ?_
  refine aA [(0,.val (.slice (some ⟨id,0,some av⟩) d.size c)),(3,.val aP),(8,.val (i64 a)),(9,.val (i64 0)),(10,.val (i64 H)),(12,.val (i64 q))] aM ?_
  show CW _ _ ⟨_,[],hc⟩ _
  apply bm (L:=[[],[],[],[],[],[3,4],[],[],[],[7,8],[6,7,8,9],[6,7,8,9,10],[],[],[12,13],[12,13,14],[0,1],[0,1,6,7,8,9,10,11,12,13,14,15,16],[2,3,4,5],[0,1,2,3,4,5,6,7,8,9,10,11,12,13,14,15,16,17,18]]) (act:=[17,19]) (hs:=[hc.set id (.aq (IC (dc.setIfInBounds a dc[J]!)) av true 70),hc.set id (.aq (IC (Go.Sort.swp dc a J)) av true 70)]) (resL:=[_,_,_,_,_,_,_,_,_,_,_,_,_,_,_,_,_,_,_,_]) (frF:=[(0,.val (.slice (some ⟨id,0,some av⟩) d.size c)),(3,.val aP),(8,.val (i64 a)),(9,.val (i64 0)),(10,.val (i64 H)),(12,.val (i64 q))])
  case hm=>exact mixed
  case hc=>kernel_rfl
  case ha=>rfl
  case hb=>rfl
  case hS=>
   refine Dz hg g1 g0 r1 r0 e5 Nat.mul_one ?_
   apply az.cons
   ·rfl
   ·refine⟨?_,trivial⟩
    exact bw (r:=.sl .dL) rfl al rfl al al hg al rfl (cQ (d:=dc) (i:=a) (x:=dc[J]!) hi1) rfl rfl
   ·rfl
   refine Dz hg g1 g0 r1 r0 e5 Nat.mul_one ?_
   apply az.cons
   ·rfl
   ·refine⟨?_,trivial⟩
    exact bw (r:=.sl .dL) rfl al rfl al al (aw hg) al rfl (cQ (d:=dc.setIfInBounds a dc[J]!) (i:=J) (x:=dc[a]!) (by simpa using hj1)) rfl aN.symm
   ·rfl
   exact az.nil _
  case ht=>rfl
  case hF=>exact zh
  show CW _ _ _ _
  refine aC ?_
  refine zj Tryz.func206 ?_
  have hsz:d.size=(Go.Sort.swp dc a J).size:=by rw[swp_size,h3]
  rw[List.append_nil,hsz]
  refine (AP (c:=c) (root0:=0) (hi:=q) (first:=a) (D1.swp hi1 hj1) (by rw[← hsz];omega) om).mono ?_
  rintro _ h6 ⟨rfl,k1,k2,k3⟩
  rw[← hsz]
  refine aG e4 ?_
  exact⟨(q,_,h6),by simp only;omega,aM,rfl,by simp only;omega,k3.trans hsz.symm,by simp only;rw[k1,h4,aN,aN],k2,by simp only;rw[← hun];exact h5⟩
 ·obtain rfl:k=0:=by omega
  have hend:Go.Sort.heapSort bx d a b=dc:=h5.symm
  rw[show ((0:Nat):Int)-1 = -1 from rfl]
  have d1':decide (0≤(-1:Int))=false:=rfl
  refine aG d1' ?_
  refine ae rfl ?_
  refine aB ?_
  refine⟨_,al,rfl,?_⟩
  simp only[hend]
  exact⟨h4,D1,h3⟩}
def NE (dc:Array aR) (a:Nat) (x:aR):Bool:=!bx dc[a]! x
def Pv (dc:Array aR) (a:Nat) (x:aR):Bool:=bx dc[a]! x
theorem ls {p:aR→Bool} {d:Array aR} {j i:Nat} (h:i≤j) (hp:p d[i]! = true):Go.Sort.scanUp p d j i=Go.Sort.scanUp p d j (i+1):=by
 rw[Go.Sort.scanUp,if_pos (by simp [h,hp])]
theorem gm {p:aR→Bool} {d:Array aR} {j i:Nat} (h:¬ (i≤j∧p d[i]! = true)):Go.Sort.scanUp p d j i=i:=by
 rw[Go.Sort.scanUp,if_neg (by simpa using h)]
theorem jH {p:aR→Bool} {d:Array aR} {i j:Nat} (h:i≤j+1) (hp:p d[j+1]! = true):Go.Sort.scanDown p d i (j+1)=Go.Sort.scanDown p d i j:=by
 rw[Go.Sort.scanDown,if_pos (by simp [h,hp])]
theorem eW {p:aR→Bool} {d:Array aR} {i j:Nat} (h:¬ (i≤j∧p d[j]! = true)):Go.Sort.scanDown p d i j=j:=by{
cases j with
| zero=>rfl
| succ j=>rw[Go.Sort.scanDown,if_neg (by simpa using h)]}
theorem xe {d:Array aR} {a i j i2 j2:Nat} (h1:Go.Sort.scanUp (NE d a) d j i=i2) (h2:Go.Sort.scanDown (Pv d a) d i2 j=j2) (hij:i≤j+2):Go.Sort.partEqLoop bx a i j d=if i2 > j2 then (i2,d) else Go.Sort.partEqLoop bx a (i2+1) (j2-1) (Go.Sort.swp d i2 j2):=by{
have g1:=Go.Sort.scanUp_ge (NE d a) d j i
have g2:=Go.Sort.scanDown_le (Pv d a) d i2 j
rw[h1] at g1
rw[h2] at g2
have h1':Go.Sort.scanUp (fun x=>!bx d[a]! x) d j i=i2:=h1
have h2':Go.Sort.scanDown (fun x=>bx d[a]! x) d i2 j=j2:=h2
rw[Go.Sort.partEqLoop]
simp only[h1',h2']
by_cases h:i2 > j2
·rw[if_pos h,if_pos h]
·rw[if_neg h,if_neg h,dif_pos om]}
theorem CJ {h:ai} {id av c a b pv:Nat} {d:Array aR} (D:DA h id av d) (ha:a≤pv) (hpb:pv<b) (hb:b≤d.size) : FW env 186 [.slice (some ⟨id,0,some av⟩) d.size c,i64 a,i64 b,i64 pv,aP] h fun r h'=>r=i64 (Go.Sort.partitionEqual bx d a b pv).1∧h'=h.set id (.aq (IC (Go.Sort.partitionEqual bx d a b pv).2) av true 70)∧DA h' id av (Go.Sort.partitionEqual bx d a b pv).2∧(Go.Sort.partitionEqual bx d a b pv).2.size=d.size:=by{
have hn:=D.n
refine fe Tryz.func186 ?_;simp only[push_cast]
refine aC ?_
have hg:=D.g
have hi1:a<d.size:=by omega
have hj1:pv<d.size:=by omega
have g1:=bG hi1
have g0:=bG hj1
have r1:=cz (k:=a) (n:=d.size) om
have r0:=cz (k:=pv) (n:=d.size) om
refine aA [(0,.val (.slice (some ⟨id,0,some av⟩) d.size c)),(1,.val (i64 a)),(2,.val (i64 b)),(3,.val (i64 pv)),(4,.val aP)] aM ?_
show CW _ _ ⟨_,[],h⟩ _
apply bm (L:=[[],[],[],[],[],[],[4,5],[4,5,6],[],[],[8,9],[8,9,10],[0,1],[0,1,4,5,6,7,8,9,10,11,12],[2,3],[0,1,2,3,4,5,6,7,8,9,10,11,12,13,14]]) (act:=[13,15]) (hs:=[h.set id (.aq (IC (d.setIfInBounds a d[pv]!)) av true 70),h.set id (.aq (IC (Go.Sort.swp d a pv)) av true 70)]) (resL:=[_,_,_,_,_,_,_,_,_,_,_,_,_,_,_,_]) (frF:=[(0,.val (.slice (some ⟨id,0,some av⟩) d.size c)),(1,.val (i64 a)),(2,.val (i64 b)),(4,.val aP)])
case hm=>exact mixed
case hc=>kernel_rfl
case ha=>rfl
case hb=>rfl
case hS=>
 refine y8 hg g1 g0 r1 r0 Nat.mul_one ?_
 apply az.cons
 ·rfl
 ·refine⟨?_,trivial⟩
  exact bw (r:=.sl .dL) rfl al rfl al al hg al rfl (cQ (d:=d) (i:=a) (x:=d[pv]!) hi1) rfl rfl
 ·rfl
 refine y8 hg g1 g0 r1 r0 Nat.mul_one ?_
 apply az.cons
 ·rfl
 ·refine⟨?_,trivial⟩
  exact bw (r:=.sl .dL) rfl al rfl al al (aw hg) al rfl (cQ (d:=d.setIfInBounds a d[pv]!) (i:=pv) (x:=d[a]!) (by simpa using hj1)) rfl aN.symm
 ·rfl
 exact az.nil _
case ht=>rfl
case hF=>exact zh
show CW _ _ _ _
have e1:IntKind.i64.wrap ((a:Int)+1)=((a+1:Nat):Int):=by rw[ay om om];omega
have e2:IntKind.i64.wrap ((b:Int)-1)=((b-1:Nat):Int):=by rw[ay om om];omega
obtain⟨i0,hi0⟩:∃ i0,i0=a+1:=⟨_,rfl⟩
obtain⟨j0,hj0⟩:∃ j0,j0=b-1:=⟨_,rfl⟩
rw[← hi0] at e1
rw[← hj0] at e2
have D0:=D.swp hi1 hj1
refine fz e1 e2 ?_
refine fl (fun x:Nat×Nat×Array aR×ai=>x.2.1+3-x.1) (fun x=>[(0,.val (.slice (some ⟨id,0,some av⟩) d.size c)),(1,.val (i64 a)),(4,.val aP),(11,.val (i64 x.1)),(12,.val (i64 x.2.1))]) (fun x=>x.2.2.2)
 (fun x=>a<x.1∧x.1≤x.2.1+2∧x.2.1<d.size∧x.2.2.1.size=d.size∧x.2.2.2=h.set id (.aq (IC x.2.2.1) av true 70)∧DA x.2.2.2 id av x.2.2.1∧Go.Sort.partEqLoop bx a x.1 x.2.1 x.2.2.1=Go.Sort.partitionEqual bx d a b pv) (i0,j0,Go.Sort.swp d a pv,_) aM rfl ⟨by simp only;omega,by simp only;omega,by simp only;omega,swp_size,rfl,D0,by simp only;rw[hi0,hj0];rfl⟩ ?_
clear hg g1 g0 D0
rintro⟨i,j,dc,hc⟩ ⟨h1,h2,h2',h3,h4,D1,h5⟩
simp only at h1 h2 h2' h3 h4 D1 h5 ⊢
have hg:=D1.g
have hac:a<dc.size:=by omega
have ga:=bG hac
have ba:=D1.b _ hac
have ra:=cz (k:=a) (n:=d.size) om
obtain⟨i2,hi2⟩:∃ i2,Go.Sort.scanUp (NE dc a) dc j i=i2:=⟨_,rfl⟩
refine aC ?_
refine CW.mono (Q:=fun e s'=>e = .exit 2∧s'.h=hc∧i≤i2∧i2≤j+2∧bD [(0,.val (.slice (some ⟨id,0,some av⟩) d.size c)),(1,.val (i64 a)),(4,.val aP),(11,.val (i64 i2)),(12,.val (i64 j))] s'.fr) ?_ ?_
·refine fl (fun k:Nat=>j+1-k) (fun k=>[(0,.val (.slice (some ⟨id,0,some av⟩) d.size c)),(1,.val (i64 a)),(4,.val aP),(11,.val (i64 k)),(12,.val (i64 j))]) (fun _=>hc)
  (fun k=>i≤k∧k≤j+2∧Go.Sort.scanUp (NE dc a) dc j k=i2) i aM rfl ⟨Nat.le_refl _,h2,hi2⟩ ?_
 rintro k ⟨k1,k2,k3⟩
 by_cases hkj:k≤j
 ·have d4:decide ((k:Int)≤(j:Int))=true:=decide_eq_true om
  have hk1:k<dc.size:=by omega
  have gk:=bG hk1
  have bk:=D1.b _ hk1
  have rk:=cz (k:=k) (n:=d.size) om
  have e4:IntKind.i64.wrap ((k:Int)+1)=(k:Int)+1:=ay om om
  cases hl:bx dc[a]! dc[k]! with
  | false=>
    have d7:decide (fA dc[a]! dc[k]! < 0)=false:=hl
    refine aC ?_
    apply bu (L:=[[],[],[0,1],[2],[3],[3],[3],[3,5,6],[3,7],[3],[3],[3,9,10],[3,11],[3,4,8,12],[3,13],[3,14],[3,15]]) (resL:=[_,_,_,_,_,_,_,_,_,_,_,_,_,_,_,_,_]) (frF:=[(0,.val (.slice (some ⟨id,0,some av⟩) d.size c)),(1,.val (i64 a)),(4,.val aP),(11,.val (i64 k)),(12,.val (i64 j)),(47,.val (.bool true))])
    case hm=>exact mixed
    case hc=>kernel_rfl
    case hb=>rfl
    case hS=>
     refine yX d4 hg ga gk ra rk Nat.mul_one ?_
     apply aQ.cons
     ·exact bg (fn:=Tryz.f104) (args:=[dc[a]!.val,dc[k]!.val]) (cap:=[]) rfl (iQ d4) rfl al al Tryz.func104 kr kr (bJ ba bk)
     ·rfl
     exact rS d7 d4
    case ht=>rfl
    case hF=>exact zh
    show CW _ _ _ _
    refine aC ?_
    refine ag rfl ?_
    refine aG e4 ?_
    exact⟨k+1,by dsimp only;omega,aM,rfl,by omega,by omega,by rw[← k3];exact (ls hkj (by unfold NE;rw[hl];rfl)).symm⟩
  | true=>
    have d7:decide (fA dc[a]! dc[k]! < 0)=true:=hl
    have hst:i2=k:=by rw[← k3];exact gm (by unfold NE;rw[hl];simp)
    subst hst
    refine aC ?_
    apply bu (L:=[[],[],[0,1],[2],[3],[3],[3],[3,5,6],[3,7],[3],[3],[3,9,10],[3,11],[3,4,8,12],[3,13],[3,14],[3,15]]) (resL:=[_,_,_,_,_,_,_,_,_,_,_,_,_,_,_,_,_]) (frF:=[(0,.val (.slice (some ⟨id,0,some av⟩) d.size c)),(1,.val (i64 a)),(4,.val aP),(11,.val (i64 i2)),(12,.val (i64 j)),(47,.val (.bool false))])
    case hm=>exact mixed
    case hc=>kernel_rfl
    case hb=>rfl
    case hS=>
     refine yX d4 hg ga gk ra rk Nat.mul_one ?_
     apply aQ.cons
     ·exact bg (fn:=Tryz.f104) (args:=[dc[a]!.val,dc[i2]!.val]) (cap:=[]) rfl (iQ d4) rfl al al Tryz.func104 kr kr (bJ ba bk)
     ·rfl
     exact rS d7 d4
    case ht=>rfl
    case hF=>exact zh
    show CW _ _ _ _
    refine aC ?_
    refine ae rfl ?_
    refine aB ?_
    exact⟨rfl,rfl,k1,k2,aM⟩
 ·have d4:decide ((k:Int)≤(j:Int))=false:=decide_eq_false om
  have hst:i2=k:=by rw[← k3];exact gm om
  subst hst
  refine aC ?_
  apply bu (L:=[[],[],[0,1],[2],[3],[3],[3],[3,5,6],[3,7],[3],[3],[3,9,10],[3,11],[3,4,8,12],[3,13],[3,14],[3,15]]) (resL:=[_,_,_,_,_,_,_,_,_,_,_,_,_,_,_,_,_]) (frF:=[(0,.val (.slice (some ⟨id,0,some av⟩) d.size c)),(1,.val (i64 a)),(4,.val aP),(11,.val (i64 i2)),(12,.val (i64 j)),(47,.val (.bool false))])
  case hm=>exact mixed
  case hc=>kernel_rfl
  case hb=>rfl
  case hS=>exact Cj d4
  case ht=>rfl
  case hF=>exact zh
  show CW _ _ _ _
  refine aC ?_
  refine ae rfl ?_
  refine aB ?_
  exact⟨rfl,rfl,k1,k2,aM⟩
rintro e s' ⟨rfl,hh,hii,hij2,hf⟩
show CW _ _ _ _
refine aA _ hf ?_
rw[hh]
obtain⟨j2,hj2⟩:∃ j2,Go.Sort.scanDown (Pv dc a) dc i2 j=j2:=⟨_,rfl⟩
have hstep:=xe hi2 hj2 h2
refine aC ?_
refine CW.mono (Q:=fun e s'=>e = .exit 4∧s'.h=hc∧j2≤j∧i2≤j2+2∧bD [(0,.val (.slice (some ⟨id,0,some av⟩) d.size c)),(1,.val (i64 a)),(4,.val aP),(11,.val (i64 i2)),(12,.val (i64 j2))] s'.fr) ?_ ?_
·refine fl (fun k:Nat=>k) (fun k=>[(0,.val (.slice (some ⟨id,0,some av⟩) d.size c)),(1,.val (i64 a)),(4,.val aP),(11,.val (i64 i2)),(12,.val (i64 k))]) (fun _=>hc)
  (fun k=>k≤j∧i2≤k+2∧Go.Sort.scanDown (Pv dc a) dc i2 k=j2) j aM rfl ⟨Nat.le_refl _,hij2,hj2⟩ ?_
 rintro k ⟨k1,k2,k3⟩
 by_cases hkj:i2≤k
 ·have d4:decide ((i2:Int)≤(k:Int))=true:=decide_eq_true om
  have hk1:k<dc.size:=by omega
  have gk:=bG hk1
  have bk:=D1.b _ hk1
  have rk:=cz (k:=k) (n:=d.size) om
  obtain⟨q,hq⟩:∃ q,k=q+1:=⟨k-1,by omega⟩
  have e4:IntKind.i64.wrap ((k:Int)-1)=(q:Int):=by rw[ay om om];omega
  cases hl:bx dc[a]! dc[k]! with
  | true=>
    have d7:decide (fA dc[a]! dc[k]! < 0)=true:=hl
    refine aC ?_
    apply bu (L:=[[],[],[0,1],[2],[3],[3],[3],[3,5,6],[3,7],[3],[3],[3,9,10],[3,11],[3,4,8,12],[3,13],[3,14]]) (resL:=[_,_,_,_,_,_,_,_,_,_,_,_,_,_,_,_]) (frF:=[(0,.val (.slice (some ⟨id,0,some av⟩) d.size c)),(1,.val (i64 a)),(4,.val aP),(11,.val (i64 i2)),(12,.val (i64 k)),(65,.val (.bool true))])
    case hm=>exact mixed
    case hc=>kernel_rfl
    case hb=>rfl
    case hS=>
     refine yX d4 hg ga gk ra rk Nat.mul_one ?_
     apply aQ.cons
     ·exact bg (fn:=Tryz.f104) (args:=[dc[a]!.val,dc[k]!.val]) (cap:=[]) rfl (iQ d4) rfl al al Tryz.func104 kr kr (bJ ba bk)
     ·rfl
     exact rS d7 d4
    case ht=>rfl
    case hF=>exact zh
    show CW _ _ _ _
    refine aC ?_
    refine ag rfl ?_
    refine aG e4 ?_
    refine⟨q,by dsimp only;omega,aM,rfl,by omega,by omega,?_⟩
    rw[← k3,hq]
    refine (jH om ?_).symm
    rw[← hq]
    exact hl
  | false=>
    have d7:decide (fA dc[a]! dc[k]! < 0)=false:=hl
    have hst:j2=k:=by rw[← k3];exact eW (by unfold Pv;rw[hl];simp)
    subst hst
    refine aC ?_
    apply bu (L:=[[],[],[0,1],[2],[3],[3],[3],[3,5,6],[3,7],[3],[3],[3,9,10],[3,11],[3,4,8,12],[3,13],[3,14]]) (resL:=[_,_,_,_,_,_,_,_,_,_,_,_,_,_,_,_]) (frF:=[(0,.val (.slice (some ⟨id,0,some av⟩) d.size c)),(1,.val (i64 a)),(4,.val aP),(11,.val (i64 i2)),(12,.val (i64 j2)),(65,.val (.bool false))])
    case hm=>exact mixed
    case hc=>kernel_rfl
    case hb=>rfl
    case hS=>
     refine yX d4 hg ga gk ra rk Nat.mul_one ?_
     apply aQ.cons
     ·exact bg (fn:=Tryz.f104) (args:=[dc[a]!.val,dc[j2]!.val]) (cap:=[]) rfl (iQ d4) rfl al al Tryz.func104 kr kr (bJ ba bk)
     ·rfl
     exact rS d7 d4
    case ht=>rfl
    case hF=>exact zh
    show CW _ _ _ _
    refine aC ?_
    refine ae rfl ?_
    refine aB ?_
    exact⟨rfl,rfl,k1,k2,aM⟩
 ·have d4:decide ((i2:Int)≤(k:Int))=false:=decide_eq_false om
  have hst:j2=k:=by rw[← k3];exact eW om
  subst hst
  refine aC ?_
  apply bu (L:=[[],[],[0,1],[2],[3],[3],[3],[3,5,6],[3,7],[3],[3],[3,9,10],[3,11],[3,4,8,12],[3,13],[3,14]]) (resL:=[_,_,_,_,_,_,_,_,_,_,_,_,_,_,_,_]) (frF:=[(0,.val (.slice (some ⟨id,0,some av⟩) d.size c)),(1,.val (i64 a)),(4,.val aP),(11,.val (i64 i2)),(12,.val (i64 j2)),(65,.val (.bool false))])
  case hm=>exact mixed
  case hc=>kernel_rfl
  case hb=>rfl
  case hS=>exact Cj d4
  case ht=>rfl
  case hF=>exact zh
  show CW _ _ _ _
  refine aC ?_
  refine ae rfl ?_
  refine aB ?_
  exact⟨rfl,rfl,k1,k2,aM⟩
rintro e s' ⟨rfl,hh,hjj,hij3,hf⟩
show CW _ _ _ _
refine aA _ hf ?_
rw[hh]
by_cases hgt:j2<i2
·have d5:decide ((j2:Int)<(i2:Int))=true:=decide_eq_true om
 rw[if_pos hgt,h5] at hstep
 refine aG d5 ?_
 refine ag rfl ?_
 refine aB ?_
 show CW _ _ _ _
 refine aC ?_
 refine ak ?_
 refine⟨_,al,by rw[hstep];rfl,?_⟩
 simp only[hstep]
 exact⟨h4,D1,h3⟩
·have d5:decide ((j2:Int)<(i2:Int))=false:=decide_eq_false om
 rw[if_neg hgt,h5] at hstep
 have hx1:i2<dc.size:=by omega
 have hy1:j2<dc.size:=by omega
 have gx:=bG hx1
 have gy:=bG hy1
 have rx:=cz (k:=i2) (n:=d.size) om
 have ry:=cz (k:=j2) (n:=d.size) om
 have e6:IntKind.i64.wrap ((i2:Int)+1)=(i2:Int)+1:=ay om om
 obtain⟨q,hq⟩:∃ q,q=j2-1:=⟨_,rfl⟩
 have e7:IntKind.i64.wrap ((j2:Int)-1)=(q:Int):=by rw[ay om om];omega
 rw[← hq] at hstep
 refine aG d5 ?_
 refine ae rfl ?_
 refine aC ?_
 refine aA [(0,.val (.slice (some ⟨id,0,some av⟩) d.size c)),(1,.val (i64 a)),(4,.val aP),(11,.val (i64 i2)),(12,.val (i64 j2))] aM ?_
 show CW _ _ ⟨_,[],hc⟩ _
 apply bm (L:=[[],[],[],[],[],[],[4,5],[4,5,6],[],[],[8,9],[8,9,10],[0,1],[0,1,4,5,6,7,8,9,10,11,12],[2,3],[0,1,2,3,4,5,6,7,8,9,10,11,12,13,14]]) (act:=[13,15]) (hs:=[hc.set id (.aq (IC (dc.setIfInBounds i2 dc[j2]!)) av true 70),hc.set id (.aq (IC (Go.Sort.swp dc i2 j2)) av true 70)]) (resL:=[_,_,_,_,_,_,_,_,_,_,_,_,_,_,_,_]) (frF:=[(0,.val (.slice (some ⟨id,0,some av⟩) d.size c)),(1,.val (i64 a)),(4,.val aP),(11,.val (i64 i2)),(12,.val (i64 j2))])
 case hm=>exact mixed
 case hc=>kernel_rfl
 case ha=>rfl
 case hb=>rfl
 case hS=>
  refine y8 hg gx gy rx ry Nat.mul_one ?_
  apply az.cons
  ·rfl
  ·refine⟨?_,trivial⟩
   exact bw (r:=.sl .dL) rfl al rfl al al hg al rfl (cQ (d:=dc) (i:=i2) (x:=dc[j2]!) hx1) rfl rfl
  ·rfl
  refine y8 hg gx gy rx ry Nat.mul_one ?_
  apply az.cons
  ·rfl
  ·refine⟨?_,trivial⟩
   exact bw (r:=.sl .dL) rfl al rfl al al (aw hg) al rfl (cQ (d:=dc.setIfInBounds i2 dc[j2]!) (i:=j2) (x:=dc[i2]!) (by simpa using hy1)) rfl aN.symm
  ·rfl
  exact az.nil _
 case ht=>rfl
 case hF=>exact zh
 show CW _ _ _ _
 refine fz e6 e7 ?_
 exact⟨(i2+1,q,Go.Sort.swp dc i2 j2,_),by simp only;omega,aM,rfl,by simp only;omega,by simp only;omega,by simp only;omega,by simp only;rw[swp_size];exact h3,by simp only;rw[h4,aN],D1.swp hx1 hy1,hstep.symm⟩}
def GA (dc:Array aR) (a:Nat) (x:aR):Bool:=bx x dc[a]!
def Gz (dc:Array aR) (a:Nat) (x:aR):Bool:=!bx x dc[a]!
theorem uO {d:Array aR} {a i j i2 j2:Nat} (h1:Go.Sort.scanUp (GA d a) d j i=i2) (h2:Go.Sort.scanDown (Gz d a) d i2 j=j2) (hij:i≤j+2):Go.Sort.partLoop bx a i j d=if i2 > j2 then (j2,d) else Go.Sort.partLoop bx a (i2+1) (j2-1) (Go.Sort.swp d i2 j2):=by{
have g1:=Go.Sort.scanUp_ge (GA d a) d j i
have g2:=Go.Sort.scanDown_le (Gz d a) d i2 j
rw[h1] at g1
rw[h2] at g2
have h1':Go.Sort.scanUp (fun x=>bx x d[a]!) d j i=i2:=h1
have h2':Go.Sort.scanDown (fun x=>!bx x d[a]!) d i2 j=j2:=h2
rw[Go.Sort.partLoop]
simp only[h1',h2']
by_cases h:i2 > j2
·rw[if_pos h,if_pos h]
·rw[if_neg h,if_neg h,dif_pos om]}
theorem Js {h:ai} {id av c a b pv:Nat} {d:Array aR} (D:DA h id av d) (ha:a≤pv) (hpb:pv<b) (hb:b≤d.size) : FW env 187 [.slice (some ⟨id,0,some av⟩) d.size c,i64 a,i64 b,i64 pv,aP] h fun r h'=>∃ ap:Bool,r = .tuple #[i64 (Go.Sort.partition bx d a b pv).1,.bool ap]∧h'=h.set id (.aq (IC (Go.Sort.partition bx d a b pv).2.2) av true 70)∧DA h' id av (Go.Sort.partition bx d a b pv).2.2∧(Go.Sort.partition bx d a b pv).2.2.size=d.size:=by{
have hn:=D.n
rw[Go.Sort.partition_fst,Go.Sort.partition_arr]
refine fe Tryz.func187 ?_;simp only[push_cast]
refine aC ?_
have hi1:a<d.size:=by omega
have hj1:pv<d.size:=by omega
refine aA [(0,.val (.slice (some ⟨id,0,some av⟩) d.size c)),(1,.val (i64 a)),(2,.val (i64 b)),(3,.val (i64 pv)),(4,.val aP)] aM ?_
show CW _ _ ⟨_,[],h⟩ _
have hg:=D.g
have g1:=bG hi1
have g0:=bG hj1
have r1:=cz (k:=a) (n:=d.size) om
have r0:=cz (k:=pv) (n:=d.size) om
apply bm (L:=[[],[],[],[],[],[],[4,5],[4,5,6],[],[],[8,9],[8,9,10],[0,1],[0,1,4,5,6,7,8,9,10,11,12],[2,3],[0,1,2,3,4,5,6,7,8,9,10,11,12,13,14]]) (act:=[13,15]) (hs:=[h.set id (.aq (IC (d.setIfInBounds a d[pv]!)) av true 70),h.set id (.aq (IC (Go.Sort.swp d a pv)) av true 70)]) (resL:=[_,_,_,_,_,_,_,_,_,_,_,_,_,_,_,_]) (frF:=[(0,.val (.slice (some ⟨id,0,some av⟩) d.size c)),(1,.val (i64 a)),(2,.val (i64 b)),(4,.val aP)])
case hm=>exact mixed
case hc=>kernel_rfl
case ha=>rfl
case hb=>rfl
case hS=>
 refine y8 hg g1 g0 r1 r0 Nat.mul_one ?_
 apply az.cons
 ·rfl
 ·refine⟨?_,trivial⟩
  exact bw (r:=.sl .dL) rfl al rfl al al hg al rfl (cQ (d:=d) (i:=a) (x:=d[pv]!) hi1) rfl rfl
 ·rfl
 refine y8 hg g1 g0 r1 r0 Nat.mul_one ?_
 apply az.cons
 ·rfl
 ·refine⟨?_,trivial⟩
  exact bw (r:=.sl .dL) rfl al rfl al al (aw hg) al rfl (cQ (d:=d.setIfInBounds a d[pv]!) (i:=pv) (x:=d[a]!) (by simpa using hj1)) rfl aN.symm
 ·rfl
 exact az.nil _
case ht=>rfl
case hF=>exact zh
show CW _ _ _ _
have e1:IntKind.i64.wrap ((a:Int)+1)=((a+1:Nat):Int):=by rw[ay om om];omega
have e2:IntKind.i64.wrap ((b:Int)-1)=((b-1:Nat):Int):=by rw[ay om om];omega
obtain⟨i0,hi0⟩:∃ i0,i0=a+1:=⟨_,rfl⟩
obtain⟨j0,hj0⟩:∃ j0,j0=b-1:=⟨_,rfl⟩
rw[← hi0] at e1
rw[← hj0] at e2
have D0:=D.swp hi1 hj1
clear hg g1 g0 r1 r0
refine fz e1 e2 ?_
refine aA [(0,.val (.slice (some ⟨id,0,some av⟩) d.size c)),(1,.val (i64 a)),(4,.val aP),(12,.val (i64 i0)),(13,.val (i64 j0))] aM ?_
show CW _ _ ⟨_,[],h.set id (.aq (IC (Go.Sort.swp d a pv)) av true 70)⟩ _
have hR:Go.Sort.partLoop bx a (a+1) (b-1) (Go.Sort.swp d a pv)=Go.Sort.partLoop bx a i0 j0 (Go.Sort.swp d a pv):=by rw[hi0,hj0]
rw[hR]
obtain⟨R,hR'⟩:∃ R,Go.Sort.partLoop bx a i0 j0 (Go.Sort.swp d a pv)=R:=⟨_,rfl⟩
rw[hR']
obtain⟨dc,hdc⟩:∃ dc,Go.Sort.swp d a pv=dc:=⟨_,rfl⟩
obtain⟨hc,hhc⟩:∃ hc,h.set id (.aq (IC dc) av true 70)=hc:=⟨_,rfl⟩
rw[hdc] at D0 hR' ⊢
rw[hhc] at D0 ⊢
have h3:dc.size=d.size:=by rw[← hdc,swp_size]
obtain⟨i,hi⟩:∃ i,i0=i:=⟨_,rfl⟩
obtain⟨j,hj⟩:∃ j,j0=j:=⟨_,rfl⟩
rw[hi] at hR' ⊢ hi0
rw[hj] at hR' ⊢ hj0
have h1:a<i:=by omega
have h2:i≤j+2:=by omega
have h2':j<d.size:=by omega
have haj:a≤j:=by omega
have D1:=D0
have hg:=D1.g
have hac:a<dc.size:=by omega
have ga:=bG hac
have ba:=D1.b _ hac
have ra:=cz (k:=a) (n:=d.size) om
clear e1 e2 hi hj
obtain⟨i2,hi2⟩:∃ i2,Go.Sort.scanUp (GA dc a) dc j i=i2:=⟨_,rfl⟩
refine aC ?_
refine CW.mono (Q:=fun e s'=>e = .exit 0∧s'.h=hc∧i≤i2∧i2≤j+2∧bD [(0,.val (.slice (some ⟨id,0,some av⟩) d.size c)),(1,.val (i64 a)),(4,.val aP),(12,.val (i64 i2)),(13,.val (i64 j))] s'.fr) ?_ ?_
·refine fl (fun k:Nat=>j+1-k) (fun k=>[(0,.val (.slice (some ⟨id,0,some av⟩) d.size c)),(1,.val (i64 a)),(4,.val aP),(12,.val (i64 k)),(13,.val (i64 j))]) (fun _=>hc)
  (fun k=>i≤k∧k≤j+2∧Go.Sort.scanUp (GA dc a) dc j k=i2) i aM rfl ⟨Nat.le_refl _,h2,hi2⟩ ?_
 rintro k ⟨k1,k2,k3⟩
 by_cases hkj:k≤j
 ·have d4:decide ((k:Int)≤(j:Int))=true:=decide_eq_true om
  have hk1:k<dc.size:=by omega
  have gk:=bG hk1
  have bk:=D1.b _ hk1
  have rk:=cz (k:=k) (n:=d.size) om
  have e4:IntKind.i64.wrap ((k:Int)+1)=(k:Int)+1:=ay om om
  cases hl:bx dc[k]! dc[a]! with
  | true=>
    have d7:decide (fA dc[k]! dc[a]! < 0)=true:=hl
    refine aC ?_
    apply bu (L:=[[],[],[0,1],[2],[3],[3],[3],[3,5,6],[3,7],[3],[3],[3,9,10],[3,11],[3,4,8,12],[3,13],[3,14]]) (resL:=[_,_,_,_,_,_,_,_,_,_,_,_,_,_,_,_]) (frF:=[(0,.val (.slice (some ⟨id,0,some av⟩) d.size c)),(1,.val (i64 a)),(4,.val aP),(12,.val (i64 k)),(13,.val (i64 j)),(47,.val (.bool true))])
    case hm=>exact mixed
    case hc=>kernel_rfl
    case hb=>rfl
    case hS=>
     refine yX d4 hg ga gk ra rk Nat.mul_one ?_
     apply aQ.cons
     ·exact bg (fn:=Tryz.f104) (args:=[dc[k]!.val,dc[a]!.val]) (cap:=[]) rfl (iQ d4) rfl al al Tryz.func104 kr kr (bJ bk ba)
     ·rfl
     exact rS d7 d4
    case ht=>rfl
    case hF=>exact zh
    show CW _ _ _ _
    refine aC ?_
    refine ag rfl ?_
    refine aG e4 ?_
    exact⟨k+1,by dsimp only;omega,aM,rfl,by omega,by omega,by rw[← k3];exact (ls hkj (by unfold GA;exact hl)).symm⟩
  | false=>
    have d7:decide (fA dc[k]! dc[a]! < 0)=false:=hl
    have hst:i2=k:=by rw[← k3];exact gm (by unfold GA;rw[hl];simp)
    subst hst
    refine aC ?_
    apply bu (L:=[[],[],[0,1],[2],[3],[3],[3],[3,5,6],[3,7],[3],[3],[3,9,10],[3,11],[3,4,8,12],[3,13],[3,14]]) (resL:=[_,_,_,_,_,_,_,_,_,_,_,_,_,_,_,_]) (frF:=[(0,.val (.slice (some ⟨id,0,some av⟩) d.size c)),(1,.val (i64 a)),(4,.val aP),(12,.val (i64 i2)),(13,.val (i64 j)),(47,.val (.bool false))])
    case hm=>exact mixed
    case hc=>kernel_rfl
    case hb=>rfl
    case hS=>
     refine yX d4 hg ga gk ra rk Nat.mul_one ?_
     apply aQ.cons
     ·exact bg (fn:=Tryz.f104) (args:=[dc[i2]!.val,dc[a]!.val]) (cap:=[]) rfl (iQ d4) rfl al al Tryz.func104 kr kr (bJ bk ba)
     ·rfl
     exact rS d7 d4
    case ht=>rfl
    case hF=>exact zh
    show CW _ _ _ _
    refine aC ?_
    refine ae rfl ?_
    refine aB ?_
    exact⟨rfl,rfl,k1,k2,aM⟩
 ·have d4:decide ((k:Int)≤(j:Int))=false:=decide_eq_false om
  have hst:i2=k:=by rw[← k3];exact gm om
  subst hst
  refine aC ?_
  apply bu (L:=[[],[],[0,1],[2],[3],[3],[3],[3,5,6],[3,7],[3],[3],[3,9,10],[3,11],[3,4,8,12],[3,13],[3,14]]) (resL:=[_,_,_,_,_,_,_,_,_,_,_,_,_,_,_,_]) (frF:=[(0,.val (.slice (some ⟨id,0,some av⟩) d.size c)),(1,.val (i64 a)),(4,.val aP),(12,.val (i64 i2)),(13,.val (i64 j)),(47,.val (.bool false))])
  case hm=>exact mixed
  case hc=>kernel_rfl
  case hb=>rfl
  case hS=>exact Cj d4
  case ht=>rfl
  case hF=>exact zh
  show CW _ _ _ _
  refine aC ?_
  refine ae rfl ?_
  refine aB ?_
  exact⟨rfl,rfl,k1,k2,aM⟩
rintro e s' ⟨rfl,hh,hii,hij2,hf⟩
show CW _ _ _ _
refine aA _ hf ?_
rw[hh]
clear hf hh
obtain⟨j2,hj2⟩:∃ j2,Go.Sort.scanDown (Gz dc a) dc i2 j=j2:=⟨_,rfl⟩
have hstep:=uO hi2 hj2 h2
refine aC ?_
refine CW.mono (Q:=fun e s'=>e = .exit 2∧s'.h=hc∧j2≤j∧a≤j2∧bD [(0,.val (.slice (some ⟨id,0,some av⟩) d.size c)),(1,.val (i64 a)),(4,.val aP),(12,.val (i64 i2)),(13,.val (i64 j2))] s'.fr) ?_ ?_
·refine fl (fun k:Nat=>k) (fun k=>[(0,.val (.slice (some ⟨id,0,some av⟩) d.size c)),(1,.val (i64 a)),(4,.val aP),(12,.val (i64 i2)),(13,.val (i64 k))]) (fun _=>hc)
  (fun k=>k≤j∧a≤k∧Go.Sort.scanDown (Gz dc a) dc i2 k=j2) j aM rfl ⟨Nat.le_refl _,haj,hj2⟩ ?_
 rintro k ⟨k1,k2,k3⟩
 by_cases hkj:i2≤k
 ·have d4:decide ((i2:Int)≤(k:Int))=true:=decide_eq_true om
  have hk1:k<dc.size:=by omega
  have gk:=bG hk1
  have bk:=D1.b _ hk1
  have rk:=cz (k:=k) (n:=d.size) om
  obtain⟨q,hq⟩:∃ q,k=q+1:=⟨k-1,by omega⟩
  have e4:IntKind.i64.wrap ((k:Int)-1)=(q:Int):=by rw[ay om om];omega
  cases hl:bx dc[k]! dc[a]! with
  | false=>
    have d7:decide (fA dc[k]! dc[a]! < 0)=false:=hl
    refine aC ?_
    apply bu (L:=[[],[],[0,1],[2],[3],[3],[3],[3,5,6],[3,7],[3],[3],[3,9,10],[3,11],[3,4,8,12],[3,13],[3,14],[3,15]]) (resL:=[_,_,_,_,_,_,_,_,_,_,_,_,_,_,_,_,_]) (frF:=[(0,.val (.slice (some ⟨id,0,some av⟩) d.size c)),(1,.val (i64 a)),(4,.val aP),(12,.val (i64 i2)),(13,.val (i64 k)),(66,.val (.bool true))])
    case hm=>exact mixed
    case hc=>kernel_rfl
    case hb=>rfl
    case hS=>
     refine yX d4 hg ga gk ra rk Nat.mul_one ?_
     apply aQ.cons
     ·exact bg (fn:=Tryz.f104) (args:=[dc[k]!.val,dc[a]!.val]) (cap:=[]) rfl (iQ d4) rfl al al Tryz.func104 kr kr (bJ bk ba)
     ·rfl
     exact rS d7 d4
    case ht=>rfl
    case hF=>exact zh
    show CW _ _ _ _
    refine aC ?_
    refine ag rfl ?_
    refine aG e4 ?_
    refine⟨q,by dsimp only;omega,aM,rfl,by omega,by omega,?_⟩
    rw[← k3,hq]
    refine (jH om ?_).symm
    rw[← hq]
    unfold Gz
    rw[hl]
    rfl
  | true=>
    have d7:decide (fA dc[k]! dc[a]! < 0)=true:=hl
    have hst:j2=k:=by rw[← k3];exact eW (by unfold Gz;rw[hl];simp)
    subst hst
    refine aC ?_
    apply bu (L:=[[],[],[0,1],[2],[3],[3],[3],[3,5,6],[3,7],[3],[3],[3,9,10],[3,11],[3,4,8,12],[3,13],[3,14],[3,15]]) (resL:=[_,_,_,_,_,_,_,_,_,_,_,_,_,_,_,_,_]) (frF:=[(0,.val (.slice (some ⟨id,0,some av⟩) d.size c)),(1,.val (i64 a)),(4,.val aP),(12,.val (i64 i2)),(13,.val (i64 j2)),(66,.val (.bool false))])
    case hm=>exact mixed
    case hc=>kernel_rfl
    case hb=>rfl
    case hS=>
     refine yX d4 hg ga gk ra rk Nat.mul_one ?_
     apply aQ.cons
     ·exact bg (fn:=Tryz.f104) (args:=[dc[j2]!.val,dc[a]!.val]) (cap:=[]) rfl (iQ d4) rfl al al Tryz.func104 kr kr (bJ bk ba)
     ·rfl
     exact rS d7 d4
    case ht=>rfl
    case hF=>exact zh
    show CW _ _ _ _
    refine aC ?_
    refine ae rfl ?_
    refine aB ?_
    exact⟨rfl,rfl,k1,k2,aM⟩
 ·have d4:decide ((i2:Int)≤(k:Int))=false:=decide_eq_false om
  have hst:j2=k:=by rw[← k3];exact eW om
  subst hst
  refine aC ?_
  apply bu (L:=[[],[],[0,1],[2],[3],[3],[3],[3,5,6],[3,7],[3],[3],[3,9,10],[3,11],[3,4,8,12],[3,13],[3,14],[3,15]]) (resL:=[_,_,_,_,_,_,_,_,_,_,_,_,_,_,_,_,_]) (frF:=[(0,.val (.slice (some ⟨id,0,some av⟩) d.size c)),(1,.val (i64 a)),(4,.val aP),(12,.val (i64 i2)),(13,.val (i64 j2)),(66,.val (.bool false))])
  case hm=>exact mixed
  case hc=>kernel_rfl
  case hb=>rfl
  case hS=>exact Cj d4
  case ht=>rfl
  case hF=>exact zh
  show CW _ _ _ _
  refine aC ?_
  refine ae rfl ?_
  refine aB ?_
  exact⟨rfl,rfl,k1,k2,aM⟩
rintro e s' ⟨rfl,hh,hjj,haj2,hf⟩
show CW _ _ _ _
refine aA _ hf ?_
rw[hh]
clear hf hh
by_cases hgt:j2<i2
·have d5:decide ((j2:Int)<(i2:Int))=true:=decide_eq_true om
 rw[if_pos hgt,hR'] at hstep
 have hy1:j2<dc.size:=by omega
 have gy:=bG hy1
 have ry:=cz (k:=j2) (n:=d.size) om
 refine aG d5 ?_
 refine ag rfl ?_
 refine aC ?_
 refine aA [(0,.val (.slice (some ⟨id,0,some av⟩) d.size c)),(1,.val (i64 a)),(4,.val aP),(12,.val (i64 i2)),(13,.val (i64 j2))] aM ?_
 show CW _ _ ⟨_,[],hc⟩ _
 apply bm (L:=[[],[],[],[],[],[],[4,5],[4,5,6],[],[],[8,9],[8,9,10],[0,1],[0,1,4,5,6,7,8,9,10,11,12],[2,3],[0,1,2,3,4,5,6,7,8,9,10,11,12,13,14]]) (act:=[13,15]) (hs:=[hc.set id (.aq (IC (dc.setIfInBounds j2 dc[a]!)) av true 70),hc.set id (.aq (IC (Go.Sort.swp dc j2 a)) av true 70)]) (resL:=[_,_,_,_,_,_,_,_,_,_,_,_,_,_,_,_]) (frF:=[(0,.val (.slice (some ⟨id,0,some av⟩) d.size c)),(1,.val (i64 a)),(4,.val aP),(12,.val (i64 i2)),(13,.val (i64 j2))])
 case hm=>exact mixed
 case hc=>kernel_rfl
 case ha=>rfl
 case hb=>rfl
 case hS=>
  refine y8 hg gy ga ry ra Nat.mul_one ?_
  apply az.cons
  ·rfl
  ·refine⟨?_,trivial⟩
   exact bw (r:=.sl .dL) rfl al rfl al al hg al rfl (cQ (d:=dc) (i:=j2) (x:=dc[a]!) hy1) rfl rfl
  ·rfl
  refine y8 hg gy ga ry ra Nat.mul_one ?_
  apply az.cons
  ·rfl
  ·refine⟨?_,trivial⟩
   exact bw (r:=.sl .dL) rfl al rfl al al (aw hg) al rfl (cQ (d:=dc.setIfInBounds j2 dc[a]!) (i:=a) (x:=dc[j2]!) (by simpa using hac)) rfl aN.symm
  ·rfl
  exact az.nil _
 case ht=>rfl
 case hF=>exact zh
 show CW _ _ _ _
 refine aC ?_
 refine ak ?_
 refine⟨_,al,true,by rw[hstep];rfl,?_⟩
 simp only[hstep]
 exact⟨by rw[← hhc,aN],D1.swp hy1 hac,by rw[swp_size];exact h3⟩
have d5:decide ((j2:Int)<(i2:Int))=false:=decide_eq_false om
rw[if_neg hgt,hR'] at hstep
have hx1:i2<dc.size:=by omega
have hy1:j2<dc.size:=by omega
have gx:=bG hx1
have gy:=bG hy1
have rx:=cz (k:=i2) (n:=d.size) om
have ry:=cz (k:=j2) (n:=d.size) om
have e6:IntKind.i64.wrap ((i2:Int)+1)=(i2:Int)+1:=ay om om
obtain⟨q,hq⟩:∃ q,q=j2-1:=⟨_,rfl⟩
have e7:IntKind.i64.wrap ((j2:Int)-1)=(q:Int):=by rw[ay om om];omega
rw[← hq] at hstep
refine aG d5 ?_
refine ae rfl ?_
refine aC ?_
refine aA [(0,.val (.slice (some ⟨id,0,some av⟩) d.size c)),(1,.val (i64 a)),(4,.val aP),(12,.val (i64 i2)),(13,.val (i64 j2))] aM ?_
show CW _ _ ⟨_,[],hc⟩ _
apply bm (L:=[[],[],[],[],[],[],[4,5],[4,5,6],[],[],[8,9],[8,9,10],[0,1],[0,1,4,5,6,7,8,9,10,11,12],[2,3],[0,1,2,3,4,5,6,7,8,9,10,11,12,13,14]]) (act:=[13,15]) (hs:=[hc.set id (.aq (IC (dc.setIfInBounds i2 dc[j2]!)) av true 70),hc.set id (.aq (IC (Go.Sort.swp dc i2 j2)) av true 70)]) (resL:=[_,_,_,_,_,_,_,_,_,_,_,_,_,_,_,_]) (frF:=[(0,.val (.slice (some ⟨id,0,some av⟩) d.size c)),(1,.val (i64 a)),(4,.val aP),(12,.val (i64 i2)),(13,.val (i64 j2))])
case hm=>exact mixed
case hc=>kernel_rfl
case ha=>rfl
case hb=>rfl
case hS=>
 refine y8 hg gx gy rx ry Nat.mul_one ?_
 apply az.cons
 ·rfl
 ·refine⟨?_,trivial⟩
  exact bw (r:=.sl .dL) rfl al rfl al al hg al rfl (cQ (d:=dc) (i:=i2) (x:=dc[j2]!) hx1) rfl rfl
 ·rfl
 refine y8 hg gx gy rx ry Nat.mul_one ?_
 apply az.cons
 ·rfl
 ·refine⟨?_,trivial⟩
  exact bw (r:=.sl .dL) rfl al rfl al al (aw hg) al rfl (cQ (d:=dc.setIfInBounds i2 dc[j2]!) (i:=j2) (x:=dc[i2]!) (by simpa using hy1)) rfl aN.symm
 ·rfl
 exact az.nil _
case ht=>rfl
case hF=>exact zh
show CW _ _ _ _
refine fz e6 e7 ?_
refine fl (fun x:Nat×Nat×Array aR×ai=>x.2.1+3-x.1) (fun x=>[(0,.val (.slice (some ⟨id,0,some av⟩) d.size c)),(1,.val (i64 a)),(4,.val aP),(12,.val (i64 x.1)),(13,.val (i64 x.2.1))]) (fun x=>x.2.2.2)
 (fun x=>a<x.1∧x.1≤x.2.1+2∧x.2.1<d.size∧a≤x.2.1∧x.2.2.1.size=d.size∧x.2.2.2=h.set id (.aq (IC x.2.2.1) av true 70)∧DA x.2.2.2 id av x.2.2.1∧Go.Sort.partLoop bx a x.1 x.2.1 x.2.2.1=R) (i2+1,q,Go.Sort.swp dc i2 j2,_) aM rfl ⟨by simp only;omega,by simp only;omega,by simp only;omega,by simp only;omega,by simp only;rw[swp_size];exact h3,by simp only;rw[← hhc,aN],D1.swp hx1 hy1,hstep.symm⟩ ?_
clear hg ga gx gy D1 D0 ba h1 h2 h2' haj h3 ra hac hstep hi2 hj2 hR' hhc hdc hi0 hj0 hR hi1 hj1 e6 e7 d5 rx ry hx1 hy1 hgt hii hij2 hjj haj2 hq
clear i2 j2 i j dc hc i0 j0 q
rintro⟨i,j,dc,hc⟩ ⟨h1,h2,h2',haj,h3,h4,D1,h5⟩
simp only at h1 h2 h2' haj h3 h4 D1 h5 ⊢
have hg:=D1.g
have hac:a<dc.size:=by omega
have ga:=bG hac
have ba:=D1.b _ hac
have ra:=cz (k:=a) (n:=d.size) om
obtain⟨i2,hi2⟩:∃ i2,Go.Sort.scanUp (GA dc a) dc j i=i2:=⟨_,rfl⟩
refine aC ?_
refine CW.mono (Q:=fun e s'=>e = .exit 6∧s'.h=hc∧i≤i2∧i2≤j+2∧bD [(0,.val (.slice (some ⟨id,0,some av⟩) d.size c)),(1,.val (i64 a)),(4,.val aP),(12,.val (i64 i2)),(13,.val (i64 j))] s'.fr) ?_ ?_
·refine fl (fun k:Nat=>j+1-k) (fun k=>[(0,.val (.slice (some ⟨id,0,some av⟩) d.size c)),(1,.val (i64 a)),(4,.val aP),(12,.val (i64 k)),(13,.val (i64 j))]) (fun _=>hc)
  (fun k=>i≤k∧k≤j+2∧Go.Sort.scanUp (GA dc a) dc j k=i2) i aM rfl ⟨Nat.le_refl _,h2,hi2⟩ ?_
 rintro k ⟨k1,k2,k3⟩
 by_cases hkj:k≤j
 ·have d4:decide ((k:Int)≤(j:Int))=true:=decide_eq_true om
  have hk1:k<dc.size:=by omega
  have gk:=bG hk1
  have bk:=D1.b _ hk1
  have rk:=cz (k:=k) (n:=d.size) om
  have e4:IntKind.i64.wrap ((k:Int)+1)=(k:Int)+1:=ay om om
  cases hl:bx dc[k]! dc[a]! with
  | true=>
    have d7:decide (fA dc[k]! dc[a]! < 0)=true:=hl
    refine aC ?_
    apply bu (L:=[[],[],[0,1],[2],[3],[3],[3],[3,5,6],[3,7],[3],[3],[3,9,10],[3,11],[3,4,8,12],[3,13],[3,14]]) (resL:=[_,_,_,_,_,_,_,_,_,_,_,_,_,_,_,_]) (frF:=[(0,.val (.slice (some ⟨id,0,some av⟩) d.size c)),(1,.val (i64 a)),(4,.val aP),(12,.val (i64 k)),(13,.val (i64 j)),(120,.val (.bool true))])
    case hm=>exact mixed
    case hc=>kernel_rfl
    case hb=>rfl
    case hS=>
     refine yX d4 hg ga gk ra rk Nat.mul_one ?_
     apply aQ.cons
     ·exact bg (fn:=Tryz.f104) (args:=[dc[k]!.val,dc[a]!.val]) (cap:=[]) rfl (iQ d4) rfl al al Tryz.func104 kr kr (bJ bk ba)
     ·rfl
     exact rS d7 d4
    case ht=>rfl
    case hF=>exact zh
    show CW _ _ _ _
    refine aC ?_
    refine ag rfl ?_
    refine aG e4 ?_
    exact⟨k+1,by dsimp only;omega,aM,rfl,by omega,by omega,by rw[← k3];exact (ls hkj (by unfold GA;exact hl)).symm⟩
  | false=>
    have d7:decide (fA dc[k]! dc[a]! < 0)=false:=hl
    have hst:i2=k:=by rw[← k3];exact gm (by unfold GA;rw[hl];simp)
    subst hst
    refine aC ?_
    apply bu (L:=[[],[],[0,1],[2],[3],[3],[3],[3,5,6],[3,7],[3],[3],[3,9,10],[3,11],[3,4,8,12],[3,13],[3,14]]) (resL:=[_,_,_,_,_,_,_,_,_,_,_,_,_,_,_,_]) (frF:=[(0,.val (.slice (some ⟨id,0,some av⟩) d.size c)),(1,.val (i64 a)),(4,.val aP),(12,.val (i64 i2)),(13,.val (i64 j)),(120,.val (.bool false))])
    case hm=>exact mixed
    case hc=>kernel_rfl
    case hb=>rfl
    case hS=>
     refine yX d4 hg ga gk ra rk Nat.mul_one ?_
     apply aQ.cons
     ·exact bg (fn:=Tryz.f104) (args:=[dc[i2]!.val,dc[a]!.val]) (cap:=[]) rfl (iQ d4) rfl al al Tryz.func104 kr kr (bJ bk ba)
     ·rfl
     exact rS d7 d4
    case ht=>rfl
    case hF=>exact zh
    show CW _ _ _ _
    refine aC ?_
    refine ae rfl ?_
    refine aB ?_
    exact⟨rfl,rfl,k1,k2,aM⟩
 ·have d4:decide ((k:Int)≤(j:Int))=false:=decide_eq_false om
  have hst:i2=k:=by rw[← k3];exact gm om
  subst hst
  refine aC ?_
  apply bu (L:=[[],[],[0,1],[2],[3],[3],[3],[3,5,6],[3,7],[3],[3],[3,9,10],[3,11],[3,4,8,12],[3,13],[3,14]]) (resL:=[_,_,_,_,_,_,_,_,_,_,_,_,_,_,_,_]) (frF:=[(0,.val (.slice (some ⟨id,0,some av⟩) d.size c)),(1,.val (i64 a)),(4,.val aP),(12,.val (i64 i2)),(13,.val (i64 j)),(120,.val (.bool false))])
  case hm=>exact mixed
  case hc=>kernel_rfl
  case hb=>rfl
  case hS=>exact Cj d4
  case ht=>rfl
  case hF=>exact zh
  show CW _ _ _ _
  refine aC ?_
  refine ae rfl ?_
  refine aB ?_
  exact⟨rfl,rfl,k1,k2,aM⟩
rintro e s' ⟨rfl,hh,hii,hij2,hf⟩
show CW _ _ _ _
refine aA _ hf ?_
rw[hh]
clear hf hh
obtain⟨j2,hj2⟩:∃ j2,Go.Sort.scanDown (Gz dc a) dc i2 j=j2:=⟨_,rfl⟩
have hstep:=uO hi2 hj2 h2
refine aC ?_
refine CW.mono (Q:=fun e s'=>e = .exit 8∧s'.h=hc∧j2≤j∧a≤j2∧bD [(0,.val (.slice (some ⟨id,0,some av⟩) d.size c)),(1,.val (i64 a)),(4,.val aP),(12,.val (i64 i2)),(13,.val (i64 j2))] s'.fr) ?_ ?_
·refine fl (fun k:Nat=>k) (fun k=>[(0,.val (.slice (some ⟨id,0,some av⟩) d.size c)),(1,.val (i64 a)),(4,.val aP),(12,.val (i64 i2)),(13,.val (i64 k))]) (fun _=>hc)
  (fun k=>k≤j∧a≤k∧Go.Sort.scanDown (Gz dc a) dc i2 k=j2) j aM rfl ⟨Nat.le_refl _,haj,hj2⟩ ?_
 rintro k ⟨k1,k2,k3⟩
 by_cases hkj:i2≤k
 ·have d4:decide ((i2:Int)≤(k:Int))=true:=decide_eq_true om
  have hk1:k<dc.size:=by omega
  have gk:=bG hk1
  have bk:=D1.b _ hk1
  have rk:=cz (k:=k) (n:=d.size) om
  obtain⟨q,hq⟩:∃ q,k=q+1:=⟨k-1,by omega⟩
  have e4:IntKind.i64.wrap ((k:Int)-1)=(q:Int):=by rw[ay om om];omega
  cases hl:bx dc[k]! dc[a]! with
  | false=>
    have d7:decide (fA dc[k]! dc[a]! < 0)=false:=hl
    refine aC ?_
    apply bu (L:=[[],[],[0,1],[2],[3],[3],[3],[3,5,6],[3,7],[3],[3],[3,9,10],[3,11],[3,4,8,12],[3,13],[3,14],[3,15]]) (resL:=[_,_,_,_,_,_,_,_,_,_,_,_,_,_,_,_,_]) (frF:=[(0,.val (.slice (some ⟨id,0,some av⟩) d.size c)),(1,.val (i64 a)),(4,.val aP),(12,.val (i64 i2)),(13,.val (i64 k)),(139,.val (.bool true))])
    case hm=>exact mixed
    case hc=>kernel_rfl
    case hb=>rfl
    case hS=>
     refine yX d4 hg ga gk ra rk Nat.mul_one ?_
     apply aQ.cons
     ·exact bg (fn:=Tryz.f104) (args:=[dc[k]!.val,dc[a]!.val]) (cap:=[]) rfl (iQ d4) rfl al al Tryz.func104 kr kr (bJ bk ba)
     ·rfl
     exact rS d7 d4
    case ht=>rfl
    case hF=>exact zh
    show CW _ _ _ _
    refine aC ?_
    refine ag rfl ?_
    refine aG e4 ?_
    refine⟨q,by dsimp only;omega,aM,rfl,by omega,by omega,?_⟩
    rw[← k3,hq]
    refine (jH om ?_).symm
    rw[← hq]
    unfold Gz
    rw[hl]
    rfl
  | true=>
    have d7:decide (fA dc[k]! dc[a]! < 0)=true:=hl
    have hst:j2=k:=by rw[← k3];exact eW (by unfold Gz;rw[hl];simp)
    subst hst
    refine aC ?_
    apply bu (L:=[[],[],[0,1],[2],[3],[3],[3],[3,5,6],[3,7],[3],[3],[3,9,10],[3,11],[3,4,8,12],[3,13],[3,14],[3,15]]) (resL:=[_,_,_,_,_,_,_,_,_,_,_,_,_,_,_,_,_]) (frF:=[(0,.val (.slice (some ⟨id,0,some av⟩) d.size c)),(1,.val (i64 a)),(4,.val aP),(12,.val (i64 i2)),(13,.val (i64 j2)),(139,.val (.bool false))])
    case hm=>exact mixed
    case hc=>kernel_rfl
    case hb=>rfl
    case hS=>
     refine yX d4 hg ga gk ra rk Nat.mul_one ?_
     apply aQ.cons
     ·exact bg (fn:=Tryz.f104) (args:=[dc[j2]!.val,dc[a]!.val]) (cap:=[]) rfl (iQ d4) rfl al al Tryz.func104 kr kr (bJ bk ba)
     ·rfl
     exact rS d7 d4
    case ht=>rfl
    case hF=>exact zh
    show CW _ _ _ _
    refine aC ?_
    refine ae rfl ?_
    refine aB ?_
    exact⟨rfl,rfl,k1,k2,aM⟩
 ·have d4:decide ((i2:Int)≤(k:Int))=false:=decide_eq_false om
  have hst:j2=k:=by rw[← k3];exact eW om
  subst hst
  refine aC ?_
  apply bu (L:=[[],[],[0,1],[2],[3],[3],[3],[3,5,6],[3,7],[3],[3],[3,9,10],[3,11],[3,4,8,12],[3,13],[3,14],[3,15]]) (resL:=[_,_,_,_,_,_,_,_,_,_,_,_,_,_,_,_,_]) (frF:=[(0,.val (.slice (some ⟨id,0,some av⟩) d.size c)),(1,.val (i64 a)),(4,.val aP),(12,.val (i64 i2)),(13,.val (i64 j2)),(139,.val (.bool false))])
  case hm=>exact mixed
  case hc=>kernel_rfl
  case hb=>rfl
  case hS=>exact Cj d4
  case ht=>rfl
  case hF=>exact zh
  show CW _ _ _ _
  refine aC ?_
  refine ae rfl ?_
  refine aB ?_
  exact⟨rfl,rfl,k1,k2,aM⟩
rintro e s' ⟨rfl,hh,hjj,haj2,hf⟩
show CW _ _ _ _
refine aA _ hf ?_
rw[hh]
clear hf hh
by_cases hgt:j2<i2
·have d5:decide ((j2:Int)<(i2:Int))=true:=decide_eq_true om
 rw[if_pos hgt,h5] at hstep
 have hy1:j2<dc.size:=by omega
 have gy:=bG hy1
 have ry:=cz (k:=j2) (n:=d.size) om
 refine aG d5 ?_
 refine ag rfl ?_
 refine aB ?_
 show CW _ _ _ _
 refine aC ?_
 refine aA [(0,.val (.slice (some ⟨id,0,some av⟩) d.size c)),(1,.val (i64 a)),(4,.val aP),(12,.val (i64 i2)),(13,.val (i64 j2))] aM ?_
 show CW _ _ ⟨_,[],hc⟩ _
 apply bm (L:=[[],[],[],[],[],[],[4,5],[4,5,6],[],[],[8,9],[8,9,10],[0,1],[0,1,4,5,6,7,8,9,10,11,12],[2,3],[0,1,2,3,4,5,6,7,8,9,10,11,12,13,14]]) (act:=[13,15]) (hs:=[hc.set id (.aq (IC (dc.setIfInBounds j2 dc[a]!)) av true 70),hc.set id (.aq (IC (Go.Sort.swp dc j2 a)) av true 70)]) (resL:=[_,_,_,_,_,_,_,_,_,_,_,_,_,_,_,_]) (frF:=[(0,.val (.slice (some ⟨id,0,some av⟩) d.size c)),(1,.val (i64 a)),(4,.val aP),(12,.val (i64 i2)),(13,.val (i64 j2))])
 case hm=>exact mixed
 case hc=>kernel_rfl
 case ha=>rfl
 case hb=>rfl
 case hS=>
  refine y8 hg gy ga ry ra Nat.mul_one ?_
  apply az.cons
  ·rfl
  ·refine⟨?_,trivial⟩
   exact bw (r:=.sl .dL) rfl al rfl al al hg al rfl (cQ (d:=dc) (i:=j2) (x:=dc[a]!) hy1) rfl rfl
  ·rfl
  refine y8 hg gy ga ry ra Nat.mul_one ?_
  apply az.cons
  ·rfl
  ·refine⟨?_,trivial⟩
   exact bw (r:=.sl .dL) rfl al rfl al al (aw hg) al rfl (cQ (d:=dc.setIfInBounds j2 dc[a]!) (i:=a) (x:=dc[j2]!) (by simpa using hac)) rfl aN.symm
  ·rfl
  exact az.nil _
 case ht=>rfl
 case hF=>exact zh
 show CW _ _ _ _
 refine aC ?_
 refine ak ?_
 refine⟨_,al,false,by rw[hstep];rfl,?_⟩
 simp only[hstep]
 exact⟨by rw[h4,aN],D1.swp hy1 hac,by rw[swp_size];exact h3⟩
have d5:decide ((j2:Int)<(i2:Int))=false:=decide_eq_false om
rw[if_neg hgt,h5] at hstep
have hx1:i2<dc.size:=by omega
have hy1:j2<dc.size:=by omega
have gx:=bG hx1
have gy:=bG hy1
have rx:=cz (k:=i2) (n:=d.size) om
have ry:=cz (k:=j2) (n:=d.size) om
have e6:IntKind.i64.wrap ((i2:Int)+1)=(i2:Int)+1:=ay om om
obtain⟨q,hq⟩:∃ q,q=j2-1:=⟨_,rfl⟩
have e7:IntKind.i64.wrap ((j2:Int)-1)=(q:Int):=by rw[ay om om];omega
rw[← hq] at hstep
refine aG d5 ?_
refine ae rfl ?_
refine aC ?_
refine aA [(0,.val (.slice (some ⟨id,0,some av⟩) d.size c)),(1,.val (i64 a)),(4,.val aP),(12,.val (i64 i2)),(13,.val (i64 j2))] aM ?_
show CW _ _ ⟨_,[],hc⟩ _
apply bm (L:=[[],[],[],[],[],[],[4,5],[4,5,6],[],[],[8,9],[8,9,10],[0,1],[0,1,4,5,6,7,8,9,10,11,12],[2,3],[0,1,2,3,4,5,6,7,8,9,10,11,12,13,14]]) (act:=[13,15]) (hs:=[hc.set id (.aq (IC (dc.setIfInBounds i2 dc[j2]!)) av true 70),hc.set id (.aq (IC (Go.Sort.swp dc i2 j2)) av true 70)]) (resL:=[_,_,_,_,_,_,_,_,_,_,_,_,_,_,_,_]) (frF:=[(0,.val (.slice (some ⟨id,0,some av⟩) d.size c)),(1,.val (i64 a)),(4,.val aP),(12,.val (i64 i2)),(13,.val (i64 j2))])
case hm=>exact mixed
case hc=>kernel_rfl
case ha=>rfl
case hb=>rfl
case hS=>
 refine y8 hg gx gy rx ry Nat.mul_one ?_
 apply az.cons
 ·rfl
 ·refine⟨?_,trivial⟩
  exact bw (r:=.sl .dL) rfl al rfl al al hg al rfl (cQ (d:=dc) (i:=i2) (x:=dc[j2]!) hx1) rfl rfl
 ·rfl
 refine y8 hg gx gy rx ry Nat.mul_one ?_
 apply az.cons
 ·rfl
 ·refine⟨?_,trivial⟩
  exact bw (r:=.sl .dL) rfl al rfl al al (aw hg) al rfl (cQ (d:=dc.setIfInBounds i2 dc[j2]!) (i:=j2) (x:=dc[i2]!) (by simpa using hy1)) rfl aN.symm
 ·rfl
 exact az.nil _
case ht=>rfl
case hF=>exact zh
show CW _ _ _ _
refine fz e6 e7 ?_
exact⟨(i2+1,q,Go.Sort.swp dc i2 j2,_),by simp only;omega,aM,rfl,by simp only;omega,by simp only;omega,by simp only;omega,by simp only;omega,by simp only;rw[swp_size];exact h3,by simp only;rw[h4,aN],D1.swp hx1 hy1,hstep.symm⟩}
end Go.Proofs.YtmdmimkbpikmoaaGreat
