/- Several texts, one behind the other. -/
import Derived.Test.YtmdmimkbpikmoaaGreatZV4
import Derived.Test.YtmdmimkbpikmoaaGreatZG5
import Derived.Sort.Statements
import Derived.Test.YtmdmimkbpikmoaaGreatZFa
import Derived.Sort.LotA
import Derived.Sort.LotC
namespace Go.Proofs.YtmdmimkbpikmoaaGreat
set_option linter.unusedSimpArgs false
set_option linter.unusedVariables false
set_option maxRecDepth 20000
open Go.RowKit Am Ty
structure CpI {α:Type} (f:α→Value→List Value) (R:Heap→Value→α→Prop) (et:TypeId) (h hk:Heap) (id ver:Nat) (l:List α) (us W:List Value) (k:Nat):Prop where
 p:h <+: hk
 n:W.length=l.length
 o:hk[id]? = some (.arr ((l.zip W).flatMap fun p=>f p.1 p.2) ver true et)
 d:∀ (i:Nat) (hi:i<l.length),i<k→∃ u,W[i]? = some u∧Fr (fun x=>R x u l[i]) (id+1) hk
 r:∀ i,k≤i→W[i]? = us[i]?
section
variable {α:Type} {f:α→Value→List Value} {R:Heap→Value→α→Prop} {et:TypeId} {h hk h5:Heap} {id ver:Nat} {l:List α} {us W:List Value} {k:Nat}
theorem CpI.step {r:Value} (I:CpI f R et h hk id ver l us W k) (hlt:k<l.length) (hid:h.length≤id) (hp5:hk <+: h5) (hF:Fr (fun x=>R x r l[k]) hk.length h5) :
 CpI f R et h (h5.set id (.arr ((l.zip (W.set k r)).flatMap fun p=>f p.1 p.2) ver true et)) id ver l us (W.set k r) (k+1):=by
 have hlen1:=Yn I.o
 have hA5:Agr (id+1) hk (h5.set id (.arr ((l.zip (W.set k r)).flatMap fun p=>f p.1 p.2) ver true et)):=(Agr.pre hp5).trans (Agr.set om)
 refine⟨Xa (I.p.trans hp5) hid,by rw[List.length_set];exact I.n,Qh (Qc hp5 I.o),fun i hi h2=>?_,fun i hi=>?_⟩
 ·rcases (by omega:i<k∨i=k) with h4|rfl
  ·obtain⟨u,hu1,hu2⟩:=I.d i hi h4
   exact⟨u,by rw[List.getElem?_set_ne om];exact hu1,hu2.mono hA5⟩
  ·refine⟨_,List.getElem?_set_self (by rw[I.n];exact hlt),(hF.mono ?_).low om⟩
   exact Agr.set om
 ·rw[List.getElem?_set_ne om]
  exact I.r i om
theorem CpI.fin {b c:Nat} (I:CpI f R et h hk id ver l us W l.length) (hb:l.length*b≤140737488355328):Fr (fun x=>RdL f R et b x (.slice (some ⟨id,0,some ver⟩) l.length c) l) id hk:=by
 refine fun x e=>⟨W,I.n,⟨hb,.inr ⟨id,ver,true,_,rfl,e _ _ (Nat.le_refl _) I.o⟩⟩,fun i y u h1 h2=>?_⟩
 obtain⟨hi,rfl⟩:=List.getElem?_eq_some_iff.1 h1
 obtain⟨u',hu1,hu2⟩:=I.d i hi hi
 rw[hu1] at h2
 cases h2
 exact hu2 x (e.low om)
end
theorem Qdq {all:Array Oper} {o:Oper} {r:List Oper} {s:St} {K:St→Prop} {x:Operand} {t y:Nat} {e:TypeId} {ti:TI} {v:Value} {cs cells:List Value} {n:Nat} {h:Heap} (hw:Ql all o s=some true)
 (ho:o.op = .call { callee:=.builtin .append,args:=#[x,.tmp y],argTypes:=#[t,t] }) (hu:env.P.underlying t=some (.slice e)) (ht:Qf env.P e=some ti) (hs0:0<ti.size) (hz:(ti.zero.map fun z=>z.cells.size)=some ti.size)
 (hx:ev s x=some v) (hy:fget s.fr y = .bsl cs 1) (G:Grow h s.h v n cells e) (hp:h <+: s.h) (hl:cells.length=n*ti.size) (hc:cs.length=ti.size) (hb:(n+1)*ti.bytes≤140737488355328) (hn:n+1≤140737488355328)
 (k:∀ p c h',Grow h h' (.slice p (n+1) c) (n+1) (cells++cs) e→h <+: h'→(∀ j o,isAt v j=false→s.h[j]? = some o→h'[j]? = some o)→(∀ x,isAt (.slice p (n+1) c) x=true→isAt v x=true∨x=s.h.length)→OW env all r ({ s with h:=h' }.putO o.dst (.val (.slice p (n+1) c))) K):OW env all (o :: r) s K:=by
 have hi:Xz s s.h ti.size (.tmp y)=some (cs,1):=by simp only[Xz,hy,hc,Nat.one_mul,if_true]
 rcases G with ⟨rfl,rfl,rfl⟩ | ⟨id,ver,h1,rfl,h3⟩
 ·refine Qew hw ho hu ht hs0 hz hx hi (by decide) (by simpa using hb) (by decide) ?_
  exact k (some ⟨s.h.length,0,some 0⟩) 1 _ (.inr ⟨s.h.length,0,hp.length_le,rfl,by simp⟩) (Yl hp) (fun j o _ h=>Xg h) (fun x hx=>by
   simp only[isAt,beq_iff_eq] at hx
   exact .inr hx.symm)
 ·refine Qfu hw ho hu ht hs0 hz hx h3 om hi hb hn ?_
  rw[List.take_of_length_le om]
  refine k (some ⟨id,0,some (ver+1)⟩) (n+1) _ (.inr ⟨id,ver+1,h1,rfl,Qh h3⟩) (Xa hp h1) (fun j o hj h=>?_) (fun x hx=>?_)
  ·simp only[isAt,beq_eq_false_iff_ne] at hj
   rw[Qk hj]
   exact h
  ·simp only[isAt] at hx ⊢
   exact .inl hx
theorem Qsq {all:Array Oper} {o:Oper} {s:St} {h h':Heap} {t et:TypeId} {a x:Operand} {ti:TI} {id off ver:Nat} {cells vs cells':List Value} {v:Value} {r:Res} (hh:s.h=h) (hw:Ql all o s=some true) (ho:o.op = .store t a x) (ht:Qf env.P t=some ti) (ha:ev s a=some (.pointer (some ⟨id,off,some ver⟩))) (hid:h[id]? = some (.arr cells ver true et)) (hx:ev s x=some v) (hv:Zg ti.size v=some vs)
 (hq:wrC cells off vs=some cells') (hd:o.dst=none) (he:h'=h.set id (HObj.arr cells' ver true et)):One env all o s r h':=by
 subst hh he
 exact .stoH hw ho ht ha hid hx hv hq hd
abbrev prF:Prod→Value→List Value:=fun p u=>[.bool p.lex,.string p.sort,.string p.cons,.bool p.bracket,u]
abbrev grF:Group→Value→List Value:=fun p u=>[i64 p.assoc,u]
abbrev bxF:Box→Value→List Value:=fun p u=>[.string p.cons,u]
def cpB (d:Def) (vP vC vF vR vB:Value):List Value:=[.string d.start,.string d.layout,vP,vC,vF,vR,vB]
abbrev ZD:List Value:=[.string ⟨#[]⟩,.string ⟨#[]⟩,nilS,nilS,nilS,nilS,nilS]
structure ChI (h hk:Heap) (v:Value) (l:List (List Group)) (vs:List Value) (k:Nat):Prop where
 p:h <+: hk
 n:vs.length=k
 g:Grow h hk v k vs 80
 e:∀ (i:Nat) (hi:i<l.length),i<k→∃ u,vs[i]? = some u∧∀ x:Heap,(∀ j o,h.length≤j→isAt v j=false→hk[j]? = some o→x[j]? = some o)→RdChain x u l[i]
theorem Qlw:∀ {α:Type} {l:List α} {W:List Value},W.length=l.length→((l.zip W).flatMap fun p=>[p.2])=W
 | _,[],[],_=>rfl
 | _,x :: l,w :: W,h=>by
   rw[List.zip_cons_cons,List.flatMap_cons,Qlw (by simpa using h)]
   rfl
section
variable {h:Heap} {d:Def} {up uc uf ur ub:Value}
set_option maxHeartbeats 16000000 in
theorem Qrz (hd:RdDefs h d up uc uf ur ub):FW env 32 [.agg (d.val up uc uf ur ub).toArray] h fun r h'=>h <+: h'∧∃ vp vc vf vr vb,r = .agg (d.val vp vc vf vr vb).toArray∧Fr (fun x=>RdDefs x d vp vc vf vr vb) h.length h':=by
 obtain⟨p1,c1,rfl⟩:=RdL.form hd.prods
 obtain⟨p2,c2,rfl⟩:=RdL.form hd.chains
 obtain⟨p3,c3,rfl⟩:=SlR.form hd.follows
 obtain⟨p4,c4,rfl⟩:=SlR.form hd.rejects
 obtain⟨p5,c5,rfl⟩:=RdL.form hd.boxes
 have l1:d.prods.length≤140737488355328:=by have:=RdL.le hd.prods;omega
 have l2:d.chains.length≤140737488355328:=by have:=RdL.le hd.chains;omega
 have l3:d.follows.length≤140737488355328:=by have:=hd.follows.1;omega
 have l4:d.rejects.length≤140737488355328:=by have:=hd.rejects.1;omega
 have l5:d.boxes.length≤140737488355328:=by have:=RdL.le hd.boxes;omega
 obtain⟨UP,hUPn,hUPs,hUPr⟩:=id hd.prods
 obtain⟨UB,hUBn,hUBs,hUBr⟩:=id hd.boxes
 have hcP:((d.prods.zip UP).flatMap fun p=>prF p.1 p.2).length=d.prods.length*5:=by rw[Yv (f:=fun p:Prod×Value=>prF p.1 p.2) (k:=5) (fun _=>rfl),List.length_zip,hUPn,Nat.min_self]
 have hcB:((d.boxes.zip UB).flatMap fun p=>bxF p.1 p.2).length=d.boxes.length*2:=by rw[Yv (f:=fun p:Box×Value=>bxF p.1 p.2) (k:=2) (fun _=>rfl),List.length_zip,hUBn,Nat.min_self]
 have hbP:d.prods.length*72≤140737488355328:=RdL.le hd.prods
 have hbB:d.boxes.length*40≤140737488355328:=RdL.le hd.boxes
 have hbC:d.chains.length*24≤140737488355328:=RdL.le hd.chains
 refine fe Tryz.func32 ?_;simp only[push_cast]
 unfold Def.val
 refine zu ?_
 refine Yw (t:=28) (cs:=cpB d (.slice p1 d.prods.length c1) (.slice p2 d.chains.length c2) (.slice p3 d.follows.length c3) (.slice p4 d.rejects.length c4) (.slice p5 d.boxes.length c5)) zf0 kr ?_
 dsimp only[St.putO,St.put]
 have hp1:h <+: h++[HObj.arr (cpB d (.slice p1 d.prods.length c1) (.slice p2 d.chains.length c2) (.slice p3 d.follows.length c3) (.slice p4 d.rejects.length c4) (.slice p5 d.boxes.length c5)) 0 true 28]:=Qo
 have hx1:(h++[HObj.arr (cpB d (.slice p1 d.prods.length c1) (.slice p2 d.chains.length c2) (.slice p3 d.follows.length c3) (.slice p4 d.rejects.length c4) (.slice p5 d.boxes.length c5)) 0 true 28])[h.length]? = some (.arr (cpB d (.slice p1 d.prods.length c1) (.slice p2 d.chains.length c2) (.slice p3 d.follows.length c3) (.slice p4 d.rejects.length c4) (.slice p5 d.boxes.length c5)) 0 true 28):=Qp
 have hl1':(h++[HObj.arr (cpB d (.slice p1 d.prods.length c1) (.slice p2 d.chains.length c2) (.slice p3 d.follows.length c3) (.slice p4 d.rejects.length c4) (.slice p5 d.boxes.length c5)) 0 true 28]).length=h.length+1:=by simp
 generalize (h++[HObj.arr (cpB d (.slice p1 d.prods.length c1) (.slice p2 d.chains.length c2) (.slice p3 d.follows.length c3) (.slice p4 d.rejects.length c4) (.slice p5 d.boxes.length c5)) 0 true 28])=h1 at hp1 hx1 hl1' ⊢
 unfold cpB at hx1
 refine zw1 hx1 ?_
 refine zj Tryz.func82 ?_
 refine (Qqt (hUPs.mono hp1) hcP).mono ?_
 rintro _ h2 ⟨hp2,hGP⟩
 obtain⟨qP,cP,rfl⟩:=hGP.form
 have hx2:=Qc hp2 hx1
 refine zw0 ?_
 refine Yc (cells':=cpB d (.slice qP d.prods.length cP) (.slice p2 d.chains.length c2) (.slice p3 d.follows.length c3) (.slice p4 d.rejects.length c4) (.slice p5 d.boxes.length c5)) zf0 rfl rfl rfl zf0 hx2 zf0 rfl rfl ?_
 dsimp only
 have hx3:(h2.set h.length (.arr (cpB d (.slice qP d.prods.length cP) (.slice p2 d.chains.length c2) (.slice p3 d.follows.length c3) (.slice p4 d.rejects.length c4) (.slice p5 d.boxes.length c5)) 0 true 28))[h.length]? = some (.arr (cpB d (.slice qP d.prods.length cP) (.slice p2 d.chains.length c2) (.slice p3 d.follows.length c3) (.slice p4 d.rejects.length c4) (.slice p5 d.boxes.length c5)) 0 true 28):=Qh hx2
 have hp3:h <+: h2.set h.length (.arr (cpB d (.slice qP d.prods.length cP) (.slice p2 d.chains.length c2) (.slice p3 d.follows.length c3) (.slice p4 d.rejects.length c4) (.slice p5 d.boxes.length c5)) 0 true 28):=Xa (hp1.trans hp2) (Nat.le_refl _)
 have hGP3:Grow h1 (h2.set h.length (.arr (cpB d (.slice qP d.prods.length cP) (.slice p2 d.chains.length c2) (.slice p3 d.follows.length c3) (.slice p4 d.rejects.length c4) (.slice p5 d.boxes.length c5)) 0 true 28)) (.slice qP d.prods.length cP) d.prods.length ((d.prods.zip UP).flatMap fun p=>prF p.1 p.2) 51:=hGP.mono fun j o hj ho=>by
  have:=(hGP.lt hj).1
  rw[Qk om]
  exact ho
 generalize (h2.set h.length (.arr (cpB d (.slice qP d.prods.length cP) (.slice p2 d.chains.length c2) (.slice p3 d.follows.length c3) (.slice p4 d.rejects.length c4) (.slice p5 d.boxes.length c5)) 0 true 28))=h3 at hx3 hp3 hGP3 ⊢
 clear hGP hx2 hp2
 unfold cpB at hx3
 refine zw1 hx3 ?_
 refine CW.mono (Q:=fun e s'=>e = .exit 0∧∃ hk,h <+: hk∧hk[h.length]? = some (.arr (cpB d (.slice qP d.prods.length cP) (.slice p2 d.chains.length c2) (.slice p3 d.follows.length c3) (.slice p4 d.rejects.length c4) (.slice p5 d.boxes.length c5)) 0 true 28)∧Fr (fun x=>RdProds x (.slice qP d.prods.length cP) d.prods) (h.length+1) hk∧s'.h=hk∧SubL [(1,.val (.pointer (some ⟨h.length,0,some 0⟩))),(2,.box ZD)] s'.fr) ?_ ?_
 ·by_cases hz:d.prods.length=0
  ·refine Yq d.prods.length (fun k=>[(1,.val (.pointer (some ⟨h.length,0,some 0⟩))),(2,.box ZD),(15,.val (i64 d.prods.length)),(16,.val (i64 k))]) (fun _=>h3) (fun _=>True) zg0 rfl trivial ?_
   intro k hkn _
   have hlt:¬ k<d.prods.length:=by omega
   have e3:=Qu hlt
   refine zw1 e3 ?_
   refine Qa rfl ?_
   refine Qj ?_
   refine⟨rfl,h3,hp3,hx3,fun x e=>⟨UP,hUPn,(hGP3.fr (b:=72) hbP) x (by rw[hl1'];exact e),fun i y u h1 h2=>?_⟩,rfl,zg0⟩
   have:=(List.getElem?_eq_some_iff.1 h1).1
   omega
  obtain⟨id,ver,hid,hv,hob⟩:=hGP3.mine om
  cases hv
  refine Qy d.prods.length (fun k (x:Heap×List Value)=>[(1,.val (.pointer (some ⟨h.length,0,some 0⟩))),(2,.box ZD),(15,.val (i64 d.prods.length)),(16,.val (i64 k))]) (fun _ x=>x.1) (fun k x=>CpI prF (fun h u p=>RdYs h u p.syms) 51 h x.1 id ver d.prods UP x.2 k∧x.1[h.length]? = some (.arr (cpB d (.slice (some ⟨id,0,some ver⟩) d.prods.length d.prods.length) (.slice p2 d.chains.length c2) (.slice p3 d.follows.length c3) (.slice p4 d.rejects.length c4) (.slice p5 d.boxes.length c5)) 0 true 28)) (h3,UP) zg0 rfl ⟨⟨hp3,hUPn,hob,fun i hi h=>absurd h om,fun i _=>rfl⟩,hx3⟩ ?_
  rintro k ⟨hk,W⟩ hkn ⟨I,hx⟩
  simp only at I hx ⊢
  by_cases hlt:k<d.prods.length
  ·have e1:=rng hlt
   have e2:=inc hlt l1
   have e3:=Qv hlt
   have hWk:W[k]? = some (UP[k]'om):=by rw[I.r k (Nat.le_refl _)];simp
   have hg:=Qg8 (f:=prF) (k:=5) (fun _ _=>rfl) hlt hWk
   have hg3:=Ja (j:=4) hg om
   simp only[List.getElem?_cons_succ,List.getElem?_cons_zero] at hg3
   have hu:RdYs h (UP[k]'om) d.prods[k].syms:=hUPr k d.prods[k] (UP[k]'om) (by simp [hlt]) (by simp)
   obtain⟨pu,cu,huf⟩:=SlR.form hu
   rw[huf] at hg3 hu
   have hcl:=Qq1 (hu.mono I.p) Qjt
   unfold FW at hcl
   obtain⟨r,h5,hcall,hp5,hGr⟩:=hcl
   have hF:=hGr.fr (b:=88) hu.1
   obtain⟨pr,cr,rfl⟩:=hGr.form
   have ho:=I.o
   have ho5:=Qc hp5 ho
   have hx5:=Qc hp5 hx
   have I':=I.step hlt om hp5 hF
   have hx6:(h5.set id (.arr ((d.prods.zip (W.set k (.slice pr d.prods[k].syms.length cr))).flatMap fun p=>prF p.1 p.2) ver true 51))[h.length]? = some (.arr (cpB d (.slice (some ⟨id,0,some ver⟩) d.prods.length d.prods.length) (.slice p2 d.chains.length c2) (.slice p3 d.follows.length c3) (.slice p4 d.rejects.length c4) (.slice p5 d.boxes.length c5)) 0 true 28):=by rw[Qk om];exact hx5
   unfold cpB at hx hx5
   refine zw1 e3 ?_
   refine Qb rfl ?_
   refine zw0 ?_
   refine Qi [(1,.val (.pointer (some ⟨h.length,0,some 0⟩))),(2,.box ZD),(3,.val (i64 k)),(15,.val (i64 d.prods.length)),(16,.val (i64 k))] zg0 ?_
   show CW _ _ ⟨_,[],hk⟩ _
   apply Xd (L:=[[],[0],[],[],[3],[],[4,5],[6],[7],[8],[1,2],[10],[0,1,2,3,4,5,6,7,8,9,11]]) (act:=[9,12]) (hs:=[h5,h5.set id (.arr ((d.prods.zip (W.set k (.slice pr d.prods[k].syms.length cr))).flatMap fun p=>prF p.1 p.2) ver true 51)]) (resL:=[_,_,_,_,_,_,_,_,_,_,_,_,_]) (frF:=[(1,.val (.pointer (some ⟨h.length,0,some 0⟩))),(2,.box ZD),(15,.val (i64 d.prods.length)),(16,.val (i64 k))])
   case hm=>exact Qq
   case hc=>kernel_rfl
   case ha=>rfl
   case hb=>rfl
   case hS=>
    refine za5 hx hx5 e1 ho hg3 ?_
    apply StepsA.cons
    ·rfl
    ·refine⟨?_,trivial⟩
     exact Yu (args:=[.slice pu d.prods[k].syms.length cu]) (cap:=[]) (fn:=Tryz.f83) zf0 rfl zf0 zf0 Tryz.func83 kr kr hcall
    ·rfl
    refine za5 hx hx5 e1 ho hg3 ?_
    apply StepsA.cons
    ·rfl
    ·refine⟨?_,trivial⟩
     exact One.stoH (r:=.sl .unk) zf0 rfl zf0 zf0 ho5 zf0 rfl (Qfk (f:=prF) (k:=5) (o:=4) (fun _ _=>rfl) (by decide) (fun _ _ _=>rfl) I.n hlt) rfl
    ·rfl
    exact StepsA.nil _
   case ht=>rfl
   case hF=>exact zh
   show CW _ _ _ _
   refine zw1 e2 ?_
   exact⟨hlt,(_,_),zg0,rfl,I',hx6⟩
  ·have e3:=Qu hlt
   obtain rfl:k=d.prods.length:=by omega
   refine zw1 e3 ?_
   refine Qa rfl ?_
   refine Qj ?_
   exact⟨rfl,hk,I.p,hx,(I.fin (c:=d.prods.length) hbP).low om,rfl,zg0⟩
 clear hGP3 hx3 hp3
 rintro e s' ⟨rfl,h4,hp4,hx4,hFP,hh,hf⟩
 show CW _ _ _ _
 refine Qi _ hf ?_
 rw[hh]
 clear hf hh s'
 unfold cpB at hx4
 refine zw1 hx4 ?_
 refine CW.mono (Q:=fun e s'=>e = .exit 2∧∃ hk vs q c,ChI h4 hk (.slice q d.chains.length c) d.chains vs d.chains.length∧s'.h=hk∧SubL [(1,.val (.pointer (some ⟨h.length,0,some 0⟩))),(2,.box ZD),(4,.val (.slice q d.chains.length c))] s'.fr) ?_ ?_
 ·refine Qy d.chains.length (fun k (x:Heap×List Value×Option Addr×Nat)=>[(1,.val (.pointer (some ⟨h.length,0,some 0⟩))),(2,.box ZD),(4,.val (.slice x.2.2.1 k x.2.2.2)),(33,.val (.slice p2 d.chains.length c2)),(34,.val (i64 d.chains.length)),(35,.val (i64 k))]) (fun _ x=>x.1) (fun k x=>ChI h4 x.1 (.slice x.2.2.1 k x.2.2.2) d.chains x.2.1 k) (h4,[],none,0) zg0 rfl ⟨List.prefix_refl _,rfl,Grow.nil,fun i _ hi=>absurd hi om⟩ ?_
  rintro k ⟨hk,vs,qC,cC⟩ hkn I
  simp only at I ⊢
  have hpk:=hp4.trans I.p
  by_cases hlt:k<d.chains.length
  ·obtain⟨id,ver,own,c',cells,u,hv,hid0,hrd,hu⟩:=RdL.at (k:=1) (fun _ _=>rfl) hd.chains hlt
   cases hv
   have hid:=Qc hpk hid0
   have hu:RdChain h u d.chains[k]:=hu
   obtain⟨ps,cs,rfl⟩:=RdL.form hu
   have hu':=hu
   obtain⟨UG,hUGn,hUGs,hUGr⟩:=hu'
   have hg:=Qci hrd om
   simp only[List.getElem?_cons_zero,Nat.mul_one] at hg
   have w1:=rng hlt
   have w2:=inc hlt l2
   have q3:=Qv hlt
   have hbG:d.chains[k].length*32≤140737488355328:=RdL.le hu
   have hcG:((d.chains[k].zip UG).flatMap fun p=>grF p.1 p.2).length=d.chains[k].length*2:=by rw[Yv (f:=fun p:Group×Value=>grF p.1 p.2) (k:=2) (fun _=>rfl),List.length_zip,hUGn,Nat.min_self]
   refine zw1 q3 ?_
   refine Qb rfl ?_
   refine zw4 w1 hid hg Nat.mul_one ?_
   refine zj Tryz.func84 ?_
   refine (Qsn (hUGs.mono hpk) hcG).mono ?_
   rintro _ h5 ⟨hp5,hGG⟩
   obtain⟨qG,cG,rfl⟩:=hGG.form
   refine zw0 ?_
   refine CW.mono (Q:=fun e s'=>e = .exit 4∧∃ h6,hk <+: h6∧Fr (fun x=>RdChain x (.slice qG d.chains[k].length cG) d.chains[k]) hk.length h6∧s'.h=h6∧SubL [(1,.val (.pointer (some ⟨h.length,0,some 0⟩))),(2,.box ZD),(4,.val (.slice qC k cC)),(6,.val (.slice qG d.chains[k].length cG)),(33,.val (.slice (some ⟨id,0,some ver⟩) d.chains.length c2)),(34,.val (i64 d.chains.length)),(35,.val (i64 k))] s'.fr) ?_ ?_
   ·by_cases hz:d.chains[k].length=0
    ·refine Yq d.chains[k].length (fun m=>[(1,.val (.pointer (some ⟨h.length,0,some 0⟩))),(2,.box ZD),(4,.val (.slice qC k cC)),(6,.val (.slice qG d.chains[k].length cG)),(33,.val (.slice (some ⟨id,0,some ver⟩) d.chains.length c2)),(34,.val (i64 d.chains.length)),(35,.val (i64 k)),(42,.val (i64 d.chains[k].length)),(43,.val (i64 m))]) (fun _=>h5) (fun _=>True) zg0 rfl trivial ?_
     intro m hmn _
     have hml:¬ m<d.chains[k].length:=by omega
     have e3:=Qu hml
     refine zw1 e3 ?_
     refine Qa rfl ?_
     refine Qj ?_
     refine⟨rfl,h5,hp5,fun x e=>⟨UG,hUGn,(hGG.fr (b:=32) hbG) x e,fun i y u h1 h2=>?_⟩,rfl,zg0⟩
     have:=(List.getElem?_eq_some_iff.1 h1).1
     omega
    obtain⟨idg,verg,hidg,hvg,hobg⟩:=hGG.mine om
    cases hvg
    refine Qy d.chains[k].length (fun m (x:Heap×List Value)=>[(1,.val (.pointer (some ⟨h.length,0,some 0⟩))),(2,.box ZD),(4,.val (.slice qC k cC)),(6,.val (.slice (some ⟨idg,0,some verg⟩) d.chains[k].length d.chains[k].length)),(33,.val (.slice (some ⟨id,0,some ver⟩) d.chains.length c2)),(34,.val (i64 d.chains.length)),(35,.val (i64 k)),(42,.val (i64 d.chains[k].length)),(43,.val (i64 m))]) (fun _ x=>x.1) (fun m x=>CpI grF (fun h u p=>RdNames h u p.cons) 82 hk x.1 idg verg d.chains[k] UG x.2 m) (h5,UG) zg0 rfl ⟨hp5,hUGn,hobg,fun i hi h=>absurd h om,fun i _=>rfl⟩ ?_
    rintro m ⟨hm,W⟩ hmn J
    simp only at J ⊢
    by_cases hml:m<d.chains[k].length
    ·have e1:=rng hml
     have e2:=inc hml om
     have e3:=Qv hml
     have hWk:W[m]? = some (UG[m]'om):=by rw[J.r m (Nat.le_refl _)];simp
     have hg:=Qg8 (f:=grF) (k:=2) (fun _ _=>rfl) hml hWk
     have hg3:=Ja (j:=1) hg om
     simp only[List.getElem?_cons_succ,List.getElem?_cons_zero] at hg3
     have huN:RdNames h (UG[m]'om) (d.chains[k])[m].cons:=hUGr m (d.chains[k])[m] (UG[m]'om) (by simp [hml]) (by simp)
     obtain⟨pu,cu,huf⟩:=SlR.form huN
     rw[huf] at hg3 huN
     have ho:=J.o
     refine zw1 e3 ?_
     refine Qb rfl ?_
     refine zw3 e1 ho hg3 ?_
     refine zj Tryz.func85 ?_
     refine (Qr4 (huN.mono (hpk.trans J.p)) (by simp)).mono ?_
     rintro _ h7 ⟨hp7,hGN⟩
     have hF:=hGN.fr (b:=16) huN.1
     obtain⟨pr,cr,rfl⟩:=hGN.form
     have ho7:=Qc hp7 ho
     have J':=J.step hml hidg hp7 hF
     refine zw1 e1 ?_
     refine Yc zf0 rfl rfl rfl zf0 ho7 zf0 rfl (Qfk (f:=grF) (k:=2) (o:=1) (fun _ _=>rfl) (by decide) (fun _ _ _=>rfl) J.n hml) ?_
     refine zw1 e2 ?_
     exact⟨hml,(_,_),zg0,rfl,J'⟩
    ·have e3:=Qu hml
     obtain rfl:m=d.chains[k].length:=by omega
     refine zw1 e3 ?_
     refine Qa rfl ?_
     refine Qj ?_
     exact⟨rfl,hm,J.p,(J.fin (c:=d.chains[k].length) hbG).low hidg,rfl,zg0⟩
   rintro e s' ⟨rfl,h6,hp6,hFC,hh,hf⟩
   show CW _ _ _ _
   refine Qi _ hf ?_
   rw[hh]
   clear hf hh s'
   have hG6:Grow h4 h6 (.slice qC k cC) k vs 80:=I.g.mono fun j o _ ho=>Qc hp6 ho
   refine zw0 ?_
   refine Qdq (t:=23) (cs:=[.slice qG d.chains[k].length cG]) zf0 rfl kr ti80 (by decide) rfl zf0 rfl hG6 (I.p.trans hp6) (by rw[I.n,show (_:TI).size=1 from rfl,Nat.mul_one]) rfl (by simp only;omega) om ?_
   intro p' c' h7 k1 k2 k3 k4
   have k4:∀ x,isAt (.slice p' (k+1) c') x=true→isAt (.slice qC k cC) x=true∨x=h6.length:=k4
   refine zw1 w2 ?_
   refine⟨hlt,(h7,vs++[.slice qG d.chains[k].length cG],p',c'),zg0,rfl,k2,by rw[List.length_append,I.n];rfl,k1,fun i hi h2=>?_⟩
   rcases (by omega:i<k∨i=k) with h8|rfl
   ·obtain⟨u',hu1,hu2⟩:=I.e i hi h8
    refine⟨u',by rw[List.getElem?_append_left (by rw[I.n];exact h8)];exact hu1,fun x hx=>hu2 x fun j o hj ha ho=>?_⟩
    refine hx j o hj ?_ (k3 j o ha (Qc hp6 ho))
    cases hb:isAt (.slice p' (k+1) c') j with
    | false=>rfl
    | true=>
      rcases k4 j hb with h9|h9
      ·rw[ha] at h9;cases h9
      ·have:=Yn ho
       have:=hp6.length_le
       omega
   ·refine⟨_,by rw[List.getElem?_append_right (by rw[I.n];exact Nat.le_refl _),I.n,Nat.sub_self];rfl,fun x hx=>hFC x fun j o hj ho=>?_⟩
    have hlk:=I.p.length_le
    have ha:isAt (.slice qC i cC) j=false:=by
     cases hb:isAt (.slice qC i cC) j with
     | false=>rfl
     | true=>have:=(I.g.lt hb).2;omega
    refine hx j o om ?_ (k3 j o ha ho)
    cases hb:isAt (.slice p' (i+1) c') j with
    | false=>rfl
    | true=>
      rcases k4 j hb with h9|h9
      ·rw[ha] at h9;cases h9
      ·have:=Yn ho
       omega
  ·have q3:=Qu hlt
   obtain rfl:k=d.chains.length:=by omega
   refine zw1 q3 ?_
   refine Qa rfl ?_
   refine Qj ?_
   exact⟨rfl,hk,vs,qC,cC,I,rfl,zg0⟩
 rintro e s' ⟨rfl,h5,vs,qC,cC,I,hh,hf⟩
 show CW _ _ _ _
 refine Qi _ hf ?_
 rw[hh]
 clear hf hh s'
 have hp5:=hp4.trans I.p
 have hx5:=Qc I.p hx4
 have hlx:=Yn hx4
 have hgC:=I.g
 have hFC:Fr (fun x=>RdChains x (.slice qC d.chains.length cC) d.chains) h4.length h5:=by
  refine fun x e=>⟨vs,I.n,?_,fun i y u h1 h2=>?_⟩
  ·rw[Qlw I.n]
   exact (I.g.fr (b:=24) hbC) x e
  ·obtain⟨hi,rfl⟩:=List.getElem?_eq_some_iff.1 h1
   obtain⟨u',hu1,hu2⟩:=I.e i hi hi
   rw[hu1] at h2
   cases h2
   exact hu2 x fun j o hj _ ho=>e j o hj ho
 have hFP5:=hFP.mono (Agr.pre I.p)
 clear hFP I hgC
 refine zw0 ?_
 refine Yc (v:=.slice qC d.chains.length cC) (vs:=[.slice qC d.chains.length cC]) (cells':=cpB d (.slice qP d.prods.length cP) (.slice qC d.chains.length cC) (.slice p3 d.follows.length c3) (.slice p4 d.rejects.length c4) (.slice p5 d.boxes.length c5)) zf0 rfl rfl rfl zf0 hx5 zf0 rfl rfl ?_
 dsimp only
 obtain⟨h6,hh6⟩:∃ h6,h6=h5.set h.length (.arr (cpB d (.slice qP d.prods.length cP) (.slice qC d.chains.length cC) (.slice p3 d.follows.length c3) (.slice p4 d.rejects.length c4) (.slice p5 d.boxes.length c5)) 0 true 28):=⟨_,rfl⟩
 have hx6:h6[h.length]? = some (.arr (cpB d (.slice qP d.prods.length cP) (.slice qC d.chains.length cC) (.slice p3 d.follows.length c3) (.slice p4 d.rejects.length c4) (.slice p5 d.boxes.length c5)) 0 true 28):=hh6▸Qh hx5
 have hA6:Agr (h.length+1) h5 h6:=hh6▸Agr.set (Nat.lt_succ_self _)
 have hp6:h <+: h6:=hh6▸Xa hp5 (Nat.le_refl _)
 rw[← hh6]
 clear hh6
 have hFP6:=hFP5.mono hA6
 have hFC6:=(hFC.low (show h.length+1≤h4.length by omega)).mono hA6
 clear hFC hFP5 hA6 hx5
 have hk1:=Qq3 (SlR.mono hd.follows hp6) (by rw[Yv (f:=Follow.cells) (k:=5) (fun _=>rfl)])
 unfold FW at hk1
 obtain⟨rF,h7,hcF,hp7,hGF⟩:=hk1
 obtain⟨qF,cF,rfl⟩:=hGF.form
 have hk2:=Qq2 (SlR.mono hd.rejects (hp6.trans hp7)) (by rw[Yv (f:=Reject.cells) (k:=2) (fun _=>rfl)])
 unfold FW at hk2
 obtain⟨rR,h8,hcR,hp8,hGR⟩:=hk2
 obtain⟨qR,cR,rfl⟩:=hGR.form
 have hx7:=Qc hp7 hx6
 have hx8:=Qc hp8 hx7
 have hlen6:=hp6.length_le
 have hFF:Fr (fun x=>RdFollows x (.slice qF d.follows.length cF) d.follows) (h.length+1) h7:=(hGF.fr (b:=48) hd.follows.1).low (by have:=Yn hx6;omega)
 have hFR:Fr (fun x=>RdRejects x (.slice qR d.rejects.length cR) d.rejects) (h.length+1) h8:=(hGR.fr (b:=32) hd.rejects.1).low (by have:=Yn hx7;omega)
 unfold cpB at hx6 hx7 hx8
 refine zw0 ?_
 refine Qi [(1,.val (.pointer (some ⟨h.length,0,some 0⟩))),(2,.box ZD)] zg0 ?_
 show CW _ _ ⟨_,[],h6⟩ _
 apply Xd (L:=[[],[0],[1],[],[3],[2,4],[],[0,1,2,3,4,5,6],[],[0,1,2,3,4,5,6,7,8]]) (act:=[2,5,7,9]) (hs:=[h7,h8,h8.set h.length (.arr (cpB d (.slice qP d.prods.length cP) (.slice qC d.chains.length cC) (.slice qF d.follows.length cF) (.slice p4 d.rejects.length c4) (.slice p5 d.boxes.length c5)) 0 true 28),h8.set h.length (.arr (cpB d (.slice qP d.prods.length cP) (.slice qC d.chains.length cC) (.slice qF d.follows.length cF) (.slice qR d.rejects.length cR) (.slice p5 d.boxes.length c5)) 0 true 28)]) (resL:=[_,_,_,_,_,_,_,_,_,_]) (frF:=[(1,.val (.pointer (some ⟨h.length,0,some 0⟩))),(2,.box ZD)])
 case hm=>exact Qq
 case hc=>kernel_rfl
 case ha=>rfl
 case hb=>rfl
 case hS=>
  refine za1 hx6 ?_
  apply StepsA.cons
  ·rfl
  ·refine⟨?_,trivial⟩
   exact Yu (args:=[.slice p3 d.follows.length c3]) (cap:=[]) (fn:=Tryz.f86) zf0 rfl zf0 zf0 Tryz.func86 kr kr hcF
  ·rfl
  refine za2 hx6 hx7 ?_
  apply StepsA.cons
  ·rfl
  ·refine⟨?_,trivial⟩
   exact Yu (args:=[.slice p4 d.rejects.length c4]) (cap:=[]) (fn:=Tryz.f87) zf0 rfl zf0 zf0 Tryz.func87 kr kr hcR
  ·rfl
  refine za3 hx6 hx7 hx8 ?_
  apply StepsA.cons
  ·rfl
  ·refine⟨?_,trivial⟩
   exact One.stoH (r:=.sl .unk) (cells':=cpB d (.slice qP d.prods.length cP) (.slice qC d.chains.length cC) (.slice qF d.follows.length cF) (.slice p4 d.rejects.length c4) (.slice p5 d.boxes.length c5)) zf0 rfl zf0 zf0 hx8 zf0 rfl rfl rfl
  ·rfl
  refine za3 hx6 hx7 hx8 ?_
  apply StepsA.cons
  ·rfl
  ·refine⟨?_,trivial⟩
   exact Qsq (r:=.sl .unk) rfl zf0 rfl rfl zf0 (Qh hx8) zf0 rfl rfl rfl (List.set_set ..).symm
  ·rfl
  exact StepsA.nil _
 case ht=>rfl
 case hF=>exact zh
 show CW _ _ _ _
 obtain⟨h9,hh9⟩:∃ h9,h9=h8.set h.length (.arr (cpB d (.slice qP d.prods.length cP) (.slice qC d.chains.length cC) (.slice qF d.follows.length cF) (.slice qR d.rejects.length cR) (.slice p5 d.boxes.length c5)) 0 true 28):=⟨_,rfl⟩
 have hx9:h9[h.length]? = some (.arr (cpB d (.slice qP d.prods.length cP) (.slice qC d.chains.length cC) (.slice qF d.follows.length cF) (.slice qR d.rejects.length cR) (.slice p5 d.boxes.length c5)) 0 true 28):=hh9▸Qh hx8
 have hA9:Agr (h.length+1) h8 h9:=hh9▸Agr.set (Nat.lt_succ_self _)
 have hp9:h <+: h9:=hh9▸Xa ((hp6.trans hp7).trans hp8) (Nat.le_refl _)
 rw[← hh9]
 clear hh9
 have hFP9:=hFP6.mono ((Agr.pre (hp7.trans hp8)).trans hA9)
 have hFC9:=hFC6.mono ((Agr.pre (hp7.trans hp8)).trans hA9)
 have hFF9:=hFF.mono ((Agr.pre hp8).trans hA9)
 have hFR9:=hFR.mono hA9
 clear hFP6 hFC6 hFF hFR hA9 hx6 hx7 hx8 hcF hcR hGF hGR hp7 hp8
 unfold cpB at hx9
 refine zw1 hx9 ?_
 refine zj Tryz.func88 ?_
 refine (Qrg (hUBs.mono hp9) hcB).mono ?_
 rintro _ h10 ⟨hp10,hGB⟩
 obtain⟨qB,cB,rfl⟩:=hGB.form
 have hx10:=Qc hp10 hx9
 refine zw0 ?_
 refine Yc (cells':=cpB d (.slice qP d.prods.length cP) (.slice qC d.chains.length cC) (.slice qF d.follows.length cF) (.slice qR d.rejects.length cR) (.slice qB d.boxes.length cB)) zf0 rfl rfl rfl zf0 hx10 zf0 rfl rfl ?_
 dsimp only
 obtain⟨h11,hh11⟩:∃ h11,h11=h10.set h.length (.arr (cpB d (.slice qP d.prods.length cP) (.slice qC d.chains.length cC) (.slice qF d.follows.length cF) (.slice qR d.rejects.length cR) (.slice qB d.boxes.length cB)) 0 true 28):=⟨_,rfl⟩
 have hx11:h11[h.length]? = some (.arr (cpB d (.slice qP d.prods.length cP) (.slice qC d.chains.length cC) (.slice qF d.follows.length cF) (.slice qR d.rejects.length cR) (.slice qB d.boxes.length cB)) 0 true 28):=hh11▸Qh hx10
 have hA11:Agr (h.length+1) h10 h11:=hh11▸Agr.set (Nat.lt_succ_self _)
 have hp11:h <+: h11:=hh11▸Xa (hp9.trans hp10) (Nat.le_refl _)
 have hlen9:=Yn hx9
 have hGB11:Grow h9 h11 (.slice qB d.boxes.length cB) d.boxes.length ((d.boxes.zip UB).flatMap fun p=>bxF p.1 p.2) 85:=hGB.mono fun j o hj ho=>by
  have:=(hGB.lt hj).1
  rw[hh11,Qk om]
  exact ho
 rw[← hh11]
 clear hh11
 have hA911:Agr (h.length+1) h9 h11:=(Agr.pre hp10).trans hA11
 clear hA11 hx10 hGB hx9
 unfold cpB at hx11
 refine zw1 hx11 ?_
 refine CW.mono (Q:=fun e s'=>e = .exit 6∧∃ hk,h <+: hk∧Agr (h.length+1) h9 hk∧hk[h.length]? = some (.arr (cpB d (.slice qP d.prods.length cP) (.slice qC d.chains.length cC) (.slice qF d.follows.length cF) (.slice qR d.rejects.length cR) (.slice qB d.boxes.length cB)) 0 true 28)∧Fr (fun x=>RdBoxes x (.slice qB d.boxes.length cB) d.boxes) (h.length+1) hk∧s'.h=hk∧SubL [(1,.val (.pointer (some ⟨h.length,0,some 0⟩))),(2,.box ZD)] s'.fr) ?_ ?_
 ·by_cases hz:d.boxes.length=0
  ·refine Yq d.boxes.length (fun k=>[(1,.val (.pointer (some ⟨h.length,0,some 0⟩))),(2,.box ZD),(78,.val (i64 d.boxes.length)),(79,.val (i64 k))]) (fun _=>h11) (fun _=>True) zg0 rfl trivial ?_
   intro k hkn _
   have hlt:¬ k<d.boxes.length:=by omega
   have e3:=Qu hlt
   refine zw1 e3 ?_
   refine Qa rfl ?_
   refine Qj ?_
   refine⟨rfl,h11,hp11,hA911,hx11,fun x e=>⟨UB,hUBn,(hGB11.fr (b:=40) hbB) x (e.low om),fun i y u h1 h2=>?_⟩,rfl,zg0⟩
   have:=(List.getElem?_eq_some_iff.1 h1).1
   omega
  obtain⟨id,ver,hid,hv,hob⟩:=hGB11.mine om
  cases hv
  refine Qy d.boxes.length (fun k (x:Heap×List Value)=>[(1,.val (.pointer (some ⟨h.length,0,some 0⟩))),(2,.box ZD),(78,.val (i64 d.boxes.length)),(79,.val (i64 k))]) (fun _ x=>x.1) (fun k x=>CpI bxF (fun h u p=>RdItems h u p.items) 85 h x.1 id ver d.boxes UB x.2 k∧Agr (h.length+1) h9 x.1∧x.1[h.length]? = some (.arr (cpB d (.slice qP d.prods.length cP) (.slice qC d.chains.length cC) (.slice qF d.follows.length cF) (.slice qR d.rejects.length cR) (.slice (some ⟨id,0,some ver⟩) d.boxes.length d.boxes.length)) 0 true 28)) (h11,UB) zg0 rfl ⟨⟨hp11,hUBn,hob,fun i hi h=>absurd h om,fun i _=>rfl⟩,hA911,hx11⟩ ?_
  rintro k ⟨hk,W⟩ hkn ⟨I,hAk,hx⟩
  simp only at I hAk hx ⊢
  by_cases hlt:k<d.boxes.length
  ·have e1:=rng hlt
   have e2:=inc hlt l5
   have e3:=Qv hlt
   have hWk:W[k]? = some (UB[k]'om):=by rw[I.r k (Nat.le_refl _)];simp
   have hg:=Qg8 (f:=bxF) (k:=2) (fun _ _=>rfl) hlt hWk
   have hg3:=Ja (j:=1) hg om
   simp only[List.getElem?_cons_succ,List.getElem?_cons_zero] at hg3
   have hu:RdItems h (UB[k]'om) d.boxes[k].items:=hUBr k d.boxes[k] (UB[k]'om) (by simp [hlt]) (by simp)
   obtain⟨pu,cu,huf⟩:=RdL.form (RdItems.iff.1 hu)
   rw[huf] at hg3 hu
   have hcl:=Quv hu I.p
   unfold FW at hcl
   obtain⟨r,h5',hcall,hp5',⟨pr,cr,rfl⟩,hF⟩:=hcl
   have ho:=I.o
   have ho5:=Qc hp5' ho
   have hx5:=Qc hp5' hx
   have I':=I.step hlt om hp5' hF
   have hA':Agr (h.length+1) h9 (h5'.set id (.arr ((d.boxes.zip (W.set k (.slice pr d.boxes[k].items.length cr))).flatMap fun p=>bxF p.1 p.2) ver true 85)):=fun j o hj ho=>by
    have:=Yn ho
    rw[Qk om]
    exact Qc hp5' (hAk j o hj ho)
   have hx6:(h5'.set id (.arr ((d.boxes.zip (W.set k (.slice pr d.boxes[k].items.length cr))).flatMap fun p=>bxF p.1 p.2) ver true 85))[h.length]? = some (.arr (cpB d (.slice qP d.prods.length cP) (.slice qC d.chains.length cC) (.slice qF d.follows.length cF) (.slice qR d.rejects.length cR) (.slice (some ⟨id,0,some ver⟩) d.boxes.length d.boxes.length)) 0 true 28):=by rw[Qk om];exact hx5
   unfold cpB at hx hx5
   refine zw1 e3 ?_
   refine Qb rfl ?_
   refine zw0 ?_
   refine Qi [(1,.val (.pointer (some ⟨h.length,0,some 0⟩))),(2,.box ZD),(8,.val (i64 k)),(78,.val (i64 d.boxes.length)),(79,.val (i64 k))] zg0 ?_
   show CW _ _ ⟨_,[],hk⟩ _
   apply Xd (L:=[[],[0],[],[],[3],[],[4,5],[6],[7],[8],[1,2],[10],[0,1,2,3,4,5,6,7,8,9,11]]) (act:=[9,12]) (hs:=[h5',h5'.set id (.arr ((d.boxes.zip (W.set k (.slice pr d.boxes[k].items.length cr))).flatMap fun p=>bxF p.1 p.2) ver true 85)]) (resL:=[_,_,_,_,_,_,_,_,_,_,_,_,_]) (frF:=[(1,.val (.pointer (some ⟨h.length,0,some 0⟩))),(2,.box ZD),(78,.val (i64 d.boxes.length)),(79,.val (i64 k))])
   case hm=>exact Qq
   case hc=>kernel_rfl
   case ha=>rfl
   case hb=>rfl
   case hS=>
    refine za5 hx hx5 e1 ho hg3 ?_
    apply StepsA.cons
    ·rfl
    ·refine⟨?_,trivial⟩
     exact Yu (args:=[.slice pu d.boxes[k].items.length cu]) (cap:=[]) (fn:=Tryz.f89) zf0 rfl zf0 zf0 Tryz.func89 kr kr hcall
    ·rfl
    refine za5 hx hx5 e1 ho hg3 ?_
    apply StepsA.cons
    ·rfl
    ·refine⟨?_,trivial⟩
     exact One.stoH (r:=.sl .unk) zf0 rfl zf0 zf0 ho5 zf0 rfl (Qfk (f:=bxF) (k:=2) (o:=1) (fun _ _=>rfl) (by decide) (fun _ _ _=>rfl) I.n hlt) rfl
    ·rfl
    exact StepsA.nil _
   case ht=>rfl
   case hF=>exact zh
   show CW _ _ _ _
   refine zw1 e2 ?_
   exact⟨hlt,(_,_),zg0,rfl,I',hA',hx6⟩
  ·have e3:=Qu hlt
   obtain rfl:k=d.boxes.length:=by omega
   refine zw1 e3 ?_
   refine Qa rfl ?_
   refine Qj ?_
   exact⟨rfl,hk,I.p,hAk,hx,(I.fin (c:=d.boxes.length) hbB).low om,rfl,zg0⟩
 rintro e s' ⟨rfl,hk,hpk,hAk,hxk,hFB,hh,hf⟩
 show CW _ _ _ _
 refine Qi _ hf ?_
 rw[hh]
 clear hf hh s'
 unfold cpB at hxk
 refine zw1 hxk ?_
 refine Qd ?_
 refine⟨_,zf0,hpk,.slice qP d.prods.length cP,.slice qC d.chains.length cC,.slice qF d.follows.length cF,.slice qR d.rejects.length cR,.slice qB d.boxes.length cB,?_,?_⟩
 ·rfl
 ·refine Fr.low (m:=h.length+1) (fun x e=>⟨(hFP9.mono hAk) x e,(hFC9.mono hAk) x e,(hFF9.mono hAk) x e,(hFR9.mono hAk) x e,hFB x e⟩) om
end
abbrev KSym.val (s:KSym):Value:=.agg #[i64 s.nt,u64 s.set.a,u64 s.set.b,u64 s.set.c,u64 s.set.d]
section
variable {h:Heap}
theorem islist_fw {s:Sym}:FW env 92 [s.val] h fun r h'=>r = .bool (Qa7 s)∧h'=h:=by
 refine fe Tryz.func92 ?_;simp only[push_cast]
 by_cases q:s.kind=5
 ·have d1:=decide_eq_true q
  refine zw1 d1 ?_
  refine Qd ?_
  exact⟨_,zf0,by unfold Qa7;rw[d1];rfl,rfl⟩
 ·have d1:=decide_eq_false q
  refine zw1 d1 ?_
  refine Qd ?_
  exact⟨_,zf0,by unfold Qa7;rw[d1];rfl,rfl⟩
theorem Qmw {p:Prod} {u:Value} {s:Sym} (hy:RdYs h u p.syms):FW env 93 [p.val u,s.val] h fun r h'=>r=(keyY p.lex s).val∧h'=h:=by
 obtain⟨ps,cs,rfl⟩:=SlR.form hy
 refine fe Tryz.func93 ?_;simp only[push_cast]
 refine zw0 ?_
 refine Qd ?_
 exact⟨_,zf0,rfl,rfl⟩
theorem nt_fw {n:Int}:FW env 99 [i64 n] h fun r h'=>r=(ntK n).val∧h'=h:=by
 refine fe Tryz.func99 ?_;simp only[push_cast]
 refine zw0 ?_
 refine Qd ?_
 exact⟨_,zf0,rfl,rfl⟩
set_option maxHeartbeats 4000000 in
theorem Qua {p:Prod} {u:Value} (hy:RdYs h u p.syms) (ho:outN p.syms≤4):FW env 95 [p.val u] h fun r h'=>r=i64 (Qc5 p:Int)∧h'=h:=by
 obtain⟨ps,cs,rfl⟩:=SlR.form hy
 have hle:p.syms.length*88≤140737488355328:=hy.1
 have hl:p.syms.length≤140737488355328:=by omega
 have z0:(2:Int) ^ outN []=1:=rfl
 refine fe Tryz.func95 ?_;simp only[push_cast]
 refine zw0 ?_
 refine Yq p.syms.length (fun k=>[(3,.val (i64 ((2:Int) ^ outN (p.syms.take k)))),(7,.val (.slice ps p.syms.length cs)),(8,.val (i64 p.syms.length)),(9,.val (i64 k))]) (fun _=>h) (fun _=>True) (zg1 z0) rfl trivial ?_
 intro k hkn _
 by_cases hlt:k<p.syms.length
 ·obtain⟨id,ver,own,c',hv,hid⟩:=SlR.at hy om
  cases hv
  have hg:=Qah hlt
  have e1:=rng hlt
  have e2:=inc hlt hl
  have e3:=Qv hlt
  have s2:outN (p.syms.take (k+1))=outN (p.syms.take k)+(if Jc p.syms[k]=true then 1 else 0):=Qaq hlt
  have b2:outN (p.syms.take (k+1))≤outN p.syms:=Qbt
  refine zw1 e3 ?_
  refine Qb rfl ?_
  have tl:Jc p.syms[k]=(decide (p.syms[k].kind=4)||decide (p.syms[k].kind=5)):=rfl
  cases hL:Jc p.syms[k] with
  | true=>
    rw[if_pos hL] at s2
    have w0:IntKind.i64.wrap ((2:Int) ^ outN (p.syms.take k)*2)=(2:Int) ^ outN (p.syms.take (k+1)):=by
     rw[s2,Int.pow_succ]
     generalize ho2:outN (p.syms.take k)=o at *
     have:o=0∨o=1∨o=2∨o=3:=by omega
     rcases this with rfl|rfl|rfl|rfl<;>decide
    by_cases q1:p.syms[k].kind=4
    ·have d1:=decide_eq_true q1
     refine zw4 e1 hid hg d1 ?_
     refine Qb rfl ?_
     refine zw2 w0 e2 ?_
     exact⟨hlt,zg0,rfl,trivial⟩
    ·have d1:=decide_eq_false q1
     have d2:decide (p.syms[k].kind=5)=true:=by rw[hL,d1,Bool.false_or] at tl;exact tl.symm
     refine zw5 e1 hid hg d1 d2 ?_
     refine Qb rfl ?_
     refine zw2 w0 e2 ?_
     exact⟨hlt,zg0,rfl,trivial⟩
  | false=>
    rw[if_neg (by rw[hL];decide),Nat.add_zero] at s2
    rw[hL] at tl
    have d1:decide (p.syms[k].kind=4)=false:=by cases e:decide (p.syms[k].kind=4)<;>simp [e] at tl ⊢
    have d2:decide (p.syms[k].kind=5)=false:=by rw[d1,Bool.false_or] at tl;exact tl.symm
    refine zw5 e1 hid hg d1 d2 ?_
    refine Qa rfl ?_
    refine zw1 e2 ?_
    exact⟨hlt,(zg1 s2),rfl,trivial⟩
 ·have e3:=Qu hlt
  obtain rfl:k=p.syms.length:=by omega
  refine zw1 e3 ?_
  refine Qa rfl ?_
  refine Qj ?_
  show CW _ _ _ _
  refine zw0 ?_
  refine Qd ?_
  refine⟨_,zf0,?_,rfl⟩
  rw[List.take_length]
  unfold Qc5
  rw[Int.natCast_pow]
  rfl
set_option maxHeartbeats 4000000 in
theorem Xeh {v:Value} {x:Nat} (hs:SlR h v 1 [.int .u8 (x:Int)] 5 1) (hx:x<256):FW env 142 [v] h fun r h'=>r=(bitS x).val∧h'=h:=by
 obtain⟨id,ver,own,c,rfl,hid⟩:=hs.at (by decide)
 refine fe Tryz.func142 ?_;simp only[push_cast]
 obtain⟨n,hn⟩:∃ n:Nat,n=1:=⟨1,rfl⟩
 refine zw0 ?_
 refine Yq n (fun k=>[(2,.box [u64 0,u64 0,u64 0,u64 0]),(3,.box (if k=0 then [u64 0,u64 0,u64 0,u64 0] else [u64 (bitS x).a,u64 (bitS x).b,u64 (bitS x).c,u64 (bitS x).d])),(6,.val (.slice (some ⟨id,0,some ver⟩) n c)),(7,.val (i64 n)),(8,.val (i64 k))]) (fun _=>h) (fun _=>True) (by rw[hn];exact (by simp only[push_cast,Nat.reduceEqDiff,reduceIte,Int.reduceAdd])) rfl trivial ?_
 intro k hkn _
 by_cases hlt:k<n
 ·obtain rfl:k=0:=by omega
  have e1:((0:Int)≤0∧(0:Int)<(n:Int))=True:=eq_true om
  have e1':((0:Int)<(n:Int))=True:=eq_true om
  have e3:decide ((0:Int)<(n:Int))=true:=decide_eq_true om
  refine zw1 e3 ?_
  refine Qb rfl ?_
  repeat (first|apply zs|apply zr|apply zn|((first|apply zx|apply zy);·simp only[push_cast,env,Nat.reduceEqDiff,reduceIte,Nat.reduceAdd,Nat.reduceMul,Nat.reduceLeDiff,reduceCtorEq,Nat.reduceSub,Int.reduceToNat,e1,e1',hid,Nat.mul_one,List.getElem?_cons_zero]<;>first|exact rfl|exact .inl rfl|exact .inr rfl) | apply zq|apply zb|apply zo|apply zk|apply zl)
  obtain⟨m,hm⟩:∃ m,m=x % 64:=⟨_,rfl⟩
  have hm64:m<64:=by omega
  have hmod:(x:Int).tmod 64=(m:Int):=by rw[Int.tmod_eq_emod_of_nonneg om];omega
  have hw4:∀ m:Fin 64,IntKind.u64.wrap ((BitVec.ofInt IntKind.u64.bits 0 ||| BitVec.ofInt IntKind.u64.bits (IntKind.u64.wrap (1*2 ^ min (m.1:Int).toNat IntKind.u64.bits))).toNat:Int)=(2:Int) ^ m.1:=by decide
  have hw4:=hw4 ⟨m,hm64⟩
  simp only[Int.toNat_natCast] at hw4
  have hw5:IntKind.i64.wrap 1=1:=by decide
  rcases (by omega:x / 64=0∨x / 64=1∨x / 64=2∨x / 64=3) with hq|hq|hq|hq
  ·have hw1:IntKind.u8.wrap ((x:Int).tdiv 64)=0:=by rw[Int.tdiv_eq_ediv_of_nonneg om,IntKind.wrap_u8];omega
   have hb:bitS x=⟨2 ^ m,0,0,0⟩:=by unfold bitS;rw[hq,hm];simp
   refine zw1 hw1 ?_
   refine⟨hlt,?_,rfl,trivial⟩
   show SubL [_,(3,.box (if 0+1=0 then _ else _)),_,_,_] _
   rw[if_neg (by decide),hb]
   exact (by simp only[push_cast,Nat.reduceEqDiff,reduceIte,hmod,hw4,hw5,Int.reduceAdd])
  ·have hw1:IntKind.u8.wrap ((x:Int).tdiv 64)=1:=by rw[Int.tdiv_eq_ediv_of_nonneg om,IntKind.wrap_u8];omega
   have hb:bitS x=⟨0,2 ^ m,0,0⟩:=by unfold bitS;rw[hq,hm];simp
   refine zw1 hw1 ?_
   refine⟨hlt,?_,rfl,trivial⟩
   show SubL [_,(3,.box (if 0+1=0 then _ else _)),_,_,_] _
   rw[if_neg (by decide),hb]
   exact (by simp only[push_cast,Nat.reduceEqDiff,reduceIte,hmod,hw4,hw5,Int.reduceAdd])
  ·have hw1:IntKind.u8.wrap ((x:Int).tdiv 64)=2:=by rw[Int.tdiv_eq_ediv_of_nonneg om,IntKind.wrap_u8];omega
   have hb:bitS x=⟨0,0,2 ^ m,0⟩:=by unfold bitS;rw[hq,hm];simp
   refine zw1 hw1 ?_
   refine⟨hlt,?_,rfl,trivial⟩
   show SubL [_,(3,.box (if 0+1=0 then _ else _)),_,_,_] _
   rw[if_neg (by decide),hb]
   exact (by simp only[push_cast,Nat.reduceEqDiff,reduceIte,hmod,hw4,hw5,Int.reduceAdd])
  ·have hw1:IntKind.u8.wrap ((x:Int).tdiv 64)=3:=by rw[Int.tdiv_eq_ediv_of_nonneg om,IntKind.wrap_u8];omega
   have hb:bitS x=⟨0,0,0,2 ^ m⟩:=by unfold bitS;rw[hq,hm];simp
   refine zw1 hw1 ?_
   refine⟨hlt,?_,rfl,trivial⟩
   show SubL [_,(3,.box (if 0+1=0 then _ else _)),_,_,_] _
   rw[if_neg (by decide),hb]
   exact (by simp only[push_cast,Nat.reduceEqDiff,reduceIte,hmod,hw4,hw5,Int.reduceAdd])
 ·have e3:=Qu hlt
  obtain rfl:k=n:=by omega
  have k0:(k=0)=False:=by simp;omega
  refine zw1 e3 ?_
  refine Qa rfl ?_
  refine Qj ?_
  show CW _ _ _ _
  rw[if_neg om]
  refine zw0 ?_
  refine Qd ?_
  exact⟨_,zf0,rfl,rfl⟩
def litL (t:ByteArray) (k:Nat):List KSym:=(List.range k).map fun i=>⟨-1,bitS (bn t i)⟩
theorem Qsl {t:ByteArray} {k:Nat}:litL t (k+1)=litL t k++[⟨-1,bitS (bn t k)⟩]:=by
 unfold litL
 rw[List.range_succ,List.map_append]
 rfl
theorem Qm3 {t:ByteArray} {k:Nat}:(litL t k).length=k:=by simp [litL]
theorem Qcw {l:List KSym}:(l.flatMap KSym.cells).length=l.length*5:=Yv (f:=KSym.cells) (k:=5) (fun _=>rfl) l
set_option maxHeartbeats 4000000 in
theorem Qu4 {t:ByteArray} (ht:t.size≤1000000):FW env 101 [.string t] h fun r h'=>h <+: h'∧Grow h h' r (litK t).length ((litK t).flatMap KSym.cells) 65:=by
 have z0:litL t 0=[]:=rfl
 refine fe Tryz.func101 ?_;simp only[push_cast]
 refine zw0 ?_
 refine Qy t.size (fun k (x:Heap×Option Addr×Nat)=>[(0,.val (.string t)),(3,.val (.slice x.2.1 k x.2.2)),(6,.val (i64 t.size)),(7,.val (i64 k))]) (fun _ x=>x.1)
  (fun k x=>h <+: x.1∧Grow h x.1 (.slice x.2.1 k x.2.2) k ((litL t k).flatMap KSym.cells) 65) (h,none,0) zg0 rfl ⟨List.prefix_refl _,Grow.nil⟩ ?_
 rintro k ⟨hk,q,cq⟩ hkn ⟨hp,hG⟩
 simp only at hp hG ⊢
 by_cases hlt:k<t.size
 ·have e1:=rng hlt
  have e2:=inc hlt om
  have e3:=Qv hlt
  obtain⟨c,hc,hcn⟩:=Qk0 hlt
  have hcl:bn t k<256:=hcn▸c.toNat_lt
  refine zw1 e3 ?_
  refine Qb rfl ?_
  refine zu ?_
  iterate 2 (refine zx zp0 ?_)
  refine zu ?_
  iterate 4 (refine zx (zp3 e1 hc hcn) ?_)
  refine Yi (t:=5) (cs:=[.int .u8 (bn t k:Int)]) (n:=1) zf0 zf0 ?_
  dsimp only[St.putO,St.put]
  have hp2:hk <+: hk++[HObj.arr [.int .u8 (bn t k:Int)] 0 true 5]:=Qo
  have hb2:SlR (hk++[HObj.arr [.int .u8 (bn t k:Int)] 0 true 5]) (.slice (some ⟨hk.length,0,some 0⟩) 1 1) 1 [.int .u8 (bn t k:Int)] 5 1:=⟨by decide,.inr ⟨hk.length,0,true,1,rfl,Qp⟩⟩
  have hG2:Grow h (hk++[HObj.arr [.int .u8 (bn t k:Int)] 0 true 5]) (.slice q k cq) k ((litL t k).flatMap KSym.cells) 65:=hG.mono fun j o _ ho=>Xg ho
  generalize (hk++[HObj.arr [.int .u8 (bn t k:Int)] 0 true 5])=h2 at hp2 hb2 hG2 ⊢
  generalize hk.length=i2 at hb2 ⊢
  refine zw0 ?_
  refine zj Tryz.func142 ?_
  refine (Xeh hb2 hcl).mono ?_
  rintro _ h3 ⟨rfl,e7⟩
  obtain rfl:=e7.symm
  refine zw0 ?_
  refine Qdz (t:=61) (cs:=KSym.cells ⟨-1,bitS (bn t k)⟩) zf0 rfl kr ti65 (by decide) rfl zf0 rfl hG2 (hp.trans hp2) (by rw[Qcw,Qm3]) rfl (by simp only;omega) om ?_
  intro p' c' h' k1 k2 _ _
  refine zw1 e2 ?_
  refine⟨hlt,(h',p',c'),zg0,rfl,k2,?_⟩
  rw[Qsl,List.flatMap_append,List.flatMap_singleton]
  exact k1
 ·have e3:=Qu hlt
  obtain rfl:k=t.size:=by omega
  refine zw1 e3 ?_
  refine Qa rfl ?_
  refine Qj ?_
  show CW _ _ _ _
  refine zw0 ?_
  refine Qd ?_
  refine⟨_,zf0,hp,?_⟩
  show Grow _ _ _ (litL t t.size).length ((litL t t.size).flatMap KSym.cells) _
  rw[Qm3]
  exact hG
end
def Qir (ts:List TypeId):HObj→Bool
 | .arr _ _ true et=>!(ts.any fun t=>decide (t=et))
 | _=>true
def Keep (ts:List TypeId) (a b:Heap):Prop:=∀ (j:Nat) (o:HObj),a[j]? = some o→Qir ts o=true→b[j]? = some o
section
variable {ts ts':List TypeId} {a b c h0 hk h':Heap}
theorem Keep.refl:Keep ts a a:=fun _ _ k _=>k
theorem Keep.trans (k1:Keep ts a b) (k2:Keep ts b c):Keep ts a c:=fun j o e q=>k2 j o (k1 j o e q) q
theorem Keep.pre (k:a <+: b):Keep ts a b:=fun j o e _=>Qc k e
theorem Keep.low (k:Keep ts a b) (h:∀ t∈ts,t∈ts'):Keep ts' a b:=fun j o e q=>k j o e (by
 cases o with
 | arr cells ver own et=>
   cases own with
   | false=>rfl
   | true=>
     simp only[Qir,Bool.not_eq_true',List.any_eq_false,decide_eq_true_eq] at q ⊢
     exact fun t ht=>q t (h t ht)
 | _=>rfl)
theorem Yy {cells:List Value} {ver:Nat} {own:Bool} {et:TypeId} (h:et∉ts):Qir ts (.arr cells ver own et)=true:=by
 cases own with
 | false=>rfl
 | true=>
   simp only[Qir,Bool.not_eq_true',List.any_eq_false,decide_eq_true_eq]
   exact fun t ht e=>h (e▸ht)
theorem Grow.keep {v:Value} {n:Nat} {cells:List Value} {et:TypeId} (G:Grow h0 a v n cells et) (k:Keep ts a b) (h:et∉ts):Grow h0 b v n cells et:=by
 rcases G with G|⟨id,ver,h1,h2,h3⟩
 ·exact .inl G
 ·exact .inr ⟨id,ver,h1,h2,k _ _ h3 (Yy h)⟩
theorem Keep.push {v:Value} {n:Nat} {cells:List Value} {et:TypeId} (G:Grow h0 a v n cells et) (k:∀ j o,isAt v j=false→a[j]? = some o→b[j]? = some o):Keep [et] a b:=fun j o e q=>k j o (by
 cases hb:isAt v j with
 | false=>rfl
 | true=>
   obtain⟨ver,h5⟩:=G.obj hb
   rw[e] at h5
   cases h5
   simp [Qir] at q) e
theorem Keep.set {i ver:Nat} {cells:List Value} {et:TypeId} {x:HObj} (h:a[i]? = some (.arr cells ver true et)):Keep [et] a (a.set i x):=fun j o e q=>by
 by_cases hij:i=j
 ·subst hij
  rw[h] at e
  cases e
  simp [Qir] at q
 ·rw[Qk hij];exact e
def OwnL {α:Type} (f:α→Value→List Value) (g:α→List Value) (w:Nat) (et et2:TypeId) (h0 hk:Heap) (v:Value) (l:List α):Prop:=
 ∃ us:List Value,us.length=l.length∧Grow h0 hk v l.length ((l.zip us).flatMap fun p=>f p.1 p.2) et∧∀ (i:Nat) (x:α) (u:Value),l[i]? = some x→us[i]? = some u→∃ n,(g x).length=n*w∧Grow h0 hk u n (g x) et2
variable {α:Type} {f:α→Value→List Value} {g:α→List Value} {w:Nat} {et et2:TypeId} {v:Value} {l:List α}
theorem OwnL.nil:OwnL f g w et et2 h0 hk nilS []:=⟨[],rfl,Grow.nil,fun i x u h=>by simp at h⟩
theorem OwnL.form (k:OwnL f g w et et2 h0 hk v l):∃ p c,v = .slice p l.length c:=by obtain⟨_,_,G,_⟩:=k;exact G.form
theorem OwnL.keep (k:OwnL f g w et et2 h0 a v l) (hk:Keep ts a b) (h1:et∉ts) (h2:et2∉ts):OwnL f g w et et2 h0 b v l:=by
 obtain⟨us,hl,G,hu⟩:=k
 refine⟨us,hl,G.keep hk h1,fun i x u k1 k2=>?_⟩
 obtain⟨n,e,g'⟩:=hu i x u k1 k2
 exact⟨n,e,g'.keep hk h2⟩
end
abbrev rlF:Rule→Value→List Value:=fun r u=>[i64 r.lhs,u]
abbrev rlG:Rule→List Value:=fun r=>r.rhs.flatMap KSym.cells
abbrev ogF:Org→Value→List Value:=fun o u=>[i64 o.kind,i64 o.prod,i64 o.mask,u]
abbrev ogG:Org→List Value:=fun o=>o.syms.map i64
def RuleL:=OwnL rlF rlG 5 63 65
def OrgL:=OwnL ogF ogG 1 67 3
structure MK where
 start:ByteArray
 layout:ByteArray
 vP:Value
 vC:Value
 vFo:Value
 vRe:Value
 vB:Value
 nts:Int
 st:Int
 vr:Value
 vf:Value
 vn:Value
 vb:Value
 vF:Value
 vR:Value
 is:Nat
 il:Nat
 vo:Value
 gap:Int
def MK.cells (m:MK):List Value:=[.string m.start,.string m.layout,m.vP,m.vC,m.vFo,m.vRe,m.vB,i64 m.nts,i64 m.st,m.vr,m.vf,m.vn,m.vb,m.vF,m.vR,.map (some m.is),.map (some m.il),m.vo,i64 m.gap]
structure MR (h0 hk:Heap) (im:Nat) (m:MK) (l:List (Rule×Org)):Prop where
 p:h0 <+: hk
 lm:h0.length≤im
 o:hk[im]? = some (.arr m.cells 0 true 94)
 r:RuleL h0 hk m.vr (l.map (·.1))
 f:OrgL h0 hk m.vf (l.map (·.2))
abbrev tsR:List TypeId:=[63,67,94]
section
variable {h0 hk:Heap} {im:Nat} {m:MK} {l:List (Rule×Org)}
theorem Qsm {α β:Type} {l:List α} {W:List β} (h:W.length=l.length) {x:α} {u:β}:(l++[x]).zip (W++[u])=l.zip W++[(x,u)]:=by
 rw[List.zip_append h.symm]
 rfl
theorem OwnL.push {α:Type} {f:α→Value→List Value} {g:α→List Value} {w:Nat} {et et2:TypeId} {h0 a b:Heap} {v' u:Value} {l:List α} {x:α} {us:List Value} {n:Nat} (hl:us.length=l.length) (hu:∀ (i:Nat) (x:α) (u:Value),l[i]? = some x→us[i]? = some u→∃ n,(g x).length=n*w∧Grow h0 a u n (g x) et2)
 (hk:Keep [et] a b) (hne:et2≠et) (hG:Grow h0 b v' (l.length+1) (((l.zip us).flatMap fun p=>f p.1 p.2)++f x u) et) (hn:(g x).length=n*w) (hx:Grow h0 a u n (g x) et2):OwnL f g w et et2 h0 b v' (l++[x]):=by
 have hnm:et2∉[et]:=by simpa using hne
 refine⟨us++[u],by simp [hl],?_,fun i y z k1 k2=>?_⟩
 ·rw[Qsm hl,List.flatMap_append,List.flatMap_singleton,List.length_append]
  exact hG
 ·rcases Nat.lt_trichotomy i l.length with h|h|h
  ·rw[List.getElem?_append_left h] at k1
   rw[List.getElem?_append_left om] at k2
   obtain⟨n',e,g'⟩:=hu i y z k1 k2
   exact⟨n',e,g'.keep hk hnm⟩
  ·subst h
   rw[List.getElem?_append_right (Nat.le_refl _),Nat.sub_self] at k1
   rw[List.getElem?_append_right om,hl,Nat.sub_self] at k2
   cases k1
   cases k2
   exact⟨n,hn,hx.keep hk hnm⟩
  ·have:=(List.getElem?_eq_some_iff.1 k1).1
   simp at this
   omega
end
section
variable {h0 hk:Heap} {im:Nat} {m:MK} {l:List (Rule×Org)}
theorem Qjw {α:Type} {f:α→Value→List Value} {k:Nat} (hf:∀ x u,(f x u).length=k) {l:List α} {us:List Value} (h:us.length=l.length):((l.zip us).flatMap fun p=>f p.1 p.2).length=l.length*k:=by
 rw[Yv (f:=fun p:α×Value=>f p.1 p.2) (k:=k) (fun _=>hf _ _),List.length_zip,h,Nat.min_self]
set_option maxHeartbeats 8000000 in
theorem Qcu (M:MR h0 hk im m l) {lhs kd pr mk:Int} {ur uo:Value} {rhs:List KSym} {os:List Int} (hr:Grow h0 hk ur rhs.length (rhs.flatMap KSym.cells) 65) (ho:Grow h0 hk uo os.length (os.map i64) 3) (hl:l.length≤1000000) :
 FW env 98 [.pointer (some ⟨im,0,some 0⟩),i64 lhs,ur,.agg #[i64 kd,i64 pr,i64 mk,uo]] hk fun r h'=>r = .tuple #[]∧∃ vr' vf',MR h0 h' im { m with vr:=vr',vf:=vf' } (l++[(⟨lhs,rhs⟩,⟨kd,pr,mk,os⟩)])∧Keep tsR hk h':=by
 have hob:=M.o
 obtain⟨us1,hn1,hG1,hu1⟩:=M.r
 obtain⟨us2,hn2,hG2,hu2⟩:=M.f
 have ll1:(l.map (·.1)).length=l.length:=List.length_map ..
 have ll2:(l.map (·.2)).length=l.length:=List.length_map ..
 have hc1:=Qjw (f:=rlF) (k:=2) (fun _ _=>rfl) hn1
 have hc2:=Qjw (f:=ogF) (k:=4) (fun _ _=>rfl) hn2
 obtain⟨pu,cu,rfl⟩:=hr.form
 obtain⟨po,co,rfl⟩:=ho.form
 unfold MK.cells at hob
 refine fe Tryz.func98 ?_;simp only[push_cast]
 refine zw1 hob ?_
 refine Qdq (t:=32) (cs:=[i64 lhs,.slice pu rhs.length cu]) zf0 rfl kr ti63 (by decide) rfl zf0 rfl hG1 M.p hc1 rfl (by simp only;omega) om ?_
 intro p1 c1 h2 k1 k2 k3 _
 have kp1:Keep [63] hk h2:=Keep.push hG1 k3
 have hob2:=kp1 _ _ hob (Yy (by decide))
 refine zw1 hob2 ?_
 refine Yc (v:=.slice p1 ((l.map (·.1)).length+1) c1) (vs:=[.slice p1 ((l.map (·.1)).length+1) c1]) (cells':=MK.cells { m with vr:=.slice p1 ((l.map (·.1)).length+1) c1 }) zf0 rfl rfl rfl zf0 hob2 zf0 rfl rfl ?_
 dsimp only
 have kp2:Keep [94] h2 (h2.set im (.arr (MK.cells { m with vr:=.slice p1 ((l.map (·.1)).length+1) c1 }) 0 true 94)):=Keep.set hob2
 have hob3:(h2.set im (.arr (MK.cells { m with vr:=.slice p1 ((l.map (·.1)).length+1) c1 }) 0 true 94))[im]? = some (.arr (MK.cells { m with vr:=.slice p1 ((l.map (·.1)).length+1) c1 }) 0 true 94):=Qh hob2
 have hp3:h0 <+: h2.set im (.arr (MK.cells { m with vr:=.slice p1 ((l.map (·.1)).length+1) c1 }) 0 true 94):=Xa k2 M.lm
 generalize (h2.set im (.arr (MK.cells { m with vr:=.slice p1 ((l.map (·.1)).length+1) c1 }) 0 true 94))=h3 at kp2 hob3 hp3 ⊢
 have R1:RuleL h0 h2 (.slice p1 ((l.map (·.1)).length+1) c1) (l.map (·.1)++[⟨lhs,rhs⟩]):=OwnL.push (x:=(⟨lhs,rhs⟩:Rule)) hn1 hu1 kp1 (by decide) k1 Qcw hr
 have R3:=R1.keep kp2 (by decide) (by decide)
 have kp13:Keep [63,94] hk h3:=(kp1.low (by simp)).trans (kp2.low (by simp))
 have hG23:=hG2.keep kp13 (by decide)
 have ho3:=ho.keep kp13 (by decide)
 have hu23:∀ (i:Nat) (x:Org) (u:Value),(l.map (·.2))[i]? = some x→us2[i]? = some u→∃ n,(ogG x).length=n*1∧Grow h0 h3 u n (ogG x) 3:=fun i x u a b=>by
  obtain⟨n,e,g⟩:=hu2 i x u a b
  exact⟨n,e,g.keep kp13 (by decide)⟩
 obtain⟨p2,c2,h4,hone,k4,k5,k6,_,_⟩:=Qbh (cs:=[i64 kd,i64 pr,i64 mk,.slice po os.length co]) (t:=35) kr ti67 (by decide) rfl hG23 hp3 hc2 rfl (by simp only;omega) om
 have kp4:Keep [67] h3 h4:=Keep.push hG23 k6
 have hob4:=kp4 _ _ hob3 (Yy (by decide))
 obtain⟨vr1,hvr1⟩:∃ v,v=Value.slice p1 ((l.map (·.1)).length+1) c1:=⟨_,rfl⟩
 rw[← hvr1] at hob3 hob4 R3
 unfold MK.cells at hob3 hob4
 simp only at hob3 hob4
 refine zw0 ?_
 refine Qi [(0,.val (.pointer (some ⟨im,0,some 0⟩))),(7,.box [i64 kd,i64 pr,i64 mk,.slice po os.length co])] zg0 ?_
 show CW _ _ ⟨_,[],h3⟩ _
 apply Xd (L:=[[],[],[1],[2],[3],[4],[],[6],[5,7],[0],[9],[10],[0,1,2,3,4,5,6,7,8,11]]) (act:=[8,12]) (hs:=[h4,h4.set im (.arr (MK.cells { m with vr:=vr1,vf:=.slice p2 ((l.map (·.2)).length+1) c2 }) 0 true 94)]) (resL:=[_,_,_,_,_,_,_,_,_,_,_,_,_]) (frF:=[(0,.val (.pointer (some ⟨im,0,some 0⟩)))])
 case hm=>exact Qq
 case hc=>kernel_rfl
 case ha=>rfl
 case hb=>rfl
 case hS=>
  refine za2 hob3 hob4 ?_
  apply StepsA.cons
  ·rfl
  ·refine⟨?_,trivial⟩
   exact hone _ _ _ _ _ rfl zf0 rfl zf0 zf0
  ·rfl
  refine za2 hob3 hob4 ?_
  apply StepsA.cons
  ·rfl
  ·refine⟨?_,trivial⟩
   exact One.stoH (r:=.sl .unk) (cells':=MK.cells { m with vr:=vr1,vf:=.slice p2 ((l.map (·.2)).length+1) c2 }) zf0 rfl zf0 zf0 hob4 zf0 rfl rfl rfl
  ·rfl
  exact StepsA.nil _
 case ht=>rfl
 case hF=>exact zh
 have kp5:Keep [94] h4 (h4.set im (.arr (MK.cells { m with vr:=vr1,vf:=.slice p2 ((l.map (·.2)).length+1) c2 }) 0 true 94)):=Keep.set hob4
 have F1:OrgL h0 h4 (.slice p2 ((l.map (·.2)).length+1) c2) (l.map (·.2)++[⟨kd,pr,mk,os⟩]):=OwnL.push (x:=(⟨kd,pr,mk,os⟩:Org)) hn2 hu23 kp4 (by decide) k4 (by simp) ho3
 have hfin:Keep tsR hk (h4.set im (.arr (MK.cells { m with vr:=vr1,vf:=.slice p2 ((l.map (·.2)).length+1) c2 }) 0 true 94)):=((kp13.low (by simp)).trans (kp4.low (by simp))).trans (kp5.low (by simp))
 refine⟨_,zf0,rfl,vr1,.slice p2 ((l.map (·.2)).length+1) c2,⟨Xa k5 M.lm,M.lm,Qh hob4,?_,?_⟩,hfin⟩
 ·rw[List.map_append]
  exact (R3.keep kp4 (by decide) (by decide)).keep kp5 (by decide) (by decide)
 ·rw[List.map_append]
  exact F1.keep kp5 (by decide) (by decide)
end
def kE (l:List (LKey×Int)):List (Value×Value):=l.map fun p=>(p.1.val,i64 p.2)
def Qgl:List (LKey×Int)→LKey→Option Int
 | [],_=>none
 | (k,v) :: r,x=>if x=k then some v else Qgl r x
theorem Qph (x y:LKey):eqK x.val y.val=decide (x=y):=by
 cases x with|mk a b c d=>cases y with|mk a' b' c' d'=>
 cases c with|mk c1 c2 c3 c4=>cases c' with|mk e1 e2 e3 e4=>
 simp only[eqK,eqL,eq1,Bool.and_true,LKey.mk.injEq,BSet.mk.injEq,Bool.decide_and,Bool.and_assoc]
theorem Quo (x:LKey):∀ l,mget (kE l) x.val=(Qgl l x).map i64
 | []=>rfl
 | (k,v) :: r=>by
   have ih:=Quo x r
   unfold kE at ih ⊢
   simp only[List.map_cons,mget,Qgl,Qph,decide_eq_true_eq]
   split
   ·rfl
   ·exact ih
theorem Qtg (x:LKey) (v:Int):∀ l,Qgl l x=none→mput (kE l) x.val (i64 v)=kE (l++[(x,v)])
 | [],_=>rfl
 | (k,u) :: r,h=>by
   unfold Qgl at h
   have hne:¬ x=k:=fun e=>by rw[if_pos e] at h;cases h
   rw[if_neg hne] at h
   have ih:=Qtg x v r h
   unfold kE at ih ⊢
   simp only[List.map_cons,mput,Qph,decide_eq_true_eq,List.cons_append]
   rw[if_neg hne,ih]
theorem Qg9 (l:List (LKey×Int)):Zm (kdS Qc2) (kE l)=true:=by
 unfold Zm kE
 rw[List.all_map,List.all_eq_true]
 intro x _
 rfl
@[push_cast] theorem keys_key:Qbw 154=some (kdS Qc2):=rfl
@[push_cast] theorem kdS_key (k:LKey):kdS Qc2 k.val=true:=rfl
attribute [push_cast] Qg9
theorem Qfz {all:Array Oper} {o:Oper} {s:St} {h:Heap} {n:Nat} {t:TypeId} {cs:List Value} (hh:s.h=h) (hw:Ql all o s=some true) (hb:bslC env s o.op=some (t,cs,n)):One env all o s (.sl (.val (.slice (some ⟨h.length,0,some 0⟩) n n))) (h++[HObj.arr cs 0 true t]):=hh▸.bslH hw hb
structure MS (hk:Heap) (m:MK) (d:Def) (es:List (ByteArray×Int)) (ks:List (LKey×Int)):Prop where
 sm:hk[m.is]? = some (.map (smE es))
 sg:∀ x∈Qm d.prods,mget (smE es) (.string x)=some (i64 (ntS d x:Int))
 lm:hk[m.il]? = some (.map (kE ks))
 lg:∀ k∈Xe d.prods,mget (kE ks) k.val=some (i64 (ntL d k:Int))
 gp:m.gap=gapN d
theorem MS.keep {a b:Heap} {m:MK} {d:Def} {es:List (ByteArray×Int)} {ks:List (LKey×Int)} {ts:List TypeId} (M:MS a m d es ks) (k:Keep ts a b):MS b m d es ks:=⟨k _ _ M.sm rfl,M.sg,k _ _ M.lm rfl,M.lg,M.gp⟩
section
variable {h0 hk:Heap} {im:Nat} {m:MK} {d:Def} {es:List (ByteArray×Int)} {ks:List (LKey×Int)}
set_option maxHeartbeats 4000000 in
theorem Qm4 {name:ByteArray} {set:BSet} (ho:hk[im]? = some (.arr m.cells 0 true 94)) (M:MS hk m d es ks) (hn:emB name=true∨name∈Qm d.prods) :
 FW env 97 [.pointer (some ⟨im,0,some 0⟩),.string name,set.val] hk fun r h'=>r=(Qe9 d name set).val∧h'=hk:=by
 unfold MK.cells at ho
 have hsm:=M.sm
 have hkk:=Xh es
 refine fe Tryz.func97 ?_;simp only[push_cast]
 by_cases q:name=⟨#[]⟩
 ·have d1:=decide_eq_true q
  refine zw1 d1 ?_
  refine Qa rfl ?_
  refine zw0 ?_
  refine Qd ?_
  exact⟨_,zf0,by unfold Qe9 emB;rw[if_pos d1];rfl,rfl⟩
 ·have d1:=decide_eq_false q
  have hmem:name∈Qm d.prods:=hn.resolve_left (by unfold emB;rw[d1];decide)
  have hg:=M.sg name hmem
  refine zw1 d1 ?_
  refine Qb rfl ?_
  refine zw4 ho hsm hg hkk ?_
  refine zj Tryz.func99 ?_
  refine nt_fw.mono ?_
  rintro _ h1 ⟨rfl,e1⟩
  obtain rfl:=e1.symm
  refine zw0 ?_
  refine Qd ?_
  refine⟨_,zf0,?_,rfl⟩
  unfold Qe9 emB
  rw[d1]
  rfl
set_option maxHeartbeats 8000000 in
theorem Xcy {p:Prod} {u:Value} {s:Sym} (ho:hk[im]? = some (.arr m.cells 0 true 94)) (M:MS hk m d es ks) (hy:RdYs hk u p.syms) (hp:p∈d.prods) (hs:s∈p.syms) (hn:s.kind=1∨emB s.name=true∨s.name∈Qm d.prods) (ht:s.text.size≤1000000) :
 FW env 141 [.pointer (some ⟨im,0,some 0⟩),p.val u,s.val] hk fun r h'=>hk <+: h'∧Grow hk h' r (ownK d p.lex s).length ((ownK d p.lex s).flatMap KSym.cells) 65:=by
 have hy0:=hy
 obtain⟨ps,cs,rfl⟩:=SlR.form hy
 refine fe Tryz.func141 ?_;simp only[push_cast]
 by_cases q1:s.kind=1
 ·have d1:=decide_eq_true q1
  have hK:ownK d p.lex s=litK s.text:=by unfold ownK;rw[if_pos q1]
  rw[hK]
  refine zw1 d1 ?_
  refine Qb rfl ?_
  refine zw0 ?_
  refine zj Tryz.func101 ?_
  refine (Qu4 ht).mono ?_
  rintro _ h1 ⟨hp1,hG⟩
  obtain⟨q,c,rfl⟩:=hG.form
  refine zw0 ?_
  refine Qd ?_
  refine⟨_,zf0,hp1,?_⟩
  exact hG
 have d1:=decide_eq_false q1
 refine zw1 d1 ?_
 refine Qa rfl ?_
 refine zw0 ?_
 refine zj Tryz.func92 ?_
 refine islist_fw.mono ?_
 rintro _ h1 ⟨rfl,e1⟩
 obtain rfl:=e1.symm
 cases hL:Qa7 s with
 | true=>
   have hK:ownK d p.lex s=[ntK (ntL d (keyY p.lex s))]:=by unfold ownK;rw[if_neg q1,if_pos hL]
   rw[hK]
   have hmem:keyY p.lex s∈Xe d.prods:=mem_keys.2 ⟨p,hp,s,hs,hL,rfl⟩
   have hg:=M.lg _ hmem
   have hlm:=M.lm
   have hkk:=Qg9 ks
   have hkd:=kdS_key (keyY p.lex s)
   unfold Qc2 at hkk hkd
   have hob:=ho
   unfold MK.cells at hob
   refine zw0 ?_
   refine Qb rfl ?_
   refine zw0 ?_
   refine Qi [(0,.val (.pointer (some ⟨im,0,some 0⟩))),(4,.box [.bool p.lex,.string p.sort,.string p.cons,.bool p.bracket,.slice ps p.syms.length cs]),(5,.box [i64 s.kind,.string s.text,u64 s.set.a,u64 s.set.b,u64 s.set.c,u64 s.set.d,.string s.name,.string s.sep])] zg0 ?_
   show CW _ _ ⟨_,[],hk⟩ _
   apply Xd (L:=[[],[0],[0,1],[0,1,2],[],[],[4,5],[0,1,2,3,4,5,6],[0,1,2,3,4,5,6,7],[0,1,2,3,4,5,6,7,8],[0,1,2,3,4,5,6,7,8,9]]) (act:=[9]) (hs:=[hk++[HObj.arr (KSym.cells (ntK (ntL d (keyY p.lex s)))) 0 true 65]]) (resL:=[_,_,_,_,_,_,_,_,_,_,_]) (frF:=[(6,.val (.slice (some ⟨hk.length,0,some 0⟩) 1 1))])
   case hm=>exact Qq
   case hc=>kernel_rfl
   case ha=>rfl
   case hb=>rfl
   case hS=>
    refine za1 hob ?_
    apply StepsA.cons
    ·rfl
    ·refine⟨?_,trivial⟩
     exact Xb (fn:=Tryz.f93) (args:=[p.val (.slice ps p.syms.length cs),s.val]) (cap:=[]) rfl zf0 rfl zf0 zf0 Tryz.func93 kr kr (Qmw hy0)
    ·rfl
    refine za5 hob hlm hg hkk hkd ?_
    apply StepsA.cons
    ·rfl
    ·refine⟨?_,trivial⟩
     exact Xb (fn:=Tryz.f99) (args:=[i64 (ntL d (keyY p.lex s):Int)]) (cap:=[]) rfl zf0 rfl zf0 zf0 Tryz.func99 kr kr nt_fw
    ·rfl
    apply StepsA.cons
    ·rfl
    ·refine⟨?_,trivial⟩
     exact Qfz (h:=hk) (n:=1) (t:=65) (cs:=KSym.cells (ntK (ntL d (keyY p.lex s)))) rfl zf0 kr
    ·rfl
    exact ze0
   case ht=>rfl
   case hF=>exact zh
   show CW _ _ _ _
   refine zw0 ?_
   refine Qd ?_
   refine⟨_,zf0,Qo,?_⟩
   exact .inr ⟨hk.length,0,Nat.le_refl _,rfl,Qp⟩
 | false=>
   have hK:ownK d p.lex s=[Qe9 d s.name s.set]:=by unfold ownK;rw[if_neg q1,if_neg (by rw[hL];decide)]
   rw[hK]
   refine zw0 ?_
   refine Qa rfl ?_
   refine zw0 ?_
   refine zj Tryz.func97 ?_
   refine (Qm4 ho M (hn.resolve_left q1)).mono ?_
   rintro _ h2 ⟨rfl,e2⟩
   obtain rfl:=e2.symm
   refine Yi (t:=65) (cs:=KSym.cells (Qe9 d s.name s.set)) (n:=1) zf0 kr ?_
   refine zw0 ?_
   refine Qd ?_
   refine⟨_,zf0,Qo,?_⟩
   exact .inr ⟨hk.length,0,Nat.le_refl _,rfl,Qp⟩
end
structure ProdG (d:Def) (p:Prod):Prop where
 mem:p∈d.prods
 n:p.syms.length≤12
 t:∀ s∈p.syms,s.text.size≤32
 nm:∀ s∈p.syms,s.kind=1∨emB s.name=true∨s.name∈Qm d.prods
 so:p.sort∈Qm d.prods
 o:outN p.syms≤4
theorem Qmf {d:Def} {lex:Bool} {s:Sym} (h:s.text.size≤32):(ownK d lex s).length≤32:=by
 unfold ownK
 split
 ·unfold litK;simp;omega
 ·split<;>simp
theorem Qeq {d:Def} {p:Prod} {mask k:Nat} (hk:k<p.syms.length):Ys d p mask (k+1)=Qcg d p.lex (Ys d p mask k) k p.syms[k]:=by
 conv=>lhs;unfold Ys
 rw[List.getElem?_eq_getElem hk]
theorem Qfy {d:Def} {p:Prod} {mask:Nat} (G:ProdG d p):∀ k,(Ys d p mask k).rhs.length≤33*k∧(Ys d p mask k).os.length=(Ys d p mask k).rhs.length∧(Ys d p mask k).mask≤mask
 | 0=>by simp [Ys]
 | k+1=>by
   obtain⟨h1,h2,h3⟩:=Qfy G k (mask:=mask)
   by_cases hk:k<p.syms.length
   ·rw[Qeq hk]
    have hl:=Qmf (d:=d) (lex:=p.lex) (G.t _ (List.getElem_mem hk))
    generalize Ys d p mask k=R at h1 h2 h3
    have hput:∀ R':URow,R'.rhs=R.rhs→R'.os=R.os→R'.mask≤mask→(Qaw d p.lex R' k p.syms[k]).rhs.length≤33*(k+1)∧(Qaw d p.lex R' k p.syms[k]).os.length=(Qaw d p.lex R' k p.syms[k]).rhs.length∧(Qaw d p.lex R' k p.syms[k]).mask≤mask:=fun R' e1 e2 e3=>by
     unfold Qaw
     rw[e1,e2]
     refine⟨?_,?_,e3⟩
     ·simp only[List.length_append]
      split<;>simp<;>omega
     ·simp only[List.length_append,List.length_replicate]
      split<;>simp<;>omega
    unfold Qcg
    split
    ·split
     ·exact⟨by simp only;omega,h2,by simp only;omega⟩
     ·exact hput _ rfl rfl (by simp only;omega)
    ·exact hput R rfl rfl h3
   ·have:Ys d p mask (k+1)=Ys d p mask k:=by
     conv=>lhs;unfold Ys
     rw[List.getElem?_eq_none om]
    rw[this]
    exact⟨by omega,h2,h3⟩
theorem Qqy {n:Nat} (h:n<16):IntKind.i64.wrap (BitVec.ofInt IntKind.i64.bits (n:Int) &&& BitVec.ofInt IntKind.i64.bits 1).toNat=((n % 2:Nat):Int):=by
 have:∀ n:Fin 16,IntKind.i64.wrap (BitVec.ofInt IntKind.i64.bits (n.1:Int) &&& BitVec.ofInt IntKind.i64.bits 1).toNat=((n.1 % 2:Nat):Int):=by decide
 exact this ⟨n,h⟩
theorem SlR.keepT {a b:Heap} {v:Value} {n w:Nat} {cells:List Value} {et:TypeId} {ts:List TypeId} (hs:SlR a v n cells et w) (k:Keep ts a b) (h:et∉ts):SlR b v n cells et w:=by
 refine⟨hs.1,?_⟩
 rcases hs.2 with h1|⟨id,ver,own,c,e,h2⟩
 ·exact .inl h1
 ·exact .inr ⟨id,ver,own,c,e,k _ _ h2 (Yy h)⟩
theorem Ql3 {all:Array Oper} {o:Oper} {r:List Oper} {s:St} {K:St→Prop} {x:Operand} {t y:Nat} {e:TypeId} {ti:TI} {v:Value} {cs cells:List Value} {n:Nat} {h:Heap} (hw:Ql all o s=some true)
 (ho:o.op = .call { callee:=.builtin .append,args:=#[x,.tmp y],argTypes:=#[t,t] }) (hu:env.P.underlying t=some (.slice e)) (ht:Qf env.P e=some ti) (hs0:0<ti.size) (hz:(ti.zero.map fun z=>z.cells.size)=some ti.size)
 (hx:ev s x=some v) (hy:fget s.fr y = .bsl cs 1) (G:Grow h s.h v n cells e) (hp:h <+: s.h) (hl:cells.length=n*ti.size) (hc:cs.length=ti.size) (hb:(n+1)*ti.bytes≤140737488355328) (hn:n+1≤140737488355328)
 (k:∀ p c h',Grow h h' (.slice p (n+1) c) (n+1) (cells++cs) e→h <+: h'→(∀ j o,isAt v j=false→s.h[j]? = some o→h'[j]? = some o)→(∀ x,isAt (.slice p (n+1) c) x=true→isAt v x=true∨x=s.h.length)→s.h.length≤h'.length→OW env all r ({ s with h:=h' }.putO o.dst (.val (.slice p (n+1) c))) K):OW env all (o :: r) s K:=by
 have hi:Xz s s.h ti.size (.tmp y)=some (cs,1):=by simp only[Xz,hy,hc,Nat.one_mul,if_true]
 rcases G with ⟨rfl,rfl,rfl⟩ | ⟨id,ver,h1,rfl,h3⟩
 ·refine Qew hw ho hu ht hs0 hz hx hi (by decide) (by simpa using hb) (by decide) ?_
  exact k (some ⟨s.h.length,0,some 0⟩) 1 _ (.inr ⟨s.h.length,0,hp.length_le,rfl,by simp⟩) (Yl hp) (fun j o _ h=>Xg h) (fun x hx=>by
   simp only[isAt,beq_iff_eq] at hx
   exact .inr hx.symm) (by simp)
 ·refine Qfu hw ho hu ht hs0 hz hx h3 om hi hb hn ?_
  rw[List.take_of_length_le om]
  refine k (some ⟨id,0,some (ver+1)⟩) (n+1) _ (.inr ⟨id,ver+1,h1,rfl,Qh h3⟩) (Xa hp h1) (fun j o hj h=>?_) (fun x hx=>?_) (by simp)
  ·simp only[isAt,beq_eq_false_iff_ne] at hj
   rw[Qk hj]
   exact h
  ·simp only[isAt] at hx ⊢
   exact .inl hx
theorem Grow.base {a b c:Heap} {v:Value} {n:Nat} {cells:List Value} {et:TypeId} (G:Grow b c v n cells et) (h:a <+: b):Grow a c v n cells et:=by
 rcases G with G|⟨id,ver,h1,h2,h3⟩
 ·exact .inl G
 ·exact .inr ⟨id,ver,Nat.le_trans h.length_le h1,h2,h3⟩
theorem MR.pre {h0 hk h1:Heap} {im:Nat} {m:MK} {l:List (Rule×Org)} (M:MR h0 hk im m l) (hp:hk <+: h1):MR h0 h1 im m l:=
 ⟨M.p.trans hp,M.lm,Qc hp M.o,M.r.keep (Keep.pre (ts:=[]) hp) (by simp) (by simp),M.f.keep (Keep.pre (ts:=[]) hp) (by simp) (by simp)⟩
section
variable {h0 hk:Heap} {im:Nat} {m:MK} {d:Def} {es:List (ByteArray×Int)} {ks:List (LKey×Int)} {l:List (Rule×Org)}
set_option maxHeartbeats 16000000 in
theorem Qwy (M:MR h0 hk im m l) (S:MS hk m d es ks) (hP:RdProds hk m.vP d.prods) {at' mask:Nat} (ha:at'<d.prods.length) (G:ProdG d d.prods[at']) (hm:mask<16) (hl:l.length≤1000000) :
 FW env 96 [.pointer (some ⟨im,0,some 0⟩),i64 (at':Int),i64 (mask:Int)] hk fun r h'=>r = .tuple #[]∧∃ vr' vf',MR h0 h' im { m with vr:=vr',vf:=vf' } (l++[Qaf d at' d.prods[at'] mask])∧Keep tsR hk h':=by
 have hob:=M.o
 obtain⟨id,ver,own,c',cells,u,hv,hid,hrd,hu⟩:=RdL.at (k:=5) (fun _ _=>rfl) hP ha
 have hu:RdYs hk u d.prods[at'].syms:=hu
 have hu0:=hu
 obtain⟨ps,cs,rfl⟩:=SlR.form hu
 have wa:=rng ha
 obtain⟨p,hpe⟩:∃ p,p=d.prods[at']:=⟨_,rfl⟩
 rw[← hpe] at hrd hu hu0 G ⊢
 have hn12:=G.n
 have hUL:=Qfy (mask:=mask) G
 unfold MK.cells at hob
 have hgp:=S.gp
 have hob1:=hob
 rw[hv] at hob1
 refine fe Tryz.func96 ?_;simp only[push_cast]
 refine zw4 hob1 wa hid hrd ?_
 refine CW.mono (Q:=fun e s'=>e = .exit 0∧∃ (h1:Heap) (vr vo:Value),hk <+: h1∧Grow hk h1 vr (Jq d p mask).rhs.length ((Jq d p mask).rhs.flatMap KSym.cells) 65∧Grow hk h1 vo (Jq d p mask).os.length ((Jq d p mask).os.map i64) 3∧s'.h=h1∧SubL [(0,.val (.pointer (some ⟨im,0,some 0⟩))),(6,.box [.bool p.lex,.string p.sort,.string p.cons,.bool p.bracket,.slice ps p.syms.length cs]),(7,.box [i64 0,i64 (at':Int),i64 (mask:Int),vo]),(8,.val vr)] s'.fr) ?_ ?_
 ·refine Qy p.syms.length (fun k (x:Heap×Value×Value)=>[(0,.val (.pointer (some ⟨im,0,some 0⟩))),(2,.val (i64 ((Ys d p mask k).mask:Int))),(6,.box [.bool p.lex,.string p.sort,.string p.cons,.bool p.bracket,.slice ps p.syms.length cs]),(7,.box [i64 0,i64 (at':Int),i64 (mask:Int),x.2.2]),(8,.val x.2.1),(27,.val (.slice ps p.syms.length cs)),(28,.val (i64 p.syms.length)),(29,.val (i64 k))]) (fun _ x=>x.1)
   (fun k x=>hk <+: x.1∧Grow hk x.1 x.2.1 (Ys d p mask k).rhs.length ((Ys d p mask k).rhs.flatMap KSym.cells) 65∧Grow hk x.1 x.2.2 (Ys d p mask k).os.length ((Ys d p mask k).os.map i64) 3) (hk,nilS,nilS) (by simp only[Ys];exact zg0) rfl ⟨List.prefix_refl _,Grow.nil,Grow.nil⟩ ?_
  rintro k ⟨h1,vr,vo⟩ hkn ⟨hp1,hG1,hG2⟩
  simp only at hp1 hG1 hG2 ⊢
  by_cases hlt:k<p.syms.length
  ·obtain⟨ids,vers,owns,cs',hvs,hids⟩:=SlR.at (hu.mono hp1) om
   cases hvs
   have hgs:=Qah hlt
   have e1:=rng hlt
   have e2:=inc hlt om
   have e3:=Qv hlt
   have hsuc:=Qeq (d:=d) (mask:=mask) hlt
   obtain⟨u1,u2,u3⟩:=hUL k
   have hsm:=List.getElem_mem hlt
   have hst:=G.t _ hsm
   have hsn:=G.nm _ hsm
   generalize p.syms[k]=s at hgs hsuc hsm hst hsn
   generalize hRR:Ys d p mask k=R at hG1 hG2 hsuc u1 u2 u3 ⊢
   obtain⟨qr,cr,rfl⟩:=hG1.form
   obtain⟨qo,co,rfl⟩:=hG2.form
   refine zw1 e3 ?_
   refine Qb rfl ?_
   refine zu ?_
   iterate 6 (refine zx (zp3 e1 hids hgs) ?_)
   refine zu ?_
   iterate 8 (refine zx zp0 ?_)
   apply zn
   show CW _ _ _ _
   obtain⟨m2,hm2⟩:∃ m2,m2=R.mask / 2:=⟨_,rfl⟩
   obtain⟨r2,hr2⟩:∃ r2,r2=R.mask % 2:=⟨_,rfl⟩
   refine CW.mono (Q:=fun e s'=>s'.h=h1∧((e = .exit 1∧Ys d p mask (k+1)=⟨m2,R.rhs,R.os⟩∧SubL [(0,.val (.pointer (some ⟨im,0,some 0⟩))),(6,.box [.bool p.lex,.string p.sort,.string p.cons,.bool p.bracket,.slice (some ⟨ids,0,some vers⟩) p.syms.length cs]),(27,.val (.slice (some ⟨ids,0,some vers⟩) p.syms.length cs)),(28,.val (i64 p.syms.length)),(29,.val (i64 k)),(2,.val (i64 (m2:Int))),(7,.box [i64 0,i64 (at':Int),i64 (mask:Int),.slice qo R.os.length co]),(8,.val (.slice qr R.rhs.length cr))] s'.fr)∨(e = .normal∧∃ M1:Nat,Ys d p mask (k+1)=Qaw d p.lex ⟨M1,R.rhs,R.os⟩ k s∧SubL [(0,.val (.pointer (some ⟨im,0,some 0⟩))),(6,.box [.bool p.lex,.string p.sort,.string p.cons,.bool p.bracket,.slice (some ⟨ids,0,some vers⟩) p.syms.length cs]),(27,.val (.slice (some ⟨ids,0,some vers⟩) p.syms.length cs)),(28,.val (i64 p.syms.length)),(29,.val (i64 k)),(2,.val (i64 (M1:Int))),(7,.box [i64 0,i64 (at':Int),i64 (mask:Int),.slice qo R.os.length co]),(8,.val (.slice qr R.rhs.length cr)),(10,.box [i64 s.kind,.string s.text,u64 s.set.a,u64 s.set.b,u64 s.set.c,u64 s.set.d,.string s.name,.string s.sep]),(9,.val (i64 k))] s'.fr))) ?_ ?_
   ·have hR16:R.mask<16:=by omega
    cases hL:Jc s with
    | true=>
      rw[show (decide (s.kind=4)||decide (s.kind=5))=true from hL]
      unfold Qcg at hsuc
      rw[if_pos hL,← hm2] at hsuc
      have hand:=Qqy hR16
      rw[← hr2] at hand
      have hshr:((R.mask:Int)).fdiv (2 ^ min 1 IntKind.i64.bits)=(m2:Int):=by
       rw[show min 1 IntKind.i64.bits=1 from rfl,Int.fdiv_eq_ediv_of_nonneg _ (by decide)]
       omega
      refine Qb rfl ?_
      by_cases hz:r2=0
      ·have dz:decide ((r2:Int)=0)=true:=decide_eq_true om
       rw[← hr2,if_pos hz] at hsuc
       refine zw3 hand hshr dz ?_
       refine Qb rfl ?_
       refine Qj ?_
       exact⟨rfl,.inl ⟨rfl,hsuc,zg0⟩⟩
      ·have dz:decide ((r2:Int)=0)=false:=decide_eq_false om
       rw[← hr2,if_neg hz] at hsuc
       refine zw3 hand hshr dz ?_
       refine Qa rfl ?_
       refine Xx ?_
       exact⟨rfl,.inr ⟨rfl,m2,hsuc,zg0⟩⟩
    | false=>
      rw[show (decide (s.kind=4)||decide (s.kind=5))=false from hL]
      unfold Qcg at hsuc
      rw[if_neg (by rw[hL];decide)] at hsuc
      refine Qa rfl ?_
      refine Xx ?_
      exact⟨rfl,.inr ⟨rfl,R.mask,hsuc,zg0⟩⟩
   rintro e s' ⟨hh,⟨rfl,hsuc,hf⟩ | ⟨rfl,M1,hsuc,hf⟩⟩
   ·show CW _ _ _ _
    refine Qi _ hf ?_
    rw[hh]
    clear hf hh s'
    refine zw1 e2 ?_
    refine⟨hlt,(h1,.slice qr R.rhs.length cr,.slice qo R.os.length co),?_,rfl,hp1,?_,?_⟩
    ·dsimp only
     rw[hsuc]
     exact zg0
    ·rw[hsuc]
     exact hG1
    ·rw[hsuc]
     exact hG2
   show CW _ _ _ _
   refine Qi _ hf ?_
   rw[hh]
   clear hf hh s'
   obtain⟨R1,hR1⟩:∃ R1,R1=R.rhs++if preG d p.lex R.rhs=true then [ntK (gapN d)] else []:=⟨_,rfl⟩
   obtain⟨O1,hO1⟩:∃ O1,O1=R.os++if preG d p.lex R.rhs=true then [-1] else []:=⟨_,rfl⟩
   have hsuc2:Ys d p mask (k+1)=⟨M1,R1++ownK d p.lex s,O1++List.replicate (ownK d p.lex s).length (k:Int)⟩:=by rw[hsuc,hR1,hO1];rfl
   have hR1l:R1.length≤33*k+1:=by rw[hR1,List.length_append];split<;>simp<;>omega
   have hO1l:O1.length≤33*k+1:=by rw[hO1,List.length_append];split<;>simp<;>omega
   have hob1:=Qc hp1 hob
   apply zs
   refine CW.mono (Q:=fun e s'=>e = .normal∧∃ (h2:Heap) (q2:Option Addr) (c2:Nat) (q3:Option Addr) (c3:Nat),hk <+: h2∧Grow hk h2 (.slice q2 R1.length c2) R1.length (R1.flatMap KSym.cells) 65∧Grow hk h2 (.slice q3 O1.length c3) O1.length (O1.map i64) 3∧s'.h=h2∧SubL [(0,.val (.pointer (some ⟨im,0,some 0⟩))),(6,.box [.bool p.lex,.string p.sort,.string p.cons,.bool p.bracket,.slice (some ⟨ids,0,some vers⟩) p.syms.length cs]),(27,.val (.slice (some ⟨ids,0,some vers⟩) p.syms.length cs)),(28,.val (i64 p.syms.length)),(29,.val (i64 k)),(2,.val (i64 (M1:Int))),(7,.box [i64 0,i64 (at':Int),i64 (mask:Int),.slice q3 O1.length c3]),(8,.val (.slice q2 R1.length c2)),(9,.val (i64 k)),(10,.box [i64 s.kind,.string s.text,u64 s.set.a,u64 s.set.b,u64 s.set.c,u64 s.set.d,.string s.name,.string s.sep])] s'.fr) ?_ ?_
   ·have hno:preG d p.lex R.rhs=false→hk <+: h1∧Grow hk h1 (.slice qr R1.length cr) R1.length (R1.flatMap KSym.cells) 65∧Grow hk h1 (.slice qo O1.length co) O1.length (O1.map i64) 3∧R1=R.rhs∧O1=R.os:=fun hn=>by
     rw[hn,if_neg (by decide),List.append_nil] at hR1 hO1
     rw[hR1,hO1]
     exact⟨hp1,hG1,hG2,rfl,rfl⟩
    by_cases q1:R.rhs.length=0
    ·have hn:preG d p.lex R.rhs=false:=by unfold preG;rw[List.isEmpty_iff.2 (List.eq_nil_of_length_eq_zero q1)];rfl
     obtain⟨a1,a2,a3,a4,a5⟩:=hno hn
     have dl:decide ((0:Int)<(R.rhs.length:Int))=false:=decide_eq_false om
     refine zw1 dl ?_
     refine Qa rfl ?_
     refine Xx ?_
     refine⟨rfl,h1,qr,cr,qo,co,a1,a2,a3,rfl,?_⟩
     rw[a4,a5]
     exact zg0
    have dl:decide ((0:Int)<(R.rhs.length:Int))=true:=decide_eq_true om
    have hne:R.rhs.isEmpty=false:=by cases e:R.rhs with|nil=>rw[e] at q1;exact absurd rfl q1|cons a b=>rfl
    cases hlx:p.lex with
    | true=>
      have hn:preG d p.lex R.rhs=false:=by unfold preG;rw[hlx];simp
      obtain⟨a1,a2,a3,a4,a5⟩:=hno hn
      refine zw2 dl hlx ?_
      refine Qa rfl ?_
      refine Xx ?_
      refine⟨rfl,h1,qr,cr,qo,co,a1,a2,a3,rfl,?_⟩
      rw[a4,a5]
      exact (zg1 hlx)
    | false=>
    cases hem:emB d.layout with
    | true=>
      have hn:preG d p.lex R.rhs=false:=by unfold preG;rw[hem];simp
      obtain⟨a1,a2,a3,a4,a5⟩:=hno hn
      have dg:decide (0≤m.gap)=false:=by rw[hgp];unfold gapN;rw[if_pos hem];rfl
      refine zw4 dl hlx hob1 dg ?_
      refine Qa rfl ?_
      refine Xx ?_
      refine⟨rfl,h1,qr,cr,qo,co,a1,a2,a3,rfl,?_⟩
      rw[a4,a5]
      exact (zg1 hlx)
    | false=>
      have hn:preG d p.lex R.rhs=true:=by unfold preG;rw[hem,hlx,hne];rfl
      rw[hn,if_pos rfl] at hR1 hO1
      have dg:decide (0≤m.gap)=true:=by rw[hgp];unfold gapN;rw[if_neg (by rw[hem];decide)];exact decide_eq_true om
      refine zw4 dl hlx hob1 dg ?_
      refine Qb rfl ?_
      refine zw1 hob1 ?_
      refine zj Tryz.func99 ?_
      refine nt_fw.mono ?_
      rintro _ h2 ⟨rfl,e7⟩
      obtain rfl:=e7.symm
      rw[hgp]
      refine zw0 ?_
      refine Qdq (t:=61) (cs:=KSym.cells (ntK (gapN d))) zf0 rfl kr ti65 (by decide) rfl zf0 rfl hG1 hp1 (by rw[Qcw]) rfl (by simp only;omega) om ?_
      intro p2 c2 h2 k1 k2 k3 _
      have hG22:=hG2.keep (Keep.push hG1 k3) (by decide)
      refine zw0 ?_
      refine Qdq (t:=39) (cs:=[i64 (-1)]) zf0 rfl kr ti3 (by decide) rfl zf0 rfl hG22 k2 (by simp) rfl (by simp only;omega) om ?_
      intro p3 c3 h3 k4 k5 k6 _
      have k1':=Grow.keep k1 (Keep.push hG22 k6) (by decide)
      refine zw0 ?_
      have l1:R1.length=R.rhs.length+1:=by rw[hR1];simp
      have l2:O1.length=R.os.length+1:=by rw[hO1];simp
      refine⟨rfl,h3,p2,c2,p3,c3,k5,?_,?_,rfl,?_⟩
      ·rw[l1,hR1,List.flatMap_append,List.flatMap_singleton]
       exact k1'
      ·rw[l2,hO1,List.map_append]
       exact k4
      ·rw[l1,l2]
       exact (zg1 hlx)
   rintro e s' ⟨rfl,h2,q2,c2,q3,c3,hp2,hG3,hG4,hh,hf⟩
   show CW _ _ _ _
   refine Qi _ hf ?_
   rw[hh]
   clear hf hh s' hG1 hG2 hob1 hp1
   have hob2:=Qc hp2 M.o
   refine zw0 ?_
   refine zj Tryz.func141 ?_
   refine (Xcy hob2 (S.keep (Keep.pre (ts:=[]) hp2)) (hu.mono hp2) G.mem hsm hsn om).mono ?_
   rintro _ h3 ⟨hp3,hGK⟩
   have hKl:=Qmf (d:=d) (lex:=p.lex) hst
   generalize ownK d p.lex s=K at hGK hKl hsuc2
   obtain⟨qk,ck,rfl⟩:=hGK.form
   have hlen2:=hp2.length_le
   have hlen3:=hp3.length_le
   refine zw0 ?_
   refine Qy K.length (fun j (x:Heap×Value×Value)=>[(0,.val (.pointer (some ⟨im,0,some 0⟩))),(6,.box [.bool p.lex,.string p.sort,.string p.cons,.bool p.bracket,.slice (some ⟨ids,0,some vers⟩) p.syms.length cs]),(27,.val (.slice (some ⟨ids,0,some vers⟩) p.syms.length cs)),(28,.val (i64 p.syms.length)),(29,.val (i64 k)),(2,.val (i64 (M1:Int))),(9,.val (i64 k)),(7,.box [i64 0,i64 (at':Int),i64 (mask:Int),x.2.2]),(8,.val x.2.1),(79,.val (.slice qk K.length ck)),(80,.val (i64 K.length)),(81,.val (i64 j))]) (fun _ x=>x.1)
    (fun j x=>hk <+: x.1∧h3.length≤x.1.length∧Grow hk x.1 x.2.1 (R1.length+j) ((R1++K.take j).flatMap KSym.cells) 65∧Grow hk x.1 x.2.2 (O1.length+j) ((O1++List.replicate j (k:Int)).map i64) 3∧Grow h2 x.1 (.slice qk K.length ck) K.length (K.flatMap KSym.cells) 65∧∀ b,isAt x.2.1 b=true→b<h2.length∨h3.length≤b) (h3,.slice q2 R1.length c2,.slice q3 O1.length c3) zg0 rfl ⟨hp2.trans hp3,Nat.le_refl _,?_,?_,hGK,fun b hb=>.inl (hG3.lt hb).2⟩ ?_
   ·rw[List.take_zero,List.append_nil,Nat.add_zero]
    exact hG3.keep (Keep.pre (ts:=[]) hp3) (by simp)
   ·rw[List.replicate_zero,List.append_nil,Nat.add_zero]
    exact hG4.keep (Keep.pre (ts:=[]) hp3) (by simp)
   rintro j ⟨h4,vr4,vo4⟩ hjn ⟨hp4,hlen4,hGr,hGo,hGk,hsep⟩
   simp only at hp4 hlen4 hGr hGo hGk hsep ⊢
   by_cases hjl:j<K.length
   ·have v1:=rng hjl
    have v2:=inc hjl om
    have v3:=Qv hjl
    obtain⟨idk,verk,ownk,ckk,hvk,hidk⟩:=(hGk.sl (b:=40) om).at om
    cases hvk
    have hgk:rdH (K.flatMap KSym.cells) (j*5) 5=some [i64 K[j].nt,u64 K[j].set.a,u64 K[j].set.b,u64 K[j].set.c,u64 K[j].set.d]:=Xs (f:=KSym.cells) (k:=5) (fun _=>rfl) K j K[j] (by simp [hjl])
    have htk:K.take (j+1)=K.take j++[K[j]]:=List.take_succ_eq_append_getElem hjl
    generalize K[j]=y at hgk htk
    obtain⟨qr4,cr4,rfl⟩:=hGr.form
    obtain⟨qo4,co4,rfl⟩:=hGo.form
    have hrl:((R1++K.take j).flatMap KSym.cells).length=(R1.length+j)*5:=by rw[Qcw,List.length_append,List.length_take,Nat.min_eq_left om]
    have hol:((O1++List.replicate j (k:Int)).map i64).length=(O1.length+j)*1:=by simp
    refine zw1 v3 ?_
    refine Qb rfl ?_
    refine zw3 v1 hidk hgk ?_
    refine Ql3 (t:=61) (cs:=KSym.cells y) zf0 rfl kr ti65 (by decide) rfl zf0 rfl hGr hp4 hrl rfl (by simp only;omega) om ?_
    intro p5 c5 h5 k1 k2 k3 k4 hlen5
    have hlen5:h4.length≤h5.length:=hlen5
    have k4:∀ x,isAt (.slice p5 (R1.length+j+1) c5) x=true→isAt (.slice qr4 (R1.length+j) cr4) x=true∨x=h4.length:=k4
    have hGo5:=hGo.keep (Keep.push hGr k3) (by decide)
    have hGk5:Grow h2 h5 (.slice (some ⟨idk,0,some verk⟩) K.length ck) K.length (K.flatMap KSym.cells) 65:=hGk.mono fun b o hb ho=>k3 b o (by
     cases e:isAt (.slice qr4 (R1.length+j) cr4) b with
     | false=>rfl
     | true=>
       have a1:=hsep b e
       have a2:=hGk.lt hb
       have a3:=hGK.lt hb
       omega) ho
    refine zw0 ?_
    refine Ql3 (t:=39) (cs:=[i64 (k:Int)]) zf0 rfl kr ti3 (by decide) rfl zf0 rfl hGo5 k2 hol rfl (by simp only;omega) om ?_
    intro p6 c6 h6 k5 k6 k7 _ hlen6
    have hlen6:h5.length≤h6.length:=hlen6
    have k1':=Grow.keep k1 (Keep.push hGo5 k7) (by decide)
    have hGk6:=hGk5.keep (Keep.push hGo5 k7) (by decide)
    refine zw1 v2 ?_
    refine⟨hjl,(h6,.slice p5 (R1.length+(j+1)) c5,.slice p6 (O1.length+(j+1)) c6),?_,rfl,k6,?_,?_,?_,hGk6,fun b hb=>?_⟩
    ·dsimp only
     exact (by simp only[push_cast,Nat.reduceEqDiff,reduceIte,Nat.add_assoc])
    ·simp only;omega
    ·rw[htk,← List.append_assoc,List.flatMap_append,List.flatMap_singleton]
     exact k1'
    ·rw[List.replicate_succ',← List.append_assoc,List.map_append]
     exact k5
    ·rcases k4 b hb with a|a
     ·exact hsep b a
     ·right;omega
   ·have v3:=Qu hjl
    obtain rfl:j=K.length:=by omega
    rw[List.take_length] at hGr
    refine zw1 v3 ?_
    refine Qa rfl ?_
    refine Qj ?_
    show CW _ _ _ _
    refine zw1 e2 ?_
    refine⟨hlt,(h4,vr4,vo4),?_,rfl,hp4,?_,?_⟩
    ·dsimp only
     rw[hsuc2]
     exact zg0
    ·rw[hsuc2]
     simp only[List.length_append]
     exact hGr
    ·rw[hsuc2]
     simp only[List.length_append,List.length_replicate]
     exact hGo
  ·have e3:=Qu hlt
   obtain rfl:k=p.syms.length:=by omega
   refine zw1 e3 ?_
   refine Qa rfl ?_
   refine Qj ?_
   exact⟨rfl,h1,vr,vo,hp1,hG1,hG2,rfl,zg0⟩
 rintro e s' ⟨rfl,h1,vr,vo,hp1,hG1,hG2,hh,hf⟩
 show CW _ _ _ _
 refine Qi _ hf ?_
 rw[hh]
 clear hf hh s' hob hob1
 have M1:=M.pre hp1
 have S1:=S.keep (Keep.pre (ts:=[]) hp1)
 have hr:=Qcu M1 (lhs:=(ntS d p.sort:Int)) (kd:=0) (pr:=(at':Int)) (mk:=(mask:Int)) (hG1.base M.p) (hG2.base M.p) hl
 unfold FW at hr
 obtain⟨r,h5,hcall,rfl,vr',vf',hM5,hK5⟩:=hr
 have hob:=M1.o
 unfold MK.cells at hob
 have hsm:=S1.sm
 have hg:=S1.sg _ G.so
 have hkk:=Xh es
 obtain⟨qr,cr,rfl⟩:=hG1.form
 obtain⟨qo,co,rfl⟩:=hG2.form
 refine Qi [(0,.val (.pointer (some ⟨im,0,some 0⟩))),(6,.box [.bool p.lex,.string p.sort,.string p.cons,.bool p.bracket,.slice ps p.syms.length cs]),(7,.box [i64 0,i64 (at':Int),i64 (mask:Int),.slice qo (Jq d p mask).os.length co]),(8,.val (.slice qr (Jq d p mask).rhs.length cr))] zg0 ?_
 show CW _ _ ⟨_,[],h1⟩ _
 apply Xd (L:=[[],[],[1],[1,2],[1,2,3],[],[5],[1,2,3,4,5,6],[],[],[0,1,2,3,4,5,6,7,8,9]]) (act:=[10]) (hs:=[h5]) (resL:=[_,_,_,_,_,_,_,_,_,_,_]) (frF:=[])
 case hm=>exact Qq
 case hc=>kernel_rfl
 case ha=>rfl
 case hb=>rfl
 case hS=>
  refine za4 hob hsm hg hkk ?_
  apply StepsA.cons
  ·rfl
  ·refine⟨?_,trivial⟩
   exact Yu (args:=[.pointer (some ⟨im,0,some 0⟩),i64 (ntS d p.sort:Int),.slice qr (Jq d p mask).rhs.length cr,.agg #[i64 0,i64 (at':Int),i64 (mask:Int),.slice qo (Jq d p mask).os.length co]]) (cap:=[]) (fn:=Tryz.f98) zf0 rfl zf0 zf0 Tryz.func98 kr kr hcall
  ·rfl
  exact StepsA.nil _
 case ht=>rfl
 case hF=>exact zh
 exact⟨_,zf0,rfl,vr',vf',hM5,(Keep.pre hp1).trans hK5⟩
end
theorem Qqz {t e:TypeId} {ti:TI} {v w:Value} {n m b:Nat} {cells cs:List Value} {h hk:Heap} (hu:env.P.underlying t=some (.slice e)) (ht:Qf env.P e=some ti) (hs0:0<ti.size) (hz:(ti.zero.map fun z=>z.cells.size)=some ti.size)
 (G:Grow h hk v n cells e) (hp:h <+: hk) (hl:cells.length=n*ti.size) (hy:SlR hk w m cs e b) (hlc:cs.length=m*ti.size) (h0:0<m) (hb:(n+m)*ti.bytes≤140737488355328) (hn:n+m≤140737488355328):∃ p c h',
 (∀ (all:Array Oper) (o:Oper) (s:St) (x:Operand) (y:Nat),s.h=hk→Ql all o s=some true→o.op = .call { callee:=.builtin .append,args:=#[x,.tmp y],argTypes:=#[t,t] }→ev s x=some v→fget s.fr y = .val w →
  One env all o s (.sl (.val (.slice p (n+m) c))) h') ∧
 Grow h h' (.slice p (n+m) c) (n+m) (cells++cs) e∧h <+: h'∧(∀ j o,isAt v j=false→hk[j]? = some o→h'[j]? = some o):=by
 obtain⟨id,ver,own,c',rfl,hid⟩:=hy.at h0
 have hrd:rdH cs 0 (m*ti.size)=some cs:=by
  simp only[rdH,rdC,Nat.zero_add,List.drop_zero,hlc]
  rw[if_pos (Nat.le_refl _),← hlc,List.take_length]
 have hi:∀ (s:St) (y:Nat),s.h=hk→fget s.fr y = .val (.slice (some ⟨id,0,some ver⟩) m c')→Xz s s.h ti.size (.tmp y)=some (cs,m):=fun s y hh hf=>by
  simp only[Xz,hf,hh,hid,if_true]
  first|rw[hrd];rfl|(unfold rdH at hrd;rw[hrd];rfl)
 rcases G with ⟨rfl,rfl,rfl⟩ | ⟨idx,vex,h1,rfl,h3⟩
 ·rw[Nat.zero_add] at hb hn ⊢
  refine⟨some ⟨hk.length,0,some 0⟩,m,hk++[HObj.arr cs 0 true e],fun all o s x y hh hw ho hx hy=>?_,.inr ⟨hk.length,0,hp.length_le,rfl,by rw[List.nil_append];exact Qp⟩,Yl hp,fun j o _ h=>Xg h⟩
  have:=hi s y hh hy
  subst hh
  exact .app0 hw ho hu rfl ht hs0 hz hx this h0 hb hn
 ·refine⟨some ⟨idx,0,some (vex+1)⟩,n+m,hk.set idx (HObj.arr (cells++cs) (vex+1) true e),fun all o s x y hh hw ho hx hy=>?_,.inr ⟨idx,vex+1,h1,rfl,Qh h3⟩,Xa hp h1,fun j o hj h=>?_⟩
  ·have h4:=hi s y hh hy
   subst hh
   have:=One.app (N:=env) hw ho hu rfl ht hs0 hz hx h3 om h4 hb hn
   rwa [List.take_of_length_le om] at this
  ·simp only[isAt,beq_eq_false_iff_ne] at hj
   rw[Qk hj]
   exact h
theorem RdL.keepT {α:Type} {f:α→Value→List Value} {R:Heap→Value→α→Prop} {et:TypeId} {w:Nat} {a b:Heap} {v:Value} {l:List α} {ts:List TypeId} (h:RdL f R et w a v l) (k:Keep ts a b) (hn:et∉ts) (hR:∀ u x,R a u x→R b u x):RdL f R et w b v l:=by
 obtain⟨us,hl,hs,hu⟩:=h
 exact⟨us,hl,hs.keepT k hn,fun i x u h1 h2=>hR _ _ (hu i x u h1 h2)⟩
theorem RdProds.keepT {a b:Heap} {v:Value} {l:List Prod} {ts:List TypeId} (h:RdProds a v l) (k:Keep ts a b) (h1:51∉ts) (h2:56∉ts):RdProds b v l:=RdL.keepT h k h1 fun u x hu=>SlR.keepT hu k h2
section
variable {h0 hk:Heap} {im:Nat} {m:MK} {d:Def} {es:List (ByteArray×Int)} {ks:List (LKey×Int)}
theorem Qb6 {k:Nat} (hk:k<d.prods.length):rosN d (k+1)=rosN d k++Qc1 d k d.prods[k]:=by
 conv=>lhs;unfold rosN
 rw[List.getElem?_eq_getElem hk]
theorem Qid {p:Prod} (h:outN p.syms≤4):Qc5 p≤16:=by
 unfold Qc5
 generalize outN p.syms=o at h
 have:o=0∨o=1∨o=2∨o=3∨o=4:=by omega
 rcases this with rfl|rfl|rfl|rfl|rfl<;>decide
theorem Qff (G:∀ p∈d.prods,ProdG d p):∀ k,(rosN d k).length≤16*k
 | 0=>by simp [rosN]
 | k+1=>by
   have h:=Qff G k
   by_cases hk:k<d.prods.length
   ·rw[Qb6 hk,List.length_append]
    have h2:(Qc1 d k d.prods[k]).length≤16:=by
     unfold Qc1
     rw[List.length_map,List.length_range]
     exact Qid (G _ (List.getElem_mem hk)).o
    omega
   ·have:rosN d (k+1)=rosN d k:=by
     conv=>lhs;unfold rosN
     rw[List.getElem?_eq_none om]
    rw[this]
    omega
theorem Xdz {k:LKey} (S:m.gap=gapN d):(!k.lex&&decide (0≤m.gap))=(!k.lex && !emB d.layout):=by
 rw[S]
 unfold gapN
 cases emB d.layout with
 | true=>simp
 | false=>
   rw[if_neg (by decide)]
   have:decide (0≤((nS d+nK d:Nat):Int))=true:=decide_eq_true om
   rw[this]
   rfl
set_option maxHeartbeats 8000000 in
theorem Qmm {ha:Heap} {i6 i1 i9:Nat} {k:LKey} {l:List KSym} {v:Value} (hp:ha <+: hk) (h9:ha.length≤i9) (S:m.gap=gapN d) (ho:ha[im]? = some (.arr m.cells 0 true 94)) (hx6:ha[i6]? = some (.arr k.cells 0 true 154)) (hx1:ha[i1]? = some (.arr [.pointer (some ⟨im,0,some 0⟩)] 0 true 89))
 (hx9:hk[i9]? = some (.arr [v] 0 true 61)) (hG:Grow ha hk v l.length (l.flatMap KSym.cells) 65) (hl:l.length≤100000) :
 FW env 100 [.pointer (some ⟨i6,0,some 0⟩),.pointer (some ⟨i1,0,some 0⟩),.pointer (some ⟨i9,0,some 0⟩)] hk fun r h'=>r = .tuple #[]∧ha <+: h'∧∃ v',h'[i9]? = some (.arr [v'] 0 true 61)∧Grow ha h' v' (l++Jf d k).length ((l++Jf d k).flatMap KSym.cells) 65:=by
 have hob:=Qc hp ho
 have hk6:=Qc hp hx6
 have hk1:=Qc hp hx1
 unfold MK.cells at hob
 unfold LKey.cells at hk6
 have hB:=Xdz (k:=k) S
 obtain⟨q,c,rfl⟩:=hG.form
 refine fe Tryz.func100 ?_;simp only[push_cast]
 cases hlx:k.lex with
 | true=>
   rw[hlx] at hk6
   have hK:Jf d k=[]:=by unfold Jf;rw[hlx];rfl
   rw[hK,List.append_nil]
   refine zw1 hk6 ?_
   refine Qa rfl ?_
   refine zw0 ?_
   exact⟨_,zf0,rfl,hp,_,hx9,hG⟩
 | false=>
 rw[hlx] at hk6 hB
 cases hem:emB d.layout with
 | true=>
   rw[hem] at hB
   have dg:decide (0≤m.gap)=false:=by simpa using hB
   have hK:Jf d k=[]:=by unfold Jf;rw[hem,hlx];rfl
   rw[hK,List.append_nil]
   refine zw4 hk6 hk1 hob dg ?_
   refine Qa rfl ?_
   refine zw0 ?_
   exact⟨_,zf0,rfl,hp,_,hx9,hG⟩
 | false=>
   rw[hem] at hB
   have dg:decide (0≤m.gap)=true:=by simpa using hB
   have hK:Jf d k=[ntK (gapN d)]:=by unfold Jf;rw[hem,hlx];rfl
   rw[hK]
   obtain⟨p2,c2,h2,hone,k1,k2,k3,k4,k5⟩:=Qbh (cs:=KSym.cells (ntK (gapN d))) (t:=61) kr ti65 (by decide) rfl hG hp (by rw[Qcw]) rfl (by simp only;omega) om
   have n9:isAt (.slice q l.length c) i9=false:=by
    cases hbb:isAt (.slice q l.length c) i9 with
    | false=>rfl
    | true=>
      obtain⟨ver2,h5⟩:=hG.obj hbb
      rw[hx9] at h5
      simp only[Option.some.injEq,HObj.arr.injEq] at h5
      exact absurd h5.2.2.2 (by decide)
   have hx92:=k3 _ _ n9 hx9
   rw[S] at hob
   rw[S] at dg
   refine zw4 hk6 hk1 hob dg ?_
   refine Qb rfl ?_
   refine zw0 ?_
   refine Qi [(0,.val (.pointer (some ⟨i6,0,some 0⟩))),(1,.val (.pointer (some ⟨i1,0,some 0⟩))),(2,.val (.pointer (some ⟨i9,0,some 0⟩)))] zg0 ?_
   show CW _ _ ⟨_,[],hk⟩ _
   apply Xd (L:=[[],[],[1],[1,2],[1,2,3],[1,2,3,4],[1,2,3,4,5],[0,1,2,3,4,5,6],[0,1,2,3,4,5,6,7]]) (act:=[7,8]) (hs:=[h2,h2.set i9 (.arr [.slice p2 (l.length+1) c2] 0 true 61)]) (resL:=[_,_,_,_,_,_,_,_,_]) (frF:=[])
   case hm=>exact Qq
   case hc=>kernel_rfl
   case ha=>rfl
   case hb=>rfl
   case hS=>
    refine za3 hx9 hk1 hob ?_
    apply StepsA.cons
    ·rfl
    ·refine⟨?_,trivial⟩
     exact Xb (fn:=Tryz.f99) (args:=[i64 (gapN d)]) (cap:=[]) rfl zf0 rfl zf0 zf0 Tryz.func99 kr kr nt_fw
    ·rfl
    refine za3 hx9 hk1 hob ?_
    apply StepsA.cons
    ·rfl
    ·refine⟨?_,trivial⟩
     exact hone _ _ _ _ _ rfl zf0 rfl zf0 zf0
    ·rfl
    refine za2 hx9 hx92 ?_
    apply StepsA.cons
    ·rfl
    ·refine⟨?_,trivial⟩
     exact One.stoH (r:=.sl .unk) (cells':=[.slice p2 (l.length+1) c2]) zf0 rfl zf0 zf0 hx92 zf0 rfl rfl rfl
    ·rfl
    exact StepsA.nil _
   case ht=>rfl
   case hF=>exact zh
   refine⟨_,zf0,rfl,Xa k2 h9,.slice p2 (l.length+1) c2,Qh hx92,?_⟩
   rw[List.length_append,List.flatMap_append,List.flatMap_singleton]
   exact k1.mono fun j o hj ho=>by
    show (h2.set i9 _)[j]? = some o
    rw[Qk ?_]
    ·exact ho
    ·rintro rfl
     rcases k4 _ hj with a|a
     ·rw[n9] at a;cases a
     ·have:=Yn hx9;omega
end
structure DefG (d:Def):Prop where
 p:∀ p∈d.prods,ProdG d p
 n:d.prods.length≤200
 st:d.start∈Qm d.prods
 ly:emB d.layout=true∨d.layout∈Qm d.prods
 k:∀ k∈Xe d.prods,(emB k.name=true∨k.name∈Qm d.prods)∧k.sep.size≤32
 kn:(Xe d.prods).length≤3000
theorem Qzs {l:List LKey} {i:Nat} (hi:i<l.length):rdH (l.flatMap LKey.cells) (i*7) 7=some [.bool l[i].lex,.string l[i].name,u64 l[i].set.a,u64 l[i].set.b,u64 l[i].set.c,u64 l[i].set.d,.string l[i].sep]:=Xs (f:=LKey.cells) (fun _=>rfl) l i l[i] (by simp [hi])
section
variable {h0 hk:Heap} {im:Nat} {m:MK} {d:Def} {es:List (ByteArray×Int)} {ks:List (LKey×Int)}
structure RuI (h0 hb:Heap) (im:Nat) (m:MK) (x:Heap×Value×Value) (l:List (Rule×Org)):Prop where
 M:MR h0 x.1 im { m with vr:=x.2.1,vf:=x.2.2 } l
 K:Keep tsR hb x.1
theorem Qot {l:List LKey} {k:Nat} (hk:k<l.length):Qbm d (l.take (k+1))=Qbm d (l.take k)++rosK d l[k]:=by
 unfold Qbm
 rw[List.take_succ_eq_append_getElem hk,List.flatMap_append,List.flatMap_singleton]
theorem Qga {l:List LKey}:(Qbm d l).length=2*l.length:=by
 unfold Qbm
 induction l with
 | nil=>rfl
 | cons k l ih=>rw[List.flatMap_cons,List.length_append,ih];simp [rosK];omega
set_option maxHeartbeats 16000000 in
theorem Qui (M:MR h0 hk im m []) (S:MS hk m d es ks) (hP:RdProds hk m.vP d.prods) (hs1:m.start=d.start) (hs2:m.layout=d.layout) (hO:Grow h0 hk m.vo (Xe d.prods).length ((Xe d.prods).flatMap LKey.cells) 154) (G:DefG d) (hst:m.st=(topN d:Int)) :
 FW env 34 [.pointer (some ⟨im,0,some 0⟩)] hk fun r h'=>r = .tuple #[]∧∃ vr vf,MR h0 h' im { m with vr:=vr,vf:=vf } (ros d)∧Keep tsR hk h':=by
 have hlP:=RdL.le hP
 obtain⟨pP,cP,hvP⟩:=RdL.form hP
 refine fe Tryz.func34 ?_;simp only[push_cast]
 refine zu ?_
 refine Yw (t:=89) (cs:=[.pointer (some ⟨im,0,some 0⟩)]) zf0 zf0 ?_
 dsimp only[St.putO,St.put]
 have hpA:hk <+: hk++[HObj.arr [.pointer (some ⟨im,0,some 0⟩)] 0 true 89]:=Qo
 have hx1:(hk++[HObj.arr [.pointer (some ⟨im,0,some 0⟩)] 0 true 89])[hk.length]? = some (.arr [.pointer (some ⟨im,0,some 0⟩)] 0 true 89):=Qp
 generalize (hk++[HObj.arr [.pointer (some ⟨im,0,some 0⟩)] 0 true 89])=hb at hpA hx1 ⊢
 generalize hi1:hk.length=i1 at hx1 ⊢
 have KA:Keep tsR hk hb:=Keep.pre hpA
 have MB:=M.pre hpA
 have SB:=S.keep KA
 have hPB:=hP.mono hpA
 have hOB:=hO.keep KA (by decide)
 have hobB:=MB.o
 unfold MK.cells at hobB
 rw[hvP] at hobB hPB
 have hPB':RdProds hb (.slice pP d.prods.length cP) d.prods:=hPB
 refine zw2 hx1 hobB ?_
 refine CW.mono (Q:=fun e s'=>e = .exit 0∧∃ x:Heap×Value×Value,RuI h0 hb im m x (rosN d d.prods.length)∧s'.h=x.1∧SubL [(1,.val (.pointer (some ⟨i1,0,some 0⟩)))] s'.fr) ?_ ?_
 ·refine Qy d.prods.length (fun k (x:Heap×Value×Value)=>[(1,.val (.pointer (some ⟨i1,0,some 0⟩))),(18,.val (.slice pP d.prods.length cP)),(19,.val (i64 d.prods.length)),(20,.val (i64 k))]) (fun _ x=>x.1) (fun k x=>RuI h0 hb im m x (rosN d k)) (hb,m.vr,m.vf) zg0 rfl ⟨MB,Keep.refl⟩ ?_
  rintro k ⟨hc,vr,vf⟩ hkn I
  by_cases hlt:k<d.prods.length
  ·have hPC:=hPB'.keepT I.K (by decide) (by decide)
   simp only at hPC
   obtain⟨id,ver,own,c',cells,u,hv,hid,hrd,hu⟩:=RdL.at (k:=5) (fun _ _=>rfl) hPC hlt
   cases hv
   have hu:RdYs hc u d.prods[k].syms:=hu
   have hu0:=hu
   obtain⟨ps,cs,rfl⟩:=SlR.form hu
   have w1:=rng hlt
   have w2:=inc hlt om
   have q3:=Qv hlt
   have GP:=G.p _ (List.getElem_mem hlt)
   have hmk:=Qid GP.o
   have hrl:=Qff G.p k
   have hn2:=G.n
   refine zw1 q3 ?_
   refine Qb rfl ?_
   refine zw3 w1 hid hrd ?_
   refine zj Tryz.func95 ?_
   refine (Qua hu0 GP.o).mono ?_
   rintro _ h2 ⟨rfl,e7⟩
   obtain rfl:=e7.symm
   have hsucc:=Qb6 hlt
   unfold Qc1 at hsucc
   generalize Qc5 d.prods[k]=N at hmk hsucc
   refine zw0 ?_
   refine Qy N (fun j (x:Heap×Value×Value)=>[(1,.val (.pointer (some ⟨i1,0,some 0⟩))),(2,.val (i64 k)),(18,.val (.slice (some ⟨id,0,some ver⟩) d.prods.length cP)),(19,.val (i64 d.prods.length)),(20,.val (i64 k)),(26,.val (i64 N)),(27,.val (i64 j))]) (fun _ x=>x.1) (fun j x=>RuI h0 hb im m x (rosN d k++(List.range j).map fun q=>Qaf d k d.prods[k] q)) (hc,vr,vf) zg0 rfl (by rw[List.range_zero,List.map_nil,List.append_nil];exact I) ?_
   rintro j ⟨hd4,vr4,vf4⟩ hjn J
   by_cases hjl:j<N
   ·have v1:=rng hjl
    have v2:=inc hjl om
    have v3:=Qv hjl
    have hx4:=J.K _ _ hx1 (Yy (by decide))
    have hPJ:=hPB.keepT J.K (by decide) (by decide)
    have SJ:=SB.keep J.K
    have MJ:=J.M
    simp only at hx4 hPJ SJ MJ ⊢
    have SJ':MS hd4 { m with vr:=vr4,vf:=vf4 } d es ks:=⟨SJ.sm,SJ.sg,SJ.lm,SJ.lg,SJ.gp⟩
    have hPJ':RdProds hd4 ({ m with vr:=vr4,vf:=vf4 }:MK).vP d.prods:=by show RdProds hd4 m.vP _;rw[hvP];exact hPJ
    refine zw1 v3 ?_
    refine Qb rfl ?_
    refine zw1 hx4 ?_
    refine zj Tryz.func96 ?_
    refine (Qwy MJ SJ' hPJ' (at':=k) (mask:=j) hlt GP om (by simp only[List.length_append,List.length_map,List.length_range];omega)).mono ?_
    rintro _ h5 ⟨rfl,vr5,vf5,M5,K5⟩
    refine zw1 v2 ?_
    refine⟨hjl,(h5,vr5,vf5),zg0,rfl,⟨?_,J.K.trans K5⟩⟩
    rw[List.range_succ,List.map_append,← List.append_assoc]
    exact M5
   ·have v3:=Qu hjl
    obtain rfl:j=N:=by omega
    simp only
    refine zw1 v3 ?_
    refine Qa rfl ?_
    refine Qj ?_
    show CW _ _ _ _
    refine zw1 w2 ?_
    refine⟨hlt,(hd4,vr4,vf4),zg0,rfl,?_⟩
    show RuI _ _ _ _ _ (rosN d (k+1))
    rw[hsucc]
    exact J
  ·have e3:=Qu hlt
   obtain rfl:k=d.prods.length:=by omega
   simp only
   refine zw1 e3 ?_
   refine Qa rfl ?_
   refine Qj ?_
   exact⟨rfl,(hc,vr,vf),I,rfl,zg0⟩
 rintro e s' ⟨rfl,⟨h2,vr2,vf2⟩,I,hh,hf⟩
 show CW _ _ _ _
 refine Qi _ hf ?_
 rw[hh]
 clear hf hh s'
 obtain⟨qo,co,hvo⟩:=hOB.form
 have hx2:=I.K _ _ hx1 (Yy (by decide))
 have hob2:=I.M.o
 simp only[MK.cells,hvo] at hob2
 simp only at hx2
 have hrN:=Qff G.p d.prods.length
 have hn200:=G.n
 have hkn:=G.kn
 refine zw2 hx2 hob2 ?_
 refine CW.mono (Q:=fun e s'=>e = .exit 4∧∃ x:Heap×Value×Value,RuI h0 hb im m x (rosN d d.prods.length++Qbm d (Xe d.prods))∧s'.h=x.1∧SubL [(1,.val (.pointer (some ⟨i1,0,some 0⟩)))] s'.fr) ?_ ?_
 ·refine Qy (Xe d.prods).length (fun k (x:Heap×Value×Value)=>[(1,.val (.pointer (some ⟨i1,0,some 0⟩))),(39,.val (.slice qo (Xe d.prods).length co)),(40,.val (i64 (Xe d.prods).length)),(41,.val (i64 k))]) (fun _ x=>x.1) (fun k x=>RuI h0 hb im m x (rosN d d.prods.length++Qbm d ((Xe d.prods).take k))) (h2,vr2,vf2) zg0 rfl (by rw[List.take_zero];show RuI _ _ _ _ _ (_++[]);rw[List.append_nil];exact I) ?_
  rintro k ⟨hc,vr,vf⟩ hkn' J
  by_cases hlt:k<(Xe d.prods).length
  ·have hOC:=hOB.keep J.K (by decide)
   simp only[hvo] at hOC
   obtain⟨id,ver,own,c',hv,hid⟩:=(hOC.sl (b:=72) om).at om
   cases hv
   have hkg:=Qzs hlt
   have w1:=rng hlt
   have w2:=inc hlt om
   have q3:=Qv hlt
   have htk:=Qot (d:=d) hlt
   obtain⟨hKn,hKs⟩:=G.k _ (List.getElem_mem hlt)
   have hKm:=List.getElem_mem hlt
   generalize (Xe d.prods)[k]=K at hkg htk hKn hKs hKm
   have hlk:(Qbm d ((Xe d.prods).take k)).length≤2*k:=by rw[Qga,List.length_take];omega
   generalize hLL:rosN d d.prods.length++Qbm d ((Xe d.prods).take k)=L at J
   have hLl:L.length≤10000:=by rw[← hLL,List.length_append];omega
   have MJ:=J.M
   simp only at MJ hid ⊢
   refine zw1 q3 ?_
   refine Qb rfl ?_
   refine zu ?_
   iterate 2 (refine zx (zp3 w1 hid hkg) ?_)
   refine Yw (t:=154) (cs:=[.bool false,.string ⟨#[]⟩,u64 0,u64 0,u64 0,u64 0,.string ⟨#[]⟩]) zf0 zf0 ?_
   dsimp only[St.putO,St.put]
   refine Yc (v:=K.val) (vs:=K.cells) (cells':=K.cells) zf0 rfl rfl rfl zf0 Qp zf0 rfl rfl ?_
   dsimp only
   have hset:(hc++[HObj.arr [.bool false,.string ⟨#[]⟩,u64 0,u64 0,u64 0,u64 0,.string ⟨#[]⟩] 0 true 154]).set hc.length (.arr K.cells 0 true 154)=hc++[.arr K.cells 0 true 154]:=by simp
   rw[hset]
   have hp3:hc <+: hc++[HObj.arr K.cells 0 true 154]:=Qo
   have hk3:(hc++[HObj.arr K.cells 0 true 154])[hc.length]? = some (.arr K.cells 0 true 154):=Qp
   generalize (hc++[HObj.arr K.cells 0 true 154])=h3 at hp3 hk3 ⊢
   generalize hc.length=i6 at hk3 ⊢
   have K3:Keep tsR hb h3:=J.K.trans (Keep.pre hp3)
   have M3:=MJ.pre hp3
   have hx3:=K3 _ _ hx1 (Yy (by decide))
   have S3:=SB.keep K3
   have hob3:=M3.o
   have hk3':=hk3
   simp only[MK.cells] at hob3
   simp only[LKey.cells] at hk3'
   have hlm:=S3.lm
   have hgl:=S3.lg _ hKm
   have hkk:=Qg9 ks
   have hkd:=kdS_key K
   unfold Qc2 at hkk hkd
   refine zw0 ?_
   refine Qt 6 Qq kr ?_
   refine zw7 hx3 hob3 hk3' hlm hgl hkk hkd ?_
   have S3':MS h3 { m with vr:=vr,vf:=vf } d es ks:=⟨S3.sm,S3.sg,S3.lm,S3.lg,S3.gp⟩
   refine zj Tryz.func97 ?_
   refine (Qm4 M3.o S3' hKn).mono ?_
   rintro _ h4 ⟨rfl,e7⟩
   obtain rfl:=e7.symm
   generalize hPK:Qe9 d K.name K.set=PK
   refine zw0 ?_
   iterate 3 (refine zx (zp1 hx3) ?_)
   refine Yi (t:=65) (cs:=KSym.cells PK) (n:=1) zf0 kr ?_
   dsimp only[St.putO,St.put]
   have hp5:h3 <+: h3++[HObj.arr (KSym.cells PK) 0 true 65]:=Qo
   have hu5:Grow h3 (h3++[HObj.arr (KSym.cells PK) 0 true 65]) (.slice (some ⟨h3.length,0,some 0⟩) 1 1) 1 (KSym.cells PK) 65:=.inr ⟨h3.length,0,Nat.le_refl _,rfl,Qp⟩
   generalize (h3++[HObj.arr (KSym.cells PK) 0 true 65])=h5 at hp5 hu5 ⊢
   generalize h3.length=i5 at hu5 ⊢
   refine zw0 ?_
   refine zj Tryz.func98 ?_
   have hr5:=Qcu (M3.pre hp5) (lhs:=(ntL d K:Int)) (kd:=1) (pr:=0) (mk:=0) (rhs:=[PK]) (os:=[]) (uo:=nilS) (by simp only[List.flatMap_cons,List.flatMap_nil,List.append_nil];exact hu5.base M3.p) Grow.nil om
   refine hr5.mono ?_
   rintro _ h6 ⟨rfl,vr6,vf6,M6,K6⟩
   have K6':Keep tsR hb h6:=(K3.trans (Keep.pre hp5)).trans K6
   have hx6:=K6' _ _ hx1 (Yy (by decide))
   have hk6:=((Keep.pre (ts:=tsR) hp5).trans K6) _ _ hk3 (Yy (by decide))
   simp only at M6
   refine zw0 ?_
   refine zj Tryz.func99 ?_
   refine nt_fw.mono ?_
   rintro _ h7 ⟨rfl,e7⟩
   obtain rfl:=e7.symm
   refine Yi (t:=65) (cs:=KSym.cells (ntK (ntL d K))) (n:=1) zf0 kr ?_
   dsimp only[St.putO,St.put]
   have hp7:h6 <+: h6++[HObj.arr (KSym.cells (ntK (ntL d K))) 0 true 65]:=Qo
   have hu7:Grow h6 (h6++[HObj.arr (KSym.cells (ntK (ntL d K))) 0 true 65]) (.slice (some ⟨h6.length,0,some 0⟩) 1 1) 1 (KSym.cells (ntK (ntL d K))) 65:=.inr ⟨h6.length,0,Nat.le_refl _,rfl,Qp⟩
   generalize (h6++[HObj.arr (KSym.cells (ntK (ntL d K))) 0 true 65])=h7 at hp7 hu7 ⊢
   generalize hv7:Value.slice (some ⟨h6.length,0,some 0⟩) 1 1=v7 at hu7 ⊢
   have hvc7:Zg 1 v7=some [v7]:=by rw[← hv7];rfl
   refine Yw (t:=61) (cs:=[nilS]) zf0 zf0 ?_
   dsimp only[St.putO,St.put]
   refine Yc (v:=v7) (vs:=[v7]) (cells':=[v7]) zf0 rfl rfl rfl zf0 Qp zf0 (by rw[← hv7];rfl) rfl ?_
   dsimp only
   have hset8:(h7++[HObj.arr [nilS] 0 true 61]).set h7.length (.arr [v7] 0 true 61)=h7++[.arr [v7] 0 true 61]:=by simp
   rw[hset8]
   have hp8:h6 <+: h7++[HObj.arr [v7] 0 true 61]:=Yl hp7
   have hx8:(h7++[HObj.arr [v7] 0 true 61])[h7.length]? = some (.arr [v7] 0 true 61):=Qp
   have hu8:Grow h6 (h7++[HObj.arr [v7] 0 true 61]) v7 1 (KSym.cells (ntK (ntL d K))) 65:=hu7.mono fun j o _ ho=>Xg ho
   generalize (h7++[HObj.arr [v7] 0 true 61])=h8 at hp8 hx8 hu8 ⊢
   have hl9:h6.length≤h7.length:=hp7.length_le
   generalize h7.length=i9 at hx8 hl9 ⊢
   refine zw0 ?_
   refine zc (f:=100) (cap:=[.pointer (some ⟨i6,0,some 0⟩),.pointer (some ⟨i1,0,some 0⟩),.pointer (some ⟨i9,0,some 0⟩)]) (args:=[]) (fn:=Tryz.f100) zf0 Tryz.func100 kr kr ?_
   have hgp:({ m with vr:=vr6,vf:=vf6 }:MK).gap=gapN d:=SB.gp
   refine (Qmm (ha:=h6) (l:=[ntK (ntL d K)]) hp8 hl9 hgp M6.o hk6 hx6 hx8 (by simp only[List.flatMap_cons,List.flatMap_nil,List.append_nil];exact hu8) (by simp)).mono ?_
   rintro _ h9 ⟨rfl,hp9,v9,hx9,hu9⟩
   have hsl:(Jf d K).length≤1:=by unfold Jf;split<;>simp
   have hl1:([ntK (ntL d K)]++Jf d K).length≤2:=by rw[List.length_append,List.length_singleton];omega
   have hmore:Qj8 d K=([ntK (ntL d K)]++Jf d K)++(if emB K.sep=true then [] else litK K.sep++Jf d K)++[PK]:=by rw[← hPK];rfl
   generalize hL1:[ntK (ntL d K)]++Jf d K=L1 at hu9 hl1 hmore
   obtain⟨L2,hL2⟩:∃ L2,L2=L1++(if emB K.sep=true then [] else litK K.sep++Jf d K):=⟨_,rfl⟩
   rw[← hL2] at hmore
   have hk9:=Qc hp9 hk6
   simp only[LKey.cells] at hk9
   refine zw1 hk9 ?_
   refine CW.mono (Q:=fun e s'=>e = .normal∧∃ (h10:Heap) (v10:Value),h6 <+: h10∧h10[i9]? = some (.arr [v10] 0 true 61)∧Grow h6 h10 v10 L2.length (L2.flatMap KSym.cells) 65∧s'.h=h10∧SubL [(1,.val (.pointer (some ⟨i1,0,some 0⟩))),(6,.val (.pointer (some ⟨i6,0,some 0⟩))),(7,.val (i64 (ntL d K:Int))),(8,.box [i64 PK.nt,u64 PK.set.a,u64 PK.set.b,u64 PK.set.c,u64 PK.set.d]),(9,.val (.pointer (some ⟨i9,0,some 0⟩))),(39,.val (.slice (some ⟨id,0,some ver⟩) (Xe d.prods).length co)),(40,.val (i64 (Xe d.prods).length)),(41,.val (i64 k))] s'.fr) ?_ ?_
   ·by_cases qs:K.sep=⟨#[]⟩
    ·have d1:=decide_eq_true qs
     rw[if_pos (by unfold emB;exact d1),List.append_nil] at hL2
     rw[d1,hL2]
     refine Qa rfl ?_
     refine Xx ?_
     exact⟨rfl,h9,v9,hp9,hx9,hu9,rfl,zg0⟩
    ·have d1:=decide_eq_false qs
     rw[if_neg (by unfold emB;rw[d1];decide)] at hL2
     rw[d1]
     refine Qb rfl ?_
     refine zw0 ?_
     have hlit:=Qu4 (h:=h9) (t:=K.sep) om
     unfold FW at hlit
     obtain⟨rl,h11,hcallL,hp11,hGl⟩:=hlit
     obtain⟨ql,cl,rfl⟩:=hGl.form
     have hll:(litK K.sep).length=K.sep.size:=by unfold litK;simp
     have hs0:0<K.sep.size:=by
      rcases Nat.eq_zero_or_pos K.sep.size with a|a
      ·exact absurd (emp_iff.2 a) qs
      ·exact a
     have hu11:=hu9.keep (Keep.pre (ts:=[]) hp11) (by simp)
     have hx11:=Qc hp11 hx9
     have n9:isAt v9 i9=false:=by
      cases hbb:isAt v9 i9 with
      | false=>rfl
      | true=>
        obtain⟨ver2,h5⟩:=hu9.obj hbb
        rw[hx9] at h5
        simp only[Option.some.injEq,HObj.arr.injEq] at h5
        exact absurd h5.2.2.2 (by decide)
     obtain⟨p12,c12,h12,honeL,k2,k1,k3⟩:=Qqz (t:=61) kr ti65 (by decide) rfl hu11 (hp9.trans hp11) (by rw[Qcw]) (hGl.sl (b:=40) om) (by rw[Qcw]) om (by simp only;omega) om
     have hx12:=k3 _ _ n9 hx11
     have hk11:=Qc hp11 hk9
     obtain⟨v12,hv12⟩:∃ v,v=Value.slice p12 (L1.length+(litK K.sep).length) c12:=⟨_,rfl⟩
     have hvc12:Zg 1 v12=some [v12]:=by rw[hv12];rfl
     rw[← hv12] at k2 honeL
     refine Qi [(1,.val (.pointer (some ⟨i1,0,some 0⟩))),(6,.val (.pointer (some ⟨i6,0,some 0⟩))),(7,.val (i64 (ntL d K:Int))),(8,.box [i64 PK.nt,u64 PK.set.a,u64 PK.set.b,u64 PK.set.c,u64 PK.set.d]),(9,.val (.pointer (some ⟨i9,0,some 0⟩))),(10,.val (.func (.func 100) #[] #[.pointer (some ⟨i6,0,some 0⟩),.pointer (some ⟨i1,0,some 0⟩),.pointer (some ⟨i9,0,some 0⟩)])),(39,.val (.slice (some ⟨id,0,some ver⟩) (Xe d.prods).length co)),(40,.val (i64 (Xe d.prods).length)),(41,.val (i64 k))] zg0 ?_
     show CW _ _ ⟨_,[],h9⟩ _
     try apply zs
     apply Xd (L:=[[],[],[1],[1,2],[0,1,2,3],[0,1,2,3,4]]) (act:=[3,4,5]) (hs:=[h11,h12,h12.set i9 (.arr [v12] 0 true 61)]) (resL:=[_,_,_,_,_,_]) (frF:=[(1,.val (.pointer (some ⟨i1,0,some 0⟩))),(6,.val (.pointer (some ⟨i6,0,some 0⟩))),(7,.val (i64 (ntL d K:Int))),(8,.box [i64 PK.nt,u64 PK.set.a,u64 PK.set.b,u64 PK.set.c,u64 PK.set.d]),(9,.val (.pointer (some ⟨i9,0,some 0⟩))),(10,.val (.func (.func 100) #[] #[.pointer (some ⟨i6,0,some 0⟩),.pointer (some ⟨i1,0,some 0⟩),.pointer (some ⟨i9,0,some 0⟩)])),(39,.val (.slice (some ⟨id,0,some ver⟩) (Xe d.prods).length co)),(40,.val (i64 (Xe d.prods).length)),(41,.val (i64 k))])
     case hm=>exact Qq
     case hc=>kernel_rfl
     case ha=>rfl
     case hb=>rfl
     case hS=>
      refine za4 hx9 hx11 hk9 hk11 ?_
      apply StepsA.cons
      ·rfl
      ·refine⟨?_,trivial⟩
       exact Yu (args:=[.string K.sep]) (cap:=[]) (fn:=Tryz.f101) zf0 rfl zf0 zf0 Tryz.func101 kr kr hcallL
      ·rfl
      apply StepsA.cons
      ·rfl
      ·refine⟨?_,trivial⟩
       exact honeL _ _ _ _ _ rfl zf0 rfl zf0 zf0
      ·rfl
      apply StepsA.cons
      ·rfl
      ·refine⟨?_,trivial⟩
       exact One.stoH (r:=.sl .unk) (v:=v12) (vs:=[v12]) (cells':=[v12]) zf0 rfl zf0 zf0 hx12 zf0 hvc12 rfl rfl
      ·rfl
      exact StepsA.nil _
     case ht=>rfl
     case hF=>exact zh
     show CW _ _ _ _
     have hx13:(h12.set i9 (.arr [v12] 0 true 61))[i9]? = some (.arr [v12] 0 true 61):=Qh hx12
     have hp13:h6 <+: h12.set i9 (.arr [v12] 0 true 61):=Xa k1 hl9
     have hu13:Grow h6 (h12.set i9 (.arr [v12] 0 true 61)) v12 (L1++litK K.sep).length ((L1++litK K.sep).flatMap KSym.cells) 65:=by
      rw[List.length_append,List.flatMap_append]
      exact k2.keep (Keep.set hx12) (by decide)
     generalize (h12.set i9 (HObj.arr [v12] 0 true 61))=h13 at hx13 hp13 hu13 ⊢
     refine zw0 ?_
     refine zc (f:=100) (cap:=[.pointer (some ⟨i6,0,some 0⟩),.pointer (some ⟨i1,0,some 0⟩),.pointer (some ⟨i9,0,some 0⟩)]) (args:=[]) (fn:=Tryz.f100) zf0 Tryz.func100 kr kr ?_
     refine (Qmm (ha:=h6) (l:=L1++litK K.sep) hp13 hl9 hgp M6.o hk6 hx6 hx13 hu13 (by rw[List.length_append];omega)).mono ?_
     rintro _ h14 ⟨rfl,hp14,v14,hx14,hu14⟩
     refine zw0 ?_
     refine⟨rfl,h14,v14,hp14,hx14,?_,rfl,zg0⟩
     rw[hL2,← List.append_assoc]
     exact hu14
   rintro e s' ⟨rfl,h10,v10,hp10,hx10,hu10,hh,hf⟩
   show CW _ _ _ _
   refine Qi _ hf ?_
   rw[hh]
   clear hf hh s'
   have hx1':=Qc hp10 hx6
   have hL2l:L2.length≤100:=by
    rw[hL2,List.length_append]
    have:(litK K.sep).length=K.sep.size:=by unfold litK;simp
    split
    ·simp;omega
    ·rw[List.length_append];omega
   obtain⟨q10,c10,rfl⟩:=hu10.form
   obtain⟨p11,c11,h11,hone,k1,k2,k3,k4,k5⟩:=Qbh (cs:=KSym.cells PK) (t:=61) kr ti65 (by decide) rfl hu10 hp10 (by rw[Qcw]) rfl (by simp only;omega) om
   have hML:Qj8 d K=L2++[PK]:=hmore
   have hx1'':=Qc k2 hx6
   have hr11:=Qcu (M6.pre k2) (lhs:=(ntL d K:Int)) (kd:=2) (pr:=0) (mk:=0) (ur:=.slice p11 (L2.length+1) c11) (rhs:=Qj8 d K) (os:=[]) (uo:=nilS) (by
    rw[hML,List.length_append,List.flatMap_append,List.flatMap_singleton]
    exact k1.base M6.p) Grow.nil (by rw[List.length_append,List.length_singleton];omega)
   unfold FW at hr11
   obtain⟨r12,h12,hcall,rfl,vr12,vf12,M12,K12⟩:=hr11
   refine Qi [(1,.val (.pointer (some ⟨i1,0,some 0⟩))),(7,.val (i64 (ntL d K:Int))),(8,.box [i64 PK.nt,u64 PK.set.a,u64 PK.set.b,u64 PK.set.c,u64 PK.set.d]),(9,.val (.pointer (some ⟨i9,0,some 0⟩))),(39,.val (.slice (some ⟨id,0,some ver⟩) (Xe d.prods).length co)),(40,.val (i64 (Xe d.prods).length)),(41,.val (i64 k))] zg0 ?_
   show CW _ _ ⟨_,[],h10⟩ _
   apply Xd (L:=[[],[],[],[],[3],[2,3,4],[],[0,1,2,3,4,5,6]]) (act:=[5,7]) (hs:=[h11,h12]) (resL:=[_,_,_,_,_,_,_,_]) (frF:=[(1,.val (.pointer (some ⟨i1,0,some 0⟩))),(39,.val (.slice (some ⟨id,0,some ver⟩) (Xe d.prods).length co)),(40,.val (i64 (Xe d.prods).length)),(41,.val (i64 k))])
   case hm=>exact Qq
   case hc=>kernel_rfl
   case ha=>rfl
   case hb=>rfl
   case hS=>
    refine za3 hx1' hx1'' hx10 ?_
    apply StepsA.cons
    ·rfl
    ·refine⟨?_,trivial⟩
     exact hone _ _ _ _ _ rfl zf0 rfl zf0 zf0
    ·rfl
    refine za3 hx1' hx1'' hx10 ?_
    apply StepsA.cons
    ·rfl
    ·refine⟨?_,trivial⟩
     exact Yu (args:=[.pointer (some ⟨im,0,some 0⟩),i64 (ntL d K:Int),.slice p11 (L2.length+1) c11,.agg #[i64 2,i64 0,i64 0,nilS]]) (cap:=[]) (fn:=Tryz.f98) zf0 rfl zf0 zf0 Tryz.func98 kr kr hcall
    ·rfl
    exact StepsA.nil _
   case ht=>rfl
   case hF=>exact zh
   show CW _ _ _ _
   refine zw1 w2 ?_
   refine⟨hlt,(h12,vr12,vf12),zg0,rfl,⟨?_,(K6'.trans (Keep.pre k2)).trans K12⟩⟩
   rw[htk,← List.append_assoc,hLL]
   unfold rosK
   rw[hPK]
   have e:L++[((⟨(ntL d K:Int),[PK]⟩,⟨1,0,0,[]⟩):Rule×Org),(⟨(ntL d K:Int),Qj8 d K⟩,⟨2,0,0,[]⟩)]=(L++[(⟨(ntL d K:Int),[PK]⟩,⟨1,0,0,[]⟩)])++[(⟨(ntL d K:Int),Qj8 d K⟩,⟨2,0,0,[]⟩)]:=by simp
   rw[e]
   exact M12
  ·have e3:=Qu hlt
   obtain rfl:k=(Xe d.prods).length:=by omega
   rw[List.take_length] at J
   simp only
   refine zw1 e3 ?_
   refine Qa rfl ?_
   refine Qj ?_
   exact⟨rfl,(hc,vr,vf),J,rfl,zg0⟩
 clear hob2 hx2 I
 rintro e s' ⟨rfl,⟨hz,vr,vf⟩,I,hh,hf⟩
 show CW _ _ _ _
 refine Qi _ hf ?_
 rw[hh]
 clear hf hh s'
 obtain⟨L,hL⟩:∃ L,L=rosN d d.prods.length++Qbm d (Xe d.prods):=⟨_,rfl⟩
 rw[← hL] at I
 have hLl:L.length≤10000:=by rw[hL,List.length_append,Qga];omega
 have hros:ros d=L++rosT d:=by rw[hL];rfl
 have MZ:=I.M
 have KZ:=I.K
 simp only at MZ KZ ⊢
 have hxz:=KZ _ _ hx1 (Yy (by decide))
 have SZ:=SB.keep KZ
 have hsm:=SZ.sm
 have hg:=SZ.sg _ G.st
 have hgp:=SZ.gp
 have hkk:=Xh es
 have obz:=MZ.o
 simp only[MK.cells,hs1,hs2,hst] at obz
 show CW _ _ ⟨_,[],hz⟩ _
 apply zs
 apply Qpu (L:=[[],[0],[0,1],[0,1,2],[0,1,2,3],[0,1,2,3,4],[],[6],[6,7],[6,7,8],[],[10],[10,11],[10,11,12],[10,11,12,13],[10,11,12,13,14],[6,7,8,9,10,11,12,13,14,15],[6,7,8,9,10,11,12,13,14,15,16],[],[0,1,2,3,4,5],[6,7,8,9,10,11,12,13,14,15,16,17,18]]) (act:=[]) (hs:=[]) (resL:=[_,_,_,_,_,_,_,_,_,_,_,_,_,_,_,_,_,_,_,_,.sl .unk]) (frF:=[(1,.val (.pointer (some ⟨i1,0,some 0⟩))),(11,.val (i64 (topN d:Int))),(12,.box (KSym.cells (ntK (ntS d d.start))))]) (a:=18) (st:=20) (d:=12) (cs':=KSym.cells (ntK (ntS d d.start)))
 case hm=>exact Qq
 case hc=>kernel_rfl
 case ha=>rfl
 case hb=>rfl
 case hfree=>rfl
 case hna=>rfl
 case hanc=>rfl
 case ho=>rfl
 case hop=>rfl
 case hod=>rfl
 case hda=>rfl
 case hS1=>
  refine za5 hxz obz hsm hg hkk ?_
  apply StepsA.cons
  ·rfl
  ·refine⟨?_,trivial⟩
   exact Xb (fn:=Tryz.f99) (args:=[i64 ((ntS d d.start:Nat))]) (cap:=[]) rfl zf0 rfl zf0 zf0 Tryz.func99 kr kr nt_fw
  ·rfl
  exact ze0
 case hS2=>exact ze0
 case hra=>rfl
 case hti=>exact ti65
 case hw=>intro H;exact zf0
 case hp=>intro H;exact (by simp only[push_cast,env,Nat.reduceEqDiff,reduceIte,plc,eget]<;>exact rfl)
 case hbx=>intro H;exact zf0
 case hv=>intro H;exact zf0
 case hvs=>rfl
 case hwr=>rfl
 case ht=>rfl
 case hF=>exact zh
 show CW _ _ _ _
 cases hem:emB d.layout with
 | true=>
   have dg:decide (m.gap<0)=true:=by rw[hgp];unfold gapN;rw[if_pos hem];rfl
   have hT:rosT d=[(⟨topN d,[ntK (ntS d d.start)]⟩,⟨5,0,0,[]⟩)]:=by unfold rosT;rw[if_pos hem]
   refine zw3 hxz obz dg ?_
   refine Qb rfl ?_
   refine zu ?_
   iterate 3 (refine zx (zp1 hxz) ?_)
   refine Yi (t:=65) (cs:=KSym.cells (ntK (ntS d d.start))) (n:=1) zf0 kr ?_
   dsimp only[St.putO,St.put]
   have hp5:hz <+: hz++[HObj.arr (KSym.cells (ntK (ntS d d.start))) 0 true 65]:=Qo
   have hu5:Grow hz (hz++[HObj.arr (KSym.cells (ntK (ntS d d.start))) 0 true 65]) (.slice (some ⟨hz.length,0,some 0⟩) 1 1) 1 (KSym.cells (ntK (ntS d d.start))) 65:=.inr ⟨hz.length,0,Nat.le_refl _,rfl,Qp⟩
   generalize (hz++[HObj.arr (KSym.cells (ntK (ntS d d.start))) 0 true 65])=h5 at hp5 hu5 ⊢
   generalize hz.length=i5 at hu5 ⊢
   refine zw0 ?_
   refine zj Tryz.func98 ?_
   have hr5:=Qcu (MZ.pre hp5) (lhs:=(topN d:Int)) (kd:=5) (pr:=0) (mk:=0) (rhs:=[ntK (ntS d d.start)]) (os:=[]) (uo:=nilS) (by simp only[List.flatMap_cons,List.flatMap_nil,List.append_nil];exact hu5.base MZ.p) Grow.nil om
   refine hr5.mono ?_
   rintro _ h6 ⟨rfl,vr6,vf6,M6,K6⟩
   refine zw0 ?_
   refine Qd ?_
   refine⟨_,zf0,rfl,vr6,vf6,?_,(KA.trans KZ).trans ((Keep.pre hp5).trans K6)⟩
   rw[hros,hT]
   exact M6
 | false=>
   have hgn:gapN d=((nS d+nK d:Nat):Int):=by unfold gapN;rw[if_neg (by rw[hem];decide)]
   have dg:decide (m.gap<0)=false:=by rw[hgp,hgn];exact decide_eq_false om
   have hT:rosT d=[(⟨gapN d,[]⟩,⟨3,0,0,[]⟩),(⟨gapN d,[ntK (gapN d),ntK (ntS d d.layout)]⟩,⟨4,0,0,[]⟩),(⟨topN d,[ntK (gapN d),ntK (ntS d d.start),ntK (gapN d)]⟩,⟨5,0,0,[]⟩)]:=by unfold rosT;rw[if_neg (by rw[hem];decide)]
   have hly:=G.ly.resolve_left (by rw[hem];decide)
   refine zw3 hxz obz dg ?_
   refine Qa rfl ?_
   rw[hgp] at obz
   refine zw0 ?_
   refine Qt 6 Qq kr ?_
   refine zw2 hxz obz ?_
   refine zj Tryz.func98 ?_
   have hr5:=Qcu MZ (lhs:=gapN d) (kd:=3) (pr:=0) (mk:=0) (rhs:=[]) (os:=[]) (ur:=nilS) (uo:=nilS) Grow.nil Grow.nil om
   refine hr5.mono ?_
   rintro _ h6 ⟨rfl,vr6,vf6,M6,K6⟩
   have KZ6:=KZ.trans K6
   have hx6:=KZ6 _ _ hx1 (Yy (by decide))
   have S6:=SB.keep KZ6
   have hsm6:=S6.sm
   have hg6:=S6.sg _ hly
   have ob6:=M6.o
   simp only[MK.cells,hs1,hs2,hst,hgp] at ob6
   have hp7:h6 <+: h6++[HObj.arr (KSym.cells (ntK (gapN d))++KSym.cells (ntK (ntS d d.layout))) 0 true 65]:=Qo
   have hu7:Grow h6 (h6++[HObj.arr (KSym.cells (ntK (gapN d))++KSym.cells (ntK (ntS d d.layout))) 0 true 65]) (.slice (some ⟨h6.length,0,some 0⟩) 2 2) 2 (KSym.cells (ntK (gapN d))++KSym.cells (ntK (ntS d d.layout))) 65:=.inr ⟨h6.length,0,Nat.le_refl _,rfl,Qp⟩
   have hr7:=Qcu (M6.pre hp7) (lhs:=gapN d) (kd:=4) (pr:=0) (mk:=0) (rhs:=[ntK (gapN d),ntK (ntS d d.layout)]) (os:=[]) (uo:=nilS) (by simp only[List.flatMap_cons,List.flatMap_nil,List.append_nil];exact hu7.base M6.p) Grow.nil (by rw[List.length_append,List.length_singleton];omega)
   unfold FW at hr7
   obtain⟨r8,h8,hcall8,rfl,vr8,vf8,M8,K8⟩:=hr7
   have hx7:=Qc hp7 hx6
   have ob7:=Qc hp7 ob6
   have hsm7:=Qc hp7 hsm6
   refine zw0 ?_
   refine Qi [(1,.val (.pointer (some ⟨i1,0,some 0⟩))),(11,.val (i64 (topN d:Int))),(12,.box (KSym.cells (ntK (ntS d d.start))))] zg0 ?_
   show CW _ _ ⟨_,[],h6⟩ _
   try apply zs
   apply Xd (L:=[[],[],[1],[1,2],[1,2,3],[],[5],[5,6],[5,6,7],[5,6,7,8],[],[10],[10,11],[10,11,12],[],[14],[14,15],[14,15,16],[14,15,16,17],[14,15,16,17,18],[10,11,12,13,14,15,16,17,18,19],[10,11,12,13,14,15,16,17,18,19,20],[5,6,7,8,9,10,11,12,13,14,15,16,17,18,19,20,21],[],[0,1,2,3,4,5,6,7,8,9,10,11,12,13,14,15,16,17,18,19,20,21,22,23]]) (act:=[22,24]) (hs:=[h6++[HObj.arr (KSym.cells (ntK (gapN d))++KSym.cells (ntK (ntS d d.layout))) 0 true 65],h8]) (resL:=[_,_,_,_,_,_,_,_,_,_,_,_,_,_,_,_,_,_,_,_,_,_,_,_,_]) (frF:=[(1,.val (.pointer (some ⟨i1,0,some 0⟩))),(11,.val (i64 (topN d:Int))),(12,.box (KSym.cells (ntK (ntS d d.start))))])
   case hm=>exact Qq
   case hc=>kernel_rfl
   case ha=>rfl
   case hb=>rfl
   case hS=>
    refine za8 hx6 ob6 hx7 ob7 hsm6 hsm7 hg6 hkk ?_
    apply StepsA.cons
    ·rfl
    ·refine⟨?_,trivial⟩
     exact Xb (fn:=Tryz.f99) (args:=[i64 (gapN d)]) (cap:=[]) rfl zf0 rfl zf0 zf0 Tryz.func99 kr kr nt_fw
    ·rfl
    refine za8 hx6 ob6 hx7 ob7 hsm6 hsm7 hg6 hkk ?_
    apply StepsA.cons
    ·rfl
    ·refine⟨?_,trivial⟩
     exact Xb (fn:=Tryz.f99) (args:=[i64 ((ntS d d.layout:Nat))]) (cap:=[]) rfl zf0 rfl zf0 zf0 Tryz.func99 kr kr nt_fw
    ·rfl
    apply StepsA.cons
    ·rfl
    ·refine⟨?_,trivial⟩
     exact Qfz (h:=h6) (n:=2) (t:=65) (cs:=KSym.cells (ntK (gapN d))++KSym.cells (ntK (ntS d d.layout))) rfl zf0 kr
    ·rfl
    refine za0 ?_
    apply StepsA.cons
    ·rfl
    ·refine⟨?_,trivial⟩
     exact Yu (args:=[.pointer (some ⟨im,0,some 0⟩),i64 (gapN d),.slice (some ⟨h6.length,0,some 0⟩) 2 2,.agg #[i64 4,i64 0,i64 0,nilS]]) (cap:=[]) (fn:=Tryz.f98) zf0 rfl zf0 zf0 Tryz.func98 kr kr hcall8
    ·rfl
    exact StepsA.nil _
   case ht=>rfl
   case hF=>exact zh
   show CW _ _ _ _
   have KZ8:=(KZ6.trans (Keep.pre hp7)).trans K8
   have hx8:=KZ8 _ _ hx1 (Yy (by decide))
   have ob8:=M8.o
   simp only[MK.cells,hs1,hs2,hst,hgp] at ob8
   have hp9:h8 <+: h8++[HObj.arr (KSym.cells (ntK (gapN d))++KSym.cells (ntK (ntS d d.start))++KSym.cells (ntK (gapN d))) 0 true 65]:=Qo
   have hu9:Grow h8 (h8++[HObj.arr (KSym.cells (ntK (gapN d))++KSym.cells (ntK (ntS d d.start))++KSym.cells (ntK (gapN d))) 0 true 65]) (.slice (some ⟨h8.length,0,some 0⟩) 3 3) 3 (KSym.cells (ntK (gapN d))++KSym.cells (ntK (ntS d d.start))++KSym.cells (ntK (gapN d))) 65:=.inr ⟨h8.length,0,Nat.le_refl _,rfl,Qp⟩
   have hr9:=Qcu (M8.pre hp9) (lhs:=(topN d:Int)) (kd:=5) (pr:=0) (mk:=0) (rhs:=[ntK (gapN d),ntK (ntS d d.start),ntK (gapN d)]) (os:=[]) (uo:=nilS) (by simp only[List.flatMap_cons,List.flatMap_nil,List.append_nil];rw[← List.append_assoc];exact hu9.base M8.p) Grow.nil (by rw[List.length_append,List.length_append,List.length_singleton,List.length_singleton];omega)
   unfold FW at hr9
   obtain⟨r10,h10,hcall10,rfl,vr10,vf10,M10,K10⟩:=hr9
   have hx9:=Qc hp9 hx8
   have ob9:=Qc hp9 ob8
   refine Qi [(1,.val (.pointer (some ⟨i1,0,some 0⟩))),(11,.val (i64 (topN d:Int))),(12,.box (KSym.cells (ntK (ntS d d.start))))] zg0 ?_
   show CW _ _ ⟨_,[],h8⟩ _
   try apply zs
   apply Xd (L:=[[],[],[],[2],[2,3],[2,3,4],[2,3,4,5],[],[],[8],[8,9],[8,9,10],[8,9,10,11],[2,3,4,5,6,7,8,9,10,11,12],[],[0,1,2,3,4,5,6,7,8,9,10,11,12,13,14]]) (act:=[13,15]) (hs:=[h8++[HObj.arr (KSym.cells (ntK (gapN d))++KSym.cells (ntK (ntS d d.start))++KSym.cells (ntK (gapN d))) 0 true 65],h10]) (resL:=[_,_,_,_,_,_,_,_,_,_,_,_,_,_,_,_]) (frF:=[])
   case hm=>exact Qq
   case hc=>kernel_rfl
   case ha=>rfl
   case hb=>rfl
   case hS=>
    refine za4 hx8 ob8 hx9 ob9 ?_
    apply StepsA.cons
    ·rfl
    ·refine⟨?_,trivial⟩
     exact Xb (fn:=Tryz.f99) (args:=[i64 (gapN d)]) (cap:=[]) rfl zf0 rfl zf0 zf0 Tryz.func99 kr kr nt_fw
    ·rfl
    refine za4 hx8 ob8 hx9 ob9 ?_
    apply StepsA.cons
    ·rfl
    ·refine⟨?_,trivial⟩
     exact Xb (fn:=Tryz.f99) (args:=[i64 (gapN d)]) (cap:=[]) rfl zf0 rfl zf0 zf0 Tryz.func99 kr kr nt_fw
    ·rfl
    apply StepsA.cons
    ·rfl
    ·refine⟨?_,trivial⟩
     exact Qfz (h:=h8) (n:=3) (t:=65) (cs:=KSym.cells (ntK (gapN d))++KSym.cells (ntK (ntS d d.start))++KSym.cells (ntK (gapN d))) rfl zf0 kr
    ·rfl
    refine za0 ?_
    apply StepsA.cons
    ·rfl
    ·refine⟨?_,trivial⟩
     exact Yu (args:=[.pointer (some ⟨im,0,some 0⟩),i64 (topN d:Int),.slice (some ⟨h8.length,0,some 0⟩) 3 3,.agg #[i64 5,i64 0,i64 0,nilS]]) (cap:=[]) (fn:=Tryz.f98) zf0 rfl zf0 zf0 Tryz.func98 kr kr hcall10
    ·rfl
    exact StepsA.nil _
   case ht=>rfl
   case hF=>exact zh
   refine⟨_,zf0,rfl,vr10,vf10,?_,(KA.trans KZ8).trans ((Keep.pre hp9).trans K10)⟩
   rw[hros,hT]
   have e:L++[((⟨gapN d,[]⟩,⟨3,0,0,[]⟩):Rule×Org),(⟨gapN d,[ntK (gapN d),ntK (ntS d d.layout)]⟩,⟨4,0,0,[]⟩),(⟨topN d,[ntK (gapN d),ntK (ntS d d.start),ntK (gapN d)]⟩,⟨5,0,0,[]⟩)]=((L++[(⟨gapN d,[]⟩,⟨3,0,0,[]⟩)])++[(⟨gapN d,[ntK (gapN d),ntK (ntS d d.layout)]⟩,⟨4,0,0,[]⟩)])++[(⟨topN d,[ntK (gapN d),ntK (ntS d d.start),ntK (gapN d)]⟩,⟨5,0,0,[]⟩)]:=by simp
   rw[e]
   exact M10
end
theorem Xf {all:Array Oper} {o:Oper} {s:St} {h h':Heap} {t et:TypeId} {a x:Operand} {ti:TI} {id off ver:Nat} {cells vs cells':List Value} {v:Value} {r:Res} (hh:s.h=h) (hw:Ql all o s=some true) (ho:o.op = .store t a x) (ht:Qf env.P t=some ti) (ha:ev s a=some (.pointer (some ⟨id,off,some ver⟩))) (hid:h[id]? = some (.arr cells ver true et)) (hx:ev s x=some v) (hv:Zg ti.size v=some vs)
 (hq:wrC cells off vs=some cells') (hd:o.dst=none) (he:h'=h.set id (HObj.arr cells' ver true et)):One env all o s r h':=by
 subst hh he
 exact .stoH hw ho ht ha hid hx hv hq hd
structure BanE where
 rule:Nat
 dot:Nat
 frm:Nat
 deriving DecidableEq
def BanE.cells (x:BanE):List Value:=[i64 x.rule,i64 x.dot,i64 x.frm]
abbrev BanE.val (x:BanE):Value:=.agg #[i64 x.rule,i64 x.dot,i64 x.frm]
def cmpI (x y:BanE):Int:=if x.rule≠y.rule then (x.rule:Int)-y.rule else if x.dot≠y.dot then (x.dot:Int)-y.dot else (x.frm:Int)-y.frm
def ltI (x y:BanE):Bool:=decide (cmpI x y<0)
def ItB (x:BanE):Prop:=x.rule≤1000000∧x.dot≤1000000∧x.frm≤1000000
theorem Qp0 {x y:BanE}:ltI x y=true↔x.rule<y.rule∨x.rule=y.rule∧(x.dot<y.dot∨x.dot=y.dot∧x.frm<y.frm):=by
 unfold ltI cmpI
 rw[decide_eq_true_eq]
 by_cases h1:x.rule=y.rule
 ·rw[if_neg om]
  by_cases h2:x.dot=y.dot
  ·rw[if_neg om]
   omega
  ·rw[if_pos h2]
   omega
 ·rw[if_pos h1]
  omega
theorem Qhb {x y:BanE}:ltI x y=false↔¬ (x.rule<y.rule∨x.rule=y.rule∧(x.dot<y.dot∨x.dot=y.dot∧x.frm<y.frm)):=by
 rw[← Qp0,Bool.not_eq_true]
theorem ltI_swo:Go.Sort.SWO ltI:=by
 refine⟨fun x=>?_,fun x y z h1 h2=>?_,fun x y z h1 h2=>?_⟩
 ·rw[Qhb];omega
 ·rw[Qp0] at *;omega
 ·rw[Qhb] at *;omega
theorem Qs7 {x y:BanE} (h1:ltI x y=false) (h2:ltI y x=false):x=y:=by
 rw[Qhb] at h1 h2
 cases x;cases y
 simp only[BanE.mk.injEq]
 simp only at h1 h2
 omega
set_option maxHeartbeats 1000000 in
theorem Xm {h:Heap} {x y:BanE} (hx:ItB x) (hy:ItB y):FW env 104 [x.val,y.val] h fun r h'=>r=i64 (cmpI x y)∧h'=h:=by
 obtain⟨x1,x2,x3⟩:=hx
 obtain⟨y1,y2,y3⟩:=hy
 have e1:IntKind.i64.wrap ((x.rule:Int)-y.rule)=(x.rule:Int)-y.rule:=Qg om om
 have e2:IntKind.i64.wrap ((x.dot:Int)-y.dot)=(x.dot:Int)-y.dot:=Qg om om
 have e3:IntKind.i64.wrap ((x.frm:Int)-y.frm)=(x.frm:Int)-y.frm:=Qg om om
 refine fe Tryz.func104 ?_;simp only[push_cast]
 by_cases h1:x.rule=y.rule
 ·have d1:decide ((x.rule:Int)=(y.rule:Int))=true:=decide_eq_true om
  refine zw1 d1 ?_
  refine Qa rfl ?_
  by_cases h2:x.dot=y.dot
  ·have d2:decide ((x.dot:Int)=(y.dot:Int))=true:=decide_eq_true om
   refine zw1 d2 ?_
   refine Qa rfl ?_
   refine zw1 e3 ?_
   refine Qd ?_
   exact⟨_,zf0,by unfold cmpI;rw[if_neg om,if_neg om];rfl,rfl⟩
  ·have d2:decide ((x.dot:Int)=(y.dot:Int))=false:=decide_eq_false om
   refine zw1 d2 ?_
   refine Qb rfl ?_
   refine zw1 e2 ?_
   refine Qd ?_
   exact⟨_,zf0,by unfold cmpI;rw[if_neg om,if_pos h2];rfl,rfl⟩
 ·have d1:decide ((x.rule:Int)=(y.rule:Int))=false:=decide_eq_false om
  refine zw1 d1 ?_
  refine Qb rfl ?_
  refine zw1 e1 ?_
  refine Qd ?_
  exact⟨_,zf0,by unfold cmpI;rw[if_pos h1];rfl,rfl⟩
instance:Inhabited BanE:=⟨⟨0,0,0⟩⟩
abbrev Qs:Value:=.func (.func 104) #[] #[]
def IC (d:Array BanE):List Value:=d.toList.flatMap BanE.cells
structure DA (h:Heap) (id ver:Nat) (d:Array BanE):Prop where
 g:h[id]? = some (.arr (IC d) ver true 70)
 n:d.size≤1000000000
 b:∀ i,i<d.size→ItB d[i]!
theorem Xk {d:Array BanE} {i:Nat} (hi:i<d.size):rdH (IC d) (i*3) 3=some [i64 d[i]!.rule,i64 d[i]!.dot,i64 d[i]!.frm]:=by
 have h1:d.toList[i]? = some d[i]!:=by simp [hi]
 exact Xs (f:=BanE.cells) (k:=3) (fun _=>rfl) d.toList i d[i]! h1
theorem Yd {d:Array BanE} {i:Nat} {x:BanE} (hi:i<d.size):wrC (IC d) (i*3) [i64 x.rule,i64 x.dot,i64 x.frm]=some (IC (d.setIfInBounds i x)):=by
 have:=Qp1 (f:=BanE.cells) (k:=3) (fun _=>rfl) (l:=d.toList) (i:=i) (x:=x) (by simpa using hi)
 unfold IC
 rw[Array.toList_setIfInBounds]
 exact this
theorem Yt {d:Array BanE} {i j:Nat}:(Go.Sort.swp d i j).size=d.size:=by unfold Go.Sort.swp;simp
theorem Xe8 {d:Array BanE} {i j:Nat} (hi:i<d.size) (hj:j<d.size) (h:∀ k,k<d.size→ItB d[k]!):∀ k,k<(Go.Sort.swp d i j).size→ItB (Go.Sort.swp d i j)[k]!:=fun k hk=>by
 rw[Yt] at hk
 unfold Go.Sort.swp
 rw[getElem!_pos _ _ (by simpa using hk)]
 simp only[Array.getElem_setIfInBounds,Array.size_setIfInBounds,hk]
 split
 ·exact h i hi
 ·split
  ·exact h j hj
  ·rw[← getElem!_pos d k hk];exact h k hk
theorem DA.swp {h:Heap} {id ver:Nat} {d:Array BanE} (D:DA h id ver d) {i j:Nat} (hi:i<d.size) (hj:j<d.size):DA (h.set id (.arr (IC (Go.Sort.swp d i j)) ver true 70)) id ver (Go.Sort.swp d i j):=
 ⟨Qh D.g,by rw[Yt];exact D.n,Xe8 hi hj D.b⟩
theorem Jm {h:Heap} {i:Nat} {x:HObj} (g:h[i]? = some x):h.set i x=h:=by
 obtain⟨h1,h2⟩:=List.getElem?_eq_some_iff.1 g
 rw[← h2]
 exact List.set_getElem_self h1
theorem set_set_heap {h:Heap} {i:Nat} {x y:HObj}:(h.set i x).set i y=h.set i y:=List.set_set ..
set_option maxHeartbeats 8000000 in
theorem Qk9 {h:Heap} {id ver c a b:Nat} {d:Array BanE} (D:DA h id ver d) (hab:a≤b) (hb:b≤d.size) :
 FW env 180 [.slice (some ⟨id,0,some ver⟩) d.size c,i64 a,i64 b,Qs] h fun r h'=>r = .tuple #[]∧h'=h.set id (.arr (IC (Go.Sort.insertionSort ltI d a b)) ver true 70)∧DA h' id ver (Go.Sort.insertionSort ltI d a b)∧(Go.Sort.insertionSort ltI d a b).size=d.size:=by
 have hn:=D.n
 have e1:IntKind.i64.wrap ((a:Int)+1)=((a+1:Nat):Int):=by rw[Qg om om];omega
 refine fe Tryz.func180 ?_;simp only[push_cast]
 refine zw1 e1 ?_
 refine Jh (fun x:Nat×Array BanE×Heap=>d.size+2-x.1) (fun x=>[(0,.val (.slice (some ⟨id,0,some ver⟩) d.size c)),(1,.val (i64 a)),(2,.val (i64 b)),(3,.val Qs),(8,.val (i64 x.1))]) (fun x=>x.2.2)
  (fun x=>a<x.1∧(x.1≤b∨x.1=a+1)∧x.2.1.size=d.size∧x.2.2=h.set id (.arr (IC x.2.1) ver true 70)∧DA x.2.2 id ver x.2.1∧Go.Sort.insOuter ltI a b x.1 x.2.1=Go.Sort.insertionSort ltI d a b) (a+1,d,h) zg0 rfl ⟨by simp only;omega,.inr rfl,rfl,(Jm D.g).symm,D,rfl⟩ ?_
 rintro⟨i,dc,hc⟩ ⟨h1,h2,h3,h4,D1,h5⟩
 simp only at h1 h2 h3 h4 D1 h5 ⊢
 have e2:IntKind.i64.wrap ((i:Int)+1)=(i:Int)+1:=Qg om om
 by_cases hlt:i<b
 ·have e3:=Qv hlt
  have hstep:Go.Sort.insOuter ltI a b i dc=Go.Sort.insOuter ltI a b (i+1) (Go.Sort.insInner ltI a i dc):=by rw[Go.Sort.insOuter,if_pos hlt]
  refine zw1 e3 ?_
  refine Qb rfl ?_
  refine zw0 ?_
  refine Jh (fun y:Nat×Array BanE×Heap=>y.1) (fun y=>[(0,.val (.slice (some ⟨id,0,some ver⟩) d.size c)),(1,.val (i64 a)),(2,.val (i64 b)),(3,.val Qs),(8,.val (i64 i)),(9,.val (i64 y.1))]) (fun y=>y.2.2)
   (fun y=>y.1≤i∧a≤y.1∧y.2.1.size=d.size∧y.2.2=h.set id (.arr (IC y.2.1) ver true 70)∧DA y.2.2 id ver y.2.1∧Go.Sort.insInner ltI a y.1 y.2.1=Go.Sort.insInner ltI a i dc) (i,dc,hc) zg0 rfl ⟨by simp only;omega,by simp only;omega,h3,h4,D1,rfl⟩ ?_
  rintro⟨j,dj,hj⟩ ⟨k1,k2,k3,k4,D2,k5⟩
  simp only at k1 k2 k3 k4 D2 k5 ⊢
  have hg:=D2.g
  by_cases hja:a<j
  ·obtain⟨q,rfl⟩:∃ q,j=q+1:=⟨j-1,by omega⟩
   have d4:decide ((a:Int)<((q+1:Nat):Int))=true:=decide_eq_true om
   have e5:IntKind.i64.wrap (((q+1:Nat):Int)-1)=(q:Int):=by rw[Qg om om];omega
   have hq1:q+1<dj.size:=by omega
   have hq0:q<dj.size:=by omega
   have g1:=Xk hq1
   have g0:=Xk hq0
   have b1:=D2.b _ hq1
   have b0:=D2.b _ hq0
   have r1:=rng (k:=q+1) (n:=d.size) om
   have r0:=rng (k:=q) (n:=d.size) om
   have hun:Go.Sort.insInner ltI a (q+1) dj=if (decide (q+1 > a)&&ltI dj[q+1]! dj[q]!)=true then Go.Sort.insInner ltI a q (Go.Sort.swp dj (q+1) q) else dj:=rfl
   obtain⟨J,hJ⟩:∃ J,J=q+1:=⟨_,rfl⟩
   rw[← hJ] at d4 e5 g1 b1 r1 hun k5 k1 k2 hq1 ⊢
   refine zw0 ?_
   cases hl:ltI dj[J]! dj[q]! with
   | false=>
     have d7:decide (cmpI dj[J]! dj[q]! < 0)=false:=hl
     have hend:dj=Go.Sort.insInner ltI a i dc:=by rw[← k5,hun,hl];simp
     apply Xi (L:=[[],[],[0,1],[2],[3],[3],[3],[3,5,6],[3,7],[3],[3],[3,10],[3,9,11],[3,12],[3,4,8,13],[3,14],[3,15]]) (resL:=[_,_,_,_,_,_,_,_,_,_,_,_,_,_,_,_,_]) (frF:=[(0,.val (.slice (some ⟨id,0,some ver⟩) d.size c)),(1,.val (i64 a)),(2,.val (i64 b)),(3,.val Qs),(8,.val (i64 i)),(9,.val (i64 J)),(34,.val (.bool false))])
     case hm=>exact Qq
     case hc=>kernel_rfl
     case hb=>rfl
     case hS=>
      refine zl8 d4 hg g1 g0 e5 r1 r0 Nat.mul_one ?_
      apply Steps0.cons
      ·exact Xb (fn:=Tryz.f104) (args:=[dj[J]!.val,dj[q]!.val]) (cap:=[]) rfl (zf1 d4) rfl zf0 zf0 Tryz.func104 kr kr (Xm b1 b0)
      ·rfl
      exact zk2 d7 d4
     case ht=>rfl
     case hF=>exact zh
     show CW _ _ _ _
     refine zw0 ?_
     refine Qa rfl ?_
     refine Qj ?_
     show CW _ _ _ _
     refine zw1 e2 ?_
     exact⟨(i+1,dj,hj),by simp only;omega,zg0,rfl,by simp only;omega,by simp only;omega,k3,k4,D2,by simp only;rw[hend,← hstep];exact h5⟩
   | true=>
     have d7:decide (cmpI dj[J]! dj[q]! < 0)=true:=hl
     have hnx:Go.Sort.insInner ltI a q (Go.Sort.swp dj J q)=Go.Sort.insInner ltI a i dc:=by rw[← k5,hun,hl];simp [hja];omega
     apply Xi (L:=[[],[],[0,1],[2],[3],[3],[3],[3,5,6],[3,7],[3],[3],[3,10],[3,9,11],[3,12],[3,4,8,13],[3,14],[3,15]]) (resL:=[_,_,_,_,_,_,_,_,_,_,_,_,_,_,_,_,_]) (frF:=[(0,.val (.slice (some ⟨id,0,some ver⟩) d.size c)),(1,.val (i64 a)),(2,.val (i64 b)),(3,.val Qs),(8,.val (i64 i)),(9,.val (i64 J)),(34,.val (.bool true))])
     case hm=>exact Qq
     case hc=>kernel_rfl
     case hb=>rfl
     case hS=>
      refine zl8 d4 hg g1 g0 e5 r1 r0 Nat.mul_one ?_
      apply Steps0.cons
      ·exact Xb (fn:=Tryz.f104) (args:=[dj[J]!.val,dj[q]!.val]) (cap:=[]) rfl (zf1 d4) rfl zf0 zf0 Tryz.func104 kr kr (Xm b1 b0)
      ·rfl
      exact zk2 d7 d4
     case ht=>rfl
     case hF=>exact zh
     show CW _ _ _ _
     refine zw0 ?_
     refine Qb rfl ?_
     refine zw0 ?_
     refine Qi [(0,.val (.slice (some ⟨id,0,some ver⟩) d.size c)),(1,.val (i64 a)),(2,.val (i64 b)),(3,.val Qs),(8,.val (i64 i)),(9,.val (i64 J))] zg0 ?_
     show CW _ _ ⟨_,[],hj⟩ _
     apply Xd (L:=[[],[],[],[],[3],[],[],[6],[5,6,7],[5,6,7,8],[],[],[10,11],[10,11,12],[0,1],[0,1,5,6,7,8,9,10,11,12,13,14],[2,3,4],[0,1,2,3,4,5,6,7,8,9,10,11,12,13,14,15,16]]) (act:=[15,17]) (hs:=[hj.set id (.arr (IC (dj.setIfInBounds J dj[q]!)) ver true 70),hj.set id (.arr (IC (Go.Sort.swp dj J q)) ver true 70)]) (resL:=[_,_,_,_,_,_,_,_,_,_,_,_,_,_,_,_,_,_]) (frF:=[(0,.val (.slice (some ⟨id,0,some ver⟩) d.size c)),(1,.val (i64 a)),(2,.val (i64 b)),(3,.val Qs),(8,.val (i64 i)),(9,.val (i64 J))])
     case hm=>exact Qq
     case hc=>kernel_rfl
     case ha=>rfl
     case hb=>rfl
     case hS=>
      refine za7 hg g1 g0 e5 r1 r0 Nat.mul_one ?_
      apply StepsA.cons
      ·rfl
      ·refine⟨?_,trivial⟩
       exact Xf (r:=.sl .unk) rfl zf0 rfl zf0 zf0 hg zf0 rfl (Yd hq1) rfl rfl
      ·rfl
      refine za4 e5 r1 r0 Nat.mul_one ?_
      apply StepsA.cons
      ·rfl
      ·refine⟨?_,trivial⟩
       exact Xf (r:=.sl .unk) rfl zf0 rfl zf0 zf0 (Qh hg) zf0 rfl (Yd (d:=dj.setIfInBounds J dj[q]!) (i:=q) (x:=dj[J]!) (by simpa using hq0)) rfl set_set_heap.symm
      ·rfl
      exact StepsA.nil _
     case ht=>rfl
     case hF=>exact zh
     show CW _ _ _ _
     refine zw1 e5 ?_
     exact⟨(q,Go.Sort.swp dj J q,_),by simp only;omega,zg0,rfl,by simp only;omega,by simp only;omega,by simp only;rw[Yt];exact k3,by simp only;rw[k4,set_set_heap],D2.swp hq1 hq0,hnx⟩
  ·have d4:decide ((a:Int)<(j:Int))=false:=decide_eq_false om
   obtain rfl:j=a:=by omega
   have hend:dj=Go.Sort.insInner ltI j i dc:=by
    rw[← k5]
    cases j with
    | zero=>rfl
    | succ q=>simp [Go.Sort.insInner]
   refine zw0 ?_
   apply Xi (L:=[[],[],[0,1],[2],[3],[3],[3],[3,5,6],[3,7],[3],[3],[3,10],[3,9,11],[3,12],[3,4,8,13],[3,14],[3,15]]) (resL:=[_,_,_,_,_,_,_,_,_,_,_,_,_,_,_,_,_]) (frF:=[(0,.val (.slice (some ⟨id,0,some ver⟩) d.size c)),(1,.val (i64 j)),(2,.val (i64 b)),(3,.val Qs),(8,.val (i64 i)),(9,.val (i64 j)),(34,.val (.bool false))])
   case hm=>exact Qq
   case hc=>kernel_rfl
   case hb=>rfl
   case hS=>exact zk1 d4
   case ht=>rfl
   case hF=>exact zh
   show CW _ _ _ _
   refine zw0 ?_
   refine Qa rfl ?_
   refine Qj ?_
   show CW _ _ _ _
   refine zw1 e2 ?_
   exact⟨(i+1,dj,hj),by simp only;omega,zg0,rfl,by simp only;omega,by simp only;omega,k3,k4,D2,by simp only;rw[hend,← hstep];exact h5⟩
 ·have e3:decide ((i:Int)<(b:Int))=false:=decide_eq_false om
  have hend:Go.Sort.insertionSort ltI d a b=dc:=by rw[← h5,Go.Sort.insOuter,if_neg hlt]
  refine zw1 e3 ?_
  refine Qa rfl ?_
  refine Qj ?_
  refine⟨_,zf0,rfl,?_⟩
  simp only[hend]
  exact⟨h4,D1,h3⟩
set_option maxHeartbeats 8000000 in
theorem Qo8 {h:Heap} {id ver c a b:Nat} {d:Array BanE} {fv:Value} (D:DA h id ver d) (hab:a<b) (hb:b≤d.size) :
 FW env 184 [.slice (some ⟨id,0,some ver⟩) d.size c,i64 a,i64 b,fv] h fun r h'=>r = .tuple #[]∧h'=h.set id (.arr (IC (Go.Sort.reverseRange d a b)) ver true 70)∧DA h' id ver (Go.Sort.reverseRange d a b)∧(Go.Sort.reverseRange d a b).size=d.size:=by
 have hn:=D.n
 have e1:IntKind.i64.wrap ((b:Int)-1)=((b-1:Nat):Int):=by rw[Qg om om];omega
 obtain⟨B,hB⟩:∃ B,B=b-1:=⟨_,rfl⟩
 rw[← hB] at e1
 refine fe Tryz.func184 ?_;simp only[push_cast]
 refine zw1 e1 ?_
 refine Jh (fun x:Nat×Nat×Array BanE×Heap=>x.2.1+1-x.1) (fun x=>[(0,.val (.slice (some ⟨id,0,some ver⟩) d.size c)),(8,.val (i64 x.1)),(9,.val (i64 x.2.1))]) (fun x=>x.2.2.2)
  (fun x=>x.2.1<d.size∧x.2.2.1.size=d.size∧x.2.2.2=h.set id (.arr (IC x.2.2.1) ver true 70)∧DA x.2.2.2 id ver x.2.2.1∧Go.Sort.reverseLoop x.1 x.2.1 x.2.2.1=Go.Sort.reverseRange d a b) (a,B,d,h) zg0 rfl ⟨by simp only;omega,rfl,(Jm D.g).symm,D,by simp only;rw[hB];rfl⟩ ?_
 rintro⟨i,j,dc,hc⟩ ⟨h1,h3,h4,D1,h5⟩
 simp only at h1 h3 h4 D1 h5 ⊢
 by_cases hlt:i<j
 ·have e3:=Qv hlt
  have hg:=D1.g
  have hi1:i<dc.size:=by omega
  have hj1:j<dc.size:=by omega
  have g1:=Xk hi1
  have g0:=Xk hj1
  have r1:=rng (k:=i) (n:=d.size) om
  have r0:=rng (k:=j) (n:=d.size) om
  have e4:IntKind.i64.wrap ((i:Int)+1)=(i:Int)+1:=Qg om om
  have e5:IntKind.i64.wrap ((j:Int)-1)=((j-1:Nat):Int):=by rw[Qg om om];omega
  have hst:Go.Sort.reverseLoop i j dc=Go.Sort.reverseLoop (i+1) (j-1) (Go.Sort.swp dc i j):=by rw[Go.Sort.reverseLoop,if_pos hlt]
  obtain⟨q,hq⟩:∃ q,q=j-1:=⟨_,rfl⟩
  rw[← hq] at e5 hst
  refine zw1 e3 ?_
  refine Qb rfl ?_
  refine zw0 ?_
  refine Qi [(0,.val (.slice (some ⟨id,0,some ver⟩) d.size c)),(8,.val (i64 i)),(9,.val (i64 j))] zg0 ?_
  show CW _ _ ⟨_,[],hc⟩ _
  apply Xd (L:=[[],[],[],[],[],[],[4,5],[4,5,6],[],[],[8,9],[8,9,10],[0,1],[0,1,4,5,6,7,8,9,10,11,12],[2,3],[0,1,2,3,4,5,6,7,8,9,10,11,12,13,14]]) (act:=[13,15]) (hs:=[hc.set id (.arr (IC (dc.setIfInBounds i dc[j]!)) ver true 70),hc.set id (.arr (IC (Go.Sort.swp dc i j)) ver true 70)]) (resL:=[_,_,_,_,_,_,_,_,_,_,_,_,_,_,_,_]) (frF:=[(0,.val (.slice (some ⟨id,0,some ver⟩) d.size c)),(8,.val (i64 i)),(9,.val (i64 j))])
  case hm=>exact Qq
  case hc=>kernel_rfl
  case ha=>rfl
  case hb=>rfl
  case hS=>
   refine za6 hg g1 g0 r1 r0 Nat.mul_one ?_
   apply StepsA.cons
   ·rfl
   ·refine⟨?_,trivial⟩
    exact Xf (r:=.sl .unk) rfl zf0 rfl zf0 zf0 hg zf0 rfl (Yd (d:=dc) (i:=i) (x:=dc[j]!) hi1) rfl rfl
   ·rfl
   refine za6 hg g1 g0 r1 r0 Nat.mul_one ?_
   apply StepsA.cons
   ·rfl
   ·refine⟨?_,trivial⟩
    exact Xf (r:=.sl .unk) rfl zf0 rfl zf0 zf0 (Qh hg) zf0 rfl (Yd (d:=dc.setIfInBounds i dc[j]!) (i:=j) (x:=dc[i]!) (by simpa using hj1)) rfl set_set_heap.symm
   ·rfl
   exact StepsA.nil _
  case ht=>rfl
  case hF=>exact zh
  show CW _ _ _ _
  refine zw2 e4 e5 ?_
  exact⟨(i+1,q,Go.Sort.swp dc i j,_),by simp only;omega,zg0,rfl,by simp only;omega,by simp only;rw[Yt];exact h3,by simp only;rw[h4,set_set_heap],D1.swp hi1 hj1,by simp only;rw[← hst];exact h5⟩
 ·have e3:decide ((i:Int)<(j:Int))=false:=decide_eq_false om
  have hend:Go.Sort.reverseRange d a b=dc:=by rw[← h5,Go.Sort.reverseLoop,if_neg hlt]
  refine zw1 e3 ?_
  refine Qa rfl ?_
  refine Qj ?_
  refine⟨_,zf0,rfl,?_⟩
  simp only[hend]
  exact⟨h4,D1,h3⟩
set_option maxHeartbeats 8000000 in
theorem Qpk {h:Heap} {id ver c root0 hi first:Nat} {d:Array BanE} (D:DA h id ver d) (hb:first+hi≤d.size) (hroot:root0≤hi) :
 FW env 206 [.slice (some ⟨id,0,some ver⟩) d.size c,i64 root0,i64 hi,i64 first,Qs] h fun r h'=>r = .tuple #[]∧h'=h.set id (.arr (IC (Go.Sort.siftDown ltI hi first root0 d)) ver true 70)∧DA h' id ver (Go.Sort.siftDown ltI hi first root0 d)∧(Go.Sort.siftDown ltI hi first root0 d).size=d.size:=by
 have hn:=D.n
 refine fe Tryz.func206 ?_;simp only[push_cast]
 refine zw0 ?_
 refine Jh (fun x:Nat×Array BanE×Heap=>2*hi+2-x.1) (fun x=>[(0,.val (.slice (some ⟨id,0,some ver⟩) d.size c)),(2,.val (i64 hi)),(3,.val (i64 first)),(4,.val Qs),(10,.val (i64 x.1))]) (fun x=>x.2.2)
  (fun x=>x.1≤hi∧x.2.1.size=d.size∧x.2.2=h.set id (.arr (IC x.2.1) ver true 70)∧DA x.2.2 id ver x.2.1∧Go.Sort.siftDown ltI hi first x.1 x.2.1=Go.Sort.siftDown ltI hi first root0 d) (root0,d,h) zg0 rfl ⟨hroot,rfl,(Jm D.g).symm,D,rfl⟩ ?_
 rintro⟨root,dc,hc⟩ ⟨h1,h3,h4,D1,h5⟩
 simp only at h1 h3 h4 D1 h5 ⊢
 have e1:IntKind.i64.wrap (2*(root:Int))=2*(root:Int):=Qg om om
 have e1':IntKind.i64.wrap (2*(root:Int)+1)=((2*root+1:Nat):Int):=by rw[Qg om om];omega
 obtain⟨K,hK⟩:∃ K,K=2*root+1:=⟨_,rfl⟩
 rw[← hK] at e1'
 have hg:=D1.g
 by_cases hlt:hi≤K
 ·have d1:decide ((hi:Int)≤(K:Int))=true:=decide_eq_true om
  have hend:Go.Sort.siftDown ltI hi first root0 d=dc:=by rw[← h5,Go.Sort.siftDown,dif_pos om]
  refine zw3 e1 e1' d1 ?_
  refine Qb rfl ?_
  refine Qj ?_
  refine⟨_,zf0,rfl,?_⟩
  simp only[hend]
  exact⟨h4,D1,h3⟩
 have d1:decide ((hi:Int)≤(K:Int))=false:=decide_eq_false om
 have hr1:first+root<dc.size:=by omega
 have g2:=Xk hr1
 have b2:=D1.b _ hr1
 have rr2:=rng (k:=first+root) (n:=d.size) om
 have e2r:IntKind.i64.wrap ((first:Int)+(root:Int))=((first+root:Nat):Int):=by rw[Qg om om];omega
 obtain⟨r2,hr2⟩:∃ r2,r2=first+root:=⟨_,rfl⟩
 rw[← hr2] at g2 b2 rr2 e2r hr1
 have e3:IntKind.i64.wrap ((K:Int)+1)=((K+1:Nat):Int):=by rw[Qg om om];omega
 refine zw3 e1 e1' d1 ?_
 refine Qa rfl ?_
 refine zw0 ?_
 refine Qi [(0,.val (.slice (some ⟨id,0,some ver⟩) d.size c)),(2,.val (i64 hi)),(3,.val (i64 first)),(4,.val Qs),(10,.val (i64 root)),(11,.val (i64 K))] zg0 ?_
 show CW _ _ ⟨_,[],hc⟩ _
 repeat refine Qkn ?_
 refine CW.mono (Q:=fun e s'=>e = .normal∧s'.h=hc∧∃ (β:Bool) (C:Nat),C=(if β=true then K+1 else K)∧C<hi∧(Go.Sort.siftDown ltI hi first root dc=if (!ltI dc[r2]! dc[first+C]!)=true then dc else Go.Sort.siftDown ltI hi first C (Go.Sort.swp dc r2 (first+C)))∧SubL [(0,.val (.slice (some ⟨id,0,some ver⟩) d.size c)),(2,.val (i64 hi)),(3,.val (i64 first)),(4,.val Qs),(10,.val (i64 root)),(11,.val (i64 K)),(40,.val (.bool β))] s'.fr) ?_ ?_
 ·by_cases hk2:K+1<hi
  ·have d3:decide (((K+1:Nat):Int)<(hi:Int))=true:=decide_eq_true om
   have hk1:first+K<dc.size:=by omega
   have hk3:first+K+1<dc.size:=by omega
   have gk:=Xk hk1
   have gk1:=Xk hk3
   have bk:=D1.b _ hk1
   have bk1:=D1.b _ hk3
   have rk:=rng (k:=first+K) (n:=d.size) om
   have rk1:=rng (k:=first+K+1) (n:=d.size) om
   have ek:IntKind.i64.wrap ((first:Int)+(K:Int))=((first+K:Nat):Int):=by rw[Qg om om];omega
   have ek1:IntKind.i64.wrap (((first+K:Nat):Int)+1)=((first+K+1:Nat):Int):=by rw[Qg om om];omega
   have hS:Go.Sort.siftDown ltI hi first root dc=if (ltI dc[first+K]! dc[first+K+1]!)=true then (if (!ltI dc[r2]! dc[first+(K+1)]!)=true then dc else Go.Sort.siftDown ltI hi first (K+1) (Go.Sort.swp dc r2 (first+(K+1)))) else (if (!ltI dc[r2]! dc[first+K]!)=true then dc else Go.Sort.siftDown ltI hi first K (Go.Sort.swp dc r2 (first+K))):=by
    rw[Go.Sort.siftDown,dif_neg om,hr2,hK]
    simp [show 2*root+1+1<hi by omega,show 2*root+2<hi by omega]
   obtain⟨k1,hk1e⟩:∃ k1,k1=first+K:=⟨_,rfl⟩
   obtain⟨k2,hk2e⟩:∃ k2,k2=first+K+1:=⟨_,rfl⟩
   obtain⟨K1,hK1⟩:∃ K1,K1=K+1:=⟨_,rfl⟩
   rw[← hk2e] at gk1 bk1 rk1 ek1 hS
   rw[← hk1e] at gk bk rk ek ek1 hS
   rw[← hK1] at d3 e3 hS
   cases hl1:ltI dc[k1]! dc[k2]! with
   | true=>
     have d7:decide (cmpI dc[k1]! dc[k2]! < 0)=true:=hl1
     have hrun:Go.Sort.siftDown ltI hi first root dc=if (!ltI dc[r2]! dc[first+K1]!)=true then dc else Go.Sort.siftDown ltI hi first K1 (Go.Sort.swp dc r2 (first+K1)):=by rw[hS,hl1];rfl
     apply Xi (L:=[[],[0],[],[1,2],[3],[4],[4],[4],[4],[4,7,8],[4,6,9],[4,10],[4],[4],[4],[4,13,14],[4,15],[4,12,16],[4,17],[4,5,11,18],[4,19],[4,20]]) (resL:=[_,_,_,_,_,_,_,_,_,_,_,_,_,_,_,_,_,_,_,_,_,_]) (frF:=[(0,.val (.slice (some ⟨id,0,some ver⟩) d.size c)),(2,.val (i64 hi)),(3,.val (i64 first)),(4,.val Qs),(10,.val (i64 root)),(11,.val (i64 K)),(40,.val (.bool true))])
     case hm=>exact Qq
     case hc=>kernel_rfl
     case hb=>rfl
     case hS=>
      repeat (first|exact Steps0.nil _|(apply Steps0.cons;(·apply zz;simp only[push_cast,env,Nat.reduceEqDiff,reduceIte,Nat.reduceAdd,Nat.reduceMul,Nat.reduceLeDiff,reduceCtorEq,Nat.reduceSub,Int.reduceToNat,e3,d3,hg,gk,gk1,ek,ek1,rk,rk1,Nat.mul_one]<;>exact rfl);(·rfl)))
      apply Steps0.cons
      ·exact Xb (fn:=Tryz.f104) (args:=[dc[k1]!.val,dc[k2]!.val]) (cap:=[]) rfl (zf1 d3) rfl zf0 zf0 Tryz.func104 kr kr (Xm bk bk1)
      ·rfl
      exact zk2 d7 d3
     case ht=>rfl
     case hF=>exact zh
     exact⟨rfl,rfl,true,K1,by rw[if_pos rfl];exact hK1,by omega,hrun,zg0⟩
   | false=>
     have d7:decide (cmpI dc[k1]! dc[k2]! < 0)=false:=hl1
     have hrun:Go.Sort.siftDown ltI hi first root dc=if (!ltI dc[r2]! dc[first+K]!)=true then dc else Go.Sort.siftDown ltI hi first K (Go.Sort.swp dc r2 (first+K)):=by rw[hS,hl1,← hk1e];rfl
     apply Xi (L:=[[],[0],[],[1,2],[3],[4],[4],[4],[4],[4,7,8],[4,6,9],[4,10],[4],[4],[4],[4,13,14],[4,15],[4,12,16],[4,17],[4,5,11,18],[4,19],[4,20]]) (resL:=[_,_,_,_,_,_,_,_,_,_,_,_,_,_,_,_,_,_,_,_,_,_]) (frF:=[(0,.val (.slice (some ⟨id,0,some ver⟩) d.size c)),(2,.val (i64 hi)),(3,.val (i64 first)),(4,.val Qs),(10,.val (i64 root)),(11,.val (i64 K)),(40,.val (.bool false))])
     case hm=>exact Qq
     case hc=>kernel_rfl
     case hb=>rfl
     case hS=>
      repeat (first|exact Steps0.nil _|(apply Steps0.cons;(·apply zz;simp only[push_cast,env,Nat.reduceEqDiff,reduceIte,Nat.reduceAdd,Nat.reduceMul,Nat.reduceLeDiff,reduceCtorEq,Nat.reduceSub,Int.reduceToNat,e3,d3,hg,gk,gk1,ek,ek1,rk,rk1,Nat.mul_one]<;>exact rfl);(·rfl)))
      apply Steps0.cons
      ·exact Xb (fn:=Tryz.f104) (args:=[dc[k1]!.val,dc[k2]!.val]) (cap:=[]) rfl (zf1 d3) rfl zf0 zf0 Tryz.func104 kr kr (Xm bk bk1)
      ·rfl
      exact zk2 d7 d3
     case ht=>rfl
     case hF=>exact zh
     exact⟨rfl,rfl,false,K,rfl,by omega,hrun,zg0⟩
  ·have d3:decide (((K+1:Nat):Int)<(hi:Int))=false:=decide_eq_false om
   have hrun:Go.Sort.siftDown ltI hi first root dc=if (!ltI dc[r2]! dc[first+K]!)=true then dc else Go.Sort.siftDown ltI hi first K (Go.Sort.swp dc r2 (first+K)):=by
    rw[Go.Sort.siftDown,dif_neg om,hr2,hK]
    simp [show ¬ 2*root+1+1<hi by omega]
   obtain⟨K1,hK1⟩:∃ K1,K1=K+1:=⟨_,rfl⟩
   rw[← hK1] at d3 e3
   apply Xi (L:=[[],[0],[],[1,2],[3],[4],[4],[4],[4],[4,7,8],[4,6,9],[4,10],[4],[4],[4],[4,13,14],[4,15],[4,12,16],[4,17],[4,5,11,18],[4,19],[4,20]]) (resL:=[_,_,_,_,_,_,_,_,_,_,_,_,_,_,_,_,_,_,_,_,_,_]) (frF:=[(0,.val (.slice (some ⟨id,0,some ver⟩) d.size c)),(2,.val (i64 hi)),(3,.val (i64 first)),(4,.val Qs),(10,.val (i64 root)),(11,.val (i64 K)),(40,.val (.bool false))])
   case hm=>exact Qq
   case hc=>kernel_rfl
   case hb=>rfl
   case hS=>exact zk2 e3 d3
   case ht=>rfl
   case hF=>exact zh
   exact⟨rfl,rfl,false,K,rfl,by omega,hrun,zg0⟩
 rintro e s' ⟨rfl,hh,β,C,hCe,hCh,hrun,hf⟩
 have hCK:K≤C:=by rw[hCe];split<;>omega
 show CW _ _ _ _
 refine Qi _ hf ?_
 rw[hh]
 clear hf hh
 refine CW.mono (Q:=fun e s'=>e = .normal∧s'.h=hc∧SubL [(0,.val (.slice (some ⟨id,0,some ver⟩) d.size c)),(2,.val (i64 hi)),(3,.val (i64 first)),(4,.val Qs),(10,.val (i64 root)),(11,.val (i64 C))] s'.fr) ?_ ?_
 ·cases β with
  | true=>
    rw[if_pos rfl] at hCe
    rw[← hCe] at e3
    refine Qb rfl ?_
    refine zw1 e3 ?_
    exact⟨rfl,rfl,zg0⟩
  | false=>
    have hCe':C=K:=hCe
    subst hCe'
    refine Qa rfl ?_
    refine zw0 ?_
    exact⟨rfl,rfl,zg0⟩
 rintro e s' ⟨rfl,hh,hf⟩
 show CW _ _ _ _
 refine Qi _ hf ?_
 rw[hh]
 clear hf hh
 have hC1:first+C<dc.size:=by omega
 have gC:=Xk hC1
 have bC:=D1.b _ hC1
 have rC:=rng (k:=first+C) (n:=d.size) om
 have eC:IntKind.i64.wrap ((first:Int)+(C:Int))=((first+C:Nat):Int):=by rw[Qg om om];omega
 obtain⟨c2,hc2⟩:∃ c2,c2=first+C:=⟨_,rfl⟩
 rw[← hc2] at gC bC rC eC hC1 hrun
 refine zw0 ?_
 refine Qi [(0,.val (.slice (some ⟨id,0,some ver⟩) d.size c)),(2,.val (i64 hi)),(3,.val (i64 first)),(4,.val Qs),(10,.val (i64 root)),(11,.val (i64 C))] zg0 ?_
 show CW _ _ ⟨_,[],hc⟩ _
 cases hl2:ltI dc[r2]! dc[c2]! with
 | false=>
   have d8:decide (cmpI dc[r2]! dc[c2]! < 0)=false:=hl2
   have hend:Go.Sort.siftDown ltI hi first root0 d=dc:=by rw[← h5,hrun,hl2];rfl
   apply Xi (L:=[[],[],[],[],[2,3],[1,4],[5],[],[],[],[8,9],[7,10],[11],[0,6,12],[13],[14]]) (resL:=[_,_,_,_,_,_,_,_,_,_,_,_,_,_,_,_]) (frF:=[(58,.val (.bool true))])
   case hm=>exact Qq
   case hc=>kernel_rfl
   case hb=>rfl
   case hS=>
    refine zl8 hg g2 gC e2r eC rr2 rC Nat.mul_one ?_
    apply Steps0.cons
    ·exact Xb (fn:=Tryz.f104) (args:=[dc[r2]!.val,dc[c2]!.val]) (cap:=[]) rfl zf0 rfl zf0 zf0 Tryz.func104 kr kr (Xm b2 bC)
    ·rfl
    exact zk1 d8
   case ht=>rfl
   case hF=>exact zh
   show CW _ _ _ _
   refine zw0 ?_
   refine Qb rfl ?_
   refine zw0 ?_
   refine Qd ?_
   refine⟨_,zf0,rfl,?_⟩
   simp only[hend]
   exact⟨h4,D1,h3⟩
 | true=>
   have d8:decide (cmpI dc[r2]! dc[c2]! < 0)=true:=hl2
   have hnx:Go.Sort.siftDown ltI hi first C (Go.Sort.swp dc r2 c2)=Go.Sort.siftDown ltI hi first root0 d:=by rw[← h5,hrun,hl2];rfl
   apply Xi (L:=[[],[],[],[],[2,3],[1,4],[5],[],[],[],[8,9],[7,10],[11],[0,6,12],[13],[14]]) (resL:=[_,_,_,_,_,_,_,_,_,_,_,_,_,_,_,_]) (frF:=[(0,.val (.slice (some ⟨id,0,some ver⟩) d.size c)),(2,.val (i64 hi)),(3,.val (i64 first)),(4,.val Qs),(10,.val (i64 root)),(11,.val (i64 C)),(58,.val (.bool false))])
   case hm=>exact Qq
   case hc=>kernel_rfl
   case hb=>rfl
   case hS=>
    refine zl8 hg g2 gC e2r eC rr2 rC Nat.mul_one ?_
    apply Steps0.cons
    ·exact Xb (fn:=Tryz.f104) (args:=[dc[r2]!.val,dc[c2]!.val]) (cap:=[]) rfl zf0 rfl zf0 zf0 Tryz.func104 kr kr (Xm b2 bC)
    ·rfl
    exact zk1 d8
   case ht=>rfl
   case hF=>exact zh
   show CW _ _ _ _
   refine zw0 ?_
   refine Qa rfl ?_
   refine zw0 ?_
   refine Qi [(0,.val (.slice (some ⟨id,0,some ver⟩) d.size c)),(2,.val (i64 hi)),(3,.val (i64 first)),(4,.val Qs),(10,.val (i64 root)),(11,.val (i64 C))] zg0 ?_
   show CW _ _ ⟨_,[],hc⟩ _
   apply Xd (L:=[[],[],[],[1,2],[],[],[],[5,6],[],[],[],[9,10],[8,9,10,11],[8,9,10,11,12],[],[],[],[15,16],[14,15,16,17],[14,15,16,17,18],[0,1,2,3],[0,1,2,3,8,9,10,11,12,13,14,15,16,17,18,19,20],[4,5,6,7],[0,1,2,3,4,5,6,7,8,9,10,11,12,13,14,15,16,17,18,19,20,21,22]]) (act:=[21,23]) (hs:=[hc.set id (.arr (IC (dc.setIfInBounds r2 dc[c2]!)) ver true 70),hc.set id (.arr (IC (Go.Sort.swp dc r2 c2)) ver true 70)]) (resL:=[_,_,_,_,_,_,_,_,_,_,_,_,_,_,_,_,_,_,_,_,_,_,_,_]) (frF:=[(0,.val (.slice (some ⟨id,0,some ver⟩) d.size c)),(2,.val (i64 hi)),(3,.val (i64 first)),(4,.val Qs),(11,.val (i64 C))])
   case hm=>exact Qq
   case hc=>kernel_rfl
   case ha=>rfl
   case hb=>rfl
   case hS=>
    refine za8 hg g2 gC e2r eC rr2 rC Nat.mul_one ?_
    apply StepsA.cons
    ·rfl
    ·refine⟨?_,trivial⟩
     exact Xf (r:=.sl .unk) rfl zf0 rfl zf0 zf0 hg zf0 rfl (Yd (d:=dc) (i:=r2) (x:=dc[c2]!) hr1) rfl rfl
    ·rfl
    refine za8 hg g2 gC e2r eC rr2 rC Nat.mul_one ?_
    apply StepsA.cons
    ·rfl
    ·refine⟨?_,trivial⟩
     exact Xf (r:=.sl .unk) rfl zf0 rfl zf0 zf0 (Qh hg) zf0 rfl (Yd (d:=dc.setIfInBounds r2 dc[c2]!) (i:=c2) (x:=dc[r2]!) (by simpa using hC1)) rfl set_set_heap.symm
    ·rfl
    exact StepsA.nil _
   case ht=>rfl
   case hF=>exact zh
   show CW _ _ _ _
   refine zw0 ?_
   exact⟨(C,Go.Sort.swp dc r2 c2,_),by simp only;omega,zg0,rfl,by simp only;omega,by simp only;rw[Yt];exact h3,by simp only;rw[h4,set_set_heap],D1.swp hr1 hC1,hnx⟩
theorem Xff (n:Nat):Int.tdiv ((n:Int)-1) 2=(((n-1) / 2:Nat):Int):=by
 cases n with
 | zero=>rfl
 | succ n=>rw[show ((n+1:Nat):Int)-1=(n:Int) by omega];rfl
set_option maxHeartbeats 8000000 in
theorem Qw3 {h:Heap} {id ver c a b:Nat} {d:Array BanE} (D:DA h id ver d) (hab:a≤b) (hb:b≤d.size) :
 FW env 181 [.slice (some ⟨id,0,some ver⟩) d.size c,i64 a,i64 b,Qs] h fun r h'=>r = .tuple #[]∧h'=h.set id (.arr (IC (Go.Sort.heapSort ltI d a b)) ver true 70)∧DA h' id ver (Go.Sort.heapSort ltI d a b)∧(Go.Sort.heapSort ltI d a b).size=d.size:=by
 have hn:=D.n
 obtain⟨H,hH⟩:∃ H,H=b-a:=⟨_,rfl⟩
 have e1:IntKind.i64.wrap ((b:Int)-(a:Int))=(H:Int):=by rw[Qg om om];omega
 have e2:IntKind.i64.wrap ((H:Int)-1)=(H:Int)-1:=Qg om om
 have e3:IntKind.i64.wrap (Int.tdiv ((H:Int)-1) 2)=(((H-1) / 2:Nat):Int):=by rw[Xff,Qg om om]
 obtain⟨K0,hK0⟩:∃ K0,K0=(H-1) / 2+1:=⟨_,rfl⟩
 have e3':IntKind.i64.wrap (Int.tdiv ((H:Int)-1) 2)=(K0:Int)-1:=by rw[e3,hK0];omega
 refine fe Tryz.func181 ?_;simp only[push_cast]
 refine zw3 e1 e2 e3' ?_
 refine Jh (fun x:Nat×Array BanE×Heap=>x.1) (fun x=>[(0,.val (.slice (some ⟨id,0,some ver⟩) d.size c)),(3,.val Qs),(8,.val (i64 a)),(9,.val (i64 0)),(10,.val (i64 H)),(11,.val (i64 ((x.1:Int)-1)))]) (fun x=>x.2.2)
  (fun x=>x.1≤K0∧x.2.1.size=d.size∧x.2.2=h.set id (.arr (IC x.2.1) ver true 70)∧DA x.2.2 id ver x.2.1∧Go.Sort.heapBuild ltI H a x.1 x.2.1=Go.Sort.heapBuild ltI H a K0 d) (K0,d,h) zg0 rfl ⟨Nat.le_refl _,rfl,(Jm D.g).symm,D,rfl⟩ ?_
 rintro⟨k,dc,hc⟩ ⟨h1,h3,h4,D1,h5⟩
 simp only at h1 h3 h4 D1 h5 ⊢
 by_cases hk:0<k
 ·obtain⟨q,rfl⟩:∃ q,k=q+1:=⟨k-1,by omega⟩
  rw[show ((q+1:Nat):Int)-1=(q:Int) by omega]
  have d1:decide (0≤(q:Int))=true:=decide_eq_true om
  have e4:IntKind.i64.wrap ((q:Int)-1)=(q:Int)-1:=Qg om om
  refine zw1 d1 ?_
  refine Qb rfl ?_
  refine zw0 ?_
  refine zj Tryz.func206 ?_
  rw[List.append_nil,← h3]
  refine (Qpk (c:=c) (root0:=q) (hi:=H) (first:=a) D1 om om).mono ?_
  rintro _ h6 ⟨rfl,k1,k2,k3⟩
  rw[h3]
  refine zw1 e4 ?_
  exact⟨(q,_,h6),by simp only;omega,zg0,rfl,by simp only;omega,k3.trans h3,by simp only;rw[k1,h4,set_set_heap],k2,h5⟩
 ·obtain rfl:k=0:=by omega
  have hbu:dc=Go.Sort.heapBuild ltI H a K0 d:=h5
  have d1:decide (0≤((0:Nat):Int)-1)=false:=rfl
  rw[show ((0:Nat):Int)-1 = -1 from rfl]
  have d1':decide (0≤(-1:Int))=false:=rfl
  refine zw1 d1' ?_
  refine Qa rfl ?_
  refine Qj ?_
  show CW _ _ _ _
  refine zw1 e2 ?_
  refine Jh (fun x:Nat×Array BanE×Heap=>x.1) (fun x=>[(0,.val (.slice (some ⟨id,0,some ver⟩) d.size c)),(3,.val Qs),(8,.val (i64 a)),(9,.val (i64 0)),(10,.val (i64 H)),(12,.val (i64 ((x.1:Int)-1)))]) (fun x=>x.2.2)
   (fun x=>x.1≤H∧x.2.1.size=d.size∧x.2.2=h.set id (.arr (IC x.2.1) ver true 70)∧DA x.2.2 id ver x.2.1∧Go.Sort.heapPop ltI a x.1 x.2.1=Go.Sort.heapSort ltI d a b) (H,dc,hc) zg0 rfl ⟨Nat.le_refl _,h3,h4,D1,by simp only;rw[hbu];unfold Go.Sort.heapSort;rw[← hH,hK0]⟩ ?_
  clear h1 h3 h4 D1 h5 hbu hk hc dc
  rintro⟨k,dc,hc⟩ ⟨h1,h3,h4,D1,h5⟩
  simp only at h1 h3 h4 D1 h5 ⊢
  by_cases hk:0<k
  ·obtain⟨q,rfl⟩:∃ q,k=q+1:=⟨k-1,by omega⟩
   rw[show ((q+1:Nat):Int)-1=(q:Int) by omega]
   have d1:decide (0≤(q:Int))=true:=decide_eq_true om
   have e4:IntKind.i64.wrap ((q:Int)-1)=(q:Int)-1:=Qg om om
   have hun:Go.Sort.heapPop ltI a (q+1) dc=Go.Sort.heapPop ltI a q (Go.Sort.siftDown ltI q a 0 (Go.Sort.swp dc a (a+q))):=rfl
   have hg:=D1.g
   have hi1:a<dc.size:=by omega
   have hj1:a+q<dc.size:=by omega
   have g1:=Xk hi1
   have g0:=Xk hj1
   have r1:=rng (k:=a) (n:=d.size) om
   have r0:=rng (k:=a+q) (n:=d.size) om
   have e5:IntKind.i64.wrap ((a:Int)+(q:Int))=((a+q:Nat):Int):=by rw[Qg om om];omega
   obtain⟨J,hJ⟩:∃ J,J=a+q:=⟨_,rfl⟩
   rw[← hJ] at e5 g0 r0 hj1 hun
   refine zw1 d1 ?_
   refine Qb rfl ?_
   refine zw0 ?_
   refine Qi [(0,.val (.slice (some ⟨id,0,some ver⟩) d.size c)),(3,.val Qs),(8,.val (i64 a)),(9,.val (i64 0)),(10,.val (i64 H)),(12,.val (i64 q))] zg0 ?_
   show CW _ _ ⟨_,[],hc⟩ _
   apply Xd (L:=[[],[],[],[],[],[3,4],[],[],[],[7,8],[6,7,8,9],[6,7,8,9,10],[],[],[12,13],[12,13,14],[0,1],[0,1,6,7,8,9,10,11,12,13,14,15,16],[2,3,4,5],[0,1,2,3,4,5,6,7,8,9,10,11,12,13,14,15,16,17,18]]) (act:=[17,19]) (hs:=[hc.set id (.arr (IC (dc.setIfInBounds a dc[J]!)) ver true 70),hc.set id (.arr (IC (Go.Sort.swp dc a J)) ver true 70)]) (resL:=[_,_,_,_,_,_,_,_,_,_,_,_,_,_,_,_,_,_,_,_]) (frF:=[(0,.val (.slice (some ⟨id,0,some ver⟩) d.size c)),(3,.val Qs),(8,.val (i64 a)),(9,.val (i64 0)),(10,.val (i64 H)),(12,.val (i64 q))])
   case hm=>exact Qq
   case hc=>kernel_rfl
   case ha=>rfl
   case hb=>rfl
   case hS=>
    refine za7 hg g1 g0 r1 r0 e5 Nat.mul_one ?_
    apply StepsA.cons
    ·rfl
    ·refine⟨?_,trivial⟩
     exact Xf (r:=.sl .unk) rfl zf0 rfl zf0 zf0 hg zf0 rfl (Yd (d:=dc) (i:=a) (x:=dc[J]!) hi1) rfl rfl
    ·rfl
    refine za7 hg g1 g0 r1 r0 e5 Nat.mul_one ?_
    apply StepsA.cons
    ·rfl
    ·refine⟨?_,trivial⟩
     exact Xf (r:=.sl .unk) rfl zf0 rfl zf0 zf0 (Qh hg) zf0 rfl (Yd (d:=dc.setIfInBounds a dc[J]!) (i:=J) (x:=dc[a]!) (by simpa using hj1)) rfl set_set_heap.symm
    ·rfl
    exact StepsA.nil _
   case ht=>rfl
   case hF=>exact zh
   show CW _ _ _ _
   refine zw0 ?_
   refine zj Tryz.func206 ?_
   have hsz:d.size=(Go.Sort.swp dc a J).size:=by rw[Yt,h3]
   rw[List.append_nil,hsz]
   refine (Qpk (c:=c) (root0:=0) (hi:=q) (first:=a) (D1.swp hi1 hj1) (by rw[← hsz];omega) om).mono ?_
   rintro _ h6 ⟨rfl,k1,k2,k3⟩
   rw[← hsz]
   refine zw1 e4 ?_
   exact⟨(q,_,h6),by simp only;omega,zg0,rfl,by simp only;omega,k3.trans hsz.symm,by simp only;rw[k1,h4,set_set_heap,set_set_heap],k2,by simp only;rw[← hun];exact h5⟩
  ·obtain rfl:k=0:=by omega
   have hend:Go.Sort.heapSort ltI d a b=dc:=h5.symm
   rw[show ((0:Nat):Int)-1 = -1 from rfl]
   have d1':decide (0≤(-1:Int))=false:=rfl
   refine zw1 d1' ?_
   refine Qa rfl ?_
   refine Qj ?_
   refine⟨_,zf0,rfl,?_⟩
   simp only[hend]
   exact⟨h4,D1,h3⟩
def upE (dc:Array BanE) (a:Nat) (x:BanE):Bool:=!ltI dc[a]! x
def dnE (dc:Array BanE) (a:Nat) (x:BanE):Bool:=ltI dc[a]! x
theorem Qdn {p:BanE→Bool} {d:Array BanE} {j i:Nat} (h:i≤j) (hp:p d[i]! = true):Go.Sort.scanUp p d j i=Go.Sort.scanUp p d j (i+1):=by
 rw[Go.Sort.scanUp,if_pos (by simp [h,hp])]
theorem Qac {p:BanE→Bool} {d:Array BanE} {j i:Nat} (h:¬ (i≤j∧p d[i]! = true)):Go.Sort.scanUp p d j i=i:=by
 rw[Go.Sort.scanUp,if_neg (by simpa using h)]
theorem Qb5 {p:BanE→Bool} {d:Array BanE} {i j:Nat} (h:i≤j+1) (hp:p d[j+1]! = true):Go.Sort.scanDown p d i (j+1)=Go.Sort.scanDown p d i j:=by
 rw[Go.Sort.scanDown,if_pos (by simp [h,hp])]
theorem Zw {p:BanE→Bool} {d:Array BanE} {i j:Nat} (h:¬ (i≤j∧p d[j]! = true)):Go.Sort.scanDown p d i j=j:=by
 cases j with
 | zero=>rfl
 | succ j=>rw[Go.Sort.scanDown,if_neg (by simpa using h)]
theorem Qly {d:Array BanE} {a i j i2 j2:Nat} (h1:Go.Sort.scanUp (upE d a) d j i=i2) (h2:Go.Sort.scanDown (dnE d a) d i2 j=j2) (hij:i≤j+2):Go.Sort.partEqLoop ltI a i j d=if i2 > j2 then (i2,d) else Go.Sort.partEqLoop ltI a (i2+1) (j2-1) (Go.Sort.swp d i2 j2):=by
 have g1:=Go.Sort.scanUp_ge (upE d a) d j i
 have g2:=Go.Sort.scanDown_le (dnE d a) d i2 j
 rw[h1] at g1
 rw[h2] at g2
 have h1':Go.Sort.scanUp (fun x=>!ltI d[a]! x) d j i=i2:=h1
 have h2':Go.Sort.scanDown (fun x=>ltI d[a]! x) d i2 j=j2:=h2
 rw[Go.Sort.partEqLoop]
 simp only[h1',h2']
 by_cases h:i2 > j2
 ·rw[if_pos h,if_pos h]
 ·rw[if_neg h,if_neg h,dif_pos om]
set_option maxHeartbeats 8000000 in
theorem Qqq {h:Heap} {id ver c a b pv:Nat} {d:Array BanE} (D:DA h id ver d) (ha:a≤pv) (hpb:pv<b) (hb:b≤d.size) :
 FW env 186 [.slice (some ⟨id,0,some ver⟩) d.size c,i64 a,i64 b,i64 pv,Qs] h fun r h'=>r=i64 (Go.Sort.partitionEqual ltI d a b pv).1∧h'=h.set id (.arr (IC (Go.Sort.partitionEqual ltI d a b pv).2) ver true 70)∧DA h' id ver (Go.Sort.partitionEqual ltI d a b pv).2∧(Go.Sort.partitionEqual ltI d a b pv).2.size=d.size:=by
 have hn:=D.n
 refine fe Tryz.func186 ?_;simp only[push_cast]
 refine zw0 ?_
 have hg:=D.g
 have hi1:a<d.size:=by omega
 have hj1:pv<d.size:=by omega
 have g1:=Xk hi1
 have g0:=Xk hj1
 have r1:=rng (k:=a) (n:=d.size) om
 have r0:=rng (k:=pv) (n:=d.size) om
 refine Qi [(0,.val (.slice (some ⟨id,0,some ver⟩) d.size c)),(1,.val (i64 a)),(2,.val (i64 b)),(3,.val (i64 pv)),(4,.val Qs)] zg0 ?_
 show CW _ _ ⟨_,[],h⟩ _
 apply Xd (L:=[[],[],[],[],[],[],[4,5],[4,5,6],[],[],[8,9],[8,9,10],[0,1],[0,1,4,5,6,7,8,9,10,11,12],[2,3],[0,1,2,3,4,5,6,7,8,9,10,11,12,13,14]]) (act:=[13,15]) (hs:=[h.set id (.arr (IC (d.setIfInBounds a d[pv]!)) ver true 70),h.set id (.arr (IC (Go.Sort.swp d a pv)) ver true 70)]) (resL:=[_,_,_,_,_,_,_,_,_,_,_,_,_,_,_,_]) (frF:=[(0,.val (.slice (some ⟨id,0,some ver⟩) d.size c)),(1,.val (i64 a)),(2,.val (i64 b)),(4,.val Qs)])
 case hm=>exact Qq
 case hc=>kernel_rfl
 case ha=>rfl
 case hb=>rfl
 case hS=>
  refine za6 hg g1 g0 r1 r0 Nat.mul_one ?_
  apply StepsA.cons
  ·rfl
  ·refine⟨?_,trivial⟩
   exact Xf (r:=.sl .unk) rfl zf0 rfl zf0 zf0 hg zf0 rfl (Yd (d:=d) (i:=a) (x:=d[pv]!) hi1) rfl rfl
  ·rfl
  refine za6 hg g1 g0 r1 r0 Nat.mul_one ?_
  apply StepsA.cons
  ·rfl
  ·refine⟨?_,trivial⟩
   exact Xf (r:=.sl .unk) rfl zf0 rfl zf0 zf0 (Qh hg) zf0 rfl (Yd (d:=d.setIfInBounds a d[pv]!) (i:=pv) (x:=d[a]!) (by simpa using hj1)) rfl set_set_heap.symm
  ·rfl
  exact StepsA.nil _
 case ht=>rfl
 case hF=>exact zh
 show CW _ _ _ _
 have e1:IntKind.i64.wrap ((a:Int)+1)=((a+1:Nat):Int):=by rw[Qg om om];omega
 have e2:IntKind.i64.wrap ((b:Int)-1)=((b-1:Nat):Int):=by rw[Qg om om];omega
 obtain⟨i0,hi0⟩:∃ i0,i0=a+1:=⟨_,rfl⟩
 obtain⟨j0,hj0⟩:∃ j0,j0=b-1:=⟨_,rfl⟩
 rw[← hi0] at e1
 rw[← hj0] at e2
 have D0:=D.swp hi1 hj1
 refine zw2 e1 e2 ?_
 refine Jh (fun x:Nat×Nat×Array BanE×Heap=>x.2.1+3-x.1) (fun x=>[(0,.val (.slice (some ⟨id,0,some ver⟩) d.size c)),(1,.val (i64 a)),(4,.val Qs),(11,.val (i64 x.1)),(12,.val (i64 x.2.1))]) (fun x=>x.2.2.2)
  (fun x=>a<x.1∧x.1≤x.2.1+2∧x.2.1<d.size∧x.2.2.1.size=d.size∧x.2.2.2=h.set id (.arr (IC x.2.2.1) ver true 70)∧DA x.2.2.2 id ver x.2.2.1∧Go.Sort.partEqLoop ltI a x.1 x.2.1 x.2.2.1=Go.Sort.partitionEqual ltI d a b pv) (i0,j0,Go.Sort.swp d a pv,_) zg0 rfl ⟨by simp only;omega,by simp only;omega,by simp only;omega,Yt,rfl,D0,by simp only;rw[hi0,hj0];rfl⟩ ?_
 clear hg g1 g0 D0
 rintro⟨i,j,dc,hc⟩ ⟨h1,h2,h2',h3,h4,D1,h5⟩
 simp only at h1 h2 h2' h3 h4 D1 h5 ⊢
 have hg:=D1.g
 have hac:a<dc.size:=by omega
 have ga:=Xk hac
 have ba:=D1.b _ hac
 have ra:=rng (k:=a) (n:=d.size) om
 obtain⟨i2,hi2⟩:∃ i2,Go.Sort.scanUp (upE dc a) dc j i=i2:=⟨_,rfl⟩
 refine zw0 ?_
 refine CW.mono (Q:=fun e s'=>e = .exit 2∧s'.h=hc∧i≤i2∧i2≤j+2∧SubL [(0,.val (.slice (some ⟨id,0,some ver⟩) d.size c)),(1,.val (i64 a)),(4,.val Qs),(11,.val (i64 i2)),(12,.val (i64 j))] s'.fr) ?_ ?_
 ·refine Jh (fun k:Nat=>j+1-k) (fun k=>[(0,.val (.slice (some ⟨id,0,some ver⟩) d.size c)),(1,.val (i64 a)),(4,.val Qs),(11,.val (i64 k)),(12,.val (i64 j))]) (fun _=>hc)
   (fun k=>i≤k∧k≤j+2∧Go.Sort.scanUp (upE dc a) dc j k=i2) i zg0 rfl ⟨Nat.le_refl _,h2,hi2⟩ ?_
  rintro k ⟨k1,k2,k3⟩
  by_cases hkj:k≤j
  ·have d4:decide ((k:Int)≤(j:Int))=true:=decide_eq_true om
   have hk1:k<dc.size:=by omega
   have gk:=Xk hk1
   have bk:=D1.b _ hk1
   have rk:=rng (k:=k) (n:=d.size) om
   have e4:IntKind.i64.wrap ((k:Int)+1)=(k:Int)+1:=Qg om om
   cases hl:ltI dc[a]! dc[k]! with
   | false=>
     have d7:decide (cmpI dc[a]! dc[k]! < 0)=false:=hl
     refine zw0 ?_
     apply Xi (L:=[[],[],[0,1],[2],[3],[3],[3],[3,5,6],[3,7],[3],[3],[3,9,10],[3,11],[3,4,8,12],[3,13],[3,14],[3,15]]) (resL:=[_,_,_,_,_,_,_,_,_,_,_,_,_,_,_,_,_]) (frF:=[(0,.val (.slice (some ⟨id,0,some ver⟩) d.size c)),(1,.val (i64 a)),(4,.val Qs),(11,.val (i64 k)),(12,.val (i64 j)),(47,.val (.bool true))])
     case hm=>exact Qq
     case hc=>kernel_rfl
     case hb=>rfl
     case hS=>
      refine zl7 d4 hg ga gk ra rk Nat.mul_one ?_
      apply Steps0.cons
      ·exact Xb (fn:=Tryz.f104) (args:=[dc[a]!.val,dc[k]!.val]) (cap:=[]) rfl (zf1 d4) rfl zf0 zf0 Tryz.func104 kr kr (Xm ba bk)
      ·rfl
      exact zk2 d7 d4
     case ht=>rfl
     case hF=>exact zh
     show CW _ _ _ _
     refine zw0 ?_
     refine Qb rfl ?_
     refine zw1 e4 ?_
     exact⟨k+1,by dsimp only;omega,zg0,rfl,by omega,by omega,by rw[← k3];exact (Qdn hkj (by unfold upE;rw[hl];rfl)).symm⟩
   | true=>
     have d7:decide (cmpI dc[a]! dc[k]! < 0)=true:=hl
     have hst:i2=k:=by rw[← k3];exact Qac (by unfold upE;rw[hl];simp)
     subst hst
     refine zw0 ?_
     apply Xi (L:=[[],[],[0,1],[2],[3],[3],[3],[3,5,6],[3,7],[3],[3],[3,9,10],[3,11],[3,4,8,12],[3,13],[3,14],[3,15]]) (resL:=[_,_,_,_,_,_,_,_,_,_,_,_,_,_,_,_,_]) (frF:=[(0,.val (.slice (some ⟨id,0,some ver⟩) d.size c)),(1,.val (i64 a)),(4,.val Qs),(11,.val (i64 i2)),(12,.val (i64 j)),(47,.val (.bool false))])
     case hm=>exact Qq
     case hc=>kernel_rfl
     case hb=>rfl
     case hS=>
      refine zl7 d4 hg ga gk ra rk Nat.mul_one ?_
      apply Steps0.cons
      ·exact Xb (fn:=Tryz.f104) (args:=[dc[a]!.val,dc[i2]!.val]) (cap:=[]) rfl (zf1 d4) rfl zf0 zf0 Tryz.func104 kr kr (Xm ba bk)
      ·rfl
      exact zk2 d7 d4
     case ht=>rfl
     case hF=>exact zh
     show CW _ _ _ _
     refine zw0 ?_
     refine Qa rfl ?_
     refine Qj ?_
     exact⟨rfl,rfl,k1,k2,zg0⟩
  ·have d4:decide ((k:Int)≤(j:Int))=false:=decide_eq_false om
   have hst:i2=k:=by rw[← k3];exact Qac om
   subst hst
   refine zw0 ?_
   apply Xi (L:=[[],[],[0,1],[2],[3],[3],[3],[3,5,6],[3,7],[3],[3],[3,9,10],[3,11],[3,4,8,12],[3,13],[3,14],[3,15]]) (resL:=[_,_,_,_,_,_,_,_,_,_,_,_,_,_,_,_,_]) (frF:=[(0,.val (.slice (some ⟨id,0,some ver⟩) d.size c)),(1,.val (i64 a)),(4,.val Qs),(11,.val (i64 i2)),(12,.val (i64 j)),(47,.val (.bool false))])
   case hm=>exact Qq
   case hc=>kernel_rfl
   case hb=>rfl
   case hS=>exact zk1 d4
   case ht=>rfl
   case hF=>exact zh
   show CW _ _ _ _
   refine zw0 ?_
   refine Qa rfl ?_
   refine Qj ?_
   exact⟨rfl,rfl,k1,k2,zg0⟩
 rintro e s' ⟨rfl,hh,hii,hij2,hf⟩
 show CW _ _ _ _
 refine Qi _ hf ?_
 rw[hh]
 obtain⟨j2,hj2⟩:∃ j2,Go.Sort.scanDown (dnE dc a) dc i2 j=j2:=⟨_,rfl⟩
 have hstep:=Qly hi2 hj2 h2
 refine zw0 ?_
 refine CW.mono (Q:=fun e s'=>e = .exit 4∧s'.h=hc∧j2≤j∧i2≤j2+2∧SubL [(0,.val (.slice (some ⟨id,0,some ver⟩) d.size c)),(1,.val (i64 a)),(4,.val Qs),(11,.val (i64 i2)),(12,.val (i64 j2))] s'.fr) ?_ ?_
 ·refine Jh (fun k:Nat=>k) (fun k=>[(0,.val (.slice (some ⟨id,0,some ver⟩) d.size c)),(1,.val (i64 a)),(4,.val Qs),(11,.val (i64 i2)),(12,.val (i64 k))]) (fun _=>hc)
   (fun k=>k≤j∧i2≤k+2∧Go.Sort.scanDown (dnE dc a) dc i2 k=j2) j zg0 rfl ⟨Nat.le_refl _,hij2,hj2⟩ ?_
  rintro k ⟨k1,k2,k3⟩
  by_cases hkj:i2≤k
  ·have d4:decide ((i2:Int)≤(k:Int))=true:=decide_eq_true om
   have hk1:k<dc.size:=by omega
   have gk:=Xk hk1
   have bk:=D1.b _ hk1
   have rk:=rng (k:=k) (n:=d.size) om
   obtain⟨q,hq⟩:∃ q,k=q+1:=⟨k-1,by omega⟩
   have e4:IntKind.i64.wrap ((k:Int)-1)=(q:Int):=by rw[Qg om om];omega
   cases hl:ltI dc[a]! dc[k]! with
   | true=>
     have d7:decide (cmpI dc[a]! dc[k]! < 0)=true:=hl
     refine zw0 ?_
     apply Xi (L:=[[],[],[0,1],[2],[3],[3],[3],[3,5,6],[3,7],[3],[3],[3,9,10],[3,11],[3,4,8,12],[3,13],[3,14]]) (resL:=[_,_,_,_,_,_,_,_,_,_,_,_,_,_,_,_]) (frF:=[(0,.val (.slice (some ⟨id,0,some ver⟩) d.size c)),(1,.val (i64 a)),(4,.val Qs),(11,.val (i64 i2)),(12,.val (i64 k)),(65,.val (.bool true))])
     case hm=>exact Qq
     case hc=>kernel_rfl
     case hb=>rfl
     case hS=>
      refine zl7 d4 hg ga gk ra rk Nat.mul_one ?_
      apply Steps0.cons
      ·exact Xb (fn:=Tryz.f104) (args:=[dc[a]!.val,dc[k]!.val]) (cap:=[]) rfl (zf1 d4) rfl zf0 zf0 Tryz.func104 kr kr (Xm ba bk)
      ·rfl
      exact zk2 d7 d4
     case ht=>rfl
     case hF=>exact zh
     show CW _ _ _ _
     refine zw0 ?_
     refine Qb rfl ?_
     refine zw1 e4 ?_
     refine⟨q,by dsimp only;omega,zg0,rfl,by omega,by omega,?_⟩
     rw[← k3,hq]
     refine (Qb5 om ?_).symm
     rw[← hq]
     exact hl
   | false=>
     have d7:decide (cmpI dc[a]! dc[k]! < 0)=false:=hl
     have hst:j2=k:=by rw[← k3];exact Zw (by unfold dnE;rw[hl];simp)
     subst hst
     refine zw0 ?_
     apply Xi (L:=[[],[],[0,1],[2],[3],[3],[3],[3,5,6],[3,7],[3],[3],[3,9,10],[3,11],[3,4,8,12],[3,13],[3,14]]) (resL:=[_,_,_,_,_,_,_,_,_,_,_,_,_,_,_,_]) (frF:=[(0,.val (.slice (some ⟨id,0,some ver⟩) d.size c)),(1,.val (i64 a)),(4,.val Qs),(11,.val (i64 i2)),(12,.val (i64 j2)),(65,.val (.bool false))])
     case hm=>exact Qq
     case hc=>kernel_rfl
     case hb=>rfl
     case hS=>
      refine zl7 d4 hg ga gk ra rk Nat.mul_one ?_
      apply Steps0.cons
      ·exact Xb (fn:=Tryz.f104) (args:=[dc[a]!.val,dc[j2]!.val]) (cap:=[]) rfl (zf1 d4) rfl zf0 zf0 Tryz.func104 kr kr (Xm ba bk)
      ·rfl
      exact zk2 d7 d4
     case ht=>rfl
     case hF=>exact zh
     show CW _ _ _ _
     refine zw0 ?_
     refine Qa rfl ?_
     refine Qj ?_
     exact⟨rfl,rfl,k1,k2,zg0⟩
  ·have d4:decide ((i2:Int)≤(k:Int))=false:=decide_eq_false om
   have hst:j2=k:=by rw[← k3];exact Zw om
   subst hst
   refine zw0 ?_
   apply Xi (L:=[[],[],[0,1],[2],[3],[3],[3],[3,5,6],[3,7],[3],[3],[3,9,10],[3,11],[3,4,8,12],[3,13],[3,14]]) (resL:=[_,_,_,_,_,_,_,_,_,_,_,_,_,_,_,_]) (frF:=[(0,.val (.slice (some ⟨id,0,some ver⟩) d.size c)),(1,.val (i64 a)),(4,.val Qs),(11,.val (i64 i2)),(12,.val (i64 j2)),(65,.val (.bool false))])
   case hm=>exact Qq
   case hc=>kernel_rfl
   case hb=>rfl
   case hS=>exact zk1 d4
   case ht=>rfl
   case hF=>exact zh
   show CW _ _ _ _
   refine zw0 ?_
   refine Qa rfl ?_
   refine Qj ?_
   exact⟨rfl,rfl,k1,k2,zg0⟩
 rintro e s' ⟨rfl,hh,hjj,hij3,hf⟩
 show CW _ _ _ _
 refine Qi _ hf ?_
 rw[hh]
 by_cases hgt:j2<i2
 ·have d5:decide ((j2:Int)<(i2:Int))=true:=decide_eq_true om
  rw[if_pos hgt,h5] at hstep
  refine zw1 d5 ?_
  refine Qb rfl ?_
  refine Qj ?_
  show CW _ _ _ _
  refine zw0 ?_
  refine Qd ?_
  refine⟨_,zf0,by rw[hstep];rfl,?_⟩
  simp only[hstep]
  exact⟨h4,D1,h3⟩
 ·have d5:decide ((j2:Int)<(i2:Int))=false:=decide_eq_false om
  rw[if_neg hgt,h5] at hstep
  have hx1:i2<dc.size:=by omega
  have hy1:j2<dc.size:=by omega
  have gx:=Xk hx1
  have gy:=Xk hy1
  have rx:=rng (k:=i2) (n:=d.size) om
  have ry:=rng (k:=j2) (n:=d.size) om
  have e6:IntKind.i64.wrap ((i2:Int)+1)=(i2:Int)+1:=Qg om om
  obtain⟨q,hq⟩:∃ q,q=j2-1:=⟨_,rfl⟩
  have e7:IntKind.i64.wrap ((j2:Int)-1)=(q:Int):=by rw[Qg om om];omega
  rw[← hq] at hstep
  refine zw1 d5 ?_
  refine Qa rfl ?_
  refine zw0 ?_
  refine Qi [(0,.val (.slice (some ⟨id,0,some ver⟩) d.size c)),(1,.val (i64 a)),(4,.val Qs),(11,.val (i64 i2)),(12,.val (i64 j2))] zg0 ?_
  show CW _ _ ⟨_,[],hc⟩ _
  apply Xd (L:=[[],[],[],[],[],[],[4,5],[4,5,6],[],[],[8,9],[8,9,10],[0,1],[0,1,4,5,6,7,8,9,10,11,12],[2,3],[0,1,2,3,4,5,6,7,8,9,10,11,12,13,14]]) (act:=[13,15]) (hs:=[hc.set id (.arr (IC (dc.setIfInBounds i2 dc[j2]!)) ver true 70),hc.set id (.arr (IC (Go.Sort.swp dc i2 j2)) ver true 70)]) (resL:=[_,_,_,_,_,_,_,_,_,_,_,_,_,_,_,_]) (frF:=[(0,.val (.slice (some ⟨id,0,some ver⟩) d.size c)),(1,.val (i64 a)),(4,.val Qs),(11,.val (i64 i2)),(12,.val (i64 j2))])
  case hm=>exact Qq
  case hc=>kernel_rfl
  case ha=>rfl
  case hb=>rfl
  case hS=>
   refine za6 hg gx gy rx ry Nat.mul_one ?_
   apply StepsA.cons
   ·rfl
   ·refine⟨?_,trivial⟩
    exact Xf (r:=.sl .unk) rfl zf0 rfl zf0 zf0 hg zf0 rfl (Yd (d:=dc) (i:=i2) (x:=dc[j2]!) hx1) rfl rfl
   ·rfl
   refine za6 hg gx gy rx ry Nat.mul_one ?_
   apply StepsA.cons
   ·rfl
   ·refine⟨?_,trivial⟩
    exact Xf (r:=.sl .unk) rfl zf0 rfl zf0 zf0 (Qh hg) zf0 rfl (Yd (d:=dc.setIfInBounds i2 dc[j2]!) (i:=j2) (x:=dc[i2]!) (by simpa using hy1)) rfl set_set_heap.symm
   ·rfl
   exact StepsA.nil _
  case ht=>rfl
  case hF=>exact zh
  show CW _ _ _ _
  refine zw2 e6 e7 ?_
  exact⟨(i2+1,q,Go.Sort.swp dc i2 j2,_),by simp only;omega,zg0,rfl,by simp only;omega,by simp only;omega,by simp only;omega,by simp only;rw[Yt];exact h3,by simp only;rw[h4,set_set_heap],D1.swp hx1 hy1,hstep.symm⟩
def upP (dc:Array BanE) (a:Nat) (x:BanE):Bool:=ltI x dc[a]!
def dnP (dc:Array BanE) (a:Nat) (x:BanE):Bool:=!ltI x dc[a]!
theorem Qka {d:Array BanE} {a i j i2 j2:Nat} (h1:Go.Sort.scanUp (upP d a) d j i=i2) (h2:Go.Sort.scanDown (dnP d a) d i2 j=j2) (hij:i≤j+2):Go.Sort.partLoop ltI a i j d=if i2 > j2 then (j2,d) else Go.Sort.partLoop ltI a (i2+1) (j2-1) (Go.Sort.swp d i2 j2):=by
 have g1:=Go.Sort.scanUp_ge (upP d a) d j i
 have g2:=Go.Sort.scanDown_le (dnP d a) d i2 j
 rw[h1] at g1
 rw[h2] at g2
 have h1':Go.Sort.scanUp (fun x=>ltI x d[a]!) d j i=i2:=h1
 have h2':Go.Sort.scanDown (fun x=>!ltI x d[a]!) d i2 j=j2:=h2
 rw[Go.Sort.partLoop]
 simp only[h1',h2']
 by_cases h:i2 > j2
 ·rw[if_pos h,if_pos h]
 ·rw[if_neg h,if_neg h,dif_pos om]
set_option maxHeartbeats 8000000 in
theorem Qxd {h:Heap} {id ver c a b pv:Nat} {d:Array BanE} (D:DA h id ver d) (ha:a≤pv) (hpb:pv<b) (hb:b≤d.size) :
 FW env 187 [.slice (some ⟨id,0,some ver⟩) d.size c,i64 a,i64 b,i64 pv,Qs] h fun r h'=>∃ ap:Bool,r = .tuple #[i64 (Go.Sort.partition ltI d a b pv).1,.bool ap]∧h'=h.set id (.arr (IC (Go.Sort.partition ltI d a b pv).2.2) ver true 70)∧DA h' id ver (Go.Sort.partition ltI d a b pv).2.2∧(Go.Sort.partition ltI d a b pv).2.2.size=d.size:=by
 have hn:=D.n
 rw[Go.Sort.partition_fst,Go.Sort.partition_arr]
 refine fe Tryz.func187 ?_;simp only[push_cast]
 refine zw0 ?_
 have hi1:a<d.size:=by omega
 have hj1:pv<d.size:=by omega
 refine Qi [(0,.val (.slice (some ⟨id,0,some ver⟩) d.size c)),(1,.val (i64 a)),(2,.val (i64 b)),(3,.val (i64 pv)),(4,.val Qs)] zg0 ?_
 show CW _ _ ⟨_,[],h⟩ _
 have hg:=D.g
 have g1:=Xk hi1
 have g0:=Xk hj1
 have r1:=rng (k:=a) (n:=d.size) om
 have r0:=rng (k:=pv) (n:=d.size) om
 apply Xd (L:=[[],[],[],[],[],[],[4,5],[4,5,6],[],[],[8,9],[8,9,10],[0,1],[0,1,4,5,6,7,8,9,10,11,12],[2,3],[0,1,2,3,4,5,6,7,8,9,10,11,12,13,14]]) (act:=[13,15]) (hs:=[h.set id (.arr (IC (d.setIfInBounds a d[pv]!)) ver true 70),h.set id (.arr (IC (Go.Sort.swp d a pv)) ver true 70)]) (resL:=[_,_,_,_,_,_,_,_,_,_,_,_,_,_,_,_]) (frF:=[(0,.val (.slice (some ⟨id,0,some ver⟩) d.size c)),(1,.val (i64 a)),(2,.val (i64 b)),(4,.val Qs)])
 case hm=>exact Qq
 case hc=>kernel_rfl
 case ha=>rfl
 case hb=>rfl
 case hS=>
  refine za6 hg g1 g0 r1 r0 Nat.mul_one ?_
  apply StepsA.cons
  ·rfl
  ·refine⟨?_,trivial⟩
   exact Xf (r:=.sl .unk) rfl zf0 rfl zf0 zf0 hg zf0 rfl (Yd (d:=d) (i:=a) (x:=d[pv]!) hi1) rfl rfl
  ·rfl
  refine za6 hg g1 g0 r1 r0 Nat.mul_one ?_
  apply StepsA.cons
  ·rfl
  ·refine⟨?_,trivial⟩
   exact Xf (r:=.sl .unk) rfl zf0 rfl zf0 zf0 (Qh hg) zf0 rfl (Yd (d:=d.setIfInBounds a d[pv]!) (i:=pv) (x:=d[a]!) (by simpa using hj1)) rfl set_set_heap.symm
  ·rfl
  exact StepsA.nil _
 case ht=>rfl
 case hF=>exact zh
 show CW _ _ _ _
 have e1:IntKind.i64.wrap ((a:Int)+1)=((a+1:Nat):Int):=by rw[Qg om om];omega
 have e2:IntKind.i64.wrap ((b:Int)-1)=((b-1:Nat):Int):=by rw[Qg om om];omega
 obtain⟨i0,hi0⟩:∃ i0,i0=a+1:=⟨_,rfl⟩
 obtain⟨j0,hj0⟩:∃ j0,j0=b-1:=⟨_,rfl⟩
 rw[← hi0] at e1
 rw[← hj0] at e2
 have D0:=D.swp hi1 hj1
 clear hg g1 g0 r1 r0
 refine zw2 e1 e2 ?_
 refine Qi [(0,.val (.slice (some ⟨id,0,some ver⟩) d.size c)),(1,.val (i64 a)),(4,.val Qs),(12,.val (i64 i0)),(13,.val (i64 j0))] zg0 ?_
 show CW _ _ ⟨_,[],h.set id (.arr (IC (Go.Sort.swp d a pv)) ver true 70)⟩ _
 have hR:Go.Sort.partLoop ltI a (a+1) (b-1) (Go.Sort.swp d a pv)=Go.Sort.partLoop ltI a i0 j0 (Go.Sort.swp d a pv):=by rw[hi0,hj0]
 rw[hR]
 obtain⟨R,hR'⟩:∃ R,Go.Sort.partLoop ltI a i0 j0 (Go.Sort.swp d a pv)=R:=⟨_,rfl⟩
 rw[hR']
 obtain⟨dc,hdc⟩:∃ dc,Go.Sort.swp d a pv=dc:=⟨_,rfl⟩
 obtain⟨hc,hhc⟩:∃ hc,h.set id (.arr (IC dc) ver true 70)=hc:=⟨_,rfl⟩
 rw[hdc] at D0 hR' ⊢
 rw[hhc] at D0 ⊢
 have h3:dc.size=d.size:=by rw[← hdc,Yt]
 obtain⟨i,hi⟩:∃ i,i0=i:=⟨_,rfl⟩
 obtain⟨j,hj⟩:∃ j,j0=j:=⟨_,rfl⟩
 rw[hi] at hR' ⊢ hi0
 rw[hj] at hR' ⊢ hj0
 have h1:a<i:=by omega
 have h2:i≤j+2:=by omega
 have h2':j<d.size:=by omega
 have haj:a≤j:=by omega
 have D1:=D0
 have hg:=D1.g
 have hac:a<dc.size:=by omega
 have ga:=Xk hac
 have ba:=D1.b _ hac
 have ra:=rng (k:=a) (n:=d.size) om
 clear e1 e2 hi hj
 obtain⟨i2,hi2⟩:∃ i2,Go.Sort.scanUp (upP dc a) dc j i=i2:=⟨_,rfl⟩
 refine zw0 ?_
 refine CW.mono (Q:=fun e s'=>e = .exit 0∧s'.h=hc∧i≤i2∧i2≤j+2∧SubL [(0,.val (.slice (some ⟨id,0,some ver⟩) d.size c)),(1,.val (i64 a)),(4,.val Qs),(12,.val (i64 i2)),(13,.val (i64 j))] s'.fr) ?_ ?_
 ·refine Jh (fun k:Nat=>j+1-k) (fun k=>[(0,.val (.slice (some ⟨id,0,some ver⟩) d.size c)),(1,.val (i64 a)),(4,.val Qs),(12,.val (i64 k)),(13,.val (i64 j))]) (fun _=>hc)
   (fun k=>i≤k∧k≤j+2∧Go.Sort.scanUp (upP dc a) dc j k=i2) i zg0 rfl ⟨Nat.le_refl _,h2,hi2⟩ ?_
  rintro k ⟨k1,k2,k3⟩
  by_cases hkj:k≤j
  ·have d4:decide ((k:Int)≤(j:Int))=true:=decide_eq_true om
   have hk1:k<dc.size:=by omega
   have gk:=Xk hk1
   have bk:=D1.b _ hk1
   have rk:=rng (k:=k) (n:=d.size) om
   have e4:IntKind.i64.wrap ((k:Int)+1)=(k:Int)+1:=Qg om om
   cases hl:ltI dc[k]! dc[a]! with
   | true=>
     have d7:decide (cmpI dc[k]! dc[a]! < 0)=true:=hl
     refine zw0 ?_
     apply Xi (L:=[[],[],[0,1],[2],[3],[3],[3],[3,5,6],[3,7],[3],[3],[3,9,10],[3,11],[3,4,8,12],[3,13],[3,14]]) (resL:=[_,_,_,_,_,_,_,_,_,_,_,_,_,_,_,_]) (frF:=[(0,.val (.slice (some ⟨id,0,some ver⟩) d.size c)),(1,.val (i64 a)),(4,.val Qs),(12,.val (i64 k)),(13,.val (i64 j)),(47,.val (.bool true))])
     case hm=>exact Qq
     case hc=>kernel_rfl
     case hb=>rfl
     case hS=>
      refine zl7 d4 hg ga gk ra rk Nat.mul_one ?_
      apply Steps0.cons
      ·exact Xb (fn:=Tryz.f104) (args:=[dc[k]!.val,dc[a]!.val]) (cap:=[]) rfl (zf1 d4) rfl zf0 zf0 Tryz.func104 kr kr (Xm bk ba)
      ·rfl
      exact zk2 d7 d4
     case ht=>rfl
     case hF=>exact zh
     show CW _ _ _ _
     refine zw0 ?_
     refine Qb rfl ?_
     refine zw1 e4 ?_
     exact⟨k+1,by dsimp only;omega,zg0,rfl,by omega,by omega,by rw[← k3];exact (Qdn hkj (by unfold upP;exact hl)).symm⟩
   | false=>
     have d7:decide (cmpI dc[k]! dc[a]! < 0)=false:=hl
     have hst:i2=k:=by rw[← k3];exact Qac (by unfold upP;rw[hl];simp)
     subst hst
     refine zw0 ?_
     apply Xi (L:=[[],[],[0,1],[2],[3],[3],[3],[3,5,6],[3,7],[3],[3],[3,9,10],[3,11],[3,4,8,12],[3,13],[3,14]]) (resL:=[_,_,_,_,_,_,_,_,_,_,_,_,_,_,_,_]) (frF:=[(0,.val (.slice (some ⟨id,0,some ver⟩) d.size c)),(1,.val (i64 a)),(4,.val Qs),(12,.val (i64 i2)),(13,.val (i64 j)),(47,.val (.bool false))])
     case hm=>exact Qq
     case hc=>kernel_rfl
     case hb=>rfl
     case hS=>
      refine zl7 d4 hg ga gk ra rk Nat.mul_one ?_
      apply Steps0.cons
      ·exact Xb (fn:=Tryz.f104) (args:=[dc[i2]!.val,dc[a]!.val]) (cap:=[]) rfl (zf1 d4) rfl zf0 zf0 Tryz.func104 kr kr (Xm bk ba)
      ·rfl
      exact zk2 d7 d4
     case ht=>rfl
     case hF=>exact zh
     show CW _ _ _ _
     refine zw0 ?_
     refine Qa rfl ?_
     refine Qj ?_
     exact⟨rfl,rfl,k1,k2,zg0⟩
  ·have d4:decide ((k:Int)≤(j:Int))=false:=decide_eq_false om
   have hst:i2=k:=by rw[← k3];exact Qac om
   subst hst
   refine zw0 ?_
   apply Xi (L:=[[],[],[0,1],[2],[3],[3],[3],[3,5,6],[3,7],[3],[3],[3,9,10],[3,11],[3,4,8,12],[3,13],[3,14]]) (resL:=[_,_,_,_,_,_,_,_,_,_,_,_,_,_,_,_]) (frF:=[(0,.val (.slice (some ⟨id,0,some ver⟩) d.size c)),(1,.val (i64 a)),(4,.val Qs),(12,.val (i64 i2)),(13,.val (i64 j)),(47,.val (.bool false))])
   case hm=>exact Qq
   case hc=>kernel_rfl
   case hb=>rfl
   case hS=>exact zk1 d4
   case ht=>rfl
   case hF=>exact zh
   show CW _ _ _ _
   refine zw0 ?_
   refine Qa rfl ?_
   refine Qj ?_
   exact⟨rfl,rfl,k1,k2,zg0⟩
 rintro e s' ⟨rfl,hh,hii,hij2,hf⟩
 show CW _ _ _ _
 refine Qi _ hf ?_
 rw[hh]
 clear hf hh
 obtain⟨j2,hj2⟩:∃ j2,Go.Sort.scanDown (dnP dc a) dc i2 j=j2:=⟨_,rfl⟩
 have hstep:=Qka hi2 hj2 h2
 refine zw0 ?_
 refine CW.mono (Q:=fun e s'=>e = .exit 2∧s'.h=hc∧j2≤j∧a≤j2∧SubL [(0,.val (.slice (some ⟨id,0,some ver⟩) d.size c)),(1,.val (i64 a)),(4,.val Qs),(12,.val (i64 i2)),(13,.val (i64 j2))] s'.fr) ?_ ?_
 ·refine Jh (fun k:Nat=>k) (fun k=>[(0,.val (.slice (some ⟨id,0,some ver⟩) d.size c)),(1,.val (i64 a)),(4,.val Qs),(12,.val (i64 i2)),(13,.val (i64 k))]) (fun _=>hc)
   (fun k=>k≤j∧a≤k∧Go.Sort.scanDown (dnP dc a) dc i2 k=j2) j zg0 rfl ⟨Nat.le_refl _,haj,hj2⟩ ?_
  rintro k ⟨k1,k2,k3⟩
  by_cases hkj:i2≤k
  ·have d4:decide ((i2:Int)≤(k:Int))=true:=decide_eq_true om
   have hk1:k<dc.size:=by omega
   have gk:=Xk hk1
   have bk:=D1.b _ hk1
   have rk:=rng (k:=k) (n:=d.size) om
   obtain⟨q,hq⟩:∃ q,k=q+1:=⟨k-1,by omega⟩
   have e4:IntKind.i64.wrap ((k:Int)-1)=(q:Int):=by rw[Qg om om];omega
   cases hl:ltI dc[k]! dc[a]! with
   | false=>
     have d7:decide (cmpI dc[k]! dc[a]! < 0)=false:=hl
     refine zw0 ?_
     apply Xi (L:=[[],[],[0,1],[2],[3],[3],[3],[3,5,6],[3,7],[3],[3],[3,9,10],[3,11],[3,4,8,12],[3,13],[3,14],[3,15]]) (resL:=[_,_,_,_,_,_,_,_,_,_,_,_,_,_,_,_,_]) (frF:=[(0,.val (.slice (some ⟨id,0,some ver⟩) d.size c)),(1,.val (i64 a)),(4,.val Qs),(12,.val (i64 i2)),(13,.val (i64 k)),(66,.val (.bool true))])
     case hm=>exact Qq
     case hc=>kernel_rfl
     case hb=>rfl
     case hS=>
      refine zl7 d4 hg ga gk ra rk Nat.mul_one ?_
      apply Steps0.cons
      ·exact Xb (fn:=Tryz.f104) (args:=[dc[k]!.val,dc[a]!.val]) (cap:=[]) rfl (zf1 d4) rfl zf0 zf0 Tryz.func104 kr kr (Xm bk ba)
      ·rfl
      exact zk2 d7 d4
     case ht=>rfl
     case hF=>exact zh
     show CW _ _ _ _
     refine zw0 ?_
     refine Qb rfl ?_
     refine zw1 e4 ?_
     refine⟨q,by dsimp only;omega,zg0,rfl,by omega,by omega,?_⟩
     rw[← k3,hq]
     refine (Qb5 om ?_).symm
     rw[← hq]
     unfold dnP
     rw[hl]
     rfl
   | true=>
     have d7:decide (cmpI dc[k]! dc[a]! < 0)=true:=hl
     have hst:j2=k:=by rw[← k3];exact Zw (by unfold dnP;rw[hl];simp)
     subst hst
     refine zw0 ?_
     apply Xi (L:=[[],[],[0,1],[2],[3],[3],[3],[3,5,6],[3,7],[3],[3],[3,9,10],[3,11],[3,4,8,12],[3,13],[3,14],[3,15]]) (resL:=[_,_,_,_,_,_,_,_,_,_,_,_,_,_,_,_,_]) (frF:=[(0,.val (.slice (some ⟨id,0,some ver⟩) d.size c)),(1,.val (i64 a)),(4,.val Qs),(12,.val (i64 i2)),(13,.val (i64 j2)),(66,.val (.bool false))])
     case hm=>exact Qq
     case hc=>kernel_rfl
     case hb=>rfl
     case hS=>
      refine zl7 d4 hg ga gk ra rk Nat.mul_one ?_
      apply Steps0.cons
      ·exact Xb (fn:=Tryz.f104) (args:=[dc[j2]!.val,dc[a]!.val]) (cap:=[]) rfl (zf1 d4) rfl zf0 zf0 Tryz.func104 kr kr (Xm bk ba)
      ·rfl
      exact zk2 d7 d4
     case ht=>rfl
     case hF=>exact zh
     show CW _ _ _ _
     refine zw0 ?_
     refine Qa rfl ?_
     refine Qj ?_
     exact⟨rfl,rfl,k1,k2,zg0⟩
  ·have d4:decide ((i2:Int)≤(k:Int))=false:=decide_eq_false om
   have hst:j2=k:=by rw[← k3];exact Zw om
   subst hst
   refine zw0 ?_
   apply Xi (L:=[[],[],[0,1],[2],[3],[3],[3],[3,5,6],[3,7],[3],[3],[3,9,10],[3,11],[3,4,8,12],[3,13],[3,14],[3,15]]) (resL:=[_,_,_,_,_,_,_,_,_,_,_,_,_,_,_,_,_]) (frF:=[(0,.val (.slice (some ⟨id,0,some ver⟩) d.size c)),(1,.val (i64 a)),(4,.val Qs),(12,.val (i64 i2)),(13,.val (i64 j2)),(66,.val (.bool false))])
   case hm=>exact Qq
   case hc=>kernel_rfl
   case hb=>rfl
   case hS=>exact zk1 d4
   case ht=>rfl
   case hF=>exact zh
   show CW _ _ _ _
   refine zw0 ?_
   refine Qa rfl ?_
   refine Qj ?_
   exact⟨rfl,rfl,k1,k2,zg0⟩
 rintro e s' ⟨rfl,hh,hjj,haj2,hf⟩
 show CW _ _ _ _
 refine Qi _ hf ?_
 rw[hh]
 clear hf hh
 by_cases hgt:j2<i2
 ·have d5:decide ((j2:Int)<(i2:Int))=true:=decide_eq_true om
  rw[if_pos hgt,hR'] at hstep
  have hy1:j2<dc.size:=by omega
  have gy:=Xk hy1
  have ry:=rng (k:=j2) (n:=d.size) om
  refine zw1 d5 ?_
  refine Qb rfl ?_
  refine zw0 ?_
  refine Qi [(0,.val (.slice (some ⟨id,0,some ver⟩) d.size c)),(1,.val (i64 a)),(4,.val Qs),(12,.val (i64 i2)),(13,.val (i64 j2))] zg0 ?_
  show CW _ _ ⟨_,[],hc⟩ _
  apply Xd (L:=[[],[],[],[],[],[],[4,5],[4,5,6],[],[],[8,9],[8,9,10],[0,1],[0,1,4,5,6,7,8,9,10,11,12],[2,3],[0,1,2,3,4,5,6,7,8,9,10,11,12,13,14]]) (act:=[13,15]) (hs:=[hc.set id (.arr (IC (dc.setIfInBounds j2 dc[a]!)) ver true 70),hc.set id (.arr (IC (Go.Sort.swp dc j2 a)) ver true 70)]) (resL:=[_,_,_,_,_,_,_,_,_,_,_,_,_,_,_,_]) (frF:=[(0,.val (.slice (some ⟨id,0,some ver⟩) d.size c)),(1,.val (i64 a)),(4,.val Qs),(12,.val (i64 i2)),(13,.val (i64 j2))])
  case hm=>exact Qq
  case hc=>kernel_rfl
  case ha=>rfl
  case hb=>rfl
  case hS=>
   refine za6 hg gy ga ry ra Nat.mul_one ?_
   apply StepsA.cons
   ·rfl
   ·refine⟨?_,trivial⟩
    exact Xf (r:=.sl .unk) rfl zf0 rfl zf0 zf0 hg zf0 rfl (Yd (d:=dc) (i:=j2) (x:=dc[a]!) hy1) rfl rfl
   ·rfl
   refine za6 hg gy ga ry ra Nat.mul_one ?_
   apply StepsA.cons
   ·rfl
   ·refine⟨?_,trivial⟩
    exact Xf (r:=.sl .unk) rfl zf0 rfl zf0 zf0 (Qh hg) zf0 rfl (Yd (d:=dc.setIfInBounds j2 dc[a]!) (i:=a) (x:=dc[j2]!) (by simpa using hac)) rfl set_set_heap.symm
   ·rfl
   exact StepsA.nil _
  case ht=>rfl
  case hF=>exact zh
  show CW _ _ _ _
  refine zw0 ?_
  refine Qd ?_
  refine⟨_,zf0,true,by rw[hstep];rfl,?_⟩
  simp only[hstep]
  exact⟨by rw[← hhc,set_set_heap],D1.swp hy1 hac,by rw[Yt];exact h3⟩
 have d5:decide ((j2:Int)<(i2:Int))=false:=decide_eq_false om
 rw[if_neg hgt,hR'] at hstep
 have hx1:i2<dc.size:=by omega
 have hy1:j2<dc.size:=by omega
 have gx:=Xk hx1
 have gy:=Xk hy1
 have rx:=rng (k:=i2) (n:=d.size) om
 have ry:=rng (k:=j2) (n:=d.size) om
 have e6:IntKind.i64.wrap ((i2:Int)+1)=(i2:Int)+1:=Qg om om
 obtain⟨q,hq⟩:∃ q,q=j2-1:=⟨_,rfl⟩
 have e7:IntKind.i64.wrap ((j2:Int)-1)=(q:Int):=by rw[Qg om om];omega
 rw[← hq] at hstep
 refine zw1 d5 ?_
 refine Qa rfl ?_
 refine zw0 ?_
 refine Qi [(0,.val (.slice (some ⟨id,0,some ver⟩) d.size c)),(1,.val (i64 a)),(4,.val Qs),(12,.val (i64 i2)),(13,.val (i64 j2))] zg0 ?_
 show CW _ _ ⟨_,[],hc⟩ _
 apply Xd (L:=[[],[],[],[],[],[],[4,5],[4,5,6],[],[],[8,9],[8,9,10],[0,1],[0,1,4,5,6,7,8,9,10,11,12],[2,3],[0,1,2,3,4,5,6,7,8,9,10,11,12,13,14]]) (act:=[13,15]) (hs:=[hc.set id (.arr (IC (dc.setIfInBounds i2 dc[j2]!)) ver true 70),hc.set id (.arr (IC (Go.Sort.swp dc i2 j2)) ver true 70)]) (resL:=[_,_,_,_,_,_,_,_,_,_,_,_,_,_,_,_]) (frF:=[(0,.val (.slice (some ⟨id,0,some ver⟩) d.size c)),(1,.val (i64 a)),(4,.val Qs),(12,.val (i64 i2)),(13,.val (i64 j2))])
 case hm=>exact Qq
 case hc=>kernel_rfl
 case ha=>rfl
 case hb=>rfl
 case hS=>
  refine za6 hg gx gy rx ry Nat.mul_one ?_
  apply StepsA.cons
  ·rfl
  ·refine⟨?_,trivial⟩
   exact Xf (r:=.sl .unk) rfl zf0 rfl zf0 zf0 hg zf0 rfl (Yd (d:=dc) (i:=i2) (x:=dc[j2]!) hx1) rfl rfl
  ·rfl
  refine za6 hg gx gy rx ry Nat.mul_one ?_
  apply StepsA.cons
  ·rfl
  ·refine⟨?_,trivial⟩
   exact Xf (r:=.sl .unk) rfl zf0 rfl zf0 zf0 (Qh hg) zf0 rfl (Yd (d:=dc.setIfInBounds i2 dc[j2]!) (i:=j2) (x:=dc[i2]!) (by simpa using hy1)) rfl set_set_heap.symm
  ·rfl
  exact StepsA.nil _
 case ht=>rfl
 case hF=>exact zh
 show CW _ _ _ _
 refine zw2 e6 e7 ?_
 refine Jh (fun x:Nat×Nat×Array BanE×Heap=>x.2.1+3-x.1) (fun x=>[(0,.val (.slice (some ⟨id,0,some ver⟩) d.size c)),(1,.val (i64 a)),(4,.val Qs),(12,.val (i64 x.1)),(13,.val (i64 x.2.1))]) (fun x=>x.2.2.2)
  (fun x=>a<x.1∧x.1≤x.2.1+2∧x.2.1<d.size∧a≤x.2.1∧x.2.2.1.size=d.size∧x.2.2.2=h.set id (.arr (IC x.2.2.1) ver true 70)∧DA x.2.2.2 id ver x.2.2.1∧Go.Sort.partLoop ltI a x.1 x.2.1 x.2.2.1=R) (i2+1,q,Go.Sort.swp dc i2 j2,_) zg0 rfl ⟨by simp only;omega,by simp only;omega,by simp only;omega,by simp only;omega,by simp only;rw[Yt];exact h3,by simp only;rw[← hhc,set_set_heap],D1.swp hx1 hy1,hstep.symm⟩ ?_
 clear hg ga gx gy D1 D0 ba h1 h2 h2' haj h3 ra hac hstep hi2 hj2 hR' hhc hdc hi0 hj0 hR hi1 hj1 e6 e7 d5 rx ry hx1 hy1 hgt hii hij2 hjj haj2 hq
 clear i2 j2 i j dc hc i0 j0 q
 rintro⟨i,j,dc,hc⟩ ⟨h1,h2,h2',haj,h3,h4,D1,h5⟩
 simp only at h1 h2 h2' haj h3 h4 D1 h5 ⊢
 have hg:=D1.g
 have hac:a<dc.size:=by omega
 have ga:=Xk hac
 have ba:=D1.b _ hac
 have ra:=rng (k:=a) (n:=d.size) om
 obtain⟨i2,hi2⟩:∃ i2,Go.Sort.scanUp (upP dc a) dc j i=i2:=⟨_,rfl⟩
 refine zw0 ?_
 refine CW.mono (Q:=fun e s'=>e = .exit 6∧s'.h=hc∧i≤i2∧i2≤j+2∧SubL [(0,.val (.slice (some ⟨id,0,some ver⟩) d.size c)),(1,.val (i64 a)),(4,.val Qs),(12,.val (i64 i2)),(13,.val (i64 j))] s'.fr) ?_ ?_
 ·refine Jh (fun k:Nat=>j+1-k) (fun k=>[(0,.val (.slice (some ⟨id,0,some ver⟩) d.size c)),(1,.val (i64 a)),(4,.val Qs),(12,.val (i64 k)),(13,.val (i64 j))]) (fun _=>hc)
   (fun k=>i≤k∧k≤j+2∧Go.Sort.scanUp (upP dc a) dc j k=i2) i zg0 rfl ⟨Nat.le_refl _,h2,hi2⟩ ?_
  rintro k ⟨k1,k2,k3⟩
  by_cases hkj:k≤j
  ·have d4:decide ((k:Int)≤(j:Int))=true:=decide_eq_true om
   have hk1:k<dc.size:=by omega
   have gk:=Xk hk1
   have bk:=D1.b _ hk1
   have rk:=rng (k:=k) (n:=d.size) om
   have e4:IntKind.i64.wrap ((k:Int)+1)=(k:Int)+1:=Qg om om
   cases hl:ltI dc[k]! dc[a]! with
   | true=>
     have d7:decide (cmpI dc[k]! dc[a]! < 0)=true:=hl
     refine zw0 ?_
     apply Xi (L:=[[],[],[0,1],[2],[3],[3],[3],[3,5,6],[3,7],[3],[3],[3,9,10],[3,11],[3,4,8,12],[3,13],[3,14]]) (resL:=[_,_,_,_,_,_,_,_,_,_,_,_,_,_,_,_]) (frF:=[(0,.val (.slice (some ⟨id,0,some ver⟩) d.size c)),(1,.val (i64 a)),(4,.val Qs),(12,.val (i64 k)),(13,.val (i64 j)),(120,.val (.bool true))])
     case hm=>exact Qq
     case hc=>kernel_rfl
     case hb=>rfl
     case hS=>
      refine zl7 d4 hg ga gk ra rk Nat.mul_one ?_
      apply Steps0.cons
      ·exact Xb (fn:=Tryz.f104) (args:=[dc[k]!.val,dc[a]!.val]) (cap:=[]) rfl (zf1 d4) rfl zf0 zf0 Tryz.func104 kr kr (Xm bk ba)
      ·rfl
      exact zk2 d7 d4
     case ht=>rfl
     case hF=>exact zh
     show CW _ _ _ _
     refine zw0 ?_
     refine Qb rfl ?_
     refine zw1 e4 ?_
     exact⟨k+1,by dsimp only;omega,zg0,rfl,by omega,by omega,by rw[← k3];exact (Qdn hkj (by unfold upP;exact hl)).symm⟩
   | false=>
     have d7:decide (cmpI dc[k]! dc[a]! < 0)=false:=hl
     have hst:i2=k:=by rw[← k3];exact Qac (by unfold upP;rw[hl];simp)
     subst hst
     refine zw0 ?_
     apply Xi (L:=[[],[],[0,1],[2],[3],[3],[3],[3,5,6],[3,7],[3],[3],[3,9,10],[3,11],[3,4,8,12],[3,13],[3,14]]) (resL:=[_,_,_,_,_,_,_,_,_,_,_,_,_,_,_,_]) (frF:=[(0,.val (.slice (some ⟨id,0,some ver⟩) d.size c)),(1,.val (i64 a)),(4,.val Qs),(12,.val (i64 i2)),(13,.val (i64 j)),(120,.val (.bool false))])
     case hm=>exact Qq
     case hc=>kernel_rfl
     case hb=>rfl
     case hS=>
      refine zl7 d4 hg ga gk ra rk Nat.mul_one ?_
      apply Steps0.cons
      ·exact Xb (fn:=Tryz.f104) (args:=[dc[i2]!.val,dc[a]!.val]) (cap:=[]) rfl (zf1 d4) rfl zf0 zf0 Tryz.func104 kr kr (Xm bk ba)
      ·rfl
      exact zk2 d7 d4
     case ht=>rfl
     case hF=>exact zh
     show CW _ _ _ _
     refine zw0 ?_
     refine Qa rfl ?_
     refine Qj ?_
     exact⟨rfl,rfl,k1,k2,zg0⟩
  ·have d4:decide ((k:Int)≤(j:Int))=false:=decide_eq_false om
   have hst:i2=k:=by rw[← k3];exact Qac om
   subst hst
   refine zw0 ?_
   apply Xi (L:=[[],[],[0,1],[2],[3],[3],[3],[3,5,6],[3,7],[3],[3],[3,9,10],[3,11],[3,4,8,12],[3,13],[3,14]]) (resL:=[_,_,_,_,_,_,_,_,_,_,_,_,_,_,_,_]) (frF:=[(0,.val (.slice (some ⟨id,0,some ver⟩) d.size c)),(1,.val (i64 a)),(4,.val Qs),(12,.val (i64 i2)),(13,.val (i64 j)),(120,.val (.bool false))])
   case hm=>exact Qq
   case hc=>kernel_rfl
   case hb=>rfl
   case hS=>exact zk1 d4
   case ht=>rfl
   case hF=>exact zh
   show CW _ _ _ _
   refine zw0 ?_
   refine Qa rfl ?_
   refine Qj ?_
   exact⟨rfl,rfl,k1,k2,zg0⟩
 rintro e s' ⟨rfl,hh,hii,hij2,hf⟩
 show CW _ _ _ _
 refine Qi _ hf ?_
 rw[hh]
 clear hf hh
 obtain⟨j2,hj2⟩:∃ j2,Go.Sort.scanDown (dnP dc a) dc i2 j=j2:=⟨_,rfl⟩
 have hstep:=Qka hi2 hj2 h2
 refine zw0 ?_
 refine CW.mono (Q:=fun e s'=>e = .exit 8∧s'.h=hc∧j2≤j∧a≤j2∧SubL [(0,.val (.slice (some ⟨id,0,some ver⟩) d.size c)),(1,.val (i64 a)),(4,.val Qs),(12,.val (i64 i2)),(13,.val (i64 j2))] s'.fr) ?_ ?_
 ·refine Jh (fun k:Nat=>k) (fun k=>[(0,.val (.slice (some ⟨id,0,some ver⟩) d.size c)),(1,.val (i64 a)),(4,.val Qs),(12,.val (i64 i2)),(13,.val (i64 k))]) (fun _=>hc)
   (fun k=>k≤j∧a≤k∧Go.Sort.scanDown (dnP dc a) dc i2 k=j2) j zg0 rfl ⟨Nat.le_refl _,haj,hj2⟩ ?_
  rintro k ⟨k1,k2,k3⟩
  by_cases hkj:i2≤k
  ·have d4:decide ((i2:Int)≤(k:Int))=true:=decide_eq_true om
   have hk1:k<dc.size:=by omega
   have gk:=Xk hk1
   have bk:=D1.b _ hk1
   have rk:=rng (k:=k) (n:=d.size) om
   obtain⟨q,hq⟩:∃ q,k=q+1:=⟨k-1,by omega⟩
   have e4:IntKind.i64.wrap ((k:Int)-1)=(q:Int):=by rw[Qg om om];omega
   cases hl:ltI dc[k]! dc[a]! with
   | false=>
     have d7:decide (cmpI dc[k]! dc[a]! < 0)=false:=hl
     refine zw0 ?_
     apply Xi (L:=[[],[],[0,1],[2],[3],[3],[3],[3,5,6],[3,7],[3],[3],[3,9,10],[3,11],[3,4,8,12],[3,13],[3,14],[3,15]]) (resL:=[_,_,_,_,_,_,_,_,_,_,_,_,_,_,_,_,_]) (frF:=[(0,.val (.slice (some ⟨id,0,some ver⟩) d.size c)),(1,.val (i64 a)),(4,.val Qs),(12,.val (i64 i2)),(13,.val (i64 k)),(139,.val (.bool true))])
     case hm=>exact Qq
     case hc=>kernel_rfl
     case hb=>rfl
     case hS=>
      refine zl7 d4 hg ga gk ra rk Nat.mul_one ?_
      apply Steps0.cons
      ·exact Xb (fn:=Tryz.f104) (args:=[dc[k]!.val,dc[a]!.val]) (cap:=[]) rfl (zf1 d4) rfl zf0 zf0 Tryz.func104 kr kr (Xm bk ba)
      ·rfl
      exact zk2 d7 d4
     case ht=>rfl
     case hF=>exact zh
     show CW _ _ _ _
     refine zw0 ?_
     refine Qb rfl ?_
     refine zw1 e4 ?_
     refine⟨q,by dsimp only;omega,zg0,rfl,by omega,by omega,?_⟩
     rw[← k3,hq]
     refine (Qb5 om ?_).symm
     rw[← hq]
     unfold dnP
     rw[hl]
     rfl
   | true=>
     have d7:decide (cmpI dc[k]! dc[a]! < 0)=true:=hl
     have hst:j2=k:=by rw[← k3];exact Zw (by unfold dnP;rw[hl];simp)
     subst hst
     refine zw0 ?_
     apply Xi (L:=[[],[],[0,1],[2],[3],[3],[3],[3,5,6],[3,7],[3],[3],[3,9,10],[3,11],[3,4,8,12],[3,13],[3,14],[3,15]]) (resL:=[_,_,_,_,_,_,_,_,_,_,_,_,_,_,_,_,_]) (frF:=[(0,.val (.slice (some ⟨id,0,some ver⟩) d.size c)),(1,.val (i64 a)),(4,.val Qs),(12,.val (i64 i2)),(13,.val (i64 j2)),(139,.val (.bool false))])
     case hm=>exact Qq
     case hc=>kernel_rfl
     case hb=>rfl
     case hS=>
      refine zl7 d4 hg ga gk ra rk Nat.mul_one ?_
      apply Steps0.cons
      ·exact Xb (fn:=Tryz.f104) (args:=[dc[j2]!.val,dc[a]!.val]) (cap:=[]) rfl (zf1 d4) rfl zf0 zf0 Tryz.func104 kr kr (Xm bk ba)
      ·rfl
      exact zk2 d7 d4
     case ht=>rfl
     case hF=>exact zh
     show CW _ _ _ _
     refine zw0 ?_
     refine Qa rfl ?_
     refine Qj ?_
     exact⟨rfl,rfl,k1,k2,zg0⟩
  ·have d4:decide ((i2:Int)≤(k:Int))=false:=decide_eq_false om
   have hst:j2=k:=by rw[← k3];exact Zw om
   subst hst
   refine zw0 ?_
   apply Xi (L:=[[],[],[0,1],[2],[3],[3],[3],[3,5,6],[3,7],[3],[3],[3,9,10],[3,11],[3,4,8,12],[3,13],[3,14],[3,15]]) (resL:=[_,_,_,_,_,_,_,_,_,_,_,_,_,_,_,_,_]) (frF:=[(0,.val (.slice (some ⟨id,0,some ver⟩) d.size c)),(1,.val (i64 a)),(4,.val Qs),(12,.val (i64 i2)),(13,.val (i64 j2)),(139,.val (.bool false))])
   case hm=>exact Qq
   case hc=>kernel_rfl
   case hb=>rfl
   case hS=>exact zk1 d4
   case ht=>rfl
   case hF=>exact zh
   show CW _ _ _ _
   refine zw0 ?_
   refine Qa rfl ?_
   refine Qj ?_
   exact⟨rfl,rfl,k1,k2,zg0⟩
 rintro e s' ⟨rfl,hh,hjj,haj2,hf⟩
 show CW _ _ _ _
 refine Qi _ hf ?_
 rw[hh]
 clear hf hh
 by_cases hgt:j2<i2
 ·have d5:decide ((j2:Int)<(i2:Int))=true:=decide_eq_true om
  rw[if_pos hgt,h5] at hstep
  have hy1:j2<dc.size:=by omega
  have gy:=Xk hy1
  have ry:=rng (k:=j2) (n:=d.size) om
  refine zw1 d5 ?_
  refine Qb rfl ?_
  refine Qj ?_
  show CW _ _ _ _
  refine zw0 ?_
  refine Qi [(0,.val (.slice (some ⟨id,0,some ver⟩) d.size c)),(1,.val (i64 a)),(4,.val Qs),(12,.val (i64 i2)),(13,.val (i64 j2))] zg0 ?_
  show CW _ _ ⟨_,[],hc⟩ _
  apply Xd (L:=[[],[],[],[],[],[],[4,5],[4,5,6],[],[],[8,9],[8,9,10],[0,1],[0,1,4,5,6,7,8,9,10,11,12],[2,3],[0,1,2,3,4,5,6,7,8,9,10,11,12,13,14]]) (act:=[13,15]) (hs:=[hc.set id (.arr (IC (dc.setIfInBounds j2 dc[a]!)) ver true 70),hc.set id (.arr (IC (Go.Sort.swp dc j2 a)) ver true 70)]) (resL:=[_,_,_,_,_,_,_,_,_,_,_,_,_,_,_,_]) (frF:=[(0,.val (.slice (some ⟨id,0,some ver⟩) d.size c)),(1,.val (i64 a)),(4,.val Qs),(12,.val (i64 i2)),(13,.val (i64 j2))])
  case hm=>exact Qq
  case hc=>kernel_rfl
  case ha=>rfl
  case hb=>rfl
  case hS=>
   refine za6 hg gy ga ry ra Nat.mul_one ?_
   apply StepsA.cons
   ·rfl
   ·refine⟨?_,trivial⟩
    exact Xf (r:=.sl .unk) rfl zf0 rfl zf0 zf0 hg zf0 rfl (Yd (d:=dc) (i:=j2) (x:=dc[a]!) hy1) rfl rfl
   ·rfl
   refine za6 hg gy ga ry ra Nat.mul_one ?_
   apply StepsA.cons
   ·rfl
   ·refine⟨?_,trivial⟩
    exact Xf (r:=.sl .unk) rfl zf0 rfl zf0 zf0 (Qh hg) zf0 rfl (Yd (d:=dc.setIfInBounds j2 dc[a]!) (i:=a) (x:=dc[j2]!) (by simpa using hac)) rfl set_set_heap.symm
   ·rfl
   exact StepsA.nil _
  case ht=>rfl
  case hF=>exact zh
  show CW _ _ _ _
  refine zw0 ?_
  refine Qd ?_
  refine⟨_,zf0,false,by rw[hstep];rfl,?_⟩
  simp only[hstep]
  exact⟨by rw[h4,set_set_heap],D1.swp hy1 hac,by rw[Yt];exact h3⟩
 have d5:decide ((j2:Int)<(i2:Int))=false:=decide_eq_false om
 rw[if_neg hgt,h5] at hstep
 have hx1:i2<dc.size:=by omega
 have hy1:j2<dc.size:=by omega
 have gx:=Xk hx1
 have gy:=Xk hy1
 have rx:=rng (k:=i2) (n:=d.size) om
 have ry:=rng (k:=j2) (n:=d.size) om
 have e6:IntKind.i64.wrap ((i2:Int)+1)=(i2:Int)+1:=Qg om om
 obtain⟨q,hq⟩:∃ q,q=j2-1:=⟨_,rfl⟩
 have e7:IntKind.i64.wrap ((j2:Int)-1)=(q:Int):=by rw[Qg om om];omega
 rw[← hq] at hstep
 refine zw1 d5 ?_
 refine Qa rfl ?_
 refine zw0 ?_
 refine Qi [(0,.val (.slice (some ⟨id,0,some ver⟩) d.size c)),(1,.val (i64 a)),(4,.val Qs),(12,.val (i64 i2)),(13,.val (i64 j2))] zg0 ?_
 show CW _ _ ⟨_,[],hc⟩ _
 apply Xd (L:=[[],[],[],[],[],[],[4,5],[4,5,6],[],[],[8,9],[8,9,10],[0,1],[0,1,4,5,6,7,8,9,10,11,12],[2,3],[0,1,2,3,4,5,6,7,8,9,10,11,12,13,14]]) (act:=[13,15]) (hs:=[hc.set id (.arr (IC (dc.setIfInBounds i2 dc[j2]!)) ver true 70),hc.set id (.arr (IC (Go.Sort.swp dc i2 j2)) ver true 70)]) (resL:=[_,_,_,_,_,_,_,_,_,_,_,_,_,_,_,_]) (frF:=[(0,.val (.slice (some ⟨id,0,some ver⟩) d.size c)),(1,.val (i64 a)),(4,.val Qs),(12,.val (i64 i2)),(13,.val (i64 j2))])
 case hm=>exact Qq
 case hc=>kernel_rfl
 case ha=>rfl
 case hb=>rfl
 case hS=>
  refine za6 hg gx gy rx ry Nat.mul_one ?_
  apply StepsA.cons
  ·rfl
  ·refine⟨?_,trivial⟩
   exact Xf (r:=.sl .unk) rfl zf0 rfl zf0 zf0 hg zf0 rfl (Yd (d:=dc) (i:=i2) (x:=dc[j2]!) hx1) rfl rfl
  ·rfl
  refine za6 hg gx gy rx ry Nat.mul_one ?_
  apply StepsA.cons
  ·rfl
  ·refine⟨?_,trivial⟩
   exact Xf (r:=.sl .unk) rfl zf0 rfl zf0 zf0 (Qh hg) zf0 rfl (Yd (d:=dc.setIfInBounds i2 dc[j2]!) (i:=j2) (x:=dc[i2]!) (by simpa using hy1)) rfl set_set_heap.symm
  ·rfl
  exact StepsA.nil _
 case ht=>rfl
 case hF=>exact zh
 show CW _ _ _ _
 refine zw2 e6 e7 ?_
 exact⟨(i2+1,q,Go.Sort.swp dc i2 j2,_),by simp only;omega,zg0,rfl,by simp only;omega,by simp only;omega,by simp only;omega,by simp only;omega,by simp only;rw[Yt];exact h3,by simp only;rw[h4,set_set_heap],D1.swp hx1 hy1,hstep.symm⟩
end Go.Proofs.YtmdmimkbpikmoaaGreat
