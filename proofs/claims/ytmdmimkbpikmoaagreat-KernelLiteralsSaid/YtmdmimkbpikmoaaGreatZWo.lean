/- Several texts, one behind the other. -/
import Derived.Test.YtmdmimkbpikmoaaGreatZTd
import Derived.Test.YtmdmimkbpikmoaaGreatZV3
import Derived.Test.YtmdmimkbpikmoaaGreatZG5
set_option linter.unusedSimpArgs false
set_option linter.unusedVariables false
set_option maxHeartbeats 8000000
namespace Go.Proofs.YtmdmimkbpikmoaaGreat
set_option maxRecDepth 20000
open Go.RowKit Am Ty
theorem nD {α β:Type} {f:α→List β} {B:Nat}:∀ {l:List α},(∀ x∈l,(f x).length≤B)→(l.flatMap f).length≤l.length*B
 | [],_=>by simp
 | x :: l,h=>by
   have ih:=nD (f:=f) (B:=B) (l:=l) fun y hy=>h y (List.mem_cons_of_mem _ hy)
   have:=h x List.mem_cons_self
   rw[List.flatMap_cons,List.length_append,List.length_cons,Nat.succ_mul]
   omega
theorem rT {α β:Type} {f:α→List β} {g:α→Nat}:∀ {l:List α},(∀ x∈l,(f x).length≤g x)→(l.flatMap f).length≤(l.map g).sum
 | [],_=>by simp
 | x :: l,h=>by
   have ih:=rT (f:=f) (g:=g) (l:=l) fun y hy=>h y (List.mem_cons_of_mem _ hy)
   have:=h x List.mem_cons_self
   rw[List.flatMap_cons,List.length_append,List.map_cons,List.sum_cons]
   omega
theorem uB {α:Type} {g:α→Nat} {B:Nat}:∀ l:List α,(l.map fun x=>g x*B).sum=(l.map g).sum*B
 | []=>by simp
 | x :: l=>by
   rw[List.map_cons,List.sum_cons,List.map_cons,List.sum_cons,uB l,Nat.add_mul]
theorem yo (f:Nat→Nat):∀ (n:Nat) (I:List Nat),I.Nodup→(∀ i∈I,i<n)→(I.map f).sum≤((List.range n).map f).sum
 | 0,I,_,h=>by
   have:I=[]:=by
    cases I with
    | nil=>rfl
    | cons a r=>exact absurd (h a List.mem_cons_self) om
   rw[this]
   simp
 | n+1,I,hn,h=>by
   rw[List.range_succ,List.map_append,List.sum_append,List.map_singleton,List.sum_singleton]
   by_cases q:n∈I
   ·have hp:=List.perm_cons_erase q
    have e:=(hp.map f).sum_nat
    rw[List.map_cons,List.sum_cons] at e
    have ih:=yo f n (I.erase n) (hn.erase n) fun i hi=>by
     have h1:=h i (List.mem_of_mem_erase hi)
     have h2:i≠n:=fun e=>by
      subst e
      exact (List.Nodup.not_mem_erase hn) hi
     omega
    omega
   ·have ih:=yo f n I hn fun i hi=>by
     have h1:=h i hi
     have h2:i≠n:=fun e=>q (e▸hi)
     omega
    omega
theorem BN {α:Type} (g:α→Nat) (l:List α):((List.range l.length).map fun i=>(l[i]?.map g).getD 0)=l.map g:=by{
refine List.ext_getElem (by simp) fun i h1 h2=>?_
rw[List.length_map] at h2
simp [h2]}
section
variable {d:b7}
theorem EB (G:nL d) {i:Nat} (hi:i<d.aa.length):jy d.aa[i]≤16:=rA (G.p _ (List.getElem_mem hi)).o
theorem Af (G:nL d) (hp:cZ d≤160):(wP d).length≤3000:=by{
obtain⟨h1,h2,h3,h4,h5⟩:=jZ hp
have a:=mI G.p d.aa.length
have b:=nT (d:=d) (l:=bj d.aa)
have c:=lE (ps:=d.aa) (l:=[])
have e:(nB d).length≤3:=by unfold nB;split<;>simp
simp only[List.length_nil] at c
unfold wP
rw[List.length_append,List.length_append]
unfold bj at b ⊢
omega}
theorem ol (G:nL d):∀ o∈fQ d,o.al.length≤396:=by{
intro o ho
unfold fQ at ho
rw[List.mem_map] at ho
obtain⟨x,hx,rfl⟩:=ho
unfold wP at hx
rw[List.mem_append,List.mem_append] at hx
have key:∀ k,k≤d.aa.length→∀ x∈iI d k,x.2.al.length≤396:=by
 intro k
 induction k with
 | zero=>intro _ x hx;simp [iI] at hx
 | succ k ih=>
   intro hk x hx
   rw[lD (show k<d.aa.length by omega),List.mem_append] at hx
   rcases hx with hx|hx
   ·exact ih om x hx
   ·unfold ji at hx
    rw[List.mem_map] at hx
    obtain⟨m,_,rfl⟩:=hx
    have hG:=G.p _ (List.getElem_mem (show k<d.aa.length by omega))
    have:=oH (mask:=m) hG d.aa[k].al.length
    have h12:=hG.n
    show (fh d d.aa[k] m).os.length≤396
    unfold fh
    omega
rcases hx with (hx|hx) | hx
·exact key _ (Nat.le_refl _) x hx
·unfold iY at hx
 rw[List.mem_flatMap] at hx
 obtain⟨k,_,hx⟩:=hx
 unfold B6 at hx
 simp only[List.mem_cons,List.not_mem_nil,or_false] at hx
 rcases hx with rfl|rfl<;>simp
·unfold nB at hx
 split at hx
 ·simp only[List.mem_cons,List.not_mem_nil,or_false] at hx
  subst hx
  simp
 ·simp only[List.mem_cons,List.not_mem_nil,or_false] at hx
  rcases hx with rfl|rfl|rfl<;>simp}
theorem tF (G:nL d) {i:Nat} (hi:i<d.aa.length):(el (fQ d) i).length≤16:=by
 rw[Em hi,List.length_map,List.length_range]
 exact EB G hi
theorem Gh (G:nL d) {p a q:Nat} (hp:p<d.aa.length) (hq:q<d.aa.length):(sK (fQ d) p a q).length≤101376:=by{
unfold sK
have h1:=tF G hp
have h2:((el (fQ d) p).flatMap (nZ (fQ d) a q)).length≤(el (fQ d) p).length*6336:=by
 refine nD fun r hr=>?_
 have h3:=lp hr
 unfold nZ
 rw[List.getElem?_eq_getElem h3]
 simp only
 have h4:=ol G _ (List.getElem_mem h3)
 have h5:((List.range (fQ d)[r].al.length).flatMap (pz (fQ d) r (fQ d)[r] a q)).length≤(List.range (fQ d)[r].al.length).length*16:=by
  refine nD fun j _=>?_
  unfold pz
  split
  ·rw[List.length_map];exact tF G hq
  ·simp
 rw[List.length_range] at h5
 omega
omega}
theorem F7 (G:nL d) {p q:CE} (hp:p.at_<d.aa.length) (hq:q.at_<d.aa.length):(jC d (fQ d) p q).length≤((d.aa[p.at_]?.map fun x=>x.al.length).getD 0)*101376:=by{
unfold jC
rw[List.getElem?_eq_getElem hp]
simp only[Option.map_some,Option.getD_some]
have:=nD (f:=fun y:Sym×Nat=>uV d (fQ d) p q d.aa[p.at_].al.length y.2 y.1) (B:=101376) (l:=d.aa[p.at_].al.zipIdx) fun y _=>by
 unfold uV
 rw[List.getElem?_eq_getElem hq]
 simp only
 split
 ·exact Gh G hp hq
 ·simp
rw[List.length_zipIdx] at this
exact this}
theorem Bl (G:nL d) {l:List dT} (hok:gv d.aa (cY l)):(gz d (fQ d) l).length≤dp (fun p=>p.al.length) d.aa*((cY l).length*101376):=by{
unfold gz
have h1:((pW d.aa l).flatMap fun p=>(pW d.aa l).flatMap fun q=>jC d (fQ d) p q).length≤((pW d.aa l).map fun p=>((d.aa[p.at_]?.map fun x=>x.al.length).getD 0)*((cY l).length*101376)).sum:=by
 refine rT fun p hp=>?_
 have h2:=nD (f:=fun q=>jC d (fQ d) p q) (l:=pW d.aa l) (B:=((d.aa[p.at_]?.map fun x=>x.al.length).getD 0)*101376) fun q hq=>F7 G (uy hok hp) (uy hok hq)
 rw[uX] at h2
 refine Nat.le_trans h2 (Nat.le_of_eq ?_)
 rw[Nat.mul_left_comm]
refine Nat.le_trans h1 ?_
rw[uB]
refine Nat.mul_le_mul_right _ ?_
have h3:=yo (fun i=>(d.aa[i]?.map fun x=>x.al.length).getD 0) d.aa.length ((pW d.aa l).map CE.at_) (oB hok) fun i hi=>by
 rw[List.mem_map] at hi
 obtain⟨e,he,rfl⟩:=hi
 exact uy hok he
rw[BN,List.map_map] at h3
exact h3}
theorem tg (l:List dT):(cY l).length≤CF l:=by{
unfold cY CF dp
rw[List.length_flatMap]
exact Nat.le_add_left _ _}
theorem GJ (G:nL d) (hok:uY d) (hp:cZ d≤160):(ky d (fQ d)).length≤1000000000:=by{
obtain⟨h1,h2,h3,h4,h5⟩:=jZ hp
unfold ky
have a:=rT (f:=gz d (fQ d)) (g:=fun l=>CF l*(dp (fun p=>p.al.length) d.aa*101376)) (l:=d.ax) fun l hl=>by
 refine Nat.le_trans (Bl G (hok l hl)) ?_
 rw[Nat.mul_left_comm]
 exact Nat.mul_le_mul_right _ (tg l)
rw[uB] at a
have e:(d.ax.map CF).sum=dp CF d.ax:=rfl
rw[e] at a
generalize dp (fun p=>p.al.length) d.aa=S at a h5
generalize dp CF d.ax=C at a h5
have:C*(S*101376)≤160*(160*101376) / 1:=by
 rw[Nat.div_one]
 exact Nat.mul_le_mul om (Nat.mul_le_mul_right _ om)
have hCS:C*S≤6400:=by
 have h:C≤160-S:=by omega
 have h2:C*S≤(160-S)*S:=Nat.mul_le_mul_right _ h
 have h3:∀ S:Fin 161,(160-S.1)*S.1≤6400:=by decide
 have:=h3 ⟨S,by omega⟩
 simp only at this
 omega
have e2:C*(S*101376)=C*S*101376:=(Nat.mul_assoc _ _ _).symm
rw[e2] at a
omega}
theorem Ex (hp:cZ d≤160):∀ c∈d.ax,(cY c).length≤1000∧c.length≤1000:=by{
intro c hc
obtain⟨h1,h2,h3,h4,h5⟩:=jZ hp
have a:=qS (f:=CF) hc
have b:=tg c
have e:c.length≤CF c:=by unfold CF;omega
omega}
end
def j9 (d:b7) (nm:List ByteArray):List ByteArray:=aF d.aa++nm++(if cN d.layout=true then [] else [ByteArray.mk #[103,97,112]])++[ByteArray.mk #[116,111,112]]
abbrev tA (m:MK):Value:=.agg #[.string m.start,.string m.layout,m.vP,m.vC,m.Mm,m.Ml,m.vB,i64 m.fk,i64 m.st,m.vr,m.vf,m.vn,m.vb,m.vF,m.vR]
abbrev Qn:Value:=.agg #[.string ⟨#[]⟩,.string ⟨#[]⟩,bD,bD,bD,bD,bD,i64 0,i64 0,bD,bD,bD,bD,bD,bD]
structure KO (h h':ah) (d:b7) (m:MK) (nm:List ByteArray):Prop where
 p:h <+: h'
 D:Fr (fun x=>bK x d m.vP m.vC m.Mm m.Ml m.vB) h.length h'
 s1:m.start=d.start
 s2:m.layout=d.layout
 fk:m.fk=(aW d:Int)
 st:m.st=(dU d:Int)
 r:tZ h h' m.vr ((wP d).map (·.1))
 f:yw h h' m.vf (fQ d)
 n:aK h h' m.vn (j9 d nm).length ((j9 d nm).map .string) 9
 nl:nm.length=nK d
 ne:∀ b∈nm,Eo b
 b:aK h h' m.vb (ki [] (ky d (fQ d))).length (BC (Qi d)) 70
 F:aK h h' m.vF (aW d) ((jV d d.follows).flatMap aZ.cells) 54
 R:aK h h' m.vR (aW d) ((qy d d.an).map i64) 3
theorem gh.base {α:Type} {f:α→Value→List Value} {g:α→List Value} {w:Nat} {et et2:TypeId} {a b c:ah} {v:Value} {l:List α} (k:gh f g w et et2 b c v l) (h:a <+: b):gh f g w et et2 a c v l:=by{
obtain⟨us,hl,G,hu⟩:=k
exact⟨us,hl,G.base h,fun i x u k1 k2=>by
 obtain⟨n,e,g'⟩:=hu i x u k1 k2
 exact⟨n,e,g'.base h⟩⟩}
theorem yw.rd {h h':ah} {v:Value} {l:List gD} (k:yw h h' v l) (hl:l.length≤1000000) (hs:∀ o∈l,o.al.length≤1000000):fm h' v l:=by{
obtain⟨us,e,G,hu⟩:=k
refine⟨us,e,G.sl om,fun i r u h1 h2=>?_⟩
obtain⟨n,en,g⟩:=hu i r u h1 h2
have hr:=hs r (List.mem_of_getElem? h1)
have:n=r.al.length:=by
 have:(Rb r).length=r.al.length:=List.length_map ..
 omega
subst this
exact g.sl (b:=8) om}
theorem FJ {hk h':ah} {im:Nat} {cells:List Value} (ho:hk[im]? = some (.aj cells 0 true 94)) (k:∀ (j:Nat) (o:av),j<hk.length→j≠im→hk[j]? = some o→h'[j]? = some o):cd [94] hk h':=fun j o e q=>by
 refine k j o (List.getElem?_eq_some_iff.1 e).1 (fun e1=>?_) e
 subst e1
 rw[ho] at e
 cases e
 simp [rO] at q
theorem zO {x:ByteArray}:∀ {l:List ByteArray},x∈l→l.idxOf x<l.length
 | [],h=>by simp at h
 | a :: l,h=>by
   rw[wK]
   by_cases e:x=a
   ·rw[if_pos e];simp
   ·rw[if_neg e]
    have:=zO ((List.mem_cons.1 h).resolve_left e)
    simp only[List.length_cons]
    omega
section
variable {h:ah} {d:b7} {up uc uf ur ub:Value}
theorem H4 (hd:bK h d up uc uf ur ub) (hw:tJ d) (hpn:cQ d=true→cZ d≤160) : FW env 15 [.agg (d.val up uc uf ur ub).toArray] h fun r h'=>(¬ ka d∧r = .tuple #[Qn,i64 53]∧h'=h)∨(ka d∧∃ m nm,r = .tuple #[tA m,i64 0]∧KO h h' d m nm):=by{
have hck:=Dn hd hw hpn
have hcp:=AU hd
unfold b7.val at hck hcp
have hd0:=hd
obtain⟨p1,c1,p2,c2,p3,c3,p4,c4,p5,c5,rfl,rfl,rfl,rfl,rfl,l1,l2,l3,l4,l5⟩:=bK.form hd
refine fe Tryz.func15 ?_;simp only[push_cast]
unfold b7.val
refine aB ?_
refine zj Tryz.func31 ?_
refine hck.mono ?_
rintro _ h1 ⟨⟨e,w,rfl,he⟩,e1⟩
obtain rfl:=e1.symm
by_cases q:e=0
·have hok:=he.1 q
 have d1:=decide_eq_true q
 have hpt:=hpn (hok 0 (by decide))
 have G:=Hv hok hpt
 obtain⟨b1,b2,b3,b4,b5⟩:=jZ hpt
 refine aG d1 ?_
 refine ae rfl ?_
 refine zu ?_
 iterate 1 (refine zx pR ?_)
 refine zj Tryz.func32 ?_
 refine hcp.mono ?_
 rintro _ h1 ⟨hp1,vp,vc,vf,vr,vb,rfl,hF⟩
 have hD1:=hF.now
 obtain⟨p1',c1',rfl⟩:=cT.form hD1.aa
 obtain⟨p2',c2',rfl⟩:=cT.form hD1.ax
 obtain⟨p3',c3',rfl⟩:=bW.form hD1.follows
 obtain⟨p4',c4',rfl⟩:=bW.form hD1.an
 obtain⟨p5',c5',rfl⟩:=cT.form hD1.boxes
 iterate 1 (refine zx pR ?_)
 refine j5 (kt:=9) (et:=3) ak rfl kr ?_
 dsimp only[St.aX,St.put]
 have hpA:h1 <+: h1++[av.map []]:=aI
 have hmA:(h1++[av.map []])[h1.length]? = some (.map (fz [])):=aJ
 have hlA:(h1++[av.map []]).length=h1.length+1:=by simp
 generalize (h1++[av.map []])=hA at hpA hmA hlA ⊢
 obtain⟨is,his⟩:∃ is,is=h1.length:=⟨_,rfl⟩
 rw[← his] at hmA
 rw[← his]
 refine j5 (kt:=154) (et:=3) ak rfl kr ?_
 dsimp only[St.aX,St.put]
 have hpB:h1 <+: hA++[av.map []]:=cS hpA
 have hmB:(hA++[av.map []])[is]? = some (.map (fz [])):=bo hmA
 have hnB:(hA++[av.map []])[hA.length]? = some (.map (kE [])):=aJ
 have hlB:(hA++[av.map []]).length=h1.length+2:=by simp [hlA]
 generalize (hA++[av.map []])=hB at hpB hmB hnB hlB ⊢
 obtain⟨il,hil⟩:∃ il,il=hA.length:=⟨_,rfl⟩
 rw[← hil] at hnB
 rw[← hil]
 iterate 1 (refine zx pR ?_)
 obtain⟨m0,hm0⟩:∃ m0:MK,m0=⟨d.start,d.layout,.slice p1' d.aa.length c1',.slice p2' d.ax.length c2',.slice p3' d.follows.length c3',.slice p4' d.an.length c4',.slice p5' d.boxes.length c5',0,0,bD,bD,bD,bD,bD,bD,is,il,bD,0⟩:=⟨_,rfl⟩
 refine dw (t:=94) (cs:=m0.cells) ak (by rw[hm0];unfold MK.cells;exact ak) ?_
 dsimp only[St.aX,St.put]
 have hpC:h1 <+: hB++[av.aj m0.cells 0 true 94]:=cS hpB
 have hmC:(hB++[av.aj m0.cells 0 true 94])[is]? = some (.map (fz [])):=bo hmB
 have hnC:(hB++[av.aj m0.cells 0 true 94])[il]? = some (.map (kE [])):=bo hnB
 have hoC:(hB++[av.aj m0.cells 0 true 94])[hB.length]? = some (.aj m0.cells 0 true 94):=aJ
 generalize (hB++[av.aj m0.cells 0 true 94])=hC at hpC hmC hnC hoC ⊢
 obtain⟨im,him⟩:∃ im,im=hB.length:=⟨_,rfl⟩
 rw[← him] at hoC
 rw[← him]
 have hkY:=Ep hpt (fun p hp=>(G.p p hp).n)
 have hnS:=b8 (ps:=d.aa)
 have hnt:=Lx (h0:=h1) (hk:=hC) (im:=im) (m:=m0) hpC hoC (by rw[hm0];exact hmC) (by rw[hm0];exact hnC) om (by rw[hm0];show h1.length≤is;omega) (by rw[hm0];show h1.length≤il;omega) (by rw[hm0];show im≠is;omega) (by rw[hm0];show im≠il;omega) (by rw[hm0];show is≠il;omega) (by rw[hm0]) (by rw[hm0]) (by rw[hm0];exact hD1) (by rw[hm0]) (by rw[hm0]) G hw.aa om hkY
 refine aB ?_
 refine zj Tryz.func33 ?_
 refine hnt.mono ?_
 rintro _ h2 ⟨rfl,vn,vo,nm,hb,NT⟩
 have N:=NT.s
 have hbl:h1.length≤hb.length:=by have:=hpC.length_le;have:=NT.p.length_le;omega
 have hM:MR h1 h2 im { m0 with vn:=vn,vo:=vo,lL:=bP d,st:=(dU d:Int),fk:=(aW d:Int) } []:=⟨N.p,by omega,N.o,by rw[hm0];exact gh.nil,by rw[hm0];exact gh.nil⟩
 have hS:MS h2 { m0 with vn:=vn,vo:=vo,lL:=bP d,st:=(dU d:Int),fk:=(aW d:Int) } d (uR (aF d.aa)) (vQ (aF d.aa).length (bj d.aa)):=⟨N.sm,fun x hx=>zI hx,N.lm,fun k hk=>by rw[Aa,if_pos hk];rfl,rfl⟩
 have hru:=Fp (m:={ m0 with vn:=vn,vo:=vo,lL:=bP d,st:=(dU d:Int),fk:=(aW d:Int) }) hM hS (by rw[hm0];exact hD1.aa.mono N.p) (by rw[hm0]) (by rw[hm0]) (N.od.la hbl) G rfl
 refine aB ?_
 refine zj Tryz.func34 ?_
 refine hru.mono ?_
 rintro _ h3 ⟨rfl,vr,vf,M3,K3⟩
 have hrl:=Af G hpt
 have hos:(fQ d).length≤4096:=by unfold fQ;rw[List.length_map];omega
 have hosy:∀ o∈fQ d,o.al.length≤1000000:=fun o ho=>by have:=ol G o ho;omega
 have hN3:=(N.n.ed K3 (by decide)).la hbl
 have hNl:(j9 d nm).length=aW d:=by
  unfold j9
  rw[List.length_append,List.length_append,List.length_append,NT.l]
  unfold aW dU
  split<;>rfl
 have hkn:=G.kn
 have hN5:aW d≤5000:=by
  have e1:nS d≤160:=by unfold nS;omega
  have e2:nK d≤3000:=hkn
  unfold aW dU
  split<;>omega
 have hKD:KD h1 h3 im { m0 with vn:=vn,vo:=vo,lL:=bP d,st:=(dU d:Int),fk:=(aW d:Int),vr:=vr,vf:=vf } d (fQ d) (j9 d nm):=⟨M3.p,by omega,M3.o,by rw[hm0];exact hD1,by rw[hm0],by rw[hm0],yw.rd M3.f om hosy,(aK.sl (b:=16) hN3 (by show (j9 d nm).length*16≤_;omega)),by obtain⟨p,c,e⟩:=gh.form M3.r;exact⟨p,_,c,e⟩,by rw[hm0];exact⟨none,0,0,rfl⟩,by rw[hm0];exact⟨none,0,0,rfl⟩,by rw[hm0];exact⟨none,0,0,rfl⟩⟩
 have hu:∀ s∈eM d,b6 d.aa s≠0:=hok 3 (by decide)
 have hfS:∀ x∈d.follows,x.sort∈aF d.aa∧du x.set:=fun x hx=>⟨jT (hu _ (by unfold eM;exact List.mem_append_left _ (List.mem_append_right _ (List.mem_map_of_mem hx)))),(hw.follows x hx).2⟩
 have hrS:∀ x∈d.an,x.sort∈aF d.aa∧x.jO∈aF d.aa:=fun x hx=>⟨jT (hu _ (by unfold eM nR;exact List.mem_append_right _ (List.mem_flatMap.2 ⟨x,hx,by simp⟩))),jT (hu _ (by unfold eM nR;exact List.mem_append_right _ (List.mem_flatMap.2 ⟨x,hx,by simp⟩)))⟩
 have hsn:∀ x∈aF d.aa,fZ d x<aW d:=fun x hx=>by
  have h1:=zO hx
  unfold fZ aW dU nS
  split<;>omega
 have hfi:=y5 hKD (K3 _ _ N.sm rfl) (fun x hx=>zI hx) (by rw[hm0]) rfl hN5 (hok 11 (by decide)) hos (Ex hpt) om (fun p hp=>by have:=(G.p p hp).n;omega) hosy (GJ G (hok 11 (by decide)) hpt) hfS hrS om om hsn
 refine aB ?_
 refine zj Tryz.func35 ?_
 refine hfi.mono ?_
 rintro _ h4 ⟨rfl,vb,vF,vR,FI⟩
 have hob:=FI.o
 have K4:=FJ M3.o FI.k
 have hl3:h.length≤h3.length:=by have:=hp1.length_le;have:=M3.p.length_le;omega
 obtain⟨m4,hm4⟩:∃ m4:MK,m4={ m0 with vn:=vn,vo:=vo,lL:=bP d,st:=(dU d:Int),fk:=(aW d:Int),vr:=vr,vf:=vf,vb:=vb,vF:=vF,vR:=vR }:=⟨_,rfl⟩
 rw[← hm4] at hob
 have hKO:KO h h4 d m4 nm:=by
  refine⟨hp1.trans FI.p,?_,?_,?_,?_,?_,?_,?_,?_,NT.l,NT.e,?_,?_,?_⟩
  ·rw[hm4,hm0]
   exact hF.mono (jN.pre FI.p)
  ·rw[hm4,hm0]
  ·rw[hm4,hm0]
  ·rw[hm4]
  ·rw[hm4]
  ·rw[hm4]
   exact (gh.ed M3.r K4 (by decide) (by decide)).base hp1
  ·rw[hm4]
   exact (gh.ed M3.f K4 (by decide) (by decide)).base hp1
  ·rw[hm4]
   exact (hN3.ed K4 (by decide)).base hp1
  ·rw[hm4]
   exact FI.b.la hl3
  ·rw[hm4]
   exact FI.F.la hl3
  ·rw[hm4]
   exact FI.R.la hl3
 obtain⟨q1,r1,e1⟩:=cT.form hKO.D.now.aa
 obtain⟨q2,r2,e2⟩:=cT.form hKO.D.now.ax
 obtain⟨q3,r3,e3⟩:=bW.form hKO.D.now.follows
 obtain⟨q4,r4,e4⟩:=bW.form hKO.D.now.an
 obtain⟨q5,r5,e5⟩:=cT.form hKO.D.now.boxes
 obtain⟨q6,r6,e6⟩:=gh.form hKO.r
 obtain⟨q7,r7,e7⟩:=gh.form hKO.f
 obtain⟨q8,r8,e8⟩:=hKO.n.form
 obtain⟨q9,r9,e9⟩:=hKO.b.form
 obtain⟨qa,ra,ea⟩:=hKO.F.form
 obtain⟨qb,rb,eb⟩:=hKO.R.form
 simp only[MK.cells,e1,e2,e3,e4,e5,e6,e7,e8,e9,ea,eb] at hob
 refine aG hob ?_
 refine ai ?_
 refine⟨_,ak,.inr ⟨hok,m4,nm,?_,hKO⟩⟩
 rw[tA,e1,e2,e3,e4,e5,e6,e7,e8,e9,ea,eb]
 rfl
·have hno:¬ ka d:=fun k=>q (he.2 k)
 have d1:=decide_eq_false q
 refine aG d1 ?_
 refine af rfl ?_
 refine aB ?_
 refine ai ?_
 exact⟨_,ak,.inl ⟨hno,rfl,rfl⟩⟩}
end
theorem gh.at {α:Type} {f:α→Value→List Value} {g:α→List Value} {w k:Nat} {et et2:TypeId} {h0 hk:ah} {v:Value} {l:List α} (hf:∀ x u,(f x u).length=k) (G:gh f g w et et2 h0 hk v l) {i:Nat} (hi:i<l.length) : ∃ id au c cells u n,v = .slice (some ⟨id,0,some au⟩) l.length c∧hk[id]? = some (.aj cells au true et)∧je cells (i*k) k=some (f l[i] u)∧(g l[i]).length=n*w∧aK h0 hk u n (g l[i]) et2∧h0.length≤id:=by{
obtain⟨us,hl,G,hu⟩:=G
rcases G with ⟨e0,_,_⟩ | ⟨id,au,h1,rfl,h3⟩
·omega
have hi':i<us.length:=hl▸hi
obtain⟨n,en,g'⟩:=hu i l[i] us[i] (by simp [hi]) (by simp [hi'])
refine⟨id,au,_,_,us[i],n,rfl,h3,?_,en,g',h1⟩
refine bG (f:=fun p:α×Value=>f p.1 p.2) (fun _=>hf _ _) (l.zip us) i (l[i],us[i]) ?_
simp [List.getElem?_zip_eq_some,hi,hi']}
theorem tZ.at {h0 hk:ah} {v:Value} {l:List dt} (G:tZ h0 hk v l) {i:Nat} (hi:i<l.length) : ∃ id au c cells p c2,v = .slice (some ⟨id,0,some au⟩) l.length c∧hk[id]? = some (.aj cells au true 63)∧je cells (i*2) 2=some [i64 l[i].lhs,.slice p l[i].rhs.length c2]∧aK h0 hk (.slice p l[i].rhs.length c2) l[i].rhs.length (l[i].rhs.flatMap bd.cells) 65∧h0.length≤id:=by{
obtain⟨id,au,c,cells,u,n,e1,e2,e3,e4,e5,e6⟩:=gh.at (k:=2) (fun _ _=>rfl) G hi
have hn:(Tu l[i]).length=l[i].rhs.length*5:=kb
obtain rfl:n=l[i].rhs.length:=by omega
obtain⟨p,c2,rfl⟩:=e5.form
exact⟨id,au,c,cells,p,c2,e1,e2,e3,e5,e6⟩}
section
variable {h h':ah} {d:b7} {m:MK} {nm:List ByteArray}
theorem wC:(fQ d).length=(wP d).length:=List.length_map ..
theorem KO.TL (K:KO h h' d m nm):(j9 d nm).length=aW d:=by{
unfold j9
rw[List.length_append,List.length_append,List.length_append,K.nl]
unfold aW dU
split<;>rfl}
theorem KO.vO (K:KO h h' d m nm) (G:nL d) (hp:cZ d≤160):fm h' m.vf (fQ d):=
 yw.rd K.f (by have:=Af G hp;rw[wC];omega) (fun o ho=>by have:=ol G o ho;omega)
theorem KO.Ji (K:KO h h' d m nm) (G:nL d) (hp:cZ d≤160):lA h' (tA m) (fQ d) (j9 d nm):=by{
obtain⟨q1,r1,e1⟩:=cT.form K.D.now.aa
obtain⟨q2,r2,e2⟩:=cT.form K.D.now.ax
obtain⟨q3,r3,e3⟩:=bW.form K.D.now.follows
obtain⟨q4,r4,e4⟩:=bW.form K.D.now.an
obtain⟨q5,r5,e5⟩:=cT.form K.D.now.boxes
obtain⟨q6,r6,e6⟩:=gh.form K.r
obtain⟨q9,r9,e9⟩:=K.b.form
obtain⟨qa,ra,ea⟩:=K.F.form
obtain⟨qb,rb,eb⟩:=K.R.form
have hN:aW d≤5000:=by
 obtain⟨b1,b2,b3,b4,b5⟩:=jZ hp
 have h1:=b8 (ps:=d.aa)
 have h2:=G.kn
 have e1:nS d≤160:=by unfold nS;omega
 have e2:nK d≤3000:=h2
 unfold aW dU
 split<;>omega
refine⟨m.start,m.layout,q1,q2,q3,q4,q5,q6,q9,qa,qb,_,_,_,_,_,_,_,_,_,r1,r2,r3,r4,r5,r6,r9,ra,rb,m.fk,m.st,m.vf,m.vn,by rw[tA,e1,e2,e3,e4,e5,e6,e9,ea,eb],K.vO G hp,K.n.sl (by rw[K.TL];omega)⟩}
end
abbrev bL:ByteArray:=⟨#[76]⟩
abbrev bS:ByteArray:=⟨#[83]⟩
def iG (t:ByteArray):Sym:=⟨1,t,sq,⟨#[]⟩,⟨#[]⟩⟩
def jM:Sym:=⟨3,⟨#[]⟩,sq,bL,⟨#[]⟩⟩
def lG (ts:List ByteArray):Prod:=⟨true,bL,⟨#[]⟩,false,ts.map iG⟩
def yb:Prod:=⟨false,bS,bS,false,[jM]⟩
def bw (ts:List ByteArray):b7:=⟨bS,⟨#[]⟩,[lG ts,yb],[],[],[],[]⟩
def fy (ts:List ByteArray):ByteArray:=ts.foldl (·++ ·) ⟨#[]⟩
theorem tj (ts:List ByteArray) (t:ByteArray):fy (ts++[t])=fy ts++t:=by{
unfold fy
rw[List.foldl_append]
rfl}
structure C4 (ts:List ByteArray):Prop where
 n0:ts.length≠0
 Mk:ts.length≤12
 t:∀ t∈ts,t.size≠0∧t.size≤32
 s:(fy ts).size≤80
theorem wA (ts:List ByteArray):(fy ts).size=dp ByteArray.size ts:=by{
have key:∀ (l:List ByteArray) (b:ByteArray),(l.foldl (·++ ·) b).size=b.size+dp ByteArray.size l:=by
 intro l
 induction l with
 | nil=>intro b;simp [dp]
 | cons a l ih=>
   intro b
   rw[List.foldl_cons,ih,ByteArray.size_append]
   unfold dp
   simp only[List.map_cons,List.sum_cons]
   omega
have:=key ts ⟨#[]⟩
rw[show (ByteArray.mk #[]).size=0 from rfl,Nat.zero_add] at this
exact this}
section
variable {ts:List ByteArray}
theorem pJ:dC (bw ts).aa bL true=true∧dC (bw ts).aa bL false=false∧dC (bw ts).aa bS true=false∧dC (bw ts).aa bS false=true:=⟨rfl,rfl,rfl,rfl⟩
theorem tE:aF (bw ts).aa=[bL,bS]:=rfl
theorem wE:b6 (bw ts).aa bL=1:=by{
unfold b6
rw[pJ.1,pJ.2.1]
rfl}
theorem xB:b6 (bw ts).aa bS=2:=by{
unfold b6
rw[pJ.2.2.1,pJ.2.2.2]
rfl}
theorem AT:eM (bw ts)=[bL]:=by{
unfold eM nP nR bw
have e1:cg (lG ts).al=[]:=by
 unfold cg lG
 rw[List.filterMap_eq_nil_iff]
 intro a ha
 rw[List.mem_map] at ha
 obtain⟨t,_,rfl⟩:=ha
 exact if_pos rfl
have e2:cg yb.al=[bL]:=by
 unfold cg yb jM
 rw[List.filterMap_cons]
 rw[if_neg (by decide)]
 rfl
simp only[List.flatMap_cons,List.flatMap_nil,e1,e2,List.map_nil,List.append_nil,List.nil_append]}
theorem DD {t:ByteArray}:dW (iG t)=false:=rfl
theorem C6:eW (lG ts).al=ts.map iG:=by{
unfold eW lG
rw[List.filter_eq_self]
intro a ha
rw[List.mem_map] at ha
obtain⟨t,_,rfl⟩:=ha
rfl}
theorem xe {p:Prod} (hp:p∈(bw ts).aa) {n:ByteArray} (hn:n∈gu p.al):p=yb∧n=bL:=by{
unfold bw at hp
simp only[List.mem_cons,List.not_mem_nil,or_false] at hp
rcases hp with rfl|rfl
·unfold gu at hn
 rw[C6] at hn
 split at hn
 ·rename_i s hs
  have hm:s∈ts.map iG:=by rw[hs];simp
  rw[List.mem_map] at hm
  obtain⟨t,_,rfl⟩:=hm
  rw[if_neg (show ¬ (((decide ((iG t).kind=3)||decide ((iG t).kind=6)) && !cN (iG t).name)=true) from fun e=>by cases e)] at hn
  cases hn
 ·cases hn
·have e:gu yb.al=[bL]:=by
  unfold gu eW yb
  have e1:([jM].filter fun s=>!dW s)=[jM]:=rfl
  simp only[e1]
  rw[if_pos (by unfold jM;decide)]
  rfl
 rw[e,List.mem_singleton] at hn
 exact⟨rfl,hn⟩}
theorem Ib {a n:ByteArray} (h:sr (bw ts).aa (fun p=>gu p.al) a n):a=bS∧n=bL:=by{
induction h with
| one hp hs hn=>
  obtain⟨rfl,rfl⟩:=xe hp hn
  exact⟨hs.symm,rfl⟩
| more _ hp hs hn ih=>
  obtain⟨rfl,rfl⟩:=xe hp hn
  exact⟨ih.1,rfl⟩}
theorem zY:fU (ts.map iG)=0:=by{
unfold fU dp
rw[List.map_map]
have:((fun s=>if dW s=true then 1 else 0) ∘ iG)=fun _=>0:=rfl
rw[this]
induction ts with
| nil=>rfl
| cons a l ih=>rw[List.map_cons,List.sum_cons,ih]}
theorem Dd:dp gH (ts.map iG)=(fy ts).size:=by{
rw[wA]
unfold dp
rw[List.map_map]
rfl}
theorem KN (h:C4 ts):ka (bw ts):=by{
have hpr:∀ p∈(bw ts).aa,p=lG ts∨p=yb:=fun p hp=>by
 unfold bw at hp
 simpa using hp
intro k hk
match k,hk with
| 0,_=>
  show cQ (bw ts)=true
  unfold cQ
  have e1:bV (lG ts)=true:=by
   unfold bV lG
   have hall:(ts.map iG).all bf=true:=by
    rw[List.all_eq_true]
    intro a ha
    rw[List.mem_map] at ha
    obtain⟨t,ht,rfl⟩:=ha
    have hd:decide ((t.size:Int)≤32)=true:=decide_eq_true (by have:=(h.t t ht).2;omega)
    unfold bf iG
    rw[if_pos rfl]
    simp only[hd]
    rfl
   have h1:decide ((ts.map iG).length≠0)=true:=decide_eq_true (by rw[List.length_map];exact h.n0)
   have h2:decide ((ts.map iG).length≤12)=true:=decide_eq_true (by rw[List.length_map];exact h.Mk)
   simp only[hall,h1,h2]
   rfl
  have e2:bV yb=true:=by decide
  unfold bw
  simp only[List.all_cons,List.all_nil,e1,e2]
  rfl
| 1,_=>
  show ∀ s∈aF (bw ts).aa,_
  rw[tE]
  intro s hs
  simp only[List.mem_cons,List.not_mem_nil,or_false] at hs
  rcases hs with rfl|rfl
  ·rw[wE];decide
  ·rw[xB];decide
| 2,_=>exact⟨xB,.inl rfl⟩
| 3,_=>
  show ∀ s∈eM (bw ts),_
  rw[AT]
  intro s hs
  obtain rfl:=List.mem_singleton.1 hs
  rw[wE]
  decide
| 4,_=>
  intro p hp
  rcases hpr p hp with rfl|rfl
  ·show List.any (ts.map iG) _=false
   rw[List.any_eq_false]
   intro a ha
   rw[List.mem_map] at ha
   obtain⟨t,_,rfl⟩:=ha
   have:iw (bw ts) (lG ts).lex (iG t)=false:=rfl
   rw[this]
   decide
  ·have e:iw (bw ts) yb.lex jM=false:=by
    rfl
   show List.any [jM] _=false
   simp only[List.any_cons,List.any_nil,e]
   decide
| 5,_=>
  intro i hi c hc
  match i,hi,hc with
  | 0,_,_=>exact fun q=>by cases q.1
  | 1,_,hc=>
    rintro⟨_,h0,h1⟩
    obtain rfl:c=0:=by omega
    rcases hc with ⟨_,q⟩ | ⟨_,⟨k,hk,hP,_,e⟩ | ⟨_,e⟩⟩
    ·omega
    ·obtain rfl:k=0:=by omega
     have:lT yb.cons (lG ts)=false:=rfl
     have hP':lT yb.cons (lG ts)=true:=hP
     rw[this] at hP'
     cases hP'
    ·omega
| 6,_=>
  intro p hp
  rcases hpr p hp with rfl|rfl<;>rfl
| 7,_=>
  intro p hp
  rcases hpr p hp with rfl|rfl
  ·unfold tY lG
   simp only[zY,Dd]
   have h1:decide (80<((fy ts).size:Int)+(if (!true && !cN (bw ts).layout)=true then ((ts.map iG).length:Int)-1 else 0))=false:=decide_eq_false (by
    rw[if_neg (show ¬ ((!true && !cN (bw ts).layout)=true) from fun e=>by cases e)]
    have:=h.s
    omega)
   rw[h1]
   rfl
  ·rfl
| 8,_=>
  intro p hp
  rcases hpr p hp with rfl|rfl
  ·show (List.any (ts.map iG) _||List.all (ts.map iG) dW)=false
   rw[Bool.or_eq_false_iff]
   refine⟨?_,?_⟩
   ·rw[List.any_eq_false]
    intro a ha
    rw[List.mem_map] at ha
    obtain⟨t,ht,rfl⟩:=ha
    have:decide ((iG t).text=⟨#[]⟩)=false:=decide_eq_false (fun e=>(h.t t ht).1 (by have e':t=⟨#[]⟩:=e;rw[e'];rfl))
    rw[this,Bool.and_false]
    decide
   ·have hn:=h.n0
    cases ts with
    | nil=>exact absurd rfl hn
    | cons t r=>rfl
  ·decide
| 9,_=>
  intro s _ hr
  obtain⟨rfl,e⟩:=Ib hr
  revert e
  decide
| 10,_=>exact fun i hi=>absurd hi (Nat.not_lt_zero i)
| 11,_=>exact fun c hc=>by cases hc
| 12,_=>exact fun f hf=>by cases hf
| 13,_=>exact⟨(fun x hx=>by cases hx),List.nodup_nil⟩
| k+14,hk=>omega}
theorem BJ (h:C4 ts):cZ (bw ts)≤160:=by{
have e:cZ (bw ts)=2+(ts.length+1):=by
 unfold cZ bw lG yb dp
 simp
have:=h.Mk
omega}
theorem El:bj (bw ts).aa=[]:=by{
rw[List.eq_nil_iff_forall_not_mem]
intro k hk
rw[mem_keys] at hk
obtain⟨p,hp,s,hs,hl,_⟩:=hk
unfold bw at hp
simp only[List.mem_cons,List.not_mem_nil,or_false] at hp
rcases hp with rfl|rfl
·unfold lG at hs
 rw[List.mem_map] at hs
 obtain⟨t,_,rfl⟩:=hs
 cases hl
·obtain rfl:=List.mem_singleton.1 hs
 revert hl
 decide}
theorem E3 {a b:ByteArray} {i:Nat} (h:i<a.size+b.size):bn (a++b) i=if i<a.size then bn a i else bn b (i-a.size):=by{
obtain⟨c,h1,h2⟩:=kD (b:=a++b) (i:=i) (by rw[ByteArray.size_append];exact h)
rw[← h2]
split
·rename_i hlt
 obtain⟨c',h1',h2'⟩:=kD hlt
 rw[← h2']
 have e:=ByteArray.getElem_append_left (a:=a) (b:=b) (i:=i) (h:=by rw[ByteArray.size_append];exact h) hlt
 rw[getElem?_pos _ i (by rw[ByteArray.size_append];exact h),e] at h1
 rw[getElem?_pos a i hlt] at h1'
 rw[h1] at h1'
 cases h1'
 rfl
·rename_i hge
 obtain⟨c',h1',h2'⟩:=kD (b:=b) (i:=i-a.size) om
 rw[← h2']
 have e:=ByteArray.getElem_append_right (a:=a) (b:=b) (i:=i) (h:=by rw[ByteArray.size_append];exact h) om
 rw[getElem?_pos _ i (by rw[ByteArray.size_append];exact h),e] at h1
 rw[getElem?_pos b _ om] at h1'
 rw[h1] at h1'
 cases h1'
 rfl}
theorem CI (a b:ByteArray):fu (a++b)=fu a++fu b:=by{
unfold fu
rw[ByteArray.size_append,List.range_add,List.map_append]
congr 1
·refine List.map_congr_left fun i hi=>?_
 rw[E3 (by have:=List.mem_range.1 hi;omega),if_pos (List.mem_range.1 hi)]
·rw[List.map_map]
 refine List.map_congr_left fun i hi=>?_
 show _=_
 simp only[Function.comp]
 rw[E3 (by have:=List.mem_range.1 hi;omega),if_neg om,Nat.add_sub_cancel_left]}
theorem tp:∀ k,k≤ts.length→(dE (bw ts) (lG ts) 0 k).mask=0∧(dE (bw ts) (lG ts) 0 k).rhs=fu (fy (ts.take k))
 | 0,_=>⟨rfl,rfl⟩
 | k+1,hk=>by
   obtain⟨h1,h2⟩:=tp k om
   have hk':k<(lG ts).al.length:=by unfold lG;rw[List.length_map];omega
   rw[mr hk']
   have es:(lG ts).al[k]=iG ts[k]:=by unfold lG;exact List.getElem_map ..
   rw[es]
   unfold jw
   rw[if_neg (by rw[DD];decide)]
   refine⟨h1,?_⟩
   show (dE (bw ts) (lG ts) 0 k).rhs++(if lK (bw ts) true (dE (bw ts) (lG ts) 0 k).rhs=true then [dN (bP (bw ts))] else [])++fu ts[k]=_
   have hp:lK (bw ts) true (dE (bw ts) (lG ts) 0 k).rhs=false:=by unfold lK;simp
   rw[hp,h2,List.take_succ_eq_append_getElem om,tj,CI,if_neg (by decide),List.append_nil]
theorem G3:(wP (bw ts)).length=3∧∃ o,(wP (bw ts))[0]? = some (⟨0,fu (fy ts)⟩,o):=by{
have e1:jy (lG ts)=1:=by
 unfold jy lG
 rw[zY]
have e2:jy yb=1:=by decide
have e3:iI (bw ts) 2=[iv (bw ts) 0 (lG ts) 0,iv (bw ts) 1 yb 0]:=by
 show ([]++ji (bw ts) 0 (lG ts))++ji (bw ts) 1 yb=_
 unfold ji
 rw[e1,e2]
 rfl
have e4:nB (bw ts)=[(⟨dU (bw ts),[dN (fZ (bw ts) (bw ts).start)]⟩,⟨5,0,0,[]⟩)]:=by
 unfold nB
 rw[if_pos (show cN (bw ts).layout=true from rfl)]
have e5:wP (bw ts)=[iv (bw ts) 0 (lG ts) 0,iv (bw ts) 1 yb 0,(⟨dU (bw ts),[dN (fZ (bw ts) (bw ts).start)]⟩,⟨5,0,0,[]⟩)]:=by
 unfold wP
 rw[El,e4]
 have:(bw ts).aa.length=2:=rfl
 rw[this,e3]
 rfl
rw[e5]
refine⟨rfl,(iv (bw ts) 0 (lG ts) 0).2,?_⟩
have h:=(tp (ts:=ts) ts.length (Nat.le_refl _)).2
rw[List.take_length] at h
have hS:fZ (bw ts) (lG ts).sort=0:=by
 unfold fZ
 rw[tE]
 rfl
show some (iv (bw ts) 0 (lG ts) 0)=_
unfold iv fh
rw[hS]
have:(lG ts).al.length=ts.length:=by unfold lG;exact List.length_map ..
rw[this,h]
rfl}
end
theorem eR.kp {a b:ah} {v:Value} {l:List dT} {ts:List TypeId} (h:eR a v l) (k:cd ts a b) (h1:82∉ts) (h2:9∉ts):eR b v l:=cT.kp h k h1 fun u x hu=>bW.kp hu k h2
theorem b9.kp {a b:ah} {v:Value} {l:List Item} {ts:List TypeId} (h:b9 a v l) (k:cd ts a b) (h1:136∉ts):b9 b v l:=by
 induction h with
 | mk us h1' h2 _ ih=>exact .mk us h1' (h2.kp k h1) ih
section
variable {h:ah} {d:b7} {up uc uf ur ub:Value}
end
end Go.Proofs.YtmdmimkbpikmoaaGreat
namespace Go.Proofs.YtmdmimkbpikmoaaGreat.Am
open Go.RowKit
section
variable {N:Env} {ops:Array Oper} {L:List (List Nat)} {act:List Nat} {s0:St} {res res':Nat→fW} {Hs:Nat→ah} {a st d:Nat} {cs':List Value} {v0:fK}
theorem gB.As (C:qw ops L act) (Z:yg N ops L act s0 res res' a st d cs' v0) (hT:∀ j sl off,res j = .ep sl off→∀ i,bA ops i≠some sl) {S:Array Bool} {t:St} {i:Nat} {o:Oper} (hstep:∀ o k,i≠st→ops[i]? = some o→k≤act.length→fP L act i k=true→∃ V,View ops L s0 res i V∧V.h=Hs k∧One N ops o V (res i) (Hs (if i∈act then k+1 else k))) (I:gB N ops act s0 res res' Hs st S t) (hi:i∈Region.ready .any ops S) (ho:ops[i]? = some o) : ∃ s',Ev N (.ops ops [o] t s')∧gB N ops act s0 res res' Hs st (S.setIfInBounds i true) s':=by{
have hT':∀ j sl off,res' j = .ep sl off→∀ i,bA ops i≠some sl:=fun j sl off h=>by
 by_cases hj:j=a
 ·subst hj
  rw[Z.ra] at h
  cases h
 ·rw[Z.same j hj] at h
  exact hT j sl off h
obtain⟨hun,oi,hoi,hall⟩:=mem_ready.1 hi
obtain rfl:oi=o:=Option.some.inj (hoi.symm.trans ho)
have hlt:i<ops.size:=(Array.getElem?_eq_some_iff.1 ho).1
have hr:∀ o,ops[i]? = some o→∀ e∈o.after,Region.binds .any e=true→S.getD e.on false=true:=fun o' ho' e he hb=>by
 obtain rfl:oi=o':=Option.some.inj (ho.symm.trans ho')
 exact hall e he hb
have hnot:S.getD i false=false:=getD_both hun
obtain⟨ost,host,hdn⟩:=Z.o
have hstd:bA ops st=none:=by simp [bA,host,hdn]
rcases I with ⟨h0,I⟩ | ⟨h0,I⟩
·by_cases his:i=st
 ·subst his
  have hltS:i<S.size:=by rw[I.size];exact hlt
  have hset:∀ j,((S.setIfInBounds i true).getD j false=true)↔(j=i∨S.getD j false=true):=fun j=>ew hltS
  obtain⟨V,hV,hVh,hsto⟩:=Z.TN oi t.h ho
  have hsub:=hV.sub C I hlt hr hVh
  have hain:S.getD a false=true:=jl C I.size I.closed i a hlt hr Z.I8
  refine⟨_,hsto t hsub,.inr ⟨(hset i).2 (.inl rfl),by simp [I.size],fun j o hj hl e he hb=>?_,?_,fun x hx=>?_,fun j d' v hj hl hv=>?_,fun j d' sl off hj hl hv=>?_,I.Mh⟩⟩
  ·rw[hset]
   rcases (hset j).1 hl with rfl|h
   ·exact .inr (hr o hj e he hb)
   ·exact .inr (I.closed j o hj h e he hb)
  ·obtain⟨k,hk,hh,hpre⟩:=I.pre
   refine⟨k,hk,hh,fun j hj=>?_⟩
   rw[hset]
   constructor
   ·rintro (h|h)
    ·exact (Z.na (by rw[← h];simp [hj])).elim
    ·exact (hpre j hj).1 h
   ·exact fun h=>.inr ((hpre j hj).2 h)
  ·have hxd:d≠x:=fun e=>hx a (e▸Z.da)
   simp only[bt]
   rw[if_neg hxd]
   exact I.out x hx
  ·have hji:j≠i:=fun e=>by rw[e,hstd] at hj;cases hj
   have hl':=((hset j).1 hl).resolve_left hji
   by_cases hja:j=a
   ·subst hja
    obtain rfl:d=d':=Option.some.inj (Z.da.symm.trans hj)
    rw[Z.ra] at hv
    cases hv
    simp only[bt,if_true]
    exact⟨trivial,(I.pe j d v0 hj hl' Z.Tv).2⟩
   ·have hdd:d≠d':=fun e=>hja (C.dst j a d (e▸hj) Z.da)
    simp only[bt]
    rw[if_neg hdd]
    rw[Z.same j hja] at hv
    exact I.pe j d' v hj hl' hv
  ·have hji:j≠i:=fun e=>by rw[e,hstd] at hj;cases hj
   have hja:j≠a:=fun e=>by rw[e,Z.ra] at hv;cases hv
   rw[Z.same j hja] at hv
   exact I.Bc j d' sl off hj (((hset j).1 hl).resolve_left hji) hv
 ·obtain⟨s',h1,h2⟩:=I.step C hT (fun o k=>hstep o k his) hi ho
  exact⟨s',h1,.inl ⟨by rw[getD_set_ne false his];exact h0,h2⟩⟩
·have his:i≠st:=fun e=>by rw[e,h0] at hnot;cases hnot
 have hlst:st<ops.size:=(Array.getElem?_eq_some_iff.1 host).1
 have hia:i≠a:=fun e=>by
  have:=jl C I.size I.closed st a hlst (fun o' ho' e he hb=>I.closed st o' ho' h0 e he hb) Z.I8
  rw[← e,hnot] at this
  cases this
 obtain⟨s',h1,h2⟩:=I.step C hT' (fun o k h1 h2 h3=>by
  obtain⟨V,hV,hVh,hone⟩:=hstep o k his h1 h2 h3
  refine⟨V,⟨fun x=>?_,fun x p hp=>?_,hV.n⟩,hVh,by rw[Z.same i hia];exact hone⟩
  ·rcases hV.f x with h|h|⟨j,h4,h5,h6⟩
   ·exact .inl h
   ·exact .inr (.inl h)
   ·refine .inr (.inr ⟨j,h4,h5,?_⟩)
    rw[Z.same j (fun e=>Z.free i his (e▸h5))]
    exact h6
  ·obtain⟨j,sl,off,h4,h5,h6,h7⟩:=hV.e x p hp
   refine⟨j,sl,off,h4,h5,?_,h7⟩
   rw[Z.same j (fun e=>Z.free i his (e▸h5))]
   exact h6) hi ho
 exact⟨s',h1,.inr ⟨by rw[getD_set_ne false his];exact h0,h2⟩⟩}
variable {res1 res2 res12:Nat→fW} {a1 st1 d1 a2 st2 d2:Nat} {cs1 cs2:List Value} {v1 v2:fK}
def E1 (N:Env) (ops:Array Oper) (act:List Nat) (s0:St) (res res1 res2 res12:Nat→fW) (Hs:Nat→ah) (st1 st2:Nat) (S:Array Bool) (t:St):Prop:=
 (S.getD st2 false=false∧gB N ops act s0 res res1 Hs st1 S t)∨(S.getD st2 false=true∧gB N ops act s0 res2 res12 Hs st1 S t)
theorem E1.step (C:qw ops L act) (Z1:yg N ops L act s0 res res1 a1 st1 d1 cs1 v1) (Z1':yg N ops L act s0 res2 res12 a1 st1 d1 cs1 v1) (Z2:yg N ops L act s0 res res2 a2 st2 d2 cs2 v2) (Z2':yg N ops L act s0 res1 res12 a2 st2 d2 cs2 v2) (hne:st1≠st2) (hT:∀ j sl off,res j = .ep sl off→∀ i,bA ops i≠some sl) (hT1:∀ j sl off,res1 j = .ep sl off→∀ i,bA ops i≠some sl) (hT2:∀ j sl off,res2 j = .ep sl off→∀ i,bA ops i≠some sl) (hstep:∀ i o k,i≠st1→i≠st2→ops[i]? = some o→k≤act.length→fP L act i k=true→∃ V,View ops L s0 res i V∧V.h=Hs k∧One N ops o V (res i) (Hs (if i∈act then k+1 else k))) {S:Array Bool} {t:St} {i:Nat} {o:Oper} (I:E1 N ops act s0 res res1 res2 res12 Hs st1 st2 S t) (hi:i∈Region.ready .any ops S) (ho:ops[i]? = some o) : ∃ s',Ev N (.ops ops [o] t s')∧E1 N ops act s0 res res1 res2 res12 Hs st1 st2 (S.setIfInBounds i true) s':=by{
obtain⟨hun,oi,hoi,hall⟩:=mem_ready.1 hi
have hnot:S.getD i false=false:=getD_both hun
have hlt:i<ops.size:=(Array.getElem?_eq_some_iff.1 ho).1
rcases I with ⟨h0,I⟩ | ⟨h0,I⟩
·by_cases his:i=st2
 ·subst his
  have hset:∀ (hs:S.size=ops.size),(S.setIfInBounds i true).getD i false=true:=fun hs=>(ew (by rw[hs];exact hlt)).2 (.inl rfl)
  rcases I with ⟨h1,I⟩ | ⟨h1,I⟩
  ·obtain⟨s',k1,k2⟩:=gB.As C Z2 hT (fun o k h=>absurd rfl h) (.inl ⟨h0,I⟩) hi ho
   refine⟨s',k1,?_⟩
   rcases k2 with ⟨k2,_⟩ | ⟨k2,k3⟩
   ·rw[hset I.size] at k2;cases k2
   ·exact .inr ⟨k2,.inl ⟨by rw[getD_set_ne false (fun e=>hne e.symm)];exact h1,k3⟩⟩
  ·obtain⟨s',k1,k2⟩:=gB.As C Z2' hT1 (fun o k h=>absurd rfl h) (.inl ⟨h0,I⟩) hi ho
   refine⟨s',k1,?_⟩
   rcases k2 with ⟨k2,_⟩ | ⟨k2,k3⟩
   ·rw[hset I.size] at k2;cases k2
   ·exact .inr ⟨k2,.inr ⟨by rw[getD_set_ne false (fun e=>hne e.symm)];exact h1,k3⟩⟩
 ·obtain⟨s',k1,k2⟩:=gB.As C Z1 hT (fun o k h=>hstep i o k h his) I hi ho
  exact⟨s',k1,.inl ⟨by rw[getD_set_ne false his];exact h0,k2⟩⟩
·have his:i≠st2:=fun e=>by rw[e,h0] at hnot;cases hnot
 obtain⟨ost,host,_⟩:=Z2.o
 have hlst:st2<ops.size:=(Array.getElem?_eq_some_iff.1 host).1
 have hia:i≠a2:=fun e=>by
  have hcs:S.size=ops.size∧(∀ (j:Nat) (o:Oper),ops[j]? = some o→S.getD j false=true→∀ e∈o.after,Region.binds .any e=true→S.getD e.on false=true):=by
   rcases I with ⟨_,I⟩ | ⟨_,I⟩
   ·exact⟨I.size,I.closed⟩
   ·exact⟨I.size,I.closed⟩
  have:=jl C hcs.1 hcs.2 st2 a2 hlst (fun o' ho' e he hb=>hcs.2 st2 o' ho' h0 e he hb) Z2.I8
  rw[← e,hnot] at this
  cases this
 obtain⟨s',k1,k2⟩:=gB.As C Z1' hT2 (fun o k h h1 h2 h3=>by
  obtain⟨V,hV,hVh,hone⟩:=hstep i o k h his h1 h2 h3
  refine⟨V,⟨fun x=>?_,fun x p hp=>?_,hV.n⟩,hVh,by rw[Z2.same i hia];exact hone⟩
  ·rcases hV.f x with h|h|⟨j,h4,h5,h6⟩
   ·exact .inl h
   ·exact .inr (.inl h)
   ·refine .inr (.inr ⟨j,h4,h5,?_⟩)
    rw[Z2.same j (fun e=>Z2.free i his (e▸h5))]
    exact h6
  ·obtain⟨j,sl,off,h4,h5,h6,h7⟩:=hV.e x p hp
   refine⟨j,sl,off,h4,h5,?_,h7⟩
   rw[Z2.same j (fun e=>Z2.free i his (e▸h5))]
   exact h6) I hi ho
 exact⟨s',k1,.inr ⟨by rw[getD_set_ne false his];exact h0,k2⟩⟩}
end
end Go.Proofs.YtmdmimkbpikmoaaGreat.Am
namespace Go.Proofs.YtmdmimkbpikmoaaGreat
set_option maxRecDepth 20000
open Go.RowKit Am Ty
abbrev Lc (v:Value):av:=.aj [.bool true,.string bL,.string ⟨#[]⟩,.bool false,v] 0 true 51
structure B7 (h hk:ah) (ip:Nat) (v:Value) (ts:List ByteArray):Prop where
 p:h <+: hk
 o:hk[ip]? = some (.aj [.bool true,.string bL,.string ⟨#[]⟩,.bool false,v] 0 true 51)
 g:aK h hk v ts.length ((ts.map iG).flatMap Sym.cells) 56
 i:h.length≤ip
theorem B7.at {h hk:ah} {ip:Nat} {v:Value} {ts:List ByteArray} (L:B7 h hk ip v ts):bX v ip=false:=by{
rcases L.g with ⟨_,_,rfl⟩ | ⟨id,au,_,rfl,h3⟩
·rfl
·simp only[bX,beq_eq_false_iff_ne]
 intro e
 rw[e,L.o] at h3
 have h4:=congrArg (fun o=>match o with|some (av.aj _ _ _ t)=>t|_=>0) h3
 exact absurd h4 (show ¬ (51=56) by decide)}
theorem Kk {h hk:ah} {ip:Nat} {v:Value} {ts:List ByteArray} (L:B7 h hk ip v ts) (hl:ts.length≤12) {i1 i2:Nat} {h2:ah} (h1:hk <+: h2) (a1:h2[i1]? = some (.aj jM.cells 0 true 56)) (a2:h2[i2]? = some (.aj [.bool true,.string bL,.string ⟨#[]⟩,.bool false,v,.bool false,.string bS,.string bS,.bool false,.slice (some ⟨i1,0,some 0⟩) 1 1] 0 true 51)) : bK h2 (bw ts) (.slice (some ⟨i2,0,some 0⟩) 2 2) bD bD bD bD:=by{
have hs:=((L.g.sl (b:=88) om).mono h1)
refine⟨⟨[v,.slice (some ⟨i1,0,some 0⟩) 1 1],rfl,⟨show 2*72≤140737488355328 by decide,.inr ⟨i2,0,true,2,rfl,a2⟩⟩,fun i x u e1 e2=>?_⟩,cT.nil,⟨show 0*48≤140737488355328 by decide,.inl ⟨.inl rfl,rfl,rfl⟩⟩,⟨show 0*32≤140737488355328 by decide,.inl ⟨.inl rfl,rfl,rfl⟩⟩,cT.nil⟩
match i,e1,e2 with
| 0,e1,e2=>
  cases e1
  cases e2
  show bW h2 v (ts.map iG).length _ _ _
  rw[List.length_map]
  exact hs
| 1,e1,e2=>
  cases e1
  cases e2
  exact⟨by decide,.inr ⟨i1,0,true,1,rfl,a1⟩⟩
| i+2,e1,_=>simp [bw] at e1}
section
variable {h:ah} {ts:List ByteArray} {v:Value}
theorem Md (hw:∀ t∈ts,t.size≤140737488355328):tJ (bw ts):=by{
have z:∀ b:ByteArray,b.size≤100→b.size≤vN:=fun b h=>Nat.le_trans h (by decide)
refine⟨z _ (show bS.size≤100 by decide),z _ (show (ByteArray.mk #[]).size≤100 by decide),fun p hp=>?_,(fun _ h=>by cases h),(fun _ h=>by cases h),(fun _ h=>by cases h),(fun _ h=>by cases h)⟩
unfold bw at hp
simp only[List.mem_cons,List.not_mem_nil,or_false] at hp
rcases hp with rfl|rfl
·refine⟨z _ (show bL.size≤100 by decide),z _ (show (ByteArray.mk #[]).size≤100 by decide),fun s hs=>?_⟩
 unfold lG at hs
 rw[List.mem_map] at hs
 obtain⟨t,ht,rfl⟩:=hs
 exact⟨hw t ht,z _ (show (ByteArray.mk #[]).size≤100 by decide),z _ (show (ByteArray.mk #[]).size≤100 by decide),pS⟩
·refine⟨z _ (by decide),z _ (by decide),fun s hs=>?_⟩
 obtain rfl:=List.mem_singleton.1 hs
 exact⟨z _ (by decide),z _ (by decide),z _ (by decide),pS⟩}
theorem nz (hd:bh h v ts) (hw:∀ t∈ts,t.size≤140737488355328):FW env 8 [v] h fun r _=>r = .bool true:=by{
obtain⟨q,c,rfl⟩:=hd.form
have hle:ts.length*16≤140737488355328:=hd.1
refine fe Tryz.func8 ?_;simp only[push_cast]
refine zu ?_
iterate 1 (refine zx pR ?_)
refine zu ?_
refine dw (t:=51) (cs:=[.bool false,.string ⟨#[]⟩,.string ⟨#[]⟩,.bool false,bD]) ak ak ?_
dsimp only[St.aX,St.put]
have hoA:(h++[av.aj [.bool false,.string ⟨#[]⟩,.string ⟨#[]⟩,.bool false,bD] 0 true 51])[h.length]? = some (.aj [.bool false,.string ⟨#[]⟩,.string ⟨#[]⟩,.bool false,bD] 0 true 51):=aJ
have hpA:h <+: h++[av.aj [.bool false,.string ⟨#[]⟩,.string ⟨#[]⟩,.bool false,bD] 0 true 51]:=aI
generalize (h++[av.aj [.bool false,.string ⟨#[]⟩,.string ⟨#[]⟩,.bool false,bD] 0 true 51])=hA at hoA hpA ⊢
obtain⟨ip,hip⟩:∃ ip,ip=h.length:=⟨_,rfl⟩
rw[← hip] at hoA
rw[← hip]
have hpi:h.length≤ip:=by omega
clear hip
refine aG hoA ?_
refine ch (cells':=[.bool true,.string ⟨#[]⟩,.string ⟨#[]⟩,.bool false,bD]) ak rfl rfl rfl ak hoA ak rfl rfl ?_
dsimp only[St.aX,St.put]
have hpB:=aY (x:=av.aj [.bool true,.string ⟨#[]⟩,.string ⟨#[]⟩,.bool false,bD] 0 true 51) hpA hpi
have hoB:=aw (x:=av.aj [.bool true,.string ⟨#[]⟩,.string ⟨#[]⟩,.bool false,bD] 0 true 51) hoA
generalize hA.set ip (av.aj [.bool true,.string ⟨#[]⟩,.string ⟨#[]⟩,.bool false,bD] 0 true 51)=hB at hpB hoB ⊢
refine aG hoB ?_
refine ch (cells':=[.bool true,.string bL,.string ⟨#[]⟩,.bool false,bD]) ak rfl rfl rfl ak hoB ak rfl rfl ?_
dsimp only[St.aX,St.put]
have hpC:=aY (x:=av.aj [.bool true,.string bL,.string ⟨#[]⟩,.bool false,bD] 0 true 51) hpB hpi
have hoC:=aw (x:=av.aj [.bool true,.string bL,.string ⟨#[]⟩,.bool false,bD] 0 true 51) hoB
generalize hB.set ip (av.aj [.bool true,.string bL,.string ⟨#[]⟩,.bool false,bD] 0 true 51)=hC at hpC hoC ⊢
clear hoA hoB hpA hpB hA hB
refine aB ?_
have hc0:fy []=⟨#[]⟩:=rfl
obtain⟨n,hn⟩:∃ n,n=min ts.length 12:=⟨_,rfl⟩
refine CW.mono (Q:=fun e s'=>(e = .exit 0∧(∀ t∈ts.take n,t.size≠0∧t.size≤32)∧∃ x:ah×Value,B7 h x.1 ip x.2 (ts.take n)∧s'.h=x.1∧bB [(3,.val (.pointer (some ⟨ip,0,some 0⟩))),(4,.val (.string (fy (ts.take n))))] s'.fr)∨(e = .ret∧aS s'.fr 2 = .val (.bool true))) ?_ ?_
·refine a9 n (fun k (x:ah×Value)=>[(0,.val (.slice q ts.length c)),(3,.val (.pointer (some ⟨ip,0,some 0⟩))),(4,.val (.string (fy (ts.take k)))),(5,.val (i64 k))]) (fun _ x=>x.1) (fun k x=>B7 h x.1 ip x.2 (ts.take k)∧∀ t∈ts.take k,t.size≠0∧t.size≤32) (hC,bD) (by simp only[push_cast,Nat.reduceEqDiff,reduceIte,List.take_zero,hc0]) rfl ⟨⟨hpC,hoC,aK.nil,hpi⟩,by simp⟩ ?_
 rintro k ⟨hk,u⟩ hkn ⟨L,hT⟩
 simp only at L hT ⊢
 by_cases hlt:k<n
 ·have hk1:k<ts.length:=by omega
  have q3:=aV hk1
  have q4:decide ((k:Int)<12)=true:=decide_eq_true om
  obtain⟨id,au,own,c',cells,hv,hid,hg⟩:=(hd.mono L.p).at hk1
  cases hv
  have w1:=cH hk1
  have w2:=inc hlt om
  have htk:ts.take (k+1)=ts.take k++[ts[k]]:=List.take_succ_eq_append_getElem hk1
  have htw:=hw _ (List.getElem_mem hk1)
  obtain⟨t,ht⟩:∃ t,t=ts[k]:=⟨_,rfl⟩
  rw[← ht] at hg htk htw
  refine fM q3 q4 ?_
  refine af rfl ?_
  by_cases hb0:t.size=0
  ·have d0:decide ((t.size:Int)=0)=true:=decide_eq_true om
   refine ox w1 hid Nat.mul_one hg d0 ?_
   refine af rfl ?_
   refine aB ?_
   refine zj Tryz.func13 ?_
   refine jE.mono ?_
   rintro _ ha ⟨rfl,ea⟩
   refine aB ?_
   refine ai ?_
   exact .inr ⟨rfl,ak⟩
  have d0:decide ((t.size:Int)=0)=false:=decide_eq_false om
  by_cases hb1:32<t.size
  ·have d1:decide ((32:Int)<(t.size:Int))=true:=decide_eq_true om
   refine Ba w1 hid Nat.mul_one hg d0 d1 ?_
   refine af rfl ?_
   refine aB ?_
   refine zj Tryz.func13 ?_
   refine jE.mono ?_
   rintro _ ha ⟨rfl,ea⟩
   refine aB ?_
   refine ai ?_
   exact .inr ⟨rfl,ak⟩
  have d1:decide ((32:Int)<(t.size:Int))=false:=decide_eq_false om
  refine Ba w1 hid Nat.mul_one hg d0 d1 ?_
  refine ae rfl ?_
  have hbt:=L.at
  have hoL:=L.o
  refine aB ?_
  obtain⟨p5,c5,h5,hone,G5,hp5,hk5,ha5,hl5⟩:=gN (t:=49) (cs:=(iG t).cells) kr Cw (by decide) rfl L.g L.p (by rw[dv (f:=Sym.cells) (k:=8) (fun _=>rfl),List.length_map]) rfl (by simp only[List.length_take];omega) (by simp only[List.length_take];omega)
  have ho5:=hk5 _ _ hbt hoL
  have hp6:=aY (x:=av.aj [.bool true,.string bL,.string ⟨#[]⟩,.bool false,.slice p5 ((ts.take k).length+1) c5] 0 true 51) hp5 L.i
  have ho6:=aw (x:=av.aj [.bool true,.string bL,.string ⟨#[]⟩,.bool false,.slice p5 ((ts.take k).length+1) c5] 0 true 51) ho5
  have L6:B7 h (h5.set ip (av.aj [.bool true,.string bL,.string ⟨#[]⟩,.bool false,.slice p5 ((ts.take k).length+1) c5] 0 true 51)) ip (.slice p5 ((ts.take k).length+1) c5) (ts.take (k+1)):=⟨hp6,ho6,by
   rw[htk,List.map_append,List.flatMap_append,List.length_append]
   have hat:bX (.slice p5 ((ts.take k).length+1) c5) ip=false:=by
    rcases hA5:bX (.slice p5 ((ts.take k).length+1) c5) ip with _|_
    ·rfl
    ·rcases ha5 _ hA5 with e|e
     ·rw[hbt] at e;cases e
     ·have:=(List.getElem?_eq_some_iff.1 hoL).1
      omega
   exact aK.mono (by simpa using G5) (fun j o hj g=>by rw[aD (fun e=>by subst e;rw[hat] at hj;cases hj)];exact g),L.i⟩
  apply bi (L:=[[],[0],[],[],[2,3],[2,3,4],[2,3,4,5],[2,3,4,5,6],[0,1,2,3,4,5,6,7],[],[0,1,2,3,4,5,6,7,8,9]]) (act:=[8,10]) (hs:=[h5,h5.set ip (Lc (.slice p5 ((ts.take k).length+1) c5))]) (resL:=[_,_,_,_,_,_,_,_,_,_,_]) (frF:=[(0,.val (.slice (some ⟨id,0,some au⟩) ts.length c)),(3,.val (.pointer (some ⟨ip,0,some 0⟩))),(4,.val (.string (fy (ts.take k)))),(5,.val (i64 k))])
  case hm=>exact mixed
  case hc=>kernel_rfl
  case ha=>rfl
  case hb=>rfl
  case hS=>
   refine Iv w1 hid Nat.mul_one hg hoL ?_
   apply az.cons
   ·rfl
   ·refine⟨?_,trivial⟩
    exact hone _ _ _ _ _ rfl ak rfl ak rfl
   ·rfl
   refine Iv w1 hid Nat.mul_one hg ho5 ?_
   apply az.cons
   ·rfl
   ·refine⟨?_,trivial⟩
    exact One.jn (r:=.sl .dy) ak rfl rfl ak ho5 ak rfl rfl rfl
   ·rfl
   exact az.nil _
  case ht=>rfl
  case hF=>exact zh
  show CW _ _ ⟨_,[],h5.set ip (Lc (.slice p5 ((ts.take k).length+1) c5))⟩ _
  generalize h5.set ip (Lc (.slice p5 ((ts.take k).length+1) c5))=h6 at L6 ⊢
  have hcs:fy (ts.take (k+1))=fy (ts.take k)++t:=by rw[htk,tj]
  have hT6:∀ x∈ts.take (k+1),x.size≠0∧x.size≤32:=fun x hx=>by
   rw[htk,List.mem_append,List.mem_singleton] at hx
   rcases hx with hx|rfl
   ·exact hT x hx
   ·exact⟨hb0,by omega⟩
  have hcz:(fy (ts.take k)).size≤12*32:=by
   rw[wA]
   refine Nat.le_trans (lu (B:=32) fun x hx=>(hT x hx).2) ?_
   rw[List.length_take]
   omega
  have hsz:((((fy (ts.take k)).size:Nat):Int)+(t.size:Int)≤9223372036854775807)=True:=eq_true om
  obtain⟨id,au,own,c',cells,hv,hid,hg⟩:=(hd.mono L6.p).at hk1
  cases hv
  rw[← ht] at hg
  refine Ba w1 hid Nat.mul_one hg hsz w2 ?_
  exact⟨hlt,(h6,.slice p5 ((ts.take k).length+1) c5),(lF hcs),rfl,L6,hT6⟩
 ·obtain rfl:k=n:=by omega
  by_cases hl:k<ts.length
  ·have q3:=aV hl
   have q4:decide ((k:Int)<12)=false:=decide_eq_false om
   refine fM q3 q4 ?_
   refine ae rfl ?_
   refine aC ?_
   exact .inl ⟨rfl,hT,(hk,u),L,rfl,aO⟩
  ·have q3:=aT hl
   refine aG q3 ?_
   refine ae rfl ?_
   refine aC ?_
   exact .inl ⟨rfl,hT,(hk,u),L,rfl,aO⟩
have hT12:(ts.take n).length≤12:=by rw[List.length_take];omega
have hwT:∀ t∈ts.take n,t.size≤140737488355328:=fun t h=>hw t (List.mem_of_mem_take h)
generalize ts.take n=T at hT12 hwT
clear hd hw hle hn hoC hpC hc0
rintro e s' (⟨rfl,hT,⟨h1,u⟩,L,hh,hf⟩ | ⟨rfl,hr⟩)
case inr=>exact⟨[.bool true],(by show oI env s' [.tmp 2]=_;simp only[oI,ev,hr]),rfl⟩
simp only at L hh
show CW _ _ _ _
refine aA _ hf ?_
rw[hh]
clear hf hh s'
obtain⟨pu,cu,rfl⟩:=L.g.form
have hoL:=L.o
by_cases hn0:T.length=0
·have d0:decide ((T.length:Int)=0)=true:=decide_eq_true om
 refine fM hoL d0 ?_
 refine af rfl ?_
 refine aB ?_
 refine zj Tryz.func13 ?_
 refine jE.mono ?_
 rintro _ ha ⟨rfl,ea⟩
 obtain rfl:=ea.symm
 refine aB ?_
 refine ai ?_
 exact⟨_,ak,rfl⟩
have d0:decide ((T.length:Int)=0)=false:=decide_eq_false om
by_cases hn1:80<(fy T).size
·have d1:decide ((80:Int)<((fy T).size:Int))=true:=decide_eq_true om
 refine ir hoL d0 d1 ?_
 refine af rfl ?_
 refine aB ?_
 refine zj Tryz.func13 ?_
 refine jE.mono ?_
 rintro _ ha ⟨rfl,ea⟩
 obtain rfl:=ea.symm
 refine aB ?_
 refine ai ?_
 exact⟨_,ak,rfl⟩
have d1:decide ((80:Int)<((fy T).size:Int))=false:=decide_eq_false om
have hok:C4 T:=⟨hn0,hT12,hT,by omega⟩
refine ir hoL d0 d1 ?_
refine ae rfl ?_
refine zu ?_
iterate 2 (refine zx (OS hoL) ?_)
refine cz (t:=56) (cs:=jM.cells) (n:=1) ak ak ?_
dsimp only[St.aX,St.put]
have hp2:h1 <+: h1++[av.aj jM.cells 0 true 56]:=aI
have hs2:(h1++[av.aj jM.cells 0 true 56])[h1.length]? = some (.aj jM.cells 0 true 56):=aJ
generalize (h1++[av.aj jM.cells 0 true 56])=h2 at hp2 hs2 ⊢
generalize h1.length=i1 at hs2 ⊢
iterate 1 (refine zx pR ?_)
refine cz (t:=51) (cs:=[.bool true,.string bL,.string ⟨#[]⟩,.bool false,.slice pu T.length cu,.bool false,.string bS,.string bS,.bool false,.slice (some ⟨i1,0,some 0⟩) 1 1]) (n:=2) ak ak ?_
dsimp only[St.aX,St.put]
have hp3:h2 <+: h2++[av.aj [.bool true,.string bL,.string ⟨#[]⟩,.bool false,.slice pu T.length cu,.bool false,.string bS,.string bS,.bool false,.slice (some ⟨i1,0,some 0⟩) 1 1] 0 true 51]:=aI
have hs3:(h2++[av.aj [.bool true,.string bL,.string ⟨#[]⟩,.bool false,.slice pu T.length cu,.bool false,.string bS,.string bS,.bool false,.slice (some ⟨i1,0,some 0⟩) 1 1] 0 true 51])[h2.length]? = some (.aj [.bool true,.string bL,.string ⟨#[]⟩,.bool false,.slice pu T.length cu,.bool false,.string bS,.string bS,.bool false,.slice (some ⟨i1,0,some 0⟩) 1 1] 0 true 51):=aJ
generalize (h2++[av.aj [.bool true,.string bL,.string ⟨#[]⟩,.bool false,.slice pu T.length cu,.bool false,.string bS,.string bS,.bool false,.slice (some ⟨i1,0,some 0⟩) 1 1] 0 true 51])=h3 at hp3 hs3 ⊢
generalize h2.length=i2 at hs3 ⊢
have hD:=Kk L hT12 (hp2.trans hp3) (ag hp3 hs2) hs3
have hmk:=H4 hD (Md hwT) (fun _=>BJ hok)
refine aB ?_
refine zj Tryz.func15 ?_
refine FW.mono hmk ?_
rintro _ h4 (⟨hno,_⟩ | ⟨hc,m,nm,rfl,K⟩)
·exact absurd (KN hok) hno
obtain⟨hN,o0,hR0⟩:=G3 (ts:=T)
have hKr:=K.r
obtain⟨n3,hn3⟩:∃ n3,n3=3:=⟨_,rfl⟩
rw[← hn3] at hN
obtain⟨tq1,tr1,te1⟩:=cT.form K.D.now.aa
obtain⟨tq2,tr2,te2⟩:=cT.form K.D.now.ax
obtain⟨tq3,tr3,te3⟩:=bW.form K.D.now.follows
obtain⟨tq4,tr4,te4⟩:=bW.form K.D.now.an
obtain⟨tq5,tr5,te5⟩:=cT.form K.D.now.boxes
obtain⟨tq6,tr6,te6⟩:=gh.form K.r
obtain⟨tq7,tr7,te7⟩:=gh.form K.f
obtain⟨tq8,tr8,te8⟩:=K.n.form
obtain⟨tq9,tr9,te9⟩:=K.b.form
obtain⟨tqa,tra,tea⟩:=K.F.form
obtain⟨tqb,trb,teb⟩:=K.R.form
rw[List.length_map] at te6
rw[wC] at te7
rw[K.TL] at te8
have tv:tA m = .agg #[.string (bw T).start,.string (bw T).layout,.slice tq1 (bw T).aa.length tr1,.slice tq2 (bw T).ax.length tr2,.slice tq3 (bw T).follows.length tr3,.slice tq4 (bw T).an.length tr4,.slice tq5 (bw T).boxes.length tr5,i64 (aW (bw T):Int),i64 (dU (bw T):Int),.slice tq6 (wP (bw T)).length tr6,.slice tq7 (wP (bw T)).length tr7,.slice tq8 (aW (bw T)) tr8,.slice tq9 (ki [] (ky (bw T) (fQ (bw T)))).length tr9,.slice tqa (aW (bw T)) tra,.slice tqb (aW (bw T)) trb]:=by rw[tA,K.s1,K.s2,K.fk,K.st,te1,te2,te3,te4,te5,te6,te7,te8,te9,tea,teb]
rw[hN] at tv te6
rw[tv]
rw[te6] at hKr
obtain⟨id,au,c',cells,pa,ca,hv,hid,hrd,hu,_⟩:=tZ.at hKr (i:=0) (by rw[List.length_map,hN,hn3];decide)
have eg:((wP (bw T)).map (·.1))[0]'(by rw[List.length_map,hN,hn3];decide)=⟨0,fu (fy T)⟩:=by
 rw[List.getElem_map,(List.getElem?_eq_some_iff.1 hR0).2]
rw[eg] at hrd hu
rw[List.length_map,hN] at hv
cases hv
have hlk:(fu (fy T)).length=(fy T).size:=by simp [fu]
have y1:=g7 (j:=1) hrd om
simp only[List.getElem?_cons_succ,List.getElem?_cons_zero,hlk] at y1
obtain⟨N,hNs⟩:∃ N,N=(fy T).size:=⟨_,rfl⟩
have e33:decide ((n3:Int)=3)=true:=decide_eq_true om
have e00:decide ((0:Int)=0)=true:=rfl
have r0:((0:Int)≤0∧(0:Int)<(n3:Int))=True:=eq_true om
have eNN:decide (((fy T).size:Int)=((fy T).size:Int))=true:=decide_eq_true rfl
refine Ba e33 e00 r0 hid y1 eNN ?_
refine ae rfl ?_
have hu:aK h3 h4 (.slice pa (fu (fy T)).length ca) (fu (fy T)).length ((fu (fy T)).flatMap bd.cells) 65:=hu
have hs80:=hok.s
have hsl:=fun (i:Nat) (hi:i<(fu (fy T)).length)=>(hu.sl (b:=40) om).at om
obtain⟨W,hW⟩:∃ W,W=fy T:=⟨_,rfl⟩
rw[← hW] at hlk hu hsl hNs
rw[← hW]
have hWl:=hok.s
rw[← hW] at hWl
refine aB ?_
refine CW.mono (Q:=fun e s'=>e = .exit 2∧s'.h=h4∧bB [] s'.fr) ?_ ?_
·refine df W.size (fun i=>[(4,.val (.string W)),(7,.box [.string (bw T).start,.string (bw T).layout,.slice tq1 (bw T).aa.length tr1,.slice tq2 (bw T).ax.length tr2,.slice tq3 (bw T).follows.length tr3,.slice tq4 (bw T).an.length tr4,.slice tq5 (bw T).boxes.length tr5,i64 (aW (bw T):Int),i64 (dU (bw T):Int),.slice (some ⟨id,0,some au⟩) n3 tr6,.slice tq7 n3 tr7,.slice tq8 (aW (bw T)) tr8,.slice tq9 (ki [] (ky (bw T) (fQ (bw T)))).length tr9,.slice tqa (aW (bw T)) tra,.slice tqb (aW (bw T)) trb]),(9,.val (i64 i))]) (fun _=>h4) (fun _=>True) aO rfl trivial ?_
 intro i hin _
 by_cases hlt:i<W.size
 ·have w1:=cH (k:=i) (n:=(fy T).size) (by rw[← hW];exact hlt)
  have w2:=inc hlt om
  have q3:=aV hlt
  obtain⟨idx,verx,ownx,cx,hvx,hidx⟩:=hsl i om
  cases hvx
  obtain⟨c,hcc,hcn⟩:=kD hlt
  have hcl:bn W i<256:=hcn▸c.toNat_lt
  obtain⟨x,hx⟩:∃ x,x=bn W i:=⟨_,rfl⟩
  rw[← hx] at hcn hcl
  have hxg:(fu W)[i]? = some ⟨-1,fX x⟩:=by
   unfold fu
   rw[List.getElem?_map,List.getElem?_range hlt,hx]
   rfl
  have hgx:je ((fu W).flatMap bd.cells) (i*5) 5=some [i64 (-1),u64 (fX x).a,u64 (fX x).b,u64 (fX x).c,u64 (fX x).d]:=bG (f:=bd.cells) (fun _=>rfl) _ i _ hxg
  refine aG q3 ?_
  refine af rfl ?_
  obtain⟨m,hm⟩:∃ m,m=x % 64:=⟨_,rfl⟩
  have hm64:m<64:=by omega
  have hmod:(x:Int).tmod 64=(m:Int):=by rw[Int.tmod_eq_emod_of_nonneg om];omega
  have hw4:∀ m:Fin 64,IntKind.u64.wrap (1*2 ^ min (m.1:Int).toNat IntKind.u64.bits)=(2:Int) ^ m.1:=by decide
  have hw4:=hw4 ⟨m,hm64⟩
  simp only[Int.toNat_natCast] at hw4
  have hm0:((m:Int)<0)=False:=eq_false om
  have dq:∀ z:Int,decide (z=z)=true:=fun z=>decide_eq_true rfl
  rcases (by omega:x / 64=0∨x / 64=1∨x / 64=2∨x / 64=3) with hq|hq|hq|hq
  ·have hw1:IntKind.u8.wrap ((x:Int).tdiv 64)=0:=by rw[Int.tdiv_eq_ediv_of_nonneg om,IntKind.wrap_u8];omega
   have hb:fX x=⟨2 ^ m,0,0,0⟩:=by unfold fX;rw[hq,hm];simp
   rw[hb] at hgx
   refine Ba hcc hcn hw1 hmod hm0 hw4 ?_
   refine aL 11 mixed kr ?_
   refine y8 r0 w1 hid y1 hidx hgx dq ?_
   refine ae rfl ?_
   refine aG w2 ?_
   exact⟨hlt,aO,rfl,trivial⟩
  ·have hw1:IntKind.u8.wrap ((x:Int).tdiv 64)=1:=by rw[Int.tdiv_eq_ediv_of_nonneg om,IntKind.wrap_u8];omega
   have hb:fX x=⟨0,2 ^ m,0,0⟩:=by unfold fX;rw[hq,hm];simp
   rw[hb] at hgx
   refine Ba hcc hcn hw1 hmod hm0 hw4 ?_
   refine aL 11 mixed kr ?_
   refine y8 r0 w1 hid y1 hidx hgx dq ?_
   refine ae rfl ?_
   refine aG w2 ?_
   exact⟨hlt,aO,rfl,trivial⟩
  ·have hw1:IntKind.u8.wrap ((x:Int).tdiv 64)=2:=by rw[Int.tdiv_eq_ediv_of_nonneg om,IntKind.wrap_u8];omega
   have hb:fX x=⟨0,0,2 ^ m,0⟩:=by unfold fX;rw[hq,hm];simp
   rw[hb] at hgx
   refine Ba hcc hcn hw1 hmod hm0 hw4 ?_
   refine aL 11 mixed kr ?_
   refine y8 r0 w1 hid y1 hidx hgx dq ?_
   refine ae rfl ?_
   refine aG w2 ?_
   exact⟨hlt,aO,rfl,trivial⟩
  ·have hw1:IntKind.u8.wrap ((x:Int).tdiv 64)=3:=by rw[Int.tdiv_eq_ediv_of_nonneg om,IntKind.wrap_u8];omega
   have hb:fX x=⟨0,0,0,2 ^ m⟩:=by unfold fX;rw[hq,hm];simp
   rw[hb] at hgx
   refine Ba hcc hcn hw1 hmod hm0 hw4 ?_
   refine aL 11 mixed kr ?_
   refine y8 r0 w1 hid y1 hidx hgx dq ?_
   refine ae rfl ?_
   refine aG w2 ?_
   exact⟨hlt,aO,rfl,trivial⟩
 ·have q3:=aT hlt
  obtain rfl:i=W.size:=by omega
  refine aG q3 ?_
  refine ae rfl ?_
  refine aC ?_
  exact⟨rfl,rfl,aO⟩
rintro e s' ⟨rfl,hh,hf⟩
show CW _ _ _ _
refine aA _ hf ?_
rw[hh]
clear hf hh s'
refine aB ?_
refine zj Tryz.func13 ?_
refine jE.mono ?_
rintro _ ha ⟨rfl,ea⟩
obtain rfl:=ea.symm
refine aB ?_
refine ai ?_
exact⟨_,ak,rfl⟩}
end
end Go.Proofs.YtmdmimkbpikmoaaGreat
