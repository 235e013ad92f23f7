/- Several texts, one behind the other. -/
import Derived.Test.YtmdmimkbpikmoaaGreatZG5
import Derived.Test.YtmdmimkbpikmoaaGreatZFa
import Derived.Test.YtmdmimkbpikmoaaGreatZTy
set_option linter.unusedSimpArgs false
set_option linter.unusedVariables false
set_option maxHeartbeats 8000000
namespace Go.Proofs.YtmdmimkbpikmoaaGreat
set_option maxRecDepth 20000
open Go.RowKit Am Ty
section
variable {h:ah}
theorem dZ {s:ByteArray} {e:Bool} (hs:s.size≤vN):FW env 170 [.string s,.bool e] h fun r h'=>r = .bool (iB s e)∧h'=h:=by{
refine fe Tryz.func170 ?_;simp only[push_cast]
by_cases q:s=⟨#[]⟩
·have d:=decide_eq_true q
 cases e with
 | true=>
   refine aG d ?_
   refine ai ?_
   exact⟨_,ak,by simp [cD,iB,cN,d],rfl⟩
 | false=>
   refine aG d ?_
   refine zj Tryz.func49 ?_
   refine (wl hs).mono ?_
   rintro _ h1 ⟨rfl,rfl⟩
   refine aB ?_
   refine ai ?_
   exact⟨_,ak,by simp [cD,iB,cN,d],rfl⟩
·have d:=decide_eq_false q
 refine aG d ?_
 refine zj Tryz.func49 ?_
 refine (wl hs).mono ?_
 rintro _ h1 ⟨rfl,rfl⟩
 refine aB ?_
 refine ai ?_
 exact⟨_,ak,by simp [cD,iB,cN,d],rfl⟩}
theorem g8 {s:ByteArray}:iB s false=bJ s:=by unfold iB;rw[Bool.and_false,Bool.false_or]
theorem xJ {s:Sym} (hw:Ey s):FW env 203 [s.val] h fun r h'=>r = .bool (bf s)∧h'=h:=by{
refine fe Tryz.func203 ?_;simp only[push_cast]
refine zu ?_
refine aB ?_
obtain⟨z,hz⟩:∃ z,z=jc s.set:=⟨_,rfl⟩
refine aA [(1,.box [i64 s.kind,.string s.text,u64 s.set.a,u64 s.set.b,u64 s.set.c,u64 s.set.d,.string s.name,.string s.sep]),(3,.val (.bool (!z))),(9,.val (i64 s.kind)),(10,.val (.bool (decide (s.kind=1))))] (by rw[hz];unfold jc;exact aO) ?_
show CW _ _ ⟨_,[],h⟩ _
by_cases k1:s.kind=1
·have d1:=decide_eq_true k1
 rw[d1]
 refine af rfl ?_
 refine aB ?_
 refine ai ?_
 exact⟨_,ak,by simp [cD,bf,cN,Bool.and_assoc,k1,hz],rfl⟩
have d1:=decide_eq_false k1
rw[d1]
refine ae rfl ?_
by_cases k2:s.kind=2
·have d2:=decide_eq_true k2
 refine aG d2 ?_
 refine af rfl ?_
 refine aB ?_
 refine ai ?_
 exact⟨_,ak,by simp [cD,bf,cN,Bool.and_assoc,k2],rfl⟩
have d2:=decide_eq_false k2
refine aG d2 ?_
refine ae rfl ?_
by_cases k3:s.kind=3
·have d3:=decide_eq_true k3
 refine aG d3 ?_
 refine af rfl ?_
 by_cases q1:s.text=⟨#[]⟩
 ·have g1:=decide_eq_true q1
  cases z with
  | true=>
    refine aG g1 ?_
    refine zj Tryz.func170 ?_
    refine (dZ hw.name).mono ?_
    rintro _ h1 ⟨rfl,rfl⟩
    rw[g8]
    cases hN:bJ s.name with
    | true=>
      refine aB ?_
      refine ai ?_
      exact⟨_,ak,by simp [cD,bf,cN,Bool.and_assoc,k3,← hz,hN,g1],rfl⟩
    | false=>
      refine aB ?_
      refine ai ?_
      exact⟨_,ak,by simp [cD,bf,cN,Bool.and_assoc,k3,← hz,hN,g1],rfl⟩
  | false=>
    refine aG g1 ?_
    refine ai ?_
    exact⟨_,ak,by simp [cD,bf,cN,Bool.and_assoc,k3,← hz,g1],rfl⟩
 ·have g1:=decide_eq_false q1
  refine aG g1 ?_
  refine ai ?_
  exact⟨_,ak,by simp [cD,bf,cN,Bool.and_assoc,k3,g1],rfl⟩
have d3:=decide_eq_false k3
refine aG d3 ?_
refine ae rfl ?_
by_cases k4:s.kind=4
·have d4:=decide_eq_true k4
 refine aG d4 ?_
 refine af rfl ?_
 by_cases q1:s.text=⟨#[]⟩
 ·have g1:=decide_eq_true q1
  by_cases q2:s.sep=⟨#[]⟩
  ·have g2:=decide_eq_true q2
   by_cases q3:s.name=⟨#[]⟩
   ·have g3:=decide_eq_true q3
    refine ir g1 g2 g3 ?_
    refine ai ?_
    exact⟨_,ak,by simp [cD,bf,cN,Bool.and_assoc,k4,g1,g2,g3],rfl⟩
   ·have g3:=decide_eq_false q3
    cases z with
    | true=>
      refine ir g1 g2 g3 ?_
      refine zj Tryz.func170 ?_
      refine (dZ hw.name).mono ?_
      rintro _ h1 ⟨rfl,rfl⟩
      rw[g8]
      cases hN:bJ s.name with
      | true=>
        refine aB ?_
        refine ai ?_
        exact⟨_,ak,by simp [cD,bf,cN,Bool.and_assoc,k4,← hz,hN,g1,g2,g3],rfl⟩
      | false=>
        refine aB ?_
        refine ai ?_
        exact⟨_,ak,by simp [cD,bf,cN,Bool.and_assoc,k4,← hz,hN,g1,g2,g3],rfl⟩
    | false=>
      refine ir g1 g2 g3 ?_
      refine ai ?_
      exact⟨_,ak,by simp [cD,bf,cN,Bool.and_assoc,k4,← hz,g1,g2,g3],rfl⟩
  ·have g2:=decide_eq_false q2
   refine fM g1 g2 ?_
   refine ai ?_
   exact⟨_,ak,by simp [cD,bf,cN,Bool.and_assoc,k4,g1,g2],rfl⟩
 ·have g1:=decide_eq_false q1
  refine aG g1 ?_
  refine ai ?_
  exact⟨_,ak,by simp [cD,bf,cN,Bool.and_assoc,k4,g1],rfl⟩
have d4:=decide_eq_false k4
refine aG d4 ?_
refine ae rfl ?_
by_cases k5:s.kind=5
·have d5:=decide_eq_true k5
 refine aG d5 ?_
 refine af rfl ?_
 refine cj ?_
 show CW _ _ _ _
 refine af rfl ?_
 by_cases q3:s.name=⟨#[]⟩
 ·have g3:=decide_eq_true q3
  refine aG g3 ?_
  refine af rfl ?_
  refine aB ?_
  refine ai ?_
  exact⟨_,ak,by simp [cD,bf,cN,Bool.and_assoc,k5,g3],rfl⟩
 have g3:=decide_eq_false q3
 refine aG g3 ?_
 refine ae rfl ?_
 by_cases q1:s.text=⟨#[]⟩
 ·have g1:=decide_eq_true q1
  cases z with
  | true=>
    refine aG g1 ?_
    refine zj Tryz.func170 ?_
    refine (dZ hw.name).mono ?_
    rintro _ h1 ⟨rfl,rfl⟩
    rw[g8]
    cases hN:bJ s.name with
    | true=>
      refine aB ?_
      refine ai ?_
      exact⟨_,ak,by simp [cD,bf,cN,Bool.and_assoc,k5,← hz,hN,g1,g3],rfl⟩
    | false=>
      refine aB ?_
      refine ai ?_
      exact⟨_,ak,by simp [cD,bf,cN,Bool.and_assoc,k5,← hz,hN,g1,g3],rfl⟩
  | false=>
    refine aG g1 ?_
    refine ai ?_
    exact⟨_,ak,by simp [cD,bf,cN,Bool.and_assoc,k5,← hz,g1,g3],rfl⟩
 ·have g1:=decide_eq_false q1
  refine aG g1 ?_
  refine ai ?_
  exact⟨_,ak,by simp [cD,bf,cN,Bool.and_assoc,k5,g1,g3],rfl⟩
have d5:=decide_eq_false k5
refine aG d5 ?_
refine ae rfl ?_
by_cases k6:s.kind=6
·have d6:=decide_eq_true k6
 refine aG d6 ?_
 refine af rfl ?_
 by_cases q3:s.name=⟨#[]⟩
 ·have g3:=decide_eq_true q3
  refine aG g3 ?_
  refine af rfl ?_
  refine aB ?_
  refine ai ?_
  exact⟨_,ak,by simp [cD,bf,cN,Bool.and_assoc,k6,g3],rfl⟩
 have g3:=decide_eq_false q3
 refine aG g3 ?_
 refine ae rfl ?_
 by_cases q1:s.text=⟨#[]⟩
 ·have g1:=decide_eq_true q1
  cases z with
  | true=>
    refine aG g1 ?_
    refine zj Tryz.func170 ?_
    refine (dZ hw.name).mono ?_
    rintro _ h1 ⟨rfl,rfl⟩
    rw[g8]
    cases hN:bJ s.name with
    | true=>
      refine aB ?_
      refine ai ?_
      exact⟨_,ak,by simp [cD,bf,cN,Bool.and_assoc,k6,← hz,hN,g1,g3],rfl⟩
    | false=>
      refine aB ?_
      refine ai ?_
      exact⟨_,ak,by simp [cD,bf,cN,Bool.and_assoc,k6,← hz,hN,g1,g3],rfl⟩
  | false=>
    refine aG g1 ?_
    refine ai ?_
    exact⟨_,ak,by simp [cD,bf,cN,Bool.and_assoc,k6,← hz,g1,g3],rfl⟩
 ·have g1:=decide_eq_false q1
  refine aG g1 ?_
  refine ai ?_
  exact⟨_,ak,by simp [cD,bf,cN,Bool.and_assoc,k6,g1,g3],rfl⟩
have d6:=decide_eq_false k6
refine aG d6 ?_
refine ae rfl ?_
refine aB ?_
refine ai ?_
exact⟨_,ak,by simp [cD,bf,cN,Bool.and_assoc,k1,k2,k3,k4,k5,k6],rfl⟩}
end
section
variable {h:ah} {r:Value} {d:b7}
theorem Cn (hk:Bk h r d):FW env 80 [r] h fun x h'=>ii (∀ f∈d.follows,jc f.set=false) x∧h'=h:=by{
obtain⟨h0,ib,im,sv,up,uc,uf,ur,ub,rfl,hd,K⟩:=hk
have hd:=hd.mono K.p
obtain⟨p1,c1,p2,c2,p3,c3,p4,c4,p5,c5,rfl,rfl,rfl,rfl,rfl,l1,l2,l3,l4,l5⟩:=bK.form hd
obtain⟨es,hm,hes⟩:=K.m
have hb:=K.b
unfold b7.val at hb
simp only[List.cons_append,List.nil_append] at hb
have hkk:=bm es
have hss:bh h sv (aF d.aa):=K.s.sl (b:=16) (by have:=b8 (ps:=d.aa);have:=cT.le hd.aa;omega)
obtain⟨pq,cq,rfl⟩:=hss.form
refine fe Tryz.func80 ?_;simp only[push_cast]
refine aG hb ?_
refine df d.follows.length (fun k=>[(10,.val (.slice p3 d.follows.length c3)),(11,.val (i64 d.follows.length)),(12,.val (i64 k))]) (fun _=>h) (fun k=>∀ i (hi:i<d.follows.length),i<k→jc d.follows[i].set=false) aO rfl (fun i _ hi=>absurd hi om) ?_
intro k hkn hall
by_cases hlt:k<d.follows.length
·obtain⟨id,au,own,c',hv,hid⟩:=bW.at hd.follows om
 cases hv
 have hg:=iR hlt
 have e1:=cH hlt
 have e2:=inc hlt l3
 have e3:=aV hlt
 have hmem:=List.getElem_mem hlt
 have hstep:jc d.follows[k].set=false→∀ i (hi:i<d.follows.length),i<k+1→jc d.follows[i].set=false:=fun h3 i hi h2=>by
  rcases (by omega:i<k∨i=k) with h4|rfl
  ·exact hall i hi h4
  ·exact h3
 have hz:jc d.follows[k].set=(decide (d.follows[k].set.a=0)&&(decide (d.follows[k].set.b=0)&&(decide (d.follows[k].set.c=0)&&decide (d.follows[k].set.d=0)))):=rfl
 refine aG e3 ?_
 refine af rfl ?_
 refine ir e1 hid hg ?_
 refine dH ak (fun b1=>?_) (fun b1=>?_)
 ·have b2:jc d.follows[k].set=true:=by rw[hz];simpa using b1
  refine aB ?_
  refine aL 3 mixed kr ?_
  refine aB ?_
  refine ai ?_
  exact⟨_,ak,⟨51,_,rfl,⟨fun h=>(by cases h),fun h=>absurd (h _ hmem) (by rw[b2];decide)⟩⟩,rfl⟩
 ·have b2:jc d.follows[k].set=false:=by
   rw[hz]
   cases e:(decide (d.follows[k].set.a=0)&&(decide (d.follows[k].set.b=0)&&(decide (d.follows[k].set.c=0)&&decide (d.follows[k].set.d=0)))) with
   | false=>rfl
   | true=>
     simp at e
     simp [e] at b1
  refine aG e2 ?_
  exact⟨hlt,aO,rfl,hstep b2⟩
·have e3:=aT hlt
 obtain rfl:k=d.follows.length:=by omega
 refine aG e3 ?_
 refine ae rfl ?_
 refine aC ?_
 show CW _ _ _ _
 refine aB ?_
 refine ai ?_
 refine⟨_,ak,⟨0,_,rfl,fun _ p hp=>?_,fun _=>rfl⟩,rfl⟩
 obtain⟨i,hi,rfl⟩:=List.getElem_of_mem hp
 exact hall i hi hi}
def jS (ps:List Prod) (x:ByteArray):Prop:=∃ i,iX ps x i∧0≤i
def cY (c:List dT):List ByteArray:=c.flatMap (·.cons)
def gv (ps:List Prod) (l:List ByteArray):Prop:=(∀ x∈l,jS ps x)∧l.Nodup
theorem rf {c:List dT} {k:Nat} (hk:k<c.length):cY (c.take (k+1))=cY (c.take k)++c[k].cons:=by{
unfold cY
rw[List.take_succ_eq_append_getElem hk,List.flatMap_append]
simp}
structure PI (ps:List Prod) (es:List (ByteArray×Int)) (l:List ByteArray):Prop where
 g:∀ x,dx es x=if w6 l x=true then 1 else 0
 o:gv ps l
theorem PI.nil {ps:List Prod}:PI ps [] []:=⟨fun x=>by simp [dx,ia,w6],by simp [gv]⟩
theorem PI.add {ps:List Prod} {es:List (ByteArray×Int)} {l:List ByteArray} {x:ByteArray} (P:PI ps es l) (hx:jS ps x) (h0:dx es x=0):PI ps (cW es x 1) (l++[x]):=by{
have hn:x∉l:=fun h=>by rw[P.g,if_pos (cE.2 h)] at h0;cases h0
refine⟨fun y=>?_,fun y hy=>?_,?_⟩
·rw[eI,P.g]
 by_cases e:y=x
 ·rw[if_pos e,if_pos (cE.2 (by rw[e];simp))]
 ·rw[if_neg e]
  by_cases q:y∈l
  ·rw[if_pos (cE.2 q),if_pos (cE.2 (List.mem_append_left _ q))]
  ·rw[if_neg (fun k=>q (cE.1 k)),if_neg (fun k=>?_)]
   rcases List.mem_append.1 (cE.1 k) with k|k
   ·exact q k
   ·exact e (List.mem_singleton.1 k)
·rcases List.mem_append.1 hy with hy|hy
 ·exact P.o.1 y hy
 ·rw[List.mem_singleton.1 hy];exact hx
·rw[List.nodup_append]
 exact⟨P.o.2,by simp,fun a ha b hb e=>hn (by rw[← List.mem_singleton.1 hb,← e];exact ha)⟩}
theorem gv.pre {ps:List Prod} {l t:List ByteArray} (h:gv ps (l++t)):gv ps l:=⟨fun x hx=>h.1 x (List.mem_append_left _ hx),(List.nodup_append.1 h.2).1⟩
theorem ug {c:List dT} {k j:Nat} (hk:k<c.length):∃ t,cY c=cY (c.take k)++c[k].cons.take j++t:=by{
refine⟨c[k].cons.drop j++cY (c.drop (k+1)),?_⟩
have h1:cY c=cY (c.take (k+1))++cY (c.drop (k+1)):=by
 unfold cY
 rw[← List.flatMap_append,List.take_append_drop]
rw[h1,rf hk,List.append_assoc,List.append_assoc,← List.append_assoc (c[k].cons.take j),List.take_append_drop]}
def uY (d:b7):Prop:=∀ c∈d.ax,gv d.aa (cY c)
theorem HU (hk:Bk h r d):FW env 79 [r] h fun x h'=>ii (uY d) x∧h'=h:=by{
refine lq ?_
have hk0:=hk
obtain⟨h0,ib,im,sv,up,uc,uf,ur,ub,rfl,hd,K⟩:=hk
have hd:=hd.mono K.p
obtain⟨p1,c1,p2,c2,p3,c3,p4,c4,p5,c5,rfl,rfl,rfl,rfl,rfl,l1,l2,l3,l4,l5⟩:=bK.form hd
obtain⟨es,hm,hes⟩:=K.m
have hb:=K.b
unfold b7.val at hb
simp only[List.cons_append,List.nil_append] at hb
have hkk:=bm es
have hss:bh h sv (aF d.aa):=K.s.sl (b:=16) (by have:=b8 (ps:=d.aa);have:=cT.le hd.aa;omega)
obtain⟨pq,cq,rfl⟩:=hss.form
refine fe Tryz.func79 ?_;simp only[push_cast]
refine aG hb ?_
refine a9 d.ax.length (fun k (x:ah)=>[(0,.val (.pointer (some ⟨ib,0,some 0⟩))),(15,.val (.slice p2 d.ax.length c2)),(16,.val (i64 d.ax.length)),(17,.val (i64 k))]) (fun _ x=>x) (fun k x=>h <+: x∧∀ i (hi:i<d.ax.length),i<k→gv d.aa (cY d.ax[i])) h aO rfl ⟨List.prefix_refl _,fun i _ hi=>absurd hi om⟩ ?_
rintro k h1 hkn ⟨hp,hall⟩
by_cases hlt:k<d.ax.length
·obtain⟨id,au,own,c',cells,u,hv,hid0,hrd,hu⟩:=cT.at (k:=1) (fun _ _=>rfl) hd.ax hlt
 cases hv
 have hid:=ag hp hid0
 have hu0:=hu
 obtain⟨ps,cs,rfl⟩:=cT.form hu
 have hg:=mV hrd om
 simp only[List.getElem?_cons_zero,Nat.mul_one] at hg
 have w1:=cH hlt
 have w2:=inc hlt l2
 have q3:=aV hlt
 have hcl:d.ax[k].length≤140737488355328:=by have:=cT.le hu0;omega
 refine aG q3 ?_
 refine af rfl ?_
 refine fN w1 hid hg Nat.mul_one ?_
 refine j5 (kt:=9) (et:=3) ak rfl kr ?_
 have hp2:h <+: h1++[av.map []]:=cS hp
 have hm0:(h1++[av.map []])[h1.length]? = some (.map (fz [])):=aJ
 have hlen:=hp.length_le
 generalize (h1++[av.map []])=h2 at hp2 hm0 ⊢
 generalize him:h1.length=im at hm0 hlen ⊢
 refine aB ?_
 refine a9 d.ax[k].length (fun m (x:ah×List (ByteArray×Int))=>[(0,.val (.pointer (some ⟨ib,0,some 0⟩))),(6,.val (.map (some im))),(15,.val (.slice (some ⟨id,0,some au⟩) d.ax.length c2)),(16,.val (i64 d.ax.length)),(17,.val (i64 k)),(22,.val (.slice ps d.ax[k].length cs)),(23,.val (i64 d.ax[k].length)),(24,.val (i64 m))]) (fun _ x=>x.1)
  (fun m x=>h <+: x.1∧x.1[im]? = some (.map (fz x.2))∧PI d.aa x.2 (cY (d.ax[k].take m))) (h2,[]) aO rfl ⟨hp2,hm0,PI.nil⟩ ?_
 rintro m ⟨hk3,es3⟩ hmn ⟨hp3,hm3,hPI3⟩
 simp only at hp3 hm3 hPI3 ⊢
 by_cases hml:m<d.ax[k].length
 ·obtain⟨id3,ver3,own3,c3',cells3,u3,hv3,hid3,hrd3,hu3⟩:=cT.at (k:=2) (fun _ _=>rfl) (hu0.mono hp3) hml
  cases hv3
  have hu3:bh hk3 u3 (d.ax[k])[m].cons:=hu3
  obtain⟨id30,ver30,own30,c30',cells30,u30,hv30,hid30,hrd30,hu30⟩:=cT.at (k:=2) (fun _ _=>rfl) hu0 hml
  cases hv30
  have hu3e:u30=u3:=by
   have:=(ag hp3 hid30).symm.trans hid3
   cases this
   rw[hrd30] at hrd3
   simpa using hrd3
  subst hu3e
  have hu30:bh h u30 (d.ax[k])[m].cons:=hu30
  obtain⟨p6,c6,rfl⟩:=bW.form hu30
  have hul:=bh.le hu30
  have v7:=cH hml
  have v8:=inc hml hcl
  have q4:=aV hml
  refine aG q4 ?_
  refine af rfl ?_
  refine ir v7 hid3 hrd3 ?_
  have z0:((d.ax[k])[m].cons.take 0)=[]:=rfl
  refine a9 (d.ax[k])[m].cons.length (fun j (x:ah×List (ByteArray×Int))=>[(0,.val (.pointer (some ⟨ib,0,some 0⟩))),(6,.val (.map (some im))),(15,.val (.slice (some ⟨id,0,some au⟩) d.ax.length c2)),(16,.val (i64 d.ax.length)),(17,.val (i64 k)),(22,.val (.slice (some ⟨id3,0,some ver3⟩) d.ax[k].length cs)),(23,.val (i64 d.ax[k].length)),(24,.val (i64 m)),(29,.val (.slice p6 (d.ax[k])[m].cons.length c6)),(30,.val (i64 (d.ax[k])[m].cons.length)),(31,.val (i64 j))]) (fun _ x=>x.1)
   (fun j x=>h <+: x.1∧x.1[im]? = some (.map (fz x.2))∧PI d.aa x.2 (cY (d.ax[k].take m)++(d.ax[k])[m].cons.take j)) (hk3,es3) aO rfl ⟨hp3,hm3,by rw[z0,List.append_nil];exact hPI3⟩ ?_
  rintro j ⟨hk4,es4⟩ hjn ⟨hp4,hm4,hPI4⟩
  simp only at hp4 hm4 hPI4 ⊢
  by_cases hjl:j<(d.ax[k])[m].cons.length
  ·obtain⟨id5,ver5,own5,c5',cells5,hv5,hid5,hc5⟩:=(hu30.mono hp4).at hjl
   cases hv5
   have v1:=cH hjl
   have v2:=inc hjl hul
   have v3:=aV hjl
   have hb4:=ag hp4 hb
   have hkk4:=bm es4
   refine aG v3 ?_
   refine af rfl ?_
   refine ox v1 hid5 hc5 hb4 Nat.mul_one ?_
   refine zj Tryz.func24 ?_
   refine (qh (hd.mono hp4)).mono ?_
   rintro _ h5 ⟨⟨ci,hci,rfl⟩,rfl⟩
   by_cases qc:ci<0
   ·have dc:=decide_eq_true qc
    refine aG dc ?_
    refine af rfl ?_
    refine aB ?_
    refine ai ?_
    refine⟨_,ak,⟨50,_,rfl,⟨fun h=>(by cases h),fun h=>?_⟩⟩,hp4⟩
    have hc:=h _ (List.getElem_mem hlt)
    obtain⟨t,ht⟩:=ug (c:=d.ax[k]) (k:=m) (j:=j+1) hml
    rw[ht] at hc
    have hc:=hc.pre
    rw[List.take_succ_eq_append_getElem hjl,← List.append_assoc] at hc
    exfalso
    obtain⟨i,h1,h2⟩:=hc.1 _ (List.mem_append_right _ (List.mem_singleton.2 rfl))
    have:=h1.zB hci
    omega
   ·have dc:=decide_eq_false qc
    have hgx:=hPI4.g (d.ax[k])[m].cons[j]
    rcases eT es4 (d.ax[k])[m].cons[j] with ⟨hg4,hn0⟩ | hg4
    ·have w9:IntKind.i64.wrap (0+1)=1:=by decide
     refine fN dc hm4 hg4 hkk4 ?_
     refine ae rfl ?_
     refine fN hm4 hg4 hkk4 w9 ?_
     refine fq (kt:=9) (et:=3) (kd:=eB) ak rfl rfl kr rfl ak hm4 ak ak rfl hkk4 ?_
     dsimp only
     rw[dJ]
     refine aG v2 ?_
     refine⟨hjl,(h5.set im (.map (fz (cW es4 ((d.ax[k])[m].cons[j]) 1))),cW es4 ((d.ax[k])[m].cons[j]) 1),aO,rfl,aY hp4 om,aw hm4,?_⟩
     rw[List.take_succ_eq_append_getElem hjl,← List.append_assoc]
     exact hPI4.add ⟨ci,hci,by omega⟩ hn0
    ·by_cases hmm:(d.ax[k])[m].cons[j]∈cY (d.ax[k].take m)++(d.ax[k])[m].cons.take j
     ·rw[if_pos (cE.2 hmm)] at hgx
      rw[hgx] at hg4
      refine fN dc hm4 hg4 hkk4 ?_
      refine af rfl ?_
      refine aB ?_
      refine ai ?_
      refine⟨_,ak,⟨50,_,rfl,⟨fun h=>(by cases h),fun h=>?_⟩⟩,hp4⟩
      have hc:=h _ (List.getElem_mem hlt)
      obtain⟨t,ht⟩:=ug (c:=d.ax[k]) (k:=m) (j:=j+1) hml
      rw[ht] at hc
      have hc:=hc.pre
      rw[List.take_succ_eq_append_getElem hjl,← List.append_assoc] at hc
      exfalso
      exact (List.nodup_append.1 hc.2).2.2 _ hmm _ (List.mem_singleton.2 rfl) rfl
     ·rw[if_neg (fun k=>hmm (cE.1 k))] at hgx
      have hn0:=hgx
      rw[hgx] at hg4
      have w9:IntKind.i64.wrap (0+1)=1:=by decide
      refine fN dc hm4 hg4 hkk4 ?_
      refine ae rfl ?_
      refine fN hm4 hg4 hkk4 w9 ?_
      refine fq (kt:=9) (et:=3) (kd:=eB) ak rfl rfl kr rfl ak hm4 ak ak rfl hkk4 ?_
      dsimp only
      rw[dJ]
      refine aG v2 ?_
      refine⟨hjl,(h5.set im (.map (fz (cW es4 ((d.ax[k])[m].cons[j]) 1))),cW es4 ((d.ax[k])[m].cons[j]) 1),aO,rfl,aY hp4 om,aw hm4,?_⟩
      rw[List.take_succ_eq_append_getElem hjl,← List.append_assoc]
      exact hPI4.add ⟨ci,hci,by omega⟩ hn0
  ·have v3:=aT hjl
   obtain rfl:j=(d.ax[k])[m].cons.length:=by omega
   rw[List.take_length,← rf hml] at hPI4
   refine aG v3 ?_
   refine ae rfl ?_
   refine aC ?_
   show CW _ _ _ _
   refine aG v8 ?_
   exact⟨hml,(hk4,es4),aO,rfl,hp4,hm4,hPI4⟩
 ·have q4:=aT hml
  obtain rfl:m=d.ax[k].length:=by omega
  rw[List.take_length] at hPI3
  refine aG q4 ?_
  refine ae rfl ?_
  refine aC ?_
  show CW _ _ _ _
  refine aG w2 ?_
  refine⟨hlt,hk3,aO,rfl,hp3,fun i hi h2=>?_⟩
  rcases (by omega:i<k∨i=k) with h4|rfl
  ·exact hall i hi h4
  ·exact hPI3.o
·have e3:=aT hlt
 obtain rfl:k=d.ax.length:=by omega
 refine aG e3 ?_
 refine ae rfl ?_
 refine aC ?_
 show CW _ _ _ _
 refine aB ?_
 refine ai ?_
 refine⟨_,ak,⟨0,_,rfl,fun _ p hp=>?_,fun _=>rfl⟩,hp⟩
 obtain⟨i,hi,rfl⟩:=List.getElem_of_mem hp
 exact hall i hi hi}
end
theorem oh:∀ {n:Nat} {l:List Nat},l.Nodup→(∀ i∈l,i<n)→l.length≤n
 | 0,l,_,h=>by
   cases l with
   | nil=>simp
   | cons a l=>exact absurd (h a List.mem_cons_self) om
 | n+1,l,hd,h=>by
   have h1:(l.filter (fun i=>decide (i≠n))).length≤n:=oh (hd.filter _) fun i hi=>by
    have:=List.mem_filter.1 hi
    have h2:=h i this.1
    have h3:=of_decide_eq_true this.2
    omega
   have h2:∀ l:List Nat,l.Nodup→l.length≤(l.filter (fun i=>decide (i≠n))).length+1:=by
    intro l
    induction l with
    | nil=>intro _;simp
    | cons a l ih=>
      intro hd
      rw[List.nodup_cons] at hd
      by_cases e:a=n
      ·subst e
       have:(l.filter (fun i=>decide (i≠a)))=l:=List.filter_eq_self.2 fun i hi=>decide_eq_true fun e=>hd.1 (e▸hi)
       rw[List.filter_cons,if_neg (by simp),this]
       simp
      ·rw[List.filter_cons,if_pos (by simpa using e)]
       have:=ih hd.2
       simp only[List.length_cons]
       omega
   have:=h2 l hd
   omega
theorem gW {l:List Nat} {i:Nat} (h:l.Nodup) (hi:i∉l):(l++[i]).Nodup:=by
 rw[List.nodup_append]
 exact⟨h,by simp,fun a ha b hb e=>hi (by rw[← List.mem_singleton.1 hb,← e];exact ha)⟩
def dX (L:List ByteArray) (s:ByteArray):Nat:=L.countP fun x=>decide (s=x)
theorem zi {L:List ByteArray} {x s:ByteArray}:dX (L++[x]) s=dX L s+(if s=x then 1 else 0):=by{
unfold dX
rw[List.countP_append,List.countP_singleton]
by_cases h:s=x<;>simp [h]}
theorem wT {L:List ByteArray} {s:ByteArray}:dX L s≤L.length:=List.countP_le_length
def s5 (d:b7):List ByteArray:=d.an.map (·.sort)++d.follows.map (·.sort)
def ij (d:b7) (s:ByteArray):Bool:=decide (0<dX (s5 d) s)
def qE (d:b7) (x:dB):Bool:=!dC d.aa x.sort true||(!dC d.aa x.jO true||(decide (x.sort=x.jO)||ij d x.jO))
def jo (d:b7) (x:dB) (j:Nat):Bool:=qE d x||(d.an.take j).any fun y=>decide (y.sort=x.sort)
theorem Bt {d:b7} {x:dB} {j:Nat} (hj:j<d.an.length):jo d x (j+1)=(jo d x j||decide (d.an[j].sort=x.sort)):=by{
unfold jo
rw[List.take_succ_eq_append_getElem hj,List.any_append,Bool.or_assoc]
simp}
def sd (d:b7):Prop:=∀ (i:Nat) (hi:i<d.an.length),jo d d.an[i] i=false∧∀ s,sr d.aa (fun p=>cg p.al) d.an[i].jO s→ij d s=false
structure HI (es:List (ByteArray×Int)) (L:List ByteArray):Prop where
 g:∀ s,dx es s=dX L s
theorem HI.add {es:List (ByteArray×Int)} {L:List ByteArray} (H:HI es L) (x:ByteArray):HI (cW es x (dX L x+1)) (L++[x]):=
 ⟨fun s=>by
  rw[eI,zi,H.g]
  by_cases e:s=x
  ·subst e;simp
  ·simp [e]⟩
section
variable {h:ah} {r:Value} {d:b7}
theorem eK {α β:Type} {f:α→β} {l:List α} {k:Nat} (hk:k<l.length):(l.take (k+1)).map f=(l.take k).map f++[f l[k]]:=by
 rw[List.take_succ_eq_append_getElem hk,List.map_append]
 rfl
structure HR (h:ah) (im:Nat) (x:ah×List (ByteArray×Int)) (L:List ByteArray):Prop where
 p:h <+: x.1
 m:x.1[im]? = some (.map (fz x.2))
 i:HI x.2 L
theorem HR.put {h:ah} {im:Nat} {x:ah×List (ByteArray×Int)} {L:List ByteArray} (R:HR h im x L) (hl:h.length≤im) (s:ByteArray):HR h im (x.1.set im (.map (fz (cW x.2 s (dX L s+1)))),cW x.2 s (dX L s+1)) (L++[s]):=
 ⟨aY R.p hl,aw R.m,R.i.add s⟩
def kT (d:b7) (es:List (ByteArray×Int)) (i:Nat):Bool:=match es[i]? with
 | some p=>ij d p.1
 | none=>false
theorem Et (es:List (ByteArray×Int)):(fz es).all (fun p=>fB p.1)=true:=by{
unfold fz
rw[List.all_map,List.all_eq_true]
intro x _
rfl}
theorem Eg {es:List (ByteArray×Int)} {i:Nat} {k v:Value}:(fz es)[i]? = some (k,v)↔∃ p,es[i]? = some p∧k = .string p.1∧v=i64 p.2:=by{
unfold fz
rw[List.getElem?_map]
cases es[i]? with
| none=>simp
| some p=>simp [eq_comm]}
theorem Cz {d:b7} {es:List (ByteArray×Int)} {seen:List Nat} (h1:∀ i∈seen,i<es.length) (h2:∀ i,i<es.length→i∈seen):seen.any (kT d es)=es.any fun p=>ij d p.1:=by{
rw[Bool.eq_iff_iff,List.any_eq_true,List.any_eq_true]
constructor
·rintro⟨i,hi,hs⟩
 have:=h1 i hi
 unfold kT at hs
 rw[List.getElem?_eq_getElem this] at hs
 exact⟨_,List.getElem_mem this,hs⟩
·rintro⟨p,hp,hs⟩
 obtain⟨i,hi,rfl⟩:=List.getElem_of_mem hp
 refine⟨i,h2 i hi,?_⟩
 unfold kT
 rw[List.getElem?_eq_getElem hi]
 exact hs}
theorem BX (hk:Bk h r d) (hpn:cZ d≤160):FW env 78 [r] h fun x h'=>ii (sd d) x∧h'=h:=by{
refine lq ?_
have hk0:=hk
have hU:(d.aa.flatMap fun p=>cg p.al).length≤100000:=by
 have:=vK d.aa
 unfold cZ at hpn
 unfold nP at this
 omega
obtain⟨h0,ib,im,sv,up,uc,uf,ur,ub,rfl,hd,K⟩:=hk
have hd:=hd.mono K.p
obtain⟨p1,c1,p2,c2,p3,c3,p4,c4,p5,c5,rfl,rfl,rfl,rfl,rfl,l1,l2,l3,l4,l5⟩:=bK.form hd
obtain⟨es,hm,hes⟩:=K.m
have hb:=K.b
unfold b7.val at hb
simp only[List.cons_append,List.nil_append] at hb
have hkk:=bm es
have hss:bh h sv (aF d.aa):=K.s.sl (b:=16) (by have:=b8 (ps:=d.aa);have:=cT.le hd.aa;omega)
obtain⟨pq,cq,rfl⟩:=hss.form
have b1:d.an.length≤160:=by unfold cZ at hpn;omega
have b2:d.follows.length≤160:=by unfold cZ at hpn;omega
refine fe Tryz.func78 ?_;simp only[push_cast]
refine zu ?_
iterate 2 (refine zx pR ?_)
refine zu ?_
refine j5 (kt:=9) (et:=3) ak rfl kr ?_
have hR0:HR h h.length (h++[av.map []],[]) []:=⟨aI,aJ,⟨fun s=>rfl⟩⟩
have him0:h.length≤h.length:=Nat.le_refl _
have hb1:=ag hR0.p hb
simp only at hb1
generalize (h++[av.map []])=h2 at hR0 hb1 ⊢
generalize him:h.length=im at hR0 him0 ⊢
refine aG hb1 ?_
refine CW.mono (Q:=fun e s'=>e = .exit 0∧∃ x:ah×List (ByteArray×Int),HR h im x (d.an.map (·.sort))∧s'.h=x.1∧bB [(0,.val (.pointer (some ⟨ib,0,some 0⟩))),(4,.val (.map (some im)))] s'.fr) ?_ ?_
·refine a9 d.an.length (fun k (x:ah×List (ByteArray×Int))=>[(0,.val (.pointer (some ⟨ib,0,some 0⟩))),(4,.val (.map (some im))),(20,.val (.slice p4 d.an.length c4)),(21,.val (i64 d.an.length)),(22,.val (i64 k))]) (fun _ x=>x.1) (fun k x=>HR h im x ((d.an.take k).map (·.sort))) (h2,[]) aO rfl hR0 ?_
 rintro k x hkn hR
 by_cases hlt:k<d.an.length
 ·obtain⟨id,au,own,c',hv,hid⟩:=bW.at (bW.mono hd.an hR.p) om
  cases hv
  have hrd:=gM hlt
  have e1:=cH hlt
  have e2:=inc hlt l4
  have e3:=aV hlt
  have hm:=hR.m
  have hgk:=hR.i.g d.an[k].sort
  have hkk:=bm x.2
  have hLb:=wT (L:=(d.an.take k).map (·.sort)) (s:=d.an[k].sort)
  have w9:IntKind.i64.wrap ((dX ((d.an.take k).map (·.sort)) d.an[k].sort:Int)+1)=(dX ((d.an.take k).map (·.sort)) d.an[k].sort:Int)+1:=ay om (by simp only[List.length_append,List.length_map,List.length_take] at hLb;omega)
  refine aG e3 ?_
  refine af rfl ?_
  rcases eT x.2 d.an[k].sort with ⟨hg,h0'⟩ | hg
  ·rw[hgk] at h0'
   rw[h0'] at w9
   refine y8 e1 hid hrd hm hg hkk w9 ?_
   rw[show ((0:Int)+1)=(dX ((d.an.take k).map (·.sort)) d.an[k].sort:Int)+1 by rw[h0']]
   refine fq (kt:=9) (et:=3) (kd:=eB) ak rfl rfl kr rfl ak hm ak ak rfl hkk ?_
   dsimp only
   rw[dJ]
   refine aG e2 ?_
   refine⟨hlt,(x.1.set im (.map (fz (cW x.2 (d.an[k].sort) ((dX ((d.an.take k).map (·.sort)) (d.an[k].sort):Int)+1)))),cW x.2 (d.an[k].sort) ((dX ((d.an.take k).map (·.sort)) (d.an[k].sort):Int)+1)),aO,rfl,?_⟩
   show HR _ _ _ _
   rw[eK hlt]
   exact hR.put om _
  ·rw[hgk] at hg
   refine y8 e1 hid hrd hm hg hkk w9 ?_
   refine fq (kt:=9) (et:=3) (kd:=eB) ak rfl rfl kr rfl ak hm ak ak rfl hkk ?_
   dsimp only
   rw[dJ]
   refine aG e2 ?_
   refine⟨hlt,(x.1.set im (.map (fz (cW x.2 (d.an[k].sort) ((dX ((d.an.take k).map (·.sort)) (d.an[k].sort):Int)+1)))),cW x.2 (d.an[k].sort) ((dX ((d.an.take k).map (·.sort)) (d.an[k].sort):Int)+1)),aO,rfl,?_⟩
   show HR _ _ _ _
   rw[eK hlt]
   exact hR.put om _
 ·have e3:=aT hlt
  obtain rfl:k=d.an.length:=by omega
  rw[List.take_length] at hR
  refine aG e3 ?_
  refine ae rfl ?_
  refine aC ?_
  exact⟨rfl,x,hR,rfl,aO⟩
clear hR0 hb1
rintro e s' ⟨rfl,x1,hR1,hh,hf⟩
show CW _ _ _ _
refine aA _ hf ?_
rw[hh]
clear hf hh s'
have hb1:=ag hR1.p hb
refine aG hb1 ?_
refine CW.mono (Q:=fun e s'=>e = .exit 2∧∃ x:ah×List (ByteArray×Int),HR h im x (s5 d)∧s'.h=x.1∧bB [(0,.val (.pointer (some ⟨ib,0,some 0⟩))),(4,.val (.map (some im)))] s'.fr) ?_ ?_
·refine a9 d.follows.length (fun k (x:ah×List (ByteArray×Int))=>[(0,.val (.pointer (some ⟨ib,0,some 0⟩))),(4,.val (.map (some im))),(36,.val (.slice p3 d.follows.length c3)),(37,.val (i64 d.follows.length)),(38,.val (i64 k))]) (fun _ x=>x.1) (fun k x=>HR h im x (d.an.map (·.sort)++(d.follows.take k).map (·.sort))) x1 aO rfl (by rw[List.take_zero,List.map_nil,List.append_nil];exact hR1) ?_
 clear hR1 hb1
 rintro k x hkn hR
 by_cases hlt:k<d.follows.length
 ·obtain⟨id,au,own,c',hv,hid⟩:=bW.at (bW.mono hd.follows hR.p) om
  cases hv
  have hrd:=iR hlt
  have e1:=cH hlt
  have e2:=inc hlt l3
  have e3:=aV hlt
  have hm:=hR.m
  have hgk:=hR.i.g d.follows[k].sort
  have hkk:=bm x.2
  have hLb:=wT (L:=d.an.map (·.sort)++(d.follows.take k).map (·.sort)) (s:=d.follows[k].sort)
  have w9:IntKind.i64.wrap ((dX (d.an.map (·.sort)++(d.follows.take k).map (·.sort)) d.follows[k].sort:Int)+1)=(dX (d.an.map (·.sort)++(d.follows.take k).map (·.sort)) d.follows[k].sort:Int)+1:=ay om (by simp only[List.length_append,List.length_map,List.length_take] at hLb;omega)
  refine aG e3 ?_
  refine af rfl ?_
  have hst:d.an.map (·.sort)++(d.follows.take (k+1)).map (·.sort)=(d.an.map (·.sort)++(d.follows.take k).map (·.sort))++[d.follows[k].sort]:=by rw[eK hlt,List.append_assoc]
  rcases eT x.2 d.follows[k].sort with ⟨hg,h0'⟩ | hg
  ·rw[hgk] at h0'
   rw[h0'] at w9
   refine y8 e1 hid hrd hm hg hkk w9 ?_
   rw[show ((0:Int)+1)=(dX (d.an.map (·.sort)++(d.follows.take k).map (·.sort)) d.follows[k].sort:Int)+1 by rw[h0']]
   refine fq (kt:=9) (et:=3) (kd:=eB) ak rfl rfl kr rfl ak hm ak ak rfl hkk ?_
   dsimp only
   rw[dJ]
   refine aG e2 ?_
   refine⟨hlt,(x.1.set im (.map (fz (cW x.2 (d.follows[k].sort) ((dX (d.an.map (·.sort)++(d.follows.take k).map (·.sort)) (d.follows[k].sort):Int)+1)))),cW x.2 (d.follows[k].sort) ((dX (d.an.map (·.sort)++(d.follows.take k).map (·.sort)) (d.follows[k].sort):Int)+1)),aO,rfl,?_⟩
   show HR _ _ _ _
   rw[hst]
   exact hR.put om _
  ·rw[hgk] at hg
   refine y8 e1 hid hrd hm hg hkk w9 ?_
   refine fq (kt:=9) (et:=3) (kd:=eB) ak rfl rfl kr rfl ak hm ak ak rfl hkk ?_
   dsimp only
   rw[dJ]
   refine aG e2 ?_
   refine⟨hlt,(x.1.set im (.map (fz (cW x.2 (d.follows[k].sort) ((dX (d.an.map (·.sort)++(d.follows.take k).map (·.sort)) (d.follows[k].sort):Int)+1)))),cW x.2 (d.follows[k].sort) ((dX (d.an.map (·.sort)++(d.follows.take k).map (·.sort)) (d.follows[k].sort):Int)+1)),aO,rfl,?_⟩
   show HR _ _ _ _
   rw[hst]
   exact hR.put om _
 ·have e3:=aT hlt
  obtain rfl:k=d.follows.length:=by omega
  rw[List.take_length] at hR
  refine aG e3 ?_
  refine ae rfl ?_
  refine aC ?_
  exact⟨rfl,x,hR,rfl,aO⟩
clear hR1 hb1
rintro e s' ⟨rfl,x2,hR2,hh,hf⟩
show CW _ _ _ _
refine aA _ hf ?_
rw[hh]
clear hf hh s'
have hb2:=ag hR2.p hb
have hHI:=hR2.i
obtain⟨h3,es3⟩:=x2
have hp3:=hR2.p
have hm3:=hR2.m
simp only at hp3 hm3 hHI hb2
have hkk3:=bm es3
clear hR2
refine aG hb2 ?_
refine a9 d.an.length (fun k (x:ah)=>[(0,.val (.pointer (some ⟨ib,0,some 0⟩))),(4,.val (.map (some im))),(52,.val (.slice p4 d.an.length c4)),(53,.val (i64 d.an.length)),(54,.val (i64 k))]) (fun _ x=>x) (fun k x=>h3 <+: x∧∀ (i:Nat) (hi:i<d.an.length),i<k→jo d d.an[i] i=false∧∀ s,sr d.aa (fun p=>cg p.al) d.an[i].jO s→ij d s=false) h3 aO rfl ⟨List.prefix_refl _,fun i _ hi=>absurd hi om⟩ ?_
rintro k hk4 hkn ⟨hp34,hall⟩
have hp4:=hp3.trans hp34
have hm4:=ag hp34 hm3
have hb4:=ag hp34 hb2
by_cases hlt:k<d.an.length
·obtain⟨id,au,own,c',hv,hid⟩:=bW.at (bW.mono hd.an hp4) om
 cases hv
 have hrd:=gM hlt
 have e1:=cH hlt
 have e2:=inc hlt l4
 have e3:=aV hlt
 have hstep:(jo d d.an[k] k=false∧∀ s,sr d.aa (fun p=>cg p.al) d.an[k].jO s→ij d s=false)→∀ (i:Nat) (hi:i<d.an.length),i<k+1→jo d d.an[i] i=false∧∀ s,sr d.aa (fun p=>cg p.al) d.an[i].jO s→ij d s=false:=fun hq i hi h2=>by
  rcases (by omega:i<k∨i=k) with h4|rfl
  ·exact hall i hi h4
  ·exact hq
 have hfail:¬ (jo d d.an[k] k=false∧∀ s,sr d.aa (fun p=>cg p.al) d.an[k].jO s→ij d s=false)→¬ sd d:=fun hq hr=>hq (hr k hlt)
 generalize hX:d.an[k]=x at hrd hstep hfail
 refine aG e3 ?_
 refine af rfl ?_
 refine zu ?_
 iterate 6 (refine zx (MU e1 hid hrd) ?_)
 apply zn
 show CW _ _ _ _
 apply zs
 refine CW.mono (Q:=fun e s'=>e = .normal∧s'.h=hk4∧bB [(0,.val (.pointer (some ⟨ib,0,some 0⟩))),(4,.val (.map (some im))),(9,.val (i64 k)),(10,.box [.string x.sort,.string x.jO]),(11,.val (.bool (qE d x))),(52,.val (.slice (some ⟨id,0,some au⟩) d.an.length c4)),(53,.val (i64 d.an.length)),(54,.val (i64 k))] s'.fr) ?_ ?_
 ·have hK4:=hk0.mono hp4
  refine aB ?_
  refine zj Tryz.func132 ?_
  refine (ml hK4).mono ?_
  rintro _ h5 ⟨rfl,e5⟩
  obtain rfl:=e5.symm
  cases g1:dC d.aa x.sort true with
  | false=>
    refine aB ?_
    rw[show qE d x=true by unfold qE;rw[g1];rfl]
    exact⟨rfl,rfl,aO⟩
  | true=>
  refine aB ?_
  refine zj Tryz.func132 ?_
  refine (ml hK4).mono ?_
  rintro _ h5 ⟨rfl,e5⟩
  obtain rfl:=e5.symm
  cases g2:dC d.aa x.jO true with
  | false=>
    refine aB ?_
    rw[show qE d x=true by unfold qE;rw[g1,g2];rfl]
    exact⟨rfl,rfl,aO⟩
  | true=>
  by_cases q:x.sort=x.jO
  ·have dq:=decide_eq_true q
   refine aG dq ?_
   rw[show qE d x=true by unfold qE;rw[g1,g2,dq];rfl]
   exact⟨rfl,rfl,aO⟩
  have dq:=decide_eq_false q
  have hgk:=hHI.g x.jO
  have hB:qE d x=decide ((0:Int)<((dX (s5 d) x.jO:Nat):Int)):=by
   unfold qE ij
   rw[g1,g2,dq]
   by_cases q0:0<dX (s5 d) x.jO
   ·rw[decide_eq_true q0,decide_eq_true om];rfl
   ·rw[decide_eq_false q0,decide_eq_false om];rfl
  rw[hB]
  rcases eT es3 x.jO with ⟨hg,h0'⟩ | hg
  ·rw[hgk] at h0'
   rw[h0']
   refine fN dq hm4 hg hkk3 ?_
   exact⟨rfl,rfl,aO⟩
  ·rw[hgk] at hg
   refine fN dq hm4 hg hkk3 ?_
   exact⟨rfl,rfl,aO⟩
 rintro e s' ⟨rfl,hh,hf⟩
 show CW _ _ _ _
 refine aA _ hf ?_
 rw[hh]
 clear hf hh s'
 have d5:(0≤(k:Int)∧(k:Int)≤(d.an.length:Int))=True:=by simp;omega
 have z0:jo d x 0=qE d x:=by simp [jo]
 repeat (first|apply zs|apply zr|apply zn|((first|apply zx|apply zy);·simp only[push_cast,env,Nat.reduceEqDiff,reduceIte,Nat.reduceAdd,Nat.reduceMul,Nat.reduceLeDiff,reduceCtorEq,Nat.reduceSub,Int.reduceToNat,hb4,d5,hid,Nat.zero_mul,Int.sub_zero]<;>first|exact rfl|exact .inl rfl|exact .inr rfl) | apply zq|apply zb|apply zo|apply zk|apply zl)
 refine CW.mono (Q:=fun e s'=>e = .exit 6∧s'.h=hk4∧bB [(0,.val (.pointer (some ⟨ib,0,some 0⟩))),(4,.val (.map (some im))),(10,.box [.string x.sort,.string x.jO]),(11,.val (.bool (jo d x k))),(52,.val (.slice (some ⟨id,0,some au⟩) d.an.length c4)),(53,.val (i64 d.an.length)),(54,.val (i64 k))] s'.fr) ?_ ?_
 ·refine df k (fun j=>[(0,.val (.pointer (some ⟨ib,0,some 0⟩))),(4,.val (.map (some im))),(10,.box [.string x.sort,.string x.jO]),(11,.val (.bool (jo d x j))),(52,.val (.slice (some ⟨id,0,some au⟩) d.an.length c4)),(53,.val (i64 d.an.length)),(54,.val (i64 k)),(91,.val (.slice (some ⟨id,0,some au⟩) k k)),(92,.val (i64 k)),(93,.val (i64 j))]) (fun _=>hk4) (fun _=>True) (lF z0) rfl trivial ?_
  intro j hjn _
  by_cases hjl:j<k
  ·have hjr:j<d.an.length:=by omega
   have hrj:=gM hjr
   have v1:=cH hjl
   have v2:=inc hjl om
   have v3:=aV hjl
   have hst:=Bt (x:=x) hjr
   refine aG v3 ?_
   refine af rfl ?_
   refine fN v1 hid hrj v2 ?_
   exact⟨hjl,(lF hst),rfl,trivial⟩
  ·have v3:=aT hjl
   obtain rfl:j=k:=by omega
   refine aG v3 ?_
   refine ae rfl ?_
   refine aC ?_
   exact⟨rfl,rfl,aO⟩
 rintro e s' ⟨rfl,hh,hf⟩
 show CW _ _ _ _
 refine aA _ hf ?_
 rw[hh]
 clear hf hh s'
 refine aB ?_
 refine zj Tryz.func135 ?_
 refine (s4 (st:=fun p=>cg p.al) (hk0.mono hp4) Tryz.func128 kr kr hU (fun p _ u h1 _ hy=>vY hy)).mono ?_
 rintro _ h6 ⟨hp6,im6,es6,rfl,_,hm6,hR6⟩
 have hm4':=ag hp6 hm4
 refine DP (kt:=9) (et:=3) (es:=fz es6) ak rfl rfl kr ak hm6 ?_
 have hl6:(fz es6).length=es6.length:=by unfold fz;rw[List.length_map]
 rw[hl6]
 apply zn
 show CW _ _ _ _
 refine Db (e:=.normal) [(0,.val (.pointer (some ⟨ib,0,some 0⟩))),(4,.val (.map (some im))),(10,.box [.string x.sort,.string x.jO]),(11,.val (.bool (jo d x k||es6.any fun p=>ij d p.1))),(52,.val (.slice (some ⟨id,0,some au⟩) d.an.length c4)),(53,.val (i64 d.an.length)),(54,.val (i64 k))] h6 ?_ ?_
 ·refine xZ ?_
  refine AD (fun m s=>∃ seen:List Nat,m+seen.length=es6.length∧seen.Nodup∧(∀ i∈seen,i<es6.length)∧s.h=h6∧bB [(0,.val (.pointer (some ⟨ib,0,some 0⟩))),(4,.val (.map (some im))),(10,.box [.string x.sort,.string x.jO]),(11,.val (.bool (jo d x k||seen.any (kT d es6)))),(52,.val (.slice (some ⟨id,0,some au⟩) d.an.length c4)),(53,.val (i64 d.an.length)),(54,.val (i64 k)),(110,.mx im6 es6.length seen)] s.fr) es6.length ⟨[],by simp,.nil,by simp,rfl,?_⟩ ?_
  ·rw[List.any_nil,Bool.or_false]
   exact aO
  rintro m s ⟨seen,hms,hnd,hlt6,hh,hf⟩
  refine gl _ hf ?_
  rw[hh]
  clear hf hh s
  refine qW (R:=fun e s'=>e = .normal∧s'.h=h6∧(((∀ i,i<es6.length→i∈seen)∧bB [(0,.val (.pointer (some ⟨ib,0,some 0⟩))),(4,.val (.map (some im))),(10,.box [.string x.sort,.string x.jO]),(11,.val (.bool (jo d x k||seen.any (kT d es6)))),(52,.val (.slice (some ⟨id,0,some au⟩) d.an.length c4)),(53,.val (i64 d.an.length)),(54,.val (i64 k)),(112,.val (.bool false))] s'.fr)∨∃ i p,es6[i]? = some p∧i∉seen∧bB [(0,.val (.pointer (some ⟨ib,0,some 0⟩))),(4,.val (.map (some im))),(10,.box [.string x.sort,.string x.jO]),(11,.val (.bool (jo d x k||seen.any (kT d es6)))),(52,.val (.slice (some ⟨id,0,some au⟩) d.an.length c4)),(53,.val (i64 d.an.length)),(54,.val (i64 k)),(110,.mx im6 es6.length (seen++[i])),(112,.val (.bool true))] s'.fr)) ?_ ?_ ?_
  ·refine zJ (es:=fz es6) rfl rfl rfl rfl (by decide) rfl hm6 hl6 (Et es6) (fun hA=>?_) (fun i kk v hkv hi=>?_)
   ·refine aB ?_
    exact⟨rfl,rfl,.inl ⟨hA,aO⟩⟩
   ·rw[Eg] at hkv
    obtain⟨p,hp,e1,e2⟩:=hkv
    refine aB ?_
    exact⟨rfl,rfl,.inr ⟨i,p,hp,hi,aO⟩⟩
  ·rintro e s' ⟨rfl,_⟩ he
   exact absurd rfl he
  ·rintro s' ⟨_,hh,⟨hA,hf⟩ | ⟨i,p,hp,hi,hf⟩⟩
   ·refine gl _ hf ?_
    rw[hh]
    clear hf hh s'
    refine SW.of ?_
    refine zu ?_
    refine ae rfl ?_
    refine aC ?_
    refine .inr ⟨by simp,?_⟩
    refine⟨rfl,?_,rfl⟩
    rw[Cz hlt6 hA]
    exact aO
   ·refine gl _ hf ?_
    rw[hh]
    clear hf hh s'
    refine SW.of ?_
    refine zu ?_
    refine af rfl ?_
    refine cj ?_
    show CW _ _ _ _
    have hpe:(fz es6)[i]? = some (.string p.1,i64 p.2):=Eg.2 ⟨p,hp,rfl,rfl⟩
    have hgl:(seen++[i]).getLast? = some i:=by simp
    have hi6:=(List.getElem?_eq_some_iff.1 hp).1
    have hlt7:∀ q∈seen++[i],q<es6.length:=fun q hq=>by
     rcases List.mem_append.1 hq with hq|hq
     ·exact hlt6 q hq
     ·rw[List.mem_singleton.1 hq];exact hi6
    have hlen:=oh (gW hnd hi) hlt7
    rw[List.length_append,List.length_singleton] at hlen
    obtain⟨m',rfl⟩:∃ m',m=m'+1:=⟨m-1,by omega⟩
    have hsb:kT d es6 i=ij d p.1:=by unfold kT;rw[hp]
    have hst:(jo d x k||(seen++[i]).any (kT d es6))=((jo d x k||seen.any (kT d es6))||ij d p.1):=by
     rw[List.any_append,← Bool.or_assoc,List.any_cons,List.any_nil,Bool.or_false,hsb]
    cases hB:(jo d x k||seen.any (kT d es6)) with
    | true=>
      rw[hB,Bool.true_or] at hst
      refine fN hm6 hl6 hgl hpe ?_
      refine .inl ⟨rfl,m',rfl,seen++[i],by rw[List.length_append,List.length_singleton];omega,gW hnd hi,hlt7,rfl,?_⟩
      rw[hst]
      exact aO
    | false=>
      rw[hB,Bool.false_or] at hst
      have hgk:=hHI.g p.1
      have hhb:ij d p.1=decide ((0:Int)<((dX (s5 d) p.1:Nat):Int)):=by
       unfold ij
       by_cases q0:0<dX (s5 d) p.1
       ·rw[decide_eq_true q0,decide_eq_true om]
       ·rw[decide_eq_false q0,decide_eq_false om]
      rw[hhb] at hst
      rcases eT es3 p.1 with ⟨hg,h0'⟩ | hg
      ·rw[hgk] at h0'
       rw[h0'] at hst
       refine y8 hm6 hl6 hgl hpe hm4' hg hkk3 ?_
       refine .inl ⟨rfl,m',rfl,seen++[i],by rw[List.length_append,List.length_singleton];omega,gW hnd hi,hlt7,rfl,?_⟩
       rw[hst]
       exact aO
      ·rw[hgk] at hg
       refine y8 hm6 hl6 hgl hpe hm4' hg hkk3 ?_
       refine .inl ⟨rfl,m',rfl,seen++[i],by rw[List.length_append,List.length_singleton];omega,gW hnd hi,hlt7,rfl,?_⟩
       rw[hst]
       exact aO
 ·show CW _ _ _ _
  have hRk:∀ s,dx es6 s≠0↔sr d.aa (fun p=>cg p.al) x.jO s:=fun s=>hR6.done
  cases hB:(jo d x k||es6.any fun p=>ij d p.1) with
  | true=>
    refine aB ?_
    refine af rfl ?_
    refine aB ?_
    refine aL 3 mixed kr ?_
    refine aB ?_
    refine ai ?_
    refine⟨_,ak,⟨49,_,rfl,⟨fun h=>(by cases h),fun h=>absurd h (hfail fun hq=>?_)⟩⟩,hp4.trans hp6⟩
    rw[hq.1,Bool.false_or,List.any_eq_true] at hB
    obtain⟨p,hp,hh⟩:=hB
    rw[hq.2 _ ((hRk _).1 (Gc hR6.k hp))] at hh
    cases hh
  | false=>
    refine aB ?_
    refine ae rfl ?_
    refine aG e2 ?_
    refine⟨hlt,h6,aO,rfl,hp34.trans hp6,hstep ⟨?_,fun s hs=>?_⟩⟩
    ·cases e:jo d x k with
     | false=>rfl
     | true=>rw[e] at hB;cases hB
    ·obtain⟨p,hp,rfl⟩:=Gy ((hRk s).2 hs)
     cases e:ij d p.1 with
     | false=>rfl
     | true=>
       have:(es6.any fun p=>ij d p.1)=true:=List.any_eq_true.2 ⟨p,hp,e⟩
       rw[this,Bool.or_true] at hB
       cases hB
·have e3:=aT hlt
 obtain rfl:k=d.an.length:=by omega
 refine aG e3 ?_
 refine ae rfl ?_
 refine aC ?_
 show CW _ _ _ _
 refine aB ?_
 refine ai ?_
 exact⟨_,ak,⟨0,_,rfl,fun _ i hi=>hall i hi hi,fun _=>rfl⟩,hp4⟩}
end
section
variable {h:ah}
theorem BD {s:Sym} (hw:Ey s):FW env 202 [s.val] h fun r h'=>r = .bool (!bf s)∧h'=h:=by{
refine fe Tryz.func202 ?_;simp only[push_cast]
refine aB ?_
refine zj Tryz.func203 ?_
refine (xJ hw).mono ?_
rintro _ h1 ⟨rfl,rfl⟩
refine aB ?_
refine ai ?_
exact⟨_,ak,rfl,rfl⟩}
theorem Ec {p:Prod} {u:Value} (hy:fV h u p.al) (hw:ui p):FW env 171 [p.val u] h fun r h'=>r = .bool (bV p)∧h'=h:=by{
have hy0:=hy
obtain⟨ps,cs,rfl⟩:=bW.form hy
refine fe Tryz.func171 ?_;simp only[push_cast]
refine aB ?_
refine zj Tryz.func170 ?_
refine (dZ hw.sort).mono ?_
rintro _ h1 ⟨rfl,rfl⟩
rw[g8]
cases g1:bJ p.sort with
| false=>
  refine aB ?_
  refine af rfl ?_
  refine aB ?_
  refine ai ?_
  exact⟨_,ak,by simp [cD,bV,g1],rfl⟩
| true=>
  refine aB ?_
  refine zj Tryz.func170 ?_
  refine (dZ hw.cons).mono ?_
  rintro _ h1 ⟨rfl,rfl⟩
  cases g2:iB p.cons true with
  | false=>
    refine aB ?_
    refine af rfl ?_
    refine aB ?_
    refine ai ?_
    exact⟨_,ak,by simp [cD,bV,g1,g2],rfl⟩
  | true=>
    by_cases q3:p.al.length=0
    ·have d3:decide ((p.al.length:Int)=0)=true:=decide_eq_true om
     refine aG d3 ?_
     refine af rfl ?_
     refine aB ?_
     refine ai ?_
     exact⟨_,ak,by simp [cD,bV,g1,g2,q3],rfl⟩
    have d3:decide ((p.al.length:Int)=0)=false:=decide_eq_false om
    by_cases q4:p.al.length≤12
    ·have d4:decide ((12:Int)<(p.al.length:Int))=false:=decide_eq_false om
     refine fM d3 d4 ?_
     refine ae rfl ?_
     refine aB ?_
     refine dH ak (fun b1=>?_) (fun b1=>?_)
     ·have b2:(if p.lex=true then !p.bracket else (p.bracket == cN p.cons))=false:=by
       revert b1
       unfold cN
       cases p.lex<;>cases p.bracket<;>cases decide (p.cons=⟨#[]⟩)<;>simp
      refine aB ?_
      refine ai ?_
      exact⟨_,ak,by unfold bV;rw[b2,Bool.false_and,Bool.and_false];rfl,rfl⟩
     ·have b2:(if p.lex=true then !p.bracket else (p.bracket == cN p.cons))=true:=by
       revert b1
       unfold cN
       cases p.lex<;>cases p.bracket<;>cases decide (p.cons=⟨#[]⟩)<;>simp
      refine aB ?_
      refine zj Tryz.func130 ?_
      refine (nC (P:=fun s=>!bf s) (cap:=[]) (g:=202) (fn:=Tryz.f202) hy0 Tryz.func202 kr kr (fun s hs=>BD (hw.al s hs))).mono ?_
      rintro _ h1 ⟨rfl,rfl⟩
      refine aB ?_
      refine ai ?_
      refine⟨_,ak,?_,rfl⟩
      have e5:(!(p.al.any fun s=>!bf s))=p.al.all bf:=by
       rw[List.not_any_eq_all_not]
       simp
      unfold bV
      rw[b2,g1,g2,decide_eq_true q3,decide_eq_true q4,← e5]
      rfl
    ·have d4:decide ((12:Int)<(p.al.length:Int))=true:=decide_eq_true om
     refine fM d3 d4 ?_
     refine af rfl ?_
     refine aB ?_
     refine ai ?_
     exact⟨_,ak,by simp [cD,bV,g1,g2,q4],rfl⟩}
theorem BH {u:Value} {c:List dT} (hc:eR h u c) (hw:∀ g∈c,∀ s∈g.cons,s.size≤vN):FW env 172 [u] h fun r h'=>r = .bool (dK c)∧h'=h:=by{
obtain⟨ps,cs,rfl⟩:=cT.form hc
have hl:c.length≤140737488355328:=by have:=cT.le hc;omega
refine fe Tryz.func172 ?_;simp only[push_cast]
refine aB ?_
refine df c.length (fun k=>[(0,.val (.slice ps c.length cs)),(7,.val (.slice ps c.length cs)),(8,.val (i64 c.length)),(9,.val (i64 k))]) (fun _=>h) (fun k=>∀ i (hi:i<c.length),i<k→dh c[i]=true) aO rfl (fun i _ hi=>absurd hi om) ?_
intro k hkn hall
by_cases hlt:k<c.length
·obtain⟨id,au,own,c',cells,u,hv,hid,hrd,hu⟩:=cT.at (k:=2) (fun _ _=>rfl) hc hlt
 cases hv
 have hwk:=hw _ (List.getElem_mem hlt)
 obtain⟨p2,c2,rfl⟩:=bW.form hu
 have hu0:=hu
 have e1:=cH hlt
 have e2:=inc hlt hl
 have e3:=aV hlt
 have hstep:dh c[k]=true→∀ i (hi:i<c.length),i<k+1→dh c[i]=true:=fun h3 i hi h2=>by
  rcases (by omega:i<k∨i=k) with h4|rfl
  ·exact hall i hi h4
  ·exact h3
 have hgb:dh c[k]=(decide (0≤c[k].assoc)&&(decide (c[k].assoc≤3)&&(decide (c[k].cons.length≠0)&&(decide (c[k].cons.length≤16)&&c[k].cons.all bJ)))):=rfl
 have hul:=bh.le hu
 generalize hGr:c[k]=G at hrd hu hu0 hwk hgb hul
 rw[hGr] at hstep
 refine aG e3 ?_
 refine af rfl ?_
 refine ir e1 hid hrd ?_
 refine dH ak (fun b1=>?_) (fun b1=>?_)
 ·have b2:dh G=false:=by
   rw[hgb]
   revert b1
   by_cases a1:0≤G.assoc<;>by_cases a2:G.assoc≤3<;>by_cases a3:G.cons.length=0<;>by_cases a4:G.cons.length≤16<;>simp [a1,a2,a3,a4]<;>omega
  refine aB ?_
  refine ai ?_
  refine⟨_,ak,?_,rfl⟩
  have:c.all dh=false:=List.all_eq_false.2 ⟨_,List.getElem_mem hlt,by rw[hGr,b2];decide⟩
  unfold dK
  rw[this]
  rfl
 have b2:dh G=G.cons.all bJ:=by
  rw[hgb]
  revert b1
  by_cases a1:0≤G.assoc<;>by_cases a2:G.assoc≤3<;>by_cases a3:G.cons.length=0<;>by_cases a4:G.cons.length≤16<;>simp [a1,a2,a3,a4]<;>omega
 refine aB ?_
 refine df G.cons.length (fun j=>[(0,.val (.slice (some ⟨id,0,some au⟩) c.length cs)),(7,.val (.slice (some ⟨id,0,some au⟩) c.length cs)),(8,.val (i64 c.length)),(9,.val (i64 k)),(34,.val (.slice p2 G.cons.length c2)),(35,.val (i64 G.cons.length)),(36,.val (i64 j))]) (fun _=>h) (fun j=>∀ i (hi:i<G.cons.length),i<j→bJ G.cons[i]=true) aO rfl (fun i _ hi=>absurd hi om) ?_
 intro j hjn hallj
 by_cases hjl:j<G.cons.length
 ·obtain⟨id5,ver5,own5,c5',cells5,hv5,hid5,hc5⟩:=bh.at hu hjl
  cases hv5
  have v1:=cH hjl
  have v2:=inc hjl hul
  have v3:=aV hjl
  refine aG v3 ?_
  refine af rfl ?_
  refine fN v1 hid5 hc5 Nat.mul_one ?_
  refine zj Tryz.func170 ?_
  refine (dZ (hwk _ (List.getElem_mem hjl))).mono ?_
  rintro _ h1 ⟨rfl,rfl⟩
  rw[g8]
  cases hN:bJ G.cons[j] with
  | false=>
    refine aB ?_
    refine af rfl ?_
    refine aB ?_
    have b3:dh G=false:=by
     rw[b2]
     exact List.all_eq_false.2 ⟨_,List.getElem_mem hjl,by rw[hN];decide⟩
    refine ai ?_
    refine⟨_,ak,?_,rfl⟩
    have:c.all dh=false:=List.all_eq_false.2 ⟨_,List.getElem_mem hlt,by rw[hGr,b3];decide⟩
    unfold dK
    rw[this]
    rfl
  | true=>
    refine aB ?_
    refine ae rfl ?_
    refine aG v2 ?_
    refine⟨hjl,aO,rfl,fun i hi h2=>?_⟩
    rcases (by omega:i<j∨i=j) with h4|rfl
    ·exact hallj i hi h4
    ·exact hN
 ·have v3:=aT hjl
  obtain rfl:j=G.cons.length:=by omega
  refine aG v3 ?_
  refine ae rfl ?_
  refine aC ?_
  show CW _ _ _ _
  refine aG e2 ?_
  refine⟨hlt,aO,rfl,hstep ?_⟩
  rw[b2,List.all_eq_true]
  intro x hx
  obtain⟨i,hi,rfl⟩:=List.getElem_of_mem hx
  exact hallj i hi hi
·have e3:=aT hlt
 obtain rfl:k=c.length:=by omega
 refine aG e3 ?_
 refine ae rfl ?_
 refine aC ?_
 show CW _ _ _ _
 have hA:c.all dh=true:=by
  rw[List.all_eq_true]
  intro x hx
  obtain⟨i,hi,rfl⟩:=List.getElem_of_mem hx
  exact hall i hi hi
 by_cases a3:c.length=0
 ·have d3:decide ((0:Int)<(c.length:Int))=false:=decide_eq_false om
  refine aG d3 ?_
  refine ai ?_
  exact⟨_,ak,by simp [cD,dK,a3],rfl⟩
 ·have d3:decide ((0:Int)<(c.length:Int))=true:=decide_eq_true om
  refine aG d3 ?_
  refine ai ?_
  refine⟨_,ak,?_,rfl⟩
  unfold dK
  rw[hA,decide_eq_true a3]
  by_cases a4:c.length≤16
  ·have d4:decide ((c.length:Int)≤16)=true:=decide_eq_true om
   simp [cD,d4,a4]
  ·have d4:decide ((c.length:Int)≤16)=false:=decide_eq_false om
   simp [cD,d4,a4]}
end
theorem DM {l:List Item} {k:Nat} (hk:k<l.length):x7 (l.take (k+1))=(x7 (l.take k)&&Q8 l[k]):=by
 rw[pU,pU,List.take_succ_eq_append_getElem hk,List.all_append]
 simp
theorem A9 {l:List Item} {k:Nat} (hk:k<l.length):kB (l.take (k+1))=kB (l.take k)+1+kB l[k].bR:=by
 rw[mC,mC,A4 hk,List.length_take,List.length_take]
 omega
theorem FZ {l:List Item} {k:Nat}:kB (l.take k)≤kB l:=by{
rw[mC,mC,List.length_take]
have:=HN (l:=l) (k:=k)
omega}
theorem EO {l:List Item} {k:Nat} (h:x7 l=true):x7 (l.take k)=true:=by
 rw[pU,List.all_eq_true] at *
 exact fun x hx=>h x (List.mem_of_mem_take hx)
theorem lC {h:ah} {i:Nat} {o:av} (k:h[i]? = some o):h.set i o=h:=by{
refine List.ext_getElem? fun j=>?_
by_cases e:i=j
·subst e
 rw[aw k,k]
·rw[aD e]}
section
theorem BR {h0:ah} {v:Value} {l:List Item} (hr:b9 h0 v l):∀ {h:ah} {il:Nat} {v0:Int},h0 <+: h→h0.length≤il→h[il]? = some (.aj [i64 v0] 0 true 3)→0≤v0→v0≤64 → FW env 173 [v,.pointer (some ⟨il,0,some 0⟩)] h fun r h'=>∃ (b:Bool) (v':Int),r = .bool b∧h'=h.set il (.aj [i64 v'] 0 true 3)∧(b=true→x7 l=true∧v'=v0-kB l∧0≤v')∧(b=false→¬ (x7 l=true∧(kB l:Int)≤v0)):=by{
induction hr with
| @mk v l us hl hs hu ih=>
  intro h il v0 hp0 hil0 hil hv0 hv64
  obtain⟨p,c,rfl⟩:=hs.form
  have hle:=hs.1
  have hn:l.length≤140737488355328:=by omega
  have hlt_il:=cX hil
  refine fe Tryz.func173 ?_;simp only[push_cast]
  refine aB ?_
  refine a9 l.length (fun k (m:Int)=>[(0,.val (.slice p l.length c)),(1,.val (.pointer (some ⟨il,0,some 0⟩))),(9,.val (.slice p l.length c)),(10,.val (i64 l.length)),(11,.val (i64 k))]) (fun _ m=>h.set il (.aj [i64 m] 0 true 3)) (fun k m=>m=v0-kB (l.take k)∧0≤m∧x7 (l.take k)=true) v0 aO (lC hil).symm ⟨by simp [kB],hv0,rfl⟩ ?_
  intro k m hk ⟨hm,hm0,hok⟩
  have hilk:(h.set il (av.aj [i64 m] 0 true 3))[il]? = some (.aj [i64 m] 0 true 3):=aw hil
  have hpk:h0 <+: h.set il (av.aj [i64 m] 0 true 3):=aY hp0 hil0
  by_cases hlt:k<l.length
  ·obtain⟨id,au,own,c',hv,hid⟩:=bW.at (hs.mono hpk) om
   cases hv
   have e1:=cH hlt
   have e2:=inc hlt hn
   have e3:=aV hlt
   have hi':k<us.length:=hl▸hlt
   have hg:=xj hl hlt
   have hrec:=fun h il v0 a b c d e=>@ih k l[k] us[k] (by simp [hlt]) (by simp [hi']) h il v0 a b c d e
   obtain⟨pu,cu,huf⟩:∃ pu cu,us[k] = .slice pu l[k].bR.length cu:=cT.form (b9.iff.1 (hu k l[k] us[k] (by simp [hlt]) (by simp [hi'])))
   rw[huf] at hg hrec
   have ec:=A9 hlt
   have eo:=DM hlt
   rw[JN] at eo
   have ecl:=FZ (l:=l) (k:=k+1)
   have eol:x7 l=true→x7 (l.take (k+1))=true:=EO
   generalize hX:l[k]=x at hg hrec ec eo
   have w1:IntKind.i64.wrap (m-1)=m-1:=ay om om
   refine aG e3 ?_
   refine af rfl ?_
   refine ox e1 hid hg hilk w1 ?_
   refine ch (v:=i64 (m-1)) (vs:=[i64 (m-1)]) (cells':=[i64 (m-1)]) ak rfl rfl rfl ak hilk ak rfl rfl ?_
   dsimp only
   rw[List.set_set]
   have hil2:(h.set il (av.aj [i64 (m-1)] 0 true 3))[il]? = some (.aj [i64 (m-1)] 0 true 3):=aw hil
   have hp2:h0 <+: h.set il (av.aj [i64 (m-1)] 0 true 3):=aY hp0 hil0
   generalize hh2:h.set il (av.aj [i64 (m-1)] 0 true 3)=h2 at hil2 hp2 ⊢
   refine zu ?_
   iterate 9 (refine zx pR ?_)
   refine zu ?_
   iterate 1 (refine zx pR ?_)
   refine zu ?_
   iterate 2 (refine zx pR ?_)
   apply zn
   show CW _ _ _ _
   refine CW.mono (Q:=fun e s'=>e = .normal∧s'.h=h2∧∃ b,b=jt x∧bB [(0,.val (.slice (some ⟨id,0,some au⟩) l.length c)),(1,.val (.pointer (some ⟨il,0,some 0⟩))),(6,.box [i64 x.kind,.string x.text,i64 x.n,.slice pu x.bR.length cu]),(8,.val (.bool b)),(9,.val (.slice (some ⟨id,0,some au⟩) l.length c)),(10,.val (i64 l.length)),(11,.val (i64 k))] s'.fr) ?_ ?_
   ·by_cases k1:x.kind=1
    ·have d1:=decide_eq_true k1
     refine aG d1 ?_
     refine af rfl ?_
     refine aB ?_
     refine⟨rfl,rfl,(decide ((x.text.size:Int)≤32)&&decide (x.n=0)&&decide ((x.bR.length:Int)=0)),?_,aO⟩
     obtain⟨k0,t0,n0,l0⟩:=x
     simp only[Item.kind,Item.text,Item.n,Item.bR] at *
     simp [jt,Item.kind,Item.text,Item.n,Item.bR,cN,Bool.and_assoc,k1]
    have d1:=decide_eq_false k1
    refine aG d1 ?_
    refine ae rfl ?_
    by_cases k2:x.kind=2
    ·have d2:=decide_eq_true k2
     refine aG d2 ?_
     refine af rfl ?_
     refine aB ?_
     refine⟨rfl,rfl,(decide (x.text=⟨#[]⟩)&&(decide (0≤x.n)&&decide (x.n≤999999))&&decide ((x.bR.length:Int)=0)),?_,aO⟩
     obtain⟨k0,t0,n0,l0⟩:=x
     simp only[Item.kind,Item.text,Item.n,Item.bR] at *
     simp [jt,Item.kind,Item.text,Item.n,Item.bR,cN,Bool.and_assoc,k2]
    have d2:=decide_eq_false k2
    refine aG d2 ?_
    refine ae rfl ?_
    by_cases k3:x.kind=3
    ·have d3:=decide_eq_true k3
     refine aG d3 ?_
     refine af rfl ?_
     refine cj ?_
     show CW _ _ _ _
     refine af rfl ?_
     refine aB ?_
     refine⟨rfl,rfl,(decide (x.text=⟨#[]⟩)&&decide (x.n=0)&&decide ((x.bR.length:Int)=0)),?_,aO⟩
     obtain⟨k0,t0,n0,l0⟩:=x
     simp only[Item.kind,Item.text,Item.n,Item.bR] at *
     simp [jt,Item.kind,Item.text,Item.n,Item.bR,cN,Bool.and_assoc,k3]
    have d3:=decide_eq_false k3
    refine aG d3 ?_
    refine ae rfl ?_
    by_cases k4:x.kind=4
    ·have d4:=decide_eq_true k4
     refine aG d4 ?_
     refine af rfl ?_
     refine aB ?_
     refine⟨rfl,rfl,(decide (x.text=⟨#[]⟩)&&decide (x.n=0)&&decide ((x.bR.length:Int)=0)),?_,aO⟩
     obtain⟨k0,t0,n0,l0⟩:=x
     simp only[Item.kind,Item.text,Item.n,Item.bR] at *
     simp [jt,Item.kind,Item.text,Item.n,Item.bR,cN,Bool.and_assoc,k4]
    have d4:=decide_eq_false k4
    refine aG d4 ?_
    refine ae rfl ?_
    by_cases k5:x.kind=5
    ·have d5:=decide_eq_true k5
     refine aG d5 ?_
     refine af rfl ?_
     refine aB ?_
     refine⟨rfl,rfl,(decide (x.text=⟨#[]⟩)&&(decide (0≤x.n)&&decide (x.n≤999999))),?_,aO⟩
     obtain⟨k0,t0,n0,l0⟩:=x
     simp only[Item.kind,Item.text,Item.n,Item.bR] at *
     simp [jt,Item.kind,Item.text,Item.n,Item.bR,cN,Bool.and_assoc,k5]
    have d5:=decide_eq_false k5
    refine aG d5 ?_
    refine ae rfl ?_
    by_cases k6:x.kind=6
    ·have d6:=decide_eq_true k6
     refine aG d6 ?_
     refine af rfl ?_
     refine aB ?_
     refine⟨rfl,rfl,(decide (x.text=⟨#[]⟩)&&decide (x.n=0)),?_,aO⟩
     obtain⟨k0,t0,n0,l0⟩:=x
     simp only[Item.kind,Item.text,Item.n,Item.bR] at *
     simp [jt,Item.kind,Item.text,Item.n,Item.bR,cN,Bool.and_assoc,k6]
    have d6:=decide_eq_false k6
    refine aG d6 ?_
    refine ae rfl ?_
    refine aB ?_
    refine⟨rfl,rfl,false,?_,aO⟩
    obtain⟨k0,t0,n0,l0⟩:=x
    simp only[Item.kind,Item.text,Item.n,Item.bR] at *
    simp [jt,Item.kind,Item.text,Item.n,Item.bR,cN,Bool.and_assoc,k1,k2,k3,k4,k5,k6]
   rintro e s' ⟨rfl,hh,b,hb,hf⟩
   show CW _ _ _ _
   refine aA _ hf ?_
   rw[hh]
   clear hf hh s'
   cases b with
   | false=>
     refine aB ?_
     refine af rfl ?_
     refine aB ?_
     refine ai ?_
     refine⟨_,ak,false,m-1,rfl,hh2.symm,fun h=>(by cases h),fun _ hh=>?_⟩
     have:=eol hh.1
     rw[eo,← hb] at this
     simp at this
   | true=>
     by_cases q:m-1<0
     ·have dq:=decide_eq_true q
      refine fM hil2 dq ?_
      refine af rfl ?_
      refine aB ?_
      refine ai ?_
      refine⟨_,ak,false,m-1,rfl,hh2.symm,fun h=>(by cases h),fun _ hh=>?_⟩
      omega
     ·have dq:=decide_eq_false q
      refine fM hil2 dq ?_
      refine zj Tryz.func173 ?_
      refine (hrec h2 il (m-1) hp2 hil0 hil2 om om).mono ?_
      rintro _ h3 ⟨b',v',rfl,rfl,g1,g2⟩
      have hset:h2.set il (av.aj [i64 v'] 0 true 3)=h.set il (av.aj [i64 v'] 0 true 3):=by rw[← hh2,List.set_set]
      cases b' with
      | false=>
        refine aB ?_
        refine af rfl ?_
        refine aB ?_
        refine ai ?_
        refine⟨_,ak,false,v',rfl,hset,fun h=>(by cases h),fun _ hh=>?_⟩
        refine g2 rfl ⟨?_,by omega⟩
        have:=eol hh.1
        rw[eo] at this
        simp only[Bool.and_eq_true] at this
        exact this.2.2
      | true=>
        obtain⟨g3,g4,g5⟩:=g1 rfl
        refine aB ?_
        refine ae rfl ?_
        refine aG e2 ?_
        refine⟨hlt,v',aO,hset,by omega,g5,?_⟩
        rw[eo,hok,← hb,g3]
        rfl
  ·have e3:=aT hlt
   obtain rfl:k=l.length:=by omega
   rw[List.take_length] at hm hok
   refine aG e3 ?_
   refine ae rfl ?_
   refine aC ?_
   show CW _ _ _ _
   refine aB ?_
   refine ai ?_
   exact⟨_,ak,true,m,rfl,rfl,fun _=>⟨hok,hm,hm0⟩,fun h=>(by cases h)⟩}
end
section
variable {h:ah} {r:Value} {d:b7} {up uc uf ur ub:Value}
theorem rY {α:Type} {P:α→Bool} {l:List α} (hall:∀ i (hi:i<l.length),i<l.length→P l[i]=true):l.all P=true:=by{
rw[List.all_eq_true]
intro x hx
obtain⟨i,hi,rfl⟩:=List.getElem_of_mem hx
exact hall i hi hi}
theorem mb {α:Type} {P:α→Bool} {l:List α} {k:Nat} (hk:k<l.length) (hp:P l[k]=false):l.all P=false:=List.all_eq_false.2 ⟨_,List.getElem_mem hk,by rw[hp];decide⟩
theorem By (hd:bK h d up uc uf ur ub) (hw:tJ d):FW env 127 [.agg (d.val up uc uf ur ub).toArray] h fun r h'=>r = .bool (cQ d)∧h'=h:=by{
refine uq ?_
obtain⟨p1,c1,p2,c2,p3,c3,p4,c4,p5,c5,rfl,rfl,rfl,rfl,rfl,l1,l2,l3,l4,l5⟩:=bK.form hd
obtain⟨B,hB⟩:∃ B:List Value,B=[.string d.start,.string d.layout,.slice p1 d.aa.length c1,.slice p2 d.ax.length c2,.slice p3 d.follows.length c3,.slice p4 d.an.length c4,.slice p5 d.boxes.length c5]:=⟨_,rfl⟩
refine fe Tryz.func127 ?_;simp only[push_cast]
unfold b7.val
refine aB ?_
refine zj Tryz.func170 ?_
refine (dZ hw.start).mono ?_
rintro _ h1 ⟨rfl,rfl⟩
cases g1:iB d.start true with
| false=>
  refine aB ?_
  refine af rfl ?_
  refine aB ?_
  refine ai ?_
  refine⟨_,ak,?_,List.prefix_refl _⟩
  unfold cQ
  simp only[g1,Bool.false_and,Bool.and_false,Bool.true_and]
  rfl
| true=>
refine aB ?_
refine zj Tryz.func170 ?_
refine (dZ hw.layout).mono ?_
rintro _ h1 ⟨rfl,rfl⟩
cases g2:iB d.layout true with
| false=>
  refine aB ?_
  refine af rfl ?_
  refine aB ?_
  refine ai ?_
  refine⟨_,ak,?_,List.prefix_refl _⟩
  unfold cQ
  simp only[g1,g2,Bool.false_and,Bool.and_false,Bool.true_and]
  rfl
| true=>
by_cases q3:d.aa.length≤200
case neg=>
 have d3:decide ((200:Int)<(d.aa.length:Int))=true:=decide_eq_true om
 have g3:=decide_eq_false q3
 refine aG d3 ?_
 refine af rfl ?_
 refine aB ?_
 refine ai ?_
 refine⟨_,ak,?_,List.prefix_refl _⟩
 unfold cQ
 simp only[g1,g2,g3,Bool.false_and,Bool.and_false,Bool.true_and]
 rfl
have d3:decide ((200:Int)<(d.aa.length:Int))=false:=decide_eq_false om
have g3:=decide_eq_true q3
refine aG d3 ?_
refine ae rfl ?_
refine aB ?_
refine df d.aa.length (fun k=>[(1,.box B),(31,.val (.slice p1 d.aa.length c1)),(32,.val (i64 d.aa.length)),(33,.val (i64 k))]) (fun _=>h1) (fun k=>∀ i (hi:i<d.aa.length),i<k→bV d.aa[i]=true) (by rw[hB];exact aO) rfl (fun i _ hi=>absurd hi om) ?_
intro k hkn hall
by_cases hlt:k<d.aa.length
·obtain⟨id,au,own,c',cells,u,hv,hid,hrd,hu⟩:=cT.at (k:=5) (fun _ _=>rfl) hd.aa hlt
 cases hv
 have hu0:=hu
 obtain⟨ps,cs,rfl⟩:=bW.form hu
 have w1:=cH hlt
 have w2:=inc hlt l1
 have q3:=aV hlt
 refine aG q3 ?_
 refine af rfl ?_
 refine ir w1 hid hrd ?_
 refine zj Tryz.func171 ?_
 refine (Ec hu0 (hw.aa _ (List.getElem_mem hlt))).mono ?_
 rintro _ h2 ⟨rfl,rfl⟩
 cases gg:bV d.aa[k] with
 | false=>
   have gA:=mb hlt gg
   refine aB ?_
   refine af rfl ?_
   refine aB ?_
   refine ai ?_
   refine⟨_,ak,?_,List.prefix_refl _⟩
   unfold cQ
   simp only[g1,g2,g3,gA,Bool.false_and,Bool.and_false,Bool.true_and]
   rfl
 | true=>
   refine aB ?_
   refine ae rfl ?_
   refine aG w2 ?_
   refine⟨hlt,aO,rfl,fun i hi h2=>?_⟩
   rcases (by omega:i<k∨i=k) with h4|rfl
   ·exact hall i hi h4
   ·exact gg
have e3:=aT hlt
obtain rfl:k=d.aa.length:=by omega
refine aG e3 ?_
refine ae rfl ?_
refine aC ?_
show CW _ _ _ _
have gP:=rY (P:=bV) hall
clear hall
refine aB ?_
rw[hB]
refine aB ?_
refine df d.ax.length (fun k=>[(1,.box B),(42,.val (.slice p2 d.ax.length c2)),(43,.val (i64 d.ax.length)),(44,.val (i64 k))]) (fun _=>h1) (fun k=>∀ i (hi:i<d.ax.length),i<k→dK d.ax[i]=true) (by rw[hB];exact aO) rfl (fun i _ hi=>absurd hi om) ?_
intro k hkn hall
by_cases hlt:k<d.ax.length
·obtain⟨id,au,own,c',cells,u,hv,hid,hrd,hu⟩:=cT.at (k:=1) (fun _ _=>rfl) hd.ax hlt
 cases hv
 have hu0:=hu
 obtain⟨ps,cs,rfl⟩:=cT.form hu
 have hg:=mV hrd om
 simp only[List.getElem?_cons_zero,Nat.mul_one] at hg
 have w1:=cH hlt
 have w2:=inc hlt l2
 have q3:=aV hlt
 refine aG q3 ?_
 refine af rfl ?_
 refine fN w1 hid hg Nat.mul_one ?_
 refine zj Tryz.func172 ?_
 refine (BH hu0 (hw.ax _ (List.getElem_mem hlt))).mono ?_
 rintro _ h2 ⟨rfl,rfl⟩
 cases gg:dK d.ax[k] with
 | false=>
   have gA:=mb hlt gg
   refine aB ?_
   refine af rfl ?_
   refine aB ?_
   refine ai ?_
   refine⟨_,ak,?_,List.prefix_refl _⟩
   unfold cQ
   simp only[g1,g2,g3,gP,gA,Bool.false_and,Bool.and_false,Bool.true_and]
   rfl
 | true=>
   refine aB ?_
   refine ae rfl ?_
   refine aG w2 ?_
   refine⟨hlt,aO,rfl,fun i hi h2=>?_⟩
   rcases (by omega:i<k∨i=k) with h4|rfl
   ·exact hall i hi h4
   ·exact gg
have e3:=aT hlt
obtain rfl:k=d.ax.length:=by omega
refine aG e3 ?_
refine ae rfl ?_
refine aC ?_
show CW _ _ _ _
have gC:=rY (P:=dK) hall
clear hall
refine aB ?_
rw[hB]
refine aB ?_
refine df d.follows.length (fun k=>[(1,.box B),(53,.val (.slice p3 d.follows.length c3)),(54,.val (i64 d.follows.length)),(55,.val (i64 k))]) (fun _=>h1) (fun k=>∀ i (hi:i<d.follows.length),i<k→(fun f:eZ=>bJ f.sort) d.follows[i]=true) (by rw[hB];exact aO) rfl (fun i _ hi=>absurd hi om) ?_
intro k hkn hall
by_cases hlt:k<d.follows.length
·obtain⟨id,au,own,c',hv,hid⟩:=bW.at hd.follows om
 cases hv
 have hg:=iR hlt
 have w1:=cH hlt
 have w2:=inc hlt l3
 have q3:=aV hlt
 refine aG q3 ?_
 refine af rfl ?_
 refine ir w1 hid hg ?_
 refine zj Tryz.func170 ?_
 refine (dZ (hw.follows _ (List.getElem_mem hlt)).1).mono ?_
 rintro _ h2 ⟨rfl,rfl⟩
 rw[g8]
 cases gg:bJ d.follows[k].sort with
 | false=>
   have gA:=mb (P:=fun f:eZ=>bJ f.sort) hlt gg
   refine aB ?_
   refine af rfl ?_
   refine aB ?_
   refine ai ?_
   refine⟨_,ak,?_,List.prefix_refl _⟩
   unfold cQ
   simp only[g1,g2,g3,gP,gC,gA,Bool.false_and,Bool.and_false,Bool.true_and]
   rfl
 | true=>
   refine aB ?_
   refine ae rfl ?_
   refine aG w2 ?_
   refine⟨hlt,aO,rfl,fun i hi h2=>?_⟩
   rcases (by omega:i<k∨i=k) with h4|rfl
   ·exact hall i hi h4
   ·exact gg
have e3:=aT hlt
obtain rfl:k=d.follows.length:=by omega
refine aG e3 ?_
refine ae rfl ?_
refine aC ?_
show CW _ _ _ _
have gF:=rY (P:=fun f:eZ=>bJ f.sort) hall
clear hall
refine aB ?_
rw[hB]
refine aB ?_
refine df d.an.length (fun k=>[(1,.box B),(65,.val (.slice p4 d.an.length c4)),(66,.val (i64 d.an.length)),(67,.val (i64 k))]) (fun _=>h1) (fun k=>∀ i (hi:i<d.an.length),i<k→(fun x:dB=>bJ x.sort&&bJ x.jO) d.an[i]=true) (by rw[hB];exact aO) rfl (fun i _ hi=>absurd hi om) ?_
intro k hkn hall
by_cases hlt:k<d.an.length
·obtain⟨id,au,own,c',hv,hid⟩:=bW.at hd.an om
 cases hv
 have hg:=gM hlt
 have w1:=cH hlt
 have w2:=inc hlt l4
 have q3:=aV hlt
 refine aG q3 ?_
 refine af rfl ?_
 refine ir w1 hid hg ?_
 refine zj Tryz.func170 ?_
 refine (dZ (hw.an _ (List.getElem_mem hlt)).1).mono ?_
 rintro _ h2 ⟨rfl,rfl⟩
 rw[g8]
 cases gg:bJ d.an[k].sort with
 | false=>
   have gA:=mb (P:=fun x:dB=>bJ x.sort&&bJ x.jO) hlt (by simp only[gg,Bool.false_and])
   refine aB ?_
   refine af rfl ?_
   refine aB ?_
   refine ai ?_
   refine⟨_,ak,?_,List.prefix_refl _⟩
   unfold cQ
   simp only[g1,g2,g3,gP,gC,gF,gA,Bool.false_and,Bool.and_false,Bool.true_and]
   rfl
 | true=>
   refine aB ?_
   refine zj Tryz.func170 ?_
   refine (dZ (hw.an _ (List.getElem_mem hlt)).2).mono ?_
   rintro _ h2 ⟨rfl,rfl⟩
   rw[g8]
   cases gg2:bJ d.an[k].jO with
   | false=>
     have gA:=mb (P:=fun x:dB=>bJ x.sort&&bJ x.jO) hlt (by simp only[gg2,Bool.and_false])
     refine aB ?_
     refine af rfl ?_
     refine aB ?_
     refine ai ?_
     refine⟨_,ak,?_,List.prefix_refl _⟩
     unfold cQ
     simp only[g1,g2,g3,gP,gC,gF,gA,Bool.false_and,Bool.and_false,Bool.true_and]
     rfl
   | true=>
     refine aB ?_
     refine ae rfl ?_
     refine aG w2 ?_
     refine⟨hlt,aO,rfl,fun i hi h2=>?_⟩
     rcases (by omega:i<k∨i=k) with h4|rfl
     ·exact hall i hi h4
     ·exact (by simp only[gg,gg2,Bool.and_true])
have e3:=aT hlt
obtain rfl:k=d.an.length:=by omega
refine aG e3 ?_
refine ae rfl ?_
refine aC ?_
show CW _ _ _ _
have gR:=rY (P:=fun x:dB=>bJ x.sort&&bJ x.jO) hall
clear hall
refine aB ?_
rw[hB]
refine aB ?_
refine a9 d.boxes.length (fun k (x:ah)=>[(83,.val (.slice p5 d.boxes.length c5)),(84,.val (i64 d.boxes.length)),(85,.val (i64 k))]) (fun _ x=>x) (fun k x=>h1 <+: x∧∀ i (hi:i<d.boxes.length),i<k→gO d.boxes[i]=true) h1 aO rfl ⟨List.prefix_refl _,fun i _ hi=>absurd hi om⟩ ?_
rintro k hk hkn ⟨hp,hall⟩
by_cases hlt:k<d.boxes.length
·obtain⟨id,au,own,c',cells,u,hv,hid0,hrd,hu⟩:=cT.at (k:=2) (fun _ _=>rfl) hd.boxes hlt
 cases hv
 have hid:=ag hp hid0
 have hu0:=hu
 obtain⟨ps,cs,rfl⟩:=cT.form (b9.iff.1 hu)
 have w1:=cH hlt
 have w2:=inc hlt l5
 have q3:=aV hlt
 refine aG q3 ?_
 refine af rfl ?_
 refine zu ?_
 iterate 4 (refine zx (MU w1 hid hrd) ?_)
 refine zu ?_
 refine dw (t:=3) (cs:=[i64 0]) ak ak ?_
 dsimp only[St.aX,St.put]
 refine ch (v:=i64 64) (vs:=[i64 64]) (cells':=[i64 64]) ak rfl rfl rfl ak aJ ak rfl rfl ?_
 dsimp only
 have hset:(hk++[av.aj [i64 0] 0 true 3]).set hk.length (.aj [i64 64] 0 true 3)=hk++[.aj [i64 64] 0 true 3]:=by simp
 rw[hset]
 have hp2:h1 <+: hk++[av.aj [i64 64] 0 true 3]:=cS hp
 have hil:(hk++[av.aj [i64 64] 0 true 3])[hk.length]? = some (.aj [i64 64] 0 true 3):=aJ
 have hlen:=hp.length_le
 generalize (hk++[av.aj [i64 64] 0 true 3])=h2 at hp2 hil ⊢
 refine aB ?_
 refine zj Tryz.func170 ?_
 refine (dZ (hw.boxes _ (List.getElem_mem hlt))).mono ?_
 rintro _ h2 ⟨rfl,rfl⟩
 rw[g8]
 cases gg:bJ d.boxes[k].cons with
 | false=>
   have gA:=mb hlt (show gO d.boxes[k]=false by unfold gO;rw[gg];rfl)
   refine aB ?_
   refine af rfl ?_
   refine aB ?_
   refine ai ?_
   refine⟨_,ak,?_,hp2⟩
   unfold cQ
   simp only[g1,g2,g3,gP,gC,gF,gR,gA,Bool.false_and,Bool.and_false,Bool.true_and]
   rfl
 | true=>
   refine aB ?_
   refine zj Tryz.func173 ?_
   refine (BR hu0 hp2 hlen hil (by decide) (by decide)).mono ?_
   rintro _ h3 ⟨b,v',rfl,rfl,k1,k2⟩
   have hp3:h1 <+: h2.set hk.length (av.aj [i64 v'] 0 true 3):=aY hp2 hlen
   generalize h2.set hk.length (av.aj [i64 v'] 0 true 3)=h3 at hp3 ⊢
   cases b with
   | false=>
     have gA:=mb hlt (show gO d.boxes[k]=false by
      unfold gO
      rw[gg,Bool.true_and]
      cases e1:x7 d.boxes[k].bR with
      | false=>rfl
      | true=>
        have:=k2 rfl
        rw[e1] at this
        rw[Bool.true_and]
        exact decide_eq_false fun hle=>this ⟨rfl,by omega⟩)
     refine aB ?_
     refine af rfl ?_
     refine aB ?_
     refine ai ?_
     refine⟨_,ak,?_,hp3⟩
     unfold cQ
     simp only[g1,g2,g3,gP,gC,gF,gR,gA,Bool.false_and,Bool.and_false,Bool.true_and]
     rfl
   | true=>
     obtain⟨k3,k4,k5⟩:=k1 rfl
     refine aB ?_
     refine ae rfl ?_
     refine aG w2 ?_
     refine⟨hlt,h3,aO,rfl,hp3,fun i hi h2=>?_⟩
     rcases (by omega:i<k∨i=k) with h4|rfl
     ·exact hall i hi h4
     ·unfold gO
      rw[gg,k3,decide_eq_true om]
      rfl
·have e3:=aT hlt
 obtain rfl:k=d.boxes.length:=by omega
 have gX:=rY hall
 refine aG e3 ?_
 refine ae rfl ?_
 refine aC ?_
 show CW _ _ _ _
 refine aB ?_
 refine ai ?_
 refine⟨_,ak,?_,hp⟩
 unfold cQ
 rw[g1,g2,g3,gP,gC,gF,gR,gX]
 rfl}
theorem Gs (hk:Bk h r d) (hw:tJ d):FW env 67 [r] h fun x h'=>ii (cQ d=true) x∧h'=h:=by{
obtain⟨h0,ib,im,sv,up,uc,uf,ur,ub,rfl,hd,K⟩:=hk
have hd:=hd.mono K.p
obtain⟨p1,c1,p2,c2,p3,c3,p4,c4,p5,c5,rfl,rfl,rfl,rfl,rfl,l1,l2,l3,l4,l5⟩:=bK.form hd
obtain⟨es,hm,hes⟩:=K.m
have hb:=K.b
unfold b7.val at hb
simp only[List.cons_append,List.nil_append] at hb
have hkk:=bm es
have hss:bh h sv (aF d.aa):=K.s.sl (b:=16) (by have:=b8 (ps:=d.aa);have:=cT.le hd.aa;omega)
obtain⟨pq,cq,rfl⟩:=hss.form
have hR:=By hd hw
unfold b7.val at hR
refine fe Tryz.func67 ?_;simp only[push_cast]
refine aG hb ?_
refine zj Tryz.func127 ?_
refine hR.mono ?_
rintro _ h1 ⟨rfl,rfl⟩
cases g:cQ d with
| false=>
  refine aB ?_
  refine af rfl ?_
  refine aB ?_
  refine ai ?_
  exact⟨_,ak,⟨3,_,rfl,⟨fun h=>(by cases h),fun h=>(by cases h)⟩⟩,rfl⟩
| true=>
  refine aB ?_
  refine ae rfl ?_
  refine aB ?_
  refine ai ?_
  exact⟨_,ak,⟨0,_,rfl,⟨fun _=>rfl,fun _=>rfl⟩⟩,rfl⟩}
end
mutual
def yR (Y:List Sym):Item→Nat×Nat→Option (Nat×Nat)
 | .mk k t n l,s=>if k=5∨k=6 then (if 40<n then none else jI Y l s)
   else if k=1 then (match Y[s.1]? with
    | none=>none
    | some y=>if y.kind=1∧y.text=t then some (s.1+1,s.2) else none)
   else if k=2 then (match Y[s.1]? with
    | none=>none
    | some y=>if y.kind=1∨n≠(s.2:Int)+1 then none else some (s.1+1,s.2+1))
   else some s
def jI (Y:List Sym):List Item→Nat×Nat→Option (Nat×Nat)
 | [],s=>some s
 | x :: r,s=>match yR Y x s with
   | some s'=>jI Y r s'
   | none=>none
end
theorem eu {Y:List Sym} (x:Item) (q ho:Nat):yR Y x (q,ho)=if x.kind=5∨x.kind=6 then (if 40<x.n then none else jI Y x.bR (q,ho))
 else if x.kind=1 then (match Y[q]? with
  | none=>none
  | some y=>if y.kind=1∧y.text=x.text then some (q+1,ho) else none)
 else if x.kind=2 then (match Y[q]? with
  | none=>none
  | some y=>if y.kind=1∨x.n≠(ho:Int)+1 then none else some (q+1,ho+1))
 else some (q,ho):=by
 cases x
 unfold yR
 rfl
theorem rJ {Y:List Sym}:∀ {l r:List Item} {s s':Nat×Nat},jI Y l s=some s'→jI Y (l++r) s=jI Y r s'
 | [],r,s,s',h=>by unfold jI at h;cases h;rfl
 | x :: l,r,s,s',h=>by
   unfold jI at h
   rw[List.cons_append]
   conv=>lhs;unfold jI
   cases e:yR Y x s with
   | none=>rw[e] at h;cases h
   | some s2=>
     rw[e] at h
     exact rJ h
theorem BV {Y:List Sym} {l:List Item} {k:Nat} (hk:k<l.length) {s s':Nat×Nat} (h:jI Y (l.take k) s=some s'):jI Y (l.take (k+1)) s=yR Y l[k] s':=by{
rw[List.take_succ_eq_append_getElem hk,rJ h]
unfold jI
cases yR Y l[k] s' with
| none=>rfl
| some s2=>rfl}
theorem AY {Y:List Sym} {l:List Item} {k:Nat} (hk:k<l.length) {s s':Nat×Nat} (h:jI Y (l.take k) s=some s') (h2:yR Y l[k] s'=none):jI Y l s=none:=by{
have:l=l.take k++(l[k] :: l.drop (k+1)):=by simp
rw[this,rJ h]
unfold jI
rw[h2]}
section
variable {Y:List Sym} {id au:Nat} {own:Bool} {iy ih:Nat}
def fb (h:ah) (Y:List Sym) (id au iy ih:Nat) (q ho c:Nat):ah:=(h.set iy (.aj [.slice (some ⟨id,q*8,some au⟩) (Y.length-q) c] 0 true 49)).set ih (.aj [i64 (ho:Int)] 0 true 3)
theorem mE {h:ah} {q ho c q' ho' c':Nat} (hne:iy≠ih):fb (fb h Y id au iy ih q ho c) Y id au iy ih q' ho' c'=fb h Y id au iy ih q' ho' c':=by
 unfold fb
 rw[List.set_comm _ _ (Ne.symm hne),List.set_set,List.set_set]
theorem CG {h:ah} {q ho c q' c':Nat} (hne:iy≠ih):(fb h Y id au iy ih q ho c).set iy (.aj [.slice (some ⟨id,q'*8,some au⟩) (Y.length-q') c'] 0 true 49)=fb h Y id au iy ih q' ho c':=by
 unfold fb
 rw[List.set_comm _ _ (Ne.symm hne),List.set_set]
theorem J4 {h:ah} {q ho c ho':Nat}:(fb h Y id au iy ih q ho c).set ih (.aj [i64 (ho':Int)] 0 true 3)=fb h Y id au iy ih q ho' c:=by
 unfold fb
 rw[List.set_set]
theorem AA {h:ah} {q ho c:Nat} (hne:iy≠ih) (hly:iy<h.length):(fb h Y id au iy ih q ho c)[iy]? = some (.aj [.slice (some ⟨id,q*8,some au⟩) (Y.length-q) c] 0 true 49):=by
 unfold fb
 rw[aD (Ne.symm hne),List.getElem?_set_self hly]
theorem uD {h:ah} {q ho c:Nat} (hlh:ih<h.length):(fb h Y id au iy ih q ho c)[ih]? = some (.aj [i64 (ho:Int)] 0 true 3):=by
 unfold fb
 rw[List.getElem?_set_self (by rw[List.length_set];exact hlh)]
theorem Gw {h0:ah} {v:Value} {l:List Item} (hr:b9 h0 v l) (hid0:h0[id]? = some (.aj (Y.flatMap Sym.cells) au own 56)) (hY:Y.length≤1000) (hne:iy≠ih) (hiy0:h0.length≤iy) (hih0:h0.length≤ih) : ∀ {h:ah} {q ho c:Nat},h0 <+: h→h=fb h Y id au iy ih q ho c→iy<h.length→ih<h.length→q≤Y.length→ho≤q → FW env 137 [v,.pointer (some ⟨iy,0,some 0⟩),.pointer (some ⟨ih,0,some 0⟩)] h fun r h'=>∃ (b:Bool) (q' ho' c':Nat),r = .bool b∧h'=fb h Y id au iy ih q' ho' c'∧(b=true→jI Y l (q,ho)=some (q',ho')∧q'≤Y.length∧ho'≤q')∧(b=false→jI Y l (q,ho)=none):=by{
induction hr with
| @mk v l us hl hs hu ih_=>
  intro h q0 ho0 c0 hp0 hH hly hlh hq0 hho0
  obtain⟨p,c,rfl⟩:=hs.form
  have hle:=hs.1
  have hn:l.length≤140737488355328:=by omega
  refine fe Tryz.func137 ?_;simp only[push_cast]
  refine aB ?_
  refine a9 l.length (fun k (x:Nat×Nat×Nat)=>[(1,.val (.pointer (some ⟨iy,0,some 0⟩))),(2,.val (.pointer (some ⟨ih,0,some 0⟩))),(10,.val (.slice p l.length c)),(11,.val (i64 l.length)),(12,.val (i64 k))]) (fun _ x=>fb h Y id au iy ih x.1 x.2.1 x.2.2) (fun k x=>jI Y (l.take k) (q0,ho0)=some (x.1,x.2.1)∧x.1≤Y.length∧x.2.1≤x.1) (q0,ho0,c0) aO hH ⟨rfl,hq0,hho0⟩ ?_
  rintro k ⟨q,ho,cy⟩ hk ⟨hfit,hq,hho⟩
  simp only at hfit hq hho ⊢
  have hpk:h0 <+: fb h Y id au iy ih q ho cy:=aY (aY hp0 hiy0) hih0
  have hgy:=AA (Y:=Y) (id:=id) (au:=au) (q:=q) (ho:=ho) (c:=cy) hne hly
  have hgh:=uD (Y:=Y) (id:=id) (au:=au) (iy:=iy) (q:=q) (ho:=ho) (c:=cy) hlh
  have hlen1:iy<(fb h Y id au iy ih q ho cy).length:=by unfold fb;rw[List.length_set,List.length_set];exact hly
  have hlen2:ih<(fb h Y id au iy ih q ho cy).length:=by unfold fb;rw[List.length_set,List.length_set];exact hlh
  by_cases hlt:k<l.length
  ·obtain⟨id2,ver2,own2,c',hv,hid2⟩:=bW.at (hs.mono hpk) om
   cases hv
   have e1:=cH hlt
   have e2:=inc hlt hn
   have e3:=aV hlt
   have hi':k<us.length:=hl▸hlt
   have hg:=xj hl hlt
   have hrec:=@ih_ k l[k] us[k] (by simp [hlt]) (by simp [hi'])
   obtain⟨pu,cu,huf⟩:∃ pu cu,us[k] = .slice pu l[k].bR.length cu:=cT.form (b9.iff.1 (hu k l[k] us[k] (by simp [hlt]) (by simp [hi'])))
   rw[huf] at hg hrec
   have hst:=BV hlt hfit
   have hsp:=AY hlt hfit
   generalize hX:l[k]=x at hg hrec hst hsp
   refine aG e3 ?_
   refine af rfl ?_
   by_cases k5:x.kind=5
   ·have d5:=decide_eq_true k5
    refine fN e1 hid2 hg d5 ?_
    refine af rfl ?_
    refine cj ?_
    show CW _ _ _ _
    refine af rfl ?_
    by_cases q40:40<x.n
    ·have d40:=decide_eq_true q40
     refine aG d40 ?_
     refine af rfl ?_
     refine aB ?_
     refine ai ?_
     refine⟨_,ak,false,q,ho,cy,rfl,rfl,fun h=>(by cases h),fun _=>hsp ?_⟩
     rw[eu]
     rw[if_pos (by simp [k5]),if_pos q40]
    ·have d40:=decide_eq_false q40
     refine aG d40 ?_
     refine zj Tryz.func137 ?_
     refine (hrec hpk (mE hne).symm hlen1 hlen2 hq hho).mono ?_
     rintro _ h3 ⟨b',q',ho',c3,rfl,rfl,g1,g2⟩
     rw[mE hne]
     cases b' with
     | false=>
       refine aB ?_
       refine af rfl ?_
       refine aB ?_
       refine ai ?_
       refine⟨_,ak,false,q',ho',c3,rfl,rfl,fun h=>(by cases h),fun _=>hsp ?_⟩
       rw[eu]
       rw[if_pos (by simp [k5]),if_neg q40]
       exact g2 rfl
     | true=>
       obtain⟨g3,g4,g5⟩:=g1 rfl
       refine aB ?_
       refine ae rfl ?_
       refine aG e2 ?_
       refine⟨hlt,(q',ho',c3),aO,rfl,?_,g4,g5⟩
       rw[hst,eu,if_pos (by simp [k5]),if_neg q40]
       exact g3
   have d5:=decide_eq_false k5
   refine fN e1 hid2 hg d5 ?_
   refine ae rfl ?_
   by_cases k6:x.kind=6
   ·have d6:=decide_eq_true k6
    refine aG d6 ?_
    refine af rfl ?_
    by_cases q40:40<x.n
    ·have d40:=decide_eq_true q40
     refine aG d40 ?_
     refine af rfl ?_
     refine aB ?_
     refine ai ?_
     refine⟨_,ak,false,q,ho,cy,rfl,rfl,fun h=>(by cases h),fun _=>hsp ?_⟩
     rw[eu]
     rw[if_pos (by simp [k6]),if_pos q40]
    ·have d40:=decide_eq_false q40
     refine aG d40 ?_
     refine zj Tryz.func137 ?_
     refine (hrec hpk (mE hne).symm hlen1 hlen2 hq hho).mono ?_
     rintro _ h3 ⟨b',q',ho',c3,rfl,rfl,g1,g2⟩
     rw[mE hne]
     cases b' with
     | false=>
       refine aB ?_
       refine af rfl ?_
       refine aB ?_
       refine ai ?_
       refine⟨_,ak,false,q',ho',c3,rfl,rfl,fun h=>(by cases h),fun _=>hsp ?_⟩
       rw[eu]
       rw[if_pos (by simp [k6]),if_neg q40]
       exact g2 rfl
     | true=>
       obtain⟨g3,g4,g5⟩:=g1 rfl
       refine aB ?_
       refine ae rfl ?_
       refine aG e2 ?_
       refine⟨hlt,(q',ho',c3),aO,rfl,?_,g4,g5⟩
       rw[hst,eu,if_pos (by simp [k6]),if_neg q40]
       exact g3
   have d6:=decide_eq_false k6
   have n56:¬ (x.kind=5∨x.kind=6):=by simp [k5,k6]
   refine aG d6 ?_
   refine ae rfl ?_
   by_cases k1:x.kind=1
   ·have d1:=decide_eq_true k1
    refine aG d1 ?_
    refine af rfl ?_
    refine cj ?_
    show CW _ _ _ _
    refine af rfl ?_
    by_cases hqe:q=Y.length
    ·have hm0:Y.length-q=0:=by omega
     rw[hm0] at hgy
     refine aG hgy ?_
     refine af rfl ?_
     refine aB ?_
     refine ai ?_
     refine⟨_,ak,false,q,ho,cy,rfl,rfl,fun h=>(by cases h),fun _=>hsp ?_⟩
     rw[eu]
     rw[if_neg n56,if_pos k1,List.getElem?_eq_none om]
    obtain⟨m,hm⟩:∃ m,Y.length-q=m+1:=⟨Y.length-q-1,by omega⟩
    rw[hm] at hgy
    have hql:q<Y.length:=by omega
    have hdl:decide (((m:Int)+1)=0)=false:=decide_eq_false om
    refine fM hgy hdl ?_
    refine ae rfl ?_
    have hidk:=ag hpk hid0
    have hyg:=gV (l:=Y) (i:=q) hql
    have r0:((0:Int)<(m:Int)+1)=True:=eq_true om
    have r1:((0:Int)≤1∧(1:Int)≤(m:Int)+1∧(m:Int)+1≤(m:Int)+1)=True:=eq_true om
    have r2:((m:Int)+1-1).toNat=m:=by omega
    have hye:Y[q]? = some Y[q]:=List.getElem?_eq_getElem hql
    generalize Y[q]=y at hyg hye
    have hsetY:(fb h Y id au iy ih q ho cy).set iy (.aj [.slice (some ⟨id,q*8+8,some au⟩) m m] 0 true 49)=fb h Y id au iy ih (q+1) ho m:=by
     have:=CG (h:=h) (Y:=Y) (id:=id) (au:=au) (q:=q) (ho:=ho) (c:=cy) (q':=q+1) (c':=m) hne
     rw[show Y.length-(q+1)=m by omega,show (q+1)*8=q*8+8 by omega] at this
     exact this
    refine Ba hgy r0 r1 r2 hidk hyg ?_
    refine ch (v:=.slice (some ⟨id,q*8+8,some au⟩) m m) (vs:=[.slice (some ⟨id,q*8+8,some au⟩) m m]) (cells':=[.slice (some ⟨id,q*8+8,some au⟩) m m]) ak rfl rfl rfl ak hgy ak rfl rfl ?_
    dsimp only
    rw[hsetY]
    refine aG d1 ?_
    refine af rfl ?_
    by_cases y1:y.kind=1
    ·have f1:=decide_eq_true y1
     by_cases y2:y.text=x.text
     ·have f2:=decide_eq_true y2
      refine fM f1 f2 ?_
      refine ae rfl ?_
      refine cj ?_
      show CW _ _ _ _
      refine aC ?_
      show CW _ _ _ _
      refine aG e2 ?_
      refine⟨hlt,(q+1,ho,m),aO,rfl,?_,hql,Nat.le_succ_of_le hho⟩
      rw[hst,eu,if_neg n56,if_pos k1,hye]
      simp only
      rw[if_pos ⟨y1,y2⟩]
     ·have f2:=decide_eq_false y2
      refine fM f1 f2 ?_
      refine af rfl ?_
      refine aB ?_
      refine ai ?_
      refine⟨_,ak,false,q+1,ho,m,rfl,rfl,fun h=>(by cases h),fun _=>hsp ?_⟩
      rw[eu]
      rw[if_neg n56,if_pos k1,hye]
      simp only
      rw[if_neg (fun h=>y2 h.2)]
    ·have f1:=decide_eq_false y1
     refine aG f1 ?_
     refine af rfl ?_
     refine aB ?_
     refine ai ?_
     refine⟨_,ak,false,q+1,ho,m,rfl,rfl,fun h=>(by cases h),fun _=>hsp ?_⟩
     rw[eu]
     rw[if_neg n56,if_pos k1,hye]
     simp only
     rw[if_neg (fun h=>y1 h.1)]
   have d1:=decide_eq_false k1
   refine aG d1 ?_
   refine ae rfl ?_
   by_cases k2:x.kind=2
   ·have d2:=decide_eq_true k2
    refine aG d2 ?_
    refine af rfl ?_
    by_cases hqe:q=Y.length
    ·have hm0:Y.length-q=0:=by omega
     rw[hm0] at hgy
     refine aG hgy ?_
     refine af rfl ?_
     refine aB ?_
     refine ai ?_
     refine⟨_,ak,false,q,ho,cy,rfl,rfl,fun h=>(by cases h),fun _=>hsp ?_⟩
     rw[eu]
     rw[if_neg n56,if_neg k1,if_pos k2,List.getElem?_eq_none om]
    obtain⟨m,hm⟩:∃ m,Y.length-q=m+1:=⟨Y.length-q-1,by omega⟩
    rw[hm] at hgy
    have hql:q<Y.length:=by omega
    have hdl:decide (((m:Int)+1)=0)=false:=decide_eq_false om
    refine fM hgy hdl ?_
    refine ae rfl ?_
    have hidk:=ag hpk hid0
    have hyg:=gV (l:=Y) (i:=q) hql
    have r0:((0:Int)<(m:Int)+1)=True:=eq_true om
    have r1:((0:Int)≤1∧(1:Int)≤(m:Int)+1∧(m:Int)+1≤(m:Int)+1)=True:=eq_true om
    have r2:((m:Int)+1-1).toNat=m:=by omega
    have hye:Y[q]? = some Y[q]:=List.getElem?_eq_getElem hql
    generalize Y[q]=y at hyg hye
    have hsetY:(fb h Y id au iy ih q ho cy).set iy (.aj [.slice (some ⟨id,q*8+8,some au⟩) m m] 0 true 49)=fb h Y id au iy ih (q+1) ho m:=by
     have:=CG (h:=h) (Y:=Y) (id:=id) (au:=au) (q:=q) (ho:=ho) (c:=cy) (q':=q+1) (c':=m) hne
     rw[show Y.length-(q+1)=m by omega,show (q+1)*8=q*8+8 by omega] at this
     exact this
    refine Ba hgy r0 r1 r2 hidk hyg ?_
    refine ch (v:=.slice (some ⟨id,q*8+8,some au⟩) m m) (vs:=[.slice (some ⟨id,q*8+8,some au⟩) m m]) (cells':=[.slice (some ⟨id,q*8+8,some au⟩) m m]) ak rfl rfl rfl ak hgy ak rfl rfl ?_
    dsimp only
    rw[hsetY]
    refine aG d1 ?_
    refine ae rfl ?_
    have hgh1:=uD (h:=h) (Y:=Y) (id:=id) (au:=au) (iy:=iy) (q:=q+1) (ho:=ho) (c:=m) hlh
    have w1:IntKind.i64.wrap ((ho:Int)+1)=(ho:Int)+1:=ay om om
    have hsetH:(fb h Y id au iy ih (q+1) ho m).set ih (.aj [i64 ((ho:Int)+1)] 0 true 3)=fb h Y id au iy ih (q+1) (ho+1) m:=J4
    have hgh2:=uD (h:=h) (Y:=Y) (id:=id) (au:=au) (iy:=iy) (q:=q+1) (ho:=ho+1) (c:=m) hlh
    refine fM hgh1 w1 ?_
    refine ch (v:=i64 ((ho:Int)+1)) (vs:=[i64 ((ho:Int)+1)]) (cells':=[i64 ((ho:Int)+1)]) ak rfl rfl rfl ak hgh1 ak rfl rfl ?_
    dsimp only
    rw[hsetH]
    refine aB ?_
    refine aL 10 mixed kr ?_
    by_cases y1:y.kind=1
    ·have f1:=decide_eq_true y1
     refine aG f1 ?_
     refine af rfl ?_
     refine aB ?_
     refine ai ?_
     refine⟨_,ak,false,q+1,ho+1,m,rfl,rfl,fun h=>(by cases h),fun _=>hsp ?_⟩
     rw[eu]
     rw[if_neg n56,if_neg k1,if_pos k2,hye]
     simp only
     rw[if_pos (.inl y1)]
    ·have f1:=decide_eq_false y1
     by_cases y2:x.n=(ho:Int)+1
     ·have f2:=decide_eq_true y2
      refine ir f1 f2 hgh2 ?_
      refine ae rfl ?_
      refine aG e2 ?_
      refine⟨hlt,(q+1,ho+1,m),aO,rfl,?_,hql,Nat.succ_le_succ hho⟩
      rw[hst,eu,if_neg n56,if_neg k1,if_pos k2,hye]
      simp only
      rw[if_neg (by simp [y1,y2])]
     ·have f2:=decide_eq_false y2
      refine ir f1 f2 hgh2 ?_
      refine af rfl ?_
      refine aB ?_
      refine ai ?_
      refine⟨_,ak,false,q+1,ho+1,m,rfl,rfl,fun h=>(by cases h),fun _=>hsp ?_⟩
      rw[eu]
      rw[if_neg n56,if_neg k1,if_pos k2,hye]
      simp only
      rw[if_pos (.inr y2)]
   have d2:=decide_eq_false k2
   refine aG d2 ?_
   refine ae rfl ?_
   refine aG e2 ?_
   refine⟨hlt,(q,ho,cy),aO,rfl,?_,hq,hho⟩
   rw[hst,eu,if_neg n56,if_neg k1,if_neg k2]
  ·have e3:=aT hlt
   obtain rfl:k=l.length:=by omega
   rw[List.take_length] at hfit
   refine aG e3 ?_
   refine ae rfl ?_
   refine aC ?_
   show CW _ _ _ _
   refine aB ?_
   refine ai ?_
   exact⟨_,ak,true,q,ho,cy,rfl,rfl,fun _=>⟨hfit,hq,hho⟩,fun h=>(by cases h)⟩}
end
section
variable {h:ah} {r:Value} {d:b7}
def yY (d:b7) (x:I0):Prop:=∃ (k:Nat) (hk:k<d.aa.length),iX d.aa x.cons k∧∃ ho,jI d.aa[k].al x.bR (0,0)=some (d.aa[k].al.length,ho)
def jW (d:b7):Prop:=(∀ x∈d.boxes,yY d x)∧(d.boxes.map (·.cons)).Nodup
structure Q9 (d:b7) (es:List (ByteArray×Int)) (k:Nat):Prop where
 g:∀ x,dx es x=if w6 ((d.boxes.take k).map (·.cons)) x=true then 1 else 0
 o:∀ (i:Nat) (hi:i<d.boxes.length),i<k→yY d d.boxes[i]
 n:((d.boxes.take k).map (·.cons)).Nodup
theorem Q9.add {es:List (ByteArray×Int)} {k:Nat} (B:Q9 d es k) (hk:k<d.boxes.length) (h0:dx es d.boxes[k].cons=0) (ht:yY d d.boxes[k]):Q9 d (cW es d.boxes[k].cons 1) (k+1):=by{
have hn:d.boxes[k].cons∉(d.boxes.take k).map (·.cons):=fun h=>by rw[B.g,if_pos (cE.2 h)] at h0;cases h0
refine⟨fun y=>?_,fun i hi h2=>?_,?_⟩
·rw[eI,B.g,eK hk]
 by_cases e:y=d.boxes[k].cons
 ·rw[if_pos e,if_pos (cE.2 (by rw[e];simp))]
 ·rw[if_neg e]
  by_cases q:y∈(d.boxes.take k).map (·.cons)
  ·rw[if_pos (cE.2 q),if_pos (cE.2 (List.mem_append_left _ q))]
  ·rw[if_neg (fun k=>q (cE.1 k)),if_neg (fun k=>?_)]
   rcases List.mem_append.1 (cE.1 k) with k|k
   ·exact q k
   ·exact e (List.mem_singleton.1 k)
·rcases (by omega:i<k∨i=k) with h4|rfl
 ·exact B.o i hi h4
 ·exact ht
·rw[eK hk,List.nodup_append]
 exact⟨B.n,by simp,fun a ha b hb e=>hn (by rw[← List.mem_singleton.1 hb,← e];exact ha)⟩}
theorem iX.lt {ps:List Prod} {n:ByteArray} {i:Int} (h:iX ps n i) (h0:0≤i):∃ (k:Nat) (hk:k<ps.length),i=(k:Int):=by{
rcases h with ⟨_,rfl⟩ | ⟨_,⟨k,hk,_,_,rfl⟩ | ⟨_,rfl⟩⟩
·omega
·exact⟨k,hk,rfl⟩
·omega}
theorem LC (hk:Bk h r d) (hr:cQ d=true):FW env 81 [r] h fun x h'=>ii (jW d) x∧h'=h:=by{
refine lq ?_
have hk0:=hk
obtain⟨h0,ib,im,sv,up,uc,uf,ur,ub,rfl,hd,K⟩:=hk
have hd:=hd.mono K.p
obtain⟨p1,c1,p2,c2,p3,c3,p4,c4,p5,c5,rfl,rfl,rfl,rfl,rfl,l1,l2,l3,l4,l5⟩:=bK.form hd
obtain⟨es,hm,hes⟩:=K.m
have hb:=K.b
unfold b7.val at hb
simp only[List.cons_append,List.nil_append] at hb
have hkk:=bm es
have hss:bh h sv (aF d.aa):=K.s.sl (b:=16) (by have:=b8 (ps:=d.aa);have:=cT.le hd.aa;omega)
obtain⟨pq,cq,rfl⟩:=hss.form
refine fe Tryz.func81 ?_;simp only[push_cast]
refine zu ?_
iterate 2 (refine zx pR ?_)
refine zu ?_
refine j5 (kt:=9) (et:=3) ak rfl kr ?_
have hp0:h <+: h++[av.map []]:=aI
have hm0:(h++[av.map []])[h.length]? = some (.map (fz [])):=aJ
have hb1:=ag hp0 hb
have him0:h.length≤h.length:=Nat.le_refl _
generalize (h++[av.map []])=h2 at hp0 hm0 hb1 ⊢
generalize him:h.length=im at hm0 him0 ⊢
refine aG hb1 ?_
refine a9 d.boxes.length (fun k (x:ah×List (ByteArray×Int))=>[(0,.val (.pointer (some ⟨ib,0,some 0⟩))),(4,.val (.map (some im))),(15,.val (.slice p5 d.boxes.length c5)),(16,.val (i64 d.boxes.length)),(17,.val (i64 k))]) (fun _ x=>x.1)
 (fun k x=>h <+: x.1∧x.1[im]? = some (.map (fz x.2))∧Q9 d x.2 k) (h2,[]) aO rfl ⟨hp0,hm0,⟨fun x=>rfl,fun i _ hi=>absurd hi om,.nil⟩⟩ ?_
rintro k ⟨hk4,es⟩ hkn ⟨hp,hm,hB⟩
simp only at hp hm hB ⊢
by_cases hlt:k<d.boxes.length
·obtain⟨id,au,own,c',cells,u,hv,hid0,hrd,hu⟩:=cT.at (k:=2) (fun _ _=>rfl) hd.boxes hlt
 cases hv
 have hid:=ag hp hid0
 have hu0:=hu
 obtain⟨ps,cs,rfl⟩:=cT.form (b9.iff.1 hu)
 have w1:=cH hlt
 have w2:=inc hlt l5
 have q3:=aV hlt
 have hb4:=ag hp hb
 have hkk:=bm es
 have hmem:=List.getElem_mem hlt
 refine aG q3 ?_
 refine af rfl ?_
 refine ir w1 hid hrd ?_
 refine aL 6 mixed kr ?_
 refine aG hb4 ?_
 refine zj Tryz.func24 ?_
 refine (qh (hd.mono hp)).mono ?_
 rintro _ h5 ⟨⟨ci,hci,rfl⟩,e5⟩
 obtain rfl:=e5.symm
 have hgx:=hB.g d.boxes[k].cons
 have hdup:d.boxes[k].cons∈(d.boxes.take k).map (·.cons)→¬ jW d:=fun hin hbo=>by
  have h1:=hbo.2
  rw[← List.take_append_drop (k+1) d.boxes,List.map_append,eK hlt] at h1
  have h2:=(List.nodup_append.1 h1).1
  exact (List.nodup_append.1 h2).2.2 _ hin _ (List.mem_singleton.2 rfl) rfl
 have hneg:ci<0→¬ jW d:=fun hc hbo=>by
  obtain⟨kk,_,h2,_⟩:=hbo.1 _ hmem
  have:=hci.zB h2
  omega
 by_cases hin:d.boxes[k].cons∈(d.boxes.take k).map (·.cons)
 ·rw[if_pos (cE.2 hin)] at hgx
  have hg:=(eT es d.boxes[k].cons).resolve_left (fun h=>by rw[hgx] at h;exact absurd h.2 (by decide))
  rw[hgx] at hg
  have w9:IntKind.i64.wrap (1+1)=2:=by decide
  refine fN hm hg hkk w9 ?_
  refine fq (kt:=9) (et:=3) (kd:=eB) ak rfl rfl kr rfl ak hm ak ak rfl hkk ?_
  dsimp only
  rw[dJ]
  have hp6:h <+: hk4.set im (.map (fz (cW es d.boxes[k].cons 2))):=aY hp om
  have hm6:(hk4.set im (.map (fz (cW es d.boxes[k].cons 2))))[im]? = some (.map (fz (cW es d.boxes[k].cons 2))):=aw hm
  have hg6:gj (fz (cW es d.boxes[k].cons 2)) (.string d.boxes[k].cons)=some (i64 2):=by rw[mN,lh,if_pos rfl];rfl
  have hkk6:=bm (cW es d.boxes[k].cons 2)
  generalize (cW es d.boxes[k].cons 2)=es6 at hp6 hm6 hg6 hkk6 ⊢
  generalize (hk4.set im (av.map (fz es6)))=h6 at hp6 hm6 ⊢
  by_cases qc:ci<0
  ·have dc:=decide_eq_true qc
   refine aG dc ?_
   refine af rfl ?_
   refine aB ?_
   refine aL 3 mixed kr ?_
   refine aB ?_
   refine ai ?_
   refine⟨_,ak,⟨52,_,rfl,⟨fun h=>(by cases h),fun h=>absurd h (hneg qc)⟩⟩,hp6⟩
  ·have dc:=decide_eq_false qc
   refine fN dc hm6 hg6 hkk6 ?_
   refine af rfl ?_
   refine aB ?_
   refine aL 3 mixed kr ?_
   refine aB ?_
   refine ai ?_
   refine⟨_,ak,⟨52,_,rfl,⟨fun h=>(by cases h),fun h=>absurd h (hdup hin)⟩⟩,hp6⟩
 ·rw[if_neg (fun k=>hin (cE.1 k))] at hgx
  have hB':=hB.add hlt hgx
  have w9:IntKind.i64.wrap (0+1)=1:=by decide
  iterate 1 (refine zx pR ?_)
  apply zn
  show CW _ _ _ _
  apply zs
  refine CW.mono (Q:=fun e s'=>e = .normal∧s'.h=hk4.set im (.map (fz (cW es d.boxes[k].cons 1)))∧bB [(0,.val (.pointer (some ⟨ib,0,some 0⟩))),(4,.val (.map (some im))),(6,.box [.string d.boxes[k].cons,.slice ps d.boxes[k].bR.length cs]),(7,.val (i64 ci)),(15,.val (.slice (some ⟨id,0,some au⟩) d.boxes.length c5)),(16,.val (i64 d.boxes.length)),(17,.val (i64 k))] s'.fr) ?_ ?_
  ·rcases eT es d.boxes[k].cons with ⟨hg,_⟩ | hg
   ·refine fN hm hg hkk w9 ?_
    refine fq (kt:=9) (et:=3) (kd:=eB) ak rfl rfl kr rfl ak hm ak ak rfl hkk ?_
    dsimp only
    rw[dJ]
    refine aB ?_
    exact⟨rfl,rfl,aO⟩
   ·rw[hgx] at hg
    refine fN hm hg hkk w9 ?_
    refine fq (kt:=9) (et:=3) (kd:=eB) ak rfl rfl kr rfl ak hm ak ak rfl hkk ?_
    dsimp only
    rw[dJ]
    refine aB ?_
    exact⟨rfl,rfl,aO⟩
  rintro e s' ⟨rfl,hh,hf⟩
  show CW _ _ _ _
  refine aA _ hf ?_
  rw[hh]
  clear hf hh s'
  have hp6:h <+: hk4.set im (.map (fz (cW es d.boxes[k].cons 1))):=aY hp om
  have hm6:(hk4.set im (.map (fz (cW es d.boxes[k].cons 1))))[im]? = some (.map (fz (cW es d.boxes[k].cons 1))):=aw hm
  have hg6:gj (fz (cW es d.boxes[k].cons 1)) (.string d.boxes[k].cons)=some (i64 1):=by rw[mN,lh,if_pos rfl];rfl
  have hkk6:=bm (cW es d.boxes[k].cons 1)
  generalize (cW es d.boxes[k].cons 1)=es6 at hp6 hm6 hg6 hkk6 hB' ⊢
  generalize (hk4.set im (av.map (fz es6)))=h6 at hp6 hm6 ⊢
  by_cases qc:ci<0
  ·have dc:=decide_eq_true qc
   refine aG dc ?_
   refine af rfl ?_
   refine aB ?_
   refine aL 3 mixed kr ?_
   refine aB ?_
   refine ai ?_
   refine⟨_,ak,⟨52,_,rfl,⟨fun h=>(by cases h),fun h=>absurd h (hneg qc)⟩⟩,hp6⟩
  have dc:=decide_eq_false qc
  obtain⟨kk,hkl,rfl⟩:=hci.lt om
  obtain⟨idp,verp,ownp,cp',cellsp,up,hvp,hidp0,hrdp,hup⟩:=cT.at (k:=5) (fun _ _=>rfl) hd.aa hkl
  cases hvp
  have hidp:=ag hp6 hidp0
  have hup:fV h up d.aa[kk].al:=hup
  have hrp:bV d.aa[kk]=true:=by
   unfold cQ at hr
   simp only[Bool.and_eq_true] at hr
   exact List.all_eq_true.1 hr.2.1 _ (List.getElem_mem hkl)
  have hsl:d.aa[kk].al.length≠0∧d.aa[kk].al.length≤12:=by
   unfold bV at hrp
   simp only[Bool.and_eq_true,decide_eq_true_eq] at hrp
   exact hrp.1.2.2
  obtain⟨idy,very,owny,cy,hvy,hidy⟩:=bW.at hup om
  subst hvy
  have hg4:=g7 (j:=4) hrdp om
  simp only[List.getElem?_cons_succ,List.getElem?_cons_zero] at hg4
  have hb6:=ag hp6 hb
  have wk:=cH hkl
  generalize hPk:d.aa[kk]=P at hrdp hg4 hup hidy hsl
  refine fN dc hm6 hg6 hkk6 ?_
  refine ae rfl ?_
  refine zu ?_
  iterate 9 (refine zx (TF hb6 wk hidp hg4) ?_)
  refine dw (t:=49) (cs:=[bD]) ak ak ?_
  dsimp only[St.aX,St.put]
  refine ch (v:=.slice (some ⟨idy,0,some very⟩) P.al.length cy) (vs:=[.slice (some ⟨idy,0,some very⟩) P.al.length cy]) (cells':=[.slice (some ⟨idy,0,some very⟩) P.al.length cy]) ak rfl rfl rfl ak aJ ak rfl rfl ?_
  dsimp only
  have hset1:(h6++[av.aj [bD] 0 true 49]).set h6.length (.aj [.slice (some ⟨idy,0,some very⟩) P.al.length cy] 0 true 49)=h6++[.aj [.slice (some ⟨idy,0,some very⟩) P.al.length cy] 0 true 49]:=by simp
  rw[hset1]
  obtain⟨h7,hh7⟩:∃ h7,h7=h6++[av.aj [.slice (some ⟨idy,0,some very⟩) P.al.length cy] 0 true 49]:=⟨_,rfl⟩
  have hp7:h6 <+: h7:=hh7▸aI
  have hy7:h7[h6.length]? = some (.aj [.slice (some ⟨idy,0,some very⟩) P.al.length cy] 0 true 49):=hh7▸aJ
  have hl7:h7.length=h6.length+1:=by rw[hh7];simp
  rw[← hh7]
  refine zu ?_
  refine dw (t:=3) (cs:=[i64 0]) ak ak ?_
  dsimp only[St.aX,St.put]
  refine ch (v:=i64 0) (vs:=[i64 0]) (cells':=[i64 0]) ak rfl rfl rfl ak aJ ak rfl rfl ?_
  dsimp only
  have hset2:(h7++[av.aj [i64 0] 0 true 3]).set h7.length (.aj [i64 0] 0 true 3)=h7++[.aj [i64 0] 0 true 3]:=by simp
  rw[hset2]
  obtain⟨h8,hh8⟩:∃ h8,h8=h7++[av.aj [i64 0] 0 true 3]:=⟨_,rfl⟩
  have hp8:h7 <+: h8:=hh8▸aI
  have hh9:h8[h7.length]? = some (.aj [i64 0] 0 true 3):=hh8▸aJ
  have hl8:h8.length=h7.length+1:=by rw[hh8];simp
  rw[← hh8]
  have hy8:=ag hp8 hy7
  have hm8:=ag (hp7.trans hp8) hm6
  have hpp:=hp6.trans (hp7.trans hp8)
  have hlen6:=hp6.length_le
  have him6:=cX hm6
  clear hh7 hh8 hset1 hset2
  have hfH:h8=fb h8 P.al idy very h6.length h7.length 0 0 cy:=by
   unfold fb
   rw[Nat.zero_mul,Nat.sub_zero,lC hy8,show (((0:Nat):Int))=0 from rfl,lC hh9]
  have hNo:(∀ ho,jI P.al d.boxes[k].bR (0,0)≠some (P.al.length,ho))→¬ jW d:=fun hn hbo=>by
   obtain⟨k2,hk2,h3,ho,h4⟩:=hbo.1 _ hmem
   have:=h3.zB hci
   obtain rfl:k2=kk:=by omega
   rw[hPk] at h4
   exact hn ho h4
  refine aB ?_
  refine zj Tryz.func137 ?_
  refine (Gw hu0 hidy om om om om hpp hfH om om (Nat.zero_le _) (Nat.le_refl _)).mono ?_
  rintro _ h9 ⟨b',q',ho',c3,rfl,rfl,g1,g2⟩
  have hgy9:=AA (h:=h8) (Y:=P.al) (id:=idy) (au:=very) (iy:=h6.length) (ih:=h7.length) (q:=q') (ho:=ho') (c:=c3) om om
  have hp9:h <+: fb h8 P.al idy very h6.length h7.length q' ho' c3:=aY (aY hpp om) om
  have hm9:(fb h8 P.al idy very h6.length h7.length q' ho' c3)[im]? = some (.map (fz es6)):=by
   unfold fb
   rw[aD om,aD om]
   exact hm8
  generalize fb h8 P.al idy very h6.length h7.length q' ho' c3=h9 at hgy9 hp9 hm9 ⊢
  cases b' with
  | false=>
    have hN2:¬ jW d:=hNo fun ho=>by
     rw[g2 rfl]
     simp
    refine aB ?_
    refine af rfl ?_
    refine aB ?_
    refine aL 3 mixed kr ?_
    refine aB ?_
    refine ai ?_
    refine⟨_,ak,⟨52,_,rfl,⟨fun h=>(by cases h),fun h=>absurd h hN2⟩⟩,hp9⟩
  | true=>
    obtain⟨g3,g4,g5⟩:=g1 rfl
    by_cases qe:q'=P.al.length
    ·have hm0:P.al.length-q'=0:=by omega
     rw[hm0] at hgy9
     refine aG hgy9 ?_
     refine ae rfl ?_
     refine aG w2 ?_
     exact⟨hlt,(h9,es6),aO,rfl,hp9,hm9,hB' ⟨kk,hkl,hci,ho',by rw[hPk,← qe];exact qe ▸ g3⟩⟩
    ·obtain⟨m,hm⟩:∃ m,P.al.length-q'=m+1:=⟨P.al.length-q'-1,by omega⟩
     rw[hm] at hgy9
     have dm:decide ((0:Int)<(m:Int)+1)=true:=decide_eq_true om
     refine fM hgy9 dm ?_
     refine af rfl ?_
     have hN2:¬ jW d:=hNo fun ho he=>by
      rw[g3] at he
      cases he
      exact qe rfl
     refine aB ?_
     refine aL 3 mixed kr ?_
     refine aB ?_
     refine ai ?_
     refine⟨_,ak,⟨52,_,rfl,⟨fun h=>(by cases h),fun h=>absurd h hN2⟩⟩,hp9⟩
·have e3:=aT hlt
 obtain rfl:k=d.boxes.length:=by omega
 refine aG e3 ?_
 refine ae rfl ?_
 refine aC ?_
 show CW _ _ _ _
 refine aB ?_
 refine ai ?_
 refine⟨_,ak,⟨0,_,rfl,fun _=>⟨fun x hx=>?_,?_⟩,fun _=>rfl⟩,hp⟩
 ·obtain⟨i,hi,rfl⟩:=List.getElem_of_mem hx
  exact hB.o i hi hi
 ·have:=hB.n
  rw[List.take_length] at this
  exact this}
end
section
variable {h:ah} {r:Value} {d:b7} {up uc uf ur ub:Value}
theorem pV {g:FuncId} {er:Int}:FW env 71 [i64 er,.func (.func g) #[] #[]] h fun x h'=>∃ i1 i2,x = .func (.func 129) #[] #[.pointer (some ⟨i1,0,some 0⟩),.pointer (some ⟨i2,0,some 0⟩)]∧h <+: h'∧h'[i1]? = some (.aj [.func (.func g) #[] #[]] 0 true 142)∧h'[i2]? = some (.aj [i64 er] 0 true 44):=by{
refine fe Tryz.func71 ?_;simp only[push_cast]
refine zu ?_
refine dw (t:=44) (cs:=[i64 er]) ak ak ?_
dsimp only[St.aX,St.put]
have hp1:h <+: h++[av.aj [i64 er] 0 true 44]:=aI
have hx2:(h++[av.aj [i64 er] 0 true 44])[h.length]? = some (.aj [i64 er] 0 true 44):=aJ
generalize (h++[av.aj [i64 er] 0 true 44])=h1 at hp1 hx2 ⊢
generalize h.length=i2 at hx2 ⊢
refine dw (t:=142) (cs:=[.func (.func g) #[] #[]]) ak ak ?_
dsimp only[St.aX,St.put]
have hp2:h1 <+: h1++[av.aj [.func (.func g) #[] #[]] 0 true 142]:=aI
have hx1:(h1++[av.aj [.func (.func g) #[] #[]] 0 true 142])[h1.length]? = some (.aj [.func (.func g) #[] #[]] 0 true 142):=aJ
generalize (h1++[av.aj [.func (.func g) #[] #[]] 0 true 142])=h2 at hp2 hx1 ⊢
generalize h1.length=i1 at hx1 ⊢
refine aB ?_
refine ai ?_
exact⟨_,ak,i1,i2,rfl,hp1.trans hp2,hx1,ag hp2 hx2⟩}
def AE (d:b7):Nat→Prop
 | 0=>cQ d=true
 | 1=>∀ s∈aF d.aa,b6 d.aa s≠3
 | 2=>b6 d.aa d.start=2∧(d.layout.size=0∨b6 d.aa d.layout=1)
 | 3=>∀ s∈eM d,b6 d.aa s≠0
 | 4=>∀ p∈d.aa,p.al.any (iw d p.lex)=false
 | 5=>Dj d.aa
 | 6=>∀ p∈d.aa,qO p=false
 | 7=>∀ p∈d.aa,tY d p=false
 | 8=>∀ p∈d.aa,(p.al.any (fun s=>decide (s.kind=1)&&decide (s.text=⟨#[]⟩))||p.al.all dW)=false
 | 9=>∀ s∈aF d.aa,¬ sr d.aa (fun p=>gu p.al) s s
 | 10=>sd d
 | 11=>uY d
 | 12=>∀ f∈d.follows,jc f.set=false
 | _=>jW d
def ka (d:b7):Prop:=∀ k,k<14→AE d k
def NZ (h:ah) (r:Value) (v:Value) (P:Prop):Prop:=∃ g fn cap,v = .func (.func g) #[] (List.toArray cap)∧env.P.funcs[g]? = some fn∧(fn.name == "runtime.NumGoroutine")=false∧fn.body.isNone=false∧FW env g (r :: cap) h (fun x h'=>ii P x∧h'=h)
theorem qA (hr:cQ d=true) {p:Prod} (hp:p∈d.aa):p.al.length≠0∧p.al.length≤12:=by{
unfold cQ at hr
simp only[Bool.and_eq_true] at hr
have hrp:=List.all_eq_true.1 hr.2.1 _ hp
unfold bV at hrp
simp only[Bool.and_eq_true,decide_eq_true_eq] at hrp
exact hrp.1.2.2}
abbrev Fw (g:FuncId):Value:=.func (.func g) #[] #[]
abbrev zW (i1 i2:Nat):Value:=.func (.func 129) #[] #[.pointer (some ⟨i1,0,some 0⟩),.pointer (some ⟨i2,0,some 0⟩)]
def kZ (a1 a2 b1 b2 c1 c2 d1 d2:Nat):List Value:=[Fw 67,Fw 68,Fw 69,Fw 70,zW a1 a2,Fw 73,zW b1 b2,zW c1 c2,zW d1 d2,Fw 77,Fw 78,Fw 79,Fw 80,Fw 81]
def lc (h:ah) (i1 i2:Nat) (g:FuncId) (er:Int):Prop:=h[i1]? = some (.aj [.func (.func g) #[] #[]] 0 true 142)∧h[i2]? = some (.aj [i64 er] 0 true 44)
theorem lc.mono {h h':ah} {i1 i2:Nat} {g:FuncId} {er:Int} (k:lc h i1 i2 g er) (hp:h <+: h'):lc h' i1 i2 g er:=⟨ag hp k.1,ag hp k.2⟩
theorem ET (hk:Bk h r d) (hw:tJ d) (hpn:cQ d=true→cZ d≤160) {a1 a2 b1 b2 c1 c2 d1 d2:Nat} (ha:lc h a1 a2 72 44) (hb:lc h b1 b2 74 46) (hc:lc h c1 c2 75 2) (hd:lc h d1 d2 76 47) : ∀ (k:Nat) (v:Value),(kZ a1 a2 b1 b2 c1 c2 d1 d2)[k]? = some v→(∀ j,j<k→AE d j)→NZ h r v (AE d k):=by{
intro k v hv hP
match k,hv,hP with
| 0,hv,hP=>cases hv;exact⟨67,Tryz.f67,[],rfl,Tryz.func67,by kernel_rfl,by kernel_rfl,Gs hk hw⟩
| 1,hv,hP=>cases hv;exact⟨68,Tryz.f68,[],rfl,Tryz.func68,by kernel_rfl,by kernel_rfl,DC hk⟩
| 2,hv,hP=>cases hv;exact⟨69,Tryz.f69,[],rfl,Tryz.func69,by kernel_rfl,by kernel_rfl,HT hk⟩
| 3,hv,hP=>cases hv;exact⟨70,Tryz.f70,[],rfl,Tryz.func70,by kernel_rfl,by kernel_rfl,lq (uE hk (hpn (hP 0 (by decide))))⟩
| 4,hv,hP=>cases hv;exact⟨129,Tryz.f129,[.pointer (some ⟨_,0,some 0⟩),.pointer (some ⟨_,0,some 0⟩)],rfl,Tryz.func129,by kernel_rfl,by kernel_rfl,nc hk Tryz.func72 kr kr ha.1 ha.2 (by decide) (fun p _ u hy=>Hu hk hy)⟩
| 5,hv,hP=>cases hv;exact⟨73,Tryz.f73,[],rfl,Tryz.func73,by kernel_rfl,by kernel_rfl,EK hk⟩
| 6,hv,hP=>cases hv;exact⟨129,Tryz.f129,[.pointer (some ⟨_,0,some 0⟩),.pointer (some ⟨_,0,some 0⟩)],rfl,Tryz.func129,by kernel_rfl,by kernel_rfl,nc hk Tryz.func74 kr kr hb.1 hb.2 (by decide) (fun p _ u hy=>yS hy)⟩
| 7,hv,hP=>cases hv;exact⟨129,Tryz.f129,[.pointer (some ⟨_,0,some 0⟩),.pointer (some ⟨_,0,some 0⟩)],rfl,Tryz.func129,by kernel_rfl,by kernel_rfl,nc hk Tryz.func75 kr kr hc.1 hc.2 (by decide) (fun p hp u hy=>Gm hk hy (hw.aa p hp) (by have:=(qA (hP 0 (by decide)) hp).2;omega))⟩
| 8,hv,hP=>cases hv;exact⟨129,Tryz.f129,[.pointer (some ⟨_,0,some 0⟩),.pointer (some ⟨_,0,some 0⟩)],rfl,Tryz.func129,by kernel_rfl,by kernel_rfl,nc hk Tryz.func76 kr kr hd.1 hd.2 (by decide) (fun p _ u hy=>FA hy)⟩
| 9,hv,hP=>cases hv;exact⟨77,Tryz.f77,[],rfl,Tryz.func77,by kernel_rfl,by kernel_rfl,D5 hk (hpn (hP 0 (by decide)))⟩
| 10,hv,hP=>cases hv;exact⟨78,Tryz.f78,[],rfl,Tryz.func78,by kernel_rfl,by kernel_rfl,BX hk (hpn (hP 0 (by decide)))⟩
| 11,hv,hP=>cases hv;exact⟨79,Tryz.f79,[],rfl,Tryz.func79,by kernel_rfl,by kernel_rfl,HU hk⟩
| 12,hv,hP=>cases hv;exact⟨80,Tryz.f80,[],rfl,Tryz.func80,by kernel_rfl,by kernel_rfl,Cn hk⟩
| 13,hv,hP=>cases hv;exact⟨81,Tryz.f81,[],rfl,Tryz.func81,by kernel_rfl,by kernel_rfl,LC hk (hP 0 (by decide))⟩
| k+14,hv,hP=>simp [kZ] at hv}
theorem Dn (hd:bK h d up uc uf ur ub) (hw:tJ d) (hpn:cQ d=true→cZ d≤160):FW env 31 [.agg (d.val up uc uf ur ub).toArray] h fun x h'=>ii (ka d) x∧h'=h:=by{
refine lq ?_
have hO:=zD hd
have hd0:=hd
obtain⟨p1,c1,p2,c2,p3,c3,p4,c4,p5,c5,rfl,rfl,rfl,rfl,rfl,l1,l2,l3,l4,l5⟩:=bK.form hd
refine fe Tryz.func31 ?_;simp only[push_cast]
unfold b7.val at hO ⊢
refine aB ?_
refine zj Tryz.func66 ?_
refine hO.mono ?_
rintro _ h1 ⟨ib,im,sv,rfl,hBk⟩
have hp1:=hBk.p
have hk:Bk h1 (.pointer (some ⟨ib,0,some 0⟩)) d:=⟨h,ib,im,sv,_,_,_,_,_,rfl,hd0,hBk⟩
clear hBk
refine aB ?_
refine zj Tryz.func71 ?_
refine (pV (g:=72) (er:=44)).mono ?_
rintro _ h2 ⟨a1,a2,rfl,hp2,ha1,ha2⟩
have ha:lc h2 a1 a2 _ _:=⟨ha1,ha2⟩
refine aB ?_
refine zj Tryz.func71 ?_
refine (pV (g:=74) (er:=46)).mono ?_
rintro _ h3 ⟨b1,b2,rfl,hp3,hb1,hb2⟩
have hb:lc h3 b1 b2 _ _:=⟨hb1,hb2⟩
have ha:=ha.mono hp3
refine aB ?_
refine zj Tryz.func71 ?_
refine (pV (g:=75) (er:=2)).mono ?_
rintro _ h4 ⟨e1,e2,rfl,hp4,hc1,hc2⟩
have hc:lc h4 e1 e2 _ _:=⟨hc1,hc2⟩
have ha:=ha.mono hp4
have hb:=hb.mono hp4
refine aB ?_
refine zj Tryz.func71 ?_
refine (pV (g:=76) (er:=47)).mono ?_
rintro _ h5 ⟨d1,d2,rfl,hp5,hd1,hd2⟩
have hdd:lc h5 d1 d2 _ _:=⟨hd1,hd2⟩
have ha:=ha.mono hp5
have hb:=hb.mono hp5
have hc:=hc.mono hp5
refine cz (t:=140) (cs:=kZ a1 a2 b1 b2 e1 e2 d1 d2) (n:=14) ak kr ?_
dsimp only[St.aX,St.put]
have hp6:h5 <+: h5++[av.aj (kZ a1 a2 b1 b2 e1 e2 d1 d2) 0 true 140]:=aI
have hL:(h5++[av.aj (kZ a1 a2 b1 b2 e1 e2 d1 d2) 0 true 140])[h5.length]? = some (.aj (kZ a1 a2 b1 b2 e1 e2 d1 d2) 0 true 140):=aJ
generalize (h5++[av.aj (kZ a1 a2 b1 b2 e1 e2 d1 d2) 0 true 140])=h6 at hp6 hL ⊢
generalize h5.length=iL at hL ⊢
have hp26:=((hp3.trans hp4).trans hp5).trans hp6
have hk6:=hk.mono (hp2.trans hp26)
have hlo:=ET hk6 hw hpn (ha.mono hp6) (hb.mono hp6) (hc.mono hp6) (hdd.mono hp6)
have hpp:h <+: h6:=hp1.trans (hp2.trans hp26)
generalize hLL:kZ a1 a2 b1 b2 e1 e2 d1 d2=L at hL hlo
have hLn:L.length=14:=by rw[← hLL];rfl
refine aB ?_
obtain⟨n,hn⟩:∃ n:Nat,n=14:=⟨14,rfl⟩
refine df n (fun k=>[(4,.val (.pointer (some ⟨ib,0,some 0⟩))),(17,.val (.slice (some ⟨iL,0,some 0⟩) n n)),(18,.val (i64 n)),(19,.val (i64 k))]) (fun _=>h6) (fun k=>∀ j,j<k→AE d j) (by rw[hn];exact (by simp only[push_cast,Nat.reduceEqDiff,reduceIte,Int.reduceAdd])) rfl (fun j hj=>absurd hj om) ?_
intro k hkn hall
by_cases hlt:k<n
·have hLk:L[k]? = some L[k]:=List.getElem?_eq_getElem om
 obtain⟨g,fn,cap,hv,hf,hnm,hbd,hF⟩:=hlo k _ hLk hall
 rw[hv] at hLk
 have v1:=cH hlt
 have v2:=inc hlt om
 have v3:=aV hlt
 refine aG v3 ?_
 refine af rfl ?_
 refine fN v1 hL hLk Nat.mul_one ?_
 refine zc (f:=g) (cap:=cap) (args:=[.pointer (some ⟨ib,0,some 0⟩)]) (fn:=fn) ak hf hnm hbd ?_
 refine hF.mono ?_
 rintro _ h7 ⟨⟨e,w,rfl,he⟩,e7⟩
 obtain rfl:=e7.symm
 by_cases q:e=0
 ·have dq:=decide_eq_true q
  refine aG dq ?_
  refine ae rfl ?_
  refine aG v2 ?_
  refine⟨hlt,aO,rfl,fun j hj=>?_⟩
  rcases (by omega:j<k∨j=k) with h4|rfl
  ·exact hall j h4
  ·exact he.1 q
 ·have dq:=decide_eq_false q
  refine aG dq ?_
  refine af rfl ?_
  refine aB ?_
  refine ai ?_
  exact⟨_,ak,⟨e,w,rfl,⟨fun h=>absurd h q,fun h=>absurd (he.2 (h k om)) q⟩⟩,hpp⟩
·have v3:=aT hlt
 obtain rfl:k=n:=by omega
 refine aG v3 ?_
 refine ae rfl ?_
 refine aC ?_
 show CW _ _ _ _
 refine aB ?_
 refine ai ?_
 exact⟨_,ak,⟨0,_,rfl,fun _ k hk=>hall k om,fun _=>rfl⟩,hpp⟩}
end
structure bI where
 lex:Bool
 name:ByteArray
 set:aZ
 sep:ByteArray
 deriving DecidableEq
abbrev bI.val (k:bI):Value:=.agg #[.bool k.lex,.string k.name,u64 k.set.a,u64 k.set.b,u64 k.set.c,u64 k.set.d,.string k.sep]
def bI.cells (k:bI):List Value:=[.bool k.lex,.string k.name,u64 k.set.a,u64 k.set.b,u64 k.set.c,u64 k.set.d,.string k.sep]
def ik (s:Sym):Bool:=decide (s.kind=5)||decide (s.kind=6)
def iq (lex:Bool) (s:Sym):bI:=⟨lex,s.name,s.set,s.sep⟩
def addKey (l:List bI) (k:bI):List bI:=if k∈l then l else l++[k]
def eN (lex:Bool) (l:List bI) (s:Sym):List bI:=if ik s=true then addKey l (iq lex s) else l
def gG (lex:Bool) (l:List bI) (ys:List Sym):List bI:=ys.foldl (eN lex) l
def bj (ps:List Prod):List bI:=ps.foldl (fun l p=>gG p.lex l p.al) []
theorem y7 {lex:Bool} {l:List bI} {ys:List Sym} {k:Nat} (hk:k<ys.length):gG lex l (ys.take (k+1))=eN lex (gG lex l (ys.take k)) ys[k]:=by{
unfold gG
rw[List.take_succ_eq_append_getElem hk,List.foldl_append]
rfl}
theorem yH {ps:List Prod} {k:Nat} (hk:k<ps.length):bj (ps.take (k+1))=gG ps[k].lex (bj (ps.take k)) ps[k].al:=by{
unfold bj
rw[List.take_succ_eq_append_getElem hk,List.foldl_append]
rfl}
theorem wJ {lex:Bool} {l:List bI} {s:Sym} {k:bI}:k∈eN lex l s↔k∈l∨(ik s=true∧k=iq lex s):=by{
unfold eN addKey
by_cases h:ik s=true
·rw[if_pos h]
 by_cases q:iq lex s∈l
 ·rw[if_pos q]
  exact⟨.inl,fun h=>h.elim id fun h=>h.2▸q⟩
 ·rw[if_neg q,List.mem_append,List.mem_singleton]
  exact⟨fun h'=>h'.imp id fun e=>⟨h,e⟩,fun h'=>h'.imp id fun e=>e.2⟩
·rw[if_neg h]
 exact⟨.inl,fun h'=>h'.elim id fun e=>absurd e.1 h⟩}
theorem tI {lex:Bool} {k:bI}:∀ {ys:List Sym} {l:List bI},k∈gG lex l ys↔k∈l∨∃ s∈ys,ik s=true∧k=iq lex s
 | [],l=>by simp [gG]
 | s :: ys,l=>by
   have ih:=tI (lex:=lex) (k:=k) (ys:=ys) (l:=eN lex l s)
   unfold gG at ih ⊢
   rw[List.foldl_cons,ih,wJ]
   simp only[List.mem_cons,exists_eq_or_imp]
   exact or_assoc
theorem tw {k:bI}:∀ {ps:List Prod} {l:List bI},k∈ps.foldl (fun l p=>gG p.lex l p.al) l↔k∈l∨∃ p∈ps,∃ s∈p.al,ik s=true∧k=iq p.lex s
 | [],l=>by simp
 | p :: ps,l=>by
   rw[List.foldl_cons,tw (ps:=ps),tI]
   simp only[List.mem_cons,exists_eq_or_imp]
   exact or_assoc
theorem mem_keys {k:bI} {ps:List Prod}:k∈bj ps↔∃ p∈ps,∃ s∈p.al,ik s=true∧k=iq p.lex s:=by{
unfold bj
rw[tw]
simp}
theorem oR:∀ {ps:List Prod} {l:List ByteArray},l.Nodup→(ps.foldl fD l).Nodup
 | [],l,h=>h
 | p :: ps,l,h=>by
   rw[List.foldl_cons]
   refine oR ?_
   unfold fD
   split
   ·exact h
   ·rename_i q
    rw[List.nodup_append]
    exact⟨h,by simp,fun a ha b hb e=>q (cE.2 (by rw[← List.mem_singleton.1 hb,← e];exact ha))⟩
theorem sO {ps:List Prod}:(aF ps).Nodup:=oR List.nodup_nil
theorem og {lex:Bool}:∀ {ys:List Sym} {l:List bI},(gG lex l ys).length≤l.length+ys.length
 | [],l=>by simp [gG]
 | s :: ys,l=>by
   have ih:=og (lex:=lex) (ys:=ys) (l:=eN lex l s)
   have h:(eN lex l s).length≤l.length+1:=by
    unfold eN addKey
    split
    ·split<;>simp
    ·simp
   unfold gG at ih ⊢
   rw[List.foldl_cons,List.length_cons]
   omega
theorem lE:∀ {ps:List Prod} {l:List bI},(ps.foldl (fun l p=>gG p.lex l p.al) l).length≤l.length+dp (fun p=>p.al.length) ps
 | [],l=>by simp
 | p :: ps,l=>by
   have ih:=lE (ps:=ps) (l:=gG p.lex l p.al)
   have h:=og (lex:=p.lex) (ys:=p.al) (l:=l)
   unfold dp at *
   simp only[List.foldl_cons,List.map_cons,List.sum_cons]
   omega
def nS (d:b7):Nat:=(aF d.aa).length
def nK (d:b7):Nat:=(bj d.aa).length
def fZ (d:b7) (s:ByteArray):Nat:=(aF d.aa).idxOf s
def my (d:b7) (k:bI):Nat:=nS d+(bj d.aa).idxOf k
def bP (d:b7):Int:=if cN d.layout=true then -1 else ((nS d+nK d:Nat):Int)
def dU (d:b7):Nat:=nS d+nK d+(if cN d.layout=true then 0 else 1)
def aW (d:b7):Nat:=dU d+1
def fX (b:Nat):aZ:=⟨if b / 64=0 then 2 ^ (b % 64) else 0,if b / 64=1 then 2 ^ (b % 64) else 0,if b / 64=2 then 2 ^ (b % 64) else 0,if b / 64=3 then 2 ^ (b % 64) else 0⟩
def sq:aZ:=⟨0,0,0,0⟩
def dN (n:Int):bd:=⟨n,sq⟩
def fu (t:ByteArray):List bd:=(List.range t.size).map fun i=>⟨-1,fX (bn t i)⟩
def mZ (d:b7) (name:ByteArray) (set:aZ):bd:=if cN name=true then ⟨-1,set⟩ else dN (fZ d name)
def l7 (d:b7) (lex:Bool) (s:Sym):List bd:=if s.kind=1 then fu s.text else if ik s=true then [dN (my d (iq lex s))] else [mZ d s.name s.set]
structure zg where
 mask:Nat
 rhs:List bd
 os:List Int
def lK (d:b7) (lex:Bool) (rhs:List bd):Bool:=!rhs.isEmpty&&(!lex && !cN d.layout)
def jf (d:b7) (lex:Bool) (r:zg) (i:Nat) (s:Sym):zg:=
 ⟨r.mask,r.rhs++(if lK d lex r.rhs=true then [dN (bP d)] else [])++l7 d lex s,r.os++(if lK d lex r.rhs=true then [-1] else [])++List.replicate (l7 d lex s).length (i:Int)⟩
def jw (d:b7) (lex:Bool) (r:zg) (i:Nat) (s:Sym):zg:=
 if dW s=true then (if r.mask % 2=0 then ⟨r.mask / 2,r.rhs,r.os⟩ else jf d lex ⟨r.mask / 2,r.rhs,r.os⟩ i s) else jf d lex r i s
def dE (d:b7) (p:Prod) (mask:Nat):Nat→zg
 | 0=>⟨mask,[],[]⟩
 | k+1=>match p.al[k]? with
   | some s=>jw d p.lex (dE d p mask k) k s
   | none=>dE d p mask k
def fh (d:b7) (p:Prod) (mask:Nat):zg:=dE d p mask p.al.length
def jy (p:Prod):Nat:=2 ^ fU p.al
def iv (d:b7) (i:Nat) (p:Prod) (mask:Nat):dt×gD:=(⟨fZ d p.sort,(fh d p mask).rhs⟩,⟨0,i,mask,(fh d p mask).os⟩)
def ji (d:b7) (i:Nat) (p:Prod):List (dt×gD):=(List.range (jy p)).map fun m=>iv d i p m
def iI (d:b7):Nat→List (dt×gD)
 | 0=>[]
 | k+1=>match d.aa[k]? with
   | some p=>iI d k++ji d k p
   | none=>iI d k
def eS (d:b7) (k:bI):List bd:=if (!k.lex && !cN d.layout)=true then [dN (bP d)] else []
def tb (d:b7) (k:bI):List bd:=[dN (my d k)]++eS d k++(if cN k.sep=true then [] else fu k.sep++eS d k)++[mZ d k.name k.set]
def B6 (d:b7) (k:bI):List (dt×gD):=[(⟨my d k,[mZ d k.name k.set]⟩,⟨1,0,0,[]⟩),(⟨my d k,tb d k⟩,⟨2,0,0,[]⟩)]
def iY (d:b7) (l:List bI):List (dt×gD):=l.flatMap (B6 d)
def nB (d:b7):List (dt×gD):=if cN d.layout=true then [(⟨dU d,[dN (fZ d d.start)]⟩,⟨5,0,0,[]⟩)]
 else [(⟨bP d,[]⟩,⟨3,0,0,[]⟩),(⟨bP d,[dN (bP d),dN (fZ d d.layout)]⟩,⟨4,0,0,[]⟩),(⟨dU d,[dN (bP d),dN (fZ d d.start),dN (bP d)]⟩,⟨5,0,0,[]⟩)]
def wP (d:b7):List (dt×gD):=iI d d.aa.length++iY d (bj d.aa)++nB d
section
variable {h:ah}
theorem AL {v:Value} {n:Nat} {cells:List Value} (hs:bW h v n cells 51 72) (hl:cells.length=n*5):FW env 82 [v] h fun r h'=>h <+: h'∧aK h h' r n cells 51:=by{
have hb:n*72≤140737488355328:=hs.1
have key:(v=bD∧n=0∧cells=[])∨∃ a c,v = .slice (some a) n c:=by
 rcases hs.2 with ⟨rfl|rfl,rfl,rfl⟩ | ⟨id,au,own,c,rfl,hid⟩
 ·exact .inl ⟨rfl,rfl,rfl⟩
 ·exact .inr ⟨_,_,rfl⟩
 ·exact .inr ⟨_,_,rfl⟩
refine fe Tryz.func82 ?_;simp only[push_cast]
rcases key with ⟨rfl,rfl,rfl⟩ | ⟨a,c,rfl⟩
·refine aB ?_
 refine af rfl ?_
 refine aB ?_
 refine ai ?_
 exact⟨_,ak,List.prefix_refl _,aK.nil⟩
·repeat (first|apply zs|apply zr|apply zn|((first|apply zx|apply zy);·simp only[push_cast,env,Nat.reduceEqDiff,reduceIte,Nat.reduceAdd,Nat.reduceMul,Nat.reduceLeDiff,reduceCtorEq,Nat.reduceSub,Int.reduceToNat,Option.isNone_some]<;>first|exact rfl|exact .inl rfl|exact .inr rfl) | apply zq|apply zb|apply zo|apply zk|apply zl)
 refine ae rfl ?_
 refine zu ?_
 refine cz (t:=51) (cs:=[]) (n:=0) ak kr ?_
 dsimp only[St.aX,St.put]
 have hp1:h <+: h++[av.aj [] 0 true 51]:=aI
 have hG:aK h (h++[av.aj [] 0 true 51]) (.slice (some ⟨h.length,0,some 0⟩) 0 0) 0 [] 51:=.inr ⟨h.length,0,Nat.le_refl _,rfl,aJ⟩
 generalize (h++[av.aj [] 0 true 51])=h1 at hp1 hG ⊢
 generalize h.length=i1 at hG ⊢
 refine aB ?_
 refine iH (t:=22) (cs:=cells) (m:=n) kr NU (by decide) rfl hG hp1 rfl (hs.mono hp1) hl (by simp only;omega) om ak rfl ak ak ?_
 intro p' c' h' k1 k2 _
 rw[Nat.zero_add] at k2 ⊢
 rw[List.nil_append] at k2
 refine aB ?_
 refine ai ?_
 refine⟨_,ak,k1,?_⟩
 exact k2}
theorem A6 {v:Value} {n:Nat} {cells:List Value} (hs:bW h v n cells 56 88) (hl:cells.length=n*8):FW env 83 [v] h fun r h'=>h <+: h'∧aK h h' r n cells 56:=by{
have hb:n*88≤140737488355328:=hs.1
have key:(v=bD∧n=0∧cells=[])∨∃ a c,v = .slice (some a) n c:=by
 rcases hs.2 with ⟨rfl|rfl,rfl,rfl⟩ | ⟨id,au,own,c,rfl,hid⟩
 ·exact .inl ⟨rfl,rfl,rfl⟩
 ·exact .inr ⟨_,_,rfl⟩
 ·exact .inr ⟨_,_,rfl⟩
refine fe Tryz.func83 ?_;simp only[push_cast]
rcases key with ⟨rfl,rfl,rfl⟩ | ⟨a,c,rfl⟩
·refine aB ?_
 refine af rfl ?_
 refine aB ?_
 refine ai ?_
 exact⟨_,ak,List.prefix_refl _,aK.nil⟩
·repeat (first|apply zs|apply zr|apply zn|((first|apply zx|apply zy);·simp only[push_cast,env,Nat.reduceEqDiff,reduceIte,Nat.reduceAdd,Nat.reduceMul,Nat.reduceLeDiff,reduceCtorEq,Nat.reduceSub,Int.reduceToNat,Option.isNone_some]<;>first|exact rfl|exact .inl rfl|exact .inr rfl) | apply zq|apply zb|apply zo|apply zk|apply zl)
 refine ae rfl ?_
 refine zu ?_
 refine cz (t:=56) (cs:=[]) (n:=0) ak kr ?_
 dsimp only[St.aX,St.put]
 have hp1:h <+: h++[av.aj [] 0 true 56]:=aI
 have hG:aK h (h++[av.aj [] 0 true 56]) (.slice (some ⟨h.length,0,some 0⟩) 0 0) 0 [] 56:=.inr ⟨h.length,0,Nat.le_refl _,rfl,aJ⟩
 generalize (h++[av.aj [] 0 true 56])=h1 at hp1 hG ⊢
 generalize h.length=i1 at hG ⊢
 refine aB ?_
 refine iH (t:=49) (cs:=cells) (m:=n) kr Cw (by decide) rfl hG hp1 rfl (hs.mono hp1) hl (by simp only;omega) om ak rfl ak ak ?_
 intro p' c' h' k1 k2 _
 rw[Nat.zero_add] at k2 ⊢
 rw[List.nil_append] at k2
 refine aB ?_
 refine ai ?_
 refine⟨_,ak,k1,?_⟩
 exact k2}
theorem Bo {v:Value} {n:Nat} {cells:List Value} (hs:bW h v n cells 82 32) (hl:cells.length=n*2):FW env 84 [v] h fun r h'=>h <+: h'∧aK h h' r n cells 82:=by{
have hb:n*32≤140737488355328:=hs.1
have key:(v=bD∧n=0∧cells=[])∨∃ a c,v = .slice (some a) n c:=by
 rcases hs.2 with ⟨rfl|rfl,rfl,rfl⟩ | ⟨id,au,own,c,rfl,hid⟩
 ·exact .inl ⟨rfl,rfl,rfl⟩
 ·exact .inr ⟨_,_,rfl⟩
 ·exact .inr ⟨_,_,rfl⟩
refine fe Tryz.func84 ?_;simp only[push_cast]
rcases key with ⟨rfl,rfl,rfl⟩ | ⟨a,c,rfl⟩
·refine aB ?_
 refine af rfl ?_
 refine aB ?_
 refine ai ?_
 exact⟨_,ak,List.prefix_refl _,aK.nil⟩
·repeat (first|apply zs|apply zr|apply zn|((first|apply zx|apply zy);·simp only[push_cast,env,Nat.reduceEqDiff,reduceIte,Nat.reduceAdd,Nat.reduceMul,Nat.reduceLeDiff,reduceCtorEq,Nat.reduceSub,Int.reduceToNat,Option.isNone_some]<;>first|exact rfl|exact .inl rfl|exact .inr rfl) | apply zq|apply zb|apply zo|apply zk|apply zl)
 refine ae rfl ?_
 refine zu ?_
 refine cz (t:=82) (cs:=[]) (n:=0) ak kr ?_
 dsimp only[St.aX,St.put]
 have hp1:h <+: h++[av.aj [] 0 true 82]:=aI
 have hG:aK h (h++[av.aj [] 0 true 82]) (.slice (some ⟨h.length,0,some 0⟩) 0 0) 0 [] 82:=.inr ⟨h.length,0,Nat.le_refl _,rfl,aJ⟩
 generalize (h++[av.aj [] 0 true 82])=h1 at hp1 hG ⊢
 generalize h.length=i1 at hG ⊢
 refine aB ?_
 refine iH (t:=80) (cs:=cells) (m:=n) kr P1 (by decide) rfl hG hp1 rfl (hs.mono hp1) hl (by simp only;omega) om ak rfl ak ak ?_
 intro p' c' h' k1 k2 _
 rw[Nat.zero_add] at k2 ⊢
 rw[List.nil_append] at k2
 refine aB ?_
 refine ai ?_
 refine⟨_,ak,k1,?_⟩
 exact k2}
theorem BU {v:Value} {n:Nat} {cells:List Value} (hs:bW h v n cells 9 16) (hl:cells.length=n*1):FW env 85 [v] h fun r h'=>h <+: h'∧aK h h' r n cells 9:=by{
have hb:n*16≤140737488355328:=hs.1
have key:(v=bD∧n=0∧cells=[])∨∃ a c,v = .slice (some a) n c:=by
 rcases hs.2 with ⟨rfl|rfl,rfl,rfl⟩ | ⟨id,au,own,c,rfl,hid⟩
 ·exact .inl ⟨rfl,rfl,rfl⟩
 ·exact .inr ⟨_,_,rfl⟩
 ·exact .inr ⟨_,_,rfl⟩
refine fe Tryz.func85 ?_;simp only[push_cast]
rcases key with ⟨rfl,rfl,rfl⟩ | ⟨a,c,rfl⟩
·refine aB ?_
 refine af rfl ?_
 refine aB ?_
 refine ai ?_
 exact⟨_,ak,List.prefix_refl _,aK.nil⟩
·repeat (first|apply zs|apply zr|apply zn|((first|apply zx|apply zy);·simp only[push_cast,env,Nat.reduceEqDiff,reduceIte,Nat.reduceAdd,Nat.reduceMul,Nat.reduceLeDiff,reduceCtorEq,Nat.reduceSub,Int.reduceToNat,Option.isNone_some]<;>first|exact rfl|exact .inl rfl|exact .inr rfl) | apply zq|apply zb|apply zo|apply zk|apply zl)
 refine ae rfl ?_
 refine zu ?_
 refine cz (t:=9) (cs:=[]) (n:=0) ak kr ?_
 dsimp only[St.aX,St.put]
 have hp1:h <+: h++[av.aj [] 0 true 9]:=aI
 have hG:aK h (h++[av.aj [] 0 true 9]) (.slice (some ⟨h.length,0,some 0⟩) 0 0) 0 [] 9:=.inr ⟨h.length,0,Nat.le_refl _,rfl,aJ⟩
 generalize (h++[av.aj [] 0 true 9])=h1 at hp1 hG ⊢
 generalize h.length=i1 at hG ⊢
 refine aB ?_
 refine iH (t:=36) (cs:=cells) (m:=n) kr Fu (by decide) rfl hG hp1 rfl (hs.mono hp1) hl (by simp only;omega) om ak rfl ak ak ?_
 intro p' c' h' k1 k2 _
 rw[Nat.zero_add] at k2 ⊢
 rw[List.nil_append] at k2
 refine aB ?_
 refine ai ?_
 refine⟨_,ak,k1,?_⟩
 exact k2}
theorem Cm {v:Value} {n:Nat} {cells:List Value} (hs:bW h v n cells 112 48) (hl:cells.length=n*5):FW env 86 [v] h fun r h'=>h <+: h'∧aK h h' r n cells 112:=by{
have hb:n*48≤140737488355328:=hs.1
have key:(v=bD∧n=0∧cells=[])∨∃ a c,v = .slice (some a) n c:=by
 rcases hs.2 with ⟨rfl|rfl,rfl,rfl⟩ | ⟨id,au,own,c,rfl,hid⟩
 ·exact .inl ⟨rfl,rfl,rfl⟩
 ·exact .inr ⟨_,_,rfl⟩
 ·exact .inr ⟨_,_,rfl⟩
refine fe Tryz.func86 ?_;simp only[push_cast]
rcases key with ⟨rfl,rfl,rfl⟩ | ⟨a,c,rfl⟩
·refine aB ?_
 refine af rfl ?_
 refine aB ?_
 refine ai ?_
 exact⟨_,ak,List.prefix_refl _,aK.nil⟩
·repeat (first|apply zs|apply zr|apply zn|((first|apply zx|apply zy);·simp only[push_cast,env,Nat.reduceEqDiff,reduceIte,Nat.reduceAdd,Nat.reduceMul,Nat.reduceLeDiff,reduceCtorEq,Nat.reduceSub,Int.reduceToNat,Option.isNone_some]<;>first|exact rfl|exact .inl rfl|exact .inr rfl) | apply zq|apply zb|apply zo|apply zk|apply zl)
 refine ae rfl ?_
 refine zu ?_
 refine cz (t:=112) (cs:=[]) (n:=0) ak kr ?_
 dsimp only[St.aX,St.put]
 have hp1:h <+: h++[av.aj [] 0 true 112]:=aI
 have hG:aK h (h++[av.aj [] 0 true 112]) (.slice (some ⟨h.length,0,some 0⟩) 0 0) 0 [] 112:=.inr ⟨h.length,0,Nat.le_refl _,rfl,aJ⟩
 generalize (h++[av.aj [] 0 true 112])=h1 at hp1 hG ⊢
 generalize h.length=i1 at hG ⊢
 refine aB ?_
 refine iH (t:=24) (cs:=cells) (m:=n) kr IJ (by decide) rfl hG hp1 rfl (hs.mono hp1) hl (by simp only;omega) om ak rfl ak ak ?_
 intro p' c' h' k1 k2 _
 rw[Nat.zero_add] at k2 ⊢
 rw[List.nil_append] at k2
 refine aB ?_
 refine ai ?_
 refine⟨_,ak,k1,?_⟩
 exact k2}
theorem Bw {v:Value} {n:Nat} {cells:List Value} (hs:bW h v n cells 114 32) (hl:cells.length=n*2):FW env 87 [v] h fun r h'=>h <+: h'∧aK h h' r n cells 114:=by{
have hb:n*32≤140737488355328:=hs.1
have key:(v=bD∧n=0∧cells=[])∨∃ a c,v = .slice (some a) n c:=by
 rcases hs.2 with ⟨rfl|rfl,rfl,rfl⟩ | ⟨id,au,own,c,rfl,hid⟩
 ·exact .inl ⟨rfl,rfl,rfl⟩
 ·exact .inr ⟨_,_,rfl⟩
 ·exact .inr ⟨_,_,rfl⟩
refine fe Tryz.func87 ?_;simp only[push_cast]
rcases key with ⟨rfl,rfl,rfl⟩ | ⟨a,c,rfl⟩
·refine aB ?_
 refine af rfl ?_
 refine aB ?_
 refine ai ?_
 exact⟨_,ak,List.prefix_refl _,aK.nil⟩
·repeat (first|apply zs|apply zr|apply zn|((first|apply zx|apply zy);·simp only[push_cast,env,Nat.reduceEqDiff,reduceIte,Nat.reduceAdd,Nat.reduceMul,Nat.reduceLeDiff,reduceCtorEq,Nat.reduceSub,Int.reduceToNat,Option.isNone_some]<;>first|exact rfl|exact .inl rfl|exact .inr rfl) | apply zq|apply zb|apply zo|apply zk|apply zl)
 refine ae rfl ?_
 refine zu ?_
 refine cz (t:=114) (cs:=[]) (n:=0) ak kr ?_
 dsimp only[St.aX,St.put]
 have hp1:h <+: h++[av.aj [] 0 true 114]:=aI
 have hG:aK h (h++[av.aj [] 0 true 114]) (.slice (some ⟨h.length,0,some 0⟩) 0 0) 0 [] 114:=.inr ⟨h.length,0,Nat.le_refl _,rfl,aJ⟩
 generalize (h++[av.aj [] 0 true 114])=h1 at hp1 hG ⊢
 generalize h.length=i1 at hG ⊢
 refine aB ?_
 refine iH (t:=25) (cs:=cells) (m:=n) kr IG (by decide) rfl hG hp1 rfl (hs.mono hp1) hl (by simp only;omega) om ak rfl ak ak ?_
 intro p' c' h' k1 k2 _
 rw[Nat.zero_add] at k2 ⊢
 rw[List.nil_append] at k2
 refine aB ?_
 refine ai ?_
 refine⟨_,ak,k1,?_⟩
 exact k2}
theorem AV {v:Value} {n:Nat} {cells:List Value} (hs:bW h v n cells 85 40) (hl:cells.length=n*2):FW env 88 [v] h fun r h'=>h <+: h'∧aK h h' r n cells 85:=by{
have hb:n*40≤140737488355328:=hs.1
have key:(v=bD∧n=0∧cells=[])∨∃ a c,v = .slice (some a) n c:=by
 rcases hs.2 with ⟨rfl|rfl,rfl,rfl⟩ | ⟨id,au,own,c,rfl,hid⟩
 ·exact .inl ⟨rfl,rfl,rfl⟩
 ·exact .inr ⟨_,_,rfl⟩
 ·exact .inr ⟨_,_,rfl⟩
refine fe Tryz.func88 ?_;simp only[push_cast]
rcases key with ⟨rfl,rfl,rfl⟩ | ⟨a,c,rfl⟩
·refine aB ?_
 refine af rfl ?_
 refine aB ?_
 refine ai ?_
 exact⟨_,ak,List.prefix_refl _,aK.nil⟩
·repeat (first|apply zs|apply zr|apply zn|((first|apply zx|apply zy);·simp only[push_cast,env,Nat.reduceEqDiff,reduceIte,Nat.reduceAdd,Nat.reduceMul,Nat.reduceLeDiff,reduceCtorEq,Nat.reduceSub,Int.reduceToNat,Option.isNone_some]<;>first|exact rfl|exact .inl rfl|exact .inr rfl) | apply zq|apply zb|apply zo|apply zk|apply zl)
 refine ae rfl ?_
 refine zu ?_
 refine cz (t:=85) (cs:=[]) (n:=0) ak kr ?_
 dsimp only[St.aX,St.put]
 have hp1:h <+: h++[av.aj [] 0 true 85]:=aI
 have hG:aK h (h++[av.aj [] 0 true 85]) (.slice (some ⟨h.length,0,some 0⟩) 0 0) 0 [] 85:=.inr ⟨h.length,0,Nat.le_refl _,rfl,aJ⟩
 generalize (h++[av.aj [] 0 true 85])=h1 at hp1 hG ⊢
 generalize h.length=i1 at hG ⊢
 refine aB ?_
 refine iH (t:=26) (cs:=cells) (m:=n) kr MA (by decide) rfl hG hp1 rfl (hs.mono hp1) hl (by simp only;omega) om ak rfl ak ak ?_
 intro p' c' h' k1 k2 _
 rw[Nat.zero_add] at k2 ⊢
 rw[List.nil_append] at k2
 refine aB ?_
 refine ai ?_
 refine⟨_,ak,k1,?_⟩
 exact k2}
theorem AR {v:Value} {n:Nat} {cells:List Value} (hs:bW h v n cells 136 56) (hl:cells.length=n*4):FW env 138 [v] h fun r h'=>h <+: h'∧aK h h' r n cells 136:=by{
have hb:n*56≤140737488355328:=hs.1
have key:(v=bD∧n=0∧cells=[])∨∃ a c,v = .slice (some a) n c:=by
 rcases hs.2 with ⟨rfl|rfl,rfl,rfl⟩ | ⟨id,au,own,c,rfl,hid⟩
 ·exact .inl ⟨rfl,rfl,rfl⟩
 ·exact .inr ⟨_,_,rfl⟩
 ·exact .inr ⟨_,_,rfl⟩
refine fe Tryz.func138 ?_;simp only[push_cast]
rcases key with ⟨rfl,rfl,rfl⟩ | ⟨a,c,rfl⟩
·refine aB ?_
 refine af rfl ?_
 refine aB ?_
 refine ai ?_
 exact⟨_,ak,List.prefix_refl _,aK.nil⟩
·repeat (first|apply zs|apply zr|apply zn|((first|apply zx|apply zy);·simp only[push_cast,env,Nat.reduceEqDiff,reduceIte,Nat.reduceAdd,Nat.reduceMul,Nat.reduceLeDiff,reduceCtorEq,Nat.reduceSub,Int.reduceToNat,Option.isNone_some]<;>first|exact rfl|exact .inl rfl|exact .inr rfl) | apply zq|apply zb|apply zo|apply zk|apply zl)
 refine ae rfl ?_
 refine zu ?_
 refine cz (t:=136) (cs:=[]) (n:=0) ak kr ?_
 dsimp only[St.aX,St.put]
 have hp1:h <+: h++[av.aj [] 0 true 136]:=aI
 have hG:aK h (h++[av.aj [] 0 true 136]) (.slice (some ⟨h.length,0,some 0⟩) 0 0) 0 [] 136:=.inr ⟨h.length,0,Nat.le_refl _,rfl,aJ⟩
 generalize (h++[av.aj [] 0 true 136])=h1 at hp1 hG ⊢
 generalize h.length=i1 at hG ⊢
 refine aB ?_
 refine iH (t:=83) (cs:=cells) (m:=n) kr Ix (by decide) rfl hG hp1 rfl (hs.mono hp1) hl (by simp only;omega) om ak rfl ak ak ?_
 intro p' c' h' k1 k2 _
 rw[Nat.zero_add] at k2 ⊢
 rw[List.nil_append] at k2
 refine aB ?_
 refine ai ?_
 refine⟨_,ak,k1,?_⟩
 exact k2}
end
def jN (n:Nat) (h h':ah):Prop:=∀ j o,n≤j→h[j]? = some o→h'[j]? = some o
section
variable {n m:Nat} {a b c h h' hk:ah}
theorem jN.refl:jN n h h:=fun _ _ _ k=>k
theorem jN.trans (k1:jN n a b) (k2:jN n b c):jN n a c:=fun j o hj e=>k2 j o hj (k1 j o hj e)
theorem jN.low (k:jN n a b) (hn:n≤m):jN m a b:=fun j o hj e=>k j o om e
theorem jN.pre (k:a <+: b):jN n a b:=fun j o _ e=>ag k e
theorem jN.set {i:Nat} {x:av} (hi:i<n):jN n h (h.set i x):=fun j o hj e=>by rw[aD om];exact e
def Fr (R:ah→Prop) (n:Nat) (h:ah):Prop:=∀ h',jN n h h'→R h'
variable {R:ah→Prop}
theorem Fr.mono (k:Fr R n a) (h:jN n a b):Fr R n b:=fun x e=>k x (h.trans e)
theorem Fr.low (k:Fr R m a) (h:n≤m):Fr R n a:=fun x e=>k x (e.low h)
theorem Fr.now (k:Fr R n a):R a:=k a jN.refl
theorem aK.fr {v:Value} {cells:List Value} {et:TypeId} {b:Nat} (G:aK h hk v n cells et) (hb:n*b≤140737488355328):Fr (fun x=>bW x v n cells et b) h.length hk:=fun x e=>
 (G.mono (h':=x) fun j o hj ho=>e j o (G.lt hj).1 ho).sl hb
theorem Di {α:Type} {f:α→List Value} {k:Nat} (hf:∀ x,(f x).length=k) {l:List α} {i o:Nat} {x:α} {v:Value} (hi:i<l.length) (ho:o<k) (hx:f x=(f l[i]).set o v):(l.flatMap f).set (i*k+o) v=(l.set i x).flatMap f:=by{
have e:l.flatMap f=(l.take i).flatMap f++(f l[i]++(l.drop (i+1)).flatMap f):=by
 conv=>lhs;rw[← List.take_append_drop i l,List.flatMap_append,List.drop_eq_getElem_cons hi,List.flatMap_cons]
have hti:((l.take i).flatMap f).length=i*k:=by rw[dv hf,List.length_take,Nat.min_eq_left om]
have e2:(l.set i x).flatMap f=(l.take i).flatMap f++(f x++(l.drop (i+1)).flatMap f):=by rw[List.set_eq_take_append_cons_drop,if_pos hi,List.flatMap_append,List.flatMap_cons]
rw[e2,e,List.set_append_right _ _ om,hti,show i*k+o-i*k=o by omega,List.set_append_left _ _ (by rw[hf];exact ho),hx]}
theorem Ae {α β:Type}:∀ {l:List α} {W:List β} {i:Nat} (hi:i<l.length) (r:β),(l.zip W).set i (l[i],r)=l.zip (W.set i r)
 | x :: l,[],i,_,r=>by simp
 | x :: l,w :: W,0,_,r=>by simp
 | x :: l,w :: W,i+1,hi,r=>by
   simp only[List.zip_cons_cons,List.set_cons_succ,List.getElem_cons_succ]
   rw[Ae (Nat.lt_of_succ_lt_succ hi)]
theorem KK {cells:List Value} {off:Nat} {v:Value} (h:off<cells.length):lj cells off [v]=some (cells.set off v):=by{
unfold lj
rw[if_pos (by rw[List.length_singleton];omega)]
congr 1
rw[List.set_eq_take_append_cons_drop,if_pos h]
simp}
theorem mF {α:Type} {f:α→Value→List Value} {k o:Nat} (hf:∀ x u,(f x u).length=k) (ho:o<k) (hx:∀ x u v,f x v=(f x u).set o v) {l:List α} {W:List Value} (hW:W.length=l.length) {i:Nat} (hi:i<l.length) {v:Value} : lj ((l.zip W).flatMap fun p=>f p.1 p.2) (i*k+o) [v]=some ((l.zip (W.set i v)).flatMap fun p=>f p.1 p.2):=by{
have hz:i<(l.zip W).length:=by simp [hW,hi]
have hl:=dv (f:=fun p:α×Value=>f p.1 p.2) (k:=k) (fun _=>hf _ _) (l.zip W)
have h1:(i+1)*k≤(l.zip W).length*k:=Nat.mul_le_mul_right k hz
rw[Nat.succ_mul] at h1
rw[KK om,Di (f:=fun p:α×Value=>f p.1 p.2) (fun _=>hf _ _) (x:=(l[i],v)) hz ho (by simp only[List.getElem_zip];exact hx _ _ _),Ae hi]}
theorem pN {α:Type} {f:α→Value→List Value} {k:Nat} (hf:∀ x u,(f x u).length=k) {l:List α} {W:List Value} {i:Nat} {u:Value} (hi:i<l.length) (hu:W[i]? = some u):je ((l.zip W).flatMap fun p=>f p.1 p.2) (i*k) k=some (f l[i] u):=by{
refine bG (f:=fun p:α×Value=>f p.1 p.2) (fun _=>hf _ _) (l.zip W) i (l[i],u) ?_
obtain⟨hw,rfl⟩:=List.getElem?_eq_some_iff.1 hu
simp [List.getElem?_zip_eq_some,hi,hw]}
end
abbrev LV:Item→Value→List Value:=fun p u=>[i64 p.kind,.string p.text,i64 p.n,u]
structure TR (h hk:ah) (id au:Nat) (l:List Item) (us W:List Value) (k:Nat):Prop where
 p:h <+: hk
 n:W.length=l.length
 o:hk[id]? = some (.aj ((l.zip W).flatMap fun p=>LV p.1 p.2) au true 136)
 d:∀ (i:Nat) (hi:i<l.length),i<k→∃ u,W[i]? = some u∧Fr (fun x=>b9 x u l[i].bR) (id+1) hk
 r:∀ i,k≤i→W[i]? = us[i]?
theorem EV {h0:ah} {v:Value} {l:List Item} (hr:b9 h0 v l):∀ {h:ah},h0 <+: h→FW env 89 [v] h fun r h'=>h <+: h'∧(∃ p c,r = .slice p l.length c)∧Fr (fun x=>b9 x r l) h.length h':=by{
induction hr with
| @mk v l us hl hs hu ih=>
  intro h hp0
  have hle:=hs.1
  have hn:l.length≤140737488355328:=by omega
  have hcl:((l.zip us).flatMap fun p=>LV p.1 p.2).length=l.length*4:=by rw[dv (f:=fun p:Item×Value=>LV p.1 p.2) (k:=4) (fun _=>rfl),List.length_zip,hl,Nat.min_self]
  refine fe Tryz.func89 ?_;simp only[push_cast]
  refine aB ?_
  refine zj Tryz.func138 ?_
  refine (AR (hs.mono hp0) hcl).mono ?_
  rintro r1 h1 ⟨hp1,hG⟩
  by_cases hz:l.length=0
  ·obtain⟨pq,cq,rfl⟩:=hG.form
   have hfin:Fr (fun x=>b9 x (.slice pq l.length cq) l) h.length h1:=fun x e=>.mk us hl (hG.fr (b:=56) om x e) (fun i x u h1 h2=>by have:=(List.getElem?_eq_some_iff.1 h1).1;omega)
   refine aB ?_
   refine df l.length (fun k=>[(0,.val (.slice pq l.length cq)),(7,.val (i64 l.length)),(8,.val (i64 k))]) (fun _=>h1) (fun _=>True) aO rfl trivial ?_
   intro k hk _
   have hlt:¬ k<l.length:=by omega
   have e3:=aT hlt
   refine aG e3 ?_
   refine ae rfl ?_
   refine aC ?_
   show CW _ _ _ _
   refine aB ?_
   refine ai ?_
   refine⟨_,ak,hp1,⟨pq,cq,?_⟩,?_⟩
   ·rfl
   ·exact hfin
  obtain⟨id,au,hid,rfl,hob⟩:=hG.vV om
  refine aB ?_
  refine a9 l.length (fun k (x:ah×List Value)=>[(0,.val (.slice (some ⟨id,0,some au⟩) l.length l.length)),(7,.val (i64 l.length)),(8,.val (i64 k))]) (fun _ x=>x.1) (fun k x=>TR h x.1 id au l us x.2 k) (h1,us) aO rfl ⟨hp1,hl,hob,fun i hi h=>absurd h om,fun i _=>rfl⟩ ?_
  rintro k ⟨hk,W⟩ hkn I
  simp only at I ⊢
  by_cases hlt:k<l.length
  ·have e1:=cH hlt
   have e2:=inc hlt hn
   have e3:=aV hlt
   have hi':k<us.length:=hl▸hlt
   have hWk:W[k]? = some us[k]:=by rw[I.r k (Nat.le_refl _)];simp [hi']
   have hg:=pN (f:=LV) (k:=4) (fun _ _=>rfl) hlt hWk
   have hg3:=g7 (j:=3) hg om
   simp only[List.getElem?_cons_succ,List.getElem?_cons_zero] at hg3
   have ho:=I.o
   have hrec:=@ih k l[k] us[k] (by simp [hlt]) (by simp [hi']) hk (hp0.trans I.p)
   have hlen1:=cX I.o
   refine aG e3 ?_
   refine af rfl ?_
   refine ir e1 ho hg3 ?_
   refine zj Tryz.func89 ?_
   refine hrec.mono ?_
   rintro _ h5 ⟨hp5,⟨pr,cr,rfl⟩,hF⟩
   have ho5:=ag hp5 ho
   refine aG e1 ?_
   refine ch ak rfl rfl rfl ak ho5 ak rfl (mF (f:=LV) (k:=4) (o:=3) (fun _ _=>rfl) (by decide) (fun _ _ _=>rfl) I.n hlt) ?_
   refine aG e2 ?_
   have hA5:jN (id+1) hk (h5.set id (.aj ((l.zip (W.set k (.slice pr l[k].bR.length cr))).flatMap fun p=>LV p.1 p.2) au true 136)):=(jN.pre hp5).trans (jN.set om)
   refine⟨hlt,(h5.set id (.aj ((l.zip (W.set k (.slice pr l[k].bR.length cr))).flatMap fun p=>LV p.1 p.2) au true 136),W.set k (.slice pr l[k].bR.length cr)),aO,rfl,aY (I.p.trans hp5) hid,by rw[List.length_set];exact I.n,aw ho5,fun i hi h2=>?_,fun i hi=>?_⟩
   ·rcases (by omega:i<k∨i=k) with h4|rfl
    ·obtain⟨u,hu1,hu2⟩:=I.d i hi h4
     exact⟨u,by rw[List.getElem?_set_ne om];exact hu1,hu2.mono hA5⟩
    ·refine⟨_,List.getElem?_set_self (by rw[I.n];exact hlt),(hF.mono ?_).low om⟩
     exact jN.set om
   ·simp only
    rw[List.getElem?_set_ne om]
    exact I.r i om
  ·have e3:=aT hlt
   obtain rfl:k=l.length:=by omega
   refine aG e3 ?_
   refine ae rfl ?_
   refine aC ?_
   show CW _ _ _ _
   have hfin:Fr (fun x=>b9 x (.slice (some ⟨id,0,some au⟩) l.length l.length) l) h.length hk:=by
    refine fun x e=>.mk W I.n ⟨hle,.inr ⟨id,au,true,_,rfl,e _ _ hid I.o⟩⟩ fun i y u h1 h2=>?_
    obtain⟨hi,rfl⟩:=List.getElem?_eq_some_iff.1 h1
    obtain⟨u',hu1,hu2⟩:=I.d i hi hi
    rw[hu1] at h2
    cases h2
    exact hu2 x (e.low om)
   refine aB ?_
   refine ai ?_
   refine⟨_,ak,I.p,⟨some ⟨id,0,some au⟩,l.length,?_⟩,?_⟩
   ·rfl
   ·exact hfin}
def yC (l:List gD) (p:Int) (i:Nat):Bool:=match l[i]? with
 | some o=>decide (o.kind=0)&&decide (o.prod=p)
 | none=>false
def dF (l:List gD) (p:Int) (n:Nat):List Int:=((List.range n).filter (yC l p)).map Int.ofNat
theorem wh {l:List gD} {p:Int} {n:Nat}:dF l p (n+1)=if yC l p n=true then dF l p n++[(n:Int)] else dF l p n:=by{
unfold dF
rw[List.range_succ,List.filter_append,List.map_append]
cases h:yC l p n<;>simp [h]}
theorem yu {l:List gD} {p:Int} {n:Nat}:(dF l p n).length≤n:=by{
unfold dF
rw[List.length_map]
exact Nat.le_trans (List.length_filter_le _ _) (by simp)}
theorem HZ {l:List gD} {p:Int} {i:Nat} (hi:i<l.length):yC l p i=(decide (l[i].kind=0)&&decide (l[i].prod=p)):=by
 unfold yC
 rw[List.getElem?_eq_getElem hi]
section
variable {h:ah} {v:Value} {fr:List gD} {l:List ByteArray} {b:ByteArray} {p:Int}
theorem s8 (hk:lA h v fr l) (hm:fr.length≤4096):FW env 22 [v,i64 p] h fun r h'=>h <+: h'∧aK h h' r (dF fr p fr.length).length ((dF fr p fr.length).map i64) 3:=by{
obtain⟨s0,s1,p2,p3,p4,p5,p6,p9,p12,p13,p14,n2,n3,n4,n5,n6,n9,Mk,n13,n14,c2,c3,c4,c5,c6,c9,c12,c13,c14,i7,i8,uf,un,rfl,hf,hn⟩:=hk
obtain⟨pf,cf,rfl⟩:=hf.form
obtain⟨pn,cn,rfl⟩:=hn.form
have z0:(dF fr p 0).length=0:=rfl
refine fe Tryz.func22 ?_;simp only[push_cast]
refine aB ?_
refine a9 fr.length (fun k (x:ah×Option Addr×Nat)=>[(1,.val (i64 p)),(5,.val (.slice x.2.1 (dF fr p k).length x.2.2)),(9,.val (.slice pf fr.length cf)),(10,.val (i64 fr.length)),(11,.val (i64 k))]) (fun _ x=>x.1)
 (fun k x=>h <+: x.1∧aK h x.1 (.slice x.2.1 (dF fr p k).length x.2.2) (dF fr p k).length ((dF fr p k).map i64) 3) (h,none,0) (lF z0) rfl ⟨List.prefix_refl _,aK.nil⟩ ?_
rintro k ⟨hk,q,cq⟩ hkn ⟨hp,hG⟩
simp only at hp hG ⊢
have hlen:(dF fr p k).length≤k:=yu
by_cases hlt:k<fr.length
·have hf':=hf.mono hp
 obtain⟨id,au,own,c',cells,ps,ns,cs,hv,hid,_,hc,_⟩:=hf'.at hlt
 cases hv
 have e1:=cH hlt
 have e2:=inc hlt hf.le
 have e3:=aV hlt
 have hs:=wh (l:=fr) (p:=p) (n:=k)
 rw[HZ hlt] at hs
 refine aG e3 ?_
 refine af rfl ?_
 by_cases q1:fr[k].kind=0
 ·by_cases q2:fr[k].prod=p
  ·rw[if_pos (by simp [q1,q2])] at hs
   have hs2:(dF fr p (k+1)).length=(dF fr p k).length+1:=by rw[hs];simp
   repeat (first|apply zs|apply zr|apply zn|((first|apply zx|apply zy);·simp only[push_cast,env,Nat.reduceEqDiff,reduceIte,Nat.reduceAdd,Nat.reduceMul,Nat.reduceLeDiff,reduceCtorEq,Nat.reduceSub,Int.reduceToNat,e1,hid,hc,q1,q2,decide_true]<;>first|exact rfl|exact .inl rfl|exact .inr rfl) | apply zq|apply zb|apply zo|apply zk|apply zl)
   refine af rfl ?_
   refine aB ?_
   refine wS (l:=dF fr p k) (b:=k) (h:=h) ak rfl ak ak hG hp om ?_
   intro p' c' h' k1 k2 _ _
   refine aG e2 ?_
   refine⟨hlt,(h',p',c'),?_,rfl,k2,?_⟩
   ·exact (lF hs2)
   ·rw[hs]
    simpa using k1
  ·rw[if_neg (by simp [q2])] at hs
   repeat (first|apply zs|apply zr|apply zn|((first|apply zx|apply zy);·simp only[push_cast,env,Nat.reduceEqDiff,reduceIte,Nat.reduceAdd,Nat.reduceMul,Nat.reduceLeDiff,reduceCtorEq,Nat.reduceSub,Int.reduceToNat,e1,hid,hc,q1,q2,decide_true,decide_false]<;>first|exact rfl|exact .inl rfl|exact .inr rfl) | apply zq|apply zb|apply zo|apply zk|apply zl)
   refine ae rfl ?_
   refine aG e2 ?_
   refine⟨hlt,(hk,q,cq),?_,rfl,hp,?_⟩
   ·exact (lF hs)
   ·rw[hs]
    exact hG
 ·rw[if_neg (by simp [q1])] at hs
  repeat (first|apply zs|apply zr|apply zn|((first|apply zx|apply zy);·simp only[push_cast,env,Nat.reduceEqDiff,reduceIte,Nat.reduceAdd,Nat.reduceMul,Nat.reduceLeDiff,reduceCtorEq,Nat.reduceSub,Int.reduceToNat,e1,hid,hc,q1,decide_false]<;>first|exact rfl|exact .inl rfl|exact .inr rfl) | apply zq|apply zb|apply zo|apply zk|apply zl)
  refine ae rfl ?_
  refine aG e2 ?_
  refine⟨hlt,(hk,q,cq),?_,rfl,hp,?_⟩
  ·exact (lF hs)
  ·rw[hs]
   exact hG
·have e3:=aT hlt
 obtain rfl:k=fr.length:=by omega
 refine aG e3 ?_
 refine ae rfl ?_
 refine aC ?_
 show CW _ _ _ _
 refine aB ?_
 refine ai ?_
 refine⟨_,ak,hp,?_⟩
 exact hG}
end
end Go.Proofs.YtmdmimkbpikmoaaGreat
namespace Go.Proofs.YtmdmimkbpikmoaaGreat.Run5
open Go.RowKit Am Ty
set_option maxRecDepth 100000
def TK:Value:=.agg #[.string ⟨#[69]⟩,zE,.slice (some ⟨7,0,some 0⟩) 3 3,.slice (some ⟨10,0,some 0⟩) 1 1,zN,zN,zN]
def Ry:ah:=[.aj [.string ⟨#[69]⟩,zE,.slice (some ⟨7,0,some 0⟩) 3 3,.slice (some ⟨10,0,some 0⟩) 1 1,zN,zN,zN] 0 true 28,
 .aj [i64 3,zE,zU,zU,zU,zU,.string ⟨#[69]⟩,zE] 0 true 56,
 .aj [i64 3,zE,zU,zU,zU,zU,.string ⟨#[78]⟩,zE] 0 true 56,
 .aj [i64 1,.string ⟨#[43]⟩,zU,zU,zU,zU,zE,zE] 0 true 56,
 .aj [i64 3,zE,zU,zU,zU,zU,.string ⟨#[69]⟩,zE,i64 1,.string ⟨#[43]⟩,zU,zU,zU,zU,zE,zE,i64 3,zE,zU,zU,zU,zU,.string ⟨#[69]⟩,zE] 0 true 56,
 .aj [i64 3,zE,zU,zU,zU,zU,.string ⟨#[78]⟩,zE] 0 true 56,
 .aj [i64 6,zE,.int .u64 281474976710656,zU,zU,zU,zE,zE] 0 true 56,
 .aj [.bool false,.string ⟨#[69]⟩,.string ⟨#[65]⟩,.bool false,.slice (some ⟨4,0,some 0⟩) 3 3,.bool false,.string ⟨#[69]⟩,.string ⟨#[78]⟩,.bool false,.slice (some ⟨5,0,some 0⟩) 1 1,.bool true,.string ⟨#[78]⟩,zE,.bool false,.slice (some ⟨6,0,some 0⟩) 1 1] 0 true 51,
 .aj [.string ⟨#[65]⟩] 0 true 9,
 .aj [i64 1,.slice (some ⟨8,0,some 0⟩) 1 1] 0 true 82,
 .aj [.slice (some ⟨9,0,some 0⟩) 1 1] 0 true 80,
 .aj [.string ⟨#[69]⟩,zE,.slice (some ⟨7,0,some 0⟩) 3 3,.slice (some ⟨10,0,some 0⟩) 1 1,zN,zN,zN] 0 true 28,
 .aj [zE,zE,zN,zN,zN,zN,zN,i64 0,i64 0,zN,zN,zN,zN,zN,zN] 0 true 43]
def TV:Value:=.agg #[.string ⟨#[69]⟩,zE,.slice (some ⟨15,0,some 1⟩) 3 3,.slice (some ⟨22,0,some 0⟩) 1 1,zN,zN,zN]
def TP:ah:=[.aj [.string ⟨#[69]⟩,zE,.slice (some ⟨7,0,some 0⟩) 3 3,.slice (some ⟨10,0,some 0⟩) 1 1,zN,zN,zN] 0 true 28,
 .aj [i64 3,zE,zU,zU,zU,zU,.string ⟨#[69]⟩,zE] 0 true 56,
 .aj [i64 3,zE,zU,zU,zU,zU,.string ⟨#[78]⟩,zE] 0 true 56,
 .aj [i64 1,.string ⟨#[43]⟩,zU,zU,zU,zU,zE,zE] 0 true 56,
 .aj [i64 3,zE,zU,zU,zU,zU,.string ⟨#[69]⟩,zE,i64 1,.string ⟨#[43]⟩,zU,zU,zU,zU,zE,zE,i64 3,zE,zU,zU,zU,zU,.string ⟨#[69]⟩,zE] 0 true 56,
 .aj [i64 3,zE,zU,zU,zU,zU,.string ⟨#[78]⟩,zE] 0 true 56,
 .aj [i64 6,zE,.int .u64 281474976710656,zU,zU,zU,zE,zE] 0 true 56,
 .aj [.bool false,.string ⟨#[69]⟩,.string ⟨#[65]⟩,.bool false,.slice (some ⟨4,0,some 0⟩) 3 3,.bool false,.string ⟨#[69]⟩,.string ⟨#[78]⟩,.bool false,.slice (some ⟨5,0,some 0⟩) 1 1,.bool true,.string ⟨#[78]⟩,zE,.bool false,.slice (some ⟨6,0,some 0⟩) 1 1] 0 true 51,
 .aj [.string ⟨#[65]⟩] 0 true 9,
 .aj [i64 1,.slice (some ⟨8,0,some 0⟩) 1 1] 0 true 82,
 .aj [.slice (some ⟨9,0,some 0⟩) 1 1] 0 true 80,
 .aj [.string ⟨#[69]⟩,zE,.slice (some ⟨7,0,some 0⟩) 3 3,.slice (some ⟨10,0,some 0⟩) 1 1,zN,zN,zN] 0 true 28,
 .aj [zE,zE,zN,zN,zN,zN,zN,i64 0,i64 0,zN,zN,zN,zN,zN,zN] 0 true 43,
 .aj [.string ⟨#[69]⟩,zE,.slice (some ⟨15,0,some 1⟩) 3 3,.slice (some ⟨22,0,some 0⟩) 1 1,zN,zN,zN] 0 true 28,
 .aj [.string ⟨#[69]⟩,zE,.slice (some ⟨15,0,some 1⟩) 3 3,.slice (some ⟨22,0,some 0⟩) 1 1,zN,zN,zN] 0 true 28,
 .aj [.bool false,.string ⟨#[69]⟩,.string ⟨#[65]⟩,.bool false,.slice (some ⟨16,0,some 1⟩) 3 3,.bool false,.string ⟨#[69]⟩,.string ⟨#[78]⟩,.bool false,.slice (some ⟨17,0,some 1⟩) 1 1,.bool true,.string ⟨#[78]⟩,zE,.bool false,.slice (some ⟨18,0,some 1⟩) 1 1] 1 true 51,
 .aj [i64 3,zE,zU,zU,zU,zU,.string ⟨#[69]⟩,zE,i64 1,.string ⟨#[43]⟩,zU,zU,zU,zU,zE,zE,i64 3,zE,zU,zU,zU,zU,.string ⟨#[69]⟩,zE] 1 true 56,
 .aj [i64 3,zE,zU,zU,zU,zU,.string ⟨#[78]⟩,zE] 1 true 56,
 .aj [i64 6,zE,.int .u64 281474976710656,zU,zU,zU,zE,zE] 1 true 56,
 .aj [i64 1,.slice (some ⟨20,0,some 1⟩) 1 1] 1 true 82,
 .aj [.string ⟨#[65]⟩] 1 true 9,
 .aj [.slice (some ⟨19,0,some 1⟩) 1 1] 0 true 80,
 .aj [.slice (some ⟨19,0,some 1⟩) 1 1] 0 true 80]
def RY:Value:=.pointer (some ⟨25,0,some 0⟩)
def TX:ah:=[.aj [.string ⟨#[69]⟩,zE,.slice (some ⟨7,0,some 0⟩) 3 3,.slice (some ⟨10,0,some 0⟩) 1 1,zN,zN,zN] 0 true 28,
 .aj [i64 3,zE,zU,zU,zU,zU,.string ⟨#[69]⟩,zE] 0 true 56,
 .aj [i64 3,zE,zU,zU,zU,zU,.string ⟨#[78]⟩,zE] 0 true 56,
 .aj [i64 1,.string ⟨#[43]⟩,zU,zU,zU,zU,zE,zE] 0 true 56,
 .aj [i64 3,zE,zU,zU,zU,zU,.string ⟨#[69]⟩,zE,i64 1,.string ⟨#[43]⟩,zU,zU,zU,zU,zE,zE,i64 3,zE,zU,zU,zU,zU,.string ⟨#[69]⟩,zE] 0 true 56,
 .aj [i64 3,zE,zU,zU,zU,zU,.string ⟨#[78]⟩,zE] 0 true 56,
 .aj [i64 6,zE,.int .u64 281474976710656,zU,zU,zU,zE,zE] 0 true 56,
 .aj [.bool false,.string ⟨#[69]⟩,.string ⟨#[65]⟩,.bool false,.slice (some ⟨4,0,some 0⟩) 3 3,.bool false,.string ⟨#[69]⟩,.string ⟨#[78]⟩,.bool false,.slice (some ⟨5,0,some 0⟩) 1 1,.bool true,.string ⟨#[78]⟩,zE,.bool false,.slice (some ⟨6,0,some 0⟩) 1 1] 0 true 51,
 .aj [.string ⟨#[65]⟩] 0 true 9,
 .aj [i64 1,.slice (some ⟨8,0,some 0⟩) 1 1] 0 true 82,
 .aj [.slice (some ⟨9,0,some 0⟩) 1 1] 0 true 80,
 .aj [.string ⟨#[69]⟩,zE,.slice (some ⟨7,0,some 0⟩) 3 3,.slice (some ⟨10,0,some 0⟩) 1 1,zN,zN,zN] 0 true 28,
 .aj [zE,zE,zN,zN,zN,zN,zN,i64 0,i64 0,zN,zN,zN,zN,zN,zN] 0 true 43,
 .aj [.string ⟨#[69]⟩,zE,.slice (some ⟨15,0,some 1⟩) 3 3,.slice (some ⟨22,0,some 0⟩) 1 1,zN,zN,zN] 0 true 28,
 .aj [.string ⟨#[69]⟩,zE,.slice (some ⟨15,0,some 1⟩) 3 3,.slice (some ⟨22,0,some 0⟩) 1 1,zN,zN,zN] 0 true 28,
 .aj [.bool false,.string ⟨#[69]⟩,.string ⟨#[65]⟩,.bool false,.slice (some ⟨16,0,some 1⟩) 3 3,.bool false,.string ⟨#[69]⟩,.string ⟨#[78]⟩,.bool false,.slice (some ⟨17,0,some 1⟩) 1 1,.bool true,.string ⟨#[78]⟩,zE,.bool false,.slice (some ⟨18,0,some 1⟩) 1 1] 1 true 51,
 .aj [i64 3,zE,zU,zU,zU,zU,.string ⟨#[69]⟩,zE,i64 1,.string ⟨#[43]⟩,zU,zU,zU,zU,zE,zE,i64 3,zE,zU,zU,zU,zU,.string ⟨#[69]⟩,zE] 1 true 56,
 .aj [i64 3,zE,zU,zU,zU,zU,.string ⟨#[78]⟩,zE] 1 true 56,
 .aj [i64 6,zE,.int .u64 281474976710656,zU,zU,zU,zE,zE] 1 true 56,
 .aj [i64 1,.slice (some ⟨20,0,some 1⟩) 1 1] 1 true 82,
 .aj [.string ⟨#[65]⟩] 1 true 9,
 .aj [.slice (some ⟨19,0,some 1⟩) 1 1] 0 true 80,
 .aj [.slice (some ⟨19,0,some 1⟩) 1 1] 0 true 80,
 .map [],
 .map [],
 .aj [.string ⟨#[69]⟩,zE,.slice (some ⟨15,0,some 1⟩) 3 3,.slice (some ⟨22,0,some 0⟩) 1 1,zN,zN,zN,i64 0,i64 0,zN,zN,zN,zN,zN,zN,.map (some 23),.map (some 24),zN,i64 0] 0 true 94]
def TC:ah:=[.aj [.string ⟨#[69]⟩,zE,.slice (some ⟨7,0,some 0⟩) 3 3,.slice (some ⟨10,0,some 0⟩) 1 1,zN,zN,zN] 0 true 28,
 .aj [i64 3,zE,zU,zU,zU,zU,.string ⟨#[69]⟩,zE] 0 true 56,
 .aj [i64 3,zE,zU,zU,zU,zU,.string ⟨#[78]⟩,zE] 0 true 56,
 .aj [i64 1,.string ⟨#[43]⟩,zU,zU,zU,zU,zE,zE] 0 true 56,
 .aj [i64 3,zE,zU,zU,zU,zU,.string ⟨#[69]⟩,zE,i64 1,.string ⟨#[43]⟩,zU,zU,zU,zU,zE,zE,i64 3,zE,zU,zU,zU,zU,.string ⟨#[69]⟩,zE] 0 true 56,
 .aj [i64 3,zE,zU,zU,zU,zU,.string ⟨#[78]⟩,zE] 0 true 56,
 .aj [i64 6,zE,.int .u64 281474976710656,zU,zU,zU,zE,zE] 0 true 56,
 .aj [.bool false,.string ⟨#[69]⟩,.string ⟨#[65]⟩,.bool false,.slice (some ⟨4,0,some 0⟩) 3 3,.bool false,.string ⟨#[69]⟩,.string ⟨#[78]⟩,.bool false,.slice (some ⟨5,0,some 0⟩) 1 1,.bool true,.string ⟨#[78]⟩,zE,.bool false,.slice (some ⟨6,0,some 0⟩) 1 1] 0 true 51,
 .aj [.string ⟨#[65]⟩] 0 true 9,
 .aj [i64 1,.slice (some ⟨8,0,some 0⟩) 1 1] 0 true 82,
 .aj [.slice (some ⟨9,0,some 0⟩) 1 1] 0 true 80,
 .aj [.string ⟨#[69]⟩,zE,.slice (some ⟨7,0,some 0⟩) 3 3,.slice (some ⟨10,0,some 0⟩) 1 1,zN,zN,zN] 0 true 28,
 .aj [zE,zE,zN,zN,zN,zN,zN,i64 0,i64 0,zN,zN,zN,zN,zN,zN] 0 true 43,
 .aj [.string ⟨#[69]⟩,zE,.slice (some ⟨15,0,some 1⟩) 3 3,.slice (some ⟨22,0,some 0⟩) 1 1,zN,zN,zN] 0 true 28,
 .aj [.string ⟨#[69]⟩,zE,.slice (some ⟨15,0,some 1⟩) 3 3,.slice (some ⟨22,0,some 0⟩) 1 1,zN,zN,zN] 0 true 28,
 .aj [.bool false,.string ⟨#[69]⟩,.string ⟨#[65]⟩,.bool false,.slice (some ⟨16,0,some 1⟩) 3 3,.bool false,.string ⟨#[69]⟩,.string ⟨#[78]⟩,.bool false,.slice (some ⟨17,0,some 1⟩) 1 1,.bool true,.string ⟨#[78]⟩,zE,.bool false,.slice (some ⟨18,0,some 1⟩) 1 1] 1 true 51,
 .aj [i64 3,zE,zU,zU,zU,zU,.string ⟨#[69]⟩,zE,i64 1,.string ⟨#[43]⟩,zU,zU,zU,zU,zE,zE,i64 3,zE,zU,zU,zU,zU,.string ⟨#[69]⟩,zE] 1 true 56,
 .aj [i64 3,zE,zU,zU,zU,zU,.string ⟨#[78]⟩,zE] 1 true 56,
 .aj [i64 6,zE,.int .u64 281474976710656,zU,zU,zU,zE,zE] 1 true 56,
 .aj [i64 1,.slice (some ⟨20,0,some 1⟩) 1 1] 1 true 82,
 .aj [.string ⟨#[65]⟩] 1 true 9,
 .aj [.slice (some ⟨19,0,some 1⟩) 1 1] 0 true 80,
 .aj [.slice (some ⟨19,0,some 1⟩) 1 1] 0 true 80,
 .map [(.string ⟨#[69]⟩,.int .i64 0),(.string ⟨#[78]⟩,.int .i64 1)],
 .map [(.agg #[.bool true,zE,.int .u64 281474976710656,zU,zU,zU,zE],.int .i64 2)],
 .aj [.string ⟨#[69]⟩,zE,.slice (some ⟨15,0,some 1⟩) 3 3,.slice (some ⟨22,0,some 0⟩) 1 1,zN,zN,zN,i64 4,i64 3,zN,zN,.slice (some ⟨35,0,some 3⟩) 4 4,zN,zN,zN,.map (some 23),.map (some 24),.slice (some ⟨45,0,some 0⟩) 1 1,.int .i64 (-1)] 0 true 94,
 .aj [.pointer (some ⟨25,0,some 0⟩)] 0 true 89,
 .aj [.string ⟨#[69]⟩,zE,.slice (some ⟨15,0,some 1⟩) 3 3,.slice (some ⟨22,0,some 0⟩) 1 1,zN,zN,zN] 0 true 28,
 .aj [.string ⟨#[69]⟩,zE,.slice (some ⟨15,0,some 1⟩) 3 3,.slice (some ⟨22,0,some 0⟩) 1 1,zN,zN,zN] 0 true 28,
 .map [(.string ⟨#[69]⟩,.int .i64 2),(.string ⟨#[78]⟩,.int .i64 1)],
 .aj [.string ⟨#[69]⟩,zE,.slice (some ⟨15,0,some 1⟩) 3 3,.slice (some ⟨22,0,some 0⟩) 1 1,zN,zN,zN,.slice (some ⟨32,0,some 1⟩) 2 2,.map (some 29)] 0 true 190,
 .aj [.bool false,.string ⟨#[69]⟩,.string ⟨#[65]⟩,.bool false,.slice (some ⟨16,0,some 1⟩) 3 3] 0 true 51,
 .aj [.string ⟨#[69]⟩,.string ⟨#[78]⟩] 1 true 9,
 .aj [.bool false,.string ⟨#[69]⟩,.string ⟨#[78]⟩,.bool false,.slice (some ⟨17,0,some 1⟩) 1 1] 0 true 51,
 .aj [.bool true,.string ⟨#[78]⟩,zE,.bool false,.slice (some ⟨18,0,some 1⟩) 1 1] 0 true 51,
 .aj [.string ⟨#[69]⟩,.string ⟨#[78]⟩,.string ⟨#[91,48,93,43]⟩,.string ⟨#[116,111,112]⟩] 3 true 9,
 .aj [.bool false,.string ⟨#[69]⟩,.string ⟨#[65]⟩,.bool false,.slice (some ⟨16,0,some 1⟩) 3 3] 0 true 51,
 .aj [i64 3,zE,zU,zU,zU,zU,.string ⟨#[69]⟩,zE] 0 true 56,
 .aj [i64 1,.string ⟨#[43]⟩,zU,zU,zU,zU,zE,zE] 0 true 56,
 .aj [i64 3,zE,zU,zU,zU,zU,.string ⟨#[69]⟩,zE] 0 true 56,
 .aj [.bool false,.string ⟨#[69]⟩,.string ⟨#[78]⟩,.bool false,.slice (some ⟨17,0,some 1⟩) 1 1] 0 true 51,
 .aj [i64 3,zE,zU,zU,zU,zU,.string ⟨#[78]⟩,zE] 0 true 56,
 .aj [.bool true,.string ⟨#[78]⟩,zE,.bool false,.slice (some ⟨18,0,some 1⟩) 1 1] 0 true 51,
 .aj [i64 6,zE,.int .u64 281474976710656,zU,zU,zU,zE,zE] 0 true 56,
 .aj [.bool true,zE,.int .u64 281474976710656,zU,zU,zU,zE] 0 true 154,
 .aj [.bool true,zE,.int .u64 281474976710656,zU,zU,zU,zE] 0 true 154]
def TD:ah:=[.aj [.string ⟨#[69]⟩,zE,.slice (some ⟨7,0,some 0⟩) 3 3,.slice (some ⟨10,0,some 0⟩) 1 1,zN,zN,zN] 0 true 28,
 .aj [i64 3,zE,zU,zU,zU,zU,.string ⟨#[69]⟩,zE] 0 true 56,
 .aj [i64 3,zE,zU,zU,zU,zU,.string ⟨#[78]⟩,zE] 0 true 56,
 .aj [i64 1,.string ⟨#[43]⟩,zU,zU,zU,zU,zE,zE] 0 true 56,
 .aj [i64 3,zE,zU,zU,zU,zU,.string ⟨#[69]⟩,zE,i64 1,.string ⟨#[43]⟩,zU,zU,zU,zU,zE,zE,i64 3,zE,zU,zU,zU,zU,.string ⟨#[69]⟩,zE] 0 true 56,
 .aj [i64 3,zE,zU,zU,zU,zU,.string ⟨#[78]⟩,zE] 0 true 56,
 .aj [i64 6,zE,.int .u64 281474976710656,zU,zU,zU,zE,zE] 0 true 56,
 .aj [.bool false,.string ⟨#[69]⟩,.string ⟨#[65]⟩,.bool false,.slice (some ⟨4,0,some 0⟩) 3 3,.bool false,.string ⟨#[69]⟩,.string ⟨#[78]⟩,.bool false,.slice (some ⟨5,0,some 0⟩) 1 1,.bool true,.string ⟨#[78]⟩,zE,.bool false,.slice (some ⟨6,0,some 0⟩) 1 1] 0 true 51,
 .aj [.string ⟨#[65]⟩] 0 true 9,
 .aj [i64 1,.slice (some ⟨8,0,some 0⟩) 1 1] 0 true 82,
 .aj [.slice (some ⟨9,0,some 0⟩) 1 1] 0 true 80,
 .aj [.string ⟨#[69]⟩,zE,.slice (some ⟨7,0,some 0⟩) 3 3,.slice (some ⟨10,0,some 0⟩) 1 1,zN,zN,zN] 0 true 28,
 .aj [zE,zE,zN,zN,zN,zN,zN,i64 0,i64 0,zN,zN,zN,zN,zN,zN] 0 true 43,
 .aj [.string ⟨#[69]⟩,zE,.slice (some ⟨15,0,some 1⟩) 3 3,.slice (some ⟨22,0,some 0⟩) 1 1,zN,zN,zN] 0 true 28,
 .aj [.string ⟨#[69]⟩,zE,.slice (some ⟨15,0,some 1⟩) 3 3,.slice (some ⟨22,0,some 0⟩) 1 1,zN,zN,zN] 0 true 28,
 .aj [.bool false,.string ⟨#[69]⟩,.string ⟨#[65]⟩,.bool false,.slice (some ⟨16,0,some 1⟩) 3 3,.bool false,.string ⟨#[69]⟩,.string ⟨#[78]⟩,.bool false,.slice (some ⟨17,0,some 1⟩) 1 1,.bool true,.string ⟨#[78]⟩,zE,.bool false,.slice (some ⟨18,0,some 1⟩) 1 1] 1 true 51,
 .aj [i64 3,zE,zU,zU,zU,zU,.string ⟨#[69]⟩,zE,i64 1,.string ⟨#[43]⟩,zU,zU,zU,zU,zE,zE,i64 3,zE,zU,zU,zU,zU,.string ⟨#[69]⟩,zE] 1 true 56,
 .aj [i64 3,zE,zU,zU,zU,zU,.string ⟨#[78]⟩,zE] 1 true 56,
 .aj [i64 6,zE,.int .u64 281474976710656,zU,zU,zU,zE,zE] 1 true 56,
 .aj [i64 1,.slice (some ⟨20,0,some 1⟩) 1 1] 1 true 82,
 .aj [.string ⟨#[65]⟩] 1 true 9,
 .aj [.slice (some ⟨19,0,some 1⟩) 1 1] 0 true 80,
 .aj [.slice (some ⟨19,0,some 1⟩) 1 1] 0 true 80,
 .map [(.string ⟨#[69]⟩,.int .i64 0),(.string ⟨#[78]⟩,.int .i64 1)],
 .map [(.agg #[.bool true,zE,.int .u64 281474976710656,zU,zU,zU,zE],.int .i64 2)],
 .aj [.string ⟨#[69]⟩,zE,.slice (some ⟨15,0,some 1⟩) 3 3,.slice (some ⟨22,0,some 0⟩) 1 1,zN,zN,zN,i64 4,i64 3,.slice (some ⟨77,0,some 5⟩) 6 6,.slice (some ⟨78,0,some 5⟩) 6 6,.slice (some ⟨35,0,some 3⟩) 4 4,zN,zN,zN,.map (some 23),.map (some 24),.slice (some ⟨45,0,some 0⟩) 1 1,.int .i64 (-1)] 0 true 94,
 .aj [.pointer (some ⟨25,0,some 0⟩)] 0 true 89,
 .aj [.string ⟨#[69]⟩,zE,.slice (some ⟨15,0,some 1⟩) 3 3,.slice (some ⟨22,0,some 0⟩) 1 1,zN,zN,zN] 0 true 28,
 .aj [.string ⟨#[69]⟩,zE,.slice (some ⟨15,0,some 1⟩) 3 3,.slice (some ⟨22,0,some 0⟩) 1 1,zN,zN,zN] 0 true 28,
 .map [(.string ⟨#[69]⟩,.int .i64 2),(.string ⟨#[78]⟩,.int .i64 1)],
 .aj [.string ⟨#[69]⟩,zE,.slice (some ⟨15,0,some 1⟩) 3 3,.slice (some ⟨22,0,some 0⟩) 1 1,zN,zN,zN,.slice (some ⟨32,0,some 1⟩) 2 2,.map (some 29)] 0 true 190,
 .aj [.bool false,.string ⟨#[69]⟩,.string ⟨#[65]⟩,.bool false,.slice (some ⟨16,0,some 1⟩) 3 3] 0 true 51,
 .aj [.string ⟨#[69]⟩,.string ⟨#[78]⟩] 1 true 9,
 .aj [.bool false,.string ⟨#[69]⟩,.string ⟨#[78]⟩,.bool false,.slice (some ⟨17,0,some 1⟩) 1 1] 0 true 51,
 .aj [.bool true,.string ⟨#[78]⟩,zE,.bool false,.slice (some ⟨18,0,some 1⟩) 1 1] 0 true 51,
 .aj [.string ⟨#[69]⟩,.string ⟨#[78]⟩,.string ⟨#[91,48,93,43]⟩,.string ⟨#[116,111,112]⟩] 3 true 9,
 .aj [.bool false,.string ⟨#[69]⟩,.string ⟨#[65]⟩,.bool false,.slice (some ⟨16,0,some 1⟩) 3 3] 0 true 51,
 .aj [i64 3,zE,zU,zU,zU,zU,.string ⟨#[69]⟩,zE] 0 true 56,
 .aj [i64 1,.string ⟨#[43]⟩,zU,zU,zU,zU,zE,zE] 0 true 56,
 .aj [i64 3,zE,zU,zU,zU,zU,.string ⟨#[69]⟩,zE] 0 true 56,
 .aj [.bool false,.string ⟨#[69]⟩,.string ⟨#[78]⟩,.bool false,.slice (some ⟨17,0,some 1⟩) 1 1] 0 true 51,
 .aj [i64 3,zE,zU,zU,zU,zU,.string ⟨#[78]⟩,zE] 0 true 56,
 .aj [.bool true,.string ⟨#[78]⟩,zE,.bool false,.slice (some ⟨18,0,some 1⟩) 1 1] 0 true 51,
 .aj [i64 6,zE,.int .u64 281474976710656,zU,zU,zU,zE,zE] 0 true 56,
 .aj [.bool true,zE,.int .u64 281474976710656,zU,zU,zU,zE] 0 true 154,
 .aj [.bool true,zE,.int .u64 281474976710656,zU,zU,zU,zE] 0 true 154,
 .aj [.pointer (some ⟨25,0,some 0⟩)] 0 true 89,
 .aj [.bool false,.string ⟨#[69]⟩,.string ⟨#[65]⟩,.bool false,.slice (some ⟨16,0,some 1⟩) 3 3] 0 true 51,
 .aj [.bool false,.string ⟨#[69]⟩,.string ⟨#[65]⟩,.bool false,.slice (some ⟨16,0,some 1⟩) 3 3] 0 true 51,
 .aj [i64 0,i64 0,i64 0,.slice (some ⟨58,0,some 2⟩) 3 3] 0 true 67,
 .aj [i64 3,zE,zU,zU,zU,zU,.string ⟨#[69]⟩,zE] 0 true 56,
 .aj [.bool false,.string ⟨#[69]⟩,.string ⟨#[65]⟩,.bool false,.slice (some ⟨16,0,some 1⟩) 3 3] 0 true 51,
 .aj [i64 3,zE,zU,zU,zU,zU,.string ⟨#[69]⟩,zE] 0 true 56,
 .aj [i64 0,zU,zU,zU,zU] 0 true 65,
 .aj [i64 0,zU,zU,zU,zU] 0 true 65,
 .aj [i64 0,zU,zU,zU,zU] 0 true 65,
 .aj [i64 0,zU,zU,zU,zU,.int .i64 (-1),.int .u64 8796093022208,zU,zU,zU,i64 0,zU,zU,zU,zU] 2 true 65,
 .aj [i64 0] 0 true 3,
 .aj [i64 0,i64 1,i64 2] 2 true 3,
 .aj [i64 1,.string ⟨#[43]⟩,zU,zU,zU,zU,zE,zE] 0 true 56,
 .aj [.bool false,.string ⟨#[69]⟩,.string ⟨#[65]⟩,.bool false,.slice (some ⟨16,0,some 1⟩) 3 3] 0 true 51,
 .aj [i64 1,.string ⟨#[43]⟩,zU,zU,zU,zU,zE,zE] 0 true 56,
 .aj [.int .u8 43] 0 true 5,
 .aj [.int .i64 (-1),.int .u64 8796093022208,zU,zU,zU] 0 true 65,
 .aj [.int .i64 (-1),.int .u64 8796093022208,zU,zU,zU] 0 true 65,
 .aj [.int .i64 (-1),.int .u64 8796093022208,zU,zU,zU] 0 true 65,
 .aj [.int .i64 (-1),.int .u64 8796093022208,zU,zU,zU] 0 true 65,
 .aj [i64 1] 0 true 3,
 .aj [i64 3,zE,zU,zU,zU,zU,.string ⟨#[69]⟩,zE] 0 true 56,
 .aj [.bool false,.string ⟨#[69]⟩,.string ⟨#[65]⟩,.bool false,.slice (some ⟨16,0,some 1⟩) 3 3] 0 true 51,
 .aj [i64 3,zE,zU,zU,zU,zU,.string ⟨#[69]⟩,zE] 0 true 56,
 .aj [i64 0,zU,zU,zU,zU] 0 true 65,
 .aj [i64 0,zU,zU,zU,zU] 0 true 65,
 .aj [i64 0,zU,zU,zU,zU] 0 true 65,
 .aj [i64 2] 0 true 3,
 .aj [i64 0,i64 0,i64 0,.slice (some ⟨58,0,some 2⟩) 3 3] 0 true 67,
 .aj [i64 0,.slice (some ⟨56,0,some 2⟩) 3 3] 0 true 63,
 .aj [i64 0,.slice (some ⟨56,0,some 2⟩) 3 3,i64 0,.slice (some ⟨88,0,some 0⟩) 1 1,i64 1,.slice (some ⟨100,0,some 0⟩) 1 1,i64 2,.slice (some ⟨105,0,some 0⟩) 1 1,i64 2,.slice (some ⟨106,0,some 1⟩) 2 2,i64 3,.slice (some ⟨109,0,some 0⟩) 1 1] 5 true 63,
 .aj [i64 0,i64 0,i64 0,.slice (some ⟨58,0,some 2⟩) 3 3,i64 0,i64 1,i64 0,.slice (some ⟨90,0,some 0⟩) 1 1,i64 0,i64 2,i64 0,.slice (some ⟨102,0,some 0⟩) 1 1,i64 1,i64 0,i64 0,zN,i64 2,i64 0,i64 0,zN,i64 5,i64 0,i64 0,zN] 5 true 67,
 .aj [.bool false,.string ⟨#[69]⟩,.string ⟨#[78]⟩,.bool false,.slice (some ⟨17,0,some 1⟩) 1 1] 0 true 51,
 .aj [.bool false,.string ⟨#[69]⟩,.string ⟨#[78]⟩,.bool false,.slice (some ⟨17,0,some 1⟩) 1 1] 0 true 51,
 .aj [i64 0,i64 1,i64 0,.slice (some ⟨90,0,some 0⟩) 1 1] 0 true 67,
 .aj [i64 3,zE,zU,zU,zU,zU,.string ⟨#[78]⟩,zE] 0 true 56,
 .aj [.bool false,.string ⟨#[69]⟩,.string ⟨#[78]⟩,.bool false,.slice (some ⟨17,0,some 1⟩) 1 1] 0 true 51,
 .aj [i64 3,zE,zU,zU,zU,zU,.string ⟨#[78]⟩,zE] 0 true 56,
 .aj [i64 1,zU,zU,zU,zU] 0 true 65,
 .aj [i64 1,zU,zU,zU,zU] 0 true 65,
 .aj [i64 1,zU,zU,zU,zU] 0 true 65,
 .aj [i64 1,zU,zU,zU,zU] 0 true 65,
 .aj [i64 0] 0 true 3,
 .aj [i64 0] 0 true 3,
 .aj [.bool true,.string ⟨#[78]⟩,zE,.bool false,.slice (some ⟨18,0,some 1⟩) 1 1] 0 true 51,
 .aj [.bool true,.string ⟨#[78]⟩,zE,.bool false,.slice (some ⟨18,0,some 1⟩) 1 1] 0 true 51,
 .aj [i64 0,i64 2,i64 0,.slice (some ⟨102,0,some 0⟩) 1 1] 0 true 67,
 .aj [i64 6,zE,.int .u64 281474976710656,zU,zU,zU,zE,zE] 0 true 56,
 .aj [.bool true,.string ⟨#[78]⟩,zE,.bool false,.slice (some ⟨18,0,some 1⟩) 1 1] 0 true 51,
 .aj [i64 6,zE,.int .u64 281474976710656,zU,zU,zU,zE,zE] 0 true 56,
 .aj [i64 2,zU,zU,zU,zU] 0 true 65,
 .aj [i64 2,zU,zU,zU,zU] 0 true 65,
 .aj [i64 2,zU,zU,zU,zU] 0 true 65,
 .aj [i64 2,zU,zU,zU,zU] 0 true 65,
 .aj [i64 0] 0 true 3,
 .aj [i64 0] 0 true 3,
 .aj [.bool true,zE,.int .u64 281474976710656,zU,zU,zU,zE] 0 true 154,
 .aj [.int .i64 (-1),.int .u64 281474976710656,zU,zU,zU] 0 true 65,
 .aj [.int .i64 (-1),.int .u64 281474976710656,zU,zU,zU] 0 true 65,
 .aj [i64 2,zU,zU,zU,zU,.int .i64 (-1),.int .u64 281474976710656,zU,zU,zU] 1 true 65,
 .aj [.slice (some ⟨106,0,some 0⟩) 1 1] 0 true 61,
 .aj [i64 0,zU,zU,zU,zU] 0 true 65,
 .aj [i64 0,zU,zU,zU,zU] 0 true 65]
def T0:ah:=[.aj [.string ⟨#[69]⟩,zE,.slice (some ⟨7,0,some 0⟩) 3 3,.slice (some ⟨10,0,some 0⟩) 1 1,zN,zN,zN] 0 true 28,
 .aj [i64 3,zE,zU,zU,zU,zU,.string ⟨#[69]⟩,zE] 0 true 56,
 .aj [i64 3,zE,zU,zU,zU,zU,.string ⟨#[78]⟩,zE] 0 true 56,
 .aj [i64 1,.string ⟨#[43]⟩,zU,zU,zU,zU,zE,zE] 0 true 56,
 .aj [i64 3,zE,zU,zU,zU,zU,.string ⟨#[69]⟩,zE,i64 1,.string ⟨#[43]⟩,zU,zU,zU,zU,zE,zE,i64 3,zE,zU,zU,zU,zU,.string ⟨#[69]⟩,zE] 0 true 56,
 .aj [i64 3,zE,zU,zU,zU,zU,.string ⟨#[78]⟩,zE] 0 true 56,
 .aj [i64 6,zE,.int .u64 281474976710656,zU,zU,zU,zE,zE] 0 true 56,
 .aj [.bool false,.string ⟨#[69]⟩,.string ⟨#[65]⟩,.bool false,.slice (some ⟨4,0,some 0⟩) 3 3,.bool false,.string ⟨#[69]⟩,.string ⟨#[78]⟩,.bool false,.slice (some ⟨5,0,some 0⟩) 1 1,.bool true,.string ⟨#[78]⟩,zE,.bool false,.slice (some ⟨6,0,some 0⟩) 1 1] 0 true 51,
 .aj [.string ⟨#[65]⟩] 0 true 9,
 .aj [i64 1,.slice (some ⟨8,0,some 0⟩) 1 1] 0 true 82,
 .aj [.slice (some ⟨9,0,some 0⟩) 1 1] 0 true 80,
 .aj [.string ⟨#[69]⟩,zE,.slice (some ⟨7,0,some 0⟩) 3 3,.slice (some ⟨10,0,some 0⟩) 1 1,zN,zN,zN] 0 true 28,
 .aj [zE,zE,zN,zN,zN,zN,zN,i64 0,i64 0,zN,zN,zN,zN,zN,zN] 0 true 43,
 .aj [.string ⟨#[69]⟩,zE,.slice (some ⟨15,0,some 1⟩) 3 3,.slice (some ⟨22,0,some 0⟩) 1 1,zN,zN,zN] 0 true 28,
 .aj [.string ⟨#[69]⟩,zE,.slice (some ⟨15,0,some 1⟩) 3 3,.slice (some ⟨22,0,some 0⟩) 1 1,zN,zN,zN] 0 true 28,
 .aj [.bool false,.string ⟨#[69]⟩,.string ⟨#[65]⟩,.bool false,.slice (some ⟨16,0,some 1⟩) 3 3,.bool false,.string ⟨#[69]⟩,.string ⟨#[78]⟩,.bool false,.slice (some ⟨17,0,some 1⟩) 1 1,.bool true,.string ⟨#[78]⟩,zE,.bool false,.slice (some ⟨18,0,some 1⟩) 1 1] 1 true 51,
 .aj [i64 3,zE,zU,zU,zU,zU,.string ⟨#[69]⟩,zE,i64 1,.string ⟨#[43]⟩,zU,zU,zU,zU,zE,zE,i64 3,zE,zU,zU,zU,zU,.string ⟨#[69]⟩,zE] 1 true 56,
 .aj [i64 3,zE,zU,zU,zU,zU,.string ⟨#[78]⟩,zE] 1 true 56,
 .aj [i64 6,zE,.int .u64 281474976710656,zU,zU,zU,zE,zE] 1 true 56,
 .aj [i64 1,.slice (some ⟨20,0,some 1⟩) 1 1] 1 true 82,
 .aj [.string ⟨#[65]⟩] 1 true 9,
 .aj [.slice (some ⟨19,0,some 1⟩) 1 1] 0 true 80,
 .aj [.slice (some ⟨19,0,some 1⟩) 1 1] 0 true 80,
 .map [(.string ⟨#[69]⟩,.int .i64 0),(.string ⟨#[78]⟩,.int .i64 1)],
 .map [(.agg #[.bool true,zE,.int .u64 281474976710656,zU,zU,zU,zE],.int .i64 2)],
 .aj [.string ⟨#[69]⟩,zE,.slice (some ⟨15,0,some 1⟩) 3 3,.slice (some ⟨22,0,some 0⟩) 1 1,zN,zN,zN,i64 4,i64 3,.slice (some ⟨77,0,some 5⟩) 6 6,.slice (some ⟨78,0,some 5⟩) 6 6,.slice (some ⟨35,0,some 3⟩) 4 4,.slice (some ⟨112,0,some 0⟩) 1 1,.slice (some ⟨113,0,some 0⟩) 4 4,.slice (some ⟨114,0,some 0⟩) 4 4,.map (some 23),.map (some 24),.slice (some ⟨45,0,some 0⟩) 1 1,.int .i64 (-1)] 0 true 94,
 .aj [.pointer (some ⟨25,0,some 0⟩)] 0 true 89,
 .aj [.string ⟨#[69]⟩,zE,.slice (some ⟨15,0,some 1⟩) 3 3,.slice (some ⟨22,0,some 0⟩) 1 1,zN,zN,zN] 0 true 28,
 .aj [.string ⟨#[69]⟩,zE,.slice (some ⟨15,0,some 1⟩) 3 3,.slice (some ⟨22,0,some 0⟩) 1 1,zN,zN,zN] 0 true 28,
 .map [(.string ⟨#[69]⟩,.int .i64 2),(.string ⟨#[78]⟩,.int .i64 1)],
 .aj [.string ⟨#[69]⟩,zE,.slice (some ⟨15,0,some 1⟩) 3 3,.slice (some ⟨22,0,some 0⟩) 1 1,zN,zN,zN,.slice (some ⟨32,0,some 1⟩) 2 2,.map (some 29)] 0 true 190,
 .aj [.bool false,.string ⟨#[69]⟩,.string ⟨#[65]⟩,.bool false,.slice (some ⟨16,0,some 1⟩) 3 3] 0 true 51,
 .aj [.string ⟨#[69]⟩,.string ⟨#[78]⟩] 1 true 9,
 .aj [.bool false,.string ⟨#[69]⟩,.string ⟨#[78]⟩,.bool false,.slice (some ⟨17,0,some 1⟩) 1 1] 0 true 51,
 .aj [.bool true,.string ⟨#[78]⟩,zE,.bool false,.slice (some ⟨18,0,some 1⟩) 1 1] 0 true 51,
 .aj [.string ⟨#[69]⟩,.string ⟨#[78]⟩,.string ⟨#[91,48,93,43]⟩,.string ⟨#[116,111,112]⟩] 3 true 9,
 .aj [.bool false,.string ⟨#[69]⟩,.string ⟨#[65]⟩,.bool false,.slice (some ⟨16,0,some 1⟩) 3 3] 0 true 51,
 .aj [i64 3,zE,zU,zU,zU,zU,.string ⟨#[69]⟩,zE] 0 true 56,
 .aj [i64 1,.string ⟨#[43]⟩,zU,zU,zU,zU,zE,zE] 0 true 56,
 .aj [i64 3,zE,zU,zU,zU,zU,.string ⟨#[69]⟩,zE] 0 true 56,
 .aj [.bool false,.string ⟨#[69]⟩,.string ⟨#[78]⟩,.bool false,.slice (some ⟨17,0,some 1⟩) 1 1] 0 true 51,
 .aj [i64 3,zE,zU,zU,zU,zU,.string ⟨#[78]⟩,zE] 0 true 56,
 .aj [.bool true,.string ⟨#[78]⟩,zE,.bool false,.slice (some ⟨18,0,some 1⟩) 1 1] 0 true 51,
 .aj [i64 6,zE,.int .u64 281474976710656,zU,zU,zU,zE,zE] 0 true 56,
 .aj [.bool true,zE,.int .u64 281474976710656,zU,zU,zU,zE] 0 true 154,
 .aj [.bool true,zE,.int .u64 281474976710656,zU,zU,zU,zE] 0 true 154,
 .aj [.pointer (some ⟨25,0,some 0⟩)] 0 true 89,
 .aj [.bool false,.string ⟨#[69]⟩,.string ⟨#[65]⟩,.bool false,.slice (some ⟨16,0,some 1⟩) 3 3] 0 true 51,
 .aj [.bool false,.string ⟨#[69]⟩,.string ⟨#[65]⟩,.bool false,.slice (some ⟨16,0,some 1⟩) 3 3] 0 true 51,
 .aj [i64 0,i64 0,i64 0,.slice (some ⟨58,0,some 2⟩) 3 3] 0 true 67,
 .aj [i64 3,zE,zU,zU,zU,zU,.string ⟨#[69]⟩,zE] 0 true 56,
 .aj [.bool false,.string ⟨#[69]⟩,.string ⟨#[65]⟩,.bool false,.slice (some ⟨16,0,some 1⟩) 3 3] 0 true 51,
 .aj [i64 3,zE,zU,zU,zU,zU,.string ⟨#[69]⟩,zE] 0 true 56,
 .aj [i64 0,zU,zU,zU,zU] 0 true 65,
 .aj [i64 0,zU,zU,zU,zU] 0 true 65,
 .aj [i64 0,zU,zU,zU,zU] 0 true 65,
 .aj [i64 0,zU,zU,zU,zU,.int .i64 (-1),.int .u64 8796093022208,zU,zU,zU,i64 0,zU,zU,zU,zU] 2 true 65,
 .aj [i64 0] 0 true 3,
 .aj [i64 0,i64 1,i64 2] 2 true 3,
 .aj [i64 1,.string ⟨#[43]⟩,zU,zU,zU,zU,zE,zE] 0 true 56,
 .aj [.bool false,.string ⟨#[69]⟩,.string ⟨#[65]⟩,.bool false,.slice (some ⟨16,0,some 1⟩) 3 3] 0 true 51,
 .aj [i64 1,.string ⟨#[43]⟩,zU,zU,zU,zU,zE,zE] 0 true 56,
 .aj [.int .u8 43] 0 true 5,
 .aj [.int .i64 (-1),.int .u64 8796093022208,zU,zU,zU] 0 true 65,
 .aj [.int .i64 (-1),.int .u64 8796093022208,zU,zU,zU] 0 true 65,
 .aj [.int .i64 (-1),.int .u64 8796093022208,zU,zU,zU] 0 true 65,
 .aj [.int .i64 (-1),.int .u64 8796093022208,zU,zU,zU] 0 true 65,
 .aj [i64 1] 0 true 3,
 .aj [i64 3,zE,zU,zU,zU,zU,.string ⟨#[69]⟩,zE] 0 true 56,
 .aj [.bool false,.string ⟨#[69]⟩,.string ⟨#[65]⟩,.bool false,.slice (some ⟨16,0,some 1⟩) 3 3] 0 true 51,
 .aj [i64 3,zE,zU,zU,zU,zU,.string ⟨#[69]⟩,zE] 0 true 56,
 .aj [i64 0,zU,zU,zU,zU] 0 true 65,
 .aj [i64 0,zU,zU,zU,zU] 0 true 65,
 .aj [i64 0,zU,zU,zU,zU] 0 true 65,
 .aj [i64 2] 0 true 3,
 .aj [i64 0,i64 0,i64 0,.slice (some ⟨58,0,some 2⟩) 3 3] 0 true 67,
 .aj [i64 0,.slice (some ⟨56,0,some 2⟩) 3 3] 0 true 63,
 .aj [i64 0,.slice (some ⟨56,0,some 2⟩) 3 3,i64 0,.slice (some ⟨88,0,some 0⟩) 1 1,i64 1,.slice (some ⟨100,0,some 0⟩) 1 1,i64 2,.slice (some ⟨105,0,some 0⟩) 1 1,i64 2,.slice (some ⟨106,0,some 1⟩) 2 2,i64 3,.slice (some ⟨109,0,some 0⟩) 1 1] 5 true 63,
 .aj [i64 0,i64 0,i64 0,.slice (some ⟨58,0,some 2⟩) 3 3,i64 0,i64 1,i64 0,.slice (some ⟨90,0,some 0⟩) 1 1,i64 0,i64 2,i64 0,.slice (some ⟨102,0,some 0⟩) 1 1,i64 1,i64 0,i64 0,zN,i64 2,i64 0,i64 0,zN,i64 5,i64 0,i64 0,zN] 5 true 67,
 .aj [.bool false,.string ⟨#[69]⟩,.string ⟨#[78]⟩,.bool false,.slice (some ⟨17,0,some 1⟩) 1 1] 0 true 51,
 .aj [.bool false,.string ⟨#[69]⟩,.string ⟨#[78]⟩,.bool false,.slice (some ⟨17,0,some 1⟩) 1 1] 0 true 51,
 .aj [i64 0,i64 1,i64 0,.slice (some ⟨90,0,some 0⟩) 1 1] 0 true 67,
 .aj [i64 3,zE,zU,zU,zU,zU,.string ⟨#[78]⟩,zE] 0 true 56,
 .aj [.bool false,.string ⟨#[69]⟩,.string ⟨#[78]⟩,.bool false,.slice (some ⟨17,0,some 1⟩) 1 1] 0 true 51,
 .aj [i64 3,zE,zU,zU,zU,zU,.string ⟨#[78]⟩,zE] 0 true 56,
 .aj [i64 1,zU,zU,zU,zU] 0 true 65,
 .aj [i64 1,zU,zU,zU,zU] 0 true 65,
 .aj [i64 1,zU,zU,zU,zU] 0 true 65,
 .aj [i64 1,zU,zU,zU,zU] 0 true 65,
 .aj [i64 0] 0 true 3,
 .aj [i64 0] 0 true 3,
 .aj [.bool true,.string ⟨#[78]⟩,zE,.bool false,.slice (some ⟨18,0,some 1⟩) 1 1] 0 true 51,
 .aj [.bool true,.string ⟨#[78]⟩,zE,.bool false,.slice (some ⟨18,0,some 1⟩) 1 1] 0 true 51,
 .aj [i64 0,i64 2,i64 0,.slice (some ⟨102,0,some 0⟩) 1 1] 0 true 67,
 .aj [i64 6,zE,.int .u64 281474976710656,zU,zU,zU,zE,zE] 0 true 56,
 .aj [.bool true,.string ⟨#[78]⟩,zE,.bool false,.slice (some ⟨18,0,some 1⟩) 1 1] 0 true 51,
 .aj [i64 6,zE,.int .u64 281474976710656,zU,zU,zU,zE,zE] 0 true 56,
 .aj [i64 2,zU,zU,zU,zU] 0 true 65,
 .aj [i64 2,zU,zU,zU,zU] 0 true 65,
 .aj [i64 2,zU,zU,zU,zU] 0 true 65,
 .aj [i64 2,zU,zU,zU,zU] 0 true 65,
 .aj [i64 0] 0 true 3,
 .aj [i64 0] 0 true 3,
 .aj [.bool true,zE,.int .u64 281474976710656,zU,zU,zU,zE] 0 true 154,
 .aj [.int .i64 (-1),.int .u64 281474976710656,zU,zU,zU] 0 true 65,
 .aj [.int .i64 (-1),.int .u64 281474976710656,zU,zU,zU] 0 true 65,
 .aj [i64 2,zU,zU,zU,zU,.int .i64 (-1),.int .u64 281474976710656,zU,zU,zU] 1 true 65,
 .aj [.slice (some ⟨106,0,some 0⟩) 1 1] 0 true 61,
 .aj [i64 0,zU,zU,zU,zU] 0 true 65,
 .aj [i64 0,zU,zU,zU,zU] 0 true 65,
 .map [(.agg #[i64 0,i64 2,i64 0],.int .i64 1)],
 .aj [i64 0,i64 2,i64 0] 0 true 70,
 .aj [i64 0,i64 2,i64 0] 0 true 70,
 .aj [zU,zU,zU,zU,zU,zU,zU,zU,zU,zU,zU,zU,zU,zU,zU,zU] 0 true 54,
 .aj [.int .i64 (-1),.int .i64 (-1),.int .i64 (-1),.int .i64 (-1)] 0 true 3]
def KP:Value:=.tuple #[]
def rH:Ea:=⟨31,[TK],Ry,.tuple #[i64 0,zE],Ry⟩
def nA:Ea:=⟨32,[TK],Ry,TV,TP⟩
def D7:Ea:=⟨33,[RY],TX,KP,TC⟩
def rj:Ea:=⟨34,[RY],TC,KP,TD⟩
def kV:Ea:=⟨35,[RY],TD,KP,T0⟩
theorem F2:yT rH (nu env (fun _=>true) 400 20 rH.f rH.args rH.h)=true:=by kernel_rfl
theorem Eh:yT nA (nu env (fun _=>true) 400 20 nA.f nA.args nA.h)=true:=by kernel_rfl
theorem QT:yT D7 (nu env (fun _=>true) 400 20 D7.f D7.args D7.h)=true:=by kernel_rfl
theorem Ia:yT rj (nu env (fun _=>true) 400 20 rj.f rj.args rj.h)=true:=by kernel_rfl
theorem Bi:yT kV (nu env (fun _=>true) 400 20 kV.f kV.args kV.h)=true:=by kernel_rfl
def Mc:List Ea:=[rH,nA,D7,rj,kV]
theorem F6:∀ m∈Mc,EU env m:=by{
intro m hm
simp only[Mc,List.mem_cons,List.not_mem_nil,or_false] at hm
have hC:=kK (N:=env) mixed zS (fuel:=400) 20
rcases hm with rfl|rfl|rfl|rfl|rfl
·exact rL hC F2
·exact rL hC Eh
·exact rL hC QT
·exact rL hC Ia
·exact rL hC Bi}
noncomputable def RT:=xx (nu env (fun _=>true) 400 20) Mc
noncomputable def SM:=CN env (fun _=>true) 400 RT
noncomputable def PC:=CN env (fun _=>true) 400 SM
theorem s9:((PC 13 [] []).map fun p=>p.1)=some (.bool true):=by kernel_rfl
end Go.Proofs.YtmdmimkbpikmoaaGreat.Run5
namespace Go.Proofs.YtmdmimkbpikmoaaGreat
open Go.RowKit Am Ty
theorem jE {h:ah}:FW env 13 [] h fun r h'=>r = .bool true∧h'=h:=by{
have h1:=Run5.s9
cases hc:Run5.PC 13 [] [] with
| none=>rw[hc] at h1;cases h1
| some p=>
  obtain⟨r,h'⟩:=p
  rw[hc] at h1
  simp only[Option.map_some,Option.some.injEq] at h1
  subst h1
  have h2:=(lW mixed zS (lW mixed zS (xO (kK (N:=env) mixed zS (fuel:=400) 20) Run5.F6)) _ _ _ _ _ hc).2
  unfold FW
  exact⟨_,_,.fresh h2 (.be rfl),rfl,rfl⟩}
end Go.Proofs.YtmdmimkbpikmoaaGreat
namespace Go.Proofs.YtmdmimkbpikmoaaGreat
set_option maxRecDepth 20000
open Go.RowKit Am Ty
theorem dA {all:Array Oper} {o:Oper} {s:St} {c:Call} {f:FuncId} {cap args:List Value} {fn:Func} {v:Value} {h':ah} (hw:aE all o s=some true) (ho:o.op = .call c) (hc:fi s c.callee=some (f,cap)) (ha:sQ s c.args.toList=some args)
 (hf:env.P.funcs[f]? = some fn) (hnm:(fn.name == "runtime.NumGoroutine")=false) (hb:fn.body.isNone=false) (k:Ev env (.call f (args++cap) s.h v h')):One env all o s (.sl (.val v)) h':=.call hw ho hc ha hf hnm hb k
section
variable {h:ah} {v:Value} {fr:List gD} {l:List ByteArray} {b:ByteArray} {p:Int}
end
structure IN {α:Type} (f:α→Value→List Value) (R:ah→Value→α→Prop) (et:TypeId) (h hk:ah) (id au:Nat) (l:List α) (us W:List Value) (k:Nat):Prop where
 p:h <+: hk
 n:W.length=l.length
 o:hk[id]? = some (.aj ((l.zip W).flatMap fun p=>f p.1 p.2) au true et)
 d:∀ (i:Nat) (hi:i<l.length),i<k→∃ u,W[i]? = some u∧Fr (fun x=>R x u l[i]) (id+1) hk
 r:∀ i,k≤i→W[i]? = us[i]?
section
variable {α:Type} {f:α→Value→List Value} {R:ah→Value→α→Prop} {et:TypeId} {h hk h5:ah} {id au:Nat} {l:List α} {us W:List Value} {k:Nat}
theorem IN.step {r:Value} (I:IN f R et h hk id au l us W k) (hlt:k<l.length) (hid:h.length≤id) (hp5:hk <+: h5) (hF:Fr (fun x=>R x r l[k]) hk.length h5) : IN f R et h (h5.set id (.aj ((l.zip (W.set k r)).flatMap fun p=>f p.1 p.2) au true et)) id au l us (W.set k r) (k+1):=by{
have hlen1:=cX I.o
have hA5:jN (id+1) hk (h5.set id (.aj ((l.zip (W.set k r)).flatMap fun p=>f p.1 p.2) au true et)):=(jN.pre hp5).trans (jN.set om)
refine⟨aY (I.p.trans hp5) hid,by rw[List.length_set];exact I.n,aw (ag hp5 I.o),fun i hi h2=>?_,fun i hi=>?_⟩
·rcases (by omega:i<k∨i=k) with h4|rfl
 ·obtain⟨u,hu1,hu2⟩:=I.d i hi h4
  exact⟨u,by rw[List.getElem?_set_ne om];exact hu1,hu2.mono hA5⟩
 ·refine⟨_,List.getElem?_set_self (by rw[I.n];exact hlt),(hF.mono ?_).low om⟩
  exact jN.set om
·rw[List.getElem?_set_ne om]
 exact I.r i om}
theorem IN.fin {b c:Nat} (I:IN f R et h hk id au l us W l.length) (hb:l.length*b≤140737488355328):Fr (fun x=>cT f R et b x (.slice (some ⟨id,0,some au⟩) l.length c) l) id hk:=by{
refine fun x e=>⟨W,I.n,⟨hb,.inr ⟨id,au,true,_,rfl,e _ _ (Nat.le_refl _) I.o⟩⟩,fun i y u h1 h2=>?_⟩
obtain⟨hi,rfl⟩:=List.getElem?_eq_some_iff.1 h1
obtain⟨u',hu1,hu2⟩:=I.d i hi hi
rw[hu1] at h2
cases h2
exact hu2 x (e.low om)}
end
theorem kW {all:Array Oper} {o:Oper} {r:List Oper} {s:St} {K:St→Prop} {x:Operand} {t y:Nat} {e:TypeId} {ti:TI} {v:Value} {cs cells:List Value} {n:Nat} {h:ah} (hw:aE all o s=some true) (ho:o.op = .call { callee:=.builtin .append,args:=#[x,.tmp y],argTypes:=#[t,t] }) (hu:env.P.underlying t=some (.slice e)) (ht:ar env.P e=some ti) (hs0:0<ti.size) (hz:(ti.zero.map fun z=>z.cells.size)=some ti.size) (hx:ev s x=some v) (hy:aS s.fr y = .nj cs 1) (G:aK h s.h v n cells e) (hp:h <+: s.h) (hl:cells.length=n*ti.size) (hc:cs.length=ti.size) (hb:(n+1)*ti.bytes≤140737488355328) (hn:n+1≤140737488355328) (k:∀ p c h',aK h h' (.slice p (n+1) c) (n+1) (cells++cs) e→h <+: h'→(∀ j o,bX v j=false→s.h[j]? = some o→h'[j]? = some o)→(∀ x,bX (.slice p (n+1) c) x=true→bX v x=true∨x=s.h.length)→OW env all r ({ s with h:=h' }.aX o.dst (.val (.slice p (n+1) c))) K):OW env all (o :: r) s K:=by{
have hi:ct s s.h ti.size (.tmp y)=some (cs,1):=by simp only[ct,hy,hc,Nat.one_mul,if_true]
rcases G with ⟨rfl,rfl,rfl⟩ | ⟨id,au,h1,rfl,h3⟩
·refine mX hw ho hu ht hs0 hz hx hi (by decide) (by simpa using hb) (by decide) ?_
 exact k (some ⟨s.h.length,0,some 0⟩) 1 _ (.inr ⟨s.h.length,0,hp.length_le,rfl,by simp⟩) (cS hp) (fun j o _ h=>bo h) (fun x hx=>by
  simp only[bX,beq_iff_eq] at hx
  exact .inr hx.symm)
·refine oC hw ho hu ht hs0 hz hx h3 om hi hb hn ?_
 rw[List.take_of_length_le om]
 refine k (some ⟨id,0,some (au+1)⟩) (n+1) _ (.inr ⟨id,au+1,h1,rfl,aw h3⟩) (aY hp h1) (fun j o hj h=>?_) (fun x hx=>?_)
 ·simp only[bX,beq_eq_false_iff_ne] at hj
  rw[aD hj]
  exact h
 ·simp only[bX] at hx ⊢
  exact .inl hx}
theorem AM {all:Array Oper} {o:Oper} {s:St} {h h':ah} {t et:TypeId} {a x:Operand} {ti:TI} {id off au:Nat} {cells vs cells':List Value} {v:Value} {r:fW} (hh:s.h=h) (hw:aE all o s=some true) (ho:o.op = .store t a x) (ht:ar env.P t=some ti) (ha:ev s a=some (.pointer (some ⟨id,off,some au⟩))) (hid:h[id]? = some (.aj cells au true et)) (hx:ev s x=some v) (hv:dQ ti.size v=some vs)
 (hq:lj cells off vs=some cells') (hd:o.dst=none) (he:h'=h.set id (av.aj cells' au true et)):One env all o s r h':=by
 subst hh he
 exact .jn hw ho ht ha hid hx hv hq hd
abbrev Ir:Prod→Value→List Value:=fun p u=>[.bool p.lex,.string p.sort,.string p.cons,.bool p.bracket,u]
abbrev PJ:dT→Value→List Value:=fun p u=>[i64 p.assoc,u]
abbrev Gl:I0→Value→List Value:=fun p u=>[.string p.cons,u]
def ko (d:b7) (vP vC vF vR vB:Value):List Value:=[.string d.start,.string d.layout,vP,vC,vF,vR,vB]
abbrev ZD:List Value:=[.string ⟨#[]⟩,.string ⟨#[]⟩,bD,bD,bD,bD,bD]
structure TA (h hk:ah) (v:Value) (l:List (List dT)) (vs:List Value) (k:Nat):Prop where
 p:h <+: hk
 n:vs.length=k
 g:aK h hk v k vs 80
 e:∀ (i:Nat) (hi:i<l.length),i<k→∃ u,vs[i]? = some u∧∀ x:ah,(∀ j o,h.length≤j→bX v j=false→hk[j]? = some o→x[j]? = some o)→eR x u l[i]
theorem xc:∀ {α:Type} {l:List α} {W:List Value},W.length=l.length→((l.zip W).flatMap fun p=>[p.2])=W
 | _,[],[],_=>rfl
 | _,x :: l,w :: W,h=>by
   rw[List.zip_cons_cons,List.flatMap_cons,xc (by simpa using h)]
   rfl
section
variable {h:ah} {d:b7} {up uc uf ur ub:Value}
theorem AU (hd:bK h d up uc uf ur ub):FW env 32 [.agg (d.val up uc uf ur ub).toArray] h fun r h'=>h <+: h'∧∃ vp vc vf vr vb,r = .agg (d.val vp vc vf vr vb).toArray∧Fr (fun x=>bK x d vp vc vf vr vb) h.length h':=by{
obtain⟨p1,c1,p2,c2,p3,c3,p4,c4,p5,c5,rfl,rfl,rfl,rfl,rfl,l1,l2,l3,l4,l5⟩:=bK.form hd
obtain⟨UP,hUPn,hUPs,hUPr⟩:=id hd.aa
obtain⟨UB,hUBn,hUBs,hUBr⟩:=id hd.boxes
have hcP:((d.aa.zip UP).flatMap fun p=>Ir p.1 p.2).length=d.aa.length*5:=by rw[dv (f:=fun p:Prod×Value=>Ir p.1 p.2) (k:=5) (fun _=>rfl),List.length_zip,hUPn,Nat.min_self]
have hcB:((d.boxes.zip UB).flatMap fun p=>Gl p.1 p.2).length=d.boxes.length*2:=by rw[dv (f:=fun p:I0×Value=>Gl p.1 p.2) (k:=2) (fun _=>rfl),List.length_zip,hUBn,Nat.min_self]
have hbP:d.aa.length*72≤140737488355328:=cT.le hd.aa
have hbB:d.boxes.length*40≤140737488355328:=cT.le hd.boxes
have hbC:d.ax.length*24≤140737488355328:=cT.le hd.ax
refine fe Tryz.func32 ?_;simp only[push_cast]
unfold b7.val
refine zu ?_
refine dw (t:=28) (cs:=ko d (.slice p1 d.aa.length c1) (.slice p2 d.ax.length c2) (.slice p3 d.follows.length c3) (.slice p4 d.an.length c4) (.slice p5 d.boxes.length c5)) ak kr ?_
dsimp only[St.aX,St.put]
have hp1:h <+: h++[av.aj (ko d (.slice p1 d.aa.length c1) (.slice p2 d.ax.length c2) (.slice p3 d.follows.length c3) (.slice p4 d.an.length c4) (.slice p5 d.boxes.length c5)) 0 true 28]:=aI
have hx1:(h++[av.aj (ko d (.slice p1 d.aa.length c1) (.slice p2 d.ax.length c2) (.slice p3 d.follows.length c3) (.slice p4 d.an.length c4) (.slice p5 d.boxes.length c5)) 0 true 28])[h.length]? = some (.aj (ko d (.slice p1 d.aa.length c1) (.slice p2 d.ax.length c2) (.slice p3 d.follows.length c3) (.slice p4 d.an.length c4) (.slice p5 d.boxes.length c5)) 0 true 28):=aJ
have hl1':(h++[av.aj (ko d (.slice p1 d.aa.length c1) (.slice p2 d.ax.length c2) (.slice p3 d.follows.length c3) (.slice p4 d.an.length c4) (.slice p5 d.boxes.length c5)) 0 true 28]).length=h.length+1:=by simp
generalize (h++[av.aj (ko d (.slice p1 d.aa.length c1) (.slice p2 d.ax.length c2) (.slice p3 d.follows.length c3) (.slice p4 d.an.length c4) (.slice p5 d.boxes.length c5)) 0 true 28])=h1 at hp1 hx1 hl1' ⊢
unfold ko at hx1
refine aG hx1 ?_
refine zj Tryz.func82 ?_
refine (AL (hUPs.mono hp1) hcP).mono ?_
rintro _ h2 ⟨hp2,hGP⟩
obtain⟨qP,cP,rfl⟩:=hGP.form
have hx2:=ag hp2 hx1
refine aB ?_
refine ch (cells':=ko d (.slice qP d.aa.length cP) (.slice p2 d.ax.length c2) (.slice p3 d.follows.length c3) (.slice p4 d.an.length c4) (.slice p5 d.boxes.length c5)) ak rfl rfl rfl ak hx2 ak rfl rfl ?_
dsimp only
have hx3:(h2.set h.length (.aj (ko d (.slice qP d.aa.length cP) (.slice p2 d.ax.length c2) (.slice p3 d.follows.length c3) (.slice p4 d.an.length c4) (.slice p5 d.boxes.length c5)) 0 true 28))[h.length]? = some (.aj (ko d (.slice qP d.aa.length cP) (.slice p2 d.ax.length c2) (.slice p3 d.follows.length c3) (.slice p4 d.an.length c4) (.slice p5 d.boxes.length c5)) 0 true 28):=aw hx2
have hp3:h <+: h2.set h.length (.aj (ko d (.slice qP d.aa.length cP) (.slice p2 d.ax.length c2) (.slice p3 d.follows.length c3) (.slice p4 d.an.length c4) (.slice p5 d.boxes.length c5)) 0 true 28):=aY (hp1.trans hp2) (Nat.le_refl _)
have hGP3:aK h1 (h2.set h.length (.aj (ko d (.slice qP d.aa.length cP) (.slice p2 d.ax.length c2) (.slice p3 d.follows.length c3) (.slice p4 d.an.length c4) (.slice p5 d.boxes.length c5)) 0 true 28)) (.slice qP d.aa.length cP) d.aa.length ((d.aa.zip UP).flatMap fun p=>Ir p.1 p.2) 51:=hGP.mono fun j o hj ho=>by
 have:=(hGP.lt hj).1
 rw[aD om]
 exact ho
generalize (h2.set h.length (.aj (ko d (.slice qP d.aa.length cP) (.slice p2 d.ax.length c2) (.slice p3 d.follows.length c3) (.slice p4 d.an.length c4) (.slice p5 d.boxes.length c5)) 0 true 28))=h3 at hx3 hp3 hGP3 ⊢
clear hGP hx2 hp2
unfold ko at hx3
refine aG hx3 ?_
refine CW.mono (Q:=fun e s'=>e = .exit 0∧∃ hk,h <+: hk∧hk[h.length]? = some (.aj (ko d (.slice qP d.aa.length cP) (.slice p2 d.ax.length c2) (.slice p3 d.follows.length c3) (.slice p4 d.an.length c4) (.slice p5 d.boxes.length c5)) 0 true 28)∧Fr (fun x=>eP x (.slice qP d.aa.length cP) d.aa) (h.length+1) hk∧s'.h=hk∧bB [(1,.val (.pointer (some ⟨h.length,0,some 0⟩))),(2,.box ZD)] s'.fr) ?_ ?_
·by_cases hz:d.aa.length=0
 ·refine df d.aa.length (fun k=>[(1,.val (.pointer (some ⟨h.length,0,some 0⟩))),(2,.box ZD),(15,.val (i64 d.aa.length)),(16,.val (i64 k))]) (fun _=>h3) (fun _=>True) aO rfl trivial ?_
  intro k hkn _
  have hlt:¬ k<d.aa.length:=by omega
  have e3:=aT hlt
  refine aG e3 ?_
  refine ae rfl ?_
  refine aC ?_
  refine⟨rfl,h3,hp3,hx3,fun x e=>⟨UP,hUPn,(hGP3.fr (b:=72) hbP) x (by rw[hl1'];exact e),fun i y u h1 h2=>?_⟩,rfl,aO⟩
  have:=(List.getElem?_eq_some_iff.1 h1).1
  omega
 obtain⟨id,au,hid,hv,hob⟩:=hGP3.vV om
 cases hv
 refine a9 d.aa.length (fun k (x:ah×List Value)=>[(1,.val (.pointer (some ⟨h.length,0,some 0⟩))),(2,.box ZD),(15,.val (i64 d.aa.length)),(16,.val (i64 k))]) (fun _ x=>x.1) (fun k x=>IN Ir (fun h u p=>fV h u p.al) 51 h x.1 id au d.aa UP x.2 k∧x.1[h.length]? = some (.aj (ko d (.slice (some ⟨id,0,some au⟩) d.aa.length d.aa.length) (.slice p2 d.ax.length c2) (.slice p3 d.follows.length c3) (.slice p4 d.an.length c4) (.slice p5 d.boxes.length c5)) 0 true 28)) (h3,UP) aO rfl ⟨⟨hp3,hUPn,hob,fun i hi h=>absurd h om,fun i _=>rfl⟩,hx3⟩ ?_
 rintro k ⟨hk,W⟩ hkn ⟨I,hx⟩
 simp only at I hx ⊢
 by_cases hlt:k<d.aa.length
 ·have e1:=cH hlt
  have e2:=inc hlt l1
  have e3:=aV hlt
  have hWk:W[k]? = some (UP[k]'om):=by rw[I.r k (Nat.le_refl _)];simp
  have hg:=pN (f:=Ir) (k:=5) (fun _ _=>rfl) hlt hWk
  have hg3:=g7 (j:=4) hg om
  simp only[List.getElem?_cons_succ,List.getElem?_cons_zero] at hg3
  have hu:fV h (UP[k]'om) d.aa[k].al:=hUPr k d.aa[k] (UP[k]'om) (by simp [hlt]) (by simp)
  obtain⟨pu,cu,huf⟩:=bW.form hu
  rw[huf] at hg3 hu
  have hcl:=A6 (hu.mono I.p) tu
  unfold FW at hcl
  obtain⟨r,h5,hcall,hp5,hGr⟩:=hcl
  have hF:=hGr.fr (b:=88) hu.1
  obtain⟨pr,cr,rfl⟩:=hGr.form
  have ho:=I.o
  have ho5:=ag hp5 ho
  have hx5:=ag hp5 hx
  have I':=I.step hlt om hp5 hF
  have hx6:(h5.set id (.aj ((d.aa.zip (W.set k (.slice pr d.aa[k].al.length cr))).flatMap fun p=>Ir p.1 p.2) au true 51))[h.length]? = some (.aj (ko d (.slice (some ⟨id,0,some au⟩) d.aa.length d.aa.length) (.slice p2 d.ax.length c2) (.slice p3 d.follows.length c3) (.slice p4 d.an.length c4) (.slice p5 d.boxes.length c5)) 0 true 28):=by rw[aD om];exact hx5
  unfold ko at hx hx5
  refine aG e3 ?_
  refine af rfl ?_
  refine aB ?_
  refine aA [(1,.val (.pointer (some ⟨h.length,0,some 0⟩))),(2,.box ZD),(3,.val (i64 k)),(15,.val (i64 d.aa.length)),(16,.val (i64 k))] aO ?_
  show CW _ _ ⟨_,[],hk⟩ _
  apply bi (L:=[[],[0],[],[],[3],[],[4,5],[6],[7],[8],[1,2],[10],[0,1,2,3,4,5,6,7,8,9,11]]) (act:=[9,12]) (hs:=[h5,h5.set id (.aj ((d.aa.zip (W.set k (.slice pr d.aa[k].al.length cr))).flatMap fun p=>Ir p.1 p.2) au true 51)]) (resL:=[_,_,_,_,_,_,_,_,_,_,_,_,_]) (frF:=[(1,.val (.pointer (some ⟨h.length,0,some 0⟩))),(2,.box ZD),(15,.val (i64 d.aa.length)),(16,.val (i64 k))])
  case hm=>exact mixed
  case hc=>kernel_rfl
  case ha=>rfl
  case hb=>rfl
  case hS=>
   refine Iv hx hx5 e1 ho hg3 ?_
   apply az.cons
   ·rfl
   ·refine⟨?_,trivial⟩
    exact dA (args:=[.slice pu d.aa[k].al.length cu]) (cap:=[]) (fn:=Tryz.f83) ak rfl ak ak Tryz.func83 kr kr hcall
   ·rfl
   refine Iv hx hx5 e1 ho hg3 ?_
   apply az.cons
   ·rfl
   ·refine⟨?_,trivial⟩
    exact One.jn (r:=.sl .dy) ak rfl ak ak ho5 ak rfl (mF (f:=Ir) (k:=5) (o:=4) (fun _ _=>rfl) (by decide) (fun _ _ _=>rfl) I.n hlt) rfl
   ·rfl
   exact az.nil _
  case ht=>rfl
  case hF=>exact zh
  show CW _ _ _ _
  refine aG e2 ?_
  exact⟨hlt,(_,_),aO,rfl,I',hx6⟩
 ·have e3:=aT hlt
  obtain rfl:k=d.aa.length:=by omega
  refine aG e3 ?_
  refine ae rfl ?_
  refine aC ?_
  exact⟨rfl,hk,I.p,hx,(I.fin (c:=d.aa.length) hbP).low om,rfl,aO⟩
clear hGP3 hx3 hp3
rintro e s' ⟨rfl,h4,hp4,hx4,hFP,hh,hf⟩
show CW _ _ _ _
refine aA _ hf ?_
rw[hh]
clear hf hh s'
unfold ko at hx4
refine aG hx4 ?_
refine CW.mono (Q:=fun e s'=>e = .exit 2∧∃ hk vs q c,TA h4 hk (.slice q d.ax.length c) d.ax vs d.ax.length∧s'.h=hk∧bB [(1,.val (.pointer (some ⟨h.length,0,some 0⟩))),(2,.box ZD),(4,.val (.slice q d.ax.length c))] s'.fr) ?_ ?_
·refine a9 d.ax.length (fun k (x:ah×List Value×Option Addr×Nat)=>[(1,.val (.pointer (some ⟨h.length,0,some 0⟩))),(2,.box ZD),(4,.val (.slice x.2.2.1 k x.2.2.2)),(33,.val (.slice p2 d.ax.length c2)),(34,.val (i64 d.ax.length)),(35,.val (i64 k))]) (fun _ x=>x.1) (fun k x=>TA h4 x.1 (.slice x.2.2.1 k x.2.2.2) d.ax x.2.1 k) (h4,[],none,0) aO rfl ⟨List.prefix_refl _,rfl,aK.nil,fun i _ hi=>absurd hi om⟩ ?_
 rintro k ⟨hk,vs,qC,cC⟩ hkn I
 simp only at I ⊢
 have hpk:=hp4.trans I.p
 by_cases hlt:k<d.ax.length
 ·obtain⟨id,au,own,c',cells,u,hv,hid0,hrd,hu⟩:=cT.at (k:=1) (fun _ _=>rfl) hd.ax hlt
  cases hv
  have hid:=ag hpk hid0
  have hu:eR h u d.ax[k]:=hu
  obtain⟨ps,cs,rfl⟩:=cT.form hu
  have hu':=hu
  obtain⟨UG,hUGn,hUGs,hUGr⟩:=hu'
  have hg:=mV hrd om
  simp only[List.getElem?_cons_zero,Nat.mul_one] at hg
  have w1:=cH hlt
  have w2:=inc hlt l2
  have q3:=aV hlt
  have hbG:d.ax[k].length*32≤140737488355328:=cT.le hu
  have hcG:((d.ax[k].zip UG).flatMap fun p=>PJ p.1 p.2).length=d.ax[k].length*2:=by rw[dv (f:=fun p:dT×Value=>PJ p.1 p.2) (k:=2) (fun _=>rfl),List.length_zip,hUGn,Nat.min_self]
  refine aG q3 ?_
  refine af rfl ?_
  refine fN w1 hid hg Nat.mul_one ?_
  refine zj Tryz.func84 ?_
  refine (Bo (hUGs.mono hpk) hcG).mono ?_
  rintro _ h5 ⟨hp5,hGG⟩
  obtain⟨qG,cG,rfl⟩:=hGG.form
  refine aB ?_
  refine CW.mono (Q:=fun e s'=>e = .exit 4∧∃ h6,hk <+: h6∧Fr (fun x=>eR x (.slice qG d.ax[k].length cG) d.ax[k]) hk.length h6∧s'.h=h6∧bB [(1,.val (.pointer (some ⟨h.length,0,some 0⟩))),(2,.box ZD),(4,.val (.slice qC k cC)),(6,.val (.slice qG d.ax[k].length cG)),(33,.val (.slice (some ⟨id,0,some au⟩) d.ax.length c2)),(34,.val (i64 d.ax.length)),(35,.val (i64 k))] s'.fr) ?_ ?_
  ·by_cases hz:d.ax[k].length=0
   ·refine df d.ax[k].length (fun m=>[(1,.val (.pointer (some ⟨h.length,0,some 0⟩))),(2,.box ZD),(4,.val (.slice qC k cC)),(6,.val (.slice qG d.ax[k].length cG)),(33,.val (.slice (some ⟨id,0,some au⟩) d.ax.length c2)),(34,.val (i64 d.ax.length)),(35,.val (i64 k)),(42,.val (i64 d.ax[k].length)),(43,.val (i64 m))]) (fun _=>h5) (fun _=>True) aO rfl trivial ?_
    intro m hmn _
    have hml:¬ m<d.ax[k].length:=by omega
    have e3:=aT hml
    refine aG e3 ?_
    refine ae rfl ?_
    refine aC ?_
    refine⟨rfl,h5,hp5,fun x e=>⟨UG,hUGn,(hGG.fr (b:=32) hbG) x e,fun i y u h1 h2=>?_⟩,rfl,aO⟩
    have:=(List.getElem?_eq_some_iff.1 h1).1
    omega
   obtain⟨idg,verg,hidg,hvg,hobg⟩:=hGG.vV om
   cases hvg
   refine a9 d.ax[k].length (fun m (x:ah×List Value)=>[(1,.val (.pointer (some ⟨h.length,0,some 0⟩))),(2,.box ZD),(4,.val (.slice qC k cC)),(6,.val (.slice (some ⟨idg,0,some verg⟩) d.ax[k].length d.ax[k].length)),(33,.val (.slice (some ⟨id,0,some au⟩) d.ax.length c2)),(34,.val (i64 d.ax.length)),(35,.val (i64 k)),(42,.val (i64 d.ax[k].length)),(43,.val (i64 m))]) (fun _ x=>x.1) (fun m x=>IN PJ (fun h u p=>bh h u p.cons) 82 hk x.1 idg verg d.ax[k] UG x.2 m) (h5,UG) aO rfl ⟨hp5,hUGn,hobg,fun i hi h=>absurd h om,fun i _=>rfl⟩ ?_
   rintro m ⟨hm,W⟩ hmn J
   simp only at J ⊢
   by_cases hml:m<d.ax[k].length
   ·have e1:=cH hml
    have e2:=inc hml om
    have e3:=aV hml
    have hWk:W[m]? = some (UG[m]'om):=by rw[J.r m (Nat.le_refl _)];simp
    have hg:=pN (f:=PJ) (k:=2) (fun _ _=>rfl) hml hWk
    have hg3:=g7 (j:=1) hg om
    simp only[List.getElem?_cons_succ,List.getElem?_cons_zero] at hg3
    have huN:bh h (UG[m]'om) (d.ax[k])[m].cons:=hUGr m (d.ax[k])[m] (UG[m]'om) (by simp [hml]) (by simp)
    obtain⟨pu,cu,huf⟩:=bW.form huN
    rw[huf] at hg3 huN
    have ho:=J.o
    refine aG e3 ?_
    refine af rfl ?_
    refine ir e1 ho hg3 ?_
    refine zj Tryz.func85 ?_
    refine (BU (huN.mono (hpk.trans J.p)) (by simp)).mono ?_
    rintro _ h7 ⟨hp7,hGN⟩
    have hF:=hGN.fr (b:=16) huN.1
    obtain⟨pr,cr,rfl⟩:=hGN.form
    have ho7:=ag hp7 ho
    have J':=J.step hml hidg hp7 hF
    refine aG e1 ?_
    refine ch ak rfl rfl rfl ak ho7 ak rfl (mF (f:=PJ) (k:=2) (o:=1) (fun _ _=>rfl) (by decide) (fun _ _ _=>rfl) J.n hml) ?_
    refine aG e2 ?_
    exact⟨hml,(_,_),aO,rfl,J'⟩
   ·have e3:=aT hml
    obtain rfl:m=d.ax[k].length:=by omega
    refine aG e3 ?_
    refine ae rfl ?_
    refine aC ?_
    exact⟨rfl,hm,J.p,(J.fin (c:=d.ax[k].length) hbG).low hidg,rfl,aO⟩
  rintro e s' ⟨rfl,h6,hp6,hFC,hh,hf⟩
  show CW _ _ _ _
  refine aA _ hf ?_
  rw[hh]
  clear hf hh s'
  have hG6:aK h4 h6 (.slice qC k cC) k vs 80:=I.g.mono fun j o _ ho=>ag hp6 ho
  refine aB ?_
  refine kW (t:=23) (cs:=[.slice qG d.ax[k].length cG]) ak rfl kr Pc (by decide) rfl ak rfl hG6 (I.p.trans hp6) (by rw[I.n,show (_:TI).size=1 from rfl,Nat.mul_one]) rfl (by simp only;omega) om ?_
  intro p' c' h7 k1 k2 k3 k4
  have k4:∀ x,bX (.slice p' (k+1) c') x=true→bX (.slice qC k cC) x=true∨x=h6.length:=k4
  refine aG w2 ?_
  refine⟨hlt,(h7,vs++[.slice qG d.ax[k].length cG],p',c'),aO,rfl,k2,by rw[List.length_append,I.n];rfl,k1,fun i hi h2=>?_⟩
  rcases (by omega:i<k∨i=k) with h8|rfl
  ·obtain⟨u',hu1,hu2⟩:=I.e i hi h8
   refine⟨u',by rw[List.getElem?_append_left (by rw[I.n];exact h8)];exact hu1,fun x hx=>hu2 x fun j o hj ha ho=>?_⟩
   refine hx j o hj ?_ (k3 j o ha (ag hp6 ho))
   cases hb:bX (.slice p' (k+1) c') j with
   | false=>rfl
   | true=>
     rcases k4 j hb with h9|h9
     ·rw[ha] at h9;cases h9
     ·have:=cX ho
      have:=hp6.length_le
      omega
  ·refine⟨_,by rw[List.getElem?_append_right (by rw[I.n];exact Nat.le_refl _),I.n,Nat.sub_self];rfl,fun x hx=>hFC x fun j o hj ho=>?_⟩
   have hlk:=I.p.length_le
   have ha:bX (.slice qC i cC) j=false:=by
    cases hb:bX (.slice qC i cC) j with
    | false=>rfl
    | true=>have:=(I.g.lt hb).2;omega
   refine hx j o om ?_ (k3 j o ha ho)
   cases hb:bX (.slice p' (i+1) c') j with
   | false=>rfl
   | true=>
     rcases k4 j hb with h9|h9
     ·rw[ha] at h9;cases h9
     ·have:=cX ho
      omega
 ·have q3:=aT hlt
  obtain rfl:k=d.ax.length:=by omega
  refine aG q3 ?_
  refine ae rfl ?_
  refine aC ?_
  exact⟨rfl,hk,vs,qC,cC,I,rfl,aO⟩
rintro e s' ⟨rfl,h5,vs,qC,cC,I,hh,hf⟩
show CW _ _ _ _
refine aA _ hf ?_
rw[hh]
clear hf hh s'
have hp5:=hp4.trans I.p
have hx5:=ag I.p hx4
have hlx:=cX hx4
have hgC:=I.g
have hFC:Fr (fun x=>kN x (.slice qC d.ax.length cC) d.ax) h4.length h5:=by
 refine fun x e=>⟨vs,I.n,?_,fun i y u h1 h2=>?_⟩
 ·rw[xc I.n]
  exact (I.g.fr (b:=24) hbC) x e
 ·obtain⟨hi,rfl⟩:=List.getElem?_eq_some_iff.1 h1
  obtain⟨u',hu1,hu2⟩:=I.e i hi hi
  rw[hu1] at h2
  cases h2
  exact hu2 x fun j o hj _ ho=>e j o hj ho
have hFP5:=hFP.mono (jN.pre I.p)
clear hFP I hgC
refine aB ?_
refine ch (v:=.slice qC d.ax.length cC) (vs:=[.slice qC d.ax.length cC]) (cells':=ko d (.slice qP d.aa.length cP) (.slice qC d.ax.length cC) (.slice p3 d.follows.length c3) (.slice p4 d.an.length c4) (.slice p5 d.boxes.length c5)) ak rfl rfl rfl ak hx5 ak rfl rfl ?_
dsimp only
obtain⟨h6,hh6⟩:∃ h6,h6=h5.set h.length (.aj (ko d (.slice qP d.aa.length cP) (.slice qC d.ax.length cC) (.slice p3 d.follows.length c3) (.slice p4 d.an.length c4) (.slice p5 d.boxes.length c5)) 0 true 28):=⟨_,rfl⟩
have hx6:h6[h.length]? = some (.aj (ko d (.slice qP d.aa.length cP) (.slice qC d.ax.length cC) (.slice p3 d.follows.length c3) (.slice p4 d.an.length c4) (.slice p5 d.boxes.length c5)) 0 true 28):=hh6▸aw hx5
have hA6:jN (h.length+1) h5 h6:=hh6▸jN.set (Nat.lt_succ_self _)
have hp6:h <+: h6:=hh6▸aY hp5 (Nat.le_refl _)
rw[← hh6]
clear hh6
have hFP6:=hFP5.mono hA6
have hFC6:=(hFC.low (show h.length+1≤h4.length by omega)).mono hA6
clear hFC hFP5 hA6 hx5
have hk1:=Cm (bW.mono hd.follows hp6) (by rw[dv (f:=eZ.cells) (k:=5) (fun _=>rfl)])
unfold FW at hk1
obtain⟨rF,h7,hcF,hp7,hGF⟩:=hk1
obtain⟨qF,cF,rfl⟩:=hGF.form
have hk2:=Bw (bW.mono hd.an (hp6.trans hp7)) (by rw[dv (f:=dB.cells) (k:=2) (fun _=>rfl)])
unfold FW at hk2
obtain⟨rR,h8,hcR,hp8,hGR⟩:=hk2
obtain⟨qR,cR,rfl⟩:=hGR.form
have hx7:=ag hp7 hx6
have hx8:=ag hp8 hx7
have hlen6:=hp6.length_le
have hFF:Fr (fun x=>tM x (.slice qF d.follows.length cF) d.follows) (h.length+1) h7:=(hGF.fr (b:=48) hd.follows.1).low (by have:=cX hx6;omega)
have hFR:Fr (fun x=>tR x (.slice qR d.an.length cR) d.an) (h.length+1) h8:=(hGR.fr (b:=32) hd.an.1).low (by have:=cX hx7;omega)
unfold ko at hx6 hx7 hx8
refine aB ?_
refine aA [(1,.val (.pointer (some ⟨h.length,0,some 0⟩))),(2,.box ZD)] aO ?_
show CW _ _ ⟨_,[],h6⟩ _
apply bi (L:=[[],[0],[1],[],[3],[2,4],[],[0,1,2,3,4,5,6],[],[0,1,2,3,4,5,6,7,8]]) (act:=[2,5,7,9]) (hs:=[h7,h8,h8.set h.length (.aj (ko d (.slice qP d.aa.length cP) (.slice qC d.ax.length cC) (.slice qF d.follows.length cF) (.slice p4 d.an.length c4) (.slice p5 d.boxes.length c5)) 0 true 28),h8.set h.length (.aj (ko d (.slice qP d.aa.length cP) (.slice qC d.ax.length cC) (.slice qF d.follows.length cF) (.slice qR d.an.length cR) (.slice p5 d.boxes.length c5)) 0 true 28)]) (resL:=[_,_,_,_,_,_,_,_,_,_]) (frF:=[(1,.val (.pointer (some ⟨h.length,0,some 0⟩))),(2,.box ZD)])
case hm=>exact mixed
case hc=>kernel_rfl
case ha=>rfl
case hb=>rfl
case hS=>
 refine PY hx6 ?_
 apply az.cons
 ·rfl
 ·refine⟨?_,trivial⟩
  exact dA (args:=[.slice p3 d.follows.length c3]) (cap:=[]) (fn:=Tryz.f86) ak rfl ak ak Tryz.func86 kr kr hcF
 ·rfl
 refine FO hx6 hx7 ?_
 apply az.cons
 ·rfl
 ·refine⟨?_,trivial⟩
  exact dA (args:=[.slice p4 d.an.length c4]) (cap:=[]) (fn:=Tryz.f87) ak rfl ak ak Tryz.func87 kr kr hcR
 ·rfl
 refine LX hx6 hx7 hx8 ?_
 apply az.cons
 ·rfl
 ·refine⟨?_,trivial⟩
  exact One.jn (r:=.sl .dy) (cells':=ko d (.slice qP d.aa.length cP) (.slice qC d.ax.length cC) (.slice qF d.follows.length cF) (.slice p4 d.an.length c4) (.slice p5 d.boxes.length c5)) ak rfl ak ak hx8 ak rfl rfl rfl
 ·rfl
 refine LX hx6 hx7 hx8 ?_
 apply az.cons
 ·rfl
 ·refine⟨?_,trivial⟩
  exact AM (r:=.sl .dy) rfl ak rfl rfl ak (aw hx8) ak rfl rfl rfl (List.set_set ..).symm
 ·rfl
 exact az.nil _
case ht=>rfl
case hF=>exact zh
show CW _ _ _ _
obtain⟨h9,hh9⟩:∃ h9,h9=h8.set h.length (.aj (ko d (.slice qP d.aa.length cP) (.slice qC d.ax.length cC) (.slice qF d.follows.length cF) (.slice qR d.an.length cR) (.slice p5 d.boxes.length c5)) 0 true 28):=⟨_,rfl⟩
have hx9:h9[h.length]? = some (.aj (ko d (.slice qP d.aa.length cP) (.slice qC d.ax.length cC) (.slice qF d.follows.length cF) (.slice qR d.an.length cR) (.slice p5 d.boxes.length c5)) 0 true 28):=hh9▸aw hx8
have hA9:jN (h.length+1) h8 h9:=hh9▸jN.set (Nat.lt_succ_self _)
have hp9:h <+: h9:=hh9▸aY ((hp6.trans hp7).trans hp8) (Nat.le_refl _)
rw[← hh9]
clear hh9
have hFP9:=hFP6.mono ((jN.pre (hp7.trans hp8)).trans hA9)
have hFC9:=hFC6.mono ((jN.pre (hp7.trans hp8)).trans hA9)
have hFF9:=hFF.mono ((jN.pre hp8).trans hA9)
have hFR9:=hFR.mono hA9
clear hFP6 hFC6 hFF hFR hA9 hx6 hx7 hx8 hcF hcR hGF hGR hp7 hp8
unfold ko at hx9
refine aG hx9 ?_
refine zj Tryz.func88 ?_
refine (AV (hUBs.mono hp9) hcB).mono ?_
rintro _ h10 ⟨hp10,hGB⟩
obtain⟨qB,cB,rfl⟩:=hGB.form
have hx10:=ag hp10 hx9
refine aB ?_
refine ch (cells':=ko d (.slice qP d.aa.length cP) (.slice qC d.ax.length cC) (.slice qF d.follows.length cF) (.slice qR d.an.length cR) (.slice qB d.boxes.length cB)) ak rfl rfl rfl ak hx10 ak rfl rfl ?_
dsimp only
obtain⟨h11,hh11⟩:∃ h11,h11=h10.set h.length (.aj (ko d (.slice qP d.aa.length cP) (.slice qC d.ax.length cC) (.slice qF d.follows.length cF) (.slice qR d.an.length cR) (.slice qB d.boxes.length cB)) 0 true 28):=⟨_,rfl⟩
have hx11:h11[h.length]? = some (.aj (ko d (.slice qP d.aa.length cP) (.slice qC d.ax.length cC) (.slice qF d.follows.length cF) (.slice qR d.an.length cR) (.slice qB d.boxes.length cB)) 0 true 28):=hh11▸aw hx10
have hA11:jN (h.length+1) h10 h11:=hh11▸jN.set (Nat.lt_succ_self _)
have hp11:h <+: h11:=hh11▸aY (hp9.trans hp10) (Nat.le_refl _)
have hlen9:=cX hx9
have hGB11:aK h9 h11 (.slice qB d.boxes.length cB) d.boxes.length ((d.boxes.zip UB).flatMap fun p=>Gl p.1 p.2) 85:=hGB.mono fun j o hj ho=>by
 have:=(hGB.lt hj).1
 rw[hh11,aD om]
 exact ho
rw[← hh11]
clear hh11
have hA911:jN (h.length+1) h9 h11:=(jN.pre hp10).trans hA11
clear hA11 hx10 hGB hx9
unfold ko at hx11
refine aG hx11 ?_
refine CW.mono (Q:=fun e s'=>e = .exit 6∧∃ hk,h <+: hk∧jN (h.length+1) h9 hk∧hk[h.length]? = some (.aj (ko d (.slice qP d.aa.length cP) (.slice qC d.ax.length cC) (.slice qF d.follows.length cF) (.slice qR d.an.length cR) (.slice qB d.boxes.length cB)) 0 true 28)∧Fr (fun x=>mB x (.slice qB d.boxes.length cB) d.boxes) (h.length+1) hk∧s'.h=hk∧bB [(1,.val (.pointer (some ⟨h.length,0,some 0⟩))),(2,.box ZD)] s'.fr) ?_ ?_
·by_cases hz:d.boxes.length=0
 ·refine df d.boxes.length (fun k=>[(1,.val (.pointer (some ⟨h.length,0,some 0⟩))),(2,.box ZD),(78,.val (i64 d.boxes.length)),(79,.val (i64 k))]) (fun _=>h11) (fun _=>True) aO rfl trivial ?_
  intro k hkn _
  have hlt:¬ k<d.boxes.length:=by omega
  have e3:=aT hlt
  refine aG e3 ?_
  refine ae rfl ?_
  refine aC ?_
  refine⟨rfl,h11,hp11,hA911,hx11,fun x e=>⟨UB,hUBn,(hGB11.fr (b:=40) hbB) x (e.low om),fun i y u h1 h2=>?_⟩,rfl,aO⟩
  have:=(List.getElem?_eq_some_iff.1 h1).1
  omega
 obtain⟨id,au,hid,hv,hob⟩:=hGB11.vV om
 cases hv
 refine a9 d.boxes.length (fun k (x:ah×List Value)=>[(1,.val (.pointer (some ⟨h.length,0,some 0⟩))),(2,.box ZD),(78,.val (i64 d.boxes.length)),(79,.val (i64 k))]) (fun _ x=>x.1) (fun k x=>IN Gl (fun h u p=>b9 h u p.bR) 85 h x.1 id au d.boxes UB x.2 k∧jN (h.length+1) h9 x.1∧x.1[h.length]? = some (.aj (ko d (.slice qP d.aa.length cP) (.slice qC d.ax.length cC) (.slice qF d.follows.length cF) (.slice qR d.an.length cR) (.slice (some ⟨id,0,some au⟩) d.boxes.length d.boxes.length)) 0 true 28)) (h11,UB) aO rfl ⟨⟨hp11,hUBn,hob,fun i hi h=>absurd h om,fun i _=>rfl⟩,hA911,hx11⟩ ?_
 rintro k ⟨hk,W⟩ hkn ⟨I,hAk,hx⟩
 simp only at I hAk hx ⊢
 by_cases hlt:k<d.boxes.length
 ·have e1:=cH hlt
  have e2:=inc hlt l5
  have e3:=aV hlt
  have hWk:W[k]? = some (UB[k]'om):=by rw[I.r k (Nat.le_refl _)];simp
  have hg:=pN (f:=Gl) (k:=2) (fun _ _=>rfl) hlt hWk
  have hg3:=g7 (j:=1) hg om
  simp only[List.getElem?_cons_succ,List.getElem?_cons_zero] at hg3
  have hu:b9 h (UB[k]'om) d.boxes[k].bR:=hUBr k d.boxes[k] (UB[k]'om) (by simp [hlt]) (by simp)
  obtain⟨pu,cu,huf⟩:=cT.form (b9.iff.1 hu)
  rw[huf] at hg3 hu
  have hcl:=EV hu I.p
  unfold FW at hcl
  obtain⟨r,h5',hcall,hp5',⟨pr,cr,rfl⟩,hF⟩:=hcl
  have ho:=I.o
  have ho5:=ag hp5' ho
  have hx5:=ag hp5' hx
  have I':=I.step hlt om hp5' hF
  have hA':jN (h.length+1) h9 (h5'.set id (.aj ((d.boxes.zip (W.set k (.slice pr d.boxes[k].bR.length cr))).flatMap fun p=>Gl p.1 p.2) au true 85)):=fun j o hj ho=>by
   have:=cX ho
   rw[aD om]
   exact ag hp5' (hAk j o hj ho)
  have hx6:(h5'.set id (.aj ((d.boxes.zip (W.set k (.slice pr d.boxes[k].bR.length cr))).flatMap fun p=>Gl p.1 p.2) au true 85))[h.length]? = some (.aj (ko d (.slice qP d.aa.length cP) (.slice qC d.ax.length cC) (.slice qF d.follows.length cF) (.slice qR d.an.length cR) (.slice (some ⟨id,0,some au⟩) d.boxes.length d.boxes.length)) 0 true 28):=by rw[aD om];exact hx5
  unfold ko at hx hx5
  refine aG e3 ?_
  refine af rfl ?_
  refine aB ?_
  refine aA [(1,.val (.pointer (some ⟨h.length,0,some 0⟩))),(2,.box ZD),(8,.val (i64 k)),(78,.val (i64 d.boxes.length)),(79,.val (i64 k))] aO ?_
  show CW _ _ ⟨_,[],hk⟩ _
  apply bi (L:=[[],[0],[],[],[3],[],[4,5],[6],[7],[8],[1,2],[10],[0,1,2,3,4,5,6,7,8,9,11]]) (act:=[9,12]) (hs:=[h5',h5'.set id (.aj ((d.boxes.zip (W.set k (.slice pr d.boxes[k].bR.length cr))).flatMap fun p=>Gl p.1 p.2) au true 85)]) (resL:=[_,_,_,_,_,_,_,_,_,_,_,_,_]) (frF:=[(1,.val (.pointer (some ⟨h.length,0,some 0⟩))),(2,.box ZD),(78,.val (i64 d.boxes.length)),(79,.val (i64 k))])
  case hm=>exact mixed
  case hc=>kernel_rfl
  case ha=>rfl
  case hb=>rfl
  case hS=>
   refine Iv hx hx5 e1 ho hg3 ?_
   apply az.cons
   ·rfl
   ·refine⟨?_,trivial⟩
    exact dA (args:=[.slice pu d.boxes[k].bR.length cu]) (cap:=[]) (fn:=Tryz.f89) ak rfl ak ak Tryz.func89 kr kr hcall
   ·rfl
   refine Iv hx hx5 e1 ho hg3 ?_
   apply az.cons
   ·rfl
   ·refine⟨?_,trivial⟩
    exact One.jn (r:=.sl .dy) ak rfl ak ak ho5 ak rfl (mF (f:=Gl) (k:=2) (o:=1) (fun _ _=>rfl) (by decide) (fun _ _ _=>rfl) I.n hlt) rfl
   ·rfl
   exact az.nil _
  case ht=>rfl
  case hF=>exact zh
  show CW _ _ _ _
  refine aG e2 ?_
  exact⟨hlt,(_,_),aO,rfl,I',hA',hx6⟩
 ·have e3:=aT hlt
  obtain rfl:k=d.boxes.length:=by omega
  refine aG e3 ?_
  refine ae rfl ?_
  refine aC ?_
  exact⟨rfl,hk,I.p,hAk,hx,(I.fin (c:=d.boxes.length) hbB).low om,rfl,aO⟩
rintro e s' ⟨rfl,hk,hpk,hAk,hxk,hFB,hh,hf⟩
show CW _ _ _ _
refine aA _ hf ?_
rw[hh]
clear hf hh s'
unfold ko at hxk
refine aG hxk ?_
refine ai ?_
refine⟨_,ak,hpk,.slice qP d.aa.length cP,.slice qC d.ax.length cC,.slice qF d.follows.length cF,.slice qR d.an.length cR,.slice qB d.boxes.length cB,?_,?_⟩
·rfl
·refine Fr.low (m:=h.length+1) (fun x e=>⟨(hFP9.mono hAk) x e,(hFC9.mono hAk) x e,(hFF9.mono hAk) x e,(hFR9.mono hAk) x e,hFB x e⟩) om}
end
end Go.Proofs.YtmdmimkbpikmoaaGreat
