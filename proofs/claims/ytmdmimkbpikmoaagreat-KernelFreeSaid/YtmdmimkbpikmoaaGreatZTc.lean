/- Several texts, one behind the other. -/
import Derived.Test.YtmdmimkbpikmoaaGreatZW5
import Derived.Sort.LotD2
import Derived.Sort.LotD1
import Derived.Sort.AssemblyPlain
set_option linter.unusedSimpArgs false
set_option linter.unusedVariables false
set_option maxHeartbeats 8000000
namespace Go.Proofs.YtmdmimkbpikmoaaGreat
set_option maxRecDepth 20000
open Go.RowKit Am Ty
theorem qI {d:Array aR} {b i:Nat} (h:i<b) (hp:bx d[i]! d[i-1]! = false):Go.Sort.scanSorted bx d b i=Go.Sort.scanSorted bx d b (i+1):=by
 rw[Go.Sort.scanSorted,if_pos (by simp [h,hp])]
theorem kR {d:Array aR} {b i:Nat} (h:¬ (i<b∧bx d[i]! d[i-1]! = false)):Go.Sort.scanSorted bx d b i=i:=by
 rw[Go.Sort.scanSorted,if_neg (by simpa using h)]
theorem vU {d:Array aR} {b j:Nat} (h:j<b) (hp:bx d[j]! d[j-1]! = true):Go.Sort.shiftUp bx b j d=Go.Sort.shiftUp bx b (j+1) (Go.Sort.swp d j (j-1)):=by
 rw[Go.Sort.shiftUp,if_pos h,hp];rfl
theorem nT {d:Array aR} {b j:Nat} (h:¬ (j<b∧bx d[j]! d[j-1]! = true)):Go.Sort.shiftUp bx b j d=d:=by{
rw[Go.Sort.shiftUp]
by_cases hj:j<b
·rw[if_pos hj,if_pos (by simpa [hj] using h)]
·rw[if_neg hj]}
theorem Ia {h:ai} {id av c a b:Nat} {d:Array aR} (D:DA h id av d) (hab:a<b) (hb:b≤d.size) : FW env 185 [.slice (some ⟨id,0,some av⟩) d.size c,i64 a,i64 b,aP] h fun r h'=>r = .bool (Go.Sort.partialInsertionSort bx d a b).2∧h'=h.set id (.aq (IC (Go.Sort.partialInsertionSort bx d a b).1) av true 70)∧DA h' id av (Go.Sort.partialInsertionSort bx d a b).1∧(Go.Sort.partialInsertionSort bx d a b).1.size=d.size:=by{
have hn:=D.n
have e1:IntKind.i64.wrap ((a:Int)+1)=((a+1:Nat):Int):=by rw[ay om om];omega
obtain⟨i0,hi0⟩:∃ i0,i0=a+1:=⟨_,rfl⟩
rw[← hi0] at e1
obtain⟨P,hP⟩:∃ P,Go.Sort.partialInsertionSort bx d a b=P:=⟨_,rfl⟩
have hP0:Go.Sort.partialIns bx a b 5 i0 d=P:=by rw[← hP,hi0];rfl
rw[hP]
clear hP
refine fe Tryz.func185 ?_;simp only[push_cast]
refine aG e1 ?_
refine fl (fun x:Nat×Nat×Array aR×ai=>5-x.1) (fun x=>[(0,.val (.slice (some ⟨id,0,some av⟩) d.size c)),(1,.val (i64 a)),(2,.val (i64 b)),(3,.val aP),(9,.val (i64 x.2.1)),(10,.val (i64 x.1))]) (fun x=>x.2.2.2)
 (fun x=>x.1≤5∧a<x.2.1∧x.2.1≤b∧x.2.2.1.size=d.size∧x.2.2.2=h.set id (.aq (IC x.2.2.1) av true 70)∧DA x.2.2.2 id av x.2.2.1∧Go.Sort.partialIns bx a b (5-x.1) x.2.1 x.2.2.1=P) (0,i0,d,h) aM rfl ⟨by simp only;omega,by simp only;omega,by simp only;omega,rfl,(fJ D.g).symm,D,hP0⟩ ?_
clear e1 hi0 hP0 i0
rintro⟨J,i,dc,hc⟩ ⟨h1,h2,h2',h3,h4,D1,h5⟩
simp only at h1 h2 h2' h3 h4 D1 h5 ⊢
by_cases hJ:J<5
·have d1:decide ((J:Int)<5)=true:=decide_eq_true om
 obtain⟨s,hs⟩:∃ s,5-J=s+1:=⟨4-J,by omega⟩
 rw[hs] at h5
 have eJ:IntKind.i64.wrap ((J:Int)+1)=(J:Int)+1:=ay om om
 refine aG d1 ?_
 refine ag rfl ?_
 obtain⟨i2,hi2⟩:∃ i2,Go.Sort.scanSorted bx dc b i=i2:=⟨_,rfl⟩
 refine aC ?_
 refine CW.mono (Q:=fun e s'=>e = .exit 2∧s'.h=hc∧i≤i2∧i2≤b∧bD [(0,.val (.slice (some ⟨id,0,some av⟩) d.size c)),(1,.val (i64 a)),(2,.val (i64 b)),(3,.val aP),(9,.val (i64 i2)),(10,.val (i64 J))] s'.fr) ?_ ?_
 ·refine fl (fun k:Nat=>b-k) (fun k=>[(0,.val (.slice (some ⟨id,0,some av⟩) d.size c)),(1,.val (i64 a)),(2,.val (i64 b)),(3,.val aP),(9,.val (i64 k)),(10,.val (i64 J))]) (fun _=>hc)
   (fun k=>i≤k∧k≤b∧Go.Sort.scanSorted bx dc b k=i2) i aM rfl ⟨Nat.le_refl _,h2',hi2⟩ ?_
  rintro k ⟨k1,k2,k3⟩
  by_cases hkj:k<b
  ·have d4:decide ((k:Int)<(b:Int))=true:=decide_eq_true om
   obtain⟨q,hq⟩:∃ q,k=q+1:=⟨k-1,by omega⟩
   have hqk:k-1=q:=by omega
   have e5:IntKind.i64.wrap ((k:Int)-1)=(q:Int):=by rw[ay om om];omega
   have e4:IntKind.i64.wrap ((k:Int)+1)=(k:Int)+1:=ay om om
   have hp1:k<dc.size:=by omega
   have hq1:q<dc.size:=by omega
   have gp:=bG hp1
   have gq:=bG hq1
   have bp:=D1.b _ hp1
   have bq:=D1.b _ hq1
   have rp:=cz (k:=k) (n:=d.size) om
   have rq:=cz (k:=q) (n:=d.size) om
   have hg:=D1.g
   cases hl:bx dc[k]! dc[q]! with
   | false=>
     have d7:decide (fA dc[k]! dc[q]! < 0)=false:=hl
     refine aC ?_
     apply bu (L:=[[],[],[0,1],[2],[3],[3],[3],[3,5,6],[3,7],[3],[3],[3,10],[3,9,11],[3,12],[3,4,8,13],[3,14],[3,15],[3,16]]) (resL:=[_,_,_,_,_,_,_,_,_,_,_,_,_,_,_,_,_,_]) (frF:=[(0,.val (.slice (some ⟨id,0,some av⟩) d.size c)),(1,.val (i64 a)),(2,.val (i64 b)),(3,.val aP),(9,.val (i64 k)),(10,.val (i64 J)),(36,.val (.bool true))])
     case hm=>exact mixed
     case hc=>kernel_rfl
     case hb=>rfl
     case hS=>
      refine JI d4 e5 hg gp gq rp rq Nat.mul_one ?_
      apply aQ.cons
      ·exact bg (fn:=Tryz.f104) (args:=[dc[k]!.val,dc[q]!.val]) (cap:=[]) rfl (UM d4 e5) rfl al al Tryz.func104 kr kr (bJ bp bq)
      ·rfl
      exact UJ d7 d4 e5
     case ht=>rfl
     case hF=>exact zh
     show CW _ _ _ _
     refine aC ?_
     refine ag rfl ?_
     refine aG e4 ?_
     exact⟨k+1,by dsimp only;omega,aM,rfl,by omega,by omega,by rw[← k3];exact (qI hkj (by rw[hqk];exact hl)).symm⟩
   | true=>
     have d7:decide (fA dc[k]! dc[q]! < 0)=true:=hl
     have hst:i2=k:=by rw[← k3];exact kR (by rw[hqk,hl];simp)
     subst hst
     refine aC ?_
     apply bu (L:=[[],[],[0,1],[2],[3],[3],[3],[3,5,6],[3,7],[3],[3],[3,10],[3,9,11],[3,12],[3,4,8,13],[3,14],[3,15],[3,16]]) (resL:=[_,_,_,_,_,_,_,_,_,_,_,_,_,_,_,_,_,_]) (frF:=[(0,.val (.slice (some ⟨id,0,some av⟩) d.size c)),(1,.val (i64 a)),(2,.val (i64 b)),(3,.val aP),(9,.val (i64 i2)),(10,.val (i64 J)),(36,.val (.bool false))])
     case hm=>exact mixed
     case hc=>kernel_rfl
     case hb=>rfl
     case hS=>
      refine JI d4 e5 hg gp gq rp rq Nat.mul_one ?_
      apply aQ.cons
      ·exact bg (fn:=Tryz.f104) (args:=[dc[i2]!.val,dc[q]!.val]) (cap:=[]) rfl (UM d4 e5) rfl al al Tryz.func104 kr kr (bJ bp bq)
      ·rfl
      exact UJ d7 d4 e5
     case ht=>rfl
     case hF=>exact zh
     show CW _ _ _ _
     refine aC ?_
     refine ae rfl ?_
     refine aB ?_
     exact⟨rfl,rfl,k1,k2,aM⟩
  ·have d4:decide ((k:Int)<(b:Int))=false:=decide_eq_false om
   have hst:i2=k:=by rw[← k3];exact kR om
   subst hst
   refine aC ?_
   apply bu (L:=[[],[],[0,1],[2],[3],[3],[3],[3,5,6],[3,7],[3],[3],[3,10],[3,9,11],[3,12],[3,4,8,13],[3,14],[3,15],[3,16]]) (resL:=[_,_,_,_,_,_,_,_,_,_,_,_,_,_,_,_,_,_]) (frF:=[(0,.val (.slice (some ⟨id,0,some av⟩) d.size c)),(1,.val (i64 a)),(2,.val (i64 b)),(3,.val aP),(9,.val (i64 i2)),(10,.val (i64 J)),(36,.val (.bool false))])
   case hm=>exact mixed
   case hc=>kernel_rfl
   case hb=>rfl
   case hS=>exact Cj d4
   case ht=>rfl
   case hF=>exact zh
   show CW _ _ _ _
   refine aC ?_
   refine ae rfl ?_
   refine aB ?_
   exact⟨rfl,rfl,k1,k2,aM⟩
 rintro e s' ⟨rfl,hh,hii,hib,hf⟩
 show CW _ _ _ _
 refine aA _ hf ?_
 rw[hh]
 clear hf hh
 have hstep:Go.Sort.partialIns bx a b (s+1) i dc=if i2=b then (dc,true) else if b-a<50 then (dc,false) else
  Go.Sort.partialIns bx a b s i2 (if b-i2≥2 then Go.Sort.shiftUp bx b (i2+1) (if i2-a≥2 then Go.Sort.shiftDown bx (i2-1) (Go.Sort.swp dc i2 (i2-1)) else Go.Sort.swp dc i2 (i2-1)) else (if i2-a≥2 then Go.Sort.shiftDown bx (i2-1) (Go.Sort.swp dc i2 (i2-1)) else Go.Sort.swp dc i2 (i2-1))):=by
  rw[← hi2];rfl
 rw[h5] at hstep
 clear h5 hi2
 by_cases hib2:i2=b
 ·have d2:decide ((i2:Int)=(b:Int))=true:=decide_eq_true om
  rw[if_pos hib2] at hstep
  refine aG d2 ?_
  refine ag rfl ?_
  refine aC ?_
  refine ak ?_
  rw[hstep]
  exact⟨_,al,rfl,h4,D1,h3⟩
 have d2:decide ((i2:Int)=(b:Int))=false:=decide_eq_false om
 rw[if_neg hib2] at hstep
 have e6:IntKind.i64.wrap ((b:Int)-(a:Int))=((b-a:Nat):Int):=by rw[ay om om];omega
 obtain⟨m,hm⟩:∃ m,m=b-a:=⟨_,rfl⟩
 rw[← hm] at e6
 refine aG d2 ?_
 refine ae rfl ?_
 by_cases h50:m<50
 ·have d3:decide ((m:Int)<50)=true:=decide_eq_true om
  rw[if_pos om] at hstep
  refine fz e6 d3 ?_
  refine ag rfl ?_
  refine aC ?_
  refine ak ?_
  rw[hstep]
  exact⟨_,al,rfl,h4,D1,h3⟩
 have d3:decide ((m:Int)<50)=false:=decide_eq_false om
 rw[if_neg om] at hstep
 refine fz e6 d3 ?_
 refine ae rfl ?_
 clear e6 h50 d3 hm
 obtain⟨q,hq⟩:∃ q,i2=q+1:=⟨i2-1,by omega⟩
 have hqk:i2-1=q:=by omega
 rw[hqk] at hstep
 have e5:IntKind.i64.wrap ((i2:Int)-1)=(q:Int):=by rw[ay om om];omega
 have hp1:i2<dc.size:=by omega
 have hq1:q<dc.size:=by omega
 have gp:=bG hp1
 have gq:=bG hq1
 have bp:=D1.b _ hp1
 have bq:=D1.b _ hq1
 have rp:=cz (k:=i2) (n:=d.size) om
 have rq:=cz (k:=q) (n:=d.size) om
 have hg:=D1.g
 refine aC ?_
 refine aA [(0,.val (.slice (some ⟨id,0,some av⟩) d.size c)),(1,.val (i64 a)),(2,.val (i64 b)),(3,.val aP),(9,.val (i64 i2)),(10,.val (i64 J))] aM ?_
 show CW _ _ ⟨_,[],hc⟩ _
 apply bm (L:=[[],[],[],[],[3],[],[],[6],[5,6,7],[5,6,7,8],[],[],[10,11],[10,11,12],[0,1],[0,1,5,6,7,8,9,10,11,12,13,14],[2,3,4],[0,1,2,3,4,5,6,7,8,9,10,11,12,13,14,15,16]]) (act:=[15,17]) (hs:=[hc.set id (.aq (IC (dc.setIfInBounds i2 dc[q]!)) av true 70),hc.set id (.aq (IC (Go.Sort.swp dc i2 q)) av true 70)]) (resL:=[_,_,_,_,_,_,_,_,_,_,_,_,_,_,_,_,_,_]) (frF:=[(0,.val (.slice (some ⟨id,0,some av⟩) d.size c)),(1,.val (i64 a)),(2,.val (i64 b)),(3,.val aP),(9,.val (i64 i2)),(10,.val (i64 J))])
 case hm=>exact mixed
 case hc=>kernel_rfl
 case ha=>rfl
 case hb=>rfl
 case hS=>
  refine Dz hg gp gq e5 rp rq Nat.mul_one ?_
  apply az.cons
  ·rfl
  ·refine⟨?_,trivial⟩
   exact bw (r:=.sl .dL) rfl al rfl al al hg al rfl (cQ (d:=dc) (i:=i2) (x:=dc[q]!) hp1) rfl rfl
  ·rfl
  refine Dz hg gp gq e5 rp rq Nat.mul_one ?_
  apply az.cons
  ·rfl
  ·refine⟨?_,trivial⟩
   exact bw (r:=.sl .dL) rfl al rfl al al (aw hg) al rfl (cQ (d:=dc.setIfInBounds i2 dc[q]!) (i:=q) (x:=dc[i2]!) (by simpa using hq1)) rfl aN.symm
  ·rfl
  exact az.nil _
 case ht=>rfl
 case hF=>exact zh
 show CW _ _ _ _
 have D2:=D1.swp hp1 hq1
 have h6:hc.set id (.aq (IC (Go.Sort.swp dc i2 q)) av true 70)=h.set id (.aq (IC (Go.Sort.swp dc i2 q)) av true 70):=by rw[h4,aN]
 have h7:(Go.Sort.swp dc i2 q).size=d.size:=by rw[swp_size];exact h3
 clear hp1 hq1 gp gq bp bq rp rq hg
 obtain⟨d1',hd1⟩:∃ d1',Go.Sort.swp dc i2 q=d1':=⟨_,rfl⟩
 rw[hd1] at D2 h6 h7 hstep
 rw[hd1,h6]
 rw[h6] at D2
 clear h6 D1 h4 hd1 h3
 obtain⟨m1,hm1⟩:∃ m1,m1=i2-a:=⟨_,rfl⟩
 have e7:IntKind.i64.wrap ((i2:Int)-(a:Int))=(m1:Int):=by rw[ay om om];omega
 obtain⟨d2',hd2⟩:∃ d2',(if i2-a≥2 then Go.Sort.shiftDown bx q d1' else d1')=d2':=⟨_,rfl⟩
 rw[hd2] at hstep
 refine aG e7 ?_
 refine CW.mono (Q:=fun e s'=>e = .normal∧s'.h=h.set id (.aq (IC d2') av true 70)∧DA s'.h id av d2'∧d2'.size=d.size∧bD [(0,.val (.slice (some ⟨id,0,some av⟩) d.size c)),(1,.val (i64 a)),(2,.val (i64 b)),(3,.val aP),(9,.val (i64 i2)),(10,.val (i64 J))] s'.fr) ?_ ?_
 ·by_cases hm2:2≤m1
  ·have d8:decide (2≤(m1:Int))=true:=decide_eq_true om
   rw[if_pos om] at hd2
   refine ag (iQ d8) ?_
   refine aG e5 ?_
   refine fl (fun x:Nat×Array aR×ai=>x.1) (fun x=>[(0,.val (.slice (some ⟨id,0,some av⟩) d.size c)),(1,.val (i64 a)),(2,.val (i64 b)),(3,.val aP),(9,.val (i64 i2)),(10,.val (i64 J)),(11,.val (i64 x.1))]) (fun x=>x.2.2)
    (fun x=>x.1≤q∧x.2.1.size=d.size∧x.2.2=h.set id (.aq (IC x.2.1) av true 70)∧DA x.2.2 id av x.2.1∧Go.Sort.shiftDown bx x.1 x.2.1=d2') (q,d1',_) aM rfl ⟨Nat.le_refl _,h7,rfl,D2,hd2⟩ ?_
   clear D2 h7 hd2 hstep e5 e7 hm1 hm2 d8
   rintro⟨k,dk,hk⟩ ⟨k1,k2,k3,D3,k4⟩
   simp only at k1 k2 k3 D3 k4 ⊢
   cases k with
   | zero=>
     have k4':d2'=dk:=k4.symm
     refine aC ?_
     refine ae rfl ?_
     refine aB ?_
     subst k4'
     exact⟨rfl,k3,D3,k2,aM⟩
   | succ p=>
     have hun:Go.Sort.shiftDown bx (p+1) dk=if (!bx dk[p+1]! dk[p]!)=true then dk else Go.Sort.shiftDown bx p (Go.Sort.swp dk (p+1) p):=rfl
     rw[k4] at hun
     obtain⟨K,hK⟩:∃ K,K=p+1:=⟨_,rfl⟩
     have d9:decide (1≤(K:Int))=true:=decide_eq_true om
     have e9:IntKind.i64.wrap ((K:Int)-1)=(p:Int):=by rw[ay om om];omega
     rw[← hK] at hun k1 ⊢
     have hp1:K<dk.size:=by omega
     have hq1:p<dk.size:=by omega
     have gp:=bG hp1
     have gq:=bG hq1
     have bp:=D3.b _ hp1
     have bq:=D3.b _ hq1
     have rp:=cz (k:=K) (n:=d.size) om
     have rq:=cz (k:=p) (n:=d.size) om
     have hg:=D3.g
     refine aG d9 ?_
     refine ag rfl ?_
     refine aC ?_
     cases hl:bx dk[K]! dk[p]! with
     | false=>
       have d7:decide (fA dk[K]! dk[p]! < 0)=false:=hl
       rw[hl] at hun
       have k4':d2'=dk:=hun
       apply bu (L:=[[],[],[],[1,2],[3],[],[],[6],[5,7],[8],[0,4,9],[10],[11]]) (resL:=[_,_,_,_,_,_,_,_,_,_,_,_,_]) (frF:=[(0,.val (.slice (some ⟨id,0,some av⟩) d.size c)),(1,.val (i64 a)),(2,.val (i64 b)),(3,.val aP),(9,.val (i64 i2)),(10,.val (i64 J)),(84,.val (.bool true))])
       case hm=>exact mixed
       case hc=>kernel_rfl
       case hb=>rfl
       case hS=>
        refine yX e9 hg gp gq rp rq Nat.mul_one ?_
        apply aQ.cons
        ·exact bg (fn:=Tryz.f104) (args:=[dk[K]!.val,dk[p]!.val]) (cap:=[]) rfl (iQ e9) rfl al al Tryz.func104 kr kr (bJ bp bq)
        ·rfl
        exact rS d7 e9
       case ht=>rfl
       case hF=>exact zh
       show CW _ _ _ _
       refine aC ?_
       refine ag rfl ?_
       refine aB ?_
       subst k4'
       exact⟨rfl,k3,D3,k2,aM⟩
     | true=>
       have d7:decide (fA dk[K]! dk[p]! < 0)=true:=hl
       rw[hl] at hun
       have k4':d2'=Go.Sort.shiftDown bx p (Go.Sort.swp dk K p):=hun
       apply bu (L:=[[],[],[],[1,2],[3],[],[],[6],[5,7],[8],[0,4,9],[10],[11]]) (resL:=[_,_,_,_,_,_,_,_,_,_,_,_,_]) (frF:=[(0,.val (.slice (some ⟨id,0,some av⟩) d.size c)),(1,.val (i64 a)),(2,.val (i64 b)),(3,.val aP),(9,.val (i64 i2)),(10,.val (i64 J)),(11,.val (i64 K)),(84,.val (.bool false))])
       case hm=>exact mixed
       case hc=>kernel_rfl
       case hb=>rfl
       case hS=>
        refine yX e9 hg gp gq rp rq Nat.mul_one ?_
        apply aQ.cons
        ·exact bg (fn:=Tryz.f104) (args:=[dk[K]!.val,dk[p]!.val]) (cap:=[]) rfl (iQ e9) rfl al al Tryz.func104 kr kr (bJ bp bq)
        ·rfl
        exact rS d7 e9
       case ht=>rfl
       case hF=>exact zh
       show CW _ _ _ _
       refine aC ?_
       refine ae rfl ?_
       refine aC ?_
       refine aA [(0,.val (.slice (some ⟨id,0,some av⟩) d.size c)),(1,.val (i64 a)),(2,.val (i64 b)),(3,.val aP),(9,.val (i64 i2)),(10,.val (i64 J)),(11,.val (i64 K))] aM ?_
       show CW _ _ ⟨_,[],hk⟩ _
       apply bm (L:=[[],[],[],[],[3],[],[],[6],[5,6,7],[5,6,7,8],[],[],[10,11],[10,11,12],[0,1],[0,1,5,6,7,8,9,10,11,12,13,14],[2,3,4],[0,1,2,3,4,5,6,7,8,9,10,11,12,13,14,15,16]]) (act:=[15,17]) (hs:=[hk.set id (.aq (IC (dk.setIfInBounds K dk[p]!)) av true 70),hk.set id (.aq (IC (Go.Sort.swp dk K p)) av true 70)]) (resL:=[_,_,_,_,_,_,_,_,_,_,_,_,_,_,_,_,_,_]) (frF:=[(0,.val (.slice (some ⟨id,0,some av⟩) d.size c)),(1,.val (i64 a)),(2,.val (i64 b)),(3,.val aP),(9,.val (i64 i2)),(10,.val (i64 J)),(11,.val (i64 K))])
       case hm=>exact mixed
       case hc=>kernel_rfl
       case ha=>rfl
       case hb=>rfl
       case hS=>
        refine Dz hg gp gq e9 rp rq Nat.mul_one ?_
        apply az.cons
        ·rfl
        ·refine⟨?_,trivial⟩
         exact bw (r:=.sl .dL) rfl al rfl al al hg al rfl (cQ (d:=dk) (i:=K) (x:=dk[p]!) hp1) rfl rfl
        ·rfl
        refine Dz hg gp gq e9 rp rq Nat.mul_one ?_
        apply az.cons
        ·rfl
        ·refine⟨?_,trivial⟩
         exact bw (r:=.sl .dL) rfl al rfl al al (aw hg) al rfl (cQ (d:=dk.setIfInBounds K dk[p]!) (i:=p) (x:=dk[K]!) (by simpa using hq1)) rfl aN.symm
        ·rfl
        exact az.nil _
       case ht=>rfl
       case hF=>exact zh
       show CW _ _ _ _
       refine aG e9 ?_
       exact⟨(p,Go.Sort.swp dk K p,_),by simp only;omega,aM,rfl,by simp only;omega,by simp only;rw[swp_size];exact k2,by simp only;rw[k3,aN],D3.swp hp1 hq1,k4'.symm⟩
  ·have d8:decide (2≤(m1:Int))=false:=decide_eq_false om
   rw[if_neg om] at hd2
   subst hd2
   refine ae (iQ d8) ?_
   refine aC ?_
   exact⟨rfl,rfl,D2,h7,aM⟩
 rintro e s' ⟨rfl,hh,D3,h8,hf⟩
 show CW _ _ _ _
 refine aA _ hf ?_
 rw[hh] at D3 ⊢
 clear hf hh D2 hd2 h7 e7 hm1 e5 m1
 obtain⟨m1,hm1⟩:∃ m1,m1=b-i2:=⟨_,rfl⟩
 have e7:IntKind.i64.wrap ((b:Int)-(i2:Int))=(m1:Int):=by rw[ay om om];omega
 obtain⟨d3',hd3⟩:∃ d3',(if b-i2≥2 then Go.Sort.shiftUp bx b (i2+1) d2' else d2')=d3':=⟨_,rfl⟩
 rw[hd3] at hstep
 refine aG e7 ?_
 refine CW.mono (Q:=fun e s'=>e = .normal∧s'.h=h.set id (.aq (IC d3') av true 70)∧DA s'.h id av d3'∧d3'.size=d.size∧bD [(0,.val (.slice (some ⟨id,0,some av⟩) d.size c)),(1,.val (i64 a)),(2,.val (i64 b)),(3,.val aP),(9,.val (i64 i2)),(10,.val (i64 J))] s'.fr) ?_ ?_
 ·by_cases hm2:2≤m1
  ·have d8:decide (2≤(m1:Int))=true:=decide_eq_true om
   have e8:IntKind.i64.wrap ((i2:Int)+1)=((i2+1:Nat):Int):=by rw[ay om om];omega
   rw[if_pos om] at hd3
   obtain⟨i3,hi3⟩:∃ i3,i3=i2+1:=⟨_,rfl⟩
   rw[← hi3] at e8 hd3
   refine ag (iQ d8) ?_
   refine aG e8 ?_
   refine fl (fun x:Nat×Array aR×ai=>b-x.1) (fun x=>[(0,.val (.slice (some ⟨id,0,some av⟩) d.size c)),(1,.val (i64 a)),(2,.val (i64 b)),(3,.val aP),(9,.val (i64 i2)),(10,.val (i64 J)),(12,.val (i64 x.1))]) (fun x=>x.2.2)
    (fun x=>1≤x.1∧x.1≤b∧x.2.1.size=d.size∧x.2.2=h.set id (.aq (IC x.2.1) av true 70)∧DA x.2.2 id av x.2.1∧Go.Sort.shiftUp bx b x.1 x.2.1=d3') (i3,d2',_) aM rfl ⟨by simp only;omega,by simp only;omega,h8,rfl,D3,hd3⟩ ?_
   clear D3 h8 hd3 hstep e7 e8 hm1 hm2 d8
   rintro⟨K,dk,hk⟩ ⟨k0,k1,k2,k3,D3,k4⟩
   simp only at k0 k1 k2 k3 D3 k4 ⊢
   by_cases hKb:K<b
   ·have d9:decide ((K:Int)<(b:Int))=true:=decide_eq_true om
    obtain⟨p,hp⟩:∃ p,p=K-1:=⟨_,rfl⟩
    have e9:IntKind.i64.wrap ((K:Int)-1)=(p:Int):=by rw[ay om om];omega
    have e10:IntKind.i64.wrap ((K:Int)+1)=(K:Int)+1:=ay om om
    have hp1:K<dk.size:=by omega
    have hq1:p<dk.size:=by omega
    have gp:=bG hp1
    have gq:=bG hq1
    have bp:=D3.b _ hp1
    have bq:=D3.b _ hq1
    have rp:=cz (k:=K) (n:=d.size) om
    have rq:=cz (k:=p) (n:=d.size) om
    have hg:=D3.g
    refine aG d9 ?_
    refine ag rfl ?_
    refine aC ?_
    cases hl:bx dk[K]! dk[p]! with
    | false=>
      have d7:decide (fA dk[K]! dk[p]! < 0)=false:=hl
      rw[nT (by rw[← hp,hl];simp)] at k4
      have k4':d3'=dk:=k4.symm
      apply bu (L:=[[],[],[],[1,2],[3],[],[],[6],[5,7],[8],[0,4,9],[10],[11]]) (resL:=[_,_,_,_,_,_,_,_,_,_,_,_,_]) (frF:=[(0,.val (.slice (some ⟨id,0,some av⟩) d.size c)),(1,.val (i64 a)),(2,.val (i64 b)),(3,.val aP),(9,.val (i64 i2)),(10,.val (i64 J)),(124,.val (.bool true))])
      case hm=>exact mixed
      case hc=>kernel_rfl
      case hb=>rfl
      case hS=>
       refine yX e9 hg gp gq rp rq Nat.mul_one ?_
       apply aQ.cons
       ·exact bg (fn:=Tryz.f104) (args:=[dk[K]!.val,dk[p]!.val]) (cap:=[]) rfl (iQ e9) rfl al al Tryz.func104 kr kr (bJ bp bq)
       ·rfl
       exact rS d7 e9
      case ht=>rfl
      case hF=>exact zh
      show CW _ _ _ _
      refine aC ?_
      refine ag rfl ?_
      refine aB ?_
      subst k4'
      exact⟨rfl,k3,D3,k2,aM⟩
    | true=>
      have d7:decide (fA dk[K]! dk[p]! < 0)=true:=hl
      rw[vU hKb (by rw[← hp];exact hl),← hp] at k4
      apply bu (L:=[[],[],[],[1,2],[3],[],[],[6],[5,7],[8],[0,4,9],[10],[11]]) (resL:=[_,_,_,_,_,_,_,_,_,_,_,_,_]) (frF:=[(0,.val (.slice (some ⟨id,0,some av⟩) d.size c)),(1,.val (i64 a)),(2,.val (i64 b)),(3,.val aP),(9,.val (i64 i2)),(10,.val (i64 J)),(12,.val (i64 K)),(124,.val (.bool false))])
      case hm=>exact mixed
      case hc=>kernel_rfl
      case hb=>rfl
      case hS=>
       refine yX e9 hg gp gq rp rq Nat.mul_one ?_
       apply aQ.cons
       ·exact bg (fn:=Tryz.f104) (args:=[dk[K]!.val,dk[p]!.val]) (cap:=[]) rfl (iQ e9) rfl al al Tryz.func104 kr kr (bJ bp bq)
       ·rfl
       exact rS d7 e9
      case ht=>rfl
      case hF=>exact zh
      show CW _ _ _ _
      refine aC ?_
      refine ae rfl ?_
      refine aC ?_
      refine aA [(0,.val (.slice (some ⟨id,0,some av⟩) d.size c)),(1,.val (i64 a)),(2,.val (i64 b)),(3,.val aP),(9,.val (i64 i2)),(10,.val (i64 J)),(12,.val (i64 K))] aM ?_
      show CW _ _ ⟨_,[],hk⟩ _
      apply bm (L:=[[],[],[],[],[3],[],[],[6],[5,6,7],[5,6,7,8],[],[],[10,11],[10,11,12],[0,1],[0,1,5,6,7,8,9,10,11,12,13,14],[2,3,4],[0,1,2,3,4,5,6,7,8,9,10,11,12,13,14,15,16]]) (act:=[15,17]) (hs:=[hk.set id (.aq (IC (dk.setIfInBounds K dk[p]!)) av true 70),hk.set id (.aq (IC (Go.Sort.swp dk K p)) av true 70)]) (resL:=[_,_,_,_,_,_,_,_,_,_,_,_,_,_,_,_,_,_]) (frF:=[(0,.val (.slice (some ⟨id,0,some av⟩) d.size c)),(1,.val (i64 a)),(2,.val (i64 b)),(3,.val aP),(9,.val (i64 i2)),(10,.val (i64 J)),(12,.val (i64 K))])
      case hm=>exact mixed
      case hc=>kernel_rfl
      case ha=>rfl
      case hb=>rfl
      case hS=>
       refine Dz hg gp gq e9 rp rq Nat.mul_one ?_
       apply az.cons
       ·rfl
       ·refine⟨?_,trivial⟩
        exact bw (r:=.sl .dL) rfl al rfl al al hg al rfl (cQ (d:=dk) (i:=K) (x:=dk[p]!) hp1) rfl rfl
       ·rfl
       refine Dz hg gp gq e9 rp rq Nat.mul_one ?_
       apply az.cons
       ·rfl
       ·refine⟨?_,trivial⟩
        exact bw (r:=.sl .dL) rfl al rfl al al (aw hg) al rfl (cQ (d:=dk.setIfInBounds K dk[p]!) (i:=p) (x:=dk[K]!) (by simpa using hq1)) rfl aN.symm
       ·rfl
       exact az.nil _
      case ht=>rfl
      case hF=>exact zh
      show CW _ _ _ _
      refine aG e10 ?_
      exact⟨(K+1,Go.Sort.swp dk K p,_),by simp only;omega,aM,rfl,by simp only;omega,by simp only;omega,by simp only;rw[swp_size];exact k2,by simp only;rw[k3,aN],D3.swp hp1 hq1,k4⟩
   ·have d9:decide ((K:Int)<(b:Int))=false:=decide_eq_false om
    rw[nT om] at k4
    have k4':d3'=dk:=k4.symm
    refine aG d9 ?_
    refine ae rfl ?_
    refine aB ?_
    subst k4'
    exact⟨rfl,k3,D3,k2,aM⟩
  ·have d8:decide (2≤(m1:Int))=false:=decide_eq_false om
   rw[if_neg om] at hd3
   subst hd3
   refine ae (iQ d8) ?_
   refine aC ?_
   exact⟨rfl,rfl,D3,h8,aM⟩
 rintro e s' ⟨rfl,hh,D4,h9,hf⟩
 show CW _ _ _ _
 refine aA _ hf ?_
 rw[hh] at D4 ⊢
 refine aG eJ ?_
 exact⟨(J+1,i2,d3',_),by simp only;omega,aM,rfl,by simp only;omega,by simp only;omega,by simp only;omega,h9,rfl,D4,by simp only;rw[show 5-(J+1)=s by omega];exact hstep.symm⟩
·have d1:decide ((J:Int)<5)=false:=decide_eq_false om
 rw[show 5-J=0 by omega] at h5
 have hend:P=(dc,false):=h5.symm
 refine aG d1 ?_
 refine ae rfl ?_
 refine aB ?_
 show CW _ _ _ _
 refine aC ?_
 refine ak ?_
 rw[hend]
 exact⟨_,al,rfl,h4,D1,h3⟩}
theorem oJ {h:ai} {id av c a b n sid:Nat} {d:Array aR} (D:DA h id av d) (ha:a<d.size) (hb:b<d.size) (hs:h[sid]? = some (.aq [i64 n] 0 true 3)) (hn:n≤1000) : FW env 216 [.slice (some ⟨id,0,some av⟩) d.size c,i64 a,i64 b,.pointer (some ⟨sid,0,some 0⟩),aP] h fun r h'=> r = .tuple #[i64 (Go.Sort.order2 bx d a b n).1,i64 (Go.Sort.order2 bx d a b n).2.1]∧h'=h.set sid (.aq [i64 (Go.Sort.order2 bx d a b n).2.2] 0 true 3):=by{
have hg:=D.g
have hsz:=D.n
have ga:=bG ha
have gb:=bG hb
have ba:=D.b _ ha
have bb:=D.b _ hb
have ra:=cz (k:=a) (n:=d.size) ha
have rb:=cz (k:=b) (n:=d.size) hb
have e1:IntKind.i64.wrap ((n:Int)+1)=((n+1:Nat):Int):=by rw[ay om om];omega
refine fe Tryz.func216 ?_;simp only[push_cast]
refine aC ?_
refine aA [(0,.val (.slice (some ⟨id,0,some av⟩) d.size c)),(1,.val (i64 a)),(2,.val (i64 b)),(3,.val (.pointer (some ⟨sid,0,some 0⟩))),(4,.val aP)] aM ?_
show CW _ _ ⟨_,[],h⟩ _
cases hl:bx d[b]! d[a]! with
| false=>
  have d7:decide (fA d[b]! d[a]! < 0)=false:=hl
  have ho:Go.Sort.order2 bx d a b n=(a,b,n):=by unfold Go.Sort.order2;rw[hl];rfl
  apply bu (L:=[[],[],[],[1,2],[3],[],[],[5,6],[7],[0,4,8],[9]]) (resL:=[_,_,_,_,_,_,_,_,_,_,_]) (frF:=[(1,.val (i64 a)),(2,.val (i64 b)),(22,.val (.bool false))])
  case hm=>exact mixed
  case hc=>kernel_rfl
  case hb=>rfl
  case hS=>
   refine UF hg ga gb ra rb Nat.mul_one ?_
   apply aQ.cons
   ·exact bg (fn:=Tryz.f104) (args:=[d[b]!.val,d[a]!.val]) (cap:=[]) rfl al rfl al al Tryz.func104 kr kr (bJ bb ba)
   ·rfl
   exact Cj d7
  case ht=>rfl
  case hF=>exact zh
  show CW _ _ _ _
  refine aC ?_
  refine ae rfl ?_
  refine aC ?_
  refine ak ?_
  exact⟨_,al,by rw[ho];rfl,by rw[ho];exact (fJ hs).symm⟩
| true=>
  have d7:decide (fA d[b]! d[a]! < 0)=true:=hl
  have ho:Go.Sort.order2 bx d a b n=(b,a,n+1):=by unfold Go.Sort.order2;rw[hl];rfl
  apply bu (L:=[[],[],[],[1,2],[3],[],[],[5,6],[7],[0,4,8],[9]]) (resL:=[_,_,_,_,_,_,_,_,_,_,_]) (frF:=[(1,.val (i64 a)),(2,.val (i64 b)),(3,.val (.pointer (some ⟨sid,0,some 0⟩))),(22,.val (.bool true))])
  case hm=>exact mixed
  case hc=>kernel_rfl
  case hb=>rfl
  case hS=>
   refine UF hg ga gb ra rb Nat.mul_one ?_
   apply aQ.cons
   ·exact bg (fn:=Tryz.f104) (args:=[d[b]!.val,d[a]!.val]) (cap:=[]) rfl al rfl al al Tryz.func104 kr kr (bJ bb ba)
   ·rfl
   exact Cj d7
  case ht=>rfl
  case hF=>exact zh
  show CW _ _ _ _
  refine aC ?_
  refine ag rfl ?_
  refine fz hs e1 ?_
  refine bY al rfl rfl al al hs al rfl rfl ?_
  refine aC ?_
  refine ak ?_
  exact⟨_,al,by rw[ho];rfl,by rw[ho];rfl⟩}
theorem jX {d:Array aR} {a b n:Nat} (ha:a<d.size) (hb:b<d.size):(Go.Sort.order2 bx d a b n).1<d.size∧(Go.Sort.order2 bx d a b n).2.1<d.size∧(Go.Sort.order2 bx d a b n).2.2≤n+1:=by{
unfold Go.Sort.order2
split
·exact⟨hb,ha,Nat.le_refl _⟩
·exact⟨ha,hb,Nat.le_succ _⟩}
theorem DA.PE {h:ai} {id av sid n m:Nat} {d:Array aR} (D:DA h id av d) (hs:h[sid]? = some (.aq [i64 n] 0 true 3)):DA (h.set sid (.aq [i64 m] 0 true 3)) id av d:=
 ⟨by
  rw[aD (by
   rintro rfl
   have:=D.g
   rw[hs] at this
   simp only[Option.some.injEq,ax.aq.injEq] at this
   exact absurd this.2.2.2 (by decide))]
  exact D.g,D.n,D.b⟩
theorem oS {h:ai} {id av c a b e n sid:Nat} {d:Array aR} (D:DA h id av d) (ha:a<d.size) (hb:b<d.size) (he:e<d.size) (hs:h[sid]? = some (.aq [i64 n] 0 true 3)) (hn:n≤900) : FW env 210 [.slice (some ⟨id,0,some av⟩) d.size c,i64 a,i64 b,i64 e,.pointer (some ⟨sid,0,some 0⟩),aP] h fun r h'=> r=i64 (Go.Sort.median bx d a b e n).1∧h'=h.set sid (.aq [i64 (Go.Sort.median bx d a b e n).2] 0 true 3):=by{
obtain⟨x1,y1,z1⟩:=jX (n:=n) ha hb
obtain⟨q1,hq1⟩:∃ q,Go.Sort.order2 bx d a b n=q:=⟨_,rfl⟩
rw[hq1] at x1 y1 z1
obtain⟨x2,y2,z2⟩:=jX (n:=q1.2.2) y1 he
obtain⟨q2,hq2⟩:∃ q,Go.Sort.order2 bx d q1.2.1 e q1.2.2=q:=⟨_,rfl⟩
rw[hq2] at x2 y2 z2
obtain⟨q3,hq3⟩:∃ q,Go.Sort.order2 bx d q1.1 q2.1 q2.2.2=q:=⟨_,rfl⟩
have hm:Go.Sort.median bx d a b e n=(q3.2.1,q3.2.2):=by
 unfold Go.Sort.median
 simp only[hq1,hq2,hq3]
rw[hm]
refine fe Tryz.func210 ?_;simp only[push_cast]
refine aC ?_
refine zj Tryz.func216 ?_
rw[List.append_nil]
refine (oJ (c:=c) D ha hb hs om).mono ?_
rw[hq1]
rintro _ h1 ⟨rfl,k1⟩
have D1:DA h1 id av d:=by rw[k1];exact D.PE hs
have hs1:h1[sid]? = some (.aq [i64 q1.2.2] 0 true 3):=by rw[k1];exact aw hs
refine aC ?_
refine zj Tryz.func216 ?_
rw[List.append_nil]
refine (oJ (c:=c) D1 y1 he hs1 om).mono ?_
rw[hq2]
rintro _ h2 ⟨rfl,k2⟩
have D2:DA h2 id av d:=by rw[k2];exact D1.PE hs1
have hs2:h2[sid]? = some (.aq [i64 q2.2.2] 0 true 3):=by rw[k2];exact aw hs1
refine aC ?_
refine zj Tryz.func216 ?_
rw[List.append_nil]
refine (oJ (c:=c) D2 x1 x2 hs2 om).mono ?_
rw[hq3]
rintro _ h3 ⟨rfl,k3⟩
refine aC ?_
refine ak ?_
exact⟨_,al,rfl,by rw[k3,k2,k1,aN,aN]⟩}
theorem o9 {h:ai} {id av c a n sid:Nat} {d:Array aR} (D:DA h id av d) (h0:0<a) (ha:a+1<d.size) (hs:h[sid]? = some (.aq [i64 n] 0 true 3)) (hn:n≤900) : FW env 209 [.slice (some ⟨id,0,some av⟩) d.size c,i64 a,.pointer (some ⟨sid,0,some 0⟩),aP] h fun r h'=> r=i64 (Go.Sort.medianAdjacent bx d a n).1∧h'=h.set sid (.aq [i64 (Go.Sort.medianAdjacent bx d a n).2] 0 true 3):=by{
have hsz:=D.n
have e1:IntKind.i64.wrap ((a:Int)-1)=((a-1:Nat):Int):=by rw[ay om om];omega
have e2:IntKind.i64.wrap ((a:Int)+1)=((a+1:Nat):Int):=by rw[ay om om];omega
have k:=oS (c:=c) (a:=a-1) (b:=a) (e:=a+1) (n:=n) D om om ha hs hn
have hm:Go.Sort.medianAdjacent bx d a n=Go.Sort.median bx d (a-1) a (a+1) n:=rfl
rw[hm]
obtain⟨p,hp⟩:∃ p,p=a-1:=⟨_,rfl⟩
obtain⟨q,hq⟩:∃ q,q=a+1:=⟨_,rfl⟩
rw[← hp,← hq] at k ⊢
rw[← hp] at e1
rw[← hq] at e2
refine fe Tryz.func209 ?_;simp only[push_cast]
refine fz e1 e2 ?_
refine zj Tryz.func210 ?_
rw[List.append_nil]
refine k.mono ?_
rintro _ h1 ⟨rfl,k1⟩
refine aC ?_
refine ak ?_
exact⟨_,al,rfl,k1⟩}
theorem QV {N:Env} {f:FuncId} {args:List Value} {h:ai} {Q:Value→Prop} (k:FW N f args h fun r h'=>Q r∧dx h.length r∧h'.take h.length=h):FW N f args h fun r h'=>Q r∧h'=h:=by{
unfold FW at k ⊢
obtain⟨r,h',h1,h2,h3,h4⟩:=k
exact⟨r,h,.gc h1 h3 h4,h2,rfl⟩}
theorem fU {n:Nat} {a b:Int}:dx n (.tuple #[i64 a,i64 b]):=by{
refine .DB fun i v h=>?_
match i,h with
| 0,h=>cases h;exact .bf rfl
| 1,h=>cases h;exact .bf rfl}
theorem du {h:ai} {n:Nat} {x:ax}:(h.set n x).take n=h.take n:=by
 rw[List.take_set,List.set_eq_of_length_le (by simp;omega)]
theorem ic {h:ai} {x:ax}:(h++[x]).take h.length=h:=by simp
theorem jP {d:Array aR} {a b c s:Nat} (ha:a<d.size) (hb:b<d.size) (hc:c<d.size):(Go.Sort.median bx d a b c s).2≤s+3:=by{
have h1:=jX (n:=s) ha hb
have h2:=jX (n:=(Go.Sort.order2 bx d a b s).2.2) h1.2.1 hc
have h3:=jX (n:=(Go.Sort.order2 bx d (Go.Sort.order2 bx d a b s).2.1 c (Go.Sort.order2 bx d a b s).2.2).2.2) h1.1 h2.1
unfold Go.Sort.median
simp only
omega}
theorem FZ {h:ai} {id av c a b:Nat} {d:Array aR} (D:DA h id av d) (hab:a<b) (hb:b≤d.size) : FW env 183 [.slice (some ⟨id,0,some av⟩) d.size c,i64 a,i64 b,aP] h fun r h'=> (∃ p hint:Nat,r = .tuple #[i64 p,i64 hint]∧a≤p∧p<b)∧h'=h:=by{
have hsz:=D.n
refine QV ?_
obtain⟨l,hl⟩:∃ l,l=b-a:=⟨_,rfl⟩
obtain⟨q,hq⟩:∃ q,q=l / 4:=⟨_,rfl⟩
obtain⟨x1,hx1⟩:∃ x1,x1=a+q:=⟨_,rfl⟩
obtain⟨x2,hx2⟩:∃ x2,x2=a+q*2:=⟨_,rfl⟩
obtain⟨x3,hx3⟩:∃ x3,x3=a+q*3:=⟨_,rfl⟩
have e1:IntKind.i64.wrap ((b:Int)-a)=(l:Int):=by rw[ay om om];omega
have e2:IntKind.i64.wrap ((l:Int).tdiv 4)=(q:Int):=by
 have:(l:Int).tdiv 4=(q:Int):=by rw[hq];rfl
 rw[this,ay om om]
have e3:IntKind.i64.wrap ((q:Int)*1)=(q:Int):=by rw[ay om om];omega
have e4:IntKind.i64.wrap ((q:Int)*2)=(q:Int)*2:=ay om om
have e5:IntKind.i64.wrap ((q:Int)*3)=(q:Int)*3:=ay om om
have f1:IntKind.i64.wrap ((a:Int)+(q:Int))=(x1:Int):=by rw[ay om om];omega
have f2:IntKind.i64.wrap ((a:Int)+(q:Int)*2)=(x2:Int):=by rw[ay om om];omega
have f3:IntKind.i64.wrap ((a:Int)+(q:Int)*3)=(x3:Int):=by rw[ay om om];omega
have hq4:q*4≤l:=by omega
refine fe Tryz.func183 ?_;simp only[push_cast]
refine zu ?_
iterate 2 (apply eH;·simp only[push_cast,env,Nat.reduceEqDiff,reduceIte,Nat.reduceAdd,Nat.reduceMul,Nat.reduceLeDiff,reduceCtorEq,Nat.reduceSub,Int.reduceToNat]<;>exact rfl)
refine zu ?_
iterate 4 (apply eH;·simp only[push_cast,env,Nat.reduceEqDiff,reduceIte,Nat.reduceAdd,Nat.reduceMul,Nat.reduceLeDiff,reduceCtorEq,Nat.reduceSub,Int.reduceToNat,e1]<;>exact rfl)
refine zu ?_
refine dK (t:=3) (cs:=[i64 0]) al al ?_
dsimp only[St.a9,St.put]
have D0:DA (h++[.aq [i64 (0:Nat)] 0 true 3]) id av d:=⟨bA D.g,D.n,D.b⟩
have s0:(h++[.aq [i64 (0:Nat)] 0 true 3])[h.length]? = some (.aq [i64 (0:Nat)] 0 true 3):=aK
refine OO e1 e2 e3 e4 e5 f1 f2 f3 ?_
by_cases h8:8≤l
·have d1:decide (8≤(l:Int))=true:=decide_eq_true om
 have b1:a<x1∧x1+1<b:=by omega
 have b2:a<x2∧x2+1<b:=by omega
 have b3:a<x3∧x3+1<b:=by omega
 clear e2 e3 e4 e5 f1 f2 f3 hq hx1 hx2 hx3 hq4
 refine ag (iQ d1) ?_
 by_cases h50:50≤l
 ·have d2:decide (50≤(l:Int))=true:=decide_eq_true om
  clear hl e1
  refine aG d2 ?_
  refine ag rfl ?_
  refine aC ?_
  refine zj Tryz.func209 ?_
  rw[List.append_nil]
  refine (o9 (c:=c) D0 om om s0 om).mono ?_
  have hm1:=Go.Sort.medianAdjacent_mem bx d x1 0
  have hc1:(Go.Sort.medianAdjacent bx d x1 0).2≤0+3:=jP om om om
  obtain⟨p1,hp1⟩:∃ p,Go.Sort.medianAdjacent bx d x1 0=p:=⟨_,rfl⟩
  rw[hp1] at hm1 hc1 ⊢
  have hr1:a≤p1.1∧p1.1<b:=by omega
  clear hm1 hp1
  rintro _ h1 ⟨rfl,k1⟩
  have D1:DA h1 id av d:=by rw[k1];exact (D0).PE s0
  have s1:h1[h.length]? = some (.aq [i64 p1.2] 0 true 3):=by rw[k1];exact aw s0
  refine aC ?_
  refine zj Tryz.func209 ?_
  rw[List.append_nil]
  refine (o9 (c:=c) D1 om om s1 om).mono ?_
  have hm2:=Go.Sort.medianAdjacent_mem bx d x2 p1.2
  have hc2:(Go.Sort.medianAdjacent bx d x2 p1.2).2≤p1.2+3:=jP om om om
  obtain⟨p2,hp2⟩:∃ p,Go.Sort.medianAdjacent bx d x2 p1.2=p:=⟨_,rfl⟩
  rw[hp2] at hm2 hc2 ⊢
  have hr2:a≤p2.1∧p2.1<b:=by omega
  clear hm2 hp2
  rintro _ h2 ⟨rfl,k2⟩
  have D2:DA h2 id av d:=by rw[k2];exact (D1).PE s1
  have s2:h2[h.length]? = some (.aq [i64 p2.2] 0 true 3):=by rw[k2];exact aw s1
  refine aC ?_
  refine zj Tryz.func209 ?_
  rw[List.append_nil]
  refine (o9 (c:=c) D2 om om s2 om).mono ?_
  have hm3:=Go.Sort.medianAdjacent_mem bx d x3 p2.2
  have hc3:(Go.Sort.medianAdjacent bx d x3 p2.2).2≤p2.2+3:=jP om om om
  obtain⟨p3,hp3⟩:∃ p,Go.Sort.medianAdjacent bx d x3 p2.2=p:=⟨_,rfl⟩
  rw[hp3] at hm3 hc3 ⊢
  have hr3:a≤p3.1∧p3.1<b:=by omega
  clear hm3 hp3
  rintro _ h3 ⟨rfl,k3⟩
  have D3:DA h3 id av d:=by rw[k3];exact (D2).PE s2
  have s3:h3[h.length]? = some (.aq [i64 p3.2] 0 true 3):=by rw[k3];exact aw s2
  refine aC ?_
  refine zj Tryz.func210 ?_
  rw[List.append_nil]
  refine (oS (c:=c) D3 om om om s3 om).mono ?_
  have hmm:=Go.Sort.median_mem bx d p1.1 p2.1 p3.1 p3.2
  have hmc:(Go.Sort.median bx d p1.1 p2.1 p3.1 p3.2).2≤p3.2+3:=jP om om om
  obtain⟨pm,hpm⟩:∃ p,Go.Sort.median bx d p1.1 p2.1 p3.1 p3.2=p:=⟨_,rfl⟩
  rw[hpm] at hmm hmc ⊢
  have hrm:a≤pm.1∧pm.1<b:=by omega
  clear hmm hpm
  rintro _ hM ⟨rfl,kM⟩
  have sM:hM[h.length]? = some (.aq [i64 pm.2] 0 true 3):=by rw[kM];exact aw s3
  obtain⟨n,hn⟩:∃ n,n=pm.2:=⟨_,rfl⟩
  rw[← hn] at sM
  refine aG sM ?_
  by_cases hz:n=0
  ·have d3:decide ((n:Int)=0)=true:=decide_eq_true om
   refine ag (iQ d3) ?_
   refine aC ?_
   refine ak ?_
   exact⟨_,al,⟨_,1,rfl,hrm⟩,fU,(by rw[kM,du,k3,du,k2,du,k1,du,ic])⟩
  have d3:decide ((n:Int)=0)=false:=decide_eq_false om
  by_cases hz2:n=12
  ·have d4:decide ((n:Int)=12)=true:=decide_eq_true om
   refine ae (iQ d3) ?_
   refine aG d4 ?_
   refine ag rfl ?_
   refine aC ?_
   refine ak ?_
   exact⟨_,al,⟨_,2,rfl,hrm⟩,fU,(by rw[kM,du,k3,du,k2,du,k1,du,ic])⟩
  have d4:decide ((n:Int)=12)=false:=decide_eq_false om
  refine ae (iQ d3) ?_
  refine aG d4 ?_
  refine ae rfl ?_
  refine aC ?_
  refine ak ?_
  exact⟨_,al,⟨_,0,rfl,hrm⟩,fU,(by rw[kM,du,k3,du,k2,du,k1,du,ic])⟩
 ·have d2:decide (50≤(l:Int))=false:=decide_eq_false om
  clear hl e1
  refine aG d2 ?_
  refine ae rfl ?_
  refine aC ?_
  refine zj Tryz.func210 ?_
  rw[List.append_nil]
  refine (oS (c:=c) D0 om om om s0 om).mono ?_
  have hmm:=Go.Sort.median_mem bx d x1 x2 x3 0
  have hmc:(Go.Sort.median bx d x1 x2 x3 0).2≤0+3:=jP om om om
  obtain⟨pm,hpm⟩:∃ p,Go.Sort.median bx d x1 x2 x3 0=p:=⟨_,rfl⟩
  rw[hpm] at hmm hmc ⊢
  have hrm:a≤pm.1∧pm.1<b:=by omega
  clear hmm hpm
  rintro _ hM ⟨rfl,kM⟩
  have sM:hM[h.length]? = some (.aq [i64 pm.2] 0 true 3):=by rw[kM];exact aw s0
  obtain⟨n,hn⟩:∃ n,n=pm.2:=⟨_,rfl⟩
  rw[← hn] at sM
  refine aG sM ?_
  by_cases hz:n=0
  ·have d3:decide ((n:Int)=0)=true:=decide_eq_true om
   refine ag (iQ d3) ?_
   refine aC ?_
   refine ak ?_
   exact⟨_,al,⟨_,1,rfl,hrm⟩,fU,(by rw[kM,du,ic])⟩
  have d3:decide ((n:Int)=0)=false:=decide_eq_false om
  by_cases hz2:n=12
  ·have d4:decide ((n:Int)=12)=true:=decide_eq_true om
   refine ae (iQ d3) ?_
   refine aG d4 ?_
   refine ag rfl ?_
   refine aC ?_
   refine ak ?_
   exact⟨_,al,⟨_,2,rfl,hrm⟩,fU,(by rw[kM,du,ic])⟩
  have d4:decide ((n:Int)=12)=false:=decide_eq_false om
  refine ae (iQ d3) ?_
  refine aG d4 ?_
  refine ae rfl ?_
  refine aC ?_
  refine ak ?_
  exact⟨_,al,⟨_,0,rfl,hrm⟩,fU,(by rw[kM,du,ic])⟩
·have d1:decide (8≤(l:Int))=false:=decide_eq_false om
 have b2:a≤x2∧x2<b:=by omega
 clear e2 e3 e4 e5 f1 f2 f3 hq hx1 hx2 hx3 hq4
 refine ae (iQ d1) ?_
 repeat (first|apply zs|apply zr|apply zn|((first|apply zx|apply zy);·simp only[push_cast,env,Nat.reduceEqDiff,reduceIte,Nat.reduceAdd,Nat.reduceMul,Nat.reduceLeDiff,reduceCtorEq,Nat.reduceSub,Int.reduceToNat,aK]<;>first|exact rfl|exact .inl rfl|exact .inr rfl) | apply zq|apply zb|apply zo|apply zk|apply zl)
 refine ag rfl ?_
 refine aC ?_
 refine ak ?_
 exact⟨_,al,⟨_,1,rfl,b2⟩,fU,ic⟩}
theorem mb {x:Int} (h0:0≤x) (h1:x<18446744073709551616):IntKind.u64.wrap x=x:=by
 have:IntKind.u64.wrap x=x % 18446744073709551616:=by simp [IntKind.wrap,IntKind.bits,IntKind.signed]
 omega
theorem J6 {x:Int} (h0:0≤x) (h1:x<256):IntKind.u8.wrap x=x:=by
 have:IntKind.u8.wrap x=x % 256:=by simp [IntKind.wrap,IntKind.bits,IntKind.signed]
 omega
theorem JV {m k p:Nat} (h:2 ^ k=p) (hk:k≤64):(m:Int).fdiv (2 ^ min k IntKind.u64.bits)=((m / p:Nat):Int):=by{
have h1:min k IntKind.u64.bits=k:=by
 show min k 64=k
 omega
have h2:(2:Int) ^ k=(p:Int):=by rw[← h];push_cast;rfl
rw[h1,h2,Int.fdiv_eq_ediv_of_nonneg _ om]
rfl}
def wQ:ByteArray:=⟨((List.range 256).map fun n=>UInt8.ofNat (Go.Sort.bitsLen n)).toArray⟩
theorem zC {n:Nat} (h:n<256):wQ[n]? = some (UInt8.ofNat (Go.Sort.bitsLen n)):=by{
have hs:wQ.size=256:=by
 show ((List.range 256).map fun n=>UInt8.ofNat (Go.Sort.bitsLen n)).toArray.size=256
 simp only[List.size_toArray,List.length_map,List.length_range]
rw[getElem?_pos wQ n (by rw[hs];exact h)]
congr 1
show ((List.range 256).map fun n=>UInt8.ofNat (Go.Sort.bitsLen n)).toArray[n]'(by simp only[List.size_toArray,List.length_map,List.length_range];exact h)=_
simp only[List.getElem_toArray,List.getElem_map,List.getElem_range]}
theorem Ak {n:Nat} (h:n<256):(UInt8.ofNat (Go.Sort.bitsLen n)).toNat=Go.Sort.bitsLen n:=by{
have:=(Go.Sort.bitsLen_le_iff n 8).2 h
rw[UInt8.toNat_ofNat']
omega}
theorem EQ {all:Array Oper} {o:Oper} {s:St} {t:TypeId} {x i:Operand} {b:ByteArray} {k:IntKind} {n:Nat} (hg:aE all o s=some true) (ho:o.op = .index t x i) (hu:env.P.underlying t=some .string) (hx:ev s x=some (.string b)) (hi:ev s i=some (.int k n)) (hb:b=wQ) (hn:n<256) : uS env all o s=some (s.a9 o.dst (.val (.int .u8 (Go.Sort.bitsLen n)))):=by{
unfold uS
rw[hg,ho]
simp only[qU,ln,hu,hx,hi,hb,Int.toNat_natCast,zC hn,Ak hn,Int.natCast_nonneg,if_true]}
theorem rG {n k:Nat} (h:2 ^ k≤n):Go.Sort.bitsLen n=k+Go.Sort.bitsLen (n / 2 ^ k):=by{
have h1:=Go.Sort.lt_two_pow_bitsLen (n / 2 ^ k)
apply Nat.le_antisymm
·rw[Go.Sort.bitsLen_le_iff,Nat.pow_add]
 have:=(Nat.div_lt_iff_lt_mul (Nat.two_pow_pos k)).1 h1
 rwa [Nat.mul_comm] at this
·have h2:=Go.Sort.lt_two_pow_bitsLen n
 have h3:k≤Go.Sort.bitsLen n:=by
  rcases Nat.lt_or_ge (Go.Sort.bitsLen n) k with h3|h3
  ·have:=(Go.Sort.bitsLen_le_iff n k).1 (Nat.le_of_lt h3)
   omega
  ·exact h3
 have h4:Go.Sort.bitsLen (n / 2 ^ k)≤Go.Sort.bitsLen n-k:=by
  rw[Go.Sort.bitsLen_le_iff,Nat.div_lt_iff_lt_mul (Nat.two_pow_pos k),← Nat.pow_add]
  rwa [Nat.sub_add_cancel h3]
 omega}
theorem F2 {h:ai} {n:Nat} (hn:n≤1000000000):FW env 189 [.int .u64 n] h fun r h'=>r=i64 (Go.Sort.bitsLen n)∧h'=h:=by{
refine fe Tryz.func189 ?_;simp only[push_cast]
have d1:decide (4294967296≤(n:Int))=false:=decide_eq_false om
refine aG d1 ?_
refine ae rfl ?_
obtain⟨z,hz⟩:∃ z:Nat,z=0:=⟨_,rfl⟩
have ez:(0:Int)=(z:Int):=by omega
refine aC ?_
refine aA [(0,.val (.int .u64 n)),(2,.val (i64 z)),(8,.val (.bool (decide (65536≤(n:Int)))))] (by rw[hz];exact⟨rfl,rfl,rfl,trivial⟩) ?_
show CW _ _ ⟨_,[],h⟩ _
refine CW.mono (Q:=fun e s'=>e = .normal∧s'.h=h∧∃ m k:Nat,k+Go.Sort.bitsLen m=Go.Sort.bitsLen n∧m<65536∧k≤16∧bD [(0,.val (.int .u64 m)),(2,.val (i64 k))] s'.fr) ?_ ?_
·by_cases h1:65536≤n
 ·have d2:decide (65536≤(n:Int))=true:=decide_eq_true om
  have e1:(n:Int).fdiv (2 ^ min 16 IntKind.u64.bits)=((n / 65536:Nat):Int):=JV (by decide) (by decide)
  obtain⟨m',hm'⟩:∃ y,y=n / 65536:=⟨_,rfl⟩
  have hb:=rG (n:=n) (k:=16) h1
  have e3:n / 2 ^ 16=m':=hm'.symm
  rw[e3] at hb
  rw[← hm'] at e1
  have e2:IntKind.i64.wrap ((z:Int)+16)=((z+16:Nat):Int):=by rw[ay om om];omega
  obtain⟨k',hk'⟩:∃ y,y=z+16:=⟨_,rfl⟩
  rw[← hk'] at e2
  refine ag (iQ d2) ?_
  refine fz e1 e2 ?_
  exact⟨rfl,rfl,m',k',by omega,by omega,by omega,aM⟩
 ·have d2:decide (65536≤(n:Int))=false:=decide_eq_false om
  refine ae (iQ d2) ?_
  refine aC ?_
  exact⟨rfl,rfl,n,z,om,by omega,by omega,aM⟩
rintro e s' ⟨rfl,hh,m,k,hmk,hm,hk,hf⟩
show CW _ _ _ _
refine aA _ hf ?_
rw[hh]
clear hf hh
refine aC ?_
refine CW.mono (Q:=fun e s'=>e = .normal∧s'.h=h∧∃ m k:Nat,k+Go.Sort.bitsLen m=Go.Sort.bitsLen n∧m<256∧k≤24∧bD [(0,.val (.int .u64 m)),(2,.val (i64 k))] s'.fr) ?_ ?_
·by_cases h1:256≤m
 ·have d2:decide (256≤(m:Int))=true:=decide_eq_true om
  have e1:(m:Int).fdiv (2 ^ min 8 IntKind.u64.bits)=((m / 256:Nat):Int):=JV (by decide) (by decide)
  obtain⟨m',hm'⟩:∃ y,y=m / 256:=⟨_,rfl⟩
  have hb:=rG (n:=m) (k:=8) h1
  have e3:m / 2 ^ 8=m':=hm'.symm
  rw[e3] at hb
  rw[← hm'] at e1
  have e2:IntKind.i64.wrap ((k:Int)+8)=((k+8:Nat):Int):=by rw[ay om om];omega
  obtain⟨k',hk'⟩:∃ y,y=k+8:=⟨_,rfl⟩
  rw[← hk'] at e2
  refine ag (iQ d2) ?_
  refine fz e1 e2 ?_
  exact⟨rfl,rfl,m',k',by omega,by omega,by omega,aM⟩
 ·have d2:decide (256≤(m:Int))=false:=decide_eq_false om
  refine ae (iQ d2) ?_
  refine aC ?_
  exact⟨rfl,rfl,m,k,hmk,by omega,by omega,aM⟩
rintro e s' ⟨rfl,hh,m2,k2,hmk2,hm2,hk2,hf⟩
show CW _ _ _ _
refine aA _ hf ?_
rw[hh]
clear hf hh
have e1:IntKind.u8.wrap (m2:Int)=(m2:Int):=J6 om om
have hb8:=(Go.Sort.bitsLen_le_iff m2 8).2 hm2
have e2:IntKind.i64.wrap ((Go.Sort.bitsLen m2:Nat):Int)=(Go.Sort.bitsLen m2:Int):=ay om om
have e3:IntKind.i64.wrap ((k2:Int)+(Go.Sort.bitsLen m2:Int))=((Go.Sort.bitsLen n:Nat):Int):=by rw[ay om om];omega
refine zu ?_
iterate 3 (apply eH;·simp only[push_cast,env,Nat.reduceEqDiff,reduceIte,Nat.reduceAdd,Nat.reduceMul,Nat.reduceLeDiff,reduceCtorEq,Nat.reduceSub,Int.reduceToNat,e1]<;>exact rfl)
refine eH (EQ rfl rfl rfl rfl al kr hm2) ?_
dsimp only[St.a9,St.put]
refine fz e2 e3 ?_
refine ak ?_
exact⟨_,al,rfl,rfl⟩}
theorem AF {h:ai} {n:Nat} (hn:n≤1000000000):FW env 146 [.int .u64 n] h fun r h'=>r=i64 (Go.Sort.bitsLen n)∧h'=h:=by{
refine fe Tryz.func146 ?_;simp only[push_cast]
refine aC ?_
refine ae rfl ?_
refine aC ?_
refine zj Tryz.func189 ?_
rw[List.append_nil]
refine (F2 hn).mono ?_
rintro _ h1 ⟨rfl,rfl⟩
refine aC ?_
refine ak ?_
exact⟨_,al,rfl,rfl⟩}
theorem GM {h:ai} {n:Nat} (h0:8≤n) (hn:n≤1000000000):FW env 207 [i64 n] h fun r h'=>(∃ m:Nat,r = .int .u64 m∧0<m∧m≤2*n)∧h'=h:=by{
refine fe Tryz.func207 ?_;simp only[push_cast]
have e1:IntKind.u64.wrap (n:Int)=(n:Int):=mb om om
refine aG e1 ?_
refine zj Tryz.func146 ?_
rw[List.append_nil]
refine (AF hn).mono ?_
rintro _ h1 ⟨rfl,rfl⟩
have hb:=(Go.Sort.bitsLen_le_iff n 30).2 om
have hp:=Go.Sort.two_pow_bitsLen_le (n:=n) om
obtain⟨m,hm⟩:∃ m,m=2 ^ Go.Sort.bitsLen n:=⟨_,rfl⟩
have hm0:0<m:=by rw[hm];exact Nat.two_pow_pos _
rw[← hm] at hp
obtain⟨B,hB⟩:∃ B,Go.Sort.bitsLen n=B:=⟨_,rfl⟩
rw[hB] at hm hb ⊢
have d1:¬ ((B:Int)<0):=by omega
have e2:IntKind.u64.wrap (1*2 ^ min B IntKind.u64.bits)=(m:Int):=by
 have:min B IntKind.u64.bits=B:=by
  show min B 64=B
  omega
 have h2:(2:Int) ^ B=(m:Int):=by rw[hm];push_cast;rfl
 rw[this,Int.one_mul,h2]
 exact mb om om
refine fz d1 e2 ?_
refine ak ?_
exact⟨_,al,⟨m,rfl,hm0,hp⟩,rfl⟩}
theorem E1 {h:ai} {sid:Nat} {v:Int} (hs:h[sid]? = some (.aq [.int .u64 v] 0 true 256)) : FW env 208 [.pointer (some ⟨sid,0,some 0⟩)] h fun r h'=>∃ w:Int,r = .int .u64 w∧h'=h.set sid (.aq [.int .u64 w] 0 true 256):=by{
refine fe Tryz.func208 ?_;simp only[push_cast]
refine aC ?_
refine aA [(0,.val (.pointer (some ⟨sid,0,some 0⟩)))] aM ?_
show CW _ _ ⟨_,[],h⟩ _
apply bm (L:=[[],[0],[1],[],[3],[4],[5],[2,6],[0],[0,1,2,3,4,5,6,7,8]]) (act:=[9]) (hs:=[h.set sid (.aq [.int .u64 _] 0 true 256)]) (resL:=[_,_,_,_,_,_,_,_,_,_]) (frF:=[(0,.val (.pointer (some ⟨sid,0,some 0⟩)))])
case hm=>exact mixed
case hc=>kernel_rfl
case ha=>rfl
case hb=>rfl
case hS=>
 refine PX hs ?_
 apply az.cons
 ·rfl
 ·refine⟨?_,trivial⟩
  exact bw (r:=.sl .dL) rfl al rfl al al hs al rfl rfl rfl rfl
 ·rfl
 exact az.nil _
case ht=>rfl
case hF=>exact zh
show CW _ _ ⟨_,[],h.set sid (.aq [.int .u64 (IntKind.u64.wrap _)] 0 true 256)⟩ _
generalize IntKind.u64.wrap _=v1
have hs1:(h.set sid (.aq [.int .u64 v1] 0 true 256))[sid]? = some (.aq [.int .u64 v1] 0 true 256):=aw hs
obtain⟨h1,k1⟩:∃ h1,h.set sid (.aq [.int .u64 v1] 0 true 256)=h1:=⟨_,rfl⟩
rw[k1] at hs1 ⊢
refine zu ?_
apply bm (L:=[[],[0],[1],[],[3],[4],[5],[2,6],[0],[0,1,2,3,4,5,6,7,8]]) (act:=[9]) (hs:=[h1.set sid (.aq [.int .u64 _] 0 true 256)]) (resL:=[_,_,_,_,_,_,_,_,_,_]) (frF:=[(0,.val (.pointer (some ⟨sid,0,some 0⟩)))])
case hm=>exact mixed
case hc=>kernel_rfl
case ha=>rfl
case hb=>rfl
case hS=>
 refine PX hs1 ?_
 apply az.cons
 ·rfl
 ·refine⟨?_,trivial⟩
  exact bw (r:=.sl .dL) rfl al rfl al al hs1 al rfl rfl rfl rfl
 ·rfl
 exact az.nil _
case ht=>rfl
case hF=>exact zh
show CW _ _ ⟨_,[],h1.set sid (.aq [.int .u64 (IntKind.u64.wrap _)] 0 true 256)⟩ _
generalize IntKind.u64.wrap _=v2
have hs2:(h1.set sid (.aq [.int .u64 v2] 0 true 256))[sid]? = some (.aq [.int .u64 v2] 0 true 256):=aw hs1
obtain⟨h2,k2⟩:∃ h2,h1.set sid (.aq [.int .u64 v2] 0 true 256)=h2:=⟨_,rfl⟩
rw[k2] at hs2 ⊢
refine zu ?_
apply bm (L:=[[],[0],[1],[],[3],[4],[5],[2,6],[0],[0,1,2,3,4,5,6,7,8]]) (act:=[9]) (hs:=[h2.set sid (.aq [.int .u64 _] 0 true 256)]) (resL:=[_,_,_,_,_,_,_,_,_,_]) (frF:=[(0,.val (.pointer (some ⟨sid,0,some 0⟩)))])
case hm=>exact mixed
case hc=>kernel_rfl
case ha=>rfl
case hb=>rfl
case hS=>
 refine PX hs2 ?_
 apply az.cons
 ·rfl
 ·refine⟨?_,trivial⟩
  exact bw (r:=.sl .dL) rfl al rfl al al hs2 al rfl rfl rfl rfl
 ·rfl
 exact az.nil _
case ht=>rfl
case hF=>exact zh
show CW _ _ ⟨_,[],h2.set sid (.aq [.int .u64 (IntKind.u64.wrap _)] 0 true 256)⟩ _
generalize IntKind.u64.wrap _=v3
have hs3:(h2.set sid (.aq [.int .u64 v3] 0 true 256))[sid]? = some (.aq [.int .u64 v3] 0 true 256):=aw hs2
obtain⟨h3,k3⟩:∃ h3,h2.set sid (.aq [.int .u64 v3] 0 true 256)=h3:=⟨_,rfl⟩
rw[k3] at hs3 ⊢
refine aG hs3 ?_
refine ak ?_
exact⟨_,al,v3,rfl,by rw[← k3,← k2,← k1,aN,aN]⟩}
theorem uq {Y:ai} {n:Nat} {x y:ax} (h:Y.length=n):(Y++[x]).set n y=Y++[y]:=by
 subst h
 simp
theorem C5 {Y:ai} {id:Nat} {x y:ax} (h:id<Y.length):(Y++[x]).set id y=Y.set id y++[x]:=List.set_append_left _ _ h
theorem Cq {Y:ai} {n:Nat} {x:ax} (h:Y.length=n):(Y++[x])[n]? = some x:=by
 subst h
 simp
theorem Du {w:Int} {m:Nat} (hm:m<18446744073709551616):∃ o:Nat,IntKind.u64.wrap ((BitVec.ofInt IntKind.u64.bits w &&& BitVec.ofInt IntKind.u64.bits (m:Int)).toNat)=(o:Int)∧o≤m:=by{
have h1:(BitVec.ofInt IntKind.u64.bits (m:Int)).toNat=m:=by
 show (BitVec.ofInt 64 (m:Int)).toNat=m
 rw[BitVec.toNat_ofInt]
 omega
refine⟨(BitVec.ofInt IntKind.u64.bits w &&& BitVec.ofInt IntKind.u64.bits (m:Int)).toNat,?_,?_⟩
·refine mb om ?_
 have:=(BitVec.ofInt IntKind.u64.bits w &&& BitVec.ofInt IntKind.u64.bits (m:Int)).isLt
 have e:(2:Nat) ^ IntKind.u64.bits=18446744073709551616:=rfl
 omega
·rw[BitVec.toNat_and,h1]
 exact Nat.and_le_right}
theorem Ny {h:ai} {id av c a b:Nat} {d:Array aR} {fv:Value} (D:DA h id av d) (h8:8≤b-a) (hb:b≤d.size) : FW env 182 [.slice (some ⟨id,0,some av⟩) d.size c,i64 a,i64 b,fv] h fun r h'=> r = .tuple #[]∧∃ d',Go.Sort.PermIn a b d d'∧DA h' id av d'∧h.set id (.aq (IC d') av true 70) <+: h':=by{
have hsz:=D.n
obtain⟨l,hl⟩:∃ l,l=b-a:=⟨_,rfl⟩
obtain⟨q,hq⟩:∃ q,q=l / 4:=⟨_,rfl⟩
obtain⟨A,hA⟩:∃ A,A=a+q*2-1:=⟨_,rfl⟩
obtain⟨B,hB⟩:∃ B,B=a+q*2+1:=⟨_,rfl⟩
have e1:IntKind.i64.wrap ((b:Int)-a)=(l:Int):=by rw[ay om om];omega
have e2:IntKind.i64.wrap ((l:Int).tdiv 4)=(q:Int):=by
 have:(l:Int).tdiv 4=(q:Int):=by rw[hq];rfl
 rw[this,ay om om]
have e4:IntKind.i64.wrap ((q:Int)*2)=(q:Int)*2:=ay om om
have e5:IntKind.i64.wrap ((a:Int)+(q:Int)*2)=(a:Int)+(q:Int)*2:=ay om om
have e6:IntKind.i64.wrap ((a:Int)+(q:Int)*2-1)=(A:Int):=by rw[ay om om];omega
have e7:IntKind.i64.wrap ((a:Int)+(q:Int)*2+1)=(B:Int):=by rw[ay om om];omega
have e8:IntKind.u64.wrap (l:Int)=(l:Int):=mb om om
have d1:decide (8≤(l:Int))=true:=decide_eq_true om
have hAa:a≤A:=by omega
have hBb:B<b:=by omega
have hAB:A+2=B:=by omega
have hla:l+a=b:=by omega
have hl8:8≤l:=by omega
clear hq hA hB hl
refine fe Tryz.func182 ?_;simp only[push_cast]
refine fz e1 d1 ?_
refine ag rfl ?_
refine zu ?_
iterate 2 (apply eH;·simp only[push_cast,env,Nat.reduceEqDiff,reduceIte,Nat.reduceAdd,Nat.reduceMul,Nat.reduceLeDiff,reduceCtorEq,Nat.reduceSub,Int.reduceToNat,e8]<;>exact rfl)
refine dK (t:=256) (cs:=[.int .u64 0]) al al ?_
dsimp only[St.a9,St.put]
refine bY al rfl rfl al al aK al rfl rfl ?_
rw[uq rfl]
refine aC ?_
refine zj Tryz.func207 ?_
rw[List.append_nil]
refine (GM hl8 om).mono ?_
rintro _ _ ⟨⟨m,rfl,hm0,hm⟩,rfl⟩
refine fN e2 e4 e5 e6 ?_
have hid:id<h.length:=(List.getElem?_eq_some_iff.1 D.g).1
have hsame:=fJ D.g
refine fl (fun x:Nat×Int×Array aR=>B+1-x.1) (fun x=>[(0,.val (.slice (some ⟨id,0,some av⟩) d.size c)),(1,.val (i64 a)),(8,.val (i64 l)),(9,.val (.pointer (some ⟨h.length,0,some 0⟩))),(10,.val (.int .u64 m)),(11,.val (i64 x.1))])
 (fun x=>h.set id (.aq (IC x.2.2) av true 70)++[.aq [.int .u64 x.2.1] 0 true 256])
 (fun x=>A≤x.1∧x.1≤B+1∧Go.Sort.PermIn a b d x.2.2∧DA (h.set id (.aq (IC x.2.2) av true 70)) id av x.2.2) (A,(l:Int),d) aM (by simp only[hsame]) ⟨Nat.le_refl _,by simp only;omega,Go.Sort.permIn_refl _ _ _,by simp only[hsame];exact D⟩ ?_
rintro⟨x,v,dc⟩ ⟨h1,h2,h3,D1⟩
simp only at h1 h2 h3 D1 ⊢
have hsz1:dc.size=d.size:=h3.1
have hL:∀ dd:Array aR,(h.set id (.aq (IC dd) av true 70)).length=h.length:=fun dd=>List.length_set ..
by_cases hxB:x≤B
·have d2:decide ((x:Int)≤(B:Int))=true:=decide_eq_true om
 have e9:IntKind.i64.wrap ((x:Int)+1)=(x:Int)+1:=ay om om
 have e10:IntKind.u64.wrap ((m:Int)-1)=((m-1:Nat):Int):=by rw[mb om om];omega
 obtain⟨m1,hm1⟩:∃ m1,m1=m-1:=⟨_,rfl⟩
 rw[← hm1] at e10
 refine mE e2 e4 e5 e7 d2 ?_
 refine ag rfl ?_
 refine aC ?_
 refine zj Tryz.func208 ?_
 rw[List.append_nil]
 refine (E1 (v:=v) (Cq (hL _))).mono ?_
 rintro _ _ ⟨w,rfl,rfl⟩
 rw[uq (hL _)]
 obtain⟨o,ho,hom⟩:=Du (w:=w) (m:=m1) om
 have e11:IntKind.i64.wrap (o:Int)=(o:Int):=ay om om
 refine gU e10 ho e11 ?_
 refine CW.mono (Q:=fun e s'=>e = .normal∧s'.h=h.set id (.aq (IC dc) av true 70)++[.aq [.int .u64 w] 0 true 256]∧∃ p:Nat,p<l∧bD [(0,.val (.slice (some ⟨id,0,some av⟩) d.size c)),(1,.val (i64 a)),(8,.val (i64 l)),(9,.val (.pointer (some ⟨h.length,0,some 0⟩))),(10,.val (.int .u64 m)),(11,.val (i64 x)),(12,.val (i64 p))] s'.fr) ?_ ?_
 ·by_cases hol:l≤o
  ·have d3:decide ((l:Int)≤(o:Int))=true:=decide_eq_true om
   obtain⟨p,hp⟩:∃ p,p=o-l:=⟨_,rfl⟩
   have e12:IntKind.i64.wrap ((o:Int)-(l:Int))=(p:Int):=by rw[ay om om];omega
   refine ag (iQ d3) ?_
   refine aG e12 ?_
   exact⟨rfl,rfl,p,by omega,aM⟩
  ·have d3:decide ((l:Int)≤(o:Int))=false:=decide_eq_false om
   refine ae (iQ d3) ?_
   refine aC ?_
   exact⟨rfl,rfl,o,by omega,aM⟩
 rintro e s' ⟨rfl,hh,p,hpl,hf⟩
 show CW _ _ _ _
 refine aA _ hf ?_
 rw[hh]
 clear hf hh
 obtain⟨y,hy⟩:∃ y,y=a+p:=⟨_,rfl⟩
 have e13:IntKind.i64.wrap ((a:Int)+(p:Int))=(y:Int):=by rw[ay om om];omega
 have e14:IntKind.i64.wrap ((p:Int)+(a:Int))=(y:Int):=by rw[ay om om];omega
 have hx1:x<dc.size:=by omega
 have hy1:y<dc.size:=by omega
 have gx:=bG hx1
 have gy:=bG hy1
 have rx:=cz (k:=x) (n:=d.size) om
 have ry:=cz (k:=y) (n:=d.size) om
 obtain⟨hc,hhc⟩:∃ hc,h.set id (.aq (IC dc) av true 70)++[.aq [.int .u64 w] 0 true 256]=hc:=⟨_,rfl⟩
 have hg:hc[id]? = some (.aq (IC dc) av true 70):=by rw[← hhc];exact bA D1.g
 rw[hhc]
 refine aC ?_
 apply bm (L:=[[],[],[],[],[],[3,4],[],[],[],[7,8],[6,7,8,9],[6,7,8,9,10],[],[],[12,13],[12,13,14],[0,1],[0,1,6,7,8,9,10,11,12,13,14,15,16],[2,3,4,5],[0,1,2,3,4,5,6,7,8,9,10,11,12,13,14,15,16,17,18]]) (act:=[17,19]) (hs:=[hc.set id (.aq (IC (dc.setIfInBounds x dc[y]!)) av true 70),hc.set id (.aq (IC (Go.Sort.swp dc x y)) av true 70)]) (resL:=[_,_,_,_,_,_,_,_,_,_,_,_,_,_,_,_,_,_,_,_]) (frF:=[(0,.val (.slice (some ⟨id,0,some av⟩) d.size c)),(1,.val (i64 a)),(8,.val (i64 l)),(9,.val (.pointer (some ⟨h.length,0,some 0⟩))),(10,.val (.int .u64 m)),(11,.val (i64 x))])
 case hm=>exact mixed
 case hc=>kernel_rfl
 case ha=>rfl
 case hb=>rfl
 case hS=>
  refine JN hg gx gy rx ry e13 e14 Nat.mul_one ?_
  apply az.cons
  ·rfl
  ·refine⟨?_,trivial⟩
   exact bw (r:=.sl .dL) rfl al rfl al al hg al rfl (cQ (d:=dc) (i:=x) (x:=dc[y]!) hx1) rfl rfl
  ·rfl
  refine JN hg gx gy rx ry e13 e14 Nat.mul_one ?_
  apply az.cons
  ·rfl
  ·refine⟨?_,trivial⟩
   exact bw (r:=.sl .dL) rfl al rfl al al (aw hg) al rfl (cQ (d:=dc.setIfInBounds x dc[y]!) (i:=y) (x:=dc[x]!) (by simpa using hy1)) rfl aN.symm
  ·rfl
  exact az.nil _
 case ht=>rfl
 case hF=>exact zh
 show CW _ _ _ _
 refine aG e9 ?_
 refine⟨(x+1,w,Go.Sort.swp dc x y),by simp only;omega,aM,?_,by simp only;omega,by simp only;omega,?_,?_⟩
 ·simp only
  show hc.set id _=_
  rw[← hhc,C5 (by rw[hL];exact hid),aN]
 ·exact Go.Sort.permIn_trans _ _ _ a b h3 (Go.Sort.swp_permIn _ a b x y om om om om om)
 ·have:=D1.swp hx1 hy1
  rw[aN] at this
  exact this
·have d2:decide ((x:Int)≤(B:Int))=false:=decide_eq_false om
 refine mE e2 e4 e5 e7 d2 ?_
 refine ae rfl ?_
 refine aB ?_
 exact⟨_,al,rfl,dc,h3,⟨bA D1.g,D1.n,D1.b⟩,List.prefix_append _ _⟩}
theorem lE {h hc:ai} {id:Nat} {x y:ax} (h1:h.set id x <+: hc) (hid:id<h.length):h.set id y <+: hc.set id y:=by{
obtain⟨t,rfl⟩:=h1
refine⟨t,?_⟩
rw[List.set_append_left _ _ (by rw[List.length_set];exact hid),List.set_set]}
def gG (h:ai) (id av:Nat) (hc:ai) (dc:Array aR):Prop:=DA hc id av dc∧h.set id (.aq (IC dc) av true 70) <+: hc
theorem gG.to {h:ai} {id av:Nat} {hc h':ai} {dc d':Array aR} (I:gG h id av hc dc) (hid:id<h.length) (D:DA h' id av d') (e:hc.set id (.aq (IC d') av true 70) <+: h'):gG h id av h' d':=
 ⟨D,(lE I.2 hid).trans e⟩
theorem gG.eq {h:ai} {id av:Nat} {hc h':ai} {dc d':Array aR} (I:gG h id av hc dc) (hid:id<h.length) (D:DA h' id av d') (e:h'=hc.set id (.aq (IC d') av true 70)):gG h id av h' d':=
 I.to hid D (by rw[e];exact List.prefix_refl _)
def xh (h:ai) (id av a b:Nat) (d:Array aR) (h':ai):Prop:=∃ d',Go.Sort.PermIn a b d d'∧Go.Sort.SortedIn bx a b d'∧gG h id av h' d'
theorem LU {id av c:Nat}:∀ (n:Nat) {h:ai} {a b lim:Nat} {d:Array aR},b-a≤n→DA h id av d→a≤b→b≤d.size→lim≤100→Go.Sort.Below bx a b d → FW env 145 [.slice (some ⟨id,0,some av⟩) d.size c,i64 a,i64 b,i64 lim,aP] h fun r h'=>r = .tuple #[]∧xh h id av a b d h':=by{
intro n
induction n using Nat.strongRecOn with
| _ n ih=>
intro h a0 b0 lim0 d hbn D hab hb hlim hB0
have hsz:=D.n
have hid:id<h.length:=(List.getElem?_eq_some_iff.1 D.g).1
refine fe Tryz.func145 ?_;simp only[push_cast]
refine aC ?_
refine fl (fun x:Nat×Nat×Nat×Bool×Bool×Array aR×ai=>x.2.1-x.1) (fun x=>[(0,.val (.slice (some ⟨id,0,some av⟩) d.size c)),(1,.val (i64 x.1)),(2,.val (i64 x.2.1)),(3,.val (i64 x.2.2.1)),(4,.val aP),(10,.val (.bool x.2.2.2.1)),(11,.val (.bool x.2.2.2.2.1))]) (fun x=>x.2.2.2.2.2.2)
 (fun x=>x.1≤x.2.1∧x.2.1≤d.size∧x.2.1-x.1≤n∧x.2.2.1≤100∧x.2.2.2.2.2.1.size=d.size∧gG h id av x.2.2.2.2.2.2 x.2.2.2.2.2.1∧Go.Sort.Below bx x.1 x.2.1 x.2.2.2.2.2.1 ∧
  ∀ R,Go.Sort.PermIn x.1 x.2.1 x.2.2.2.2.2.1 R→Go.Sort.SortedIn bx x.1 x.2.1 R→Go.Sort.PermIn a0 b0 d R∧Go.Sort.SortedIn bx a0 b0 R) (a0,b0,lim0,true,true,d,h) aM rfl ⟨hab,hb,hbn,hlim,rfl,⟨D,by simp only[fJ D.g];exact List.prefix_refl _⟩,hB0,fun R h1 h2=>⟨h1,h2⟩⟩ ?_
clear D hab hb hlim hB0 hbn lim0
rintro⟨a,b,lim,wb,wp,dc,hc⟩ ⟨hab,hbs,hbn,hlim,hs,I,hB,K⟩
simp only at hab hbs hbn hlim hs I hB K ⊢
obtain⟨l,hl⟩:∃ l,l=b-a:=⟨_,rfl⟩
have e1:IntKind.i64.wrap ((b:Int)-(a:Int))=(l:Int):=by rw[ay om om];omega
refine aG e1 ?_
by_cases h12:l≤12
·have d1:decide ((l:Int)≤12)=true:=decide_eq_true om
 refine ag (iQ d1) ?_
 refine aC ?_
 refine zj Tryz.func180 ?_
 rw[List.append_nil]
 have kk:=vV (c:=c) I.1 hab om
 rw[hs] at kk
 refine kk.mono ?_
 rintro _ h1 ⟨rfl,k1,D1,k2⟩
 obtain⟨q1,q2⟩:=Go.Sort.insertionSort_holds kI dc a b hab om
 obtain⟨K1,K2⟩:=K _ q1 q2
 refine aC ?_
 refine ak ?_
 exact⟨_,al,rfl,_,K1,K2,I.eq hid D1 k1⟩
have d1:decide ((l:Int)≤12)=false:=decide_eq_false om
refine ae (iQ d1) ?_
clear d1
refine aC ?_
by_cases hl0:lim=0
·have d2:decide ((lim:Int)=0)=true:=decide_eq_true om
 refine ag (iQ d2) ?_
 refine aC ?_
 refine zj Tryz.func181 ?_
 rw[List.append_nil]
 have kk:=HG (c:=c) I.1 hab om
 rw[hs] at kk
 refine kk.mono ?_
 rintro _ h1 ⟨rfl,k1,D1,k2⟩
 obtain⟨q1,q2⟩:=Go.Sort.heapSort_holds kI dc a b hab om
 obtain⟨K1,K2⟩:=K _ q1 q2
 refine aC ?_
 refine ak ?_
 exact⟨_,al,rfl,_,K1,K2,I.eq hid D1 k1⟩
have d2:decide ((lim:Int)=0)=false:=decide_eq_false om
refine ae (iQ d2) ?_
clear d2
refine aC ?_
refine CW.mono (Q:=fun e s'=>e = .normal∧∃ (d1:Array aR) (lim1:Nat),Go.Sort.PermIn a b dc d1∧gG h id av s'.h d1∧lim1≤100∧bD [(0,.val (.slice (some ⟨id,0,some av⟩) d.size c)),(1,.val (i64 a)),(2,.val (i64 b)),(3,.val (i64 lim1)),(4,.val aP),(10,.val (.bool wb)),(11,.val (.bool wp)),(12,.val (i64 l))] s'.fr) ?_ ?_
·cases wb with
 | false=>
   obtain⟨lim1,hl1⟩:∃ z,z=lim-1:=⟨_,rfl⟩
   have e2:IntKind.i64.wrap ((lim:Int)-1)=(lim1:Int):=by rw[ay om om];omega
   refine ag rfl ?_
   refine aC ?_
   refine zj Tryz.func182 ?_
   rw[List.append_nil]
   have kk:=Ny (c:=c) (a:=a) (b:=b) (fv:=aP) I.1 om om
   rw[hs] at kk
   refine kk.mono ?_
   rintro _ h1 ⟨rfl,d1,q1,D1,q2⟩
   refine aG e2 ?_
   exact⟨rfl,d1,lim1,q1,I.to hid D1 q2,by omega,(mi hs)⟩
 | true=>
   refine ae rfl ?_
   refine aC ?_
   exact⟨rfl,dc,lim,Go.Sort.permIn_refl _ _ _,I,hlim,aM⟩
rintro e s' ⟨rfl,d1,lim1,p1,I1,hlim1,hf⟩
show CW _ _ _ _
obtain⟨h1,hh1⟩:∃ z,s'.h=z:=⟨_,rfl⟩
refine aA _ hf ?_
rw[hh1] at I1 ⊢
clear hf hh1
clear s'
have hs1:d1.size=d.size:=p1.1.trans hs
clear hl0 hlim
refine aC ?_
refine zj Tryz.func183 ?_
rw[List.append_nil]
have kk:=FZ (c:=c) (a:=a) (b:=b) I1.1 om om
rw[hs1] at kk
refine kk.mono ?_
rintro _ _ ⟨⟨p,hint,rfl,hpa,hpb⟩,rfl⟩
refine aC ?_
refine CW.mono (Q:=fun e s'=>e = .normal∧∃ (d2:Array aR) (p2:Nat) (hint2:Int),Go.Sort.PermIn a b d1 d2∧gG h id av s'.h d2∧a≤p2∧p2<b∧bD [(0,.val (.slice (some ⟨id,0,some av⟩) d.size c)),(1,.val (i64 a)),(2,.val (i64 b)),(3,.val (i64 lim1)),(4,.val aP),(10,.val (.bool wb)),(11,.val (.bool wp)),(12,.val (i64 l)),(13,.val (i64 p2)),(14,.val (i64 hint2))] s'.fr) ?_ ?_
·by_cases hh2:hint=2
 ·have d3:decide ((hint:Int)=2)=true:=decide_eq_true om
  obtain⟨p2,hp2⟩:∃ z,z=(b-1)-(p-a):=⟨_,rfl⟩
  have e3:IntKind.i64.wrap ((b:Int)-1)=(b:Int)-1:=ay om om
  have e4:IntKind.i64.wrap ((p:Int)-(a:Int))=(p:Int)-(a:Int):=ay om om
  have e5:IntKind.i64.wrap ((b:Int)-1-((p:Int)-(a:Int)))=(p2:Int):=by rw[ay om om];omega
  refine ag (iQ d3) ?_
  refine aC ?_
  refine zj Tryz.func184 ?_
  rw[List.append_nil]
  have kk:=y9 (c:=c) (a:=a) (b:=b) (fv:=aP) I1.1 om om
  rw[hs1] at kk
  refine kk.mono ?_
  rintro _ h2 ⟨rfl,k1,D1,k2⟩
  have q1:=Go.Sort.reverseRange_holds d1 a b hab om
  refine gU e3 e4 e5 ?_
  exact⟨rfl,_,p2,1,q1,I1.eq hid D1 k1,by omega,by omega,(mi hs1)⟩
 ·have d3:decide ((hint:Int)=2)=false:=decide_eq_false om
  refine ae (iQ d3) ?_
  refine aC ?_
  exact⟨rfl,d1,p,hint,Go.Sort.permIn_refl _ _ _,I1,hpa,hpb,(mi hs1)⟩
clear hpa hpb
clear p hint
rintro e s' ⟨rfl,d2,p,hint,p2,I2,hpa,hpb,hf⟩
show CW _ _ _ _
obtain⟨h2,hh2⟩:∃ z,s'.h=z:=⟨_,rfl⟩
refine aA _ hf ?_
rw[hh2] at I2 ⊢
clear hf hh2
clear s'
have hs2:d2.size=d.size:=p2.1.trans hs1
have P2:=Go.Sort.permIn_trans _ _ _ a b p1 p2
have B2:=hB.perm om P2
clear p1 p2 I1 hs1 hB I
repeat refine vu ?_
refine CW.mono (Q:=fun e s'=>e = .normal∧s'.h=h2∧∃ β:Bool,bD [(0,.val (.slice (some ⟨id,0,some av⟩) d.size c)),(1,.val (i64 a)),(2,.val (i64 b)),(3,.val (i64 lim1)),(4,.val aP),(10,.val (.bool wb)),(11,.val (.bool wp)),(12,.val (i64 l)),(13,.val (i64 p)),(75,.val (.bool β))] s'.fr) ?_ ?_
·cases wb with
 | false=>
   refine aC ?_
   exact⟨rfl,rfl,false,aM⟩
 | true=>
   cases wp with
   | false=>
     refine aC ?_
     exact⟨rfl,rfl,false,aM⟩
   | true=>
     refine aC ?_
     exact⟨rfl,rfl,decide (hint=1),aM⟩
rintro e s' ⟨rfl,hh,β,hf⟩
show CW _ _ _ _
refine aA _ hf ?_
rw[hh]
clear hf hh s'
refine CW.mono (Q:=fun e s'=>(e = .ret∧xh h id av a b dc s'.h)∨(e = .normal∧∃ d3,Go.Sort.PermIn a b d2 d3∧gG h id av s'.h d3∧bD [(0,.val (.slice (some ⟨id,0,some av⟩) d.size c)),(1,.val (i64 a)),(2,.val (i64 b)),(3,.val (i64 lim1)),(4,.val aP),(10,.val (.bool wb)),(11,.val (.bool wp)),(12,.val (i64 l)),(13,.val (i64 p))] s'.fr)) ?_ ?_
·cases β with
 | true=>
   refine ag rfl ?_
   refine aC ?_
   refine zj Tryz.func185 ?_
   rw[List.append_nil]
   have kk:=Ia (c:=c) (a:=a) (b:=b) I2.1 om om
   rw[hs2] at kk
   refine kk.mono ?_
   obtain⟨q1,q2⟩:=Go.Sort.partialInsertionSort_holds kI d2 a b om om B2
   obtain⟨P,hP⟩:∃ P,Go.Sort.partialInsertionSort bx d2 a b=P:=⟨_,rfl⟩
   rw[hP] at q1 q2 ⊢
   rintro _ h3 ⟨rfl,k1,D1,k2⟩
   cases hP2:P.2 with
   | true=>
     refine aC ?_
     refine ag rfl ?_
     refine ak ?_
     exact .inl ⟨rfl,_,Go.Sort.permIn_trans _ _ _ a b P2 q1,q2 hP2,I2.eq hid D1 k1⟩
   | false=>
     refine aC ?_
     refine ae rfl ?_
     refine aC ?_
     exact .inr ⟨rfl,_,q1,I2.eq hid D1 k1,(mi hs2)⟩
 | false=>
   refine ae rfl ?_
   refine aC ?_
   exact .inr ⟨rfl,_,Go.Sort.permIn_refl _ _ _,I2,aM⟩
rintro e s' (⟨rfl,dd,q1,q2,q3⟩ | ⟨rfl,d3,p3,I3,hf⟩)
·obtain⟨K1,K2⟩:=K _ q1 q2
 exact⟨_,rfl,rfl,dd,K1,K2,q3⟩
show CW _ _ _ _
obtain⟨h3,hh3⟩:∃ z,s'.h=z:=⟨_,rfl⟩
refine aA _ hf ?_
rw[hh3] at I3 ⊢
clear hf hh3
clear s'
have hs3:d3.size=d.size:=p3.1.trans hs2
have B3:=B2.perm om p3
have P3:=Go.Sort.permIn_trans _ _ _ a b P2 p3
have hp3:p<d3.size:=by omega
have gp:=bG hp3
have bp:=I3.1.b _ hp3
have rp:=cz (k:=p) (n:=d.size) om
have hg:=I3.1.g
repeat refine vu ?_
refine CW.mono (Q:=fun e s'=>e = .normal∧s'.h=h3∧bD [(0,.val (.slice (some ⟨id,0,some av⟩) d.size c)),(1,.val (i64 a)),(2,.val (i64 b)),(3,.val (i64 lim1)),(4,.val aP),(10,.val (.bool wb)),(11,.val (.bool wp)),(12,.val (i64 l)),(13,.val (i64 p)),(97,.val (.bool (decide (0<a) && !bx d3[a-1]! d3[p]!)))] s'.fr) ?_ ?_
·by_cases ha0:0<a
 ·have d4:decide (0<(a:Int))=true:=decide_eq_true om
  obtain⟨q,hq⟩:∃ q,q=a-1:=⟨_,rfl⟩
  have e5:IntKind.i64.wrap ((a:Int)-1)=(q:Int):=by rw[ay om om];omega
  have hq3:q<d3.size:=by omega
  have gq:=bG hq3
  have bq:=I3.1.b _ hq3
  have rq:=cz (k:=q) (n:=d.size) om
  rw[← hq,decide_eq_true ha0,Bool.true_and]
  cases hl:bx d3[q]! d3[p]! with
  | true=>
    have d7:decide (fA d3[q]! d3[p]! < 0)=true:=hl
    apply bu (L:=[[],[0],[1],[2],[2],[2],[2,5],[2,4,6],[2,7],[2],[2],[2,9,10],[2,11],[2,3,8,12],[2,13],[2,14],[2,15]]) (resL:=[_,_,_,_,_,_,_,_,_,_,_,_,_,_,_,_,_]) (frF:=[(0,.val (.slice (some ⟨id,0,some av⟩) d.size c)),(1,.val (i64 a)),(2,.val (i64 b)),(3,.val (i64 lim1)),(4,.val aP),(10,.val (.bool wb)),(11,.val (.bool wp)),(12,.val (i64 l)),(13,.val (i64 p)),(97,.val (.bool false))])
    case hm=>exact mixed
    case hc=>kernel_rfl
    case hb=>rfl
    case hS=>
     refine JI d4 e5 hg gp gq rp rq Nat.mul_one ?_
     apply aQ.cons
     ·exact bg (fn:=Tryz.f104) (args:=[d3[q]!.val,d3[p]!.val]) (cap:=[]) rfl (iQ d4) rfl al al Tryz.func104 kr kr (bJ bq bp)
     ·rfl
     exact rS d7 d4
    case ht=>rfl
    case hF=>exact zh
    exact⟨rfl,rfl,aM⟩
  | false=>
    have d7:decide (fA d3[q]! d3[p]! < 0)=false:=hl
    apply bu (L:=[[],[0],[1],[2],[2],[2],[2,5],[2,4,6],[2,7],[2],[2],[2,9,10],[2,11],[2,3,8,12],[2,13],[2,14],[2,15]]) (resL:=[_,_,_,_,_,_,_,_,_,_,_,_,_,_,_,_,_]) (frF:=[(0,.val (.slice (some ⟨id,0,some av⟩) d.size c)),(1,.val (i64 a)),(2,.val (i64 b)),(3,.val (i64 lim1)),(4,.val aP),(10,.val (.bool wb)),(11,.val (.bool wp)),(12,.val (i64 l)),(13,.val (i64 p)),(97,.val (.bool true))])
    case hm=>exact mixed
    case hc=>kernel_rfl
    case hb=>rfl
    case hS=>
     refine JI d4 e5 hg gp gq rp rq Nat.mul_one ?_
     apply aQ.cons
     ·exact bg (fn:=Tryz.f104) (args:=[d3[q]!.val,d3[p]!.val]) (cap:=[]) rfl (iQ d4) rfl al al Tryz.func104 kr kr (bJ bq bp)
     ·rfl
     exact rS d7 d4
    case ht=>rfl
    case hF=>exact zh
    exact⟨rfl,rfl,aM⟩
 ·have d4:decide (0<(a:Int))=false:=decide_eq_false om
  rw[decide_eq_false ha0,Bool.false_and]
  apply bu (L:=[[],[0],[1],[2],[2],[2],[2,5],[2,4,6],[2,7],[2],[2],[2,9,10],[2,11],[2,3,8,12],[2,13],[2,14],[2,15]]) (resL:=[_,_,_,_,_,_,_,_,_,_,_,_,_,_,_,_,_]) (frF:=[(0,.val (.slice (some ⟨id,0,some av⟩) d.size c)),(1,.val (i64 a)),(2,.val (i64 b)),(3,.val (i64 lim1)),(4,.val aP),(10,.val (.bool wb)),(11,.val (.bool wp)),(12,.val (i64 l)),(13,.val (i64 p)),(97,.val (.bool false))])
  case hm=>exact mixed
  case hc=>kernel_rfl
  case hb=>rfl
  case hS=>exact Cj d4
  case ht=>rfl
  case hF=>exact zh
  exact⟨rfl,rfl,aM⟩
rintro e s' ⟨rfl,hh,hf⟩
show CW _ _ _ _
refine aA _ hf ?_
rw[hh]
clear hf hh s'
clear gp bp rp hg
cases hc2:(decide (0<a) && !bx d3[a-1]! d3[p]!) with
| true=>
  rw[Bool.and_eq_true,decide_eq_true_eq,Bool.not_eq_true'] at hc2
  refine ag rfl ?_
  refine aC ?_
  refine zj Tryz.func186 ?_
  rw[List.append_nil]
  have kk:=CJ (c:=c) I3.1 hpa hpb om
  rw[hs3] at kk
  refine kk.mono ?_
  obtain⟨P,hP⟩:∃ P,Go.Sort.partitionEqual bx d3 a b p=P:=⟨_,rfl⟩
  obtain⟨m1,m2,m3,m4,m5⟩:=Go.Sort.round_eq (mid:=P.1) (d4:=P.2) kI (Go.Sort.partitionEqual_holds bx) hc2.1 hpa hpb om B3 hc2.2 hP
  rw[hP]
  rintro _ h4 ⟨rfl,k1,D1,k2⟩
  obtain⟨mid,hmid⟩:∃ z,P.1=z:=⟨_,rfl⟩
  rw[hmid] at m1 m2 m4 m5 ⊢
  refine aC ?_
  refine aB ?_
  refine⟨(mid,b,lim1,wb,wp,P.2,h4),by simp only;omega,aM,rfl,m2,hbs,by simp only;omega,hlim1,by simp only;omega,I3.eq hid D1 k1,m4,fun R r1 r2=>?_⟩
  obtain⟨s1,s2⟩:=m5 R r1 r2
  exact K R (Go.Sort.permIn_trans _ _ _ a b P3 s1) s2
| false=>
clear hc2
refine ae rfl ?_
refine aC ?_
refine zj Tryz.func187 ?_
rw[List.append_nil]
have kk:=Js (c:=c) I3.1 hpa hpb om
rw[hs3] at kk
refine kk.mono ?_
obtain⟨mid,hmid⟩:∃ z,(Go.Sort.partition bx d3 a b p).1=z:=⟨_,rfl⟩
obtain⟨d4,hd4⟩:∃ z,(Go.Sort.partition bx d3 a b p).2.2=z:=⟨_,rfl⟩
obtain⟨m1,m2,m3,m4,m5,m6,m7⟩:=Go.Sort.round_part (mid:=mid) (d4:=d4) (ap:=(Go.Sort.partition bx d3 a b p).2.1) kI (Go.Sort.partition_holds bx) hpa hpb om B3 (by rw[← hmid,← hd4])
rw[hmid,hd4]
rintro _ h4 ⟨ap,rfl,k1,D1,k2⟩
have I4:=I3.eq hid D1 k1
have hs4:d4.size=d.size:=k2
clear I3 B3 B2 I2 k1 k2 hmid hd4 D1
obtain⟨u,hu⟩:∃ z,z=mid-a:=⟨_,rfl⟩
obtain⟨v,hv⟩:∃ z,z=b-mid:=⟨_,rfl⟩
have e6:IntKind.i64.wrap ((mid:Int)-(a:Int))=(u:Int):=by rw[ay om om];omega
have e7:IntKind.i64.wrap ((b:Int)-(mid:Int))=(v:Int):=by rw[ay om om];omega
have e8:IntKind.i64.wrap ((mid:Int)+1)=((mid+1:Nat):Int):=by rw[ay om om];omega
obtain⟨mid1,hmid1⟩:∃ z,z=mid+1:=⟨_,rfl⟩
rw[← hmid1] at e8
rw[← hmid1] at m5 m6 m7
refine fz e6 e7 ?_
by_cases huv:u<v
·have d5:decide ((u:Int)<(v:Int))=true:=decide_eq_true om
 refine ag (iQ d5) ?_
 refine aC ?_
 refine zj Tryz.func145 ?_
 rw[List.append_nil]
 have kk:=ih (mid-a) om (Nat.le_refl _) I4.1 m1 om hlim1 m4
 rw[hs4] at kk
 refine kk.mono ?_
 rintro _ h5 ⟨rfl,L,l1,l2,l3⟩
 obtain⟨m8,m9⟩:=m6 L l1 l2
 have hs5:L.size=d.size:=l1.1.trans hs4
 refine aG e8 ?_
 refine⟨(mid1,b,lim1,decide (IntKind.i64.wrap ((l:Int).tdiv 8)≤(u:Int)),ap,L,h5),by simp only;omega,aM,rfl,by simp only;omega,hbs,by simp only;omega,hlim1,hs5,I4.to hid l3.1 l3.2,m8,fun R r1 r2=>?_⟩
 obtain⟨s1,s2⟩:=m9 R r1 r2
 exact K R (Go.Sort.permIn_trans _ _ _ a b P3 s1) s2
·have d5:decide ((u:Int)<(v:Int))=false:=decide_eq_false om
 refine ae (iQ d5) ?_
 refine aG e8 ?_
 refine zj Tryz.func145 ?_
 rw[List.append_nil]
 have kk:=ih (b-mid1) om (Nat.le_refl _) I4.1 om om hlim1 m5
 rw[hs4] at kk
 refine kk.mono ?_
 rintro _ h5 ⟨rfl,L,l1,l2,l3⟩
 obtain⟨m8,m9⟩:=m7 L l1 l2
 have hs5:L.size=d.size:=l1.1.trans hs4
 refine aC ?_
 refine⟨(a,mid,lim1,decide (IntKind.i64.wrap ((l:Int).tdiv 8)≤(v:Int)),ap,L,h5),by simp only;omega,aM,rfl,m1,by simp only;omega,by simp only;omega,hlim1,hs5,I4.to hid l3.1 l3.2,m8,fun R r1 r2=>?_⟩
 obtain⟨s1,s2⟩:=m9 R r1 r2
 exact K R (Go.Sort.permIn_trans _ _ _ a b P3 s1) s2}
theorem Jg {h:ai} {id av c:Nat} {d:Array aR} (D:DA h id av d) : FW env 103 [.slice (some ⟨id,0,some av⟩) d.size c,aP] h fun r h'=>r = .tuple #[]∧xh h id av 0 d.size d h':=by{
have hn:=D.n
have e1:IntKind.u64.wrap (d.size:Int)=(d.size:Int):=mb om om
obtain⟨z,hz⟩:∃ z:Nat,z=0:=⟨_,rfl⟩
refine fe Tryz.func103 ?_;simp only[push_cast]
refine aG e1 ?_
refine zj Tryz.func146 ?_
rw[List.append_nil]
refine (AF hn).mono ?_
rintro _ _ ⟨rfl,rfl⟩
have hb:=(Go.Sort.bitsLen_le_iff d.size 30).2 om
refine aC ?_
refine zj Tryz.func145 ?_
rw[List.append_nil]
refine (LU (c:=c) d.size (a:=0) (b:=d.size) (lim:=Go.Sort.bitsLen d.size) (Nat.le_refl _) D (Nat.zero_le _) (Nat.le_refl _) om (.inl rfl)).mono ?_
rintro _ h1 ⟨rfl,k⟩
refine aC ?_
exact⟨_,al,rfl,k⟩}
theorem xh.eq {h h':ai} {id av:Nat} {d:Array aR} (k:xh h id av 0 d.size d h'):∃ d',d'.toList=d.toList.mergeSort (fun x y=>!bx y x)∧gG h id av h' d':=by
 obtain⟨d',k1,k2,k3⟩:=k
 exact⟨d',Go.Sort.sorted_unique_holds kI (fun x y=>zW) d d' k1 k2,k3⟩
def kP (ps:List Prod) (c:ByteArray):Nat:=ps.findIdx (nC c)
theorem mD.idx {α:Type} {P:α→Bool} {l:List α} {r:Int} (h:mD P l r) (h0:0≤r):∃ hk:l.findIdx P<l.length,P (l[l.findIdx P])=true∧r=(l.findIdx P:Int):=by{
rcases h with ⟨k,hk,h1,h2,rfl⟩ | ⟨_,rfl⟩
·have e:l.findIdx P=k:=(List.findIdx_eq hk).2 ⟨h1,h2⟩
 subst e
 exact⟨hk,h1,rfl⟩
·omega}
theorem nY {ps:List Prod} {c:ByteArray} (h:iA ps c):∃ hk:kP ps c<ps.length,nC c ps[kP ps c]=true:=by{
obtain⟨i,hi,h0⟩:=h
rcases hi with ⟨_,rfl⟩ | ⟨_,hi⟩
·omega
·obtain⟨hk,h1,_⟩:=hi.idx h0
 exact⟨hk,h1⟩}
theorem jf.U5 {ps:List Prod} {c:ByteArray} {i:Int} (hi:jf ps c i) (h:iA ps c):i=(kP ps c:Int):=by{
obtain⟨j,hj,h0⟩:=h
rcases hi with ⟨a,rfl⟩ | ⟨a,hi⟩<;>rcases hj with ⟨b,rfl⟩ | ⟨b,hj⟩
·omega
·exact absurd a b
·omega
·obtain⟨hk,h1,_⟩:=hj.idx h0
 rcases hi with ⟨k,hk',h1',h2',rfl⟩ | ⟨hall,rfl⟩
 ·exact congrArg Int.ofNat ((List.findIdx_eq hk').2 ⟨h1',h2'⟩).symm
 ·rw[hall _ (List.getElem_mem hk)] at h1
  cases h1}
theorem BW {ps:List Prod} {c e:ByteArray} (h1:iA ps c) (h2:iA ps e) (h:kP ps c=kP ps e):c=e:=by{
obtain⟨a,ha⟩:=nY h1
obtain⟨b,hb⟩:=nY h2
unfold nC at ha hb
simp only[Bool.and_eq_true,decide_eq_true_eq] at ha hb
rw[← ha.2,← hb.2]
congr 2}
structure CE where
 at_:Nat
 AB:Nat
 assoc:Int
def j6 (ps:List Prod) (g:Nat) (x:cZ):List CE:=x.cons.map fun c=>⟨kP ps c,g,x.assoc⟩
def oP (ps:List Prod) (l:List cZ):List CE:=l.zipIdx.flatMap fun x=>j6 ps x.2 x.1
theorem DZ {ps:List Prod} {l:List cZ} {k:Nat} (hk:k<l.length):oP ps (l.take (k+1))=oP ps (l.take k)++j6 ps k l[k]:=by{
unfold oP
rw[List.take_succ_eq_append_getElem hk,List.zipIdx_append,List.flatMap_append]
simp only[List.length_take,List.zipIdx_cons,List.zipIdx_nil,List.flatMap_cons,List.flatMap_nil,List.append_nil,Nat.zero_add]
rw[Nat.min_eq_left om]}
theorem si {ps:List Prod}:∀ (l:List cZ) (k:Nat),((l.zipIdx k).flatMap fun x=>j6 ps x.2 x.1).map CE.at_=(dy l).map (kP ps)
 | [],_=>rfl
 | g :: l,k=>by
   have ih:=si (ps:=ps) l (k+1)
   unfold dy at ih ⊢
   rw[List.zipIdx_cons,List.flatMap_cons,List.map_append,ih,List.flatMap_cons,List.map_append]
   congr 1
   unfold j6
   rw[List.map_map]
   rfl
theorem oV {ps:List Prod} {l:List cZ} (h:fR ps (dy l)):((oP ps l).map CE.at_).Nodup:=by{
unfold oP
rw[si l 0]
unfold List.Nodup
rw[List.pairwise_map]
exact h.2.imp_of_mem fun {a b} ha hb hne e=>hne (BW (h.1 a ha) (h.1 b hb) e)}
theorem u9 {ps:List Prod} {l:List cZ} (h:fR ps (dy l)) {e:CE} (he:e∈oP ps l):e.at_<ps.length:=by{
have h1:e.at_∈(oP ps l).map CE.at_:=List.mem_map_of_mem he
unfold oP at h1
rw[si l 0,List.mem_map] at h1
obtain⟨c,hc,e1⟩:=h1
obtain⟨hk,_⟩:=nY (h.1 c hc)
omega}
theorem wH {ps:List Prod} {l:List cZ}:(oP ps l).length=(dy l).length:=by{
have:=congrArg List.length (si (ps:=ps) l 0)
rw[List.length_map,List.length_map] at this
exact this}
abbrev CE.place (e:CE):Value:=.agg #[i64 e.AB,i64 e.assoc]
def yZ (l:List CE):List (Value×Value):=l.map fun e=>(i64 e.at_,e.place)
theorem vd {e:CE}:∀ {l:List CE},(l.map CE.at_).Nodup→e∈l→gK (yZ l) (i64 e.at_)=some e.place
 | [],_,h=>by simp at h
 | a :: l,hn,h=>by
   rw[List.map_cons,List.nodup_cons] at hn
   have ih:=vd (e:=e) (l:=l) hn.2
   unfold yZ at ih ⊢
   simp only[List.map_cons,gK,qA,mZ,decide_eq_true_eq]
   rcases List.mem_cons.1 h with rfl|h
   ·rw[if_pos rfl]
   ·rw[if_neg,ih h]
    intro e1
    refine hn.1 ?_
    have:a.at_=e.at_:=by omega
    rw[this]
    exact List.mem_map_of_mem h
theorem AR {e:CE}:∀ {l:List CE},e.at_∉l.map CE.at_→iT (yZ l) (i64 e.at_) e.place=yZ (l++[e])
 | [],_=>rfl
 | a :: l,h=>by
   rw[List.map_cons,List.mem_cons] at h
   have ih:=AR (e:=e) (l:=l) fun q=>h (.inr q)
   unfold yZ at ih ⊢
   simp only[List.map_cons,iT,qA,mZ,decide_eq_true_eq,List.cons_append]
   rw[if_neg (fun q=>h (.inl om)),ih]
theorem yC (l:List CE):eB nU (yZ l)=true:=by{
unfold eB yZ
rw[List.all_map,List.all_eq_true]
intro x _
rfl}
def bE (l:List (aR×Int)):List (Value×Value):=l.map fun p=>(p.1.val,i64 p.2)
def qL:List (aR×Int)→aR→List (aR×Int)
 | [],x=>[(x,IntKind.i64.wrap (0+1))]
 | (k,v) :: r,x=>if x=k then (k,IntKind.i64.wrap (v+1)) :: r else (k,v) :: qL r x
theorem Bh (x y:aR):qA x.val y.val=decide (x=y):=by
 cases x with|mk a b c=>cases y with|mk a' b' c'=>
 simp only[qA,jy,mZ,Bool.and_true,aR.mk.injEq,Bool.decide_and,Int.ofNat_inj]
theorem BF (x:aR):∀ l,(∃ n j,kL (bE l) x.val=some (j,i64 n)∧(bE l)[j]? = some (x.val,i64 n)∧(bE l).set j (x.val,i64 (IntKind.i64.wrap (n+1)))=bE (qL l x))∨(kL (bE l) x.val=none∧bE (qL l x)=bE l++[(x.val,i64 (IntKind.i64.wrap (0+1)))])
 | []=>.inr ⟨rfl,rfl⟩
 | (k,v) :: r=>by
   have ih:=BF x r
   unfold bE at ih ⊢
   simp only[List.map_cons,kL,Bh,decide_eq_true_eq,qL]
   by_cases h:x=k
   ·subst h
    rw[if_pos rfl,if_pos rfl]
    exact .inl ⟨v,0,rfl,rfl,rfl⟩
   ·rw[if_neg h,if_neg h]
    rcases ih with ⟨n,j,h1,h2,h3⟩ | ⟨h1,h2⟩
    ·refine .inl ⟨n,j+1,by rw[h1];rfl,?_,?_⟩
     ·rw[List.getElem?_cons_succ];exact h2
     ·rw[List.set_cons_succ,h3];rfl
    ·exact .inr ⟨by rw[h1];rfl,by rw[List.map_cons,h2];rfl⟩
theorem wz (l:List (aR×Int)):eB (xm k8) (bE l)=true:=by{
unfold eB bE
rw[List.all_map,List.all_eq_true]
intro x _
rfl}
theorem wE (k:aR):xm k8 k.val=true:=rfl
@[push_cast] theorem Po:jx 70=some (xm k8):=rfl
@[push_cast] theorem P4:jx 3=some nU:=rfl
theorem GW (es:List (aR×Int)):(bE es).all (fun p=>fL p.1)=true:=by{
unfold bE
rw[List.all_map,List.all_eq_true]
intro x _
rfl}
theorem JR {es:List (aR×Int)} {i:Nat} {k v:Value}:(bE es)[i]? = some (k,v)↔∃ p,es[i]? = some p∧k=p.1.val∧v=i64 p.2:=by{
unfold bE
rw[List.getElem?_map]
cases es[i]? with
| none=>simp
| some p=>simp [eq_comm]}
def qN (l:List aR) (x:aR):List aR:=if x∈l then l else l++[x]
theorem yS (x:aR):∀ l,(qL l x).map (·.1)=qN (l.map (·.1)) x
 | []=>by simp [qL,qN]
 | (k,v) :: r=>by
   have ih:=yS x r
   unfold qN at ih ⊢
   unfold qL
   by_cases h:x=k
   ·rw[if_pos h,if_pos (by simp [h])]
    rfl
   ·rw[if_neg h,List.map_cons,ih]
    by_cases q:x∈r.map (·.1)
    ·rw[if_pos q,if_pos (by rw[List.map_cons];exact List.mem_cons_of_mem _ q)]
     rfl
    ·rw[if_neg q,if_neg (by rw[List.map_cons,List.mem_cons];exact fun e=>e.elim h q)]
     rfl
def eO (l:List (aR×Int)) (xs:List aR):List (aR×Int):=xs.foldl qL l
def iJ (l xs:List aR):List aR:=xs.foldl qN l
theorem tV:∀ (xs:List aR) (l:List (aR×Int)),(eO l xs).map (·.1)=iJ (l.map (·.1)) xs
 | [],_=>rfl
 | x :: xs,l=>by
   have ih:=tV xs (qL l x)
   rw[yS] at ih
   exact ih
theorem oN {l:List (aR×Int)} {a b:List aR}:eO l (a++b)=eO (eO l a) b:=List.foldl_append
theorem oT {x:aR}:∀ {xs l:List aR},x∈iJ l xs↔x∈l∨x∈xs
 | [],l=>by simp [iJ]
 | y :: xs,l=>by
   have ih:=oT (x:=x) (xs:=xs) (l:=qN l y)
   have h:x∈qN l y↔x∈l∨x=y:=by
    unfold qN
    by_cases q:y∈l
    ·rw[if_pos q]
     exact⟨.inl,fun k=>k.elim id fun e=>e▸q⟩
    ·rw[if_neg q,List.mem_append,List.mem_singleton]
   unfold iJ at ih ⊢
   rw[List.foldl_cons,ih,h,List.mem_cons,or_assoc]
theorem qi:∀ {xs l:List aR},l.Nodup→(iJ l xs).Nodup
 | [],_,h=>h
 | y :: xs,l,h=>by
   refine qi (xs:=xs) (l:=qN l y) ?_
   unfold qN
   by_cases q:y∈l
   ·rw[if_pos q];exact h
   ·rw[if_neg q,List.nodup_append]
    exact⟨h,by simp,fun a ha b hb e=>q (by rw[← List.mem_singleton.1 hb,← e];exact ha)⟩
def barredB (a b:CE) (at_ last:Nat):Bool:=
 if a.AB=b.AB then ((decide (a.assoc=1)||decide (a.assoc=3))&&decide (at_=last))||((decide (a.assoc=2)||decide (a.assoc=3))&&decide (at_=0)) else decide (a.AB<b.AB)
def gz (s:Sym) (q:Prod):Bool:=(decide (s.kind=3)||decide (s.kind=4))&&decide (s.name=q.sort)
def dZ (os:List gN) (p:Nat):List Nat:=(List.range os.length).filter (zI os (p:Int))
theorem xE {os:List gN} {p:Nat}:dP os (p:Int) os.length=(dZ os p).map Int.ofNat:=rfl
def oR (os:List gN) (r:Nat) (o:gN) (at_ q pos:Nat):List aR:=if o.an[pos]? = some (at_:Int) then (dZ os q).map fun kid=>⟨r,pos,kid⟩ else []
def nw (os:List gN) (at_ q r:Nat):List aR:=match os[r]? with
 | some o=>(List.range o.an.length).flatMap (oR os r o at_ q)
 | none=>[]
def sh (os:List gN) (p at_ q:Nat):List aR:=(dZ os p).flatMap (nw os at_ q)
def tH (d:bS) (os:List gN) (p q:CE) (n:Nat) (at_:Nat) (s:Sym):List aR:=match d.aa[q.at_]? with
 | some x=>if (gz s x&&barredB p q at_ (n-1))=true then sh os p.at_ at_ q.at_ else []
 | none=>[]
def jK (d:bS) (os:List gN) (p q:CE):List aR:=match d.aa[p.at_]? with
 | some x=>x.an.zipIdx.flatMap fun y=>tH d os p q x.an.length y.2 y.1
 | none=>[]
def fV (d:bS) (os:List gN) (l:List cZ):List aR:=(oP d.aa l).flatMap fun p=>(oP d.aa l).flatMap fun q=>jK d os p q
def iV (d:bS) (os:List gN):List aR:=d.aj.flatMap (fV d os)
def eD (d:bS):List aR:=(iJ [] (iV d ((nd d).map (·.2)))).mergeSort (fun x y=>!bx y x)
structure MN (h0 hk:ai) (im:Nat) (m:MK) (l:List ByteArray):Prop where
 p:h0 <+: hk
 lm:h0.length≤im
 o:hk[im]? = some (.aq m.cells 0 true 94)
 n:aL h0 hk m.vn l.length (l.map .string) 9
theorem MN.pre {h0 hk h1:ai} {im:Nat} {m:MK} {l:List ByteArray} (M:MN h0 hk im m l) (hp:hk <+: h1):MN h0 h1 im m l:=
 ⟨M.p.trans hp,M.lm,af hp M.o,M.n.dH (bt.pre (ts:=[]) hp) (by simp)⟩
section
variable {h0 hk:ai} {im i1:Nat} {m:MK} {l:List ByteArray} {d:bS}
theorem ED {up uc uf ur ub:Value} (hd:bo hk d up uc uf ur ub):FW env 91 [.agg (d.val up uc uf ur ub).toArray] hk fun r h'=>hk <+: h'∧aL hk h' r (aF d.aa).length ((aF d.aa).map .string) 9:=by{
have hO:=Bv hd
obtain⟨p1,c1,p2,c2,p3,c3,p4,c4,p5,c5,rfl,rfl,rfl,rfl,rfl,l1,l2,l3,l4,l5⟩:=bo.form hd
refine fe Tryz.func91 ?_;simp only[push_cast]
unfold bS.val at hO ⊢
refine aC ?_
refine zj Tryz.func66 ?_
refine hO.mono ?_
rintro _ h1 ⟨ib,im,sv,rfl,hBk⟩
have hb:=hBk.b
simp only[List.cons_append,List.nil_append] at hb
have hs:=hBk.s
obtain⟨q,c,rfl⟩:=hs.form
refine aG hb ?_
refine ak ?_
refine⟨_,al,hBk.p,?_⟩
exact hs}
end
section
variable {h:ai}
theorem wW {c:Int} (h0:0≤c) (h1:c<256):FW env 176 [.int .u8 c] h fun r h'=>(∃ b:ByteArray,b.size≤4∧r = .string b)∧h'=h:=by{
refine tz (K:=fun r=>∃ b:ByteArray,b.size≤4∧r = .string b) ?_
refine fe Tryz.func176 ?_;simp only[push_cast]
by_cases c1:c=10
·have d1:=decide_eq_true c1
 refine aG d1 ?_
 refine ag rfl ?_
 refine aC ?_
 refine ak ?_
 refine⟨_,al,⟨.bf rfl,List.prefix_refl _⟩,_,?_,rfl⟩
 decide
have d1:=decide_eq_false c1
refine aG d1 ?_
refine ae rfl ?_
by_cases c2:c=9
·have d2:=decide_eq_true c2
 refine aG d2 ?_
 refine ag rfl ?_
 refine aC ?_
 refine ak ?_
 refine⟨_,al,⟨.bf rfl,List.prefix_refl _⟩,_,?_,rfl⟩
 decide
have d2:=decide_eq_false c2
refine aG d2 ?_
refine ae rfl ?_
by_cases c3:c=13
·have d3:=decide_eq_true c3
 refine aG d3 ?_
 refine ag rfl ?_
 refine aC ?_
 refine ak ?_
 refine⟨_,al,⟨.bf rfl,List.prefix_refl _⟩,_,?_,rfl⟩
 decide
have d3:=decide_eq_false c3
refine aG d3 ?_
refine ae rfl ?_
by_cases c4:c=32
·have d4:=decide_eq_true c4
 refine aG d4 ?_
 refine ag rfl ?_
 refine aC ?_
 refine ak ?_
 refine⟨_,al,⟨.bf rfl,List.prefix_refl _⟩,_,?_,rfl⟩
 decide
have d4:=decide_eq_false c4
refine aG d4 ?_
refine ae rfl ?_
by_cases q1:c=91
·have g1:=decide_eq_true q1
 refine aG g1 ?_
 refine ag rfl ?_
 refine cE ?_
 show CW _ _ _ _
 refine ag rfl ?_
 refine zu ?_
 iterate 1 (refine zx oA ?_)
 refine cV (t:=5) (cs:=[.int .u8 c]) (n:=1) al al ?_
 dsimp only[St.a9,St.put]
 have hp2:h <+: h++[ax.aq [.int .u8 c] 0 true 5]:=aJ
 have hx2:(h++[ax.aq [.int .u8 c] 0 true 5])[h.length]? = some (.aq [.int .u8 c] 0 true 5):=aK
 generalize (h++[ax.aq [.int .u8 c] 0 true 5])=h2 at hp2 hx2 ⊢
 generalize h.length=i2 at hx2 ⊢
 have hrd:js [.int .u8 c] 0 1=some [.int .u8 c]:=rfl
 have hu8:FO [.int .u8 c]=some [c]:=rfl
 obtain⟨sb,hsb⟩:∃ sb,sb=strOfNums [c]:=⟨_,rfl⟩
 have hso:strOfNums [c]=sb:=hsb.symm
 have hsz:sb.size=1:=by rw[hsb,strOfNums_size];rfl
 have hcc:(((ByteArray.mk #[92]).size:Int)+(sb.size:Int)≤9223372036854775807)=True:=eq_true (by rw[hsz];decide)
 repeat (first|apply zs|apply zr|apply zn|((first|apply zx|apply zy);·simp only[push_cast,env,Nat.reduceEqDiff,reduceIte,Nat.reduceAdd,Nat.reduceMul,Nat.reduceLeDiff,reduceCtorEq,Nat.reduceSub,Int.reduceToNat,vD,hx2,hrd,hu8,hso,hcc]<;>first|exact rfl|exact .inl rfl|exact .inr rfl) | apply zq|apply zb|apply zo|apply zk|apply zl)
 refine ak ?_
 refine⟨_,al,⟨.bf rfl,hp2⟩,_,?_,rfl⟩
 rw[ByteArray.size_append,hsz]
 decide
have g1:=decide_eq_false q1
refine aG g1 ?_
refine ae rfl ?_
by_cases q2:c=93
·have g2:=decide_eq_true q2
 refine aG g2 ?_
 refine ag rfl ?_
 refine cE ?_
 show CW _ _ _ _
 refine ag rfl ?_
 refine zu ?_
 iterate 1 (refine zx oA ?_)
 refine cV (t:=5) (cs:=[.int .u8 c]) (n:=1) al al ?_
 dsimp only[St.a9,St.put]
 have hp2:h <+: h++[ax.aq [.int .u8 c] 0 true 5]:=aJ
 have hx2:(h++[ax.aq [.int .u8 c] 0 true 5])[h.length]? = some (.aq [.int .u8 c] 0 true 5):=aK
 generalize (h++[ax.aq [.int .u8 c] 0 true 5])=h2 at hp2 hx2 ⊢
 generalize h.length=i2 at hx2 ⊢
 have hrd:js [.int .u8 c] 0 1=some [.int .u8 c]:=rfl
 have hu8:FO [.int .u8 c]=some [c]:=rfl
 obtain⟨sb,hsb⟩:∃ sb,sb=strOfNums [c]:=⟨_,rfl⟩
 have hso:strOfNums [c]=sb:=hsb.symm
 have hsz:sb.size=1:=by rw[hsb,strOfNums_size];rfl
 have hcc:(((ByteArray.mk #[92]).size:Int)+(sb.size:Int)≤9223372036854775807)=True:=eq_true (by rw[hsz];decide)
 repeat (first|apply zs|apply zr|apply zn|((first|apply zx|apply zy);·simp only[push_cast,env,Nat.reduceEqDiff,reduceIte,Nat.reduceAdd,Nat.reduceMul,Nat.reduceLeDiff,reduceCtorEq,Nat.reduceSub,Int.reduceToNat,vD,hx2,hrd,hu8,hso,hcc]<;>first|exact rfl|exact .inl rfl|exact .inr rfl) | apply zq|apply zb|apply zo|apply zk|apply zl)
 refine ak ?_
 refine⟨_,al,⟨.bf rfl,hp2⟩,_,?_,rfl⟩
 rw[ByteArray.size_append,hsz]
 decide
have g2:=decide_eq_false q2
refine aG g2 ?_
refine ae rfl ?_
by_cases q3:c=92
·have g3:=decide_eq_true q3
 refine aG g3 ?_
 refine ag rfl ?_
 refine cE ?_
 show CW _ _ _ _
 refine ag rfl ?_
 refine zu ?_
 iterate 1 (refine zx oA ?_)
 refine cV (t:=5) (cs:=[.int .u8 c]) (n:=1) al al ?_
 dsimp only[St.a9,St.put]
 have hp2:h <+: h++[ax.aq [.int .u8 c] 0 true 5]:=aJ
 have hx2:(h++[ax.aq [.int .u8 c] 0 true 5])[h.length]? = some (.aq [.int .u8 c] 0 true 5):=aK
 generalize (h++[ax.aq [.int .u8 c] 0 true 5])=h2 at hp2 hx2 ⊢
 generalize h.length=i2 at hx2 ⊢
 have hrd:js [.int .u8 c] 0 1=some [.int .u8 c]:=rfl
 have hu8:FO [.int .u8 c]=some [c]:=rfl
 obtain⟨sb,hsb⟩:∃ sb,sb=strOfNums [c]:=⟨_,rfl⟩
 have hso:strOfNums [c]=sb:=hsb.symm
 have hsz:sb.size=1:=by rw[hsb,strOfNums_size];rfl
 have hcc:(((ByteArray.mk #[92]).size:Int)+(sb.size:Int)≤9223372036854775807)=True:=eq_true (by rw[hsz];decide)
 repeat (first|apply zs|apply zr|apply zn|((first|apply zx|apply zy);·simp only[push_cast,env,Nat.reduceEqDiff,reduceIte,Nat.reduceAdd,Nat.reduceMul,Nat.reduceLeDiff,reduceCtorEq,Nat.reduceSub,Int.reduceToNat,vD,hx2,hrd,hu8,hso,hcc]<;>first|exact rfl|exact .inl rfl|exact .inr rfl) | apply zq|apply zb|apply zo|apply zk|apply zl)
 refine ak ?_
 refine⟨_,al,⟨.bf rfl,hp2⟩,_,?_,rfl⟩
 rw[ByteArray.size_append,hsz]
 decide
have g3:=decide_eq_false q3
refine aG g3 ?_
refine ae rfl ?_
by_cases q4:c=45
·have g4:=decide_eq_true q4
 refine aG g4 ?_
 refine ag rfl ?_
 refine cE ?_
 show CW _ _ _ _
 refine ag rfl ?_
 refine zu ?_
 iterate 1 (refine zx oA ?_)
 refine cV (t:=5) (cs:=[.int .u8 c]) (n:=1) al al ?_
 dsimp only[St.a9,St.put]
 have hp2:h <+: h++[ax.aq [.int .u8 c] 0 true 5]:=aJ
 have hx2:(h++[ax.aq [.int .u8 c] 0 true 5])[h.length]? = some (.aq [.int .u8 c] 0 true 5):=aK
 generalize (h++[ax.aq [.int .u8 c] 0 true 5])=h2 at hp2 hx2 ⊢
 generalize h.length=i2 at hx2 ⊢
 have hrd:js [.int .u8 c] 0 1=some [.int .u8 c]:=rfl
 have hu8:FO [.int .u8 c]=some [c]:=rfl
 obtain⟨sb,hsb⟩:∃ sb,sb=strOfNums [c]:=⟨_,rfl⟩
 have hso:strOfNums [c]=sb:=hsb.symm
 have hsz:sb.size=1:=by rw[hsb,strOfNums_size];rfl
 have hcc:(((ByteArray.mk #[92]).size:Int)+(sb.size:Int)≤9223372036854775807)=True:=eq_true (by rw[hsz];decide)
 repeat (first|apply zs|apply zr|apply zn|((first|apply zx|apply zy);·simp only[push_cast,env,Nat.reduceEqDiff,reduceIte,Nat.reduceAdd,Nat.reduceMul,Nat.reduceLeDiff,reduceCtorEq,Nat.reduceSub,Int.reduceToNat,vD,hx2,hrd,hu8,hso,hcc]<;>first|exact rfl|exact .inl rfl|exact .inr rfl) | apply zq|apply zb|apply zo|apply zk|apply zl)
 refine ak ?_
 refine⟨_,al,⟨.bf rfl,hp2⟩,_,?_,rfl⟩
 rw[ByteArray.size_append,hsz]
 decide
have g4:=decide_eq_false q4
refine aG g4 ?_
refine ae rfl ?_
by_cases q5:c=94
·have g5:=decide_eq_true q5
 refine aG g5 ?_
 refine ag rfl ?_
 refine zu ?_
 iterate 1 (refine zx oA ?_)
 refine cV (t:=5) (cs:=[.int .u8 c]) (n:=1) al al ?_
 dsimp only[St.a9,St.put]
 have hp2:h <+: h++[ax.aq [.int .u8 c] 0 true 5]:=aJ
 have hx2:(h++[ax.aq [.int .u8 c] 0 true 5])[h.length]? = some (.aq [.int .u8 c] 0 true 5):=aK
 generalize (h++[ax.aq [.int .u8 c] 0 true 5])=h2 at hp2 hx2 ⊢
 generalize h.length=i2 at hx2 ⊢
 have hrd:js [.int .u8 c] 0 1=some [.int .u8 c]:=rfl
 have hu8:FO [.int .u8 c]=some [c]:=rfl
 obtain⟨sb,hsb⟩:∃ sb,sb=strOfNums [c]:=⟨_,rfl⟩
 have hso:strOfNums [c]=sb:=hsb.symm
 have hsz:sb.size=1:=by rw[hsb,strOfNums_size];rfl
 have hcc:(((ByteArray.mk #[92]).size:Int)+(sb.size:Int)≤9223372036854775807)=True:=eq_true (by rw[hsz];decide)
 repeat (first|apply zs|apply zr|apply zn|((first|apply zx|apply zy);·simp only[push_cast,env,Nat.reduceEqDiff,reduceIte,Nat.reduceAdd,Nat.reduceMul,Nat.reduceLeDiff,reduceCtorEq,Nat.reduceSub,Int.reduceToNat,vD,hx2,hrd,hu8,hso,hcc]<;>first|exact rfl|exact .inl rfl|exact .inr rfl) | apply zq|apply zb|apply zo|apply zk|apply zl)
 refine ak ?_
 refine⟨_,al,⟨.bf rfl,hp2⟩,_,?_,rfl⟩
 rw[ByteArray.size_append,hsz]
 decide
have g5:=decide_eq_false q5
refine aG g5 ?_
refine ae rfl ?_
by_cases r1:32<c
·have f1:=decide_eq_true r1
 by_cases r2:c<127
 ·have f2:=decide_eq_true r2
  refine fz f1 f2 ?_
  refine ag rfl ?_
  refine zu ?_
  iterate 1 (refine zx oA ?_)
  refine cV (t:=5) (cs:=[.int .u8 c]) (n:=1) al al ?_
  dsimp only[St.a9,St.put]
  have hp2:h <+: h++[ax.aq [.int .u8 c] 0 true 5]:=aJ
  have hx2:(h++[ax.aq [.int .u8 c] 0 true 5])[h.length]? = some (.aq [.int .u8 c] 0 true 5):=aK
  generalize (h++[ax.aq [.int .u8 c] 0 true 5])=h2 at hp2 hx2 ⊢
  generalize h.length=i2 at hx2 ⊢
  have hrd:js [.int .u8 c] 0 1=some [.int .u8 c]:=rfl
  have hu8:FO [.int .u8 c]=some [c]:=rfl
  obtain⟨sb,hsb⟩:∃ sb,sb=strOfNums [c]:=⟨_,rfl⟩
  have hso:strOfNums [c]=sb:=hsb.symm
  have hsz:sb.size=1:=by rw[hsb,strOfNums_size];rfl
  repeat (first|apply zs|apply zr|apply zn|((first|apply zx|apply zy);·simp only[push_cast,env,Nat.reduceEqDiff,reduceIte,Nat.reduceAdd,Nat.reduceMul,Nat.reduceLeDiff,reduceCtorEq,Nat.reduceSub,Int.reduceToNat,vD,hx2,hrd,hu8,hso]<;>first|exact rfl|exact .inl rfl|exact .inr rfl) | apply zq|apply zb|apply zo|apply zk|apply zl)
  refine ak ?_
  refine⟨_,al,⟨.bf rfl,hp2⟩,_,?_,rfl⟩
  rw[hsz]
  decide
 ·have f2:=decide_eq_false r2
  refine fz f1 f2 ?_
  refine ae rfl ?_
  refine aC ?_
  refine aS 14 mixed kr ?_
  obtain⟨q,hq⟩:∃ q,q=c / 16:=⟨_,rfl⟩
  obtain⟨m,hm⟩:∃ m,m=c % 16:=⟨_,rfl⟩
  have hq0:0≤q∧q≤15:=by omega
  have hm0:0≤m∧m≤15:=by omega
  have w1:IntKind.u8.wrap (c.tdiv 16)=q:=by rw[Int.tdiv_eq_ediv_of_nonneg h0,IntKind.wrap_u8];omega
  have w2:IntKind.u8.wrap (q+1)=q+1:=by rw[IntKind.wrap_u8];omega
  have w3:c.tmod 16=m:=by rw[Int.tmod_eq_emod_of_nonneg h0];exact hm.symm
  have w4:IntKind.u8.wrap (m+1)=m+1:=by rw[IntKind.wrap_u8];omega
  have hz16:(ByteArray.mk #[48,49,50,51,52,53,54,55,56,57,97,98,99,100,101,102]).size=16:=rfl
  have k1:(0≤q∧q≤q+1∧q+1≤((ByteArray.mk #[48,49,50,51,52,53,54,55,56,57,97,98,99,100,101,102]).size:Int))=True:=eq_true (by rw[hz16];omega)
  have k2:(0≤m∧m≤m+1∧m+1≤((ByteArray.mk #[48,49,50,51,52,53,54,55,56,57,97,98,99,100,101,102]).size:Int))=True:=eq_true (by rw[hz16];omega)
  obtain⟨s1,hs1⟩:∃ s1,s1=(ByteArray.mk #[48,49,50,51,52,53,54,55,56,57,97,98,99,100,101,102]).extract q.toNat (q+1).toNat:=⟨_,rfl⟩
  obtain⟨s2,hs2⟩:∃ s2,s2=(ByteArray.mk #[48,49,50,51,52,53,54,55,56,57,97,98,99,100,101,102]).extract m.toNat (m+1).toNat:=⟨_,rfl⟩
  have z1:s1.size=1:=by rw[hs1,ByteArray.size_extract,hz16];omega
  have z2:s2.size=1:=by rw[hs2,ByteArray.size_extract,hz16];omega
  have hs1:=hs1.symm
  have hs2:=hs2.symm
  have k3:(((ByteArray.mk #[92,120]).size:Int)+(s1.size:Int)≤9223372036854775807)=True:=eq_true (by rw[z1];decide)
  obtain⟨s3,hs3⟩:∃ s3,s3=(ByteArray.mk #[92,120])++s1:=⟨_,rfl⟩
  have z3:s3.size=3:=by rw[hs3,ByteArray.size_append,z1];rfl
  have hs3:=hs3.symm
  have k4:((s3.size:Int)+(s2.size:Int)≤9223372036854775807)=True:=eq_true (by rw[z3,z2];decide)
  repeat (first|apply zs|apply zr|apply zn|((first|apply zx|apply zy);·simp only[push_cast,env,Nat.reduceEqDiff,reduceIte,Nat.reduceAdd,Nat.reduceMul,Nat.reduceLeDiff,reduceCtorEq,Nat.reduceSub,Int.reduceToNat,w1,w2,w3,w4,k1,k2,k3,k4,hs1,hs2,hs3]<;>first|exact rfl|exact .inl rfl|exact .inr rfl) | apply zq|apply zb|apply zo|apply zk|apply zl)
  refine ak ?_
  refine⟨_,al,⟨.bf rfl,List.prefix_refl _⟩,_,?_,rfl⟩
  rw[ByteArray.size_append,z3,z2]
  decide
·have f1:=decide_eq_false r1
 refine aG f1 ?_
 refine ae rfl ?_
 refine aC ?_
 refine aS 14 mixed kr ?_
 obtain⟨q,hq⟩:∃ q,q=c / 16:=⟨_,rfl⟩
 obtain⟨m,hm⟩:∃ m,m=c % 16:=⟨_,rfl⟩
 have hq0:0≤q∧q≤15:=by omega
 have hm0:0≤m∧m≤15:=by omega
 have w1:IntKind.u8.wrap (c.tdiv 16)=q:=by rw[Int.tdiv_eq_ediv_of_nonneg h0,IntKind.wrap_u8];omega
 have w2:IntKind.u8.wrap (q+1)=q+1:=by rw[IntKind.wrap_u8];omega
 have w3:c.tmod 16=m:=by rw[Int.tmod_eq_emod_of_nonneg h0];exact hm.symm
 have w4:IntKind.u8.wrap (m+1)=m+1:=by rw[IntKind.wrap_u8];omega
 have hz16:(ByteArray.mk #[48,49,50,51,52,53,54,55,56,57,97,98,99,100,101,102]).size=16:=rfl
 have k1:(0≤q∧q≤q+1∧q+1≤((ByteArray.mk #[48,49,50,51,52,53,54,55,56,57,97,98,99,100,101,102]).size:Int))=True:=eq_true (by rw[hz16];omega)
 have k2:(0≤m∧m≤m+1∧m+1≤((ByteArray.mk #[48,49,50,51,52,53,54,55,56,57,97,98,99,100,101,102]).size:Int))=True:=eq_true (by rw[hz16];omega)
 obtain⟨s1,hs1⟩:∃ s1,s1=(ByteArray.mk #[48,49,50,51,52,53,54,55,56,57,97,98,99,100,101,102]).extract q.toNat (q+1).toNat:=⟨_,rfl⟩
 obtain⟨s2,hs2⟩:∃ s2,s2=(ByteArray.mk #[48,49,50,51,52,53,54,55,56,57,97,98,99,100,101,102]).extract m.toNat (m+1).toNat:=⟨_,rfl⟩
 have z1:s1.size=1:=by rw[hs1,ByteArray.size_extract,hz16];omega
 have z2:s2.size=1:=by rw[hs2,ByteArray.size_extract,hz16];omega
 have hs1:=hs1.symm
 have hs2:=hs2.symm
 have k3:(((ByteArray.mk #[92,120]).size:Int)+(s1.size:Int)≤9223372036854775807)=True:=eq_true (by rw[z1];decide)
 obtain⟨s3,hs3⟩:∃ s3,s3=(ByteArray.mk #[92,120])++s1:=⟨_,rfl⟩
 have z3:s3.size=3:=by rw[hs3,ByteArray.size_append,z1];rfl
 have hs3:=hs3.symm
 have k4:((s3.size:Int)+(s2.size:Int)≤9223372036854775807)=True:=eq_true (by rw[z3,z2];decide)
 repeat (first|apply zs|apply zr|apply zn|((first|apply zx|apply zy);·simp only[push_cast,env,Nat.reduceEqDiff,reduceIte,Nat.reduceAdd,Nat.reduceMul,Nat.reduceLeDiff,reduceCtorEq,Nat.reduceSub,Int.reduceToNat,w1,w2,w3,w4,k1,k2,k3,k4,hs1,hs2,hs3]<;>first|exact rfl|exact .inl rfl|exact .inr rfl) | apply zq|apply zb|apply zo|apply zk|apply zl)
 refine ak ?_
 refine⟨_,al,⟨.bf rfl,List.prefix_refl _⟩,_,?_,rfl⟩
 rw[ByteArray.size_append,z3,z2]
 decide}
theorem yd {l:List (Nat×Nat)} {b:Nat}:(iW l b).length≤l.length+1:=by{
unfold iW
split
·split
 ·rw[List.length_append,List.length_dropLast];simp
  try omega
 ·simp
·simp}
theorem xi:∀ (bs:List (Fin 256)) (l:List (Nat×Nat)),(bs.foldl (fun l b=>iW l b.1) l).length≤l.length+bs.length
 | [],l=>by simp
 | b :: bs,l=>by
   rw[List.foldl_cons]
   have h1:=xi bs (iW l b.1)
   have h2:=yd (l:=l) (b:=b.1)
   simp only[List.length_cons]
   omega
theorem jB (f:Nat→Bool):∀ k,(bP f k).length≤k
 | 0=>by simp [bP]
 | k+1=>by
   have:=jB f k
   unfold bP
   split
   ·split
    ·simp;omega
    ·omega
   ·simp;try omega
theorem xc (n:Int):0≤IntKind.u8.wrap n∧IntKind.u8.wrap n<256:=by
 rw[IntKind.wrap_u8]
 omega
theorem Ap (f:Nat→Bool) (n:Nat):(b7 (bP f n)).length≤n:=by{
have h1:=xi (bP f n) []
have h2:=jB f n
unfold b7
simp only[List.length_nil,Nat.zero_add] at h1
omega}
theorem As {args:List Value}:env.mr 175 args h=iS h args:=by{
have e1:env.mr=kj:=rfl
rw[e1]
unfold kj
rw[if_neg (by decide),if_pos rfl]}
theorem Ab {cs:Array Value} {a b c d:Int} (e:cs.toList=[.int .u64 a,.int .u64 b,.int .u64 c,.int .u64 d]):iS h [.agg cs]=(if uY a&&uY b&&uY c&&uY d then
        (if (b7 (bP (mQ a b c d) 256)).isEmpty then some (.slice none 0 0,h)
        else some (.slice (some ⟨h.length,0,some 0⟩) (b7 (bP (mQ a b c d) 256)).length (b7 (bP (mQ a b c d) 256)).length,h++[ax.aq (df (b7 (bP (mQ a b c d) 256))) 0 true 214])) else none):=by
 unfold iS
 simp only[e]
theorem zF {a b c d:Int} (hw:(uY a&&uY b&&uY c&&uY d)=true):∃ l:List (Nat×Nat),l.length≤256∧((l.isEmpty=true∧iS h [.agg #[.int .u64 a,.int .u64 b,.int .u64 c,.int .u64 d]]=some (aH,h))∨(l.isEmpty=false∧iS h [.agg #[.int .u64 a,.int .u64 b,.int .u64 c,.int .u64 d]]=some (.slice (some ⟨h.length,0,some 0⟩) l.length l.length,h++[ax.aq (df l) 0 true 214]))):=by{
have e:=Ab (h:=h) (a:=a) (b:=b) (c:=c) (d:=d) (cs:=#[.int .u64 a,.int .u64 b,.int .u64 c,.int .u64 d]) rfl
have hlen:=Ap (mQ a b c d) 256
generalize b7 (bP (mQ a b c d) 256)=L at e hlen
rw[if_pos hw] at e
refine⟨L,hlen,?_⟩
cases he:L.isEmpty with
| true=>exact .inl ⟨rfl,by rw[e,if_pos he]⟩
| false=>exact .inr ⟨rfl,by rw[e,if_neg (by rw[he];decide)]⟩}
theorem wN {w:Int} (hw:qu w):uY w=true:=by{
obtain⟨a1,a2⟩:=hw
unfold uY
rw[decide_eq_true a1,decide_eq_true a2]
rfl}
theorem FJ {args:List Value} {v:Value} {h':ai} {K:Value→ai→Prop} (e:iS h args=some (v,h')) (k:K v h'):FW env 175 args h K:=vW (As.trans e) k
theorem IF:bT h aH ([]:List (Nat×Nat)).length (df []) 214 16:=⟨by simp,.inl ⟨.inl rfl,rfl,rfl⟩⟩
theorem Ju {l:List (Nat×Nat)} (hl:l.length≤256):bT (h++[ax.aq (df l) 0 true 214]) (.slice (some ⟨h.length,0,some 0⟩) l.length l.length) l.length (df l) 214 16:=⟨by omega,.inr ⟨h.length,0,true,_,rfl,aK⟩⟩
theorem HT {s:a8} (hs:di s) {K:Value→ai→Prop} (k:∀ v h1 (l:List (Nat×Nat)),h <+: h1→l.length≤256→bT h1 v l.length (df l) 214 16→K v h1):FW env 175 [s.val] h K:=by{
have hw:(uY s.a&&uY s.b&&uY s.c&&uY s.d)=true:=by rw[wN hs.a,wN hs.b,wN hs.c,wN hs.d];rfl
have hx:=zF (h:=h) hw
obtain⟨l,hl,hx|hx⟩:=hx
·obtain⟨he,e⟩:=hx
 obtain rfl:=List.isEmpty_iff.mp he
 exact FJ e (k _ _ [] (List.prefix_refl _) hl IF)
·obtain⟨he,e⟩:=hx
 exact FJ e (k _ _ l aJ hl (Ju hl))}
theorem run_get {l:List (Nat×Nat)} {i:Nat} (hi:i<l.length):js (df l) (i*2) 2=some [i64 (l[i].1:Int),i64 (l[i].2:Int)]:=bI (f:=fun r:Nat×Nat=>[.int .i64 r.1,.int .i64 r.2]) (k:=2) (fun _=>rfl) l i l[i] (by simp [hi])
theorem Gu {s:a8} (hs:di s):FW env 139 [s.val] h fun r h'=>(∃ b:ByteArray,b.size≤3000∧r = .string b)∧h'=h:=by{
refine tz (K:=fun r=>∃ b:ByteArray,b.size≤3000∧r = .string b) ?_
refine fe Tryz.func139 ?_;simp only[push_cast]
obtain⟨b45,hb45⟩:∃ b:ByteArray,b=ByteArray.mk #[45]:=⟨_,rfl⟩
obtain⟨b93,hb93⟩:∃ b:ByteArray,b=ByteArray.mk #[93]:=⟨_,rfl⟩
have z45:b45.size=1:=by rw[hb45];rfl
have z93:b93.size=1:=by rw[hb93];rfl
rw[← hb45,← hb93]
refine aC ?_
refine zj Tryz.func175 ?_
refine HT hs fun v h1 l hp1 hl hR=>?_
obtain⟨q,c,rfl⟩:=bT.form hR
refine aC ?_
refine aX l.length (fun k (b:ByteArray)=>[(3,.val (.string b)),(7,.val (.slice q l.length c)),(8,.val (i64 l.length)),(9,.val (i64 k))]) (fun _ _=>h1) (fun k b=>b.size≤1+9*k) ⟨#[91]⟩ aM rfl (by decide) ?_
intro k b hk hb
by_cases hlt:k<l.length
·obtain⟨id,av,own,c',hv,hid⟩:=bT.at hR om
 cases hv
 have hg:=run_get hlt
 have e1:=cz hlt
 have e2:=inc hlt om
 have e3:=aU hlt
 generalize l[k].1=Lo at hg
 generalize l[k].2=H at hg
 obtain⟨u1,u2⟩:=xc (Lo:Int)
 obtain⟨v1,v2⟩:=xc (H:Int)
 obtain⟨L1,hL1⟩:∃ x,IntKind.i64.wrap ((Lo:Int)+1)=x:=⟨_,rfl⟩
 obtain⟨Lb,hLb⟩:∃ x,IntKind.u8.wrap (Lo:Int)=x:=⟨_,rfl⟩
 obtain⟨Hb,hHb⟩:∃ x,IntKind.u8.wrap (H:Int)=x:=⟨_,rfl⟩
 rw[hLb] at u1 u2
 rw[hHb] at v1 v2
 generalize (Lo:Int)=Lo at hg hL1 hLb
 generalize (H:Int)=H at hg hHb
 refine aG e3 ?_
 refine ag rfl ?_
 refine fN e1 hid hg hLb ?_
 refine zj Tryz.func176 ?_
 refine (wW u1 u2).mono ?_
 rintro _ h4 ⟨⟨s1,zs1,rfl⟩,e7⟩
 obtain rfl:=e7.symm
 obtain⟨b2,hb2⟩:∃ x,x=b++s1:=⟨_,rfl⟩
 have zb2:b2.size≤1+9*k+4:=by first|(rw[hb2,ByteArray.size_append,z45];omega) | (rw[hb2,ByteArray.size_append];omega)
 have kb2:((b.size:Int)+(s1.size:Int)≤9223372036854775807)=True:=eq_true (by first|(rw[z45];omega) | omega)
 have hb2:=hb2.symm
 refine gU kb2 hb2 hL1 ?_
 refine dQ al (fun hc1=>?_) (fun hc1=>?_)
 ·obtain⟨b3,hb3⟩:∃ x,x=b2++b45:=⟨_,rfl⟩
  have zb3:b3.size≤1+9*k+5:=by first|(rw[hb3,ByteArray.size_append,z45];omega) | (rw[hb3,ByteArray.size_append];omega)
  have kb3:((b2.size:Int)+(b45.size:Int)≤9223372036854775807)=True:=eq_true (by first|(rw[z45];omega) | omega)
  have hb3:=hb3.symm
  refine fz kb3 hb3 ?_
  refine dQ al (fun hc2=>?_) (fun hc2=>?_)
  ·refine aG hHb ?_
   refine zj Tryz.func176 ?_
   refine (wW v1 v2).mono ?_
   rintro _ h4 ⟨⟨s2,zs2,rfl⟩,e7⟩
   obtain rfl:=e7.symm
   obtain⟨b4,hb4⟩:∃ x,x=b3++s2:=⟨_,rfl⟩
   have zb4:b4.size≤1+9*(k+1):=by first|(rw[hb4,ByteArray.size_append,z45];omega) | (rw[hb4,ByteArray.size_append];omega)
   have kb4:((b3.size:Int)+(s2.size:Int)≤9223372036854775807)=True:=eq_true (by first|(rw[z45];omega) | omega)
   have hb4:=hb4.symm
   refine gU kb4 hb4 e2 ?_
   exact⟨hlt,b4,aM,rfl,zb4⟩
  ·refine cE ?_
   show CW _ _ _ _
   refine aG e2 ?_
   exact⟨hlt,b3,aM,rfl,by omega⟩
 ·refine cE ?_
  show CW _ _ _ _
  refine aC ?_
  refine dQ al (fun hc2=>?_) (fun hc2=>?_)
  ·refine aG hHb ?_
   refine zj Tryz.func176 ?_
   refine (wW v1 v2).mono ?_
   rintro _ h4 ⟨⟨s2,zs2,rfl⟩,e7⟩
   obtain rfl:=e7.symm
   obtain⟨b4,hb4⟩:∃ x,x=b2++s2:=⟨_,rfl⟩
   have zb4:b4.size≤1+9*(k+1):=by first|(rw[hb4,ByteArray.size_append,z45];omega) | (rw[hb4,ByteArray.size_append];omega)
   have kb4:((b2.size:Int)+(s2.size:Int)≤9223372036854775807)=True:=eq_true (by first|(rw[z45];omega) | omega)
   have hb4:=hb4.symm
   refine gU kb4 hb4 e2 ?_
   exact⟨hlt,b4,aM,rfl,zb4⟩
  ·refine cE ?_
   show CW _ _ _ _
   refine aG e2 ?_
   exact⟨hlt,b2,aM,rfl,by omega⟩
·have e3:=aT hlt
 obtain rfl:k=l.length:=by omega
 refine aG e3 ?_
 refine ae rfl ?_
 refine aB ?_
 show CW _ _ _ _
 obtain⟨b5,hb5⟩:∃ x,x=b++b93:=⟨_,rfl⟩
 have zb5:b5.size≤3000:=by rw[hb5,ByteArray.size_append,z93];omega
 have kb5:((b.size:Int)+(b93.size:Int)≤9223372036854775807)=True:=eq_true (by rw[z93];omega)
 have hb5:=hb5.symm
 refine fz kb5 hb5 ?_
 refine ak ?_
 exact⟨_,al,⟨.bf rfl,hp1⟩,b5,zb5,rfl⟩}
end
theorem yF {h:ai} {args:List Value}:env.mr 205 args h=qy h args:=by{
have e1:env.mr=kj:=rfl
rw[e1]
unfold kj
rw[if_pos rfl]}
abbrev dT (i:Nat):Value:=.pointer (some ⟨i,0,some 0⟩)
def DF (h0 h:ai) (i n:Nat):Prop:=h0 <+: h∧h0.length≤i∧∃ (p v:Value) (b:ByteArray),h[i]? = some (.aq [p,v] 0 true 228)∧(p = .pointer none∨p=dT i)∧b.size=n∧aL h0 h v n (bL b) 5
theorem uF (a b:ByteArray):bL (a++b)=bL a++bL b:=by
 unfold bL
 rw[ByteArray.data_append,Array.toList_append,List.map_append]
theorem Aj {c:Int} (h0:0≤c) (h1:c<256):∃ b:ByteArray,b.size=1∧bL b=[.int .u8 c]:=by{
refine⟨⟨#[UInt8.ofNat c.toNat]⟩,rfl,?_⟩
show [Value.int .u8 ((UInt8.ofNat c.toNat).toNat:Int)]=_
have:((UInt8.ofNat c.toNat).toNat:Int)=c:=by
 rw[UInt8.toNat_ofNat']
 omega
rw[this]}
theorem CI {all:Array Oper} {o:Oper} {s:St} {h h':ai} {t t2 e:TypeId} {ti:TI} {x y:Operand} {b:ByteArray} {id av:Nat} {cells:List Value} (hh:s.h=h) (hw:aE all o s=some true) (ho:o.op = .call { callee:=.builtin .unsafeString,args:=#[x,y],argTypes:=#[t,t2] })
 (hu:env.P.underlying t=some (.pointer e)) (ht:au env.P e=some ti) (hs:ti.size=1) (hx:ev s x=some (.pointer (some ⟨id,0,some av⟩))) (hid:h[id]? = some (.aq cells av true e)) (hy:ev s y=some (.int .i64 b.size)) (h0:0<b.size) (hb:b.size≤140737488355328) (hc:cells.take b.size=bL b)
 (he:h'=h.set id (ax.aq cells av false e)):One env all o s (.sl (.val (.string b))) h':=by
 subst hh he
 exact One.GV hw ho hu ht hs hx hid hy h0 hb hc
section
variable {h h0 hk:ai} {i n:Nat}
theorem JL {p v:Value} (hx:h[i]? = some (.aq [p,v] 0 true 228)) (hp:p = .pointer none∨p=dT i):FW env 205 [dT i] h fun r h'=>r = .tuple #[]∧h'=h.set i (ax.aq [dT i,v] 0 true 228):=by{
rcases hp with rfl|rfl
·refine vW (yF.trans (?_:qy h [dT i]=some (.tuple #[],h.set i (ax.aq [dT i,v] 0 true 228)))) ⟨rfl,rfl⟩
 unfold qy
 simp only[hx,if_true]
·refine vW (yF.trans (?_:qy h [dT i]=some (.tuple #[],h))) ⟨rfl,(lY hx).symm⟩
 unfold qy
 simp only[hx,if_true]}
theorem Fl {v:Value} {m:Nat} {cells:List Value} {o:List Value} (hG:aL h0 h v m cells 5) (hx:h[i]? = some (.aq o 0 true 228)):bX v i=false:=by{
cases e:bX v i with
| false=>rfl
| true=>
  rcases hG with ⟨_,_,rfl⟩ | ⟨id,av,_,rfl,g⟩
  ·simp [bX] at e
  ·simp only[bX,beq_iff_eq] at e
   subst e
   rw[hx] at g
   injection g with g
   injection g with _ _ _ g
   exact absurd g (by decide)}
theorem sc {c:Int} (h0c:0≤c) (h1c:c<256) (B:DF h0 h i n) (hn:n≤100000000):FW env 177 [dT i,.int .u8 c] h fun _ h'=>DF h0 h' i (n+1):=by{
obtain⟨hp,hi,p,v,b,hx,hps,hbs,hG⟩:=B
have hni:=Fl hG hx
have hx2:(h.set i (ax.aq [dT i,v] 0 true 228))[i]? = some (.aq [dT i,v] 0 true 228):=aw hx
have hp2:h0 <+: h.set i (ax.aq [dT i,v] 0 true 228):=aZ hp hi
have hG2:aL h0 (h.set i (ax.aq [dT i,v] 0 true 228)) v n (bL b) 5:=hG.mono fun j o hj g=>by
 have hne:i≠j:=by
  rintro rfl
  rw[hni] at hj
  cases hj
 rw[aD hne]
 exact g
refine fe Tryz.func177 ?_;simp only[push_cast]
refine aC ?_
refine zj Tryz.func205 ?_
refine (JL hx hps).mono ?_
rintro _ h5 ⟨rfl,e5⟩
rw[← e5] at hx2 hp2 hG2
obtain⟨q,c2,rfl⟩:=hG2.form
obtain⟨bc,zbc,ebc⟩:=Aj h0c h1c
refine aG hx2 ?_
refine lB (t:=178) (n:=n) al rfl kr NK (by decide) rfl (iQ hx2) al hG2 hp2 (by rw[i4,hbs];exact (Nat.mul_one n).symm) rfl (by simp only;omega) om ?_
intro q3 c3 h3 hG3 hp3 hk3 hat3
have hx3:=hk3 _ _ hni hx2
have hp4:=aZ (x:=ax.aq [dT i,.slice q3 (n+1) c3] 0 true 228) hp3 hi
have hx4:(h3.set i (ax.aq [dT i,.slice q3 (n+1) c3] 0 true 228))[i]? = _:=aw hx3
have hn3:=Fl hG3 hx3
have hG4:aL h0 (h3.set i (ax.aq [dT i,.slice q3 (n+1) c3] 0 true 228)) (.slice q3 (n+1) c3) (n+1) (bL (b++bc)) 5:=by
 rw[uF,ebc]
 exact hG3.mono fun j o hj g=>by
  have hne:i≠j:=by
   rintro rfl
   rw[hn3] at hj
   cases hj
  rw[aD hne]
  exact g
dsimp only[St.a9,St.put]
refine aG hx3 ?_
refine bY (v:=.slice q3 (n+1) c3) (vs:=[.slice q3 (n+1) c3]) (cells':=[dT i,.slice q3 (n+1) c3]) al rfl rfl rfl al hx3 al rfl rfl ?_
dsimp only[St.a9,St.put]
refine aC ?_
refine ak ?_
exact⟨_,al,hp4,hi,_,_,b++bc,hx4,.inr rfl,by rw[ByteArray.size_append,zbc,hbs],hG4⟩}
theorem Bf {t:ByteArray} (ht:0<t.size∧t.size≤1000) (B:DF h0 h i n) (hn:0<n∧n≤100000000):FW env 178 [dT i,.string t] h fun _ h'=>DF h0 h' i (n+t.size):=by{
obtain⟨hp,hi,p,v,b,hx,hps,hbs,hG⟩:=B
have hni:=Fl hG hx
have hx2:(h.set i (ax.aq [dT i,v] 0 true 228))[i]? = some (.aq [dT i,v] 0 true 228):=aw hx
have hp2:h0 <+: h.set i (ax.aq [dT i,v] 0 true 228):=aZ hp hi
have hG2:aL h0 (h.set i (ax.aq [dT i,v] 0 true 228)) v n (bL b) 5:=hG.mono fun j o hj g=>by
 have hne:i≠j:=by
  rintro rfl
  rw[hni] at hj
  cases hj
 rw[aD hne]
 exact g
refine fe Tryz.func178 ?_;simp only[push_cast]
refine aC ?_
refine zj Tryz.func205 ?_
refine (JL hx hps).mono ?_
rintro _ h5 ⟨rfl,e5⟩
rw[← e5] at hx2 hp2 hG2
obtain⟨id,av,hid0,rfl,hid⟩:=hG2.wJ hn.1
have hne:i≠id:=by
 intro e
 simp only[bX,beq_eq_false_iff_ne] at hni
 exact hni e.symm
refine aG hx2 ?_
refine I8 (cells:=bL b) (n:=n) (id:=id) (av:=av) (b:=t) al rfl kr kr NK rfl rfl rfl (iQ hx2) hid (by rw[i4,hbs];exact Nat.le_refl _) al om ?_
rw[List.take_of_length_le (by rw[i4,hbs];exact Nat.le_refl _),← uF]
have hx3:(h5.set id (ax.aq (bL (b++t)) (av+1) true 5))[i]? = _:=(aD (Ne.symm hne)).trans hx2
have hp3:h0 <+: h5.set id (ax.aq (bL (b++t)) (av+1) true 5):=aZ hp2 hid0
have hid3:(h5.set id (ax.aq (bL (b++t)) (av+1) true 5))[id]? = _:=aw hid
dsimp only
generalize (h5.set id (ax.aq (bL (b++t)) (av+1) true 5))=h3 at hx3 hp3 hid3 ⊢
have hp4:=aZ (x:=ax.aq [dT i,.slice (some ⟨id,0,some (av+1)⟩) (n+t.size) (n+t.size)] 0 true 228) hp3 hi
have hx4:(h3.set i (ax.aq [dT i,.slice (some ⟨id,0,some (av+1)⟩) (n+t.size) (n+t.size)] 0 true 228))[i]? = _:=aw hx3
have hid4:(h3.set i (ax.aq [dT i,.slice (some ⟨id,0,some (av+1)⟩) (n+t.size) (n+t.size)] 0 true 228))[id]? = _:=(aD hne).trans hid3
dsimp only[St.a9,St.put]
refine aG hx3 ?_
refine bY (v:=.slice (some ⟨id,0,some (av+1)⟩) (n+t.size) (n+t.size)) (vs:=[.slice (some ⟨id,0,some (av+1)⟩) (n+t.size) (n+t.size)]) (cells':=[dT i,.slice (some ⟨id,0,some (av+1)⟩) (n+t.size) (n+t.size)]) al rfl rfl rfl al hx3 al rfl rfl ?_
dsimp only[St.a9,St.put]
refine aC ?_
refine ak ?_
exact⟨_,al,hp4,hi,_,_,b++t,hx4,.inr rfl,by rw[ByteArray.size_append,hbs],.inr ⟨id,av+1,hid0,rfl,hid4⟩⟩}
theorem Ks (B:DF h0 h i n) (hn:0<n∧n≤1000000000):FW env 179 [dT i] h fun r h'=>(∃ b:ByteArray,b.size=n∧r = .string b)∧h0 <+: h':=by{
obtain⟨hp,hi,p,v,b,hx,hps,hbs,hG⟩:=B
obtain⟨id,av,hid0,rfl,hid⟩:=hG.wJ hn.1
subst hbs
have hp2:h0 <+: h.set id (ax.aq (bL b) av false 5):=aZ hp hid0
have hx2:(h.set id (ax.aq (bL b) av false 5))[i]? = some (.aq [p,.slice (some ⟨id,0,some av⟩) b.size b.size] 0 true 228):=by
 have hne:id≠i:=by
  rintro rfl
  rw[hx] at hid
  injection hid with g
  injection g with _ _ _ g
  exact absurd g (by decide)
 rw[aD hne]
 exact hx
have hpos:(0<b.size)=True:=eq_true hn.1
refine fe Tryz.func179 ?_;simp only[push_cast]
refine aC ?_
refine aA [(0,.val (dT i))] aM ?_
show CW _ _ ⟨_,[],h⟩ _
try apply zs
apply bm (L:=[[],[0],[0,1],[0,1,2],[0,1,2,3],[],[5],[5,6],[5,6,7],[5,6,7,8],[0,1,2,3,4,5,6,7,8,9],[0,1,2,3,4,5,6,7,8,9,10]]) (act:=[10]) (hs:=[h.set id (ax.aq (bL b) av false 5)]) (resL:=[_,_,_,_,_,_,_,_,_,_,_,_]) (frF:=[(2,.val (.string b))])
case hm=>exact mixed
case hc=>kernel_rfl
case ha=>rfl
case hb=>rfl
case hS=>
 refine Lu hx hx2 hpos ?_
 apply az.cons
 ·rfl
 ·refine⟨?_,trivial⟩
  exact CI (b:=b) (id:=id) (av:=av) (cells:=bL b) (h:=h) rfl al rfl kr NK rfl al hid al hn.1 om (List.take_of_length_le (by rw[i4];exact Nat.le_refl _)) rfl
 ·rfl
 exact U2 hx2 hpos
case ht=>rfl
case hF=>exact zh
show CW _ _ ⟨_,[],h.set id (ax.aq (bL b) av false 5)⟩ _
refine ak ?_
refine⟨_,al,⟨b,rfl,rfl⟩,hp2⟩}
theorem Cl {t:ByteArray} {k:Nat} (hk:k<t.size):∃ c:Int,0≤c∧c<256∧(bL t)[k]? = some (.int .u8 c):=by{
have hd:k<t.data.toList.length:=by rw[Array.length_toList];exact hk
refine⟨((t.data.toList[k]).toNat:Int),by omega,?_,?_⟩
·have:=(t.data.toList[k]).toNat_lt
 omega
·unfold bL
 rw[List.getElem?_map,List.getElem?_eq_getElem hd]
 rfl}
theorem xU {v:Value} {t:ByteArray} (hS:bT h v t.size (bL t) 5 1) (ht:t.size≤1000):FW env 140 [v] h fun r h'=>(∃ b:ByteArray,b.size≤5000∧r = .string b)∧h'=h:=by{
refine tz (K:=fun r=>∃ b:ByteArray,b.size≤5000∧r = .string b) ?_
obtain⟨q,c,rfl⟩:=bT.form hS
refine fe Tryz.func140 ?_;simp only[push_cast]
refine zu ?_
iterate 1 (refine zx oA ?_)
refine zu ?_
refine dK (t:=228) (cs:=[.pointer none,aH]) al al ?_
dsimp only[St.a9,St.put]
have B0:DF h (h++[ax.aq [.pointer none,aH] 0 true 228]) h.length 0:=⟨aJ,Nat.le_refl _,_,_,⟨#[]⟩,aK,.inl rfl,rfl,.nil⟩
generalize (h++[ax.aq [.pointer none,aH] 0 true 228])=h1 at B0 ⊢
generalize h.length=i at B0 ⊢
refine aC ?_
refine zj Tryz.func177 ?_
refine (sc (by decide) (by decide) B0 om).mono ?_
rintro _ h2 B1
refine aC ?_
refine CW.mono (Q:=fun e s'=>e = .exit 0∧∃ x:ai×Nat,DF h x.1 i x.2∧(0<x.2∧x.2≤1+4*t.size)∧s'.h=x.1∧bD [(3,.val (dT i))] s'.fr) ?_ ?_
·refine aX t.size (fun k (x:ai×Nat)=>[(3,.val (dT i)),(7,.val (.slice q t.size c)),(8,.val (i64 t.size)),(9,.val (i64 k))]) (fun _ x=>x.1) (fun k x=>DF h x.1 i x.2∧0<x.2∧x.2≤1+4*k) (h2,1) aM rfl ⟨B1,by simp only;omega,by simp only;omega⟩ ?_
 rintro k ⟨hk,n⟩ hkn ⟨B,hn0,hnk⟩
 simp only at B hn0 hnk ⊢
 by_cases hlt:k<t.size
 ·have hS2:bT hk (.slice q t.size c) t.size (bL t) 5 1:=hS.mono B.1
  obtain⟨id,av,own,c',hv,hid⟩:=bT.at hS2 om
  cases hv
  obtain⟨w,w0,w1,hg⟩:=Cl hlt
  have e1:=cz hlt
  have e2:=inc hlt om
  have e3:=aU hlt
  have hq0:0≤w / 16∧w / 16≤15:=by omega
  have hm0:0≤w % 16∧w % 16≤15:=by omega
  have z1:IntKind.u8.wrap (w.tdiv 16)=w / 16:=by rw[Int.tdiv_eq_ediv_of_nonneg w0,IntKind.wrap_u8];omega
  have z2:IntKind.u8.wrap (w.tmod 16)=w % 16:=by rw[Int.tmod_eq_emod_of_nonneg w0,IntKind.wrap_u8];omega
  have z2':w.tmod 16=w % 16:=Int.tmod_eq_emod_of_nonneg w0
  have hz16:(ByteArray.mk #[48,49,50,51,52,53,54,55,56,57,97,98,99,100,101,102]).size=16:=rfl
  generalize w / 16=wq at hq0 z1
  generalize w % 16=wm at hm0 z2 z2'
  obtain⟨d1,hd1,_⟩:=wV (b:=ByteArray.mk #[48,49,50,51,52,53,54,55,56,57,97,98,99,100,101,102]) (i:=wq.toNat) (by rw[hz16];omega)
  obtain⟨d2,hd2,_⟩:=wV (b:=ByteArray.mk #[48,49,50,51,52,53,54,55,56,57,97,98,99,100,101,102]) (i:=wm.toNat) (by rw[hz16];omega)
  have y1:(0≤wq)=True:=eq_true hq0.1
  have y2:(0≤wm)=True:=eq_true hm0.1
  have x1:=d1.toNat_lt
  have x2:=d2.toNat_lt
  refine aG e3 ?_
  refine ag rfl ?_
  refine fN e1 hid Nat.mul_one hg ?_
  refine dQ al (fun hc=>?_) (fun hc=>?_)
  ·refine aC ?_
   refine zj Tryz.func177 ?_
   refine (sc (by decide) (by decide) B om).mono ?_
   rintro _ h3 B3
   refine aC ?_
   refine zj Tryz.func177 ?_
   refine (sc w0 w1 B3 om).mono ?_
   rintro _ h4 B4
   refine aG e2 ?_
   exact⟨hlt,(h4,n+1+1),aM,rfl,B4,by omega,by omega⟩
  refine aC ?_
  refine dQ al (fun hc=>?_) (fun hc=>?_)
  ·refine aC ?_
   refine zj Tryz.func178 ?_
   refine (Bf (by decide) B om).mono ?_
   rintro _ h3 B3
   have B3:DF h h3 i (n+2):=B3
   refine aG e2 ?_
   exact⟨hlt,(h3,n+2),aM,rfl,B3,by omega,by omega⟩
  refine aC ?_
  refine dQ al (fun hc=>?_) (fun hc=>?_)
  ·refine aC ?_
   refine zj Tryz.func178 ?_
   refine (Bf (by decide) B om).mono ?_
   rintro _ h3 B3
   have B3:DF h h3 i (n+2):=B3
   refine aG e2 ?_
   exact⟨hlt,(h3,n+2),aM,rfl,B3,by omega,by omega⟩
  refine aC ?_
  refine dQ al (fun hc=>?_) (fun hc=>?_)
  ·refine aC ?_
   refine zj Tryz.func178 ?_
   refine (Bf (by decide) B om).mono ?_
   rintro _ h3 B3
   have B3:DF h h3 i (n+2):=B3
   refine aG e2 ?_
   exact⟨hlt,(h3,n+2),aM,rfl,B3,by omega,by omega⟩
  refine aC ?_
  refine dQ al (fun hc=>?_) (fun hc=>?_)
  ·refine aC ?_
   refine zj Tryz.func178 ?_
   refine (Bf (by decide) B om).mono ?_
   rintro _ h3 B3
   have B3:DF h h3 i (n+2):=B3
   refine gU z1 hd1 y1 ?_
   refine zj Tryz.func177 ?_
   refine (sc om om B3 om).mono ?_
   rintro _ h4 B4
   refine fN z2 z2' hd2 y2 ?_
   refine zj Tryz.func177 ?_
   refine (sc om om B4 om).mono ?_
   rintro _ h5 B5
   refine aG e2 ?_
   exact⟨hlt,(h5,n+2+1+1),aM,rfl,B5,by omega,by omega⟩
  ·refine aC ?_
   refine zj Tryz.func177 ?_
   refine (sc w0 w1 B om).mono ?_
   rintro _ h4 B4
   refine aG e2 ?_
   exact⟨hlt,(h4,n+1),aM,rfl,B4,by omega,by omega⟩
 ·have e3:=aT hlt
  obtain rfl:k=t.size:=by omega
  refine aG e3 ?_
  refine ae rfl ?_
  refine aB ?_
  exact⟨rfl,(hk,n),B,⟨hn0,hnk⟩,rfl,aM⟩
rintro e s' ⟨rfl,⟨hk,n⟩,B,⟨hn0,hnk⟩,hh,hf⟩
simp only at B hn0 hnk hh
show CW _ _ _ _
refine aA _ hf ?_
rw[hh]
refine aC ?_
refine zj Tryz.func177 ?_
refine (sc (by decide) (by decide) B om).mono ?_
rintro _ h3 B3
refine aC ?_
refine zj Tryz.func179 ?_
refine (Ks B3 om).mono ?_
rintro _ h4 ⟨⟨b,hb,rfl⟩,hp4⟩
refine aC ?_
refine ak ?_
exact⟨_,al,⟨.bf rfl,hp4⟩,b,by omega,rfl⟩}
theorem Et {k:bM} (hset:di k.set) (hn:k.name.size≤lX) (hs:k.sep.size≤32):FW env 94 [k.val] h fun r h'=>(∃ b:ByteArray,b.size≤140737488355328+10000∧r = .string (b++⟨#[43]⟩))∧h'=h:=by{
refine tz (K:=fun r=>∃ b:ByteArray,b.size≤140737488355328+10000∧r = .string (b++⟨#[43]⟩)) ?_
unfold lX at hn
refine fe Tryz.func94 ?_;simp only[push_cast]
obtain⟨b43,hb43⟩:∃ b:ByteArray,b=ByteArray.mk #[43]:=⟨_,rfl⟩
obtain⟨b32,hb32⟩:∃ b:ByteArray,b=ByteArray.mk #[32]:=⟨_,rfl⟩
obtain⟨b123,hb123⟩:∃ b:ByteArray,b=ByteArray.mk #[123]:=⟨_,rfl⟩
obtain⟨b125,hb125⟩:∃ b:ByteArray,b=ByteArray.mk #[125]:=⟨_,rfl⟩
have z43:b43.size=1:=by rw[hb43];rfl
have z32:b32.size=1:=by rw[hb32];rfl
have z123:b123.size=1:=by rw[hb123];rfl
have z125:b125.size=1:=by rw[hb125];rfl
rw[← hb43,← hb32,← hb123,← hb125]
refine aC ?_
refine dQ al (fun hc=>?_) (fun hc=>?_)
·refine aC ?_
 refine zj Tryz.func139 ?_
 refine (Gu hset).mono ?_
 rintro _ h6 ⟨⟨x,hx,rfl⟩,e6⟩
 obtain rfl:=e6.symm
 refine aC ?_
 refine dQ al (fun hd1=>?_) (fun hd1=>?_)
 ·obtain⟨c1,hc1⟩:∃ zz,zz=b123++x:=⟨_,rfl⟩
  have zc1:c1.size≤140737488355328+3001:=by rw[hc1,ByteArray.size_append];omega
  have kc1:((b123.size:Int)+(x.size:Int)≤9223372036854775807)=True:=eq_true om
  have hc1:=hc1.symm
  obtain⟨c2,hc2⟩:∃ zz,zz=c1++b32:=⟨_,rfl⟩
  have zc2:c2.size≤140737488355328+3002:=by rw[hc2,ByteArray.size_append];omega
  have kc2:((c1.size:Int)+(b32.size:Int)≤9223372036854775807)=True:=eq_true om
  have hc2:=hc2.symm
  refine fN kc1 hc1 kc2 hc2 ?_
  refine D7 (b:=k.sep) al rfl kr kr kr NK rfl al om ?_
  dsimp only[St.a9,St.put]
  have hSq:bT (h++[ax.aq (bL k.sep) 0 false 5]) (.slice (some ⟨h.length,0,some 0⟩) k.sep.size k.sep.size) k.sep.size (bL k.sep) 5 1:=⟨by omega,.inr ⟨_,_,_,_,rfl,aK⟩⟩
  have hpq:h <+: h++[ax.aq (bL k.sep) 0 false 5]:=aJ
  generalize (h++[ax.aq (bL k.sep) 0 false 5])=h5 at hSq hpq ⊢
  generalize h.length=i5 at hSq ⊢
  refine aC ?_
  refine zj Tryz.func140 ?_
  refine (xU hSq om).mono ?_
  rintro _ h6 ⟨⟨b,hb,rfl⟩,e6⟩
  obtain rfl:=e6.symm
  obtain⟨c3,hc3⟩:∃ zz,zz=c2++b:=⟨_,rfl⟩
  have zc3:c3.size≤140737488355328+8002:=by rw[hc3,ByteArray.size_append];omega
  have kc3:((c2.size:Int)+(b.size:Int)≤9223372036854775807)=True:=eq_true om
  have hc3:=hc3.symm
  obtain⟨c4,hc4⟩:∃ zz,zz=c3++b125:=⟨_,rfl⟩
  have zc4:c4.size≤140737488355328+8003:=by rw[hc4,ByteArray.size_append];omega
  have kc4:((c3.size:Int)+(b125.size:Int)≤9223372036854775807)=True:=eq_true om
  have hc4:=hc4.symm
  refine fN kc3 hc3 kc4 hc4 ?_
  obtain⟨c5,hc5⟩:∃ zz,zz=c4++b43:=⟨_,rfl⟩
  have zc5:c5.size≤140737488355328+20000:=by rw[hc5,ByteArray.size_append];omega
  have kc5:((c4.size:Int)+(b43.size:Int)≤9223372036854775807)=True:=eq_true om
  have hc5:=hc5.symm
  refine fz kc5 hc5 ?_
  refine ak ?_
  exact⟨_,al,⟨.bf rfl,hpq⟩,c4,by omega,by rw[← hc5,hb43];rfl⟩
 ·refine cE ?_
  show CW _ _ _ _
  obtain⟨c5,hc5⟩:∃ zz,zz=x++b43:=⟨_,rfl⟩
  have zc5:c5.size≤140737488355328+20000:=by rw[hc5,ByteArray.size_append];omega
  have kc5:((x.size:Int)+(b43.size:Int)≤9223372036854775807)=True:=eq_true om
  have hc5:=hc5.symm
  refine fz kc5 hc5 ?_
  refine ak ?_
  exact⟨_,al,⟨.bf rfl,List.prefix_refl _⟩,x,by omega,by rw[← hc5,hb43];rfl⟩
·refine cE ?_
 show CW _ _ _ _
 refine aC ?_
 refine dQ al (fun hd1=>?_) (fun hd1=>?_)
 ·obtain⟨c1,hc1⟩:∃ zz,zz=b123++k.name:=⟨_,rfl⟩
  have zc1:c1.size≤140737488355328+3001:=by rw[hc1,ByteArray.size_append];omega
  have kc1:((b123.size:Int)+(k.name.size:Int)≤9223372036854775807)=True:=eq_true om
  have hc1:=hc1.symm
  obtain⟨c2,hc2⟩:∃ zz,zz=c1++b32:=⟨_,rfl⟩
  have zc2:c2.size≤140737488355328+3002:=by rw[hc2,ByteArray.size_append];omega
  have kc2:((c1.size:Int)+(b32.size:Int)≤9223372036854775807)=True:=eq_true om
  have hc2:=hc2.symm
  refine fN kc1 hc1 kc2 hc2 ?_
  refine D7 (b:=k.sep) al rfl kr kr kr NK rfl al om ?_
  dsimp only[St.a9,St.put]
  have hSq:bT (h++[ax.aq (bL k.sep) 0 false 5]) (.slice (some ⟨h.length,0,some 0⟩) k.sep.size k.sep.size) k.sep.size (bL k.sep) 5 1:=⟨by omega,.inr ⟨_,_,_,_,rfl,aK⟩⟩
  have hpq:h <+: h++[ax.aq (bL k.sep) 0 false 5]:=aJ
  generalize (h++[ax.aq (bL k.sep) 0 false 5])=h5 at hSq hpq ⊢
  generalize h.length=i5 at hSq ⊢
  refine aC ?_
  refine zj Tryz.func140 ?_
  refine (xU hSq om).mono ?_
  rintro _ h6 ⟨⟨b,hb,rfl⟩,e6⟩
  obtain rfl:=e6.symm
  obtain⟨c3,hc3⟩:∃ zz,zz=c2++b:=⟨_,rfl⟩
  have zc3:c3.size≤140737488355328+8002:=by rw[hc3,ByteArray.size_append];omega
  have kc3:((c2.size:Int)+(b.size:Int)≤9223372036854775807)=True:=eq_true om
  have hc3:=hc3.symm
  obtain⟨c4,hc4⟩:∃ zz,zz=c3++b125:=⟨_,rfl⟩
  have zc4:c4.size≤140737488355328+8003:=by rw[hc4,ByteArray.size_append];omega
  have kc4:((c3.size:Int)+(b125.size:Int)≤9223372036854775807)=True:=eq_true om
  have hc4:=hc4.symm
  refine fN kc3 hc3 kc4 hc4 ?_
  obtain⟨c5,hc5⟩:∃ zz,zz=c4++b43:=⟨_,rfl⟩
  have zc5:c5.size≤140737488355328+20000:=by rw[hc5,ByteArray.size_append];omega
  have kc5:((c4.size:Int)+(b43.size:Int)≤9223372036854775807)=True:=eq_true om
  have hc5:=hc5.symm
  refine fz kc5 hc5 ?_
  refine ak ?_
  exact⟨_,al,⟨.bf rfl,hpq⟩,c4,by omega,by rw[← hc5,hb43];rfl⟩
 ·refine cE ?_
  show CW _ _ _ _
  obtain⟨c5,hc5⟩:∃ zz,zz=k.name++b43:=⟨_,rfl⟩
  have zc5:c5.size≤140737488355328+20000:=by rw[hc5,ByteArray.size_append];omega
  have kc5:((k.name.size:Int)+(b43.size:Int)≤9223372036854775807)=True:=eq_true om
  have hc5:=hc5.symm
  refine fz kc5 hc5 ?_
  refine ak ?_
  exact⟨_,al,⟨.bf rfl,List.prefix_refl _⟩,k.name,by omega,by rw[← hc5,hb43];rfl⟩}
end
def wC (l:List ByteArray):List (ByteArray×Int):=l.zipIdx.map fun p=>(p.1,(p.2:Int))
def wZ (n:Nat) (l:List bM):List (bM×Int):=l.zipIdx.map fun p=>(p.1,((n+p.2:Nat):Int))
theorem xg (a b:ByteArray) (l:List ByteArray):(a :: l).idxOf b=if b=a then 0 else l.idxOf b+1:=by{
rw[List.idxOf_cons,vz]
by_cases h:b=a
·rw[if_pos h,decide_eq_true h.symm];rfl
·rw[if_neg h,decide_eq_false (fun e=>h e.symm)];rfl}
theorem C0 (a b:bM) (l:List bM):(a :: l).idxOf b=if b=a then 0 else l.idxOf b+1:=by{
rw[List.idxOf_cons]
by_cases h:b=a
·rw[if_pos h,h];simp
·rw[if_neg h]
 have:(a == b)=false:=by rw[beq_eq_false_iff_ne];exact fun e=>h e.symm
 rw[this];rfl}
theorem xF (x:ByteArray):∀ (l:List ByteArray) (k:Nat),x∈l→iH ((l.zipIdx k).map fun p=>(p.1,(p.2:Int))) x=some ((k+l.idxOf x:Nat):Int)
 | [],k,h=>by simp at h
 | a :: l,k,h=>by
   rw[List.zipIdx_cons,List.map_cons,xg]
   unfold iH
   by_cases e:x=a
   ·rw[if_pos e,if_pos e];rfl
   ·rw[if_neg e,if_neg e,xF x l (k+1) ((List.mem_cons.1 h).resolve_left e)]
    congr 2
    omega
theorem AW {x:ByteArray} {l:List ByteArray} (h:x∈l):gK (fK (wC l)) (.string x)=some (i64 ((l.idxOf x:Nat):Int)):=by{
rw[nL]
unfold wC
rw[xF x l 0 h,Nat.zero_add]
rfl}
theorem xG (x:ByteArray) (v:Int):∀ l:List (ByteArray×Int),(∀ p∈l,p.1≠x)→dv l x v=l++[(x,v)]
 | [],_=>rfl
 | (k,u) :: r,h=>by
   unfold dv
   have hk:x≠k:=fun e=>h (k,u) (by simp) e.symm
   rw[if_neg hk,xG x v r fun p hp=>h p (List.mem_cons_of_mem _ hp)]
   rfl
theorem IM {x:ByteArray} {l:List ByteArray} (h:x∉l):dv (wC l) x (l.length:Int)=wC (l++[x]):=by{
rw[xG]
·unfold wC
 rw[List.zipIdx_append,List.map_append]
 simp
·intro p hp e
 unfold wC at hp
 rw[List.mem_map] at hp
 obtain⟨q,hq,rfl⟩:=hp
 have:=List.mem_zipIdx' hq
 subst e
 exact h (this.2▸List.getElem_mem this.1)}
theorem rM (x:bM) (n:Nat):∀ (l:List bM) (k:Nat),pV ((l.zipIdx k).map fun p=>(p.1,((n+p.2:Nat):Int))) x=if x∈l then some ((n+(k+l.idxOf x):Nat):Int) else none
 | [],k=>by simp [pV]
 | a :: l,k=>by
   rw[List.zipIdx_cons,List.map_cons,C0]
   unfold pV
   by_cases e:x=a
   ·rw[if_pos e,if_pos e,if_pos (by simp [e])];rfl
   ·rw[if_neg e,if_neg e,rM x n l (k+1)]
    by_cases hm:x∈l
    ·rw[if_pos hm,if_pos (List.mem_cons_of_mem _ hm)]
     congr 2
     omega
    ·rw[if_neg hm,if_neg (by rw[List.mem_cons];exact fun h=>h.elim e hm)]
theorem BQ {x:bM} {n:Nat} {l:List bM}:gK (kE (wZ n l)) x.val=if x∈l then some (i64 ((n+l.idxOf x:Nat):Int)) else none:=by{
rw[EU]
unfold wZ
rw[rM x n l 0,Nat.zero_add]
split<;>rfl}
theorem H3 {x:bM} {n:Nat} {l:List bM} (h:x∉l):iT (kE (wZ n l)) x.val (i64 ((n+l.length:Nat):Int))=kE (wZ n (l++[x])):=by{
rw[Fo]
·unfold wZ
 rw[List.zipIdx_append,List.map_append]
 simp
·unfold wZ
 rw[rM,if_neg h]}
theorem aL.lj {a b c:ai} {v:Value} {n:Nat} {cells:List Value} {et:TypeId} (G:aL b c v n cells et) (h:a.length≤b.length):aL a c v n cells et:=by{
rcases G with G|⟨id,av,h1,h2,h3⟩
·exact .inl G
·exact .inr ⟨id,av,Nat.le_trans h h1,h2,h3⟩}
def Ve (n:Nat) (X:List Nat) (a b:ai):Prop:=∀ (j:Nat) (o:ax),j<n→j∉X→a[j]? = some o→b[j]? = some o
structure NS (h0 hb hk:ai) (im:Nat) (m:MK) (l:List ByteArray) (es:List (ByteArray×Int)) (ks:List (bM×Int)) (os:List bM):Prop where
 p:h0 <+: hk
 k:Ve hb.length [im,m.is,m.il] hb hk
 len:hb.length≤hk.length
 o:hk[im]? = some (.aq m.cells 0 true 94)
 n:aL hb hk m.vn l.length (l.map .string) 9
 od:aL hb hk m.vo os.length (os.flatMap bM.cells) 154
 sm:hk[m.is]? = some (.map (fK es))
 lm:hk[m.il]? = some (.map (kE ks))
structure NP (h0 hb:ai) (im i1 is il:Nat):Prop where
 a1:h0.length≤im
 a2:h0.length≤is
 a3:h0.length≤il
 b1:im<hb.length
 b2:is<hb.length
 b3:il<hb.length
 b4:i1<hb.length
 c1:im≠is
 c2:im≠il
 c3:is≠il
 c4:i1∉[im,is,il]
 x:hb[i1]? = some (.aq [.pointer (some ⟨im,0,some 0⟩)] 0 true 89)
section
variable {h0 hb hk h':ai} {im i1:Nat} {m:MK} {l:List ByteArray} {es:List (ByteArray×Int)} {ks:List (bM×Int)} {os:List bM}
theorem NS.x1 (S:NS h0 hb hk im m l es ks os) (P:NP h0 hb im i1 m.is m.il):hk[i1]? = some (.aq [.pointer (some ⟨im,0,some 0⟩)] 0 true 89):=S.k _ _ P.b4 P.c4 P.x
theorem nv {a:ai} {i:Nat} {x:ax}:(a.set i x).length=a.length:=List.length_set
theorem aL.td {v:Value} {n i:Nat} {cells:List Value} {et:TypeId} {x:ax} (G:aL hb hk v n cells et) (hi:i<hb.length):aL hb (hk.set i x) v n cells et:=G.mono fun j o hj g=>by
 have:=G.lt hj
 rw[aD om]
 exact g
theorem NS.nj (S:NS h0 hb hk im m l es ks os) (P:NP h0 hb im i1 m.is m.il) (es':List (ByteArray×Int)):NS h0 hb (hk.set m.is (.map (fK es'))) im m l es' ks os:=
 ⟨aZ S.p P.a2,fun j o h1 h2 h3=>by
  rw[aD (fun e=>h2 (by rw[← e];simp))]
  exact S.k j o h1 h2 h3,by rw[nv];exact S.len,by rw[aD P.c1.symm];exact S.o,S.n.td P.b2,S.od.td P.b2,aw S.sm,by rw[aD P.c3];exact S.lm⟩
theorem NS.Up (S:NS h0 hb hk im m l es ks os) (P:NP h0 hb im i1 m.is m.il) (ks':List (bM×Int)):NS h0 hb (hk.set m.il (.map (kE ks'))) im m l es ks' os:=
 ⟨aZ S.p P.a3,fun j o h1 h2 h3=>by
  rw[aD (fun e=>h2 (by rw[← e];simp))]
  exact S.k j o h1 h2 h3,by rw[nv];exact S.len,by rw[aD P.c2.symm];exact S.o,S.n.td P.b3,S.od.td P.b3,by rw[aD P.c3.symm];exact S.sm,aw S.lm⟩
theorem NS.vQ (S:NS h0 hb hk im m l es ks os) (P:NP h0 hb im i1 m.is m.il) {m':MK} (e1:m'.is=m.is) (e2:m'.il=m.il) (e3:m'.vn=m.vn) (e4:m'.vo=m.vo):NS h0 hb (hk.set im (.aq m'.cells 0 true 94)) im m' l es ks os:=
 ⟨aZ S.p P.a1,fun j o h1 h2 h3=>by
  rw[e1,e2] at h2
  rw[aD (fun e=>h2 (by rw[← e];simp))]
  exact S.k j o h1 h2 h3,by rw[nv];exact S.len,aw S.o,by rw[e3];exact S.n.td P.b1,by rw[e4];exact S.od.td P.b1,by rw[e1,aD P.c1];exact S.sm,by rw[e2,aD P.c2];exact S.lm⟩
theorem BK {v:Value} {n:Nat} {cells:List Value} {et:TypeId} (G:aL hb hk v n cells et) {j:Nat} (hj:j<hb.length):bX v j=false:=by{
cases e:bX v j with
| false=>rfl
| true=>have:=G.lt e;omega}
theorem xf {n:Nat}:hk.take n <+: hk:=List.take_prefix n hk
theorem nE (h:hb.length≤hk.length):(hk.take hb.length).length=hb.length:=by rw[List.length_take];omega
theorem yq {b:ai} (hp:h0 <+: hk) (hl:h0.length≤hb.length) (hk2:hb.length≤hk.length) (h2:hk.take hb.length <+: b):h0 <+: b:=by
 refine List.IsPrefix.trans ?_ h2
 exact List.prefix_take_iff.2 ⟨hp,hl⟩
theorem qZ {s:ByteArray} (S:NS h0 hb hk im m l es ks os) (P:NP h0 hb im i1 m.is m.il) (hl:l.length≤100000) : FW env 90 [.string s,.pointer (some ⟨i1,0,some 0⟩)] hk fun r h'=>r=i64 (l.length:Int)∧∃ vn,NS h0 hb h' im { m with vn:=vn } (l++[s]) es ks os:=by{
have hob:=S.o
have hG:=S.n
have hx1:=S.x1 P
have hl0:h0.length≤hb.length:=by have:=P.a1;have:=P.b1;omega
obtain⟨q,c,hvn⟩:=hG.form
rw[hvn] at hG
have hG':=hG.lj (a:=hk.take hb.length) (by rw[nE S.len];exact Nat.le_refl _)
obtain⟨p2,c2,h2,hone,k1,k2,k3,k4,k5⟩:=iq (cs:=[.string s]) (t:=36) kr E5 (by decide) rfl hG' xf (by simp) rfl (by simp only;omega) om
have hk3:∀ j o,j<hb.length→hk[j]? = some o→h2[j]? = some o:=fun j o hj g=>k3 j o (BK hG hj) g
have k1':aL hb h2 (.slice p2 (l.length+1) c2) (l++[s]).length ((l++[s]).map .string) 9:=by
 rw[List.length_append,List.map_append]
 exact k1.lj (by rw[nE S.len];exact Nat.le_refl _)
have hod:aL hb h2 m.vo os.length (os.flatMap bM.cells) 154:=S.od.dH (bt.push hG k3) (by decide)
have S2:NS h0 hb h2 im { m with vn:=.slice q l.length c } l es ks os→True:=fun _=>trivial
have hob2:=hk3 _ _ P.b1 hob
have hx2:=hk3 _ _ P.b4 hx1
have hp2:h0 <+: h2:=yq S.p hl0 S.len k2
have hS3:NS h0 hb (h2.set im (.aq (MK.cells { m with vn:=.slice p2 (l.length+1) c2 }) 0 true 94)) im { m with vn:=.slice p2 (l.length+1) c2 } (l++[s]) es ks os:=
 ⟨aZ hp2 P.a1,fun j o h1 h2 h3=>by
  rw[aD (fun e=>h2 (by rw[← e];simp))]
  exact hk3 _ _ h1 (S.k j o h1 h2 h3),by rw[nv];exact Nat.le_trans S.len k5,aw hob2,k1'.td P.b1,hod.td P.b1,by rw[aD P.c1];exact hk3 _ _ P.b2 S.sm,by rw[aD P.c2];exact hk3 _ _ P.b3 S.lm⟩
have hob3:=hS3.o
have hx3:=hS3.x1 P
have hw:IntKind.i64.wrap ((l.length:Int)+1-1)=(l.length:Int):=by rw[Int.add_sub_cancel];exact ay om om
simp only[MK.cells,hvn] at hob hob2
refine fe Tryz.func90 ?_;simp only[push_cast]
refine aC ?_
refine aA [(0,.val (.string s)),(1,.val (.pointer (some ⟨i1,0,some 0⟩)))] aM ?_
show CW _ _ ⟨_,[],hk⟩ _
try apply zs
apply bm (L:=[[],[],[1],[1,2],[1,2,3],[1,2,3,4],[],[6],[1,2,3,4,5,6,7],[0],[0,9],[0,9,10],[0,1,2,3,4,5,6,7,8,9,10,11]]) (act:=[8,12]) (hs:=[h2,h2.set im (.aq (MK.cells { m with vn:=.slice p2 (l.length+1) c2 }) 0 true 94)]) (resL:=[_,_,_,_,_,_,_,_,_,_,_,_,_]) (frF:=[(0,.val (.string s)),(1,.val (.pointer (some ⟨i1,0,some 0⟩)))])
case hm=>exact mixed
case hc=>kernel_rfl
case ha=>rfl
case hb=>rfl
case hS=>
 refine uV hx1 hx2 hob hob2 ?_
 apply az.cons
 ·rfl
 ·refine⟨?_,trivial⟩
  exact hone _ _ _ _ _ rfl al rfl al al
 ·rfl
 refine uV hx1 hx2 hob hob2 ?_
 apply az.cons
 ·rfl
 ·refine⟨?_,trivial⟩
  exact One.jE (r:=.sl .dL) (cells':=MK.cells { m with vn:=.slice p2 (l.length+1) c2 }) al rfl al al hob2 al rfl rfl rfl
 ·rfl
 exact az.nil _
case ht=>rfl
case hF=>exact zh
show CW _ _ ⟨_,[],h2.set im (.aq (MK.cells { m with vn:=.slice p2 (l.length+1) c2 }) 0 true 94)⟩ _
generalize (h2.set im (ax.aq (MK.cells { m with vn:=.slice p2 (l.length+1) c2 }) 0 true 94))=h3 at hS3 hob3 hx3 ⊢
simp only[MK.cells] at hob3
refine gU hx3 hob3 hw ?_
refine ak ?_
exact⟨_,al,rfl,.slice p2 (l.length+1) c2,hS3⟩}
end
def Fj (b:ByteArray):Prop:=∃ c:ByteArray,b=c++⟨#[43]⟩
section
variable {h0 hb hk h':ai} {im i1:Nat} {m:MK} {d:bS} {l:List ByteArray} {es:List (ByteArray×Int)} {ks:List (bM×Int)} {os:List bM}
theorem NS.ord (S:NS h0 hb hk im m l es ks os) (P:NP h0 hb im i1 m.is m.il) (k:bM) (hl:os.length≤100000):∃ p2 c2 h2, (∀ (all:Array Oper) (o:Oper) (s:St) (x:Operand) (y:Nat),s.h=hk→aE all o s=some true→o.op = .call { callee:=.builtin .append,args:=#[x,.tmp y],argTypes:=#[92,92] }→ev s x=some m.vo→aW s.fr y = .nz k.cells 1 → One env all o s (.sl (.val (.slice p2 (os.length+1) c2))) h2) ∧ h2[im]? = some (.aq m.cells 0 true 94)∧h2[i1]? = some (.aq [.pointer (some ⟨im,0,some 0⟩)] 0 true 89) ∧ NS h0 hb (h2.set im (.aq (MK.cells { m with vo:=.slice p2 (os.length+1) c2 }) 0 true 94)) im { m with vo:=.slice p2 (os.length+1) c2 } l es ks (os++[k]):=by{
have hob:=S.o
have hG:=S.od
have hx1:=S.x1 P
have hl0:h0.length≤hb.length:=by have:=P.a1;have:=P.b1;omega
have hG':=hG.lj (a:=hk.take hb.length) (by rw[nE S.len];exact Nat.le_refl _)
obtain⟨p2,c2,h2,hone,k1,k2,k3,k4,k5⟩:=iq (cs:=k.cells) (t:=92) kr JU (by decide) rfl hG' xf (bU (f:=bM.cells) (k:=7) (fun _=>rfl) os) rfl (by simp only;omega) om
have hk3:∀ j o,j<hb.length→hk[j]? = some o→h2[j]? = some o:=fun j o hj g=>k3 j o (BK hG hj) g
have k1':aL hb h2 (.slice p2 (os.length+1) c2) (os++[k]).length ((os++[k]).flatMap bM.cells) 154:=by
 rw[List.length_append,List.flatMap_append,List.flatMap_singleton]
 exact k1.lj (by rw[nE S.len];exact Nat.le_refl _)
have hn:aL hb h2 m.vn l.length (l.map .string) 9:=S.n.dH (bt.push hG k3) (by decide)
have hob2:=hk3 _ _ P.b1 hob
have hx2:=hk3 _ _ P.b4 hx1
have hp2:h0 <+: h2:=yq S.p hl0 S.len k2
exact⟨p2,c2,h2,hone,hob2,hx2,
 ⟨aZ hp2 P.a1,fun j o h1 h2 h3=>by
  rw[aD (fun e=>h2 (by rw[← e];simp))]
  exact hk3 _ _ h1 (S.k j o h1 h2 h3),by rw[nv];exact Nat.le_trans S.len k5,aw hob2,hn.td P.b1,k1'.td P.b1,by rw[aD P.c1];exact hk3 _ _ P.b2 S.sm,by rw[aD P.c2];exact hk3 _ _ P.b3 S.lm⟩⟩}
structure NL (h0 hb:ai) (im:Nat) (m:MK) (S:List ByteArray) (os:List bM) (x:ai×Value×Value×List ByteArray):Prop where
 n:NS h0 hb x.1 im { m with vn:=x.2.1,vo:=x.2.2.1 } (S++x.2.2.2) (wC S) (wZ S.length os) os
 l:x.2.2.2.length=os.length
 e:∀ b∈x.2.2.2,Fj b
abbrev nA (i1:Nat):Value:=.func (.func 90) #[] #[.pointer (some ⟨i1,0,some 0⟩)]
structure Vn (h0 hk h':ai) (im:Nat) (m':MK) (d:bS) (nm:List ByteArray) (hb:ai):Prop where
 s:NS h0 hb h' im m' (aF d.aa++nm++(if cY d.layout=true then [] else [⟨#[103,97,112]⟩])++[⟨#[116,111,112]⟩]) (wC (aF d.aa)) (wZ (aF d.aa).length (br d.aa)) (br d.aa)
 p:hk <+: hb
 l:nm.length=nK d
 e:∀ b∈nm,Fj b
theorem Aw {lex:Bool} {os:List bM} {s:Sym} (hL:gV s=true) (hm:iF lex s∈os):fa lex os s=os:=by
 unfold fa addKey
 rw[if_pos hL,if_pos hm]
theorem xH {lex:Bool} {os:List bM} {s:Sym} (hL:gV s=true) (hm:iF lex s∉os):fa lex os s=os++[iF lex s]:=by
 unfold fa addKey
 rw[if_pos hL,if_neg hm]
theorem AG {lex:Bool} {os:List bM} {s:Sym} (hL:gV s=false):fa lex os s=os:=by
 unfold fa
 rw[if_neg (by rw[hL];decide)]
theorem Nv (hp:h0 <+: hk) (ho:hk[im]? = some (.aq m.cells 0 true 94)) (hsm:hk[m.is]? = some (.map (fK []))) (hlm:hk[m.il]? = some (.map (kE []))) (a1:h0.length≤im) (a2:h0.length≤m.is) (a3:h0.length≤m.il) (c1:im≠m.is) (c2:im≠m.il) (c3:m.is≠m.il) (hvn:m.vn=aH) (hvo:m.vo=aH) (hD:bo h0 d m.vP m.vC m.NM m.NJ m.vB) (hs1:m.start=d.start) (hs2:m.layout=d.layout) (G:nq d) (hW:∀ p∈d.aa,oC p) (hnS:(aF d.aa).length≤200) (hkY:∀ (k:Nat) (hk:k<d.aa.length) (j:Nat),(gS d.aa[k].lex (br (d.aa.take k)) (d.aa[k].an.take j)).length≤3000) : FW env 33 [.pointer (some ⟨im,0,some 0⟩)] hk fun r h'=>r = .tuple #[]∧∃ vn vo nm hb,Vn h0 hk h' im { m with vn:=vn,vo:=vo,mh:=bQ d,st:=(eg d:Int),fx:=(aV d:Int) } d nm hb:=by{
obtain⟨pP,cP,hvP⟩:=ct.form hD.aa
refine fe Tryz.func33 ?_;simp only[push_cast]
refine zu ?_
refine dK (t:=89) (cs:=[.pointer (some ⟨im,0,some 0⟩)]) al al ?_
dsimp only[St.a9,St.put]
have hpA:hk <+: hk++[ax.aq [.pointer (some ⟨im,0,some 0⟩)] 0 true 89]:=aJ
have hx1:(hk++[ax.aq [.pointer (some ⟨im,0,some 0⟩)] 0 true 89])[hk.length]? = some (.aq [.pointer (some ⟨im,0,some 0⟩)] 0 true 89):=aK
have hi1:hk.length<(hk++[ax.aq [.pointer (some ⟨im,0,some 0⟩)] 0 true 89]).length:=by simp
generalize (hk++[ax.aq [.pointer (some ⟨im,0,some 0⟩)] 0 true 89])=hA at hpA hx1 hi1 ⊢
have himk:im<hk.length:=(List.getElem?_eq_some_iff.1 ho).1
have hisk:m.is<hk.length:=(List.getElem?_eq_some_iff.1 hsm).1
have hilk:m.il<hk.length:=(List.getElem?_eq_some_iff.1 hlm).1
have hnot:hk.length∉[im,m.is,m.il]:=by simp;omega
generalize hk.length=i1 at hx1 hi1 hnot himk hisk hilk ⊢
have hSo:=ED (hD.mono (hp.trans hpA))
have hobA:=af hpA ho
unfold bS.val at hSo
simp only[MK.cells,hs1,hs2] at hobA
obtain⟨S,hS⟩:∃ S,S=aF d.aa:=⟨_,rfl⟩
have hSn:S.Nodup:=hS▸tR
rw[← hS] at hSo hnS
refine fz hx1 hobA ?_
refine zj Tryz.func91 ?_
refine hSo.mono ?_
rintro _ hb ⟨hpB,GS⟩
obtain⟨q,c,rfl⟩:=GS.form
have hlen:=hpB.length_le
have P:NP h0 hb im i1 m.is m.il:=⟨a1,a2,a3,by omega,by omega,by omega,by omega,c1,c2,c3,hnot,af hpB hx1⟩
have hNS:NS h0 hb hb im m [] (wC []) (wZ S.length []) []:=⟨(hp.trans hpA).trans hpB,fun _ _ _ _ k=>k,Nat.le_refl _,af (hpA.trans hpB) ho,by rw[hvn];exact aL.nil,by rw[hvo];exact aL.nil,af (hpA.trans hpB) hsm,af (hpA.trans hpB) hlm⟩
have hGS:∀ {x:ai} {m':MK} {l:List ByteArray} {es:List (ByteArray×Int)} {ks:List (bM×Int)} {os:List bM},m'.is=m.is→m'.il=m.il→NS h0 hb x im m' l es ks os→aL hA x (.slice q S.length c) S.length (S.map .string) 9:=fun e1 e2 N=>GS.mono fun j o hj g=>by
 have h1:=(GS.lt hj).1
 have h2:=(List.getElem?_eq_some_iff.1 g).1
 refine N.k j o h2 ?_ g
 rw[e1,e2]
 simp
 omega
refine aC ?_
refine CW.mono (Q:=fun e s'=>e = .exit 0∧∃ x:ai×Value,NS h0 hb x.1 im { m with vn:=x.2 } S (wC S) (wZ S.length []) []∧s'.h=x.1∧bD [(1,.val (.pointer (some ⟨i1,0,some 0⟩))),(2,.val (nA i1))] s'.fr) ?_ ?_
·refine aX S.length (fun k (x:ai×Value)=>[(1,.val (.pointer (some ⟨i1,0,some 0⟩))),(2,.val (nA i1)),(18,.val (.slice q S.length c)),(19,.val (i64 S.length)),(20,.val (i64 k))]) (fun _ x=>x.1) (fun k x=>NS h0 hb x.1 im { m with vn:=x.2 } (S.take k) (wC (S.take k)) (wZ S.length []) []) (hb,m.vn) aM rfl (by rw[List.take_zero];exact hNS) ?_
 rintro k ⟨hc,vn⟩ hkn I
 simp only at I ⊢
 by_cases hlt:k<S.length
 ·obtain⟨id,av,own,c',hv,hid⟩:=((hGS (m':={ m with vn:=vn }) rfl rfl I).sl (b:=16) om).at om
  cases hv
  have hg:(S.map Value.string)[k]? = some (.string S[k]):=by rw[List.getElem?_map,List.getElem?_eq_getElem hlt];rfl
  have htk:S.take (k+1)=S.take k++[S[k]]:=List.take_succ_eq_append_getElem hlt
  have hni:S[k]∉S.take k:=by
   intro hm
   obtain⟨j,hj,e⟩:=List.getElem_of_mem hm
   rw[List.length_take] at hj
   rw[List.getElem_take] at e
   exact List.pairwise_iff_getElem.1 hSn j k om hlt om e
  have hput:=qZ (s:=S[k]) I P (by rw[List.length_take];omega)
  have e9:=IM hni
  have hlk:(S.take k).length=k:=by rw[List.length_take];omega
  rw[hlk] at hput e9
  unfold FW at hput
  obtain⟨_,h2,hcall,rfl,vn2,N2⟩:=hput
  have hsk:=bz (wC (S.take k))
  have e8:=dR S[k] (k:Int) (wC (S.take k))
  rw[e9,← htk] at e8
  have N3:=N2.nj P (wC (S.take (k+1)))
  have w1:=cz hlt
  have w2:=inc hlt om
  have q3:=aU hlt
  have hx:=I.x1 P
  have hob:=I.o
  have hx2:=N2.x1 P
  have hob2:=N2.o
  have hsm2:=N2.sm
  simp only[MK.cells] at hob hob2
  simp only at hsm2
  generalize S[k]=s at hcall hg e8 N2 N3 htk ⊢
  refine aG q3 ?_
  refine ag rfl ?_
  refine zu ?_
  iterate 3 (refine zx (UX w1 hid Nat.mul_one hg) ?_)
  apply zn
  show CW _ _ ⟨_,[],hc⟩ _
  try apply zs
  refine aA [(1,.val (.pointer (some ⟨i1,0,some 0⟩))),(2,.val (nA i1)),(4,.val (.string s)),(18,.val (.slice (some ⟨id,0,some av⟩) S.length c)),(19,.val (i64 S.length)),(20,.val (i64 k))] aM ?_
  show CW _ _ ⟨_,[],hc⟩ _
  try apply zs
  apply bm (L:=[[],[0],[0,1],[0,1,2],[],[],[],[5,6],[0,1,2,3,4,5,6,7]]) (act:=[7,8]) (hs:=[h2,h2.set m.is (.map (iT (fK (wC (S.take k))) (.string s) (i64 k)))]) (resL:=[_,_,_,_,_,_,_,_,_]) (frF:=[(1,.val (.pointer (some ⟨i1,0,some 0⟩))),(2,.val (nA i1)),(18,.val (.slice (some ⟨id,0,some av⟩) S.length c)),(19,.val (i64 S.length)),(20,.val (i64 k))])
  case hm=>exact mixed
  case hc=>kernel_rfl
  case ha=>rfl
  case hb=>rfl
  case hS=>
   refine uV hx hx2 hob hob2 ?_
   apply az.cons
   ·rfl
   ·refine⟨?_,trivial⟩
    exact dF (args:=[.string s]) (cap:=[.pointer (some ⟨i1,0,some 0⟩)]) (fn:=Tryz.f90) al rfl al al Tryz.func90 kr kr hcall
   ·rfl
   refine uV hx hx2 hob hob2 ?_
   apply az.cons
   ·rfl
   ·refine⟨?_,trivial⟩
    exact One.BA (r:=.sl .dL) (kt:=9) (et:=3) (kd:=eP) al rfl kr rfl al hsm2 al al rfl hsk rfl
   ·rfl
   exact az.nil _
  case ht=>rfl
  case hF=>exact zh
  rw[e8]
  show CW _ _ ⟨_,[],h2.set m.is (.map (fK (wC (S.take (k+1)))))⟩ _
  simp only at N3
  generalize h2.set m.is (.map (fK (wC (S.take (k+1)))))=h3 at N3 ⊢
  refine aG w2 ?_
  refine⟨hlt,(h3,vn2),aM,rfl,?_⟩
  simp only
  rw[htk] at N3 ⊢
  exact N3
 ·have q3:=aT hlt
  obtain rfl:k=S.length:=by omega
  rw[List.take_length] at I
  refine aG q3 ?_
  refine ae rfl ?_
  refine aB ?_
  exact⟨rfl,(hc,vn),I,rfl,aM⟩
rintro e s' ⟨rfl,⟨h1,vn1⟩,I1,hh,hf⟩
show CW _ _ _ _
refine aA _ hf ?_
rw[hh]
clear hf hh s' hNS
simp only at I1 ⊢
have hx:=I1.x1 P
have hob:=I1.o
simp only[MK.cells,hvP] at hob
refine fz hx hob ?_
have hlP:=ct.le hD.aa
have hGn:=G.n
refine CW.mono (Q:=fun e s'=>e = .exit 2∧∃ x:ai×Value×Value×List ByteArray,NL h0 hb im m S (br d.aa) x∧s'.h=x.1∧bD [(1,.val (.pointer (some ⟨i1,0,some 0⟩))),(2,.val (nA i1))] s'.fr) ?_ ?_
·refine aX d.aa.length (fun k (x:ai×Value×Value×List ByteArray)=>[(1,.val (.pointer (some ⟨i1,0,some 0⟩))),(2,.val (nA i1)),(38,.val (.slice pP d.aa.length cP)),(39,.val (i64 d.aa.length)),(40,.val (i64 k))]) (fun _ x=>x.1) (fun k x=>NL h0 hb im m S (br (d.aa.take k)) x) (h1,vn1,m.vo,[]) aM rfl ⟨by rw[List.append_nil];exact I1,rfl,fun b hb=>by simp at hb⟩ ?_
 rintro k x hkn J
 by_cases hlt:k<d.aa.length
 ·obtain⟨id,av,own,c',cells,u,hv,hid0,hrd,hu⟩:=ct.at (k:=5) (fun _ _=>rfl) hD.aa hlt
  rw[hvP] at hv
  cases hv
  have hu:fB h0 u d.aa[k].an:=hu
  obtain⟨ps,cs,rfl⟩:=bT.form hu
  have hid:=af J.n.p hid0
  have w1:=cz hlt
  have w2:=inc hlt om
  have q3:=aU hlt
  have hpw:=hW _ (List.getElem_mem hlt)
  have hGk:∀ s∈d.aa[k].an,gV s=true→iF d.aa[k].lex s∈br d.aa:=fun s hs hL=>mem_keys.2 ⟨_,List.getElem_mem hlt,s,hs,hL,rfl⟩
  have hle2:=hkY k hlt
  have htk:=zm hlt
  have hule:=hu.1
  obtain⟨pr,hpr⟩:∃ pr,pr=d.aa[k]:=⟨_,rfl⟩
  rw[← hpr] at hrd hu hpw hGk hle2 htk hule
  clear hpr
  refine aG q3 ?_
  refine ag rfl ?_
  refine gU w1 hid hrd ?_
  refine aX pr.an.length (fun j (x:ai×Value×Value×List ByteArray)=>[(1,.val (.pointer (some ⟨i1,0,some 0⟩))),(2,.val (nA i1)),(6,.box [.bool pr.lex,.string pr.sort,.string pr.cons,.bool pr.bracket,.slice ps pr.an.length cs]),(38,.val (.slice (some ⟨id,0,some av⟩) d.aa.length cP)),(39,.val (i64 d.aa.length)),(40,.val (i64 k)),(45,.val (.slice ps pr.an.length cs)),(46,.val (i64 pr.an.length)),(47,.val (i64 j))]) (fun _ x=>x.1) (fun j x=>NL h0 hb im m S (gS pr.lex (br (d.aa.take k)) (pr.an.take j)) x) x aM rfl (by rw[List.take_zero];exact J) ?_
  clear J hid x
  rintro j ⟨hc,vn,vo,nm⟩ hjn J
  by_cases hjl:j<pr.an.length
  ·have hul:=hu.mono J.n.p
   obtain⟨id2,ver2,own2,c3,hv2,hid2⟩:=bT.at hul om
   cases hv2
   have hyg:=g7 hjl
   have v1:=cz hjl
   have v2:=inc hjl om
   have v3:=aU hjl
   have hsucc:=Af (lex:=pr.lex) (l:=br (d.aa.take k)) hjl
   have hGs:=hGk _ (List.getElem_mem hjl)
   have hsw:=hpw.an _ (List.getElem_mem hjl)
   have hosl:=hle2 j
   generalize gS pr.lex (br (d.aa.take k)) (pr.an.take j)=os at J hsucc hosl
   have N:=J.n
   have hnl:=J.l
   simp only at N hnl hid2 ⊢
   have hx:=N.x1 P
   have hob:=N.o
   have hlm:=N.lm
   simp only[MK.cells] at hob
   simp only at hlm
   generalize pr.an[j]=s at hyg hsucc hGs hsw
   refine aG v3 ?_
   refine ag rfl ?_
   refine gU v1 hid2 hyg ?_
   refine zj Tryz.func92 ?_
   refine ui.mono ?_
   rintro _ h2 ⟨rfl,e2⟩
   obtain rfl:=e2.symm
   cases hL:gV s with
   | false=>
     rw[AG hL] at hsucc
     refine aC ?_
     refine ag rfl ?_
     refine aB ?_
     show CW _ _ _ _
     refine aG v2 ?_
     refine⟨hjl,(hc,vn,vo,nm),aM,rfl,?_⟩
     simp only
     rw[hsucc]
     exact J
   | true=>
     have hKm:=hGs hL
     refine aC ?_
     refine ae rfl ?_
     refine aC ?_
     refine zj Tryz.func93 ?_
     refine (xN (s:=s) hul).mono ?_
     rintro _ h2 ⟨rfl,e2⟩
     obtain rfl:=e2.symm
     have hkk0:=re (wZ S.length os)
     have hkk:=hkk0
     have hkg:=BQ (x:=iF pr.lex s) (n:=S.length) (l:=os)
     have hkd:=vy (iF pr.lex s)
     have hn0:(iF pr.lex s).name.size≤lX:=hsw.name
     have hst:di (iF pr.lex s).set:=hsw.set
     have hsp:(iF pr.lex s).sep.size≤32:=(G.k _ hKm).2
     unfold kQ at hkk hkd
     by_cases hm:iF pr.lex s∈os
     ·rw[if_pos hm] at hkg
      rw[Aw hL hm] at hsucc
      generalize iF pr.lex s=K at hkg hkd hn0 hst hsp ⊢
      refine aC ?_
      refine aS 10 mixed kr ?_
      refine JY hx hob hlm hkg hkk hkd ?_
      refine ae rfl ?_
      refine aG v2 ?_
      refine⟨hjl,(hc,vn,vo,nm),aM,rfl,?_⟩
      simp only
      rw[hsucc]
      exact J
     ·rw[if_neg hm] at hkg
      rw[xH hL hm] at hsucc
      have hkput:=H3 (n:=S.length) hm
      generalize iF pr.lex s=K at hkg hkd hn0 hst hsp hsucc hkput hm ⊢
      have hln:=Et (h:=hc) hst hn0 hsp
      unfold FW at hln
      obtain⟨_,_,hcall7,⟨b,hbs,rfl⟩,e7⟩:=hln
      obtain rfl:=e7.symm
      obtain⟨B,hB⟩:∃ B:ByteArray,B=b++ByteArray.mk #[43]:=⟨_,rfl⟩
      rw[← hB] at hcall7
      have hln:FW env 94 [K.val] hc fun r h'=>r = .string B∧h'=hc:=by unfold FW;exact⟨_,_,hcall7,rfl,rfl⟩
      have hput:=qZ (s:=B) N P (by rw[List.length_append];omega)
      have hlk:(S++nm).length=S.length+os.length:=by rw[List.length_append];omega
      rw[hlk] at hput
      unfold FW at hput
      obtain⟨_,h2,hcall,rfl,vn2,N2⟩:=hput
      have N3:=N2.Up P (wZ S.length (os++[K]))
      have hx2:=N2.x1 P
      have hob2:=N2.o
      have hlm2:=N2.lm
      simp only[MK.cells] at hob2
      simp only at hlm2 N3
      have hcs:K.cells=K.cells:=rfl
      refine aC ?_
      refine aS 10 mixed kr ?_
      refine JY hx hob hlm hkg hkk hkd ?_
      refine ag rfl ?_
      refine aA [(1,.val (.pointer (some ⟨i1,0,some 0⟩))),(2,.val (nA i1)),(6,.box [.bool pr.lex,.string pr.sort,.string pr.cons,.bool pr.bracket,.slice (some ⟨id2,0,some ver2⟩) pr.an.length cs]),(9,.box [.bool K.lex,.string K.name,u64 K.set.a,u64 K.set.b,u64 K.set.c,u64 K.set.d,.string K.sep]),(38,.val (.slice (some ⟨id,0,some av⟩) d.aa.length cP)),(39,.val (i64 d.aa.length)),(40,.val (i64 k)),(45,.val (.slice (some ⟨id2,0,some ver2⟩) pr.an.length cs)),(46,.val (i64 pr.an.length)),(47,.val (i64 j))] aM ?_
      show CW _ _ ⟨_,[],hc⟩ _
      try apply zs
      apply bm (L:=[[],[0],[0,1],[0,1,2],[],[],[],[6],[5,6,7],[0,1,2,3,4,5,6,7,8]]) (act:=[8,9]) (hs:=[h2,h2.set m.il (.map (iT (kE (wZ S.length os)) K.val (i64 ((S.length+os.length:Nat):Int))))]) (resL:=[_,_,_,_,_,_,_,_,_,_]) (frF:=[(1,.val (.pointer (some ⟨i1,0,some 0⟩))),(2,.val (nA i1)),(6,.box [.bool pr.lex,.string pr.sort,.string pr.cons,.bool pr.bracket,.slice (some ⟨id2,0,some ver2⟩) pr.an.length cs]),(9,.box [.bool K.lex,.string K.name,u64 K.set.a,u64 K.set.b,u64 K.set.c,u64 K.set.d,.string K.sep]),(38,.val (.slice (some ⟨id,0,some av⟩) d.aa.length cP)),(39,.val (i64 d.aa.length)),(40,.val (i64 k)),(45,.val (.slice (some ⟨id2,0,some ver2⟩) pr.an.length cs)),(46,.val (i64 pr.an.length)),(47,.val (i64 j))])
      case hm=>exact mixed
      case hc=>kernel_rfl
      case ha=>rfl
      case hb=>rfl
      case hS=>
       refine uV hx hx2 hob hob2 ?_
       apply az.cons
       ·rfl
       ·refine⟨?_,trivial⟩
        exact bg (fn:=Tryz.f94) (args:=[K.val]) (cap:=[]) rfl al rfl al al Tryz.func94 kr kr hln
       ·rfl
       refine uV hx hx2 hob hob2 ?_
       apply az.cons
       ·rfl
       ·refine⟨?_,trivial⟩
        exact dF (args:=[.string B]) (cap:=[.pointer (some ⟨i1,0,some 0⟩)]) (fn:=Tryz.f90) al rfl al al Tryz.func90 kr kr hcall
       ·rfl
       refine uV hx hx2 hob hob2 ?_
       apply az.cons
       ·rfl
       ·refine⟨?_,trivial⟩
        exact One.BA (r:=.sl .dL) (kt:=154) (et:=3) (kd:=xm kQ) al rfl kr rfl al hlm2 al al rfl hkk0 rfl
       ·rfl
       exact az.nil _
      case ht=>rfl
      case hF=>exact zh
      rw[hkput]
      show CW _ _ ⟨_,[],h2.set m.il (.map (kE (wZ S.length (os++[K]))))⟩ _
      have P3:NP h0 hb im i1 m.is m.il:=P
      have hx3:=N3.x1 P
      have hob3:=N3.o
      obtain⟨p4,c4,h4,hone,hob4,hx4,N5⟩:=NS.ord N3 P K om
      simp only at hone hob3 hob4 N5
      generalize h2.set m.il (.map (kE (wZ S.length (os++[K]))))=h3 at N3 hx3 hob3 hone ⊢
      have hvo:=N3.od.form
      simp only at hvo
      obtain⟨qv,cv,rfl⟩:=hvo
      simp only[MK.cells] at hob3
      have hob4':=hob4
      simp only[MK.cells] at hob4'
      try apply zs
      apply bm (L:=[[],[],[1],[1,2],[1,2,3],[],[5],[1,2,3,4,5,6],[0],[0,8],[0,1,2,3,4,5,6,7,8,9]]) (act:=[7,10]) (hs:=[h4,h4.set im (.aq (MK.cells { m with vn:=vn2,vo:=.slice p4 (os.length+1) c4 }) 0 true 94)]) (resL:=[_,_,_,_,_,_,_,_,_,_,_]) (frF:=[(1,.val (.pointer (some ⟨i1,0,some 0⟩))),(2,.val (nA i1)),(6,.box [.bool pr.lex,.string pr.sort,.string pr.cons,.bool pr.bracket,.slice (some ⟨id2,0,some ver2⟩) pr.an.length cs]),(38,.val (.slice (some ⟨id,0,some av⟩) d.aa.length cP)),(39,.val (i64 d.aa.length)),(40,.val (i64 k)),(45,.val (.slice (some ⟨id2,0,some ver2⟩) pr.an.length cs)),(46,.val (i64 pr.an.length)),(47,.val (i64 j))])
      case hm=>exact mixed
      case hc=>kernel_rfl
      case ha=>rfl
      case hb=>rfl
      case hS=>
       refine uV hx3 hx4 hob3 hob4' ?_
       apply az.cons
       ·rfl
       ·refine⟨?_,trivial⟩
        exact hone _ _ _ _ _ rfl al rfl al al
       ·rfl
       refine uV hx3 hx4 hob3 hob4' ?_
       apply az.cons
       ·rfl
       ·refine⟨?_,trivial⟩
        exact One.jE (r:=.sl .dL) (cells':=MK.cells { m with vn:=vn2,vo:=.slice p4 (os.length+1) c4 }) al rfl al al hob4' al rfl rfl rfl
       ·rfl
       exact az.nil _
      case ht=>rfl
      case hF=>exact zh
      show CW _ _ ⟨_,[],h4.set im (.aq (MK.cells { m with vn:=vn2,vo:=.slice p4 (os.length+1) c4 }) 0 true 94)⟩ _
      generalize h4.set im (.aq (MK.cells { m with vn:=vn2,vo:=.slice p4 (os.length+1) c4 }) 0 true 94)=h5 at N5 ⊢
      refine aG v2 ?_
      refine⟨hjl,(h5,vn2,.slice p4 (os.length+1) c4,nm++[B]),aM,rfl,?_⟩
      simp only
      rw[hsucc]
      refine⟨?_,?_,fun x hx=>?_⟩
      ·simp only
       rw[← List.append_assoc]
       exact N5
      ·simp only[List.length_append,List.length_singleton]
       omega
      ·rcases List.mem_append.1 hx with hx|hx
       ·exact J.e x hx
       ·rw[List.mem_singleton.1 hx]
        exact⟨b,hB⟩
  ·have v3:=aT hjl
   obtain rfl:j=pr.an.length:=by omega
   simp only
   rw[List.take_length,← htk] at J
   refine aG v3 ?_
   refine ae rfl ?_
   refine aB ?_
   show CW _ _ _ _
   refine aG w2 ?_
   refine⟨hlt,(hc,vn,vo,nm),aM,rfl,J⟩
 ·have q3:=aT hlt
  obtain rfl:k=d.aa.length:=by omega
  rw[List.take_length] at J
  refine aG q3 ?_
  refine ae rfl ?_
  refine aB ?_
  exact⟨rfl,x,J,rfl,aM⟩
rintro e s' ⟨rfl,⟨h2,vn2,vo2,nm⟩,J,hh,hf⟩
show CW _ _ _ _
refine aA _ hf ?_
rw[hh]
clear hf hh s'
have N:=J.n
have hnl:=J.l
have hne:=J.e
simp only at N hnl hne ⊢
clear J
have hnK:nm.length=nK d:=hnl
have hK3:=G.kn
have hSl:S.length=nS d:=by rw[hS];rfl
have hxz:=N.x1 P
have hobz:=N.o
obtain⟨qv,cv,hvo2⟩:=N.od.form
simp only at hvo2
subst hvo2
obtain⟨qn,cn,hvn2⟩:=N.n.form
simp only at hvn2
subst hvn2
have N1:=N.vQ P (m':={ m with vn:=.slice qn (S++nm).length cn,vo:=.slice qv (br d.aa).length cv,mh:=-1 }) rfl rfl rfl rfl
simp only[MK.cells] at hobz
refine zu ?_
iterate 3 (refine zx (Vp hxz hobz) ?_)
refine bY (v:=i64 (-1)) (vs:=[i64 (-1)]) (cells':=MK.cells { m with vn:=.slice qn (S++nm).length cn,vo:=.slice qv (br d.aa).length cv,mh:=-1 }) al rfl rfl rfl al hobz al rfl rfl ?_
dsimp only
generalize (h2.set im (ax.aq (MK.cells { m with vn:=.slice qn (S++nm).length cn,vo:=.slice qv (br d.aa).length cv,mh:=-1 }) 0 true 94))=h3 at N1 ⊢
have hx3:=N1.x1 P
have hob3:=N1.o
have hll:(S++nm).length=nS d+nK d:=by rw[List.length_append,hSl,hnK]
have hkk:nK d≤3000:=hK3
have hss:nS d≤200:=by omega
generalize hL:S++nm=L at N1 hob3 hll
simp only[MK.cells] at hob3
have hdl:decide (m.layout=⟨#[]⟩)=cY d.layout:=by rw[hs2];rfl
obtain⟨GL,hGL⟩:∃ GL:List ByteArray,GL=if cY d.layout=true then [] else [ByteArray.mk #[103,97,112]]:=⟨_,rfl⟩
have hgl:GL.length=if cY d.layout=true then 0 else 1:=by rw[hGL];split<;>rfl
apply zn
show CW _ _ ⟨_,[],h3⟩ _
try apply zs
refine gU hx3 hob3 hdl ?_
refine CW.mono (Q:=fun e s'=>e = .normal∧∃ x:ai×Value,NS h0 hb x.1 im { m with vn:=x.2,vo:=.slice qv (br d.aa).length cv,mh:=bQ d } (L++GL) (wC S) (wZ S.length (br d.aa)) (br d.aa)∧s'.h=x.1∧bD [(1,.val (.pointer (some ⟨i1,0,some 0⟩))),(2,.val (nA i1))] s'.fr) ?_ ?_
·cases hem:cY d.layout with
 | true=>
   have hg:bQ d = -1:=by unfold bQ;rw[if_pos hem]
   rw[if_pos hem] at hGL
   refine ae rfl ?_
   refine aC ?_
   refine⟨rfl,(h3,.slice qn L.length cn),?_,rfl,aM⟩
   simp only
   rw[hg,hGL,List.append_nil]
   exact N1
 | false=>
   have hg:bQ d=((nS d+nK d:Nat):Int):=by unfold bQ;rw[if_neg (by rw[hem];decide)]
   rw[if_neg (by rw[hem];decide)] at hGL
   refine ag rfl ?_
   have hput:=qZ (s:=⟨#[103,97,112]⟩) N1 P om
   rw[hll] at hput
   unfold FW at hput
   obtain⟨_,h4,hcall,rfl,vn4,N4⟩:=hput
   simp only at N4
   have hx4:=N4.x1 P
   have hob4:=N4.o
   have hob4':=hob4
   simp only[MK.cells] at hob4'
   have N5:=N4.vQ P (m':={ m with vn:=vn4,vo:=.slice qv (br d.aa).length cv,mh:=((nS d+nK d:Nat):Int) }) rfl rfl rfl rfl
   refine aA [(1,.val (.pointer (some ⟨i1,0,some 0⟩))),(2,.val (nA i1))] aM ?_
   show CW _ _ ⟨_,[],h3⟩ _
   try apply zs
   apply bm (L:=[[],[],[1],[0],[0,3],[0,1,2,3,4]]) (act:=[2,5]) (hs:=[h4,h4.set im (.aq (MK.cells { m with vn:=vn4,vo:=.slice qv (br d.aa).length cv,mh:=((nS d+nK d:Nat):Int) }) 0 true 94)]) (resL:=[_,_,_,_,_,_]) (frF:=[(1,.val (.pointer (some ⟨i1,0,some 0⟩))),(2,.val (nA i1))])
   case hm=>exact mixed
   case hc=>kernel_rfl
   case ha=>rfl
   case hb=>rfl
   case hS=>
    refine uV hx3 hx4 hob3 hob4' ?_
    apply az.cons
    ·rfl
    ·refine⟨?_,trivial⟩
     exact dF (args:=[.string ⟨#[103,97,112]⟩]) (cap:=[.pointer (some ⟨i1,0,some 0⟩)]) (fn:=Tryz.f90) al rfl al al Tryz.func90 kr kr hcall
    ·rfl
    refine uV hx3 hx4 hob3 hob4' ?_
    apply az.cons
    ·rfl
    ·refine⟨?_,trivial⟩
     exact One.jE (r:=.sl .dL) (cells':=MK.cells { m with vn:=vn4,vo:=.slice qv (br d.aa).length cv,mh:=((nS d+nK d:Nat):Int) }) al rfl al al hob4' al rfl rfl rfl
    ·rfl
    exact az.nil _
   case ht=>rfl
   case hF=>exact zh
   refine⟨rfl,(_,vn4),?_,rfl,aM⟩
   simp only
   rw[hg,hGL]
   exact N5
rintro e s' ⟨rfl,⟨h4,vn4⟩,N4,hh,hf⟩
show CW _ _ _ _
refine aA _ hf ?_
rw[hh]
clear hf hh s'
simp only at N4 ⊢
have hll4:(L++GL).length=eg d:=by
 rw[List.length_append,hll,hgl]
 rfl
have htop:eg d≤10000:=by unfold eg;split<;>omega
generalize hL4:L++GL=L4 at N4 hll4
have hput:=qZ (s:=⟨#[116,111,112]⟩) N4 P om
rw[hll4] at hput
unfold FW at hput
obtain⟨_,h5,hcall,rfl,vn5,N5⟩:=hput
simp only at N5
have hx4:=N4.x1 P
have hob4:=N4.o
have hx5:=N5.x1 P
have hob5:=N5.o
obtain⟨qm,cm,hvn4⟩:=N4.n.form
simp only at hvn4
subst hvn4
obtain⟨qp,cp,hvn5⟩:=N5.n.form
simp only at hvn5
subst hvn5
simp only[MK.cells] at hob4 hob5
have N6:=N5.vQ P (m':={ m with vn:=.slice qp (L4++[ByteArray.mk #[116,111,112]]).length cp,vo:=.slice qv (br d.aa).length cv,mh:=bQ d,st:=(eg d:Int) }) rfl rfl rfl rfl
try apply zs
apply bm (L:=[[],[],[1],[0],[0,3],[0,3,4],[0,3,4,5],[0,1,2,3,4,5,6]]) (act:=[2,7]) (hs:=[h5,h5.set im (.aq (MK.cells { m with vn:=.slice qp (L4++[ByteArray.mk #[116,111,112]]).length cp,vo:=.slice qv (br d.aa).length cv,mh:=bQ d,st:=(eg d:Int) }) 0 true 94)]) (resL:=[_,_,_,_,_,_,_,_]) (frF:=[(1,.val (.pointer (some ⟨i1,0,some 0⟩))),(2,.val (nA i1))])
case hm=>exact mixed
case hc=>kernel_rfl
case ha=>rfl
case hb=>rfl
case hS=>
 refine uV hx4 hx5 hob4 hob5 ?_
 apply az.cons
 ·rfl
 ·refine⟨?_,trivial⟩
  exact dF (args:=[.string ⟨#[116,111,112]⟩]) (cap:=[.pointer (some ⟨i1,0,some 0⟩)]) (fn:=Tryz.f90) al rfl al al Tryz.func90 kr kr hcall
 ·rfl
 refine uV hx4 hx5 hob4 hob5 ?_
 apply az.cons
 ·rfl
 ·refine⟨?_,trivial⟩
  exact One.jE (r:=.sl .dL) (cells':=MK.cells { m with vn:=.slice qp (L4++[ByteArray.mk #[116,111,112]]).length cp,vo:=.slice qv (br d.aa).length cv,mh:=bQ d,st:=(eg d:Int) }) al rfl al al hob5 al rfl rfl rfl
 ·rfl
 exact az.nil _
case ht=>rfl
case hF=>exact zh
show CW _ _ ⟨_,[],h5.set im (.aq (MK.cells { m with vn:=.slice qp (L4++[ByteArray.mk #[116,111,112]]).length cp,vo:=.slice qv (br d.aa).length cv,mh:=bQ d,st:=(eg d:Int) }) 0 true 94)⟩ _
generalize h5.set im (.aq (MK.cells { m with vn:=.slice qp (L4++[ByteArray.mk #[116,111,112]]).length cp,vo:=.slice qv (br d.aa).length cv,mh:=bQ d,st:=(eg d:Int) }) 0 true 94)=h6 at N6 ⊢
have hx6:=N6.x1 P
have hob6:=N6.o
have hl6:(L4++[ByteArray.mk #[116,111,112]]).length=aV d:=by rw[List.length_append,hll4];rfl
rw[hl6] at N6 hob6
have N7:=N6.vQ P (m':={ m with vn:=.slice qp (aV d) cp,vo:=.slice qv (br d.aa).length cv,mh:=bQ d,st:=(eg d:Int),fx:=(aV d:Int) }) rfl rfl rfl rfl
simp only[MK.cells] at hob6
try apply zs
apply bm (L:=[[],[],[1],[1,2],[1,2,3],[1,2,3,4],[1,2,3,4,5],[0],[0,7],[0,7,8],[0,7,8,9],[0,1,2,3,4,5,6,7,8,9,10]]) (act:=[11]) (hs:=[h6.set im (.aq (MK.cells { m with vn:=.slice qp (aV d) cp,vo:=.slice qv (br d.aa).length cv,mh:=bQ d,st:=(eg d:Int),fx:=(aV d:Int) }) 0 true 94)]) (resL:=[_,_,_,_,_,_,_,_,_,_,_,_]) (frF:=[])
case hm=>exact mixed
case hc=>kernel_rfl
case ha=>rfl
case hb=>rfl
case hS=>
 refine HZ hx6 hob6 ?_
 apply az.cons
 ·rfl
 ·refine⟨?_,trivial⟩
  exact One.jE (r:=.sl .dL) (cells':=MK.cells { m with vn:=.slice qp (aV d) cp,vo:=.slice qv (br d.aa).length cv,mh:=bQ d,st:=(eg d:Int),fx:=(aV d:Int) }) al rfl al al hob6 al rfl rfl rfl
 ·rfl
 exact az.nil _
case ht=>rfl
case hF=>exact zh
refine⟨_,al,rfl,.slice qp (aV d) cp,.slice qv (br d.aa).length cv,nm,hb,⟨?_,hpA.trans hpB,hnK,hne⟩⟩
rw[← hS,hL,← hGL,hL4]
exact N7}
end
def pZ (a b:ai):Prop:=∀ (j:Nat) (cs:List Value) (v:Nat) (w:Bool) (t:TypeId),a[j]? = some (.aq cs v w t)→b[j]? = some (.aq cs v w t)
section
variable {a b c h0 hk h1 x:ai}
theorem pZ.refl:pZ a a:=fun _ _ _ _ _ k=>k
theorem pZ.trans (k1:pZ a b) (k2:pZ b c):pZ a c:=fun j cs v w t e=>k2 j cs v w t (k1 j cs v w t e)
theorem pZ.pre (k:a <+: b):pZ a b:=fun j cs v w t e=>af k e
theorem pZ.vQ {it:Nat} {es:List (Value×Value)} {X:ax} (k:pZ a b) (hm:b[it]? = some (.map es)):pZ a (b.set it X):=fun j cs v w t e=>by
 have e1:=k j cs v w t e
 by_cases h:it=j
 ·subst h
  rw[hm] at e1
  cases e1
 ·rw[aD h]
  exact e1
theorem Ad {it:Nat} {es:List (Value×Value)} {X:ax} (hm:hk[it]? = some (.map es)) (hp:hk.set it X <+: x):pZ hk x:=(pZ.refl.vQ hm).trans (.pre hp)
theorem bT.yN {v:Value} {n w:Nat} {cells:List Value} {et:TypeId} (hs:bT a v n cells et w) (k:pZ a b):bT b v n cells et w:=by{
refine⟨hs.1,?_⟩
rcases hs.2 with h1|⟨id,av,own,c,e,h2⟩
·exact .inl h1
·exact .inr ⟨id,av,own,c,e,k _ _ _ _ _ h2⟩}
theorem fG.yN {v:Value} {l:List gN} (hr:fG a v l) (k:pZ a b):fG b v l:=by
 obtain⟨us,hl,hs,hu⟩:=hr
 exact⟨us,hl,hs.yN k,fun i r u h1 h2=>(hu i r u h1 h2).yN k⟩
theorem bj.yN {v:Value} {l:List ByteArray} (hr:bj a v l) (k:pZ a b):bj b v l:=bT.yN hr k
theorem aL.yN {v:Value} {n:Nat} {cells:List Value} {et:TypeId} (G:aL h0 a v n cells et) (k:pZ a b):aL h0 b v n cells et:=by{
rcases G with G|⟨id,av,h1,h2,h3⟩
·exact .inl G
·exact .inr ⟨id,av,h1,h2,k _ _ _ _ _ h3⟩}
theorem pN {n:Nat}:dx n (.tuple #[]):=.DB fun i v h=>by simp at h
theorem Fe {f:FuncId} {args:List Value} {h:ai} {i:Nat} {es:List (Value×Value)} (hi:i<h.length) (hs:∀ p∈es,dx h.length p.2) (hh:FW env f args h fun r h'=>r = .tuple #[]∧h.set i (.map es) <+: h'):FW env f args h fun r h'=>r = .tuple #[]∧h'=h.set i (.map es):=by{
refine FW.NF (hh.mono ?_)
rintro r h' ⟨rfl,g,rfl⟩
refine⟨h.set i (.map es),g,rfl,pN,by rw[List.length_set];exact Nat.le_refl _,fun j o hj=>?_,rfl,rfl⟩
by_cases e:i=j
·subst e
 rw[List.getElem?_set_self hi] at hj
 cases hj
 refine .inr fun p hp=>?_
 rw[List.length_set]
 exact hs p hp
·rw[List.getElem?_set_ne e] at hj
 exact .inl hj}
theorem JX {n:Nat} {es:List (aR×Int)}:∀ p∈bE es,dx n p.2:=by{
intro p hp
unfold bE at hp
rw[List.mem_map] at hp
obtain⟨q,_,rfl⟩:=hp
exact .bf rfl}
theorem pH (k:Value):∀ es,gK es k=(kL es k).map (·.2)
 | []=>rfl
 | (a,u) :: r=>by
   unfold gK kL
   split
   ·rfl
   ·rw[pH k r,Option.map_map]
    rfl
theorem yI (k v:Value) (hk:qA k k=true):∀ es,kL es k=none→gK (es++[(k,v)]) k=some v
 | [],_=>by unfold gK;simp [hk]
 | (a,u) :: r,h=>by
   unfold kL at h
   by_cases q:qA k a=true
   ·rw[if_pos q] at h
    cases h
   ·rw[if_neg q] at h
    rw[List.cons_append]
    unfold gK
    rw[if_neg q]
    exact yI k v hk r (by simpa using h)
theorem Iq (x:aR) (l:List (aR×Int)):∃ (n:Int) (j:Nat) (es':List (Value×Value)) (u:Value),pA (bE l) x.val (i64 0)=(i64 n,j,es')∧es'[j]? = some (x.val,u)∧es'.set j (x.val,i64 (IntKind.i64.wrap (n+1)))=bE (qL l x)∧(gK (bE l) x.val=some (i64 n)∨(gK (bE l) x.val=none∧n=0))∧gK es' x.val=some (i64 n)∧eB (xm k8) es'=true:=by{
rcases BF x l with ⟨n,j,h1,h2,h3⟩ | ⟨h1,h2⟩
·have e:gK (bE l) x.val=some (i64 n):=by rw[pH,h1];rfl
 exact⟨n,j,bE l,i64 n,by unfold pA;rw[h1],h2,h3,.inl e,e,wz l⟩
·refine⟨0,(bE l).length,bE l++[(x.val,i64 0)],i64 0,by unfold pA;rw[h1],by simp,by rw[h2];simp,.inr ⟨by rw[pH,h1];rfl,rfl⟩,?_⟩
 refine⟨yI _ _ (by rw[Bh];exact decide_eq_true rfl) _ h1,?_⟩
 have:=wz l
 unfold eB at this ⊢
 rw[List.all_append,this]
 rfl}
end
section
variable {h:ai}
theorem Dk {a b:CE} {at_ last:Nat}:FW env 143 [a.place,b.place,i64 at_,i64 last] h fun r h'=>r = .bool (barredB a b at_ last)∧h'=h:=by{
refine fe Tryz.func143 ?_;simp only[push_cast]
by_cases q:a.AB=b.AB
·have d1:decide ((a.AB:Int)=(b.AB:Int))=true:=decide_eq_true om
 refine aG d1 ?_
 refine ae rfl ?_
 refine aC ?_
 refine ak ?_
 refine⟨_,al,?_,rfl⟩
 unfold barredB
 rw[if_pos q]
 have e1:decide ((at_:Int)=(last:Int))=decide (at_=last):=decide_eq_decide.2 om
 have e2:decide ((at_:Int)=0)=decide (at_=0):=decide_eq_decide.2 om
 rw[← e1,← e2]
 cases decide (a.assoc=1)<;>cases decide (a.assoc=3)<;>cases decide (a.assoc=2)<;>cases decide ((at_:Int)=(last:Int))<;>cases decide ((at_:Int)=0)<;>rfl
·have d1:decide ((a.AB:Int)=(b.AB:Int))=false:=decide_eq_false om
 refine aG d1 ?_
 refine ag rfl ?_
 refine aC ?_
 refine ak ?_
 refine⟨_,al,?_,rfl⟩
 unfold barredB
 rw[if_neg q]
 have e1:decide ((a.AB:Int)<(b.AB:Int))=decide (a.AB<b.AB):=decide_eq_decide.2 om
 rw[← e1]
 rfl}
end
structure KD (h0 hk:ai) (im:Nat) (m:MK) (d:bS) (os:List gN) (nm:List ByteArray):Prop where
 p:h0 <+: hk
 a:h0.length≤im
 o:hk[im]? = some (.aq m.cells 0 true 94)
 D:bo h0 d m.vP m.vC m.NM m.NJ m.vB
 s1:m.start=d.start
 s2:m.layout=d.layout
 f:fG hk m.vf os
 n:bj hk m.vn nm
 vr:∃ p n c,m.vr = .slice p n c
 vb:∃ p n c,m.vb = .slice p n c
 vF:∃ p n c,m.vF = .slice p n c
 vR:∃ p n c,m.vR = .slice p n c
section
variable {h0 hk h1 x:ai} {im it:Nat} {m:MK} {d:bS} {os:List gN} {nm:List ByteArray} {es:List (aR×Int)}
theorem KD.yN (K:KD h0 hk im m d os nm) (hp:h0 <+: x) (k:pZ hk x):KD h0 x im m d os nm:=
 ⟨hp,K.a,k _ _ _ _ _ K.o,K.D,K.s1,K.s2,K.f.yN k,K.n.yN k,K.vr,K.vb,K.vF,K.vR⟩
theorem KD.KP (K:KD h0 hk im m d os nm):lN hk (.agg #[.string m.start,.string m.layout,m.vP,m.vC,m.NM,m.NJ,m.vB,i64 m.fx,i64 m.st,m.vr,m.vf,m.vn,m.vb,m.vF,m.vR]) os nm:=by{
obtain⟨p1,c1,e1⟩:=ct.form K.D.aa
obtain⟨p2,c2,e2⟩:=ct.form K.D.aj
obtain⟨p3,c3,e3⟩:=bT.form K.D.follows
obtain⟨p4,c4,e4⟩:=bT.form K.D.ah
obtain⟨p5,c5,e5⟩:=ct.form K.D.boxes
obtain⟨p6,n6,c6,e6⟩:=K.vr
obtain⟨p7,n7,c7,e7⟩:=K.vb
obtain⟨p8,n8,c8,e8⟩:=K.vF
obtain⟨p9,n9,c9,e9⟩:=K.vR
exact⟨m.start,m.layout,p1,p2,p3,p4,p5,p6,p7,p8,p9,_,_,_,_,_,n6,n7,n8,n9,c1,c2,c3,c4,c5,c6,c7,c8,c9,m.fx,m.st,m.vf,m.vn,by rw[e1,e2,e3,e4,e5,e6,e7,e8,e9],K.f,K.n⟩}
structure BI (hk h1:ai) (it:Nat) (es:List (aR×Int)) (x:ai) (L:List aR):Prop where
 p:hk.set it (.map (bE (eO es L))) <+: x
 k:pZ h1 x
theorem BI.at {L:List aR} (B:BI hk h1 it es x L) (hi:it<hk.length):x[it]? = some (.map (bE (eO es L))):=af B.p (List.getElem?_set_self hi)
theorem BI.pre {y:ai} {L:List aR} (B:BI hk h1 it es x L) (hp:x <+: y):BI hk h1 it es y L:=⟨B.p.trans hp,B.k.trans (.pre hp)⟩
theorem BI.add {L:List aR} (B:BI hk h1 it es x L) (hi:it<hk.length) (b:aR):BI hk h1 it es (x.set it (.map (bE (qL (eO es L) b)))) (L++[b]):=by{
refine⟨?_,B.k.vQ (B.at hi)⟩
rw[oN]
exact lE B.p hi}
theorem BI.kd {L:List aR} (B:BI hk h1 it es x L) (K:KD h0 hk im m d os nm) (hm:hk[it]? = some (.map (bE es))) (hl:h0.length≤it):KD h0 x im m d os nm:=
 K.yN ((aZ K.p hl).trans B.p) (Ad hm B.p)
theorem rV {p:Nat}:(dZ os p).length≤os.length:=by
 unfold dZ
 exact Nat.le_trans (List.length_filter_le _ _) (by simp)
theorem ma {p r:Nat} (h:r∈dZ os p):r<os.length:=by{
unfold dZ at h
have:=List.mem_range.1 (List.mem_filter.1 h).1
exact this}
theorem rv {p k:Nat} (hk:k<(dZ os p).length):((dP os (p:Int) os.length).map i64)[k]? = some (i64 ((dZ os p)[k]:Int)):=by
 rw[xE,List.getElem?_map,List.getElem?_map,List.getElem?_eq_getElem hk]
 rfl
theorem qj {p:Nat}:(dP os (p:Int) os.length).length=(dZ os p).length:=by rw[xE,List.length_map]
theorem Mk (K:KD h0 hk im m d os nm) (hm:hk[it]? = some (.map (bE es))) (hl:h0.length≤it) (p at_ q:Nat) (hos:os.length≤4096) : FW env 144 [.pointer (some ⟨im,0,some 0⟩),i64 p,i64 at_,i64 q,.map (some it)] hk fun r h'=>r = .tuple #[]∧h'=hk.set it (.map (bE (eO es (sh os p at_ q)))):=by{
have hi:it<hk.length:=(List.getElem?_eq_some_iff.1 hm).1
refine Fe hi JX ?_
have hob:=K.o
have hR:=uu (p:=(p:Int)) K.KP hos
rw[qj] at hR
obtain⟨pf,cf,hvf⟩:=K.f.form
simp only[MK.cells] at hob
refine fe Tryz.func144 ?_;simp only[push_cast]
refine aG hob ?_
refine zj Tryz.func22 ?_
refine hR.mono ?_
rintro _ h1 ⟨hp1,G1⟩
obtain⟨q1,c1,rfl⟩:=G1.form
have hRl:=rV (os:=os) (p:=p)
have B0:BI hk h1 it es h1 []:=by
 refine⟨?_,pZ.refl⟩
 have:hk.set it (.map (bE (eO es [])))=hk:=by
  refine List.ext_getElem? fun j=>?_
  by_cases e:it=j
  ·subst e;rw[List.getElem?_set_self hi,hm];rfl
  ·rw[List.getElem?_set_ne e]
 rw[this]
 exact hp1
obtain⟨R,hRR⟩:∃ R,R=dZ os p:=⟨_,rfl⟩
have hRg:∀ {k:Nat} (hk:k<R.length),((dP os (p:Int) os.length).map i64)[k]? = some (i64 (R[k]:Int)):=by subst hRR;exact rv
have hRm:∀ r∈R,r<os.length:=by subst hRR;exact fun r hr=>ma hr
unfold sh
rw[← hRR] at G1 hRl ⊢
clear hR hRR
refine aC ?_
refine CW.mono (Q:=fun e s'=>e = .exit 0∧BI hk h1 it es s'.h (R.flatMap (nw os at_ q))) ?_ ?_
·refine aX R.length (fun k (x:ai)=>[(0,.val (.pointer (some ⟨im,0,some 0⟩))),(2,.val (i64 at_)),(3,.val (i64 q)),(4,.val (.map (some it))),(21,.val (.slice q1 R.length c1)),(22,.val (i64 R.length)),(23,.val (i64 k))]) (fun _ x=>x) (fun k x=>BI hk h1 it es x ((R.take k).flatMap (nw os at_ q))) h1 aM rfl B0 ?_
 rintro k x hkn B
 by_cases hlt:k<R.length
 ·have GK:=G1.yN B.k
  obtain⟨id,av,own,c',hv,hid⟩:=(GK.sl (b:=8) om).at om
  cases hv
  have hrg:=hRg hlt
  have hrm:=hRm _ (List.getElem_mem hlt)
  have KX:=B.kd K hm hl
  have hobx:=KX.o
  have hfx:=K.f
  rw[hvf] at hfx
  obtain⟨id2,ver2,own2,c2,cells,ps,ns,cs,hv2,hid2,hn2,hrd,hu⟩:=hfx.at hrm
  cases hv2
  have hid2:=Ad hm B.p _ _ _ _ _ hid2
  have hr3:=dE (j:=3) hrd om
  simp only[List.getElem?_cons_succ,List.getElem?_cons_zero] at hr3
  have htk:(R.take (k+1)).flatMap (nw os at_ q)=(R.take k).flatMap (nw os at_ q)++nw os at_ q R[k]:=by
   rw[List.take_succ_eq_append_getElem hlt,List.flatMap_append,List.flatMap_singleton]
  have hbr:nw os at_ q R[k]=(List.range os[R[k]].an.length).flatMap (oR os R[k] os[R[k]] at_ q):=by
   unfold nw
   rw[List.getElem?_eq_getElem hrm]
  have w1:=cz hlt
  have w2:=inc hlt om
  have w3:=cz hrm
  have q3:=aU hlt
  have hnn:=hn2
  generalize hr:R[k]=r at *
  have hul:=hu.1
  refine aG q3 ?_
  refine ag rfl ?_
  refine MO w1 hid Nat.mul_one hrg hobx hvf w3 hid2 hr3 ?_
  subst hn2
  refine aX os[r].an.length (fun j (y:ai)=>[(0,.val (.pointer (some ⟨im,0,some 0⟩))),(2,.val (i64 at_)),(3,.val (i64 q)),(4,.val (.map (some it))),(11,.val (i64 r)),(21,.val (.slice (some ⟨id,0,some av⟩) R.length c1)),(22,.val (i64 R.length)),(23,.val (i64 k)),(35,.val (.slice ps os[r].an.length cs)),(36,.val (i64 os[r].an.length)),(37,.val (i64 j))]) (fun _ y=>y) (fun j y=>BI hk h1 it es y ((R.take k).flatMap (nw os at_ q)++(List.range j).flatMap (oR os r os[r] at_ q))) x aM rfl (by rw[List.range_zero,List.flatMap_nil,List.append_nil];exact B) ?_
  clear hid hobx hid2 hfx KX GK
  rintro j y hjn C
  by_cases hjl:j<os[r].an.length
  ·have hrs:(List.range (j+1)).flatMap (oR os r os[r] at_ q)=(List.range j).flatMap (oR os r os[r] at_ q)++oR os r os[r] at_ q j:=by
    rw[List.range_succ,List.flatMap_append,List.flatMap_singleton]
   obtain⟨id3,ver3,own3,c3,hv3,hid3⟩:=bT.at (bT.yN hu (Ad hm C.p)) om
   cases hv3
   have hsg:(os[r].an.map i64)[j]? = some (i64 os[r].an[j]):=by rw[List.getElem?_map,List.getElem?_eq_getElem hjl];rfl
   have v1:=cz hjl
   have v2:=inc hjl om
   have v3:=aU hjl
   have hbp:oR os r os[r] at_ q j=if os[r].an[j]=(at_:Int) then (dZ os q).map fun kid=>⟨r,j,kid⟩ else []:=by
    unfold oR
    rw[List.getElem?_eq_getElem hjl]
    simp only[Option.some.injEq]
   refine aG v3 ?_
   refine ag rfl ?_
   by_cases qq:os[r].an[j]=(at_:Int)
   ·have d1:=decide_eq_true qq
    rw[if_pos qq] at hbp
    have KY:=C.kd K hm hl
    have hoby:=KY.o
    have hR:=uu (p:=(q:Int)) KY.KP hos
    rw[qj] at hR
    simp only[MK.cells] at hoby
    refine mE v1 hid3 Nat.mul_one hsg d1 ?_
    refine ae rfl ?_
    refine aG hoby ?_
    refine zj Tryz.func22 ?_
    refine hR.mono ?_
    rintro _ y1 ⟨hpy,G2⟩
    obtain⟨q2,c2,rfl⟩:=G2.form
    have hR2l:=rV (os:=os) (p:=q)
    obtain⟨R2,hRR2⟩:∃ R2,R2=dZ os q:=⟨_,rfl⟩
    have hRg2:∀ {l:Nat} (hk:l<R2.length),((dP os (q:Int) os.length).map i64)[l]? = some (i64 (R2[l]:Int)):=by subst hRR2;exact rv
    rw[← hRR2] at G2 hR2l hbp ⊢
    clear hR hRR2
    have C1:=C.pre hpy
    obtain⟨LL,hLL⟩:∃ LL,LL=(R.take k).flatMap (nw os at_ q)++(List.range j).flatMap (oR os r os[r] at_ q):=⟨_,rfl⟩
    rw[← hLL] at C1 C
    rw[hbp] at hrs
    refine aC ?_
    refine aX R2.length (fun l (z:ai)=>[(0,.val (.pointer (some ⟨im,0,some 0⟩))),(2,.val (i64 at_)),(3,.val (i64 q)),(4,.val (.map (some it))),(11,.val (i64 r)),(12,.val (i64 j)),(21,.val (.slice (some ⟨id,0,some av⟩) R.length c1)),(22,.val (i64 R.length)),(23,.val (i64 k)),(35,.val (.slice (some ⟨id3,0,some ver3⟩) os[r].an.length cs)),(36,.val (i64 os[r].an.length)),(37,.val (i64 j)),(50,.val (.slice q2 R2.length c2)),(51,.val (i64 R2.length)),(52,.val (i64 l))]) (fun _ z=>z) (fun l z=>BI hk h1 it es z (LL++(R2.take l).map fun kid=>⟨r,j,kid⟩)∧pZ y1 z) y1 aM rfl (by rw[List.take_zero,List.map_nil,List.append_nil];exact⟨C1,pZ.refl⟩) ?_
    clear hid3 hoby KY C1 C
    rintro l z hln ⟨D,kz⟩
    by_cases hll:l<R2.length
    ·obtain⟨id4,ver4,own4,c4,hv4,hid4⟩:=((G2.yN kz).sl (b:=8) om).at om
     cases hv4
     have hrg4:=hRg2 hll
     have u1:=cz hll
     have u2:=inc hll om
     have u3:=aU hll
     have htk2:(R2.take (l+1)).map (fun kid=>(⟨r,j,kid⟩:aR))=(R2.take l).map (fun kid=>⟨r,j,kid⟩)++[⟨r,j,R2[l]⟩]:=by
      rw[List.take_succ_eq_append_getElem hll,List.map_append]
      rfl
     have Dm:=D.at hi
     have D2:=D.add hi ⟨r,j,R2[l]⟩
     have kz2:pZ y1 (z.set it (.map (bE (qL (eO es (LL++(R2.take l).map fun kid=>⟨r,j,kid⟩)) ⟨r,j,R2[l]⟩)))):=kz.vQ Dm
     rw[List.append_assoc,← htk2] at D2
     generalize eO es (LL++(R2.take l).map fun kid=>⟨r,j,kid⟩)=F at Dm D2 kz2
     obtain⟨n,jj,es',u,hme,hjj,hse,hg0,hg1,hk1⟩:=Iq ⟨r,j,R2[l]⟩ F
     rw[← hse] at D2 kz2
     have hk0:=wz F
     have hm1:(z.set it (.map es'))[it]? = some (.map es'):=aw Dm
     have hkd:=wE ⟨r,j,R2[l]⟩
     have hz0:zeroOf env.P 3=some (i64 0):=by kernel_rfl
     obtain⟨c,hc⟩:∃ c,c=IntKind.i64.wrap (n+1):=⟨_,rfl⟩
     rw[← hc] at D2 kz2
     have hst:(z.set it (.map es')).set it (.map (es'.set jj ((⟨r,j,R2[l]⟩:aR).val,i64 c)))=z.set it (.map (es'.set jj ((⟨r,j,R2[l]⟩:aR).val,i64 c))):=List.set_set ..
     generalize R2[l]=kid at *
     have hkk0:=hk0
     have hkk1:=hk1
     unfold k8 at hkd hkk0 hkk1
     refine aG u3 ?_
     refine ag rfl ?_
     refine fN u1 hid4 Nat.mul_one hrg4 ?_
     refine aA [(0,.val (.pointer (some ⟨im,0,some 0⟩))),(2,.val (i64 at_)),(3,.val (i64 q)),(4,.val (.map (some it))),(11,.val (i64 r)),(12,.val (i64 j)),(15,.val (i64 kid)),(21,.val (.slice (some ⟨id,0,some av⟩) R.length c1)),(22,.val (i64 R.length)),(23,.val (i64 k)),(35,.val (.slice (some ⟨id3,0,some ver3⟩) os[r].an.length cs)),(36,.val (i64 os[r].an.length)),(37,.val (i64 j)),(50,.val (.slice (some ⟨id4,0,some ver4⟩) R2.length c2)),(51,.val (i64 R2.length)),(52,.val (i64 l))] aM ?_
     show CW _ _ ⟨_,[],z⟩ _
     try apply zs
     apply bm (L:=[[],[],[],[],[1,2,3],[0,1,2,3,4],[0,1,2,3,4,5],[0,1,2,3,4],[0,1,2,3,4,7],[0,1,2,3,4,5,6,7,8]]) (act:=[7,9]) (hs:=[z.set it (.map es'),(z.set it (.map es')).set it (.map (es'.set jj ((⟨r,j,kid⟩:aR).val,i64 c)))]) (resL:=[_,_,_,_,_,_,_,_,_,_]) (frF:=[(0,.val (.pointer (some ⟨im,0,some 0⟩))),(2,.val (i64 at_)),(3,.val (i64 q)),(4,.val (.map (some it))),(11,.val (i64 r)),(12,.val (i64 j)),(21,.val (.slice (some ⟨id,0,some av⟩) R.length c1)),(22,.val (i64 R.length)),(23,.val (i64 k)),(35,.val (.slice (some ⟨id3,0,some ver3⟩) os[r].an.length cs)),(36,.val (i64 os[r].an.length)),(37,.val (i64 j)),(50,.val (.slice (some ⟨id4,0,some ver4⟩) R2.length c2)),(51,.val (i64 R2.length)),(52,.val (i64 l))])
     case hm=>exact mixed
     case hc=>kernel_rfl
     case ha=>rfl
     case hb=>rfl
     case hS=>
      rcases hg0 with hg0|⟨hg0,rfl⟩
      ·have hc':=hc.symm
       refine JN Dm hm1 hg0 hg1 hkk0 hkk1 hkd hc' ?_
       apply az.cons
       ·rfl
       ·refine⟨?_,trivial⟩
        exact One.yv (kt:=70) (et:=3) (kd:=xm k8) (z:=i64 0) al rfl kr rfl hz0 al Dm al (wE _) hk0 hme
       ·rfl
       refine JN Dm hm1 hg0 hg1 hkk0 hkk1 hkd hc' ?_
       apply az.cons
       ·rfl
       ·refine⟨?_,trivial⟩
        exact One.ND (r:=.sl .dL) al rfl al hm1 al al hjj rfl
       ·rfl
       exact az.nil _
      ·obtain rfl:c=1:=by rw[hc];decide
       have hw5:IntKind.i64.wrap 1=1:=by decide
       refine UT Dm hm1 hg0 hg1 hkk0 hkk1 hkd hw5 Int.zero_add ?_
       apply az.cons
       ·rfl
       ·refine⟨?_,trivial⟩
        exact One.yv (kt:=70) (et:=3) (kd:=xm k8) (z:=i64 0) al rfl kr rfl hz0 al Dm al (wE _) hk0 hme
       ·rfl
       refine UT Dm hm1 hg0 hg1 hkk0 hkk1 hkd hw5 Int.zero_add ?_
       apply az.cons
       ·rfl
       ·refine⟨?_,trivial⟩
        exact One.ND (r:=.sl .dL) al rfl al hm1 al al hjj rfl
       ·rfl
       exact az.nil _
     case ht=>rfl
     case hF=>exact zh
     rw[hst]
     show CW _ _ ⟨_,[],z.set it (.map (es'.set jj ((⟨r,j,kid⟩:aR).val,i64 c)))⟩ _
     generalize z.set it (.map (es'.set jj ((⟨r,j,kid⟩:aR).val,i64 c)))=z2 at D2 kz2 ⊢
     refine aG u2 ?_
     refine⟨hll,z2,aM,rfl,D2,kz2⟩
    ·have u3:=aT hll
     obtain rfl:l=R2.length:=by omega
     rw[List.take_length,hLL,List.append_assoc,← hrs] at D
     refine aG u3 ?_
     refine ae rfl ?_
     refine aB ?_
     show CW _ _ _ _
     refine aG v2 ?_
     refine⟨hjl,z,aM,rfl,D⟩
   ·have d1:=decide_eq_false qq
    rw[if_neg qq] at hbp
    rw[hbp,List.append_nil] at hrs
    refine mE v1 hid3 Nat.mul_one hsg d1 ?_
    refine ag rfl ?_
    refine aB ?_
    show CW _ _ _ _
    refine aG v2 ?_
    refine⟨hjl,y,aM,rfl,?_⟩
    simp only
    rw[hrs]
    exact C
  ·have v3:=aT hjl
   obtain rfl:j=os[r].an.length:=by omega
   rw[← hbr,← htk] at C
   refine aG v3 ?_
   refine ae rfl ?_
   refine aB ?_
   show CW _ _ _ _
   refine aG w2 ?_
   refine⟨hlt,y,aM,rfl,C⟩
 ·have q3:=aT hlt
  obtain rfl:k=R.length:=by omega
  rw[List.take_length] at B
  refine aG q3 ?_
  refine ae rfl ?_
  refine aB ?_
  exact⟨rfl,B⟩
rintro e s' ⟨rfl,B⟩
refine⟨_,al,rfl,B.p⟩}
end
section
variable {h0 hk h1 x hA:ai} {im it ip:Nat} {m:MK} {d:bS} {os:List gN} {nm:List ByteArray} {es:List (aR×Int)} {l:List cZ}
def eU (E:List CE):List Int:=E.map fun e=>(e.at_:Int)
theorem xO {E:List CE}:(eU E).length=E.length:=List.length_map ..
theorem EO {E:List CE} {e:CE}:eU (E++[e])=eU E++[(e.at_:Int)]:=by unfold eU;rw[List.map_append];rfl
structure Jc (hA:ai) (ip:Nat) (x:ai×Value) (E:List CE):Prop where
 p:hA.set ip (.map (yZ E)) <+: x.1
 g:aL hA x.1 x.2 (eU E).length ((eU E).map i64) 3
theorem Jc.at {x:ai×Value} {E:List CE} (P:Jc hA ip x E) (hi:ip<hA.length):x.1[ip]? = some (.map (yZ E)):=af P.p (List.getElem?_set_self hi)
theorem Jc.len {x:ai×Value} {E:List CE} (P:Jc hA ip x E):hA.length≤x.1.length:=by{
have:=P.p.length_le
rw[List.length_set] at this
exact this}
theorem Fv {g:Nat} {y:cZ} {ps:List Prod}:(j6 ps g y).length=y.cons.length:=by unfold j6;rw[List.length_map]
theorem ud {h:ai} {i:Nat} {o:ax} (hm:h[i]? = some o):h.set i o=h:=by{
refine List.ext_getElem? fun j=>?_
by_cases e:i=j
·subst e;rw[List.getElem?_set_self (List.getElem?_eq_some_iff.1 hm).1,hm]
·rw[List.getElem?_set_ne e]}
theorem BI.Uc {L B:List aR} (I:BI hk h1 it es x L) (hi:it<hk.length):BI hk h1 it es (x.set it (.map (bE (eO (eO es L) B)))) (L++B):=by{
refine⟨?_,I.k.vQ (I.at hi)⟩
rw[oN]
exact lE I.p hi}
theorem BI.other {L:List aR} {o:ax} (I:BI hk h1 it es x L) (hne:it≠ip) (h:hk[ip]? = some o):x[ip]? = some o:=af I.p (by rw[aD hne];exact h)
theorem EE {α β:Type} {f:α×Nat→List β} {l:List α} {k:Nat} (hk:k<l.length):((l.take (k+1)).zipIdx).flatMap f=((l.take k).zipIdx).flatMap f++f (l[k],k):=by{
rw[List.take_succ_eq_append_getElem hk,List.zipIdx_append,List.flatMap_append]
simp only[List.length_take,List.zipIdx_cons,List.zipIdx_nil,List.flatMap_cons,List.flatMap_nil,List.append_nil,Nat.zero_add]
rw[Nat.min_eq_left om]}
theorem Hp {v:Value} (K:KD h0 hk im m d os nm) (hm:hk[it]? = some (.map (bE es))) (hl:h0.length≤it) (hv:b9 h0 v l) (hok:fR d.aa (dy l)) (hos:os.length≤4096) (hcl:(dy l).length≤1000) (hll:l.length≤1000) (hsy:∀ p∈d.aa,p.an.length≤1000) : FW env 102 [.pointer (some ⟨im,0,some 0⟩),v,.map (some it)] hk fun r h'=>r = .tuple #[]∧h'=hk.set it (.map (bE (eO es (fV d os l)))):=by{
have hi:it<hk.length:=(List.getElem?_eq_some_iff.1 hm).1
refine Fe hi JX ?_
have hv0:=hv
obtain⟨pv,cv,rfl⟩:=ct.form hv
obtain⟨pP,cP,hvP⟩:=ct.form K.D.aa
have hel:∀ k,(oP d.aa (l.take k)).length≤(dy l).length:=fun k=>by
 rw[wH]
 unfold dy
 conv=>rhs;rw[← List.take_append_drop k l,List.flatMap_append,List.length_append]
 exact Nat.le_add_right _ _
refine fe Tryz.func102 ?_;simp only[push_cast]
refine zu ?_
refine kC (kt:=3) (et:=203) al rfl kr ?_
dsimp only[St.a9,St.put]
have hpA:hk <+: hk++[ax.map []]:=aJ
have hmA:(hk++[ax.map []])[hk.length]? = some (.map (yZ [])):=aK
have hiA:hk.length<(hk++[ax.map []]).length:=by simp
have PI0:Jc (hk++[ax.map []]) hk.length (hk++[ax.map []],aH) []:=⟨by
 have:(hk++[ax.map []]).set hk.length (.map (yZ []))=hk++[ax.map []]:=by simp [yZ]
 rw[this]
 exact List.prefix_refl _,aL.nil⟩
generalize (hk++[ax.map []])=hA at hpA hmA hiA PI0 ⊢
have hil:it≠hk.length:=by omega
have hpk0:∀ {X:ax},hk <+: hA.set hk.length X:=fun {X}=>aZ hpA (Nat.le_refl _)
have hi0:=hi
generalize hk.length=ip at hmA hiA PI0 hil hi hpk0 ⊢
refine aC ?_
refine CW.mono (Q:=fun e s'=>e = .exit 0∧∃ x:ai×Value,Jc hA ip x (oP d.aa l)∧s'.h=x.1∧bD [(0,.val (.pointer (some ⟨im,0,some 0⟩))),(2,.val (.map (some it))),(6,.val (.map (some ip))),(7,.val x.2)] s'.fr) ?_ ?_
·refine aX l.length (fun k (x:ai×Value)=>[(0,.val (.pointer (some ⟨im,0,some 0⟩))),(2,.val (.map (some it))),(6,.val (.map (some ip))),(7,.val x.2),(22,.val (.slice pv l.length cv)),(23,.val (i64 l.length)),(24,.val (i64 k))]) (fun _ x=>x.1) (fun k x=>Jc hA ip x (oP d.aa (l.take k))) (hA,aH) aM rfl (by rw[List.take_zero];exact PI0) ?_
 rintro k x hkn I
 by_cases hlt:k<l.length
 ·have hpx:hk <+: x.1:=hpk0.trans I.p
  have hp0:h0 <+: x.1:=K.p.trans hpx
  obtain⟨id,av,own,c',cells,u,hv2,hid0,hrd,hu⟩:=ct.at (k:=2) (fun _ _=>rfl) hv0 hlt
  cases hv2
  have hid:=af hp0 hid0
  have hu:bj h0 u l[k].cons:=hu
  obtain⟨pc,cc,rfl⟩:=hu.form
  have hule:=hu.le
  have w1:=cz hlt
  have w2:=inc hlt om
  have q3:=aU hlt
  have htk:=DZ (ps:=d.aa) hlt
  have hmemc:∀ c∈l[k].cons,iA d.aa c:=fun c hc=>hok.1 c (List.mem_flatMap.2 ⟨_,List.getElem_mem hlt,hc⟩)
  have hnd:((oP d.aa (l.take (k+1))).map CE.at_).Nodup:=by
   refine oV ?_
   have e:dy l=dy (l.take (k+1))++dy (l.drop (k+1)):=by
    unfold dy
    rw[← List.flatMap_append,List.take_append_drop]
   rw[e] at hok
   exact hok.pre
  have hel2:=hel (k+1)
  obtain⟨gr,hgr⟩:∃ gr,gr=l[k]:=⟨_,rfl⟩
  rw[← hgr] at hrd hu hule htk hmemc
  clear hgr
  rw[htk] at hnd hel2
  generalize oP d.aa (l.take k)=E at I htk hnd hel2
  rw[List.map_append] at hnd
  have hnd2:=(List.nodup_append.1 hnd)
  refine aG q3 ?_
  refine ag rfl ?_
  refine gU w1 hid hrd ?_
  refine aX gr.cons.length (fun j (x:ai×Value)=>[(0,.val (.pointer (some ⟨im,0,some 0⟩))),(2,.val (.map (some it))),(6,.val (.map (some ip))),(7,.val x.2),(8,.val (i64 k)),(9,.box [i64 gr.assoc,.slice pc gr.cons.length cc]),(22,.val (.slice (some ⟨id,0,some av⟩) l.length cv)),(23,.val (i64 l.length)),(24,.val (i64 k)),(30,.val (.slice pc gr.cons.length cc)),(31,.val (i64 gr.cons.length)),(32,.val (i64 j))]) (fun _ x=>x.1) (fun j x=>Jc hA ip x (E++j6 d.aa k ⟨gr.assoc,gr.cons.take j⟩)) x aM rfl (by rw[List.take_zero];unfold j6;rw[List.map_nil,List.append_nil];exact I) ?_
  clear hid hpx hp0 I x
  rintro j ⟨hc,vp⟩ hjn I
  have hpx:hk <+: hc:=hpk0.trans I.p
  have hp0:h0 <+: hc:=K.p.trans hpx
  by_cases hjl:j<gr.cons.length
  ·obtain⟨id2,ver2,own2,c2,cells2,hv3,hid2,hcg⟩:=(hu.mono hp0).at hjl
   cases hv3
   have v1:=cz hjl
   have v2:=inc hjl hule
   have v3:=aU hjl
   have hcm:=hmemc _ (List.getElem_mem hjl)
   have htk2:j6 d.aa k ⟨gr.assoc,gr.cons.take (j+1)⟩=j6 d.aa k ⟨gr.assoc,gr.cons.take j⟩++[⟨kP d.aa gr.cons[j],k,gr.assoc⟩]:=by
    unfold j6
    simp only
    rw[List.take_succ_eq_append_getElem hjl,List.map_append]
    rfl
   have hlE:(E++j6 d.aa k ⟨gr.assoc,gr.cons.take j⟩).length≤1000:=by
    rw[List.length_append,Fv] at *
    simp only[List.length_take]
    omega
   have hnew:kP d.aa gr.cons[j]∉(E++j6 d.aa k ⟨gr.assoc,gr.cons.take j⟩).map CE.at_:=by
    have e1:E.map CE.at_++(j6 d.aa k gr).map CE.at_=(E++j6 d.aa k ⟨gr.assoc,gr.cons.take (j+1)⟩).map CE.at_++(j6 d.aa k ⟨gr.assoc,gr.cons.drop (j+1)⟩).map CE.at_:=by
     rw[List.map_append,List.append_assoc]
     congr 1
     unfold j6
     simp only
     rw[← List.map_append,← List.map_append,List.take_append_drop]
    rw[e1,htk2,← List.append_assoc,List.map_append] at hnd
    have h2:=(List.nodup_append.1 (List.nodup_append.1 hnd).1).2.2
    intro hmem
    exact h2 _ hmem _ (by simp) rfl
   have hcons:=lP (name:=gr.cons[j]) (K.D.mono hp0)
   have hobx:=af hpx K.o
   simp only[MK.cells,K.s1,K.s2] at hobx
   unfold bS.val at hcons
   generalize gr.cons[j]=cn at hcg hcm hnew hcons htk2
   obtain⟨E2,hE2⟩:∃ E2,E2=E++j6 d.aa k ⟨gr.assoc,gr.cons.take j⟩:=⟨_,rfl⟩
   have htk3:E++j6 d.aa k ⟨gr.assoc,gr.cons.take (j+1)⟩=E2++[⟨kP d.aa cn,k,gr.assoc⟩]:=by rw[htk2,← List.append_assoc,← hE2]
   rw[← hE2] at hnew I hlE
   have hmp:=I.at hiA
   have hkk:=yC E2
   simp only at hmp
   obtain⟨qp,cp,hvp⟩:=I.g.form
   simp only at hvp
   subst hvp
   refine aG v3 ?_
   refine ag rfl ?_
   refine mE v1 hid2 Nat.mul_one hcg hobx ?_
   refine zj Tryz.func24 ?_
   refine hcons.mono ?_
   rintro _ h2 ⟨⟨i,hci,rfl⟩,e2⟩
   obtain rfl:=e2.symm
   obtain rfl:=hci.U5 hcm
   have hput:=AR (e:=⟨kP d.aa cn,k,gr.assoc⟩) hnew
   simp only at hput
   generalize kP d.aa cn=ci at hput hnew htk3 ⊢
   have P2:=lE (y:=.map (yZ (E2++[⟨ci,k,gr.assoc⟩]))) I.p hiA
   have G2:=(I.g.td (x:=.map (yZ (E2++[⟨ci,k,gr.assoc⟩]))) hiA).lj (a:=hA.set ip (.map (yZ (E2++[⟨ci,k,gr.assoc⟩])))) (by rw[List.length_set];exact Nat.le_refl _)
   have hal:=xO (E:=E2)
   simp only at P2 G2
   refine aC ?_
   refine fF (kt:=3) (et:=203) (kd:=nU) al rfl rfl kr rfl al hmp al al rfl hkk ?_
   dsimp only
   rw[hput]
   refine aC ?_
   refine yc (l:=eU E2) (b:=ci) (h:=hA.set ip (.map (yZ (E2++[⟨ci,k,gr.assoc⟩])))) al rfl al al G2 P2 om ?_
   intro p' c' h' k1 k2 _ _
   refine aG v2 ?_
   refine⟨hjl,(h',.slice p' ((eU E2).length+1) c'),aM,rfl,?_⟩
   show Jc hA ip _ (E++j6 d.aa k ⟨gr.assoc,gr.cons.take (j+1)⟩)
   rw[htk3]
   refine⟨k2,?_⟩
   rw[EO]
   exact k1.lj (by rw[List.length_set];exact Nat.le_refl _)
  ·have v3:=aT hjl
   obtain rfl:j=gr.cons.length:=by omega
   rw[List.take_length] at I
   refine aG v3 ?_
   refine ae rfl ?_
   refine aB ?_
   show CW _ _ _ _
   refine aG w2 ?_
   refine⟨hlt,(hc,vp),aM,rfl,?_⟩
   simp only
   rw[htk]
   exact I
 ·have q3:=aT hlt
  obtain rfl:k=l.length:=by omega
  rw[List.take_length] at I
  refine aG q3 ?_
  refine ae rfl ?_
  refine aB ?_
  exact⟨rfl,x,I,rfl,aM⟩
rintro e s' ⟨rfl,⟨hB,vp⟩,I,hh,hf⟩
show CW _ _ _ _
refine aA _ hf ?_
rw[hh]
clear hf hh s'
obtain⟨qp,cp,hvp⟩:=I.g.form
simp only at I hvp ⊢
subst hvp
have hpB:hk <+: hB:=hpk0.trans I.p
have KB:=K.yN (K.p.trans hpB) (pZ.pre hpB)
have hmB:=af hpB hm
have hpm:=I.at hiA
have hgI:=I.g
simp only at hpm hgI
have hEn:=oV hok
have hElt:∀ e∈oP d.aa l,e.at_<d.aa.length:=fun e he=>u9 hok he
have hEl:(oP d.aa l).length≤1000:=by rw[wH];exact hcl
have hiB:it<hB.length:=by have:=hpB.length_le;omega
refine CW.mono (Q:=fun e s'=>e = .normal∧BI hB hB it es s'.h (fV d os l)) ?_ ?_
rotate_left
·rintro e s' ⟨rfl,B⟩
 refine⟨_,al,rfl,?_⟩
 exact (lE (x:=.map (bE es)) (by rw[ud hm];exact hpB) hi0).trans B.p
unfold fV
generalize oP d.aa l=E at I hpm hgI hEn hElt hEl ⊢
have hal:=xO (E:=E)
have hkk:=yC E
have B0:BI hB hB it es hB []:=⟨by
 have:hB.set it (.map (bE (eO es [])))=hB:=ud hmB
 rw[this]
 exact List.prefix_refl _,pZ.refl⟩
clear I hpk0 hmA PI0 hel
refine aC ?_
refine aX (eU E).length (fun k (y:ai)=>[(0,.val (.pointer (some ⟨im,0,some 0⟩))),(2,.val (.map (some it))),(6,.val (.map (some ip))),(7,.val (.slice qp (eU E).length cp)),(55,.val (.slice qp (eU E).length cp)),(56,.val (i64 (eU E).length)),(57,.val (i64 k))]) (fun _ y=>y) (fun k y=>BI hB hB it es y ((E.take k).flatMap fun p=>E.flatMap fun q=>jK d os p q)) hB aM rfl (by rw[List.take_zero];exact B0) ?_
rintro k y hkn C
by_cases hlt:k<E.length
·have htk:(E.take (k+1)).flatMap (fun p=>E.flatMap fun q=>jK d os p q)=(E.take k).flatMap (fun p=>E.flatMap fun q=>jK d os p q)++E.flatMap fun q=>jK d os E[k] q:=by
  rw[List.take_succ_eq_append_getElem hlt,List.flatMap_append,List.flatMap_singleton]
 have hag:∀ {j:Nat} (hj:j<E.length),((eU E).map i64)[j]? = some (i64 (E[j].at_:Int)):=fun {j} hj=>by
  unfold eU
  rw[List.getElem?_map,List.getElem?_map,List.getElem?_eq_getElem hj]
  rfl
 have hgk:=hag hlt
 have hem:=List.getElem_mem hlt
 obtain⟨e,he⟩:∃ e,e=E[k]:=⟨_,rfl⟩
 rw[← he] at htk hgk hem
 clear he
 have hpl:=hElt e hem
 have hge:=vd hEn hem
 obtain⟨id,av,own,c',hv2,hid⟩:=((hgI.yN C.k).sl (b:=8) om).at om
 cases hv2
 have KY:=C.kd KB hmB hl
 have hoby:=KY.o
 obtain⟨id2,ver2,own2,c2,cells,u,hv3,hid20,hrd,hu⟩:=ct.at (k:=5) (fun _ _=>rfl) K.D.aa hpl
 rw[hvP] at hv3
 cases hv3
 have hid2:=af KY.p hid20
 have hu:fB h0 u d.aa[e.at_].an:=hu
 obtain⟨ps,cs,rfl⟩:=bT.form hu
 have hr4:=dE (j:=4) hrd om
 simp only[List.getElem?_cons_succ,List.getElem?_cons_zero] at hr4
 have hsyl:=hsy _ (List.getElem_mem hpl)
 have hbq:∀ q,jK d os e q=(d.aa[e.at_].an.zipIdx).flatMap fun y=>tH d os e q d.aa[e.at_].an.length y.2 y.1:=fun q=>by
  unfold jK
  rw[List.getElem?_eq_getElem hpl]
 generalize d.aa[e.at_]=xp at hu hr4 hsyl hbq hrd
 have w1:((0:Int)≤k∧(k:Int)<((eU E).length:Int))=True:=eq_true om
 have w2:=inc (n:=(eU E).length) (k:=k) om om
 have q3:decide ((k:Int)<((eU E).length:Int))=true:=decide_eq_true om
 have w3:=cz hpl
 simp only[MK.cells,hvP] at hoby
 refine aG q3 ?_
 refine ag rfl ?_
 refine OO w1 hid Nat.mul_one hgk hoby w3 hid2 hr4 ?_
 refine aX (eU E).length (fun j (y:ai)=>[(0,.val (.pointer (some ⟨im,0,some 0⟩))),(2,.val (.map (some it))),(6,.val (.map (some ip))),(7,.val (.slice (some ⟨id,0,some av⟩) (eU E).length cp)),(14,.val (i64 e.at_)),(15,.val (.slice ps xp.an.length cs)),(55,.val (.slice (some ⟨id,0,some av⟩) (eU E).length cp)),(56,.val (i64 (eU E).length)),(57,.val (i64 k)),(71,.val (.slice (some ⟨id,0,some av⟩) (eU E).length cp)),(72,.val (i64 (eU E).length)),(73,.val (i64 j))]) (fun _ y=>y) (fun j y=>BI hB hB it es y ((E.take k).flatMap (fun p=>E.flatMap fun q=>jK d os p q)++(E.take j).flatMap fun q=>jK d os e q)) y aM rfl (by rw[List.take_zero,List.flatMap_nil,List.append_nil];exact C) ?_
 generalize (E.take k).flatMap (fun p=>E.flatMap fun q=>jK d os p q)=L3 at C htk
 clear C hid KY hoby hid2 y
 rintro j y hjn C
 by_cases hjl:j<E.length
 ·have htk2:(E.take (j+1)).flatMap (fun q=>jK d os e q)=(E.take j).flatMap (fun q=>jK d os e q)++jK d os e E[j]:=by
   rw[List.take_succ_eq_append_getElem hjl,List.flatMap_append,List.flatMap_singleton]
  have hgj:=hag hjl
  have hgm:=List.getElem_mem hjl
  obtain⟨g,hg⟩:∃ g,g=E[j]:=⟨_,rfl⟩
  rw[← hg] at htk2 hgj hgm
  clear hg
  have hql:=hElt g hgm
  have hgg:=vd hEn hgm
  obtain⟨id',ver',own',c'',hv2,hid⟩:=((hgI.yN C.k).sl (b:=8) om).at om
  cases hv2
  have v1:((0:Int)≤j∧(j:Int)<((eU E).length:Int))=True:=eq_true om
  have v2:=inc (n:=(eU E).length) (k:=j) om om
  have v3:decide ((j:Int)<((eU E).length:Int))=true:=decide_eq_true om
  obtain⟨id3,ver3,own3,c3,cells3,u3,hv3,hid30,hrd3,hu3⟩:=ct.at (k:=5) (fun _ _=>rfl) K.D.aa hql
  rw[hvP] at hv3
  cases hv3
  have hr1:=dE (j:=1) hrd3 om
  simp only[List.getElem?_cons_succ,List.getElem?_cons_zero] at hr1
  have hbs:∀ (n a:Nat) (s:Sym),tH d os e g n a s=if (gz s d.aa[g.at_]&&barredB e g a (n-1))=true then sh os e.at_ a g.at_ else []:=fun n a s=>by
   unfold tH
   rw[List.getElem?_eq_getElem hql]
  generalize d.aa[g.at_]=xq at hr1 hbs hrd3 hu3
  rw[hbq] at htk2
  refine aG v3 ?_
  refine ag rfl ?_
  refine fN v1 hid Nat.mul_one hgj ?_
  refine aX xp.an.length (fun a (y:ai)=>[(0,.val (.pointer (some ⟨im,0,some 0⟩))),(2,.val (.map (some it))),(6,.val (.map (some ip))),(7,.val (.slice (some ⟨id,0,some av⟩) (eU E).length cp)),(14,.val (i64 e.at_)),(15,.val (.slice ps xp.an.length cs)),(55,.val (.slice (some ⟨id,0,some av⟩) (eU E).length cp)),(56,.val (i64 (eU E).length)),(57,.val (i64 k)),(71,.val (.slice (some ⟨id,0,some av⟩) (eU E).length cp)),(72,.val (i64 (eU E).length)),(73,.val (i64 j)),(17,.val (i64 g.at_)),(77,.val (.slice ps xp.an.length cs)),(78,.val (i64 xp.an.length)),(79,.val (i64 a))]) (fun _ y=>y) (fun a y=>BI hB hB it es y (L3++(E.take j).flatMap (fun q=>jK d os e q)++((xp.an.take a).zipIdx).flatMap fun y=>tH d os e g xp.an.length y.2 y.1)) y aM rfl (by rw[List.take_zero,List.zipIdx_nil,List.flatMap_nil,List.append_nil];exact C) ?_
  generalize hL4:L3++(E.take j).flatMap (fun q=>jK d os e q)=L4 at C
  clear C hid y
  rintro a y han C
  by_cases hal2:a<xp.an.length
  ·have KY:=C.kd KB hmB hl
   obtain⟨id5,ver5,own5,c5,hv5,hid5⟩:=bT.at (bT.mono hu KY.p) om
   cases hv5
   have hyg:=g7 hal2
   have hob5:=KY.o
   have hid3:=af KY.p hid30
   have w3:=cz hql
   have u1:=cz hal2
   have u2:=inc hal2 om
   have u3:=aU hal2
   have hzt:=EE (f:=fun y=>tH d os e g xp.an.length y.2 y.1) hal2
   rw[hbs] at hzt
   simp only[MK.cells,hvP] at hob5
   have hmy:=C.at hiB
   have hpy:=C.other hil hpm
   generalize xp.an[a]=sy at hyg hzt
   have hsub:∃ nl:Nat,nl=xp.an.length-1∧IntKind.i64.wrap ((xp.an.length:Int)-1)=(nl:Int):=⟨_,rfl,by rw[ay om om];omega⟩
   obtain⟨nl,hnl,hsub⟩:=hsub
   rw[← hnl] at hzt
   refine aG u3 ?_
   refine ag rfl ?_
   refine gU u1 hid5 hyg ?_
   refine CW.mono (Q:=fun e' s'=>e' = .normal∧s'.h=y∧bD [(0,.val (.pointer (some ⟨im,0,some 0⟩))),(2,.val (.map (some it))),(6,.val (.map (some ip))),(7,.val (.slice (some ⟨id,0,some av⟩) (eU E).length cp)),(14,.val (i64 e.at_)),(15,.val (.slice (some ⟨id5,0,some ver5⟩) xp.an.length cs)),(55,.val (.slice (some ⟨id,0,some av⟩) (eU E).length cp)),(56,.val (i64 (eU E).length)),(57,.val (i64 k)),(71,.val (.slice (some ⟨id,0,some av⟩) (eU E).length cp)),(72,.val (i64 (eU E).length)),(73,.val (i64 j)),(17,.val (i64 g.at_)),(77,.val (.slice (some ⟨id5,0,some ver5⟩) xp.an.length cs)),(78,.val (i64 xp.an.length)),(79,.val (i64 a)),(18,.val (i64 a)),(20,.val (.bool (gz sy xq)))] s'.fr) ?_ ?_
   ·by_cases k3:sy.kind=3
    ·have d3:=decide_eq_true k3
     refine aS 23 mixed kr ?_
     have hD:gz sy xq=decide (sy.name=xq.sort):=by unfold gz;rw[d3];rfl
     refine mE d3 hob5 w3 hid3 hr1 ?_
     rw[hD]
     exact⟨rfl,rfl,aM⟩
    ·have d3:=decide_eq_false k3
     by_cases k4:sy.kind=4
     ·have d4:=decide_eq_true k4
      refine aS 23 mixed kr ?_
      have hD:gz sy xq=decide (sy.name=xq.sort):=by unfold gz;rw[d3,d4];rfl
      refine JY d3 d4 hob5 w3 hid3 hr1 ?_
      rw[hD]
      exact⟨rfl,rfl,aM⟩
     ·have d4:=decide_eq_false k4
      refine aS 23 mixed kr ?_
      have hD:gz sy xq=false:=by unfold gz;rw[d3,d4];rfl
      refine fz d3 d4 ?_
      rw[hD]
      exact⟨rfl,rfl,aM⟩
   rintro e' s' ⟨rfl,hh,hf⟩
   show CW _ _ _ _
   refine aA _ hf ?_
   rw[hh]
   clear hf hh s'
   cases hdir:gz sy xq with
   | false=>
     rw[hdir] at hzt
     refine aC ?_
     refine ae rfl ?_
     refine aG u2 ?_
     refine⟨hal2,y,aM,rfl,?_⟩
     simp only
     rw[hzt,Bool.false_and,if_neg (by decide),List.append_nil]
     exact C
   | true=>
     rw[hdir,Bool.true_and] at hzt
     refine mE hpy hge hgg hkk hsub ?_
     refine zj Tryz.func143 ?_
     refine (Dk (a:=e) (b:=g) (at_:=a) (last:=nl)).mono ?_
     rintro _ h9 ⟨rfl,e9⟩
     obtain rfl:=e9.symm
     cases hbb:barredB e g a nl with
     | false=>
       rw[hbb] at hzt
       refine aC ?_
       refine ae rfl ?_
       refine aG u2 ?_
       refine⟨hal2,y,aM,rfl,?_⟩
       simp only
       rw[hzt,if_neg (by decide),List.append_nil]
       exact C
     | true=>
       rw[hbb,if_pos rfl] at hzt
       refine aC ?_
       refine ag rfl ?_
       refine aC ?_
       refine zj Tryz.func144 ?_
       refine (Mk KY hmy hl e.at_ a g.at_ hos).mono ?_
       rintro _ h9 ⟨rfl,rfl⟩
       have C2:=C.Uc hiB (B:=sh os e.at_ a g.at_)
       generalize y.set it (.map (bE (eO (eO es _) (sh os e.at_ a g.at_))))=y2 at C2 ⊢
       refine aG u2 ?_
       refine⟨hal2,y2,aM,rfl,?_⟩
       simp only
       rw[hzt,← List.append_assoc]
       exact C2
  ·have u3':=aT hal2
   obtain rfl:a=xp.an.length:=by omega
   rw[List.take_length,← hL4,List.append_assoc,← htk2] at C
   refine aG u3' ?_
   refine ae rfl ?_
   refine aB ?_
   show CW _ _ _ _
   refine aG v2 ?_
   refine⟨by omega,y,aM,rfl,C⟩
 ·have v3:decide ((j:Int)<((eU E).length:Int))=false:=decide_eq_false om
  obtain rfl:j=E.length:=by omega
  rw[List.take_length,← htk] at C
  refine aG v3 ?_
  refine ae rfl ?_
  refine aB ?_
  show CW _ _ _ _
  refine aG w2 ?_
  refine⟨by omega,y,aM,rfl,C⟩
·have q3:decide ((k:Int)<((eU E).length:Int))=false:=decide_eq_false om
 obtain rfl:k=E.length:=by omega
 rw[List.take_length] at C
 refine aG q3 ?_
 refine ae rfl ?_
 refine aB ?_
 exact⟨rfl,C⟩}
end
abbrev gY (l:List aR):List aR:=l.mergeSort (fun x y=>!bx y x)
theorem Jo {l l':List aR} (h:l.Perm l'):gY l=gY l':=by{
have tr:∀ a b c:aR,(!bx b a)=true→(!bx c b)=true→(!bx c a)=true:=fun a b c h1 h2=>by
 simp only[Bool.not_eq_true'] at *
 exact kI.3 c b a h2 h1
have to:∀ a b:aR,((!bx b a)||(!bx a b))=true:=fun a b=>by
 simp only[Bool.or_eq_true,Bool.not_eq_true',me]
 omega
refine List.Perm.eq_of_pairwise (le:=fun a b=>(!bx b a)=true) (fun a b _ _ h1 h2=>?_) (List.pairwise_mergeSort tr to l) (List.pairwise_mergeSort tr to l') (((List.mergeSort_perm l _).trans h).trans (List.mergeSort_perm l' _).symm)
simp only[Bool.not_eq_true'] at h1 h2
exact zW h2 h1}
def BC (l:List aR):List Value:=l.flatMap aR.cells
theorem Kk {l:List aR}:(BC l).length=l.length*3:=bU (f:=aR.cells) (fun _=>rfl) l
section
variable {h:ai}
theorem PR {n:Nat} {l:List aR}:∀ v∈BC l,dx n v:=by{
intro v hv
unfold BC at hv
rw[List.mem_flatMap] at hv
obtain⟨x,_,hx⟩:=hv
simp only[aR.cells,List.mem_cons,List.not_mem_nil,or_false] at hx
rcases hx with rfl|rfl|rfl<;>exact .bf rfl}
theorem E3 {id av c:Nat} {l:List aR} (hg:h[id]? = some (.aq (BC l) av true 70)) (hn:l.length≤1000000000) (hb:∀ x∈l,GC x) : FW env 103 [.slice (some ⟨id,0,some av⟩) l.length c,aP] h fun r h'=>r = .tuple #[]∧h'=h.set id (.aq (BC (gY l)) av true 70):=by{
have D:DA h id av l.toArray:=⟨hg,by simpa using hn,fun i hi=>by
 have hi':i<l.length:=by simpa using hi
 have:l.toArray[i]! = l[i]:=by simp [hi']
 rw[this]
 exact hb _ (List.getElem_mem hi')⟩
have hid:id<h.length:=(List.getElem?_eq_some_iff.1 hg).1
refine FW.NF ((Jg (c:=c) D).mono ?_)
rintro r h' ⟨rfl,k⟩
obtain⟨d',e,_,g,hg'⟩:=k.eq
have e2:IC d'=BC (gY l):=by
 unfold IC BC
 rw[e]
rw[e2] at hg'
refine⟨h.set id (.aq (BC (gY l)) av true 70),g,hg'.symm,pN,by rw[List.length_set];exact Nat.le_refl _,fun j o hj=>?_,rfl,rfl⟩
by_cases e:id=j
·subst e
 rw[List.getElem?_set_self hid] at hj
 cases hj
 refine .inr fun p hp=>?_
 rw[List.length_set]
 exact PR p hp
·rw[List.getElem?_set_ne e] at hj
 exact .inl hj}
theorem Iv:FW env 180 [aH,i64 0,i64 0,aP] h fun r h'=>r = .tuple #[]∧h'=h:=by{
refine fe Tryz.func180 ?_;simp only[push_cast]
refine aC ?_
have e0:IntKind.i64.wrap (0+1)=1:=by decide
refine fl (fun _:Unit=>0) (fun _=>[(2,.val (i64 0)),(8,.val (i64 1))]) (fun _=>h) (fun _=>True) () (mi e0) rfl trivial ?_
rintro⟨⟩ _
have d1:decide ((1:Int)<0)=false:=rfl
refine aG d1 ?_
refine ae rfl ?_
refine aB ?_
exact⟨_,al,rfl,rfl⟩}
theorem G3 {lim:Int}:FW env 145 [aH,i64 0,i64 0,i64 lim,aP] h fun r h'=>r = .tuple #[]∧h'=h:=by{
refine fe Tryz.func145 ?_;simp only[push_cast]
refine aC ?_
refine fl (fun _:Unit=>0) (fun _=>[(0,.val aH),(1,.val (i64 0)),(2,.val (i64 0)),(4,.val aP)]) (fun _=>h) (fun _=>True) () aM rfl trivial ?_
rintro⟨⟩ _
have e1:IntKind.i64.wrap 0=0:=by decide
have d1:decide ((0:Int)≤12)=true:=rfl
refine gU e1 d1 Int.sub_self ?_
refine ag rfl ?_
refine aC ?_
refine zj Tryz.func180 ?_
rw[List.append_nil]
refine Iv.mono ?_
rintro _ h1 ⟨rfl,e⟩
obtain rfl:=e.symm
refine aC ?_
refine ak ?_
exact⟨_,al,rfl,rfl⟩}
theorem Ge:FW env 103 [aH,aP] h fun r h'=>r = .tuple #[]∧h'=h:=by{
have e1:IntKind.u64.wrap (0:Int)=0:=by decide
refine fe Tryz.func103 ?_;simp only[push_cast]
refine aG e1 ?_
refine zj Tryz.func146 ?_
rw[List.append_nil]
refine (AF (n:=0) (by decide)).mono ?_
rintro _ _ ⟨rfl,rfl⟩
refine aC ?_
refine zj Tryz.func145 ?_
rw[List.append_nil]
refine G3.mono ?_
rintro _ h1 ⟨rfl,e⟩
obtain rfl:=e.symm
refine aC ?_
exact⟨_,al,rfl,rfl⟩}
end
def nf (n:Nat) (l:List aR):Value:=match l.length with
 | 0=>aH
 | k+1=>.slice (some ⟨n,0,some k⟩) (k+1) (k+1)
def CD (l l':List aR):ai:=match l.length with
 | 0=>[]
 | k+1=>[.aq (BC l') k true 70]
def lK (hC:ai) (im:Nat) (m:MK) (l l':List aR):ai:=hC.set im (.aq (MK.cells { m with vb:=nf hC.length l }) 0 true 94)++CD l l'
section
variable {hC:ai} {im:Nat} {m:MK} {l:List aR} {b:aR}
theorem HL (ho:hC[im]? = some (.aq m.cells 0 true 94)) (hb:m.vb=aH):lK hC im m [] []=hC:=by{
have:({ m with vb:=nf hC.length [] }:MK)=m:=by
 cases m
 simp only at hb
 subst hb
 rfl
unfold lK
rw[this]
show hC.set im _++[]=hC
rw[List.append_nil,fJ ho]}
theorem zQ {l':List aR} (hi:im<hC.length):(lK hC im m l l')[im]? = some (.aq (MK.cells { m with vb:=nf hC.length l }) 0 true 94):=by
 unfold lK
 rw[List.getElem?_append_left (by rw[List.length_set];exact hi),List.getElem?_set_self hi]
theorem um {l':List aR} {j:Nat} {o:ax} (hj:j≠im) (h:hC[j]? = some o):(lK hC im m l l')[j]? = some o:=by{
have:=(List.getElem?_eq_some_iff.1 h).1
unfold lK
rw[List.getElem?_append_left (by rw[List.length_set];exact this),aD hj.symm]
exact h}
theorem sG {n:Nat}:∃ p c,nf n l = .slice p l.length c:=by{
unfold nf
split
·rename_i h;rw[h];exact⟨_,_,rfl⟩
·rename_i h;rw[h];exact⟨_,_,rfl⟩}
theorem MH {n:Nat} {l':List aR} (h:l.length=l'.length):nf n l=nf n l':=by unfold nf;rw[h]
theorem GO {l' x:List aR} (h:l.length=l'.length):CD l x=CD l' x:=by unfold CD;rw[h]
theorem Ff (hi:im<hC.length) (hn:l.length≤1000000000):∃ h', (∀ (all:Array Oper) (o:Oper) (s:St) (x:Operand) (y:Nat),s.h=lK hC im m l l→aE all o s=some true→o.op = .call { callee:=.builtin .append,args:=#[x,.tmp y],argTypes:=#[37,37] }→ev s x=some (nf hC.length l)→aW s.fr y = .nz b.cells 1 → One env all o s (.sl (.val (nf hC.length (l++[b])))) h') ∧ h'[im]? = some (.aq (MK.cells { m with vb:=nf hC.length l }) 0 true 94) ∧ h'.set im (.aq (MK.cells { m with vb:=nf hC.length (l++[b]) }) 0 true 94)=lK hC im m (l++[b]) (l++[b]):=by{
have hit:∀ (s:St) (y:Nat),aW s.fr y = .nz b.cells 1→cJ s s.h 3 (.tmp y)=some (b.cells,1):=fun s y hy=>by simp only[cJ,hy];rfl
cases l with
| nil=>
  refine⟨hC.set im (.aq (MK.cells { m with vb:=nf hC.length [] }) 0 true 94)++[.aq b.cells 0 true 70],fun all o s x y e hw ho hx hy=>?_,?_,?_⟩
  ·have e2:s.h=hC.set im (.aq (MK.cells { m with vb:=nf hC.length [] }) 0 true 94):=by rw[e];unfold lK;exact List.append_nil _
   have:=One.ze (N:=env) (m:=1) hw ho kr rfl Lx (by decide) rfl hx (hit s y hy) (by decide) (by decide) (by decide)
   rw[e2,List.length_set] at this
   exact this
  ·rw[List.getElem?_append_left (by rw[List.length_set];exact hi),List.getElem?_set_self hi]
  ·rw[List.set_append_left _ _ (by rw[List.length_set];exact hi),List.set_set]
   rfl
| cons a r=>
  have hl1:(hC.set im (.aq (MK.cells { m with vb:=nf hC.length (a :: r) }) 0 true 94)).length=hC.length:=List.length_set
  refine⟨hC.set im (.aq (MK.cells { m with vb:=nf hC.length (a :: r) }) 0 true 94)++[.aq (BC (a :: r)++b.cells) (r.length+1) true 70],fun all o s x y e hw ho hx hy=>?_,?_,?_⟩
  ·have e2:s.h=hC.set im (.aq (MK.cells { m with vb:=nf hC.length (a :: r) }) 0 true 94)++[.aq (BC (a :: r)) r.length true 70]:=e
   have hx:ev s x=some (.slice (some ⟨hC.length,0,some r.length⟩) (r.length+1) (r.length+1)):=hx
   have hob:s.h[hC.length]? = some (.aq (BC (a :: r)) r.length true 70):=by
    rw[e2,List.getElem?_append_right (by rw[hl1];exact Nat.le_refl _),hl1,Nat.sub_self]
    rfl
   have hbl:=Kk (l:=a :: r)
   simp only[List.length_cons] at hbl hn
   have:=One.MT (N:=env) (m:=1) hw ho kr rfl Lx (by decide) rfl hx hob (by simp only;omega) (hit s y hy) (by simp only;omega) om
   rw[List.take_of_length_le (by simp only;omega)] at this
   have e3:s.h.set hC.length (.aq (BC (a :: r)++b.cells) (r.length+1) true 70)=hC.set im (.aq (MK.cells { m with vb:=nf hC.length (a :: r) }) 0 true 94)++[.aq (BC (a :: r)++b.cells) (r.length+1) true 70]:=by
    rw[e2,List.set_append_right _ _ (by rw[hl1];exact Nat.le_refl _),hl1,Nat.sub_self]
    rfl
   rw[e3] at this
   have e4:nf hC.length (a :: r++[b]) = .slice (some ⟨hC.length,0,some (r.length+1)⟩) (r.length+1+1) (r.length+1+1):=by
    unfold nf
    rw[List.length_append,List.length_cons,List.length_singleton]
   rw[e4]
   exact this
  ·rw[List.getElem?_append_left (by rw[List.length_set];exact hi),List.getElem?_set_self hi]
  ·rw[List.set_append_left _ _ (by rw[List.length_set];exact hi),List.set_set]
   unfold lK CD
   rw[List.length_append,List.length_cons,List.length_singleton]
   have:BC (a :: r++[b])=BC (a :: r)++b.cells:=by unfold BC;rw[List.flatMap_append,List.flatMap_singleton]
   rw[this]}
end
end Go.Proofs.YtmdmimkbpikmoaaGreat
