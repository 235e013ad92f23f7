/- Several texts, one behind the other. -/
import Derived.Test.YtmdmimkbpikmoaaGreatZW8
import Derived.Sort.AssemblyPlain
import Derived.Test.YtmdmimkbpikmoaaGreatZG5
import Derived.Test.YtmdmimkbpikmoaaGreatZV4
set_option linter.unusedSimpArgs false
set_option linter.unusedVariables false
set_option maxHeartbeats 8000000
namespace Go.Proofs.YtmdmimkbpikmoaaGreat
set_option maxRecDepth 20000
open Go.RowKit Am Ty
theorem lC {h hc:ah} {id:Nat} {x y:av} (h1:h.set id x <+: hc) (hid:id<h.length):h.set id y <+: hc.set id y:=by{
obtain⟨t,rfl⟩:=h1
refine⟨t,?_⟩
rw[List.set_append_left _ _ (by rw[List.length_set];exact hid),List.set_set]}
def gW (h:ah) (id ar:Nat) (hc:ah) (dc:Array aR):Prop:=DA hc id ar dc∧h.set id (.aA (IC dc) ar true 70) <+: hc
theorem gW.to {h:ah} {id ar:Nat} {hc h':ah} {dc d':Array aR} (I:gW h id ar hc dc) (hid:id<h.length) (D:DA h' id ar d') (e:hc.set id (.aA (IC d') ar true 70) <+: h'):gW h id ar h' d':=
 ⟨D,(lC I.2 hid).trans e⟩
theorem gW.eq {h:ah} {id ar:Nat} {hc h':ah} {dc d':Array aR} (I:gW h id ar hc dc) (hid:id<h.length) (D:DA h' id ar d') (e:h'=hc.set id (.aA (IC d') ar true 70)):gW h id ar h' d':=
 I.to hid D (by rw[e];exact List.prefix_refl _)
def yf (h:ah) (id ar a b:Nat) (d:Array aR) (h':ah):Prop:=∃ d',Go.Sort.PermIn a b d d'∧Go.Sort.SortedIn bu a b d'∧gW h id ar h' d'
theorem Oy {id ar c:Nat}:∀ (n:Nat) {h:ah} {a b lim:Nat} {d:Array aR},b-a≤n→DA h id ar d→a≤b→b≤d.size→lim≤100→Go.Sort.Below bu a b d → FW env 145 [.slice (some ⟨id,0,some ar⟩) d.size c,i64 a,i64 b,i64 lim,aO] h fun r h'=>r = .tuple #[]∧yf h id ar a b d h':=by{
intro n
induction n using Nat.strongRecOn with
| _ n ih=>
intro h a0 b0 lim0 d hbn D hab hb hlim hB0
have hsz:=D.n
have hid:id<h.length:=(List.getElem?_eq_some_iff.1 D.g).1
refine fe Tryz.func145 ?_;simp only[push_cast]
refine aC ?_
refine fp (fun x:Nat×Nat×Nat×Bool×Bool×Array aR×ah=>x.2.1-x.1) (fun x=>[(0,.val (.slice (some ⟨id,0,some ar⟩) d.size c)),(1,.val (i64 x.1)),(2,.val (i64 x.2.1)),(3,.val (i64 x.2.2.1)),(4,.val aO),(10,.val (.bool x.2.2.2.1)),(11,.val (.bool x.2.2.2.2.1))]) (fun x=>x.2.2.2.2.2.2)
 (fun x=>x.1≤x.2.1∧x.2.1≤d.size∧x.2.1-x.1≤n∧x.2.2.1≤100∧x.2.2.2.2.2.1.size=d.size∧gW h id ar x.2.2.2.2.2.2 x.2.2.2.2.2.1∧Go.Sort.Below bu x.1 x.2.1 x.2.2.2.2.2.1 ∧
  ∀ R,Go.Sort.PermIn x.1 x.2.1 x.2.2.2.2.2.1 R→Go.Sort.SortedIn bu x.1 x.2.1 R→Go.Sort.PermIn a0 b0 d R∧Go.Sort.SortedIn bu a0 b0 R) (a0,b0,lim0,true,true,d,h) aK rfl ⟨hab,hb,hbn,hlim,rfl,⟨D,by simp only[fS D.g];exact List.prefix_refl _⟩,hB0,fun R h1 h2=>⟨h1,h2⟩⟩ ?_
clear D hab hb hlim hB0 hbn lim0
rintro⟨a,b,lim,wb,wp,dc,hc⟩ ⟨hab,hbs,hbn,hlim,hs,I,hB,K⟩
simp only at hab hbs hbn hlim hs I hB K ⊢
obtain⟨l,hl⟩:∃ l,l=b-a:=⟨_,rfl⟩
have e1:IntKind.i64.wrap ((b:Int)-(a:Int))=(l:Int):=by rw[ax om om];omega
refine aG e1 ?_
by_cases h12:l≤12
·have d1:decide ((l:Int)≤12)=true:=decide_eq_true om
 refine ae (ir d1) ?_
 refine aC ?_
 refine zj Tryz.func180 ?_
 rw[List.append_nil]
 have kk:=wB (c:=c) I.1 hab om
 rw[hs] at kk
 refine kk.mono ?_
 rintro _ h1 ⟨rfl,k1,D1,k2⟩
 obtain⟨q1,q2⟩:=Go.Sort.insertionSort_holds kI dc a b hab om
 obtain⟨K1,K2⟩:=K _ q1 q2
 refine aC ?_
 refine ai ?_
 exact⟨_,ak,rfl,_,K1,K2,I.eq hid D1 k1⟩
have d1:decide ((l:Int)≤12)=false:=decide_eq_false om
refine af (ir d1) ?_
clear d1
refine aC ?_
by_cases hl0:lim=0
·have d2:decide ((lim:Int)=0)=true:=decide_eq_true om
 refine ae (ir d2) ?_
 refine aC ?_
 refine zj Tryz.func181 ?_
 rw[List.append_nil]
 have kk:=Js (c:=c) I.1 hab om
 rw[hs] at kk
 refine kk.mono ?_
 rintro _ h1 ⟨rfl,k1,D1,k2⟩
 obtain⟨q1,q2⟩:=Go.Sort.heapSort_holds kI dc a b hab om
 obtain⟨K1,K2⟩:=K _ q1 q2
 refine aC ?_
 refine ai ?_
 exact⟨_,ak,rfl,_,K1,K2,I.eq hid D1 k1⟩
have d2:decide ((lim:Int)=0)=false:=decide_eq_false om
refine af (ir d2) ?_
clear d2
refine aC ?_
refine CW.mono (Q:=fun e s'=>e = .normal∧∃ (d1:Array aR) (lim1:Nat),Go.Sort.PermIn a b dc d1∧gW h id ar s'.h d1∧lim1≤100∧bA [(0,.val (.slice (some ⟨id,0,some ar⟩) d.size c)),(1,.val (i64 a)),(2,.val (i64 b)),(3,.val (i64 lim1)),(4,.val aO),(10,.val (.bool wb)),(11,.val (.bool wp)),(12,.val (i64 l))] s'.fr) ?_ ?_
·cases wb with
 | false=>
   obtain⟨lim1,hl1⟩:∃ z,z=lim-1:=⟨_,rfl⟩
   have e2:IntKind.i64.wrap ((lim:Int)-1)=(lim1:Int):=by rw[ax om om];omega
   refine ae rfl ?_
   refine aC ?_
   refine zj Tryz.func182 ?_
   rw[List.append_nil]
   have kk:=Mn (c:=c) (a:=a) (b:=b) (fv:=aO) I.1 om om
   rw[hs] at kk
   refine kk.mono ?_
   rintro _ h1 ⟨rfl,d1,q1,D1,q2⟩
   refine aG e2 ?_
   exact⟨rfl,d1,lim1,q1,I.to hid D1 q2,by omega,(lH hs)⟩
 | true=>
   refine af rfl ?_
   refine aC ?_
   exact⟨rfl,dc,lim,Go.Sort.permIn_refl _ _ _,I,hlim,aK⟩
rintro e s' ⟨rfl,d1,lim1,p1,I1,hlim1,hf⟩
show CW _ _ _ _
obtain⟨h1,hh1⟩:∃ z,s'.h=z:=⟨_,rfl⟩
refine aB _ hf ?_
rw[hh1] at I1 ⊢
clear hf hh1
clear s'
have hs1:d1.size=d.size:=p1.1.trans hs
clear hl0 hlim
refine aC ?_
refine zj Tryz.func183 ?_
rw[List.append_nil]
have kk:=EV (c:=c) (a:=a) (b:=b) I1.1 om om
rw[hs1] at kk
refine kk.mono ?_
rintro _ _ ⟨⟨p,hint,rfl,hpa,hpb⟩,rfl⟩
refine aC ?_
refine CW.mono (Q:=fun e s'=>e = .normal∧∃ (d2:Array aR) (p2:Nat) (hint2:Int),Go.Sort.PermIn a b d1 d2∧gW h id ar s'.h d2∧a≤p2∧p2<b∧bA [(0,.val (.slice (some ⟨id,0,some ar⟩) d.size c)),(1,.val (i64 a)),(2,.val (i64 b)),(3,.val (i64 lim1)),(4,.val aO),(10,.val (.bool wb)),(11,.val (.bool wp)),(12,.val (i64 l)),(13,.val (i64 p2)),(14,.val (i64 hint2))] s'.fr) ?_ ?_
·by_cases hh2:hint=2
 ·have d3:decide ((hint:Int)=2)=true:=decide_eq_true om
  obtain⟨p2,hp2⟩:∃ z,z=(b-1)-(p-a):=⟨_,rfl⟩
  have e3:IntKind.i64.wrap ((b:Int)-1)=(b:Int)-1:=ax om om
  have e4:IntKind.i64.wrap ((p:Int)-(a:Int))=(p:Int)-(a:Int):=ax om om
  have e5:IntKind.i64.wrap ((b:Int)-1-((p:Int)-(a:Int)))=(p2:Int):=by rw[ax om om];omega
  refine ae (ir d3) ?_
  refine aC ?_
  refine zj Tryz.func184 ?_
  rw[List.append_nil]
  have kk:=A3 (c:=c) (a:=a) (b:=b) (fv:=aO) I1.1 om om
  rw[hs1] at kk
  refine kk.mono ?_
  rintro _ h2 ⟨rfl,k1,D1,k2⟩
  have q1:=Go.Sort.reverseRange_holds d1 a b hab om
  refine gV e3 e4 e5 ?_
  exact⟨rfl,_,p2,1,q1,I1.eq hid D1 k1,by omega,by omega,(lH hs1)⟩
 ·have d3:decide ((hint:Int)=2)=false:=decide_eq_false om
  refine af (ir d3) ?_
  refine aC ?_
  exact⟨rfl,d1,p,hint,Go.Sort.permIn_refl _ _ _,I1,hpa,hpb,(lH hs1)⟩
clear hpa hpb
clear p hint
rintro e s' ⟨rfl,d2,p,hint,p2,I2,hpa,hpb,hf⟩
show CW _ _ _ _
obtain⟨h2,hh2⟩:∃ z,s'.h=z:=⟨_,rfl⟩
refine aB _ hf ?_
rw[hh2] at I2 ⊢
clear hf hh2
clear s'
have hs2:d2.size=d.size:=p2.1.trans hs1
have P2:=Go.Sort.permIn_trans _ _ _ a b p1 p2
have B2:=hB.perm om P2
clear p1 p2 I1 hs1 hB I
repeat refine vM ?_
refine CW.mono (Q:=fun e s'=>e = .normal∧s'.h=h2∧∃ β:Bool,bA [(0,.val (.slice (some ⟨id,0,some ar⟩) d.size c)),(1,.val (i64 a)),(2,.val (i64 b)),(3,.val (i64 lim1)),(4,.val aO),(10,.val (.bool wb)),(11,.val (.bool wp)),(12,.val (i64 l)),(13,.val (i64 p)),(75,.val (.bool β))] s'.fr) ?_ ?_
·cases wb with
 | false=>
   refine aC ?_
   exact⟨rfl,rfl,false,aK⟩
 | true=>
   cases wp with
   | false=>
     refine aC ?_
     exact⟨rfl,rfl,false,aK⟩
   | true=>
     refine aC ?_
     exact⟨rfl,rfl,decide (hint=1),aK⟩
rintro e s' ⟨rfl,hh,β,hf⟩
show CW _ _ _ _
refine aB _ hf ?_
rw[hh]
clear hf hh s'
refine CW.mono (Q:=fun e s'=>(e = .ret∧yf h id ar a b dc s'.h)∨(e = .normal∧∃ d3,Go.Sort.PermIn a b d2 d3∧gW h id ar s'.h d3∧bA [(0,.val (.slice (some ⟨id,0,some ar⟩) d.size c)),(1,.val (i64 a)),(2,.val (i64 b)),(3,.val (i64 lim1)),(4,.val aO),(10,.val (.bool wb)),(11,.val (.bool wp)),(12,.val (i64 l)),(13,.val (i64 p))] s'.fr)) ?_ ?_
·cases β with
 | true=>
   refine ae rfl ?_
   refine aC ?_
   refine zj Tryz.func185 ?_
   rw[List.append_nil]
   have kk:=IQ (c:=c) (a:=a) (b:=b) I2.1 om om
   rw[hs2] at kk
   refine kk.mono ?_
   obtain⟨q1,q2⟩:=Go.Sort.partialInsertionSort_holds kI d2 a b om om B2
   obtain⟨P,hP⟩:∃ P,Go.Sort.partialInsertionSort bu d2 a b=P:=⟨_,rfl⟩
   rw[hP] at q1 q2 ⊢
   rintro _ h3 ⟨rfl,k1,D1,k2⟩
   cases hP2:P.2 with
   | true=>
     refine aC ?_
     refine ae rfl ?_
     refine ai ?_
     exact .inl ⟨rfl,_,Go.Sort.permIn_trans _ _ _ a b P2 q1,q2 hP2,I2.eq hid D1 k1⟩
   | false=>
     refine aC ?_
     refine af rfl ?_
     refine aC ?_
     exact .inr ⟨rfl,_,q1,I2.eq hid D1 k1,(lH hs2)⟩
 | false=>
   refine af rfl ?_
   refine aC ?_
   exact .inr ⟨rfl,_,Go.Sort.permIn_refl _ _ _,I2,aK⟩
rintro e s' (⟨rfl,dd,q1,q2,q3⟩ | ⟨rfl,d3,p3,I3,hf⟩)
·obtain⟨K1,K2⟩:=K _ q1 q2
 exact⟨_,rfl,rfl,dd,K1,K2,q3⟩
show CW _ _ _ _
obtain⟨h3,hh3⟩:∃ z,s'.h=z:=⟨_,rfl⟩
refine aB _ hf ?_
rw[hh3] at I3 ⊢
clear hf hh3
clear s'
have hs3:d3.size=d.size:=p3.1.trans hs2
have B3:=B2.perm om p3
have P3:=Go.Sort.permIn_trans _ _ _ a b P2 p3
have hp3:p<d3.size:=by omega
have gp:=bD hp3
have bp:=I3.1.b _ hp3
have rp:=cg (k:=p) (n:=d.size) om
have hg:=I3.1.g
repeat refine vM ?_
refine CW.mono (Q:=fun e s'=>e = .normal∧s'.h=h3∧bA [(0,.val (.slice (some ⟨id,0,some ar⟩) d.size c)),(1,.val (i64 a)),(2,.val (i64 b)),(3,.val (i64 lim1)),(4,.val aO),(10,.val (.bool wb)),(11,.val (.bool wp)),(12,.val (i64 l)),(13,.val (i64 p)),(97,.val (.bool (decide (0<a) && !bu d3[a-1]! d3[p]!)))] s'.fr) ?_ ?_
·by_cases ha0:0<a
 ·have d4:decide (0<(a:Int))=true:=decide_eq_true om
  obtain⟨q,hq⟩:∃ q,q=a-1:=⟨_,rfl⟩
  have e5:IntKind.i64.wrap ((a:Int)-1)=(q:Int):=by rw[ax om om];omega
  have hq3:q<d3.size:=by omega
  have gq:=bD hq3
  have bq:=I3.1.b _ hq3
  have rq:=cg (k:=q) (n:=d.size) om
  rw[← hq,decide_eq_true ha0,Bool.true_and]
  cases hl:bu d3[q]! d3[p]! with
  | true=>
    have d7:decide (fG d3[q]! d3[p]! < 0)=true:=hl
    apply bx (L:=[[],[0],[1],[2],[2],[2],[2,5],[2,4,6],[2,7],[2],[2],[2,9,10],[2,11],[2,3,8,12],[2,13],[2,14],[2,15]]) (resL:=[_,_,_,_,_,_,_,_,_,_,_,_,_,_,_,_,_]) (frF:=[(0,.val (.slice (some ⟨id,0,some ar⟩) d.size c)),(1,.val (i64 a)),(2,.val (i64 b)),(3,.val (i64 lim1)),(4,.val aO),(10,.val (.bool wb)),(11,.val (.bool wp)),(12,.val (i64 l)),(13,.val (i64 p)),(97,.val (.bool false))])
    case hm=>exact mixed
    case hc=>kernel_rfl
    case hb=>rfl
    case hS=>
     refine KN d4 e5 hg gp gq rp rq Nat.mul_one ?_
     apply aV.cons
     ·exact bi (fn:=Tryz.f104) (args:=[d3[q]!.val,d3[p]!.val]) (cap:=[]) rfl (ir d4) rfl ak ak Tryz.func104 kr kr (bK bq bp)
     ·rfl
     exact rV d7 d4
    case ht=>rfl
    case hF=>exact zh
    exact⟨rfl,rfl,aK⟩
  | false=>
    have d7:decide (fG d3[q]! d3[p]! < 0)=false:=hl
    apply bx (L:=[[],[0],[1],[2],[2],[2],[2,5],[2,4,6],[2,7],[2],[2],[2,9,10],[2,11],[2,3,8,12],[2,13],[2,14],[2,15]]) (resL:=[_,_,_,_,_,_,_,_,_,_,_,_,_,_,_,_,_]) (frF:=[(0,.val (.slice (some ⟨id,0,some ar⟩) d.size c)),(1,.val (i64 a)),(2,.val (i64 b)),(3,.val (i64 lim1)),(4,.val aO),(10,.val (.bool wb)),(11,.val (.bool wp)),(12,.val (i64 l)),(13,.val (i64 p)),(97,.val (.bool true))])
    case hm=>exact mixed
    case hc=>kernel_rfl
    case hb=>rfl
    case hS=>
     refine KN d4 e5 hg gp gq rp rq Nat.mul_one ?_
     apply aV.cons
     ·exact bi (fn:=Tryz.f104) (args:=[d3[q]!.val,d3[p]!.val]) (cap:=[]) rfl (ir d4) rfl ak ak Tryz.func104 kr kr (bK bq bp)
     ·rfl
     exact rV d7 d4
    case ht=>rfl
    case hF=>exact zh
    exact⟨rfl,rfl,aK⟩
 ·have d4:decide (0<(a:Int))=false:=decide_eq_false om
  rw[decide_eq_false ha0,Bool.false_and]
  apply bx (L:=[[],[0],[1],[2],[2],[2],[2,5],[2,4,6],[2,7],[2],[2],[2,9,10],[2,11],[2,3,8,12],[2,13],[2,14],[2,15]]) (resL:=[_,_,_,_,_,_,_,_,_,_,_,_,_,_,_,_,_]) (frF:=[(0,.val (.slice (some ⟨id,0,some ar⟩) d.size c)),(1,.val (i64 a)),(2,.val (i64 b)),(3,.val (i64 lim1)),(4,.val aO),(10,.val (.bool wb)),(11,.val (.bool wp)),(12,.val (i64 l)),(13,.val (i64 p)),(97,.val (.bool false))])
  case hm=>exact mixed
  case hc=>kernel_rfl
  case hb=>rfl
  case hS=>exact CY d4
  case ht=>rfl
  case hF=>exact zh
  exact⟨rfl,rfl,aK⟩
rintro e s' ⟨rfl,hh,hf⟩
show CW _ _ _ _
refine aB _ hf ?_
rw[hh]
clear hf hh s'
clear gp bp rp hg
cases hc2:(decide (0<a) && !bu d3[a-1]! d3[p]!) with
| true=>
  rw[Bool.and_eq_true,decide_eq_true_eq,Bool.not_eq_true'] at hc2
  refine ae rfl ?_
  refine aC ?_
  refine zj Tryz.func186 ?_
  rw[List.append_nil]
  have kk:=Ee (c:=c) I3.1 hpa hpb om
  rw[hs3] at kk
  refine kk.mono ?_
  obtain⟨P,hP⟩:∃ P,Go.Sort.partitionEqual bu d3 a b p=P:=⟨_,rfl⟩
  obtain⟨m1,m2,m3,m4,m5⟩:=Go.Sort.round_eq (mid:=P.1) (d4:=P.2) kI (Go.Sort.partitionEqual_holds bu) hc2.1 hpa hpb om B3 hc2.2 hP
  rw[hP]
  rintro _ h4 ⟨rfl,k1,D1,k2⟩
  obtain⟨mid,hmid⟩:∃ z,P.1=z:=⟨_,rfl⟩
  rw[hmid] at m1 m2 m4 m5 ⊢
  refine aC ?_
  refine az ?_
  refine⟨(mid,b,lim1,wb,wp,P.2,h4),by simp only;omega,aK,rfl,m2,hbs,by simp only;omega,hlim1,by simp only;omega,I3.eq hid D1 k1,m4,fun R r1 r2=>?_⟩
  obtain⟨s1,s2⟩:=m5 R r1 r2
  exact K R (Go.Sort.permIn_trans _ _ _ a b P3 s1) s2
| false=>
clear hc2
refine af rfl ?_
refine aC ?_
refine zj Tryz.func187 ?_
rw[List.append_nil]
have kk:=Jj (c:=c) I3.1 hpa hpb om
rw[hs3] at kk
refine kk.mono ?_
obtain⟨mid,hmid⟩:∃ z,(Go.Sort.partition bu d3 a b p).1=z:=⟨_,rfl⟩
obtain⟨d4,hd4⟩:∃ z,(Go.Sort.partition bu d3 a b p).2.2=z:=⟨_,rfl⟩
obtain⟨m1,m2,m3,m4,m5,m6,m7⟩:=Go.Sort.round_part (mid:=mid) (d4:=d4) (ap:=(Go.Sort.partition bu d3 a b p).2.1) kI (Go.Sort.partition_holds bu) hpa hpb om B3 (by rw[← hmid,← hd4])
rw[hmid,hd4]
rintro _ h4 ⟨ap,rfl,k1,D1,k2⟩
have I4:=I3.eq hid D1 k1
have hs4:d4.size=d.size:=k2
clear I3 B3 B2 I2 k1 k2 hmid hd4 D1
obtain⟨u,hu⟩:∃ z,z=mid-a:=⟨_,rfl⟩
obtain⟨v,hv⟩:∃ z,z=b-mid:=⟨_,rfl⟩
have e6:IntKind.i64.wrap ((mid:Int)-(a:Int))=(u:Int):=by rw[ax om om];omega
have e7:IntKind.i64.wrap ((b:Int)-(mid:Int))=(v:Int):=by rw[ax om om];omega
have e8:IntKind.i64.wrap ((mid:Int)+1)=((mid+1:Nat):Int):=by rw[ax om om];omega
obtain⟨mid1,hmid1⟩:∃ z,z=mid+1:=⟨_,rfl⟩
rw[← hmid1] at e8
rw[← hmid1] at m5 m6 m7
refine fh e6 e7 ?_
by_cases huv:u<v
·have d5:decide ((u:Int)<(v:Int))=true:=decide_eq_true om
 refine ae (ir d5) ?_
 refine aC ?_
 refine zj Tryz.func145 ?_
 rw[List.append_nil]
 have kk:=ih (mid-a) om (Nat.le_refl _) I4.1 m1 om hlim1 m4
 rw[hs4] at kk
 refine kk.mono ?_
 rintro _ h5 ⟨rfl,L,l1,l2,l3⟩
 obtain⟨m8,m9⟩:=m6 L l1 l2
 have hs5:L.size=d.size:=l1.1.trans hs4
 refine aG e8 ?_
 refine⟨(mid1,b,lim1,decide (IntKind.i64.wrap ((l:Int).tdiv 8)≤(u:Int)),ap,L,h5),by simp only;omega,aK,rfl,by simp only;omega,hbs,by simp only;omega,hlim1,hs5,I4.to hid l3.1 l3.2,m8,fun R r1 r2=>?_⟩
 obtain⟨s1,s2⟩:=m9 R r1 r2
 exact K R (Go.Sort.permIn_trans _ _ _ a b P3 s1) s2
·have d5:decide ((u:Int)<(v:Int))=false:=decide_eq_false om
 refine af (ir d5) ?_
 refine aG e8 ?_
 refine zj Tryz.func145 ?_
 rw[List.append_nil]
 have kk:=ih (b-mid1) om (Nat.le_refl _) I4.1 om om hlim1 m5
 rw[hs4] at kk
 refine kk.mono ?_
 rintro _ h5 ⟨rfl,L,l1,l2,l3⟩
 obtain⟨m8,m9⟩:=m7 L l1 l2
 have hs5:L.size=d.size:=l1.1.trans hs4
 refine aC ?_
 refine⟨(a,mid,lim1,decide (IntKind.i64.wrap ((l:Int).tdiv 8)≤(v:Int)),ap,L,h5),by simp only;omega,aK,rfl,m1,by simp only;omega,by simp only;omega,hlim1,hs5,I4.to hid l3.1 l3.2,m8,fun R r1 r2=>?_⟩
 obtain⟨s1,s2⟩:=m9 R r1 r2
 exact K R (Go.Sort.permIn_trans _ _ _ a b P3 s1) s2}
theorem H9 {h:ah} {id ar c:Nat} {d:Array aR} (D:DA h id ar d) : FW env 103 [.slice (some ⟨id,0,some ar⟩) d.size c,aO] h fun r h'=>r = .tuple #[]∧yf h id ar 0 d.size d h':=by{
have hn:=D.n
have e1:IntKind.u64.wrap (d.size:Int)=(d.size:Int):=me om om
obtain⟨z,hz⟩:∃ z:Nat,z=0:=⟨_,rfl⟩
refine fe Tryz.func103 ?_;simp only[push_cast]
refine aG e1 ?_
refine zj Tryz.func146 ?_
rw[List.append_nil]
refine (AK hn).mono ?_
rintro _ _ ⟨rfl,rfl⟩
have hb:=(Go.Sort.bitsLen_le_iff d.size 30).2 om
refine aC ?_
refine zj Tryz.func145 ?_
rw[List.append_nil]
refine (Oy (c:=c) d.size (a:=0) (b:=d.size) (lim:=Go.Sort.bitsLen d.size) (Nat.le_refl _) D (Nat.zero_le _) (Nat.le_refl _) om (.inl rfl)).mono ?_
rintro _ h1 ⟨rfl,k⟩
refine aC ?_
exact⟨_,ak,rfl,k⟩}
theorem yf.eq {h h':ah} {id ar:Nat} {d:Array aR} (k:yf h id ar 0 d.size d h'):∃ d',d'.toList=d.toList.mergeSort (fun x y=>!bu y x)∧gW h id ar h' d':=by
 obtain⟨d',k1,k2,k3⟩:=k
 exact⟨d',Go.Sort.sorted_unique_holds kI (fun x y=>Fu) d d' k1 k2,k3⟩
def kV (ps:List Prod) (c:ByteArray):Nat:=ps.findIdx (qg c)
theorem mW.idx {α:Type} {P:α→Bool} {l:List α} {r:Int} (h:mW P l r) (h0:0≤r):∃ hk:l.findIdx P<l.length,P (l[l.findIdx P])=true∧r=(l.findIdx P:Int):=by{
rcases h with ⟨k,hk,h1,h2,rfl⟩ | ⟨_,rfl⟩
·have e:l.findIdx P=k:=(List.findIdx_eq hk).2 ⟨h1,h2⟩
 subst e
 exact⟨hk,h1,rfl⟩
·omega}
theorem tz {ps:List Prod} {c:ByteArray} (h:kw ps c):∃ hk:kV ps c<ps.length,qg c ps[kV ps c]=true:=by{
obtain⟨i,hi,h0⟩:=h
rcases hi with ⟨_,rfl⟩ | ⟨_,hi⟩
·omega
·obtain⟨hk,h1,_⟩:=hi.idx h0
 exact⟨hk,h1⟩}
theorem ju.VV {ps:List Prod} {c:ByteArray} {i:Int} (hi:ju ps c i) (h:kw ps c):i=(kV ps c:Int):=by{
obtain⟨j,hj,h0⟩:=h
rcases hi with ⟨a,rfl⟩ | ⟨a,hi⟩<;>rcases hj with ⟨b,rfl⟩ | ⟨b,hj⟩
·omega
·exact absurd a b
·omega
·obtain⟨hk,h1,_⟩:=hj.idx h0
 rcases hi with ⟨k,hk',h1',h2',rfl⟩ | ⟨hall,rfl⟩
 ·exact congrArg Int.ofNat ((List.findIdx_eq hk').2 ⟨h1',h2'⟩).symm
 ·rw[hall _ (List.getElem_mem hk)] at h1
  cases h1}
theorem CV {ps:List Prod} {c e:ByteArray} (h1:kw ps c) (h2:kw ps e) (h:kV ps c=kV ps e):c=e:=by{
obtain⟨a,ha⟩:=tz h1
obtain⟨b,hb⟩:=tz h2
unfold qg at ha hb
simp only[Bool.and_eq_true,decide_eq_true_eq] at ha hb
rw[← ha.2,← hb.2]
congr 2}
structure CE where
 at_:Nat
 A8:Nat
 assoc:Int
def ka (ps:List Prod) (g:Nat) (x:dK):List CE:=x.cons.map fun c=>⟨kV ps c,g,x.assoc⟩
def ru (ps:List Prod) (l:List dK):List CE:=l.zipIdx.flatMap fun x=>ka ps x.2 x.1
theorem EQ {ps:List Prod} {l:List dK} {k:Nat} (hk:k<l.length):ru ps (l.take (k+1))=ru ps (l.take k)++ka ps k l[k]:=by{
unfold ru
rw[List.take_succ_eq_append_getElem hk,List.zipIdx_append,List.flatMap_append]
simp only[List.length_take,List.zipIdx_cons,List.zipIdx_nil,List.flatMap_cons,List.flatMap_nil,List.append_nil,Nat.zero_add]
rw[Nat.min_eq_left om]}
theorem vN {ps:List Prod}:∀ (l:List dK) (k:Nat),((l.zipIdx k).flatMap fun x=>ka ps x.2 x.1).map CE.at_=(dB l).map (kV ps)
 | [],_=>rfl
 | g :: l,k=>by
   have ih:=vN (ps:=ps) l (k+1)
   unfold dB at ih ⊢
   rw[List.zipIdx_cons,List.flatMap_cons,List.map_append,ih,List.flatMap_cons,List.map_append]
   congr 1
   unfold ka
   rw[List.map_map]
   rfl
theorem pD {ps:List Prod} {l:List dK} (h:gU ps (dB l)):((ru ps l).map CE.at_).Nodup:=by{
unfold ru
rw[vN l 0]
unfold List.Nodup
rw[List.pairwise_map]
exact h.2.imp_of_mem fun {a b} ha hb hne e=>hne (CV (h.1 a ha) (h.1 b hb) e)}
theorem wG {ps:List Prod} {l:List dK} (h:gU ps (dB l)) {e:CE} (he:e∈ru ps l):e.at_<ps.length:=by{
have h1:e.at_∈(ru ps l).map CE.at_:=List.mem_map_of_mem he
unfold ru at h1
rw[vN l 0,List.mem_map] at h1
obtain⟨c,hc,e1⟩:=h1
obtain⟨hk,_⟩:=tz (h.1 c hc)
omega}
theorem wO {ps:List Prod} {l:List dK}:(ru ps l).length=(dB l).length:=by{
have:=congrArg List.length (vN (ps:=ps) l 0)
rw[List.length_map,List.length_map] at this
exact this}
abbrev CE.place (e:CE):Value:=.agg #[i64 e.A8,i64 e.assoc]
def zM (l:List CE):List (Value×Value):=l.map fun e=>(i64 e.at_,e.place)
theorem vK {e:CE}:∀ {l:List CE},(l.map CE.at_).Nodup→e∈l→gQ (zM l) (i64 e.at_)=some e.place
 | [],_,h=>by simp at h
 | a :: l,hn,h=>by
   rw[List.map_cons,List.nodup_cons] at hn
   have ih:=vK (e:=e) (l:=l) hn.2
   unfold zM at ih ⊢
   simp only[List.map_cons,gQ,pX,np,decide_eq_true_eq]
   rcases List.mem_cons.1 h with rfl|h
   ·rw[if_pos rfl]
   ·rw[if_neg,ih h]
    intro e1
    refine hn.1 ?_
    have:a.at_=e.at_:=by omega
    rw[this]
    exact List.mem_map_of_mem h
theorem Bm {e:CE}:∀ {l:List CE},e.at_∉l.map CE.at_→iU (zM l) (i64 e.at_) e.place=zM (l++[e])
 | [],_=>rfl
 | a :: l,h=>by
   rw[List.map_cons,List.mem_cons] at h
   have ih:=Bm (e:=e) (l:=l) fun q=>h (.inr q)
   unfold zM at ih ⊢
   simp only[List.map_cons,iU,pX,np,decide_eq_true_eq,List.cons_append]
   rw[if_neg (fun q=>h (.inl om)),ih]
theorem yV (l:List CE):eG oy (zM l)=true:=by{
unfold eG zM
rw[List.all_map,List.all_eq_true]
intro x _
rfl}
def bE (l:List (aR×Int)):List (Value×Value):=l.map fun p=>(p.1.val,i64 p.2)
def qM:List (aR×Int)→aR→List (aR×Int)
 | [],x=>[(x,IntKind.i64.wrap (0+1))]
 | (k,v) :: r,x=>if x=k then (k,IntKind.i64.wrap (v+1)) :: r else (k,v) :: qM r x
theorem Cj (x y:aR):pX x.val y.val=decide (x=y):=by
 cases x with|mk a b c=>cases y with|mk a' b' c'=>
 simp only[pX,jD,np,Bool.and_true,aR.mk.injEq,Bool.decide_and,Int.ofNat_inj]
theorem Bg (x:aR):∀ l,(∃ n j,la (bE l) x.val=some (j,i64 n)∧(bE l)[j]? = some (x.val,i64 n)∧(bE l).set j (x.val,i64 (IntKind.i64.wrap (n+1)))=bE (qM l x))∨(la (bE l) x.val=none∧bE (qM l x)=bE l++[(x.val,i64 (IntKind.i64.wrap (0+1)))])
 | []=>.inr ⟨rfl,rfl⟩
 | (k,v) :: r=>by
   have ih:=Bg x r
   unfold bE at ih ⊢
   simp only[List.map_cons,la,Cj,decide_eq_true_eq,qM]
   by_cases h:x=k
   ·subst h
    rw[if_pos rfl,if_pos rfl]
    exact .inl ⟨v,0,rfl,rfl,rfl⟩
   ·rw[if_neg h,if_neg h]
    rcases ih with ⟨n,j,h1,h2,h3⟩ | ⟨h1,h2⟩
    ·refine .inl ⟨n,j+1,by rw[h1];rfl,?_,?_⟩
     ·rw[List.getElem?_cons_succ];exact h2
     ·rw[List.set_cons_succ,h3];rfl
    ·exact .inr ⟨by rw[h1];rfl,by rw[List.map_cons,h2];rfl⟩
theorem xr (l:List (aR×Int)):eG (yX lA) (bE l)=true:=by{
unfold eG bE
rw[List.all_map,List.all_eq_true]
intro x _
rfl}
theorem wT (k:aR):yX lA k.val=true:=rfl
@[push_cast] theorem Qh:jB 70=some (yX lA):=rfl
@[push_cast] theorem SN:jB 3=some oy:=rfl
theorem IZ (es:List (aR×Int)):(bE es).all (fun p=>fT p.1)=true:=by{
unfold bE
rw[List.all_map,List.all_eq_true]
intro x _
rfl}
theorem Kv {es:List (aR×Int)} {i:Nat} {k v:Value}:(bE es)[i]? = some (k,v)↔∃ p,es[i]? = some p∧k=p.1.val∧v=i64 p.2:=by{
unfold bE
rw[List.getElem?_map]
cases es[i]? with
| none=>simp
| some p=>simp [eq_comm]}
def ud (l:List aR) (x:aR):List aR:=if x∈l then l else l++[x]
theorem xJ (x:aR):∀ l,(qM l x).map (·.1)=ud (l.map (·.1)) x
 | []=>by simp [qM,ud]
 | (k,v) :: r=>by
   have ih:=xJ x r
   unfold ud at ih ⊢
   unfold qM
   by_cases h:x=k
   ·rw[if_pos h,if_pos (by simp [h])]
    rfl
   ·rw[if_neg h,List.map_cons,ih]
    by_cases q:x∈r.map (·.1)
    ·rw[if_pos q,if_pos (by rw[List.map_cons];exact List.mem_cons_of_mem _ q)]
     rfl
    ·rw[if_neg q,if_neg (by rw[List.map_cons,List.mem_cons];exact fun e=>e.elim h q)]
     rfl
def eW (l:List (aR×Int)) (xs:List aR):List (aR×Int):=xs.foldl qM l
def lc (l xs:List aR):List aR:=xs.foldl ud l
theorem uE:∀ (xs:List aR) (l:List (aR×Int)),(eW l xs).map (·.1)=lc (l.map (·.1)) xs
 | [],_=>rfl
 | x :: xs,l=>by
   have ih:=uE xs (qM l x)
   rw[xJ] at ih
   exact ih
theorem pb {l:List (aR×Int)} {a b:List aR}:eW l (a++b)=eW (eW l a) b:=List.foldl_append
theorem vk {x:aR}:∀ {xs l:List aR},x∈lc l xs↔x∈l∨x∈xs
 | [],l=>by simp [lc]
 | y :: xs,l=>by
   have ih:=vk (x:=x) (xs:=xs) (l:=ud l y)
   have h:x∈ud l y↔x∈l∨x=y:=by
    unfold ud
    by_cases q:y∈l
    ·rw[if_pos q]
     exact⟨.inl,fun k=>k.elim id fun e=>e▸q⟩
    ·rw[if_neg q,List.mem_append,List.mem_singleton]
   unfold lc at ih ⊢
   rw[List.foldl_cons,ih,h,List.mem_cons,or_assoc]
def barredB (a b:CE) (at_ last:Nat):Bool:=
 if a.A8=b.A8 then ((decide (a.assoc=1)||decide (a.assoc=3))&&decide (at_=last))||((decide (a.assoc=2)||decide (a.assoc=3))&&decide (at_=0)) else decide (a.A8<b.A8)
def iF (s:Sym) (q:Prod):Bool:=(decide (s.kind=3)||decide (s.kind=4))&&decide (s.name=q.sort)
def eS (os:List gO) (p:Nat):List Nat:=(List.range os.length).filter (Ab os (p:Int))
theorem yD {os:List gO} {p:Nat}:dQ os (p:Int) os.length=(eS os p).map Int.ofNat:=rfl
def qL (os:List gO) (r:Nat) (o:gO) (at_ q pos:Nat):List aR:=if o.aj[pos]? = some (at_:Int) then (eS os q).map fun kid=>⟨r,pos,kid⟩ else []
def oT (os:List gO) (at_ q r:Nat):List aR:=match os[r]? with
 | some o=>(List.range o.aj.length).flatMap (qL os r o at_ q)
 | none=>[]
def ue (os:List gO) (p at_ q:Nat):List aR:=(eS os p).flatMap (oT os at_ q)
def vZ (d:bM) (os:List gO) (p q:CE) (n:Nat) (at_:Nat) (s:Sym):List aR:=match d.aa[q.at_]? with
 | some x=>if (iF s x&&barredB p q at_ (n-1))=true then ue os p.at_ at_ q.at_ else []
 | none=>[]
def kf (d:bM) (os:List gO) (p q:CE):List aR:=match d.aa[p.at_]? with
 | some x=>x.aj.zipIdx.flatMap fun y=>vZ d os p q x.aj.length y.2 y.1
 | none=>[]
def gN (d:bM) (os:List gO) (l:List dK):List aR:=(ru d.aa l).flatMap fun p=>(ru d.aa l).flatMap fun q=>kf d os p q
def lh (d:bM) (os:List gO):List aR:=d.au.flatMap (gN d os)
def Th (d:bM):List aR:=(lc [] (lh d ((uZ d).map (·.2)))).mergeSort (fun x y=>!bu y x)
structure MN (h0 hk:ah) (im:Nat) (m:MK) (l:List ByteArray):Prop where
 p:h0 <+: hk
 lm:h0.length≤im
 o:hk[im]? = some (.aA m.cells 0 true 94)
 n:aL h0 hk m.vn l.length (l.map .string) 9
theorem MN.pre {h0 hk h1:ah} {im:Nat} {m:MK} {l:List ByteArray} (M:MN h0 hk im m l) (hp:hk <+: h1):MN h0 h1 im m l:=
 ⟨M.p.trans hp,M.lm,ag hp M.o,M.n.eD (cj.pre (ts:=[]) hp) (by simp)⟩
section
variable {h0 hk:ah} {im i1:Nat} {m:MK} {l:List ByteArray} {d:bM}
theorem EU {up uc uf ur ub:Value} (hd:bH hk d up uc uf ur ub):FW env 91 [.agg (d.val up uc uf ur ub).toArray] hk fun r h'=>hk <+: h'∧aL hk h' r (aE d.aa).length ((aE d.aa).map .string) 9:=by{
have hO:=Cs hd
obtain⟨p1,c1,p2,c2,p3,c3,p4,c4,p5,c5,rfl,rfl,rfl,rfl,rfl,l1,l2,l3,l4,l5⟩:=bH.form hd
refine fe Tryz.func91 ?_;simp only[push_cast]
unfold bM.val at hO ⊢
refine aC ?_
refine zj Tryz.func66 ?_
refine hO.mono ?_
rintro _ h1 ⟨ib,im,sv,rfl,hBk⟩
have hb:=hBk.b
simp only[List.cons_append,List.nil_append] at hb
have hs:=hBk.s
obtain⟨q,c,rfl⟩:=hs.form
refine aG hb ?_
refine ai ?_
refine⟨_,ak,hBk.p,?_⟩
exact hs}
end
section
variable {h:ah}
theorem wW {c:Int} (h0:0≤c) (h1:c<256):FW env 176 [.int .u8 c] h fun r h'=>(∃ b:ByteArray,b.size≤4∧r = .string b)∧h'=h:=by{
refine rL (K:=fun r=>∃ b:ByteArray,b.size≤4∧r = .string b) ?_
refine fe Tryz.func176 ?_;simp only[push_cast]
by_cases c1:c=10
·have d1:=decide_eq_true c1
 refine aG d1 ?_
 refine ae rfl ?_
 refine aC ?_
 refine ai ?_
 refine⟨_,ak,⟨.be rfl,List.prefix_refl _⟩,_,?_,rfl⟩
 decide
have d1:=decide_eq_false c1
refine aG d1 ?_
refine af rfl ?_
by_cases c2:c=9
·have d2:=decide_eq_true c2
 refine aG d2 ?_
 refine ae rfl ?_
 refine aC ?_
 refine ai ?_
 refine⟨_,ak,⟨.be rfl,List.prefix_refl _⟩,_,?_,rfl⟩
 decide
have d2:=decide_eq_false c2
refine aG d2 ?_
refine af rfl ?_
by_cases c3:c=13
·have d3:=decide_eq_true c3
 refine aG d3 ?_
 refine ae rfl ?_
 refine aC ?_
 refine ai ?_
 refine⟨_,ak,⟨.be rfl,List.prefix_refl _⟩,_,?_,rfl⟩
 decide
have d3:=decide_eq_false c3
refine aG d3 ?_
refine af rfl ?_
by_cases c4:c=32
·have d4:=decide_eq_true c4
 refine aG d4 ?_
 refine ae rfl ?_
 refine aC ?_
 refine ai ?_
 refine⟨_,ak,⟨.be rfl,List.prefix_refl _⟩,_,?_,rfl⟩
 decide
have d4:=decide_eq_false c4
refine aG d4 ?_
refine af rfl ?_
by_cases q1:c=91
·have g1:=decide_eq_true q1
 refine aG g1 ?_
 refine ae rfl ?_
 refine cz ?_
 show CW _ _ _ _
 refine ae rfl ?_
 refine zu ?_
 iterate 1 (refine zx tP ?_)
 refine df (t:=5) (cs:=[.int .u8 c]) (n:=1) ak ak ?_
 dsimp only[St.a9,St.put]
 have hp2:h <+: h++[av.aA [.int .u8 c] 0 true 5]:=aH
 have hx2:(h++[av.aA [.int .u8 c] 0 true 5])[h.length]? = some (.aA [.int .u8 c] 0 true 5):=aJ
 generalize (h++[av.aA [.int .u8 c] 0 true 5])=h2 at hp2 hx2 ⊢
 generalize h.length=i2 at hx2 ⊢
 have hrd:jU [.int .u8 c] 0 1=some [.int .u8 c]:=rfl
 have hu8:GO [.int .u8 c]=some [c]:=rfl
 obtain⟨sb,hsb⟩:∃ sb,sb=strOfNums [c]:=⟨_,rfl⟩
 have hso:strOfNums [c]=sb:=hsb.symm
 have hsz:sb.size=1:=by rw[hsb,strOfNums_size];rfl
 have hcc:(((ByteArray.mk #[92]).size:Int)+(sb.size:Int)≤9223372036854775807)=True:=eq_true (by rw[hsz];decide)
 repeat (first|apply zs|apply zr|apply zn|((first|apply zx|apply zy);·simp only[push_cast,env,Nat.reduceEqDiff,reduceIte,Nat.reduceAdd,Nat.reduceMul,Nat.reduceLeDiff,reduceCtorEq,Nat.reduceSub,Int.reduceToNat,wu,hx2,hrd,hu8,hso,hcc]<;>first|exact rfl|exact .inl rfl|exact .inr rfl) | apply zq|apply zb|apply zo|apply zk|apply zl)
 refine ai ?_
 refine⟨_,ak,⟨.be rfl,hp2⟩,_,?_,rfl⟩
 rw[ByteArray.size_append,hsz]
 decide
have g1:=decide_eq_false q1
refine aG g1 ?_
refine af rfl ?_
by_cases q2:c=93
·have g2:=decide_eq_true q2
 refine aG g2 ?_
 refine ae rfl ?_
 refine cz ?_
 show CW _ _ _ _
 refine ae rfl ?_
 refine zu ?_
 iterate 1 (refine zx tP ?_)
 refine df (t:=5) (cs:=[.int .u8 c]) (n:=1) ak ak ?_
 dsimp only[St.a9,St.put]
 have hp2:h <+: h++[av.aA [.int .u8 c] 0 true 5]:=aH
 have hx2:(h++[av.aA [.int .u8 c] 0 true 5])[h.length]? = some (.aA [.int .u8 c] 0 true 5):=aJ
 generalize (h++[av.aA [.int .u8 c] 0 true 5])=h2 at hp2 hx2 ⊢
 generalize h.length=i2 at hx2 ⊢
 have hrd:jU [.int .u8 c] 0 1=some [.int .u8 c]:=rfl
 have hu8:GO [.int .u8 c]=some [c]:=rfl
 obtain⟨sb,hsb⟩:∃ sb,sb=strOfNums [c]:=⟨_,rfl⟩
 have hso:strOfNums [c]=sb:=hsb.symm
 have hsz:sb.size=1:=by rw[hsb,strOfNums_size];rfl
 have hcc:(((ByteArray.mk #[92]).size:Int)+(sb.size:Int)≤9223372036854775807)=True:=eq_true (by rw[hsz];decide)
 repeat (first|apply zs|apply zr|apply zn|((first|apply zx|apply zy);·simp only[push_cast,env,Nat.reduceEqDiff,reduceIte,Nat.reduceAdd,Nat.reduceMul,Nat.reduceLeDiff,reduceCtorEq,Nat.reduceSub,Int.reduceToNat,wu,hx2,hrd,hu8,hso,hcc]<;>first|exact rfl|exact .inl rfl|exact .inr rfl) | apply zq|apply zb|apply zo|apply zk|apply zl)
 refine ai ?_
 refine⟨_,ak,⟨.be rfl,hp2⟩,_,?_,rfl⟩
 rw[ByteArray.size_append,hsz]
 decide
have g2:=decide_eq_false q2
refine aG g2 ?_
refine af rfl ?_
by_cases q3:c=92
·have g3:=decide_eq_true q3
 refine aG g3 ?_
 refine ae rfl ?_
 refine cz ?_
 show CW _ _ _ _
 refine ae rfl ?_
 refine zu ?_
 iterate 1 (refine zx tP ?_)
 refine df (t:=5) (cs:=[.int .u8 c]) (n:=1) ak ak ?_
 dsimp only[St.a9,St.put]
 have hp2:h <+: h++[av.aA [.int .u8 c] 0 true 5]:=aH
 have hx2:(h++[av.aA [.int .u8 c] 0 true 5])[h.length]? = some (.aA [.int .u8 c] 0 true 5):=aJ
 generalize (h++[av.aA [.int .u8 c] 0 true 5])=h2 at hp2 hx2 ⊢
 generalize h.length=i2 at hx2 ⊢
 have hrd:jU [.int .u8 c] 0 1=some [.int .u8 c]:=rfl
 have hu8:GO [.int .u8 c]=some [c]:=rfl
 obtain⟨sb,hsb⟩:∃ sb,sb=strOfNums [c]:=⟨_,rfl⟩
 have hso:strOfNums [c]=sb:=hsb.symm
 have hsz:sb.size=1:=by rw[hsb,strOfNums_size];rfl
 have hcc:(((ByteArray.mk #[92]).size:Int)+(sb.size:Int)≤9223372036854775807)=True:=eq_true (by rw[hsz];decide)
 repeat (first|apply zs|apply zr|apply zn|((first|apply zx|apply zy);·simp only[push_cast,env,Nat.reduceEqDiff,reduceIte,Nat.reduceAdd,Nat.reduceMul,Nat.reduceLeDiff,reduceCtorEq,Nat.reduceSub,Int.reduceToNat,wu,hx2,hrd,hu8,hso,hcc]<;>first|exact rfl|exact .inl rfl|exact .inr rfl) | apply zq|apply zb|apply zo|apply zk|apply zl)
 refine ai ?_
 refine⟨_,ak,⟨.be rfl,hp2⟩,_,?_,rfl⟩
 rw[ByteArray.size_append,hsz]
 decide
have g3:=decide_eq_false q3
refine aG g3 ?_
refine af rfl ?_
by_cases q4:c=45
·have g4:=decide_eq_true q4
 refine aG g4 ?_
 refine ae rfl ?_
 refine cz ?_
 show CW _ _ _ _
 refine ae rfl ?_
 refine zu ?_
 iterate 1 (refine zx tP ?_)
 refine df (t:=5) (cs:=[.int .u8 c]) (n:=1) ak ak ?_
 dsimp only[St.a9,St.put]
 have hp2:h <+: h++[av.aA [.int .u8 c] 0 true 5]:=aH
 have hx2:(h++[av.aA [.int .u8 c] 0 true 5])[h.length]? = some (.aA [.int .u8 c] 0 true 5):=aJ
 generalize (h++[av.aA [.int .u8 c] 0 true 5])=h2 at hp2 hx2 ⊢
 generalize h.length=i2 at hx2 ⊢
 have hrd:jU [.int .u8 c] 0 1=some [.int .u8 c]:=rfl
 have hu8:GO [.int .u8 c]=some [c]:=rfl
 obtain⟨sb,hsb⟩:∃ sb,sb=strOfNums [c]:=⟨_,rfl⟩
 have hso:strOfNums [c]=sb:=hsb.symm
 have hsz:sb.size=1:=by rw[hsb,strOfNums_size];rfl
 have hcc:(((ByteArray.mk #[92]).size:Int)+(sb.size:Int)≤9223372036854775807)=True:=eq_true (by rw[hsz];decide)
 repeat (first|apply zs|apply zr|apply zn|((first|apply zx|apply zy);·simp only[push_cast,env,Nat.reduceEqDiff,reduceIte,Nat.reduceAdd,Nat.reduceMul,Nat.reduceLeDiff,reduceCtorEq,Nat.reduceSub,Int.reduceToNat,wu,hx2,hrd,hu8,hso,hcc]<;>first|exact rfl|exact .inl rfl|exact .inr rfl) | apply zq|apply zb|apply zo|apply zk|apply zl)
 refine ai ?_
 refine⟨_,ak,⟨.be rfl,hp2⟩,_,?_,rfl⟩
 rw[ByteArray.size_append,hsz]
 decide
have g4:=decide_eq_false q4
refine aG g4 ?_
refine af rfl ?_
by_cases q5:c=94
·have g5:=decide_eq_true q5
 refine aG g5 ?_
 refine ae rfl ?_
 refine zu ?_
 iterate 1 (refine zx tP ?_)
 refine df (t:=5) (cs:=[.int .u8 c]) (n:=1) ak ak ?_
 dsimp only[St.a9,St.put]
 have hp2:h <+: h++[av.aA [.int .u8 c] 0 true 5]:=aH
 have hx2:(h++[av.aA [.int .u8 c] 0 true 5])[h.length]? = some (.aA [.int .u8 c] 0 true 5):=aJ
 generalize (h++[av.aA [.int .u8 c] 0 true 5])=h2 at hp2 hx2 ⊢
 generalize h.length=i2 at hx2 ⊢
 have hrd:jU [.int .u8 c] 0 1=some [.int .u8 c]:=rfl
 have hu8:GO [.int .u8 c]=some [c]:=rfl
 obtain⟨sb,hsb⟩:∃ sb,sb=strOfNums [c]:=⟨_,rfl⟩
 have hso:strOfNums [c]=sb:=hsb.symm
 have hsz:sb.size=1:=by rw[hsb,strOfNums_size];rfl
 have hcc:(((ByteArray.mk #[92]).size:Int)+(sb.size:Int)≤9223372036854775807)=True:=eq_true (by rw[hsz];decide)
 repeat (first|apply zs|apply zr|apply zn|((first|apply zx|apply zy);·simp only[push_cast,env,Nat.reduceEqDiff,reduceIte,Nat.reduceAdd,Nat.reduceMul,Nat.reduceLeDiff,reduceCtorEq,Nat.reduceSub,Int.reduceToNat,wu,hx2,hrd,hu8,hso,hcc]<;>first|exact rfl|exact .inl rfl|exact .inr rfl) | apply zq|apply zb|apply zo|apply zk|apply zl)
 refine ai ?_
 refine⟨_,ak,⟨.be rfl,hp2⟩,_,?_,rfl⟩
 rw[ByteArray.size_append,hsz]
 decide
have g5:=decide_eq_false q5
refine aG g5 ?_
refine af rfl ?_
by_cases r1:32<c
·have f1:=decide_eq_true r1
 by_cases r2:c<127
 ·have f2:=decide_eq_true r2
  refine fh f1 f2 ?_
  refine ae rfl ?_
  refine zu ?_
  iterate 1 (refine zx tP ?_)
  refine df (t:=5) (cs:=[.int .u8 c]) (n:=1) ak ak ?_
  dsimp only[St.a9,St.put]
  have hp2:h <+: h++[av.aA [.int .u8 c] 0 true 5]:=aH
  have hx2:(h++[av.aA [.int .u8 c] 0 true 5])[h.length]? = some (.aA [.int .u8 c] 0 true 5):=aJ
  generalize (h++[av.aA [.int .u8 c] 0 true 5])=h2 at hp2 hx2 ⊢
  generalize h.length=i2 at hx2 ⊢
  have hrd:jU [.int .u8 c] 0 1=some [.int .u8 c]:=rfl
  have hu8:GO [.int .u8 c]=some [c]:=rfl
  obtain⟨sb,hsb⟩:∃ sb,sb=strOfNums [c]:=⟨_,rfl⟩
  have hso:strOfNums [c]=sb:=hsb.symm
  have hsz:sb.size=1:=by rw[hsb,strOfNums_size];rfl
  repeat (first|apply zs|apply zr|apply zn|((first|apply zx|apply zy);·simp only[push_cast,env,Nat.reduceEqDiff,reduceIte,Nat.reduceAdd,Nat.reduceMul,Nat.reduceLeDiff,reduceCtorEq,Nat.reduceSub,Int.reduceToNat,wu,hx2,hrd,hu8,hso]<;>first|exact rfl|exact .inl rfl|exact .inr rfl) | apply zq|apply zb|apply zo|apply zk|apply zl)
  refine ai ?_
  refine⟨_,ak,⟨.be rfl,hp2⟩,_,?_,rfl⟩
  rw[hsz]
  decide
 ·have f2:=decide_eq_false r2
  refine fh f1 f2 ?_
  refine af rfl ?_
  refine aC ?_
  refine aQ 14 mixed kr ?_
  obtain⟨q,hq⟩:∃ q,q=c / 16:=⟨_,rfl⟩
  obtain⟨m,hm⟩:∃ m,m=c % 16:=⟨_,rfl⟩
  have hq0:0≤q∧q≤15:=by omega
  have hm0:0≤m∧m≤15:=by omega
  have w1:IntKind.u8.wrap (c.tdiv 16)=q:=by rw[Int.tdiv_eq_ediv_of_nonneg h0,IntKind.wrap_u8];omega
  have w2:IntKind.u8.wrap (q+1)=q+1:=by rw[IntKind.wrap_u8];omega
  have w3:c.tmod 16=m:=by rw[Int.tmod_eq_emod_of_nonneg h0];exact hm.symm
  have w4:IntKind.u8.wrap (m+1)=m+1:=by rw[IntKind.wrap_u8];omega
  have hz16:(ByteArray.mk #[48,49,50,51,52,53,54,55,56,57,97,98,99,100,101,102]).size=16:=rfl
  have k1:(0≤q∧q≤q+1∧q+1≤((ByteArray.mk #[48,49,50,51,52,53,54,55,56,57,97,98,99,100,101,102]).size:Int))=True:=eq_true (by rw[hz16];omega)
  have k2:(0≤m∧m≤m+1∧m+1≤((ByteArray.mk #[48,49,50,51,52,53,54,55,56,57,97,98,99,100,101,102]).size:Int))=True:=eq_true (by rw[hz16];omega)
  obtain⟨s1,hs1⟩:∃ s1,s1=(ByteArray.mk #[48,49,50,51,52,53,54,55,56,57,97,98,99,100,101,102]).extract q.toNat (q+1).toNat:=⟨_,rfl⟩
  obtain⟨s2,hs2⟩:∃ s2,s2=(ByteArray.mk #[48,49,50,51,52,53,54,55,56,57,97,98,99,100,101,102]).extract m.toNat (m+1).toNat:=⟨_,rfl⟩
  have z1:s1.size=1:=by rw[hs1,ByteArray.size_extract,hz16];omega
  have z2:s2.size=1:=by rw[hs2,ByteArray.size_extract,hz16];omega
  have hs1:=hs1.symm
  have hs2:=hs2.symm
  have k3:(((ByteArray.mk #[92,120]).size:Int)+(s1.size:Int)≤9223372036854775807)=True:=eq_true (by rw[z1];decide)
  obtain⟨s3,hs3⟩:∃ s3,s3=(ByteArray.mk #[92,120])++s1:=⟨_,rfl⟩
  have z3:s3.size=3:=by rw[hs3,ByteArray.size_append,z1];rfl
  have hs3:=hs3.symm
  have k4:((s3.size:Int)+(s2.size:Int)≤9223372036854775807)=True:=eq_true (by rw[z3,z2];decide)
  repeat (first|apply zs|apply zr|apply zn|((first|apply zx|apply zy);·simp only[push_cast,env,Nat.reduceEqDiff,reduceIte,Nat.reduceAdd,Nat.reduceMul,Nat.reduceLeDiff,reduceCtorEq,Nat.reduceSub,Int.reduceToNat,w1,w2,w3,w4,k1,k2,k3,k4,hs1,hs2,hs3]<;>first|exact rfl|exact .inl rfl|exact .inr rfl) | apply zq|apply zb|apply zo|apply zk|apply zl)
  refine ai ?_
  refine⟨_,ak,⟨.be rfl,List.prefix_refl _⟩,_,?_,rfl⟩
  rw[ByteArray.size_append,z3,z2]
  decide
·have f1:=decide_eq_false r1
 refine aG f1 ?_
 refine af rfl ?_
 refine aC ?_
 refine aQ 14 mixed kr ?_
 obtain⟨q,hq⟩:∃ q,q=c / 16:=⟨_,rfl⟩
 obtain⟨m,hm⟩:∃ m,m=c % 16:=⟨_,rfl⟩
 have hq0:0≤q∧q≤15:=by omega
 have hm0:0≤m∧m≤15:=by omega
 have w1:IntKind.u8.wrap (c.tdiv 16)=q:=by rw[Int.tdiv_eq_ediv_of_nonneg h0,IntKind.wrap_u8];omega
 have w2:IntKind.u8.wrap (q+1)=q+1:=by rw[IntKind.wrap_u8];omega
 have w3:c.tmod 16=m:=by rw[Int.tmod_eq_emod_of_nonneg h0];exact hm.symm
 have w4:IntKind.u8.wrap (m+1)=m+1:=by rw[IntKind.wrap_u8];omega
 have hz16:(ByteArray.mk #[48,49,50,51,52,53,54,55,56,57,97,98,99,100,101,102]).size=16:=rfl
 have k1:(0≤q∧q≤q+1∧q+1≤((ByteArray.mk #[48,49,50,51,52,53,54,55,56,57,97,98,99,100,101,102]).size:Int))=True:=eq_true (by rw[hz16];omega)
 have k2:(0≤m∧m≤m+1∧m+1≤((ByteArray.mk #[48,49,50,51,52,53,54,55,56,57,97,98,99,100,101,102]).size:Int))=True:=eq_true (by rw[hz16];omega)
 obtain⟨s1,hs1⟩:∃ s1,s1=(ByteArray.mk #[48,49,50,51,52,53,54,55,56,57,97,98,99,100,101,102]).extract q.toNat (q+1).toNat:=⟨_,rfl⟩
 obtain⟨s2,hs2⟩:∃ s2,s2=(ByteArray.mk #[48,49,50,51,52,53,54,55,56,57,97,98,99,100,101,102]).extract m.toNat (m+1).toNat:=⟨_,rfl⟩
 have z1:s1.size=1:=by rw[hs1,ByteArray.size_extract,hz16];omega
 have z2:s2.size=1:=by rw[hs2,ByteArray.size_extract,hz16];omega
 have hs1:=hs1.symm
 have hs2:=hs2.symm
 have k3:(((ByteArray.mk #[92,120]).size:Int)+(s1.size:Int)≤9223372036854775807)=True:=eq_true (by rw[z1];decide)
 obtain⟨s3,hs3⟩:∃ s3,s3=(ByteArray.mk #[92,120])++s1:=⟨_,rfl⟩
 have z3:s3.size=3:=by rw[hs3,ByteArray.size_append,z1];rfl
 have hs3:=hs3.symm
 have k4:((s3.size:Int)+(s2.size:Int)≤9223372036854775807)=True:=eq_true (by rw[z3,z2];decide)
 repeat (first|apply zs|apply zr|apply zn|((first|apply zx|apply zy);·simp only[push_cast,env,Nat.reduceEqDiff,reduceIte,Nat.reduceAdd,Nat.reduceMul,Nat.reduceLeDiff,reduceCtorEq,Nat.reduceSub,Int.reduceToNat,w1,w2,w3,w4,k1,k2,k3,k4,hs1,hs2,hs3]<;>first|exact rfl|exact .inl rfl|exact .inr rfl) | apply zq|apply zb|apply zo|apply zk|apply zl)
 refine ai ?_
 refine⟨_,ak,⟨.be rfl,List.prefix_refl _⟩,_,?_,rfl⟩
 rw[ByteArray.size_append,z3,z2]
 decide}
theorem yn {l:List (Nat×Nat)} {b:Nat}:(jd l b).length≤l.length+1:=by{
unfold jd
split
·split
 ·rw[List.length_append,List.length_dropLast];simp
  try omega
 ·simp
·simp}
theorem xR:∀ (bs:List (Fin 256)) (l:List (Nat×Nat)),(bs.foldl (fun l b=>jd l b.1) l).length≤l.length+bs.length
 | [],l=>by simp
 | b :: bs,l=>by
   rw[List.foldl_cons]
   have h1:=xR bs (jd l b.1)
   have h2:=yn (l:=l) (b:=b.1)
   simp only[List.length_cons]
   omega
theorem jA (f:Nat→Bool):∀ k,(bQ f k).length≤k
 | 0=>by simp [bQ]
 | k+1=>by
   have:=jA f k
   unfold bQ
   split
   ·split
    ·simp;omega
    ·omega
   ·simp;try omega
theorem yc (n:Int):0≤IntKind.u8.wrap n∧IntKind.u8.wrap n<256:=by
 rw[IntKind.wrap_u8]
 omega
theorem AH (f:Nat→Bool) (n:Nat):(b9 (bQ f n)).length≤n:=by{
have h1:=xR (bQ f n) []
have h2:=jA f n
unfold b9
simp only[List.length_nil,Nat.zero_add] at h1
omega}
theorem zS {args:List Value}:env.mA 175 args h=ja h args:=by{
have e1:env.mA=kR:=rfl
rw[e1]
unfold kR
rw[if_neg (by decide),if_pos rfl]}
theorem Aw {cs:Array Value} {a b c d:Int} (e:cs.toList=[.int .u64 a,.int .u64 b,.int .u64 c,.int .u64 d]):ja h [.agg cs]=(if uq a&&uq b&&uq c&&uq d then
        (if (b9 (bQ (nc a b c d) 256)).isEmpty then some (.slice none 0 0,h)
        else some (.slice (some ⟨h.length,0,some 0⟩) (b9 (bQ (nc a b c d) 256)).length (b9 (bQ (nc a b c d) 256)).length,h++[av.aA (dt (b9 (bQ (nc a b c d) 256))) 0 true 214])) else none):=by
 unfold ja
 simp only[e]
theorem Bc {a b c d:Int} (hw:(uq a&&uq b&&uq c&&uq d)=true):∃ l:List (Nat×Nat),l.length≤256∧((l.isEmpty=true∧ja h [.agg #[.int .u64 a,.int .u64 b,.int .u64 c,.int .u64 d]]=some (bX,h))∨(l.isEmpty=false∧ja h [.agg #[.int .u64 a,.int .u64 b,.int .u64 c,.int .u64 d]]=some (.slice (some ⟨h.length,0,some 0⟩) l.length l.length,h++[av.aA (dt l) 0 true 214]))):=by{
have e:=Aw (h:=h) (a:=a) (b:=b) (c:=c) (d:=d) (cs:=#[.int .u64 a,.int .u64 b,.int .u64 c,.int .u64 d]) rfl
have hlen:=AH (nc a b c d) 256
generalize b9 (bQ (nc a b c d) 256)=L at e hlen
rw[if_pos hw] at e
refine⟨L,hlen,?_⟩
cases he:L.isEmpty with
| true=>exact .inl ⟨rfl,by rw[e,if_pos he]⟩
| false=>exact .inr ⟨rfl,by rw[e,if_neg (by rw[he];decide)]⟩}
theorem we {w:Int} (hw:pW w):uq w=true:=by{
obtain⟨a1,a2⟩:=hw
unfold uq
rw[decide_eq_true a1,decide_eq_true a2]
rfl}
theorem FX {args:List Value} {v:Value} {h':ah} {K:Value→ah→Prop} (e:ja h args=some (v,h')) (k:K v h'):FW env 175 args h K:=wD (zS.trans e) k
theorem Jw:bT h bX ([]:List (Nat×Nat)).length (dt []) 214 16:=⟨by simp,.inl ⟨.inl rfl,rfl,rfl⟩⟩
theorem I7 {l:List (Nat×Nat)} (hl:l.length≤256):bT (h++[av.aA (dt l) 0 true 214]) (.slice (some ⟨h.length,0,some 0⟩) l.length l.length) l.length (dt l) 214 16:=⟨by omega,.inr ⟨h.length,0,true,_,rfl,aJ⟩⟩
theorem H0 {s:aX} (hs:du s) {K:Value→ah→Prop} (k:∀ v h1 (l:List (Nat×Nat)),h <+: h1→l.length≤256→bT h1 v l.length (dt l) 214 16→K v h1):FW env 175 [s.val] h K:=by{
have hw:(uq s.a&&uq s.b&&uq s.c&&uq s.d)=true:=by rw[we hs.a,we hs.b,we hs.c,we hs.d];rfl
have hx:=Bc (h:=h) hw
obtain⟨l,hl,hx|hx⟩:=hx
·obtain⟨he,e⟩:=hx
 obtain rfl:=List.isEmpty_iff.mp he
 exact FX e (k _ _ [] (List.prefix_refl _) hl Jw)
·obtain⟨he,e⟩:=hx
 exact FX e (k _ _ l aH hl (I7 hl))}
theorem run_get {l:List (Nat×Nat)} {i:Nat} (hi:i<l.length):jU (dt l) (i*2) 2=some [i64 (l[i].1:Int),i64 (l[i].2:Int)]:=bS (f:=fun r:Nat×Nat=>[.int .i64 r.1,.int .i64 r.2]) (k:=2) (fun _=>rfl) l i l[i] (by simp [hi])
theorem Hq {s:aX} (hs:du s):FW env 139 [s.val] h fun r h'=>(∃ b:ByteArray,b.size≤3000∧r = .string b)∧h'=h:=by{
refine rL (K:=fun r=>∃ b:ByteArray,b.size≤3000∧r = .string b) ?_
refine fe Tryz.func139 ?_;simp only[push_cast]
obtain⟨b45,hb45⟩:∃ b:ByteArray,b=ByteArray.mk #[45]:=⟨_,rfl⟩
obtain⟨b93,hb93⟩:∃ b:ByteArray,b=ByteArray.mk #[93]:=⟨_,rfl⟩
have z45:b45.size=1:=by rw[hb45];rfl
have z93:b93.size=1:=by rw[hb93];rfl
rw[← hb45,← hb93]
refine aC ?_
refine zj Tryz.func175 ?_
refine H0 hs fun v h1 l hp1 hl hR=>?_
obtain⟨q,c,rfl⟩:=bT.form hR
refine aC ?_
refine aZ l.length (fun k (b:ByteArray)=>[(3,.val (.string b)),(7,.val (.slice q l.length c)),(8,.val (i64 l.length)),(9,.val (i64 k))]) (fun _ _=>h1) (fun k b=>b.size≤1+9*k) ⟨#[91]⟩ aK rfl (by decide) ?_
intro k b hk hb
by_cases hlt:k<l.length
·obtain⟨id,ar,own,c',hv,hid⟩:=bT.at hR om
 cases hv
 have hg:=run_get hlt
 have e1:=cg hlt
 have e2:=inc hlt om
 have e3:=aS hlt
 generalize l[k].1=Lo at hg
 generalize l[k].2=H at hg
 obtain⟨u1,u2⟩:=yc (Lo:Int)
 obtain⟨v1,v2⟩:=yc (H:Int)
 obtain⟨L1,hL1⟩:∃ x,IntKind.i64.wrap ((Lo:Int)+1)=x:=⟨_,rfl⟩
 obtain⟨Lb,hLb⟩:∃ x,IntKind.u8.wrap (Lo:Int)=x:=⟨_,rfl⟩
 obtain⟨Hb,hHb⟩:∃ x,IntKind.u8.wrap (H:Int)=x:=⟨_,rfl⟩
 rw[hLb] at u1 u2
 rw[hHb] at v1 v2
 generalize (Lo:Int)=Lo at hg hL1 hLb
 generalize (H:Int)=H at hg hHb
 refine aG e3 ?_
 refine ae rfl ?_
 refine fi e1 hid hg hLb ?_
 refine zj Tryz.func176 ?_
 refine (wW u1 u2).mono ?_
 rintro _ h4 ⟨⟨s1,zs1,rfl⟩,e7⟩
 obtain rfl:=e7.symm
 obtain⟨b2,hb2⟩:∃ x,x=b++s1:=⟨_,rfl⟩
 have zb2:b2.size≤1+9*k+4:=by first|(rw[hb2,ByteArray.size_append,z45];omega) | (rw[hb2,ByteArray.size_append];omega)
 have kb2:((b.size:Int)+(s1.size:Int)≤9223372036854775807)=True:=eq_true (by first|(rw[z45];omega) | omega)
 have hb2:=hb2.symm
 refine gV kb2 hb2 hL1 ?_
 refine dF ak (fun hc1=>?_) (fun hc1=>?_)
 ·obtain⟨b3,hb3⟩:∃ x,x=b2++b45:=⟨_,rfl⟩
  have zb3:b3.size≤1+9*k+5:=by first|(rw[hb3,ByteArray.size_append,z45];omega) | (rw[hb3,ByteArray.size_append];omega)
  have kb3:((b2.size:Int)+(b45.size:Int)≤9223372036854775807)=True:=eq_true (by first|(rw[z45];omega) | omega)
  have hb3:=hb3.symm
  refine fh kb3 hb3 ?_
  refine dF ak (fun hc2=>?_) (fun hc2=>?_)
  ·refine aG hHb ?_
   refine zj Tryz.func176 ?_
   refine (wW v1 v2).mono ?_
   rintro _ h4 ⟨⟨s2,zs2,rfl⟩,e7⟩
   obtain rfl:=e7.symm
   obtain⟨b4,hb4⟩:∃ x,x=b3++s2:=⟨_,rfl⟩
   have zb4:b4.size≤1+9*(k+1):=by first|(rw[hb4,ByteArray.size_append,z45];omega) | (rw[hb4,ByteArray.size_append];omega)
   have kb4:((b3.size:Int)+(s2.size:Int)≤9223372036854775807)=True:=eq_true (by first|(rw[z45];omega) | omega)
   have hb4:=hb4.symm
   refine gV kb4 hb4 e2 ?_
   exact⟨hlt,b4,aK,rfl,zb4⟩
  ·refine cz ?_
   show CW _ _ _ _
   refine aG e2 ?_
   exact⟨hlt,b3,aK,rfl,by omega⟩
 ·refine cz ?_
  show CW _ _ _ _
  refine aC ?_
  refine dF ak (fun hc2=>?_) (fun hc2=>?_)
  ·refine aG hHb ?_
   refine zj Tryz.func176 ?_
   refine (wW v1 v2).mono ?_
   rintro _ h4 ⟨⟨s2,zs2,rfl⟩,e7⟩
   obtain rfl:=e7.symm
   obtain⟨b4,hb4⟩:∃ x,x=b2++s2:=⟨_,rfl⟩
   have zb4:b4.size≤1+9*(k+1):=by first|(rw[hb4,ByteArray.size_append,z45];omega) | (rw[hb4,ByteArray.size_append];omega)
   have kb4:((b2.size:Int)+(s2.size:Int)≤9223372036854775807)=True:=eq_true (by first|(rw[z45];omega) | omega)
   have hb4:=hb4.symm
   refine gV kb4 hb4 e2 ?_
   exact⟨hlt,b4,aK,rfl,zb4⟩
  ·refine cz ?_
   show CW _ _ _ _
   refine aG e2 ?_
   exact⟨hlt,b2,aK,rfl,by omega⟩
·have e3:=aP hlt
 obtain rfl:k=l.length:=by omega
 refine aG e3 ?_
 refine af rfl ?_
 refine az ?_
 show CW _ _ _ _
 obtain⟨b5,hb5⟩:∃ x,x=b++b93:=⟨_,rfl⟩
 have zb5:b5.size≤3000:=by rw[hb5,ByteArray.size_append,z93];omega
 have kb5:((b.size:Int)+(b93.size:Int)≤9223372036854775807)=True:=eq_true (by rw[z93];omega)
 have hb5:=hb5.symm
 refine fh kb5 hb5 ?_
 refine ai ?_
 exact⟨_,ak,⟨.be rfl,hp1⟩,b5,zb5,rfl⟩}
end
theorem xL {h:ah} {args:List Value}:env.mA 205 args h=qi h args:=by{
have e1:env.mA=kR:=rfl
rw[e1]
unfold kR
rw[if_pos rfl]}
abbrev dT (i:Nat):Value:=.pointer (some ⟨i,0,some 0⟩)
def Em (h0 h:ah) (i n:Nat):Prop:=h0 <+: h∧h0.length≤i∧∃ (p v:Value) (b:ByteArray),h[i]? = some (.aA [p,v] 0 true 228)∧(p = .pointer none∨p=dT i)∧b.size=n∧aL h0 h v n (bL b) 5
theorem uQ (a b:ByteArray):bL (a++b)=bL a++bL b:=by
 unfold bL
 rw[ByteArray.data_append,Array.toList_append,List.map_append]
theorem Ai {c:Int} (h0:0≤c) (h1:c<256):∃ b:ByteArray,b.size=1∧bL b=[.int .u8 c]:=by{
refine⟨⟨#[UInt8.ofNat c.toNat]⟩,rfl,?_⟩
show [Value.int .u8 ((UInt8.ofNat c.toNat).toNat:Int)]=_
have:((UInt8.ofNat c.toNat).toNat:Int)=c:=by
 rw[UInt8.toNat_ofNat']
 omega
rw[this]}
theorem Cw {all:Array Oper} {o:Oper} {s:St} {h h':ah} {t t2 e:TypeId} {ti:TI} {x y:Operand} {b:ByteArray} {id ar:Nat} {cells:List Value} (hh:s.h=h) (hw:aF all o s=some true) (ho:o.op = .call { callee:=.builtin .unsafeString,args:=#[x,y],argTypes:=#[t,t2] })
 (hu:env.P.underlying t=some (.pointer e)) (ht:aq env.P e=some ti) (hs:ti.size=1) (hx:ev s x=some (.pointer (some ⟨id,0,some ar⟩))) (hid:h[id]? = some (.aA cells ar true e)) (hy:ev s y=some (.int .i64 b.size)) (h0:0<b.size) (hb:b.size≤140737488355328) (hc:cells.take b.size=bL b)
 (he:h'=h.set id (av.aA cells ar false e)):One env all o s (.sl (.val (.string b))) h':=by
 subst hh he
 exact One.Km hw ho hu ht hs hx hid hy h0 hb hc
section
variable {h h0 hk:ah} {i n:Nat}
theorem KG {p v:Value} (hx:h[i]? = some (.aA [p,v] 0 true 228)) (hp:p = .pointer none∨p=dT i):FW env 205 [dT i] h fun r h'=>r = .tuple #[]∧h'=h.set i (av.aA [dT i,v] 0 true 228):=by{
rcases hp with rfl|rfl
·refine wD (xL.trans (?_:qi h [dT i]=some (.tuple #[],h.set i (av.aA [dT i,v] 0 true 228)))) ⟨rfl,rfl⟩
 unfold qi
 simp only[hx,if_true]
·refine wD (xL.trans (?_:qi h [dT i]=some (.tuple #[],h))) ⟨rfl,(ma hx).symm⟩
 unfold qi
 simp only[hx,if_true]}
theorem Hm {v:Value} {m:Nat} {cells:List Value} {o:List Value} (hG:aL h0 h v m cells 5) (hx:h[i]? = some (.aA o 0 true 228)):bB v i=false:=by{
cases e:bB v i with
| false=>rfl
| true=>
  rcases hG with ⟨_,_,rfl⟩ | ⟨id,ar,_,rfl,g⟩
  ·simp [bB] at e
  ·simp only[bB,beq_iff_eq] at e
   subst e
   rw[hx] at g
   injection g with g
   injection g with _ _ _ g
   exact absurd g (by decide)}
theorem rO {c:Int} (h0c:0≤c) (h1c:c<256) (B:Em h0 h i n) (hn:n≤100000000):FW env 177 [dT i,.int .u8 c] h fun _ h'=>Em h0 h' i (n+1):=by{
obtain⟨hp,hi,p,v,b,hx,hps,hbs,hG⟩:=B
have hni:=Hm hG hx
have hx2:(h.set i (av.aA [dT i,v] 0 true 228))[i]? = some (.aA [dT i,v] 0 true 228):=aw hx
have hp2:h0 <+: h.set i (av.aA [dT i,v] 0 true 228):=a8 hp hi
have hG2:aL h0 (h.set i (av.aA [dT i,v] 0 true 228)) v n (bL b) 5:=hG.mono fun j o hj g=>by
 have hne:i≠j:=by
  rintro rfl
  rw[hni] at hj
  cases hj
 rw[aD hne]
 exact g
refine fe Tryz.func177 ?_;simp only[push_cast]
refine aC ?_
refine zj Tryz.func205 ?_
refine (KG hx hps).mono ?_
rintro _ h5 ⟨rfl,e5⟩
rw[← e5] at hx2 hp2 hG2
obtain⟨q,c2,rfl⟩:=hG2.form
obtain⟨bc,zbc,ebc⟩:=Ai h0c h1c
refine aG hx2 ?_
refine lr (t:=178) (n:=n) ak rfl kr OS (by decide) rfl (ir hx2) ak hG2 hp2 (by rw[jh,hbs];exact (Nat.mul_one n).symm) rfl (by simp only;omega) om ?_
intro q3 c3 h3 hG3 hp3 hk3 hat3
have hx3:=hk3 _ _ hni hx2
have hp4:=a8 (x:=av.aA [dT i,.slice q3 (n+1) c3] 0 true 228) hp3 hi
have hx4:(h3.set i (av.aA [dT i,.slice q3 (n+1) c3] 0 true 228))[i]? = _:=aw hx3
have hn3:=Hm hG3 hx3
have hG4:aL h0 (h3.set i (av.aA [dT i,.slice q3 (n+1) c3] 0 true 228)) (.slice q3 (n+1) c3) (n+1) (bL (b++bc)) 5:=by
 rw[uQ,ebc]
 exact hG3.mono fun j o hj g=>by
  have hne:i≠j:=by
   rintro rfl
   rw[hn3] at hj
   cases hj
  rw[aD hne]
  exact g
dsimp only[St.a9,St.put]
refine aG hx3 ?_
refine bV (v:=.slice q3 (n+1) c3) (vs:=[.slice q3 (n+1) c3]) (cells':=[dT i,.slice q3 (n+1) c3]) ak rfl rfl rfl ak hx3 ak rfl rfl ?_
dsimp only[St.a9,St.put]
refine aC ?_
refine ai ?_
exact⟨_,ak,hp4,hi,_,_,b++bc,hx4,.inr rfl,by rw[ByteArray.size_append,zbc,hbs],hG4⟩}
theorem Cp {t:ByteArray} (ht:0<t.size∧t.size≤1000) (B:Em h0 h i n) (hn:0<n∧n≤100000000):FW env 178 [dT i,.string t] h fun _ h'=>Em h0 h' i (n+t.size):=by{
obtain⟨hp,hi,p,v,b,hx,hps,hbs,hG⟩:=B
have hni:=Hm hG hx
have hx2:(h.set i (av.aA [dT i,v] 0 true 228))[i]? = some (.aA [dT i,v] 0 true 228):=aw hx
have hp2:h0 <+: h.set i (av.aA [dT i,v] 0 true 228):=a8 hp hi
have hG2:aL h0 (h.set i (av.aA [dT i,v] 0 true 228)) v n (bL b) 5:=hG.mono fun j o hj g=>by
 have hne:i≠j:=by
  rintro rfl
  rw[hni] at hj
  cases hj
 rw[aD hne]
 exact g
refine fe Tryz.func178 ?_;simp only[push_cast]
refine aC ?_
refine zj Tryz.func205 ?_
refine (KG hx hps).mono ?_
rintro _ h5 ⟨rfl,e5⟩
rw[← e5] at hx2 hp2 hG2
obtain⟨id,ar,hid0,rfl,hid⟩:=hG2.wz hn.1
have hne:i≠id:=by
 intro e
 simp only[bB,beq_eq_false_iff_ne] at hni
 exact hni e.symm
refine aG hx2 ?_
refine Ix (cells:=bL b) (n:=n) (id:=id) (ar:=ar) (b:=t) ak rfl kr kr OS rfl rfl rfl (ir hx2) hid (by rw[jh,hbs];exact Nat.le_refl _) ak om ?_
rw[List.take_of_length_le (by rw[jh,hbs];exact Nat.le_refl _),← uQ]
have hx3:(h5.set id (av.aA (bL (b++t)) (ar+1) true 5))[i]? = _:=(aD (Ne.symm hne)).trans hx2
have hp3:h0 <+: h5.set id (av.aA (bL (b++t)) (ar+1) true 5):=a8 hp2 hid0
have hid3:(h5.set id (av.aA (bL (b++t)) (ar+1) true 5))[id]? = _:=aw hid
dsimp only
generalize (h5.set id (av.aA (bL (b++t)) (ar+1) true 5))=h3 at hx3 hp3 hid3 ⊢
have hp4:=a8 (x:=av.aA [dT i,.slice (some ⟨id,0,some (ar+1)⟩) (n+t.size) (n+t.size)] 0 true 228) hp3 hi
have hx4:(h3.set i (av.aA [dT i,.slice (some ⟨id,0,some (ar+1)⟩) (n+t.size) (n+t.size)] 0 true 228))[i]? = _:=aw hx3
have hid4:(h3.set i (av.aA [dT i,.slice (some ⟨id,0,some (ar+1)⟩) (n+t.size) (n+t.size)] 0 true 228))[id]? = _:=(aD hne).trans hid3
dsimp only[St.a9,St.put]
refine aG hx3 ?_
refine bV (v:=.slice (some ⟨id,0,some (ar+1)⟩) (n+t.size) (n+t.size)) (vs:=[.slice (some ⟨id,0,some (ar+1)⟩) (n+t.size) (n+t.size)]) (cells':=[dT i,.slice (some ⟨id,0,some (ar+1)⟩) (n+t.size) (n+t.size)]) ak rfl rfl rfl ak hx3 ak rfl rfl ?_
dsimp only[St.a9,St.put]
refine aC ?_
refine ai ?_
exact⟨_,ak,hp4,hi,_,_,b++t,hx4,.inr rfl,by rw[ByteArray.size_append,hbs],.inr ⟨id,ar+1,hid0,rfl,hid4⟩⟩}
theorem Ou (B:Em h0 h i n) (hn:0<n∧n≤1000000000):FW env 179 [dT i] h fun r h'=>(∃ b:ByteArray,b.size=n∧r = .string b)∧h0 <+: h':=by{
obtain⟨hp,hi,p,v,b,hx,hps,hbs,hG⟩:=B
obtain⟨id,ar,hid0,rfl,hid⟩:=hG.wz hn.1
subst hbs
have hp2:h0 <+: h.set id (av.aA (bL b) ar false 5):=a8 hp hid0
have hx2:(h.set id (av.aA (bL b) ar false 5))[i]? = some (.aA [p,.slice (some ⟨id,0,some ar⟩) b.size b.size] 0 true 228):=by
 have hne:id≠i:=by
  rintro rfl
  rw[hx] at hid
  injection hid with g
  injection g with _ _ _ g
  exact absurd g (by decide)
 rw[aD hne]
 exact hx
have hpos:(0<b.size)=True:=eq_true hn.1
refine fe Tryz.func179 ?_;simp only[push_cast]
refine aC ?_
refine aB [(0,.val (dT i))] aK ?_
show CW _ _ ⟨_,[],h⟩ _
try apply zs
apply bm (L:=[[],[0],[0,1],[0,1,2],[0,1,2,3],[],[5],[5,6],[5,6,7],[5,6,7,8],[0,1,2,3,4,5,6,7,8,9],[0,1,2,3,4,5,6,7,8,9,10]]) (act:=[10]) (hs:=[h.set id (av.aA (bL b) ar false 5)]) (resL:=[_,_,_,_,_,_,_,_,_,_,_,_]) (frF:=[(2,.val (.string b))])
case hm=>exact mixed
case hc=>kernel_rfl
case ha=>rfl
case hb=>rfl
case hS=>
 refine Oz hx hx2 hpos ?_
 apply ay.cons
 ·rfl
 ·refine⟨?_,trivial⟩
  exact Cw (b:=b) (id:=id) (ar:=ar) (cells:=bL b) (h:=h) rfl ak rfl kr OS rfl ak hid ak hn.1 om (List.take_of_length_le (by rw[jh];exact Nat.le_refl _)) rfl
 ·rfl
 exact Wc hx2 hpos
case ht=>rfl
case hF=>exact zh
show CW _ _ ⟨_,[],h.set id (av.aA (bL b) ar false 5)⟩ _
refine ai ?_
refine⟨_,ak,⟨b,rfl,rfl⟩,hp2⟩}
theorem Da {t:ByteArray} {k:Nat} (hk:k<t.size):∃ c:Int,0≤c∧c<256∧(bL t)[k]? = some (.int .u8 c):=by{
have hd:k<t.data.toList.length:=by rw[Array.length_toList];exact hk
refine⟨((t.data.toList[k]).toNat:Int),by omega,?_,?_⟩
·have:=(t.data.toList[k]).toNat_lt
 omega
·unfold bL
 rw[List.getElem?_map,List.getElem?_eq_getElem hd]
 rfl}
theorem yj {v:Value} {t:ByteArray} (hS:bT h v t.size (bL t) 5 1) (ht:t.size≤1000):FW env 140 [v] h fun r h'=>(∃ b:ByteArray,b.size≤5000∧r = .string b)∧h'=h:=by{
refine rL (K:=fun r=>∃ b:ByteArray,b.size≤5000∧r = .string b) ?_
obtain⟨q,c,rfl⟩:=bT.form hS
refine fe Tryz.func140 ?_;simp only[push_cast]
refine zu ?_
iterate 1 (refine zx tP ?_)
refine zu ?_
refine dA (t:=228) (cs:=[.pointer none,bX]) ak ak ?_
dsimp only[St.a9,St.put]
have B0:Em h (h++[av.aA [.pointer none,bX] 0 true 228]) h.length 0:=⟨aH,Nat.le_refl _,_,_,⟨#[]⟩,aJ,.inl rfl,rfl,.nil⟩
generalize (h++[av.aA [.pointer none,bX] 0 true 228])=h1 at B0 ⊢
generalize h.length=i at B0 ⊢
refine aC ?_
refine zj Tryz.func177 ?_
refine (rO (by decide) (by decide) B0 om).mono ?_
rintro _ h2 B1
refine aC ?_
refine CW.mono (Q:=fun e s'=>e = .exit 0∧∃ x:ah×Nat,Em h x.1 i x.2∧(0<x.2∧x.2≤1+4*t.size)∧s'.h=x.1∧bA [(3,.val (dT i))] s'.fr) ?_ ?_
·refine aZ t.size (fun k (x:ah×Nat)=>[(3,.val (dT i)),(7,.val (.slice q t.size c)),(8,.val (i64 t.size)),(9,.val (i64 k))]) (fun _ x=>x.1) (fun k x=>Em h x.1 i x.2∧0<x.2∧x.2≤1+4*k) (h2,1) aK rfl ⟨B1,by simp only;omega,by simp only;omega⟩ ?_
 rintro k ⟨hk,n⟩ hkn ⟨B,hn0,hnk⟩
 simp only at B hn0 hnk ⊢
 by_cases hlt:k<t.size
 ·have hS2:bT hk (.slice q t.size c) t.size (bL t) 5 1:=hS.mono B.1
  obtain⟨id,ar,own,c',hv,hid⟩:=bT.at hS2 om
  cases hv
  obtain⟨w,w0,w1,hg⟩:=Da hlt
  have e1:=cg hlt
  have e2:=inc hlt om
  have e3:=aS hlt
  have hq0:0≤w / 16∧w / 16≤15:=by omega
  have hm0:0≤w % 16∧w % 16≤15:=by omega
  have z1:IntKind.u8.wrap (w.tdiv 16)=w / 16:=by rw[Int.tdiv_eq_ediv_of_nonneg w0,IntKind.wrap_u8];omega
  have z2:IntKind.u8.wrap (w.tmod 16)=w % 16:=by rw[Int.tmod_eq_emod_of_nonneg w0,IntKind.wrap_u8];omega
  have z2':w.tmod 16=w % 16:=Int.tmod_eq_emod_of_nonneg w0
  have hz16:(ByteArray.mk #[48,49,50,51,52,53,54,55,56,57,97,98,99,100,101,102]).size=16:=rfl
  generalize w / 16=wq at hq0 z1
  generalize w % 16=wm at hm0 z2 z2'
  obtain⟨d1,hd1,_⟩:=vQ (b:=ByteArray.mk #[48,49,50,51,52,53,54,55,56,57,97,98,99,100,101,102]) (i:=wq.toNat) (by rw[hz16];omega)
  obtain⟨d2,hd2,_⟩:=vQ (b:=ByteArray.mk #[48,49,50,51,52,53,54,55,56,57,97,98,99,100,101,102]) (i:=wm.toNat) (by rw[hz16];omega)
  have y1:(0≤wq)=True:=eq_true hq0.1
  have y2:(0≤wm)=True:=eq_true hm0.1
  have x1:=d1.toNat_lt
  have x2:=d2.toNat_lt
  refine aG e3 ?_
  refine ae rfl ?_
  refine fi e1 hid Nat.mul_one hg ?_
  refine dF ak (fun hc=>?_) (fun hc=>?_)
  ·refine aC ?_
   refine zj Tryz.func177 ?_
   refine (rO (by decide) (by decide) B om).mono ?_
   rintro _ h3 B3
   refine aC ?_
   refine zj Tryz.func177 ?_
   refine (rO w0 w1 B3 om).mono ?_
   rintro _ h4 B4
   refine aG e2 ?_
   exact⟨hlt,(h4,n+1+1),aK,rfl,B4,by omega,by omega⟩
  refine aC ?_
  refine dF ak (fun hc=>?_) (fun hc=>?_)
  ·refine aC ?_
   refine zj Tryz.func178 ?_
   refine (Cp (by decide) B om).mono ?_
   rintro _ h3 B3
   have B3:Em h h3 i (n+2):=B3
   refine aG e2 ?_
   exact⟨hlt,(h3,n+2),aK,rfl,B3,by omega,by omega⟩
  refine aC ?_
  refine dF ak (fun hc=>?_) (fun hc=>?_)
  ·refine aC ?_
   refine zj Tryz.func178 ?_
   refine (Cp (by decide) B om).mono ?_
   rintro _ h3 B3
   have B3:Em h h3 i (n+2):=B3
   refine aG e2 ?_
   exact⟨hlt,(h3,n+2),aK,rfl,B3,by omega,by omega⟩
  refine aC ?_
  refine dF ak (fun hc=>?_) (fun hc=>?_)
  ·refine aC ?_
   refine zj Tryz.func178 ?_
   refine (Cp (by decide) B om).mono ?_
   rintro _ h3 B3
   have B3:Em h h3 i (n+2):=B3
   refine aG e2 ?_
   exact⟨hlt,(h3,n+2),aK,rfl,B3,by omega,by omega⟩
  refine aC ?_
  refine dF ak (fun hc=>?_) (fun hc=>?_)
  ·refine aC ?_
   refine zj Tryz.func178 ?_
   refine (Cp (by decide) B om).mono ?_
   rintro _ h3 B3
   have B3:Em h h3 i (n+2):=B3
   refine gV z1 hd1 y1 ?_
   refine zj Tryz.func177 ?_
   refine (rO om om B3 om).mono ?_
   rintro _ h4 B4
   refine fi z2 z2' hd2 y2 ?_
   refine zj Tryz.func177 ?_
   refine (rO om om B4 om).mono ?_
   rintro _ h5 B5
   refine aG e2 ?_
   exact⟨hlt,(h5,n+2+1+1),aK,rfl,B5,by omega,by omega⟩
  ·refine aC ?_
   refine zj Tryz.func177 ?_
   refine (rO w0 w1 B om).mono ?_
   rintro _ h4 B4
   refine aG e2 ?_
   exact⟨hlt,(h4,n+1),aK,rfl,B4,by omega,by omega⟩
 ·have e3:=aP hlt
  obtain rfl:k=t.size:=by omega
  refine aG e3 ?_
  refine af rfl ?_
  refine az ?_
  exact⟨rfl,(hk,n),B,⟨hn0,hnk⟩,rfl,aK⟩
rintro e s' ⟨rfl,⟨hk,n⟩,B,⟨hn0,hnk⟩,hh,hf⟩
simp only at B hn0 hnk hh
show CW _ _ _ _
refine aB _ hf ?_
rw[hh]
refine aC ?_
refine zj Tryz.func177 ?_
refine (rO (by decide) (by decide) B om).mono ?_
rintro _ h3 B3
refine aC ?_
refine zj Tryz.func179 ?_
refine (Ou B3 om).mono ?_
rintro _ h4 ⟨⟨b,hb,rfl⟩,hp4⟩
refine aC ?_
refine ai ?_
exact⟨_,ak,⟨.be rfl,hp4⟩,b,by omega,rfl⟩}
theorem F5 {k:bt} (hset:du k.set) (hn:k.name.size≤mo) (hs:k.sep.size≤32):FW env 94 [k.val] h fun r h'=>(∃ b:ByteArray,b.size≤140737488355328+10000∧r = .string (b++⟨#[43]⟩))∧h'=h:=by{
refine rL (K:=fun r=>∃ b:ByteArray,b.size≤140737488355328+10000∧r = .string (b++⟨#[43]⟩)) ?_
unfold mo at hn
refine fe Tryz.func94 ?_;simp only[push_cast]
obtain⟨b43,hb43⟩:∃ b:ByteArray,b=ByteArray.mk #[43]:=⟨_,rfl⟩
obtain⟨b32,hb32⟩:∃ b:ByteArray,b=ByteArray.mk #[32]:=⟨_,rfl⟩
obtain⟨b123,hb123⟩:∃ b:ByteArray,b=ByteArray.mk #[123]:=⟨_,rfl⟩
obtain⟨b125,hb125⟩:∃ b:ByteArray,b=ByteArray.mk #[125]:=⟨_,rfl⟩
have z43:b43.size=1:=by rw[hb43];rfl
have z32:b32.size=1:=by rw[hb32];rfl
have z123:b123.size=1:=by rw[hb123];rfl
have z125:b125.size=1:=by rw[hb125];rfl
rw[← hb43,← hb32,← hb123,← hb125]
refine aC ?_
refine dF ak (fun hc=>?_) (fun hc=>?_)
·refine aC ?_
 refine zj Tryz.func139 ?_
 refine (Hq hset).mono ?_
 rintro _ h6 ⟨⟨x,hx,rfl⟩,e6⟩
 obtain rfl:=e6.symm
 refine aC ?_
 refine dF ak (fun hd1=>?_) (fun hd1=>?_)
 ·obtain⟨c1,hc1⟩:∃ zz,zz=b123++x:=⟨_,rfl⟩
  have zc1:c1.size≤140737488355328+3001:=by rw[hc1,ByteArray.size_append];omega
  have kc1:((b123.size:Int)+(x.size:Int)≤9223372036854775807)=True:=eq_true om
  have hc1:=hc1.symm
  obtain⟨c2,hc2⟩:∃ zz,zz=c1++b32:=⟨_,rfl⟩
  have zc2:c2.size≤140737488355328+3002:=by rw[hc2,ByteArray.size_append];omega
  have kc2:((c1.size:Int)+(b32.size:Int)≤9223372036854775807)=True:=eq_true om
  have hc2:=hc2.symm
  refine fi kc1 hc1 kc2 hc2 ?_
  refine ES (b:=k.sep) ak rfl kr kr kr OS rfl ak om ?_
  dsimp only[St.a9,St.put]
  have hSq:bT (h++[av.aA (bL k.sep) 0 false 5]) (.slice (some ⟨h.length,0,some 0⟩) k.sep.size k.sep.size) k.sep.size (bL k.sep) 5 1:=⟨by omega,.inr ⟨_,_,_,_,rfl,aJ⟩⟩
  have hpq:h <+: h++[av.aA (bL k.sep) 0 false 5]:=aH
  generalize (h++[av.aA (bL k.sep) 0 false 5])=h5 at hSq hpq ⊢
  generalize h.length=i5 at hSq ⊢
  refine aC ?_
  refine zj Tryz.func140 ?_
  refine (yj hSq om).mono ?_
  rintro _ h6 ⟨⟨b,hb,rfl⟩,e6⟩
  obtain rfl:=e6.symm
  obtain⟨c3,hc3⟩:∃ zz,zz=c2++b:=⟨_,rfl⟩
  have zc3:c3.size≤140737488355328+8002:=by rw[hc3,ByteArray.size_append];omega
  have kc3:((c2.size:Int)+(b.size:Int)≤9223372036854775807)=True:=eq_true om
  have hc3:=hc3.symm
  obtain⟨c4,hc4⟩:∃ zz,zz=c3++b125:=⟨_,rfl⟩
  have zc4:c4.size≤140737488355328+8003:=by rw[hc4,ByteArray.size_append];omega
  have kc4:((c3.size:Int)+(b125.size:Int)≤9223372036854775807)=True:=eq_true om
  have hc4:=hc4.symm
  refine fi kc3 hc3 kc4 hc4 ?_
  obtain⟨c5,hc5⟩:∃ zz,zz=c4++b43:=⟨_,rfl⟩
  have zc5:c5.size≤140737488355328+20000:=by rw[hc5,ByteArray.size_append];omega
  have kc5:((c4.size:Int)+(b43.size:Int)≤9223372036854775807)=True:=eq_true om
  have hc5:=hc5.symm
  refine fh kc5 hc5 ?_
  refine ai ?_
  exact⟨_,ak,⟨.be rfl,hpq⟩,c4,by omega,by rw[← hc5,hb43];rfl⟩
 ·refine cz ?_
  show CW _ _ _ _
  obtain⟨c5,hc5⟩:∃ zz,zz=x++b43:=⟨_,rfl⟩
  have zc5:c5.size≤140737488355328+20000:=by rw[hc5,ByteArray.size_append];omega
  have kc5:((x.size:Int)+(b43.size:Int)≤9223372036854775807)=True:=eq_true om
  have hc5:=hc5.symm
  refine fh kc5 hc5 ?_
  refine ai ?_
  exact⟨_,ak,⟨.be rfl,List.prefix_refl _⟩,x,by omega,by rw[← hc5,hb43];rfl⟩
·refine cz ?_
 show CW _ _ _ _
 refine aC ?_
 refine dF ak (fun hd1=>?_) (fun hd1=>?_)
 ·obtain⟨c1,hc1⟩:∃ zz,zz=b123++k.name:=⟨_,rfl⟩
  have zc1:c1.size≤140737488355328+3001:=by rw[hc1,ByteArray.size_append];omega
  have kc1:((b123.size:Int)+(k.name.size:Int)≤9223372036854775807)=True:=eq_true om
  have hc1:=hc1.symm
  obtain⟨c2,hc2⟩:∃ zz,zz=c1++b32:=⟨_,rfl⟩
  have zc2:c2.size≤140737488355328+3002:=by rw[hc2,ByteArray.size_append];omega
  have kc2:((c1.size:Int)+(b32.size:Int)≤9223372036854775807)=True:=eq_true om
  have hc2:=hc2.symm
  refine fi kc1 hc1 kc2 hc2 ?_
  refine ES (b:=k.sep) ak rfl kr kr kr OS rfl ak om ?_
  dsimp only[St.a9,St.put]
  have hSq:bT (h++[av.aA (bL k.sep) 0 false 5]) (.slice (some ⟨h.length,0,some 0⟩) k.sep.size k.sep.size) k.sep.size (bL k.sep) 5 1:=⟨by omega,.inr ⟨_,_,_,_,rfl,aJ⟩⟩
  have hpq:h <+: h++[av.aA (bL k.sep) 0 false 5]:=aH
  generalize (h++[av.aA (bL k.sep) 0 false 5])=h5 at hSq hpq ⊢
  generalize h.length=i5 at hSq ⊢
  refine aC ?_
  refine zj Tryz.func140 ?_
  refine (yj hSq om).mono ?_
  rintro _ h6 ⟨⟨b,hb,rfl⟩,e6⟩
  obtain rfl:=e6.symm
  obtain⟨c3,hc3⟩:∃ zz,zz=c2++b:=⟨_,rfl⟩
  have zc3:c3.size≤140737488355328+8002:=by rw[hc3,ByteArray.size_append];omega
  have kc3:((c2.size:Int)+(b.size:Int)≤9223372036854775807)=True:=eq_true om
  have hc3:=hc3.symm
  obtain⟨c4,hc4⟩:∃ zz,zz=c3++b125:=⟨_,rfl⟩
  have zc4:c4.size≤140737488355328+8003:=by rw[hc4,ByteArray.size_append];omega
  have kc4:((c3.size:Int)+(b125.size:Int)≤9223372036854775807)=True:=eq_true om
  have hc4:=hc4.symm
  refine fi kc3 hc3 kc4 hc4 ?_
  obtain⟨c5,hc5⟩:∃ zz,zz=c4++b43:=⟨_,rfl⟩
  have zc5:c5.size≤140737488355328+20000:=by rw[hc5,ByteArray.size_append];omega
  have kc5:((c4.size:Int)+(b43.size:Int)≤9223372036854775807)=True:=eq_true om
  have hc5:=hc5.symm
  refine fh kc5 hc5 ?_
  refine ai ?_
  exact⟨_,ak,⟨.be rfl,hpq⟩,c4,by omega,by rw[← hc5,hb43];rfl⟩
 ·refine cz ?_
  show CW _ _ _ _
  obtain⟨c5,hc5⟩:∃ zz,zz=k.name++b43:=⟨_,rfl⟩
  have zc5:c5.size≤140737488355328+20000:=by rw[hc5,ByteArray.size_append];omega
  have kc5:((k.name.size:Int)+(b43.size:Int)≤9223372036854775807)=True:=eq_true om
  have hc5:=hc5.symm
  refine fh kc5 hc5 ?_
  refine ai ?_
  exact⟨_,ak,⟨.be rfl,List.prefix_refl _⟩,k.name,by omega,by rw[← hc5,hb43];rfl⟩}
end
def xe (l:List ByteArray):List (ByteArray×Int):=l.zipIdx.map fun p=>(p.1,(p.2:Int))
def xy (n:Nat) (l:List bt):List (bt×Int):=l.zipIdx.map fun p=>(p.1,((n+p.2:Nat):Int))
theorem nv (a b:ByteArray) (l:List ByteArray):(a :: l).idxOf b=if b=a then 0 else l.idxOf b+1:=by{
rw[List.idxOf_cons,v5]
by_cases h:b=a
·rw[if_pos h,decide_eq_true h.symm];rfl
·rw[if_neg h,decide_eq_false (fun e=>h e.symm)];rfl}
theorem mr (a b:bt) (l:List bt):(a :: l).idxOf b=if b=a then 0 else l.idxOf b+1:=by{
rw[List.idxOf_cons]
by_cases h:b=a
·rw[if_pos h,h];simp
·rw[if_neg h]
 have:(a == b)=false:=by rw[beq_eq_false_iff_ne];exact fun e=>h e.symm
 rw[this];rfl}
theorem yv (x:ByteArray):∀ (l:List ByteArray) (k:Nat),x∈l→iG ((l.zipIdx k).map fun p=>(p.1,(p.2:Int))) x=some ((k+l.idxOf x:Nat):Int)
 | [],k,h=>by simp at h
 | a :: l,k,h=>by
   rw[List.zipIdx_cons,List.map_cons,nv]
   unfold iG
   by_cases e:x=a
   ·rw[if_pos e,if_pos e];rfl
   ·rw[if_neg e,if_neg e,yv x l (k+1) ((List.mem_cons.1 h).resolve_left e)]
    congr 2
    omega
theorem BO {x:ByteArray} {l:List ByteArray} (h:x∈l):gQ (fU (xe l)) (.string x)=some (i64 ((l.idxOf x:Nat):Int)):=by{
rw[ov]
unfold xe
rw[yv x l 0 h,Nat.zero_add]
rfl}
theorem xK (x:ByteArray) (v:Int):∀ l:List (ByteArray×Int),(∀ p∈l,p.1≠x)→dx l x v=l++[(x,v)]
 | [],_=>rfl
 | (k,u) :: r,h=>by
   unfold dx
   have hk:x≠k:=fun e=>h (k,u) (by simp) e.symm
   rw[if_neg hk,xK x v r fun p hp=>h p (List.mem_cons_of_mem _ hp)]
   rfl
theorem Kc {x:ByteArray} {l:List ByteArray} (h:x∉l):dx (xe l) x (l.length:Int)=xe (l++[x]):=by{
rw[xK]
·unfold xe
 rw[List.zipIdx_append,List.map_append]
 simp
·intro p hp e
 unfold xe at hp
 rw[List.mem_map] at hp
 obtain⟨q,hq,rfl⟩:=hp
 have:=List.mem_zipIdx' hq
 subst e
 exact h (this.2▸List.getElem_mem this.1)}
theorem sO (x:bt) (n:Nat):∀ (l:List bt) (k:Nat),qu ((l.zipIdx k).map fun p=>(p.1,((n+p.2:Nat):Int))) x=if x∈l then some ((n+(k+l.idxOf x):Nat):Int) else none
 | [],k=>by simp [qu]
 | a :: l,k=>by
   rw[List.zipIdx_cons,List.map_cons,mr]
   unfold qu
   by_cases e:x=a
   ·rw[if_pos e,if_pos e,if_pos (by simp [e])];rfl
   ·rw[if_neg e,if_neg e,sO x n l (k+1)]
    by_cases hm:x∈l
    ·rw[if_pos hm,if_pos (List.mem_cons_of_mem _ hm)]
     congr 2
     omega
    ·rw[if_neg hm,if_neg (by rw[List.mem_cons];exact fun h=>h.elim e hm)]
theorem Ce {x:bt} {n:Nat} {l:List bt}:gQ (kE (xy n l)) x.val=if x∈l then some (i64 ((n+l.idxOf x:Nat):Int)) else none:=by{
rw[EW]
unfold xy
rw[sO x n l 0,Nat.zero_add]
split<;>rfl}
theorem JR {x:bt} {n:Nat} {l:List bt} (h:x∉l):iU (kE (xy n l)) x.val (i64 ((n+l.length:Nat):Int))=kE (xy n (l++[x])):=by{
rw[EH]
·unfold xy
 rw[List.zipIdx_append,List.map_append]
 simp
·unfold xy
 rw[sO,if_neg h]}
theorem aL.lu {a b c:ah} {v:Value} {n:Nat} {cells:List Value} {et:TypeId} (G:aL b c v n cells et) (h:a.length≤b.length):aL a c v n cells et:=by{
rcases G with G|⟨id,ar,h1,h2,h3⟩
·exact .inl G
·exact .inr ⟨id,ar,Nat.le_trans h h1,h2,h3⟩}
def V9 (n:Nat) (X:List Nat) (a b:ah):Prop:=∀ (j:Nat) (o:av),j<n→j∉X→a[j]? = some o→b[j]? = some o
structure NS (h0 hb hk:ah) (im:Nat) (m:MK) (l:List ByteArray) (es:List (ByteArray×Int)) (ks:List (bt×Int)) (os:List bt):Prop where
 p:h0 <+: hk
 k:V9 hb.length [im,m.is,m.il] hb hk
 len:hb.length≤hk.length
 o:hk[im]? = some (.aA m.cells 0 true 94)
 n:aL hb hk m.vn l.length (l.map .string) 9
 od:aL hb hk m.vo os.length (os.flatMap bt.cells) 154
 sm:hk[m.is]? = some (.map (fU es))
 lm:hk[m.il]? = some (.map (kE ks))
structure NP (h0 hb:ah) (im i1 is il:Nat):Prop where
 a1:h0.length≤im
 a2:h0.length≤is
 a3:h0.length≤il
 b1:im<hb.length
 b2:is<hb.length
 b3:il<hb.length
 b4:i1<hb.length
 c1:im≠is
 c2:im≠il
 c3:is≠il
 c4:i1∉[im,is,il]
 x:hb[i1]? = some (.aA [.pointer (some ⟨im,0,some 0⟩)] 0 true 89)
section
variable {h0 hb hk h':ah} {im i1:Nat} {m:MK} {l:List ByteArray} {es:List (ByteArray×Int)} {ks:List (bt×Int)} {os:List bt}
theorem NS.x1 (S:NS h0 hb hk im m l es ks os) (P:NP h0 hb im i1 m.is m.il):hk[i1]? = some (.aA [.pointer (some ⟨im,0,some 0⟩)] 0 true 89):=S.k _ _ P.b4 P.c4 P.x
theorem nT {a:ah} {i:Nat} {x:av}:(a.set i x).length=a.length:=List.length_set
theorem aL.sf {v:Value} {n i:Nat} {cells:List Value} {et:TypeId} {x:av} (G:aL hb hk v n cells et) (hi:i<hb.length):aL hb (hk.set i x) v n cells et:=G.mono fun j o hj g=>by
 have:=G.lt hj
 rw[aD om]
 exact g
theorem NS.ol (S:NS h0 hb hk im m l es ks os) (P:NP h0 hb im i1 m.is m.il) (es':List (ByteArray×Int)):NS h0 hb (hk.set m.is (.map (fU es'))) im m l es' ks os:=
 ⟨a8 S.p P.a2,fun j o h1 h2 h3=>by
  rw[aD (fun e=>h2 (by rw[← e];simp))]
  exact S.k j o h1 h2 h3,by rw[nT];exact S.len,by rw[aD P.c1.symm];exact S.o,S.n.sf P.b2,S.od.sf P.b2,aw S.sm,by rw[aD P.c3];exact S.lm⟩
theorem NS.Uz (S:NS h0 hb hk im m l es ks os) (P:NP h0 hb im i1 m.is m.il) (ks':List (bt×Int)):NS h0 hb (hk.set m.il (.map (kE ks'))) im m l es ks' os:=
 ⟨a8 S.p P.a3,fun j o h1 h2 h3=>by
  rw[aD (fun e=>h2 (by rw[← e];simp))]
  exact S.k j o h1 h2 h3,by rw[nT];exact S.len,by rw[aD P.c2.symm];exact S.o,S.n.sf P.b3,S.od.sf P.b3,by rw[aD P.c3.symm];exact S.sm,aw S.lm⟩
theorem NS.wI (S:NS h0 hb hk im m l es ks os) (P:NP h0 hb im i1 m.is m.il) {m':MK} (e1:m'.is=m.is) (e2:m'.il=m.il) (e3:m'.vn=m.vn) (e4:m'.vo=m.vo):NS h0 hb (hk.set im (.aA m'.cells 0 true 94)) im m' l es ks os:=
 ⟨a8 S.p P.a1,fun j o h1 h2 h3=>by
  rw[e1,e2] at h2
  rw[aD (fun e=>h2 (by rw[← e];simp))]
  exact S.k j o h1 h2 h3,by rw[nT];exact S.len,aw S.o,by rw[e3];exact S.n.sf P.b1,by rw[e4];exact S.od.sf P.b1,by rw[e1,aD P.c1];exact S.sm,by rw[e2,aD P.c2];exact S.lm⟩
theorem BD {v:Value} {n:Nat} {cells:List Value} {et:TypeId} (G:aL hb hk v n cells et) {j:Nat} (hj:j<hb.length):bB v j=false:=by{
cases e:bB v j with
| false=>rfl
| true=>have:=G.lt e;omega}
theorem zw {n:Nat}:hk.take n <+: hk:=List.take_prefix n hk
theorem nw (h:hb.length≤hk.length):(hk.take hb.length).length=hb.length:=by rw[List.length_take];omega
theorem x5 {b:ah} (hp:h0 <+: hk) (hl:h0.length≤hb.length) (hk2:hb.length≤hk.length) (h2:hk.take hb.length <+: b):h0 <+: b:=by
 refine List.IsPrefix.trans ?_ h2
 exact List.prefix_take_iff.2 ⟨hp,hl⟩
theorem qV {s:ByteArray} (S:NS h0 hb hk im m l es ks os) (P:NP h0 hb im i1 m.is m.il) (hl:l.length≤100000) : FW env 90 [.string s,.pointer (some ⟨i1,0,some 0⟩)] hk fun r h'=>r=i64 (l.length:Int)∧∃ vn,NS h0 hb h' im { m with vn:=vn } (l++[s]) es ks os:=by{
have hob:=S.o
have hG:=S.n
have hx1:=S.x1 P
have hl0:h0.length≤hb.length:=by have:=P.a1;have:=P.b1;omega
obtain⟨q,c,hvn⟩:=hG.form
rw[hvn] at hG
have hG':=hG.lu (a:=hk.take hb.length) (by rw[nw S.len];exact Nat.le_refl _)
obtain⟨p2,c2,h2,hone,k1,k2,k3,k4,k5⟩:=jf (cs:=[.string s]) (t:=36) kr HB (by decide) rfl hG' zw (by simp) rfl (by simp only;omega) om
have hk3:∀ j o,j<hb.length→hk[j]? = some o→h2[j]? = some o:=fun j o hj g=>k3 j o (BD hG hj) g
have k1':aL hb h2 (.slice p2 (l.length+1) c2) (l++[s]).length ((l++[s]).map .string) 9:=by
 rw[List.length_append,List.map_append]
 exact k1.lu (by rw[nw S.len];exact Nat.le_refl _)
have hod:aL hb h2 m.vo os.length (os.flatMap bt.cells) 154:=S.od.eD (cj.push hG k3) (by decide)
have S2:NS h0 hb h2 im { m with vn:=.slice q l.length c } l es ks os→True:=fun _=>trivial
have hob2:=hk3 _ _ P.b1 hob
have hx2:=hk3 _ _ P.b4 hx1
have hp2:h0 <+: h2:=x5 S.p hl0 S.len k2
have hS3:NS h0 hb (h2.set im (.aA (MK.cells { m with vn:=.slice p2 (l.length+1) c2 }) 0 true 94)) im { m with vn:=.slice p2 (l.length+1) c2 } (l++[s]) es ks os:=
 ⟨a8 hp2 P.a1,fun j o h1 h2 h3=>by
  rw[aD (fun e=>h2 (by rw[← e];simp))]
  exact hk3 _ _ h1 (S.k j o h1 h2 h3),by rw[nT];exact Nat.le_trans S.len k5,aw hob2,k1'.sf P.b1,hod.sf P.b1,by rw[aD P.c1];exact hk3 _ _ P.b2 S.sm,by rw[aD P.c2];exact hk3 _ _ P.b3 S.lm⟩
have hob3:=hS3.o
have hx3:=hS3.x1 P
have hw:IntKind.i64.wrap ((l.length:Int)+1-1)=(l.length:Int):=by rw[Int.add_sub_cancel];exact ax om om
simp only[MK.cells,hvn] at hob hob2
refine fe Tryz.func90 ?_;simp only[push_cast]
refine aC ?_
refine aB [(0,.val (.string s)),(1,.val (.pointer (some ⟨i1,0,some 0⟩)))] aK ?_
show CW _ _ ⟨_,[],hk⟩ _
try apply zs
apply bm (L:=[[],[],[1],[1,2],[1,2,3],[1,2,3,4],[],[6],[1,2,3,4,5,6,7],[0],[0,9],[0,9,10],[0,1,2,3,4,5,6,7,8,9,10,11]]) (act:=[8,12]) (hs:=[h2,h2.set im (.aA (MK.cells { m with vn:=.slice p2 (l.length+1) c2 }) 0 true 94)]) (resL:=[_,_,_,_,_,_,_,_,_,_,_,_,_]) (frF:=[(0,.val (.string s)),(1,.val (.pointer (some ⟨i1,0,some 0⟩)))])
case hm=>exact mixed
case hc=>kernel_rfl
case ha=>rfl
case hb=>rfl
case hS=>
 refine tQ hx1 hx2 hob hob2 ?_
 apply ay.cons
 ·rfl
 ·refine⟨?_,trivial⟩
  exact hone _ _ _ _ _ rfl ak rfl ak ak
 ·rfl
 refine tQ hx1 hx2 hob hob2 ?_
 apply ay.cons
 ·rfl
 ·refine⟨?_,trivial⟩
  exact One.jP (r:=.sl .dH) (cells':=MK.cells { m with vn:=.slice p2 (l.length+1) c2 }) ak rfl ak ak hob2 ak rfl rfl rfl
 ·rfl
 exact ay.nil _
case ht=>rfl
case hF=>exact zh
show CW _ _ ⟨_,[],h2.set im (.aA (MK.cells { m with vn:=.slice p2 (l.length+1) c2 }) 0 true 94)⟩ _
generalize (h2.set im (av.aA (MK.cells { m with vn:=.slice p2 (l.length+1) c2 }) 0 true 94))=h3 at hS3 hob3 hx3 ⊢
simp only[MK.cells] at hob3
refine gV hx3 hob3 hw ?_
refine ai ?_
exact⟨_,ak,rfl,.slice p2 (l.length+1) c2,hS3⟩}
end
def yt (b:ByteArray):Prop:=∃ c:ByteArray,b=c++⟨#[43]⟩
section
variable {h0 hb hk h':ah} {im i1:Nat} {m:MK} {d:bM} {l:List ByteArray} {es:List (ByteArray×Int)} {ks:List (bt×Int)} {os:List bt}
theorem NS.ord (S:NS h0 hb hk im m l es ks os) (P:NP h0 hb im i1 m.is m.il) (k:bt) (hl:os.length≤100000):∃ p2 c2 h2, (∀ (all:Array Oper) (o:Oper) (s:St) (x:Operand) (y:Nat),s.h=hk→aF all o s=some true→o.op = .call { callee:=.builtin .append,args:=#[x,.tmp y],argTypes:=#[92,92] }→ev s x=some m.vo→aW s.fr y = .mx k.cells 1 → One env all o s (.sl (.val (.slice p2 (os.length+1) c2))) h2) ∧ h2[im]? = some (.aA m.cells 0 true 94)∧h2[i1]? = some (.aA [.pointer (some ⟨im,0,some 0⟩)] 0 true 89) ∧ NS h0 hb (h2.set im (.aA (MK.cells { m with vo:=.slice p2 (os.length+1) c2 }) 0 true 94)) im { m with vo:=.slice p2 (os.length+1) c2 } l es ks (os++[k]):=by{
have hob:=S.o
have hG:=S.od
have hx1:=S.x1 P
have hl0:h0.length≤hb.length:=by have:=P.a1;have:=P.b1;omega
have hG':=hG.lu (a:=hk.take hb.length) (by rw[nw S.len];exact Nat.le_refl _)
obtain⟨p2,c2,h2,hone,k1,k2,k3,k4,k5⟩:=jf (cs:=k.cells) (t:=92) kr Ku (by decide) rfl hG' zw (dN (f:=bt.cells) (k:=7) (fun _=>rfl) os) rfl (by simp only;omega) om
have hk3:∀ j o,j<hb.length→hk[j]? = some o→h2[j]? = some o:=fun j o hj g=>k3 j o (BD hG hj) g
have k1':aL hb h2 (.slice p2 (os.length+1) c2) (os++[k]).length ((os++[k]).flatMap bt.cells) 154:=by
 rw[List.length_append,List.flatMap_append,List.flatMap_singleton]
 exact k1.lu (by rw[nw S.len];exact Nat.le_refl _)
have hn:aL hb h2 m.vn l.length (l.map .string) 9:=S.n.eD (cj.push hG k3) (by decide)
have hob2:=hk3 _ _ P.b1 hob
have hx2:=hk3 _ _ P.b4 hx1
have hp2:h0 <+: h2:=x5 S.p hl0 S.len k2
exact⟨p2,c2,h2,hone,hob2,hx2,
 ⟨a8 hp2 P.a1,fun j o h1 h2 h3=>by
  rw[aD (fun e=>h2 (by rw[← e];simp))]
  exact hk3 _ _ h1 (S.k j o h1 h2 h3),by rw[nT];exact Nat.le_trans S.len k5,aw hob2,hn.sf P.b1,k1'.sf P.b1,by rw[aD P.c1];exact hk3 _ _ P.b2 S.sm,by rw[aD P.c2];exact hk3 _ _ P.b3 S.lm⟩⟩}
structure NL (h0 hb:ah) (im:Nat) (m:MK) (S:List ByteArray) (os:List bt) (x:ah×Value×Value×List ByteArray):Prop where
 n:NS h0 hb x.1 im { m with vn:=x.2.1,vo:=x.2.2.1 } (S++x.2.2.2) (xe S) (xy S.length os) os
 l:x.2.2.2.length=os.length
 e:∀ b∈x.2.2.2,yt b
abbrev ny (i1:Nat):Value:=.func (.func 90) #[] #[.pointer (some ⟨i1,0,some 0⟩)]
structure V0 (h0 hk h':ah) (im:Nat) (m':MK) (d:bM) (nm:List ByteArray) (hb:ah):Prop where
 s:NS h0 hb h' im m' (aE d.aa++nm++(if b7 d.layout=true then [] else [⟨#[103,97,112]⟩])++[⟨#[116,111,112]⟩]) (xe (aE d.aa)) (xy (aE d.aa).length (bh d.aa)) (bh d.aa)
 p:hk <+: hb
 l:nm.length=nK d
 e:∀ b∈nm,yt b
theorem A4 {lex:Bool} {os:List bt} {s:Sym} (hL:fV s=true) (hm:ik lex s∈os):fq lex os s=os:=by
 unfold fq addKey
 rw[if_pos hL,if_pos hm]
theorem xO {lex:Bool} {os:List bt} {s:Sym} (hL:fV s=true) (hm:ik lex s∉os):fq lex os s=os++[ik lex s]:=by
 unfold fq addKey
 rw[if_pos hL,if_neg hm]
theorem zT {lex:Bool} {os:List bt} {s:Sym} (hL:fV s=false):fq lex os s=os:=by
 unfold fq
 rw[if_neg (by rw[hL];decide)]
theorem NO (hp:h0 <+: hk) (ho:hk[im]? = some (.aA m.cells 0 true 94)) (hsm:hk[m.is]? = some (.map (fU []))) (hlm:hk[m.il]? = some (.map (kE []))) (a1:h0.length≤im) (a2:h0.length≤m.is) (a3:h0.length≤m.il) (c1:im≠m.is) (c2:im≠m.il) (c3:m.is≠m.il) (hvn:m.vn=bX) (hvo:m.vo=bX) (hD:bH h0 d m.vP m.vC m.OE m.OO m.vB) (hs1:m.start=d.start) (hs2:m.layout=d.layout) (G:jz d) (hW:∀ p∈d.aa,oK p) (hnS:(aE d.aa).length≤200) (hkY:∀ (k:Nat) (hk:k<d.aa.length) (j:Nat),(g8 d.aa[k].lex (bh (d.aa.take k)) (d.aa[k].aj.take j)).length≤3000) : FW env 33 [.pointer (some ⟨im,0,some 0⟩)] hk fun r h'=>r = .tuple #[]∧∃ vn vo nm hb,V0 h0 hk h' im { m with vn:=vn,vo:=vo,lI:=bl d,st:=(cA d:Int),cK:=(aU d:Int) } d nm hb:=by{
obtain⟨pP,cP,hvP⟩:=cV.form hD.aa
refine fe Tryz.func33 ?_;simp only[push_cast]
refine zu ?_
refine dA (t:=89) (cs:=[.pointer (some ⟨im,0,some 0⟩)]) ak ak ?_
dsimp only[St.a9,St.put]
have hpA:hk <+: hk++[av.aA [.pointer (some ⟨im,0,some 0⟩)] 0 true 89]:=aH
have hx1:(hk++[av.aA [.pointer (some ⟨im,0,some 0⟩)] 0 true 89])[hk.length]? = some (.aA [.pointer (some ⟨im,0,some 0⟩)] 0 true 89):=aJ
have hi1:hk.length<(hk++[av.aA [.pointer (some ⟨im,0,some 0⟩)] 0 true 89]).length:=by simp
generalize (hk++[av.aA [.pointer (some ⟨im,0,some 0⟩)] 0 true 89])=hA at hpA hx1 hi1 ⊢
have himk:im<hk.length:=(List.getElem?_eq_some_iff.1 ho).1
have hisk:m.is<hk.length:=(List.getElem?_eq_some_iff.1 hsm).1
have hilk:m.il<hk.length:=(List.getElem?_eq_some_iff.1 hlm).1
have hnot:hk.length∉[im,m.is,m.il]:=by simp;omega
generalize hk.length=i1 at hx1 hi1 hnot himk hisk hilk ⊢
have hSo:=EU (hD.mono (hp.trans hpA))
have hobA:=ag hpA ho
unfold bM.val at hSo
simp only[MK.cells,hs1,hs2] at hobA
obtain⟨S,hS⟩:∃ S,S=aE d.aa:=⟨_,rfl⟩
have hSn:S.Nodup:=hS▸uh
rw[← hS] at hSo hnS
refine fh hx1 hobA ?_
refine zj Tryz.func91 ?_
refine hSo.mono ?_
rintro _ hb ⟨hpB,GS⟩
obtain⟨q,c,rfl⟩:=GS.form
have hlen:=hpB.length_le
have P:NP h0 hb im i1 m.is m.il:=⟨a1,a2,a3,by omega,by omega,by omega,by omega,c1,c2,c3,hnot,ag hpB hx1⟩
have hNS:NS h0 hb hb im m [] (xe []) (xy S.length []) []:=⟨(hp.trans hpA).trans hpB,fun _ _ _ _ k=>k,Nat.le_refl _,ag (hpA.trans hpB) ho,by rw[hvn];exact aL.nil,by rw[hvo];exact aL.nil,ag (hpA.trans hpB) hsm,ag (hpA.trans hpB) hlm⟩
have hGS:∀ {x:ah} {m':MK} {l:List ByteArray} {es:List (ByteArray×Int)} {ks:List (bt×Int)} {os:List bt},m'.is=m.is→m'.il=m.il→NS h0 hb x im m' l es ks os→aL hA x (.slice q S.length c) S.length (S.map .string) 9:=fun e1 e2 N=>GS.mono fun j o hj g=>by
 have h1:=(GS.lt hj).1
 have h2:=(List.getElem?_eq_some_iff.1 g).1
 refine N.k j o h2 ?_ g
 rw[e1,e2]
 simp
 omega
refine aC ?_
refine CW.mono (Q:=fun e s'=>e = .exit 0∧∃ x:ah×Value,NS h0 hb x.1 im { m with vn:=x.2 } S (xe S) (xy S.length []) []∧s'.h=x.1∧bA [(1,.val (.pointer (some ⟨i1,0,some 0⟩))),(2,.val (ny i1))] s'.fr) ?_ ?_
·refine aZ S.length (fun k (x:ah×Value)=>[(1,.val (.pointer (some ⟨i1,0,some 0⟩))),(2,.val (ny i1)),(18,.val (.slice q S.length c)),(19,.val (i64 S.length)),(20,.val (i64 k))]) (fun _ x=>x.1) (fun k x=>NS h0 hb x.1 im { m with vn:=x.2 } (S.take k) (xe (S.take k)) (xy S.length []) []) (hb,m.vn) aK rfl (by rw[List.take_zero];exact hNS) ?_
 rintro k ⟨hc,vn⟩ hkn I
 simp only at I ⊢
 by_cases hlt:k<S.length
 ·obtain⟨id,ar,own,c',hv,hid⟩:=((hGS (m':={ m with vn:=vn }) rfl rfl I).sl (b:=16) om).at om
  cases hv
  have hg:(S.map Value.string)[k]? = some (.string S[k]):=by rw[List.getElem?_map,List.getElem?_eq_getElem hlt];rfl
  have htk:S.take (k+1)=S.take k++[S[k]]:=List.take_succ_eq_append_getElem hlt
  have hni:S[k]∉S.take k:=by
   intro hm
   obtain⟨j,hj,e⟩:=List.getElem_of_mem hm
   rw[List.length_take] at hj
   rw[List.getElem_take] at e
   exact List.pairwise_iff_getElem.1 hSn j k om hlt om e
  have hput:=qV (s:=S[k]) I P (by rw[List.length_take];omega)
  have e9:=Kc hni
  have hlk:(S.take k).length=k:=by rw[List.length_take];omega
  rw[hlk] at hput e9
  unfold FW at hput
  obtain⟨_,h2,hcall,rfl,vn2,N2⟩:=hput
  have hsk:=br (xe (S.take k))
  have e8:=dY S[k] (k:Int) (xe (S.take k))
  rw[e9,← htk] at e8
  have N3:=N2.ol P (xe (S.take (k+1)))
  have w1:=cg hlt
  have w2:=inc hlt om
  have q3:=aS hlt
  have hx:=I.x1 P
  have hob:=I.o
  have hx2:=N2.x1 P
  have hob2:=N2.o
  have hsm2:=N2.sm
  simp only[MK.cells] at hob hob2
  simp only at hsm2
  generalize S[k]=s at hcall hg e8 N2 N3 htk ⊢
  refine aG q3 ?_
  refine ae rfl ?_
  refine zu ?_
  iterate 3 (refine zx (VM w1 hid Nat.mul_one hg) ?_)
  apply zn
  show CW _ _ ⟨_,[],hc⟩ _
  try apply zs
  refine aB [(1,.val (.pointer (some ⟨i1,0,some 0⟩))),(2,.val (ny i1)),(4,.val (.string s)),(18,.val (.slice (some ⟨id,0,some ar⟩) S.length c)),(19,.val (i64 S.length)),(20,.val (i64 k))] aK ?_
  show CW _ _ ⟨_,[],hc⟩ _
  try apply zs
  apply bm (L:=[[],[0],[0,1],[0,1,2],[],[],[],[5,6],[0,1,2,3,4,5,6,7]]) (act:=[7,8]) (hs:=[h2,h2.set m.is (.map (iU (fU (xe (S.take k))) (.string s) (i64 k)))]) (resL:=[_,_,_,_,_,_,_,_,_]) (frF:=[(1,.val (.pointer (some ⟨i1,0,some 0⟩))),(2,.val (ny i1)),(18,.val (.slice (some ⟨id,0,some ar⟩) S.length c)),(19,.val (i64 S.length)),(20,.val (i64 k))])
  case hm=>exact mixed
  case hc=>kernel_rfl
  case ha=>rfl
  case hb=>rfl
  case hS=>
   refine tQ hx hx2 hob hob2 ?_
   apply ay.cons
   ·rfl
   ·refine⟨?_,trivial⟩
    exact dL (args:=[.string s]) (cap:=[.pointer (some ⟨i1,0,some 0⟩)]) (fn:=Tryz.f90) ak rfl ak ak Tryz.func90 kr kr hcall
   ·rfl
   refine tQ hx hx2 hob hob2 ?_
   apply ay.cons
   ·rfl
   ·refine⟨?_,trivial⟩
    exact One.Cb (r:=.sl .dH) (kt:=9) (et:=3) (kd:=eZ) ak rfl kr rfl ak hsm2 ak ak rfl hsk rfl
   ·rfl
   exact ay.nil _
  case ht=>rfl
  case hF=>exact zh
  rw[e8]
  show CW _ _ ⟨_,[],h2.set m.is (.map (fU (xe (S.take (k+1)))))⟩ _
  simp only at N3
  generalize h2.set m.is (.map (fU (xe (S.take (k+1)))))=h3 at N3 ⊢
  refine aG w2 ?_
  refine⟨hlt,(h3,vn2),aK,rfl,?_⟩
  simp only
  rw[htk] at N3 ⊢
  exact N3
 ·have q3:=aP hlt
  obtain rfl:k=S.length:=by omega
  rw[List.take_length] at I
  refine aG q3 ?_
  refine af rfl ?_
  refine az ?_
  exact⟨rfl,(hc,vn),I,rfl,aK⟩
rintro e s' ⟨rfl,⟨h1,vn1⟩,I1,hh,hf⟩
show CW _ _ _ _
refine aB _ hf ?_
rw[hh]
clear hf hh s' hNS
simp only at I1 ⊢
have hx:=I1.x1 P
have hob:=I1.o
simp only[MK.cells,hvP] at hob
refine fh hx hob ?_
have hlP:=cV.le hD.aa
have hGn:=G.n
refine CW.mono (Q:=fun e s'=>e = .exit 2∧∃ x:ah×Value×Value×List ByteArray,NL h0 hb im m S (bh d.aa) x∧s'.h=x.1∧bA [(1,.val (.pointer (some ⟨i1,0,some 0⟩))),(2,.val (ny i1))] s'.fr) ?_ ?_
·refine aZ d.aa.length (fun k (x:ah×Value×Value×List ByteArray)=>[(1,.val (.pointer (some ⟨i1,0,some 0⟩))),(2,.val (ny i1)),(38,.val (.slice pP d.aa.length cP)),(39,.val (i64 d.aa.length)),(40,.val (i64 k))]) (fun _ x=>x.1) (fun k x=>NL h0 hb im m S (bh (d.aa.take k)) x) (h1,vn1,m.vo,[]) aK rfl ⟨by rw[List.append_nil];exact I1,rfl,fun b hb=>by simp at hb⟩ ?_
 rintro k x hkn J
 by_cases hlt:k<d.aa.length
 ·obtain⟨id,ar,own,c',cells,u,hv,hid0,hrd,hu⟩:=cV.at (k:=5) (fun _ _=>rfl) hD.aa hlt
  rw[hvP] at hv
  cases hv
  have hu:fR h0 u d.aa[k].aj:=hu
  obtain⟨ps,cs,rfl⟩:=bT.form hu
  have hid:=ag J.n.p hid0
  have w1:=cg hlt
  have w2:=inc hlt om
  have q3:=aS hlt
  have hpw:=hW _ (List.getElem_mem hlt)
  have hGk:∀ s∈d.aa[k].aj,fV s=true→ik d.aa[k].lex s∈bh d.aa:=fun s hs hL=>mem_keys.2 ⟨_,List.getElem_mem hlt,s,hs,hL,rfl⟩
  have hle2:=hkY k hlt
  have htk:=AP hlt
  have hule:=hu.1
  obtain⟨pr,hpr⟩:∃ pr,pr=d.aa[k]:=⟨_,rfl⟩
  rw[← hpr] at hrd hu hpw hGk hle2 htk hule
  clear hpr
  refine aG q3 ?_
  refine ae rfl ?_
  refine gV w1 hid hrd ?_
  refine aZ pr.aj.length (fun j (x:ah×Value×Value×List ByteArray)=>[(1,.val (.pointer (some ⟨i1,0,some 0⟩))),(2,.val (ny i1)),(6,.box [.bool pr.lex,.string pr.sort,.string pr.cons,.bool pr.bracket,.slice ps pr.aj.length cs]),(38,.val (.slice (some ⟨id,0,some ar⟩) d.aa.length cP)),(39,.val (i64 d.aa.length)),(40,.val (i64 k)),(45,.val (.slice ps pr.aj.length cs)),(46,.val (i64 pr.aj.length)),(47,.val (i64 j))]) (fun _ x=>x.1) (fun j x=>NL h0 hb im m S (g8 pr.lex (bh (d.aa.take k)) (pr.aj.take j)) x) x aK rfl (by rw[List.take_zero];exact J) ?_
  clear J hid x
  rintro j ⟨hc,vn,vo,nm⟩ hjn J
  by_cases hjl:j<pr.aj.length
  ·have hul:=hu.mono J.n.p
   obtain⟨id2,ver2,own2,c3,hv2,hid2⟩:=bT.at hul om
   cases hv2
   have hyg:=ig hjl
   have v1:=cg hjl
   have v2:=inc hjl om
   have v3:=aS hjl
   have hsucc:=AU (lex:=pr.lex) (l:=bh (d.aa.take k)) hjl
   have hGs:=hGk _ (List.getElem_mem hjl)
   have hsw:=hpw.aj _ (List.getElem_mem hjl)
   have hosl:=hle2 j
   generalize g8 pr.lex (bh (d.aa.take k)) (pr.aj.take j)=os at J hsucc hosl
   have N:=J.n
   have hnl:=J.l
   simp only at N hnl hid2 ⊢
   have hx:=N.x1 P
   have hob:=N.o
   have hlm:=N.lm
   simp only[MK.cells] at hob
   simp only at hlm
   generalize pr.aj[j]=s at hyg hsucc hGs hsw
   refine aG v3 ?_
   refine ae rfl ?_
   refine gV v1 hid2 hyg ?_
   refine zj Tryz.func92 ?_
   refine uI.mono ?_
   rintro _ h2 ⟨rfl,e2⟩
   obtain rfl:=e2.symm
   cases hL:fV s with
   | false=>
     rw[zT hL] at hsucc
     refine aC ?_
     refine ae rfl ?_
     refine az ?_
     show CW _ _ _ _
     refine aG v2 ?_
     refine⟨hjl,(hc,vn,vo,nm),aK,rfl,?_⟩
     simp only
     rw[hsucc]
     exact J
   | true=>
     have hKm:=hGs hL
     refine aC ?_
     refine af rfl ?_
     refine aC ?_
     refine zj Tryz.func93 ?_
     refine (y8 (s:=s) hul).mono ?_
     rintro _ h2 ⟨rfl,e2⟩
     obtain rfl:=e2.symm
     have hkk0:=rf (xy S.length os)
     have hkk:=hkk0
     have hkg:=Ce (x:=ik pr.lex s) (n:=S.length) (l:=os)
     have hkd:=wK (ik pr.lex s)
     have hn0:(ik pr.lex s).name.size≤mo:=hsw.name
     have hst:du (ik pr.lex s).set:=hsw.set
     have hsp:(ik pr.lex s).sep.size≤32:=(G.k _ hKm).2
     unfold k9 at hkk hkd
     by_cases hm:ik pr.lex s∈os
     ·rw[if_pos hm] at hkg
      rw[A4 hL hm] at hsucc
      generalize ik pr.lex s=K at hkg hkd hn0 hst hsp ⊢
      refine aC ?_
      refine aQ 10 mixed kr ?_
      refine DB hx hob hlm hkg hkk hkd ?_
      refine af rfl ?_
      refine aG v2 ?_
      refine⟨hjl,(hc,vn,vo,nm),aK,rfl,?_⟩
      simp only
      rw[hsucc]
      exact J
     ·rw[if_neg hm] at hkg
      rw[xO hL hm] at hsucc
      have hkput:=JR (n:=S.length) hm
      generalize ik pr.lex s=K at hkg hkd hn0 hst hsp hsucc hkput hm ⊢
      have hln:=F5 (h:=hc) hst hn0 hsp
      unfold FW at hln
      obtain⟨_,_,hcall7,⟨b,hbs,rfl⟩,e7⟩:=hln
      obtain rfl:=e7.symm
      obtain⟨B,hB⟩:∃ B:ByteArray,B=b++ByteArray.mk #[43]:=⟨_,rfl⟩
      rw[← hB] at hcall7
      have hln:FW env 94 [K.val] hc fun r h'=>r = .string B∧h'=hc:=by unfold FW;exact⟨_,_,hcall7,rfl,rfl⟩
      have hput:=qV (s:=B) N P (by rw[List.length_append];omega)
      have hlk:(S++nm).length=S.length+os.length:=by rw[List.length_append];omega
      rw[hlk] at hput
      unfold FW at hput
      obtain⟨_,h2,hcall,rfl,vn2,N2⟩:=hput
      have N3:=N2.Uz P (xy S.length (os++[K]))
      have hx2:=N2.x1 P
      have hob2:=N2.o
      have hlm2:=N2.lm
      simp only[MK.cells] at hob2
      simp only at hlm2 N3
      have hcs:K.cells=K.cells:=rfl
      refine aC ?_
      refine aQ 10 mixed kr ?_
      refine DB hx hob hlm hkg hkk hkd ?_
      refine ae rfl ?_
      refine aB [(1,.val (.pointer (some ⟨i1,0,some 0⟩))),(2,.val (ny i1)),(6,.box [.bool pr.lex,.string pr.sort,.string pr.cons,.bool pr.bracket,.slice (some ⟨id2,0,some ver2⟩) pr.aj.length cs]),(9,.box [.bool K.lex,.string K.name,u64 K.set.a,u64 K.set.b,u64 K.set.c,u64 K.set.d,.string K.sep]),(38,.val (.slice (some ⟨id,0,some ar⟩) d.aa.length cP)),(39,.val (i64 d.aa.length)),(40,.val (i64 k)),(45,.val (.slice (some ⟨id2,0,some ver2⟩) pr.aj.length cs)),(46,.val (i64 pr.aj.length)),(47,.val (i64 j))] aK ?_
      show CW _ _ ⟨_,[],hc⟩ _
      try apply zs
      apply bm (L:=[[],[0],[0,1],[0,1,2],[],[],[],[6],[5,6,7],[0,1,2,3,4,5,6,7,8]]) (act:=[8,9]) (hs:=[h2,h2.set m.il (.map (iU (kE (xy S.length os)) K.val (i64 ((S.length+os.length:Nat):Int))))]) (resL:=[_,_,_,_,_,_,_,_,_,_]) (frF:=[(1,.val (.pointer (some ⟨i1,0,some 0⟩))),(2,.val (ny i1)),(6,.box [.bool pr.lex,.string pr.sort,.string pr.cons,.bool pr.bracket,.slice (some ⟨id2,0,some ver2⟩) pr.aj.length cs]),(9,.box [.bool K.lex,.string K.name,u64 K.set.a,u64 K.set.b,u64 K.set.c,u64 K.set.d,.string K.sep]),(38,.val (.slice (some ⟨id,0,some ar⟩) d.aa.length cP)),(39,.val (i64 d.aa.length)),(40,.val (i64 k)),(45,.val (.slice (some ⟨id2,0,some ver2⟩) pr.aj.length cs)),(46,.val (i64 pr.aj.length)),(47,.val (i64 j))])
      case hm=>exact mixed
      case hc=>kernel_rfl
      case ha=>rfl
      case hb=>rfl
      case hS=>
       refine tQ hx hx2 hob hob2 ?_
       apply ay.cons
       ·rfl
       ·refine⟨?_,trivial⟩
        exact bi (fn:=Tryz.f94) (args:=[K.val]) (cap:=[]) rfl ak rfl ak ak Tryz.func94 kr kr hln
       ·rfl
       refine tQ hx hx2 hob hob2 ?_
       apply ay.cons
       ·rfl
       ·refine⟨?_,trivial⟩
        exact dL (args:=[.string B]) (cap:=[.pointer (some ⟨i1,0,some 0⟩)]) (fn:=Tryz.f90) ak rfl ak ak Tryz.func90 kr kr hcall
       ·rfl
       refine tQ hx hx2 hob hob2 ?_
       apply ay.cons
       ·rfl
       ·refine⟨?_,trivial⟩
        exact One.Cb (r:=.sl .dH) (kt:=154) (et:=3) (kd:=yX k9) ak rfl kr rfl ak hlm2 ak ak rfl hkk0 rfl
       ·rfl
       exact ay.nil _
      case ht=>rfl
      case hF=>exact zh
      rw[hkput]
      show CW _ _ ⟨_,[],h2.set m.il (.map (kE (xy S.length (os++[K]))))⟩ _
      have P3:NP h0 hb im i1 m.is m.il:=P
      have hx3:=N3.x1 P
      have hob3:=N3.o
      obtain⟨p4,c4,h4,hone,hob4,hx4,N5⟩:=NS.ord N3 P K om
      simp only at hone hob3 hob4 N5
      generalize h2.set m.il (.map (kE (xy S.length (os++[K]))))=h3 at N3 hx3 hob3 hone ⊢
      have hvo:=N3.od.form
      simp only at hvo
      obtain⟨qv,cv,rfl⟩:=hvo
      simp only[MK.cells] at hob3
      have hob4':=hob4
      simp only[MK.cells] at hob4'
      try apply zs
      apply bm (L:=[[],[],[1],[1,2],[1,2,3],[],[5],[1,2,3,4,5,6],[0],[0,8],[0,1,2,3,4,5,6,7,8,9]]) (act:=[7,10]) (hs:=[h4,h4.set im (.aA (MK.cells { m with vn:=vn2,vo:=.slice p4 (os.length+1) c4 }) 0 true 94)]) (resL:=[_,_,_,_,_,_,_,_,_,_,_]) (frF:=[(1,.val (.pointer (some ⟨i1,0,some 0⟩))),(2,.val (ny i1)),(6,.box [.bool pr.lex,.string pr.sort,.string pr.cons,.bool pr.bracket,.slice (some ⟨id2,0,some ver2⟩) pr.aj.length cs]),(38,.val (.slice (some ⟨id,0,some ar⟩) d.aa.length cP)),(39,.val (i64 d.aa.length)),(40,.val (i64 k)),(45,.val (.slice (some ⟨id2,0,some ver2⟩) pr.aj.length cs)),(46,.val (i64 pr.aj.length)),(47,.val (i64 j))])
      case hm=>exact mixed
      case hc=>kernel_rfl
      case ha=>rfl
      case hb=>rfl
      case hS=>
       refine tQ hx3 hx4 hob3 hob4' ?_
       apply ay.cons
       ·rfl
       ·refine⟨?_,trivial⟩
        exact hone _ _ _ _ _ rfl ak rfl ak ak
       ·rfl
       refine tQ hx3 hx4 hob3 hob4' ?_
       apply ay.cons
       ·rfl
       ·refine⟨?_,trivial⟩
        exact One.jP (r:=.sl .dH) (cells':=MK.cells { m with vn:=vn2,vo:=.slice p4 (os.length+1) c4 }) ak rfl ak ak hob4' ak rfl rfl rfl
       ·rfl
       exact ay.nil _
      case ht=>rfl
      case hF=>exact zh
      show CW _ _ ⟨_,[],h4.set im (.aA (MK.cells { m with vn:=vn2,vo:=.slice p4 (os.length+1) c4 }) 0 true 94)⟩ _
      generalize h4.set im (.aA (MK.cells { m with vn:=vn2,vo:=.slice p4 (os.length+1) c4 }) 0 true 94)=h5 at N5 ⊢
      refine aG v2 ?_
      refine⟨hjl,(h5,vn2,.slice p4 (os.length+1) c4,nm++[B]),aK,rfl,?_⟩
      simp only
      rw[hsucc]
      refine⟨?_,?_,fun x hx=>?_⟩
      ·simp only
       rw[← List.append_assoc]
       exact N5
      ·simp only[List.length_append,List.length_singleton]
       omega
      ·rcases List.mem_append.1 hx with hx|hx
       ·exact J.e x hx
       ·rw[List.mem_singleton.1 hx]
        exact⟨b,hB⟩
  ·have v3:=aP hjl
   obtain rfl:j=pr.aj.length:=by omega
   simp only
   rw[List.take_length,← htk] at J
   refine aG v3 ?_
   refine af rfl ?_
   refine az ?_
   show CW _ _ _ _
   refine aG w2 ?_
   refine⟨hlt,(hc,vn,vo,nm),aK,rfl,J⟩
 ·have q3:=aP hlt
  obtain rfl:k=d.aa.length:=by omega
  rw[List.take_length] at J
  refine aG q3 ?_
  refine af rfl ?_
  refine az ?_
  exact⟨rfl,x,J,rfl,aK⟩
rintro e s' ⟨rfl,⟨h2,vn2,vo2,nm⟩,J,hh,hf⟩
show CW _ _ _ _
refine aB _ hf ?_
rw[hh]
clear hf hh s'
have N:=J.n
have hnl:=J.l
have hne:=J.e
simp only at N hnl hne ⊢
clear J
have hnK:nm.length=nK d:=hnl
have hK3:=G.kn
have hSl:S.length=nS d:=by rw[hS];rfl
have hxz:=N.x1 P
have hobz:=N.o
obtain⟨qv,cv,hvo2⟩:=N.od.form
simp only at hvo2
subst hvo2
obtain⟨qn,cn,hvn2⟩:=N.n.form
simp only at hvn2
subst hvn2
have N1:=N.wI P (m':={ m with vn:=.slice qn (S++nm).length cn,vo:=.slice qv (bh d.aa).length cv,lI:=-1 }) rfl rfl rfl rfl
simp only[MK.cells] at hobz
refine zu ?_
iterate 3 (refine zx (VT hxz hobz) ?_)
refine bV (v:=i64 (-1)) (vs:=[i64 (-1)]) (cells':=MK.cells { m with vn:=.slice qn (S++nm).length cn,vo:=.slice qv (bh d.aa).length cv,lI:=-1 }) ak rfl rfl rfl ak hobz ak rfl rfl ?_
dsimp only
generalize (h2.set im (av.aA (MK.cells { m with vn:=.slice qn (S++nm).length cn,vo:=.slice qv (bh d.aa).length cv,lI:=-1 }) 0 true 94))=h3 at N1 ⊢
have hx3:=N1.x1 P
have hob3:=N1.o
have hll:(S++nm).length=nS d+nK d:=by rw[List.length_append,hSl,hnK]
have hkk:nK d≤3000:=hK3
have hss:nS d≤200:=by omega
generalize hL:S++nm=L at N1 hob3 hll
simp only[MK.cells] at hob3
have hdl:decide (m.layout=⟨#[]⟩)=b7 d.layout:=by rw[hs2];rfl
obtain⟨GL,hGL⟩:∃ GL:List ByteArray,GL=if b7 d.layout=true then [] else [ByteArray.mk #[103,97,112]]:=⟨_,rfl⟩
have hgl:GL.length=if b7 d.layout=true then 0 else 1:=by rw[hGL];split<;>rfl
apply zn
show CW _ _ ⟨_,[],h3⟩ _
try apply zs
refine gV hx3 hob3 hdl ?_
refine CW.mono (Q:=fun e s'=>e = .normal∧∃ x:ah×Value,NS h0 hb x.1 im { m with vn:=x.2,vo:=.slice qv (bh d.aa).length cv,lI:=bl d } (L++GL) (xe S) (xy S.length (bh d.aa)) (bh d.aa)∧s'.h=x.1∧bA [(1,.val (.pointer (some ⟨i1,0,some 0⟩))),(2,.val (ny i1))] s'.fr) ?_ ?_
·cases hem:b7 d.layout with
 | true=>
   have hg:bl d = -1:=by unfold bl;rw[if_pos hem]
   rw[if_pos hem] at hGL
   refine af rfl ?_
   refine aC ?_
   refine⟨rfl,(h3,.slice qn L.length cn),?_,rfl,aK⟩
   simp only
   rw[hg,hGL,List.append_nil]
   exact N1
 | false=>
   have hg:bl d=((nS d+nK d:Nat):Int):=by unfold bl;rw[if_neg (by rw[hem];decide)]
   rw[if_neg (by rw[hem];decide)] at hGL
   refine ae rfl ?_
   have hput:=qV (s:=⟨#[103,97,112]⟩) N1 P om
   rw[hll] at hput
   unfold FW at hput
   obtain⟨_,h4,hcall,rfl,vn4,N4⟩:=hput
   simp only at N4
   have hx4:=N4.x1 P
   have hob4:=N4.o
   have hob4':=hob4
   simp only[MK.cells] at hob4'
   have N5:=N4.wI P (m':={ m with vn:=vn4,vo:=.slice qv (bh d.aa).length cv,lI:=((nS d+nK d:Nat):Int) }) rfl rfl rfl rfl
   refine aB [(1,.val (.pointer (some ⟨i1,0,some 0⟩))),(2,.val (ny i1))] aK ?_
   show CW _ _ ⟨_,[],h3⟩ _
   try apply zs
   apply bm (L:=[[],[],[1],[0],[0,3],[0,1,2,3,4]]) (act:=[2,5]) (hs:=[h4,h4.set im (.aA (MK.cells { m with vn:=vn4,vo:=.slice qv (bh d.aa).length cv,lI:=((nS d+nK d:Nat):Int) }) 0 true 94)]) (resL:=[_,_,_,_,_,_]) (frF:=[(1,.val (.pointer (some ⟨i1,0,some 0⟩))),(2,.val (ny i1))])
   case hm=>exact mixed
   case hc=>kernel_rfl
   case ha=>rfl
   case hb=>rfl
   case hS=>
    refine tQ hx3 hx4 hob3 hob4' ?_
    apply ay.cons
    ·rfl
    ·refine⟨?_,trivial⟩
     exact dL (args:=[.string ⟨#[103,97,112]⟩]) (cap:=[.pointer (some ⟨i1,0,some 0⟩)]) (fn:=Tryz.f90) ak rfl ak ak Tryz.func90 kr kr hcall
    ·rfl
    refine tQ hx3 hx4 hob3 hob4' ?_
    apply ay.cons
    ·rfl
    ·refine⟨?_,trivial⟩
     exact One.jP (r:=.sl .dH) (cells':=MK.cells { m with vn:=vn4,vo:=.slice qv (bh d.aa).length cv,lI:=((nS d+nK d:Nat):Int) }) ak rfl ak ak hob4' ak rfl rfl rfl
    ·rfl
    exact ay.nil _
   case ht=>rfl
   case hF=>exact zh
   refine⟨rfl,(_,vn4),?_,rfl,aK⟩
   simp only
   rw[hg,hGL]
   exact N5
rintro e s' ⟨rfl,⟨h4,vn4⟩,N4,hh,hf⟩
show CW _ _ _ _
refine aB _ hf ?_
rw[hh]
clear hf hh s'
simp only at N4 ⊢
have hll4:(L++GL).length=cA d:=by
 rw[List.length_append,hll,hgl]
 rfl
have htop:cA d≤10000:=by unfold cA;split<;>omega
generalize hL4:L++GL=L4 at N4 hll4
have hput:=qV (s:=⟨#[116,111,112]⟩) N4 P om
rw[hll4] at hput
unfold FW at hput
obtain⟨_,h5,hcall,rfl,vn5,N5⟩:=hput
simp only at N5
have hx4:=N4.x1 P
have hob4:=N4.o
have hx5:=N5.x1 P
have hob5:=N5.o
obtain⟨qm,cm,hvn4⟩:=N4.n.form
simp only at hvn4
subst hvn4
obtain⟨qp,cp,hvn5⟩:=N5.n.form
simp only at hvn5
subst hvn5
simp only[MK.cells] at hob4 hob5
have N6:=N5.wI P (m':={ m with vn:=.slice qp (L4++[ByteArray.mk #[116,111,112]]).length cp,vo:=.slice qv (bh d.aa).length cv,lI:=bl d,st:=(cA d:Int) }) rfl rfl rfl rfl
try apply zs
apply bm (L:=[[],[],[1],[0],[0,3],[0,3,4],[0,3,4,5],[0,1,2,3,4,5,6]]) (act:=[2,7]) (hs:=[h5,h5.set im (.aA (MK.cells { m with vn:=.slice qp (L4++[ByteArray.mk #[116,111,112]]).length cp,vo:=.slice qv (bh d.aa).length cv,lI:=bl d,st:=(cA d:Int) }) 0 true 94)]) (resL:=[_,_,_,_,_,_,_,_]) (frF:=[(1,.val (.pointer (some ⟨i1,0,some 0⟩))),(2,.val (ny i1))])
case hm=>exact mixed
case hc=>kernel_rfl
case ha=>rfl
case hb=>rfl
case hS=>
 refine tQ hx4 hx5 hob4 hob5 ?_
 apply ay.cons
 ·rfl
 ·refine⟨?_,trivial⟩
  exact dL (args:=[.string ⟨#[116,111,112]⟩]) (cap:=[.pointer (some ⟨i1,0,some 0⟩)]) (fn:=Tryz.f90) ak rfl ak ak Tryz.func90 kr kr hcall
 ·rfl
 refine tQ hx4 hx5 hob4 hob5 ?_
 apply ay.cons
 ·rfl
 ·refine⟨?_,trivial⟩
  exact One.jP (r:=.sl .dH) (cells':=MK.cells { m with vn:=.slice qp (L4++[ByteArray.mk #[116,111,112]]).length cp,vo:=.slice qv (bh d.aa).length cv,lI:=bl d,st:=(cA d:Int) }) ak rfl ak ak hob5 ak rfl rfl rfl
 ·rfl
 exact ay.nil _
case ht=>rfl
case hF=>exact zh
show CW _ _ ⟨_,[],h5.set im (.aA (MK.cells { m with vn:=.slice qp (L4++[ByteArray.mk #[116,111,112]]).length cp,vo:=.slice qv (bh d.aa).length cv,lI:=bl d,st:=(cA d:Int) }) 0 true 94)⟩ _
generalize h5.set im (.aA (MK.cells { m with vn:=.slice qp (L4++[ByteArray.mk #[116,111,112]]).length cp,vo:=.slice qv (bh d.aa).length cv,lI:=bl d,st:=(cA d:Int) }) 0 true 94)=h6 at N6 ⊢
have hx6:=N6.x1 P
have hob6:=N6.o
have hl6:(L4++[ByteArray.mk #[116,111,112]]).length=aU d:=by rw[List.length_append,hll4];rfl
rw[hl6] at N6 hob6
have N7:=N6.wI P (m':={ m with vn:=.slice qp (aU d) cp,vo:=.slice qv (bh d.aa).length cv,lI:=bl d,st:=(cA d:Int),cK:=(aU d:Int) }) rfl rfl rfl rfl
simp only[MK.cells] at hob6
try apply zs
apply bm (L:=[[],[],[1],[1,2],[1,2,3],[1,2,3,4],[1,2,3,4,5],[0],[0,7],[0,7,8],[0,7,8,9],[0,1,2,3,4,5,6,7,8,9,10]]) (act:=[11]) (hs:=[h6.set im (.aA (MK.cells { m with vn:=.slice qp (aU d) cp,vo:=.slice qv (bh d.aa).length cv,lI:=bl d,st:=(cA d:Int),cK:=(aU d:Int) }) 0 true 94)]) (resL:=[_,_,_,_,_,_,_,_,_,_,_,_]) (frF:=[])
case hm=>exact mixed
case hc=>kernel_rfl
case ha=>rfl
case hb=>rfl
case hS=>
 refine Gc hx6 hob6 ?_
 apply ay.cons
 ·rfl
 ·refine⟨?_,trivial⟩
  exact One.jP (r:=.sl .dH) (cells':=MK.cells { m with vn:=.slice qp (aU d) cp,vo:=.slice qv (bh d.aa).length cv,lI:=bl d,st:=(cA d:Int),cK:=(aU d:Int) }) ak rfl ak ak hob6 ak rfl rfl rfl
 ·rfl
 exact ay.nil _
case ht=>rfl
case hF=>exact zh
refine⟨_,ak,rfl,.slice qp (aU d) cp,.slice qv (bh d.aa).length cv,nm,hb,⟨?_,hpA.trans hpB,hnK,hne⟩⟩
rw[← hS,hL,← hGL,hL4]
exact N7}
end
def qE (a b:ah):Prop:=∀ (j:Nat) (cs:List Value) (v:Nat) (w:Bool) (t:TypeId),a[j]? = some (.aA cs v w t)→b[j]? = some (.aA cs v w t)
section
variable {a b c h0 hk h1 x:ah}
theorem qE.refl:qE a a:=fun _ _ _ _ _ k=>k
theorem qE.trans (k1:qE a b) (k2:qE b c):qE a c:=fun j cs v w t e=>k2 j cs v w t (k1 j cs v w t e)
theorem qE.pre (k:a <+: b):qE a b:=fun j cs v w t e=>ag k e
theorem qE.wI {it:Nat} {es:List (Value×Value)} {X:av} (k:qE a b) (hm:b[it]? = some (.map es)):qE a (b.set it X):=fun j cs v w t e=>by
 have e1:=k j cs v w t e
 by_cases h:it=j
 ·subst h
  rw[hm] at e1
  cases e1
 ·rw[aD h]
  exact e1
theorem Af {it:Nat} {es:List (Value×Value)} {X:av} (hm:hk[it]? = some (.map es)) (hp:hk.set it X <+: x):qE hk x:=(qE.refl.wI hm).trans (.pre hp)
theorem bT.zm {v:Value} {n w:Nat} {cells:List Value} {et:TypeId} (hs:bT a v n cells et w) (k:qE a b):bT b v n cells et w:=by{
refine⟨hs.1,?_⟩
rcases hs.2 with h1|⟨id,ar,own,c,e,h2⟩
·exact .inl h1
·exact .inr ⟨id,ar,own,c,e,k _ _ _ _ _ h2⟩}
theorem fO.zm {v:Value} {l:List gO} (hr:fO a v l) (k:qE a b):fO b v l:=by
 obtain⟨us,hl,hs,hu⟩:=hr
 exact⟨us,hl,hs.zm k,fun i r u h1 h2=>(hu i r u h1 h2).zm k⟩
theorem bj.zm {v:Value} {l:List ByteArray} (hr:bj a v l) (k:qE a b):bj b v l:=bT.zm hr k
theorem aL.zm {v:Value} {n:Nat} {cells:List Value} {et:TypeId} (G:aL h0 a v n cells et) (k:qE a b):aL h0 b v n cells et:=by{
rcases G with G|⟨id,ar,h1,h2,h3⟩
·exact .inl G
·exact .inr ⟨id,ar,h1,h2,k _ _ _ _ _ h3⟩}
theorem pR {n:Nat}:dv n (.tuple #[]):=.En fun i v h=>by simp at h
theorem GW {f:FuncId} {args:List Value} {h:ah} {i:Nat} {es:List (Value×Value)} (hi:i<h.length) (hs:∀ p∈es,dv h.length p.2) (hh:FW env f args h fun r h'=>r = .tuple #[]∧h.set i (.map es) <+: h'):FW env f args h fun r h'=>r = .tuple #[]∧h'=h.set i (.map es):=by{
refine FW.OG (hh.mono ?_)
rintro r h' ⟨rfl,g,rfl⟩
refine⟨h.set i (.map es),g,rfl,pR,by rw[List.length_set];exact Nat.le_refl _,fun j o hj=>?_,rfl,rfl⟩
by_cases e:i=j
·subst e
 rw[List.getElem?_set_self hi] at hj
 cases hj
 refine .inr fun p hp=>?_
 rw[List.length_set]
 exact hs p hp
·rw[List.getElem?_set_ne e] at hj
 exact .inl hj}
theorem Ky {n:Nat} {es:List (aR×Int)}:∀ p∈bE es,dv n p.2:=by{
intro p hp
unfold bE at hp
rw[List.mem_map] at hp
obtain⟨q,_,rfl⟩:=hp
exact .be rfl}
theorem oG (k:Value):∀ es,gQ es k=(la es k).map (·.2)
 | []=>rfl
 | (a,u) :: r=>by
   unfold gQ la
   split
   ·rfl
   ·rw[oG k r,Option.map_map]
    rfl
theorem yk (k v:Value) (hk:pX k k=true):∀ es,la es k=none→gQ (es++[(k,v)]) k=some v
 | [],_=>by unfold gQ;simp [hk]
 | (a,u) :: r,h=>by
   unfold la at h
   by_cases q:pX k a=true
   ·rw[if_pos q] at h
    cases h
   ·rw[if_neg q] at h
    rw[List.cons_append]
    unfold gQ
    rw[if_neg q]
    exact yk k v hk r (by simpa using h)
theorem HL (x:aR) (l:List (aR×Int)):∃ (n:Int) (j:Nat) (es':List (Value×Value)) (u:Value),oJ (bE l) x.val (i64 0)=(i64 n,j,es')∧es'[j]? = some (x.val,u)∧es'.set j (x.val,i64 (IntKind.i64.wrap (n+1)))=bE (qM l x)∧(gQ (bE l) x.val=some (i64 n)∨(gQ (bE l) x.val=none∧n=0))∧gQ es' x.val=some (i64 n)∧eG (yX lA) es'=true:=by{
rcases Bg x l with ⟨n,j,h1,h2,h3⟩ | ⟨h1,h2⟩
·have e:gQ (bE l) x.val=some (i64 n):=by rw[oG,h1];rfl
 exact⟨n,j,bE l,i64 n,by unfold oJ;rw[h1],h2,h3,.inl e,e,xr l⟩
·refine⟨0,(bE l).length,bE l++[(x.val,i64 0)],i64 0,by unfold oJ;rw[h1],by simp,by rw[h2];simp,.inr ⟨by rw[oG,h1];rfl,rfl⟩,?_⟩
 refine⟨yk _ _ (by rw[Cj];exact decide_eq_true rfl) _ h1,?_⟩
 have:=xr l
 unfold eG at this ⊢
 rw[List.all_append,this]
 rfl}
end
section
variable {h:ah}
theorem CJ {a b:CE} {at_ last:Nat}:FW env 143 [a.place,b.place,i64 at_,i64 last] h fun r h'=>r = .bool (barredB a b at_ last)∧h'=h:=by{
refine fe Tryz.func143 ?_;simp only[push_cast]
by_cases q:a.A8=b.A8
·have d1:decide ((a.A8:Int)=(b.A8:Int))=true:=decide_eq_true om
 refine aG d1 ?_
 refine af rfl ?_
 refine aC ?_
 refine ai ?_
 refine⟨_,ak,?_,rfl⟩
 unfold barredB
 rw[if_pos q]
 have e1:decide ((at_:Int)=(last:Int))=decide (at_=last):=decide_eq_decide.2 om
 have e2:decide ((at_:Int)=0)=decide (at_=0):=decide_eq_decide.2 om
 rw[← e1,← e2]
 cases decide (a.assoc=1)<;>cases decide (a.assoc=3)<;>cases decide (a.assoc=2)<;>cases decide ((at_:Int)=(last:Int))<;>cases decide ((at_:Int)=0)<;>rfl
·have d1:decide ((a.A8:Int)=(b.A8:Int))=false:=decide_eq_false om
 refine aG d1 ?_
 refine ae rfl ?_
 refine aC ?_
 refine ai ?_
 refine⟨_,ak,?_,rfl⟩
 unfold barredB
 rw[if_neg q]
 have e1:decide ((a.A8:Int)<(b.A8:Int))=decide (a.A8<b.A8):=decide_eq_decide.2 om
 rw[← e1]
 rfl}
end
structure KD (h0 hk:ah) (im:Nat) (m:MK) (d:bM) (os:List gO) (nm:List ByteArray):Prop where
 p:h0 <+: hk
 a:h0.length≤im
 o:hk[im]? = some (.aA m.cells 0 true 94)
 D:bH h0 d m.vP m.vC m.OE m.OO m.vB
 s1:m.start=d.start
 s2:m.layout=d.layout
 f:fO hk m.vf os
 n:bj hk m.vn nm
 vr:∃ p n c,m.vr = .slice p n c
 vb:∃ p n c,m.vb = .slice p n c
 vF:∃ p n c,m.vF = .slice p n c
 vR:∃ p n c,m.vR = .slice p n c
section
variable {h0 hk h1 x:ah} {im it:Nat} {m:MK} {d:bM} {os:List gO} {nm:List ByteArray} {es:List (aR×Int)}
theorem KD.zm (K:KD h0 hk im m d os nm) (hp:h0 <+: x) (k:qE hk x):KD h0 x im m d os nm:=
 ⟨hp,K.a,k _ _ _ _ _ K.o,K.D,K.s1,K.s2,K.f.zm k,K.n.zm k,K.vr,K.vb,K.vF,K.vR⟩
theorem KD.Ob (K:KD h0 hk im m d os nm):l7 hk (.agg #[.string m.start,.string m.layout,m.vP,m.vC,m.OE,m.OO,m.vB,i64 m.cK,i64 m.st,m.vr,m.vf,m.vn,m.vb,m.vF,m.vR]) os nm:=by{
obtain⟨p1,c1,e1⟩:=cV.form K.D.aa
obtain⟨p2,c2,e2⟩:=cV.form K.D.au
obtain⟨p3,c3,e3⟩:=bT.form K.D.follows
obtain⟨p4,c4,e4⟩:=bT.form K.D.al
obtain⟨p5,c5,e5⟩:=cV.form K.D.boxes
obtain⟨p6,n6,c6,e6⟩:=K.vr
obtain⟨p7,n7,c7,e7⟩:=K.vb
obtain⟨p8,n8,c8,e8⟩:=K.vF
obtain⟨p9,n9,c9,e9⟩:=K.vR
exact⟨m.start,m.layout,p1,p2,p3,p4,p5,p6,p7,p8,p9,_,_,_,_,_,n6,n7,n8,n9,c1,c2,c3,c4,c5,c6,c7,c8,c9,m.cK,m.st,m.vf,m.vn,by rw[e1,e2,e3,e4,e5,e6,e7,e8,e9],K.f,K.n⟩}
structure BI (hk h1:ah) (it:Nat) (es:List (aR×Int)) (x:ah) (L:List aR):Prop where
 p:hk.set it (.map (bE (eW es L))) <+: x
 k:qE h1 x
theorem BI.at {L:List aR} (B:BI hk h1 it es x L) (hi:it<hk.length):x[it]? = some (.map (bE (eW es L))):=ag B.p (List.getElem?_set_self hi)
theorem BI.pre {y:ah} {L:List aR} (B:BI hk h1 it es x L) (hp:x <+: y):BI hk h1 it es y L:=⟨B.p.trans hp,B.k.trans (.pre hp)⟩
theorem BI.add {L:List aR} (B:BI hk h1 it es x L) (hi:it<hk.length) (b:aR):BI hk h1 it es (x.set it (.map (bE (qM (eW es L) b)))) (L++[b]):=by{
refine⟨?_,B.k.wI (B.at hi)⟩
rw[pb]
exact lC B.p hi}
theorem BI.kd {L:List aR} (B:BI hk h1 it es x L) (K:KD h0 hk im m d os nm) (hm:hk[it]? = some (.map (bE es))) (hl:h0.length≤it):KD h0 x im m d os nm:=
 K.zm ((a8 K.p hl).trans B.p) (Af hm B.p)
theorem sr {p:Nat}:(eS os p).length≤os.length:=by
 unfold eS
 exact Nat.le_trans (List.length_filter_le _ _) (by simp)
theorem mf {p r:Nat} (h:r∈eS os p):r<os.length:=by{
unfold eS at h
have:=List.mem_range.1 (List.mem_filter.1 h).1
exact this}
theorem sk {p k:Nat} (hk:k<(eS os p).length):((dQ os (p:Int) os.length).map i64)[k]? = some (i64 ((eS os p)[k]:Int)):=by
 rw[yD,List.getElem?_map,List.getElem?_map,List.getElem?_eq_getElem hk]
 rfl
theorem pO {p:Nat}:(dQ os (p:Int) os.length).length=(eS os p).length:=by rw[yD,List.length_map]
theorem Nc (K:KD h0 hk im m d os nm) (hm:hk[it]? = some (.map (bE es))) (hl:h0.length≤it) (p at_ q:Nat) (hos:os.length≤4096) : FW env 144 [.pointer (some ⟨im,0,some 0⟩),i64 p,i64 at_,i64 q,.map (some it)] hk fun r h'=>r = .tuple #[]∧h'=hk.set it (.map (bE (eW es (ue os p at_ q)))):=by{
have hi:it<hk.length:=(List.getElem?_eq_some_iff.1 hm).1
refine GW hi Ky ?_
have hob:=K.o
have hR:=uY (p:=(p:Int)) K.Ob hos
rw[pO] at hR
obtain⟨pf,cf,hvf⟩:=K.f.form
simp only[MK.cells] at hob
refine fe Tryz.func144 ?_;simp only[push_cast]
refine aG hob ?_
refine zj Tryz.func22 ?_
refine hR.mono ?_
rintro _ h1 ⟨hp1,G1⟩
obtain⟨q1,c1,rfl⟩:=G1.form
have hRl:=sr (os:=os) (p:=p)
have B0:BI hk h1 it es h1 []:=by
 refine⟨?_,qE.refl⟩
 have:hk.set it (.map (bE (eW es [])))=hk:=by
  refine List.ext_getElem? fun j=>?_
  by_cases e:it=j
  ·subst e;rw[List.getElem?_set_self hi,hm];rfl
  ·rw[List.getElem?_set_ne e]
 rw[this]
 exact hp1
obtain⟨R,hRR⟩:∃ R,R=eS os p:=⟨_,rfl⟩
have hRg:∀ {k:Nat} (hk:k<R.length),((dQ os (p:Int) os.length).map i64)[k]? = some (i64 (R[k]:Int)):=by subst hRR;exact sk
have hRm:∀ r∈R,r<os.length:=by subst hRR;exact fun r hr=>mf hr
unfold ue
rw[← hRR] at G1 hRl ⊢
clear hR hRR
refine aC ?_
refine CW.mono (Q:=fun e s'=>e = .exit 0∧BI hk h1 it es s'.h (R.flatMap (oT os at_ q))) ?_ ?_
·refine aZ R.length (fun k (x:ah)=>[(0,.val (.pointer (some ⟨im,0,some 0⟩))),(2,.val (i64 at_)),(3,.val (i64 q)),(4,.val (.map (some it))),(21,.val (.slice q1 R.length c1)),(22,.val (i64 R.length)),(23,.val (i64 k))]) (fun _ x=>x) (fun k x=>BI hk h1 it es x ((R.take k).flatMap (oT os at_ q))) h1 aK rfl B0 ?_
 rintro k x hkn B
 by_cases hlt:k<R.length
 ·have GK:=G1.zm B.k
  obtain⟨id,ar,own,c',hv,hid⟩:=(GK.sl (b:=8) om).at om
  cases hv
  have hrg:=hRg hlt
  have hrm:=hRm _ (List.getElem_mem hlt)
  have KX:=B.kd K hm hl
  have hobx:=KX.o
  have hfx:=K.f
  rw[hvf] at hfx
  obtain⟨id2,ver2,own2,c2,cells,ps,ns,cs,hv2,hid2,hn2,hrd,hu⟩:=hfx.at hrm
  cases hv2
  have hid2:=Af hm B.p _ _ _ _ _ hid2
  have hr3:=eK (j:=3) hrd om
  simp only[List.getElem?_cons_succ,List.getElem?_cons_zero] at hr3
  have htk:(R.take (k+1)).flatMap (oT os at_ q)=(R.take k).flatMap (oT os at_ q)++oT os at_ q R[k]:=by
   rw[List.take_succ_eq_append_getElem hlt,List.flatMap_append,List.flatMap_singleton]
  have hbr:oT os at_ q R[k]=(List.range os[R[k]].aj.length).flatMap (qL os R[k] os[R[k]] at_ q):=by
   unfold oT
   rw[List.getElem?_eq_getElem hrm]
  have w1:=cg hlt
  have w2:=inc hlt om
  have w3:=cg hrm
  have q3:=aS hlt
  have hnn:=hn2
  generalize hr:R[k]=r at *
  have hul:=hu.1
  refine aG q3 ?_
  refine ae rfl ?_
  refine HU w1 hid Nat.mul_one hrg hobx hvf w3 hid2 hr3 ?_
  subst hn2
  refine aZ os[r].aj.length (fun j (y:ah)=>[(0,.val (.pointer (some ⟨im,0,some 0⟩))),(2,.val (i64 at_)),(3,.val (i64 q)),(4,.val (.map (some it))),(11,.val (i64 r)),(21,.val (.slice (some ⟨id,0,some ar⟩) R.length c1)),(22,.val (i64 R.length)),(23,.val (i64 k)),(35,.val (.slice ps os[r].aj.length cs)),(36,.val (i64 os[r].aj.length)),(37,.val (i64 j))]) (fun _ y=>y) (fun j y=>BI hk h1 it es y ((R.take k).flatMap (oT os at_ q)++(List.range j).flatMap (qL os r os[r] at_ q))) x aK rfl (by rw[List.range_zero,List.flatMap_nil,List.append_nil];exact B) ?_
  clear hid hobx hid2 hfx KX GK
  rintro j y hjn C
  by_cases hjl:j<os[r].aj.length
  ·have hrs:(List.range (j+1)).flatMap (qL os r os[r] at_ q)=(List.range j).flatMap (qL os r os[r] at_ q)++qL os r os[r] at_ q j:=by
    rw[List.range_succ,List.flatMap_append,List.flatMap_singleton]
   obtain⟨id3,ver3,own3,c3,hv3,hid3⟩:=bT.at (bT.zm hu (Af hm C.p)) om
   cases hv3
   have hsg:(os[r].aj.map i64)[j]? = some (i64 os[r].aj[j]):=by rw[List.getElem?_map,List.getElem?_eq_getElem hjl];rfl
   have v1:=cg hjl
   have v2:=inc hjl om
   have v3:=aS hjl
   have hbp:qL os r os[r] at_ q j=if os[r].aj[j]=(at_:Int) then (eS os q).map fun kid=>⟨r,j,kid⟩ else []:=by
    unfold qL
    rw[List.getElem?_eq_getElem hjl]
    simp only[Option.some.injEq]
   refine aG v3 ?_
   refine ae rfl ?_
   by_cases qq:os[r].aj[j]=(at_:Int)
   ·have d1:=decide_eq_true qq
    rw[if_pos qq] at hbp
    have KY:=C.kd K hm hl
    have hoby:=KY.o
    have hR:=uY (p:=(q:Int)) KY.Ob hos
    rw[pO] at hR
    simp only[MK.cells] at hoby
    refine kL v1 hid3 Nat.mul_one hsg d1 ?_
    refine af rfl ?_
    refine aG hoby ?_
    refine zj Tryz.func22 ?_
    refine hR.mono ?_
    rintro _ y1 ⟨hpy,G2⟩
    obtain⟨q2,c2,rfl⟩:=G2.form
    have hR2l:=sr (os:=os) (p:=q)
    obtain⟨R2,hRR2⟩:∃ R2,R2=eS os q:=⟨_,rfl⟩
    have hRg2:∀ {l:Nat} (hk:l<R2.length),((dQ os (q:Int) os.length).map i64)[l]? = some (i64 (R2[l]:Int)):=by subst hRR2;exact sk
    rw[← hRR2] at G2 hR2l hbp ⊢
    clear hR hRR2
    have C1:=C.pre hpy
    obtain⟨LL,hLL⟩:∃ LL,LL=(R.take k).flatMap (oT os at_ q)++(List.range j).flatMap (qL os r os[r] at_ q):=⟨_,rfl⟩
    rw[← hLL] at C1 C
    rw[hbp] at hrs
    refine aC ?_
    refine aZ R2.length (fun l (z:ah)=>[(0,.val (.pointer (some ⟨im,0,some 0⟩))),(2,.val (i64 at_)),(3,.val (i64 q)),(4,.val (.map (some it))),(11,.val (i64 r)),(12,.val (i64 j)),(21,.val (.slice (some ⟨id,0,some ar⟩) R.length c1)),(22,.val (i64 R.length)),(23,.val (i64 k)),(35,.val (.slice (some ⟨id3,0,some ver3⟩) os[r].aj.length cs)),(36,.val (i64 os[r].aj.length)),(37,.val (i64 j)),(50,.val (.slice q2 R2.length c2)),(51,.val (i64 R2.length)),(52,.val (i64 l))]) (fun _ z=>z) (fun l z=>BI hk h1 it es z (LL++(R2.take l).map fun kid=>⟨r,j,kid⟩)∧qE y1 z) y1 aK rfl (by rw[List.take_zero,List.map_nil,List.append_nil];exact⟨C1,qE.refl⟩) ?_
    clear hid3 hoby KY C1 C
    rintro l z hln ⟨D,kz⟩
    by_cases hll:l<R2.length
    ·obtain⟨id4,ver4,own4,c4,hv4,hid4⟩:=((G2.zm kz).sl (b:=8) om).at om
     cases hv4
     have hrg4:=hRg2 hll
     have u1:=cg hll
     have u2:=inc hll om
     have u3:=aS hll
     have htk2:(R2.take (l+1)).map (fun kid=>(⟨r,j,kid⟩:aR))=(R2.take l).map (fun kid=>⟨r,j,kid⟩)++[⟨r,j,R2[l]⟩]:=by
      rw[List.take_succ_eq_append_getElem hll,List.map_append]
      rfl
     have Dm:=D.at hi
     have D2:=D.add hi ⟨r,j,R2[l]⟩
     have kz2:qE y1 (z.set it (.map (bE (qM (eW es (LL++(R2.take l).map fun kid=>⟨r,j,kid⟩)) ⟨r,j,R2[l]⟩)))):=kz.wI Dm
     rw[List.append_assoc,← htk2] at D2
     generalize eW es (LL++(R2.take l).map fun kid=>⟨r,j,kid⟩)=F at Dm D2 kz2
     obtain⟨n,jj,es',u,hme,hjj,hse,hg0,hg1,hk1⟩:=HL ⟨r,j,R2[l]⟩ F
     rw[← hse] at D2 kz2
     have hk0:=xr F
     have hm1:(z.set it (.map es'))[it]? = some (.map es'):=aw Dm
     have hkd:=wT ⟨r,j,R2[l]⟩
     have hz0:zeroOf env.P 3=some (i64 0):=by kernel_rfl
     obtain⟨c,hc⟩:∃ c,c=IntKind.i64.wrap (n+1):=⟨_,rfl⟩
     rw[← hc] at D2 kz2
     have hst:(z.set it (.map es')).set it (.map (es'.set jj ((⟨r,j,R2[l]⟩:aR).val,i64 c)))=z.set it (.map (es'.set jj ((⟨r,j,R2[l]⟩:aR).val,i64 c))):=List.set_set ..
     generalize R2[l]=kid at *
     have hkk0:=hk0
     have hkk1:=hk1
     unfold lA at hkd hkk0 hkk1
     refine aG u3 ?_
     refine ae rfl ?_
     refine fi u1 hid4 Nat.mul_one hrg4 ?_
     refine aB [(0,.val (.pointer (some ⟨im,0,some 0⟩))),(2,.val (i64 at_)),(3,.val (i64 q)),(4,.val (.map (some it))),(11,.val (i64 r)),(12,.val (i64 j)),(15,.val (i64 kid)),(21,.val (.slice (some ⟨id,0,some ar⟩) R.length c1)),(22,.val (i64 R.length)),(23,.val (i64 k)),(35,.val (.slice (some ⟨id3,0,some ver3⟩) os[r].aj.length cs)),(36,.val (i64 os[r].aj.length)),(37,.val (i64 j)),(50,.val (.slice (some ⟨id4,0,some ver4⟩) R2.length c2)),(51,.val (i64 R2.length)),(52,.val (i64 l))] aK ?_
     show CW _ _ ⟨_,[],z⟩ _
     try apply zs
     apply bm (L:=[[],[],[],[],[1,2,3],[0,1,2,3,4],[0,1,2,3,4,5],[0,1,2,3,4],[0,1,2,3,4,7],[0,1,2,3,4,5,6,7,8]]) (act:=[7,9]) (hs:=[z.set it (.map es'),(z.set it (.map es')).set it (.map (es'.set jj ((⟨r,j,kid⟩:aR).val,i64 c)))]) (resL:=[_,_,_,_,_,_,_,_,_,_]) (frF:=[(0,.val (.pointer (some ⟨im,0,some 0⟩))),(2,.val (i64 at_)),(3,.val (i64 q)),(4,.val (.map (some it))),(11,.val (i64 r)),(12,.val (i64 j)),(21,.val (.slice (some ⟨id,0,some ar⟩) R.length c1)),(22,.val (i64 R.length)),(23,.val (i64 k)),(35,.val (.slice (some ⟨id3,0,some ver3⟩) os[r].aj.length cs)),(36,.val (i64 os[r].aj.length)),(37,.val (i64 j)),(50,.val (.slice (some ⟨id4,0,some ver4⟩) R2.length c2)),(51,.val (i64 R2.length)),(52,.val (i64 l))])
     case hm=>exact mixed
     case hc=>kernel_rfl
     case ha=>rfl
     case hb=>rfl
     case hS=>
      rcases hg0 with hg0|⟨hg0,rfl⟩
      ·have hc':=hc.symm
       refine K7 Dm hm1 hg0 hg1 hkk0 hkk1 hkd hc' ?_
       apply ay.cons
       ·rfl
       ·refine⟨?_,trivial⟩
        exact One.yG (kt:=70) (et:=3) (kd:=yX lA) (z:=i64 0) ak rfl kr rfl hz0 ak Dm ak (wT _) hk0 hme
       ·rfl
       refine K7 Dm hm1 hg0 hg1 hkk0 hkk1 hkd hc' ?_
       apply ay.cons
       ·rfl
       ·refine⟨?_,trivial⟩
        exact One.OQ (r:=.sl .dH) ak rfl ak hm1 ak ak hjj rfl
       ·rfl
       exact ay.nil _
      ·obtain rfl:c=1:=by rw[hc];decide
       have hw5:IntKind.i64.wrap 1=1:=by decide
       refine VB Dm hm1 hg0 hg1 hkk0 hkk1 hkd hw5 Int.zero_add ?_
       apply ay.cons
       ·rfl
       ·refine⟨?_,trivial⟩
        exact One.yG (kt:=70) (et:=3) (kd:=yX lA) (z:=i64 0) ak rfl kr rfl hz0 ak Dm ak (wT _) hk0 hme
       ·rfl
       refine VB Dm hm1 hg0 hg1 hkk0 hkk1 hkd hw5 Int.zero_add ?_
       apply ay.cons
       ·rfl
       ·refine⟨?_,trivial⟩
        exact One.OQ (r:=.sl .dH) ak rfl ak hm1 ak ak hjj rfl
       ·rfl
       exact ay.nil _
     case ht=>rfl
     case hF=>exact zh
     rw[hst]
     show CW _ _ ⟨_,[],z.set it (.map (es'.set jj ((⟨r,j,kid⟩:aR).val,i64 c)))⟩ _
     generalize z.set it (.map (es'.set jj ((⟨r,j,kid⟩:aR).val,i64 c)))=z2 at D2 kz2 ⊢
     refine aG u2 ?_
     refine⟨hll,z2,aK,rfl,D2,kz2⟩
    ·have u3:=aP hll
     obtain rfl:l=R2.length:=by omega
     rw[List.take_length,hLL,List.append_assoc,← hrs] at D
     refine aG u3 ?_
     refine af rfl ?_
     refine az ?_
     show CW _ _ _ _
     refine aG v2 ?_
     refine⟨hjl,z,aK,rfl,D⟩
   ·have d1:=decide_eq_false qq
    rw[if_neg qq] at hbp
    rw[hbp,List.append_nil] at hrs
    refine kL v1 hid3 Nat.mul_one hsg d1 ?_
    refine ae rfl ?_
    refine az ?_
    show CW _ _ _ _
    refine aG v2 ?_
    refine⟨hjl,y,aK,rfl,?_⟩
    simp only
    rw[hrs]
    exact C
  ·have v3:=aP hjl
   obtain rfl:j=os[r].aj.length:=by omega
   rw[← hbr,← htk] at C
   refine aG v3 ?_
   refine af rfl ?_
   refine az ?_
   show CW _ _ _ _
   refine aG w2 ?_
   refine⟨hlt,y,aK,rfl,C⟩
 ·have q3:=aP hlt
  obtain rfl:k=R.length:=by omega
  rw[List.take_length] at B
  refine aG q3 ?_
  refine af rfl ?_
  refine az ?_
  exact⟨rfl,B⟩
rintro e s' ⟨rfl,B⟩
refine⟨_,ak,rfl,B.p⟩}
end
section
variable {h0 hk h1 x hA:ah} {im it ip:Nat} {m:MK} {d:bM} {os:List gO} {nm:List ByteArray} {es:List (aR×Int)} {l:List dK}
def fb (E:List CE):List Int:=E.map fun e=>(e.at_:Int)
theorem x9 {E:List CE}:(fb E).length=E.length:=List.length_map ..
theorem EC {E:List CE} {e:CE}:fb (E++[e])=fb E++[(e.at_:Int)]:=by unfold fb;rw[List.map_append];rfl
structure Jb (hA:ah) (ip:Nat) (x:ah×Value) (E:List CE):Prop where
 p:hA.set ip (.map (zM E)) <+: x.1
 g:aL hA x.1 x.2 (fb E).length ((fb E).map i64) 3
theorem Jb.at {x:ah×Value} {E:List CE} (P:Jb hA ip x E) (hi:ip<hA.length):x.1[ip]? = some (.map (zM E)):=ag P.p (List.getElem?_set_self hi)
theorem Jb.len {x:ah×Value} {E:List CE} (P:Jb hA ip x E):hA.length≤x.1.length:=by{
have:=P.p.length_le
rw[List.length_set] at this
exact this}
theorem F6 {g:Nat} {y:dK} {ps:List Prod}:(ka ps g y).length=y.cons.length:=by unfold ka;rw[List.length_map]
theorem ux {h:ah} {i:Nat} {o:av} (hm:h[i]? = some o):h.set i o=h:=by{
refine List.ext_getElem? fun j=>?_
by_cases e:i=j
·subst e;rw[List.getElem?_set_self (List.getElem?_eq_some_iff.1 hm).1,hm]
·rw[List.getElem?_set_ne e]}
theorem BI.UN {L B:List aR} (I:BI hk h1 it es x L) (hi:it<hk.length):BI hk h1 it es (x.set it (.map (bE (eW (eW es L) B)))) (L++B):=by{
refine⟨?_,I.k.wI (I.at hi)⟩
rw[pb]
exact lC I.p hi}
theorem BI.other {L:List aR} {o:av} (I:BI hk h1 it es x L) (hne:it≠ip) (h:hk[ip]? = some o):x[ip]? = some o:=ag I.p (by rw[aD hne];exact h)
theorem Ey {α β:Type} {f:α×Nat→List β} {l:List α} {k:Nat} (hk:k<l.length):((l.take (k+1)).zipIdx).flatMap f=((l.take k).zipIdx).flatMap f++f (l[k],k):=by{
rw[List.take_succ_eq_append_getElem hk,List.zipIdx_append,List.flatMap_append]
simp only[List.length_take,List.zipIdx_cons,List.zipIdx_nil,List.flatMap_cons,List.flatMap_nil,List.append_nil,Nat.zero_add]
rw[Nat.min_eq_left om]}
theorem Jz {v:Value} (K:KD h0 hk im m d os nm) (hm:hk[it]? = some (.map (bE es))) (hl:h0.length≤it) (hv:eL h0 v l) (hok:gU d.aa (dB l)) (hos:os.length≤4096) (hcl:(dB l).length≤1000) (hll:l.length≤1000) (hsy:∀ p∈d.aa,p.aj.length≤1000) : FW env 102 [.pointer (some ⟨im,0,some 0⟩),v,.map (some it)] hk fun r h'=>r = .tuple #[]∧h'=hk.set it (.map (bE (eW es (gN d os l)))):=by{
have hi:it<hk.length:=(List.getElem?_eq_some_iff.1 hm).1
refine GW hi Ky ?_
have hv0:=hv
obtain⟨pv,cv,rfl⟩:=cV.form hv
obtain⟨pP,cP,hvP⟩:=cV.form K.D.aa
have hel:∀ k,(ru d.aa (l.take k)).length≤(dB l).length:=fun k=>by
 rw[wO]
 unfold dB
 conv=>rhs;rw[← List.take_append_drop k l,List.flatMap_append,List.length_append]
 exact Nat.le_add_right _ _
refine fe Tryz.func102 ?_;simp only[push_cast]
refine zu ?_
refine kP (kt:=3) (et:=203) ak rfl kr ?_
dsimp only[St.a9,St.put]
have hpA:hk <+: hk++[av.map []]:=aH
have hmA:(hk++[av.map []])[hk.length]? = some (.map (zM [])):=aJ
have hiA:hk.length<(hk++[av.map []]).length:=by simp
have PI0:Jb (hk++[av.map []]) hk.length (hk++[av.map []],bX) []:=⟨by
 have:(hk++[av.map []]).set hk.length (.map (zM []))=hk++[av.map []]:=by simp [zM]
 rw[this]
 exact List.prefix_refl _,aL.nil⟩
generalize (hk++[av.map []])=hA at hpA hmA hiA PI0 ⊢
have hil:it≠hk.length:=by omega
have hpk0:∀ {X:av},hk <+: hA.set hk.length X:=fun {X}=>a8 hpA (Nat.le_refl _)
have hi0:=hi
generalize hk.length=ip at hmA hiA PI0 hil hi hpk0 ⊢
refine aC ?_
refine CW.mono (Q:=fun e s'=>e = .exit 0∧∃ x:ah×Value,Jb hA ip x (ru d.aa l)∧s'.h=x.1∧bA [(0,.val (.pointer (some ⟨im,0,some 0⟩))),(2,.val (.map (some it))),(6,.val (.map (some ip))),(7,.val x.2)] s'.fr) ?_ ?_
·refine aZ l.length (fun k (x:ah×Value)=>[(0,.val (.pointer (some ⟨im,0,some 0⟩))),(2,.val (.map (some it))),(6,.val (.map (some ip))),(7,.val x.2),(22,.val (.slice pv l.length cv)),(23,.val (i64 l.length)),(24,.val (i64 k))]) (fun _ x=>x.1) (fun k x=>Jb hA ip x (ru d.aa (l.take k))) (hA,bX) aK rfl (by rw[List.take_zero];exact PI0) ?_
 rintro k x hkn I
 by_cases hlt:k<l.length
 ·have hpx:hk <+: x.1:=hpk0.trans I.p
  have hp0:h0 <+: x.1:=K.p.trans hpx
  obtain⟨id,ar,own,c',cells,u,hv2,hid0,hrd,hu⟩:=cV.at (k:=2) (fun _ _=>rfl) hv0 hlt
  cases hv2
  have hid:=ag hp0 hid0
  have hu:bj h0 u l[k].cons:=hu
  obtain⟨pc,cc,rfl⟩:=hu.form
  have hule:=hu.le
  have w1:=cg hlt
  have w2:=inc hlt om
  have q3:=aS hlt
  have htk:=EQ (ps:=d.aa) hlt
  have hmemc:∀ c∈l[k].cons,kw d.aa c:=fun c hc=>hok.1 c (List.mem_flatMap.2 ⟨_,List.getElem_mem hlt,hc⟩)
  have hnd:((ru d.aa (l.take (k+1))).map CE.at_).Nodup:=by
   refine pD ?_
   have e:dB l=dB (l.take (k+1))++dB (l.drop (k+1)):=by
    unfold dB
    rw[← List.flatMap_append,List.take_append_drop]
   rw[e] at hok
   exact hok.pre
  have hel2:=hel (k+1)
  obtain⟨gr,hgr⟩:∃ gr,gr=l[k]:=⟨_,rfl⟩
  rw[← hgr] at hrd hu hule htk hmemc
  clear hgr
  rw[htk] at hnd hel2
  generalize ru d.aa (l.take k)=E at I htk hnd hel2
  rw[List.map_append] at hnd
  have hnd2:=(List.nodup_append.1 hnd)
  refine aG q3 ?_
  refine ae rfl ?_
  refine gV w1 hid hrd ?_
  refine aZ gr.cons.length (fun j (x:ah×Value)=>[(0,.val (.pointer (some ⟨im,0,some 0⟩))),(2,.val (.map (some it))),(6,.val (.map (some ip))),(7,.val x.2),(8,.val (i64 k)),(9,.box [i64 gr.assoc,.slice pc gr.cons.length cc]),(22,.val (.slice (some ⟨id,0,some ar⟩) l.length cv)),(23,.val (i64 l.length)),(24,.val (i64 k)),(30,.val (.slice pc gr.cons.length cc)),(31,.val (i64 gr.cons.length)),(32,.val (i64 j))]) (fun _ x=>x.1) (fun j x=>Jb hA ip x (E++ka d.aa k ⟨gr.assoc,gr.cons.take j⟩)) x aK rfl (by rw[List.take_zero];unfold ka;rw[List.map_nil,List.append_nil];exact I) ?_
  clear hid hpx hp0 I x
  rintro j ⟨hc,vp⟩ hjn I
  have hpx:hk <+: hc:=hpk0.trans I.p
  have hp0:h0 <+: hc:=K.p.trans hpx
  by_cases hjl:j<gr.cons.length
  ·obtain⟨id2,ver2,own2,c2,cells2,hv3,hid2,hcg⟩:=(hu.mono hp0).at hjl
   cases hv3
   have v1:=cg hjl
   have v2:=inc hjl hule
   have v3:=aS hjl
   have hcm:=hmemc _ (List.getElem_mem hjl)
   have htk2:ka d.aa k ⟨gr.assoc,gr.cons.take (j+1)⟩=ka d.aa k ⟨gr.assoc,gr.cons.take j⟩++[⟨kV d.aa gr.cons[j],k,gr.assoc⟩]:=by
    unfold ka
    simp only
    rw[List.take_succ_eq_append_getElem hjl,List.map_append]
    rfl
   have hlE:(E++ka d.aa k ⟨gr.assoc,gr.cons.take j⟩).length≤1000:=by
    rw[List.length_append,F6] at *
    simp only[List.length_take]
    omega
   have hnew:kV d.aa gr.cons[j]∉(E++ka d.aa k ⟨gr.assoc,gr.cons.take j⟩).map CE.at_:=by
    have e1:E.map CE.at_++(ka d.aa k gr).map CE.at_=(E++ka d.aa k ⟨gr.assoc,gr.cons.take (j+1)⟩).map CE.at_++(ka d.aa k ⟨gr.assoc,gr.cons.drop (j+1)⟩).map CE.at_:=by
     rw[List.map_append,List.append_assoc]
     congr 1
     unfold ka
     simp only
     rw[← List.map_append,← List.map_append,List.take_append_drop]
    rw[e1,htk2,← List.append_assoc,List.map_append] at hnd
    have h2:=(List.nodup_append.1 (List.nodup_append.1 hnd).1).2.2
    intro hmem
    exact h2 _ hmem _ (by simp) rfl
   have hcons:=rJ (name:=gr.cons[j]) (K.D.mono hp0)
   have hobx:=ag hpx K.o
   simp only[MK.cells,K.s1,K.s2] at hobx
   unfold bM.val at hcons
   generalize gr.cons[j]=cn at hcg hcm hnew hcons htk2
   obtain⟨E2,hE2⟩:∃ E2,E2=E++ka d.aa k ⟨gr.assoc,gr.cons.take j⟩:=⟨_,rfl⟩
   have htk3:E++ka d.aa k ⟨gr.assoc,gr.cons.take (j+1)⟩=E2++[⟨kV d.aa cn,k,gr.assoc⟩]:=by rw[htk2,← List.append_assoc,← hE2]
   rw[← hE2] at hnew I hlE
   have hmp:=I.at hiA
   have hkk:=yV E2
   simp only at hmp
   obtain⟨qp,cp,hvp⟩:=I.g.form
   simp only at hvp
   subst hvp
   refine aG v3 ?_
   refine ae rfl ?_
   refine kL v1 hid2 Nat.mul_one hcg hobx ?_
   refine zj Tryz.func24 ?_
   refine hcons.mono ?_
   rintro _ h2 ⟨⟨i,hci,rfl⟩,e2⟩
   obtain rfl:=e2.symm
   obtain rfl:=hci.VV hcm
   have hput:=Bm (e:=⟨kV d.aa cn,k,gr.assoc⟩) hnew
   simp only at hput
   generalize kV d.aa cn=ci at hput hnew htk3 ⊢
   have P2:=lC (y:=.map (zM (E2++[⟨ci,k,gr.assoc⟩]))) I.p hiA
   have G2:=(I.g.sf (x:=.map (zM (E2++[⟨ci,k,gr.assoc⟩]))) hiA).lu (a:=hA.set ip (.map (zM (E2++[⟨ci,k,gr.assoc⟩])))) (by rw[List.length_set];exact Nat.le_refl _)
   have hal:=x9 (E:=E2)
   simp only at P2 G2
   refine aC ?_
   refine fN (kt:=3) (et:=203) (kd:=oy) ak rfl rfl kr rfl ak hmp ak ak rfl hkk ?_
   dsimp only
   rw[hput]
   refine aC ?_
   refine xD (l:=fb E2) (b:=ci) (h:=hA.set ip (.map (zM (E2++[⟨ci,k,gr.assoc⟩])))) ak rfl ak ak G2 P2 om ?_
   intro p' c' h' k1 k2 _ _
   refine aG v2 ?_
   refine⟨hjl,(h',.slice p' ((fb E2).length+1) c'),aK,rfl,?_⟩
   show Jb hA ip _ (E++ka d.aa k ⟨gr.assoc,gr.cons.take (j+1)⟩)
   rw[htk3]
   refine⟨k2,?_⟩
   rw[EC]
   exact k1.lu (by rw[List.length_set];exact Nat.le_refl _)
  ·have v3:=aP hjl
   obtain rfl:j=gr.cons.length:=by omega
   rw[List.take_length] at I
   refine aG v3 ?_
   refine af rfl ?_
   refine az ?_
   show CW _ _ _ _
   refine aG w2 ?_
   refine⟨hlt,(hc,vp),aK,rfl,?_⟩
   simp only
   rw[htk]
   exact I
 ·have q3:=aP hlt
  obtain rfl:k=l.length:=by omega
  rw[List.take_length] at I
  refine aG q3 ?_
  refine af rfl ?_
  refine az ?_
  exact⟨rfl,x,I,rfl,aK⟩
rintro e s' ⟨rfl,⟨hB,vp⟩,I,hh,hf⟩
show CW _ _ _ _
refine aB _ hf ?_
rw[hh]
clear hf hh s'
obtain⟨qp,cp,hvp⟩:=I.g.form
simp only at I hvp ⊢
subst hvp
have hpB:hk <+: hB:=hpk0.trans I.p
have KB:=K.zm (K.p.trans hpB) (qE.pre hpB)
have hmB:=ag hpB hm
have hpm:=I.at hiA
have hgI:=I.g
simp only at hpm hgI
have hEn:=pD hok
have hElt:∀ e∈ru d.aa l,e.at_<d.aa.length:=fun e he=>wG hok he
have hEl:(ru d.aa l).length≤1000:=by rw[wO];exact hcl
have hiB:it<hB.length:=by have:=hpB.length_le;omega
refine CW.mono (Q:=fun e s'=>e = .normal∧BI hB hB it es s'.h (gN d os l)) ?_ ?_
rotate_left
·rintro e s' ⟨rfl,B⟩
 refine⟨_,ak,rfl,?_⟩
 exact (lC (x:=.map (bE es)) (by rw[ux hm];exact hpB) hi0).trans B.p
unfold gN
generalize ru d.aa l=E at I hpm hgI hEn hElt hEl ⊢
have hal:=x9 (E:=E)
have hkk:=yV E
have B0:BI hB hB it es hB []:=⟨by
 have:hB.set it (.map (bE (eW es [])))=hB:=ux hmB
 rw[this]
 exact List.prefix_refl _,qE.refl⟩
clear I hpk0 hmA PI0 hel
refine aC ?_
refine aZ (fb E).length (fun k (y:ah)=>[(0,.val (.pointer (some ⟨im,0,some 0⟩))),(2,.val (.map (some it))),(6,.val (.map (some ip))),(7,.val (.slice qp (fb E).length cp)),(55,.val (.slice qp (fb E).length cp)),(56,.val (i64 (fb E).length)),(57,.val (i64 k))]) (fun _ y=>y) (fun k y=>BI hB hB it es y ((E.take k).flatMap fun p=>E.flatMap fun q=>kf d os p q)) hB aK rfl (by rw[List.take_zero];exact B0) ?_
rintro k y hkn C
by_cases hlt:k<E.length
·have htk:(E.take (k+1)).flatMap (fun p=>E.flatMap fun q=>kf d os p q)=(E.take k).flatMap (fun p=>E.flatMap fun q=>kf d os p q)++E.flatMap fun q=>kf d os E[k] q:=by
  rw[List.take_succ_eq_append_getElem hlt,List.flatMap_append,List.flatMap_singleton]
 have hag:∀ {j:Nat} (hj:j<E.length),((fb E).map i64)[j]? = some (i64 (E[j].at_:Int)):=fun {j} hj=>by
  unfold fb
  rw[List.getElem?_map,List.getElem?_map,List.getElem?_eq_getElem hj]
  rfl
 have hgk:=hag hlt
 have hem:=List.getElem_mem hlt
 obtain⟨e,he⟩:∃ e,e=E[k]:=⟨_,rfl⟩
 rw[← he] at htk hgk hem
 clear he
 have hpl:=hElt e hem
 have hge:=vK hEn hem
 obtain⟨id,ar,own,c',hv2,hid⟩:=((hgI.zm C.k).sl (b:=8) om).at om
 cases hv2
 have KY:=C.kd KB hmB hl
 have hoby:=KY.o
 obtain⟨id2,ver2,own2,c2,cells,u,hv3,hid20,hrd,hu⟩:=cV.at (k:=5) (fun _ _=>rfl) K.D.aa hpl
 rw[hvP] at hv3
 cases hv3
 have hid2:=ag KY.p hid20
 have hu:fR h0 u d.aa[e.at_].aj:=hu
 obtain⟨ps,cs,rfl⟩:=bT.form hu
 have hr4:=eK (j:=4) hrd om
 simp only[List.getElem?_cons_succ,List.getElem?_cons_zero] at hr4
 have hsyl:=hsy _ (List.getElem_mem hpl)
 have hbq:∀ q,kf d os e q=(d.aa[e.at_].aj.zipIdx).flatMap fun y=>vZ d os e q d.aa[e.at_].aj.length y.2 y.1:=fun q=>by
  unfold kf
  rw[List.getElem?_eq_getElem hpl]
 generalize d.aa[e.at_]=xp at hu hr4 hsyl hbq hrd
 have w1:((0:Int)≤k∧(k:Int)<((fb E).length:Int))=True:=eq_true om
 have w2:=inc (n:=(fb E).length) (k:=k) om om
 have q3:decide ((k:Int)<((fb E).length:Int))=true:=decide_eq_true om
 have w3:=cg hpl
 simp only[MK.cells,hvP] at hoby
 refine aG q3 ?_
 refine ae rfl ?_
 refine Tm w1 hid Nat.mul_one hgk hoby w3 hid2 hr4 ?_
 refine aZ (fb E).length (fun j (y:ah)=>[(0,.val (.pointer (some ⟨im,0,some 0⟩))),(2,.val (.map (some it))),(6,.val (.map (some ip))),(7,.val (.slice (some ⟨id,0,some ar⟩) (fb E).length cp)),(14,.val (i64 e.at_)),(15,.val (.slice ps xp.aj.length cs)),(55,.val (.slice (some ⟨id,0,some ar⟩) (fb E).length cp)),(56,.val (i64 (fb E).length)),(57,.val (i64 k)),(71,.val (.slice (some ⟨id,0,some ar⟩) (fb E).length cp)),(72,.val (i64 (fb E).length)),(73,.val (i64 j))]) (fun _ y=>y) (fun j y=>BI hB hB it es y ((E.take k).flatMap (fun p=>E.flatMap fun q=>kf d os p q)++(E.take j).flatMap fun q=>kf d os e q)) y aK rfl (by rw[List.take_zero,List.flatMap_nil,List.append_nil];exact C) ?_
 generalize (E.take k).flatMap (fun p=>E.flatMap fun q=>kf d os p q)=L3 at C htk
 clear C hid KY hoby hid2 y
 rintro j y hjn C
 by_cases hjl:j<E.length
 ·have htk2:(E.take (j+1)).flatMap (fun q=>kf d os e q)=(E.take j).flatMap (fun q=>kf d os e q)++kf d os e E[j]:=by
   rw[List.take_succ_eq_append_getElem hjl,List.flatMap_append,List.flatMap_singleton]
  have hgj:=hag hjl
  have hgm:=List.getElem_mem hjl
  obtain⟨g,hg⟩:∃ g,g=E[j]:=⟨_,rfl⟩
  rw[← hg] at htk2 hgj hgm
  clear hg
  have hql:=hElt g hgm
  have hgg:=vK hEn hgm
  obtain⟨id',ver',own',c'',hv2,hid⟩:=((hgI.zm C.k).sl (b:=8) om).at om
  cases hv2
  have v1:((0:Int)≤j∧(j:Int)<((fb E).length:Int))=True:=eq_true om
  have v2:=inc (n:=(fb E).length) (k:=j) om om
  have v3:decide ((j:Int)<((fb E).length:Int))=true:=decide_eq_true om
  obtain⟨id3,ver3,own3,c3,cells3,u3,hv3,hid30,hrd3,hu3⟩:=cV.at (k:=5) (fun _ _=>rfl) K.D.aa hql
  rw[hvP] at hv3
  cases hv3
  have hr1:=eK (j:=1) hrd3 om
  simp only[List.getElem?_cons_succ,List.getElem?_cons_zero] at hr1
  have hbs:∀ (n a:Nat) (s:Sym),vZ d os e g n a s=if (iF s d.aa[g.at_]&&barredB e g a (n-1))=true then ue os e.at_ a g.at_ else []:=fun n a s=>by
   unfold vZ
   rw[List.getElem?_eq_getElem hql]
  generalize d.aa[g.at_]=xq at hr1 hbs hrd3 hu3
  rw[hbq] at htk2
  refine aG v3 ?_
  refine ae rfl ?_
  refine fi v1 hid Nat.mul_one hgj ?_
  refine aZ xp.aj.length (fun a (y:ah)=>[(0,.val (.pointer (some ⟨im,0,some 0⟩))),(2,.val (.map (some it))),(6,.val (.map (some ip))),(7,.val (.slice (some ⟨id,0,some ar⟩) (fb E).length cp)),(14,.val (i64 e.at_)),(15,.val (.slice ps xp.aj.length cs)),(55,.val (.slice (some ⟨id,0,some ar⟩) (fb E).length cp)),(56,.val (i64 (fb E).length)),(57,.val (i64 k)),(71,.val (.slice (some ⟨id,0,some ar⟩) (fb E).length cp)),(72,.val (i64 (fb E).length)),(73,.val (i64 j)),(17,.val (i64 g.at_)),(77,.val (.slice ps xp.aj.length cs)),(78,.val (i64 xp.aj.length)),(79,.val (i64 a))]) (fun _ y=>y) (fun a y=>BI hB hB it es y (L3++(E.take j).flatMap (fun q=>kf d os e q)++((xp.aj.take a).zipIdx).flatMap fun y=>vZ d os e g xp.aj.length y.2 y.1)) y aK rfl (by rw[List.take_zero,List.zipIdx_nil,List.flatMap_nil,List.append_nil];exact C) ?_
  generalize hL4:L3++(E.take j).flatMap (fun q=>kf d os e q)=L4 at C
  clear C hid y
  rintro a y han C
  by_cases hal2:a<xp.aj.length
  ·have KY:=C.kd KB hmB hl
   obtain⟨id5,ver5,own5,c5,hv5,hid5⟩:=bT.at (bT.mono hu KY.p) om
   cases hv5
   have hyg:=ig hal2
   have hob5:=KY.o
   have hid3:=ag KY.p hid30
   have w3:=cg hql
   have u1:=cg hal2
   have u2:=inc hal2 om
   have u3:=aS hal2
   have hzt:=Ey (f:=fun y=>vZ d os e g xp.aj.length y.2 y.1) hal2
   rw[hbs] at hzt
   simp only[MK.cells,hvP] at hob5
   have hmy:=C.at hiB
   have hpy:=C.other hil hpm
   generalize xp.aj[a]=sy at hyg hzt
   have hsub:∃ nl:Nat,nl=xp.aj.length-1∧IntKind.i64.wrap ((xp.aj.length:Int)-1)=(nl:Int):=⟨_,rfl,by rw[ax om om];omega⟩
   obtain⟨nl,hnl,hsub⟩:=hsub
   rw[← hnl] at hzt
   refine aG u3 ?_
   refine ae rfl ?_
   refine gV u1 hid5 hyg ?_
   refine CW.mono (Q:=fun e' s'=>e' = .normal∧s'.h=y∧bA [(0,.val (.pointer (some ⟨im,0,some 0⟩))),(2,.val (.map (some it))),(6,.val (.map (some ip))),(7,.val (.slice (some ⟨id,0,some ar⟩) (fb E).length cp)),(14,.val (i64 e.at_)),(15,.val (.slice (some ⟨id5,0,some ver5⟩) xp.aj.length cs)),(55,.val (.slice (some ⟨id,0,some ar⟩) (fb E).length cp)),(56,.val (i64 (fb E).length)),(57,.val (i64 k)),(71,.val (.slice (some ⟨id,0,some ar⟩) (fb E).length cp)),(72,.val (i64 (fb E).length)),(73,.val (i64 j)),(17,.val (i64 g.at_)),(77,.val (.slice (some ⟨id5,0,some ver5⟩) xp.aj.length cs)),(78,.val (i64 xp.aj.length)),(79,.val (i64 a)),(18,.val (i64 a)),(20,.val (.bool (iF sy xq)))] s'.fr) ?_ ?_
   ·by_cases k3:sy.kind=3
    ·have d3:=decide_eq_true k3
     refine aQ 23 mixed kr ?_
     have hD:iF sy xq=decide (sy.name=xq.sort):=by unfold iF;rw[d3];rfl
     refine kL d3 hob5 w3 hid3 hr1 ?_
     rw[hD]
     exact⟨rfl,rfl,aK⟩
    ·have d3:=decide_eq_false k3
     by_cases k4:sy.kind=4
     ·have d4:=decide_eq_true k4
      refine aQ 23 mixed kr ?_
      have hD:iF sy xq=decide (sy.name=xq.sort):=by unfold iF;rw[d3,d4];rfl
      refine DB d3 d4 hob5 w3 hid3 hr1 ?_
      rw[hD]
      exact⟨rfl,rfl,aK⟩
     ·have d4:=decide_eq_false k4
      refine aQ 23 mixed kr ?_
      have hD:iF sy xq=false:=by unfold iF;rw[d3,d4];rfl
      refine fh d3 d4 ?_
      rw[hD]
      exact⟨rfl,rfl,aK⟩
   rintro e' s' ⟨rfl,hh,hf⟩
   show CW _ _ _ _
   refine aB _ hf ?_
   rw[hh]
   clear hf hh s'
   cases hdir:iF sy xq with
   | false=>
     rw[hdir] at hzt
     refine aC ?_
     refine af rfl ?_
     refine aG u2 ?_
     refine⟨hal2,y,aK,rfl,?_⟩
     simp only
     rw[hzt,Bool.false_and,if_neg (by decide),List.append_nil]
     exact C
   | true=>
     rw[hdir,Bool.true_and] at hzt
     refine kL hpy hge hgg hkk hsub ?_
     refine zj Tryz.func143 ?_
     refine (CJ (a:=e) (b:=g) (at_:=a) (last:=nl)).mono ?_
     rintro _ h9 ⟨rfl,e9⟩
     obtain rfl:=e9.symm
     cases hbb:barredB e g a nl with
     | false=>
       rw[hbb] at hzt
       refine aC ?_
       refine af rfl ?_
       refine aG u2 ?_
       refine⟨hal2,y,aK,rfl,?_⟩
       simp only
       rw[hzt,if_neg (by decide),List.append_nil]
       exact C
     | true=>
       rw[hbb,if_pos rfl] at hzt
       refine aC ?_
       refine ae rfl ?_
       refine aC ?_
       refine zj Tryz.func144 ?_
       refine (Nc KY hmy hl e.at_ a g.at_ hos).mono ?_
       rintro _ h9 ⟨rfl,rfl⟩
       have C2:=C.UN hiB (B:=ue os e.at_ a g.at_)
       generalize y.set it (.map (bE (eW (eW es _) (ue os e.at_ a g.at_))))=y2 at C2 ⊢
       refine aG u2 ?_
       refine⟨hal2,y2,aK,rfl,?_⟩
       simp only
       rw[hzt,← List.append_assoc]
       exact C2
  ·have u3':=aP hal2
   obtain rfl:a=xp.aj.length:=by omega
   rw[List.take_length,← hL4,List.append_assoc,← htk2] at C
   refine aG u3' ?_
   refine af rfl ?_
   refine az ?_
   show CW _ _ _ _
   refine aG v2 ?_
   refine⟨by omega,y,aK,rfl,C⟩
 ·have v3:decide ((j:Int)<((fb E).length:Int))=false:=decide_eq_false om
  obtain rfl:j=E.length:=by omega
  rw[List.take_length,← htk] at C
  refine aG v3 ?_
  refine af rfl ?_
  refine az ?_
  show CW _ _ _ _
  refine aG w2 ?_
  refine⟨by omega,y,aK,rfl,C⟩
·have q3:decide ((k:Int)<((fb E).length:Int))=false:=decide_eq_false om
 obtain rfl:k=E.length:=by omega
 rw[List.take_length] at C
 refine aG q3 ?_
 refine af rfl ?_
 refine az ?_
 exact⟨rfl,C⟩}
end
abbrev g9 (l:List aR):List aR:=l.mergeSort (fun x y=>!bu y x)
theorem HF {l l':List aR} (h:l.Perm l'):g9 l=g9 l':=by{
have tr:∀ a b c:aR,(!bu b a)=true→(!bu c b)=true→(!bu c a)=true:=fun a b c h1 h2=>by
 simp only[Bool.not_eq_true'] at *
 exact kI.3 c b a h2 h1
have to:∀ a b:aR,((!bu b a)||(!bu a b))=true:=fun a b=>by
 simp only[Bool.or_eq_true,Bool.not_eq_true',re]
 omega
refine List.Perm.eq_of_pairwise (le:=fun a b=>(!bu b a)=true) (fun a b _ _ h1 h2=>?_) (List.pairwise_mergeSort tr to l) (List.pairwise_mergeSort tr to l') (((List.mergeSort_perm l _).trans h).trans (List.mergeSort_perm l' _).symm)
simp only[Bool.not_eq_true'] at h1 h2
exact Fu h2 h1}
def BC (l:List aR):List Value:=l.flatMap aR.cells
theorem My {l:List aR}:(BC l).length=l.length*3:=dN (f:=aR.cells) (fun _=>rfl) l
section
variable {h:ah}
theorem SU {n:Nat} {l:List aR}:∀ v∈BC l,dv n v:=by{
intro v hv
unfold BC at hv
rw[List.mem_flatMap] at hv
obtain⟨x,_,hx⟩:=hv
simp only[aR.cells,List.mem_cons,List.not_mem_nil,or_false] at hx
rcases hx with rfl|rfl|rfl<;>exact .be rfl}
theorem FK {id ar c:Nat} {l:List aR} (hg:h[id]? = some (.aA (BC l) ar true 70)) (hn:l.length≤1000000000) (hb:∀ x∈l,HA x) : FW env 103 [.slice (some ⟨id,0,some ar⟩) l.length c,aO] h fun r h'=>r = .tuple #[]∧h'=h.set id (.aA (BC (g9 l)) ar true 70):=by{
have D:DA h id ar l.toArray:=⟨hg,by simpa using hn,fun i hi=>by
 have hi':i<l.length:=by simpa using hi
 have:l.toArray[i]! = l[i]:=by simp [hi']
 rw[this]
 exact hb _ (List.getElem_mem hi')⟩
have hid:id<h.length:=(List.getElem?_eq_some_iff.1 hg).1
refine FW.OG ((H9 (c:=c) D).mono ?_)
rintro r h' ⟨rfl,k⟩
obtain⟨d',e,_,g,hg'⟩:=k.eq
have e2:IC d'=BC (g9 l):=by
 unfold IC BC
 rw[e]
rw[e2] at hg'
refine⟨h.set id (.aA (BC (g9 l)) ar true 70),g,hg'.symm,pR,by rw[List.length_set];exact Nat.le_refl _,fun j o hj=>?_,rfl,rfl⟩
by_cases e:id=j
·subst e
 rw[List.getElem?_set_self hid] at hj
 cases hj
 refine .inr fun p hp=>?_
 rw[List.length_set]
 exact SU p hp
·rw[List.getElem?_set_ne e] at hj
 exact .inl hj}
theorem I9:FW env 180 [bX,i64 0,i64 0,aO] h fun r h'=>r = .tuple #[]∧h'=h:=by{
refine fe Tryz.func180 ?_;simp only[push_cast]
refine aC ?_
have e0:IntKind.i64.wrap (0+1)=1:=by decide
refine fp (fun _:Unit=>0) (fun _=>[(2,.val (i64 0)),(8,.val (i64 1))]) (fun _=>h) (fun _=>True) () (lH e0) rfl trivial ?_
rintro⟨⟩ _
have d1:decide ((1:Int)<0)=false:=rfl
refine aG d1 ?_
refine af rfl ?_
refine az ?_
exact⟨_,ak,rfl,rfl⟩}
theorem HZ {lim:Int}:FW env 145 [bX,i64 0,i64 0,i64 lim,aO] h fun r h'=>r = .tuple #[]∧h'=h:=by{
refine fe Tryz.func145 ?_;simp only[push_cast]
refine aC ?_
refine fp (fun _:Unit=>0) (fun _=>[(0,.val bX),(1,.val (i64 0)),(2,.val (i64 0)),(4,.val aO)]) (fun _=>h) (fun _=>True) () aK rfl trivial ?_
rintro⟨⟩ _
have e1:IntKind.i64.wrap 0=0:=by decide
have d1:decide ((0:Int)≤12)=true:=rfl
refine gV e1 d1 Int.sub_self ?_
refine ae rfl ?_
refine aC ?_
refine zj Tryz.func180 ?_
rw[List.append_nil]
refine I9.mono ?_
rintro _ h1 ⟨rfl,e⟩
obtain rfl:=e.symm
refine aC ?_
refine ai ?_
exact⟨_,ak,rfl,rfl⟩}
theorem GJ:FW env 103 [bX,aO] h fun r h'=>r = .tuple #[]∧h'=h:=by{
have e1:IntKind.u64.wrap (0:Int)=0:=by decide
refine fe Tryz.func103 ?_;simp only[push_cast]
refine aG e1 ?_
refine zj Tryz.func146 ?_
rw[List.append_nil]
refine (AK (n:=0) (by decide)).mono ?_
rintro _ _ ⟨rfl,rfl⟩
refine aC ?_
refine zj Tryz.func145 ?_
rw[List.append_nil]
refine HZ.mono ?_
rintro _ h1 ⟨rfl,e⟩
obtain rfl:=e.symm
refine aC ?_
exact⟨_,ak,rfl,rfl⟩}
end
def nr (n:Nat) (l:List aR):Value:=match l.length with
 | 0=>bX
 | k+1=>.slice (some ⟨n,0,some k⟩) (k+1) (k+1)
def CP (l l':List aR):ah:=match l.length with
 | 0=>[]
 | k+1=>[.aA (BC l') k true 70]
def mb (hC:ah) (im:Nat) (m:MK) (l l':List aR):ah:=hC.set im (.aA (MK.cells { m with vb:=nr hC.length l }) 0 true 94)++CP l l'
section
variable {hC:ah} {im:Nat} {m:MK} {l:List aR} {b:aR}
theorem Kr (ho:hC[im]? = some (.aA m.cells 0 true 94)) (hb:m.vb=bX):mb hC im m [] []=hC:=by{
have:({ m with vb:=nr hC.length [] }:MK)=m:=by
 cases m
 simp only at hb
 subst hb
 rfl
unfold mb
rw[this]
show hC.set im _++[]=hC
rw[List.append_nil,fS ho]}
theorem AA {l':List aR} (hi:im<hC.length):(mb hC im m l l')[im]? = some (.aA (MK.cells { m with vb:=nr hC.length l }) 0 true 94):=by
 unfold mb
 rw[List.getElem?_append_left (by rw[List.length_set];exact hi),List.getElem?_set_self hi]
theorem uC {l':List aR} {j:Nat} {o:av} (hj:j≠im) (h:hC[j]? = some o):(mb hC im m l l')[j]? = some o:=by{
have:=(List.getElem?_eq_some_iff.1 h).1
unfold mb
rw[List.getElem?_append_left (by rw[List.length_set];exact this),aD hj.symm]
exact h}
theorem tq {n:Nat}:∃ p c,nr n l = .slice p l.length c:=by{
unfold nr
split
·rename_i h;rw[h];exact⟨_,_,rfl⟩
·rename_i h;rw[h];exact⟨_,_,rfl⟩}
theorem Md {n:Nat} {l':List aR} (h:l.length=l'.length):nr n l=nr n l':=by unfold nr;rw[h]
theorem Kg {l' x:List aR} (h:l.length=l'.length):CP l x=CP l' x:=by unfold CP;rw[h]
theorem Fx (hi:im<hC.length) (hn:l.length≤1000000000):∃ h', (∀ (all:Array Oper) (o:Oper) (s:St) (x:Operand) (y:Nat),s.h=mb hC im m l l→aF all o s=some true→o.op = .call { callee:=.builtin .append,args:=#[x,.tmp y],argTypes:=#[37,37] }→ev s x=some (nr hC.length l)→aW s.fr y = .mx b.cells 1 → One env all o s (.sl (.val (nr hC.length (l++[b])))) h') ∧ h'[im]? = some (.aA (MK.cells { m with vb:=nr hC.length l }) 0 true 94) ∧ h'.set im (.aA (MK.cells { m with vb:=nr hC.length (l++[b]) }) 0 true 94)=mb hC im m (l++[b]) (l++[b]):=by{
have hit:∀ (s:St) (y:Nat),aW s.fr y = .mx b.cells 1→cd s s.h 3 (.tmp y)=some (b.cells,1):=fun s y hy=>by simp only[cd,hy];rfl
cases l with
| nil=>
  refine⟨hC.set im (.aA (MK.cells { m with vb:=nr hC.length [] }) 0 true 94)++[.aA b.cells 0 true 70],fun all o s x y e hw ho hx hy=>?_,?_,?_⟩
  ·have e2:s.h=hC.set im (.aA (MK.cells { m with vb:=nr hC.length [] }) 0 true 94):=by rw[e];unfold mb;exact List.append_nil _
   have:=One.y5 (N:=env) (m:=1) hw ho kr rfl Lu (by decide) rfl hx (hit s y hy) (by decide) (by decide) (by decide)
   rw[e2,List.length_set] at this
   exact this
  ·rw[List.getElem?_append_left (by rw[List.length_set];exact hi),List.getElem?_set_self hi]
  ·rw[List.set_append_left _ _ (by rw[List.length_set];exact hi),List.set_set]
   rfl
| cons a r=>
  have hl1:(hC.set im (.aA (MK.cells { m with vb:=nr hC.length (a :: r) }) 0 true 94)).length=hC.length:=List.length_set
  refine⟨hC.set im (.aA (MK.cells { m with vb:=nr hC.length (a :: r) }) 0 true 94)++[.aA (BC (a :: r)++b.cells) (r.length+1) true 70],fun all o s x y e hw ho hx hy=>?_,?_,?_⟩
  ·have e2:s.h=hC.set im (.aA (MK.cells { m with vb:=nr hC.length (a :: r) }) 0 true 94)++[.aA (BC (a :: r)) r.length true 70]:=e
   have hx:ev s x=some (.slice (some ⟨hC.length,0,some r.length⟩) (r.length+1) (r.length+1)):=hx
   have hob:s.h[hC.length]? = some (.aA (BC (a :: r)) r.length true 70):=by
    rw[e2,List.getElem?_append_right (by rw[hl1];exact Nat.le_refl _),hl1,Nat.sub_self]
    rfl
   have hbl:=My (l:=a :: r)
   simp only[List.length_cons] at hbl hn
   have:=One.KF (N:=env) (m:=1) hw ho kr rfl Lu (by decide) rfl hx hob (by simp only;omega) (hit s y hy) (by simp only;omega) om
   rw[List.take_of_length_le (by simp only;omega)] at this
   have e3:s.h.set hC.length (.aA (BC (a :: r)++b.cells) (r.length+1) true 70)=hC.set im (.aA (MK.cells { m with vb:=nr hC.length (a :: r) }) 0 true 94)++[.aA (BC (a :: r)++b.cells) (r.length+1) true 70]:=by
    rw[e2,List.set_append_right _ _ (by rw[hl1];exact Nat.le_refl _),hl1,Nat.sub_self]
    rfl
   rw[e3] at this
   have e4:nr hC.length (a :: r++[b]) = .slice (some ⟨hC.length,0,some (r.length+1)⟩) (r.length+1+1) (r.length+1+1):=by
    unfold nr
    rw[List.length_append,List.length_cons,List.length_singleton]
   rw[e4]
   exact this
  ·rw[List.getElem?_append_left (by rw[List.length_set];exact hi),List.getElem?_set_self hi]
  ·rw[List.set_append_left _ _ (by rw[List.length_set];exact hi),List.set_set]
   unfold mb CP
   rw[List.length_append,List.length_cons,List.length_singleton]
   have:BC (a :: r++[b])=BC (a :: r)++b.cells:=by unfold BC;rw[List.flatMap_append,List.flatMap_singleton]
   rw[this]}
end
theorem JS {a b c:Code} {s:St} {Q:AX→St→Prop} {I:St→Prop} {fr fr2:Am.Fr} {h:ah} {P:ah→Prop} (ha:SW env a s (fun e s'=>e = .normal∧I s')) (hb:∀ s',I s'→SW env b s' (fun e s''=>e = .normal∧bA fr s''.fr∧s''.h=h)) (hc:CW env c ⟨fr,[],h⟩ (fun e s'=>e = .normal∧bA fr2 s'.fr∧P s'.h)) (k:∀ h2,P h2→Q .normal ⟨fr2,[],h2⟩):CW env (.seq a (.seq b c)) s Q:=by{
unfold CW at hc
obtain⟨e,s1,hev,rfl,hf,hP⟩:=hc
refine FZ (e:=.normal) fr2 s1.h ?_ (k _ hP)
refine ta ha (fun e s' ⟨h1,_⟩ h2=>absurd h1 h2) fun s' ⟨_,hI⟩=>?_
refine ta (hb s' hI) (fun e s' ⟨h1,_⟩ h2=>absurd h1 h2) fun s'' ⟨_,hf2,hh⟩=>?_
refine gY fr hf2 ?_
rw[hh]
unfold SW
exact .Oa hev ⟨rfl,hf,rfl⟩}
def eu (F:List (aR×Int)) (seen:List Nat):List aR:=seen.filterMap fun i=>(F[i]?).map (·.1)
theorem Ar {F:List (aR×Int)} {seen:List Nat} {i:Nat} {p:aR×Int} (h:F[i]? = some p):eu F (seen++[i])=eu F seen++[p.1]:=by{
unfold eu
rw[List.filterMap_append]
congr 1
simp [h]}
theorem u9 {F:List (aR×Int)}:∀ {seen:List Nat},(∀ i∈seen,i<F.length)→(eu F seen).length=seen.length
 | [],_=>rfl
 | i :: s,h=>by
   have ih:=u9 (F:=F) (seen:=s) fun j hj=>h j (List.mem_cons_of_mem _ hj)
   unfold eu at ih ⊢
   have hi:=h i (List.mem_cons_self)
   rw[List.filterMap_cons,List.getElem?_eq_getElem hi]
   simp only[Option.map_some,List.length_cons,ih]
theorem yT (F:List (aR×Int)):eu F (List.range F.length)=F.map (·.1):=by{
unfold eu
refine List.ext_getElem? fun j=>?_
have key:∀ n,n≤F.length→(List.range n).filterMap (fun i=>(F[i]?).map (·.1))=(F.take n).map (·.1):=by
 intro n
 induction n with
 | zero=>intro _;rfl
 | succ n ih=>
   intro hn
   rw[List.range_succ,List.filterMap_append,ih om,List.take_succ_eq_append_getElem om,List.map_append]
   congr 1
   simp [show n<F.length by omega]
rw[key _ (Nat.le_refl _),List.take_length]}
theorem AB {F:List (aR×Int)} {seen:List Nat} (hn:seen.Nodup) (hl:∀ i∈seen,i<F.length) (ha:∀ i,i<F.length→i∈seen):(eu F seen).Perm (F.map (·.1)):=by{
rw[← yT F]
unfold eu
refine List.Perm.filterMap _ ((List.perm_ext_iff_of_nodup hn List.nodup_range).2 fun i=>?_)
rw[List.mem_range]
exact⟨hl i,ha i⟩}
theorem Fh {os:List gO} {p a q:Nat} (hos:os.length≤4096) (hs:∀ o∈os,o.aj.length≤1000000):∀ x∈ue os p a q,HA x:=by{
intro x hx
unfold ue at hx
rw[List.mem_flatMap] at hx
obtain⟨r,hr,hx⟩:=hx
have h1:=mf hr
unfold oT at hx
rw[List.getElem?_eq_getElem h1] at hx
simp only[List.mem_flatMap,List.mem_range] at hx
obtain⟨j,hj,hx⟩:=hx
have h2:=hs _ (List.getElem_mem h1)
unfold qL at hx
split at hx
·rw[List.mem_map] at hx
 obtain⟨k,hk,rfl⟩:=hx
 have h3:=mf hk
 exact⟨by simp only;omega,by simp only;omega,by simp only;omega⟩
·simp at hx}
theorem G7 {d:bM} {os:List gO} (hos:os.length≤4096) (hs:∀ o∈os,o.aj.length≤1000000):∀ x∈lh d os,HA x:=by{
intro x hx
unfold lh gN at hx
simp only[List.mem_flatMap] at hx
obtain⟨l,_,p,_,q,_,hx⟩:=hx
unfold kf at hx
split at hx
·rw[List.mem_flatMap] at hx
 obtain⟨y,_,hx⟩:=hx
 unfold vZ at hx
 split at hx
 ·split at hx
  ·exact Fh hos hs x hx
  ·simp at hx
 ·simp at hx
·simp at hx}
theorem vm:∀ {xs l:List aR},(lc l xs).length≤l.length+xs.length
 | [],_=>Nat.le_refl _
 | x :: xs,l=>by
   have ih:=vm (xs:=xs) (l:=ud l x)
   have:(ud l x).length≤l.length+1:=by unfold ud;split<;>simp
   unfold lc at ih ⊢
   rw[List.foldl_cons,List.length_cons]
   omega
def kq (d:bM) (l:List ew):List aX:=l.foldl (fun s x=>s.set (eE d x.sort) ((s.getD (eE d x.sort) tX).union x.set)) (List.replicate (aU d) tX)
def tc (d:bM) (l:List dC):List Int:=l.foldl (fun s x=>s.set (eE d x.sort) (eE d x.jR:Int)) (List.replicate (aU d) (-1))
theorem oS {d:bM} {l:List ew} {k:Nat} (hk:k<l.length):kq d (l.take (k+1))=(kq d (l.take k)).set (eE d l[k].sort) (((kq d (l.take k)).getD (eE d l[k].sort) tX).union l[k].set):=by{
unfold kq
rw[List.take_succ_eq_append_getElem hk,List.foldl_append]
rfl}
theorem uS {d:bM} {l:List dC} {k:Nat} (hk:k<l.length):tc d (l.take (k+1))=(tc d (l.take k)).set (eE d l[k].sort) (eE d l[k].jR:Int):=by{
unfold tc
rw[List.take_succ_eq_append_getElem hk,List.foldl_append]
rfl}
theorem F4 {d:bM}:∀ k (l:List ew),(kq d (l.take k)).length=aU d:=by{
intro k l
induction k with
| zero=>unfold kq;rw[List.take_zero];exact List.length_replicate
| succ k ih=>
  by_cases h:k<l.length
  ·rw[oS h,List.length_set];exact ih
  ·rw[List.take_of_length_le om]
   rw[List.take_of_length_le om] at ih
   exact ih}
theorem Ga {d:bM}:∀ k (l:List dC),(tc d (l.take k)).length=aU d:=by{
intro k l
induction k with
| zero=>unfold tc;rw[List.take_zero];exact List.length_replicate
| succ k ih=>
  by_cases h:k<l.length
  ·rw[uS h,List.length_set];exact ih
  ·rw[List.take_of_length_le om]
   rw[List.take_of_length_le om] at ih
   exact ih}
theorem BN:du tX:=⟨⟨by decide,by decide⟩,⟨by decide,by decide⟩,⟨by decide,by decide⟩,⟨by decide,by decide⟩⟩
theorem DI {s t:aX} (h1:du s) (h2:du t):du (s.union t):=⟨kO h1.a h2.a,kO h1.b h2.b,kO h1.c h2.c,kO h1.d h2.d⟩
theorem HW {d:bM} {l:List ew} (h:∀ x∈l,du x.set):∀ k,∀ s∈kq d (l.take k),du s:=by{
intro k
induction k with
| zero=>
  intro s hs
  unfold kq at hs
  rw[List.take_zero] at hs
  rw[List.eq_of_mem_replicate hs]
  exact BN
| succ k ih=>
  by_cases hk:k<l.length
  ·intro s hs
   rw[oS hk] at hs
   rcases List.mem_or_eq_of_mem_set hs with hs|rfl
   ·exact ih s hs
   ·refine DI ?_ (h _ (List.getElem_mem hk))
    rw[List.getD_eq_getElem?_getD]
    cases e:(kq d (l.take k))[eE d l[k].sort]? with
    | none=>exact BN
    | some y=>exact ih y (List.mem_of_getElem? e)
  ·rw[List.take_of_length_le om]
   rw[List.take_of_length_le om] at ih
   exact ih}
structure FS (hD:ah) (im nF nR:Nat) (x:ah) (mm:MK) (SF:List aX) (SR:List Int):Prop where
 o:x[im]? = some (.aA mm.cells 0 true 94)
 F:x[nF]? = some (.aA (SF.flatMap aX.cells) 0 true 54)
 R:x[nR]? = some (.aA (SR.map i64) 0 true 3)
 k:∀ (j:Nat) (o:av),j<hD.length→j≠im→hD[j]? = some o→x[j]? = some o
 l:hD.length≤x.length
theorem FS.Uw {hD x:ah} {im nF nR:Nat} {mm:MK} {SF:List aX} {SR:List Int} (S:FS hD im nF nR x mm SF SR) (h1:nF≠im) (h2:nF≠nR) (h3:hD.length≤nF) (SF':List aX):FS hD im nF nR (x.set nF (.aA (SF'.flatMap aX.cells) 0 true 54)) mm SF' SR:=
 ⟨by rw[aD h1];exact S.o,aw S.F,by rw[aD h2];exact S.R,fun j o hj hn h=>by rw[aD om];exact S.k j o hj hn h,by rw[List.length_set];exact S.l⟩
theorem FS.RJ {hD x:ah} {im nF nR:Nat} {mm:MK} {SF:List aX} {SR:List Int} (S:FS hD im nF nR x mm SF SR) (h1:nR≠im) (h2:nF≠nR) (h3:hD.length≤nR) (SR':List Int):FS hD im nF nR (x.set nR (.aA (SR'.map i64) 0 true 3)) mm SF SR':=
 ⟨by rw[aD h1];exact S.o,by rw[aD h2.symm];exact S.F,aw S.R,fun j o hj hn h=>by rw[aD om];exact S.k j o hj hn h,by rw[List.length_set];exact S.l⟩
theorem FB {N k:Nat} (hk:k<N):(List.replicate k (-1:Int)++List.replicate (N-k) 0).set k (-1)=List.replicate (k+1) (-1)++List.replicate (N-(k+1)) 0:=by
 rw[List.set_append_right _ _ (by rw[List.length_replicate];exact Nat.le_refl _),List.length_replicate,Nat.sub_self,show N-k=(N-(k+1))+1 by omega,List.replicate_succ,List.set_cons_zero,List.replicate_succ',List.append_assoc]
 rfl
theorem FH {hk hC:ah} {im:Nat} {m:MK} {B B':List aR} (h:hk.length≤hC.length) (h0:B.length=B'.length):aL hk (mb hC im m B B') (nr hC.length B) B.length (BC B') 70:=by{
unfold nr
split
·rename_i e
 rw[e]
 have:B'=[]:=List.length_eq_zero_iff.1 om
 rw[this]
 exact aL.nil
·rename_i k e
 rw[e]
 refine .inr ⟨hC.length,k,h,rfl,?_⟩
 unfold mb CP
 rw[e,List.getElem?_append_right (by rw[List.length_set];exact Nat.le_refl _),List.length_set,Nat.sub_self]
 rfl}
structure VG (h0 hk h':ah) (im:Nat) (m:MK) (d:bM) (os:List gO) (vb vF vR:Value):Prop where
 p:h0 <+: h'
 l:hk.length≤h'.length
 o:h'[im]? = some (.aA (MK.cells { m with vb:=vb,vF:=vF,vR:=vR }) 0 true 94)
 k:∀ (j:Nat) (o:av),j<hk.length→j≠im→hk[j]? = some o→h'[j]? = some o
 b:aL hk h' vb (lc [] (lh d os)).length (BC (g9 (lc [] (lh d os)))) 70
 F:aL hk h' vF (aU d) ((kq d d.follows).flatMap aX.cells) 54
 R:aL hk h' vR (aU d) ((tc d d.al).map i64) 3
section
variable {h0 hk h1 x hA:ah} {im it ip:Nat} {m:MK} {d:bM} {os:List gO} {nm:List ByteArray} {sE:List (ByteArray×Int)}
theorem AQ (K:KD h0 hk im m d os nm) (hsm:hk[m.is]? = some (.map (fU sE))) (hsg:∀ x∈aE d.aa,gQ (fU sE) (.string x)=some (i64 (eE d x:Int))) (hvb:m.vb=bX) (hnts:m.cK=(aU d:Int)) (hN:aU d≤5000) (hok:xh d) (hos:os.length≤4096) (hch:∀ c∈d.au,(dB c).length≤1000∧c.length≤1000) (hcn:d.au.length≤1000) (hsy:∀ p∈d.aa,p.aj.length≤1000) (hosy:∀ o∈os,o.aj.length≤1000000) (hbn:(lh d os).length≤1000000000) (hfS:∀ x∈d.follows,x.sort∈aE d.aa∧du x.set) (hrS:∀ x∈d.al,x.sort∈aE d.aa∧x.jR∈aE d.aa) (hfl:d.follows.length≤1000) (hrl:d.al.length≤1000) (hsn:∀ x∈aE d.aa,eE d x<aU d) : FW env 35 [.pointer (some ⟨im,0,some 0⟩)] hk fun r h'=>r = .tuple #[]∧∃ vb vF vR,VG h0 hk h' im m d os vb vF vR:=by{
obtain⟨pC,cC,hvC⟩:=cV.form K.D.au
have hl0:h0.length≤hk.length:=K.p.length_le
refine fe Tryz.func35 ?_;simp only[push_cast]
refine zu ?_
iterate 5 (refine zx tP ?_)
refine zu ?_
refine kP (kt:=70) (et:=3) ak rfl kr ?_
dsimp only[St.a9,St.put]
have hpA:hk <+: hk++[av.map []]:=aH
have hmA:(hk++[av.map []])[hk.length]? = some (.map (bE [])):=aJ
have hiA:hk.length<(hk++[av.map []]).length:=by simp
generalize (hk++[av.map []])=hA at hpA hmA hiA ⊢
have hitk:hk.length≤hk.length:=Nat.le_refl _
generalize hit:hk.length=it at hmA hiA ⊢
have hpk:∀ {X:av},hk <+: hA.set it X:=fun {X}=>a8 hpA om
have KA:∀ {X:List (Value×Value)},KD h0 (hA.set it (.map X)) im m d os nm:=fun {X}=>K.zm (K.p.trans hpk) (qE.pre hpk)
have hobA:=ag hpA K.o
simp only[MK.cells,hvC] at hobA
refine aG hobA ?_
refine CW.mono (Q:=fun e s'=>e = .exit 0∧s'.h=hA.set it (.map (bE (eW [] (lh d os))))∧bA [(0,.val (.pointer (some ⟨im,0,some 0⟩))),(2,.val (.pointer (some ⟨im,12,some 0⟩))),(3,.val (.map (some it)))] s'.fr) ?_ ?_
·refine cO d.au.length (fun k=>[(0,.val (.pointer (some ⟨im,0,some 0⟩))),(2,.val (.pointer (some ⟨im,12,some 0⟩))),(3,.val (.map (some it))),(23,.val (.slice pC d.au.length cC)),(24,.val (i64 d.au.length)),(25,.val (i64 k))]) (fun k=>hA.set it (.map (bE (eW [] ((d.au.take k).flatMap (gN d os)))))) (fun _=>True) aK (by rw[List.take_zero];exact (fS hmA).symm) trivial ?_
 intro k hkn _
 by_cases hlt:k<d.au.length
 ·obtain⟨id,ar,own,c',cells,u,hv2,hid0,hrd,hu⟩:=cV.at (k:=1) (fun _ _=>rfl) K.D.au hlt
  rw[hvC] at hv2
  cases hv2
  have hu:eL h0 u d.au[k]:=hu
  have hmem:=List.getElem_mem hlt
  have w1:=cg hlt
  have w2:=inc hlt om
  have q3:=aS hlt
  have htk:(d.au.take (k+1)).flatMap (gN d os)=(d.au.take k).flatMap (gN d os)++gN d os d.au[k]:=by
   rw[List.take_succ_eq_append_getElem hlt,List.flatMap_append,List.flatMap_singleton]
  have hb:=Jz (it:=it) (es:=eW [] ((d.au.take k).flatMap (gN d os))) KA (List.getElem?_set_self hiA) om hu (hok _ hmem) hos (hch _ hmem).1 (hch _ hmem).2 hsy
  rw[List.set_set,← pb,← htk] at hb
  obtain⟨pv,cv,rfl⟩:=cV.form hu
  have hid:=ag (K.p.trans (hpk (X:=.map (bE (eW [] ((d.au.take k).flatMap (gN d os))))))) hid0
  have hr0:=gZ hrd om
  simp only[List.getElem?_cons_zero,Nat.mul_one] at hr0
  refine aG q3 ?_
  refine ae rfl ?_
  refine fi w1 hid Nat.mul_one hr0 ?_
  refine zj Tryz.func102 ?_
  refine hb.mono ?_
  rintro _ h2 ⟨rfl,rfl⟩
  refine aG w2 ?_
  exact⟨hlt,aK,rfl,trivial⟩
 ·have q3:=aP hlt
  obtain rfl:k=d.au.length:=by omega
  rw[List.take_length]
  refine aG q3 ?_
  refine af rfl ?_
  refine az ?_
  exact⟨rfl,rfl,aK⟩
rintro e s' ⟨rfl,hh,hf⟩
show CW _ _ _ _
refine aB _ hf ?_
rw[hh]
clear hf hh s'
have hF:=uE (lh d os) []
rw[List.map_nil] at hF
have hFl:(eW [] (lh d os)).length≤1000000000:=by
 have h1:=congrArg List.length hF
 rw[List.length_map] at h1
 have h2:=vm (xs:=lh d os) (l:=[])
 simp only[List.length_nil] at h2
 omega
have hFi:∀ p∈eW [] (lh d os),HA p.1:=fun p hp=>by
 have h1:p.1∈(eW [] (lh d os)).map (·.1):=List.mem_map_of_mem hp
 rw[hF,vk] at h1
 exact G7 hos hosy _ (h1.resolve_left (by simp))
generalize eW [] (lh d os)=F at hFl hFi hF ⊢
have hpC:hk <+: hA.set it (.map (bE F)):=hpk
have hmC:(hA.set it (.map (bE F)))[it]? = some (.map (bE F)):=List.getElem?_set_self hiA
have hiC:it<(hA.set it (.map (bE F))).length:=by rw[List.length_set];exact hiA
have KC:KD h0 (hA.set it (.map (bE F))) im m d os nm:=KA
clear KA hpk hobA hmA
generalize hA.set it (.map (bE F))=hC at hpC hmC hiC KC ⊢
have hoC:=KC.o
have himC:im<hC.length:=(List.getElem?_eq_some_iff.1 hoC).1
have hne:it≠im:=by
 intro e
 rw[e,hoC] at hmC
 cases hmC
have hlF:(bE F).length=F.length:=by unfold bE;rw[List.length_map]
obtain⟨B,hB⟩:∃ B,B=F.map (·.1):=⟨_,rfl⟩
have hBl:B.length=F.length:=by rw[hB,List.length_map]
rw[← hB] at hF
refine JS (I:=fun s'=>∃ L:List aR,L.Perm B∧s'.h=mb hC im m L L∧bA [(0,.val (.pointer (some ⟨im,0,some 0⟩))),(2,.val (.pointer (some ⟨im,12,some 0⟩)))] s'.fr) (fr:=[(0,.val (.pointer (some ⟨im,0,some 0⟩))),(2,.val (.pointer (some ⟨im,12,some 0⟩)))]) (fr2:=[]) (h:=mb hC im m B (g9 B)) (P:=fun h'=>∃ vb vF vR,VG h0 hk h' im m d os vb vF vR) ?_ ?_ ?_ ?_
·refine ta (R:=fun e s'=>e = .normal∧s'.h=hC∧bA [(0,.val (.pointer (some ⟨im,0,some 0⟩))),(2,.val (.pointer (some ⟨im,12,some 0⟩))),(35,.nn it F.length [])] s'.fr) ?_ (fun e s' ⟨h1,_⟩ h2=>absurd h1 h2) ?_
 ·refine SW.of ?_
  apply zr
  iterate 1 (refine zx tP ?_)
  refine EI (kt:=70) (et:=3) (es:=bE F) ak rfl rfl kr ak hmC ?_
  rw[hlF]
  apply zn
  exact⟨rfl,rfl,aK⟩
 rintro s' ⟨_,hh,hf⟩
 refine gY _ hf ?_
 rw[hh]
 clear hf hh s'
 refine xV ?_
 refine BM (fun n s=>∃ seen:List Nat,n+seen.length=F.length∧seen.Nodup∧(∀ i∈seen,i<F.length)∧s.h=mb hC im m (eu F seen) (eu F seen)∧bA [(0,.val (.pointer (some ⟨im,0,some 0⟩))),(2,.val (.pointer (some ⟨im,12,some 0⟩))),(35,.nn it F.length seen)] s.fr) F.length ⟨[],by simp,.nil,by simp,(Kr hoC hvb).symm,aK⟩ ?_
 rintro n s ⟨seen,hms,hnd,hlt6,hh,hf⟩
 refine gY _ hf ?_
 rw[hh]
 clear hf hh s
 have hmL:(mb hC im m (eu F seen) (eu F seen))[it]? = some (.map (bE F)):=uC hne hmC
 have hpl:=u9 hlt6
 refine ta (R:=fun e s'=>e = .normal∧s'.h=mb hC im m (eu F seen) (eu F seen)∧(((∀ i,i<F.length→i∈seen)∧bA [(0,.val (.pointer (some ⟨im,0,some 0⟩))),(2,.val (.pointer (some ⟨im,12,some 0⟩))),(37,.val (.bool false))] s'.fr)∨∃ i p,F[i]? = some p∧i∉seen∧bA [(0,.val (.pointer (some ⟨im,0,some 0⟩))),(2,.val (.pointer (some ⟨im,12,some 0⟩))),(35,.nn it F.length (seen++[i])),(37,.val (.bool true))] s'.fr)) ?_ ?_ ?_
 ·refine Cn (es:=bE F) rfl rfl rfl rfl (by decide) rfl hmL hlF (IZ F) (fun hA=>?_) (fun i kk v hkv hi=>?_)
  ·refine aC ?_
   exact⟨rfl,rfl,.inl ⟨hA,aK⟩⟩
  ·rw[Kv] at hkv
   obtain⟨p,hp,e1,e2⟩:=hkv
   refine aC ?_
   exact⟨rfl,rfl,.inr ⟨i,p,hp,hi,aK⟩⟩
 ·rintro e s' ⟨rfl,_⟩ he
  exact absurd rfl he
 ·rintro s' ⟨_,hh,⟨hA,hf⟩ | ⟨i,p,hp,hi,hf⟩⟩
  ·refine gY _ hf ?_
   rw[hh]
   clear hf hh s'
   refine SW.of ?_
   refine zu ?_
   refine af rfl ?_
   refine az ?_
   refine .inr ⟨by simp,?_⟩
   refine⟨rfl,eu F seen,?_,rfl,aK⟩
   rw[hB]
   exact AB hnd hlt6 hA
  ·refine gY _ hf ?_
   rw[hh]
   clear hf hh s'
   refine SW.of ?_
   refine zu ?_
   refine ae rfl ?_
   refine cz ?_
   show CW _ _ _ _
   have hpe:(bE F)[i]? = some (p.1.val,i64 p.2):=Kv.2 ⟨p,hp,rfl,rfl⟩
   have hgl:(seen++[i]).getLast? = some i:=by simp
   have hi6:=(List.getElem?_eq_some_iff.1 hp).1
   have hlt7:∀ q∈seen++[i],q<F.length:=fun q hq=>by
    rcases List.mem_append.1 hq with hq|hq
    ·exact hlt6 q hq
    ·rw[List.mem_singleton.1 hq];exact hi6
   have hlen:=oO (iB hnd hi) hlt7
   rw[List.length_append,List.length_singleton] at hlen
   obtain⟨n',rfl⟩:∃ n',n=n'+1:=⟨n-1,by omega⟩
   obtain⟨h',hone,hob',hset⟩:=Fx (hC:=hC) (im:=im) (m:=m) (l:=eu F seen) (b:=p.1) himC om
   have hobL:=AA (hC:=hC) (im:=im) (m:=m) (l:=eu F seen) (l':=eu F seen) himC
   have hst:=Ar (seen:=seen) hp
   obtain⟨pL,cL,hvL⟩:=tq (l:=eu F seen) (n:=hC.length)
   rw[hvL] at hobL hob' hone
   rw[← hst] at hone hset
   simp only[MK.cells] at hobL
   have hob2:=hob'
   simp only[MK.cells] at hob2
   have hvc:dO 1 (nr hC.length (eu F (seen++[i])))=some [nr hC.length (eu F (seen++[i]))]:=by
    obtain⟨a,b,e⟩:=tq (l:=eu F (seen++[i])) (n:=hC.length)
    rw[e]
    rfl
   generalize mb hC im m (eu F seen) (eu F seen)=hL at hmL hone hobL ⊢
   refine fi hmL hlF hgl hpe ?_
   refine aB [(0,.val (.pointer (some ⟨im,0,some 0⟩))),(2,.val (.pointer (some ⟨im,12,some 0⟩))),(6,.box [i64 p.1.fJ,i64 p.1.nq,i64 p.1.xw]),(35,.nn it F.length (seen++[i]))] aK ?_
   show CW _ _ ⟨_,[],hL⟩ _
   try apply zs
   apply bm (L:=[[],[],[1],[1,2],[1,2,3],[],[5],[1,2,3,4,5,6],[0],[0,8],[0,1,2,3,4,5,6,7,8,9]]) (act:=[7,10]) (hs:=[h',h'.set im (.aA (MK.cells { m with vb:=nr hC.length (eu F (seen++[i])) }) 0 true 94)]) (resL:=[_,_,_,_,_,_,_,_,_,_,_]) (frF:=[(0,.val (.pointer (some ⟨im,0,some 0⟩))),(2,.val (.pointer (some ⟨im,12,some 0⟩))),(35,.nn it F.length (seen++[i]))])
   case hm=>exact mixed
   case hc=>kernel_rfl
   case ha=>rfl
   case hb=>rfl
   case hS=>
    refine Gc hobL hob2 ?_
    apply ay.cons
    ·rfl
    ·refine⟨?_,trivial⟩
     exact hone _ _ _ _ _ rfl ak rfl ak ak
    ·rfl
    refine Gc hobL hob2 ?_
    apply ay.cons
    ·rfl
    ·refine⟨?_,trivial⟩
     exact One.jP (r:=.sl .dH) (cells':=MK.cells { m with vb:=nr hC.length (eu F (seen++[i])) }) ak rfl ak ak hob' ak hvc rfl rfl
    ·rfl
    exact ay.nil _
   case ht=>rfl
   case hF=>exact zh
   refine .inl ⟨rfl,n',rfl,seen++[i],by rw[List.length_append,List.length_singleton];omega,iB hnd hi,hlt7,hset,aK⟩
·rintro s' ⟨L,hLp,hh,hf⟩
 refine gY _ hf ?_
 rw[hh]
 clear hf hh s'
 have hLl:=hLp.length_eq
 have hs:=HF hLp
 have hobL:=AA (hC:=hC) (im:=im) (m:=m) (l:=L) (l':=L) himC
 refine SW.of ?_
 cases L with
 | nil=>
   have hB0:B=[]:=List.length_eq_zero_iff.1 hLl.symm
   have hv0:nr hC.length []=bX:=rfl
   have hh0:mb hC im m B (g9 B)=mb hC im m [] []:=by
    rw[hB0]
    show mb hC im m [] (List.mergeSort [] _)=_
    rw[List.mergeSort_nil]
   rw[hh0]
   rw[hv0] at hobL
   simp only[MK.cells] at hobL
   generalize mb hC im m [] []=hL at hobL ⊢
   refine aG hobL ?_
   refine zj Tryz.func103 ?_
   refine GJ.mono ?_
   rintro _ h2 ⟨rfl,e2⟩
   obtain rfl:=e2.symm
   refine aC ?_
   exact⟨rfl,aK,rfl⟩
 | cons a r=>
   have hv0:nr hC.length (a :: r) = .slice (some ⟨hC.length,0,some r.length⟩) (r.length+1) (r.length+1):=rfl
   have hl1:(hC.set im (.aA (MK.cells { m with vb:=nr hC.length (a :: r) }) 0 true 94)).length=hC.length:=List.length_set
   have hgL:(mb hC im m (a :: r) (a :: r))[hC.length]? = some (.aA (BC (a :: r)) r.length true 70):=by
    unfold mb
    rw[List.getElem?_append_right (by rw[hl1];exact Nat.le_refl _),hl1,Nat.sub_self]
    rfl
   have hiB:∀ x∈a :: r,HA x:=fun x hx=>by
    have:=hLp.mem_iff.1 hx
    rw[hB,List.mem_map] at this
    obtain⟨p,hp,rfl⟩:=this
    exact hFi p hp
   have hso:=FK (c:=r.length+1) hgL om hiB
   have hfin:(mb hC im m (a :: r) (a :: r)).set hC.length (.aA (BC (g9 (a :: r))) r.length true 70)=mb hC im m B (g9 B):=by
    rw[hs]
    unfold mb
    rw[List.set_append_right _ _ (by rw[hl1];exact Nat.le_refl _),hl1,Nat.sub_self,Md (l':=B) hLl,← Kg (l:=a :: r) (x:=g9 B) hLl]
    rfl
   rw[hfin] at hso
   rw[hv0] at hobL
   simp only[MK.cells] at hobL
   generalize mb hC im m (a :: r) (a :: r)=hL at hobL hso ⊢
   simp only[List.length_cons] at hso
   refine aG hobL ?_
   refine zj Tryz.func103 ?_
   refine hso.mono ?_
   rintro _ h2 ⟨rfl,rfl⟩
   refine aC ?_
   exact⟨rfl,aK,rfl⟩
·have hDo:=AA (m:=m) (l:=B) (l':=g9 B) himC
 have hDk:∀ (j:Nat) (o:av),j≠im→hC[j]? = some o→(mb hC im m B (g9 B))[j]? = some o:=fun j o h1 h2=>uC h1 h2
 have hDl:hC.length≤(mb hC im m B (g9 B)).length:=by
  unfold mb
  rw[List.length_append,List.length_set]
  exact Nat.le_add_right _ _
 have hDp:h0 <+: mb hC im m B (g9 B):=(a8 KC.p K.a).trans (List.prefix_append _ _)
 have hDb:aL hk (mb hC im m B (g9 B)) (nr hC.length B) B.length (BC (g9 B)) 70:=FH hpC.length_le (List.length_mergeSort B).symm
 obtain⟨pB,cB,hvB⟩:=tq (l:=B) (n:=hC.length)
 rw[hvB] at hDo hDb
 generalize mb hC im m B (g9 B)=hD at hDo hDk hDl hDp hDb ⊢
 have himD:im<hD.length:=by omega
 have hDo':=hDo
 simp only[MK.cells,hnts] at hDo'
 refine zu ?_
 iterate 7 (refine zx (Tz hDo') ?_)
 refine Hg (N:=aU d) ak rfl ak rfl om ?_
 dsimp only[St.a9,St.put]
 have hx1:(hD++[av.aA ((List.replicate (aU d) (⟨0,0,0,0⟩:aX)).flatMap aX.cells) 0 true 54])[im]? = some (.aA (MK.cells { m with vb:=(.slice pB B.length cB) }) 0 true 94):=bg hDo
 have hx1':=hx1
 simp only[MK.cells,hnts] at hx1'
 have hF1:(hD++[av.aA ((List.replicate (aU d) (⟨0,0,0,0⟩:aX)).flatMap aX.cells) 0 true 54])[hD.length]? = some (.aA ((List.replicate (aU d) (⟨0,0,0,0⟩:aX)).flatMap aX.cells) 0 true 54):=aJ
 have hp1:hD <+: hD++[av.aA ((List.replicate (aU d) (⟨0,0,0,0⟩:aX)).flatMap aX.cells) 0 true 54]:=aH
 have hl1:(hD++[av.aA ((List.replicate (aU d) (⟨0,0,0,0⟩:aX)).flatMap aX.cells) 0 true 54]).length=hD.length+1:=by simp
 generalize (hD++[av.aA ((List.replicate (aU d) (⟨0,0,0,0⟩:aX)).flatMap aX.cells) 0 true 54])=h1 at hx1 hx1' hF1 hp1 hl1 ⊢
 obtain⟨nF,hnF⟩:∃ nF,nF=hD.length:=⟨_,rfl⟩
 rw[← hnF] at hF1
 rw[← hnF]
 iterate 2 (refine zx tP ?_)
 refine bV (v:=(.slice (some ⟨nF,0,some 0⟩) (aU d) (aU d))) (vs:=[(.slice (some ⟨nF,0,some 0⟩) (aU d) (aU d))]) (cells':=MK.cells { m with vb:=(.slice pB B.length cB),vF:=(.slice (some ⟨nF,0,some 0⟩) (aU d) (aU d)) }) ak rfl rfl rfl ak hx1 ak rfl rfl ?_
 dsimp only
 have hx2:(h1.set im (.aA (MK.cells { m with vb:=(.slice pB B.length cB),vF:=(.slice (some ⟨nF,0,some 0⟩) (aU d) (aU d)) }) 0 true 94))[im]? = some (.aA (MK.cells { m with vb:=(.slice pB B.length cB),vF:=(.slice (some ⟨nF,0,some 0⟩) (aU d) (aU d)) }) 0 true 94):=aw hx1
 have hF2:(h1.set im (.aA (MK.cells { m with vb:=(.slice pB B.length cB),vF:=(.slice (some ⟨nF,0,some 0⟩) (aU d) (aU d)) }) 0 true 94))[nF]? = some (.aA ((List.replicate (aU d) (⟨0,0,0,0⟩:aX)).flatMap aX.cells) 0 true 54):=by rw[aD om];exact hF1
 have hk2:∀ (j:Nat) (o:av),j≠im→hD[j]? = some o→(h1.set im (.aA (MK.cells { m with vb:=(.slice pB B.length cB),vF:=(.slice (some ⟨nF,0,some 0⟩) (aU d) (aU d)) }) 0 true 94))[j]? = some o:=fun j o hj h=>by rw[aD hj.symm];exact ag hp1 h
 have hl2:(h1.set im (.aA (MK.cells { m with vb:=(.slice pB B.length cB),vF:=(.slice (some ⟨nF,0,some 0⟩) (aU d) (aU d)) }) 0 true 94)).length=hD.length+1:=by rw[List.length_set];exact hl1
 generalize h1.set im (.aA (MK.cells { m with vb:=(.slice pB B.length cB),vF:=(.slice (some ⟨nF,0,some 0⟩) (aU d) (aU d)) }) 0 true 94)=h2 at hx2 hF2 hk2 hl2 ⊢
 have hx2':=hx2
 simp only[MK.cells,hnts] at hx2'
 clear hx1 hx1' hF1 hp1 hl1
 apply zn
 show CW _ _ ⟨_,[],h2⟩ _
 refine zu ?_
 iterate 7 (refine zx (Tz hx2') ?_)
 refine xU (N:=aU d) ak rfl ak rfl om ?_
 dsimp only[St.a9,St.put]
 have hx3:(h2++[av.aA ((List.replicate (aU d) (0:Int)).map i64) 0 true 3])[im]? = some (.aA (MK.cells { m with vb:=(.slice pB B.length cB),vF:=(.slice (some ⟨nF,0,some 0⟩) (aU d) (aU d)) }) 0 true 94):=bg hx2
 have hx3':=hx3
 simp only[MK.cells,hnts] at hx3'
 have hF3:(h2++[av.aA ((List.replicate (aU d) (0:Int)).map i64) 0 true 3])[nF]? = some (.aA ((List.replicate (aU d) (⟨0,0,0,0⟩:aX)).flatMap aX.cells) 0 true 54):=bg hF2
 have hR3:(h2++[av.aA ((List.replicate (aU d) (0:Int)).map i64) 0 true 3])[h2.length]? = some (.aA ((List.replicate (aU d) (0:Int)).map i64) 0 true 3):=aJ
 have hk3:∀ (j:Nat) (o:av),j≠im→hD[j]? = some o→(h2++[av.aA ((List.replicate (aU d) (0:Int)).map i64) 0 true 3])[j]? = some o:=fun j o hj h=>bg (hk2 j o hj h)
 have hl3:(h2++[av.aA ((List.replicate (aU d) (0:Int)).map i64) 0 true 3]).length=hD.length+2:=by simp [hl2]
 generalize (h2++[av.aA ((List.replicate (aU d) (0:Int)).map i64) 0 true 3])=h3 at hx3 hx3' hF3 hR3 hk3 hl3 ⊢
 obtain⟨nR,hnR⟩:∃ nR,nR=h2.length:=⟨_,rfl⟩
 rw[← hnR] at hR3
 rw[← hnR]
 iterate 2 (refine zx tP ?_)
 refine bV (v:=(.slice (some ⟨nR,0,some 0⟩) (aU d) (aU d))) (vs:=[(.slice (some ⟨nR,0,some 0⟩) (aU d) (aU d))]) (cells':=MK.cells { m with vb:=(.slice pB B.length cB),vF:=(.slice (some ⟨nF,0,some 0⟩) (aU d) (aU d)),vR:=(.slice (some ⟨nR,0,some 0⟩) (aU d) (aU d)) }) ak rfl rfl rfl ak hx3 ak rfl rfl ?_
 dsimp only
 have S0:FS hD im nF nR (h3.set im (.aA (MK.cells { m with vb:=(.slice pB B.length cB),vF:=(.slice (some ⟨nF,0,some 0⟩) (aU d) (aU d)),vR:=(.slice (some ⟨nR,0,some 0⟩) (aU d) (aU d)) }) 0 true 94)) { m with vb:=(.slice pB B.length cB),vF:=(.slice (some ⟨nF,0,some 0⟩) (aU d) (aU d)),vR:=(.slice (some ⟨nR,0,some 0⟩) (aU d) (aU d)) } (List.replicate (aU d) tX) (List.replicate 0 (-1)++List.replicate (aU d-0) 0):=
  ⟨aw hx3,by rw[aD om];exact hF3,by rw[aD om];exact hR3,fun j o _ hj h=>by rw[aD hj.symm];exact hk3 j o hj h,by rw[List.length_set];omega⟩
 generalize h3.set im (.aA (MK.cells { m with vb:=(.slice pB B.length cB),vF:=(.slice (some ⟨nF,0,some 0⟩) (aU d) (aU d)),vR:=(.slice (some ⟨nR,0,some 0⟩) (aU d) (aU d)) }) 0 true 94)=h4 at S0 ⊢
 clear hx2 hx2' hF2 hk2 hx3 hx3' hF3 hR3 hk3
 have n1:nF≠im:=by omega
 have n2:nF≠nR:=by omega
 have n3:hD.length≤nF:=by omega
 have n4:nR≠im:=by omega
 have n5:hD.length≤nR:=by omega
 clear hl2 hl3 hnF hnR
 apply zn
 show CW _ _ ⟨_,[],h4⟩ _
 try apply zs
 have hx4:=S0.o
 simp only[MK.cells,hnts] at hx4
 refine aG hx4 ?_
 refine CW.mono (Q:=fun e s'=>e = .exit 4∧∃ x,FS hD im nF nR x { m with vb:=(.slice pB B.length cB),vF:=(.slice (some ⟨nF,0,some 0⟩) (aU d) (aU d)),vR:=(.slice (some ⟨nR,0,some 0⟩) (aU d) (aU d)) } (List.replicate (aU d) tX) (List.replicate (aU d) (-1))∧s'.h=x∧bA [(0,.val (.pointer (some ⟨im,0,some 0⟩))),(2,.val (.pointer (some ⟨im,12,some 0⟩)))] s'.fr) ?_ ?_
 ·refine aZ (aU d) (fun k (x:ah)=>[(0,.val (.pointer (some ⟨im,0,some 0⟩))),(2,.val (.pointer (some ⟨im,12,some 0⟩))),(78,.val (.slice (some ⟨nR,0,some 0⟩) (aU d) (aU d))),(79,.val (i64 (aU d))),(80,.val (i64 k))]) (fun _ x=>x) (fun k x=>FS hD im nF nR x { m with vb:=(.slice pB B.length cB),vF:=(.slice (some ⟨nF,0,some 0⟩) (aU d) (aU d)),vR:=(.slice (some ⟨nR,0,some 0⟩) (aU d) (aU d)) } (List.replicate (aU d) tX) (List.replicate k (-1)++List.replicate (aU d-k) 0)) h4 aK rfl S0 ?_
  rintro k x hkn S
  by_cases hlt:k<aU d
  ·have w1:=cg hlt
   have w2:=inc hlt om
   have q3:=aS hlt
   have hxo:=S.o
   simp only[MK.cells] at hxo
   have S2:=S.RJ n4 n2 n5 (List.replicate (k+1) (-1)++List.replicate (aU d-(k+1)) 0)
   have hwr:=oV (f:=i64) (l:=List.replicate k (-1:Int)++List.replicate (aU d-k) 0) (i:=k) (x:=-1) (by rw[List.length_append,List.length_replicate,List.length_replicate];omega)
   rw[FB hlt] at hwr
   refine aG q3 ?_
   refine ae rfl ?_
   refine gV hxo w1 Nat.mul_one ?_
   refine bV (v:=i64 (-1)) (vs:=[i64 (-1)]) ak rfl rfl rfl (KK hxo w1 Nat.mul_one) S.R rfl rfl hwr ?_
   dsimp only
   generalize x.set nR (.aA ((List.replicate (k+1) (-1)++List.replicate (aU d-(k+1)) 0).map i64) 0 true 3)=x2 at S2 ⊢
   refine aG w2 ?_
   refine⟨hlt,x2,aK,rfl,S2⟩
  ·have q3:=aP hlt
   obtain rfl:k=aU d:=by omega
   rw[Nat.sub_self,List.replicate_zero,List.append_nil] at S
   refine aG q3 ?_
   refine af rfl ?_
   refine az ?_
   exact⟨rfl,x,S,rfl,aK⟩
 rintro e s' ⟨rfl,x,S,hh,hf⟩
 show CW _ _ _ _
 refine aB _ hf ?_
 rw[hh]
 clear hf hh s' hx4 S0
 obtain⟨pFo,cFo,hvFo⟩:=bT.form K.D.follows
 obtain⟨pRe,cRe,hvRe⟩:=bT.form K.D.al
 have hkk:=br sE
 have hmis:m.is≠im:=by
  intro e
  rw[e,K.o] at hsm
  cases hsm
 have hsD:hD[m.is]? = some (.map (fU sE)):=hDk _ _ hmis (ag hpC hsm)
 have hsD':∀ {x:ah} {mm:MK} {SF:List aX} {SR:List Int},FS hD im nF nR x mm SF SR→x[m.is]? = some (.map (fU sE)):=fun S=>S.k _ _ (List.getElem?_eq_some_iff.1 hsD).1 hmis hsD
 have hp0:∀ {x:ah} {mm:MK} {SF:List aX} {SR:List Int},FS hD im nF nR x mm SF SR→h0 <+: x:=fun S=>by
  have e:=List.prefix_iff_eq_take.1 hDp
  refine List.prefix_iff_getElem?.2 fun i hi=>?_
  have h1:=List.prefix_iff_getElem?.1 hDp i hi
  exact S.k i _ (List.getElem?_eq_some_iff.1 h1).1 (by have:=K.a;omega) h1
 have hxo:=S.o
 simp only[MK.cells,hvFo] at hxo
 refine aG hxo ?_
 refine CW.mono (Q:=fun e s'=>e = .exit 6∧∃ x,FS hD im nF nR x { m with vb:=(.slice pB B.length cB),vF:=(.slice (some ⟨nF,0,some 0⟩) (aU d) (aU d)),vR:=(.slice (some ⟨nR,0,some 0⟩) (aU d) (aU d)) } (kq d d.follows) (List.replicate (aU d) (-1))∧s'.h=x∧bA [(0,.val (.pointer (some ⟨im,0,some 0⟩))),(2,.val (.pointer (some ⟨im,12,some 0⟩)))] s'.fr) ?_ ?_
 ·refine aZ d.follows.length (fun k (x:ah)=>[(0,.val (.pointer (some ⟨im,0,some 0⟩))),(2,.val (.pointer (some ⟨im,12,some 0⟩))),(95,.val (.slice pFo d.follows.length cFo)),(96,.val (i64 d.follows.length)),(97,.val (i64 k))]) (fun _ x=>x) (fun k x=>FS hD im nF nR x { m with vb:=(.slice pB B.length cB),vF:=(.slice (some ⟨nF,0,some 0⟩) (aU d) (aU d)),vR:=(.slice (some ⟨nR,0,some 0⟩) (aU d) (aU d)) } (kq d (d.follows.take k)) (List.replicate (aU d) (-1))) x aK rfl (by rw[List.take_zero];exact S) ?_
  clear hxo S x
  rintro k x hkn S
  by_cases hlt:k<d.follows.length
  ·have hfo:=K.D.follows
   rw[hvFo] at hfo
   obtain⟨id,ar,own,c',hv,hid⟩:=bT.at (bT.mono hfo (hp0 S)) om
   cases hv
   have hrd:=js hlt
   obtain⟨hfs,hfw⟩:=hfS _ (List.getElem_mem hlt)
   have hgs:=hsg _ hfs
   have hns:=hsn _ hfs
   have htk:=oS (d:=d) hlt
   have hfl2:=F4 (d:=d) k d.follows
   have hwf:=HW (d:=d) (fun x hx=>(hfS x hx).2) k
   have w1:=cg hlt
   have w2:=inc hlt om
   have q3:=aS hlt
   have w3:=cg hns
   have hxo:=S.o
   have hxs:=hsD' S
   have hxF:=S.F
   generalize d.follows[k]=f at hrd hfs hfw hgs hns htk w3
   generalize kq d (d.follows.take k)=SF at S htk hfl2 hwf hxF
   generalize eE d f.sort=n at hgs hns htk w3
   have hnl:n<SF.length:=by omega
   have hgd:SF.getD n tX=SF[n]:=by rw[List.getD_eq_getElem?_getD,List.getElem?_eq_getElem hnl];rfl
   rw[hgd] at htk
   have hsw:=hwf _ (List.getElem_mem hnl)
   have hrF:jU (SF.flatMap aX.cells) (n*4) 4=some [u64 SF[n].a,u64 SF[n].b,u64 SF[n].c,u64 SF[n].d]:=bS (f:=aX.cells) (fun _=>rfl) SF n SF[n] (by simp [hnl])
   have hwr:=Cr (f:=aX.cells) (k:=4) (fun _=>rfl) (x:=SF[n].union f.set) hnl
   rw[← htk] at hwr
   have S2:=S.Uw n1 n2 n3 (kq d (d.follows.take (k+1)))
   have hun:=F9 (h:=x) hsw hfw
   generalize SF[n]=sn at hrF hwr hun hsw
   have hxo':=hxo
   simp only[MK.cells] at hxo
   refine aG q3 ?_
   refine ae rfl ?_
   refine gV w1 hid hrd ?_
   refine aQ 6 mixed kr ?_
   refine fi hxo hxs hgs hkk ?_
   refine aB [(0,.val (.pointer (some ⟨im,0,some 0⟩))),(2,.val (.pointer (some ⟨im,12,some 0⟩))),(9,.box [.string f.sort,u64 f.set.a,u64 f.set.b,u64 f.set.c,u64 f.set.d]),(10,.val (i64 n)),(95,.val (.slice (some ⟨id,0,some ar⟩) d.follows.length cFo)),(96,.val (i64 d.follows.length)),(97,.val (i64 k))] aK ?_
   show CW _ _ ⟨_,[],x⟩ _
   try apply zs
   apply bm (L:=[[],[0],[0,1],[0,1,2],[],[],[5],[5,6],[5,6,7],[],[5,6,7,8,9],[5,6,7,8,9,10],[],[12],[5,6,7,8,9,10,11,12,13],[0,1,2,3,4],[0,1,2,3,4,5,6,7,8,9,10,11,12,13,14,15]]) (act:=[16]) (hs:=[x.set nF (.aA ((kq d (d.follows.take (k+1))).flatMap aX.cells) 0 true 54)]) (resL:=[_,_,_,_,_,_,_,_,_,_,_,_,_,_,_,_,_]) (frF:=[(0,.val (.pointer (some ⟨im,0,some 0⟩))),(2,.val (.pointer (some ⟨im,12,some 0⟩))),(95,.val (.slice (some ⟨id,0,some ar⟩) d.follows.length cFo)),(96,.val (i64 d.follows.length)),(97,.val (i64 k))])
   case hm=>exact mixed
   case hc=>kernel_rfl
   case ha=>rfl
   case hb=>rfl
   case hS=>
    refine tQ hxo w3 hxF hrF ?_
    apply ay.cons
    ·rfl
    ·refine⟨?_,trivial⟩
     exact bi (fn:=Tryz.f105) (args:=[sn.val,f.set.val]) (cap:=[]) rfl ak rfl ak ak Tryz.func105 kr kr hun
    ·rfl
    refine tQ hxo w3 hxF hrF ?_
    apply ay.cons
    ·rfl
    ·refine⟨?_,trivial⟩
     exact One.jP (r:=.sl .dH) ak rfl ak ak hxF ak rfl hwr rfl
    ·rfl
    exact ay.nil _
   case ht=>rfl
   case hF=>exact zh
   show CW _ _ ⟨_,[],x.set nF (.aA ((kq d (d.follows.take (k+1))).flatMap aX.cells) 0 true 54)⟩ _
   generalize x.set nF (.aA ((kq d (d.follows.take (k+1))).flatMap aX.cells) 0 true 54)=x2 at S2 ⊢
   refine aG w2 ?_
   refine⟨hlt,x2,aK,rfl,S2⟩
  ·have q3:=aP hlt
   obtain rfl:k=d.follows.length:=by omega
   rw[List.take_length] at S
   refine aG q3 ?_
   refine af rfl ?_
   refine az ?_
   exact⟨rfl,x,S,rfl,aK⟩
 clear hxo S x
 rintro e s' ⟨rfl,x,S,hh,hf⟩
 show CW _ _ _ _
 refine aB _ hf ?_
 rw[hh]
 clear hf hh s'
 have hxo:=S.o
 simp only[MK.cells,hvRe] at hxo
 refine aG hxo ?_
 refine aZ d.al.length (fun k (x:ah)=>[(0,.val (.pointer (some ⟨im,0,some 0⟩))),(2,.val (.pointer (some ⟨im,12,some 0⟩))),(130,.val (.slice pRe d.al.length cRe)),(131,.val (i64 d.al.length)),(132,.val (i64 k))]) (fun _ x=>x) (fun k x=>FS hD im nF nR x { m with vb:=(.slice pB B.length cB),vF:=(.slice (some ⟨nF,0,some 0⟩) (aU d) (aU d)),vR:=(.slice (some ⟨nR,0,some 0⟩) (aU d) (aU d)) } (kq d d.follows) (tc d (d.al.take k))) x aK rfl (by rw[List.take_zero];exact S) ?_
 clear hxo S x
 rintro k x hkn S
 by_cases hlt:k<d.al.length
 ·have hre:=K.D.al
  rw[hvRe] at hre
  obtain⟨id,ar,own,c',hv,hid⟩:=bT.at (bT.mono hre (hp0 S)) om
  cases hv
  have hrd:=ij hlt
  obtain⟨hfs,hfb⟩:=hrS _ (List.getElem_mem hlt)
  have hgs:=hsg _ hfs
  have hgb:=hsg _ hfb
  have hns:=hsn _ hfs
  have htk:=uS (d:=d) hlt
  have hfl2:=Ga (d:=d) k d.al
  have w1:=cg hlt
  have w2:=inc hlt om
  have q3:=aS hlt
  have w3:=cg hns
  have hxo:=S.o
  have hxs:=hsD' S
  have hxR:=S.R
  generalize d.al[k]=f at hrd hfs hgs hgb hns htk w3
  generalize tc d (d.al.take k)=SR at S htk hfl2 hxR
  generalize eE d f.sort=n at hgs hns htk w3
  generalize eE d f.jR=nb at hgb htk
  have hnl:n<SR.length:=by omega
  have hwr:=oV (f:=i64) (l:=SR) (x:=(nb:Int)) hnl
  rw[← htk] at hwr
  have S2:=S.RJ n4 n2 n5 (tc d (d.al.take (k+1)))
  simp only[MK.cells] at hxo
  refine aG q3 ?_
  refine ae rfl ?_
  refine gV w1 hid hrd ?_
  refine aQ 18 mixed kr ?_
  refine C6 hxo hxs hgs hgb hkk w3 Nat.mul_one ?_
  refine bV (v:=i64 (nb:Int)) (vs:=[i64 (nb:Int)]) ak rfl rfl rfl (KK hxo w3 Nat.mul_one) hxR ak rfl hwr ?_
  dsimp only
  generalize x.set nR (.aA ((tc d (d.al.take (k+1))).map i64) 0 true 3)=x2 at S2 ⊢
  refine aG w2 ?_
  refine⟨hlt,x2,aK,rfl,S2⟩
 ·have q3:=aP hlt
  obtain rfl:k=d.al.length:=by omega
  rw[List.take_length] at S
  refine aG q3 ?_
  refine af rfl ?_
  refine az ?_
  refine⟨rfl,trivial,_,_,_,⟨hp0 S,?_,S.o,?_,?_,?_,?_⟩⟩
  ·show hk.length≤x.length
   have:=S.l;have:=hpC.length_le;omega
  ·exact fun j o hj hne2 h=>S.k j o (by have:=hpC.length_le;omega) hne2 (hDk j o hne2 (ag hpC h))
  ·rw[← hF]
   exact hDb.mono fun j o hj g=>S.k j o (List.getElem?_eq_some_iff.1 g).1 (by have:=(hDb.lt hj).1;have:=(List.getElem?_eq_some_iff.1 K.o).1;omega) g
  ·exact .inr ⟨nF,0,by have:=hpC.length_le;omega,rfl,S.F⟩
  ·exact .inr ⟨nR,0,by have:=hpC.length_le;omega,rfl,S.R⟩
·exact fun h2 hP=>⟨_,ak,rfl,hP⟩}
end
theorem kC {ps:List Prod} {s:ByteArray} (h:cH ps s≠0):s∈aE ps:=by{
apply Classical.byContradiction
intro q
exact h (tk.2 q)}
theorem BS {d:bM} {p:Prod} {s:Sym} (hp:p∈d.aa) (hs:s∈p.aj) (hn:b7 s.name=false):s.name∈fF d:=by{
unfold fF nP
refine List.mem_append_left _ (List.mem_append_left _ ?_)
rw[List.mem_flatMap]
refine⟨p,hp,?_⟩
unfold cW
rw[List.mem_filterMap]
refine⟨s,hs,?_⟩
unfold b7 at hn
rw[if_neg (of_decide_eq_false hn)]}
theorem lM {s:Sym} (h:bf s=true):s.text.size≤32∧(fV s=true→s.sep.size≤32)∧(s.kind=1∨s.kind=2∨s.kind=3∨s.kind=4∨s.kind=5∨s.kind=6):=by{
unfold bf at h
have hz:∀ {b:ByteArray},b7 b=true→b.size≤32:=fun h=>by rw[wh.1 h];decide
by_cases k1:s.kind=1
·rw[if_pos k1] at h
 simp only[Bool.and_eq_true,decide_eq_true_eq] at h
 exact⟨by omega,fun _=>hz h.2.2.2,.inl k1⟩
rw[if_neg k1] at h
by_cases k2:s.kind=2
·rw[if_pos k2] at h
 simp only[Bool.and_eq_true] at h
 exact⟨hz h.1,fun _=>hz h.2.2,.inr (.inl k2)⟩
rw[if_neg k2] at h
by_cases k3:s.kind=3
·rw[if_pos k3] at h
 simp only[Bool.and_eq_true] at h
 exact⟨hz h.1,fun _=>hz h.2.2.2,.inr (.inr (.inl k3))⟩
rw[if_neg k3] at h
by_cases k4:s.kind=4
·rw[if_pos k4] at h
 simp only[Bool.and_eq_true] at h
 exact⟨hz h.1,fun _=>hz h.2.1,.inr (.inr (.inr (.inl k4)))⟩
rw[if_neg k4] at h
by_cases k5:s.kind=5∨s.kind=6
·rw[if_pos k5] at h
 by_cases e:b7 s.name=true
 ·rw[if_pos e] at h
  simp only[Bool.and_eq_true] at h
  exact⟨hz h.1,fun _=>hz h.2,.inr (.inr (.inr (.inr k5)))⟩
 ·rw[if_neg e] at h
  simp only[Bool.and_eq_true,decide_eq_true_eq] at h
  exact⟨hz h.1,fun _=>by omega,.inr (.inr (.inr (.inr k5)))⟩
·rw[if_neg k5] at h
 cases h}
theorem oQ {d:bM} (hr:cE d=true) {p:Prod} (hp:p∈d.aa) {s:Sym} (hs:s∈p.aj):bf s=true:=by{
unfold cE at hr
simp only[Bool.and_eq_true] at hr
have hrp:=List.all_eq_true.1 hr.2.1 _ hp
unfold ct at hrp
simp only[Bool.and_eq_true] at hrp
exact List.all_eq_true.1 hrp.2.2 _ hs}
section
variable {d:bM}
theorem ko (hp:cX d≤160):d.aa.length≤160∧d.au.length≤160∧d.follows.length≤160∧d.al.length≤160∧cJ (fun p=>p.aj.length) d.aa+cJ vy d.au≤160:=by
 unfold cX at hp
 omega
theorem lx (hc:dI d) {p:Prod} (hp:p∈d.aa):tb d p:=by{
have hr:cE d=true:=hc 0 (by decide)
have hu:∀ s∈fF d,cH d.aa s≠0:=hc 3 (by decide)
have hl:∀ p∈d.aa,uk d p=false:=hc 7 (by decide)
refine⟨hp,(mI hr hp).2,fun s hs=>(lM (oQ hr hp hs)).1,fun s hs=>?_,pY.2 ⟨p,hp,rfl⟩,?_⟩
·cases e:b7 s.name with
 | true=>exact .inr (.inl rfl)
 | false=>exact .inr (.inr (kC (hu _ (BS hp hs e))))
·have:=hl p hp
 unfold uk at this
 simp only[Bool.or_eq_false_iff,decide_eq_false_iff_not] at this
 omega}
theorem BQ (hc:dI d) (hp:cX d≤160):jz d:=by{
have hr:cE d=true:=hc 0 (by decide)
have hu:∀ s∈fF d,cH d.aa s≠0:=hc 3 (by decide)
have he:cH d.aa d.start=2∧(d.layout.size=0∨cH d.aa d.layout=1):=hc 2 (by decide)
obtain⟨h1,h2,h3,h4,h5⟩:=ko hp
refine⟨fun p hp=>lx hc hp,by omega,kC om,?_,fun k hk=>?_,?_⟩
·rcases he.2 with e|e
 ·exact .inl (wh.2 e)
 ·exact .inr (kC om)
·obtain⟨p,hp,s,hs,hL,rfl⟩:=mem_keys.1 hk
 have hR:=oQ hr hp hs
 refine⟨?_,(lM hR).2.1 hL⟩
 show b7 s.name=true∨s.name∈_
 cases e:b7 s.name with
 | true=>exact .inl rfl
 | false=>exact .inr (kC (hu _ (BS hp hs e)))
·have:=lZ (ps:=d.aa) (l:=[])
 simp only[List.length_nil] at this
 unfold bh
 omega}
theorem EB (hp:cX d≤160) (hn:∀ p∈d.aa,p.aj.length≤12) (k:Nat) (hk:k<d.aa.length) (j:Nat):(g8 d.aa[k].lex (bh (d.aa.take k)) (d.aa[k].aj.take j)).length≤3000:=by{
obtain⟨h1,h2,h3,h4,h5⟩:=ko hp
have a:=o7 (lex:=d.aa[k].lex) (ys:=d.aa[k].aj.take j) (l:=bh (d.aa.take k))
have b:=lZ (ps:=d.aa.take k) (l:=[])
have c:=nN (f:=fun p:Prod=>p.aj.length) (B:=12) (l:=d.aa.take k) fun p hp=>hn p (List.mem_of_mem_take hp)
have e:=hn _ (List.getElem_mem hk)
rw[List.length_take] at a c
simp only[List.length_nil] at b
unfold bh at a ⊢
omega}
def sS {α:Type} (P:α→Bool) (l:List α):List Nat:=(List.range l.length).filter fun i=>match l[i]? with
 | some x=>P x
 | none=>false
theorem sU {α:Type} {P:α→Bool} {A B:List α}:sS P (A++B)=sS P A++(sS P B).map (A.length + ·):=by{
unfold sS
rw[List.length_append,List.range_add,List.filter_append,List.filter_map]
congr 1
·refine List.filter_congr fun i hi=>?_
 rw[List.getElem?_append_left (List.mem_range.1 hi)]
·congr 1
 refine List.filter_congr fun i hi=>?_
 simp only[Function.comp_apply]
 rw[List.getElem?_append_right om,Nat.add_sub_cancel_left]}
theorem oH {α:Type} {P:α→Bool} {l:List α} (h:∀ x∈l,P x=false):sS P l=[]:=by{
unfold sS
rw[List.filter_eq_nil_iff]
intro i hi
rw[List.getElem?_eq_getElem (List.mem_range.1 hi)]
simp only[h _ (List.getElem_mem _),Bool.false_eq_true,not_false_eq_true]}
theorem FA {α:Type} {P:α→Bool} {l:List α} (h:∀ x∈l,P x=true):sS P l=List.range l.length:=by{
unfold sS
rw[List.filter_eq_self]
intro i hi
rw[List.getElem?_eq_getElem (List.mem_range.1 hi)]
exact h _ (List.getElem_mem _)}
def Cf (i:Nat) (o:gO):Bool:=decide (o.kind=0)&&decide (o.prod=(i:Int))
theorem Ax {os:List gO} {i:Nat}:eS os i=sS (Cf i) os:=by{
unfold eS sS
refine List.filter_congr fun j _=>?_
unfold Ab Cf
cases os[j]?<;>rfl}
def PP (d:bM) (i:Nat):Nat:=(ii d i).length
abbrev gl (d:bM):List gO:=(uZ d).map (·.2)
theorem Ds {i:Nat} {p:Prod}:(jX d i p).length=k8 p:=by unfold jX;rw[List.length_map,List.length_range]
theorem PY {i:Nat} (hi:i<d.aa.length):∀ k,k≤d.aa.length→sS (Cf i) ((ii d k).map (·.2))=if i<k then (List.range (k8 d.aa[i])).map (PP d i + ·) else []
 | 0,_=>rfl
 | k+1,hk=>by
   have ih:=PY hi k om
   rw[jk (show k<d.aa.length by omega),List.map_append,sU,ih]
   by_cases e:i=k
   ·subst e
    rw[if_neg om,if_pos om,List.nil_append,FA]
    ·rw[List.length_map,List.length_map,Ds]
     rfl
    ·intro x hx
     unfold jX at hx
     rw[List.map_map,List.mem_map] at hx
     obtain⟨m,_,rfl⟩:=hx
     unfold Cf nj
     simp
   ·rw[oH (l:=(jX d k _).map _)]
    ·by_cases q:i<k
     ·rw[if_pos q,if_pos om];simp
     ·rw[if_neg q,if_neg om];rfl
    ·intro x hx
     unfold jX at hx
     rw[List.map_map,List.mem_map] at hx
     obtain⟨m,_,rfl⟩:=hx
     unfold Cf nj
     simp
     omega
theorem Hk {l:List bt}:∀ x∈iS d l,x.2.kind=1∨x.2.kind=2:=by{
intro x hx
unfold iS at hx
rw[List.mem_flatMap] at hx
obtain⟨k,_,hx⟩:=hx
unfold An at hx
simp only[List.mem_cons,List.not_mem_nil,or_false] at hx
rcases hx with rfl|rfl
·exact .inl rfl
·exact .inr rfl}
theorem Gg:∀ x∈oD d,x.2.kind=3∨x.2.kind=4∨x.2.kind=5:=by{
intro x hx
unfold oD at hx
split at hx
·simp only[List.mem_cons,List.not_mem_nil,or_false] at hx
 subst hx
 exact .inr (.inr rfl)
·simp only[List.mem_cons,List.not_mem_nil,or_false] at hx
 rcases hx with rfl|rfl|rfl
 ·exact .inl rfl
 ·exact .inr (.inl rfl)
 ·exact .inr (.inr rfl)}
theorem Gl {i:Nat} (hi:i<d.aa.length):eS (gl d) i=(List.range (k8 d.aa[i])).map (PP d i + ·):=by{
rw[Ax]
unfold gl uZ
rw[List.map_append,List.map_append,sU,sU,PY hi _ (Nat.le_refl _),if_pos hi,oH (l:=(iS d _).map _),oH (l:=(oD d).map _)]
·simp
·intro x hx
 rw[List.mem_map] at hx
 obtain⟨y,hy,rfl⟩:=hx
 have:=Gg y hy
 unfold Cf
 rw[decide_eq_false om]
 rfl
·intro x hx
 rw[List.mem_map] at hx
 obtain⟨y,hy,rfl⟩:=hx
 have:=Hk y hy
 unfold Cf
 rw[decide_eq_false om]
 rfl}
end
theorem ox {α β:Type} {f:α→List β} {B:Nat}:∀ {l:List α},(∀ x∈l,(f x).length≤B)→(l.flatMap f).length≤l.length*B
 | [],_=>by simp
 | x :: l,h=>by
   have ih:=ox (f:=f) (B:=B) (l:=l) fun y hy=>h y (List.mem_cons_of_mem _ hy)
   have:=h x List.mem_cons_self
   rw[List.flatMap_cons,List.length_append,List.length_cons,Nat.succ_mul]
   omega
theorem sX {α β:Type} {f:α→List β} {g:α→Nat}:∀ {l:List α},(∀ x∈l,(f x).length≤g x)→(l.flatMap f).length≤(l.map g).sum
 | [],_=>by simp
 | x :: l,h=>by
   have ih:=sX (f:=f) (g:=g) (l:=l) fun y hy=>h y (List.mem_cons_of_mem _ hy)
   have:=h x List.mem_cons_self
   rw[List.flatMap_cons,List.length_append,List.map_cons,List.sum_cons]
   omega
theorem xm {α:Type} {g:α→Nat} {B:Nat}:∀ l:List α,(l.map fun x=>g x*B).sum=(l.map g).sum*B
 | []=>by simp
 | x :: l=>by
   rw[List.map_cons,List.sum_cons,List.map_cons,List.sum_cons,xm l,Nat.add_mul]
theorem Ac (f:Nat→Nat):∀ (n:Nat) (I:List Nat),I.Nodup→(∀ i∈I,i<n)→(I.map f).sum≤((List.range n).map f).sum
 | 0,I,_,h=>by
   have:I=[]:=by
    cases I with
    | nil=>rfl
    | cons a r=>exact absurd (h a List.mem_cons_self) om
   rw[this]
   simp
 | n+1,I,hn,h=>by
   rw[List.range_succ,List.map_append,List.sum_append,List.map_singleton,List.sum_singleton]
   by_cases q:n∈I
   ·have hp:=List.perm_cons_erase q
    have e:=(hp.map f).sum_nat
    rw[List.map_cons,List.sum_cons] at e
    have ih:=Ac f n (I.erase n) (hn.erase n) fun i hi=>by
     have h1:=h i (List.mem_of_mem_erase hi)
     have h2:i≠n:=fun e=>by
      subst e
      exact (List.Nodup.not_mem_erase hn) hi
     omega
    omega
   ·have ih:=Ac f n I hn fun i hi=>by
     have h1:=h i hi
     have h2:i≠n:=fun e=>q (e▸hi)
     omega
    omega
theorem CI {α:Type} (g:α→Nat) (l:List α):((List.range l.length).map fun i=>(l[i]?.map g).getD 0)=l.map g:=by{
refine List.ext_getElem (by simp) fun i h1 h2=>?_
rw[List.length_map] at h2
simp [h2]}
section
variable {d:bM}
theorem GG (G:jz d) {i:Nat} (hi:i<d.aa.length):k8 d.aa[i]≤16:=sJ (G.p _ (List.getElem_mem hi)).o
theorem rI (G:jz d) (hp:cX d≤160):(uZ d).length≤3000:=by{
obtain⟨h1,h2,h3,h4,h5⟩:=ko hp
have a:=nW G.p d.aa.length
have b:=oI (d:=d) (l:=bh d.aa)
have c:=lZ (ps:=d.aa) (l:=[])
have e:(oD d).length≤3:=by unfold oD;split<;>simp
simp only[List.length_nil] at c
unfold uZ
rw[List.length_append,List.length_append]
unfold bh at b ⊢
omega}
theorem ph (G:jz d):∀ o∈gl d,o.aj.length≤396:=by{
intro o ho
unfold gl at ho
rw[List.mem_map] at ho
obtain⟨x,hx,rfl⟩:=ho
unfold uZ at hx
rw[List.mem_append,List.mem_append] at hx
have key:∀ k,k≤d.aa.length→∀ x∈ii d k,x.2.aj.length≤396:=by
 intro k
 induction k with
 | zero=>intro _ x hx;simp [ii] at hx
 | succ k ih=>
   intro hk x hx
   rw[jk (show k<d.aa.length by omega),List.mem_append] at hx
   rcases hx with hx|hx
   ·exact ih om x hx
   ·unfold jX at hx
    rw[List.mem_map] at hx
    obtain⟨m,_,rfl⟩:=hx
    have hG:=G.p _ (List.getElem_mem (show k<d.aa.length by omega))
    have:=o3 (mask:=m) hG d.aa[k].aj.length
    have h12:=hG.n
    show (cZ d d.aa[k] m).os.length≤396
    unfold cZ
    omega
rcases hx with (hx|hx) | hx
·exact key _ (Nat.le_refl _) x hx
·unfold iS at hx
 rw[List.mem_flatMap] at hx
 obtain⟨k,_,hx⟩:=hx
 unfold An at hx
 simp only[List.mem_cons,List.not_mem_nil,or_false] at hx
 rcases hx with rfl|rfl<;>simp
·unfold oD at hx
 split at hx
 ·simp only[List.mem_cons,List.not_mem_nil,or_false] at hx
  subst hx
  simp
 ·simp only[List.mem_cons,List.not_mem_nil,or_false] at hx
  rcases hx with rfl|rfl|rfl<;>simp}
theorem u7 (G:jz d) {i:Nat} (hi:i<d.aa.length):(eS (gl d) i).length≤16:=by
 rw[Gl hi,List.length_map,List.length_range]
 exact GG G hi
theorem J4 (G:jz d) {p a q:Nat} (hp:p<d.aa.length) (hq:q<d.aa.length):(ue (gl d) p a q).length≤101376:=by{
unfold ue
have h1:=u7 G hp
have h2:((eS (gl d) p).flatMap (oT (gl d) a q)).length≤(eS (gl d) p).length*6336:=by
 refine ox fun r hr=>?_
 have h3:=mf hr
 unfold oT
 rw[List.getElem?_eq_getElem h3]
 simp only
 have h4:=ph G _ (List.getElem_mem h3)
 have h5:((List.range (gl d)[r].aj.length).flatMap (qL (gl d) r (gl d)[r] a q)).length≤(List.range (gl d)[r].aj.length).length*16:=by
  refine ox fun j _=>?_
  unfold qL
  split
  ·rw[List.length_map];exact u7 G hq
  ·simp
 rw[List.length_range] at h5
 omega
omega}
theorem Kd (G:jz d) {p q:CE} (hp:p.at_<d.aa.length) (hq:q.at_<d.aa.length):(kf d (gl d) p q).length≤((d.aa[p.at_]?.map fun x=>x.aj.length).getD 0)*101376:=by{
unfold kf
rw[List.getElem?_eq_getElem hp]
simp only[Option.map_some,Option.getD_some]
have:=ox (f:=fun y:Sym×Nat=>vZ d (gl d) p q d.aa[p.at_].aj.length y.2 y.1) (B:=101376) (l:=d.aa[p.at_].aj.zipIdx) fun y _=>by
 unfold vZ
 rw[List.getElem?_eq_getElem hq]
 simp only
 split
 ·exact J4 G hp hq
 ·simp
rw[List.length_zipIdx] at this
exact this}
theorem CM (G:jz d) {l:List dK} (hok:gU d.aa (dB l)):(gN d (gl d) l).length≤cJ (fun p=>p.aj.length) d.aa*((dB l).length*101376):=by{
unfold gN
have h1:((ru d.aa l).flatMap fun p=>(ru d.aa l).flatMap fun q=>kf d (gl d) p q).length≤((ru d.aa l).map fun p=>((d.aa[p.at_]?.map fun x=>x.aj.length).getD 0)*((dB l).length*101376)).sum:=by
 refine sX fun p hp=>?_
 have h2:=ox (f:=fun q=>kf d (gl d) p q) (l:=ru d.aa l) (B:=((d.aa[p.at_]?.map fun x=>x.aj.length).getD 0)*101376) fun q hq=>Kd G (wG hok hp) (wG hok hq)
 rw[wO] at h2
 refine Nat.le_trans h2 (Nat.le_of_eq ?_)
 rw[Nat.mul_left_comm]
refine Nat.le_trans h1 ?_
rw[xm]
refine Nat.mul_le_mul_right _ ?_
have h3:=Ac (fun i=>(d.aa[i]?.map fun x=>x.aj.length).getD 0) d.aa.length ((ru d.aa l).map CE.at_) (pD hok) fun i hi=>by
 rw[List.mem_map] at hi
 obtain⟨e,he,rfl⟩:=hi
 exact wG hok he
rw[CI,List.map_map] at h3
exact h3}
theorem uu (l:List dK):(dB l).length≤vy l:=by{
unfold dB vy cJ
rw[List.length_flatMap]
exact Nat.le_add_left _ _}
theorem Jq (G:jz d) (hok:xh d) (hp:cX d≤160):(lh d (gl d)).length≤1000000000:=by{
obtain⟨h1,h2,h3,h4,h5⟩:=ko hp
unfold lh
have a:=sX (f:=gN d (gl d)) (g:=fun l=>vy l*(cJ (fun p=>p.aj.length) d.aa*101376)) (l:=d.au) fun l hl=>by
 refine Nat.le_trans (CM G (hok l hl)) ?_
 rw[Nat.mul_left_comm]
 exact Nat.mul_le_mul_right _ (uu l)
rw[xm] at a
have e:(d.au.map vy).sum=cJ vy d.au:=rfl
rw[e] at a
generalize cJ (fun p=>p.aj.length) d.aa=S at a h5
generalize cJ vy d.au=C at a h5
have:C*(S*101376)≤160*(160*101376) / 1:=by
 rw[Nat.div_one]
 exact Nat.mul_le_mul om (Nat.mul_le_mul_right _ om)
have hCS:C*S≤6400:=by
 have h:C≤160-S:=by omega
 have h2:C*S≤(160-S)*S:=Nat.mul_le_mul_right _ h
 have h3:∀ S:Fin 161,(160-S.1)*S.1≤6400:=by decide
 have:=h3 ⟨S,by omega⟩
 simp only at this
 omega
have e2:C*(S*101376)=C*S*101376:=(Nat.mul_assoc _ _ _).symm
rw[e2] at a
omega}
theorem Gw (hp:cX d≤160):∀ c∈d.au,(dB c).length≤1000∧c.length≤1000:=by{
intro c hc
obtain⟨h1,h2,h3,h4,h5⟩:=ko hp
have a:=sN (f:=vy) hc
have b:=uu c
have e:c.length≤vy c:=by unfold vy;omega
omega}
end
def iC (d:bM) (nm:List ByteArray):List ByteArray:=aE d.aa++nm++(if b7 d.layout=true then [] else [ByteArray.mk #[103,97,112]])++[ByteArray.mk #[116,111,112]]
abbrev uw (m:MK):Value:=.agg #[.string m.start,.string m.layout,m.vP,m.vC,m.OE,m.OO,m.vB,i64 m.cK,i64 m.st,m.vr,m.vf,m.vn,m.vb,m.vF,m.vR]
abbrev Sb:Value:=.agg #[.string ⟨#[]⟩,.string ⟨#[]⟩,bX,bX,bX,bX,bX,i64 0,i64 0,bX,bX,bX,bX,bX,bX]
structure KO (h h':ah) (d:bM) (m:MK) (nm:List ByteArray):Prop where
 p:h <+: h'
 D:Fr (fun x=>bH x d m.vP m.vC m.OE m.OO m.vB) h.length h'
 s1:m.start=d.start
 s2:m.layout=d.layout
 cK:m.cK=(aU d:Int)
 st:m.st=(cA d:Int)
 r:tu h h' m.vr ((uZ d).map (·.1))
 f:AT h h' m.vf (gl d)
 n:aL h h' m.vn (iC d nm).length ((iC d nm).map .string) 9
 nl:nm.length=nK d
 ne:∀ b∈nm,yt b
 b:aL h h' m.vb (lc [] (lh d (gl d))).length (BC (Th d)) 70
 F:aL h h' m.vF (aU d) ((kq d d.follows).flatMap aX.cells) 54
 R:aL h h' m.vR (aU d) ((tc d d.al).map i64) 3
theorem gS.base {α:Type} {f:α→Value→List Value} {g:α→List Value} {w:Nat} {et et2:TypeId} {a b c:ah} {v:Value} {l:List α} (k:gS f g w et et2 b c v l) (h:a <+: b):gS f g w et et2 a c v l:=by{
obtain⟨us,hl,G,hu⟩:=k
exact⟨us,hl,G.base h,fun i x u k1 k2=>by
 obtain⟨n,e,g'⟩:=hu i x u k1 k2
 exact⟨n,e,g'.base h⟩⟩}
theorem AT.rd {h h':ah} {v:Value} {l:List gO} (k:AT h h' v l) (hl:l.length≤1000000) (hs:∀ o∈l,o.aj.length≤1000000):fO h' v l:=by{
obtain⟨us,e,G,hu⟩:=k
refine⟨us,e,G.sl om,fun i r u h1 h2=>?_⟩
obtain⟨n,en,g⟩:=hu i r u h1 h2
have hr:=hs r (List.mem_of_getElem? h1)
have:n=r.aj.length:=by
 have:(Tn r).length=r.aj.length:=List.length_map ..
 omega
subst this
exact g.sl (b:=8) om}
theorem JH {hk h':ah} {im:Nat} {cells:List Value} (ho:hk[im]? = some (.aA cells 0 true 94)) (k:∀ (j:Nat) (o:av),j<hk.length→j≠im→hk[j]? = some o→h'[j]? = some o):cj [94] hk h':=fun j o e q=>by
 refine k j o (List.getElem?_eq_some_iff.1 e).1 (fun e1=>?_) e
 subst e1
 rw[ho] at e
 cases e
 simp [tN] at q
theorem rD {x:ByteArray}:∀ {l:List ByteArray},x∈l→l.idxOf x<l.length
 | [],h=>by simp at h
 | a :: l,h=>by
   rw[nv]
   by_cases e:x=a
   ·rw[if_pos e];simp
   ·rw[if_neg e]
    have:=rD ((List.mem_cons.1 h).resolve_left e)
    simp only[List.length_cons]
    omega
section
variable {h:ah} {d:bM} {up uc uf ur ub:Value}
theorem Jo (hd:bH h d up uc uf ur ub) (hw:qd d) (hpn:cE d=true→cX d≤160) : FW env 15 [.agg (d.val up uc uf ur ub).toArray] h fun r h'=>(¬ dI d∧r = .tuple #[Sb,i64 53]∧h'=h)∨(dI d∧∃ m nm,r = .tuple #[uw m,i64 0]∧KO h h' d m nm):=by{
have hck:=EX hd hw hpn
have hcp:=D9 hd
unfold bM.val at hck hcp
have hd0:=hd
obtain⟨p1,c1,p2,c2,p3,c3,p4,c4,p5,c5,rfl,rfl,rfl,rfl,rfl,l1,l2,l3,l4,l5⟩:=bH.form hd
refine fe Tryz.func15 ?_;simp only[push_cast]
unfold bM.val
refine aC ?_
refine zj Tryz.func31 ?_
refine hck.mono ?_
rintro _ h1 ⟨⟨e,w,rfl,he⟩,e1⟩
obtain rfl:=e1.symm
by_cases q:e=0
·have hok:=he.1 q
 have d1:=decide_eq_true q
 have hpt:=hpn (hok 0 (by decide))
 have G:=BQ hok hpt
 obtain⟨b1,b2,b3,b4,b5⟩:=ko hpt
 refine aG d1 ?_
 refine af rfl ?_
 refine zu ?_
 iterate 1 (refine zx tP ?_)
 refine zj Tryz.func32 ?_
 refine hcp.mono ?_
 rintro _ h1 ⟨hp1,vp,vc,vf,vr,vb,rfl,hF⟩
 have hD1:=hF.now
 obtain⟨p1',c1',rfl⟩:=cV.form hD1.aa
 obtain⟨p2',c2',rfl⟩:=cV.form hD1.au
 obtain⟨p3',c3',rfl⟩:=bT.form hD1.follows
 obtain⟨p4',c4',rfl⟩:=bT.form hD1.al
 obtain⟨p5',c5',rfl⟩:=cV.form hD1.boxes
 iterate 1 (refine zx tP ?_)
 refine kP (kt:=9) (et:=3) ak rfl kr ?_
 dsimp only[St.a9,St.put]
 have hpA:h1 <+: h1++[av.map []]:=aH
 have hmA:(h1++[av.map []])[h1.length]? = some (.map (fU [])):=aJ
 have hlA:(h1++[av.map []]).length=h1.length+1:=by simp
 generalize (h1++[av.map []])=hA at hpA hmA hlA ⊢
 obtain⟨is,his⟩:∃ is,is=h1.length:=⟨_,rfl⟩
 rw[← his] at hmA
 rw[← his]
 refine kP (kt:=154) (et:=3) ak rfl kr ?_
 dsimp only[St.a9,St.put]
 have hpB:h1 <+: hA++[av.map []]:=bU hpA
 have hmB:(hA++[av.map []])[is]? = some (.map (fU [])):=bg hmA
 have hnB:(hA++[av.map []])[hA.length]? = some (.map (kE [])):=aJ
 have hlB:(hA++[av.map []]).length=h1.length+2:=by simp [hlA]
 generalize (hA++[av.map []])=hB at hpB hmB hnB hlB ⊢
 obtain⟨il,hil⟩:∃ il,il=hA.length:=⟨_,rfl⟩
 rw[← hil] at hnB
 rw[← hil]
 iterate 1 (refine zx tP ?_)
 obtain⟨m0,hm0⟩:∃ m0:MK,m0=⟨d.start,d.layout,.slice p1' d.aa.length c1',.slice p2' d.au.length c2',.slice p3' d.follows.length c3',.slice p4' d.al.length c4',.slice p5' d.boxes.length c5',0,0,bX,bX,bX,bX,bX,bX,is,il,bX,0⟩:=⟨_,rfl⟩
 refine dA (t:=94) (cs:=m0.cells) ak (by rw[hm0];unfold MK.cells;exact ak) ?_
 dsimp only[St.a9,St.put]
 have hpC:h1 <+: hB++[av.aA m0.cells 0 true 94]:=bU hpB
 have hmC:(hB++[av.aA m0.cells 0 true 94])[is]? = some (.map (fU [])):=bg hmB
 have hnC:(hB++[av.aA m0.cells 0 true 94])[il]? = some (.map (kE [])):=bg hnB
 have hoC:(hB++[av.aA m0.cells 0 true 94])[hB.length]? = some (.aA m0.cells 0 true 94):=aJ
 generalize (hB++[av.aA m0.cells 0 true 94])=hC at hpC hmC hnC hoC ⊢
 obtain⟨im,him⟩:∃ im,im=hB.length:=⟨_,rfl⟩
 rw[← him] at hoC
 rw[← him]
 have hkY:=EB hpt (fun p hp=>(G.p p hp).n)
 have hnS:=bZ (ps:=d.aa)
 have hnt:=NO (h0:=h1) (hk:=hC) (im:=im) (m:=m0) hpC hoC (by rw[hm0];exact hmC) (by rw[hm0];exact hnC) om (by rw[hm0];show h1.length≤is;omega) (by rw[hm0];show h1.length≤il;omega) (by rw[hm0];show im≠is;omega) (by rw[hm0];show im≠il;omega) (by rw[hm0];show is≠il;omega) (by rw[hm0]) (by rw[hm0]) (by rw[hm0];exact hD1) (by rw[hm0]) (by rw[hm0]) G hw.aa om hkY
 refine aC ?_
 refine zj Tryz.func33 ?_
 refine hnt.mono ?_
 rintro _ h2 ⟨rfl,vn,vo,nm,hb,NT⟩
 have N:=NT.s
 have hbl:h1.length≤hb.length:=by have:=hpC.length_le;have:=NT.p.length_le;omega
 have hM:MR h1 h2 im { m0 with vn:=vn,vo:=vo,lI:=bl d,st:=(cA d:Int),cK:=(aU d:Int) } []:=⟨N.p,by omega,N.o,by rw[hm0];exact gS.nil,by rw[hm0];exact gS.nil⟩
 have hS:MS h2 { m0 with vn:=vn,vo:=vo,lI:=bl d,st:=(cA d:Int),cK:=(aU d:Int) } d (xe (aE d.aa)) (xy (aE d.aa).length (bh d.aa)):=⟨N.sm,fun x hx=>BO hx,N.lm,fun k hk=>by rw[Ce,if_pos hk];rfl,rfl⟩
 have hru:=E8 (m:={ m0 with vn:=vn,vo:=vo,lI:=bl d,st:=(cA d:Int),cK:=(aU d:Int) }) hM hS (by rw[hm0];exact hD1.aa.mono N.p) (by rw[hm0]) (by rw[hm0]) (N.od.lu hbl) G rfl
 refine aC ?_
 refine zj Tryz.func34 ?_
 refine hru.mono ?_
 rintro _ h3 ⟨rfl,vr,vf,M3,K3⟩
 have hrl:=rI G hpt
 have hos:(gl d).length≤4096:=by unfold gl;rw[List.length_map];omega
 have hosy:∀ o∈gl d,o.aj.length≤1000000:=fun o ho=>by have:=ph G o ho;omega
 have hN3:=(N.n.eD K3 (by decide)).lu hbl
 have hNl:(iC d nm).length=aU d:=by
  unfold iC
  rw[List.length_append,List.length_append,List.length_append,NT.l]
  unfold aU cA
  split<;>rfl
 have hkn:=G.kn
 have hN5:aU d≤5000:=by
  have e1:nS d≤160:=by unfold nS;omega
  have e2:nK d≤3000:=hkn
  unfold aU cA
  split<;>omega
 have hKD:KD h1 h3 im { m0 with vn:=vn,vo:=vo,lI:=bl d,st:=(cA d:Int),cK:=(aU d:Int),vr:=vr,vf:=vf } d (gl d) (iC d nm):=⟨M3.p,by omega,M3.o,by rw[hm0];exact hD1,by rw[hm0],by rw[hm0],AT.rd M3.f om hosy,(aL.sl (b:=16) hN3 (by show (iC d nm).length*16≤_;omega)),by obtain⟨p,c,e⟩:=gS.form M3.r;exact⟨p,_,c,e⟩,by rw[hm0];exact⟨none,0,0,rfl⟩,by rw[hm0];exact⟨none,0,0,rfl⟩,by rw[hm0];exact⟨none,0,0,rfl⟩⟩
 have hu:∀ s∈fF d,cH d.aa s≠0:=hok 3 (by decide)
 have hfS:∀ x∈d.follows,x.sort∈aE d.aa∧du x.set:=fun x hx=>⟨kC (hu _ (by unfold fF;exact List.mem_append_left _ (List.mem_append_right _ (List.mem_map_of_mem hx)))),(hw.follows x hx).2⟩
 have hrS:∀ x∈d.al,x.sort∈aE d.aa∧x.jR∈aE d.aa:=fun x hx=>⟨kC (hu _ (by unfold fF nR;exact List.mem_append_right _ (List.mem_flatMap.2 ⟨x,hx,by simp⟩))),kC (hu _ (by unfold fF nR;exact List.mem_append_right _ (List.mem_flatMap.2 ⟨x,hx,by simp⟩)))⟩
 have hsn:∀ x∈aE d.aa,eE d x<aU d:=fun x hx=>by
  have h1:=rD hx
  unfold eE aU cA nS
  split<;>omega
 have hfi:=AQ hKD (K3 _ _ N.sm rfl) (fun x hx=>BO hx) (by rw[hm0]) rfl hN5 (hok 11 (by decide)) hos (Gw hpt) om (fun p hp=>by have:=(G.p p hp).n;omega) hosy (Jq G (hok 11 (by decide)) hpt) hfS hrS om om hsn
 refine aC ?_
 refine zj Tryz.func35 ?_
 refine hfi.mono ?_
 rintro _ h4 ⟨rfl,vb,vF,vR,FI⟩
 have hob:=FI.o
 have K4:=JH M3.o FI.k
 have hl3:h.length≤h3.length:=by have:=hp1.length_le;have:=M3.p.length_le;omega
 obtain⟨m4,hm4⟩:∃ m4:MK,m4={ m0 with vn:=vn,vo:=vo,lI:=bl d,st:=(cA d:Int),cK:=(aU d:Int),vr:=vr,vf:=vf,vb:=vb,vF:=vF,vR:=vR }:=⟨_,rfl⟩
 rw[← hm4] at hob
 have hKO:KO h h4 d m4 nm:=by
  refine⟨hp1.trans FI.p,?_,?_,?_,?_,?_,?_,?_,?_,NT.l,NT.e,?_,?_,?_⟩
  ·rw[hm4,hm0]
   exact hF.mono (km.pre FI.p)
  ·rw[hm4,hm0]
  ·rw[hm4,hm0]
  ·rw[hm4]
  ·rw[hm4]
  ·rw[hm4]
   exact (gS.eD M3.r K4 (by decide) (by decide)).base hp1
  ·rw[hm4]
   exact (gS.eD M3.f K4 (by decide) (by decide)).base hp1
  ·rw[hm4]
   exact (hN3.eD K4 (by decide)).base hp1
  ·rw[hm4]
   exact FI.b.lu hl3
  ·rw[hm4]
   exact FI.F.lu hl3
  ·rw[hm4]
   exact FI.R.lu hl3
 obtain⟨q1,r1,e1⟩:=cV.form hKO.D.now.aa
 obtain⟨q2,r2,e2⟩:=cV.form hKO.D.now.au
 obtain⟨q3,r3,e3⟩:=bT.form hKO.D.now.follows
 obtain⟨q4,r4,e4⟩:=bT.form hKO.D.now.al
 obtain⟨q5,r5,e5⟩:=cV.form hKO.D.now.boxes
 obtain⟨q6,r6,e6⟩:=gS.form hKO.r
 obtain⟨q7,r7,e7⟩:=gS.form hKO.f
 obtain⟨q8,r8,e8⟩:=hKO.n.form
 obtain⟨q9,r9,e9⟩:=hKO.b.form
 obtain⟨qa,ra,ea⟩:=hKO.F.form
 obtain⟨qb,rb,eb⟩:=hKO.R.form
 simp only[MK.cells,e1,e2,e3,e4,e5,e6,e7,e8,e9,ea,eb] at hob
 refine aG hob ?_
 refine ai ?_
 refine⟨_,ak,.inr ⟨hok,m4,nm,?_,hKO⟩⟩
 rw[uw,e1,e2,e3,e4,e5,e6,e7,e8,e9,ea,eb]
 rfl
·have hno:¬ dI d:=fun k=>q (he.2 k)
 have d1:=decide_eq_false q
 refine aG d1 ?_
 refine ae rfl ?_
 refine aC ?_
 refine ai ?_
 exact⟨_,ak,.inl ⟨hno,rfl,rfl⟩⟩}
end
theorem gS.at {α:Type} {f:α→Value→List Value} {g:α→List Value} {w k:Nat} {et et2:TypeId} {h0 hk:ah} {v:Value} {l:List α} (hf:∀ x u,(f x u).length=k) (G:gS f g w et et2 h0 hk v l) {i:Nat} (hi:i<l.length) : ∃ id ar c cells u n,v = .slice (some ⟨id,0,some ar⟩) l.length c∧hk[id]? = some (.aA cells ar true et)∧jU cells (i*k) k=some (f l[i] u)∧(g l[i]).length=n*w∧aL h0 hk u n (g l[i]) et2∧h0.length≤id:=by{
obtain⟨us,hl,G,hu⟩:=G
rcases G with ⟨e0,_,_⟩ | ⟨id,ar,h1,rfl,h3⟩
·omega
have hi':i<us.length:=hl▸hi
obtain⟨n,en,g'⟩:=hu i l[i] us[i] (by simp [hi]) (by simp [hi'])
refine⟨id,ar,_,_,us[i],n,rfl,h3,?_,en,g',h1⟩
refine bS (f:=fun p:α×Value=>f p.1 p.2) (fun _=>hf _ _) (l.zip us) i (l[i],us[i]) ?_
simp [List.getElem?_zip_eq_some,hi,hi']}
theorem tu.at {h0 hk:ah} {v:Value} {l:List ch} (G:tu h0 hk v l) {i:Nat} (hi:i<l.length) : ∃ id ar c cells p c2,v = .slice (some ⟨id,0,some ar⟩) l.length c∧hk[id]? = some (.aA cells ar true 63)∧jU cells (i*2) 2=some [i64 l[i].lhs,.slice p l[i].rhs.length c2]∧aL h0 hk (.slice p l[i].rhs.length c2) l[i].rhs.length (l[i].rhs.flatMap aT.cells) 65∧h0.length≤id:=by{
obtain⟨id,ar,c,cells,u,n,e1,e2,e3,e4,e5,e6⟩:=gS.at (k:=2) (fun _ _=>rfl) G hi
have hn:(UR l[i]).length=l[i].rhs.length*5:=jT
obtain rfl:n=l[i].rhs.length:=by omega
obtain⟨p,c2,rfl⟩:=e5.form
exact⟨id,ar,c,cells,p,c2,e1,e2,e3,e5,e6⟩}
section
variable {h h':ah} {d:bM} {m:MK} {nm:List ByteArray}
theorem xF:(gl d).length=(uZ d).length:=List.length_map ..
theorem KO.Vi (K:KO h h' d m nm):(iC d nm).length=aU d:=by{
unfold iC
rw[List.length_append,List.length_append,List.length_append,K.nl]
unfold aU cA
split<;>rfl}
theorem KO.xw (K:KO h h' d m nm) (G:jz d) (hp:cX d≤160):fO h' m.vf (gl d):=
 AT.rd K.f (by have:=rI G hp;rw[xF];omega) (fun o ho=>by have:=ph G o ho;omega)
theorem KO.Ob (K:KO h h' d m nm) (G:jz d) (hp:cX d≤160):l7 h' (uw m) (gl d) (iC d nm):=by{
obtain⟨q1,r1,e1⟩:=cV.form K.D.now.aa
obtain⟨q2,r2,e2⟩:=cV.form K.D.now.au
obtain⟨q3,r3,e3⟩:=bT.form K.D.now.follows
obtain⟨q4,r4,e4⟩:=bT.form K.D.now.al
obtain⟨q5,r5,e5⟩:=cV.form K.D.now.boxes
obtain⟨q6,r6,e6⟩:=gS.form K.r
obtain⟨q9,r9,e9⟩:=K.b.form
obtain⟨qa,ra,ea⟩:=K.F.form
obtain⟨qb,rb,eb⟩:=K.R.form
have hN:aU d≤5000:=by
 obtain⟨b1,b2,b3,b4,b5⟩:=ko hp
 have h1:=bZ (ps:=d.aa)
 have h2:=G.kn
 have e1:nS d≤160:=by unfold nS;omega
 have e2:nK d≤3000:=h2
 unfold aU cA
 split<;>omega
refine⟨m.start,m.layout,q1,q2,q3,q4,q5,q6,q9,qa,qb,_,_,_,_,_,_,_,_,_,r1,r2,r3,r4,r5,r6,r9,ra,rb,m.cK,m.st,m.vf,m.vn,by rw[uw,e1,e2,e3,e4,e5,e6,e9,ea,eb],K.xw G hp,K.n.sl (by rw[K.Vi];omega)⟩}
theorem G5 (h:cE d=true):wV d:=by{
intro b hb
unfold cE at h
simp only[Bool.and_eq_true] at h
have h1:=List.all_eq_true.1 h.2.2.2.2.2 b hb
unfold gI at h1
simp only[Bool.and_eq_true,decide_eq_true_eq] at h1
omega}
end
end Go.Proofs.YtmdmimkbpikmoaaGreat
