/- Several texts, one behind the other. -/
import Derived.Test.YtmdmimkbpikmoaaGreatZW6
import Derived.Sort.LotD1
import Derived.Sort.AssemblyPlain
import Derived.Test.YtmdmimkbpikmoaaGreatZG5
import Derived.Test.YtmdmimkbpikmoaaGreatZV3
set_option linter.unusedSimpArgs false
set_option linter.unusedVariables false
set_option maxHeartbeats 8000000
namespace Go.Proofs.YtmdmimkbpikmoaaGreat
set_option maxRecDepth 20000
open Go.RowKit Am Ty
theorem lk {x:Int} (h0:0≤x) (h1:x<18446744073709551616):IntKind.u64.wrap x=x:=by
 have:IntKind.u64.wrap x=x % 18446744073709551616:=by simp [IntKind.wrap,IntKind.bits,IntKind.signed]
 omega
theorem J3 {x:Int} (h0:0≤x) (h1:x<256):IntKind.u8.wrap x=x:=by
 have:IntKind.u8.wrap x=x % 256:=by simp [IntKind.wrap,IntKind.bits,IntKind.signed]
 omega
theorem Iy {m k p:Nat} (h:2 ^ k=p) (hk:k≤64):(m:Int).fdiv (2 ^ min k IntKind.u64.bits)=((m / p:Nat):Int):=by{
have h1:min k IntKind.u64.bits=k:=by
 show min k 64=k
 omega
have h2:(2:Int) ^ k=(p:Int):=by rw[← h];push_cast;rfl
rw[h1,h2,Int.fdiv_eq_ediv_of_nonneg _ om]
rfl}
def vD:ByteArray:=⟨((List.range 256).map fun n=>UInt8.ofNat (Go.Sort.bitsLen n)).toArray⟩
theorem y0 {n:Nat} (h:n<256):vD[n]? = some (UInt8.ofNat (Go.Sort.bitsLen n)):=by{
have hs:vD.size=256:=by
 show ((List.range 256).map fun n=>UInt8.ofNat (Go.Sort.bitsLen n)).toArray.size=256
 simp only[List.size_toArray,List.length_map,List.length_range]
rw[getElem?_pos vD n (by rw[hs];exact h)]
congr 1
show ((List.range 256).map fun n=>UInt8.ofNat (Go.Sort.bitsLen n)).toArray[n]'(by simp only[List.size_toArray,List.length_map,List.length_range];exact h)=_
simp only[List.getElem_toArray,List.getElem_map,List.getElem_range]}
theorem yX {n:Nat} (h:n<256):(UInt8.ofNat (Go.Sort.bitsLen n)).toNat=Go.Sort.bitsLen n:=by{
have:=(Go.Sort.bitsLen_le_iff n 8).2 h
rw[UInt8.toNat_ofNat']
omega}
theorem DR {all:Array Oper} {o:Oper} {s:St} {t:TypeId} {x i:Operand} {b:ByteArray} {k:IntKind} {n:Nat} (hg:aE all o s=some true) (ho:o.op = .index t x i) (hu:env.P.underlying t=some .string) (hx:ev s x=some (.string b)) (hi:ev s i=some (.int k n)) (hb:b=vD) (hn:n<256) : tN env all o s=some (s.aX o.dst (.val (.int .u8 (Go.Sort.bitsLen n)))):=by{
unfold tN
rw[hg,ho]
simp only[pE,kG,hu,hx,hi,hb,Int.toNat_natCast,y0 hn,yX hn,Int.natCast_nonneg,if_true]}
theorem qV {n k:Nat} (h:2 ^ k≤n):Go.Sort.bitsLen n=k+Go.Sort.bitsLen (n / 2 ^ k):=by{
have h1:=Go.Sort.lt_two_pow_bitsLen (n / 2 ^ k)
apply Nat.le_antisymm
·rw[Go.Sort.bitsLen_le_iff,Nat.pow_add]
 have:=(Nat.div_lt_iff_lt_mul (Nat.two_pow_pos k)).1 h1
 rwa [Nat.mul_comm] at this
·have h2:=Go.Sort.lt_two_pow_bitsLen n
 have h3:k≤Go.Sort.bitsLen n:=by
  rcases Nat.lt_or_ge (Go.Sort.bitsLen n) k with h3|h3
  ·have:=(Go.Sort.bitsLen_le_iff n k).1 (Nat.le_of_lt h3)
   omega
  ·exact h3
 have h4:Go.Sort.bitsLen (n / 2 ^ k)≤Go.Sort.bitsLen n-k:=by
  rw[Go.Sort.bitsLen_le_iff,Nat.div_lt_iff_lt_mul (Nat.two_pow_pos k),← Nat.pow_add]
  rwa [Nat.sub_add_cancel h3]
 omega}
theorem Dl {h:ah} {n:Nat} (hn:n≤1000000000):FW env 189 [.int .u64 n] h fun r h'=>r=i64 (Go.Sort.bitsLen n)∧h'=h:=by{
refine fe Tryz.func189 ?_;simp only[push_cast]
have d1:decide (4294967296≤(n:Int))=false:=decide_eq_false om
refine aG d1 ?_
refine ae rfl ?_
obtain⟨z,hz⟩:∃ z:Nat,z=0:=⟨_,rfl⟩
have ez:(0:Int)=(z:Int):=by omega
refine aB ?_
refine aA [(0,.val (.int .u64 n)),(2,.val (i64 z)),(8,.val (.bool (decide (65536≤(n:Int)))))] (by rw[hz];exact⟨rfl,rfl,rfl,trivial⟩) ?_
show CW _ _ ⟨_,[],h⟩ _
refine CW.mono (Q:=fun e s'=>e = .normal∧s'.h=h∧∃ m k:Nat,k+Go.Sort.bitsLen m=Go.Sort.bitsLen n∧m<65536∧k≤16∧bB [(0,.val (.int .u64 m)),(2,.val (i64 k))] s'.fr) ?_ ?_
·by_cases h1:65536≤n
 ·have d2:decide (65536≤(n:Int))=true:=decide_eq_true om
  have e1:(n:Int).fdiv (2 ^ min 16 IntKind.u64.bits)=((n / 65536:Nat):Int):=Iy (by decide) (by decide)
  obtain⟨m',hm'⟩:∃ y,y=n / 65536:=⟨_,rfl⟩
  have hb:=qV (n:=n) (k:=16) h1
  have e3:n / 2 ^ 16=m':=hm'.symm
  rw[e3] at hb
  rw[← hm'] at e1
  have e2:IntKind.i64.wrap ((z:Int)+16)=((z+16:Nat):Int):=by rw[ay om om];omega
  obtain⟨k',hk'⟩:∃ y,y=z+16:=⟨_,rfl⟩
  rw[← hk'] at e2
  refine af (iD d2) ?_
  refine fM e1 e2 ?_
  exact⟨rfl,rfl,m',k',by omega,by omega,by omega,aO⟩
 ·have d2:decide (65536≤(n:Int))=false:=decide_eq_false om
  refine ae (iD d2) ?_
  refine aB ?_
  exact⟨rfl,rfl,n,z,om,by omega,by omega,aO⟩
rintro e s' ⟨rfl,hh,m,k,hmk,hm,hk,hf⟩
show CW _ _ _ _
refine aA _ hf ?_
rw[hh]
clear hf hh
refine aB ?_
refine CW.mono (Q:=fun e s'=>e = .normal∧s'.h=h∧∃ m k:Nat,k+Go.Sort.bitsLen m=Go.Sort.bitsLen n∧m<256∧k≤24∧bB [(0,.val (.int .u64 m)),(2,.val (i64 k))] s'.fr) ?_ ?_
·by_cases h1:256≤m
 ·have d2:decide (256≤(m:Int))=true:=decide_eq_true om
  have e1:(m:Int).fdiv (2 ^ min 8 IntKind.u64.bits)=((m / 256:Nat):Int):=Iy (by decide) (by decide)
  obtain⟨m',hm'⟩:∃ y,y=m / 256:=⟨_,rfl⟩
  have hb:=qV (n:=m) (k:=8) h1
  have e3:m / 2 ^ 8=m':=hm'.symm
  rw[e3] at hb
  rw[← hm'] at e1
  have e2:IntKind.i64.wrap ((k:Int)+8)=((k+8:Nat):Int):=by rw[ay om om];omega
  obtain⟨k',hk'⟩:∃ y,y=k+8:=⟨_,rfl⟩
  rw[← hk'] at e2
  refine af (iD d2) ?_
  refine fM e1 e2 ?_
  exact⟨rfl,rfl,m',k',by omega,by omega,by omega,aO⟩
 ·have d2:decide (256≤(m:Int))=false:=decide_eq_false om
  refine ae (iD d2) ?_
  refine aB ?_
  exact⟨rfl,rfl,m,k,hmk,by omega,by omega,aO⟩
rintro e s' ⟨rfl,hh,m2,k2,hmk2,hm2,hk2,hf⟩
show CW _ _ _ _
refine aA _ hf ?_
rw[hh]
clear hf hh
have e1:IntKind.u8.wrap (m2:Int)=(m2:Int):=J3 om om
have hb8:=(Go.Sort.bitsLen_le_iff m2 8).2 hm2
have e2:IntKind.i64.wrap ((Go.Sort.bitsLen m2:Nat):Int)=(Go.Sort.bitsLen m2:Int):=ay om om
have e3:IntKind.i64.wrap ((k2:Int)+(Go.Sort.bitsLen m2:Int))=((Go.Sort.bitsLen n:Nat):Int):=by rw[ay om om];omega
refine zu ?_
iterate 3 (apply ej;·simp only[push_cast,env,Nat.reduceEqDiff,reduceIte,Nat.reduceAdd,Nat.reduceMul,Nat.reduceLeDiff,reduceCtorEq,Nat.reduceSub,Int.reduceToNat,e1]<;>exact rfl)
refine ej (DR rfl rfl rfl rfl ak kr hm2) ?_
dsimp only[St.aX,St.put]
refine fM e2 e3 ?_
refine ai ?_
exact⟨_,ak,rfl,rfl⟩}
theorem yE {h:ah} {n:Nat} (hn:n≤1000000000):FW env 146 [.int .u64 n] h fun r h'=>r=i64 (Go.Sort.bitsLen n)∧h'=h:=by{
refine fe Tryz.func146 ?_;simp only[push_cast]
refine aB ?_
refine ae rfl ?_
refine aB ?_
refine zj Tryz.func189 ?_
rw[List.append_nil]
refine (Dl hn).mono ?_
rintro _ h1 ⟨rfl,rfl⟩
refine aB ?_
refine ai ?_
exact⟨_,ak,rfl,rfl⟩}
theorem HY {h:ah} {n:Nat} (h0:8≤n) (hn:n≤1000000000):FW env 207 [i64 n] h fun r h'=>(∃ m:Nat,r = .int .u64 m∧0<m∧m≤2*n)∧h'=h:=by{
refine fe Tryz.func207 ?_;simp only[push_cast]
have e1:IntKind.u64.wrap (n:Int)=(n:Int):=lk om om
refine aG e1 ?_
refine zj Tryz.func146 ?_
rw[List.append_nil]
refine (yE hn).mono ?_
rintro _ h1 ⟨rfl,rfl⟩
have hb:=(Go.Sort.bitsLen_le_iff n 30).2 om
have hp:=Go.Sort.two_pow_bitsLen_le (n:=n) om
obtain⟨m,hm⟩:∃ m,m=2 ^ Go.Sort.bitsLen n:=⟨_,rfl⟩
have hm0:0<m:=by rw[hm];exact Nat.two_pow_pos _
rw[← hm] at hp
obtain⟨B,hB⟩:∃ B,Go.Sort.bitsLen n=B:=⟨_,rfl⟩
rw[hB] at hm hb ⊢
have d1:¬ ((B:Int)<0):=by omega
have e2:IntKind.u64.wrap (1*2 ^ min B IntKind.u64.bits)=(m:Int):=by
 have:min B IntKind.u64.bits=B:=by
  show min B 64=B
  omega
 have h2:(2:Int) ^ B=(m:Int):=by rw[hm];push_cast;rfl
 rw[this,Int.one_mul,h2]
 exact lk om om
refine fM d1 e2 ?_
refine ai ?_
exact⟨_,ak,⟨m,rfl,hm0,hp⟩,rfl⟩}
theorem Dg {h:ah} {sid:Nat} {v:Int} (hs:h[sid]? = some (.aj [.int .u64 v] 0 true 256)) : FW env 208 [.pointer (some ⟨sid,0,some 0⟩)] h fun r h'=>∃ w:Int,r = .int .u64 w∧h'=h.set sid (.aj [.int .u64 w] 0 true 256):=by{
refine fe Tryz.func208 ?_;simp only[push_cast]
refine aB ?_
refine aA [(0,.val (.pointer (some ⟨sid,0,some 0⟩)))] aO ?_
show CW _ _ ⟨_,[],h⟩ _
apply bi (L:=[[],[0],[1],[],[3],[4],[5],[2,6],[0],[0,1,2,3,4,5,6,7,8]]) (act:=[9]) (hs:=[h.set sid (.aj [.int .u64 _] 0 true 256)]) (resL:=[_,_,_,_,_,_,_,_,_,_]) (frF:=[(0,.val (.pointer (some ⟨sid,0,some 0⟩)))])
case hm=>exact mixed
case hc=>kernel_rfl
case ha=>rfl
case hb=>rfl
case hS=>
 refine PY hs ?_
 apply az.cons
 ·rfl
 ·refine⟨?_,trivial⟩
  exact bl (r:=.sl .dy) rfl ak rfl ak ak hs ak rfl rfl rfl rfl
 ·rfl
 exact az.nil _
case ht=>rfl
case hF=>exact zh
show CW _ _ ⟨_,[],h.set sid (.aj [.int .u64 (IntKind.u64.wrap _)] 0 true 256)⟩ _
generalize IntKind.u64.wrap _=v1
have hs1:(h.set sid (.aj [.int .u64 v1] 0 true 256))[sid]? = some (.aj [.int .u64 v1] 0 true 256):=aw hs
obtain⟨h1,k1⟩:∃ h1,h.set sid (.aj [.int .u64 v1] 0 true 256)=h1:=⟨_,rfl⟩
rw[k1] at hs1 ⊢
refine zu ?_
apply bi (L:=[[],[0],[1],[],[3],[4],[5],[2,6],[0],[0,1,2,3,4,5,6,7,8]]) (act:=[9]) (hs:=[h1.set sid (.aj [.int .u64 _] 0 true 256)]) (resL:=[_,_,_,_,_,_,_,_,_,_]) (frF:=[(0,.val (.pointer (some ⟨sid,0,some 0⟩)))])
case hm=>exact mixed
case hc=>kernel_rfl
case ha=>rfl
case hb=>rfl
case hS=>
 refine PY hs1 ?_
 apply az.cons
 ·rfl
 ·refine⟨?_,trivial⟩
  exact bl (r:=.sl .dy) rfl ak rfl ak ak hs1 ak rfl rfl rfl rfl
 ·rfl
 exact az.nil _
case ht=>rfl
case hF=>exact zh
show CW _ _ ⟨_,[],h1.set sid (.aj [.int .u64 (IntKind.u64.wrap _)] 0 true 256)⟩ _
generalize IntKind.u64.wrap _=v2
have hs2:(h1.set sid (.aj [.int .u64 v2] 0 true 256))[sid]? = some (.aj [.int .u64 v2] 0 true 256):=aw hs1
obtain⟨h2,k2⟩:∃ h2,h1.set sid (.aj [.int .u64 v2] 0 true 256)=h2:=⟨_,rfl⟩
rw[k2] at hs2 ⊢
refine zu ?_
apply bi (L:=[[],[0],[1],[],[3],[4],[5],[2,6],[0],[0,1,2,3,4,5,6,7,8]]) (act:=[9]) (hs:=[h2.set sid (.aj [.int .u64 _] 0 true 256)]) (resL:=[_,_,_,_,_,_,_,_,_,_]) (frF:=[(0,.val (.pointer (some ⟨sid,0,some 0⟩)))])
case hm=>exact mixed
case hc=>kernel_rfl
case ha=>rfl
case hb=>rfl
case hS=>
 refine PY hs2 ?_
 apply az.cons
 ·rfl
 ·refine⟨?_,trivial⟩
  exact bl (r:=.sl .dy) rfl ak rfl ak ak hs2 ak rfl rfl rfl rfl
 ·rfl
 exact az.nil _
case ht=>rfl
case hF=>exact zh
show CW _ _ ⟨_,[],h2.set sid (.aj [.int .u64 (IntKind.u64.wrap _)] 0 true 256)⟩ _
generalize IntKind.u64.wrap _=v3
have hs3:(h2.set sid (.aj [.int .u64 v3] 0 true 256))[sid]? = some (.aj [.int .u64 v3] 0 true 256):=aw hs2
obtain⟨h3,k3⟩:∃ h3,h2.set sid (.aj [.int .u64 v3] 0 true 256)=h3:=⟨_,rfl⟩
rw[k3] at hs3 ⊢
refine aG hs3 ?_
refine ai ?_
exact⟨_,ak,v3,rfl,by rw[← k3,← k2,← k1,aM,aM]⟩}
theorem s6 {Y:ah} {n:Nat} {x y:av} (h:Y.length=n):(Y++[x]).set n y=Y++[y]:=by
 subst h
 simp
theorem Bg {Y:ah} {id:Nat} {x y:av} (h:id<Y.length):(Y++[x]).set id y=Y.set id y++[x]:=List.set_append_left _ _ h
theorem BE {Y:ah} {n:Nat} {x:av} (h:Y.length=n):(Y++[x])[n]? = some x:=by
 subst h
 simp
theorem Bu {w:Int} {m:Nat} (hm:m<18446744073709551616):∃ o:Nat,IntKind.u64.wrap ((BitVec.ofInt IntKind.u64.bits w &&& BitVec.ofInt IntKind.u64.bits (m:Int)).toNat)=(o:Int)∧o≤m:=by{
have h1:(BitVec.ofInt IntKind.u64.bits (m:Int)).toNat=m:=by
 show (BitVec.ofInt 64 (m:Int)).toNat=m
 rw[BitVec.toNat_ofInt]
 omega
refine⟨(BitVec.ofInt IntKind.u64.bits w &&& BitVec.ofInt IntKind.u64.bits (m:Int)).toNat,?_,?_⟩
·refine lk om ?_
 have:=(BitVec.ofInt IntKind.u64.bits w &&& BitVec.ofInt IntKind.u64.bits (m:Int)).isLt
 have e:(2:Nat) ^ IntKind.u64.bits=18446744073709551616:=rfl
 omega
·rw[BitVec.toNat_and,h1]
 exact Nat.and_le_right}
theorem Jn {h:ah} {id au c a b:Nat} {d:Array aQ} {fv:Value} (D:DA h id au d) (h8:8≤b-a) (hb:b≤d.size) : FW env 182 [.slice (some ⟨id,0,some au⟩) d.size c,i64 a,i64 b,fv] h fun r h'=> r = .tuple #[]∧∃ d',Go.Sort.PermIn a b d d'∧DA h' id au d'∧h.set id (.aj (IC d') au true 70) <+: h':=by{
have hsz:=D.n
obtain⟨l,hl⟩:∃ l,l=b-a:=⟨_,rfl⟩
obtain⟨q,hq⟩:∃ q,q=l / 4:=⟨_,rfl⟩
obtain⟨A,hA⟩:∃ A,A=a+q*2-1:=⟨_,rfl⟩
obtain⟨B,hB⟩:∃ B,B=a+q*2+1:=⟨_,rfl⟩
have e1:IntKind.i64.wrap ((b:Int)-a)=(l:Int):=by rw[ay om om];omega
have e2:IntKind.i64.wrap ((l:Int).tdiv 4)=(q:Int):=by
 have:(l:Int).tdiv 4=(q:Int):=by rw[hq];rfl
 rw[this,ay om om]
have e4:IntKind.i64.wrap ((q:Int)*2)=(q:Int)*2:=ay om om
have e5:IntKind.i64.wrap ((a:Int)+(q:Int)*2)=(a:Int)+(q:Int)*2:=ay om om
have e6:IntKind.i64.wrap ((a:Int)+(q:Int)*2-1)=(A:Int):=by rw[ay om om];omega
have e7:IntKind.i64.wrap ((a:Int)+(q:Int)*2+1)=(B:Int):=by rw[ay om om];omega
have e8:IntKind.u64.wrap (l:Int)=(l:Int):=lk om om
have d1:decide (8≤(l:Int))=true:=decide_eq_true om
have hAa:a≤A:=by omega
have hBb:B<b:=by omega
have hAB:A+2=B:=by omega
have hla:l+a=b:=by omega
have hl8:8≤l:=by omega
clear hq hA hB hl
refine fe Tryz.func182 ?_;simp only[push_cast]
refine fM e1 d1 ?_
refine af rfl ?_
refine zu ?_
iterate 2 (apply ej;·simp only[push_cast,env,Nat.reduceEqDiff,reduceIte,Nat.reduceAdd,Nat.reduceMul,Nat.reduceLeDiff,reduceCtorEq,Nat.reduceSub,Int.reduceToNat,e8]<;>exact rfl)
refine dw (t:=256) (cs:=[.int .u64 0]) ak ak ?_
dsimp only[St.aX,St.put]
refine ch ak rfl rfl ak ak aJ ak rfl rfl ?_
rw[s6 rfl]
refine aB ?_
refine zj Tryz.func207 ?_
rw[List.append_nil]
refine (HY hl8 om).mono ?_
rintro _ _ ⟨⟨m,rfl,hm0,hm⟩,rfl⟩
refine fN e2 e4 e5 e6 ?_
have hid:id<h.length:=(List.getElem?_eq_some_iff.1 D.g).1
have hsame:=fA D.g
refine eY (fun x:Nat×Int×Array aQ=>B+1-x.1) (fun x=>[(0,.val (.slice (some ⟨id,0,some au⟩) d.size c)),(1,.val (i64 a)),(8,.val (i64 l)),(9,.val (.pointer (some ⟨h.length,0,some 0⟩))),(10,.val (.int .u64 m)),(11,.val (i64 x.1))])
 (fun x=>h.set id (.aj (IC x.2.2) au true 70)++[.aj [.int .u64 x.2.1] 0 true 256])
 (fun x=>A≤x.1∧x.1≤B+1∧Go.Sort.PermIn a b d x.2.2∧DA (h.set id (.aj (IC x.2.2) au true 70)) id au x.2.2) (A,(l:Int),d) aO (by simp only[hsame]) ⟨Nat.le_refl _,by simp only;omega,Go.Sort.permIn_refl _ _ _,by simp only[hsame];exact D⟩ ?_
rintro⟨x,v,dc⟩ ⟨h1,h2,h3,D1⟩
simp only at h1 h2 h3 D1 ⊢
have hsz1:dc.size=d.size:=h3.1
have hL:∀ dd:Array aQ,(h.set id (.aj (IC dd) au true 70)).length=h.length:=fun dd=>List.length_set ..
by_cases hxB:x≤B
·have d2:decide ((x:Int)≤(B:Int))=true:=decide_eq_true om
 have e9:IntKind.i64.wrap ((x:Int)+1)=(x:Int)+1:=ay om om
 have e10:IntKind.u64.wrap ((m:Int)-1)=((m-1:Nat):Int):=by rw[lk om om];omega
 obtain⟨m1,hm1⟩:∃ m1,m1=m-1:=⟨_,rfl⟩
 rw[← hm1] at e10
 refine ox e2 e4 e5 e7 d2 ?_
 refine af rfl ?_
 refine aB ?_
 refine zj Tryz.func208 ?_
 rw[List.append_nil]
 refine (Dg (v:=v) (BE (hL _))).mono ?_
 rintro _ _ ⟨w,rfl,rfl⟩
 rw[s6 (hL _)]
 obtain⟨o,ho,hom⟩:=Bu (w:=w) (m:=m1) om
 have e11:IntKind.i64.wrap (o:Int)=(o:Int):=ay om om
 refine ir e10 ho e11 ?_
 refine CW.mono (Q:=fun e s'=>e = .normal∧s'.h=h.set id (.aj (IC dc) au true 70)++[.aj [.int .u64 w] 0 true 256]∧∃ p:Nat,p<l∧bB [(0,.val (.slice (some ⟨id,0,some au⟩) d.size c)),(1,.val (i64 a)),(8,.val (i64 l)),(9,.val (.pointer (some ⟨h.length,0,some 0⟩))),(10,.val (.int .u64 m)),(11,.val (i64 x)),(12,.val (i64 p))] s'.fr) ?_ ?_
 ·by_cases hol:l≤o
  ·have d3:decide ((l:Int)≤(o:Int))=true:=decide_eq_true om
   obtain⟨p,hp⟩:∃ p,p=o-l:=⟨_,rfl⟩
   have e12:IntKind.i64.wrap ((o:Int)-(l:Int))=(p:Int):=by rw[ay om om];omega
   refine af (iD d3) ?_
   refine aG e12 ?_
   exact⟨rfl,rfl,p,by omega,aO⟩
  ·have d3:decide ((l:Int)≤(o:Int))=false:=decide_eq_false om
   refine ae (iD d3) ?_
   refine aB ?_
   exact⟨rfl,rfl,o,by omega,aO⟩
 rintro e s' ⟨rfl,hh,p,hpl,hf⟩
 show CW _ _ _ _
 refine aA _ hf ?_
 rw[hh]
 clear hf hh
 obtain⟨y,hy⟩:∃ y,y=a+p:=⟨_,rfl⟩
 have e13:IntKind.i64.wrap ((a:Int)+(p:Int))=(y:Int):=by rw[ay om om];omega
 have e14:IntKind.i64.wrap ((p:Int)+(a:Int))=(y:Int):=by rw[ay om om];omega
 have hx1:x<dc.size:=by omega
 have hy1:y<dc.size:=by omega
 have gx:=bz hx1
 have gy:=bz hy1
 have rx:=cH (k:=x) (n:=d.size) om
 have ry:=cH (k:=y) (n:=d.size) om
 obtain⟨hc,hhc⟩:∃ hc,h.set id (.aj (IC dc) au true 70)++[.aj [.int .u64 w] 0 true 256]=hc:=⟨_,rfl⟩
 have hg:hc[id]? = some (.aj (IC dc) au true 70):=by rw[← hhc];exact bo D1.g
 rw[hhc]
 refine aB ?_
 apply bi (L:=[[],[],[],[],[],[3,4],[],[],[],[7,8],[6,7,8,9],[6,7,8,9,10],[],[],[12,13],[12,13,14],[0,1],[0,1,6,7,8,9,10,11,12,13,14,15,16],[2,3,4,5],[0,1,2,3,4,5,6,7,8,9,10,11,12,13,14,15,16,17,18]]) (act:=[17,19]) (hs:=[hc.set id (.aj (IC (dc.setIfInBounds x dc[y]!)) au true 70),hc.set id (.aj (IC (Go.Sort.swp dc x y)) au true 70)]) (resL:=[_,_,_,_,_,_,_,_,_,_,_,_,_,_,_,_,_,_,_,_]) (frF:=[(0,.val (.slice (some ⟨id,0,some au⟩) d.size c)),(1,.val (i64 a)),(8,.val (i64 l)),(9,.val (.pointer (some ⟨h.length,0,some 0⟩))),(10,.val (.int .u64 m)),(11,.val (i64 x))])
 case hm=>exact mixed
 case hc=>kernel_rfl
 case ha=>rfl
 case hb=>rfl
 case hS=>
  refine Iw hg gx gy rx ry e13 e14 Nat.mul_one ?_
  apply az.cons
  ·rfl
  ·refine⟨?_,trivial⟩
   exact bl (r:=.sl .dy) rfl ak rfl ak ak hg ak rfl (cI (d:=dc) (i:=x) (x:=dc[y]!) hx1) rfl rfl
  ·rfl
  refine Iw hg gx gy rx ry e13 e14 Nat.mul_one ?_
  apply az.cons
  ·rfl
  ·refine⟨?_,trivial⟩
   exact bl (r:=.sl .dy) rfl ak rfl ak ak (aw hg) ak rfl (cI (d:=dc.setIfInBounds x dc[y]!) (i:=y) (x:=dc[x]!) (by simpa using hy1)) rfl aM.symm
  ·rfl
  exact az.nil _
 case ht=>rfl
 case hF=>exact zh
 show CW _ _ _ _
 refine aG e9 ?_
 refine⟨(x+1,w,Go.Sort.swp dc x y),by simp only;omega,aO,?_,by simp only;omega,by simp only;omega,?_,?_⟩
 ·simp only
  show hc.set id _=_
  rw[← hhc,Bg (by rw[hL];exact hid),aM]
 ·exact Go.Sort.permIn_trans _ _ _ a b h3 (Go.Sort.swp_permIn _ a b x y om om om om om)
 ·have:=D1.swp hx1 hy1
  rw[aM] at this
  exact this
·have d2:decide ((x:Int)≤(B:Int))=false:=decide_eq_false om
 refine ox e2 e4 e5 e7 d2 ?_
 refine ae rfl ?_
 refine aC ?_
 exact⟨_,ak,rfl,dc,h3,⟨bo D1.g,D1.n,D1.b⟩,List.prefix_append _ _⟩}
theorem kP {h hc:ah} {id:Nat} {x y:av} (h1:h.set id x <+: hc) (hid:id<h.length):h.set id y <+: hc.set id y:=by{
obtain⟨t,rfl⟩:=h1
refine⟨t,?_⟩
rw[List.set_append_left _ _ (by rw[List.length_set];exact hid),List.set_set]}
def gB (h:ah) (id au:Nat) (hc:ah) (dc:Array aQ):Prop:=DA hc id au dc∧h.set id (.aj (IC dc) au true 70) <+: hc
theorem gB.to {h:ah} {id au:Nat} {hc h':ah} {dc d':Array aQ} (I:gB h id au hc dc) (hid:id<h.length) (D:DA h' id au d') (e:hc.set id (.aj (IC d') au true 70) <+: h'):gB h id au h' d':=
 ⟨D,(kP I.2 hid).trans e⟩
theorem gB.eq {h:ah} {id au:Nat} {hc h':ah} {dc d':Array aQ} (I:gB h id au hc dc) (hid:id<h.length) (D:DA h' id au d') (e:h'=hc.set id (.aj (IC d') au true 70)):gB h id au h' d':=
 I.to hid D (by rw[e];exact List.prefix_refl _)
def wV (h:ah) (id au a b:Nat) (d:Array aQ) (h':ah):Prop:=∃ d',Go.Sort.PermIn a b d d'∧Go.Sort.SortedIn br a b d'∧gB h id au h' d'
theorem I7 {id au c:Nat}:∀ (n:Nat) {h:ah} {a b lim:Nat} {d:Array aQ},b-a≤n→DA h id au d→a≤b→b≤d.size→lim≤100→Go.Sort.Below br a b d → FW env 145 [.slice (some ⟨id,0,some au⟩) d.size c,i64 a,i64 b,i64 lim,aP] h fun r h'=>r = .tuple #[]∧wV h id au a b d h':=by{
intro n
induction n using Nat.strongRecOn with
| _ n ih=>
intro h a0 b0 lim0 d hbn D hab hb hlim hB0
have hsz:=D.n
have hid:id<h.length:=(List.getElem?_eq_some_iff.1 D.g).1
refine fe Tryz.func145 ?_;simp only[push_cast]
refine aB ?_
refine eY (fun x:Nat×Nat×Nat×Bool×Bool×Array aQ×ah=>x.2.1-x.1) (fun x=>[(0,.val (.slice (some ⟨id,0,some au⟩) d.size c)),(1,.val (i64 x.1)),(2,.val (i64 x.2.1)),(3,.val (i64 x.2.2.1)),(4,.val aP),(10,.val (.bool x.2.2.2.1)),(11,.val (.bool x.2.2.2.2.1))]) (fun x=>x.2.2.2.2.2.2)
 (fun x=>x.1≤x.2.1∧x.2.1≤d.size∧x.2.1-x.1≤n∧x.2.2.1≤100∧x.2.2.2.2.2.1.size=d.size∧gB h id au x.2.2.2.2.2.2 x.2.2.2.2.2.1∧Go.Sort.Below br x.1 x.2.1 x.2.2.2.2.2.1 ∧
  ∀ R,Go.Sort.PermIn x.1 x.2.1 x.2.2.2.2.2.1 R→Go.Sort.SortedIn br x.1 x.2.1 R→Go.Sort.PermIn a0 b0 d R∧Go.Sort.SortedIn br a0 b0 R) (a0,b0,lim0,true,true,d,h) aO rfl ⟨hab,hb,hbn,hlim,rfl,⟨D,by simp only[fA D.g];exact List.prefix_refl _⟩,hB0,fun R h1 h2=>⟨h1,h2⟩⟩ ?_
clear D hab hb hlim hB0 hbn lim0
rintro⟨a,b,lim,wb,wp,dc,hc⟩ ⟨hab,hbs,hbn,hlim,hs,I,hB,K⟩
simp only at hab hbs hbn hlim hs I hB K ⊢
obtain⟨l,hl⟩:∃ l,l=b-a:=⟨_,rfl⟩
have e1:IntKind.i64.wrap ((b:Int)-(a:Int))=(l:Int):=by rw[ay om om];omega
refine aG e1 ?_
by_cases h12:l≤12
·have d1:decide ((l:Int)≤12)=true:=decide_eq_true om
 refine af (iD d1) ?_
 refine aB ?_
 refine zj Tryz.func180 ?_
 rw[List.append_nil]
 have kk:=vk (c:=c) I.1 hab om
 rw[hs] at kk
 refine kk.mono ?_
 rintro _ h1 ⟨rfl,k1,D1,k2⟩
 obtain⟨q1,q2⟩:=Go.Sort.insertionSort_holds kc dc a b hab om
 obtain⟨K1,K2⟩:=K _ q1 q2
 refine aB ?_
 refine ai ?_
 exact⟨_,ak,rfl,_,K1,K2,I.eq hid D1 k1⟩
have d1:decide ((l:Int)≤12)=false:=decide_eq_false om
refine ae (iD d1) ?_
clear d1
refine aB ?_
by_cases hl0:lim=0
·have d2:decide ((lim:Int)=0)=true:=decide_eq_true om
 refine af (iD d2) ?_
 refine aB ?_
 refine zj Tryz.func181 ?_
 rw[List.append_nil]
 have kk:=Gr (c:=c) I.1 hab om
 rw[hs] at kk
 refine kk.mono ?_
 rintro _ h1 ⟨rfl,k1,D1,k2⟩
 obtain⟨q1,q2⟩:=Go.Sort.heapSort_holds kc dc a b hab om
 obtain⟨K1,K2⟩:=K _ q1 q2
 refine aB ?_
 refine ai ?_
 exact⟨_,ak,rfl,_,K1,K2,I.eq hid D1 k1⟩
have d2:decide ((lim:Int)=0)=false:=decide_eq_false om
refine ae (iD d2) ?_
clear d2
refine aB ?_
refine CW.mono (Q:=fun e s'=>e = .normal∧∃ (d1:Array aQ) (lim1:Nat),Go.Sort.PermIn a b dc d1∧gB h id au s'.h d1∧lim1≤100∧bB [(0,.val (.slice (some ⟨id,0,some au⟩) d.size c)),(1,.val (i64 a)),(2,.val (i64 b)),(3,.val (i64 lim1)),(4,.val aP),(10,.val (.bool wb)),(11,.val (.bool wp)),(12,.val (i64 l))] s'.fr) ?_ ?_
·cases wb with
 | false=>
   obtain⟨lim1,hl1⟩:∃ z,z=lim-1:=⟨_,rfl⟩
   have e2:IntKind.i64.wrap ((lim:Int)-1)=(lim1:Int):=by rw[ay om om];omega
   refine af rfl ?_
   refine aB ?_
   refine zj Tryz.func182 ?_
   rw[List.append_nil]
   have kk:=Jn (c:=c) (a:=a) (b:=b) (fv:=aP) I.1 om om
   rw[hs] at kk
   refine kk.mono ?_
   rintro _ h1 ⟨rfl,d1,q1,D1,q2⟩
   refine aG e2 ?_
   exact⟨rfl,d1,lim1,q1,I.to hid D1 q2,by omega,(lF hs)⟩
 | true=>
   refine ae rfl ?_
   refine aB ?_
   exact⟨rfl,dc,lim,Go.Sort.permIn_refl _ _ _,I,hlim,aO⟩
rintro e s' ⟨rfl,d1,lim1,p1,I1,hlim1,hf⟩
show CW _ _ _ _
obtain⟨h1,hh1⟩:∃ z,s'.h=z:=⟨_,rfl⟩
refine aA _ hf ?_
rw[hh1] at I1 ⊢
clear hf hh1
clear s'
have hs1:d1.size=d.size:=p1.1.trans hs
clear hl0 hlim
refine aB ?_
refine zj Tryz.func183 ?_
rw[List.append_nil]
have kk:=EL (c:=c) (a:=a) (b:=b) I1.1 om om
rw[hs1] at kk
refine kk.mono ?_
rintro _ _ ⟨⟨p,hint,rfl,hpa,hpb⟩,rfl⟩
refine aB ?_
refine CW.mono (Q:=fun e s'=>e = .normal∧∃ (d2:Array aQ) (p2:Nat) (hint2:Int),Go.Sort.PermIn a b d1 d2∧gB h id au s'.h d2∧a≤p2∧p2<b∧bB [(0,.val (.slice (some ⟨id,0,some au⟩) d.size c)),(1,.val (i64 a)),(2,.val (i64 b)),(3,.val (i64 lim1)),(4,.val aP),(10,.val (.bool wb)),(11,.val (.bool wp)),(12,.val (i64 l)),(13,.val (i64 p2)),(14,.val (i64 hint2))] s'.fr) ?_ ?_
·by_cases hh2:hint=2
 ·have d3:decide ((hint:Int)=2)=true:=decide_eq_true om
  obtain⟨p2,hp2⟩:∃ z,z=(b-1)-(p-a):=⟨_,rfl⟩
  have e3:IntKind.i64.wrap ((b:Int)-1)=(b:Int)-1:=ay om om
  have e4:IntKind.i64.wrap ((p:Int)-(a:Int))=(p:Int)-(a:Int):=ay om om
  have e5:IntKind.i64.wrap ((b:Int)-1-((p:Int)-(a:Int)))=(p2:Int):=by rw[ay om om];omega
  refine af (iD d3) ?_
  refine aB ?_
  refine zj Tryz.func184 ?_
  rw[List.append_nil]
  have kk:=yx (c:=c) (a:=a) (b:=b) (fv:=aP) I1.1 om om
  rw[hs1] at kk
  refine kk.mono ?_
  rintro _ h2 ⟨rfl,k1,D1,k2⟩
  have q1:=Go.Sort.reverseRange_holds d1 a b hab om
  refine ir e3 e4 e5 ?_
  exact⟨rfl,_,p2,1,q1,I1.eq hid D1 k1,by omega,by omega,(lF hs1)⟩
 ·have d3:decide ((hint:Int)=2)=false:=decide_eq_false om
  refine ae (iD d3) ?_
  refine aB ?_
  exact⟨rfl,d1,p,hint,Go.Sort.permIn_refl _ _ _,I1,hpa,hpb,(lF hs1)⟩
clear hpa hpb
clear p hint
rintro e s' ⟨rfl,d2,p,hint,p2,I2,hpa,hpb,hf⟩
show CW _ _ _ _
obtain⟨h2,hh2⟩:∃ z,s'.h=z:=⟨_,rfl⟩
refine aA _ hf ?_
rw[hh2] at I2 ⊢
clear hf hh2
clear s'
have hs2:d2.size=d.size:=p2.1.trans hs1
have P2:=Go.Sort.permIn_trans _ _ _ a b p1 p2
have B2:=hB.perm om P2
clear p1 p2 I1 hs1 hB I
repeat refine vq ?_
refine CW.mono (Q:=fun e s'=>e = .normal∧s'.h=h2∧∃ β:Bool,bB [(0,.val (.slice (some ⟨id,0,some au⟩) d.size c)),(1,.val (i64 a)),(2,.val (i64 b)),(3,.val (i64 lim1)),(4,.val aP),(10,.val (.bool wb)),(11,.val (.bool wp)),(12,.val (i64 l)),(13,.val (i64 p)),(75,.val (.bool β))] s'.fr) ?_ ?_
·cases wb with
 | false=>
   refine aB ?_
   exact⟨rfl,rfl,false,aO⟩
 | true=>
   cases wp with
   | false=>
     refine aB ?_
     exact⟨rfl,rfl,false,aO⟩
   | true=>
     refine aB ?_
     exact⟨rfl,rfl,decide (hint=1),aO⟩
rintro e s' ⟨rfl,hh,β,hf⟩
show CW _ _ _ _
refine aA _ hf ?_
rw[hh]
clear hf hh s'
refine CW.mono (Q:=fun e s'=>(e = .ret∧wV h id au a b dc s'.h)∨(e = .normal∧∃ d3,Go.Sort.PermIn a b d2 d3∧gB h id au s'.h d3∧bB [(0,.val (.slice (some ⟨id,0,some au⟩) d.size c)),(1,.val (i64 a)),(2,.val (i64 b)),(3,.val (i64 lim1)),(4,.val aP),(10,.val (.bool wb)),(11,.val (.bool wp)),(12,.val (i64 l)),(13,.val (i64 p))] s'.fr)) ?_ ?_
·cases β with
 | true=>
   refine af rfl ?_
   refine aB ?_
   refine zj Tryz.func185 ?_
   rw[List.append_nil]
   have kk:=FP (c:=c) (a:=a) (b:=b) I2.1 om om
   rw[hs2] at kk
   refine kk.mono ?_
   obtain⟨q1,q2⟩:=Go.Sort.partialInsertionSort_holds kc d2 a b om om B2
   obtain⟨P,hP⟩:∃ P,Go.Sort.partialInsertionSort br d2 a b=P:=⟨_,rfl⟩
   rw[hP] at q1 q2 ⊢
   rintro _ h3 ⟨rfl,k1,D1,k2⟩
   cases hP2:P.2 with
   | true=>
     refine aB ?_
     refine af rfl ?_
     refine ai ?_
     exact .inl ⟨rfl,_,Go.Sort.permIn_trans _ _ _ a b P2 q1,q2 hP2,I2.eq hid D1 k1⟩
   | false=>
     refine aB ?_
     refine ae rfl ?_
     refine aB ?_
     exact .inr ⟨rfl,_,q1,I2.eq hid D1 k1,(lF hs2)⟩
 | false=>
   refine ae rfl ?_
   refine aB ?_
   exact .inr ⟨rfl,_,Go.Sort.permIn_refl _ _ _,I2,aO⟩
rintro e s' (⟨rfl,dd,q1,q2,q3⟩ | ⟨rfl,d3,p3,I3,hf⟩)
·obtain⟨K1,K2⟩:=K _ q1 q2
 exact⟨_,rfl,rfl,dd,K1,K2,q3⟩
show CW _ _ _ _
obtain⟨h3,hh3⟩:∃ z,s'.h=z:=⟨_,rfl⟩
refine aA _ hf ?_
rw[hh3] at I3 ⊢
clear hf hh3
clear s'
have hs3:d3.size=d.size:=p3.1.trans hs2
have B3:=B2.perm om p3
have P3:=Go.Sort.permIn_trans _ _ _ a b P2 p3
have hp3:p<d3.size:=by omega
have gp:=bz hp3
have bp:=I3.1.b _ hp3
have rp:=cH (k:=p) (n:=d.size) om
have hg:=I3.1.g
repeat refine vq ?_
refine CW.mono (Q:=fun e s'=>e = .normal∧s'.h=h3∧bB [(0,.val (.slice (some ⟨id,0,some au⟩) d.size c)),(1,.val (i64 a)),(2,.val (i64 b)),(3,.val (i64 lim1)),(4,.val aP),(10,.val (.bool wb)),(11,.val (.bool wp)),(12,.val (i64 l)),(13,.val (i64 p)),(97,.val (.bool (decide (0<a) && !br d3[a-1]! d3[p]!)))] s'.fr) ?_ ?_
·by_cases ha0:0<a
 ·have d4:decide (0<(a:Int))=true:=decide_eq_true om
  obtain⟨q,hq⟩:∃ q,q=a-1:=⟨_,rfl⟩
  have e5:IntKind.i64.wrap ((a:Int)-1)=(q:Int):=by rw[ay om om];omega
  have hq3:q<d3.size:=by omega
  have gq:=bz hq3
  have bq:=I3.1.b _ hq3
  have rq:=cH (k:=q) (n:=d.size) om
  rw[← hq,decide_eq_true ha0,Bool.true_and]
  cases hl:br d3[q]! d3[p]! with
  | true=>
    have d7:decide (fj d3[q]! d3[p]! < 0)=true:=hl
    apply bu (L:=[[],[0],[1],[2],[2],[2],[2,5],[2,4,6],[2,7],[2],[2],[2,9,10],[2,11],[2,3,8,12],[2,13],[2,14],[2,15]]) (resL:=[_,_,_,_,_,_,_,_,_,_,_,_,_,_,_,_,_]) (frF:=[(0,.val (.slice (some ⟨id,0,some au⟩) d.size c)),(1,.val (i64 a)),(2,.val (i64 b)),(3,.val (i64 lim1)),(4,.val aP),(10,.val (.bool wb)),(11,.val (.bool wp)),(12,.val (i64 l)),(13,.val (i64 p)),(97,.val (.bool false))])
    case hm=>exact mixed
    case hc=>kernel_rfl
    case hb=>rfl
    case hS=>
     refine IE d4 e5 hg gp gq rp rq Nat.mul_one ?_
     apply aR.cons
     ·exact bg (fn:=Tryz.f104) (args:=[d3[q]!.val,d3[p]!.val]) (cap:=[]) rfl (iD d4) rfl ak ak Tryz.func104 kr kr (bF bq bp)
     ·rfl
     exact rG d7 d4
    case ht=>rfl
    case hF=>exact zh
    exact⟨rfl,rfl,aO⟩
  | false=>
    have d7:decide (fj d3[q]! d3[p]! < 0)=false:=hl
    apply bu (L:=[[],[0],[1],[2],[2],[2],[2,5],[2,4,6],[2,7],[2],[2],[2,9,10],[2,11],[2,3,8,12],[2,13],[2,14],[2,15]]) (resL:=[_,_,_,_,_,_,_,_,_,_,_,_,_,_,_,_,_]) (frF:=[(0,.val (.slice (some ⟨id,0,some au⟩) d.size c)),(1,.val (i64 a)),(2,.val (i64 b)),(3,.val (i64 lim1)),(4,.val aP),(10,.val (.bool wb)),(11,.val (.bool wp)),(12,.val (i64 l)),(13,.val (i64 p)),(97,.val (.bool true))])
    case hm=>exact mixed
    case hc=>kernel_rfl
    case hb=>rfl
    case hS=>
     refine IE d4 e5 hg gp gq rp rq Nat.mul_one ?_
     apply aR.cons
     ·exact bg (fn:=Tryz.f104) (args:=[d3[q]!.val,d3[p]!.val]) (cap:=[]) rfl (iD d4) rfl ak ak Tryz.func104 kr kr (bF bq bp)
     ·rfl
     exact rG d7 d4
    case ht=>rfl
    case hF=>exact zh
    exact⟨rfl,rfl,aO⟩
 ·have d4:decide (0<(a:Int))=false:=decide_eq_false om
  rw[decide_eq_false ha0,Bool.false_and]
  apply bu (L:=[[],[0],[1],[2],[2],[2],[2,5],[2,4,6],[2,7],[2],[2],[2,9,10],[2,11],[2,3,8,12],[2,13],[2,14],[2,15]]) (resL:=[_,_,_,_,_,_,_,_,_,_,_,_,_,_,_,_,_]) (frF:=[(0,.val (.slice (some ⟨id,0,some au⟩) d.size c)),(1,.val (i64 a)),(2,.val (i64 b)),(3,.val (i64 lim1)),(4,.val aP),(10,.val (.bool wb)),(11,.val (.bool wp)),(12,.val (i64 l)),(13,.val (i64 p)),(97,.val (.bool false))])
  case hm=>exact mixed
  case hc=>kernel_rfl
  case hb=>rfl
  case hS=>exact AQ d4
  case ht=>rfl
  case hF=>exact zh
  exact⟨rfl,rfl,aO⟩
rintro e s' ⟨rfl,hh,hf⟩
show CW _ _ _ _
refine aA _ hf ?_
rw[hh]
clear hf hh s'
clear gp bp rp hg
cases hc2:(decide (0<a) && !br d3[a-1]! d3[p]!) with
| true=>
  rw[Bool.and_eq_true,decide_eq_true_eq,Bool.not_eq_true'] at hc2
  refine af rfl ?_
  refine aB ?_
  refine zj Tryz.func186 ?_
  rw[List.append_nil]
  have kk:=AS (c:=c) I3.1 hpa hpb om
  rw[hs3] at kk
  refine kk.mono ?_
  obtain⟨P,hP⟩:∃ P,Go.Sort.partitionEqual br d3 a b p=P:=⟨_,rfl⟩
  obtain⟨m1,m2,m3,m4,m5⟩:=Go.Sort.round_eq (mid:=P.1) (d4:=P.2) kc (Go.Sort.partitionEqual_holds br) hc2.1 hpa hpb om B3 hc2.2 hP
  rw[hP]
  rintro _ h4 ⟨rfl,k1,D1,k2⟩
  obtain⟨mid,hmid⟩:∃ z,P.1=z:=⟨_,rfl⟩
  rw[hmid] at m1 m2 m4 m5 ⊢
  refine aB ?_
  refine aC ?_
  refine⟨(mid,b,lim1,wb,wp,P.2,h4),by simp only;omega,aO,rfl,m2,hbs,by simp only;omega,hlim1,by simp only;omega,I3.eq hid D1 k1,m4,fun R r1 r2=>?_⟩
  obtain⟨s1,s2⟩:=m5 R r1 r2
  exact K R (Go.Sort.permIn_trans _ _ _ a b P3 s1) s2
| false=>
clear hc2
refine ae rfl ?_
refine aB ?_
refine zj Tryz.func187 ?_
rw[List.append_nil]
have kk:=FV (c:=c) I3.1 hpa hpb om
rw[hs3] at kk
refine kk.mono ?_
obtain⟨mid,hmid⟩:∃ z,(Go.Sort.partition br d3 a b p).1=z:=⟨_,rfl⟩
obtain⟨d4,hd4⟩:∃ z,(Go.Sort.partition br d3 a b p).2.2=z:=⟨_,rfl⟩
obtain⟨m1,m2,m3,m4,m5,m6,m7⟩:=Go.Sort.round_part (mid:=mid) (d4:=d4) (ap:=(Go.Sort.partition br d3 a b p).2.1) kc (Go.Sort.partition_holds br) hpa hpb om B3 (by rw[← hmid,← hd4])
rw[hmid,hd4]
rintro _ h4 ⟨ap,rfl,k1,D1,k2⟩
have I4:=I3.eq hid D1 k1
have hs4:d4.size=d.size:=k2
clear I3 B3 B2 I2 k1 k2 hmid hd4 D1
obtain⟨u,hu⟩:∃ z,z=mid-a:=⟨_,rfl⟩
obtain⟨v,hv⟩:∃ z,z=b-mid:=⟨_,rfl⟩
have e6:IntKind.i64.wrap ((mid:Int)-(a:Int))=(u:Int):=by rw[ay om om];omega
have e7:IntKind.i64.wrap ((b:Int)-(mid:Int))=(v:Int):=by rw[ay om om];omega
have e8:IntKind.i64.wrap ((mid:Int)+1)=((mid+1:Nat):Int):=by rw[ay om om];omega
obtain⟨mid1,hmid1⟩:∃ z,z=mid+1:=⟨_,rfl⟩
rw[← hmid1] at e8
rw[← hmid1] at m5 m6 m7
refine fM e6 e7 ?_
by_cases huv:u<v
·have d5:decide ((u:Int)<(v:Int))=true:=decide_eq_true om
 refine af (iD d5) ?_
 refine aB ?_
 refine zj Tryz.func145 ?_
 rw[List.append_nil]
 have kk:=ih (mid-a) om (Nat.le_refl _) I4.1 m1 om hlim1 m4
 rw[hs4] at kk
 refine kk.mono ?_
 rintro _ h5 ⟨rfl,L,l1,l2,l3⟩
 obtain⟨m8,m9⟩:=m6 L l1 l2
 have hs5:L.size=d.size:=l1.1.trans hs4
 refine aG e8 ?_
 refine⟨(mid1,b,lim1,decide (IntKind.i64.wrap ((l:Int).tdiv 8)≤(u:Int)),ap,L,h5),by simp only;omega,aO,rfl,by simp only;omega,hbs,by simp only;omega,hlim1,hs5,I4.to hid l3.1 l3.2,m8,fun R r1 r2=>?_⟩
 obtain⟨s1,s2⟩:=m9 R r1 r2
 exact K R (Go.Sort.permIn_trans _ _ _ a b P3 s1) s2
·have d5:decide ((u:Int)<(v:Int))=false:=decide_eq_false om
 refine ae (iD d5) ?_
 refine aG e8 ?_
 refine zj Tryz.func145 ?_
 rw[List.append_nil]
 have kk:=ih (b-mid1) om (Nat.le_refl _) I4.1 om om hlim1 m5
 rw[hs4] at kk
 refine kk.mono ?_
 rintro _ h5 ⟨rfl,L,l1,l2,l3⟩
 obtain⟨m8,m9⟩:=m7 L l1 l2
 have hs5:L.size=d.size:=l1.1.trans hs4
 refine aB ?_
 refine⟨(a,mid,lim1,decide (IntKind.i64.wrap ((l:Int).tdiv 8)≤(v:Int)),ap,L,h5),by simp only;omega,aO,rfl,m1,by simp only;omega,by simp only;omega,hlim1,hs5,I4.to hid l3.1 l3.2,m8,fun R r1 r2=>?_⟩
 obtain⟨s1,s2⟩:=m9 R r1 r2
 exact K R (Go.Sort.permIn_trans _ _ _ a b P3 s1) s2}
theorem Io {h:ah} {id au c:Nat} {d:Array aQ} (D:DA h id au d) : FW env 103 [.slice (some ⟨id,0,some au⟩) d.size c,aP] h fun r h'=>r = .tuple #[]∧wV h id au 0 d.size d h':=by{
have hn:=D.n
have e1:IntKind.u64.wrap (d.size:Int)=(d.size:Int):=lk om om
obtain⟨z,hz⟩:∃ z:Nat,z=0:=⟨_,rfl⟩
refine fe Tryz.func103 ?_;simp only[push_cast]
refine aG e1 ?_
refine zj Tryz.func146 ?_
rw[List.append_nil]
refine (yE hn).mono ?_
rintro _ _ ⟨rfl,rfl⟩
have hb:=(Go.Sort.bitsLen_le_iff d.size 30).2 om
refine aB ?_
refine zj Tryz.func145 ?_
rw[List.append_nil]
refine (I7 (c:=c) d.size (a:=0) (b:=d.size) (lim:=Go.Sort.bitsLen d.size) (Nat.le_refl _) D (Nat.zero_le _) (Nat.le_refl _) om (.inl rfl)).mono ?_
rintro _ h1 ⟨rfl,k⟩
refine aB ?_
exact⟨_,ak,rfl,k⟩}
theorem wV.eq {h h':ah} {id au:Nat} {d:Array aQ} (k:wV h id au 0 d.size d h'):∃ d',d'.toList=d.toList.mergeSort (fun x y=>!br y x)∧gB h id au h' d':=by
 obtain⟨d',k1,k2,k3⟩:=k
 exact⟨d',Go.Sort.sorted_unique_holds kc (fun x y=>EJ) d d' k1 k2,k3⟩
def kg (ps:List Prod) (c:ByteArray):Nat:=ps.findIdx (lT c)
theorem lX.idx {α:Type} {P:α→Bool} {l:List α} {r:Int} (h:lX P l r) (h0:0≤r):∃ hk:l.findIdx P<l.length,P (l[l.findIdx P])=true∧r=(l.findIdx P:Int):=by{
rcases h with ⟨k,hk,h1,h2,rfl⟩ | ⟨_,rfl⟩
·have e:l.findIdx P=k:=(List.findIdx_eq hk).2 ⟨h1,h2⟩
 subst e
 exact⟨hk,h1,rfl⟩
·omega}
theorem rQ {ps:List Prod} {c:ByteArray} (h:jS ps c):∃ hk:kg ps c<ps.length,lT c ps[kg ps c]=true:=by{
obtain⟨i,hi,h0⟩:=h
rcases hi with ⟨_,rfl⟩ | ⟨_,hi⟩
·omega
·obtain⟨hk,h1,_⟩:=hi.idx h0
 exact⟨hk,h1⟩}
theorem iX.TS {ps:List Prod} {c:ByteArray} {i:Int} (hi:iX ps c i) (h:jS ps c):i=(kg ps c:Int):=by{
obtain⟨j,hj,h0⟩:=h
rcases hi with ⟨a,rfl⟩ | ⟨a,hi⟩<;>rcases hj with ⟨b,rfl⟩ | ⟨b,hj⟩
·omega
·exact absurd a b
·omega
·obtain⟨hk,h1,_⟩:=hj.idx h0
 rcases hi with ⟨k,hk',h1',h2',rfl⟩ | ⟨hall,rfl⟩
 ·exact congrArg Int.ofNat ((List.findIdx_eq hk').2 ⟨h1',h2'⟩).symm
 ·rw[hall _ (List.getElem_mem hk)] at h1
  cases h1}
theorem Ck {ps:List Prod} {c e:ByteArray} (h1:jS ps c) (h2:jS ps e) (h:kg ps c=kg ps e):c=e:=by{
obtain⟨a,ha⟩:=rQ h1
obtain⟨b,hb⟩:=rQ h2
unfold lT at ha hb
simp only[Bool.and_eq_true,decide_eq_true_eq] at ha hb
rw[← ha.2,← hb.2]
congr 2}
structure CE where
 at_:Nat
 zp:Nat
 assoc:Int
def jz (ps:List Prod) (g:Nat) (x:dT):List CE:=x.cons.map fun c=>⟨kg ps c,g,x.assoc⟩
def pW (ps:List Prod) (l:List dT):List CE:=l.zipIdx.flatMap fun x=>jz ps x.2 x.1
theorem Dw {ps:List Prod} {l:List dT} {k:Nat} (hk:k<l.length):pW ps (l.take (k+1))=pW ps (l.take k)++jz ps k l[k]:=by{
unfold pW
rw[List.take_succ_eq_append_getElem hk,List.zipIdx_append,List.flatMap_append]
simp only[List.length_take,List.zipIdx_cons,List.zipIdx_nil,List.flatMap_cons,List.flatMap_nil,List.append_nil,Nat.zero_add]
rw[Nat.min_eq_left om]}
theorem vl {ps:List Prod}:∀ (l:List dT) (k:Nat),((l.zipIdx k).flatMap fun x=>jz ps x.2 x.1).map CE.at_=(cY l).map (kg ps)
 | [],_=>rfl
 | g :: l,k=>by
   have ih:=vl (ps:=ps) l (k+1)
   unfold cY at ih ⊢
   rw[List.zipIdx_cons,List.flatMap_cons,List.map_append,ih,List.flatMap_cons,List.map_append]
   congr 1
   unfold jz
   rw[List.map_map]
   rfl
theorem oB {ps:List Prod} {l:List dT} (h:gv ps (cY l)):((pW ps l).map CE.at_).Nodup:=by{
unfold pW
rw[vl l 0]
unfold List.Nodup
rw[List.pairwise_map]
exact h.2.imp_of_mem fun {a b} ha hb hne e=>hne (Ck (h.1 a ha) (h.1 b hb) e)}
theorem uy {ps:List Prod} {l:List dT} (h:gv ps (cY l)) {e:CE} (he:e∈pW ps l):e.at_<ps.length:=by{
have h1:e.at_∈(pW ps l).map CE.at_:=List.mem_map_of_mem he
unfold pW at h1
rw[vl l 0,List.mem_map] at h1
obtain⟨c,hc,e1⟩:=h1
obtain⟨hk,_⟩:=rQ (h.1 c hc)
omega}
theorem uX {ps:List Prod} {l:List dT}:(pW ps l).length=(cY l).length:=by{
have:=congrArg List.length (vl (ps:=ps) l 0)
rw[List.length_map,List.length_map] at this
exact this}
abbrev CE.place (e:CE):Value:=.agg #[i64 e.zp,i64 e.assoc]
def x8 (l:List CE):List (Value×Value):=l.map fun e=>(i64 e.at_,e.place)
theorem uQ {e:CE}:∀ {l:List CE},(l.map CE.at_).Nodup→e∈l→gj (x8 l) (i64 e.at_)=some e.place
 | [],_,h=>by simp at h
 | a :: l,hn,h=>by
   rw[List.map_cons,List.nodup_cons] at hn
   have ih:=uQ (e:=e) (l:=l) hn.2
   unfold x8 at ih ⊢
   simp only[List.map_cons,gj,oU,mw,decide_eq_true_eq]
   rcases List.mem_cons.1 h with rfl|h
   ·rw[if_pos rfl]
   ·rw[if_neg,ih h]
    intro e1
    refine hn.1 ?_
    have:a.at_=e.at_:=by omega
    rw[this]
    exact List.mem_map_of_mem h
theorem Ay {e:CE}:∀ {l:List CE},e.at_∉l.map CE.at_→iE (x8 l) (i64 e.at_) e.place=x8 (l++[e])
 | [],_=>rfl
 | a :: l,h=>by
   rw[List.map_cons,List.mem_cons] at h
   have ih:=Ay (e:=e) (l:=l) fun q=>h (.inr q)
   unfold x8 at ih ⊢
   simp only[List.map_cons,iE,oU,mw,decide_eq_true_eq,List.cons_append]
   rw[if_neg (fun q=>h (.inl om)),ih]
theorem vU (l:List CE):ei nq (x8 l)=true:=by{
unfold ei x8
rw[List.all_map,List.all_eq_true]
intro x _
rfl}
def bE (l:List (aQ×Int)):List (Value×Value):=l.map fun p=>(p.1.val,i64 p.2)
def ph:List (aQ×Int)→aQ→List (aQ×Int)
 | [],x=>[(x,IntKind.i64.wrap (0+1))]
 | (k,v) :: r,x=>if x=k then (k,IntKind.i64.wrap (v+1)) :: r else (k,v) :: ph r x
theorem Ad (x y:aQ):oU x.val y.val=decide (x=y):=by
 cases x with|mk a b c=>cases y with|mk a' b' c'=>
 simp only[oU,jk,mw,Bool.and_true,aQ.mk.injEq,Bool.decide_and,Int.ofNat_inj]
theorem Aj (x:aQ):∀ l,(∃ n j,kj (bE l) x.val=some (j,i64 n)∧(bE l)[j]? = some (x.val,i64 n)∧(bE l).set j (x.val,i64 (IntKind.i64.wrap (n+1)))=bE (ph l x))∨(kj (bE l) x.val=none∧bE (ph l x)=bE l++[(x.val,i64 (IntKind.i64.wrap (0+1)))])
 | []=>.inr ⟨rfl,rfl⟩
 | (k,v) :: r=>by
   have ih:=Aj x r
   unfold bE at ih ⊢
   simp only[List.map_cons,kj,Ad,decide_eq_true_eq,ph]
   by_cases h:x=k
   ·subst h
    rw[if_pos rfl,if_pos rfl]
    exact .inl ⟨v,0,rfl,rfl,rfl⟩
   ·rw[if_neg h,if_neg h]
    rcases ih with ⟨n,j,h1,h2,h3⟩ | ⟨h1,h2⟩
    ·refine .inl ⟨n,j+1,by rw[h1];rfl,?_,?_⟩
     ·rw[List.getElem?_cons_succ];exact h2
     ·rw[List.set_cons_succ,h3];rfl
    ·exact .inr ⟨by rw[h1];rfl,by rw[List.map_cons,h2];rfl⟩
theorem uL (l:List (aQ×Int)):ei (xX kQ) (bE l)=true:=by{
unfold ei bE
rw[List.all_map,List.all_eq_true]
intro x _
rfl}
theorem vj (k:aQ):xX kQ k.val=true:=rfl
@[push_cast] theorem O4:jg 70=some (xX kQ):=rfl
@[push_cast] theorem NO:jg 3=some nq:=rfl
theorem HB (es:List (aQ×Int)):(bE es).all (fun p=>fB p.1)=true:=by{
unfold bE
rw[List.all_map,List.all_eq_true]
intro x _
rfl}
theorem IP {es:List (aQ×Int)} {i:Nat} {k v:Value}:(bE es)[i]? = some (k,v)↔∃ p,es[i]? = some p∧k=p.1.val∧v=i64 p.2:=by{
unfold bE
rw[List.getElem?_map]
cases es[i]? with
| none=>simp
| some p=>simp [eq_comm]}
def sL (l:List aQ) (x:aQ):List aQ:=if x∈l then l else l++[x]
theorem xW (x:aQ):∀ l,(ph l x).map (·.1)=sL (l.map (·.1)) x
 | []=>by simp [ph,sL]
 | (k,v) :: r=>by
   have ih:=xW x r
   unfold sL at ih ⊢
   unfold ph
   by_cases h:x=k
   ·rw[if_pos h,if_pos (by simp [h])]
    rfl
   ·rw[if_neg h,List.map_cons,ih]
    by_cases q:x∈r.map (·.1)
    ·rw[if_pos q,if_pos (by rw[List.map_cons];exact List.mem_cons_of_mem _ q)]
     rfl
    ·rw[if_neg q,if_neg (by rw[List.map_cons,List.mem_cons];exact fun e=>e.elim h q)]
     rfl
def eF (l:List (aQ×Int)) (xs:List aQ):List (aQ×Int):=xs.foldl ph l
def ki (l xs:List aQ):List aQ:=xs.foldl sL l
theorem ua:∀ (xs:List aQ) (l:List (aQ×Int)),(eF l xs).map (·.1)=ki (l.map (·.1)) xs
 | [],_=>rfl
 | x :: xs,l=>by
   have ih:=ua xs (ph l x)
   rw[xW] at ih
   exact ih
theorem nQ {l:List (aQ×Int)} {a b:List aQ}:eF l (a++b)=eF (eF l a) b:=List.foldl_append
theorem ta {x:aQ}:∀ {xs l:List aQ},x∈ki l xs↔x∈l∨x∈xs
 | [],l=>by simp [ki]
 | y :: xs,l=>by
   have ih:=ta (x:=x) (xs:=xs) (l:=sL l y)
   have h:x∈sL l y↔x∈l∨x=y:=by
    unfold sL
    by_cases q:y∈l
    ·rw[if_pos q]
     exact⟨.inl,fun k=>k.elim id fun e=>e▸q⟩
    ·rw[if_neg q,List.mem_append,List.mem_singleton]
   unfold ki at ih ⊢
   rw[List.foldl_cons,ih,h,List.mem_cons,or_assoc]
def barredB (a b:CE) (at_ last:Nat):Bool:=
 if a.zp=b.zp then ((decide (a.assoc=1)||decide (a.assoc=3))&&decide (at_=last))||((decide (a.assoc=2)||decide (a.assoc=3))&&decide (at_=0)) else decide (a.zp<b.zp)
def gZ (s:Sym) (q:Prod):Bool:=(decide (s.kind=3)||decide (s.kind=4))&&decide (s.name=q.sort)
def el (os:List gD) (p:Nat):List Nat:=(List.range os.length).filter (yC os (p:Int))
theorem xK {os:List gD} {p:Nat}:dF os (p:Int) os.length=(el os p).map Int.ofNat:=rfl
def pz (os:List gD) (r:Nat) (o:gD) (at_ q pos:Nat):List aQ:=if o.al[pos]? = some (at_:Int) then (el os q).map fun kid=>⟨r,pos,kid⟩ else []
def nZ (os:List gD) (at_ q r:Nat):List aQ:=match os[r]? with
 | some o=>(List.range o.al.length).flatMap (pz os r o at_ q)
 | none=>[]
def sK (os:List gD) (p at_ q:Nat):List aQ:=(el os p).flatMap (nZ os at_ q)
def uV (d:b7) (os:List gD) (p q:CE) (n:Nat) (at_:Nat) (s:Sym):List aQ:=match d.aa[q.at_]? with
 | some x=>if (gZ s x&&barredB p q at_ (n-1))=true then sK os p.at_ at_ q.at_ else []
 | none=>[]
def jC (d:b7) (os:List gD) (p q:CE):List aQ:=match d.aa[p.at_]? with
 | some x=>x.al.zipIdx.flatMap fun y=>uV d os p q x.al.length y.2 y.1
 | none=>[]
def gz (d:b7) (os:List gD) (l:List dT):List aQ:=(pW d.aa l).flatMap fun p=>(pW d.aa l).flatMap fun q=>jC d os p q
def ky (d:b7) (os:List gD):List aQ:=d.ax.flatMap (gz d os)
def Qi (d:b7):List aQ:=(ki [] (ky d ((wP d).map (·.2)))).mergeSort (fun x y=>!br y x)
structure MN (h0 hk:ah) (im:Nat) (m:MK) (l:List ByteArray):Prop where
 p:h0 <+: hk
 lm:h0.length≤im
 o:hk[im]? = some (.aj m.cells 0 true 94)
 n:aK h0 hk m.vn l.length (l.map .string) 9
theorem MN.pre {h0 hk h1:ah} {im:Nat} {m:MK} {l:List ByteArray} (M:MN h0 hk im m l) (hp:hk <+: h1):MN h0 h1 im m l:=
 ⟨M.p.trans hp,M.lm,ag hp M.o,M.n.ed (cd.pre (ts:=[]) hp) (by simp)⟩
section
variable {h0 hk:ah} {im i1:Nat} {m:MK} {l:List ByteArray} {d:b7}
theorem ES {up uc uf ur ub:Value} (hd:bK hk d up uc uf ur ub):FW env 91 [.agg (d.val up uc uf ur ub).toArray] hk fun r h'=>hk <+: h'∧aK hk h' r (aF d.aa).length ((aF d.aa).map .string) 9:=by{
have hO:=zD hd
obtain⟨p1,c1,p2,c2,p3,c3,p4,c4,p5,c5,rfl,rfl,rfl,rfl,rfl,l1,l2,l3,l4,l5⟩:=bK.form hd
refine fe Tryz.func91 ?_;simp only[push_cast]
unfold b7.val at hO ⊢
refine aB ?_
refine zj Tryz.func66 ?_
refine hO.mono ?_
rintro _ h1 ⟨ib,im,sv,rfl,hBk⟩
have hb:=hBk.b
simp only[List.cons_append,List.nil_append] at hb
have hs:=hBk.s
obtain⟨q,c,rfl⟩:=hs.form
refine aG hb ?_
refine ai ?_
refine⟨_,ak,hBk.p,?_⟩
exact hs}
end
section
variable {h:ah}
theorem vI {c:Int} (h0:0≤c) (h1:c<256):FW env 176 [.int .u8 c] h fun r h'=>(∃ b:ByteArray,b.size≤4∧r = .string b)∧h'=h:=by{
refine sf (K:=fun r=>∃ b:ByteArray,b.size≤4∧r = .string b) ?_
refine fe Tryz.func176 ?_;simp only[push_cast]
by_cases c1:c=10
·have d1:=decide_eq_true c1
 refine aG d1 ?_
 refine af rfl ?_
 refine aB ?_
 refine ai ?_
 refine⟨_,ak,⟨.be rfl,List.prefix_refl _⟩,_,?_,rfl⟩
 decide
have d1:=decide_eq_false c1
refine aG d1 ?_
refine ae rfl ?_
by_cases c2:c=9
·have d2:=decide_eq_true c2
 refine aG d2 ?_
 refine af rfl ?_
 refine aB ?_
 refine ai ?_
 refine⟨_,ak,⟨.be rfl,List.prefix_refl _⟩,_,?_,rfl⟩
 decide
have d2:=decide_eq_false c2
refine aG d2 ?_
refine ae rfl ?_
by_cases c3:c=13
·have d3:=decide_eq_true c3
 refine aG d3 ?_
 refine af rfl ?_
 refine aB ?_
 refine ai ?_
 refine⟨_,ak,⟨.be rfl,List.prefix_refl _⟩,_,?_,rfl⟩
 decide
have d3:=decide_eq_false c3
refine aG d3 ?_
refine ae rfl ?_
by_cases c4:c=32
·have d4:=decide_eq_true c4
 refine aG d4 ?_
 refine af rfl ?_
 refine aB ?_
 refine ai ?_
 refine⟨_,ak,⟨.be rfl,List.prefix_refl _⟩,_,?_,rfl⟩
 decide
have d4:=decide_eq_false c4
refine aG d4 ?_
refine ae rfl ?_
by_cases q1:c=91
·have g1:=decide_eq_true q1
 refine aG g1 ?_
 refine af rfl ?_
 refine cj ?_
 show CW _ _ _ _
 refine af rfl ?_
 refine zu ?_
 iterate 1 (refine zx pR ?_)
 refine cz (t:=5) (cs:=[.int .u8 c]) (n:=1) ak ak ?_
 dsimp only[St.aX,St.put]
 have hp2:h <+: h++[av.aj [.int .u8 c] 0 true 5]:=aI
 have hx2:(h++[av.aj [.int .u8 c] 0 true 5])[h.length]? = some (.aj [.int .u8 c] 0 true 5):=aJ
 generalize (h++[av.aj [.int .u8 c] 0 true 5])=h2 at hp2 hx2 ⊢
 generalize h.length=i2 at hx2 ⊢
 have hrd:je [.int .u8 c] 0 1=some [.int .u8 c]:=rfl
 have hu8:E4 [.int .u8 c]=some [c]:=rfl
 obtain⟨sb,hsb⟩:∃ sb,sb=strOfNums [c]:=⟨_,rfl⟩
 have hso:strOfNums [c]=sb:=hsb.symm
 have hsz:sb.size=1:=by rw[hsb,strOfNums_size];rfl
 have hcc:(((ByteArray.mk #[92]).size:Int)+(sb.size:Int)≤9223372036854775807)=True:=eq_true (by rw[hsz];decide)
 repeat (first|apply zs|apply zr|apply zn|((first|apply zx|apply zy);·simp only[push_cast,env,Nat.reduceEqDiff,reduceIte,Nat.reduceAdd,Nat.reduceMul,Nat.reduceLeDiff,reduceCtorEq,Nat.reduceSub,Int.reduceToNat,u0,hx2,hrd,hu8,hso,hcc]<;>first|exact rfl|exact .inl rfl|exact .inr rfl) | apply zq|apply zb|apply zo|apply zk|apply zl)
 refine ai ?_
 refine⟨_,ak,⟨.be rfl,hp2⟩,_,?_,rfl⟩
 rw[ByteArray.size_append,hsz]
 decide
have g1:=decide_eq_false q1
refine aG g1 ?_
refine ae rfl ?_
by_cases q2:c=93
·have g2:=decide_eq_true q2
 refine aG g2 ?_
 refine af rfl ?_
 refine cj ?_
 show CW _ _ _ _
 refine af rfl ?_
 refine zu ?_
 iterate 1 (refine zx pR ?_)
 refine cz (t:=5) (cs:=[.int .u8 c]) (n:=1) ak ak ?_
 dsimp only[St.aX,St.put]
 have hp2:h <+: h++[av.aj [.int .u8 c] 0 true 5]:=aI
 have hx2:(h++[av.aj [.int .u8 c] 0 true 5])[h.length]? = some (.aj [.int .u8 c] 0 true 5):=aJ
 generalize (h++[av.aj [.int .u8 c] 0 true 5])=h2 at hp2 hx2 ⊢
 generalize h.length=i2 at hx2 ⊢
 have hrd:je [.int .u8 c] 0 1=some [.int .u8 c]:=rfl
 have hu8:E4 [.int .u8 c]=some [c]:=rfl
 obtain⟨sb,hsb⟩:∃ sb,sb=strOfNums [c]:=⟨_,rfl⟩
 have hso:strOfNums [c]=sb:=hsb.symm
 have hsz:sb.size=1:=by rw[hsb,strOfNums_size];rfl
 have hcc:(((ByteArray.mk #[92]).size:Int)+(sb.size:Int)≤9223372036854775807)=True:=eq_true (by rw[hsz];decide)
 repeat (first|apply zs|apply zr|apply zn|((first|apply zx|apply zy);·simp only[push_cast,env,Nat.reduceEqDiff,reduceIte,Nat.reduceAdd,Nat.reduceMul,Nat.reduceLeDiff,reduceCtorEq,Nat.reduceSub,Int.reduceToNat,u0,hx2,hrd,hu8,hso,hcc]<;>first|exact rfl|exact .inl rfl|exact .inr rfl) | apply zq|apply zb|apply zo|apply zk|apply zl)
 refine ai ?_
 refine⟨_,ak,⟨.be rfl,hp2⟩,_,?_,rfl⟩
 rw[ByteArray.size_append,hsz]
 decide
have g2:=decide_eq_false q2
refine aG g2 ?_
refine ae rfl ?_
by_cases q3:c=92
·have g3:=decide_eq_true q3
 refine aG g3 ?_
 refine af rfl ?_
 refine cj ?_
 show CW _ _ _ _
 refine af rfl ?_
 refine zu ?_
 iterate 1 (refine zx pR ?_)
 refine cz (t:=5) (cs:=[.int .u8 c]) (n:=1) ak ak ?_
 dsimp only[St.aX,St.put]
 have hp2:h <+: h++[av.aj [.int .u8 c] 0 true 5]:=aI
 have hx2:(h++[av.aj [.int .u8 c] 0 true 5])[h.length]? = some (.aj [.int .u8 c] 0 true 5):=aJ
 generalize (h++[av.aj [.int .u8 c] 0 true 5])=h2 at hp2 hx2 ⊢
 generalize h.length=i2 at hx2 ⊢
 have hrd:je [.int .u8 c] 0 1=some [.int .u8 c]:=rfl
 have hu8:E4 [.int .u8 c]=some [c]:=rfl
 obtain⟨sb,hsb⟩:∃ sb,sb=strOfNums [c]:=⟨_,rfl⟩
 have hso:strOfNums [c]=sb:=hsb.symm
 have hsz:sb.size=1:=by rw[hsb,strOfNums_size];rfl
 have hcc:(((ByteArray.mk #[92]).size:Int)+(sb.size:Int)≤9223372036854775807)=True:=eq_true (by rw[hsz];decide)
 repeat (first|apply zs|apply zr|apply zn|((first|apply zx|apply zy);·simp only[push_cast,env,Nat.reduceEqDiff,reduceIte,Nat.reduceAdd,Nat.reduceMul,Nat.reduceLeDiff,reduceCtorEq,Nat.reduceSub,Int.reduceToNat,u0,hx2,hrd,hu8,hso,hcc]<;>first|exact rfl|exact .inl rfl|exact .inr rfl) | apply zq|apply zb|apply zo|apply zk|apply zl)
 refine ai ?_
 refine⟨_,ak,⟨.be rfl,hp2⟩,_,?_,rfl⟩
 rw[ByteArray.size_append,hsz]
 decide
have g3:=decide_eq_false q3
refine aG g3 ?_
refine ae rfl ?_
by_cases q4:c=45
·have g4:=decide_eq_true q4
 refine aG g4 ?_
 refine af rfl ?_
 refine cj ?_
 show CW _ _ _ _
 refine af rfl ?_
 refine zu ?_
 iterate 1 (refine zx pR ?_)
 refine cz (t:=5) (cs:=[.int .u8 c]) (n:=1) ak ak ?_
 dsimp only[St.aX,St.put]
 have hp2:h <+: h++[av.aj [.int .u8 c] 0 true 5]:=aI
 have hx2:(h++[av.aj [.int .u8 c] 0 true 5])[h.length]? = some (.aj [.int .u8 c] 0 true 5):=aJ
 generalize (h++[av.aj [.int .u8 c] 0 true 5])=h2 at hp2 hx2 ⊢
 generalize h.length=i2 at hx2 ⊢
 have hrd:je [.int .u8 c] 0 1=some [.int .u8 c]:=rfl
 have hu8:E4 [.int .u8 c]=some [c]:=rfl
 obtain⟨sb,hsb⟩:∃ sb,sb=strOfNums [c]:=⟨_,rfl⟩
 have hso:strOfNums [c]=sb:=hsb.symm
 have hsz:sb.size=1:=by rw[hsb,strOfNums_size];rfl
 have hcc:(((ByteArray.mk #[92]).size:Int)+(sb.size:Int)≤9223372036854775807)=True:=eq_true (by rw[hsz];decide)
 repeat (first|apply zs|apply zr|apply zn|((first|apply zx|apply zy);·simp only[push_cast,env,Nat.reduceEqDiff,reduceIte,Nat.reduceAdd,Nat.reduceMul,Nat.reduceLeDiff,reduceCtorEq,Nat.reduceSub,Int.reduceToNat,u0,hx2,hrd,hu8,hso,hcc]<;>first|exact rfl|exact .inl rfl|exact .inr rfl) | apply zq|apply zb|apply zo|apply zk|apply zl)
 refine ai ?_
 refine⟨_,ak,⟨.be rfl,hp2⟩,_,?_,rfl⟩
 rw[ByteArray.size_append,hsz]
 decide
have g4:=decide_eq_false q4
refine aG g4 ?_
refine ae rfl ?_
by_cases q5:c=94
·have g5:=decide_eq_true q5
 refine aG g5 ?_
 refine af rfl ?_
 refine zu ?_
 iterate 1 (refine zx pR ?_)
 refine cz (t:=5) (cs:=[.int .u8 c]) (n:=1) ak ak ?_
 dsimp only[St.aX,St.put]
 have hp2:h <+: h++[av.aj [.int .u8 c] 0 true 5]:=aI
 have hx2:(h++[av.aj [.int .u8 c] 0 true 5])[h.length]? = some (.aj [.int .u8 c] 0 true 5):=aJ
 generalize (h++[av.aj [.int .u8 c] 0 true 5])=h2 at hp2 hx2 ⊢
 generalize h.length=i2 at hx2 ⊢
 have hrd:je [.int .u8 c] 0 1=some [.int .u8 c]:=rfl
 have hu8:E4 [.int .u8 c]=some [c]:=rfl
 obtain⟨sb,hsb⟩:∃ sb,sb=strOfNums [c]:=⟨_,rfl⟩
 have hso:strOfNums [c]=sb:=hsb.symm
 have hsz:sb.size=1:=by rw[hsb,strOfNums_size];rfl
 have hcc:(((ByteArray.mk #[92]).size:Int)+(sb.size:Int)≤9223372036854775807)=True:=eq_true (by rw[hsz];decide)
 repeat (first|apply zs|apply zr|apply zn|((first|apply zx|apply zy);·simp only[push_cast,env,Nat.reduceEqDiff,reduceIte,Nat.reduceAdd,Nat.reduceMul,Nat.reduceLeDiff,reduceCtorEq,Nat.reduceSub,Int.reduceToNat,u0,hx2,hrd,hu8,hso,hcc]<;>first|exact rfl|exact .inl rfl|exact .inr rfl) | apply zq|apply zb|apply zo|apply zk|apply zl)
 refine ai ?_
 refine⟨_,ak,⟨.be rfl,hp2⟩,_,?_,rfl⟩
 rw[ByteArray.size_append,hsz]
 decide
have g5:=decide_eq_false q5
refine aG g5 ?_
refine ae rfl ?_
by_cases r1:32<c
·have f1:=decide_eq_true r1
 by_cases r2:c<127
 ·have f2:=decide_eq_true r2
  refine fM f1 f2 ?_
  refine af rfl ?_
  refine zu ?_
  iterate 1 (refine zx pR ?_)
  refine cz (t:=5) (cs:=[.int .u8 c]) (n:=1) ak ak ?_
  dsimp only[St.aX,St.put]
  have hp2:h <+: h++[av.aj [.int .u8 c] 0 true 5]:=aI
  have hx2:(h++[av.aj [.int .u8 c] 0 true 5])[h.length]? = some (.aj [.int .u8 c] 0 true 5):=aJ
  generalize (h++[av.aj [.int .u8 c] 0 true 5])=h2 at hp2 hx2 ⊢
  generalize h.length=i2 at hx2 ⊢
  have hrd:je [.int .u8 c] 0 1=some [.int .u8 c]:=rfl
  have hu8:E4 [.int .u8 c]=some [c]:=rfl
  obtain⟨sb,hsb⟩:∃ sb,sb=strOfNums [c]:=⟨_,rfl⟩
  have hso:strOfNums [c]=sb:=hsb.symm
  have hsz:sb.size=1:=by rw[hsb,strOfNums_size];rfl
  repeat (first|apply zs|apply zr|apply zn|((first|apply zx|apply zy);·simp only[push_cast,env,Nat.reduceEqDiff,reduceIte,Nat.reduceAdd,Nat.reduceMul,Nat.reduceLeDiff,reduceCtorEq,Nat.reduceSub,Int.reduceToNat,u0,hx2,hrd,hu8,hso]<;>first|exact rfl|exact .inl rfl|exact .inr rfl) | apply zq|apply zb|apply zo|apply zk|apply zl)
  refine ai ?_
  refine⟨_,ak,⟨.be rfl,hp2⟩,_,?_,rfl⟩
  rw[hsz]
  decide
 ·have f2:=decide_eq_false r2
  refine fM f1 f2 ?_
  refine ae rfl ?_
  refine aB ?_
  refine aL 14 mixed kr ?_
  obtain⟨q,hq⟩:∃ q,q=c / 16:=⟨_,rfl⟩
  obtain⟨m,hm⟩:∃ m,m=c % 16:=⟨_,rfl⟩
  have hq0:0≤q∧q≤15:=by omega
  have hm0:0≤m∧m≤15:=by omega
  have w1:IntKind.u8.wrap (c.tdiv 16)=q:=by rw[Int.tdiv_eq_ediv_of_nonneg h0,IntKind.wrap_u8];omega
  have w2:IntKind.u8.wrap (q+1)=q+1:=by rw[IntKind.wrap_u8];omega
  have w3:c.tmod 16=m:=by rw[Int.tmod_eq_emod_of_nonneg h0];exact hm.symm
  have w4:IntKind.u8.wrap (m+1)=m+1:=by rw[IntKind.wrap_u8];omega
  have hz16:(ByteArray.mk #[48,49,50,51,52,53,54,55,56,57,97,98,99,100,101,102]).size=16:=rfl
  have k1:(0≤q∧q≤q+1∧q+1≤((ByteArray.mk #[48,49,50,51,52,53,54,55,56,57,97,98,99,100,101,102]).size:Int))=True:=eq_true (by rw[hz16];omega)
  have k2:(0≤m∧m≤m+1∧m+1≤((ByteArray.mk #[48,49,50,51,52,53,54,55,56,57,97,98,99,100,101,102]).size:Int))=True:=eq_true (by rw[hz16];omega)
  obtain⟨s1,hs1⟩:∃ s1,s1=(ByteArray.mk #[48,49,50,51,52,53,54,55,56,57,97,98,99,100,101,102]).extract q.toNat (q+1).toNat:=⟨_,rfl⟩
  obtain⟨s2,hs2⟩:∃ s2,s2=(ByteArray.mk #[48,49,50,51,52,53,54,55,56,57,97,98,99,100,101,102]).extract m.toNat (m+1).toNat:=⟨_,rfl⟩
  have z1:s1.size=1:=by rw[hs1,ByteArray.size_extract,hz16];omega
  have z2:s2.size=1:=by rw[hs2,ByteArray.size_extract,hz16];omega
  have hs1:=hs1.symm
  have hs2:=hs2.symm
  have k3:(((ByteArray.mk #[92,120]).size:Int)+(s1.size:Int)≤9223372036854775807)=True:=eq_true (by rw[z1];decide)
  obtain⟨s3,hs3⟩:∃ s3,s3=(ByteArray.mk #[92,120])++s1:=⟨_,rfl⟩
  have z3:s3.size=3:=by rw[hs3,ByteArray.size_append,z1];rfl
  have hs3:=hs3.symm
  have k4:((s3.size:Int)+(s2.size:Int)≤9223372036854775807)=True:=eq_true (by rw[z3,z2];decide)
  repeat (first|apply zs|apply zr|apply zn|((first|apply zx|apply zy);·simp only[push_cast,env,Nat.reduceEqDiff,reduceIte,Nat.reduceAdd,Nat.reduceMul,Nat.reduceLeDiff,reduceCtorEq,Nat.reduceSub,Int.reduceToNat,w1,w2,w3,w4,k1,k2,k3,k4,hs1,hs2,hs3]<;>first|exact rfl|exact .inl rfl|exact .inr rfl) | apply zq|apply zb|apply zo|apply zk|apply zl)
  refine ai ?_
  refine⟨_,ak,⟨.be rfl,List.prefix_refl _⟩,_,?_,rfl⟩
  rw[ByteArray.size_append,z3,z2]
  decide
·have f1:=decide_eq_false r1
 refine aG f1 ?_
 refine ae rfl ?_
 refine aB ?_
 refine aL 14 mixed kr ?_
 obtain⟨q,hq⟩:∃ q,q=c / 16:=⟨_,rfl⟩
 obtain⟨m,hm⟩:∃ m,m=c % 16:=⟨_,rfl⟩
 have hq0:0≤q∧q≤15:=by omega
 have hm0:0≤m∧m≤15:=by omega
 have w1:IntKind.u8.wrap (c.tdiv 16)=q:=by rw[Int.tdiv_eq_ediv_of_nonneg h0,IntKind.wrap_u8];omega
 have w2:IntKind.u8.wrap (q+1)=q+1:=by rw[IntKind.wrap_u8];omega
 have w3:c.tmod 16=m:=by rw[Int.tmod_eq_emod_of_nonneg h0];exact hm.symm
 have w4:IntKind.u8.wrap (m+1)=m+1:=by rw[IntKind.wrap_u8];omega
 have hz16:(ByteArray.mk #[48,49,50,51,52,53,54,55,56,57,97,98,99,100,101,102]).size=16:=rfl
 have k1:(0≤q∧q≤q+1∧q+1≤((ByteArray.mk #[48,49,50,51,52,53,54,55,56,57,97,98,99,100,101,102]).size:Int))=True:=eq_true (by rw[hz16];omega)
 have k2:(0≤m∧m≤m+1∧m+1≤((ByteArray.mk #[48,49,50,51,52,53,54,55,56,57,97,98,99,100,101,102]).size:Int))=True:=eq_true (by rw[hz16];omega)
 obtain⟨s1,hs1⟩:∃ s1,s1=(ByteArray.mk #[48,49,50,51,52,53,54,55,56,57,97,98,99,100,101,102]).extract q.toNat (q+1).toNat:=⟨_,rfl⟩
 obtain⟨s2,hs2⟩:∃ s2,s2=(ByteArray.mk #[48,49,50,51,52,53,54,55,56,57,97,98,99,100,101,102]).extract m.toNat (m+1).toNat:=⟨_,rfl⟩
 have z1:s1.size=1:=by rw[hs1,ByteArray.size_extract,hz16];omega
 have z2:s2.size=1:=by rw[hs2,ByteArray.size_extract,hz16];omega
 have hs1:=hs1.symm
 have hs2:=hs2.symm
 have k3:(((ByteArray.mk #[92,120]).size:Int)+(s1.size:Int)≤9223372036854775807)=True:=eq_true (by rw[z1];decide)
 obtain⟨s3,hs3⟩:∃ s3,s3=(ByteArray.mk #[92,120])++s1:=⟨_,rfl⟩
 have z3:s3.size=3:=by rw[hs3,ByteArray.size_append,z1];rfl
 have hs3:=hs3.symm
 have k4:((s3.size:Int)+(s2.size:Int)≤9223372036854775807)=True:=eq_true (by rw[z3,z2];decide)
 repeat (first|apply zs|apply zr|apply zn|((first|apply zx|apply zy);·simp only[push_cast,env,Nat.reduceEqDiff,reduceIte,Nat.reduceAdd,Nat.reduceMul,Nat.reduceLeDiff,reduceCtorEq,Nat.reduceSub,Int.reduceToNat,w1,w2,w3,w4,k1,k2,k3,k4,hs1,hs2,hs3]<;>first|exact rfl|exact .inl rfl|exact .inr rfl) | apply zq|apply zb|apply zo|apply zk|apply zl)
 refine ai ?_
 refine⟨_,ak,⟨.be rfl,List.prefix_refl _⟩,_,?_,rfl⟩
 rw[ByteArray.size_append,z3,z2]
 decide}
theorem xz {l:List (Nat×Nat)} {b:Nat}:(iF l b).length≤l.length+1:=by{
unfold iF
split
·split
 ·rw[List.length_append,List.length_dropLast];simp
  try omega
 ·simp
·simp}
theorem xr:∀ (bs:List (Fin 256)) (l:List (Nat×Nat)),(bs.foldl (fun l b=>iF l b.1) l).length≤l.length+bs.length
 | [],l=>by simp
 | b :: bs,l=>by
   rw[List.foldl_cons]
   have h1:=xr bs (iF l b.1)
   have h2:=xz (l:=l) (b:=b.1)
   simp only[List.length_cons]
   omega
theorem jb (f:Nat→Bool):∀ k,(bM f k).length≤k
 | 0=>by simp [bM]
 | k+1=>by
   have:=jb f k
   unfold bM
   split
   ·split
    ·simp;omega
    ·omega
   ·simp;try omega
theorem wY (n:Int):0≤IntKind.u8.wrap n∧IntKind.u8.wrap n<256:=by
 rw[IntKind.wrap_u8]
 omega
theorem yh (f:Nat→Bool) (n:Nat):(bY (bM f n)).length≤n:=by{
have h1:=xr (bM f n) []
have h2:=jb f n
unfold bY
simp only[List.length_nil,Nat.zero_add] at h1
omega}
theorem yf {args:List Value}:env.lS 175 args h=iJ h args:=by{
have e1:env.lS=j8:=rfl
rw[e1]
unfold j8
rw[if_neg (by decide),if_pos rfl]}
theorem yz {cs:Array Value} {a b c d:Int} (e:cs.toList=[.int .u64 a,.int .u64 b,.int .u64 c,.int .u64 d]):iJ h [.agg cs]=(if tH a&&tH b&&tH c&&tH d then
        (if (bY (bM (mo a b c d) 256)).isEmpty then some (.slice none 0 0,h)
        else some (.slice (some ⟨h.length,0,some 0⟩) (bY (bM (mo a b c d) 256)).length (bY (bM (mo a b c d) 256)).length,h++[av.aj (cO (bY (bM (mo a b c d) 256))) 0 true 214])) else none):=by
 unfold iJ
 simp only[e]
theorem y9 {a b c d:Int} (hw:(tH a&&tH b&&tH c&&tH d)=true):∃ l:List (Nat×Nat),l.length≤256∧((l.isEmpty=true∧iJ h [.agg #[.int .u64 a,.int .u64 b,.int .u64 c,.int .u64 d]]=some (bD,h))∨(l.isEmpty=false∧iJ h [.agg #[.int .u64 a,.int .u64 b,.int .u64 c,.int .u64 d]]=some (.slice (some ⟨h.length,0,some 0⟩) l.length l.length,h++[av.aj (cO l) 0 true 214]))):=by{
have e:=yz (h:=h) (a:=a) (b:=b) (c:=c) (d:=d) (cs:=#[.int .u64 a,.int .u64 b,.int .u64 c,.int .u64 d]) rfl
have hlen:=yh (mo a b c d) 256
generalize bY (bM (mo a b c d) 256)=L at e hlen
rw[if_pos hw] at e
refine⟨L,hlen,?_⟩
cases he:L.isEmpty with
| true=>exact .inl ⟨rfl,by rw[e,if_pos he]⟩
| false=>exact .inr ⟨rfl,by rw[e,if_neg (by rw[he];decide)]⟩}
theorem uI {w:Int} (hw:qg w):tH w=true:=by{
obtain⟨a1,a2⟩:=hw
unfold tH
rw[decide_eq_true a1,decide_eq_true a2]
rfl}
theorem EI {args:List Value} {v:Value} {h':ah} {K:Value→ah→Prop} (e:iJ h args=some (v,h')) (k:K v h'):FW env 175 args h K:=vu (yf.trans e) k
theorem FN:bW h bD ([]:List (Nat×Nat)).length (cO []) 214 16:=⟨by simp,.inl ⟨.inl rfl,rfl,rfl⟩⟩
theorem HQ {l:List (Nat×Nat)} (hl:l.length≤256):bW (h++[av.aj (cO l) 0 true 214]) (.slice (some ⟨h.length,0,some 0⟩) l.length l.length) l.length (cO l) 214 16:=⟨by omega,.inr ⟨h.length,0,true,_,rfl,aJ⟩⟩
theorem Ii {s:aZ} (hs:du s) {K:Value→ah→Prop} (k:∀ v h1 (l:List (Nat×Nat)),h <+: h1→l.length≤256→bW h1 v l.length (cO l) 214 16→K v h1):FW env 175 [s.val] h K:=by{
have hw:(tH s.a&&tH s.b&&tH s.c&&tH s.d)=true:=by rw[uI hs.a,uI hs.b,uI hs.c,uI hs.d];rfl
have hx:=y9 (h:=h) hw
obtain⟨l,hl,hx|hx⟩:=hx
·obtain⟨he,e⟩:=hx
 obtain rfl:=List.isEmpty_iff.mp he
 exact EI e (k _ _ [] (List.prefix_refl _) hl FN)
·obtain⟨he,e⟩:=hx
 exact EI e (k _ _ l aI hl (HQ hl))}
theorem run_get {l:List (Nat×Nat)} {i:Nat} (hi:i<l.length):je (cO l) (i*2) 2=some [i64 (l[i].1:Int),i64 (l[i].2:Int)]:=bG (f:=fun r:Nat×Nat=>[.int .i64 r.1,.int .i64 r.2]) (k:=2) (fun _=>rfl) l i l[i] (by simp [hi])
theorem Dx {s:aZ} (hs:du s):FW env 139 [s.val] h fun r h'=>(∃ b:ByteArray,b.size≤3000∧r = .string b)∧h'=h:=by{
refine sf (K:=fun r=>∃ b:ByteArray,b.size≤3000∧r = .string b) ?_
refine fe Tryz.func139 ?_;simp only[push_cast]
obtain⟨b45,hb45⟩:∃ b:ByteArray,b=ByteArray.mk #[45]:=⟨_,rfl⟩
obtain⟨b93,hb93⟩:∃ b:ByteArray,b=ByteArray.mk #[93]:=⟨_,rfl⟩
have z45:b45.size=1:=by rw[hb45];rfl
have z93:b93.size=1:=by rw[hb93];rfl
rw[← hb45,← hb93]
refine aB ?_
refine zj Tryz.func175 ?_
refine Ii hs fun v h1 l hp1 hl hR=>?_
obtain⟨q,c,rfl⟩:=bW.form hR
refine aB ?_
refine a9 l.length (fun k (b:ByteArray)=>[(3,.val (.string b)),(7,.val (.slice q l.length c)),(8,.val (i64 l.length)),(9,.val (i64 k))]) (fun _ _=>h1) (fun k b=>b.size≤1+9*k) ⟨#[91]⟩ aO rfl (by decide) ?_
intro k b hk hb
by_cases hlt:k<l.length
·obtain⟨id,au,own,c',hv,hid⟩:=bW.at hR om
 cases hv
 have hg:=run_get hlt
 have e1:=cH hlt
 have e2:=inc hlt om
 have e3:=aV hlt
 generalize l[k].1=Lo at hg
 generalize l[k].2=H at hg
 obtain⟨u1,u2⟩:=wY (Lo:Int)
 obtain⟨v1,v2⟩:=wY (H:Int)
 obtain⟨L1,hL1⟩:∃ x,IntKind.i64.wrap ((Lo:Int)+1)=x:=⟨_,rfl⟩
 obtain⟨Lb,hLb⟩:∃ x,IntKind.u8.wrap (Lo:Int)=x:=⟨_,rfl⟩
 obtain⟨Hb,hHb⟩:∃ x,IntKind.u8.wrap (H:Int)=x:=⟨_,rfl⟩
 rw[hLb] at u1 u2
 rw[hHb] at v1 v2
 generalize (Lo:Int)=Lo at hg hL1 hLb
 generalize (H:Int)=H at hg hHb
 refine aG e3 ?_
 refine af rfl ?_
 refine fN e1 hid hg hLb ?_
 refine zj Tryz.func176 ?_
 refine (vI u1 u2).mono ?_
 rintro _ h4 ⟨⟨s1,zs1,rfl⟩,e7⟩
 obtain rfl:=e7.symm
 obtain⟨b2,hb2⟩:∃ x,x=b++s1:=⟨_,rfl⟩
 have zb2:b2.size≤1+9*k+4:=by first|(rw[hb2,ByteArray.size_append,z45];omega) | (rw[hb2,ByteArray.size_append];omega)
 have kb2:((b.size:Int)+(s1.size:Int)≤9223372036854775807)=True:=eq_true (by first|(rw[z45];omega) | omega)
 have hb2:=hb2.symm
 refine ir kb2 hb2 hL1 ?_
 refine dH ak (fun hc1=>?_) (fun hc1=>?_)
 ·obtain⟨b3,hb3⟩:∃ x,x=b2++b45:=⟨_,rfl⟩
  have zb3:b3.size≤1+9*k+5:=by first|(rw[hb3,ByteArray.size_append,z45];omega) | (rw[hb3,ByteArray.size_append];omega)
  have kb3:((b2.size:Int)+(b45.size:Int)≤9223372036854775807)=True:=eq_true (by first|(rw[z45];omega) | omega)
  have hb3:=hb3.symm
  refine fM kb3 hb3 ?_
  refine dH ak (fun hc2=>?_) (fun hc2=>?_)
  ·refine aG hHb ?_
   refine zj Tryz.func176 ?_
   refine (vI v1 v2).mono ?_
   rintro _ h4 ⟨⟨s2,zs2,rfl⟩,e7⟩
   obtain rfl:=e7.symm
   obtain⟨b4,hb4⟩:∃ x,x=b3++s2:=⟨_,rfl⟩
   have zb4:b4.size≤1+9*(k+1):=by first|(rw[hb4,ByteArray.size_append,z45];omega) | (rw[hb4,ByteArray.size_append];omega)
   have kb4:((b3.size:Int)+(s2.size:Int)≤9223372036854775807)=True:=eq_true (by first|(rw[z45];omega) | omega)
   have hb4:=hb4.symm
   refine ir kb4 hb4 e2 ?_
   exact⟨hlt,b4,aO,rfl,zb4⟩
  ·refine cj ?_
   show CW _ _ _ _
   refine aG e2 ?_
   exact⟨hlt,b3,aO,rfl,by omega⟩
 ·refine cj ?_
  show CW _ _ _ _
  refine aB ?_
  refine dH ak (fun hc2=>?_) (fun hc2=>?_)
  ·refine aG hHb ?_
   refine zj Tryz.func176 ?_
   refine (vI v1 v2).mono ?_
   rintro _ h4 ⟨⟨s2,zs2,rfl⟩,e7⟩
   obtain rfl:=e7.symm
   obtain⟨b4,hb4⟩:∃ x,x=b2++s2:=⟨_,rfl⟩
   have zb4:b4.size≤1+9*(k+1):=by first|(rw[hb4,ByteArray.size_append,z45];omega) | (rw[hb4,ByteArray.size_append];omega)
   have kb4:((b2.size:Int)+(s2.size:Int)≤9223372036854775807)=True:=eq_true (by first|(rw[z45];omega) | omega)
   have hb4:=hb4.symm
   refine ir kb4 hb4 e2 ?_
   exact⟨hlt,b4,aO,rfl,zb4⟩
  ·refine cj ?_
   show CW _ _ _ _
   refine aG e2 ?_
   exact⟨hlt,b2,aO,rfl,by omega⟩
·have e3:=aT hlt
 obtain rfl:k=l.length:=by omega
 refine aG e3 ?_
 refine ae rfl ?_
 refine aC ?_
 show CW _ _ _ _
 obtain⟨b5,hb5⟩:∃ x,x=b++b93:=⟨_,rfl⟩
 have zb5:b5.size≤3000:=by rw[hb5,ByteArray.size_append,z93];omega
 have kb5:((b.size:Int)+(b93.size:Int)≤9223372036854775807)=True:=eq_true (by rw[z93];omega)
 have hb5:=hb5.symm
 refine fM kb5 hb5 ?_
 refine ai ?_
 exact⟨_,ak,⟨.be rfl,hp1⟩,b5,zb5,rfl⟩}
end
theorem we {h:ah} {args:List Value}:env.lS 205 args h=o8 h args:=by{
have e1:env.lS=j8:=rfl
rw[e1]
unfold j8
rw[if_pos rfl]}
abbrev dO (i:Nat):Value:=.pointer (some ⟨i,0,some 0⟩)
def Cu (h0 h:ah) (i n:Nat):Prop:=h0 <+: h∧h0.length≤i∧∃ (p v:Value) (b:ByteArray),h[i]? = some (.aj [p,v] 0 true 228)∧(p = .pointer none∨p=dO i)∧b.size=n∧aK h0 h v n (bH b) 5
theorem tn (a b:ByteArray):bH (a++b)=bH a++bH b:=by
 unfold bH
 rw[ByteArray.data_append,Array.toList_append,List.map_append]
theorem ze {c:Int} (h0:0≤c) (h1:c<256):∃ b:ByteArray,b.size=1∧bH b=[.int .u8 c]:=by{
refine⟨⟨#[UInt8.ofNat c.toNat]⟩,rfl,?_⟩
show [Value.int .u8 ((UInt8.ofNat c.toNat).toNat:Int)]=_
have:((UInt8.ofNat c.toNat).toNat:Int)=c:=by
 rw[UInt8.toNat_ofNat']
 omega
rw[this]}
theorem Bp {all:Array Oper} {o:Oper} {s:St} {h h':ah} {t t2 e:TypeId} {ti:TI} {x y:Operand} {b:ByteArray} {id au:Nat} {cells:List Value} (hh:s.h=h) (hw:aE all o s=some true) (ho:o.op = .call { callee:=.builtin .unsafeString,args:=#[x,y],argTypes:=#[t,t2] })
 (hu:env.P.underlying t=some (.pointer e)) (ht:ar env.P e=some ti) (hs:ti.size=1) (hx:ev s x=some (.pointer (some ⟨id,0,some au⟩))) (hid:h[id]? = some (.aj cells au true e)) (hy:ev s y=some (.int .i64 b.size)) (h0:0<b.size) (hb:b.size≤140737488355328) (hc:cells.take b.size=bH b)
 (he:h'=h.set id (av.aj cells au false e)):One env all o s (.sl (.val (.string b))) h':=by
 subst hh he
 exact One.Im hw ho hu ht hs hx hid hy h0 hb hc
section
variable {h h0 hk:ah} {i n:Nat}
theorem IR {p v:Value} (hx:h[i]? = some (.aj [p,v] 0 true 228)) (hp:p = .pointer none∨p=dO i):FW env 205 [dO i] h fun r h'=>r = .tuple #[]∧h'=h.set i (av.aj [dO i,v] 0 true 228):=by{
rcases hp with rfl|rfl
·refine vu (we.trans (?_:o8 h [dO i]=some (.tuple #[],h.set i (av.aj [dO i,v] 0 true 228)))) ⟨rfl,rfl⟩
 unfold o8
 simp only[hx,if_true]
·refine vu (we.trans (?_:o8 h [dO i]=some (.tuple #[],h))) ⟨rfl,(lC hx).symm⟩
 unfold o8
 simp only[hx,if_true]}
theorem DX {v:Value} {m:Nat} {cells:List Value} {o:List Value} (hG:aK h0 h v m cells 5) (hx:h[i]? = some (.aj o 0 true 228)):bX v i=false:=by{
cases e:bX v i with
| false=>rfl
| true=>
  rcases hG with ⟨_,_,rfl⟩ | ⟨id,au,_,rfl,g⟩
  ·simp [bX] at e
  ·simp only[bX,beq_iff_eq] at e
   subst e
   rw[hx] at g
   injection g with g
   injection g with _ _ _ g
   exact absurd g (by decide)}
theorem rv {c:Int} (h0c:0≤c) (h1c:c<256) (B:Cu h0 h i n) (hn:n≤100000000):FW env 177 [dO i,.int .u8 c] h fun _ h'=>Cu h0 h' i (n+1):=by{
obtain⟨hp,hi,p,v,b,hx,hps,hbs,hG⟩:=B
have hni:=DX hG hx
have hx2:(h.set i (av.aj [dO i,v] 0 true 228))[i]? = some (.aj [dO i,v] 0 true 228):=aw hx
have hp2:h0 <+: h.set i (av.aj [dO i,v] 0 true 228):=aY hp hi
have hG2:aK h0 (h.set i (av.aj [dO i,v] 0 true 228)) v n (bH b) 5:=hG.mono fun j o hj g=>by
 have hne:i≠j:=by
  rintro rfl
  rw[hni] at hj
  cases hj
 rw[aD hne]
 exact g
refine fe Tryz.func177 ?_;simp only[push_cast]
refine aB ?_
refine zj Tryz.func205 ?_
refine (IR hx hps).mono ?_
rintro _ h5 ⟨rfl,e5⟩
rw[← e5] at hx2 hp2 hG2
obtain⟨q,c2,rfl⟩:=hG2.form
obtain⟨bc,zbc,ebc⟩:=ze h0c h1c
refine aG hx2 ?_
refine kW (t:=178) (n:=n) ak rfl kr Mq (by decide) rfl (iD hx2) ak hG2 hp2 (by rw[iO,hbs];exact (Nat.mul_one n).symm) rfl (by simp only;omega) om ?_
intro q3 c3 h3 hG3 hp3 hk3 hat3
have hx3:=hk3 _ _ hni hx2
have hp4:=aY (x:=av.aj [dO i,.slice q3 (n+1) c3] 0 true 228) hp3 hi
have hx4:(h3.set i (av.aj [dO i,.slice q3 (n+1) c3] 0 true 228))[i]? = _:=aw hx3
have hn3:=DX hG3 hx3
have hG4:aK h0 (h3.set i (av.aj [dO i,.slice q3 (n+1) c3] 0 true 228)) (.slice q3 (n+1) c3) (n+1) (bH (b++bc)) 5:=by
 rw[tn,ebc]
 exact hG3.mono fun j o hj g=>by
  have hne:i≠j:=by
   rintro rfl
   rw[hn3] at hj
   cases hj
  rw[aD hne]
  exact g
dsimp only[St.aX,St.put]
refine aG hx3 ?_
refine ch (v:=.slice q3 (n+1) c3) (vs:=[.slice q3 (n+1) c3]) (cells':=[dO i,.slice q3 (n+1) c3]) ak rfl rfl rfl ak hx3 ak rfl rfl ?_
dsimp only[St.aX,St.put]
refine aB ?_
refine ai ?_
exact⟨_,ak,hp4,hi,_,_,b++bc,hx4,.inr rfl,by rw[ByteArray.size_append,zbc,hbs],hG4⟩}
theorem Au {t:ByteArray} (ht:0<t.size∧t.size≤1000) (B:Cu h0 h i n) (hn:0<n∧n≤100000000):FW env 178 [dO i,.string t] h fun _ h'=>Cu h0 h' i (n+t.size):=by{
obtain⟨hp,hi,p,v,b,hx,hps,hbs,hG⟩:=B
have hni:=DX hG hx
have hx2:(h.set i (av.aj [dO i,v] 0 true 228))[i]? = some (.aj [dO i,v] 0 true 228):=aw hx
have hp2:h0 <+: h.set i (av.aj [dO i,v] 0 true 228):=aY hp hi
have hG2:aK h0 (h.set i (av.aj [dO i,v] 0 true 228)) v n (bH b) 5:=hG.mono fun j o hj g=>by
 have hne:i≠j:=by
  rintro rfl
  rw[hni] at hj
  cases hj
 rw[aD hne]
 exact g
refine fe Tryz.func178 ?_;simp only[push_cast]
refine aB ?_
refine zj Tryz.func205 ?_
refine (IR hx hps).mono ?_
rintro _ h5 ⟨rfl,e5⟩
rw[← e5] at hx2 hp2 hG2
obtain⟨id,au,hid0,rfl,hid⟩:=hG2.vV hn.1
have hne:i≠id:=by
 intro e
 simp only[bX,beq_eq_false_iff_ne] at hni
 exact hni e.symm
refine aG hx2 ?_
refine Hw (cells:=bH b) (n:=n) (id:=id) (au:=au) (b:=t) ak rfl kr kr Mq rfl rfl rfl (iD hx2) hid (by rw[iO,hbs];exact Nat.le_refl _) ak om ?_
rw[List.take_of_length_le (by rw[iO,hbs];exact Nat.le_refl _),← tn]
have hx3:(h5.set id (av.aj (bH (b++t)) (au+1) true 5))[i]? = _:=(aD (Ne.symm hne)).trans hx2
have hp3:h0 <+: h5.set id (av.aj (bH (b++t)) (au+1) true 5):=aY hp2 hid0
have hid3:(h5.set id (av.aj (bH (b++t)) (au+1) true 5))[id]? = _:=aw hid
dsimp only
generalize (h5.set id (av.aj (bH (b++t)) (au+1) true 5))=h3 at hx3 hp3 hid3 ⊢
have hp4:=aY (x:=av.aj [dO i,.slice (some ⟨id,0,some (au+1)⟩) (n+t.size) (n+t.size)] 0 true 228) hp3 hi
have hx4:(h3.set i (av.aj [dO i,.slice (some ⟨id,0,some (au+1)⟩) (n+t.size) (n+t.size)] 0 true 228))[i]? = _:=aw hx3
have hid4:(h3.set i (av.aj [dO i,.slice (some ⟨id,0,some (au+1)⟩) (n+t.size) (n+t.size)] 0 true 228))[id]? = _:=(aD hne).trans hid3
dsimp only[St.aX,St.put]
refine aG hx3 ?_
refine ch (v:=.slice (some ⟨id,0,some (au+1)⟩) (n+t.size) (n+t.size)) (vs:=[.slice (some ⟨id,0,some (au+1)⟩) (n+t.size) (n+t.size)]) (cells':=[dO i,.slice (some ⟨id,0,some (au+1)⟩) (n+t.size) (n+t.size)]) ak rfl rfl rfl ak hx3 ak rfl rfl ?_
dsimp only[St.aX,St.put]
refine aB ?_
refine ai ?_
exact⟨_,ak,hp4,hi,_,_,b++t,hx4,.inr rfl,by rw[ByteArray.size_append,hbs],.inr ⟨id,au+1,hid0,rfl,hid4⟩⟩}
theorem Js (B:Cu h0 h i n) (hn:0<n∧n≤1000000000):FW env 179 [dO i] h fun r h'=>(∃ b:ByteArray,b.size=n∧r = .string b)∧h0 <+: h':=by{
obtain⟨hp,hi,p,v,b,hx,hps,hbs,hG⟩:=B
obtain⟨id,au,hid0,rfl,hid⟩:=hG.vV hn.1
subst hbs
have hp2:h0 <+: h.set id (av.aj (bH b) au false 5):=aY hp hid0
have hx2:(h.set id (av.aj (bH b) au false 5))[i]? = some (.aj [p,.slice (some ⟨id,0,some au⟩) b.size b.size] 0 true 228):=by
 have hne:id≠i:=by
  rintro rfl
  rw[hx] at hid
  injection hid with g
  injection g with _ _ _ g
  exact absurd g (by decide)
 rw[aD hne]
 exact hx
have hpos:(0<b.size)=True:=eq_true hn.1
refine fe Tryz.func179 ?_;simp only[push_cast]
refine aB ?_
refine aA [(0,.val (dO i))] aO ?_
show CW _ _ ⟨_,[],h⟩ _
try apply zs
apply bi (L:=[[],[0],[0,1],[0,1,2],[0,1,2,3],[],[5],[5,6],[5,6,7],[5,6,7,8],[0,1,2,3,4,5,6,7,8,9],[0,1,2,3,4,5,6,7,8,9,10]]) (act:=[10]) (hs:=[h.set id (av.aj (bH b) au false 5)]) (resL:=[_,_,_,_,_,_,_,_,_,_,_,_]) (frF:=[(2,.val (.string b))])
case hm=>exact mixed
case hc=>kernel_rfl
case ha=>rfl
case hb=>rfl
case hS=>
 refine LX hx hx2 hpos ?_
 apply az.cons
 ·rfl
 ·refine⟨?_,trivial⟩
  exact Bp (b:=b) (id:=id) (au:=au) (cells:=bH b) (h:=h) rfl ak rfl kr Mq rfl ak hid ak hn.1 om (List.take_of_length_le (by rw[iO];exact Nat.le_refl _)) rfl
 ·rfl
 exact TQ hx2 hpos
case ht=>rfl
case hF=>exact zh
show CW _ _ ⟨_,[],h.set id (av.aj (bH b) au false 5)⟩ _
refine ai ?_
refine⟨_,ak,⟨b,rfl,rfl⟩,hp2⟩}
theorem Bj {t:ByteArray} {k:Nat} (hk:k<t.size):∃ c:Int,0≤c∧c<256∧(bH t)[k]? = some (.int .u8 c):=by{
have hd:k<t.data.toList.length:=by rw[Array.length_toList];exact hk
refine⟨((t.data.toList[k]).toNat:Int),by omega,?_,?_⟩
·have:=(t.data.toList[k]).toNat_lt
 omega
·unfold bH
 rw[List.getElem?_map,List.getElem?_eq_getElem hd]
 rfl}
theorem wj {v:Value} {t:ByteArray} (hS:bW h v t.size (bH t) 5 1) (ht:t.size≤1000):FW env 140 [v] h fun r h'=>(∃ b:ByteArray,b.size≤5000∧r = .string b)∧h'=h:=by{
refine sf (K:=fun r=>∃ b:ByteArray,b.size≤5000∧r = .string b) ?_
obtain⟨q,c,rfl⟩:=bW.form hS
refine fe Tryz.func140 ?_;simp only[push_cast]
refine zu ?_
iterate 1 (refine zx pR ?_)
refine zu ?_
refine dw (t:=228) (cs:=[.pointer none,bD]) ak ak ?_
dsimp only[St.aX,St.put]
have B0:Cu h (h++[av.aj [.pointer none,bD] 0 true 228]) h.length 0:=⟨aI,Nat.le_refl _,_,_,⟨#[]⟩,aJ,.inl rfl,rfl,.nil⟩
generalize (h++[av.aj [.pointer none,bD] 0 true 228])=h1 at B0 ⊢
generalize h.length=i at B0 ⊢
refine aB ?_
refine zj Tryz.func177 ?_
refine (rv (by decide) (by decide) B0 om).mono ?_
rintro _ h2 B1
refine aB ?_
refine CW.mono (Q:=fun e s'=>e = .exit 0∧∃ x:ah×Nat,Cu h x.1 i x.2∧(0<x.2∧x.2≤1+4*t.size)∧s'.h=x.1∧bB [(3,.val (dO i))] s'.fr) ?_ ?_
·refine a9 t.size (fun k (x:ah×Nat)=>[(3,.val (dO i)),(7,.val (.slice q t.size c)),(8,.val (i64 t.size)),(9,.val (i64 k))]) (fun _ x=>x.1) (fun k x=>Cu h x.1 i x.2∧0<x.2∧x.2≤1+4*k) (h2,1) aO rfl ⟨B1,by simp only;omega,by simp only;omega⟩ ?_
 rintro k ⟨hk,n⟩ hkn ⟨B,hn0,hnk⟩
 simp only at B hn0 hnk ⊢
 by_cases hlt:k<t.size
 ·have hS2:bW hk (.slice q t.size c) t.size (bH t) 5 1:=hS.mono B.1
  obtain⟨id,au,own,c',hv,hid⟩:=bW.at hS2 om
  cases hv
  obtain⟨w,w0,w1,hg⟩:=Bj hlt
  have e1:=cH hlt
  have e2:=inc hlt om
  have e3:=aV hlt
  have hq0:0≤w / 16∧w / 16≤15:=by omega
  have hm0:0≤w % 16∧w % 16≤15:=by omega
  have z1:IntKind.u8.wrap (w.tdiv 16)=w / 16:=by rw[Int.tdiv_eq_ediv_of_nonneg w0,IntKind.wrap_u8];omega
  have z2:IntKind.u8.wrap (w.tmod 16)=w % 16:=by rw[Int.tmod_eq_emod_of_nonneg w0,IntKind.wrap_u8];omega
  have z2':w.tmod 16=w % 16:=Int.tmod_eq_emod_of_nonneg w0
  have hz16:(ByteArray.mk #[48,49,50,51,52,53,54,55,56,57,97,98,99,100,101,102]).size=16:=rfl
  generalize w / 16=wq at hq0 z1
  generalize w % 16=wm at hm0 z2 z2'
  obtain⟨d1,hd1,_⟩:=kD (b:=ByteArray.mk #[48,49,50,51,52,53,54,55,56,57,97,98,99,100,101,102]) (i:=wq.toNat) (by rw[hz16];omega)
  obtain⟨d2,hd2,_⟩:=kD (b:=ByteArray.mk #[48,49,50,51,52,53,54,55,56,57,97,98,99,100,101,102]) (i:=wm.toNat) (by rw[hz16];omega)
  have y1:(0≤wq)=True:=eq_true hq0.1
  have y2:(0≤wm)=True:=eq_true hm0.1
  have x1:=d1.toNat_lt
  have x2:=d2.toNat_lt
  refine aG e3 ?_
  refine af rfl ?_
  refine fN e1 hid Nat.mul_one hg ?_
  refine dH ak (fun hc=>?_) (fun hc=>?_)
  ·refine aB ?_
   refine zj Tryz.func177 ?_
   refine (rv (by decide) (by decide) B om).mono ?_
   rintro _ h3 B3
   refine aB ?_
   refine zj Tryz.func177 ?_
   refine (rv w0 w1 B3 om).mono ?_
   rintro _ h4 B4
   refine aG e2 ?_
   exact⟨hlt,(h4,n+1+1),aO,rfl,B4,by omega,by omega⟩
  refine aB ?_
  refine dH ak (fun hc=>?_) (fun hc=>?_)
  ·refine aB ?_
   refine zj Tryz.func178 ?_
   refine (Au (by decide) B om).mono ?_
   rintro _ h3 B3
   have B3:Cu h h3 i (n+2):=B3
   refine aG e2 ?_
   exact⟨hlt,(h3,n+2),aO,rfl,B3,by omega,by omega⟩
  refine aB ?_
  refine dH ak (fun hc=>?_) (fun hc=>?_)
  ·refine aB ?_
   refine zj Tryz.func178 ?_
   refine (Au (by decide) B om).mono ?_
   rintro _ h3 B3
   have B3:Cu h h3 i (n+2):=B3
   refine aG e2 ?_
   exact⟨hlt,(h3,n+2),aO,rfl,B3,by omega,by omega⟩
  refine aB ?_
  refine dH ak (fun hc=>?_) (fun hc=>?_)
  ·refine aB ?_
   refine zj Tryz.func178 ?_
   refine (Au (by decide) B om).mono ?_
   rintro _ h3 B3
   have B3:Cu h h3 i (n+2):=B3
   refine aG e2 ?_
   exact⟨hlt,(h3,n+2),aO,rfl,B3,by omega,by omega⟩
  refine aB ?_
  refine dH ak (fun hc=>?_) (fun hc=>?_)
  ·refine aB ?_
   refine zj Tryz.func178 ?_
   refine (Au (by decide) B om).mono ?_
   rintro _ h3 B3
   have B3:Cu h h3 i (n+2):=B3
   refine ir z1 hd1 y1 ?_
   refine zj Tryz.func177 ?_
   refine (rv om om B3 om).mono ?_
   rintro _ h4 B4
   refine fN z2 z2' hd2 y2 ?_
   refine zj Tryz.func177 ?_
   refine (rv om om B4 om).mono ?_
   rintro _ h5 B5
   refine aG e2 ?_
   exact⟨hlt,(h5,n+2+1+1),aO,rfl,B5,by omega,by omega⟩
  ·refine aB ?_
   refine zj Tryz.func177 ?_
   refine (rv w0 w1 B om).mono ?_
   rintro _ h4 B4
   refine aG e2 ?_
   exact⟨hlt,(h4,n+1),aO,rfl,B4,by omega,by omega⟩
 ·have e3:=aT hlt
  obtain rfl:k=t.size:=by omega
  refine aG e3 ?_
  refine ae rfl ?_
  refine aC ?_
  exact⟨rfl,(hk,n),B,⟨hn0,hnk⟩,rfl,aO⟩
rintro e s' ⟨rfl,⟨hk,n⟩,B,⟨hn0,hnk⟩,hh,hf⟩
simp only at B hn0 hnk hh
show CW _ _ _ _
refine aA _ hf ?_
rw[hh]
refine aB ?_
refine zj Tryz.func177 ?_
refine (rv (by decide) (by decide) B om).mono ?_
rintro _ h3 B3
refine aB ?_
refine zj Tryz.func179 ?_
refine (Js B3 om).mono ?_
rintro _ h4 ⟨⟨b,hb,rfl⟩,hp4⟩
refine aB ?_
refine ai ?_
exact⟨_,ak,⟨.be rfl,hp4⟩,b,by omega,rfl⟩}
theorem En {k:bI} (hset:du k.set) (hn:k.name.size≤vN) (hs:k.sep.size≤32):FW env 94 [k.val] h fun r h'=>(∃ b:ByteArray,b.size≤140737488355328+10000∧r = .string (b++⟨#[43]⟩))∧h'=h:=by{
refine sf (K:=fun r=>∃ b:ByteArray,b.size≤140737488355328+10000∧r = .string (b++⟨#[43]⟩)) ?_
unfold vN at hn
refine fe Tryz.func94 ?_;simp only[push_cast]
obtain⟨b43,hb43⟩:∃ b:ByteArray,b=ByteArray.mk #[43]:=⟨_,rfl⟩
obtain⟨b32,hb32⟩:∃ b:ByteArray,b=ByteArray.mk #[32]:=⟨_,rfl⟩
obtain⟨b123,hb123⟩:∃ b:ByteArray,b=ByteArray.mk #[123]:=⟨_,rfl⟩
obtain⟨b125,hb125⟩:∃ b:ByteArray,b=ByteArray.mk #[125]:=⟨_,rfl⟩
have z43:b43.size=1:=by rw[hb43];rfl
have z32:b32.size=1:=by rw[hb32];rfl
have z123:b123.size=1:=by rw[hb123];rfl
have z125:b125.size=1:=by rw[hb125];rfl
rw[← hb43,← hb32,← hb123,← hb125]
refine aB ?_
refine dH ak (fun hc=>?_) (fun hc=>?_)
·refine aB ?_
 refine zj Tryz.func139 ?_
 refine (Dx hset).mono ?_
 rintro _ h6 ⟨⟨x,hx,rfl⟩,e6⟩
 obtain rfl:=e6.symm
 refine aB ?_
 refine dH ak (fun hd1=>?_) (fun hd1=>?_)
 ·obtain⟨c1,hc1⟩:∃ zz,zz=b123++x:=⟨_,rfl⟩
  have zc1:c1.size≤140737488355328+3001:=by rw[hc1,ByteArray.size_append];omega
  have kc1:((b123.size:Int)+(x.size:Int)≤9223372036854775807)=True:=eq_true om
  have hc1:=hc1.symm
  obtain⟨c2,hc2⟩:∃ zz,zz=c1++b32:=⟨_,rfl⟩
  have zc2:c2.size≤140737488355328+3002:=by rw[hc2,ByteArray.size_append];omega
  have kc2:((c1.size:Int)+(b32.size:Int)≤9223372036854775807)=True:=eq_true om
  have hc2:=hc2.symm
  refine fN kc1 hc1 kc2 hc2 ?_
  refine CU (b:=k.sep) ak rfl kr kr kr Mq rfl ak om ?_
  dsimp only[St.aX,St.put]
  have hSq:bW (h++[av.aj (bH k.sep) 0 false 5]) (.slice (some ⟨h.length,0,some 0⟩) k.sep.size k.sep.size) k.sep.size (bH k.sep) 5 1:=⟨by omega,.inr ⟨_,_,_,_,rfl,aJ⟩⟩
  have hpq:h <+: h++[av.aj (bH k.sep) 0 false 5]:=aI
  generalize (h++[av.aj (bH k.sep) 0 false 5])=h5 at hSq hpq ⊢
  generalize h.length=i5 at hSq ⊢
  refine aB ?_
  refine zj Tryz.func140 ?_
  refine (wj hSq om).mono ?_
  rintro _ h6 ⟨⟨b,hb,rfl⟩,e6⟩
  obtain rfl:=e6.symm
  obtain⟨c3,hc3⟩:∃ zz,zz=c2++b:=⟨_,rfl⟩
  have zc3:c3.size≤140737488355328+8002:=by rw[hc3,ByteArray.size_append];omega
  have kc3:((c2.size:Int)+(b.size:Int)≤9223372036854775807)=True:=eq_true om
  have hc3:=hc3.symm
  obtain⟨c4,hc4⟩:∃ zz,zz=c3++b125:=⟨_,rfl⟩
  have zc4:c4.size≤140737488355328+8003:=by rw[hc4,ByteArray.size_append];omega
  have kc4:((c3.size:Int)+(b125.size:Int)≤9223372036854775807)=True:=eq_true om
  have hc4:=hc4.symm
  refine fN kc3 hc3 kc4 hc4 ?_
  obtain⟨c5,hc5⟩:∃ zz,zz=c4++b43:=⟨_,rfl⟩
  have zc5:c5.size≤140737488355328+20000:=by rw[hc5,ByteArray.size_append];omega
  have kc5:((c4.size:Int)+(b43.size:Int)≤9223372036854775807)=True:=eq_true om
  have hc5:=hc5.symm
  refine fM kc5 hc5 ?_
  refine ai ?_
  exact⟨_,ak,⟨.be rfl,hpq⟩,c4,by omega,by rw[← hc5,hb43];rfl⟩
 ·refine cj ?_
  show CW _ _ _ _
  obtain⟨c5,hc5⟩:∃ zz,zz=x++b43:=⟨_,rfl⟩
  have zc5:c5.size≤140737488355328+20000:=by rw[hc5,ByteArray.size_append];omega
  have kc5:((x.size:Int)+(b43.size:Int)≤9223372036854775807)=True:=eq_true om
  have hc5:=hc5.symm
  refine fM kc5 hc5 ?_
  refine ai ?_
  exact⟨_,ak,⟨.be rfl,List.prefix_refl _⟩,x,by omega,by rw[← hc5,hb43];rfl⟩
·refine cj ?_
 show CW _ _ _ _
 refine aB ?_
 refine dH ak (fun hd1=>?_) (fun hd1=>?_)
 ·obtain⟨c1,hc1⟩:∃ zz,zz=b123++k.name:=⟨_,rfl⟩
  have zc1:c1.size≤140737488355328+3001:=by rw[hc1,ByteArray.size_append];omega
  have kc1:((b123.size:Int)+(k.name.size:Int)≤9223372036854775807)=True:=eq_true om
  have hc1:=hc1.symm
  obtain⟨c2,hc2⟩:∃ zz,zz=c1++b32:=⟨_,rfl⟩
  have zc2:c2.size≤140737488355328+3002:=by rw[hc2,ByteArray.size_append];omega
  have kc2:((c1.size:Int)+(b32.size:Int)≤9223372036854775807)=True:=eq_true om
  have hc2:=hc2.symm
  refine fN kc1 hc1 kc2 hc2 ?_
  refine CU (b:=k.sep) ak rfl kr kr kr Mq rfl ak om ?_
  dsimp only[St.aX,St.put]
  have hSq:bW (h++[av.aj (bH k.sep) 0 false 5]) (.slice (some ⟨h.length,0,some 0⟩) k.sep.size k.sep.size) k.sep.size (bH k.sep) 5 1:=⟨by omega,.inr ⟨_,_,_,_,rfl,aJ⟩⟩
  have hpq:h <+: h++[av.aj (bH k.sep) 0 false 5]:=aI
  generalize (h++[av.aj (bH k.sep) 0 false 5])=h5 at hSq hpq ⊢
  generalize h.length=i5 at hSq ⊢
  refine aB ?_
  refine zj Tryz.func140 ?_
  refine (wj hSq om).mono ?_
  rintro _ h6 ⟨⟨b,hb,rfl⟩,e6⟩
  obtain rfl:=e6.symm
  obtain⟨c3,hc3⟩:∃ zz,zz=c2++b:=⟨_,rfl⟩
  have zc3:c3.size≤140737488355328+8002:=by rw[hc3,ByteArray.size_append];omega
  have kc3:((c2.size:Int)+(b.size:Int)≤9223372036854775807)=True:=eq_true om
  have hc3:=hc3.symm
  obtain⟨c4,hc4⟩:∃ zz,zz=c3++b125:=⟨_,rfl⟩
  have zc4:c4.size≤140737488355328+8003:=by rw[hc4,ByteArray.size_append];omega
  have kc4:((c3.size:Int)+(b125.size:Int)≤9223372036854775807)=True:=eq_true om
  have hc4:=hc4.symm
  refine fN kc3 hc3 kc4 hc4 ?_
  obtain⟨c5,hc5⟩:∃ zz,zz=c4++b43:=⟨_,rfl⟩
  have zc5:c5.size≤140737488355328+20000:=by rw[hc5,ByteArray.size_append];omega
  have kc5:((c4.size:Int)+(b43.size:Int)≤9223372036854775807)=True:=eq_true om
  have hc5:=hc5.symm
  refine fM kc5 hc5 ?_
  refine ai ?_
  exact⟨_,ak,⟨.be rfl,hpq⟩,c4,by omega,by rw[← hc5,hb43];rfl⟩
 ·refine cj ?_
  show CW _ _ _ _
  obtain⟨c5,hc5⟩:∃ zz,zz=k.name++b43:=⟨_,rfl⟩
  have zc5:c5.size≤140737488355328+20000:=by rw[hc5,ByteArray.size_append];omega
  have kc5:((k.name.size:Int)+(b43.size:Int)≤9223372036854775807)=True:=eq_true om
  have hc5:=hc5.symm
  refine fM kc5 hc5 ?_
  refine ai ?_
  exact⟨_,ak,⟨.be rfl,List.prefix_refl _⟩,k.name,by omega,by rw[← hc5,hb43];rfl⟩}
end
def uR (l:List ByteArray):List (ByteArray×Int):=l.zipIdx.map fun p=>(p.1,(p.2:Int))
def vQ (n:Nat) (l:List bI):List (bI×Int):=l.zipIdx.map fun p=>(p.1,((n+p.2:Nat):Int))
theorem wK (a b:ByteArray) (l:List ByteArray):(a :: l).idxOf b=if b=a then 0 else l.idxOf b+1:=by{
rw[List.idxOf_cons,uJ]
by_cases h:b=a
·rw[if_pos h,decide_eq_true h.symm];rfl
·rw[if_neg h,decide_eq_false (fun e=>h e.symm)];rfl}
theorem B9 (a b:bI) (l:List bI):(a :: l).idxOf b=if b=a then 0 else l.idxOf b+1:=by{
rw[List.idxOf_cons]
by_cases h:b=a
·rw[if_pos h,h];simp
·rw[if_neg h]
 have:(a == b)=false:=by rw[beq_eq_false_iff_ne];exact fun e=>h e.symm
 rw[this];rfl}
theorem w8 (x:ByteArray):∀ (l:List ByteArray) (k:Nat),x∈l→ia ((l.zipIdx k).map fun p=>(p.1,(p.2:Int))) x=some ((k+l.idxOf x:Nat):Int)
 | [],k,h=>by simp at h
 | a :: l,k,h=>by
   rw[List.zipIdx_cons,List.map_cons,wK]
   unfold ia
   by_cases e:x=a
   ·rw[if_pos e,if_pos e];rfl
   ·rw[if_neg e,if_neg e,w8 x l (k+1) ((List.mem_cons.1 h).resolve_left e)]
    congr 2
    omega
theorem zI {x:ByteArray} {l:List ByteArray} (h:x∈l):gj (fz (uR l)) (.string x)=some (i64 ((l.idxOf x:Nat):Int)):=by{
rw[mN]
unfold uR
rw[w8 x l 0 h,Nat.zero_add]
rfl}
theorem wD (x:ByteArray) (v:Int):∀ l:List (ByteArray×Int),(∀ p∈l,p.1≠x)→cW l x v=l++[(x,v)]
 | [],_=>rfl
 | (k,u) :: r,h=>by
   unfold cW
   have hk:x≠k:=fun e=>h (k,u) (by simp) e.symm
   rw[if_neg hk,wD x v r fun p hp=>h p (List.mem_cons_of_mem _ hp)]
   rfl
theorem GV {x:ByteArray} {l:List ByteArray} (h:x∉l):cW (uR l) x (l.length:Int)=uR (l++[x]):=by{
rw[wD]
·unfold uR
 rw[List.zipIdx_append,List.map_append]
 simp
·intro p hp e
 unfold uR at hp
 rw[List.mem_map] at hp
 obtain⟨q,hq,rfl⟩:=hp
 have:=List.mem_zipIdx' hq
 subst e
 exact h (this.2▸List.getElem_mem this.1)}
theorem sx (x:bI) (n:Nat):∀ (l:List bI) (k:Nat),oP ((l.zipIdx k).map fun p=>(p.1,((n+p.2:Nat):Int))) x=if x∈l then some ((n+(k+l.idxOf x):Nat):Int) else none
 | [],k=>by simp [oP]
 | a :: l,k=>by
   rw[List.zipIdx_cons,List.map_cons,B9]
   unfold oP
   by_cases e:x=a
   ·rw[if_pos e,if_pos e,if_pos (by simp [e])];rfl
   ·rw[if_neg e,if_neg e,sx x n l (k+1)]
    by_cases hm:x∈l
    ·rw[if_pos hm,if_pos (List.mem_cons_of_mem _ hm)]
     congr 2
     omega
    ·rw[if_neg hm,if_neg (by rw[List.mem_cons];exact fun h=>h.elim e hm)]
theorem Aa {x:bI} {n:Nat} {l:List bI}:gj (kE (vQ n l)) x.val=if x∈l then some (i64 ((n+l.idxOf x:Nat):Int)) else none:=by{
rw[CJ]
unfold vQ
rw[sx x n l 0,Nat.zero_add]
split<;>rfl}
theorem FC {x:bI} {n:Nat} {l:List bI} (h:x∉l):iE (kE (vQ n l)) x.val (i64 ((n+l.length:Nat):Int))=kE (vQ n (l++[x])):=by{
rw[DV]
·unfold vQ
 rw[List.zipIdx_append,List.map_append]
 simp
·unfold vQ
 rw[sx,if_neg h]}
theorem aK.la {a b c:ah} {v:Value} {n:Nat} {cells:List Value} {et:TypeId} (G:aK b c v n cells et) (h:a.length≤b.length):aK a c v n cells et:=by{
rcases G with G|⟨id,au,h1,h2,h3⟩
·exact .inl G
·exact .inr ⟨id,au,Nat.le_trans h h1,h2,h3⟩}
def TT (n:Nat) (X:List Nat) (a b:ah):Prop:=∀ (j:Nat) (o:av),j<n→j∉X→a[j]? = some o→b[j]? = some o
structure NS (h0 hb hk:ah) (im:Nat) (m:MK) (l:List ByteArray) (es:List (ByteArray×Int)) (ks:List (bI×Int)) (os:List bI):Prop where
 p:h0 <+: hk
 k:TT hb.length [im,m.is,m.il] hb hk
 len:hb.length≤hk.length
 o:hk[im]? = some (.aj m.cells 0 true 94)
 n:aK hb hk m.vn l.length (l.map .string) 9
 od:aK hb hk m.vo os.length (os.flatMap bI.cells) 154
 sm:hk[m.is]? = some (.map (fz es))
 lm:hk[m.il]? = some (.map (kE ks))
structure NP (h0 hb:ah) (im i1 is il:Nat):Prop where
 a1:h0.length≤im
 a2:h0.length≤is
 a3:h0.length≤il
 b1:im<hb.length
 b2:is<hb.length
 b3:il<hb.length
 b4:i1<hb.length
 c1:im≠is
 c2:im≠il
 c3:is≠il
 c4:i1∉[im,is,il]
 x:hb[i1]? = some (.aj [.pointer (some ⟨im,0,some 0⟩)] 0 true 89)
section
variable {h0 hb hk h':ah} {im i1:Nat} {m:MK} {l:List ByteArray} {es:List (ByteArray×Int)} {ks:List (bI×Int)} {os:List bI}
theorem NS.x1 (S:NS h0 hb hk im m l es ks os) (P:NP h0 hb im i1 m.is m.il):hk[i1]? = some (.aj [.pointer (some ⟨im,0,some 0⟩)] 0 true 89):=S.k _ _ P.b4 P.c4 P.x
theorem np {a:ah} {i:Nat} {x:av}:(a.set i x).length=a.length:=List.length_set
theorem aK.rI {v:Value} {n i:Nat} {cells:List Value} {et:TypeId} {x:av} (G:aK hb hk v n cells et) (hi:i<hb.length):aK hb (hk.set i x) v n cells et:=G.mono fun j o hj g=>by
 have:=G.lt hj
 rw[aD om]
 exact g
theorem NS.ng (S:NS h0 hb hk im m l es ks os) (P:NP h0 hb im i1 m.is m.il) (es':List (ByteArray×Int)):NS h0 hb (hk.set m.is (.map (fz es'))) im m l es' ks os:=
 ⟨aY S.p P.a2,fun j o h1 h2 h3=>by
  rw[aD (fun e=>h2 (by rw[← e];simp))]
  exact S.k j o h1 h2 h3,by rw[np];exact S.len,by rw[aD P.c1.symm];exact S.o,S.n.rI P.b2,S.od.rI P.b2,aw S.sm,by rw[aD P.c3];exact S.lm⟩
theorem NS.SS (S:NS h0 hb hk im m l es ks os) (P:NP h0 hb im i1 m.is m.il) (ks':List (bI×Int)):NS h0 hb (hk.set m.il (.map (kE ks'))) im m l es ks' os:=
 ⟨aY S.p P.a3,fun j o h1 h2 h3=>by
  rw[aD (fun e=>h2 (by rw[← e];simp))]
  exact S.k j o h1 h2 h3,by rw[np];exact S.len,by rw[aD P.c2.symm];exact S.o,S.n.rI P.b3,S.od.rI P.b3,by rw[aD P.c3.symm];exact S.sm,aw S.lm⟩
theorem NS.uz (S:NS h0 hb hk im m l es ks os) (P:NP h0 hb im i1 m.is m.il) {m':MK} (e1:m'.is=m.is) (e2:m'.il=m.il) (e3:m'.vn=m.vn) (e4:m'.vo=m.vo):NS h0 hb (hk.set im (.aj m'.cells 0 true 94)) im m' l es ks os:=
 ⟨aY S.p P.a1,fun j o h1 h2 h3=>by
  rw[e1,e2] at h2
  rw[aD (fun e=>h2 (by rw[← e];simp))]
  exact S.k j o h1 h2 h3,by rw[np];exact S.len,aw S.o,by rw[e3];exact S.n.rI P.b1,by rw[e4];exact S.od.rI P.b1,by rw[e1,aD P.c1];exact S.sm,by rw[e2,aD P.c2];exact S.lm⟩
theorem AH {v:Value} {n:Nat} {cells:List Value} {et:TypeId} (G:aK hb hk v n cells et) {j:Nat} (hj:j<hb.length):bX v j=false:=by{
cases e:bX v j with
| false=>rfl
| true=>have:=G.lt e;omega}
theorem wo {n:Nat}:hk.take n <+: hk:=List.take_prefix n hk
theorem mK (h:hb.length≤hk.length):(hk.take hb.length).length=hb.length:=by rw[List.length_take];omega
theorem xb {b:ah} (hp:h0 <+: hk) (hl:h0.length≤hb.length) (hk2:hb.length≤hk.length) (h2:hk.take hb.length <+: b):h0 <+: b:=by
 refine List.IsPrefix.trans ?_ h2
 exact List.prefix_take_iff.2 ⟨hp,hl⟩
theorem pD {s:ByteArray} (S:NS h0 hb hk im m l es ks os) (P:NP h0 hb im i1 m.is m.il) (hl:l.length≤100000) : FW env 90 [.string s,.pointer (some ⟨i1,0,some 0⟩)] hk fun r h'=>r=i64 (l.length:Int)∧∃ vn,NS h0 hb h' im { m with vn:=vn } (l++[s]) es ks os:=by{
have hob:=S.o
have hG:=S.n
have hx1:=S.x1 P
have hl0:h0.length≤hb.length:=by have:=P.a1;have:=P.b1;omega
obtain⟨q,c,hvn⟩:=hG.form
rw[hvn] at hG
have hG':=hG.la (a:=hk.take hb.length) (by rw[mK S.len];exact Nat.le_refl _)
obtain⟨p2,c2,h2,hone,k1,k2,k3,k4,k5⟩:=gN (cs:=[.string s]) (t:=36) kr Fu (by decide) rfl hG' wo (by simp) rfl (by simp only;omega) om
have hk3:∀ j o,j<hb.length→hk[j]? = some o→h2[j]? = some o:=fun j o hj g=>k3 j o (AH hG hj) g
have k1':aK hb h2 (.slice p2 (l.length+1) c2) (l++[s]).length ((l++[s]).map .string) 9:=by
 rw[List.length_append,List.map_append]
 exact k1.la (by rw[mK S.len];exact Nat.le_refl _)
have hod:aK hb h2 m.vo os.length (os.flatMap bI.cells) 154:=S.od.ed (cd.push hG k3) (by decide)
have S2:NS h0 hb h2 im { m with vn:=.slice q l.length c } l es ks os→True:=fun _=>trivial
have hob2:=hk3 _ _ P.b1 hob
have hx2:=hk3 _ _ P.b4 hx1
have hp2:h0 <+: h2:=xb S.p hl0 S.len k2
have hS3:NS h0 hb (h2.set im (.aj (MK.cells { m with vn:=.slice p2 (l.length+1) c2 }) 0 true 94)) im { m with vn:=.slice p2 (l.length+1) c2 } (l++[s]) es ks os:=
 ⟨aY hp2 P.a1,fun j o h1 h2 h3=>by
  rw[aD (fun e=>h2 (by rw[← e];simp))]
  exact hk3 _ _ h1 (S.k j o h1 h2 h3),by rw[np];exact Nat.le_trans S.len k5,aw hob2,k1'.rI P.b1,hod.rI P.b1,by rw[aD P.c1];exact hk3 _ _ P.b2 S.sm,by rw[aD P.c2];exact hk3 _ _ P.b3 S.lm⟩
have hob3:=hS3.o
have hx3:=hS3.x1 P
have hw:IntKind.i64.wrap ((l.length:Int)+1-1)=(l.length:Int):=by rw[Int.add_sub_cancel];exact ay om om
simp only[MK.cells,hvn] at hob hob2
refine fe Tryz.func90 ?_;simp only[push_cast]
refine aB ?_
refine aA [(0,.val (.string s)),(1,.val (.pointer (some ⟨i1,0,some 0⟩)))] aO ?_
show CW _ _ ⟨_,[],hk⟩ _
try apply zs
apply bi (L:=[[],[],[1],[1,2],[1,2,3],[1,2,3,4],[],[6],[1,2,3,4,5,6,7],[0],[0,9],[0,9,10],[0,1,2,3,4,5,6,7,8,9,10,11]]) (act:=[8,12]) (hs:=[h2,h2.set im (.aj (MK.cells { m with vn:=.slice p2 (l.length+1) c2 }) 0 true 94)]) (resL:=[_,_,_,_,_,_,_,_,_,_,_,_,_]) (frF:=[(0,.val (.string s)),(1,.val (.pointer (some ⟨i1,0,some 0⟩)))])
case hm=>exact mixed
case hc=>kernel_rfl
case ha=>rfl
case hb=>rfl
case hS=>
 refine tT hx1 hx2 hob hob2 ?_
 apply az.cons
 ·rfl
 ·refine⟨?_,trivial⟩
  exact hone _ _ _ _ _ rfl ak rfl ak ak
 ·rfl
 refine tT hx1 hx2 hob hob2 ?_
 apply az.cons
 ·rfl
 ·refine⟨?_,trivial⟩
  exact One.jn (r:=.sl .dy) (cells':=MK.cells { m with vn:=.slice p2 (l.length+1) c2 }) ak rfl ak ak hob2 ak rfl rfl rfl
 ·rfl
 exact az.nil _
case ht=>rfl
case hF=>exact zh
show CW _ _ ⟨_,[],h2.set im (.aj (MK.cells { m with vn:=.slice p2 (l.length+1) c2 }) 0 true 94)⟩ _
generalize (h2.set im (av.aj (MK.cells { m with vn:=.slice p2 (l.length+1) c2 }) 0 true 94))=h3 at hS3 hob3 hx3 ⊢
simp only[MK.cells] at hob3
refine ir hx3 hob3 hw ?_
refine ai ?_
exact⟨_,ak,rfl,.slice p2 (l.length+1) c2,hS3⟩}
end
def Eo (b:ByteArray):Prop:=∃ c:ByteArray,b=c++⟨#[43]⟩
section
variable {h0 hb hk h':ah} {im i1:Nat} {m:MK} {d:b7} {l:List ByteArray} {es:List (ByteArray×Int)} {ks:List (bI×Int)} {os:List bI}
theorem NS.ord (S:NS h0 hb hk im m l es ks os) (P:NP h0 hb im i1 m.is m.il) (k:bI) (hl:os.length≤100000):∃ p2 c2 h2, (∀ (all:Array Oper) (o:Oper) (s:St) (x:Operand) (y:Nat),s.h=hk→aE all o s=some true→o.op = .call { callee:=.builtin .append,args:=#[x,.tmp y],argTypes:=#[92,92] }→ev s x=some m.vo→aS s.fr y = .nj k.cells 1 → One env all o s (.sl (.val (.slice p2 (os.length+1) c2))) h2) ∧ h2[im]? = some (.aj m.cells 0 true 94)∧h2[i1]? = some (.aj [.pointer (some ⟨im,0,some 0⟩)] 0 true 89) ∧ NS h0 hb (h2.set im (.aj (MK.cells { m with vo:=.slice p2 (os.length+1) c2 }) 0 true 94)) im { m with vo:=.slice p2 (os.length+1) c2 } l es ks (os++[k]):=by{
have hob:=S.o
have hG:=S.od
have hx1:=S.x1 P
have hl0:h0.length≤hb.length:=by have:=P.a1;have:=P.b1;omega
have hG':=hG.la (a:=hk.take hb.length) (by rw[mK S.len];exact Nat.le_refl _)
obtain⟨p2,c2,h2,hone,k1,k2,k3,k4,k5⟩:=gN (cs:=k.cells) (t:=92) kr IK (by decide) rfl hG' wo (dv (f:=bI.cells) (k:=7) (fun _=>rfl) os) rfl (by simp only;omega) om
have hk3:∀ j o,j<hb.length→hk[j]? = some o→h2[j]? = some o:=fun j o hj g=>k3 j o (AH hG hj) g
have k1':aK hb h2 (.slice p2 (os.length+1) c2) (os++[k]).length ((os++[k]).flatMap bI.cells) 154:=by
 rw[List.length_append,List.flatMap_append,List.flatMap_singleton]
 exact k1.la (by rw[mK S.len];exact Nat.le_refl _)
have hn:aK hb h2 m.vn l.length (l.map .string) 9:=S.n.ed (cd.push hG k3) (by decide)
have hob2:=hk3 _ _ P.b1 hob
have hx2:=hk3 _ _ P.b4 hx1
have hp2:h0 <+: h2:=xb S.p hl0 S.len k2
exact⟨p2,c2,h2,hone,hob2,hx2,
 ⟨aY hp2 P.a1,fun j o h1 h2 h3=>by
  rw[aD (fun e=>h2 (by rw[← e];simp))]
  exact hk3 _ _ h1 (S.k j o h1 h2 h3),by rw[np];exact Nat.le_trans S.len k5,aw hob2,hn.rI P.b1,k1'.rI P.b1,by rw[aD P.c1];exact hk3 _ _ P.b2 S.sm,by rw[aD P.c2];exact hk3 _ _ P.b3 S.lm⟩⟩}
structure NL (h0 hb:ah) (im:Nat) (m:MK) (S:List ByteArray) (os:List bI) (x:ah×Value×Value×List ByteArray):Prop where
 n:NS h0 hb x.1 im { m with vn:=x.2.1,vo:=x.2.2.1 } (S++x.2.2.2) (uR S) (vQ S.length os) os
 l:x.2.2.2.length=os.length
 e:∀ b∈x.2.2.2,Eo b
abbrev mD (i1:Nat):Value:=.func (.func 90) #[] #[.pointer (some ⟨i1,0,some 0⟩)]
structure TO (h0 hk h':ah) (im:Nat) (m':MK) (d:b7) (nm:List ByteArray) (hb:ah):Prop where
 s:NS h0 hb h' im m' (aF d.aa++nm++(if cN d.layout=true then [] else [⟨#[103,97,112]⟩])++[⟨#[116,111,112]⟩]) (uR (aF d.aa)) (vQ (aF d.aa).length (bj d.aa)) (bj d.aa)
 p:hk <+: hb
 l:nm.length=nK d
 e:∀ b∈nm,Eo b
theorem yF {lex:Bool} {os:List bI} {s:Sym} (hL:ik s=true) (hm:iq lex s∈os):eN lex os s=os:=by
 unfold eN addKey
 rw[if_pos hL,if_pos hm]
theorem xN {lex:Bool} {os:List bI} {s:Sym} (hL:ik s=true) (hm:iq lex s∉os):eN lex os s=os++[iq lex s]:=by
 unfold eN addKey
 rw[if_pos hL,if_neg hm]
theorem yp {lex:Bool} {os:List bI} {s:Sym} (hL:ik s=false):eN lex os s=os:=by
 unfold eN
 rw[if_neg (by rw[hL];decide)]
theorem Lx (hp:h0 <+: hk) (ho:hk[im]? = some (.aj m.cells 0 true 94)) (hsm:hk[m.is]? = some (.map (fz []))) (hlm:hk[m.il]? = some (.map (kE []))) (a1:h0.length≤im) (a2:h0.length≤m.is) (a3:h0.length≤m.il) (c1:im≠m.is) (c2:im≠m.il) (c3:m.is≠m.il) (hvn:m.vn=bD) (hvo:m.vo=bD) (hD:bK h0 d m.vP m.vC m.Mm m.Ml m.vB) (hs1:m.start=d.start) (hs2:m.layout=d.layout) (G:nL d) (hW:∀ p∈d.aa,ui p) (hnS:(aF d.aa).length≤200) (hkY:∀ (k:Nat) (hk:k<d.aa.length) (j:Nat),(gG d.aa[k].lex (bj (d.aa.take k)) (d.aa[k].al.take j)).length≤3000) : FW env 33 [.pointer (some ⟨im,0,some 0⟩)] hk fun r h'=>r = .tuple #[]∧∃ vn vo nm hb,TO h0 hk h' im { m with vn:=vn,vo:=vo,lL:=bP d,st:=(dU d:Int),fk:=(aW d:Int) } d nm hb:=by{
obtain⟨pP,cP,hvP⟩:=cT.form hD.aa
refine fe Tryz.func33 ?_;simp only[push_cast]
refine zu ?_
refine dw (t:=89) (cs:=[.pointer (some ⟨im,0,some 0⟩)]) ak ak ?_
dsimp only[St.aX,St.put]
have hpA:hk <+: hk++[av.aj [.pointer (some ⟨im,0,some 0⟩)] 0 true 89]:=aI
have hx1:(hk++[av.aj [.pointer (some ⟨im,0,some 0⟩)] 0 true 89])[hk.length]? = some (.aj [.pointer (some ⟨im,0,some 0⟩)] 0 true 89):=aJ
have hi1:hk.length<(hk++[av.aj [.pointer (some ⟨im,0,some 0⟩)] 0 true 89]).length:=by simp
generalize (hk++[av.aj [.pointer (some ⟨im,0,some 0⟩)] 0 true 89])=hA at hpA hx1 hi1 ⊢
have himk:im<hk.length:=(List.getElem?_eq_some_iff.1 ho).1
have hisk:m.is<hk.length:=(List.getElem?_eq_some_iff.1 hsm).1
have hilk:m.il<hk.length:=(List.getElem?_eq_some_iff.1 hlm).1
have hnot:hk.length∉[im,m.is,m.il]:=by simp;omega
generalize hk.length=i1 at hx1 hi1 hnot himk hisk hilk ⊢
have hSo:=ES (hD.mono (hp.trans hpA))
have hobA:=ag hpA ho
unfold b7.val at hSo
simp only[MK.cells,hs1,hs2] at hobA
obtain⟨S,hS⟩:∃ S,S=aF d.aa:=⟨_,rfl⟩
have hSn:S.Nodup:=hS▸sO
rw[← hS] at hSo hnS
refine fM hx1 hobA ?_
refine zj Tryz.func91 ?_
refine hSo.mono ?_
rintro _ hb ⟨hpB,GS⟩
obtain⟨q,c,rfl⟩:=GS.form
have hlen:=hpB.length_le
have P:NP h0 hb im i1 m.is m.il:=⟨a1,a2,a3,by omega,by omega,by omega,by omega,c1,c2,c3,hnot,ag hpB hx1⟩
have hNS:NS h0 hb hb im m [] (uR []) (vQ S.length []) []:=⟨(hp.trans hpA).trans hpB,fun _ _ _ _ k=>k,Nat.le_refl _,ag (hpA.trans hpB) ho,by rw[hvn];exact aK.nil,by rw[hvo];exact aK.nil,ag (hpA.trans hpB) hsm,ag (hpA.trans hpB) hlm⟩
have hGS:∀ {x:ah} {m':MK} {l:List ByteArray} {es:List (ByteArray×Int)} {ks:List (bI×Int)} {os:List bI},m'.is=m.is→m'.il=m.il→NS h0 hb x im m' l es ks os→aK hA x (.slice q S.length c) S.length (S.map .string) 9:=fun e1 e2 N=>GS.mono fun j o hj g=>by
 have h1:=(GS.lt hj).1
 have h2:=(List.getElem?_eq_some_iff.1 g).1
 refine N.k j o h2 ?_ g
 rw[e1,e2]
 simp
 omega
refine aB ?_
refine CW.mono (Q:=fun e s'=>e = .exit 0∧∃ x:ah×Value,NS h0 hb x.1 im { m with vn:=x.2 } S (uR S) (vQ S.length []) []∧s'.h=x.1∧bB [(1,.val (.pointer (some ⟨i1,0,some 0⟩))),(2,.val (mD i1))] s'.fr) ?_ ?_
·refine a9 S.length (fun k (x:ah×Value)=>[(1,.val (.pointer (some ⟨i1,0,some 0⟩))),(2,.val (mD i1)),(18,.val (.slice q S.length c)),(19,.val (i64 S.length)),(20,.val (i64 k))]) (fun _ x=>x.1) (fun k x=>NS h0 hb x.1 im { m with vn:=x.2 } (S.take k) (uR (S.take k)) (vQ S.length []) []) (hb,m.vn) aO rfl (by rw[List.take_zero];exact hNS) ?_
 rintro k ⟨hc,vn⟩ hkn I
 simp only at I ⊢
 by_cases hlt:k<S.length
 ·obtain⟨id,au,own,c',hv,hid⟩:=((hGS (m':={ m with vn:=vn }) rfl rfl I).sl (b:=16) om).at om
  cases hv
  have hg:(S.map Value.string)[k]? = some (.string S[k]):=by rw[List.getElem?_map,List.getElem?_eq_getElem hlt];rfl
  have htk:S.take (k+1)=S.take k++[S[k]]:=List.take_succ_eq_append_getElem hlt
  have hni:S[k]∉S.take k:=by
   intro hm
   obtain⟨j,hj,e⟩:=List.getElem_of_mem hm
   rw[List.length_take] at hj
   rw[List.getElem_take] at e
   exact List.pairwise_iff_getElem.1 hSn j k om hlt om e
  have hput:=pD (s:=S[k]) I P (by rw[List.length_take];omega)
  have e9:=GV hni
  have hlk:(S.take k).length=k:=by rw[List.length_take];omega
  rw[hlk] at hput e9
  unfold FW at hput
  obtain⟨_,h2,hcall,rfl,vn2,N2⟩:=hput
  have hsk:=bm (uR (S.take k))
  have e8:=dJ S[k] (k:Int) (uR (S.take k))
  rw[e9,← htk] at e8
  have N3:=N2.ng P (uR (S.take (k+1)))
  have w1:=cH hlt
  have w2:=inc hlt om
  have q3:=aV hlt
  have hx:=I.x1 P
  have hob:=I.o
  have hx2:=N2.x1 P
  have hob2:=N2.o
  have hsm2:=N2.sm
  simp only[MK.cells] at hob hob2
  simp only at hsm2
  generalize S[k]=s at hcall hg e8 N2 N3 htk ⊢
  refine aG q3 ?_
  refine af rfl ?_
  refine zu ?_
  iterate 3 (refine zx (TF w1 hid Nat.mul_one hg) ?_)
  apply zn
  show CW _ _ ⟨_,[],hc⟩ _
  try apply zs
  refine aA [(1,.val (.pointer (some ⟨i1,0,some 0⟩))),(2,.val (mD i1)),(4,.val (.string s)),(18,.val (.slice (some ⟨id,0,some au⟩) S.length c)),(19,.val (i64 S.length)),(20,.val (i64 k))] aO ?_
  show CW _ _ ⟨_,[],hc⟩ _
  try apply zs
  apply bi (L:=[[],[0],[0,1],[0,1,2],[],[],[],[5,6],[0,1,2,3,4,5,6,7]]) (act:=[7,8]) (hs:=[h2,h2.set m.is (.map (iE (fz (uR (S.take k))) (.string s) (i64 k)))]) (resL:=[_,_,_,_,_,_,_,_,_]) (frF:=[(1,.val (.pointer (some ⟨i1,0,some 0⟩))),(2,.val (mD i1)),(18,.val (.slice (some ⟨id,0,some au⟩) S.length c)),(19,.val (i64 S.length)),(20,.val (i64 k))])
  case hm=>exact mixed
  case hc=>kernel_rfl
  case ha=>rfl
  case hb=>rfl
  case hS=>
   refine tT hx hx2 hob hob2 ?_
   apply az.cons
   ·rfl
   ·refine⟨?_,trivial⟩
    exact dA (args:=[.string s]) (cap:=[.pointer (some ⟨i1,0,some 0⟩)]) (fn:=Tryz.f90) ak rfl ak ak Tryz.func90 kr kr hcall
   ·rfl
   refine tT hx hx2 hob hob2 ?_
   apply az.cons
   ·rfl
   ·refine⟨?_,trivial⟩
    exact One.zR (r:=.sl .dy) (kt:=9) (et:=3) (kd:=eB) ak rfl kr rfl ak hsm2 ak ak rfl hsk rfl
   ·rfl
   exact az.nil _
  case ht=>rfl
  case hF=>exact zh
  rw[e8]
  show CW _ _ ⟨_,[],h2.set m.is (.map (fz (uR (S.take (k+1)))))⟩ _
  simp only at N3
  generalize h2.set m.is (.map (fz (uR (S.take (k+1)))))=h3 at N3 ⊢
  refine aG w2 ?_
  refine⟨hlt,(h3,vn2),aO,rfl,?_⟩
  simp only
  rw[htk] at N3 ⊢
  exact N3
 ·have q3:=aT hlt
  obtain rfl:k=S.length:=by omega
  rw[List.take_length] at I
  refine aG q3 ?_
  refine ae rfl ?_
  refine aC ?_
  exact⟨rfl,(hc,vn),I,rfl,aO⟩
rintro e s' ⟨rfl,⟨h1,vn1⟩,I1,hh,hf⟩
show CW _ _ _ _
refine aA _ hf ?_
rw[hh]
clear hf hh s' hNS
simp only at I1 ⊢
have hx:=I1.x1 P
have hob:=I1.o
simp only[MK.cells,hvP] at hob
refine fM hx hob ?_
have hlP:=cT.le hD.aa
have hGn:=G.n
refine CW.mono (Q:=fun e s'=>e = .exit 2∧∃ x:ah×Value×Value×List ByteArray,NL h0 hb im m S (bj d.aa) x∧s'.h=x.1∧bB [(1,.val (.pointer (some ⟨i1,0,some 0⟩))),(2,.val (mD i1))] s'.fr) ?_ ?_
·refine a9 d.aa.length (fun k (x:ah×Value×Value×List ByteArray)=>[(1,.val (.pointer (some ⟨i1,0,some 0⟩))),(2,.val (mD i1)),(38,.val (.slice pP d.aa.length cP)),(39,.val (i64 d.aa.length)),(40,.val (i64 k))]) (fun _ x=>x.1) (fun k x=>NL h0 hb im m S (bj (d.aa.take k)) x) (h1,vn1,m.vo,[]) aO rfl ⟨by rw[List.append_nil];exact I1,rfl,fun b hb=>by simp at hb⟩ ?_
 rintro k x hkn J
 by_cases hlt:k<d.aa.length
 ·obtain⟨id,au,own,c',cells,u,hv,hid0,hrd,hu⟩:=cT.at (k:=5) (fun _ _=>rfl) hD.aa hlt
  rw[hvP] at hv
  cases hv
  have hu:fV h0 u d.aa[k].al:=hu
  obtain⟨ps,cs,rfl⟩:=bW.form hu
  have hid:=ag J.n.p hid0
  have w1:=cH hlt
  have w2:=inc hlt om
  have q3:=aV hlt
  have hpw:=hW _ (List.getElem_mem hlt)
  have hGk:∀ s∈d.aa[k].al,ik s=true→iq d.aa[k].lex s∈bj d.aa:=fun s hs hL=>mem_keys.2 ⟨_,List.getElem_mem hlt,s,hs,hL,rfl⟩
  have hle2:=hkY k hlt
  have htk:=yH hlt
  have hule:=hu.1
  obtain⟨pr,hpr⟩:∃ pr,pr=d.aa[k]:=⟨_,rfl⟩
  rw[← hpr] at hrd hu hpw hGk hle2 htk hule
  clear hpr
  refine aG q3 ?_
  refine af rfl ?_
  refine ir w1 hid hrd ?_
  refine a9 pr.al.length (fun j (x:ah×Value×Value×List ByteArray)=>[(1,.val (.pointer (some ⟨i1,0,some 0⟩))),(2,.val (mD i1)),(6,.box [.bool pr.lex,.string pr.sort,.string pr.cons,.bool pr.bracket,.slice ps pr.al.length cs]),(38,.val (.slice (some ⟨id,0,some au⟩) d.aa.length cP)),(39,.val (i64 d.aa.length)),(40,.val (i64 k)),(45,.val (.slice ps pr.al.length cs)),(46,.val (i64 pr.al.length)),(47,.val (i64 j))]) (fun _ x=>x.1) (fun j x=>NL h0 hb im m S (gG pr.lex (bj (d.aa.take k)) (pr.al.take j)) x) x aO rfl (by rw[List.take_zero];exact J) ?_
  clear J hid x
  rintro j ⟨hc,vn,vo,nm⟩ hjn J
  by_cases hjl:j<pr.al.length
  ·have hul:=hu.mono J.n.p
   obtain⟨id2,ver2,own2,c3,hv2,hid2⟩:=bW.at hul om
   cases hv2
   have hyg:=gV hjl
   have v1:=cH hjl
   have v2:=inc hjl om
   have v3:=aV hjl
   have hsucc:=y7 (lex:=pr.lex) (l:=bj (d.aa.take k)) hjl
   have hGs:=hGk _ (List.getElem_mem hjl)
   have hsw:=hpw.al _ (List.getElem_mem hjl)
   have hosl:=hle2 j
   generalize gG pr.lex (bj (d.aa.take k)) (pr.al.take j)=os at J hsucc hosl
   have N:=J.n
   have hnl:=J.l
   simp only at N hnl hid2 ⊢
   have hx:=N.x1 P
   have hob:=N.o
   have hlm:=N.lm
   simp only[MK.cells] at hob
   simp only at hlm
   generalize pr.al[j]=s at hyg hsucc hGs hsw
   refine aG v3 ?_
   refine af rfl ?_
   refine ir v1 hid2 hyg ?_
   refine zj Tryz.func92 ?_
   refine tQ.mono ?_
   rintro _ h2 ⟨rfl,e2⟩
   obtain rfl:=e2.symm
   cases hL:ik s with
   | false=>
     rw[yp hL] at hsucc
     refine aB ?_
     refine af rfl ?_
     refine aC ?_
     show CW _ _ _ _
     refine aG v2 ?_
     refine⟨hjl,(hc,vn,vo,nm),aO,rfl,?_⟩
     simp only
     rw[hsucc]
     exact J
   | true=>
     have hKm:=hGs hL
     refine aB ?_
     refine ae rfl ?_
     refine aB ?_
     refine zj Tryz.func93 ?_
     refine (wH (s:=s) hul).mono ?_
     rintro _ h2 ⟨rfl,e2⟩
     obtain rfl:=e2.symm
     have hkk0:=qf (vQ S.length os)
     have hkk:=hkk0
     have hkg:=Aa (x:=iq pr.lex s) (n:=S.length) (l:=os)
     have hkd:=uH (iq pr.lex s)
     have hn0:(iq pr.lex s).name.size≤vN:=hsw.name
     have hst:du (iq pr.lex s).set:=hsw.set
     have hsp:(iq pr.lex s).sep.size≤32:=(G.k _ hKm).2
     unfold ku at hkk hkd
     by_cases hm:iq pr.lex s∈os
     ·rw[if_pos hm] at hkg
      rw[yF hL hm] at hsucc
      generalize iq pr.lex s=K at hkg hkd hn0 hst hsp ⊢
      refine aB ?_
      refine aL 10 mixed kr ?_
      refine Ba hx hob hlm hkg hkk hkd ?_
      refine ae rfl ?_
      refine aG v2 ?_
      refine⟨hjl,(hc,vn,vo,nm),aO,rfl,?_⟩
      simp only
      rw[hsucc]
      exact J
     ·rw[if_neg hm] at hkg
      rw[xN hL hm] at hsucc
      have hkput:=FC (n:=S.length) hm
      generalize iq pr.lex s=K at hkg hkd hn0 hst hsp hsucc hkput hm ⊢
      have hln:=En (h:=hc) hst hn0 hsp
      unfold FW at hln
      obtain⟨_,_,hcall7,⟨b,hbs,rfl⟩,e7⟩:=hln
      obtain rfl:=e7.symm
      obtain⟨B,hB⟩:∃ B:ByteArray,B=b++ByteArray.mk #[43]:=⟨_,rfl⟩
      rw[← hB] at hcall7
      have hln:FW env 94 [K.val] hc fun r h'=>r = .string B∧h'=hc:=by unfold FW;exact⟨_,_,hcall7,rfl,rfl⟩
      have hput:=pD (s:=B) N P (by rw[List.length_append];omega)
      have hlk:(S++nm).length=S.length+os.length:=by rw[List.length_append];omega
      rw[hlk] at hput
      unfold FW at hput
      obtain⟨_,h2,hcall,rfl,vn2,N2⟩:=hput
      have N3:=N2.SS P (vQ S.length (os++[K]))
      have hx2:=N2.x1 P
      have hob2:=N2.o
      have hlm2:=N2.lm
      simp only[MK.cells] at hob2
      simp only at hlm2 N3
      have hcs:K.cells=K.cells:=rfl
      refine aB ?_
      refine aL 10 mixed kr ?_
      refine Ba hx hob hlm hkg hkk hkd ?_
      refine af rfl ?_
      refine aA [(1,.val (.pointer (some ⟨i1,0,some 0⟩))),(2,.val (mD i1)),(6,.box [.bool pr.lex,.string pr.sort,.string pr.cons,.bool pr.bracket,.slice (some ⟨id2,0,some ver2⟩) pr.al.length cs]),(9,.box [.bool K.lex,.string K.name,u64 K.set.a,u64 K.set.b,u64 K.set.c,u64 K.set.d,.string K.sep]),(38,.val (.slice (some ⟨id,0,some au⟩) d.aa.length cP)),(39,.val (i64 d.aa.length)),(40,.val (i64 k)),(45,.val (.slice (some ⟨id2,0,some ver2⟩) pr.al.length cs)),(46,.val (i64 pr.al.length)),(47,.val (i64 j))] aO ?_
      show CW _ _ ⟨_,[],hc⟩ _
      try apply zs
      apply bi (L:=[[],[0],[0,1],[0,1,2],[],[],[],[6],[5,6,7],[0,1,2,3,4,5,6,7,8]]) (act:=[8,9]) (hs:=[h2,h2.set m.il (.map (iE (kE (vQ S.length os)) K.val (i64 ((S.length+os.length:Nat):Int))))]) (resL:=[_,_,_,_,_,_,_,_,_,_]) (frF:=[(1,.val (.pointer (some ⟨i1,0,some 0⟩))),(2,.val (mD i1)),(6,.box [.bool pr.lex,.string pr.sort,.string pr.cons,.bool pr.bracket,.slice (some ⟨id2,0,some ver2⟩) pr.al.length cs]),(9,.box [.bool K.lex,.string K.name,u64 K.set.a,u64 K.set.b,u64 K.set.c,u64 K.set.d,.string K.sep]),(38,.val (.slice (some ⟨id,0,some au⟩) d.aa.length cP)),(39,.val (i64 d.aa.length)),(40,.val (i64 k)),(45,.val (.slice (some ⟨id2,0,some ver2⟩) pr.al.length cs)),(46,.val (i64 pr.al.length)),(47,.val (i64 j))])
      case hm=>exact mixed
      case hc=>kernel_rfl
      case ha=>rfl
      case hb=>rfl
      case hS=>
       refine tT hx hx2 hob hob2 ?_
       apply az.cons
       ·rfl
       ·refine⟨?_,trivial⟩
        exact bg (fn:=Tryz.f94) (args:=[K.val]) (cap:=[]) rfl ak rfl ak ak Tryz.func94 kr kr hln
       ·rfl
       refine tT hx hx2 hob hob2 ?_
       apply az.cons
       ·rfl
       ·refine⟨?_,trivial⟩
        exact dA (args:=[.string B]) (cap:=[.pointer (some ⟨i1,0,some 0⟩)]) (fn:=Tryz.f90) ak rfl ak ak Tryz.func90 kr kr hcall
       ·rfl
       refine tT hx hx2 hob hob2 ?_
       apply az.cons
       ·rfl
       ·refine⟨?_,trivial⟩
        exact One.zR (r:=.sl .dy) (kt:=154) (et:=3) (kd:=xX ku) ak rfl kr rfl ak hlm2 ak ak rfl hkk0 rfl
       ·rfl
       exact az.nil _
      case ht=>rfl
      case hF=>exact zh
      rw[hkput]
      show CW _ _ ⟨_,[],h2.set m.il (.map (kE (vQ S.length (os++[K]))))⟩ _
      have P3:NP h0 hb im i1 m.is m.il:=P
      have hx3:=N3.x1 P
      have hob3:=N3.o
      obtain⟨p4,c4,h4,hone,hob4,hx4,N5⟩:=NS.ord N3 P K om
      simp only at hone hob3 hob4 N5
      generalize h2.set m.il (.map (kE (vQ S.length (os++[K]))))=h3 at N3 hx3 hob3 hone ⊢
      have hvo:=N3.od.form
      simp only at hvo
      obtain⟨qv,cv,rfl⟩:=hvo
      simp only[MK.cells] at hob3
      have hob4':=hob4
      simp only[MK.cells] at hob4'
      try apply zs
      apply bi (L:=[[],[],[1],[1,2],[1,2,3],[],[5],[1,2,3,4,5,6],[0],[0,8],[0,1,2,3,4,5,6,7,8,9]]) (act:=[7,10]) (hs:=[h4,h4.set im (.aj (MK.cells { m with vn:=vn2,vo:=.slice p4 (os.length+1) c4 }) 0 true 94)]) (resL:=[_,_,_,_,_,_,_,_,_,_,_]) (frF:=[(1,.val (.pointer (some ⟨i1,0,some 0⟩))),(2,.val (mD i1)),(6,.box [.bool pr.lex,.string pr.sort,.string pr.cons,.bool pr.bracket,.slice (some ⟨id2,0,some ver2⟩) pr.al.length cs]),(38,.val (.slice (some ⟨id,0,some au⟩) d.aa.length cP)),(39,.val (i64 d.aa.length)),(40,.val (i64 k)),(45,.val (.slice (some ⟨id2,0,some ver2⟩) pr.al.length cs)),(46,.val (i64 pr.al.length)),(47,.val (i64 j))])
      case hm=>exact mixed
      case hc=>kernel_rfl
      case ha=>rfl
      case hb=>rfl
      case hS=>
       refine tT hx3 hx4 hob3 hob4' ?_
       apply az.cons
       ·rfl
       ·refine⟨?_,trivial⟩
        exact hone _ _ _ _ _ rfl ak rfl ak ak
       ·rfl
       refine tT hx3 hx4 hob3 hob4' ?_
       apply az.cons
       ·rfl
       ·refine⟨?_,trivial⟩
        exact One.jn (r:=.sl .dy) (cells':=MK.cells { m with vn:=vn2,vo:=.slice p4 (os.length+1) c4 }) ak rfl ak ak hob4' ak rfl rfl rfl
       ·rfl
       exact az.nil _
      case ht=>rfl
      case hF=>exact zh
      show CW _ _ ⟨_,[],h4.set im (.aj (MK.cells { m with vn:=vn2,vo:=.slice p4 (os.length+1) c4 }) 0 true 94)⟩ _
      generalize h4.set im (.aj (MK.cells { m with vn:=vn2,vo:=.slice p4 (os.length+1) c4 }) 0 true 94)=h5 at N5 ⊢
      refine aG v2 ?_
      refine⟨hjl,(h5,vn2,.slice p4 (os.length+1) c4,nm++[B]),aO,rfl,?_⟩
      simp only
      rw[hsucc]
      refine⟨?_,?_,fun x hx=>?_⟩
      ·simp only
       rw[← List.append_assoc]
       exact N5
      ·simp only[List.length_append,List.length_singleton]
       omega
      ·rcases List.mem_append.1 hx with hx|hx
       ·exact J.e x hx
       ·rw[List.mem_singleton.1 hx]
        exact⟨b,hB⟩
  ·have v3:=aT hjl
   obtain rfl:j=pr.al.length:=by omega
   simp only
   rw[List.take_length,← htk] at J
   refine aG v3 ?_
   refine ae rfl ?_
   refine aC ?_
   show CW _ _ _ _
   refine aG w2 ?_
   refine⟨hlt,(hc,vn,vo,nm),aO,rfl,J⟩
 ·have q3:=aT hlt
  obtain rfl:k=d.aa.length:=by omega
  rw[List.take_length] at J
  refine aG q3 ?_
  refine ae rfl ?_
  refine aC ?_
  exact⟨rfl,x,J,rfl,aO⟩
rintro e s' ⟨rfl,⟨h2,vn2,vo2,nm⟩,J,hh,hf⟩
show CW _ _ _ _
refine aA _ hf ?_
rw[hh]
clear hf hh s'
have N:=J.n
have hnl:=J.l
have hne:=J.e
simp only at N hnl hne ⊢
clear J
have hnK:nm.length=nK d:=hnl
have hK3:=G.kn
have hSl:S.length=nS d:=by rw[hS];rfl
have hxz:=N.x1 P
have hobz:=N.o
obtain⟨qv,cv,hvo2⟩:=N.od.form
simp only at hvo2
subst hvo2
obtain⟨qn,cn,hvn2⟩:=N.n.form
simp only at hvn2
subst hvn2
have N1:=N.uz P (m':={ m with vn:=.slice qn (S++nm).length cn,vo:=.slice qv (bj d.aa).length cv,lL:=-1 }) rfl rfl rfl rfl
simp only[MK.cells] at hobz
refine zu ?_
iterate 3 (refine zx (T1 hxz hobz) ?_)
refine ch (v:=i64 (-1)) (vs:=[i64 (-1)]) (cells':=MK.cells { m with vn:=.slice qn (S++nm).length cn,vo:=.slice qv (bj d.aa).length cv,lL:=-1 }) ak rfl rfl rfl ak hobz ak rfl rfl ?_
dsimp only
generalize (h2.set im (av.aj (MK.cells { m with vn:=.slice qn (S++nm).length cn,vo:=.slice qv (bj d.aa).length cv,lL:=-1 }) 0 true 94))=h3 at N1 ⊢
have hx3:=N1.x1 P
have hob3:=N1.o
have hll:(S++nm).length=nS d+nK d:=by rw[List.length_append,hSl,hnK]
have hkk:nK d≤3000:=hK3
have hss:nS d≤200:=by omega
generalize hL:S++nm=L at N1 hob3 hll
simp only[MK.cells] at hob3
have hdl:decide (m.layout=⟨#[]⟩)=cN d.layout:=by rw[hs2];rfl
obtain⟨GL,hGL⟩:∃ GL:List ByteArray,GL=if cN d.layout=true then [] else [ByteArray.mk #[103,97,112]]:=⟨_,rfl⟩
have hgl:GL.length=if cN d.layout=true then 0 else 1:=by rw[hGL];split<;>rfl
apply zn
show CW _ _ ⟨_,[],h3⟩ _
try apply zs
refine ir hx3 hob3 hdl ?_
refine CW.mono (Q:=fun e s'=>e = .normal∧∃ x:ah×Value,NS h0 hb x.1 im { m with vn:=x.2,vo:=.slice qv (bj d.aa).length cv,lL:=bP d } (L++GL) (uR S) (vQ S.length (bj d.aa)) (bj d.aa)∧s'.h=x.1∧bB [(1,.val (.pointer (some ⟨i1,0,some 0⟩))),(2,.val (mD i1))] s'.fr) ?_ ?_
·cases hem:cN d.layout with
 | true=>
   have hg:bP d = -1:=by unfold bP;rw[if_pos hem]
   rw[if_pos hem] at hGL
   refine ae rfl ?_
   refine aB ?_
   refine⟨rfl,(h3,.slice qn L.length cn),?_,rfl,aO⟩
   simp only
   rw[hg,hGL,List.append_nil]
   exact N1
 | false=>
   have hg:bP d=((nS d+nK d:Nat):Int):=by unfold bP;rw[if_neg (by rw[hem];decide)]
   rw[if_neg (by rw[hem];decide)] at hGL
   refine af rfl ?_
   have hput:=pD (s:=⟨#[103,97,112]⟩) N1 P om
   rw[hll] at hput
   unfold FW at hput
   obtain⟨_,h4,hcall,rfl,vn4,N4⟩:=hput
   simp only at N4
   have hx4:=N4.x1 P
   have hob4:=N4.o
   have hob4':=hob4
   simp only[MK.cells] at hob4'
   have N5:=N4.uz P (m':={ m with vn:=vn4,vo:=.slice qv (bj d.aa).length cv,lL:=((nS d+nK d:Nat):Int) }) rfl rfl rfl rfl
   refine aA [(1,.val (.pointer (some ⟨i1,0,some 0⟩))),(2,.val (mD i1))] aO ?_
   show CW _ _ ⟨_,[],h3⟩ _
   try apply zs
   apply bi (L:=[[],[],[1],[0],[0,3],[0,1,2,3,4]]) (act:=[2,5]) (hs:=[h4,h4.set im (.aj (MK.cells { m with vn:=vn4,vo:=.slice qv (bj d.aa).length cv,lL:=((nS d+nK d:Nat):Int) }) 0 true 94)]) (resL:=[_,_,_,_,_,_]) (frF:=[(1,.val (.pointer (some ⟨i1,0,some 0⟩))),(2,.val (mD i1))])
   case hm=>exact mixed
   case hc=>kernel_rfl
   case ha=>rfl
   case hb=>rfl
   case hS=>
    refine tT hx3 hx4 hob3 hob4' ?_
    apply az.cons
    ·rfl
    ·refine⟨?_,trivial⟩
     exact dA (args:=[.string ⟨#[103,97,112]⟩]) (cap:=[.pointer (some ⟨i1,0,some 0⟩)]) (fn:=Tryz.f90) ak rfl ak ak Tryz.func90 kr kr hcall
    ·rfl
    refine tT hx3 hx4 hob3 hob4' ?_
    apply az.cons
    ·rfl
    ·refine⟨?_,trivial⟩
     exact One.jn (r:=.sl .dy) (cells':=MK.cells { m with vn:=vn4,vo:=.slice qv (bj d.aa).length cv,lL:=((nS d+nK d:Nat):Int) }) ak rfl ak ak hob4' ak rfl rfl rfl
    ·rfl
    exact az.nil _
   case ht=>rfl
   case hF=>exact zh
   refine⟨rfl,(_,vn4),?_,rfl,aO⟩
   simp only
   rw[hg,hGL]
   exact N5
rintro e s' ⟨rfl,⟨h4,vn4⟩,N4,hh,hf⟩
show CW _ _ _ _
refine aA _ hf ?_
rw[hh]
clear hf hh s'
simp only at N4 ⊢
have hll4:(L++GL).length=dU d:=by
 rw[List.length_append,hll,hgl]
 rfl
have htop:dU d≤10000:=by unfold dU;split<;>omega
generalize hL4:L++GL=L4 at N4 hll4
have hput:=pD (s:=⟨#[116,111,112]⟩) N4 P om
rw[hll4] at hput
unfold FW at hput
obtain⟨_,h5,hcall,rfl,vn5,N5⟩:=hput
simp only at N5
have hx4:=N4.x1 P
have hob4:=N4.o
have hx5:=N5.x1 P
have hob5:=N5.o
obtain⟨qm,cm,hvn4⟩:=N4.n.form
simp only at hvn4
subst hvn4
obtain⟨qp,cp,hvn5⟩:=N5.n.form
simp only at hvn5
subst hvn5
simp only[MK.cells] at hob4 hob5
have N6:=N5.uz P (m':={ m with vn:=.slice qp (L4++[ByteArray.mk #[116,111,112]]).length cp,vo:=.slice qv (bj d.aa).length cv,lL:=bP d,st:=(dU d:Int) }) rfl rfl rfl rfl
try apply zs
apply bi (L:=[[],[],[1],[0],[0,3],[0,3,4],[0,3,4,5],[0,1,2,3,4,5,6]]) (act:=[2,7]) (hs:=[h5,h5.set im (.aj (MK.cells { m with vn:=.slice qp (L4++[ByteArray.mk #[116,111,112]]).length cp,vo:=.slice qv (bj d.aa).length cv,lL:=bP d,st:=(dU d:Int) }) 0 true 94)]) (resL:=[_,_,_,_,_,_,_,_]) (frF:=[(1,.val (.pointer (some ⟨i1,0,some 0⟩))),(2,.val (mD i1))])
case hm=>exact mixed
case hc=>kernel_rfl
case ha=>rfl
case hb=>rfl
case hS=>
 refine tT hx4 hx5 hob4 hob5 ?_
 apply az.cons
 ·rfl
 ·refine⟨?_,trivial⟩
  exact dA (args:=[.string ⟨#[116,111,112]⟩]) (cap:=[.pointer (some ⟨i1,0,some 0⟩)]) (fn:=Tryz.f90) ak rfl ak ak Tryz.func90 kr kr hcall
 ·rfl
 refine tT hx4 hx5 hob4 hob5 ?_
 apply az.cons
 ·rfl
 ·refine⟨?_,trivial⟩
  exact One.jn (r:=.sl .dy) (cells':=MK.cells { m with vn:=.slice qp (L4++[ByteArray.mk #[116,111,112]]).length cp,vo:=.slice qv (bj d.aa).length cv,lL:=bP d,st:=(dU d:Int) }) ak rfl ak ak hob5 ak rfl rfl rfl
 ·rfl
 exact az.nil _
case ht=>rfl
case hF=>exact zh
show CW _ _ ⟨_,[],h5.set im (.aj (MK.cells { m with vn:=.slice qp (L4++[ByteArray.mk #[116,111,112]]).length cp,vo:=.slice qv (bj d.aa).length cv,lL:=bP d,st:=(dU d:Int) }) 0 true 94)⟩ _
generalize h5.set im (.aj (MK.cells { m with vn:=.slice qp (L4++[ByteArray.mk #[116,111,112]]).length cp,vo:=.slice qv (bj d.aa).length cv,lL:=bP d,st:=(dU d:Int) }) 0 true 94)=h6 at N6 ⊢
have hx6:=N6.x1 P
have hob6:=N6.o
have hl6:(L4++[ByteArray.mk #[116,111,112]]).length=aW d:=by rw[List.length_append,hll4];rfl
rw[hl6] at N6 hob6
have N7:=N6.uz P (m':={ m with vn:=.slice qp (aW d) cp,vo:=.slice qv (bj d.aa).length cv,lL:=bP d,st:=(dU d:Int),fk:=(aW d:Int) }) rfl rfl rfl rfl
simp only[MK.cells] at hob6
try apply zs
apply bi (L:=[[],[],[1],[1,2],[1,2,3],[1,2,3,4],[1,2,3,4,5],[0],[0,7],[0,7,8],[0,7,8,9],[0,1,2,3,4,5,6,7,8,9,10]]) (act:=[11]) (hs:=[h6.set im (.aj (MK.cells { m with vn:=.slice qp (aW d) cp,vo:=.slice qv (bj d.aa).length cv,lL:=bP d,st:=(dU d:Int),fk:=(aW d:Int) }) 0 true 94)]) (resL:=[_,_,_,_,_,_,_,_,_,_,_,_]) (frF:=[])
case hm=>exact mixed
case hc=>kernel_rfl
case ha=>rfl
case hb=>rfl
case hS=>
 refine FO hx6 hob6 ?_
 apply az.cons
 ·rfl
 ·refine⟨?_,trivial⟩
  exact One.jn (r:=.sl .dy) (cells':=MK.cells { m with vn:=.slice qp (aW d) cp,vo:=.slice qv (bj d.aa).length cv,lL:=bP d,st:=(dU d:Int),fk:=(aW d:Int) }) ak rfl ak ak hob6 ak rfl rfl rfl
 ·rfl
 exact az.nil _
case ht=>rfl
case hF=>exact zh
refine⟨_,ak,rfl,.slice qp (aW d) cp,.slice qv (bj d.aa).length cv,nm,hb,⟨?_,hpA.trans hpB,hnK,hne⟩⟩
rw[← hS,hL,← hGL,hL4]
exact N7}
end
def oS (a b:ah):Prop:=∀ (j:Nat) (cs:List Value) (v:Nat) (w:Bool) (t:TypeId),a[j]? = some (.aj cs v w t)→b[j]? = some (.aj cs v w t)
section
variable {a b c h0 hk h1 x:ah}
theorem oS.refl:oS a a:=fun _ _ _ _ _ k=>k
theorem oS.trans (k1:oS a b) (k2:oS b c):oS a c:=fun j cs v w t e=>k2 j cs v w t (k1 j cs v w t e)
theorem oS.pre (k:a <+: b):oS a b:=fun j cs v w t e=>ag k e
theorem oS.uz {it:Nat} {es:List (Value×Value)} {X:av} (k:oS a b) (hm:b[it]? = some (.map es)):oS a (b.set it X):=fun j cs v w t e=>by
 have e1:=k j cs v w t e
 by_cases h:it=j
 ·subst h
  rw[hm] at e1
  cases e1
 ·rw[aD h]
  exact e1
theorem zA {it:Nat} {es:List (Value×Value)} {X:av} (hm:hk[it]? = some (.map es)) (hp:hk.set it X <+: x):oS hk x:=(oS.refl.uz hm).trans (.pre hp)
theorem bW.x0 {v:Value} {n w:Nat} {cells:List Value} {et:TypeId} (hs:bW a v n cells et w) (k:oS a b):bW b v n cells et w:=by{
refine⟨hs.1,?_⟩
rcases hs.2 with h1|⟨id,au,own,c,e,h2⟩
·exact .inl h1
·exact .inr ⟨id,au,own,c,e,k _ _ _ _ _ h2⟩}
theorem fm.x0 {v:Value} {l:List gD} (hr:fm a v l) (k:oS a b):fm b v l:=by
 obtain⟨us,hl,hs,hu⟩:=hr
 exact⟨us,hl,hs.x0 k,fun i r u h1 h2=>(hu i r u h1 h2).x0 k⟩
theorem bh.x0 {v:Value} {l:List ByteArray} (hr:bh a v l) (k:oS a b):bh b v l:=bW.x0 hr k
theorem aK.x0 {v:Value} {n:Nat} {cells:List Value} {et:TypeId} (G:aK h0 a v n cells et) (k:oS a b):aK h0 b v n cells et:=by{
rcases G with G|⟨id,au,h1,h2,h3⟩
·exact .inl G
·exact .inr ⟨id,au,h1,h2,k _ _ _ _ _ h3⟩}
theorem oT {n:Nat}:cV n (.tuple #[]):=.Ct fun i v h=>by simp at h
theorem EG {f:FuncId} {args:List Value} {h:ah} {i:Nat} {es:List (Value×Value)} (hi:i<h.length) (hs:∀ p∈es,cV h.length p.2) (hh:FW env f args h fun r h'=>r = .tuple #[]∧h.set i (.map es) <+: h'):FW env f args h fun r h'=>r = .tuple #[]∧h'=h.set i (.map es):=by{
refine FW.Mn (hh.mono ?_)
rintro r h' ⟨rfl,g,rfl⟩
refine⟨h.set i (.map es),g,rfl,oT,by rw[List.length_set];exact Nat.le_refl _,fun j o hj=>?_,rfl,rfl⟩
by_cases e:i=j
·subst e
 rw[List.getElem?_set_self hi] at hj
 cases hj
 refine .inr fun p hp=>?_
 rw[List.length_set]
 exact hs p hp
·rw[List.getElem?_set_ne e] at hj
 exact .inl hj}
theorem It {n:Nat} {es:List (aQ×Int)}:∀ p∈bE es,cV n p.2:=by{
intro p hp
unfold bE at hp
rw[List.mem_map] at hp
obtain⟨q,_,rfl⟩:=hp
exact .be rfl}
theorem oy (k:Value):∀ es,gj es k=(kj es k).map (·.2)
 | []=>rfl
 | (a,u) :: r=>by
   unfold gj kj
   split
   ·rfl
   ·rw[oy k r,Option.map_map]
    rfl
theorem wB (k v:Value) (hk:oU k k=true):∀ es,kj es k=none→gj (es++[(k,v)]) k=some v
 | [],_=>by unfold gj;simp [hk]
 | (a,u) :: r,h=>by
   unfold kj at h
   by_cases q:oU k a=true
   ·rw[if_pos q] at h
    cases h
   ·rw[if_neg q] at h
    rw[List.cons_append]
    unfold gj
    rw[if_neg q]
    exact wB k v hk r (by simpa using h)
theorem Ih (x:aQ) (l:List (aQ×Int)):∃ (n:Int) (j:Nat) (es':List (Value×Value)) (u:Value),ot (bE l) x.val (i64 0)=(i64 n,j,es')∧es'[j]? = some (x.val,u)∧es'.set j (x.val,i64 (IntKind.i64.wrap (n+1)))=bE (ph l x)∧(gj (bE l) x.val=some (i64 n)∨(gj (bE l) x.val=none∧n=0))∧gj es' x.val=some (i64 n)∧ei (xX kQ) es'=true:=by{
rcases Aj x l with ⟨n,j,h1,h2,h3⟩ | ⟨h1,h2⟩
·have e:gj (bE l) x.val=some (i64 n):=by rw[oy,h1];rfl
 exact⟨n,j,bE l,i64 n,by unfold ot;rw[h1],h2,h3,.inl e,e,uL l⟩
·refine⟨0,(bE l).length,bE l++[(x.val,i64 0)],i64 0,by unfold ot;rw[h1],by simp,by rw[h2];simp,.inr ⟨by rw[oy,h1];rfl,rfl⟩,?_⟩
 refine⟨wB _ _ (by rw[Ad];exact decide_eq_true rfl) _ h1,?_⟩
 have:=uL l
 unfold ei at this ⊢
 rw[List.all_append,this]
 rfl}
end
section
variable {h:ah}
theorem Cj {a b:CE} {at_ last:Nat}:FW env 143 [a.place,b.place,i64 at_,i64 last] h fun r h'=>r = .bool (barredB a b at_ last)∧h'=h:=by{
refine fe Tryz.func143 ?_;simp only[push_cast]
by_cases q:a.zp=b.zp
·have d1:decide ((a.zp:Int)=(b.zp:Int))=true:=decide_eq_true om
 refine aG d1 ?_
 refine ae rfl ?_
 refine aB ?_
 refine ai ?_
 refine⟨_,ak,?_,rfl⟩
 unfold barredB
 rw[if_pos q]
 have e1:decide ((at_:Int)=(last:Int))=decide (at_=last):=decide_eq_decide.2 om
 have e2:decide ((at_:Int)=0)=decide (at_=0):=decide_eq_decide.2 om
 rw[← e1,← e2]
 cases decide (a.assoc=1)<;>cases decide (a.assoc=3)<;>cases decide (a.assoc=2)<;>cases decide ((at_:Int)=(last:Int))<;>cases decide ((at_:Int)=0)<;>rfl
·have d1:decide ((a.zp:Int)=(b.zp:Int))=false:=decide_eq_false om
 refine aG d1 ?_
 refine af rfl ?_
 refine aB ?_
 refine ai ?_
 refine⟨_,ak,?_,rfl⟩
 unfold barredB
 rw[if_neg q]
 have e1:decide ((a.zp:Int)<(b.zp:Int))=decide (a.zp<b.zp):=decide_eq_decide.2 om
 rw[← e1]
 rfl}
end
structure KD (h0 hk:ah) (im:Nat) (m:MK) (d:b7) (os:List gD) (nm:List ByteArray):Prop where
 p:h0 <+: hk
 a:h0.length≤im
 o:hk[im]? = some (.aj m.cells 0 true 94)
 D:bK h0 d m.vP m.vC m.Mm m.Ml m.vB
 s1:m.start=d.start
 s2:m.layout=d.layout
 f:fm hk m.vf os
 n:bh hk m.vn nm
 vr:∃ p n c,m.vr = .slice p n c
 vb:∃ p n c,m.vb = .slice p n c
 vF:∃ p n c,m.vF = .slice p n c
 vR:∃ p n c,m.vR = .slice p n c
section
variable {h0 hk h1 x:ah} {im it:Nat} {m:MK} {d:b7} {os:List gD} {nm:List ByteArray} {es:List (aQ×Int)}
theorem KD.x0 (K:KD h0 hk im m d os nm) (hp:h0 <+: x) (k:oS hk x):KD h0 x im m d os nm:=
 ⟨hp,K.a,k _ _ _ _ _ K.o,K.D,K.s1,K.s2,K.f.x0 k,K.n.x0 k,K.vr,K.vb,K.vF,K.vR⟩
theorem KD.Ji (K:KD h0 hk im m d os nm):lA hk (.agg #[.string m.start,.string m.layout,m.vP,m.vC,m.Mm,m.Ml,m.vB,i64 m.fk,i64 m.st,m.vr,m.vf,m.vn,m.vb,m.vF,m.vR]) os nm:=by{
obtain⟨p1,c1,e1⟩:=cT.form K.D.aa
obtain⟨p2,c2,e2⟩:=cT.form K.D.ax
obtain⟨p3,c3,e3⟩:=bW.form K.D.follows
obtain⟨p4,c4,e4⟩:=bW.form K.D.an
obtain⟨p5,c5,e5⟩:=cT.form K.D.boxes
obtain⟨p6,n6,c6,e6⟩:=K.vr
obtain⟨p7,n7,c7,e7⟩:=K.vb
obtain⟨p8,n8,c8,e8⟩:=K.vF
obtain⟨p9,n9,c9,e9⟩:=K.vR
exact⟨m.start,m.layout,p1,p2,p3,p4,p5,p6,p7,p8,p9,_,_,_,_,_,n6,n7,n8,n9,c1,c2,c3,c4,c5,c6,c7,c8,c9,m.fk,m.st,m.vf,m.vn,by rw[e1,e2,e3,e4,e5,e6,e7,e8,e9],K.f,K.n⟩}
structure BI (hk h1:ah) (it:Nat) (es:List (aQ×Int)) (x:ah) (L:List aQ):Prop where
 p:hk.set it (.map (bE (eF es L))) <+: x
 k:oS h1 x
theorem BI.at {L:List aQ} (B:BI hk h1 it es x L) (hi:it<hk.length):x[it]? = some (.map (bE (eF es L))):=ag B.p (List.getElem?_set_self hi)
theorem BI.pre {y:ah} {L:List aQ} (B:BI hk h1 it es x L) (hp:x <+: y):BI hk h1 it es y L:=⟨B.p.trans hp,B.k.trans (.pre hp)⟩
theorem BI.add {L:List aQ} (B:BI hk h1 it es x L) (hi:it<hk.length) (b:aQ):BI hk h1 it es (x.set it (.map (bE (ph (eF es L) b)))) (L++[b]):=by{
refine⟨?_,B.k.uz (B.at hi)⟩
rw[nQ]
exact kP B.p hi}
theorem BI.kd {L:List aQ} (B:BI hk h1 it es x L) (K:KD h0 hk im m d os nm) (hm:hk[it]? = some (.map (bE es))) (hl:h0.length≤it):KD h0 x im m d os nm:=
 K.x0 ((aY K.p hl).trans B.p) (zA hm B.p)
theorem rB {p:Nat}:(el os p).length≤os.length:=by
 unfold el
 exact Nat.le_trans (List.length_filter_le _ _) (by simp)
theorem lp {p r:Nat} (h:r∈el os p):r<os.length:=by{
unfold el at h
have:=List.mem_range.1 (List.mem_filter.1 h).1
exact this}
theorem sk {p k:Nat} (hk:k<(el os p).length):((dF os (p:Int) os.length).map i64)[k]? = some (i64 ((el os p)[k]:Int)):=by
 rw[xK,List.getElem?_map,List.getElem?_map,List.getElem?_eq_getElem hk]
 rfl
theorem oY {p:Nat}:(dF os (p:Int) os.length).length=(el os p).length:=by rw[xK,List.length_map]
theorem LO (K:KD h0 hk im m d os nm) (hm:hk[it]? = some (.map (bE es))) (hl:h0.length≤it) (p at_ q:Nat) (hos:os.length≤4096) : FW env 144 [.pointer (some ⟨im,0,some 0⟩),i64 p,i64 at_,i64 q,.map (some it)] hk fun r h'=>r = .tuple #[]∧h'=hk.set it (.map (bE (eF es (sK os p at_ q)))):=by{
have hi:it<hk.length:=(List.getElem?_eq_some_iff.1 hm).1
refine EG hi It ?_
have hob:=K.o
have hR:=s8 (p:=(p:Int)) K.Ji hos
rw[oY] at hR
obtain⟨pf,cf,hvf⟩:=K.f.form
simp only[MK.cells] at hob
refine fe Tryz.func144 ?_;simp only[push_cast]
refine aG hob ?_
refine zj Tryz.func22 ?_
refine hR.mono ?_
rintro _ h1 ⟨hp1,G1⟩
obtain⟨q1,c1,rfl⟩:=G1.form
have hRl:=rB (os:=os) (p:=p)
have B0:BI hk h1 it es h1 []:=by
 refine⟨?_,oS.refl⟩
 have:hk.set it (.map (bE (eF es [])))=hk:=by
  refine List.ext_getElem? fun j=>?_
  by_cases e:it=j
  ·subst e;rw[List.getElem?_set_self hi,hm];rfl
  ·rw[List.getElem?_set_ne e]
 rw[this]
 exact hp1
obtain⟨R,hRR⟩:∃ R,R=el os p:=⟨_,rfl⟩
have hRg:∀ {k:Nat} (hk:k<R.length),((dF os (p:Int) os.length).map i64)[k]? = some (i64 (R[k]:Int)):=by subst hRR;exact sk
have hRm:∀ r∈R,r<os.length:=by subst hRR;exact fun r hr=>lp hr
unfold sK
rw[← hRR] at G1 hRl ⊢
clear hR hRR
refine aB ?_
refine CW.mono (Q:=fun e s'=>e = .exit 0∧BI hk h1 it es s'.h (R.flatMap (nZ os at_ q))) ?_ ?_
·refine a9 R.length (fun k (x:ah)=>[(0,.val (.pointer (some ⟨im,0,some 0⟩))),(2,.val (i64 at_)),(3,.val (i64 q)),(4,.val (.map (some it))),(21,.val (.slice q1 R.length c1)),(22,.val (i64 R.length)),(23,.val (i64 k))]) (fun _ x=>x) (fun k x=>BI hk h1 it es x ((R.take k).flatMap (nZ os at_ q))) h1 aO rfl B0 ?_
 rintro k x hkn B
 by_cases hlt:k<R.length
 ·have GK:=G1.x0 B.k
  obtain⟨id,au,own,c',hv,hid⟩:=(GK.sl (b:=8) om).at om
  cases hv
  have hrg:=hRg hlt
  have hrm:=hRm _ (List.getElem_mem hlt)
  have KX:=B.kd K hm hl
  have hobx:=KX.o
  have hfx:=K.f
  rw[hvf] at hfx
  obtain⟨id2,ver2,own2,c2,cells,ps,ns,cs,hv2,hid2,hn2,hrd,hu⟩:=hfx.at hrm
  cases hv2
  have hid2:=zA hm B.p _ _ _ _ _ hid2
  have hr3:=g7 (j:=3) hrd om
  simp only[List.getElem?_cons_succ,List.getElem?_cons_zero] at hr3
  have htk:(R.take (k+1)).flatMap (nZ os at_ q)=(R.take k).flatMap (nZ os at_ q)++nZ os at_ q R[k]:=by
   rw[List.take_succ_eq_append_getElem hlt,List.flatMap_append,List.flatMap_singleton]
  have hbr:nZ os at_ q R[k]=(List.range os[R[k]].al.length).flatMap (pz os R[k] os[R[k]] at_ q):=by
   unfold nZ
   rw[List.getElem?_eq_getElem hrm]
  have w1:=cH hlt
  have w2:=inc hlt om
  have w3:=cH hrm
  have q3:=aV hlt
  have hnn:=hn2
  generalize hr:R[k]=r at *
  have hul:=hu.1
  refine aG q3 ?_
  refine af rfl ?_
  refine M9 w1 hid Nat.mul_one hrg hobx hvf w3 hid2 hr3 ?_
  subst hn2
  refine a9 os[r].al.length (fun j (y:ah)=>[(0,.val (.pointer (some ⟨im,0,some 0⟩))),(2,.val (i64 at_)),(3,.val (i64 q)),(4,.val (.map (some it))),(11,.val (i64 r)),(21,.val (.slice (some ⟨id,0,some au⟩) R.length c1)),(22,.val (i64 R.length)),(23,.val (i64 k)),(35,.val (.slice ps os[r].al.length cs)),(36,.val (i64 os[r].al.length)),(37,.val (i64 j))]) (fun _ y=>y) (fun j y=>BI hk h1 it es y ((R.take k).flatMap (nZ os at_ q)++(List.range j).flatMap (pz os r os[r] at_ q))) x aO rfl (by rw[List.range_zero,List.flatMap_nil,List.append_nil];exact B) ?_
  clear hid hobx hid2 hfx KX GK
  rintro j y hjn C
  by_cases hjl:j<os[r].al.length
  ·have hrs:(List.range (j+1)).flatMap (pz os r os[r] at_ q)=(List.range j).flatMap (pz os r os[r] at_ q)++pz os r os[r] at_ q j:=by
    rw[List.range_succ,List.flatMap_append,List.flatMap_singleton]
   obtain⟨id3,ver3,own3,c3,hv3,hid3⟩:=bW.at (bW.x0 hu (zA hm C.p)) om
   cases hv3
   have hsg:(os[r].al.map i64)[j]? = some (i64 os[r].al[j]):=by rw[List.getElem?_map,List.getElem?_eq_getElem hjl];rfl
   have v1:=cH hjl
   have v2:=inc hjl om
   have v3:=aV hjl
   have hbp:pz os r os[r] at_ q j=if os[r].al[j]=(at_:Int) then (el os q).map fun kid=>⟨r,j,kid⟩ else []:=by
    unfold pz
    rw[List.getElem?_eq_getElem hjl]
    simp only[Option.some.injEq]
   refine aG v3 ?_
   refine af rfl ?_
   by_cases qq:os[r].al[j]=(at_:Int)
   ·have d1:=decide_eq_true qq
    rw[if_pos qq] at hbp
    have KY:=C.kd K hm hl
    have hoby:=KY.o
    have hR:=s8 (p:=(q:Int)) KY.Ji hos
    rw[oY] at hR
    simp only[MK.cells] at hoby
    refine ox v1 hid3 Nat.mul_one hsg d1 ?_
    refine ae rfl ?_
    refine aG hoby ?_
    refine zj Tryz.func22 ?_
    refine hR.mono ?_
    rintro _ y1 ⟨hpy,G2⟩
    obtain⟨q2,c2,rfl⟩:=G2.form
    have hR2l:=rB (os:=os) (p:=q)
    obtain⟨R2,hRR2⟩:∃ R2,R2=el os q:=⟨_,rfl⟩
    have hRg2:∀ {l:Nat} (hk:l<R2.length),((dF os (q:Int) os.length).map i64)[l]? = some (i64 (R2[l]:Int)):=by subst hRR2;exact sk
    rw[← hRR2] at G2 hR2l hbp ⊢
    clear hR hRR2
    have C1:=C.pre hpy
    obtain⟨LL,hLL⟩:∃ LL,LL=(R.take k).flatMap (nZ os at_ q)++(List.range j).flatMap (pz os r os[r] at_ q):=⟨_,rfl⟩
    rw[← hLL] at C1 C
    rw[hbp] at hrs
    refine aB ?_
    refine a9 R2.length (fun l (z:ah)=>[(0,.val (.pointer (some ⟨im,0,some 0⟩))),(2,.val (i64 at_)),(3,.val (i64 q)),(4,.val (.map (some it))),(11,.val (i64 r)),(12,.val (i64 j)),(21,.val (.slice (some ⟨id,0,some au⟩) R.length c1)),(22,.val (i64 R.length)),(23,.val (i64 k)),(35,.val (.slice (some ⟨id3,0,some ver3⟩) os[r].al.length cs)),(36,.val (i64 os[r].al.length)),(37,.val (i64 j)),(50,.val (.slice q2 R2.length c2)),(51,.val (i64 R2.length)),(52,.val (i64 l))]) (fun _ z=>z) (fun l z=>BI hk h1 it es z (LL++(R2.take l).map fun kid=>⟨r,j,kid⟩)∧oS y1 z) y1 aO rfl (by rw[List.take_zero,List.map_nil,List.append_nil];exact⟨C1,oS.refl⟩) ?_
    clear hid3 hoby KY C1 C
    rintro l z hln ⟨D,kz⟩
    by_cases hll:l<R2.length
    ·obtain⟨id4,ver4,own4,c4,hv4,hid4⟩:=((G2.x0 kz).sl (b:=8) om).at om
     cases hv4
     have hrg4:=hRg2 hll
     have u1:=cH hll
     have u2:=inc hll om
     have u3:=aV hll
     have htk2:(R2.take (l+1)).map (fun kid=>(⟨r,j,kid⟩:aQ))=(R2.take l).map (fun kid=>⟨r,j,kid⟩)++[⟨r,j,R2[l]⟩]:=by
      rw[List.take_succ_eq_append_getElem hll,List.map_append]
      rfl
     have Dm:=D.at hi
     have D2:=D.add hi ⟨r,j,R2[l]⟩
     have kz2:oS y1 (z.set it (.map (bE (ph (eF es (LL++(R2.take l).map fun kid=>⟨r,j,kid⟩)) ⟨r,j,R2[l]⟩)))):=kz.uz Dm
     rw[List.append_assoc,← htk2] at D2
     generalize eF es (LL++(R2.take l).map fun kid=>⟨r,j,kid⟩)=F at Dm D2 kz2
     obtain⟨n,jj,es',u,hme,hjj,hse,hg0,hg1,hk1⟩:=Ih ⟨r,j,R2[l]⟩ F
     rw[← hse] at D2 kz2
     have hk0:=uL F
     have hm1:(z.set it (.map es'))[it]? = some (.map es'):=aw Dm
     have hkd:=vj ⟨r,j,R2[l]⟩
     have hz0:zeroOf env.P 3=some (i64 0):=by kernel_rfl
     obtain⟨c,hc⟩:∃ c,c=IntKind.i64.wrap (n+1):=⟨_,rfl⟩
     rw[← hc] at D2 kz2
     have hst:(z.set it (.map es')).set it (.map (es'.set jj ((⟨r,j,R2[l]⟩:aQ).val,i64 c)))=z.set it (.map (es'.set jj ((⟨r,j,R2[l]⟩:aQ).val,i64 c))):=List.set_set ..
     generalize R2[l]=kid at *
     have hkk0:=hk0
     have hkk1:=hk1
     unfold kQ at hkd hkk0 hkk1
     refine aG u3 ?_
     refine af rfl ?_
     refine fN u1 hid4 Nat.mul_one hrg4 ?_
     refine aA [(0,.val (.pointer (some ⟨im,0,some 0⟩))),(2,.val (i64 at_)),(3,.val (i64 q)),(4,.val (.map (some it))),(11,.val (i64 r)),(12,.val (i64 j)),(15,.val (i64 kid)),(21,.val (.slice (some ⟨id,0,some au⟩) R.length c1)),(22,.val (i64 R.length)),(23,.val (i64 k)),(35,.val (.slice (some ⟨id3,0,some ver3⟩) os[r].al.length cs)),(36,.val (i64 os[r].al.length)),(37,.val (i64 j)),(50,.val (.slice (some ⟨id4,0,some ver4⟩) R2.length c2)),(51,.val (i64 R2.length)),(52,.val (i64 l))] aO ?_
     show CW _ _ ⟨_,[],z⟩ _
     try apply zs
     apply bi (L:=[[],[],[],[],[1,2,3],[0,1,2,3,4],[0,1,2,3,4,5],[0,1,2,3,4],[0,1,2,3,4,7],[0,1,2,3,4,5,6,7,8]]) (act:=[7,9]) (hs:=[z.set it (.map es'),(z.set it (.map es')).set it (.map (es'.set jj ((⟨r,j,kid⟩:aQ).val,i64 c)))]) (resL:=[_,_,_,_,_,_,_,_,_,_]) (frF:=[(0,.val (.pointer (some ⟨im,0,some 0⟩))),(2,.val (i64 at_)),(3,.val (i64 q)),(4,.val (.map (some it))),(11,.val (i64 r)),(12,.val (i64 j)),(21,.val (.slice (some ⟨id,0,some au⟩) R.length c1)),(22,.val (i64 R.length)),(23,.val (i64 k)),(35,.val (.slice (some ⟨id3,0,some ver3⟩) os[r].al.length cs)),(36,.val (i64 os[r].al.length)),(37,.val (i64 j)),(50,.val (.slice (some ⟨id4,0,some ver4⟩) R2.length c2)),(51,.val (i64 R2.length)),(52,.val (i64 l))])
     case hm=>exact mixed
     case hc=>kernel_rfl
     case ha=>rfl
     case hb=>rfl
     case hS=>
      rcases hg0 with hg0|⟨hg0,rfl⟩
      ·have hc':=hc.symm
       refine Iw Dm hm1 hg0 hg1 hkk0 hkk1 hkd hc' ?_
       apply az.cons
       ·rfl
       ·refine⟨?_,trivial⟩
        exact One.xH (kt:=70) (et:=3) (kd:=xX kQ) (z:=i64 0) ak rfl kr rfl hz0 ak Dm ak (vj _) hk0 hme
       ·rfl
       refine Iw Dm hm1 hg0 hg1 hkk0 hkk1 hkd hc' ?_
       apply az.cons
       ·rfl
       ·refine⟨?_,trivial⟩
        exact One.Mv (r:=.sl .dy) ak rfl ak hm1 ak ak hjj rfl
       ·rfl
       exact az.nil _
      ·obtain rfl:c=1:=by rw[hc];decide
       have hw5:IntKind.i64.wrap 1=1:=by decide
       refine TH Dm hm1 hg0 hg1 hkk0 hkk1 hkd hw5 Int.zero_add ?_
       apply az.cons
       ·rfl
       ·refine⟨?_,trivial⟩
        exact One.xH (kt:=70) (et:=3) (kd:=xX kQ) (z:=i64 0) ak rfl kr rfl hz0 ak Dm ak (vj _) hk0 hme
       ·rfl
       refine TH Dm hm1 hg0 hg1 hkk0 hkk1 hkd hw5 Int.zero_add ?_
       apply az.cons
       ·rfl
       ·refine⟨?_,trivial⟩
        exact One.Mv (r:=.sl .dy) ak rfl ak hm1 ak ak hjj rfl
       ·rfl
       exact az.nil _
     case ht=>rfl
     case hF=>exact zh
     rw[hst]
     show CW _ _ ⟨_,[],z.set it (.map (es'.set jj ((⟨r,j,kid⟩:aQ).val,i64 c)))⟩ _
     generalize z.set it (.map (es'.set jj ((⟨r,j,kid⟩:aQ).val,i64 c)))=z2 at D2 kz2 ⊢
     refine aG u2 ?_
     refine⟨hll,z2,aO,rfl,D2,kz2⟩
    ·have u3:=aT hll
     obtain rfl:l=R2.length:=by omega
     rw[List.take_length,hLL,List.append_assoc,← hrs] at D
     refine aG u3 ?_
     refine ae rfl ?_
     refine aC ?_
     show CW _ _ _ _
     refine aG v2 ?_
     refine⟨hjl,z,aO,rfl,D⟩
   ·have d1:=decide_eq_false qq
    rw[if_neg qq] at hbp
    rw[hbp,List.append_nil] at hrs
    refine ox v1 hid3 Nat.mul_one hsg d1 ?_
    refine af rfl ?_
    refine aC ?_
    show CW _ _ _ _
    refine aG v2 ?_
    refine⟨hjl,y,aO,rfl,?_⟩
    simp only
    rw[hrs]
    exact C
  ·have v3:=aT hjl
   obtain rfl:j=os[r].al.length:=by omega
   rw[← hbr,← htk] at C
   refine aG v3 ?_
   refine ae rfl ?_
   refine aC ?_
   show CW _ _ _ _
   refine aG w2 ?_
   refine⟨hlt,y,aO,rfl,C⟩
 ·have q3:=aT hlt
  obtain rfl:k=R.length:=by omega
  rw[List.take_length] at B
  refine aG q3 ?_
  refine ae rfl ?_
  refine aC ?_
  exact⟨rfl,B⟩
rintro e s' ⟨rfl,B⟩
refine⟨_,ak,rfl,B.p⟩}
end
section
variable {h0 hk h1 x hA:ah} {im it ip:Nat} {m:MK} {d:b7} {os:List gD} {nm:List ByteArray} {es:List (aQ×Int)} {l:List dT}
def eG (E:List CE):List Int:=E.map fun e=>(e.at_:Int)
theorem wz {E:List CE}:(eG E).length=E.length:=List.length_map ..
theorem Ek {E:List CE} {e:CE}:eG (E++[e])=eG E++[(e.at_:Int)]:=by unfold eG;rw[List.map_append];rfl
structure Hx (hA:ah) (ip:Nat) (x:ah×Value) (E:List CE):Prop where
 p:hA.set ip (.map (x8 E)) <+: x.1
 g:aK hA x.1 x.2 (eG E).length ((eG E).map i64) 3
theorem Hx.at {x:ah×Value} {E:List CE} (P:Hx hA ip x E) (hi:ip<hA.length):x.1[ip]? = some (.map (x8 E)):=ag P.p (List.getElem?_set_self hi)
theorem Hx.len {x:ah×Value} {E:List CE} (P:Hx hA ip x E):hA.length≤x.1.length:=by{
have:=P.p.length_le
rw[List.length_set] at this
exact this}
theorem Fa {g:Nat} {y:dT} {ps:List Prod}:(jz ps g y).length=y.cons.length:=by unfold jz;rw[List.length_map]
theorem tL {h:ah} {i:Nat} {o:av} (hm:h[i]? = some o):h.set i o=h:=by{
refine List.ext_getElem? fun j=>?_
by_cases e:i=j
·subst e;rw[List.getElem?_set_self (List.getElem?_eq_some_iff.1 hm).1,hm]
·rw[List.getElem?_set_ne e]}
theorem BI.Te {L B:List aQ} (I:BI hk h1 it es x L) (hi:it<hk.length):BI hk h1 it es (x.set it (.map (bE (eF (eF es L) B)))) (L++B):=by{
refine⟨?_,I.k.uz (I.at hi)⟩
rw[nQ]
exact kP I.p hi}
theorem BI.other {L:List aQ} {o:av} (I:BI hk h1 it es x L) (hne:it≠ip) (h:hk[ip]? = some o):x[ip]? = some o:=ag I.p (by rw[aD hne];exact h)
theorem CO {α β:Type} {f:α×Nat→List β} {l:List α} {k:Nat} (hk:k<l.length):((l.take (k+1)).zipIdx).flatMap f=((l.take k).zipIdx).flatMap f++f (l[k],k):=by{
rw[List.take_succ_eq_append_getElem hk,List.zipIdx_append,List.flatMap_append]
simp only[List.length_take,List.zipIdx_cons,List.zipIdx_nil,List.flatMap_cons,List.flatMap_nil,List.append_nil,Nat.zero_add]
rw[Nat.min_eq_left om]}
theorem GZ {v:Value} (K:KD h0 hk im m d os nm) (hm:hk[it]? = some (.map (bE es))) (hl:h0.length≤it) (hv:eR h0 v l) (hok:gv d.aa (cY l)) (hos:os.length≤4096) (hcl:(cY l).length≤1000) (hll:l.length≤1000) (hsy:∀ p∈d.aa,p.al.length≤1000) : FW env 102 [.pointer (some ⟨im,0,some 0⟩),v,.map (some it)] hk fun r h'=>r = .tuple #[]∧h'=hk.set it (.map (bE (eF es (gz d os l)))):=by{
have hi:it<hk.length:=(List.getElem?_eq_some_iff.1 hm).1
refine EG hi It ?_
have hv0:=hv
obtain⟨pv,cv,rfl⟩:=cT.form hv
obtain⟨pP,cP,hvP⟩:=cT.form K.D.aa
have hel:∀ k,(pW d.aa (l.take k)).length≤(cY l).length:=fun k=>by
 rw[uX]
 unfold cY
 conv=>rhs;rw[← List.take_append_drop k l,List.flatMap_append,List.length_append]
 exact Nat.le_add_right _ _
refine fe Tryz.func102 ?_;simp only[push_cast]
refine zu ?_
refine j5 (kt:=3) (et:=203) ak rfl kr ?_
dsimp only[St.aX,St.put]
have hpA:hk <+: hk++[av.map []]:=aI
have hmA:(hk++[av.map []])[hk.length]? = some (.map (x8 [])):=aJ
have hiA:hk.length<(hk++[av.map []]).length:=by simp
have PI0:Hx (hk++[av.map []]) hk.length (hk++[av.map []],bD) []:=⟨by
 have:(hk++[av.map []]).set hk.length (.map (x8 []))=hk++[av.map []]:=by simp [x8]
 rw[this]
 exact List.prefix_refl _,aK.nil⟩
generalize (hk++[av.map []])=hA at hpA hmA hiA PI0 ⊢
have hil:it≠hk.length:=by omega
have hpk0:∀ {X:av},hk <+: hA.set hk.length X:=fun {X}=>aY hpA (Nat.le_refl _)
have hi0:=hi
generalize hk.length=ip at hmA hiA PI0 hil hi hpk0 ⊢
refine aB ?_
refine CW.mono (Q:=fun e s'=>e = .exit 0∧∃ x:ah×Value,Hx hA ip x (pW d.aa l)∧s'.h=x.1∧bB [(0,.val (.pointer (some ⟨im,0,some 0⟩))),(2,.val (.map (some it))),(6,.val (.map (some ip))),(7,.val x.2)] s'.fr) ?_ ?_
·refine a9 l.length (fun k (x:ah×Value)=>[(0,.val (.pointer (some ⟨im,0,some 0⟩))),(2,.val (.map (some it))),(6,.val (.map (some ip))),(7,.val x.2),(22,.val (.slice pv l.length cv)),(23,.val (i64 l.length)),(24,.val (i64 k))]) (fun _ x=>x.1) (fun k x=>Hx hA ip x (pW d.aa (l.take k))) (hA,bD) aO rfl (by rw[List.take_zero];exact PI0) ?_
 rintro k x hkn I
 by_cases hlt:k<l.length
 ·have hpx:hk <+: x.1:=hpk0.trans I.p
  have hp0:h0 <+: x.1:=K.p.trans hpx
  obtain⟨id,au,own,c',cells,u,hv2,hid0,hrd,hu⟩:=cT.at (k:=2) (fun _ _=>rfl) hv0 hlt
  cases hv2
  have hid:=ag hp0 hid0
  have hu:bh h0 u l[k].cons:=hu
  obtain⟨pc,cc,rfl⟩:=hu.form
  have hule:=hu.le
  have w1:=cH hlt
  have w2:=inc hlt om
  have q3:=aV hlt
  have htk:=Dw (ps:=d.aa) hlt
  have hmemc:∀ c∈l[k].cons,jS d.aa c:=fun c hc=>hok.1 c (List.mem_flatMap.2 ⟨_,List.getElem_mem hlt,hc⟩)
  have hnd:((pW d.aa (l.take (k+1))).map CE.at_).Nodup:=by
   refine oB ?_
   have e:cY l=cY (l.take (k+1))++cY (l.drop (k+1)):=by
    unfold cY
    rw[← List.flatMap_append,List.take_append_drop]
   rw[e] at hok
   exact hok.pre
  have hel2:=hel (k+1)
  obtain⟨gr,hgr⟩:∃ gr,gr=l[k]:=⟨_,rfl⟩
  rw[← hgr] at hrd hu hule htk hmemc
  clear hgr
  rw[htk] at hnd hel2
  generalize pW d.aa (l.take k)=E at I htk hnd hel2
  rw[List.map_append] at hnd
  have hnd2:=(List.nodup_append.1 hnd)
  refine aG q3 ?_
  refine af rfl ?_
  refine ir w1 hid hrd ?_
  refine a9 gr.cons.length (fun j (x:ah×Value)=>[(0,.val (.pointer (some ⟨im,0,some 0⟩))),(2,.val (.map (some it))),(6,.val (.map (some ip))),(7,.val x.2),(8,.val (i64 k)),(9,.box [i64 gr.assoc,.slice pc gr.cons.length cc]),(22,.val (.slice (some ⟨id,0,some au⟩) l.length cv)),(23,.val (i64 l.length)),(24,.val (i64 k)),(30,.val (.slice pc gr.cons.length cc)),(31,.val (i64 gr.cons.length)),(32,.val (i64 j))]) (fun _ x=>x.1) (fun j x=>Hx hA ip x (E++jz d.aa k ⟨gr.assoc,gr.cons.take j⟩)) x aO rfl (by rw[List.take_zero];unfold jz;rw[List.map_nil,List.append_nil];exact I) ?_
  clear hid hpx hp0 I x
  rintro j ⟨hc,vp⟩ hjn I
  have hpx:hk <+: hc:=hpk0.trans I.p
  have hp0:h0 <+: hc:=K.p.trans hpx
  by_cases hjl:j<gr.cons.length
  ·obtain⟨id2,ver2,own2,c2,cells2,hv3,hid2,hcg⟩:=(hu.mono hp0).at hjl
   cases hv3
   have v1:=cH hjl
   have v2:=inc hjl hule
   have v3:=aV hjl
   have hcm:=hmemc _ (List.getElem_mem hjl)
   have htk2:jz d.aa k ⟨gr.assoc,gr.cons.take (j+1)⟩=jz d.aa k ⟨gr.assoc,gr.cons.take j⟩++[⟨kg d.aa gr.cons[j],k,gr.assoc⟩]:=by
    unfold jz
    simp only
    rw[List.take_succ_eq_append_getElem hjl,List.map_append]
    rfl
   have hlE:(E++jz d.aa k ⟨gr.assoc,gr.cons.take j⟩).length≤1000:=by
    rw[List.length_append,Fa] at *
    simp only[List.length_take]
    omega
   have hnew:kg d.aa gr.cons[j]∉(E++jz d.aa k ⟨gr.assoc,gr.cons.take j⟩).map CE.at_:=by
    have e1:E.map CE.at_++(jz d.aa k gr).map CE.at_=(E++jz d.aa k ⟨gr.assoc,gr.cons.take (j+1)⟩).map CE.at_++(jz d.aa k ⟨gr.assoc,gr.cons.drop (j+1)⟩).map CE.at_:=by
     rw[List.map_append,List.append_assoc]
     congr 1
     unfold jz
     simp only
     rw[← List.map_append,← List.map_append,List.take_append_drop]
    rw[e1,htk2,← List.append_assoc,List.map_append] at hnd
    have h2:=(List.nodup_append.1 (List.nodup_append.1 hnd).1).2.2
    intro hmem
    exact h2 _ hmem _ (by simp) rfl
   have hcons:=qh (name:=gr.cons[j]) (K.D.mono hp0)
   have hobx:=ag hpx K.o
   simp only[MK.cells,K.s1,K.s2] at hobx
   unfold b7.val at hcons
   generalize gr.cons[j]=cn at hcg hcm hnew hcons htk2
   obtain⟨E2,hE2⟩:∃ E2,E2=E++jz d.aa k ⟨gr.assoc,gr.cons.take j⟩:=⟨_,rfl⟩
   have htk3:E++jz d.aa k ⟨gr.assoc,gr.cons.take (j+1)⟩=E2++[⟨kg d.aa cn,k,gr.assoc⟩]:=by rw[htk2,← List.append_assoc,← hE2]
   rw[← hE2] at hnew I hlE
   have hmp:=I.at hiA
   have hkk:=vU E2
   simp only at hmp
   obtain⟨qp,cp,hvp⟩:=I.g.form
   simp only at hvp
   subst hvp
   refine aG v3 ?_
   refine af rfl ?_
   refine ox v1 hid2 Nat.mul_one hcg hobx ?_
   refine zj Tryz.func24 ?_
   refine hcons.mono ?_
   rintro _ h2 ⟨⟨i,hci,rfl⟩,e2⟩
   obtain rfl:=e2.symm
   obtain rfl:=hci.TS hcm
   have hput:=Ay (e:=⟨kg d.aa cn,k,gr.assoc⟩) hnew
   simp only at hput
   generalize kg d.aa cn=ci at hput hnew htk3 ⊢
   have P2:=kP (y:=.map (x8 (E2++[⟨ci,k,gr.assoc⟩]))) I.p hiA
   have G2:=(I.g.rI (x:=.map (x8 (E2++[⟨ci,k,gr.assoc⟩]))) hiA).la (a:=hA.set ip (.map (x8 (E2++[⟨ci,k,gr.assoc⟩])))) (by rw[List.length_set];exact Nat.le_refl _)
   have hal:=wz (E:=E2)
   simp only at P2 G2
   refine aB ?_
   refine fq (kt:=3) (et:=203) (kd:=nq) ak rfl rfl kr rfl ak hmp ak ak rfl hkk ?_
   dsimp only
   rw[hput]
   refine aB ?_
   refine wS (l:=eG E2) (b:=ci) (h:=hA.set ip (.map (x8 (E2++[⟨ci,k,gr.assoc⟩])))) ak rfl ak ak G2 P2 om ?_
   intro p' c' h' k1 k2 _ _
   refine aG v2 ?_
   refine⟨hjl,(h',.slice p' ((eG E2).length+1) c'),aO,rfl,?_⟩
   show Hx hA ip _ (E++jz d.aa k ⟨gr.assoc,gr.cons.take (j+1)⟩)
   rw[htk3]
   refine⟨k2,?_⟩
   rw[Ek]
   exact k1.la (by rw[List.length_set];exact Nat.le_refl _)
  ·have v3:=aT hjl
   obtain rfl:j=gr.cons.length:=by omega
   rw[List.take_length] at I
   refine aG v3 ?_
   refine ae rfl ?_
   refine aC ?_
   show CW _ _ _ _
   refine aG w2 ?_
   refine⟨hlt,(hc,vp),aO,rfl,?_⟩
   simp only
   rw[htk]
   exact I
 ·have q3:=aT hlt
  obtain rfl:k=l.length:=by omega
  rw[List.take_length] at I
  refine aG q3 ?_
  refine ae rfl ?_
  refine aC ?_
  exact⟨rfl,x,I,rfl,aO⟩
rintro e s' ⟨rfl,⟨hB,vp⟩,I,hh,hf⟩
show CW _ _ _ _
refine aA _ hf ?_
rw[hh]
clear hf hh s'
obtain⟨qp,cp,hvp⟩:=I.g.form
simp only at I hvp ⊢
subst hvp
have hpB:hk <+: hB:=hpk0.trans I.p
have KB:=K.x0 (K.p.trans hpB) (oS.pre hpB)
have hmB:=ag hpB hm
have hpm:=I.at hiA
have hgI:=I.g
simp only at hpm hgI
have hEn:=oB hok
have hElt:∀ e∈pW d.aa l,e.at_<d.aa.length:=fun e he=>uy hok he
have hEl:(pW d.aa l).length≤1000:=by rw[uX];exact hcl
have hiB:it<hB.length:=by have:=hpB.length_le;omega
refine CW.mono (Q:=fun e s'=>e = .normal∧BI hB hB it es s'.h (gz d os l)) ?_ ?_
rotate_left
·rintro e s' ⟨rfl,B⟩
 refine⟨_,ak,rfl,?_⟩
 exact (kP (x:=.map (bE es)) (by rw[tL hm];exact hpB) hi0).trans B.p
unfold gz
generalize pW d.aa l=E at I hpm hgI hEn hElt hEl ⊢
have hal:=wz (E:=E)
have hkk:=vU E
have B0:BI hB hB it es hB []:=⟨by
 have:hB.set it (.map (bE (eF es [])))=hB:=tL hmB
 rw[this]
 exact List.prefix_refl _,oS.refl⟩
clear I hpk0 hmA PI0 hel
refine aB ?_
refine a9 (eG E).length (fun k (y:ah)=>[(0,.val (.pointer (some ⟨im,0,some 0⟩))),(2,.val (.map (some it))),(6,.val (.map (some ip))),(7,.val (.slice qp (eG E).length cp)),(55,.val (.slice qp (eG E).length cp)),(56,.val (i64 (eG E).length)),(57,.val (i64 k))]) (fun _ y=>y) (fun k y=>BI hB hB it es y ((E.take k).flatMap fun p=>E.flatMap fun q=>jC d os p q)) hB aO rfl (by rw[List.take_zero];exact B0) ?_
rintro k y hkn C
by_cases hlt:k<E.length
·have htk:(E.take (k+1)).flatMap (fun p=>E.flatMap fun q=>jC d os p q)=(E.take k).flatMap (fun p=>E.flatMap fun q=>jC d os p q)++E.flatMap fun q=>jC d os E[k] q:=by
  rw[List.take_succ_eq_append_getElem hlt,List.flatMap_append,List.flatMap_singleton]
 have hag:∀ {j:Nat} (hj:j<E.length),((eG E).map i64)[j]? = some (i64 (E[j].at_:Int)):=fun {j} hj=>by
  unfold eG
  rw[List.getElem?_map,List.getElem?_map,List.getElem?_eq_getElem hj]
  rfl
 have hgk:=hag hlt
 have hem:=List.getElem_mem hlt
 obtain⟨e,he⟩:∃ e,e=E[k]:=⟨_,rfl⟩
 rw[← he] at htk hgk hem
 clear he
 have hpl:=hElt e hem
 have hge:=uQ hEn hem
 obtain⟨id,au,own,c',hv2,hid⟩:=((hgI.x0 C.k).sl (b:=8) om).at om
 cases hv2
 have KY:=C.kd KB hmB hl
 have hoby:=KY.o
 obtain⟨id2,ver2,own2,c2,cells,u,hv3,hid20,hrd,hu⟩:=cT.at (k:=5) (fun _ _=>rfl) K.D.aa hpl
 rw[hvP] at hv3
 cases hv3
 have hid2:=ag KY.p hid20
 have hu:fV h0 u d.aa[e.at_].al:=hu
 obtain⟨ps,cs,rfl⟩:=bW.form hu
 have hr4:=g7 (j:=4) hrd om
 simp only[List.getElem?_cons_succ,List.getElem?_cons_zero] at hr4
 have hsyl:=hsy _ (List.getElem_mem hpl)
 have hbq:∀ q,jC d os e q=(d.aa[e.at_].al.zipIdx).flatMap fun y=>uV d os e q d.aa[e.at_].al.length y.2 y.1:=fun q=>by
  unfold jC
  rw[List.getElem?_eq_getElem hpl]
 generalize d.aa[e.at_]=xp at hu hr4 hsyl hbq hrd
 have w1:((0:Int)≤k∧(k:Int)<((eG E).length:Int))=True:=eq_true om
 have w2:=inc (n:=(eG E).length) (k:=k) om om
 have q3:decide ((k:Int)<((eG E).length:Int))=true:=decide_eq_true om
 have w3:=cH hpl
 simp only[MK.cells,hvP] at hoby
 refine aG q3 ?_
 refine af rfl ?_
 refine Re w1 hid Nat.mul_one hgk hoby w3 hid2 hr4 ?_
 refine a9 (eG E).length (fun j (y:ah)=>[(0,.val (.pointer (some ⟨im,0,some 0⟩))),(2,.val (.map (some it))),(6,.val (.map (some ip))),(7,.val (.slice (some ⟨id,0,some au⟩) (eG E).length cp)),(14,.val (i64 e.at_)),(15,.val (.slice ps xp.al.length cs)),(55,.val (.slice (some ⟨id,0,some au⟩) (eG E).length cp)),(56,.val (i64 (eG E).length)),(57,.val (i64 k)),(71,.val (.slice (some ⟨id,0,some au⟩) (eG E).length cp)),(72,.val (i64 (eG E).length)),(73,.val (i64 j))]) (fun _ y=>y) (fun j y=>BI hB hB it es y ((E.take k).flatMap (fun p=>E.flatMap fun q=>jC d os p q)++(E.take j).flatMap fun q=>jC d os e q)) y aO rfl (by rw[List.take_zero,List.flatMap_nil,List.append_nil];exact C) ?_
 generalize (E.take k).flatMap (fun p=>E.flatMap fun q=>jC d os p q)=L3 at C htk
 clear C hid KY hoby hid2 y
 rintro j y hjn C
 by_cases hjl:j<E.length
 ·have htk2:(E.take (j+1)).flatMap (fun q=>jC d os e q)=(E.take j).flatMap (fun q=>jC d os e q)++jC d os e E[j]:=by
   rw[List.take_succ_eq_append_getElem hjl,List.flatMap_append,List.flatMap_singleton]
  have hgj:=hag hjl
  have hgm:=List.getElem_mem hjl
  obtain⟨g,hg⟩:∃ g,g=E[j]:=⟨_,rfl⟩
  rw[← hg] at htk2 hgj hgm
  clear hg
  have hql:=hElt g hgm
  have hgg:=uQ hEn hgm
  obtain⟨id',ver',own',c'',hv2,hid⟩:=((hgI.x0 C.k).sl (b:=8) om).at om
  cases hv2
  have v1:((0:Int)≤j∧(j:Int)<((eG E).length:Int))=True:=eq_true om
  have v2:=inc (n:=(eG E).length) (k:=j) om om
  have v3:decide ((j:Int)<((eG E).length:Int))=true:=decide_eq_true om
  obtain⟨id3,ver3,own3,c3,cells3,u3,hv3,hid30,hrd3,hu3⟩:=cT.at (k:=5) (fun _ _=>rfl) K.D.aa hql
  rw[hvP] at hv3
  cases hv3
  have hr1:=g7 (j:=1) hrd3 om
  simp only[List.getElem?_cons_succ,List.getElem?_cons_zero] at hr1
  have hbs:∀ (n a:Nat) (s:Sym),uV d os e g n a s=if (gZ s d.aa[g.at_]&&barredB e g a (n-1))=true then sK os e.at_ a g.at_ else []:=fun n a s=>by
   unfold uV
   rw[List.getElem?_eq_getElem hql]
  generalize d.aa[g.at_]=xq at hr1 hbs hrd3 hu3
  rw[hbq] at htk2
  refine aG v3 ?_
  refine af rfl ?_
  refine fN v1 hid Nat.mul_one hgj ?_
  refine a9 xp.al.length (fun a (y:ah)=>[(0,.val (.pointer (some ⟨im,0,some 0⟩))),(2,.val (.map (some it))),(6,.val (.map (some ip))),(7,.val (.slice (some ⟨id,0,some au⟩) (eG E).length cp)),(14,.val (i64 e.at_)),(15,.val (.slice ps xp.al.length cs)),(55,.val (.slice (some ⟨id,0,some au⟩) (eG E).length cp)),(56,.val (i64 (eG E).length)),(57,.val (i64 k)),(71,.val (.slice (some ⟨id,0,some au⟩) (eG E).length cp)),(72,.val (i64 (eG E).length)),(73,.val (i64 j)),(17,.val (i64 g.at_)),(77,.val (.slice ps xp.al.length cs)),(78,.val (i64 xp.al.length)),(79,.val (i64 a))]) (fun _ y=>y) (fun a y=>BI hB hB it es y (L3++(E.take j).flatMap (fun q=>jC d os e q)++((xp.al.take a).zipIdx).flatMap fun y=>uV d os e g xp.al.length y.2 y.1)) y aO rfl (by rw[List.take_zero,List.zipIdx_nil,List.flatMap_nil,List.append_nil];exact C) ?_
  generalize hL4:L3++(E.take j).flatMap (fun q=>jC d os e q)=L4 at C
  clear C hid y
  rintro a y han C
  by_cases hal2:a<xp.al.length
  ·have KY:=C.kd KB hmB hl
   obtain⟨id5,ver5,own5,c5,hv5,hid5⟩:=bW.at (bW.mono hu KY.p) om
   cases hv5
   have hyg:=gV hal2
   have hob5:=KY.o
   have hid3:=ag KY.p hid30
   have w3:=cH hql
   have u1:=cH hal2
   have u2:=inc hal2 om
   have u3:=aV hal2
   have hzt:=CO (f:=fun y=>uV d os e g xp.al.length y.2 y.1) hal2
   rw[hbs] at hzt
   simp only[MK.cells,hvP] at hob5
   have hmy:=C.at hiB
   have hpy:=C.other hil hpm
   generalize xp.al[a]=sy at hyg hzt
   have hsub:∃ nl:Nat,nl=xp.al.length-1∧IntKind.i64.wrap ((xp.al.length:Int)-1)=(nl:Int):=⟨_,rfl,by rw[ay om om];omega⟩
   obtain⟨nl,hnl,hsub⟩:=hsub
   rw[← hnl] at hzt
   refine aG u3 ?_
   refine af rfl ?_
   refine ir u1 hid5 hyg ?_
   refine CW.mono (Q:=fun e' s'=>e' = .normal∧s'.h=y∧bB [(0,.val (.pointer (some ⟨im,0,some 0⟩))),(2,.val (.map (some it))),(6,.val (.map (some ip))),(7,.val (.slice (some ⟨id,0,some au⟩) (eG E).length cp)),(14,.val (i64 e.at_)),(15,.val (.slice (some ⟨id5,0,some ver5⟩) xp.al.length cs)),(55,.val (.slice (some ⟨id,0,some au⟩) (eG E).length cp)),(56,.val (i64 (eG E).length)),(57,.val (i64 k)),(71,.val (.slice (some ⟨id,0,some au⟩) (eG E).length cp)),(72,.val (i64 (eG E).length)),(73,.val (i64 j)),(17,.val (i64 g.at_)),(77,.val (.slice (some ⟨id5,0,some ver5⟩) xp.al.length cs)),(78,.val (i64 xp.al.length)),(79,.val (i64 a)),(18,.val (i64 a)),(20,.val (.bool (gZ sy xq)))] s'.fr) ?_ ?_
   ·by_cases k3:sy.kind=3
    ·have d3:=decide_eq_true k3
     refine aL 23 mixed kr ?_
     have hD:gZ sy xq=decide (sy.name=xq.sort):=by unfold gZ;rw[d3];rfl
     refine ox d3 hob5 w3 hid3 hr1 ?_
     rw[hD]
     exact⟨rfl,rfl,aO⟩
    ·have d3:=decide_eq_false k3
     by_cases k4:sy.kind=4
     ·have d4:=decide_eq_true k4
      refine aL 23 mixed kr ?_
      have hD:gZ sy xq=decide (sy.name=xq.sort):=by unfold gZ;rw[d3,d4];rfl
      refine Ba d3 d4 hob5 w3 hid3 hr1 ?_
      rw[hD]
      exact⟨rfl,rfl,aO⟩
     ·have d4:=decide_eq_false k4
      refine aL 23 mixed kr ?_
      have hD:gZ sy xq=false:=by unfold gZ;rw[d3,d4];rfl
      refine fM d3 d4 ?_
      rw[hD]
      exact⟨rfl,rfl,aO⟩
   rintro e' s' ⟨rfl,hh,hf⟩
   show CW _ _ _ _
   refine aA _ hf ?_
   rw[hh]
   clear hf hh s'
   cases hdir:gZ sy xq with
   | false=>
     rw[hdir] at hzt
     refine aB ?_
     refine ae rfl ?_
     refine aG u2 ?_
     refine⟨hal2,y,aO,rfl,?_⟩
     simp only
     rw[hzt,Bool.false_and,if_neg (by decide),List.append_nil]
     exact C
   | true=>
     rw[hdir,Bool.true_and] at hzt
     refine ox hpy hge hgg hkk hsub ?_
     refine zj Tryz.func143 ?_
     refine (Cj (a:=e) (b:=g) (at_:=a) (last:=nl)).mono ?_
     rintro _ h9 ⟨rfl,e9⟩
     obtain rfl:=e9.symm
     cases hbb:barredB e g a nl with
     | false=>
       rw[hbb] at hzt
       refine aB ?_
       refine ae rfl ?_
       refine aG u2 ?_
       refine⟨hal2,y,aO,rfl,?_⟩
       simp only
       rw[hzt,if_neg (by decide),List.append_nil]
       exact C
     | true=>
       rw[hbb,if_pos rfl] at hzt
       refine aB ?_
       refine af rfl ?_
       refine aB ?_
       refine zj Tryz.func144 ?_
       refine (LO KY hmy hl e.at_ a g.at_ hos).mono ?_
       rintro _ h9 ⟨rfl,rfl⟩
       have C2:=C.Te hiB (B:=sK os e.at_ a g.at_)
       generalize y.set it (.map (bE (eF (eF es _) (sK os e.at_ a g.at_))))=y2 at C2 ⊢
       refine aG u2 ?_
       refine⟨hal2,y2,aO,rfl,?_⟩
       simp only
       rw[hzt,← List.append_assoc]
       exact C2
  ·have u3':=aT hal2
   obtain rfl:a=xp.al.length:=by omega
   rw[List.take_length,← hL4,List.append_assoc,← htk2] at C
   refine aG u3' ?_
   refine ae rfl ?_
   refine aC ?_
   show CW _ _ _ _
   refine aG v2 ?_
   refine⟨by omega,y,aO,rfl,C⟩
 ·have v3:decide ((j:Int)<((eG E).length:Int))=false:=decide_eq_false om
  obtain rfl:j=E.length:=by omega
  rw[List.take_length,← htk] at C
  refine aG v3 ?_
  refine ae rfl ?_
  refine aC ?_
  show CW _ _ _ _
  refine aG w2 ?_
  refine⟨by omega,y,aO,rfl,C⟩
·have q3:decide ((k:Int)<((eG E).length:Int))=false:=decide_eq_false om
 obtain rfl:k=E.length:=by omega
 rw[List.take_length] at C
 refine aG q3 ?_
 refine ae rfl ?_
 refine aC ?_
 exact⟨rfl,C⟩}
end
abbrev gE (l:List aQ):List aQ:=l.mergeSort (fun x y=>!br y x)
theorem Gt {l l':List aQ} (h:l.Perm l'):gE l=gE l':=by{
have tr:∀ a b c:aQ,(!br b a)=true→(!br c b)=true→(!br c a)=true:=fun a b c h1 h2=>by
 simp only[Bool.not_eq_true'] at *
 exact kc.3 c b a h2 h1
have to:∀ a b:aQ,((!br b a)||(!br a b))=true:=fun a b=>by
 simp only[Bool.or_eq_true,Bool.not_eq_true',pZ]
 omega
refine List.Perm.eq_of_pairwise (le:=fun a b=>(!br b a)=true) (fun a b _ _ h1 h2=>?_) (List.pairwise_mergeSort tr to l) (List.pairwise_mergeSort tr to l') (((List.mergeSort_perm l _).trans h).trans (List.mergeSort_perm l' _).symm)
simp only[Bool.not_eq_true'] at h1 h2
exact EJ h2 h1}
def BC (l:List aQ):List Value:=l.flatMap aQ.cells
theorem JV {l:List aQ}:(BC l).length=l.length*3:=dv (f:=aQ.cells) (fun _=>rfl) l
section
variable {h:ah}
theorem OI {n:Nat} {l:List aQ}:∀ v∈BC l,cV n v:=by{
intro v hv
unfold BC at hv
rw[List.mem_flatMap] at hv
obtain⟨x,_,hx⟩:=hv
simp only[aQ.cells,List.mem_cons,List.not_mem_nil,or_false] at hx
rcases hx with rfl|rfl|rfl<;>exact .be rfl}
theorem Dh {id au c:Nat} {l:List aQ} (hg:h[id]? = some (.aj (BC l) au true 70)) (hn:l.length≤1000000000) (hb:∀ x∈l,Fv x) : FW env 103 [.slice (some ⟨id,0,some au⟩) l.length c,aP] h fun r h'=>r = .tuple #[]∧h'=h.set id (.aj (BC (gE l)) au true 70):=by{
have D:DA h id au l.toArray:=⟨hg,by simpa using hn,fun i hi=>by
 have hi':i<l.length:=by simpa using hi
 have:l.toArray[i]! = l[i]:=by simp [hi']
 rw[this]
 exact hb _ (List.getElem_mem hi')⟩
have hid:id<h.length:=(List.getElem?_eq_some_iff.1 hg).1
refine FW.Mn ((Io (c:=c) D).mono ?_)
rintro r h' ⟨rfl,k⟩
obtain⟨d',e,_,g,hg'⟩:=k.eq
have e2:IC d'=BC (gE l):=by
 unfold IC BC
 rw[e]
rw[e2] at hg'
refine⟨h.set id (.aj (BC (gE l)) au true 70),g,hg'.symm,oT,by rw[List.length_set];exact Nat.le_refl _,fun j o hj=>?_,rfl,rfl⟩
by_cases e:id=j
·subst e
 rw[List.getElem?_set_self hid] at hj
 cases hj
 refine .inr fun p hp=>?_
 rw[List.length_set]
 exact OI p hp
·rw[List.getElem?_set_ne e] at hj
 exact .inl hj}
theorem GX:FW env 180 [bD,i64 0,i64 0,aP] h fun r h'=>r = .tuple #[]∧h'=h:=by{
refine fe Tryz.func180 ?_;simp only[push_cast]
refine aB ?_
have e0:IntKind.i64.wrap (0+1)=1:=by decide
refine eY (fun _:Unit=>0) (fun _=>[(2,.val (i64 0)),(8,.val (i64 1))]) (fun _=>h) (fun _=>True) () (lF e0) rfl trivial ?_
rintro⟨⟩ _
have d1:decide ((1:Int)<0)=false:=rfl
refine aG d1 ?_
refine ae rfl ?_
refine aC ?_
exact⟨_,ak,rfl,rfl⟩}
theorem FH {lim:Int}:FW env 145 [bD,i64 0,i64 0,i64 lim,aP] h fun r h'=>r = .tuple #[]∧h'=h:=by{
refine fe Tryz.func145 ?_;simp only[push_cast]
refine aB ?_
refine eY (fun _:Unit=>0) (fun _=>[(0,.val bD),(1,.val (i64 0)),(2,.val (i64 0)),(4,.val aP)]) (fun _=>h) (fun _=>True) () aO rfl trivial ?_
rintro⟨⟩ _
have e1:IntKind.i64.wrap 0=0:=by decide
have d1:decide ((0:Int)≤12)=true:=rfl
refine ir e1 d1 Int.sub_self ?_
refine af rfl ?_
refine aB ?_
refine zj Tryz.func180 ?_
rw[List.append_nil]
refine GX.mono ?_
rintro _ h1 ⟨rfl,e⟩
obtain rfl:=e.symm
refine aB ?_
refine ai ?_
exact⟨_,ak,rfl,rfl⟩}
theorem Dk:FW env 103 [bD,aP] h fun r h'=>r = .tuple #[]∧h'=h:=by{
have e1:IntKind.u64.wrap (0:Int)=0:=by decide
refine fe Tryz.func103 ?_;simp only[push_cast]
refine aG e1 ?_
refine zj Tryz.func146 ?_
rw[List.append_nil]
refine (yE (n:=0) (by decide)).mono ?_
rintro _ _ ⟨rfl,rfl⟩
refine aB ?_
refine zj Tryz.func145 ?_
rw[List.append_nil]
refine FH.mono ?_
rintro _ h1 ⟨rfl,e⟩
obtain rfl:=e.symm
refine aB ?_
exact⟨_,ak,rfl,rfl⟩}
end
def mz (n:Nat) (l:List aQ):Value:=match l.length with
 | 0=>bD
 | k+1=>.slice (some ⟨n,0,some k⟩) (k+1) (k+1)
def AN (l l':List aQ):ah:=match l.length with
 | 0=>[]
 | k+1=>[.aj (BC l') k true 70]
def lv (hC:ah) (im:Nat) (m:MK) (l l':List aQ):ah:=hC.set im (.aj (MK.cells { m with vb:=mz hC.length l }) 0 true 94)++AN l l'
section
variable {hC:ah} {im:Nat} {m:MK} {l:List aQ} {b:aQ}
theorem F9 (ho:hC[im]? = some (.aj m.cells 0 true 94)) (hb:m.vb=bD):lv hC im m [] []=hC:=by{
have:({ m with vb:=mz hC.length [] }:MK)=m:=by
 cases m
 simp only at hb
 subst hb
 rfl
unfold lv
rw[this]
show hC.set im _++[]=hC
rw[List.append_nil,fA ho]}
theorem yQ {l':List aQ} (hi:im<hC.length):(lv hC im m l l')[im]? = some (.aj (MK.cells { m with vb:=mz hC.length l }) 0 true 94):=by
 unfold lv
 rw[List.getElem?_append_left (by rw[List.length_set];exact hi),List.getElem?_set_self hi]
theorem sY {l':List aQ} {j:Nat} {o:av} (hj:j≠im) (h:hC[j]? = some o):(lv hC im m l l')[j]? = some o:=by{
have:=(List.getElem?_eq_some_iff.1 h).1
unfold lv
rw[List.getElem?_append_left (by rw[List.length_set];exact this),aD hj.symm]
exact h}
theorem sD {n:Nat}:∃ p c,mz n l = .slice p l.length c:=by{
unfold mz
split
·rename_i h;rw[h];exact⟨_,_,rfl⟩
·rename_i h;rw[h];exact⟨_,_,rfl⟩}
theorem Ka {n:Nat} {l':List aQ} (h:l.length=l'.length):mz n l=mz n l':=by unfold mz;rw[h]
theorem Gu {l' x:List aQ} (h:l.length=l'.length):AN l x=AN l' x:=by unfold AN;rw[h]
theorem Ef (hi:im<hC.length) (hn:l.length≤1000000000):∃ h', (∀ (all:Array Oper) (o:Oper) (s:St) (x:Operand) (y:Nat),s.h=lv hC im m l l→aE all o s=some true→o.op = .call { callee:=.builtin .append,args:=#[x,.tmp y],argTypes:=#[37,37] }→ev s x=some (mz hC.length l)→aS s.fr y = .nj b.cells 1 → One env all o s (.sl (.val (mz hC.length (l++[b])))) h') ∧ h'[im]? = some (.aj (MK.cells { m with vb:=mz hC.length l }) 0 true 94) ∧ h'.set im (.aj (MK.cells { m with vb:=mz hC.length (l++[b]) }) 0 true 94)=lv hC im m (l++[b]) (l++[b]):=by{
have hit:∀ (s:St) (y:Nat),aS s.fr y = .nj b.cells 1→ct s s.h 3 (.tmp y)=some (b.cells,1):=fun s y hy=>by simp only[ct,hy];rfl
cases l with
| nil=>
  refine⟨hC.set im (.aj (MK.cells { m with vb:=mz hC.length [] }) 0 true 94)++[.aj b.cells 0 true 70],fun all o s x y e hw ho hx hy=>?_,?_,?_⟩
  ·have e2:s.h=hC.set im (.aj (MK.cells { m with vb:=mz hC.length [] }) 0 true 94):=by rw[e];unfold lv;exact List.append_nil _
   have:=One.yJ (N:=env) (m:=1) hw ho kr rfl J7 (by decide) rfl hx (hit s y hy) (by decide) (by decide) (by decide)
   rw[e2,List.length_set] at this
   exact this
  ·rw[List.getElem?_append_left (by rw[List.length_set];exact hi),List.getElem?_set_self hi]
  ·rw[List.set_append_left _ _ (by rw[List.length_set];exact hi),List.set_set]
   rfl
| cons a r=>
  have hl1:(hC.set im (.aj (MK.cells { m with vb:=mz hC.length (a :: r) }) 0 true 94)).length=hC.length:=List.length_set
  refine⟨hC.set im (.aj (MK.cells { m with vb:=mz hC.length (a :: r) }) 0 true 94)++[.aj (BC (a :: r)++b.cells) (r.length+1) true 70],fun all o s x y e hw ho hx hy=>?_,?_,?_⟩
  ·have e2:s.h=hC.set im (.aj (MK.cells { m with vb:=mz hC.length (a :: r) }) 0 true 94)++[.aj (BC (a :: r)) r.length true 70]:=e
   have hx:ev s x=some (.slice (some ⟨hC.length,0,some r.length⟩) (r.length+1) (r.length+1)):=hx
   have hob:s.h[hC.length]? = some (.aj (BC (a :: r)) r.length true 70):=by
    rw[e2,List.getElem?_append_right (by rw[hl1];exact Nat.le_refl _),hl1,Nat.sub_self]
    rfl
   have hbl:=JV (l:=a :: r)
   simp only[List.length_cons] at hbl hn
   have:=One.Ko (N:=env) (m:=1) hw ho kr rfl J7 (by decide) rfl hx hob (by simp only;omega) (hit s y hy) (by simp only;omega) om
   rw[List.take_of_length_le (by simp only;omega)] at this
   have e3:s.h.set hC.length (.aj (BC (a :: r)++b.cells) (r.length+1) true 70)=hC.set im (.aj (MK.cells { m with vb:=mz hC.length (a :: r) }) 0 true 94)++[.aj (BC (a :: r)++b.cells) (r.length+1) true 70]:=by
    rw[e2,List.set_append_right _ _ (by rw[hl1];exact Nat.le_refl _),hl1,Nat.sub_self]
    rfl
   rw[e3] at this
   have e4:mz hC.length (a :: r++[b]) = .slice (some ⟨hC.length,0,some (r.length+1)⟩) (r.length+1+1) (r.length+1+1):=by
    unfold mz
    rw[List.length_append,List.length_cons,List.length_singleton]
   rw[e4]
   exact this
  ·rw[List.getElem?_append_left (by rw[List.length_set];exact hi),List.getElem?_set_self hi]
  ·rw[List.set_append_left _ _ (by rw[List.length_set];exact hi),List.set_set]
   unfold lv AN
   rw[List.length_append,List.length_cons,List.length_singleton]
   have:BC (a :: r++[b])=BC (a :: r)++b.cells:=by unfold BC;rw[List.flatMap_append,List.flatMap_singleton]
   rw[this]}
end
theorem H7 {a b c:Code} {s:St} {Q:AX→St→Prop} {I:St→Prop} {fr fr2:Am.Fr} {h:ah} {P:ah→Prop} (ha:SW env a s (fun e s'=>e = .normal∧I s')) (hb:∀ s',I s'→SW env b s' (fun e s''=>e = .normal∧bB fr s''.fr∧s''.h=h)) (hc:CW env c ⟨fr,[],h⟩ (fun e s'=>e = .normal∧bB fr2 s'.fr∧P s'.h)) (k:∀ h2,P h2→Q .normal ⟨fr2,[],h2⟩):CW env (.seq a (.seq b c)) s Q:=by{
unfold CW at hc
obtain⟨e,s1,hev,rfl,hf,hP⟩:=hc
refine Db (e:=.normal) fr2 s1.h ?_ (k _ hP)
refine qW ha (fun e s' ⟨h1,_⟩ h2=>absurd h1 h2) fun s' ⟨_,hI⟩=>?_
refine qW (hb s' hI) (fun e s' ⟨h1,_⟩ h2=>absurd h1 h2) fun s'' ⟨_,hf2,hh⟩=>?_
refine gl fr hf2 ?_
rw[hh]
unfold SW
exact .Me hev ⟨rfl,hf,rfl⟩}
def dV (F:List (aQ×Int)) (seen:List Nat):List aQ:=seen.filterMap fun i=>(F[i]?).map (·.1)
theorem y4 {F:List (aQ×Int)} {seen:List Nat} {i:Nat} {p:aQ×Int} (h:F[i]? = some p):dV F (seen++[i])=dV F seen++[p.1]:=by{
unfold dV
rw[List.filterMap_append]
congr 1
simp [h]}
theorem tB {F:List (aQ×Int)}:∀ {seen:List Nat},(∀ i∈seen,i<F.length)→(dV F seen).length=seen.length
 | [],_=>rfl
 | i :: s,h=>by
   have ih:=tB (F:=F) (seen:=s) fun j hj=>h j (List.mem_cons_of_mem _ hj)
   unfold dV at ih ⊢
   have hi:=h i (List.mem_cons_self)
   rw[List.filterMap_cons,List.getElem?_eq_getElem hi]
   simp only[Option.map_some,List.length_cons,ih]
theorem xD (F:List (aQ×Int)):dV F (List.range F.length)=F.map (·.1):=by{
unfold dV
refine List.ext_getElem? fun j=>?_
have key:∀ n,n≤F.length→(List.range n).filterMap (fun i=>(F[i]?).map (·.1))=(F.take n).map (·.1):=by
 intro n
 induction n with
 | zero=>intro _;rfl
 | succ n ih=>
   intro hn
   rw[List.range_succ,List.filterMap_append,ih om,List.take_succ_eq_append_getElem om,List.map_append]
   congr 1
   simp [show n<F.length by omega]
rw[key _ (Nat.le_refl _),List.take_length]}
theorem yV {F:List (aQ×Int)} {seen:List Nat} (hn:seen.Nodup) (hl:∀ i∈seen,i<F.length) (ha:∀ i,i<F.length→i∈seen):(dV F seen).Perm (F.map (·.1)):=by{
rw[← xD F]
unfold dV
refine List.Perm.filterMap _ ((List.perm_ext_iff_of_nodup hn List.nodup_range).2 fun i=>?_)
rw[List.mem_range]
exact⟨hl i,ha i⟩}
theorem Du {os:List gD} {p a q:Nat} (hos:os.length≤4096) (hs:∀ o∈os,o.al.length≤1000000):∀ x∈sK os p a q,Fv x:=by{
intro x hx
unfold sK at hx
rw[List.mem_flatMap] at hx
obtain⟨r,hr,hx⟩:=hx
have h1:=lp hr
unfold nZ at hx
rw[List.getElem?_eq_getElem h1] at hx
simp only[List.mem_flatMap,List.mem_range] at hx
obtain⟨j,hj,hx⟩:=hx
have h2:=hs _ (List.getElem_mem h1)
unfold pz at hx
split at hx
·rw[List.mem_map] at hx
 obtain⟨k,hk,rfl⟩:=hx
 have h3:=lp hk
 exact⟨by simp only;omega,by simp only;omega,by simp only;omega⟩
·simp at hx}
theorem Ed {d:b7} {os:List gD} (hos:os.length≤4096) (hs:∀ o∈os,o.al.length≤1000000):∀ x∈ky d os,Fv x:=by{
intro x hx
unfold ky gz at hx
simp only[List.mem_flatMap] at hx
obtain⟨l,_,p,_,q,_,hx⟩:=hx
unfold jC at hx
split at hx
·rw[List.mem_flatMap] at hx
 obtain⟨y,_,hx⟩:=hx
 unfold uV at hx
 split at hx
 ·split at hx
  ·exact Du hos hs x hx
  ·simp at hx
 ·simp at hx
·simp at hx}
theorem tV:∀ {xs l:List aQ},(ki l xs).length≤l.length+xs.length
 | [],_=>Nat.le_refl _
 | x :: xs,l=>by
   have ih:=tV (xs:=xs) (l:=sL l x)
   have:(sL l x).length≤l.length+1:=by unfold sL;split<;>simp
   unfold ki at ih ⊢
   rw[List.foldl_cons,List.length_cons]
   omega
def jV (d:b7) (l:List eZ):List aZ:=l.foldl (fun s x=>s.set (fZ d x.sort) ((s.getD (fZ d x.sort) sq).union x.set)) (List.replicate (aW d) sq)
def qy (d:b7) (l:List dB):List Int:=l.foldl (fun s x=>s.set (fZ d x.sort) (fZ d x.jO:Int)) (List.replicate (aW d) (-1))
theorem oA {d:b7} {l:List eZ} {k:Nat} (hk:k<l.length):jV d (l.take (k+1))=(jV d (l.take k)).set (fZ d l[k].sort) (((jV d (l.take k)).getD (fZ d l[k].sort) sq).union l[k].set):=by{
unfold jV
rw[List.take_succ_eq_append_getElem hk,List.foldl_append]
rfl}
theorem sX {d:b7} {l:List dB} {k:Nat} (hk:k<l.length):qy d (l.take (k+1))=(qy d (l.take k)).set (fZ d l[k].sort) (fZ d l[k].jO:Int):=by{
unfold qy
rw[List.take_succ_eq_append_getElem hk,List.foldl_append]
rfl}
theorem EM {d:b7}:∀ k (l:List eZ),(jV d (l.take k)).length=aW d:=by{
intro k l
induction k with
| zero=>unfold jV;rw[List.take_zero];exact List.length_replicate
| succ k ih=>
  by_cases h:k<l.length
  ·rw[oA h,List.length_set];exact ih
  ·rw[List.take_of_length_le om]
   rw[List.take_of_length_le om] at ih
   exact ih}
theorem Fk {d:b7}:∀ k (l:List dB),(qy d (l.take k)).length=aW d:=by{
intro k l
induction k with
| zero=>unfold qy;rw[List.take_zero];exact List.length_replicate
| succ k ih=>
  by_cases h:k<l.length
  ·rw[sX h,List.length_set];exact ih
  ·rw[List.take_of_length_le om]
   rw[List.take_of_length_le om] at ih
   exact ih}
theorem pS:du sq:=⟨⟨by decide,by decide⟩,⟨by decide,by decide⟩,⟨by decide,by decide⟩,⟨by decide,by decide⟩⟩
theorem Cf {s t:aZ} (h1:du s) (h2:du t):du (s.union t):=⟨j1 h1.a h2.a,j1 h1.b h2.b,j1 h1.c h2.c,j1 h1.d h2.d⟩
theorem Hy {d:b7} {l:List eZ} (h:∀ x∈l,du x.set):∀ k,∀ s∈jV d (l.take k),du s:=by{
intro k
induction k with
| zero=>
  intro s hs
  unfold jV at hs
  rw[List.take_zero] at hs
  rw[List.eq_of_mem_replicate hs]
  exact pS
| succ k ih=>
  by_cases hk:k<l.length
  ·intro s hs
   rw[oA hk] at hs
   rcases List.mem_or_eq_of_mem_set hs with hs|rfl
   ·exact ih s hs
   ·refine Cf ?_ (h _ (List.getElem_mem hk))
    rw[List.getD_eq_getElem?_getD]
    cases e:(jV d (l.take k))[fZ d l[k].sort]? with
    | none=>exact pS
    | some y=>exact ih y (List.mem_of_getElem? e)
  ·rw[List.take_of_length_le om]
   rw[List.take_of_length_le om] at ih
   exact ih}
structure FS (hD:ah) (im nF nR:Nat) (x:ah) (mm:MK) (SF:List aZ) (SR:List Int):Prop where
 o:x[im]? = some (.aj mm.cells 0 true 94)
 F:x[nF]? = some (.aj (SF.flatMap aZ.cells) 0 true 54)
 R:x[nR]? = some (.aj (SR.map i64) 0 true 3)
 k:∀ (j:Nat) (o:av),j<hD.length→j≠im→hD[j]? = some o→x[j]? = some o
 l:hD.length≤x.length
theorem FS.SK {hD x:ah} {im nF nR:Nat} {mm:MK} {SF:List aZ} {SR:List Int} (S:FS hD im nF nR x mm SF SR) (h1:nF≠im) (h2:nF≠nR) (h3:hD.length≤nF) (SF':List aZ):FS hD im nF nR (x.set nF (.aj (SF'.flatMap aZ.cells) 0 true 54)) mm SF' SR:=
 ⟨by rw[aD h1];exact S.o,aw S.F,by rw[aD h2];exact S.R,fun j o hj hn h=>by rw[aD om];exact S.k j o hj hn h,by rw[List.length_set];exact S.l⟩
theorem FS.QO {hD x:ah} {im nF nR:Nat} {mm:MK} {SF:List aZ} {SR:List Int} (S:FS hD im nF nR x mm SF SR) (h1:nR≠im) (h2:nF≠nR) (h3:hD.length≤nR) (SR':List Int):FS hD im nF nR (x.set nR (.aj (SR'.map i64) 0 true 3)) mm SF SR':=
 ⟨by rw[aD h1];exact S.o,by rw[aD h2.symm];exact S.F,aw S.R,fun j o hj hn h=>by rw[aD om];exact S.k j o hj hn h,by rw[List.length_set];exact S.l⟩
theorem Fh {N k:Nat} (hk:k<N):(List.replicate k (-1:Int)++List.replicate (N-k) 0).set k (-1)=List.replicate (k+1) (-1)++List.replicate (N-(k+1)) 0:=by
 rw[List.set_append_right _ _ (by rw[List.length_replicate];exact Nat.le_refl _),List.length_replicate,Nat.sub_self,show N-k=(N-(k+1))+1 by omega,List.replicate_succ,List.set_cons_zero,List.replicate_succ',List.append_assoc]
 rfl
theorem Ez {hk hC:ah} {im:Nat} {m:MK} {B B':List aQ} (h:hk.length≤hC.length) (h0:B.length=B'.length):aK hk (lv hC im m B B') (mz hC.length B) B.length (BC B') 70:=by{
unfold mz
split
·rename_i e
 rw[e]
 have:B'=[]:=List.length_eq_zero_iff.1 om
 rw[this]
 exact aK.nil
·rename_i k e
 rw[e]
 refine .inr ⟨hC.length,k,h,rfl,?_⟩
 unfold lv AN
 rw[e,List.getElem?_append_right (by rw[List.length_set];exact Nat.le_refl _),List.length_set,Nat.sub_self]
 rfl}
structure Tx (h0 hk h':ah) (im:Nat) (m:MK) (d:b7) (os:List gD) (vb vF vR:Value):Prop where
 p:h0 <+: h'
 l:hk.length≤h'.length
 o:h'[im]? = some (.aj (MK.cells { m with vb:=vb,vF:=vF,vR:=vR }) 0 true 94)
 k:∀ (j:Nat) (o:av),j<hk.length→j≠im→hk[j]? = some o→h'[j]? = some o
 b:aK hk h' vb (ki [] (ky d os)).length (BC (gE (ki [] (ky d os)))) 70
 F:aK hk h' vF (aW d) ((jV d d.follows).flatMap aZ.cells) 54
 R:aK hk h' vR (aW d) ((qy d d.an).map i64) 3
section
variable {h0 hk h1 x hA:ah} {im it ip:Nat} {m:MK} {d:b7} {os:List gD} {nm:List ByteArray} {sE:List (ByteArray×Int)}
theorem y5 (K:KD h0 hk im m d os nm) (hsm:hk[m.is]? = some (.map (fz sE))) (hsg:∀ x∈aF d.aa,gj (fz sE) (.string x)=some (i64 (fZ d x:Int))) (hvb:m.vb=bD) (hnts:m.fk=(aW d:Int)) (hN:aW d≤5000) (hok:uY d) (hos:os.length≤4096) (hch:∀ c∈d.ax,(cY c).length≤1000∧c.length≤1000) (hcn:d.ax.length≤1000) (hsy:∀ p∈d.aa,p.al.length≤1000) (hosy:∀ o∈os,o.al.length≤1000000) (hbn:(ky d os).length≤1000000000) (hfS:∀ x∈d.follows,x.sort∈aF d.aa∧du x.set) (hrS:∀ x∈d.an,x.sort∈aF d.aa∧x.jO∈aF d.aa) (hfl:d.follows.length≤1000) (hrl:d.an.length≤1000) (hsn:∀ x∈aF d.aa,fZ d x<aW d) : FW env 35 [.pointer (some ⟨im,0,some 0⟩)] hk fun r h'=>r = .tuple #[]∧∃ vb vF vR,Tx h0 hk h' im m d os vb vF vR:=by{
obtain⟨pC,cC,hvC⟩:=cT.form K.D.ax
have hl0:h0.length≤hk.length:=K.p.length_le
refine fe Tryz.func35 ?_;simp only[push_cast]
refine zu ?_
iterate 5 (refine zx pR ?_)
refine zu ?_
refine j5 (kt:=70) (et:=3) ak rfl kr ?_
dsimp only[St.aX,St.put]
have hpA:hk <+: hk++[av.map []]:=aI
have hmA:(hk++[av.map []])[hk.length]? = some (.map (bE [])):=aJ
have hiA:hk.length<(hk++[av.map []]).length:=by simp
generalize (hk++[av.map []])=hA at hpA hmA hiA ⊢
have hitk:hk.length≤hk.length:=Nat.le_refl _
generalize hit:hk.length=it at hmA hiA ⊢
have hpk:∀ {X:av},hk <+: hA.set it X:=fun {X}=>aY hpA om
have KA:∀ {X:List (Value×Value)},KD h0 (hA.set it (.map X)) im m d os nm:=fun {X}=>K.x0 (K.p.trans hpk) (oS.pre hpk)
have hobA:=ag hpA K.o
simp only[MK.cells,hvC] at hobA
refine aG hobA ?_
refine CW.mono (Q:=fun e s'=>e = .exit 0∧s'.h=hA.set it (.map (bE (eF [] (ky d os))))∧bB [(0,.val (.pointer (some ⟨im,0,some 0⟩))),(2,.val (.pointer (some ⟨im,12,some 0⟩))),(3,.val (.map (some it)))] s'.fr) ?_ ?_
·refine df d.ax.length (fun k=>[(0,.val (.pointer (some ⟨im,0,some 0⟩))),(2,.val (.pointer (some ⟨im,12,some 0⟩))),(3,.val (.map (some it))),(23,.val (.slice pC d.ax.length cC)),(24,.val (i64 d.ax.length)),(25,.val (i64 k))]) (fun k=>hA.set it (.map (bE (eF [] ((d.ax.take k).flatMap (gz d os)))))) (fun _=>True) aO (by rw[List.take_zero];exact (fA hmA).symm) trivial ?_
 intro k hkn _
 by_cases hlt:k<d.ax.length
 ·obtain⟨id,au,own,c',cells,u,hv2,hid0,hrd,hu⟩:=cT.at (k:=1) (fun _ _=>rfl) K.D.ax hlt
  rw[hvC] at hv2
  cases hv2
  have hu:eR h0 u d.ax[k]:=hu
  have hmem:=List.getElem_mem hlt
  have w1:=cH hlt
  have w2:=inc hlt om
  have q3:=aV hlt
  have htk:(d.ax.take (k+1)).flatMap (gz d os)=(d.ax.take k).flatMap (gz d os)++gz d os d.ax[k]:=by
   rw[List.take_succ_eq_append_getElem hlt,List.flatMap_append,List.flatMap_singleton]
  have hb:=GZ (it:=it) (es:=eF [] ((d.ax.take k).flatMap (gz d os))) KA (List.getElem?_set_self hiA) om hu (hok _ hmem) hos (hch _ hmem).1 (hch _ hmem).2 hsy
  rw[List.set_set,← nQ,← htk] at hb
  obtain⟨pv,cv,rfl⟩:=cT.form hu
  have hid:=ag (K.p.trans (hpk (X:=.map (bE (eF [] ((d.ax.take k).flatMap (gz d os))))))) hid0
  have hr0:=mV hrd om
  simp only[List.getElem?_cons_zero,Nat.mul_one] at hr0
  refine aG q3 ?_
  refine af rfl ?_
  refine fN w1 hid Nat.mul_one hr0 ?_
  refine zj Tryz.func102 ?_
  refine hb.mono ?_
  rintro _ h2 ⟨rfl,rfl⟩
  refine aG w2 ?_
  exact⟨hlt,aO,rfl,trivial⟩
 ·have q3:=aT hlt
  obtain rfl:k=d.ax.length:=by omega
  rw[List.take_length]
  refine aG q3 ?_
  refine ae rfl ?_
  refine aC ?_
  exact⟨rfl,rfl,aO⟩
rintro e s' ⟨rfl,hh,hf⟩
show CW _ _ _ _
refine aA _ hf ?_
rw[hh]
clear hf hh s'
have hF:=ua (ky d os) []
rw[List.map_nil] at hF
have hFl:(eF [] (ky d os)).length≤1000000000:=by
 have h1:=congrArg List.length hF
 rw[List.length_map] at h1
 have h2:=tV (xs:=ky d os) (l:=[])
 simp only[List.length_nil] at h2
 omega
have hFi:∀ p∈eF [] (ky d os),Fv p.1:=fun p hp=>by
 have h1:p.1∈(eF [] (ky d os)).map (·.1):=List.mem_map_of_mem hp
 rw[hF,ta] at h1
 exact Ed hos hosy _ (h1.resolve_left (by simp))
generalize eF [] (ky d os)=F at hFl hFi hF ⊢
have hpC:hk <+: hA.set it (.map (bE F)):=hpk
have hmC:(hA.set it (.map (bE F)))[it]? = some (.map (bE F)):=List.getElem?_set_self hiA
have hiC:it<(hA.set it (.map (bE F))).length:=by rw[List.length_set];exact hiA
have KC:KD h0 (hA.set it (.map (bE F))) im m d os nm:=KA
clear KA hpk hobA hmA
generalize hA.set it (.map (bE F))=hC at hpC hmC hiC KC ⊢
have hoC:=KC.o
have himC:im<hC.length:=(List.getElem?_eq_some_iff.1 hoC).1
have hne:it≠im:=by
 intro e
 rw[e,hoC] at hmC
 cases hmC
have hlF:(bE F).length=F.length:=by unfold bE;rw[List.length_map]
obtain⟨B,hB⟩:∃ B,B=F.map (·.1):=⟨_,rfl⟩
have hBl:B.length=F.length:=by rw[hB,List.length_map]
rw[← hB] at hF
refine H7 (I:=fun s'=>∃ L:List aQ,L.Perm B∧s'.h=lv hC im m L L∧bB [(0,.val (.pointer (some ⟨im,0,some 0⟩))),(2,.val (.pointer (some ⟨im,12,some 0⟩)))] s'.fr) (fr:=[(0,.val (.pointer (some ⟨im,0,some 0⟩))),(2,.val (.pointer (some ⟨im,12,some 0⟩)))]) (fr2:=[]) (h:=lv hC im m B (gE B)) (P:=fun h'=>∃ vb vF vR,Tx h0 hk h' im m d os vb vF vR) ?_ ?_ ?_ ?_
·refine qW (R:=fun e s'=>e = .normal∧s'.h=hC∧bB [(0,.val (.pointer (some ⟨im,0,some 0⟩))),(2,.val (.pointer (some ⟨im,12,some 0⟩))),(35,.mx it F.length [])] s'.fr) ?_ (fun e s' ⟨h1,_⟩ h2=>absurd h1 h2) ?_
 ·refine SW.of ?_
  apply zr
  iterate 1 (refine zx pR ?_)
  refine DP (kt:=70) (et:=3) (es:=bE F) ak rfl rfl kr ak hmC ?_
  rw[hlF]
  apply zn
  exact⟨rfl,rfl,aO⟩
 rintro s' ⟨_,hh,hf⟩
 refine gl _ hf ?_
 rw[hh]
 clear hf hh s'
 refine xZ ?_
 refine AD (fun n s=>∃ seen:List Nat,n+seen.length=F.length∧seen.Nodup∧(∀ i∈seen,i<F.length)∧s.h=lv hC im m (dV F seen) (dV F seen)∧bB [(0,.val (.pointer (some ⟨im,0,some 0⟩))),(2,.val (.pointer (some ⟨im,12,some 0⟩))),(35,.mx it F.length seen)] s.fr) F.length ⟨[],by simp,.nil,by simp,(F9 hoC hvb).symm,aO⟩ ?_
 rintro n s ⟨seen,hms,hnd,hlt6,hh,hf⟩
 refine gl _ hf ?_
 rw[hh]
 clear hf hh s
 have hmL:(lv hC im m (dV F seen) (dV F seen))[it]? = some (.map (bE F)):=sY hne hmC
 have hpl:=tB hlt6
 refine qW (R:=fun e s'=>e = .normal∧s'.h=lv hC im m (dV F seen) (dV F seen)∧(((∀ i,i<F.length→i∈seen)∧bB [(0,.val (.pointer (some ⟨im,0,some 0⟩))),(2,.val (.pointer (some ⟨im,12,some 0⟩))),(37,.val (.bool false))] s'.fr)∨∃ i p,F[i]? = some p∧i∉seen∧bB [(0,.val (.pointer (some ⟨im,0,some 0⟩))),(2,.val (.pointer (some ⟨im,12,some 0⟩))),(35,.mx it F.length (seen++[i])),(37,.val (.bool true))] s'.fr)) ?_ ?_ ?_
 ·refine zJ (es:=bE F) rfl rfl rfl rfl (by decide) rfl hmL hlF (HB F) (fun hA=>?_) (fun i kk v hkv hi=>?_)
  ·refine aB ?_
   exact⟨rfl,rfl,.inl ⟨hA,aO⟩⟩
  ·rw[IP] at hkv
   obtain⟨p,hp,e1,e2⟩:=hkv
   refine aB ?_
   exact⟨rfl,rfl,.inr ⟨i,p,hp,hi,aO⟩⟩
 ·rintro e s' ⟨rfl,_⟩ he
  exact absurd rfl he
 ·rintro s' ⟨_,hh,⟨hA,hf⟩ | ⟨i,p,hp,hi,hf⟩⟩
  ·refine gl _ hf ?_
   rw[hh]
   clear hf hh s'
   refine SW.of ?_
   refine zu ?_
   refine ae rfl ?_
   refine aC ?_
   refine .inr ⟨by simp,?_⟩
   refine⟨rfl,dV F seen,?_,rfl,aO⟩
   rw[hB]
   exact yV hnd hlt6 hA
  ·refine gl _ hf ?_
   rw[hh]
   clear hf hh s'
   refine SW.of ?_
   refine zu ?_
   refine af rfl ?_
   refine cj ?_
   show CW _ _ _ _
   have hpe:(bE F)[i]? = some (p.1.val,i64 p.2):=IP.2 ⟨p,hp,rfl,rfl⟩
   have hgl:(seen++[i]).getLast? = some i:=by simp
   have hi6:=(List.getElem?_eq_some_iff.1 hp).1
   have hlt7:∀ q∈seen++[i],q<F.length:=fun q hq=>by
    rcases List.mem_append.1 hq with hq|hq
    ·exact hlt6 q hq
    ·rw[List.mem_singleton.1 hq];exact hi6
   have hlen:=oh (gW hnd hi) hlt7
   rw[List.length_append,List.length_singleton] at hlen
   obtain⟨n',rfl⟩:∃ n',n=n'+1:=⟨n-1,by omega⟩
   obtain⟨h',hone,hob',hset⟩:=Ef (hC:=hC) (im:=im) (m:=m) (l:=dV F seen) (b:=p.1) himC om
   have hobL:=yQ (hC:=hC) (im:=im) (m:=m) (l:=dV F seen) (l':=dV F seen) himC
   have hst:=y4 (seen:=seen) hp
   obtain⟨pL,cL,hvL⟩:=sD (l:=dV F seen) (n:=hC.length)
   rw[hvL] at hobL hob' hone
   rw[← hst] at hone hset
   simp only[MK.cells] at hobL
   have hob2:=hob'
   simp only[MK.cells] at hob2
   have hvc:dQ 1 (mz hC.length (dV F (seen++[i])))=some [mz hC.length (dV F (seen++[i]))]:=by
    obtain⟨a,b,e⟩:=sD (l:=dV F (seen++[i])) (n:=hC.length)
    rw[e]
    rfl
   generalize lv hC im m (dV F seen) (dV F seen)=hL at hmL hone hobL ⊢
   refine fN hmL hlF hgl hpe ?_
   refine aA [(0,.val (.pointer (some ⟨im,0,some 0⟩))),(2,.val (.pointer (some ⟨im,12,some 0⟩))),(6,.box [i64 p.1.fY,i64 p.1.mA,i64 p.1.vO]),(35,.mx it F.length (seen++[i]))] aO ?_
   show CW _ _ ⟨_,[],hL⟩ _
   try apply zs
   apply bi (L:=[[],[],[1],[1,2],[1,2,3],[],[5],[1,2,3,4,5,6],[0],[0,8],[0,1,2,3,4,5,6,7,8,9]]) (act:=[7,10]) (hs:=[h',h'.set im (.aj (MK.cells { m with vb:=mz hC.length (dV F (seen++[i])) }) 0 true 94)]) (resL:=[_,_,_,_,_,_,_,_,_,_,_]) (frF:=[(0,.val (.pointer (some ⟨im,0,some 0⟩))),(2,.val (.pointer (some ⟨im,12,some 0⟩))),(35,.mx it F.length (seen++[i]))])
   case hm=>exact mixed
   case hc=>kernel_rfl
   case ha=>rfl
   case hb=>rfl
   case hS=>
    refine FO hobL hob2 ?_
    apply az.cons
    ·rfl
    ·refine⟨?_,trivial⟩
     exact hone _ _ _ _ _ rfl ak rfl ak ak
    ·rfl
    refine FO hobL hob2 ?_
    apply az.cons
    ·rfl
    ·refine⟨?_,trivial⟩
     exact One.jn (r:=.sl .dy) (cells':=MK.cells { m with vb:=mz hC.length (dV F (seen++[i])) }) ak rfl ak ak hob' ak hvc rfl rfl
    ·rfl
    exact az.nil _
   case ht=>rfl
   case hF=>exact zh
   refine .inl ⟨rfl,n',rfl,seen++[i],by rw[List.length_append,List.length_singleton];omega,gW hnd hi,hlt7,hset,aO⟩
·rintro s' ⟨L,hLp,hh,hf⟩
 refine gl _ hf ?_
 rw[hh]
 clear hf hh s'
 have hLl:=hLp.length_eq
 have hs:=Gt hLp
 have hobL:=yQ (hC:=hC) (im:=im) (m:=m) (l:=L) (l':=L) himC
 refine SW.of ?_
 cases L with
 | nil=>
   have hB0:B=[]:=List.length_eq_zero_iff.1 hLl.symm
   have hv0:mz hC.length []=bD:=rfl
   have hh0:lv hC im m B (gE B)=lv hC im m [] []:=by
    rw[hB0]
    show lv hC im m [] (List.mergeSort [] _)=_
    rw[List.mergeSort_nil]
   rw[hh0]
   rw[hv0] at hobL
   simp only[MK.cells] at hobL
   generalize lv hC im m [] []=hL at hobL ⊢
   refine aG hobL ?_
   refine zj Tryz.func103 ?_
   refine Dk.mono ?_
   rintro _ h2 ⟨rfl,e2⟩
   obtain rfl:=e2.symm
   refine aB ?_
   exact⟨rfl,aO,rfl⟩
 | cons a r=>
   have hv0:mz hC.length (a :: r) = .slice (some ⟨hC.length,0,some r.length⟩) (r.length+1) (r.length+1):=rfl
   have hl1:(hC.set im (.aj (MK.cells { m with vb:=mz hC.length (a :: r) }) 0 true 94)).length=hC.length:=List.length_set
   have hgL:(lv hC im m (a :: r) (a :: r))[hC.length]? = some (.aj (BC (a :: r)) r.length true 70):=by
    unfold lv
    rw[List.getElem?_append_right (by rw[hl1];exact Nat.le_refl _),hl1,Nat.sub_self]
    rfl
   have hiB:∀ x∈a :: r,Fv x:=fun x hx=>by
    have:=hLp.mem_iff.1 hx
    rw[hB,List.mem_map] at this
    obtain⟨p,hp,rfl⟩:=this
    exact hFi p hp
   have hso:=Dh (c:=r.length+1) hgL om hiB
   have hfin:(lv hC im m (a :: r) (a :: r)).set hC.length (.aj (BC (gE (a :: r))) r.length true 70)=lv hC im m B (gE B):=by
    rw[hs]
    unfold lv
    rw[List.set_append_right _ _ (by rw[hl1];exact Nat.le_refl _),hl1,Nat.sub_self,Ka (l':=B) hLl,← Gu (l:=a :: r) (x:=gE B) hLl]
    rfl
   rw[hfin] at hso
   rw[hv0] at hobL
   simp only[MK.cells] at hobL
   generalize lv hC im m (a :: r) (a :: r)=hL at hobL hso ⊢
   simp only[List.length_cons] at hso
   refine aG hobL ?_
   refine zj Tryz.func103 ?_
   refine hso.mono ?_
   rintro _ h2 ⟨rfl,rfl⟩
   refine aB ?_
   exact⟨rfl,aO,rfl⟩
·have hDo:=yQ (m:=m) (l:=B) (l':=gE B) himC
 have hDk:∀ (j:Nat) (o:av),j≠im→hC[j]? = some o→(lv hC im m B (gE B))[j]? = some o:=fun j o h1 h2=>sY h1 h2
 have hDl:hC.length≤(lv hC im m B (gE B)).length:=by
  unfold lv
  rw[List.length_append,List.length_set]
  exact Nat.le_add_right _ _
 have hDp:h0 <+: lv hC im m B (gE B):=(aY KC.p K.a).trans (List.prefix_append _ _)
 have hDb:aK hk (lv hC im m B (gE B)) (mz hC.length B) B.length (BC (gE B)) 70:=Ez hpC.length_le (List.length_mergeSort B).symm
 obtain⟨pB,cB,hvB⟩:=sD (l:=B) (n:=hC.length)
 rw[hvB] at hDo hDb
 generalize lv hC im m B (gE B)=hD at hDo hDk hDl hDp hDb ⊢
 have himD:im<hD.length:=by omega
 have hDo':=hDo
 simp only[MK.cells,hnts] at hDo'
 refine zu ?_
 iterate 7 (refine zx (OS hDo') ?_)
 refine CX (N:=aW d) ak rfl ak rfl om ?_
 dsimp only[St.aX,St.put]
 have hx1:(hD++[av.aj ((List.replicate (aW d) (⟨0,0,0,0⟩:aZ)).flatMap aZ.cells) 0 true 54])[im]? = some (.aj (MK.cells { m with vb:=(.slice pB B.length cB) }) 0 true 94):=bo hDo
 have hx1':=hx1
 simp only[MK.cells,hnts] at hx1'
 have hF1:(hD++[av.aj ((List.replicate (aW d) (⟨0,0,0,0⟩:aZ)).flatMap aZ.cells) 0 true 54])[hD.length]? = some (.aj ((List.replicate (aW d) (⟨0,0,0,0⟩:aZ)).flatMap aZ.cells) 0 true 54):=aJ
 have hp1:hD <+: hD++[av.aj ((List.replicate (aW d) (⟨0,0,0,0⟩:aZ)).flatMap aZ.cells) 0 true 54]:=aI
 have hl1:(hD++[av.aj ((List.replicate (aW d) (⟨0,0,0,0⟩:aZ)).flatMap aZ.cells) 0 true 54]).length=hD.length+1:=by simp
 generalize (hD++[av.aj ((List.replicate (aW d) (⟨0,0,0,0⟩:aZ)).flatMap aZ.cells) 0 true 54])=h1 at hx1 hx1' hF1 hp1 hl1 ⊢
 obtain⟨nF,hnF⟩:∃ nF,nF=hD.length:=⟨_,rfl⟩
 rw[← hnF] at hF1
 rw[← hnF]
 iterate 2 (refine zx pR ?_)
 refine ch (v:=(.slice (some ⟨nF,0,some 0⟩) (aW d) (aW d))) (vs:=[(.slice (some ⟨nF,0,some 0⟩) (aW d) (aW d))]) (cells':=MK.cells { m with vb:=(.slice pB B.length cB),vF:=(.slice (some ⟨nF,0,some 0⟩) (aW d) (aW d)) }) ak rfl rfl rfl ak hx1 ak rfl rfl ?_
 dsimp only
 have hx2:(h1.set im (.aj (MK.cells { m with vb:=(.slice pB B.length cB),vF:=(.slice (some ⟨nF,0,some 0⟩) (aW d) (aW d)) }) 0 true 94))[im]? = some (.aj (MK.cells { m with vb:=(.slice pB B.length cB),vF:=(.slice (some ⟨nF,0,some 0⟩) (aW d) (aW d)) }) 0 true 94):=aw hx1
 have hF2:(h1.set im (.aj (MK.cells { m with vb:=(.slice pB B.length cB),vF:=(.slice (some ⟨nF,0,some 0⟩) (aW d) (aW d)) }) 0 true 94))[nF]? = some (.aj ((List.replicate (aW d) (⟨0,0,0,0⟩:aZ)).flatMap aZ.cells) 0 true 54):=by rw[aD om];exact hF1
 have hk2:∀ (j:Nat) (o:av),j≠im→hD[j]? = some o→(h1.set im (.aj (MK.cells { m with vb:=(.slice pB B.length cB),vF:=(.slice (some ⟨nF,0,some 0⟩) (aW d) (aW d)) }) 0 true 94))[j]? = some o:=fun j o hj h=>by rw[aD hj.symm];exact ag hp1 h
 have hl2:(h1.set im (.aj (MK.cells { m with vb:=(.slice pB B.length cB),vF:=(.slice (some ⟨nF,0,some 0⟩) (aW d) (aW d)) }) 0 true 94)).length=hD.length+1:=by rw[List.length_set];exact hl1
 generalize h1.set im (.aj (MK.cells { m with vb:=(.slice pB B.length cB),vF:=(.slice (some ⟨nF,0,some 0⟩) (aW d) (aW d)) }) 0 true 94)=h2 at hx2 hF2 hk2 hl2 ⊢
 have hx2':=hx2
 simp only[MK.cells,hnts] at hx2'
 clear hx1 hx1' hF1 hp1 hl1
 apply zn
 show CW _ _ ⟨_,[],h2⟩ _
 refine zu ?_
 iterate 7 (refine zx (OS hx2') ?_)
 refine Fe (N:=aW d) ak rfl ak rfl om ?_
 dsimp only[St.aX,St.put]
 have hx3:(h2++[av.aj ((List.replicate (aW d) (0:Int)).map i64) 0 true 3])[im]? = some (.aj (MK.cells { m with vb:=(.slice pB B.length cB),vF:=(.slice (some ⟨nF,0,some 0⟩) (aW d) (aW d)) }) 0 true 94):=bo hx2
 have hx3':=hx3
 simp only[MK.cells,hnts] at hx3'
 have hF3:(h2++[av.aj ((List.replicate (aW d) (0:Int)).map i64) 0 true 3])[nF]? = some (.aj ((List.replicate (aW d) (⟨0,0,0,0⟩:aZ)).flatMap aZ.cells) 0 true 54):=bo hF2
 have hR3:(h2++[av.aj ((List.replicate (aW d) (0:Int)).map i64) 0 true 3])[h2.length]? = some (.aj ((List.replicate (aW d) (0:Int)).map i64) 0 true 3):=aJ
 have hk3:∀ (j:Nat) (o:av),j≠im→hD[j]? = some o→(h2++[av.aj ((List.replicate (aW d) (0:Int)).map i64) 0 true 3])[j]? = some o:=fun j o hj h=>bo (hk2 j o hj h)
 have hl3:(h2++[av.aj ((List.replicate (aW d) (0:Int)).map i64) 0 true 3]).length=hD.length+2:=by simp [hl2]
 generalize (h2++[av.aj ((List.replicate (aW d) (0:Int)).map i64) 0 true 3])=h3 at hx3 hx3' hF3 hR3 hk3 hl3 ⊢
 obtain⟨nR,hnR⟩:∃ nR,nR=h2.length:=⟨_,rfl⟩
 rw[← hnR] at hR3
 rw[← hnR]
 iterate 2 (refine zx pR ?_)
 refine ch (v:=(.slice (some ⟨nR,0,some 0⟩) (aW d) (aW d))) (vs:=[(.slice (some ⟨nR,0,some 0⟩) (aW d) (aW d))]) (cells':=MK.cells { m with vb:=(.slice pB B.length cB),vF:=(.slice (some ⟨nF,0,some 0⟩) (aW d) (aW d)),vR:=(.slice (some ⟨nR,0,some 0⟩) (aW d) (aW d)) }) ak rfl rfl rfl ak hx3 ak rfl rfl ?_
 dsimp only
 have S0:FS hD im nF nR (h3.set im (.aj (MK.cells { m with vb:=(.slice pB B.length cB),vF:=(.slice (some ⟨nF,0,some 0⟩) (aW d) (aW d)),vR:=(.slice (some ⟨nR,0,some 0⟩) (aW d) (aW d)) }) 0 true 94)) { m with vb:=(.slice pB B.length cB),vF:=(.slice (some ⟨nF,0,some 0⟩) (aW d) (aW d)),vR:=(.slice (some ⟨nR,0,some 0⟩) (aW d) (aW d)) } (List.replicate (aW d) sq) (List.replicate 0 (-1)++List.replicate (aW d-0) 0):=
  ⟨aw hx3,by rw[aD om];exact hF3,by rw[aD om];exact hR3,fun j o _ hj h=>by rw[aD hj.symm];exact hk3 j o hj h,by rw[List.length_set];omega⟩
 generalize h3.set im (.aj (MK.cells { m with vb:=(.slice pB B.length cB),vF:=(.slice (some ⟨nF,0,some 0⟩) (aW d) (aW d)),vR:=(.slice (some ⟨nR,0,some 0⟩) (aW d) (aW d)) }) 0 true 94)=h4 at S0 ⊢
 clear hx2 hx2' hF2 hk2 hx3 hx3' hF3 hR3 hk3
 have n1:nF≠im:=by omega
 have n2:nF≠nR:=by omega
 have n3:hD.length≤nF:=by omega
 have n4:nR≠im:=by omega
 have n5:hD.length≤nR:=by omega
 clear hl2 hl3 hnF hnR
 apply zn
 show CW _ _ ⟨_,[],h4⟩ _
 try apply zs
 have hx4:=S0.o
 simp only[MK.cells,hnts] at hx4
 refine aG hx4 ?_
 refine CW.mono (Q:=fun e s'=>e = .exit 4∧∃ x,FS hD im nF nR x { m with vb:=(.slice pB B.length cB),vF:=(.slice (some ⟨nF,0,some 0⟩) (aW d) (aW d)),vR:=(.slice (some ⟨nR,0,some 0⟩) (aW d) (aW d)) } (List.replicate (aW d) sq) (List.replicate (aW d) (-1))∧s'.h=x∧bB [(0,.val (.pointer (some ⟨im,0,some 0⟩))),(2,.val (.pointer (some ⟨im,12,some 0⟩)))] s'.fr) ?_ ?_
 ·refine a9 (aW d) (fun k (x:ah)=>[(0,.val (.pointer (some ⟨im,0,some 0⟩))),(2,.val (.pointer (some ⟨im,12,some 0⟩))),(78,.val (.slice (some ⟨nR,0,some 0⟩) (aW d) (aW d))),(79,.val (i64 (aW d))),(80,.val (i64 k))]) (fun _ x=>x) (fun k x=>FS hD im nF nR x { m with vb:=(.slice pB B.length cB),vF:=(.slice (some ⟨nF,0,some 0⟩) (aW d) (aW d)),vR:=(.slice (some ⟨nR,0,some 0⟩) (aW d) (aW d)) } (List.replicate (aW d) sq) (List.replicate k (-1)++List.replicate (aW d-k) 0)) h4 aO rfl S0 ?_
  rintro k x hkn S
  by_cases hlt:k<aW d
  ·have w1:=cH hlt
   have w2:=inc hlt om
   have q3:=aV hlt
   have hxo:=S.o
   simp only[MK.cells] at hxo
   have S2:=S.QO n4 n2 n5 (List.replicate (k+1) (-1)++List.replicate (aW d-(k+1)) 0)
   have hwr:=Ei (f:=i64) (l:=List.replicate k (-1:Int)++List.replicate (aW d-k) 0) (i:=k) (x:=-1) (by rw[List.length_append,List.length_replicate,List.length_replicate];omega)
   rw[Fh hlt] at hwr
   refine aG q3 ?_
   refine af rfl ?_
   refine ir hxo w1 Nat.mul_one ?_
   refine ch (v:=i64 (-1)) (vs:=[i64 (-1)]) ak rfl rfl rfl (TB hxo w1 Nat.mul_one) S.R rfl rfl hwr ?_
   dsimp only
   generalize x.set nR (.aj ((List.replicate (k+1) (-1)++List.replicate (aW d-(k+1)) 0).map i64) 0 true 3)=x2 at S2 ⊢
   refine aG w2 ?_
   refine⟨hlt,x2,aO,rfl,S2⟩
  ·have q3:=aT hlt
   obtain rfl:k=aW d:=by omega
   rw[Nat.sub_self,List.replicate_zero,List.append_nil] at S
   refine aG q3 ?_
   refine ae rfl ?_
   refine aC ?_
   exact⟨rfl,x,S,rfl,aO⟩
 rintro e s' ⟨rfl,x,S,hh,hf⟩
 show CW _ _ _ _
 refine aA _ hf ?_
 rw[hh]
 clear hf hh s' hx4 S0
 obtain⟨pFo,cFo,hvFo⟩:=bW.form K.D.follows
 obtain⟨pRe,cRe,hvRe⟩:=bW.form K.D.an
 have hkk:=bm sE
 have hmis:m.is≠im:=by
  intro e
  rw[e,K.o] at hsm
  cases hsm
 have hsD:hD[m.is]? = some (.map (fz sE)):=hDk _ _ hmis (ag hpC hsm)
 have hsD':∀ {x:ah} {mm:MK} {SF:List aZ} {SR:List Int},FS hD im nF nR x mm SF SR→x[m.is]? = some (.map (fz sE)):=fun S=>S.k _ _ (List.getElem?_eq_some_iff.1 hsD).1 hmis hsD
 have hp0:∀ {x:ah} {mm:MK} {SF:List aZ} {SR:List Int},FS hD im nF nR x mm SF SR→h0 <+: x:=fun S=>by
  have e:=List.prefix_iff_eq_take.1 hDp
  refine List.prefix_iff_getElem?.2 fun i hi=>?_
  have h1:=List.prefix_iff_getElem?.1 hDp i hi
  exact S.k i _ (List.getElem?_eq_some_iff.1 h1).1 (by have:=K.a;omega) h1
 have hxo:=S.o
 simp only[MK.cells,hvFo] at hxo
 refine aG hxo ?_
 refine CW.mono (Q:=fun e s'=>e = .exit 6∧∃ x,FS hD im nF nR x { m with vb:=(.slice pB B.length cB),vF:=(.slice (some ⟨nF,0,some 0⟩) (aW d) (aW d)),vR:=(.slice (some ⟨nR,0,some 0⟩) (aW d) (aW d)) } (jV d d.follows) (List.replicate (aW d) (-1))∧s'.h=x∧bB [(0,.val (.pointer (some ⟨im,0,some 0⟩))),(2,.val (.pointer (some ⟨im,12,some 0⟩)))] s'.fr) ?_ ?_
 ·refine a9 d.follows.length (fun k (x:ah)=>[(0,.val (.pointer (some ⟨im,0,some 0⟩))),(2,.val (.pointer (some ⟨im,12,some 0⟩))),(95,.val (.slice pFo d.follows.length cFo)),(96,.val (i64 d.follows.length)),(97,.val (i64 k))]) (fun _ x=>x) (fun k x=>FS hD im nF nR x { m with vb:=(.slice pB B.length cB),vF:=(.slice (some ⟨nF,0,some 0⟩) (aW d) (aW d)),vR:=(.slice (some ⟨nR,0,some 0⟩) (aW d) (aW d)) } (jV d (d.follows.take k)) (List.replicate (aW d) (-1))) x aO rfl (by rw[List.take_zero];exact S) ?_
  clear hxo S x
  rintro k x hkn S
  by_cases hlt:k<d.follows.length
  ·have hfo:=K.D.follows
   rw[hvFo] at hfo
   obtain⟨id,au,own,c',hv,hid⟩:=bW.at (bW.mono hfo (hp0 S)) om
   cases hv
   have hrd:=iR hlt
   obtain⟨hfs,hfw⟩:=hfS _ (List.getElem_mem hlt)
   have hgs:=hsg _ hfs
   have hns:=hsn _ hfs
   have htk:=oA (d:=d) hlt
   have hfl2:=EM (d:=d) k d.follows
   have hwf:=Hy (d:=d) (fun x hx=>(hfS x hx).2) k
   have w1:=cH hlt
   have w2:=inc hlt om
   have q3:=aV hlt
   have w3:=cH hns
   have hxo:=S.o
   have hxs:=hsD' S
   have hxF:=S.F
   generalize d.follows[k]=f at hrd hfs hfw hgs hns htk w3
   generalize jV d (d.follows.take k)=SF at S htk hfl2 hwf hxF
   generalize fZ d f.sort=n at hgs hns htk w3
   have hnl:n<SF.length:=by omega
   have hgd:SF.getD n sq=SF[n]:=by rw[List.getD_eq_getElem?_getD,List.getElem?_eq_getElem hnl];rfl
   rw[hgd] at htk
   have hsw:=hwf _ (List.getElem_mem hnl)
   have hrF:je (SF.flatMap aZ.cells) (n*4) 4=some [u64 SF[n].a,u64 SF[n].b,u64 SF[n].c,u64 SF[n].d]:=bG (f:=aZ.cells) (fun _=>rfl) SF n SF[n] (by simp [hnl])
   have hwr:=AF (f:=aZ.cells) (k:=4) (fun _=>rfl) (x:=SF[n].union f.set) hnl
   rw[← htk] at hwr
   have S2:=S.SK n1 n2 n3 (jV d (d.follows.take (k+1)))
   have hun:=CT (h:=x) hsw hfw
   generalize SF[n]=sn at hrF hwr hun hsw
   have hxo':=hxo
   simp only[MK.cells] at hxo
   refine aG q3 ?_
   refine af rfl ?_
   refine ir w1 hid hrd ?_
   refine aL 6 mixed kr ?_
   refine fN hxo hxs hgs hkk ?_
   refine aA [(0,.val (.pointer (some ⟨im,0,some 0⟩))),(2,.val (.pointer (some ⟨im,12,some 0⟩))),(9,.box [.string f.sort,u64 f.set.a,u64 f.set.b,u64 f.set.c,u64 f.set.d]),(10,.val (i64 n)),(95,.val (.slice (some ⟨id,0,some au⟩) d.follows.length cFo)),(96,.val (i64 d.follows.length)),(97,.val (i64 k))] aO ?_
   show CW _ _ ⟨_,[],x⟩ _
   try apply zs
   apply bi (L:=[[],[0],[0,1],[0,1,2],[],[],[5],[5,6],[5,6,7],[],[5,6,7,8,9],[5,6,7,8,9,10],[],[12],[5,6,7,8,9,10,11,12,13],[0,1,2,3,4],[0,1,2,3,4,5,6,7,8,9,10,11,12,13,14,15]]) (act:=[16]) (hs:=[x.set nF (.aj ((jV d (d.follows.take (k+1))).flatMap aZ.cells) 0 true 54)]) (resL:=[_,_,_,_,_,_,_,_,_,_,_,_,_,_,_,_,_]) (frF:=[(0,.val (.pointer (some ⟨im,0,some 0⟩))),(2,.val (.pointer (some ⟨im,12,some 0⟩))),(95,.val (.slice (some ⟨id,0,some au⟩) d.follows.length cFo)),(96,.val (i64 d.follows.length)),(97,.val (i64 k))])
   case hm=>exact mixed
   case hc=>kernel_rfl
   case ha=>rfl
   case hb=>rfl
   case hS=>
    refine tT hxo w3 hxF hrF ?_
    apply az.cons
    ·rfl
    ·refine⟨?_,trivial⟩
     exact bg (fn:=Tryz.f105) (args:=[sn.val,f.set.val]) (cap:=[]) rfl ak rfl ak ak Tryz.func105 kr kr hun
    ·rfl
    refine tT hxo w3 hxF hrF ?_
    apply az.cons
    ·rfl
    ·refine⟨?_,trivial⟩
     exact One.jn (r:=.sl .dy) ak rfl ak ak hxF ak rfl hwr rfl
    ·rfl
    exact az.nil _
   case ht=>rfl
   case hF=>exact zh
   show CW _ _ ⟨_,[],x.set nF (.aj ((jV d (d.follows.take (k+1))).flatMap aZ.cells) 0 true 54)⟩ _
   generalize x.set nF (.aj ((jV d (d.follows.take (k+1))).flatMap aZ.cells) 0 true 54)=x2 at S2 ⊢
   refine aG w2 ?_
   refine⟨hlt,x2,aO,rfl,S2⟩
  ·have q3:=aT hlt
   obtain rfl:k=d.follows.length:=by omega
   rw[List.take_length] at S
   refine aG q3 ?_
   refine ae rfl ?_
   refine aC ?_
   exact⟨rfl,x,S,rfl,aO⟩
 clear hxo S x
 rintro e s' ⟨rfl,x,S,hh,hf⟩
 show CW _ _ _ _
 refine aA _ hf ?_
 rw[hh]
 clear hf hh s'
 have hxo:=S.o
 simp only[MK.cells,hvRe] at hxo
 refine aG hxo ?_
 refine a9 d.an.length (fun k (x:ah)=>[(0,.val (.pointer (some ⟨im,0,some 0⟩))),(2,.val (.pointer (some ⟨im,12,some 0⟩))),(130,.val (.slice pRe d.an.length cRe)),(131,.val (i64 d.an.length)),(132,.val (i64 k))]) (fun _ x=>x) (fun k x=>FS hD im nF nR x { m with vb:=(.slice pB B.length cB),vF:=(.slice (some ⟨nF,0,some 0⟩) (aW d) (aW d)),vR:=(.slice (some ⟨nR,0,some 0⟩) (aW d) (aW d)) } (jV d d.follows) (qy d (d.an.take k))) x aO rfl (by rw[List.take_zero];exact S) ?_
 clear hxo S x
 rintro k x hkn S
 by_cases hlt:k<d.an.length
 ·have hre:=K.D.an
  rw[hvRe] at hre
  obtain⟨id,au,own,c',hv,hid⟩:=bW.at (bW.mono hre (hp0 S)) om
  cases hv
  have hrd:=gM hlt
  obtain⟨hfs,hfb⟩:=hrS _ (List.getElem_mem hlt)
  have hgs:=hsg _ hfs
  have hgb:=hsg _ hfb
  have hns:=hsn _ hfs
  have htk:=sX (d:=d) hlt
  have hfl2:=Fk (d:=d) k d.an
  have w1:=cH hlt
  have w2:=inc hlt om
  have q3:=aV hlt
  have w3:=cH hns
  have hxo:=S.o
  have hxs:=hsD' S
  have hxR:=S.R
  generalize d.an[k]=f at hrd hfs hgs hgb hns htk w3
  generalize qy d (d.an.take k)=SR at S htk hfl2 hxR
  generalize fZ d f.sort=n at hgs hns htk w3
  generalize fZ d f.jO=nb at hgb htk
  have hnl:n<SR.length:=by omega
  have hwr:=Ei (f:=i64) (l:=SR) (x:=(nb:Int)) hnl
  rw[← htk] at hwr
  have S2:=S.QO n4 n2 n5 (qy d (d.an.take (k+1)))
  simp only[MK.cells] at hxo
  refine aG q3 ?_
  refine af rfl ?_
  refine ir w1 hid hrd ?_
  refine aL 18 mixed kr ?_
  refine y8 hxo hxs hgs hgb hkk w3 Nat.mul_one ?_
  refine ch (v:=i64 (nb:Int)) (vs:=[i64 (nb:Int)]) ak rfl rfl rfl (TB hxo w3 Nat.mul_one) hxR ak rfl hwr ?_
  dsimp only
  generalize x.set nR (.aj ((qy d (d.an.take (k+1))).map i64) 0 true 3)=x2 at S2 ⊢
  refine aG w2 ?_
  refine⟨hlt,x2,aO,rfl,S2⟩
 ·have q3:=aT hlt
  obtain rfl:k=d.an.length:=by omega
  rw[List.take_length] at S
  refine aG q3 ?_
  refine ae rfl ?_
  refine aC ?_
  refine⟨rfl,trivial,_,_,_,⟨hp0 S,?_,S.o,?_,?_,?_,?_⟩⟩
  ·show hk.length≤x.length
   have:=S.l;have:=hpC.length_le;omega
  ·exact fun j o hj hne2 h=>S.k j o (by have:=hpC.length_le;omega) hne2 (hDk j o hne2 (ag hpC h))
  ·rw[← hF]
   exact hDb.mono fun j o hj g=>S.k j o (List.getElem?_eq_some_iff.1 g).1 (by have:=(hDb.lt hj).1;have:=(List.getElem?_eq_some_iff.1 K.o).1;omega) g
  ·exact .inr ⟨nF,0,by have:=hpC.length_le;omega,rfl,S.F⟩
  ·exact .inr ⟨nR,0,by have:=hpC.length_le;omega,rfl,S.R⟩
·exact fun h2 hP=>⟨_,ak,rfl,hP⟩}
end
theorem jT {ps:List Prod} {s:ByteArray} (h:b6 ps s≠0):s∈aF ps:=by{
apply Classical.byContradiction
intro q
exact h (ss.2 q)}
theorem AJ {d:b7} {p:Prod} {s:Sym} (hp:p∈d.aa) (hs:s∈p.al) (hn:cN s.name=false):s.name∈eM d:=by{
unfold eM nP
refine List.mem_append_left _ (List.mem_append_left _ ?_)
rw[List.mem_flatMap]
refine⟨p,hp,?_⟩
unfold cg
rw[List.mem_filterMap]
refine⟨s,hs,?_⟩
unfold cN at hn
rw[if_neg (of_decide_eq_false hn)]}
theorem o3 {s:Sym} (h:bf s=true):s.text.size≤32∧(ik s=true→s.sep.size≤32)∧(s.kind=1∨s.kind=2∨s.kind=3∨s.kind=4∨s.kind=5∨s.kind=6):=by{
unfold bf at h
have hz:∀ {b:ByteArray},cN b=true→b.size≤32:=fun h=>by rw[Ax.1 h];decide
by_cases k1:s.kind=1
·rw[if_pos k1] at h
 simp only[Bool.and_eq_true,decide_eq_true_eq] at h
 exact⟨by omega,fun _=>hz h.2.2.2,.inl k1⟩
rw[if_neg k1] at h
by_cases k2:s.kind=2
·rw[if_pos k2] at h
 simp only[Bool.and_eq_true] at h
 exact⟨hz h.1,fun _=>hz h.2.2,.inr (.inl k2)⟩
rw[if_neg k2] at h
by_cases k3:s.kind=3
·rw[if_pos k3] at h
 simp only[Bool.and_eq_true] at h
 exact⟨hz h.1,fun _=>hz h.2.2.2,.inr (.inr (.inl k3))⟩
rw[if_neg k3] at h
by_cases k4:s.kind=4
·rw[if_pos k4] at h
 simp only[Bool.and_eq_true] at h
 exact⟨hz h.1,fun _=>hz h.2.1,.inr (.inr (.inr (.inl k4)))⟩
rw[if_neg k4] at h
by_cases k5:s.kind=5∨s.kind=6
·rw[if_pos k5] at h
 by_cases e:cN s.name=true
 ·rw[if_pos e] at h
  simp only[Bool.and_eq_true] at h
  exact⟨hz h.1,fun _=>hz h.2,.inr (.inr (.inr (.inr k5)))⟩
 ·rw[if_neg e] at h
  simp only[Bool.and_eq_true,decide_eq_true_eq] at h
  exact⟨hz h.1,fun _=>by omega,.inr (.inr (.inr (.inr k5)))⟩
·rw[if_neg k5] at h
 cases h}
theorem sW {d:b7} (hr:cQ d=true) {p:Prod} (hp:p∈d.aa) {s:Sym} (hs:s∈p.al):bf s=true:=by{
unfold cQ at hr
simp only[Bool.and_eq_true] at hr
have hrp:=List.all_eq_true.1 hr.2.1 _ hp
unfold bV at hrp
simp only[Bool.and_eq_true] at hrp
exact List.all_eq_true.1 hrp.2.2 _ hs}
section
variable {d:b7}
theorem jZ (hp:cZ d≤160):d.aa.length≤160∧d.ax.length≤160∧d.follows.length≤160∧d.an.length≤160∧dp (fun p=>p.al.length) d.aa+dp CF d.ax≤160:=by
 unfold cZ at hp
 omega
theorem Fo (hc:ka d) {p:Prod} (hp:p∈d.aa):wx d p:=by{
have hr:cQ d=true:=hc 0 (by decide)
have hu:∀ s∈eM d,b6 d.aa s≠0:=hc 3 (by decide)
have hl:∀ p∈d.aa,tY d p=false:=hc 7 (by decide)
refine⟨hp,(qA hr hp).2,fun s hs=>(o3 (sW hr hp hs)).1,fun s hs=>?_,oV.2 ⟨p,hp,rfl⟩,?_⟩
·cases e:cN s.name with
 | true=>exact .inr (.inl rfl)
 | false=>exact .inr (.inr (jT (hu _ (AJ hp hs e))))
·have:=hl p hp
 unfold tY at this
 simp only[Bool.or_eq_false_iff,decide_eq_false_iff_not] at this
 omega}
theorem Hv (hc:ka d) (hp:cZ d≤160):nL d:=by{
have hr:cQ d=true:=hc 0 (by decide)
have hu:∀ s∈eM d,b6 d.aa s≠0:=hc 3 (by decide)
have he:b6 d.aa d.start=2∧(d.layout.size=0∨b6 d.aa d.layout=1):=hc 2 (by decide)
obtain⟨h1,h2,h3,h4,h5⟩:=jZ hp
refine⟨fun p hp=>Fo hc hp,by omega,jT om,?_,fun k hk=>?_,?_⟩
·rcases he.2 with e|e
 ·exact .inl (Ax.2 e)
 ·exact .inr (jT om)
·obtain⟨p,hp,s,hs,hL,rfl⟩:=mem_keys.1 hk
 have hR:=sW hr hp hs
 refine⟨?_,(o3 hR).2.1 hL⟩
 show cN s.name=true∨s.name∈_
 cases e:cN s.name with
 | true=>exact .inl rfl
 | false=>exact .inr (jT (hu _ (AJ hp hs e)))
·have:=lE (ps:=d.aa) (l:=[])
 simp only[List.length_nil] at this
 unfold bj
 omega}
theorem Ep (hp:cZ d≤160) (hn:∀ p∈d.aa,p.al.length≤12) (k:Nat) (hk:k<d.aa.length) (j:Nat):(gG d.aa[k].lex (bj (d.aa.take k)) (d.aa[k].al.take j)).length≤3000:=by{
obtain⟨h1,h2,h3,h4,h5⟩:=jZ hp
have a:=og (lex:=d.aa[k].lex) (ys:=d.aa[k].al.take j) (l:=bj (d.aa.take k))
have b:=lE (ps:=d.aa.take k) (l:=[])
have c:=lu (f:=fun p:Prod=>p.al.length) (B:=12) (l:=d.aa.take k) fun p hp=>hn p (List.mem_of_mem_take hp)
have e:=hn _ (List.getElem_mem hk)
rw[List.length_take] at a c
simp only[List.length_nil] at b
unfold bj at a ⊢
omega}
def rh {α:Type} (P:α→Bool) (l:List α):List Nat:=(List.range l.length).filter fun i=>match l[i]? with
 | some x=>P x
 | none=>false
theorem qt {α:Type} {P:α→Bool} {A B:List α}:rh P (A++B)=rh P A++(rh P B).map (A.length + ·):=by{
unfold rh
rw[List.length_append,List.range_add,List.filter_append,List.filter_map]
congr 1
·refine List.filter_congr fun i hi=>?_
 rw[List.getElem?_append_left (List.mem_range.1 hi)]
·congr 1
 refine List.filter_congr fun i hi=>?_
 simp only[Function.comp_apply]
 rw[List.getElem?_append_right om,Nat.add_sub_cancel_left]}
theorem nV {α:Type} {P:α→Bool} {l:List α} (h:∀ x∈l,P x=false):rh P l=[]:=by{
unfold rh
rw[List.filter_eq_nil_iff]
intro i hi
rw[List.getElem?_eq_getElem (List.mem_range.1 hi)]
simp only[h _ (List.getElem_mem _),Bool.false_eq_true,not_false_eq_true]}
theorem Fb {α:Type} {P:α→Bool} {l:List α} (h:∀ x∈l,P x=true):rh P l=List.range l.length:=by{
unfold rh
rw[List.filter_eq_self]
intro i hi
rw[List.getElem?_eq_getElem (List.mem_range.1 hi)]
exact h _ (List.getElem_mem _)}
def Lz (i:Nat) (o:gD):Bool:=decide (o.kind=0)&&decide (o.prod=(i:Int))
theorem zd {os:List gD} {i:Nat}:el os i=rh (Lz i) os:=by{
unfold el rh
refine List.filter_congr fun j _=>?_
unfold yC Lz
cases os[j]?<;>rfl}
def Ny (d:b7) (i:Nat):Nat:=(iI d i).length
abbrev fQ (d:b7):List gD:=(wP d).map (·.2)
theorem A5 {i:Nat} {p:Prod}:(ji d i p).length=jy p:=by unfold ji;rw[List.length_map,List.length_range]
theorem Qe {i:Nat} (hi:i<d.aa.length):∀ k,k≤d.aa.length→rh (Lz i) ((iI d k).map (·.2))=if i<k then (List.range (jy d.aa[i])).map (Ny d i + ·) else []
 | 0,_=>rfl
 | k+1,hk=>by
   have ih:=Qe hi k om
   rw[lD (show k<d.aa.length by omega),List.map_append,qt,ih]
   by_cases e:i=k
   ·subst e
    rw[if_neg om,if_pos om,List.nil_append,Fb]
    ·rw[List.length_map,List.length_map,A5]
     rfl
    ·intro x hx
     unfold ji at hx
     rw[List.map_map,List.mem_map] at hx
     obtain⟨m,_,rfl⟩:=hx
     unfold Lz iv
     simp
   ·rw[nV (l:=(ji d k _).map _)]
    ·by_cases q:i<k
     ·rw[if_pos q,if_pos om];simp
     ·rw[if_neg q,if_neg om];rfl
    ·intro x hx
     unfold ji at hx
     rw[List.map_map,List.mem_map] at hx
     obtain⟨m,_,rfl⟩:=hx
     unfold Lz iv
     simp
     omega
theorem Kt {l:List bI}:∀ x∈iY d l,x.2.kind=1∨x.2.kind=2:=by{
intro x hx
unfold iY at hx
rw[List.mem_flatMap] at hx
obtain⟨k,_,hx⟩:=hx
unfold B6 at hx
simp only[List.mem_cons,List.not_mem_nil,or_false] at hx
rcases hx with rfl|rfl
·exact .inl rfl
·exact .inr rfl}
theorem JE:∀ x∈nB d,x.2.kind=3∨x.2.kind=4∨x.2.kind=5:=by{
intro x hx
unfold nB at hx
split at hx
·simp only[List.mem_cons,List.not_mem_nil,or_false] at hx
 subst hx
 exact .inr (.inr rfl)
·simp only[List.mem_cons,List.not_mem_nil,or_false] at hx
 rcases hx with rfl|rfl|rfl
 ·exact .inl rfl
 ·exact .inr (.inl rfl)
 ·exact .inr (.inr rfl)}
theorem Em {i:Nat} (hi:i<d.aa.length):el (fQ d) i=(List.range (jy d.aa[i])).map (Ny d i + ·):=by{
rw[zd]
unfold fQ wP
rw[List.map_append,List.map_append,qt,qt,Qe hi _ (Nat.le_refl _),if_pos hi,nV (l:=(iY d _).map _),nV (l:=(nB d).map _)]
·simp
·intro x hx
 rw[List.mem_map] at hx
 obtain⟨y,hy,rfl⟩:=hx
 have:=JE y hy
 unfold Lz
 rw[decide_eq_false om]
 rfl
·intro x hx
 rw[List.mem_map] at hx
 obtain⟨y,hy,rfl⟩:=hx
 have:=Kt y hy
 unfold Lz
 rw[decide_eq_false om]
 rfl}
end
end Go.Proofs.YtmdmimkbpikmoaaGreat
