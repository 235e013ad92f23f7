/- Several texts, one behind the other. -/
import Derived.Test.YtmdmimkbpikmoaaGreatZTc
import Derived.Test.YtmdmimkbpikmoaaGreatZG5
import Derived.Test.YtmdmimkbpikmoaaGreatZV4
import Derived.Test.YtmdmimkbpikmoaaGreatZW5
set_option linter.unusedSimpArgs false
set_option linter.unusedVariables false
set_option maxHeartbeats 8000000
namespace Go.Proofs.YtmdmimkbpikmoaaGreat
set_option maxRecDepth 20000
open Go.RowKit Am Ty
theorem H7 {a b c:Code} {s:St} {Q:AX→St→Prop} {I:St→Prop} {fr fr2:Am.Fr} {h:ai} {P:ai→Prop} (ha:SW env a s (fun e s'=>e = .normal∧I s')) (hb:∀ s',I s'→SW env b s' (fun e s''=>e = .normal∧bD fr s''.fr∧s''.h=h)) (hc:CW env c ⟨fr,[],h⟩ (fun e s'=>e = .normal∧bD fr2 s'.fr∧P s'.h)) (k:∀ h2,P h2→Q .normal ⟨fr2,[],h2⟩):CW env (.seq a (.seq b c)) s Q:=by{
unfold CW at hc
obtain⟨e,s1,hev,rfl,hf,hP⟩:=hc
refine FQ (e:=.normal) fr2 s1.h ?_ (k _ hP)
refine tg ha (fun e s' ⟨h1,_⟩ h2=>absurd h1 h2) fun s' ⟨_,hI⟩=>?_
refine tg (hb s' hI) (fun e s' ⟨h1,_⟩ h2=>absurd h1 h2) fun s'' ⟨_,hf2,hh⟩=>?_
refine gH fr hf2 ?_
rw[hh]
unfold SW
exact .Nc hev ⟨rfl,hf,rfl⟩}
def ej (F:List (aR×Int)) (seen:List Nat):List aR:=seen.filterMap fun i=>(F[i]?).map (·.1)
theorem zf {F:List (aR×Int)} {seen:List Nat} {i:Nat} {p:aR×Int} (h:F[i]? = some p):ej F (seen++[i])=ej F seen++[p.1]:=by{
unfold ej
rw[List.filterMap_append]
congr 1
simp [h]}
theorem ue {F:List (aR×Int)}:∀ {seen:List Nat},(∀ i∈seen,i<F.length)→(ej F seen).length=seen.length
 | [],_=>rfl
 | i :: s,h=>by
   have ih:=ue (F:=F) (seen:=s) fun j hj=>h j (List.mem_cons_of_mem _ hj)
   unfold ej at ih ⊢
   have hi:=h i (List.mem_cons_self)
   rw[List.filterMap_cons,List.getElem?_eq_getElem hi]
   simp only[Option.map_some,List.length_cons,ih]
theorem xl (F:List (aR×Int)):ej F (List.range F.length)=F.map (·.1):=by{
unfold ej
refine List.ext_getElem? fun j=>?_
have key:∀ n,n≤F.length→(List.range n).filterMap (fun i=>(F[i]?).map (·.1))=(F.take n).map (·.1):=by
 intro n
 induction n with
 | zero=>intro _;rfl
 | succ n ih=>
   intro hn
   rw[List.range_succ,List.filterMap_append,ih om,List.take_succ_eq_append_getElem om,List.map_append]
   congr 1
   simp [show n<F.length by omega]
rw[key _ (Nat.le_refl _),List.take_length]}
theorem AC {F:List (aR×Int)} {seen:List Nat} (hn:seen.Nodup) (hl:∀ i∈seen,i<F.length) (ha:∀ i,i<F.length→i∈seen):(ej F seen).Perm (F.map (·.1)):=by{
rw[← xl F]
unfold ej
refine List.Perm.filterMap _ ((List.perm_ext_iff_of_nodup hn List.nodup_range).2 fun i=>?_)
rw[List.mem_range]
exact⟨hl i,ha i⟩}
theorem D8 {os:List gN} {p a q:Nat} (hos:os.length≤4096) (hs:∀ o∈os,o.an.length≤1000000):∀ x∈sh os p a q,GC x:=by{
intro x hx
unfold sh at hx
rw[List.mem_flatMap] at hx
obtain⟨r,hr,hx⟩:=hx
have h1:=ma hr
unfold nw at hx
rw[List.getElem?_eq_getElem h1] at hx
simp only[List.mem_flatMap,List.mem_range] at hx
obtain⟨j,hj,hx⟩:=hx
have h2:=hs _ (List.getElem_mem h1)
unfold oR at hx
split at hx
·rw[List.mem_map] at hx
 obtain⟨k,hk,rfl⟩:=hx
 have h3:=ma hk
 exact⟨by simp only;omega,by simp only;omega,by simp only;omega⟩
·simp at hx}
theorem Gc {d:bS} {os:List gN} (hos:os.length≤4096) (hs:∀ o∈os,o.an.length≤1000000):∀ x∈iV d os,GC x:=by{
intro x hx
unfold iV fV at hx
simp only[List.mem_flatMap] at hx
obtain⟨l,_,p,_,q,_,hx⟩:=hx
unfold jK at hx
split at hx
·rw[List.mem_flatMap] at hx
 obtain⟨y,_,hx⟩:=hx
 unfold tH at hx
 split at hx
 ·split at hx
  ·exact D8 hos hs x hx
  ·simp at hx
 ·simp at hx
·simp at hx}
theorem oB:∀ {xs l:List aR},(iJ l xs).length≤l.length+xs.length
 | [],_=>Nat.le_refl _
 | x :: xs,l=>by
   have ih:=oB (xs:=xs) (l:=qN l x)
   have:(qN l x).length≤l.length+1:=by unfold qN;split<;>simp
   unfold iJ at ih ⊢
   rw[List.foldl_cons,List.length_cons]
   omega
def kF (d:bS) (l:List dO):List a8:=l.foldl (fun s x=>s.set (gJ d x.sort) ((s.getD (gJ d x.sort) vZ).union x.set)) (List.replicate (aV d) vZ)
def sZ (d:bS) (l:List dh):List Int:=l.foldl (fun s x=>s.set (gJ d x.sort) (gJ d x.jN:Int)) (List.replicate (aV d) (-1))
theorem oW {d:bS} {l:List dO} {k:Nat} (hk:k<l.length):kF d (l.take (k+1))=(kF d (l.take k)).set (gJ d l[k].sort) (((kF d (l.take k)).getD (gJ d l[k].sort) vZ).union l[k].set):=by{
unfold kF
rw[List.take_succ_eq_append_getElem hk,List.foldl_append]
rfl}
theorem ux {d:bS} {l:List dh} {k:Nat} (hk:k<l.length):sZ d (l.take (k+1))=(sZ d (l.take k)).set (gJ d l[k].sort) (gJ d l[k].jN:Int):=by{
unfold sZ
rw[List.take_succ_eq_append_getElem hk,List.foldl_append]
rfl}
theorem DY {d:bS}:∀ k (l:List dO),(kF d (l.take k)).length=aV d:=by{
intro k l
induction k with
| zero=>unfold kF;rw[List.take_zero];exact List.length_replicate
| succ k ih=>
  by_cases h:k<l.length
  ·rw[oW h,List.length_set];exact ih
  ·rw[List.take_of_length_le om]
   rw[List.take_of_length_le om] at ih
   exact ih}
theorem DV {d:bS}:∀ k (l:List dh),(sZ d (l.take k)).length=aV d:=by{
intro k l
induction k with
| zero=>unfold sZ;rw[List.take_zero];exact List.length_replicate
| succ k ih=>
  by_cases h:k<l.length
  ·rw[ux h,List.length_set];exact ih
  ·rw[List.take_of_length_le om]
   rw[List.take_of_length_le om] at ih
   exact ih}
theorem BP:di vZ:=⟨⟨by decide,by decide⟩,⟨by decide,by decide⟩,⟨by decide,by decide⟩,⟨by decide,by decide⟩⟩
theorem Dd {s t:a8} (h1:di s) (h2:di t):di (s.union t):=⟨kb h1.a h2.a,kb h1.b h2.b,kb h1.c h2.c,kb h1.d h2.d⟩
theorem Jv {d:bS} {l:List dO} (h:∀ x∈l,di x.set):∀ k,∀ s∈kF d (l.take k),di s:=by{
intro k
induction k with
| zero=>
  intro s hs
  unfold kF at hs
  rw[List.take_zero] at hs
  rw[List.eq_of_mem_replicate hs]
  exact BP
| succ k ih=>
  by_cases hk:k<l.length
  ·intro s hs
   rw[oW hk] at hs
   rcases List.mem_or_eq_of_mem_set hs with hs|rfl
   ·exact ih s hs
   ·refine Dd ?_ (h _ (List.getElem_mem hk))
    rw[List.getD_eq_getElem?_getD]
    cases e:(kF d (l.take k))[gJ d l[k].sort]? with
    | none=>exact BP
    | some y=>exact ih y (List.mem_of_getElem? e)
  ·rw[List.take_of_length_le om]
   rw[List.take_of_length_le om] at ih
   exact ih}
structure FS (hD:ai) (im nF nR:Nat) (x:ai) (mm:MK) (SF:List a8) (SR:List Int):Prop where
 o:x[im]? = some (.aq mm.cells 0 true 94)
 F:x[nF]? = some (.aq (SF.flatMap a8.cells) 0 true 54)
 R:x[nR]? = some (.aq (SR.map i64) 0 true 3)
 k:∀ (j:Nat) (o:ax),j<hD.length→j≠im→hD[j]? = some o→x[j]? = some o
 l:hD.length≤x.length
theorem FS.TU {hD x:ai} {im nF nR:Nat} {mm:MK} {SF:List a8} {SR:List Int} (S:FS hD im nF nR x mm SF SR) (h1:nF≠im) (h2:nF≠nR) (h3:hD.length≤nF) (SF':List a8):FS hD im nF nR (x.set nF (.aq (SF'.flatMap a8.cells) 0 true 54)) mm SF' SR:=
 ⟨by rw[aD h1];exact S.o,aw S.F,by rw[aD h2];exact S.R,fun j o hj hn h=>by rw[aD om];exact S.k j o hj hn h,by rw[List.length_set];exact S.l⟩
theorem FS.Qr {hD x:ai} {im nF nR:Nat} {mm:MK} {SF:List a8} {SR:List Int} (S:FS hD im nF nR x mm SF SR) (h1:nR≠im) (h2:nF≠nR) (h3:hD.length≤nR) (SR':List Int):FS hD im nF nR (x.set nR (.aq (SR'.map i64) 0 true 3)) mm SF SR':=
 ⟨by rw[aD h1];exact S.o,by rw[aD h2.symm];exact S.F,aw S.R,fun j o hj hn h=>by rw[aD om];exact S.k j o hj hn h,by rw[List.length_set];exact S.l⟩
theorem Fh {N k:Nat} (hk:k<N):(List.replicate k (-1:Int)++List.replicate (N-k) 0).set k (-1)=List.replicate (k+1) (-1)++List.replicate (N-(k+1)) 0:=by
 rw[List.set_append_right _ _ (by rw[List.length_replicate];exact Nat.le_refl _),List.length_replicate,Nat.sub_self,show N-k=(N-(k+1))+1 by omega,List.replicate_succ,List.set_cons_zero,List.replicate_succ',List.append_assoc]
 rfl
theorem EN {hk hC:ai} {im:Nat} {m:MK} {B B':List aR} (h:hk.length≤hC.length) (h0:B.length=B'.length):aL hk (lK hC im m B B') (nf hC.length B) B.length (BC B') 70:=by{
unfold nf
split
·rename_i e
 rw[e]
 have:B'=[]:=List.length_eq_zero_iff.1 om
 rw[this]
 exact aL.nil
·rename_i k e
 rw[e]
 refine .inr ⟨hC.length,k,h,rfl,?_⟩
 unfold lK CD
 rw[e,List.getElem?_append_right (by rw[List.length_set];exact Nat.le_refl _),List.length_set,Nat.sub_self]
 rfl}
structure UZ (h0 hk h':ai) (im:Nat) (m:MK) (d:bS) (os:List gN) (vb vF vR:Value):Prop where
 p:h0 <+: h'
 l:hk.length≤h'.length
 o:h'[im]? = some (.aq (MK.cells { m with vb:=vb,vF:=vF,vR:=vR }) 0 true 94)
 k:∀ (j:Nat) (o:ax),j<hk.length→j≠im→hk[j]? = some o→h'[j]? = some o
 b:aL hk h' vb (iJ [] (iV d os)).length (BC (gY (iJ [] (iV d os)))) 70
 F:aL hk h' vF (aV d) ((kF d d.follows).flatMap a8.cells) 54
 R:aL hk h' vR (aV d) ((sZ d d.ah).map i64) 3
section
variable {h0 hk h1 x hA:ai} {im it ip:Nat} {m:MK} {d:bS} {os:List gN} {nm:List ByteArray} {sE:List (ByteArray×Int)}
theorem zL (K:KD h0 hk im m d os nm) (hsm:hk[m.is]? = some (.map (fK sE))) (hsg:∀ x∈aF d.aa,gK (fK sE) (.string x)=some (i64 (gJ d x:Int))) (hvb:m.vb=aH) (hnts:m.fx=(aV d:Int)) (hN:aV d≤5000) (hok:sq d) (hos:os.length≤4096) (hch:∀ c∈d.aj,(dy c).length≤1000∧c.length≤1000) (hcn:d.aj.length≤1000) (hsy:∀ p∈d.aa,p.an.length≤1000) (hosy:∀ o∈os,o.an.length≤1000000) (hbn:(iV d os).length≤1000000000) (hfS:∀ x∈d.follows,x.sort∈aF d.aa∧di x.set) (hrS:∀ x∈d.ah,x.sort∈aF d.aa∧x.jN∈aF d.aa) (hfl:d.follows.length≤1000) (hrl:d.ah.length≤1000) (hsn:∀ x∈aF d.aa,gJ d x<aV d) : FW env 35 [.pointer (some ⟨im,0,some 0⟩)] hk fun r h'=>r = .tuple #[]∧∃ vb vF vR,UZ h0 hk h' im m d os vb vF vR:=by{
obtain⟨pC,cC,hvC⟩:=ct.form K.D.aj
have hl0:h0.length≤hk.length:=K.p.length_le
refine fe Tryz.func35 ?_;simp only[push_cast]
refine zu ?_
iterate 5 (refine zx oA ?_)
refine zu ?_
refine kC (kt:=70) (et:=3) al rfl kr ?_
dsimp only[St.a9,St.put]
have hpA:hk <+: hk++[ax.map []]:=aJ
have hmA:(hk++[ax.map []])[hk.length]? = some (.map (bE [])):=aK
have hiA:hk.length<(hk++[ax.map []]).length:=by simp
generalize (hk++[ax.map []])=hA at hpA hmA hiA ⊢
have hitk:hk.length≤hk.length:=Nat.le_refl _
generalize hit:hk.length=it at hmA hiA ⊢
have hpk:∀ {X:ax},hk <+: hA.set it X:=fun {X}=>aZ hpA om
have KA:∀ {X:List (Value×Value)},KD h0 (hA.set it (.map X)) im m d os nm:=fun {X}=>K.yN (K.p.trans hpk) (pZ.pre hpk)
have hobA:=af hpA K.o
simp only[MK.cells,hvC] at hobA
refine aG hobA ?_
refine CW.mono (Q:=fun e s'=>e = .exit 0∧s'.h=hA.set it (.map (bE (eO [] (iV d os))))∧bD [(0,.val (.pointer (some ⟨im,0,some 0⟩))),(2,.val (.pointer (some ⟨im,12,some 0⟩))),(3,.val (.map (some it)))] s'.fr) ?_ ?_
·refine dC d.aj.length (fun k=>[(0,.val (.pointer (some ⟨im,0,some 0⟩))),(2,.val (.pointer (some ⟨im,12,some 0⟩))),(3,.val (.map (some it))),(23,.val (.slice pC d.aj.length cC)),(24,.val (i64 d.aj.length)),(25,.val (i64 k))]) (fun k=>hA.set it (.map (bE (eO [] ((d.aj.take k).flatMap (fV d os)))))) (fun _=>True) aM (by rw[List.take_zero];exact (fJ hmA).symm) trivial ?_
 intro k hkn _
 by_cases hlt:k<d.aj.length
 ·obtain⟨id,av,own,c',cells,u,hv2,hid0,hrd,hu⟩:=ct.at (k:=1) (fun _ _=>rfl) K.D.aj hlt
  rw[hvC] at hv2
  cases hv2
  have hu:b9 h0 u d.aj[k]:=hu
  have hmem:=List.getElem_mem hlt
  have w1:=cz hlt
  have w2:=inc hlt om
  have q3:=aU hlt
  have htk:(d.aj.take (k+1)).flatMap (fV d os)=(d.aj.take k).flatMap (fV d os)++fV d os d.aj[k]:=by
   rw[List.take_succ_eq_append_getElem hlt,List.flatMap_append,List.flatMap_singleton]
  have hb:=Hp (it:=it) (es:=eO [] ((d.aj.take k).flatMap (fV d os))) KA (List.getElem?_set_self hiA) om hu (hok _ hmem) hos (hch _ hmem).1 (hch _ hmem).2 hsy
  rw[List.set_set,← oN,← htk] at hb
  obtain⟨pv,cv,rfl⟩:=ct.form hu
  have hid:=af (K.p.trans (hpk (X:=.map (bE (eO [] ((d.aj.take k).flatMap (fV d os))))))) hid0
  have hr0:=fI hrd om
  simp only[List.getElem?_cons_zero,Nat.mul_one] at hr0
  refine aG q3 ?_
  refine ag rfl ?_
  refine fN w1 hid Nat.mul_one hr0 ?_
  refine zj Tryz.func102 ?_
  refine hb.mono ?_
  rintro _ h2 ⟨rfl,rfl⟩
  refine aG w2 ?_
  exact⟨hlt,aM,rfl,trivial⟩
 ·have q3:=aT hlt
  obtain rfl:k=d.aj.length:=by omega
  rw[List.take_length]
  refine aG q3 ?_
  refine ae rfl ?_
  refine aB ?_
  exact⟨rfl,rfl,aM⟩
rintro e s' ⟨rfl,hh,hf⟩
show CW _ _ _ _
refine aA _ hf ?_
rw[hh]
clear hf hh s'
have hF:=tV (iV d os) []
rw[List.map_nil] at hF
have hFl:(eO [] (iV d os)).length≤1000000000:=by
 have h1:=congrArg List.length hF
 rw[List.length_map] at h1
 have h2:=oB (xs:=iV d os) (l:=[])
 simp only[List.length_nil] at h2
 omega
have hFi:∀ p∈eO [] (iV d os),GC p.1:=fun p hp=>by
 have h1:p.1∈(eO [] (iV d os)).map (·.1):=List.mem_map_of_mem hp
 rw[hF,oT] at h1
 exact Gc hos hosy _ (h1.resolve_left (by simp))
generalize eO [] (iV d os)=F at hFl hFi hF ⊢
have hpC:hk <+: hA.set it (.map (bE F)):=hpk
have hmC:(hA.set it (.map (bE F)))[it]? = some (.map (bE F)):=List.getElem?_set_self hiA
have hiC:it<(hA.set it (.map (bE F))).length:=by rw[List.length_set];exact hiA
have KC:KD h0 (hA.set it (.map (bE F))) im m d os nm:=KA
clear KA hpk hobA hmA
generalize hA.set it (.map (bE F))=hC at hpC hmC hiC KC ⊢
have hoC:=KC.o
have himC:im<hC.length:=(List.getElem?_eq_some_iff.1 hoC).1
have hne:it≠im:=by
 intro e
 rw[e,hoC] at hmC
 cases hmC
have hlF:(bE F).length=F.length:=by unfold bE;rw[List.length_map]
obtain⟨B,hB⟩:∃ B,B=F.map (·.1):=⟨_,rfl⟩
have hBl:B.length=F.length:=by rw[hB,List.length_map]
rw[← hB] at hF
refine H7 (I:=fun s'=>∃ L:List aR,L.Perm B∧s'.h=lK hC im m L L∧bD [(0,.val (.pointer (some ⟨im,0,some 0⟩))),(2,.val (.pointer (some ⟨im,12,some 0⟩)))] s'.fr) (fr:=[(0,.val (.pointer (some ⟨im,0,some 0⟩))),(2,.val (.pointer (some ⟨im,12,some 0⟩)))]) (fr2:=[]) (h:=lK hC im m B (gY B)) (P:=fun h'=>∃ vb vF vR,UZ h0 hk h' im m d os vb vF vR) ?_ ?_ ?_ ?_
·refine tg (R:=fun e s'=>e = .normal∧s'.h=hC∧bD [(0,.val (.pointer (some ⟨im,0,some 0⟩))),(2,.val (.pointer (some ⟨im,12,some 0⟩))),(35,.nc it F.length [])] s'.fr) ?_ (fun e s' ⟨h1,_⟩ h2=>absurd h1 h2) ?_
 ·refine SW.of ?_
  apply zr
  iterate 1 (refine zx oA ?_)
  refine DU (kt:=70) (et:=3) (es:=bE F) al rfl rfl kr al hmC ?_
  rw[hlF]
  apply zn
  exact⟨rfl,rfl,aM⟩
 rintro s' ⟨_,hh,hf⟩
 refine gH _ hf ?_
 rw[hh]
 clear hf hh s'
 refine xB ?_
 refine BH (fun n s=>∃ seen:List Nat,n+seen.length=F.length∧seen.Nodup∧(∀ i∈seen,i<F.length)∧s.h=lK hC im m (ej F seen) (ej F seen)∧bD [(0,.val (.pointer (some ⟨im,0,some 0⟩))),(2,.val (.pointer (some ⟨im,12,some 0⟩))),(35,.nc it F.length seen)] s.fr) F.length ⟨[],by simp,.nil,by simp,(HL hoC hvb).symm,aM⟩ ?_
 rintro n s ⟨seen,hms,hnd,hlt6,hh,hf⟩
 refine gH _ hf ?_
 rw[hh]
 clear hf hh s
 have hmL:(lK hC im m (ej F seen) (ej F seen))[it]? = some (.map (bE F)):=um hne hmC
 have hpl:=ue hlt6
 refine tg (R:=fun e s'=>e = .normal∧s'.h=lK hC im m (ej F seen) (ej F seen)∧(((∀ i,i<F.length→i∈seen)∧bD [(0,.val (.pointer (some ⟨im,0,some 0⟩))),(2,.val (.pointer (some ⟨im,12,some 0⟩))),(37,.val (.bool false))] s'.fr)∨∃ i p,F[i]? = some p∧i∉seen∧bD [(0,.val (.pointer (some ⟨im,0,some 0⟩))),(2,.val (.pointer (some ⟨im,12,some 0⟩))),(35,.nc it F.length (seen++[i])),(37,.val (.bool true))] s'.fr)) ?_ ?_ ?_
 ·refine Bj (es:=bE F) rfl rfl rfl rfl (by decide) rfl hmL hlF (GW F) (fun hA=>?_) (fun i kk v hkv hi=>?_)
  ·refine aC ?_
   exact⟨rfl,rfl,.inl ⟨hA,aM⟩⟩
  ·rw[JR] at hkv
   obtain⟨p,hp,e1,e2⟩:=hkv
   refine aC ?_
   exact⟨rfl,rfl,.inr ⟨i,p,hp,hi,aM⟩⟩
 ·rintro e s' ⟨rfl,_⟩ he
  exact absurd rfl he
 ·rintro s' ⟨_,hh,⟨hA,hf⟩ | ⟨i,p,hp,hi,hf⟩⟩
  ·refine gH _ hf ?_
   rw[hh]
   clear hf hh s'
   refine SW.of ?_
   refine zu ?_
   refine ae rfl ?_
   refine aB ?_
   refine .inr ⟨by simp,?_⟩
   refine⟨rfl,ej F seen,?_,rfl,aM⟩
   rw[hB]
   exact AC hnd hlt6 hA
  ·refine gH _ hf ?_
   rw[hh]
   clear hf hh s'
   refine SW.of ?_
   refine zu ?_
   refine ag rfl ?_
   refine cE ?_
   show CW _ _ _ _
   have hpe:(bE F)[i]? = some (p.1.val,i64 p.2):=JR.2 ⟨p,hp,rfl,rfl⟩
   have hgl:(seen++[i]).getLast? = some i:=by simp
   have hi6:=(List.getElem?_eq_some_iff.1 hp).1
   have hlt7:∀ q∈seen++[i],q<F.length:=fun q hq=>by
    rcases List.mem_append.1 hq with hq|hq
    ·exact hlt6 q hq
    ·rw[List.mem_singleton.1 hq];exact hi6
   have hlen:=oY (gZ hnd hi) hlt7
   rw[List.length_append,List.length_singleton] at hlen
   obtain⟨n',rfl⟩:∃ n',n=n'+1:=⟨n-1,by omega⟩
   obtain⟨h',hone,hob',hset⟩:=Ff (hC:=hC) (im:=im) (m:=m) (l:=ej F seen) (b:=p.1) himC om
   have hobL:=zQ (hC:=hC) (im:=im) (m:=m) (l:=ej F seen) (l':=ej F seen) himC
   have hst:=zf (seen:=seen) hp
   obtain⟨pL,cL,hvL⟩:=sG (l:=ej F seen) (n:=hC.length)
   rw[hvL] at hobL hob' hone
   rw[← hst] at hone hset
   simp only[MK.cells] at hobL
   have hob2:=hob'
   simp only[MK.cells] at hob2
   have hvc:ee 1 (nf hC.length (ej F (seen++[i])))=some [nf hC.length (ej F (seen++[i]))]:=by
    obtain⟨a,b,e⟩:=sG (l:=ej F (seen++[i])) (n:=hC.length)
    rw[e]
    rfl
   generalize lK hC im m (ej F seen) (ej F seen)=hL at hmL hone hobL ⊢
   refine fN hmL hlF hgl hpe ?_
   refine aA [(0,.val (.pointer (some ⟨im,0,some 0⟩))),(2,.val (.pointer (some ⟨im,12,some 0⟩))),(6,.box [i64 p.1.ef,i64 p.1.jO,i64 p.1.nO]),(35,.nc it F.length (seen++[i]))] aM ?_
   show CW _ _ ⟨_,[],hL⟩ _
   try apply zs
   apply bm (L:=[[],[],[1],[1,2],[1,2,3],[],[5],[1,2,3,4,5,6],[0],[0,8],[0,1,2,3,4,5,6,7,8,9]]) (act:=[7,10]) (hs:=[h',h'.set im (.aq (MK.cells { m with vb:=nf hC.length (ej F (seen++[i])) }) 0 true 94)]) (resL:=[_,_,_,_,_,_,_,_,_,_,_]) (frF:=[(0,.val (.pointer (some ⟨im,0,some 0⟩))),(2,.val (.pointer (some ⟨im,12,some 0⟩))),(35,.nc it F.length (seen++[i]))])
   case hm=>exact mixed
   case hc=>kernel_rfl
   case ha=>rfl
   case hb=>rfl
   case hS=>
    refine HZ hobL hob2 ?_
    apply az.cons
    ·rfl
    ·refine⟨?_,trivial⟩
     exact hone _ _ _ _ _ rfl al rfl al al
    ·rfl
    refine HZ hobL hob2 ?_
    apply az.cons
    ·rfl
    ·refine⟨?_,trivial⟩
     exact One.jE (r:=.sl .dL) (cells':=MK.cells { m with vb:=nf hC.length (ej F (seen++[i])) }) al rfl al al hob' al hvc rfl rfl
    ·rfl
    exact az.nil _
   case ht=>rfl
   case hF=>exact zh
   refine .inl ⟨rfl,n',rfl,seen++[i],by rw[List.length_append,List.length_singleton];omega,gZ hnd hi,hlt7,hset,aM⟩
·rintro s' ⟨L,hLp,hh,hf⟩
 refine gH _ hf ?_
 rw[hh]
 clear hf hh s'
 have hLl:=hLp.length_eq
 have hs:=Jo hLp
 have hobL:=zQ (hC:=hC) (im:=im) (m:=m) (l:=L) (l':=L) himC
 refine SW.of ?_
 cases L with
 | nil=>
   have hB0:B=[]:=List.length_eq_zero_iff.1 hLl.symm
   have hv0:nf hC.length []=aH:=rfl
   have hh0:lK hC im m B (gY B)=lK hC im m [] []:=by
    rw[hB0]
    show lK hC im m [] (List.mergeSort [] _)=_
    rw[List.mergeSort_nil]
   rw[hh0]
   rw[hv0] at hobL
   simp only[MK.cells] at hobL
   generalize lK hC im m [] []=hL at hobL ⊢
   refine aG hobL ?_
   refine zj Tryz.func103 ?_
   refine Ge.mono ?_
   rintro _ h2 ⟨rfl,e2⟩
   obtain rfl:=e2.symm
   refine aC ?_
   exact⟨rfl,aM,rfl⟩
 | cons a r=>
   have hv0:nf hC.length (a :: r) = .slice (some ⟨hC.length,0,some r.length⟩) (r.length+1) (r.length+1):=rfl
   have hl1:(hC.set im (.aq (MK.cells { m with vb:=nf hC.length (a :: r) }) 0 true 94)).length=hC.length:=List.length_set
   have hgL:(lK hC im m (a :: r) (a :: r))[hC.length]? = some (.aq (BC (a :: r)) r.length true 70):=by
    unfold lK
    rw[List.getElem?_append_right (by rw[hl1];exact Nat.le_refl _),hl1,Nat.sub_self]
    rfl
   have hiB:∀ x∈a :: r,GC x:=fun x hx=>by
    have:=hLp.mem_iff.1 hx
    rw[hB,List.mem_map] at this
    obtain⟨p,hp,rfl⟩:=this
    exact hFi p hp
   have hso:=E3 (c:=r.length+1) hgL om hiB
   have hfin:(lK hC im m (a :: r) (a :: r)).set hC.length (.aq (BC (gY (a :: r))) r.length true 70)=lK hC im m B (gY B):=by
    rw[hs]
    unfold lK
    rw[List.set_append_right _ _ (by rw[hl1];exact Nat.le_refl _),hl1,Nat.sub_self,MH (l':=B) hLl,← GO (l:=a :: r) (x:=gY B) hLl]
    rfl
   rw[hfin] at hso
   rw[hv0] at hobL
   simp only[MK.cells] at hobL
   generalize lK hC im m (a :: r) (a :: r)=hL at hobL hso ⊢
   simp only[List.length_cons] at hso
   refine aG hobL ?_
   refine zj Tryz.func103 ?_
   refine hso.mono ?_
   rintro _ h2 ⟨rfl,rfl⟩
   refine aC ?_
   exact⟨rfl,aM,rfl⟩
·have hDo:=zQ (m:=m) (l:=B) (l':=gY B) himC
 have hDk:∀ (j:Nat) (o:ax),j≠im→hC[j]? = some o→(lK hC im m B (gY B))[j]? = some o:=fun j o h1 h2=>um h1 h2
 have hDl:hC.length≤(lK hC im m B (gY B)).length:=by
  unfold lK
  rw[List.length_append,List.length_set]
  exact Nat.le_add_right _ _
 have hDp:h0 <+: lK hC im m B (gY B):=(aZ KC.p K.a).trans (List.prefix_append _ _)
 have hDb:aL hk (lK hC im m B (gY B)) (nf hC.length B) B.length (BC (gY B)) 70:=EN hpC.length_le (List.length_mergeSort B).symm
 obtain⟨pB,cB,hvB⟩:=sG (l:=B) (n:=hC.length)
 rw[hvB] at hDo hDb
 generalize lK hC im m B (gY B)=hD at hDo hDk hDl hDp hDb ⊢
 have himD:im<hD.length:=by omega
 have hDo':=hDo
 simp only[MK.cells,hnts] at hDo'
 refine zu ?_
 iterate 7 (refine zx (Si hDo') ?_)
 refine Ga (N:=aV d) al rfl al rfl om ?_
 dsimp only[St.a9,St.put]
 have hx1:(hD++[ax.aq ((List.replicate (aV d) (⟨0,0,0,0⟩:a8)).flatMap a8.cells) 0 true 54])[im]? = some (.aq (MK.cells { m with vb:=(.slice pB B.length cB) }) 0 true 94):=bA hDo
 have hx1':=hx1
 simp only[MK.cells,hnts] at hx1'
 have hF1:(hD++[ax.aq ((List.replicate (aV d) (⟨0,0,0,0⟩:a8)).flatMap a8.cells) 0 true 54])[hD.length]? = some (.aq ((List.replicate (aV d) (⟨0,0,0,0⟩:a8)).flatMap a8.cells) 0 true 54):=aK
 have hp1:hD <+: hD++[ax.aq ((List.replicate (aV d) (⟨0,0,0,0⟩:a8)).flatMap a8.cells) 0 true 54]:=aJ
 have hl1:(hD++[ax.aq ((List.replicate (aV d) (⟨0,0,0,0⟩:a8)).flatMap a8.cells) 0 true 54]).length=hD.length+1:=by simp
 generalize (hD++[ax.aq ((List.replicate (aV d) (⟨0,0,0,0⟩:a8)).flatMap a8.cells) 0 true 54])=h1 at hx1 hx1' hF1 hp1 hl1 ⊢
 obtain⟨nF,hnF⟩:∃ nF,nF=hD.length:=⟨_,rfl⟩
 rw[← hnF] at hF1
 rw[← hnF]
 iterate 2 (refine zx oA ?_)
 refine bY (v:=(.slice (some ⟨nF,0,some 0⟩) (aV d) (aV d))) (vs:=[(.slice (some ⟨nF,0,some 0⟩) (aV d) (aV d))]) (cells':=MK.cells { m with vb:=(.slice pB B.length cB),vF:=(.slice (some ⟨nF,0,some 0⟩) (aV d) (aV d)) }) al rfl rfl rfl al hx1 al rfl rfl ?_
 dsimp only
 have hx2:(h1.set im (.aq (MK.cells { m with vb:=(.slice pB B.length cB),vF:=(.slice (some ⟨nF,0,some 0⟩) (aV d) (aV d)) }) 0 true 94))[im]? = some (.aq (MK.cells { m with vb:=(.slice pB B.length cB),vF:=(.slice (some ⟨nF,0,some 0⟩) (aV d) (aV d)) }) 0 true 94):=aw hx1
 have hF2:(h1.set im (.aq (MK.cells { m with vb:=(.slice pB B.length cB),vF:=(.slice (some ⟨nF,0,some 0⟩) (aV d) (aV d)) }) 0 true 94))[nF]? = some (.aq ((List.replicate (aV d) (⟨0,0,0,0⟩:a8)).flatMap a8.cells) 0 true 54):=by rw[aD om];exact hF1
 have hk2:∀ (j:Nat) (o:ax),j≠im→hD[j]? = some o→(h1.set im (.aq (MK.cells { m with vb:=(.slice pB B.length cB),vF:=(.slice (some ⟨nF,0,some 0⟩) (aV d) (aV d)) }) 0 true 94))[j]? = some o:=fun j o hj h=>by rw[aD hj.symm];exact af hp1 h
 have hl2:(h1.set im (.aq (MK.cells { m with vb:=(.slice pB B.length cB),vF:=(.slice (some ⟨nF,0,some 0⟩) (aV d) (aV d)) }) 0 true 94)).length=hD.length+1:=by rw[List.length_set];exact hl1
 generalize h1.set im (.aq (MK.cells { m with vb:=(.slice pB B.length cB),vF:=(.slice (some ⟨nF,0,some 0⟩) (aV d) (aV d)) }) 0 true 94)=h2 at hx2 hF2 hk2 hl2 ⊢
 have hx2':=hx2
 simp only[MK.cells,hnts] at hx2'
 clear hx1 hx1' hF1 hp1 hl1
 apply zn
 show CW _ _ ⟨_,[],h2⟩ _
 refine zu ?_
 iterate 7 (refine zx (Si hx2') ?_)
 refine DP (N:=aV d) al rfl al rfl om ?_
 dsimp only[St.a9,St.put]
 have hx3:(h2++[ax.aq ((List.replicate (aV d) (0:Int)).map i64) 0 true 3])[im]? = some (.aq (MK.cells { m with vb:=(.slice pB B.length cB),vF:=(.slice (some ⟨nF,0,some 0⟩) (aV d) (aV d)) }) 0 true 94):=bA hx2
 have hx3':=hx3
 simp only[MK.cells,hnts] at hx3'
 have hF3:(h2++[ax.aq ((List.replicate (aV d) (0:Int)).map i64) 0 true 3])[nF]? = some (.aq ((List.replicate (aV d) (⟨0,0,0,0⟩:a8)).flatMap a8.cells) 0 true 54):=bA hF2
 have hR3:(h2++[ax.aq ((List.replicate (aV d) (0:Int)).map i64) 0 true 3])[h2.length]? = some (.aq ((List.replicate (aV d) (0:Int)).map i64) 0 true 3):=aK
 have hk3:∀ (j:Nat) (o:ax),j≠im→hD[j]? = some o→(h2++[ax.aq ((List.replicate (aV d) (0:Int)).map i64) 0 true 3])[j]? = some o:=fun j o hj h=>bA (hk2 j o hj h)
 have hl3:(h2++[ax.aq ((List.replicate (aV d) (0:Int)).map i64) 0 true 3]).length=hD.length+2:=by simp [hl2]
 generalize (h2++[ax.aq ((List.replicate (aV d) (0:Int)).map i64) 0 true 3])=h3 at hx3 hx3' hF3 hR3 hk3 hl3 ⊢
 obtain⟨nR,hnR⟩:∃ nR,nR=h2.length:=⟨_,rfl⟩
 rw[← hnR] at hR3
 rw[← hnR]
 iterate 2 (refine zx oA ?_)
 refine bY (v:=(.slice (some ⟨nR,0,some 0⟩) (aV d) (aV d))) (vs:=[(.slice (some ⟨nR,0,some 0⟩) (aV d) (aV d))]) (cells':=MK.cells { m with vb:=(.slice pB B.length cB),vF:=(.slice (some ⟨nF,0,some 0⟩) (aV d) (aV d)),vR:=(.slice (some ⟨nR,0,some 0⟩) (aV d) (aV d)) }) al rfl rfl rfl al hx3 al rfl rfl ?_
 dsimp only
 have S0:FS hD im nF nR (h3.set im (.aq (MK.cells { m with vb:=(.slice pB B.length cB),vF:=(.slice (some ⟨nF,0,some 0⟩) (aV d) (aV d)),vR:=(.slice (some ⟨nR,0,some 0⟩) (aV d) (aV d)) }) 0 true 94)) { m with vb:=(.slice pB B.length cB),vF:=(.slice (some ⟨nF,0,some 0⟩) (aV d) (aV d)),vR:=(.slice (some ⟨nR,0,some 0⟩) (aV d) (aV d)) } (List.replicate (aV d) vZ) (List.replicate 0 (-1)++List.replicate (aV d-0) 0):=
  ⟨aw hx3,by rw[aD om];exact hF3,by rw[aD om];exact hR3,fun j o _ hj h=>by rw[aD hj.symm];exact hk3 j o hj h,by rw[List.length_set];omega⟩
 generalize h3.set im (.aq (MK.cells { m with vb:=(.slice pB B.length cB),vF:=(.slice (some ⟨nF,0,some 0⟩) (aV d) (aV d)),vR:=(.slice (some ⟨nR,0,some 0⟩) (aV d) (aV d)) }) 0 true 94)=h4 at S0 ⊢
 clear hx2 hx2' hF2 hk2 hx3 hx3' hF3 hR3 hk3
 have n1:nF≠im:=by omega
 have n2:nF≠nR:=by omega
 have n3:hD.length≤nF:=by omega
 have n4:nR≠im:=by omega
 have n5:hD.length≤nR:=by omega
 clear hl2 hl3 hnF hnR
 apply zn
 show CW _ _ ⟨_,[],h4⟩ _
 try apply zs
 have hx4:=S0.o
 simp only[MK.cells,hnts] at hx4
 refine aG hx4 ?_
 refine CW.mono (Q:=fun e s'=>e = .exit 4∧∃ x,FS hD im nF nR x { m with vb:=(.slice pB B.length cB),vF:=(.slice (some ⟨nF,0,some 0⟩) (aV d) (aV d)),vR:=(.slice (some ⟨nR,0,some 0⟩) (aV d) (aV d)) } (List.replicate (aV d) vZ) (List.replicate (aV d) (-1))∧s'.h=x∧bD [(0,.val (.pointer (some ⟨im,0,some 0⟩))),(2,.val (.pointer (some ⟨im,12,some 0⟩)))] s'.fr) ?_ ?_
 ·refine aX (aV d) (fun k (x:ai)=>[(0,.val (.pointer (some ⟨im,0,some 0⟩))),(2,.val (.pointer (some ⟨im,12,some 0⟩))),(78,.val (.slice (some ⟨nR,0,some 0⟩) (aV d) (aV d))),(79,.val (i64 (aV d))),(80,.val (i64 k))]) (fun _ x=>x) (fun k x=>FS hD im nF nR x { m with vb:=(.slice pB B.length cB),vF:=(.slice (some ⟨nF,0,some 0⟩) (aV d) (aV d)),vR:=(.slice (some ⟨nR,0,some 0⟩) (aV d) (aV d)) } (List.replicate (aV d) vZ) (List.replicate k (-1)++List.replicate (aV d-k) 0)) h4 aM rfl S0 ?_
  rintro k x hkn S
  by_cases hlt:k<aV d
  ·have w1:=cz hlt
   have w2:=inc hlt om
   have q3:=aU hlt
   have hxo:=S.o
   simp only[MK.cells] at hxo
   have S2:=S.Qr n4 n2 n5 (List.replicate (k+1) (-1)++List.replicate (aV d-(k+1)) 0)
   have hwr:=EJ (f:=i64) (l:=List.replicate k (-1:Int)++List.replicate (aV d-k) 0) (i:=k) (x:=-1) (by rw[List.length_append,List.length_replicate,List.length_replicate];omega)
   rw[Fh hlt] at hwr
   refine aG q3 ?_
   refine ag rfl ?_
   refine gU hxo w1 Nat.mul_one ?_
   refine bY (v:=i64 (-1)) (vs:=[i64 (-1)]) al rfl rfl rfl (UN hxo w1 Nat.mul_one) S.R rfl rfl hwr ?_
   dsimp only
   generalize x.set nR (.aq ((List.replicate (k+1) (-1)++List.replicate (aV d-(k+1)) 0).map i64) 0 true 3)=x2 at S2 ⊢
   refine aG w2 ?_
   refine⟨hlt,x2,aM,rfl,S2⟩
  ·have q3:=aT hlt
   obtain rfl:k=aV d:=by omega
   rw[Nat.sub_self,List.replicate_zero,List.append_nil] at S
   refine aG q3 ?_
   refine ae rfl ?_
   refine aB ?_
   exact⟨rfl,x,S,rfl,aM⟩
 rintro e s' ⟨rfl,x,S,hh,hf⟩
 show CW _ _ _ _
 refine aA _ hf ?_
 rw[hh]
 clear hf hh s' hx4 S0
 obtain⟨pFo,cFo,hvFo⟩:=bT.form K.D.follows
 obtain⟨pRe,cRe,hvRe⟩:=bT.form K.D.ah
 have hkk:=bz sE
 have hmis:m.is≠im:=by
  intro e
  rw[e,K.o] at hsm
  cases hsm
 have hsD:hD[m.is]? = some (.map (fK sE)):=hDk _ _ hmis (af hpC hsm)
 have hsD':∀ {x:ai} {mm:MK} {SF:List a8} {SR:List Int},FS hD im nF nR x mm SF SR→x[m.is]? = some (.map (fK sE)):=fun S=>S.k _ _ (List.getElem?_eq_some_iff.1 hsD).1 hmis hsD
 have hp0:∀ {x:ai} {mm:MK} {SF:List a8} {SR:List Int},FS hD im nF nR x mm SF SR→h0 <+: x:=fun S=>by
  have e:=List.prefix_iff_eq_take.1 hDp
  refine List.prefix_iff_getElem?.2 fun i hi=>?_
  have h1:=List.prefix_iff_getElem?.1 hDp i hi
  exact S.k i _ (List.getElem?_eq_some_iff.1 h1).1 (by have:=K.a;omega) h1
 have hxo:=S.o
 simp only[MK.cells,hvFo] at hxo
 refine aG hxo ?_
 refine CW.mono (Q:=fun e s'=>e = .exit 6∧∃ x,FS hD im nF nR x { m with vb:=(.slice pB B.length cB),vF:=(.slice (some ⟨nF,0,some 0⟩) (aV d) (aV d)),vR:=(.slice (some ⟨nR,0,some 0⟩) (aV d) (aV d)) } (kF d d.follows) (List.replicate (aV d) (-1))∧s'.h=x∧bD [(0,.val (.pointer (some ⟨im,0,some 0⟩))),(2,.val (.pointer (some ⟨im,12,some 0⟩)))] s'.fr) ?_ ?_
 ·refine aX d.follows.length (fun k (x:ai)=>[(0,.val (.pointer (some ⟨im,0,some 0⟩))),(2,.val (.pointer (some ⟨im,12,some 0⟩))),(95,.val (.slice pFo d.follows.length cFo)),(96,.val (i64 d.follows.length)),(97,.val (i64 k))]) (fun _ x=>x) (fun k x=>FS hD im nF nR x { m with vb:=(.slice pB B.length cB),vF:=(.slice (some ⟨nF,0,some 0⟩) (aV d) (aV d)),vR:=(.slice (some ⟨nR,0,some 0⟩) (aV d) (aV d)) } (kF d (d.follows.take k)) (List.replicate (aV d) (-1))) x aM rfl (by rw[List.take_zero];exact S) ?_
  clear hxo S x
  rintro k x hkn S
  by_cases hlt:k<d.follows.length
  ·have hfo:=K.D.follows
   rw[hvFo] at hfo
   obtain⟨id,av,own,c',hv,hid⟩:=bT.at (bT.mono hfo (hp0 S)) om
   cases hv
   have hrd:=jm hlt
   obtain⟨hfs,hfw⟩:=hfS _ (List.getElem_mem hlt)
   have hgs:=hsg _ hfs
   have hns:=hsn _ hfs
   have htk:=oW (d:=d) hlt
   have hfl2:=DY (d:=d) k d.follows
   have hwf:=Jv (d:=d) (fun x hx=>(hfS x hx).2) k
   have w1:=cz hlt
   have w2:=inc hlt om
   have q3:=aU hlt
   have w3:=cz hns
   have hxo:=S.o
   have hxs:=hsD' S
   have hxF:=S.F
   generalize d.follows[k]=f at hrd hfs hfw hgs hns htk w3
   generalize kF d (d.follows.take k)=SF at S htk hfl2 hwf hxF
   generalize gJ d f.sort=n at hgs hns htk w3
   have hnl:n<SF.length:=by omega
   have hgd:SF.getD n vZ=SF[n]:=by rw[List.getD_eq_getElem?_getD,List.getElem?_eq_getElem hnl];rfl
   rw[hgd] at htk
   have hsw:=hwf _ (List.getElem_mem hnl)
   have hrF:js (SF.flatMap a8.cells) (n*4) 4=some [u64 SF[n].a,u64 SF[n].b,u64 SF[n].c,u64 SF[n].d]:=bI (f:=a8.cells) (fun _=>rfl) SF n SF[n] (by simp [hnl])
   have hwr:=Bw (f:=a8.cells) (k:=4) (fun _=>rfl) (x:=SF[n].union f.set) hnl
   rw[← htk] at hwr
   have S2:=S.TU n1 n2 n3 (kF d (d.follows.take (k+1)))
   have hun:=E6 (h:=x) hsw hfw
   generalize SF[n]=sn at hrF hwr hun hsw
   have hxo':=hxo
   simp only[MK.cells] at hxo
   refine aG q3 ?_
   refine ag rfl ?_
   refine gU w1 hid hrd ?_
   refine aS 6 mixed kr ?_
   refine fN hxo hxs hgs hkk ?_
   refine aA [(0,.val (.pointer (some ⟨im,0,some 0⟩))),(2,.val (.pointer (some ⟨im,12,some 0⟩))),(9,.box [.string f.sort,u64 f.set.a,u64 f.set.b,u64 f.set.c,u64 f.set.d]),(10,.val (i64 n)),(95,.val (.slice (some ⟨id,0,some av⟩) d.follows.length cFo)),(96,.val (i64 d.follows.length)),(97,.val (i64 k))] aM ?_
   show CW _ _ ⟨_,[],x⟩ _
   try apply zs
   apply bm (L:=[[],[0],[0,1],[0,1,2],[],[],[5],[5,6],[5,6,7],[],[5,6,7,8,9],[5,6,7,8,9,10],[],[12],[5,6,7,8,9,10,11,12,13],[0,1,2,3,4],[0,1,2,3,4,5,6,7,8,9,10,11,12,13,14,15]]) (act:=[16]) (hs:=[x.set nF (.aq ((kF d (d.follows.take (k+1))).flatMap a8.cells) 0 true 54)]) (resL:=[_,_,_,_,_,_,_,_,_,_,_,_,_,_,_,_,_]) (frF:=[(0,.val (.pointer (some ⟨im,0,some 0⟩))),(2,.val (.pointer (some ⟨im,12,some 0⟩))),(95,.val (.slice (some ⟨id,0,some av⟩) d.follows.length cFo)),(96,.val (i64 d.follows.length)),(97,.val (i64 k))])
   case hm=>exact mixed
   case hc=>kernel_rfl
   case ha=>rfl
   case hb=>rfl
   case hS=>
    refine uV hxo w3 hxF hrF ?_
    apply az.cons
    ·rfl
    ·refine⟨?_,trivial⟩
     exact bg (fn:=Tryz.f105) (args:=[sn.val,f.set.val]) (cap:=[]) rfl al rfl al al Tryz.func105 kr kr hun
    ·rfl
    refine uV hxo w3 hxF hrF ?_
    apply az.cons
    ·rfl
    ·refine⟨?_,trivial⟩
     exact One.jE (r:=.sl .dL) al rfl al al hxF al rfl hwr rfl
    ·rfl
    exact az.nil _
   case ht=>rfl
   case hF=>exact zh
   show CW _ _ ⟨_,[],x.set nF (.aq ((kF d (d.follows.take (k+1))).flatMap a8.cells) 0 true 54)⟩ _
   generalize x.set nF (.aq ((kF d (d.follows.take (k+1))).flatMap a8.cells) 0 true 54)=x2 at S2 ⊢
   refine aG w2 ?_
   refine⟨hlt,x2,aM,rfl,S2⟩
  ·have q3:=aT hlt
   obtain rfl:k=d.follows.length:=by omega
   rw[List.take_length] at S
   refine aG q3 ?_
   refine ae rfl ?_
   refine aB ?_
   exact⟨rfl,x,S,rfl,aM⟩
 clear hxo S x
 rintro e s' ⟨rfl,x,S,hh,hf⟩
 show CW _ _ _ _
 refine aA _ hf ?_
 rw[hh]
 clear hf hh s'
 have hxo:=S.o
 simp only[MK.cells,hvRe] at hxo
 refine aG hxo ?_
 refine aX d.ah.length (fun k (x:ai)=>[(0,.val (.pointer (some ⟨im,0,some 0⟩))),(2,.val (.pointer (some ⟨im,12,some 0⟩))),(130,.val (.slice pRe d.ah.length cRe)),(131,.val (i64 d.ah.length)),(132,.val (i64 k))]) (fun _ x=>x) (fun k x=>FS hD im nF nR x { m with vb:=(.slice pB B.length cB),vF:=(.slice (some ⟨nF,0,some 0⟩) (aV d) (aV d)),vR:=(.slice (some ⟨nR,0,some 0⟩) (aV d) (aV d)) } (kF d d.follows) (sZ d (d.ah.take k))) x aM rfl (by rw[List.take_zero];exact S) ?_
 clear hxo S x
 rintro k x hkn S
 by_cases hlt:k<d.ah.length
 ·have hre:=K.D.ah
  rw[hvRe] at hre
  obtain⟨id,av,own,c',hv,hid⟩:=bT.at (bT.mono hre (hp0 S)) om
  cases hv
  have hrd:=g6 hlt
  obtain⟨hfs,hfb⟩:=hrS _ (List.getElem_mem hlt)
  have hgs:=hsg _ hfs
  have hgb:=hsg _ hfb
  have hns:=hsn _ hfs
  have htk:=ux (d:=d) hlt
  have hfl2:=DV (d:=d) k d.ah
  have w1:=cz hlt
  have w2:=inc hlt om
  have q3:=aU hlt
  have w3:=cz hns
  have hxo:=S.o
  have hxs:=hsD' S
  have hxR:=S.R
  generalize d.ah[k]=f at hrd hfs hgs hgb hns htk w3
  generalize sZ d (d.ah.take k)=SR at S htk hfl2 hxR
  generalize gJ d f.sort=n at hgs hns htk w3
  generalize gJ d f.jN=nb at hgb htk
  have hnl:n<SR.length:=by omega
  have hwr:=EJ (f:=i64) (l:=SR) (x:=(nb:Int)) hnl
  rw[← htk] at hwr
  have S2:=S.Qr n4 n2 n5 (sZ d (d.ah.take (k+1)))
  simp only[MK.cells] at hxo
  refine aG q3 ?_
  refine ag rfl ?_
  refine gU w1 hid hrd ?_
  refine aS 18 mixed kr ?_
  refine Cx hxo hxs hgs hgb hkk w3 Nat.mul_one ?_
  refine bY (v:=i64 (nb:Int)) (vs:=[i64 (nb:Int)]) al rfl rfl rfl (UN hxo w3 Nat.mul_one) hxR al rfl hwr ?_
  dsimp only
  generalize x.set nR (.aq ((sZ d (d.ah.take (k+1))).map i64) 0 true 3)=x2 at S2 ⊢
  refine aG w2 ?_
  refine⟨hlt,x2,aM,rfl,S2⟩
 ·have q3:=aT hlt
  obtain rfl:k=d.ah.length:=by omega
  rw[List.take_length] at S
  refine aG q3 ?_
  refine ae rfl ?_
  refine aB ?_
  refine⟨rfl,trivial,_,_,_,⟨hp0 S,?_,S.o,?_,?_,?_,?_⟩⟩
  ·show hk.length≤x.length
   have:=S.l;have:=hpC.length_le;omega
  ·exact fun j o hj hne2 h=>S.k j o (by have:=hpC.length_le;omega) hne2 (hDk j o hne2 (af hpC h))
  ·rw[← hF]
   exact hDb.mono fun j o hj g=>S.k j o (List.getElem?_eq_some_iff.1 g).1 (by have:=(hDb.lt hj).1;have:=(List.getElem?_eq_some_iff.1 K.o).1;omega) g
  ·exact .inr ⟨nF,0,by have:=hpC.length_le;omega,rfl,S.F⟩
  ·exact .inr ⟨nR,0,by have:=hpC.length_le;omega,rfl,S.R⟩
·exact fun h2 hP=>⟨_,al,rfl,hP⟩}
end
theorem km {ps:List Prod} {s:ByteArray} (h:cI ps s≠0):s∈aF ps:=by{
apply Classical.byContradiction
intro q
exact h (rT.2 q)}
theorem BN {d:bS} {p:Prod} {s:Sym} (hp:p∈d.aa) (hs:s∈p.an) (hn:cY s.name=false):s.name∈fw d:=by{
unfold fw nP
refine List.mem_append_left _ (List.mem_append_left _ ?_)
rw[List.mem_flatMap]
refine⟨p,hp,?_⟩
unfold cU
rw[List.mem_filterMap]
refine⟨s,hs,?_⟩
unfold cY at hn
rw[if_neg (of_decide_eq_false hn)]}
theorem pR {s:Sym} (h:bi s=true):s.text.size≤32∧(gV s=true→s.sep.size≤32)∧(s.kind=1∨s.kind=2∨s.kind=3∨s.kind=4∨s.kind=5∨s.kind=6):=by{
unfold bi at h
have hz:∀ {b:ByteArray},cY b=true→b.size≤32:=fun h=>by rw[A8.1 h];decide
by_cases k1:s.kind=1
·rw[if_pos k1] at h
 simp only[Bool.and_eq_true,decide_eq_true_eq] at h
 exact⟨by omega,fun _=>hz h.2.2.2,.inl k1⟩
rw[if_neg k1] at h
by_cases k2:s.kind=2
·rw[if_pos k2] at h
 simp only[Bool.and_eq_true] at h
 exact⟨hz h.1,fun _=>hz h.2.2,.inr (.inl k2)⟩
rw[if_neg k2] at h
by_cases k3:s.kind=3
·rw[if_pos k3] at h
 simp only[Bool.and_eq_true] at h
 exact⟨hz h.1,fun _=>hz h.2.2.2,.inr (.inr (.inl k3))⟩
rw[if_neg k3] at h
by_cases k4:s.kind=4
·rw[if_pos k4] at h
 simp only[Bool.and_eq_true] at h
 exact⟨hz h.1,fun _=>hz h.2.1,.inr (.inr (.inr (.inl k4)))⟩
rw[if_neg k4] at h
by_cases k5:s.kind=5∨s.kind=6
·rw[if_pos k5] at h
 by_cases e:cY s.name=true
 ·rw[if_pos e] at h
  simp only[Bool.and_eq_true] at h
  exact⟨hz h.1,fun _=>hz h.2,.inr (.inr (.inr (.inr k5)))⟩
 ·rw[if_neg e] at h
  simp only[Bool.and_eq_true,decide_eq_true_eq] at h
  exact⟨hz h.1,fun _=>by omega,.inr (.inr (.inr (.inr k5)))⟩
·rw[if_neg k5] at h
 cases h}
theorem uW {d:bS} (hr:cA d=true) {p:Prod} (hp:p∈d.aa) {s:Sym} (hs:s∈p.an):bi s=true:=by{
unfold cA at hr
simp only[Bool.and_eq_true] at hr
have hrp:=List.all_eq_true.1 hr.2.1 _ hp
unfold cD at hrp
simp only[Bool.and_eq_true] at hrp
exact List.all_eq_true.1 hrp.2.2 _ hs}
section
variable {d:bS}
theorem kg (hp:cX d≤160):d.aa.length≤160∧d.aj.length≤160∧d.follows.length≤160∧d.ah.length≤160∧cM (fun p=>p.an.length) d.aa+cM tI d.aj≤160:=by
 unfold cX at hp
 omega
theorem ET (hc:iZ d) {p:Prod} (hp:p∈d.aa):xy d p:=by{
have hr:cA d=true:=hc 0 (by decide)
have hu:∀ s∈fw d,cI d.aa s≠0:=hc 3 (by decide)
have hl:∀ p∈d.aa,xj d p=false:=hc 7 (by decide)
refine⟨hp,(sO hr hp).2,fun s hs=>(pR (uW hr hp hs)).1,fun s hs=>?_,pW.2 ⟨p,hp,rfl⟩,?_⟩
·cases e:cY s.name with
 | true=>exact .inr (.inl rfl)
 | false=>exact .inr (.inr (km (hu _ (BN hp hs e))))
·have:=hl p hp
 unfold xj at this
 simp only[Bool.or_eq_false_iff,decide_eq_false_iff_not] at this
 omega}
theorem BL (hc:iZ d) (hp:cX d≤160):nq d:=by{
have hr:cA d=true:=hc 0 (by decide)
have hu:∀ s∈fw d,cI d.aa s≠0:=hc 3 (by decide)
have he:cI d.aa d.start=2∧(d.layout.size=0∨cI d.aa d.layout=1):=hc 2 (by decide)
obtain⟨h1,h2,h3,h4,h5⟩:=kg hp
refine⟨fun p hp=>ET hc hp,by omega,km om,?_,fun k hk=>?_,?_⟩
·rcases he.2 with e|e
 ·exact .inl (A8.2 e)
 ·exact .inr (km om)
·obtain⟨p,hp,s,hs,hL,rfl⟩:=mem_keys.1 hk
 have hR:=uW hr hp hs
 refine⟨?_,(pR hR).2.1 hL⟩
 show cY s.name=true∨s.name∈_
 cases e:cY s.name with
 | true=>exact .inl rfl
 | false=>exact .inr (km (hu _ (BN hp hs e)))
·have:=l8 (ps:=d.aa) (l:=[])
 simp only[List.length_nil] at this
 unfold br
 omega}
theorem DQ (hp:cX d≤160) (hn:∀ p∈d.aa,p.an.length≤12) (k:Nat) (hk:k<d.aa.length) (j:Nat):(gS d.aa[k].lex (br (d.aa.take k)) (d.aa[k].an.take j)).length≤3000:=by{
obtain⟨h1,h2,h3,h4,h5⟩:=kg hp
have a:=pk (lex:=d.aa[k].lex) (ys:=d.aa[k].an.take j) (l:=br (d.aa.take k))
have b:=l8 (ps:=d.aa.take k) (l:=[])
have c:=nD (f:=fun p:Prod=>p.an.length) (B:=12) (l:=d.aa.take k) fun p hp=>hn p (List.mem_of_mem_take hp)
have e:=hn _ (List.getElem_mem hk)
rw[List.length_take] at a c
simp only[List.length_nil] at b
unfold br at a ⊢
omega}
def rO {α:Type} (P:α→Bool) (l:List α):List Nat:=(List.range l.length).filter fun i=>match l[i]? with
 | some x=>P x
 | none=>false
theorem ta {α:Type} {P:α→Bool} {A B:List α}:rO P (A++B)=rO P A++(rO P B).map (A.length + ·):=by{
unfold rO
rw[List.length_append,List.range_add,List.filter_append,List.filter_map]
congr 1
·refine List.filter_congr fun i hi=>?_
 rw[List.getElem?_append_left (List.mem_range.1 hi)]
·congr 1
 refine List.filter_congr fun i hi=>?_
 simp only[Function.comp_apply]
 rw[List.getElem?_append_right om,Nat.add_sub_cancel_left]}
theorem oM {α:Type} {P:α→Bool} {l:List α} (h:∀ x∈l,P x=false):rO P l=[]:=by{
unfold rO
rw[List.filter_eq_nil_iff]
intro i hi
rw[List.getElem?_eq_getElem (List.mem_range.1 hi)]
simp only[h _ (List.getElem_mem _),Bool.false_eq_true,not_false_eq_true]}
theorem FA {α:Type} {P:α→Bool} {l:List α} (h:∀ x∈l,P x=true):rO P l=List.range l.length:=by{
unfold rO
rw[List.filter_eq_self]
intro i hi
rw[List.getElem?_eq_getElem (List.mem_range.1 hi)]
exact h _ (List.getElem_mem _)}
def L0 (i:Nat) (o:gN):Bool:=decide (o.kind=0)&&decide (o.prod=(i:Int))
theorem zB {os:List gN} {i:Nat}:dZ os i=rO (L0 i) os:=by{
unfold dZ rO
refine List.filter_congr fun j _=>?_
unfold zI L0
cases os[j]?<;>rfl}
def zK (d:bS) (i:Nat):Nat:=(gO d i).length
abbrev ey (d:bS):List gN:=(nd d).map (·.2)
theorem BU {i:Nat} {p:Prod}:(jQ d i p).length=jU p:=by unfold jQ;rw[List.length_map,List.length_range]
theorem OZ {i:Nat} (hi:i<d.aa.length):∀ k,k≤d.aa.length→rO (L0 i) ((gO d k).map (·.2))=if i<k then (List.range (jU d.aa[i])).map (zK d i + ·) else []
 | 0,_=>rfl
 | k+1,hk=>by
   have ih:=OZ hi k om
   rw[ij (show k<d.aa.length by omega),List.map_append,ta,ih]
   by_cases e:i=k
   ·subst e
    rw[if_neg om,if_pos om,List.nil_append,FA]
    ·rw[List.length_map,List.length_map,BU]
     rfl
    ·intro x hx
     unfold jQ at hx
     rw[List.map_map,List.mem_map] at hx
     obtain⟨m,_,rfl⟩:=hx
     unfold L0 oF
     simp
   ·rw[oM (l:=(jQ d k _).map _)]
    ·by_cases q:i<k
     ·rw[if_pos q,if_pos om];simp
     ·rw[if_neg q,if_neg om];rfl
    ·intro x hx
     unfold jQ at hx
     rw[List.map_map,List.mem_map] at hx
     obtain⟨m,_,rfl⟩:=hx
     unfold L0 oF
     simp
     omega
theorem Kn {l:List bM}:∀ x∈iP d l,x.2.kind=1∨x.2.kind=2:=by{
intro x hx
unfold iP at hx
rw[List.mem_flatMap] at hx
obtain⟨k,_,hx⟩:=hx
unfold AD at hx
simp only[List.mem_cons,List.not_mem_nil,or_false] at hx
rcases hx with rfl|rfl
·exact .inl rfl
·exact .inr rfl}
theorem Mo:∀ x∈oZ d,x.2.kind=3∨x.2.kind=4∨x.2.kind=5:=by{
intro x hx
unfold oZ at hx
split at hx
·simp only[List.mem_cons,List.not_mem_nil,or_false] at hx
 subst hx
 exact .inr (.inr rfl)
·simp only[List.mem_cons,List.not_mem_nil,or_false] at hx
 rcases hx with rfl|rfl|rfl
 ·exact .inl rfl
 ·exact .inr (.inl rfl)
 ·exact .inr (.inr rfl)}
theorem rY {i:Nat} (hi:i<d.aa.length):dZ (ey d) i=(List.range (jU d.aa[i])).map (zK d i + ·):=by{
rw[zB]
unfold ey nd
rw[List.map_append,List.map_append,ta,ta,OZ hi _ (Nat.le_refl _),if_pos hi,oM (l:=(iP d _).map _),oM (l:=(oZ d).map _)]
·simp
·intro x hx
 rw[List.mem_map] at hx
 obtain⟨y,hy,rfl⟩:=hx
 have:=Mo y hy
 unfold L0
 rw[decide_eq_false om]
 rfl
·intro x hx
 rw[List.mem_map] at hx
 obtain⟨y,hy,rfl⟩:=hx
 have:=Kn y hy
 unfold L0
 rw[decide_eq_false om]
 rfl}
theorem w8 {i:Nat}:∀ k,i≤k→k≤d.aa.length→gO d i <+: gO d k
 | 0,h,_=>by
   obtain rfl:i=0:=by omega
   exact List.prefix_refl _
 | k+1,h,hk=>by
   by_cases e:i=k+1
   ·subst e;exact List.prefix_refl _
   ·rw[ij (show k<d.aa.length by omega)]
    exact (w8 k om om).trans (List.prefix_append _ _)
theorem AU {i m:Nat} (hi:i<d.aa.length) (hm:m<jU d.aa[i]):(nd d)[zK d i+m]? = some (oF d i d.aa[i] m):=by{
have h1:gO d (i+1) <+: nd d:=by
 unfold nd
 exact ((w8 d.aa.length om (Nat.le_refl _)).trans (List.prefix_append _ _)).trans (List.prefix_append _ _)
refine af h1 ?_
rw[ij hi,List.getElem?_append_right (by unfold zK;omega)]
unfold zK jQ
rw[Nat.add_sub_cancel_left,List.getElem?_map,List.getElem?_range hm]
rfl}
end
theorem nG {α β:Type} {f:α→List β} {B:Nat}:∀ {l:List α},(∀ x∈l,(f x).length≤B)→(l.flatMap f).length≤l.length*B
 | [],_=>by simp
 | x :: l,h=>by
   have ih:=nG (f:=f) (B:=B) (l:=l) fun y hy=>h y (List.mem_cons_of_mem _ hy)
   have:=h x List.mem_cons_self
   rw[List.flatMap_cons,List.length_append,List.length_cons,Nat.succ_mul]
   omega
theorem rz {α β:Type} {f:α→List β} {g:α→Nat}:∀ {l:List α},(∀ x∈l,(f x).length≤g x)→(l.flatMap f).length≤(l.map g).sum
 | [],_=>by simp
 | x :: l,h=>by
   have ih:=rz (f:=f) (g:=g) (l:=l) fun y hy=>h y (List.mem_cons_of_mem _ hy)
   have:=h x List.mem_cons_self
   rw[List.flatMap_cons,List.length_append,List.map_cons,List.sum_cons]
   omega
theorem wD {α:Type} {g:α→Nat} {B:Nat}:∀ l:List α,(l.map fun x=>g x*B).sum=(l.map g).sum*B
 | []=>by simp
 | x :: l=>by
   rw[List.map_cons,List.sum_cons,List.map_cons,List.sum_cons,wD l,Nat.add_mul]
theorem zd (f:Nat→Nat):∀ (n:Nat) (I:List Nat),I.Nodup→(∀ i∈I,i<n)→(I.map f).sum≤((List.range n).map f).sum
 | 0,I,_,h=>by
   have:I=[]:=by
    cases I with
    | nil=>rfl
    | cons a r=>exact absurd (h a List.mem_cons_self) om
   rw[this]
   simp
 | n+1,I,hn,h=>by
   rw[List.range_succ,List.map_append,List.sum_append,List.map_singleton,List.sum_singleton]
   by_cases q:n∈I
   ·have hp:=List.perm_cons_erase q
    have e:=(hp.map f).sum_nat
    rw[List.map_cons,List.sum_cons] at e
    have ih:=zd f n (I.erase n) (hn.erase n) fun i hi=>by
     have h1:=h i (List.mem_of_mem_erase hi)
     have h2:i≠n:=fun e=>by
      subst e
      exact (List.Nodup.not_mem_erase hn) hi
     omega
    omega
   ·have ih:=zd f n I hn fun i hi=>by
     have h1:=h i hi
     have h2:i≠n:=fun e=>q (e▸hi)
     omega
    omega
theorem BT {α:Type} (g:α→Nat) (l:List α):((List.range l.length).map fun i=>(l[i]?.map g).getD 0)=l.map g:=by{
refine List.ext_getElem (by simp) fun i h1 h2=>?_
rw[List.length_map] at h2
simp [h2]}
section
variable {d:bS}
theorem Fp (G:nq d) {i:Nat} (hi:i<d.aa.length):jU d.aa[i]≤16:=sL (G.p _ (List.getElem_mem hi)).o
theorem wj (G:nq d) (hp:cX d≤160):(nd d).length≤3000:=by{
obtain⟨h1,h2,h3,h4,h5⟩:=kg hp
have a:=nH G.p d.aa.length
have b:=pe (d:=d) (l:=br d.aa)
have c:=l8 (ps:=d.aa) (l:=[])
have e:(oZ d).length≤3:=by unfold oZ;split<;>simp
simp only[List.length_nil] at c
unfold nd
rw[List.length_append,List.length_append]
unfold br at b ⊢
omega}
theorem oG (G:nq d):∀ o∈ey d,o.an.length≤396:=by{
intro o ho
unfold ey at ho
rw[List.mem_map] at ho
obtain⟨x,hx,rfl⟩:=ho
unfold nd at hx
rw[List.mem_append,List.mem_append] at hx
have key:∀ k,k≤d.aa.length→∀ x∈gO d k,x.2.an.length≤396:=by
 intro k
 induction k with
 | zero=>intro _ x hx;simp [gO] at hx
 | succ k ih=>
   intro hk x hx
   rw[ij (show k<d.aa.length by omega),List.mem_append] at hx
   rcases hx with hx|hx
   ·exact ih om x hx
   ·unfold jQ at hx
    rw[List.mem_map] at hx
    obtain⟨m,_,rfl⟩:=hx
    have hG:=G.p _ (List.getElem_mem (show k<d.aa.length by omega))
    have:=lR (mask:=m) hG d.aa[k].an.length
    have h12:=hG.n
    show (fb d d.aa[k] m).os.length≤396
    unfold fb
    omega
rcases hx with (hx|hx) | hx
·exact key _ (Nat.le_refl _) x hx
·unfold iP at hx
 rw[List.mem_flatMap] at hx
 obtain⟨k,_,hx⟩:=hx
 unfold AD at hx
 simp only[List.mem_cons,List.not_mem_nil,or_false] at hx
 rcases hx with rfl|rfl<;>simp
·unfold oZ at hx
 split at hx
 ·simp only[List.mem_cons,List.not_mem_nil,or_false] at hx
  subst hx
  simp
 ·simp only[List.mem_cons,List.not_mem_nil,or_false] at hx
  rcases hx with rfl|rfl|rfl<;>simp}
theorem uG (G:nq d) {i:Nat} (hi:i<d.aa.length):(dZ (ey d) i).length≤16:=by
 rw[rY hi,List.length_map,List.length_range]
 exact Fp G hi
theorem GI (G:nq d) {p a q:Nat} (hp:p<d.aa.length) (hq:q<d.aa.length):(sh (ey d) p a q).length≤101376:=by{
unfold sh
have h1:=uG G hp
have h2:((dZ (ey d) p).flatMap (nw (ey d) a q)).length≤(dZ (ey d) p).length*6336:=by
 refine nG fun r hr=>?_
 have h3:=ma hr
 unfold nw
 rw[List.getElem?_eq_getElem h3]
 simp only
 have h4:=oG G _ (List.getElem_mem h3)
 have h5:((List.range (ey d)[r].an.length).flatMap (oR (ey d) r (ey d)[r] a q)).length≤(List.range (ey d)[r].an.length).length*16:=by
  refine nG fun j _=>?_
  unfold oR
  split
  ·rw[List.length_map];exact uG G hq
  ·simp
 rw[List.length_range] at h5
 omega
omega}
theorem Jn (G:nq d) {p q:CE} (hp:p.at_<d.aa.length) (hq:q.at_<d.aa.length):(jK d (ey d) p q).length≤((d.aa[p.at_]?.map fun x=>x.an.length).getD 0)*101376:=by{
unfold jK
rw[List.getElem?_eq_getElem hp]
simp only[Option.map_some,Option.getD_some]
have:=nG (f:=fun y:Sym×Nat=>tH d (ey d) p q d.aa[p.at_].an.length y.2 y.1) (B:=101376) (l:=d.aa[p.at_].an.zipIdx) fun y _=>by
 unfold tH
 rw[List.getElem?_eq_getElem hq]
 simp only
 split
 ·exact GI G hp hq
 ·simp
rw[List.length_zipIdx] at this
exact this}
theorem Dw (G:nq d) {l:List cZ} (hok:fR d.aa (dy l)):(fV d (ey d) l).length≤cM (fun p=>p.an.length) d.aa*((dy l).length*101376):=by{
unfold fV
have h1:((oP d.aa l).flatMap fun p=>(oP d.aa l).flatMap fun q=>jK d (ey d) p q).length≤((oP d.aa l).map fun p=>((d.aa[p.at_]?.map fun x=>x.an.length).getD 0)*((dy l).length*101376)).sum:=by
 refine rz fun p hp=>?_
 have h2:=nG (f:=fun q=>jK d (ey d) p q) (l:=oP d.aa l) (B:=((d.aa[p.at_]?.map fun x=>x.an.length).getD 0)*101376) fun q hq=>Jn G (u9 hok hp) (u9 hok hq)
 rw[wH] at h2
 refine Nat.le_trans h2 (Nat.le_of_eq ?_)
 rw[Nat.mul_left_comm]
refine Nat.le_trans h1 ?_
rw[wD]
refine Nat.mul_le_mul_right _ ?_
have h3:=zd (fun i=>(d.aa[i]?.map fun x=>x.an.length).getD 0) d.aa.length ((oP d.aa l).map CE.at_) (oV hok) fun i hi=>by
 rw[List.mem_map] at hi
 obtain⟨e,he,rfl⟩:=hi
 exact u9 hok he
rw[BT,List.map_map] at h3
exact h3}
theorem uh (l:List cZ):(dy l).length≤tI l:=by{
unfold dy tI cM
rw[List.length_flatMap]
exact Nat.le_add_left _ _}
theorem AO (G:nq d) (hok:sq d) (hp:cX d≤160):(iV d (ey d)).length≤1000000000:=by{
obtain⟨h1,h2,h3,h4,h5⟩:=kg hp
unfold iV
have a:=rz (f:=fV d (ey d)) (g:=fun l=>tI l*(cM (fun p=>p.an.length) d.aa*101376)) (l:=d.aj) fun l hl=>by
 refine Nat.le_trans (Dw G (hok l hl)) ?_
 rw[Nat.mul_left_comm]
 exact Nat.mul_le_mul_right _ (uh l)
rw[wD] at a
have e:(d.aj.map tI).sum=cM tI d.aj:=rfl
rw[e] at a
generalize cM (fun p=>p.an.length) d.aa=S at a h5
generalize cM tI d.aj=C at a h5
have:C*(S*101376)≤160*(160*101376) / 1:=by
 rw[Nat.div_one]
 exact Nat.mul_le_mul om (Nat.mul_le_mul_right _ om)
have hCS:C*S≤6400:=by
 have h:C≤160-S:=by omega
 have h2:C*S≤(160-S)*S:=Nat.mul_le_mul_right _ h
 have h3:∀ S:Fin 161,(160-S.1)*S.1≤6400:=by decide
 have:=h3 ⟨S,by omega⟩
 simp only at this
 omega
have e2:C*(S*101376)=C*S*101376:=(Nat.mul_assoc _ _ _).symm
rw[e2] at a
omega}
theorem EK (hp:cX d≤160):∀ c∈d.aj,(dy c).length≤1000∧c.length≤1000:=by{
intro c hc
obtain⟨h1,h2,h3,h4,h5⟩:=kg hp
have a:=sk (f:=tI) hc
have b:=uh c
have e:c.length≤tI c:=by unfold tI;omega
omega}
end
def kG (d:bS) (nm:List ByteArray):List ByteArray:=aF d.aa++nm++(if cY d.layout=true then [] else [ByteArray.mk #[103,97,112]])++[ByteArray.mk #[116,111,112]]
abbrev qd (m:MK):Value:=.agg #[.string m.start,.string m.layout,m.vP,m.vC,m.NM,m.NJ,m.vB,i64 m.fx,i64 m.st,m.vr,m.vf,m.vn,m.vb,m.vF,m.vR]
abbrev O3:Value:=.agg #[.string ⟨#[]⟩,.string ⟨#[]⟩,aH,aH,aH,aH,aH,i64 0,i64 0,aH,aH,aH,aH,aH,aH]
structure KO (h h':ai) (d:bS) (m:MK) (nm:List ByteArray):Prop where
 p:h <+: h'
 D:Fr (fun x=>bo x d m.vP m.vC m.NM m.NJ m.vB) h.length h'
 s1:m.start=d.start
 s2:m.layout=d.layout
 fx:m.fx=(aV d:Int)
 st:m.st=(eg d:Int)
 r:sw h h' m.vr ((nd d).map (·.1))
 f:zR h h' m.vf (ey d)
 n:aL h h' m.vn (kG d nm).length ((kG d nm).map .string) 9
 nl:nm.length=nK d
 ne:∀ b∈nm,Fj b
 b:aL h h' m.vb (iJ [] (iV d (ey d))).length (BC (eD d)) 70
 F:aL h h' m.vF (aV d) ((kF d d.follows).flatMap a8.cells) 54
 R:aL h h' m.vR (aV d) ((sZ d d.ah).map i64) 3
theorem dA.base {α:Type} {f:α→Value→List Value} {g:α→List Value} {w:Nat} {et et2:TypeId} {a b c:ai} {v:Value} {l:List α} (k:dA f g w et et2 b c v l) (h:a <+: b):dA f g w et et2 a c v l:=by{
obtain⟨us,hl,G,hu⟩:=k
exact⟨us,hl,G.base h,fun i x u k1 k2=>by
 obtain⟨n,e,g'⟩:=hu i x u k1 k2
 exact⟨n,e,g'.base h⟩⟩}
theorem zR.rd {h h':ai} {v:Value} {l:List gN} (k:zR h h' v l) (hl:l.length≤1000000) (hs:∀ o∈l,o.an.length≤1000000):fG h' v l:=by{
obtain⟨us,e,G,hu⟩:=k
refine⟨us,e,G.sl om,fun i r u h1 h2=>?_⟩
obtain⟨n,en,g⟩:=hu i r u h1 h2
have hr:=hs r (List.mem_of_getElem? h1)
have:n=r.an.length:=by
 have:(Sg r).length=r.an.length:=List.length_map ..
 omega
subst this
exact g.sl (b:=8) om}
theorem GX {hk h':ai} {im:Nat} {cells:List Value} (ho:hk[im]? = some (.aq cells 0 true 94)) (k:∀ (j:Nat) (o:ax),j<hk.length→j≠im→hk[j]? = some o→h'[j]? = some o):bt [94] hk h':=fun j o e q=>by
 refine k j o (List.getElem?_eq_some_iff.1 e).1 (fun e1=>?_) e
 subst e1
 rw[ho] at e
 cases e
 simp [s6] at q
theorem Bm {x:ByteArray}:∀ {l:List ByteArray},x∈l→l.idxOf x<l.length
 | [],h=>by simp at h
 | a :: l,h=>by
   rw[xg]
   by_cases e:x=a
   ·rw[if_pos e];simp
   ·rw[if_neg e]
    have:=Bm ((List.mem_cons.1 h).resolve_left e)
    simp only[List.length_cons]
    omega
section
variable {h:ai} {d:bS} {up uc uf ur ub:Value}
theorem AS (hd:bo h d up uc uf ur ub) (hw:ou d) (hpn:cA d=true→cX d≤160) : FW env 15 [.agg (d.val up uc uf ur ub).toArray] h fun r h'=>(¬ iZ d∧r = .tuple #[O3,i64 53]∧h'=h)∨(iZ d∧∃ m nm,r = .tuple #[qd m,i64 0]∧KO h h' d m nm):=by{
have hck:=FK hd hw hpn
have hcp:=Dh hd
unfold bS.val at hck hcp
have hd0:=hd
obtain⟨p1,c1,p2,c2,p3,c3,p4,c4,p5,c5,rfl,rfl,rfl,rfl,rfl,l1,l2,l3,l4,l5⟩:=bo.form hd
refine fe Tryz.func15 ?_;simp only[push_cast]
unfold bS.val
refine aC ?_
refine zj Tryz.func31 ?_
refine hck.mono ?_
rintro _ h1 ⟨⟨e,w,rfl,he⟩,e1⟩
obtain rfl:=e1.symm
by_cases q:e=0
·have hok:=he.1 q
 have d1:=decide_eq_true q
 have hpt:=hpn (hok 0 (by decide))
 have G:=BL hok hpt
 obtain⟨b1,b2,b3,b4,b5⟩:=kg hpt
 refine aG d1 ?_
 refine ae rfl ?_
 refine zu ?_
 iterate 1 (refine zx oA ?_)
 refine zj Tryz.func32 ?_
 refine hcp.mono ?_
 rintro _ h1 ⟨hp1,vp,vc,vf,vr,vb,rfl,hF⟩
 have hD1:=hF.now
 obtain⟨p1',c1',rfl⟩:=ct.form hD1.aa
 obtain⟨p2',c2',rfl⟩:=ct.form hD1.aj
 obtain⟨p3',c3',rfl⟩:=bT.form hD1.follows
 obtain⟨p4',c4',rfl⟩:=bT.form hD1.ah
 obtain⟨p5',c5',rfl⟩:=ct.form hD1.boxes
 iterate 1 (refine zx oA ?_)
 refine kC (kt:=9) (et:=3) al rfl kr ?_
 dsimp only[St.a9,St.put]
 have hpA:h1 <+: h1++[ax.map []]:=aJ
 have hmA:(h1++[ax.map []])[h1.length]? = some (.map (fK [])):=aK
 have hlA:(h1++[ax.map []]).length=h1.length+1:=by simp
 generalize (h1++[ax.map []])=hA at hpA hmA hlA ⊢
 obtain⟨is,his⟩:∃ is,is=h1.length:=⟨_,rfl⟩
 rw[← his] at hmA
 rw[← his]
 refine kC (kt:=154) (et:=3) al rfl kr ?_
 dsimp only[St.a9,St.put]
 have hpB:h1 <+: hA++[ax.map []]:=dt hpA
 have hmB:(hA++[ax.map []])[is]? = some (.map (fK [])):=bA hmA
 have hnB:(hA++[ax.map []])[hA.length]? = some (.map (kE [])):=aK
 have hlB:(hA++[ax.map []]).length=h1.length+2:=by simp [hlA]
 generalize (hA++[ax.map []])=hB at hpB hmB hnB hlB ⊢
 obtain⟨il,hil⟩:∃ il,il=hA.length:=⟨_,rfl⟩
 rw[← hil] at hnB
 rw[← hil]
 iterate 1 (refine zx oA ?_)
 obtain⟨m0,hm0⟩:∃ m0:MK,m0=⟨d.start,d.layout,.slice p1' d.aa.length c1',.slice p2' d.aj.length c2',.slice p3' d.follows.length c3',.slice p4' d.ah.length c4',.slice p5' d.boxes.length c5',0,0,aH,aH,aH,aH,aH,aH,is,il,aH,0⟩:=⟨_,rfl⟩
 refine dK (t:=94) (cs:=m0.cells) al (by rw[hm0];unfold MK.cells;exact al) ?_
 dsimp only[St.a9,St.put]
 have hpC:h1 <+: hB++[ax.aq m0.cells 0 true 94]:=dt hpB
 have hmC:(hB++[ax.aq m0.cells 0 true 94])[is]? = some (.map (fK [])):=bA hmB
 have hnC:(hB++[ax.aq m0.cells 0 true 94])[il]? = some (.map (kE [])):=bA hnB
 have hoC:(hB++[ax.aq m0.cells 0 true 94])[hB.length]? = some (.aq m0.cells 0 true 94):=aK
 generalize (hB++[ax.aq m0.cells 0 true 94])=hC at hpC hmC hnC hoC ⊢
 obtain⟨im,him⟩:∃ im,im=hB.length:=⟨_,rfl⟩
 rw[← him] at hoC
 rw[← him]
 have hkY:=DQ hpt (fun p hp=>(G.p p hp).n)
 have hnS:=b8 (ps:=d.aa)
 have hnt:=Nv (h0:=h1) (hk:=hC) (im:=im) (m:=m0) hpC hoC (by rw[hm0];exact hmC) (by rw[hm0];exact hnC) om (by rw[hm0];show h1.length≤is;omega) (by rw[hm0];show h1.length≤il;omega) (by rw[hm0];show im≠is;omega) (by rw[hm0];show im≠il;omega) (by rw[hm0];show is≠il;omega) (by rw[hm0]) (by rw[hm0]) (by rw[hm0];exact hD1) (by rw[hm0]) (by rw[hm0]) G hw.aa om hkY
 refine aC ?_
 refine zj Tryz.func33 ?_
 refine hnt.mono ?_
 rintro _ h2 ⟨rfl,vn,vo,nm,hb,NT⟩
 have N:=NT.s
 have hbl:h1.length≤hb.length:=by have:=hpC.length_le;have:=NT.p.length_le;omega
 have hM:MR h1 h2 im { m0 with vn:=vn,vo:=vo,mh:=bQ d,st:=(eg d:Int),fx:=(aV d:Int) } []:=⟨N.p,by omega,N.o,by rw[hm0];exact dA.nil,by rw[hm0];exact dA.nil⟩
 have hS:MS h2 { m0 with vn:=vn,vo:=vo,mh:=bQ d,st:=(eg d:Int),fx:=(aV d:Int) } d (wC (aF d.aa)) (wZ (aF d.aa).length (br d.aa)):=⟨N.sm,fun x hx=>AW hx,N.lm,fun k hk=>by rw[BQ,if_pos hk];rfl,rfl⟩
 have hru:=DR (m:={ m0 with vn:=vn,vo:=vo,mh:=bQ d,st:=(eg d:Int),fx:=(aV d:Int) }) hM hS (by rw[hm0];exact hD1.aa.mono N.p) (by rw[hm0]) (by rw[hm0]) (N.od.lj hbl) G rfl
 refine aC ?_
 refine zj Tryz.func34 ?_
 refine hru.mono ?_
 rintro _ h3 ⟨rfl,vr,vf,M3,K3⟩
 have hrl:=wj G hpt
 have hos:(ey d).length≤4096:=by unfold ey;rw[List.length_map];omega
 have hosy:∀ o∈ey d,o.an.length≤1000000:=fun o ho=>by have:=oG G o ho;omega
 have hN3:=(N.n.dH K3 (by decide)).lj hbl
 have hNl:(kG d nm).length=aV d:=by
  unfold kG
  rw[List.length_append,List.length_append,List.length_append,NT.l]
  unfold aV eg
  split<;>rfl
 have hkn:=G.kn
 have hN5:aV d≤5000:=by
  have e1:nS d≤160:=by unfold nS;omega
  have e2:nK d≤3000:=hkn
  unfold aV eg
  split<;>omega
 have hKD:KD h1 h3 im { m0 with vn:=vn,vo:=vo,mh:=bQ d,st:=(eg d:Int),fx:=(aV d:Int),vr:=vr,vf:=vf } d (ey d) (kG d nm):=⟨M3.p,by omega,M3.o,by rw[hm0];exact hD1,by rw[hm0],by rw[hm0],zR.rd M3.f om hosy,(aL.sl (b:=16) hN3 (by show (kG d nm).length*16≤_;omega)),by obtain⟨p,c,e⟩:=dA.form M3.r;exact⟨p,_,c,e⟩,by rw[hm0];exact⟨none,0,0,rfl⟩,by rw[hm0];exact⟨none,0,0,rfl⟩,by rw[hm0];exact⟨none,0,0,rfl⟩⟩
 have hu:∀ s∈fw d,cI d.aa s≠0:=hok 3 (by decide)
 have hfS:∀ x∈d.follows,x.sort∈aF d.aa∧di x.set:=fun x hx=>⟨km (hu _ (by unfold fw;exact List.mem_append_left _ (List.mem_append_right _ (List.mem_map_of_mem hx)))),(hw.follows x hx).2⟩
 have hrS:∀ x∈d.ah,x.sort∈aF d.aa∧x.jN∈aF d.aa:=fun x hx=>⟨km (hu _ (by unfold fw nR;exact List.mem_append_right _ (List.mem_flatMap.2 ⟨x,hx,by simp⟩))),km (hu _ (by unfold fw nR;exact List.mem_append_right _ (List.mem_flatMap.2 ⟨x,hx,by simp⟩)))⟩
 have hsn:∀ x∈aF d.aa,gJ d x<aV d:=fun x hx=>by
  have h1:=Bm hx
  unfold gJ aV eg nS
  split<;>omega
 have hfi:=zL hKD (K3 _ _ N.sm rfl) (fun x hx=>AW hx) (by rw[hm0]) rfl hN5 (hok 11 (by decide)) hos (EK hpt) om (fun p hp=>by have:=(G.p p hp).n;omega) hosy (AO G (hok 11 (by decide)) hpt) hfS hrS om om hsn
 refine aC ?_
 refine zj Tryz.func35 ?_
 refine hfi.mono ?_
 rintro _ h4 ⟨rfl,vb,vF,vR,FI⟩
 have hob:=FI.o
 have K4:=GX M3.o FI.k
 have hl3:h.length≤h3.length:=by have:=hp1.length_le;have:=M3.p.length_le;omega
 obtain⟨m4,hm4⟩:∃ m4:MK,m4={ m0 with vn:=vn,vo:=vo,mh:=bQ d,st:=(eg d:Int),fx:=(aV d:Int),vr:=vr,vf:=vf,vb:=vb,vF:=vF,vR:=vR }:=⟨_,rfl⟩
 rw[← hm4] at hob
 have hKO:KO h h4 d m4 nm:=by
  refine⟨hp1.trans FI.p,?_,?_,?_,?_,?_,?_,?_,?_,NT.l,NT.e,?_,?_,?_⟩
  ·rw[hm4,hm0]
   exact hF.mono (ka.pre FI.p)
  ·rw[hm4,hm0]
  ·rw[hm4,hm0]
  ·rw[hm4]
  ·rw[hm4]
  ·rw[hm4]
   exact (dA.dH M3.r K4 (by decide) (by decide)).base hp1
  ·rw[hm4]
   exact (dA.dH M3.f K4 (by decide) (by decide)).base hp1
  ·rw[hm4]
   exact (hN3.dH K4 (by decide)).base hp1
  ·rw[hm4]
   exact FI.b.lj hl3
  ·rw[hm4]
   exact FI.F.lj hl3
  ·rw[hm4]
   exact FI.R.lj hl3
 obtain⟨q1,r1,e1⟩:=ct.form hKO.D.now.aa
 obtain⟨q2,r2,e2⟩:=ct.form hKO.D.now.aj
 obtain⟨q3,r3,e3⟩:=bT.form hKO.D.now.follows
 obtain⟨q4,r4,e4⟩:=bT.form hKO.D.now.ah
 obtain⟨q5,r5,e5⟩:=ct.form hKO.D.now.boxes
 obtain⟨q6,r6,e6⟩:=dA.form hKO.r
 obtain⟨q7,r7,e7⟩:=dA.form hKO.f
 obtain⟨q8,r8,e8⟩:=hKO.n.form
 obtain⟨q9,r9,e9⟩:=hKO.b.form
 obtain⟨qa,ra,ea⟩:=hKO.F.form
 obtain⟨qb,rb,eb⟩:=hKO.R.form
 simp only[MK.cells,e1,e2,e3,e4,e5,e6,e7,e8,e9,ea,eb] at hob
 refine aG hob ?_
 refine ak ?_
 refine⟨_,al,.inr ⟨hok,m4,nm,?_,hKO⟩⟩
 rw[qd,e1,e2,e3,e4,e5,e6,e7,e8,e9,ea,eb]
 rfl
·have hno:¬ iZ d:=fun k=>q (he.2 k)
 have d1:=decide_eq_false q
 refine aG d1 ?_
 refine ag rfl ?_
 refine aC ?_
 refine ak ?_
 exact⟨_,al,.inl ⟨hno,rfl,rfl⟩⟩}
end
theorem dA.at {α:Type} {f:α→Value→List Value} {g:α→List Value} {w k:Nat} {et et2:TypeId} {h0 hk:ai} {v:Value} {l:List α} (hf:∀ x u,(f x u).length=k) (G:dA f g w et et2 h0 hk v l) {i:Nat} (hi:i<l.length) : ∃ id av c cells u n,v = .slice (some ⟨id,0,some av⟩) l.length c∧hk[id]? = some (.aq cells av true et)∧js cells (i*k) k=some (f l[i] u)∧(g l[i]).length=n*w∧aL h0 hk u n (g l[i]) et2∧h0.length≤id:=by{
obtain⟨us,hl,G,hu⟩:=G
rcases G with ⟨e0,_,_⟩ | ⟨id,av,h1,rfl,h3⟩
·omega
have hi':i<us.length:=hl▸hi
obtain⟨n,en,g'⟩:=hu i l[i] us[i] (by simp [hi]) (by simp [hi'])
refine⟨id,av,_,_,us[i],n,rfl,h3,?_,en,g',h1⟩
refine bI (f:=fun p:α×Value=>f p.1 p.2) (fun _=>hf _ _) (l.zip us) i (l[i],us[i]) ?_
simp [List.getElem?_zip_eq_some,hi,hi']}
theorem sw.at {h0 hk:ai} {v:Value} {l:List dG} (G:sw h0 hk v l) {i:Nat} (hi:i<l.length) : ∃ id av c cells p c2,v = .slice (some ⟨id,0,some av⟩) l.length c∧hk[id]? = some (.aq cells av true 63)∧js cells (i*2) 2=some [i64 l[i].lhs,.slice p l[i].rhs.length c2]∧aL h0 hk (.slice p l[i].rhs.length c2) l[i].rhs.length (l[i].rhs.flatMap be.cells) 65∧h0.length≤id:=by{
obtain⟨id,av,c,cells,u,n,e1,e2,e3,e4,e5,e6⟩:=dA.at (k:=2) (fun _ _=>rfl) G hi
have hn:(UR l[i]).length=l[i].rhs.length*5:=kB
obtain rfl:n=l[i].rhs.length:=by omega
obtain⟨p,c2,rfl⟩:=e5.form
exact⟨id,av,c,cells,p,c2,e1,e2,e3,e5,e6⟩}
section
variable {h h':ai} {d:bS} {m:MK} {nm:List ByteArray}
theorem gM:(ey d).length=(nd d).length:=List.length_map ..
theorem KO.Ta (K:KO h h' d m nm):(kG d nm).length=aV d:=by{
unfold kG
rw[List.length_append,List.length_append,List.length_append,K.nl]
unfold aV eg
split<;>rfl}
theorem KO.nO (K:KO h h' d m nm) (G:nq d) (hp:cX d≤160):fG h' m.vf (ey d):=
 zR.rd K.f (by have:=wj G hp;rw[gM];omega) (fun o ho=>by have:=oG G o ho;omega)
theorem KO.KP (K:KO h h' d m nm) (G:nq d) (hp:cX d≤160):lN h' (qd m) (ey d) (kG d nm):=by{
obtain⟨q1,r1,e1⟩:=ct.form K.D.now.aa
obtain⟨q2,r2,e2⟩:=ct.form K.D.now.aj
obtain⟨q3,r3,e3⟩:=bT.form K.D.now.follows
obtain⟨q4,r4,e4⟩:=bT.form K.D.now.ah
obtain⟨q5,r5,e5⟩:=ct.form K.D.now.boxes
obtain⟨q6,r6,e6⟩:=dA.form K.r
obtain⟨q9,r9,e9⟩:=K.b.form
obtain⟨qa,ra,ea⟩:=K.F.form
obtain⟨qb,rb,eb⟩:=K.R.form
have hN:aV d≤5000:=by
 obtain⟨b1,b2,b3,b4,b5⟩:=kg hp
 have h1:=b8 (ps:=d.aa)
 have h2:=G.kn
 have e1:nS d≤160:=by unfold nS;omega
 have e2:nK d≤3000:=h2
 unfold aV eg
 split<;>omega
refine⟨m.start,m.layout,q1,q2,q3,q4,q5,q6,q9,qa,qb,_,_,_,_,_,_,_,_,_,r1,r2,r3,r4,r5,r6,r9,ra,rb,m.fx,m.st,m.vf,m.vn,by rw[qd,e1,e2,e3,e4,e5,e6,e9,ea,eb],K.nO G hp,K.n.sl (by rw[K.Ta];omega)⟩}
theorem yb (h:cA d=true):rh d:=by{
intro b hb
unfold cA at h
simp only[Bool.and_eq_true] at h
have h1:=List.all_eq_true.1 h.2.2.2.2.2 b hb
unfold gj at h1
simp only[Bool.and_eq_true,decide_eq_true_eq] at h1
omega}
end
section
variable {d:bS}
def wu (d:bS) (p:Prod) (k:Nat) (R:wS):Prop:=R.os.length=R.rhs.length∧∀ (i j:Nat),R.os[i]? = some (j:Int)→j<k∧∀ y,p.an[j]? = some y→y.kind≠1→∀ x,jS d p.lex y=[x]→R.rhs[i]? = some x
theorem wu.put {p:Prod} {k:Nat} {R:wS} {m:Nat} (h:wu d p k R) (hk:k<p.an.length):wu d p (k+1) (iv d p.lex ⟨m,R.rhs,R.os⟩ k p.an[k]):=by{
obtain⟨hl,h⟩:=h
unfold iv
generalize hA:(if mR d p.lex R.rhs=true then [dY (bQ d)] else [])=A
generalize hB:(if mR d p.lex R.rhs=true then [(-1:Int)] else [])=B
have hAB:A.length=B.length∧∀ x∈B,x = -1:=by
 rw[← hA,← hB]
 split<;>simp
show wu d p (k+1) ⟨m,R.rhs++A++jS d p.lex p.an[k],R.os++B++List.replicate (jS d p.lex p.an[k]).length (k:Int)⟩
refine⟨by simp only[List.length_append,List.length_replicate];omega,fun i j hij=>?_⟩
simp only at hij ⊢
rcases Nat.lt_or_ge i R.os.length with h1|h1
·rw[List.append_assoc,List.getElem?_append_left h1] at hij
 obtain⟨a,b⟩:=h i j hij
 refine⟨by omega,fun y hy hy1 x hx=>?_⟩
 rw[List.append_assoc,List.getElem?_append_left om]
 exact b y hy hy1 x hx
·rcases Nat.lt_or_ge i (R.os++B).length with h2|h2
 ·rw[List.getElem?_append_left h2,List.getElem?_append_right h1] at hij
  have:=hAB.2 _ (List.mem_of_getElem? hij)
  omega
 ·rw[List.getElem?_append_right h2] at hij
  have hj:=List.eq_of_mem_replicate (List.mem_of_getElem? hij)
  have hlt:=(List.getElem?_eq_some_iff.1 hij).1
  rw[List.length_replicate] at hlt
  obtain rfl:j=k:=by omega
  refine⟨by omega,fun y hy hy1 x hx=>?_⟩
  rw[List.getElem?_eq_getElem hk] at hy
  cases hy
  have h3:(R.rhs++A).length=(R.os++B).length:=by simp only[List.length_append];omega
  rw[List.getElem?_append_right om,hx]
  rw[hx] at hlt
  simp only[List.length_cons,List.length_nil] at hlt
  have:i-(R.rhs++A).length=0:=by omega
  rw[this]
  rfl}
theorem wu.all {p:Prod} {mask:Nat}:∀ k,k≤p.an.length→wu d p k (dN d p mask k)
 | 0,_=>⟨rfl,fun i j h=>by simp [dN] at h⟩
 | k+1,hk=>by
   have ih:=wu.all (p:=p) (mask:=mask) k om
   have hk':k<p.an.length:=by omega
   rw[mK hk']
   have hkeep:∀ m,wu d p (k+1) ⟨m,(dN d p mask k).rhs,(dN d p mask k).os⟩:=fun m=>⟨ih.1,fun i j h=>⟨by have:=(ih.2 i j h).1;omega,(ih.2 i j h).2⟩⟩
   unfold jY
   split
   ·split
    ·exact hkeep _
    ·exact ih.put hk'
   ·exact ih.put (m:=(dN d p mask k).mask) hk'
structure SH (d:bS) (b:aR) (i j:Nat):Prop where
 pi:∃ hi:i<d.aa.length,iA d.aa (d.aa[i]'hi).cons
 pj:∃ hj:j<d.aa.length,iA d.aa (d.aa[j]'hj).cons
 pr:∃ R o,(nd d)[b.ef]? = some (R,o)∧o.prod=(i:Int)∧∃ x:be,R.rhs[b.jO]? = some x∧x.nt=((gJ d (d.aa[j]'pj.1).sort:Nat):Int)
 pq:∃ R o,(nd d)[b.nO]? = some (R,o)∧o.prod=(j:Int)∧R.lhs=((gJ d (d.aa[j]'pj.1).sort:Nat):Int)
theorem BE {l:List cZ} (h:fR d.aa (dy l)) {e:CE} (he:e∈oP d.aa l):∃ hk:e.at_<d.aa.length,iA d.aa d.aa[e.at_].cons:=by{
have h1:e.at_∈(oP d.aa l).map CE.at_:=List.mem_map_of_mem he
unfold oP at h1
rw[si l 0,List.mem_map] at h1
obtain⟨c,hc,e1⟩:=h1
obtain⟨hk,hb⟩:=nY (h.1 c hc)
unfold nC at hb
simp only[Bool.and_eq_true,decide_eq_true_eq] at hb
rw[← e1]
exact⟨hk,by rw[hb.2];exact h.1 c hc⟩}
theorem He (hc:iZ d) {b:aR} (hb:b∈eD d):∃ i j,SH d b i j:=by{
unfold eD at hb
rw[List.mem_mergeSort,oT] at hb
rcases hb with hb|hb
·cases hb
have hp:sq d:=hc 11 (by decide)
have hr:cA d=true:=hc 0 (by decide)
unfold iV at hb
rw[List.mem_flatMap] at hb
obtain⟨l,hl,hb⟩:=hb
have hok:=hp l hl
unfold fV at hb
rw[List.mem_flatMap] at hb
obtain⟨p,hp',hb⟩:=hb
rw[List.mem_flatMap] at hb
obtain⟨q,hq',hb⟩:=hb
obtain⟨hi,ci⟩:=BE hok hp'
obtain⟨hj,cj⟩:=BE hok hq'
unfold jK at hb
rw[List.getElem?_eq_getElem hi] at hb
simp only[List.mem_flatMap] at hb
obtain⟨⟨s,n⟩,hs,hb⟩:=hb
rw[List.mem_zipIdx_iff_getElem?] at hs
unfold tH at hb
rw[List.getElem?_eq_getElem hj] at hb
simp only at hb hs
split at hb
·rename_i hdir
 rw[Bool.and_eq_true] at hdir
 have hdir:=hdir.1
 unfold gz at hdir
 simp only[Bool.and_eq_true,Bool.or_eq_true,decide_eq_true_eq] at hdir
 unfold sh at hb
 rw[List.mem_flatMap] at hb
 obtain⟨r,hrr,hb⟩:=hb
 unfold nw at hb
 have hrs:dZ ((nd d).map (·.2)) p.at_=(List.range (jU d.aa[p.at_])).map (zK d p.at_ + ·):=rY hi
 rw[hrs,List.mem_map] at hrr
 obtain⟨mk,hmk,rfl⟩:=hrr
 rw[List.mem_range] at hmk
 have hg:=AU hi hmk
 rw[List.getElem?_map,hg] at hb
 simp only[Option.map_some,List.mem_flatMap] at hb
 obtain⟨pos,_,hb⟩:=hb
 unfold oR at hb
 split at hb
 ·rename_i hpos
  have hrs2:dZ ((nd d).map (·.2)) q.at_=(List.range (jU d.aa[q.at_])).map (zK d q.at_ + ·):=rY hj
  rw[hrs2,List.mem_map] at hb
  obtain⟨kid,hkid,rfl⟩:=hb
  rw[List.mem_map] at hkid
  obtain⟨mk2,hmk2,rfl⟩:=hkid
  rw[List.mem_range] at hmk2
  have hg2:=AU hj hmk2
  have hnm:bK d.aa[q.at_].sort=true:=by
   unfold cA at hr
   simp only[Bool.and_eq_true] at hr
   have hrp:=List.all_eq_true.1 hr.2.1 _ (List.getElem_mem hj)
   unfold cD at hrp
   simp only[Bool.and_eq_true] at hrp
   exact hrp.1.1
  have hem:cY s.name=false:=by
   rw[hdir.2]
   unfold cY
   refine decide_eq_false fun e=>?_
   rw[e] at hnm
   revert hnm
   decide
  have hown:jS d d.aa[p.at_].lex s=[dY (gJ d d.aa[q.at_].sort)]:=by
   unfold jS gV mo
   rw[if_neg om,if_neg (by simp only[Bool.or_eq_true,decide_eq_true_eq];omega),hem,hdir.2]
   rfl
  have hpl:=(wu.all (d:=d) (p:=d.aa[p.at_]) (mask:=mk) _ (Nat.le_refl _)).2 pos n hpos
  have hx:=hpl.2 s hs om _ hown
  exact⟨p.at_,q.at_,⟨hi,ci⟩,⟨hj,cj⟩,⟨_,_,hg,rfl,_,hx,rfl⟩,⟨_,_,hg2,rfl,rfl⟩⟩
 ·cases hb
·cases hb}
theorem yp {k:Nat} (hk:k+1<(eD d).length):bx (eD d)[k] (eD d)[k+1]=true:=by{
have hs:(eD d).Pairwise (fun x y=>(!bx y x)=true):=by
 unfold eD
 refine List.pairwise_mergeSort (fun a b c h1 h2=>?_) (fun a b=>?_) _
 ·simp only[Bool.not_eq_true',me] at *
  omega
 ·simp only[Bool.or_eq_true,Bool.not_eq_true',me]
  omega
have hn:(eD d).Nodup:=by
 unfold eD
 exact (List.mergeSort_perm _ _).nodup_iff.2 (qi List.nodup_nil)
have h1:=List.pairwise_iff_getElem.1 hs k (k+1) om hk om
have h2:=List.pairwise_iff_getElem.1 hn k (k+1) om hk om
cases h:bx (eD d)[k] (eD d)[k+1] with
| true=>rfl
| false=>
  simp only[Bool.not_eq_true'] at h1
  exact absurd (zW h h1) h2}
end
theorem Cu {α:Type} {f:α→Value→List Value} {l:List α} {us:List Value} {k:Nat} (hk:k<l.length) (hu:us.length=k) {u:Value}:((l.take (k+1)).zip (us++[u])).flatMap (fun p=>f p.1 p.2)=((l.take k).zip us).flatMap (fun p=>f p.1 p.2)++f l[k] u:=by
 rw[List.take_succ_eq_append_getElem hk,List.zip_append (by rw[List.length_take,hu];omega),List.flatMap_append]
 simp
structure Vj (h:ai) (l:List Item) (k:Nat) (x:ai×Value×List Value):Prop where
 p:h <+: x.1
 n:x.2.2.length=k
 g:aL h x.1 x.2.1 k (((l.take k).zip x.2.2).flatMap fun p=>Dx p.1 p.2) 136
 d:∀ (i:Nat) (hi:i<l.length) (u:Value),x.2.2[i]? = some u→∀ y:ai,(∀ j o,h.length≤j→bX x.2.1 j=false→x.1[j]? = some o→y[j]? = some o)→bh y u l[i].bl
theorem tM {h0:ai} {v:Value} {l:List Item} (hr:bh h0 v l):∀ {h:ai},h0 <+: h→FW env 30 [v] h fun r h'=>h <+: h'∧(∃ p c,r = .slice p l.length c)∧Fr (fun x=>bh x r l) h.length h':=by{
induction hr with
| @mk v l us hl hs hu ih=>
  intro h hp0
  have hle:=hs.1
  have hn:l.length≤140737488355328:=by omega
  obtain⟨pv,cv,rfl⟩:=hs.form
  refine fe Tryz.func30 ?_;simp only[push_cast]
  refine aC ?_
  refine aX l.length (fun k (x:ai×Value×List Value)=>[(0,.val (.slice pv l.length cv)),(3,.val x.2.1),(4,.val (i64 k))]) (fun _ x=>x.1) (fun k x=>Vj h l k x) (h,aH,[]) aM rfl ⟨List.prefix_refl _,rfl,aL.nil,fun i hi u hu=>by simp at hu⟩ ?_
  rintro k ⟨hk,vo,W⟩ hkn I
  by_cases hlt:k<l.length
  ·have e1:=cz hlt
   have e2:=inc hlt hn
   have e3:=aU hlt
   have hi':k<us.length:=hl▸hlt
   obtain⟨id,av,own,c',hv,hid0⟩:=hs.at om
   cases hv
   have hid:=af (hp0.trans I.p) hid0
   have hg:=ni (f:=Dx) (k:=4) (fun _ _=>rfl) hlt (show us[k]? = some us[k] by simp [hi'])
   have hrec:=@ih k l[k] us[k] (by simp [hlt]) (by simp [hi']) hk (hp0.trans I.p)
   obtain⟨pu,cu,hpu⟩:∃ p c,us[k] = .slice p l[k].bl.length c:=by
    have:=hu k l[k] us[k] (by simp [hlt]) (by simp [hi'])
    cases this with
    | mk us' h1 h2 h3=>exact h2.form
   rw[hpu] at hg hrec
   have IG:=I.g
   have IW:=I.n
   simp only at IG IW hid ⊢
   obtain⟨qo,co,rfl⟩:=IG.form
   refine aG e3 ?_
   refine ag rfl ?_
   refine gU e1 hid hg ?_
   refine zj Tryz.func30 ?_
   refine hrec.mono ?_
   rintro _ h2 ⟨hp2,⟨p2,c2,rfl⟩,hF⟩
   have hG2:aL h h2 (.slice qo k co) k (((l.take k).zip W).flatMap fun p=>Dx p.1 p.2) 136:=IG.mono fun j o _ g=>af hp2 g
   refine aC ?_
   refine j1 (cs:=Dx l[k] (.slice p2 l[k].bl.length c2)) (n:=k) al rfl kr FR (by decide) rfl al al hG2 (I.p.trans hp2) (bU (f:=fun p:Item×Value=>Dx p.1 p.2) (k:=4) (fun _=>rfl) _ |>.trans (by rw[List.length_zip,List.length_take,IW];simp only;omega)) rfl (by simp only;omega) om ?_
   intro p3 c3 h3 k1 k2 k3 k4 k5
   refine aG e2 ?_
   refine⟨hlt,(h3,.slice p3 (k+1) c3,W++[.slice p2 l[k].bl.length c2]),aM,rfl,⟨k2,by simp only[List.length_append,List.length_singleton];omega,?_,fun i hi u hu=>?_⟩⟩
   ·simp only
    rw[Cu hlt IW]
    exact k1
   ·intro y hy
    simp only at hu hy
    rcases Nat.lt_trichotomy i k with h|h|h
    ·rw[List.getElem?_append_left om] at hu
     refine I.d i hi u hu y fun j o hj hv hg=>?_
     have hg2:=af hp2 hg
     have hjl:j<h2.length:=(List.getElem?_eq_some_iff.1 hg2).1
     refine hy j o hj ?_ (k3 j o hv hg2)
     cases e:bX (Value.slice p3 (k+1) c3) j with
     | false=>rfl
     | true=>
       rcases (show bX _ j=true∨j=h2.length from k4 j e) with h1|h1
       ·rw[h1] at hv;cases hv
       ·omega
    ·subst h
     rw[List.getElem?_append_right om,IW,Nat.sub_self] at hu
     cases hu
     refine hF y fun j o hj hg=>?_
     have hjl:j<h2.length:=(List.getElem?_eq_some_iff.1 hg).1
     have hv:bX (Value.slice qo i co) j=false:=by
      cases e:bX (Value.slice qo i co) j with
      | false=>rfl
      | true=>have:=(IG.lt e).2;omega
     refine hy j o (by have:=I.p.length_le;simp only at this;omega) ?_ (k3 j o hv hg)
     cases e:bX (Value.slice p3 (i+1) c3) j with
     | false=>rfl
     | true=>
       rcases (show bX _ j=true∨j=h2.length from k4 j e) with h1|h1
       ·rw[h1] at hv;cases hv
       ·omega
    ·have:=(List.getElem?_eq_some_iff.1 hu).1
     rw[List.length_append,List.length_singleton] at this
     omega
  ·have e3:=aT hlt
   obtain rfl:k=l.length:=by omega
   have IG:=I.g
   have IW:=I.n
   simp only at IG IW ⊢
   obtain⟨qo,co,rfl⟩:=IG.form
   refine aG e3 ?_
   refine ae rfl ?_
   refine aB ?_
   show CW _ _ _ _
   refine aC ?_
   refine ak ?_
   refine⟨_,al,I.p,⟨qo,co,rfl⟩,fun y hy=>.mk W (by rw[IW]) ?_ fun i x u h1 h2=>?_⟩
   ·have:=(IG.mono (h':=y) fun j o hj g=>hy j o (IG.lt hj).1 g).sl (b:=56) om
    rw[List.take_length] at this
    exact this
   ·obtain⟨hi,rfl⟩:=List.getElem?_eq_some_iff.1 h1
    exact I.d i hi u h2 y fun j o hj _ g=>hy j o hj g}
abbrev TV:Prod→Value→List Value:=fun p u=>[.bool p.lex,.string p.sort,.string p.cons,.bool p.bracket,u]
abbrev T4:Prod→List Value:=fun p=>p.an.flatMap Sym.cells
def yE:=dA TV T4 8 51 56
abbrev So:DD→Value→List Value:=fun p u=>[.string p.cons,u]
abbrev SG:cZ→Value→List Value:=fun g u=>[i64 g.assoc,u]
abbrev Ul:cZ→List Value:=fun g=>g.cons.map .string
def zX:=dA SG Ul 1 82 9
theorem dA.UL {α:Type} {f:α→Value→List Value} {g:α→List Value} {w b:Nat} {et et2:TypeId} {h0 a:ai} {v:Value} {l:List α} {R:ai→Value→α→Prop} (L:dA f g w et et2 h0 a v l) (hb:l.length*b≤140737488355328) (hR:∀ x u n,x∈l→(g x).length=n*w→aL h0 a u n (g x) et2→R a u x):ct f R et b a v l:=by{
obtain⟨us,hl,G,hu⟩:=L
refine⟨us,hl,G.sl hb,fun i x u h1 h2=>?_⟩
obtain⟨n,e,g'⟩:=hu i x u h1 h2
exact hR x u n (List.mem_of_getElem? h1) e g'}
theorem b9.dI {a b:ai} {v:Value} {l:List cZ} {ts:List TypeId} (h:b9 a v l) (k:bt ts a b) (h1:82∉ts) (h2:9∉ts):b9 b v l:=ct.dI h k h1 fun u x hu=>bT.dI hu k h2
theorem bh.dI {a b:ai} {v:Value} {l:List Item} {ts:List TypeId} (h:bh a v l) (k:bt ts a b) (h1:136∉ts):bh b v l:=by
 induction h with
 | mk us h1' h2 _ ih=>exact .mk us h1' (h2.dI k h1) ih
section
variable {h:ai} {d:bS} {up uc uf ur ub:Value}
abbrev oc (d:bS) (v1 v2 v3 v4 v5:Value):List Value:=[.string d.start,.string d.layout,v1,v2,v3,v4,v5]
structure DC (h:ai) (i3:Nat) (d:bS) (x:ai) (v1 v2 v3 v4 v5:Value):Prop where
 p:h <+: x
 o:x[i3]? = some (.aq (oc d v1 v2 v3 v4 v5) 0 true 28)
structure Vm (h:ai) (d:bS) (k:Nat) (x:ai×Value):Prop where
 e:∃ us:List Value,us.length=k∧aL h x.1 x.2 k (((d.aj.take k).zip us).flatMap fun p=>[p.2]) 80∧∀ (i:Nat) (hi:i<d.aj.length) (u:Value),us[i]? = some u→b9 x.1 u d.aj[i]
theorem EB (hd:bo h d up uc uf ur ub):FW env 14 [.agg (d.val up uc uf ur ub).toArray] h fun r h'=>h <+: h'∧∃ vp vc vf vr vb,r = .agg (d.val vp vc vf vr vb).toArray∧bo h' d vp vc vf vr vb∧yE h h' vp d.aa:=by{
have hd0:=hd
obtain⟨p1,c1,p2,c2,p3,c3,p4,c4,p5,c5,rfl,rfl,rfl,rfl,rfl,l1,l2,l3,l4,l5⟩:=bo.form hd
have hb1:d.aa.length*72≤140737488355328:=by obtain⟨us,_,hs,_⟩:=hd0.aa;exact hs.1
have hb2:d.aj.length*24≤140737488355328:=by obtain⟨us,_,hs,_⟩:=hd0.aj;exact hs.1
have hb5:d.boxes.length*40≤140737488355328:=by obtain⟨us,hl,hs,_⟩:=hd0.boxes;exact hs.1
refine fe Tryz.func14 ?_;simp only[push_cast]
unfold bS.val
refine zu ?_
iterate 2 (refine zx oA ?_)
apply zn
show CW _ _ ⟨_,[],h⟩ _
try apply zs
refine zu ?_
iterate 5 (refine zx oA ?_)
refine dK (t:=28) (cs:=[.string ⟨#[]⟩,.string ⟨#[]⟩,aH,aH,aH,aH,aH]) al al ?_
dsimp only[St.a9,St.put]
refine bY (v:=.agg (d.val aH aH aH aH aH).toArray) (vs:=oc d aH aH aH aH aH) (cells':=oc d aH aH aH aH aH) al rfl rfl rfl al aK al rfl rfl ?_
dsimp only
have S0:DC h h.length d ((h++[ax.aq [.string ⟨#[]⟩,.string ⟨#[]⟩,aH,aH,aH,aH,aH] 0 true 28]).set h.length (.aq (oc d aH aH aH aH aH) 0 true 28)) aH aH aH aH aH:=⟨aZ aJ (Nat.le_refl _),aw aK⟩
generalize ((h++[ax.aq [.string ⟨#[]⟩,.string ⟨#[]⟩,aH,aH,aH,aH,aH] 0 true 28]).set h.length (.aq (oc d aH aH aH aH aH) 0 true 28))=h1 at S0 ⊢
have hi3:h.length≤h.length:=Nat.le_refl _
generalize hg3:h.length=i3 at S0 ⊢
refine aC ?_
refine CW.mono (Q:=fun e s'=>e = .exit 0∧∃ x:ai×Value,DC h i3 d x.1 x.2 aH aH aH aH∧yE h x.1 x.2 d.aa∧s'.h=x.1∧bD [(1,.box [.string d.start,.string d.layout,.slice p1 d.aa.length c1,.slice p2 d.aj.length c2,.slice p3 d.follows.length c3,.slice p4 d.ah.length c4,.slice p5 d.boxes.length c5]),(2,.box [.string ⟨#[]⟩,.string ⟨#[]⟩,aH,aH,aH,aH,aH]),(3,.val (.pointer (some ⟨i3,0,some 0⟩)))] s'.fr) ?_ ?_
·refine aX d.aa.length (fun k (x:ai×Value)=>[(1,.box [.string d.start,.string d.layout,.slice p1 d.aa.length c1,.slice p2 d.aj.length c2,.slice p3 d.follows.length c3,.slice p4 d.ah.length c4,.slice p5 d.boxes.length c5]),(2,.box [.string ⟨#[]⟩,.string ⟨#[]⟩,aH,aH,aH,aH,aH]),(3,.val (.pointer (some ⟨i3,0,some 0⟩))),(4,.val (i64 k))]) (fun _ x=>x.1) (fun k x=>DC h i3 d x.1 x.2 aH aH aH aH∧yE h x.1 x.2 (d.aa.take k)) (h1,aH) aM rfl ⟨S0,by rw[List.take_zero];exact dA.nil⟩ ?_
 rintro k ⟨hk,vo⟩ hkn ⟨S,L⟩
 by_cases hlt:k<d.aa.length
 ·obtain⟨id,av,own,c',cells,u,hv,hid,hrd,hu⟩:=ct.at (k:=5) (fun _ _=>rfl) (hd0.aa.mono S.p) hlt
  cases hv
  simp only at S L hid hu ⊢
  have hu:fB hk u d.aa[k].an:=hu
  obtain⟨ps,cs,rfl⟩:=bT.form hu
  have hul:=hu.1
  have hso:=S.o
  obtain⟨qo,co,rfl⟩:=dA.form L
  have hlk:(d.aa.take k).length=k:=by rw[List.length_take];omega
  rw[hlk] at hso
  have w1:=cz hlt
  have w2:=inc hlt om
  have q3:=aU hlt
  refine aG q3 ?_
  refine ag rfl ?_
  refine gU w1 hid hrd ?_
  refine fq (h:=h) (n:=0) (cells:=[]) (m:=d.aa[k].an.length) (b:=88) (cs:=d.aa[k].an.flatMap Sym.cells) kr FU (by decide) rfl aL.nil S.p rfl hu (bU (f:=Sym.cells) (k:=8) (fun _=>rfl) _) (by simp only;omega) om al rfl al al ?_
  intro py cy h2 k1 k2 k3
  simp only[Nat.zero_add,List.nil_append] at k2
  have hK2:bt [] hk h2:=fun j o e _=>k3 j o rfl e
  have hso2:=hK2 _ _ hso (cH (by decide))
  have L2:=dA.dH L hK2 (by decide) (by decide)
  obtain⟨us,hl,G2,hu2⟩:=L2
  rw[hlk] at G2
  refine aG hso2 ?_
  refine j1 (h:=h) (cs:=TV d.aa[k] (.slice py d.aa[k].an.length cy)) (n:=k) al rfl kr NA (by decide) rfl al al G2 k1 (bU (f:=fun p:Prod×Value=>TV p.1 p.2) (k:=5) (fun _=>rfl) _ |>.trans (by rw[List.length_zip,hl,List.length_take];simp only;omega)) rfl (by simp only;omega) om ?_
  intro p6 c6 h4 m1 m2 m3 m4 m5
  have hK4:bt [51] h2 h4:=bt.push G2 m3
  have hso4:=hK4 _ _ hso2 (cH (by decide))
  iterate 1 (refine zx oA ?_)
  refine bY (v:=.slice p6 (k+1) c6) (vs:=[.slice p6 (k+1) c6]) (cells':=oc d (.slice p6 (k+1) c6) aH aH aH aH) al rfl rfl rfl al hso4 al rfl rfl ?_
  dsimp only
  have S5:DC h i3 d (h4.set i3 (.aq (oc d (.slice p6 (k+1) c6) aH aH aH aH) 0 true 28)) (.slice p6 (k+1) c6) aH aH aH aH:=⟨aZ m2 om,aw hso4⟩
  have hK5:bt [28] h4 (h4.set i3 (.aq (oc d (.slice p6 (k+1) c6) aH aH aH aH) 0 true 28)):=bt.set hso4
  have L5:=dA.dH (dA.push (g:=T4) (w:=8) (n:=d.aa[k].an.length) (x:=d.aa[k]) hl hu2 hK4 (by decide) (by rw[hlk];exact m1) (bU (f:=Sym.cells) (k:=8) (fun _=>rfl) _) k2) hK5 (by decide) (by decide)
  generalize h4.set i3 (.aq (oc d (.slice p6 (k+1) c6) aH aH aH aH) 0 true 28)=h5 at S5 L5 ⊢
  refine aG w2 ?_
  refine⟨hlt,(h5,.slice p6 (k+1) c6),aM,rfl,S5,?_⟩
  show yE _ _ _ (d.aa.take (k+1))
  rw[List.take_succ_eq_append_getElem hlt]
  exact L5
 ·have q3:=aT hlt
  obtain rfl:k=d.aa.length:=by omega
  rw[List.take_length] at L
  refine aG q3 ?_
  refine ae rfl ?_
  refine aB ?_
  exact⟨rfl,(hk,vo),S,L,rfl,aM⟩
rintro e s' ⟨rfl,⟨h2,vp⟩,S,LP,hh,hf⟩
show CW _ _ _ _
refine aA _ hf ?_
rw[hh]
clear hf hh s' S0
simp only at S LP ⊢
obtain⟨qp,cp,hvp⟩:=dA.form LP
subst hvp
have hK0:∀ {x:ai},bt [80,82,9,28] h2 x→yE h x (.slice qp d.aa.length cp) d.aa:=fun k=>dA.dH LP k (by decide) (by decide)
refine aC ?_
refine CW.mono (Q:=fun e s'=>e = .exit 2∧∃ x:ai×Value,DC h i3 d x.1 (.slice qp d.aa.length cp) x.2 aH aH aH∧bt [80,82,9,28] h2 x.1∧gL x.1 x.2 d.aj∧s'.h=x.1∧bD [(1,.box [.string d.start,.string d.layout,.slice p1 d.aa.length c1,.slice p2 d.aj.length c2,.slice p3 d.follows.length c3,.slice p4 d.ah.length c4,.slice p5 d.boxes.length c5]),(2,.box [.string ⟨#[]⟩,.string ⟨#[]⟩,aH,aH,aH,aH,aH]),(3,.val (.pointer (some ⟨i3,0,some 0⟩)))] s'.fr) ?_ ?_
·refine aX d.aj.length (fun k (x:ai×Value)=>[(1,.box [.string d.start,.string d.layout,.slice p1 d.aa.length c1,.slice p2 d.aj.length c2,.slice p3 d.follows.length c3,.slice p4 d.ah.length c4,.slice p5 d.boxes.length c5]),(2,.box [.string ⟨#[]⟩,.string ⟨#[]⟩,aH,aH,aH,aH,aH]),(3,.val (.pointer (some ⟨i3,0,some 0⟩))),(7,.val (i64 k))]) (fun _ x=>x.1) (fun k x=>DC h i3 d x.1 (.slice qp d.aa.length cp) x.2 aH aH aH∧bt [80,82,9,28] h2 x.1∧Vm h d k x) (h2,aH) aM rfl ⟨S,bt.refl,⟨[],rfl,aL.nil,fun i hi u hu=>by simp at hu⟩⟩ ?_
 clear S
 rintro k ⟨hk,vo⟩ hkn ⟨S,K2,⟨us,hus,G2,hR⟩⟩
 simp only at S K2 G2 hR ⊢
 obtain⟨qo,co,rfl⟩:=G2.form
 by_cases hlt:k<d.aj.length
 ·obtain⟨id,av,own,c',cells,u,hv,hid,hrd,hu⟩:=ct.at (k:=1) (fun _ _=>rfl) (hd0.aj.mono S.p) hlt
  cases hv
  have hu:b9 hk u d.aj[k]:=hu
  obtain⟨pg,cg,rfl⟩:=ct.form hu
  have hgb:d.aj[k].length*32≤140737488355328:=by obtain⟨_,_,hs,_⟩:=hu;exact hs.1
  have hr0:=fI hrd om
  simp only[List.getElem?_cons_zero,Nat.mul_one] at hr0
  have hso:=S.o
  have w1:=cz hlt
  have w2:=inc hlt om
  have q3:=aU hlt
  obtain⟨ch,hch⟩:∃ ch,ch=d.aj[k]:=⟨_,rfl⟩
  rw[← hch] at hu hgb hr0 hrd
  refine aG q3 ?_
  refine ag rfl ?_
  refine aC ?_
  refine CW.mono (Q:=fun e s'=>e = .exit 4∧∃ y:ai×Value,hk <+: y.1∧zX hk y.1 y.2 ch∧s'.h=y.1∧bD [(1,.box [.string d.start,.string d.layout,.slice p1 d.aa.length c1,.slice (some ⟨id,0,some av⟩) d.aj.length c2,.slice p3 d.follows.length c3,.slice p4 d.ah.length c4,.slice p5 d.boxes.length c5]),(2,.box [.string ⟨#[]⟩,.string ⟨#[]⟩,aH,aH,aH,aH,aH]),(3,.val (.pointer (some ⟨i3,0,some 0⟩))),(7,.val (i64 k)),(8,.val y.2)] s'.fr) ?_ ?_
  ·refine aX ch.length (fun j (y:ai×Value)=>[(1,.box [.string d.start,.string d.layout,.slice p1 d.aa.length c1,.slice (some ⟨id,0,some av⟩) d.aj.length c2,.slice p3 d.follows.length c3,.slice p4 d.ah.length c4,.slice p5 d.boxes.length c5]),(2,.box [.string ⟨#[]⟩,.string ⟨#[]⟩,aH,aH,aH,aH,aH]),(3,.val (.pointer (some ⟨i3,0,some 0⟩))),(7,.val (i64 k)),(8,.val y.2),(9,.val (i64 j))]) (fun _ y=>y.1) (fun j y=>hk <+: y.1∧zX hk y.1 y.2 (ch.take j)) (hk,aH) aM rfl ⟨List.prefix_refl _,by rw[List.take_zero];exact dA.nil⟩ ?_
   rintro j ⟨hy,vl⟩ hjn ⟨hpy,L⟩
   simp only at hpy L ⊢
   have hidy:=af hpy hid
   by_cases hjl:j<ch.length
   ·obtain⟨id2,ver2,own2,c3,cells2,u2,hv2,hid2,hrd2,hu2⟩:=ct.at (k:=2) (fun _ _=>rfl) (b9.dI hu (bt.pre (ts:=[]) hpy) (by decide) (by decide)) hjl
    cases hv2
    have hu2:bj hy u2 ch[j].cons:=hu2
    obtain⟨pn,cn,rfl⟩:=hu2.form
    have hnb:ch[j].cons.length*16≤140737488355328:=hu2.1
    have hg0:=fI hrd2 om
    have hg1:=dE (j:=1) hrd2 om
    simp only[List.getElem?_cons_succ,List.getElem?_cons_zero] at hg0 hg1
    obtain⟨ql,cl,hvl⟩:=dA.form L
    have hlj:(ch.take j).length=j:=by rw[List.length_take];omega
    rw[hlj] at hvl
    subst hvl
    have v1:=cz hjl
    have v2:=inc hjl om
    have v3:=aU hjl
    refine mE w1 hidy Nat.mul_one hr0 v3 ?_
    refine ag rfl ?_
    refine Cx w1 hidy Nat.mul_one hr0 v1 hid2 hg0 ?_
    refine aS 11 mixed kr ?_
    refine Cx w1 hidy Nat.mul_one hr0 v1 hid2 hg1 ?_
    refine fq (h:=hk) (n:=0) (cells:=[]) (m:=ch[j].cons.length) (b:=16) (cs:=ch[j].cons.map .string) kr E5 (by decide) rfl aL.nil hpy rfl hu2 (by rw[List.length_map];simp only;omega) (by simp only;omega) om al rfl al al ?_
    intro py cy h4 k1 k2 k3
    simp only[Nat.zero_add,List.nil_append] at k2
    have hK4:bt [] hy h4:=fun j o e _=>k3 j o rfl e
    obtain⟨ws,hwl,G4,hw4⟩:=dA.dH L hK4 (by decide) (by decide)
    rw[hlj] at G4
    refine aC ?_
    refine j1 (h:=hk) (cs:=SG ch[j] (.slice py ch[j].cons.length cy)) (n:=j) al rfl kr Nh (by decide) rfl al al G4 k1 (bU (f:=fun p:cZ×Value=>SG p.1 p.2) (k:=2) (fun _=>rfl) _ |>.trans (by rw[List.length_zip,hwl,List.length_take];simp only;omega)) rfl (by simp only;omega) om ?_
    intro p6 c6 h5 m1 m2 m3 m4 m5
    have hK5:bt [82] h4 h5:=bt.push G4 m3
    have L5:=dA.push (g:=Ul) (w:=1) (n:=ch[j].cons.length) (x:=ch[j]) hwl hw4 hK5 (by decide) (by rw[hlj];exact m1) (by rw[List.length_map,Nat.mul_one]) k2
    refine aG v2 ?_
    refine⟨hjl,(h5,.slice p6 (j+1) c6),aM,rfl,m2,?_⟩
    show zX _ _ _ (ch.take (j+1))
    rw[List.take_succ_eq_append_getElem hjl]
    exact L5
   ·have v3:=aT hjl
    obtain rfl:j=ch.length:=by omega
    rw[List.take_length] at L
    refine mE w1 hidy Nat.mul_one hr0 v3 ?_
    refine ae rfl ?_
    refine aB ?_
    exact⟨rfl,(hy,vl),hpy,L,rfl,aM⟩
  rintro e s' ⟨rfl,⟨h4,vl⟩,hp4,L4,hh,hf⟩
  show CW _ _ _ _
  refine aA _ hf ?_
  rw[hh]
  clear hf hh s'
  simp only at hp4 L4 ⊢
  obtain⟨ql,cl,rfl⟩:=dA.form L4
  have hso4:=af hp4 hso
  have G4:aL h h4 (.slice qo k co) k (((d.aj.take k).zip us).flatMap fun p=>[p.2]) 80:=G2.mono fun j o _ g=>af hp4 g
  have hC4:b9 h4 (.slice ql ch.length cl) ch:=dA.UL L4 hgb (fun x u n hx e g=>by
   have e2:n=x.cons.length:=by have:(Ul x).length=x.cons.length:=List.length_map ..;omega
   subst e2
   refine g.sl (b:=16) ?_
   obtain⟨i,hi,rfl⟩:=List.getElem_of_mem hx
   obtain⟨_,_,_,_,_,u',_,_,_,hu'⟩:=ct.at (k:=2) (fun _ _=>rfl) hu hi
   exact hu'.1)
  refine aG hso4 ?_
  refine j1 (h:=h) (cs:=[.slice ql ch.length cl]) (n:=k) al rfl kr Lv (by decide) rfl al al G4 (S.p.trans hp4) (bU (f:=fun p:List cZ×Value=>[p.2]) (k:=1) (fun _=>rfl) _ |>.trans (by rw[List.length_zip,hus,List.length_take];simp only;omega)) rfl (by simp only;omega) om ?_
  intro p6 c6 h5 m1 m2 m3 m4 m5
  have hK5:bt [80] h4 h5:=bt.push G4 m3
  have hso5:=hK5 _ _ hso4 (cH (by decide))
  iterate 1 (refine zx oA ?_)
  refine bY (v:=.slice p6 (k+1) c6) (vs:=[.slice p6 (k+1) c6]) (cells':=oc d (.slice qp d.aa.length cp) (.slice p6 (k+1) c6) aH aH aH) al rfl rfl rfl al hso5 al rfl rfl ?_
  dsimp only
  have S6:DC h i3 d (h5.set i3 (.aq (oc d (.slice qp d.aa.length cp) (.slice p6 (k+1) c6) aH aH aH) 0 true 28)) (.slice qp d.aa.length cp) (.slice p6 (k+1) c6) aH aH aH:=⟨aZ m2 om,aw hso5⟩
  have hK6:bt [28] h5 (h5.set i3 (.aq (oc d (.slice qp d.aa.length cp) (.slice p6 (k+1) c6) aH aH aH) 0 true 28)):=bt.set hso5
  have G6:=m1.dH hK6 (by decide)
  generalize h5.set i3 (.aq (oc d (.slice qp d.aa.length cp) (.slice p6 (k+1) c6) aH aH aH) 0 true 28)=h6 at S6 hK6 G6 ⊢
  refine aG w2 ?_
  refine⟨hlt,(h6,.slice p6 (k+1) c6),aM,rfl,S6,(K2.trans (bt.pre hp4)).trans ((hK5.low (by decide)).trans (hK6.low (by decide))),⟨us++[.slice ql ch.length cl],by simp only[List.length_append,List.length_singleton];omega,?_,fun i hi u hu9=>?_⟩⟩
  ·simp only
   rw[List.take_succ_eq_append_getElem hlt,List.zip_append (by rw[List.length_take,hus];omega),List.flatMap_append]
   exact G6
  ·simp only
   rcases Nat.lt_trichotomy i k with g|g|g
   ·rw[List.getElem?_append_left om] at hu9
    have h7:=hR i hi u hu9
    exact b9.dI (b9.dI (b9.dI h7 (bt.pre (ts:=[]) hp4) (by decide) (by decide)) hK5 (by decide) (by decide)) hK6 (by decide) (by decide)
   ·subst g
    rw[List.getElem?_append_right om,hus,Nat.sub_self] at hu9
    cases hu9
    rw[← hch]
    exact b9.dI (b9.dI hC4 hK5 (by decide) (by decide)) hK6 (by decide) (by decide)
   ·have:=(List.getElem?_eq_some_iff.1 hu9).1
    rw[List.length_append,List.length_singleton] at this
    omega
 ·have q3:=aT hlt
  obtain rfl:k=d.aj.length:=by omega
  refine aG q3 ?_
  refine ae rfl ?_
  refine aB ?_
  refine⟨rfl,(hk,.slice qo d.aj.length co),S,K2,⟨us,hus,?_,fun i x u h1 h2=>?_⟩,rfl,aM⟩
  ·have:=G2.sl (b:=24) hb2
   rw[List.take_length] at this
   exact this
  ·obtain⟨hi,rfl⟩:=List.getElem?_eq_some_iff.1 h1
   exact hR i hi u h2
rintro e s' ⟨rfl,⟨h3,vc⟩,S,K3,LC,hh,hf⟩
show CW _ _ _ _
refine aA _ hf ?_
rw[hh]
clear hf hh s'
simp only at S K3 LC ⊢
have LP3:=hK0 K3
clear hK0 LP K3
obtain⟨qc,cc,rfl⟩:=ct.form LC
have hso:=S.o
have hbf:=hd0.follows.1
have hbr:=hd0.ah.1
refine aG hso ?_
refine fq (h:=h) (n:=0) (cells:=[]) (m:=d.follows.length) (b:=48) (cs:=d.follows.flatMap dO.cells) kr FL (by decide) rfl aL.nil S.p rfl (bT.mono hd0.follows S.p) (bU (f:=dO.cells) (k:=5) (fun _=>rfl) _) (by simp only;omega) om al rfl al al ?_
intro qf cf h4 k1 k2 k3
simp only[Nat.zero_add,List.nil_append] at k2
have hK4:bt [] h3 h4:=fun j o e _=>k3 j o rfl e
have hso4:=hK4 _ _ hso (cH (by decide))
rw[Nat.zero_add]
iterate 1 (refine zx oA ?_)
refine bY (v:=(.slice qf d.follows.length cf)) (vs:=[(.slice qf d.follows.length cf)]) (cells':=oc d (.slice qp d.aa.length cp) (.slice qc d.aj.length cc) (.slice qf d.follows.length cf) aH aH) al rfl rfl rfl al hso4 al rfl rfl ?_
dsimp only
have S5:DC h i3 d (h4.set i3 (.aq (oc d (.slice qp d.aa.length cp) (.slice qc d.aj.length cc) (.slice qf d.follows.length cf) aH aH) 0 true 28)) (.slice qp d.aa.length cp) (.slice qc d.aj.length cc) (.slice qf d.follows.length cf) aH aH:=⟨aZ k1 om,aw hso4⟩
have hK5:bt [28] h4 (h4.set i3 (.aq (oc d (.slice qp d.aa.length cp) (.slice qc d.aj.length cc) (.slice qf d.follows.length cf) aH aH) 0 true 28)):=bt.set hso4
generalize h4.set i3 (.aq (oc d (.slice qp d.aa.length cp) (.slice qc d.aj.length cc) (.slice qf d.follows.length cf) aH aH) 0 true 28)=h5 at S5 hK5 ⊢
have LP5:=dA.dH (dA.dH LP3 hK4 (by decide) (by decide)) hK5 (by decide) (by decide)
have LC5:gL h5 (.slice qc d.aj.length cc) d.aj:=ct.dI LC ((hK4.low (ts':=[28]) (by simp)).trans hK5) (by decide) fun u x hu=>b9.dI hu ((hK4.low (ts':=[28]) (by simp)).trans hK5) (by decide) (by decide)
have LF5:jZ h5 (.slice qf d.follows.length cf) d.follows:=bT.dI (k2.sl (b:=48) hbf) hK5 (by decide)
clear hK4 hK5 hso4 hso LP3 LC S k1 k2 k3
apply zn
show CW _ _ _ _
refine aA [(1,.box [.string d.start,.string d.layout,.slice p1 d.aa.length c1,.slice p2 d.aj.length c2,.slice p3 d.follows.length c3,.slice p4 d.ah.length c4,.slice p5 d.boxes.length c5]),(2,.box [.string ⟨#[]⟩,.string ⟨#[]⟩,aH,aH,aH,aH,aH]),(3,.val (.pointer (some ⟨i3,0,some 0⟩)))] aM ?_
show CW _ _ ⟨_,[],h5⟩ _
try apply zs
have hso:=S5.o
refine aG hso ?_
refine fq (h:=h) (n:=0) (cells:=[]) (m:=d.ah.length) (b:=32) (cs:=d.ah.flatMap dh.cells) kr D6 (by decide) rfl aL.nil S5.p rfl (bT.mono hd0.ah S5.p) (bU (f:=dh.cells) (k:=2) (fun _=>rfl) _) (by simp only;omega) om al rfl al al ?_
intro qr cr h6 k1 k2 k3
simp only[Nat.zero_add,List.nil_append] at k2
have hK6:bt [] h5 h6:=fun j o e _=>k3 j o rfl e
have hso6:=hK6 _ _ hso (cH (by decide))
rw[Nat.zero_add]
iterate 1 (refine zx oA ?_)
refine bY (v:=(.slice qr d.ah.length cr)) (vs:=[(.slice qr d.ah.length cr)]) (cells':=oc d (.slice qp d.aa.length cp) (.slice qc d.aj.length cc) (.slice qf d.follows.length cf) (.slice qr d.ah.length cr) aH) al rfl rfl rfl al hso6 al rfl rfl ?_
dsimp only
have S7:DC h i3 d (h6.set i3 (.aq (oc d (.slice qp d.aa.length cp) (.slice qc d.aj.length cc) (.slice qf d.follows.length cf) (.slice qr d.ah.length cr) aH) 0 true 28)) (.slice qp d.aa.length cp) (.slice qc d.aj.length cc) (.slice qf d.follows.length cf) (.slice qr d.ah.length cr) aH:=⟨aZ k1 om,aw hso6⟩
have hK7:bt [28] h6 (h6.set i3 (.aq (oc d (.slice qp d.aa.length cp) (.slice qc d.aj.length cc) (.slice qf d.follows.length cf) (.slice qr d.ah.length cr) aH) 0 true 28)):=bt.set hso6
generalize h6.set i3 (.aq (oc d (.slice qp d.aa.length cp) (.slice qc d.aj.length cc) (.slice qf d.follows.length cf) (.slice qr d.ah.length cr) aH) 0 true 28)=h7 at S7 hK7 ⊢
have hK57:=(hK6.low (ts':=[28]) (by simp)).trans hK7
have LP7:=dA.dH LP5 hK57 (by decide) (by decide)
have LC7:gL h7 (.slice qc d.aj.length cc) d.aj:=ct.dI LC5 hK57 (by decide) fun u x hu=>b9.dI hu hK57 (by decide) (by decide)
have LF7:jZ h7 (.slice qf d.follows.length cf) d.follows:=bT.dI LF5 hK57 (by decide)
have LR7:lJ h7 (.slice qr d.ah.length cr) d.ah:=bT.dI (k2.sl (b:=32) hbr) hK7 (by decide)
clear hK6 hK7 hK57 hso6 hso LP5 LC5 LF5 S5 k1 k2 k3
apply zn
show CW _ _ _ _
refine aA [(1,.box [.string d.start,.string d.layout,.slice p1 d.aa.length c1,.slice p2 d.aj.length c2,.slice p3 d.follows.length c3,.slice p4 d.ah.length c4,.slice p5 d.boxes.length c5]),(2,.box [.string ⟨#[]⟩,.string ⟨#[]⟩,aH,aH,aH,aH,aH]),(3,.val (.pointer (some ⟨i3,0,some 0⟩)))] aM ?_
show CW _ _ ⟨_,[],h7⟩ _
try apply zs
refine aC ?_
refine CW.mono (Q:=fun e s'=>e = .exit 6∧∃ x:ai×Value,DC h i3 d x.1 (.slice qp d.aa.length cp) (.slice qc d.aj.length cc) (.slice qf d.follows.length cf) (.slice qr d.ah.length cr) x.2∧bt [85,28] h7 x.1∧kH x.1 x.2 d.boxes∧s'.h=x.1∧bD [(1,.box [.string d.start,.string d.layout,.slice p1 d.aa.length c1,.slice p2 d.aj.length c2,.slice p3 d.follows.length c3,.slice p4 d.ah.length c4,.slice p5 d.boxes.length c5]),(2,.box [.string ⟨#[]⟩,.string ⟨#[]⟩,aH,aH,aH,aH,aH]),(3,.val (.pointer (some ⟨i3,0,some 0⟩)))] s'.fr) ?_ ?_
·refine aX d.boxes.length (fun k (x:ai×Value)=>[(1,.box [.string d.start,.string d.layout,.slice p1 d.aa.length c1,.slice p2 d.aj.length c2,.slice p3 d.follows.length c3,.slice p4 d.ah.length c4,.slice p5 d.boxes.length c5]),(2,.box [.string ⟨#[]⟩,.string ⟨#[]⟩,aH,aH,aH,aH,aH]),(3,.val (.pointer (some ⟨i3,0,some 0⟩))),(11,.val (i64 k))]) (fun _ x=>x.1) (fun k x=>DC h i3 d x.1 (.slice qp d.aa.length cp) (.slice qc d.aj.length cc) (.slice qf d.follows.length cf) (.slice qr d.ah.length cr) x.2∧bt [85,28] h7 x.1∧∃ us:List Value,us.length=k∧aL h x.1 x.2 k (((d.boxes.take k).zip us).flatMap fun p=>So p.1 p.2) 85∧∀ (i:Nat) (hi:i<d.boxes.length) (u:Value),us[i]? = some u→bh x.1 u d.boxes[i].bl) (h7,aH) aM rfl ⟨S7,bt.refl,[],rfl,aL.nil,fun i hi u hu=>by simp at hu⟩ ?_
 rintro k ⟨hk,vo⟩ hkn ⟨S,K2,us,hus,G2,hR⟩
 simp only at S K2 G2 hR ⊢
 obtain⟨qo,co,rfl⟩:=G2.form
 by_cases hlt:k<d.boxes.length
 ·obtain⟨id,av,own,c',cells,u,hv,hid,hrd,hu⟩:=ct.at (k:=2) (fun _ _=>rfl) (hd0.mono S.p).boxes hlt
  cases hv
  have hu:bh hk u d.boxes[k].bl:=hu
  obtain⟨pu,cu,rfl⟩:∃ p c,u = .slice p d.boxes[k].bl.length c:=by
   cases hu with
   | mk us' h1 h2 h3=>exact h2.form
  have hg0:=fI hrd om
  have hg1:=dE (j:=1) hrd om
  simp only[List.getElem?_cons_succ,List.getElem?_cons_zero] at hg0 hg1
  have hso:=S.o
  have w1:=cz hlt
  have w2:=inc hlt om
  have q3:=aU hlt
  have hrec:=tM hu (List.prefix_refl hk)
  unfold FW at hrec
  obtain⟨_,h4,hcall,hp4,⟨p2',c2',rfl⟩,hF4⟩:=hrec
  have hso4:=af hp4 hso
  have hid4:=af hp4 hid
  have G4:aL h h4 (.slice qo k co) k (((d.boxes.take k).zip us).flatMap fun p=>So p.1 p.2) 85:=G2.mono fun j o _ g=>af hp4 g
  obtain⟨p6,c6,h5,hone,m1,m2,m3,m4,m5⟩:=iq (cs:=So d.boxes[k] (.slice p2' d.boxes[k].bl.length c2')) (t:=26) kr Mr (by decide) rfl G4 (S.p.trans hp4) (bU (f:=fun p:DD×Value=>So p.1 p.2) (k:=2) (fun _=>rfl) _ |>.trans (by rw[List.length_zip,hus,List.length_take];simp only;omega)) rfl (by simp only;omega) om
  have hK5:bt [85] h4 h5:=bt.push G4 m3
  have hso5:=hK5 _ _ hso4 (cH (by decide))
  have hid5:bt [85] h4 h5:=hK5
  have S6:DC h i3 d (h5.set i3 (.aq (oc d (.slice qp d.aa.length cp) (.slice qc d.aj.length cc) (.slice qf d.follows.length cf) (.slice qr d.ah.length cr) (.slice p6 (k+1) c6)) 0 true 28)) (.slice qp d.aa.length cp) (.slice qc d.aj.length cc) (.slice qf d.follows.length cf) (.slice qr d.ah.length cr) (.slice p6 (k+1) c6):=⟨aZ m2 om,aw hso5⟩
  have hK6:bt [28] h5 (h5.set i3 (.aq (oc d (.slice qp d.aa.length cp) (.slice qc d.aj.length cc) (.slice qf d.follows.length cf) (.slice qr d.ah.length cr) (.slice p6 (k+1) c6)) 0 true 28)):=bt.set hso5
  have G6:=m1.dH hK6 (by decide)
  have hI6:bh (h5.set i3 (.aq (oc d (.slice qp d.aa.length cp) (.slice qc d.aj.length cc) (.slice qf d.follows.length cf) (.slice qr d.ah.length cr) (.slice p6 (k+1) c6)) 0 true 28)) (.slice p2' d.boxes[k].bl.length c2') d.boxes[k].bl:=bh.dI (bh.dI hF4.now hK5 (by decide)) hK6 (by decide)
  unfold oc at hso hso4
  refine aG q3 ?_
  refine ag rfl ?_
  refine zu ?_
  refine aA [(1,.box [.string d.start,.string d.layout,.slice p1 d.aa.length c1,.slice p2 d.aj.length c2,.slice p3 d.follows.length c3,.slice p4 d.ah.length c4,.slice (some ⟨id,0,some av⟩) d.boxes.length c5]),(2,.box [.string ⟨#[]⟩,.string ⟨#[]⟩,aH,aH,aH,aH,aH]),(3,.val (.pointer (some ⟨i3,0,some 0⟩))),(11,.val (i64 k))] aM ?_
  show CW _ _ ⟨_,[],hk⟩ _
  try apply zs
  apply bm (L:=[[],[0],[],[2],[],[2,3,4],[2,3,4,5],[2,3,4,5,6],[],[8],[],[8,9,10],[8,9,10,11],[8,9,10,11,12],[8,9,10,11,12,13],[2,3,4,5,6,7,8,9,10,11,12,13,14],[2,3,4,5,6,7,8,9,10,11,12,13,14,15],[0,1,2,3,4,5,6,7,8,9,10,11,12,13,14,15,16],[],[0,1,2,3,4,5,6,7,8,9,10,11,12,13,14,15,16,17,18]]) (act:=[14,17,19]) (hs:=[h4,h5,h5.set i3 (.aq (oc d (.slice qp d.aa.length cp) (.slice qc d.aj.length cc) (.slice qf d.follows.length cf) (.slice qr d.ah.length cr) (.slice p6 (k+1) c6)) 0 true 28)]) (resL:=[_,_,_,_,_,_,_,_,_,_,_,_,_,_,_,_,_,_,_,_]) (frF:=[(1,.box [.string d.start,.string d.layout,.slice p1 d.aa.length c1,.slice p2 d.aj.length c2,.slice p3 d.follows.length c3,.slice p4 d.ah.length c4,.slice (some ⟨id,0,some av⟩) d.boxes.length c5]),(2,.box [.string ⟨#[]⟩,.string ⟨#[]⟩,aH,aH,aH,aH,aH]),(3,.val (.pointer (some ⟨i3,0,some 0⟩))),(11,.val (i64 k))])
  case hm=>exact mixed
  case hc=>kernel_rfl
  case ha=>rfl
  case hb=>rfl
  case hS=>
   refine Dz hso hso4 w1 hid hid4 hg0 hg1 ?_
   apply az.cons
   ·rfl
   ·refine⟨?_,trivial⟩
    exact dF (args:=[.slice pu d.boxes[k].bl.length cu]) (cap:=[]) (fn:=Tryz.f30) al rfl al al Tryz.func30 kr kr hcall
   ·rfl
   refine Dz hso hso4 w1 hid hid4 hg0 hg1 ?_
   apply az.cons
   ·rfl
   ·refine⟨?_,trivial⟩
    exact hone _ _ _ _ _ rfl al rfl al al
   ·rfl
   refine Dz hso hso4 w1 hid hid4 hg0 hg1 ?_
   apply az.cons
   ·rfl
   ·refine⟨?_,trivial⟩
    exact One.jE (r:=.sl .dL) (cells':=oc d (.slice qp d.aa.length cp) (.slice qc d.aj.length cc) (.slice qf d.follows.length cf) (.slice qr d.ah.length cr) (.slice p6 (k+1) c6)) al rfl al al hso5 al rfl rfl rfl
   ·rfl
   exact az.nil _
  case ht=>rfl
  case hF=>exact zh
  show CW _ _ ⟨_,[],h5.set i3 (.aq (oc d (.slice qp d.aa.length cp) (.slice qc d.aj.length cc) (.slice qf d.follows.length cf) (.slice qr d.ah.length cr) (.slice p6 (k+1) c6)) 0 true 28)⟩ _
  generalize h5.set i3 (.aq (oc d (.slice qp d.aa.length cp) (.slice qc d.aj.length cc) (.slice qf d.follows.length cf) (.slice qr d.ah.length cr) (.slice p6 (k+1) c6)) 0 true 28)=h6 at S6 hK6 G6 hI6 ⊢
  refine aG w2 ?_
  refine⟨hlt,(h6,.slice p6 (k+1) c6),aM,rfl,S6,(K2.trans (bt.pre hp4)).trans ((hK5.low (by decide)).trans (hK6.low (by decide))),us++[.slice p2' d.boxes[k].bl.length c2'],by simp only[List.length_append,List.length_singleton];omega,?_,fun i hi u hu9=>?_⟩
  ·simp only
   rw[List.take_succ_eq_append_getElem hlt,List.zip_append (by rw[List.length_take,hus];omega),List.flatMap_append]
   exact G6
  ·simp only
   rcases Nat.lt_trichotomy i k with g|g|g
   ·rw[List.getElem?_append_left om] at hu9
    have h7:=hR i hi u hu9
    exact bh.dI (bh.dI (bh.mono h7 hp4) hK5 (by decide)) hK6 (by decide)
   ·subst g
    rw[List.getElem?_append_right om,hus,Nat.sub_self] at hu9
    cases hu9
    exact hI6
   ·have:=(List.getElem?_eq_some_iff.1 hu9).1
    rw[List.length_append,List.length_singleton] at this
    omega
 ·have q3:=aT hlt
  obtain rfl:k=d.boxes.length:=by omega
  refine aG q3 ?_
  refine ae rfl ?_
  refine aB ?_
  refine⟨rfl,(hk,.slice qo d.boxes.length co),S,K2,⟨us,hus,?_,fun i x u h1 h2=>?_⟩,rfl,aM⟩
  ·have:=G2.sl (b:=40) hb5
   rw[List.take_length] at this
   exact this
  ·obtain⟨hi,rfl⟩:=List.getElem?_eq_some_iff.1 h1
   exact hR i hi u h2
rintro e s' ⟨rfl,⟨h8,vb⟩,S8,K8,LB,hh,hf⟩
show CW _ _ _ _
refine aA _ hf ?_
rw[hh]
clear hf hh s'
simp only at S8 K8 LB ⊢
obtain⟨qb,cb,rfl⟩:=ct.form LB
have hso:=S8.o
refine aG hso ?_
refine ak ?_
refine⟨_,al,S8.p,_,_,_,_,_,rfl,⟨?_,?_,?_,?_,LB⟩,dA.dH LP7 K8 (by decide) (by decide)⟩
·refine dA.UL (dA.dH LP7 K8 (by decide) (by decide)) hb1 fun x u n hx e g=>?_
 have e2:n=x.an.length:=by have:(T4 x).length=x.an.length*8:=bU (f:=Sym.cells) (k:=8) (fun _=>rfl) _;omega
 subst e2
 refine g.sl (b:=88) ?_
 obtain⟨i,hi,rfl⟩:=List.getElem_of_mem hx
 obtain⟨_,_,_,_,_,u',_,_,_,hu'⟩:=ct.at (k:=5) (fun _ _=>rfl) hd0.aa hi
 exact hu'.1
·exact ct.dI LC7 K8 (by decide) fun u x hu=>b9.dI hu K8 (by decide) (by decide)
·exact bT.dI LF7 K8 (by decide)
·exact bT.dI LR7 K8 (by decide)}
end
end Go.Proofs.YtmdmimkbpikmoaaGreat
namespace Go.Proofs.YtmdmimkbpikmoaaGreat.Am
open Go.RowKit
section
variable {N:Env} {ops:Array Oper} {L:List (List Nat)} {act:List Nat} {s0:St} {res res':Nat→gu} {Hs:Nat→ai} {a st d:Nat} {cs':List Value} {v0:fX}
theorem gG.Bp (C:rQ ops L act) (Z:Ao N ops L act s0 res res' a st d cs' v0) (hT:∀ j sl off,res j = .ep sl off→∀ i,bH ops i≠some sl) {S:Array Bool} {t:St} {i:Nat} {o:Oper} (hstep:∀ o k,i≠st→ops[i]? = some o→k≤act.length→fZ L act i k=true→∃ V,View ops L s0 res i V∧V.h=Hs k∧One N ops o V (res i) (Hs (if i∈act then k+1 else k))) (I:gG N ops act s0 res res' Hs st S t) (hi:i∈Region.ready .any ops S) (ho:ops[i]? = some o) : ∃ s',Ev N (.ops ops [o] t s')∧gG N ops act s0 res res' Hs st (S.setIfInBounds i true) s':=by{
have hT':∀ j sl off,res' j = .ep sl off→∀ i,bH ops i≠some sl:=fun j sl off h=>by
 by_cases hj:j=a
 ·subst hj
  rw[Z.ra] at h
  cases h
 ·rw[Z.same j hj] at h
  exact hT j sl off h
obtain⟨hun,oi,hoi,hall⟩:=mem_ready.1 hi
obtain rfl:oi=o:=Option.some.inj (hoi.symm.trans ho)
have hlt:i<ops.size:=(Array.getElem?_eq_some_iff.1 ho).1
have hr:∀ o,ops[i]? = some o→∀ e∈o.after,Region.binds .any e=true→S.getD e.on false=true:=fun o' ho' e he hb=>by
 obtain rfl:oi=o':=Option.some.inj (ho.symm.trans ho')
 exact hall e he hb
have hnot:S.getD i false=false:=getD_both hun
obtain⟨ost,host,hdn⟩:=Z.o
have hstd:bH ops st=none:=by simp [bH,host,hdn]
rcases I with ⟨h0,I⟩ | ⟨h0,I⟩
·by_cases his:i=st
 ·subst his
  have hltS:i<S.size:=by rw[I.size];exact hlt
  have hset:∀ j,((S.setIfInBounds i true).getD j false=true)↔(j=i∨S.getD j false=true):=fun j=>eK hltS
  obtain⟨V,hV,hVh,hsto⟩:=Z.UU oi t.h ho
  have hsub:=hV.sub C I hlt hr hVh
  have hain:S.getD a false=true:=jF C I.size I.closed i a hlt hr Z.Mv
  refine⟨_,hsto t hsub,.inr ⟨(hset i).2 (.inl rfl),by simp [I.size],fun j o hj hl e he hb=>?_,?_,fun x hx=>?_,fun j d' v hj hl hv=>?_,fun j d' sl off hj hl hv=>?_,I.NO⟩⟩
  ·rw[hset]
   rcases (hset j).1 hl with rfl|h
   ·exact .inr (hr o hj e he hb)
   ·exact .inr (I.closed j o hj h e he hb)
  ·obtain⟨k,hk,hh,hpre⟩:=I.pre
   refine⟨k,hk,hh,fun j hj=>?_⟩
   rw[hset]
   constructor
   ·rintro (h|h)
    ·exact (Z.na (by rw[← h];simp [hj])).elim
    ·exact (hpre j hj).1 h
   ·exact fun h=>.inr ((hpre j hj).2 h)
  ·have hxd:d≠x:=fun e=>hx a (e▸Z.da)
   simp only[bB]
   rw[if_neg hxd]
   exact I.out x hx
  ·have hji:j≠i:=fun e=>by rw[e,hstd] at hj;cases hj
   have hl':=((hset j).1 hl).resolve_left hji
   by_cases hja:j=a
   ·subst hja
    obtain rfl:d=d':=Option.some.inj (Z.da.symm.trans hj)
    rw[Z.ra] at hv
    cases hv
    simp only[bB,if_true]
    exact⟨trivial,(I.qK j d v0 hj hl' Z.UY).2⟩
   ·have hdd:d≠d':=fun e=>hja (C.dst j a d (e▸hj) Z.da)
    simp only[bB]
    rw[if_neg hdd]
    rw[Z.same j hja] at hv
    exact I.qK j d' v hj hl' hv
  ·have hji:j≠i:=fun e=>by rw[e,hstd] at hj;cases hj
   have hja:j≠a:=fun e=>by rw[e,Z.ra] at hv;cases hv
   rw[Z.same j hja] at hv
   exact I.CL j d' sl off hj (((hset j).1 hl).resolve_left hji) hv
 ·obtain⟨s',h1,h2⟩:=I.step C hT (fun o k=>hstep o k his) hi ho
  exact⟨s',h1,.inl ⟨by rw[getD_set_ne false his];exact h0,h2⟩⟩
·have his:i≠st:=fun e=>by rw[e,h0] at hnot;cases hnot
 have hlst:st<ops.size:=(Array.getElem?_eq_some_iff.1 host).1
 have hia:i≠a:=fun e=>by
  have:=jF C I.size I.closed st a hlst (fun o' ho' e he hb=>I.closed st o' ho' h0 e he hb) Z.Mv
  rw[← e,hnot] at this
  cases this
 obtain⟨s',h1,h2⟩:=I.step C hT' (fun o k h1 h2 h3=>by
  obtain⟨V,hV,hVh,hone⟩:=hstep o k his h1 h2 h3
  refine⟨V,⟨fun x=>?_,fun x p hp=>?_,hV.n⟩,hVh,by rw[Z.same i hia];exact hone⟩
  ·rcases hV.f x with h|h|⟨j,h4,h5,h6⟩
   ·exact .inl h
   ·exact .inr (.inl h)
   ·refine .inr (.inr ⟨j,h4,h5,?_⟩)
    rw[Z.same j (fun e=>Z.free i his (e▸h5))]
    exact h6
  ·obtain⟨j,sl,off,h4,h5,h6,h7⟩:=hV.e x p hp
   refine⟨j,sl,off,h4,h5,?_,h7⟩
   rw[Z.same j (fun e=>Z.free i his (e▸h5))]
   exact h6) hi ho
 exact⟨s',h1,.inr ⟨by rw[getD_set_ne false his];exact h0,h2⟩⟩}
variable {res1 res2 res12:Nat→gu} {a1 st1 d1 a2 st2 d2:Nat} {cs1 cs2:List Value} {v1 v2:fX}
def F6 (N:Env) (ops:Array Oper) (act:List Nat) (s0:St) (res res1 res2 res12:Nat→gu) (Hs:Nat→ai) (st1 st2:Nat) (S:Array Bool) (t:St):Prop:=
 (S.getD st2 false=false∧gG N ops act s0 res res1 Hs st1 S t)∨(S.getD st2 false=true∧gG N ops act s0 res2 res12 Hs st1 S t)
theorem F6.step (C:rQ ops L act) (Z1:Ao N ops L act s0 res res1 a1 st1 d1 cs1 v1) (Z1':Ao N ops L act s0 res2 res12 a1 st1 d1 cs1 v1) (Z2:Ao N ops L act s0 res res2 a2 st2 d2 cs2 v2) (Z2':Ao N ops L act s0 res1 res12 a2 st2 d2 cs2 v2) (hne:st1≠st2) (hT:∀ j sl off,res j = .ep sl off→∀ i,bH ops i≠some sl) (hT1:∀ j sl off,res1 j = .ep sl off→∀ i,bH ops i≠some sl) (hT2:∀ j sl off,res2 j = .ep sl off→∀ i,bH ops i≠some sl) (hstep:∀ i o k,i≠st1→i≠st2→ops[i]? = some o→k≤act.length→fZ L act i k=true→∃ V,View ops L s0 res i V∧V.h=Hs k∧One N ops o V (res i) (Hs (if i∈act then k+1 else k))) {S:Array Bool} {t:St} {i:Nat} {o:Oper} (I:F6 N ops act s0 res res1 res2 res12 Hs st1 st2 S t) (hi:i∈Region.ready .any ops S) (ho:ops[i]? = some o) : ∃ s',Ev N (.ops ops [o] t s')∧F6 N ops act s0 res res1 res2 res12 Hs st1 st2 (S.setIfInBounds i true) s':=by{
obtain⟨hun,oi,hoi,hall⟩:=mem_ready.1 hi
have hnot:S.getD i false=false:=getD_both hun
have hlt:i<ops.size:=(Array.getElem?_eq_some_iff.1 ho).1
rcases I with ⟨h0,I⟩ | ⟨h0,I⟩
·by_cases his:i=st2
 ·subst his
  have hset:∀ (hs:S.size=ops.size),(S.setIfInBounds i true).getD i false=true:=fun hs=>(eK (by rw[hs];exact hlt)).2 (.inl rfl)
  rcases I with ⟨h1,I⟩ | ⟨h1,I⟩
  ·obtain⟨s',k1,k2⟩:=gG.Bp C Z2 hT (fun o k h=>absurd rfl h) (.inl ⟨h0,I⟩) hi ho
   refine⟨s',k1,?_⟩
   rcases k2 with ⟨k2,_⟩ | ⟨k2,k3⟩
   ·rw[hset I.size] at k2;cases k2
   ·exact .inr ⟨k2,.inl ⟨by rw[getD_set_ne false (fun e=>hne e.symm)];exact h1,k3⟩⟩
  ·obtain⟨s',k1,k2⟩:=gG.Bp C Z2' hT1 (fun o k h=>absurd rfl h) (.inl ⟨h0,I⟩) hi ho
   refine⟨s',k1,?_⟩
   rcases k2 with ⟨k2,_⟩ | ⟨k2,k3⟩
   ·rw[hset I.size] at k2;cases k2
   ·exact .inr ⟨k2,.inr ⟨by rw[getD_set_ne false (fun e=>hne e.symm)];exact h1,k3⟩⟩
 ·obtain⟨s',k1,k2⟩:=gG.Bp C Z1 hT (fun o k h=>hstep i o k h his) I hi ho
  exact⟨s',k1,.inl ⟨by rw[getD_set_ne false his];exact h0,k2⟩⟩
·have his:i≠st2:=fun e=>by rw[e,h0] at hnot;cases hnot
 obtain⟨ost,host,_⟩:=Z2.o
 have hlst:st2<ops.size:=(Array.getElem?_eq_some_iff.1 host).1
 have hia:i≠a2:=fun e=>by
  have hcs:S.size=ops.size∧(∀ (j:Nat) (o:Oper),ops[j]? = some o→S.getD j false=true→∀ e∈o.after,Region.binds .any e=true→S.getD e.on false=true):=by
   rcases I with ⟨_,I⟩ | ⟨_,I⟩
   ·exact⟨I.size,I.closed⟩
   ·exact⟨I.size,I.closed⟩
  have:=jF C hcs.1 hcs.2 st2 a2 hlst (fun o' ho' e he hb=>hcs.2 st2 o' ho' h0 e he hb) Z2.Mv
  rw[← e,hnot] at this
  cases this
 obtain⟨s',k1,k2⟩:=gG.Bp C Z1' hT2 (fun o k h h1 h2 h3=>by
  obtain⟨V,hV,hVh,hone⟩:=hstep i o k h his h1 h2 h3
  refine⟨V,⟨fun x=>?_,fun x p hp=>?_,hV.n⟩,hVh,by rw[Z2.same i hia];exact hone⟩
  ·rcases hV.f x with h|h|⟨j,h4,h5,h6⟩
   ·exact .inl h
   ·exact .inr (.inl h)
   ·refine .inr (.inr ⟨j,h4,h5,?_⟩)
    rw[Z2.same j (fun e=>Z2.free i his (e▸h5))]
    exact h6
  ·obtain⟨j,sl,off,h4,h5,h6,h7⟩:=hV.e x p hp
   refine⟨j,sl,off,h4,h5,?_,h7⟩
   rw[Z2.same j (fun e=>Z2.free i his (e▸h5))]
   exact h6) I hi ho
 exact⟨s',k1,.inr ⟨by rw[getD_set_ne false his];exact h0,k2⟩⟩}
end
end Go.Proofs.YtmdmimkbpikmoaaGreat.Am
namespace Go.Proofs.YtmdmimkbpikmoaaGreat
set_option maxRecDepth 20000
open Go.RowKit Am Ty
section
variable {d:bS} {s:ByteArray}
theorem Lp (G:nq d):∀ x∈nd d,x.1.rhs.length≤400:=by{
intro x hx
unfold nd at hx
rw[List.mem_append,List.mem_append] at hx
have key:∀ k,k≤d.aa.length→∀ x∈gO d k,x.1.rhs.length≤400:=by
 intro k
 induction k with
 | zero=>intro _ x hx;simp [gO] at hx
 | succ k ih=>
   intro hk x hx
   rw[ij (show k<d.aa.length by omega),List.mem_append] at hx
   rcases hx with hx|hx
   ·exact ih om x hx
   ·unfold jQ at hx
    rw[List.mem_map] at hx
    obtain⟨m,_,rfl⟩:=hx
    have hG:=G.p _ (List.getElem_mem (show k<d.aa.length by omega))
    have:=lR (mask:=m) hG d.aa[k].an.length
    have h12:=hG.n
    show (fb d d.aa[k] m).rhs.length≤400
    unfold fb
    omega
rcases hx with (hx|hx) | hx
·exact key _ (Nat.le_refl _) x hx
·unfold iP at hx
 rw[List.mem_flatMap] at hx
 obtain⟨k,hk,hx⟩:=hx
 have hks:=(G.k k hk).2
 unfold AD at hx
 simp only[List.mem_cons,List.not_mem_nil,or_false] at hx
 rcases hx with rfl|rfl
 ·simp
 ·unfold tk eX k9
  simp only[List.length_append,List.length_cons,List.length_nil]
  split<;>split<;>simp<;>omega
·unfold oZ at hx
 split at hx
 ·simp only[List.mem_cons,List.not_mem_nil,or_false] at hx
  subst hx
  simp
 ·simp only[List.mem_cons,List.not_mem_nil,or_false] at hx
  rcases hx with rfl|rfl|rfl<;>simp}
variable {h:ai} {up uc uf ur ub:Value}
end
abbrev tb (d:bS):bS:={ d with aj:=[] }
section
variable {d:bS}
theorem yk (hc:iZ d):iZ (tb d):=by{
intro k hk
have h:=hc k hk
match k,h with
| 0,h=>
  have h:cA d=true:=h
  show cA (tb d)=true
  unfold cA at h ⊢
  simp only[Bool.and_eq_true] at h ⊢
  exact⟨h.1,h.2.1,rfl,h.2.2.2⟩
| 1,h=>exact h
| 2,h=>exact h
| 3,h=>exact h
| 4,h=>exact h
| 5,h=>exact h
| 6,h=>exact h
| 7,h=>exact h
| 8,h=>exact h
| 9,h=>exact h
| 10,h=>exact h
| 11,_=>exact fun c hc=>by cases hc
| 12,h=>exact h
| _+13,h=>exact h}
theorem JD {f:FuncId} {args:List Value} {h h':ai} {r:Value} (k:Ev env (.call f args h r h')):FW env f args h fun r1 h1=>r1=r∧h1=h':=by unfold FW;exact⟨_,_,k,rfl,rfl⟩
variable {h:ai} {up uc uf ur ub:Value}
theorem tS (hd:bo h d up uc uf ur ub) (hw:ou d):FW env 9 [.agg (d.val up uc uf ur ub).toArray] h fun r _=>r = .bool true:=by{
have hhv:=Dv hd
have hd0:=hd
unfold bS.val at hhv
obtain⟨p1,c1,p2,c2,p3,c3,p4,c4,p5,c5,rfl,rfl,rfl,rfl,rfl,l1,l2,l3,l4,l5⟩:=bo.form hd
refine fe Tryz.func9 ?_;simp only[push_cast]
unfold bS.val
refine aC ?_
refine zj Tryz.func12 ?_
refine hhv.mono ?_
rintro _ h1 ⟨⟨b,hb,rfl⟩,e1⟩
obtain rfl:=e1.symm
cases b with
| true=>
  refine aC ?_
  refine ag rfl ?_
  refine aC ?_
  refine zj Tryz.func13 ?_
  refine o3.mono ?_
  rintro _ ha ⟨rfl,ea⟩
  obtain rfl:=ea.symm
  refine aC ?_
  refine ak ?_
  exact⟨_,al,rfl⟩
| false=>
refine aC ?_
refine ae rfl ?_
have hmk:=AS hd0 hw (fun hr=>hb rfl (yb hr))
unfold bS.val at hmk
have dz:decide ((0:Int)=0)=true:=rfl
have d53:decide ((53:Int)=0)=false:=rfl
refine aC ?_
refine zj Tryz.func15 ?_
refine hmk.mono ?_
rintro _ h2 (⟨_,rfl,rfl⟩ | ⟨hc,m,nm,rfl,K1⟩)
·refine aG d53 ?_
 refine ag rfl ?_
 refine aC ?_
 refine zj Tryz.func13 ?_
 refine o3.mono ?_
 rintro _ ha ⟨rfl,ea⟩
 obtain rfl:=ea.symm
 refine aC ?_
 refine ak ?_
 exact⟨_,al,rfl⟩
have hpt:=hb rfl (yb (hc 0 (by decide)))
have G:=BL hc hpt
have hcp:=EB (hd0.mono K1.p)
unfold bS.val at hcp
obtain⟨tq1,tr1,te1⟩:=ct.form K1.D.now.aa
obtain⟨tq2,tr2,te2⟩:=ct.form K1.D.now.aj
obtain⟨tq3,tr3,te3⟩:=bT.form K1.D.now.follows
obtain⟨tq4,tr4,te4⟩:=bT.form K1.D.now.ah
obtain⟨tq5,tr5,te5⟩:=ct.form K1.D.now.boxes
obtain⟨tq6,tr6,te6⟩:=dA.form K1.r
obtain⟨tq7,tr7,te7⟩:=dA.form K1.f
obtain⟨tq8,tr8,te8⟩:=K1.n.form
obtain⟨tq9,tr9,te9⟩:=K1.b.form
obtain⟨tqa,tra,tea⟩:=K1.F.form
obtain⟨tqb,trb,teb⟩:=K1.R.form
rw[List.length_map] at te6
rw[gM] at te7
rw[K1.Ta] at te8
have tv:qd m = .agg #[.string d.start,.string d.layout,.slice tq1 d.aa.length tr1,.slice tq2 d.aj.length tr2,.slice tq3 d.follows.length tr3,.slice tq4 d.ah.length tr4,.slice tq5 d.boxes.length tr5,i64 (aV d:Int),i64 (eg d:Int),.slice tq6 (nd d).length tr6,.slice tq7 (nd d).length tr7,.slice tq8 (aV d) tr8,.slice tq9 (iJ [] (iV d (ey d))).length tr9,.slice tqa (aV d) tra,.slice tqb (aV d) trb]:=by rw[qd,K1.s1,K1.s2,K1.fx,K1.st,te1,te2,te3,te4,te5,te6,te7,te8,te9,tea,teb]
rw[tv]
refine aG dz ?_
refine ae rfl ?_
refine aC ?_
refine zj Tryz.func14 ?_
refine hcp.mono ?_
rintro _ h3 ⟨hp1,vp,vc,vf,vr,vb,rfl,hd1,_⟩
have hd1':=hd1
obtain⟨p1',c1',p2',c2',p3',c3',p4',c4',p5',c5',rfl,rfl,rfl,rfl,rfl,-⟩:=bo.form hd1
have hd2:bo h3 (tb d) (.slice p1' d.aa.length c1') (.slice none 0 0) (.slice p3' d.follows.length c3') (.slice p4' d.ah.length c4') (.slice p5' d.boxes.length c5'):=
 ⟨hd1'.aa,⟨[],rfl,⟨by simp,.inl ⟨.inl rfl,rfl,rfl⟩⟩,fun i x u hx=>by simp at hx⟩,hd1'.follows,hd1'.ah,hd1'.boxes⟩
have hw2:ou (tb d):=⟨hw.start,hw.layout,hw.aa,by simp,hw.follows,hw.ah,hw.boxes⟩
have hpt2:cX (tb d)≤160:=by
 unfold cX at hpt ⊢
 have e0:cM tI ([]:List (List cZ))=0:=rfl
 simp only[List.length_nil,e0] at hpt ⊢
 omega
have hmk2:=AS hd2 hw2 (fun _=>hpt2)
unfold bS.val at hmk2
refine aC ?_
refine zj Tryz.func15 ?_
refine hmk2.mono ?_
rintro _ h4 (⟨hno,_⟩ | ⟨hc2,m2,nm2,rfl,K2⟩)
·exact absurd (yk hc) hno
obtain⟨uq1,ur1,ue1⟩:=ct.form K2.D.now.aa
obtain⟨uq2,ur2,ue2⟩:=ct.form K2.D.now.aj
obtain⟨uq3,ur3,ue3⟩:=bT.form K2.D.now.follows
obtain⟨uq4,ur4,ue4⟩:=bT.form K2.D.now.ah
obtain⟨uq5,ur5,ue5⟩:=ct.form K2.D.now.boxes
obtain⟨uq6,ur6,ue6⟩:=dA.form K2.r
obtain⟨uq7,ur7,ue7⟩:=dA.form K2.f
obtain⟨uq8,ur8,ue8⟩:=K2.n.form
obtain⟨uq9,ur9,ue9⟩:=K2.b.form
obtain⟨uqa,ura,uea⟩:=K2.F.form
obtain⟨uqb,urb,ueb⟩:=K2.R.form
rw[List.length_map] at ue6
rw[gM] at ue7
rw[K2.Ta] at ue8
have uv:qd m2 = .agg #[.string (tb d).start,.string (tb d).layout,.slice uq1 (tb d).aa.length ur1,.slice uq2 (tb d).aj.length ur2,.slice uq3 (tb d).follows.length ur3,.slice uq4 (tb d).ah.length ur4,.slice uq5 (tb d).boxes.length ur5,i64 (aV (tb d):Int),i64 (eg (tb d):Int),.slice uq6 (nd (tb d)).length ur6,.slice uq7 (nd (tb d)).length ur7,.slice uq8 (aV (tb d)) ur8,.slice uq9 (iJ [] (iV (tb d) (ey (tb d)))).length ur9,.slice uqa (aV (tb d)) ura,.slice uqb (aV (tb d)) urb]:=by rw[qd,K2.s1,K2.s2,K2.fx,K2.st,ue1,ue2,ue3,ue4,ue5,ue6,ue7,ue8,ue9,uea,ueb]
rw[uv]
have hn0:(iJ [] (iV (tb d) (ey (tb d)))).length=0:=rfl
rw[hn0]
refine aG dz ?_
refine ae rfl ?_
have hrl:=wj G hpt
have hbl:(iJ [] (iV d (ey d))).length≤1000000000:=by
 have:=AO G (hc 11 (by decide)) hpt
 have:=oB (xs:=iV d (ey d)) (l:=[])
 simp only[List.length_nil] at this
 omega
have hbl2:(eD d).length=(iJ [] (iV d (ey d))).length:=by
 unfold eD
 rw[List.length_mergeSort]
obtain⟨N1,hN1⟩:∃ N1,N1=(nd d).length:=⟨_,rfl⟩
obtain⟨N2,hN2⟩:∃ N2,N2=(iJ [] (iV d (ey d))).length:=⟨_,rfl⟩
have hkb:=K1.b
rw[← hN1] at te6 te7 hrl
rw[← hN1,← hN2]
rw[← hN2] at hbl hbl2 te9 hkb
refine aC ?_
have P2:h2 <+: h4:=hp1.trans K2.p
have hdF:bo h4 d _ _ _ _ _:=hd0.mono (K1.p.trans P2)
refine CW.mono (Q:=fun e s'=>e = .exit 0∧s'.h=h4∧bD [] s'.fr) ?_ ?_
·refine dC N2 (fun i=>[(1,.box [.string d.start,.string d.layout,.slice p1 d.aa.length c1,.slice p2 d.aj.length c2,.slice p3 d.follows.length c3,.slice p4 d.ah.length c4,.slice p5 d.boxes.length c5]),(3,.box [.string d.start,.string d.layout,.slice tq1 d.aa.length tr1,.slice tq2 d.aj.length tr2,.slice tq3 d.follows.length tr3,.slice tq4 d.ah.length tr4,.slice tq5 d.boxes.length tr5,i64 (aV d:Int),i64 (eg d:Int),.slice tq6 N1 tr6,.slice tq7 N1 tr7,.slice tq8 (aV d) tr8,.slice tq9 N2 tr9,.slice tqa (aV d) tra,.slice tqb (aV d) trb]),(8,.val (.slice tq9 N2 tr9)),(9,.val (i64 i))]) (fun _=>h4) (fun _=>True) aM rfl trivial ?_
 intro i hin _
 by_cases hlt:i<N2
 ·have w1:=cz hlt
  have w2:=inc (k:=i) (n:=N2) hlt om
  have q3:=aU hlt
  have hbi:i<(eD d).length:=by omega
  obtain⟨id9,ver9,_,hv9,hid9⟩:=hkb.wJ om
  rw[te9] at hv9
  cases hv9
  have hid9:=af P2 hid9
  have hg9:∀ (k:Nat) (hk:k<(eD d).length),js (BC (eD d)) (k*3) 3=some [i64 (eD d)[k].ef,i64 (eD d)[k].jO,i64 (eD d)[k].nO]:=fun k hk=>bI (f:=aR.cells) (fun _=>rfl) _ k (eD d)[k] (by simp [hk])
  have hgi:=hg9 i hbi
  obtain⟨pi,pj,HB⟩:=He hc (List.getElem_mem hbi)
  obtain⟨⟨hpi,ci⟩,⟨hpj,cj⟩,⟨R,o,hR,ho,x,hx,hxn⟩,⟨R2,o2,hR2,ho2,hx2⟩⟩:=HB
  have hsrt:∀ (k:Nat) (hk:k+1<(eD d).length),bx (eD d)[k] (eD d)[k+1]=true:=fun k hk=>yp hk
  obtain⟨b,hbe⟩:∃ b,b=(eD d)[i]:=⟨_,rfl⟩
  rw[← hbe] at hgi hR hx hR2
  have hlr:b.ef<(nd d).length:=(List.getElem?_eq_some_iff.1 hR).1
  have eR:(nd d)[b.ef]=(R,o):=(List.getElem?_eq_some_iff.1 hR).2
  have hlk:b.nO<(nd d).length:=(List.getElem?_eq_some_iff.1 hR2).1
  have eR2:(nd d)[b.nO]=(R2,o2):=(List.getElem?_eq_some_iff.1 hR2).2
  have hlx:b.jO<R.rhs.length:=(List.getElem?_eq_some_iff.1 hx).1
  have ex:R.rhs[b.jO]=x:=(List.getElem?_eq_some_iff.1 hx).2
  have hKr:=K1.r
  rw[te6] at hKr
  obtain⟨id,av,c',cells,pa,ca,hv,hid,hrd,hu,_⟩:=sw.at hKr (i:=b.ef) (by rw[List.length_map];exact hlr)
  rw[List.length_map,← hN1] at hv
  cases hv
  obtain⟨id',ver',c2',cells',pb,cb,hv',hid',hrd',_,_⟩:=sw.at hKr (i:=b.nO) (by rw[List.length_map];exact hlk)
  rw[List.length_map,← hN1] at hv'
  cases hv'
  rw[hid] at hid'
  cases hid'
  have eg1:((nd d).map (·.1))[b.ef]'(by rw[List.length_map];exact hlr)=R:=by rw[List.getElem_map,eR]
  have eg2:((nd d).map (·.1))[b.nO]'(by rw[List.length_map];exact hlk)=R2:=by rw[List.getElem_map,eR2]
  rw[eg1] at hrd hu
  rw[eg2] at hrd'
  have hid:=af P2 hid
  have hyl:=Lp G _ (List.mem_of_getElem? hR)
  obtain⟨idx,verx,ownx,cx,hvx,hidx⟩:=(hu.sl (b:=40) (by simp only at hyl;omega)).at om
  cases hvx
  have hidx:=af P2 hidx
  have hgx:js (R.rhs.flatMap be.cells) (b.jO*5) 5=some [i64 x.nt,u64 x.set.a,u64 x.set.b,u64 x.set.c,u64 x.set.d]:=bI (f:=be.cells) (fun _=>rfl) R.rhs b.jO x hx
  have hF:=K1.nO G hpt
  rw[te7] at hF
  obtain⟨jd,jver,jown,jc,jcells,jp,jn,jc',jv,jid,_,jrd,_⟩:=hF.at (i:=b.ef) (by rw[gM];exact hlr)
  rw[gM,← hN1] at jv
  cases jv
  obtain⟨jd',jver',jown',kc,kcells,kp,kn,kc',kv,kid,_,krd,_⟩:=hF.at (i:=b.nO) (by rw[gM];exact hlk)
  rw[gM,← hN1] at kv
  cases kv
  rw[jid] at kid
  cases kid
  have eo1:(ey d)[b.ef]'(by rw[gM];exact hlr)=o:=by unfold ey;rw[List.getElem_map,eR]
  have eo2:(ey d)[b.nO]'(by rw[gM];exact hlk)=o2:=by unfold ey;rw[List.getElem_map,eR2]
  rw[eo1,ho] at jrd
  rw[eo2,ho2] at krd
  have jid:=af P2 jid
  obtain⟨ld,lver,lown,lc,lcells,lu,lv,lid,lrd,_⟩:=ct.at (k:=5) (fun _ _=>rfl) hdF.aa hpi
  cases lv
  obtain⟨md,mver,mown,mc,mcells,mu,mv,mid,mrd,_⟩:=ct.at (k:=5) (fun _ _=>rfl) hdF.aa hpj
  cases mv
  rw[lid] at mid
  cases mid
  obtain⟨n1,hn1⟩:∃ n1,n1=b.ef:=⟨_,rfl⟩
  obtain⟨n2,hn2⟩:∃ n2,n2=b.jO:=⟨_,rfl⟩
  obtain⟨n3,hn3⟩:∃ n3,n3=b.nO:=⟨_,rfl⟩
  rw[← hn1] at hrd jrd hlr hgi
  rw[← hn2] at hgx hlx hgi
  rw[← hn3] at hrd' krd hlk hgi
  have nn:∀ n:Nat,decide ((n:Int)<0)=false:=fun n=>decide_eq_false om
  have g1:decide ((N1:Int)≤(n1:Int))=false:=decide_eq_false om
  have g2:decide ((N1:Int)≤(n3:Int))=false:=decide_eq_false om
  have g3:decide ((R.rhs.length:Int)≤(n2:Int))=false:=decide_eq_false om
  have r1:((0:Int)≤n1∧(n1:Int)<(N1:Int))=True:=eq_true om
  have r3:((0:Int)≤n3∧(n3:Int)<(N1:Int))=True:=eq_true om
  have r2:=cz hlx
  have r4:=cz hpi
  have r5:=cz hpj
  have y1:=dE (j:=1) hrd om
  have y0:=fI hgx om
  have y2:=fI hrd' om
  have y3:=dE (j:=1) jrd om
  have y4:=dE (j:=1) krd om
  have y5:=dE (j:=2) lrd om
  have y6:=dE (j:=2) mrd om
  simp only[List.getElem?_cons_succ,List.getElem?_cons_zero] at y0 y1 y2 y3 y4 y5 y6
  have dn:decide (x.nt=R2.lhs)=true:=decide_eq_true (by rw[hxn,hx2])
  have hC1:=lP (name:=d.aa[pi].cons) hdF
  have hC2:=lP (name:=d.aa[pj].cons) hdF
  unfold FW at hC1 hC2
  unfold bS.val at hC1 hC2
  obtain⟨_,_,hcall1,⟨v1,hv1,rfl⟩,e8⟩:=hC1
  rw[e8] at hcall1
  obtain⟨_,_,hcall2,⟨v2,hv2,rfl⟩,e9⟩:=hC2
  rw[e9] at hcall2
  have hF1:=JD hcall1
  have hF2:=JD hcall2
  obtain⟨w1',hw1,hw1'⟩:=ci
  obtain⟨w2',hw2,hw2'⟩:=cj
  have z1:decide (v1<0)=false:=decide_eq_false (by rw[hv1.wM hw1];omega)
  have z2:decide (v2<0)=false:=decide_eq_false (by rw[hv2.wM hw2];omega)
  refine aG q3 ?_
  refine ag rfl ?_
  refine gU w1 hid9 hgi ?_
  apply bu (L:=[[],[0],[0,1],[0,1,2],[0,1,2,3],[0,1,2,3,4],[0,1,2,3,4,5],[0,1,2,3,4,5,6],[0,1,2,3,4,5,6,7],[0,1,2,3,4,5,6,7,8],[0,1,2,3,4,5,6,7,8,9],[0,1,2,3,4,5,6,7,8],[0,1,2,3,4,5,6,7,8,11],[0,1,2,3,4,5,6,7,8,11,12],[0,1,2,3,4,5,6,7,8,9,10,11,12,13],[0,1,2,3,4,5,6,7,8,9,10,11,12,13,14],[0,1,2,3,4,5,6,7,8,9,10,11,12,13,14,15],[0,1,2,3,4,5,6,7,8,9,10,11,12,13,14,15,16],[0,1,2,3,4,5,6,7,8,9,10,11,12,13,14,15,16,17],[0,1,2,3,4,5,6,7,8,9,10,11,12,13,14,15,16],[0,1,2,3,4,5,6,7,8,9,10,11,12,13,14,15,16,19],[0,1,2,3,4,5,6,7,8,9,10,11,12,13,14,15,16,19,20],[0,1,2,3,4,5,6,7,8,9,10,11,12,13,14,15,16,17,18,19,20,21],[0,1,2,3,4,5,6,7,8,9,10,11,12,13,14,15,16,17,18,19,20,21,22],[0,1,2,3,4,5,6,7,8,9,10,11,12,13,14,15,16,17,18,19,20,21,22,23],[0,1,2,3,4,5,6,7,8,9,10,11,12,13,14,15,16,17,18,19,20,21,22,23,24],[0,1,2,3,4,5,6,7,8,9,10,11,12,13,14,15,16,17,18,19,20,21,22,23,24,25],[0,1,2,3,4,5,6,7,8,9,10,11,12,13,14,15,16,17,18,19,20,21,22,23,24,25,26],[0,1,2,3,4,5,6,7,8,9,10,11,12,13,14,15,16,17,18,19,20,21,22,23,24,25,26,27],[0,1,2,3,4,5,6,7,8,9,10,11,12,13,14,15,16,17,18,19,20,21,22,23,24,25,26,27,28],[0,1,2,3,4,5,6,7,8,9,10,11,12,13,14,15,16,17,18,19,20,21,22,23,24,25,26,27,28,29],[0,1,2,3,4,5,6,7,8,9,10,11,12,13,14,15,16,17,18,19,20,21,22,23,24,25,26,27,28,29,30],[0,1,2,3,4,5,6,7,8,9,10,11,12,13,14,15,16,17,18,19,20,21,22,23,24,25,26,27,28,29],[0,1,2,3,4,5,6,7,8,9,10,11,12,13,14,15,16,17,18,19,20,21,22,23,24,25,26,27,28,29,32],[0,1,2,3,4,5,6,7,8,9,10,11,12,13,14,15,16,17,18,19,20,21,22,23,24,25,26,27,28,29,32,33],[0,1,2,3,4,5,6,7,8,9,10,11,12,13,14,15,16,17,18,19,20,21,22,23,24,25,26,27,28,29],[0,1,2,3,4,5,6,7,8,9,10,11,12,13,14,15,16,17,18,19,20,21,22,23,24,25,26,27,28,29,35],[0,1,2,3,4,5,6,7,8,9,10,11,12,13,14,15,16,17,18,19,20,21,22,23,24,25,26,27,28,29,32,33,34,35,36],[0,1,2,3,4,5,6,7,8,9,10,11,12,13,14,15,16,17,18,19,20,21,22,23,24,25,26,27,28,29,32,33,34,35,36,37],[0,1,2,3,4,5,6,7,8,9,10,11,12,13,14,15,16,17,18,19,20,21,22,23,24,25,26,27,28,29,32,33,34,35,36,37,38],[0,1,2,3,4,5,6,7,8,9,10,11,12,13,14,15,16,17,18,19,20,21,22,23,24,25,26,27,28,29,32,33,34,35,36,37,38,39],[0,1,2,3,4,5,6,7,8,9,10,11,12,13,14,15,16,17,18,19,20,21,22,23,24,25,26,27,28,29,30,31,32,33,34,35,36,37,38,39,40],[0,1,2,3,4,5,6,7,8,9,10,11,12,13,14,15,16,17,18,19,20,21,22,23,24,25,26,27,28,29,30,31,32,33,34,35,36,37,38,39,40,41]]) (resL:=[_,_,_,_,_,_,_,_,_,_,_,_,_,_,_,_,_,_,_,_,_,_,_,_,_,_,_,_,_,_,_,_,_,_,_,_,_,_,_,_,_,_,_]) (frF:=[(1,.box [.string d.start,.string d.layout,.slice (some ⟨ld,0,some lver⟩) d.aa.length c1,.slice p2 d.aj.length c2,.slice p3 d.follows.length c3,.slice p4 d.ah.length c4,.slice p5 d.boxes.length c5]),(3,.box [.string d.start,.string d.layout,.slice tq1 d.aa.length tr1,.slice tq2 d.aj.length tr2,.slice tq3 d.follows.length tr3,.slice tq4 d.ah.length tr4,.slice tq5 d.boxes.length tr5,i64 (aV d:Int),i64 (eg d:Int),.slice (some ⟨id,0,some av⟩) N1 tr6,.slice (some ⟨jd,0,some jver⟩) N1 tr7,.slice tq8 (aV d) tr8,.slice (some ⟨id9,0,some ver9⟩) tr9 tr9,.slice tqa (aV d) tra,.slice tqb (aV d) trb]),(8,.val (.slice (some ⟨id9,0,some ver9⟩) tr9 tr9)),(9,.val (i64 i)),(10,.box [i64 n1,i64 n2,i64 n3]),(95,.val (.bool false))])
  case hm=>exact mixed
  case hc=>kernel_rfl
  case hb=>rfl
  case hS=>exact Vo nn g1 g2 g3 r1 hid y1
  case ht=>rfl
  case hF=>exact zh
  show CW _ _ _ _
  try apply zs
  refine ae rfl ?_
  refine aC ?_
  apply bu (L:=[[],[0],[0,1],[],[3],[0,1,2,3,4],[0,1,2,3,4,5],[0,1,2,3,4,5,6],[],[8],[0,1,2,3,4,5,6,7,8,9],[0,1,2,3,4,5,6,7,8,9,10],[0,1,2,3,4,5,6,7,8,9,10,11],[],[13],[13,14],[],[16],[13,14,15,16,17],[13,14,15,16,17,18],[13,14,15,16,17,18,19],[0,1,2,3,4,5,6,7,8,9,10,11,12,13,14,15,16,17,18,19,20],[0,1,2,3,4,5,6,7,8,9,10,11,12,13,14,15,16,17,18,19,20,21],[0,1,2,3,4,5,6,7,8,9,10,11,12,13,14,15,16,17,18,19,20,21,22],[0,1,2,3,4,5,6,7,8,9,10,11,12,13,14,15,16,17,18,19,20,21,22],[0,1,2,3,4,5,6,7,8,9,10,11,12,13,14,15,16,17,18,19,20,21,22,24],[0,1,2,3,4,5,6,7,8,9,10,11,12,13,14,15,16,17,18,19,20,21,22],[0,1,2,3,4,5,6,7,8,9,10,11,12,13,14,15,16,17,18,19,20,21,22,26],[0,1,2,3,4,5,6,7,8,9,10,11,12,13,14,15,16,17,18,19,20,21,22],[0,1,2,3,4,5,6,7,8,9,10,11,12,13,14,15,16,17,18,19,20,21,22,28],[0,1,2,3,4,5,6,7,8,9,10,11,12,13,14,15,16,17,18,19,20,21,22,26,27,28,29],[0,1,2,3,4,5,6,7,8,9,10,11,12,13,14,15,16,17,18,19,20,21,22,26,27,28,29,30],[0,1,2,3,4,5,6,7,8,9,10,11,12,13,14,15,16,17,18,19,20,21,22,26,27,28,29,30,31],[0,1,2,3,4,5,6,7,8,9,10,11,12,13,14,15,16,17,18,19,20,21,22,24,25,26,27,28,29,30,31,32],[0,1,2,3,4,5,6,7,8,9,10,11,12,13,14,15,16,17,18,19,20,21,22,24,25,26,27,28,29,30,31,32,33],[0,1,2,3,4,5,6,7,8,9,10,11,12,13,14,15,16,17,18,19,20,21,22,24,25,26,27,28,29,30,31,32,33,34],[0,1,2,3,4,5,6,7,8,9,10,11,12,13,14,15,16,17,18,19,20,21,22,23,24,25,26,27,28,29,30,31,32,33,34,35],[0,1,2,3,4,5,6,7,8,9,10,11,12,13,14,15,16,17,18,19,20,21,22,23,24,25,26,27,28,29,30,31,32,33,34,35,36],[0,1,2,3,4,5,6,7,8,9,10,11,12,13,14,15,16,17,18,19,20,21,22,23,24,25,26,27,28,29,30,31,32,33,34,35,36,37],[0,1,2,3,4,5,6,7,8,9,10,11,12,13,14,15,16,17,18,19,20,21,22,23,24,25,26,27,28,29,30,31,32,33,34,35,36,37,38],[0,1,2,3,4,5,6,7,8,9,10,11,12,13,14,15,16,17,18,19,20,21,22,23,24,25,26,27,28,29,30,31,32,33,34,35,36,37,38,39],[0,1,2,3,4,5,6,7,8,9,10,11,12,13,14,15,16,17,18,19,20,21,22,23,24,25,26,27,28,29,30,31,32,33,34,35,36,37,38,39],[0,1,2,3,4,5,6,7,8,9,10,11,12,13,14,15,16,17,18,19,20,21,22,23,24,25,26,27,28,29,30,31,32,33,34,35,36,37,38,39,41],[0,1,2,3,4,5,6,7,8,9,10,11,12,13,14,15,16,17,18,19,20,21,22,23,24,25,26,27,28,29,30,31,32,33,34,35,36,37,38,39],[0,1,2,3,4,5,6,7,8,9,10,11,12,13,14,15,16,17,18,19,20,21,22,23,24,25,26,27,28,29,30,31,32,33,34,35,36,37,38,39,43],[0,1,2,3,4,5,6,7,8,9,10,11,12,13,14,15,16,17,18,19,20,21,22,23,24,25,26,27,28,29,30,31,32,33,34,35,36,37,38,39],[0,1,2,3,4,5,6,7,8,9,10,11,12,13,14,15,16,17,18,19,20,21,22,23,24,25,26,27,28,29,30,31,32,33,34,35,36,37,38,39,45],[0,1,2,3,4,5,6,7,8,9,10,11,12,13,14,15,16,17,18,19,20,21,22,23,24,25,26,27,28,29,30,31,32,33,34,35,36,37,38,39,43,44,45,46],[0,1,2,3,4,5,6,7,8,9,10,11,12,13,14,15,16,17,18,19,20,21,22,23,24,25,26,27,28,29,30,31,32,33,34,35,36,37,38,39,43,44,45,46,47],[0,1,2,3,4,5,6,7,8,9,10,11,12,13,14,15,16,17,18,19,20,21,22,23,24,25,26,27,28,29,30,31,32,33,34,35,36,37,38,39,43,44,45,46,47,48],[0,1,2,3,4,5,6,7,8,9,10,11,12,13,14,15,16,17,18,19,20,21,22,23,24,25,26,27,28,29,30,31,32,33,34,35,36,37,38,39,41,42,43,44,45,46,47,48,49],[0,1,2,3,4,5,6,7,8,9,10,11,12,13,14,15,16,17,18,19,20,21,22,23,24,25,26,27,28,29,30,31,32,33,34,35,36,37,38,39,41,42,43,44,45,46,47,48,49,50],[0,1,2,3,4,5,6,7,8,9,10,11,12,13,14,15,16,17,18,19,20,21,22,23,24,25,26,27,28,29,30,31,32,33,34,35,36,37,38,39,41,42,43,44,45,46,47,48,49,50,51],[0,1,2,3,4,5,6,7,8,9,10,11,12,13,14,15,16,17,18,19,20,21,22,23,24,25,26,27,28,29,30,31,32,33,34,35,36,37,38,39,40,41,42,43,44,45,46,47,48,49,50,51,52],[0,1,2,3,4,5,6,7,8,9,10,11,12,13,14,15,16,17,18,19,20,21,22,23,24,25,26,27,28,29,30,31,32,33,34,35,36,37,38,39,40,41,42,43,44,45,46,47,48,49,50,51,52,53],[0,1,2,3,4,5,6,7,8,9,10,11,12,13,14,15,16,17,18,19,20,21,22,23,24,25,26,27,28,29,30,31,32,33,34,35,36,37,38,39,40,41,42,43,44,45,46,47,48,49,50,51,52,53,54]]) (resL:=[_,_,_,_,_,_,_,_,_,_,_,_,_,_,_,_,_,_,_,_,_,_,_,_,_,_,_,_,_,_,_,_,_,_,_,_,_,_,_,_,_,_,_,_,_,_,_,_,_,_,_,_,_,_,_,_]) (frF:=[(1,.box [.string d.start,.string d.layout,.slice (some ⟨ld,0,some lver⟩) d.aa.length c1,.slice p2 d.aj.length c2,.slice p3 d.follows.length c3,.slice p4 d.ah.length c4,.slice p5 d.boxes.length c5]),(3,.box [.string d.start,.string d.layout,.slice tq1 d.aa.length tr1,.slice tq2 d.aj.length tr2,.slice tq3 d.follows.length tr3,.slice tq4 d.ah.length tr4,.slice tq5 d.boxes.length tr5,i64 (aV d:Int),i64 (eg d:Int),.slice (some ⟨id,0,some av⟩) N1 tr6,.slice (some ⟨jd,0,some jver⟩) N1 tr7,.slice tq8 (aV d) tr8,.slice (some ⟨id9,0,some ver9⟩) tr9 tr9,.slice tqa (aV d) tra,.slice tqb (aV d) trb]),(8,.val (.slice (some ⟨id9,0,some ver9⟩) tr9 tr9)),(9,.val (i64 i)),(10,.box [i64 n1,i64 n2,i64 n3]),(151,.val (.bool false))])
  case hm=>exact mixed
  case hc=>kernel_rfl
  case hb=>rfl
  case hS=>
   repeat (first|exact aQ.nil _|(apply aQ.cons;(·apply zz;simp only[push_cast,env,Nat.reduceEqDiff,reduceIte,Nat.reduceAdd,Nat.reduceMul,Nat.reduceLeDiff,reduceCtorEq,Nat.reduceSub,Int.reduceToNat,dn,r1,r2,r3,r4,r5,hid,y0,y1,y2,y3,y4,y5,y6,hidx,jid,lid,z1,z2]<;>exact rfl);(·rfl)))
   apply aQ.cons;·refine bg (fn:=Tryz.f24) rfl al rfl al al Tryz.func24 kr kr (hF1)
   ·rfl
   repeat (first|exact aQ.nil _|(apply aQ.cons;(·apply zz;simp only[push_cast,env,Nat.reduceEqDiff,reduceIte,Nat.reduceAdd,Nat.reduceMul,Nat.reduceLeDiff,reduceCtorEq,Nat.reduceSub,Int.reduceToNat,dn,r1,r2,r3,r4,r5,hid,y0,y1,y2,y3,y4,y5,y6,hidx,jid,lid,z1,z2]<;>exact rfl);(·rfl)))
   apply aQ.cons;·refine bg (fn:=Tryz.f24) rfl al rfl al al Tryz.func24 kr kr (hF2)
   ·rfl
   repeat (first|exact aQ.nil _|(apply aQ.cons;(·apply zz;simp only[push_cast,env,Nat.reduceEqDiff,reduceIte,Nat.reduceAdd,Nat.reduceMul,Nat.reduceLeDiff,reduceCtorEq,Nat.reduceSub,Int.reduceToNat,dn,r1,r2,r3,r4,r5,hid,y0,y1,y2,y3,y4,y5,y6,hidx,jid,lid,z1,z2]<;>exact rfl);(·rfl)))
  case ht=>rfl
  case hF=>exact zh
  show CW _ _ _ _
  try apply zs
  refine ae rfl ?_
  by_cases hi0:i=0
  ·subst hi0
   have dp:decide ((0:Int)<((0:Nat):Int))=false:=rfl
   have dp0:decide ((0:Int)<0)=false:=rfl
   have w20:IntKind.i64.wrap ((0:Int)+1)=0+1:=by decide
   refine fz dp dp0 ?_
   refine ae rfl ?_
   refine aG w20 ?_
   exact⟨by omega,aM,rfl,trivial⟩
  ·obtain⟨j,rfl⟩:∃ j,i=j+1:=⟨i-1,by omega⟩
   have w22:IntKind.i64.wrap ((j:Int)+1+1)=(j:Int)+1+1:=ay om om
   have dp:decide ((0:Int)<(j:Int)+1)=true:=decide_eq_true om
   have ws:IntKind.i64.wrap ((j:Int)+1-1)=(j:Int):=by rw[Int.add_sub_cancel];exact ay om om
   have hs:=hsrt j om
   rw[← hbe] at hs
   have hgj:=hg9 j om
   generalize (eD d)[j]=a at hs hgj
   have w5:=cz (Nat.lt_of_succ_lt hlt)
   rw[wO,← hn1,← hn2,← hn3] at hs
   refine aG dp ?_
   refine ag rfl ?_
   have x1:decide ((n1:Int)<(a.ef:Int))=false:=decide_eq_false om
   rcases hs with hs|⟨hs,hs|⟨hs2,hs3⟩⟩
   ·have x2:decide ((a.ef:Int)=(n1:Int))=false:=decide_eq_false om
    refine JY ws w5 hid9 hgj x1 x2 ?_
    refine ae rfl ?_
    refine aG w22 ?_
    exact⟨by omega,aM,rfl,trivial⟩
   ·have x2:decide ((a.ef:Int)=(n1:Int))=true:=decide_eq_true om
    have x3:decide ((n2:Int)<(a.jO:Int))=false:=decide_eq_false om
    have x4:decide ((a.jO:Int)=(n2:Int))=false:=decide_eq_false om
    refine OO ws w5 hid9 hgj x1 x2 x3 x4 ?_
    refine ae rfl ?_
    refine aG w22 ?_
    exact⟨by omega,aM,rfl,trivial⟩
   ·have x2:decide ((a.ef:Int)=(n1:Int))=true:=decide_eq_true om
    have x3:decide ((n2:Int)<(a.jO:Int))=false:=decide_eq_false om
    have x4:decide ((a.jO:Int)=(n2:Int))=true:=decide_eq_true om
    have x5:decide ((n3:Int)≤(a.nO:Int))=false:=decide_eq_false om
    refine MO ws w5 hid9 hgj x1 x2 x3 x4 x5 ?_
    refine ae rfl ?_
    refine aG w22 ?_
    exact⟨by omega,aM,rfl,trivial⟩
 ·have q3:=aT hlt
  obtain rfl:i=N2:=by omega
  refine aG q3 ?_
  refine ae rfl ?_
  refine aB ?_
  exact⟨rfl,rfl,aM⟩
rintro e s' ⟨rfl,hh,hf⟩
show CW _ _ _ _
refine aA _ hf ?_
rw[hh]
clear hf hh s'
refine aC ?_
refine zj Tryz.func13 ?_
refine o3.mono ?_
rintro _ ha ⟨rfl,ea⟩
obtain rfl:=ea.symm
refine aC ?_
refine ak ?_
exact⟨_,al,rfl⟩}
end
end Go.Proofs.YtmdmimkbpikmoaaGreat
