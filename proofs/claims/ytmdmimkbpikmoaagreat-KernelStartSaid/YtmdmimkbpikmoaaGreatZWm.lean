/- Several texts, one behind the other. -/
import Derived.Test.YtmdmimkbpikmoaaGreatZTc
import Derived.Test.YtmdmimkbpikmoaaGreatZG5
import Derived.Test.YtmdmimkbpikmoaaGreatZV4
import Derived.Test.YtmdmimkbpikmoaaGreatZW5
set_option linter.unusedSimpArgs false
set_option linter.unusedVariables false
set_option maxHeartbeats 8000000
namespace Go.Proofs.YtmdmimkbpikmoaaGreat
set_option maxRecDepth 20000
open Go.RowKit Am Ty
theorem Hy {a b c:Code} {s:St} {Q:AX→St→Prop} {I:St→Prop} {fr fr2:Am.Fr} {h:ai} {P:ai→Prop} (ha:SW env a s (fun e s'=>e = .normal∧I s')) (hb:∀ s',I s'→SW env b s' (fun e s''=>e = .normal∧bG fr s''.fr∧s''.h=h)) (hc:CW env c ⟨fr,[],h⟩ (fun e s'=>e = .normal∧bG fr2 s'.fr∧P s'.h)) (k:∀ h2,P h2→Q .normal ⟨fr2,[],h2⟩):CW env (.seq a (.seq b c)) s Q:=by{
unfold CW at hc
obtain⟨e,s1,hev,rfl,hf,hP⟩:=hc
refine EV (e:=.normal) fr2 s1.h ?_ (k _ hP)
refine rN ha (fun e s' ⟨h1,_⟩ h2=>absurd h1 h2) fun s' ⟨_,hI⟩=>?_
refine rN (hb s' hI) (fun e s' ⟨h1,_⟩ h2=>absurd h1 h2) fun s'' ⟨_,hf2,hh⟩=>?_
refine gY fr hf2 ?_
rw[hh]
unfold SW
exact .Mg hev ⟨rfl,hf,rfl⟩}
def eu (F:List (aS×Int)) (seen:List Nat):List aS:=seen.filterMap fun i=>(F[i]?).map (·.1)
theorem zY {F:List (aS×Int)} {seen:List Nat} {i:Nat} {p:aS×Int} (h:F[i]? = some p):eu F (seen++[i])=eu F seen++[p.1]:=by{
unfold eu
rw[List.filterMap_append]
congr 1
simp [h]}
theorem uk {F:List (aS×Int)}:∀ {seen:List Nat},(∀ i∈seen,i<F.length)→(eu F seen).length=seen.length
 | [],_=>rfl
 | i :: s,h=>by
   have ih:=uk (F:=F) (seen:=s) fun j hj=>h j (List.mem_cons_of_mem _ hj)
   unfold eu at ih ⊢
   have hi:=h i (List.mem_cons_self)
   rw[List.filterMap_cons,List.getElem?_eq_getElem hi]
   simp only[Option.map_some,List.length_cons,ih]
theorem yf (F:List (aS×Int)):eu F (List.range F.length)=F.map (·.1):=by{
unfold eu
refine List.ext_getElem? fun j=>?_
have key:∀ n,n≤F.length→(List.range n).filterMap (fun i=>(F[i]?).map (·.1))=(F.take n).map (·.1):=by
 intro n
 induction n with
 | zero=>intro _;rfl
 | succ n ih=>
   intro hn
   rw[List.range_succ,List.filterMap_append,ih om,List.take_succ_eq_append_getElem om,List.map_append]
   congr 1
   simp [show n<F.length by omega]
rw[key _ (Nat.le_refl _),List.take_length]}
theorem Ap {F:List (aS×Int)} {seen:List Nat} (hn:seen.Nodup) (hl:∀ i∈seen,i<F.length) (ha:∀ i,i<F.length→i∈seen):(eu F seen).Perm (F.map (·.1)):=by{
rw[← yf F]
unfold eu
refine List.Perm.filterMap _ ((List.perm_ext_iff_of_nodup hn List.nodup_range).2 fun i=>?_)
rw[List.mem_range]
exact⟨hl i,ha i⟩}
theorem E5 {os:List gI} {p a q:Nat} (hos:os.length≤4096) (hs:∀ o∈os,o.an.length≤1000000):∀ x∈tG os p a q,Gc x:=by{
intro x hx
unfold tG at hx
rw[List.mem_flatMap] at hx
obtain⟨r,hr,hx⟩:=hx
have h1:=lJ hr
unfold o3 at hx
rw[List.getElem?_eq_getElem h1] at hx
simp only[List.mem_flatMap,List.mem_range] at hx
obtain⟨j,hj,hx⟩:=hx
have h2:=hs _ (List.getElem_mem h1)
unfold qu at hx
split at hx
·rw[List.mem_map] at hx
 obtain⟨k,hk,rfl⟩:=hx
 have h3:=lJ hk
 exact⟨by simp only;omega,by simp only;omega,by simp only;omega⟩
·simp at hx}
theorem E6 {d:bV} {os:List gI} (hos:os.length≤4096) (hs:∀ o∈os,o.an.length≤1000000):∀ x∈gJ d os,Gc x:=by{
intro x hx
unfold gJ gS at hx
simp only[List.mem_flatMap] at hx
obtain⟨l,_,p,_,q,_,hx⟩:=hx
unfold jV at hx
split at hx
·rw[List.mem_flatMap] at hx
 obtain⟨y,_,hx⟩:=hx
 unfold wx at hx
 split at hx
 ·split at hx
  ·exact E5 hos hs x hx
  ·simp at hx
 ·simp at hx
·simp at hx}
theorem uR:∀ {xs l:List aS},(fm l xs).length≤l.length+xs.length
 | [],_=>Nat.le_refl _
 | x :: xs,l=>by
   have ih:=uR (xs:=xs) (l:=tt l x)
   have:(tt l x).length≤l.length+1:=by unfold tt;split<;>simp
   unfold fm at ih ⊢
   rw[List.foldl_cons,List.length_cons]
   omega
def j4 (d:bV) (l:List dU):List bd:=l.foldl (fun s x=>s.set (gE d x.sort) ((s.getD (gE d x.sort) vi).union x.set)) (List.replicate (aN d) vi)
def rT (d:bV) (l:List dh):List Int:=l.foldl (fun s x=>s.set (gE d x.sort) (gE d x.jB:Int)) (List.replicate (aN d) (-1))
theorem oN {d:bV} {l:List dU} {k:Nat} (hk:k<l.length):j4 d (l.take (k+1))=(j4 d (l.take k)).set (gE d l[k].sort) (((j4 d (l.take k)).getD (gE d l[k].sort) vi).union l[k].set):=by{
unfold j4
rw[List.take_succ_eq_append_getElem hk,List.foldl_append]
rfl}
theorem uz {d:bV} {l:List dh} {k:Nat} (hk:k<l.length):rT d (l.take (k+1))=(rT d (l.take k)).set (gE d l[k].sort) (gE d l[k].jB:Int):=by{
unfold rT
rw[List.take_succ_eq_append_getElem hk,List.foldl_append]
rfl}
theorem FD {d:bV}:∀ k (l:List dU),(j4 d (l.take k)).length=aN d:=by{
intro k l
induction k with
| zero=>unfold j4;rw[List.take_zero];exact List.length_replicate
| succ k ih=>
  by_cases h:k<l.length
  ·rw[oN h,List.length_set];exact ih
  ·rw[List.take_of_length_le om]
   rw[List.take_of_length_le om] at ih
   exact ih}
theorem Dv {d:bV}:∀ k (l:List dh),(rT d (l.take k)).length=aN d:=by{
intro k l
induction k with
| zero=>unfold rT;rw[List.take_zero];exact List.length_replicate
| succ k ih=>
  by_cases h:k<l.length
  ·rw[uz h,List.length_set];exact ih
  ·rw[List.take_of_length_le om]
   rw[List.take_of_length_le om] at ih
   exact ih}
theorem Au:dp vi:=⟨⟨by decide,by decide⟩,⟨by decide,by decide⟩,⟨by decide,by decide⟩,⟨by decide,by decide⟩⟩
theorem CO {s t:bd} (h1:dp s) (h2:dp t):dp (s.union t):=⟨kB h1.a h2.a,kB h1.b h2.b,kB h1.c h2.c,kB h1.d h2.d⟩
theorem Iz {d:bV} {l:List dU} (h:∀ x∈l,dp x.set):∀ k,∀ s∈j4 d (l.take k),dp s:=by{
intro k
induction k with
| zero=>
  intro s hs
  unfold j4 at hs
  rw[List.take_zero] at hs
  rw[List.eq_of_mem_replicate hs]
  exact Au
| succ k ih=>
  by_cases hk:k<l.length
  ·intro s hs
   rw[oN hk] at hs
   rcases List.mem_or_eq_of_mem_set hs with hs|rfl
   ·exact ih s hs
   ·refine CO ?_ (h _ (List.getElem_mem hk))
    rw[List.getD_eq_getElem?_getD]
    cases e:(j4 d (l.take k))[gE d l[k].sort]? with
    | none=>exact Au
    | some y=>exact ih y (List.mem_of_getElem? e)
  ·rw[List.take_of_length_le om]
   rw[List.take_of_length_le om] at ih
   exact ih}
structure FS (hD:ai) (im nF nR:Nat) (x:ai) (mm:MK) (SF:List bd) (SR:List Int):Prop where
 o:x[im]? = some (.aq mm.cells 0 true 94)
 F:x[nF]? = some (.aq (SF.flatMap bd.cells) 0 true 54)
 R:x[nR]? = some (.aq (SR.map i64) 0 true 3)
 k:∀ (j:Nat) (o:ax),j<hD.length→j≠im→hD[j]? = some o→x[j]? = some o
 l:hD.length≤x.length
theorem FS.T9 {hD x:ai} {im nF nR:Nat} {mm:MK} {SF:List bd} {SR:List Int} (S:FS hD im nF nR x mm SF SR) (h1:nF≠im) (h2:nF≠nR) (h3:hD.length≤nF) (SF':List bd):FS hD im nF nR (x.set nF (.aq (SF'.flatMap bd.cells) 0 true 54)) mm SF' SR:=
 ⟨by rw[aE h1];exact S.o,aw S.F,by rw[aE h2];exact S.R,fun j o hj hn h=>by rw[aE om];exact S.k j o hj hn h,by rw[List.length_set];exact S.l⟩
theorem FS.Qe {hD x:ai} {im nF nR:Nat} {mm:MK} {SF:List bd} {SR:List Int} (S:FS hD im nF nR x mm SF SR) (h1:nR≠im) (h2:nF≠nR) (h3:hD.length≤nR) (SR':List Int):FS hD im nF nR (x.set nR (.aq (SR'.map i64) 0 true 3)) mm SF SR':=
 ⟨by rw[aE h1];exact S.o,by rw[aE h2.symm];exact S.F,aw S.R,fun j o hj hn h=>by rw[aE om];exact S.k j o hj hn h,by rw[List.length_set];exact S.l⟩
theorem Dn {N k:Nat} (hk:k<N):(List.replicate k (-1:Int)++List.replicate (N-k) 0).set k (-1)=List.replicate (k+1) (-1)++List.replicate (N-(k+1)) 0:=by
 rw[List.set_append_right _ _ (by rw[List.length_replicate];exact Nat.le_refl _),List.length_replicate,Nat.sub_self,show N-k=(N-(k+1))+1 by omega,List.replicate_succ,List.set_cons_zero,List.replicate_succ',List.append_assoc]
 rfl
theorem F2 {hk hC:ai} {im:Nat} {m:MK} {B B':List aS} (h:hk.length≤hC.length) (h0:B.length=B'.length):aL hk (lK hC im m B B') (mR hC.length B) B.length (BC B') 70:=by{
unfold mR
split
·rename_i e
 rw[e]
 have:B'=[]:=List.length_eq_zero_iff.1 om
 rw[this]
 exact aL.nil
·rename_i k e
 rw[e]
 refine .inr ⟨hC.length,k,h,rfl,?_⟩
 unfold lK BH
 rw[e,List.getElem?_append_right (by rw[List.length_set];exact Nat.le_refl _),List.length_set,Nat.sub_self]
 rfl}
structure Uw (h0 hk h':ai) (im:Nat) (m:MK) (d:bV) (os:List gI) (vb vF vR:Value):Prop where
 p:h0 <+: h'
 l:hk.length≤h'.length
 o:h'[im]? = some (.aq (MK.cells { m with vb:=vb,vF:=vF,vR:=vR }) 0 true 94)
 k:∀ (j:Nat) (o:ax),j<hk.length→j≠im→hk[j]? = some o→h'[j]? = some o
 b:aL hk h' vb (fm [] (gJ d os)).length (BC (g7 (fm [] (gJ d os)))) 70
 F:aL hk h' vF (aN d) ((j4 d d.follows).flatMap bd.cells) 54
 R:aL hk h' vR (aN d) ((rT d d.ah).map i64) 3
section
variable {h0 hk h1 x hA:ai} {im it ip:Nat} {m:MK} {d:bV} {os:List gI} {nm:List ByteArray} {sE:List (ByteArray×Int)}
theorem zV (K:KD h0 hk im m d os nm) (hsm:hk[m.is]? = some (.map (fR sE))) (hsg:∀ x∈aF d.aa,gL (fR sE) (.string x)=some (i64 (gE d x:Int))) (hvb:m.vb=aH) (hnts:m.fA=(aN d:Int)) (hN:aN d≤5000) (hok:uW d) (hos:os.length≤4096) (hch:∀ c∈d.aj,(dC c).length≤1000∧c.length≤1000) (hcn:d.aj.length≤1000) (hsy:∀ p∈d.aa,p.an.length≤1000) (hosy:∀ o∈os,o.an.length≤1000000) (hbn:(gJ d os).length≤1000000000) (hfS:∀ x∈d.follows,x.sort∈aF d.aa∧dp x.set) (hrS:∀ x∈d.ah,x.sort∈aF d.aa∧x.jB∈aF d.aa) (hfl:d.follows.length≤1000) (hrl:d.ah.length≤1000) (hsn:∀ x∈aF d.aa,gE d x<aN d) : FW env 35 [.pointer (some ⟨im,0,some 0⟩)] hk fun r h'=>r = .tuple #[]∧∃ vb vF vR,Uw h0 hk h' im m d os vb vF vR:=by{
obtain⟨pC,cC,hvC⟩:=b9.form K.D.aj
have hl0:h0.length≤hk.length:=K.p.length_le
refine fe Tryz.func35 ?_;simp only[push_cast]
refine zu ?_
iterate 5 (refine zx oj ?_)
refine zu ?_
refine km (kt:=70) (et:=3) al rfl kr ?_
dsimp only[St.be,St.put]
have hpA:hk <+: hk++[ax.map []]:=aJ
have hmA:(hk++[ax.map []])[hk.length]? = some (.map (bE [])):=aK
have hiA:hk.length<(hk++[ax.map []]).length:=by simp
generalize (hk++[ax.map []])=hA at hpA hmA hiA ⊢
have hitk:hk.length≤hk.length:=Nat.le_refl _
generalize hit:hk.length=it at hmA hiA ⊢
have hpk:∀ {X:ax},hk <+: hA.set it X:=fun {X}=>a8 hpA om
have KA:∀ {X:List (Value×Value)},KD h0 (hA.set it (.map X)) im m d os nm:=fun {X}=>K.xN (K.p.trans hpk) (pd.pre hpk)
have hobA:=af hpA K.o
simp only[MK.cells,hvC] at hobA
refine aG hobA ?_
refine CW.mono (Q:=fun e s'=>e = .exit 0∧s'.h=hA.set it (.map (bE (eY [] (gJ d os))))∧bG [(0,.val (.pointer (some ⟨im,0,some 0⟩))),(2,.val (.pointer (some ⟨im,12,some 0⟩))),(3,.val (.map (some it)))] s'.fr) ?_ ?_
·refine dx d.aj.length (fun k=>[(0,.val (.pointer (some ⟨im,0,some 0⟩))),(2,.val (.pointer (some ⟨im,12,some 0⟩))),(3,.val (.map (some it))),(23,.val (.slice pC d.aj.length cC)),(24,.val (i64 d.aj.length)),(25,.val (i64 k))]) (fun k=>hA.set it (.map (bE (eY [] ((d.aj.take k).flatMap (gS d os)))))) (fun _=>True) aM (by rw[List.take_zero];exact (fQ hmA).symm) trivial ?_
 intro k hkn _
 by_cases hlt:k<d.aj.length
 ·obtain⟨id,av,own,c',cells,u,hv2,hid0,hrd,hu⟩:=b9.at (k:=1) (fun _ _=>rfl) K.D.aj hlt
  rw[hvC] at hv2
  cases hv2
  have hu:cj h0 u d.aj[k]:=hu
  have hmem:=List.getElem_mem hlt
  have w1:=cD hlt
  have w2:=inc hlt om
  have q3:=aW hlt
  have htk:(d.aj.take (k+1)).flatMap (gS d os)=(d.aj.take k).flatMap (gS d os)++gS d os d.aj[k]:=by
   rw[List.take_succ_eq_append_getElem hlt,List.flatMap_append,List.flatMap_singleton]
  have hb:=Ip (it:=it) (es:=eY [] ((d.aj.take k).flatMap (gS d os))) KA (List.getElem?_set_self hiA) om hu (hok _ hmem) hos (hch _ hmem).1 (hch _ hmem).2 hsy
  rw[List.set_set,← o0,← htk] at hb
  obtain⟨pv,cv,rfl⟩:=b9.form hu
  have hid:=af (K.p.trans (hpk (X:=.map (bE (eY [] ((d.aj.take k).flatMap (gS d os))))))) hid0
  have hr0:=fy hrd om
  simp only[List.getElem?_cons_zero,Nat.mul_one] at hr0
  refine aG q3 ?_
  refine ag rfl ?_
  refine fV w1 hid Nat.mul_one hr0 ?_
  refine zj Tryz.func102 ?_
  refine hb.mono ?_
  rintro _ h2 ⟨rfl,rfl⟩
  refine aG w2 ?_
  exact⟨hlt,aM,rfl,trivial⟩
 ·have q3:=aU hlt
  obtain rfl:k=d.aj.length:=by omega
  rw[List.take_length]
  refine aG q3 ?_
  refine ae rfl ?_
  refine aB ?_
  exact⟨rfl,rfl,aM⟩
rintro e s' ⟨rfl,hh,hf⟩
show CW _ _ _ _
refine aA _ hf ?_
rw[hh]
clear hf hh s'
have hF:=ux (gJ d os) []
rw[List.map_nil] at hF
have hFl:(eY [] (gJ d os)).length≤1000000000:=by
 have h1:=congrArg List.length hF
 rw[List.length_map] at h1
 have h2:=uR (xs:=gJ d os) (l:=[])
 simp only[List.length_nil] at h2
 omega
have hFi:∀ p∈eY [] (gJ d os),Gc p.1:=fun p hp=>by
 have h1:p.1∈(eY [] (gJ d os)).map (·.1):=List.mem_map_of_mem hp
 rw[hF,tM] at h1
 exact E6 hos hosy _ (h1.resolve_left (by simp))
generalize eY [] (gJ d os)=F at hFl hFi hF ⊢
have hpC:hk <+: hA.set it (.map (bE F)):=hpk
have hmC:(hA.set it (.map (bE F)))[it]? = some (.map (bE F)):=List.getElem?_set_self hiA
have hiC:it<(hA.set it (.map (bE F))).length:=by rw[List.length_set];exact hiA
have KC:KD h0 (hA.set it (.map (bE F))) im m d os nm:=KA
clear KA hpk hobA hmA
generalize hA.set it (.map (bE F))=hC at hpC hmC hiC KC ⊢
have hoC:=KC.o
have himC:im<hC.length:=(List.getElem?_eq_some_iff.1 hoC).1
have hne:it≠im:=by
 intro e
 rw[e,hoC] at hmC
 cases hmC
have hlF:(bE F).length=F.length:=by unfold bE;rw[List.length_map]
obtain⟨B,hB⟩:∃ B,B=F.map (·.1):=⟨_,rfl⟩
have hBl:B.length=F.length:=by rw[hB,List.length_map]
rw[← hB] at hF
refine Hy (I:=fun s'=>∃ L:List aS,L.Perm B∧s'.h=lK hC im m L L∧bG [(0,.val (.pointer (some ⟨im,0,some 0⟩))),(2,.val (.pointer (some ⟨im,12,some 0⟩)))] s'.fr) (fr:=[(0,.val (.pointer (some ⟨im,0,some 0⟩))),(2,.val (.pointer (some ⟨im,12,some 0⟩)))]) (fr2:=[]) (h:=lK hC im m B (g7 B)) (P:=fun h'=>∃ vb vF vR,Uw h0 hk h' im m d os vb vF vR) ?_ ?_ ?_ ?_
·refine rN (R:=fun e s'=>e = .normal∧s'.h=hC∧bG [(0,.val (.pointer (some ⟨im,0,some 0⟩))),(2,.val (.pointer (some ⟨im,12,some 0⟩))),(35,.mP it F.length [])] s'.fr) ?_ (fun e s' ⟨h1,_⟩ h2=>absurd h1 h2) ?_
 ·refine SW.of ?_
  apply zr
  iterate 1 (refine zx oj ?_)
  refine FU (kt:=70) (et:=3) (es:=bE F) al rfl rfl kr al hmC ?_
  rw[hlF]
  apply zn
  exact⟨rfl,rfl,aM⟩
 rintro s' ⟨_,hh,hf⟩
 refine gY _ hf ?_
 rw[hh]
 clear hf hh s'
 refine wS ?_
 refine AH (fun n s=>∃ seen:List Nat,n+seen.length=F.length∧seen.Nodup∧(∀ i∈seen,i<F.length)∧s.h=lK hC im m (eu F seen) (eu F seen)∧bG [(0,.val (.pointer (some ⟨im,0,some 0⟩))),(2,.val (.pointer (some ⟨im,12,some 0⟩))),(35,.mP it F.length seen)] s.fr) F.length ⟨[],by simp,.nil,by simp,(Ja hoC hvb).symm,aM⟩ ?_
 rintro n s ⟨seen,hms,hnd,hlt6,hh,hf⟩
 refine gY _ hf ?_
 rw[hh]
 clear hf hh s
 have hmL:(lK hC im m (eu F seen) (eu F seen))[it]? = some (.map (bE F)):=tV hne hmC
 have hpl:=uk hlt6
 refine rN (R:=fun e s'=>e = .normal∧s'.h=lK hC im m (eu F seen) (eu F seen)∧(((∀ i,i<F.length→i∈seen)∧bG [(0,.val (.pointer (some ⟨im,0,some 0⟩))),(2,.val (.pointer (some ⟨im,12,some 0⟩))),(37,.val (.bool false))] s'.fr)∨∃ i p,F[i]? = some p∧i∉seen∧bG [(0,.val (.pointer (some ⟨im,0,some 0⟩))),(2,.val (.pointer (some ⟨im,12,some 0⟩))),(35,.mP it F.length (seen++[i])),(37,.val (.bool true))] s'.fr)) ?_ ?_ ?_
 ·refine Bl (es:=bE F) rfl rfl rfl rfl (by decide) rfl hmL hlF (Ir F) (fun hA=>?_) (fun i kk v hkv hi=>?_)
  ·refine aC ?_
   exact⟨rfl,rfl,.inl ⟨hA,aM⟩⟩
  ·rw[Jz] at hkv
   obtain⟨p,hp,e1,e2⟩:=hkv
   refine aC ?_
   exact⟨rfl,rfl,.inr ⟨i,p,hp,hi,aM⟩⟩
 ·rintro e s' ⟨rfl,_⟩ he
  exact absurd rfl he
 ·rintro s' ⟨_,hh,⟨hA,hf⟩ | ⟨i,p,hp,hi,hf⟩⟩
  ·refine gY _ hf ?_
   rw[hh]
   clear hf hh s'
   refine SW.of ?_
   refine zu ?_
   refine ae rfl ?_
   refine aB ?_
   refine .inr ⟨by simp,?_⟩
   refine⟨rfl,eu F seen,?_,rfl,aM⟩
   rw[hB]
   exact Ap hnd hlt6 hA
  ·refine gY _ hf ?_
   rw[hh]
   clear hf hh s'
   refine SW.of ?_
   refine zu ?_
   refine ag rfl ?_
   refine cA ?_
   show CW _ _ _ _
   have hpe:(bE F)[i]? = some (p.1.val,i64 p.2):=Jz.2 ⟨p,hp,rfl,rfl⟩
   have hgl:(seen++[i]).getLast? = some i:=by simp
   have hi6:=(List.getElem?_eq_some_iff.1 hp).1
   have hlt7:∀ q∈seen++[i],q<F.length:=fun q hq=>by
    rcases List.mem_append.1 hq with hq|hq
    ·exact hlt6 q hq
    ·rw[List.mem_singleton.1 hq];exact hi6
   have hlen:=o7 (ia hnd hi) hlt7
   rw[List.length_append,List.length_singleton] at hlen
   obtain⟨n',rfl⟩:∃ n',n=n'+1:=⟨n-1,by omega⟩
   obtain⟨h',hone,hob',hset⟩:=Eh (hC:=hC) (im:=im) (m:=m) (l:=eu F seen) (b:=p.1) himC om
   have hobL:=Ah (hC:=hC) (im:=im) (m:=m) (l:=eu F seen) (l':=eu F seen) himC
   have hst:=zY (seen:=seen) hp
   obtain⟨pL,cL,hvL⟩:=sH (l:=eu F seen) (n:=hC.length)
   rw[hvL] at hobL hob' hone
   rw[← hst] at hone hset
   simp only[MK.cells] at hobL
   have hob2:=hob'
   simp only[MK.cells] at hob2
   have hvc:dQ 1 (mR hC.length (eu F (seen++[i])))=some [mR hC.length (eu F (seen++[i]))]:=by
    obtain⟨a,b,e⟩:=sH (l:=eu F (seen++[i])) (n:=hC.length)
    rw[e]
    rfl
   generalize lK hC im m (eu F seen) (eu F seen)=hL at hmL hone hobL ⊢
   refine fV hmL hlF hgl hpe ?_
   refine aA [(0,.val (.pointer (some ⟨im,0,some 0⟩))),(2,.val (.pointer (some ⟨im,12,some 0⟩))),(6,.box [i64 p.1.gD,i64 p.1.mO,i64 p.1.ul]),(35,.mP it F.length (seen++[i]))] aM ?_
   show CW _ _ ⟨_,[],hL⟩ _
   try apply zs
   apply br (L:=[[],[],[1],[1,2],[1,2,3],[],[5],[1,2,3,4,5,6],[0],[0,8],[0,1,2,3,4,5,6,7,8,9]]) (act:=[7,10]) (hs:=[h',h'.set im (.aq (MK.cells { m with vb:=mR hC.length (eu F (seen++[i])) }) 0 true 94)]) (resL:=[_,_,_,_,_,_,_,_,_,_,_]) (frF:=[(0,.val (.pointer (some ⟨im,0,some 0⟩))),(2,.val (.pointer (some ⟨im,12,some 0⟩))),(35,.mP it F.length (seen++[i]))])
   case hm=>exact mixed
   case hc=>kernel_rfl
   case ha=>rfl
   case hb=>rfl
   case hS=>
    refine HV hobL hob2 ?_
    apply az.cons
    ·rfl
    ·refine⟨?_,trivial⟩
     exact hone _ _ _ _ _ rfl al rfl al al
    ·rfl
    refine HV hobL hob2 ?_
    apply az.cons
    ·rfl
    ·refine⟨?_,trivial⟩
     exact One.jE (r:=.sl .dJ) (cells':=MK.cells { m with vb:=mR hC.length (eu F (seen++[i])) }) al rfl al al hob' al hvc rfl rfl
    ·rfl
    exact az.nil _
   case ht=>rfl
   case hF=>exact zh
   refine .inl ⟨rfl,n',rfl,seen++[i],by rw[List.length_append,List.length_singleton];omega,ia hnd hi,hlt7,hset,aM⟩
·rintro s' ⟨L,hLp,hh,hf⟩
 refine gY _ hf ?_
 rw[hh]
 clear hf hh s'
 have hLl:=hLp.length_eq
 have hs:=Hn hLp
 have hobL:=Ah (hC:=hC) (im:=im) (m:=m) (l:=L) (l':=L) himC
 refine SW.of ?_
 cases L with
 | nil=>
   have hB0:B=[]:=List.length_eq_zero_iff.1 hLl.symm
   have hv0:mR hC.length []=aH:=rfl
   have hh0:lK hC im m B (g7 B)=lK hC im m [] []:=by
    rw[hB0]
    show lK hC im m [] (List.mergeSort [] _)=_
    rw[List.mergeSort_nil]
   rw[hh0]
   rw[hv0] at hobL
   simp only[MK.cells] at hobL
   generalize lK hC im m [] []=hL at hobL ⊢
   refine aG hobL ?_
   refine zj Tryz.func103 ?_
   refine FY.mono ?_
   rintro _ h2 ⟨rfl,e2⟩
   obtain rfl:=e2.symm
   refine aC ?_
   exact⟨rfl,aM,rfl⟩
 | cons a r=>
   have hv0:mR hC.length (a :: r) = .slice (some ⟨hC.length,0,some r.length⟩) (r.length+1) (r.length+1):=rfl
   have hl1:(hC.set im (.aq (MK.cells { m with vb:=mR hC.length (a :: r) }) 0 true 94)).length=hC.length:=List.length_set
   have hgL:(lK hC im m (a :: r) (a :: r))[hC.length]? = some (.aq (BC (a :: r)) r.length true 70):=by
    unfold lK
    rw[List.getElem?_append_right (by rw[hl1];exact Nat.le_refl _),hl1,Nat.sub_self]
    rfl
   have hiB:∀ x∈a :: r,Gc x:=fun x hx=>by
    have:=hLp.mem_iff.1 hx
    rw[hB,List.mem_map] at this
    obtain⟨p,hp,rfl⟩:=this
    exact hFi p hp
   have hso:=D8 (c:=r.length+1) hgL om hiB
   have hfin:(lK hC im m (a :: r) (a :: r)).set hC.length (.aq (BC (g7 (a :: r))) r.length true 70)=lK hC im m B (g7 B):=by
    rw[hs]
    unfold lK
    rw[List.set_append_right _ _ (by rw[hl1];exact Nat.le_refl _),hl1,Nat.sub_self,Na (l':=B) hLl,← Gj (l:=a :: r) (x:=g7 B) hLl]
    rfl
   rw[hfin] at hso
   rw[hv0] at hobL
   simp only[MK.cells] at hobL
   generalize lK hC im m (a :: r) (a :: r)=hL at hobL hso ⊢
   simp only[List.length_cons] at hso
   refine aG hobL ?_
   refine zj Tryz.func103 ?_
   refine hso.mono ?_
   rintro _ h2 ⟨rfl,rfl⟩
   refine aC ?_
   exact⟨rfl,aM,rfl⟩
·have hDo:=Ah (m:=m) (l:=B) (l':=g7 B) himC
 have hDk:∀ (j:Nat) (o:ax),j≠im→hC[j]? = some o→(lK hC im m B (g7 B))[j]? = some o:=fun j o h1 h2=>tV h1 h2
 have hDl:hC.length≤(lK hC im m B (g7 B)).length:=by
  unfold lK
  rw[List.length_append,List.length_set]
  exact Nat.le_add_right _ _
 have hDp:h0 <+: lK hC im m B (g7 B):=(a8 KC.p K.a).trans (List.prefix_append _ _)
 have hDb:aL hk (lK hC im m B (g7 B)) (mR hC.length B) B.length (BC (g7 B)) 70:=F2 hpC.length_le (List.length_mergeSort B).symm
 obtain⟨pB,cB,hvB⟩:=sH (l:=B) (n:=hC.length)
 rw[hvB] at hDo hDb
 generalize lK hC im m B (g7 B)=hD at hDo hDk hDl hDp hDb ⊢
 have himD:im<hD.length:=by omega
 have hDo':=hDo
 simp only[MK.cells,hnts] at hDo'
 refine zu ?_
 iterate 7 (refine zx (RW hDo') ?_)
 refine Dz (N:=aN d) al rfl al rfl om ?_
 dsimp only[St.be,St.put]
 have hx1:(hD++[ax.aq ((List.replicate (aN d) (⟨0,0,0,0⟩:bd)).flatMap bd.cells) 0 true 54])[im]? = some (.aq (MK.cells { m with vb:=(.slice pB B.length cB) }) 0 true 94):=bB hDo
 have hx1':=hx1
 simp only[MK.cells,hnts] at hx1'
 have hF1:(hD++[ax.aq ((List.replicate (aN d) (⟨0,0,0,0⟩:bd)).flatMap bd.cells) 0 true 54])[hD.length]? = some (.aq ((List.replicate (aN d) (⟨0,0,0,0⟩:bd)).flatMap bd.cells) 0 true 54):=aK
 have hp1:hD <+: hD++[ax.aq ((List.replicate (aN d) (⟨0,0,0,0⟩:bd)).flatMap bd.cells) 0 true 54]:=aJ
 have hl1:(hD++[ax.aq ((List.replicate (aN d) (⟨0,0,0,0⟩:bd)).flatMap bd.cells) 0 true 54]).length=hD.length+1:=by simp
 generalize (hD++[ax.aq ((List.replicate (aN d) (⟨0,0,0,0⟩:bd)).flatMap bd.cells) 0 true 54])=h1 at hx1 hx1' hF1 hp1 hl1 ⊢
 obtain⟨nF,hnF⟩:∃ nF,nF=hD.length:=⟨_,rfl⟩
 rw[← hnF] at hF1
 rw[← hnF]
 iterate 2 (refine zx oj ?_)
 refine bY (v:=(.slice (some ⟨nF,0,some 0⟩) (aN d) (aN d))) (vs:=[(.slice (some ⟨nF,0,some 0⟩) (aN d) (aN d))]) (cells':=MK.cells { m with vb:=(.slice pB B.length cB),vF:=(.slice (some ⟨nF,0,some 0⟩) (aN d) (aN d)) }) al rfl rfl rfl al hx1 al rfl rfl ?_
 dsimp only
 have hx2:(h1.set im (.aq (MK.cells { m with vb:=(.slice pB B.length cB),vF:=(.slice (some ⟨nF,0,some 0⟩) (aN d) (aN d)) }) 0 true 94))[im]? = some (.aq (MK.cells { m with vb:=(.slice pB B.length cB),vF:=(.slice (some ⟨nF,0,some 0⟩) (aN d) (aN d)) }) 0 true 94):=aw hx1
 have hF2:(h1.set im (.aq (MK.cells { m with vb:=(.slice pB B.length cB),vF:=(.slice (some ⟨nF,0,some 0⟩) (aN d) (aN d)) }) 0 true 94))[nF]? = some (.aq ((List.replicate (aN d) (⟨0,0,0,0⟩:bd)).flatMap bd.cells) 0 true 54):=by rw[aE om];exact hF1
 have hk2:∀ (j:Nat) (o:ax),j≠im→hD[j]? = some o→(h1.set im (.aq (MK.cells { m with vb:=(.slice pB B.length cB),vF:=(.slice (some ⟨nF,0,some 0⟩) (aN d) (aN d)) }) 0 true 94))[j]? = some o:=fun j o hj h=>by rw[aE hj.symm];exact af hp1 h
 have hl2:(h1.set im (.aq (MK.cells { m with vb:=(.slice pB B.length cB),vF:=(.slice (some ⟨nF,0,some 0⟩) (aN d) (aN d)) }) 0 true 94)).length=hD.length+1:=by rw[List.length_set];exact hl1
 generalize h1.set im (.aq (MK.cells { m with vb:=(.slice pB B.length cB),vF:=(.slice (some ⟨nF,0,some 0⟩) (aN d) (aN d)) }) 0 true 94)=h2 at hx2 hF2 hk2 hl2 ⊢
 have hx2':=hx2
 simp only[MK.cells,hnts] at hx2'
 clear hx1 hx1' hF1 hp1 hl1
 apply zn
 show CW _ _ ⟨_,[],h2⟩ _
 refine zu ?_
 iterate 7 (refine zx (RW hx2') ?_)
 refine FJ (N:=aN d) al rfl al rfl om ?_
 dsimp only[St.be,St.put]
 have hx3:(h2++[ax.aq ((List.replicate (aN d) (0:Int)).map i64) 0 true 3])[im]? = some (.aq (MK.cells { m with vb:=(.slice pB B.length cB),vF:=(.slice (some ⟨nF,0,some 0⟩) (aN d) (aN d)) }) 0 true 94):=bB hx2
 have hx3':=hx3
 simp only[MK.cells,hnts] at hx3'
 have hF3:(h2++[ax.aq ((List.replicate (aN d) (0:Int)).map i64) 0 true 3])[nF]? = some (.aq ((List.replicate (aN d) (⟨0,0,0,0⟩:bd)).flatMap bd.cells) 0 true 54):=bB hF2
 have hR3:(h2++[ax.aq ((List.replicate (aN d) (0:Int)).map i64) 0 true 3])[h2.length]? = some (.aq ((List.replicate (aN d) (0:Int)).map i64) 0 true 3):=aK
 have hk3:∀ (j:Nat) (o:ax),j≠im→hD[j]? = some o→(h2++[ax.aq ((List.replicate (aN d) (0:Int)).map i64) 0 true 3])[j]? = some o:=fun j o hj h=>bB (hk2 j o hj h)
 have hl3:(h2++[ax.aq ((List.replicate (aN d) (0:Int)).map i64) 0 true 3]).length=hD.length+2:=by simp [hl2]
 generalize (h2++[ax.aq ((List.replicate (aN d) (0:Int)).map i64) 0 true 3])=h3 at hx3 hx3' hF3 hR3 hk3 hl3 ⊢
 obtain⟨nR,hnR⟩:∃ nR,nR=h2.length:=⟨_,rfl⟩
 rw[← hnR] at hR3
 rw[← hnR]
 iterate 2 (refine zx oj ?_)
 refine bY (v:=(.slice (some ⟨nR,0,some 0⟩) (aN d) (aN d))) (vs:=[(.slice (some ⟨nR,0,some 0⟩) (aN d) (aN d))]) (cells':=MK.cells { m with vb:=(.slice pB B.length cB),vF:=(.slice (some ⟨nF,0,some 0⟩) (aN d) (aN d)),vR:=(.slice (some ⟨nR,0,some 0⟩) (aN d) (aN d)) }) al rfl rfl rfl al hx3 al rfl rfl ?_
 dsimp only
 have S0:FS hD im nF nR (h3.set im (.aq (MK.cells { m with vb:=(.slice pB B.length cB),vF:=(.slice (some ⟨nF,0,some 0⟩) (aN d) (aN d)),vR:=(.slice (some ⟨nR,0,some 0⟩) (aN d) (aN d)) }) 0 true 94)) { m with vb:=(.slice pB B.length cB),vF:=(.slice (some ⟨nF,0,some 0⟩) (aN d) (aN d)),vR:=(.slice (some ⟨nR,0,some 0⟩) (aN d) (aN d)) } (List.replicate (aN d) vi) (List.replicate 0 (-1)++List.replicate (aN d-0) 0):=
  ⟨aw hx3,by rw[aE om];exact hF3,by rw[aE om];exact hR3,fun j o _ hj h=>by rw[aE hj.symm];exact hk3 j o hj h,by rw[List.length_set];omega⟩
 generalize h3.set im (.aq (MK.cells { m with vb:=(.slice pB B.length cB),vF:=(.slice (some ⟨nF,0,some 0⟩) (aN d) (aN d)),vR:=(.slice (some ⟨nR,0,some 0⟩) (aN d) (aN d)) }) 0 true 94)=h4 at S0 ⊢
 clear hx2 hx2' hF2 hk2 hx3 hx3' hF3 hR3 hk3
 have n1:nF≠im:=by omega
 have n2:nF≠nR:=by omega
 have n3:hD.length≤nF:=by omega
 have n4:nR≠im:=by omega
 have n5:hD.length≤nR:=by omega
 clear hl2 hl3 hnF hnR
 apply zn
 show CW _ _ ⟨_,[],h4⟩ _
 try apply zs
 have hx4:=S0.o
 simp only[MK.cells,hnts] at hx4
 refine aG hx4 ?_
 refine CW.mono (Q:=fun e s'=>e = .exit 4∧∃ x,FS hD im nF nR x { m with vb:=(.slice pB B.length cB),vF:=(.slice (some ⟨nF,0,some 0⟩) (aN d) (aN d)),vR:=(.slice (some ⟨nR,0,some 0⟩) (aN d) (aN d)) } (List.replicate (aN d) vi) (List.replicate (aN d) (-1))∧s'.h=x∧bG [(0,.val (.pointer (some ⟨im,0,some 0⟩))),(2,.val (.pointer (some ⟨im,12,some 0⟩)))] s'.fr) ?_ ?_
 ·refine aZ (aN d) (fun k (x:ai)=>[(0,.val (.pointer (some ⟨im,0,some 0⟩))),(2,.val (.pointer (some ⟨im,12,some 0⟩))),(78,.val (.slice (some ⟨nR,0,some 0⟩) (aN d) (aN d))),(79,.val (i64 (aN d))),(80,.val (i64 k))]) (fun _ x=>x) (fun k x=>FS hD im nF nR x { m with vb:=(.slice pB B.length cB),vF:=(.slice (some ⟨nF,0,some 0⟩) (aN d) (aN d)),vR:=(.slice (some ⟨nR,0,some 0⟩) (aN d) (aN d)) } (List.replicate (aN d) vi) (List.replicate k (-1)++List.replicate (aN d-k) 0)) h4 aM rfl S0 ?_
  rintro k x hkn S
  by_cases hlt:k<aN d
  ·have w1:=cD hlt
   have w2:=inc hlt om
   have q3:=aW hlt
   have hxo:=S.o
   simp only[MK.cells] at hxo
   have S2:=S.Qe n4 n2 n5 (List.replicate (k+1) (-1)++List.replicate (aN d-(k+1)) 0)
   have hwr:=FE (f:=i64) (l:=List.replicate k (-1:Int)++List.replicate (aN d-k) 0) (i:=k) (x:=-1) (by rw[List.length_append,List.length_replicate,List.length_replicate];omega)
   rw[Dn hlt] at hwr
   refine aG q3 ?_
   refine ag rfl ?_
   refine g9 hxo w1 Nat.mul_one ?_
   refine bY (v:=i64 (-1)) (vs:=[i64 (-1)]) al rfl rfl rfl (Um hxo w1 Nat.mul_one) S.R rfl rfl hwr ?_
   dsimp only
   generalize x.set nR (.aq ((List.replicate (k+1) (-1)++List.replicate (aN d-(k+1)) 0).map i64) 0 true 3)=x2 at S2 ⊢
   refine aG w2 ?_
   refine⟨hlt,x2,aM,rfl,S2⟩
  ·have q3:=aU hlt
   obtain rfl:k=aN d:=by omega
   rw[Nat.sub_self,List.replicate_zero,List.append_nil] at S
   refine aG q3 ?_
   refine ae rfl ?_
   refine aB ?_
   exact⟨rfl,x,S,rfl,aM⟩
 rintro e s' ⟨rfl,x,S,hh,hf⟩
 show CW _ _ _ _
 refine aA _ hf ?_
 rw[hh]
 clear hf hh s' hx4 S0
 obtain⟨pFo,cFo,hvFo⟩:=bT.form K.D.follows
 obtain⟨pRe,cRe,hvRe⟩:=bT.form K.D.ah
 have hkk:=bA sE
 have hmis:m.is≠im:=by
  intro e
  rw[e,K.o] at hsm
  cases hsm
 have hsD:hD[m.is]? = some (.map (fR sE)):=hDk _ _ hmis (af hpC hsm)
 have hsD':∀ {x:ai} {mm:MK} {SF:List bd} {SR:List Int},FS hD im nF nR x mm SF SR→x[m.is]? = some (.map (fR sE)):=fun S=>S.k _ _ (List.getElem?_eq_some_iff.1 hsD).1 hmis hsD
 have hp0:∀ {x:ai} {mm:MK} {SF:List bd} {SR:List Int},FS hD im nF nR x mm SF SR→h0 <+: x:=fun S=>by
  have e:=List.prefix_iff_eq_take.1 hDp
  refine List.prefix_iff_getElem?.2 fun i hi=>?_
  have h1:=List.prefix_iff_getElem?.1 hDp i hi
  exact S.k i _ (List.getElem?_eq_some_iff.1 h1).1 (by have:=K.a;omega) h1
 have hxo:=S.o
 simp only[MK.cells,hvFo] at hxo
 refine aG hxo ?_
 refine CW.mono (Q:=fun e s'=>e = .exit 6∧∃ x,FS hD im nF nR x { m with vb:=(.slice pB B.length cB),vF:=(.slice (some ⟨nF,0,some 0⟩) (aN d) (aN d)),vR:=(.slice (some ⟨nR,0,some 0⟩) (aN d) (aN d)) } (j4 d d.follows) (List.replicate (aN d) (-1))∧s'.h=x∧bG [(0,.val (.pointer (some ⟨im,0,some 0⟩))),(2,.val (.pointer (some ⟨im,12,some 0⟩)))] s'.fr) ?_ ?_
 ·refine aZ d.follows.length (fun k (x:ai)=>[(0,.val (.pointer (some ⟨im,0,some 0⟩))),(2,.val (.pointer (some ⟨im,12,some 0⟩))),(95,.val (.slice pFo d.follows.length cFo)),(96,.val (i64 d.follows.length)),(97,.val (i64 k))]) (fun _ x=>x) (fun k x=>FS hD im nF nR x { m with vb:=(.slice pB B.length cB),vF:=(.slice (some ⟨nF,0,some 0⟩) (aN d) (aN d)),vR:=(.slice (some ⟨nR,0,some 0⟩) (aN d) (aN d)) } (j4 d (d.follows.take k)) (List.replicate (aN d) (-1))) x aM rfl (by rw[List.take_zero];exact S) ?_
  clear hxo S x
  rintro k x hkn S
  by_cases hlt:k<d.follows.length
  ·have hfo:=K.D.follows
   rw[hvFo] at hfo
   obtain⟨id,av,own,c',hv,hid⟩:=bT.at (bT.mono hfo (hp0 S)) om
   cases hv
   have hrd:=jk hlt
   obtain⟨hfs,hfw⟩:=hfS _ (List.getElem_mem hlt)
   have hgs:=hsg _ hfs
   have hns:=hsn _ hfs
   have htk:=oN (d:=d) hlt
   have hfl2:=FD (d:=d) k d.follows
   have hwf:=Iz (d:=d) (fun x hx=>(hfS x hx).2) k
   have w1:=cD hlt
   have w2:=inc hlt om
   have q3:=aW hlt
   have w3:=cD hns
   have hxo:=S.o
   have hxs:=hsD' S
   have hxF:=S.F
   generalize d.follows[k]=f at hrd hfs hfw hgs hns htk w3
   generalize j4 d (d.follows.take k)=SF at S htk hfl2 hwf hxF
   generalize gE d f.sort=n at hgs hns htk w3
   have hnl:n<SF.length:=by omega
   have hgd:SF.getD n vi=SF[n]:=by rw[List.getD_eq_getElem?_getD,List.getElem?_eq_getElem hnl];rfl
   rw[hgd] at htk
   have hsw:=hwf _ (List.getElem_mem hnl)
   have hrF:jr (SF.flatMap bd.cells) (n*4) 4=some [u64 SF[n].a,u64 SF[n].b,u64 SF[n].c,u64 SF[n].d]:=bL (f:=bd.cells) (fun _=>rfl) SF n SF[n] (by simp [hnl])
   have hwr:=AD (f:=bd.cells) (k:=4) (fun _=>rfl) (x:=SF[n].union f.set) hnl
   rw[← htk] at hwr
   have S2:=S.T9 n1 n2 n3 (j4 d (d.follows.take (k+1)))
   have hun:=Dl (h:=x) hsw hfw
   generalize SF[n]=sn at hrF hwr hun hsw
   have hxo':=hxo
   simp only[MK.cells] at hxo
   refine aG q3 ?_
   refine ag rfl ?_
   refine g9 w1 hid hrd ?_
   refine aR 6 mixed kr ?_
   refine fV hxo hxs hgs hkk ?_
   refine aA [(0,.val (.pointer (some ⟨im,0,some 0⟩))),(2,.val (.pointer (some ⟨im,12,some 0⟩))),(9,.box [.string f.sort,u64 f.set.a,u64 f.set.b,u64 f.set.c,u64 f.set.d]),(10,.val (i64 n)),(95,.val (.slice (some ⟨id,0,some av⟩) d.follows.length cFo)),(96,.val (i64 d.follows.length)),(97,.val (i64 k))] aM ?_
   show CW _ _ ⟨_,[],x⟩ _
   try apply zs
   apply br (L:=[[],[0],[0,1],[0,1,2],[],[],[5],[5,6],[5,6,7],[],[5,6,7,8,9],[5,6,7,8,9,10],[],[12],[5,6,7,8,9,10,11,12,13],[0,1,2,3,4],[0,1,2,3,4,5,6,7,8,9,10,11,12,13,14,15]]) (act:=[16]) (hs:=[x.set nF (.aq ((j4 d (d.follows.take (k+1))).flatMap bd.cells) 0 true 54)]) (resL:=[_,_,_,_,_,_,_,_,_,_,_,_,_,_,_,_,_]) (frF:=[(0,.val (.pointer (some ⟨im,0,some 0⟩))),(2,.val (.pointer (some ⟨im,12,some 0⟩))),(95,.val (.slice (some ⟨id,0,some av⟩) d.follows.length cFo)),(96,.val (i64 d.follows.length)),(97,.val (i64 k))])
   case hm=>exact mixed
   case hc=>kernel_rfl
   case ha=>rfl
   case hb=>rfl
   case hS=>
    refine tL hxo w3 hxF hrF ?_
    apply az.cons
    ·rfl
    ·refine⟨?_,trivial⟩
     exact bh (fn:=Tryz.f105) (args:=[sn.val,f.set.val]) (cap:=[]) rfl al rfl al al Tryz.func105 kr kr hun
    ·rfl
    refine tL hxo w3 hxF hrF ?_
    apply az.cons
    ·rfl
    ·refine⟨?_,trivial⟩
     exact One.jE (r:=.sl .dJ) al rfl al al hxF al rfl hwr rfl
    ·rfl
    exact az.nil _
   case ht=>rfl
   case hF=>exact zh
   show CW _ _ ⟨_,[],x.set nF (.aq ((j4 d (d.follows.take (k+1))).flatMap bd.cells) 0 true 54)⟩ _
   generalize x.set nF (.aq ((j4 d (d.follows.take (k+1))).flatMap bd.cells) 0 true 54)=x2 at S2 ⊢
   refine aG w2 ?_
   refine⟨hlt,x2,aM,rfl,S2⟩
  ·have q3:=aU hlt
   obtain rfl:k=d.follows.length:=by omega
   rw[List.take_length] at S
   refine aG q3 ?_
   refine ae rfl ?_
   refine aB ?_
   exact⟨rfl,x,S,rfl,aM⟩
 clear hxo S x
 rintro e s' ⟨rfl,x,S,hh,hf⟩
 show CW _ _ _ _
 refine aA _ hf ?_
 rw[hh]
 clear hf hh s'
 have hxo:=S.o
 simp only[MK.cells,hvRe] at hxo
 refine aG hxo ?_
 refine aZ d.ah.length (fun k (x:ai)=>[(0,.val (.pointer (some ⟨im,0,some 0⟩))),(2,.val (.pointer (some ⟨im,12,some 0⟩))),(130,.val (.slice pRe d.ah.length cRe)),(131,.val (i64 d.ah.length)),(132,.val (i64 k))]) (fun _ x=>x) (fun k x=>FS hD im nF nR x { m with vb:=(.slice pB B.length cB),vF:=(.slice (some ⟨nF,0,some 0⟩) (aN d) (aN d)),vR:=(.slice (some ⟨nR,0,some 0⟩) (aN d) (aN d)) } (j4 d d.follows) (rT d (d.ah.take k))) x aM rfl (by rw[List.take_zero];exact S) ?_
 clear hxo S x
 rintro k x hkn S
 by_cases hlt:k<d.ah.length
 ·have hre:=K.D.ah
  rw[hvRe] at hre
  obtain⟨id,av,own,c',hv,hid⟩:=bT.at (bT.mono hre (hp0 S)) om
  cases hv
  have hrd:=ir hlt
  obtain⟨hfs,hfb⟩:=hrS _ (List.getElem_mem hlt)
  have hgs:=hsg _ hfs
  have hgb:=hsg _ hfb
  have hns:=hsn _ hfs
  have htk:=uz (d:=d) hlt
  have hfl2:=Dv (d:=d) k d.ah
  have w1:=cD hlt
  have w2:=inc hlt om
  have q3:=aW hlt
  have w3:=cD hns
  have hxo:=S.o
  have hxs:=hsD' S
  have hxR:=S.R
  generalize d.ah[k]=f at hrd hfs hgs hgb hns htk w3
  generalize rT d (d.ah.take k)=SR at S htk hfl2 hxR
  generalize gE d f.sort=n at hgs hns htk w3
  generalize gE d f.jB=nb at hgb htk
  have hnl:n<SR.length:=by omega
  have hwr:=FE (f:=i64) (l:=SR) (x:=(nb:Int)) hnl
  rw[← htk] at hwr
  have S2:=S.Qe n4 n2 n5 (rT d (d.ah.take (k+1)))
  simp only[MK.cells] at hxo
  refine aG q3 ?_
  refine ag rfl ?_
  refine g9 w1 hid hrd ?_
  refine aR 18 mixed kr ?_
  refine C5 hxo hxs hgs hgb hkk w3 Nat.mul_one ?_
  refine bY (v:=i64 (nb:Int)) (vs:=[i64 (nb:Int)]) al rfl rfl rfl (Um hxo w3 Nat.mul_one) hxR al rfl hwr ?_
  dsimp only
  generalize x.set nR (.aq ((rT d (d.ah.take (k+1))).map i64) 0 true 3)=x2 at S2 ⊢
  refine aG w2 ?_
  refine⟨hlt,x2,aM,rfl,S2⟩
 ·have q3:=aU hlt
  obtain rfl:k=d.ah.length:=by omega
  rw[List.take_length] at S
  refine aG q3 ?_
  refine ae rfl ?_
  refine aB ?_
  refine⟨rfl,trivial,_,_,_,⟨hp0 S,?_,S.o,?_,?_,?_,?_⟩⟩
  ·show hk.length≤x.length
   have:=S.l;have:=hpC.length_le;omega
  ·exact fun j o hj hne2 h=>S.k j o (by have:=hpC.length_le;omega) hne2 (hDk j o hne2 (af hpC h))
  ·rw[← hF]
   exact hDb.mono fun j o hj g=>S.k j o (List.getElem?_eq_some_iff.1 g).1 (by have:=(hDb.lt hj).1;have:=(List.getElem?_eq_some_iff.1 K.o).1;omega) g
  ·exact .inr ⟨nF,0,by have:=hpC.length_le;omega,rfl,S.F⟩
  ·exact .inr ⟨nR,0,by have:=hpC.length_le;omega,rfl,S.R⟩
·exact fun h2 hP=>⟨_,al,rfl,hP⟩}
end
theorem j3 {ps:List Prod} {s:ByteArray} (h:cH ps s≠0):s∈aF ps:=by{
apply Classical.byContradiction
intro q
exact h (sN.2 q)}
theorem AA {d:bV} {p:Prod} {s:Sym} (hp:p∈d.aa) (hs:s∈p.an) (hn:cX s.name=false):s.name∈fB d:=by{
unfold fB nP
refine List.mem_append_left _ (List.mem_append_left _ ?_)
rw[List.mem_flatMap]
refine⟨p,hp,?_⟩
unfold cW
rw[List.mem_filterMap]
refine⟨s,hs,?_⟩
unfold cX at hn
rw[if_neg (of_decide_eq_false hn)]}
theorem pK {s:Sym} (h:bl s=true):s.text.size≤32∧(iH s=true→s.sep.size≤32)∧(s.kind=1∨s.kind=2∨s.kind=3∨s.kind=4∨s.kind=5∨s.kind=6):=by{
unfold bl at h
have hz:∀ {b:ByteArray},cX b=true→b.size≤32:=fun h=>by rw[Be.1 h];decide
by_cases k1:s.kind=1
·rw[if_pos k1] at h
 simp only[Bool.and_eq_true,decide_eq_true_eq] at h
 exact⟨by omega,fun _=>hz h.2.2.2,.inl k1⟩
rw[if_neg k1] at h
by_cases k2:s.kind=2
·rw[if_pos k2] at h
 simp only[Bool.and_eq_true] at h
 exact⟨hz h.1,fun _=>hz h.2.2,.inr (.inl k2)⟩
rw[if_neg k2] at h
by_cases k3:s.kind=3
·rw[if_pos k3] at h
 simp only[Bool.and_eq_true] at h
 exact⟨hz h.1,fun _=>hz h.2.2.2,.inr (.inr (.inl k3))⟩
rw[if_neg k3] at h
by_cases k4:s.kind=4
·rw[if_pos k4] at h
 simp only[Bool.and_eq_true] at h
 exact⟨hz h.1,fun _=>hz h.2.1,.inr (.inr (.inr (.inl k4)))⟩
rw[if_neg k4] at h
by_cases k5:s.kind=5∨s.kind=6
·rw[if_pos k5] at h
 by_cases e:cX s.name=true
 ·rw[if_pos e] at h
  simp only[Bool.and_eq_true] at h
  exact⟨hz h.1,fun _=>hz h.2,.inr (.inr (.inr (.inr k5)))⟩
 ·rw[if_neg e] at h
  simp only[Bool.and_eq_true,decide_eq_true_eq] at h
  exact⟨hz h.1,fun _=>by omega,.inr (.inr (.inr (.inr k5)))⟩
·rw[if_neg k5] at h
 cases h}
theorem uq {d:bV} (hr:cZ d=true) {p:Prod} (hp:p∈d.aa) {s:Sym} (hs:s∈p.an):bl s=true:=by{
unfold cZ at hr
simp only[Bool.and_eq_true] at hr
have hrp:=List.all_eq_true.1 hr.2.1 _ hp
unfold cK at hrp
simp only[Bool.and_eq_true] at hrp
exact List.all_eq_true.1 hrp.2.2 _ hs}
section
variable {d:bV}
theorem kc (hp:dA d≤160):d.aa.length≤160∧d.aj.length≤160∧d.follows.length≤160∧d.ah.length≤160∧cN (fun p=>p.an.length) d.aa+cN tW d.aj≤160:=by
 unfold dA at hp
 omega
theorem Fe (hc:lB d) {p:Prod} (hp:p∈d.aa):yF d p:=by{
have hr:cZ d=true:=hc 0 (by decide)
have hu:∀ s∈fB d,cH d.aa s≠0:=hc 3 (by decide)
have hl:∀ p∈d.aa,xH d p=false:=hc 7 (by decide)
refine⟨hp,(rr hr hp).2,fun s hs=>(pK (uq hr hp hs)).1,fun s hs=>?_,pj.2 ⟨p,hp,rfl⟩,?_⟩
·cases e:cX s.name with
 | true=>exact .inr (.inl rfl)
 | false=>exact .inr (.inr (j3 (hu _ (AA hp hs e))))
·have:=hl p hp
 unfold xH at this
 simp only[Bool.or_eq_false_iff,decide_eq_false_iff_not] at this
 omega}
theorem uV (hc:lB d) (hp:dA d≤160):nw d:=by{
have hr:cZ d=true:=hc 0 (by decide)
have hu:∀ s∈fB d,cH d.aa s≠0:=hc 3 (by decide)
have he:cH d.aa d.start=2∧(d.layout.size=0∨cH d.aa d.layout=1):=hc 2 (by decide)
obtain⟨h1,h2,h3,h4,h5⟩:=kc hp
refine⟨fun p hp=>Fe hc hp,by omega,j3 om,?_,fun k hk=>?_,?_⟩
·rcases he.2 with e|e
 ·exact .inl (Be.2 e)
 ·exact .inr (j3 om)
·obtain⟨p,hp,s,hs,hL,rfl⟩:=mem_keys.1 hk
 have hR:=uq hr hp hs
 refine⟨?_,(pK hR).2.1 hL⟩
 show cX s.name=true∨s.name∈_
 cases e:cX s.name with
 | true=>exact .inl rfl
 | false=>exact .inr (j3 (hu _ (AA hp hs e)))
·have:=lW (ps:=d.aa) (l:=[])
 simp only[List.length_nil] at this
 unfold bj
 omega}
theorem FH (hp:dA d≤160) (hn:∀ p∈d.aa,p.an.length≤12) (k:Nat) (hk:k<d.aa.length) (j:Nat):(g8 d.aa[k].lex (bj (d.aa.take k)) (d.aa[k].an.take j)).length≤3000:=by{
obtain⟨h1,h2,h3,h4,h5⟩:=kc hp
have a:=oP (lex:=d.aa[k].lex) (ys:=d.aa[k].an.take j) (l:=bj (d.aa.take k))
have b:=lW (ps:=d.aa.take k) (l:=[])
have c:=oe (f:=fun p:Prod=>p.an.length) (B:=12) (l:=d.aa.take k) fun p hp=>hn p (List.mem_of_mem_take hp)
have e:=hn _ (List.getElem_mem hk)
rw[List.length_take] at a c
simp only[List.length_nil] at b
unfold bj at a ⊢
omega}
def ri {α:Type} (P:α→Bool) (l:List α):List Nat:=(List.range l.length).filter fun i=>match l[i]? with
 | some x=>P x
 | none=>false
theorem sC {α:Type} {P:α→Bool} {A B:List α}:ri P (A++B)=ri P A++(ri P B).map (A.length + ·):=by{
unfold ri
rw[List.length_append,List.range_add,List.filter_append,List.filter_map]
congr 1
·refine List.filter_congr fun i hi=>?_
 rw[List.getElem?_append_left (List.mem_range.1 hi)]
·congr 1
 refine List.filter_congr fun i hi=>?_
 simp only[Function.comp_apply]
 rw[List.getElem?_append_right om,Nat.add_sub_cancel_left]}
theorem oD {α:Type} {P:α→Bool} {l:List α} (h:∀ x∈l,P x=false):ri P l=[]:=by{
unfold ri
rw[List.filter_eq_nil_iff]
intro i hi
rw[List.getElem?_eq_getElem (List.mem_range.1 hi)]
simp only[h _ (List.getElem_mem _),Bool.false_eq_true,not_false_eq_true]}
theorem EQ {α:Type} {P:α→Bool} {l:List α} (h:∀ x∈l,P x=true):ri P l=List.range l.length:=by{
unfold ri
rw[List.filter_eq_self]
intro i hi
rw[List.getElem?_eq_getElem (List.mem_range.1 hi)]
exact h _ (List.getElem_mem _)}
def J8 (i:Nat) (o:gI):Bool:=decide (o.kind=0)&&decide (o.prod=(i:Int))
theorem zt {os:List gI} {i:Nat}:eL os i=ri (J8 i) os:=by{
unfold eL ri
refine List.filter_congr fun j _=>?_
unfold zG J8
cases os[j]?<;>rfl}
def OJ (d:bV) (i:Nat):Nat:=(eO d i).length
abbrev dM (d:bV):List gI:=(ol d).map (·.2)
theorem BB {i:Nat} {p:Prod}:(iT d i p).length=l8 p:=by unfold iT;rw[List.length_map,List.length_range]
theorem Ru {i:Nat} (hi:i<d.aa.length):∀ k,k≤d.aa.length→ri (J8 i) ((eO d k).map (·.2))=if i<k then (List.range (l8 d.aa[i])).map (OJ d i + ·) else []
 | 0,_=>rfl
 | k+1,hk=>by
   have ih:=Ru hi k om
   rw[jU (show k<d.aa.length by omega),List.map_append,sC,ih]
   by_cases e:i=k
   ·subst e
    rw[if_neg om,if_pos om,List.nil_append,EQ]
    ·rw[List.length_map,List.length_map,BB]
     rfl
    ·intro x hx
     unfold iT at hx
     rw[List.map_map,List.mem_map] at hx
     obtain⟨m,_,rfl⟩:=hx
     unfold J8 oV
     simp
   ·rw[oD (l:=(iT d k _).map _)]
    ·by_cases q:i<k
     ·rw[if_pos q,if_pos om];simp
     ·rw[if_neg q,if_neg om];rfl
    ·intro x hx
     unfold iT at hx
     rw[List.map_map,List.mem_map] at hx
     obtain⟨m,_,rfl⟩:=hx
     unfold J8 oV
     simp
     omega
theorem M0 {l:List bP}:∀ x∈fi d l,x.2.kind=1∨x.2.kind=2:=by{
intro x hx
unfold fi at hx
rw[List.mem_flatMap] at hx
obtain⟨k,_,hx⟩:=hx
unfold y8 at hx
simp only[List.mem_cons,List.not_mem_nil,or_false] at hx
rcases hx with rfl|rfl
·exact .inl rfl
·exact .inr rfl}
theorem LM:∀ x∈kg d,x.2.kind=3∨x.2.kind=4∨x.2.kind=5:=by{
intro x hx
unfold kg at hx
split at hx
·simp only[List.mem_cons,List.not_mem_nil,or_false] at hx
 subst hx
 exact .inr (.inr rfl)
·simp only[List.mem_cons,List.not_mem_nil,or_false] at hx
 rcases hx with rfl|rfl|rfl
 ·exact .inl rfl
 ·exact .inr (.inl rfl)
 ·exact .inr (.inr rfl)}
theorem F6 {i:Nat} (hi:i<d.aa.length):eL (dM d) i=(List.range (l8 d.aa[i])).map (OJ d i + ·):=by{
rw[zt]
unfold dM ol
rw[List.map_append,List.map_append,sC,sC,Ru hi _ (Nat.le_refl _),if_pos hi,oD (l:=(fi d _).map _),oD (l:=(kg d).map _)]
·simp
·intro x hx
 rw[List.mem_map] at hx
 obtain⟨y,hy,rfl⟩:=hx
 have:=LM y hy
 unfold J8
 rw[decide_eq_false om]
 rfl
·intro x hx
 rw[List.mem_map] at hx
 obtain⟨y,hy,rfl⟩:=hx
 have:=M0 y hy
 unfold J8
 rw[decide_eq_false om]
 rfl}
end
theorem nL {α β:Type} {f:α→List β} {B:Nat}:∀ {l:List α},(∀ x∈l,(f x).length≤B)→(l.flatMap f).length≤l.length*B
 | [],_=>by simp
 | x :: l,h=>by
   have ih:=nL (f:=f) (B:=B) (l:=l) fun y hy=>h y (List.mem_cons_of_mem _ hy)
   have:=h x List.mem_cons_self
   rw[List.flatMap_cons,List.length_append,List.length_cons,Nat.succ_mul]
   omega
theorem sJ {α β:Type} {f:α→List β} {g:α→Nat}:∀ {l:List α},(∀ x∈l,(f x).length≤g x)→(l.flatMap f).length≤(l.map g).sum
 | [],_=>by simp
 | x :: l,h=>by
   have ih:=sJ (f:=f) (g:=g) (l:=l) fun y hy=>h y (List.mem_cons_of_mem _ hy)
   have:=h x List.mem_cons_self
   rw[List.flatMap_cons,List.length_append,List.map_cons,List.sum_cons]
   omega
theorem u9 {α:Type} {g:α→Nat} {B:Nat}:∀ l:List α,(l.map fun x=>g x*B).sum=(l.map g).sum*B
 | []=>by simp
 | x :: l=>by
   rw[List.map_cons,List.sum_cons,List.map_cons,List.sum_cons,u9 l,Nat.add_mul]
theorem zd (f:Nat→Nat):∀ (n:Nat) (I:List Nat),I.Nodup→(∀ i∈I,i<n)→(I.map f).sum≤((List.range n).map f).sum
 | 0,I,_,h=>by
   have:I=[]:=by
    cases I with
    | nil=>rfl
    | cons a r=>exact absurd (h a List.mem_cons_self) om
   rw[this]
   simp
 | n+1,I,hn,h=>by
   rw[List.range_succ,List.map_append,List.sum_append,List.map_singleton,List.sum_singleton]
   by_cases q:n∈I
   ·have hp:=List.perm_cons_erase q
    have e:=(hp.map f).sum_nat
    rw[List.map_cons,List.sum_cons] at e
    have ih:=zd f n (I.erase n) (hn.erase n) fun i hi=>by
     have h1:=h i (List.mem_of_mem_erase hi)
     have h2:i≠n:=fun e=>by
      subst e
      exact (List.Nodup.not_mem_erase hn) hi
     omega
    omega
   ·have ih:=zd f n I hn fun i hi=>by
     have h1:=h i hi
     have h2:i≠n:=fun e=>q (e▸hi)
     omega
    omega
theorem BF {α:Type} (g:α→Nat) (l:List α):((List.range l.length).map fun i=>(l[i]?.map g).getD 0)=l.map g:=by{
refine List.ext_getElem (by simp) fun i h1 h2=>?_
rw[List.length_map] at h2
simp [h2]}
section
variable {d:bV}
theorem E8 (G:nw d) {i:Nat} (hi:i<d.aa.length):l8 d.aa[i]≤16:=sR (G.p _ (List.getElem_mem hi)).o
theorem wl (G:nw d) (hp:dA d≤160):(ol d).length≤3000:=by{
obtain⟨h1,h2,h3,h4,h5⟩:=kc hp
have a:=nJ G.p d.aa.length
have b:=oG (d:=d) (l:=bj d.aa)
have c:=lW (ps:=d.aa) (l:=[])
have e:(kg d).length≤3:=by unfold kg;split<;>simp
simp only[List.length_nil] at c
unfold ol
rw[List.length_append,List.length_append]
unfold bj at b ⊢
omega}
theorem o6 (G:nw d):∀ o∈dM d,o.an.length≤396:=by{
intro o ho
unfold dM at ho
rw[List.mem_map] at ho
obtain⟨x,hx,rfl⟩:=ho
unfold ol at hx
rw[List.mem_append,List.mem_append] at hx
have key:∀ k,k≤d.aa.length→∀ x∈eO d k,x.2.an.length≤396:=by
 intro k
 induction k with
 | zero=>intro _ x hx;simp [eO] at hx
 | succ k ih=>
   intro hk x hx
   rw[jU (show k<d.aa.length by omega),List.mem_append] at hx
   rcases hx with hx|hx
   ·exact ih om x hx
   ·unfold iT at hx
    rw[List.mem_map] at hx
    obtain⟨m,_,rfl⟩:=hx
    have hG:=G.p _ (List.getElem_mem (show k<d.aa.length by omega))
    have:=lX (mask:=m) hG d.aa[k].an.length
    have h12:=hG.n
    show (eF d d.aa[k] m).os.length≤396
    unfold eF
    omega
rcases hx with (hx|hx) | hx
·exact key _ (Nat.le_refl _) x hx
·unfold fi at hx
 rw[List.mem_flatMap] at hx
 obtain⟨k,_,hx⟩:=hx
 unfold y8 at hx
 simp only[List.mem_cons,List.not_mem_nil,or_false] at hx
 rcases hx with rfl|rfl<;>simp
·unfold kg at hx
 split at hx
 ·simp only[List.mem_cons,List.not_mem_nil,or_false] at hx
  subst hx
  simp
 ·simp only[List.mem_cons,List.not_mem_nil,or_false] at hx
  rcases hx with rfl|rfl|rfl<;>simp}
theorem uA (G:nw d) {i:Nat} (hi:i<d.aa.length):(eL (dM d) i).length≤16:=by
 rw[F6 hi,List.length_map,List.length_range]
 exact E8 G hi
theorem GM (G:nw d) {p a q:Nat} (hp:p<d.aa.length) (hq:q<d.aa.length):(tG (dM d) p a q).length≤101376:=by{
unfold tG
have h1:=uA G hp
have h2:((eL (dM d) p).flatMap (o3 (dM d) a q)).length≤(eL (dM d) p).length*6336:=by
 refine nL fun r hr=>?_
 have h3:=lJ hr
 unfold o3
 rw[List.getElem?_eq_getElem h3]
 simp only
 have h4:=o6 G _ (List.getElem_mem h3)
 have h5:((List.range (dM d)[r].an.length).flatMap (qu (dM d) r (dM d)[r] a q)).length≤(List.range (dM d)[r].an.length).length*16:=by
  refine nL fun j _=>?_
  unfold qu
  split
  ·rw[List.length_map];exact uA G hq
  ·simp
 rw[List.length_range] at h5
 omega
omega}
theorem HL (G:nw d) {p q:CE} (hp:p.at_<d.aa.length) (hq:q.at_<d.aa.length):(jV d (dM d) p q).length≤((d.aa[p.at_]?.map fun x=>x.an.length).getD 0)*101376:=by{
unfold jV
rw[List.getElem?_eq_getElem hp]
simp only[Option.map_some,Option.getD_some]
have:=nL (f:=fun y:Sym×Nat=>wx d (dM d) p q d.aa[p.at_].an.length y.2 y.1) (B:=101376) (l:=d.aa[p.at_].an.zipIdx) fun y _=>by
 unfold wx
 rw[List.getElem?_eq_getElem hq]
 simp only
 split
 ·exact GM G hp hq
 ·simp
rw[List.length_zipIdx] at this
exact this}
theorem C8 (G:nw d) {l:List dB} (hok:gU d.aa (dC l)):(gS d (dM d) l).length≤cN (fun p=>p.an.length) d.aa*((dC l).length*101376):=by{
unfold gS
have h1:((qM d.aa l).flatMap fun p=>(qM d.aa l).flatMap fun q=>jV d (dM d) p q).length≤((qM d.aa l).map fun p=>((d.aa[p.at_]?.map fun x=>x.an.length).getD 0)*((dC l).length*101376)).sum:=by
 refine sJ fun p hp=>?_
 have h2:=nL (f:=fun q=>jV d (dM d) p q) (l:=qM d.aa l) (B:=((d.aa[p.at_]?.map fun x=>x.an.length).getD 0)*101376) fun q hq=>HL G (vH hok hp) (vH hok hq)
 rw[wB] at h2
 refine Nat.le_trans h2 (Nat.le_of_eq ?_)
 rw[Nat.mul_left_comm]
refine Nat.le_trans h1 ?_
rw[u9]
refine Nat.mul_le_mul_right _ ?_
have h3:=zd (fun i=>(d.aa[i]?.map fun x=>x.an.length).getD 0) d.aa.length ((qM d.aa l).map CE.at_) (oY hok) fun i hi=>by
 rw[List.mem_map] at hi
 obtain⟨e,he,rfl⟩:=hi
 exact vH hok he
rw[BF,List.map_map] at h3
exact h3}
theorem tQ (l:List dB):(dC l).length≤tW l:=by{
unfold dC tW cN
rw[List.length_flatMap]
exact Nat.le_add_left _ _}
theorem HN (G:nw d) (hok:uW d) (hp:dA d≤160):(gJ d (dM d)).length≤1000000000:=by{
obtain⟨h1,h2,h3,h4,h5⟩:=kc hp
unfold gJ
have a:=sJ (f:=gS d (dM d)) (g:=fun l=>tW l*(cN (fun p=>p.an.length) d.aa*101376)) (l:=d.aj) fun l hl=>by
 refine Nat.le_trans (C8 G (hok l hl)) ?_
 rw[Nat.mul_left_comm]
 exact Nat.mul_le_mul_right _ (tQ l)
rw[u9] at a
have e:(d.aj.map tW).sum=cN tW d.aj:=rfl
rw[e] at a
generalize cN (fun p=>p.an.length) d.aa=S at a h5
generalize cN tW d.aj=C at a h5
have:C*(S*101376)≤160*(160*101376) / 1:=by
 rw[Nat.div_one]
 exact Nat.mul_le_mul om (Nat.mul_le_mul_right _ om)
have hCS:C*S≤6400:=by
 have h:C≤160-S:=by omega
 have h2:C*S≤(160-S)*S:=Nat.mul_le_mul_right _ h
 have h3:∀ S:Fin 161,(160-S.1)*S.1≤6400:=by decide
 have:=h3 ⟨S,by omega⟩
 simp only at this
 omega
have e2:C*(S*101376)=C*S*101376:=(Nat.mul_assoc _ _ _).symm
rw[e2] at a
omega}
theorem EK (hp:dA d≤160):∀ c∈d.aj,(dC c).length≤1000∧c.length≤1000:=by{
intro c hc
obtain⟨h1,h2,h3,h4,h5⟩:=kc hp
have a:=sW (f:=tW) hc
have b:=tQ c
have e:c.length≤tW c:=by unfold tW;omega
omega}
end
def ka (d:bV) (nm:List ByteArray):List ByteArray:=aF d.aa++nm++(if cX d.layout=true then [] else [ByteArray.mk #[103,97,112]])++[ByteArray.mk #[116,111,112]]
abbrev ma (m:MK):Value:=.agg #[.string m.start,.string m.layout,m.vP,m.vC,m.Nj,m.Nu,m.vB,i64 m.fA,i64 m.st,m.vr,m.vf,m.vn,m.vb,m.vF,m.vR]
abbrev Nw:Value:=.agg #[.string ⟨#[]⟩,.string ⟨#[]⟩,aH,aH,aH,aH,aH,i64 0,i64 0,aH,aH,aH,aH,aH,aH]
structure KO (h h':ai) (d:bV) (m:MK) (nm:List ByteArray):Prop where
 p:h <+: h'
 D:Fr (fun x=>bw x d m.vP m.vC m.Nj m.Nu m.vB) h.length h'
 s1:m.start=d.start
 s2:m.layout=d.layout
 fA:m.fA=(aN d:Int)
 st:m.st=(cY d:Int)
 r:pW h h' m.vr ((ol d).map (·.1))
 f:yW h h' m.vf (dM d)
 n:aL h h' m.vn (ka d nm).length ((ka d nm).map .string) 9
 nl:nm.length=nK d
 ne:∀ b∈nm,FF b
 b:aL h h' m.vb (fm [] (gJ d (dM d))).length (BC (RF d)) 70
 F:aL h h' m.vF (aN d) ((j4 d d.follows).flatMap bd.cells) 54
 R:aL h h' m.vR (aN d) ((rT d d.ah).map i64) 3
theorem dt.base {α:Type} {f:α→Value→List Value} {g:α→List Value} {w:Nat} {et et2:TypeId} {a b c:ai} {v:Value} {l:List α} (k:dt f g w et et2 b c v l) (h:a <+: b):dt f g w et et2 a c v l:=by{
obtain⟨us,hl,G,hu⟩:=k
exact⟨us,hl,G.base h,fun i x u k1 k2=>by
 obtain⟨n,e,g'⟩:=hu i x u k1 k2
 exact⟨n,e,g'.base h⟩⟩}
theorem yW.rd {h h':ai} {v:Value} {l:List gI} (k:yW h h' v l) (hl:l.length≤1000000) (hs:∀ o∈l,o.an.length≤1000000):fI h' v l:=by{
obtain⟨us,e,G,hu⟩:=k
refine⟨us,e,G.sl om,fun i r u h1 h2=>?_⟩
obtain⟨n,en,g⟩:=hu i r u h1 h2
have hr:=hs r (List.mem_of_getElem? h1)
have:n=r.an.length:=by
 have:(RL r).length=r.an.length:=List.length_map ..
 omega
subst this
exact g.sl (b:=8) om}
theorem H8 {hk h':ai} {im:Nat} {cells:List Value} (ho:hk[im]? = some (.aq cells 0 true 94)) (k:∀ (j:Nat) (o:ax),j<hk.length→j≠im→hk[j]? = some o→h'[j]? = some o):bu [94] hk h':=fun j o e q=>by
 refine k j o (List.getElem?_eq_some_iff.1 e).1 (fun e1=>?_) e
 subst e1
 rw[ho] at e
 cases e
 simp [sQ] at q
theorem AJ {x:ByteArray}:∀ {l:List ByteArray},x∈l→l.idxOf x<l.length
 | [],h=>by simp at h
 | a :: l,h=>by
   rw[xP]
   by_cases e:x=a
   ·rw[if_pos e];simp
   ·rw[if_neg e]
    have:=AJ ((List.mem_cons.1 h).resolve_left e)
    simp only[List.length_cons]
    omega
section
variable {h:ai} {d:bV} {up uc uf ur ub:Value}
theorem AL (hd:bw h d up uc uf ur ub) (hw:nI d) (hpn:cZ d=true→dA d≤160) : FW env 15 [.agg (d.val up uc uf ur ub).toArray] h fun r h'=>(¬ lB d∧r = .tuple #[Nw,i64 53]∧h'=h)∨(lB d∧∃ m nm,r = .tuple #[ma m,i64 0]∧KO h h' d m nm):=by{
have hck:=Dj hd hw hpn
have hcp:=Cj hd
unfold bV.val at hck hcp
have hd0:=hd
obtain⟨p1,c1,p2,c2,p3,c3,p4,c4,p5,c5,rfl,rfl,rfl,rfl,rfl,l1,l2,l3,l4,l5⟩:=bw.form hd
refine fe Tryz.func15 ?_;simp only[push_cast]
unfold bV.val
refine aC ?_
refine zj Tryz.func31 ?_
refine hck.mono ?_
rintro _ h1 ⟨⟨e,w,rfl,he⟩,e1⟩
obtain rfl:=e1.symm
by_cases q:e=0
·have hok:=he.1 q
 have d1:=decide_eq_true q
 have hpt:=hpn (hok 0 (by decide))
 have G:=uV hok hpt
 obtain⟨b1,b2,b3,b4,b5⟩:=kc hpt
 refine aG d1 ?_
 refine ae rfl ?_
 refine zu ?_
 iterate 1 (refine zx oj ?_)
 refine zj Tryz.func32 ?_
 refine hcp.mono ?_
 rintro _ h1 ⟨hp1,vp,vc,vf,vr,vb,rfl,hF⟩
 have hD1:=hF.now
 obtain⟨p1',c1',rfl⟩:=b9.form hD1.aa
 obtain⟨p2',c2',rfl⟩:=b9.form hD1.aj
 obtain⟨p3',c3',rfl⟩:=bT.form hD1.follows
 obtain⟨p4',c4',rfl⟩:=bT.form hD1.ah
 obtain⟨p5',c5',rfl⟩:=b9.form hD1.boxes
 iterate 1 (refine zx oj ?_)
 refine km (kt:=9) (et:=3) al rfl kr ?_
 dsimp only[St.be,St.put]
 have hpA:h1 <+: h1++[ax.map []]:=aJ
 have hmA:(h1++[ax.map []])[h1.length]? = some (.map (fR [])):=aK
 have hlA:(h1++[ax.map []]).length=h1.length+1:=by simp
 generalize (h1++[ax.map []])=hA at hpA hmA hlA ⊢
 obtain⟨is,his⟩:∃ is,is=h1.length:=⟨_,rfl⟩
 rw[← his] at hmA
 rw[← his]
 refine km (kt:=154) (et:=3) al rfl kr ?_
 dsimp only[St.be,St.put]
 have hpB:h1 <+: hA++[ax.map []]:=di hpA
 have hmB:(hA++[ax.map []])[is]? = some (.map (fR [])):=bB hmA
 have hnB:(hA++[ax.map []])[hA.length]? = some (.map (kE [])):=aK
 have hlB:(hA++[ax.map []]).length=h1.length+2:=by simp [hlA]
 generalize (hA++[ax.map []])=hB at hpB hmB hnB hlB ⊢
 obtain⟨il,hil⟩:∃ il,il=hA.length:=⟨_,rfl⟩
 rw[← hil] at hnB
 rw[← hil]
 iterate 1 (refine zx oj ?_)
 obtain⟨m0,hm0⟩:∃ m0:MK,m0=⟨d.start,d.layout,.slice p1' d.aa.length c1',.slice p2' d.aj.length c2',.slice p3' d.follows.length c3',.slice p4' d.ah.length c4',.slice p5' d.boxes.length c5',0,0,aH,aH,aH,aH,aH,aH,is,il,aH,0⟩:=⟨_,rfl⟩
 refine dL (t:=94) (cs:=m0.cells) al (by rw[hm0];unfold MK.cells;exact al) ?_
 dsimp only[St.be,St.put]
 have hpC:h1 <+: hB++[ax.aq m0.cells 0 true 94]:=di hpB
 have hmC:(hB++[ax.aq m0.cells 0 true 94])[is]? = some (.map (fR [])):=bB hmB
 have hnC:(hB++[ax.aq m0.cells 0 true 94])[il]? = some (.map (kE [])):=bB hnB
 have hoC:(hB++[ax.aq m0.cells 0 true 94])[hB.length]? = some (.aq m0.cells 0 true 94):=aK
 generalize (hB++[ax.aq m0.cells 0 true 94])=hC at hpC hmC hnC hoC ⊢
 obtain⟨im,him⟩:∃ im,im=hB.length:=⟨_,rfl⟩
 rw[← him] at hoC
 rw[← him]
 have hkY:=FH hpt (fun p hp=>(G.p p hp).n)
 have hnS:=ct (ps:=d.aa)
 have hnt:=ML (h0:=h1) (hk:=hC) (im:=im) (m:=m0) hpC hoC (by rw[hm0];exact hmC) (by rw[hm0];exact hnC) om (by rw[hm0];show h1.length≤is;omega) (by rw[hm0];show h1.length≤il;omega) (by rw[hm0];show im≠is;omega) (by rw[hm0];show im≠il;omega) (by rw[hm0];show is≠il;omega) (by rw[hm0]) (by rw[hm0]) (by rw[hm0];exact hD1) (by rw[hm0]) (by rw[hm0]) G hw.aa om hkY
 refine aC ?_
 refine zj Tryz.func33 ?_
 refine hnt.mono ?_
 rintro _ h2 ⟨rfl,vn,vo,nm,hb,NT⟩
 have N:=NT.s
 have hbl:h1.length≤hb.length:=by have:=hpC.length_le;have:=NT.p.length_le;omega
 have hM:MR h1 h2 im { m0 with vn:=vn,vo:=vo,lZ:=bJ d,st:=(cY d:Int),fA:=(aN d:Int) } []:=⟨N.p,by omega,N.o,by rw[hm0];exact dt.nil,by rw[hm0];exact dt.nil⟩
 have hS:MS h2 { m0 with vn:=vn,vo:=vo,lZ:=bJ d,st:=(cY d:Int),fA:=(aN d:Int) } d (vD (aF d.aa)) (wN (aF d.aa).length (bj d.aa)):=⟨N.sm,fun x hx=>AG hx,N.lm,fun k hk=>by rw[Ax,if_pos hk];rfl,rfl⟩
 have hru:=DV (m:={ m0 with vn:=vn,vo:=vo,lZ:=bJ d,st:=(cY d:Int),fA:=(aN d:Int) }) hM hS (by rw[hm0];exact hD1.aa.mono N.p) (by rw[hm0]) (by rw[hm0]) (N.od.lk hbl) G rfl
 refine aC ?_
 refine zj Tryz.func34 ?_
 refine hru.mono ?_
 rintro _ h3 ⟨rfl,vr,vf,M3,K3⟩
 have hrl:=wl G hpt
 have hos:(dM d).length≤4096:=by unfold dM;rw[List.length_map];omega
 have hosy:∀ o∈dM d,o.an.length≤1000000:=fun o ho=>by have:=o6 G o ho;omega
 have hN3:=(N.n.dH K3 (by decide)).lk hbl
 have hNl:(ka d nm).length=aN d:=by
  unfold ka
  rw[List.length_append,List.length_append,List.length_append,NT.l]
  unfold aN cY
  split<;>rfl
 have hkn:=G.kn
 have hN5:aN d≤5000:=by
  have e1:nS d≤160:=by unfold nS;omega
  have e2:nK d≤3000:=hkn
  unfold aN cY
  split<;>omega
 have hKD:KD h1 h3 im { m0 with vn:=vn,vo:=vo,lZ:=bJ d,st:=(cY d:Int),fA:=(aN d:Int),vr:=vr,vf:=vf } d (dM d) (ka d nm):=⟨M3.p,by omega,M3.o,by rw[hm0];exact hD1,by rw[hm0],by rw[hm0],yW.rd M3.f om hosy,(aL.sl (b:=16) hN3 (by show (ka d nm).length*16≤_;omega)),by obtain⟨p,c,e⟩:=dt.form M3.r;exact⟨p,_,c,e⟩,by rw[hm0];exact⟨none,0,0,rfl⟩,by rw[hm0];exact⟨none,0,0,rfl⟩,by rw[hm0];exact⟨none,0,0,rfl⟩⟩
 have hu:∀ s∈fB d,cH d.aa s≠0:=hok 3 (by decide)
 have hfS:∀ x∈d.follows,x.sort∈aF d.aa∧dp x.set:=fun x hx=>⟨j3 (hu _ (by unfold fB;exact List.mem_append_left _ (List.mem_append_right _ (List.mem_map_of_mem hx)))),(hw.follows x hx).2⟩
 have hrS:∀ x∈d.ah,x.sort∈aF d.aa∧x.jB∈aF d.aa:=fun x hx=>⟨j3 (hu _ (by unfold fB nR;exact List.mem_append_right _ (List.mem_flatMap.2 ⟨x,hx,by simp⟩))),j3 (hu _ (by unfold fB nR;exact List.mem_append_right _ (List.mem_flatMap.2 ⟨x,hx,by simp⟩)))⟩
 have hsn:∀ x∈aF d.aa,gE d x<aN d:=fun x hx=>by
  have h1:=AJ hx
  unfold gE aN cY nS
  split<;>omega
 have hfi:=zV hKD (K3 _ _ N.sm rfl) (fun x hx=>AG hx) (by rw[hm0]) rfl hN5 (hok 11 (by decide)) hos (EK hpt) om (fun p hp=>by have:=(G.p p hp).n;omega) hosy (HN G (hok 11 (by decide)) hpt) hfS hrS om om hsn
 refine aC ?_
 refine zj Tryz.func35 ?_
 refine hfi.mono ?_
 rintro _ h4 ⟨rfl,vb,vF,vR,FI⟩
 have hob:=FI.o
 have K4:=H8 M3.o FI.k
 have hl3:h.length≤h3.length:=by have:=hp1.length_le;have:=M3.p.length_le;omega
 obtain⟨m4,hm4⟩:∃ m4:MK,m4={ m0 with vn:=vn,vo:=vo,lZ:=bJ d,st:=(cY d:Int),fA:=(aN d:Int),vr:=vr,vf:=vf,vb:=vb,vF:=vF,vR:=vR }:=⟨_,rfl⟩
 rw[← hm4] at hob
 have hKO:KO h h4 d m4 nm:=by
  refine⟨hp1.trans FI.p,?_,?_,?_,?_,?_,?_,?_,?_,NT.l,NT.e,?_,?_,?_⟩
  ·rw[hm4,hm0]
   exact hF.mono (j1.pre FI.p)
  ·rw[hm4,hm0]
  ·rw[hm4,hm0]
  ·rw[hm4]
  ·rw[hm4]
  ·rw[hm4]
   exact (dt.dH M3.r K4 (by decide) (by decide)).base hp1
  ·rw[hm4]
   exact (dt.dH M3.f K4 (by decide) (by decide)).base hp1
  ·rw[hm4]
   exact (hN3.dH K4 (by decide)).base hp1
  ·rw[hm4]
   exact FI.b.lk hl3
  ·rw[hm4]
   exact FI.F.lk hl3
  ·rw[hm4]
   exact FI.R.lk hl3
 obtain⟨q1,r1,e1⟩:=b9.form hKO.D.now.aa
 obtain⟨q2,r2,e2⟩:=b9.form hKO.D.now.aj
 obtain⟨q3,r3,e3⟩:=bT.form hKO.D.now.follows
 obtain⟨q4,r4,e4⟩:=bT.form hKO.D.now.ah
 obtain⟨q5,r5,e5⟩:=b9.form hKO.D.now.boxes
 obtain⟨q6,r6,e6⟩:=dt.form hKO.r
 obtain⟨q7,r7,e7⟩:=dt.form hKO.f
 obtain⟨q8,r8,e8⟩:=hKO.n.form
 obtain⟨q9,r9,e9⟩:=hKO.b.form
 obtain⟨qa,ra,ea⟩:=hKO.F.form
 obtain⟨qb,rb,eb⟩:=hKO.R.form
 simp only[MK.cells,e1,e2,e3,e4,e5,e6,e7,e8,e9,ea,eb] at hob
 refine aG hob ?_
 refine ak ?_
 refine⟨_,al,.inr ⟨hok,m4,nm,?_,hKO⟩⟩
 rw[ma,e1,e2,e3,e4,e5,e6,e7,e8,e9,ea,eb]
 rfl
·have hno:¬ lB d:=fun k=>q (he.2 k)
 have d1:=decide_eq_false q
 refine aG d1 ?_
 refine ag rfl ?_
 refine aC ?_
 refine ak ?_
 exact⟨_,al,.inl ⟨hno,rfl,rfl⟩⟩}
end
theorem dt.at {α:Type} {f:α→Value→List Value} {g:α→List Value} {w k:Nat} {et et2:TypeId} {h0 hk:ai} {v:Value} {l:List α} (hf:∀ x u,(f x u).length=k) (G:dt f g w et et2 h0 hk v l) {i:Nat} (hi:i<l.length) : ∃ id av c cells u n,v = .slice (some ⟨id,0,some av⟩) l.length c∧hk[id]? = some (.aq cells av true et)∧jr cells (i*k) k=some (f l[i] u)∧(g l[i]).length=n*w∧aL h0 hk u n (g l[i]) et2∧h0.length≤id:=by{
obtain⟨us,hl,G,hu⟩:=G
rcases G with ⟨e0,_,_⟩ | ⟨id,av,h1,rfl,h3⟩
·omega
have hi':i<us.length:=hl▸hi
obtain⟨n,en,g'⟩:=hu i l[i] us[i] (by simp [hi]) (by simp [hi'])
refine⟨id,av,_,_,us[i],n,rfl,h3,?_,en,g',h1⟩
refine bL (f:=fun p:α×Value=>f p.1 p.2) (fun _=>hf _ _) (l.zip us) i (l[i],us[i]) ?_
simp [List.getElem?_zip_eq_some,hi,hi']}
theorem pW.at {h0 hk:ai} {v:Value} {l:List dD} (G:pW h0 hk v l) {i:Nat} (hi:i<l.length) : ∃ id av c cells p c2,v = .slice (some ⟨id,0,some av⟩) l.length c∧hk[id]? = some (.aq cells av true 63)∧jr cells (i*2) 2=some [i64 l[i].lhs,.slice p l[i].rhs.length c2]∧aL h0 hk (.slice p l[i].rhs.length c2) l[i].rhs.length (l[i].rhs.flatMap bg.cells) 65∧h0.length≤id:=by{
obtain⟨id,av,c,cells,u,n,e1,e2,e3,e4,e5,e6⟩:=dt.at (k:=2) (fun _ _=>rfl) G hi
have hn:(Ur l[i]).length=l[i].rhs.length*5:=kx
obtain rfl:n=l[i].rhs.length:=by omega
obtain⟨p,c2,rfl⟩:=e5.form
exact⟨id,av,c,cells,p,c2,e1,e2,e3,e5,e6⟩}
section
variable {h h':ai} {d:bV} {m:MK} {nm:List ByteArray}
theorem iO:(dM d).length=(ol d).length:=List.length_map ..
theorem KO.RP (K:KO h h' d m nm):(ka d nm).length=aN d:=by{
unfold ka
rw[List.length_append,List.length_append,List.length_append,K.nl]
unfold aN cY
split<;>rfl}
theorem KO.ul (K:KO h h' d m nm) (G:nw d) (hp:dA d≤160):fI h' m.vf (dM d):=
 yW.rd K.f (by have:=wl G hp;rw[iO];omega) (fun o ho=>by have:=o6 G o ho;omega)
theorem KO.Mp (K:KO h h' d m nm) (G:nw d) (hp:dA d≤160):lY h' (ma m) (dM d) (ka d nm):=by{
obtain⟨q1,r1,e1⟩:=b9.form K.D.now.aa
obtain⟨q2,r2,e2⟩:=b9.form K.D.now.aj
obtain⟨q3,r3,e3⟩:=bT.form K.D.now.follows
obtain⟨q4,r4,e4⟩:=bT.form K.D.now.ah
obtain⟨q5,r5,e5⟩:=b9.form K.D.now.boxes
obtain⟨q6,r6,e6⟩:=dt.form K.r
obtain⟨q9,r9,e9⟩:=K.b.form
obtain⟨qa,ra,ea⟩:=K.F.form
obtain⟨qb,rb,eb⟩:=K.R.form
have hN:aN d≤5000:=by
 obtain⟨b1,b2,b3,b4,b5⟩:=kc hp
 have h1:=ct (ps:=d.aa)
 have h2:=G.kn
 have e1:nS d≤160:=by unfold nS;omega
 have e2:nK d≤3000:=h2
 unfold aN cY
 split<;>omega
refine⟨m.start,m.layout,q1,q2,q3,q4,q5,q6,q9,qa,qb,_,_,_,_,_,_,_,_,_,r1,r2,r3,r4,r5,r6,r9,ra,rb,m.fA,m.st,m.vf,m.vn,by rw[ma,e1,e2,e3,e4,e5,e6,e9,ea,eb],K.ul G hp,K.n.sl (by rw[K.RP];omega)⟩}
theorem sh (h:cZ d=true):qz d:=by{
intro b hb
unfold cZ at h
simp only[Bool.and_eq_true] at h
have h1:=List.all_eq_true.1 h.2.2.2.2.2 b hb
unfold gw at h1
simp only[Bool.and_eq_true,decide_eq_true_eq] at h1
omega}
end
theorem CN {α:Type} {f:α→Value→List Value} {l:List α} {us:List Value} {k:Nat} (hk:k<l.length) (hu:us.length=k) {u:Value}:((l.take (k+1)).zip (us++[u])).flatMap (fun p=>f p.1 p.2)=((l.take k).zip us).flatMap (fun p=>f p.1 p.2)++f l[k] u:=by
 rw[List.take_succ_eq_append_getElem hk,List.zip_append (by rw[List.length_take,hu];omega),List.flatMap_append]
 simp
structure U1 (h:ai) (l:List Item) (k:Nat) (x:ai×Value×List Value):Prop where
 p:h <+: x.1
 n:x.2.2.length=k
 g:aL h x.1 x.2.1 k (((l.take k).zip x.2.2).flatMap fun p=>Df p.1 p.2) 136
 d:∀ (i:Nat) (hi:i<l.length) (u:Value),x.2.2[i]? = some u→∀ y:ai,(∀ j o,h.length≤j→bZ x.2.1 j=false→x.1[j]? = some o→y[j]? = some o)→bi y u l[i].bo
theorem tB {h0:ai} {v:Value} {l:List Item} (hr:bi h0 v l):∀ {h:ai},h0 <+: h→FW env 30 [v] h fun r h'=>h <+: h'∧(∃ p c,r = .slice p l.length c)∧Fr (fun x=>bi x r l) h.length h':=by{
induction hr with
| @mk v l us hl hs hu ih=>
  intro h hp0
  have hle:=hs.1
  have hn:l.length≤140737488355328:=by omega
  obtain⟨pv,cv,rfl⟩:=hs.form
  refine fe Tryz.func30 ?_;simp only[push_cast]
  refine aC ?_
  refine aZ l.length (fun k (x:ai×Value×List Value)=>[(0,.val (.slice pv l.length cv)),(3,.val x.2.1),(4,.val (i64 k))]) (fun _ x=>x.1) (fun k x=>U1 h l k x) (h,aH,[]) aM rfl ⟨List.prefix_refl _,rfl,aL.nil,fun i hi u hu=>by simp at hu⟩ ?_
  rintro k ⟨hk,vo,W⟩ hkn I
  by_cases hlt:k<l.length
  ·have e1:=cD hlt
   have e2:=inc hlt hn
   have e3:=aW hlt
   have hi':k<us.length:=hl▸hlt
   obtain⟨id,av,own,c',hv,hid0⟩:=hs.at om
   cases hv
   have hid:=af (hp0.trans I.p) hid0
   have hg:=mT (f:=Df) (k:=4) (fun _ _=>rfl) hlt (show us[k]? = some us[k] by simp [hi'])
   have hrec:=@ih k l[k] us[k] (by simp [hlt]) (by simp [hi']) hk (hp0.trans I.p)
   obtain⟨pu,cu,hpu⟩:∃ p c,us[k] = .slice p l[k].bo.length c:=by
    have:=hu k l[k] us[k] (by simp [hlt]) (by simp [hi'])
    cases this with
    | mk us' h1 h2 h3=>exact h2.form
   rw[hpu] at hg hrec
   have IG:=I.g
   have IW:=I.n
   simp only at IG IW hid ⊢
   obtain⟨qo,co,rfl⟩:=IG.form
   refine aG e3 ?_
   refine ag rfl ?_
   refine g9 e1 hid hg ?_
   refine zj Tryz.func30 ?_
   refine hrec.mono ?_
   rintro _ h2 ⟨hp2,⟨p2,c2,rfl⟩,hF⟩
   have hG2:aL h h2 (.slice qo k co) k (((l.take k).zip W).flatMap fun p=>Df p.1 p.2) 136:=IG.mono fun j o _ g=>af hp2 g
   refine aC ?_
   refine jK (cs:=Df l[k] (.slice p2 l[k].bo.length c2)) (n:=k) al rfl kr EZ (by decide) rfl al al hG2 (I.p.trans hp2) (bU (f:=fun p:Item×Value=>Df p.1 p.2) (k:=4) (fun _=>rfl) _ |>.trans (by rw[List.length_zip,List.length_take,IW];simp only;omega)) rfl (by simp only;omega) om ?_
   intro p3 c3 h3 k1 k2 k3 k4 k5
   refine aG e2 ?_
   refine⟨hlt,(h3,.slice p3 (k+1) c3,W++[.slice p2 l[k].bo.length c2]),aM,rfl,⟨k2,by simp only[List.length_append,List.length_singleton];omega,?_,fun i hi u hu=>?_⟩⟩
   ·simp only
    rw[CN hlt IW]
    exact k1
   ·intro y hy
    simp only at hu hy
    rcases Nat.lt_trichotomy i k with h|h|h
    ·rw[List.getElem?_append_left om] at hu
     refine I.d i hi u hu y fun j o hj hv hg=>?_
     have hg2:=af hp2 hg
     have hjl:j<h2.length:=(List.getElem?_eq_some_iff.1 hg2).1
     refine hy j o hj ?_ (k3 j o hv hg2)
     cases e:bZ (Value.slice p3 (k+1) c3) j with
     | false=>rfl
     | true=>
       rcases (show bZ _ j=true∨j=h2.length from k4 j e) with h1|h1
       ·rw[h1] at hv;cases hv
       ·omega
    ·subst h
     rw[List.getElem?_append_right om,IW,Nat.sub_self] at hu
     cases hu
     refine hF y fun j o hj hg=>?_
     have hjl:j<h2.length:=(List.getElem?_eq_some_iff.1 hg).1
     have hv:bZ (Value.slice qo i co) j=false:=by
      cases e:bZ (Value.slice qo i co) j with
      | false=>rfl
      | true=>have:=(IG.lt e).2;omega
     refine hy j o (by have:=I.p.length_le;simp only at this;omega) ?_ (k3 j o hv hg)
     cases e:bZ (Value.slice p3 (i+1) c3) j with
     | false=>rfl
     | true=>
       rcases (show bZ _ j=true∨j=h2.length from k4 j e) with h1|h1
       ·rw[h1] at hv;cases hv
       ·omega
    ·have:=(List.getElem?_eq_some_iff.1 hu).1
     rw[List.length_append,List.length_singleton] at this
     omega
  ·have e3:=aU hlt
   obtain rfl:k=l.length:=by omega
   have IG:=I.g
   have IW:=I.n
   simp only at IG IW ⊢
   obtain⟨qo,co,rfl⟩:=IG.form
   refine aG e3 ?_
   refine ae rfl ?_
   refine aB ?_
   show CW _ _ _ _
   refine aC ?_
   refine ak ?_
   refine⟨_,al,I.p,⟨qo,co,rfl⟩,fun y hy=>.mk W (by rw[IW]) ?_ fun i x u h1 h2=>?_⟩
   ·have:=(IG.mono (h':=y) fun j o hj g=>hy j o (IG.lt hj).1 g).sl (b:=56) om
    rw[List.take_length] at this
    exact this
   ·obtain⟨hi,rfl⟩:=List.getElem?_eq_some_iff.1 h1
    exact I.d i hi u h2 y fun j o hj _ g=>hy j o hj g}
abbrev Tm:Prod→Value→List Value:=fun p u=>[.bool p.lex,.string p.sort,.string p.cons,.bool p.bracket,u]
abbrev TJ:Prod→List Value:=fun p=>p.an.flatMap Sym.cells
def wY:=dt Tm TJ 8 51 56
abbrev RT:Dg→Value→List Value:=fun p u=>[.string p.cons,u]
abbrev TT:dB→Value→List Value:=fun g u=>[i64 g.assoc,u]
abbrev Ug:dB→List Value:=fun g=>g.cons.map .string
def zM:=dt TT Ug 1 82 9
theorem dt.Us {α:Type} {f:α→Value→List Value} {g:α→List Value} {w b:Nat} {et et2:TypeId} {h0 a:ai} {v:Value} {l:List α} {R:ai→Value→α→Prop} (L:dt f g w et et2 h0 a v l) (hb:l.length*b≤140737488355328) (hR:∀ x u n,x∈l→(g x).length=n*w→aL h0 a u n (g x) et2→R a u x):b9 f R et b a v l:=by{
obtain⟨us,hl,G,hu⟩:=L
refine⟨us,hl,G.sl hb,fun i x u h1 h2=>?_⟩
obtain⟨n,e,g'⟩:=hu i x u h1 h2
exact hR x u n (List.mem_of_getElem? h1) e g'}
theorem cj.dI {a b:ai} {v:Value} {l:List dB} {ts:List TypeId} (h:cj a v l) (k:bu ts a b) (h1:82∉ts) (h2:9∉ts):cj b v l:=b9.dI h k h1 fun u x hu=>bT.dI hu k h2
theorem bi.dI {a b:ai} {v:Value} {l:List Item} {ts:List TypeId} (h:bi a v l) (k:bu ts a b) (h1:136∉ts):bi b v l:=by
 induction h with
 | mk us h1' h2 _ ih=>exact .mk us h1' (h2.dI k h1) ih
section
variable {h:ai} {d:bV} {up uc uf ur ub:Value}
abbrev nG (d:bV) (v1 v2 v3 v4 v5:Value):List Value:=[.string d.start,.string d.layout,v1,v2,v3,v4,v5]
structure Db (h:ai) (i3:Nat) (d:bV) (x:ai) (v1 v2 v3 v4 v5:Value):Prop where
 p:h <+: x
 o:x[i3]? = some (.aq (nG d v1 v2 v3 v4 v5) 0 true 28)
structure UH (h:ai) (d:bV) (k:Nat) (x:ai×Value):Prop where
 e:∃ us:List Value,us.length=k∧aL h x.1 x.2 k (((d.aj.take k).zip us).flatMap fun p=>[p.2]) 80∧∀ (i:Nat) (hi:i<d.aj.length) (u:Value),us[i]? = some u→cj x.1 u d.aj[i]
theorem EP (hd:bw h d up uc uf ur ub):FW env 14 [.agg (d.val up uc uf ur ub).toArray] h fun r h'=>h <+: h'∧∃ vp vc vf vr vb,r = .agg (d.val vp vc vf vr vb).toArray∧bw h' d vp vc vf vr vb∧wY h h' vp d.aa:=by{
have hd0:=hd
obtain⟨p1,c1,p2,c2,p3,c3,p4,c4,p5,c5,rfl,rfl,rfl,rfl,rfl,l1,l2,l3,l4,l5⟩:=bw.form hd
have hb1:d.aa.length*72≤140737488355328:=by obtain⟨us,_,hs,_⟩:=hd0.aa;exact hs.1
have hb2:d.aj.length*24≤140737488355328:=by obtain⟨us,_,hs,_⟩:=hd0.aj;exact hs.1
have hb5:d.boxes.length*40≤140737488355328:=by obtain⟨us,hl,hs,_⟩:=hd0.boxes;exact hs.1
refine fe Tryz.func14 ?_;simp only[push_cast]
unfold bV.val
refine zu ?_
iterate 2 (refine zx oj ?_)
apply zn
show CW _ _ ⟨_,[],h⟩ _
try apply zs
refine zu ?_
iterate 5 (refine zx oj ?_)
refine dL (t:=28) (cs:=[.string ⟨#[]⟩,.string ⟨#[]⟩,aH,aH,aH,aH,aH]) al al ?_
dsimp only[St.be,St.put]
refine bY (v:=.agg (d.val aH aH aH aH aH).toArray) (vs:=nG d aH aH aH aH aH) (cells':=nG d aH aH aH aH aH) al rfl rfl rfl al aK al rfl rfl ?_
dsimp only
have S0:Db h h.length d ((h++[ax.aq [.string ⟨#[]⟩,.string ⟨#[]⟩,aH,aH,aH,aH,aH] 0 true 28]).set h.length (.aq (nG d aH aH aH aH aH) 0 true 28)) aH aH aH aH aH:=⟨a8 aJ (Nat.le_refl _),aw aK⟩
generalize ((h++[ax.aq [.string ⟨#[]⟩,.string ⟨#[]⟩,aH,aH,aH,aH,aH] 0 true 28]).set h.length (.aq (nG d aH aH aH aH aH) 0 true 28))=h1 at S0 ⊢
have hi3:h.length≤h.length:=Nat.le_refl _
generalize hg3:h.length=i3 at S0 ⊢
refine aC ?_
refine CW.mono (Q:=fun e s'=>e = .exit 0∧∃ x:ai×Value,Db h i3 d x.1 x.2 aH aH aH aH∧wY h x.1 x.2 d.aa∧s'.h=x.1∧bG [(1,.box [.string d.start,.string d.layout,.slice p1 d.aa.length c1,.slice p2 d.aj.length c2,.slice p3 d.follows.length c3,.slice p4 d.ah.length c4,.slice p5 d.boxes.length c5]),(2,.box [.string ⟨#[]⟩,.string ⟨#[]⟩,aH,aH,aH,aH,aH]),(3,.val (.pointer (some ⟨i3,0,some 0⟩)))] s'.fr) ?_ ?_
·refine aZ d.aa.length (fun k (x:ai×Value)=>[(1,.box [.string d.start,.string d.layout,.slice p1 d.aa.length c1,.slice p2 d.aj.length c2,.slice p3 d.follows.length c3,.slice p4 d.ah.length c4,.slice p5 d.boxes.length c5]),(2,.box [.string ⟨#[]⟩,.string ⟨#[]⟩,aH,aH,aH,aH,aH]),(3,.val (.pointer (some ⟨i3,0,some 0⟩))),(4,.val (i64 k))]) (fun _ x=>x.1) (fun k x=>Db h i3 d x.1 x.2 aH aH aH aH∧wY h x.1 x.2 (d.aa.take k)) (h1,aH) aM rfl ⟨S0,by rw[List.take_zero];exact dt.nil⟩ ?_
 rintro k ⟨hk,vo⟩ hkn ⟨S,L⟩
 by_cases hlt:k<d.aa.length
 ·obtain⟨id,av,own,c',cells,u,hv,hid,hrd,hu⟩:=b9.at (k:=5) (fun _ _=>rfl) (hd0.aa.mono S.p) hlt
  cases hv
  simp only at S L hid hu ⊢
  have hu:fK hk u d.aa[k].an:=hu
  obtain⟨ps,cs,rfl⟩:=bT.form hu
  have hul:=hu.1
  have hso:=S.o
  obtain⟨qo,co,rfl⟩:=dt.form L
  have hlk:(d.aa.take k).length=k:=by rw[List.length_take];omega
  rw[hlk] at hso
  have w1:=cD hlt
  have w2:=inc hlt om
  have q3:=aW hlt
  refine aG q3 ?_
  refine ag rfl ?_
  refine g9 w1 hid hrd ?_
  refine fG (h:=h) (n:=0) (cells:=[]) (m:=d.aa[k].an.length) (b:=88) (cs:=d.aa[k].an.flatMap Sym.cells) kr E3 (by decide) rfl aL.nil S.p rfl hu (bU (f:=Sym.cells) (k:=8) (fun _=>rfl) _) (by simp only;omega) om al rfl al al ?_
  intro py cy h2 k1 k2 k3
  simp only[Nat.zero_add,List.nil_append] at k2
  have hK2:bu [] hk h2:=fun j o e _=>k3 j o rfl e
  have hso2:=hK2 _ _ hso (cE (by decide))
  have L2:=dt.dH L hK2 (by decide) (by decide)
  obtain⟨us,hl,G2,hu2⟩:=L2
  rw[hlk] at G2
  refine aG hso2 ?_
  refine jK (h:=h) (cs:=Tm d.aa[k] (.slice py d.aa[k].an.length cy)) (n:=k) al rfl kr KS (by decide) rfl al al G2 k1 (bU (f:=fun p:Prod×Value=>Tm p.1 p.2) (k:=5) (fun _=>rfl) _ |>.trans (by rw[List.length_zip,hl,List.length_take];simp only;omega)) rfl (by simp only;omega) om ?_
  intro p6 c6 h4 m1 m2 m3 m4 m5
  have hK4:bu [51] h2 h4:=bu.push G2 m3
  have hso4:=hK4 _ _ hso2 (cE (by decide))
  iterate 1 (refine zx oj ?_)
  refine bY (v:=.slice p6 (k+1) c6) (vs:=[.slice p6 (k+1) c6]) (cells':=nG d (.slice p6 (k+1) c6) aH aH aH aH) al rfl rfl rfl al hso4 al rfl rfl ?_
  dsimp only
  have S5:Db h i3 d (h4.set i3 (.aq (nG d (.slice p6 (k+1) c6) aH aH aH aH) 0 true 28)) (.slice p6 (k+1) c6) aH aH aH aH:=⟨a8 m2 om,aw hso4⟩
  have hK5:bu [28] h4 (h4.set i3 (.aq (nG d (.slice p6 (k+1) c6) aH aH aH aH) 0 true 28)):=bu.set hso4
  have L5:=dt.dH (dt.push (g:=TJ) (w:=8) (n:=d.aa[k].an.length) (x:=d.aa[k]) hl hu2 hK4 (by decide) (by rw[hlk];exact m1) (bU (f:=Sym.cells) (k:=8) (fun _=>rfl) _) k2) hK5 (by decide) (by decide)
  generalize h4.set i3 (.aq (nG d (.slice p6 (k+1) c6) aH aH aH aH) 0 true 28)=h5 at S5 L5 ⊢
  refine aG w2 ?_
  refine⟨hlt,(h5,.slice p6 (k+1) c6),aM,rfl,S5,?_⟩
  show wY _ _ _ (d.aa.take (k+1))
  rw[List.take_succ_eq_append_getElem hlt]
  exact L5
 ·have q3:=aU hlt
  obtain rfl:k=d.aa.length:=by omega
  rw[List.take_length] at L
  refine aG q3 ?_
  refine ae rfl ?_
  refine aB ?_
  exact⟨rfl,(hk,vo),S,L,rfl,aM⟩
rintro e s' ⟨rfl,⟨h2,vp⟩,S,LP,hh,hf⟩
show CW _ _ _ _
refine aA _ hf ?_
rw[hh]
clear hf hh s' S0
simp only at S LP ⊢
obtain⟨qp,cp,hvp⟩:=dt.form LP
subst hvp
have hK0:∀ {x:ai},bu [80,82,9,28] h2 x→wY h x (.slice qp d.aa.length cp) d.aa:=fun k=>dt.dH LP k (by decide) (by decide)
refine aC ?_
refine CW.mono (Q:=fun e s'=>e = .exit 2∧∃ x:ai×Value,Db h i3 d x.1 (.slice qp d.aa.length cp) x.2 aH aH aH∧bu [80,82,9,28] h2 x.1∧gT x.1 x.2 d.aj∧s'.h=x.1∧bG [(1,.box [.string d.start,.string d.layout,.slice p1 d.aa.length c1,.slice p2 d.aj.length c2,.slice p3 d.follows.length c3,.slice p4 d.ah.length c4,.slice p5 d.boxes.length c5]),(2,.box [.string ⟨#[]⟩,.string ⟨#[]⟩,aH,aH,aH,aH,aH]),(3,.val (.pointer (some ⟨i3,0,some 0⟩)))] s'.fr) ?_ ?_
·refine aZ d.aj.length (fun k (x:ai×Value)=>[(1,.box [.string d.start,.string d.layout,.slice p1 d.aa.length c1,.slice p2 d.aj.length c2,.slice p3 d.follows.length c3,.slice p4 d.ah.length c4,.slice p5 d.boxes.length c5]),(2,.box [.string ⟨#[]⟩,.string ⟨#[]⟩,aH,aH,aH,aH,aH]),(3,.val (.pointer (some ⟨i3,0,some 0⟩))),(7,.val (i64 k))]) (fun _ x=>x.1) (fun k x=>Db h i3 d x.1 (.slice qp d.aa.length cp) x.2 aH aH aH∧bu [80,82,9,28] h2 x.1∧UH h d k x) (h2,aH) aM rfl ⟨S,bu.refl,⟨[],rfl,aL.nil,fun i hi u hu=>by simp at hu⟩⟩ ?_
 clear S
 rintro k ⟨hk,vo⟩ hkn ⟨S,K2,⟨us,hus,G2,hR⟩⟩
 simp only at S K2 G2 hR ⊢
 obtain⟨qo,co,rfl⟩:=G2.form
 by_cases hlt:k<d.aj.length
 ·obtain⟨id,av,own,c',cells,u,hv,hid,hrd,hu⟩:=b9.at (k:=1) (fun _ _=>rfl) (hd0.aj.mono S.p) hlt
  cases hv
  have hu:cj hk u d.aj[k]:=hu
  obtain⟨pg,cg,rfl⟩:=b9.form hu
  have hgb:d.aj[k].length*32≤140737488355328:=by obtain⟨_,_,hs,_⟩:=hu;exact hs.1
  have hr0:=fy hrd om
  simp only[List.getElem?_cons_zero,Nat.mul_one] at hr0
  have hso:=S.o
  have w1:=cD hlt
  have w2:=inc hlt om
  have q3:=aW hlt
  obtain⟨ch,hch⟩:∃ ch,ch=d.aj[k]:=⟨_,rfl⟩
  rw[← hch] at hu hgb hr0 hrd
  refine aG q3 ?_
  refine ag rfl ?_
  refine aC ?_
  refine CW.mono (Q:=fun e s'=>e = .exit 4∧∃ y:ai×Value,hk <+: y.1∧zM hk y.1 y.2 ch∧s'.h=y.1∧bG [(1,.box [.string d.start,.string d.layout,.slice p1 d.aa.length c1,.slice (some ⟨id,0,some av⟩) d.aj.length c2,.slice p3 d.follows.length c3,.slice p4 d.ah.length c4,.slice p5 d.boxes.length c5]),(2,.box [.string ⟨#[]⟩,.string ⟨#[]⟩,aH,aH,aH,aH,aH]),(3,.val (.pointer (some ⟨i3,0,some 0⟩))),(7,.val (i64 k)),(8,.val y.2)] s'.fr) ?_ ?_
  ·refine aZ ch.length (fun j (y:ai×Value)=>[(1,.box [.string d.start,.string d.layout,.slice p1 d.aa.length c1,.slice (some ⟨id,0,some av⟩) d.aj.length c2,.slice p3 d.follows.length c3,.slice p4 d.ah.length c4,.slice p5 d.boxes.length c5]),(2,.box [.string ⟨#[]⟩,.string ⟨#[]⟩,aH,aH,aH,aH,aH]),(3,.val (.pointer (some ⟨i3,0,some 0⟩))),(7,.val (i64 k)),(8,.val y.2),(9,.val (i64 j))]) (fun _ y=>y.1) (fun j y=>hk <+: y.1∧zM hk y.1 y.2 (ch.take j)) (hk,aH) aM rfl ⟨List.prefix_refl _,by rw[List.take_zero];exact dt.nil⟩ ?_
   rintro j ⟨hy,vl⟩ hjn ⟨hpy,L⟩
   simp only at hpy L ⊢
   have hidy:=af hpy hid
   by_cases hjl:j<ch.length
   ·obtain⟨id2,ver2,own2,c3,cells2,u2,hv2,hid2,hrd2,hu2⟩:=b9.at (k:=2) (fun _ _=>rfl) (cj.dI hu (bu.pre (ts:=[]) hpy) (by decide) (by decide)) hjl
    cases hv2
    have hu2:bm hy u2 ch[j].cons:=hu2
    obtain⟨pn,cn,rfl⟩:=hu2.form
    have hnb:ch[j].cons.length*16≤140737488355328:=hu2.1
    have hg0:=fy hrd2 om
    have hg1:=eR (j:=1) hrd2 om
    simp only[List.getElem?_cons_succ,List.getElem?_cons_zero] at hg0 hg1
    obtain⟨ql,cl,hvl⟩:=dt.form L
    have hlj:(ch.take j).length=j:=by rw[List.length_take];omega
    rw[hlj] at hvl
    subst hvl
    have v1:=cD hjl
    have v2:=inc hjl om
    have v3:=aW hjl
    refine mc w1 hidy Nat.mul_one hr0 v3 ?_
    refine ag rfl ?_
    refine C5 w1 hidy Nat.mul_one hr0 v1 hid2 hg0 ?_
    refine aR 11 mixed kr ?_
    refine C5 w1 hidy Nat.mul_one hr0 v1 hid2 hg1 ?_
    refine fG (h:=hk) (n:=0) (cells:=[]) (m:=ch[j].cons.length) (b:=16) (cs:=ch[j].cons.map .string) kr F5 (by decide) rfl aL.nil hpy rfl hu2 (by rw[List.length_map];simp only;omega) (by simp only;omega) om al rfl al al ?_
    intro py cy h4 k1 k2 k3
    simp only[Nat.zero_add,List.nil_append] at k2
    have hK4:bu [] hy h4:=fun j o e _=>k3 j o rfl e
    obtain⟨ws,hwl,G4,hw4⟩:=dt.dH L hK4 (by decide) (by decide)
    rw[hlj] at G4
    refine aC ?_
    refine jK (h:=hk) (cs:=TT ch[j] (.slice py ch[j].cons.length cy)) (n:=j) al rfl kr MW (by decide) rfl al al G4 k1 (bU (f:=fun p:dB×Value=>TT p.1 p.2) (k:=2) (fun _=>rfl) _ |>.trans (by rw[List.length_zip,hwl,List.length_take];simp only;omega)) rfl (by simp only;omega) om ?_
    intro p6 c6 h5 m1 m2 m3 m4 m5
    have hK5:bu [82] h4 h5:=bu.push G4 m3
    have L5:=dt.push (g:=Ug) (w:=1) (n:=ch[j].cons.length) (x:=ch[j]) hwl hw4 hK5 (by decide) (by rw[hlj];exact m1) (by rw[List.length_map,Nat.mul_one]) k2
    refine aG v2 ?_
    refine⟨hjl,(h5,.slice p6 (j+1) c6),aM,rfl,m2,?_⟩
    show zM _ _ _ (ch.take (j+1))
    rw[List.take_succ_eq_append_getElem hjl]
    exact L5
   ·have v3:=aU hjl
    obtain rfl:j=ch.length:=by omega
    rw[List.take_length] at L
    refine mc w1 hidy Nat.mul_one hr0 v3 ?_
    refine ae rfl ?_
    refine aB ?_
    exact⟨rfl,(hy,vl),hpy,L,rfl,aM⟩
  rintro e s' ⟨rfl,⟨h4,vl⟩,hp4,L4,hh,hf⟩
  show CW _ _ _ _
  refine aA _ hf ?_
  rw[hh]
  clear hf hh s'
  simp only at hp4 L4 ⊢
  obtain⟨ql,cl,rfl⟩:=dt.form L4
  have hso4:=af hp4 hso
  have G4:aL h h4 (.slice qo k co) k (((d.aj.take k).zip us).flatMap fun p=>[p.2]) 80:=G2.mono fun j o _ g=>af hp4 g
  have hC4:cj h4 (.slice ql ch.length cl) ch:=dt.Us L4 hgb (fun x u n hx e g=>by
   have e2:n=x.cons.length:=by have:(Ug x).length=x.cons.length:=List.length_map ..;omega
   subst e2
   refine g.sl (b:=16) ?_
   obtain⟨i,hi,rfl⟩:=List.getElem_of_mem hx
   obtain⟨_,_,_,_,_,u',_,_,_,hu'⟩:=b9.at (k:=2) (fun _ _=>rfl) hu hi
   exact hu'.1)
  refine aG hso4 ?_
  refine jK (h:=h) (cs:=[.slice ql ch.length cl]) (n:=k) al rfl kr Kh (by decide) rfl al al G4 (S.p.trans hp4) (bU (f:=fun p:List dB×Value=>[p.2]) (k:=1) (fun _=>rfl) _ |>.trans (by rw[List.length_zip,hus,List.length_take];simp only;omega)) rfl (by simp only;omega) om ?_
  intro p6 c6 h5 m1 m2 m3 m4 m5
  have hK5:bu [80] h4 h5:=bu.push G4 m3
  have hso5:=hK5 _ _ hso4 (cE (by decide))
  iterate 1 (refine zx oj ?_)
  refine bY (v:=.slice p6 (k+1) c6) (vs:=[.slice p6 (k+1) c6]) (cells':=nG d (.slice qp d.aa.length cp) (.slice p6 (k+1) c6) aH aH aH) al rfl rfl rfl al hso5 al rfl rfl ?_
  dsimp only
  have S6:Db h i3 d (h5.set i3 (.aq (nG d (.slice qp d.aa.length cp) (.slice p6 (k+1) c6) aH aH aH) 0 true 28)) (.slice qp d.aa.length cp) (.slice p6 (k+1) c6) aH aH aH:=⟨a8 m2 om,aw hso5⟩
  have hK6:bu [28] h5 (h5.set i3 (.aq (nG d (.slice qp d.aa.length cp) (.slice p6 (k+1) c6) aH aH aH) 0 true 28)):=bu.set hso5
  have G6:=m1.dH hK6 (by decide)
  generalize h5.set i3 (.aq (nG d (.slice qp d.aa.length cp) (.slice p6 (k+1) c6) aH aH aH) 0 true 28)=h6 at S6 hK6 G6 ⊢
  refine aG w2 ?_
  refine⟨hlt,(h6,.slice p6 (k+1) c6),aM,rfl,S6,(K2.trans (bu.pre hp4)).trans ((hK5.low (by decide)).trans (hK6.low (by decide))),⟨us++[.slice ql ch.length cl],by simp only[List.length_append,List.length_singleton];omega,?_,fun i hi u hu9=>?_⟩⟩
  ·simp only
   rw[List.take_succ_eq_append_getElem hlt,List.zip_append (by rw[List.length_take,hus];omega),List.flatMap_append]
   exact G6
  ·simp only
   rcases Nat.lt_trichotomy i k with g|g|g
   ·rw[List.getElem?_append_left om] at hu9
    have h7:=hR i hi u hu9
    exact cj.dI (cj.dI (cj.dI h7 (bu.pre (ts:=[]) hp4) (by decide) (by decide)) hK5 (by decide) (by decide)) hK6 (by decide) (by decide)
   ·subst g
    rw[List.getElem?_append_right om,hus,Nat.sub_self] at hu9
    cases hu9
    rw[← hch]
    exact cj.dI (cj.dI hC4 hK5 (by decide) (by decide)) hK6 (by decide) (by decide)
   ·have:=(List.getElem?_eq_some_iff.1 hu9).1
    rw[List.length_append,List.length_singleton] at this
    omega
 ·have q3:=aU hlt
  obtain rfl:k=d.aj.length:=by omega
  refine aG q3 ?_
  refine ae rfl ?_
  refine aB ?_
  refine⟨rfl,(hk,.slice qo d.aj.length co),S,K2,⟨us,hus,?_,fun i x u h1 h2=>?_⟩,rfl,aM⟩
  ·have:=G2.sl (b:=24) hb2
   rw[List.take_length] at this
   exact this
  ·obtain⟨hi,rfl⟩:=List.getElem?_eq_some_iff.1 h1
   exact hR i hi u h2
rintro e s' ⟨rfl,⟨h3,vc⟩,S,K3,LC,hh,hf⟩
show CW _ _ _ _
refine aA _ hf ?_
rw[hh]
clear hf hh s'
simp only at S K3 LC ⊢
have LP3:=hK0 K3
clear hK0 LP K3
obtain⟨qc,cc,rfl⟩:=b9.form LC
have hso:=S.o
have hbf:=hd0.follows.1
have hbr:=hd0.ah.1
refine aG hso ?_
refine fG (h:=h) (n:=0) (cells:=[]) (m:=d.follows.length) (b:=48) (cs:=d.follows.flatMap dU.cells) kr Fw (by decide) rfl aL.nil S.p rfl (bT.mono hd0.follows S.p) (bU (f:=dU.cells) (k:=5) (fun _=>rfl) _) (by simp only;omega) om al rfl al al ?_
intro qf cf h4 k1 k2 k3
simp only[Nat.zero_add,List.nil_append] at k2
have hK4:bu [] h3 h4:=fun j o e _=>k3 j o rfl e
have hso4:=hK4 _ _ hso (cE (by decide))
rw[Nat.zero_add]
iterate 1 (refine zx oj ?_)
refine bY (v:=(.slice qf d.follows.length cf)) (vs:=[(.slice qf d.follows.length cf)]) (cells':=nG d (.slice qp d.aa.length cp) (.slice qc d.aj.length cc) (.slice qf d.follows.length cf) aH aH) al rfl rfl rfl al hso4 al rfl rfl ?_
dsimp only
have S5:Db h i3 d (h4.set i3 (.aq (nG d (.slice qp d.aa.length cp) (.slice qc d.aj.length cc) (.slice qf d.follows.length cf) aH aH) 0 true 28)) (.slice qp d.aa.length cp) (.slice qc d.aj.length cc) (.slice qf d.follows.length cf) aH aH:=⟨a8 k1 om,aw hso4⟩
have hK5:bu [28] h4 (h4.set i3 (.aq (nG d (.slice qp d.aa.length cp) (.slice qc d.aj.length cc) (.slice qf d.follows.length cf) aH aH) 0 true 28)):=bu.set hso4
generalize h4.set i3 (.aq (nG d (.slice qp d.aa.length cp) (.slice qc d.aj.length cc) (.slice qf d.follows.length cf) aH aH) 0 true 28)=h5 at S5 hK5 ⊢
have LP5:=dt.dH (dt.dH LP3 hK4 (by decide) (by decide)) hK5 (by decide) (by decide)
have LC5:gT h5 (.slice qc d.aj.length cc) d.aj:=b9.dI LC ((hK4.low (ts':=[28]) (by simp)).trans hK5) (by decide) fun u x hu=>cj.dI hu ((hK4.low (ts':=[28]) (by simp)).trans hK5) (by decide) (by decide)
have LF5:jO h5 (.slice qf d.follows.length cf) d.follows:=bT.dI (k2.sl (b:=48) hbf) hK5 (by decide)
clear hK4 hK5 hso4 hso LP3 LC S k1 k2 k3
apply zn
show CW _ _ _ _
refine aA [(1,.box [.string d.start,.string d.layout,.slice p1 d.aa.length c1,.slice p2 d.aj.length c2,.slice p3 d.follows.length c3,.slice p4 d.ah.length c4,.slice p5 d.boxes.length c5]),(2,.box [.string ⟨#[]⟩,.string ⟨#[]⟩,aH,aH,aH,aH,aH]),(3,.val (.pointer (some ⟨i3,0,some 0⟩)))] aM ?_
show CW _ _ ⟨_,[],h5⟩ _
try apply zs
have hso:=S5.o
refine aG hso ?_
refine fG (h:=h) (n:=0) (cells:=[]) (m:=d.ah.length) (b:=32) (cs:=d.ah.flatMap dh.cells) kr Fs (by decide) rfl aL.nil S5.p rfl (bT.mono hd0.ah S5.p) (bU (f:=dh.cells) (k:=2) (fun _=>rfl) _) (by simp only;omega) om al rfl al al ?_
intro qr cr h6 k1 k2 k3
simp only[Nat.zero_add,List.nil_append] at k2
have hK6:bu [] h5 h6:=fun j o e _=>k3 j o rfl e
have hso6:=hK6 _ _ hso (cE (by decide))
rw[Nat.zero_add]
iterate 1 (refine zx oj ?_)
refine bY (v:=(.slice qr d.ah.length cr)) (vs:=[(.slice qr d.ah.length cr)]) (cells':=nG d (.slice qp d.aa.length cp) (.slice qc d.aj.length cc) (.slice qf d.follows.length cf) (.slice qr d.ah.length cr) aH) al rfl rfl rfl al hso6 al rfl rfl ?_
dsimp only
have S7:Db h i3 d (h6.set i3 (.aq (nG d (.slice qp d.aa.length cp) (.slice qc d.aj.length cc) (.slice qf d.follows.length cf) (.slice qr d.ah.length cr) aH) 0 true 28)) (.slice qp d.aa.length cp) (.slice qc d.aj.length cc) (.slice qf d.follows.length cf) (.slice qr d.ah.length cr) aH:=⟨a8 k1 om,aw hso6⟩
have hK7:bu [28] h6 (h6.set i3 (.aq (nG d (.slice qp d.aa.length cp) (.slice qc d.aj.length cc) (.slice qf d.follows.length cf) (.slice qr d.ah.length cr) aH) 0 true 28)):=bu.set hso6
generalize h6.set i3 (.aq (nG d (.slice qp d.aa.length cp) (.slice qc d.aj.length cc) (.slice qf d.follows.length cf) (.slice qr d.ah.length cr) aH) 0 true 28)=h7 at S7 hK7 ⊢
have hK57:=(hK6.low (ts':=[28]) (by simp)).trans hK7
have LP7:=dt.dH LP5 hK57 (by decide) (by decide)
have LC7:gT h7 (.slice qc d.aj.length cc) d.aj:=b9.dI LC5 hK57 (by decide) fun u x hu=>cj.dI hu hK57 (by decide) (by decide)
have LF7:jO h7 (.slice qf d.follows.length cf) d.follows:=bT.dI LF5 hK57 (by decide)
have LR7:lP h7 (.slice qr d.ah.length cr) d.ah:=bT.dI (k2.sl (b:=32) hbr) hK7 (by decide)
clear hK6 hK7 hK57 hso6 hso LP5 LC5 LF5 S5 k1 k2 k3
apply zn
show CW _ _ _ _
refine aA [(1,.box [.string d.start,.string d.layout,.slice p1 d.aa.length c1,.slice p2 d.aj.length c2,.slice p3 d.follows.length c3,.slice p4 d.ah.length c4,.slice p5 d.boxes.length c5]),(2,.box [.string ⟨#[]⟩,.string ⟨#[]⟩,aH,aH,aH,aH,aH]),(3,.val (.pointer (some ⟨i3,0,some 0⟩)))] aM ?_
show CW _ _ ⟨_,[],h7⟩ _
try apply zs
refine aC ?_
refine CW.mono (Q:=fun e s'=>e = .exit 6∧∃ x:ai×Value,Db h i3 d x.1 (.slice qp d.aa.length cp) (.slice qc d.aj.length cc) (.slice qf d.follows.length cf) (.slice qr d.ah.length cr) x.2∧bu [85,28] h7 x.1∧kA x.1 x.2 d.boxes∧s'.h=x.1∧bG [(1,.box [.string d.start,.string d.layout,.slice p1 d.aa.length c1,.slice p2 d.aj.length c2,.slice p3 d.follows.length c3,.slice p4 d.ah.length c4,.slice p5 d.boxes.length c5]),(2,.box [.string ⟨#[]⟩,.string ⟨#[]⟩,aH,aH,aH,aH,aH]),(3,.val (.pointer (some ⟨i3,0,some 0⟩)))] s'.fr) ?_ ?_
·refine aZ d.boxes.length (fun k (x:ai×Value)=>[(1,.box [.string d.start,.string d.layout,.slice p1 d.aa.length c1,.slice p2 d.aj.length c2,.slice p3 d.follows.length c3,.slice p4 d.ah.length c4,.slice p5 d.boxes.length c5]),(2,.box [.string ⟨#[]⟩,.string ⟨#[]⟩,aH,aH,aH,aH,aH]),(3,.val (.pointer (some ⟨i3,0,some 0⟩))),(11,.val (i64 k))]) (fun _ x=>x.1) (fun k x=>Db h i3 d x.1 (.slice qp d.aa.length cp) (.slice qc d.aj.length cc) (.slice qf d.follows.length cf) (.slice qr d.ah.length cr) x.2∧bu [85,28] h7 x.1∧∃ us:List Value,us.length=k∧aL h x.1 x.2 k (((d.boxes.take k).zip us).flatMap fun p=>RT p.1 p.2) 85∧∀ (i:Nat) (hi:i<d.boxes.length) (u:Value),us[i]? = some u→bi x.1 u d.boxes[i].bo) (h7,aH) aM rfl ⟨S7,bu.refl,[],rfl,aL.nil,fun i hi u hu=>by simp at hu⟩ ?_
 rintro k ⟨hk,vo⟩ hkn ⟨S,K2,us,hus,G2,hR⟩
 simp only at S K2 G2 hR ⊢
 obtain⟨qo,co,rfl⟩:=G2.form
 by_cases hlt:k<d.boxes.length
 ·obtain⟨id,av,own,c',cells,u,hv,hid,hrd,hu⟩:=b9.at (k:=2) (fun _ _=>rfl) (hd0.mono S.p).boxes hlt
  cases hv
  have hu:bi hk u d.boxes[k].bo:=hu
  obtain⟨pu,cu,rfl⟩:∃ p c,u = .slice p d.boxes[k].bo.length c:=by
   cases hu with
   | mk us' h1 h2 h3=>exact h2.form
  have hg0:=fy hrd om
  have hg1:=eR (j:=1) hrd om
  simp only[List.getElem?_cons_succ,List.getElem?_cons_zero] at hg0 hg1
  have hso:=S.o
  have w1:=cD hlt
  have w2:=inc hlt om
  have q3:=aW hlt
  have hrec:=tB hu (List.prefix_refl hk)
  unfold FW at hrec
  obtain⟨_,h4,hcall,hp4,⟨p2',c2',rfl⟩,hF4⟩:=hrec
  have hso4:=af hp4 hso
  have hid4:=af hp4 hid
  have G4:aL h h4 (.slice qo k co) k (((d.boxes.take k).zip us).flatMap fun p=>RT p.1 p.2) 85:=G2.mono fun j o _ g=>af hp4 g
  obtain⟨p6,c6,h5,hone,m1,m2,m3,m4,m5⟩:=hZ (cs:=RT d.boxes[k] (.slice p2' d.boxes[k].bo.length c2')) (t:=26) kr Ks (by decide) rfl G4 (S.p.trans hp4) (bU (f:=fun p:Dg×Value=>RT p.1 p.2) (k:=2) (fun _=>rfl) _ |>.trans (by rw[List.length_zip,hus,List.length_take];simp only;omega)) rfl (by simp only;omega) om
  have hK5:bu [85] h4 h5:=bu.push G4 m3
  have hso5:=hK5 _ _ hso4 (cE (by decide))
  have hid5:bu [85] h4 h5:=hK5
  have S6:Db h i3 d (h5.set i3 (.aq (nG d (.slice qp d.aa.length cp) (.slice qc d.aj.length cc) (.slice qf d.follows.length cf) (.slice qr d.ah.length cr) (.slice p6 (k+1) c6)) 0 true 28)) (.slice qp d.aa.length cp) (.slice qc d.aj.length cc) (.slice qf d.follows.length cf) (.slice qr d.ah.length cr) (.slice p6 (k+1) c6):=⟨a8 m2 om,aw hso5⟩
  have hK6:bu [28] h5 (h5.set i3 (.aq (nG d (.slice qp d.aa.length cp) (.slice qc d.aj.length cc) (.slice qf d.follows.length cf) (.slice qr d.ah.length cr) (.slice p6 (k+1) c6)) 0 true 28)):=bu.set hso5
  have G6:=m1.dH hK6 (by decide)
  have hI6:bi (h5.set i3 (.aq (nG d (.slice qp d.aa.length cp) (.slice qc d.aj.length cc) (.slice qf d.follows.length cf) (.slice qr d.ah.length cr) (.slice p6 (k+1) c6)) 0 true 28)) (.slice p2' d.boxes[k].bo.length c2') d.boxes[k].bo:=bi.dI (bi.dI hF4.now hK5 (by decide)) hK6 (by decide)
  unfold nG at hso hso4
  refine aG q3 ?_
  refine ag rfl ?_
  refine zu ?_
  refine aA [(1,.box [.string d.start,.string d.layout,.slice p1 d.aa.length c1,.slice p2 d.aj.length c2,.slice p3 d.follows.length c3,.slice p4 d.ah.length c4,.slice (some ⟨id,0,some av⟩) d.boxes.length c5]),(2,.box [.string ⟨#[]⟩,.string ⟨#[]⟩,aH,aH,aH,aH,aH]),(3,.val (.pointer (some ⟨i3,0,some 0⟩))),(11,.val (i64 k))] aM ?_
  show CW _ _ ⟨_,[],hk⟩ _
  try apply zs
  apply br (L:=[[],[0],[],[2],[],[2,3,4],[2,3,4,5],[2,3,4,5,6],[],[8],[],[8,9,10],[8,9,10,11],[8,9,10,11,12],[8,9,10,11,12,13],[2,3,4,5,6,7,8,9,10,11,12,13,14],[2,3,4,5,6,7,8,9,10,11,12,13,14,15],[0,1,2,3,4,5,6,7,8,9,10,11,12,13,14,15,16],[],[0,1,2,3,4,5,6,7,8,9,10,11,12,13,14,15,16,17,18]]) (act:=[14,17,19]) (hs:=[h4,h5,h5.set i3 (.aq (nG d (.slice qp d.aa.length cp) (.slice qc d.aj.length cc) (.slice qf d.follows.length cf) (.slice qr d.ah.length cr) (.slice p6 (k+1) c6)) 0 true 28)]) (resL:=[_,_,_,_,_,_,_,_,_,_,_,_,_,_,_,_,_,_,_,_]) (frF:=[(1,.box [.string d.start,.string d.layout,.slice p1 d.aa.length c1,.slice p2 d.aj.length c2,.slice p3 d.follows.length c3,.slice p4 d.ah.length c4,.slice (some ⟨id,0,some av⟩) d.boxes.length c5]),(2,.box [.string ⟨#[]⟩,.string ⟨#[]⟩,aH,aH,aH,aH,aH]),(3,.val (.pointer (some ⟨i3,0,some 0⟩))),(11,.val (i64 k))])
  case hm=>exact mixed
  case hc=>kernel_rfl
  case ha=>rfl
  case hb=>rfl
  case hS=>
   refine Da hso hso4 w1 hid hid4 hg0 hg1 ?_
   apply az.cons
   ·rfl
   ·refine⟨?_,trivial⟩
    exact dG (args:=[.slice pu d.boxes[k].bo.length cu]) (cap:=[]) (fn:=Tryz.f30) al rfl al al Tryz.func30 kr kr hcall
   ·rfl
   refine Da hso hso4 w1 hid hid4 hg0 hg1 ?_
   apply az.cons
   ·rfl
   ·refine⟨?_,trivial⟩
    exact hone _ _ _ _ _ rfl al rfl al al
   ·rfl
   refine Da hso hso4 w1 hid hid4 hg0 hg1 ?_
   apply az.cons
   ·rfl
   ·refine⟨?_,trivial⟩
    exact One.jE (r:=.sl .dJ) (cells':=nG d (.slice qp d.aa.length cp) (.slice qc d.aj.length cc) (.slice qf d.follows.length cf) (.slice qr d.ah.length cr) (.slice p6 (k+1) c6)) al rfl al al hso5 al rfl rfl rfl
   ·rfl
   exact az.nil _
  case ht=>rfl
  case hF=>exact zh
  show CW _ _ ⟨_,[],h5.set i3 (.aq (nG d (.slice qp d.aa.length cp) (.slice qc d.aj.length cc) (.slice qf d.follows.length cf) (.slice qr d.ah.length cr) (.slice p6 (k+1) c6)) 0 true 28)⟩ _
  generalize h5.set i3 (.aq (nG d (.slice qp d.aa.length cp) (.slice qc d.aj.length cc) (.slice qf d.follows.length cf) (.slice qr d.ah.length cr) (.slice p6 (k+1) c6)) 0 true 28)=h6 at S6 hK6 G6 hI6 ⊢
  refine aG w2 ?_
  refine⟨hlt,(h6,.slice p6 (k+1) c6),aM,rfl,S6,(K2.trans (bu.pre hp4)).trans ((hK5.low (by decide)).trans (hK6.low (by decide))),us++[.slice p2' d.boxes[k].bo.length c2'],by simp only[List.length_append,List.length_singleton];omega,?_,fun i hi u hu9=>?_⟩
  ·simp only
   rw[List.take_succ_eq_append_getElem hlt,List.zip_append (by rw[List.length_take,hus];omega),List.flatMap_append]
   exact G6
  ·simp only
   rcases Nat.lt_trichotomy i k with g|g|g
   ·rw[List.getElem?_append_left om] at hu9
    have h7:=hR i hi u hu9
    exact bi.dI (bi.dI (bi.mono h7 hp4) hK5 (by decide)) hK6 (by decide)
   ·subst g
    rw[List.getElem?_append_right om,hus,Nat.sub_self] at hu9
    cases hu9
    exact hI6
   ·have:=(List.getElem?_eq_some_iff.1 hu9).1
    rw[List.length_append,List.length_singleton] at this
    omega
 ·have q3:=aU hlt
  obtain rfl:k=d.boxes.length:=by omega
  refine aG q3 ?_
  refine ae rfl ?_
  refine aB ?_
  refine⟨rfl,(hk,.slice qo d.boxes.length co),S,K2,⟨us,hus,?_,fun i x u h1 h2=>?_⟩,rfl,aM⟩
  ·have:=G2.sl (b:=40) hb5
   rw[List.take_length] at this
   exact this
  ·obtain⟨hi,rfl⟩:=List.getElem?_eq_some_iff.1 h1
   exact hR i hi u h2
rintro e s' ⟨rfl,⟨h8,vb⟩,S8,K8,LB,hh,hf⟩
show CW _ _ _ _
refine aA _ hf ?_
rw[hh]
clear hf hh s'
simp only at S8 K8 LB ⊢
obtain⟨qb,cb,rfl⟩:=b9.form LB
have hso:=S8.o
refine aG hso ?_
refine ak ?_
refine⟨_,al,S8.p,_,_,_,_,_,rfl,⟨?_,?_,?_,?_,LB⟩,dt.dH LP7 K8 (by decide) (by decide)⟩
·refine dt.Us (dt.dH LP7 K8 (by decide) (by decide)) hb1 fun x u n hx e g=>?_
 have e2:n=x.an.length:=by have:(TJ x).length=x.an.length*8:=bU (f:=Sym.cells) (k:=8) (fun _=>rfl) _;omega
 subst e2
 refine g.sl (b:=88) ?_
 obtain⟨i,hi,rfl⟩:=List.getElem_of_mem hx
 obtain⟨_,_,_,_,_,u',_,_,_,hu'⟩:=b9.at (k:=5) (fun _ _=>rfl) hd0.aa hi
 exact hu'.1
·exact b9.dI LC7 K8 (by decide) fun u x hu=>cj.dI hu K8 (by decide) (by decide)
·exact bT.dI LF7 K8 (by decide)
·exact bT.dI LR7 K8 (by decide)}
end
end Go.Proofs.YtmdmimkbpikmoaaGreat
namespace Go.Proofs.YtmdmimkbpikmoaaGreat.Am
open Go.RowKit
section
variable {N:Env} {ops:Array Oper} {L:List (List Nat)} {act:List Nat} {s0:St} {res res':Nat→fT} {Hs:Nat→ai} {a st d:Nat} {cs':List Value} {v0:gh}
theorem gN.Bb (C:qi ops L act) (Z:kL N ops L act s0 res res' a st d cs' v0) (hT:∀ j sl off,res j = .ep sl off→∀ i,bt ops i≠some sl) {S:Array Bool} {t:St} {i:Nat} {o:Oper} (hstep:∀ o k,i≠st→ops[i]? = some o→k≤act.length→fH L act i k=true→∃ V,View ops L s0 res i V∧V.h=Hs k∧One N ops o V (res i) (Hs (if i∈act then k+1 else k))) (I:gN N ops act s0 res res' Hs st S t) (hi:i∈Region.ready .any ops S) (ho:ops[i]? = some o) : ∃ s',Ev N (.ops ops [o] t s')∧gN N ops act s0 res res' Hs st (S.setIfInBounds i true) s':=by{
have hT':∀ j sl off,res' j = .ep sl off→∀ i,bt ops i≠some sl:=fun j sl off h=>by
 by_cases hj:j=a
 ·subst hj
  rw[Z.ra] at h
  cases h
 ·rw[Z.same j hj] at h
  exact hT j sl off h
obtain⟨hun,oi,hoi,hall⟩:=mem_ready.1 hi
obtain rfl:oi=o:=Option.some.inj (hoi.symm.trans ho)
have hlt:i<ops.size:=(Array.getElem?_eq_some_iff.1 ho).1
have hr:∀ o,ops[i]? = some o→∀ e∈o.after,Region.binds .any e=true→S.getD e.on false=true:=fun o' ho' e he hb=>by
 obtain rfl:oi=o':=Option.some.inj (ho.symm.trans ho')
 exact hall e he hb
have hnot:S.getD i false=false:=getD_both hun
obtain⟨ost,host,hdn⟩:=Z.o
have hstd:bt ops st=none:=by simp [bt,host,hdn]
rcases I with ⟨h0,I⟩ | ⟨h0,I⟩
·by_cases his:i=st
 ·subst his
  have hltS:i<S.size:=by rw[I.size];exact hlt
  have hset:∀ j,((S.setIfInBounds i true).getD j false=true)↔(j=i∨S.getD j false=true):=fun j=>eM hltS
  obtain⟨V,hV,hVh,hsto⟩:=Z.Si oi t.h ho
  have hsub:=hV.sub C I hlt hr hVh
  have hain:S.getD a false=true:=jG C I.size I.closed i a hlt hr Z.Jm
  refine⟨_,hsto t hsub,.inr ⟨(hset i).2 (.inl rfl),by simp [I.size],fun j o hj hl e he hb=>?_,?_,fun x hx=>?_,fun j d' v hj hl hv=>?_,fun j d' sl off hj hl hv=>?_,I.Ng⟩⟩
  ·rw[hset]
   rcases (hset j).1 hl with rfl|h
   ·exact .inr (hr o hj e he hb)
   ·exact .inr (I.closed j o hj h e he hb)
  ·obtain⟨k,hk,hh,hpre⟩:=I.pre
   refine⟨k,hk,hh,fun j hj=>?_⟩
   rw[hset]
   constructor
   ·rintro (h|h)
    ·exact (Z.na (by rw[← h];simp [hj])).elim
    ·exact (hpre j hj).1 h
   ·exact fun h=>.inr ((hpre j hj).2 h)
  ·have hxd:d≠x:=fun e=>hx a (e▸Z.da)
   simp only[bF]
   rw[if_neg hxd]
   exact I.out x hx
  ·have hji:j≠i:=fun e=>by rw[e,hstd] at hj;cases hj
   have hl':=((hset j).1 hl).resolve_left hji
   by_cases hja:j=a
   ·subst hja
    obtain rfl:d=d':=Option.some.inj (Z.da.symm.trans hj)
    rw[Z.ra] at hv
    cases hv
    simp only[bF,if_true]
    exact⟨trivial,(I.oy j d v0 hj hl' Z.Se).2⟩
   ·have hdd:d≠d':=fun e=>hja (C.dst j a d (e▸hj) Z.da)
    simp only[bF]
    rw[if_neg hdd]
    rw[Z.same j hja] at hv
    exact I.oy j d' v hj hl' hv
  ·have hji:j≠i:=fun e=>by rw[e,hstd] at hj;cases hj
   have hja:j≠a:=fun e=>by rw[e,Z.ra] at hv;cases hv
   rw[Z.same j hja] at hv
   exact I.Cm j d' sl off hj (((hset j).1 hl).resolve_left hji) hv
 ·obtain⟨s',h1,h2⟩:=I.step C hT (fun o k=>hstep o k his) hi ho
  exact⟨s',h1,.inl ⟨by rw[getD_set_ne false his];exact h0,h2⟩⟩
·have his:i≠st:=fun e=>by rw[e,h0] at hnot;cases hnot
 have hlst:st<ops.size:=(Array.getElem?_eq_some_iff.1 host).1
 have hia:i≠a:=fun e=>by
  have:=jG C I.size I.closed st a hlst (fun o' ho' e he hb=>I.closed st o' ho' h0 e he hb) Z.Jm
  rw[← e,hnot] at this
  cases this
 obtain⟨s',h1,h2⟩:=I.step C hT' (fun o k h1 h2 h3=>by
  obtain⟨V,hV,hVh,hone⟩:=hstep o k his h1 h2 h3
  refine⟨V,⟨fun x=>?_,fun x p hp=>?_,hV.n⟩,hVh,by rw[Z.same i hia];exact hone⟩
  ·rcases hV.f x with h|h|⟨j,h4,h5,h6⟩
   ·exact .inl h
   ·exact .inr (.inl h)
   ·refine .inr (.inr ⟨j,h4,h5,?_⟩)
    rw[Z.same j (fun e=>Z.free i his (e▸h5))]
    exact h6
  ·obtain⟨j,sl,off,h4,h5,h6,h7⟩:=hV.e x p hp
   refine⟨j,sl,off,h4,h5,?_,h7⟩
   rw[Z.same j (fun e=>Z.free i his (e▸h5))]
   exact h6) hi ho
 exact⟨s',h1,.inr ⟨by rw[getD_set_ne false his];exact h0,h2⟩⟩}
variable {res1 res2 res12:Nat→fT} {a1 st1 d1 a2 st2 d2:Nat} {cs1 cs2:List Value} {v1 v2:gh}
def sc (N:Env) (ops:Array Oper) (act:List Nat) (s0:St) (res res1 res2 res12:Nat→fT) (Hs:Nat→ai) (st1 st2:Nat) (S:Array Bool) (t:St):Prop:=
 (S.getD st2 false=false∧gN N ops act s0 res res1 Hs st1 S t)∨(S.getD st2 false=true∧gN N ops act s0 res2 res12 Hs st1 S t)
theorem sc.step (C:qi ops L act) (Z1:kL N ops L act s0 res res1 a1 st1 d1 cs1 v1) (Z1':kL N ops L act s0 res2 res12 a1 st1 d1 cs1 v1) (Z2:kL N ops L act s0 res res2 a2 st2 d2 cs2 v2) (Z2':kL N ops L act s0 res1 res12 a2 st2 d2 cs2 v2) (hne:st1≠st2) (hT:∀ j sl off,res j = .ep sl off→∀ i,bt ops i≠some sl) (hT1:∀ j sl off,res1 j = .ep sl off→∀ i,bt ops i≠some sl) (hT2:∀ j sl off,res2 j = .ep sl off→∀ i,bt ops i≠some sl) (hstep:∀ i o k,i≠st1→i≠st2→ops[i]? = some o→k≤act.length→fH L act i k=true→∃ V,View ops L s0 res i V∧V.h=Hs k∧One N ops o V (res i) (Hs (if i∈act then k+1 else k))) {S:Array Bool} {t:St} {i:Nat} {o:Oper} (I:sc N ops act s0 res res1 res2 res12 Hs st1 st2 S t) (hi:i∈Region.ready .any ops S) (ho:ops[i]? = some o) : ∃ s',Ev N (.ops ops [o] t s')∧sc N ops act s0 res res1 res2 res12 Hs st1 st2 (S.setIfInBounds i true) s':=by{
obtain⟨hun,oi,hoi,hall⟩:=mem_ready.1 hi
have hnot:S.getD i false=false:=getD_both hun
have hlt:i<ops.size:=(Array.getElem?_eq_some_iff.1 ho).1
rcases I with ⟨h0,I⟩ | ⟨h0,I⟩
·by_cases his:i=st2
 ·subst his
  have hset:∀ (hs:S.size=ops.size),(S.setIfInBounds i true).getD i false=true:=fun hs=>(eM (by rw[hs];exact hlt)).2 (.inl rfl)
  rcases I with ⟨h1,I⟩ | ⟨h1,I⟩
  ·obtain⟨s',k1,k2⟩:=gN.Bb C Z2 hT (fun o k h=>absurd rfl h) (.inl ⟨h0,I⟩) hi ho
   refine⟨s',k1,?_⟩
   rcases k2 with ⟨k2,_⟩ | ⟨k2,k3⟩
   ·rw[hset I.size] at k2;cases k2
   ·exact .inr ⟨k2,.inl ⟨by rw[getD_set_ne false (fun e=>hne e.symm)];exact h1,k3⟩⟩
  ·obtain⟨s',k1,k2⟩:=gN.Bb C Z2' hT1 (fun o k h=>absurd rfl h) (.inl ⟨h0,I⟩) hi ho
   refine⟨s',k1,?_⟩
   rcases k2 with ⟨k2,_⟩ | ⟨k2,k3⟩
   ·rw[hset I.size] at k2;cases k2
   ·exact .inr ⟨k2,.inr ⟨by rw[getD_set_ne false (fun e=>hne e.symm)];exact h1,k3⟩⟩
 ·obtain⟨s',k1,k2⟩:=gN.Bb C Z1 hT (fun o k h=>hstep i o k h his) I hi ho
  exact⟨s',k1,.inl ⟨by rw[getD_set_ne false his];exact h0,k2⟩⟩
·have his:i≠st2:=fun e=>by rw[e,h0] at hnot;cases hnot
 obtain⟨ost,host,_⟩:=Z2.o
 have hlst:st2<ops.size:=(Array.getElem?_eq_some_iff.1 host).1
 have hia:i≠a2:=fun e=>by
  have hcs:S.size=ops.size∧(∀ (j:Nat) (o:Oper),ops[j]? = some o→S.getD j false=true→∀ e∈o.after,Region.binds .any e=true→S.getD e.on false=true):=by
   rcases I with ⟨_,I⟩ | ⟨_,I⟩
   ·exact⟨I.size,I.closed⟩
   ·exact⟨I.size,I.closed⟩
  have:=jG C hcs.1 hcs.2 st2 a2 hlst (fun o' ho' e he hb=>hcs.2 st2 o' ho' h0 e he hb) Z2.Jm
  rw[← e,hnot] at this
  cases this
 obtain⟨s',k1,k2⟩:=gN.Bb C Z1' hT2 (fun o k h h1 h2 h3=>by
  obtain⟨V,hV,hVh,hone⟩:=hstep i o k h his h1 h2 h3
  refine⟨V,⟨fun x=>?_,fun x p hp=>?_,hV.n⟩,hVh,by rw[Z2.same i hia];exact hone⟩
  ·rcases hV.f x with h|h|⟨j,h4,h5,h6⟩
   ·exact .inl h
   ·exact .inr (.inl h)
   ·refine .inr (.inr ⟨j,h4,h5,?_⟩)
    rw[Z2.same j (fun e=>Z2.free i his (e▸h5))]
    exact h6
  ·obtain⟨j,sl,off,h4,h5,h6,h7⟩:=hV.e x p hp
   refine⟨j,sl,off,h4,h5,?_,h7⟩
   rw[Z2.same j (fun e=>Z2.free i his (e▸h5))]
   exact h6) I hi ho
 exact⟨s',k1,.inr ⟨by rw[getD_set_ne false his];exact h0,k2⟩⟩}
theorem kL.lift (Z:kL N ops L act s0 res res1 a1 st1 d1 cs1 v1) (h2:∀ j,j≠a2→res2 j=res j) (h12:∀ j,j≠a2→res12 j=res1 j) (he:res12 a2=res2 a2) (hn:a2∉fa L st1) (hne:a1≠a2):kL N ops L act s0 res2 res12 a1 st1 d1 cs1 v1:=by{
refine⟨fun j hj=>?_,Z.da,by rw[h2 _ hne];exact Z.Se,by rw[h12 _ hne];exact Z.ra,Z.o,Z.Jm,Z.na,Z.free,fun o h ho=>?_⟩
·by_cases e:j=a2
 ·subst e;exact he
 ·rw[h12 j e,h2 j e];exact Z.same j hj
·obtain⟨V,hV,hVh,k⟩:=Z.Si o h ho
 refine⟨V,⟨fun x=>?_,fun x p hp=>?_,hV.n⟩,hVh,k⟩
 ·rcases hV.f x with h|h|⟨j,h4,h5,h6⟩
  ·exact .inl h
  ·exact .inr (.inl h)
  ·refine .inr (.inr ⟨j,h4,h5,?_⟩)
   rw[h2 j (fun e=>hn (e▸h5))]
   exact h6
 ·obtain⟨j,sl,off,h4,h5,h6,h7⟩:=hV.e x p hp
  refine⟨j,sl,off,h4,h5,?_,h7⟩
  rw[h2 j (fun e=>hn (e▸h5))]
  exact h6}
theorem zT {id:Nat} {s:St} {frF:Fr} (hm:N.P.follows .mixedOrders=true) (C:qi ops L act) (Z1:kL N ops L act s res res1 a1 st1 d1 cs1 v1) (Z1':kL N ops L act s res2 res12 a1 st1 d1 cs1 v1) (Z2:kL N ops L act s res res2 a2 st2 d2 cs2 v2) (Z2':kL N ops L act s res1 res12 a2 st2 d2 cs2 v2) (hne:st1≠st2) (hT:∀ j sl off,res j = .ep sl off→∀ i,bt ops i≠some sl) (hT1:∀ j sl off,res1 j = .ep sl off→∀ i,bt ops i≠some sl) (hT2:∀ j sl off,res2 j = .ep sl off→∀ i,bt ops i≠some sl) (hstep:∀ i o k,i≠st1→i≠st2→ops[i]? = some o→k≤act.length→fH L act i k=true→∃ V,View ops L s res i V∧V.h=Hs k∧One N ops o V (res i) (Hs (if i∈act then k+1 else k))) (hact:∀ a∈act,a<ops.size) (h0:s.h=Hs 0) (hF:∀ p∈frF,((∀ j,bt ops j≠some p.1)∧aX s.fr p.1=p.2)∨∃ j,bt ops j=some p.1∧res12 j = .sl p.2) : Ev N (.code (.region id ops true) s .normal ⟨frF,[],Hs act.length⟩):=by{
classical
refine .qK (sc N ops act s res res1 res2 res12 Hs st1 st2) (fun S t i=>match ops[i]? with
 | some o=>if h:∃ s',Ev N (.ops ops [o] t s')∧sc N ops act s res res1 res2 res12 Hs st1 st2 (S.setIfInBounds i true) s' then h.choose else t
 | none=>t) hm ?_ ?_ ?_ ?_ rfl
·refine .inl ⟨getD_replicate_false _ _,.inl ⟨getD_replicate_false _ _,by simp,fun j o _ hl=>?_,⟨0,Nat.zero_le _,h0,fun j _=>?_⟩,fun x _=>⟨rfl,rfl⟩,fun j d v _ hl=>?_,fun j d sl off _ hl=>?_,fun q hq=>by cases hq⟩⟩
 ·rw[getD_replicate_false] at hl
  cases hl
 ·rw[getD_replicate_false]
  simp
 ·rw[getD_replicate_false] at hl
  cases hl
 ·rw[getD_replicate_false] at hl
  cases hl
·intro S t i o I hi ho
 simp only[ho]
 have h:=sc.step C Z1 Z1' Z2 Z2' hne hT hT1 hT2 hstep I hi ho
 rw[dif_pos h]
 exact h.choose_spec.1
·intro S t i o I hi ho
 simp only[ho]
 have h:=sc.step C Z1 Z1' Z2 Z2' hne hT hT1 hT2 hstep I hi ho
 rw[dif_pos h]
 exact h.choose_spec.2
·intro S t I hr
 have hsz:S.size=ops.size:=by
  rcases I with ⟨_,⟨_,I⟩ | ⟨_,I⟩⟩ | ⟨_,⟨_,I⟩ | ⟨_,I⟩⟩<;>exact I.size
 have hall:∀ i,i<ops.size→S.getD i false=true:=by
  intro i
  induction i using Nat.strongRecOn with
  | _ i ih=>
    intro hi
    cases hb:S.getD i false with
    | true=>rfl
    | false=>
      have:i∈Region.ready .any ops S:=mem_ready.2 ⟨getD_in (by rw[hsz];exact hi) hb,ops[i],Array.getElem?_eq_getElem hi,fun e he hbi=>by
       have hlow:=C.low i _ (Array.getElem?_eq_getElem hi) e he hbi
       exact ih e.on hlow (by omega)⟩
      rw[hr] at this
      cases this
 obtain⟨o1,host1,_⟩:=Z1.o
 obtain⟨o2,host2,_⟩:=Z2.o
 have hs1:=hall st1 (Array.getElem?_eq_some_iff.1 host1).1
 have hs2:=hall st2 (Array.getElem?_eq_some_iff.1 host2).1
 rcases I with ⟨h,_⟩ | ⟨_,I⟩
 ·rw[hs2] at h
  cases h
 rcases I with ⟨h,_⟩ | ⟨_,I⟩
 ·rw[hs1] at h
  cases h
 refine⟨fun p hp=>?_,?_⟩
 ·rcases hF p hp with ⟨h1,h2⟩ | ⟨j,h1,h2⟩
  ·exact (I.out p.1 h1).1.trans h2
  ·exact (I.oy j p.1 p.2 h1 (hall j (nD h1)) h2).1
 ·obtain⟨k,hk,hh,hpre⟩:=I.pre
  have:k=act.length:=by
   rcases Nat.lt_or_ge k act.length with h|h
   ·have:=(hpre k h).1 (hall _ (hact _ (by simp [h])))
    omega
   ·omega
  rw[hh,this]}
theorem nH {l:List fT} {a:Nat} {v:fT} (ha:a<l.length) (j:Nat):eA (l.set a v) j=if j=a then v else eA l j:=by{
unfold eA
by_cases e:j=a
·subst e
 rw[if_pos rfl,List.getElem?_set_self ha]
 rfl
·rw[if_neg e,List.getElem?_set_ne (fun h=>e h.symm)]}
theorem EW {id:Nat} {fr:Fr} {h:ai} {Q:AX→St→Prop} (L:List (List Nat)) (resL:List fT) (frF:Fr) (a1 st1 d1 a2 st2 d2:Nat) (cs1' cs2':List Value) {cs1 vs1 cs2 vs2:List Value} {o1 o2:Oper} {ty1 ty2:TypeId} {x1 y1 x2 y2:Operand} {RJ RZ:TI} {off1 off2:Nat} {w1 w2:Value} (hm:N.P.follows .mixedOrders=true) (hc:tF ops L []=true) (hb:mH (dstsOf ops) fr=true) (hf1:yk ops L a1 st1=true) (hf2:yk ops L a2 st2=true) (hn1:(fa L st1).contains a1=true) (hn2:(fa L st2).contains a2=true) (hst:st2=st1+1) (hsz:ops.size=st2+1) (hne:a1≠a2) (ho1:ops[st1]? = some o1) (hop1:o1.op = .store ty1 x1 y1) (hod1:o1.dst=none) (hda1:bt ops a1=some d1) (ho2:ops[st2]? = some o2) (hop2:o2.op = .store ty2 x2 y2) (hod2:o2.dst=none) (hda2:bt ops a2=some d2) (hS:az N ops L [] resL [h] fr 0 (ops.toList.take st1)) (hra1:resL[a1]? = some (.sl (.box cs1))) (hra2:resL[a2]? = some (.sl (.box cs2))) (hti1:au N.P ty1=some RJ) (hw1:∀ H,aD ops o1 (vw ops L resL fr H st1)=some true) (hp1:∀ H,mv (vw ops L resL fr H st1) x1=some (d1,off1)) (hbx1:∀ H,aX (vw ops L resL fr H st1).fr d1 = .box cs1) (hv1:∀ H,ev (vw ops L resL fr H st1) y1=some w1) (hvs1:dQ RJ.size w1=some vs1) (hwr1:kP cs1 off1 vs1=some cs1') (hti2:au N.P ty2=some RZ) (hw2:∀ H,aD ops o2 (vw ops L resL fr H st2)=some true) (hp2:∀ H,mv (vw ops L resL fr H st2) x2=some (d2,off2)) (hbx2:∀ H,aX (vw ops L resL fr H st2).fr d2 = .box cs2) (hv2:∀ H,ev (vw ops L resL fr H st2) y2=some w2) (hvs2:dQ RZ.size w2=some vs2) (hwr2:kP cs2 off2 vs2=some cs2') (ht:yb ops resL=true) (hF:gV ops ((resL.set a1 (.sl (.box cs1'))).set a2 (.sl (.box cs2'))) fr frF) (k:Q .normal ⟨frF,[],h⟩):CW N (.region id ops true) ⟨fr,[],h⟩ Q:=by{
have C:=oZ hc
unfold CW
have hvw:∀ H i,vw ops L resL fr H i=dS ops L resL fr H i:=fun H i=>by unfold vw dS;rw[gn hb]
have hS':=az.ok (fr:=fr) (by rw[gn hb];exact hS)
have hal1:a1<resL.length:=(List.getElem?_eq_some_iff.1 hra1).1
have hal2:a2<resL.length:=(List.getElem?_eq_some_iff.1 hra2).1
have hT:∀ j sl off,eA resL j = .ep sl off→∀ i,bt ops i≠some sl:=by
 intro j sl off hr i hi
 unfold eA at hr
 cases hj:resL[j]? with
 | none=>simp [hj] at hr
 | some r=>
   simp only[hj,Option.getD_some] at hr
   have:=List.all_eq_true.1 ht r (List.mem_of_getElem? hj)
   rw[hr] at this
   simp only[Bool.not_eq_true',List.contains_eq_mem,decide_eq_false_iff_not] at this
   exact this (fZ hi)
have e0a:eA resL a1 = .sl (.box cs1):=by unfold eA;rw[hra1];rfl
have e0b:eA resL a2 = .sl (.box cs2):=by unfold eA;rw[hra2];rfl
have hfr1:a1∉fa L st2:=lu hf1 (by omega)
have hfr2:a2∉fa L st1:=lu hf2 (by omega)
have r1:=nH (l:=resL) (a:=a1) (v:=.sl (.box cs1')) hal1
have r2:=nH (l:=resL) (a:=a2) (v:=.sl (.box cs2')) hal2
have r12:=nH (l:=resL.set a1 (.sl (.box cs1'))) (a:=a2) (v:=.sl (.box cs2')) (by rw[List.length_set];exact hal2)
have Z1:kL N ops L [] ⟨fr,[],h⟩ (eA resL) (eA (resL.set a1 (.sl (.box cs1')))) a1 st1 d1 cs1' (.box cs1):=by
 refine⟨fun j hj=>by rw[r1,if_neg hj],hda1,e0a,by rw[r1,if_pos rfl],⟨o1,ho1,hod1⟩,List.contains_iff_mem.1 hn1,by simp,fun i hi=>lu hf1 hi,fun o' H ho'=>?_⟩
 obtain rfl:o1=o':=Option.some.inj (ho1.symm.trans ho')
 refine⟨dS ops L resL fr H st1,lV (s0:=⟨fr,[],h⟩) C,rfl,fun t hsub=>?_⟩
 rw[← hvw] at hsub
 exact .rU (a9 hsub (hw1 H)) hop1 hti1 (iD hsub (hp1 H)) (nx hsub (hbx1 H)) (aY hsub (hv1 H)) hvs1 hwr1 hod1 (.nil _ _)
have Z2:kL N ops L [] ⟨fr,[],h⟩ (eA resL) (eA (resL.set a2 (.sl (.box cs2')))) a2 st2 d2 cs2' (.box cs2):=by
 refine⟨fun j hj=>by rw[r2,if_neg hj],hda2,e0b,by rw[r2,if_pos rfl],⟨o2,ho2,hod2⟩,List.contains_iff_mem.1 hn2,by simp,fun i hi=>lu hf2 hi,fun o' H ho'=>?_⟩
 obtain rfl:o2=o':=Option.some.inj (ho2.symm.trans ho')
 refine⟨dS ops L resL fr H st2,lV (s0:=⟨fr,[],h⟩) C,rfl,fun t hsub=>?_⟩
 rw[← hvw] at hsub
 exact .rU (a9 hsub (hw2 H)) hop2 hti2 (iD hsub (hp2 H)) (nx hsub (hbx2 H)) (aY hsub (hv2 H)) hvs2 hwr2 hod2 (.nil _ _)
have Z1':kL N ops L [] ⟨fr,[],h⟩ (eA (resL.set a2 (.sl (.box cs2')))) (eA ((resL.set a1 (.sl (.box cs1'))).set a2 (.sl (.box cs2')))) a1 st1 d1 cs1' (.box cs1):=
 Z1.lift (a2:=a2) (fun j hj=>by rw[r2,if_neg hj]) (fun j hj=>by rw[r12,if_neg hj]) (by rw[r12,r2,if_pos rfl,if_pos rfl]) hfr2 hne
have Z2':kL N ops L [] ⟨fr,[],h⟩ (eA (resL.set a1 (.sl (.box cs1')))) (eA ((resL.set a1 (.sl (.box cs1'))).set a2 (.sl (.box cs2')))) a2 st2 d2 cs2' (.box cs2):=
 Z2.lift (a2:=a1) (fun j hj=>by rw[r1,if_neg hj]) (fun j hj=>by
  rw[r12,r2]
  by_cases e:j=a2
  ·rw[if_pos e,if_pos e]
  ·rw[if_neg e,if_neg e,r1,if_neg hj]) (by rw[r12,if_neg hne]) hfr1 hne.symm
have hTs:∀ (a:Nat) (c:List Value),a<resL.length→∀ j sl off,eA (resL.set a (.sl (.box c))) j = .ep sl off→∀ i,bt ops i≠some sl:=fun a c ha j sl off e=>by
 rw[nH ha] at e
 split at e
 ·cases e
 ·exact hT j sl off e
refine⟨_,_,zT (s:=⟨fr,[],h⟩) (Hs:=qt [h]) hm C Z1 Z1' Z2 Z2' (by omega) hT (hTs _ _ hal1) (hTs _ _ hal2) ?_ (by simp) rfl (fun p hp=>hF.at hp),k⟩
intro i o' k' hi1 hi2 ho' hk hsg
have hlt:i<ops.size:=(Array.getElem?_eq_some_iff.1 ho').1
refine⟨dS ops L resL fr (qt [h] k') i,lV (s0:=⟨fr,[],h⟩) C,rfl,?_⟩
exact (eK.Uu hS' (show i<st1 by omega) ho').at (List.mem_range.2 (Nat.lt_succ_of_le hk)) hsg}
end
end Go.Proofs.YtmdmimkbpikmoaaGreat.Am
namespace Go.Proofs.YtmdmimkbpikmoaaGreat
set_option maxRecDepth 20000
open Go.RowKit Am Ty
abbrev aV (d:bV) (s:ByteArray):bV:={ d with start:=s }
section
variable {d:bV} {s:ByteArray}
theorem pT {p:Prod} {m:Nat}:∀ k,dY (aV d s) p m k=dY d p m k
 | 0=>rfl
 | k+1=>by
   conv=>lhs;unfold dY
   conv=>rhs;unfold dY
   rw[pT (p:=p) (m:=m) k]
   rfl
theorem xf {k:Nat} {p:Prod}:iT (aV d s) k p=iT d k p:=by{
unfold iT
refine List.map_congr_left fun m _=>?_
unfold oV eF
rw[pT (d:=d) (s:=s)]
rfl}
theorem sD:∀ k,eO (aV d s) k=eO d k
 | 0=>rfl
 | k+1=>by
   conv=>lhs;unfold eO
   conv=>rhs;unfold eO
   rw[sD k]
   show (match d.aa[k]? with|some p=>eO d k++iT (aV d s) k p|none=>eO d k)=_
   cases d.aa[k]? with
   | none=>rfl
   | some p=>simp only;rw[xf]
theorem CI:∃ (A:List (dD×gI)) (b b':dD),ol d=A++[(b,⟨5,0,0,[]⟩)]∧ol (aV d s)=A++[(b',⟨5,0,0,[]⟩)]∧b.lhs=(cY d:Int):=by{
have eN:eO (aV d s) (aV d s).aa.length=eO d d.aa.length:=sD _
have e1:fi (aV d s) (bj (aV d s).aa)=fi d (bj d.aa):=rfl
have er:ol (aV d s)=eO d d.aa.length++fi d (bj d.aa)++kg (aV d s):=by
 show eO (aV d s) (aV d s).aa.length++fi (aV d s) (bj (aV d s).aa)++kg (aV d s)=_
 rw[eN,e1]
rw[er]
unfold ol
cases h:cX d.layout with
| true=>
  have h2:cX (aV d s).layout=true:=h
  refine⟨eO d d.aa.length++fi d (bj d.aa),⟨cY d,[dO (gE d d.start)]⟩,⟨cY d,[dO (gE d s)]⟩,?_,?_,rfl⟩
  ·unfold kg;rw[if_pos h]
  ·unfold kg;rw[if_pos h2];rfl
| false=>
  have h2:cX (aV d s).layout=false:=h
  refine⟨eO d d.aa.length++fi d (bj d.aa)++[(⟨bJ d,[]⟩,⟨3,0,0,[]⟩),(⟨bJ d,[dO (bJ d),dO (gE d d.layout)]⟩,⟨4,0,0,[]⟩)],⟨cY d,[dO (bJ d),dO (gE d d.start),dO (bJ d)]⟩,⟨cY d,[dO (bJ d),dO (gE d s),dO (bJ d)]⟩,?_,?_,rfl⟩
  ·unfold kg;rw[if_neg (by rw[h];decide)];exact (List.append_assoc (eO d d.aa.length++fi d (bj d.aa)) [_,_] [_]).symm
  ·unfold kg;rw[if_neg (by rw[h2];decide)];exact (List.append_assoc (eO d d.aa.length++fi d (bj d.aa)) [_,_] [_]).symm}
theorem Ka (G:nw d):∀ x∈ol d,x.1.rhs.length≤400:=by{
intro x hx
unfold ol at hx
rw[List.mem_append,List.mem_append] at hx
have key:∀ k,k≤d.aa.length→∀ x∈eO d k,x.1.rhs.length≤400:=by
 intro k
 induction k with
 | zero=>intro _ x hx;simp [eO] at hx
 | succ k ih=>
   intro hk x hx
   rw[jU (show k<d.aa.length by omega),List.mem_append] at hx
   rcases hx with hx|hx
   ·exact ih om x hx
   ·unfold iT at hx
    rw[List.mem_map] at hx
    obtain⟨m,_,rfl⟩:=hx
    have hG:=G.p _ (List.getElem_mem (show k<d.aa.length by omega))
    have:=lX (mask:=m) hG d.aa[k].an.length
    have h12:=hG.n
    show (eF d d.aa[k] m).rhs.length≤400
    unfold eF
    omega
rcases hx with (hx|hx) | hx
·exact key _ (Nat.le_refl _) x hx
·unfold fi at hx
 rw[List.mem_flatMap] at hx
 obtain⟨k,hk,hx⟩:=hx
 have hks:=(G.k k hk).2
 unfold y8 at hx
 simp only[List.mem_cons,List.not_mem_nil,or_false] at hx
 rcases hx with rfl|rfl
 ·simp
 ·unfold sK fh lp
  simp only[List.length_append,List.length_cons,List.length_nil]
  split<;>split<;>simp<;>omega
·unfold kg at hx
 split at hx
 ·simp only[List.mem_cons,List.not_mem_nil,or_false] at hx
  subst hx
  simp
 ·simp only[List.mem_cons,List.not_mem_nil,or_false] at hx
  rcases hx with rfl|rfl|rfl<;>simp}
variable {h:ai} {up uc uf ur ub:Value}
theorem sL (hd:bw h d up uc uf ur ub) (hw:nI d) (hs:s.size≤lr):FW env 10 [.agg (d.val up uc uf ur ub).toArray,.string s] h fun r _=>r = .bool true:=by{
have hhv:=CL hd
have hcp:=EP hd
have hd0:=hd
unfold bV.val at hhv hcp
obtain⟨p1,c1,p2,c2,p3,c3,p4,c4,p5,c5,rfl,rfl,rfl,rfl,rfl,l1,l2,l3,l4,l5⟩:=bw.form hd
refine fe Tryz.func10 ?_;simp only[push_cast]
unfold bV.val
refine aC ?_
refine zj Tryz.func12 ?_
refine hhv.mono ?_
rintro _ h1 ⟨⟨b,hb,rfl⟩,e1⟩
obtain rfl:=e1.symm
cases b with
| true=>
  refine aC ?_
  refine ag rfl ?_
  refine aC ?_
  refine zj Tryz.func13 ?_
  refine jQ.mono ?_
  rintro _ ha ⟨rfl,ea⟩
  obtain rfl:=ea.symm
  refine aC ?_
  refine ak ?_
  exact⟨_,al,rfl⟩
| false=>
refine aC ?_
refine ae rfl ?_
refine aC ?_
refine zj Tryz.func14 ?_
refine hcp.mono ?_
rintro _ h1 ⟨hp1,vp,vc,vf,vr,vb,rfl,hd1,_⟩
obtain⟨p1',c1',rfl⟩:=b9.form hd1.aa
obtain⟨p2',c2',rfl⟩:=b9.form hd1.aj
obtain⟨p3',c3',rfl⟩:=bT.form hd1.follows
obtain⟨p4',c4',rfl⟩:=bT.form hd1.ah
obtain⟨p5',c5',rfl⟩:=b9.form hd1.boxes
have hmk:=AL (hd0.mono hp1) hw (fun hr=>hb rfl (sh hr))
unfold bV.val at hmk
refine aC ?_
refine zj Tryz.func15 ?_
refine hmk.mono ?_
rintro _ h2 HM1
have hp2:h1 <+: h2:=by
 rcases HM1 with ⟨_,_,rfl⟩ | ⟨_,m,nm,_,K⟩
 ·exact List.prefix_refl _
 ·exact K.p
have hd2:bw h2 (aV d s) (.slice p1' d.aa.length c1') (.slice p2' d.aj.length c2') (.slice p3' d.follows.length c3') (.slice p4' d.ah.length c4') (.slice p5' d.boxes.length c5'):=by
 have:=hd1.mono hp2
 exact⟨this.aa,this.aj,this.follows,this.ah,this.boxes⟩
have hw2:nI (aV d s):=⟨hs,hw.layout,hw.aa,hw.aj,hw.follows,hw.ah,hw.boxes⟩
have hmk2:=AL hd2 hw2 (fun hr=>hb rfl (by exact sh (d:=aV d s) hr))
unfold bV.val at hmk2
have dz:decide ((0:Int)=0)=true:=rfl
have d53:decide ((53:Int)=0)=false:=rfl
rcases HM1 with ⟨hno,rfl,e2⟩ | ⟨hc,m,nm,rfl,K1⟩
·refine aC ?_
 refine zj Tryz.func15 ?_
 refine hmk2.mono ?_
 rintro _ h3 (⟨_,rfl,e3⟩ | ⟨_,m2,nm2,rfl,K2⟩)
 ·refine aG d53 ?_
  refine ag rfl ?_
  refine aC ?_
  refine zj Tryz.func13 ?_
  refine jQ.mono ?_
  rintro _ ha ⟨rfl,ea⟩
  obtain rfl:=ea.symm
  refine aC ?_
  refine ak ?_
  exact⟨_,al,rfl⟩
 ·obtain⟨uq1,ur1,ue1⟩:=b9.form K2.D.now.aa
  obtain⟨uq2,ur2,ue2⟩:=b9.form K2.D.now.aj
  obtain⟨uq3,ur3,ue3⟩:=bT.form K2.D.now.follows
  obtain⟨uq4,ur4,ue4⟩:=bT.form K2.D.now.ah
  obtain⟨uq5,ur5,ue5⟩:=b9.form K2.D.now.boxes
  obtain⟨uq6,ur6,ue6⟩:=dt.form K2.r
  obtain⟨uq7,ur7,ue7⟩:=dt.form K2.f
  obtain⟨uq8,ur8,ue8⟩:=K2.n.form
  obtain⟨uq9,ur9,ue9⟩:=K2.b.form
  obtain⟨uqa,ura,uea⟩:=K2.F.form
  obtain⟨uqb,urb,ueb⟩:=K2.R.form
  rw[List.length_map] at ue6
  rw[iO] at ue7
  rw[K2.RP] at ue8
  have uv:ma m2 = .agg #[.string (aV d s).start,.string (aV d s).layout,.slice uq1 (aV d s).aa.length ur1,.slice uq2 (aV d s).aj.length ur2,.slice uq3 (aV d s).follows.length ur3,.slice uq4 (aV d s).ah.length ur4,.slice uq5 (aV d s).boxes.length ur5,i64 (aN (aV d s):Int),i64 (cY (aV d s):Int),.slice uq6 (ol (aV d s)).length ur6,.slice uq7 (ol (aV d s)).length ur7,.slice uq8 (aN (aV d s)) ur8,.slice uq9 (fm [] (gJ (aV d s) (dM (aV d s)))).length ur9,.slice uqa (aN (aV d s)) ura,.slice uqb (aN (aV d s)) urb]:=by rw[ma,K2.s1,K2.s2,K2.fA,K2.st,ue1,ue2,ue3,ue4,ue5,ue6,ue7,ue8,ue9,uea,ueb]
  rw[uv]
  refine aG d53 ?_
  refine ag rfl ?_
  refine aC ?_
  refine zj Tryz.func13 ?_
  refine jQ.mono ?_
  rintro _ ha ⟨rfl,ea⟩
  obtain rfl:=ea.symm
  refine aC ?_
  refine ak ?_
  exact⟨_,al,rfl⟩
have hpt:=hb rfl (sh (hc 0 (by decide)))
have G:=uV hc hpt
obtain⟨tq1,tr1,te1⟩:=b9.form K1.D.now.aa
obtain⟨tq2,tr2,te2⟩:=b9.form K1.D.now.aj
obtain⟨tq3,tr3,te3⟩:=bT.form K1.D.now.follows
obtain⟨tq4,tr4,te4⟩:=bT.form K1.D.now.ah
obtain⟨tq5,tr5,te5⟩:=b9.form K1.D.now.boxes
obtain⟨tq6,tr6,te6⟩:=dt.form K1.r
obtain⟨tq7,tr7,te7⟩:=dt.form K1.f
obtain⟨tq8,tr8,te8⟩:=K1.n.form
obtain⟨tq9,tr9,te9⟩:=K1.b.form
obtain⟨tqa,tra,tea⟩:=K1.F.form
obtain⟨tqb,trb,teb⟩:=K1.R.form
rw[List.length_map] at te6
rw[iO] at te7
rw[K1.RP] at te8
have tv:ma m = .agg #[.string d.start,.string d.layout,.slice tq1 d.aa.length tr1,.slice tq2 d.aj.length tr2,.slice tq3 d.follows.length tr3,.slice tq4 d.ah.length tr4,.slice tq5 d.boxes.length tr5,i64 (aN d:Int),i64 (cY d:Int),.slice tq6 (ol d).length tr6,.slice tq7 (ol d).length tr7,.slice tq8 (aN d) tr8,.slice tq9 (fm [] (gJ d (dM d))).length tr9,.slice tqa (aN d) tra,.slice tqb (aN d) trb]:=by rw[ma,K1.s1,K1.s2,K1.fA,K1.st,te1,te2,te3,te4,te5,te6,te7,te8,te9,tea,teb]
rw[tv]
refine aC ?_
refine zj Tryz.func15 ?_
refine hmk2.mono ?_
rintro _ h3 (⟨_,rfl,e3⟩ | ⟨hc2,m2,nm2,rfl,K2⟩)
·refine fl dz d53 ?_
 refine ag rfl ?_
 refine aC ?_
 refine zj Tryz.func13 ?_
 refine jQ.mono ?_
 rintro _ ha ⟨rfl,ea⟩
 obtain rfl:=ea.symm
 refine aC ?_
 refine ak ?_
 exact⟨_,al,rfl⟩
have G2:=uV hc2 (by exact hpt)
obtain⟨A,rb,rb',hA,hA2,hlb⟩:=CI (d:=d) (s:=s)
obtain⟨n,hn⟩:∃ n,n=A.length:=⟨_,rfl⟩
have hl1:(ol d).length=n+1:=by rw[hA,List.length_append,hn];rfl
have hl2:(ol (aV d s)).length=n+1:=by rw[hA2,List.length_append,hn];rfl
obtain⟨uq1,ur1,ue1⟩:=b9.form K2.D.now.aa
obtain⟨uq2,ur2,ue2⟩:=b9.form K2.D.now.aj
obtain⟨uq3,ur3,ue3⟩:=bT.form K2.D.now.follows
obtain⟨uq4,ur4,ue4⟩:=bT.form K2.D.now.ah
obtain⟨uq5,ur5,ue5⟩:=b9.form K2.D.now.boxes
obtain⟨uq6,ur6,ue6⟩:=dt.form K2.r
obtain⟨uq7,ur7,ue7⟩:=dt.form K2.f
obtain⟨uq8,ur8,ue8⟩:=K2.n.form
obtain⟨uq9,ur9,ue9⟩:=K2.b.form
obtain⟨uqa,ura,uea⟩:=K2.F.form
obtain⟨uqb,urb,ueb⟩:=K2.R.form
rw[List.length_map] at ue6
rw[iO] at ue7
rw[K2.RP] at ue8
have uv:ma m2 = .agg #[.string (aV d s).start,.string (aV d s).layout,.slice uq1 (aV d s).aa.length ur1,.slice uq2 (aV d s).aj.length ur2,.slice uq3 (aV d s).follows.length ur3,.slice uq4 (aV d s).ah.length ur4,.slice uq5 (aV d s).boxes.length ur5,i64 (aN (aV d s):Int),i64 (cY (aV d s):Int),.slice uq6 (ol (aV d s)).length ur6,.slice uq7 (ol (aV d s)).length ur7,.slice uq8 (aN (aV d s)) ur8,.slice uq9 (fm [] (gJ (aV d s) (dM (aV d s)))).length ur9,.slice uqa (aN (aV d s)) ura,.slice uqb (aN (aV d s)) urb]:=by rw[ma,K2.s1,K2.s2,K2.fA,K2.st,ue1,ue2,ue3,ue4,ue5,ue6,ue7,ue8,ue9,uea,ueb]
have hnt:aN (aV d s)=aN d:=rfl
rw[uv,hl1,hl2,hnt]
rw[hl1] at te6 te7
rw[hl2] at ue6 ue7
have hrl:=wl G hpt
rw[hl1] at hrl
obtain⟨N1,hN1⟩:∃ N1,N1=n+1:=⟨_,rfl⟩
rw[← hN1] at hl1 hl2 te6 te7 ue6 ue7 hrl ⊢
have dN:decide ((N1:Int)=(N1:Int))=true:=decide_eq_true rfl
have dT:decide ((aN d:Int)=(aN d:Int))=true:=decide_eq_true rfl
have dN0:decide ((N1:Int)=0)=false:=decide_eq_false om
have hwm:IntKind.i64.wrap ((N1:Int)-1)=(n:Int):=by rw[ay om om];omega
refine aG dz ?_
refine ae rfl ?_
refine g9 dN dT dN0 ?_
refine ae rfl ?_
refine aC ?_
refine CW.mono (Q:=fun e s'=>e = .exit 0∧s'.h=h3∧bG [(6,.box [.string d.start,.string d.layout,.slice tq1 d.aa.length tr1,.slice tq2 d.aj.length tr2,.slice tq3 d.follows.length tr3,.slice tq4 d.ah.length tr4,.slice tq5 d.boxes.length tr5,i64 (aN d:Int),i64 (cY d:Int),.slice tq6 N1 tr6,.slice tq7 N1 tr7,.slice tq8 (aN d) tr8,.slice tq9 (fm [] (gJ d (dM d))).length tr9,.slice tqa (aN d) tra,.slice tqb (aN d) trb]),(8,.box [.string (aV d s).start,.string (aV d s).layout,.slice uq1 (aV d s).aa.length ur1,.slice uq2 (aV d s).aj.length ur2,.slice uq3 (aV d s).follows.length ur3,.slice uq4 (aV d s).ah.length ur4,.slice uq5 (aV d s).boxes.length ur5,i64 (aN d:Int),i64 (cY (aV d s):Int),.slice uq6 N1 ur6,.slice uq7 N1 ur7,.slice uq8 (aN d) ur8,.slice uq9 (fm [] (gJ (aV d s) (dM (aV d s)))).length ur9,.slice uqa (aN d) ura,.slice uqb (aN d) urb]),(10,.val (i64 N1))] s'.fr) ?_ ?_
·refine dx n (fun i=>[(6,.box [.string d.start,.string d.layout,.slice tq1 d.aa.length tr1,.slice tq2 d.aj.length tr2,.slice tq3 d.follows.length tr3,.slice tq4 d.ah.length tr4,.slice tq5 d.boxes.length tr5,i64 (aN d:Int),i64 (cY d:Int),.slice tq6 N1 tr6,.slice tq7 N1 tr7,.slice tq8 (aN d) tr8,.slice tq9 (fm [] (gJ d (dM d))).length tr9,.slice tqa (aN d) tra,.slice tqb (aN d) trb]),(8,.box [.string (aV d s).start,.string (aV d s).layout,.slice uq1 (aV d s).aa.length ur1,.slice uq2 (aV d s).aj.length ur2,.slice uq3 (aV d s).follows.length ur3,.slice uq4 (aV d s).ah.length ur4,.slice uq5 (aV d s).boxes.length ur5,i64 (aN d:Int),i64 (cY (aV d s):Int),.slice uq6 N1 ur6,.slice uq7 N1 ur7,.slice uq8 (aN d) ur8,.slice uq9 (fm [] (gJ (aV d s) (dM (aV d s)))).length ur9,.slice uqa (aN d) ura,.slice uqb (aN d) urb]),(10,.val (i64 N1)),(11,.val (i64 i))]) (fun _=>h3) (fun _=>True) aM rfl trivial ?_
 intro i hin _
 by_cases hlt:i<n
 ·have hR:=K1.r
  rw[te6] at hR
  obtain⟨id,av,c',cells,pa,ca,hv,hid,hrd,hu,_⟩:=pW.at hR (i:=i) (by rw[List.length_map,hl1];omega)
  rw[List.length_map,hl1] at hv
  cases hv
  have hid:=af K2.p hid
  have hu:=hu.mono fun j o _ g=>af K2.p g
  have hR2:=K2.r
  rw[ue6] at hR2
  obtain⟨id2,ver2,c2',cells2,pb,cb,hv2,hid2,hrd2,hu2,_⟩:=pW.at hR2 (i:=i) (by rw[List.length_map,hl2];omega)
  rw[List.length_map,hl2] at hv2
  cases hv2
  have eg1:((ol d).map (·.1))[i]'(by rw[List.length_map,hl1];omega)=(A[i]'om).1:=by simp [hA,hn▸hlt]
  have eg2:((ol (aV d s)).map (·.1))[i]'(by rw[List.length_map,hl2];omega)=(A[i]'om).1:=by simp [hA2,hn▸hlt]
  rw[eg1] at hrd hu
  rw[eg2] at hrd2 hu2
  have hyl:=Ka G _ (show A[i]'om∈ol d by rw[hA];exact List.mem_append_left _ (List.getElem_mem _))
  generalize (A[i]'om).1=y at hrd hu hrd2 hu2 hyl
  have w1:((0:Int)≤i∧(i:Int)<(N1:Int))=True:=eq_true om
  have w2:=inc (k:=i) (n:=n) hlt om
  have q3:=aW hlt
  refine fl hwm q3 ?_
  refine ag rfl ?_
  refine zu ?_
  apply EW (L:=[[],[0],[0,1],[],[0,1,2,3],[0,1,2,3,4],[],[6],[6,7],[],[6,7,8,9],[6,7,8,9,10],[],[],[0,1,2,3,4,5,12],[6,7,8,9,10,11,13]]) (resL:=[_,_,_,_,_,_,_,_,_,_,_,_,_,_,.sl .dJ,.sl .dJ]) (frF:=[(6,.box [.string d.start,.string d.layout,.slice tq1 d.aa.length tr1,.slice tq2 d.aj.length tr2,.slice tq3 d.follows.length tr3,.slice tq4 d.ah.length tr4,.slice tq5 d.boxes.length tr5,i64 (aN d:Int),i64 (cY d:Int),.slice (some ⟨id,0,some av⟩) N1 tr6,.slice tq7 N1 tr7,.slice tq8 (aN d) tr8,.slice tq9 (fm [] (gJ d (dM d))).length tr9,.slice tqa (aN d) tra,.slice tqb (aN d) trb]),(8,.box [.string (aV d s).start,.string (aV d s).layout,.slice uq1 (aV d s).aa.length ur1,.slice uq2 (aV d s).aj.length ur2,.slice uq3 (aV d s).follows.length ur3,.slice uq4 (aV d s).ah.length ur4,.slice uq5 (aV d s).boxes.length ur5,i64 (aN d:Int),i64 (cY (aV d s):Int),.slice (some ⟨id2,0,some ver2⟩) N1 ur6,.slice uq7 N1 ur7,.slice uq8 (aN d) ur8,.slice uq9 (fm [] (gJ (aV d s) (dM (aV d s)))).length ur9,.slice uqa (aN d) ura,.slice uqb (aN d) urb]),(10,.val (i64 N1)),(11,.val (i64 i)),(12,.box [i64 y.lhs,.slice pa y.rhs.length ca]),(13,.box [i64 y.lhs,.slice pb y.rhs.length cb])]) (a1:=12) (st1:=14) (d1:=12) (a2:=13) (st2:=15) (d2:=13) (cs1':=[i64 y.lhs,.slice pa y.rhs.length ca]) (cs2':=[i64 y.lhs,.slice pb y.rhs.length cb])
  case hm=>exact mixed
  case hc=>kernel_rfl
  case hne=>decide
  case hb=>rfl
  case hf1=>rfl
  case hf2=>rfl
  case hn1=>rfl
  case hn2=>rfl
  case hst=>rfl
  case hsz=>rfl
  case ho1=>rfl
  case hop1=>rfl
  case hod1=>rfl
  case hda1=>rfl
  case ho2=>rfl
  case hop2=>rfl
  case hod2=>rfl
  case hda2=>rfl
  case hS=>exact UO w1 hid hrd hid2 hrd2
  case hra1=>rfl
  case hra2=>rfl
  case hti1=>exact Hd
  case hw1=>intro H;exact al
  case hp1=>intro H;exact (by simp only[push_cast,env,Nat.reduceEqDiff,reduceIte,mv,fN]<;>exact rfl)
  case hbx1=>intro H;exact al
  case hv1=>intro H;exact al
  case hvs1=>rfl
  case hwr1=>rfl
  case hti2=>exact Hd
  case hw2=>intro H;exact al
  case hp2=>intro H;exact (by simp only[push_cast,env,Nat.reduceEqDiff,reduceIte,mv,fN]<;>exact rfl)
  case hbx2=>intro H;exact al
  case hv2=>intro H;exact al
  case hvs2=>rfl
  case hwr2=>rfl
  case ht=>rfl
  case hF=>exact zh
  show CW _ _ _ _
  have dl:decide (y.lhs=y.lhs)=true:=decide_eq_true rfl
  have dr:decide ((y.rhs.length:Int)=(y.rhs.length:Int))=true:=decide_eq_true rfl
  refine fl dl dr ?_
  refine ae rfl ?_
  refine aC ?_
  refine CW.mono (Q:=fun e s'=>e = .exit 2∧s'.h=h3∧bG [(6,.box [.string d.start,.string d.layout,.slice tq1 d.aa.length tr1,.slice tq2 d.aj.length tr2,.slice tq3 d.follows.length tr3,.slice tq4 d.ah.length tr4,.slice tq5 d.boxes.length tr5,i64 (aN d:Int),i64 (cY d:Int),.slice (some ⟨id,0,some av⟩) N1 tr6,.slice tq7 N1 tr7,.slice tq8 (aN d) tr8,.slice tq9 (fm [] (gJ d (dM d))).length tr9,.slice tqa (aN d) tra,.slice tqb (aN d) trb]),(8,.box [.string (aV d s).start,.string (aV d s).layout,.slice uq1 (aV d s).aa.length ur1,.slice uq2 (aV d s).aj.length ur2,.slice uq3 (aV d s).follows.length ur3,.slice uq4 (aV d s).ah.length ur4,.slice uq5 (aV d s).boxes.length ur5,i64 (aN d:Int),i64 (cY (aV d s):Int),.slice (some ⟨id2,0,some ver2⟩) N1 ur6,.slice uq7 N1 ur7,.slice uq8 (aN d) ur8,.slice uq9 (fm [] (gJ (aV d s) (dM (aV d s)))).length ur9,.slice uqa (aN d) ura,.slice uqb (aN d) urb]),(10,.val (i64 N1)),(11,.val (i64 i))] s'.fr) ?_ ?_
  ·refine dx y.rhs.length (fun j=>[(6,.box [.string d.start,.string d.layout,.slice tq1 d.aa.length tr1,.slice tq2 d.aj.length tr2,.slice tq3 d.follows.length tr3,.slice tq4 d.ah.length tr4,.slice tq5 d.boxes.length tr5,i64 (aN d:Int),i64 (cY d:Int),.slice (some ⟨id,0,some av⟩) N1 tr6,.slice tq7 N1 tr7,.slice tq8 (aN d) tr8,.slice tq9 (fm [] (gJ d (dM d))).length tr9,.slice tqa (aN d) tra,.slice tqb (aN d) trb]),(8,.box [.string (aV d s).start,.string (aV d s).layout,.slice uq1 (aV d s).aa.length ur1,.slice uq2 (aV d s).aj.length ur2,.slice uq3 (aV d s).follows.length ur3,.slice uq4 (aV d s).ah.length ur4,.slice uq5 (aV d s).boxes.length ur5,i64 (aN d:Int),i64 (cY (aV d s):Int),.slice (some ⟨id2,0,some ver2⟩) N1 ur6,.slice uq7 N1 ur7,.slice uq8 (aN d) ur8,.slice uq9 (fm [] (gJ (aV d s) (dM (aV d s)))).length ur9,.slice uqa (aN d) ura,.slice uqb (aN d) urb]),(10,.val (i64 N1)),(11,.val (i64 i)),(12,.box [i64 y.lhs,.slice pa y.rhs.length ca]),(13,.box [i64 y.lhs,.slice pb y.rhs.length cb]),(14,.val (i64 j))]) (fun _=>h3) (fun _=>True) aM rfl trivial ?_
   intro j hjn _
   by_cases hjl:j<y.rhs.length
   ·obtain⟨id3,ver3,own3,c3,hv3,hid3⟩:=(hu.sl (b:=40) om).at om
    cases hv3
    obtain⟨id4,ver4,own4,c4,hv4,hid4⟩:=(hu2.sl (b:=40) om).at om
    cases hv4
    have hg:jr (y.rhs.flatMap bg.cells) (j*5) 5=some [i64 y.rhs[j].nt,u64 y.rhs[j].set.a,u64 y.rhs[j].set.b,u64 y.rhs[j].set.c,u64 y.rhs[j].set.d]:=bL (f:=bg.cells) (fun _=>rfl) y.rhs j y.rhs[j] (by simp [hjl])
    have v1:=cD hjl
    have v2:=inc hjl om
    have v3:=aW hjl
    have dq:∀ z:Int,decide (z=z)=true:=fun z=>decide_eq_true rfl
    refine aG v3 ?_
    refine ag rfl ?_
    refine aC ?_
    refine aR 10 mixed kr ?_
    refine mc v1 hid3 hg hid4 dq ?_
    refine ae rfl ?_
    refine aG v2 ?_
    exact⟨hjl,aM,rfl,trivial⟩
   ·have v3:=aU hjl
    obtain rfl:j=y.rhs.length:=by omega
    refine aG v3 ?_
    refine ae rfl ?_
    refine aB ?_
    exact⟨rfl,rfl,aM⟩
  rintro e s' ⟨rfl,hh,hf⟩
  show CW _ _ _ _
  refine aA _ hf ?_
  rw[hh]
  clear hf hh s'
  refine aG w2 ?_
  exact⟨hlt,aM,rfl,trivial⟩
 ·have q3:=aU hlt
  obtain rfl:i=n:=by omega
  refine fl hwm q3 ?_
  refine ae rfl ?_
  refine aB ?_
  exact⟨rfl,rfl,aM⟩
rintro e s' ⟨rfl,hh,hf⟩
show CW _ _ _ _
refine aA _ hf ?_
rw[hh]
clear hf hh s'
have hin1:n<(dM d).length:=by rw[iO,hl1];omega
have hin2:n<(dM (aV d s)).length:=by rw[iO,hl2];omega
have hf1:=K1.ul G hpt
rw[te7] at hf1
obtain⟨id,av,own,c,cells,pz,nz,cz,hv,hid,_,hrd,_⟩:=hf1.at hin1
rw[iO,hl1] at hv
cases hv
have hid:=af K2.p hid
have hf2:=K2.ul G2 (by exact hpt)
rw[ue7] at hf2
obtain⟨id2,ver2,own2,c2',cells2,pz2,nz2,cz2,hv2,hid2,_,hrd2,_⟩:=hf2.at hin2
rw[iO,hl2] at hv2
cases hv2
have hR:=K1.r
rw[te6] at hR
obtain⟨id3,ver3,c3,cells3,pa,ca,hv3,hid3,hrd3,_,_⟩:=pW.at hR (i:=n) (by rw[List.length_map,hl1];omega)
rw[List.length_map,hl1] at hv3
cases hv3
have hid3:=af K2.p hid3
have eg1:(dM d)[n]=⟨5,0,0,[]⟩:=by simp [dM,hA,hn]
have eg2:(dM (aV d s))[n]=⟨5,0,0,[]⟩:=by simp [dM,hA2,hn]
have eg3:((ol d).map (·.1))[n]'(by rw[List.length_map,hl1];omega)=rb:=by simp [hA,hn]
rw[eg1] at hrd
rw[eg2] at hrd2
rw[eg3,hlb] at hrd3
have k1:=fy hrd om
have k2:=fy hrd2 om
have k3:=fy hrd3 om
simp only[List.getElem?_cons_zero] at k1 k2 k3
have u1:((0:Int)≤n∧(n:Int)<(N1:Int))=True:=eq_true om
have d5:decide ((5:Int)=5)=true:=rfl
have dtop:decide ((cY d:Int)=(cY d:Int))=true:=decide_eq_true rfl
apply zs
apply bz (L:=[[],[0],[0,1],[0,1,2],[0,1],[0,1,4],[0,1,2,3,4,5],[0,1,2,3,4,5,6],[0,1,2,3,4,5,6,7],[0,1,2,3,4,5,6,7,8],[0,1,2,3,4,5,6,7,8,9],[0,1,2,3,4,5,6,7,8,9,10],[0,1,2,3,4,5,6,7,8,9,10,11],[0,1,2,3,4,5,6,7,8,9,10,11,12],[0,1,2,3,4,5,6,7,8,9,10,11],[0,1,2,3,4,5,6,7,8,9,10,11,14],[0,1,2,3,4,5,6,7,8,9,10,11,12,13,14,15],[0,1,2,3,4,5,6,7,8,9,10,11,12,13,14,15,16],[0,1,2,3,4,5,6,7,8,9,10,11,12,13,14,15,16,17],[0,1,2,3,4,5,6,7,8,9,10,11,12,13,14,15,16,17,18],[0,1,2,3,4,5,6,7,8,9,10,11,12,13,14,15,16,17,18,19],[0,1,2,3,4,5,6,7,8,9,10,11,12,13,14,15,16,17,18,19,20],[0,1,2,3,4,5,6,7,8,9,10,11,12,13,14,15,16,17,18,19,20,21],[0,1,2,3,4,5,6,7,8,9,10,11,12,13,14,15,16,17,18,19,20,21,22],[0,1,2,3,4,5,6,7,8,9,10,11,12,13,14,15,16,17,18,19,20,21,22,23],[0,1,2,3,4,5,6,7,8,9,10,11,12,13,14,15,16,17,18,19,20,21],[0,1,2,3,4,5,6,7,8,9,10,11,12,13,14,15,16,17,18,19,20,21,25],[0,1,2,3,4,5,6,7,8,9,10,11,12,13,14,15,16,17,18,19,20,21,22,23,24,25,26],[0,1,2,3,4,5,6,7,8,9,10,11,12,13,14,15,16,17,18,19,20,21,22,23,24,25,26,27],[0,1,2,3,4,5,6,7,8,9,10,11,12,13,14,15,16,17,18,19,20,21,22,23,24,25,26,27,28],[0,1,2,3,4,5,6,7,8,9,10,11,12,13,14,15,16,17,18,19,20,21],[0,1,2,3,4,5,6,7,8,9,10,11,12,13,14,15,16,17,18,19,20,21,30],[0,1,2,3,4,5,6,7,8,9,10,11,12,13,14,15,16,17,18,19,20,21,30,31],[0,1,2,3,4,5,6,7,8,9,10,11,12,13,14,15,16,17,18,19,20,21,22,23,24,25,26,27,28,29,30,31,32],[0,1,2,3,4,5,6,7,8,9,10,11,12,13,14,15,16,17,18,19,20,21,22,23,24,25,26,27,28,29,30,31,32,33],[0,1,2,3,4,5,6,7,8,9,10,11,12,13,14,15,16,17,18,19,20,21,22,23,24,25,26,27,28,29,30,31,32,33,34]]) (resL:=[_,_,_,_,_,_,_,_,_,_,_,_,_,_,_,_,_,_,_,_,_,_,_,_,_,_,_,_,_,_,_,_,_,_,_,_]) (frF:=[(4,.val (.bool true))])
case hm=>exact mixed
case hc=>kernel_rfl
case hb=>rfl
case hS=>
 apply aT.cons;·refine bh (fn:=Tryz.f13) rfl al rfl al al Tryz.func13 kr kr (jQ)
 ·rfl
 repeat (first|exact aT.nil _|(apply aT.cons;(·apply zz;simp only[push_cast,env,Nat.reduceEqDiff,reduceIte,Nat.reduceAdd,Nat.reduceMul,Nat.reduceLeDiff,reduceCtorEq,Nat.reduceSub,Int.reduceToNat,hwm,u1,hid,k1,hid2,k2,hid3,k3,d5,dtop]<;>exact rfl);(·rfl)))
case ht=>rfl
case hF=>exact zh
show CW _ _ _ _
refine aC ?_
refine ak ?_
exact⟨_,al,rfl⟩}
end
end Go.Proofs.YtmdmimkbpikmoaaGreat
