/- Several texts, one behind the other. -/
import Derived.Test.YtmdmimkbpikmoaaGreatZTc
import Derived.Test.YtmdmimkbpikmoaaGreatZG5
import Derived.Test.YtmdmimkbpikmoaaGreatZV4
namespace Go.Proofs.YtmdmimkbpikmoaaGreat
set_option linter.unusedSimpArgs false
set_option linter.unusedVariables false
set_option maxRecDepth 20000
open Go.RowKit Am Ty
theorem Qzh {a b c:Code} {s:St} {Q:AX→St→Prop} {I:St→Prop} {fr fr2:Am.Fr} {h:Heap} {P:Heap→Prop} (ha:SW env a s (fun e s'=>e = .normal∧I s')) (hb:∀ s',I s'→SW env b s' (fun e s''=>e = .normal∧SubL fr s''.fr∧s''.h=h))
 (hc:CW env c ⟨fr,[],h⟩ (fun e s'=>e = .normal∧SubL fr2 s'.fr∧P s'.h)) (k:∀ h2,P h2→Q .normal ⟨fr2,[],h2⟩):CW env (.seq a (.seq b c)) s Q:=by
 unfold CW at hc
 obtain⟨e,s1,hev,rfl,hf,hP⟩:=hc
 refine Qub (e:=.normal) fr2 s1.h ?_ (k _ hP)
 refine Qil ha (fun e s' ⟨h1,_⟩ h2=>absurd h1 h2) fun s' ⟨_,hI⟩=>?_
 refine Qil (hb s' hI) (fun e s' ⟨h1,_⟩ h2=>absurd h1 h2) fun s'' ⟨_,hf2,hh⟩=>?_
 refine Qad fr hf2 ?_
 rw[hh]
 unfold SW
 exact .sDet hev ⟨rfl,hf,rfl⟩
def Zk (F:List (BanE×Int)) (seen:List Nat):List BanE:=seen.filterMap fun i=>(F[i]?).map (·.1)
theorem Qoy {F:List (BanE×Int)} {seen:List Nat} {i:Nat} {p:BanE×Int} (h:F[i]? = some p):Zk F (seen++[i])=Zk F seen++[p.1]:=by
 unfold Zk
 rw[List.filterMap_append]
 congr 1
 simp [h]
theorem Qjx {F:List (BanE×Int)}:∀ {seen:List Nat},(∀ i∈seen,i<F.length)→(Zk F seen).length=seen.length
 | [],_=>rfl
 | i :: s,h=>by
   have ih:=Qjx (F:=F) (seen:=s) fun j hj=>h j (List.mem_cons_of_mem _ hj)
   unfold Zk at ih ⊢
   have hi:=h i (List.mem_cons_self)
   rw[List.filterMap_cons,List.getElem?_eq_getElem hi]
   simp only[Option.map_some,List.length_cons,ih]
theorem Qne (F:List (BanE×Int)):Zk F (List.range F.length)=F.map (·.1):=by
 unfold Zk
 refine List.ext_getElem? fun j=>?_
 have key:∀ n,n≤F.length→(List.range n).filterMap (fun i=>(F[i]?).map (·.1))=(F.take n).map (·.1):=by
  intro n
  induction n with
  | zero=>intro _;rfl
  | succ n ih=>
    intro hn
    rw[List.range_succ,List.filterMap_append,ih om,List.take_succ_eq_append_getElem om,List.map_append]
    congr 1
    simp [show n<F.length by omega]
 rw[key _ (Nat.le_refl _),List.take_length]
theorem Qof {F:List (BanE×Int)} {seen:List Nat} (hn:seen.Nodup) (hl:∀ i∈seen,i<F.length) (ha:∀ i,i<F.length→i∈seen):(Zk F seen).Perm (F.map (·.1)):=by
 rw[← Qne F]
 unfold Zk
 refine List.Perm.filterMap _ ((List.perm_ext_iff_of_nodup hn List.nodup_range).2 fun i=>?_)
 rw[List.mem_range]
 exact⟨hl i,ha i⟩
theorem Qto {os:List Org} {p a q:Nat} (hos:os.length≤4096) (hs:∀ o∈os,o.syms.length≤1000000):∀ x∈barL os p a q,ItB x:=by
 intro x hx
 unfold barL at hx
 rw[List.mem_flatMap] at hx
 obtain⟨r,hr,hx⟩:=hx
 have h1:=Qd7 hr
 unfold barR at hx
 rw[List.getElem?_eq_getElem h1] at hx
 simp only[List.mem_flatMap,List.mem_range] at hx
 obtain⟨j,hj,hx⟩:=hx
 have h2:=hs _ (List.getElem_mem h1)
 unfold barP at hx
 split at hx
 ·rw[List.mem_map] at hx
  obtain⟨k,hk,rfl⟩:=hx
  have h3:=Qd7 hk
  exact⟨by simp only;omega,by simp only;omega,by simp only;omega⟩
 ·simp at hx
theorem Qwd {d:Def} {os:List Org} (hos:os.length≤4096) (hs:∀ o∈os,o.syms.length≤1000000):∀ x∈allL d os,ItB x:=by
 intro x hx
 unfold allL Qag at hx
 simp only[List.mem_flatMap] at hx
 obtain⟨l,_,p,_,q,_,hx⟩:=hx
 unfold banQ at hx
 split at hx
 ·rw[List.mem_flatMap] at hx
  obtain⟨y,_,hx⟩:=hx
  unfold banS at hx
  split at hx
  ·split at hx
   ·exact Qto hos hs x hx
   ·simp at hx
  ·simp at hx
 ·simp at hx
theorem Qjg:∀ {xs l:List BanE},(Qbl l xs).length≤l.length+xs.length
 | [],_=>Nat.le_refl _
 | x :: xs,l=>by
   have ih:=Qjg (xs:=xs) (l:=addB l x)
   have:(addB l x).length≤l.length+1:=by unfold addB;split<;>simp
   unfold Qbl at ih ⊢
   rw[List.foldl_cons,List.length_cons]
   omega
def folD (d:Def) (l:List Follow):List BSet:=l.foldl (fun s x=>s.set (ntS d x.sort) ((s.getD (ntS d x.sort) set0).union x.set)) (List.replicate (ntsN d) set0)
def rejD (d:Def) (l:List Reject):List Int:=l.foldl (fun s x=>s.set (ntS d x.sort) (ntS d x.by_:Int)) (List.replicate (ntsN d) (-1))
theorem Qgh {d:Def} {l:List Follow} {k:Nat} (hk:k<l.length):folD d (l.take (k+1))=(folD d (l.take k)).set (ntS d l[k].sort) (((folD d (l.take k)).getD (ntS d l[k].sort) set0).union l[k].set):=by
 unfold folD
 rw[List.take_succ_eq_append_getElem hk,List.foldl_append]
 rfl
theorem Qj3 {d:Def} {l:List Reject} {k:Nat} (hk:k<l.length):rejD d (l.take (k+1))=(rejD d (l.take k)).set (ntS d l[k].sort) (ntS d l[k].by_:Int):=by
 unfold rejD
 rw[List.take_succ_eq_append_getElem hk,List.foldl_append]
 rfl
theorem Qu7 {d:Def}:∀ k (l:List Follow),(folD d (l.take k)).length=ntsN d:=by
 intro k l
 induction k with
 | zero=>unfold folD;rw[List.take_zero];exact List.length_replicate
 | succ k ih=>
   by_cases h:k<l.length
   ·rw[Qgh h,List.length_set];exact ih
   ·rw[List.take_of_length_le om]
    rw[List.take_of_length_le om] at ih
    exact ih
theorem Qtq {d:Def}:∀ k (l:List Reject),(rejD d (l.take k)).length=ntsN d:=by
 intro k l
 induction k with
 | zero=>unfold rejD;rw[List.take_zero];exact List.length_replicate
 | succ k ih=>
   by_cases h:k<l.length
   ·rw[Qj3 h,List.length_set];exact ih
   ·rw[List.take_of_length_le om]
    rw[List.take_of_length_le om] at ih
    exact ih
theorem Qp8:SetWf set0:=⟨⟨by decide,by decide⟩,⟨by decide,by decide⟩,⟨by decide,by decide⟩,⟨by decide,by decide⟩⟩
theorem Qsr {s t:BSet} (h1:SetWf s) (h2:SetWf t):SetWf (s.union t):=⟨Qcn h1.a h2.a,Qcn h1.b h2.b,Qcn h1.c h2.c,Qcn h1.d h2.d⟩
theorem Qxv {d:Def} {l:List Follow} (h:∀ x∈l,SetWf x.set):∀ k,∀ s∈folD d (l.take k),SetWf s:=by
 intro k
 induction k with
 | zero=>
   intro s hs
   unfold folD at hs
   rw[List.take_zero] at hs
   rw[List.eq_of_mem_replicate hs]
   exact Qp8
 | succ k ih=>
   by_cases hk:k<l.length
   ·intro s hs
    rw[Qgh hk] at hs
    rcases List.mem_or_eq_of_mem_set hs with hs|rfl
    ·exact ih s hs
    ·refine Qsr ?_ (h _ (List.getElem_mem hk))
     rw[List.getD_eq_getElem?_getD]
     cases e:(folD d (l.take k))[ntS d l[k].sort]? with
     | none=>exact Qp8
     | some y=>exact ih y (List.mem_of_getElem? e)
   ·rw[List.take_of_length_le om]
    rw[List.take_of_length_le om] at ih
    exact ih
structure FS (hD:Heap) (im nF nR:Nat) (x:Heap) (mm:MK) (SF:List BSet) (SR:List Int):Prop where
 o:x[im]? = some (.arr mm.cells 0 true 94)
 F:x[nF]? = some (.arr (SF.flatMap BSet.cells) 0 true 54)
 R:x[nR]? = some (.arr (SR.map i64) 0 true 3)
 k:∀ (j:Nat) (o:HObj),j<hD.length→j≠im→hD[j]? = some o→x[j]? = some o
 l:hD.length≤x.length
theorem FS.setF {hD x:Heap} {im nF nR:Nat} {mm:MK} {SF:List BSet} {SR:List Int} (S:FS hD im nF nR x mm SF SR) (h1:nF≠im) (h2:nF≠nR) (h3:hD.length≤nF) (SF':List BSet):FS hD im nF nR (x.set nF (.arr (SF'.flatMap BSet.cells) 0 true 54)) mm SF' SR:=
 ⟨by rw[Qk h1];exact S.o,Qh S.F,by rw[Qk h2];exact S.R,fun j o hj hn h=>by rw[Qk om];exact S.k j o hj hn h,by rw[List.length_set];exact S.l⟩
theorem FS.setR {hD x:Heap} {im nF nR:Nat} {mm:MK} {SF:List BSet} {SR:List Int} (S:FS hD im nF nR x mm SF SR) (h1:nR≠im) (h2:nF≠nR) (h3:hD.length≤nR) (SR':List Int):FS hD im nF nR (x.set nR (.arr (SR'.map i64) 0 true 3)) mm SF SR':=
 ⟨by rw[Qk h1];exact S.o,by rw[Qk h2.symm];exact S.F,Qh S.R,fun j o hj hn h=>by rw[Qk om];exact S.k j o hj hn h,by rw[List.length_set];exact S.l⟩
theorem Quc {N k:Nat} (hk:k<N):(List.replicate k (-1:Int)++List.replicate (N-k) 0).set k (-1)=List.replicate (k+1) (-1)++List.replicate (N-(k+1)) 0:=by
 rw[List.set_append_right _ _ (by rw[List.length_replicate];exact Nat.le_refl _),List.length_replicate,Nat.sub_self,show N-k=(N-(k+1))+1 by omega,List.replicate_succ,List.set_cons_zero,List.replicate_succ',List.append_assoc]
 rfl
theorem Quz {hk hC:Heap} {im:Nat} {m:MK} {B B':List BanE} (h:hk.length≤hC.length) (h0:B.length=B'.length):Grow hk (hbO hC im m B B') (vbO hC.length B) B.length (BC B') 70:=by
 unfold vbO
 split
 ·rename_i e
  rw[e]
  have:B'=[]:=List.length_eq_zero_iff.1 om
  rw[this]
  exact Grow.nil
 ·rename_i k e
  rw[e]
  refine .inr ⟨hC.length,k,h,rfl,?_⟩
  unfold hbO bobj
  rw[e,List.getElem?_append_right (by rw[List.length_set];exact Nat.le_refl _),List.length_set,Nat.sub_self]
  rfl
structure FiO (h0 hk h':Heap) (im:Nat) (m:MK) (d:Def) (os:List Org) (vb vF vR:Value):Prop where
 p:h0 <+: h'
 l:hk.length≤h'.length
 o:h'[im]? = some (.arr (MK.cells { m with vb:=vb,vF:=vF,vR:=vR }) 0 true 94)
 k:∀ (j:Nat) (o:HObj),j<hk.length→j≠im→hk[j]? = some o→h'[j]? = some o
 b:Grow hk h' vb (Qbl [] (allL d os)).length (BC (Qaj (Qbl [] (allL d os)))) 70
 F:Grow hk h' vF (ntsN d) ((folD d d.follows).flatMap BSet.cells) 54
 R:Grow hk h' vR (ntsN d) ((rejD d d.rejects).map i64) 3
section
variable {h0 hk h1 x hA:Heap} {im it ip:Nat} {m:MK} {d:Def} {os:List Org} {nm:List ByteArray} {sE:List (ByteArray×Int)}
set_option maxHeartbeats 16000000 in
theorem Qou (K:KD h0 hk im m d os nm) (hsm:hk[m.is]? = some (.map (smE sE))) (hsg:∀ x∈Qm d.prods,mget (smE sE) (.string x)=some (i64 (ntS d x:Int))) (hvb:m.vb=nilS) (hnts:m.nts=(ntsN d:Int)) (hN:ntsN d≤5000) (hok:Qk4 d) (hos:os.length≤4096)
 (hch:∀ c∈d.chains,(Yr c).length≤1000∧c.length≤1000) (hcn:d.chains.length≤1000) (hsy:∀ p∈d.prods,p.syms.length≤1000) (hosy:∀ o∈os,o.syms.length≤1000000) (hbn:(allL d os).length≤1000000000)
 (hfS:∀ x∈d.follows,x.sort∈Qm d.prods∧SetWf x.set) (hrS:∀ x∈d.rejects,x.sort∈Qm d.prods∧x.by_∈Qm d.prods) (hfl:d.follows.length≤1000) (hrl:d.rejects.length≤1000) (hsn:∀ x∈Qm d.prods,ntS d x<ntsN d) :
 FW env 35 [.pointer (some ⟨im,0,some 0⟩)] hk fun r h'=>r = .tuple #[]∧∃ vb vF vR,FiO h0 hk h' im m d os vb vF vR:=by
 obtain⟨pC,cC,hvC⟩:=RdL.form K.D.chains
 have hl0:h0.length≤hk.length:=K.p.length_le
 refine fe Tryz.func35 ?_;simp only[push_cast]
 refine zu ?_
 iterate 5 (refine zx zp0 ?_)
 refine zu ?_
 refine Qcv (kt:=70) (et:=3) zf0 rfl kr ?_
 dsimp only[St.putO,St.put]
 have hpA:hk <+: hk++[HObj.map []]:=Qo
 have hmA:(hk++[HObj.map []])[hk.length]? = some (.map (bE [])):=Qp
 have hiA:hk.length<(hk++[HObj.map []]).length:=by simp
 generalize (hk++[HObj.map []])=hA at hpA hmA hiA ⊢
 have hitk:hk.length≤hk.length:=Nat.le_refl _
 generalize hit:hk.length=it at hmA hiA ⊢
 have hpk:∀ {X:HObj},hk <+: hA.set it X:=fun {X}=>Xa hpA om
 have KA:∀ {X:List (Value×Value)},KD h0 (hA.set it (.map X)) im m d os nm:=fun {X}=>K.kpA (K.p.trans hpk) (KpA.pre hpk)
 have hobA:=Qc hpA K.o
 simp only[MK.cells,hvC] at hobA
 refine zw1 hobA ?_
 refine CW.mono (Q:=fun e s'=>e = .exit 0∧s'.h=hA.set it (.map (bE (Zu [] (allL d os))))∧SubL [(0,.val (.pointer (some ⟨im,0,some 0⟩))),(2,.val (.pointer (some ⟨im,12,some 0⟩))),(3,.val (.map (some it)))] s'.fr) ?_ ?_
 ·refine Yq d.chains.length (fun k=>[(0,.val (.pointer (some ⟨im,0,some 0⟩))),(2,.val (.pointer (some ⟨im,12,some 0⟩))),(3,.val (.map (some it))),(23,.val (.slice pC d.chains.length cC)),(24,.val (i64 d.chains.length)),(25,.val (i64 k))]) (fun k=>hA.set it (.map (bE (Zu [] ((d.chains.take k).flatMap (Qag d os)))))) (fun _=>True) zg0 (by rw[List.take_zero];exact (Jm hmA).symm) trivial ?_
  intro k hkn _
  by_cases hlt:k<d.chains.length
  ·obtain⟨id,ver,own,c',cells,u,hv2,hid0,hrd,hu⟩:=RdL.at (k:=1) (fun _ _=>rfl) K.D.chains hlt
   rw[hvC] at hv2
   cases hv2
   have hu:RdChain h0 u d.chains[k]:=hu
   have hmem:=List.getElem_mem hlt
   have w1:=rng hlt
   have w2:=inc hlt om
   have q3:=Qv hlt
   have htk:(d.chains.take (k+1)).flatMap (Qag d os)=(d.chains.take k).flatMap (Qag d os)++Qag d os d.chains[k]:=by
    rw[List.take_succ_eq_append_getElem hlt,List.flatMap_append,List.flatMap_singleton]
   have hb:=Qwj (it:=it) (es:=Zu [] ((d.chains.take k).flatMap (Qag d os))) KA (List.getElem?_set_self hiA) om hu (hok _ hmem) hos (hch _ hmem).1 (hch _ hmem).2 hsy
   rw[List.set_set,← Qfq,← htk] at hb
   obtain⟨pv,cv,rfl⟩:=RdL.form hu
   have hid:=Qc (K.p.trans (hpk (X:=.map (bE (Zu [] ((d.chains.take k).flatMap (Qag d os))))))) hid0
   have hr0:=Qci hrd om
   simp only[List.getElem?_cons_zero,Nat.mul_one] at hr0
   refine zw1 q3 ?_
   refine Qb rfl ?_
   refine zw4 w1 hid Nat.mul_one hr0 ?_
   refine zj Tryz.func102 ?_
   refine hb.mono ?_
   rintro _ h2 ⟨rfl,rfl⟩
   refine zw1 w2 ?_
   exact⟨hlt,zg0,rfl,trivial⟩
  ·have q3:=Qu hlt
   obtain rfl:k=d.chains.length:=by omega
   rw[List.take_length]
   refine zw1 q3 ?_
   refine Qa rfl ?_
   refine Qj ?_
   exact⟨rfl,rfl,zg0⟩
 rintro e s' ⟨rfl,hh,hf⟩
 show CW _ _ _ _
 refine Qi _ hf ?_
 rw[hh]
 clear hf hh s'
 have hF:=Qjy (allL d os) []
 rw[List.map_nil] at hF
 have hFl:(Zu [] (allL d os)).length≤1000000000:=by
  have h1:=congrArg List.length hF
  rw[List.length_map] at h1
  have h2:=Qjg (xs:=allL d os) (l:=[])
  simp only[List.length_nil] at h2
  omega
 have hFi:∀ p∈Zu [] (allL d os),ItB p.1:=fun p hp=>by
  have h1:p.1∈(Zu [] (allL d os)).map (·.1):=List.mem_map_of_mem hp
  rw[hF,Qjk] at h1
  exact Qwd hos hosy _ (h1.resolve_left (by simp))
 generalize Zu [] (allL d os)=F at hFl hFi hF ⊢
 have hpC:hk <+: hA.set it (.map (bE F)):=hpk
 have hmC:(hA.set it (.map (bE F)))[it]? = some (.map (bE F)):=List.getElem?_set_self hiA
 have hiC:it<(hA.set it (.map (bE F))).length:=by rw[List.length_set];exact hiA
 have KC:KD h0 (hA.set it (.map (bE F))) im m d os nm:=KA
 clear KA hpk hobA hmA
 generalize hA.set it (.map (bE F))=hC at hpC hmC hiC KC ⊢
 have hoC:=KC.o
 have himC:im<hC.length:=(List.getElem?_eq_some_iff.1 hoC).1
 have hne:it≠im:=by
  intro e
  rw[e,hoC] at hmC
  cases hmC
 have hlF:(bE F).length=F.length:=by unfold bE;rw[List.length_map]
 obtain⟨B,hB⟩:∃ B,B=F.map (·.1):=⟨_,rfl⟩
 have hBl:B.length=F.length:=by rw[hB,List.length_map]
 rw[← hB] at hF
 refine Qzh (I:=fun s'=>∃ L:List BanE,L.Perm B∧s'.h=hbO hC im m L L∧SubL [(0,.val (.pointer (some ⟨im,0,some 0⟩))),(2,.val (.pointer (some ⟨im,12,some 0⟩)))] s'.fr) (fr:=[(0,.val (.pointer (some ⟨im,0,some 0⟩))),(2,.val (.pointer (some ⟨im,12,some 0⟩)))]) (fr2:=[]) (h:=hbO hC im m B (Qaj B)) (P:=fun h'=>∃ vb vF vR,FiO h0 hk h' im m d os vb vF vR) ?_ ?_ ?_ ?_
 ·refine Qil (R:=fun e s'=>e = .normal∧s'.h=hC∧SubL [(0,.val (.pointer (some ⟨im,0,some 0⟩))),(2,.val (.pointer (some ⟨im,12,some 0⟩))),(35,.itr it F.length [])] s'.fr) ?_ (fun e s' ⟨h1,_⟩ h2=>absurd h1 h2) ?_
  ·refine SW.of ?_
   apply zr
   iterate 1 (refine zx zp0 ?_)
   refine Quq (kt:=70) (et:=3) (es:=bE F) zf0 rfl rfl kr zf0 hmC ?_
   rw[hlF]
   apply zn
   exact⟨rfl,rfl,zg0⟩
  rintro s' ⟨_,hh,hf⟩
  refine Qad _ hf ?_
  rw[hh]
  clear hf hh s'
  refine Qnq ?_
  refine Qqa (fun n s=>∃ seen:List Nat,n+seen.length=F.length∧seen.Nodup∧(∀ i∈seen,i<F.length)∧s.h=hbO hC im m (Zk F seen) (Zk F seen)∧SubL [(0,.val (.pointer (some ⟨im,0,some 0⟩))),(2,.val (.pointer (some ⟨im,12,some 0⟩))),(35,.itr it F.length seen)] s.fr) F.length ⟨[],by simp,.nil,by simp,(Qy1 hoC hvb).symm,zg0⟩ ?_
  rintro n s ⟨seen,hms,hnd,hlt6,hh,hf⟩
  refine Qad _ hf ?_
  rw[hh]
  clear hf hh s
  have hmL:(hbO hC im m (Zk F seen) (Zk F seen))[it]? = some (.map (bE F)):=Qke hne hmC
  have hpl:=Qjx hlt6
  refine Qil (R:=fun e s'=>e = .normal∧s'.h=hbO hC im m (Zk F seen) (Zk F seen)∧(((∀ i,i<F.length→i∈seen)∧SubL [(0,.val (.pointer (some ⟨im,0,some 0⟩))),(2,.val (.pointer (some ⟨im,12,some 0⟩))),(37,.val (.bool false))] s'.fr)∨∃ i p,F[i]? = some p∧i∉seen∧SubL [(0,.val (.pointer (some ⟨im,0,some 0⟩))),(2,.val (.pointer (some ⟨im,12,some 0⟩))),(35,.itr it F.length (seen++[i])),(37,.val (.bool true))] s'.fr)) ?_ ?_ ?_
  ·refine Qpi (es:=bE F) rfl rfl rfl rfl (by decide) rfl hmL hlF (Qy6 F) (fun hA=>?_) (fun i kk v hkv hi=>?_)
   ·refine zw0 ?_
    exact⟨rfl,rfl,.inl ⟨hA,zg0⟩⟩
   ·rw[bE_at] at hkv
    obtain⟨p,hp,e1,e2⟩:=hkv
    refine zw0 ?_
    exact⟨rfl,rfl,.inr ⟨i,p,hp,hi,zg0⟩⟩
  ·rintro e s' ⟨rfl,_⟩ he
   exact absurd rfl he
  ·rintro s' ⟨_,hh,⟨hA,hf⟩ | ⟨i,p,hp,hi,hf⟩⟩
   ·refine Qad _ hf ?_
    rw[hh]
    clear hf hh s'
    refine SW.of ?_
    refine zu ?_
    refine Qa rfl ?_
    refine Qj ?_
    refine .inr ⟨by simp,?_⟩
    refine⟨rfl,Zk F seen,?_,rfl,zg0⟩
    rw[hB]
    exact Qof hnd hlt6 hA
   ·refine Qad _ hf ?_
    rw[hh]
    clear hf hh s'
    refine SW.of ?_
    refine zu ?_
    refine Qb rfl ?_
    refine Xx ?_
    show CW _ _ _ _
    have hpe:(bE F)[i]? = some (p.1.val,i64 p.2):=bE_at.2 ⟨p,hp,rfl,rfl⟩
    have hgl:(seen++[i]).getLast? = some i:=by simp
    have hi6:=(List.getElem?_eq_some_iff.1 hp).1
    have hlt7:∀ q∈seen++[i],q<F.length:=fun q hq=>by
     rcases List.mem_append.1 hq with hq|hq
     ·exact hlt6 q hq
     ·rw[List.mem_singleton.1 hq];exact hi6
    have hlen:=Qf9 (Qal hnd hi) hlt7
    rw[List.length_append,List.length_singleton] at hlen
    obtain⟨n',rfl⟩:∃ n',n=n'+1:=⟨n-1,by omega⟩
    obtain⟨h',hone,hob',hset⟩:=Qt3 (hC:=hC) (im:=im) (m:=m) (l:=Zk F seen) (b:=p.1) himC om
    have hobL:=Qor (hC:=hC) (im:=im) (m:=m) (l:=Zk F seen) (l':=Zk F seen) himC
    have hst:=Qoy (seen:=seen) hp
    obtain⟨pL,cL,hvL⟩:=Qi1 (l:=Zk F seen) (n:=hC.length)
    rw[hvL] at hobL hob' hone
    rw[← hst] at hone hset
    simp only[MK.cells] at hobL
    have hob2:=hob'
    simp only[MK.cells] at hob2
    have hvc:Zg 1 (vbO hC.length (Zk F (seen++[i])))=some [vbO hC.length (Zk F (seen++[i]))]:=by
     obtain⟨a,b,e⟩:=Qi1 (l:=Zk F (seen++[i])) (n:=hC.length)
     rw[e]
     rfl
    generalize hbO hC im m (Zk F seen) (Zk F seen)=hL at hmL hone hobL ⊢
    refine zw4 hmL hlF hgl hpe ?_
    refine Qi [(0,.val (.pointer (some ⟨im,0,some 0⟩))),(2,.val (.pointer (some ⟨im,12,some 0⟩))),(6,.box [i64 p.1.rule,i64 p.1.dot,i64 p.1.frm]),(35,.itr it F.length (seen++[i]))] zg0 ?_
    show CW _ _ ⟨_,[],hL⟩ _
    try apply zs
    apply Xd (L:=[[],[],[1],[1,2],[1,2,3],[],[5],[1,2,3,4,5,6],[0],[0,8],[0,1,2,3,4,5,6,7,8,9]]) (act:=[7,10]) (hs:=[h',h'.set im (.arr (MK.cells { m with vb:=vbO hC.length (Zk F (seen++[i])) }) 0 true 94)]) (resL:=[_,_,_,_,_,_,_,_,_,_,_]) (frF:=[(0,.val (.pointer (some ⟨im,0,some 0⟩))),(2,.val (.pointer (some ⟨im,12,some 0⟩))),(35,.itr it F.length (seen++[i]))])
    case hm=>exact Qq
    case hc=>kernel_rfl
    case ha=>rfl
    case hb=>rfl
    case hS=>
     refine za2 hobL hob2 ?_
     apply StepsA.cons
     ·rfl
     ·refine⟨?_,trivial⟩
      exact hone _ _ _ _ _ rfl zf0 rfl zf0 zf0
     ·rfl
     refine za2 hobL hob2 ?_
     apply StepsA.cons
     ·rfl
     ·refine⟨?_,trivial⟩
      exact One.stoH (r:=.sl .unk) (cells':=MK.cells { m with vb:=vbO hC.length (Zk F (seen++[i])) }) zf0 rfl zf0 zf0 hob' zf0 hvc rfl rfl
     ·rfl
     exact StepsA.nil _
    case ht=>rfl
    case hF=>exact zh
    refine .inl ⟨rfl,n',rfl,seen++[i],by rw[List.length_append,List.length_singleton];omega,Qal hnd hi,hlt7,hset,zg0⟩
 ·rintro s' ⟨L,hLp,hh,hf⟩
  refine Qad _ hf ?_
  rw[hh]
  clear hf hh s'
  have hLl:=hLp.length_eq
  have hs:=Qxk hLp
  have hobL:=Qor (hC:=hC) (im:=im) (m:=m) (l:=L) (l':=L) himC
  refine SW.of ?_
  cases L with
  | nil=>
    have hB0:B=[]:=List.length_eq_zero_iff.1 hLl.symm
    have hv0:vbO hC.length []=nilS:=rfl
    have hh0:hbO hC im m B (Qaj B)=hbO hC im m [] []:=by
     rw[hB0]
     show hbO hC im m [] (List.mergeSort [] _)=_
     rw[List.mergeSort_nil]
    rw[hh0]
    rw[hv0] at hobL
    simp only[MK.cells] at hobL
    generalize hbO hC im m [] []=hL at hobL ⊢
    refine zw1 hobL ?_
    refine zj Tryz.func103 ?_
    refine sort0_fw.mono ?_
    rintro _ h2 ⟨rfl,e2⟩
    obtain rfl:=e2.symm
    refine zw0 ?_
    exact⟨rfl,zg0,rfl⟩
  | cons a r=>
    have hv0:vbO hC.length (a :: r) = .slice (some ⟨hC.length,0,some r.length⟩) (r.length+1) (r.length+1):=rfl
    have hl1:(hC.set im (.arr (MK.cells { m with vb:=vbO hC.length (a :: r) }) 0 true 94)).length=hC.length:=List.length_set
    have hgL:(hbO hC im m (a :: r) (a :: r))[hC.length]? = some (.arr (BC (a :: r)) r.length true 70):=by
     unfold hbO
     rw[List.getElem?_append_right (by rw[hl1];exact Nat.le_refl _),hl1,Nat.sub_self]
     rfl
    have hiB:∀ x∈a :: r,ItB x:=fun x hx=>by
     have:=hLp.mem_iff.1 hx
     rw[hB,List.mem_map] at this
     obtain⟨p,hp,rfl⟩:=this
     exact hFi p hp
    have hso:=Qt9 (c:=r.length+1) hgL om hiB
    have hfin:(hbO hC im m (a :: r) (a :: r)).set hC.length (.arr (BC (Qaj (a :: r))) r.length true 70)=hbO hC im m B (Qaj B):=by
     rw[hs]
     unfold hbO
     rw[List.set_append_right _ _ (by rw[hl1];exact Nat.le_refl _),hl1,Nat.sub_self,Xcv (l':=B) hLl,← Qw0 (l:=a :: r) (x:=Qaj B) hLl]
     rfl
    rw[hfin] at hso
    rw[hv0] at hobL
    simp only[MK.cells] at hobL
    generalize hbO hC im m (a :: r) (a :: r)=hL at hobL hso ⊢
    simp only[List.length_cons] at hso
    refine zw1 hobL ?_
    refine zj Tryz.func103 ?_
    refine hso.mono ?_
    rintro _ h2 ⟨rfl,rfl⟩
    refine zw0 ?_
    exact⟨rfl,zg0,rfl⟩
 ·have hDo:=Qor (m:=m) (l:=B) (l':=Qaj B) himC
  have hDk:∀ (j:Nat) (o:HObj),j≠im→hC[j]? = some o→(hbO hC im m B (Qaj B))[j]? = some o:=fun j o h1 h2=>Qke h1 h2
  have hDl:hC.length≤(hbO hC im m B (Qaj B)).length:=by
   unfold hbO
   rw[List.length_append,List.length_set]
   exact Nat.le_add_right _ _
  have hDp:h0 <+: hbO hC im m B (Qaj B):=(Xa KC.p K.a).trans (List.prefix_append _ _)
  have hDb:Grow hk (hbO hC im m B (Qaj B)) (vbO hC.length B) B.length (BC (Qaj B)) 70:=Quz hpC.length_le (List.length_mergeSort B).symm
  obtain⟨pB,cB,hvB⟩:=Qi1 (l:=B) (n:=hC.length)
  rw[hvB] at hDo hDb
  generalize hbO hC im m B (Qaj B)=hD at hDo hDk hDl hDp hDb ⊢
  have himD:im<hD.length:=by omega
  have hDo':=hDo
  simp only[MK.cells,hnts] at hDo'
  refine zu ?_
  iterate 7 (refine zx (zp1 hDo') ?_)
  refine Qtw (N:=ntsN d) zf0 rfl zf0 rfl om ?_
  dsimp only[St.putO,St.put]
  have hx1:(hD++[HObj.arr ((List.replicate (ntsN d) (⟨0,0,0,0⟩:BSet)).flatMap BSet.cells) 0 true 54])[im]? = some (.arr (MK.cells { m with vb:=(.slice pB B.length cB) }) 0 true 94):=Xg hDo
  have hx1':=hx1
  simp only[MK.cells,hnts] at hx1'
  have hF1:(hD++[HObj.arr ((List.replicate (ntsN d) (⟨0,0,0,0⟩:BSet)).flatMap BSet.cells) 0 true 54])[hD.length]? = some (.arr ((List.replicate (ntsN d) (⟨0,0,0,0⟩:BSet)).flatMap BSet.cells) 0 true 54):=Qp
  have hp1:hD <+: hD++[HObj.arr ((List.replicate (ntsN d) (⟨0,0,0,0⟩:BSet)).flatMap BSet.cells) 0 true 54]:=Qo
  have hl1:(hD++[HObj.arr ((List.replicate (ntsN d) (⟨0,0,0,0⟩:BSet)).flatMap BSet.cells) 0 true 54]).length=hD.length+1:=by simp
  generalize (hD++[HObj.arr ((List.replicate (ntsN d) (⟨0,0,0,0⟩:BSet)).flatMap BSet.cells) 0 true 54])=h1 at hx1 hx1' hF1 hp1 hl1 ⊢
  obtain⟨nF,hnF⟩:∃ nF,nF=hD.length:=⟨_,rfl⟩
  rw[← hnF] at hF1
  rw[← hnF]
  iterate 2 (refine zx zp0 ?_)
  refine Yc (v:=(.slice (some ⟨nF,0,some 0⟩) (ntsN d) (ntsN d))) (vs:=[(.slice (some ⟨nF,0,some 0⟩) (ntsN d) (ntsN d))]) (cells':=MK.cells { m with vb:=(.slice pB B.length cB),vF:=(.slice (some ⟨nF,0,some 0⟩) (ntsN d) (ntsN d)) }) zf0 rfl rfl rfl zf0 hx1 zf0 rfl rfl ?_
  dsimp only
  have hx2:(h1.set im (.arr (MK.cells { m with vb:=(.slice pB B.length cB),vF:=(.slice (some ⟨nF,0,some 0⟩) (ntsN d) (ntsN d)) }) 0 true 94))[im]? = some (.arr (MK.cells { m with vb:=(.slice pB B.length cB),vF:=(.slice (some ⟨nF,0,some 0⟩) (ntsN d) (ntsN d)) }) 0 true 94):=Qh hx1
  have hF2:(h1.set im (.arr (MK.cells { m with vb:=(.slice pB B.length cB),vF:=(.slice (some ⟨nF,0,some 0⟩) (ntsN d) (ntsN d)) }) 0 true 94))[nF]? = some (.arr ((List.replicate (ntsN d) (⟨0,0,0,0⟩:BSet)).flatMap BSet.cells) 0 true 54):=by rw[Qk om];exact hF1
  have hk2:∀ (j:Nat) (o:HObj),j≠im→hD[j]? = some o→(h1.set im (.arr (MK.cells { m with vb:=(.slice pB B.length cB),vF:=(.slice (some ⟨nF,0,some 0⟩) (ntsN d) (ntsN d)) }) 0 true 94))[j]? = some o:=fun j o hj h=>by rw[Qk hj.symm];exact Qc hp1 h
  have hl2:(h1.set im (.arr (MK.cells { m with vb:=(.slice pB B.length cB),vF:=(.slice (some ⟨nF,0,some 0⟩) (ntsN d) (ntsN d)) }) 0 true 94)).length=hD.length+1:=by rw[List.length_set];exact hl1
  generalize h1.set im (.arr (MK.cells { m with vb:=(.slice pB B.length cB),vF:=(.slice (some ⟨nF,0,some 0⟩) (ntsN d) (ntsN d)) }) 0 true 94)=h2 at hx2 hF2 hk2 hl2 ⊢
  have hx2':=hx2
  simp only[MK.cells,hnts] at hx2'
  clear hx1 hx1' hF1 hp1 hl1
  apply zn
  show CW _ _ ⟨_,[],h2⟩ _
  refine zu ?_
  iterate 7 (refine zx (zp1 hx2') ?_)
  refine Qvp (N:=ntsN d) zf0 rfl zf0 rfl om ?_
  dsimp only[St.putO,St.put]
  have hx3:(h2++[HObj.arr ((List.replicate (ntsN d) (0:Int)).map i64) 0 true 3])[im]? = some (.arr (MK.cells { m with vb:=(.slice pB B.length cB),vF:=(.slice (some ⟨nF,0,some 0⟩) (ntsN d) (ntsN d)) }) 0 true 94):=Xg hx2
  have hx3':=hx3
  simp only[MK.cells,hnts] at hx3'
  have hF3:(h2++[HObj.arr ((List.replicate (ntsN d) (0:Int)).map i64) 0 true 3])[nF]? = some (.arr ((List.replicate (ntsN d) (⟨0,0,0,0⟩:BSet)).flatMap BSet.cells) 0 true 54):=Xg hF2
  have hR3:(h2++[HObj.arr ((List.replicate (ntsN d) (0:Int)).map i64) 0 true 3])[h2.length]? = some (.arr ((List.replicate (ntsN d) (0:Int)).map i64) 0 true 3):=Qp
  have hk3:∀ (j:Nat) (o:HObj),j≠im→hD[j]? = some o→(h2++[HObj.arr ((List.replicate (ntsN d) (0:Int)).map i64) 0 true 3])[j]? = some o:=fun j o hj h=>Xg (hk2 j o hj h)
  have hl3:(h2++[HObj.arr ((List.replicate (ntsN d) (0:Int)).map i64) 0 true 3]).length=hD.length+2:=by simp [hl2]
  generalize (h2++[HObj.arr ((List.replicate (ntsN d) (0:Int)).map i64) 0 true 3])=h3 at hx3 hx3' hF3 hR3 hk3 hl3 ⊢
  obtain⟨nR,hnR⟩:∃ nR,nR=h2.length:=⟨_,rfl⟩
  rw[← hnR] at hR3
  rw[← hnR]
  iterate 2 (refine zx zp0 ?_)
  refine Yc (v:=(.slice (some ⟨nR,0,some 0⟩) (ntsN d) (ntsN d))) (vs:=[(.slice (some ⟨nR,0,some 0⟩) (ntsN d) (ntsN d))]) (cells':=MK.cells { m with vb:=(.slice pB B.length cB),vF:=(.slice (some ⟨nF,0,some 0⟩) (ntsN d) (ntsN d)),vR:=(.slice (some ⟨nR,0,some 0⟩) (ntsN d) (ntsN d)) }) zf0 rfl rfl rfl zf0 hx3 zf0 rfl rfl ?_
  dsimp only
  have S0:FS hD im nF nR (h3.set im (.arr (MK.cells { m with vb:=(.slice pB B.length cB),vF:=(.slice (some ⟨nF,0,some 0⟩) (ntsN d) (ntsN d)),vR:=(.slice (some ⟨nR,0,some 0⟩) (ntsN d) (ntsN d)) }) 0 true 94)) { m with vb:=(.slice pB B.length cB),vF:=(.slice (some ⟨nF,0,some 0⟩) (ntsN d) (ntsN d)),vR:=(.slice (some ⟨nR,0,some 0⟩) (ntsN d) (ntsN d)) } (List.replicate (ntsN d) set0) (List.replicate 0 (-1)++List.replicate (ntsN d-0) 0):=
   ⟨Qh hx3,by rw[Qk om];exact hF3,by rw[Qk om];exact hR3,fun j o _ hj h=>by rw[Qk hj.symm];exact hk3 j o hj h,by rw[List.length_set];omega⟩
  generalize h3.set im (.arr (MK.cells { m with vb:=(.slice pB B.length cB),vF:=(.slice (some ⟨nF,0,some 0⟩) (ntsN d) (ntsN d)),vR:=(.slice (some ⟨nR,0,some 0⟩) (ntsN d) (ntsN d)) }) 0 true 94)=h4 at S0 ⊢
  clear hx2 hx2' hF2 hk2 hx3 hx3' hF3 hR3 hk3
  have n1:nF≠im:=by omega
  have n2:nF≠nR:=by omega
  have n3:hD.length≤nF:=by omega
  have n4:nR≠im:=by omega
  have n5:hD.length≤nR:=by omega
  clear hl2 hl3 hnF hnR
  apply zn
  show CW _ _ ⟨_,[],h4⟩ _
  try apply zs
  have hx4:=S0.o
  simp only[MK.cells,hnts] at hx4
  refine zw1 hx4 ?_
  refine CW.mono (Q:=fun e s'=>e = .exit 4∧∃ x,FS hD im nF nR x { m with vb:=(.slice pB B.length cB),vF:=(.slice (some ⟨nF,0,some 0⟩) (ntsN d) (ntsN d)),vR:=(.slice (some ⟨nR,0,some 0⟩) (ntsN d) (ntsN d)) } (List.replicate (ntsN d) set0) (List.replicate (ntsN d) (-1))∧s'.h=x∧SubL [(0,.val (.pointer (some ⟨im,0,some 0⟩))),(2,.val (.pointer (some ⟨im,12,some 0⟩)))] s'.fr) ?_ ?_
  ·refine Qy (ntsN d) (fun k (x:Heap)=>[(0,.val (.pointer (some ⟨im,0,some 0⟩))),(2,.val (.pointer (some ⟨im,12,some 0⟩))),(78,.val (.slice (some ⟨nR,0,some 0⟩) (ntsN d) (ntsN d))),(79,.val (i64 (ntsN d))),(80,.val (i64 k))]) (fun _ x=>x) (fun k x=>FS hD im nF nR x { m with vb:=(.slice pB B.length cB),vF:=(.slice (some ⟨nF,0,some 0⟩) (ntsN d) (ntsN d)),vR:=(.slice (some ⟨nR,0,some 0⟩) (ntsN d) (ntsN d)) } (List.replicate (ntsN d) set0) (List.replicate k (-1)++List.replicate (ntsN d-k) 0)) h4 zg0 rfl S0 ?_
   rintro k x hkn S
   by_cases hlt:k<ntsN d
   ·have w1:=rng hlt
    have w2:=inc hlt om
    have q3:=Qv hlt
    have hxo:=S.o
    simp only[MK.cells] at hxo
    have S2:=S.setR n4 n2 n5 (List.replicate (k+1) (-1)++List.replicate (ntsN d-(k+1)) 0)
    have hwr:=Qu2 (f:=i64) (l:=List.replicate k (-1:Int)++List.replicate (ntsN d-k) 0) (i:=k) (x:=-1) (by rw[List.length_append,List.length_replicate,List.length_replicate];omega)
    rw[Quc hlt] at hwr
    refine zw1 q3 ?_
    refine Qb rfl ?_
    refine zw3 hxo w1 Nat.mul_one ?_
    refine Yc (v:=i64 (-1)) (vs:=[i64 (-1)]) zf0 rfl rfl rfl (zf3 hxo w1 Nat.mul_one) S.R rfl rfl hwr ?_
    dsimp only
    generalize x.set nR (.arr ((List.replicate (k+1) (-1)++List.replicate (ntsN d-(k+1)) 0).map i64) 0 true 3)=x2 at S2 ⊢
    refine zw1 w2 ?_
    refine⟨hlt,x2,zg0,rfl,S2⟩
   ·have q3:=Qu hlt
    obtain rfl:k=ntsN d:=by omega
    rw[Nat.sub_self,List.replicate_zero,List.append_nil] at S
    refine zw1 q3 ?_
    refine Qa rfl ?_
    refine Qj ?_
    exact⟨rfl,x,S,rfl,zg0⟩
  rintro e s' ⟨rfl,x,S,hh,hf⟩
  show CW _ _ _ _
  refine Qi _ hf ?_
  rw[hh]
  clear hf hh s' hx4 S0
  obtain⟨pFo,cFo,hvFo⟩:=SlR.form K.D.follows
  obtain⟨pRe,cRe,hvRe⟩:=SlR.form K.D.rejects
  have hkk:=Xh sE
  have hmis:m.is≠im:=by
   intro e
   rw[e,K.o] at hsm
   cases hsm
  have hsD:hD[m.is]? = some (.map (smE sE)):=hDk _ _ hmis (Qc hpC hsm)
  have hsD':∀ {x:Heap} {mm:MK} {SF:List BSet} {SR:List Int},FS hD im nF nR x mm SF SR→x[m.is]? = some (.map (smE sE)):=fun S=>S.k _ _ (List.getElem?_eq_some_iff.1 hsD).1 hmis hsD
  have hp0:∀ {x:Heap} {mm:MK} {SF:List BSet} {SR:List Int},FS hD im nF nR x mm SF SR→h0 <+: x:=fun S=>by
   have e:=List.prefix_iff_eq_take.1 hDp
   refine List.prefix_iff_getElem?.2 fun i hi=>?_
   have h1:=List.prefix_iff_getElem?.1 hDp i hi
   exact S.k i _ (List.getElem?_eq_some_iff.1 h1).1 (by have:=K.a;omega) h1
  have hxo:=S.o
  simp only[MK.cells,hvFo] at hxo
  refine zw1 hxo ?_
  refine CW.mono (Q:=fun e s'=>e = .exit 6∧∃ x,FS hD im nF nR x { m with vb:=(.slice pB B.length cB),vF:=(.slice (some ⟨nF,0,some 0⟩) (ntsN d) (ntsN d)),vR:=(.slice (some ⟨nR,0,some 0⟩) (ntsN d) (ntsN d)) } (folD d d.follows) (List.replicate (ntsN d) (-1))∧s'.h=x∧SubL [(0,.val (.pointer (some ⟨im,0,some 0⟩))),(2,.val (.pointer (some ⟨im,12,some 0⟩)))] s'.fr) ?_ ?_
  ·refine Qy d.follows.length (fun k (x:Heap)=>[(0,.val (.pointer (some ⟨im,0,some 0⟩))),(2,.val (.pointer (some ⟨im,12,some 0⟩))),(95,.val (.slice pFo d.follows.length cFo)),(96,.val (i64 d.follows.length)),(97,.val (i64 k))]) (fun _ x=>x) (fun k x=>FS hD im nF nR x { m with vb:=(.slice pB B.length cB),vF:=(.slice (some ⟨nF,0,some 0⟩) (ntsN d) (ntsN d)),vR:=(.slice (some ⟨nR,0,some 0⟩) (ntsN d) (ntsN d)) } (folD d (d.follows.take k)) (List.replicate (ntsN d) (-1))) x zg0 rfl (by rw[List.take_zero];exact S) ?_
   clear hxo S x
   rintro k x hkn S
   by_cases hlt:k<d.follows.length
   ·have hfo:=K.D.follows
    rw[hvFo] at hfo
    obtain⟨id,ver,own,c',hv,hid⟩:=SlR.at (SlR.mono hfo (hp0 S)) om
    cases hv
    have hrd:=Qbn hlt
    obtain⟨hfs,hfw⟩:=hfS _ (List.getElem_mem hlt)
    have hgs:=hsg _ hfs
    have hns:=hsn _ hfs
    have htk:=Qgh (d:=d) hlt
    have hfl2:=Qu7 (d:=d) k d.follows
    have hwf:=Qxv (d:=d) (fun x hx=>(hfS x hx).2) k
    have w1:=rng hlt
    have w2:=inc hlt om
    have q3:=Qv hlt
    have w3:=rng hns
    have hxo:=S.o
    have hxs:=hsD' S
    have hxF:=S.F
    generalize d.follows[k]=f at hrd hfs hfw hgs hns htk w3
    generalize folD d (d.follows.take k)=SF at S htk hfl2 hwf hxF
    generalize ntS d f.sort=n at hgs hns htk w3
    have hnl:n<SF.length:=by omega
    have hgd:SF.getD n set0=SF[n]:=by rw[List.getD_eq_getElem?_getD,List.getElem?_eq_getElem hnl];rfl
    rw[hgd] at htk
    have hsw:=hwf _ (List.getElem_mem hnl)
    have hrF:rdH (SF.flatMap BSet.cells) (n*4) 4=some [u64 SF[n].a,u64 SF[n].b,u64 SF[n].c,u64 SF[n].d]:=Xs (f:=BSet.cells) (fun _=>rfl) SF n SF[n] (by simp [hnl])
    have hwr:=Qp1 (f:=BSet.cells) (k:=4) (fun _=>rfl) (x:=SF[n].union f.set) hnl
    rw[← htk] at hwr
    have S2:=S.setF n1 n2 n3 (folD d (d.follows.take (k+1)))
    have hun:=Qv4 (h:=x) hsw hfw
    generalize SF[n]=sn at hrF hwr hun hsw
    have hxo':=hxo
    simp only[MK.cells] at hxo
    refine zw1 q3 ?_
    refine Qb rfl ?_
    refine zw3 w1 hid hrd ?_
    refine Qt 6 Qq kr ?_
    refine zw4 hxo hxs hgs hkk ?_
    refine Qi [(0,.val (.pointer (some ⟨im,0,some 0⟩))),(2,.val (.pointer (some ⟨im,12,some 0⟩))),(9,.box [.string f.sort,u64 f.set.a,u64 f.set.b,u64 f.set.c,u64 f.set.d]),(10,.val (i64 n)),(95,.val (.slice (some ⟨id,0,some ver⟩) d.follows.length cFo)),(96,.val (i64 d.follows.length)),(97,.val (i64 k))] zg0 ?_
    show CW _ _ ⟨_,[],x⟩ _
    try apply zs
    apply Xd (L:=[[],[0],[0,1],[0,1,2],[],[],[5],[5,6],[5,6,7],[],[5,6,7,8,9],[5,6,7,8,9,10],[],[12],[5,6,7,8,9,10,11,12,13],[0,1,2,3,4],[0,1,2,3,4,5,6,7,8,9,10,11,12,13,14,15]]) (act:=[16]) (hs:=[x.set nF (.arr ((folD d (d.follows.take (k+1))).flatMap BSet.cells) 0 true 54)]) (resL:=[_,_,_,_,_,_,_,_,_,_,_,_,_,_,_,_,_]) (frF:=[(0,.val (.pointer (some ⟨im,0,some 0⟩))),(2,.val (.pointer (some ⟨im,12,some 0⟩))),(95,.val (.slice (some ⟨id,0,some ver⟩) d.follows.length cFo)),(96,.val (i64 d.follows.length)),(97,.val (i64 k))])
    case hm=>exact Qq
    case hc=>kernel_rfl
    case ha=>rfl
    case hb=>rfl
    case hS=>
     refine za4 hxo w3 hxF hrF ?_
     apply StepsA.cons
     ·rfl
     ·refine⟨?_,trivial⟩
      exact Xb (fn:=Tryz.f105) (args:=[sn.val,f.set.val]) (cap:=[]) rfl zf0 rfl zf0 zf0 Tryz.func105 kr kr hun
     ·rfl
     refine za4 hxo w3 hxF hrF ?_
     apply StepsA.cons
     ·rfl
     ·refine⟨?_,trivial⟩
      exact One.stoH (r:=.sl .unk) zf0 rfl zf0 zf0 hxF zf0 rfl hwr rfl
     ·rfl
     exact StepsA.nil _
    case ht=>rfl
    case hF=>exact zh
    show CW _ _ ⟨_,[],x.set nF (.arr ((folD d (d.follows.take (k+1))).flatMap BSet.cells) 0 true 54)⟩ _
    generalize x.set nF (.arr ((folD d (d.follows.take (k+1))).flatMap BSet.cells) 0 true 54)=x2 at S2 ⊢
    refine zw1 w2 ?_
    refine⟨hlt,x2,zg0,rfl,S2⟩
   ·have q3:=Qu hlt
    obtain rfl:k=d.follows.length:=by omega
    rw[List.take_length] at S
    refine zw1 q3 ?_
    refine Qa rfl ?_
    refine Qj ?_
    exact⟨rfl,x,S,rfl,zg0⟩
  clear hxo S x
  rintro e s' ⟨rfl,x,S,hh,hf⟩
  show CW _ _ _ _
  refine Qi _ hf ?_
  rw[hh]
  clear hf hh s'
  have hxo:=S.o
  simp only[MK.cells,hvRe] at hxo
  refine zw1 hxo ?_
  refine Qy d.rejects.length (fun k (x:Heap)=>[(0,.val (.pointer (some ⟨im,0,some 0⟩))),(2,.val (.pointer (some ⟨im,12,some 0⟩))),(130,.val (.slice pRe d.rejects.length cRe)),(131,.val (i64 d.rejects.length)),(132,.val (i64 k))]) (fun _ x=>x) (fun k x=>FS hD im nF nR x { m with vb:=(.slice pB B.length cB),vF:=(.slice (some ⟨nF,0,some 0⟩) (ntsN d) (ntsN d)),vR:=(.slice (some ⟨nR,0,some 0⟩) (ntsN d) (ntsN d)) } (folD d d.follows) (rejD d (d.rejects.take k))) x zg0 rfl (by rw[List.take_zero];exact S) ?_
  clear hxo S x
  rintro k x hkn S
  by_cases hlt:k<d.rejects.length
  ·have hre:=K.D.rejects
   rw[hvRe] at hre
   obtain⟨id,ver,own,c',hv,hid⟩:=SlR.at (SlR.mono hre (hp0 S)) om
   cases hv
   have hrd:=Qau hlt
   obtain⟨hfs,hfb⟩:=hrS _ (List.getElem_mem hlt)
   have hgs:=hsg _ hfs
   have hgb:=hsg _ hfb
   have hns:=hsn _ hfs
   have htk:=Qj3 (d:=d) hlt
   have hfl2:=Qtq (d:=d) k d.rejects
   have w1:=rng hlt
   have w2:=inc hlt om
   have q3:=Qv hlt
   have w3:=rng hns
   have hxo:=S.o
   have hxs:=hsD' S
   have hxR:=S.R
   generalize d.rejects[k]=f at hrd hfs hgs hgb hns htk w3
   generalize rejD d (d.rejects.take k)=SR at S htk hfl2 hxR
   generalize ntS d f.sort=n at hgs hns htk w3
   generalize ntS d f.by_=nb at hgb htk
   have hnl:n<SR.length:=by omega
   have hwr:=Qu2 (f:=i64) (l:=SR) (x:=(nb:Int)) hnl
   rw[← htk] at hwr
   have S2:=S.setR n4 n2 n5 (rejD d (d.rejects.take (k+1)))
   simp only[MK.cells] at hxo
   refine zw1 q3 ?_
   refine Qb rfl ?_
   refine zw3 w1 hid hrd ?_
   refine Qt 18 Qq kr ?_
   refine zw7 hxo hxs hgs hgb hkk w3 Nat.mul_one ?_
   refine Yc (v:=i64 (nb:Int)) (vs:=[i64 (nb:Int)]) zf0 rfl rfl rfl (zf3 hxo w3 Nat.mul_one) hxR zf0 rfl hwr ?_
   dsimp only
   generalize x.set nR (.arr ((rejD d (d.rejects.take (k+1))).map i64) 0 true 3)=x2 at S2 ⊢
   refine zw1 w2 ?_
   refine⟨hlt,x2,zg0,rfl,S2⟩
  ·have q3:=Qu hlt
   obtain rfl:k=d.rejects.length:=by omega
   rw[List.take_length] at S
   refine zw1 q3 ?_
   refine Qa rfl ?_
   refine Qj ?_
   refine⟨rfl,trivial,_,_,_,⟨hp0 S,?_,S.o,?_,?_,?_,?_⟩⟩
   ·show hk.length≤x.length
    have:=S.l;have:=hpC.length_le;omega
   ·exact fun j o hj hne2 h=>S.k j o (by have:=hpC.length_le;omega) hne2 (hDk j o hne2 (Qc hpC h))
   ·rw[← hF]
    exact hDb.mono fun j o hj g=>S.k j o (List.getElem?_eq_some_iff.1 g).1 (by have:=(hDb.lt hj).1;have:=(List.getElem?_eq_some_iff.1 K.o).1;omega) g
   ·exact .inr ⟨nF,0,by have:=hpC.length_le;omega,rfl,S.F⟩
   ·exact .inr ⟨nR,0,by have:=hpC.length_le;omega,rfl,S.R⟩
 ·exact fun h2 hP=>⟨_,zf0,rfl,hP⟩
end
theorem Qcq {ps:List Prod} {s:ByteArray} (h:Xy ps s≠0):s∈Qm ps:=by
 apply Classical.byContradiction
 intro q
 exact h (lexOf_zero.2 q)
theorem Qpq {d:Def} {p:Prod} {s:Sym} (hp:p∈d.prods) (hs:s∈p.syms) (hn:emB s.name=false):s.name∈allN d:=by
 unfold allN nP
 refine List.mem_append_left _ (List.mem_append_left _ ?_)
 rw[List.mem_flatMap]
 refine⟨p,hp,?_⟩
 unfold Yg
 rw[List.mem_filterMap]
 refine⟨s,hs,?_⟩
 unfold emB at hn
 rw[if_neg (of_decide_eq_false hn)]
theorem Qgp {s:Sym} (h:Xc s=true):s.text.size≤32∧(Qa7 s=true→s.sep.size≤32)∧(s.kind=1∨s.kind=2∨s.kind=3∨s.kind=4∨s.kind=5∨s.kind=6):=by
 unfold Xc at h
 have hz:∀ {b:ByteArray},emB b=true→b.size≤32:=fun h=>by rw[emB_iff.1 h];decide
 by_cases k1:s.kind=1
 ·rw[if_pos k1] at h
  simp only[Bool.and_eq_true,decide_eq_true_eq] at h
  exact⟨by omega,fun _=>hz h.2.2.2,.inl k1⟩
 rw[if_neg k1] at h
 by_cases k2:s.kind=2
 ·rw[if_pos k2] at h
  simp only[Bool.and_eq_true] at h
  exact⟨hz h.1,fun _=>hz h.2.2,.inr (.inl k2)⟩
 rw[if_neg k2] at h
 by_cases k3:s.kind=3
 ·rw[if_pos k3] at h
  simp only[Bool.and_eq_true] at h
  exact⟨hz h.1,fun _=>hz h.2.2.2,.inr (.inr (.inl k3))⟩
 rw[if_neg k3] at h
 by_cases k4:s.kind=4
 ·rw[if_pos k4] at h
  simp only[Bool.and_eq_true] at h
  exact⟨hz h.1,fun _=>hz h.2.1,.inr (.inr (.inr (.inl k4)))⟩
 rw[if_neg k4] at h
 by_cases k5:s.kind=5∨s.kind=6
 ·rw[if_pos k5] at h
  by_cases e:emB s.name=true
  ·rw[if_pos e] at h
   simp only[Bool.and_eq_true] at h
   exact⟨hz h.1,fun _=>hz h.2,.inr (.inr (.inr (.inr k5)))⟩
  ·rw[if_neg e] at h
   simp only[Bool.and_eq_true,decide_eq_true_eq] at h
   exact⟨hz h.1,fun _=>by omega,.inr (.inr (.inr (.inr k5)))⟩
 ·rw[if_neg k5] at h
  cases h
theorem Qjj {d:Def} (hr:Yj d=true) {p:Prod} (hp:p∈d.prods) {s:Sym} (hs:s∈p.syms):Xc s=true:=by
 unfold Yj at hr
 simp only[Bool.and_eq_true] at hr
 have hrp:=List.all_eq_true.1 hr.2.1 _ hp
 unfold Yb at hrp
 simp only[Bool.and_eq_true] at hrp
 exact List.all_eq_true.1 hrp.2.2 _ hs
section
variable {d:Def}
theorem Qbu (hp:Ym d≤160):d.prods.length≤160∧d.chains.length≤160∧d.follows.length≤160∧d.rejects.length≤160∧sumN (fun p=>p.syms.length) d.prods+sumN fch d.chains≤160:=by
 unfold Ym at hp
 omega
theorem Qsu (hc:Qct d) {p:Prod} (hp:p∈d.prods):ProdG d p:=by
 have hr:Yj d=true:=hc 0 (by decide)
 have hu:∀ s∈allN d,Xy d.prods s≠0:=hc 3 (by decide)
 have hl:∀ p∈d.prods,Ql5 d p=false:=hc 7 (by decide)
 refine⟨hp,(Qh5 hr hp).2,fun s hs=>(Qgp (Qjj hr hp hs)).1,fun s hs=>?_,mem_sortsOf.2 ⟨p,hp,rfl⟩,?_⟩
 ·cases e:emB s.name with
  | true=>exact .inr (.inl rfl)
  | false=>exact .inr (.inr (Qcq (hu _ (Qpq hp hs e))))
 ·have:=hl p hp
  unfold Ql5 at this
  simp only[Bool.or_eq_false_iff,decide_eq_false_iff_not] at this
  omega
theorem Qqn (hc:Qct d) (hp:Ym d≤160):DefG d:=by
 have hr:Yj d=true:=hc 0 (by decide)
 have hu:∀ s∈allN d,Xy d.prods s≠0:=hc 3 (by decide)
 have he:Xy d.prods d.start=2∧(d.layout.size=0∨Xy d.prods d.layout=1):=hc 2 (by decide)
 obtain⟨h1,h2,h3,h4,h5⟩:=Qbu hp
 refine⟨fun p hp=>Qsu hc hp,by omega,Qcq om,?_,fun k hk=>?_,?_⟩
 ·rcases he.2 with e|e
  ·exact .inl (emB_iff.2 e)
  ·exact .inr (Qcq om)
 ·obtain⟨p,hp,s,hs,hL,rfl⟩:=mem_keys.1 hk
  have hR:=Qjj hr hp hs
  refine⟨?_,(Qgp hR).2.1 hL⟩
  show emB s.name=true∨s.name∈_
  cases e:emB s.name with
  | true=>exact .inl rfl
  | false=>exact .inr (Qcq (hu _ (Qpq hp hs e)))
 ·have:=Qdv (ps:=d.prods) (l:=[])
  simp only[List.length_nil] at this
  unfold Xe
  omega
theorem Qu1 (hp:Ym d≤160) (hn:∀ p∈d.prods,p.syms.length≤12) (k:Nat) (hk:k<d.prods.length) (j:Nat):(Qak d.prods[k].lex (Xe (d.prods.take k)) (d.prods[k].syms.take j)).length≤3000:=by
 obtain⟨h1,h2,h3,h4,h5⟩:=Qbu hp
 have a:=Qfx (lex:=d.prods[k].lex) (ys:=d.prods[k].syms.take j) (l:=Xe (d.prods.take k))
 have b:=Qdv (ps:=d.prods.take k) (l:=[])
 have c:=Qe3 (f:=fun p:Prod=>p.syms.length) (B:=12) (l:=d.prods.take k) fun p hp=>hn p (List.mem_of_mem_take hp)
 have e:=hn _ (List.getElem_mem hk)
 rw[List.length_take] at a c
 simp only[List.length_nil] at b
 unfold Xe at a ⊢
 omega
def selI {α:Type} (P:α→Bool) (l:List α):List Nat:=(List.range l.length).filter fun i=>match l[i]? with
 | some x=>P x
 | none=>false
theorem Qhz {α:Type} {P:α→Bool} {A B:List α}:selI P (A++B)=selI P A++(selI P B).map (A.length + ·):=by
 unfold selI
 rw[List.length_append,List.range_add,List.filter_append,List.filter_map]
 congr 1
 ·refine List.filter_congr fun i hi=>?_
  rw[List.getElem?_append_left (List.mem_range.1 hi)]
 ·congr 1
  refine List.filter_congr fun i hi=>?_
  simp only[Function.comp_apply]
  rw[List.getElem?_append_right om,Nat.add_sub_cancel_left]
theorem Qgb {α:Type} {P:α→Bool} {l:List α} (h:∀ x∈l,P x=false):selI P l=[]:=by
 unfold selI
 rw[List.filter_eq_nil_iff]
 intro i hi
 rw[List.getElem?_eq_getElem (List.mem_range.1 hi)]
 simp only[h _ (List.getElem_mem _),Bool.false_eq_true,not_false_eq_true]
theorem Qs1 {α:Type} {P:α→Bool} {l:List α} (h:∀ x∈l,P x=true):selI P l=List.range l.length:=by
 unfold selI
 rw[List.filter_eq_self]
 intro i hi
 rw[List.getElem?_eq_getElem (List.mem_range.1 hi)]
 exact h _ (List.getElem_mem _)
def isP (i:Nat) (o:Org):Bool:=decide (o.kind=0)&&decide (o.prod=(i:Int))
theorem Qo3 {os:List Org} {i:Nat}:Zn os i=selI (isP i) os:=by
 unfold Zn selI
 refine List.filter_congr fun j _=>?_
 unfold selB isP
 cases os[j]?<;>rfl
def offN (d:Def) (i:Nat):Nat:=(rosN d i).length
abbrev orgs (d:Def):List Org:=(ros d).map (·.2)
theorem Qrx {i:Nat} {p:Prod}:(Qc1 d i p).length=Qc5 p:=by unfold Qc1;rw[List.length_map,List.length_range]
theorem selN {i:Nat} (hi:i<d.prods.length):∀ k,k≤d.prods.length→selI (isP i) ((rosN d k).map (·.2))=if i<k then (List.range (Qc5 d.prods[i])).map (offN d i + ·) else []
 | 0,_=>rfl
 | k+1,hk=>by
   have ih:=selN hi k om
   rw[Qb6 (show k<d.prods.length by omega),List.map_append,Qhz,ih]
   by_cases e:i=k
   ·subst e
    rw[if_neg om,if_pos om,List.nil_append,Qs1]
    ·rw[List.length_map,List.length_map,Qrx]
     rfl
    ·intro x hx
     unfold Qc1 at hx
     rw[List.map_map,List.mem_map] at hx
     obtain⟨m,_,rfl⟩:=hx
     unfold isP Qaf
     simp
   ·rw[Qgb (l:=(Qc1 d k _).map _)]
    ·by_cases q:i<k
     ·rw[if_pos q,if_pos om];simp
     ·rw[if_neg q,if_neg om];rfl
    ·intro x hx
     unfold Qc1 at hx
     rw[List.map_map,List.mem_map] at hx
     obtain⟨m,_,rfl⟩:=hx
     unfold isP Qaf
     simp
     omega
theorem Qu3 {l:List LKey}:∀ x∈Qbm d l,x.2.kind=1∨x.2.kind=2:=by
 intro x hx
 unfold Qbm at hx
 rw[List.mem_flatMap] at hx
 obtain⟨k,_,hx⟩:=hx
 unfold rosK at hx
 simp only[List.mem_cons,List.not_mem_nil,or_false] at hx
 rcases hx with rfl|rfl
 ·exact .inl rfl
 ·exact .inr rfl
theorem Qvi:∀ x∈rosT d,x.2.kind=3∨x.2.kind=4∨x.2.kind=5:=by
 intro x hx
 unfold rosT at hx
 split at hx
 ·simp only[List.mem_cons,List.not_mem_nil,or_false] at hx
  subst hx
  exact .inr (.inr rfl)
 ·simp only[List.mem_cons,List.not_mem_nil,or_false] at hx
  rcases hx with rfl|rfl|rfl
  ·exact .inl rfl
  ·exact .inr (.inl rfl)
  ·exact .inr (.inr rfl)
theorem Qur {i:Nat} (hi:i<d.prods.length):Zn (orgs d) i=(List.range (Qc5 d.prods[i])).map (offN d i + ·):=by
 rw[Qo3]
 unfold orgs ros
 rw[List.map_append,List.map_append,Qhz,Qhz,selN hi _ (Nat.le_refl _),if_pos hi,Qgb (l:=(Qbm d _).map _),Qgb (l:=(rosT d).map _)]
 ·simp
 ·intro x hx
  rw[List.mem_map] at hx
  obtain⟨y,hy,rfl⟩:=hx
  have:=Qvi y hy
  unfold isP
  rw[decide_eq_false om]
  rfl
 ·intro x hx
  rw[List.mem_map] at hx
  obtain⟨y,hy,rfl⟩:=hx
  have:=Qu3 y hy
  unfold isP
  rw[decide_eq_false om]
  rfl
end
theorem Qfc {α β:Type} {f:α→List β} {B:Nat}:∀ {l:List α},(∀ x∈l,(f x).length≤B)→(l.flatMap f).length≤l.length*B
 | [],_=>by simp
 | x :: l,h=>by
   have ih:=Qfc (f:=f) (B:=B) (l:=l) fun y hy=>h y (List.mem_cons_of_mem _ hy)
   have:=h x List.mem_cons_self
   rw[List.flatMap_cons,List.length_append,List.length_cons,Nat.succ_mul]
   omega
theorem Qip {α β:Type} {f:α→List β} {g:α→Nat}:∀ {l:List α},(∀ x∈l,(f x).length≤g x)→(l.flatMap f).length≤(l.map g).sum
 | [],_=>by simp
 | x :: l,h=>by
   have ih:=Qip (f:=f) (g:=g) (l:=l) fun y hy=>h y (List.mem_cons_of_mem _ hy)
   have:=h x List.mem_cons_self
   rw[List.flatMap_cons,List.length_append,List.map_cons,List.sum_cons]
   omega
theorem Qk5 {α:Type} {g:α→Nat} {B:Nat}:∀ l:List α,(l.map fun x=>g x*B).sum=(l.map g).sum*B
 | []=>by simp
 | x :: l=>by
   rw[List.map_cons,List.sum_cons,List.map_cons,List.sum_cons,Qk5 l,Nat.add_mul]
theorem Qox (f:Nat→Nat):∀ (n:Nat) (I:List Nat),I.Nodup→(∀ i∈I,i<n)→(I.map f).sum≤((List.range n).map f).sum
 | 0,I,_,h=>by
   have:I=[]:=by
    cases I with
    | nil=>rfl
    | cons a r=>exact absurd (h a List.mem_cons_self) om
   rw[this]
   simp
 | n+1,I,hn,h=>by
   rw[List.range_succ,List.map_append,List.sum_append,List.map_singleton,List.sum_singleton]
   by_cases q:n∈I
   ·have hp:=List.perm_cons_erase q
    have e:=(hp.map f).sum_nat
    rw[List.map_cons,List.sum_cons] at e
    have ih:=Qox f n (I.erase n) (hn.erase n) fun i hi=>by
     have h1:=h i (List.mem_of_mem_erase hi)
     have h2:i≠n:=fun e=>by
      subst e
      exact (List.Nodup.not_mem_erase hn) hi
     omega
    omega
   ·have ih:=Qox f n I hn fun i hi=>by
     have h1:=h i hi
     have h2:i≠n:=fun e=>q (e▸hi)
     omega
    omega
theorem Qr3 {α:Type} (g:α→Nat) (l:List α):((List.range l.length).map fun i=>(l[i]?.map g).getD 0)=l.map g:=by
 refine List.ext_getElem (by simp) fun i h1 h2=>?_
 rw[List.length_map] at h2
 simp [h2]
section
variable {d:Def}
theorem Qv0 (G:DefG d) {i:Nat} (hi:i<d.prods.length):Qc5 d.prods[i]≤16:=Qid (G.p _ (List.getElem_mem hi)).o
theorem Qkr (G:DefG d) (hp:Ym d≤160):(ros d).length≤3000:=by
 obtain⟨h1,h2,h3,h4,h5⟩:=Qbu hp
 have a:=Qff G.p d.prods.length
 have b:=Qga (d:=d) (l:=Xe d.prods)
 have c:=Qdv (ps:=d.prods) (l:=[])
 have e:(rosT d).length≤3:=by unfold rosT;split<;>simp
 simp only[List.length_nil] at c
 unfold ros
 rw[List.length_append,List.length_append]
 unfold Xe at b ⊢
 omega
theorem Qf8 (G:DefG d):∀ o∈orgs d,o.syms.length≤396:=by
 intro o ho
 unfold orgs at ho
 rw[List.mem_map] at ho
 obtain⟨x,hx,rfl⟩:=ho
 unfold ros at hx
 rw[List.mem_append,List.mem_append] at hx
 have key:∀ k,k≤d.prods.length→∀ x∈rosN d k,x.2.syms.length≤396:=by
  intro k
  induction k with
  | zero=>intro _ x hx;simp [rosN] at hx
  | succ k ih=>
    intro hk x hx
    rw[Qb6 (show k<d.prods.length by omega),List.mem_append] at hx
    rcases hx with hx|hx
    ·exact ih om x hx
    ·unfold Qc1 at hx
     rw[List.mem_map] at hx
     obtain⟨m,_,rfl⟩:=hx
     have hG:=G.p _ (List.getElem_mem (show k<d.prods.length by omega))
     have:=Qfy (mask:=m) hG d.prods[k].syms.length
     have h12:=hG.n
     show (Jq d d.prods[k] m).os.length≤396
     unfold Jq
     omega
 rcases hx with (hx|hx) | hx
 ·exact key _ (Nat.le_refl _) x hx
 ·unfold Qbm at hx
  rw[List.mem_flatMap] at hx
  obtain⟨k,_,hx⟩:=hx
  unfold rosK at hx
  simp only[List.mem_cons,List.not_mem_nil,or_false] at hx
  rcases hx with rfl|rfl<;>simp
 ·unfold rosT at hx
  split at hx
  ·simp only[List.mem_cons,List.not_mem_nil,or_false] at hx
   subst hx
   simp
  ·simp only[List.mem_cons,List.not_mem_nil,or_false] at hx
   rcases hx with rfl|rfl|rfl<;>simp
theorem Qjv (G:DefG d) {i:Nat} (hi:i<d.prods.length):(Zn (orgs d) i).length≤16:=by
 rw[Qur hi,List.length_map,List.length_range]
 exact Qv0 G hi
theorem Qzw (G:DefG d) {p a q:Nat} (hp:p<d.prods.length) (hq:q<d.prods.length):(barL (orgs d) p a q).length≤101376:=by
 unfold barL
 have h1:=Qjv G hp
 have h2:((Zn (orgs d) p).flatMap (barR (orgs d) a q)).length≤(Zn (orgs d) p).length*6336:=by
  refine Qfc fun r hr=>?_
  have h3:=Qd7 hr
  unfold barR
  rw[List.getElem?_eq_getElem h3]
  simp only
  have h4:=Qf8 G _ (List.getElem_mem h3)
  have h5:((List.range (orgs d)[r].syms.length).flatMap (barP (orgs d) r (orgs d)[r] a q)).length≤(List.range (orgs d)[r].syms.length).length*16:=by
   refine Qfc fun j _=>?_
   unfold barP
   split
   ·rw[List.length_map];exact Qjv G hq
   ·simp
  rw[List.length_range] at h5
  omega
 omega
theorem Qy9 (G:DefG d) {p q:CE} (hp:p.at_<d.prods.length) (hq:q.at_<d.prods.length):(banQ d (orgs d) p q).length≤((d.prods[p.at_]?.map fun x=>x.syms.length).getD 0)*101376:=by
 unfold banQ
 rw[List.getElem?_eq_getElem hp]
 simp only[Option.map_some,Option.getD_some]
 have:=Qfc (f:=fun y:Sym×Nat=>banS d (orgs d) p q d.prods[p.at_].syms.length y.2 y.1) (B:=101376) (l:=d.prods[p.at_].syms.zipIdx) fun y _=>by
  unfold banS
  rw[List.getElem?_eq_getElem hq]
  simp only
  split
  ·exact Qzw G hp hq
  ·simp
 rw[List.length_zipIdx] at this
 exact this
theorem Qr1 (G:DefG d) {l:List Group} (hok:chainOK d.prods (Yr l)):(Qag d (orgs d) l).length≤sumN (fun p=>p.syms.length) d.prods*((Yr l).length*101376):=by
 unfold Qag
 have h1:((ces d.prods l).flatMap fun p=>(ces d.prods l).flatMap fun q=>banQ d (orgs d) p q).length≤((ces d.prods l).map fun p=>((d.prods[p.at_]?.map fun x=>x.syms.length).getD 0)*((Yr l).length*101376)).sum:=by
  refine Qip fun p hp=>?_
  have h2:=Qfc (f:=fun q=>banQ d (orgs d) p q) (l:=ces d.prods l) (B:=((d.prods[p.at_]?.map fun x=>x.syms.length).getD 0)*101376) fun q hq=>Qy9 G (Qld hok hp) (Qld hok hq)
  rw[Qlj] at h2
  refine Nat.le_trans h2 (Nat.le_of_eq ?_)
  rw[Nat.mul_left_comm]
 refine Nat.le_trans h1 ?_
 rw[Qk5]
 refine Nat.mul_le_mul_right _ ?_
 have h3:=Qox (fun i=>(d.prods[i]?.map fun x=>x.syms.length).getD 0) d.prods.length ((ces d.prods l).map CE.at_) (Qft hok) fun i hi=>by
  rw[List.mem_map] at hi
  obtain⟨e,he,rfl⟩:=hi
  exact Qld hok he
 rw[Qr3,List.map_map] at h3
 exact h3
theorem Qj5 (l:List Group):(Yr l).length≤fch l:=by
 unfold Yr fch sumN
 rw[List.length_flatMap]
 exact Nat.le_add_left _ _
theorem Qz1 (G:DefG d) (hok:Qk4 d) (hp:Ym d≤160):(allL d (orgs d)).length≤1000000000:=by
 obtain⟨h1,h2,h3,h4,h5⟩:=Qbu hp
 unfold allL
 have a:=Qip (f:=Qag d (orgs d)) (g:=fun l=>fch l*(sumN (fun p=>p.syms.length) d.prods*101376)) (l:=d.chains) fun l hl=>by
  refine Nat.le_trans (Qr1 G (hok l hl)) ?_
  rw[Nat.mul_left_comm]
  exact Nat.mul_le_mul_right _ (Qj5 l)
 rw[Qk5] at a
 have e:(d.chains.map fch).sum=sumN fch d.chains:=rfl
 rw[e] at a
 generalize sumN (fun p=>p.syms.length) d.prods=S at a h5
 generalize sumN fch d.chains=C at a h5
 have:C*(S*101376)≤160*(160*101376) / 1:=by
  rw[Nat.div_one]
  exact Nat.mul_le_mul om (Nat.mul_le_mul_right _ om)
 have hCS:C*S≤6400:=by
  have h:C≤160-S:=by omega
  have h2:C*S≤(160-S)*S:=Nat.mul_le_mul_right _ h
  have h3:∀ S:Fin 161,(160-S.1)*S.1≤6400:=by decide
  have:=h3 ⟨S,by omega⟩
  simp only at this
  omega
 have e2:C*(S*101376)=C*S*101376:=(Nat.mul_assoc _ _ _).symm
 rw[e2] at a
 omega
theorem Qvx (hp:Ym d≤160):∀ c∈d.chains,(Yr c).length≤1000∧c.length≤1000:=by
 intro c hc
 obtain⟨h1,h2,h3,h4,h5⟩:=Qbu hp
 have a:=Qh0 (f:=fch) hc
 have b:=Qj5 c
 have e:c.length≤fch c:=by unfold fch;omega
 omega
end
def Qcj (d:Def) (nm:List ByteArray):List ByteArray:=Qm d.prods++nm++(if emB d.layout=true then [] else [ByteArray.mk #[103,97,112]])++[ByteArray.mk #[116,111,112]]
abbrev Qjz (m:MK):Value:=.agg #[.string m.start,.string m.layout,m.vP,m.vC,m.vFo,m.vRe,m.vB,i64 m.nts,i64 m.st,m.vr,m.vf,m.vn,m.vb,m.vF,m.vR]
abbrev Xhm:Value:=.agg #[.string ⟨#[]⟩,.string ⟨#[]⟩,nilS,nilS,nilS,nilS,nilS,i64 0,i64 0,nilS,nilS,nilS,nilS,nilS,nilS]
structure KO (h h':Heap) (d:Def) (m:MK) (nm:List ByteArray):Prop where
 p:h <+: h'
 D:Fr (fun x=>RdDefs x d m.vP m.vC m.vFo m.vRe m.vB) h.length h'
 s1:m.start=d.start
 s2:m.layout=d.layout
 nts:m.nts=(ntsN d:Int)
 st:m.st=(topN d:Int)
 r:RuleL h h' m.vr ((ros d).map (·.1))
 f:OrgL h h' m.vf (orgs d)
 n:Grow h h' m.vn (Qcj d nm).length ((Qcj d nm).map .string) 9
 nl:nm.length=nK d
 ne:∀ b∈nm,Qsx b
 b:Grow h h' m.vb (Qbl [] (allL d (orgs d))).length (BC (Xge d)) 70
 F:Grow h h' m.vF (ntsN d) ((folD d d.follows).flatMap BSet.cells) 54
 R:Grow h h' m.vR (ntsN d) ((rejD d d.rejects).map i64) 3
theorem OwnL.base {α:Type} {f:α→Value→List Value} {g:α→List Value} {w:Nat} {et et2:TypeId} {a b c:Heap} {v:Value} {l:List α} (k:OwnL f g w et et2 b c v l) (h:a <+: b):OwnL f g w et et2 a c v l:=by
 obtain⟨us,hl,G,hu⟩:=k
 exact⟨us,hl,G.base h,fun i x u k1 k2=>by
  obtain⟨n,e,g'⟩:=hu i x u k1 k2
  exact⟨n,e,g'.base h⟩⟩
theorem OrgL.rd {h h':Heap} {v:Value} {l:List Org} (k:OrgL h h' v l) (hl:l.length≤1000000) (hs:∀ o∈l,o.syms.length≤1000000):RdFrom h' v l:=by
 obtain⟨us,e,G,hu⟩:=k
 refine⟨us,e,G.sl om,fun i r u h1 h2=>?_⟩
 obtain⟨n,en,g⟩:=hu i r u h1 h2
 have hr:=hs r (List.mem_of_getElem? h1)
 have:n=r.syms.length:=by
  have:(ogG r).length=r.syms.length:=List.length_map ..
  omega
 subst this
 exact g.sl (b:=8) om
theorem Qw6 {hk h':Heap} {im:Nat} {cells:List Value} (ho:hk[im]? = some (.arr cells 0 true 94)) (k:∀ (j:Nat) (o:HObj),j<hk.length→j≠im→hk[j]? = some o→h'[j]? = some o):Keep [94] hk h':=fun j o e q=>by
 refine k j o (List.getElem?_eq_some_iff.1 e).1 (fun e1=>?_) e
 subst e1
 rw[ho] at e
 cases e
 simp [Qir] at q
theorem Qp3 {x:ByteArray}:∀ {l:List ByteArray},x∈l→l.idxOf x<l.length
 | [],h=>by simp at h
 | a :: l,h=>by
   rw[Qlt]
   by_cases e:x=a
   ·rw[if_pos e];simp
   ·rw[if_neg e]
    have:=Qp3 ((List.mem_cons.1 h).resolve_left e)
    simp only[List.length_cons]
    omega
section
variable {h:Heap} {d:Def} {up uc uf ur ub:Value}
set_option maxHeartbeats 16000000 in
theorem Qym (hd:RdDefs h d up uc uf ur ub) (hw:DefWf d) (hpn:Yj d=true→Ym d≤160) :
 FW env 15 [.agg (d.val up uc uf ur ub).toArray] h fun r h'=>(¬ Qct d∧r = .tuple #[Xhm,i64 53]∧h'=h)∨(Qct d∧∃ m nm,r = .tuple #[Qjz m,i64 0]∧KO h h' d m nm):=by
 have hck:=Qt2 hd hw hpn
 have hcp:=Qrz hd
 unfold Def.val at hck hcp
 have hd0:=hd
 obtain⟨p1,c1,rfl⟩:=RdL.form hd.prods
 obtain⟨p2,c2,rfl⟩:=RdL.form hd.chains
 obtain⟨p3,c3,rfl⟩:=SlR.form hd.follows
 obtain⟨p4,c4,rfl⟩:=SlR.form hd.rejects
 obtain⟨p5,c5,rfl⟩:=RdL.form hd.boxes
 have l1:d.prods.length≤140737488355328:=by have:=RdL.le hd.prods;omega
 have l2:d.chains.length≤140737488355328:=by have:=RdL.le hd.chains;omega
 have l3:d.follows.length≤140737488355328:=by have:=hd.follows.1;omega
 have l4:d.rejects.length≤140737488355328:=by have:=hd.rejects.1;omega
 have l5:d.boxes.length≤140737488355328:=by have:=RdL.le hd.boxes;omega
 refine fe Tryz.func15 ?_;simp only[push_cast]
 unfold Def.val
 refine zw0 ?_
 refine zj Tryz.func31 ?_
 refine hck.mono ?_
 rintro _ h1 ⟨⟨e,w,rfl,he⟩,e1⟩
 obtain rfl:=e1.symm
 by_cases q:e=0
 ·have hok:=he.1 q
  have d1:=decide_eq_true q
  have hpt:=hpn (hok 0 (by decide))
  have G:=Qqn hok hpt
  obtain⟨b1,b2,b3,b4,b5⟩:=Qbu hpt
  refine zw1 d1 ?_
  refine Qa rfl ?_
  refine zu ?_
  iterate 1 (refine zx zp0 ?_)
  refine zj Tryz.func32 ?_
  refine hcp.mono ?_
  rintro _ h1 ⟨hp1,vp,vc,vf,vr,vb,rfl,hF⟩
  have hD1:=hF.now
  obtain⟨p1',c1',rfl⟩:=RdL.form hD1.prods
  obtain⟨p2',c2',rfl⟩:=RdL.form hD1.chains
  obtain⟨p3',c3',rfl⟩:=SlR.form hD1.follows
  obtain⟨p4',c4',rfl⟩:=SlR.form hD1.rejects
  obtain⟨p5',c5',rfl⟩:=RdL.form hD1.boxes
  iterate 1 (refine zx zp0 ?_)
  refine Qcv (kt:=9) (et:=3) zf0 rfl kr ?_
  dsimp only[St.putO,St.put]
  have hpA:h1 <+: h1++[HObj.map []]:=Qo
  have hmA:(h1++[HObj.map []])[h1.length]? = some (.map (smE [])):=Qp
  have hlA:(h1++[HObj.map []]).length=h1.length+1:=by simp
  generalize (h1++[HObj.map []])=hA at hpA hmA hlA ⊢
  obtain⟨is,his⟩:∃ is,is=h1.length:=⟨_,rfl⟩
  rw[← his] at hmA
  rw[← his]
  refine Qcv (kt:=154) (et:=3) zf0 rfl kr ?_
  dsimp only[St.putO,St.put]
  have hpB:h1 <+: hA++[HObj.map []]:=Yl hpA
  have hmB:(hA++[HObj.map []])[is]? = some (.map (smE [])):=Xg hmA
  have hnB:(hA++[HObj.map []])[hA.length]? = some (.map (kE [])):=Qp
  have hlB:(hA++[HObj.map []]).length=h1.length+2:=by simp [hlA]
  generalize (hA++[HObj.map []])=hB at hpB hmB hnB hlB ⊢
  obtain⟨il,hil⟩:∃ il,il=hA.length:=⟨_,rfl⟩
  rw[← hil] at hnB
  rw[← hil]
  iterate 1 (refine zx zp0 ?_)
  obtain⟨m0,hm0⟩:∃ m0:MK,m0=⟨d.start,d.layout,.slice p1' d.prods.length c1',.slice p2' d.chains.length c2',.slice p3' d.follows.length c3',.slice p4' d.rejects.length c4',.slice p5' d.boxes.length c5',0,0,nilS,nilS,nilS,nilS,nilS,nilS,is,il,nilS,0⟩:=⟨_,rfl⟩
  refine Yw (t:=94) (cs:=m0.cells) zf0 (by rw[hm0];unfold MK.cells;exact zf0) ?_
  dsimp only[St.putO,St.put]
  have hpC:h1 <+: hB++[HObj.arr m0.cells 0 true 94]:=Yl hpB
  have hmC:(hB++[HObj.arr m0.cells 0 true 94])[is]? = some (.map (smE [])):=Xg hmB
  have hnC:(hB++[HObj.arr m0.cells 0 true 94])[il]? = some (.map (kE [])):=Xg hnB
  have hoC:(hB++[HObj.arr m0.cells 0 true 94])[hB.length]? = some (.arr m0.cells 0 true 94):=Qp
  generalize (hB++[HObj.arr m0.cells 0 true 94])=hC at hpC hmC hnC hoC ⊢
  obtain⟨im,him⟩:∃ im,im=hB.length:=⟨_,rfl⟩
  rw[← him] at hoC
  rw[← him]
  have hkY:=Qu1 hpt (fun p hp=>(G.p p hp).n)
  have hnS:=Xw (ps:=d.prods)
  have hnt:=Xau (h0:=h1) (hk:=hC) (im:=im) (m:=m0) hpC hoC (by rw[hm0];exact hmC) (by rw[hm0];exact hnC) om (by rw[hm0];show h1.length≤is;omega) (by rw[hm0];show h1.length≤il;omega) (by rw[hm0];show im≠is;omega) (by rw[hm0];show im≠il;omega) (by rw[hm0];show is≠il;omega) (by rw[hm0]) (by rw[hm0]) (by rw[hm0];exact hD1) (by rw[hm0]) (by rw[hm0]) G hw.prods om hkY
  refine zw0 ?_
  refine zj Tryz.func33 ?_
  refine hnt.mono ?_
  rintro _ h2 ⟨rfl,vn,vo,nm,hb,NT⟩
  have N:=NT.s
  have hbl:h1.length≤hb.length:=by have:=hpC.length_le;have:=NT.p.length_le;omega
  have hM:MR h1 h2 im { m0 with vn:=vn,vo:=vo,gap:=gapN d,st:=(topN d:Int),nts:=(ntsN d:Int) } []:=⟨N.p,by omega,N.o,by rw[hm0];exact OwnL.nil,by rw[hm0];exact OwnL.nil⟩
  have hS:MS h2 { m0 with vn:=vn,vo:=vo,gap:=gapN d,st:=(topN d:Int),nts:=(ntsN d:Int) } d (esN (Qm d.prods)) (ksN (Qm d.prods).length (Xe d.prods)):=⟨N.sm,fun x hx=>Qqi hx,N.lm,fun k hk=>by rw[Qql,if_pos hk];rfl,rfl⟩
  have hru:=Qui (m:={ m0 with vn:=vn,vo:=vo,gap:=gapN d,st:=(topN d:Int),nts:=(ntsN d:Int) }) hM hS (by rw[hm0];exact hD1.prods.mono N.p) (by rw[hm0]) (by rw[hm0]) (N.od.baseL hbl) G rfl
  refine zw0 ?_
  refine zj Tryz.func34 ?_
  refine hru.mono ?_
  rintro _ h3 ⟨rfl,vr,vf,M3,K3⟩
  have hrl:=Qkr G hpt
  have hos:(orgs d).length≤4096:=by unfold orgs;rw[List.length_map];omega
  have hosy:∀ o∈orgs d,o.syms.length≤1000000:=fun o ho=>by have:=Qf8 G o ho;omega
  have hN3:=(N.n.keep K3 (by decide)).baseL hbl
  have hNl:(Qcj d nm).length=ntsN d:=by
   unfold Qcj
   rw[List.length_append,List.length_append,List.length_append,NT.l]
   unfold ntsN topN
   split<;>rfl
  have hkn:=G.kn
  have hN5:ntsN d≤5000:=by
   have e1:nS d≤160:=by unfold nS;omega
   have e2:nK d≤3000:=hkn
   unfold ntsN topN
   split<;>omega
  have hKD:KD h1 h3 im { m0 with vn:=vn,vo:=vo,gap:=gapN d,st:=(topN d:Int),nts:=(ntsN d:Int),vr:=vr,vf:=vf } d (orgs d) (Qcj d nm):=⟨M3.p,by omega,M3.o,by rw[hm0];exact hD1,by rw[hm0],by rw[hm0],OrgL.rd M3.f om hosy,(Grow.sl (b:=16) hN3 (by show (Qcj d nm).length*16≤_;omega)),by obtain⟨p,c,e⟩:=OwnL.form M3.r;exact⟨p,_,c,e⟩,by rw[hm0];exact⟨none,0,0,rfl⟩,by rw[hm0];exact⟨none,0,0,rfl⟩,by rw[hm0];exact⟨none,0,0,rfl⟩⟩
  have hu:∀ s∈allN d,Xy d.prods s≠0:=hok 3 (by decide)
  have hfS:∀ x∈d.follows,x.sort∈Qm d.prods∧SetWf x.set:=fun x hx=>⟨Qcq (hu _ (by unfold allN;exact List.mem_append_left _ (List.mem_append_right _ (List.mem_map_of_mem hx)))),(hw.follows x hx).2⟩
  have hrS:∀ x∈d.rejects,x.sort∈Qm d.prods∧x.by_∈Qm d.prods:=fun x hx=>⟨Qcq (hu _ (by unfold allN nR;exact List.mem_append_right _ (List.mem_flatMap.2 ⟨x,hx,by simp⟩))),Qcq (hu _ (by unfold allN nR;exact List.mem_append_right _ (List.mem_flatMap.2 ⟨x,hx,by simp⟩)))⟩
  have hsn:∀ x∈Qm d.prods,ntS d x<ntsN d:=fun x hx=>by
   have h1:=Qp3 hx
   unfold ntS ntsN topN nS
   split<;>omega
  have hfi:=Qou hKD (K3 _ _ N.sm rfl) (fun x hx=>Qqi hx) (by rw[hm0]) rfl hN5 (hok 11 (by decide)) hos (Qvx hpt) om (fun p hp=>by have:=(G.p p hp).n;omega) hosy (Qz1 G (hok 11 (by decide)) hpt) hfS hrS om om hsn
  refine zw0 ?_
  refine zj Tryz.func35 ?_
  refine hfi.mono ?_
  rintro _ h4 ⟨rfl,vb,vF,vR,FI⟩
  have hob:=FI.o
  have K4:=Qw6 M3.o FI.k
  have hl3:h.length≤h3.length:=by have:=hp1.length_le;have:=M3.p.length_le;omega
  obtain⟨m4,hm4⟩:∃ m4:MK,m4={ m0 with vn:=vn,vo:=vo,gap:=gapN d,st:=(topN d:Int),nts:=(ntsN d:Int),vr:=vr,vf:=vf,vb:=vb,vF:=vF,vR:=vR }:=⟨_,rfl⟩
  rw[← hm4] at hob
  have hKO:KO h h4 d m4 nm:=by
   refine⟨hp1.trans FI.p,?_,?_,?_,?_,?_,?_,?_,?_,NT.l,NT.e,?_,?_,?_⟩
   ·rw[hm4,hm0]
    exact hF.mono (Agr.pre FI.p)
   ·rw[hm4,hm0]
   ·rw[hm4,hm0]
   ·rw[hm4]
   ·rw[hm4]
   ·rw[hm4]
    exact (OwnL.keep M3.r K4 (by decide) (by decide)).base hp1
   ·rw[hm4]
    exact (OwnL.keep M3.f K4 (by decide) (by decide)).base hp1
   ·rw[hm4]
    exact (hN3.keep K4 (by decide)).base hp1
   ·rw[hm4]
    exact FI.b.baseL hl3
   ·rw[hm4]
    exact FI.F.baseL hl3
   ·rw[hm4]
    exact FI.R.baseL hl3
  obtain⟨q1,r1,e1⟩:=RdL.form hKO.D.now.prods
  obtain⟨q2,r2,e2⟩:=RdL.form hKO.D.now.chains
  obtain⟨q3,r3,e3⟩:=SlR.form hKO.D.now.follows
  obtain⟨q4,r4,e4⟩:=SlR.form hKO.D.now.rejects
  obtain⟨q5,r5,e5⟩:=RdL.form hKO.D.now.boxes
  obtain⟨q6,r6,e6⟩:=OwnL.form hKO.r
  obtain⟨q7,r7,e7⟩:=OwnL.form hKO.f
  obtain⟨q8,r8,e8⟩:=hKO.n.form
  obtain⟨q9,r9,e9⟩:=hKO.b.form
  obtain⟨qa,ra,ea⟩:=hKO.F.form
  obtain⟨qb,rb,eb⟩:=hKO.R.form
  simp only[MK.cells,e1,e2,e3,e4,e5,e6,e7,e8,e9,ea,eb] at hob
  refine zw1 hob ?_
  refine Qd ?_
  refine⟨_,zf0,.inr ⟨hok,m4,nm,?_,hKO⟩⟩
  rw[Qjz,e1,e2,e3,e4,e5,e6,e7,e8,e9,ea,eb]
  rfl
 ·have hno:¬ Qct d:=fun k=>q (he.2 k)
  have d1:=decide_eq_false q
  refine zw1 d1 ?_
  refine Qb rfl ?_
  refine zw0 ?_
  refine Qd ?_
  exact⟨_,zf0,.inl ⟨hno,rfl,rfl⟩⟩
end
theorem OwnL.at {α:Type} {f:α→Value→List Value} {g:α→List Value} {w k:Nat} {et et2:TypeId} {h0 hk:Heap} {v:Value} {l:List α} (hf:∀ x u,(f x u).length=k) (G:OwnL f g w et et2 h0 hk v l) {i:Nat} (hi:i<l.length) :
 ∃ id ver c cells u n,v = .slice (some ⟨id,0,some ver⟩) l.length c∧hk[id]? = some (.arr cells ver true et)∧rdH cells (i*k) k=some (f l[i] u)∧(g l[i]).length=n*w∧Grow h0 hk u n (g l[i]) et2∧h0.length≤id:=by
 obtain⟨us,hl,G,hu⟩:=G
 rcases G with ⟨e0,_,_⟩ | ⟨id,ver,h1,rfl,h3⟩
 ·omega
 have hi':i<us.length:=hl▸hi
 obtain⟨n,en,g'⟩:=hu i l[i] us[i] (by simp [hi]) (by simp [hi'])
 refine⟨id,ver,_,_,us[i],n,rfl,h3,?_,en,g',h1⟩
 refine Xs (f:=fun p:α×Value=>f p.1 p.2) (fun _=>hf _ _) (l.zip us) i (l[i],us[i]) ?_
 simp [List.getElem?_zip_eq_some,hi,hi']
theorem RuleL.at {h0 hk:Heap} {v:Value} {l:List Rule} (G:RuleL h0 hk v l) {i:Nat} (hi:i<l.length) :
 ∃ id ver c cells p c2,v = .slice (some ⟨id,0,some ver⟩) l.length c∧hk[id]? = some (.arr cells ver true 63)∧rdH cells (i*2) 2=some [i64 l[i].lhs,.slice p l[i].rhs.length c2]∧Grow h0 hk (.slice p l[i].rhs.length c2) l[i].rhs.length (l[i].rhs.flatMap KSym.cells) 65∧h0.length≤id:=by
 obtain⟨id,ver,c,cells,u,n,e1,e2,e3,e4,e5,e6⟩:=OwnL.at (k:=2) (fun _ _=>rfl) G hi
 have hn:(rlG l[i]).length=l[i].rhs.length*5:=Qcw
 obtain rfl:n=l[i].rhs.length:=by omega
 obtain⟨p,c2,rfl⟩:=e5.form
 exact⟨id,ver,c,cells,p,c2,e1,e2,e3,e5,e6⟩
section
variable {h h':Heap} {d:Def} {m:MK} {nm:List ByteArray}
theorem Qdd:(orgs d).length=(ros d).length:=List.length_map ..
theorem KO.nl_ (K:KO h h' d m nm):(Qcj d nm).length=ntsN d:=by
 unfold Qcj
 rw[List.length_append,List.length_append,List.length_append,K.nl]
 unfold ntsN topN
 split<;>rfl
theorem KO.frm (K:KO h h' d m nm) (G:DefG d) (hp:Ym d≤160):RdFrom h' m.vf (orgs d):=
 OrgL.rd K.f (by have:=Qkr G hp;rw[Qdd];omega) (fun o ho=>by have:=Qf8 G o ho;omega)
theorem KO.kern (K:KO h h' d m nm) (G:DefG d) (hp:Ym d≤160):RdKern0 h' (Qjz m) (orgs d) (Qcj d nm):=by
 obtain⟨q1,r1,e1⟩:=RdL.form K.D.now.prods
 obtain⟨q2,r2,e2⟩:=RdL.form K.D.now.chains
 obtain⟨q3,r3,e3⟩:=SlR.form K.D.now.follows
 obtain⟨q4,r4,e4⟩:=SlR.form K.D.now.rejects
 obtain⟨q5,r5,e5⟩:=RdL.form K.D.now.boxes
 obtain⟨q6,r6,e6⟩:=OwnL.form K.r
 obtain⟨q9,r9,e9⟩:=K.b.form
 obtain⟨qa,ra,ea⟩:=K.F.form
 obtain⟨qb,rb,eb⟩:=K.R.form
 have hN:ntsN d≤5000:=by
  obtain⟨b1,b2,b3,b4,b5⟩:=Qbu hp
  have h1:=Xw (ps:=d.prods)
  have h2:=G.kn
  have e1:nS d≤160:=by unfold nS;omega
  have e2:nK d≤3000:=h2
  unfold ntsN topN
  split<;>omega
 refine⟨m.start,m.layout,q1,q2,q3,q4,q5,q6,q9,qa,qb,_,_,_,_,_,_,_,_,_,r1,r2,r3,r4,r5,r6,r9,ra,rb,m.nts,m.st,m.vf,m.vn,by rw[Qjz,e1,e2,e3,e4,e5,e6,e9,ea,eb],K.frm G hp,K.n.sl (by rw[K.nl_];omega)⟩
theorem Qmp (h:Yj d=true):Qhd d:=by
 intro b hb
 unfold Yj at h
 simp only[Bool.and_eq_true] at h
 have h1:=List.all_eq_true.1 h.2.2.2.2.2 b hb
 unfold Jw at h1
 simp only[Bool.and_eq_true,decide_eq_true_eq] at h1
 omega
end
section
variable {d:Def}
theorem Qwu {lex:Bool} {s:Sym} (h:s.kind=1→s.text≠⟨#[]⟩):ownK d lex s≠[]:=by
 unfold ownK
 split
 ·rename_i k
  have h1:=h k
  unfold litK
  intro e
  rw[List.map_eq_nil_iff,List.range_eq_nil] at e
  exact h1 (emp_iff.2 e)
 ·split<;>simp
variable {h:Heap} {up uc uf ur ub:Value}
end
def okP (gaps:Bool) (Y:List Sym):Option Int→Int→List Int→Prop
 | _,_,[]=>True
 | prev,last,s :: r=>if s<0 then gaps=true∧prev≠none∧(∃ t r',r=t :: r'∧last<t)∧okP gaps Y (some s) last r
   else last≤s∧s<(Y.length:Int)∧(last<s→0≤last→∃ q,prev=some q∧gaps=decide (q<0))∧(s=last→∃ y,Y[s.toNat]? = some y∧y.kind=1)∧okP gaps Y (some s) s r
def endP:Option Int→List Int→Option Int
 | p,[]=>p
 | _,s :: r=>endP (some s) r
def endL:Int→List Int→Int
 | l,[]=>l
 | l,s :: r=>endL (if s<0 then l else s) r
theorem Qmb (p:Option Int) (A B:List Int):endP p (A++B)=endP (endP p A) B:=by
 induction A generalizing p with
 | nil=>rfl
 | cons s r ih=>exact ih _
theorem Qmr (l:Int) (A B:List Int):endL l (A++B)=endL (endL l A) B:=by
 induction A generalizing l with
 | nil=>rfl
 | cons s r ih=>exact ih _
section
variable {gaps:Bool} {Y:List Sym} {d:Def}
theorem Qqg {A B:List Int}:∀ {p:Option Int} {l:Int},okP gaps Y p l A→okP gaps Y (endP p A) (endL l A) B→okP gaps Y p l (A++B):=by
 induction A with
 | nil=>intro p l _ h;exact h
 | cons s r ih=>
   intro p l h1 h2
   rw[List.cons_append]
   unfold okP at h1 ⊢
   unfold endP endL at h2
   by_cases hs:s<0
   ·rw[if_pos hs] at h1 h2 ⊢
    obtain⟨a,b,⟨t,r',e,c⟩,f⟩:=h1
    refine⟨a,b,⟨t,r'++B,by rw[e];rfl,c⟩,ih f h2⟩
   ·rw[if_neg hs] at h1 h2 ⊢
    obtain⟨a,b,c,e,f⟩:=h1
    exact⟨a,b,c,e,ih f h2⟩
theorem Qpy {k:Nat} (hk:k<Y.length):∀ n,(0<n→Y[k].kind=1)→okP gaps Y (some (k:Int)) (k:Int) (List.replicate n (k:Int))
 | 0,_=>trivial
 | n+1,h=>by
   rw[List.replicate_succ]
   unfold okP
   rw[if_neg om]
   exact⟨Int.le_refl _,by omega,fun h _=>absurd h om,fun _=>⟨Y[k],by rw[Int.toNat_natCast,List.getElem?_eq_getElem hk],h om⟩,Qpy hk n fun _=>h om⟩
theorem Qi3 {k:Int}:∀ n,0<n→∀ p,endP p (List.replicate n k)=some k
 | 0,h,_=>absurd h om
 | 1,_,_=>rfl
 | n+2,_,p=>by
   rw[List.replicate_succ]
   exact Qi3 (n+1) om (some k)
theorem Qhu {k:Nat}:∀ n,0<n→∀ l,endL l (List.replicate n (k:Int))=(k:Int)
 | 0,h,_=>absurd h om
 | 1,_,l=>by
   show endL (if (k:Int)<0 then l else (k:Int)) []=_
   rw[if_neg om]
   rfl
 | n+2,_,l=>by
   rw[List.replicate_succ]
   exact Qhu (n+1) om _
theorem Qro {lex:Bool} {s:Sym} (h:s.kind≠1):(ownK d lex s).length=1:=by
 unfold ownK
 rw[if_neg h]
 split<;>rfl
abbrev Qcb (d:Def) (lex:Bool):Bool:=!lex && !emB d.layout
structure RowP (d:Def) (p:Prod) (R:URow) (k:Nat):Prop where
 ok:okP (Qcb d p.lex) p.syms none (-1) R.os
 l:endL (-1) R.os<(k:Int)
 n:R.os.length=R.rhs.length
 q:R.os≠[]→∃ q,endP none R.os=some q∧0≤q
theorem RowP.put {p:Prod} {R:URow} {k:Nat} (I:RowP d p R k) (hk:k<p.syms.length) (hs:p.syms[k].kind=1→p.syms[k].text≠⟨#[]⟩):RowP d p (Qaw d p.lex R k p.syms[k]) (k+1):=by
 have hne:=Qwu (d:=d) (lex:=p.lex) hs
 have hl1:p.syms[k].kind≠1→(ownK d p.lex p.syms[k]).length=1:=Qro
 obtain⟨n,hn⟩:∃ n,(ownK d p.lex p.syms[k]).length=n+1:=by
  cases e:ownK d p.lex p.syms[k] with
  | nil=>exact absurd e hne
  | cons a r=>exact⟨r.length,rfl⟩
 have hrep:(List.replicate (n+1) (k:Int))=(k:Int) :: List.replicate n (k:Int):=List.replicate_succ
 have htail:okP (Qcb d p.lex) p.syms (some (k:Int)) (k:Int) (List.replicate n (k:Int)):=Qpy hk n fun h0=>by
  apply Classical.byContradiction
  intro q
  have:=hl1 q
  omega
 have hR:R.rhs=[]↔R.os=[]:=by
  rw[← List.length_eq_zero_iff,← List.length_eq_zero_iff,I.n]
 unfold Qaw
 rw[hn]
 cases hp:preG d p.lex R.rhs with
 | true=>
   have hg:Qcb d p.lex=true:=by
    unfold preG at hp
    simp only[Bool.and_eq_true] at hp
    unfold Qcb
    rw[hp.2.1,hp.2.2]
    rfl
   have hno:R.os≠[]:=by
    intro e
    unfold preG at hp
    rw[hR.2 e] at hp
    cases hp
   obtain⟨q,hq,hq0⟩:=I.q hno
   rw[if_pos rfl,if_pos rfl]
   have hB:okP (Qcb d p.lex) p.syms (endP none R.os) (endL (-1) R.os) ([-1]++List.replicate (n+1) (k:Int)):=by
    rw[hrep]
    show okP _ _ _ _ (-1 :: (k:Int) :: List.replicate n (k:Int))
    unfold okP
    rw[if_pos (by decide)]
    refine⟨hg,by rw[hq];simp,⟨_,_,rfl,I.l⟩,?_⟩
    unfold okP
    rw[if_neg om]
    have:=I.l
    exact⟨by omega,by omega,fun _ _=>⟨-1,rfl,by rw[hg];rfl⟩,fun h=>absurd h om,htail⟩
   refine⟨?_,?_,?_,fun _=>⟨k,?_,by omega⟩⟩
   ·simp only
    rw[List.append_assoc]
    exact Qqg I.ok hB
   ·simp only
    rw[Qmr,Qhu _ om]
    omega
   ·simp only[List.length_append,List.length_replicate,hn,I.n]
    rfl
   ·simp only
    rw[Qmb,Qi3 _ om]
 | false=>
   rw[if_neg (by decide),if_neg (by decide),List.append_nil,List.append_nil]
   have hB:okP (Qcb d p.lex) p.syms (endP none R.os) (endL (-1) R.os) (List.replicate (n+1) (k:Int)):=by
    rw[hrep]
    unfold okP
    rw[if_neg om]
    have:=I.l
    refine⟨by omega,by omega,fun _ h0=>?_,fun h=>absurd h om,htail⟩
    have hno:R.os≠[]:=by
     intro e
     rw[e] at h0
     exact absurd h0 (by decide)
    obtain⟨q,hq,hq0⟩:=I.q hno
    refine⟨q,hq,?_⟩
    rw[decide_eq_false om]
    unfold preG at hp
    have hnr:R.rhs.isEmpty=false:=by
     cases e:R.rhs with
     | nil=>exact absurd (hR.1 e) hno
     | cons=>rfl
    rw[hnr] at hp
    exact hp
   refine⟨?_,?_,?_,fun _=>⟨k,?_,by omega⟩⟩
   ·simp only
    exact Qqg I.ok hB
   ·simp only
    rw[Qmr,Qhu _ om]
    omega
   ·simp only[List.length_append,List.length_replicate,hn,I.n]
   ·simp only
    rw[Qmb,Qi3 _ om]
theorem rowP {p:Prod} {mask:Nat} (hs:∀ s∈p.syms,s.kind=1→s.text≠⟨#[]⟩):∀ k,k≤p.syms.length→RowP d p (Ys d p mask k) k
 | 0,_=>⟨trivial,by show (-1:Int)<((0:Nat):Int);decide,rfl,fun h=>absurd rfl h⟩
 | k+1,hk=>by
   have I:=rowP hs k om (mask:=mask)
   have hk':k<p.syms.length:=by omega
   rw[Qeq hk']
   have hk1:=hs _ (List.getElem_mem hk')
   have lift:∀ R':URow,R'.rhs=(Ys d p mask k).rhs→R'.os=(Ys d p mask k).os→RowP d p R' k:=fun R' e1 e2=>⟨by rw[e2];exact I.ok,by rw[e2];exact I.l,by rw[e1,e2];exact I.n,by rw[e2];exact I.q⟩
   unfold Qcg
   split
   ·split
    ·have J:=lift ⟨(Ys d p mask k).mask / 2,(Ys d p mask k).rhs,(Ys d p mask k).os⟩ rfl rfl
     exact⟨J.ok,by have:=J.l;omega,J.n,J.q⟩
    ·exact (lift ⟨(Ys d p mask k).mask / 2,(Ys d p mask k).rhs,(Ys d p mask k).os⟩ rfl rfl).put hk' hk1
   ·exact I.put hk' hk1
theorem Qwn (hc:Qct d) {p:Prod} (hp:p∈d.prods):∀ s∈p.syms,s.kind=1→s.text≠⟨#[]⟩:=by
 have hn:∀ p∈d.prods,(p.syms.any (fun s=>decide (s.kind=1)&&decide (s.text=⟨#[]⟩))||p.syms.all Jc)=false:=hc 8 (by decide)
 have h:=hn p hp
 rw[Bool.or_eq_false_iff] at h
 intro s hs h1 h2
 have:=List.any_eq_false.1 h.1 s hs
 rw[decide_eq_true h1,decide_eq_true h2] at this
 exact this rfl
theorem Qve {x:Rule×Org} (hx:x∈ros d) (h0:x.2.kind=0):∃ (i:Nat) (hi:i<d.prods.length) (m:Nat),m<Qc5 d.prods[i]∧x=Qaf d i d.prods[i] m:=by
 unfold ros at hx
 rw[List.mem_append,List.mem_append] at hx
 rcases hx with (hx|hx) | hx
 ·have key:∀ k,k≤d.prods.length→∀ x∈rosN d k,∃ (i:Nat) (hi:i<d.prods.length) (m:Nat),m<Qc5 d.prods[i]∧x=Qaf d i d.prods[i] m:=by
   intro k
   induction k with
   | zero=>intro _ x hx;simp [rosN] at hx
   | succ k ih=>
     intro hk x hx
     rw[Qb6 (show k<d.prods.length by omega),List.mem_append] at hx
     rcases hx with hx|hx
     ·exact ih om x hx
     ·unfold Qc1 at hx
      rw[List.mem_map] at hx
      obtain⟨m,hm,rfl⟩:=hx
      exact⟨k,by omega,m,List.mem_range.1 hm,rfl⟩
  exact key _ (Nat.le_refl _) x hx
 ·have:=Qu3 x hx
  omega
 ·have:=Qvi x hx
  omega
end
def Qf5 (os:List Int) (j:Nat):Option Int:=if j=0 then none else os[j-1]?
theorem Qmc {os:List Int} {j:Nat} (hj:j<os.length):Qf5 os (j+1)=some os[j]:=by
 unfold Qf5
 rw[if_neg om,Nat.add_sub_cancel,List.getElem?_eq_getElem hj]
section
variable {d:Def} {h:Heap} {up uc uf ur ub:Value}
set_option maxHeartbeats 16000000 in
theorem Qg6 (hd:RdDefs h d up uc uf ur ub) (hw:DefWf d):FW env 7 [.agg (d.val up uc uf ur ub).toArray] h fun r _=>r = .bool true:=by
 have hhv:=Qr6 hd
 have hmk:=Qym hd hw
 have hd0:=hd
 unfold Def.val at hhv hmk
 obtain⟨p1,c1,rfl⟩:=RdL.form hd.prods
 obtain⟨p2,c2,rfl⟩:=RdL.form hd.chains
 obtain⟨p3,c3,rfl⟩:=SlR.form hd.follows
 obtain⟨p4,c4,rfl⟩:=SlR.form hd.rejects
 obtain⟨p5,c5,rfl⟩:=RdL.form hd.boxes
 have l1:d.prods.length≤140737488355328:=by have:=RdL.le hd.prods;omega
 have l2:d.chains.length≤140737488355328:=by have:=RdL.le hd.chains;omega
 have l3:d.follows.length≤140737488355328:=by have:=hd.follows.1;omega
 have l4:d.rejects.length≤140737488355328:=by have:=hd.rejects.1;omega
 have l5:d.boxes.length≤140737488355328:=by have:=RdL.le hd.boxes;omega
 refine fe Tryz.func7 ?_;simp only[push_cast]
 unfold Def.val
 refine zw0 ?_
 refine zj Tryz.func12 ?_
 refine hhv.mono ?_
 rintro _ h1 ⟨⟨b,hb,rfl⟩,e1⟩
 obtain rfl:=e1.symm
 cases b with
 | true=>
   refine zw0 ?_
   refine Qb rfl ?_
   refine zw0 ?_
   refine zj Tryz.func13 ?_
   refine aliveK_fw.mono ?_
   rintro _ ha ⟨rfl,ea⟩
   obtain rfl:=ea.symm
   refine zw0 ?_
   refine Qd ?_
   exact⟨_,zf0,rfl⟩
 | false=>
 have hmk:=hmk (fun hr=>hb rfl (Qmp hr))
 refine zw0 ?_
 refine Qa rfl ?_
 refine zw0 ?_
 refine zj Tryz.func15 ?_
 refine hmk.mono ?_
 rintro _ h2 (⟨hno,rfl,e2⟩ | ⟨hc,m,nm,rfl,K⟩)
 ·obtain rfl:=e2.symm
  have d1:decide ((53:Int)=0)=false:=rfl
  refine zw1 d1 ?_
  refine Qb rfl ?_
  refine zw0 ?_
  refine zj Tryz.func13 ?_
  refine aliveK_fw.mono ?_
  rintro _ ha ⟨rfl,ea⟩
  obtain rfl:=ea.symm
  refine zw0 ?_
  refine Qd ?_
  exact⟨_,zf0,rfl⟩
 have hpt:=hb rfl (Qmp (hc 0 (by decide)))
 have G:=Qqn hc hpt
 have hkf:=K.frm G hpt
 have hrl:=Qkr G hpt
 obtain⟨kq1,kr1,ke1⟩:=RdL.form K.D.now.prods
 obtain⟨kq2,kr2,ke2⟩:=RdL.form K.D.now.chains
 obtain⟨kq3,kr3,ke3⟩:=SlR.form K.D.now.follows
 obtain⟨kq4,kr4,ke4⟩:=SlR.form K.D.now.rejects
 obtain⟨kq5,kr5,ke5⟩:=RdL.form K.D.now.boxes
 obtain⟨kq6,kr6,ke6⟩:=OwnL.form K.r
 obtain⟨kq7,kr7,ke7⟩:=OwnL.form K.f
 obtain⟨kq8,kr8,ke8⟩:=K.n.form
 obtain⟨kq9,kr9,ke9⟩:=K.b.form
 obtain⟨kqa,kra,kea⟩:=K.F.form
 obtain⟨kqb,krb,keb⟩:=K.R.form
 rw[List.length_map] at ke6
 rw[Qdd] at ke7
 rw[K.nl_] at ke8
 have hkv:Qjz m = .agg #[.string d.start,.string d.layout,.slice kq1 d.prods.length kr1,.slice kq2 d.chains.length kr2,.slice kq3 d.follows.length kr3,.slice kq4 d.rejects.length kr4,.slice kq5 d.boxes.length kr5,i64 (ntsN d:Int),i64 (topN d:Int),.slice kq6 (ros d).length kr6,.slice kq7 (ros d).length kr7,.slice kq8 (ntsN d) kr8,.slice kq9 (Qbl [] (allL d (orgs d))).length kr9,.slice kqa (ntsN d) kra,.slice kqb (ntsN d) krb]:=by rw[Qjz,K.s1,K.s2,K.nts,K.st,ke1,ke2,ke3,ke4,ke5,ke6,ke7,ke8,ke9,kea,keb]
 rw[hkv]
 obtain⟨b1,b2,b3,b4,b5⟩:=Qbu hpt
 have d1:decide ((0:Int)=0)=true:=rfl
 refine zw1 d1 ?_
 refine Qa rfl ?_
 refine zw0 ?_
 have hD2:=hd0.mono K.p
 refine CW.mono (Q:=fun e s'=>e = .exit 0∧s'.h=h2) ?_ ?_
 ·refine Yq (ros d).length (fun k=>[(1,.box [.string d.start,.string d.layout,.slice p1 d.prods.length c1,.slice p2 d.chains.length c2,.slice p3 d.follows.length c3,.slice p4 d.rejects.length c4,.slice p5 d.boxes.length c5]),(3,.box [.string d.start,.string d.layout,.slice kq1 d.prods.length kr1,.slice kq2 d.chains.length kr2,.slice kq3 d.follows.length kr3,.slice kq4 d.rejects.length kr4,.slice kq5 d.boxes.length kr5,i64 (ntsN d:Int),i64 (topN d:Int),.slice kq6 (ros d).length kr6,.slice kq7 (ros d).length kr7,.slice kq8 (ntsN d) kr8,.slice kq9 (Qbl [] (allL d (orgs d))).length kr9,.slice kqa (ntsN d) kra,.slice kqb (ntsN d) krb]),(5,.val (i64 k))]) (fun _=>h2) (fun _=>True) zg0 rfl trivial ?_
  intro k hkn _
  by_cases hlt:k<(ros d).length
  ·have hR:=K.r
   rw[ke6] at hR
   obtain⟨id,ver,c',cells,p',c2',hv,hid,hrd,hu,_⟩:=RuleL.at hR (i:=k) (by rw[List.length_map];exact hlt)
   rw[List.length_map] at hv
   cases hv
   have hr1:=Ja (j:=1) hrd om
   simp only[List.getElem?_cons_succ,List.getElem?_cons_zero] at hr1
   have hf:=hkf
   rw[ke7] at hf
   obtain⟨id2,ver2,own2,c3,cells2,p3',n3,c4',hv2,hid2,hn3,hrd2,hsy⟩:=hf.at (i:=k) (by rw[Qdd];exact hlt)
   rw[Qdd] at hv2
   cases hv2
   have w1:=rng hlt
   have w2:=inc hlt om
   have q3:=Qv hlt
   have hym:=List.getElem_mem hlt
   have eg1:((ros d).map (·.1))[k]'(by rw[List.length_map];exact hlt)=(ros d)[k].1:=by simp
   have eg2:(orgs d)[k]'(by rw[Qdd];exact hlt)=(ros d)[k].2:=by simp [orgs]
   rw[eg1] at hr1
   rw[eg2] at hrd2 hsy hn3
   generalize (ros d)[k]=y at hym hr1 hrd2 hsy hn3
   subst hn3
   refine zw1 q3 ?_
   refine Qb rfl ?_
   by_cases k0:y.2.kind=0
   ·obtain⟨ix,hix,mk,hmk2,rfl⟩:=Qve hym k0
    have hRP:=rowP (d:=d) (mask:=mk) (Qwn hc (List.getElem_mem hix)) _ (Nat.le_refl _)
    have dk:=decide_eq_true k0
    have hun:(Qaf d ix d.prods[ix] mk).1.rhs.length=(Qaf d ix d.prods[ix] mk).2.syms.length:=hRP.n.symm
    rw[hun] at hr1
    have hokP:okP (Qcb d d.prods[ix].lex) d.prods[ix].syms none (-1) (Qaf d ix d.prods[ix] mk).2.syms:=hRP.ok
    have hpix:(Qaf d ix d.prods[ix] mk).2.prod=(ix:Int):=rfl
    rw[hpix] at hrd2
    generalize (Qaf d ix d.prods[ix] mk).2.syms=os at hr1 hokP hrd2 hsy
    generalize (Qaf d ix d.prods[ix] mk).2.kind=kd at hrd2 dk
    generalize (Qaf d ix d.prods[ix] mk).2.mask=mv at hrd2
    have hosl:=hsy.1
    obtain⟨id4,ver4,own4,c4,cells4,u4,hv4,hid4,hrd4,hu4⟩:=RdL.at (k:=5) (fun _ _=>rfl) hD2.prods hix
    cases hv4
    have hu4:RdYs h2 u4 d.prods[ix].syms:=hu4
    obtain⟨ps,cs,rfl⟩:=SlR.form hu4
    have w3:=rng hix
    have dz:decide ((ix:Int)<0)=false:=decide_eq_false om
    have dge:decide ((d.prods.length:Int)≤(ix:Int))=false:=decide_eq_false om
    have dsl:decide ((os.length:Int)=(os.length:Int))=true:=decide_eq_true rfl
    generalize d.prods[ix]=pr at hokP hrd4 hu4
    refine zw4 w1 hid2 hrd2 dk ?_
    refine Qa rfl ?_
    refine zw0 ?_
    refine Qt 24 Qq kr ?_
    refine zw6 dz dge w1 hid hr1 dsl ?_
    refine Qa rfl ?_
    refine zu ?_
    iterate 8 (refine zx (zp3 w3 hid4 hrd4) ?_)
    apply zn
    show CW _ _ _ _
    apply zs
    refine CW.mono (Q:=fun e s'=>e = .normal∧s'.h=h2∧SubL [(1,.box [.string d.start,.string d.layout,.slice (some ⟨id4,0,some ver4⟩) d.prods.length c1,.slice p2 d.chains.length c2,.slice p3 d.follows.length c3,.slice p4 d.rejects.length c4,.slice p5 d.boxes.length c5]),(3,.box [.string d.start,.string d.layout,.slice kq1 d.prods.length kr1,.slice kq2 d.chains.length kr2,.slice kq3 d.follows.length kr3,.slice kq4 d.rejects.length kr4,.slice kq5 d.boxes.length kr5,i64 (ntsN d:Int),i64 (topN d:Int),.slice (some ⟨id,0,some ver⟩) (ros d).length kr6,.slice (some ⟨id2,0,some ver2⟩) (ros d).length kr7,.slice kq8 (ntsN d) kr8,.slice kq9 (Qbl [] (allL d (orgs d))).length kr9,.slice kqa (ntsN d) kra,.slice kqb (ntsN d) krb]),(5,.val (i64 k)),(6,.box [i64 kd,i64 (ix:Int),i64 mv,.slice p3' os.length c4']),(7,.box [.bool pr.lex,.string pr.sort,.string pr.cons,.bool pr.bracket,.slice ps pr.syms.length cs]),(8,.val (.bool (Qcb d pr.lex)))] s'.fr) ?_ ?_
    ·cases he:emB d.layout with
     | true=>
       have dl:decide (d.layout=⟨#[]⟩)=true:=he
       refine zw1 dl ?_
       rw[show Qcb d pr.lex=false by unfold Qcb;rw[he];exact Bool.and_false _]
       exact⟨rfl,rfl,zg0⟩
     | false=>
       have dl:decide (d.layout=⟨#[]⟩)=false:=he
       refine zw1 dl ?_
       rw[show Qcb d pr.lex = !pr.lex by unfold Qcb;rw[he];exact Bool.and_true _]
       exact⟨rfl,rfl,zg0⟩
    rintro e s' ⟨rfl,hh,hf⟩
    show CW _ _ _ _
    refine Qi _ hf ?_
    rw[hh]
    clear hf hh s'
    generalize Qcb d pr.lex=gp at hokP ⊢
    have hsl2:pr.syms.length≤140737488355328:=by have:=hu4.1;omega
    have hosl2:os.length≤140737488355328:=by omega
    refine zw0 ?_
    refine CW.mono (Q:=fun e s'=>e = .exit 2∧s'.h=h2∧SubL [(1,.box [.string d.start,.string d.layout,.slice (some ⟨id4,0,some ver4⟩) d.prods.length c1,.slice p2 d.chains.length c2,.slice p3 d.follows.length c3,.slice p4 d.rejects.length c4,.slice p5 d.boxes.length c5]),(3,.box [.string d.start,.string d.layout,.slice kq1 d.prods.length kr1,.slice kq2 d.chains.length kr2,.slice kq3 d.follows.length kr3,.slice kq4 d.rejects.length kr4,.slice kq5 d.boxes.length kr5,i64 (ntsN d:Int),i64 (topN d:Int),.slice (some ⟨id,0,some ver⟩) (ros d).length kr6,.slice (some ⟨id2,0,some ver2⟩) (ros d).length kr7,.slice kq8 (ntsN d) kr8,.slice kq9 (Qbl [] (allL d (orgs d))).length kr9,.slice kqa (ntsN d) kra,.slice kqb (ntsN d) krb]),(5,.val (i64 k))] s'.fr) ?_ ?_
    ·refine Qy os.length (fun j (la:Int)=>[(1,.box [.string d.start,.string d.layout,.slice (some ⟨id4,0,some ver4⟩) d.prods.length c1,.slice p2 d.chains.length c2,.slice p3 d.follows.length c3,.slice p4 d.rejects.length c4,.slice p5 d.boxes.length c5]),(3,.box [.string d.start,.string d.layout,.slice kq1 d.prods.length kr1,.slice kq2 d.chains.length kr2,.slice kq3 d.follows.length kr3,.slice kq4 d.rejects.length kr4,.slice kq5 d.boxes.length kr5,i64 (ntsN d:Int),i64 (topN d:Int),.slice (some ⟨id,0,some ver⟩) (ros d).length kr6,.slice (some ⟨id2,0,some ver2⟩) (ros d).length kr7,.slice kq8 (ntsN d) kr8,.slice kq9 (Qbl [] (allL d (orgs d))).length kr9,.slice kqa (ntsN d) kra,.slice kqb (ntsN d) krb]),(5,.val (i64 k)),(6,.box [i64 kd,i64 (ix:Int),i64 mv,.slice p3' os.length c4']),(7,.box [.bool pr.lex,.string pr.sort,.string pr.cons,.bool pr.bracket,.slice ps pr.syms.length cs]),(8,.val (.bool gp)),(9,.val (i64 la)),(10,.val (i64 j))]) (fun _ _=>h2) (fun j la=>okP gp pr.syms (Qf5 os j) la (os.drop j)) (-1) zg0 rfl hokP ?_
     rintro j la hjn I
     by_cases hjl:j<os.length
     ·obtain⟨id5,ver5,own5,c5',hv5,hid5⟩:=SlR.at hsy om
      cases hv5
      have hsg:(os.map i64)[j]? = some (i64 os[j]):=by rw[List.getElem?_map,List.getElem?_eq_getElem hjl];rfl
      have v1:=rng hjl
      have v2:=inc hjl hosl2
      have v3:=Qv hjl
      rw[List.drop_eq_getElem_cons hjl] at I
      have hps:=Qmc hjl
      unfold okP at I
      by_cases hs:os[j]<0
      ·rw[if_pos hs] at I
       obtain⟨rfl,hpv,⟨t,r',er,hlt2⟩,hok2⟩:=I
       have ds:=decide_eq_true hs
       have hj0:j≠0:=by rintro rfl;exact hpv rfl
       have hj1:j+1<os.length:=by
        have:=congrArg List.length er
        rw[List.length_drop,List.length_cons] at this
        omega
       have ht:os[j+1]=t:=by
        rw[List.drop_eq_getElem_cons hj1] at er
        exact (List.cons.inj er).1
       obtain⟨j1,hj1'⟩:∃ j1,j1=j+1:=⟨_,rfl⟩
       have hw1:IntKind.i64.wrap ((j:Int)+1)=(j1:Int):=by rw[v2];omega
       have dj0:decide ((j:Int)=0)=false:=decide_eq_false om
       have djl:decide ((j1:Int)=(os.length:Int))=false:=decide_eq_false om
       have u1:((0:Int)≤j1∧(j1:Int)<(os.length:Int))=True:=eq_true om
       have hsg1:(os.map i64)[j1]? = some (i64 t):=by subst hj1';rw[List.getElem?_map,List.getElem?_eq_getElem hj1,ht];rfl
       have dle:decide (t≤la)=false:=decide_eq_false om
       refine zw1 v3 ?_
       refine Qb rfl ?_
       refine zw5 v1 hid5 Nat.mul_one hsg ds ?_
       refine Qb rfl ?_
       refine zw8 dj0 hw1 djl u1 hid5 Nat.mul_one hsg1 dle ?_
       refine Qa rfl ?_
       refine zw0 ?_
       refine Qj ?_
       show CW _ _ _ _
       refine zw1 v2 ?_
       refine⟨hjl,la,zg0,rfl,?_⟩
       show okP true pr.syms (Qf5 os (j+1)) la (os.drop (j+1))
       rw[hps]
       exact hok2
      ·rw[if_neg hs] at I
       obtain⟨hls,hsY,hg3,hk4,hok2⟩:=I
       have ds:=decide_eq_false hs
       obtain⟨ns,hns⟩:∃ ns:Nat,os[j]=(ns:Int):=⟨os[j].toNat,by omega⟩
       rw[hns] at hsg ds hls hsY hg3 hk4 hok2 hps
       have dlt:decide ((ns:Int)<la)=false:=decide_eq_false om
       have dge2:decide ((pr.syms.length:Int)≤(ns:Int))=false:=decide_eq_false om
       have hfin:okP gp pr.syms (Qf5 os (j+1)) (ns:Int) (os.drop (j+1)):=by rw[hps];exact hok2
       refine zw1 v3 ?_
       refine Qb rfl ?_
       refine zw5 v1 hid5 Nat.mul_one hsg ds ?_
       refine Qa rfl ?_
       by_cases hgt:la<(ns:Int)
       ·have dgt:=decide_eq_true hgt
        have deq:decide ((ns:Int)=la)=false:=decide_eq_false om
        by_cases hla:0≤la
        ·have dla:=decide_eq_true hla
         obtain⟨q,hq,rfl⟩:=hg3 hgt hla
         have hj0:j≠0:=by rintro rfl;cases hq
         obtain⟨j0,hj0'⟩:∃ j0,j=j0+1:=⟨j-1,by omega⟩
         have hwm:IntKind.i64.wrap ((j:Int)-1)=(j0:Int):=by rw[Qg om om];omega
         have u1:((0:Int)≤j0∧(j0:Int)<(os.length:Int))=True:=eq_true om
         have hsg0:(os.map i64)[j0]? = some (i64 q):=by
          unfold Qf5 at hq
          rw[if_neg hj0,hj0',Nat.add_sub_cancel] at hq
          rw[List.getElem?_map,hq]
          rfl
         have dd1:decide (decide (q<0)=decide (q<0))=true:=decide_eq_true rfl
         have dd2:(decide (q<0) == decide (q<0))=true:=by simp
         repeat (first|apply zs|apply zr|apply zn|((first|apply zx|apply zy);·simp only[push_cast,env,Nat.reduceEqDiff,reduceIte,Nat.reduceAdd,Nat.reduceMul,Nat.reduceLeDiff,reduceCtorEq,Nat.reduceSub,Int.reduceToNat,dlt,dge2,dgt,dla,hwm,u1,hid5,Nat.mul_one,hsg0,deq,dd1,dd2]<;>first|exact rfl|exact .inl rfl|exact .inr rfl) | apply zq|apply zb|apply zo|apply zk|apply zl)
         refine Qa rfl ?_
         refine zw1 v2 ?_
         exact⟨hjl,(ns:Int),zg0,rfl,hfin⟩
        ·have dla:=decide_eq_false hla
         refine zw5 dlt dge2 dgt dla deq ?_
         refine Qa rfl ?_
         refine zw1 v2 ?_
         exact⟨hjl,(ns:Int),zg0,rfl,hfin⟩
       ·have dgt:=decide_eq_false hgt
        have deq:decide ((ns:Int)=la)=true:=decide_eq_true om
        obtain⟨y,hy,hy1⟩:=hk4 om
        rw[Int.toNat_natCast] at hy
        obtain⟨hnl,hye⟩:=List.getElem?_eq_some_iff.1 hy
        obtain⟨id6,ver6,own6,c6,hv6,hid6⟩:=SlR.at hu4 om
        cases hv6
        have hyg:=Qci (Qah hnl) om
        simp only[List.getElem?_cons_zero] at hyg
        rw[hye,hy1] at hyg
        have u6:=rng hnl
        refine zw7 dlt dge2 dgt deq u6 hid6 hyg ?_
        refine Qa rfl ?_
        refine zw1 v2 ?_
        exact⟨hjl,(ns:Int),zg0,rfl,hfin⟩
     ·have v3:=Qu hjl
      obtain rfl:j=os.length:=by omega
      refine zw1 v3 ?_
      refine Qa rfl ?_
      refine Qj ?_
      exact⟨rfl,rfl,zg0⟩
    rintro e s' ⟨rfl,hh,hf⟩
    show CW _ _ _ _
    refine Qi _ hf ?_
    rw[hh]
    clear hf hh s'
    refine zw1 w2 ?_
    exact⟨hlt,zg0,rfl,trivial⟩
   ·have dk:=decide_eq_false k0
    refine zw4 w1 hid2 hrd2 dk ?_
    refine Qb rfl ?_
    refine Qj ?_
    show CW _ _ _ _
    refine zw1 w2 ?_
    exact⟨hlt,zg0,rfl,trivial⟩
  ·have q3:=Qu hlt
   obtain rfl:k=(ros d).length:=by omega
   refine zw1 q3 ?_
   refine Qa rfl ?_
   refine Qj ?_
   exact⟨rfl,rfl⟩
 rintro e s' ⟨rfl,hh⟩
 show CW _ _ _ _
 refine Qi [] trivial ?_
 rw[hh]
 refine zw0 ?_
 refine zj Tryz.func13 ?_
 refine aliveK_fw.mono ?_
 rintro _ ha ⟨rfl,ea⟩
 obtain rfl:=ea.symm
 refine zw0 ?_
 refine Qd ?_
 exact⟨_,zf0,rfl⟩
end
end Go.Proofs.YtmdmimkbpikmoaaGreat
