/- Several texts, one behind the other. -/
import Derived.Test.YtmdmimkbpikmoaaGreatZFa
set_option linter.unusedSimpArgs false
set_option linter.unusedVariables false
set_option maxHeartbeats 8000000
namespace Go.Proofs.YtmdmimkbpikmoaaGreat
set_option maxRecDepth 20000
open Go.RowKit Am Ty
structure Sy (fid:Nat) (T:aT→Prop) (Cf:aT→List Bool→Bool):Prop where
 ok:∀ s m,Cf s m=true↔(s.nt<0→T s)∧(0≤s.nt→bit m s.nt=true)
 fn:∃ fn,Tryz.prog.funcs[fid]? = some fn∧(fn.name == "runtime.NumGoroutine")=false∧fn.body.isNone=false
 fw:∀ (h:ah) (s:aT) (mv:Value) (m:List Bool),kD h mv m→s.nt<m.length→FW env fid [.agg s.cells.toArray,mv] h fun r h'=>r = .bool (Cf s m)∧h'=h
theorem Ao {h:ah} {g:ca} {v:Value} {fid:Nat} {T:aT→Prop} {Cf:aT→List Bool→Bool} (hr:jQ h v g) (R:ee g) (hF:Sy fid T Cf) : FW env 62 [v,.func (.func fid) #[] #[]] h fun r h'=>∃ m,Marks g.cK (Iy T g.rules) m∧h <+: h'∧Ct h h' r m:=by{
obtain⟨u,rfl,hu⟩:=hr
obtain⟨p,c,rfl⟩:=hu.form
have hle:=hu.le
have n1:=R.n1
have n2:=R.n2
obtain⟨fn,hfn,hnm,hbd⟩:=hF.fn
obtain⟨N,hN⟩:∃ N:Nat,g.cK=N:=⟨g.cK.toNat,by omega⟩
have hN':g.cK.toNat=N:=by omega
refine fe Tryz.func62 ?_;simp only[push_cast]
refine aC ?_
refine Ef (N:=N) ak rfl ak hN om ?_
refine aC ?_
refine fp (fun m:List Bool=>m.count false) (fun m=>[(1,.val (.func (.func fid) #[] #[])),(2,.box [i64 g.cK,i64 g.start,.slice p g.rules.length c]),(5,.val (.slice (some ⟨h.length,0,some 0⟩) N N))])
 (fun m=>h++[.aA (m.map Value.bool) 0 true 4]) (fun m=>m.length=N∧∀ i,0≤i→bit m i=true→Iy T g.rules i) (List.replicate N false) aK rfl ⟨by simp,fun i _ hi=>by rw[wE] at hi;cases hi⟩ ?_
rintro m ⟨hm1,hm2⟩
have hu0:=hu.mono (h':=h++[.aA (m.map Value.bool) 0 true 4]) aH
have hgm:(h++[av.aA (m.map Value.bool) 0 true 4])[h.length]? = _:=aJ
refine aC ?_
refine cO g.rules.length (fun k=>[(1,.val (.func (.func fid) #[] #[])),(2,.box [i64 g.cK,i64 g.start,.slice p g.rules.length c]),(5,.val (.slice (some ⟨h.length,0,some 0⟩) N N)),(14,.val (.slice p g.rules.length c)),(15,.val (i64 g.rules.length)),(16,.val (i64 k))]) (fun _=>h++[.aA (m.map Value.bool) 0 true 4])
 (fun k=>∀ r∈g.rules.take k,bit m r.lhs=true∨∃ s∈r.rhs,Cf s m=false) aK rfl (by simp) ?_
intro k hk hI
by_cases hlt:k<g.rules.length
·obtain⟨id,ar,own,c',cells,p',n',c2,hv,hid,hn,hrd,hu'⟩:=hu0.at hlt
 cases hv
 have e0:=gZ hrd om
 have e0':=eK (j:=1) hrd om
 simp only[List.getElem?_cons_succ,List.getElem?_cons_zero] at e0 e0'
 have e1:=cg hlt
 have e2:=inc hlt hle
 have e3:=aS hlt
 have hmem:g.rules[k]∈_:=List.getElem_mem hlt
 have hn2:n'≤140737488355328:=by rw[hn];exact jI.le hu'
 obtain⟨l1,l2,l3,hS⟩:=R.r _ hmem
 have hb0:=oq (m:=m) l1 om
 have r1:(0≤g.rules[k].lhs∧g.rules[k].lhs<(N:Int))=True:=by simp;omega
 refine fi e1 hid hrd e3 ?_
 refine ae rfl ?_
 refine C6 e1 hid hrd r1 hgm Nat.mul_one hb0 ?_
 refine dF ak (fun b1=>?_) (fun b1=>?_)
 ·refine az ?_
  show CW _ _ _ _
  refine aG e2 ?_
  refine⟨hlt,aK,rfl,?_⟩
  intro r hr
  rw[List.take_succ_eq_append_getElem hlt,List.mem_append] at hr
  rcases hr with hr|hr
  ·exact hI r hr
  ·obtain rfl:r=_:=by simpa using hr
   exact .inl b1
 refine aC ?_
 refine cO n' (fun j=>[(1,.val (.func (.func fid) #[] #[])),(2,.box [i64 g.cK,i64 g.start,.slice (some ⟨id,0,some ar⟩) g.rules.length c]),(5,.val (.slice (some ⟨h.length,0,some 0⟩) N N)),(7,.box [i64 g.rules[k].lhs,.slice p' n' c2]),(14,.val (.slice (some ⟨id,0,some ar⟩) g.rules.length c)),(15,.val (i64 g.rules.length)),(16,.val (i64 k)),(26,.val (.slice p' n' c2)),(27,.val (i64 n')),(28,.val (i64 j))]) (fun _=>h++[.aA (m.map Value.bool) 0 true 4])
  (fun j=>∀ s∈g.rules[k].rhs.take j,Cf s m=true) aK rfl (by simp) ?_
 intro j hj hJ
 by_cases hjl:j<n'
 ·rw[hn] at hu' hj hjl hn2 ⊢
  obtain⟨id2,ver2,own2,c3,cells2,hv2,hid2,hrd2⟩:=hu'.at hjl
  cases hv2
  have e9:=cg hjl
  have e10:=inc hjl om
  have e11:=aS hjl
  have hmem2:g.rules[k].rhs[j]∈_:=List.getElem_mem hjl
  have hs2:=hS _ hmem2
  refine fi e9 hid2 hrd2 e11 ?_
  refine ae rfl ?_
  refine gV e9 hid2 hrd2 ?_
  refine rG (fn:=fn) ak rfl ak ak hfn hnm hbd ?_
  rw[List.append_nil]
  refine (hF.fw _ g.rules[k].rhs[j] _ m ⟨by omega,.inr ⟨h.length,0,true,N,by rw[hm1],hgm⟩⟩ om).mono ?_
  rintro _ _ ⟨rfl,rfl⟩
  refine aC ?_
  refine dF ak (fun b2=>?_) (fun b2=>?_)
  ·refine az ?_
   show CW _ _ _ _
   refine aG e2 ?_
   refine⟨hlt,aK,rfl,?_⟩
   intro r hr
   rw[List.take_succ_eq_append_getElem hlt,List.mem_append] at hr
   rcases hr with hr|hr
   ·exact hI r hr
   ·obtain rfl:r=_:=by simpa using hr
    exact .inr ⟨_,hmem2,by simpa using b2⟩
  ·refine aG e10 ?_
   refine⟨hjl,aK,rfl,?_⟩
   intro s hs
   rw[List.take_succ_eq_append_getElem hjl,List.mem_append] at hs
   rcases hs with hs|hs
   ·exact hJ s hs
   ·obtain rfl:s=_:=by simpa using hs
    simpa using b2
 ·have e11:=aP hjl
  obtain rfl:j=n':=by omega
  refine aG e11 ?_
  refine af rfl ?_
  refine az ?_
  show CW _ _ _ _
  refine aG r1 ?_
  refine bV ak rfl rfl ak (OD r1 Nat.mul_one) hgm rfl rfl (oV (x:=true) om) ?_
  refine aC ?_
  refine az ?_
  refine⟨m.set g.rules[k].lhs.toNat true,zW l1 om b1,aK,?_,by simp [hm1],?_⟩
  ·simp
  ·rw[hn,List.take_length] at hJ
   intro i hi hb
   rw[qT l1 om hi] at hb
   split at hb
   ·rename_i e
    subst e
    exact .mk _ hmem (fun s hs h0=>((hF.ok s m).1 (hJ s hs)).1 h0) (fun s hs h0=>hm2 _ h0 (((hF.ok s m).1 (hJ s hs)).2 h0))
   ·exact hm2 i hi hb
·have e3:=aP hlt
 obtain rfl:k=g.rules.length:=by omega
 refine aG e3 ?_
 refine af rfl ?_
 refine az ?_
 show CW _ _ _ _
 refine aC ?_
 refine ai ?_
 rw[List.take_length] at hI
 refine⟨_,ak,m,⟨by omega,fun i h0 h1=>⟨hm2 i h0,fun hD=>?_⟩⟩,aH,h.length,0,Nat.le_refl _,by rw[hm1];rfl,aJ⟩
 clear h1 h0
 induction hD with
 | mk r hr hT hD ih=>
   rcases hI r hr with h1|⟨s,hs,h1⟩
   ·exact h1
   ·have:=(hF.ok s m).2 ⟨hT s hs,fun h0=>ih s hs h0⟩
    rw[this] at h1
    cases h1}
def uP (s:aT) (m:List Bool):Bool:=decide (0≤s.nt)&&bit m s.nt
theorem AZ (h:ah) (s:aT) (mv:Value) (m:List Bool) (hm:kD h mv m) (hs:s.nt<m.length):FW env 63 [.agg s.cells.toArray,mv] h fun r h'=>r = .bool (uP s m)∧h'=h:=by{
obtain⟨p,c,rfl⟩:=hm.form
unfold aT.cells
refine fe Tryz.func63 ?_;simp only[push_cast]
refine aC ?_
by_cases h0:0≤s.nt
·obtain⟨id,ar,own,c',hv,hid⟩:=bT.at hm om
 cases hv
 have d0:=decide_eq_true h0
 have hb:=oq (m:=m) h0 hs
 have r1:(0≤s.nt∧s.nt<(m.length:Int))=True:=by simp;omega
 refine kL d0 r1 hid Nat.mul_one hb ?_
 refine ai ?_
 exact⟨_,ak,by simp [uP,cI,h0],rfl⟩
·have d0:=decide_eq_false h0
 refine aG d0 ?_
 refine ai ?_
 exact⟨_,ak,by simp [uP,cI,h0],rfl⟩}
def yo (_:aT):Prop:=False
theorem Es (s:aT) (m:List Bool):uP s m=true↔(s.nt<0→yo s)∧(0≤s.nt→bit m s.nt=true):=by{
unfold uP yo
by_cases h0:0≤s.nt
·have:¬ s.nt<0:=by omega
 simp [h0,this]
·have:s.nt<0:=by omega
 simp [h0,this]}
theorem IT:Sy 63 yo uP where
 ok:=Es
 fn:=⟨Tryz.f63,Tryz.func63,by kernel_rfl,by kernel_rfl⟩
 fw:=AZ
abbrev eI (g:ca):Int→Prop:=Iy yo g.rules
def Told (g:ca) (z:Value) (K:Value→ah→Prop) (r:Value) (h':ah):Prop:=∃ x,r = .tuple #[x,i64 (eT g)]∧((mN g∧x=z)∨(¬ mN g∧K x h'))
abbrev bX:Value:=.slice none 0 0
theorem qI {h:ah} {g:ca} {v:Value} (hr:jQ h v g):FW env 27 [v] h fun r h'=>Told g bX (fun x h'=>∃ m,Marks g.cK (eI g) m∧Ct h h' x m) r h'∧h <+: h':=by{
obtain⟨u,rfl,hu⟩:=id hr
obtain⟨p,c,rfl⟩:=hu.form
refine fe Tryz.func27 ?_;simp only[push_cast]
refine aC ?_
refine zj Tryz.func60 ?_
rw[List.append_nil]
refine (Hr hr).mono ?_
rintro _ h ⟨rfl,rfl⟩
by_cases hb:mN g
·have e0:eT g=3:=if_pos hb
 rw[e0]
 refine aC ?_
 refine ae rfl ?_
 refine aC ?_
 refine ai ?_
 exact⟨_,ak,⟨_,by rw[e0];rfl,.inl ⟨hb,rfl⟩⟩,List.prefix_refl _⟩
have e0:eT g=0:=if_neg hb
rw[e0]
refine aC ?_
refine af rfl ?_
refine aC ?_
refine zj Tryz.func62 ?_
rw[List.append_nil]
refine (Ao hr (Fb hb) IT).mono ?_
rintro r h' ⟨m,h1,h2,h3⟩
refine aC ?_
refine ai ?_
exact⟨_,ak,⟨_,by rw[e0];rfl,.inr ⟨hb,m,h1,h3⟩⟩,h2⟩}
def Edge (g:ca) (D:Int→Prop) (a b:Int):Prop:=∃ r∈g.rules,r.lhs=a∧∃ (k:Nat) (hk:k<r.rhs.length),0≤r.rhs[k].nt∧r.rhs[k].nt=b∧∀ (j:Nat) (hj:j<r.rhs.length),j≠k→nE D r.rhs[j]
inductive kB (E:Int→Int→Prop):Int→Int→Prop
 | one {a b:Int}:E a b→kB E a b
 | more {a b c:Int}:kB E a b→E b c→kB E a c
def At (E:Int→Int→Prop):Prop:=∃ x,kB E x x
section
variable {E:Int→Int→Prop} {S:Int→Prop}
theorem kB.trans {a b c:Int} (h:kB E a b) (k:kB E b c):kB E a c:=by{
induction k with
| one e=>exact .more h e
| more _ e ih=>exact .more ih e}
def Er (E:Int→Int→Prop) (S:Int→Prop):Prop:=∀ i,S i→(∀ j,E i j→S j)∧¬ kB E i i
theorem Er.add (h:Er E S) {n:Int} (hn:¬ S n) (hs:∀ j,E n j→S j):Er E fun i=>S i∨i=n:=by{
have key:∀ b,kB E n b→S b:=fun b hp=>by
 induction hp with
 | one e=>exact hs _ e
 | more _ e ih=>exact (h _ ih).1 _ e
rintro i (hi|rfl)
·exact⟨fun j e=>.inl ((h i hi).1 j e),(h i hi).2⟩
·exact⟨fun j e=>.inl (hs j e),fun hp=>hn (key _ hp)⟩}
theorem Er.congr {S':Int→Prop} (h:Er E S) (he:∀ i,S i↔S' i):Er E S':=fun i hi=>⟨fun j e=>(he j).1 ((h i ((he i).2 hi)).1 j e),(h i ((he i).2 hi)).2⟩
theorem kB.src {a b:Int} (h:kB E a b):∃ c,E a c:=by{
induction h with
| one e=>exact⟨_,e⟩
| more _ _ ih=>exact ih}
theorem Er.none (h:Er E S) (hs:∀ a b,E a b→S a):¬ At E:=by{
rintro⟨x,hp⟩
obtain⟨c,e⟩:=hp.src
exact (h x (hs x c e)).2 hp}
end
theorem rZ {g:ca} {D:Int→Prop} (R:ee g) {a b:Int} (h:Edge g D a b):(0≤a∧a<g.cK)∧0≤b∧b<g.cK:=by{
obtain⟨r,hr,rfl,k,hk,h0,rfl,_⟩:=h
obtain⟨l1,l2,_,hS⟩:=R.r r hr
exact⟨⟨l1,l2⟩,h0,(hS _ (List.getElem_mem hk)).2.1⟩}
def dV (m:List Bool) (s:aT):Bool:=decide (0≤s.nt)&&bit m s.nt
def eQ (m:List Bool) (l:List aT):Nat:=l.countP fun s=>!dV m s
theorem Dx {m:List Bool} {l:List aT} {j:Nat} (h:j<l.length):eQ m (l.take (j+1))=eQ m (l.take j)+if dV m l[j] then 0 else 1:=by{
unfold eQ
rw[List.take_succ_eq_append_getElem h,List.countP_append]
cases hb:dV m l[j]<;>simp [hb]}
theorem J6 {m:List Bool} {l:List aT}:eQ m l≤l.length:=List.countP_le_length
theorem sG {m:List Bool}:∀ {l:List aT} {k:Nat} (hk:k<l.length),(eQ m l=0∨(eQ m l=1∧dV m l[k]=false))↔∀ (j:Nat) (hj:j<l.length),j≠k→dV m l[j]=true
 | s :: l,0,_=>by
   simp only[eQ,List.countP_cons,List.getElem_cons_zero]
   have e:(∀ (j:Nat) (hj:j<(s :: l).length),j≠0→dV m (s :: l)[j]=true)↔l.countP (fun s=>!dV m s)=0:=by
    rw[List.countP_eq_zero]
    constructor
    ·intro h x hx
     obtain⟨i,hi,rfl⟩:=List.mem_iff_getElem.1 hx
     have:=h (i+1) (by simpa using hi) om
     simpa using this
    ·intro h j hj h0
     obtain⟨i,rfl⟩:∃ i,j=i+1:=⟨j-1,by omega⟩
     have:=h (l[i]'(by simpa using hj)) (List.getElem_mem (by simpa using hj))
     simpa using this
   rw[e]
   cases hb:dV m s<;>simp<;>omega
 | s :: l,k+1,hk=>by
   have ih:=sG (m:=m) (l:=l) (k:=k) (by simpa using hk)
   simp only[eQ] at ih
   simp only[eQ,List.countP_cons,List.getElem_cons_succ]
   have e:(∀ (j:Nat) (hj:j<(s :: l).length),j≠k+1→dV m (s :: l)[j]=true)↔dV m s=true∧∀ (j:Nat) (hj:j<l.length),j≠k→dV m l[j]=true:=by
    constructor
    ·intro h
     exact⟨h 0 (by simp) om,fun j hj h0=>by have:=h (j+1) (by simpa using hj) om;simpa using this⟩
    ·rintro⟨h1,h2⟩ j hj h0
     cases j with
     | zero=>exact h1
     | succ j=>simpa using h2 j (by simpa using hj) om
   rw[e,← ih]
   cases hb:dV m s with
   | true=>simp
   | false=>
     simp only[Bool.not_false,if_true,Bool.false_eq_true,false_and,iff_false]
     rintro (h|⟨h,h2⟩)
     ·omega
     ·have h3:l.countP (fun s=>!dV m s)=0:=by omega
      rw[List.countP_eq_zero] at h3
      have:=h3 (l[k]'(by simpa using hk)) (List.getElem_mem (by simpa using hk))
      simp [h2] at this
theorem vi {g:ca} {m:List Bool} (hm:Marks g.cK (eI g) m) {s:aT} (hs:s.nt<g.cK):dV m s=true↔nE (eI g) s:=by{
unfold dV nE
rw[Bool.and_eq_true,decide_eq_true_eq]
constructor
·rintro⟨h0,h1⟩
 exact⟨h0,(hm.2 _ h0 hs).1 h1⟩
·rintro⟨h0,h1⟩
 exact⟨h0,(hm.2 _ h0 hs).2 h1⟩}
theorem FC {α:Type} {l:List α} {k:Nat} {P:α→Prop} (hk:k<l.length):(∃ r∈l.take (k+1),P r)↔(∃ r∈l.take k,P r)∨P l[k]:=by{
rw[List.take_succ_eq_append_getElem hk]
constructor
·rintro⟨r,hr,h⟩
 rw[List.mem_append] at hr
 rcases hr with hr|hr
 ·exact .inl ⟨r,hr,h⟩
 ·obtain rfl:r=_:=by simpa using hr
  exact .inr h
·rintro (⟨r,hr,h⟩ | h)
 ·exact⟨r,List.mem_append_left _ hr,h⟩
 ·exact⟨_,List.mem_append_right _ (by simp),h⟩}
theorem Ay {i:Int} {N:Nat} (h0:0≤i) (h1:i<N):(0≤i∧i<(N:Int))=True:=by simp;omega
end Go.Proofs.YtmdmimkbpikmoaaGreat
