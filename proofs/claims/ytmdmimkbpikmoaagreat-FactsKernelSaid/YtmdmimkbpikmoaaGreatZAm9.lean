/- Several texts, one behind the other. -/
import Derived.Test.YtmdmimkbpikmoaaGreatZAm0
set_option linter.unusedSimpArgs false
set_option linter.unusedVariables false
set_option maxHeartbeats 8000000
namespace Go.Proofs.YtmdmimkbpikmoaaGreat.Am
open Go.RowKit
def AX.lq:AX→Exit
 | .normal=>.normal
 | .exit id=>.exit id
 | .ret=>.ret
def Wa (N:Env):Gh→Prop
 | .code c s e s'=>∀ (B:Bs) (n:Nat) (μ:Mu) (β:Nat→Nat) (a:Act) (w:World),cb N B n μ β s a w→ef n c=true →
  ∀ Q:Exit→Act→World→Prop,(∀ μ' β' a' w',cb N B n μ' β' s' a' w'→Q e.lq a' w')→c.wp N.P Q a w
 | .hZ c s Q0=>∀ (B:Bs) (n:Nat) (μ:Mu) (β:Nat→Nat) (a:Act) (w:World),cb N B n μ β s a w→ef n c=true →
  ∀ Q:Exit→Act→World→Prop,(∀ e s' μ' β' a' w',Q0 e s'→cb N B n μ' β' s' a' w'→Q e.lq a' w')→c.wp N.P Q a w
 | .iter c s e s'=>∃ k,∀ (B:Bs) (n:Nat) (μ:Mu) (β:Nat→Nat) (a:Act) (w:World),cb N B n μ β s a w→ef n c=true →
  ∀ Q:Exit→Act→World→Prop,(∀ μ' β' a' w',cb N B n μ' β' s' a' w'→Q e.lq a' w')→Code.rounds N.P c Q k a w
 | .ops all l s s'=>∀ (B:Bs) (n:Nat) (μ:Mu) (β:Nat→Nat) (a:Act) (w:World),cb N B n μ β s a w→iP n l=true →
  ∀ Q:Exit→Act→World→Prop,(∀ μ' β' a' w',cb N B n μ' β' s' a' w'→Q .normal a' w')→wpList N.P all Q l a w
 | .call f args h r h'=>qW N f args h r h'
section
variable {N:Env} {B:Bs} {n:Nat} {μ μ':Mu} {β:Nat→Nat} {s:St} {a:Act} {w w':World}
theorem bR {o:Oper} {l:List Oper} (h:iP n (o :: l)=true):(∀ d,o.dst=some d→d<n)∧iP n l=true:=by{
unfold iP at h ⊢
rw[List.all_cons,Bool.and_eq_true] at h
refine⟨fun d hd=>?_,h.2⟩
have:=h.1
rw[hd] at this
simpa using this}
theorem AX.oa {e:AX} {id:Nat} {Q:Exit→Act→World→Prop} (h:Q (e.inBlock id).lq a w):Exit.inBlock id Q e.lq a w:=by{
cases e with
| normal=>exact h
| ret=>exact h
| exit id'=>
  simp only[AX.inBlock] at h
  simp only[AX.lq,Exit.inBlock]
  split
  ·rename_i e
   rw[if_pos e] at h
   exact h
  ·rename_i e
   rw[if_neg e] at h
   exact h}
theorem AX.nC {e:AX} {K:Act→World→Prop} {Q:Exit→Act→World→Prop} (he:e≠.normal) (h:Q e.lq a w):Exit.then K Q e.lq a w:=by{
cases e with
| normal=>exact absurd rfl he
| ret=>exact h
| exit id'=>exact h}
theorem pG.get {f0 f:Fr} (h:pG f0 f) (t:Nat):aW f0 t = .dH∨aW f0 t=aW f t:=by{
have key:∀ (l:Fr),(∀ p∈l,p∈f0)→aW l t = .dH∨(t,aW l t)∈f0:=by
 intro l
 induction l with
 | nil=>exact fun _=>.inl rfl
 | cons p r ih=>
   intro hl
   obtain⟨k,v⟩:=p
   simp only[aW]
   split
   ·rename_i e
    subst e
    exact .inr (hl _ List.mem_cons_self)
   ·exact ih fun q hq=>hl q (List.mem_cons_of_mem _ hq)
rcases key f0 fun p hp=>hp with h' | h'
·exact .inl h'
·exact .inr (h _ h').symm}
theorem cb.ss (R:cb N B n μ β s a w) {s0:St} (hf:pG s0.fr s.fr) (hh:s0.h=s.h) (he:s0.eH=[]):cb N B n μ β s0 a w:=by{
have hp:∀ t,dZ (aW s0.fr t)=true→dZ (aW s.fr t)=true:=fun t ht=>by
 rcases hf.get t with h|h
 ·rw[h] at ht
  simp [dZ] at ht
 ·rw[← h]
  exact ht
refine⟨R.defers,R.size,?_,?_,?_,hh▸R.heap,R.fr,R.ext,hh▸R.own,hh▸R.eF,fun t ht=>R.jo t (hp t ht),fun t t' ht ht'=>R.nz t t' (hp t ht) (hp t' ht'),fun t ht=>hh▸R.eN t (hp t ht)⟩
·intro t ht
 rcases hf.get t with h|h
 ·rw[h]
  trivial
 ·rw[h]
  exact R.slot t ht
·intro t ht
 rcases hf.get t with h|h
 ·exact h
 ·rw[h]
  exact R.hi t ht
·intro t g sl off hm
 rw[he] at hm
 cases hm}
theorem mg (l:List Value) (k t:Nat):aW ((l.zipIdx k).map fun p=>(p.2,gu.val p.1)) t=if h:k≤t∧t-k<l.length then .val (l[t-k]'h.2) else .dH:=by{
induction l generalizing k with
| nil=>simp [aW]
| cons v l ih=>
  rw[List.zipIdx_cons,List.map_cons]
  simp only[aW,ih]
  by_cases h:k=t
  ·subst h
   simp
  ·rw[if_neg h]
   by_cases h1:k+1≤t∧t-(k+1)<l.length
   ·rw[dif_pos h1,dif_pos ⟨by omega,by simp only[List.length_cons];omega⟩]
    have e:t-k=(t-(k+1))+1:=by omega
    simp [e]
   ·rw[dif_neg h1,dif_neg]
    simp only[List.length_cons]
    omega}
def Gk (tmps:Array Value):ResultVar→Sem Value
 | .tmp t=>pure (tmps.getD t undef)
 | .cell b t=>do loadVar t (← asAddr (tmps.getD b undef))
theorem mJ (R:cb N B n μ β s a w):∀ {l:List ResultVar} {vs:List Value},tx N s l=some vs→∃ vs',(l.mapM (Gk a.tmps)).run N.P w = .ok vs' w∧dE N.P μ vs vs'
 | [],vs,h=>by
   simp only[tx] at h
   cases h
   exact⟨[],by simp,trivial⟩
 | .tmp t :: r,vs,h=>by
   simp only[tx] at h
   split at h
   ·rename_i v l hv hl
    cases h
    obtain⟨vs',k1,k2⟩:=mJ R hl
    exact⟨a.tmps.getD t undef :: vs',by simp only[List.mapM_cons,Sem.run_bind,Gk,Sem.run_pure,Result.andThen_ok,k1],aI R hv,k2⟩
   ·cases h
 | .cell b t :: r,vs,h=>by
   simp only[tx] at h
   split at h
   ·rename_i v l hv hl
    cases h
    obtain⟨vs',k1,k2⟩:=mJ R hl
    obtain⟨v',q1,q2⟩:=yb R hv
    have hq:∃ ad,a.tmps.getD b undef = .pointer (some ad)∧(loadVar t ad).run N.P w = .ok v' w:=by
     simp only[Act.eval] at q1
     generalize a.tmps.getD b undef=u at q1
     cases u with
     | pointer p=>
       cases p with
       | none=>simp [Instr.loadAt,Instr.sureAddr] at q1
       | some ad=>exact⟨ad,rfl,by simpa [Instr.loadAt,Instr.sureAddr] using q1⟩
     | _=>simp [Instr.loadAt,Instr.sureAddr] at q1
    obtain⟨ad,e1,e2⟩:=hq
    exact⟨v' :: vs',by simp only[List.mapM_cons,Sem.run_bind,Gk,e1,asAddr,Sem.run_pure,Result.andThen_ok,e2,k1],q2,k2⟩
   ·cases h
theorem CC (R:cb N B n μ β s a w) {fn:Func} {vs:List Value} (h:tx N s fn.results.toList=some vs):∃ v',(results fn a.tmps).run N.P w = .ok v' w∧VR N.P μ (cI vs) v':=by{
obtain⟨vs',k1,k2⟩:=mJ R h
refine⟨cI vs',?_,?_⟩
·have e:results fn a.tmps=(do let vs ← fn.results.mapM (Gk a.tmps);pure (if h:vs.size=1 then vs[0] else .tuple vs)):=by
  unfold results
  have e2:(fun (x:ResultVar)=>(match x with | .tmp t=>pure (a.tmps.getD t undef) | .cell b t=>do loadVar t (← asAddr (a.tmps.getD b undef)):Sem Value))=Gk a.tmps:=by
   funext x
   cases x<;>rfl
  rw[← e2]
  rfl
 rw[e,Array.mapM_eq_mapM_toList,Sem.run_bind,Sem.run_map,k1]
 simp only[Result.andThen_ok,Sem.run_pure]
 congr 1
 match vs' with
 | []=>simp [cI]
 | [v]=>simp [cI]
 | v :: u :: r=>simp [cI]
·match vs,vs',k2 with
 | [],[],_=>exact dE.En (l:=[]) (l':=[]) trivial
 | [v],[v'],⟨h,_⟩=>exact h
 | _ :: _ :: _,_ :: _ :: _,k=>exact k.En}
theorem VR.cut {P:Program} {k:Nat} {v u v':Value} (hx:VR P μ' v v') (h:VR P μ v u) (hk:μ.length≤k):VR P (μ'.take k) v v':=by{
have hat:∀ {id ar:Nat} {m m0:M},fQ μ id ar=some m0→fQ μ' id ar=some m→fQ (μ'.take k) id ar=some m:=by
 intro id ar m m0 h0 h1
 have hlt:id<k:=by
  refine Nat.lt_of_lt_of_le ?_ hk
  rcases Nat.lt_or_ge id μ.length with h' | h'
  ·exact h'
  ·simp [fQ,List.getElem?_eq_none h'] at h0
 unfold fQ at h1 ⊢
 rw[List.getElem?_take_of_lt hlt]
 exact h1
induction hx generalizing u with
| pure hp=>exact .pure hp
| ptr h1=>
  obtain⟨_,_,_,_,e,h0,_⟩:=h.jJ
  cases e
  exact .ptr (hat h0 h1)
| slice h1 a b c=>
  obtain⟨_,_,_,_,_,_,e,h0,_⟩:=h.oC (by simp)
  cases e
  exact .slice (hat h0 h1) a b c
| fz h1 a=>
  obtain⟨_,_,_,_,_,_,e,h0,_⟩:=h.oC (by simp)
  cases e
  exact .fz (hat h0 h1) a
| fA=>exact .fA
| map h1=>
  obtain⟨m0,h0,_⟩:=pe h
  exact .map (hat h0 h1)
| agg hs _ ih=>
  obtain⟨cs',rfl,hl⟩:=h.mU
  refine .agg hs fun i v v' e e'=>?_
  obtain⟨q,_,hq⟩:=hl.get (i:=i) (v:=v) (by simpa using e)
  exact ih i v v' e e' hq
| tuple hs _ ih=>
  obtain⟨cs',rfl,hl⟩:=h.oc
  refine .tuple hs fun i v v' e e'=>?_
  obtain⟨q,_,hq⟩:=hl.get (i:=i) (v:=v) (by simpa using e)
  exact ih i v v' e e' hq
| func hs _ ih=>
  obtain⟨g,b',hg,_,rfl,hl⟩:=h.vV
  refine .func hs fun i v v' e e'=>?_
  obtain⟨q,_,hq⟩:=hl.get (i:=i) (v:=v) (by simpa using e)
  exact ih i v v' e e' hq}
theorem iz.cut {P:Program} {k:Nat} (hk:μ.length≤k):∀ {es:List (Value×Value)} {q q0:List MapEntry},iz P μ' es q→iz P μ es q0→iz P (μ'.take k) es q
 | [],[],_,_,_=>trivial
 | (_,_) :: _,_ :: _,_ :: _,⟨h1,h2,h3⟩,⟨_,k2,k3⟩=>⟨h1,h2.cut k2 hk,iz.cut hk h3 k3⟩
 | [],_ :: _,_,h,_=>h.elim
 | (_,_) :: _,[],_,h,_=>h.elim
 | (_,_) :: _,_ :: _,[],_,h=>h.elim
theorem VR.OK {P:Program} {k:Nat} {v v':Value} (hs:dv k v) (hx:VR P μ v v'):VR P (μ.take k) v v':=by{
have hat:∀ {id ar:Nat} {m:M},id<k→fQ μ id ar=some m→fQ (μ.take k) id ar=some m:=by
 intro id ar m hlt h1
 unfold fQ at h1 ⊢
 rw[List.getElem?_take_of_lt hlt]
 exact h1
induction hx with
| pure h=>exact .pure h
| ptr h1=>cases hs with
  | be h=>simp [Am.be] at h
  | ptr h=>exact .ptr (hat h h1)
| slice h1 a b c=>cases hs with
  | be h=>simp [Am.be] at h
  | slice h=>exact .slice (hat h h1) a b c
| fz h1 a=>cases hs with
  | be h=>simp [Am.be] at h
  | slice h=>exact .fz (hat h h1) a
| fA=>exact .fA
| map h1=>cases hs with
  | be h=>simp [Am.be] at h
  | map h=>exact .map (hat h h1)
| agg hz _ ih=>cases hs with
  | be h=>simp [Am.be] at h
  | agg h=>exact .agg hz fun i v v' e e'=>ih i v v' e e' (h i v e)
| tuple hz _ ih=>cases hs with
  | be h=>simp [Am.be] at h
  | En h=>exact .tuple hz fun i v v' e e'=>ih i v v' e e' (h i v e)
| func hz _ ih=>cases hs with
  | be h=>simp [Am.be] at h}
theorem eU.take {k:Nat} (h:eU μ μ') (hk:μ.length≤k):eU μ (μ'.take k):=fun id l hl=>by
 obtain⟨l',h'⟩:=h id l hl
 have hlt:id<k:=by
  refine Nat.lt_of_lt_of_le ?_ hk
  rcases Nat.lt_or_ge id μ.length with h' | h'
  ·exact h'
  ·simp [List.getElem?_eq_none h'] at hl
 exact⟨l',by rw[List.getElem?_take_of_lt hlt];exact h'⟩
theorem cb.wv (R:cb N B n μ β s a w) {d:Nat} {ks:List Key} {v v':Value} (hd:d<n) (hS:if fc ks=true then VR N.P μ v v' else v'=undef):∃ β',cb N B n μ β' (s.put d (.Cc ks v)) (a.put (some d) v') w:=
 ⟨_,R.Cb (h':=s.h) (b:=0) hd (eU.refl _) R.heap R.fr R.own R.eF (Nat.le_refl _) (fun _ _=>rfl) R.eN hS (fun h=>by simp [dZ] at h)⟩
theorem vH {ks:List Key} {sl:Nat} {cs:List Value} (h:aW (s.sL ks).fr sl = .box cs):∃ cs,aW s.fr sl = .box cs:=by{
simp only[St.sL,iN] at h
generalize aW s.fr sl=q at h
cases q with
| box c=>exact⟨c,rfl⟩
| Cc k v=>
  simp only[zF] at h
  split at h<;>cases h
| val v=>cases h
| mx c m=>cases h
| Eo o m=>cases h
| nn i m l=>cases h
| xf l m=>cases h
| dH=>cases h}
theorem rj (R:cb N B n μ β s a w) {x:Operand} {ks:List Key} {sl off:Nat} (h:pF (s.sL ks) x=some (sl,off)):∃ cs,aW s.fr sl = .box cs:=by{
cases x with
| tmp t=>
  simp only[pF] at h
  split at h
  ·rename_i p hp
   obtain rfl:p=(sl,off):=by simpa using h
   obtain⟨g0,h1,_⟩:=vX ks (lJ hp)
   exact (R.eH _ _ _ _ h1).2.2
  ·cases h
  ·split at h
   ·rename_i cs hb
    obtain⟨rfl,rfl⟩:t=sl∧0=off:=by simpa using h
    exact vH hb
   ·cases h
| const c=>simp [pF] at h
| func f=>simp [pF] at h
| global g=>simp [pF] at h}
theorem cb.Bp (R:cb N B n μ β s a w) {o:Op} {ks:List Key} {sl off:Nat} (h:xx N (s.sL ks) o=some (sl,off)):∃ cs,aW s.fr sl = .box cs:=by{
unfold xx at h
split at h
·split at h
 ·rename_i o' ft sl' off' hf hp
  cases h
  exact rj R hp
 ·cases h
·split at h
 ·rename_i m e sl' off' k q hu hp hi
  split at h
  ·split at h
   ·cases h
    exact rj R hp
   ·cases h
  ·cases h
 ·cases h
·exact rj R h
·exact rj R h
·cases h}
theorem cb.drew (R:cb N B n μ β s a w):cb N B n μ β s a { w with drawn:=w.drawn+1 }:=
 ⟨R.defers,R.size,fun t ht=>(R.slot t ht).mono (eU.refl _) fun _=>rfl,R.hi,R.eH,R.heap.world (Nat.le_refl _) fun _ _=>rfl,⟨R.fr.os,R.fr.tape,R.fr.output,R.fr.size,R.fr.block⟩,R.ext,R.own,R.eF,R.jo,R.nz,R.eN⟩
theorem cb.Bx (R:cb N B n μ β s a w) {d sl off:Nat} (hd:d<n) (hb:∃ cs,aW s.fr sl = .box cs) (hne:sl≠d) :
 ∃ β',cb N B n μ β' { s with fr:=fP s.fr d .dH,eH:=(d,([],(sl,off))) :: eX s.eH d } (a.put (some d) (.pointer (some ⟨β sl,off,none⟩))) w:=
 R.sc hd hb hne (by rw[if_pos (show fc []=true from rfl)])
theorem fB (hN:mC N) {all:Array Oper} {K:Act→Prop} {s1:St}:∀ {l:List Oper} {s:St} {β:Nat→Nat} {a:Act},oz N all l s s1→cb N B n μ β s a w→iP n l=true →
 (∀ β' a',cb N B n μ β' s1 a' w→K a')→wpStill N.P all w K l a
 | [],_,_,_,.nil _,R,_,hK=>wpStill_nil (hK _ _ R)
 | _ :: _,_,_,_,.skip hw hq,R,hd,hK=>by
   obtain⟨hd1,hd2⟩:=bR hd
   obtain⟨β',R'⟩:=R.val hd1 VR.undef
   refine wpStill_step fun K' hK'=>?_
   rw[if_neg (by rw[aN R hw];simp)]
   exact hK' _ (fB hN hq R' hd2 hK)
 | o :: _,_,_,_,.val hw hv hq,R,hd,hK=>by
   obtain⟨hd1,hd2⟩:=bR hd
   obtain⟨v',h1,h2⟩:=l9 hN R hv
   obtain⟨β',R'⟩:=R.val hd1 h2
   refine wpStill_step fun K' hK'=>?_
   rw[if_pos (aN R hw)]
   unfold Oper.still
   rw[h1,Oper.stillUpon_value]
   exact hK' _ (fB hN hq R' hd2 hK)
 | o :: _,_,_,_,.eH hw hd he hne hq,R,hds,hK=>by
   obtain⟨hd1,hd2⟩:=bR hds
   obtain⟨h1,hb⟩:=mi R he
   obtain⟨β',R'⟩:=R.Bx (hd1 _ hd) hb hne
   refine wpStill_step fun K' hK'=>?_
   rw[if_pos (aN R hw)]
   unfold Oper.still
   rw[h1,Oper.stillUpon_value,hd]
   exact hK' _ (fB hN hq R' hd2 hK)
 | o :: _,_,_,_,.spec (ks:=ks) hg hv hd hq,R,hds,hK=>by
   obtain⟨hd1,hd2⟩:=bR hds
   have hw:=jE R hg
   refine wpStill_step fun K' hK'=>?_
   by_cases hc:fc ks=true
   ·obtain⟨v',h1,h2⟩:=l9 hN (R.sL hc) hv
    obtain⟨β',R'⟩:=R.wv (hd1 _ hd) (v':=v') (by rw[if_pos hc];exact h2)
    rw[if_pos (by rw[hw];exact hc)]
    unfold Oper.still
    rw[h1,Oper.stillUpon_value,hd]
    exact hK' _ (fB hN hq R' hd2 hK)
   ·obtain⟨β',R'⟩:=R.wv (hd1 _ hd) (ks:=ks) (v':=undef) (by rw[if_neg hc])
    rw[if_neg (by rw[hw];exact hc),hd]
    exact hK' _ (fB hN hq R' hd2 hK)
 | o :: _,_,_,_,.KQ (ks:=ks) (sl:=sl) (off:=off) hg he hd hne hq,R,hds,hK=>by
   obtain⟨hd1,hd2⟩:=bR hds
   have hw:=jE R hg
   refine wpStill_step fun K' hK'=>?_
   by_cases hc:fc ks=true
   ·obtain⟨h1,cs,hb⟩:=mi (R.sL hc) he
    obtain⟨β',R'⟩:=R.sc (ks:=ks) (off:=off) (v':=.pointer (some ⟨_,off,none⟩)) (hd1 _ hd) (vH hb) hne (by rw[if_pos hc])
    rw[if_pos (by rw[hw];exact hc)]
    unfold Oper.still
    rw[h1,Oper.stillUpon_value,hd]
    exact hK' _ (fB hN hq R' hd2 hK)
   ·obtain⟨β',R'⟩:=R.sc (ks:=ks) (sl:=sl) (off:=off) (v':=undef) (hd1 _ hd) (R.Bp he) hne (by rw[if_neg hc])
    rw[if_neg (by rw[hw];exact hc),hd]
    exact hK' _ (fB hN hq R' hd2 hK)
theorem VR.Fi {P:Program} {p:Option Addr} {k c:Nat} {v':Value} (h:VR P μ (.slice p k c) v'):∃ p' cap,v' = .slice p' k cap∧k≤cap:=by{
cases p with
| none=>
  cases h with
  | pure h=>
    cases k<;>cases c<;>simp [be] at h
    exact⟨_,_,rfl,Nat.le_refl _⟩
| some ad=>
  obtain⟨_,cap,he,hlc⟩:=h.KI
  exact⟨_,cap,he,hlc⟩}
theorem xb {P:Program} {w:World} {t e ty:TypeId} {ti:TI} (hu:P.underlying t=some (.slice e)) (ht:aq P e=some ti) {base q:Option Addr} {n cap c:Nat} (hc:n≤cap) :
 (Builtin.append_ #[t,t] ty #[.slice base n cap,.slice q 0 c]).run P w = .ok (.slice base n cap) w:=by
 obtain⟨i,d,hi,hd,rfl⟩:=bY ht
 cases base<;>cases q<;>simp [Builtin.append_,run_underlying hu,bW hi,Builtin.lenOf,Builtin.firstCells,hc,storeCells,loadCells,loadCellsFrom]
theorem G6 {P:Program} {o:Oper} {a:Act} {w:World} {K K':Act→World→Prop} {Q Q':Exit→Act→World→Prop} (h:∀ a w,K a w→K' a w) (hq:∀ e a w,e≠.normal→Q e a w→Q' e a w) (hh:o.wp P a w K Q):o.wp P a w K' Q':=by{
unfold Oper.wp at *
generalize (execOp a.eval o).run P w=r at *
cases r with
| ok n w'=>
  cases n<;>simp only[Oper.upon] at hh ⊢ <;>
   first
    | exact h _ _ hh
    | exact Calls.mono hh (fun e w'' he=>by
     cases e<;>first
      | exact h _ _ he
      | exact hq _ _ _ (by simp) he
      | (obtain⟨a0,w0,he⟩:=he;exact⟨a0,w0,hq _ _ _ (by simp) he⟩))
    | exact Rows.mono hh (fun _ _ he=>h _ _ he)
| halt x w'=>cases x<;>simp only[Oper.upon] at hh ⊢<;>first|exact hh|exact hq _ _ _ (by simp) hh|(obtain⟨a0,w0,he⟩:=hh;exact⟨a0,w0,hq _ _ _ (by simp) he⟩)}
theorem vI {P:Program} {ops:Array Oper} {o:Oper} {i:Nat} {a:Act} {w:World} {K:Act→World→Prop} {Q Q':Exit→Act→World→Prop} (ho:ops[i]? = some o) (h:∀ a w,Q' .normal a w→K a w) (hq:∀ e a w,e≠.normal→Q' e a w→Q e a w) (hh:wpList P ops Q' [o] a w):wpOp P ops Q i K a w:=by{
unfold wpOp
rw[ho]
simp only
unfold wpList at hh
split
·rename_i hw
 rw[if_pos hw] at hh
 rcases hh with hh|⟨h1,a0,w0,h2⟩
 ·exact .inl (G6 (fun a w hk=>h a w (by simpa only[wpList] using hk)) hq hh)
 ·exact .inr ⟨h1,a0,w0,hq _ _ _ (by simp) h2⟩
·rename_i hw
 rw[if_neg hw] at hh
 exact h _ _ (by simpa only[wpList] using hh)}
theorem yQ {l:List Oper} (k:Nat) (h:iP n l=true):iP n (l.take k)=true∧iP n (l.drop k)=true:=by{
unfold iP at h ⊢
rw[List.all_eq_true] at h
exact⟨List.all_eq_true.2 fun x hx=>h x (List.mem_of_mem_take hx),List.all_eq_true.2 fun x hx=>h x (List.mem_of_mem_drop hx)⟩}
theorem VR.SE {P:Program} {k:Nat}:∀ {es:List (Value×Value)} {q:List MapEntry},(∀ p∈es,dv k p.2)→iz P μ es q→iz P (μ.take k) es q
 | [],[],_,_=>trivial
 | (_,_) :: _,_ :: _,hs,⟨h1,h2,h3⟩=>⟨h1,h2.OK (hs _ List.mem_cons_self),VR.SE (fun p hp=>hs p (List.mem_cons_of_mem _ hp)) h3⟩
 | [],_ :: _,_,h=>h.elim
 | (_,_) :: _,[],_,h=>h.elim
theorem iz.kj {P:Program}:∀ {es:List (Value×Value)} {q:List MapEntry} {i:Nat} {e:MapEntry},iz P μ es q→q[i]? = some e→∃ k v,es[i]? = some (k,v)∧e.key=k∧VR P μ v e.val
 | [],[],_,_,_,h=>by simp at h
 | (k,v) :: _,e :: _,0,_,⟨h1,h2,_⟩,h=>by
   simp only[List.getElem?_cons_zero,Option.some.injEq] at h
   subst h
   exact⟨k,v,rfl,h1,h2⟩
 | (_,_) :: _,_ :: _,i+1,_,⟨_,_,h3⟩,h=>by
   simp only[List.getElem?_cons_succ] at h ⊢
   exact iz.kj h3 h
 | [],_ :: _,_,_,h,_=>h.elim
 | (_,_) :: _,[],_,_,h,_=>h.elim
theorem yA {f:FuncId} {args:List Value} {h h1 g:ah} {r:Value} (ih:qW N f args h r (h1++g)) (hs:dv h1.length r) (hle:h.length≤h1.length) (hg:∀ (i:Nat) (o:av),h1[i]? = some o→h[i]? = some o∨Rf h1.length o):qW N f args h r h1:=by{
intro μ w args' hH hA
refine (ih μ w args' hH hA).mono ?_
rintro e w' ⟨μ',r',rfl,hv,hH',hx,hF,hO,hK⟩
have hlen:μ.length≤h1.length:=by rw[hH.len];exact hle
have hget:∀ {i:Nat} {o:av},h1[i]? = some o→i<h1.length∧(h1++g)[i]? = some o:=fun {i o} hi=>by
 have hlt:i<h1.length:=(List.getElem?_eq_some_iff.1 hi).1
 exact⟨hlt,by rw[List.getElem?_append_left hlt];exact hi⟩
have hmt:∀ {i v:Nat},i<h1.length→fQ (μ'.take h1.length) i v=fQ μ' i v:=fun {i v} hi=>by
 unfold fQ
 rw[List.getElem?_take_of_lt hi]
refine⟨μ'.take h1.length,r',rfl,hv.OK hs,?_,hx.take hlen,hF,?_,?_⟩
·refine⟨?_,?_,?_⟩
 ·rw[List.length_take,hH'.len,List.length_append]
  omega
 ·intro id o ho
  obtain⟨hlt,ho'⟩:=hget ho
  obtain⟨m,hm⟩:=hH'.ob _ _ ho'
  refine⟨m,?_⟩
  cases o with
  | aA cells ar own et=>
    have hm:lk N.P μ' w' id cells ar own et m:=hm
    refine⟨?_,hm.ez,?_,hm.one,hm.eF,hm.own⟩
    ·obtain⟨l,g1,g2,g3⟩:=hm.qN
     exact⟨l,by rw[List.getElem?_take_of_lt hlt];exact g1,g2,g3⟩
    ·intro j v hj
     obtain⟨v',k1,k2⟩:=hm.cell j v hj
     rcases hg _ _ ho with h0|h0
     ·obtain⟨m0,hm0⟩:=hH.ob _ _ h0
      have hm0:lk N.P μ w id cells ar own et m0:=hm0
      obtain⟨v0,_,k3⟩:=hm0.cell j v hj
      exact⟨v',k1,k2.cut k3 hlen⟩
     ·exact⟨v',k1,k2.OK (h0 v (List.mem_of_getElem? hj))⟩
  | map es=>
    have hm:lj N.P μ' w' id es m:=hm
    obtain⟨en,cl,e1,e2,e4⟩:=hm.yG
    refine⟨by rw[List.getElem?_take_of_lt hlt];exact hm.qN,hm.eF,en,cl,e1,?_,e4⟩
    rcases hg _ _ ho with h0|h0
    ·obtain⟨m0,hm0⟩:=hH.ob _ _ h0
     have hm0:lj N.P μ w id es m0:=hm0
     obtain⟨en0,cl0,_,e3,_⟩:=hm0.yG
     exact e2.cut hlen e3
    ·exact VR.SE h0 e2
 ·intro i1 i2 o1 o2 m1 m2 hne h1' h2 ho k1 k2
  obtain⟨l1,g1⟩:=hget h1'
  obtain⟨l2,g2⟩:=hget h2
  rw[hmt l1] at k1
  rw[hmt l2] at k2
  exact hH'.se _ _ _ _ _ _ hne g1 g2 ho k1 k2
·rintro b ⟨i,o,m,h1',ho,h2,rfl⟩
 obtain⟨l1,g1⟩:=hget h1'
 rw[hmt l1] at h2
 exact hO _ ⟨i,o,m,g1,ho,h2,rfl⟩
·rintro b ⟨i,o,m,h1',h2,rfl⟩
 obtain⟨l1,g1⟩:=hget h1'
 rw[hmt l1] at h2
 exact hK _ ⟨i,o,m,g1,h2,rfl⟩}
theorem cb.next (R:cb N B n μ β s a w) {x m k:Nat} {seen:List Nat} {es:List (Value×Value)} {ty:TypeId} (hx:aW s.fr x = .nn m k seen) (hob:s.h[m]? = some (.map es)) (hlen:es.length=k) : ((∀ i,i<k→i∈seen)∧(Instr.next (a.eval (.tmp x)) false ty).run N.P w = .ok (.tuple #[.bool false]) w) ∨ ∃ i kk vv ve w',es[i]? = some (kk,vv)∧i∉seen∧VR N.P μ vv ve∧(Instr.next (a.eval (.tmp x)) false ty).run N.P w = .ok (.tuple #[.bool true,kk,ve]) w'∧cb N B n μ β { s with fr:=fP s.fr x (.nn m k (seen++[i])) } a w':=by{
have hxn:=di R (t:=x) (by rw[hx];simp)
have hs:=R.slot x hxn
rw[hx] at hs
obtain⟨hv,mm,hm,hb⟩:=hs
have O:lj N.P μ w m es mm:=R.heap.Ep hob hm
obtain⟨en,clock,hmb,hen,hst⟩:=O.yG
have hsz:en.size=k:=by rw[← hlen,hen.len,Array.length_toList]
have hcl:clock=k:=by rw[hst.1,hsz]
have he:a.eval (.tmp x) = .pointer (some ⟨β x,0,none⟩):=hv
have hbs:(β x)<w.heap.size:=(Array.getElem?_eq_some_iff.1 hb).1
have hbi:∀ e∈en.toList,e.born<k:=fun e he=>by
 obtain⟨i,hi⟩:=List.getElem?_of_mem he
 rw[hst.2 i e (by rw[← Array.getElem?_toList];exact hi)]
 have:=(List.getElem?_eq_some_iff.1 hi).1
 rw[Array.length_toList] at this
 omega
rw[he]
rcases run_next_at (P:=N.P) w ty (β x) mm.block k k seen.toArray en clock hb hmb hbi (Nat.le_refl _) with ⟨h0,hrun⟩ | ⟨e,hmem,w1,hw1,hrun⟩
·refine .inl ⟨fun i hi=>?_,hrun⟩
 have hlt:i<en.size:=by omega
 have hb':=hst.2 i en[i] (Array.getElem?_eq_getElem hlt)
 refine Classical.byContradiction fun hn=>?_
 have:en[i]∈leftOf en seen.toArray:=by
  unfold leftOf
  rw[Array.mem_filter]
  refine⟨Array.getElem_mem hlt,?_⟩
  rw[hb']
  simpa using hn
 rw[Array.eq_empty_of_size_eq_zero h0] at this
 simp at this
·obtain⟨hme,hns⟩:=mem_left hmem
 obtain⟨i,hi⟩:=List.getElem?_of_mem hme
 have hbn:=hst.2 i e (by rw[← Array.getElem?_toList];exact hi)
 rw[hbn] at hns hrun
 have hni:i∉seen:=by simpa using hns
 obtain⟨kk,vv,hkv,hke,hvr⟩:=hen.kj hi
 have R1:cb N B n μ β s a w1:=by rcases hw1 with rfl|rfl;exact R;exact R.drew
 have hh1:w1.heap=w.heap∧w1.os=w.os∧w1.tape=w.tape∧w1.output=w.output:=by rcases hw1 with rfl|rfl<;>exact⟨rfl,rfl,rfl,rfl⟩
 have R2:=R1.Ch (w':=Go.ChangeMaps.setBlock w1 (β x) (.mapIter (some mm.block) k (seen.toArray.push i) clock)) (sl':=.nn m k (seen++[i])) (x:=x) (by rw[hx];rfl) rfl (fun cs=>by rw[hx];simp) rfl rfl rfl (by simp [Go.ChangeMaps.setBlock])
  (fun q hq=>by simp only[Go.ChangeMaps.setBlock];rw[Array.getElem?_setIfInBounds_ne (fun e=>hq e.symm)]) ⟨hv,mm,hm,by simp [Go.ChangeMaps.setBlock,hh1.1,hbs,hcl]⟩
 exact .inr ⟨i,kk,vv,e.val,_,hkv,hni,hvr,by rw[hrun,hke],R2⟩}
theorem sound (hN:mC N) {j:Gh} (h:Ev N j):Wa N j:=by{
induction h with
| skip s=>exact fun B n μ β a w R _ Q hQ=>wp_skip (hQ _ _ _ _ R)
| label l s=>exact fun B n μ β a w R _ Q hQ=>wp_label (hQ _ _ _ _ R)
| exit id s=>exact fun B n μ β a w R _ Q hQ=>wp_exit (hQ _ _ _ _ R)
| ret s=>exact fun B n μ β a w R _ Q hQ=>wp_ret (hQ _ _ _ _ R)
| NB _ _ ih1 ih2=>
  intro B n μ β a w R hd Q hQ
  simp only[ef,Bool.and_eq_true] at hd
  exact wp_seq (ih1 B n μ β a w R hd.1 _ fun μ' β' a' w' R'=>ih2 B n μ' β' a' w' R' hd.2 Q hQ)
| IR _ he ih=>
  intro B n μ β a w R hd Q hQ
  simp only[ef,Bool.and_eq_true] at hd
  exact wp_seq (ih B n μ β a w R hd.1 _ fun μ' β' a' w' R'=>AX.nC he (hQ _ _ _ _ R'))
| cond hc _ ih=>
  intro B n μ β a w R hd Q hQ
  simp only[ef,Bool.and_eq_true] at hd
  refine wp_cond (aI R hc).bool (ih B n μ β a w R ?_ Q hQ)
  split
  ·exact hd.1
  ·exact hd.2
| block _ ih=>
  intro B n μ β a w R hd Q hQ
  simp only[ef] at hd
  exact wp_block (ih B n μ β a w R hd _ fun μ' β' a' w' R'=>AX.oa (hQ _ _ _ _ R'))
| @scope c s s1 e _ ih=>
  intro B n μ β a w R hd Q hQ
  simp only[ef] at hd
  refine wp_scope_straight (ih B n μ β a w R hd _ fun μ' β' a' w' R'=>?_)
  have:=hQ _ _ _ _ R'
  cases e<;>exact this
| loop _ ih=>
  obtain⟨k,ih⟩:=ih
  intro B n μ β a w R hd Q hQ
  simp only[ef] at hd
  exact wp_loop_rounds k (ih B n μ β a w R hd Q hQ)
| Bh _ he ih=>
  refine⟨1,fun B n μ β a w R hd Q hQ=>?_⟩
  rw[rounds_succ]
  exact ih B n μ β a w R hd _ fun μ' β' a' w' R'=>AX.nC he (hQ _ _ _ _ R')
| GI _ _ ih1 ih2=>
  obtain⟨k,ih2⟩:=ih2
  refine⟨k+1,fun B n μ β a w R hd Q hQ=>?_⟩
  rw[rounds_succ]
  exact ih1 B n μ β a w R hd _ fun μ' β' a' w' R'=>ih2 B n μ' β' a' w' R' hd Q hQ
| @region id ops s s1 _ ih=>
  intro B n μ β a w R hd Q hQ
  simp only[ef] at hd
  have R':cb N B n μ β { s with eH:=[] } a w:=⟨R.defers,R.size,R.slot,R.hi,(fun t g sl off hm=>by cases hm),R.heap,R.fr,R.ext,R.own,R.eF,R.jo,R.nz,R.eN⟩
  exact wp_region_list (ih B n μ β a w R' hd Q hQ)
| @Cd id k ops s s1 s2 hm hB hq _ ih=>
  intro B n μ β a w R hd Q hQ
  simp only[ef] at hd
  obtain⟨hd1,hd2⟩:=yQ k hd
  have R':cb N B n μ β { s with eH:=[] } a w:=⟨R.defers,R.size,R.slot,R.hi,(fun t g sl off hm=>by cases hm),R.heap,R.fr,R.ext,R.own,R.eF,R.jo,R.nz,R.eN⟩
  have e:ops=ops.toList.toArray:=by simp
  rw[e]
  refine wp_region_still_tail k hm (by rw[← e];exact hB) ?_
  rw[← e]
  exact fB hN hq R'.drew hd1 fun β' a' R2=>ih B n μ β' a' _ R2 hd2 Q hQ
| @vS id ops s sF Inv nxt hm h0 _ h2 h3 h4 ih=>
  intro B n μ β a w R hd Q hQ
  simp only[ef] at hd
  have R':cb N B n μ β { s with eH:=[] } a w:=⟨R.defers,R.size,R.slot,R.hi,(fun t g sl off hm=>by cases hm),R.heap,R.fr,R.ext,R.own,R.eF,R.jo,R.nz,R.eN⟩
  refine wp_region_any hm ?_
  have key:∀ (f:Nat) (S:Array Bool) (t:St) (μ:Mu) (β:Nat→Nat) (a:Act) (w:World),cb N B n μ β t a w→Inv S t→S.size=ops.size→S.toList.count false≤f→wpAny N.P .any ops Q f S a w:=by
   intro f
   induction f with
   | zero=>
     intro S t μ β a w R hI hsz hc
     have hr:Region.ready .any ops S=[]:=by
      rw[List.eq_nil_iff_forall_not_mem]
      intro i hi
      obtain⟨h1,_⟩:=mem_ready.1 hi
      have hlt:i<S.size:=by
       rcases Nat.lt_or_ge i S.size with h|h
       ·exact h
       ·simp [Array.getElem?_eq_none h] at h1
      have:false∈S.toList:=by
       simp only[Array.getD_eq_getD_getElem?,Array.getElem?_eq_getElem hlt,Option.getD_some] at h1
       rw[← h1]
       simp
      have:=List.count_pos_iff.2 this
      omega
     obtain⟨q1,q2⟩:=h3 S t hI hr
     exact⟨hr,hQ _ _ _ _ (R.ss q1 q2 h4)⟩
   | succ f ihf=>
     intro S t μ β a w R hI hsz hc
     refine⟨fun hr=>?_,fun i hi=>?_⟩
     ·obtain⟨q1,q2⟩:=h3 S t hI hr
      exact hQ _ _ _ _ (R.ss q1 q2 h4)
     ·obtain⟨h1,o,ho,_⟩:=mem_ready.1 hi
      have hlt:i<S.size:=by
       rcases Nat.lt_or_ge i S.size with h|h
       ·exact h
       ·simp [Array.getElem?_eq_none h] at h1
      have hS:S[i]=false:=by simpa [Array.getD_eq_getD_getElem?,Array.getElem?_eq_getElem hlt] using h1
      have hdo:iP n [o]=true:=by
       unfold iP at hd ⊢
       rw[List.all_eq_true] at hd
       have:=hd o (Array.mem_toList_iff.2 (Array.mem_of_getElem? ho))
       simpa using this
      refine vI ho (Q':=fun e a' w'=>(e = .normal→wpAny N.P .any ops Q f (S.setIfInBounds i true) a' w')∧(e≠.normal→Q e a' w')) (fun a' w' h=>h.1 rfl) (fun e a' w' he h=>h.2 he) ?_
      refine ih S t i o hI hi ho B n μ β a w R hdo _ fun μ' β' a' w' R2=>⟨fun _=>?_,fun h=>(h rfl).elim⟩
      refine ihf _ _ _ _ _ _ R2 (h2 S t i o hI hi ho) (by simp [hsz]) ?_
      rw[Array.toList_setIfInBounds,List.count_set (by simpa using hlt)]
      have hm:false∈S.toList:=by
       rw[← hS]
       simp
      have:=List.count_pos_iff.2 hm
      generalize S.toList.count false=d at *
      simp [hS]
      omega
  exact key _ _ _ _ _ _ _ R'.drew h0 (by simp) (by simp)
| ss hf hh he _ ih=>exact fun B n μ β a w R hd Q hQ=>ih B n μ β a w (R.ss hf hh he) hd Q hQ
| RE hf hh he _ ih=>
  obtain⟨k,ih⟩:=ih
  exact⟨k,fun B n μ β a w R hd Q hQ=>ih B n μ β a w (R.ss hf hh he) hd Q hQ⟩
| nil all s=>exact fun B n μ β a w R _ Q hQ=>wpList_nil (hQ _ _ _ _ R)
| pa hw _ ih=>
  intro B n μ β a w R hd Q hQ
  obtain⟨hd1,hd2⟩:=bR hd
  obtain⟨β',R'⟩:=R.val hd1 VR.undef
  refine wpList_skip (aN R hw) (ih B n μ β' _ w R' hd2 Q hQ)
| rP hw hv _ ih=>
  intro B n μ β a w R hd Q hQ
  obtain⟨hd1,hd2⟩:=bR hd
  obtain⟨v',h1,h2⟩:=l9 hN R hv
  obtain⟨β',R'⟩:=R.val hd1 h2
  exact bz (aN R hw) h1 (ih B n μ β' _ w R' hd2 Q hQ)
| xE hw hd he hne _ ih=>
  intro B n μ β a w R hds Q hQ
  obtain⟨hd1,hd2⟩:=bR hds
  obtain⟨h1,hb⟩:=mi R he
  obtain⟨β',R'⟩:=R.Bx (hd1 _ hd) hb hne
  refine bz (aN R hw) h1 ?_
  rw[hd]
  exact ih B n μ β' _ w R' hd2 Q hQ
| @xj all o r s s1 ks v d hg hv hd _ ih=>
  intro B n μ β a w R hds Q hQ
  obtain⟨hd1,hd2⟩:=bR hds
  have hw:=jE R hg
  by_cases hc:fc ks=true
  ·obtain⟨v',h1,h2⟩:=l9 hN (R.sL hc) hv
   obtain⟨β',R'⟩:=R.wv (hd1 _ hd) (v':=v') (by rw[if_pos hc];exact h2)
   refine bz (hw.trans hc) h1 ?_
   rw[hd]
   exact ih B n μ β' _ w R' hd2 Q hQ
  ·obtain⟨β',R'⟩:=R.wv (hd1 _ hd) (ks:=ks) (v':=undef) (by rw[if_neg hc])
   refine wpList_skip (hw.trans (by simpa using hc)) ?_
   rw[hd]
   exact ih B n μ β' _ w R' hd2 Q hQ
| @rA all o r s s1 ks d sl off hg he hd hne _ ih=>
  intro B n μ β a w R hds Q hQ
  obtain⟨hd1,hd2⟩:=bR hds
  have hw:=jE R hg
  by_cases hc:fc ks=true
  ·obtain⟨h1,cs,hb⟩:=mi (R.sL hc) he
   obtain⟨β',R'⟩:=R.sc (ks:=ks) (off:=off) (v':=.pointer (some ⟨_,off,none⟩)) (hd1 _ hd) (vH hb) hne (by rw[if_pos hc])
   refine bz (hw.trans hc) h1 ?_
   rw[hd]
   exact ih B n μ β' _ w R' hd2 Q hQ
  ·obtain⟨β',R'⟩:=R.sc (ks:=ks) (sl:=sl) (off:=off) (v':=undef) (hd1 _ hd) (R.Bp he) hne (by rw[if_neg hc])
   refine wpList_skip (hw.trans (by simpa using hc)) ?_
   rw[hd]
   exact ih B n μ β' _ w R' hd2 Q hQ
| uL hw hd hb _ ih=>
  intro B n μ β a w R hds Q hQ
  obtain⟨hd1,hd2⟩:=bR hds
  obtain⟨cur,h1,h2,h3⟩:=x4 R hb
  obtain⟨β',R'⟩:=R.BY (sl:=.box _) (v':=.pointer (some ⟨w.heap.size,0,none⟩)) (hd1 _ hd) h2 h3 fun hr=>⟨rfl,hr⟩
  refine bz (aN R hw) h1 ?_
  rw[hd]
  exact ih B n μ β' _ _ R' hd2 Q hQ
| xI hw hd hb _ ih=>
  intro B n μ β a w R hds Q hQ
  obtain⟨hd1,hd2⟩:=bR hds
  obtain⟨cur,h1,h2,h3,_,_⟩:=zG R hb
  obtain⟨β',R'⟩:=R.BY (sl:=.mx _ _) (v':=.slice (some ⟨w.heap.size,0,none⟩) _ _) (hd1 _ hd) h2 h3 fun hr=>⟨rfl,hr⟩
  refine bz (aN R hw) h1 ?_
  rw[hd]
  exact ih B n μ β' _ _ R' hd2 Q hQ
| @pE all o r s s1 t cs hw hb _ ih=>
  intro B n μ β a w R hds Q hQ
  obtain⟨hd1,hd2⟩:=bR hds
  obtain⟨cur,h1,h2,h3⟩:=x4 R hb
  obtain⟨μ',β',_,R'⟩:=R.rS (d:=o.dst) (cells:=cs) (cur:=cur) (e:=t) (w':=w.alloc (.cells cur t)) (b:=w.heap.size) (v:=.pointer (some ⟨s.h.length,0,some 0⟩)) (v':=.pointer (some ⟨w.heap.size,0,none⟩)) hd1 rfl rfl rfl (by simp)
   (fun k hk=>cU w _ hk) (Nat.le_refl _) (by simp) (heap_alloc_new w _) (fun j v hj=>by simpa using h2.get hj) h3 (by
    have:=cM μ ⟨w.heap.size,0,cur.size,t⟩
    rw[R.heap.len] at this
    exact VR.ptr this)
  exact bz (aN R hw) h1 (ih B n μ' β' _ _ R' hd2 Q hQ)
| @o6 all o r s s1 m t cs hw hb _ ih=>
  intro B n μ β a w R hds Q hQ
  obtain⟨hd1,hd2⟩:=bR hds
  obtain⟨cur,h1,h2,h3,h4,h5⟩:=zG R hb
  have hml:maxLen=9223372036854775807:=by simp [maxLen]
  obtain⟨μ',β',_,R'⟩:=R.rS (d:=o.dst) (cells:=cs) (cur:=cur) (e:=t) (w':=w.alloc (.cells cur t)) (b:=w.heap.size) (v:=.slice (some ⟨s.h.length,0,some 0⟩) m m) (v':=.slice (some ⟨w.heap.size,0,none⟩) m m) hd1 rfl rfl rfl (by simp)
   (fun k hk=>cU w _ hk) (Nat.le_refl _) (by simp) (heap_alloc_new w _) (fun j v hj=>by simpa using h2.get hj) h3 (by
    have:=cM μ ⟨w.heap.size,0,cur.size,t⟩
    rw[R.heap.len] at this
    have hl:cs.length=cur.size:=by
     have:=h2.length
     rwa [Array.length_toList] at this
    exact VR.slice (off:=0) this (Nat.le_refl _) (by omega) (by simp only;omega))
  exact bz (aN R hw) h1 (ih B n μ' β' _ _ R' hd2 Q hQ)
| @DS all o r s s1 m t cs hw hb _ ih=>
  intro B n μ β a w R hds Q hQ
  obtain⟨hd1,hd2⟩:=bR hds
  obtain⟨cur,h1,h2,h3,h4,h5⟩:=BF R hb
  have hml:maxLen=9223372036854775807:=by simp [maxLen]
  obtain⟨μ',β',_,R'⟩:=R.rS (d:=o.dst) (cells:=cs) (cur:=cur) (e:=t) (w':=w.alloc (.cells cur t)) (b:=w.heap.size) (v:=.slice (some ⟨s.h.length,0,some 0⟩) m m) (v':=.slice (some ⟨w.heap.size,0,none⟩) m m) hd1 rfl rfl rfl (by simp)
   (fun k hk=>cU w _ hk) (Nat.le_refl _) (by simp) (heap_alloc_new w _) (fun j v hj=>by simpa using h2.get hj) h3 (by
    have:=cM μ ⟨w.heap.size,0,cur.size,t⟩
    rw[R.heap.len] at this
    have hl:cs.length=cur.size:=by
     have:=h2.length
     rwa [Array.length_toList] at this
    exact VR.slice (off:=0) this (Nat.le_refl _) (by omega) (by simp only;omega))
  exact bz (aN R hw) h1 (ih B n μ' β' _ _ R' hd2 Q hQ)
| @Ff all o r s s1 t e et x id off ar k c cells hw ho ht he hx hob hk0 _ ih=>
  intro B n μ β a w R hds Q hQ
  obtain⟨hd1,hd2⟩:=bR hds
  have hxv:=aI R hx
  obtain⟨id2,off2,ver2,m,o2,cap,hide,hm,heq,hlc,hcm,hcase⟩:=hxv.oC (by simp)
  cases hide
  obtain⟨hb0,cur,hr,hroom⟩:=(R.heap.get hob hm).own rfl
  obtain⟨β',R'⟩:=R.VD (k:=cur.size) (c:=1) (by decide) hd1 hob hm hr hxv
  refine bz (aN R hw) ?_ (ih B n μ β' _ _ R' hd2 Q hQ)
  rw[heq]
  simp [execOp,ho,heq,convert,run_underlying ht,run_underlying he,markStringish,World.shape?,hr]
| @BV all o r s s1 d m t cs hw hd hb _ ih=>
  intro B n μ β a w R hds Q hQ
  obtain⟨hd1,hd2⟩:=bR hds
  obtain⟨cur,h1,h2,h3,h4,h5⟩:=BF R hb
  obtain⟨β',R'⟩:=R.wl (sl:=.Eo (.aA cs 0 true t) m) (ob:=.cells cur t) (v':=.slice (some ⟨w.heap.size,0,none⟩) m m) (hd1 _ hd) fun hr=>⟨rfl,rfl,rfl,cur,hr,h2,h3,by
   have hl:cs.length=cur.size:=by
    have:=h2.length
    rwa [Array.length_toList] at this
   exact h4.symm.trans hl,h5⟩
  refine bz (aN R hw) h1 ?_
  rw[hd]
  exact ih B n μ β' _ _ R' hd2 Q hQ
| xv hw hd ho hu _ ih=>
  intro B n μ β a w R hds Q hQ
  obtain⟨hd1,hd2⟩:=bR hds
  obtain⟨β',R'⟩:=R.wl (sl:=.Eo (.map []) 0) (ob:=.map #[] 0) (v':=.map (some w.heap.size)) (hd1 _ hd) fun hr=>⟨rfl,#[],0,hr,trivial,yS.nil⟩
  refine bz (w:=w) (v:=.map (some w.heap.size)) (w':=w.alloc (.map #[] 0)) (aN R hw) (by simp only[execOp,ho,Option.map_none,run_makeMap,Sem.run_bind,Result.andThen_ok,Sem.run_pure]) ?_
  rw[hd]
  exact ih B n μ β' _ _ R' hd2 Q hQ
| EZ hs _ ih=>
  intro B n μ β a w R hds Q hQ
  obtain⟨μ',β',R'⟩:=R.Wf hs
  exact ih B n μ' β' _ _ R' hds Q hQ
| BE hf hh he _ ih=>exact fun B n μ β a w R hd Q hQ=>ih B n μ β a w (R.ss hf hh he) hd Q hQ
| @uJ all o r s s1 t kt et hw ho hu _ ih=>
  intro B n μ β a w R hds Q hQ
  obtain⟨hd1,hd2⟩:=bR hds
  obtain⟨μ',β',R'⟩:=R.Oi (d:=o.dst) (t:=t) hd1
  exact bz (aN R hw) (by simp only[execOp,ho,Option.map_none,run_makeMap,Sem.run_bind,Result.andThen_ok,Sem.run_pure]) (ih B n μ' β' _ _ R' hd2 Q hQ)
| @um all o r s s1 t kt et x i y id es kd k v hw ho hu hkd hx hob hk hv hkk hmk hdst _ ih=>
  intro B n μ β a w R hds Q hQ
  obtain⟨hd1,hd2⟩:=bR hds
  obtain⟨w',hrun,R'⟩:=R.OB hN hu hkd hx hob hk hv hkk hmk
  refine lV (aN R hw) ?_
  unfold Oper.wp
  have:(execOp a.eval o).run N.P w = .ok .skip w':=by
   simp only[execOp,ho,Sem.run_bind,hrun,Result.andThen_ok,Sem.run_pure]
  rw[this,Oper.upon_skip,hdst]
  exact ih B n μ β _ _ R' hd2 Q hQ
| @zC all o r s s1 t kt et x i id j es es' kd k z v hw ho hu hkd hz hx hob hk hkk hmk hment _ ih=>
  intro B n μ β a w R hds Q hQ
  obtain⟨hd1,hd2⟩:=bR hds
  obtain⟨w',v',hrun,hvr,R'⟩:=R.LR hN hu hkd hz hx hob hk hkk hmk hment
  obtain⟨β',R2⟩:=R'.val (v:=.tuple #[v,.int .i64 j]) (v':=.tuple #[v',goInt j]) hd1 (.tuple rfl fun p q q' e e'=>by
   match p with
   | 0=>cases e;cases e';exact hvr
   | 1=>cases e;cases e';exact .pure rfl
   | p+2=>simp at e)
  exact bz (aN R hw) (by simp only[execOp,ho,Sem.run_bind,hrun,Result.andThen_ok,Sem.run_pure]) (ih B n μ β' _ _ R2 hd2 Q hQ)
| @xM all o r s s1 t x y i id j es k u v hw ho hx hob hi hv hj hdst _ ih=>
  intro B n μ β a w R hds Q hQ
  obtain⟨hd1,hd2⟩:=bR hds
  obtain⟨w',hrun,R'⟩:=R.Lm (t:=t) hx hob hi hv hj
  refine lV (aN R hw) ?_
  unfold Oper.wp
  have:(execOp a.eval o).run N.P w = .ok .skip w':=by
   simp only[execOp,ho,Sem.run_bind,hrun,Result.andThen_ok,Sem.run_pure]
  rw[this,Oper.upon_skip,hdst]
  exact ih B n μ β _ _ R' hd2 Q hQ
| @yg all o r s s1 t x y ti sl off cs vs cs' v hw ho ht hp hb hx hvc hwr hdst _ ih=>
  intro B n μ β a w R hds Q hQ
  obtain⟨hd1,hd2⟩:=bR hds
  obtain⟨he,_⟩:=je R hp
  obtain⟨cur,e,hr,hc,h1⟩:=Cl R hb
  obtain⟨rfl,h2,h3,h4⟩:=gB hvc
  have hv:=aI R hx
  have hvl:=hv.cells.length
  obtain⟨_,k2⟩:=hc.ll hv.cells hwr
  simp only[Array.length_toList] at hvl k2
  have hrun:=nD (w:=w) (off:=off) (v:=a.eval y) ht (by omega) (hv.cells.qU h4) hr k2
  have R':=R.Nx hb hr hc h1 hv.cells h4 hwr
  refine lV (aN R hw) ?_
  unfold Oper.wp
  have:(execOp a.eval o).run N.P w = .ok .skip (w.setRow (β sl) (cur.toList.take off++(a.eval y).cells.toList++cur.toList.drop (off+(a.eval y).cells.toList.length)).toArray):=by
   simp only[execOp,ho,he,Sem.run_bind,hrun,Result.andThen_ok,Sem.run_pure]
  rw[this,Oper.upon_skip,hdst]
  exact ih B n μ β _ _ R' hd2 Q hQ
| @pz all o r s s1 t et x y ti id off ar cells vs cells' v hw ho ht hp hob hx hvc hwr hdst _ ih=>
  intro B n μ β a w R hds Q hQ
  obtain⟨hd1,hd2⟩:=bR hds
  obtain⟨id',off',ver',m,hid,hm,he⟩:=(aI R hp).jJ
  cases hid
  have O:=R.heap.get hob hm
  obtain⟨hb0,cur,hr,hroom⟩:=O.own rfl
  obtain⟨rfl,h2,h3,h4⟩:=gB hvc
  have hv:=aI R hx
  have hvl:=hv.cells.length
  obtain⟨R',k2⟩:=R.JT hob hm hr hv.cells h4 hwr
  simp only[Array.length_toList] at hvl k2
  rw[hb0,Nat.zero_add] at he
  have hrun:=nD (w:=w) (off:=off) (v:=a.eval y) ht (by omega) (hv.cells.qU h4) hr k2
  refine lV (aN R hw) ?_
  unfold Oper.wp
  have:(execOp a.eval o).run N.P w = .ok .skip (w.setRow m.block (cur.toList.take off++(a.eval y).cells.toList++cur.toList.drop (off+(a.eval y).cells.toList.length)).toArray):=by
   simp only[execOp,ho,he,Sem.run_bind,hrun,Result.andThen_ok,Sem.run_pure]
  rw[this,Oper.upon_skip,hdst]
  exact ih B n μ β _ _ R' hd2 Q hQ
| @oF all o r s s1 x y t t2 e ti cs m hw ho hu htt ht hs0 hz hx hy hm hb hmx _ ih=>
  intro B n μ β a w R hds Q hQ
  subst htt
  obtain⟨hd1,hd2⟩:=bR hds
  obtain⟨v',w',μ',β',h1,R'⟩:=GM R hd1 ho hu ht hs0 hz hx hy hm hb hmx
  exact bz (aN R hw) h1 (ih B n μ' β' _ _ R' hd2 Q hQ)
| @uR all o r s s1 x y t t2 e ti cs cells m k c id ar hw ho hu htt ht hs0 hz hx hob hkl hy hb hmx _ ih=>
  intro B n μ β a w R hds Q hQ
  subst htt
  obtain⟨hd1,hd2⟩:=bR hds
  obtain⟨v',w',μ',β',h1,R'⟩:=Iv R hd1 ho hu ht hs0 hz hx hob hkl hy hb hmx
  exact bz (aN R hw) h1 (ih B n μ' β' _ _ R' hd2 Q hQ)
| @s9 all o r s s1 x y t t2 e ti p q k c c' hw ho hu htt ht hx hy _ ih=>
  intro B n μ β a w R hds Q hQ
  subst htt
  obtain⟨hd1,hd2⟩:=bR hds
  have hxe:=aI R hx
  obtain⟨p',cap,hex,hkc⟩:=hxe.Fi
  obtain⟨q',cap',hey,_⟩:=(aI R hy).Fi
  obtain⟨β',R'⟩:=R.val hd1 hxe
  exact bz (aN R hw) (mV ho (by rw[hex,hey];exact xb hu ht hkc)) (ih B n μ β' _ _ (hex▸R') hd2 Q hQ)
| @qX all o r s s1 x y t t2 e ti b hw ho ht hu hti hs1 hb1 hz hx hy hb0 hb _ ih=>
  intro B n μ β a w R hds Q hQ
  obtain⟨hd1,hd2⟩:=bR hds
  obtain⟨v',w',μ',β',h1,R'⟩:=CA R hd1 ho ht hu hti hs1 hb1 hz hx hy hb0 hb
  exact bz (aN R hw) h1 (ih B n μ' β' _ _ R' hd2 Q hQ)
| @rW all o r s s1 x y t t2 e ti cells k c id ar b hw ho ht hu hti hs1 hb1 hz hx hob hkl hy hb _ ih=>
  intro B n μ β a w R hds Q hQ
  obtain⟨hd1,hd2⟩:=bR hds
  obtain⟨v',w',μ',β',h1,R'⟩:=FY R hd1 ho ht hu hti hs1 hb1 hz hx hob hkl hy hb
  exact bz (aN R hw) h1 (ih B n μ' β' _ _ R' hd2 Q hQ)
| @wJ all o r s s1 x y t t2 e ti b hw ho ht hu hti hs1 hb1 hz hx hy hb0 _ ih=>
  intro B n μ β a w R hds Q hQ
  obtain⟨hd1,hd2⟩:=bR hds
  obtain⟨i,hi,hzz,hsz,hby⟩:=wj hti hs1 hb1 hz
  have hxe:a.eval x = .slice none 0 0:=(aI R hx).dM rfl
  have hye:a.eval y = .string b:=(aI R hy).string
  obtain⟨β',R'⟩:=R.val (d:=o.dst) (v:=.slice none 0 0) (v':=.slice none 0 0) hd1 (.pure rfl)
  refine bz (w':=w) (aN R hw) (lK ho ?_) (ih B n μ β' _ _ R' hd2 Q hQ)
  rw[hxe,hye]
  have hbe:b=ByteArray.empty:=by simpa using hb0
  subst hbe
  have hf:=Lib.run_firstCells_string (P:=N.P) w 1 ByteArray.empty
  simp only[ByteArray.size_empty] at hf
  simp [Builtin.append_,run_underlying ht,run_underlying hu,sizeOf,typeInfo,hi,hsz,Builtin.lenOf,hf]
| @zA all o r s s1 t t2 e ti x b hw ho ht hu he hti hs1 hx hb _ ih=>
  intro B n μ β a w R hds Q hQ
  obtain⟨hd1,hd2⟩:=bR hds
  obtain⟨v',w',μ',β',h1,R'⟩:=J7 R hd1 ho ht hu he hti hs1 hx hb
  exact bz (aN R hw) h1 (ih B n μ' β' _ _ R' hd2 Q hQ)
| @xn all o r s s1 t t2 e ti x y b id ar cells hw ho ht hti hs1 hx hob hy hb0 hb htk _ ih=>
  intro B n μ β a w R hds Q hQ
  obtain⟨hd1,hd2⟩:=bR hds
  obtain⟨w',β',h1,R'⟩:=G4 R hd1 ho ht hti hs1 hx hob hy hb0 hb htk
  exact bz (aN R hw) h1 (ih B n μ β' _ _ R' hd2 Q hQ)
| @oM all o r s s1 c f cap args fn v h' hw ho hc ha hf hnm hbd _ _ ihc ih=>
  intro B n μ β a w R hds Q hQ
  obtain⟨hd1,hd2⟩:=bR hds
  have hargs:=gJ R ha
  unfold fH at hc
  split at hc
  case h_2=>cases hc
  rename_i fo hfo
  split at hc
  case h_2=>cases hc
  rename_i g first captured hev
  split at hc
  case isFalse=>cases hc
  cases hc
  obtain⟨g',b',hg,_,hfe,hcap⟩:=(aI R hev).vV
  cases hg
  have hrun:(execOp a.eval o).run N.P w = .ok (.enter f (c.args.map a.eval++b')) w:=by
   simp only[execOp,ho,resolve,hfo,hfe,Deferred.ofValue,Sem.run_bind,Sem.run_pure,Result.andThen_ok,invoke,callFunc,run_program,hf,hnm,hbd,Array.empty_append]
   rfl
  refine lV (aN R hw) ?_
  unfold Oper.wp
  rw[hrun,Oper.upon_enter]
  have hcs:=ihc μ w (c.args.map a.eval++b') R.heap (by
   rw[Array.toList_append,Array.toList_map]
   exact hargs.append hcap)
  refine hcs.mono ?_
  rintro e w' ⟨μ',r',rfl,hv,hH,hx,hF,hO,hK⟩
  have hplt:=fun (t:Nat) (hp:dZ (aW s.fr t)=true)=>(R.jo t hp).2
  have hfs:=R.fr.size
  obtain⟨β',R'⟩:=R.AC (d:=o.dst) (v:=v) (v':=r') hd1 hx hH
   (R.fr.trans hF fun x hx=>R.own x hx)
   (fun b hb=>by
    rcases hO b hb with h|h
    ·exact R.own b h
    ·exact .inr (by omega))
   (fun b hb=>by
    rcases hK b hb with h|h
    ·exact R.eF b h
    ·exact .inr (by omega))
   hF.size (fun t hp=>hF.block _ (hplt t hp) fun ho=>R.eN t hp ho.eF)
   (fun t hp hb=>by
    rcases hK _ hb with h|h
    ·exact R.eN t hp h
    ·have:=hplt t hp
     omega) hv
  exact ih B n μ' β' _ _ R' hd2 Q hQ
| @call f fn c args rs h e s1 hf hb hd hl _ he hr ih=>
  intro μ w args' hH hA
  have hsz:args'.size=args.length:=by
   have:=hA.length
   rw[Array.length_toList] at this
   exact this.symm
  refine calls_of_wp hf hb ?_
  let B:Bs:=⟨w,fa μ h,gM μ h,μ⟩
  let a0:Act:={ tmps:=args'++Array.replicate (fn.ntmps-args'.size) undef,defers:=[] }
  have hp:∀ t,dZ (aW (jS args fn.ntmps) t)=true→False:=fun t ht=>by
   unfold jS at ht
   rw[mg] at ht
   split at ht<;>simp [dZ] at ht
  have R:cb N B fn.ntmps μ (fun _=>0) ⟨jS args fn.ntmps,[],h⟩ a0 w:=by
   refine⟨rfl,?_,?_,?_,(fun t g sl off hm=>by cases hm),hH,pT.refl _ _,eU.refl _,fun b hb=>.inl hb,fun b hb=>.inl hb,fun t ht=>(hp t ht).elim,fun t t' ht=>(hp t ht).elim,fun t ht=>(hp t ht).elim⟩
   ·simp only[a0,Array.size_append,Array.size_replicate]
    omega
   ·intro t ht
    unfold jS
    rw[mg]
    have hlen:t-0<(args++List.replicate (fn.ntmps-args.length) (Value.tuple #[])).length:=by
     simp only[List.length_append,List.length_replicate]
     omega
    rw[dif_pos ⟨Nat.zero_le _,hlen⟩]
    simp only[Nat.sub_zero]
    by_cases h1:t<args.length
    ·rw[List.getElem_append_left h1]
     obtain⟨v',k1,k2⟩:=hA.get (i:=t) (v:=args[t]) (by simp [h1])
     have:a0.tmps.getD t undef=v':=by
      rw[Array.getD_eq_getD_getElem?]
      simp only[a0]
      rw[Array.getElem?_append_left (by omega)]
      have k1':args'[t]? = some v':=by simpa using k1
      rw[k1']
      rfl
     rw[this]
     exact k2
    ·rw[List.getElem_append_right (by omega)]
     have:a0.tmps.getD t undef=undef:=by
      rw[Array.getD_eq_getD_getElem?]
      simp only[a0]
      rw[Array.getElem?_append_right (by omega),Array.getElem?_replicate]
      split<;>rfl
     rw[this]
     simp only[List.getElem_replicate]
     exact VR.undef
   ·intro t ht
    unfold jS
    rw[mg,dif_neg]
    simp only[List.length_append,List.length_replicate]
    omega
  refine ih B fn.ntmps μ _ a0 w R hd _ fun μ' β' a' w' R'=>?_
  obtain⟨v',k1,k2⟩:=CC R' hr
  have hfin:a'.defers=[]∧∃ v,(results fn a'.tmps).run N.P w' = .ok v w'∧∃ μ' r',Ending.returned v = .returned r'∧VR N.P μ' (cI rs) r'∧b8 N.P μ' s1.h w'∧eU μ μ'∧pT (fa μ h) w w' ∧
   (∀ b,fa μ' s1.h b→fa μ h b∨w.heap.size≤b)∧(∀ b,gM μ' s1.h b→gM μ h b∨w.heap.size≤b):=
   ⟨R'.defers,v',k1,μ',v',rfl,k2,R'.heap,R'.ext,R'.fr,R'.own,R'.eF⟩
  rcases he with rfl|rfl
  ·exact hfin
  ·exact hfin
| @fresh f h h' r _ hs ih=>
  intro μ w args' hH hA
  have hA0:dE N.P [] [] args'.toList:=by
   cases e:args'.toList with
   | nil=>trivial
   | cons a l=>
     rw[e] at hA
     exact hA.elim
  have hO0:∀ b,¬ fa [] [] b:=by
   rintro b ⟨i,o,m,h1,_⟩
   simp at h1
  refine (ih [] w args' ⟨rfl,fun id o h1=>by simp at h1,fun a b o1 o2 m1 m2 _ h1=>by simp at h1⟩ hA0).mono ?_
  rintro e w' ⟨μ',r',rfl,hv,hH',hx,hF,hO,hK⟩
  have hb:∀ b,gM μ h b→w'.heap[b]? = w.heap[b]?:=fun b hb=>hF.block b (gM.lt hH hb) (hO0 b)
  have hv0:=hv.OK hs
  rw[List.take_zero] at hv0
  exact⟨μ,r',rfl,hv0.mono (fun id l hl=>by simp at hl),hH.world hF.size hb,eU.refl _,⟨hF.os,hF.tape,hF.output,hF.size,fun k hk _=>hF.block k hk (hO0 k)⟩,fun b hb=>.inl hb,fun b hb=>.inl hb⟩
| @gc f args h h' r _ hs ht ih=>
  have e:h'=h++h'.drop h.length:=by conv=>lhs;rw[← List.take_append_drop h.length h',ht]
  refine yA (g:=h'.drop h.length) (by rw[← e];exact ih) hs (Nat.le_refl _) fun i o ho=>.inl ho
| OG _ hs hl hg ih=>exact yA ih hs hl hg
| NG hp=>exact hN.mA _ _ _ _ _ hp
| @mj all o r s s1 d id t kt et x es hw hd ho hu hx hob _ ih=>
  intro B n μ β a w R hds Q hQ
  obtain⟨hd1,hd2⟩:=bR hds
  obtain⟨m,hm,hxe⟩:=pe (aI R hx)
  have O:lj N.P μ w id es m:=R.heap.Ep hob hm
  obtain⟨en,clock,hmb,hen,hst⟩:=O.yG
  have hlen:clock=es.length:=by rw[hst.1,hen.len,Array.length_toList]
  obtain⟨β',R'⟩:=R.wl (sl:=.nn id es.length []) (ob:=.mapIter (some m.block) clock #[] clock) (v':=.pointer (some ⟨w.heap.size,0,none⟩)) (hd1 _ hd) fun hr=>⟨rfl,m,hm,by rw[hr,hlen]⟩
  refine bz (aN R hw) (v:=.pointer (some ⟨w.heap.size,0,none⟩)) ?_ (by rw[hd];exact ih B n μ β' _ _ R' hd2 Q hQ)
  have hg:(getObj m.block).run N.P w = .ok (.map en clock) w:=by simp [getObj,Sem.run,hmb]
  simp only[execOp,ho,hxe,Instr.range,Sem.run_bind,run_underlying hu,Result.andThen_ok,hg,Sem.run_pure]
  rfl
| @j7 all o r s s1 d t x b hw hd ho hu hx _ ih=>
  intro B n μ β a w R hds Q hQ
  obtain⟨hd1,hd2⟩:=bR hds
  have hxe:=(aI R hx).string
  obtain⟨β',R'⟩:=R.wl (sl:=.xf b 0) (ob:=.stringIter b 0) (v':=.pointer (some ⟨w.heap.size,0,none⟩)) (hd1 _ hd) fun hr=>⟨rfl,hr⟩
  refine bz (aN R hw) (v:=.pointer (some ⟨w.heap.size,0,none⟩)) ?_ (by rw[hd];exact ih B n μ β' _ _ R' hd2 Q hQ)
  simp only[execOp,ho,hxe,Instr.range,Sem.run_bind,run_underlying hu,Result.andThen_ok,Sem.run_pure]
  rfl
| @nL all o r s s1 x p c k b hw ho hx hp hdec _ ih=>
  intro B n μ β a w R hds Q hQ
  obtain⟨hd1,hd2⟩:=bR hds
  have hxn:=di R (t:=x) (by rw[hx];simp)
  have hs:=R.slot x hxn
  rw[hx] at hs
  obtain⟨hv,hb⟩:=hs
  have hsz:(β x)<w.heap.size:=(Array.getElem?_eq_some_iff.1 hb).1
  have R1:=R.Ch (w':={ w with heap:=w.heap.setIfInBounds (β x) (.stringIter b (p+k)) }) (sl':=.xf b (p+k)) (x:=x) (by rw[hx];rfl) rfl (fun cs=>by rw[hx];simp) rfl rfl rfl (by simp)
   (fun q hq=>by simp only;rw[Array.getElem?_setIfInBounds_ne (fun e=>hq e.symm)]) ⟨hv,by simp [hsz]⟩
  obtain⟨β',R'⟩:=R1.val (v:=.tuple #[.bool true,.int .i64 p,.int .i32 c]) (v':=.tuple #[.bool true,.int .i64 p,.int .i32 c]) hd1 (.tuple rfl fun j u u' h1 h2=>by
   match j with
   | 0=>cases h1;cases h2;exact .pure rfl
   | 1=>cases h1;cases h2;exact .pure rfl
   | 2=>cases h1;cases h2;exact .pure rfl
   | j+3=>simp at h1)
  refine bz (aN R hw) ?_ (ih B n μ β' _ _ R' hd2 Q hQ)
  have hg:(getObj (β x)).run N.P w = .ok (.stringIter b p) w:=by simp [getObj,Sem.run,hb]
  have hset:∀ o:Obj,(setObj (β x) o).run N.P w = .ok () { w with heap:=w.heap.setIfInBounds (β x) o }:=fun o=>by simp [setObj,Sem.run,hb]
  have he:a.eval (.tmp x) = .pointer (some ⟨β x,0,none⟩):=hv
  simp only[execOp,ho,he,Instr.next,Sem.run_bind,hg,Result.andThen_ok,hp,if_true,hdec,hset,Sem.run_pure]
  rfl
| @nQ all o r s s1 x p b hw ho hx hp _ ih=>
  intro B n μ β a w R hds Q hQ
  obtain⟨hd1,hd2⟩:=bR hds
  have hxn:=di R (t:=x) (by rw[hx];simp)
  have hs:=R.slot x hxn
  rw[hx] at hs
  obtain⟨hv,hb⟩:=hs
  obtain⟨β',R'⟩:=R.val (v:=.tuple #[.bool false]) (v':=.tuple #[.bool false]) hd1 (.tuple rfl fun j u u' h1 h2=>by
   match j with
   | 0=>cases h1;cases h2;exact .pure rfl
   | j+1=>simp at h1)
  refine bz (aN R hw) ?_ (ih B n μ β' _ _ R' hd2 Q hQ)
  have hg:(getObj (β x)).run N.P w = .ok (.stringIter b p) w:=by simp [getObj,Sem.run,hb]
  have he:a.eval (.tmp x) = .pointer (some ⟨β x,0,none⟩):=hv
  simp only[execOp,ho,he,Instr.next,Sem.run_bind,hg,Result.andThen_ok,if_neg (show ¬ p<b.size by omega),Sem.run_pure]
| Oa _ hq ih=>exact fun B n μ β a w R hd Q hQ=>ih B n μ β a w R hd Q fun μ' β' a' w' R'=>hQ _ _ _ _ _ _ hq R'
| Hd _ hm ih=>exact fun B n μ β a w R hd Q hQ=>ih B n μ β a w R hd Q fun e s' μ' β' a' w' h R'=>hQ _ _ _ _ _ _ (hm _ _ h) R'
| Kw hf hh he _ ih=>exact fun B n μ β a w R hd Q hQ=>ih B n μ β a w (R.ss hf hh he) hd Q hQ
| @O5 c1 c2 s R0 Q0 _ hx _ ih1 ih2=>
  intro B n μ β a w R hd Q hQ
  simp only[ef,Bool.and_eq_true] at hd
  refine wp_seq (ih1 B n μ β a w R hd.1 _ fun e s' μ' β' a' w' h R'=>?_)
  by_cases he:e = .normal
  ·subst he
   exact ih2 s' h B n μ' β' a' w' R' hd.2 Q hQ
  ·exact AX.nC he (hQ _ _ _ _ _ _ (hx _ _ h he) R')
| EA _ ih=>
  intro B n μ β a w R hd Q hQ
  simp only[ef] at hd
  exact wp_block (ih B n μ β a w R hd _ fun e s' μ' β' a' w' h R'=>AX.oa (hQ _ _ _ _ _ _ h R'))
| S9 hc _ ih=>
  intro B n μ β a w R hd Q hQ
  simp only[ef,Bool.and_eq_true] at hd
  refine wp_cond (aI R hc).bool (ih B n μ β a w R ?_ Q hQ)
  split
  ·exact hd.1
  ·exact hd.2
| @Kt c s Q0 Inv k h0 _ ih=>
  intro B n μ β a w R hd Q hQ
  simp only[ef] at hd
  have key:∀ (k:Nat) (s':St) (μ:Mu) (β:Nat→Nat) (a:Act) (w:World),Inv k s'→cb N B n μ β s' a w→Code.rounds N.P c Q (k+1) a w:=by
   intro k
   induction k with
   | zero=>
     intro s' μ β a w hI R
     rw[rounds_succ]
     refine ih 0 s' hI B n μ β a w R hd _ fun e s2 μ' β' a' w' h R'=>?_
     rcases h with ⟨_,m,hm,_⟩ | ⟨he,hq⟩
     ·omega
     ·exact AX.nC he (hQ _ _ _ _ _ _ hq R')
   | succ k ihk=>
     intro s' μ β a w hI R
     rw[rounds_succ]
     refine ih (k+1) s' hI B n μ β a w R hd _ fun e s2 μ' β' a' w' h R'=>?_
     rcases h with ⟨rfl,m,hm,hI'⟩ | ⟨he,hq⟩
     ·obtain rfl:k=m:=by omega
      exact ihk s2 μ' β' a' w' hI' R'
     ·exact AX.nC he (hQ _ _ _ _ _ _ hq R')
  exact wp_loop_rounds _ (key k s μ β a w h0 R)
| @qZ all o r s s1 x m k i seen es kk vv hw ho hx hob hlen hone hkv hpk _ ih=>
  intro B n μ β a w R hds Q hQ
  obtain⟨hd1,hd2⟩:=bR hds
  rcases R.next (ty:=o.type) hx hob hlen with ⟨hall,hrun⟩ | ⟨i',k',v',ke,w',hkv',hni,hvr,hrun,R2⟩
  ·have:i∈(List.range k).filter fun j=>!seen.contains j:=by rw[hone];simp
   simp only[List.mem_filter,List.mem_range] at this
   have h2:=hall i this.1
   simp [h2] at this
  ·have:i'∈(List.range k).filter fun j=>!seen.contains j:=by
    simp only[List.mem_filter,List.mem_range]
    refine⟨by rw[← hlen];exact (List.getElem?_eq_some_iff.1 hkv').1,by simpa using hni⟩
   rw[hone,List.mem_singleton] at this
   subst this
   rw[hkv] at hkv'
   cases hkv'
   obtain⟨β',R3⟩:=R2.val (d:=o.dst) (v:=.tuple #[.bool true,kk,vv]) (v':=.tuple #[.bool true,kk,ke]) hd1 (.tuple rfl fun j u u' h1 h2=>by
    match j with
    | 0=>cases h1;cases h2;exact .pure rfl
    | 1=>cases h1;cases h2;exact .g6 hpk
    | 2=>cases h1;cases h2;exact hvr
    | j+3=>simp at h1)
   exact bz (aN R hw) (v:=.tuple #[.bool true,kk,ke]) (w':=w') (by simp only[execOp,ho,Sem.run_bind,hrun,Result.andThen_ok,Sem.run_pure]) (ih B n μ β' _ _ R3 hd2 Q hQ)
| @rv all o r s s1 x m k seen es hw ho hx hob hlen hone _ ih=>
  intro B n μ β a w R hds Q hQ
  obtain⟨hd1,hd2⟩:=bR hds
  rcases R.next (ty:=o.type) hx hob hlen with ⟨hall,hrun⟩ | ⟨i',k',v',ke,w',hkv',hni,hvr,hrun,R2⟩
  ·obtain⟨β',R3⟩:=R.val (d:=o.dst) (v:=.tuple #[.bool false]) (v':=.tuple #[.bool false]) hd1 (.tuple rfl fun j u u' h1 h2=>by
    match j with
    | 0=>cases h1;cases h2;exact .pure rfl
    | j+1=>simp at h1)
   exact bz (aN R hw) (v:=.tuple #[.bool false]) (w':=w) (by simp only[execOp,ho,Sem.run_bind,hrun,Result.andThen_ok,Sem.run_pure]) (ih B n μ β' _ _ R3 hd2 Q hQ)
  ·have:i'∈(List.range k).filter fun j=>!seen.contains j:=by
    simp only[List.mem_filter,List.mem_range]
    refine⟨by rw[← hlen];exact (List.getElem?_eq_some_iff.1 hkv').1,by simpa using hni⟩
   rw[hone] at this
   cases this
| @KL id ops o r s s0 x d m k seen es Q0 f hops hg ho hdst hxd hx hob hlen hpu _ hq0 _ hq1 ih0 ih1=>
  intro B n μ β a w R hd Q hQ
  simp only[ef] at hd
  rw[hops] at hd
  obtain⟨hd1,hd2⟩:=bR hd
  have R':cb N B n μ β { s with eH:=[] } a w:=⟨R.defers,R.size,R.slot,R.hi,(fun t g sl off hm=>by cases hm),R.heap,R.fr,R.ext,R.own,R.eF,R.jo,R.nz,R.eN⟩
  refine wp_region_list ?_
  rw[hops]
  have hw:Region.wanted o (yielded ops a.tmps)=true:=by unfold Region.wanted;rw[hg]
  rcases R'.next (ty:=o.type) (x:=x) hx hob hlen with ⟨hall,hrun⟩ | ⟨i,kk,vv,ke,w',hkv,hni,hvr,hrun,R2⟩
  ·obtain⟨β',R2⟩:=R'.val (d:=some d) (v:=.tuple #[.bool false]) (v':=.tuple #[.bool false]) (fun z hz=>hd1 z (hdst.trans hz)) (.tuple rfl fun j u u' h1 h2=>by
    match j with
    | 0=>cases h1;cases h2;exact .pure rfl
    | j+1=>simp at h1)
   refine bz hw (v:=.tuple #[.bool false]) (w':=w) (by simp only[execOp,ho,Sem.run_bind,hrun,Result.andThen_ok,Sem.run_pure]) ?_
   rw[hdst]
   exact ih0 hall B n μ β' _ _ R2 hd2 Q fun μ' β' a' w' R3=>hQ _ _ _ _ _ _ (hq0 hall) R3
  ·have hpk:fT kk=true:=(List.all_eq_true.1 hpu) (kk,vv) (List.mem_of_getElem? hkv)
   obtain⟨β',R3⟩:=R2.val (d:=some d) (v:=.tuple #[.bool true,kk,vv]) (v':=.tuple #[.bool true,kk,ke]) (fun z hz=>hd1 z (hdst.trans hz)) (.tuple rfl fun j u u' h1 h2=>by
    match j with
    | 0=>cases h1;cases h2;exact .pure rfl
    | 1=>cases h1;cases h2;exact .g6 hpk
    | 2=>cases h1;cases h2;exact hvr
    | j+3=>simp at h1)
   refine bz hw (v:=.tuple #[.bool true,kk,ke]) (w':=w') (by simp only[execOp,ho,Sem.run_bind,hrun,Result.andThen_ok,Sem.run_pure]) ?_
   rw[hdst]
   exact ih1 i kk vv hkv hni B n μ β' _ _ R3 hd2 Q fun μ' β' a' w' R4=>hQ _ _ _ _ _ _ (hq1 i kk vv hkv hni) R4
| Pw _ he ih=>exact fun B n μ β a w R hd Q hQ=>ih B n μ β a w R hd Q fun e' s' μ' β' a' w' ⟨h1,h2,h3⟩ R'=>h1▸hQ _ _ _ _ (R'.ss h2 h3 he)}
theorem Ev.calls (hN:mC N) {f:FuncId} {args:List Value} {h h':ah} {r:Value} (e:Ev N (.call f args h r h')):qW N f args h r h':=sound hN e
end
def CW (N:Env) (c:Code) (s:St) (Q:AX→St→Prop):Prop:=∃ e s',Ev N (.code c s e s')∧Q e s'
def IW (N:Env) (c:Code) (s:St) (Q:AX→St→Prop):Prop:=∃ e s',Ev N (.iter c s e s')∧Q e s'
def OW (N:Env) (all:Array Oper) (l:List Oper) (s:St) (Q:St→Prop):Prop:=∃ s',Ev N (.ops all l s s')∧Q s'
def FW (N:Env) (f:FuncId) (args:List Value) (h:ah) (Q:Value→ah→Prop):Prop:=∃ r h',Ev N (.call f args h r h')∧Q r h'
def Ra (N:Env) (b:Code) (Q:AX→St→Prop):AX→St→Prop
 | .normal,s=>CW N b s Q
 | e,s=>Q e s
def LW (id:Nat) (Q:AX→St→Prop):AX→St→Prop:=fun e s=>Q (e.inBlock id) s
def OX (I:Nat→St→Prop) (n:Nat) (Q:AX→St→Prop):AX→St→Prop
 | .normal,s=>∃ m,m<n∧I m s
 | e,s=>Q e s
section
variable {N:Env} {s:St} {Q:AX→St→Prop}
theorem CW.mono {c:Code} {Q':AX→St→Prop} (h:CW N c s Q) (k:∀ e s,Q e s→Q' e s):CW N c s Q':=let ⟨e,s',h1,h2⟩:=h;⟨e,s',h1,k _ _ h2⟩
theorem FW.mono {f:FuncId} {args:List Value} {h:ah} {Q Q':Value→ah→Prop} (hh:FW N f args h Q) (k:∀ r h',Q r h'→Q' r h'):FW N f args h Q':=let ⟨r,h',h1,h2⟩:=hh;⟨r,h',h1,k _ _ h2⟩
theorem cz (h:Q .normal s):CW N .skip s Q:=⟨_,_,.skip s,h⟩
theorem Fk {l:Nat} (h:Q .normal s):CW N (.label l) s Q:=⟨_,_,.label l s,h⟩
theorem az {id:Nat} (h:Q (.exit id) s):CW N (.exit id) s Q:=⟨_,_,.exit id s,h⟩
theorem ai (h:Q .ret s):CW N .ret s Q:=⟨_,_,.ret s,h⟩
theorem vM {a b:Code} (h:CW N a s (Ra N b Q)):CW N (.seq a b) s Q:=by{
obtain⟨e,s1,h1,h2⟩:=h
cases e with
| normal=>obtain⟨e2,s2,k1,k2⟩:=h2;exact⟨e2,s2,.NB h1 k1,k2⟩
| exit id=>exact⟨_,s1,.IR h1 (by simp),h2⟩
| ret=>exact⟨_,s1,.IR h1 (by simp),h2⟩}
theorem dF {c:Operand} {x y:Code} {t:Bool} (hc:ev s c=some (.bool t)) (h1:t=true→CW N x s Q) (h2:t=false→CW N y s Q):CW N (.cond c x y) s Q:=by{
cases t with
| true=>obtain⟨e,s1,k1,k2⟩:=h1 rfl;exact⟨e,s1,.cond hc k1,k2⟩
| false=>obtain⟨e,s1,k1,k2⟩:=h2 rfl;exact⟨e,s1,.cond hc k1,k2⟩}
theorem ae {c:Operand} {x y:Code} (hc:ev s c=some (.bool true)) (h:CW N x s Q):CW N (.cond c x y) s Q:=dF hc (fun _=>h) (fun h=>by cases h)
theorem af {c:Operand} {x y:Code} (hc:ev s c=some (.bool false)) (h:CW N y s Q):CW N (.cond c x y) s Q:=dF hc (fun h=>by cases h) (fun _=>h)
theorem EP {id:Nat} {c:Code} (h:CW N c s (LW id Q)):CW N (.block id c) s Q:=let ⟨_,s1,h1,h2⟩:=h;⟨_,s1,.block h1,h2⟩
theorem Hf {c:Code} (h:CW N c s Q):CW N (.scope c) s Q:=let ⟨_,s1,h1,h2⟩:=h;⟨_,s1,.scope h1,h2⟩
theorem DP {id:Nat} {ops:Array Oper} (h:OW N ops ops.toList { s with eH:=[] } (Q .normal)):CW N (.region id ops false) s Q:=let ⟨s1,h1,h2⟩:=h;⟨_,s1,.region h1,h2⟩
theorem HY {c:Code} {fr:Fr} (hf:pG fr s.fr) (h:CW N c ⟨fr,[],s.h⟩ Q):CW N c s Q:=let ⟨e,s1,h1,h2⟩:=h;⟨e,s1,.ss (s0:=⟨fr,[],s.h⟩) hf rfl rfl h1,h2⟩
theorem rr {c:Code} (I:Nat→St→Prop) (n:Nat) (h0:I n s) (hs:∀ n s,I n s→CW N c s (OX I n Q)):CW N (.loop c) s Q:=by{
have key:∀ n s,I n s→IW N c s Q:=by
 intro n
 induction n using Nat.strongRecOn with
 | _ n ih=>
   intro s hI
   obtain⟨e,s1,h1,h2⟩:=hs n s hI
   cases e with
   | normal=>
     obtain⟨m,hm,hI'⟩:=h2
     obtain⟨e2,s2,k1,k2⟩:=ih m hm s1 hI'
     exact⟨e2,s2,.GI h1 k1,k2⟩
   | exit id=>exact⟨_,s1,.Bh h1 (by simp),h2⟩
   | ret=>exact⟨_,s1,.Bh h1 (by simp),h2⟩
obtain⟨e,s1,h1,h2⟩:=key n s h0
exact⟨e,s1,.loop h1,h2⟩}
def QW (N:Env) (all:Array Oper) (l:List Oper) (s:St) (K:St→Prop):Prop:=∃ s',oz N all l s s'∧K s'
theorem aQ (n:Nat) {id:Nat} {ops:Array Oper} (hm:N.P.follows .mixedOrders=true) (hB:Region.lexTailB .any ops n=true)
 (h:QW N ops (ops.toList.take n) { s with eH:=[] } fun s1=>OW N ops (ops.toList.drop n) s1 (Q .normal)):CW N (.region id ops true) s Q:=by
 obtain⟨s1,h1,s2,h2,h3⟩:=h
 exact⟨_,s2,.Cd hm hB h1 h2,h3⟩
def BG (N:Env) (all:Array Oper) (o:Oper) (s:St):Option St:=
 match aF all o s with
 | none=>none
 | some false=>some (s.a9 o.dst (.val (.tuple #[])))
 | some true=>match rz N s o.op with
   | some v=>some (s.a9 o.dst (.val v))
   | none=>match xx N s o.op,o.dst with
     | some (sl,off),some d=>if sl=d then none else some { s with fr:=fP s.fr d .dH,eH:=(d,([],(sl,off))) :: eX s.eH d }
     | _,_=>none
theorem Nl {all:Array Oper} {K:St→Prop} (h:K s):QW N all [] s K:=⟨_,.nil s,h⟩
theorem HE {all:Array Oper} {o:Oper} {r:List Oper} {K:St→Prop} {s1:St} (h:BG N all o s=some s1) (k:QW N all r s1 K):QW N all (o :: r) s K:=by{
obtain⟨s2,k1,k2⟩:=k
refine⟨s2,?_,k2⟩
unfold BG at h
split at h
·cases h
·rename_i hw
 cases h
 exact .skip hw k1
·rename_i hw
 split at h
 ·rename_i v hv
  cases h
  exact .val hw hv k1
 ·split at h
  ·rename_i sl off d he hd
   split at h
   ·cases h
   ·rename_i hne
    cases h
    exact .eH hw hd he hne k1
  ·cases h}
def bA:Fr→Fr→Prop
 | [],_=>True
 | (k,v) :: r,f=>aW f k=v∧bA r f
theorem bA.sub:∀ {f0 f:Fr},bA f0 f→pG f0 f
 | [],_,_=>fun p hp=>by cases hp
 | (k,v) :: r,f,⟨h1,h2⟩=>fun p hp=>by
   rcases List.mem_cons.1 hp with rfl|hp
   ·exact h1
   ·exact bA.sub h2 p hp
theorem aB {c:Code} (fr:Fr) (hf:bA fr s.fr) (h:CW N c ⟨fr,[],s.h⟩ Q):CW N c s Q:=HY hf.sub h
def uT (N:Env) (all:Array Oper) (o:Oper) (s:St):Option St:=
 match aF all o s with
 | none=>none
 | some false=>some (s.a9 o.dst (.val (.tuple #[])))
 | some true=>match o.op,o.dst with
   | .box t x,some d=>(iA N s (.box t x)).map fun p=>s.put d (.box p.2)
   | .alloc t,some d=>(iA N s (.alloc t)).map fun p=>s.put d (.box p.2)
   | .buildSlice t l ps,some d=>(jw N s (.buildSlice t l ps)).map fun p=>s.put d (.mx p.2.1 p.2.2)
   | .store t a x,none=>match aq N.P t,pF s a,ev s x with
     | some ti,some (sl,off),some v=>match aW s.fr sl,dO ti.size v with
       | .box cs,some vs=>(ll cs off vs).map fun cs'=>{ s with fr:=fP s.fr sl (.box cs') }
       | _,_=>none
     | _,_,_=>none
   | op,d=>match rz N s op with
     | some v=>some (s.a9 d (.val v))
     | none=>match xx N s op,d with
       | some (sl,off),some d=>if sl=d then none else some { s with fr:=fP s.fr d .dH,eH:=(d,([],(sl,off))) :: eX s.eH d }
       | _,_=>none
variable {all:Array Oper} {o:Oper} {r:List Oper} {K:St→Prop}
theorem L0 (h:K s):OW N all [] s K:=⟨_,.nil all s,h⟩
theorem ei {s1:St} (h:uT N all o s=some s1) (k:OW N all r s1 K):OW N all (o :: r) s K:=by{
obtain⟨s2,k1,k2⟩:=k
refine⟨s2,?_,k2⟩
unfold uT at h
split at h
·cases h
·rename_i hw
 cases h
 exact .pa hw k1
·rename_i hw
 split at h
 ·rename_i t x d ho hd
  cases hb:iA N s (.box t x) with
  | none=>simp [hb] at h
  | some p=>
    simp only[hb,Option.map_some,Option.some.injEq] at h
    subst h
    exact .uL hw hd (by rw[ho];exact hb) k1
 ·rename_i t d ho hd
  cases hb:iA N s (.alloc t) with
  | none=>simp [hb] at h
  | some p=>
    simp only[hb,Option.map_some,Option.some.injEq] at h
    subst h
    exact .uL hw hd (by rw[ho];exact hb) k1
 ·rename_i t l ps d ho hd
  cases hb:jw N s (.buildSlice t l ps) with
  | none=>simp [hb] at h
  | some p=>
    simp only[hb,Option.map_some,Option.some.injEq] at h
    subst h
    exact .xI hw hd (by rw[ho];exact hb) k1
 ·rename_i t a x ho hd
  split at h
  ·rename_i ti sl off v ht hp hx
   split at h
   ·rename_i cs vs hb hv
    cases hq:Am.ll cs off vs with
    | none=>simp [hq] at h
    | some cs'=>
      simp only[hq,Option.map_some,Option.some.injEq] at h
      subst h
      exact .yg hw ho ht hp hb hx hv hq hd k1
   ·cases h
  ·cases h
 ·split at h
  ·rename_i v hv
   cases h
   exact .rP hw hv k1
  ·split at h
   ·rename_i sl off d he hd
    split at h
    ·cases h
    ·rename_i hne
     cases h
     exact .xE hw hd he hne k1
   ·cases h}
def sZ (N:Env) (all:Array Oper) (o:Oper) (s:St):Option St:=
 match pS all o s,o.dst with
 | some ks,some d=>match rz N (s.sL ks) o.op with
   | some v=>some (s.put d (.Cc ks v))
   | none=>match xx N (s.sL ks) o.op with
     | some (sl,off)=>if sl=d then none else some { s with fr:=fP s.fr d .dH,eH:=(d,(ks,(sl,off))) :: eX s.eH d }
     | none=>none
 | _,_=>none
theorem Ir {s1:St} (h:sZ N all o s=some s1) (k:OW N all r s1 K):OW N all (o :: r) s K:=by{
obtain⟨s2,k1,k2⟩:=k
refine⟨s2,?_,k2⟩
unfold sZ at h
split at h
·rename_i ks d hg hd
 split at h
 ·rename_i v hv
  cases h
  exact .xj hg hv hd k1
 ·split at h
  ·rename_i sl off he
   split at h
   ·cases h
   ·rename_i hne
    cases h
    exact .rA hg he hd hne k1
  ·cases h
·cases h}
theorem J9 {s1:St} (h:sZ N all o s=some s1) (k:QW N all r s1 K):QW N all (o :: r) s K:=by{
obtain⟨s2,k1,k2⟩:=k
refine⟨s2,?_,k2⟩
unfold sZ at h
split at h
·rename_i ks d hg hd
 split at h
 ·rename_i v hv
  cases h
  exact .spec hg hv hd k1
 ·split at h
  ·rename_i sl off he
   split at h
   ·cases h
   ·rename_i hne
    cases h
    exact .KQ hg he hd hne k1
  ·cases h
·cases h}
theorem rG {c:Call} {f:FuncId} {cap args:List Value} {fn:Func} (hw:aF all o s=some true) (ho:o.op = .call c) (hc:fH s c.callee=some (f,cap)) (ha:tT s c.args.toList=some args)
 (hf:N.P.funcs[f]? = some fn) (hnm:(fn.name == "runtime.NumGoroutine")=false) (hb:fn.body.isNone=false)
 (h:FW N f (args++cap) s.h fun v h'=>OW N all r ({ s with h:=h' }.a9 o.dst (.val v)) K):OW N all (o :: r) s K:=by
 obtain⟨v,h',h1,s2,k1,k2⟩:=h
 exact⟨s2,.oM hw ho hc ha hf hnm hb h1 k1,k2⟩
theorem P5 {t:TypeId} {cs:List Value} {n:Nat} (hw:aF all o s=some true) (hm:zL N s o.op=some (t,cs,n))
 (k:OW N all r ({ s with h:=s.h++[av.aA cs 0 true t] }.a9 o.dst (.val (.slice (some ⟨s.h.length,0,some 0⟩) n n))) K):OW N all (o :: r) s K:=by
 obtain⟨s2,k1,k2⟩:=k
 exact⟨s2,.DS hw hm k1,k2⟩
theorem dA {t:TypeId} {cs:List Value} (hw:aF all o s=some true) (hm:iA N s o.op=some (t,cs))
 (k:OW N all r ({ s with h:=s.h++[av.aA cs 0 true t] }.a9 o.dst (.val (.pointer (some ⟨s.h.length,0,some 0⟩)))) K):OW N all (o :: r) s K:=by
 obtain⟨s2,k1,k2⟩:=k
 exact⟨s2,.pE hw hm k1,k2⟩
theorem bV {t et:TypeId} {a x:Operand} {ti:TI} {id off ar:Nat} {cells vs cells':List Value} {v:Value} (hw:aF all o s=some true) (ho:o.op = .store t a x) (hd:o.dst=none) (ht:aq N.P t=some ti)
 (ha:ev s a=some (.pointer (some ⟨id,off,some ar⟩))) (hid:s.h[id]? = some (.aA cells ar true et)) (hx:ev s x=some v) (hv:dO ti.size v=some vs) (hq:ll cells off vs=some cells')
 (k:OW N all r { s with h:=s.h.set id (av.aA cells' ar true et) } K):OW N all (o :: r) s K:=by
 obtain⟨s2,k1,k2⟩:=k
 exact⟨s2,.pz hw ho ht ha hid hx hv hq hd k1,k2⟩
theorem kP {t kt et:TypeId} (hw:aF all o s=some true) (ho:o.op = .makeMap t none) (hu:N.P.underlying t=some (.map kt et))
 (k:OW N all r ({ s with h:=s.h++[av.map []] }.a9 o.dst (.val (.map (some s.h.length)))) K):OW N all (o :: r) s K:=by
 obtain⟨s2,k1,k2⟩:=k
 exact⟨s2,.uJ hw ho hu k1,k2⟩
theorem fN {t kt et:TypeId} {x i y:Operand} {id:Nat} {es:List (Value×Value)} {kd:Value→Bool} {k v:Value} (hw:aF all o s=some true) (ho:o.op = .mapUpdate t x i y) (hd:o.dst=none) (hu:N.P.underlying t=some (.map kt et))
 (hkd:N.keys kt=some kd) (hx:ev s x=some (.map (some id))) (hid:s.h[id]? = some (.map es)) (hk:ev s i=some k) (hv:ev s y=some v) (hkk:kd k=true) (hmk:eG kd es=true)
 (g:OW N all r { s with h:=s.h.set id (av.map (iU es k v)) } K):OW N all (o :: r) s K:=by
 obtain⟨s2,k1,k2⟩:=g
 exact⟨s2,.um hw ho hu hkd hx hid hk hv hkk hmk hd k1,k2⟩
theorem IP {x y:Operand} {t e:TypeId} {ti:TI} {p q:Option Addr} {n c c':Nat} (hw:aF all o s=some true) (ho:o.op = .call { callee:=.builtin .append,args:=#[x,y],argTypes:=#[t,t] }) (hu:N.P.underlying t=some (.slice e)) (ht:aq N.P e=some ti)
 (hx:ev s x=some (.slice p n c)) (hy:ev s y=some (.slice q 0 c')) (k:OW N all r (s.a9 o.dst (.val (.slice p n c))) K):OW N all (o :: r) s K:=by
 obtain⟨s2,k1,k2⟩:=k
 exact⟨s2,.s9 hw ho hu rfl ht hx hy k1,k2⟩
theorem og {x y:Operand} {t e:TypeId} {ti:TI} {cs:List Value} {m:Nat} (hw:aF all o s=some true) (ho:o.op = .call { callee:=.builtin .append,args:=#[x,y],argTypes:=#[t,t] }) (hu:N.P.underlying t=some (.slice e)) (ht:aq N.P e=some ti) (hs0:0<ti.size)
 (hz:(ti.zero.map fun z=>z.cells.size)=some ti.size) (hx:ev s x=some (.slice none 0 0)) (hi:cd s s.h ti.size y=some (cs,m)) (hm:0<m) (hb:m*ti.bytes≤140737488355328) (hmx:m≤140737488355328)
 (k:OW N all r ({ s with h:=s.h++[av.aA cs 0 true e] }.a9 o.dst (.val (.slice (some ⟨s.h.length,0,some 0⟩) m m))) K):OW N all (o :: r) s K:=by
 obtain⟨s2,k1,k2⟩:=k
 exact⟨s2,.oF hw ho hu rfl ht hs0 hz hx hi hm hb hmx k1,k2⟩
theorem oZ {x y:Operand} {t e:TypeId} {ti:TI} {cs cells:List Value} {m n c id ar:Nat} (hw:aF all o s=some true) (ho:o.op = .call { callee:=.builtin .append,args:=#[x,y],argTypes:=#[t,t] }) (hu:N.P.underlying t=some (.slice e)) (ht:aq N.P e=some ti) (hs0:0<ti.size)
 (hz:(ti.zero.map fun z=>z.cells.size)=some ti.size) (hx:ev s x=some (.slice (some ⟨id,0,some ar⟩) n c)) (hid:s.h[id]? = some (.aA cells ar true e)) (hn:n*ti.size≤cells.length) (hi:cd s s.h ti.size y=some (cs,m))
 (hb:(n+m)*ti.bytes≤140737488355328) (hmx:n+m≤140737488355328)
 (k:OW N all r ({ s with h:=s.h.set id (av.aA (cells.take (n*ti.size)++cs) (ar+1) true e) }.a9 o.dst (.val (.slice (some ⟨id,0,some (ar+1)⟩) (n+m) (n+m)))) K):OW N all (o :: r) s K:=by
 obtain⟨s2,k1,k2⟩:=k
 exact⟨s2,.uR hw ho hu rfl ht hs0 hz hx hid hn hi hb hmx k1,k2⟩
theorem Ix {x y:Operand} {t t2 e:TypeId} {ti:TI} {cells:List Value} {n c id ar:Nat} {b:ByteArray} (hw:aF all o s=some true) (ho:o.op = .call { callee:=.builtin .append,args:=#[x,y],argTypes:=#[t,t2] }) (hu:N.P.underlying t=some (.slice e)) (hu2:N.P.underlying t2=some .string) (ht:aq N.P e=some ti)
 (hs:ti.size=1) (hb1:ti.bytes=1) (hz:ti.zero=some (.int .u8 0)) (hx:ev s x=some (.slice (some ⟨id,0,some ar⟩) n c)) (hid:s.h[id]? = some (.aA cells ar true e)) (hn:n≤cells.length) (hy:ev s y=some (.string b)) (hb:n+b.size≤140737488355328)
 (k:OW N all r ({ s with h:=s.h.set id (av.aA (cells.take n++bL b) (ar+1) true e) }.a9 o.dst (.val (.slice (some ⟨id,0,some (ar+1)⟩) (n+b.size) (n+b.size)))) K):OW N all (o :: r) s K:=by
 obtain⟨s2,k1,k2⟩:=k
 exact⟨s2,.rW hw ho hu hu2 ht hs hb1 hz hx hid hn hy hb k1,k2⟩
theorem ES {t t2 e:TypeId} {ti:TI} {x:Operand} {b:ByteArray} (hw:aF all o s=some true) (ho:o.op = .convert t t2 x) (hu:N.P.underlying t=some .string) (hu2:N.P.underlying t2=some (.slice e)) (he:N.P.underlying e=some (.int .u8)) (ht:aq N.P e=some ti) (hs:ti.size=1)
 (hx:ev s x=some (.string b)) (hb:b.size≤140737488355328) (k:OW N all r ({ s with h:=s.h++[av.aA (bL b) 0 false e] }.a9 o.dst (.val (.slice (some ⟨s.h.length,0,some 0⟩) b.size b.size))) K):OW N all (o :: r) s K:=by
 obtain⟨s2,k1,k2⟩:=k
 exact⟨s2,.zA hw ho hu hu2 he ht hs hx hb k1,k2⟩
theorem EI {d id:Nat} {t kt et:TypeId} {x:Operand} {es:List (Value×Value)} (hw:aF all o s=some true) (hd:o.dst=some d) (ho:o.op = .range t x) (hu:N.P.underlying t=some (.map kt et)) (hx:ev s x=some (.map (some id))) (hid:s.h[id]? = some (.map es))
 (k:OW N all r (s.put d (.nn id es.length [])) K):OW N all (o :: r) s K:=by
 obtain⟨s2,k1,k2⟩:=k
 exact⟨s2,.mj hw hd ho hu hx hid k1,k2⟩
theorem HN {d:Nat} {t:TypeId} {x:Operand} {b:ByteArray} (hw:aF all o s=some true) (hd:o.dst=some d) (ho:o.op = .range t x) (hu:N.P.underlying t=some .string) (hx:ev s x=some (.string b)) (k:OW N all r (s.put d (.xf b 0)) K):OW N all (o :: r) s K:=by
 obtain⟨s2,k1,k2⟩:=k
 exact⟨s2,.j7 hw hd ho hu hx k1,k2⟩
theorem ER {x p:Nat} {b:ByteArray} (hw:aF all o s=some true) (ho:o.op = .next (.tmp x) true) (hx:aW s.fr x = .xf b p) (hp:p<b.size)
 (k:OW N all r ({ s with fr:=fP s.fr x (.xf b (p+(Utf8.decode b p).2)) }.a9 o.dst (.val (.tuple #[.bool true,.int .i64 p,.int .i32 (Utf8.decode b p).1]))) K):OW N all (o :: r) s K:=by
 obtain⟨s2,k1,k2⟩:=k
 exact⟨s2,.nL hw ho hx hp rfl k1,k2⟩
theorem G0 {x p:Nat} {b:ByteArray} (hw:aF all o s=some true) (ho:o.op = .next (.tmp x) true) (hx:aW s.fr x = .xf b p) (hp:b.size≤p) (k:OW N all r (s.a9 o.dst (.val (.tuple #[.bool false]))) K):OW N all (o :: r) s K:=by
 obtain⟨s2,k1,k2⟩:=k
 exact⟨s2,.nQ hw ho hx hp k1,k2⟩
theorem wD {f:FuncId} {args:List Value} {h h':ah} {v:Value} {K:Value→ah→Prop} (hp:N.mA f args h=some (v,h')) (k:K v h'):FW N f args h K:=⟨v,h',.NG hp,k⟩
def uV (args:List Value):Fr:=args.zipIdx.map fun p=>(p.2,gu.val p.1)
theorem Dk {args:List Value} {n:Nat}:pG (uV args) (jS args n):=by{
intro p hp
unfold uV at hp
rw[List.mem_map] at hp
obtain⟨⟨v,i⟩,hm,rfl⟩:=hp
have hi:i<args.length∧args[i]? = some v:=by
 have:=List.mem_zipIdx_iff_getElem?.1 hm
 exact⟨(List.getElem?_eq_some_iff.1 this).1,this⟩
unfold jS
rw[mg,dif_pos ⟨Nat.zero_le _,by simp only[List.length_append,Nat.sub_zero];omega⟩]
simp only[Nat.sub_zero]
congr 1
rw[List.getElem_append_left hi.1]
exact (List.getElem?_eq_some_iff.1 hi.2).2}
def PB (N:Env) (fn:Func) (K:Value→ah→Prop):AX→St→Prop
 | .exit _,_=>False
 | _,s=>∃ rs,tx N s fn.results.toList=some rs∧K (cI rs) s.h
theorem Gi {f:FuncId} {fn:Func} {c:Code} {args:List Value} {h:ah} {K:Value→ah→Prop} (hf:N.P.funcs[f]? = some fn) (hb:fn.body=some c) (hd:ef fn.ntmps c=true) (hl:args.length≤fn.ntmps) (k:CW N c ⟨uV args,[],h⟩ (PB N fn K)):FW N f args h K:=by{
obtain⟨e,s1,k1,k2⟩:=k
have k1':Ev N (.code c ⟨jS args fn.ntmps,[],h⟩ e s1):=.ss (s0:=⟨uV args,[],h⟩) Dk rfl rfl k1
cases e with
| normal=>obtain⟨rs,q1,q2⟩:=k2;exact⟨_,_,.call hf hb hd hl k1' (.inl rfl) q1,q2⟩
| ret=>obtain⟨rs,q1,q2⟩:=k2;exact⟨_,_,.call hf hb hd hl k1' (.inr rfl) q1,q2⟩
| exit id=>exact k2.elim}
end
def Cq (all:Array Oper) (o:Oper) (s:St):Option (FuncId×List Value×List Value):=match aF all o s with
 | some true=>match o.op with
   | .call c=>match fH s c.callee,tT s c.args.toList with
     | some (f,cap),some args=>some (f,cap,args)
     | _,_=>none
   | _=>none
 | _=>none
attribute [push_cast] Cq
section
variable {N:Env} {s:St} {Q:AX→St→Prop} {all:Array Oper} {o:Oper} {r:List Oper} {K:St→Prop}
theorem zx {s1:St} (h:uT N all o s=some s1∨sZ N all o s=some s1) (k:OW N all r s1 K):OW N all (o :: r) s K:=h.elim (fun h=>ei h k) (fun h=>Ir h k)
theorem zy {s1:St} (h:BG N all o s=some s1∨sZ N all o s=some s1) (k:QW N all r s1 K):QW N all (o :: r) s K:=h.elim (fun h=>HE h k) (fun h=>J9 h k)
theorem zc {f:FuncId} {cap args:List Value} {fn:Func} (h:Cq all o s=some (f,cap,args)) (hf:N.P.funcs[f]? = some fn) (hnm:(fn.name == "runtime.NumGoroutine")=false) (hb:fn.body.isNone=false) (k:FW N f (args++cap) s.h fun v h'=>OW N all r ({ s with h:=h' }.a9 o.dst (.val v)) K):OW N all (o :: r) s K:=by{
unfold Cq at h
split at h
·rename_i hw
 split at h
 ·rename_i c ho
  split at h
  ·rename_i f' cap' args' h1 h2
   cases h
   exact rG hw ho h1 h2 hf hnm hb k
  ·cases h
 ·cases h
·cases h}
theorem zs {a b:Code} (h:CW N a s (Ra N b Q)):CW N (.seq a b) s Q:=vM h
theorem zr {id:Nat} {ops:Array Oper} (h:OW N ops ops.toList { s with eH:=[] } (Q .normal)):CW N (.region id ops false) s Q:=DP h
theorem zn (h:K s):OW N all [] s K:=L0 h
theorem zq (h:K s):QW N all [] s K:=Nl h
theorem zb {id:Nat} {c:Code} (h:CW N c s (LW id Q)):CW N (.block id c) s Q:=EP h
theorem zo {c:Code} (h:CW N c s Q):CW N (.scope c) s Q:=Hf h
theorem zl {l:Nat} (h:Q .normal s):CW N (.label l) s Q:=Fk h
theorem zk (h:Q .normal s):CW N .skip s Q:=cz h
end
def SW (N:Env) (c:Code) (s:St) (Q:AX→St→Prop):Prop:=Ev N (.hZ c s Q)
section
variable {N:Env} {s:St} {Q:AX→St→Prop}
theorem SW.of {c:Code} (h:CW N c s Q):SW N c s Q:=by
 obtain⟨e,s1,h1,h2⟩:=h
 exact .Oa h1 h2
theorem SW.mono {c:Code} {R:AX→St→Prop} (h:SW N c s R) (k:∀ e s',R e s'→Q e s'):SW N c s Q:=.Hd h k
theorem ta {a b:Code} {R:AX→St→Prop} (h:SW N a s R) (hx:∀ e s',R e s'→e≠.normal→Q e s') (k:∀ s',R .normal s'→SW N b s' Q):SW N (.seq a b) s Q:=.O5 h hx k
theorem xV {id:Nat} {c:Code} (h:SW N c s (LW id Q)):SW N (.block id c) s Q:=.EA h
theorem gY {c:Code} (fr:Fr) (hf:bA fr s.fr) (h:SW N c ⟨fr,[],s.h⟩ Q):SW N c s Q:=.Kw (s0:=⟨fr,[],s.h⟩) hf.sub rfl rfl h
theorem BM {c:Code} (I:Nat→St→Prop) (k:Nat) (h0:I k s) (hs:∀ k s,I k s→SW N c s (fun e s'=>(e = .normal∧∃ m,k=m+1∧I m s')∨(e≠.normal∧Q e s'))):SW N (.loop c) s Q:=.Kt I k h0 hs
theorem FZ {c:Code} {e:AX} (fr:Fr) (h:ah) (hs:SW N c s (fun e' s'=>e'=e∧bA fr s'.fr∧s'.h=h)) (k:Q e ⟨fr,[],h⟩):CW N c s Q:=
 ⟨e,⟨fr,[],h⟩,.Pw (.Hd hs fun e' s' ⟨h1,h2,h3⟩=>⟨h1,h2.sub,h3.symm⟩) rfl,k⟩
theorem BJ {A:Type} {p:A→Prop} {all:Array Oper} {l:List Oper} {st:A→St} {K:A→St→Prop} (h:∀ a,p a→OW N all l (st a) (K a)):∃ f:A→St,∀ a,p a→Ev N (.ops all l (st a) (f a))∧K a (f a):=by{
have:∀ a:A,∃ s',p a→Ev N (.ops all l (st a) s')∧K a s':=fun a=>by
 by_cases hp:p a
 ·obtain⟨s',h1,h2⟩:=h a hp
  exact⟨s',fun _=>⟨h1,h2⟩⟩
 ·exact⟨st a,fun h=>(hp h).elim⟩
exact⟨fun a=>(this a).choose,fun a=>(this a).choose_spec⟩}
theorem Cn {id:Nat} {ops:Array Oper} {o:Oper} {r:List Oper} {x d m n:Nat} {seen:List Nat} {es:List (Value×Value)} (hops:ops.toList=o :: r) (hg:o.guard=none) (ho:o.op = .next (.tmp x) false) (hd:o.dst=some d) (hxd:x≠d) (hx:aW s.fr x = .nn m n seen) (hid:s.h[m]? = some (.map es)) (hl:es.length=n) (hp:es.all (fun p=>fT p.1)=true) (h0:(∀ i,i<n→i∈seen)→OW N ops r ({ s with eH:=[] }.put d (.val (.tuple #[.bool false]))) (Q .normal)) (h1:∀ (i:Nat) (k v:Value),es[i]? = some (k,v)→i∉seen→OW N ops r (St.put ⟨fP s.fr x (.nn m n (seen++[i])),[],s.h⟩ d (.val (.tuple #[.bool true,k,v]))) (Q .normal)):SW N (.region id ops false) s Q:=by{
obtain⟨f0,k0⟩:=BJ (A:=Unit) (p:=fun _=>∀ i,i<n→i∈seen) (st:=fun _=>{ s with eH:=[] }.put d (.val (.tuple #[.bool false]))) (K:=fun _=>Q .normal) fun _ hp=>h0 hp
obtain⟨f,k1⟩:=BJ (A:=Nat) (p:=fun i=>i<es.length∧i∉seen) (st:=fun i=>St.put ⟨fP s.fr x (.nn m n (seen++[i])),[],s.h⟩ d (.val (.tuple #[.bool true,(es[i]?.getD (.nilFunc,.nilFunc)).1,(es[i]?.getD (.nilFunc,.nilFunc)).2]))) (K:=fun _=>Q .normal) fun i ⟨hi,hn⟩=>by
 obtain⟨kv,hkv⟩:∃ kv,es[i]? = some kv:=⟨_,List.getElem?_eq_getElem hi⟩
 rw[hkv]
 exact h1 i kv.1 kv.2 hkv hn
refine .KL f hops hg ho hd hxd hx hid hl hp (fun h=>(k0 () h).1) (fun h=>(k0 () h).2) (fun i k v hkv hn=>?_) (fun i k v hkv hn=>(k1 i ⟨(List.getElem?_eq_some_iff.1 hkv).1,hn⟩).2)
have:=(k1 i ⟨(List.getElem?_eq_some_iff.1 hkv).1,hn⟩).1
rw[hkv] at this
exact this}
theorem FW.OG {f:FuncId} {args:List Value} {h:ah} {K:Value→ah→Prop} (hh:FW N f args h fun r h'=>∃ h1 g,h'=h1++g∧dv h1.length r∧h.length≤h1.length∧(∀ (i:Nat) (o:av),h1[i]? = some o→h[i]? = some o∨Rf h1.length o)∧K r h1):FW N f args h K:=by
 obtain⟨r,h',h0,h1,g,rfl,h2,h3,h4,h5⟩:=hh
 exact⟨r,h1,.OG h0 h2 h3 h4,h5⟩
end
attribute [irreducible] CW OW FW IW QW SW
theorem Ls (a b:Bool):(bif a then true else b)=(a||b):=by cases a<;>rfl
theorem HV (a b:Bool):(bif a then b else false)=(a&&b):=by cases a<;>rfl
theorem QY (a:Bool):(a == true)=a:=by cases a<;>rfl
theorem Qc (a:Bool):(a == false) = !a:=by cases a<;>rfl
attribute [push_cast] Bool.false_eq_true Ls HV QY Qc j9 tD pS nG zF Fm Cy St.sL sZ uT BG aF AM Nm Nh rz xx iA jw zL ev pF tT iD aW fP gn eX St.put St.a9 pQ JG SQ Vl vt ll dO fT be one Value.cells gi gv mZ lG mK F3 Pc nZ
 jl Be dX sC mS JI vO lL xi Tw np jD tp fH uV tx cI bA JX
 Option.map_some Option.map_none List.all_cons List.all_nil List.isEmpty_nil List.isEmpty_cons List.drop_zero List.drop_succ_cons List.drop_nil List.take_zero List.take_succ_cons List.take_nil
 List.getElem?_cons_zero List.getElem?_cons_succ List.getElem?_nil List.length_cons List.length_nil List.append_nil List.nil_append List.cons_append List.size_toArray List.zipIdx_cons List.zipIdx_nil List.map_cons List.map_nil
 List.getElem?_toArray List.replicate_succ List.replicate_zero List.flatten_cons List.flatten_nil
 Bool.and_true Bool.true_and Bool.and_false Bool.false_and Bool.or_true Bool.true_or Bool.or_false Bool.false_or Bool.not_true Bool.not_false Option.isNone_none Option.isNone_some decide_true decide_false
 and_self and_true true_and or_self or_true true_or and_false false_and or_false false_or not_true not_false_eq_true if_true if_false ite_true ite_false Int.toNat_natCast Nat.zero_add Nat.add_zero beq_self_eq_true
theorem ax {x:Int} (h0:-9223372036854775808≤x) (h1:x≤9223372036854775807):IntKind.i64.wrap x=x:=by rw[IntKind.wrap_i64];omega
theorem aC {R P:Prop} (k:R) (h:R→P:=by intro z0;(repeat (first|apply zs|apply zr|apply zn|((first|apply zx|apply zy);·simp only[push_cast,env,Nat.reduceEqDiff,reduceIte,Nat.reduceAdd,Nat.reduceMul,Nat.reduceLeDiff,reduceCtorEq,Nat.reduceSub,Int.reduceToNat]<;>first|exact rfl|exact .inl rfl|exact .inr rfl) | apply zq|apply zb|apply zo|apply zk|apply zl));exact z0):P:=h k
theorem VO {R P:Prop} (k:R) (h:R→P:=by intro z0;(repeat (first|exact ay.nil _|(apply ay.cons;(·rfl);(·(first|refine⟨?_,trivial⟩ | refine⟨?_,?_,trivial⟩ | refine⟨?_,?_,?_,trivial⟩ | refine⟨?_,?_,?_,?_,trivial⟩)<;>(apply zz;simp only[push_cast,env,Nat.reduceEqDiff,reduceIte,Nat.reduceAdd,Nat.reduceMul,Nat.reduceLeDiff,reduceCtorEq,Nat.reduceSub,Int.reduceToNat]<;>exact rfl));(·rfl))));exact z0):P:=h k
theorem Ts {P:Prop} (h:P:=by repeat (first|exact ay.nil _|(apply ay.cons;(·rfl);(·(first|refine⟨?_,trivial⟩ | refine⟨?_,?_,trivial⟩ | refine⟨?_,?_,?_,trivial⟩ | refine⟨?_,?_,?_,?_,trivial⟩)<;>(apply zz;simp only[push_cast,env,Nat.reduceEqDiff,reduceIte,Nat.reduceAdd,Nat.reduceMul,Nat.reduceLeDiff,reduceCtorEq,Nat.reduceSub,Int.reduceToNat]<;>exact rfl));(·rfl)))):P:=h
theorem ak {P:Prop} (h:P:=by simp only[push_cast,env,Nat.reduceEqDiff,reduceIte]<;>exact rfl):P:=h
theorem aK {P:Prop} (h:P:=by simp only[push_cast,Nat.reduceEqDiff,reduceIte]):P:=h
theorem aG {A R P:Prop} (z1:A) (k:R) (h:A→R→P:=by intro z1 z0;(repeat (first|apply zs|apply zr|apply zn|((first|apply zx|apply zy);·simp only[push_cast,env,Nat.reduceEqDiff,reduceIte,Nat.reduceAdd,Nat.reduceMul,Nat.reduceLeDiff,reduceCtorEq,Nat.reduceSub,Int.reduceToNat,z1]<;>first|exact rfl|exact .inl rfl|exact .inr rfl) | apply zq|apply zb|apply zo|apply zk|apply zl));exact z0):P:=h z1 k
theorem Py {A R P:Prop} (z1:A) (k:R) (h:A→R→P:=by intro z1 z0;(repeat (first|exact ay.nil _|(apply ay.cons;(·rfl);(·(first|refine⟨?_,trivial⟩ | refine⟨?_,?_,trivial⟩ | refine⟨?_,?_,?_,trivial⟩ | refine⟨?_,?_,?_,?_,trivial⟩)<;>(apply zz;simp only[push_cast,env,Nat.reduceEqDiff,reduceIte,Nat.reduceAdd,Nat.reduceMul,Nat.reduceLeDiff,reduceCtorEq,Nat.reduceSub,Int.reduceToNat,z1]<;>exact rfl));(·rfl))));exact z0):P:=h z1 k
theorem ir {A P:Prop} (z1:A) (h:A→P:=by intro z1;simp only[push_cast,env,Nat.reduceEqDiff,reduceIte,z1]<;>exact rfl):P:=h z1
theorem lH {A P:Prop} (z1:A) (h:A→P:=by intro z1;simp only[push_cast,Nat.reduceEqDiff,reduceIte,z1]):P:=h z1
theorem fh {A B R P:Prop} (z1:A) (z2:B) (k:R) (h:A→B→R→P:=by intro z1 z2 z0;(repeat (first|apply zs|apply zr|apply zn|((first|apply zx|apply zy);·simp only[push_cast,env,Nat.reduceEqDiff,reduceIte,Nat.reduceAdd,Nat.reduceMul,Nat.reduceLeDiff,reduceCtorEq,Nat.reduceSub,Int.reduceToNat,z1,z2]<;>first|exact rfl|exact .inl rfl|exact .inr rfl) | apply zq|apply zb|apply zo|apply zk|apply zl));exact z0):P:=h z1 z2 k
theorem Gc {A B R P:Prop} (z1:A) (z2:B) (k:R) (h:A→B→R→P:=by intro z1 z2 z0;(repeat (first|exact ay.nil _|(apply ay.cons;(·rfl);(·(first|refine⟨?_,trivial⟩ | refine⟨?_,?_,trivial⟩ | refine⟨?_,?_,?_,trivial⟩ | refine⟨?_,?_,?_,?_,trivial⟩)<;>(apply zz;simp only[push_cast,env,Nat.reduceEqDiff,reduceIte,Nat.reduceAdd,Nat.reduceMul,Nat.reduceLeDiff,reduceCtorEq,Nat.reduceSub,Int.reduceToNat,z1,z2]<;>exact rfl));(·rfl))));exact z0):P:=h z1 z2 k
theorem Wc {A B P:Prop} (z1:A) (z2:B) (h:A→B→P:=by intro z1 z2;repeat (first|exact ay.nil _|(apply ay.cons;(·rfl);(·(first|refine⟨?_,trivial⟩ | refine⟨?_,?_,trivial⟩ | refine⟨?_,?_,?_,trivial⟩ | refine⟨?_,?_,?_,?_,trivial⟩)<;>(apply zz;simp only[push_cast,env,Nat.reduceEqDiff,reduceIte,Nat.reduceAdd,Nat.reduceMul,Nat.reduceLeDiff,reduceCtorEq,Nat.reduceSub,Int.reduceToNat,z1,z2]<;>exact rfl));(·rfl)))):P:=h z1 z2
theorem OD {A B P:Prop} (z1:A) (z2:B) (h:A→B→P:=by intro z1 z2;simp only[push_cast,env,Nat.reduceEqDiff,reduceIte,z1,z2]<;>exact rfl):P:=h z1 z2
theorem UZ {A B P:Prop} (z1:A) (z2:B) (h:A→B→P:=by intro z1 z2;simp only[push_cast,Nat.reduceEqDiff,reduceIte,z1,z2]):P:=h z1 z2
theorem gV {A B C R P:Prop} (z1:A) (z2:B) (z3:C) (k:R) (h:A→B→C→R→P:=by intro z1 z2 z3 z0;(repeat (first|apply zs|apply zr|apply zn|((first|apply zx|apply zy);·simp only[push_cast,env,Nat.reduceEqDiff,reduceIte,Nat.reduceAdd,Nat.reduceMul,Nat.reduceLeDiff,reduceCtorEq,Nat.reduceSub,Int.reduceToNat,z1,z2,z3]<;>first|exact rfl|exact .inl rfl|exact .inr rfl) | apply zq|apply zb|apply zo|apply zk|apply zl));exact z0):P:=h z1 z2 z3 k
theorem Oz {A B C R P:Prop} (z1:A) (z2:B) (z3:C) (k:R) (h:A→B→C→R→P:=by intro z1 z2 z3 z0;(repeat (first|exact ay.nil _|(apply ay.cons;(·rfl);(·(first|refine⟨?_,trivial⟩ | refine⟨?_,?_,trivial⟩ | refine⟨?_,?_,?_,trivial⟩ | refine⟨?_,?_,?_,?_,trivial⟩)<;>(apply zz;simp only[push_cast,env,Nat.reduceEqDiff,reduceIte,Nat.reduceAdd,Nat.reduceMul,Nat.reduceLeDiff,reduceCtorEq,Nat.reduceSub,Int.reduceToNat,z1,z2,z3]<;>exact rfl));(·rfl))));exact z0):P:=h z1 z2 z3 k
theorem KK {A B C P:Prop} (z1:A) (z2:B) (z3:C) (h:A→B→C→P:=by intro z1 z2 z3;simp only[push_cast,env,Nat.reduceEqDiff,reduceIte,z1,z2,z3]<;>exact rfl):P:=h z1 z2 z3
theorem fi {A B C D R P:Prop} (z1:A) (z2:B) (z3:C) (z4:D) (k:R) (h:A→B→C→D→R→P:=by intro z1 z2 z3 z4 z0;(repeat (first|apply zs|apply zr|apply zn|((first|apply zx|apply zy);·simp only[push_cast,env,Nat.reduceEqDiff,reduceIte,Nat.reduceAdd,Nat.reduceMul,Nat.reduceLeDiff,reduceCtorEq,Nat.reduceSub,Int.reduceToNat,z1,z2,z3,z4]<;>first|exact rfl|exact .inl rfl|exact .inr rfl) | apply zq|apply zb|apply zo|apply zk|apply zl));exact z0):P:=h z1 z2 z3 z4 k
theorem tQ {A B C D R P:Prop} (z1:A) (z2:B) (z3:C) (z4:D) (k:R) (h:A→B→C→D→R→P:=by intro z1 z2 z3 z4 z0;(repeat (first|exact ay.nil _|(apply ay.cons;(·rfl);(·(first|refine⟨?_,trivial⟩ | refine⟨?_,?_,trivial⟩ | refine⟨?_,?_,?_,trivial⟩ | refine⟨?_,?_,?_,?_,trivial⟩)<;>(apply zz;simp only[push_cast,env,Nat.reduceEqDiff,reduceIte,Nat.reduceAdd,Nat.reduceMul,Nat.reduceLeDiff,reduceCtorEq,Nat.reduceSub,Int.reduceToNat,z1,z2,z3,z4]<;>exact rfl));(·rfl))));exact z0):P:=h z1 z2 z3 z4 k
theorem We {A B C D P:Prop} (z1:A) (z2:B) (z3:C) (z4:D) (h:A→B→C→D→P:=by intro z1 z2 z3 z4;repeat (first|exact ay.nil _|(apply ay.cons;(·rfl);(·(first|refine⟨?_,trivial⟩ | refine⟨?_,?_,trivial⟩ | refine⟨?_,?_,?_,trivial⟩ | refine⟨?_,?_,?_,?_,trivial⟩)<;>(apply zz;simp only[push_cast,env,Nat.reduceEqDiff,reduceIte,Nat.reduceAdd,Nat.reduceMul,Nat.reduceLeDiff,reduceCtorEq,Nat.reduceSub,Int.reduceToNat,z1,z2,z3,z4]<;>exact rfl));(·rfl)))):P:=h z1 z2 z3 z4
theorem Wd {A B C D P:Prop} (z1:A) (z2:B) (z3:C) (z4:D) (h:A→B→C→D→P:=by intro z1 z2 z3 z4;simp only[push_cast,env,Nat.reduceEqDiff,reduceIte,z1,z2,z3,z4]<;>exact rfl):P:=h z1 z2 z3 z4
theorem kL {A B C D E R P:Prop} (z1:A) (z2:B) (z3:C) (z4:D) (z5:E) (k:R) (h:A→B→C→D→E→R→P:=by intro z1 z2 z3 z4 z5 z0;(repeat (first|apply zs|apply zr|apply zn|((first|apply zx|apply zy);·simp only[push_cast,env,Nat.reduceEqDiff,reduceIte,Nat.reduceAdd,Nat.reduceMul,Nat.reduceLeDiff,reduceCtorEq,Nat.reduceSub,Int.reduceToNat,z1,z2,z3,z4,z5]<;>first|exact rfl|exact .inl rfl|exact .inr rfl) | apply zq|apply zb|apply zo|apply zk|apply zl));exact z0):P:=h z1 z2 z3 z4 z5 k
theorem OH {A B C D E R P:Prop} (z1:A) (z2:B) (z3:C) (z4:D) (z5:E) (k:R) (h:A→B→C→D→E→R→P:=by intro z1 z2 z3 z4 z5 z0;(repeat (first|exact ay.nil _|(apply ay.cons;(·rfl);(·(first|refine⟨?_,trivial⟩ | refine⟨?_,?_,trivial⟩ | refine⟨?_,?_,?_,trivial⟩ | refine⟨?_,?_,?_,?_,trivial⟩)<;>(apply zz;simp only[push_cast,env,Nat.reduceEqDiff,reduceIte,Nat.reduceAdd,Nat.reduceMul,Nat.reduceLeDiff,reduceCtorEq,Nat.reduceSub,Int.reduceToNat,z1,z2,z3,z4,z5]<;>exact rfl));(·rfl))));exact z0):P:=h z1 z2 z3 z4 z5 k
theorem VA {A B C D E P:Prop} (z1:A) (z2:B) (z3:C) (z4:D) (z5:E) (h:A→B→C→D→E→P:=by intro z1 z2 z3 z4 z5;simp only[push_cast,env,Nat.reduceEqDiff,reduceIte,z1,z2,z3,z4,z5]<;>exact rfl):P:=h z1 z2 z3 z4 z5
theorem DB {A B C D E F R P:Prop} (z1:A) (z2:B) (z3:C) (z4:D) (z5:E) (z6:F) (k:R) (h:A→B→C→D→E→F→R→P:=by intro z1 z2 z3 z4 z5 z6 z0;(repeat (first|apply zs|apply zr|apply zn|((first|apply zx|apply zy);·simp only[push_cast,env,Nat.reduceEqDiff,reduceIte,Nat.reduceAdd,Nat.reduceMul,Nat.reduceLeDiff,reduceCtorEq,Nat.reduceSub,Int.reduceToNat,z1,z2,z3,z4,z5,z6]<;>first|exact rfl|exact .inl rfl|exact .inr rfl) | apply zq|apply zb|apply zo|apply zk|apply zl));exact z0):P:=h z1 z2 z3 z4 z5 z6 k
theorem zK {A B C D E F R P:Prop} (z1:A) (z2:B) (z3:C) (z4:D) (z5:E) (z6:F) (k:R) (h:A→B→C→D→E→F→R→P:=by intro z1 z2 z3 z4 z5 z6 z0;(repeat (first|exact ay.nil _|(apply ay.cons;(·rfl);(·(first|refine⟨?_,trivial⟩ | refine⟨?_,?_,trivial⟩ | refine⟨?_,?_,?_,trivial⟩ | refine⟨?_,?_,?_,?_,trivial⟩)<;>(apply zz;simp only[push_cast,env,Nat.reduceEqDiff,reduceIte,Nat.reduceAdd,Nat.reduceMul,Nat.reduceLeDiff,reduceCtorEq,Nat.reduceSub,Int.reduceToNat,z1,z2,z3,z4,z5,z6]<;>exact rfl));(·rfl))));exact z0):P:=h z1 z2 z3 z4 z5 z6 k
theorem VU {A B C D E F P:Prop} (z1:A) (z2:B) (z3:C) (z4:D) (z5:E) (z6:F) (h:A→B→C→D→E→F→P:=by intro z1 z2 z3 z4 z5 z6;simp only[push_cast,env,Nat.reduceEqDiff,reduceIte,z1,z2,z3,z4,z5,z6]<;>exact rfl):P:=h z1 z2 z3 z4 z5 z6
theorem C6 {A B C D E F G R P:Prop} (z1:A) (z2:B) (z3:C) (z4:D) (z5:E) (z6:F) (z7:G) (k:R) (h:A→B→C→D→E→F→G→R→P:=by intro z1 z2 z3 z4 z5 z6 z7 z0;(repeat (first|apply zs|apply zr|apply zn|((first|apply zx|apply zy);·simp only[push_cast,env,Nat.reduceEqDiff,reduceIte,Nat.reduceAdd,Nat.reduceMul,Nat.reduceLeDiff,reduceCtorEq,Nat.reduceSub,Int.reduceToNat,z1,z2,z3,z4,z5,z6,z7]<;>first|exact rfl|exact .inl rfl|exact .inr rfl) | apply zq|apply zb|apply zo|apply zk|apply zl));exact z0):P:=h z1 z2 z3 z4 z5 z6 z7 k
theorem JN {A B C D E F G R P:Prop} (z1:A) (z2:B) (z3:C) (z4:D) (z5:E) (z6:F) (z7:G) (k:R) (h:A→B→C→D→E→F→G→R→P:=by intro z1 z2 z3 z4 z5 z6 z7 z0;(repeat (first|exact ay.nil _|(apply ay.cons;(·rfl);(·(first|refine⟨?_,trivial⟩ | refine⟨?_,?_,trivial⟩ | refine⟨?_,?_,?_,trivial⟩ | refine⟨?_,?_,?_,?_,trivial⟩)<;>(apply zz;simp only[push_cast,env,Nat.reduceEqDiff,reduceIte,Nat.reduceAdd,Nat.reduceMul,Nat.reduceLeDiff,reduceCtorEq,Nat.reduceSub,Int.reduceToNat,z1,z2,z3,z4,z5,z6,z7]<;>exact rfl));(·rfl))));exact z0):P:=h z1 z2 z3 z4 z5 z6 z7 k
theorem VW {A B C D E F G P:Prop} (z1:A) (z2:B) (z3:C) (z4:D) (z5:E) (z6:F) (z7:G) (h:A→B→C→D→E→F→G→P:=by intro z1 z2 z3 z4 z5 z6 z7;simp only[push_cast,env,Nat.reduceEqDiff,reduceIte,z1,z2,z3,z4,z5,z6,z7]<;>exact rfl):P:=h z1 z2 z3 z4 z5 z6 z7
theorem Tm {A B C D E F G H R P:Prop} (z1:A) (z2:B) (z3:C) (z4:D) (z5:E) (z6:F) (z7:G) (z8:H) (k:R) (h:A→B→C→D→E→F→G→H→R→P:=by intro z1 z2 z3 z4 z5 z6 z7 z8 z0;(repeat (first|apply zs|apply zr|apply zn|((first|apply zx|apply zy);·simp only[push_cast,env,Nat.reduceEqDiff,reduceIte,Nat.reduceAdd,Nat.reduceMul,Nat.reduceLeDiff,reduceCtorEq,Nat.reduceSub,Int.reduceToNat,z1,z2,z3,z4,z5,z6,z7,z8]<;>first|exact rfl|exact .inl rfl|exact .inr rfl) | apply zq|apply zb|apply zo|apply zk|apply zl));exact z0):P:=h z1 z2 z3 z4 z5 z6 z7 z8 k
theorem K7 {A B C D E F G H R P:Prop} (z1:A) (z2:B) (z3:C) (z4:D) (z5:E) (z6:F) (z7:G) (z8:H) (k:R) (h:A→B→C→D→E→F→G→H→R→P:=by intro z1 z2 z3 z4 z5 z6 z7 z8 z0;(repeat (first|exact ay.nil _|(apply ay.cons;(·rfl);(·(first|refine⟨?_,trivial⟩ | refine⟨?_,?_,trivial⟩ | refine⟨?_,?_,?_,trivial⟩ | refine⟨?_,?_,?_,?_,trivial⟩)<;>(apply zz;simp only[push_cast,env,Nat.reduceEqDiff,reduceIte,Nat.reduceAdd,Nat.reduceMul,Nat.reduceLeDiff,reduceCtorEq,Nat.reduceSub,Int.reduceToNat,z1,z2,z3,z4,z5,z6,z7,z8]<;>exact rfl));(·rfl))));exact z0):P:=h z1 z2 z3 z4 z5 z6 z7 z8 k
theorem HU {A B C D E F G H I R P:Prop} (z1:A) (z2:B) (z3:C) (z4:D) (z5:E) (z6:F) (z7:G) (z8:H) (z9:I) (k:R) (h:A→B→C→D→E→F→G→H→I→R→P:=by intro z1 z2 z3 z4 z5 z6 z7 z8 z9 z0;(repeat (first|apply zs|apply zr|apply zn|((first|apply zx|apply zy);·simp only[push_cast,env,Nat.reduceEqDiff,reduceIte,Nat.reduceAdd,Nat.reduceMul,Nat.reduceLeDiff,reduceCtorEq,Nat.reduceSub,Int.reduceToNat,z1,z2,z3,z4,z5,z6,z7,z8,z9]<;>first|exact rfl|exact .inl rfl|exact .inr rfl) | apply zq|apply zb|apply zo|apply zk|apply zl));exact z0):P:=h z1 z2 z3 z4 z5 z6 z7 z8 z9 k
theorem VB {A B C D E F G H I R P:Prop} (z1:A) (z2:B) (z3:C) (z4:D) (z5:E) (z6:F) (z7:G) (z8:H) (z9:I) (k:R) (h:A→B→C→D→E→F→G→H→I→R→P:=by intro z1 z2 z3 z4 z5 z6 z7 z8 z9 z0;(repeat (first|exact ay.nil _|(apply ay.cons;(·rfl);(·(first|refine⟨?_,trivial⟩ | refine⟨?_,?_,trivial⟩ | refine⟨?_,?_,?_,trivial⟩ | refine⟨?_,?_,?_,?_,trivial⟩)<;>(apply zz;simp only[push_cast,env,Nat.reduceEqDiff,reduceIte,Nat.reduceAdd,Nat.reduceMul,Nat.reduceLeDiff,reduceCtorEq,Nat.reduceSub,Int.reduceToNat,z1,z2,z3,z4,z5,z6,z7,z8,z9]<;>exact rfl));(·rfl))));exact z0):P:=h z1 z2 z3 z4 z5 z6 z7 z8 z9 k
end Go.Proofs.YtmdmimkbpikmoaaGreat.Am
