/- Several texts, one behind the other. -/
import Derived.Test.YtmdmimkbpikmoaaGreatZM1
import Derived.Test.YtmdmimkbpikmoaaGreatZFa
set_option linter.unusedSimpArgs false
set_option linter.unusedVariables false
set_option maxHeartbeats 8000000
namespace Go.Proofs.YtmdmimkbpikmoaaGreat
set_option maxRecDepth 20000
open Go.RowKit Am Ty
abbrev s5 (b:Nat):Value:=.pointer (some ⟨b,0,some 0⟩)
abbrev mB (st:List Int):av:=.aA (st.map i64) 0 true 3
structure VE (h:ah) (N bs bn bv is io:Nat) (us:List Value) (ls:List (List Int)):Prop where
 s:h[bs]? = some (.aA [.slice (some ⟨is,0,some 0⟩) N N] 0 true 39)
 n:h[bn]? = some (.aA [.slice (some ⟨io,0,some 0⟩) N N] 0 true 132)
 v:h[bv]? = some (.aA [.func (.func 65) #[] #[s5 bs,s5 bn,s5 bv]] 0 true 134)
 o:h[io]? = some (.aA us 0 true 39)
 l:∀ (i:Nat) (u:Value) (l:List Int),us[i]? = some u→ls[i]? = some l→bT h u l.length (l.map i64) 3 8∧bB u is=false
 un:us.length=N
 ln:ls.length=N
 r:∀ l∈ls,∀ x∈l,0≤x∧x<N
 d:bs≠is∧bn≠is∧bv≠is∧io≠is
theorem bT.set {h:ah} {v:Value} {n b i:Nat} {cells:List Value} {et:TypeId} {X:av} (hs:bT h v n cells et b) (hi:bB v i=false):bT (h.set i X) v n cells et b:=by{
refine⟨hs.1,?_⟩
rcases hs.2 with h1|⟨id,ar,own,c,rfl,h2⟩
·exact .inl h1
·simp only[bB,beq_eq_false_iff_ne] at hi
 exact .inr ⟨id,ar,own,c,rfl,by rw[aD (Ne.symm hi)];exact h2⟩}
theorem VE.set {h:ah} {N bs bn bv is io:Nat} {us:List Value} {ls:List (List Int)} {X:av} (V:VE h N bs bn bv is io us ls):VE (h.set is X) N bs bn bv is io us ls:=by{
obtain⟨d1,d2,d3,d4⟩:=V.d
refine⟨?_,?_,?_,?_,fun i u l h1 h2=>⟨(V.l i u l h1 h2).1.set (V.l i u l h1 h2).2,(V.l i u l h1 h2).2⟩,V.un,V.ln,V.r,V.d⟩
·rw[aD (Ne.symm d1)];exact V.s
·rw[aD (Ne.symm d2)];exact V.n
·rw[aD (Ne.symm d3)];exact V.v
·rw[aD (Ne.symm d4)];exact V.o}
def iQ (st:List Int):List Bool:=st.map fun x=>decide (x=0)
theorem jY {st:List Int} {i:Int} (h0:0≤i) (h1:i<st.length):bit (iQ st) i=decide (cT st i=0):=by
 rw[eg h0 (by simp [iQ,h1]),oe h0 h1]
 simp [iQ]
def EL (N:Nat) (ls:List (List Int)) (a b:Int):Prop:=0≤a∧a<N∧b∈eY ls a
def S2 (st:List Int) (i:Int):Prop:=0≤i∧cT st i=2
def V3 (N:Nat) (st:List Int):Prop:=∀ i:Int,0≤i→i<N→cT st i=0∨cT st i=1∨cT st i=2
structure lf (N:Nat) (st st':List Int):Prop where
 n:st'.length=N
 v:V3 N st'
 k:∀ i:Int,0≤i→cT st i≠0→cT st' i=cT st i
 z:∀ i:Int,0≤i→cT st i=0→cT st' i=0∨cT st' i=2
theorem lf.refl {N:Nat} {st:List Int} (h:st.length=N) (v:V3 N st):lf N st st:=⟨h,v,fun _ _ _=>rfl,fun _ _ h=>.inl h⟩
theorem lf.trans {N:Nat} {a b c:List Int} (h:lf N a b) (k:lf N b c):lf N a c:=by{
refine⟨k.n,k.v,fun i h0 h1=>?_,fun i h0 h1=>?_⟩
·have e:=h.k i h0 h1
 rw[k.k i h0 (by rw[e];exact h1),e]
·rcases h.z i h0 h1 with e|e
 ·exact k.z i h0 e
 ·exact .inr (by rw[k.k i h0 (by rw[e];decide),e])}
theorem lf.zc {N:Nat} {st st':List Int} (h0:st.length=N) (h:lf N st st'):(iQ st').count true≤(iQ st).count true:=by{
have e1:(iQ st).length=st.length:=by simp [iQ]
have e2:(iQ st').length=st'.length:=by simp [iQ]
have hn:=h.n
refine Bb om (KW.get (n:=N) (fun i i0 i1 hb=>?_) om om)
rw[jY i0 om] at hb ⊢
rw[decide_eq_true_eq] at hb ⊢
refine Classical.byContradiction fun c=>?_
rw[h.k i i0 c] at hb
exact c hb}
theorem uM {st:List Int} {n:Int} (h0:0≤n) (h1:n<st.length) (hz:cT st n=0):(iQ (st.set n.toNat 1)).count true<(iQ st).count true:=by{
have e1:(iQ st).length=st.length:=by simp [iQ]
have e2:(iQ (st.set n.toNat 1)).length=st.length:=by simp [iQ]
refine vG om (KW.get (n:=st.length) (fun i i0 i1 hb=>?_) om om) ⟨n.toNat,by omega,by omega,?_,?_⟩
·rw[jY i0 (by simp;omega)] at hb
 rw[jY i0 i1]
 rw[decide_eq_true_eq,lU h0 h1 i0] at hb
 split at hb
 ·omega
 ·exact decide_eq_true hb
·rw[← eg h0 om,jY h0 (by simp;omega),lU h0 h1 h0,if_pos rfl]
 rfl
·rw[← eg h0 om,jY h0 h1,hz]
 rfl}
theorem FR {N bs bn bv is io:Nat} {us:List Value} {ls:List (List Int)} (hN:N≤4096) (hls:∀ l∈ls,l.length≤655360):∀ (c:Nat) (h:ah) (st:List Int) (n:Int),VE h N bs bn bv is io us ls→h[is]? = some (mB st)→st.length=N→(iQ st).count true≤c → 0≤n→n<N→cT st n=0→V3 N st→Er (EL N ls) (S2 st)→(∀ i:Int,0≤i→cT st i=1→kB (EL N ls) i n) → FW env 65 [i64 n,s5 bs,s5 bn,s5 bv] h fun r h'=>∃ b st',r = .bool b∧h'=h.set is (mB st')∧(b=true→At (EL N ls))∧(b=false→lf N st st'∧cT st' n=2∧Er (EL N ls) (S2 st')):=by{
intro c
induction c with
| zero=>
  intro h st n V hs hl hc h0 h1 hz _ _ _
  have:=uM h0 om hz
  omega
| succ c IH=>
  intro h st n V hs hl hc h0 h1 hz hv hA hS
  have hzs:=uM h0 om hz
  have r1:=Ay (N:=N) h0 h1
  have V1:=V.set (X:=mB (st.set n.toNat 1))
  have g1s:∀ X:av,(h.set is X)[is]? = some X:=fun X=>aw hs
  obtain⟨v,hv'⟩:∃ v,us[n.toNat]? = some v:=⟨_,List.getElem?_eq_getElem (by rw[V.un];omega)⟩
  have hlA:=sQ (ls:=ls) h0 (by rw[V.ln];exact h1)
  have hsl:=V1.l _ _ _ hv' hlA
  obtain⟨pv,cv,rfl⟩:=bT.form hsl.1
  have hlen:=hls _ (List.mem_of_getElem? hlA)
  have hrange:=V.r _ (List.mem_of_getElem? hlA)
  refine fe Tryz.func65 ?_;simp only[push_cast]
  repeat (first|apply zs|apply zr|apply zn|((first|apply zx|apply zy);·simp only[push_cast,env,Nat.reduceEqDiff,reduceIte,Nat.reduceAdd,Nat.reduceMul,Nat.reduceLeDiff,reduceCtorEq,Nat.reduceSub,Int.reduceToNat,V.s,r1]<;>first|exact rfl|exact .inl rfl|exact .inr rfl) | apply zq|apply zb|apply zo|apply zk|apply zl)
  refine bV ak rfl rfl ak (by simp only[push_cast,env,Nat.reduceEqDiff,reduceIte,V.s,r1,Nat.mul_one]<;>exact rfl) hs rfl rfl (oV (f:=i64) (x:=1) om) ?_
  have Vn:=V1.n
  have Vo:=V1.o
  refine kL Vn r1 Vo hv' Nat.mul_one ?_
  have hst1:∀ i:Int,0≤i→cT (st.set n.toNat 1) i=if n=i then 1 else cT st i:=fun i i0=>lU h0 om i0
  refine aZ (eY ls n).length (fun k (s:List Int)=>[(0,.val (i64 n)),(1,.val (s5 bs)),(2,.val (s5 bn)),(3,.val (s5 bv)),(14,.val (.slice pv (eY ls n).length cv)),(15,.val (i64 (eY ls n).length)),(16,.val (i64 k))]) (fun _ s=>h.set is (mB s))
   (fun k s=>lf N (st.set n.toNat 1) s∧Er (EL N ls) (S2 s)∧∀ (j:Nat) (hj:j<(eY ls n).length),j<k→cT s (eY ls n)[j]=2) (st.set n.toNat 1) aK rfl ⟨.refl (by simp [hl]) ?_,?_,fun _ _ h=>absurd h (Nat.not_lt_zero _)⟩ ?_
  ·intro i i0 i1
   rw[hst1 i i0]
   split
   ·exact .inr (.inl rfl)
   ·exact hv i i0 i1
  ·refine hA.congr fun i=>?_
   unfold S2
   constructor
   ·rintro⟨i0,e⟩
    refine⟨i0,?_⟩
    rw[hst1 i i0]
    split
    ·rename_i e2
     rw[← e2,hz] at e
     cases e
    ·exact e
   ·rintro⟨i0,e⟩
    refine⟨i0,?_⟩
    rw[hst1 i i0] at e
    split at e
    ·cases e
    ·exact e
  rintro k s hk ⟨hL,hA2,hJ⟩
  have V2:=V.set (X:=mB s)
  have hsn:=hL.n
  have hn1:cT s n=1:=by rw[hL.k n h0 (by rw[hst1 n h0,if_pos rfl];decide),hst1 n h0,if_pos rfl]
  by_cases hlt:k<(eY ls n).length
  ·have e1:=cg hlt
   have e2:=inc hlt om
   have e3:=aS hlt
   obtain⟨id4,ver4,own4,c4,hv4,hid4⟩:=bT.at (V2.l _ _ _ hv' hlA).1 om
   cases hv4
   have hx:=hrange (eY ls n)[k] (List.getElem_mem hlt)
   have g4:=wo (f:=i64) hlt
   generalize hX:(eY ls n)[k]=X at hx g4
   have hE:EL N ls n X:=⟨h0,h1,hX▸List.getElem_mem hlt⟩
   have r2:=Ay (N:=N) hx.1 hx.2
   have gX:=xP (l:=s) hx.1 om
   have g2:=g1s (mB s)
   have Vs:=V2.s
   have Vv:=V2.v
   refine kL e1 hid4 g4 e3 Nat.mul_one ?_
   refine ae rfl ?_
   rcases hL.v X hx.1 hx.2 with c0|c1|c2
   ·rw[c0] at gX
    refine HU e1 hid4 g4 Nat.mul_one Vs r2 g2 gX Vv ?_
    refine rG (fn:=Tryz.f65) ak rfl ak ak Tryz.func65 kr kr ?_
    refine (IH _ s X V2 g2 hsn (by have:=hL.zc (by simp [hl]);omega) hx.1 hx.2 c0 hL.v hA2 fun i i0 hi=>?_).mono ?_
    ·by_cases e:n=i
     ·subst e
      exact .one hE
     ·have h3:cT (st.set n.toNat 1) i≠0:=fun h=>by rcases hL.z i i0 h with q|q<;>omega
      have h4:=hL.k i i0 h3
      rw[hst1 i i0,if_neg e] at h4
      exact (hS i i0 om).more hE
    rintro _ _ ⟨b,s',rfl,rfl,hT,hF⟩
    cases b with
    | true=>
      refine aC ?_
      refine ae rfl ?_
      refine aC ?_
      refine ai ?_
      exact⟨_,ak,true,s',rfl,by rw[List.set_set],fun _=>hT rfl,fun h=>by cases h⟩
    | false=>
      obtain⟨k1,k2,k3⟩:=hF rfl
      refine aC ?_
      refine af rfl ?_
      refine aG e2 ?_
      refine⟨hlt,s',aK,by rw[List.set_set],hL.trans k1,k3,fun j hj hjk=>?_⟩
      rcases Nat.lt_or_ge j k with q|q
      ·have:=hJ j hj q
       rw[k1.k _ (hrange _ (List.getElem_mem hj)).1 (by rw[this];decide),this]
      ·obtain rfl:j=k:=by omega
       rw[hX]
       exact k2
   ·rw[c1] at gX
    refine HU e1 hid4 g4 Nat.mul_one Vs r2 g2 gX Vv ?_
    refine ae rfl ?_
    refine aC ?_
    refine ai ?_
    refine⟨_,ak,true,s,rfl,rfl,fun _=>?_,fun h=>by cases h⟩
    by_cases e:n=X
    ·exact⟨n,.one (e▸hE)⟩
    ·have h3:cT (st.set n.toNat 1) X≠0:=fun h=>by rcases hL.z X hx.1 h with q|q<;>omega
     have h4:=hL.k X hx.1 h3
     rw[hst1 X hx.1,if_neg e] at h4
     exact⟨X,(hS X hx.1 om).more hE⟩
   ·rw[c2] at gX
    refine HU e1 hid4 g4 Nat.mul_one Vs r2 g2 gX Vv ?_
    refine af rfl ?_
    refine aG e2 ?_
    refine⟨hlt,s,aK,rfl,hL,hA2,fun j hj hjk=>?_⟩
    rcases Nat.lt_or_ge j k with q|q
    ·exact hJ j hj q
    ·obtain rfl:j=k:=by omega
     rw[hX]
     exact c2
  ·have e3:=aP hlt
   obtain rfl:k=(eY ls n).length:=by omega
   refine aG e3 ?_
   refine af rfl ?_
   refine az ?_
   show CW _ _ _ _
   have Vs:=V2.s
   have g2:=g1s (mB s)
   refine fh Vs r1 ?_
   refine bV ak rfl rfl ak (KK Vs r1 Nat.mul_one) g2 rfl rfl (oV (f:=i64) (x:=2) om) ?_
   refine aC ?_
   refine ai ?_
   have hs2:∀ i:Int,0≤i→cT (s.set n.toNat 2) i=if n=i then 2 else cT s i:=fun i i0=>lU h0 om i0
   refine⟨_,ak,false,s.set n.toNat 2,rfl,by rw[List.set_set],(fun h=>by cases h),fun _=>⟨⟨by simp [hsn],fun i i0 i1=>?_,fun i i0 hi=>?_,fun i i0 hi=>?_⟩,by rw[hs2 n h0,if_pos rfl],?_⟩⟩
   ·rw[hs2 i i0]
    split
    ·exact .inr (.inr rfl)
    ·exact hL.v i i0 i1
   ·rw[hs2 i i0]
    split
    ·rename_i e
     rw[← e,hz] at hi
     exact (hi rfl).elim
    ·rename_i e
     have:=hL.k i i0 (by rw[hst1 i i0,if_neg e];exact hi)
     rw[this,hst1 i i0,if_neg e]
   ·rw[hs2 i i0]
    split
    ·exact .inr rfl
    ·rename_i e
     exact hL.z i i0 (by rw[hst1 i i0,if_neg e];exact hi)
   ·refine (hA2.add (n:=n) (fun hh=>by rw[hh.2] at hn1;cases hn1) fun j hj=>?_).congr fun i=>?_
    ·obtain⟨q,hq,rfl⟩:=List.mem_iff_getElem.1 hj.2.2
     exact⟨(hrange _ (List.getElem_mem hq)).1,hJ q hq hq⟩
    ·unfold S2
     constructor
     ·rintro (⟨i0,e⟩ | rfl)
      ·refine⟨i0,?_⟩
       rw[hs2 i i0]
       split
       ·rfl
       ·exact e
      ·exact⟨h0,by rw[hs2 i h0,if_pos rfl]⟩
     ·rintro⟨i0,e⟩
      rw[hs2 i i0] at e
      split at e
      ·rename_i e2
       exact .inr e2.symm
      ·exact .inl ⟨i0,e⟩}
abbrev UJ (g:ca) (x:Value) (_:ah):Prop:=∃ b:Bool,x = .bool b∧(b=true↔At (Edge g (eI g)))
theorem Dc {h:ah} {g:ca} {v:Value} (hr:jQ h v g):FW env 28 [v] h fun r h'=>Told g (.bool false) (UJ g) r h'∧h <+: h':=by{
obtain⟨u,rfl,hu⟩:=id hr
obtain⟨p,c,rfl⟩:=hu.form
have hle:=hu.le
refine fe Tryz.func28 ?_;simp only[push_cast]
refine aC ?_
refine zj Tryz.func27 ?_
rw[List.append_nil]
refine (qI hr).mono ?_
rintro _ h1 ⟨⟨x,rfl,⟨hb,rfl⟩ | ⟨hb,m,hm,idm,verm,him,rfl,hgm⟩⟩,hp1⟩
·have e0:eT g=3:=if_pos hb
 rw[e0]
 refine aC ?_
 refine ae rfl ?_
 refine aC ?_
 refine ai ?_
 exact⟨_,ak,⟨_,by rw[e0];rfl,.inl ⟨hb,rfl⟩⟩,hp1⟩
have e0:eT g=0:=if_neg hb
have R:=Fb hb
have n1:=R.n1
have n2:=R.n2
have hrl:=R.rl
have hml:=hm.1
rw[e0]
refine aC ?_
refine af rfl ?_
obtain⟨N,hN⟩:∃ N:Nat,g.cK=N:=⟨g.cK.toNat,by omega⟩
refine aC ?_
refine zj Tryz.func64 ?_
rw[List.append_nil]
refine (Gq (hr.mono hp1) R hm ⟨by omega,.inr ⟨idm,verm,true,_,rfl,hgm⟩⟩).mono ?_
rintro _ h2 ⟨⟨us,ls,rfl,ho,hNL,hLI,hlb⟩,hp2⟩
have hio:h1.length<h2.length:=cD ho
have hln:=hLI.n
have hun:=hNL.n
have hsl:∀ (H:ah) (a b:av),(H++[a]).set H.length b=H++[b]:=fun H a b=>by simp
have hle1:∀ (H:ah) (a:av),(H++[a]).length=H.length+1:=fun H a=>by simp
refine dA (t:=132) (cs:=[bX]) ak ak ?_
refine bV ak rfl rfl ak ak aJ ak rfl rfl ?_
dsimp only[St.a9,St.put]
rw[hsl]
refine aC ?_
refine xU (N:=N) ak rfl ak hN om ?_
refine dA (t:=39) (cs:=[bX]) ak ak ?_
refine bV ak rfl rfl ak ak aJ ak rfl rfl ?_
dsimp only[St.a9,St.put]
rw[hsl]
refine zu ?_
refine dA (t:=134) (cs:=[.nilFunc]) ak ak ?_
dsimp only[St.a9,St.put]
refine zu ?_
iterate 1 (apply ei;·simp only[push_cast,env,Nat.reduceEqDiff,reduceIte,Nat.reduceAdd,Nat.reduceMul,Nat.reduceLeDiff,reduceCtorEq,Nat.reduceSub,Int.reduceToNat]<;>exact rfl)
refine bV ak rfl rfl ak ak aJ ak rfl rfl ?_
dsimp only[St.a9,St.put]
rw[hsl]
refine aG hle1 ?_
have E0:∀ i:Int,0≤i→i<N→cT (List.replicate N (0:Int)) i=0:=fun i i0 i1=>by
 rw[oe i0 (by simp;omega)]
 simp
refine aZ N (fun k (x:ah×List Int)=>[(1,.box [i64 g.cK,i64 g.start,.slice p g.rules.length c]),(7,.val (s5 (h2.length+2))),(8,.val (s5 (h2.length+3))),(26,.val (i64 N)),(27,.val (i64 k))]) (fun _ x=>x.1)
 (fun k x=>h2 <+: x.1∧VE x.1 N (h2.length+2) h2.length (h2.length+3) (h2.length+1) h1.length us ls∧x.1[h2.length+1]? = some (mB x.2)∧lf N (List.replicate N 0) x.2∧Er (EL N ls) (S2 x.2)∧∀ i:Int,0≤i→i<k→cT x.2 i≠0) (_,List.replicate N 0) (lH hN) rfl ⟨?_,⟨?_,?_,?_,?_,?_,?_,?_,?_,?_⟩,?_,.refl (by simp) fun i i0 i1=>.inl (E0 i i0 i1),?_,fun i i0 i1=>?_⟩ ?_
·exact bU (bU (bU aH))
·simp [hle1,List.getElem?_append]
·have hunN:us.length=N:=by omega
 simp [hle1,List.getElem?_append,hunN]
·simp [hle1,List.getElem?_append]
·exact bg (bg (bg (bg ho)))
·intro i u l q1 q2
 have G:=hNL.g i u l q1 q2
 have hl:=hlb l (List.mem_of_getElem? q2)
 refine⟨bT.mono (G.sl om) (bU (bU (bU aH))),?_⟩
 cases hb:bB u _ with
 | false=>rfl
 | true=>have:=(G.lt hb).2;omega
·omega
·omega
·intro l hl x hx
 obtain⟨i,hi,rfl⟩:=List.mem_iff_getElem.1 hl
 have e:eY ls (i:Int)=ls[i]:=by unfold eY;rw[List.getD_eq_getElem?_getD,Int.toNat_natCast,List.getElem?_eq_getElem hi];rfl
 have:=(hLI.Om (a:=i) om om).1 (by rw[e];exact hx)
 have:=rZ R this
 omega
·omega
·simp [hle1,List.getElem?_append]
·intro i hi
 have e:cT (List.replicate N (0:Int)) i=2:=hi.2
 have:¬ i<N:=fun h=>by rw[E0 i hi.1 h] at e;cases e
 unfold cT at e
 rw[List.getD_eq_getElem?_getD,List.getElem?_eq_none (by simp;have:=hi.1;omega)] at e
 cases e
·have:=i1
 omega
rintro k ⟨H,s⟩ hkn ⟨hp,V,hs,hL,hA,hJ⟩
simp only at hp V hs hL hA hJ ⊢
have hsn:=hL.n
have h02:∀ i:Int,0≤i→i<N→cT s i=0∨cT s i=2:=fun i i0 i1=>hL.z i i0 (E0 i i0 i1)
have hEE:∀ a b,EL N ls a b↔Edge g (eI g) a b:=fun a b=>by
 unfold EL
 constructor
 ·rintro⟨i0,i1,hb⟩
  exact (hLI.Om i0 om).1 hb
 ·intro hE
  have:=(rZ R hE).1
  exact⟨this.1,by omega,(hLI.Om this.1 this.2).2 hE⟩
have hCC:At (EL N ls)↔At (Edge g (eI g)):=by rw[show EL N ls=Edge g (eI g) from funext fun a=>funext fun b=>propext (hEE a b)]
have hpre:h <+: H:=hp1.trans (hp2.trans hp)
by_cases hlt:k<N
·have e1:=cg hlt
 have e2:=inc hlt om
 have e3:=aS hlt
 have r2:=Ay (N:=N) (i:=(k:Int)) om om
 have gX:=xP (l:=s) (i:=(k:Int)) om om
 simp only[Int.toNat_natCast] at gX
 have Vs:=V.s
 have Vv:=V.v
 have hJ2:∀ s':List Int,lf N s s'→cT s' k≠0→∀ i:Int,0≤i→i<((k+1:Nat):Int)→cT s' i≠0:=fun s' hL' hk' i i0 i1=>by
  by_cases e:i=k
  ·rw[e]
   exact hk'
  ·have:=hJ i i0 om
   rw[hL'.k i i0 this]
   exact this
 refine aG e3 ?_
 refine ae rfl ?_
 rcases h02 k om om with c0|c2
 ·rw[c0] at gX
  refine DB Vs e1 hs gX Nat.mul_one Vv ?_
  refine rG (fn:=Tryz.f65) ak rfl ak ak Tryz.func65 kr kr ?_
  refine (FR om hlb _ _ s k V hs hsn (Nat.le_refl _) om om c0 hL.v hA fun i i0 hi=>?_).mono ?_
  ·by_cases hiN:i<N
   ·have:=h02 i i0 hiN
    omega
   ·unfold cT at hi
    rw[List.getD_eq_getElem?_getD,List.getElem?_eq_none om] at hi
    cases hi
  rintro _ _ ⟨b,s',rfl,rfl,hT,hF⟩
  have V':=V.set (X:=mB s')
  cases b with
  | true=>
    refine aC ?_
    refine ae rfl ?_
    refine aC ?_
    refine ai ?_
    exact⟨_,ak,⟨_,by rw[e0];rfl,.inr ⟨hb,true,rfl,by rw[← hCC];simp [hT rfl]⟩⟩,a8 hpre (by have:=(hp1.trans hp2).length_le;omega)⟩
  | false=>
    obtain⟨k1,k2,k3⟩:=hF rfl
    refine aC ?_
    refine af rfl ?_
    refine aG e2 ?_
    exact⟨hlt,(H.set (h2.length+1) (mB s'),s'),aK,rfl,a8 hp om,V',aw hs,hL.trans k1,k3,hJ2 s' k1 (by rw[k2];decide)⟩
 ·rw[c2] at gX
  refine DB Vs e1 hs gX Nat.mul_one Vv ?_
  refine af rfl ?_
  refine aG e2 ?_
  exact⟨hlt,(H,s),aK,rfl,hp,V,hs,hL,hA,hJ2 s (.refl hsn hL.v) (by rw[c2];decide)⟩
·have e3:=aP hlt
 obtain rfl:k=N:=by omega
 refine aG e3 ?_
 refine af rfl ?_
 refine az ?_
 show CW _ _ _ _
 refine aC ?_
 refine ai ?_
 refine⟨_,ak,⟨_,by rw[e0];rfl,.inr ⟨hb,false,rfl,?_⟩⟩,hpre⟩
 rw[← hCC]
 have hno:¬ At (EL k ls):=hA.none fun a b hab=>⟨hab.1,by
  have q1:=h02 a hab.1 hab.2.1
  have q2:=hJ a hab.1 hab.2.1
  omega⟩
 simp [hno]}
section
variable {d:bM} {h:ah} {up uc uf ur ub:Value}
theorem KO.Uo {h':ah} {m:MK} {nm:List ByteArray} (K:KO h h' d m nm) (hc:dI d) (G:jz d) (hp:cX d≤160):jQ h' (.agg #[i64 (aU d:Int),i64 (cA d:Int),m.vr]) (gR d):=
 ⟨m.vr,rfl,K.r.rd (by rw[List.length_map];have:=rI G hp;omega) fun r hr=>by
  have:=(Bz hc G hr).2.2.1
  omega⟩
theorem tA (hd:bH h d up uc uf ur ub) (hw:qd d):FW env 11 [.agg (d.val up uc uf ur ub).toArray] h fun r _=>r = .bool true:=by{
have hpf:=Hj hd
have hd0:=hd
unfold bM.val at hpf
obtain⟨p1,c1,p2,c2,p3,c3,p4,c4,p5,c5,rfl,rfl,rfl,rfl,rfl,l1,l2,l3,l4,l5⟩:=bH.form hd
refine fe Tryz.func11 ?_;simp only[push_cast]
unfold bM.val
refine aC ?_
refine zj Tryz.func25 ?_
refine hpf.mono ?_
rintro _ h1 ⟨⟨pm,hm,rfl⟩,e1⟩
obtain rfl:=e1.symm
by_cases hbig:160<pm
·have d1:=decide_eq_true hbig
 refine aG d1 ?_
 refine ae rfl ?_
 refine aC ?_
 refine zj Tryz.func26 ?_
 refine si.mono ?_
 rintro _ ha ⟨rfl,ea⟩
 obtain rfl:=ea.symm
 refine aC ?_
 refine ai ?_
 exact⟨_,ak,rfl⟩
have d1:=decide_eq_false hbig
have hpt0:cE d=true→cX d≤160:=fun hr=>by
 have:=(hm (G5 hr)).eq
 omega
have hmk:=Jo hd0 hw hpt0
unfold bM.val at hmk
have dz:decide ((0:Int)=0)=true:=rfl
have d53:decide ((53:Int)=0)=false:=rfl
refine aG d1 ?_
refine af rfl ?_
refine aC ?_
refine zj Tryz.func15 ?_
refine hmk.mono ?_
rintro _ h2 (⟨_,rfl,rfl⟩ | ⟨hc,m,nm,rfl,K⟩)
·refine aG d53 ?_
 refine ae rfl ?_
 refine aC ?_
 refine zj Tryz.func26 ?_
 refine si.mono ?_
 rintro _ ha ⟨rfl,ea⟩
 obtain rfl:=ea.symm
 refine aC ?_
 refine ai ?_
 exact⟨_,ak,rfl⟩
have hpt:=hpt0 (hc 0 (by decide))
have G:=BQ hc hpt
have hR:=K.Uo hc G hpt
have hbad:=Q3 hc G hpt
have hrg:eT (gR d)=0:=if_neg hbad
have hnp:=fun (i:Nat) (x:ByteArray)=>DU (i:=i) (x:=x) hc K.nl K.ne
have hKn:=K.n
have hnll:=K.Vi
obtain⟨tq1,tr1,te1⟩:=cV.form K.D.now.aa
obtain⟨tq2,tr2,te2⟩:=cV.form K.D.now.au
obtain⟨tq3,tr3,te3⟩:=bT.form K.D.now.follows
obtain⟨tq4,tr4,te4⟩:=bT.form K.D.now.al
obtain⟨tq5,tr5,te5⟩:=cV.form K.D.now.boxes
obtain⟨tq6,tr6,te6⟩:=gS.form K.r
obtain⟨tq7,tr7,te7⟩:=gS.form K.f
obtain⟨tq8,tr8,te8⟩:=K.n.form
obtain⟨tq9,tr9,te9⟩:=K.b.form
obtain⟨tqa,tra,tea⟩:=K.F.form
obtain⟨tqb,trb,teb⟩:=K.R.form
rw[List.length_map] at te6
rw[xF] at te7
rw[K.Vi] at te8
have tv:uw m = .agg #[.string d.start,.string d.layout,.slice tq1 d.aa.length tr1,.slice tq2 d.au.length tr2,.slice tq3 d.follows.length tr3,.slice tq4 d.al.length tr4,.slice tq5 d.boxes.length tr5,i64 (aU d:Int),i64 (cA d:Int),.slice tq6 (uZ d).length tr6,.slice tq7 (uZ d).length tr7,.slice tq8 (aU d) tr8,.slice tq9 (lc [] (lh d (gl d))).length tr9,.slice tqa (aU d) tra,.slice tqb (aU d) trb]:=by rw[uw,K.s1,K.s2,K.cK,K.st,te1,te2,te3,te4,te5,te6,te7,te8,te9,tea,teb]
rw[tv]
rw[te6] at hR
rw[te8] at hKn
have hnu:=qI hR
refine aG dz ?_
refine af rfl ?_
refine aC ?_
refine zj Tryz.func27 ?_
refine FW.mono hnu ?_
rintro _ h3 ⟨⟨x,rfl,⟨hb,_⟩ | ⟨_,ml,hml,idm,verm,him,rfl,hgm⟩⟩,hp3⟩
·exact absurd hb hbad
have hR3:jQ h3 _ (gR d):=hR.mono hp3
have hcy:=Dc hR3
rw[hrg]
refine aC ?_
refine zj Tryz.func28 ?_
refine FW.mono hcy ?_
rintro _ h4 ⟨⟨x,rfl,⟨hb,_⟩ | ⟨_,b,rfl,hbc⟩⟩,hp4⟩
·exact absurd hb hbad
have hb0:b=false:=by
 cases b with
 | false=>rfl
 | true=>exact absurd (hbc.1 rfl) (FT hc G)
subst hb0
rw[hrg]
have hmlen:ml.length=aU d:=by have:=hml.1;have e:(gR d).cK=(aU d:Int):=rfl;omega
have hn0:0<aU d:=by unfold aU;omega
have hntl:aU d≤4096:=by
 have h1:¬ 4096<(aU d:Int):=fun h=>hbad (.inr (.inl h))
 omega
rw[hmlen]
obtain⟨N,hN⟩:∃ N,N=aU d:=⟨_,rfl⟩
rw[← hN] at te8 hmlen hKn hn0 hntl hnll
rw[← hN]
have eNN:decide ((N:Int)=(N:Int))=true:=decide_eq_true rfl
refine fh dz eNN ?_
refine af rfl ?_
obtain⟨idn,vern,_,hvn,hidn⟩:=hKn.wz om
obtain⟨e7,_,e8⟩:=Value.slice.inj hvn
rw[hnll] at e8
subst e7
rw[e8]
have hidn:=ag (hp3.trans hp4) hidn
have hgm:=ag hp4 hgm
refine aC ?_
refine CW.mono (Q:=fun e s'=>e = .exit 0∧s'.h=h4∧bA [] s'.fr) ?_ ?_
·refine cO N (fun i=>[(3,.box [.string d.start,.string d.layout,.slice tq1 d.aa.length tr1,.slice tq2 d.au.length tr2,.slice tq3 d.follows.length tr3,.slice tq4 d.al.length tr4,.slice tq5 d.boxes.length tr5,i64 N,i64 (cA d:Int),.slice tq6 (uZ d).length tr6,.slice tq7 (uZ d).length tr7,.slice (some ⟨idn,0,some vern⟩) N N,.slice tq9 (lc [] (lh d (gl d))).length tr9,.slice tqa N tra,.slice tqb N trb]),(5,.val (.slice (some ⟨idm,0,some verm⟩) N N)),(9,.val (i64 i))]) (fun _=>h4) (fun _=>True) aK rfl trivial ?_
 intro i hin _
 by_cases hlt:i<N
 ·have w1:=cg hlt
  have w2:=inc hlt om
  have q3:=aS hlt
  obtain⟨x,hx⟩:∃ x,(iC d nm)[i]? = some x:=⟨_,List.getElem?_eq_getElem (by rw[hnll];exact hlt)⟩
  have hxn:=hnp i x hx
  have hg:((iC d nm).map Value.string)[i]? = some (.string x):=by rw[List.getElem?_map,hx];rfl
  have hbm:(ml.map Value.bool)[i]? = some (.bool (bit ml (i:Int))):=oq (m:=ml) (i:=(i:Int)) om om
  have hbt:=hml.2 (i:Int) om (by have e:(gR d).cK=(aU d:Int):=rfl;rw[e,← hN];omega)
  have hq:(bit ml (i:Int)=true)↔x=Lh:=by
   rw[hbt,hxn]
   exact⟨fun h=>y9 hc G h,fun h=>by rw[h.1];exact Fw h.2⟩
  have hdec:decide (bit ml (i:Int)=decide (x=⟨#[103,97,112]⟩))=true:=by
   apply decide_eq_true
   cases hbb:bit ml (i:Int) with
   | true=>exact (decide_eq_true (hq.1 hbb)).symm
   | false=>exact (decide_eq_false fun e=>by rw[hq.2 e] at hbb;cases hbb).symm
  refine aG q3 ?_
  refine ae rfl ?_
  refine aC ?_
  refine aQ 10 mixed kr ?_
  refine C6 w1 hgm Nat.mul_one hbm hidn hg hdec ?_
  refine af rfl ?_
  refine aG w2 ?_
  exact⟨hlt,aK,rfl,trivial⟩
 ·have q3:=aP hlt
  obtain rfl:i=N:=by omega
  refine aG q3 ?_
  refine af rfl ?_
  refine az ?_
  exact⟨rfl,rfl,aK⟩
rintro e s' ⟨rfl,hh,hf⟩
show CW _ _ _ _
refine aB _ hf ?_
rw[hh]
clear hf hh s'
refine aC ?_
refine zj Tryz.func26 ?_
refine si.mono ?_
rintro _ ha ⟨rfl,ea⟩
obtain rfl:=ea.symm
refine aC ?_
refine ai ?_
exact⟨_,ak,rfl⟩}
end
end Go.Proofs.YtmdmimkbpikmoaaGreat
