/- Several texts, one behind the other. -/
import Derived.Test.YtmdmimkbpikmoaaGreatZG5
import Derived.Test.YtmdmimkbpikmoaaGreatZFa
import Derived.Test.YtmdmimkbpikmoaaGreatZTy
set_option linter.unusedSimpArgs false
set_option linter.unusedVariables false
set_option maxHeartbeats 8000000
namespace Go.Proofs.YtmdmimkbpikmoaaGreat
set_option maxRecDepth 20000
open Go.RowKit Am Ty
structure RS where
 hk:ai
 es:List (ByteArray×Int)
 l:List ByteArray
 av:Nat
 sH:List Value
structure Ni (h:ai) (im it:Nat) (x:RS):Prop where
 p:h <+: x.hk
 m:x.hk[im]? = some (.map (fK x.es))
 t:x.hk[it]? = some (.aq (x.l.map .string++x.sH) x.av true 9)
theorem Ni.ext {h h':ai} {im it:Nat} {x:RS} (R:Ni h im it x) (hp:x.hk <+: h'):Ni h im it ⟨h',x.es,x.l,x.av,x.sH⟩:=⟨R.p.trans hp,af hp R.m,af hp R.t⟩
def qE (U:List ByteArray) (x:RS):Nat:=2*qt U x.es+x.l.length
theorem x6 {all:Array Oper} {o:Oper} {r:List Oper} {s:St} {K:St→Prop} {x:Operand} {t y:Nat} {e:TypeId} {ti:TI} {cs cells sH:List Value} {n c id av:Nat} (hw:aE all o s=some true) (ho:o.op = .call { callee:=.builtin .append,args:=#[x,.tmp y],argTypes:=#[t,t] }) (hu:env.P.underlying t=some (.slice e)) (ht:au env.P e=some ti) (hs0:0<ti.size) (hz:(ti.zero.map fun z=>z.cells.size)=some ti.size) (hx:ev s x=some (.slice (some ⟨id,0,some av⟩) n c)) (hid:s.h[id]? = some (.aq (cells++sH) av true e)) (hl:cells.length=n*ti.size) (hy:aW s.fr y = .nz cs 1) (hc:cs.length=ti.size) (hb:(n+1)*ti.bytes≤140737488355328) (hn:n+1≤140737488355328) (k:OW env all r ({ s with h:=s.h.set id (ax.aq (cells++cs) (av+1) true e) }.a9 o.dst (.val (.slice (some ⟨id,0,some (av+1)⟩) (n+1) (n+1)))) K):OW env all (o :: r) s K:=by{
have hi:cJ s s.h ti.size (.tmp y)=some (cs,1):=by simp only[cJ,hy,hc,Nat.one_mul,if_true]
refine o8 hw ho hu ht hs0 hz hx hid (by rw[List.length_append];omega) hi hb hn ?_
rw[← hl,List.take_left']
·exact k
·rfl}
section
variable {h:ai} {r:Value} {d:bS}
theorem uM {g:FuncId} {fn:Func} {st:Prod→List ByteArray} {a:ByteArray} (hk:Bk h r d) (hf:env.P.funcs[g]? = some fn) (hnm:(fn.name == "runtime.NumGoroutine")=false) (hbd:fn.body.isNone=false) (hU:(d.aa.flatMap st).length≤100000) (hP:∀ p∈d.aa,∀ u h1,h <+: h1→fB h1 u p.an→FW env g [p.val u] h1 fun x h'=>h1 <+: h'∧aL h1 h' x (st p).length ((st p).map .string) 9) : FW env 135 [r,.string a,.func (.func g) #[] #[]] h fun x h'=>h <+: h'∧∃ im es,x = .map (some im)∧h.length≤im∧h'[im]? = some (.map (fK es))∧RI d.aa st a es []:=by{
have hk0:=hk
obtain⟨h0,ib,im,sv,up,uc,uf,ur,ub,rfl,hd,K⟩:=hk
have hd:=hd.mono K.p
obtain⟨p1,c1,p2,c2,p3,c3,p4,c4,p5,c5,rfl,rfl,rfl,rfl,rfl,l1,l2,l3,l4,l5⟩:=bo.form hd
obtain⟨es,hm,hes⟩:=K.m
have hb:=K.b
unfold bS.val at hb
simp only[List.cons_append,List.nil_append] at hb
have hkk:=bz es
have hss:bj h sv (aF d.aa):=K.s.sl (b:=16) (by have:=b8 (ps:=d.aa);have:=ct.le hd.aa;omega)
obtain⟨pq,cq,rfl⟩:=hss.form
obtain⟨U,hUe⟩:∃ U,U=d.aa.flatMap st:=⟨_,rfl⟩
rw[← hUe] at hU
have hUm:∀ p∈d.aa,∀ n∈st p,n∈U:=fun p hp n hn=>by rw[hUe];exact List.mem_flatMap.2 ⟨p,hp,hn⟩
have hUl:∀ p∈d.aa,(st p).length≤100000:=fun p hp=>by
 refine Nat.le_trans ?_ hU
 rw[hUe,List.length_flatMap]
 exact sk (f:=fun p=>(st p).length) hp
refine fe Tryz.func135 ?_;simp only[push_cast]
refine zu ?_
iterate 1 (apply eH;·simp only[push_cast,env,Nat.reduceEqDiff,reduceIte,Nat.reduceAdd,Nat.reduceMul,Nat.reduceLeDiff,reduceCtorEq,Nat.reduceSub,Int.reduceToNat]<;>exact rfl)
refine zu ?_
refine kC (kt:=9) (et:=3) al rfl kr ?_
iterate 1 (apply eH;·simp only[push_cast,env,Nat.reduceEqDiff,reduceIte,Nat.reduceAdd,Nat.reduceMul,Nat.reduceLeDiff,reduceCtorEq,Nat.reduceSub,Int.reduceToNat]<;>exact rfl)
refine zu ?_
iterate 1 (apply eH;·simp only[push_cast,env,Nat.reduceEqDiff,reduceIte,Nat.reduceAdd,Nat.reduceMul,Nat.reduceLeDiff,reduceCtorEq,Nat.reduceSub,Int.reduceToNat]<;>exact rfl)
refine cV (t:=9) (cs:=[.string a]) (n:=1) al al ?_
refine aC ?_
have hlen:(h++[ax.map []]).length=h.length+1:=by simp
rw[hlen]
have h0I:Ni h h.length (h.length+1) ⟨h++[ax.map []]++[ax.aq [.string a] 0 true 9],[],[a],0,[]⟩:=
 ⟨dt (dt (List.prefix_refl _)),bA aK,by rw[← hlen];exact aK⟩
generalize (h++[ax.map []]++[ax.aq [.string a] 0 true 9])=h2 at h0I ⊢
obtain⟨im,him⟩:∃ im,im=h.length:=⟨_,rfl⟩
rw[← him] at h0I hlen ⊢
refine fl (qE U) (fun x=>[(0,.val (.pointer (some ⟨ib,0,some 0⟩))),(2,.val (.func (.func g) #[] #[])),(7,.val (.map (some im))),(8,.val (.slice (some ⟨im+1,0,some x.av⟩) x.l.length x.l.length))]) (fun x=>x.hk)
 (fun x=>Ni h im (im+1) x∧RI d.aa st a x.es x.l∧qE U x≤2*U.length+1) ⟨h2,[],[a],0,[]⟩ aM rfl ⟨h0I,.start,?_⟩ ?_
·have:=FH (U:=U) (es:=[])
 simp only[qE,List.length_singleton]
 omega
rintro⟨hk,es,l,ver0,sH⟩ ⟨hS,hI,hM⟩
simp only at hI hM ⊢
rcases List.eq_nil_or_concat l with rfl|⟨l,x,hc⟩
·refine aC ?_
 refine ae rfl ?_
 refine aB ?_
 show CW _ _ _ _
 refine aC ?_
 refine ak ?_
 exact⟨_,al,hS.p,im,es,rfl,by omega,hS.m,hI⟩
rw[List.concat_eq_append] at hc
subst hc
have hL:l.length+1≤2*U.length+1:=by simp only[qE,List.length_append,List.length_singleton] at hM;omega
have f1:(l++[x]).length=l.length+1:=by simp
have d1:decide (0<(l.length:Int)+1)=true:=decide_eq_true om
have d2:IntKind.i64.wrap ((l.length:Int)+1-1)=l.length:=by rw[Int.add_sub_cancel];exact ay om om
have d3:(0≤(l.length:Int)∧(l.length:Int)<(l.length:Int)+1)=True:=by simp;omega
have d4:((l++[x]).map Value.string++sH)[l.length]? = some (.string x):=by simp
have d5:(0≤(l.length:Int)∧(l.length:Int)≤(l.length:Int)+1)=True:=by simp;omega
have ht:=hS.t
simp only at ht
have hb1:=af hS.p hb
simp only at hb1
refine fz f1 d1 ?_
refine ag rfl ?_
repeat (first|apply zs|apply zr|apply zn|((first|apply zx|apply zy);·simp only[push_cast,env,Nat.reduceEqDiff,reduceIte,Nat.reduceAdd,Nat.reduceMul,Nat.reduceLeDiff,reduceCtorEq,Nat.reduceSub,Int.reduceToNat,f1,d2,d3,ht,Nat.mul_one,d4,d5,Nat.zero_mul,Int.sub_zero,hb1]<;>first|exact rfl|exact .inl rfl|exact .inr rfl) | apply zq|apply zb|apply zo|apply zk|apply zl)
refine aX d.aa.length (fun k (y:RS)=>[(0,.val (.pointer (some ⟨ib,0,some 0⟩))),(2,.val (.func (.func g) #[] #[])),(7,.val (.map (some im))),(8,.val (.slice (some ⟨im+1,0,some y.av⟩) y.l.length y.l.length)),(9,.val (.string x)),(35,.val (.slice p1 d.aa.length c1)),(36,.val (i64 d.aa.length)),(37,.val (i64 k))]) (fun _ y=>y.hk)
 (fun k y=>Ni h im (im+1) y∧RM d.aa st a x y.es y.l k∧qE U y+1≤qE U ⟨hk,es,l++[x],ver0,sH⟩) ⟨hk,es,l,ver0,.string x :: sH⟩ aM rfl ⟨⟨hS.p,hS.m,?_⟩,hI.pop,?_⟩ ?_
·simp only
 rw[ht]
 simp
·simp [qE]
 omega
rintro k ⟨hk2,es2,l2,ver2,junk2⟩ hkn ⟨hS2,hI2,hM2⟩
simp only at hI2 hM2 ⊢
by_cases hlt:k<d.aa.length
·obtain⟨id,av,own,c',cells,u,hv,hid,hrd,hu⟩:=ct.at (k:=5) (fun _ _=>rfl) (hd.aa.mono hS2.p) hlt
 cases hv
 have hmem:=List.getElem_mem hlt
 have hPk:=hP _ hmem u hk2 hS2.p hu
 have hYl:=hUl _ hmem
 obtain⟨ps,cs,rfl⟩:=bT.form hu
 have w1:=cz hlt
 have w2:=inc hlt l1
 have q3:=aU hlt
 refine aG q3 ?_
 refine ag rfl ?_
 simp only at hid
 by_cases b1:d.aa[k].sort=x
 ·have db:=decide_eq_true b1
  refine fN w1 hid hrd db ?_
  refine ae rfl ?_
  refine aC ?_
  refine zc (f:=g) (cap:=[]) (args:=[d.aa[k].val (.slice ps d.aa[k].an.length cs)]) (fn:=fn) al hf hnm hbd ?_
  rw[List.append_nil]
  refine hPk.mono ?_
  rintro w h3 ⟨hp3,hG3⟩
  have hi1:=dw hS2.m
  have hi2:=dw hS2.t
  simp only at hi1 hi2
  obtain⟨pw,cw',rfl⟩:=hG3.form
  have hS3:=hS2.ext hp3
  simp only at hS3
  refine aC ?_
  refine aX (st d.aa[k]).length (fun j (y:RS)=>[(0,.val (.pointer (some ⟨ib,0,some 0⟩))),(2,.val (.func (.func g) #[] #[])),(7,.val (.map (some im))),(8,.val (.slice (some ⟨im+1,0,some y.av⟩) y.l.length y.l.length)),(9,.val (.string x)),(35,.val (.slice (some ⟨id,0,some av⟩) d.aa.length c1)),(36,.val (i64 d.aa.length)),(37,.val (i64 k)),(47,.val (.slice pw (st d.aa[k]).length cw')),(48,.val (i64 (st d.aa[k]).length)),(49,.val (i64 j))]) (fun _ y=>y.hk)
   (fun j y=>Ni h im (im+1) y∧RM d.aa st a x y.es y.l k∧qE U y+1≤qE U ⟨hk,es,l++[x],ver0,sH⟩∧aL hk2 y.hk (.slice pw (st d.aa[k]).length cw') (st d.aa[k]).length ((st d.aa[k]).map .string) 9∧∀ n∈(st d.aa[k]).take j,dJ y.es n≠0) ⟨h3,es2,l2,ver2,junk2⟩ aM rfl ⟨hS3,hI2,hM2,hG3,by simp⟩ ?_
  rintro j ⟨hk4,es4,l4,ver4,junk4⟩ hjn ⟨hS4,hI4,hM4,hG4,hJ4⟩
  simp only at hI4 hM4 hG4 hJ4 ⊢
  by_cases hjl:j<(st d.aa[k]).length
  ·have hN4:bj hk4 _ (st d.aa[k]):=hG4.sl (b:=16) om
   obtain⟨id5,ver5,own5,c5',cells5,hv5,hid5,hc5⟩:=hN4.at hjl
   cases hv5
   have v1:=cz hjl
   have v2:=inc hjl om
   have v3:=aU hjl
   have hmem2:=List.getElem_mem hjl
   have hm4:=hS4.m
   have ht4:=hS4.t
   simp only at hm4 ht4
   have hkk4:=bz es4
   have hz4:=hI4.z (st d.aa[k])[j]
   have hstep:∀ e',(∀ s,dJ es4 s≠0→dJ e' s≠0)→dJ e' (st d.aa[k])[j]≠0→∀ n∈(st d.aa[k]).take (j+1),dJ e' n≠0:=fun e' g1 g2 n hn=>by
    rw[List.take_succ_eq_append_getElem hjl,List.mem_append] at hn
    rcases hn with hn|hn
    ·exact g1 n (hJ4 n hn)
    ·rw[List.mem_singleton.1 hn];exact g2
   refine aG v3 ?_
   refine ag rfl ?_
   by_cases hN0:dJ es4 (st d.aa[k])[j]=0
   ·have hRx:tD d.aa st a (st d.aa[k])[j]:=by
     rcases hI4.h with e|e
     ·exact .one hmem (b1.trans e) hmem2
     ·exact .more e hmem b1 hmem2
    have hI5:=hI4.add hN0 hRx
    have hun:=(uz (es:=es4) hN0 (U:=U)).2 (hUm _ hmem _ hmem2)
    have hgr:∀ s,dJ es4 s≠0→dJ (dv es4 (st d.aa[k])[j] 1) s≠0:=fun s h=>by rw[eT];split<;>first|decide|exact h
    have hg2:dJ (dv es4 (st d.aa[k])[j] 1) (st d.aa[k])[j]≠0:=by rw[eT,if_pos rfl];decide
    have hmx:l4.length+1≤1000000:=by simp only[qE] at hM4 hM;omega
    have hne1:im≠im+1:=by omega
    rcases fi es4 (st d.aa[k])[j] with ⟨hg,h0'⟩ | hg
    ·refine Cx v1 hid5 hc5 hm4 hg hkk4 Nat.mul_one ?_
     refine ag rfl ?_
     refine aC ?_
     refine fF (kt:=9) (et:=3) (kd:=eP) al rfl rfl kr rfl al hm4 al al rfl hkk4 ?_
     dsimp only
     rw[dR]
     refine aC ?_
     refine x6 (t:=36) (cells:=l4.map .string) (sH:=junk4) al rfl kr E5 (by decide) rfl al (by rw[aD hne1];exact ht4) (by simp) al rfl (by simp only;omega) om ?_
     refine aG v2 ?_
     refine⟨hjl,⟨(hk4.set im (.map (fK (dv es4 (st d.aa[k])[j] 1)))).set (im+1) (.aq (l4.map .string++[.string (st d.aa[k])[j]]) (ver4+1) true 9),dv es4 (st d.aa[k])[j] 1,l4++[(st d.aa[k])[j]],ver4+1,[]⟩,(by simp only[push_cast,Nat.reduceEqDiff,reduceIte,List.length_append]),rfl,⟨aZ (aZ hS4.p om) om,?_,?_⟩,hI5,?_,?_,hstep _ hgr hg2⟩
     ·simp only
      rw[aD om]
      exact aw hm4
     ·simp only
      rw[aw (by rw[aD hne1];exact ht4)]
      simp
     ·simp only[qE,List.length_append,List.length_singleton] at hM4 hun ⊢
      omega
     ·refine hG4.mono fun q o hj ho=>?_
      have:=(hG4.lt hj).1
      rw[aD om,aD om]
      exact ho
    ·rw[hN0] at hg
     refine Cx v1 hid5 hc5 hm4 hg hkk4 Nat.mul_one ?_
     refine ag rfl ?_
     refine aC ?_
     refine fF (kt:=9) (et:=3) (kd:=eP) al rfl rfl kr rfl al hm4 al al rfl hkk4 ?_
     dsimp only
     rw[dR]
     refine aC ?_
     refine x6 (t:=36) (cells:=l4.map .string) (sH:=junk4) al rfl kr E5 (by decide) rfl al (by rw[aD hne1];exact ht4) (by simp) al rfl (by simp only;omega) om ?_
     refine aG v2 ?_
     refine⟨hjl,⟨(hk4.set im (.map (fK (dv es4 (st d.aa[k])[j] 1)))).set (im+1) (.aq (l4.map .string++[.string (st d.aa[k])[j]]) (ver4+1) true 9),dv es4 (st d.aa[k])[j] 1,l4++[(st d.aa[k])[j]],ver4+1,[]⟩,(by simp only[push_cast,Nat.reduceEqDiff,reduceIte,List.length_append]),rfl,⟨aZ (aZ hS4.p om) om,?_,?_⟩,hI5,?_,?_,hstep _ hgr hg2⟩
     ·simp only
      rw[aD om]
      exact aw hm4
     ·simp only
      rw[aw (by rw[aD hne1];exact ht4)]
      simp
     ·simp only[qE,List.length_append,List.length_singleton] at hM4 hun ⊢
      omega
     ·refine hG4.mono fun q o hj ho=>?_
      have:=(hG4.lt hj).1
      rw[aD om,aD om]
      exact ho
   ·have h1:=hz4.resolve_left hN0
    have hg:=(fi es4 (st d.aa[k])[j]).resolve_left (fun h=>hN0 h.2)
    rw[h1] at hg
    refine Cx v1 hid5 hc5 hm4 hg hkk4 Nat.mul_one ?_
    refine ae rfl ?_
    refine aG v2 ?_
    exact⟨hjl,⟨hk4,es4,l4,ver4,junk4⟩,aM,rfl,hS4,hI4,hM4,hG4,hstep _ (fun _ h=>h) hN0⟩
  ·have v3:=aT hjl
   obtain rfl:j=(st d.aa[k]).length:=by omega
   rw[List.take_length] at hJ4
   refine aG v3 ?_
   refine ae rfl ?_
   refine aB ?_
   show CW _ _ _ _
   refine aG w2 ?_
   exact⟨hlt,⟨hk4,es4,l4,ver4,junk4⟩,aM,rfl,hS4,hI4.next hlt (fun _=>hJ4),hM4⟩
 ·have db:=decide_eq_false b1
  refine fN w1 hid hrd db ?_
  refine ag rfl ?_
  refine aB ?_
  show CW _ _ _ _
  refine aG w2 ?_
  exact⟨hlt,⟨hk2,es2,l2,ver2,junk2⟩,aM,rfl,hS2,hI2.next hlt (fun e=>absurd e b1),hM2⟩
·have q3:=aT hlt
 obtain rfl:k=d.aa.length:=by omega
 refine aG q3 ?_
 refine ae rfl ?_
 refine aB ?_
 exact⟨⟨hk2,es2,l2,ver2,junk2⟩,by omega,aM,rfl,hS2,hI2.fin,by omega⟩}
end
def gn (l:List Sym):List Sym:=l.filter fun s=>!fm s
theorem zS {l:List Sym} {k:Nat} (hk:k<l.length):gn (l.take (k+1))=if fm l[k]=true then gn (l.take k) else gn (l.take k)++[l[k]]:=by{
unfold gn
rw[List.take_succ_eq_append_getElem hk,List.filter_append]
cases h:fm l[k]<;>simp [h]}
theorem uw {l:List Sym}:(gn l).length≤l.length:=List.length_filter_le _ _
def jw (l:List Sym):List ByteArray:=match gn l with
 | [s]=>if ((decide (s.kind=3)||decide (s.kind=6)) && !cY s.name)=true then [s.name] else []
 | _=>[]
theorem C4 {l:List Sym}:(jw l).length≤1:=by{
unfold jw
split
·split<;>simp
·simp}
theorem ua {l:List Sym}:(l.flatMap Sym.cells).length=l.length*8:=by{
induction l with
| nil=>rfl
| cons s l ih=>rw[List.flatMap_cons,List.length_append,ih,List.length_cons];show 8+_=_;omega}
section
variable {h:ai} {r:Value} {d:bS}
theorem Hg {p:Prod} {u:Value} (hy:fB h u p.an):FW env 136 [p.val u] h fun x h'=>h <+: h'∧aL h h' x (jw p.an).length ((jw p.an).map .string) 9:=by{
obtain⟨ps,cs,rfl⟩:=bT.form hy
have hle:p.an.length*88≤140737488355328:=hy.1
have hl:p.an.length≤140737488355328:=by omega
have z0:(gn []).length=0:=rfl
refine fe Tryz.func136 ?_;simp only[push_cast]
refine aC ?_
refine CW.mono (Q:=fun e s'=>e = .exit 0∧∃ (h1:ai) (q:Option Addr) (c:Nat),h <+: h1∧aL h h1 (.slice q (gn p.an).length c) (gn p.an).length ((gn p.an).flatMap Sym.cells) 56∧s'.h=h1∧bD [(3,.val (.slice q (gn p.an).length c))] s'.fr) ?_ ?_
·refine aX p.an.length (fun k (x:ai×Option Addr×Nat)=>[(3,.val (.slice x.2.1 (gn (p.an.take k)).length x.2.2)),(7,.val (.slice ps p.an.length cs)),(8,.val (i64 p.an.length)),(9,.val (i64 k))]) (fun _ x=>x.1)
  (fun k x=>h <+: x.1∧aL h x.1 (.slice x.2.1 (gn (p.an.take k)).length x.2.2) (gn (p.an.take k)).length ((gn (p.an.take k)).flatMap Sym.cells) 56) (h,none,0) (mi z0) rfl ⟨List.prefix_refl _,aL.nil⟩ ?_
 rintro k ⟨hk,q,cq⟩ hkn ⟨hp,hG⟩
 simp only at hp hG ⊢
 by_cases hlt:k<p.an.length
 ·obtain⟨id,av,own,c',hv,hid⟩:=bT.at (hy.mono hp) om
  cases hv
  have hg:=g7 hlt
  have e1:=cz hlt
  have e2:=inc hlt hl
  have e3:=aU hlt
  have hs:=zS hlt
  have hlen:(gn (p.an.take k)).length≤k:=by
   have:=uw (l:=p.an.take k)
   rw[List.length_take] at this
   omega
  refine aG e3 ?_
  refine ag rfl ?_
  refine gU e1 hid hg ?_
  refine zj Tryz.func134 ?_
  refine rc.mono ?_
  rintro _ h1 ⟨rfl,rfl⟩
  cases hL:fm p.an[k] with
  | true=>
    rw[if_pos hL] at hs
    refine aC ?_
    refine ae rfl ?_
    refine aG e2 ?_
    refine⟨hlt,(h1,q,cq),(mi hs),rfl,hp,?_⟩
    rw[hs]
    exact hG
  | false=>
    rw[if_neg (by rw[hL];decide)] at hs
    have hs2:(gn (p.an.take (k+1))).length=(gn (p.an.take k)).length+1:=by rw[hs];simp
    refine aC ?_
    refine ag rfl ?_
    refine aC ?_
    refine lU (t:=49) (cs:=Sym.cells p.an[k]) al rfl kr FU (by decide) rfl al rfl hG hp ua rfl (by simp only;omega) om ?_
    intro p' c' h' k1 k2 _ _
    refine aG e2 ?_
    refine⟨hlt,(h',p',c'),(mi hs2),rfl,k2,?_⟩
    rw[hs,List.length_append,List.flatMap_append,List.flatMap_singleton]
    exact k1
 ·have e3:=aT hlt
  obtain rfl:k=p.an.length:=by omega
  rw[List.take_length] at hG
  refine aG e3 ?_
  refine ae rfl ?_
  refine aB ?_
  refine⟨rfl,hk,q,cq,hp,hG,rfl,?_⟩
  rw[List.take_length]
  exact aM
rintro e s' ⟨rfl,h1,q,c,hp1,hG1,hh,hf⟩
show CW _ _ _ _
refine aA _ hf ?_
rw[hh]
clear hf hh s'
have hBr:jw p.an=(match gn p.an with
 | [s]=>if ((decide (s.kind=3)||decide (s.kind=6)) && !cY s.name)=true then [s.name] else []
 | _=>[]):=rfl
have hML:=uw (l:=p.an)
generalize gn p.an=M at hG1 hBr hML ⊢
by_cases hl1:M.length=1
·obtain⟨s,rfl⟩:∃ x,M=[x]:=by
  match M,hl1 with
  | [x],_=>exact⟨x,rfl⟩
 obtain⟨io,vo,_,i2,i3⟩:=hG1.wJ (by simp)
 cases i2
 rw[List.flatMap_singleton] at i3
 unfold Sym.cells at i3
 simp only at hBr
 by_cases q3:s.name=⟨#[]⟩
 ·have d3:=decide_eq_true q3
  by_cases q1:s.kind=3
  ·have d1:=decide_eq_true q1
   refine fN i3 d1 d3 Nat.mul_one ?_
   refine ae rfl ?_
   refine aC ?_
   refine ak ?_
   refine⟨_,al,hp1,?_⟩
   rw[hBr]
   rw[if_neg (by simp [cY,d3])]
   exact aL.nil
  ·have d1:=decide_eq_false q1
   by_cases q2:s.kind=6
   ·have d2:=decide_eq_true q2
    refine mE i3 d1 d2 d3 Nat.mul_one ?_
    refine ae rfl ?_
    refine aC ?_
    refine ak ?_
    refine⟨_,al,hp1,?_⟩
    rw[hBr]
    rw[if_neg (by simp [cY,d3])]
    exact aL.nil
   ·have d2:=decide_eq_false q2
    refine mE i3 d1 d2 d3 Nat.mul_one ?_
    refine ae rfl ?_
    refine aC ?_
    refine ak ?_
    refine⟨_,al,hp1,?_⟩
    rw[hBr]
    rw[if_neg (by simp [cY,d3])]
    exact aL.nil
 ·have d3:=decide_eq_false q3
  by_cases q1:s.kind=3
  ·have d1:=decide_eq_true q1
   refine fN i3 d1 d3 Nat.mul_one ?_
   refine ag rfl ?_
   refine zu ?_
   iterate 4 (apply eH;·simp only[push_cast,env,Nat.reduceEqDiff,reduceIte,Nat.reduceAdd,Nat.reduceMul,Nat.reduceLeDiff,reduceCtorEq,Nat.reduceSub,Int.reduceToNat,i3,Nat.mul_one]<;>exact rfl)
   refine cV (t:=9) (cs:=[.string s.name]) (n:=1) al al ?_
   refine aC ?_
   refine ak ?_
   refine⟨_,al,dt hp1,?_⟩
   rw[hBr,if_pos (by simp [cY,d1,d1,d3])]
   exact .inr ⟨h1.length,0,hp1.length_le,rfl,aK⟩
  ·have d1:=decide_eq_false q1
   by_cases q2:s.kind=6
   ·have d2:=decide_eq_true q2
    refine mE i3 d1 d2 d3 Nat.mul_one ?_
    refine ag rfl ?_
    refine zu ?_
    iterate 4 (apply eH;·simp only[push_cast,env,Nat.reduceEqDiff,reduceIte,Nat.reduceAdd,Nat.reduceMul,Nat.reduceLeDiff,reduceCtorEq,Nat.reduceSub,Int.reduceToNat,i3,Nat.mul_one]<;>exact rfl)
    refine cV (t:=9) (cs:=[.string s.name]) (n:=1) al al ?_
    refine aC ?_
    refine ak ?_
    refine⟨_,al,dt hp1,?_⟩
    rw[hBr,if_pos (by simp [cY,d1,d2,d3])]
    exact .inr ⟨h1.length,0,hp1.length_le,rfl,aK⟩
   ·have d2:=decide_eq_false q2
    refine mE i3 d1 d2 d3 Nat.mul_one ?_
    refine ae rfl ?_
    refine aC ?_
    refine ak ?_
    refine⟨_,al,hp1,?_⟩
    rw[hBr]
    rw[if_neg (by simp [d1,d2])]
    exact aL.nil
·have dn:decide ((M.length:Int)=1)=false:=decide_eq_false om
 refine aG dn ?_
 have hBe:jw p.an=[]:=by
  rw[hBr]
  match M,hl1 with
  | [],_=>rfl
  | [x],h=>exact absurd rfl h
  | _ :: _ :: _,_=>rfl
 refine ae rfl ?_
 refine aC ?_
 refine ak ?_
 refine⟨_,al,hp1,?_⟩
 rw[hBe]
 exact aL.nil}
theorem Fk (hk:Bk h r d) (hpn:cX d≤160):FW env 77 [r] h fun x h'=>iI (∀ s∈aF d.aa,¬ tD d.aa (fun p=>jw p.an) s s) x∧h'=h:=by{
refine lZ ?_
have hk0:=hk
have hU:(d.aa.flatMap fun p=>jw p.an).length≤100000:=by
 rw[List.length_flatMap]
 have:=nD (f:=fun p:Prod=>(jw p.an).length) (B:=1) (l:=d.aa) fun p _=>C4
 unfold cX at hpn
 unfold cM at this
 omega
obtain⟨h0,ib,im,sv,up,uc,uf,ur,ub,rfl,hd,K⟩:=hk
have hd:=hd.mono K.p
obtain⟨p1,c1,p2,c2,p3,c3,p4,c4,p5,c5,rfl,rfl,rfl,rfl,rfl,l1,l2,l3,l4,l5⟩:=bo.form hd
obtain⟨es,hm,hes⟩:=K.m
have hb:=K.b
unfold bS.val at hb
simp only[List.cons_append,List.nil_append] at hb
have hkk:=bz es
have hss:bj h sv (aF d.aa):=K.s.sl (b:=16) (by have:=b8 (ps:=d.aa);have:=ct.le hd.aa;omega)
obtain⟨pq,cq,rfl⟩:=hss.form
have hsl:=hss.le
refine fe Tryz.func77 ?_;simp only[push_cast]
refine aG hb ?_
refine aX (aF d.aa).length (fun k (x:ai)=>[(0,.val (.pointer (some ⟨ib,0,some 0⟩))),(9,.val (.slice pq (aF d.aa).length cq)),(10,.val (i64 (aF d.aa).length)),(11,.val (i64 k))]) (fun _ x=>x) (fun k x=>h <+: x∧∀ i (hi:i<(aF d.aa).length),i<k→¬ tD d.aa (fun p=>jw p.an) (aF d.aa)[i] (aF d.aa)[i]) h aM rfl ⟨List.prefix_refl _,fun i _ hi=>absurd hi om⟩ ?_
rintro k h1 hkn ⟨hp,hall⟩
by_cases hlt:k<(aF d.aa).length
·obtain⟨id,av,own,c',cells,hv,hid,hc⟩:=(bj.mono hss hp).at hlt
 cases hv
 have e1:=cz hlt
 have e2:=inc hlt hsl
 have e3:=aU hlt
 have hmem:(aF d.aa)[k]∈aF d.aa:=List.getElem_mem hlt
 generalize hS:(aF d.aa)[k]=S at hc hmem
 have hstep:¬ tD d.aa (fun p=>jw p.an) S S→∀ i (hi:i<(aF d.aa).length),i<k+1→¬ tD d.aa (fun p=>jw p.an) (aF d.aa)[i] (aF d.aa)[i]:=fun h3 i hi h2=>by
  rcases (by omega:i<k∨i=k) with h4|rfl
  ·exact hall i hi h4
  ·rw[hS];exact h3
 refine aG e3 ?_
 refine ag rfl ?_
 refine fN e1 hid hc Nat.mul_one ?_
 refine zj Tryz.func135 ?_
 refine (uM (st:=fun p=>jw p.an) (hk0.mono hp) Tryz.func136 kr kr hU (fun p _ u h1 _ hy=>Hg hy)).mono ?_
 rintro _ h2 ⟨hp2,im2,es2,rfl,_,hm2,hR⟩
 have hkk2:=bz es2
 have hdn:=hR.done (s:=S)
 have hz:=hR.z S
 generalize hn:dJ es2 S=n at hdn hz
 rcases fi es2 S with ⟨hg,h0'⟩ | hg
 ·obtain rfl:n=0:=by rw[← hn,h0']
  refine fN hm2 hg hkk2 Nat.mul_one ?_
  refine ae rfl ?_
  refine aG e2 ?_
  exact⟨hlt,h2,aM,rfl,hp.trans hp2,hstep (fun h=>hdn.2 h rfl)⟩
 ·rw[hn] at hg
  rcases hz with rfl|rfl
  ·refine fN hm2 hg hkk2 Nat.mul_one ?_
   refine ae rfl ?_
   refine aG e2 ?_
   exact⟨hlt,h2,aM,rfl,hp.trans hp2,hstep (fun h=>hdn.2 h rfl)⟩
  ·refine fN hm2 hg hkk2 Nat.mul_one ?_
   refine ag rfl ?_
   refine aC ?_
   refine ak ?_
   exact⟨_,al,⟨48,_,rfl,⟨fun h=>(by cases h),fun h=>absurd (hdn.1 (by decide)) (h _ hmem)⟩⟩,hp.trans hp2⟩
·have e3:=aT hlt
 obtain rfl:k=(aF d.aa).length:=by omega
 refine aG e3 ?_
 refine ae rfl ?_
 refine aB ?_
 show CW _ _ _ _
 refine aC ?_
 refine ak ?_
 refine⟨_,al,⟨0,_,rfl,fun _ s hs=>?_,fun _=>rfl⟩,hp⟩
 obtain⟨i,hi,rfl⟩:=List.getElem_of_mem hs
 exact hall i hi hi}
end
def iO (s:ByteArray) (e:Bool):Bool:=(cY s&&e)||bK s
def jA (s:a8):Bool:=decide (s.a=0)&&(decide (s.b=0)&&(decide (s.c=0)&&decide (s.d=0)))
def bi (s:Sym):Bool:=
 if s.kind=1 then decide ((s.text.size:Int)≤32)&&(jA s.set&&(cY s.name&&cY s.sep))
 else if s.kind=2 then cY s.text&&(cY s.name&&cY s.sep)
 else if s.kind=3 then cY s.text&&(jA s.set&&(bK s.name&&cY s.sep))
 else if s.kind=4 then cY s.text&&(cY s.sep&&(cY s.name||(jA s.set&&bK s.name)))
 else if s.kind=5∨s.kind=6 then (if cY s.name then cY s.text&&cY s.sep else cY s.text&&(jA s.set&&(bK s.name&&decide ((s.sep.size:Int)≤32))))
 else false
def cD (p:Prod):Bool:=
 (bK p.sort&&(iO p.cons true&&(decide (p.an.length≠0)&&decide (p.an.length≤12))))&&((if p.lex then !p.bracket else (p.bracket == cY p.cons))&&p.an.all bi)
def dB (g:cZ):Bool:=decide (0≤g.assoc)&&(decide (g.assoc≤3)&&(decide (g.cons.length≠0)&&(decide (g.cons.length≤16)&&g.cons.all bK)))
def dU (l:List cZ):Bool:=l.all dB&&(decide (l.length≠0)&&decide (l.length≤16))
def jD (x:Item):Bool:=
 if x.kind=1 then decide ((x.text.size:Int)≤32)&&(decide (x.n=0)&&decide (x.bl.length=0))
 else if x.kind=2 then cY x.text&&((decide (0≤x.n)&&decide (x.n≤999999))&&decide (x.bl.length=0))
 else if x.kind=3∨x.kind=4 then cY x.text&&(decide (x.n=0)&&decide (x.bl.length=0))
 else if x.kind=5 then cY x.text&&(decide (0≤x.n)&&decide (x.n≤999999))
 else if x.kind=6 then cY x.text&&decide (x.n=0)
 else false
mutual
def Sc:Item→Bool
 | .mk k t n l=>jD (.mk k t n l)&&y7 l
def y7:List Item→Bool
 | []=>true
 | x :: r=>Sc x&&y7 r
end
def gj (b:DD):Bool:=bK b.cons&&(y7 b.bl&&decide (iU b.bl≤64))
def cA (d:bS):Bool:=
 (iO d.start true&&(iO d.layout true&&decide (d.aa.length≤200)))&&(d.aa.all cD&&(d.aj.all dU&&(d.follows.all (fun f=>bK f.sort)&&(d.ah.all (fun x=>bK x.sort&&bK x.jN)&&d.boxes.all gj))))
theorem qQ:∀ l:List Item,y7 l=l.all Sc
 | []=>rfl
 | x :: l=>by unfold y7;rw[qQ l];rfl
theorem Mb (x:Item):Sc x=(jD x&&y7 x.bl):=by cases x;rfl
theorem A8 {b:ByteArray}:cY b=true↔b.size=0:=by unfold cY;rw[decide_eq_true_eq];exact jz
section
variable {h:ai}
theorem el {s:ByteArray} {e:Bool} (hs:s.size≤lX):FW env 170 [.string s,.bool e] h fun r h'=>r = .bool (iO s e)∧h'=h:=by{
refine fe Tryz.func170 ?_;simp only[push_cast]
by_cases q:s=⟨#[]⟩
·have d:=decide_eq_true q
 cases e with
 | true=>
   refine aG d ?_
   refine ak ?_
   exact⟨_,al,by simp [cN,iO,cY,d],rfl⟩
 | false=>
   refine aG d ?_
   refine zj Tryz.func49 ?_
   refine (yn hs).mono ?_
   rintro _ h1 ⟨rfl,rfl⟩
   refine aC ?_
   refine ak ?_
   exact⟨_,al,by simp [cN,iO,cY,d],rfl⟩
·have d:=decide_eq_false q
 refine aG d ?_
 refine zj Tryz.func49 ?_
 refine (yn hs).mono ?_
 rintro _ h1 ⟨rfl,rfl⟩
 refine aC ?_
 refine ak ?_
 exact⟨_,al,by simp [cN,iO,cY,d],rfl⟩}
theorem iw {s:ByteArray}:iO s false=bK s:=by unfold iO;rw[Bool.and_false,Bool.false_or]
theorem yx {s:Sym} (hw:tT s):FW env 203 [s.val] h fun r h'=>r = .bool (bi s)∧h'=h:=by{
refine fe Tryz.func203 ?_;simp only[push_cast]
refine zu ?_
refine aC ?_
obtain⟨z,hz⟩:∃ z,z=jA s.set:=⟨_,rfl⟩
refine aA [(1,.box [i64 s.kind,.string s.text,u64 s.set.a,u64 s.set.b,u64 s.set.c,u64 s.set.d,.string s.name,.string s.sep]),(3,.val (.bool (!z))),(9,.val (i64 s.kind)),(10,.val (.bool (decide (s.kind=1))))] (by rw[hz];unfold jA;exact aM) ?_
show CW _ _ ⟨_,[],h⟩ _
by_cases k1:s.kind=1
·have d1:=decide_eq_true k1
 rw[d1]
 refine ag rfl ?_
 refine aC ?_
 refine ak ?_
 exact⟨_,al,by simp [cN,bi,cY,Bool.and_assoc,k1,hz],rfl⟩
have d1:=decide_eq_false k1
rw[d1]
refine ae rfl ?_
by_cases k2:s.kind=2
·have d2:=decide_eq_true k2
 refine aG d2 ?_
 refine ag rfl ?_
 refine aC ?_
 refine ak ?_
 exact⟨_,al,by simp [cN,bi,cY,Bool.and_assoc,k2],rfl⟩
have d2:=decide_eq_false k2
refine aG d2 ?_
refine ae rfl ?_
by_cases k3:s.kind=3
·have d3:=decide_eq_true k3
 refine aG d3 ?_
 refine ag rfl ?_
 by_cases q1:s.text=⟨#[]⟩
 ·have g1:=decide_eq_true q1
  cases z with
  | true=>
    refine aG g1 ?_
    refine zj Tryz.func170 ?_
    refine (el hw.name).mono ?_
    rintro _ h1 ⟨rfl,rfl⟩
    rw[iw]
    cases hN:bK s.name with
    | true=>
      refine aC ?_
      refine ak ?_
      exact⟨_,al,by simp [cN,bi,cY,Bool.and_assoc,k3,← hz,hN,g1],rfl⟩
    | false=>
      refine aC ?_
      refine ak ?_
      exact⟨_,al,by simp [cN,bi,cY,Bool.and_assoc,k3,← hz,hN,g1],rfl⟩
  | false=>
    refine aG g1 ?_
    refine ak ?_
    exact⟨_,al,by simp [cN,bi,cY,Bool.and_assoc,k3,← hz,g1],rfl⟩
 ·have g1:=decide_eq_false q1
  refine aG g1 ?_
  refine ak ?_
  exact⟨_,al,by simp [cN,bi,cY,Bool.and_assoc,k3,g1],rfl⟩
have d3:=decide_eq_false k3
refine aG d3 ?_
refine ae rfl ?_
by_cases k4:s.kind=4
·have d4:=decide_eq_true k4
 refine aG d4 ?_
 refine ag rfl ?_
 by_cases q1:s.text=⟨#[]⟩
 ·have g1:=decide_eq_true q1
  by_cases q2:s.sep=⟨#[]⟩
  ·have g2:=decide_eq_true q2
   by_cases q3:s.name=⟨#[]⟩
   ·have g3:=decide_eq_true q3
    refine gU g1 g2 g3 ?_
    refine ak ?_
    exact⟨_,al,by simp [cN,bi,cY,Bool.and_assoc,k4,g1,g2,g3],rfl⟩
   ·have g3:=decide_eq_false q3
    cases z with
    | true=>
      refine gU g1 g2 g3 ?_
      refine zj Tryz.func170 ?_
      refine (el hw.name).mono ?_
      rintro _ h1 ⟨rfl,rfl⟩
      rw[iw]
      cases hN:bK s.name with
      | true=>
        refine aC ?_
        refine ak ?_
        exact⟨_,al,by simp [cN,bi,cY,Bool.and_assoc,k4,← hz,hN,g1,g2,g3],rfl⟩
      | false=>
        refine aC ?_
        refine ak ?_
        exact⟨_,al,by simp [cN,bi,cY,Bool.and_assoc,k4,← hz,hN,g1,g2,g3],rfl⟩
    | false=>
      refine gU g1 g2 g3 ?_
      refine ak ?_
      exact⟨_,al,by simp [cN,bi,cY,Bool.and_assoc,k4,← hz,g1,g2,g3],rfl⟩
  ·have g2:=decide_eq_false q2
   refine fz g1 g2 ?_
   refine ak ?_
   exact⟨_,al,by simp [cN,bi,cY,Bool.and_assoc,k4,g1,g2],rfl⟩
 ·have g1:=decide_eq_false q1
  refine aG g1 ?_
  refine ak ?_
  exact⟨_,al,by simp [cN,bi,cY,Bool.and_assoc,k4,g1],rfl⟩
have d4:=decide_eq_false k4
refine aG d4 ?_
refine ae rfl ?_
by_cases k5:s.kind=5
·have d5:=decide_eq_true k5
 refine aG d5 ?_
 refine ag rfl ?_
 refine cE ?_
 show CW _ _ _ _
 refine ag rfl ?_
 by_cases q3:s.name=⟨#[]⟩
 ·have g3:=decide_eq_true q3
  refine aG g3 ?_
  refine ag rfl ?_
  refine aC ?_
  refine ak ?_
  exact⟨_,al,by simp [cN,bi,cY,Bool.and_assoc,k5,g3],rfl⟩
 have g3:=decide_eq_false q3
 refine aG g3 ?_
 refine ae rfl ?_
 by_cases q1:s.text=⟨#[]⟩
 ·have g1:=decide_eq_true q1
  cases z with
  | true=>
    refine aG g1 ?_
    refine zj Tryz.func170 ?_
    refine (el hw.name).mono ?_
    rintro _ h1 ⟨rfl,rfl⟩
    rw[iw]
    cases hN:bK s.name with
    | true=>
      refine aC ?_
      refine ak ?_
      exact⟨_,al,by simp [cN,bi,cY,Bool.and_assoc,k5,← hz,hN,g1,g3],rfl⟩
    | false=>
      refine aC ?_
      refine ak ?_
      exact⟨_,al,by simp [cN,bi,cY,Bool.and_assoc,k5,← hz,hN,g1,g3],rfl⟩
  | false=>
    refine aG g1 ?_
    refine ak ?_
    exact⟨_,al,by simp [cN,bi,cY,Bool.and_assoc,k5,← hz,g1,g3],rfl⟩
 ·have g1:=decide_eq_false q1
  refine aG g1 ?_
  refine ak ?_
  exact⟨_,al,by simp [cN,bi,cY,Bool.and_assoc,k5,g1,g3],rfl⟩
have d5:=decide_eq_false k5
refine aG d5 ?_
refine ae rfl ?_
by_cases k6:s.kind=6
·have d6:=decide_eq_true k6
 refine aG d6 ?_
 refine ag rfl ?_
 by_cases q3:s.name=⟨#[]⟩
 ·have g3:=decide_eq_true q3
  refine aG g3 ?_
  refine ag rfl ?_
  refine aC ?_
  refine ak ?_
  exact⟨_,al,by simp [cN,bi,cY,Bool.and_assoc,k6,g3],rfl⟩
 have g3:=decide_eq_false q3
 refine aG g3 ?_
 refine ae rfl ?_
 by_cases q1:s.text=⟨#[]⟩
 ·have g1:=decide_eq_true q1
  cases z with
  | true=>
    refine aG g1 ?_
    refine zj Tryz.func170 ?_
    refine (el hw.name).mono ?_
    rintro _ h1 ⟨rfl,rfl⟩
    rw[iw]
    cases hN:bK s.name with
    | true=>
      refine aC ?_
      refine ak ?_
      exact⟨_,al,by simp [cN,bi,cY,Bool.and_assoc,k6,← hz,hN,g1,g3],rfl⟩
    | false=>
      refine aC ?_
      refine ak ?_
      exact⟨_,al,by simp [cN,bi,cY,Bool.and_assoc,k6,← hz,hN,g1,g3],rfl⟩
  | false=>
    refine aG g1 ?_
    refine ak ?_
    exact⟨_,al,by simp [cN,bi,cY,Bool.and_assoc,k6,← hz,g1,g3],rfl⟩
 ·have g1:=decide_eq_false q1
  refine aG g1 ?_
  refine ak ?_
  exact⟨_,al,by simp [cN,bi,cY,Bool.and_assoc,k6,g1,g3],rfl⟩
have d6:=decide_eq_false k6
refine aG d6 ?_
refine ae rfl ?_
refine aC ?_
refine ak ?_
exact⟨_,al,by simp [cN,bi,cY,Bool.and_assoc,k1,k2,k3,k4,k5,k6],rfl⟩}
end
section
variable {h:ai} {r:Value} {d:bS}
theorem CB (hk:Bk h r d):FW env 80 [r] h fun x h'=>iI (∀ f∈d.follows,jA f.set=false) x∧h'=h:=by{
obtain⟨h0,ib,im,sv,up,uc,uf,ur,ub,rfl,hd,K⟩:=hk
have hd:=hd.mono K.p
obtain⟨p1,c1,p2,c2,p3,c3,p4,c4,p5,c5,rfl,rfl,rfl,rfl,rfl,l1,l2,l3,l4,l5⟩:=bo.form hd
obtain⟨es,hm,hes⟩:=K.m
have hb:=K.b
unfold bS.val at hb
simp only[List.cons_append,List.nil_append] at hb
have hkk:=bz es
have hss:bj h sv (aF d.aa):=K.s.sl (b:=16) (by have:=b8 (ps:=d.aa);have:=ct.le hd.aa;omega)
obtain⟨pq,cq,rfl⟩:=hss.form
refine fe Tryz.func80 ?_;simp only[push_cast]
refine aG hb ?_
refine dC d.follows.length (fun k=>[(10,.val (.slice p3 d.follows.length c3)),(11,.val (i64 d.follows.length)),(12,.val (i64 k))]) (fun _=>h) (fun k=>∀ i (hi:i<d.follows.length),i<k→jA d.follows[i].set=false) aM rfl (fun i _ hi=>absurd hi om) ?_
intro k hkn hall
by_cases hlt:k<d.follows.length
·obtain⟨id,av,own,c',hv,hid⟩:=bT.at hd.follows om
 cases hv
 have hg:=jm hlt
 have e1:=cz hlt
 have e2:=inc hlt l3
 have e3:=aU hlt
 have hmem:=List.getElem_mem hlt
 have hstep:jA d.follows[k].set=false→∀ i (hi:i<d.follows.length),i<k+1→jA d.follows[i].set=false:=fun h3 i hi h2=>by
  rcases (by omega:i<k∨i=k) with h4|rfl
  ·exact hall i hi h4
  ·exact h3
 have hz:jA d.follows[k].set=(decide (d.follows[k].set.a=0)&&(decide (d.follows[k].set.b=0)&&(decide (d.follows[k].set.c=0)&&decide (d.follows[k].set.d=0)))):=rfl
 refine aG e3 ?_
 refine ag rfl ?_
 refine gU e1 hid hg ?_
 refine dQ al (fun b1=>?_) (fun b1=>?_)
 ·have b2:jA d.follows[k].set=true:=by rw[hz];simpa using b1
  refine aC ?_
  refine aS 3 mixed kr ?_
  refine aC ?_
  refine ak ?_
  exact⟨_,al,⟨51,_,rfl,⟨fun h=>(by cases h),fun h=>absurd (h _ hmem) (by rw[b2];decide)⟩⟩,rfl⟩
 ·have b2:jA d.follows[k].set=false:=by
   rw[hz]
   cases e:(decide (d.follows[k].set.a=0)&&(decide (d.follows[k].set.b=0)&&(decide (d.follows[k].set.c=0)&&decide (d.follows[k].set.d=0)))) with
   | false=>rfl
   | true=>
     simp at e
     simp [e] at b1
  refine aG e2 ?_
  exact⟨hlt,aM,rfl,hstep b2⟩
·have e3:=aT hlt
 obtain rfl:k=d.follows.length:=by omega
 refine aG e3 ?_
 refine ae rfl ?_
 refine aB ?_
 show CW _ _ _ _
 refine aC ?_
 refine ak ?_
 refine⟨_,al,⟨0,_,rfl,fun _ p hp=>?_,fun _=>rfl⟩,rfl⟩
 obtain⟨i,hi,rfl⟩:=List.getElem_of_mem hp
 exact hall i hi hi}
def iA (ps:List Prod) (x:ByteArray):Prop:=∃ i,jf ps x i∧0≤i
def dy (c:List cZ):List ByteArray:=c.flatMap (·.cons)
def fR (ps:List Prod) (l:List ByteArray):Prop:=(∀ x∈l,iA ps x)∧l.Nodup
theorem s8 {c:List cZ} {k:Nat} (hk:k<c.length):dy (c.take (k+1))=dy (c.take k)++c[k].cons:=by{
unfold dy
rw[List.take_succ_eq_append_getElem hk,List.flatMap_append]
simp}
structure PI (ps:List Prod) (es:List (ByteArray×Int)) (l:List ByteArray):Prop where
 g:∀ x,dJ es x=if yM l x=true then 1 else 0
 o:fR ps l
theorem PI.nil {ps:List Prod}:PI ps [] []:=⟨fun x=>by simp [dJ,iH,yM],by simp [fR]⟩
theorem PI.add {ps:List Prod} {es:List (ByteArray×Int)} {l:List ByteArray} {x:ByteArray} (P:PI ps es l) (hx:iA ps x) (h0:dJ es x=0):PI ps (dv es x 1) (l++[x]):=by{
have hn:x∉l:=fun h=>by rw[P.g,if_pos (cO.2 h)] at h0;cases h0
refine⟨fun y=>?_,fun y hy=>?_,?_⟩
·rw[eT,P.g]
 by_cases e:y=x
 ·rw[if_pos e,if_pos (cO.2 (by rw[e];simp))]
 ·rw[if_neg e]
  by_cases q:y∈l
  ·rw[if_pos (cO.2 q),if_pos (cO.2 (List.mem_append_left _ q))]
  ·rw[if_neg (fun k=>q (cO.1 k)),if_neg (fun k=>?_)]
   rcases List.mem_append.1 (cO.1 k) with k|k
   ·exact q k
   ·exact e (List.mem_singleton.1 k)
·rcases List.mem_append.1 hy with hy|hy
 ·exact P.o.1 y hy
 ·rw[List.mem_singleton.1 hy];exact hx
·rw[List.nodup_append]
 exact⟨P.o.2,by simp,fun a ha b hb e=>hn (by rw[← List.mem_singleton.1 hb,← e];exact ha)⟩}
theorem fR.pre {ps:List Prod} {l t:List ByteArray} (h:fR ps (l++t)):fR ps l:=⟨fun x hx=>h.1 x (List.mem_append_left _ hx),(List.nodup_append.1 h.2).1⟩
theorem uQ {c:List cZ} {k j:Nat} (hk:k<c.length):∃ t,dy c=dy (c.take k)++c[k].cons.take j++t:=by{
refine⟨c[k].cons.drop j++dy (c.drop (k+1)),?_⟩
have h1:dy c=dy (c.take (k+1))++dy (c.drop (k+1)):=by
 unfold dy
 rw[← List.flatMap_append,List.take_append_drop]
rw[h1,s8 hk,List.append_assoc,List.append_assoc,← List.append_assoc (c[k].cons.take j),List.take_append_drop]}
def sq (d:bS):Prop:=∀ c∈d.aj,fR d.aa (dy c)
theorem Hv (hk:Bk h r d):FW env 79 [r] h fun x h'=>iI (sq d) x∧h'=h:=by{
refine lZ ?_
have hk0:=hk
obtain⟨h0,ib,im,sv,up,uc,uf,ur,ub,rfl,hd,K⟩:=hk
have hd:=hd.mono K.p
obtain⟨p1,c1,p2,c2,p3,c3,p4,c4,p5,c5,rfl,rfl,rfl,rfl,rfl,l1,l2,l3,l4,l5⟩:=bo.form hd
obtain⟨es,hm,hes⟩:=K.m
have hb:=K.b
unfold bS.val at hb
simp only[List.cons_append,List.nil_append] at hb
have hkk:=bz es
have hss:bj h sv (aF d.aa):=K.s.sl (b:=16) (by have:=b8 (ps:=d.aa);have:=ct.le hd.aa;omega)
obtain⟨pq,cq,rfl⟩:=hss.form
refine fe Tryz.func79 ?_;simp only[push_cast]
refine aG hb ?_
refine aX d.aj.length (fun k (x:ai)=>[(0,.val (.pointer (some ⟨ib,0,some 0⟩))),(15,.val (.slice p2 d.aj.length c2)),(16,.val (i64 d.aj.length)),(17,.val (i64 k))]) (fun _ x=>x) (fun k x=>h <+: x∧∀ i (hi:i<d.aj.length),i<k→fR d.aa (dy d.aj[i])) h aM rfl ⟨List.prefix_refl _,fun i _ hi=>absurd hi om⟩ ?_
rintro k h1 hkn ⟨hp,hall⟩
by_cases hlt:k<d.aj.length
·obtain⟨id,av,own,c',cells,u,hv,hid0,hrd,hu⟩:=ct.at (k:=1) (fun _ _=>rfl) hd.aj hlt
 cases hv
 have hid:=af hp hid0
 have hu0:=hu
 obtain⟨ps,cs,rfl⟩:=ct.form hu
 have hg:=fI hrd om
 simp only[List.getElem?_cons_zero,Nat.mul_one] at hg
 have w1:=cz hlt
 have w2:=inc hlt l2
 have q3:=aU hlt
 have hcl:d.aj[k].length≤140737488355328:=by have:=ct.le hu0;omega
 refine aG q3 ?_
 refine ag rfl ?_
 refine fN w1 hid hg Nat.mul_one ?_
 refine kC (kt:=9) (et:=3) al rfl kr ?_
 have hp2:h <+: h1++[ax.map []]:=dt hp
 have hm0:(h1++[ax.map []])[h1.length]? = some (.map (fK [])):=aK
 have hlen:=hp.length_le
 generalize (h1++[ax.map []])=h2 at hp2 hm0 ⊢
 generalize him:h1.length=im at hm0 hlen ⊢
 refine aC ?_
 refine aX d.aj[k].length (fun m (x:ai×List (ByteArray×Int))=>[(0,.val (.pointer (some ⟨ib,0,some 0⟩))),(6,.val (.map (some im))),(15,.val (.slice (some ⟨id,0,some av⟩) d.aj.length c2)),(16,.val (i64 d.aj.length)),(17,.val (i64 k)),(22,.val (.slice ps d.aj[k].length cs)),(23,.val (i64 d.aj[k].length)),(24,.val (i64 m))]) (fun _ x=>x.1)
  (fun m x=>h <+: x.1∧x.1[im]? = some (.map (fK x.2))∧PI d.aa x.2 (dy (d.aj[k].take m))) (h2,[]) aM rfl ⟨hp2,hm0,PI.nil⟩ ?_
 rintro m ⟨hk3,es3⟩ hmn ⟨hp3,hm3,hPI3⟩
 simp only at hp3 hm3 hPI3 ⊢
 by_cases hml:m<d.aj[k].length
 ·obtain⟨id3,ver3,own3,c3',cells3,u3,hv3,hid3,hrd3,hu3⟩:=ct.at (k:=2) (fun _ _=>rfl) (hu0.mono hp3) hml
  cases hv3
  have hu3:bj hk3 u3 (d.aj[k])[m].cons:=hu3
  obtain⟨id30,ver30,own30,c30',cells30,u30,hv30,hid30,hrd30,hu30⟩:=ct.at (k:=2) (fun _ _=>rfl) hu0 hml
  cases hv30
  have hu3e:u30=u3:=by
   have:=(af hp3 hid30).symm.trans hid3
   cases this
   rw[hrd30] at hrd3
   simpa using hrd3
  subst hu3e
  have hu30:bj h u30 (d.aj[k])[m].cons:=hu30
  obtain⟨p6,c6,rfl⟩:=bT.form hu30
  have hul:=bj.le hu30
  have v7:=cz hml
  have v8:=inc hml hcl
  have q4:=aU hml
  refine aG q4 ?_
  refine ag rfl ?_
  refine gU v7 hid3 hrd3 ?_
  have z0:((d.aj[k])[m].cons.take 0)=[]:=rfl
  refine aX (d.aj[k])[m].cons.length (fun j (x:ai×List (ByteArray×Int))=>[(0,.val (.pointer (some ⟨ib,0,some 0⟩))),(6,.val (.map (some im))),(15,.val (.slice (some ⟨id,0,some av⟩) d.aj.length c2)),(16,.val (i64 d.aj.length)),(17,.val (i64 k)),(22,.val (.slice (some ⟨id3,0,some ver3⟩) d.aj[k].length cs)),(23,.val (i64 d.aj[k].length)),(24,.val (i64 m)),(29,.val (.slice p6 (d.aj[k])[m].cons.length c6)),(30,.val (i64 (d.aj[k])[m].cons.length)),(31,.val (i64 j))]) (fun _ x=>x.1)
   (fun j x=>h <+: x.1∧x.1[im]? = some (.map (fK x.2))∧PI d.aa x.2 (dy (d.aj[k].take m)++(d.aj[k])[m].cons.take j)) (hk3,es3) aM rfl ⟨hp3,hm3,by rw[z0,List.append_nil];exact hPI3⟩ ?_
  rintro j ⟨hk4,es4⟩ hjn ⟨hp4,hm4,hPI4⟩
  simp only at hp4 hm4 hPI4 ⊢
  by_cases hjl:j<(d.aj[k])[m].cons.length
  ·obtain⟨id5,ver5,own5,c5',cells5,hv5,hid5,hc5⟩:=(hu30.mono hp4).at hjl
   cases hv5
   have v1:=cz hjl
   have v2:=inc hjl hul
   have v3:=aU hjl
   have hb4:=af hp4 hb
   have hkk4:=bz es4
   refine aG v3 ?_
   refine ag rfl ?_
   refine mE v1 hid5 hc5 hb4 Nat.mul_one ?_
   refine zj Tryz.func24 ?_
   refine (lP (hd.mono hp4)).mono ?_
   rintro _ h5 ⟨⟨ci,hci,rfl⟩,rfl⟩
   by_cases qc:ci<0
   ·have dc:=decide_eq_true qc
    refine aG dc ?_
    refine ag rfl ?_
    refine aC ?_
    refine ak ?_
    refine⟨_,al,⟨50,_,rfl,⟨fun h=>(by cases h),fun h=>?_⟩⟩,hp4⟩
    have hc:=h _ (List.getElem_mem hlt)
    obtain⟨t,ht⟩:=uQ (c:=d.aj[k]) (k:=m) (j:=j+1) hml
    rw[ht] at hc
    have hc:=hc.pre
    rw[List.take_succ_eq_append_getElem hjl,← List.append_assoc] at hc
    exfalso
    obtain⟨i,h1,h2⟩:=hc.1 _ (List.mem_append_right _ (List.mem_singleton.2 rfl))
    have:=h1.wM hci
    omega
   ·have dc:=decide_eq_false qc
    have hgx:=hPI4.g (d.aj[k])[m].cons[j]
    rcases fi es4 (d.aj[k])[m].cons[j] with ⟨hg4,hn0⟩ | hg4
    ·have w9:IntKind.i64.wrap (0+1)=1:=by decide
     refine fN dc hm4 hg4 hkk4 ?_
     refine ae rfl ?_
     refine fN hm4 hg4 hkk4 w9 ?_
     refine fF (kt:=9) (et:=3) (kd:=eP) al rfl rfl kr rfl al hm4 al al rfl hkk4 ?_
     dsimp only
     rw[dR]
     refine aG v2 ?_
     refine⟨hjl,(h5.set im (.map (fK (dv es4 ((d.aj[k])[m].cons[j]) 1))),dv es4 ((d.aj[k])[m].cons[j]) 1),aM,rfl,aZ hp4 om,aw hm4,?_⟩
     rw[List.take_succ_eq_append_getElem hjl,← List.append_assoc]
     exact hPI4.add ⟨ci,hci,by omega⟩ hn0
    ·by_cases hmm:(d.aj[k])[m].cons[j]∈dy (d.aj[k].take m)++(d.aj[k])[m].cons.take j
     ·rw[if_pos (cO.2 hmm)] at hgx
      rw[hgx] at hg4
      refine fN dc hm4 hg4 hkk4 ?_
      refine ag rfl ?_
      refine aC ?_
      refine ak ?_
      refine⟨_,al,⟨50,_,rfl,⟨fun h=>(by cases h),fun h=>?_⟩⟩,hp4⟩
      have hc:=h _ (List.getElem_mem hlt)
      obtain⟨t,ht⟩:=uQ (c:=d.aj[k]) (k:=m) (j:=j+1) hml
      rw[ht] at hc
      have hc:=hc.pre
      rw[List.take_succ_eq_append_getElem hjl,← List.append_assoc] at hc
      exfalso
      exact (List.nodup_append.1 hc.2).2.2 _ hmm _ (List.mem_singleton.2 rfl) rfl
     ·rw[if_neg (fun k=>hmm (cO.1 k))] at hgx
      have hn0:=hgx
      rw[hgx] at hg4
      have w9:IntKind.i64.wrap (0+1)=1:=by decide
      refine fN dc hm4 hg4 hkk4 ?_
      refine ae rfl ?_
      refine fN hm4 hg4 hkk4 w9 ?_
      refine fF (kt:=9) (et:=3) (kd:=eP) al rfl rfl kr rfl al hm4 al al rfl hkk4 ?_
      dsimp only
      rw[dR]
      refine aG v2 ?_
      refine⟨hjl,(h5.set im (.map (fK (dv es4 ((d.aj[k])[m].cons[j]) 1))),dv es4 ((d.aj[k])[m].cons[j]) 1),aM,rfl,aZ hp4 om,aw hm4,?_⟩
      rw[List.take_succ_eq_append_getElem hjl,← List.append_assoc]
      exact hPI4.add ⟨ci,hci,by omega⟩ hn0
  ·have v3:=aT hjl
   obtain rfl:j=(d.aj[k])[m].cons.length:=by omega
   rw[List.take_length,← s8 hml] at hPI4
   refine aG v3 ?_
   refine ae rfl ?_
   refine aB ?_
   show CW _ _ _ _
   refine aG v8 ?_
   exact⟨hml,(hk4,es4),aM,rfl,hp4,hm4,hPI4⟩
 ·have q4:=aT hml
  obtain rfl:m=d.aj[k].length:=by omega
  rw[List.take_length] at hPI3
  refine aG q4 ?_
  refine ae rfl ?_
  refine aB ?_
  show CW _ _ _ _
  refine aG w2 ?_
  refine⟨hlt,hk3,aM,rfl,hp3,fun i hi h2=>?_⟩
  rcases (by omega:i<k∨i=k) with h4|rfl
  ·exact hall i hi h4
  ·exact hPI3.o
·have e3:=aT hlt
 obtain rfl:k=d.aj.length:=by omega
 refine aG e3 ?_
 refine ae rfl ?_
 refine aB ?_
 show CW _ _ _ _
 refine aC ?_
 refine ak ?_
 refine⟨_,al,⟨0,_,rfl,fun _ p hp=>?_,fun _=>rfl⟩,hp⟩
 obtain⟨i,hi,rfl⟩:=List.getElem_of_mem hp
 exact hall i hi hi}
end
theorem oY:∀ {n:Nat} {l:List Nat},l.Nodup→(∀ i∈l,i<n)→l.length≤n
 | 0,l,_,h=>by
   cases l with
   | nil=>simp
   | cons a l=>exact absurd (h a List.mem_cons_self) om
 | n+1,l,hd,h=>by
   have h1:(l.filter (fun i=>decide (i≠n))).length≤n:=oY (hd.filter _) fun i hi=>by
    have:=List.mem_filter.1 hi
    have h2:=h i this.1
    have h3:=of_decide_eq_true this.2
    omega
   have h2:∀ l:List Nat,l.Nodup→l.length≤(l.filter (fun i=>decide (i≠n))).length+1:=by
    intro l
    induction l with
    | nil=>intro _;simp
    | cons a l ih=>
      intro hd
      rw[List.nodup_cons] at hd
      by_cases e:a=n
      ·subst e
       have:(l.filter (fun i=>decide (i≠a)))=l:=List.filter_eq_self.2 fun i hi=>decide_eq_true fun e=>hd.1 (e▸hi)
       rw[List.filter_cons,if_neg (by simp),this]
       simp
      ·rw[List.filter_cons,if_pos (by simpa using e)]
       have:=ih hd.2
       simp only[List.length_cons]
       omega
   have:=h2 l hd
   omega
theorem gZ {l:List Nat} {i:Nat} (h:l.Nodup) (hi:i∉l):(l++[i]).Nodup:=by
 rw[List.nodup_append]
 exact⟨h,by simp,fun a ha b hb e=>hi (by rw[← List.mem_singleton.1 hb,← e];exact ha)⟩
def eu (L:List ByteArray) (s:ByteArray):Nat:=L.countP fun x=>decide (s=x)
theorem Al {L:List ByteArray} {x s:ByteArray}:eu (L++[x]) s=eu L s+(if s=x then 1 else 0):=by{
unfold eu
rw[List.countP_append,List.countP_singleton]
by_cases h:s=x<;>simp [h]}
theorem ya {L:List ByteArray} {s:ByteArray}:eu L s≤L.length:=List.countP_le_length
def uJ (d:bS):List ByteArray:=d.ah.map (·.sort)++d.follows.map (·.sort)
def iK (d:bS) (s:ByteArray):Bool:=decide (0<eu (uJ d) s)
def rU (d:bS) (x:dh):Bool:=!eF d.aa x.sort true||(!eF d.aa x.jN true||(decide (x.sort=x.jN)||iK d x.jN))
def jC (d:bS) (x:dh) (j:Nat):Bool:=rU d x||(d.ah.take j).any fun y=>decide (y.sort=x.sort)
theorem CU {d:bS} {x:dh} {j:Nat} (hj:j<d.ah.length):jC d x (j+1)=(jC d x j||decide (d.ah[j].sort=x.sort)):=by{
unfold jC
rw[List.take_succ_eq_append_getElem hj,List.any_append,Bool.or_assoc]
simp}
def sU (d:bS):Prop:=∀ (i:Nat) (hi:i<d.ah.length),jC d d.ah[i] i=false∧∀ s,tD d.aa (fun p=>cU p.an) d.ah[i].jN s→iK d s=false
structure HI (es:List (ByteArray×Int)) (L:List ByteArray):Prop where
 g:∀ s,dJ es s=eu L s
theorem HI.add {es:List (ByteArray×Int)} {L:List ByteArray} (H:HI es L) (x:ByteArray):HI (dv es x (eu L x+1)) (L++[x]):=
 ⟨fun s=>by
  rw[eT,Al,H.g]
  by_cases e:s=x
  ·subst e;simp
  ·simp [e]⟩
section
variable {h:ai} {r:Value} {d:bS}
theorem eV {α β:Type} {f:α→β} {l:List α} {k:Nat} (hk:k<l.length):(l.take (k+1)).map f=(l.take k).map f++[f l[k]]:=by
 rw[List.take_succ_eq_append_getElem hk,List.map_append]
 rfl
structure HR (h:ai) (im:Nat) (x:ai×List (ByteArray×Int)) (L:List ByteArray):Prop where
 p:h <+: x.1
 m:x.1[im]? = some (.map (fK x.2))
 i:HI x.2 L
theorem HR.put {h:ai} {im:Nat} {x:ai×List (ByteArray×Int)} {L:List ByteArray} (R:HR h im x L) (hl:h.length≤im) (s:ByteArray):HR h im (x.1.set im (.map (fK (dv x.2 s (eu L s+1)))),dv x.2 s (eu L s+1)) (L++[s]):=
 ⟨aZ R.p hl,aw R.m,R.i.add s⟩
def kZ (d:bS) (es:List (ByteArray×Int)) (i:Nat):Bool:=match es[i]? with
 | some p=>iK d p.1
 | none=>false
theorem Fq (es:List (ByteArray×Int)):(fK es).all (fun p=>fL p.1)=true:=by{
unfold fK
rw[List.all_map,List.all_eq_true]
intro x _
rfl}
theorem Eb {es:List (ByteArray×Int)} {i:Nat} {k v:Value}:(fK es)[i]? = some (k,v)↔∃ p,es[i]? = some p∧k = .string p.1∧v=i64 p.2:=by{
unfold fK
rw[List.getElem?_map]
cases es[i]? with
| none=>simp
| some p=>simp [eq_comm]}
theorem EM {d:bS} {es:List (ByteArray×Int)} {seen:List Nat} (h1:∀ i∈seen,i<es.length) (h2:∀ i,i<es.length→i∈seen):seen.any (kZ d es)=es.any fun p=>iK d p.1:=by{
rw[Bool.eq_iff_iff,List.any_eq_true,List.any_eq_true]
constructor
·rintro⟨i,hi,hs⟩
 have:=h1 i hi
 unfold kZ at hs
 rw[List.getElem?_eq_getElem this] at hs
 exact⟨_,List.getElem_mem this,hs⟩
·rintro⟨p,hp,hs⟩
 obtain⟨i,hi,rfl⟩:=List.getElem_of_mem hp
 refine⟨i,h2 i hi,?_⟩
 unfold kZ
 rw[List.getElem?_eq_getElem hi]
 exact hs}
theorem CY (hk:Bk h r d) (hpn:cX d≤160):FW env 78 [r] h fun x h'=>iI (sU d) x∧h'=h:=by{
refine lZ ?_
have hk0:=hk
have hU:(d.aa.flatMap fun p=>cU p.an).length≤100000:=by
 have:=vY d.aa
 unfold cX at hpn
 unfold nP at this
 omega
obtain⟨h0,ib,im,sv,up,uc,uf,ur,ub,rfl,hd,K⟩:=hk
have hd:=hd.mono K.p
obtain⟨p1,c1,p2,c2,p3,c3,p4,c4,p5,c5,rfl,rfl,rfl,rfl,rfl,l1,l2,l3,l4,l5⟩:=bo.form hd
obtain⟨es,hm,hes⟩:=K.m
have hb:=K.b
unfold bS.val at hb
simp only[List.cons_append,List.nil_append] at hb
have hkk:=bz es
have hss:bj h sv (aF d.aa):=K.s.sl (b:=16) (by have:=b8 (ps:=d.aa);have:=ct.le hd.aa;omega)
obtain⟨pq,cq,rfl⟩:=hss.form
have b1:d.ah.length≤160:=by unfold cX at hpn;omega
have b2:d.follows.length≤160:=by unfold cX at hpn;omega
refine fe Tryz.func78 ?_;simp only[push_cast]
refine zu ?_
iterate 2 (refine zx oA ?_)
refine zu ?_
refine kC (kt:=9) (et:=3) al rfl kr ?_
have hR0:HR h h.length (h++[ax.map []],[]) []:=⟨aJ,aK,⟨fun s=>rfl⟩⟩
have him0:h.length≤h.length:=Nat.le_refl _
have hb1:=af hR0.p hb
simp only at hb1
generalize (h++[ax.map []])=h2 at hR0 hb1 ⊢
generalize him:h.length=im at hR0 him0 ⊢
refine aG hb1 ?_
refine CW.mono (Q:=fun e s'=>e = .exit 0∧∃ x:ai×List (ByteArray×Int),HR h im x (d.ah.map (·.sort))∧s'.h=x.1∧bD [(0,.val (.pointer (some ⟨ib,0,some 0⟩))),(4,.val (.map (some im)))] s'.fr) ?_ ?_
·refine aX d.ah.length (fun k (x:ai×List (ByteArray×Int))=>[(0,.val (.pointer (some ⟨ib,0,some 0⟩))),(4,.val (.map (some im))),(20,.val (.slice p4 d.ah.length c4)),(21,.val (i64 d.ah.length)),(22,.val (i64 k))]) (fun _ x=>x.1) (fun k x=>HR h im x ((d.ah.take k).map (·.sort))) (h2,[]) aM rfl hR0 ?_
 rintro k x hkn hR
 by_cases hlt:k<d.ah.length
 ·obtain⟨id,av,own,c',hv,hid⟩:=bT.at (bT.mono hd.ah hR.p) om
  cases hv
  have hrd:=g6 hlt
  have e1:=cz hlt
  have e2:=inc hlt l4
  have e3:=aU hlt
  have hm:=hR.m
  have hgk:=hR.i.g d.ah[k].sort
  have hkk:=bz x.2
  have hLb:=ya (L:=(d.ah.take k).map (·.sort)) (s:=d.ah[k].sort)
  have w9:IntKind.i64.wrap ((eu ((d.ah.take k).map (·.sort)) d.ah[k].sort:Int)+1)=(eu ((d.ah.take k).map (·.sort)) d.ah[k].sort:Int)+1:=ay om (by simp only[List.length_append,List.length_map,List.length_take] at hLb;omega)
  refine aG e3 ?_
  refine ag rfl ?_
  rcases fi x.2 d.ah[k].sort with ⟨hg,h0'⟩ | hg
  ·rw[hgk] at h0'
   rw[h0'] at w9
   refine Cx e1 hid hrd hm hg hkk w9 ?_
   rw[show ((0:Int)+1)=(eu ((d.ah.take k).map (·.sort)) d.ah[k].sort:Int)+1 by rw[h0']]
   refine fF (kt:=9) (et:=3) (kd:=eP) al rfl rfl kr rfl al hm al al rfl hkk ?_
   dsimp only
   rw[dR]
   refine aG e2 ?_
   refine⟨hlt,(x.1.set im (.map (fK (dv x.2 (d.ah[k].sort) ((eu ((d.ah.take k).map (·.sort)) (d.ah[k].sort):Int)+1)))),dv x.2 (d.ah[k].sort) ((eu ((d.ah.take k).map (·.sort)) (d.ah[k].sort):Int)+1)),aM,rfl,?_⟩
   show HR _ _ _ _
   rw[eV hlt]
   exact hR.put om _
  ·rw[hgk] at hg
   refine Cx e1 hid hrd hm hg hkk w9 ?_
   refine fF (kt:=9) (et:=3) (kd:=eP) al rfl rfl kr rfl al hm al al rfl hkk ?_
   dsimp only
   rw[dR]
   refine aG e2 ?_
   refine⟨hlt,(x.1.set im (.map (fK (dv x.2 (d.ah[k].sort) ((eu ((d.ah.take k).map (·.sort)) (d.ah[k].sort):Int)+1)))),dv x.2 (d.ah[k].sort) ((eu ((d.ah.take k).map (·.sort)) (d.ah[k].sort):Int)+1)),aM,rfl,?_⟩
   show HR _ _ _ _
   rw[eV hlt]
   exact hR.put om _
 ·have e3:=aT hlt
  obtain rfl:k=d.ah.length:=by omega
  rw[List.take_length] at hR
  refine aG e3 ?_
  refine ae rfl ?_
  refine aB ?_
  exact⟨rfl,x,hR,rfl,aM⟩
clear hR0 hb1
rintro e s' ⟨rfl,x1,hR1,hh,hf⟩
show CW _ _ _ _
refine aA _ hf ?_
rw[hh]
clear hf hh s'
have hb1:=af hR1.p hb
refine aG hb1 ?_
refine CW.mono (Q:=fun e s'=>e = .exit 2∧∃ x:ai×List (ByteArray×Int),HR h im x (uJ d)∧s'.h=x.1∧bD [(0,.val (.pointer (some ⟨ib,0,some 0⟩))),(4,.val (.map (some im)))] s'.fr) ?_ ?_
·refine aX d.follows.length (fun k (x:ai×List (ByteArray×Int))=>[(0,.val (.pointer (some ⟨ib,0,some 0⟩))),(4,.val (.map (some im))),(36,.val (.slice p3 d.follows.length c3)),(37,.val (i64 d.follows.length)),(38,.val (i64 k))]) (fun _ x=>x.1) (fun k x=>HR h im x (d.ah.map (·.sort)++(d.follows.take k).map (·.sort))) x1 aM rfl (by rw[List.take_zero,List.map_nil,List.append_nil];exact hR1) ?_
 clear hR1 hb1
 rintro k x hkn hR
 by_cases hlt:k<d.follows.length
 ·obtain⟨id,av,own,c',hv,hid⟩:=bT.at (bT.mono hd.follows hR.p) om
  cases hv
  have hrd:=jm hlt
  have e1:=cz hlt
  have e2:=inc hlt l3
  have e3:=aU hlt
  have hm:=hR.m
  have hgk:=hR.i.g d.follows[k].sort
  have hkk:=bz x.2
  have hLb:=ya (L:=d.ah.map (·.sort)++(d.follows.take k).map (·.sort)) (s:=d.follows[k].sort)
  have w9:IntKind.i64.wrap ((eu (d.ah.map (·.sort)++(d.follows.take k).map (·.sort)) d.follows[k].sort:Int)+1)=(eu (d.ah.map (·.sort)++(d.follows.take k).map (·.sort)) d.follows[k].sort:Int)+1:=ay om (by simp only[List.length_append,List.length_map,List.length_take] at hLb;omega)
  refine aG e3 ?_
  refine ag rfl ?_
  have hst:d.ah.map (·.sort)++(d.follows.take (k+1)).map (·.sort)=(d.ah.map (·.sort)++(d.follows.take k).map (·.sort))++[d.follows[k].sort]:=by rw[eV hlt,List.append_assoc]
  rcases fi x.2 d.follows[k].sort with ⟨hg,h0'⟩ | hg
  ·rw[hgk] at h0'
   rw[h0'] at w9
   refine Cx e1 hid hrd hm hg hkk w9 ?_
   rw[show ((0:Int)+1)=(eu (d.ah.map (·.sort)++(d.follows.take k).map (·.sort)) d.follows[k].sort:Int)+1 by rw[h0']]
   refine fF (kt:=9) (et:=3) (kd:=eP) al rfl rfl kr rfl al hm al al rfl hkk ?_
   dsimp only
   rw[dR]
   refine aG e2 ?_
   refine⟨hlt,(x.1.set im (.map (fK (dv x.2 (d.follows[k].sort) ((eu (d.ah.map (·.sort)++(d.follows.take k).map (·.sort)) (d.follows[k].sort):Int)+1)))),dv x.2 (d.follows[k].sort) ((eu (d.ah.map (·.sort)++(d.follows.take k).map (·.sort)) (d.follows[k].sort):Int)+1)),aM,rfl,?_⟩
   show HR _ _ _ _
   rw[hst]
   exact hR.put om _
  ·rw[hgk] at hg
   refine Cx e1 hid hrd hm hg hkk w9 ?_
   refine fF (kt:=9) (et:=3) (kd:=eP) al rfl rfl kr rfl al hm al al rfl hkk ?_
   dsimp only
   rw[dR]
   refine aG e2 ?_
   refine⟨hlt,(x.1.set im (.map (fK (dv x.2 (d.follows[k].sort) ((eu (d.ah.map (·.sort)++(d.follows.take k).map (·.sort)) (d.follows[k].sort):Int)+1)))),dv x.2 (d.follows[k].sort) ((eu (d.ah.map (·.sort)++(d.follows.take k).map (·.sort)) (d.follows[k].sort):Int)+1)),aM,rfl,?_⟩
   show HR _ _ _ _
   rw[hst]
   exact hR.put om _
 ·have e3:=aT hlt
  obtain rfl:k=d.follows.length:=by omega
  rw[List.take_length] at hR
  refine aG e3 ?_
  refine ae rfl ?_
  refine aB ?_
  exact⟨rfl,x,hR,rfl,aM⟩
clear hR1 hb1
rintro e s' ⟨rfl,x2,hR2,hh,hf⟩
show CW _ _ _ _
refine aA _ hf ?_
rw[hh]
clear hf hh s'
have hb2:=af hR2.p hb
have hHI:=hR2.i
obtain⟨h3,es3⟩:=x2
have hp3:=hR2.p
have hm3:=hR2.m
simp only at hp3 hm3 hHI hb2
have hkk3:=bz es3
clear hR2
refine aG hb2 ?_
refine aX d.ah.length (fun k (x:ai)=>[(0,.val (.pointer (some ⟨ib,0,some 0⟩))),(4,.val (.map (some im))),(52,.val (.slice p4 d.ah.length c4)),(53,.val (i64 d.ah.length)),(54,.val (i64 k))]) (fun _ x=>x) (fun k x=>h3 <+: x∧∀ (i:Nat) (hi:i<d.ah.length),i<k→jC d d.ah[i] i=false∧∀ s,tD d.aa (fun p=>cU p.an) d.ah[i].jN s→iK d s=false) h3 aM rfl ⟨List.prefix_refl _,fun i _ hi=>absurd hi om⟩ ?_
rintro k hk4 hkn ⟨hp34,hall⟩
have hp4:=hp3.trans hp34
have hm4:=af hp34 hm3
have hb4:=af hp34 hb2
by_cases hlt:k<d.ah.length
·obtain⟨id,av,own,c',hv,hid⟩:=bT.at (bT.mono hd.ah hp4) om
 cases hv
 have hrd:=g6 hlt
 have e1:=cz hlt
 have e2:=inc hlt l4
 have e3:=aU hlt
 have hstep:(jC d d.ah[k] k=false∧∀ s,tD d.aa (fun p=>cU p.an) d.ah[k].jN s→iK d s=false)→∀ (i:Nat) (hi:i<d.ah.length),i<k+1→jC d d.ah[i] i=false∧∀ s,tD d.aa (fun p=>cU p.an) d.ah[i].jN s→iK d s=false:=fun hq i hi h2=>by
  rcases (by omega:i<k∨i=k) with h4|rfl
  ·exact hall i hi h4
  ·exact hq
 have hfail:¬ (jC d d.ah[k] k=false∧∀ s,tD d.aa (fun p=>cU p.an) d.ah[k].jN s→iK d s=false)→¬ sU d:=fun hq hr=>hq (hr k hlt)
 generalize hX:d.ah[k]=x at hrd hstep hfail
 refine aG e3 ?_
 refine ag rfl ?_
 refine zu ?_
 iterate 6 (refine zx (Pn e1 hid hrd) ?_)
 apply zn
 show CW _ _ _ _
 apply zs
 refine CW.mono (Q:=fun e s'=>e = .normal∧s'.h=hk4∧bD [(0,.val (.pointer (some ⟨ib,0,some 0⟩))),(4,.val (.map (some im))),(9,.val (i64 k)),(10,.box [.string x.sort,.string x.jN]),(11,.val (.bool (rU d x))),(52,.val (.slice (some ⟨id,0,some av⟩) d.ah.length c4)),(53,.val (i64 d.ah.length)),(54,.val (i64 k))] s'.fr) ?_ ?_
 ·have hK4:=hk0.mono hp4
  refine aC ?_
  refine zj Tryz.func132 ?_
  refine (mM hK4).mono ?_
  rintro _ h5 ⟨rfl,e5⟩
  obtain rfl:=e5.symm
  cases g1:eF d.aa x.sort true with
  | false=>
    refine aC ?_
    rw[show rU d x=true by unfold rU;rw[g1];rfl]
    exact⟨rfl,rfl,aM⟩
  | true=>
  refine aC ?_
  refine zj Tryz.func132 ?_
  refine (mM hK4).mono ?_
  rintro _ h5 ⟨rfl,e5⟩
  obtain rfl:=e5.symm
  cases g2:eF d.aa x.jN true with
  | false=>
    refine aC ?_
    rw[show rU d x=true by unfold rU;rw[g1,g2];rfl]
    exact⟨rfl,rfl,aM⟩
  | true=>
  by_cases q:x.sort=x.jN
  ·have dq:=decide_eq_true q
   refine aG dq ?_
   rw[show rU d x=true by unfold rU;rw[g1,g2,dq];rfl]
   exact⟨rfl,rfl,aM⟩
  have dq:=decide_eq_false q
  have hgk:=hHI.g x.jN
  have hB:rU d x=decide ((0:Int)<((eu (uJ d) x.jN:Nat):Int)):=by
   unfold rU iK
   rw[g1,g2,dq]
   by_cases q0:0<eu (uJ d) x.jN
   ·rw[decide_eq_true q0,decide_eq_true om];rfl
   ·rw[decide_eq_false q0,decide_eq_false om];rfl
  rw[hB]
  rcases fi es3 x.jN with ⟨hg,h0'⟩ | hg
  ·rw[hgk] at h0'
   rw[h0']
   refine fN dq hm4 hg hkk3 ?_
   exact⟨rfl,rfl,aM⟩
  ·rw[hgk] at hg
   refine fN dq hm4 hg hkk3 ?_
   exact⟨rfl,rfl,aM⟩
 rintro e s' ⟨rfl,hh,hf⟩
 show CW _ _ _ _
 refine aA _ hf ?_
 rw[hh]
 clear hf hh s'
 have d5:(0≤(k:Int)∧(k:Int)≤(d.ah.length:Int))=True:=by simp;omega
 have z0:jC d x 0=rU d x:=by simp [jC]
 repeat (first|apply zs|apply zr|apply zn|((first|apply zx|apply zy);·simp only[push_cast,env,Nat.reduceEqDiff,reduceIte,Nat.reduceAdd,Nat.reduceMul,Nat.reduceLeDiff,reduceCtorEq,Nat.reduceSub,Int.reduceToNat,hb4,d5,hid,Nat.zero_mul,Int.sub_zero]<;>first|exact rfl|exact .inl rfl|exact .inr rfl) | apply zq|apply zb|apply zo|apply zk|apply zl)
 refine CW.mono (Q:=fun e s'=>e = .exit 6∧s'.h=hk4∧bD [(0,.val (.pointer (some ⟨ib,0,some 0⟩))),(4,.val (.map (some im))),(10,.box [.string x.sort,.string x.jN]),(11,.val (.bool (jC d x k))),(52,.val (.slice (some ⟨id,0,some av⟩) d.ah.length c4)),(53,.val (i64 d.ah.length)),(54,.val (i64 k))] s'.fr) ?_ ?_
 ·refine dC k (fun j=>[(0,.val (.pointer (some ⟨ib,0,some 0⟩))),(4,.val (.map (some im))),(10,.box [.string x.sort,.string x.jN]),(11,.val (.bool (jC d x j))),(52,.val (.slice (some ⟨id,0,some av⟩) d.ah.length c4)),(53,.val (i64 d.ah.length)),(54,.val (i64 k)),(91,.val (.slice (some ⟨id,0,some av⟩) k k)),(92,.val (i64 k)),(93,.val (i64 j))]) (fun _=>hk4) (fun _=>True) (mi z0) rfl trivial ?_
  intro j hjn _
  by_cases hjl:j<k
  ·have hjr:j<d.ah.length:=by omega
   have hrj:=g6 hjr
   have v1:=cz hjl
   have v2:=inc hjl om
   have v3:=aU hjl
   have hst:=CU (x:=x) hjr
   refine aG v3 ?_
   refine ag rfl ?_
   refine fN v1 hid hrj v2 ?_
   exact⟨hjl,(mi hst),rfl,trivial⟩
  ·have v3:=aT hjl
   obtain rfl:j=k:=by omega
   refine aG v3 ?_
   refine ae rfl ?_
   refine aB ?_
   exact⟨rfl,rfl,aM⟩
 rintro e s' ⟨rfl,hh,hf⟩
 show CW _ _ _ _
 refine aA _ hf ?_
 rw[hh]
 clear hf hh s'
 refine aC ?_
 refine zj Tryz.func135 ?_
 refine (uM (st:=fun p=>cU p.an) (hk0.mono hp4) Tryz.func128 kr kr hU (fun p _ u h1 _ hy=>xD hy)).mono ?_
 rintro _ h6 ⟨hp6,im6,es6,rfl,_,hm6,hR6⟩
 have hm4':=af hp6 hm4
 refine DU (kt:=9) (et:=3) (es:=fK es6) al rfl rfl kr al hm6 ?_
 have hl6:(fK es6).length=es6.length:=by unfold fK;rw[List.length_map]
 rw[hl6]
 apply zn
 show CW _ _ _ _
 refine FQ (e:=.normal) [(0,.val (.pointer (some ⟨ib,0,some 0⟩))),(4,.val (.map (some im))),(10,.box [.string x.sort,.string x.jN]),(11,.val (.bool (jC d x k||es6.any fun p=>iK d p.1))),(52,.val (.slice (some ⟨id,0,some av⟩) d.ah.length c4)),(53,.val (i64 d.ah.length)),(54,.val (i64 k))] h6 ?_ ?_
 ·refine xB ?_
  refine BH (fun m s=>∃ seen:List Nat,m+seen.length=es6.length∧seen.Nodup∧(∀ i∈seen,i<es6.length)∧s.h=h6∧bD [(0,.val (.pointer (some ⟨ib,0,some 0⟩))),(4,.val (.map (some im))),(10,.box [.string x.sort,.string x.jN]),(11,.val (.bool (jC d x k||seen.any (kZ d es6)))),(52,.val (.slice (some ⟨id,0,some av⟩) d.ah.length c4)),(53,.val (i64 d.ah.length)),(54,.val (i64 k)),(110,.nc im6 es6.length seen)] s.fr) es6.length ⟨[],by simp,.nil,by simp,rfl,?_⟩ ?_
  ·rw[List.any_nil,Bool.or_false]
   exact aM
  rintro m s ⟨seen,hms,hnd,hlt6,hh,hf⟩
  refine gH _ hf ?_
  rw[hh]
  clear hf hh s
  refine tg (R:=fun e s'=>e = .normal∧s'.h=h6∧(((∀ i,i<es6.length→i∈seen)∧bD [(0,.val (.pointer (some ⟨ib,0,some 0⟩))),(4,.val (.map (some im))),(10,.box [.string x.sort,.string x.jN]),(11,.val (.bool (jC d x k||seen.any (kZ d es6)))),(52,.val (.slice (some ⟨id,0,some av⟩) d.ah.length c4)),(53,.val (i64 d.ah.length)),(54,.val (i64 k)),(112,.val (.bool false))] s'.fr)∨∃ i p,es6[i]? = some p∧i∉seen∧bD [(0,.val (.pointer (some ⟨ib,0,some 0⟩))),(4,.val (.map (some im))),(10,.box [.string x.sort,.string x.jN]),(11,.val (.bool (jC d x k||seen.any (kZ d es6)))),(52,.val (.slice (some ⟨id,0,some av⟩) d.ah.length c4)),(53,.val (i64 d.ah.length)),(54,.val (i64 k)),(110,.nc im6 es6.length (seen++[i])),(112,.val (.bool true))] s'.fr)) ?_ ?_ ?_
  ·refine Bj (es:=fK es6) rfl rfl rfl rfl (by decide) rfl hm6 hl6 (Fq es6) (fun hA=>?_) (fun i kk v hkv hi=>?_)
   ·refine aC ?_
    exact⟨rfl,rfl,.inl ⟨hA,aM⟩⟩
   ·rw[Eb] at hkv
    obtain⟨p,hp,e1,e2⟩:=hkv
    refine aC ?_
    exact⟨rfl,rfl,.inr ⟨i,p,hp,hi,aM⟩⟩
  ·rintro e s' ⟨rfl,_⟩ he
   exact absurd rfl he
  ·rintro s' ⟨_,hh,⟨hA,hf⟩ | ⟨i,p,hp,hi,hf⟩⟩
   ·refine gH _ hf ?_
    rw[hh]
    clear hf hh s'
    refine SW.of ?_
    refine zu ?_
    refine ae rfl ?_
    refine aB ?_
    refine .inr ⟨by simp,?_⟩
    refine⟨rfl,?_,rfl⟩
    rw[EM hlt6 hA]
    exact aM
   ·refine gH _ hf ?_
    rw[hh]
    clear hf hh s'
    refine SW.of ?_
    refine zu ?_
    refine ag rfl ?_
    refine cE ?_
    show CW _ _ _ _
    have hpe:(fK es6)[i]? = some (.string p.1,i64 p.2):=Eb.2 ⟨p,hp,rfl,rfl⟩
    have hgl:(seen++[i]).getLast? = some i:=by simp
    have hi6:=(List.getElem?_eq_some_iff.1 hp).1
    have hlt7:∀ q∈seen++[i],q<es6.length:=fun q hq=>by
     rcases List.mem_append.1 hq with hq|hq
     ·exact hlt6 q hq
     ·rw[List.mem_singleton.1 hq];exact hi6
    have hlen:=oY (gZ hnd hi) hlt7
    rw[List.length_append,List.length_singleton] at hlen
    obtain⟨m',rfl⟩:∃ m',m=m'+1:=⟨m-1,by omega⟩
    have hsb:kZ d es6 i=iK d p.1:=by unfold kZ;rw[hp]
    have hst:(jC d x k||(seen++[i]).any (kZ d es6))=((jC d x k||seen.any (kZ d es6))||iK d p.1):=by
     rw[List.any_append,← Bool.or_assoc,List.any_cons,List.any_nil,Bool.or_false,hsb]
    cases hB:(jC d x k||seen.any (kZ d es6)) with
    | true=>
      rw[hB,Bool.true_or] at hst
      refine fN hm6 hl6 hgl hpe ?_
      refine .inl ⟨rfl,m',rfl,seen++[i],by rw[List.length_append,List.length_singleton];omega,gZ hnd hi,hlt7,rfl,?_⟩
      rw[hst]
      exact aM
    | false=>
      rw[hB,Bool.false_or] at hst
      have hgk:=hHI.g p.1
      have hhb:iK d p.1=decide ((0:Int)<((eu (uJ d) p.1:Nat):Int)):=by
       unfold iK
       by_cases q0:0<eu (uJ d) p.1
       ·rw[decide_eq_true q0,decide_eq_true om]
       ·rw[decide_eq_false q0,decide_eq_false om]
      rw[hhb] at hst
      rcases fi es3 p.1 with ⟨hg,h0'⟩ | hg
      ·rw[hgk] at h0'
       rw[h0'] at hst
       refine Cx hm6 hl6 hgl hpe hm4' hg hkk3 ?_
       refine .inl ⟨rfl,m',rfl,seen++[i],by rw[List.length_append,List.length_singleton];omega,gZ hnd hi,hlt7,rfl,?_⟩
       rw[hst]
       exact aM
      ·rw[hgk] at hg
       refine Cx hm6 hl6 hgl hpe hm4' hg hkk3 ?_
       refine .inl ⟨rfl,m',rfl,seen++[i],by rw[List.length_append,List.length_singleton];omega,gZ hnd hi,hlt7,rfl,?_⟩
       rw[hst]
       exact aM
 ·show CW _ _ _ _
  have hRk:∀ s,dJ es6 s≠0↔tD d.aa (fun p=>cU p.an) x.jN s:=fun s=>hR6.done
  cases hB:(jC d x k||es6.any fun p=>iK d p.1) with
  | true=>
    refine aC ?_
    refine ag rfl ?_
    refine aC ?_
    refine aS 3 mixed kr ?_
    refine aC ?_
    refine ak ?_
    refine⟨_,al,⟨49,_,rfl,⟨fun h=>(by cases h),fun h=>absurd h (hfail fun hq=>?_)⟩⟩,hp4.trans hp6⟩
    rw[hq.1,Bool.false_or,List.any_eq_true] at hB
    obtain⟨p,hp,hh⟩:=hB
    rw[hq.2 _ ((hRk _).1 (HM hR6.k hp))] at hh
    cases hh
  | false=>
    refine aC ?_
    refine ae rfl ?_
    refine aG e2 ?_
    refine⟨hlt,h6,aM,rfl,hp34.trans hp6,hstep ⟨?_,fun s hs=>?_⟩⟩
    ·cases e:jC d x k with
     | false=>rfl
     | true=>rw[e] at hB;cases hB
    ·obtain⟨p,hp,rfl⟩:=Jy ((hRk s).2 hs)
     cases e:iK d p.1 with
     | false=>rfl
     | true=>
       have:(es6.any fun p=>iK d p.1)=true:=List.any_eq_true.2 ⟨p,hp,e⟩
       rw[this,Bool.or_true] at hB
       cases hB
·have e3:=aT hlt
 obtain rfl:k=d.ah.length:=by omega
 refine aG e3 ?_
 refine ae rfl ?_
 refine aB ?_
 show CW _ _ _ _
 refine aC ?_
 refine ak ?_
 exact⟨_,al,⟨0,_,rfl,fun _ i hi=>hall i hi hi,fun _=>rfl⟩,hp4⟩}
end
section
variable {h:ai}
theorem C7 {s:Sym} (hw:tT s):FW env 202 [s.val] h fun r h'=>r = .bool (!bi s)∧h'=h:=by{
refine fe Tryz.func202 ?_;simp only[push_cast]
refine aC ?_
refine zj Tryz.func203 ?_
refine (yx hw).mono ?_
rintro _ h1 ⟨rfl,rfl⟩
refine aC ?_
refine ak ?_
exact⟨_,al,rfl,rfl⟩}
theorem FV {p:Prod} {u:Value} (hy:fB h u p.an) (hw:oC p):FW env 171 [p.val u] h fun r h'=>r = .bool (cD p)∧h'=h:=by{
have hy0:=hy
obtain⟨ps,cs,rfl⟩:=bT.form hy
refine fe Tryz.func171 ?_;simp only[push_cast]
refine aC ?_
refine zj Tryz.func170 ?_
refine (el hw.sort).mono ?_
rintro _ h1 ⟨rfl,rfl⟩
rw[iw]
cases g1:bK p.sort with
| false=>
  refine aC ?_
  refine ag rfl ?_
  refine aC ?_
  refine ak ?_
  exact⟨_,al,by simp [cN,cD,g1],rfl⟩
| true=>
  refine aC ?_
  refine zj Tryz.func170 ?_
  refine (el hw.cons).mono ?_
  rintro _ h1 ⟨rfl,rfl⟩
  cases g2:iO p.cons true with
  | false=>
    refine aC ?_
    refine ag rfl ?_
    refine aC ?_
    refine ak ?_
    exact⟨_,al,by simp [cN,cD,g1,g2],rfl⟩
  | true=>
    by_cases q3:p.an.length=0
    ·have d3:decide ((p.an.length:Int)=0)=true:=decide_eq_true om
     refine aG d3 ?_
     refine ag rfl ?_
     refine aC ?_
     refine ak ?_
     exact⟨_,al,by simp [cN,cD,g1,g2,q3],rfl⟩
    have d3:decide ((p.an.length:Int)=0)=false:=decide_eq_false om
    by_cases q4:p.an.length≤12
    ·have d4:decide ((12:Int)<(p.an.length:Int))=false:=decide_eq_false om
     refine fz d3 d4 ?_
     refine ae rfl ?_
     refine aC ?_
     refine dQ al (fun b1=>?_) (fun b1=>?_)
     ·have b2:(if p.lex=true then !p.bracket else (p.bracket == cY p.cons))=false:=by
       revert b1
       unfold cY
       cases p.lex<;>cases p.bracket<;>cases decide (p.cons=⟨#[]⟩)<;>simp
      refine aC ?_
      refine ak ?_
      exact⟨_,al,by unfold cD;rw[b2,Bool.false_and,Bool.and_false];rfl,rfl⟩
     ·have b2:(if p.lex=true then !p.bracket else (p.bracket == cY p.cons))=true:=by
       revert b1
       unfold cY
       cases p.lex<;>cases p.bracket<;>cases decide (p.cons=⟨#[]⟩)<;>simp
      refine aC ?_
      refine zj Tryz.func130 ?_
      refine (og (P:=fun s=>!bi s) (cap:=[]) (g:=202) (fn:=Tryz.f202) hy0 Tryz.func202 kr kr (fun s hs=>C7 (hw.an s hs))).mono ?_
      rintro _ h1 ⟨rfl,rfl⟩
      refine aC ?_
      refine ak ?_
      refine⟨_,al,?_,rfl⟩
      have e5:(!(p.an.any fun s=>!bi s))=p.an.all bi:=by
       rw[List.not_any_eq_all_not]
       simp
      unfold cD
      rw[b2,g1,g2,decide_eq_true q3,decide_eq_true q4,← e5]
      rfl
    ·have d4:decide ((12:Int)<(p.an.length:Int))=true:=decide_eq_true om
     refine fz d3 d4 ?_
     refine ag rfl ?_
     refine aC ?_
     refine ak ?_
     exact⟨_,al,by simp [cN,cD,g1,g2,q4],rfl⟩}
theorem CC {u:Value} {c:List cZ} (hc:b9 h u c) (hw:∀ g∈c,∀ s∈g.cons,s.size≤lX):FW env 172 [u] h fun r h'=>r = .bool (dU c)∧h'=h:=by{
obtain⟨ps,cs,rfl⟩:=ct.form hc
have hl:c.length≤140737488355328:=by have:=ct.le hc;omega
refine fe Tryz.func172 ?_;simp only[push_cast]
refine aC ?_
refine dC c.length (fun k=>[(0,.val (.slice ps c.length cs)),(7,.val (.slice ps c.length cs)),(8,.val (i64 c.length)),(9,.val (i64 k))]) (fun _=>h) (fun k=>∀ i (hi:i<c.length),i<k→dB c[i]=true) aM rfl (fun i _ hi=>absurd hi om) ?_
intro k hkn hall
by_cases hlt:k<c.length
·obtain⟨id,av,own,c',cells,u,hv,hid,hrd,hu⟩:=ct.at (k:=2) (fun _ _=>rfl) hc hlt
 cases hv
 have hwk:=hw _ (List.getElem_mem hlt)
 obtain⟨p2,c2,rfl⟩:=bT.form hu
 have hu0:=hu
 have e1:=cz hlt
 have e2:=inc hlt hl
 have e3:=aU hlt
 have hstep:dB c[k]=true→∀ i (hi:i<c.length),i<k+1→dB c[i]=true:=fun h3 i hi h2=>by
  rcases (by omega:i<k∨i=k) with h4|rfl
  ·exact hall i hi h4
  ·exact h3
 have hgb:dB c[k]=(decide (0≤c[k].assoc)&&(decide (c[k].assoc≤3)&&(decide (c[k].cons.length≠0)&&(decide (c[k].cons.length≤16)&&c[k].cons.all bK)))):=rfl
 have hul:=bj.le hu
 generalize hGr:c[k]=G at hrd hu hu0 hwk hgb hul
 rw[hGr] at hstep
 refine aG e3 ?_
 refine ag rfl ?_
 refine gU e1 hid hrd ?_
 refine dQ al (fun b1=>?_) (fun b1=>?_)
 ·have b2:dB G=false:=by
   rw[hgb]
   revert b1
   by_cases a1:0≤G.assoc<;>by_cases a2:G.assoc≤3<;>by_cases a3:G.cons.length=0<;>by_cases a4:G.cons.length≤16<;>simp [a1,a2,a3,a4]<;>omega
  refine aC ?_
  refine ak ?_
  refine⟨_,al,?_,rfl⟩
  have:c.all dB=false:=List.all_eq_false.2 ⟨_,List.getElem_mem hlt,by rw[hGr,b2];decide⟩
  unfold dU
  rw[this]
  rfl
 have b2:dB G=G.cons.all bK:=by
  rw[hgb]
  revert b1
  by_cases a1:0≤G.assoc<;>by_cases a2:G.assoc≤3<;>by_cases a3:G.cons.length=0<;>by_cases a4:G.cons.length≤16<;>simp [a1,a2,a3,a4]<;>omega
 refine aC ?_
 refine dC G.cons.length (fun j=>[(0,.val (.slice (some ⟨id,0,some av⟩) c.length cs)),(7,.val (.slice (some ⟨id,0,some av⟩) c.length cs)),(8,.val (i64 c.length)),(9,.val (i64 k)),(34,.val (.slice p2 G.cons.length c2)),(35,.val (i64 G.cons.length)),(36,.val (i64 j))]) (fun _=>h) (fun j=>∀ i (hi:i<G.cons.length),i<j→bK G.cons[i]=true) aM rfl (fun i _ hi=>absurd hi om) ?_
 intro j hjn hallj
 by_cases hjl:j<G.cons.length
 ·obtain⟨id5,ver5,own5,c5',cells5,hv5,hid5,hc5⟩:=bj.at hu hjl
  cases hv5
  have v1:=cz hjl
  have v2:=inc hjl hul
  have v3:=aU hjl
  refine aG v3 ?_
  refine ag rfl ?_
  refine fN v1 hid5 hc5 Nat.mul_one ?_
  refine zj Tryz.func170 ?_
  refine (el (hwk _ (List.getElem_mem hjl))).mono ?_
  rintro _ h1 ⟨rfl,rfl⟩
  rw[iw]
  cases hN:bK G.cons[j] with
  | false=>
    refine aC ?_
    refine ag rfl ?_
    refine aC ?_
    have b3:dB G=false:=by
     rw[b2]
     exact List.all_eq_false.2 ⟨_,List.getElem_mem hjl,by rw[hN];decide⟩
    refine ak ?_
    refine⟨_,al,?_,rfl⟩
    have:c.all dB=false:=List.all_eq_false.2 ⟨_,List.getElem_mem hlt,by rw[hGr,b3];decide⟩
    unfold dU
    rw[this]
    rfl
  | true=>
    refine aC ?_
    refine ae rfl ?_
    refine aG v2 ?_
    refine⟨hjl,aM,rfl,fun i hi h2=>?_⟩
    rcases (by omega:i<j∨i=j) with h4|rfl
    ·exact hallj i hi h4
    ·exact hN
 ·have v3:=aT hjl
  obtain rfl:j=G.cons.length:=by omega
  refine aG v3 ?_
  refine ae rfl ?_
  refine aB ?_
  show CW _ _ _ _
  refine aG e2 ?_
  refine⟨hlt,aM,rfl,hstep ?_⟩
  rw[b2,List.all_eq_true]
  intro x hx
  obtain⟨i,hi,rfl⟩:=List.getElem_of_mem hx
  exact hallj i hi hi
·have e3:=aT hlt
 obtain rfl:k=c.length:=by omega
 refine aG e3 ?_
 refine ae rfl ?_
 refine aB ?_
 show CW _ _ _ _
 have hA:c.all dB=true:=by
  rw[List.all_eq_true]
  intro x hx
  obtain⟨i,hi,rfl⟩:=List.getElem_of_mem hx
  exact hall i hi hi
 by_cases a3:c.length=0
 ·have d3:decide ((0:Int)<(c.length:Int))=false:=decide_eq_false om
  refine aG d3 ?_
  refine ak ?_
  exact⟨_,al,by simp [cN,dU,a3],rfl⟩
 ·have d3:decide ((0:Int)<(c.length:Int))=true:=decide_eq_true om
  refine aG d3 ?_
  refine ak ?_
  refine⟨_,al,?_,rfl⟩
  unfold dU
  rw[hA,decide_eq_true a3]
  by_cases a4:c.length≤16
  ·have d4:decide ((c.length:Int)≤16)=true:=decide_eq_true om
   simp [cN,d4,a4]
  ·have d4:decide ((c.length:Int)≤16)=false:=decide_eq_false om
   simp [cN,d4,a4]}
end
theorem Ei {l:List Item} {k:Nat} (hk:k<l.length):y7 (l.take (k+1))=(y7 (l.take k)&&Sc l[k]):=by
 rw[qQ,qQ,List.take_succ_eq_append_getElem hk,List.all_append]
 simp
theorem Ci {l:List Item} {k:Nat} (hk:k<l.length):iU (l.take (k+1))=iU (l.take k)+1+iU l[k].bl:=by
 rw[lQ,lQ,uk hk,List.length_take,List.length_take]
 omega
theorem GJ {l:List Item} {k:Nat}:iU (l.take k)≤iU l:=by{
rw[lQ,lQ,List.length_take]
have:=BM (l:=l) (k:=k)
omega}
theorem Er {l:List Item} {k:Nat} (h:y7 l=true):y7 (l.take k)=true:=by
 rw[qQ,List.all_eq_true] at *
 exact fun x hx=>h x (List.mem_of_mem_take hx)
theorem lY {h:ai} {i:Nat} {o:ax} (k:h[i]? = some o):h.set i o=h:=by{
refine List.ext_getElem? fun j=>?_
by_cases e:i=j
·subst e
 rw[aw k,k]
·rw[aD e]}
section
theorem B8 {h0:ai} {v:Value} {l:List Item} (hr:bh h0 v l):∀ {h:ai} {il:Nat} {v0:Int},h0 <+: h→h0.length≤il→h[il]? = some (.aq [i64 v0] 0 true 3)→0≤v0→v0≤64 → FW env 173 [v,.pointer (some ⟨il,0,some 0⟩)] h fun r h'=>∃ (b:Bool) (v':Int),r = .bool b∧h'=h.set il (.aq [i64 v'] 0 true 3)∧(b=true→y7 l=true∧v'=v0-iU l∧0≤v')∧(b=false→¬ (y7 l=true∧(iU l:Int)≤v0)):=by{
induction hr with
| @mk v l us hl hs hu ih=>
  intro h il v0 hp0 hil0 hil hv0 hv64
  obtain⟨p,c,rfl⟩:=hs.form
  have hle:=hs.1
  have hn:l.length≤140737488355328:=by omega
  have hlt_il:=dw hil
  refine fe Tryz.func173 ?_;simp only[push_cast]
  refine aC ?_
  refine aX l.length (fun k (m:Int)=>[(0,.val (.slice p l.length c)),(1,.val (.pointer (some ⟨il,0,some 0⟩))),(9,.val (.slice p l.length c)),(10,.val (i64 l.length)),(11,.val (i64 k))]) (fun _ m=>h.set il (.aq [i64 m] 0 true 3)) (fun k m=>m=v0-iU (l.take k)∧0≤m∧y7 (l.take k)=true) v0 aM (lY hil).symm ⟨by simp [iU],hv0,rfl⟩ ?_
  intro k m hk ⟨hm,hm0,hok⟩
  have hilk:(h.set il (ax.aq [i64 m] 0 true 3))[il]? = some (.aq [i64 m] 0 true 3):=aw hil
  have hpk:h0 <+: h.set il (ax.aq [i64 m] 0 true 3):=aZ hp0 hil0
  by_cases hlt:k<l.length
  ·obtain⟨id,av,own,c',hv,hid⟩:=bT.at (hs.mono hpk) om
   cases hv
   have e1:=cz hlt
   have e2:=inc hlt hn
   have e3:=aU hlt
   have hi':k<us.length:=hl▸hlt
   have hg:=rP hl hlt
   have hrec:=fun h il v0 a b c d e=>@ih k l[k] us[k] (by simp [hlt]) (by simp [hi']) h il v0 a b c d e
   obtain⟨pu,cu,huf⟩:∃ pu cu,us[k] = .slice pu l[k].bl.length cu:=ct.form (bh.iff.1 (hu k l[k] us[k] (by simp [hlt]) (by simp [hi'])))
   rw[huf] at hg hrec
   have ec:=Ci hlt
   have eo:=Ei hlt
   rw[Mb] at eo
   have ecl:=GJ (l:=l) (k:=k+1)
   have eol:y7 l=true→y7 (l.take (k+1))=true:=Er
   generalize hX:l[k]=x at hg hrec ec eo
   have w1:IntKind.i64.wrap (m-1)=m-1:=ay om om
   refine aG e3 ?_
   refine ag rfl ?_
   refine mE e1 hid hg hilk w1 ?_
   refine bY (v:=i64 (m-1)) (vs:=[i64 (m-1)]) (cells':=[i64 (m-1)]) al rfl rfl rfl al hilk al rfl rfl ?_
   dsimp only
   rw[List.set_set]
   have hil2:(h.set il (ax.aq [i64 (m-1)] 0 true 3))[il]? = some (.aq [i64 (m-1)] 0 true 3):=aw hil
   have hp2:h0 <+: h.set il (ax.aq [i64 (m-1)] 0 true 3):=aZ hp0 hil0
   generalize hh2:h.set il (ax.aq [i64 (m-1)] 0 true 3)=h2 at hil2 hp2 ⊢
   refine zu ?_
   iterate 9 (refine zx oA ?_)
   refine zu ?_
   iterate 1 (refine zx oA ?_)
   refine zu ?_
   iterate 2 (refine zx oA ?_)
   apply zn
   show CW _ _ _ _
   refine CW.mono (Q:=fun e s'=>e = .normal∧s'.h=h2∧∃ b,b=jD x∧bD [(0,.val (.slice (some ⟨id,0,some av⟩) l.length c)),(1,.val (.pointer (some ⟨il,0,some 0⟩))),(6,.box [i64 x.kind,.string x.text,i64 x.n,.slice pu x.bl.length cu]),(8,.val (.bool b)),(9,.val (.slice (some ⟨id,0,some av⟩) l.length c)),(10,.val (i64 l.length)),(11,.val (i64 k))] s'.fr) ?_ ?_
   ·by_cases k1:x.kind=1
    ·have d1:=decide_eq_true k1
     refine aG d1 ?_
     refine ag rfl ?_
     refine aC ?_
     refine⟨rfl,rfl,(decide ((x.text.size:Int)≤32)&&decide (x.n=0)&&decide ((x.bl.length:Int)=0)),?_,aM⟩
     obtain⟨k0,t0,n0,l0⟩:=x
     simp only[Item.kind,Item.text,Item.n,Item.bl] at *
     simp [jD,Item.kind,Item.text,Item.n,Item.bl,cY,Bool.and_assoc,k1]
    have d1:=decide_eq_false k1
    refine aG d1 ?_
    refine ae rfl ?_
    by_cases k2:x.kind=2
    ·have d2:=decide_eq_true k2
     refine aG d2 ?_
     refine ag rfl ?_
     refine aC ?_
     refine⟨rfl,rfl,(decide (x.text=⟨#[]⟩)&&(decide (0≤x.n)&&decide (x.n≤999999))&&decide ((x.bl.length:Int)=0)),?_,aM⟩
     obtain⟨k0,t0,n0,l0⟩:=x
     simp only[Item.kind,Item.text,Item.n,Item.bl] at *
     simp [jD,Item.kind,Item.text,Item.n,Item.bl,cY,Bool.and_assoc,k2]
    have d2:=decide_eq_false k2
    refine aG d2 ?_
    refine ae rfl ?_
    by_cases k3:x.kind=3
    ·have d3:=decide_eq_true k3
     refine aG d3 ?_
     refine ag rfl ?_
     refine cE ?_
     show CW _ _ _ _
     refine ag rfl ?_
     refine aC ?_
     refine⟨rfl,rfl,(decide (x.text=⟨#[]⟩)&&decide (x.n=0)&&decide ((x.bl.length:Int)=0)),?_,aM⟩
     obtain⟨k0,t0,n0,l0⟩:=x
     simp only[Item.kind,Item.text,Item.n,Item.bl] at *
     simp [jD,Item.kind,Item.text,Item.n,Item.bl,cY,Bool.and_assoc,k3]
    have d3:=decide_eq_false k3
    refine aG d3 ?_
    refine ae rfl ?_
    by_cases k4:x.kind=4
    ·have d4:=decide_eq_true k4
     refine aG d4 ?_
     refine ag rfl ?_
     refine aC ?_
     refine⟨rfl,rfl,(decide (x.text=⟨#[]⟩)&&decide (x.n=0)&&decide ((x.bl.length:Int)=0)),?_,aM⟩
     obtain⟨k0,t0,n0,l0⟩:=x
     simp only[Item.kind,Item.text,Item.n,Item.bl] at *
     simp [jD,Item.kind,Item.text,Item.n,Item.bl,cY,Bool.and_assoc,k4]
    have d4:=decide_eq_false k4
    refine aG d4 ?_
    refine ae rfl ?_
    by_cases k5:x.kind=5
    ·have d5:=decide_eq_true k5
     refine aG d5 ?_
     refine ag rfl ?_
     refine aC ?_
     refine⟨rfl,rfl,(decide (x.text=⟨#[]⟩)&&(decide (0≤x.n)&&decide (x.n≤999999))),?_,aM⟩
     obtain⟨k0,t0,n0,l0⟩:=x
     simp only[Item.kind,Item.text,Item.n,Item.bl] at *
     simp [jD,Item.kind,Item.text,Item.n,Item.bl,cY,Bool.and_assoc,k5]
    have d5:=decide_eq_false k5
    refine aG d5 ?_
    refine ae rfl ?_
    by_cases k6:x.kind=6
    ·have d6:=decide_eq_true k6
     refine aG d6 ?_
     refine ag rfl ?_
     refine aC ?_
     refine⟨rfl,rfl,(decide (x.text=⟨#[]⟩)&&decide (x.n=0)),?_,aM⟩
     obtain⟨k0,t0,n0,l0⟩:=x
     simp only[Item.kind,Item.text,Item.n,Item.bl] at *
     simp [jD,Item.kind,Item.text,Item.n,Item.bl,cY,Bool.and_assoc,k6]
    have d6:=decide_eq_false k6
    refine aG d6 ?_
    refine ae rfl ?_
    refine aC ?_
    refine⟨rfl,rfl,false,?_,aM⟩
    obtain⟨k0,t0,n0,l0⟩:=x
    simp only[Item.kind,Item.text,Item.n,Item.bl] at *
    simp [jD,Item.kind,Item.text,Item.n,Item.bl,cY,Bool.and_assoc,k1,k2,k3,k4,k5,k6]
   rintro e s' ⟨rfl,hh,b,hb,hf⟩
   show CW _ _ _ _
   refine aA _ hf ?_
   rw[hh]
   clear hf hh s'
   cases b with
   | false=>
     refine aC ?_
     refine ag rfl ?_
     refine aC ?_
     refine ak ?_
     refine⟨_,al,false,m-1,rfl,hh2.symm,fun h=>(by cases h),fun _ hh=>?_⟩
     have:=eol hh.1
     rw[eo,← hb] at this
     simp at this
   | true=>
     by_cases q:m-1<0
     ·have dq:=decide_eq_true q
      refine fz hil2 dq ?_
      refine ag rfl ?_
      refine aC ?_
      refine ak ?_
      refine⟨_,al,false,m-1,rfl,hh2.symm,fun h=>(by cases h),fun _ hh=>?_⟩
      omega
     ·have dq:=decide_eq_false q
      refine fz hil2 dq ?_
      refine zj Tryz.func173 ?_
      refine (hrec h2 il (m-1) hp2 hil0 hil2 om om).mono ?_
      rintro _ h3 ⟨b',v',rfl,rfl,g1,g2⟩
      have hset:h2.set il (ax.aq [i64 v'] 0 true 3)=h.set il (ax.aq [i64 v'] 0 true 3):=by rw[← hh2,List.set_set]
      cases b' with
      | false=>
        refine aC ?_
        refine ag rfl ?_
        refine aC ?_
        refine ak ?_
        refine⟨_,al,false,v',rfl,hset,fun h=>(by cases h),fun _ hh=>?_⟩
        refine g2 rfl ⟨?_,by omega⟩
        have:=eol hh.1
        rw[eo] at this
        simp only[Bool.and_eq_true] at this
        exact this.2.2
      | true=>
        obtain⟨g3,g4,g5⟩:=g1 rfl
        refine aC ?_
        refine ae rfl ?_
        refine aG e2 ?_
        refine⟨hlt,v',aM,hset,by omega,g5,?_⟩
        rw[eo,hok,← hb,g3]
        rfl
  ·have e3:=aT hlt
   obtain rfl:k=l.length:=by omega
   rw[List.take_length] at hm hok
   refine aG e3 ?_
   refine ae rfl ?_
   refine aB ?_
   show CW _ _ _ _
   refine aC ?_
   refine ak ?_
   exact⟨_,al,true,m,rfl,rfl,fun _=>⟨hok,hm,hm0⟩,fun h=>(by cases h)⟩}
end
section
variable {h:ai} {r:Value} {d:bS} {up uc uf ur ub:Value}
theorem rJ {α:Type} {P:α→Bool} {l:List α} (hall:∀ i (hi:i<l.length),i<l.length→P l[i]=true):l.all P=true:=by{
rw[List.all_eq_true]
intro x hx
obtain⟨i,hi,rfl⟩:=List.getElem_of_mem hx
exact hall i hi hi}
theorem mI {α:Type} {P:α→Bool} {l:List α} {k:Nat} (hk:k<l.length) (hp:P l[k]=false):l.all P=false:=List.all_eq_false.2 ⟨_,List.getElem_mem hk,by rw[hp];decide⟩
theorem Df (hd:bo h d up uc uf ur ub) (hw:ou d):FW env 127 [.agg (d.val up uc uf ur ub).toArray] h fun r h'=>r = .bool (cA d)∧h'=h:=by{
refine wP ?_
obtain⟨p1,c1,p2,c2,p3,c3,p4,c4,p5,c5,rfl,rfl,rfl,rfl,rfl,l1,l2,l3,l4,l5⟩:=bo.form hd
obtain⟨B,hB⟩:∃ B:List Value,B=[.string d.start,.string d.layout,.slice p1 d.aa.length c1,.slice p2 d.aj.length c2,.slice p3 d.follows.length c3,.slice p4 d.ah.length c4,.slice p5 d.boxes.length c5]:=⟨_,rfl⟩
refine fe Tryz.func127 ?_;simp only[push_cast]
unfold bS.val
refine aC ?_
refine zj Tryz.func170 ?_
refine (el hw.start).mono ?_
rintro _ h1 ⟨rfl,rfl⟩
cases g1:iO d.start true with
| false=>
  refine aC ?_
  refine ag rfl ?_
  refine aC ?_
  refine ak ?_
  refine⟨_,al,?_,List.prefix_refl _⟩
  unfold cA
  simp only[g1,Bool.false_and,Bool.and_false,Bool.true_and]
  rfl
| true=>
refine aC ?_
refine zj Tryz.func170 ?_
refine (el hw.layout).mono ?_
rintro _ h1 ⟨rfl,rfl⟩
cases g2:iO d.layout true with
| false=>
  refine aC ?_
  refine ag rfl ?_
  refine aC ?_
  refine ak ?_
  refine⟨_,al,?_,List.prefix_refl _⟩
  unfold cA
  simp only[g1,g2,Bool.false_and,Bool.and_false,Bool.true_and]
  rfl
| true=>
by_cases q3:d.aa.length≤200
case neg=>
 have d3:decide ((200:Int)<(d.aa.length:Int))=true:=decide_eq_true om
 have g3:=decide_eq_false q3
 refine aG d3 ?_
 refine ag rfl ?_
 refine aC ?_
 refine ak ?_
 refine⟨_,al,?_,List.prefix_refl _⟩
 unfold cA
 simp only[g1,g2,g3,Bool.false_and,Bool.and_false,Bool.true_and]
 rfl
have d3:decide ((200:Int)<(d.aa.length:Int))=false:=decide_eq_false om
have g3:=decide_eq_true q3
refine aG d3 ?_
refine ae rfl ?_
refine aC ?_
refine dC d.aa.length (fun k=>[(1,.box B),(31,.val (.slice p1 d.aa.length c1)),(32,.val (i64 d.aa.length)),(33,.val (i64 k))]) (fun _=>h1) (fun k=>∀ i (hi:i<d.aa.length),i<k→cD d.aa[i]=true) (by rw[hB];exact aM) rfl (fun i _ hi=>absurd hi om) ?_
intro k hkn hall
by_cases hlt:k<d.aa.length
·obtain⟨id,av,own,c',cells,u,hv,hid,hrd,hu⟩:=ct.at (k:=5) (fun _ _=>rfl) hd.aa hlt
 cases hv
 have hu0:=hu
 obtain⟨ps,cs,rfl⟩:=bT.form hu
 have w1:=cz hlt
 have w2:=inc hlt l1
 have q3:=aU hlt
 refine aG q3 ?_
 refine ag rfl ?_
 refine gU w1 hid hrd ?_
 refine zj Tryz.func171 ?_
 refine (FV hu0 (hw.aa _ (List.getElem_mem hlt))).mono ?_
 rintro _ h2 ⟨rfl,rfl⟩
 cases gg:cD d.aa[k] with
 | false=>
   have gA:=mI hlt gg
   refine aC ?_
   refine ag rfl ?_
   refine aC ?_
   refine ak ?_
   refine⟨_,al,?_,List.prefix_refl _⟩
   unfold cA
   simp only[g1,g2,g3,gA,Bool.false_and,Bool.and_false,Bool.true_and]
   rfl
 | true=>
   refine aC ?_
   refine ae rfl ?_
   refine aG w2 ?_
   refine⟨hlt,aM,rfl,fun i hi h2=>?_⟩
   rcases (by omega:i<k∨i=k) with h4|rfl
   ·exact hall i hi h4
   ·exact gg
have e3:=aT hlt
obtain rfl:k=d.aa.length:=by omega
refine aG e3 ?_
refine ae rfl ?_
refine aB ?_
show CW _ _ _ _
have gP:=rJ (P:=cD) hall
clear hall
refine aC ?_
rw[hB]
refine aC ?_
refine dC d.aj.length (fun k=>[(1,.box B),(42,.val (.slice p2 d.aj.length c2)),(43,.val (i64 d.aj.length)),(44,.val (i64 k))]) (fun _=>h1) (fun k=>∀ i (hi:i<d.aj.length),i<k→dU d.aj[i]=true) (by rw[hB];exact aM) rfl (fun i _ hi=>absurd hi om) ?_
intro k hkn hall
by_cases hlt:k<d.aj.length
·obtain⟨id,av,own,c',cells,u,hv,hid,hrd,hu⟩:=ct.at (k:=1) (fun _ _=>rfl) hd.aj hlt
 cases hv
 have hu0:=hu
 obtain⟨ps,cs,rfl⟩:=ct.form hu
 have hg:=fI hrd om
 simp only[List.getElem?_cons_zero,Nat.mul_one] at hg
 have w1:=cz hlt
 have w2:=inc hlt l2
 have q3:=aU hlt
 refine aG q3 ?_
 refine ag rfl ?_
 refine fN w1 hid hg Nat.mul_one ?_
 refine zj Tryz.func172 ?_
 refine (CC hu0 (hw.aj _ (List.getElem_mem hlt))).mono ?_
 rintro _ h2 ⟨rfl,rfl⟩
 cases gg:dU d.aj[k] with
 | false=>
   have gA:=mI hlt gg
   refine aC ?_
   refine ag rfl ?_
   refine aC ?_
   refine ak ?_
   refine⟨_,al,?_,List.prefix_refl _⟩
   unfold cA
   simp only[g1,g2,g3,gP,gA,Bool.false_and,Bool.and_false,Bool.true_and]
   rfl
 | true=>
   refine aC ?_
   refine ae rfl ?_
   refine aG w2 ?_
   refine⟨hlt,aM,rfl,fun i hi h2=>?_⟩
   rcases (by omega:i<k∨i=k) with h4|rfl
   ·exact hall i hi h4
   ·exact gg
have e3:=aT hlt
obtain rfl:k=d.aj.length:=by omega
refine aG e3 ?_
refine ae rfl ?_
refine aB ?_
show CW _ _ _ _
have gC:=rJ (P:=dU) hall
clear hall
refine aC ?_
rw[hB]
refine aC ?_
refine dC d.follows.length (fun k=>[(1,.box B),(53,.val (.slice p3 d.follows.length c3)),(54,.val (i64 d.follows.length)),(55,.val (i64 k))]) (fun _=>h1) (fun k=>∀ i (hi:i<d.follows.length),i<k→(fun f:dO=>bK f.sort) d.follows[i]=true) (by rw[hB];exact aM) rfl (fun i _ hi=>absurd hi om) ?_
intro k hkn hall
by_cases hlt:k<d.follows.length
·obtain⟨id,av,own,c',hv,hid⟩:=bT.at hd.follows om
 cases hv
 have hg:=jm hlt
 have w1:=cz hlt
 have w2:=inc hlt l3
 have q3:=aU hlt
 refine aG q3 ?_
 refine ag rfl ?_
 refine gU w1 hid hg ?_
 refine zj Tryz.func170 ?_
 refine (el (hw.follows _ (List.getElem_mem hlt)).1).mono ?_
 rintro _ h2 ⟨rfl,rfl⟩
 rw[iw]
 cases gg:bK d.follows[k].sort with
 | false=>
   have gA:=mI (P:=fun f:dO=>bK f.sort) hlt gg
   refine aC ?_
   refine ag rfl ?_
   refine aC ?_
   refine ak ?_
   refine⟨_,al,?_,List.prefix_refl _⟩
   unfold cA
   simp only[g1,g2,g3,gP,gC,gA,Bool.false_and,Bool.and_false,Bool.true_and]
   rfl
 | true=>
   refine aC ?_
   refine ae rfl ?_
   refine aG w2 ?_
   refine⟨hlt,aM,rfl,fun i hi h2=>?_⟩
   rcases (by omega:i<k∨i=k) with h4|rfl
   ·exact hall i hi h4
   ·exact gg
have e3:=aT hlt
obtain rfl:k=d.follows.length:=by omega
refine aG e3 ?_
refine ae rfl ?_
refine aB ?_
show CW _ _ _ _
have gF:=rJ (P:=fun f:dO=>bK f.sort) hall
clear hall
refine aC ?_
rw[hB]
refine aC ?_
refine dC d.ah.length (fun k=>[(1,.box B),(65,.val (.slice p4 d.ah.length c4)),(66,.val (i64 d.ah.length)),(67,.val (i64 k))]) (fun _=>h1) (fun k=>∀ i (hi:i<d.ah.length),i<k→(fun x:dh=>bK x.sort&&bK x.jN) d.ah[i]=true) (by rw[hB];exact aM) rfl (fun i _ hi=>absurd hi om) ?_
intro k hkn hall
by_cases hlt:k<d.ah.length
·obtain⟨id,av,own,c',hv,hid⟩:=bT.at hd.ah om
 cases hv
 have hg:=g6 hlt
 have w1:=cz hlt
 have w2:=inc hlt l4
 have q3:=aU hlt
 refine aG q3 ?_
 refine ag rfl ?_
 refine gU w1 hid hg ?_
 refine zj Tryz.func170 ?_
 refine (el (hw.ah _ (List.getElem_mem hlt)).1).mono ?_
 rintro _ h2 ⟨rfl,rfl⟩
 rw[iw]
 cases gg:bK d.ah[k].sort with
 | false=>
   have gA:=mI (P:=fun x:dh=>bK x.sort&&bK x.jN) hlt (by simp only[gg,Bool.false_and])
   refine aC ?_
   refine ag rfl ?_
   refine aC ?_
   refine ak ?_
   refine⟨_,al,?_,List.prefix_refl _⟩
   unfold cA
   simp only[g1,g2,g3,gP,gC,gF,gA,Bool.false_and,Bool.and_false,Bool.true_and]
   rfl
 | true=>
   refine aC ?_
   refine zj Tryz.func170 ?_
   refine (el (hw.ah _ (List.getElem_mem hlt)).2).mono ?_
   rintro _ h2 ⟨rfl,rfl⟩
   rw[iw]
   cases gg2:bK d.ah[k].jN with
   | false=>
     have gA:=mI (P:=fun x:dh=>bK x.sort&&bK x.jN) hlt (by simp only[gg2,Bool.and_false])
     refine aC ?_
     refine ag rfl ?_
     refine aC ?_
     refine ak ?_
     refine⟨_,al,?_,List.prefix_refl _⟩
     unfold cA
     simp only[g1,g2,g3,gP,gC,gF,gA,Bool.false_and,Bool.and_false,Bool.true_and]
     rfl
   | true=>
     refine aC ?_
     refine ae rfl ?_
     refine aG w2 ?_
     refine⟨hlt,aM,rfl,fun i hi h2=>?_⟩
     rcases (by omega:i<k∨i=k) with h4|rfl
     ·exact hall i hi h4
     ·exact (by simp only[gg,gg2,Bool.and_true])
have e3:=aT hlt
obtain rfl:k=d.ah.length:=by omega
refine aG e3 ?_
refine ae rfl ?_
refine aB ?_
show CW _ _ _ _
have gR:=rJ (P:=fun x:dh=>bK x.sort&&bK x.jN) hall
clear hall
refine aC ?_
rw[hB]
refine aC ?_
refine aX d.boxes.length (fun k (x:ai)=>[(83,.val (.slice p5 d.boxes.length c5)),(84,.val (i64 d.boxes.length)),(85,.val (i64 k))]) (fun _ x=>x) (fun k x=>h1 <+: x∧∀ i (hi:i<d.boxes.length),i<k→gj d.boxes[i]=true) h1 aM rfl ⟨List.prefix_refl _,fun i _ hi=>absurd hi om⟩ ?_
rintro k hk hkn ⟨hp,hall⟩
by_cases hlt:k<d.boxes.length
·obtain⟨id,av,own,c',cells,u,hv,hid0,hrd,hu⟩:=ct.at (k:=2) (fun _ _=>rfl) hd.boxes hlt
 cases hv
 have hid:=af hp hid0
 have hu0:=hu
 obtain⟨ps,cs,rfl⟩:=ct.form (bh.iff.1 hu)
 have w1:=cz hlt
 have w2:=inc hlt l5
 have q3:=aU hlt
 refine aG q3 ?_
 refine ag rfl ?_
 refine zu ?_
 iterate 4 (refine zx (Pn w1 hid hrd) ?_)
 refine zu ?_
 refine dK (t:=3) (cs:=[i64 0]) al al ?_
 dsimp only[St.a9,St.put]
 refine bY (v:=i64 64) (vs:=[i64 64]) (cells':=[i64 64]) al rfl rfl rfl al aK al rfl rfl ?_
 dsimp only
 have hset:(hk++[ax.aq [i64 0] 0 true 3]).set hk.length (.aq [i64 64] 0 true 3)=hk++[.aq [i64 64] 0 true 3]:=by simp
 rw[hset]
 have hp2:h1 <+: hk++[ax.aq [i64 64] 0 true 3]:=dt hp
 have hil:(hk++[ax.aq [i64 64] 0 true 3])[hk.length]? = some (.aq [i64 64] 0 true 3):=aK
 have hlen:=hp.length_le
 generalize (hk++[ax.aq [i64 64] 0 true 3])=h2 at hp2 hil ⊢
 refine aC ?_
 refine zj Tryz.func170 ?_
 refine (el (hw.boxes _ (List.getElem_mem hlt))).mono ?_
 rintro _ h2 ⟨rfl,rfl⟩
 rw[iw]
 cases gg:bK d.boxes[k].cons with
 | false=>
   have gA:=mI hlt (show gj d.boxes[k]=false by unfold gj;rw[gg];rfl)
   refine aC ?_
   refine ag rfl ?_
   refine aC ?_
   refine ak ?_
   refine⟨_,al,?_,hp2⟩
   unfold cA
   simp only[g1,g2,g3,gP,gC,gF,gR,gA,Bool.false_and,Bool.and_false,Bool.true_and]
   rfl
 | true=>
   refine aC ?_
   refine zj Tryz.func173 ?_
   refine (B8 hu0 hp2 hlen hil (by decide) (by decide)).mono ?_
   rintro _ h3 ⟨b,v',rfl,rfl,k1,k2⟩
   have hp3:h1 <+: h2.set hk.length (ax.aq [i64 v'] 0 true 3):=aZ hp2 hlen
   generalize h2.set hk.length (ax.aq [i64 v'] 0 true 3)=h3 at hp3 ⊢
   cases b with
   | false=>
     have gA:=mI hlt (show gj d.boxes[k]=false by
      unfold gj
      rw[gg,Bool.true_and]
      cases e1:y7 d.boxes[k].bl with
      | false=>rfl
      | true=>
        have:=k2 rfl
        rw[e1] at this
        rw[Bool.true_and]
        exact decide_eq_false fun hle=>this ⟨rfl,by omega⟩)
     refine aC ?_
     refine ag rfl ?_
     refine aC ?_
     refine ak ?_
     refine⟨_,al,?_,hp3⟩
     unfold cA
     simp only[g1,g2,g3,gP,gC,gF,gR,gA,Bool.false_and,Bool.and_false,Bool.true_and]
     rfl
   | true=>
     obtain⟨k3,k4,k5⟩:=k1 rfl
     refine aC ?_
     refine ae rfl ?_
     refine aG w2 ?_
     refine⟨hlt,h3,aM,rfl,hp3,fun i hi h2=>?_⟩
     rcases (by omega:i<k∨i=k) with h4|rfl
     ·exact hall i hi h4
     ·unfold gj
      rw[gg,k3,decide_eq_true om]
      rfl
·have e3:=aT hlt
 obtain rfl:k=d.boxes.length:=by omega
 have gX:=rJ hall
 refine aG e3 ?_
 refine ae rfl ?_
 refine aB ?_
 show CW _ _ _ _
 refine aC ?_
 refine ak ?_
 refine⟨_,al,?_,hp⟩
 unfold cA
 rw[g1,g2,g3,gP,gC,gF,gR,gX]
 rfl}
theorem Ip (hk:Bk h r d) (hw:ou d):FW env 67 [r] h fun x h'=>iI (cA d=true) x∧h'=h:=by{
obtain⟨h0,ib,im,sv,up,uc,uf,ur,ub,rfl,hd,K⟩:=hk
have hd:=hd.mono K.p
obtain⟨p1,c1,p2,c2,p3,c3,p4,c4,p5,c5,rfl,rfl,rfl,rfl,rfl,l1,l2,l3,l4,l5⟩:=bo.form hd
obtain⟨es,hm,hes⟩:=K.m
have hb:=K.b
unfold bS.val at hb
simp only[List.cons_append,List.nil_append] at hb
have hkk:=bz es
have hss:bj h sv (aF d.aa):=K.s.sl (b:=16) (by have:=b8 (ps:=d.aa);have:=ct.le hd.aa;omega)
obtain⟨pq,cq,rfl⟩:=hss.form
have hR:=Df hd hw
unfold bS.val at hR
refine fe Tryz.func67 ?_;simp only[push_cast]
refine aG hb ?_
refine zj Tryz.func127 ?_
refine hR.mono ?_
rintro _ h1 ⟨rfl,rfl⟩
cases g:cA d with
| false=>
  refine aC ?_
  refine ag rfl ?_
  refine aC ?_
  refine ak ?_
  exact⟨_,al,⟨3,_,rfl,⟨fun h=>(by cases h),fun h=>(by cases h)⟩⟩,rfl⟩
| true=>
  refine aC ?_
  refine ae rfl ?_
  refine aC ?_
  refine ak ?_
  exact⟨_,al,⟨0,_,rfl,⟨fun _=>rfl,fun _=>rfl⟩⟩,rfl⟩}
end
mutual
def zt (Y:List Sym):Item→Nat×Nat→Option (Nat×Nat)
 | .mk k t n l,s=>if k=5∨k=6 then (if 40<n then none else j7 Y l s)
   else if k=1 then (match Y[s.1]? with
    | none=>none
    | some y=>if y.kind=1∧y.text=t then some (s.1+1,s.2) else none)
   else if k=2 then (match Y[s.1]? with
    | none=>none
    | some y=>if y.kind=1∨n≠(s.2:Int)+1 then none else some (s.1+1,s.2+1))
   else some s
def j7 (Y:List Sym):List Item→Nat×Nat→Option (Nat×Nat)
 | [],s=>some s
 | x :: r,s=>match zt Y x s with
   | some s'=>j7 Y r s'
   | none=>none
end
theorem eG {Y:List Sym} (x:Item) (q ho:Nat):zt Y x (q,ho)=if x.kind=5∨x.kind=6 then (if 40<x.n then none else j7 Y x.bl (q,ho))
 else if x.kind=1 then (match Y[q]? with
  | none=>none
  | some y=>if y.kind=1∧y.text=x.text then some (q+1,ho) else none)
 else if x.kind=2 then (match Y[q]? with
  | none=>none
  | some y=>if y.kind=1∨x.n≠(ho:Int)+1 then none else some (q+1,ho+1))
 else some (q,ho):=by
 cases x
 unfold zt
 rfl
theorem tw {Y:List Sym}:∀ {l r:List Item} {s s':Nat×Nat},j7 Y l s=some s'→j7 Y (l++r) s=j7 Y r s'
 | [],r,s,s',h=>by unfold j7 at h;cases h;rfl
 | x :: l,r,s,s',h=>by
   unfold j7 at h
   rw[List.cons_append]
   conv=>lhs;unfold j7
   cases e:zt Y x s with
   | none=>rw[e] at h;cases h
   | some s2=>
     rw[e] at h
     exact tw h
theorem BZ {Y:List Sym} {l:List Item} {k:Nat} (hk:k<l.length) {s s':Nat×Nat} (h:j7 Y (l.take k) s=some s'):j7 Y (l.take (k+1)) s=zt Y l[k] s':=by{
rw[List.take_succ_eq_append_getElem hk,tw h]
unfold j7
cases zt Y l[k] s' with
| none=>rfl
| some s2=>rfl}
theorem Ca {Y:List Sym} {l:List Item} {k:Nat} (hk:k<l.length) {s s':Nat×Nat} (h:j7 Y (l.take k) s=some s') (h2:zt Y l[k] s'=none):j7 Y l s=none:=by{
have:l=l.take k++(l[k] :: l.drop (k+1)):=by simp
rw[this,tw h]
unfold j7
rw[h2]}
section
variable {Y:List Sym} {id av:Nat} {own:Bool} {iy ih:Nat}
def fy (h:ai) (Y:List Sym) (id av iy ih:Nat) (q ho c:Nat):ai:=(h.set iy (.aq [.slice (some ⟨id,q*8,some av⟩) (Y.length-q) c] 0 true 49)).set ih (.aq [i64 (ho:Int)] 0 true 3)
theorem oj {h:ai} {q ho c q' ho' c':Nat} (hne:iy≠ih):fy (fy h Y id av iy ih q ho c) Y id av iy ih q' ho' c'=fy h Y id av iy ih q' ho' c':=by
 unfold fy
 rw[List.set_comm _ _ (Ne.symm hne),List.set_set,List.set_set]
theorem F4 {h:ai} {q ho c q' c':Nat} (hne:iy≠ih):(fy h Y id av iy ih q ho c).set iy (.aq [.slice (some ⟨id,q'*8,some av⟩) (Y.length-q') c'] 0 true 49)=fy h Y id av iy ih q' ho c':=by
 unfold fy
 rw[List.set_comm _ _ (Ne.symm hne),List.set_set]
theorem Nk {h:ai} {q ho c ho':Nat}:(fy h Y id av iy ih q ho c).set ih (.aq [i64 (ho':Int)] 0 true 3)=fy h Y id av iy ih q ho' c:=by
 unfold fy
 rw[List.set_set]
theorem Be {h:ai} {q ho c:Nat} (hne:iy≠ih) (hly:iy<h.length):(fy h Y id av iy ih q ho c)[iy]? = some (.aq [.slice (some ⟨id,q*8,some av⟩) (Y.length-q) c] 0 true 49):=by
 unfold fy
 rw[aD (Ne.symm hne),List.getElem?_set_self hly]
theorem wT {h:ai} {q ho c:Nat} (hlh:ih<h.length):(fy h Y id av iy ih q ho c)[ih]? = some (.aq [i64 (ho:Int)] 0 true 3):=by
 unfold fy
 rw[List.getElem?_set_self (by rw[List.length_set];exact hlh)]
theorem Jw {h0:ai} {v:Value} {l:List Item} (hr:bh h0 v l) (hid0:h0[id]? = some (.aq (Y.flatMap Sym.cells) av own 56)) (hY:Y.length≤1000) (hne:iy≠ih) (hiy0:h0.length≤iy) (hih0:h0.length≤ih) : ∀ {h:ai} {q ho c:Nat},h0 <+: h→h=fy h Y id av iy ih q ho c→iy<h.length→ih<h.length→q≤Y.length→ho≤q → FW env 137 [v,.pointer (some ⟨iy,0,some 0⟩),.pointer (some ⟨ih,0,some 0⟩)] h fun r h'=>∃ (b:Bool) (q' ho' c':Nat),r = .bool b∧h'=fy h Y id av iy ih q' ho' c'∧(b=true→j7 Y l (q,ho)=some (q',ho')∧q'≤Y.length∧ho'≤q')∧(b=false→j7 Y l (q,ho)=none):=by{
induction hr with
| @mk v l us hl hs hu ih_=>
  intro h q0 ho0 c0 hp0 hH hly hlh hq0 hho0
  obtain⟨p,c,rfl⟩:=hs.form
  have hle:=hs.1
  have hn:l.length≤140737488355328:=by omega
  refine fe Tryz.func137 ?_;simp only[push_cast]
  refine aC ?_
  refine aX l.length (fun k (x:Nat×Nat×Nat)=>[(1,.val (.pointer (some ⟨iy,0,some 0⟩))),(2,.val (.pointer (some ⟨ih,0,some 0⟩))),(10,.val (.slice p l.length c)),(11,.val (i64 l.length)),(12,.val (i64 k))]) (fun _ x=>fy h Y id av iy ih x.1 x.2.1 x.2.2) (fun k x=>j7 Y (l.take k) (q0,ho0)=some (x.1,x.2.1)∧x.1≤Y.length∧x.2.1≤x.1) (q0,ho0,c0) aM hH ⟨rfl,hq0,hho0⟩ ?_
  rintro k ⟨q,ho,cy⟩ hk ⟨hfit,hq,hho⟩
  simp only at hfit hq hho ⊢
  have hpk:h0 <+: fy h Y id av iy ih q ho cy:=aZ (aZ hp0 hiy0) hih0
  have hgy:=Be (Y:=Y) (id:=id) (av:=av) (q:=q) (ho:=ho) (c:=cy) hne hly
  have hgh:=wT (Y:=Y) (id:=id) (av:=av) (iy:=iy) (q:=q) (ho:=ho) (c:=cy) hlh
  have hlen1:iy<(fy h Y id av iy ih q ho cy).length:=by unfold fy;rw[List.length_set,List.length_set];exact hly
  have hlen2:ih<(fy h Y id av iy ih q ho cy).length:=by unfold fy;rw[List.length_set,List.length_set];exact hlh
  by_cases hlt:k<l.length
  ·obtain⟨id2,ver2,own2,c',hv,hid2⟩:=bT.at (hs.mono hpk) om
   cases hv
   have e1:=cz hlt
   have e2:=inc hlt hn
   have e3:=aU hlt
   have hi':k<us.length:=hl▸hlt
   have hg:=rP hl hlt
   have hrec:=@ih_ k l[k] us[k] (by simp [hlt]) (by simp [hi'])
   obtain⟨pu,cu,huf⟩:∃ pu cu,us[k] = .slice pu l[k].bl.length cu:=ct.form (bh.iff.1 (hu k l[k] us[k] (by simp [hlt]) (by simp [hi'])))
   rw[huf] at hg hrec
   have hst:=BZ hlt hfit
   have hsp:=Ca hlt hfit
   generalize hX:l[k]=x at hg hrec hst hsp
   refine aG e3 ?_
   refine ag rfl ?_
   by_cases k5:x.kind=5
   ·have d5:=decide_eq_true k5
    refine fN e1 hid2 hg d5 ?_
    refine ag rfl ?_
    refine cE ?_
    show CW _ _ _ _
    refine ag rfl ?_
    by_cases q40:40<x.n
    ·have d40:=decide_eq_true q40
     refine aG d40 ?_
     refine ag rfl ?_
     refine aC ?_
     refine ak ?_
     refine⟨_,al,false,q,ho,cy,rfl,rfl,fun h=>(by cases h),fun _=>hsp ?_⟩
     rw[eG]
     rw[if_pos (by simp [k5]),if_pos q40]
    ·have d40:=decide_eq_false q40
     refine aG d40 ?_
     refine zj Tryz.func137 ?_
     refine (hrec hpk (oj hne).symm hlen1 hlen2 hq hho).mono ?_
     rintro _ h3 ⟨b',q',ho',c3,rfl,rfl,g1,g2⟩
     rw[oj hne]
     cases b' with
     | false=>
       refine aC ?_
       refine ag rfl ?_
       refine aC ?_
       refine ak ?_
       refine⟨_,al,false,q',ho',c3,rfl,rfl,fun h=>(by cases h),fun _=>hsp ?_⟩
       rw[eG]
       rw[if_pos (by simp [k5]),if_neg q40]
       exact g2 rfl
     | true=>
       obtain⟨g3,g4,g5⟩:=g1 rfl
       refine aC ?_
       refine ae rfl ?_
       refine aG e2 ?_
       refine⟨hlt,(q',ho',c3),aM,rfl,?_,g4,g5⟩
       rw[hst,eG,if_pos (by simp [k5]),if_neg q40]
       exact g3
   have d5:=decide_eq_false k5
   refine fN e1 hid2 hg d5 ?_
   refine ae rfl ?_
   by_cases k6:x.kind=6
   ·have d6:=decide_eq_true k6
    refine aG d6 ?_
    refine ag rfl ?_
    by_cases q40:40<x.n
    ·have d40:=decide_eq_true q40
     refine aG d40 ?_
     refine ag rfl ?_
     refine aC ?_
     refine ak ?_
     refine⟨_,al,false,q,ho,cy,rfl,rfl,fun h=>(by cases h),fun _=>hsp ?_⟩
     rw[eG]
     rw[if_pos (by simp [k6]),if_pos q40]
    ·have d40:=decide_eq_false q40
     refine aG d40 ?_
     refine zj Tryz.func137 ?_
     refine (hrec hpk (oj hne).symm hlen1 hlen2 hq hho).mono ?_
     rintro _ h3 ⟨b',q',ho',c3,rfl,rfl,g1,g2⟩
     rw[oj hne]
     cases b' with
     | false=>
       refine aC ?_
       refine ag rfl ?_
       refine aC ?_
       refine ak ?_
       refine⟨_,al,false,q',ho',c3,rfl,rfl,fun h=>(by cases h),fun _=>hsp ?_⟩
       rw[eG]
       rw[if_pos (by simp [k6]),if_neg q40]
       exact g2 rfl
     | true=>
       obtain⟨g3,g4,g5⟩:=g1 rfl
       refine aC ?_
       refine ae rfl ?_
       refine aG e2 ?_
       refine⟨hlt,(q',ho',c3),aM,rfl,?_,g4,g5⟩
       rw[hst,eG,if_pos (by simp [k6]),if_neg q40]
       exact g3
   have d6:=decide_eq_false k6
   have n56:¬ (x.kind=5∨x.kind=6):=by simp [k5,k6]
   refine aG d6 ?_
   refine ae rfl ?_
   by_cases k1:x.kind=1
   ·have d1:=decide_eq_true k1
    refine aG d1 ?_
    refine ag rfl ?_
    refine cE ?_
    show CW _ _ _ _
    refine ag rfl ?_
    by_cases hqe:q=Y.length
    ·have hm0:Y.length-q=0:=by omega
     rw[hm0] at hgy
     refine aG hgy ?_
     refine ag rfl ?_
     refine aC ?_
     refine ak ?_
     refine⟨_,al,false,q,ho,cy,rfl,rfl,fun h=>(by cases h),fun _=>hsp ?_⟩
     rw[eG]
     rw[if_neg n56,if_pos k1,List.getElem?_eq_none om]
    obtain⟨m,hm⟩:∃ m,Y.length-q=m+1:=⟨Y.length-q-1,by omega⟩
    rw[hm] at hgy
    have hql:q<Y.length:=by omega
    have hdl:decide (((m:Int)+1)=0)=false:=decide_eq_false om
    refine fz hgy hdl ?_
    refine ae rfl ?_
    have hidk:=af hpk hid0
    have hyg:=g7 (l:=Y) (i:=q) hql
    have r0:((0:Int)<(m:Int)+1)=True:=eq_true om
    have r1:((0:Int)≤1∧(1:Int)≤(m:Int)+1∧(m:Int)+1≤(m:Int)+1)=True:=eq_true om
    have r2:((m:Int)+1-1).toNat=m:=by omega
    have hye:Y[q]? = some Y[q]:=List.getElem?_eq_getElem hql
    generalize Y[q]=y at hyg hye
    have hsetY:(fy h Y id av iy ih q ho cy).set iy (.aq [.slice (some ⟨id,q*8+8,some av⟩) m m] 0 true 49)=fy h Y id av iy ih (q+1) ho m:=by
     have:=F4 (h:=h) (Y:=Y) (id:=id) (av:=av) (q:=q) (ho:=ho) (c:=cy) (q':=q+1) (c':=m) hne
     rw[show Y.length-(q+1)=m by omega,show (q+1)*8=q*8+8 by omega] at this
     exact this
    refine JY hgy r0 r1 r2 hidk hyg ?_
    refine bY (v:=.slice (some ⟨id,q*8+8,some av⟩) m m) (vs:=[.slice (some ⟨id,q*8+8,some av⟩) m m]) (cells':=[.slice (some ⟨id,q*8+8,some av⟩) m m]) al rfl rfl rfl al hgy al rfl rfl ?_
    dsimp only
    rw[hsetY]
    refine aG d1 ?_
    refine ag rfl ?_
    by_cases y1:y.kind=1
    ·have f1:=decide_eq_true y1
     by_cases y2:y.text=x.text
     ·have f2:=decide_eq_true y2
      refine fz f1 f2 ?_
      refine ae rfl ?_
      refine cE ?_
      show CW _ _ _ _
      refine aB ?_
      show CW _ _ _ _
      refine aG e2 ?_
      refine⟨hlt,(q+1,ho,m),aM,rfl,?_,hql,Nat.le_succ_of_le hho⟩
      rw[hst,eG,if_neg n56,if_pos k1,hye]
      simp only
      rw[if_pos ⟨y1,y2⟩]
     ·have f2:=decide_eq_false y2
      refine fz f1 f2 ?_
      refine ag rfl ?_
      refine aC ?_
      refine ak ?_
      refine⟨_,al,false,q+1,ho,m,rfl,rfl,fun h=>(by cases h),fun _=>hsp ?_⟩
      rw[eG]
      rw[if_neg n56,if_pos k1,hye]
      simp only
      rw[if_neg (fun h=>y2 h.2)]
    ·have f1:=decide_eq_false y1
     refine aG f1 ?_
     refine ag rfl ?_
     refine aC ?_
     refine ak ?_
     refine⟨_,al,false,q+1,ho,m,rfl,rfl,fun h=>(by cases h),fun _=>hsp ?_⟩
     rw[eG]
     rw[if_neg n56,if_pos k1,hye]
     simp only
     rw[if_neg (fun h=>y1 h.1)]
   have d1:=decide_eq_false k1
   refine aG d1 ?_
   refine ae rfl ?_
   by_cases k2:x.kind=2
   ·have d2:=decide_eq_true k2
    refine aG d2 ?_
    refine ag rfl ?_
    by_cases hqe:q=Y.length
    ·have hm0:Y.length-q=0:=by omega
     rw[hm0] at hgy
     refine aG hgy ?_
     refine ag rfl ?_
     refine aC ?_
     refine ak ?_
     refine⟨_,al,false,q,ho,cy,rfl,rfl,fun h=>(by cases h),fun _=>hsp ?_⟩
     rw[eG]
     rw[if_neg n56,if_neg k1,if_pos k2,List.getElem?_eq_none om]
    obtain⟨m,hm⟩:∃ m,Y.length-q=m+1:=⟨Y.length-q-1,by omega⟩
    rw[hm] at hgy
    have hql:q<Y.length:=by omega
    have hdl:decide (((m:Int)+1)=0)=false:=decide_eq_false om
    refine fz hgy hdl ?_
    refine ae rfl ?_
    have hidk:=af hpk hid0
    have hyg:=g7 (l:=Y) (i:=q) hql
    have r0:((0:Int)<(m:Int)+1)=True:=eq_true om
    have r1:((0:Int)≤1∧(1:Int)≤(m:Int)+1∧(m:Int)+1≤(m:Int)+1)=True:=eq_true om
    have r2:((m:Int)+1-1).toNat=m:=by omega
    have hye:Y[q]? = some Y[q]:=List.getElem?_eq_getElem hql
    generalize Y[q]=y at hyg hye
    have hsetY:(fy h Y id av iy ih q ho cy).set iy (.aq [.slice (some ⟨id,q*8+8,some av⟩) m m] 0 true 49)=fy h Y id av iy ih (q+1) ho m:=by
     have:=F4 (h:=h) (Y:=Y) (id:=id) (av:=av) (q:=q) (ho:=ho) (c:=cy) (q':=q+1) (c':=m) hne
     rw[show Y.length-(q+1)=m by omega,show (q+1)*8=q*8+8 by omega] at this
     exact this
    refine JY hgy r0 r1 r2 hidk hyg ?_
    refine bY (v:=.slice (some ⟨id,q*8+8,some av⟩) m m) (vs:=[.slice (some ⟨id,q*8+8,some av⟩) m m]) (cells':=[.slice (some ⟨id,q*8+8,some av⟩) m m]) al rfl rfl rfl al hgy al rfl rfl ?_
    dsimp only
    rw[hsetY]
    refine aG d1 ?_
    refine ae rfl ?_
    have hgh1:=wT (h:=h) (Y:=Y) (id:=id) (av:=av) (iy:=iy) (q:=q+1) (ho:=ho) (c:=m) hlh
    have w1:IntKind.i64.wrap ((ho:Int)+1)=(ho:Int)+1:=ay om om
    have hsetH:(fy h Y id av iy ih (q+1) ho m).set ih (.aq [i64 ((ho:Int)+1)] 0 true 3)=fy h Y id av iy ih (q+1) (ho+1) m:=Nk
    have hgh2:=wT (h:=h) (Y:=Y) (id:=id) (av:=av) (iy:=iy) (q:=q+1) (ho:=ho+1) (c:=m) hlh
    refine fz hgh1 w1 ?_
    refine bY (v:=i64 ((ho:Int)+1)) (vs:=[i64 ((ho:Int)+1)]) (cells':=[i64 ((ho:Int)+1)]) al rfl rfl rfl al hgh1 al rfl rfl ?_
    dsimp only
    rw[hsetH]
    refine aC ?_
    refine aS 10 mixed kr ?_
    by_cases y1:y.kind=1
    ·have f1:=decide_eq_true y1
     refine aG f1 ?_
     refine ag rfl ?_
     refine aC ?_
     refine ak ?_
     refine⟨_,al,false,q+1,ho+1,m,rfl,rfl,fun h=>(by cases h),fun _=>hsp ?_⟩
     rw[eG]
     rw[if_neg n56,if_neg k1,if_pos k2,hye]
     simp only
     rw[if_pos (.inl y1)]
    ·have f1:=decide_eq_false y1
     by_cases y2:x.n=(ho:Int)+1
     ·have f2:=decide_eq_true y2
      refine gU f1 f2 hgh2 ?_
      refine ae rfl ?_
      refine aG e2 ?_
      refine⟨hlt,(q+1,ho+1,m),aM,rfl,?_,hql,Nat.succ_le_succ hho⟩
      rw[hst,eG,if_neg n56,if_neg k1,if_pos k2,hye]
      simp only
      rw[if_neg (by simp [y1,y2])]
     ·have f2:=decide_eq_false y2
      refine gU f1 f2 hgh2 ?_
      refine ag rfl ?_
      refine aC ?_
      refine ak ?_
      refine⟨_,al,false,q+1,ho+1,m,rfl,rfl,fun h=>(by cases h),fun _=>hsp ?_⟩
      rw[eG]
      rw[if_neg n56,if_neg k1,if_pos k2,hye]
      simp only
      rw[if_pos (.inr y2)]
   have d2:=decide_eq_false k2
   refine aG d2 ?_
   refine ae rfl ?_
   refine aG e2 ?_
   refine⟨hlt,(q,ho,cy),aM,rfl,?_,hq,hho⟩
   rw[hst,eG,if_neg n56,if_neg k1,if_neg k2]
  ·have e3:=aT hlt
   obtain rfl:k=l.length:=by omega
   rw[List.take_length] at hfit
   refine aG e3 ?_
   refine ae rfl ?_
   refine aB ?_
   show CW _ _ _ _
   refine aC ?_
   refine ak ?_
   exact⟨_,al,true,q,ho,cy,rfl,rfl,fun _=>⟨hfit,hq,hho⟩,fun h=>(by cases h)⟩}
end
section
variable {h:ai} {r:Value} {d:bS}
def AK (d:bS) (x:DD):Prop:=∃ (k:Nat) (hk:k<d.aa.length),jf d.aa x.cons k∧∃ ho,j7 d.aa[k].an x.bl (0,0)=some (d.aa[k].an.length,ho)
def kD (d:bS):Prop:=(∀ x∈d.boxes,AK d x)∧(d.boxes.map (·.cons)).Nodup
structure Sf (d:bS) (es:List (ByteArray×Int)) (k:Nat):Prop where
 g:∀ x,dJ es x=if yM ((d.boxes.take k).map (·.cons)) x=true then 1 else 0
 o:∀ (i:Nat) (hi:i<d.boxes.length),i<k→AK d d.boxes[i]
 n:((d.boxes.take k).map (·.cons)).Nodup
theorem Sf.add {es:List (ByteArray×Int)} {k:Nat} (B:Sf d es k) (hk:k<d.boxes.length) (h0:dJ es d.boxes[k].cons=0) (ht:AK d d.boxes[k]):Sf d (dv es d.boxes[k].cons 1) (k+1):=by{
have hn:d.boxes[k].cons∉(d.boxes.take k).map (·.cons):=fun h=>by rw[B.g,if_pos (cO.2 h)] at h0;cases h0
refine⟨fun y=>?_,fun i hi h2=>?_,?_⟩
·rw[eT,B.g,eV hk]
 by_cases e:y=d.boxes[k].cons
 ·rw[if_pos e,if_pos (cO.2 (by rw[e];simp))]
 ·rw[if_neg e]
  by_cases q:y∈(d.boxes.take k).map (·.cons)
  ·rw[if_pos (cO.2 q),if_pos (cO.2 (List.mem_append_left _ q))]
  ·rw[if_neg (fun k=>q (cO.1 k)),if_neg (fun k=>?_)]
   rcases List.mem_append.1 (cO.1 k) with k|k
   ·exact q k
   ·exact e (List.mem_singleton.1 k)
·rcases (by omega:i<k∨i=k) with h4|rfl
 ·exact B.o i hi h4
 ·exact ht
·rw[eV hk,List.nodup_append]
 exact⟨B.n,by simp,fun a ha b hb e=>hn (by rw[← List.mem_singleton.1 hb,← e];exact ha)⟩}
theorem jf.lt {ps:List Prod} {n:ByteArray} {i:Int} (h:jf ps n i) (h0:0≤i):∃ (k:Nat) (hk:k<ps.length),i=(k:Int):=by{
rcases h with ⟨_,rfl⟩ | ⟨_,⟨k,hk,_,_,rfl⟩ | ⟨_,rfl⟩⟩
·omega
·exact⟨k,hk,rfl⟩
·omega}
theorem Mf (hk:Bk h r d) (hr:cA d=true):FW env 81 [r] h fun x h'=>iI (kD d) x∧h'=h:=by{
refine lZ ?_
have hk0:=hk
obtain⟨h0,ib,im,sv,up,uc,uf,ur,ub,rfl,hd,K⟩:=hk
have hd:=hd.mono K.p
obtain⟨p1,c1,p2,c2,p3,c3,p4,c4,p5,c5,rfl,rfl,rfl,rfl,rfl,l1,l2,l3,l4,l5⟩:=bo.form hd
obtain⟨es,hm,hes⟩:=K.m
have hb:=K.b
unfold bS.val at hb
simp only[List.cons_append,List.nil_append] at hb
have hkk:=bz es
have hss:bj h sv (aF d.aa):=K.s.sl (b:=16) (by have:=b8 (ps:=d.aa);have:=ct.le hd.aa;omega)
obtain⟨pq,cq,rfl⟩:=hss.form
refine fe Tryz.func81 ?_;simp only[push_cast]
refine zu ?_
iterate 2 (refine zx oA ?_)
refine zu ?_
refine kC (kt:=9) (et:=3) al rfl kr ?_
have hp0:h <+: h++[ax.map []]:=aJ
have hm0:(h++[ax.map []])[h.length]? = some (.map (fK [])):=aK
have hb1:=af hp0 hb
have him0:h.length≤h.length:=Nat.le_refl _
generalize (h++[ax.map []])=h2 at hp0 hm0 hb1 ⊢
generalize him:h.length=im at hm0 him0 ⊢
refine aG hb1 ?_
refine aX d.boxes.length (fun k (x:ai×List (ByteArray×Int))=>[(0,.val (.pointer (some ⟨ib,0,some 0⟩))),(4,.val (.map (some im))),(15,.val (.slice p5 d.boxes.length c5)),(16,.val (i64 d.boxes.length)),(17,.val (i64 k))]) (fun _ x=>x.1)
 (fun k x=>h <+: x.1∧x.1[im]? = some (.map (fK x.2))∧Sf d x.2 k) (h2,[]) aM rfl ⟨hp0,hm0,⟨fun x=>rfl,fun i _ hi=>absurd hi om,.nil⟩⟩ ?_
rintro k ⟨hk4,es⟩ hkn ⟨hp,hm,hB⟩
simp only at hp hm hB ⊢
by_cases hlt:k<d.boxes.length
·obtain⟨id,av,own,c',cells,u,hv,hid0,hrd,hu⟩:=ct.at (k:=2) (fun _ _=>rfl) hd.boxes hlt
 cases hv
 have hid:=af hp hid0
 have hu0:=hu
 obtain⟨ps,cs,rfl⟩:=ct.form (bh.iff.1 hu)
 have w1:=cz hlt
 have w2:=inc hlt l5
 have q3:=aU hlt
 have hb4:=af hp hb
 have hkk:=bz es
 have hmem:=List.getElem_mem hlt
 refine aG q3 ?_
 refine ag rfl ?_
 refine gU w1 hid hrd ?_
 refine aS 6 mixed kr ?_
 refine aG hb4 ?_
 refine zj Tryz.func24 ?_
 refine (lP (hd.mono hp)).mono ?_
 rintro _ h5 ⟨⟨ci,hci,rfl⟩,e5⟩
 obtain rfl:=e5.symm
 have hgx:=hB.g d.boxes[k].cons
 have hdup:d.boxes[k].cons∈(d.boxes.take k).map (·.cons)→¬ kD d:=fun hin hbo=>by
  have h1:=hbo.2
  rw[← List.take_append_drop (k+1) d.boxes,List.map_append,eV hlt] at h1
  have h2:=(List.nodup_append.1 h1).1
  exact (List.nodup_append.1 h2).2.2 _ hin _ (List.mem_singleton.2 rfl) rfl
 have hneg:ci<0→¬ kD d:=fun hc hbo=>by
  obtain⟨kk,_,h2,_⟩:=hbo.1 _ hmem
  have:=hci.wM h2
  omega
 by_cases hin:d.boxes[k].cons∈(d.boxes.take k).map (·.cons)
 ·rw[if_pos (cO.2 hin)] at hgx
  have hg:=(fi es d.boxes[k].cons).resolve_left (fun h=>by rw[hgx] at h;exact absurd h.2 (by decide))
  rw[hgx] at hg
  have w9:IntKind.i64.wrap (1+1)=2:=by decide
  refine fN hm hg hkk w9 ?_
  refine fF (kt:=9) (et:=3) (kd:=eP) al rfl rfl kr rfl al hm al al rfl hkk ?_
  dsimp only
  rw[dR]
  have hp6:h <+: hk4.set im (.map (fK (dv es d.boxes[k].cons 2))):=aZ hp om
  have hm6:(hk4.set im (.map (fK (dv es d.boxes[k].cons 2))))[im]? = some (.map (fK (dv es d.boxes[k].cons 2))):=aw hm
  have hg6:gK (fK (dv es d.boxes[k].cons 2)) (.string d.boxes[k].cons)=some (i64 2):=by rw[nL,lM,if_pos rfl];rfl
  have hkk6:=bz (dv es d.boxes[k].cons 2)
  generalize (dv es d.boxes[k].cons 2)=es6 at hp6 hm6 hg6 hkk6 ⊢
  generalize (hk4.set im (ax.map (fK es6)))=h6 at hp6 hm6 ⊢
  by_cases qc:ci<0
  ·have dc:=decide_eq_true qc
   refine aG dc ?_
   refine ag rfl ?_
   refine aC ?_
   refine aS 3 mixed kr ?_
   refine aC ?_
   refine ak ?_
   refine⟨_,al,⟨52,_,rfl,⟨fun h=>(by cases h),fun h=>absurd h (hneg qc)⟩⟩,hp6⟩
  ·have dc:=decide_eq_false qc
   refine fN dc hm6 hg6 hkk6 ?_
   refine ag rfl ?_
   refine aC ?_
   refine aS 3 mixed kr ?_
   refine aC ?_
   refine ak ?_
   refine⟨_,al,⟨52,_,rfl,⟨fun h=>(by cases h),fun h=>absurd h (hdup hin)⟩⟩,hp6⟩
 ·rw[if_neg (fun k=>hin (cO.1 k))] at hgx
  have hB':=hB.add hlt hgx
  have w9:IntKind.i64.wrap (0+1)=1:=by decide
  iterate 1 (refine zx oA ?_)
  apply zn
  show CW _ _ _ _
  apply zs
  refine CW.mono (Q:=fun e s'=>e = .normal∧s'.h=hk4.set im (.map (fK (dv es d.boxes[k].cons 1)))∧bD [(0,.val (.pointer (some ⟨ib,0,some 0⟩))),(4,.val (.map (some im))),(6,.box [.string d.boxes[k].cons,.slice ps d.boxes[k].bl.length cs]),(7,.val (i64 ci)),(15,.val (.slice (some ⟨id,0,some av⟩) d.boxes.length c5)),(16,.val (i64 d.boxes.length)),(17,.val (i64 k))] s'.fr) ?_ ?_
  ·rcases fi es d.boxes[k].cons with ⟨hg,_⟩ | hg
   ·refine fN hm hg hkk w9 ?_
    refine fF (kt:=9) (et:=3) (kd:=eP) al rfl rfl kr rfl al hm al al rfl hkk ?_
    dsimp only
    rw[dR]
    refine aC ?_
    exact⟨rfl,rfl,aM⟩
   ·rw[hgx] at hg
    refine fN hm hg hkk w9 ?_
    refine fF (kt:=9) (et:=3) (kd:=eP) al rfl rfl kr rfl al hm al al rfl hkk ?_
    dsimp only
    rw[dR]
    refine aC ?_
    exact⟨rfl,rfl,aM⟩
  rintro e s' ⟨rfl,hh,hf⟩
  show CW _ _ _ _
  refine aA _ hf ?_
  rw[hh]
  clear hf hh s'
  have hp6:h <+: hk4.set im (.map (fK (dv es d.boxes[k].cons 1))):=aZ hp om
  have hm6:(hk4.set im (.map (fK (dv es d.boxes[k].cons 1))))[im]? = some (.map (fK (dv es d.boxes[k].cons 1))):=aw hm
  have hg6:gK (fK (dv es d.boxes[k].cons 1)) (.string d.boxes[k].cons)=some (i64 1):=by rw[nL,lM,if_pos rfl];rfl
  have hkk6:=bz (dv es d.boxes[k].cons 1)
  generalize (dv es d.boxes[k].cons 1)=es6 at hp6 hm6 hg6 hkk6 hB' ⊢
  generalize (hk4.set im (ax.map (fK es6)))=h6 at hp6 hm6 ⊢
  by_cases qc:ci<0
  ·have dc:=decide_eq_true qc
   refine aG dc ?_
   refine ag rfl ?_
   refine aC ?_
   refine aS 3 mixed kr ?_
   refine aC ?_
   refine ak ?_
   refine⟨_,al,⟨52,_,rfl,⟨fun h=>(by cases h),fun h=>absurd h (hneg qc)⟩⟩,hp6⟩
  have dc:=decide_eq_false qc
  obtain⟨kk,hkl,rfl⟩:=hci.lt om
  obtain⟨idp,verp,ownp,cp',cellsp,up,hvp,hidp0,hrdp,hup⟩:=ct.at (k:=5) (fun _ _=>rfl) hd.aa hkl
  cases hvp
  have hidp:=af hp6 hidp0
  have hup:fB h up d.aa[kk].an:=hup
  have hrp:cD d.aa[kk]=true:=by
   unfold cA at hr
   simp only[Bool.and_eq_true] at hr
   exact List.all_eq_true.1 hr.2.1 _ (List.getElem_mem hkl)
  have hsl:d.aa[kk].an.length≠0∧d.aa[kk].an.length≤12:=by
   unfold cD at hrp
   simp only[Bool.and_eq_true,decide_eq_true_eq] at hrp
   exact hrp.1.2.2
  obtain⟨idy,very,owny,cy,hvy,hidy⟩:=bT.at hup om
  subst hvy
  have hg4:=dE (j:=4) hrdp om
  simp only[List.getElem?_cons_succ,List.getElem?_cons_zero] at hg4
  have hb6:=af hp6 hb
  have wk:=cz hkl
  generalize hPk:d.aa[kk]=P at hrdp hg4 hup hidy hsl
  refine fN dc hm6 hg6 hkk6 ?_
  refine ae rfl ?_
  refine zu ?_
  iterate 9 (refine zx (UX hb6 wk hidp hg4) ?_)
  refine dK (t:=49) (cs:=[aH]) al al ?_
  dsimp only[St.a9,St.put]
  refine bY (v:=.slice (some ⟨idy,0,some very⟩) P.an.length cy) (vs:=[.slice (some ⟨idy,0,some very⟩) P.an.length cy]) (cells':=[.slice (some ⟨idy,0,some very⟩) P.an.length cy]) al rfl rfl rfl al aK al rfl rfl ?_
  dsimp only
  have hset1:(h6++[ax.aq [aH] 0 true 49]).set h6.length (.aq [.slice (some ⟨idy,0,some very⟩) P.an.length cy] 0 true 49)=h6++[.aq [.slice (some ⟨idy,0,some very⟩) P.an.length cy] 0 true 49]:=by simp
  rw[hset1]
  obtain⟨h7,hh7⟩:∃ h7,h7=h6++[ax.aq [.slice (some ⟨idy,0,some very⟩) P.an.length cy] 0 true 49]:=⟨_,rfl⟩
  have hp7:h6 <+: h7:=hh7▸aJ
  have hy7:h7[h6.length]? = some (.aq [.slice (some ⟨idy,0,some very⟩) P.an.length cy] 0 true 49):=hh7▸aK
  have hl7:h7.length=h6.length+1:=by rw[hh7];simp
  rw[← hh7]
  refine zu ?_
  refine dK (t:=3) (cs:=[i64 0]) al al ?_
  dsimp only[St.a9,St.put]
  refine bY (v:=i64 0) (vs:=[i64 0]) (cells':=[i64 0]) al rfl rfl rfl al aK al rfl rfl ?_
  dsimp only
  have hset2:(h7++[ax.aq [i64 0] 0 true 3]).set h7.length (.aq [i64 0] 0 true 3)=h7++[.aq [i64 0] 0 true 3]:=by simp
  rw[hset2]
  obtain⟨h8,hh8⟩:∃ h8,h8=h7++[ax.aq [i64 0] 0 true 3]:=⟨_,rfl⟩
  have hp8:h7 <+: h8:=hh8▸aJ
  have hh9:h8[h7.length]? = some (.aq [i64 0] 0 true 3):=hh8▸aK
  have hl8:h8.length=h7.length+1:=by rw[hh8];simp
  rw[← hh8]
  have hy8:=af hp8 hy7
  have hm8:=af (hp7.trans hp8) hm6
  have hpp:=hp6.trans (hp7.trans hp8)
  have hlen6:=hp6.length_le
  have him6:=dw hm6
  clear hh7 hh8 hset1 hset2
  have hfH:h8=fy h8 P.an idy very h6.length h7.length 0 0 cy:=by
   unfold fy
   rw[Nat.zero_mul,Nat.sub_zero,lY hy8,show (((0:Nat):Int))=0 from rfl,lY hh9]
  have hNo:(∀ ho,j7 P.an d.boxes[k].bl (0,0)≠some (P.an.length,ho))→¬ kD d:=fun hn hbo=>by
   obtain⟨k2,hk2,h3,ho,h4⟩:=hbo.1 _ hmem
   have:=h3.wM hci
   obtain rfl:k2=kk:=by omega
   rw[hPk] at h4
   exact hn ho h4
  refine aC ?_
  refine zj Tryz.func137 ?_
  refine (Jw hu0 hidy om om om om hpp hfH om om (Nat.zero_le _) (Nat.le_refl _)).mono ?_
  rintro _ h9 ⟨b',q',ho',c3,rfl,rfl,g1,g2⟩
  have hgy9:=Be (h:=h8) (Y:=P.an) (id:=idy) (av:=very) (iy:=h6.length) (ih:=h7.length) (q:=q') (ho:=ho') (c:=c3) om om
  have hp9:h <+: fy h8 P.an idy very h6.length h7.length q' ho' c3:=aZ (aZ hpp om) om
  have hm9:(fy h8 P.an idy very h6.length h7.length q' ho' c3)[im]? = some (.map (fK es6)):=by
   unfold fy
   rw[aD om,aD om]
   exact hm8
  generalize fy h8 P.an idy very h6.length h7.length q' ho' c3=h9 at hgy9 hp9 hm9 ⊢
  cases b' with
  | false=>
    have hN2:¬ kD d:=hNo fun ho=>by
     rw[g2 rfl]
     simp
    refine aC ?_
    refine ag rfl ?_
    refine aC ?_
    refine aS 3 mixed kr ?_
    refine aC ?_
    refine ak ?_
    refine⟨_,al,⟨52,_,rfl,⟨fun h=>(by cases h),fun h=>absurd h hN2⟩⟩,hp9⟩
  | true=>
    obtain⟨g3,g4,g5⟩:=g1 rfl
    by_cases qe:q'=P.an.length
    ·have hm0:P.an.length-q'=0:=by omega
     rw[hm0] at hgy9
     refine aG hgy9 ?_
     refine ae rfl ?_
     refine aG w2 ?_
     exact⟨hlt,(h9,es6),aM,rfl,hp9,hm9,hB' ⟨kk,hkl,hci,ho',by rw[hPk,← qe];exact qe ▸ g3⟩⟩
    ·obtain⟨m,hm⟩:∃ m,P.an.length-q'=m+1:=⟨P.an.length-q'-1,by omega⟩
     rw[hm] at hgy9
     have dm:decide ((0:Int)<(m:Int)+1)=true:=decide_eq_true om
     refine fz hgy9 dm ?_
     refine ag rfl ?_
     have hN2:¬ kD d:=hNo fun ho he=>by
      rw[g3] at he
      cases he
      exact qe rfl
     refine aC ?_
     refine aS 3 mixed kr ?_
     refine aC ?_
     refine ak ?_
     refine⟨_,al,⟨52,_,rfl,⟨fun h=>(by cases h),fun h=>absurd h hN2⟩⟩,hp9⟩
·have e3:=aT hlt
 obtain rfl:k=d.boxes.length:=by omega
 refine aG e3 ?_
 refine ae rfl ?_
 refine aB ?_
 show CW _ _ _ _
 refine aC ?_
 refine ak ?_
 refine⟨_,al,⟨0,_,rfl,fun _=>⟨fun x hx=>?_,?_⟩,fun _=>rfl⟩,hp⟩
 ·obtain⟨i,hi,rfl⟩:=List.getElem_of_mem hx
  exact hB.o i hi hi
 ·have:=hB.n
  rw[List.take_length] at this
  exact this}
end
section
variable {h:ai} {r:Value} {d:bS} {up uc uf ur ub:Value}
theorem qT {g:FuncId} {er:Int}:FW env 71 [i64 er,.func (.func g) #[] #[]] h fun x h'=>∃ i1 i2,x = .func (.func 129) #[] #[.pointer (some ⟨i1,0,some 0⟩),.pointer (some ⟨i2,0,some 0⟩)]∧h <+: h'∧h'[i1]? = some (.aq [.func (.func g) #[] #[]] 0 true 142)∧h'[i2]? = some (.aq [i64 er] 0 true 44):=by{
refine fe Tryz.func71 ?_;simp only[push_cast]
refine zu ?_
refine dK (t:=44) (cs:=[i64 er]) al al ?_
dsimp only[St.a9,St.put]
have hp1:h <+: h++[ax.aq [i64 er] 0 true 44]:=aJ
have hx2:(h++[ax.aq [i64 er] 0 true 44])[h.length]? = some (.aq [i64 er] 0 true 44):=aK
generalize (h++[ax.aq [i64 er] 0 true 44])=h1 at hp1 hx2 ⊢
generalize h.length=i2 at hx2 ⊢
refine dK (t:=142) (cs:=[.func (.func g) #[] #[]]) al al ?_
dsimp only[St.a9,St.put]
have hp2:h1 <+: h1++[ax.aq [.func (.func g) #[] #[]] 0 true 142]:=aJ
have hx1:(h1++[ax.aq [.func (.func g) #[] #[]] 0 true 142])[h1.length]? = some (.aq [.func (.func g) #[] #[]] 0 true 142):=aK
generalize (h1++[ax.aq [.func (.func g) #[] #[]] 0 true 142])=h2 at hp2 hx1 ⊢
generalize h1.length=i1 at hx1 ⊢
refine aC ?_
refine ak ?_
exact⟨_,al,i1,i2,rfl,hp1.trans hp2,hx1,af hp2 hx2⟩}
def Br (d:bS):Nat→Prop
 | 0=>cA d=true
 | 1=>∀ s∈aF d.aa,cI d.aa s≠3
 | 2=>cI d.aa d.start=2∧(d.layout.size=0∨cI d.aa d.layout=1)
 | 3=>∀ s∈fw d,cI d.aa s≠0
 | 4=>∀ p∈d.aa,p.an.any (jM d p.lex)=false
 | 5=>Gb d.aa
 | 6=>∀ p∈d.aa,rN p=false
 | 7=>∀ p∈d.aa,xj d p=false
 | 8=>∀ p∈d.aa,(p.an.any (fun s=>decide (s.kind=1)&&decide (s.text=⟨#[]⟩))||p.an.all fm)=false
 | 9=>∀ s∈aF d.aa,¬ tD d.aa (fun p=>jw p.an) s s
 | 10=>sU d
 | 11=>sq d
 | 12=>∀ f∈d.follows,jA f.set=false
 | _=>kD d
def iZ (d:bS):Prop:=∀ k,k<14→Br d k
def Py (h:ai) (r:Value) (v:Value) (P:Prop):Prop:=∃ g fn cap,v = .func (.func g) #[] (List.toArray cap)∧env.P.funcs[g]? = some fn∧(fn.name == "runtime.NumGoroutine")=false∧fn.body.isNone=false∧FW env g (r :: cap) h (fun x h'=>iI P x∧h'=h)
theorem sO (hr:cA d=true) {p:Prod} (hp:p∈d.aa):p.an.length≠0∧p.an.length≤12:=by{
unfold cA at hr
simp only[Bool.and_eq_true] at hr
have hrp:=List.all_eq_true.1 hr.2.1 _ hp
unfold cD at hrp
simp only[Bool.and_eq_true,decide_eq_true_eq] at hrp
exact hrp.1.2.2}
abbrev Gy (g:FuncId):Value:=.func (.func g) #[] #[]
abbrev A6 (i1 i2:Nat):Value:=.func (.func 129) #[] #[.pointer (some ⟨i1,0,some 0⟩),.pointer (some ⟨i2,0,some 0⟩)]
def lD (a1 a2 b1 b2 c1 c2 d1 d2:Nat):List Value:=[Gy 67,Gy 68,Gy 69,Gy 70,A6 a1 a2,Gy 73,A6 b1 b2,A6 c1 c2,A6 d1 d2,Gy 77,Gy 78,Gy 79,Gy 80,Gy 81]
def lr (h:ai) (i1 i2:Nat) (g:FuncId) (er:Int):Prop:=h[i1]? = some (.aq [.func (.func g) #[] #[]] 0 true 142)∧h[i2]? = some (.aq [i64 er] 0 true 44)
theorem lr.mono {h h':ai} {i1 i2:Nat} {g:FuncId} {er:Int} (k:lr h i1 i2 g er) (hp:h <+: h'):lr h' i1 i2 g er:=⟨af hp k.1,af hp k.2⟩
theorem Ex (hk:Bk h r d) (hw:ou d) (hpn:cA d=true→cX d≤160) {a1 a2 b1 b2 c1 c2 d1 d2:Nat} (ha:lr h a1 a2 72 44) (hb:lr h b1 b2 74 46) (hc:lr h c1 c2 75 2) (hd:lr h d1 d2 76 47) : ∀ (k:Nat) (v:Value),(lD a1 a2 b1 b2 c1 c2 d1 d2)[k]? = some v→(∀ j,j<k→Br d j)→Py h r v (Br d k):=by{
intro k v hv hP
match k,hv,hP with
| 0,hv,hP=>cases hv;exact⟨67,Tryz.f67,[],rfl,Tryz.func67,by kernel_rfl,by kernel_rfl,Ip hk hw⟩
| 1,hv,hP=>cases hv;exact⟨68,Tryz.f68,[],rfl,Tryz.func68,by kernel_rfl,by kernel_rfl,DM hk⟩
| 2,hv,hP=>cases hv;exact⟨69,Tryz.f69,[],rfl,Tryz.func69,by kernel_rfl,by kernel_rfl,HK hk⟩
| 3,hv,hP=>cases hv;exact⟨70,Tryz.f70,[],rfl,Tryz.func70,by kernel_rfl,by kernel_rfl,lZ (wX hk (hpn (hP 0 (by decide))))⟩
| 4,hv,hP=>cases hv;exact⟨129,Tryz.f129,[.pointer (some ⟨_,0,some 0⟩),.pointer (some ⟨_,0,some 0⟩)],rfl,Tryz.func129,by kernel_rfl,by kernel_rfl,nQ hk Tryz.func72 kr kr ha.1 ha.2 (by decide) (fun p _ u hy=>HS hk hy)⟩
| 5,hv,hP=>cases hv;exact⟨73,Tryz.f73,[],rfl,Tryz.func73,by kernel_rfl,by kernel_rfl,DT hk⟩
| 6,hv,hP=>cases hv;exact⟨129,Tryz.f129,[.pointer (some ⟨_,0,some 0⟩),.pointer (some ⟨_,0,some 0⟩)],rfl,Tryz.func129,by kernel_rfl,by kernel_rfl,nQ hk Tryz.func74 kr kr hb.1 hb.2 (by decide) (fun p _ u hy=>zD hy)⟩
| 7,hv,hP=>cases hv;exact⟨129,Tryz.f129,[.pointer (some ⟨_,0,some 0⟩),.pointer (some ⟨_,0,some 0⟩)],rfl,Tryz.func129,by kernel_rfl,by kernel_rfl,nQ hk Tryz.func75 kr kr hc.1 hc.2 (by decide) (fun p hp u hy=>IU hk hy (hw.aa p hp) (by have:=(sO (hP 0 (by decide)) hp).2;omega))⟩
| 8,hv,hP=>cases hv;exact⟨129,Tryz.f129,[.pointer (some ⟨_,0,some 0⟩),.pointer (some ⟨_,0,some 0⟩)],rfl,Tryz.func129,by kernel_rfl,by kernel_rfl,nQ hk Tryz.func76 kr kr hd.1 hd.2 (by decide) (fun p _ u hy=>Hw hy)⟩
| 9,hv,hP=>cases hv;exact⟨77,Tryz.f77,[],rfl,Tryz.func77,by kernel_rfl,by kernel_rfl,Fk hk (hpn (hP 0 (by decide)))⟩
| 10,hv,hP=>cases hv;exact⟨78,Tryz.f78,[],rfl,Tryz.func78,by kernel_rfl,by kernel_rfl,CY hk (hpn (hP 0 (by decide)))⟩
| 11,hv,hP=>cases hv;exact⟨79,Tryz.f79,[],rfl,Tryz.func79,by kernel_rfl,by kernel_rfl,Hv hk⟩
| 12,hv,hP=>cases hv;exact⟨80,Tryz.f80,[],rfl,Tryz.func80,by kernel_rfl,by kernel_rfl,CB hk⟩
| 13,hv,hP=>cases hv;exact⟨81,Tryz.f81,[],rfl,Tryz.func81,by kernel_rfl,by kernel_rfl,Mf hk (hP 0 (by decide))⟩
| k+14,hv,hP=>simp [lD] at hv}
theorem FK (hd:bo h d up uc uf ur ub) (hw:ou d) (hpn:cA d=true→cX d≤160):FW env 31 [.agg (d.val up uc uf ur ub).toArray] h fun x h'=>iI (iZ d) x∧h'=h:=by{
refine lZ ?_
have hO:=Bv hd
have hd0:=hd
obtain⟨p1,c1,p2,c2,p3,c3,p4,c4,p5,c5,rfl,rfl,rfl,rfl,rfl,l1,l2,l3,l4,l5⟩:=bo.form hd
refine fe Tryz.func31 ?_;simp only[push_cast]
unfold bS.val at hO ⊢
refine aC ?_
refine zj Tryz.func66 ?_
refine hO.mono ?_
rintro _ h1 ⟨ib,im,sv,rfl,hBk⟩
have hp1:=hBk.p
have hk:Bk h1 (.pointer (some ⟨ib,0,some 0⟩)) d:=⟨h,ib,im,sv,_,_,_,_,_,rfl,hd0,hBk⟩
clear hBk
refine aC ?_
refine zj Tryz.func71 ?_
refine (qT (g:=72) (er:=44)).mono ?_
rintro _ h2 ⟨a1,a2,rfl,hp2,ha1,ha2⟩
have ha:lr h2 a1 a2 _ _:=⟨ha1,ha2⟩
refine aC ?_
refine zj Tryz.func71 ?_
refine (qT (g:=74) (er:=46)).mono ?_
rintro _ h3 ⟨b1,b2,rfl,hp3,hb1,hb2⟩
have hb:lr h3 b1 b2 _ _:=⟨hb1,hb2⟩
have ha:=ha.mono hp3
refine aC ?_
refine zj Tryz.func71 ?_
refine (qT (g:=75) (er:=2)).mono ?_
rintro _ h4 ⟨e1,e2,rfl,hp4,hc1,hc2⟩
have hc:lr h4 e1 e2 _ _:=⟨hc1,hc2⟩
have ha:=ha.mono hp4
have hb:=hb.mono hp4
refine aC ?_
refine zj Tryz.func71 ?_
refine (qT (g:=76) (er:=47)).mono ?_
rintro _ h5 ⟨d1,d2,rfl,hp5,hd1,hd2⟩
have hdd:lr h5 d1 d2 _ _:=⟨hd1,hd2⟩
have ha:=ha.mono hp5
have hb:=hb.mono hp5
have hc:=hc.mono hp5
refine cV (t:=140) (cs:=lD a1 a2 b1 b2 e1 e2 d1 d2) (n:=14) al kr ?_
dsimp only[St.a9,St.put]
have hp6:h5 <+: h5++[ax.aq (lD a1 a2 b1 b2 e1 e2 d1 d2) 0 true 140]:=aJ
have hL:(h5++[ax.aq (lD a1 a2 b1 b2 e1 e2 d1 d2) 0 true 140])[h5.length]? = some (.aq (lD a1 a2 b1 b2 e1 e2 d1 d2) 0 true 140):=aK
generalize (h5++[ax.aq (lD a1 a2 b1 b2 e1 e2 d1 d2) 0 true 140])=h6 at hp6 hL ⊢
generalize h5.length=iL at hL ⊢
have hp26:=((hp3.trans hp4).trans hp5).trans hp6
have hk6:=hk.mono (hp2.trans hp26)
have hlo:=Ex hk6 hw hpn (ha.mono hp6) (hb.mono hp6) (hc.mono hp6) (hdd.mono hp6)
have hpp:h <+: h6:=hp1.trans (hp2.trans hp26)
generalize hLL:lD a1 a2 b1 b2 e1 e2 d1 d2=L at hL hlo
have hLn:L.length=14:=by rw[← hLL];rfl
refine aC ?_
obtain⟨n,hn⟩:∃ n:Nat,n=14:=⟨14,rfl⟩
refine dC n (fun k=>[(4,.val (.pointer (some ⟨ib,0,some 0⟩))),(17,.val (.slice (some ⟨iL,0,some 0⟩) n n)),(18,.val (i64 n)),(19,.val (i64 k))]) (fun _=>h6) (fun k=>∀ j,j<k→Br d j) (by rw[hn];exact (by simp only[push_cast,Nat.reduceEqDiff,reduceIte,Int.reduceAdd])) rfl (fun j hj=>absurd hj om) ?_
intro k hkn hall
by_cases hlt:k<n
·have hLk:L[k]? = some L[k]:=List.getElem?_eq_getElem om
 obtain⟨g,fn,cap,hv,hf,hnm,hbd,hF⟩:=hlo k _ hLk hall
 rw[hv] at hLk
 have v1:=cz hlt
 have v2:=inc hlt om
 have v3:=aU hlt
 refine aG v3 ?_
 refine ag rfl ?_
 refine fN v1 hL hLk Nat.mul_one ?_
 refine zc (f:=g) (cap:=cap) (args:=[.pointer (some ⟨ib,0,some 0⟩)]) (fn:=fn) al hf hnm hbd ?_
 refine hF.mono ?_
 rintro _ h7 ⟨⟨e,w,rfl,he⟩,e7⟩
 obtain rfl:=e7.symm
 by_cases q:e=0
 ·have dq:=decide_eq_true q
  refine aG dq ?_
  refine ae rfl ?_
  refine aG v2 ?_
  refine⟨hlt,aM,rfl,fun j hj=>?_⟩
  rcases (by omega:j<k∨j=k) with h4|rfl
  ·exact hall j h4
  ·exact he.1 q
 ·have dq:=decide_eq_false q
  refine aG dq ?_
  refine ag rfl ?_
  refine aC ?_
  refine ak ?_
  exact⟨_,al,⟨e,w,rfl,⟨fun h=>absurd h q,fun h=>absurd (he.2 (h k om)) q⟩⟩,hpp⟩
·have v3:=aT hlt
 obtain rfl:k=n:=by omega
 refine aG v3 ?_
 refine ae rfl ?_
 refine aB ?_
 show CW _ _ _ _
 refine aC ?_
 refine ak ?_
 exact⟨_,al,⟨0,_,rfl,fun _ k hk=>hall k om,fun _=>rfl⟩,hpp⟩}
end
structure bM where
 lex:Bool
 name:ByteArray
 set:a8
 sep:ByteArray
 deriving DecidableEq
abbrev bM.val (k:bM):Value:=.agg #[.bool k.lex,.string k.name,u64 k.set.a,u64 k.set.b,u64 k.set.c,u64 k.set.d,.string k.sep]
def bM.cells (k:bM):List Value:=[.bool k.lex,.string k.name,u64 k.set.a,u64 k.set.b,u64 k.set.c,u64 k.set.d,.string k.sep]
def gV (s:Sym):Bool:=decide (s.kind=5)||decide (s.kind=6)
def iF (lex:Bool) (s:Sym):bM:=⟨lex,s.name,s.set,s.sep⟩
def addKey (l:List bM) (k:bM):List bM:=if k∈l then l else l++[k]
def fa (lex:Bool) (l:List bM) (s:Sym):List bM:=if gV s=true then addKey l (iF lex s) else l
def gS (lex:Bool) (l:List bM) (ys:List Sym):List bM:=ys.foldl (fa lex) l
def br (ps:List Prod):List bM:=ps.foldl (fun l p=>gS p.lex l p.an) []
theorem Af {lex:Bool} {l:List bM} {ys:List Sym} {k:Nat} (hk:k<ys.length):gS lex l (ys.take (k+1))=fa lex (gS lex l (ys.take k)) ys[k]:=by{
unfold gS
rw[List.take_succ_eq_append_getElem hk,List.foldl_append]
rfl}
theorem zm {ps:List Prod} {k:Nat} (hk:k<ps.length):br (ps.take (k+1))=gS ps[k].lex (br (ps.take k)) ps[k].an:=by{
unfold br
rw[List.take_succ_eq_append_getElem hk,List.foldl_append]
rfl}
theorem yO {lex:Bool} {l:List bM} {s:Sym} {k:bM}:k∈fa lex l s↔k∈l∨(gV s=true∧k=iF lex s):=by{
unfold fa addKey
by_cases h:gV s=true
·rw[if_pos h]
 by_cases q:iF lex s∈l
 ·rw[if_pos q]
  exact⟨.inl,fun h=>h.elim id fun h=>h.2▸q⟩
 ·rw[if_neg q,List.mem_append,List.mem_singleton]
  exact⟨fun h'=>h'.imp id fun e=>⟨h,e⟩,fun h'=>h'.imp id fun e=>e.2⟩
·rw[if_neg h]
 exact⟨.inl,fun h'=>h'.elim id fun e=>absurd e.1 h⟩}
theorem tU {lex:Bool} {k:bM}:∀ {ys:List Sym} {l:List bM},k∈gS lex l ys↔k∈l∨∃ s∈ys,gV s=true∧k=iF lex s
 | [],l=>by simp [gS]
 | s :: ys,l=>by
   have ih:=tU (lex:=lex) (k:=k) (ys:=ys) (l:=fa lex l s)
   unfold gS at ih ⊢
   rw[List.foldl_cons,ih,yO]
   simp only[List.mem_cons,exists_eq_or_imp]
   exact or_assoc
theorem tX {k:bM}:∀ {ps:List Prod} {l:List bM},k∈ps.foldl (fun l p=>gS p.lex l p.an) l↔k∈l∨∃ p∈ps,∃ s∈p.an,gV s=true∧k=iF p.lex s
 | [],l=>by simp
 | p :: ps,l=>by
   rw[List.foldl_cons,tX (ps:=ps),tU]
   simp only[List.mem_cons,exists_eq_or_imp]
   exact or_assoc
theorem mem_keys {k:bM} {ps:List Prod}:k∈br ps↔∃ p∈ps,∃ s∈p.an,gV s=true∧k=iF p.lex s:=by{
unfold br
rw[tX]
simp}
theorem pQ:∀ {ps:List Prod} {l:List ByteArray},l.Nodup→(ps.foldl fM l).Nodup
 | [],l,h=>h
 | p :: ps,l,h=>by
   rw[List.foldl_cons]
   refine pQ ?_
   unfold fM
   split
   ·exact h
   ·rename_i q
    rw[List.nodup_append]
    exact⟨h,by simp,fun a ha b hb e=>q (cO.2 (by rw[← List.mem_singleton.1 hb,← e];exact ha))⟩
theorem tR {ps:List Prod}:(aF ps).Nodup:=pQ List.nodup_nil
theorem pk {lex:Bool}:∀ {ys:List Sym} {l:List bM},(gS lex l ys).length≤l.length+ys.length
 | [],l=>by simp [gS]
 | s :: ys,l=>by
   have ih:=pk (lex:=lex) (ys:=ys) (l:=fa lex l s)
   have h:(fa lex l s).length≤l.length+1:=by
    unfold fa addKey
    split
    ·split<;>simp
    ·simp
   unfold gS at ih ⊢
   rw[List.foldl_cons,List.length_cons]
   omega
theorem l8:∀ {ps:List Prod} {l:List bM},(ps.foldl (fun l p=>gS p.lex l p.an) l).length≤l.length+cM (fun p=>p.an.length) ps
 | [],l=>by simp
 | p :: ps,l=>by
   have ih:=l8 (ps:=ps) (l:=gS p.lex l p.an)
   have h:=pk (lex:=p.lex) (ys:=p.an) (l:=l)
   unfold cM at *
   simp only[List.foldl_cons,List.map_cons,List.sum_cons]
   omega
def nS (d:bS):Nat:=(aF d.aa).length
def nK (d:bS):Nat:=(br d.aa).length
def gJ (d:bS) (s:ByteArray):Nat:=(aF d.aa).idxOf s
def mY (d:bS) (k:bM):Nat:=nS d+(br d.aa).idxOf k
def bQ (d:bS):Int:=if cY d.layout=true then -1 else ((nS d+nK d:Nat):Int)
def eg (d:bS):Nat:=nS d+nK d+(if cY d.layout=true then 0 else 1)
def aV (d:bS):Nat:=eg d+1
def kX (b:Nat):a8:=⟨if b / 64=0 then 2 ^ (b % 64) else 0,if b / 64=1 then 2 ^ (b % 64) else 0,if b / 64=2 then 2 ^ (b % 64) else 0,if b / 64=3 then 2 ^ (b % 64) else 0⟩
def vZ:a8:=⟨0,0,0,0⟩
def dY (n:Int):be:=⟨n,vZ⟩
def k9 (t:ByteArray):List be:=(List.range t.size).map fun i=>⟨-1,kX (bn t i)⟩
def mo (d:bS) (name:ByteArray) (set:a8):be:=if cY name=true then ⟨-1,set⟩ else dY (gJ d name)
def jS (d:bS) (lex:Bool) (s:Sym):List be:=if s.kind=1 then k9 s.text else if gV s=true then [dY (mY d (iF lex s))] else [mo d s.name s.set]
structure wS where
 mask:Nat
 rhs:List be
 os:List Int
def mR (d:bS) (lex:Bool) (rhs:List be):Bool:=!rhs.isEmpty&&(!lex && !cY d.layout)
def iv (d:bS) (lex:Bool) (r:wS) (i:Nat) (s:Sym):wS:=
 ⟨r.mask,r.rhs++(if mR d lex r.rhs=true then [dY (bQ d)] else [])++jS d lex s,r.os++(if mR d lex r.rhs=true then [-1] else [])++List.replicate (jS d lex s).length (i:Int)⟩
def jY (d:bS) (lex:Bool) (r:wS) (i:Nat) (s:Sym):wS:=
 if fm s=true then (if r.mask % 2=0 then ⟨r.mask / 2,r.rhs,r.os⟩ else iv d lex ⟨r.mask / 2,r.rhs,r.os⟩ i s) else iv d lex r i s
def dN (d:bS) (p:Prod) (mask:Nat):Nat→wS
 | 0=>⟨mask,[],[]⟩
 | k+1=>match p.an[k]? with
   | some s=>jY d p.lex (dN d p mask k) k s
   | none=>dN d p mask k
def fb (d:bS) (p:Prod) (mask:Nat):wS:=dN d p mask p.an.length
def jU (p:Prod):Nat:=2 ^ gQ p.an
def oF (d:bS) (i:Nat) (p:Prod) (mask:Nat):dG×gN:=(⟨gJ d p.sort,(fb d p mask).rhs⟩,⟨0,i,mask,(fb d p mask).os⟩)
def jQ (d:bS) (i:Nat) (p:Prod):List (dG×gN):=(List.range (jU p)).map fun m=>oF d i p m
def gO (d:bS):Nat→List (dG×gN)
 | 0=>[]
 | k+1=>match d.aa[k]? with
   | some p=>gO d k++jQ d k p
   | none=>gO d k
def eX (d:bS) (k:bM):List be:=if (!k.lex && !cY d.layout)=true then [dY (bQ d)] else []
def tk (d:bS) (k:bM):List be:=[dY (mY d k)]++eX d k++(if cY k.sep=true then [] else k9 k.sep++eX d k)++[mo d k.name k.set]
def AD (d:bS) (k:bM):List (dG×gN):=[(⟨mY d k,[mo d k.name k.set]⟩,⟨1,0,0,[]⟩),(⟨mY d k,tk d k⟩,⟨2,0,0,[]⟩)]
def iP (d:bS) (l:List bM):List (dG×gN):=l.flatMap (AD d)
def oZ (d:bS):List (dG×gN):=if cY d.layout=true then [(⟨eg d,[dY (gJ d d.start)]⟩,⟨5,0,0,[]⟩)]
 else [(⟨bQ d,[]⟩,⟨3,0,0,[]⟩),(⟨bQ d,[dY (bQ d),dY (gJ d d.layout)]⟩,⟨4,0,0,[]⟩),(⟨eg d,[dY (bQ d),dY (gJ d d.start),dY (bQ d)]⟩,⟨5,0,0,[]⟩)]
def nd (d:bS):List (dG×gN):=gO d d.aa.length++iP d (br d.aa)++oZ d
section
variable {h:ai}
theorem Cv {v:Value} {n:Nat} {cells:List Value} (hs:bT h v n cells 51 72) (hl:cells.length=n*5):FW env 82 [v] h fun r h'=>h <+: h'∧aL h h' r n cells 51:=by{
have hb:n*72≤140737488355328:=hs.1
have key:(v=aH∧n=0∧cells=[])∨∃ a c,v = .slice (some a) n c:=by
 rcases hs.2 with ⟨rfl|rfl,rfl,rfl⟩ | ⟨id,av,own,c,rfl,hid⟩
 ·exact .inl ⟨rfl,rfl,rfl⟩
 ·exact .inr ⟨_,_,rfl⟩
 ·exact .inr ⟨_,_,rfl⟩
refine fe Tryz.func82 ?_;simp only[push_cast]
rcases key with ⟨rfl,rfl,rfl⟩ | ⟨a,c,rfl⟩
·refine aC ?_
 refine ag rfl ?_
 refine aC ?_
 refine ak ?_
 exact⟨_,al,List.prefix_refl _,aL.nil⟩
·repeat (first|apply zs|apply zr|apply zn|((first|apply zx|apply zy);·simp only[push_cast,env,Nat.reduceEqDiff,reduceIte,Nat.reduceAdd,Nat.reduceMul,Nat.reduceLeDiff,reduceCtorEq,Nat.reduceSub,Int.reduceToNat,Option.isNone_some]<;>first|exact rfl|exact .inl rfl|exact .inr rfl) | apply zq|apply zb|apply zo|apply zk|apply zl)
 refine ae rfl ?_
 refine zu ?_
 refine cV (t:=51) (cs:=[]) (n:=0) al kr ?_
 dsimp only[St.a9,St.put]
 have hp1:h <+: h++[ax.aq [] 0 true 51]:=aJ
 have hG:aL h (h++[ax.aq [] 0 true 51]) (.slice (some ⟨h.length,0,some 0⟩) 0 0) 0 [] 51:=.inr ⟨h.length,0,Nat.le_refl _,rfl,aK⟩
 generalize (h++[ax.aq [] 0 true 51])=h1 at hp1 hG ⊢
 generalize h.length=i1 at hG ⊢
 refine aC ?_
 refine fq (t:=22) (cs:=cells) (m:=n) kr NA (by decide) rfl hG hp1 rfl (hs.mono hp1) hl (by simp only;omega) om al rfl al al ?_
 intro p' c' h' k1 k2 _
 rw[Nat.zero_add] at k2 ⊢
 rw[List.nil_append] at k2
 refine aC ?_
 refine ak ?_
 refine⟨_,al,k1,?_⟩
 exact k2}
theorem Da {v:Value} {n:Nat} {cells:List Value} (hs:bT h v n cells 56 88) (hl:cells.length=n*8):FW env 83 [v] h fun r h'=>h <+: h'∧aL h h' r n cells 56:=by{
have hb:n*88≤140737488355328:=hs.1
have key:(v=aH∧n=0∧cells=[])∨∃ a c,v = .slice (some a) n c:=by
 rcases hs.2 with ⟨rfl|rfl,rfl,rfl⟩ | ⟨id,av,own,c,rfl,hid⟩
 ·exact .inl ⟨rfl,rfl,rfl⟩
 ·exact .inr ⟨_,_,rfl⟩
 ·exact .inr ⟨_,_,rfl⟩
refine fe Tryz.func83 ?_;simp only[push_cast]
rcases key with ⟨rfl,rfl,rfl⟩ | ⟨a,c,rfl⟩
·refine aC ?_
 refine ag rfl ?_
 refine aC ?_
 refine ak ?_
 exact⟨_,al,List.prefix_refl _,aL.nil⟩
·repeat (first|apply zs|apply zr|apply zn|((first|apply zx|apply zy);·simp only[push_cast,env,Nat.reduceEqDiff,reduceIte,Nat.reduceAdd,Nat.reduceMul,Nat.reduceLeDiff,reduceCtorEq,Nat.reduceSub,Int.reduceToNat,Option.isNone_some]<;>first|exact rfl|exact .inl rfl|exact .inr rfl) | apply zq|apply zb|apply zo|apply zk|apply zl)
 refine ae rfl ?_
 refine zu ?_
 refine cV (t:=56) (cs:=[]) (n:=0) al kr ?_
 dsimp only[St.a9,St.put]
 have hp1:h <+: h++[ax.aq [] 0 true 56]:=aJ
 have hG:aL h (h++[ax.aq [] 0 true 56]) (.slice (some ⟨h.length,0,some 0⟩) 0 0) 0 [] 56:=.inr ⟨h.length,0,Nat.le_refl _,rfl,aK⟩
 generalize (h++[ax.aq [] 0 true 56])=h1 at hp1 hG ⊢
 generalize h.length=i1 at hG ⊢
 refine aC ?_
 refine fq (t:=49) (cs:=cells) (m:=n) kr FU (by decide) rfl hG hp1 rfl (hs.mono hp1) hl (by simp only;omega) om al rfl al al ?_
 intro p' c' h' k1 k2 _
 rw[Nat.zero_add] at k2 ⊢
 rw[List.nil_append] at k2
 refine aC ?_
 refine ak ?_
 refine⟨_,al,k1,?_⟩
 exact k2}
theorem Cw {v:Value} {n:Nat} {cells:List Value} (hs:bT h v n cells 82 32) (hl:cells.length=n*2):FW env 84 [v] h fun r h'=>h <+: h'∧aL h h' r n cells 82:=by{
have hb:n*32≤140737488355328:=hs.1
have key:(v=aH∧n=0∧cells=[])∨∃ a c,v = .slice (some a) n c:=by
 rcases hs.2 with ⟨rfl|rfl,rfl,rfl⟩ | ⟨id,av,own,c,rfl,hid⟩
 ·exact .inl ⟨rfl,rfl,rfl⟩
 ·exact .inr ⟨_,_,rfl⟩
 ·exact .inr ⟨_,_,rfl⟩
refine fe Tryz.func84 ?_;simp only[push_cast]
rcases key with ⟨rfl,rfl,rfl⟩ | ⟨a,c,rfl⟩
·refine aC ?_
 refine ag rfl ?_
 refine aC ?_
 refine ak ?_
 exact⟨_,al,List.prefix_refl _,aL.nil⟩
·repeat (first|apply zs|apply zr|apply zn|((first|apply zx|apply zy);·simp only[push_cast,env,Nat.reduceEqDiff,reduceIte,Nat.reduceAdd,Nat.reduceMul,Nat.reduceLeDiff,reduceCtorEq,Nat.reduceSub,Int.reduceToNat,Option.isNone_some]<;>first|exact rfl|exact .inl rfl|exact .inr rfl) | apply zq|apply zb|apply zo|apply zk|apply zl)
 refine ae rfl ?_
 refine zu ?_
 refine cV (t:=82) (cs:=[]) (n:=0) al kr ?_
 dsimp only[St.a9,St.put]
 have hp1:h <+: h++[ax.aq [] 0 true 82]:=aJ
 have hG:aL h (h++[ax.aq [] 0 true 82]) (.slice (some ⟨h.length,0,some 0⟩) 0 0) 0 [] 82:=.inr ⟨h.length,0,Nat.le_refl _,rfl,aK⟩
 generalize (h++[ax.aq [] 0 true 82])=h1 at hp1 hG ⊢
 generalize h.length=i1 at hG ⊢
 refine aC ?_
 refine fq (t:=80) (cs:=cells) (m:=n) kr Nh (by decide) rfl hG hp1 rfl (hs.mono hp1) hl (by simp only;omega) om al rfl al al ?_
 intro p' c' h' k1 k2 _
 rw[Nat.zero_add] at k2 ⊢
 rw[List.nil_append] at k2
 refine aC ?_
 refine ak ?_
 refine⟨_,al,k1,?_⟩
 exact k2}
theorem Ds {v:Value} {n:Nat} {cells:List Value} (hs:bT h v n cells 9 16) (hl:cells.length=n*1):FW env 85 [v] h fun r h'=>h <+: h'∧aL h h' r n cells 9:=by{
have hb:n*16≤140737488355328:=hs.1
have key:(v=aH∧n=0∧cells=[])∨∃ a c,v = .slice (some a) n c:=by
 rcases hs.2 with ⟨rfl|rfl,rfl,rfl⟩ | ⟨id,av,own,c,rfl,hid⟩
 ·exact .inl ⟨rfl,rfl,rfl⟩
 ·exact .inr ⟨_,_,rfl⟩
 ·exact .inr ⟨_,_,rfl⟩
refine fe Tryz.func85 ?_;simp only[push_cast]
rcases key with ⟨rfl,rfl,rfl⟩ | ⟨a,c,rfl⟩
·refine aC ?_
 refine ag rfl ?_
 refine aC ?_
 refine ak ?_
 exact⟨_,al,List.prefix_refl _,aL.nil⟩
·repeat (first|apply zs|apply zr|apply zn|((first|apply zx|apply zy);·simp only[push_cast,env,Nat.reduceEqDiff,reduceIte,Nat.reduceAdd,Nat.reduceMul,Nat.reduceLeDiff,reduceCtorEq,Nat.reduceSub,Int.reduceToNat,Option.isNone_some]<;>first|exact rfl|exact .inl rfl|exact .inr rfl) | apply zq|apply zb|apply zo|apply zk|apply zl)
 refine ae rfl ?_
 refine zu ?_
 refine cV (t:=9) (cs:=[]) (n:=0) al kr ?_
 dsimp only[St.a9,St.put]
 have hp1:h <+: h++[ax.aq [] 0 true 9]:=aJ
 have hG:aL h (h++[ax.aq [] 0 true 9]) (.slice (some ⟨h.length,0,some 0⟩) 0 0) 0 [] 9:=.inr ⟨h.length,0,Nat.le_refl _,rfl,aK⟩
 generalize (h++[ax.aq [] 0 true 9])=h1 at hp1 hG ⊢
 generalize h.length=i1 at hG ⊢
 refine aC ?_
 refine fq (t:=36) (cs:=cells) (m:=n) kr E5 (by decide) rfl hG hp1 rfl (hs.mono hp1) hl (by simp only;omega) om al rfl al al ?_
 intro p' c' h' k1 k2 _
 rw[Nat.zero_add] at k2 ⊢
 rw[List.nil_append] at k2
 refine aC ?_
 refine ak ?_
 refine⟨_,al,k1,?_⟩
 exact k2}
theorem Ce {v:Value} {n:Nat} {cells:List Value} (hs:bT h v n cells 112 48) (hl:cells.length=n*5):FW env 86 [v] h fun r h'=>h <+: h'∧aL h h' r n cells 112:=by{
have hb:n*48≤140737488355328:=hs.1
have key:(v=aH∧n=0∧cells=[])∨∃ a c,v = .slice (some a) n c:=by
 rcases hs.2 with ⟨rfl|rfl,rfl,rfl⟩ | ⟨id,av,own,c,rfl,hid⟩
 ·exact .inl ⟨rfl,rfl,rfl⟩
 ·exact .inr ⟨_,_,rfl⟩
 ·exact .inr ⟨_,_,rfl⟩
refine fe Tryz.func86 ?_;simp only[push_cast]
rcases key with ⟨rfl,rfl,rfl⟩ | ⟨a,c,rfl⟩
·refine aC ?_
 refine ag rfl ?_
 refine aC ?_
 refine ak ?_
 exact⟨_,al,List.prefix_refl _,aL.nil⟩
·repeat (first|apply zs|apply zr|apply zn|((first|apply zx|apply zy);·simp only[push_cast,env,Nat.reduceEqDiff,reduceIte,Nat.reduceAdd,Nat.reduceMul,Nat.reduceLeDiff,reduceCtorEq,Nat.reduceSub,Int.reduceToNat,Option.isNone_some]<;>first|exact rfl|exact .inl rfl|exact .inr rfl) | apply zq|apply zb|apply zo|apply zk|apply zl)
 refine ae rfl ?_
 refine zu ?_
 refine cV (t:=112) (cs:=[]) (n:=0) al kr ?_
 dsimp only[St.a9,St.put]
 have hp1:h <+: h++[ax.aq [] 0 true 112]:=aJ
 have hG:aL h (h++[ax.aq [] 0 true 112]) (.slice (some ⟨h.length,0,some 0⟩) 0 0) 0 [] 112:=.inr ⟨h.length,0,Nat.le_refl _,rfl,aK⟩
 generalize (h++[ax.aq [] 0 true 112])=h1 at hp1 hG ⊢
 generalize h.length=i1 at hG ⊢
 refine aC ?_
 refine fq (t:=24) (cs:=cells) (m:=n) kr FL (by decide) rfl hG hp1 rfl (hs.mono hp1) hl (by simp only;omega) om al rfl al al ?_
 intro p' c' h' k1 k2 _
 rw[Nat.zero_add] at k2 ⊢
 rw[List.nil_append] at k2
 refine aC ?_
 refine ak ?_
 refine⟨_,al,k1,?_⟩
 exact k2}
theorem B7 {v:Value} {n:Nat} {cells:List Value} (hs:bT h v n cells 114 32) (hl:cells.length=n*2):FW env 87 [v] h fun r h'=>h <+: h'∧aL h h' r n cells 114:=by{
have hb:n*32≤140737488355328:=hs.1
have key:(v=aH∧n=0∧cells=[])∨∃ a c,v = .slice (some a) n c:=by
 rcases hs.2 with ⟨rfl|rfl,rfl,rfl⟩ | ⟨id,av,own,c,rfl,hid⟩
 ·exact .inl ⟨rfl,rfl,rfl⟩
 ·exact .inr ⟨_,_,rfl⟩
 ·exact .inr ⟨_,_,rfl⟩
refine fe Tryz.func87 ?_;simp only[push_cast]
rcases key with ⟨rfl,rfl,rfl⟩ | ⟨a,c,rfl⟩
·refine aC ?_
 refine ag rfl ?_
 refine aC ?_
 refine ak ?_
 exact⟨_,al,List.prefix_refl _,aL.nil⟩
·repeat (first|apply zs|apply zr|apply zn|((first|apply zx|apply zy);·simp only[push_cast,env,Nat.reduceEqDiff,reduceIte,Nat.reduceAdd,Nat.reduceMul,Nat.reduceLeDiff,reduceCtorEq,Nat.reduceSub,Int.reduceToNat,Option.isNone_some]<;>first|exact rfl|exact .inl rfl|exact .inr rfl) | apply zq|apply zb|apply zo|apply zk|apply zl)
 refine ae rfl ?_
 refine zu ?_
 refine cV (t:=114) (cs:=[]) (n:=0) al kr ?_
 dsimp only[St.a9,St.put]
 have hp1:h <+: h++[ax.aq [] 0 true 114]:=aJ
 have hG:aL h (h++[ax.aq [] 0 true 114]) (.slice (some ⟨h.length,0,some 0⟩) 0 0) 0 [] 114:=.inr ⟨h.length,0,Nat.le_refl _,rfl,aK⟩
 generalize (h++[ax.aq [] 0 true 114])=h1 at hp1 hG ⊢
 generalize h.length=i1 at hG ⊢
 refine aC ?_
 refine fq (t:=25) (cs:=cells) (m:=n) kr D6 (by decide) rfl hG hp1 rfl (hs.mono hp1) hl (by simp only;omega) om al rfl al al ?_
 intro p' c' h' k1 k2 _
 rw[Nat.zero_add] at k2 ⊢
 rw[List.nil_append] at k2
 refine aC ?_
 refine ak ?_
 refine⟨_,al,k1,?_⟩
 exact k2}
theorem Ct {v:Value} {n:Nat} {cells:List Value} (hs:bT h v n cells 85 40) (hl:cells.length=n*2):FW env 88 [v] h fun r h'=>h <+: h'∧aL h h' r n cells 85:=by{
have hb:n*40≤140737488355328:=hs.1
have key:(v=aH∧n=0∧cells=[])∨∃ a c,v = .slice (some a) n c:=by
 rcases hs.2 with ⟨rfl|rfl,rfl,rfl⟩ | ⟨id,av,own,c,rfl,hid⟩
 ·exact .inl ⟨rfl,rfl,rfl⟩
 ·exact .inr ⟨_,_,rfl⟩
 ·exact .inr ⟨_,_,rfl⟩
refine fe Tryz.func88 ?_;simp only[push_cast]
rcases key with ⟨rfl,rfl,rfl⟩ | ⟨a,c,rfl⟩
·refine aC ?_
 refine ag rfl ?_
 refine aC ?_
 refine ak ?_
 exact⟨_,al,List.prefix_refl _,aL.nil⟩
·repeat (first|apply zs|apply zr|apply zn|((first|apply zx|apply zy);·simp only[push_cast,env,Nat.reduceEqDiff,reduceIte,Nat.reduceAdd,Nat.reduceMul,Nat.reduceLeDiff,reduceCtorEq,Nat.reduceSub,Int.reduceToNat,Option.isNone_some]<;>first|exact rfl|exact .inl rfl|exact .inr rfl) | apply zq|apply zb|apply zo|apply zk|apply zl)
 refine ae rfl ?_
 refine zu ?_
 refine cV (t:=85) (cs:=[]) (n:=0) al kr ?_
 dsimp only[St.a9,St.put]
 have hp1:h <+: h++[ax.aq [] 0 true 85]:=aJ
 have hG:aL h (h++[ax.aq [] 0 true 85]) (.slice (some ⟨h.length,0,some 0⟩) 0 0) 0 [] 85:=.inr ⟨h.length,0,Nat.le_refl _,rfl,aK⟩
 generalize (h++[ax.aq [] 0 true 85])=h1 at hp1 hG ⊢
 generalize h.length=i1 at hG ⊢
 refine aC ?_
 refine fq (t:=26) (cs:=cells) (m:=n) kr Mr (by decide) rfl hG hp1 rfl (hs.mono hp1) hl (by simp only;omega) om al rfl al al ?_
 intro p' c' h' k1 k2 _
 rw[Nat.zero_add] at k2 ⊢
 rw[List.nil_append] at k2
 refine aC ?_
 refine ak ?_
 refine⟨_,al,k1,?_⟩
 exact k2}
theorem CZ {v:Value} {n:Nat} {cells:List Value} (hs:bT h v n cells 136 56) (hl:cells.length=n*4):FW env 138 [v] h fun r h'=>h <+: h'∧aL h h' r n cells 136:=by{
have hb:n*56≤140737488355328:=hs.1
have key:(v=aH∧n=0∧cells=[])∨∃ a c,v = .slice (some a) n c:=by
 rcases hs.2 with ⟨rfl|rfl,rfl,rfl⟩ | ⟨id,av,own,c,rfl,hid⟩
 ·exact .inl ⟨rfl,rfl,rfl⟩
 ·exact .inr ⟨_,_,rfl⟩
 ·exact .inr ⟨_,_,rfl⟩
refine fe Tryz.func138 ?_;simp only[push_cast]
rcases key with ⟨rfl,rfl,rfl⟩ | ⟨a,c,rfl⟩
·refine aC ?_
 refine ag rfl ?_
 refine aC ?_
 refine ak ?_
 exact⟨_,al,List.prefix_refl _,aL.nil⟩
·repeat (first|apply zs|apply zr|apply zn|((first|apply zx|apply zy);·simp only[push_cast,env,Nat.reduceEqDiff,reduceIte,Nat.reduceAdd,Nat.reduceMul,Nat.reduceLeDiff,reduceCtorEq,Nat.reduceSub,Int.reduceToNat,Option.isNone_some]<;>first|exact rfl|exact .inl rfl|exact .inr rfl) | apply zq|apply zb|apply zo|apply zk|apply zl)
 refine ae rfl ?_
 refine zu ?_
 refine cV (t:=136) (cs:=[]) (n:=0) al kr ?_
 dsimp only[St.a9,St.put]
 have hp1:h <+: h++[ax.aq [] 0 true 136]:=aJ
 have hG:aL h (h++[ax.aq [] 0 true 136]) (.slice (some ⟨h.length,0,some 0⟩) 0 0) 0 [] 136:=.inr ⟨h.length,0,Nat.le_refl _,rfl,aK⟩
 generalize (h++[ax.aq [] 0 true 136])=h1 at hp1 hG ⊢
 generalize h.length=i1 at hG ⊢
 refine aC ?_
 refine fq (t:=83) (cs:=cells) (m:=n) kr FR (by decide) rfl hG hp1 rfl (hs.mono hp1) hl (by simp only;omega) om al rfl al al ?_
 intro p' c' h' k1 k2 _
 rw[Nat.zero_add] at k2 ⊢
 rw[List.nil_append] at k2
 refine aC ?_
 refine ak ?_
 refine⟨_,al,k1,?_⟩
 exact k2}
end
def ka (n:Nat) (h h':ai):Prop:=∀ j o,n≤j→h[j]? = some o→h'[j]? = some o
section
variable {n m:Nat} {a b c h h' hk:ai}
theorem ka.refl:ka n h h:=fun _ _ _ k=>k
theorem ka.trans (k1:ka n a b) (k2:ka n b c):ka n a c:=fun j o hj e=>k2 j o hj (k1 j o hj e)
theorem ka.low (k:ka n a b) (hn:n≤m):ka m a b:=fun j o hj e=>k j o om e
theorem ka.pre (k:a <+: b):ka n a b:=fun j o _ e=>af k e
theorem ka.set {i:Nat} {x:ax} (hi:i<n):ka n h (h.set i x):=fun j o hj e=>by rw[aD om];exact e
def Fr (R:ai→Prop) (n:Nat) (h:ai):Prop:=∀ h',ka n h h'→R h'
variable {R:ai→Prop}
theorem Fr.mono (k:Fr R n a) (h:ka n a b):Fr R n b:=fun x e=>k x (h.trans e)
theorem Fr.low (k:Fr R m a) (h:n≤m):Fr R n a:=fun x e=>k x (e.low h)
theorem Fr.now (k:Fr R n a):R a:=k a ka.refl
theorem aL.fr {v:Value} {cells:List Value} {et:TypeId} {b:Nat} (G:aL h hk v n cells et) (hb:n*b≤140737488355328):Fr (fun x=>bT x v n cells et b) h.length hk:=fun x e=>
 (G.mono (h':=x) fun j o hj ho=>e j o (G.lt hj).1 ho).sl hb
theorem Gp {α:Type} {f:α→List Value} {k:Nat} (hf:∀ x,(f x).length=k) {l:List α} {i o:Nat} {x:α} {v:Value} (hi:i<l.length) (ho:o<k) (hx:f x=(f l[i]).set o v):(l.flatMap f).set (i*k+o) v=(l.set i x).flatMap f:=by{
have e:l.flatMap f=(l.take i).flatMap f++(f l[i]++(l.drop (i+1)).flatMap f):=by
 conv=>lhs;rw[← List.take_append_drop i l,List.flatMap_append,List.drop_eq_getElem_cons hi,List.flatMap_cons]
have hti:((l.take i).flatMap f).length=i*k:=by rw[bU hf,List.length_take,Nat.min_eq_left om]
have e2:(l.set i x).flatMap f=(l.take i).flatMap f++(f x++(l.drop (i+1)).flatMap f):=by rw[List.set_eq_take_append_cons_drop,if_pos hi,List.flatMap_append,List.flatMap_cons]
rw[e2,e,List.set_append_right _ _ om,hti,show i*k+o-i*k=o by omega,List.set_append_left _ _ (by rw[hf];exact ho),hx]}
theorem Bb {α β:Type}:∀ {l:List α} {W:List β} {i:Nat} (hi:i<l.length) (r:β),(l.zip W).set i (l[i],r)=l.zip (W.set i r)
 | x :: l,[],i,_,r=>by simp
 | x :: l,w :: W,0,_,r=>by simp
 | x :: l,w :: W,i+1,hi,r=>by
   simp only[List.zip_cons_cons,List.set_cons_succ,List.getElem_cons_succ]
   rw[Bb (Nat.lt_of_succ_lt_succ hi)]
theorem Ko {cells:List Value} {off:Nat} {v:Value} (h:off<cells.length):lL cells off [v]=some (cells.set off v):=by{
unfold lL
rw[if_pos (by rw[List.length_singleton];omega)]
congr 1
rw[List.set_eq_take_append_cons_drop,if_pos h]
simp}
theorem oq {α:Type} {f:α→Value→List Value} {k o:Nat} (hf:∀ x u,(f x u).length=k) (ho:o<k) (hx:∀ x u v,f x v=(f x u).set o v) {l:List α} {W:List Value} (hW:W.length=l.length) {i:Nat} (hi:i<l.length) {v:Value} : lL ((l.zip W).flatMap fun p=>f p.1 p.2) (i*k+o) [v]=some ((l.zip (W.set i v)).flatMap fun p=>f p.1 p.2):=by{
have hz:i<(l.zip W).length:=by simp [hW,hi]
have hl:=bU (f:=fun p:α×Value=>f p.1 p.2) (k:=k) (fun _=>hf _ _) (l.zip W)
have h1:(i+1)*k≤(l.zip W).length*k:=Nat.mul_le_mul_right k hz
rw[Nat.succ_mul] at h1
rw[Ko om,Gp (f:=fun p:α×Value=>f p.1 p.2) (fun _=>hf _ _) (x:=(l[i],v)) hz ho (by simp only[List.getElem_zip];exact hx _ _ _),Bb hi]}
theorem ni {α:Type} {f:α→Value→List Value} {k:Nat} (hf:∀ x u,(f x u).length=k) {l:List α} {W:List Value} {i:Nat} {u:Value} (hi:i<l.length) (hu:W[i]? = some u):js ((l.zip W).flatMap fun p=>f p.1 p.2) (i*k) k=some (f l[i] u):=by{
refine bI (f:=fun p:α×Value=>f p.1 p.2) (fun _=>hf _ _) (l.zip W) i (l[i],u) ?_
obtain⟨hw,rfl⟩:=List.getElem?_eq_some_iff.1 hu
simp [List.getElem?_zip_eq_some,hi,hw]}
end
abbrev Dx:Item→Value→List Value:=fun p u=>[i64 p.kind,.string p.text,i64 p.n,u]
structure Vf (h hk:ai) (id av:Nat) (l:List Item) (us W:List Value) (k:Nat):Prop where
 p:h <+: hk
 n:W.length=l.length
 o:hk[id]? = some (.aq ((l.zip W).flatMap fun p=>Dx p.1 p.2) av true 136)
 d:∀ (i:Nat) (hi:i<l.length),i<k→∃ u,W[i]? = some u∧Fr (fun x=>bh x u l[i].bl) (id+1) hk
 r:∀ i,k≤i→W[i]? = us[i]?
theorem Gr {h0:ai} {v:Value} {l:List Item} (hr:bh h0 v l):∀ {h:ai},h0 <+: h→FW env 89 [v] h fun r h'=>h <+: h'∧(∃ p c,r = .slice p l.length c)∧Fr (fun x=>bh x r l) h.length h':=by{
induction hr with
| @mk v l us hl hs hu ih=>
  intro h hp0
  have hle:=hs.1
  have hn:l.length≤140737488355328:=by omega
  have hcl:((l.zip us).flatMap fun p=>Dx p.1 p.2).length=l.length*4:=by rw[bU (f:=fun p:Item×Value=>Dx p.1 p.2) (k:=4) (fun _=>rfl),List.length_zip,hl,Nat.min_self]
  refine fe Tryz.func89 ?_;simp only[push_cast]
  refine aC ?_
  refine zj Tryz.func138 ?_
  refine (CZ (hs.mono hp0) hcl).mono ?_
  rintro r1 h1 ⟨hp1,hG⟩
  by_cases hz:l.length=0
  ·obtain⟨pq,cq,rfl⟩:=hG.form
   have hfin:Fr (fun x=>bh x (.slice pq l.length cq) l) h.length h1:=fun x e=>.mk us hl (hG.fr (b:=56) om x e) (fun i x u h1 h2=>by have:=(List.getElem?_eq_some_iff.1 h1).1;omega)
   refine aC ?_
   refine dC l.length (fun k=>[(0,.val (.slice pq l.length cq)),(7,.val (i64 l.length)),(8,.val (i64 k))]) (fun _=>h1) (fun _=>True) aM rfl trivial ?_
   intro k hk _
   have hlt:¬ k<l.length:=by omega
   have e3:=aT hlt
   refine aG e3 ?_
   refine ae rfl ?_
   refine aB ?_
   show CW _ _ _ _
   refine aC ?_
   refine ak ?_
   refine⟨_,al,hp1,⟨pq,cq,?_⟩,?_⟩
   ·rfl
   ·exact hfin
  obtain⟨id,av,hid,rfl,hob⟩:=hG.wJ om
  refine aC ?_
  refine aX l.length (fun k (x:ai×List Value)=>[(0,.val (.slice (some ⟨id,0,some av⟩) l.length l.length)),(7,.val (i64 l.length)),(8,.val (i64 k))]) (fun _ x=>x.1) (fun k x=>Vf h x.1 id av l us x.2 k) (h1,us) aM rfl ⟨hp1,hl,hob,fun i hi h=>absurd h om,fun i _=>rfl⟩ ?_
  rintro k ⟨hk,W⟩ hkn I
  simp only at I ⊢
  by_cases hlt:k<l.length
  ·have e1:=cz hlt
   have e2:=inc hlt hn
   have e3:=aU hlt
   have hi':k<us.length:=hl▸hlt
   have hWk:W[k]? = some us[k]:=by rw[I.r k (Nat.le_refl _)];simp [hi']
   have hg:=ni (f:=Dx) (k:=4) (fun _ _=>rfl) hlt hWk
   have hg3:=dE (j:=3) hg om
   simp only[List.getElem?_cons_succ,List.getElem?_cons_zero] at hg3
   have ho:=I.o
   have hrec:=@ih k l[k] us[k] (by simp [hlt]) (by simp [hi']) hk (hp0.trans I.p)
   have hlen1:=dw I.o
   refine aG e3 ?_
   refine ag rfl ?_
   refine gU e1 ho hg3 ?_
   refine zj Tryz.func89 ?_
   refine hrec.mono ?_
   rintro _ h5 ⟨hp5,⟨pr,cr,rfl⟩,hF⟩
   have ho5:=af hp5 ho
   refine aG e1 ?_
   refine bY al rfl rfl rfl al ho5 al rfl (oq (f:=Dx) (k:=4) (o:=3) (fun _ _=>rfl) (by decide) (fun _ _ _=>rfl) I.n hlt) ?_
   refine aG e2 ?_
   have hA5:ka (id+1) hk (h5.set id (.aq ((l.zip (W.set k (.slice pr l[k].bl.length cr))).flatMap fun p=>Dx p.1 p.2) av true 136)):=(ka.pre hp5).trans (ka.set om)
   refine⟨hlt,(h5.set id (.aq ((l.zip (W.set k (.slice pr l[k].bl.length cr))).flatMap fun p=>Dx p.1 p.2) av true 136),W.set k (.slice pr l[k].bl.length cr)),aM,rfl,aZ (I.p.trans hp5) hid,by rw[List.length_set];exact I.n,aw ho5,fun i hi h2=>?_,fun i hi=>?_⟩
   ·rcases (by omega:i<k∨i=k) with h4|rfl
    ·obtain⟨u,hu1,hu2⟩:=I.d i hi h4
     exact⟨u,by rw[List.getElem?_set_ne om];exact hu1,hu2.mono hA5⟩
    ·refine⟨_,List.getElem?_set_self (by rw[I.n];exact hlt),(hF.mono ?_).low om⟩
     exact ka.set om
   ·simp only
    rw[List.getElem?_set_ne om]
    exact I.r i om
  ·have e3:=aT hlt
   obtain rfl:k=l.length:=by omega
   refine aG e3 ?_
   refine ae rfl ?_
   refine aB ?_
   show CW _ _ _ _
   have hfin:Fr (fun x=>bh x (.slice (some ⟨id,0,some av⟩) l.length l.length) l) h.length hk:=by
    refine fun x e=>.mk W I.n ⟨hle,.inr ⟨id,av,true,_,rfl,e _ _ hid I.o⟩⟩ fun i y u h1 h2=>?_
    obtain⟨hi,rfl⟩:=List.getElem?_eq_some_iff.1 h1
    obtain⟨u',hu1,hu2⟩:=I.d i hi hi
    rw[hu1] at h2
    cases h2
    exact hu2 x (e.low om)
   refine aC ?_
   refine ak ?_
   refine⟨_,al,I.p,⟨some ⟨id,0,some av⟩,l.length,?_⟩,?_⟩
   ·rfl
   ·exact hfin}
def zI (l:List gN) (p:Int) (i:Nat):Bool:=match l[i]? with
 | some o=>decide (o.kind=0)&&decide (o.prod=p)
 | none=>false
def dP (l:List gN) (p:Int) (n:Nat):List Int:=((List.range n).filter (zI l p)).map Int.ofNat
theorem yl {l:List gN} {p:Int} {n:Nat}:dP l p (n+1)=if zI l p n=true then dP l p n++[(n:Int)] else dP l p n:=by{
unfold dP
rw[List.range_succ,List.filter_append,List.map_append]
cases h:zI l p n<;>simp [h]}
theorem Ax {l:List gN} {p:Int} {n:Nat}:(dP l p n).length≤n:=by{
unfold dP
rw[List.length_map]
exact Nat.le_trans (List.length_filter_le _ _) (by simp)}
theorem HA {l:List gN} {p:Int} {i:Nat} (hi:i<l.length):zI l p i=(decide (l[i].kind=0)&&decide (l[i].prod=p)):=by
 unfold zI
 rw[List.getElem?_eq_getElem hi]
section
variable {h:ai} {v:Value} {fr:List gN} {l:List ByteArray} {b:ByteArray} {p:Int}
theorem uu (hk:lN h v fr l) (hm:fr.length≤4096):FW env 22 [v,i64 p] h fun r h'=>h <+: h'∧aL h h' r (dP fr p fr.length).length ((dP fr p fr.length).map i64) 3:=by{
obtain⟨s0,s1,p2,p3,p4,p5,p6,p9,p12,p13,p14,n2,n3,n4,n5,n6,n9,n12,n13,n14,c2,c3,c4,c5,c6,c9,c12,c13,c14,i7,i8,uf,un,rfl,hf,hn⟩:=hk
obtain⟨pf,cf,rfl⟩:=hf.form
obtain⟨pn,cn,rfl⟩:=hn.form
have z0:(dP fr p 0).length=0:=rfl
refine fe Tryz.func22 ?_;simp only[push_cast]
refine aC ?_
refine aX fr.length (fun k (x:ai×Option Addr×Nat)=>[(1,.val (i64 p)),(5,.val (.slice x.2.1 (dP fr p k).length x.2.2)),(9,.val (.slice pf fr.length cf)),(10,.val (i64 fr.length)),(11,.val (i64 k))]) (fun _ x=>x.1)
 (fun k x=>h <+: x.1∧aL h x.1 (.slice x.2.1 (dP fr p k).length x.2.2) (dP fr p k).length ((dP fr p k).map i64) 3) (h,none,0) (mi z0) rfl ⟨List.prefix_refl _,aL.nil⟩ ?_
rintro k ⟨hk,q,cq⟩ hkn ⟨hp,hG⟩
simp only at hp hG ⊢
have hlen:(dP fr p k).length≤k:=Ax
by_cases hlt:k<fr.length
·have hf':=hf.mono hp
 obtain⟨id,av,own,c',cells,ps,ns,cs,hv,hid,_,hc,_⟩:=hf'.at hlt
 cases hv
 have e1:=cz hlt
 have e2:=inc hlt hf.le
 have e3:=aU hlt
 have hs:=yl (l:=fr) (p:=p) (n:=k)
 rw[HA hlt] at hs
 refine aG e3 ?_
 refine ag rfl ?_
 by_cases q1:fr[k].kind=0
 ·by_cases q2:fr[k].prod=p
  ·rw[if_pos (by simp [q1,q2])] at hs
   have hs2:(dP fr p (k+1)).length=(dP fr p k).length+1:=by rw[hs];simp
   repeat (first|apply zs|apply zr|apply zn|((first|apply zx|apply zy);·simp only[push_cast,env,Nat.reduceEqDiff,reduceIte,Nat.reduceAdd,Nat.reduceMul,Nat.reduceLeDiff,reduceCtorEq,Nat.reduceSub,Int.reduceToNat,e1,hid,hc,q1,q2,decide_true]<;>first|exact rfl|exact .inl rfl|exact .inr rfl) | apply zq|apply zb|apply zo|apply zk|apply zl)
   refine ag rfl ?_
   refine aC ?_
   refine yc (l:=dP fr p k) (b:=k) (h:=h) al rfl al al hG hp om ?_
   intro p' c' h' k1 k2 _ _
   refine aG e2 ?_
   refine⟨hlt,(h',p',c'),?_,rfl,k2,?_⟩
   ·exact (mi hs2)
   ·rw[hs]
    simpa using k1
  ·rw[if_neg (by simp [q2])] at hs
   repeat (first|apply zs|apply zr|apply zn|((first|apply zx|apply zy);·simp only[push_cast,env,Nat.reduceEqDiff,reduceIte,Nat.reduceAdd,Nat.reduceMul,Nat.reduceLeDiff,reduceCtorEq,Nat.reduceSub,Int.reduceToNat,e1,hid,hc,q1,q2,decide_true,decide_false]<;>first|exact rfl|exact .inl rfl|exact .inr rfl) | apply zq|apply zb|apply zo|apply zk|apply zl)
   refine ae rfl ?_
   refine aG e2 ?_
   refine⟨hlt,(hk,q,cq),?_,rfl,hp,?_⟩
   ·exact (mi hs)
   ·rw[hs]
    exact hG
 ·rw[if_neg (by simp [q1])] at hs
  repeat (first|apply zs|apply zr|apply zn|((first|apply zx|apply zy);·simp only[push_cast,env,Nat.reduceEqDiff,reduceIte,Nat.reduceAdd,Nat.reduceMul,Nat.reduceLeDiff,reduceCtorEq,Nat.reduceSub,Int.reduceToNat,e1,hid,hc,q1,decide_false]<;>first|exact rfl|exact .inl rfl|exact .inr rfl) | apply zq|apply zb|apply zo|apply zk|apply zl)
  refine ae rfl ?_
  refine aG e2 ?_
  refine⟨hlt,(hk,q,cq),?_,rfl,hp,?_⟩
  ·exact (mi hs)
  ·rw[hs]
   exact hG
·have e3:=aT hlt
 obtain rfl:k=fr.length:=by omega
 refine aG e3 ?_
 refine ae rfl ?_
 refine aB ?_
 show CW _ _ _ _
 refine aC ?_
 refine ak ?_
 refine⟨_,al,hp,?_⟩
 exact hG}
end
end Go.Proofs.YtmdmimkbpikmoaaGreat
namespace Go.Proofs.YtmdmimkbpikmoaaGreat.Run5
open Go.RowKit Am Ty
set_option maxRecDepth 100000
def UK:Value:=.agg #[.string ⟨#[69]⟩,zE,.slice (some ⟨7,0,some 0⟩) 3 3,.slice (some ⟨10,0,some 0⟩) 1 1,zN,zN,zN]
def UC:ai:=[.aq [.string ⟨#[69]⟩,zE,.slice (some ⟨7,0,some 0⟩) 3 3,.slice (some ⟨10,0,some 0⟩) 1 1,zN,zN,zN] 0 true 28,
 .aq [i64 3,zE,zU,zU,zU,zU,.string ⟨#[69]⟩,zE] 0 true 56,
 .aq [i64 3,zE,zU,zU,zU,zU,.string ⟨#[78]⟩,zE] 0 true 56,
 .aq [i64 1,.string ⟨#[43]⟩,zU,zU,zU,zU,zE,zE] 0 true 56,
 .aq [i64 3,zE,zU,zU,zU,zU,.string ⟨#[69]⟩,zE,i64 1,.string ⟨#[43]⟩,zU,zU,zU,zU,zE,zE,i64 3,zE,zU,zU,zU,zU,.string ⟨#[69]⟩,zE] 0 true 56,
 .aq [i64 3,zE,zU,zU,zU,zU,.string ⟨#[78]⟩,zE] 0 true 56,
 .aq [i64 6,zE,.int .u64 281474976710656,zU,zU,zU,zE,zE] 0 true 56,
 .aq [.bool false,.string ⟨#[69]⟩,.string ⟨#[65]⟩,.bool false,.slice (some ⟨4,0,some 0⟩) 3 3,.bool false,.string ⟨#[69]⟩,.string ⟨#[78]⟩,.bool false,.slice (some ⟨5,0,some 0⟩) 1 1,.bool true,.string ⟨#[78]⟩,zE,.bool false,.slice (some ⟨6,0,some 0⟩) 1 1] 0 true 51,
 .aq [.string ⟨#[65]⟩] 0 true 9,
 .aq [i64 1,.slice (some ⟨8,0,some 0⟩) 1 1] 0 true 82,
 .aq [.slice (some ⟨9,0,some 0⟩) 1 1] 0 true 80,
 .aq [.string ⟨#[69]⟩,zE,.slice (some ⟨7,0,some 0⟩) 3 3,.slice (some ⟨10,0,some 0⟩) 1 1,zN,zN,zN] 0 true 28,
 .aq [zE,zE,zN,zN,zN,zN,zN,i64 0,i64 0,zN,zN,zN,zN,zN,zN] 0 true 43]
def U8:Value:=.agg #[.string ⟨#[69]⟩,zE,.slice (some ⟨15,0,some 1⟩) 3 3,.slice (some ⟨22,0,some 0⟩) 1 1,zN,zN,zN]
def U3:ai:=[.aq [.string ⟨#[69]⟩,zE,.slice (some ⟨7,0,some 0⟩) 3 3,.slice (some ⟨10,0,some 0⟩) 1 1,zN,zN,zN] 0 true 28,
 .aq [i64 3,zE,zU,zU,zU,zU,.string ⟨#[69]⟩,zE] 0 true 56,
 .aq [i64 3,zE,zU,zU,zU,zU,.string ⟨#[78]⟩,zE] 0 true 56,
 .aq [i64 1,.string ⟨#[43]⟩,zU,zU,zU,zU,zE,zE] 0 true 56,
 .aq [i64 3,zE,zU,zU,zU,zU,.string ⟨#[69]⟩,zE,i64 1,.string ⟨#[43]⟩,zU,zU,zU,zU,zE,zE,i64 3,zE,zU,zU,zU,zU,.string ⟨#[69]⟩,zE] 0 true 56,
 .aq [i64 3,zE,zU,zU,zU,zU,.string ⟨#[78]⟩,zE] 0 true 56,
 .aq [i64 6,zE,.int .u64 281474976710656,zU,zU,zU,zE,zE] 0 true 56,
 .aq [.bool false,.string ⟨#[69]⟩,.string ⟨#[65]⟩,.bool false,.slice (some ⟨4,0,some 0⟩) 3 3,.bool false,.string ⟨#[69]⟩,.string ⟨#[78]⟩,.bool false,.slice (some ⟨5,0,some 0⟩) 1 1,.bool true,.string ⟨#[78]⟩,zE,.bool false,.slice (some ⟨6,0,some 0⟩) 1 1] 0 true 51,
 .aq [.string ⟨#[65]⟩] 0 true 9,
 .aq [i64 1,.slice (some ⟨8,0,some 0⟩) 1 1] 0 true 82,
 .aq [.slice (some ⟨9,0,some 0⟩) 1 1] 0 true 80,
 .aq [.string ⟨#[69]⟩,zE,.slice (some ⟨7,0,some 0⟩) 3 3,.slice (some ⟨10,0,some 0⟩) 1 1,zN,zN,zN] 0 true 28,
 .aq [zE,zE,zN,zN,zN,zN,zN,i64 0,i64 0,zN,zN,zN,zN,zN,zN] 0 true 43,
 .aq [.string ⟨#[69]⟩,zE,.slice (some ⟨15,0,some 1⟩) 3 3,.slice (some ⟨22,0,some 0⟩) 1 1,zN,zN,zN] 0 true 28,
 .aq [.string ⟨#[69]⟩,zE,.slice (some ⟨15,0,some 1⟩) 3 3,.slice (some ⟨22,0,some 0⟩) 1 1,zN,zN,zN] 0 true 28,
 .aq [.bool false,.string ⟨#[69]⟩,.string ⟨#[65]⟩,.bool false,.slice (some ⟨16,0,some 1⟩) 3 3,.bool false,.string ⟨#[69]⟩,.string ⟨#[78]⟩,.bool false,.slice (some ⟨17,0,some 1⟩) 1 1,.bool true,.string ⟨#[78]⟩,zE,.bool false,.slice (some ⟨18,0,some 1⟩) 1 1] 1 true 51,
 .aq [i64 3,zE,zU,zU,zU,zU,.string ⟨#[69]⟩,zE,i64 1,.string ⟨#[43]⟩,zU,zU,zU,zU,zE,zE,i64 3,zE,zU,zU,zU,zU,.string ⟨#[69]⟩,zE] 1 true 56,
 .aq [i64 3,zE,zU,zU,zU,zU,.string ⟨#[78]⟩,zE] 1 true 56,
 .aq [i64 6,zE,.int .u64 281474976710656,zU,zU,zU,zE,zE] 1 true 56,
 .aq [i64 1,.slice (some ⟨20,0,some 1⟩) 1 1] 1 true 82,
 .aq [.string ⟨#[65]⟩] 1 true 9,
 .aq [.slice (some ⟨19,0,some 1⟩) 1 1] 0 true 80,
 .aq [.slice (some ⟨19,0,some 1⟩) 1 1] 0 true 80]
def Ua:Value:=.pointer (some ⟨25,0,some 0⟩)
def U6:ai:=[.aq [.string ⟨#[69]⟩,zE,.slice (some ⟨7,0,some 0⟩) 3 3,.slice (some ⟨10,0,some 0⟩) 1 1,zN,zN,zN] 0 true 28,
 .aq [i64 3,zE,zU,zU,zU,zU,.string ⟨#[69]⟩,zE] 0 true 56,
 .aq [i64 3,zE,zU,zU,zU,zU,.string ⟨#[78]⟩,zE] 0 true 56,
 .aq [i64 1,.string ⟨#[43]⟩,zU,zU,zU,zU,zE,zE] 0 true 56,
 .aq [i64 3,zE,zU,zU,zU,zU,.string ⟨#[69]⟩,zE,i64 1,.string ⟨#[43]⟩,zU,zU,zU,zU,zE,zE,i64 3,zE,zU,zU,zU,zU,.string ⟨#[69]⟩,zE] 0 true 56,
 .aq [i64 3,zE,zU,zU,zU,zU,.string ⟨#[78]⟩,zE] 0 true 56,
 .aq [i64 6,zE,.int .u64 281474976710656,zU,zU,zU,zE,zE] 0 true 56,
 .aq [.bool false,.string ⟨#[69]⟩,.string ⟨#[65]⟩,.bool false,.slice (some ⟨4,0,some 0⟩) 3 3,.bool false,.string ⟨#[69]⟩,.string ⟨#[78]⟩,.bool false,.slice (some ⟨5,0,some 0⟩) 1 1,.bool true,.string ⟨#[78]⟩,zE,.bool false,.slice (some ⟨6,0,some 0⟩) 1 1] 0 true 51,
 .aq [.string ⟨#[65]⟩] 0 true 9,
 .aq [i64 1,.slice (some ⟨8,0,some 0⟩) 1 1] 0 true 82,
 .aq [.slice (some ⟨9,0,some 0⟩) 1 1] 0 true 80,
 .aq [.string ⟨#[69]⟩,zE,.slice (some ⟨7,0,some 0⟩) 3 3,.slice (some ⟨10,0,some 0⟩) 1 1,zN,zN,zN] 0 true 28,
 .aq [zE,zE,zN,zN,zN,zN,zN,i64 0,i64 0,zN,zN,zN,zN,zN,zN] 0 true 43,
 .aq [.string ⟨#[69]⟩,zE,.slice (some ⟨15,0,some 1⟩) 3 3,.slice (some ⟨22,0,some 0⟩) 1 1,zN,zN,zN] 0 true 28,
 .aq [.string ⟨#[69]⟩,zE,.slice (some ⟨15,0,some 1⟩) 3 3,.slice (some ⟨22,0,some 0⟩) 1 1,zN,zN,zN] 0 true 28,
 .aq [.bool false,.string ⟨#[69]⟩,.string ⟨#[65]⟩,.bool false,.slice (some ⟨16,0,some 1⟩) 3 3,.bool false,.string ⟨#[69]⟩,.string ⟨#[78]⟩,.bool false,.slice (some ⟨17,0,some 1⟩) 1 1,.bool true,.string ⟨#[78]⟩,zE,.bool false,.slice (some ⟨18,0,some 1⟩) 1 1] 1 true 51,
 .aq [i64 3,zE,zU,zU,zU,zU,.string ⟨#[69]⟩,zE,i64 1,.string ⟨#[43]⟩,zU,zU,zU,zU,zE,zE,i64 3,zE,zU,zU,zU,zU,.string ⟨#[69]⟩,zE] 1 true 56,
 .aq [i64 3,zE,zU,zU,zU,zU,.string ⟨#[78]⟩,zE] 1 true 56,
 .aq [i64 6,zE,.int .u64 281474976710656,zU,zU,zU,zE,zE] 1 true 56,
 .aq [i64 1,.slice (some ⟨20,0,some 1⟩) 1 1] 1 true 82,
 .aq [.string ⟨#[65]⟩] 1 true 9,
 .aq [.slice (some ⟨19,0,some 1⟩) 1 1] 0 true 80,
 .aq [.slice (some ⟨19,0,some 1⟩) 1 1] 0 true 80,
 .map [],
 .map [],
 .aq [.string ⟨#[69]⟩,zE,.slice (some ⟨15,0,some 1⟩) 3 3,.slice (some ⟨22,0,some 0⟩) 1 1,zN,zN,zN,i64 0,i64 0,zN,zN,zN,zN,zN,zN,.map (some 23),.map (some 24),zN,i64 0] 0 true 94]
def US:ai:=[.aq [.string ⟨#[69]⟩,zE,.slice (some ⟨7,0,some 0⟩) 3 3,.slice (some ⟨10,0,some 0⟩) 1 1,zN,zN,zN] 0 true 28,
 .aq [i64 3,zE,zU,zU,zU,zU,.string ⟨#[69]⟩,zE] 0 true 56,
 .aq [i64 3,zE,zU,zU,zU,zU,.string ⟨#[78]⟩,zE] 0 true 56,
 .aq [i64 1,.string ⟨#[43]⟩,zU,zU,zU,zU,zE,zE] 0 true 56,
 .aq [i64 3,zE,zU,zU,zU,zU,.string ⟨#[69]⟩,zE,i64 1,.string ⟨#[43]⟩,zU,zU,zU,zU,zE,zE,i64 3,zE,zU,zU,zU,zU,.string ⟨#[69]⟩,zE] 0 true 56,
 .aq [i64 3,zE,zU,zU,zU,zU,.string ⟨#[78]⟩,zE] 0 true 56,
 .aq [i64 6,zE,.int .u64 281474976710656,zU,zU,zU,zE,zE] 0 true 56,
 .aq [.bool false,.string ⟨#[69]⟩,.string ⟨#[65]⟩,.bool false,.slice (some ⟨4,0,some 0⟩) 3 3,.bool false,.string ⟨#[69]⟩,.string ⟨#[78]⟩,.bool false,.slice (some ⟨5,0,some 0⟩) 1 1,.bool true,.string ⟨#[78]⟩,zE,.bool false,.slice (some ⟨6,0,some 0⟩) 1 1] 0 true 51,
 .aq [.string ⟨#[65]⟩] 0 true 9,
 .aq [i64 1,.slice (some ⟨8,0,some 0⟩) 1 1] 0 true 82,
 .aq [.slice (some ⟨9,0,some 0⟩) 1 1] 0 true 80,
 .aq [.string ⟨#[69]⟩,zE,.slice (some ⟨7,0,some 0⟩) 3 3,.slice (some ⟨10,0,some 0⟩) 1 1,zN,zN,zN] 0 true 28,
 .aq [zE,zE,zN,zN,zN,zN,zN,i64 0,i64 0,zN,zN,zN,zN,zN,zN] 0 true 43,
 .aq [.string ⟨#[69]⟩,zE,.slice (some ⟨15,0,some 1⟩) 3 3,.slice (some ⟨22,0,some 0⟩) 1 1,zN,zN,zN] 0 true 28,
 .aq [.string ⟨#[69]⟩,zE,.slice (some ⟨15,0,some 1⟩) 3 3,.slice (some ⟨22,0,some 0⟩) 1 1,zN,zN,zN] 0 true 28,
 .aq [.bool false,.string ⟨#[69]⟩,.string ⟨#[65]⟩,.bool false,.slice (some ⟨16,0,some 1⟩) 3 3,.bool false,.string ⟨#[69]⟩,.string ⟨#[78]⟩,.bool false,.slice (some ⟨17,0,some 1⟩) 1 1,.bool true,.string ⟨#[78]⟩,zE,.bool false,.slice (some ⟨18,0,some 1⟩) 1 1] 1 true 51,
 .aq [i64 3,zE,zU,zU,zU,zU,.string ⟨#[69]⟩,zE,i64 1,.string ⟨#[43]⟩,zU,zU,zU,zU,zE,zE,i64 3,zE,zU,zU,zU,zU,.string ⟨#[69]⟩,zE] 1 true 56,
 .aq [i64 3,zE,zU,zU,zU,zU,.string ⟨#[78]⟩,zE] 1 true 56,
 .aq [i64 6,zE,.int .u64 281474976710656,zU,zU,zU,zE,zE] 1 true 56,
 .aq [i64 1,.slice (some ⟨20,0,some 1⟩) 1 1] 1 true 82,
 .aq [.string ⟨#[65]⟩] 1 true 9,
 .aq [.slice (some ⟨19,0,some 1⟩) 1 1] 0 true 80,
 .aq [.slice (some ⟨19,0,some 1⟩) 1 1] 0 true 80,
 .map [(.string ⟨#[69]⟩,.int .i64 0),(.string ⟨#[78]⟩,.int .i64 1)],
 .map [(.agg #[.bool true,zE,.int .u64 281474976710656,zU,zU,zU,zE],.int .i64 2)],
 .aq [.string ⟨#[69]⟩,zE,.slice (some ⟨15,0,some 1⟩) 3 3,.slice (some ⟨22,0,some 0⟩) 1 1,zN,zN,zN,i64 4,i64 3,zN,zN,.slice (some ⟨35,0,some 3⟩) 4 4,zN,zN,zN,.map (some 23),.map (some 24),.slice (some ⟨45,0,some 0⟩) 1 1,.int .i64 (-1)] 0 true 94,
 .aq [.pointer (some ⟨25,0,some 0⟩)] 0 true 89,
 .aq [.string ⟨#[69]⟩,zE,.slice (some ⟨15,0,some 1⟩) 3 3,.slice (some ⟨22,0,some 0⟩) 1 1,zN,zN,zN] 0 true 28,
 .aq [.string ⟨#[69]⟩,zE,.slice (some ⟨15,0,some 1⟩) 3 3,.slice (some ⟨22,0,some 0⟩) 1 1,zN,zN,zN] 0 true 28,
 .map [(.string ⟨#[69]⟩,.int .i64 2),(.string ⟨#[78]⟩,.int .i64 1)],
 .aq [.string ⟨#[69]⟩,zE,.slice (some ⟨15,0,some 1⟩) 3 3,.slice (some ⟨22,0,some 0⟩) 1 1,zN,zN,zN,.slice (some ⟨32,0,some 1⟩) 2 2,.map (some 29)] 0 true 190,
 .aq [.bool false,.string ⟨#[69]⟩,.string ⟨#[65]⟩,.bool false,.slice (some ⟨16,0,some 1⟩) 3 3] 0 true 51,
 .aq [.string ⟨#[69]⟩,.string ⟨#[78]⟩] 1 true 9,
 .aq [.bool false,.string ⟨#[69]⟩,.string ⟨#[78]⟩,.bool false,.slice (some ⟨17,0,some 1⟩) 1 1] 0 true 51,
 .aq [.bool true,.string ⟨#[78]⟩,zE,.bool false,.slice (some ⟨18,0,some 1⟩) 1 1] 0 true 51,
 .aq [.string ⟨#[69]⟩,.string ⟨#[78]⟩,.string ⟨#[91,48,93,43]⟩,.string ⟨#[116,111,112]⟩] 3 true 9,
 .aq [.bool false,.string ⟨#[69]⟩,.string ⟨#[65]⟩,.bool false,.slice (some ⟨16,0,some 1⟩) 3 3] 0 true 51,
 .aq [i64 3,zE,zU,zU,zU,zU,.string ⟨#[69]⟩,zE] 0 true 56,
 .aq [i64 1,.string ⟨#[43]⟩,zU,zU,zU,zU,zE,zE] 0 true 56,
 .aq [i64 3,zE,zU,zU,zU,zU,.string ⟨#[69]⟩,zE] 0 true 56,
 .aq [.bool false,.string ⟨#[69]⟩,.string ⟨#[78]⟩,.bool false,.slice (some ⟨17,0,some 1⟩) 1 1] 0 true 51,
 .aq [i64 3,zE,zU,zU,zU,zU,.string ⟨#[78]⟩,zE] 0 true 56,
 .aq [.bool true,.string ⟨#[78]⟩,zE,.bool false,.slice (some ⟨18,0,some 1⟩) 1 1] 0 true 51,
 .aq [i64 6,zE,.int .u64 281474976710656,zU,zU,zU,zE,zE] 0 true 56,
 .aq [.bool true,zE,.int .u64 281474976710656,zU,zU,zU,zE] 0 true 154,
 .aq [.bool true,zE,.int .u64 281474976710656,zU,zU,zU,zE] 0 true 154]
def U1:ai:=[.aq [.string ⟨#[69]⟩,zE,.slice (some ⟨7,0,some 0⟩) 3 3,.slice (some ⟨10,0,some 0⟩) 1 1,zN,zN,zN] 0 true 28,
 .aq [i64 3,zE,zU,zU,zU,zU,.string ⟨#[69]⟩,zE] 0 true 56,
 .aq [i64 3,zE,zU,zU,zU,zU,.string ⟨#[78]⟩,zE] 0 true 56,
 .aq [i64 1,.string ⟨#[43]⟩,zU,zU,zU,zU,zE,zE] 0 true 56,
 .aq [i64 3,zE,zU,zU,zU,zU,.string ⟨#[69]⟩,zE,i64 1,.string ⟨#[43]⟩,zU,zU,zU,zU,zE,zE,i64 3,zE,zU,zU,zU,zU,.string ⟨#[69]⟩,zE] 0 true 56,
 .aq [i64 3,zE,zU,zU,zU,zU,.string ⟨#[78]⟩,zE] 0 true 56,
 .aq [i64 6,zE,.int .u64 281474976710656,zU,zU,zU,zE,zE] 0 true 56,
 .aq [.bool false,.string ⟨#[69]⟩,.string ⟨#[65]⟩,.bool false,.slice (some ⟨4,0,some 0⟩) 3 3,.bool false,.string ⟨#[69]⟩,.string ⟨#[78]⟩,.bool false,.slice (some ⟨5,0,some 0⟩) 1 1,.bool true,.string ⟨#[78]⟩,zE,.bool false,.slice (some ⟨6,0,some 0⟩) 1 1] 0 true 51,
 .aq [.string ⟨#[65]⟩] 0 true 9,
 .aq [i64 1,.slice (some ⟨8,0,some 0⟩) 1 1] 0 true 82,
 .aq [.slice (some ⟨9,0,some 0⟩) 1 1] 0 true 80,
 .aq [.string ⟨#[69]⟩,zE,.slice (some ⟨7,0,some 0⟩) 3 3,.slice (some ⟨10,0,some 0⟩) 1 1,zN,zN,zN] 0 true 28,
 .aq [zE,zE,zN,zN,zN,zN,zN,i64 0,i64 0,zN,zN,zN,zN,zN,zN] 0 true 43,
 .aq [.string ⟨#[69]⟩,zE,.slice (some ⟨15,0,some 1⟩) 3 3,.slice (some ⟨22,0,some 0⟩) 1 1,zN,zN,zN] 0 true 28,
 .aq [.string ⟨#[69]⟩,zE,.slice (some ⟨15,0,some 1⟩) 3 3,.slice (some ⟨22,0,some 0⟩) 1 1,zN,zN,zN] 0 true 28,
 .aq [.bool false,.string ⟨#[69]⟩,.string ⟨#[65]⟩,.bool false,.slice (some ⟨16,0,some 1⟩) 3 3,.bool false,.string ⟨#[69]⟩,.string ⟨#[78]⟩,.bool false,.slice (some ⟨17,0,some 1⟩) 1 1,.bool true,.string ⟨#[78]⟩,zE,.bool false,.slice (some ⟨18,0,some 1⟩) 1 1] 1 true 51,
 .aq [i64 3,zE,zU,zU,zU,zU,.string ⟨#[69]⟩,zE,i64 1,.string ⟨#[43]⟩,zU,zU,zU,zU,zE,zE,i64 3,zE,zU,zU,zU,zU,.string ⟨#[69]⟩,zE] 1 true 56,
 .aq [i64 3,zE,zU,zU,zU,zU,.string ⟨#[78]⟩,zE] 1 true 56,
 .aq [i64 6,zE,.int .u64 281474976710656,zU,zU,zU,zE,zE] 1 true 56,
 .aq [i64 1,.slice (some ⟨20,0,some 1⟩) 1 1] 1 true 82,
 .aq [.string ⟨#[65]⟩] 1 true 9,
 .aq [.slice (some ⟨19,0,some 1⟩) 1 1] 0 true 80,
 .aq [.slice (some ⟨19,0,some 1⟩) 1 1] 0 true 80,
 .map [(.string ⟨#[69]⟩,.int .i64 0),(.string ⟨#[78]⟩,.int .i64 1)],
 .map [(.agg #[.bool true,zE,.int .u64 281474976710656,zU,zU,zU,zE],.int .i64 2)],
 .aq [.string ⟨#[69]⟩,zE,.slice (some ⟨15,0,some 1⟩) 3 3,.slice (some ⟨22,0,some 0⟩) 1 1,zN,zN,zN,i64 4,i64 3,.slice (some ⟨77,0,some 5⟩) 6 6,.slice (some ⟨78,0,some 5⟩) 6 6,.slice (some ⟨35,0,some 3⟩) 4 4,zN,zN,zN,.map (some 23),.map (some 24),.slice (some ⟨45,0,some 0⟩) 1 1,.int .i64 (-1)] 0 true 94,
 .aq [.pointer (some ⟨25,0,some 0⟩)] 0 true 89,
 .aq [.string ⟨#[69]⟩,zE,.slice (some ⟨15,0,some 1⟩) 3 3,.slice (some ⟨22,0,some 0⟩) 1 1,zN,zN,zN] 0 true 28,
 .aq [.string ⟨#[69]⟩,zE,.slice (some ⟨15,0,some 1⟩) 3 3,.slice (some ⟨22,0,some 0⟩) 1 1,zN,zN,zN] 0 true 28,
 .map [(.string ⟨#[69]⟩,.int .i64 2),(.string ⟨#[78]⟩,.int .i64 1)],
 .aq [.string ⟨#[69]⟩,zE,.slice (some ⟨15,0,some 1⟩) 3 3,.slice (some ⟨22,0,some 0⟩) 1 1,zN,zN,zN,.slice (some ⟨32,0,some 1⟩) 2 2,.map (some 29)] 0 true 190,
 .aq [.bool false,.string ⟨#[69]⟩,.string ⟨#[65]⟩,.bool false,.slice (some ⟨16,0,some 1⟩) 3 3] 0 true 51,
 .aq [.string ⟨#[69]⟩,.string ⟨#[78]⟩] 1 true 9,
 .aq [.bool false,.string ⟨#[69]⟩,.string ⟨#[78]⟩,.bool false,.slice (some ⟨17,0,some 1⟩) 1 1] 0 true 51,
 .aq [.bool true,.string ⟨#[78]⟩,zE,.bool false,.slice (some ⟨18,0,some 1⟩) 1 1] 0 true 51,
 .aq [.string ⟨#[69]⟩,.string ⟨#[78]⟩,.string ⟨#[91,48,93,43]⟩,.string ⟨#[116,111,112]⟩] 3 true 9,
 .aq [.bool false,.string ⟨#[69]⟩,.string ⟨#[65]⟩,.bool false,.slice (some ⟨16,0,some 1⟩) 3 3] 0 true 51,
 .aq [i64 3,zE,zU,zU,zU,zU,.string ⟨#[69]⟩,zE] 0 true 56,
 .aq [i64 1,.string ⟨#[43]⟩,zU,zU,zU,zU,zE,zE] 0 true 56,
 .aq [i64 3,zE,zU,zU,zU,zU,.string ⟨#[69]⟩,zE] 0 true 56,
 .aq [.bool false,.string ⟨#[69]⟩,.string ⟨#[78]⟩,.bool false,.slice (some ⟨17,0,some 1⟩) 1 1] 0 true 51,
 .aq [i64 3,zE,zU,zU,zU,zU,.string ⟨#[78]⟩,zE] 0 true 56,
 .aq [.bool true,.string ⟨#[78]⟩,zE,.bool false,.slice (some ⟨18,0,some 1⟩) 1 1] 0 true 51,
 .aq [i64 6,zE,.int .u64 281474976710656,zU,zU,zU,zE,zE] 0 true 56,
 .aq [.bool true,zE,.int .u64 281474976710656,zU,zU,zU,zE] 0 true 154,
 .aq [.bool true,zE,.int .u64 281474976710656,zU,zU,zU,zE] 0 true 154,
 .aq [.pointer (some ⟨25,0,some 0⟩)] 0 true 89,
 .aq [.bool false,.string ⟨#[69]⟩,.string ⟨#[65]⟩,.bool false,.slice (some ⟨16,0,some 1⟩) 3 3] 0 true 51,
 .aq [.bool false,.string ⟨#[69]⟩,.string ⟨#[65]⟩,.bool false,.slice (some ⟨16,0,some 1⟩) 3 3] 0 true 51,
 .aq [i64 0,i64 0,i64 0,.slice (some ⟨58,0,some 2⟩) 3 3] 0 true 67,
 .aq [i64 3,zE,zU,zU,zU,zU,.string ⟨#[69]⟩,zE] 0 true 56,
 .aq [.bool false,.string ⟨#[69]⟩,.string ⟨#[65]⟩,.bool false,.slice (some ⟨16,0,some 1⟩) 3 3] 0 true 51,
 .aq [i64 3,zE,zU,zU,zU,zU,.string ⟨#[69]⟩,zE] 0 true 56,
 .aq [i64 0,zU,zU,zU,zU] 0 true 65,
 .aq [i64 0,zU,zU,zU,zU] 0 true 65,
 .aq [i64 0,zU,zU,zU,zU] 0 true 65,
 .aq [i64 0,zU,zU,zU,zU,.int .i64 (-1),.int .u64 8796093022208,zU,zU,zU,i64 0,zU,zU,zU,zU] 2 true 65,
 .aq [i64 0] 0 true 3,
 .aq [i64 0,i64 1,i64 2] 2 true 3,
 .aq [i64 1,.string ⟨#[43]⟩,zU,zU,zU,zU,zE,zE] 0 true 56,
 .aq [.bool false,.string ⟨#[69]⟩,.string ⟨#[65]⟩,.bool false,.slice (some ⟨16,0,some 1⟩) 3 3] 0 true 51,
 .aq [i64 1,.string ⟨#[43]⟩,zU,zU,zU,zU,zE,zE] 0 true 56,
 .aq [.int .u8 43] 0 true 5,
 .aq [.int .i64 (-1),.int .u64 8796093022208,zU,zU,zU] 0 true 65,
 .aq [.int .i64 (-1),.int .u64 8796093022208,zU,zU,zU] 0 true 65,
 .aq [.int .i64 (-1),.int .u64 8796093022208,zU,zU,zU] 0 true 65,
 .aq [.int .i64 (-1),.int .u64 8796093022208,zU,zU,zU] 0 true 65,
 .aq [i64 1] 0 true 3,
 .aq [i64 3,zE,zU,zU,zU,zU,.string ⟨#[69]⟩,zE] 0 true 56,
 .aq [.bool false,.string ⟨#[69]⟩,.string ⟨#[65]⟩,.bool false,.slice (some ⟨16,0,some 1⟩) 3 3] 0 true 51,
 .aq [i64 3,zE,zU,zU,zU,zU,.string ⟨#[69]⟩,zE] 0 true 56,
 .aq [i64 0,zU,zU,zU,zU] 0 true 65,
 .aq [i64 0,zU,zU,zU,zU] 0 true 65,
 .aq [i64 0,zU,zU,zU,zU] 0 true 65,
 .aq [i64 2] 0 true 3,
 .aq [i64 0,i64 0,i64 0,.slice (some ⟨58,0,some 2⟩) 3 3] 0 true 67,
 .aq [i64 0,.slice (some ⟨56,0,some 2⟩) 3 3] 0 true 63,
 .aq [i64 0,.slice (some ⟨56,0,some 2⟩) 3 3,i64 0,.slice (some ⟨88,0,some 0⟩) 1 1,i64 1,.slice (some ⟨100,0,some 0⟩) 1 1,i64 2,.slice (some ⟨105,0,some 0⟩) 1 1,i64 2,.slice (some ⟨106,0,some 1⟩) 2 2,i64 3,.slice (some ⟨109,0,some 0⟩) 1 1] 5 true 63,
 .aq [i64 0,i64 0,i64 0,.slice (some ⟨58,0,some 2⟩) 3 3,i64 0,i64 1,i64 0,.slice (some ⟨90,0,some 0⟩) 1 1,i64 0,i64 2,i64 0,.slice (some ⟨102,0,some 0⟩) 1 1,i64 1,i64 0,i64 0,zN,i64 2,i64 0,i64 0,zN,i64 5,i64 0,i64 0,zN] 5 true 67,
 .aq [.bool false,.string ⟨#[69]⟩,.string ⟨#[78]⟩,.bool false,.slice (some ⟨17,0,some 1⟩) 1 1] 0 true 51,
 .aq [.bool false,.string ⟨#[69]⟩,.string ⟨#[78]⟩,.bool false,.slice (some ⟨17,0,some 1⟩) 1 1] 0 true 51,
 .aq [i64 0,i64 1,i64 0,.slice (some ⟨90,0,some 0⟩) 1 1] 0 true 67,
 .aq [i64 3,zE,zU,zU,zU,zU,.string ⟨#[78]⟩,zE] 0 true 56,
 .aq [.bool false,.string ⟨#[69]⟩,.string ⟨#[78]⟩,.bool false,.slice (some ⟨17,0,some 1⟩) 1 1] 0 true 51,
 .aq [i64 3,zE,zU,zU,zU,zU,.string ⟨#[78]⟩,zE] 0 true 56,
 .aq [i64 1,zU,zU,zU,zU] 0 true 65,
 .aq [i64 1,zU,zU,zU,zU] 0 true 65,
 .aq [i64 1,zU,zU,zU,zU] 0 true 65,
 .aq [i64 1,zU,zU,zU,zU] 0 true 65,
 .aq [i64 0] 0 true 3,
 .aq [i64 0] 0 true 3,
 .aq [.bool true,.string ⟨#[78]⟩,zE,.bool false,.slice (some ⟨18,0,some 1⟩) 1 1] 0 true 51,
 .aq [.bool true,.string ⟨#[78]⟩,zE,.bool false,.slice (some ⟨18,0,some 1⟩) 1 1] 0 true 51,
 .aq [i64 0,i64 2,i64 0,.slice (some ⟨102,0,some 0⟩) 1 1] 0 true 67,
 .aq [i64 6,zE,.int .u64 281474976710656,zU,zU,zU,zE,zE] 0 true 56,
 .aq [.bool true,.string ⟨#[78]⟩,zE,.bool false,.slice (some ⟨18,0,some 1⟩) 1 1] 0 true 51,
 .aq [i64 6,zE,.int .u64 281474976710656,zU,zU,zU,zE,zE] 0 true 56,
 .aq [i64 2,zU,zU,zU,zU] 0 true 65,
 .aq [i64 2,zU,zU,zU,zU] 0 true 65,
 .aq [i64 2,zU,zU,zU,zU] 0 true 65,
 .aq [i64 2,zU,zU,zU,zU] 0 true 65,
 .aq [i64 0] 0 true 3,
 .aq [i64 0] 0 true 3,
 .aq [.bool true,zE,.int .u64 281474976710656,zU,zU,zU,zE] 0 true 154,
 .aq [.int .i64 (-1),.int .u64 281474976710656,zU,zU,zU] 0 true 65,
 .aq [.int .i64 (-1),.int .u64 281474976710656,zU,zU,zU] 0 true 65,
 .aq [i64 2,zU,zU,zU,zU,.int .i64 (-1),.int .u64 281474976710656,zU,zU,zU] 1 true 65,
 .aq [.slice (some ⟨106,0,some 0⟩) 1 1] 0 true 61,
 .aq [i64 0,zU,zU,zU,zU] 0 true 65,
 .aq [i64 0,zU,zU,zU,zU] 0 true 65]
def Vi:ai:=[.aq [.string ⟨#[69]⟩,zE,.slice (some ⟨7,0,some 0⟩) 3 3,.slice (some ⟨10,0,some 0⟩) 1 1,zN,zN,zN] 0 true 28,
 .aq [i64 3,zE,zU,zU,zU,zU,.string ⟨#[69]⟩,zE] 0 true 56,
 .aq [i64 3,zE,zU,zU,zU,zU,.string ⟨#[78]⟩,zE] 0 true 56,
 .aq [i64 1,.string ⟨#[43]⟩,zU,zU,zU,zU,zE,zE] 0 true 56,
 .aq [i64 3,zE,zU,zU,zU,zU,.string ⟨#[69]⟩,zE,i64 1,.string ⟨#[43]⟩,zU,zU,zU,zU,zE,zE,i64 3,zE,zU,zU,zU,zU,.string ⟨#[69]⟩,zE] 0 true 56,
 .aq [i64 3,zE,zU,zU,zU,zU,.string ⟨#[78]⟩,zE] 0 true 56,
 .aq [i64 6,zE,.int .u64 281474976710656,zU,zU,zU,zE,zE] 0 true 56,
 .aq [.bool false,.string ⟨#[69]⟩,.string ⟨#[65]⟩,.bool false,.slice (some ⟨4,0,some 0⟩) 3 3,.bool false,.string ⟨#[69]⟩,.string ⟨#[78]⟩,.bool false,.slice (some ⟨5,0,some 0⟩) 1 1,.bool true,.string ⟨#[78]⟩,zE,.bool false,.slice (some ⟨6,0,some 0⟩) 1 1] 0 true 51,
 .aq [.string ⟨#[65]⟩] 0 true 9,
 .aq [i64 1,.slice (some ⟨8,0,some 0⟩) 1 1] 0 true 82,
 .aq [.slice (some ⟨9,0,some 0⟩) 1 1] 0 true 80,
 .aq [.string ⟨#[69]⟩,zE,.slice (some ⟨7,0,some 0⟩) 3 3,.slice (some ⟨10,0,some 0⟩) 1 1,zN,zN,zN] 0 true 28,
 .aq [zE,zE,zN,zN,zN,zN,zN,i64 0,i64 0,zN,zN,zN,zN,zN,zN] 0 true 43,
 .aq [.string ⟨#[69]⟩,zE,.slice (some ⟨15,0,some 1⟩) 3 3,.slice (some ⟨22,0,some 0⟩) 1 1,zN,zN,zN] 0 true 28,
 .aq [.string ⟨#[69]⟩,zE,.slice (some ⟨15,0,some 1⟩) 3 3,.slice (some ⟨22,0,some 0⟩) 1 1,zN,zN,zN] 0 true 28,
 .aq [.bool false,.string ⟨#[69]⟩,.string ⟨#[65]⟩,.bool false,.slice (some ⟨16,0,some 1⟩) 3 3,.bool false,.string ⟨#[69]⟩,.string ⟨#[78]⟩,.bool false,.slice (some ⟨17,0,some 1⟩) 1 1,.bool true,.string ⟨#[78]⟩,zE,.bool false,.slice (some ⟨18,0,some 1⟩) 1 1] 1 true 51,
 .aq [i64 3,zE,zU,zU,zU,zU,.string ⟨#[69]⟩,zE,i64 1,.string ⟨#[43]⟩,zU,zU,zU,zU,zE,zE,i64 3,zE,zU,zU,zU,zU,.string ⟨#[69]⟩,zE] 1 true 56,
 .aq [i64 3,zE,zU,zU,zU,zU,.string ⟨#[78]⟩,zE] 1 true 56,
 .aq [i64 6,zE,.int .u64 281474976710656,zU,zU,zU,zE,zE] 1 true 56,
 .aq [i64 1,.slice (some ⟨20,0,some 1⟩) 1 1] 1 true 82,
 .aq [.string ⟨#[65]⟩] 1 true 9,
 .aq [.slice (some ⟨19,0,some 1⟩) 1 1] 0 true 80,
 .aq [.slice (some ⟨19,0,some 1⟩) 1 1] 0 true 80,
 .map [(.string ⟨#[69]⟩,.int .i64 0),(.string ⟨#[78]⟩,.int .i64 1)],
 .map [(.agg #[.bool true,zE,.int .u64 281474976710656,zU,zU,zU,zE],.int .i64 2)],
 .aq [.string ⟨#[69]⟩,zE,.slice (some ⟨15,0,some 1⟩) 3 3,.slice (some ⟨22,0,some 0⟩) 1 1,zN,zN,zN,i64 4,i64 3,.slice (some ⟨77,0,some 5⟩) 6 6,.slice (some ⟨78,0,some 5⟩) 6 6,.slice (some ⟨35,0,some 3⟩) 4 4,.slice (some ⟨112,0,some 0⟩) 1 1,.slice (some ⟨113,0,some 0⟩) 4 4,.slice (some ⟨114,0,some 0⟩) 4 4,.map (some 23),.map (some 24),.slice (some ⟨45,0,some 0⟩) 1 1,.int .i64 (-1)] 0 true 94,
 .aq [.pointer (some ⟨25,0,some 0⟩)] 0 true 89,
 .aq [.string ⟨#[69]⟩,zE,.slice (some ⟨15,0,some 1⟩) 3 3,.slice (some ⟨22,0,some 0⟩) 1 1,zN,zN,zN] 0 true 28,
 .aq [.string ⟨#[69]⟩,zE,.slice (some ⟨15,0,some 1⟩) 3 3,.slice (some ⟨22,0,some 0⟩) 1 1,zN,zN,zN] 0 true 28,
 .map [(.string ⟨#[69]⟩,.int .i64 2),(.string ⟨#[78]⟩,.int .i64 1)],
 .aq [.string ⟨#[69]⟩,zE,.slice (some ⟨15,0,some 1⟩) 3 3,.slice (some ⟨22,0,some 0⟩) 1 1,zN,zN,zN,.slice (some ⟨32,0,some 1⟩) 2 2,.map (some 29)] 0 true 190,
 .aq [.bool false,.string ⟨#[69]⟩,.string ⟨#[65]⟩,.bool false,.slice (some ⟨16,0,some 1⟩) 3 3] 0 true 51,
 .aq [.string ⟨#[69]⟩,.string ⟨#[78]⟩] 1 true 9,
 .aq [.bool false,.string ⟨#[69]⟩,.string ⟨#[78]⟩,.bool false,.slice (some ⟨17,0,some 1⟩) 1 1] 0 true 51,
 .aq [.bool true,.string ⟨#[78]⟩,zE,.bool false,.slice (some ⟨18,0,some 1⟩) 1 1] 0 true 51,
 .aq [.string ⟨#[69]⟩,.string ⟨#[78]⟩,.string ⟨#[91,48,93,43]⟩,.string ⟨#[116,111,112]⟩] 3 true 9,
 .aq [.bool false,.string ⟨#[69]⟩,.string ⟨#[65]⟩,.bool false,.slice (some ⟨16,0,some 1⟩) 3 3] 0 true 51,
 .aq [i64 3,zE,zU,zU,zU,zU,.string ⟨#[69]⟩,zE] 0 true 56,
 .aq [i64 1,.string ⟨#[43]⟩,zU,zU,zU,zU,zE,zE] 0 true 56,
 .aq [i64 3,zE,zU,zU,zU,zU,.string ⟨#[69]⟩,zE] 0 true 56,
 .aq [.bool false,.string ⟨#[69]⟩,.string ⟨#[78]⟩,.bool false,.slice (some ⟨17,0,some 1⟩) 1 1] 0 true 51,
 .aq [i64 3,zE,zU,zU,zU,zU,.string ⟨#[78]⟩,zE] 0 true 56,
 .aq [.bool true,.string ⟨#[78]⟩,zE,.bool false,.slice (some ⟨18,0,some 1⟩) 1 1] 0 true 51,
 .aq [i64 6,zE,.int .u64 281474976710656,zU,zU,zU,zE,zE] 0 true 56,
 .aq [.bool true,zE,.int .u64 281474976710656,zU,zU,zU,zE] 0 true 154,
 .aq [.bool true,zE,.int .u64 281474976710656,zU,zU,zU,zE] 0 true 154,
 .aq [.pointer (some ⟨25,0,some 0⟩)] 0 true 89,
 .aq [.bool false,.string ⟨#[69]⟩,.string ⟨#[65]⟩,.bool false,.slice (some ⟨16,0,some 1⟩) 3 3] 0 true 51,
 .aq [.bool false,.string ⟨#[69]⟩,.string ⟨#[65]⟩,.bool false,.slice (some ⟨16,0,some 1⟩) 3 3] 0 true 51,
 .aq [i64 0,i64 0,i64 0,.slice (some ⟨58,0,some 2⟩) 3 3] 0 true 67,
 .aq [i64 3,zE,zU,zU,zU,zU,.string ⟨#[69]⟩,zE] 0 true 56,
 .aq [.bool false,.string ⟨#[69]⟩,.string ⟨#[65]⟩,.bool false,.slice (some ⟨16,0,some 1⟩) 3 3] 0 true 51,
 .aq [i64 3,zE,zU,zU,zU,zU,.string ⟨#[69]⟩,zE] 0 true 56,
 .aq [i64 0,zU,zU,zU,zU] 0 true 65,
 .aq [i64 0,zU,zU,zU,zU] 0 true 65,
 .aq [i64 0,zU,zU,zU,zU] 0 true 65,
 .aq [i64 0,zU,zU,zU,zU,.int .i64 (-1),.int .u64 8796093022208,zU,zU,zU,i64 0,zU,zU,zU,zU] 2 true 65,
 .aq [i64 0] 0 true 3,
 .aq [i64 0,i64 1,i64 2] 2 true 3,
 .aq [i64 1,.string ⟨#[43]⟩,zU,zU,zU,zU,zE,zE] 0 true 56,
 .aq [.bool false,.string ⟨#[69]⟩,.string ⟨#[65]⟩,.bool false,.slice (some ⟨16,0,some 1⟩) 3 3] 0 true 51,
 .aq [i64 1,.string ⟨#[43]⟩,zU,zU,zU,zU,zE,zE] 0 true 56,
 .aq [.int .u8 43] 0 true 5,
 .aq [.int .i64 (-1),.int .u64 8796093022208,zU,zU,zU] 0 true 65,
 .aq [.int .i64 (-1),.int .u64 8796093022208,zU,zU,zU] 0 true 65,
 .aq [.int .i64 (-1),.int .u64 8796093022208,zU,zU,zU] 0 true 65,
 .aq [.int .i64 (-1),.int .u64 8796093022208,zU,zU,zU] 0 true 65,
 .aq [i64 1] 0 true 3,
 .aq [i64 3,zE,zU,zU,zU,zU,.string ⟨#[69]⟩,zE] 0 true 56,
 .aq [.bool false,.string ⟨#[69]⟩,.string ⟨#[65]⟩,.bool false,.slice (some ⟨16,0,some 1⟩) 3 3] 0 true 51,
 .aq [i64 3,zE,zU,zU,zU,zU,.string ⟨#[69]⟩,zE] 0 true 56,
 .aq [i64 0,zU,zU,zU,zU] 0 true 65,
 .aq [i64 0,zU,zU,zU,zU] 0 true 65,
 .aq [i64 0,zU,zU,zU,zU] 0 true 65,
 .aq [i64 2] 0 true 3,
 .aq [i64 0,i64 0,i64 0,.slice (some ⟨58,0,some 2⟩) 3 3] 0 true 67,
 .aq [i64 0,.slice (some ⟨56,0,some 2⟩) 3 3] 0 true 63,
 .aq [i64 0,.slice (some ⟨56,0,some 2⟩) 3 3,i64 0,.slice (some ⟨88,0,some 0⟩) 1 1,i64 1,.slice (some ⟨100,0,some 0⟩) 1 1,i64 2,.slice (some ⟨105,0,some 0⟩) 1 1,i64 2,.slice (some ⟨106,0,some 1⟩) 2 2,i64 3,.slice (some ⟨109,0,some 0⟩) 1 1] 5 true 63,
 .aq [i64 0,i64 0,i64 0,.slice (some ⟨58,0,some 2⟩) 3 3,i64 0,i64 1,i64 0,.slice (some ⟨90,0,some 0⟩) 1 1,i64 0,i64 2,i64 0,.slice (some ⟨102,0,some 0⟩) 1 1,i64 1,i64 0,i64 0,zN,i64 2,i64 0,i64 0,zN,i64 5,i64 0,i64 0,zN] 5 true 67,
 .aq [.bool false,.string ⟨#[69]⟩,.string ⟨#[78]⟩,.bool false,.slice (some ⟨17,0,some 1⟩) 1 1] 0 true 51,
 .aq [.bool false,.string ⟨#[69]⟩,.string ⟨#[78]⟩,.bool false,.slice (some ⟨17,0,some 1⟩) 1 1] 0 true 51,
 .aq [i64 0,i64 1,i64 0,.slice (some ⟨90,0,some 0⟩) 1 1] 0 true 67,
 .aq [i64 3,zE,zU,zU,zU,zU,.string ⟨#[78]⟩,zE] 0 true 56,
 .aq [.bool false,.string ⟨#[69]⟩,.string ⟨#[78]⟩,.bool false,.slice (some ⟨17,0,some 1⟩) 1 1] 0 true 51,
 .aq [i64 3,zE,zU,zU,zU,zU,.string ⟨#[78]⟩,zE] 0 true 56,
 .aq [i64 1,zU,zU,zU,zU] 0 true 65,
 .aq [i64 1,zU,zU,zU,zU] 0 true 65,
 .aq [i64 1,zU,zU,zU,zU] 0 true 65,
 .aq [i64 1,zU,zU,zU,zU] 0 true 65,
 .aq [i64 0] 0 true 3,
 .aq [i64 0] 0 true 3,
 .aq [.bool true,.string ⟨#[78]⟩,zE,.bool false,.slice (some ⟨18,0,some 1⟩) 1 1] 0 true 51,
 .aq [.bool true,.string ⟨#[78]⟩,zE,.bool false,.slice (some ⟨18,0,some 1⟩) 1 1] 0 true 51,
 .aq [i64 0,i64 2,i64 0,.slice (some ⟨102,0,some 0⟩) 1 1] 0 true 67,
 .aq [i64 6,zE,.int .u64 281474976710656,zU,zU,zU,zE,zE] 0 true 56,
 .aq [.bool true,.string ⟨#[78]⟩,zE,.bool false,.slice (some ⟨18,0,some 1⟩) 1 1] 0 true 51,
 .aq [i64 6,zE,.int .u64 281474976710656,zU,zU,zU,zE,zE] 0 true 56,
 .aq [i64 2,zU,zU,zU,zU] 0 true 65,
 .aq [i64 2,zU,zU,zU,zU] 0 true 65,
 .aq [i64 2,zU,zU,zU,zU] 0 true 65,
 .aq [i64 2,zU,zU,zU,zU] 0 true 65,
 .aq [i64 0] 0 true 3,
 .aq [i64 0] 0 true 3,
 .aq [.bool true,zE,.int .u64 281474976710656,zU,zU,zU,zE] 0 true 154,
 .aq [.int .i64 (-1),.int .u64 281474976710656,zU,zU,zU] 0 true 65,
 .aq [.int .i64 (-1),.int .u64 281474976710656,zU,zU,zU] 0 true 65,
 .aq [i64 2,zU,zU,zU,zU,.int .i64 (-1),.int .u64 281474976710656,zU,zU,zU] 1 true 65,
 .aq [.slice (some ⟨106,0,some 0⟩) 1 1] 0 true 61,
 .aq [i64 0,zU,zU,zU,zU] 0 true 65,
 .aq [i64 0,zU,zU,zU,zU] 0 true 65,
 .map [(.agg #[i64 0,i64 2,i64 0],.int .i64 1)],
 .aq [i64 0,i64 2,i64 0] 0 true 70,
 .aq [i64 0,i64 2,i64 0] 0 true 70,
 .aq [zU,zU,zU,zU,zU,zU,zU,zU,zU,zU,zU,zU,zU,zU,zU,zU] 0 true 54,
 .aq [.int .i64 (-1),.int .i64 (-1),.int .i64 (-1),.int .i64 (-1)] 0 true 3]
def KM:Value:=.tuple #[]
def sV:FY:=⟨31,[UK],UC,.tuple #[i64 0,zE],UC⟩
def nJ:FY:=⟨32,[UK],UC,U8,U3⟩
def FT:FY:=⟨33,[Ua],U6,KM,US⟩
def sj:FY:=⟨34,[Ua],US,KM,U1⟩
def kW:FY:=⟨35,[Ua],U1,KM,Vi⟩
theorem Ho:zV sV (nM env (fun _=>true) 400 20 sV.f sV.args sV.h)=true:=by kernel_rfl
theorem DJ:zV nJ (nM env (fun _=>true) 400 20 nJ.f nJ.args nJ.h)=true:=by kernel_rfl
theorem Rt:zV FT (nM env (fun _=>true) 400 20 FT.f FT.args FT.h)=true:=by kernel_rfl
theorem Hm:zV sj (nM env (fun _=>true) 400 20 sj.f sj.args sj.h)=true:=by kernel_rfl
theorem BR:zV kW (nM env (fun _=>true) 400 20 kW.f kW.args kW.h)=true:=by kernel_rfl
def Ls:List FY:=[sV,nJ,FT,sj,kW]
theorem Hf:∀ m∈Ls,Eh env m:=by{
intro m hm
simp only[Ls,List.mem_cons,List.not_mem_nil,or_false] at hm
have hC:=lG (N:=env) mixed A2 (fuel:=400) 20
rcases hm with rfl|rfl|rfl|rfl|rfl
·exact s5 hC Ho
·exact s5 hC DJ
·exact s5 hC Rt
·exact s5 hC Hm
·exact s5 hC BR}
noncomputable def SC:=xz (nM env (fun _=>true) 400 20) Ls
noncomputable def TZ:=Ef env (fun _=>true) 400 SC
noncomputable def Rd:=Ef env (fun _=>true) 400 TZ
theorem uA:((Rd 13 [] []).map fun p=>p.1)=some (.bool true):=by kernel_rfl
end Go.Proofs.YtmdmimkbpikmoaaGreat.Run5
namespace Go.Proofs.YtmdmimkbpikmoaaGreat
open Go.RowKit Am Ty
theorem o3 {h:ai}:FW env 13 [] h fun r h'=>r = .bool true∧h'=h:=by{
have h1:=Run5.uA
cases hc:Run5.Rd 13 [] [] with
| none=>rw[hc] at h1;cases h1
| some p=>
  obtain⟨r,h'⟩:=p
  rw[hc] at h1
  simp only[Option.map_some,Option.some.injEq] at h1
  subst h1
  have h2:=(mO mixed A2 (mO mixed A2 (xd (lG (N:=env) mixed A2 (fuel:=400) 20) Run5.Hf)) _ _ _ _ _ hc).2
  unfold FW
  exact⟨_,_,.fresh h2 (.bf rfl),rfl,rfl⟩}
end Go.Proofs.YtmdmimkbpikmoaaGreat
namespace Go.Proofs.YtmdmimkbpikmoaaGreat
set_option maxRecDepth 20000
open Go.RowKit Am Ty
theorem dF {all:Array Oper} {o:Oper} {s:St} {c:Call} {f:FuncId} {cap args:List Value} {fn:Func} {v:Value} {h':ai} (hw:aE all o s=some true) (ho:o.op = .call c) (hc:fp s c.callee=some (f,cap)) (ha:tL s c.args.toList=some args)
 (hf:env.P.funcs[f]? = some fn) (hnm:(fn.name == "runtime.NumGoroutine")=false) (hb:fn.body.isNone=false) (k:Ev env (.call f (args++cap) s.h v h')):One env all o s (.sl (.val v)) h':=.call hw ho hc ha hf hnm hb k
section
variable {h:ai} {v:Value} {fr:List gN} {l:List ByteArray} {b:ByteArray} {p:Int}
end
end Go.Proofs.YtmdmimkbpikmoaaGreat
