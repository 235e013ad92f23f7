/- Several texts, one behind the other. -/
import Derived.Test.YtmdmimkbpikmoaaGreatZG5
import Derived.Test.YtmdmimkbpikmoaaGreatZFa
set_option linter.unusedSimpArgs false
set_option linter.unusedVariables false
set_option maxHeartbeats 8000000
namespace Go.Proofs.YtmdmimkbpikmoaaGreat
set_option maxRecDepth 20000
open Go.RowKit Am Ty
structure RS where
 hk:ah
 es:List (ByteArray×Int)
 l:List ByteArray
 ar:Nat
 tt:List Value
structure Ot (h:ah) (im it:Nat) (x:RS):Prop where
 p:h <+: x.hk
 m:x.hk[im]? = some (.map (fU x.es))
 t:x.hk[it]? = some (.aA (x.l.map .string++x.tt) x.ar true 9)
theorem Ot.ext {h h':ah} {im it:Nat} {x:RS} (R:Ot h im it x) (hp:x.hk <+: h'):Ot h im it ⟨h',x.es,x.l,x.ar,x.tt⟩:=⟨R.p.trans hp,ag hp R.m,ag hp R.t⟩
def qS (U:List ByteArray) (x:RS):Nat:=2*pZ U x.es+x.l.length
theorem zg {all:Array Oper} {o:Oper} {r:List Oper} {s:St} {K:St→Prop} {x:Operand} {t y:Nat} {e:TypeId} {ti:TI} {cs cells tt:List Value} {n c id ar:Nat} (hw:aF all o s=some true) (ho:o.op = .call { callee:=.builtin .append,args:=#[x,.tmp y],argTypes:=#[t,t] }) (hu:env.P.underlying t=some (.slice e)) (ht:aq env.P e=some ti) (hs0:0<ti.size) (hz:(ti.zero.map fun z=>z.cells.size)=some ti.size) (hx:ev s x=some (.slice (some ⟨id,0,some ar⟩) n c)) (hid:s.h[id]? = some (.aA (cells++tt) ar true e)) (hl:cells.length=n*ti.size) (hy:aW s.fr y = .mx cs 1) (hc:cs.length=ti.size) (hb:(n+1)*ti.bytes≤140737488355328) (hn:n+1≤140737488355328) (k:OW env all r ({ s with h:=s.h.set id (av.aA (cells++cs) (ar+1) true e) }.a9 o.dst (.val (.slice (some ⟨id,0,some (ar+1)⟩) (n+1) (n+1)))) K):OW env all (o :: r) s K:=by{
have hi:cd s s.h ti.size (.tmp y)=some (cs,1):=by simp only[cd,hy,hc,Nat.one_mul,if_true]
refine oZ hw ho hu ht hs0 hz hx hid (by rw[List.length_append];omega) hi hb hn ?_
rw[← hl,List.take_left']
·exact k
·rfl}
section
variable {h:ah} {r:Value} {d:bM}
theorem vz {g:FuncId} {fn:Func} {st:Prod→List ByteArray} {a:ByteArray} (hk:Bk h r d) (hf:env.P.funcs[g]? = some fn) (hnm:(fn.name == "runtime.NumGoroutine")=false) (hbd:fn.body.isNone=false) (hU:(d.aa.flatMap st).length≤100000) (hP:∀ p∈d.aa,∀ u h1,h <+: h1→fR h1 u p.aj→FW env g [p.val u] h1 fun x h'=>h1 <+: h'∧aL h1 h' x (st p).length ((st p).map .string) 9) : FW env 135 [r,.string a,.func (.func g) #[] #[]] h fun x h'=>h <+: h'∧∃ im es,x = .map (some im)∧h.length≤im∧h'[im]? = some (.map (fU es))∧RI d.aa st a es []:=by{
have hk0:=hk
obtain⟨h0,ib,im,sv,up,uc,uf,ur,ub,rfl,hd,K⟩:=hk
have hd:=hd.mono K.p
obtain⟨p1,c1,p2,c2,p3,c3,p4,c4,p5,c5,rfl,rfl,rfl,rfl,rfl,l1,l2,l3,l4,l5⟩:=bH.form hd
obtain⟨es,hm,hes⟩:=K.m
have hb:=K.b
unfold bM.val at hb
simp only[List.cons_append,List.nil_append] at hb
have hkk:=br es
have hss:bj h sv (aE d.aa):=K.s.sl (b:=16) (by have:=bZ (ps:=d.aa);have:=cV.le hd.aa;omega)
obtain⟨pq,cq,rfl⟩:=hss.form
obtain⟨U,hUe⟩:∃ U,U=d.aa.flatMap st:=⟨_,rfl⟩
rw[← hUe] at hU
have hUm:∀ p∈d.aa,∀ n∈st p,n∈U:=fun p hp n hn=>by rw[hUe];exact List.mem_flatMap.2 ⟨p,hp,hn⟩
have hUl:∀ p∈d.aa,(st p).length≤100000:=fun p hp=>by
 refine Nat.le_trans ?_ hU
 rw[hUe,List.length_flatMap]
 exact sN (f:=fun p=>(st p).length) hp
refine fe Tryz.func135 ?_;simp only[push_cast]
refine zu ?_
iterate 1 (apply ei;·simp only[push_cast,env,Nat.reduceEqDiff,reduceIte,Nat.reduceAdd,Nat.reduceMul,Nat.reduceLeDiff,reduceCtorEq,Nat.reduceSub,Int.reduceToNat]<;>exact rfl)
refine zu ?_
refine kP (kt:=9) (et:=3) ak rfl kr ?_
iterate 1 (apply ei;·simp only[push_cast,env,Nat.reduceEqDiff,reduceIte,Nat.reduceAdd,Nat.reduceMul,Nat.reduceLeDiff,reduceCtorEq,Nat.reduceSub,Int.reduceToNat]<;>exact rfl)
refine zu ?_
iterate 1 (apply ei;·simp only[push_cast,env,Nat.reduceEqDiff,reduceIte,Nat.reduceAdd,Nat.reduceMul,Nat.reduceLeDiff,reduceCtorEq,Nat.reduceSub,Int.reduceToNat]<;>exact rfl)
refine df (t:=9) (cs:=[.string a]) (n:=1) ak ak ?_
refine aC ?_
have hlen:(h++[av.map []]).length=h.length+1:=by simp
rw[hlen]
have h0I:Ot h h.length (h.length+1) ⟨h++[av.map []]++[av.aA [.string a] 0 true 9],[],[a],0,[]⟩:=
 ⟨bU (bU (List.prefix_refl _)),bg aJ,by rw[← hlen];exact aJ⟩
generalize (h++[av.map []]++[av.aA [.string a] 0 true 9])=h2 at h0I ⊢
obtain⟨im,him⟩:∃ im,im=h.length:=⟨_,rfl⟩
rw[← him] at h0I hlen ⊢
refine fp (qS U) (fun x=>[(0,.val (.pointer (some ⟨ib,0,some 0⟩))),(2,.val (.func (.func g) #[] #[])),(7,.val (.map (some im))),(8,.val (.slice (some ⟨im+1,0,some x.ar⟩) x.l.length x.l.length))]) (fun x=>x.hk)
 (fun x=>Ot h im (im+1) x∧RI d.aa st a x.es x.l∧qS U x≤2*U.length+1) ⟨h2,[],[a],0,[]⟩ aK rfl ⟨h0I,.start,?_⟩ ?_
·have:=G8 (U:=U) (es:=[])
 simp only[qS,List.length_singleton]
 omega
rintro⟨hk,es,l,ver0,tt⟩ ⟨hS,hI,hM⟩
simp only at hI hM ⊢
rcases List.eq_nil_or_concat l with rfl|⟨l,x,hc⟩
·refine aC ?_
 refine af rfl ?_
 refine az ?_
 show CW _ _ _ _
 refine aC ?_
 refine ai ?_
 exact⟨_,ak,hS.p,im,es,rfl,by omega,hS.m,hI⟩
rw[List.concat_eq_append] at hc
subst hc
have hL:l.length+1≤2*U.length+1:=by simp only[qS,List.length_append,List.length_singleton] at hM;omega
have f1:(l++[x]).length=l.length+1:=by simp
have d1:decide (0<(l.length:Int)+1)=true:=decide_eq_true om
have d2:IntKind.i64.wrap ((l.length:Int)+1-1)=l.length:=by rw[Int.add_sub_cancel];exact ax om om
have d3:(0≤(l.length:Int)∧(l.length:Int)<(l.length:Int)+1)=True:=by simp;omega
have d4:((l++[x]).map Value.string++tt)[l.length]? = some (.string x):=by simp
have d5:(0≤(l.length:Int)∧(l.length:Int)≤(l.length:Int)+1)=True:=by simp;omega
have ht:=hS.t
simp only at ht
have hb1:=ag hS.p hb
simp only at hb1
refine fh f1 d1 ?_
refine ae rfl ?_
repeat (first|apply zs|apply zr|apply zn|((first|apply zx|apply zy);·simp only[push_cast,env,Nat.reduceEqDiff,reduceIte,Nat.reduceAdd,Nat.reduceMul,Nat.reduceLeDiff,reduceCtorEq,Nat.reduceSub,Int.reduceToNat,f1,d2,d3,ht,Nat.mul_one,d4,d5,Nat.zero_mul,Int.sub_zero,hb1]<;>first|exact rfl|exact .inl rfl|exact .inr rfl) | apply zq|apply zb|apply zo|apply zk|apply zl)
refine aZ d.aa.length (fun k (y:RS)=>[(0,.val (.pointer (some ⟨ib,0,some 0⟩))),(2,.val (.func (.func g) #[] #[])),(7,.val (.map (some im))),(8,.val (.slice (some ⟨im+1,0,some y.ar⟩) y.l.length y.l.length)),(9,.val (.string x)),(35,.val (.slice p1 d.aa.length c1)),(36,.val (i64 d.aa.length)),(37,.val (i64 k))]) (fun _ y=>y.hk)
 (fun k y=>Ot h im (im+1) y∧RM d.aa st a x y.es y.l k∧qS U y+1≤qS U ⟨hk,es,l++[x],ver0,tt⟩) ⟨hk,es,l,ver0,.string x :: tt⟩ aK rfl ⟨⟨hS.p,hS.m,?_⟩,hI.pop,?_⟩ ?_
·simp only
 rw[ht]
 simp
·simp [qS]
 omega
rintro k ⟨hk2,es2,l2,ver2,junk2⟩ hkn ⟨hS2,hI2,hM2⟩
simp only at hI2 hM2 ⊢
by_cases hlt:k<d.aa.length
·obtain⟨id,ar,own,c',cells,u,hv,hid,hrd,hu⟩:=cV.at (k:=5) (fun _ _=>rfl) (hd.aa.mono hS2.p) hlt
 cases hv
 have hmem:=List.getElem_mem hlt
 have hPk:=hP _ hmem u hk2 hS2.p hu
 have hYl:=hUl _ hmem
 obtain⟨ps,cs,rfl⟩:=bT.form hu
 have w1:=cg hlt
 have w2:=inc hlt l1
 have q3:=aS hlt
 refine aG q3 ?_
 refine ae rfl ?_
 simp only at hid
 by_cases b1:d.aa[k].sort=x
 ·have db:=decide_eq_true b1
  refine fi w1 hid hrd db ?_
  refine af rfl ?_
  refine aC ?_
  refine zc (f:=g) (cap:=[]) (args:=[d.aa[k].val (.slice ps d.aa[k].aj.length cs)]) (fn:=fn) ak hf hnm hbd ?_
  rw[List.append_nil]
  refine hPk.mono ?_
  rintro w h3 ⟨hp3,hG3⟩
  have hi1:=cD hS2.m
  have hi2:=cD hS2.t
  simp only at hi1 hi2
  obtain⟨pw,cw',rfl⟩:=hG3.form
  have hS3:=hS2.ext hp3
  simp only at hS3
  refine aC ?_
  refine aZ (st d.aa[k]).length (fun j (y:RS)=>[(0,.val (.pointer (some ⟨ib,0,some 0⟩))),(2,.val (.func (.func g) #[] #[])),(7,.val (.map (some im))),(8,.val (.slice (some ⟨im+1,0,some y.ar⟩) y.l.length y.l.length)),(9,.val (.string x)),(35,.val (.slice (some ⟨id,0,some ar⟩) d.aa.length c1)),(36,.val (i64 d.aa.length)),(37,.val (i64 k)),(47,.val (.slice pw (st d.aa[k]).length cw')),(48,.val (i64 (st d.aa[k]).length)),(49,.val (i64 j))]) (fun _ y=>y.hk)
   (fun j y=>Ot h im (im+1) y∧RM d.aa st a x y.es y.l k∧qS U y+1≤qS U ⟨hk,es,l++[x],ver0,tt⟩∧aL hk2 y.hk (.slice pw (st d.aa[k]).length cw') (st d.aa[k]).length ((st d.aa[k]).map .string) 9∧∀ n∈(st d.aa[k]).take j,dJ y.es n≠0) ⟨h3,es2,l2,ver2,junk2⟩ aK rfl ⟨hS3,hI2,hM2,hG3,by simp⟩ ?_
  rintro j ⟨hk4,es4,l4,ver4,junk4⟩ hjn ⟨hS4,hI4,hM4,hG4,hJ4⟩
  simp only at hI4 hM4 hG4 hJ4 ⊢
  by_cases hjl:j<(st d.aa[k]).length
  ·have hN4:bj hk4 _ (st d.aa[k]):=hG4.sl (b:=16) om
   obtain⟨id5,ver5,own5,c5',cells5,hv5,hid5,hc5⟩:=hN4.at hjl
   cases hv5
   have v1:=cg hjl
   have v2:=inc hjl om
   have v3:=aS hjl
   have hmem2:=List.getElem_mem hjl
   have hm4:=hS4.m
   have ht4:=hS4.t
   simp only at hm4 ht4
   have hkk4:=br es4
   have hz4:=hI4.z (st d.aa[k])[j]
   have hstep:∀ e',(∀ s,dJ es4 s≠0→dJ e' s≠0)→dJ e' (st d.aa[k])[j]≠0→∀ n∈(st d.aa[k]).take (j+1),dJ e' n≠0:=fun e' g1 g2 n hn=>by
    rw[List.take_succ_eq_append_getElem hjl,List.mem_append] at hn
    rcases hn with hn|hn
    ·exact g1 n (hJ4 n hn)
    ·rw[List.mem_singleton.1 hn];exact g2
   refine aG v3 ?_
   refine ae rfl ?_
   by_cases hN0:dJ es4 (st d.aa[k])[j]=0
   ·have hRx:rE d.aa st a (st d.aa[k])[j]:=by
     rcases hI4.h with e|e
     ·exact .one hmem (b1.trans e) hmem2
     ·exact .more e hmem b1 hmem2
    have hI5:=hI4.add hN0 hRx
    have hun:=(uO (es:=es4) hN0 (U:=U)).2 (hUm _ hmem _ hmem2)
    have hgr:∀ s,dJ es4 s≠0→dJ (dx es4 (st d.aa[k])[j] 1) s≠0:=fun s h=>by rw[eV];split<;>first|decide|exact h
    have hg2:dJ (dx es4 (st d.aa[k])[j] 1) (st d.aa[k])[j]≠0:=by rw[eV,if_pos rfl];decide
    have hmx:l4.length+1≤1000000:=by simp only[qS] at hM4 hM;omega
    have hne1:im≠im+1:=by omega
    rcases fy es4 (st d.aa[k])[j] with ⟨hg,h0'⟩ | hg
    ·refine C6 v1 hid5 hc5 hm4 hg hkk4 Nat.mul_one ?_
     refine ae rfl ?_
     refine aC ?_
     refine fN (kt:=9) (et:=3) (kd:=eZ) ak rfl rfl kr rfl ak hm4 ak ak rfl hkk4 ?_
     dsimp only
     rw[dY]
     refine aC ?_
     refine zg (t:=36) (cells:=l4.map .string) (tt:=junk4) ak rfl kr HB (by decide) rfl ak (by rw[aD hne1];exact ht4) (by simp) ak rfl (by simp only;omega) om ?_
     refine aG v2 ?_
     refine⟨hjl,⟨(hk4.set im (.map (fU (dx es4 (st d.aa[k])[j] 1)))).set (im+1) (.aA (l4.map .string++[.string (st d.aa[k])[j]]) (ver4+1) true 9),dx es4 (st d.aa[k])[j] 1,l4++[(st d.aa[k])[j]],ver4+1,[]⟩,(by simp only[push_cast,Nat.reduceEqDiff,reduceIte,List.length_append]),rfl,⟨a8 (a8 hS4.p om) om,?_,?_⟩,hI5,?_,?_,hstep _ hgr hg2⟩
     ·simp only
      rw[aD om]
      exact aw hm4
     ·simp only
      rw[aw (by rw[aD hne1];exact ht4)]
      simp
     ·simp only[qS,List.length_append,List.length_singleton] at hM4 hun ⊢
      omega
     ·refine hG4.mono fun q o hj ho=>?_
      have:=(hG4.lt hj).1
      rw[aD om,aD om]
      exact ho
    ·rw[hN0] at hg
     refine C6 v1 hid5 hc5 hm4 hg hkk4 Nat.mul_one ?_
     refine ae rfl ?_
     refine aC ?_
     refine fN (kt:=9) (et:=3) (kd:=eZ) ak rfl rfl kr rfl ak hm4 ak ak rfl hkk4 ?_
     dsimp only
     rw[dY]
     refine aC ?_
     refine zg (t:=36) (cells:=l4.map .string) (tt:=junk4) ak rfl kr HB (by decide) rfl ak (by rw[aD hne1];exact ht4) (by simp) ak rfl (by simp only;omega) om ?_
     refine aG v2 ?_
     refine⟨hjl,⟨(hk4.set im (.map (fU (dx es4 (st d.aa[k])[j] 1)))).set (im+1) (.aA (l4.map .string++[.string (st d.aa[k])[j]]) (ver4+1) true 9),dx es4 (st d.aa[k])[j] 1,l4++[(st d.aa[k])[j]],ver4+1,[]⟩,(by simp only[push_cast,Nat.reduceEqDiff,reduceIte,List.length_append]),rfl,⟨a8 (a8 hS4.p om) om,?_,?_⟩,hI5,?_,?_,hstep _ hgr hg2⟩
     ·simp only
      rw[aD om]
      exact aw hm4
     ·simp only
      rw[aw (by rw[aD hne1];exact ht4)]
      simp
     ·simp only[qS,List.length_append,List.length_singleton] at hM4 hun ⊢
      omega
     ·refine hG4.mono fun q o hj ho=>?_
      have:=(hG4.lt hj).1
      rw[aD om,aD om]
      exact ho
   ·have h1:=hz4.resolve_left hN0
    have hg:=(fy es4 (st d.aa[k])[j]).resolve_left (fun h=>hN0 h.2)
    rw[h1] at hg
    refine C6 v1 hid5 hc5 hm4 hg hkk4 Nat.mul_one ?_
    refine af rfl ?_
    refine aG v2 ?_
    exact⟨hjl,⟨hk4,es4,l4,ver4,junk4⟩,aK,rfl,hS4,hI4,hM4,hG4,hstep _ (fun _ h=>h) hN0⟩
  ·have v3:=aP hjl
   obtain rfl:j=(st d.aa[k]).length:=by omega
   rw[List.take_length] at hJ4
   refine aG v3 ?_
   refine af rfl ?_
   refine az ?_
   show CW _ _ _ _
   refine aG w2 ?_
   exact⟨hlt,⟨hk4,es4,l4,ver4,junk4⟩,aK,rfl,hS4,hI4.next hlt (fun _=>hJ4),hM4⟩
 ·have db:=decide_eq_false b1
  refine fi w1 hid hrd db ?_
  refine ae rfl ?_
  refine az ?_
  show CW _ _ _ _
  refine aG w2 ?_
  exact⟨hlt,⟨hk2,es2,l2,ver2,junk2⟩,aK,rfl,hS2,hI2.next hlt (fun e=>absurd e b1),hM2⟩
·have q3:=aP hlt
 obtain rfl:k=d.aa.length:=by omega
 refine aG q3 ?_
 refine af rfl ?_
 refine az ?_
 exact⟨⟨hk2,es2,l2,ver2,junk2⟩,by omega,aK,rfl,hS2,hI2.fin,by omega⟩}
end
def ej (l:List Sym):List Sym:=l.filter fun s=>!dG s
theorem sD {l:List Sym} {k:Nat} (hk:k<l.length):ej (l.take (k+1))=if dG l[k]=true then ej (l.take k) else ej (l.take k)++[l[k]]:=by{
unfold ej
rw[List.take_succ_eq_append_getElem hk,List.filter_append]
cases h:dG l[k]<;>simp [h]}
theorem uy {l:List Sym}:(ej l).length≤l.length:=List.length_filter_le _ _
def gG (l:List Sym):List ByteArray:=match ej l with
 | [s]=>if ((decide (s.kind=3)||decide (s.kind=6)) && !b7 s.name)=true then [s.name] else []
 | _=>[]
theorem CU {l:List Sym}:(gG l).length≤1:=by{
unfold gG
split
·split<;>simp
·simp}
theorem va {l:List Sym}:(l.flatMap Sym.cells).length=l.length*8:=by{
induction l with
| nil=>rfl
| cons s l ih=>rw[List.flatMap_cons,List.length_append,ih,List.length_cons];show 8+_=_;omega}
section
variable {h:ah} {r:Value} {d:bM}
theorem IJ {p:Prod} {u:Value} (hy:fR h u p.aj):FW env 136 [p.val u] h fun x h'=>h <+: h'∧aL h h' x (gG p.aj).length ((gG p.aj).map .string) 9:=by{
obtain⟨ps,cs,rfl⟩:=bT.form hy
have hle:p.aj.length*88≤140737488355328:=hy.1
have hl:p.aj.length≤140737488355328:=by omega
have z0:(ej []).length=0:=rfl
refine fe Tryz.func136 ?_;simp only[push_cast]
refine aC ?_
refine CW.mono (Q:=fun e s'=>e = .exit 0∧∃ (h1:ah) (q:Option Addr) (c:Nat),h <+: h1∧aL h h1 (.slice q (ej p.aj).length c) (ej p.aj).length ((ej p.aj).flatMap Sym.cells) 56∧s'.h=h1∧bA [(3,.val (.slice q (ej p.aj).length c))] s'.fr) ?_ ?_
·refine aZ p.aj.length (fun k (x:ah×Option Addr×Nat)=>[(3,.val (.slice x.2.1 (ej (p.aj.take k)).length x.2.2)),(7,.val (.slice ps p.aj.length cs)),(8,.val (i64 p.aj.length)),(9,.val (i64 k))]) (fun _ x=>x.1)
  (fun k x=>h <+: x.1∧aL h x.1 (.slice x.2.1 (ej (p.aj.take k)).length x.2.2) (ej (p.aj.take k)).length ((ej (p.aj.take k)).flatMap Sym.cells) 56) (h,none,0) (lH z0) rfl ⟨List.prefix_refl _,aL.nil⟩ ?_
 rintro k ⟨hk,q,cq⟩ hkn ⟨hp,hG⟩
 simp only at hp hG ⊢
 by_cases hlt:k<p.aj.length
 ·obtain⟨id,ar,own,c',hv,hid⟩:=bT.at (hy.mono hp) om
  cases hv
  have hg:=ig hlt
  have e1:=cg hlt
  have e2:=inc hlt hl
  have e3:=aS hlt
  have hs:=sD hlt
  have hlen:(ej (p.aj.take k)).length≤k:=by
   have:=uy (l:=p.aj.take k)
   rw[List.length_take] at this
   omega
  refine aG e3 ?_
  refine ae rfl ?_
  refine gV e1 hid hg ?_
  refine zj Tryz.func134 ?_
  refine rc.mono ?_
  rintro _ h1 ⟨rfl,rfl⟩
  cases hL:dG p.aj[k] with
  | true=>
    rw[if_pos hL] at hs
    refine aC ?_
    refine af rfl ?_
    refine aG e2 ?_
    refine⟨hlt,(h1,q,cq),(lH hs),rfl,hp,?_⟩
    rw[hs]
    exact hG
  | false=>
    rw[if_neg (by rw[hL];decide)] at hs
    have hs2:(ej (p.aj.take (k+1))).length=(ej (p.aj.take k)).length+1:=by rw[hs];simp
    refine aC ?_
    refine ae rfl ?_
    refine aC ?_
    refine mn (t:=49) (cs:=Sym.cells p.aj[k]) ak rfl kr Jd (by decide) rfl ak rfl hG hp va rfl (by simp only;omega) om ?_
    intro p' c' h' k1 k2 _ _
    refine aG e2 ?_
    refine⟨hlt,(h',p',c'),(lH hs2),rfl,k2,?_⟩
    rw[hs,List.length_append,List.flatMap_append,List.flatMap_singleton]
    exact k1
 ·have e3:=aP hlt
  obtain rfl:k=p.aj.length:=by omega
  rw[List.take_length] at hG
  refine aG e3 ?_
  refine af rfl ?_
  refine az ?_
  refine⟨rfl,hk,q,cq,hp,hG,rfl,?_⟩
  rw[List.take_length]
  exact aK
rintro e s' ⟨rfl,h1,q,c,hp1,hG1,hh,hf⟩
show CW _ _ _ _
refine aB _ hf ?_
rw[hh]
clear hf hh s'
have hBr:gG p.aj=(match ej p.aj with
 | [s]=>if ((decide (s.kind=3)||decide (s.kind=6)) && !b7 s.name)=true then [s.name] else []
 | _=>[]):=rfl
have hML:=uy (l:=p.aj)
generalize ej p.aj=M at hG1 hBr hML ⊢
by_cases hl1:M.length=1
·obtain⟨s,rfl⟩:∃ x,M=[x]:=by
  match M,hl1 with
  | [x],_=>exact⟨x,rfl⟩
 obtain⟨io,vo,_,i2,i3⟩:=hG1.wz (by simp)
 cases i2
 rw[List.flatMap_singleton] at i3
 unfold Sym.cells at i3
 simp only at hBr
 by_cases q3:s.name=⟨#[]⟩
 ·have d3:=decide_eq_true q3
  by_cases q1:s.kind=3
  ·have d1:=decide_eq_true q1
   refine fi i3 d1 d3 Nat.mul_one ?_
   refine af rfl ?_
   refine aC ?_
   refine ai ?_
   refine⟨_,ak,hp1,?_⟩
   rw[hBr]
   rw[if_neg (by simp [b7,d3])]
   exact aL.nil
  ·have d1:=decide_eq_false q1
   by_cases q2:s.kind=6
   ·have d2:=decide_eq_true q2
    refine kL i3 d1 d2 d3 Nat.mul_one ?_
    refine af rfl ?_
    refine aC ?_
    refine ai ?_
    refine⟨_,ak,hp1,?_⟩
    rw[hBr]
    rw[if_neg (by simp [b7,d3])]
    exact aL.nil
   ·have d2:=decide_eq_false q2
    refine kL i3 d1 d2 d3 Nat.mul_one ?_
    refine af rfl ?_
    refine aC ?_
    refine ai ?_
    refine⟨_,ak,hp1,?_⟩
    rw[hBr]
    rw[if_neg (by simp [b7,d3])]
    exact aL.nil
 ·have d3:=decide_eq_false q3
  by_cases q1:s.kind=3
  ·have d1:=decide_eq_true q1
   refine fi i3 d1 d3 Nat.mul_one ?_
   refine ae rfl ?_
   refine zu ?_
   iterate 4 (apply ei;·simp only[push_cast,env,Nat.reduceEqDiff,reduceIte,Nat.reduceAdd,Nat.reduceMul,Nat.reduceLeDiff,reduceCtorEq,Nat.reduceSub,Int.reduceToNat,i3,Nat.mul_one]<;>exact rfl)
   refine df (t:=9) (cs:=[.string s.name]) (n:=1) ak ak ?_
   refine aC ?_
   refine ai ?_
   refine⟨_,ak,bU hp1,?_⟩
   rw[hBr,if_pos (by simp [b7,d1,d1,d3])]
   exact .inr ⟨h1.length,0,hp1.length_le,rfl,aJ⟩
  ·have d1:=decide_eq_false q1
   by_cases q2:s.kind=6
   ·have d2:=decide_eq_true q2
    refine kL i3 d1 d2 d3 Nat.mul_one ?_
    refine ae rfl ?_
    refine zu ?_
    iterate 4 (apply ei;·simp only[push_cast,env,Nat.reduceEqDiff,reduceIte,Nat.reduceAdd,Nat.reduceMul,Nat.reduceLeDiff,reduceCtorEq,Nat.reduceSub,Int.reduceToNat,i3,Nat.mul_one]<;>exact rfl)
    refine df (t:=9) (cs:=[.string s.name]) (n:=1) ak ak ?_
    refine aC ?_
    refine ai ?_
    refine⟨_,ak,bU hp1,?_⟩
    rw[hBr,if_pos (by simp [b7,d1,d2,d3])]
    exact .inr ⟨h1.length,0,hp1.length_le,rfl,aJ⟩
   ·have d2:=decide_eq_false q2
    refine kL i3 d1 d2 d3 Nat.mul_one ?_
    refine af rfl ?_
    refine aC ?_
    refine ai ?_
    refine⟨_,ak,hp1,?_⟩
    rw[hBr]
    rw[if_neg (by simp [d1,d2])]
    exact aL.nil
·have dn:decide ((M.length:Int)=1)=false:=decide_eq_false om
 refine aG dn ?_
 have hBe:gG p.aj=[]:=by
  rw[hBr]
  match M,hl1 with
  | [],_=>rfl
  | [x],h=>exact absurd rfl h
  | _ :: _ :: _,_=>rfl
 refine af rfl ?_
 refine aC ?_
 refine ai ?_
 refine⟨_,ak,hp1,?_⟩
 rw[hBe]
 exact aL.nil}
theorem EJ (hk:Bk h r d) (hpn:cX d≤160):FW env 77 [r] h fun x h'=>iK (∀ s∈aE d.aa,¬ rE d.aa (fun p=>gG p.aj) s s) x∧h'=h:=by{
refine mc ?_
have hk0:=hk
have hU:(d.aa.flatMap fun p=>gG p.aj).length≤100000:=by
 rw[List.length_flatMap]
 have:=nN (f:=fun p:Prod=>(gG p.aj).length) (B:=1) (l:=d.aa) fun p _=>CU
 unfold cX at hpn
 unfold cJ at this
 omega
obtain⟨h0,ib,im,sv,up,uc,uf,ur,ub,rfl,hd,K⟩:=hk
have hd:=hd.mono K.p
obtain⟨p1,c1,p2,c2,p3,c3,p4,c4,p5,c5,rfl,rfl,rfl,rfl,rfl,l1,l2,l3,l4,l5⟩:=bH.form hd
obtain⟨es,hm,hes⟩:=K.m
have hb:=K.b
unfold bM.val at hb
simp only[List.cons_append,List.nil_append] at hb
have hkk:=br es
have hss:bj h sv (aE d.aa):=K.s.sl (b:=16) (by have:=bZ (ps:=d.aa);have:=cV.le hd.aa;omega)
obtain⟨pq,cq,rfl⟩:=hss.form
have hsl:=hss.le
refine fe Tryz.func77 ?_;simp only[push_cast]
refine aG hb ?_
refine aZ (aE d.aa).length (fun k (x:ah)=>[(0,.val (.pointer (some ⟨ib,0,some 0⟩))),(9,.val (.slice pq (aE d.aa).length cq)),(10,.val (i64 (aE d.aa).length)),(11,.val (i64 k))]) (fun _ x=>x) (fun k x=>h <+: x∧∀ i (hi:i<(aE d.aa).length),i<k→¬ rE d.aa (fun p=>gG p.aj) (aE d.aa)[i] (aE d.aa)[i]) h aK rfl ⟨List.prefix_refl _,fun i _ hi=>absurd hi om⟩ ?_
rintro k h1 hkn ⟨hp,hall⟩
by_cases hlt:k<(aE d.aa).length
·obtain⟨id,ar,own,c',cells,hv,hid,hc⟩:=(bj.mono hss hp).at hlt
 cases hv
 have e1:=cg hlt
 have e2:=inc hlt hsl
 have e3:=aS hlt
 have hmem:(aE d.aa)[k]∈aE d.aa:=List.getElem_mem hlt
 generalize hS:(aE d.aa)[k]=S at hc hmem
 have hstep:¬ rE d.aa (fun p=>gG p.aj) S S→∀ i (hi:i<(aE d.aa).length),i<k+1→¬ rE d.aa (fun p=>gG p.aj) (aE d.aa)[i] (aE d.aa)[i]:=fun h3 i hi h2=>by
  rcases (by omega:i<k∨i=k) with h4|rfl
  ·exact hall i hi h4
  ·rw[hS];exact h3
 refine aG e3 ?_
 refine ae rfl ?_
 refine fi e1 hid hc Nat.mul_one ?_
 refine zj Tryz.func135 ?_
 refine (vz (st:=fun p=>gG p.aj) (hk0.mono hp) Tryz.func136 kr kr hU (fun p _ u h1 _ hy=>IJ hy)).mono ?_
 rintro _ h2 ⟨hp2,im2,es2,rfl,_,hm2,hR⟩
 have hkk2:=br es2
 have hdn:=hR.done (s:=S)
 have hz:=hR.z S
 generalize hn:dJ es2 S=n at hdn hz
 rcases fy es2 S with ⟨hg,h0'⟩ | hg
 ·obtain rfl:n=0:=by rw[← hn,h0']
  refine fi hm2 hg hkk2 Nat.mul_one ?_
  refine af rfl ?_
  refine aG e2 ?_
  exact⟨hlt,h2,aK,rfl,hp.trans hp2,hstep (fun h=>hdn.2 h rfl)⟩
 ·rw[hn] at hg
  rcases hz with rfl|rfl
  ·refine fi hm2 hg hkk2 Nat.mul_one ?_
   refine af rfl ?_
   refine aG e2 ?_
   exact⟨hlt,h2,aK,rfl,hp.trans hp2,hstep (fun h=>hdn.2 h rfl)⟩
  ·refine fi hm2 hg hkk2 Nat.mul_one ?_
   refine ae rfl ?_
   refine aC ?_
   refine ai ?_
   exact⟨_,ak,⟨48,_,rfl,⟨fun h=>(by cases h),fun h=>absurd (hdn.1 (by decide)) (h _ hmem)⟩⟩,hp.trans hp2⟩
·have e3:=aP hlt
 obtain rfl:k=(aE d.aa).length:=by omega
 refine aG e3 ?_
 refine af rfl ?_
 refine az ?_
 show CW _ _ _ _
 refine aC ?_
 refine ai ?_
 refine⟨_,ak,⟨0,_,rfl,fun _ s hs=>?_,fun _=>rfl⟩,hp⟩
 obtain⟨i,hi,rfl⟩:=List.getElem_of_mem hs
 exact hall i hi hi}
end
def iO (s:ByteArray) (e:Bool):Bool:=(b7 s&&e)||bI s
def jF (s:aX):Bool:=decide (s.a=0)&&(decide (s.b=0)&&(decide (s.c=0)&&decide (s.d=0)))
def bf (s:Sym):Bool:=
 if s.kind=1 then decide ((s.text.size:Int)≤32)&&(jF s.set&&(b7 s.name&&b7 s.sep))
 else if s.kind=2 then b7 s.text&&(b7 s.name&&b7 s.sep)
 else if s.kind=3 then b7 s.text&&(jF s.set&&(bI s.name&&b7 s.sep))
 else if s.kind=4 then b7 s.text&&(b7 s.sep&&(b7 s.name||(jF s.set&&bI s.name)))
 else if s.kind=5∨s.kind=6 then (if b7 s.name then b7 s.text&&b7 s.sep else b7 s.text&&(jF s.set&&(bI s.name&&decide ((s.sep.size:Int)≤32))))
 else false
def ct (p:Prod):Bool:=
 (bI p.sort&&(iO p.cons true&&(decide (p.aj.length≠0)&&decide (p.aj.length≤12))))&&((if p.lex then !p.bracket else (p.bracket == b7 p.cons))&&p.aj.all bf)
def dD (g:dK):Bool:=decide (0≤g.assoc)&&(decide (g.assoc≤3)&&(decide (g.cons.length≠0)&&(decide (g.cons.length≤16)&&g.cons.all bI)))
def dU (l:List dK):Bool:=l.all dD&&(decide (l.length≠0)&&decide (l.length≤16))
def jO (x:Item):Bool:=
 if x.kind=1 then decide ((x.text.size:Int)≤32)&&(decide (x.n=0)&&decide (x.bG.length=0))
 else if x.kind=2 then b7 x.text&&((decide (0≤x.n)&&decide (x.n≤999999))&&decide (x.bG.length=0))
 else if x.kind=3∨x.kind=4 then b7 x.text&&(decide (x.n=0)&&decide (x.bG.length=0))
 else if x.kind=5 then b7 x.text&&(decide (0≤x.n)&&decide (x.n≤999999))
 else if x.kind=6 then b7 x.text&&decide (x.n=0)
 else false
mutual
def Tp:Item→Bool
 | .mk k t n l=>jO (.mk k t n l)&&zO l
def zO:List Item→Bool
 | []=>true
 | x :: r=>Tp x&&zO r
end
def gI (b:Hy):Bool:=bI b.cons&&(zO b.bG&&decide (iY b.bG≤64))
def cE (d:bM):Bool:=
 (iO d.start true&&(iO d.layout true&&decide (d.aa.length≤200)))&&(d.aa.all ct&&(d.au.all dU&&(d.follows.all (fun f=>bI f.sort)&&(d.al.all (fun x=>bI x.sort&&bI x.jR)&&d.boxes.all gI))))
theorem rB:∀ l:List Item,zO l=l.all Tp
 | []=>rfl
 | x :: l=>by unfold zO;rw[rB l];rfl
theorem MW (x:Item):Tp x=(jO x&&zO x.bG):=by cases x;rfl
theorem wh {b:ByteArray}:b7 b=true↔b.size=0:=by unfold b7;rw[decide_eq_true_eq];exact jb
theorem Df {b:ByteArray} (h:bI b=true):b7 b=false:=by{
cases e:b7 b with
| false=>rfl
| true=>
  rw[wh] at e
  unfold bI at h
  rw[e] at h
  simp at h}
section
variable {h:ah}
theorem el {s:ByteArray} {e:Bool} (hs:s.size≤mo):FW env 170 [.string s,.bool e] h fun r h'=>r = .bool (iO s e)∧h'=h:=by{
refine fe Tryz.func170 ?_;simp only[push_cast]
by_cases q:s=⟨#[]⟩
·have d:=decide_eq_true q
 cases e with
 | true=>
   refine aG d ?_
   refine ai ?_
   exact⟨_,ak,by simp [cI,iO,b7,d],rfl⟩
 | false=>
   refine aG d ?_
   refine zj Tryz.func49 ?_
   refine (y4 hs).mono ?_
   rintro _ h1 ⟨rfl,rfl⟩
   refine aC ?_
   refine ai ?_
   exact⟨_,ak,by simp [cI,iO,b7,d],rfl⟩
·have d:=decide_eq_false q
 refine aG d ?_
 refine zj Tryz.func49 ?_
 refine (y4 hs).mono ?_
 rintro _ h1 ⟨rfl,rfl⟩
 refine aC ?_
 refine ai ?_
 exact⟨_,ak,by simp [cI,iO,b7,d],rfl⟩}
theorem iE {s:ByteArray}:iO s false=bI s:=by unfold iO;rw[Bool.and_false,Bool.false_or]
theorem xY {s:Sym} (hw:ul s):FW env 203 [s.val] h fun r h'=>r = .bool (bf s)∧h'=h:=by{
refine fe Tryz.func203 ?_;simp only[push_cast]
refine zu ?_
refine aC ?_
obtain⟨z,hz⟩:∃ z,z=jF s.set:=⟨_,rfl⟩
refine aB [(1,.box [i64 s.kind,.string s.text,u64 s.set.a,u64 s.set.b,u64 s.set.c,u64 s.set.d,.string s.name,.string s.sep]),(3,.val (.bool (!z))),(9,.val (i64 s.kind)),(10,.val (.bool (decide (s.kind=1))))] (by rw[hz];unfold jF;exact aK) ?_
show CW _ _ ⟨_,[],h⟩ _
by_cases k1:s.kind=1
·have d1:=decide_eq_true k1
 rw[d1]
 refine ae rfl ?_
 refine aC ?_
 refine ai ?_
 exact⟨_,ak,by simp [cI,bf,b7,Bool.and_assoc,k1,hz],rfl⟩
have d1:=decide_eq_false k1
rw[d1]
refine af rfl ?_
by_cases k2:s.kind=2
·have d2:=decide_eq_true k2
 refine aG d2 ?_
 refine ae rfl ?_
 refine aC ?_
 refine ai ?_
 exact⟨_,ak,by simp [cI,bf,b7,Bool.and_assoc,k2],rfl⟩
have d2:=decide_eq_false k2
refine aG d2 ?_
refine af rfl ?_
by_cases k3:s.kind=3
·have d3:=decide_eq_true k3
 refine aG d3 ?_
 refine ae rfl ?_
 by_cases q1:s.text=⟨#[]⟩
 ·have g1:=decide_eq_true q1
  cases z with
  | true=>
    refine aG g1 ?_
    refine zj Tryz.func170 ?_
    refine (el hw.name).mono ?_
    rintro _ h1 ⟨rfl,rfl⟩
    rw[iE]
    cases hN:bI s.name with
    | true=>
      refine aC ?_
      refine ai ?_
      exact⟨_,ak,by simp [cI,bf,b7,Bool.and_assoc,k3,← hz,hN,g1],rfl⟩
    | false=>
      refine aC ?_
      refine ai ?_
      exact⟨_,ak,by simp [cI,bf,b7,Bool.and_assoc,k3,← hz,hN,g1],rfl⟩
  | false=>
    refine aG g1 ?_
    refine ai ?_
    exact⟨_,ak,by simp [cI,bf,b7,Bool.and_assoc,k3,← hz,g1],rfl⟩
 ·have g1:=decide_eq_false q1
  refine aG g1 ?_
  refine ai ?_
  exact⟨_,ak,by simp [cI,bf,b7,Bool.and_assoc,k3,g1],rfl⟩
have d3:=decide_eq_false k3
refine aG d3 ?_
refine af rfl ?_
by_cases k4:s.kind=4
·have d4:=decide_eq_true k4
 refine aG d4 ?_
 refine ae rfl ?_
 by_cases q1:s.text=⟨#[]⟩
 ·have g1:=decide_eq_true q1
  by_cases q2:s.sep=⟨#[]⟩
  ·have g2:=decide_eq_true q2
   by_cases q3:s.name=⟨#[]⟩
   ·have g3:=decide_eq_true q3
    refine gV g1 g2 g3 ?_
    refine ai ?_
    exact⟨_,ak,by simp [cI,bf,b7,Bool.and_assoc,k4,g1,g2,g3],rfl⟩
   ·have g3:=decide_eq_false q3
    cases z with
    | true=>
      refine gV g1 g2 g3 ?_
      refine zj Tryz.func170 ?_
      refine (el hw.name).mono ?_
      rintro _ h1 ⟨rfl,rfl⟩
      rw[iE]
      cases hN:bI s.name with
      | true=>
        refine aC ?_
        refine ai ?_
        exact⟨_,ak,by simp [cI,bf,b7,Bool.and_assoc,k4,← hz,hN,g1,g2,g3],rfl⟩
      | false=>
        refine aC ?_
        refine ai ?_
        exact⟨_,ak,by simp [cI,bf,b7,Bool.and_assoc,k4,← hz,hN,g1,g2,g3],rfl⟩
    | false=>
      refine gV g1 g2 g3 ?_
      refine ai ?_
      exact⟨_,ak,by simp [cI,bf,b7,Bool.and_assoc,k4,← hz,g1,g2,g3],rfl⟩
  ·have g2:=decide_eq_false q2
   refine fh g1 g2 ?_
   refine ai ?_
   exact⟨_,ak,by simp [cI,bf,b7,Bool.and_assoc,k4,g1,g2],rfl⟩
 ·have g1:=decide_eq_false q1
  refine aG g1 ?_
  refine ai ?_
  exact⟨_,ak,by simp [cI,bf,b7,Bool.and_assoc,k4,g1],rfl⟩
have d4:=decide_eq_false k4
refine aG d4 ?_
refine af rfl ?_
by_cases k5:s.kind=5
·have d5:=decide_eq_true k5
 refine aG d5 ?_
 refine ae rfl ?_
 refine cz ?_
 show CW _ _ _ _
 refine ae rfl ?_
 by_cases q3:s.name=⟨#[]⟩
 ·have g3:=decide_eq_true q3
  refine aG g3 ?_
  refine ae rfl ?_
  refine aC ?_
  refine ai ?_
  exact⟨_,ak,by simp [cI,bf,b7,Bool.and_assoc,k5,g3],rfl⟩
 have g3:=decide_eq_false q3
 refine aG g3 ?_
 refine af rfl ?_
 by_cases q1:s.text=⟨#[]⟩
 ·have g1:=decide_eq_true q1
  cases z with
  | true=>
    refine aG g1 ?_
    refine zj Tryz.func170 ?_
    refine (el hw.name).mono ?_
    rintro _ h1 ⟨rfl,rfl⟩
    rw[iE]
    cases hN:bI s.name with
    | true=>
      refine aC ?_
      refine ai ?_
      exact⟨_,ak,by simp [cI,bf,b7,Bool.and_assoc,k5,← hz,hN,g1,g3],rfl⟩
    | false=>
      refine aC ?_
      refine ai ?_
      exact⟨_,ak,by simp [cI,bf,b7,Bool.and_assoc,k5,← hz,hN,g1,g3],rfl⟩
  | false=>
    refine aG g1 ?_
    refine ai ?_
    exact⟨_,ak,by simp [cI,bf,b7,Bool.and_assoc,k5,← hz,g1,g3],rfl⟩
 ·have g1:=decide_eq_false q1
  refine aG g1 ?_
  refine ai ?_
  exact⟨_,ak,by simp [cI,bf,b7,Bool.and_assoc,k5,g1,g3],rfl⟩
have d5:=decide_eq_false k5
refine aG d5 ?_
refine af rfl ?_
by_cases k6:s.kind=6
·have d6:=decide_eq_true k6
 refine aG d6 ?_
 refine ae rfl ?_
 by_cases q3:s.name=⟨#[]⟩
 ·have g3:=decide_eq_true q3
  refine aG g3 ?_
  refine ae rfl ?_
  refine aC ?_
  refine ai ?_
  exact⟨_,ak,by simp [cI,bf,b7,Bool.and_assoc,k6,g3],rfl⟩
 have g3:=decide_eq_false q3
 refine aG g3 ?_
 refine af rfl ?_
 by_cases q1:s.text=⟨#[]⟩
 ·have g1:=decide_eq_true q1
  cases z with
  | true=>
    refine aG g1 ?_
    refine zj Tryz.func170 ?_
    refine (el hw.name).mono ?_
    rintro _ h1 ⟨rfl,rfl⟩
    rw[iE]
    cases hN:bI s.name with
    | true=>
      refine aC ?_
      refine ai ?_
      exact⟨_,ak,by simp [cI,bf,b7,Bool.and_assoc,k6,← hz,hN,g1,g3],rfl⟩
    | false=>
      refine aC ?_
      refine ai ?_
      exact⟨_,ak,by simp [cI,bf,b7,Bool.and_assoc,k6,← hz,hN,g1,g3],rfl⟩
  | false=>
    refine aG g1 ?_
    refine ai ?_
    exact⟨_,ak,by simp [cI,bf,b7,Bool.and_assoc,k6,← hz,g1,g3],rfl⟩
 ·have g1:=decide_eq_false q1
  refine aG g1 ?_
  refine ai ?_
  exact⟨_,ak,by simp [cI,bf,b7,Bool.and_assoc,k6,g1,g3],rfl⟩
have d6:=decide_eq_false k6
refine aG d6 ?_
refine af rfl ?_
refine aC ?_
refine ai ?_
exact⟨_,ak,by simp [cI,bf,b7,Bool.and_assoc,k1,k2,k3,k4,k5,k6],rfl⟩}
end
section
variable {h:ah} {r:Value} {d:bM}
theorem DG (hk:Bk h r d):FW env 80 [r] h fun x h'=>iK (∀ f∈d.follows,jF f.set=false) x∧h'=h:=by{
obtain⟨h0,ib,im,sv,up,uc,uf,ur,ub,rfl,hd,K⟩:=hk
have hd:=hd.mono K.p
obtain⟨p1,c1,p2,c2,p3,c3,p4,c4,p5,c5,rfl,rfl,rfl,rfl,rfl,l1,l2,l3,l4,l5⟩:=bH.form hd
obtain⟨es,hm,hes⟩:=K.m
have hb:=K.b
unfold bM.val at hb
simp only[List.cons_append,List.nil_append] at hb
have hkk:=br es
have hss:bj h sv (aE d.aa):=K.s.sl (b:=16) (by have:=bZ (ps:=d.aa);have:=cV.le hd.aa;omega)
obtain⟨pq,cq,rfl⟩:=hss.form
refine fe Tryz.func80 ?_;simp only[push_cast]
refine aG hb ?_
refine cO d.follows.length (fun k=>[(10,.val (.slice p3 d.follows.length c3)),(11,.val (i64 d.follows.length)),(12,.val (i64 k))]) (fun _=>h) (fun k=>∀ i (hi:i<d.follows.length),i<k→jF d.follows[i].set=false) aK rfl (fun i _ hi=>absurd hi om) ?_
intro k hkn hall
by_cases hlt:k<d.follows.length
·obtain⟨id,ar,own,c',hv,hid⟩:=bT.at hd.follows om
 cases hv
 have hg:=js hlt
 have e1:=cg hlt
 have e2:=inc hlt l3
 have e3:=aS hlt
 have hmem:=List.getElem_mem hlt
 have hstep:jF d.follows[k].set=false→∀ i (hi:i<d.follows.length),i<k+1→jF d.follows[i].set=false:=fun h3 i hi h2=>by
  rcases (by omega:i<k∨i=k) with h4|rfl
  ·exact hall i hi h4
  ·exact h3
 have hz:jF d.follows[k].set=(decide (d.follows[k].set.a=0)&&(decide (d.follows[k].set.b=0)&&(decide (d.follows[k].set.c=0)&&decide (d.follows[k].set.d=0)))):=rfl
 refine aG e3 ?_
 refine ae rfl ?_
 refine gV e1 hid hg ?_
 refine dF ak (fun b1=>?_) (fun b1=>?_)
 ·have b2:jF d.follows[k].set=true:=by rw[hz];simpa using b1
  refine aC ?_
  refine aQ 3 mixed kr ?_
  refine aC ?_
  refine ai ?_
  exact⟨_,ak,⟨51,_,rfl,⟨fun h=>(by cases h),fun h=>absurd (h _ hmem) (by rw[b2];decide)⟩⟩,rfl⟩
 ·have b2:jF d.follows[k].set=false:=by
   rw[hz]
   cases e:(decide (d.follows[k].set.a=0)&&(decide (d.follows[k].set.b=0)&&(decide (d.follows[k].set.c=0)&&decide (d.follows[k].set.d=0)))) with
   | false=>rfl
   | true=>
     simp at e
     simp [e] at b1
  refine aG e2 ?_
  exact⟨hlt,aK,rfl,hstep b2⟩
·have e3:=aP hlt
 obtain rfl:k=d.follows.length:=by omega
 refine aG e3 ?_
 refine af rfl ?_
 refine az ?_
 show CW _ _ _ _
 refine aC ?_
 refine ai ?_
 refine⟨_,ak,⟨0,_,rfl,fun _ p hp=>?_,fun _=>rfl⟩,rfl⟩
 obtain⟨i,hi,rfl⟩:=List.getElem_of_mem hp
 exact hall i hi hi}
def kw (ps:List Prod) (x:ByteArray):Prop:=∃ i,ju ps x i∧0≤i
def dB (c:List dK):List ByteArray:=c.flatMap (·.cons)
def gU (ps:List Prod) (l:List ByteArray):Prop:=(∀ x∈l,kw ps x)∧l.Nodup
theorem tf {c:List dK} {k:Nat} (hk:k<c.length):dB (c.take (k+1))=dB (c.take k)++c[k].cons:=by{
unfold dB
rw[List.take_succ_eq_append_getElem hk,List.flatMap_append]
simp}
structure PI (ps:List Prod) (es:List (ByteArray×Int)) (l:List ByteArray):Prop where
 g:∀ x,dJ es x=if zD l x=true then 1 else 0
 o:gU ps l
theorem PI.nil {ps:List Prod}:PI ps [] []:=⟨fun x=>by simp [dJ,iG,zD],by simp [gU]⟩
theorem PI.add {ps:List Prod} {es:List (ByteArray×Int)} {l:List ByteArray} {x:ByteArray} (P:PI ps es l) (hx:kw ps x) (h0:dJ es x=0):PI ps (dx es x 1) (l++[x]):=by{
have hn:x∉l:=fun h=>by rw[P.g,if_pos (cQ.2 h)] at h0;cases h0
refine⟨fun y=>?_,fun y hy=>?_,?_⟩
·rw[eV,P.g]
 by_cases e:y=x
 ·rw[if_pos e,if_pos (cQ.2 (by rw[e];simp))]
 ·rw[if_neg e]
  by_cases q:y∈l
  ·rw[if_pos (cQ.2 q),if_pos (cQ.2 (List.mem_append_left _ q))]
  ·rw[if_neg (fun k=>q (cQ.1 k)),if_neg (fun k=>?_)]
   rcases List.mem_append.1 (cQ.1 k) with k|k
   ·exact q k
   ·exact e (List.mem_singleton.1 k)
·rcases List.mem_append.1 hy with hy|hy
 ·exact P.o.1 y hy
 ·rw[List.mem_singleton.1 hy];exact hx
·rw[List.nodup_append]
 exact⟨P.o.2,by simp,fun a ha b hb e=>hn (by rw[← List.mem_singleton.1 hb,← e];exact ha)⟩}
theorem gU.pre {ps:List Prod} {l t:List ByteArray} (h:gU ps (l++t)):gU ps l:=⟨fun x hx=>h.1 x (List.mem_append_left _ hx),(List.nodup_append.1 h.2).1⟩
theorem vg {c:List dK} {k j:Nat} (hk:k<c.length):∃ t,dB c=dB (c.take k)++c[k].cons.take j++t:=by{
refine⟨c[k].cons.drop j++dB (c.drop (k+1)),?_⟩
have h1:dB c=dB (c.take (k+1))++dB (c.drop (k+1)):=by
 unfold dB
 rw[← List.flatMap_append,List.take_append_drop]
rw[h1,tf hk,List.append_assoc,List.append_assoc,← List.append_assoc (c[k].cons.take j),List.take_append_drop]}
def xh (d:bM):Prop:=∀ c∈d.au,gU d.aa (dB c)
theorem Jm (hk:Bk h r d):FW env 79 [r] h fun x h'=>iK (xh d) x∧h'=h:=by{
refine mc ?_
have hk0:=hk
obtain⟨h0,ib,im,sv,up,uc,uf,ur,ub,rfl,hd,K⟩:=hk
have hd:=hd.mono K.p
obtain⟨p1,c1,p2,c2,p3,c3,p4,c4,p5,c5,rfl,rfl,rfl,rfl,rfl,l1,l2,l3,l4,l5⟩:=bH.form hd
obtain⟨es,hm,hes⟩:=K.m
have hb:=K.b
unfold bM.val at hb
simp only[List.cons_append,List.nil_append] at hb
have hkk:=br es
have hss:bj h sv (aE d.aa):=K.s.sl (b:=16) (by have:=bZ (ps:=d.aa);have:=cV.le hd.aa;omega)
obtain⟨pq,cq,rfl⟩:=hss.form
refine fe Tryz.func79 ?_;simp only[push_cast]
refine aG hb ?_
refine aZ d.au.length (fun k (x:ah)=>[(0,.val (.pointer (some ⟨ib,0,some 0⟩))),(15,.val (.slice p2 d.au.length c2)),(16,.val (i64 d.au.length)),(17,.val (i64 k))]) (fun _ x=>x) (fun k x=>h <+: x∧∀ i (hi:i<d.au.length),i<k→gU d.aa (dB d.au[i])) h aK rfl ⟨List.prefix_refl _,fun i _ hi=>absurd hi om⟩ ?_
rintro k h1 hkn ⟨hp,hall⟩
by_cases hlt:k<d.au.length
·obtain⟨id,ar,own,c',cells,u,hv,hid0,hrd,hu⟩:=cV.at (k:=1) (fun _ _=>rfl) hd.au hlt
 cases hv
 have hid:=ag hp hid0
 have hu0:=hu
 obtain⟨ps,cs,rfl⟩:=cV.form hu
 have hg:=gZ hrd om
 simp only[List.getElem?_cons_zero,Nat.mul_one] at hg
 have w1:=cg hlt
 have w2:=inc hlt l2
 have q3:=aS hlt
 have hcl:d.au[k].length≤140737488355328:=by have:=cV.le hu0;omega
 refine aG q3 ?_
 refine ae rfl ?_
 refine fi w1 hid hg Nat.mul_one ?_
 refine kP (kt:=9) (et:=3) ak rfl kr ?_
 have hp2:h <+: h1++[av.map []]:=bU hp
 have hm0:(h1++[av.map []])[h1.length]? = some (.map (fU [])):=aJ
 have hlen:=hp.length_le
 generalize (h1++[av.map []])=h2 at hp2 hm0 ⊢
 generalize him:h1.length=im at hm0 hlen ⊢
 refine aC ?_
 refine aZ d.au[k].length (fun m (x:ah×List (ByteArray×Int))=>[(0,.val (.pointer (some ⟨ib,0,some 0⟩))),(6,.val (.map (some im))),(15,.val (.slice (some ⟨id,0,some ar⟩) d.au.length c2)),(16,.val (i64 d.au.length)),(17,.val (i64 k)),(22,.val (.slice ps d.au[k].length cs)),(23,.val (i64 d.au[k].length)),(24,.val (i64 m))]) (fun _ x=>x.1)
  (fun m x=>h <+: x.1∧x.1[im]? = some (.map (fU x.2))∧PI d.aa x.2 (dB (d.au[k].take m))) (h2,[]) aK rfl ⟨hp2,hm0,PI.nil⟩ ?_
 rintro m ⟨hk3,es3⟩ hmn ⟨hp3,hm3,hPI3⟩
 simp only at hp3 hm3 hPI3 ⊢
 by_cases hml:m<d.au[k].length
 ·obtain⟨id3,ver3,own3,c3',cells3,u3,hv3,hid3,hrd3,hu3⟩:=cV.at (k:=2) (fun _ _=>rfl) (hu0.mono hp3) hml
  cases hv3
  have hu3:bj hk3 u3 (d.au[k])[m].cons:=hu3
  obtain⟨id30,ver30,own30,c30',cells30,u30,hv30,hid30,hrd30,hu30⟩:=cV.at (k:=2) (fun _ _=>rfl) hu0 hml
  cases hv30
  have hu3e:u30=u3:=by
   have:=(ag hp3 hid30).symm.trans hid3
   cases this
   rw[hrd30] at hrd3
   simpa using hrd3
  subst hu3e
  have hu30:bj h u30 (d.au[k])[m].cons:=hu30
  obtain⟨p6,c6,rfl⟩:=bT.form hu30
  have hul:=bj.le hu30
  have v7:=cg hml
  have v8:=inc hml hcl
  have q4:=aS hml
  refine aG q4 ?_
  refine ae rfl ?_
  refine gV v7 hid3 hrd3 ?_
  have z0:((d.au[k])[m].cons.take 0)=[]:=rfl
  refine aZ (d.au[k])[m].cons.length (fun j (x:ah×List (ByteArray×Int))=>[(0,.val (.pointer (some ⟨ib,0,some 0⟩))),(6,.val (.map (some im))),(15,.val (.slice (some ⟨id,0,some ar⟩) d.au.length c2)),(16,.val (i64 d.au.length)),(17,.val (i64 k)),(22,.val (.slice (some ⟨id3,0,some ver3⟩) d.au[k].length cs)),(23,.val (i64 d.au[k].length)),(24,.val (i64 m)),(29,.val (.slice p6 (d.au[k])[m].cons.length c6)),(30,.val (i64 (d.au[k])[m].cons.length)),(31,.val (i64 j))]) (fun _ x=>x.1)
   (fun j x=>h <+: x.1∧x.1[im]? = some (.map (fU x.2))∧PI d.aa x.2 (dB (d.au[k].take m)++(d.au[k])[m].cons.take j)) (hk3,es3) aK rfl ⟨hp3,hm3,by rw[z0,List.append_nil];exact hPI3⟩ ?_
  rintro j ⟨hk4,es4⟩ hjn ⟨hp4,hm4,hPI4⟩
  simp only at hp4 hm4 hPI4 ⊢
  by_cases hjl:j<(d.au[k])[m].cons.length
  ·obtain⟨id5,ver5,own5,c5',cells5,hv5,hid5,hc5⟩:=(hu30.mono hp4).at hjl
   cases hv5
   have v1:=cg hjl
   have v2:=inc hjl hul
   have v3:=aS hjl
   have hb4:=ag hp4 hb
   have hkk4:=br es4
   refine aG v3 ?_
   refine ae rfl ?_
   refine kL v1 hid5 hc5 hb4 Nat.mul_one ?_
   refine zj Tryz.func24 ?_
   refine (rJ (hd.mono hp4)).mono ?_
   rintro _ h5 ⟨⟨ci,hci,rfl⟩,rfl⟩
   by_cases qc:ci<0
   ·have dc:=decide_eq_true qc
    refine aG dc ?_
    refine ae rfl ?_
    refine aC ?_
    refine ai ?_
    refine⟨_,ak,⟨50,_,rfl,⟨fun h=>(by cases h),fun h=>?_⟩⟩,hp4⟩
    have hc:=h _ (List.getElem_mem hlt)
    obtain⟨t,ht⟩:=vg (c:=d.au[k]) (k:=m) (j:=j+1) hml
    rw[ht] at hc
    have hc:=hc.pre
    rw[List.take_succ_eq_append_getElem hjl,← List.append_assoc] at hc
    exfalso
    obtain⟨i,h1,h2⟩:=hc.1 _ (List.mem_append_right _ (List.mem_singleton.2 rfl))
    have:=h1.AV hci
    omega
   ·have dc:=decide_eq_false qc
    have hgx:=hPI4.g (d.au[k])[m].cons[j]
    rcases fy es4 (d.au[k])[m].cons[j] with ⟨hg4,hn0⟩ | hg4
    ·have w9:IntKind.i64.wrap (0+1)=1:=by decide
     refine fi dc hm4 hg4 hkk4 ?_
     refine af rfl ?_
     refine fi hm4 hg4 hkk4 w9 ?_
     refine fN (kt:=9) (et:=3) (kd:=eZ) ak rfl rfl kr rfl ak hm4 ak ak rfl hkk4 ?_
     dsimp only
     rw[dY]
     refine aG v2 ?_
     refine⟨hjl,(h5.set im (.map (fU (dx es4 ((d.au[k])[m].cons[j]) 1))),dx es4 ((d.au[k])[m].cons[j]) 1),aK,rfl,a8 hp4 om,aw hm4,?_⟩
     rw[List.take_succ_eq_append_getElem hjl,← List.append_assoc]
     exact hPI4.add ⟨ci,hci,by omega⟩ hn0
    ·by_cases hmm:(d.au[k])[m].cons[j]∈dB (d.au[k].take m)++(d.au[k])[m].cons.take j
     ·rw[if_pos (cQ.2 hmm)] at hgx
      rw[hgx] at hg4
      refine fi dc hm4 hg4 hkk4 ?_
      refine ae rfl ?_
      refine aC ?_
      refine ai ?_
      refine⟨_,ak,⟨50,_,rfl,⟨fun h=>(by cases h),fun h=>?_⟩⟩,hp4⟩
      have hc:=h _ (List.getElem_mem hlt)
      obtain⟨t,ht⟩:=vg (c:=d.au[k]) (k:=m) (j:=j+1) hml
      rw[ht] at hc
      have hc:=hc.pre
      rw[List.take_succ_eq_append_getElem hjl,← List.append_assoc] at hc
      exfalso
      exact (List.nodup_append.1 hc.2).2.2 _ hmm _ (List.mem_singleton.2 rfl) rfl
     ·rw[if_neg (fun k=>hmm (cQ.1 k))] at hgx
      have hn0:=hgx
      rw[hgx] at hg4
      have w9:IntKind.i64.wrap (0+1)=1:=by decide
      refine fi dc hm4 hg4 hkk4 ?_
      refine af rfl ?_
      refine fi hm4 hg4 hkk4 w9 ?_
      refine fN (kt:=9) (et:=3) (kd:=eZ) ak rfl rfl kr rfl ak hm4 ak ak rfl hkk4 ?_
      dsimp only
      rw[dY]
      refine aG v2 ?_
      refine⟨hjl,(h5.set im (.map (fU (dx es4 ((d.au[k])[m].cons[j]) 1))),dx es4 ((d.au[k])[m].cons[j]) 1),aK,rfl,a8 hp4 om,aw hm4,?_⟩
      rw[List.take_succ_eq_append_getElem hjl,← List.append_assoc]
      exact hPI4.add ⟨ci,hci,by omega⟩ hn0
  ·have v3:=aP hjl
   obtain rfl:j=(d.au[k])[m].cons.length:=by omega
   rw[List.take_length,← tf hml] at hPI4
   refine aG v3 ?_
   refine af rfl ?_
   refine az ?_
   show CW _ _ _ _
   refine aG v8 ?_
   exact⟨hml,(hk4,es4),aK,rfl,hp4,hm4,hPI4⟩
 ·have q4:=aP hml
  obtain rfl:m=d.au[k].length:=by omega
  rw[List.take_length] at hPI3
  refine aG q4 ?_
  refine af rfl ?_
  refine az ?_
  show CW _ _ _ _
  refine aG w2 ?_
  refine⟨hlt,hk3,aK,rfl,hp3,fun i hi h2=>?_⟩
  rcases (by omega:i<k∨i=k) with h4|rfl
  ·exact hall i hi h4
  ·exact hPI3.o
·have e3:=aP hlt
 obtain rfl:k=d.au.length:=by omega
 refine aG e3 ?_
 refine af rfl ?_
 refine az ?_
 show CW _ _ _ _
 refine aC ?_
 refine ai ?_
 refine⟨_,ak,⟨0,_,rfl,fun _ p hp=>?_,fun _=>rfl⟩,hp⟩
 obtain⟨i,hi,rfl⟩:=List.getElem_of_mem hp
 exact hall i hi hi}
end
theorem oO:∀ {n:Nat} {l:List Nat},l.Nodup→(∀ i∈l,i<n)→l.length≤n
 | 0,l,_,h=>by
   cases l with
   | nil=>simp
   | cons a l=>exact absurd (h a List.mem_cons_self) om
 | n+1,l,hd,h=>by
   have h1:(l.filter (fun i=>decide (i≠n))).length≤n:=oO (hd.filter _) fun i hi=>by
    have:=List.mem_filter.1 hi
    have h2:=h i this.1
    have h3:=of_decide_eq_true this.2
    omega
   have h2:∀ l:List Nat,l.Nodup→l.length≤(l.filter (fun i=>decide (i≠n))).length+1:=by
    intro l
    induction l with
    | nil=>intro _;simp
    | cons a l ih=>
      intro hd
      rw[List.nodup_cons] at hd
      by_cases e:a=n
      ·subst e
       have:(l.filter (fun i=>decide (i≠a)))=l:=List.filter_eq_self.2 fun i hi=>decide_eq_true fun e=>hd.1 (e▸hi)
       rw[List.filter_cons,if_neg (by simp),this]
       simp
      ·rw[List.filter_cons,if_pos (by simpa using e)]
       have:=ih hd.2
       simp only[List.length_cons]
       omega
   have:=h2 l hd
   omega
theorem iB {l:List Nat} {i:Nat} (h:l.Nodup) (hi:i∉l):(l++[i]).Nodup:=by
 rw[List.nodup_append]
 exact⟨h,by simp,fun a ha b hb e=>hi (by rw[← List.mem_singleton.1 hb,← e];exact ha)⟩
def eB (L:List ByteArray) (s:ByteArray):Nat:=L.countP fun x=>decide (s=x)
theorem Aj {L:List ByteArray} {x s:ByteArray}:eB (L++[x]) s=eB L s+(if s=x then 1 else 0):=by{
unfold eB
rw[List.countP_append,List.countP_singleton]
by_cases h:s=x<;>simp [h]}
theorem yz {L:List ByteArray} {s:ByteArray}:eB L s≤L.length:=List.countP_le_length
def uz (d:bM):List ByteArray:=d.al.map (·.sort)++d.follows.map (·.sort)
def iI (d:bM) (s:ByteArray):Bool:=decide (0<eB (uz d) s)
def sx (d:bM) (x:dC):Bool:=!eP d.aa x.sort true||(!eP d.aa x.jR true||(decide (x.sort=x.jR)||iI d x.jR))
def jL (d:bM) (x:dC) (j:Nat):Bool:=sx d x||(d.al.take j).any fun y=>decide (y.sort=x.sort)
theorem C4 {d:bM} {x:dC} {j:Nat} (hj:j<d.al.length):jL d x (j+1)=(jL d x j||decide (d.al[j].sort=x.sort)):=by{
unfold jL
rw[List.take_succ_eq_append_getElem hj,List.any_append,Bool.or_assoc]
simp}
def td (d:bM):Prop:=∀ (i:Nat) (hi:i<d.al.length),jL d d.al[i] i=false∧∀ s,rE d.aa (fun p=>cW p.aj) d.al[i].jR s→iI d s=false
structure HI (es:List (ByteArray×Int)) (L:List ByteArray):Prop where
 g:∀ s,dJ es s=eB L s
theorem HI.add {es:List (ByteArray×Int)} {L:List ByteArray} (H:HI es L) (x:ByteArray):HI (dx es x (eB L x+1)) (L++[x]):=
 ⟨fun s=>by
  rw[eV,Aj,H.g]
  by_cases e:s=x
  ·subst e;simp
  ·simp [e]⟩
section
variable {h:ah} {r:Value} {d:bM}
theorem fj {α β:Type} {f:α→β} {l:List α} {k:Nat} (hk:k<l.length):(l.take (k+1)).map f=(l.take k).map f++[f l[k]]:=by
 rw[List.take_succ_eq_append_getElem hk,List.map_append]
 rfl
structure HR (h:ah) (im:Nat) (x:ah×List (ByteArray×Int)) (L:List ByteArray):Prop where
 p:h <+: x.1
 m:x.1[im]? = some (.map (fU x.2))
 i:HI x.2 L
theorem HR.put {h:ah} {im:Nat} {x:ah×List (ByteArray×Int)} {L:List ByteArray} (R:HR h im x L) (hl:h.length≤im) (s:ByteArray):HR h im (x.1.set im (.map (fU (dx x.2 s (eB L s+1)))),dx x.2 s (eB L s+1)) (L++[s]):=
 ⟨a8 R.p hl,aw R.m,R.i.add s⟩
def lp (d:bM) (es:List (ByteArray×Int)) (i:Nat):Bool:=match es[i]? with
 | some p=>iI d p.1
 | none=>false
theorem Fe (es:List (ByteArray×Int)):(fU es).all (fun p=>fT p.1)=true:=by{
unfold fU
rw[List.all_map,List.all_eq_true]
intro x _
rfl}
theorem Fc {es:List (ByteArray×Int)} {i:Nat} {k v:Value}:(fU es)[i]? = some (k,v)↔∃ p,es[i]? = some p∧k = .string p.1∧v=i64 p.2:=by{
unfold fU
rw[List.getElem?_map]
cases es[i]? with
| none=>simp
| some p=>simp [eq_comm]}
theorem F2 {d:bM} {es:List (ByteArray×Int)} {seen:List Nat} (h1:∀ i∈seen,i<es.length) (h2:∀ i,i<es.length→i∈seen):seen.any (lp d es)=es.any fun p=>iI d p.1:=by{
rw[Bool.eq_iff_iff,List.any_eq_true,List.any_eq_true]
constructor
·rintro⟨i,hi,hs⟩
 have:=h1 i hi
 unfold lp at hs
 rw[List.getElem?_eq_getElem this] at hs
 exact⟨_,List.getElem_mem this,hs⟩
·rintro⟨p,hp,hs⟩
 obtain⟨i,hi,rfl⟩:=List.getElem_of_mem hp
 refine⟨i,h2 i hi,?_⟩
 unfold lp
 rw[List.getElem?_eq_getElem hi]
 exact hs}
theorem Dq (hk:Bk h r d) (hpn:cX d≤160):FW env 78 [r] h fun x h'=>iK (td d) x∧h'=h:=by{
refine mc ?_
have hk0:=hk
have hU:(d.aa.flatMap fun p=>cW p.aj).length≤100000:=by
 have:=w7 d.aa
 unfold cX at hpn
 unfold nP at this
 omega
obtain⟨h0,ib,im,sv,up,uc,uf,ur,ub,rfl,hd,K⟩:=hk
have hd:=hd.mono K.p
obtain⟨p1,c1,p2,c2,p3,c3,p4,c4,p5,c5,rfl,rfl,rfl,rfl,rfl,l1,l2,l3,l4,l5⟩:=bH.form hd
obtain⟨es,hm,hes⟩:=K.m
have hb:=K.b
unfold bM.val at hb
simp only[List.cons_append,List.nil_append] at hb
have hkk:=br es
have hss:bj h sv (aE d.aa):=K.s.sl (b:=16) (by have:=bZ (ps:=d.aa);have:=cV.le hd.aa;omega)
obtain⟨pq,cq,rfl⟩:=hss.form
have b1:d.al.length≤160:=by unfold cX at hpn;omega
have b2:d.follows.length≤160:=by unfold cX at hpn;omega
refine fe Tryz.func78 ?_;simp only[push_cast]
refine zu ?_
iterate 2 (refine zx tP ?_)
refine zu ?_
refine kP (kt:=9) (et:=3) ak rfl kr ?_
have hR0:HR h h.length (h++[av.map []],[]) []:=⟨aH,aJ,⟨fun s=>rfl⟩⟩
have him0:h.length≤h.length:=Nat.le_refl _
have hb1:=ag hR0.p hb
simp only at hb1
generalize (h++[av.map []])=h2 at hR0 hb1 ⊢
generalize him:h.length=im at hR0 him0 ⊢
refine aG hb1 ?_
refine CW.mono (Q:=fun e s'=>e = .exit 0∧∃ x:ah×List (ByteArray×Int),HR h im x (d.al.map (·.sort))∧s'.h=x.1∧bA [(0,.val (.pointer (some ⟨ib,0,some 0⟩))),(4,.val (.map (some im)))] s'.fr) ?_ ?_
·refine aZ d.al.length (fun k (x:ah×List (ByteArray×Int))=>[(0,.val (.pointer (some ⟨ib,0,some 0⟩))),(4,.val (.map (some im))),(20,.val (.slice p4 d.al.length c4)),(21,.val (i64 d.al.length)),(22,.val (i64 k))]) (fun _ x=>x.1) (fun k x=>HR h im x ((d.al.take k).map (·.sort))) (h2,[]) aK rfl hR0 ?_
 rintro k x hkn hR
 by_cases hlt:k<d.al.length
 ·obtain⟨id,ar,own,c',hv,hid⟩:=bT.at (bT.mono hd.al hR.p) om
  cases hv
  have hrd:=ij hlt
  have e1:=cg hlt
  have e2:=inc hlt l4
  have e3:=aS hlt
  have hm:=hR.m
  have hgk:=hR.i.g d.al[k].sort
  have hkk:=br x.2
  have hLb:=yz (L:=(d.al.take k).map (·.sort)) (s:=d.al[k].sort)
  have w9:IntKind.i64.wrap ((eB ((d.al.take k).map (·.sort)) d.al[k].sort:Int)+1)=(eB ((d.al.take k).map (·.sort)) d.al[k].sort:Int)+1:=ax om (by simp only[List.length_append,List.length_map,List.length_take] at hLb;omega)
  refine aG e3 ?_
  refine ae rfl ?_
  rcases fy x.2 d.al[k].sort with ⟨hg,h0'⟩ | hg
  ·rw[hgk] at h0'
   rw[h0'] at w9
   refine C6 e1 hid hrd hm hg hkk w9 ?_
   rw[show ((0:Int)+1)=(eB ((d.al.take k).map (·.sort)) d.al[k].sort:Int)+1 by rw[h0']]
   refine fN (kt:=9) (et:=3) (kd:=eZ) ak rfl rfl kr rfl ak hm ak ak rfl hkk ?_
   dsimp only
   rw[dY]
   refine aG e2 ?_
   refine⟨hlt,(x.1.set im (.map (fU (dx x.2 (d.al[k].sort) ((eB ((d.al.take k).map (·.sort)) (d.al[k].sort):Int)+1)))),dx x.2 (d.al[k].sort) ((eB ((d.al.take k).map (·.sort)) (d.al[k].sort):Int)+1)),aK,rfl,?_⟩
   show HR _ _ _ _
   rw[fj hlt]
   exact hR.put om _
  ·rw[hgk] at hg
   refine C6 e1 hid hrd hm hg hkk w9 ?_
   refine fN (kt:=9) (et:=3) (kd:=eZ) ak rfl rfl kr rfl ak hm ak ak rfl hkk ?_
   dsimp only
   rw[dY]
   refine aG e2 ?_
   refine⟨hlt,(x.1.set im (.map (fU (dx x.2 (d.al[k].sort) ((eB ((d.al.take k).map (·.sort)) (d.al[k].sort):Int)+1)))),dx x.2 (d.al[k].sort) ((eB ((d.al.take k).map (·.sort)) (d.al[k].sort):Int)+1)),aK,rfl,?_⟩
   show HR _ _ _ _
   rw[fj hlt]
   exact hR.put om _
 ·have e3:=aP hlt
  obtain rfl:k=d.al.length:=by omega
  rw[List.take_length] at hR
  refine aG e3 ?_
  refine af rfl ?_
  refine az ?_
  exact⟨rfl,x,hR,rfl,aK⟩
clear hR0 hb1
rintro e s' ⟨rfl,x1,hR1,hh,hf⟩
show CW _ _ _ _
refine aB _ hf ?_
rw[hh]
clear hf hh s'
have hb1:=ag hR1.p hb
refine aG hb1 ?_
refine CW.mono (Q:=fun e s'=>e = .exit 2∧∃ x:ah×List (ByteArray×Int),HR h im x (uz d)∧s'.h=x.1∧bA [(0,.val (.pointer (some ⟨ib,0,some 0⟩))),(4,.val (.map (some im)))] s'.fr) ?_ ?_
·refine aZ d.follows.length (fun k (x:ah×List (ByteArray×Int))=>[(0,.val (.pointer (some ⟨ib,0,some 0⟩))),(4,.val (.map (some im))),(36,.val (.slice p3 d.follows.length c3)),(37,.val (i64 d.follows.length)),(38,.val (i64 k))]) (fun _ x=>x.1) (fun k x=>HR h im x (d.al.map (·.sort)++(d.follows.take k).map (·.sort))) x1 aK rfl (by rw[List.take_zero,List.map_nil,List.append_nil];exact hR1) ?_
 clear hR1 hb1
 rintro k x hkn hR
 by_cases hlt:k<d.follows.length
 ·obtain⟨id,ar,own,c',hv,hid⟩:=bT.at (bT.mono hd.follows hR.p) om
  cases hv
  have hrd:=js hlt
  have e1:=cg hlt
  have e2:=inc hlt l3
  have e3:=aS hlt
  have hm:=hR.m
  have hgk:=hR.i.g d.follows[k].sort
  have hkk:=br x.2
  have hLb:=yz (L:=d.al.map (·.sort)++(d.follows.take k).map (·.sort)) (s:=d.follows[k].sort)
  have w9:IntKind.i64.wrap ((eB (d.al.map (·.sort)++(d.follows.take k).map (·.sort)) d.follows[k].sort:Int)+1)=(eB (d.al.map (·.sort)++(d.follows.take k).map (·.sort)) d.follows[k].sort:Int)+1:=ax om (by simp only[List.length_append,List.length_map,List.length_take] at hLb;omega)
  refine aG e3 ?_
  refine ae rfl ?_
  have hst:d.al.map (·.sort)++(d.follows.take (k+1)).map (·.sort)=(d.al.map (·.sort)++(d.follows.take k).map (·.sort))++[d.follows[k].sort]:=by rw[fj hlt,List.append_assoc]
  rcases fy x.2 d.follows[k].sort with ⟨hg,h0'⟩ | hg
  ·rw[hgk] at h0'
   rw[h0'] at w9
   refine C6 e1 hid hrd hm hg hkk w9 ?_
   rw[show ((0:Int)+1)=(eB (d.al.map (·.sort)++(d.follows.take k).map (·.sort)) d.follows[k].sort:Int)+1 by rw[h0']]
   refine fN (kt:=9) (et:=3) (kd:=eZ) ak rfl rfl kr rfl ak hm ak ak rfl hkk ?_
   dsimp only
   rw[dY]
   refine aG e2 ?_
   refine⟨hlt,(x.1.set im (.map (fU (dx x.2 (d.follows[k].sort) ((eB (d.al.map (·.sort)++(d.follows.take k).map (·.sort)) (d.follows[k].sort):Int)+1)))),dx x.2 (d.follows[k].sort) ((eB (d.al.map (·.sort)++(d.follows.take k).map (·.sort)) (d.follows[k].sort):Int)+1)),aK,rfl,?_⟩
   show HR _ _ _ _
   rw[hst]
   exact hR.put om _
  ·rw[hgk] at hg
   refine C6 e1 hid hrd hm hg hkk w9 ?_
   refine fN (kt:=9) (et:=3) (kd:=eZ) ak rfl rfl kr rfl ak hm ak ak rfl hkk ?_
   dsimp only
   rw[dY]
   refine aG e2 ?_
   refine⟨hlt,(x.1.set im (.map (fU (dx x.2 (d.follows[k].sort) ((eB (d.al.map (·.sort)++(d.follows.take k).map (·.sort)) (d.follows[k].sort):Int)+1)))),dx x.2 (d.follows[k].sort) ((eB (d.al.map (·.sort)++(d.follows.take k).map (·.sort)) (d.follows[k].sort):Int)+1)),aK,rfl,?_⟩
   show HR _ _ _ _
   rw[hst]
   exact hR.put om _
 ·have e3:=aP hlt
  obtain rfl:k=d.follows.length:=by omega
  rw[List.take_length] at hR
  refine aG e3 ?_
  refine af rfl ?_
  refine az ?_
  exact⟨rfl,x,hR,rfl,aK⟩
clear hR1 hb1
rintro e s' ⟨rfl,x2,hR2,hh,hf⟩
show CW _ _ _ _
refine aB _ hf ?_
rw[hh]
clear hf hh s'
have hb2:=ag hR2.p hb
have hHI:=hR2.i
obtain⟨h3,es3⟩:=x2
have hp3:=hR2.p
have hm3:=hR2.m
simp only at hp3 hm3 hHI hb2
have hkk3:=br es3
clear hR2
refine aG hb2 ?_
refine aZ d.al.length (fun k (x:ah)=>[(0,.val (.pointer (some ⟨ib,0,some 0⟩))),(4,.val (.map (some im))),(52,.val (.slice p4 d.al.length c4)),(53,.val (i64 d.al.length)),(54,.val (i64 k))]) (fun _ x=>x) (fun k x=>h3 <+: x∧∀ (i:Nat) (hi:i<d.al.length),i<k→jL d d.al[i] i=false∧∀ s,rE d.aa (fun p=>cW p.aj) d.al[i].jR s→iI d s=false) h3 aK rfl ⟨List.prefix_refl _,fun i _ hi=>absurd hi om⟩ ?_
rintro k hk4 hkn ⟨hp34,hall⟩
have hp4:=hp3.trans hp34
have hm4:=ag hp34 hm3
have hb4:=ag hp34 hb2
by_cases hlt:k<d.al.length
·obtain⟨id,ar,own,c',hv,hid⟩:=bT.at (bT.mono hd.al hp4) om
 cases hv
 have hrd:=ij hlt
 have e1:=cg hlt
 have e2:=inc hlt l4
 have e3:=aS hlt
 have hstep:(jL d d.al[k] k=false∧∀ s,rE d.aa (fun p=>cW p.aj) d.al[k].jR s→iI d s=false)→∀ (i:Nat) (hi:i<d.al.length),i<k+1→jL d d.al[i] i=false∧∀ s,rE d.aa (fun p=>cW p.aj) d.al[i].jR s→iI d s=false:=fun hq i hi h2=>by
  rcases (by omega:i<k∨i=k) with h4|rfl
  ·exact hall i hi h4
  ·exact hq
 have hfail:¬ (jL d d.al[k] k=false∧∀ s,rE d.aa (fun p=>cW p.aj) d.al[k].jR s→iI d s=false)→¬ td d:=fun hq hr=>hq (hr k hlt)
 generalize hX:d.al[k]=x at hrd hstep hfail
 refine aG e3 ?_
 refine ae rfl ?_
 refine zu ?_
 iterate 6 (refine zx (Rv e1 hid hrd) ?_)
 apply zn
 show CW _ _ _ _
 apply zs
 refine CW.mono (Q:=fun e s'=>e = .normal∧s'.h=hk4∧bA [(0,.val (.pointer (some ⟨ib,0,some 0⟩))),(4,.val (.map (some im))),(9,.val (i64 k)),(10,.box [.string x.sort,.string x.jR]),(11,.val (.bool (sx d x))),(52,.val (.slice (some ⟨id,0,some ar⟩) d.al.length c4)),(53,.val (i64 d.al.length)),(54,.val (i64 k))] s'.fr) ?_ ?_
 ·have hK4:=hk0.mono hp4
  refine aC ?_
  refine zj Tryz.func132 ?_
  refine (mM hK4).mono ?_
  rintro _ h5 ⟨rfl,e5⟩
  obtain rfl:=e5.symm
  cases g1:eP d.aa x.sort true with
  | false=>
    refine aC ?_
    rw[show sx d x=true by unfold sx;rw[g1];rfl]
    exact⟨rfl,rfl,aK⟩
  | true=>
  refine aC ?_
  refine zj Tryz.func132 ?_
  refine (mM hK4).mono ?_
  rintro _ h5 ⟨rfl,e5⟩
  obtain rfl:=e5.symm
  cases g2:eP d.aa x.jR true with
  | false=>
    refine aC ?_
    rw[show sx d x=true by unfold sx;rw[g1,g2];rfl]
    exact⟨rfl,rfl,aK⟩
  | true=>
  by_cases q:x.sort=x.jR
  ·have dq:=decide_eq_true q
   refine aG dq ?_
   rw[show sx d x=true by unfold sx;rw[g1,g2,dq];rfl]
   exact⟨rfl,rfl,aK⟩
  have dq:=decide_eq_false q
  have hgk:=hHI.g x.jR
  have hB:sx d x=decide ((0:Int)<((eB (uz d) x.jR:Nat):Int)):=by
   unfold sx iI
   rw[g1,g2,dq]
   by_cases q0:0<eB (uz d) x.jR
   ·rw[decide_eq_true q0,decide_eq_true om];rfl
   ·rw[decide_eq_false q0,decide_eq_false om];rfl
  rw[hB]
  rcases fy es3 x.jR with ⟨hg,h0'⟩ | hg
  ·rw[hgk] at h0'
   rw[h0']
   refine fi dq hm4 hg hkk3 ?_
   exact⟨rfl,rfl,aK⟩
  ·rw[hgk] at hg
   refine fi dq hm4 hg hkk3 ?_
   exact⟨rfl,rfl,aK⟩
 rintro e s' ⟨rfl,hh,hf⟩
 show CW _ _ _ _
 refine aB _ hf ?_
 rw[hh]
 clear hf hh s'
 have d5:(0≤(k:Int)∧(k:Int)≤(d.al.length:Int))=True:=by simp;omega
 have z0:jL d x 0=sx d x:=by simp [jL]
 repeat (first|apply zs|apply zr|apply zn|((first|apply zx|apply zy);·simp only[push_cast,env,Nat.reduceEqDiff,reduceIte,Nat.reduceAdd,Nat.reduceMul,Nat.reduceLeDiff,reduceCtorEq,Nat.reduceSub,Int.reduceToNat,hb4,d5,hid,Nat.zero_mul,Int.sub_zero]<;>first|exact rfl|exact .inl rfl|exact .inr rfl) | apply zq|apply zb|apply zo|apply zk|apply zl)
 refine CW.mono (Q:=fun e s'=>e = .exit 6∧s'.h=hk4∧bA [(0,.val (.pointer (some ⟨ib,0,some 0⟩))),(4,.val (.map (some im))),(10,.box [.string x.sort,.string x.jR]),(11,.val (.bool (jL d x k))),(52,.val (.slice (some ⟨id,0,some ar⟩) d.al.length c4)),(53,.val (i64 d.al.length)),(54,.val (i64 k))] s'.fr) ?_ ?_
 ·refine cO k (fun j=>[(0,.val (.pointer (some ⟨ib,0,some 0⟩))),(4,.val (.map (some im))),(10,.box [.string x.sort,.string x.jR]),(11,.val (.bool (jL d x j))),(52,.val (.slice (some ⟨id,0,some ar⟩) d.al.length c4)),(53,.val (i64 d.al.length)),(54,.val (i64 k)),(91,.val (.slice (some ⟨id,0,some ar⟩) k k)),(92,.val (i64 k)),(93,.val (i64 j))]) (fun _=>hk4) (fun _=>True) (lH z0) rfl trivial ?_
  intro j hjn _
  by_cases hjl:j<k
  ·have hjr:j<d.al.length:=by omega
   have hrj:=ij hjr
   have v1:=cg hjl
   have v2:=inc hjl om
   have v3:=aS hjl
   have hst:=C4 (x:=x) hjr
   refine aG v3 ?_
   refine ae rfl ?_
   refine fi v1 hid hrj v2 ?_
   exact⟨hjl,(lH hst),rfl,trivial⟩
  ·have v3:=aP hjl
   obtain rfl:j=k:=by omega
   refine aG v3 ?_
   refine af rfl ?_
   refine az ?_
   exact⟨rfl,rfl,aK⟩
 rintro e s' ⟨rfl,hh,hf⟩
 show CW _ _ _ _
 refine aB _ hf ?_
 rw[hh]
 clear hf hh s'
 refine aC ?_
 refine zj Tryz.func135 ?_
 refine (vz (st:=fun p=>cW p.aj) (hk0.mono hp4) Tryz.func128 kr kr hU (fun p _ u h1 _ hy=>yy hy)).mono ?_
 rintro _ h6 ⟨hp6,im6,es6,rfl,_,hm6,hR6⟩
 have hm4':=ag hp6 hm4
 refine EI (kt:=9) (et:=3) (es:=fU es6) ak rfl rfl kr ak hm6 ?_
 have hl6:(fU es6).length=es6.length:=by unfold fU;rw[List.length_map]
 rw[hl6]
 apply zn
 show CW _ _ _ _
 refine FZ (e:=.normal) [(0,.val (.pointer (some ⟨ib,0,some 0⟩))),(4,.val (.map (some im))),(10,.box [.string x.sort,.string x.jR]),(11,.val (.bool (jL d x k||es6.any fun p=>iI d p.1))),(52,.val (.slice (some ⟨id,0,some ar⟩) d.al.length c4)),(53,.val (i64 d.al.length)),(54,.val (i64 k))] h6 ?_ ?_
 ·refine xV ?_
  refine BM (fun m s=>∃ seen:List Nat,m+seen.length=es6.length∧seen.Nodup∧(∀ i∈seen,i<es6.length)∧s.h=h6∧bA [(0,.val (.pointer (some ⟨ib,0,some 0⟩))),(4,.val (.map (some im))),(10,.box [.string x.sort,.string x.jR]),(11,.val (.bool (jL d x k||seen.any (lp d es6)))),(52,.val (.slice (some ⟨id,0,some ar⟩) d.al.length c4)),(53,.val (i64 d.al.length)),(54,.val (i64 k)),(110,.nn im6 es6.length seen)] s.fr) es6.length ⟨[],by simp,.nil,by simp,rfl,?_⟩ ?_
  ·rw[List.any_nil,Bool.or_false]
   exact aK
  rintro m s ⟨seen,hms,hnd,hlt6,hh,hf⟩
  refine gY _ hf ?_
  rw[hh]
  clear hf hh s
  refine ta (R:=fun e s'=>e = .normal∧s'.h=h6∧(((∀ i,i<es6.length→i∈seen)∧bA [(0,.val (.pointer (some ⟨ib,0,some 0⟩))),(4,.val (.map (some im))),(10,.box [.string x.sort,.string x.jR]),(11,.val (.bool (jL d x k||seen.any (lp d es6)))),(52,.val (.slice (some ⟨id,0,some ar⟩) d.al.length c4)),(53,.val (i64 d.al.length)),(54,.val (i64 k)),(112,.val (.bool false))] s'.fr)∨∃ i p,es6[i]? = some p∧i∉seen∧bA [(0,.val (.pointer (some ⟨ib,0,some 0⟩))),(4,.val (.map (some im))),(10,.box [.string x.sort,.string x.jR]),(11,.val (.bool (jL d x k||seen.any (lp d es6)))),(52,.val (.slice (some ⟨id,0,some ar⟩) d.al.length c4)),(53,.val (i64 d.al.length)),(54,.val (i64 k)),(110,.nn im6 es6.length (seen++[i])),(112,.val (.bool true))] s'.fr)) ?_ ?_ ?_
  ·refine Cn (es:=fU es6) rfl rfl rfl rfl (by decide) rfl hm6 hl6 (Fe es6) (fun hA=>?_) (fun i kk v hkv hi=>?_)
   ·refine aC ?_
    exact⟨rfl,rfl,.inl ⟨hA,aK⟩⟩
   ·rw[Fc] at hkv
    obtain⟨p,hp,e1,e2⟩:=hkv
    refine aC ?_
    exact⟨rfl,rfl,.inr ⟨i,p,hp,hi,aK⟩⟩
  ·rintro e s' ⟨rfl,_⟩ he
   exact absurd rfl he
  ·rintro s' ⟨_,hh,⟨hA,hf⟩ | ⟨i,p,hp,hi,hf⟩⟩
   ·refine gY _ hf ?_
    rw[hh]
    clear hf hh s'
    refine SW.of ?_
    refine zu ?_
    refine af rfl ?_
    refine az ?_
    refine .inr ⟨by simp,?_⟩
    refine⟨rfl,?_,rfl⟩
    rw[F2 hlt6 hA]
    exact aK
   ·refine gY _ hf ?_
    rw[hh]
    clear hf hh s'
    refine SW.of ?_
    refine zu ?_
    refine ae rfl ?_
    refine cz ?_
    show CW _ _ _ _
    have hpe:(fU es6)[i]? = some (.string p.1,i64 p.2):=Fc.2 ⟨p,hp,rfl,rfl⟩
    have hgl:(seen++[i]).getLast? = some i:=by simp
    have hi6:=(List.getElem?_eq_some_iff.1 hp).1
    have hlt7:∀ q∈seen++[i],q<es6.length:=fun q hq=>by
     rcases List.mem_append.1 hq with hq|hq
     ·exact hlt6 q hq
     ·rw[List.mem_singleton.1 hq];exact hi6
    have hlen:=oO (iB hnd hi) hlt7
    rw[List.length_append,List.length_singleton] at hlen
    obtain⟨m',rfl⟩:∃ m',m=m'+1:=⟨m-1,by omega⟩
    have hsb:lp d es6 i=iI d p.1:=by unfold lp;rw[hp]
    have hst:(jL d x k||(seen++[i]).any (lp d es6))=((jL d x k||seen.any (lp d es6))||iI d p.1):=by
     rw[List.any_append,← Bool.or_assoc,List.any_cons,List.any_nil,Bool.or_false,hsb]
    cases hB:(jL d x k||seen.any (lp d es6)) with
    | true=>
      rw[hB,Bool.true_or] at hst
      refine fi hm6 hl6 hgl hpe ?_
      refine .inl ⟨rfl,m',rfl,seen++[i],by rw[List.length_append,List.length_singleton];omega,iB hnd hi,hlt7,rfl,?_⟩
      rw[hst]
      exact aK
    | false=>
      rw[hB,Bool.false_or] at hst
      have hgk:=hHI.g p.1
      have hhb:iI d p.1=decide ((0:Int)<((eB (uz d) p.1:Nat):Int)):=by
       unfold iI
       by_cases q0:0<eB (uz d) p.1
       ·rw[decide_eq_true q0,decide_eq_true om]
       ·rw[decide_eq_false q0,decide_eq_false om]
      rw[hhb] at hst
      rcases fy es3 p.1 with ⟨hg,h0'⟩ | hg
      ·rw[hgk] at h0'
       rw[h0'] at hst
       refine C6 hm6 hl6 hgl hpe hm4' hg hkk3 ?_
       refine .inl ⟨rfl,m',rfl,seen++[i],by rw[List.length_append,List.length_singleton];omega,iB hnd hi,hlt7,rfl,?_⟩
       rw[hst]
       exact aK
      ·rw[hgk] at hg
       refine C6 hm6 hl6 hgl hpe hm4' hg hkk3 ?_
       refine .inl ⟨rfl,m',rfl,seen++[i],by rw[List.length_append,List.length_singleton];omega,iB hnd hi,hlt7,rfl,?_⟩
       rw[hst]
       exact aK
 ·show CW _ _ _ _
  have hRk:∀ s,dJ es6 s≠0↔rE d.aa (fun p=>cW p.aj) x.jR s:=fun s=>hR6.done
  cases hB:(jL d x k||es6.any fun p=>iI d p.1) with
  | true=>
    refine aC ?_
    refine ae rfl ?_
    refine aC ?_
    refine aQ 3 mixed kr ?_
    refine aC ?_
    refine ai ?_
    refine⟨_,ak,⟨49,_,rfl,⟨fun h=>(by cases h),fun h=>absurd h (hfail fun hq=>?_)⟩⟩,hp4.trans hp6⟩
    rw[hq.1,Bool.false_or,List.any_eq_true] at hB
    obtain⟨p,hp,hh⟩:=hB
    rw[hq.2 _ ((hRk _).1 (JU hR6.k hp))] at hh
    cases hh
  | false=>
    refine aC ?_
    refine af rfl ?_
    refine aG e2 ?_
    refine⟨hlt,h6,aK,rfl,hp34.trans hp6,hstep ⟨?_,fun s hs=>?_⟩⟩
    ·cases e:jL d x k with
     | false=>rfl
     | true=>rw[e] at hB;cases hB
    ·obtain⟨p,hp,rfl⟩:=HX ((hRk s).2 hs)
     cases e:iI d p.1 with
     | false=>rfl
     | true=>
       have:(es6.any fun p=>iI d p.1)=true:=List.any_eq_true.2 ⟨p,hp,e⟩
       rw[this,Bool.or_true] at hB
       cases hB
·have e3:=aP hlt
 obtain rfl:k=d.al.length:=by omega
 refine aG e3 ?_
 refine af rfl ?_
 refine az ?_
 show CW _ _ _ _
 refine aC ?_
 refine ai ?_
 exact⟨_,ak,⟨0,_,rfl,fun _ i hi=>hall i hi hi,fun _=>rfl⟩,hp4⟩}
end
section
variable {h:ah}
theorem Eb {s:Sym} (hw:ul s):FW env 202 [s.val] h fun r h'=>r = .bool (!bf s)∧h'=h:=by{
refine fe Tryz.func202 ?_;simp only[push_cast]
refine aC ?_
refine zj Tryz.func203 ?_
refine (xY hw).mono ?_
rintro _ h1 ⟨rfl,rfl⟩
refine aC ?_
refine ai ?_
exact⟨_,ak,rfl,rfl⟩}
theorem Fy {p:Prod} {u:Value} (hy:fR h u p.aj) (hw:oK p):FW env 171 [p.val u] h fun r h'=>r = .bool (ct p)∧h'=h:=by{
have hy0:=hy
obtain⟨ps,cs,rfl⟩:=bT.form hy
refine fe Tryz.func171 ?_;simp only[push_cast]
refine aC ?_
refine zj Tryz.func170 ?_
refine (el hw.sort).mono ?_
rintro _ h1 ⟨rfl,rfl⟩
rw[iE]
cases g1:bI p.sort with
| false=>
  refine aC ?_
  refine ae rfl ?_
  refine aC ?_
  refine ai ?_
  exact⟨_,ak,by simp [cI,ct,g1],rfl⟩
| true=>
  refine aC ?_
  refine zj Tryz.func170 ?_
  refine (el hw.cons).mono ?_
  rintro _ h1 ⟨rfl,rfl⟩
  cases g2:iO p.cons true with
  | false=>
    refine aC ?_
    refine ae rfl ?_
    refine aC ?_
    refine ai ?_
    exact⟨_,ak,by simp [cI,ct,g1,g2],rfl⟩
  | true=>
    by_cases q3:p.aj.length=0
    ·have d3:decide ((p.aj.length:Int)=0)=true:=decide_eq_true om
     refine aG d3 ?_
     refine ae rfl ?_
     refine aC ?_
     refine ai ?_
     exact⟨_,ak,by simp [cI,ct,g1,g2,q3],rfl⟩
    have d3:decide ((p.aj.length:Int)=0)=false:=decide_eq_false om
    by_cases q4:p.aj.length≤12
    ·have d4:decide ((12:Int)<(p.aj.length:Int))=false:=decide_eq_false om
     refine fh d3 d4 ?_
     refine af rfl ?_
     refine aC ?_
     refine dF ak (fun b1=>?_) (fun b1=>?_)
     ·have b2:(if p.lex=true then !p.bracket else (p.bracket == b7 p.cons))=false:=by
       revert b1
       unfold b7
       cases p.lex<;>cases p.bracket<;>cases decide (p.cons=⟨#[]⟩)<;>simp
      refine aC ?_
      refine ai ?_
      exact⟨_,ak,by unfold ct;rw[b2,Bool.false_and,Bool.and_false];rfl,rfl⟩
     ·have b2:(if p.lex=true then !p.bracket else (p.bracket == b7 p.cons))=true:=by
       revert b1
       unfold b7
       cases p.lex<;>cases p.bracket<;>cases decide (p.cons=⟨#[]⟩)<;>simp
      refine aC ?_
      refine zj Tryz.func130 ?_
      refine (oh (P:=fun s=>!bf s) (cap:=[]) (g:=202) (fn:=Tryz.f202) hy0 Tryz.func202 kr kr (fun s hs=>Eb (hw.aj s hs))).mono ?_
      rintro _ h1 ⟨rfl,rfl⟩
      refine aC ?_
      refine ai ?_
      refine⟨_,ak,?_,rfl⟩
      have e5:(!(p.aj.any fun s=>!bf s))=p.aj.all bf:=by
       rw[List.not_any_eq_all_not]
       simp
      unfold ct
      rw[b2,g1,g2,decide_eq_true q3,decide_eq_true q4,← e5]
      rfl
    ·have d4:decide ((12:Int)<(p.aj.length:Int))=true:=decide_eq_true om
     refine fh d3 d4 ?_
     refine ae rfl ?_
     refine aC ?_
     refine ai ?_
     exact⟨_,ak,by simp [cI,ct,g1,g2,q4],rfl⟩}
theorem DV {u:Value} {c:List dK} (hc:eL h u c) (hw:∀ g∈c,∀ s∈g.cons,s.size≤mo):FW env 172 [u] h fun r h'=>r = .bool (dU c)∧h'=h:=by{
obtain⟨ps,cs,rfl⟩:=cV.form hc
have hl:c.length≤140737488355328:=by have:=cV.le hc;omega
refine fe Tryz.func172 ?_;simp only[push_cast]
refine aC ?_
refine cO c.length (fun k=>[(0,.val (.slice ps c.length cs)),(7,.val (.slice ps c.length cs)),(8,.val (i64 c.length)),(9,.val (i64 k))]) (fun _=>h) (fun k=>∀ i (hi:i<c.length),i<k→dD c[i]=true) aK rfl (fun i _ hi=>absurd hi om) ?_
intro k hkn hall
by_cases hlt:k<c.length
·obtain⟨id,ar,own,c',cells,u,hv,hid,hrd,hu⟩:=cV.at (k:=2) (fun _ _=>rfl) hc hlt
 cases hv
 have hwk:=hw _ (List.getElem_mem hlt)
 obtain⟨p2,c2,rfl⟩:=bT.form hu
 have hu0:=hu
 have e1:=cg hlt
 have e2:=inc hlt hl
 have e3:=aS hlt
 have hstep:dD c[k]=true→∀ i (hi:i<c.length),i<k+1→dD c[i]=true:=fun h3 i hi h2=>by
  rcases (by omega:i<k∨i=k) with h4|rfl
  ·exact hall i hi h4
  ·exact h3
 have hgb:dD c[k]=(decide (0≤c[k].assoc)&&(decide (c[k].assoc≤3)&&(decide (c[k].cons.length≠0)&&(decide (c[k].cons.length≤16)&&c[k].cons.all bI)))):=rfl
 have hul:=bj.le hu
 generalize hGr:c[k]=G at hrd hu hu0 hwk hgb hul
 rw[hGr] at hstep
 refine aG e3 ?_
 refine ae rfl ?_
 refine gV e1 hid hrd ?_
 refine dF ak (fun b1=>?_) (fun b1=>?_)
 ·have b2:dD G=false:=by
   rw[hgb]
   revert b1
   by_cases a1:0≤G.assoc<;>by_cases a2:G.assoc≤3<;>by_cases a3:G.cons.length=0<;>by_cases a4:G.cons.length≤16<;>simp [a1,a2,a3,a4]<;>omega
  refine aC ?_
  refine ai ?_
  refine⟨_,ak,?_,rfl⟩
  have:c.all dD=false:=List.all_eq_false.2 ⟨_,List.getElem_mem hlt,by rw[hGr,b2];decide⟩
  unfold dU
  rw[this]
  rfl
 have b2:dD G=G.cons.all bI:=by
  rw[hgb]
  revert b1
  by_cases a1:0≤G.assoc<;>by_cases a2:G.assoc≤3<;>by_cases a3:G.cons.length=0<;>by_cases a4:G.cons.length≤16<;>simp [a1,a2,a3,a4]<;>omega
 refine aC ?_
 refine cO G.cons.length (fun j=>[(0,.val (.slice (some ⟨id,0,some ar⟩) c.length cs)),(7,.val (.slice (some ⟨id,0,some ar⟩) c.length cs)),(8,.val (i64 c.length)),(9,.val (i64 k)),(34,.val (.slice p2 G.cons.length c2)),(35,.val (i64 G.cons.length)),(36,.val (i64 j))]) (fun _=>h) (fun j=>∀ i (hi:i<G.cons.length),i<j→bI G.cons[i]=true) aK rfl (fun i _ hi=>absurd hi om) ?_
 intro j hjn hallj
 by_cases hjl:j<G.cons.length
 ·obtain⟨id5,ver5,own5,c5',cells5,hv5,hid5,hc5⟩:=bj.at hu hjl
  cases hv5
  have v1:=cg hjl
  have v2:=inc hjl hul
  have v3:=aS hjl
  refine aG v3 ?_
  refine ae rfl ?_
  refine fi v1 hid5 hc5 Nat.mul_one ?_
  refine zj Tryz.func170 ?_
  refine (el (hwk _ (List.getElem_mem hjl))).mono ?_
  rintro _ h1 ⟨rfl,rfl⟩
  rw[iE]
  cases hN:bI G.cons[j] with
  | false=>
    refine aC ?_
    refine ae rfl ?_
    refine aC ?_
    have b3:dD G=false:=by
     rw[b2]
     exact List.all_eq_false.2 ⟨_,List.getElem_mem hjl,by rw[hN];decide⟩
    refine ai ?_
    refine⟨_,ak,?_,rfl⟩
    have:c.all dD=false:=List.all_eq_false.2 ⟨_,List.getElem_mem hlt,by rw[hGr,b3];decide⟩
    unfold dU
    rw[this]
    rfl
  | true=>
    refine aC ?_
    refine af rfl ?_
    refine aG v2 ?_
    refine⟨hjl,aK,rfl,fun i hi h2=>?_⟩
    rcases (by omega:i<j∨i=j) with h4|rfl
    ·exact hallj i hi h4
    ·exact hN
 ·have v3:=aP hjl
  obtain rfl:j=G.cons.length:=by omega
  refine aG v3 ?_
  refine af rfl ?_
  refine az ?_
  show CW _ _ _ _
  refine aG e2 ?_
  refine⟨hlt,aK,rfl,hstep ?_⟩
  rw[b2,List.all_eq_true]
  intro x hx
  obtain⟨i,hi,rfl⟩:=List.getElem_of_mem hx
  exact hallj i hi hi
·have e3:=aP hlt
 obtain rfl:k=c.length:=by omega
 refine aG e3 ?_
 refine af rfl ?_
 refine az ?_
 show CW _ _ _ _
 have hA:c.all dD=true:=by
  rw[List.all_eq_true]
  intro x hx
  obtain⟨i,hi,rfl⟩:=List.getElem_of_mem hx
  exact hall i hi hi
 by_cases a3:c.length=0
 ·have d3:decide ((0:Int)<(c.length:Int))=false:=decide_eq_false om
  refine aG d3 ?_
  refine ai ?_
  exact⟨_,ak,by simp [cI,dU,a3],rfl⟩
 ·have d3:decide ((0:Int)<(c.length:Int))=true:=decide_eq_true om
  refine aG d3 ?_
  refine ai ?_
  refine⟨_,ak,?_,rfl⟩
  unfold dU
  rw[hA,decide_eq_true a3]
  by_cases a4:c.length≤16
  ·have d4:decide ((c.length:Int)≤16)=true:=decide_eq_true om
   simp [cI,d4,a4]
  ·have d4:decide ((c.length:Int)≤16)=false:=decide_eq_false om
   simp [cI,d4,a4]}
end
theorem Gp {l:List Item} {k:Nat} (hk:k<l.length):zO (l.take (k+1))=(zO (l.take k)&&Tp l[k]):=by
 rw[rB,rB,List.take_succ_eq_append_getElem hk,List.all_append]
 simp
theorem Dn {l:List Item} {k:Nat} (hk:k<l.length):iY (l.take (k+1))=iY (l.take k)+1+iY l[k].bG:=by
 rw[lW,lW,uU hk,List.length_take,List.length_take]
 omega
theorem JM {l:List Item} {k:Nat}:iY (l.take k)≤iY l:=by{
rw[lW,lW,List.length_take]
have:=BL (l:=l) (k:=k)
omega}
theorem EK {l:List Item} {k:Nat} (h:zO l=true):zO (l.take k)=true:=by
 rw[rB,List.all_eq_true] at *
 exact fun x hx=>h x (List.mem_of_mem_take hx)
theorem ma {h:ah} {i:Nat} {o:av} (k:h[i]? = some o):h.set i o=h:=by{
refine List.ext_getElem? fun j=>?_
by_cases e:i=j
·subst e
 rw[aw k,k]
·rw[aD e]}
section
theorem Ec {h0:ah} {v:Value} {l:List Item} (hr:bJ h0 v l):∀ {h:ah} {il:Nat} {v0:Int},h0 <+: h→h0.length≤il→h[il]? = some (.aA [i64 v0] 0 true 3)→0≤v0→v0≤64 → FW env 173 [v,.pointer (some ⟨il,0,some 0⟩)] h fun r h'=>∃ (b:Bool) (v':Int),r = .bool b∧h'=h.set il (.aA [i64 v'] 0 true 3)∧(b=true→zO l=true∧v'=v0-iY l∧0≤v')∧(b=false→¬ (zO l=true∧(iY l:Int)≤v0)):=by{
induction hr with
| @mk v l us hl hs hu ih=>
  intro h il v0 hp0 hil0 hil hv0 hv64
  obtain⟨p,c,rfl⟩:=hs.form
  have hle:=hs.1
  have hn:l.length≤140737488355328:=by omega
  have hlt_il:=cD hil
  refine fe Tryz.func173 ?_;simp only[push_cast]
  refine aC ?_
  refine aZ l.length (fun k (m:Int)=>[(0,.val (.slice p l.length c)),(1,.val (.pointer (some ⟨il,0,some 0⟩))),(9,.val (.slice p l.length c)),(10,.val (i64 l.length)),(11,.val (i64 k))]) (fun _ m=>h.set il (.aA [i64 m] 0 true 3)) (fun k m=>m=v0-iY (l.take k)∧0≤m∧zO (l.take k)=true) v0 aK (ma hil).symm ⟨by simp [iY],hv0,rfl⟩ ?_
  intro k m hk ⟨hm,hm0,hok⟩
  have hilk:(h.set il (av.aA [i64 m] 0 true 3))[il]? = some (.aA [i64 m] 0 true 3):=aw hil
  have hpk:h0 <+: h.set il (av.aA [i64 m] 0 true 3):=a8 hp0 hil0
  by_cases hlt:k<l.length
  ·obtain⟨id,ar,own,c',hv,hid⟩:=bT.at (hs.mono hpk) om
   cases hv
   have e1:=cg hlt
   have e2:=inc hlt hn
   have e3:=aS hlt
   have hi':k<us.length:=hl▸hlt
   have hg:=rT hl hlt
   have hrec:=fun h il v0 a b c d e=>@ih k l[k] us[k] (by simp [hlt]) (by simp [hi']) h il v0 a b c d e
   obtain⟨pu,cu,huf⟩:∃ pu cu,us[k] = .slice pu l[k].bG.length cu:=cV.form (bJ.iff.1 (hu k l[k] us[k] (by simp [hlt]) (by simp [hi'])))
   rw[huf] at hg hrec
   have ec:=Dn hlt
   have eo:=Gp hlt
   rw[MW] at eo
   have ecl:=JM (l:=l) (k:=k+1)
   have eol:zO l=true→zO (l.take (k+1))=true:=EK
   generalize hX:l[k]=x at hg hrec ec eo
   have w1:IntKind.i64.wrap (m-1)=m-1:=ax om om
   refine aG e3 ?_
   refine ae rfl ?_
   refine kL e1 hid hg hilk w1 ?_
   refine bV (v:=i64 (m-1)) (vs:=[i64 (m-1)]) (cells':=[i64 (m-1)]) ak rfl rfl rfl ak hilk ak rfl rfl ?_
   dsimp only
   rw[List.set_set]
   have hil2:(h.set il (av.aA [i64 (m-1)] 0 true 3))[il]? = some (.aA [i64 (m-1)] 0 true 3):=aw hil
   have hp2:h0 <+: h.set il (av.aA [i64 (m-1)] 0 true 3):=a8 hp0 hil0
   generalize hh2:h.set il (av.aA [i64 (m-1)] 0 true 3)=h2 at hil2 hp2 ⊢
   refine zu ?_
   iterate 9 (refine zx tP ?_)
   refine zu ?_
   iterate 1 (refine zx tP ?_)
   refine zu ?_
   iterate 2 (refine zx tP ?_)
   apply zn
   show CW _ _ _ _
   refine CW.mono (Q:=fun e s'=>e = .normal∧s'.h=h2∧∃ b,b=jO x∧bA [(0,.val (.slice (some ⟨id,0,some ar⟩) l.length c)),(1,.val (.pointer (some ⟨il,0,some 0⟩))),(6,.box [i64 x.kind,.string x.text,i64 x.n,.slice pu x.bG.length cu]),(8,.val (.bool b)),(9,.val (.slice (some ⟨id,0,some ar⟩) l.length c)),(10,.val (i64 l.length)),(11,.val (i64 k))] s'.fr) ?_ ?_
   ·by_cases k1:x.kind=1
    ·have d1:=decide_eq_true k1
     refine aG d1 ?_
     refine ae rfl ?_
     refine aC ?_
     refine⟨rfl,rfl,(decide ((x.text.size:Int)≤32)&&decide (x.n=0)&&decide ((x.bG.length:Int)=0)),?_,aK⟩
     obtain⟨k0,t0,n0,l0⟩:=x
     simp only[Item.kind,Item.text,Item.n,Item.bG] at *
     simp [jO,Item.kind,Item.text,Item.n,Item.bG,b7,Bool.and_assoc,k1]
    have d1:=decide_eq_false k1
    refine aG d1 ?_
    refine af rfl ?_
    by_cases k2:x.kind=2
    ·have d2:=decide_eq_true k2
     refine aG d2 ?_
     refine ae rfl ?_
     refine aC ?_
     refine⟨rfl,rfl,(decide (x.text=⟨#[]⟩)&&(decide (0≤x.n)&&decide (x.n≤999999))&&decide ((x.bG.length:Int)=0)),?_,aK⟩
     obtain⟨k0,t0,n0,l0⟩:=x
     simp only[Item.kind,Item.text,Item.n,Item.bG] at *
     simp [jO,Item.kind,Item.text,Item.n,Item.bG,b7,Bool.and_assoc,k2]
    have d2:=decide_eq_false k2
    refine aG d2 ?_
    refine af rfl ?_
    by_cases k3:x.kind=3
    ·have d3:=decide_eq_true k3
     refine aG d3 ?_
     refine ae rfl ?_
     refine cz ?_
     show CW _ _ _ _
     refine ae rfl ?_
     refine aC ?_
     refine⟨rfl,rfl,(decide (x.text=⟨#[]⟩)&&decide (x.n=0)&&decide ((x.bG.length:Int)=0)),?_,aK⟩
     obtain⟨k0,t0,n0,l0⟩:=x
     simp only[Item.kind,Item.text,Item.n,Item.bG] at *
     simp [jO,Item.kind,Item.text,Item.n,Item.bG,b7,Bool.and_assoc,k3]
    have d3:=decide_eq_false k3
    refine aG d3 ?_
    refine af rfl ?_
    by_cases k4:x.kind=4
    ·have d4:=decide_eq_true k4
     refine aG d4 ?_
     refine ae rfl ?_
     refine aC ?_
     refine⟨rfl,rfl,(decide (x.text=⟨#[]⟩)&&decide (x.n=0)&&decide ((x.bG.length:Int)=0)),?_,aK⟩
     obtain⟨k0,t0,n0,l0⟩:=x
     simp only[Item.kind,Item.text,Item.n,Item.bG] at *
     simp [jO,Item.kind,Item.text,Item.n,Item.bG,b7,Bool.and_assoc,k4]
    have d4:=decide_eq_false k4
    refine aG d4 ?_
    refine af rfl ?_
    by_cases k5:x.kind=5
    ·have d5:=decide_eq_true k5
     refine aG d5 ?_
     refine ae rfl ?_
     refine aC ?_
     refine⟨rfl,rfl,(decide (x.text=⟨#[]⟩)&&(decide (0≤x.n)&&decide (x.n≤999999))),?_,aK⟩
     obtain⟨k0,t0,n0,l0⟩:=x
     simp only[Item.kind,Item.text,Item.n,Item.bG] at *
     simp [jO,Item.kind,Item.text,Item.n,Item.bG,b7,Bool.and_assoc,k5]
    have d5:=decide_eq_false k5
    refine aG d5 ?_
    refine af rfl ?_
    by_cases k6:x.kind=6
    ·have d6:=decide_eq_true k6
     refine aG d6 ?_
     refine ae rfl ?_
     refine aC ?_
     refine⟨rfl,rfl,(decide (x.text=⟨#[]⟩)&&decide (x.n=0)),?_,aK⟩
     obtain⟨k0,t0,n0,l0⟩:=x
     simp only[Item.kind,Item.text,Item.n,Item.bG] at *
     simp [jO,Item.kind,Item.text,Item.n,Item.bG,b7,Bool.and_assoc,k6]
    have d6:=decide_eq_false k6
    refine aG d6 ?_
    refine af rfl ?_
    refine aC ?_
    refine⟨rfl,rfl,false,?_,aK⟩
    obtain⟨k0,t0,n0,l0⟩:=x
    simp only[Item.kind,Item.text,Item.n,Item.bG] at *
    simp [jO,Item.kind,Item.text,Item.n,Item.bG,b7,Bool.and_assoc,k1,k2,k3,k4,k5,k6]
   rintro e s' ⟨rfl,hh,b,hb,hf⟩
   show CW _ _ _ _
   refine aB _ hf ?_
   rw[hh]
   clear hf hh s'
   cases b with
   | false=>
     refine aC ?_
     refine ae rfl ?_
     refine aC ?_
     refine ai ?_
     refine⟨_,ak,false,m-1,rfl,hh2.symm,fun h=>(by cases h),fun _ hh=>?_⟩
     have:=eol hh.1
     rw[eo,← hb] at this
     simp at this
   | true=>
     by_cases q:m-1<0
     ·have dq:=decide_eq_true q
      refine fh hil2 dq ?_
      refine ae rfl ?_
      refine aC ?_
      refine ai ?_
      refine⟨_,ak,false,m-1,rfl,hh2.symm,fun h=>(by cases h),fun _ hh=>?_⟩
      omega
     ·have dq:=decide_eq_false q
      refine fh hil2 dq ?_
      refine zj Tryz.func173 ?_
      refine (hrec h2 il (m-1) hp2 hil0 hil2 om om).mono ?_
      rintro _ h3 ⟨b',v',rfl,rfl,g1,g2⟩
      have hset:h2.set il (av.aA [i64 v'] 0 true 3)=h.set il (av.aA [i64 v'] 0 true 3):=by rw[← hh2,List.set_set]
      cases b' with
      | false=>
        refine aC ?_
        refine ae rfl ?_
        refine aC ?_
        refine ai ?_
        refine⟨_,ak,false,v',rfl,hset,fun h=>(by cases h),fun _ hh=>?_⟩
        refine g2 rfl ⟨?_,by omega⟩
        have:=eol hh.1
        rw[eo] at this
        simp only[Bool.and_eq_true] at this
        exact this.2.2
      | true=>
        obtain⟨g3,g4,g5⟩:=g1 rfl
        refine aC ?_
        refine af rfl ?_
        refine aG e2 ?_
        refine⟨hlt,v',aK,hset,by omega,g5,?_⟩
        rw[eo,hok,← hb,g3]
        rfl
  ·have e3:=aP hlt
   obtain rfl:k=l.length:=by omega
   rw[List.take_length] at hm hok
   refine aG e3 ?_
   refine af rfl ?_
   refine az ?_
   show CW _ _ _ _
   refine aC ?_
   refine ai ?_
   exact⟨_,ak,true,m,rfl,rfl,fun _=>⟨hok,hm,hm0⟩,fun h=>(by cases h)⟩}
end
section
variable {h:ah} {r:Value} {d:bM} {up uc uf ur ub:Value}
theorem sh {α:Type} {P:α→Bool} {l:List α} (hall:∀ i (hi:i<l.length),i<l.length→P l[i]=true):l.all P=true:=by{
rw[List.all_eq_true]
intro x hx
obtain⟨i,hi,rfl⟩:=List.getElem_of_mem hx
exact hall i hi hi}
theorem mP {α:Type} {P:α→Bool} {l:List α} {k:Nat} (hk:k<l.length) (hp:P l[k]=false):l.all P=false:=List.all_eq_false.2 ⟨_,List.getElem_mem hk,by rw[hp];decide⟩
theorem C0 (hd:bH h d up uc uf ur ub) (hw:qd d):FW env 127 [.agg (d.val up uc uf ur ub).toArray] h fun r h'=>r = .bool (cE d)∧h'=h:=by{
refine vE ?_
obtain⟨p1,c1,p2,c2,p3,c3,p4,c4,p5,c5,rfl,rfl,rfl,rfl,rfl,l1,l2,l3,l4,l5⟩:=bH.form hd
obtain⟨B,hB⟩:∃ B:List Value,B=[.string d.start,.string d.layout,.slice p1 d.aa.length c1,.slice p2 d.au.length c2,.slice p3 d.follows.length c3,.slice p4 d.al.length c4,.slice p5 d.boxes.length c5]:=⟨_,rfl⟩
refine fe Tryz.func127 ?_;simp only[push_cast]
unfold bM.val
refine aC ?_
refine zj Tryz.func170 ?_
refine (el hw.start).mono ?_
rintro _ h1 ⟨rfl,rfl⟩
cases g1:iO d.start true with
| false=>
  refine aC ?_
  refine ae rfl ?_
  refine aC ?_
  refine ai ?_
  refine⟨_,ak,?_,List.prefix_refl _⟩
  unfold cE
  simp only[g1,Bool.false_and,Bool.and_false,Bool.true_and]
  rfl
| true=>
refine aC ?_
refine zj Tryz.func170 ?_
refine (el hw.layout).mono ?_
rintro _ h1 ⟨rfl,rfl⟩
cases g2:iO d.layout true with
| false=>
  refine aC ?_
  refine ae rfl ?_
  refine aC ?_
  refine ai ?_
  refine⟨_,ak,?_,List.prefix_refl _⟩
  unfold cE
  simp only[g1,g2,Bool.false_and,Bool.and_false,Bool.true_and]
  rfl
| true=>
by_cases q3:d.aa.length≤200
case neg=>
 have d3:decide ((200:Int)<(d.aa.length:Int))=true:=decide_eq_true om
 have g3:=decide_eq_false q3
 refine aG d3 ?_
 refine ae rfl ?_
 refine aC ?_
 refine ai ?_
 refine⟨_,ak,?_,List.prefix_refl _⟩
 unfold cE
 simp only[g1,g2,g3,Bool.false_and,Bool.and_false,Bool.true_and]
 rfl
have d3:decide ((200:Int)<(d.aa.length:Int))=false:=decide_eq_false om
have g3:=decide_eq_true q3
refine aG d3 ?_
refine af rfl ?_
refine aC ?_
refine cO d.aa.length (fun k=>[(1,.box B),(31,.val (.slice p1 d.aa.length c1)),(32,.val (i64 d.aa.length)),(33,.val (i64 k))]) (fun _=>h1) (fun k=>∀ i (hi:i<d.aa.length),i<k→ct d.aa[i]=true) (by rw[hB];exact aK) rfl (fun i _ hi=>absurd hi om) ?_
intro k hkn hall
by_cases hlt:k<d.aa.length
·obtain⟨id,ar,own,c',cells,u,hv,hid,hrd,hu⟩:=cV.at (k:=5) (fun _ _=>rfl) hd.aa hlt
 cases hv
 have hu0:=hu
 obtain⟨ps,cs,rfl⟩:=bT.form hu
 have w1:=cg hlt
 have w2:=inc hlt l1
 have q3:=aS hlt
 refine aG q3 ?_
 refine ae rfl ?_
 refine gV w1 hid hrd ?_
 refine zj Tryz.func171 ?_
 refine (Fy hu0 (hw.aa _ (List.getElem_mem hlt))).mono ?_
 rintro _ h2 ⟨rfl,rfl⟩
 cases gg:ct d.aa[k] with
 | false=>
   have gA:=mP hlt gg
   refine aC ?_
   refine ae rfl ?_
   refine aC ?_
   refine ai ?_
   refine⟨_,ak,?_,List.prefix_refl _⟩
   unfold cE
   simp only[g1,g2,g3,gA,Bool.false_and,Bool.and_false,Bool.true_and]
   rfl
 | true=>
   refine aC ?_
   refine af rfl ?_
   refine aG w2 ?_
   refine⟨hlt,aK,rfl,fun i hi h2=>?_⟩
   rcases (by omega:i<k∨i=k) with h4|rfl
   ·exact hall i hi h4
   ·exact gg
have e3:=aP hlt
obtain rfl:k=d.aa.length:=by omega
refine aG e3 ?_
refine af rfl ?_
refine az ?_
show CW _ _ _ _
have gP:=sh (P:=ct) hall
clear hall
refine aC ?_
rw[hB]
refine aC ?_
refine cO d.au.length (fun k=>[(1,.box B),(42,.val (.slice p2 d.au.length c2)),(43,.val (i64 d.au.length)),(44,.val (i64 k))]) (fun _=>h1) (fun k=>∀ i (hi:i<d.au.length),i<k→dU d.au[i]=true) (by rw[hB];exact aK) rfl (fun i _ hi=>absurd hi om) ?_
intro k hkn hall
by_cases hlt:k<d.au.length
·obtain⟨id,ar,own,c',cells,u,hv,hid,hrd,hu⟩:=cV.at (k:=1) (fun _ _=>rfl) hd.au hlt
 cases hv
 have hu0:=hu
 obtain⟨ps,cs,rfl⟩:=cV.form hu
 have hg:=gZ hrd om
 simp only[List.getElem?_cons_zero,Nat.mul_one] at hg
 have w1:=cg hlt
 have w2:=inc hlt l2
 have q3:=aS hlt
 refine aG q3 ?_
 refine ae rfl ?_
 refine fi w1 hid hg Nat.mul_one ?_
 refine zj Tryz.func172 ?_
 refine (DV hu0 (hw.au _ (List.getElem_mem hlt))).mono ?_
 rintro _ h2 ⟨rfl,rfl⟩
 cases gg:dU d.au[k] with
 | false=>
   have gA:=mP hlt gg
   refine aC ?_
   refine ae rfl ?_
   refine aC ?_
   refine ai ?_
   refine⟨_,ak,?_,List.prefix_refl _⟩
   unfold cE
   simp only[g1,g2,g3,gP,gA,Bool.false_and,Bool.and_false,Bool.true_and]
   rfl
 | true=>
   refine aC ?_
   refine af rfl ?_
   refine aG w2 ?_
   refine⟨hlt,aK,rfl,fun i hi h2=>?_⟩
   rcases (by omega:i<k∨i=k) with h4|rfl
   ·exact hall i hi h4
   ·exact gg
have e3:=aP hlt
obtain rfl:k=d.au.length:=by omega
refine aG e3 ?_
refine af rfl ?_
refine az ?_
show CW _ _ _ _
have gC:=sh (P:=dU) hall
clear hall
refine aC ?_
rw[hB]
refine aC ?_
refine cO d.follows.length (fun k=>[(1,.box B),(53,.val (.slice p3 d.follows.length c3)),(54,.val (i64 d.follows.length)),(55,.val (i64 k))]) (fun _=>h1) (fun k=>∀ i (hi:i<d.follows.length),i<k→(fun f:ew=>bI f.sort) d.follows[i]=true) (by rw[hB];exact aK) rfl (fun i _ hi=>absurd hi om) ?_
intro k hkn hall
by_cases hlt:k<d.follows.length
·obtain⟨id,ar,own,c',hv,hid⟩:=bT.at hd.follows om
 cases hv
 have hg:=js hlt
 have w1:=cg hlt
 have w2:=inc hlt l3
 have q3:=aS hlt
 refine aG q3 ?_
 refine ae rfl ?_
 refine gV w1 hid hg ?_
 refine zj Tryz.func170 ?_
 refine (el (hw.follows _ (List.getElem_mem hlt)).1).mono ?_
 rintro _ h2 ⟨rfl,rfl⟩
 rw[iE]
 cases gg:bI d.follows[k].sort with
 | false=>
   have gA:=mP (P:=fun f:ew=>bI f.sort) hlt gg
   refine aC ?_
   refine ae rfl ?_
   refine aC ?_
   refine ai ?_
   refine⟨_,ak,?_,List.prefix_refl _⟩
   unfold cE
   simp only[g1,g2,g3,gP,gC,gA,Bool.false_and,Bool.and_false,Bool.true_and]
   rfl
 | true=>
   refine aC ?_
   refine af rfl ?_
   refine aG w2 ?_
   refine⟨hlt,aK,rfl,fun i hi h2=>?_⟩
   rcases (by omega:i<k∨i=k) with h4|rfl
   ·exact hall i hi h4
   ·exact gg
have e3:=aP hlt
obtain rfl:k=d.follows.length:=by omega
refine aG e3 ?_
refine af rfl ?_
refine az ?_
show CW _ _ _ _
have gF:=sh (P:=fun f:ew=>bI f.sort) hall
clear hall
refine aC ?_
rw[hB]
refine aC ?_
refine cO d.al.length (fun k=>[(1,.box B),(65,.val (.slice p4 d.al.length c4)),(66,.val (i64 d.al.length)),(67,.val (i64 k))]) (fun _=>h1) (fun k=>∀ i (hi:i<d.al.length),i<k→(fun x:dC=>bI x.sort&&bI x.jR) d.al[i]=true) (by rw[hB];exact aK) rfl (fun i _ hi=>absurd hi om) ?_
intro k hkn hall
by_cases hlt:k<d.al.length
·obtain⟨id,ar,own,c',hv,hid⟩:=bT.at hd.al om
 cases hv
 have hg:=ij hlt
 have w1:=cg hlt
 have w2:=inc hlt l4
 have q3:=aS hlt
 refine aG q3 ?_
 refine ae rfl ?_
 refine gV w1 hid hg ?_
 refine zj Tryz.func170 ?_
 refine (el (hw.al _ (List.getElem_mem hlt)).1).mono ?_
 rintro _ h2 ⟨rfl,rfl⟩
 rw[iE]
 cases gg:bI d.al[k].sort with
 | false=>
   have gA:=mP (P:=fun x:dC=>bI x.sort&&bI x.jR) hlt (by simp only[gg,Bool.false_and])
   refine aC ?_
   refine ae rfl ?_
   refine aC ?_
   refine ai ?_
   refine⟨_,ak,?_,List.prefix_refl _⟩
   unfold cE
   simp only[g1,g2,g3,gP,gC,gF,gA,Bool.false_and,Bool.and_false,Bool.true_and]
   rfl
 | true=>
   refine aC ?_
   refine zj Tryz.func170 ?_
   refine (el (hw.al _ (List.getElem_mem hlt)).2).mono ?_
   rintro _ h2 ⟨rfl,rfl⟩
   rw[iE]
   cases gg2:bI d.al[k].jR with
   | false=>
     have gA:=mP (P:=fun x:dC=>bI x.sort&&bI x.jR) hlt (by simp only[gg2,Bool.and_false])
     refine aC ?_
     refine ae rfl ?_
     refine aC ?_
     refine ai ?_
     refine⟨_,ak,?_,List.prefix_refl _⟩
     unfold cE
     simp only[g1,g2,g3,gP,gC,gF,gA,Bool.false_and,Bool.and_false,Bool.true_and]
     rfl
   | true=>
     refine aC ?_
     refine af rfl ?_
     refine aG w2 ?_
     refine⟨hlt,aK,rfl,fun i hi h2=>?_⟩
     rcases (by omega:i<k∨i=k) with h4|rfl
     ·exact hall i hi h4
     ·exact (by simp only[gg,gg2,Bool.and_true])
have e3:=aP hlt
obtain rfl:k=d.al.length:=by omega
refine aG e3 ?_
refine af rfl ?_
refine az ?_
show CW _ _ _ _
have gR:=sh (P:=fun x:dC=>bI x.sort&&bI x.jR) hall
clear hall
refine aC ?_
rw[hB]
refine aC ?_
refine aZ d.boxes.length (fun k (x:ah)=>[(83,.val (.slice p5 d.boxes.length c5)),(84,.val (i64 d.boxes.length)),(85,.val (i64 k))]) (fun _ x=>x) (fun k x=>h1 <+: x∧∀ i (hi:i<d.boxes.length),i<k→gI d.boxes[i]=true) h1 aK rfl ⟨List.prefix_refl _,fun i _ hi=>absurd hi om⟩ ?_
rintro k hk hkn ⟨hp,hall⟩
by_cases hlt:k<d.boxes.length
·obtain⟨id,ar,own,c',cells,u,hv,hid0,hrd,hu⟩:=cV.at (k:=2) (fun _ _=>rfl) hd.boxes hlt
 cases hv
 have hid:=ag hp hid0
 have hu0:=hu
 obtain⟨ps,cs,rfl⟩:=cV.form (bJ.iff.1 hu)
 have w1:=cg hlt
 have w2:=inc hlt l5
 have q3:=aS hlt
 refine aG q3 ?_
 refine ae rfl ?_
 refine zu ?_
 iterate 4 (refine zx (Rv w1 hid hrd) ?_)
 refine zu ?_
 refine dA (t:=3) (cs:=[i64 0]) ak ak ?_
 dsimp only[St.a9,St.put]
 refine bV (v:=i64 64) (vs:=[i64 64]) (cells':=[i64 64]) ak rfl rfl rfl ak aJ ak rfl rfl ?_
 dsimp only
 have hset:(hk++[av.aA [i64 0] 0 true 3]).set hk.length (.aA [i64 64] 0 true 3)=hk++[.aA [i64 64] 0 true 3]:=by simp
 rw[hset]
 have hp2:h1 <+: hk++[av.aA [i64 64] 0 true 3]:=bU hp
 have hil:(hk++[av.aA [i64 64] 0 true 3])[hk.length]? = some (.aA [i64 64] 0 true 3):=aJ
 have hlen:=hp.length_le
 generalize (hk++[av.aA [i64 64] 0 true 3])=h2 at hp2 hil ⊢
 refine aC ?_
 refine zj Tryz.func170 ?_
 refine (el (hw.boxes _ (List.getElem_mem hlt))).mono ?_
 rintro _ h2 ⟨rfl,rfl⟩
 rw[iE]
 cases gg:bI d.boxes[k].cons with
 | false=>
   have gA:=mP hlt (show gI d.boxes[k]=false by unfold gI;rw[gg];rfl)
   refine aC ?_
   refine ae rfl ?_
   refine aC ?_
   refine ai ?_
   refine⟨_,ak,?_,hp2⟩
   unfold cE
   simp only[g1,g2,g3,gP,gC,gF,gR,gA,Bool.false_and,Bool.and_false,Bool.true_and]
   rfl
 | true=>
   refine aC ?_
   refine zj Tryz.func173 ?_
   refine (Ec hu0 hp2 hlen hil (by decide) (by decide)).mono ?_
   rintro _ h3 ⟨b,v',rfl,rfl,k1,k2⟩
   have hp3:h1 <+: h2.set hk.length (av.aA [i64 v'] 0 true 3):=a8 hp2 hlen
   generalize h2.set hk.length (av.aA [i64 v'] 0 true 3)=h3 at hp3 ⊢
   cases b with
   | false=>
     have gA:=mP hlt (show gI d.boxes[k]=false by
      unfold gI
      rw[gg,Bool.true_and]
      cases e1:zO d.boxes[k].bG with
      | false=>rfl
      | true=>
        have:=k2 rfl
        rw[e1] at this
        rw[Bool.true_and]
        exact decide_eq_false fun hle=>this ⟨rfl,by omega⟩)
     refine aC ?_
     refine ae rfl ?_
     refine aC ?_
     refine ai ?_
     refine⟨_,ak,?_,hp3⟩
     unfold cE
     simp only[g1,g2,g3,gP,gC,gF,gR,gA,Bool.false_and,Bool.and_false,Bool.true_and]
     rfl
   | true=>
     obtain⟨k3,k4,k5⟩:=k1 rfl
     refine aC ?_
     refine af rfl ?_
     refine aG w2 ?_
     refine⟨hlt,h3,aK,rfl,hp3,fun i hi h2=>?_⟩
     rcases (by omega:i<k∨i=k) with h4|rfl
     ·exact hall i hi h4
     ·unfold gI
      rw[gg,k3,decide_eq_true om]
      rfl
·have e3:=aP hlt
 obtain rfl:k=d.boxes.length:=by omega
 have gX:=sh hall
 refine aG e3 ?_
 refine af rfl ?_
 refine az ?_
 show CW _ _ _ _
 refine aC ?_
 refine ai ?_
 refine⟨_,ak,?_,hp⟩
 unfold cE
 rw[g1,g2,g3,gP,gC,gF,gR,gX]
 rfl}
theorem Jk (hk:Bk h r d) (hw:qd d):FW env 67 [r] h fun x h'=>iK (cE d=true) x∧h'=h:=by{
obtain⟨h0,ib,im,sv,up,uc,uf,ur,ub,rfl,hd,K⟩:=hk
have hd:=hd.mono K.p
obtain⟨p1,c1,p2,c2,p3,c3,p4,c4,p5,c5,rfl,rfl,rfl,rfl,rfl,l1,l2,l3,l4,l5⟩:=bH.form hd
obtain⟨es,hm,hes⟩:=K.m
have hb:=K.b
unfold bM.val at hb
simp only[List.cons_append,List.nil_append] at hb
have hkk:=br es
have hss:bj h sv (aE d.aa):=K.s.sl (b:=16) (by have:=bZ (ps:=d.aa);have:=cV.le hd.aa;omega)
obtain⟨pq,cq,rfl⟩:=hss.form
have hR:=C0 hd hw
unfold bM.val at hR
refine fe Tryz.func67 ?_;simp only[push_cast]
refine aG hb ?_
refine zj Tryz.func127 ?_
refine hR.mono ?_
rintro _ h1 ⟨rfl,rfl⟩
cases g:cE d with
| false=>
  refine aC ?_
  refine ae rfl ?_
  refine aC ?_
  refine ai ?_
  exact⟨_,ak,⟨3,_,rfl,⟨fun h=>(by cases h),fun h=>(by cases h)⟩⟩,rfl⟩
| true=>
  refine aC ?_
  refine af rfl ?_
  refine aC ?_
  refine ai ?_
  exact⟨_,ak,⟨0,_,rfl,⟨fun _=>rfl,fun _=>rfl⟩⟩,rfl⟩}
end
mutual
def A5 (Y:List Sym):Item→Nat×Nat→Option (Nat×Nat)
 | .mk k t n l,s=>if k=5∨k=6 then (if 40<n then none else j8 Y l s)
   else if k=1 then (match Y[s.1]? with
    | none=>none
    | some y=>if y.kind=1∧y.text=t then some (s.1+1,s.2) else none)
   else if k=2 then (match Y[s.1]? with
    | none=>none
    | some y=>if y.kind=1∨n≠(s.2:Int)+1 then none else some (s.1+1,s.2+1))
   else some s
def j8 (Y:List Sym):List Item→Nat×Nat→Option (Nat×Nat)
 | [],s=>some s
 | x :: r,s=>match A5 Y x s with
   | some s'=>j8 Y r s'
   | none=>none
end
theorem eO {Y:List Sym} (x:Item) (q ho:Nat):A5 Y x (q,ho)=if x.kind=5∨x.kind=6 then (if 40<x.n then none else j8 Y x.bG (q,ho))
 else if x.kind=1 then (match Y[q]? with
  | none=>none
  | some y=>if y.kind=1∧y.text=x.text then some (q+1,ho) else none)
 else if x.kind=2 then (match Y[q]? with
  | none=>none
  | some y=>if y.kind=1∨x.n≠(ho:Int)+1 then none else some (q+1,ho+1))
 else some (q,ho):=by
 cases x
 unfold A5
 rfl
theorem sq {Y:List Sym}:∀ {l r:List Item} {s s':Nat×Nat},j8 Y l s=some s'→j8 Y (l++r) s=j8 Y r s'
 | [],r,s,s',h=>by unfold j8 at h;cases h;rfl
 | x :: l,r,s,s',h=>by
   unfold j8 at h
   rw[List.cons_append]
   conv=>lhs;unfold j8
   cases e:A5 Y x s with
   | none=>rw[e] at h;cases h
   | some s2=>
     rw[e] at h
     exact sq h
theorem DR {Y:List Sym} {l:List Item} {k:Nat} (hk:k<l.length) {s s':Nat×Nat} (h:j8 Y (l.take k) s=some s'):j8 Y (l.take (k+1)) s=A5 Y l[k] s':=by{
rw[List.take_succ_eq_append_getElem hk,sq h]
unfold j8
cases A5 Y l[k] s' with
| none=>rfl
| some s2=>rfl}
theorem C5 {Y:List Sym} {l:List Item} {k:Nat} (hk:k<l.length) {s s':Nat×Nat} (h:j8 Y (l.take k) s=some s') (h2:A5 Y l[k] s'=none):j8 Y l s=none:=by{
have:l=l.take k++(l[k] :: l.drop (k+1)):=by simp
rw[this,sq h]
unfold j8
rw[h2]}
section
variable {Y:List Sym} {id ar:Nat} {own:Bool} {iy ih:Nat}
def fE (h:ah) (Y:List Sym) (id ar iy ih:Nat) (q ho c:Nat):ah:=(h.set iy (.aA [.slice (some ⟨id,q*8,some ar⟩) (Y.length-q) c] 0 true 49)).set ih (.aA [i64 (ho:Int)] 0 true 3)
theorem nV {h:ah} {q ho c q' ho' c':Nat} (hne:iy≠ih):fE (fE h Y id ar iy ih q ho c) Y id ar iy ih q' ho' c'=fE h Y id ar iy ih q' ho' c':=by
 unfold fE
 rw[List.set_comm _ _ (Ne.symm hne),List.set_set,List.set_set]
theorem Hh {h:ah} {q ho c q' c':Nat} (hne:iy≠ih):(fE h Y id ar iy ih q ho c).set iy (.aA [.slice (some ⟨id,q'*8,some ar⟩) (Y.length-q') c'] 0 true 49)=fE h Y id ar iy ih q' ho c':=by
 unfold fE
 rw[List.set_comm _ _ (Ne.symm hne),List.set_set]
theorem Mo {h:ah} {q ho c ho':Nat}:(fE h Y id ar iy ih q ho c).set ih (.aA [i64 (ho':Int)] 0 true 3)=fE h Y id ar iy ih q ho' c:=by
 unfold fE
 rw[List.set_set]
theorem Bq {h:ah} {q ho c:Nat} (hne:iy≠ih) (hly:iy<h.length):(fE h Y id ar iy ih q ho c)[iy]? = some (.aA [.slice (some ⟨id,q*8,some ar⟩) (Y.length-q) c] 0 true 49):=by
 unfold fE
 rw[aD (Ne.symm hne),List.getElem?_set_self hly]
theorem xt {h:ah} {q ho c:Nat} (hlh:ih<h.length):(fE h Y id ar iy ih q ho c)[ih]? = some (.aA [i64 (ho:Int)] 0 true 3):=by
 unfold fE
 rw[List.getElem?_set_self (by rw[List.length_set];exact hlh)]
theorem Kf {h0:ah} {v:Value} {l:List Item} (hr:bJ h0 v l) (hid0:h0[id]? = some (.aA (Y.flatMap Sym.cells) ar own 56)) (hY:Y.length≤1000) (hne:iy≠ih) (hiy0:h0.length≤iy) (hih0:h0.length≤ih) : ∀ {h:ah} {q ho c:Nat},h0 <+: h→h=fE h Y id ar iy ih q ho c→iy<h.length→ih<h.length→q≤Y.length→ho≤q → FW env 137 [v,.pointer (some ⟨iy,0,some 0⟩),.pointer (some ⟨ih,0,some 0⟩)] h fun r h'=>∃ (b:Bool) (q' ho' c':Nat),r = .bool b∧h'=fE h Y id ar iy ih q' ho' c'∧(b=true→j8 Y l (q,ho)=some (q',ho')∧q'≤Y.length∧ho'≤q')∧(b=false→j8 Y l (q,ho)=none):=by{
induction hr with
| @mk v l us hl hs hu ih_=>
  intro h q0 ho0 c0 hp0 hH hly hlh hq0 hho0
  obtain⟨p,c,rfl⟩:=hs.form
  have hle:=hs.1
  have hn:l.length≤140737488355328:=by omega
  refine fe Tryz.func137 ?_;simp only[push_cast]
  refine aC ?_
  refine aZ l.length (fun k (x:Nat×Nat×Nat)=>[(1,.val (.pointer (some ⟨iy,0,some 0⟩))),(2,.val (.pointer (some ⟨ih,0,some 0⟩))),(10,.val (.slice p l.length c)),(11,.val (i64 l.length)),(12,.val (i64 k))]) (fun _ x=>fE h Y id ar iy ih x.1 x.2.1 x.2.2) (fun k x=>j8 Y (l.take k) (q0,ho0)=some (x.1,x.2.1)∧x.1≤Y.length∧x.2.1≤x.1) (q0,ho0,c0) aK hH ⟨rfl,hq0,hho0⟩ ?_
  rintro k ⟨q,ho,cy⟩ hk ⟨hfit,hq,hho⟩
  simp only at hfit hq hho ⊢
  have hpk:h0 <+: fE h Y id ar iy ih q ho cy:=a8 (a8 hp0 hiy0) hih0
  have hgy:=Bq (Y:=Y) (id:=id) (ar:=ar) (q:=q) (ho:=ho) (c:=cy) hne hly
  have hgh:=xt (Y:=Y) (id:=id) (ar:=ar) (iy:=iy) (q:=q) (ho:=ho) (c:=cy) hlh
  have hlen1:iy<(fE h Y id ar iy ih q ho cy).length:=by unfold fE;rw[List.length_set,List.length_set];exact hly
  have hlen2:ih<(fE h Y id ar iy ih q ho cy).length:=by unfold fE;rw[List.length_set,List.length_set];exact hlh
  by_cases hlt:k<l.length
  ·obtain⟨id2,ver2,own2,c',hv,hid2⟩:=bT.at (hs.mono hpk) om
   cases hv
   have e1:=cg hlt
   have e2:=inc hlt hn
   have e3:=aS hlt
   have hi':k<us.length:=hl▸hlt
   have hg:=rT hl hlt
   have hrec:=@ih_ k l[k] us[k] (by simp [hlt]) (by simp [hi'])
   obtain⟨pu,cu,huf⟩:∃ pu cu,us[k] = .slice pu l[k].bG.length cu:=cV.form (bJ.iff.1 (hu k l[k] us[k] (by simp [hlt]) (by simp [hi'])))
   rw[huf] at hg hrec
   have hst:=DR hlt hfit
   have hsp:=C5 hlt hfit
   generalize hX:l[k]=x at hg hrec hst hsp
   refine aG e3 ?_
   refine ae rfl ?_
   by_cases k5:x.kind=5
   ·have d5:=decide_eq_true k5
    refine fi e1 hid2 hg d5 ?_
    refine ae rfl ?_
    refine cz ?_
    show CW _ _ _ _
    refine ae rfl ?_
    by_cases q40:40<x.n
    ·have d40:=decide_eq_true q40
     refine aG d40 ?_
     refine ae rfl ?_
     refine aC ?_
     refine ai ?_
     refine⟨_,ak,false,q,ho,cy,rfl,rfl,fun h=>(by cases h),fun _=>hsp ?_⟩
     rw[eO]
     rw[if_pos (by simp [k5]),if_pos q40]
    ·have d40:=decide_eq_false q40
     refine aG d40 ?_
     refine zj Tryz.func137 ?_
     refine (hrec hpk (nV hne).symm hlen1 hlen2 hq hho).mono ?_
     rintro _ h3 ⟨b',q',ho',c3,rfl,rfl,g1,g2⟩
     rw[nV hne]
     cases b' with
     | false=>
       refine aC ?_
       refine ae rfl ?_
       refine aC ?_
       refine ai ?_
       refine⟨_,ak,false,q',ho',c3,rfl,rfl,fun h=>(by cases h),fun _=>hsp ?_⟩
       rw[eO]
       rw[if_pos (by simp [k5]),if_neg q40]
       exact g2 rfl
     | true=>
       obtain⟨g3,g4,g5⟩:=g1 rfl
       refine aC ?_
       refine af rfl ?_
       refine aG e2 ?_
       refine⟨hlt,(q',ho',c3),aK,rfl,?_,g4,g5⟩
       rw[hst,eO,if_pos (by simp [k5]),if_neg q40]
       exact g3
   have d5:=decide_eq_false k5
   refine fi e1 hid2 hg d5 ?_
   refine af rfl ?_
   by_cases k6:x.kind=6
   ·have d6:=decide_eq_true k6
    refine aG d6 ?_
    refine ae rfl ?_
    by_cases q40:40<x.n
    ·have d40:=decide_eq_true q40
     refine aG d40 ?_
     refine ae rfl ?_
     refine aC ?_
     refine ai ?_
     refine⟨_,ak,false,q,ho,cy,rfl,rfl,fun h=>(by cases h),fun _=>hsp ?_⟩
     rw[eO]
     rw[if_pos (by simp [k6]),if_pos q40]
    ·have d40:=decide_eq_false q40
     refine aG d40 ?_
     refine zj Tryz.func137 ?_
     refine (hrec hpk (nV hne).symm hlen1 hlen2 hq hho).mono ?_
     rintro _ h3 ⟨b',q',ho',c3,rfl,rfl,g1,g2⟩
     rw[nV hne]
     cases b' with
     | false=>
       refine aC ?_
       refine ae rfl ?_
       refine aC ?_
       refine ai ?_
       refine⟨_,ak,false,q',ho',c3,rfl,rfl,fun h=>(by cases h),fun _=>hsp ?_⟩
       rw[eO]
       rw[if_pos (by simp [k6]),if_neg q40]
       exact g2 rfl
     | true=>
       obtain⟨g3,g4,g5⟩:=g1 rfl
       refine aC ?_
       refine af rfl ?_
       refine aG e2 ?_
       refine⟨hlt,(q',ho',c3),aK,rfl,?_,g4,g5⟩
       rw[hst,eO,if_pos (by simp [k6]),if_neg q40]
       exact g3
   have d6:=decide_eq_false k6
   have n56:¬ (x.kind=5∨x.kind=6):=by simp [k5,k6]
   refine aG d6 ?_
   refine af rfl ?_
   by_cases k1:x.kind=1
   ·have d1:=decide_eq_true k1
    refine aG d1 ?_
    refine ae rfl ?_
    refine cz ?_
    show CW _ _ _ _
    refine ae rfl ?_
    by_cases hqe:q=Y.length
    ·have hm0:Y.length-q=0:=by omega
     rw[hm0] at hgy
     refine aG hgy ?_
     refine ae rfl ?_
     refine aC ?_
     refine ai ?_
     refine⟨_,ak,false,q,ho,cy,rfl,rfl,fun h=>(by cases h),fun _=>hsp ?_⟩
     rw[eO]
     rw[if_neg n56,if_pos k1,List.getElem?_eq_none om]
    obtain⟨m,hm⟩:∃ m,Y.length-q=m+1:=⟨Y.length-q-1,by omega⟩
    rw[hm] at hgy
    have hql:q<Y.length:=by omega
    have hdl:decide (((m:Int)+1)=0)=false:=decide_eq_false om
    refine fh hgy hdl ?_
    refine af rfl ?_
    have hidk:=ag hpk hid0
    have hyg:=ig (l:=Y) (i:=q) hql
    have r0:((0:Int)<(m:Int)+1)=True:=eq_true om
    have r1:((0:Int)≤1∧(1:Int)≤(m:Int)+1∧(m:Int)+1≤(m:Int)+1)=True:=eq_true om
    have r2:((m:Int)+1-1).toNat=m:=by omega
    have hye:Y[q]? = some Y[q]:=List.getElem?_eq_getElem hql
    generalize Y[q]=y at hyg hye
    have hsetY:(fE h Y id ar iy ih q ho cy).set iy (.aA [.slice (some ⟨id,q*8+8,some ar⟩) m m] 0 true 49)=fE h Y id ar iy ih (q+1) ho m:=by
     have:=Hh (h:=h) (Y:=Y) (id:=id) (ar:=ar) (q:=q) (ho:=ho) (c:=cy) (q':=q+1) (c':=m) hne
     rw[show Y.length-(q+1)=m by omega,show (q+1)*8=q*8+8 by omega] at this
     exact this
    refine DB hgy r0 r1 r2 hidk hyg ?_
    refine bV (v:=.slice (some ⟨id,q*8+8,some ar⟩) m m) (vs:=[.slice (some ⟨id,q*8+8,some ar⟩) m m]) (cells':=[.slice (some ⟨id,q*8+8,some ar⟩) m m]) ak rfl rfl rfl ak hgy ak rfl rfl ?_
    dsimp only
    rw[hsetY]
    refine aG d1 ?_
    refine ae rfl ?_
    by_cases y1:y.kind=1
    ·have f1:=decide_eq_true y1
     by_cases y2:y.text=x.text
     ·have f2:=decide_eq_true y2
      refine fh f1 f2 ?_
      refine af rfl ?_
      refine cz ?_
      show CW _ _ _ _
      refine az ?_
      show CW _ _ _ _
      refine aG e2 ?_
      refine⟨hlt,(q+1,ho,m),aK,rfl,?_,hql,Nat.le_succ_of_le hho⟩
      rw[hst,eO,if_neg n56,if_pos k1,hye]
      simp only
      rw[if_pos ⟨y1,y2⟩]
     ·have f2:=decide_eq_false y2
      refine fh f1 f2 ?_
      refine ae rfl ?_
      refine aC ?_
      refine ai ?_
      refine⟨_,ak,false,q+1,ho,m,rfl,rfl,fun h=>(by cases h),fun _=>hsp ?_⟩
      rw[eO]
      rw[if_neg n56,if_pos k1,hye]
      simp only
      rw[if_neg (fun h=>y2 h.2)]
    ·have f1:=decide_eq_false y1
     refine aG f1 ?_
     refine ae rfl ?_
     refine aC ?_
     refine ai ?_
     refine⟨_,ak,false,q+1,ho,m,rfl,rfl,fun h=>(by cases h),fun _=>hsp ?_⟩
     rw[eO]
     rw[if_neg n56,if_pos k1,hye]
     simp only
     rw[if_neg (fun h=>y1 h.1)]
   have d1:=decide_eq_false k1
   refine aG d1 ?_
   refine af rfl ?_
   by_cases k2:x.kind=2
   ·have d2:=decide_eq_true k2
    refine aG d2 ?_
    refine ae rfl ?_
    by_cases hqe:q=Y.length
    ·have hm0:Y.length-q=0:=by omega
     rw[hm0] at hgy
     refine aG hgy ?_
     refine ae rfl ?_
     refine aC ?_
     refine ai ?_
     refine⟨_,ak,false,q,ho,cy,rfl,rfl,fun h=>(by cases h),fun _=>hsp ?_⟩
     rw[eO]
     rw[if_neg n56,if_neg k1,if_pos k2,List.getElem?_eq_none om]
    obtain⟨m,hm⟩:∃ m,Y.length-q=m+1:=⟨Y.length-q-1,by omega⟩
    rw[hm] at hgy
    have hql:q<Y.length:=by omega
    have hdl:decide (((m:Int)+1)=0)=false:=decide_eq_false om
    refine fh hgy hdl ?_
    refine af rfl ?_
    have hidk:=ag hpk hid0
    have hyg:=ig (l:=Y) (i:=q) hql
    have r0:((0:Int)<(m:Int)+1)=True:=eq_true om
    have r1:((0:Int)≤1∧(1:Int)≤(m:Int)+1∧(m:Int)+1≤(m:Int)+1)=True:=eq_true om
    have r2:((m:Int)+1-1).toNat=m:=by omega
    have hye:Y[q]? = some Y[q]:=List.getElem?_eq_getElem hql
    generalize Y[q]=y at hyg hye
    have hsetY:(fE h Y id ar iy ih q ho cy).set iy (.aA [.slice (some ⟨id,q*8+8,some ar⟩) m m] 0 true 49)=fE h Y id ar iy ih (q+1) ho m:=by
     have:=Hh (h:=h) (Y:=Y) (id:=id) (ar:=ar) (q:=q) (ho:=ho) (c:=cy) (q':=q+1) (c':=m) hne
     rw[show Y.length-(q+1)=m by omega,show (q+1)*8=q*8+8 by omega] at this
     exact this
    refine DB hgy r0 r1 r2 hidk hyg ?_
    refine bV (v:=.slice (some ⟨id,q*8+8,some ar⟩) m m) (vs:=[.slice (some ⟨id,q*8+8,some ar⟩) m m]) (cells':=[.slice (some ⟨id,q*8+8,some ar⟩) m m]) ak rfl rfl rfl ak hgy ak rfl rfl ?_
    dsimp only
    rw[hsetY]
    refine aG d1 ?_
    refine af rfl ?_
    have hgh1:=xt (h:=h) (Y:=Y) (id:=id) (ar:=ar) (iy:=iy) (q:=q+1) (ho:=ho) (c:=m) hlh
    have w1:IntKind.i64.wrap ((ho:Int)+1)=(ho:Int)+1:=ax om om
    have hsetH:(fE h Y id ar iy ih (q+1) ho m).set ih (.aA [i64 ((ho:Int)+1)] 0 true 3)=fE h Y id ar iy ih (q+1) (ho+1) m:=Mo
    have hgh2:=xt (h:=h) (Y:=Y) (id:=id) (ar:=ar) (iy:=iy) (q:=q+1) (ho:=ho+1) (c:=m) hlh
    refine fh hgh1 w1 ?_
    refine bV (v:=i64 ((ho:Int)+1)) (vs:=[i64 ((ho:Int)+1)]) (cells':=[i64 ((ho:Int)+1)]) ak rfl rfl rfl ak hgh1 ak rfl rfl ?_
    dsimp only
    rw[hsetH]
    refine aC ?_
    refine aQ 10 mixed kr ?_
    by_cases y1:y.kind=1
    ·have f1:=decide_eq_true y1
     refine aG f1 ?_
     refine ae rfl ?_
     refine aC ?_
     refine ai ?_
     refine⟨_,ak,false,q+1,ho+1,m,rfl,rfl,fun h=>(by cases h),fun _=>hsp ?_⟩
     rw[eO]
     rw[if_neg n56,if_neg k1,if_pos k2,hye]
     simp only
     rw[if_pos (.inl y1)]
    ·have f1:=decide_eq_false y1
     by_cases y2:x.n=(ho:Int)+1
     ·have f2:=decide_eq_true y2
      refine gV f1 f2 hgh2 ?_
      refine af rfl ?_
      refine aG e2 ?_
      refine⟨hlt,(q+1,ho+1,m),aK,rfl,?_,hql,Nat.succ_le_succ hho⟩
      rw[hst,eO,if_neg n56,if_neg k1,if_pos k2,hye]
      simp only
      rw[if_neg (by simp [y1,y2])]
     ·have f2:=decide_eq_false y2
      refine gV f1 f2 hgh2 ?_
      refine ae rfl ?_
      refine aC ?_
      refine ai ?_
      refine⟨_,ak,false,q+1,ho+1,m,rfl,rfl,fun h=>(by cases h),fun _=>hsp ?_⟩
      rw[eO]
      rw[if_neg n56,if_neg k1,if_pos k2,hye]
      simp only
      rw[if_pos (.inr y2)]
   have d2:=decide_eq_false k2
   refine aG d2 ?_
   refine af rfl ?_
   refine aG e2 ?_
   refine⟨hlt,(q,ho,cy),aK,rfl,?_,hq,hho⟩
   rw[hst,eO,if_neg n56,if_neg k1,if_neg k2]
  ·have e3:=aP hlt
   obtain rfl:k=l.length:=by omega
   rw[List.take_length] at hfit
   refine aG e3 ?_
   refine af rfl ?_
   refine az ?_
   show CW _ _ _ _
   refine aC ?_
   refine ai ?_
   exact⟨_,ak,true,q,ho,cy,rfl,rfl,fun _=>⟨hfit,hq,hho⟩,fun h=>(by cases h)⟩}
end
section
variable {h:ah} {r:Value} {d:bM}
def Ag (d:bM) (x:Hy):Prop:=∃ (k:Nat) (hk:k<d.aa.length),ju d.aa x.cons k∧∃ ho,j8 d.aa[k].aj x.bG (0,0)=some (d.aa[k].aj.length,ho)
def kx (d:bM):Prop:=(∀ x∈d.boxes,Ag d x)∧(d.boxes.map (·.cons)).Nodup
structure Tx (d:bM) (es:List (ByteArray×Int)) (k:Nat):Prop where
 g:∀ x,dJ es x=if zD ((d.boxes.take k).map (·.cons)) x=true then 1 else 0
 o:∀ (i:Nat) (hi:i<d.boxes.length),i<k→Ag d d.boxes[i]
 n:((d.boxes.take k).map (·.cons)).Nodup
theorem Tx.add {es:List (ByteArray×Int)} {k:Nat} (B:Tx d es k) (hk:k<d.boxes.length) (h0:dJ es d.boxes[k].cons=0) (ht:Ag d d.boxes[k]):Tx d (dx es d.boxes[k].cons 1) (k+1):=by{
have hn:d.boxes[k].cons∉(d.boxes.take k).map (·.cons):=fun h=>by rw[B.g,if_pos (cQ.2 h)] at h0;cases h0
refine⟨fun y=>?_,fun i hi h2=>?_,?_⟩
·rw[eV,B.g,fj hk]
 by_cases e:y=d.boxes[k].cons
 ·rw[if_pos e,if_pos (cQ.2 (by rw[e];simp))]
 ·rw[if_neg e]
  by_cases q:y∈(d.boxes.take k).map (·.cons)
  ·rw[if_pos (cQ.2 q),if_pos (cQ.2 (List.mem_append_left _ q))]
  ·rw[if_neg (fun k=>q (cQ.1 k)),if_neg (fun k=>?_)]
   rcases List.mem_append.1 (cQ.1 k) with k|k
   ·exact q k
   ·exact e (List.mem_singleton.1 k)
·rcases (by omega:i<k∨i=k) with h4|rfl
 ·exact B.o i hi h4
 ·exact ht
·rw[fj hk,List.nodup_append]
 exact⟨B.n,by simp,fun a ha b hb e=>hn (by rw[← List.mem_singleton.1 hb,← e];exact ha)⟩}
theorem ju.lt {ps:List Prod} {n:ByteArray} {i:Int} (h:ju ps n i) (h0:0≤i):∃ (k:Nat) (hk:k<ps.length),i=(k:Int):=by{
rcases h with ⟨_,rfl⟩ | ⟨_,⟨k,hk,_,_,rfl⟩ | ⟨_,rfl⟩⟩
·omega
·exact⟨k,hk,rfl⟩
·omega}
theorem LB (hk:Bk h r d) (hr:cE d=true):FW env 81 [r] h fun x h'=>iK (kx d) x∧h'=h:=by{
refine mc ?_
have hk0:=hk
obtain⟨h0,ib,im,sv,up,uc,uf,ur,ub,rfl,hd,K⟩:=hk
have hd:=hd.mono K.p
obtain⟨p1,c1,p2,c2,p3,c3,p4,c4,p5,c5,rfl,rfl,rfl,rfl,rfl,l1,l2,l3,l4,l5⟩:=bH.form hd
obtain⟨es,hm,hes⟩:=K.m
have hb:=K.b
unfold bM.val at hb
simp only[List.cons_append,List.nil_append] at hb
have hkk:=br es
have hss:bj h sv (aE d.aa):=K.s.sl (b:=16) (by have:=bZ (ps:=d.aa);have:=cV.le hd.aa;omega)
obtain⟨pq,cq,rfl⟩:=hss.form
refine fe Tryz.func81 ?_;simp only[push_cast]
refine zu ?_
iterate 2 (refine zx tP ?_)
refine zu ?_
refine kP (kt:=9) (et:=3) ak rfl kr ?_
have hp0:h <+: h++[av.map []]:=aH
have hm0:(h++[av.map []])[h.length]? = some (.map (fU [])):=aJ
have hb1:=ag hp0 hb
have him0:h.length≤h.length:=Nat.le_refl _
generalize (h++[av.map []])=h2 at hp0 hm0 hb1 ⊢
generalize him:h.length=im at hm0 him0 ⊢
refine aG hb1 ?_
refine aZ d.boxes.length (fun k (x:ah×List (ByteArray×Int))=>[(0,.val (.pointer (some ⟨ib,0,some 0⟩))),(4,.val (.map (some im))),(15,.val (.slice p5 d.boxes.length c5)),(16,.val (i64 d.boxes.length)),(17,.val (i64 k))]) (fun _ x=>x.1)
 (fun k x=>h <+: x.1∧x.1[im]? = some (.map (fU x.2))∧Tx d x.2 k) (h2,[]) aK rfl ⟨hp0,hm0,⟨fun x=>rfl,fun i _ hi=>absurd hi om,.nil⟩⟩ ?_
rintro k ⟨hk4,es⟩ hkn ⟨hp,hm,hB⟩
simp only at hp hm hB ⊢
by_cases hlt:k<d.boxes.length
·obtain⟨id,ar,own,c',cells,u,hv,hid0,hrd,hu⟩:=cV.at (k:=2) (fun _ _=>rfl) hd.boxes hlt
 cases hv
 have hid:=ag hp hid0
 have hu0:=hu
 obtain⟨ps,cs,rfl⟩:=cV.form (bJ.iff.1 hu)
 have w1:=cg hlt
 have w2:=inc hlt l5
 have q3:=aS hlt
 have hb4:=ag hp hb
 have hkk:=br es
 have hmem:=List.getElem_mem hlt
 refine aG q3 ?_
 refine ae rfl ?_
 refine gV w1 hid hrd ?_
 refine aQ 6 mixed kr ?_
 refine aG hb4 ?_
 refine zj Tryz.func24 ?_
 refine (rJ (hd.mono hp)).mono ?_
 rintro _ h5 ⟨⟨ci,hci,rfl⟩,e5⟩
 obtain rfl:=e5.symm
 have hgx:=hB.g d.boxes[k].cons
 have hdup:d.boxes[k].cons∈(d.boxes.take k).map (·.cons)→¬ kx d:=fun hin hbo=>by
  have h1:=hbo.2
  rw[← List.take_append_drop (k+1) d.boxes,List.map_append,fj hlt] at h1
  have h2:=(List.nodup_append.1 h1).1
  exact (List.nodup_append.1 h2).2.2 _ hin _ (List.mem_singleton.2 rfl) rfl
 have hneg:ci<0→¬ kx d:=fun hc hbo=>by
  obtain⟨kk,_,h2,_⟩:=hbo.1 _ hmem
  have:=hci.AV h2
  omega
 by_cases hin:d.boxes[k].cons∈(d.boxes.take k).map (·.cons)
 ·rw[if_pos (cQ.2 hin)] at hgx
  have hg:=(fy es d.boxes[k].cons).resolve_left (fun h=>by rw[hgx] at h;exact absurd h.2 (by decide))
  rw[hgx] at hg
  have w9:IntKind.i64.wrap (1+1)=2:=by decide
  refine fi hm hg hkk w9 ?_
  refine fN (kt:=9) (et:=3) (kd:=eZ) ak rfl rfl kr rfl ak hm ak ak rfl hkk ?_
  dsimp only
  rw[dY]
  have hp6:h <+: hk4.set im (.map (fU (dx es d.boxes[k].cons 2))):=a8 hp om
  have hm6:(hk4.set im (.map (fU (dx es d.boxes[k].cons 2))))[im]? = some (.map (fU (dx es d.boxes[k].cons 2))):=aw hm
  have hg6:gQ (fU (dx es d.boxes[k].cons 2)) (.string d.boxes[k].cons)=some (i64 2):=by rw[ov,lX,if_pos rfl];rfl
  have hkk6:=br (dx es d.boxes[k].cons 2)
  generalize (dx es d.boxes[k].cons 2)=es6 at hp6 hm6 hg6 hkk6 ⊢
  generalize (hk4.set im (av.map (fU es6)))=h6 at hp6 hm6 ⊢
  by_cases qc:ci<0
  ·have dc:=decide_eq_true qc
   refine aG dc ?_
   refine ae rfl ?_
   refine aC ?_
   refine aQ 3 mixed kr ?_
   refine aC ?_
   refine ai ?_
   refine⟨_,ak,⟨52,_,rfl,⟨fun h=>(by cases h),fun h=>absurd h (hneg qc)⟩⟩,hp6⟩
  ·have dc:=decide_eq_false qc
   refine fi dc hm6 hg6 hkk6 ?_
   refine ae rfl ?_
   refine aC ?_
   refine aQ 3 mixed kr ?_
   refine aC ?_
   refine ai ?_
   refine⟨_,ak,⟨52,_,rfl,⟨fun h=>(by cases h),fun h=>absurd h (hdup hin)⟩⟩,hp6⟩
 ·rw[if_neg (fun k=>hin (cQ.1 k))] at hgx
  have hB':=hB.add hlt hgx
  have w9:IntKind.i64.wrap (0+1)=1:=by decide
  iterate 1 (refine zx tP ?_)
  apply zn
  show CW _ _ _ _
  apply zs
  refine CW.mono (Q:=fun e s'=>e = .normal∧s'.h=hk4.set im (.map (fU (dx es d.boxes[k].cons 1)))∧bA [(0,.val (.pointer (some ⟨ib,0,some 0⟩))),(4,.val (.map (some im))),(6,.box [.string d.boxes[k].cons,.slice ps d.boxes[k].bG.length cs]),(7,.val (i64 ci)),(15,.val (.slice (some ⟨id,0,some ar⟩) d.boxes.length c5)),(16,.val (i64 d.boxes.length)),(17,.val (i64 k))] s'.fr) ?_ ?_
  ·rcases fy es d.boxes[k].cons with ⟨hg,_⟩ | hg
   ·refine fi hm hg hkk w9 ?_
    refine fN (kt:=9) (et:=3) (kd:=eZ) ak rfl rfl kr rfl ak hm ak ak rfl hkk ?_
    dsimp only
    rw[dY]
    refine aC ?_
    exact⟨rfl,rfl,aK⟩
   ·rw[hgx] at hg
    refine fi hm hg hkk w9 ?_
    refine fN (kt:=9) (et:=3) (kd:=eZ) ak rfl rfl kr rfl ak hm ak ak rfl hkk ?_
    dsimp only
    rw[dY]
    refine aC ?_
    exact⟨rfl,rfl,aK⟩
  rintro e s' ⟨rfl,hh,hf⟩
  show CW _ _ _ _
  refine aB _ hf ?_
  rw[hh]
  clear hf hh s'
  have hp6:h <+: hk4.set im (.map (fU (dx es d.boxes[k].cons 1))):=a8 hp om
  have hm6:(hk4.set im (.map (fU (dx es d.boxes[k].cons 1))))[im]? = some (.map (fU (dx es d.boxes[k].cons 1))):=aw hm
  have hg6:gQ (fU (dx es d.boxes[k].cons 1)) (.string d.boxes[k].cons)=some (i64 1):=by rw[ov,lX,if_pos rfl];rfl
  have hkk6:=br (dx es d.boxes[k].cons 1)
  generalize (dx es d.boxes[k].cons 1)=es6 at hp6 hm6 hg6 hkk6 hB' ⊢
  generalize (hk4.set im (av.map (fU es6)))=h6 at hp6 hm6 ⊢
  by_cases qc:ci<0
  ·have dc:=decide_eq_true qc
   refine aG dc ?_
   refine ae rfl ?_
   refine aC ?_
   refine aQ 3 mixed kr ?_
   refine aC ?_
   refine ai ?_
   refine⟨_,ak,⟨52,_,rfl,⟨fun h=>(by cases h),fun h=>absurd h (hneg qc)⟩⟩,hp6⟩
  have dc:=decide_eq_false qc
  obtain⟨kk,hkl,rfl⟩:=hci.lt om
  obtain⟨idp,verp,ownp,cp',cellsp,up,hvp,hidp0,hrdp,hup⟩:=cV.at (k:=5) (fun _ _=>rfl) hd.aa hkl
  cases hvp
  have hidp:=ag hp6 hidp0
  have hup:fR h up d.aa[kk].aj:=hup
  have hrp:ct d.aa[kk]=true:=by
   unfold cE at hr
   simp only[Bool.and_eq_true] at hr
   exact List.all_eq_true.1 hr.2.1 _ (List.getElem_mem hkl)
  have hsl:d.aa[kk].aj.length≠0∧d.aa[kk].aj.length≤12:=by
   unfold ct at hrp
   simp only[Bool.and_eq_true,decide_eq_true_eq] at hrp
   exact hrp.1.2.2
  obtain⟨idy,very,owny,cy,hvy,hidy⟩:=bT.at hup om
  subst hvy
  have hg4:=eK (j:=4) hrdp om
  simp only[List.getElem?_cons_succ,List.getElem?_cons_zero] at hg4
  have hb6:=ag hp6 hb
  have wk:=cg hkl
  generalize hPk:d.aa[kk]=P at hrdp hg4 hup hidy hsl
  refine fi dc hm6 hg6 hkk6 ?_
  refine af rfl ?_
  refine zu ?_
  iterate 9 (refine zx (VM hb6 wk hidp hg4) ?_)
  refine dA (t:=49) (cs:=[bX]) ak ak ?_
  dsimp only[St.a9,St.put]
  refine bV (v:=.slice (some ⟨idy,0,some very⟩) P.aj.length cy) (vs:=[.slice (some ⟨idy,0,some very⟩) P.aj.length cy]) (cells':=[.slice (some ⟨idy,0,some very⟩) P.aj.length cy]) ak rfl rfl rfl ak aJ ak rfl rfl ?_
  dsimp only
  have hset1:(h6++[av.aA [bX] 0 true 49]).set h6.length (.aA [.slice (some ⟨idy,0,some very⟩) P.aj.length cy] 0 true 49)=h6++[.aA [.slice (some ⟨idy,0,some very⟩) P.aj.length cy] 0 true 49]:=by simp
  rw[hset1]
  obtain⟨h7,hh7⟩:∃ h7,h7=h6++[av.aA [.slice (some ⟨idy,0,some very⟩) P.aj.length cy] 0 true 49]:=⟨_,rfl⟩
  have hp7:h6 <+: h7:=hh7▸aH
  have hy7:h7[h6.length]? = some (.aA [.slice (some ⟨idy,0,some very⟩) P.aj.length cy] 0 true 49):=hh7▸aJ
  have hl7:h7.length=h6.length+1:=by rw[hh7];simp
  rw[← hh7]
  refine zu ?_
  refine dA (t:=3) (cs:=[i64 0]) ak ak ?_
  dsimp only[St.a9,St.put]
  refine bV (v:=i64 0) (vs:=[i64 0]) (cells':=[i64 0]) ak rfl rfl rfl ak aJ ak rfl rfl ?_
  dsimp only
  have hset2:(h7++[av.aA [i64 0] 0 true 3]).set h7.length (.aA [i64 0] 0 true 3)=h7++[.aA [i64 0] 0 true 3]:=by simp
  rw[hset2]
  obtain⟨h8,hh8⟩:∃ h8,h8=h7++[av.aA [i64 0] 0 true 3]:=⟨_,rfl⟩
  have hp8:h7 <+: h8:=hh8▸aH
  have hh9:h8[h7.length]? = some (.aA [i64 0] 0 true 3):=hh8▸aJ
  have hl8:h8.length=h7.length+1:=by rw[hh8];simp
  rw[← hh8]
  have hy8:=ag hp8 hy7
  have hm8:=ag (hp7.trans hp8) hm6
  have hpp:=hp6.trans (hp7.trans hp8)
  have hlen6:=hp6.length_le
  have him6:=cD hm6
  clear hh7 hh8 hset1 hset2
  have hfH:h8=fE h8 P.aj idy very h6.length h7.length 0 0 cy:=by
   unfold fE
   rw[Nat.zero_mul,Nat.sub_zero,ma hy8,show (((0:Nat):Int))=0 from rfl,ma hh9]
  have hNo:(∀ ho,j8 P.aj d.boxes[k].bG (0,0)≠some (P.aj.length,ho))→¬ kx d:=fun hn hbo=>by
   obtain⟨k2,hk2,h3,ho,h4⟩:=hbo.1 _ hmem
   have:=h3.AV hci
   obtain rfl:k2=kk:=by omega
   rw[hPk] at h4
   exact hn ho h4
  refine aC ?_
  refine zj Tryz.func137 ?_
  refine (Kf hu0 hidy om om om om hpp hfH om om (Nat.zero_le _) (Nat.le_refl _)).mono ?_
  rintro _ h9 ⟨b',q',ho',c3,rfl,rfl,g1,g2⟩
  have hgy9:=Bq (h:=h8) (Y:=P.aj) (id:=idy) (ar:=very) (iy:=h6.length) (ih:=h7.length) (q:=q') (ho:=ho') (c:=c3) om om
  have hp9:h <+: fE h8 P.aj idy very h6.length h7.length q' ho' c3:=a8 (a8 hpp om) om
  have hm9:(fE h8 P.aj idy very h6.length h7.length q' ho' c3)[im]? = some (.map (fU es6)):=by
   unfold fE
   rw[aD om,aD om]
   exact hm8
  generalize fE h8 P.aj idy very h6.length h7.length q' ho' c3=h9 at hgy9 hp9 hm9 ⊢
  cases b' with
  | false=>
    have hN2:¬ kx d:=hNo fun ho=>by
     rw[g2 rfl]
     simp
    refine aC ?_
    refine ae rfl ?_
    refine aC ?_
    refine aQ 3 mixed kr ?_
    refine aC ?_
    refine ai ?_
    refine⟨_,ak,⟨52,_,rfl,⟨fun h=>(by cases h),fun h=>absurd h hN2⟩⟩,hp9⟩
  | true=>
    obtain⟨g3,g4,g5⟩:=g1 rfl
    by_cases qe:q'=P.aj.length
    ·have hm0:P.aj.length-q'=0:=by omega
     rw[hm0] at hgy9
     refine aG hgy9 ?_
     refine af rfl ?_
     refine aG w2 ?_
     exact⟨hlt,(h9,es6),aK,rfl,hp9,hm9,hB' ⟨kk,hkl,hci,ho',by rw[hPk,← qe];exact qe ▸ g3⟩⟩
    ·obtain⟨m,hm⟩:∃ m,P.aj.length-q'=m+1:=⟨P.aj.length-q'-1,by omega⟩
     rw[hm] at hgy9
     have dm:decide ((0:Int)<(m:Int)+1)=true:=decide_eq_true om
     refine fh hgy9 dm ?_
     refine ae rfl ?_
     have hN2:¬ kx d:=hNo fun ho he=>by
      rw[g3] at he
      cases he
      exact qe rfl
     refine aC ?_
     refine aQ 3 mixed kr ?_
     refine aC ?_
     refine ai ?_
     refine⟨_,ak,⟨52,_,rfl,⟨fun h=>(by cases h),fun h=>absurd h hN2⟩⟩,hp9⟩
·have e3:=aP hlt
 obtain rfl:k=d.boxes.length:=by omega
 refine aG e3 ?_
 refine af rfl ?_
 refine az ?_
 show CW _ _ _ _
 refine aC ?_
 refine ai ?_
 refine⟨_,ak,⟨0,_,rfl,fun _=>⟨fun x hx=>?_,?_⟩,fun _=>rfl⟩,hp⟩
 ·obtain⟨i,hi,rfl⟩:=List.getElem_of_mem hx
  exact hB.o i hi hi
 ·have:=hB.n
  rw[List.take_length] at this
  exact this}
end
section
variable {h:ah} {r:Value} {d:bM} {up uc uf ur ub:Value}
theorem rh {g:FuncId} {er:Int}:FW env 71 [i64 er,.func (.func g) #[] #[]] h fun x h'=>∃ i1 i2,x = .func (.func 129) #[] #[.pointer (some ⟨i1,0,some 0⟩),.pointer (some ⟨i2,0,some 0⟩)]∧h <+: h'∧h'[i1]? = some (.aA [.func (.func g) #[] #[]] 0 true 142)∧h'[i2]? = some (.aA [i64 er] 0 true 44):=by{
refine fe Tryz.func71 ?_;simp only[push_cast]
refine zu ?_
refine dA (t:=44) (cs:=[i64 er]) ak ak ?_
dsimp only[St.a9,St.put]
have hp1:h <+: h++[av.aA [i64 er] 0 true 44]:=aH
have hx2:(h++[av.aA [i64 er] 0 true 44])[h.length]? = some (.aA [i64 er] 0 true 44):=aJ
generalize (h++[av.aA [i64 er] 0 true 44])=h1 at hp1 hx2 ⊢
generalize h.length=i2 at hx2 ⊢
refine dA (t:=142) (cs:=[.func (.func g) #[] #[]]) ak ak ?_
dsimp only[St.a9,St.put]
have hp2:h1 <+: h1++[av.aA [.func (.func g) #[] #[]] 0 true 142]:=aH
have hx1:(h1++[av.aA [.func (.func g) #[] #[]] 0 true 142])[h1.length]? = some (.aA [.func (.func g) #[] #[]] 0 true 142):=aJ
generalize (h1++[av.aA [.func (.func g) #[] #[]] 0 true 142])=h2 at hp2 hx1 ⊢
generalize h1.length=i1 at hx1 ⊢
refine aC ?_
refine ai ?_
exact⟨_,ak,i1,i2,rfl,hp1.trans hp2,hx1,ag hp2 hx2⟩}
def Bd (d:bM):Nat→Prop
 | 0=>cE d=true
 | 1=>∀ s∈aE d.aa,cH d.aa s≠3
 | 2=>cH d.aa d.start=2∧(d.layout.size=0∨cH d.aa d.layout=1)
 | 3=>∀ s∈fF d,cH d.aa s≠0
 | 4=>∀ p∈d.aa,p.aj.any (jN d p.lex)=false
 | 5=>Et d.aa
 | 6=>∀ p∈d.aa,s7 p=false
 | 7=>∀ p∈d.aa,uk d p=false
 | 8=>∀ p∈d.aa,(p.aj.any (fun s=>decide (s.kind=1)&&decide (s.text=⟨#[]⟩))||p.aj.all dG)=false
 | 9=>∀ s∈aE d.aa,¬ rE d.aa (fun p=>gG p.aj) s s
 | 10=>td d
 | 11=>xh d
 | 12=>∀ f∈d.follows,jF f.set=false
 | _=>kx d
def dI (d:bM):Prop:=∀ k,k<14→Bd d k
def Qa (h:ah) (r:Value) (v:Value) (P:Prop):Prop:=∃ g fn cap,v = .func (.func g) #[] (List.toArray cap)∧env.P.funcs[g]? = some fn∧(fn.name == "runtime.NumGoroutine")=false∧fn.body.isNone=false∧FW env g (r :: cap) h (fun x h'=>iK P x∧h'=h)
theorem mI (hr:cE d=true) {p:Prod} (hp:p∈d.aa):p.aj.length≠0∧p.aj.length≤12:=by{
unfold cE at hr
simp only[Bool.and_eq_true] at hr
have hrp:=List.all_eq_true.1 hr.2.1 _ hp
unfold ct at hrp
simp only[Bool.and_eq_true,decide_eq_true_eq] at hrp
exact hrp.1.2.2}
abbrev Hw (g:FuncId):Value:=.func (.func g) #[] #[]
abbrev Bo (i1 i2:Nat):Value:=.func (.func 129) #[] #[.pointer (some ⟨i1,0,some 0⟩),.pointer (some ⟨i2,0,some 0⟩)]
def lR (a1 a2 b1 b2 c1 c2 d1 d2:Nat):List Value:=[Hw 67,Hw 68,Hw 69,Hw 70,Bo a1 a2,Hw 73,Bo b1 b2,Bo c1 c2,Bo d1 d2,Hw 77,Hw 78,Hw 79,Hw 80,Hw 81]
def lv (h:ah) (i1 i2:Nat) (g:FuncId) (er:Int):Prop:=h[i1]? = some (.aA [.func (.func g) #[] #[]] 0 true 142)∧h[i2]? = some (.aA [i64 er] 0 true 44)
theorem lv.mono {h h':ah} {i1 i2:Nat} {g:FuncId} {er:Int} (k:lv h i1 i2 g er) (hp:h <+: h'):lv h' i1 i2 g er:=⟨ag hp k.1,ag hp k.2⟩
theorem E4 (hk:Bk h r d) (hw:qd d) (hpn:cE d=true→cX d≤160) {a1 a2 b1 b2 c1 c2 d1 d2:Nat} (ha:lv h a1 a2 72 44) (hb:lv h b1 b2 74 46) (hc:lv h c1 c2 75 2) (hd:lv h d1 d2 76 47) : ∀ (k:Nat) (v:Value),(lR a1 a2 b1 b2 c1 c2 d1 d2)[k]? = some v→(∀ j,j<k→Bd d j)→Qa h r v (Bd d k):=by{
intro k v hv hP
match k,hv,hP with
| 0,hv,hP=>cases hv;exact⟨67,Tryz.f67,[],rfl,Tryz.func67,by kernel_rfl,by kernel_rfl,Jk hk hw⟩
| 1,hv,hP=>cases hv;exact⟨68,Tryz.f68,[],rfl,Tryz.func68,by kernel_rfl,by kernel_rfl,FG hk⟩
| 2,hv,hP=>cases hv;exact⟨69,Tryz.f69,[],rfl,Tryz.func69,by kernel_rfl,by kernel_rfl,IL hk⟩
| 3,hv,hP=>cases hv;exact⟨70,Tryz.f70,[],rfl,Tryz.func70,by kernel_rfl,by kernel_rfl,mc (vJ hk (hpn (hP 0 (by decide))))⟩
| 4,hv,hP=>cases hv;exact⟨129,Tryz.f129,[.pointer (some ⟨_,0,some 0⟩),.pointer (some ⟨_,0,some 0⟩)],rfl,Tryz.func129,by kernel_rfl,by kernel_rfl,nX hk Tryz.func72 kr kr ha.1 ha.2 (by decide) (fun p _ u hy=>JQ hk hy)⟩
| 5,hv,hP=>cases hv;exact⟨73,Tryz.f73,[],rfl,Tryz.func73,by kernel_rfl,by kernel_rfl,GZ hk⟩
| 6,hv,hP=>cases hv;exact⟨129,Tryz.f129,[.pointer (some ⟨_,0,some 0⟩),.pointer (some ⟨_,0,some 0⟩)],rfl,Tryz.func129,by kernel_rfl,by kernel_rfl,nX hk Tryz.func74 kr kr hb.1 hb.2 (by decide) (fun p _ u hy=>zV hy)⟩
| 7,hv,hP=>cases hv;exact⟨129,Tryz.f129,[.pointer (some ⟨_,0,some 0⟩),.pointer (some ⟨_,0,some 0⟩)],rfl,Tryz.func129,by kernel_rfl,by kernel_rfl,nX hk Tryz.func75 kr kr hc.1 hc.2 (by decide) (fun p hp u hy=>JJ hk hy (hw.aa p hp) (by have:=(mI (hP 0 (by decide)) hp).2;omega))⟩
| 8,hv,hP=>cases hv;exact⟨129,Tryz.f129,[.pointer (some ⟨_,0,some 0⟩),.pointer (some ⟨_,0,some 0⟩)],rfl,Tryz.func129,by kernel_rfl,by kernel_rfl,nX hk Tryz.func76 kr kr hd.1 hd.2 (by decide) (fun p _ u hy=>H6 hy)⟩
| 9,hv,hP=>cases hv;exact⟨77,Tryz.f77,[],rfl,Tryz.func77,by kernel_rfl,by kernel_rfl,EJ hk (hpn (hP 0 (by decide)))⟩
| 10,hv,hP=>cases hv;exact⟨78,Tryz.f78,[],rfl,Tryz.func78,by kernel_rfl,by kernel_rfl,Dq hk (hpn (hP 0 (by decide)))⟩
| 11,hv,hP=>cases hv;exact⟨79,Tryz.f79,[],rfl,Tryz.func79,by kernel_rfl,by kernel_rfl,Jm hk⟩
| 12,hv,hP=>cases hv;exact⟨80,Tryz.f80,[],rfl,Tryz.func80,by kernel_rfl,by kernel_rfl,DG hk⟩
| 13,hv,hP=>cases hv;exact⟨81,Tryz.f81,[],rfl,Tryz.func81,by kernel_rfl,by kernel_rfl,LB hk (hP 0 (by decide))⟩
| k+14,hv,hP=>simp [lR] at hv}
theorem EX (hd:bH h d up uc uf ur ub) (hw:qd d) (hpn:cE d=true→cX d≤160):FW env 31 [.agg (d.val up uc uf ur ub).toArray] h fun x h'=>iK (dI d) x∧h'=h:=by{
refine mc ?_
have hO:=Cs hd
have hd0:=hd
obtain⟨p1,c1,p2,c2,p3,c3,p4,c4,p5,c5,rfl,rfl,rfl,rfl,rfl,l1,l2,l3,l4,l5⟩:=bH.form hd
refine fe Tryz.func31 ?_;simp only[push_cast]
unfold bM.val at hO ⊢
refine aC ?_
refine zj Tryz.func66 ?_
refine hO.mono ?_
rintro _ h1 ⟨ib,im,sv,rfl,hBk⟩
have hp1:=hBk.p
have hk:Bk h1 (.pointer (some ⟨ib,0,some 0⟩)) d:=⟨h,ib,im,sv,_,_,_,_,_,rfl,hd0,hBk⟩
clear hBk
refine aC ?_
refine zj Tryz.func71 ?_
refine (rh (g:=72) (er:=44)).mono ?_
rintro _ h2 ⟨a1,a2,rfl,hp2,ha1,ha2⟩
have ha:lv h2 a1 a2 _ _:=⟨ha1,ha2⟩
refine aC ?_
refine zj Tryz.func71 ?_
refine (rh (g:=74) (er:=46)).mono ?_
rintro _ h3 ⟨b1,b2,rfl,hp3,hb1,hb2⟩
have hb:lv h3 b1 b2 _ _:=⟨hb1,hb2⟩
have ha:=ha.mono hp3
refine aC ?_
refine zj Tryz.func71 ?_
refine (rh (g:=75) (er:=2)).mono ?_
rintro _ h4 ⟨e1,e2,rfl,hp4,hc1,hc2⟩
have hc:lv h4 e1 e2 _ _:=⟨hc1,hc2⟩
have ha:=ha.mono hp4
have hb:=hb.mono hp4
refine aC ?_
refine zj Tryz.func71 ?_
refine (rh (g:=76) (er:=47)).mono ?_
rintro _ h5 ⟨d1,d2,rfl,hp5,hd1,hd2⟩
have hdd:lv h5 d1 d2 _ _:=⟨hd1,hd2⟩
have ha:=ha.mono hp5
have hb:=hb.mono hp5
have hc:=hc.mono hp5
refine df (t:=140) (cs:=lR a1 a2 b1 b2 e1 e2 d1 d2) (n:=14) ak kr ?_
dsimp only[St.a9,St.put]
have hp6:h5 <+: h5++[av.aA (lR a1 a2 b1 b2 e1 e2 d1 d2) 0 true 140]:=aH
have hL:(h5++[av.aA (lR a1 a2 b1 b2 e1 e2 d1 d2) 0 true 140])[h5.length]? = some (.aA (lR a1 a2 b1 b2 e1 e2 d1 d2) 0 true 140):=aJ
generalize (h5++[av.aA (lR a1 a2 b1 b2 e1 e2 d1 d2) 0 true 140])=h6 at hp6 hL ⊢
generalize h5.length=iL at hL ⊢
have hp26:=((hp3.trans hp4).trans hp5).trans hp6
have hk6:=hk.mono (hp2.trans hp26)
have hlo:=E4 hk6 hw hpn (ha.mono hp6) (hb.mono hp6) (hc.mono hp6) (hdd.mono hp6)
have hpp:h <+: h6:=hp1.trans (hp2.trans hp26)
generalize hLL:lR a1 a2 b1 b2 e1 e2 d1 d2=L at hL hlo
have hLn:L.length=14:=by rw[← hLL];rfl
refine aC ?_
obtain⟨n,hn⟩:∃ n:Nat,n=14:=⟨14,rfl⟩
refine cO n (fun k=>[(4,.val (.pointer (some ⟨ib,0,some 0⟩))),(17,.val (.slice (some ⟨iL,0,some 0⟩) n n)),(18,.val (i64 n)),(19,.val (i64 k))]) (fun _=>h6) (fun k=>∀ j,j<k→Bd d j) (by rw[hn];exact (by simp only[push_cast,Nat.reduceEqDiff,reduceIte,Int.reduceAdd])) rfl (fun j hj=>absurd hj om) ?_
intro k hkn hall
by_cases hlt:k<n
·have hLk:L[k]? = some L[k]:=List.getElem?_eq_getElem om
 obtain⟨g,fn,cap,hv,hf,hnm,hbd,hF⟩:=hlo k _ hLk hall
 rw[hv] at hLk
 have v1:=cg hlt
 have v2:=inc hlt om
 have v3:=aS hlt
 refine aG v3 ?_
 refine ae rfl ?_
 refine fi v1 hL hLk Nat.mul_one ?_
 refine zc (f:=g) (cap:=cap) (args:=[.pointer (some ⟨ib,0,some 0⟩)]) (fn:=fn) ak hf hnm hbd ?_
 refine hF.mono ?_
 rintro _ h7 ⟨⟨e,w,rfl,he⟩,e7⟩
 obtain rfl:=e7.symm
 by_cases q:e=0
 ·have dq:=decide_eq_true q
  refine aG dq ?_
  refine af rfl ?_
  refine aG v2 ?_
  refine⟨hlt,aK,rfl,fun j hj=>?_⟩
  rcases (by omega:j<k∨j=k) with h4|rfl
  ·exact hall j h4
  ·exact he.1 q
 ·have dq:=decide_eq_false q
  refine aG dq ?_
  refine ae rfl ?_
  refine aC ?_
  refine ai ?_
  exact⟨_,ak,⟨e,w,rfl,⟨fun h=>absurd h q,fun h=>absurd (he.2 (h k om)) q⟩⟩,hpp⟩
·have v3:=aP hlt
 obtain rfl:k=n:=by omega
 refine aG v3 ?_
 refine af rfl ?_
 refine az ?_
 show CW _ _ _ _
 refine aC ?_
 refine ai ?_
 exact⟨_,ak,⟨0,_,rfl,fun _ k hk=>hall k om,fun _=>rfl⟩,hpp⟩}
end
structure bt where
 lex:Bool
 name:ByteArray
 set:aX
 sep:ByteArray
 deriving DecidableEq
abbrev bt.val (k:bt):Value:=.agg #[.bool k.lex,.string k.name,u64 k.set.a,u64 k.set.b,u64 k.set.c,u64 k.set.d,.string k.sep]
def bt.cells (k:bt):List Value:=[.bool k.lex,.string k.name,u64 k.set.a,u64 k.set.b,u64 k.set.c,u64 k.set.d,.string k.sep]
def fV (s:Sym):Bool:=decide (s.kind=5)||decide (s.kind=6)
def ik (lex:Bool) (s:Sym):bt:=⟨lex,s.name,s.set,s.sep⟩
def addKey (l:List bt) (k:bt):List bt:=if k∈l then l else l++[k]
def fq (lex:Bool) (l:List bt) (s:Sym):List bt:=if fV s=true then addKey l (ik lex s) else l
def g8 (lex:Bool) (l:List bt) (ys:List Sym):List bt:=ys.foldl (fq lex) l
def bh (ps:List Prod):List bt:=ps.foldl (fun l p=>g8 p.lex l p.aj) []
theorem AU {lex:Bool} {l:List bt} {ys:List Sym} {k:Nat} (hk:k<ys.length):g8 lex l (ys.take (k+1))=fq lex (g8 lex l (ys.take k)) ys[k]:=by{
unfold g8
rw[List.take_succ_eq_append_getElem hk,List.foldl_append]
rfl}
theorem AP {ps:List Prod} {k:Nat} (hk:k<ps.length):bh (ps.take (k+1))=g8 ps[k].lex (bh (ps.take k)) ps[k].aj:=by{
unfold bh
rw[List.take_succ_eq_append_getElem hk,List.foldl_append]
rfl}
theorem yW {lex:Bool} {l:List bt} {s:Sym} {k:bt}:k∈fq lex l s↔k∈l∨(fV s=true∧k=ik lex s):=by{
unfold fq addKey
by_cases h:fV s=true
·rw[if_pos h]
 by_cases q:ik lex s∈l
 ·rw[if_pos q]
  exact⟨.inl,fun h=>h.elim id fun h=>h.2▸q⟩
 ·rw[if_neg q,List.mem_append,List.mem_singleton]
  exact⟨fun h'=>h'.imp id fun e=>⟨h,e⟩,fun h'=>h'.imp id fun e=>e.2⟩
·rw[if_neg h]
 exact⟨.inl,fun h'=>h'.elim id fun e=>absurd e.1 h⟩}
theorem uB {lex:Bool} {k:bt}:∀ {ys:List Sym} {l:List bt},k∈g8 lex l ys↔k∈l∨∃ s∈ys,fV s=true∧k=ik lex s
 | [],l=>by simp [g8]
 | s :: ys,l=>by
   have ih:=uB (lex:=lex) (k:=k) (ys:=ys) (l:=fq lex l s)
   unfold g8 at ih ⊢
   rw[List.foldl_cons,ih,yW]
   simp only[List.mem_cons,exists_eq_or_imp]
   exact or_assoc
theorem vd {k:bt}:∀ {ps:List Prod} {l:List bt},k∈ps.foldl (fun l p=>g8 p.lex l p.aj) l↔k∈l∨∃ p∈ps,∃ s∈p.aj,fV s=true∧k=ik p.lex s
 | [],l=>by simp
 | p :: ps,l=>by
   rw[List.foldl_cons,vd (ps:=ps),uB]
   simp only[List.mem_cons,exists_eq_or_imp]
   exact or_assoc
theorem mem_keys {k:bt} {ps:List Prod}:k∈bh ps↔∃ p∈ps,∃ s∈p.aj,fV s=true∧k=ik p.lex s:=by{
unfold bh
rw[vd]
simp}
theorem qw:∀ {ps:List Prod} {l:List ByteArray},l.Nodup→(ps.foldl fX l).Nodup
 | [],l,h=>h
 | p :: ps,l,h=>by
   rw[List.foldl_cons]
   refine qw ?_
   unfold fX
   split
   ·exact h
   ·rename_i q
    rw[List.nodup_append]
    exact⟨h,by simp,fun a ha b hb e=>q (cQ.2 (by rw[← List.mem_singleton.1 hb,← e];exact ha))⟩
theorem uh {ps:List Prod}:(aE ps).Nodup:=qw List.nodup_nil
theorem o7 {lex:Bool}:∀ {ys:List Sym} {l:List bt},(g8 lex l ys).length≤l.length+ys.length
 | [],l=>by simp [g8]
 | s :: ys,l=>by
   have ih:=o7 (lex:=lex) (ys:=ys) (l:=fq lex l s)
   have h:(fq lex l s).length≤l.length+1:=by
    unfold fq addKey
    split
    ·split<;>simp
    ·simp
   unfold g8 at ih ⊢
   rw[List.foldl_cons,List.length_cons]
   omega
theorem lZ:∀ {ps:List Prod} {l:List bt},(ps.foldl (fun l p=>g8 p.lex l p.aj) l).length≤l.length+cJ (fun p=>p.aj.length) ps
 | [],l=>by simp
 | p :: ps,l=>by
   have ih:=lZ (ps:=ps) (l:=g8 p.lex l p.aj)
   have h:=o7 (lex:=p.lex) (ys:=p.aj) (l:=l)
   unfold cJ at *
   simp only[List.foldl_cons,List.map_cons,List.sum_cons]
   omega
def nS (d:bM):Nat:=(aE d.aa).length
def nK (d:bM):Nat:=(bh d.aa).length
def eE (d:bM) (s:ByteArray):Nat:=(aE d.aa).idxOf s
def i4 (d:bM) (k:bt):Nat:=nS d+(bh d.aa).idxOf k
def bl (d:bM):Int:=if b7 d.layout=true then -1 else ((nS d+nK d:Nat):Int)
def cA (d:bM):Nat:=nS d+nK d+(if b7 d.layout=true then 0 else 1)
def aU (d:bM):Nat:=cA d+1
def lT (b:Nat):aX:=⟨if b / 64=0 then 2 ^ (b % 64) else 0,if b / 64=1 then 2 ^ (b % 64) else 0,if b / 64=2 then 2 ^ (b % 64) else 0,if b / 64=3 then 2 ^ (b % 64) else 0⟩
def tX:aX:=⟨0,0,0,0⟩
def dy (n:Int):aT:=⟨n,tX⟩
def iX (t:ByteArray):List aT:=(List.range t.size).map fun i=>⟨-1,lT (bn t i)⟩
def iR (d:bM) (name:ByteArray) (set:aX):aT:=if b7 name=true then ⟨-1,set⟩ else dy (eE d name)
def fl (d:bM) (lex:Bool) (s:Sym):List aT:=if s.kind=1 then iX s.text else if fV s=true then [dy (i4 d (ik lex s))] else [iR d s.name s.set]
structure vY where
 mask:Nat
 rhs:List aT
 os:List Int
def jn (d:bM) (lex:Bool) (rhs:List aT):Bool:=!rhs.isEmpty&&(!lex && !b7 d.layout)
def fD (d:bM) (lex:Bool) (r:vY) (i:Nat) (s:Sym):vY:=
 ⟨r.mask,r.rhs++(if jn d lex r.rhs=true then [dy (bl d)] else [])++fl d lex s,r.os++(if jn d lex r.rhs=true then [-1] else [])++List.replicate (fl d lex s).length (i:Int)⟩
def jv (d:bM) (lex:Bool) (r:vY) (i:Nat) (s:Sym):vY:=
 if dG s=true then (if r.mask % 2=0 then ⟨r.mask / 2,r.rhs,r.os⟩ else fD d lex ⟨r.mask / 2,r.rhs,r.os⟩ i s) else fD d lex r i s
def bP (d:bM) (p:Prod) (mask:Nat):Nat→vY
 | 0=>⟨mask,[],[]⟩
 | k+1=>match p.aj[k]? with
   | some s=>jv d p.lex (bP d p mask k) k s
   | none=>bP d p mask k
def cZ (d:bM) (p:Prod) (mask:Nat):vY:=bP d p mask p.aj.length
def k8 (p:Prod):Nat:=2 ^ g7 p.aj
def nj (d:bM) (i:Nat) (p:Prod) (mask:Nat):ch×gO:=(⟨eE d p.sort,(cZ d p mask).rhs⟩,⟨0,i,mask,(cZ d p mask).os⟩)
def jX (d:bM) (i:Nat) (p:Prod):List (ch×gO):=(List.range (k8 p)).map fun m=>nj d i p m
def ii (d:bM):Nat→List (ch×gO)
 | 0=>[]
 | k+1=>match d.aa[k]? with
   | some p=>ii d k++jX d k p
   | none=>ii d k
def dP (d:bM) (k:bt):List aT:=if (!k.lex && !b7 d.layout)=true then [dy (bl d)] else []
def jW (d:bM) (k:bt):List aT:=[dy (i4 d k)]++dP d k++(if b7 k.sep=true then [] else iX k.sep++dP d k)++[iR d k.name k.set]
def An (d:bM) (k:bt):List (ch×gO):=[(⟨i4 d k,[iR d k.name k.set]⟩,⟨1,0,0,[]⟩),(⟨i4 d k,jW d k⟩,⟨2,0,0,[]⟩)]
def iS (d:bM) (l:List bt):List (ch×gO):=l.flatMap (An d)
def oD (d:bM):List (ch×gO):=if b7 d.layout=true then [(⟨cA d,[dy (eE d d.start)]⟩,⟨5,0,0,[]⟩)]
 else [(⟨bl d,[]⟩,⟨3,0,0,[]⟩),(⟨bl d,[dy (bl d),dy (eE d d.layout)]⟩,⟨4,0,0,[]⟩),(⟨cA d,[dy (bl d),dy (eE d d.start),dy (bl d)]⟩,⟨5,0,0,[]⟩)]
def uZ (d:bM):List (ch×gO):=ii d d.aa.length++iS d (bh d.aa)++oD d
section
variable {h:ah}
theorem CH {v:Value} {n:Nat} {cells:List Value} (hs:bT h v n cells 51 72) (hl:cells.length=n*5):FW env 82 [v] h fun r h'=>h <+: h'∧aL h h' r n cells 51:=by{
have hb:n*72≤140737488355328:=hs.1
have key:(v=bX∧n=0∧cells=[])∨∃ a c,v = .slice (some a) n c:=by
 rcases hs.2 with ⟨rfl|rfl,rfl,rfl⟩ | ⟨id,ar,own,c,rfl,hid⟩
 ·exact .inl ⟨rfl,rfl,rfl⟩
 ·exact .inr ⟨_,_,rfl⟩
 ·exact .inr ⟨_,_,rfl⟩
refine fe Tryz.func82 ?_;simp only[push_cast]
rcases key with ⟨rfl,rfl,rfl⟩ | ⟨a,c,rfl⟩
·refine aC ?_
 refine ae rfl ?_
 refine aC ?_
 refine ai ?_
 exact⟨_,ak,List.prefix_refl _,aL.nil⟩
·repeat (first|apply zs|apply zr|apply zn|((first|apply zx|apply zy);·simp only[push_cast,env,Nat.reduceEqDiff,reduceIte,Nat.reduceAdd,Nat.reduceMul,Nat.reduceLeDiff,reduceCtorEq,Nat.reduceSub,Int.reduceToNat,Option.isNone_some]<;>first|exact rfl|exact .inl rfl|exact .inr rfl) | apply zq|apply zb|apply zo|apply zk|apply zl)
 refine af rfl ?_
 refine zu ?_
 refine df (t:=51) (cs:=[]) (n:=0) ak kr ?_
 dsimp only[St.a9,St.put]
 have hp1:h <+: h++[av.aA [] 0 true 51]:=aH
 have hG:aL h (h++[av.aA [] 0 true 51]) (.slice (some ⟨h.length,0,some 0⟩) 0 0) 0 [] 51:=.inr ⟨h.length,0,Nat.le_refl _,rfl,aJ⟩
 generalize (h++[av.aA [] 0 true 51])=h1 at hp1 hG ⊢
 generalize h.length=i1 at hG ⊢
 refine aC ?_
 refine iW (t:=22) (cs:=cells) (m:=n) kr SO (by decide) rfl hG hp1 rfl (hs.mono hp1) hl (by simp only;omega) om ak rfl ak ak ?_
 intro p' c' h' k1 k2 _
 rw[Nat.zero_add] at k2 ⊢
 rw[List.nil_append] at k2
 refine aC ?_
 refine ai ?_
 refine⟨_,ak,k1,?_⟩
 exact k2}
theorem Dp {v:Value} {n:Nat} {cells:List Value} (hs:bT h v n cells 56 88) (hl:cells.length=n*8):FW env 83 [v] h fun r h'=>h <+: h'∧aL h h' r n cells 56:=by{
have hb:n*88≤140737488355328:=hs.1
have key:(v=bX∧n=0∧cells=[])∨∃ a c,v = .slice (some a) n c:=by
 rcases hs.2 with ⟨rfl|rfl,rfl,rfl⟩ | ⟨id,ar,own,c,rfl,hid⟩
 ·exact .inl ⟨rfl,rfl,rfl⟩
 ·exact .inr ⟨_,_,rfl⟩
 ·exact .inr ⟨_,_,rfl⟩
refine fe Tryz.func83 ?_;simp only[push_cast]
rcases key with ⟨rfl,rfl,rfl⟩ | ⟨a,c,rfl⟩
·refine aC ?_
 refine ae rfl ?_
 refine aC ?_
 refine ai ?_
 exact⟨_,ak,List.prefix_refl _,aL.nil⟩
·repeat (first|apply zs|apply zr|apply zn|((first|apply zx|apply zy);·simp only[push_cast,env,Nat.reduceEqDiff,reduceIte,Nat.reduceAdd,Nat.reduceMul,Nat.reduceLeDiff,reduceCtorEq,Nat.reduceSub,Int.reduceToNat,Option.isNone_some]<;>first|exact rfl|exact .inl rfl|exact .inr rfl) | apply zq|apply zb|apply zo|apply zk|apply zl)
 refine af rfl ?_
 refine zu ?_
 refine df (t:=56) (cs:=[]) (n:=0) ak kr ?_
 dsimp only[St.a9,St.put]
 have hp1:h <+: h++[av.aA [] 0 true 56]:=aH
 have hG:aL h (h++[av.aA [] 0 true 56]) (.slice (some ⟨h.length,0,some 0⟩) 0 0) 0 [] 56:=.inr ⟨h.length,0,Nat.le_refl _,rfl,aJ⟩
 generalize (h++[av.aA [] 0 true 56])=h1 at hp1 hG ⊢
 generalize h.length=i1 at hG ⊢
 refine aC ?_
 refine iW (t:=49) (cs:=cells) (m:=n) kr Jd (by decide) rfl hG hp1 rfl (hs.mono hp1) hl (by simp only;omega) om ak rfl ak ak ?_
 intro p' c' h' k1 k2 _
 rw[Nat.zero_add] at k2 ⊢
 rw[List.nil_append] at k2
 refine aC ?_
 refine ai ?_
 refine⟨_,ak,k1,?_⟩
 exact k2}
theorem Dz {v:Value} {n:Nat} {cells:List Value} (hs:bT h v n cells 82 32) (hl:cells.length=n*2):FW env 84 [v] h fun r h'=>h <+: h'∧aL h h' r n cells 82:=by{
have hb:n*32≤140737488355328:=hs.1
have key:(v=bX∧n=0∧cells=[])∨∃ a c,v = .slice (some a) n c:=by
 rcases hs.2 with ⟨rfl|rfl,rfl,rfl⟩ | ⟨id,ar,own,c,rfl,hid⟩
 ·exact .inl ⟨rfl,rfl,rfl⟩
 ·exact .inr ⟨_,_,rfl⟩
 ·exact .inr ⟨_,_,rfl⟩
refine fe Tryz.func84 ?_;simp only[push_cast]
rcases key with ⟨rfl,rfl,rfl⟩ | ⟨a,c,rfl⟩
·refine aC ?_
 refine ae rfl ?_
 refine aC ?_
 refine ai ?_
 exact⟨_,ak,List.prefix_refl _,aL.nil⟩
·repeat (first|apply zs|apply zr|apply zn|((first|apply zx|apply zy);·simp only[push_cast,env,Nat.reduceEqDiff,reduceIte,Nat.reduceAdd,Nat.reduceMul,Nat.reduceLeDiff,reduceCtorEq,Nat.reduceSub,Int.reduceToNat,Option.isNone_some]<;>first|exact rfl|exact .inl rfl|exact .inr rfl) | apply zq|apply zb|apply zo|apply zk|apply zl)
 refine af rfl ?_
 refine zu ?_
 refine df (t:=82) (cs:=[]) (n:=0) ak kr ?_
 dsimp only[St.a9,St.put]
 have hp1:h <+: h++[av.aA [] 0 true 82]:=aH
 have hG:aL h (h++[av.aA [] 0 true 82]) (.slice (some ⟨h.length,0,some 0⟩) 0 0) 0 [] 82:=.inr ⟨h.length,0,Nat.le_refl _,rfl,aJ⟩
 generalize (h++[av.aA [] 0 true 82])=h1 at hp1 hG ⊢
 generalize h.length=i1 at hG ⊢
 refine aC ?_
 refine iW (t:=80) (cs:=cells) (m:=n) kr RD (by decide) rfl hG hp1 rfl (hs.mono hp1) hl (by simp only;omega) om ak rfl ak ak ?_
 intro p' c' h' k1 k2 _
 rw[Nat.zero_add] at k2 ⊢
 rw[List.nil_append] at k2
 refine aC ?_
 refine ai ?_
 refine⟨_,ak,k1,?_⟩
 exact k2}
theorem C8 {v:Value} {n:Nat} {cells:List Value} (hs:bT h v n cells 9 16) (hl:cells.length=n*1):FW env 85 [v] h fun r h'=>h <+: h'∧aL h h' r n cells 9:=by{
have hb:n*16≤140737488355328:=hs.1
have key:(v=bX∧n=0∧cells=[])∨∃ a c,v = .slice (some a) n c:=by
 rcases hs.2 with ⟨rfl|rfl,rfl,rfl⟩ | ⟨id,ar,own,c,rfl,hid⟩
 ·exact .inl ⟨rfl,rfl,rfl⟩
 ·exact .inr ⟨_,_,rfl⟩
 ·exact .inr ⟨_,_,rfl⟩
refine fe Tryz.func85 ?_;simp only[push_cast]
rcases key with ⟨rfl,rfl,rfl⟩ | ⟨a,c,rfl⟩
·refine aC ?_
 refine ae rfl ?_
 refine aC ?_
 refine ai ?_
 exact⟨_,ak,List.prefix_refl _,aL.nil⟩
·repeat (first|apply zs|apply zr|apply zn|((first|apply zx|apply zy);·simp only[push_cast,env,Nat.reduceEqDiff,reduceIte,Nat.reduceAdd,Nat.reduceMul,Nat.reduceLeDiff,reduceCtorEq,Nat.reduceSub,Int.reduceToNat,Option.isNone_some]<;>first|exact rfl|exact .inl rfl|exact .inr rfl) | apply zq|apply zb|apply zo|apply zk|apply zl)
 refine af rfl ?_
 refine zu ?_
 refine df (t:=9) (cs:=[]) (n:=0) ak kr ?_
 dsimp only[St.a9,St.put]
 have hp1:h <+: h++[av.aA [] 0 true 9]:=aH
 have hG:aL h (h++[av.aA [] 0 true 9]) (.slice (some ⟨h.length,0,some 0⟩) 0 0) 0 [] 9:=.inr ⟨h.length,0,Nat.le_refl _,rfl,aJ⟩
 generalize (h++[av.aA [] 0 true 9])=h1 at hp1 hG ⊢
 generalize h.length=i1 at hG ⊢
 refine aC ?_
 refine iW (t:=36) (cs:=cells) (m:=n) kr HB (by decide) rfl hG hp1 rfl (hs.mono hp1) hl (by simp only;omega) om ak rfl ak ak ?_
 intro p' c' h' k1 k2 _
 rw[Nat.zero_add] at k2 ⊢
 rw[List.nil_append] at k2
 refine aC ?_
 refine ai ?_
 refine⟨_,ak,k1,?_⟩
 exact k2}
theorem Eg {v:Value} {n:Nat} {cells:List Value} (hs:bT h v n cells 112 48) (hl:cells.length=n*5):FW env 86 [v] h fun r h'=>h <+: h'∧aL h h' r n cells 112:=by{
have hb:n*48≤140737488355328:=hs.1
have key:(v=bX∧n=0∧cells=[])∨∃ a c,v = .slice (some a) n c:=by
 rcases hs.2 with ⟨rfl|rfl,rfl,rfl⟩ | ⟨id,ar,own,c,rfl,hid⟩
 ·exact .inl ⟨rfl,rfl,rfl⟩
 ·exact .inr ⟨_,_,rfl⟩
 ·exact .inr ⟨_,_,rfl⟩
refine fe Tryz.func86 ?_;simp only[push_cast]
rcases key with ⟨rfl,rfl,rfl⟩ | ⟨a,c,rfl⟩
·refine aC ?_
 refine ae rfl ?_
 refine aC ?_
 refine ai ?_
 exact⟨_,ak,List.prefix_refl _,aL.nil⟩
·repeat (first|apply zs|apply zr|apply zn|((first|apply zx|apply zy);·simp only[push_cast,env,Nat.reduceEqDiff,reduceIte,Nat.reduceAdd,Nat.reduceMul,Nat.reduceLeDiff,reduceCtorEq,Nat.reduceSub,Int.reduceToNat,Option.isNone_some]<;>first|exact rfl|exact .inl rfl|exact .inr rfl) | apply zq|apply zb|apply zo|apply zk|apply zl)
 refine af rfl ?_
 refine zu ?_
 refine df (t:=112) (cs:=[]) (n:=0) ak kr ?_
 dsimp only[St.a9,St.put]
 have hp1:h <+: h++[av.aA [] 0 true 112]:=aH
 have hG:aL h (h++[av.aA [] 0 true 112]) (.slice (some ⟨h.length,0,some 0⟩) 0 0) 0 [] 112:=.inr ⟨h.length,0,Nat.le_refl _,rfl,aJ⟩
 generalize (h++[av.aA [] 0 true 112])=h1 at hp1 hG ⊢
 generalize h.length=i1 at hG ⊢
 refine aC ?_
 refine iW (t:=24) (cs:=cells) (m:=n) kr Kx (by decide) rfl hG hp1 rfl (hs.mono hp1) hl (by simp only;omega) om ak rfl ak ak ?_
 intro p' c' h' k1 k2 _
 rw[Nat.zero_add] at k2 ⊢
 rw[List.nil_append] at k2
 refine aC ?_
 refine ai ?_
 refine⟨_,ak,k1,?_⟩
 exact k2}
theorem DO {v:Value} {n:Nat} {cells:List Value} (hs:bT h v n cells 114 32) (hl:cells.length=n*2):FW env 87 [v] h fun r h'=>h <+: h'∧aL h h' r n cells 114:=by{
have hb:n*32≤140737488355328:=hs.1
have key:(v=bX∧n=0∧cells=[])∨∃ a c,v = .slice (some a) n c:=by
 rcases hs.2 with ⟨rfl|rfl,rfl,rfl⟩ | ⟨id,ar,own,c,rfl,hid⟩
 ·exact .inl ⟨rfl,rfl,rfl⟩
 ·exact .inr ⟨_,_,rfl⟩
 ·exact .inr ⟨_,_,rfl⟩
refine fe Tryz.func87 ?_;simp only[push_cast]
rcases key with ⟨rfl,rfl,rfl⟩ | ⟨a,c,rfl⟩
·refine aC ?_
 refine ae rfl ?_
 refine aC ?_
 refine ai ?_
 exact⟨_,ak,List.prefix_refl _,aL.nil⟩
·repeat (first|apply zs|apply zr|apply zn|((first|apply zx|apply zy);·simp only[push_cast,env,Nat.reduceEqDiff,reduceIte,Nat.reduceAdd,Nat.reduceMul,Nat.reduceLeDiff,reduceCtorEq,Nat.reduceSub,Int.reduceToNat,Option.isNone_some]<;>first|exact rfl|exact .inl rfl|exact .inr rfl) | apply zq|apply zb|apply zo|apply zk|apply zl)
 refine af rfl ?_
 refine zu ?_
 refine df (t:=114) (cs:=[]) (n:=0) ak kr ?_
 dsimp only[St.a9,St.put]
 have hp1:h <+: h++[av.aA [] 0 true 114]:=aH
 have hG:aL h (h++[av.aA [] 0 true 114]) (.slice (some ⟨h.length,0,some 0⟩) 0 0) 0 [] 114:=.inr ⟨h.length,0,Nat.le_refl _,rfl,aJ⟩
 generalize (h++[av.aA [] 0 true 114])=h1 at hp1 hG ⊢
 generalize h.length=i1 at hG ⊢
 refine aC ?_
 refine iW (t:=25) (cs:=cells) (m:=n) kr Kz (by decide) rfl hG hp1 rfl (hs.mono hp1) hl (by simp only;omega) om ak rfl ak ak ?_
 intro p' c' h' k1 k2 _
 rw[Nat.zero_add] at k2 ⊢
 rw[List.nil_append] at k2
 refine aC ?_
 refine ai ?_
 refine⟨_,ak,k1,?_⟩
 exact k2}
theorem Cz {v:Value} {n:Nat} {cells:List Value} (hs:bT h v n cells 85 40) (hl:cells.length=n*2):FW env 88 [v] h fun r h'=>h <+: h'∧aL h h' r n cells 85:=by{
have hb:n*40≤140737488355328:=hs.1
have key:(v=bX∧n=0∧cells=[])∨∃ a c,v = .slice (some a) n c:=by
 rcases hs.2 with ⟨rfl|rfl,rfl,rfl⟩ | ⟨id,ar,own,c,rfl,hid⟩
 ·exact .inl ⟨rfl,rfl,rfl⟩
 ·exact .inr ⟨_,_,rfl⟩
 ·exact .inr ⟨_,_,rfl⟩
refine fe Tryz.func88 ?_;simp only[push_cast]
rcases key with ⟨rfl,rfl,rfl⟩ | ⟨a,c,rfl⟩
·refine aC ?_
 refine ae rfl ?_
 refine aC ?_
 refine ai ?_
 exact⟨_,ak,List.prefix_refl _,aL.nil⟩
·repeat (first|apply zs|apply zr|apply zn|((first|apply zx|apply zy);·simp only[push_cast,env,Nat.reduceEqDiff,reduceIte,Nat.reduceAdd,Nat.reduceMul,Nat.reduceLeDiff,reduceCtorEq,Nat.reduceSub,Int.reduceToNat,Option.isNone_some]<;>first|exact rfl|exact .inl rfl|exact .inr rfl) | apply zq|apply zb|apply zo|apply zk|apply zl)
 refine af rfl ?_
 refine zu ?_
 refine df (t:=85) (cs:=[]) (n:=0) ak kr ?_
 dsimp only[St.a9,St.put]
 have hp1:h <+: h++[av.aA [] 0 true 85]:=aH
 have hG:aL h (h++[av.aA [] 0 true 85]) (.slice (some ⟨h.length,0,some 0⟩) 0 0) 0 [] 85:=.inr ⟨h.length,0,Nat.le_refl _,rfl,aJ⟩
 generalize (h++[av.aA [] 0 true 85])=h1 at hp1 hG ⊢
 generalize h.length=i1 at hG ⊢
 refine aC ?_
 refine iW (t:=26) (cs:=cells) (m:=n) kr PS (by decide) rfl hG hp1 rfl (hs.mono hp1) hl (by simp only;omega) om ak rfl ak ak ?_
 intro p' c' h' k1 k2 _
 rw[Nat.zero_add] at k2 ⊢
 rw[List.nil_append] at k2
 refine aC ?_
 refine ai ?_
 refine⟨_,ak,k1,?_⟩
 exact k2}
theorem Dd {v:Value} {n:Nat} {cells:List Value} (hs:bT h v n cells 136 56) (hl:cells.length=n*4):FW env 138 [v] h fun r h'=>h <+: h'∧aL h h' r n cells 136:=by{
have hb:n*56≤140737488355328:=hs.1
have key:(v=bX∧n=0∧cells=[])∨∃ a c,v = .slice (some a) n c:=by
 rcases hs.2 with ⟨rfl|rfl,rfl,rfl⟩ | ⟨id,ar,own,c,rfl,hid⟩
 ·exact .inl ⟨rfl,rfl,rfl⟩
 ·exact .inr ⟨_,_,rfl⟩
 ·exact .inr ⟨_,_,rfl⟩
refine fe Tryz.func138 ?_;simp only[push_cast]
rcases key with ⟨rfl,rfl,rfl⟩ | ⟨a,c,rfl⟩
·refine aC ?_
 refine ae rfl ?_
 refine aC ?_
 refine ai ?_
 exact⟨_,ak,List.prefix_refl _,aL.nil⟩
·repeat (first|apply zs|apply zr|apply zn|((first|apply zx|apply zy);·simp only[push_cast,env,Nat.reduceEqDiff,reduceIte,Nat.reduceAdd,Nat.reduceMul,Nat.reduceLeDiff,reduceCtorEq,Nat.reduceSub,Int.reduceToNat,Option.isNone_some]<;>first|exact rfl|exact .inl rfl|exact .inr rfl) | apply zq|apply zb|apply zo|apply zk|apply zl)
 refine af rfl ?_
 refine zu ?_
 refine df (t:=136) (cs:=[]) (n:=0) ak kr ?_
 dsimp only[St.a9,St.put]
 have hp1:h <+: h++[av.aA [] 0 true 136]:=aH
 have hG:aL h (h++[av.aA [] 0 true 136]) (.slice (some ⟨h.length,0,some 0⟩) 0 0) 0 [] 136:=.inr ⟨h.length,0,Nat.le_refl _,rfl,aJ⟩
 generalize (h++[av.aA [] 0 true 136])=h1 at hp1 hG ⊢
 generalize h.length=i1 at hG ⊢
 refine aC ?_
 refine iW (t:=83) (cs:=cells) (m:=n) kr KT (by decide) rfl hG hp1 rfl (hs.mono hp1) hl (by simp only;omega) om ak rfl ak ak ?_
 intro p' c' h' k1 k2 _
 rw[Nat.zero_add] at k2 ⊢
 rw[List.nil_append] at k2
 refine aC ?_
 refine ai ?_
 refine⟨_,ak,k1,?_⟩
 exact k2}
end
def km (n:Nat) (h h':ah):Prop:=∀ j o,n≤j→h[j]? = some o→h'[j]? = some o
section
variable {n m:Nat} {a b c h h' hk:ah}
theorem km.refl:km n h h:=fun _ _ _ k=>k
theorem km.trans (k1:km n a b) (k2:km n b c):km n a c:=fun j o hj e=>k2 j o hj (k1 j o hj e)
theorem km.low (k:km n a b) (hn:n≤m):km m a b:=fun j o hj e=>k j o om e
theorem km.pre (k:a <+: b):km n a b:=fun j o _ e=>ag k e
theorem km.set {i:Nat} {x:av} (hi:i<n):km n h (h.set i x):=fun j o hj e=>by rw[aD om];exact e
def Fr (R:ah→Prop) (n:Nat) (h:ah):Prop:=∀ h',km n h h'→R h'
variable {R:ah→Prop}
theorem Fr.mono (k:Fr R n a) (h:km n a b):Fr R n b:=fun x e=>k x (h.trans e)
theorem Fr.low (k:Fr R m a) (h:n≤m):Fr R n a:=fun x e=>k x (e.low h)
theorem Fr.now (k:Fr R n a):R a:=k a km.refl
theorem aL.fr {v:Value} {cells:List Value} {et:TypeId} {b:Nat} (G:aL h hk v n cells et) (hb:n*b≤140737488355328):Fr (fun x=>bT x v n cells et b) h.length hk:=fun x e=>
 (G.mono (h':=x) fun j o hj ho=>e j o (G.lt hj).1 ho).sl hb
theorem Ha {α:Type} {f:α→List Value} {k:Nat} (hf:∀ x,(f x).length=k) {l:List α} {i o:Nat} {x:α} {v:Value} (hi:i<l.length) (ho:o<k) (hx:f x=(f l[i]).set o v):(l.flatMap f).set (i*k+o) v=(l.set i x).flatMap f:=by{
have e:l.flatMap f=(l.take i).flatMap f++(f l[i]++(l.drop (i+1)).flatMap f):=by
 conv=>lhs;rw[← List.take_append_drop i l,List.flatMap_append,List.drop_eq_getElem_cons hi,List.flatMap_cons]
have hti:((l.take i).flatMap f).length=i*k:=by rw[dN hf,List.length_take,Nat.min_eq_left om]
have e2:(l.set i x).flatMap f=(l.take i).flatMap f++(f x++(l.drop (i+1)).flatMap f):=by rw[List.set_eq_take_append_cons_drop,if_pos hi,List.flatMap_append,List.flatMap_cons]
rw[e2,e,List.set_append_right _ _ om,hti,show i*k+o-i*k=o by omega,List.set_append_left _ _ (by rw[hf];exact ho),hx]}
theorem BZ {α β:Type}:∀ {l:List α} {W:List β} {i:Nat} (hi:i<l.length) (r:β),(l.zip W).set i (l[i],r)=l.zip (W.set i r)
 | x :: l,[],i,_,r=>by simp
 | x :: l,w :: W,0,_,r=>by simp
 | x :: l,w :: W,i+1,hi,r=>by
   simp only[List.zip_cons_cons,List.set_cons_succ,List.getElem_cons_succ]
   rw[BZ (Nat.lt_of_succ_lt_succ hi)]
theorem Ov {cells:List Value} {off:Nat} {v:Value} (h:off<cells.length):ll cells off [v]=some (cells.set off v):=by{
unfold ll
rw[if_pos (by rw[List.length_singleton];omega)]
congr 1
rw[List.set_eq_take_append_cons_drop,if_pos h]
simp}
theorem oA {α:Type} {f:α→Value→List Value} {k o:Nat} (hf:∀ x u,(f x u).length=k) (ho:o<k) (hx:∀ x u v,f x v=(f x u).set o v) {l:List α} {W:List Value} (hW:W.length=l.length) {i:Nat} (hi:i<l.length) {v:Value} : ll ((l.zip W).flatMap fun p=>f p.1 p.2) (i*k+o) [v]=some ((l.zip (W.set i v)).flatMap fun p=>f p.1 p.2):=by{
have hz:i<(l.zip W).length:=by simp [hW,hi]
have hl:=dN (f:=fun p:α×Value=>f p.1 p.2) (k:=k) (fun _=>hf _ _) (l.zip W)
have h1:(i+1)*k≤(l.zip W).length*k:=Nat.mul_le_mul_right k hz
rw[Nat.succ_mul] at h1
rw[Ov om,Ha (f:=fun p:α×Value=>f p.1 p.2) (fun _=>hf _ _) (x:=(l[i],v)) hz ho (by simp only[List.getElem_zip];exact hx _ _ _),BZ hi]}
theorem ri {α:Type} {f:α→Value→List Value} {k:Nat} (hf:∀ x u,(f x u).length=k) {l:List α} {W:List Value} {i:Nat} {u:Value} (hi:i<l.length) (hu:W[i]? = some u):jU ((l.zip W).flatMap fun p=>f p.1 p.2) (i*k) k=some (f l[i] u):=by{
refine bS (f:=fun p:α×Value=>f p.1 p.2) (fun _=>hf _ _) (l.zip W) i (l[i],u) ?_
obtain⟨hw,rfl⟩:=List.getElem?_eq_some_iff.1 hu
simp [List.getElem?_zip_eq_some,hi,hw]}
end
abbrev NJ:Item→Value→List Value:=fun p u=>[i64 p.kind,.string p.text,i64 p.n,u]
structure VY (h hk:ah) (id ar:Nat) (l:List Item) (us W:List Value) (k:Nat):Prop where
 p:h <+: hk
 n:W.length=l.length
 o:hk[id]? = some (.aA ((l.zip W).flatMap fun p=>NJ p.1 p.2) ar true 136)
 d:∀ (i:Nat) (hi:i<l.length),i<k→∃ u,W[i]? = some u∧Fr (fun x=>bJ x u l[i].bG) (id+1) hk
 r:∀ i,k≤i→W[i]? = us[i]?
theorem FP {h0:ah} {v:Value} {l:List Item} (hr:bJ h0 v l):∀ {h:ah},h0 <+: h→FW env 89 [v] h fun r h'=>h <+: h'∧(∃ p c,r = .slice p l.length c)∧Fr (fun x=>bJ x r l) h.length h':=by{
induction hr with
| @mk v l us hl hs hu ih=>
  intro h hp0
  have hle:=hs.1
  have hn:l.length≤140737488355328:=by omega
  have hcl:((l.zip us).flatMap fun p=>NJ p.1 p.2).length=l.length*4:=by rw[dN (f:=fun p:Item×Value=>NJ p.1 p.2) (k:=4) (fun _=>rfl),List.length_zip,hl,Nat.min_self]
  refine fe Tryz.func89 ?_;simp only[push_cast]
  refine aC ?_
  refine zj Tryz.func138 ?_
  refine (Dd (hs.mono hp0) hcl).mono ?_
  rintro r1 h1 ⟨hp1,hG⟩
  by_cases hz:l.length=0
  ·obtain⟨pq,cq,rfl⟩:=hG.form
   have hfin:Fr (fun x=>bJ x (.slice pq l.length cq) l) h.length h1:=fun x e=>.mk us hl (hG.fr (b:=56) om x e) (fun i x u h1 h2=>by have:=(List.getElem?_eq_some_iff.1 h1).1;omega)
   refine aC ?_
   refine cO l.length (fun k=>[(0,.val (.slice pq l.length cq)),(7,.val (i64 l.length)),(8,.val (i64 k))]) (fun _=>h1) (fun _=>True) aK rfl trivial ?_
   intro k hk _
   have hlt:¬ k<l.length:=by omega
   have e3:=aP hlt
   refine aG e3 ?_
   refine af rfl ?_
   refine az ?_
   show CW _ _ _ _
   refine aC ?_
   refine ai ?_
   refine⟨_,ak,hp1,⟨pq,cq,?_⟩,?_⟩
   ·rfl
   ·exact hfin
  obtain⟨id,ar,hid,rfl,hob⟩:=hG.wz om
  refine aC ?_
  refine aZ l.length (fun k (x:ah×List Value)=>[(0,.val (.slice (some ⟨id,0,some ar⟩) l.length l.length)),(7,.val (i64 l.length)),(8,.val (i64 k))]) (fun _ x=>x.1) (fun k x=>VY h x.1 id ar l us x.2 k) (h1,us) aK rfl ⟨hp1,hl,hob,fun i hi h=>absurd h om,fun i _=>rfl⟩ ?_
  rintro k ⟨hk,W⟩ hkn I
  simp only at I ⊢
  by_cases hlt:k<l.length
  ·have e1:=cg hlt
   have e2:=inc hlt hn
   have e3:=aS hlt
   have hi':k<us.length:=hl▸hlt
   have hWk:W[k]? = some us[k]:=by rw[I.r k (Nat.le_refl _)];simp [hi']
   have hg:=ri (f:=NJ) (k:=4) (fun _ _=>rfl) hlt hWk
   have hg3:=eK (j:=3) hg om
   simp only[List.getElem?_cons_succ,List.getElem?_cons_zero] at hg3
   have ho:=I.o
   have hrec:=@ih k l[k] us[k] (by simp [hlt]) (by simp [hi']) hk (hp0.trans I.p)
   have hlen1:=cD I.o
   refine aG e3 ?_
   refine ae rfl ?_
   refine gV e1 ho hg3 ?_
   refine zj Tryz.func89 ?_
   refine hrec.mono ?_
   rintro _ h5 ⟨hp5,⟨pr,cr,rfl⟩,hF⟩
   have ho5:=ag hp5 ho
   refine aG e1 ?_
   refine bV ak rfl rfl rfl ak ho5 ak rfl (oA (f:=NJ) (k:=4) (o:=3) (fun _ _=>rfl) (by decide) (fun _ _ _=>rfl) I.n hlt) ?_
   refine aG e2 ?_
   have hA5:km (id+1) hk (h5.set id (.aA ((l.zip (W.set k (.slice pr l[k].bG.length cr))).flatMap fun p=>NJ p.1 p.2) ar true 136)):=(km.pre hp5).trans (km.set om)
   refine⟨hlt,(h5.set id (.aA ((l.zip (W.set k (.slice pr l[k].bG.length cr))).flatMap fun p=>NJ p.1 p.2) ar true 136),W.set k (.slice pr l[k].bG.length cr)),aK,rfl,a8 (I.p.trans hp5) hid,by rw[List.length_set];exact I.n,aw ho5,fun i hi h2=>?_,fun i hi=>?_⟩
   ·rcases (by omega:i<k∨i=k) with h4|rfl
    ·obtain⟨u,hu1,hu2⟩:=I.d i hi h4
     exact⟨u,by rw[List.getElem?_set_ne om];exact hu1,hu2.mono hA5⟩
    ·refine⟨_,List.getElem?_set_self (by rw[I.n];exact hlt),(hF.mono ?_).low om⟩
     exact km.set om
   ·simp only
    rw[List.getElem?_set_ne om]
    exact I.r i om
  ·have e3:=aP hlt
   obtain rfl:k=l.length:=by omega
   refine aG e3 ?_
   refine af rfl ?_
   refine az ?_
   show CW _ _ _ _
   have hfin:Fr (fun x=>bJ x (.slice (some ⟨id,0,some ar⟩) l.length l.length) l) h.length hk:=by
    refine fun x e=>.mk W I.n ⟨hle,.inr ⟨id,ar,true,_,rfl,e _ _ hid I.o⟩⟩ fun i y u h1 h2=>?_
    obtain⟨hi,rfl⟩:=List.getElem?_eq_some_iff.1 h1
    obtain⟨u',hu1,hu2⟩:=I.d i hi hi
    rw[hu1] at h2
    cases h2
    exact hu2 x (e.low om)
   refine aC ?_
   refine ai ?_
   refine⟨_,ak,I.p,⟨some ⟨id,0,some ar⟩,l.length,?_⟩,?_⟩
   ·rfl
   ·exact hfin}
def Ab (l:List gO) (p:Int) (i:Nat):Bool:=match l[i]? with
 | some o=>decide (o.kind=0)&&decide (o.prod=p)
 | none=>false
def dQ (l:List gO) (p:Int) (n:Nat):List Int:=((List.range n).filter (Ab l p)).map Int.ofNat
theorem xT {l:List gO} {p:Int} {n:Nat}:dQ l p (n+1)=if Ab l p n=true then dQ l p n++[(n:Int)] else dQ l p n:=by{
unfold dQ
rw[List.range_succ,List.filter_append,List.map_append]
cases h:Ab l p n<;>simp [h]}
theorem Ap {l:List gO} {p:Int} {n:Nat}:(dQ l p n).length≤n:=by{
unfold dQ
rw[List.length_map]
exact Nat.le_trans (List.length_filter_le _ _) (by simp)}
theorem J8 {l:List gO} {p:Int} {i:Nat} (hi:i<l.length):Ab l p i=(decide (l[i].kind=0)&&decide (l[i].prod=p)):=by
 unfold Ab
 rw[List.getElem?_eq_getElem hi]
section
variable {h:ah} {v:Value} {fr:List gO} {l:List ByteArray} {b:ByteArray} {p:Int}
theorem uY (hk:l7 h v fr l) (hm:fr.length≤4096):FW env 22 [v,i64 p] h fun r h'=>h <+: h'∧aL h h' r (dQ fr p fr.length).length ((dQ fr p fr.length).map i64) 3:=by{
obtain⟨s0,s1,p2,p3,p4,p5,p6,p9,p12,p13,p14,n2,n3,n4,n5,n6,n9,n12,n13,n14,c2,c3,c4,c5,c6,c9,c12,c13,c14,i7,i8,uf,un,rfl,hf,hn⟩:=hk
obtain⟨pf,cf,rfl⟩:=hf.form
obtain⟨pn,cn,rfl⟩:=hn.form
have z0:(dQ fr p 0).length=0:=rfl
refine fe Tryz.func22 ?_;simp only[push_cast]
refine aC ?_
refine aZ fr.length (fun k (x:ah×Option Addr×Nat)=>[(1,.val (i64 p)),(5,.val (.slice x.2.1 (dQ fr p k).length x.2.2)),(9,.val (.slice pf fr.length cf)),(10,.val (i64 fr.length)),(11,.val (i64 k))]) (fun _ x=>x.1)
 (fun k x=>h <+: x.1∧aL h x.1 (.slice x.2.1 (dQ fr p k).length x.2.2) (dQ fr p k).length ((dQ fr p k).map i64) 3) (h,none,0) (lH z0) rfl ⟨List.prefix_refl _,aL.nil⟩ ?_
rintro k ⟨hk,q,cq⟩ hkn ⟨hp,hG⟩
simp only at hp hG ⊢
have hlen:(dQ fr p k).length≤k:=Ap
by_cases hlt:k<fr.length
·have hf':=hf.mono hp
 obtain⟨id,ar,own,c',cells,ps,ns,cs,hv,hid,_,hc,_⟩:=hf'.at hlt
 cases hv
 have e1:=cg hlt
 have e2:=inc hlt hf.le
 have e3:=aS hlt
 have hs:=xT (l:=fr) (p:=p) (n:=k)
 rw[J8 hlt] at hs
 refine aG e3 ?_
 refine ae rfl ?_
 by_cases q1:fr[k].kind=0
 ·by_cases q2:fr[k].prod=p
  ·rw[if_pos (by simp [q1,q2])] at hs
   have hs2:(dQ fr p (k+1)).length=(dQ fr p k).length+1:=by rw[hs];simp
   repeat (first|apply zs|apply zr|apply zn|((first|apply zx|apply zy);·simp only[push_cast,env,Nat.reduceEqDiff,reduceIte,Nat.reduceAdd,Nat.reduceMul,Nat.reduceLeDiff,reduceCtorEq,Nat.reduceSub,Int.reduceToNat,e1,hid,hc,q1,q2,decide_true]<;>first|exact rfl|exact .inl rfl|exact .inr rfl) | apply zq|apply zb|apply zo|apply zk|apply zl)
   refine ae rfl ?_
   refine aC ?_
   refine xD (l:=dQ fr p k) (b:=k) (h:=h) ak rfl ak ak hG hp om ?_
   intro p' c' h' k1 k2 _ _
   refine aG e2 ?_
   refine⟨hlt,(h',p',c'),?_,rfl,k2,?_⟩
   ·exact (lH hs2)
   ·rw[hs]
    simpa using k1
  ·rw[if_neg (by simp [q2])] at hs
   repeat (first|apply zs|apply zr|apply zn|((first|apply zx|apply zy);·simp only[push_cast,env,Nat.reduceEqDiff,reduceIte,Nat.reduceAdd,Nat.reduceMul,Nat.reduceLeDiff,reduceCtorEq,Nat.reduceSub,Int.reduceToNat,e1,hid,hc,q1,q2,decide_true,decide_false]<;>first|exact rfl|exact .inl rfl|exact .inr rfl) | apply zq|apply zb|apply zo|apply zk|apply zl)
   refine af rfl ?_
   refine aG e2 ?_
   refine⟨hlt,(hk,q,cq),?_,rfl,hp,?_⟩
   ·exact (lH hs)
   ·rw[hs]
    exact hG
 ·rw[if_neg (by simp [q1])] at hs
  repeat (first|apply zs|apply zr|apply zn|((first|apply zx|apply zy);·simp only[push_cast,env,Nat.reduceEqDiff,reduceIte,Nat.reduceAdd,Nat.reduceMul,Nat.reduceLeDiff,reduceCtorEq,Nat.reduceSub,Int.reduceToNat,e1,hid,hc,q1,decide_false]<;>first|exact rfl|exact .inl rfl|exact .inr rfl) | apply zq|apply zb|apply zo|apply zk|apply zl)
  refine af rfl ?_
  refine aG e2 ?_
  refine⟨hlt,(hk,q,cq),?_,rfl,hp,?_⟩
  ·exact (lH hs)
  ·rw[hs]
   exact hG
·have e3:=aP hlt
 obtain rfl:k=fr.length:=by omega
 refine aG e3 ?_
 refine af rfl ?_
 refine az ?_
 show CW _ _ _ _
 refine aC ?_
 refine ai ?_
 refine⟨_,ak,hp,?_⟩
 exact hG}
end
theorem dL {all:Array Oper} {o:Oper} {s:St} {c:Call} {f:FuncId} {cap args:List Value} {fn:Func} {v:Value} {h':ah} (hw:aF all o s=some true) (ho:o.op = .call c) (hc:fH s c.callee=some (f,cap)) (ha:tT s c.args.toList=some args)
 (hf:env.P.funcs[f]? = some fn) (hnm:(fn.name == "runtime.NumGoroutine")=false) (hb:fn.body.isNone=false) (k:Ev env (.call f (args++cap) s.h v h')):One env all o s (.sl (.val v)) h':=.call hw ho hc ha hf hnm hb k
section
variable {h:ah} {v:Value} {fr:List gO} {l:List ByteArray} {b:ByteArray} {p:Int}
end
structure KP {α:Type} (f:α→Value→List Value) (R:ah→Value→α→Prop) (et:TypeId) (h hk:ah) (id ar:Nat) (l:List α) (us W:List Value) (k:Nat):Prop where
 p:h <+: hk
 n:W.length=l.length
 o:hk[id]? = some (.aA ((l.zip W).flatMap fun p=>f p.1 p.2) ar true et)
 d:∀ (i:Nat) (hi:i<l.length),i<k→∃ u,W[i]? = some u∧Fr (fun x=>R x u l[i]) (id+1) hk
 r:∀ i,k≤i→W[i]? = us[i]?
section
variable {α:Type} {f:α→Value→List Value} {R:ah→Value→α→Prop} {et:TypeId} {h hk h5:ah} {id ar:Nat} {l:List α} {us W:List Value} {k:Nat}
theorem KP.step {r:Value} (I:KP f R et h hk id ar l us W k) (hlt:k<l.length) (hid:h.length≤id) (hp5:hk <+: h5) (hF:Fr (fun x=>R x r l[k]) hk.length h5) : KP f R et h (h5.set id (.aA ((l.zip (W.set k r)).flatMap fun p=>f p.1 p.2) ar true et)) id ar l us (W.set k r) (k+1):=by{
have hlen1:=cD I.o
have hA5:km (id+1) hk (h5.set id (.aA ((l.zip (W.set k r)).flatMap fun p=>f p.1 p.2) ar true et)):=(km.pre hp5).trans (km.set om)
refine⟨a8 (I.p.trans hp5) hid,by rw[List.length_set];exact I.n,aw (ag hp5 I.o),fun i hi h2=>?_,fun i hi=>?_⟩
·rcases (by omega:i<k∨i=k) with h4|rfl
 ·obtain⟨u,hu1,hu2⟩:=I.d i hi h4
  exact⟨u,by rw[List.getElem?_set_ne om];exact hu1,hu2.mono hA5⟩
 ·refine⟨_,List.getElem?_set_self (by rw[I.n];exact hlt),(hF.mono ?_).low om⟩
  exact km.set om
·rw[List.getElem?_set_ne om]
 exact I.r i om}
theorem KP.fin {b c:Nat} (I:KP f R et h hk id ar l us W l.length) (hb:l.length*b≤140737488355328):Fr (fun x=>cV f R et b x (.slice (some ⟨id,0,some ar⟩) l.length c) l) id hk:=by{
refine fun x e=>⟨W,I.n,⟨hb,.inr ⟨id,ar,true,_,rfl,e _ _ (Nat.le_refl _) I.o⟩⟩,fun i y u h1 h2=>?_⟩
obtain⟨hi,rfl⟩:=List.getElem?_eq_some_iff.1 h1
obtain⟨u',hu1,hu2⟩:=I.d i hi hi
rw[hu1] at h2
cases h2
exact hu2 x (e.low om)}
end
theorem lr {all:Array Oper} {o:Oper} {r:List Oper} {s:St} {K:St→Prop} {x:Operand} {t y:Nat} {e:TypeId} {ti:TI} {v:Value} {cs cells:List Value} {n:Nat} {h:ah} (hw:aF all o s=some true) (ho:o.op = .call { callee:=.builtin .append,args:=#[x,.tmp y],argTypes:=#[t,t] }) (hu:env.P.underlying t=some (.slice e)) (ht:aq env.P e=some ti) (hs0:0<ti.size) (hz:(ti.zero.map fun z=>z.cells.size)=some ti.size) (hx:ev s x=some v) (hy:aW s.fr y = .mx cs 1) (G:aL h s.h v n cells e) (hp:h <+: s.h) (hl:cells.length=n*ti.size) (hc:cs.length=ti.size) (hb:(n+1)*ti.bytes≤140737488355328) (hn:n+1≤140737488355328) (k:∀ p c h',aL h h' (.slice p (n+1) c) (n+1) (cells++cs) e→h <+: h'→(∀ j o,bB v j=false→s.h[j]? = some o→h'[j]? = some o)→(∀ x,bB (.slice p (n+1) c) x=true→bB v x=true∨x=s.h.length)→OW env all r ({ s with h:=h' }.a9 o.dst (.val (.slice p (n+1) c))) K):OW env all (o :: r) s K:=by{
have hi:cd s s.h ti.size (.tmp y)=some (cs,1):=by simp only[cd,hy,hc,Nat.one_mul,if_true]
rcases G with ⟨rfl,rfl,rfl⟩ | ⟨id,ar,h1,rfl,h3⟩
·refine og hw ho hu ht hs0 hz hx hi (by decide) (by simpa using hb) (by decide) ?_
 exact k (some ⟨s.h.length,0,some 0⟩) 1 _ (.inr ⟨s.h.length,0,hp.length_le,rfl,by simp⟩) (bU hp) (fun j o _ h=>bg h) (fun x hx=>by
  simp only[bB,beq_iff_eq] at hx
  exact .inr hx.symm)
·refine oZ hw ho hu ht hs0 hz hx h3 om hi hb hn ?_
 rw[List.take_of_length_le om]
 refine k (some ⟨id,0,some (ar+1)⟩) (n+1) _ (.inr ⟨id,ar+1,h1,rfl,aw h3⟩) (a8 hp h1) (fun j o hj h=>?_) (fun x hx=>?_)
 ·simp only[bB,beq_eq_false_iff_ne] at hj
  rw[aD hj]
  exact h
 ·simp only[bB] at hx ⊢
  exact .inl hx}
theorem DQ {all:Array Oper} {o:Oper} {s:St} {h h':ah} {t et:TypeId} {a x:Operand} {ti:TI} {id off ar:Nat} {cells vs cells':List Value} {v:Value} {r:gD} (hh:s.h=h) (hw:aF all o s=some true) (ho:o.op = .store t a x) (ht:aq env.P t=some ti) (ha:ev s a=some (.pointer (some ⟨id,off,some ar⟩))) (hid:h[id]? = some (.aA cells ar true et)) (hx:ev s x=some v) (hv:dO ti.size v=some vs)
 (hq:ll cells off vs=some cells') (hd:o.dst=none) (he:h'=h.set id (av.aA cells' ar true et)):One env all o s r h':=by
 subst hh he
 exact .jP hw ho ht ha hid hx hv hq hd
abbrev K9:Prod→Value→List Value:=fun p u=>[.bool p.lex,.string p.sort,.string p.cons,.bool p.bracket,u]
abbrev Qu:dK→Value→List Value:=fun p u=>[i64 p.assoc,u]
abbrev IS:Hy→Value→List Value:=fun p u=>[.string p.cons,u]
def kZ (d:bM) (vP vC vF vR vB:Value):List Value:=[.string d.start,.string d.layout,vP,vC,vF,vR,vB]
abbrev ZD:List Value:=[.string ⟨#[]⟩,.string ⟨#[]⟩,bX,bX,bX,bX,bX]
structure VP (h hk:ah) (v:Value) (l:List (List dK)) (vs:List Value) (k:Nat):Prop where
 p:h <+: hk
 n:vs.length=k
 g:aL h hk v k vs 80
 e:∀ (i:Nat) (hi:i<l.length),i<k→∃ u,vs[i]? = some u∧∀ x:ah,(∀ j o,h.length≤j→bB v j=false→hk[j]? = some o→x[j]? = some o)→eL x u l[i]
theorem yl:∀ {α:Type} {l:List α} {W:List Value},W.length=l.length→((l.zip W).flatMap fun p=>[p.2])=W
 | _,[],[],_=>rfl
 | _,x :: l,w :: W,h=>by
   rw[List.zip_cons_cons,List.flatMap_cons,yl (by simpa using h)]
   rfl
section
variable {h:ah} {d:bM} {up uc uf ur ub:Value}
theorem D9 (hd:bH h d up uc uf ur ub):FW env 32 [.agg (d.val up uc uf ur ub).toArray] h fun r h'=>h <+: h'∧∃ vp vc vf vr vb,r = .agg (d.val vp vc vf vr vb).toArray∧Fr (fun x=>bH x d vp vc vf vr vb) h.length h':=by{
obtain⟨p1,c1,p2,c2,p3,c3,p4,c4,p5,c5,rfl,rfl,rfl,rfl,rfl,l1,l2,l3,l4,l5⟩:=bH.form hd
obtain⟨UP,hUPn,hUPs,hUPr⟩:=id hd.aa
obtain⟨UB,hUBn,hUBs,hUBr⟩:=id hd.boxes
have hcP:((d.aa.zip UP).flatMap fun p=>K9 p.1 p.2).length=d.aa.length*5:=by rw[dN (f:=fun p:Prod×Value=>K9 p.1 p.2) (k:=5) (fun _=>rfl),List.length_zip,hUPn,Nat.min_self]
have hcB:((d.boxes.zip UB).flatMap fun p=>IS p.1 p.2).length=d.boxes.length*2:=by rw[dN (f:=fun p:Hy×Value=>IS p.1 p.2) (k:=2) (fun _=>rfl),List.length_zip,hUBn,Nat.min_self]
have hbP:d.aa.length*72≤140737488355328:=cV.le hd.aa
have hbB:d.boxes.length*40≤140737488355328:=cV.le hd.boxes
have hbC:d.au.length*24≤140737488355328:=cV.le hd.au
refine fe Tryz.func32 ?_;simp only[push_cast]
unfold bM.val
refine zu ?_
refine dA (t:=28) (cs:=kZ d (.slice p1 d.aa.length c1) (.slice p2 d.au.length c2) (.slice p3 d.follows.length c3) (.slice p4 d.al.length c4) (.slice p5 d.boxes.length c5)) ak kr ?_
dsimp only[St.a9,St.put]
have hp1:h <+: h++[av.aA (kZ d (.slice p1 d.aa.length c1) (.slice p2 d.au.length c2) (.slice p3 d.follows.length c3) (.slice p4 d.al.length c4) (.slice p5 d.boxes.length c5)) 0 true 28]:=aH
have hx1:(h++[av.aA (kZ d (.slice p1 d.aa.length c1) (.slice p2 d.au.length c2) (.slice p3 d.follows.length c3) (.slice p4 d.al.length c4) (.slice p5 d.boxes.length c5)) 0 true 28])[h.length]? = some (.aA (kZ d (.slice p1 d.aa.length c1) (.slice p2 d.au.length c2) (.slice p3 d.follows.length c3) (.slice p4 d.al.length c4) (.slice p5 d.boxes.length c5)) 0 true 28):=aJ
have hl1':(h++[av.aA (kZ d (.slice p1 d.aa.length c1) (.slice p2 d.au.length c2) (.slice p3 d.follows.length c3) (.slice p4 d.al.length c4) (.slice p5 d.boxes.length c5)) 0 true 28]).length=h.length+1:=by simp
generalize (h++[av.aA (kZ d (.slice p1 d.aa.length c1) (.slice p2 d.au.length c2) (.slice p3 d.follows.length c3) (.slice p4 d.al.length c4) (.slice p5 d.boxes.length c5)) 0 true 28])=h1 at hp1 hx1 hl1' ⊢
unfold kZ at hx1
refine aG hx1 ?_
refine zj Tryz.func82 ?_
refine (CH (hUPs.mono hp1) hcP).mono ?_
rintro _ h2 ⟨hp2,hGP⟩
obtain⟨qP,cP,rfl⟩:=hGP.form
have hx2:=ag hp2 hx1
refine aC ?_
refine bV (cells':=kZ d (.slice qP d.aa.length cP) (.slice p2 d.au.length c2) (.slice p3 d.follows.length c3) (.slice p4 d.al.length c4) (.slice p5 d.boxes.length c5)) ak rfl rfl rfl ak hx2 ak rfl rfl ?_
dsimp only
have hx3:(h2.set h.length (.aA (kZ d (.slice qP d.aa.length cP) (.slice p2 d.au.length c2) (.slice p3 d.follows.length c3) (.slice p4 d.al.length c4) (.slice p5 d.boxes.length c5)) 0 true 28))[h.length]? = some (.aA (kZ d (.slice qP d.aa.length cP) (.slice p2 d.au.length c2) (.slice p3 d.follows.length c3) (.slice p4 d.al.length c4) (.slice p5 d.boxes.length c5)) 0 true 28):=aw hx2
have hp3:h <+: h2.set h.length (.aA (kZ d (.slice qP d.aa.length cP) (.slice p2 d.au.length c2) (.slice p3 d.follows.length c3) (.slice p4 d.al.length c4) (.slice p5 d.boxes.length c5)) 0 true 28):=a8 (hp1.trans hp2) (Nat.le_refl _)
have hGP3:aL h1 (h2.set h.length (.aA (kZ d (.slice qP d.aa.length cP) (.slice p2 d.au.length c2) (.slice p3 d.follows.length c3) (.slice p4 d.al.length c4) (.slice p5 d.boxes.length c5)) 0 true 28)) (.slice qP d.aa.length cP) d.aa.length ((d.aa.zip UP).flatMap fun p=>K9 p.1 p.2) 51:=hGP.mono fun j o hj ho=>by
 have:=(hGP.lt hj).1
 rw[aD om]
 exact ho
generalize (h2.set h.length (.aA (kZ d (.slice qP d.aa.length cP) (.slice p2 d.au.length c2) (.slice p3 d.follows.length c3) (.slice p4 d.al.length c4) (.slice p5 d.boxes.length c5)) 0 true 28))=h3 at hx3 hp3 hGP3 ⊢
clear hGP hx2 hp2
unfold kZ at hx3
refine aG hx3 ?_
refine CW.mono (Q:=fun e s'=>e = .exit 0∧∃ hk,h <+: hk∧hk[h.length]? = some (.aA (kZ d (.slice qP d.aa.length cP) (.slice p2 d.au.length c2) (.slice p3 d.follows.length c3) (.slice p4 d.al.length c4) (.slice p5 d.boxes.length c5)) 0 true 28)∧Fr (fun x=>eR x (.slice qP d.aa.length cP) d.aa) (h.length+1) hk∧s'.h=hk∧bA [(1,.val (.pointer (some ⟨h.length,0,some 0⟩))),(2,.box ZD)] s'.fr) ?_ ?_
·by_cases hz:d.aa.length=0
 ·refine cO d.aa.length (fun k=>[(1,.val (.pointer (some ⟨h.length,0,some 0⟩))),(2,.box ZD),(15,.val (i64 d.aa.length)),(16,.val (i64 k))]) (fun _=>h3) (fun _=>True) aK rfl trivial ?_
  intro k hkn _
  have hlt:¬ k<d.aa.length:=by omega
  have e3:=aP hlt
  refine aG e3 ?_
  refine af rfl ?_
  refine az ?_
  refine⟨rfl,h3,hp3,hx3,fun x e=>⟨UP,hUPn,(hGP3.fr (b:=72) hbP) x (by rw[hl1'];exact e),fun i y u h1 h2=>?_⟩,rfl,aK⟩
  have:=(List.getElem?_eq_some_iff.1 h1).1
  omega
 obtain⟨id,ar,hid,hv,hob⟩:=hGP3.wz om
 cases hv
 refine aZ d.aa.length (fun k (x:ah×List Value)=>[(1,.val (.pointer (some ⟨h.length,0,some 0⟩))),(2,.box ZD),(15,.val (i64 d.aa.length)),(16,.val (i64 k))]) (fun _ x=>x.1) (fun k x=>KP K9 (fun h u p=>fR h u p.aj) 51 h x.1 id ar d.aa UP x.2 k∧x.1[h.length]? = some (.aA (kZ d (.slice (some ⟨id,0,some ar⟩) d.aa.length d.aa.length) (.slice p2 d.au.length c2) (.slice p3 d.follows.length c3) (.slice p4 d.al.length c4) (.slice p5 d.boxes.length c5)) 0 true 28)) (h3,UP) aK rfl ⟨⟨hp3,hUPn,hob,fun i hi h=>absurd h om,fun i _=>rfl⟩,hx3⟩ ?_
 rintro k ⟨hk,W⟩ hkn ⟨I,hx⟩
 simp only at I hx ⊢
 by_cases hlt:k<d.aa.length
 ·have e1:=cg hlt
  have e2:=inc hlt l1
  have e3:=aS hlt
  have hWk:W[k]? = some (UP[k]'om):=by rw[I.r k (Nat.le_refl _)];simp
  have hg:=ri (f:=K9) (k:=5) (fun _ _=>rfl) hlt hWk
  have hg3:=eK (j:=4) hg om
  simp only[List.getElem?_cons_succ,List.getElem?_cons_zero] at hg3
  have hu:fR h (UP[k]'om) d.aa[k].aj:=hUPr k d.aa[k] (UP[k]'om) (by simp [hlt]) (by simp)
  obtain⟨pu,cu,huf⟩:=bT.form hu
  rw[huf] at hg3 hu
  have hcl:=Dp (hu.mono I.p) va
  unfold FW at hcl
  obtain⟨r,h5,hcall,hp5,hGr⟩:=hcl
  have hF:=hGr.fr (b:=88) hu.1
  obtain⟨pr,cr,rfl⟩:=hGr.form
  have ho:=I.o
  have ho5:=ag hp5 ho
  have hx5:=ag hp5 hx
  have I':=I.step hlt om hp5 hF
  have hx6:(h5.set id (.aA ((d.aa.zip (W.set k (.slice pr d.aa[k].aj.length cr))).flatMap fun p=>K9 p.1 p.2) ar true 51))[h.length]? = some (.aA (kZ d (.slice (some ⟨id,0,some ar⟩) d.aa.length d.aa.length) (.slice p2 d.au.length c2) (.slice p3 d.follows.length c3) (.slice p4 d.al.length c4) (.slice p5 d.boxes.length c5)) 0 true 28):=by rw[aD om];exact hx5
  unfold kZ at hx hx5
  refine aG e3 ?_
  refine ae rfl ?_
  refine aC ?_
  refine aB [(1,.val (.pointer (some ⟨h.length,0,some 0⟩))),(2,.box ZD),(3,.val (i64 k)),(15,.val (i64 d.aa.length)),(16,.val (i64 k))] aK ?_
  show CW _ _ ⟨_,[],hk⟩ _
  apply bm (L:=[[],[0],[],[],[3],[],[4,5],[6],[7],[8],[1,2],[10],[0,1,2,3,4,5,6,7,8,9,11]]) (act:=[9,12]) (hs:=[h5,h5.set id (.aA ((d.aa.zip (W.set k (.slice pr d.aa[k].aj.length cr))).flatMap fun p=>K9 p.1 p.2) ar true 51)]) (resL:=[_,_,_,_,_,_,_,_,_,_,_,_,_]) (frF:=[(1,.val (.pointer (some ⟨h.length,0,some 0⟩))),(2,.box ZD),(15,.val (i64 d.aa.length)),(16,.val (i64 k))])
  case hm=>exact mixed
  case hc=>kernel_rfl
  case ha=>rfl
  case hb=>rfl
  case hS=>
   refine OH hx hx5 e1 ho hg3 ?_
   apply ay.cons
   ·rfl
   ·refine⟨?_,trivial⟩
    exact dL (args:=[.slice pu d.aa[k].aj.length cu]) (cap:=[]) (fn:=Tryz.f83) ak rfl ak ak Tryz.func83 kr kr hcall
   ·rfl
   refine OH hx hx5 e1 ho hg3 ?_
   apply ay.cons
   ·rfl
   ·refine⟨?_,trivial⟩
    exact One.jP (r:=.sl .dH) ak rfl ak ak ho5 ak rfl (oA (f:=K9) (k:=5) (o:=4) (fun _ _=>rfl) (by decide) (fun _ _ _=>rfl) I.n hlt) rfl
   ·rfl
   exact ay.nil _
  case ht=>rfl
  case hF=>exact zh
  show CW _ _ _ _
  refine aG e2 ?_
  exact⟨hlt,(_,_),aK,rfl,I',hx6⟩
 ·have e3:=aP hlt
  obtain rfl:k=d.aa.length:=by omega
  refine aG e3 ?_
  refine af rfl ?_
  refine az ?_
  exact⟨rfl,hk,I.p,hx,(I.fin (c:=d.aa.length) hbP).low om,rfl,aK⟩
clear hGP3 hx3 hp3
rintro e s' ⟨rfl,h4,hp4,hx4,hFP,hh,hf⟩
show CW _ _ _ _
refine aB _ hf ?_
rw[hh]
clear hf hh s'
unfold kZ at hx4
refine aG hx4 ?_
refine CW.mono (Q:=fun e s'=>e = .exit 2∧∃ hk vs q c,VP h4 hk (.slice q d.au.length c) d.au vs d.au.length∧s'.h=hk∧bA [(1,.val (.pointer (some ⟨h.length,0,some 0⟩))),(2,.box ZD),(4,.val (.slice q d.au.length c))] s'.fr) ?_ ?_
·refine aZ d.au.length (fun k (x:ah×List Value×Option Addr×Nat)=>[(1,.val (.pointer (some ⟨h.length,0,some 0⟩))),(2,.box ZD),(4,.val (.slice x.2.2.1 k x.2.2.2)),(33,.val (.slice p2 d.au.length c2)),(34,.val (i64 d.au.length)),(35,.val (i64 k))]) (fun _ x=>x.1) (fun k x=>VP h4 x.1 (.slice x.2.2.1 k x.2.2.2) d.au x.2.1 k) (h4,[],none,0) aK rfl ⟨List.prefix_refl _,rfl,aL.nil,fun i _ hi=>absurd hi om⟩ ?_
 rintro k ⟨hk,vs,qC,cC⟩ hkn I
 simp only at I ⊢
 have hpk:=hp4.trans I.p
 by_cases hlt:k<d.au.length
 ·obtain⟨id,ar,own,c',cells,u,hv,hid0,hrd,hu⟩:=cV.at (k:=1) (fun _ _=>rfl) hd.au hlt
  cases hv
  have hid:=ag hpk hid0
  have hu:eL h u d.au[k]:=hu
  obtain⟨ps,cs,rfl⟩:=cV.form hu
  have hu':=hu
  obtain⟨UG,hUGn,hUGs,hUGr⟩:=hu'
  have hg:=gZ hrd om
  simp only[List.getElem?_cons_zero,Nat.mul_one] at hg
  have w1:=cg hlt
  have w2:=inc hlt l2
  have q3:=aS hlt
  have hbG:d.au[k].length*32≤140737488355328:=cV.le hu
  have hcG:((d.au[k].zip UG).flatMap fun p=>Qu p.1 p.2).length=d.au[k].length*2:=by rw[dN (f:=fun p:dK×Value=>Qu p.1 p.2) (k:=2) (fun _=>rfl),List.length_zip,hUGn,Nat.min_self]
  refine aG q3 ?_
  refine ae rfl ?_
  refine fi w1 hid hg Nat.mul_one ?_
  refine zj Tryz.func84 ?_
  refine (Dz (hUGs.mono hpk) hcG).mono ?_
  rintro _ h5 ⟨hp5,hGG⟩
  obtain⟨qG,cG,rfl⟩:=hGG.form
  refine aC ?_
  refine CW.mono (Q:=fun e s'=>e = .exit 4∧∃ h6,hk <+: h6∧Fr (fun x=>eL x (.slice qG d.au[k].length cG) d.au[k]) hk.length h6∧s'.h=h6∧bA [(1,.val (.pointer (some ⟨h.length,0,some 0⟩))),(2,.box ZD),(4,.val (.slice qC k cC)),(6,.val (.slice qG d.au[k].length cG)),(33,.val (.slice (some ⟨id,0,some ar⟩) d.au.length c2)),(34,.val (i64 d.au.length)),(35,.val (i64 k))] s'.fr) ?_ ?_
  ·by_cases hz:d.au[k].length=0
   ·refine cO d.au[k].length (fun m=>[(1,.val (.pointer (some ⟨h.length,0,some 0⟩))),(2,.box ZD),(4,.val (.slice qC k cC)),(6,.val (.slice qG d.au[k].length cG)),(33,.val (.slice (some ⟨id,0,some ar⟩) d.au.length c2)),(34,.val (i64 d.au.length)),(35,.val (i64 k)),(42,.val (i64 d.au[k].length)),(43,.val (i64 m))]) (fun _=>h5) (fun _=>True) aK rfl trivial ?_
    intro m hmn _
    have hml:¬ m<d.au[k].length:=by omega
    have e3:=aP hml
    refine aG e3 ?_
    refine af rfl ?_
    refine az ?_
    refine⟨rfl,h5,hp5,fun x e=>⟨UG,hUGn,(hGG.fr (b:=32) hbG) x e,fun i y u h1 h2=>?_⟩,rfl,aK⟩
    have:=(List.getElem?_eq_some_iff.1 h1).1
    omega
   obtain⟨idg,verg,hidg,hvg,hobg⟩:=hGG.wz om
   cases hvg
   refine aZ d.au[k].length (fun m (x:ah×List Value)=>[(1,.val (.pointer (some ⟨h.length,0,some 0⟩))),(2,.box ZD),(4,.val (.slice qC k cC)),(6,.val (.slice (some ⟨idg,0,some verg⟩) d.au[k].length d.au[k].length)),(33,.val (.slice (some ⟨id,0,some ar⟩) d.au.length c2)),(34,.val (i64 d.au.length)),(35,.val (i64 k)),(42,.val (i64 d.au[k].length)),(43,.val (i64 m))]) (fun _ x=>x.1) (fun m x=>KP Qu (fun h u p=>bj h u p.cons) 82 hk x.1 idg verg d.au[k] UG x.2 m) (h5,UG) aK rfl ⟨hp5,hUGn,hobg,fun i hi h=>absurd h om,fun i _=>rfl⟩ ?_
   rintro m ⟨hm,W⟩ hmn J
   simp only at J ⊢
   by_cases hml:m<d.au[k].length
   ·have e1:=cg hml
    have e2:=inc hml om
    have e3:=aS hml
    have hWk:W[m]? = some (UG[m]'om):=by rw[J.r m (Nat.le_refl _)];simp
    have hg:=ri (f:=Qu) (k:=2) (fun _ _=>rfl) hml hWk
    have hg3:=eK (j:=1) hg om
    simp only[List.getElem?_cons_succ,List.getElem?_cons_zero] at hg3
    have huN:bj h (UG[m]'om) (d.au[k])[m].cons:=hUGr m (d.au[k])[m] (UG[m]'om) (by simp [hml]) (by simp)
    obtain⟨pu,cu,huf⟩:=bT.form huN
    rw[huf] at hg3 huN
    have ho:=J.o
    refine aG e3 ?_
    refine ae rfl ?_
    refine gV e1 ho hg3 ?_
    refine zj Tryz.func85 ?_
    refine (C8 (huN.mono (hpk.trans J.p)) (by simp)).mono ?_
    rintro _ h7 ⟨hp7,hGN⟩
    have hF:=hGN.fr (b:=16) huN.1
    obtain⟨pr,cr,rfl⟩:=hGN.form
    have ho7:=ag hp7 ho
    have J':=J.step hml hidg hp7 hF
    refine aG e1 ?_
    refine bV ak rfl rfl rfl ak ho7 ak rfl (oA (f:=Qu) (k:=2) (o:=1) (fun _ _=>rfl) (by decide) (fun _ _ _=>rfl) J.n hml) ?_
    refine aG e2 ?_
    exact⟨hml,(_,_),aK,rfl,J'⟩
   ·have e3:=aP hml
    obtain rfl:m=d.au[k].length:=by omega
    refine aG e3 ?_
    refine af rfl ?_
    refine az ?_
    exact⟨rfl,hm,J.p,(J.fin (c:=d.au[k].length) hbG).low hidg,rfl,aK⟩
  rintro e s' ⟨rfl,h6,hp6,hFC,hh,hf⟩
  show CW _ _ _ _
  refine aB _ hf ?_
  rw[hh]
  clear hf hh s'
  have hG6:aL h4 h6 (.slice qC k cC) k vs 80:=I.g.mono fun j o _ ho=>ag hp6 ho
  refine aC ?_
  refine lr (t:=23) (cs:=[.slice qG d.au[k].length cG]) ak rfl kr Qy (by decide) rfl ak rfl hG6 (I.p.trans hp6) (by rw[I.n,show (_:TI).size=1 from rfl,Nat.mul_one]) rfl (by simp only;omega) om ?_
  intro p' c' h7 k1 k2 k3 k4
  have k4:∀ x,bB (.slice p' (k+1) c') x=true→bB (.slice qC k cC) x=true∨x=h6.length:=k4
  refine aG w2 ?_
  refine⟨hlt,(h7,vs++[.slice qG d.au[k].length cG],p',c'),aK,rfl,k2,by rw[List.length_append,I.n];rfl,k1,fun i hi h2=>?_⟩
  rcases (by omega:i<k∨i=k) with h8|rfl
  ·obtain⟨u',hu1,hu2⟩:=I.e i hi h8
   refine⟨u',by rw[List.getElem?_append_left (by rw[I.n];exact h8)];exact hu1,fun x hx=>hu2 x fun j o hj ha ho=>?_⟩
   refine hx j o hj ?_ (k3 j o ha (ag hp6 ho))
   cases hb:bB (.slice p' (k+1) c') j with
   | false=>rfl
   | true=>
     rcases k4 j hb with h9|h9
     ·rw[ha] at h9;cases h9
     ·have:=cD ho
      have:=hp6.length_le
      omega
  ·refine⟨_,by rw[List.getElem?_append_right (by rw[I.n];exact Nat.le_refl _),I.n,Nat.sub_self];rfl,fun x hx=>hFC x fun j o hj ho=>?_⟩
   have hlk:=I.p.length_le
   have ha:bB (.slice qC i cC) j=false:=by
    cases hb:bB (.slice qC i cC) j with
    | false=>rfl
    | true=>have:=(I.g.lt hb).2;omega
   refine hx j o om ?_ (k3 j o ha ho)
   cases hb:bB (.slice p' (i+1) c') j with
   | false=>rfl
   | true=>
     rcases k4 j hb with h9|h9
     ·rw[ha] at h9;cases h9
     ·have:=cD ho
      omega
 ·have q3:=aP hlt
  obtain rfl:k=d.au.length:=by omega
  refine aG q3 ?_
  refine af rfl ?_
  refine az ?_
  exact⟨rfl,hk,vs,qC,cC,I,rfl,aK⟩
rintro e s' ⟨rfl,h5,vs,qC,cC,I,hh,hf⟩
show CW _ _ _ _
refine aB _ hf ?_
rw[hh]
clear hf hh s'
have hp5:=hp4.trans I.p
have hx5:=ag I.p hx4
have hlx:=cD hx4
have hgC:=I.g
have hFC:Fr (fun x=>j1 x (.slice qC d.au.length cC) d.au) h4.length h5:=by
 refine fun x e=>⟨vs,I.n,?_,fun i y u h1 h2=>?_⟩
 ·rw[yl I.n]
  exact (I.g.fr (b:=24) hbC) x e
 ·obtain⟨hi,rfl⟩:=List.getElem?_eq_some_iff.1 h1
  obtain⟨u',hu1,hu2⟩:=I.e i hi hi
  rw[hu1] at h2
  cases h2
  exact hu2 x fun j o hj _ ho=>e j o hj ho
have hFP5:=hFP.mono (km.pre I.p)
clear hFP I hgC
refine aC ?_
refine bV (v:=.slice qC d.au.length cC) (vs:=[.slice qC d.au.length cC]) (cells':=kZ d (.slice qP d.aa.length cP) (.slice qC d.au.length cC) (.slice p3 d.follows.length c3) (.slice p4 d.al.length c4) (.slice p5 d.boxes.length c5)) ak rfl rfl rfl ak hx5 ak rfl rfl ?_
dsimp only
obtain⟨h6,hh6⟩:∃ h6,h6=h5.set h.length (.aA (kZ d (.slice qP d.aa.length cP) (.slice qC d.au.length cC) (.slice p3 d.follows.length c3) (.slice p4 d.al.length c4) (.slice p5 d.boxes.length c5)) 0 true 28):=⟨_,rfl⟩
have hx6:h6[h.length]? = some (.aA (kZ d (.slice qP d.aa.length cP) (.slice qC d.au.length cC) (.slice p3 d.follows.length c3) (.slice p4 d.al.length c4) (.slice p5 d.boxes.length c5)) 0 true 28):=hh6▸aw hx5
have hA6:km (h.length+1) h5 h6:=hh6▸km.set (Nat.lt_succ_self _)
have hp6:h <+: h6:=hh6▸a8 hp5 (Nat.le_refl _)
rw[← hh6]
clear hh6
have hFP6:=hFP5.mono hA6
have hFC6:=(hFC.low (show h.length+1≤h4.length by omega)).mono hA6
clear hFC hFP5 hA6 hx5
have hk1:=Eg (bT.mono hd.follows hp6) (by rw[dN (f:=ew.cells) (k:=5) (fun _=>rfl)])
unfold FW at hk1
obtain⟨rF,h7,hcF,hp7,hGF⟩:=hk1
obtain⟨qF,cF,rfl⟩:=hGF.form
have hk2:=DO (bT.mono hd.al (hp6.trans hp7)) (by rw[dN (f:=dC.cells) (k:=2) (fun _=>rfl)])
unfold FW at hk2
obtain⟨rR,h8,hcR,hp8,hGR⟩:=hk2
obtain⟨qR,cR,rfl⟩:=hGR.form
have hx7:=ag hp7 hx6
have hx8:=ag hp8 hx7
have hlen6:=hp6.length_le
have hFF:Fr (fun x=>oX x (.slice qF d.follows.length cF) d.follows) (h.length+1) h7:=(hGF.fr (b:=48) hd.follows.1).low (by have:=cD hx6;omega)
have hFR:Fr (fun x=>pJ x (.slice qR d.al.length cR) d.al) (h.length+1) h8:=(hGR.fr (b:=32) hd.al.1).low (by have:=cD hx7;omega)
unfold kZ at hx6 hx7 hx8
refine aC ?_
refine aB [(1,.val (.pointer (some ⟨h.length,0,some 0⟩))),(2,.box ZD)] aK ?_
show CW _ _ ⟨_,[],h6⟩ _
apply bm (L:=[[],[0],[1],[],[3],[2,4],[],[0,1,2,3,4,5,6],[],[0,1,2,3,4,5,6,7,8]]) (act:=[2,5,7,9]) (hs:=[h7,h8,h8.set h.length (.aA (kZ d (.slice qP d.aa.length cP) (.slice qC d.au.length cC) (.slice qF d.follows.length cF) (.slice p4 d.al.length c4) (.slice p5 d.boxes.length c5)) 0 true 28),h8.set h.length (.aA (kZ d (.slice qP d.aa.length cP) (.slice qC d.au.length cC) (.slice qF d.follows.length cF) (.slice qR d.al.length cR) (.slice p5 d.boxes.length c5)) 0 true 28)]) (resL:=[_,_,_,_,_,_,_,_,_,_]) (frF:=[(1,.val (.pointer (some ⟨h.length,0,some 0⟩))),(2,.box ZD)])
case hm=>exact mixed
case hc=>kernel_rfl
case ha=>rfl
case hb=>rfl
case hS=>
 refine Py hx6 ?_
 apply ay.cons
 ·rfl
 ·refine⟨?_,trivial⟩
  exact dL (args:=[.slice p3 d.follows.length c3]) (cap:=[]) (fn:=Tryz.f86) ak rfl ak ak Tryz.func86 kr kr hcF
 ·rfl
 refine Gc hx6 hx7 ?_
 apply ay.cons
 ·rfl
 ·refine⟨?_,trivial⟩
  exact dL (args:=[.slice p4 d.al.length c4]) (cap:=[]) (fn:=Tryz.f87) ak rfl ak ak Tryz.func87 kr kr hcR
 ·rfl
 refine Oz hx6 hx7 hx8 ?_
 apply ay.cons
 ·rfl
 ·refine⟨?_,trivial⟩
  exact One.jP (r:=.sl .dH) (cells':=kZ d (.slice qP d.aa.length cP) (.slice qC d.au.length cC) (.slice qF d.follows.length cF) (.slice p4 d.al.length c4) (.slice p5 d.boxes.length c5)) ak rfl ak ak hx8 ak rfl rfl rfl
 ·rfl
 refine Oz hx6 hx7 hx8 ?_
 apply ay.cons
 ·rfl
 ·refine⟨?_,trivial⟩
  exact DQ (r:=.sl .dH) rfl ak rfl rfl ak (aw hx8) ak rfl rfl rfl (List.set_set ..).symm
 ·rfl
 exact ay.nil _
case ht=>rfl
case hF=>exact zh
show CW _ _ _ _
obtain⟨h9,hh9⟩:∃ h9,h9=h8.set h.length (.aA (kZ d (.slice qP d.aa.length cP) (.slice qC d.au.length cC) (.slice qF d.follows.length cF) (.slice qR d.al.length cR) (.slice p5 d.boxes.length c5)) 0 true 28):=⟨_,rfl⟩
have hx9:h9[h.length]? = some (.aA (kZ d (.slice qP d.aa.length cP) (.slice qC d.au.length cC) (.slice qF d.follows.length cF) (.slice qR d.al.length cR) (.slice p5 d.boxes.length c5)) 0 true 28):=hh9▸aw hx8
have hA9:km (h.length+1) h8 h9:=hh9▸km.set (Nat.lt_succ_self _)
have hp9:h <+: h9:=hh9▸a8 ((hp6.trans hp7).trans hp8) (Nat.le_refl _)
rw[← hh9]
clear hh9
have hFP9:=hFP6.mono ((km.pre (hp7.trans hp8)).trans hA9)
have hFC9:=hFC6.mono ((km.pre (hp7.trans hp8)).trans hA9)
have hFF9:=hFF.mono ((km.pre hp8).trans hA9)
have hFR9:=hFR.mono hA9
clear hFP6 hFC6 hFF hFR hA9 hx6 hx7 hx8 hcF hcR hGF hGR hp7 hp8
unfold kZ at hx9
refine aG hx9 ?_
refine zj Tryz.func88 ?_
refine (Cz (hUBs.mono hp9) hcB).mono ?_
rintro _ h10 ⟨hp10,hGB⟩
obtain⟨qB,cB,rfl⟩:=hGB.form
have hx10:=ag hp10 hx9
refine aC ?_
refine bV (cells':=kZ d (.slice qP d.aa.length cP) (.slice qC d.au.length cC) (.slice qF d.follows.length cF) (.slice qR d.al.length cR) (.slice qB d.boxes.length cB)) ak rfl rfl rfl ak hx10 ak rfl rfl ?_
dsimp only
obtain⟨h11,hh11⟩:∃ h11,h11=h10.set h.length (.aA (kZ d (.slice qP d.aa.length cP) (.slice qC d.au.length cC) (.slice qF d.follows.length cF) (.slice qR d.al.length cR) (.slice qB d.boxes.length cB)) 0 true 28):=⟨_,rfl⟩
have hx11:h11[h.length]? = some (.aA (kZ d (.slice qP d.aa.length cP) (.slice qC d.au.length cC) (.slice qF d.follows.length cF) (.slice qR d.al.length cR) (.slice qB d.boxes.length cB)) 0 true 28):=hh11▸aw hx10
have hA11:km (h.length+1) h10 h11:=hh11▸km.set (Nat.lt_succ_self _)
have hp11:h <+: h11:=hh11▸a8 (hp9.trans hp10) (Nat.le_refl _)
have hlen9:=cD hx9
have hGB11:aL h9 h11 (.slice qB d.boxes.length cB) d.boxes.length ((d.boxes.zip UB).flatMap fun p=>IS p.1 p.2) 85:=hGB.mono fun j o hj ho=>by
 have:=(hGB.lt hj).1
 rw[hh11,aD om]
 exact ho
rw[← hh11]
clear hh11
have hA911:km (h.length+1) h9 h11:=(km.pre hp10).trans hA11
clear hA11 hx10 hGB hx9
unfold kZ at hx11
refine aG hx11 ?_
refine CW.mono (Q:=fun e s'=>e = .exit 6∧∃ hk,h <+: hk∧km (h.length+1) h9 hk∧hk[h.length]? = some (.aA (kZ d (.slice qP d.aa.length cP) (.slice qC d.au.length cC) (.slice qF d.follows.length cF) (.slice qR d.al.length cR) (.slice qB d.boxes.length cB)) 0 true 28)∧Fr (fun x=>lY x (.slice qB d.boxes.length cB) d.boxes) (h.length+1) hk∧s'.h=hk∧bA [(1,.val (.pointer (some ⟨h.length,0,some 0⟩))),(2,.box ZD)] s'.fr) ?_ ?_
·by_cases hz:d.boxes.length=0
 ·refine cO d.boxes.length (fun k=>[(1,.val (.pointer (some ⟨h.length,0,some 0⟩))),(2,.box ZD),(78,.val (i64 d.boxes.length)),(79,.val (i64 k))]) (fun _=>h11) (fun _=>True) aK rfl trivial ?_
  intro k hkn _
  have hlt:¬ k<d.boxes.length:=by omega
  have e3:=aP hlt
  refine aG e3 ?_
  refine af rfl ?_
  refine az ?_
  refine⟨rfl,h11,hp11,hA911,hx11,fun x e=>⟨UB,hUBn,(hGB11.fr (b:=40) hbB) x (e.low om),fun i y u h1 h2=>?_⟩,rfl,aK⟩
  have:=(List.getElem?_eq_some_iff.1 h1).1
  omega
 obtain⟨id,ar,hid,hv,hob⟩:=hGB11.wz om
 cases hv
 refine aZ d.boxes.length (fun k (x:ah×List Value)=>[(1,.val (.pointer (some ⟨h.length,0,some 0⟩))),(2,.box ZD),(78,.val (i64 d.boxes.length)),(79,.val (i64 k))]) (fun _ x=>x.1) (fun k x=>KP IS (fun h u p=>bJ h u p.bG) 85 h x.1 id ar d.boxes UB x.2 k∧km (h.length+1) h9 x.1∧x.1[h.length]? = some (.aA (kZ d (.slice qP d.aa.length cP) (.slice qC d.au.length cC) (.slice qF d.follows.length cF) (.slice qR d.al.length cR) (.slice (some ⟨id,0,some ar⟩) d.boxes.length d.boxes.length)) 0 true 28)) (h11,UB) aK rfl ⟨⟨hp11,hUBn,hob,fun i hi h=>absurd h om,fun i _=>rfl⟩,hA911,hx11⟩ ?_
 rintro k ⟨hk,W⟩ hkn ⟨I,hAk,hx⟩
 simp only at I hAk hx ⊢
 by_cases hlt:k<d.boxes.length
 ·have e1:=cg hlt
  have e2:=inc hlt l5
  have e3:=aS hlt
  have hWk:W[k]? = some (UB[k]'om):=by rw[I.r k (Nat.le_refl _)];simp
  have hg:=ri (f:=IS) (k:=2) (fun _ _=>rfl) hlt hWk
  have hg3:=eK (j:=1) hg om
  simp only[List.getElem?_cons_succ,List.getElem?_cons_zero] at hg3
  have hu:bJ h (UB[k]'om) d.boxes[k].bG:=hUBr k d.boxes[k] (UB[k]'om) (by simp [hlt]) (by simp)
  obtain⟨pu,cu,huf⟩:=cV.form (bJ.iff.1 hu)
  rw[huf] at hg3 hu
  have hcl:=FP hu I.p
  unfold FW at hcl
  obtain⟨r,h5',hcall,hp5',⟨pr,cr,rfl⟩,hF⟩:=hcl
  have ho:=I.o
  have ho5:=ag hp5' ho
  have hx5:=ag hp5' hx
  have I':=I.step hlt om hp5' hF
  have hA':km (h.length+1) h9 (h5'.set id (.aA ((d.boxes.zip (W.set k (.slice pr d.boxes[k].bG.length cr))).flatMap fun p=>IS p.1 p.2) ar true 85)):=fun j o hj ho=>by
   have:=cD ho
   rw[aD om]
   exact ag hp5' (hAk j o hj ho)
  have hx6:(h5'.set id (.aA ((d.boxes.zip (W.set k (.slice pr d.boxes[k].bG.length cr))).flatMap fun p=>IS p.1 p.2) ar true 85))[h.length]? = some (.aA (kZ d (.slice qP d.aa.length cP) (.slice qC d.au.length cC) (.slice qF d.follows.length cF) (.slice qR d.al.length cR) (.slice (some ⟨id,0,some ar⟩) d.boxes.length d.boxes.length)) 0 true 28):=by rw[aD om];exact hx5
  unfold kZ at hx hx5
  refine aG e3 ?_
  refine ae rfl ?_
  refine aC ?_
  refine aB [(1,.val (.pointer (some ⟨h.length,0,some 0⟩))),(2,.box ZD),(8,.val (i64 k)),(78,.val (i64 d.boxes.length)),(79,.val (i64 k))] aK ?_
  show CW _ _ ⟨_,[],hk⟩ _
  apply bm (L:=[[],[0],[],[],[3],[],[4,5],[6],[7],[8],[1,2],[10],[0,1,2,3,4,5,6,7,8,9,11]]) (act:=[9,12]) (hs:=[h5',h5'.set id (.aA ((d.boxes.zip (W.set k (.slice pr d.boxes[k].bG.length cr))).flatMap fun p=>IS p.1 p.2) ar true 85)]) (resL:=[_,_,_,_,_,_,_,_,_,_,_,_,_]) (frF:=[(1,.val (.pointer (some ⟨h.length,0,some 0⟩))),(2,.box ZD),(78,.val (i64 d.boxes.length)),(79,.val (i64 k))])
  case hm=>exact mixed
  case hc=>kernel_rfl
  case ha=>rfl
  case hb=>rfl
  case hS=>
   refine OH hx hx5 e1 ho hg3 ?_
   apply ay.cons
   ·rfl
   ·refine⟨?_,trivial⟩
    exact dL (args:=[.slice pu d.boxes[k].bG.length cu]) (cap:=[]) (fn:=Tryz.f89) ak rfl ak ak Tryz.func89 kr kr hcall
   ·rfl
   refine OH hx hx5 e1 ho hg3 ?_
   apply ay.cons
   ·rfl
   ·refine⟨?_,trivial⟩
    exact One.jP (r:=.sl .dH) ak rfl ak ak ho5 ak rfl (oA (f:=IS) (k:=2) (o:=1) (fun _ _=>rfl) (by decide) (fun _ _ _=>rfl) I.n hlt) rfl
   ·rfl
   exact ay.nil _
  case ht=>rfl
  case hF=>exact zh
  show CW _ _ _ _
  refine aG e2 ?_
  exact⟨hlt,(_,_),aK,rfl,I',hA',hx6⟩
 ·have e3:=aP hlt
  obtain rfl:k=d.boxes.length:=by omega
  refine aG e3 ?_
  refine af rfl ?_
  refine az ?_
  exact⟨rfl,hk,I.p,hAk,hx,(I.fin (c:=d.boxes.length) hbB).low om,rfl,aK⟩
rintro e s' ⟨rfl,hk,hpk,hAk,hxk,hFB,hh,hf⟩
show CW _ _ _ _
refine aB _ hf ?_
rw[hh]
clear hf hh s'
unfold kZ at hxk
refine aG hxk ?_
refine ai ?_
refine⟨_,ak,hpk,.slice qP d.aa.length cP,.slice qC d.au.length cC,.slice qF d.follows.length cF,.slice qR d.al.length cR,.slice qB d.boxes.length cB,?_,?_⟩
·rfl
·refine Fr.low (m:=h.length+1) (fun x e=>⟨(hFP9.mono hAk) x e,(hFC9.mono hAk) x e,(hFF9.mono hAk) x e,(hFR9.mono hAk) x e,hFB x e⟩) om}
end
abbrev aT.val (s:aT):Value:=.agg #[i64 s.nt,u64 s.set.a,u64 s.set.b,u64 s.set.c,u64 s.set.d]
section
variable {h:ah}
theorem uI {s:Sym}:FW env 92 [s.val] h fun r h'=>r = .bool (fV s)∧h'=h:=by{
refine fe Tryz.func92 ?_;simp only[push_cast]
by_cases q:s.kind=5
·have d1:=decide_eq_true q
 refine aG d1 ?_
 refine ai ?_
 exact⟨_,ak,by unfold fV;rw[d1];rfl,rfl⟩
·have d1:=decide_eq_false q
 refine aG d1 ?_
 refine ai ?_
 exact⟨_,ak,by unfold fV;rw[d1];rfl,rfl⟩}
theorem y8 {p:Prod} {u:Value} {s:Sym} (hy:fR h u p.aj):FW env 93 [p.val u,s.val] h fun r h'=>r=(ik p.lex s).val∧h'=h:=by{
obtain⟨ps,cs,rfl⟩:=bT.form hy
refine fe Tryz.func93 ?_;simp only[push_cast]
refine aC ?_
refine ai ?_
exact⟨_,ak,rfl,rfl⟩}
theorem my {n:Int}:FW env 99 [i64 n] h fun r h'=>r=(dy n).val∧h'=h:=by{
refine fe Tryz.func99 ?_;simp only[push_cast]
refine aC ?_
refine ai ?_
exact⟨_,ak,rfl,rfl⟩}
theorem EF {p:Prod} {u:Value} (hy:fR h u p.aj) (ho:g7 p.aj≤4):FW env 95 [p.val u] h fun r h'=>r=i64 (k8 p:Int)∧h'=h:=by{
obtain⟨ps,cs,rfl⟩:=bT.form hy
have hle:p.aj.length*88≤140737488355328:=hy.1
have hl:p.aj.length≤140737488355328:=by omega
have z0:(2:Int) ^ g7 []=1:=rfl
refine fe Tryz.func95 ?_;simp only[push_cast]
refine aC ?_
refine cO p.aj.length (fun k=>[(3,.val (i64 ((2:Int) ^ g7 (p.aj.take k)))),(7,.val (.slice ps p.aj.length cs)),(8,.val (i64 p.aj.length)),(9,.val (i64 k))]) (fun _=>h) (fun _=>True) (lH z0) rfl trivial ?_
intro k hkn _
by_cases hlt:k<p.aj.length
·obtain⟨id,ar,own,c',hv,hid⟩:=bT.at hy om
 cases hv
 have hg:=ig hlt
 have e1:=cg hlt
 have e2:=inc hlt hl
 have e3:=aS hlt
 have s2:g7 (p.aj.take (k+1))=g7 (p.aj.take k)+(if dG p.aj[k]=true then 1 else 0):=gK hlt
 have b2:g7 (p.aj.take (k+1))≤g7 p.aj:=jC
 refine aG e3 ?_
 refine ae rfl ?_
 have tl:dG p.aj[k]=(decide (p.aj[k].kind=4)||decide (p.aj[k].kind=5)):=rfl
 cases hL:dG p.aj[k] with
 | true=>
   rw[if_pos hL] at s2
   have w0:IntKind.i64.wrap ((2:Int) ^ g7 (p.aj.take k)*2)=(2:Int) ^ g7 (p.aj.take (k+1)):=by
    rw[s2,Int.pow_succ]
    generalize ho2:g7 (p.aj.take k)=o at *
    have:o=0∨o=1∨o=2∨o=3:=by omega
    rcases this with rfl|rfl|rfl|rfl<;>decide
   by_cases q1:p.aj[k].kind=4
   ·have d1:=decide_eq_true q1
    refine fi e1 hid hg d1 ?_
    refine ae rfl ?_
    refine fh w0 e2 ?_
    exact⟨hlt,aK,rfl,trivial⟩
   ·have d1:=decide_eq_false q1
    have d2:decide (p.aj[k].kind=5)=true:=by rw[hL,d1,Bool.false_or] at tl;exact tl.symm
    refine kL e1 hid hg d1 d2 ?_
    refine ae rfl ?_
    refine fh w0 e2 ?_
    exact⟨hlt,aK,rfl,trivial⟩
 | false=>
   rw[if_neg (by rw[hL];decide),Nat.add_zero] at s2
   rw[hL] at tl
   have d1:decide (p.aj[k].kind=4)=false:=by cases e:decide (p.aj[k].kind=4)<;>simp [e] at tl ⊢
   have d2:decide (p.aj[k].kind=5)=false:=by rw[d1,Bool.false_or] at tl;exact tl.symm
   refine kL e1 hid hg d1 d2 ?_
   refine af rfl ?_
   refine aG e2 ?_
   exact⟨hlt,(lH s2),rfl,trivial⟩
·have e3:=aP hlt
 obtain rfl:k=p.aj.length:=by omega
 refine aG e3 ?_
 refine af rfl ?_
 refine az ?_
 show CW _ _ _ _
 refine aC ?_
 refine ai ?_
 refine⟨_,ak,?_,rfl⟩
 rw[List.take_length]
 unfold k8
 rw[Int.natCast_pow]
 rfl}
theorem Tl {v:Value} {x:Nat} (hs:bT h v 1 [.int .u8 (x:Int)] 5 1) (hx:x<256):FW env 142 [v] h fun r h'=>r=(lT x).val∧h'=h:=by{
obtain⟨id,ar,own,c,rfl,hid⟩:=hs.at (by decide)
refine fe Tryz.func142 ?_;simp only[push_cast]
obtain⟨n,hn⟩:∃ n:Nat,n=1:=⟨1,rfl⟩
refine aC ?_
refine cO n (fun k=>[(2,.box [u64 0,u64 0,u64 0,u64 0]),(3,.box (if k=0 then [u64 0,u64 0,u64 0,u64 0] else [u64 (lT x).a,u64 (lT x).b,u64 (lT x).c,u64 (lT x).d])),(6,.val (.slice (some ⟨id,0,some ar⟩) n c)),(7,.val (i64 n)),(8,.val (i64 k))]) (fun _=>h) (fun _=>True) (by rw[hn];exact (by simp only[push_cast,Nat.reduceEqDiff,reduceIte,Int.reduceAdd])) rfl trivial ?_
intro k hkn _
by_cases hlt:k<n
·obtain rfl:k=0:=by omega
 have e1:((0:Int)≤0∧(0:Int)<(n:Int))=True:=eq_true om
 have e1':((0:Int)<(n:Int))=True:=eq_true om
 have e3:decide ((0:Int)<(n:Int))=true:=decide_eq_true om
 refine aG e3 ?_
 refine ae rfl ?_
 repeat (first|apply zs|apply zr|apply zn|((first|apply zx|apply zy);·simp only[push_cast,env,Nat.reduceEqDiff,reduceIte,Nat.reduceAdd,Nat.reduceMul,Nat.reduceLeDiff,reduceCtorEq,Nat.reduceSub,Int.reduceToNat,e1,e1',hid,Nat.mul_one,List.getElem?_cons_zero]<;>first|exact rfl|exact .inl rfl|exact .inr rfl) | apply zq|apply zb|apply zo|apply zk|apply zl)
 obtain⟨m,hm⟩:∃ m,m=x % 64:=⟨_,rfl⟩
 have hm64:m<64:=by omega
 have hmod:(x:Int).tmod 64=(m:Int):=by rw[Int.tmod_eq_emod_of_nonneg om];omega
 have hw4:∀ m:Fin 64,IntKind.u64.wrap ((BitVec.ofInt IntKind.u64.bits 0 ||| BitVec.ofInt IntKind.u64.bits (IntKind.u64.wrap (1*2 ^ min (m.1:Int).toNat IntKind.u64.bits))).toNat:Int)=(2:Int) ^ m.1:=by decide
 have hw4:=hw4 ⟨m,hm64⟩
 simp only[Int.toNat_natCast] at hw4
 have hw5:IntKind.i64.wrap 1=1:=by decide
 rcases (by omega:x / 64=0∨x / 64=1∨x / 64=2∨x / 64=3) with hq|hq|hq|hq
 ·have hw1:IntKind.u8.wrap ((x:Int).tdiv 64)=0:=by rw[Int.tdiv_eq_ediv_of_nonneg om,IntKind.wrap_u8];omega
  have hb:lT x=⟨2 ^ m,0,0,0⟩:=by unfold lT;rw[hq,hm];simp
  refine aG hw1 ?_
  refine⟨hlt,?_,rfl,trivial⟩
  show bA [_,(3,.box (if 0+1=0 then _ else _)),_,_,_] _
  rw[if_neg (by decide),hb]
  exact (by simp only[push_cast,Nat.reduceEqDiff,reduceIte,hmod,hw4,hw5,Int.reduceAdd])
 ·have hw1:IntKind.u8.wrap ((x:Int).tdiv 64)=1:=by rw[Int.tdiv_eq_ediv_of_nonneg om,IntKind.wrap_u8];omega
  have hb:lT x=⟨0,2 ^ m,0,0⟩:=by unfold lT;rw[hq,hm];simp
  refine aG hw1 ?_
  refine⟨hlt,?_,rfl,trivial⟩
  show bA [_,(3,.box (if 0+1=0 then _ else _)),_,_,_] _
  rw[if_neg (by decide),hb]
  exact (by simp only[push_cast,Nat.reduceEqDiff,reduceIte,hmod,hw4,hw5,Int.reduceAdd])
 ·have hw1:IntKind.u8.wrap ((x:Int).tdiv 64)=2:=by rw[Int.tdiv_eq_ediv_of_nonneg om,IntKind.wrap_u8];omega
  have hb:lT x=⟨0,0,2 ^ m,0⟩:=by unfold lT;rw[hq,hm];simp
  refine aG hw1 ?_
  refine⟨hlt,?_,rfl,trivial⟩
  show bA [_,(3,.box (if 0+1=0 then _ else _)),_,_,_] _
  rw[if_neg (by decide),hb]
  exact (by simp only[push_cast,Nat.reduceEqDiff,reduceIte,hmod,hw4,hw5,Int.reduceAdd])
 ·have hw1:IntKind.u8.wrap ((x:Int).tdiv 64)=3:=by rw[Int.tdiv_eq_ediv_of_nonneg om,IntKind.wrap_u8];omega
  have hb:lT x=⟨0,0,0,2 ^ m⟩:=by unfold lT;rw[hq,hm];simp
  refine aG hw1 ?_
  refine⟨hlt,?_,rfl,trivial⟩
  show bA [_,(3,.box (if 0+1=0 then _ else _)),_,_,_] _
  rw[if_neg (by decide),hb]
  exact (by simp only[push_cast,Nat.reduceEqDiff,reduceIte,hmod,hw4,hw5,Int.reduceAdd])
·have e3:=aP hlt
 obtain rfl:k=n:=by omega
 have k0:(k=0)=False:=by simp;omega
 refine aG e3 ?_
 refine af rfl ?_
 refine az ?_
 show CW _ _ _ _
 rw[if_neg om]
 refine aC ?_
 refine ai ?_
 exact⟨_,ak,rfl,rfl⟩}
def ug (t:ByteArray) (k:Nat):List aT:=(List.range k).map fun i=>⟨-1,lT (bn t i)⟩
theorem CZ {t:ByteArray} {k:Nat}:ug t (k+1)=ug t k++[⟨-1,lT (bn t k)⟩]:=by{
unfold ug
rw[List.range_succ,List.map_append]
rfl}
theorem yp {t:ByteArray} {k:Nat}:(ug t k).length=k:=by simp [ug]
theorem jT {l:List aT}:(l.flatMap aT.cells).length=l.length*5:=dN (f:=aT.cells) (k:=5) (fun _=>rfl) l
theorem FN {t:ByteArray} (ht:t.size≤1000000):FW env 101 [.string t] h fun r h'=>h <+: h'∧aL h h' r (iX t).length ((iX t).flatMap aT.cells) 65:=by{
have z0:ug t 0=[]:=rfl
refine fe Tryz.func101 ?_;simp only[push_cast]
refine aC ?_
refine aZ t.size (fun k (x:ah×Option Addr×Nat)=>[(0,.val (.string t)),(3,.val (.slice x.2.1 k x.2.2)),(6,.val (i64 t.size)),(7,.val (i64 k))]) (fun _ x=>x.1)
 (fun k x=>h <+: x.1∧aL h x.1 (.slice x.2.1 k x.2.2) k ((ug t k).flatMap aT.cells) 65) (h,none,0) aK rfl ⟨List.prefix_refl _,aL.nil⟩ ?_
rintro k ⟨hk,q,cq⟩ hkn ⟨hp,hG⟩
simp only at hp hG ⊢
by_cases hlt:k<t.size
·have e1:=cg hlt
 have e2:=inc hlt om
 have e3:=aS hlt
 obtain⟨c,hc,hcn⟩:=vQ hlt
 have hcl:bn t k<256:=hcn▸c.toNat_lt
 refine aG e3 ?_
 refine ae rfl ?_
 refine zu ?_
 iterate 2 (refine zx tP ?_)
 refine zu ?_
 iterate 4 (refine zx (Rv e1 hc hcn) ?_)
 refine df (t:=5) (cs:=[.int .u8 (bn t k:Int)]) (n:=1) ak ak ?_
 dsimp only[St.a9,St.put]
 have hp2:hk <+: hk++[av.aA [.int .u8 (bn t k:Int)] 0 true 5]:=aH
 have hb2:bT (hk++[av.aA [.int .u8 (bn t k:Int)] 0 true 5]) (.slice (some ⟨hk.length,0,some 0⟩) 1 1) 1 [.int .u8 (bn t k:Int)] 5 1:=⟨by decide,.inr ⟨hk.length,0,true,1,rfl,aJ⟩⟩
 have hG2:aL h (hk++[av.aA [.int .u8 (bn t k:Int)] 0 true 5]) (.slice q k cq) k ((ug t k).flatMap aT.cells) 65:=hG.mono fun j o _ ho=>bg ho
 generalize (hk++[av.aA [.int .u8 (bn t k:Int)] 0 true 5])=h2 at hp2 hb2 hG2 ⊢
 generalize hk.length=i2 at hb2 ⊢
 refine aC ?_
 refine zj Tryz.func142 ?_
 refine (Tl hb2 hcl).mono ?_
 rintro _ h3 ⟨rfl,e7⟩
 obtain rfl:=e7.symm
 refine aC ?_
 refine mn (t:=61) (cs:=aT.cells ⟨-1,lT (bn t k)⟩) ak rfl kr zp (by decide) rfl ak rfl hG2 (hp.trans hp2) (by rw[jT,yp]) rfl (by simp only;omega) om ?_
 intro p' c' h' k1 k2 _ _
 refine aG e2 ?_
 refine⟨hlt,(h',p',c'),aK,rfl,k2,?_⟩
 rw[CZ,List.flatMap_append,List.flatMap_singleton]
 exact k1
·have e3:=aP hlt
 obtain rfl:k=t.size:=by omega
 refine aG e3 ?_
 refine af rfl ?_
 refine az ?_
 show CW _ _ _ _
 refine aC ?_
 refine ai ?_
 refine⟨_,ak,hp,?_⟩
 show aL _ _ _ (ug t t.size).length ((ug t t.size).flatMap aT.cells) _
 rw[yp]
 exact hG}
end
def tN (ts:List TypeId):av→Bool
 | .aA _ _ true et=>!(ts.any fun t=>decide (t=et))
 | _=>true
def cj (ts:List TypeId) (a b:ah):Prop:=∀ (j:Nat) (o:av),a[j]? = some o→tN ts o=true→b[j]? = some o
section
variable {ts ts':List TypeId} {a b c h0 hk h':ah}
theorem cj.refl:cj ts a a:=fun _ _ k _=>k
theorem cj.trans (k1:cj ts a b) (k2:cj ts b c):cj ts a c:=fun j o e q=>k2 j o (k1 j o e q) q
theorem cj.pre (k:a <+: b):cj ts a b:=fun j o e _=>ag k e
theorem cj.low (k:cj ts a b) (h:∀ t∈ts,t∈ts'):cj ts' a b:=fun j o e q=>k j o e (by
 cases o with
 | aA cells ar own et=>
   cases own with
   | false=>rfl
   | true=>
     simp only[tN,Bool.not_eq_true',List.any_eq_false,decide_eq_true_eq] at q ⊢
     exact fun t ht=>q t (h t ht)
 | _=>rfl)
theorem dR {cells:List Value} {ar:Nat} {own:Bool} {et:TypeId} (h:et∉ts):tN ts (.aA cells ar own et)=true:=by{
cases own with
| false=>rfl
| true=>
  simp only[tN,Bool.not_eq_true',List.any_eq_false,decide_eq_true_eq]
  exact fun t ht e=>h (e▸ht)}
theorem aL.eD {v:Value} {n:Nat} {cells:List Value} {et:TypeId} (G:aL h0 a v n cells et) (k:cj ts a b) (h:et∉ts):aL h0 b v n cells et:=by{
rcases G with G|⟨id,ar,h1,h2,h3⟩
·exact .inl G
·exact .inr ⟨id,ar,h1,h2,k _ _ h3 (dR h)⟩}
theorem cj.push {v:Value} {n:Nat} {cells:List Value} {et:TypeId} (G:aL h0 a v n cells et) (k:∀ j o,bB v j=false→a[j]? = some o→b[j]? = some o):cj [et] a b:=fun j o e q=>k j o (by
 cases hb:bB v j with
 | false=>rfl
 | true=>
   obtain⟨ar,h5⟩:=G.obj hb
   rw[e] at h5
   cases h5
   simp [tN] at q) e
theorem cj.set {i ar:Nat} {cells:List Value} {et:TypeId} {x:av} (h:a[i]? = some (.aA cells ar true et)):cj [et] a (a.set i x):=fun j o e q=>by
 by_cases hij:i=j
 ·subst hij
  rw[h] at e
  cases e
  simp [tN] at q
 ·rw[aD hij];exact e
def gS {α:Type} (f:α→Value→List Value) (g:α→List Value) (w:Nat) (et et2:TypeId) (h0 hk:ah) (v:Value) (l:List α):Prop:=
 ∃ us:List Value,us.length=l.length∧aL h0 hk v l.length ((l.zip us).flatMap fun p=>f p.1 p.2) et∧∀ (i:Nat) (x:α) (u:Value),l[i]? = some x→us[i]? = some u→∃ n,(g x).length=n*w∧aL h0 hk u n (g x) et2
variable {α:Type} {f:α→Value→List Value} {g:α→List Value} {w:Nat} {et et2:TypeId} {v:Value} {l:List α}
theorem gS.nil:gS f g w et et2 h0 hk bX []:=⟨[],rfl,aL.nil,fun i x u h=>by simp at h⟩
theorem gS.form (k:gS f g w et et2 h0 hk v l):∃ p c,v = .slice p l.length c:=by obtain⟨_,_,G,_⟩:=k;exact G.form
theorem gS.eD (k:gS f g w et et2 h0 a v l) (hk:cj ts a b) (h1:et∉ts) (h2:et2∉ts):gS f g w et et2 h0 b v l:=by{
obtain⟨us,hl,G,hu⟩:=k
refine⟨us,hl,G.eD hk h1,fun i x u k1 k2=>?_⟩
obtain⟨n,e,g'⟩:=hu i x u k1 k2
exact⟨n,e,g'.eD hk h2⟩}
end
abbrev VC:ch→Value→List Value:=fun r u=>[i64 r.lhs,u]
abbrev UR:ch→List Value:=fun r=>r.rhs.flatMap aT.cells
abbrev VF:gO→Value→List Value:=fun o u=>[i64 o.kind,i64 o.prod,i64 o.mask,u]
abbrev Tn:gO→List Value:=fun o=>o.aj.map i64
def tu:=gS VC UR 5 63 65
def AT:=gS VF Tn 1 67 3
structure MK where
 start:ByteArray
 layout:ByteArray
 vP:Value
 vC:Value
 OE:Value
 OO:Value
 vB:Value
 cK:Int
 st:Int
 vr:Value
 vf:Value
 vn:Value
 vb:Value
 vF:Value
 vR:Value
 is:Nat
 il:Nat
 vo:Value
 lI:Int
def MK.cells (m:MK):List Value:=[.string m.start,.string m.layout,m.vP,m.vC,m.OE,m.OO,m.vB,i64 m.cK,i64 m.st,m.vr,m.vf,m.vn,m.vb,m.vF,m.vR,.map (some m.is),.map (some m.il),m.vo,i64 m.lI]
structure MR (h0 hk:ah) (im:Nat) (m:MK) (l:List (ch×gO)):Prop where
 p:h0 <+: hk
 lm:h0.length≤im
 o:hk[im]? = some (.aA m.cells 0 true 94)
 r:tu h0 hk m.vr (l.map (·.1))
 f:AT h0 hk m.vf (l.map (·.2))
abbrev J5:List TypeId:=[63,67,94]
section
variable {h0 hk:ah} {im:Nat} {m:MK} {l:List (ch×gO)}
theorem D5 {α β:Type} {l:List α} {W:List β} (h:W.length=l.length) {x:α} {u:β}:(l++[x]).zip (W++[u])=l.zip W++[(x,u)]:=by
 rw[List.zip_append h.symm]
 rfl
theorem gS.push {α:Type} {f:α→Value→List Value} {g:α→List Value} {w:Nat} {et et2:TypeId} {h0 a b:ah} {v' u:Value} {l:List α} {x:α} {us:List Value} {n:Nat} (hl:us.length=l.length) (hu:∀ (i:Nat) (x:α) (u:Value),l[i]? = some x→us[i]? = some u→∃ n,(g x).length=n*w∧aL h0 a u n (g x) et2) (hk:cj [et] a b) (hne:et2≠et) (hG:aL h0 b v' (l.length+1) (((l.zip us).flatMap fun p=>f p.1 p.2)++f x u) et) (hn:(g x).length=n*w) (hx:aL h0 a u n (g x) et2):gS f g w et et2 h0 b v' (l++[x]):=by{
have hnm:et2∉[et]:=by simpa using hne
refine⟨us++[u],by simp [hl],?_,fun i y z k1 k2=>?_⟩
·rw[D5 hl,List.flatMap_append,List.flatMap_singleton,List.length_append]
 exact hG
·rcases Nat.lt_trichotomy i l.length with h|h|h
 ·rw[List.getElem?_append_left h] at k1
  rw[List.getElem?_append_left om] at k2
  obtain⟨n',e,g'⟩:=hu i y z k1 k2
  exact⟨n',e,g'.eD hk hnm⟩
 ·subst h
  rw[List.getElem?_append_right (Nat.le_refl _),Nat.sub_self] at k1
  rw[List.getElem?_append_right om,hl,Nat.sub_self] at k2
  cases k1
  cases k2
  exact⟨n,hn,hx.eD hk hnm⟩
 ·have:=(List.getElem?_eq_some_iff.1 k1).1
  simp at this
  omega}
end
end Go.Proofs.YtmdmimkbpikmoaaGreat
