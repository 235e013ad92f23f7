/- Several texts, one behind the other. -/
import Derived.Test.YtmdmimkbpikmoaaGreatZG5
import Derived.Test.YtmdmimkbpikmoaaGreatZFa
import Derived.Test.YtmdmimkbpikmoaaGreatZTy
namespace Go.Proofs.YtmdmimkbpikmoaaGreat
set_option linter.unusedSimpArgs false
set_option linter.unusedVariables false
set_option maxRecDepth 20000
open Go.RowKit Am Ty
structure RS where
 hk:Heap
 es:List (ByteArray×Int)
 l:List ByteArray
 ver:Nat
 junk:List Value
structure RSI (h:Heap) (im it:Nat) (x:RS):Prop where
 p:h <+: x.hk
 m:x.hk[im]? = some (.map (smE x.es))
 t:x.hk[it]? = some (.arr (x.l.map .string++x.junk) x.ver true 9)
theorem RSI.ext {h h':Heap} {im it:Nat} {x:RS} (R:RSI h im it x) (hp:x.hk <+: h'):RSI h im it ⟨h',x.es,x.l,x.ver,x.junk⟩:=⟨R.p.trans hp,Qc hp R.m,Qc hp R.t⟩
def smes (U:List ByteArray) (x:RS):Nat:=2*Qgn U x.es+x.l.length
theorem Ql1 {all:Array Oper} {o:Oper} {r:List Oper} {s:St} {K:St→Prop} {x:Operand} {t y:Nat} {e:TypeId} {ti:TI} {cs cells junk:List Value} {n c id ver:Nat} (hw:Ql all o s=some true)
 (ho:o.op = .call { callee:=.builtin .append,args:=#[x,.tmp y],argTypes:=#[t,t] }) (hu:env.P.underlying t=some (.slice e)) (ht:Qf env.P e=some ti) (hs0:0<ti.size) (hz:(ti.zero.map fun z=>z.cells.size)=some ti.size)
 (hx:ev s x=some (.slice (some ⟨id,0,some ver⟩) n c)) (hid:s.h[id]? = some (.arr (cells++junk) ver true e)) (hl:cells.length=n*ti.size) (hy:fget s.fr y = .bsl cs 1) (hc:cs.length=ti.size) (hb:(n+1)*ti.bytes≤140737488355328) (hn:n+1≤140737488355328)
 (k:OW env all r ({ s with h:=s.h.set id (HObj.arr (cells++cs) (ver+1) true e) }.putO o.dst (.val (.slice (some ⟨id,0,some (ver+1)⟩) (n+1) (n+1)))) K):OW env all (o :: r) s K:=by
 have hi:Xz s s.h ti.size (.tmp y)=some (cs,1):=by simp only[Xz,hy,hc,Nat.one_mul,if_true]
 refine Qfu hw ho hu ht hs0 hz hx hid (by rw[List.length_append];omega) hi hb hn ?_
 rw[← hl,List.take_left']
 ·exact k
 ·rfl
section
variable {h:Heap} {r:Value} {d:Def}
set_option maxHeartbeats 16000000 in
theorem Qje {g:FuncId} {fn:Func} {st:Prod→List ByteArray} {a:ByteArray} (hk:Bk h r d) (hf:env.P.funcs[g]? = some fn) (hnm:(fn.name == "runtime.NumGoroutine")=false) (hbd:fn.body.isNone=false) (hU:(d.prods.flatMap st).length≤100000)
 (hP:∀ p∈d.prods,∀ u h1,h <+: h1→RdYs h1 u p.syms→FW env g [p.val u] h1 fun x h'=>h1 <+: h'∧Grow h1 h' x (st p).length ((st p).map .string) 9) :
 FW env 135 [r,.string a,.func (.func g) #[] #[]] h fun x h'=>h <+: h'∧∃ im es,x = .map (some im)∧h.length≤im∧h'[im]? = some (.map (smE es))∧RI d.prods st a es []:=by
 have hk0:=hk
 obtain⟨h0,ib,im,sv,up,uc,uf,ur,ub,rfl,hd,K⟩:=hk
 have hd:=hd.mono K.p
 obtain⟨p1,c1,rfl⟩:=RdL.form hd.prods
 obtain⟨p2,c2,rfl⟩:=RdL.form hd.chains
 obtain⟨p3,c3,rfl⟩:=SlR.form hd.follows
 obtain⟨p4,c4,rfl⟩:=SlR.form hd.rejects
 obtain⟨p5,c5,rfl⟩:=RdL.form hd.boxes
 have l1:d.prods.length≤140737488355328:=by have:=RdL.le hd.prods;omega
 have l2:d.chains.length≤140737488355328:=by have:=RdL.le hd.chains;omega
 have l3:d.follows.length≤140737488355328:=by have:=hd.follows.1;omega
 have l4:d.rejects.length≤140737488355328:=by have:=hd.rejects.1;omega
 have l5:d.boxes.length≤140737488355328:=by have:=RdL.le hd.boxes;omega
 obtain⟨es,hm,hes⟩:=K.m
 have hb:=K.b
 unfold Def.val at hb
 simp only[List.cons_append,List.nil_append] at hb
 have hkk:=Xh es
 have hss:RdNames h sv (Qm d.prods):=K.s.sl (b:=16) (by have:=Xw (ps:=d.prods);have:=RdL.le hd.prods;omega)
 obtain⟨pq,cq,rfl⟩:=hss.form
 obtain⟨U,hUe⟩:∃ U,U=d.prods.flatMap st:=⟨_,rfl⟩
 rw[← hUe] at hU
 have hUm:∀ p∈d.prods,∀ n∈st p,n∈U:=fun p hp n hn=>by rw[hUe];exact List.mem_flatMap.2 ⟨p,hp,hn⟩
 have hUl:∀ p∈d.prods,(st p).length≤100000:=fun p hp=>by
  refine Nat.le_trans ?_ hU
  rw[hUe,List.length_flatMap]
  exact Qh0 (f:=fun p=>(st p).length) hp
 refine fe Tryz.func135 ?_;simp only[push_cast]
 refine zu ?_
 iterate 1 (apply Zp;·simp only[push_cast,env,Nat.reduceEqDiff,reduceIte,Nat.reduceAdd,Nat.reduceMul,Nat.reduceLeDiff,reduceCtorEq,Nat.reduceSub,Int.reduceToNat]<;>exact rfl)
 refine zu ?_
 refine Qcv (kt:=9) (et:=3) zf0 rfl kr ?_
 iterate 1 (apply Zp;·simp only[push_cast,env,Nat.reduceEqDiff,reduceIte,Nat.reduceAdd,Nat.reduceMul,Nat.reduceLeDiff,reduceCtorEq,Nat.reduceSub,Int.reduceToNat]<;>exact rfl)
 refine zu ?_
 iterate 1 (apply Zp;·simp only[push_cast,env,Nat.reduceEqDiff,reduceIte,Nat.reduceAdd,Nat.reduceMul,Nat.reduceLeDiff,reduceCtorEq,Nat.reduceSub,Int.reduceToNat]<;>exact rfl)
 refine Yi (t:=9) (cs:=[.string a]) (n:=1) zf0 zf0 ?_
 refine zw0 ?_
 have hlen:(h++[HObj.map []]).length=h.length+1:=by simp
 rw[hlen]
 have h0I:RSI h h.length (h.length+1) ⟨h++[HObj.map []]++[HObj.arr [.string a] 0 true 9],[],[a],0,[]⟩:=
  ⟨Yl (Yl (List.prefix_refl _)),Xg Qp,by rw[← hlen];exact Qp⟩
 generalize (h++[HObj.map []]++[HObj.arr [.string a] 0 true 9])=h2 at h0I ⊢
 obtain⟨im,him⟩:∃ im,im=h.length:=⟨_,rfl⟩
 rw[← him] at h0I hlen ⊢
 refine Jh (smes U) (fun x=>[(0,.val (.pointer (some ⟨ib,0,some 0⟩))),(2,.val (.func (.func g) #[] #[])),(7,.val (.map (some im))),(8,.val (.slice (some ⟨im+1,0,some x.ver⟩) x.l.length x.l.length))]) (fun x=>x.hk)
  (fun x=>RSI h im (im+1) x∧RI d.prods st a x.es x.l∧smes U x≤2*U.length+1) ⟨h2,[],[a],0,[]⟩ zg0 rfl ⟨h0I,.start,?_⟩ ?_
 ·have:=Qvu (U:=U) (es:=[])
  simp only[smes,List.length_singleton]
  omega
 rintro⟨hk,es,l,ver0,junk⟩ ⟨hS,hI,hM⟩
 simp only at hI hM ⊢
 rcases List.eq_nil_or_concat l with rfl|⟨l,x,hc⟩
 ·refine zw0 ?_
  refine Qa rfl ?_
  refine Qj ?_
  show CW _ _ _ _
  refine zw0 ?_
  refine Qd ?_
  exact⟨_,zf0,hS.p,im,es,rfl,by omega,hS.m,hI⟩
 rw[List.concat_eq_append] at hc
 subst hc
 have hL:l.length+1≤2*U.length+1:=by simp only[smes,List.length_append,List.length_singleton] at hM;omega
 have f1:(l++[x]).length=l.length+1:=by simp
 have d1:decide (0<(l.length:Int)+1)=true:=decide_eq_true om
 have d2:IntKind.i64.wrap ((l.length:Int)+1-1)=l.length:=by rw[Int.add_sub_cancel];exact Qg om om
 have d3:(0≤(l.length:Int)∧(l.length:Int)<(l.length:Int)+1)=True:=by simp;omega
 have d4:((l++[x]).map Value.string++junk)[l.length]? = some (.string x):=by simp
 have d5:(0≤(l.length:Int)∧(l.length:Int)≤(l.length:Int)+1)=True:=by simp;omega
 have ht:=hS.t
 simp only at ht
 have hb1:=Qc hS.p hb
 simp only at hb1
 refine zw2 f1 d1 ?_
 refine Qb rfl ?_
 repeat (first|apply zs|apply zr|apply zn|((first|apply zx|apply zy);·simp only[push_cast,env,Nat.reduceEqDiff,reduceIte,Nat.reduceAdd,Nat.reduceMul,Nat.reduceLeDiff,reduceCtorEq,Nat.reduceSub,Int.reduceToNat,f1,d2,d3,ht,Nat.mul_one,d4,d5,Nat.zero_mul,Int.sub_zero,hb1]<;>first|exact rfl|exact .inl rfl|exact .inr rfl) | apply zq|apply zb|apply zo|apply zk|apply zl)
 refine Qy d.prods.length (fun k (y:RS)=>[(0,.val (.pointer (some ⟨ib,0,some 0⟩))),(2,.val (.func (.func g) #[] #[])),(7,.val (.map (some im))),(8,.val (.slice (some ⟨im+1,0,some y.ver⟩) y.l.length y.l.length)),(9,.val (.string x)),(35,.val (.slice p1 d.prods.length c1)),(36,.val (i64 d.prods.length)),(37,.val (i64 k))]) (fun _ y=>y.hk)
  (fun k y=>RSI h im (im+1) y∧RM d.prods st a x y.es y.l k∧smes U y+1≤smes U ⟨hk,es,l++[x],ver0,junk⟩) ⟨hk,es,l,ver0,.string x :: junk⟩ zg0 rfl ⟨⟨hS.p,hS.m,?_⟩,hI.pop,?_⟩ ?_
 ·simp only
  rw[ht]
  simp
 ·simp [smes]
  omega
 rintro k ⟨hk2,es2,l2,ver2,junk2⟩ hkn ⟨hS2,hI2,hM2⟩
 simp only at hI2 hM2 ⊢
 by_cases hlt:k<d.prods.length
 ·obtain⟨id,ver,own,c',cells,u,hv,hid,hrd,hu⟩:=RdL.at (k:=5) (fun _ _=>rfl) (hd.prods.mono hS2.p) hlt
  cases hv
  have hmem:=List.getElem_mem hlt
  have hPk:=hP _ hmem u hk2 hS2.p hu
  have hYl:=hUl _ hmem
  obtain⟨ps,cs,rfl⟩:=SlR.form hu
  have w1:=rng hlt
  have w2:=inc hlt l1
  have q3:=Qv hlt
  refine zw1 q3 ?_
  refine Qb rfl ?_
  simp only at hid
  by_cases b1:d.prods[k].sort=x
  ·have db:=decide_eq_true b1
   refine zw4 w1 hid hrd db ?_
   refine Qa rfl ?_
   refine zw0 ?_
   refine zc (f:=g) (cap:=[]) (args:=[d.prods[k].val (.slice ps d.prods[k].syms.length cs)]) (fn:=fn) zf0 hf hnm hbd ?_
   rw[List.append_nil]
   refine hPk.mono ?_
   rintro w h3 ⟨hp3,hG3⟩
   have hi1:=Yn hS2.m
   have hi2:=Yn hS2.t
   simp only at hi1 hi2
   obtain⟨pw,cw',rfl⟩:=hG3.form
   have hS3:=hS2.ext hp3
   simp only at hS3
   refine zw0 ?_
   refine Qy (st d.prods[k]).length (fun j (y:RS)=>[(0,.val (.pointer (some ⟨ib,0,some 0⟩))),(2,.val (.func (.func g) #[] #[])),(7,.val (.map (some im))),(8,.val (.slice (some ⟨im+1,0,some y.ver⟩) y.l.length y.l.length)),(9,.val (.string x)),(35,.val (.slice (some ⟨id,0,some ver⟩) d.prods.length c1)),(36,.val (i64 d.prods.length)),(37,.val (i64 k)),(47,.val (.slice pw (st d.prods[k]).length cw')),(48,.val (i64 (st d.prods[k]).length)),(49,.val (i64 j))]) (fun _ y=>y.hk)
    (fun j y=>RSI h im (im+1) y∧RM d.prods st a x y.es y.l k∧smes U y+1≤smes U ⟨hk,es,l++[x],ver0,junk⟩∧Grow hk2 y.hk (.slice pw (st d.prods[k]).length cw') (st d.prods[k]).length ((st d.prods[k]).map .string) 9∧∀ n∈(st d.prods[k]).take j,mGet y.es n≠0) ⟨h3,es2,l2,ver2,junk2⟩ zg0 rfl ⟨hS3,hI2,hM2,hG3,by simp⟩ ?_
   rintro j ⟨hk4,es4,l4,ver4,junk4⟩ hjn ⟨hS4,hI4,hM4,hG4,hJ4⟩
   simp only at hI4 hM4 hG4 hJ4 ⊢
   by_cases hjl:j<(st d.prods[k]).length
   ·have hN4:RdNames hk4 _ (st d.prods[k]):=hG4.sl (b:=16) om
    obtain⟨id5,ver5,own5,c5',cells5,hv5,hid5,hc5⟩:=hN4.at hjl
    cases hv5
    have v1:=rng hjl
    have v2:=inc hjl om
    have v3:=Qv hjl
    have hmem2:=List.getElem_mem hjl
    have hm4:=hS4.m
    have ht4:=hS4.t
    simp only at hm4 ht4
    have hkk4:=Xh es4
    have hz4:=hI4.z (st d.prods[k])[j]
    have hstep:∀ e',(∀ s,mGet es4 s≠0→mGet e' s≠0)→mGet e' (st d.prods[k])[j]≠0→∀ n∈(st d.prods[k]).take (j+1),mGet e' n≠0:=fun e' g1 g2 n hn=>by
     rw[List.take_succ_eq_append_getElem hjl,List.mem_append] at hn
     rcases hn with hn|hn
     ·exact g1 n (hJ4 n hn)
     ·rw[List.mem_singleton.1 hn];exact g2
    refine zw1 v3 ?_
    refine Qb rfl ?_
    by_cases hN0:mGet es4 (st d.prods[k])[j]=0
    ·have hRx:Rch d.prods st a (st d.prods[k])[j]:=by
      rcases hI4.h with e|e
      ·exact .one hmem (b1.trans e) hmem2
      ·exact .more e hmem b1 hmem2
     have hI5:=hI4.add hN0 hRx
     have hun:=(Qjo (es:=es4) hN0 (U:=U)).2 (hUm _ hmem _ hmem2)
     have hgr:∀ s,mGet es4 s≠0→mGet (mPut es4 (st d.prods[k])[j] 1) s≠0:=fun s h=>by rw[Zs];split<;>first|decide|exact h
     have hg2:mGet (mPut es4 (st d.prods[k])[j] 1) (st d.prods[k])[j]≠0:=by rw[Zs,if_pos rfl];decide
     have hmx:l4.length+1≤1000000:=by simp only[smes] at hM4 hM;omega
     have hne1:im≠im+1:=by omega
     rcases Jg es4 (st d.prods[k])[j] with ⟨hg,h0'⟩ | hg
     ·refine zw7 v1 hid5 hc5 hm4 hg hkk4 Nat.mul_one ?_
      refine Qb rfl ?_
      refine zw0 ?_
      refine Jj (kt:=9) (et:=3) (kd:=Zr) zf0 rfl rfl kr rfl zf0 hm4 zf0 zf0 rfl hkk4 ?_
      dsimp only
      rw[Zc]
      refine zw0 ?_
      refine Ql1 (t:=36) (cells:=l4.map .string) (junk:=junk4) zf0 rfl kr ti9 (by decide) rfl zf0 (by rw[Qk hne1];exact ht4) (by simp) zf0 rfl (by simp only;omega) om ?_
      refine zw1 v2 ?_
      refine⟨hjl,⟨(hk4.set im (.map (smE (mPut es4 (st d.prods[k])[j] 1)))).set (im+1) (.arr (l4.map .string++[.string (st d.prods[k])[j]]) (ver4+1) true 9),mPut es4 (st d.prods[k])[j] 1,l4++[(st d.prods[k])[j]],ver4+1,[]⟩,(by simp only[push_cast,Nat.reduceEqDiff,reduceIte,List.length_append]),rfl,⟨Xa (Xa hS4.p om) om,?_,?_⟩,hI5,?_,?_,hstep _ hgr hg2⟩
      ·simp only
       rw[Qk om]
       exact Qh hm4
      ·simp only
       rw[Qh (by rw[Qk hne1];exact ht4)]
       simp
      ·simp only[smes,List.length_append,List.length_singleton] at hM4 hun ⊢
       omega
      ·refine hG4.mono fun q o hj ho=>?_
       have:=(hG4.lt hj).1
       rw[Qk om,Qk om]
       exact ho
     ·rw[hN0] at hg
      refine zw7 v1 hid5 hc5 hm4 hg hkk4 Nat.mul_one ?_
      refine Qb rfl ?_
      refine zw0 ?_
      refine Jj (kt:=9) (et:=3) (kd:=Zr) zf0 rfl rfl kr rfl zf0 hm4 zf0 zf0 rfl hkk4 ?_
      dsimp only
      rw[Zc]
      refine zw0 ?_
      refine Ql1 (t:=36) (cells:=l4.map .string) (junk:=junk4) zf0 rfl kr ti9 (by decide) rfl zf0 (by rw[Qk hne1];exact ht4) (by simp) zf0 rfl (by simp only;omega) om ?_
      refine zw1 v2 ?_
      refine⟨hjl,⟨(hk4.set im (.map (smE (mPut es4 (st d.prods[k])[j] 1)))).set (im+1) (.arr (l4.map .string++[.string (st d.prods[k])[j]]) (ver4+1) true 9),mPut es4 (st d.prods[k])[j] 1,l4++[(st d.prods[k])[j]],ver4+1,[]⟩,(by simp only[push_cast,Nat.reduceEqDiff,reduceIte,List.length_append]),rfl,⟨Xa (Xa hS4.p om) om,?_,?_⟩,hI5,?_,?_,hstep _ hgr hg2⟩
      ·simp only
       rw[Qk om]
       exact Qh hm4
      ·simp only
       rw[Qh (by rw[Qk hne1];exact ht4)]
       simp
      ·simp only[smes,List.length_append,List.length_singleton] at hM4 hun ⊢
       omega
      ·refine hG4.mono fun q o hj ho=>?_
       have:=(hG4.lt hj).1
       rw[Qk om,Qk om]
       exact ho
    ·have h1:=hz4.resolve_left hN0
     have hg:=(Jg es4 (st d.prods[k])[j]).resolve_left (fun h=>hN0 h.2)
     rw[h1] at hg
     refine zw7 v1 hid5 hc5 hm4 hg hkk4 Nat.mul_one ?_
     refine Qa rfl ?_
     refine zw1 v2 ?_
     exact⟨hjl,⟨hk4,es4,l4,ver4,junk4⟩,zg0,rfl,hS4,hI4,hM4,hG4,hstep _ (fun _ h=>h) hN0⟩
   ·have v3:=Qu hjl
    obtain rfl:j=(st d.prods[k]).length:=by omega
    rw[List.take_length] at hJ4
    refine zw1 v3 ?_
    refine Qa rfl ?_
    refine Qj ?_
    show CW _ _ _ _
    refine zw1 w2 ?_
    exact⟨hlt,⟨hk4,es4,l4,ver4,junk4⟩,zg0,rfl,hS4,hI4.next hlt (fun _=>hJ4),hM4⟩
  ·have db:=decide_eq_false b1
   refine zw4 w1 hid hrd db ?_
   refine Qb rfl ?_
   refine Qj ?_
   show CW _ _ _ _
   refine zw1 w2 ?_
   exact⟨hlt,⟨hk2,es2,l2,ver2,junk2⟩,zg0,rfl,hS2,hI2.next hlt (fun e=>absurd e b1),hM2⟩
 ·have q3:=Qu hlt
  obtain rfl:k=d.prods.length:=by omega
  refine zw1 q3 ?_
  refine Qa rfl ?_
  refine Qj ?_
  exact⟨⟨hk2,es2,l2,ver2,junk2⟩,by omega,zg0,rfl,hS2,hI2.fin,by omega⟩
end
def Qab (l:List Sym):List Sym:=l.filter fun s=>!Jc s
theorem Qn6 {l:List Sym} {k:Nat} (hk:k<l.length):Qab (l.take (k+1))=if Jc l[k]=true then Qab (l.take k) else Qab (l.take k)++[l[k]]:=by
 unfold Qab
 rw[List.take_succ_eq_append_getElem hk,List.filter_append]
 cases h:Jc l[k]<;>simp [h]
theorem Qj4 {l:List Sym}:(Qab l).length≤l.length:=List.length_filter_le _ _
def Qbx (l:List Sym):List ByteArray:=match Qab l with
 | [s]=>if ((decide (s.kind=3)||decide (s.kind=6)) && !emB s.name)=true then [s.name] else []
 | _=>[]
theorem Qrl {l:List Sym}:(Qbx l).length≤1:=by
 unfold Qbx
 split
 ·split<;>simp
 ·simp
theorem Qjt {l:List Sym}:(l.flatMap Sym.cells).length=l.length*8:=by
 induction l with
 | nil=>rfl
 | cons s l ih=>rw[List.flatMap_cons,List.length_append,ih,List.length_cons];show 8+_=_;omega
section
variable {h:Heap} {r:Value} {d:Def}
set_option maxHeartbeats 8000000 in
theorem Qz2 {p:Prod} {u:Value} (hy:RdYs h u p.syms):FW env 136 [p.val u] h fun x h'=>h <+: h'∧Grow h h' x (Qbx p.syms).length ((Qbx p.syms).map .string) 9:=by
 obtain⟨ps,cs,rfl⟩:=SlR.form hy
 have hle:p.syms.length*88≤140737488355328:=hy.1
 have hl:p.syms.length≤140737488355328:=by omega
 have z0:(Qab []).length=0:=rfl
 refine fe Tryz.func136 ?_;simp only[push_cast]
 refine zw0 ?_
 refine CW.mono (Q:=fun e s'=>e = .exit 0∧∃ (h1:Heap) (q:Option Addr) (c:Nat),h <+: h1∧Grow h h1 (.slice q (Qab p.syms).length c) (Qab p.syms).length ((Qab p.syms).flatMap Sym.cells) 56∧s'.h=h1∧SubL [(3,.val (.slice q (Qab p.syms).length c))] s'.fr) ?_ ?_
 ·refine Qy p.syms.length (fun k (x:Heap×Option Addr×Nat)=>[(3,.val (.slice x.2.1 (Qab (p.syms.take k)).length x.2.2)),(7,.val (.slice ps p.syms.length cs)),(8,.val (i64 p.syms.length)),(9,.val (i64 k))]) (fun _ x=>x.1)
   (fun k x=>h <+: x.1∧Grow h x.1 (.slice x.2.1 (Qab (p.syms.take k)).length x.2.2) (Qab (p.syms.take k)).length ((Qab (p.syms.take k)).flatMap Sym.cells) 56) (h,none,0) (zg1 z0) rfl ⟨List.prefix_refl _,Grow.nil⟩ ?_
  rintro k ⟨hk,q,cq⟩ hkn ⟨hp,hG⟩
  simp only at hp hG ⊢
  by_cases hlt:k<p.syms.length
  ·obtain⟨id,ver,own,c',hv,hid⟩:=SlR.at (hy.mono hp) om
   cases hv
   have hg:=Qah hlt
   have e1:=rng hlt
   have e2:=inc hlt hl
   have e3:=Qv hlt
   have hs:=Qn6 hlt
   have hlen:(Qab (p.syms.take k)).length≤k:=by
    have:=Qj4 (l:=p.syms.take k)
    rw[List.length_take] at this
    omega
   refine zw1 e3 ?_
   refine Qb rfl ?_
   refine zw3 e1 hid hg ?_
   refine zj Tryz.func134 ?_
   refine left_fw.mono ?_
   rintro _ h1 ⟨rfl,rfl⟩
   cases hL:Jc p.syms[k] with
   | true=>
     rw[if_pos hL] at hs
     refine zw0 ?_
     refine Qa rfl ?_
     refine zw1 e2 ?_
     refine⟨hlt,(h1,q,cq),(zg1 hs),rfl,hp,?_⟩
     rw[hs]
     exact hG
   | false=>
     rw[if_neg (by rw[hL];decide)] at hs
     have hs2:(Qab (p.syms.take (k+1))).length=(Qab (p.syms.take k)).length+1:=by rw[hs];simp
     refine zw0 ?_
     refine Qb rfl ?_
     refine zw0 ?_
     refine Qdz (t:=49) (cs:=Sym.cells p.syms[k]) zf0 rfl kr ti56 (by decide) rfl zf0 rfl hG hp Qjt rfl (by simp only;omega) om ?_
     intro p' c' h' k1 k2 _ _
     refine zw1 e2 ?_
     refine⟨hlt,(h',p',c'),(zg1 hs2),rfl,k2,?_⟩
     rw[hs,List.length_append,List.flatMap_append,List.flatMap_singleton]
     exact k1
  ·have e3:=Qu hlt
   obtain rfl:k=p.syms.length:=by omega
   rw[List.take_length] at hG
   refine zw1 e3 ?_
   refine Qa rfl ?_
   refine Qj ?_
   refine⟨rfl,hk,q,cq,hp,hG,rfl,?_⟩
   rw[List.take_length]
   exact zg0
 rintro e s' ⟨rfl,h1,q,c,hp1,hG1,hh,hf⟩
 show CW _ _ _ _
 refine Qi _ hf ?_
 rw[hh]
 clear hf hh s'
 have hBr:Qbx p.syms=(match Qab p.syms with
  | [s]=>if ((decide (s.kind=3)||decide (s.kind=6)) && !emB s.name)=true then [s.name] else []
  | _=>[]):=rfl
 have hML:=Qj4 (l:=p.syms)
 generalize Qab p.syms=M at hG1 hBr hML ⊢
 by_cases hl1:M.length=1
 ·obtain⟨s,rfl⟩:∃ x,M=[x]:=by
   match M,hl1 with
   | [x],_=>exact⟨x,rfl⟩
  obtain⟨io,vo,_,i2,i3⟩:=hG1.mine (by simp)
  cases i2
  rw[List.flatMap_singleton] at i3
  unfold Sym.cells at i3
  simp only at hBr
  by_cases q3:s.name=⟨#[]⟩
  ·have d3:=decide_eq_true q3
   by_cases q1:s.kind=3
   ·have d1:=decide_eq_true q1
    refine zw4 i3 d1 d3 Nat.mul_one ?_
    refine Qa rfl ?_
    refine zw0 ?_
    refine Qd ?_
    refine⟨_,zf0,hp1,?_⟩
    rw[hBr]
    rw[if_neg (by simp [emB,d3])]
    exact Grow.nil
   ·have d1:=decide_eq_false q1
    by_cases q2:s.kind=6
    ·have d2:=decide_eq_true q2
     refine zw5 i3 d1 d2 d3 Nat.mul_one ?_
     refine Qa rfl ?_
     refine zw0 ?_
     refine Qd ?_
     refine⟨_,zf0,hp1,?_⟩
     rw[hBr]
     rw[if_neg (by simp [emB,d3])]
     exact Grow.nil
    ·have d2:=decide_eq_false q2
     refine zw5 i3 d1 d2 d3 Nat.mul_one ?_
     refine Qa rfl ?_
     refine zw0 ?_
     refine Qd ?_
     refine⟨_,zf0,hp1,?_⟩
     rw[hBr]
     rw[if_neg (by simp [emB,d3])]
     exact Grow.nil
  ·have d3:=decide_eq_false q3
   by_cases q1:s.kind=3
   ·have d1:=decide_eq_true q1
    refine zw4 i3 d1 d3 Nat.mul_one ?_
    refine Qb rfl ?_
    refine zu ?_
    iterate 4 (apply Zp;·simp only[push_cast,env,Nat.reduceEqDiff,reduceIte,Nat.reduceAdd,Nat.reduceMul,Nat.reduceLeDiff,reduceCtorEq,Nat.reduceSub,Int.reduceToNat,i3,Nat.mul_one]<;>exact rfl)
    refine Yi (t:=9) (cs:=[.string s.name]) (n:=1) zf0 zf0 ?_
    refine zw0 ?_
    refine Qd ?_
    refine⟨_,zf0,Yl hp1,?_⟩
    rw[hBr,if_pos (by simp [emB,d1,d1,d3])]
    exact .inr ⟨h1.length,0,hp1.length_le,rfl,Qp⟩
   ·have d1:=decide_eq_false q1
    by_cases q2:s.kind=6
    ·have d2:=decide_eq_true q2
     refine zw5 i3 d1 d2 d3 Nat.mul_one ?_
     refine Qb rfl ?_
     refine zu ?_
     iterate 4 (apply Zp;·simp only[push_cast,env,Nat.reduceEqDiff,reduceIte,Nat.reduceAdd,Nat.reduceMul,Nat.reduceLeDiff,reduceCtorEq,Nat.reduceSub,Int.reduceToNat,i3,Nat.mul_one]<;>exact rfl)
     refine Yi (t:=9) (cs:=[.string s.name]) (n:=1) zf0 zf0 ?_
     refine zw0 ?_
     refine Qd ?_
     refine⟨_,zf0,Yl hp1,?_⟩
     rw[hBr,if_pos (by simp [emB,d1,d2,d3])]
     exact .inr ⟨h1.length,0,hp1.length_le,rfl,Qp⟩
    ·have d2:=decide_eq_false q2
     refine zw5 i3 d1 d2 d3 Nat.mul_one ?_
     refine Qa rfl ?_
     refine zw0 ?_
     refine Qd ?_
     refine⟨_,zf0,hp1,?_⟩
     rw[hBr]
     rw[if_neg (by simp [d1,d2])]
     exact Grow.nil
 ·have dn:decide ((M.length:Int)=1)=false:=decide_eq_false om
  refine zw1 dn ?_
  have hBe:Qbx p.syms=[]:=by
   rw[hBr]
   match M,hl1 with
   | [],_=>rfl
   | [x],h=>exact absurd rfl h
   | _ :: _ :: _,_=>rfl
  refine Qa rfl ?_
  refine zw0 ?_
  refine Qd ?_
  refine⟨_,zf0,hp1,?_⟩
  rw[hBe]
  exact Grow.nil
set_option maxHeartbeats 4000000 in
theorem Qsv (hk:Bk h r d) (hpn:Ym d≤160):FW env 77 [r] h fun x h'=>LookR (∀ s∈Qm d.prods,¬ Rch d.prods (fun p=>Qbx p.syms) s s) x∧h'=h:=by
 refine Qdu ?_
 have hk0:=hk
 have hU:(d.prods.flatMap fun p=>Qbx p.syms).length≤100000:=by
  rw[List.length_flatMap]
  have:=Qe3 (f:=fun p:Prod=>(Qbx p.syms).length) (B:=1) (l:=d.prods) fun p _=>Qrl
  unfold Ym at hpn
  unfold sumN at this
  omega
 obtain⟨h0,ib,im,sv,up,uc,uf,ur,ub,rfl,hd,K⟩:=hk
 have hd:=hd.mono K.p
 obtain⟨p1,c1,rfl⟩:=RdL.form hd.prods
 obtain⟨p2,c2,rfl⟩:=RdL.form hd.chains
 obtain⟨p3,c3,rfl⟩:=SlR.form hd.follows
 obtain⟨p4,c4,rfl⟩:=SlR.form hd.rejects
 obtain⟨p5,c5,rfl⟩:=RdL.form hd.boxes
 have l1:d.prods.length≤140737488355328:=by have:=RdL.le hd.prods;omega
 have l2:d.chains.length≤140737488355328:=by have:=RdL.le hd.chains;omega
 have l3:d.follows.length≤140737488355328:=by have:=hd.follows.1;omega
 have l4:d.rejects.length≤140737488355328:=by have:=hd.rejects.1;omega
 have l5:d.boxes.length≤140737488355328:=by have:=RdL.le hd.boxes;omega
 obtain⟨es,hm,hes⟩:=K.m
 have hb:=K.b
 unfold Def.val at hb
 simp only[List.cons_append,List.nil_append] at hb
 have hkk:=Xh es
 have hss:RdNames h sv (Qm d.prods):=K.s.sl (b:=16) (by have:=Xw (ps:=d.prods);have:=RdL.le hd.prods;omega)
 obtain⟨pq,cq,rfl⟩:=hss.form
 have hsl:=hss.le
 refine fe Tryz.func77 ?_;simp only[push_cast]
 refine zw1 hb ?_
 refine Qy (Qm d.prods).length (fun k (x:Heap)=>[(0,.val (.pointer (some ⟨ib,0,some 0⟩))),(9,.val (.slice pq (Qm d.prods).length cq)),(10,.val (i64 (Qm d.prods).length)),(11,.val (i64 k))]) (fun _ x=>x) (fun k x=>h <+: x∧∀ i (hi:i<(Qm d.prods).length),i<k→¬ Rch d.prods (fun p=>Qbx p.syms) (Qm d.prods)[i] (Qm d.prods)[i]) h zg0 rfl ⟨List.prefix_refl _,fun i _ hi=>absurd hi om⟩ ?_
 rintro k h1 hkn ⟨hp,hall⟩
 by_cases hlt:k<(Qm d.prods).length
 ·obtain⟨id,ver,own,c',cells,hv,hid,hc⟩:=(RdNames.mono hss hp).at hlt
  cases hv
  have e1:=rng hlt
  have e2:=inc hlt hsl
  have e3:=Qv hlt
  have hmem:(Qm d.prods)[k]∈Qm d.prods:=List.getElem_mem hlt
  generalize hS:(Qm d.prods)[k]=S at hc hmem
  have hstep:¬ Rch d.prods (fun p=>Qbx p.syms) S S→∀ i (hi:i<(Qm d.prods).length),i<k+1→¬ Rch d.prods (fun p=>Qbx p.syms) (Qm d.prods)[i] (Qm d.prods)[i]:=fun h3 i hi h2=>by
   rcases (by omega:i<k∨i=k) with h4|rfl
   ·exact hall i hi h4
   ·rw[hS];exact h3
  refine zw1 e3 ?_
  refine Qb rfl ?_
  refine zw4 e1 hid hc Nat.mul_one ?_
  refine zj Tryz.func135 ?_
  refine (Qje (st:=fun p=>Qbx p.syms) (hk0.mono hp) Tryz.func136 kr kr hU (fun p _ u h1 _ hy=>Qz2 hy)).mono ?_
  rintro _ h2 ⟨hp2,im2,es2,rfl,_,hm2,hR⟩
  have hkk2:=Xh es2
  have hdn:=hR.done (s:=S)
  have hz:=hR.z S
  generalize hn:mGet es2 S=n at hdn hz
  rcases Jg es2 S with ⟨hg,h0'⟩ | hg
  ·obtain rfl:n=0:=by rw[← hn,h0']
   refine zw4 hm2 hg hkk2 Nat.mul_one ?_
   refine Qa rfl ?_
   refine zw1 e2 ?_
   exact⟨hlt,h2,zg0,rfl,hp.trans hp2,hstep (fun h=>hdn.2 h rfl)⟩
  ·rw[hn] at hg
   rcases hz with rfl|rfl
   ·refine zw4 hm2 hg hkk2 Nat.mul_one ?_
    refine Qa rfl ?_
    refine zw1 e2 ?_
    exact⟨hlt,h2,zg0,rfl,hp.trans hp2,hstep (fun h=>hdn.2 h rfl)⟩
   ·refine zw4 hm2 hg hkk2 Nat.mul_one ?_
    refine Qb rfl ?_
    refine zw0 ?_
    refine Qd ?_
    exact⟨_,zf0,⟨48,_,rfl,⟨fun h=>(by cases h),fun h=>absurd (hdn.1 (by decide)) (h _ hmem)⟩⟩,hp.trans hp2⟩
 ·have e3:=Qu hlt
  obtain rfl:k=(Qm d.prods).length:=by omega
  refine zw1 e3 ?_
  refine Qa rfl ?_
  refine Qj ?_
  show CW _ _ _ _
  refine zw0 ?_
  refine Qd ?_
  refine⟨_,zf0,⟨0,_,rfl,fun _ s hs=>?_,fun _=>rfl⟩,hp⟩
  obtain⟨i,hi,rfl⟩:=List.getElem_of_mem hs
  exact hall i hi hi
end
def Qa9 (s:ByteArray) (e:Bool):Bool:=(emB s&&e)||Xo s
def Qbs (s:BSet):Bool:=decide (s.a=0)&&(decide (s.b=0)&&(decide (s.c=0)&&decide (s.d=0)))
def Xc (s:Sym):Bool:=
 if s.kind=1 then decide ((s.text.size:Int)≤32)&&(Qbs s.set&&(emB s.name&&emB s.sep))
 else if s.kind=2 then emB s.text&&(emB s.name&&emB s.sep)
 else if s.kind=3 then emB s.text&&(Qbs s.set&&(Xo s.name&&emB s.sep))
 else if s.kind=4 then emB s.text&&(emB s.sep&&(emB s.name||(Qbs s.set&&Xo s.name)))
 else if s.kind=5∨s.kind=6 then (if emB s.name then emB s.text&&emB s.sep else emB s.text&&(Qbs s.set&&(Xo s.name&&decide ((s.sep.size:Int)≤32))))
 else false
def Yb (p:Prod):Bool:=
 (Xo p.sort&&(Qa9 p.cons true&&(decide (p.syms.length≠0)&&decide (p.syms.length≤12))))&&((if p.lex then !p.bracket else (p.bracket == emB p.cons))&&p.syms.all Xc)
def Yp (g:Group):Bool:=decide (0≤g.assoc)&&(decide (g.assoc≤3)&&(decide (g.cons.length≠0)&&(decide (g.cons.length≤16)&&g.cons.all Xo)))
def Zd (l:List Group):Bool:=l.all Yp&&(decide (l.length≠0)&&decide (l.length≤16))
def Qb0 (x:Item):Bool:=
 if x.kind=1 then decide ((x.text.size:Int)≤32)&&(decide (x.n=0)&&decide (x.items.length=0))
 else if x.kind=2 then emB x.text&&((decide (0≤x.n)&&decide (x.n≤999999))&&decide (x.items.length=0))
 else if x.kind=3∨x.kind=4 then emB x.text&&(decide (x.n=0)&&decide (x.items.length=0))
 else if x.kind=5 then emB x.text&&(decide (0≤x.n)&&decide (x.n≤999999))
 else if x.kind=6 then emB x.text&&decide (x.n=0)
 else false
mutual
def okI:Item→Bool
 | .mk k t n l=>Qb0 (.mk k t n l)&&okL l
def okL:List Item→Bool
 | []=>true
 | x :: r=>okI x&&okL r
end
def Jw (b:Box):Bool:=Xo b.cons&&(okL b.items&&decide (cntL b.items≤64))
def Yj (d:Def):Bool:=
 (Qa9 d.start true&&(Qa9 d.layout true&&decide (d.prods.length≤200)))&&(d.prods.all Yb&&(d.chains.all Zd&&(d.follows.all (fun f=>Xo f.sort)&&(d.rejects.all (fun x=>Xo x.sort&&Xo x.by_)&&d.boxes.all Jw))))
theorem Qha:∀ l:List Item,okL l=l.all okI
 | []=>rfl
 | x :: l=>by unfold okL;rw[Qha l];rfl
theorem Xco (x:Item):okI x=(Qb0 x&&okL x.items):=by cases x;rfl
theorem emB_iff {b:ByteArray}:emB b=true↔b.size=0:=by unfold emB;rw[decide_eq_true_eq];exact emp_iff
section
variable {h:Heap}
theorem Zi {s:ByteArray} {e:Bool} (hs:s.size≤szB):FW env 170 [.string s,.bool e] h fun r h'=>r = .bool (Qa9 s e)∧h'=h:=by
 refine fe Tryz.func170 ?_;simp only[push_cast]
 by_cases q:s=⟨#[]⟩
 ·have d:=decide_eq_true q
  cases e with
  | true=>
    refine zw1 d ?_
    refine Qd ?_
    exact⟨_,zf0,by simp [resV,Qa9,emB,d],rfl⟩
  | false=>
    refine zw1 d ?_
    refine zj Tryz.func49 ?_
    refine (Qnc hs).mono ?_
    rintro _ h1 ⟨rfl,rfl⟩
    refine zw0 ?_
    refine Qd ?_
    exact⟨_,zf0,by simp [resV,Qa9,emB,d],rfl⟩
 ·have d:=decide_eq_false q
  refine zw1 d ?_
  refine zj Tryz.func49 ?_
  refine (Qnc hs).mono ?_
  rintro _ h1 ⟨rfl,rfl⟩
  refine zw0 ?_
  refine Qd ?_
  exact⟨_,zf0,by simp [resV,Qa9,emB,d],rfl⟩
theorem Qav {s:ByteArray}:Qa9 s false=Xo s:=by unfold Qa9;rw[Bool.and_false,Bool.false_or]
set_option maxHeartbeats 8000000 in
theorem Qmh {s:Sym} (hw:SymWf s):FW env 203 [s.val] h fun r h'=>r = .bool (Xc s)∧h'=h:=by
 refine fe Tryz.func203 ?_;simp only[push_cast]
 refine zu ?_
 refine zw0 ?_
 obtain⟨z,hz⟩:∃ z,z=Qbs s.set:=⟨_,rfl⟩
 refine Qi [(1,.box [i64 s.kind,.string s.text,u64 s.set.a,u64 s.set.b,u64 s.set.c,u64 s.set.d,.string s.name,.string s.sep]),(3,.val (.bool (!z))),(9,.val (i64 s.kind)),(10,.val (.bool (decide (s.kind=1))))] (by rw[hz];unfold Qbs;exact zg0) ?_
 show CW _ _ ⟨_,[],h⟩ _
 by_cases k1:s.kind=1
 ·have d1:=decide_eq_true k1
  rw[d1]
  refine Qb rfl ?_
  refine zw0 ?_
  refine Qd ?_
  exact⟨_,zf0,by simp [resV,Xc,emB,Bool.and_assoc,k1,hz],rfl⟩
 have d1:=decide_eq_false k1
 rw[d1]
 refine Qa rfl ?_
 by_cases k2:s.kind=2
 ·have d2:=decide_eq_true k2
  refine zw1 d2 ?_
  refine Qb rfl ?_
  refine zw0 ?_
  refine Qd ?_
  exact⟨_,zf0,by simp [resV,Xc,emB,Bool.and_assoc,k2],rfl⟩
 have d2:=decide_eq_false k2
 refine zw1 d2 ?_
 refine Qa rfl ?_
 by_cases k3:s.kind=3
 ·have d3:=decide_eq_true k3
  refine zw1 d3 ?_
  refine Qb rfl ?_
  by_cases q1:s.text=⟨#[]⟩
  ·have g1:=decide_eq_true q1
   cases z with
   | true=>
     refine zw1 g1 ?_
     refine zj Tryz.func170 ?_
     refine (Zi hw.name).mono ?_
     rintro _ h1 ⟨rfl,rfl⟩
     rw[Qav]
     cases hN:Xo s.name with
     | true=>
       refine zw0 ?_
       refine Qd ?_
       exact⟨_,zf0,by simp [resV,Xc,emB,Bool.and_assoc,k3,← hz,hN,g1],rfl⟩
     | false=>
       refine zw0 ?_
       refine Qd ?_
       exact⟨_,zf0,by simp [resV,Xc,emB,Bool.and_assoc,k3,← hz,hN,g1],rfl⟩
   | false=>
     refine zw1 g1 ?_
     refine Qd ?_
     exact⟨_,zf0,by simp [resV,Xc,emB,Bool.and_assoc,k3,← hz,g1],rfl⟩
  ·have g1:=decide_eq_false q1
   refine zw1 g1 ?_
   refine Qd ?_
   exact⟨_,zf0,by simp [resV,Xc,emB,Bool.and_assoc,k3,g1],rfl⟩
 have d3:=decide_eq_false k3
 refine zw1 d3 ?_
 refine Qa rfl ?_
 by_cases k4:s.kind=4
 ·have d4:=decide_eq_true k4
  refine zw1 d4 ?_
  refine Qb rfl ?_
  by_cases q1:s.text=⟨#[]⟩
  ·have g1:=decide_eq_true q1
   by_cases q2:s.sep=⟨#[]⟩
   ·have g2:=decide_eq_true q2
    by_cases q3:s.name=⟨#[]⟩
    ·have g3:=decide_eq_true q3
     refine zw3 g1 g2 g3 ?_
     refine Qd ?_
     exact⟨_,zf0,by simp [resV,Xc,emB,Bool.and_assoc,k4,g1,g2,g3],rfl⟩
    ·have g3:=decide_eq_false q3
     cases z with
     | true=>
       refine zw3 g1 g2 g3 ?_
       refine zj Tryz.func170 ?_
       refine (Zi hw.name).mono ?_
       rintro _ h1 ⟨rfl,rfl⟩
       rw[Qav]
       cases hN:Xo s.name with
       | true=>
         refine zw0 ?_
         refine Qd ?_
         exact⟨_,zf0,by simp [resV,Xc,emB,Bool.and_assoc,k4,← hz,hN,g1,g2,g3],rfl⟩
       | false=>
         refine zw0 ?_
         refine Qd ?_
         exact⟨_,zf0,by simp [resV,Xc,emB,Bool.and_assoc,k4,← hz,hN,g1,g2,g3],rfl⟩
     | false=>
       refine zw3 g1 g2 g3 ?_
       refine Qd ?_
       exact⟨_,zf0,by simp [resV,Xc,emB,Bool.and_assoc,k4,← hz,g1,g2,g3],rfl⟩
   ·have g2:=decide_eq_false q2
    refine zw2 g1 g2 ?_
    refine Qd ?_
    exact⟨_,zf0,by simp [resV,Xc,emB,Bool.and_assoc,k4,g1,g2],rfl⟩
  ·have g1:=decide_eq_false q1
   refine zw1 g1 ?_
   refine Qd ?_
   exact⟨_,zf0,by simp [resV,Xc,emB,Bool.and_assoc,k4,g1],rfl⟩
 have d4:=decide_eq_false k4
 refine zw1 d4 ?_
 refine Qa rfl ?_
 by_cases k5:s.kind=5
 ·have d5:=decide_eq_true k5
  refine zw1 d5 ?_
  refine Qb rfl ?_
  refine Xx ?_
  show CW _ _ _ _
  refine Qb rfl ?_
  by_cases q3:s.name=⟨#[]⟩
  ·have g3:=decide_eq_true q3
   refine zw1 g3 ?_
   refine Qb rfl ?_
   refine zw0 ?_
   refine Qd ?_
   exact⟨_,zf0,by simp [resV,Xc,emB,Bool.and_assoc,k5,g3],rfl⟩
  have g3:=decide_eq_false q3
  refine zw1 g3 ?_
  refine Qa rfl ?_
  by_cases q1:s.text=⟨#[]⟩
  ·have g1:=decide_eq_true q1
   cases z with
   | true=>
     refine zw1 g1 ?_
     refine zj Tryz.func170 ?_
     refine (Zi hw.name).mono ?_
     rintro _ h1 ⟨rfl,rfl⟩
     rw[Qav]
     cases hN:Xo s.name with
     | true=>
       refine zw0 ?_
       refine Qd ?_
       exact⟨_,zf0,by simp [resV,Xc,emB,Bool.and_assoc,k5,← hz,hN,g1,g3],rfl⟩
     | false=>
       refine zw0 ?_
       refine Qd ?_
       exact⟨_,zf0,by simp [resV,Xc,emB,Bool.and_assoc,k5,← hz,hN,g1,g3],rfl⟩
   | false=>
     refine zw1 g1 ?_
     refine Qd ?_
     exact⟨_,zf0,by simp [resV,Xc,emB,Bool.and_assoc,k5,← hz,g1,g3],rfl⟩
  ·have g1:=decide_eq_false q1
   refine zw1 g1 ?_
   refine Qd ?_
   exact⟨_,zf0,by simp [resV,Xc,emB,Bool.and_assoc,k5,g1,g3],rfl⟩
 have d5:=decide_eq_false k5
 refine zw1 d5 ?_
 refine Qa rfl ?_
 by_cases k6:s.kind=6
 ·have d6:=decide_eq_true k6
  refine zw1 d6 ?_
  refine Qb rfl ?_
  by_cases q3:s.name=⟨#[]⟩
  ·have g3:=decide_eq_true q3
   refine zw1 g3 ?_
   refine Qb rfl ?_
   refine zw0 ?_
   refine Qd ?_
   exact⟨_,zf0,by simp [resV,Xc,emB,Bool.and_assoc,k6,g3],rfl⟩
  have g3:=decide_eq_false q3
  refine zw1 g3 ?_
  refine Qa rfl ?_
  by_cases q1:s.text=⟨#[]⟩
  ·have g1:=decide_eq_true q1
   cases z with
   | true=>
     refine zw1 g1 ?_
     refine zj Tryz.func170 ?_
     refine (Zi hw.name).mono ?_
     rintro _ h1 ⟨rfl,rfl⟩
     rw[Qav]
     cases hN:Xo s.name with
     | true=>
       refine zw0 ?_
       refine Qd ?_
       exact⟨_,zf0,by simp [resV,Xc,emB,Bool.and_assoc,k6,← hz,hN,g1,g3],rfl⟩
     | false=>
       refine zw0 ?_
       refine Qd ?_
       exact⟨_,zf0,by simp [resV,Xc,emB,Bool.and_assoc,k6,← hz,hN,g1,g3],rfl⟩
   | false=>
     refine zw1 g1 ?_
     refine Qd ?_
     exact⟨_,zf0,by simp [resV,Xc,emB,Bool.and_assoc,k6,← hz,g1,g3],rfl⟩
  ·have g1:=decide_eq_false q1
   refine zw1 g1 ?_
   refine Qd ?_
   exact⟨_,zf0,by simp [resV,Xc,emB,Bool.and_assoc,k6,g1,g3],rfl⟩
 have d6:=decide_eq_false k6
 refine zw1 d6 ?_
 refine Qa rfl ?_
 refine zw0 ?_
 refine Qd ?_
 exact⟨_,zf0,by simp [resV,Xc,emB,Bool.and_assoc,k1,k2,k3,k4,k5,k6],rfl⟩
end
section
variable {h:Heap} {r:Value} {d:Def}
set_option maxHeartbeats 4000000 in
theorem Qr8 (hk:Bk h r d):FW env 80 [r] h fun x h'=>LookR (∀ f∈d.follows,Qbs f.set=false) x∧h'=h:=by
 obtain⟨h0,ib,im,sv,up,uc,uf,ur,ub,rfl,hd,K⟩:=hk
 have hd:=hd.mono K.p
 obtain⟨p1,c1,rfl⟩:=RdL.form hd.prods
 obtain⟨p2,c2,rfl⟩:=RdL.form hd.chains
 obtain⟨p3,c3,rfl⟩:=SlR.form hd.follows
 obtain⟨p4,c4,rfl⟩:=SlR.form hd.rejects
 obtain⟨p5,c5,rfl⟩:=RdL.form hd.boxes
 have l1:d.prods.length≤140737488355328:=by have:=RdL.le hd.prods;omega
 have l2:d.chains.length≤140737488355328:=by have:=RdL.le hd.chains;omega
 have l3:d.follows.length≤140737488355328:=by have:=hd.follows.1;omega
 have l4:d.rejects.length≤140737488355328:=by have:=hd.rejects.1;omega
 have l5:d.boxes.length≤140737488355328:=by have:=RdL.le hd.boxes;omega
 obtain⟨es,hm,hes⟩:=K.m
 have hb:=K.b
 unfold Def.val at hb
 simp only[List.cons_append,List.nil_append] at hb
 have hkk:=Xh es
 have hss:RdNames h sv (Qm d.prods):=K.s.sl (b:=16) (by have:=Xw (ps:=d.prods);have:=RdL.le hd.prods;omega)
 obtain⟨pq,cq,rfl⟩:=hss.form
 refine fe Tryz.func80 ?_;simp only[push_cast]
 refine zw1 hb ?_
 refine Yq d.follows.length (fun k=>[(10,.val (.slice p3 d.follows.length c3)),(11,.val (i64 d.follows.length)),(12,.val (i64 k))]) (fun _=>h) (fun k=>∀ i (hi:i<d.follows.length),i<k→Qbs d.follows[i].set=false) zg0 rfl (fun i _ hi=>absurd hi om) ?_
 intro k hkn hall
 by_cases hlt:k<d.follows.length
 ·obtain⟨id,ver,own,c',hv,hid⟩:=SlR.at hd.follows om
  cases hv
  have hg:=Qbn hlt
  have e1:=rng hlt
  have e2:=inc hlt l3
  have e3:=Qv hlt
  have hmem:=List.getElem_mem hlt
  have hstep:Qbs d.follows[k].set=false→∀ i (hi:i<d.follows.length),i<k+1→Qbs d.follows[i].set=false:=fun h3 i hi h2=>by
   rcases (by omega:i<k∨i=k) with h4|rfl
   ·exact hall i hi h4
   ·exact h3
  have hz:Qbs d.follows[k].set=(decide (d.follows[k].set.a=0)&&(decide (d.follows[k].set.b=0)&&(decide (d.follows[k].set.c=0)&&decide (d.follows[k].set.d=0)))):=rfl
  refine zw1 e3 ?_
  refine Qb rfl ?_
  refine zw3 e1 hid hg ?_
  refine Ze zf0 (fun b1=>?_) (fun b1=>?_)
  ·have b2:Qbs d.follows[k].set=true:=by rw[hz];simpa using b1
   refine zw0 ?_
   refine Qt 3 Qq kr ?_
   refine zw0 ?_
   refine Qd ?_
   exact⟨_,zf0,⟨51,_,rfl,⟨fun h=>(by cases h),fun h=>absurd (h _ hmem) (by rw[b2];decide)⟩⟩,rfl⟩
  ·have b2:Qbs d.follows[k].set=false:=by
    rw[hz]
    cases e:(decide (d.follows[k].set.a=0)&&(decide (d.follows[k].set.b=0)&&(decide (d.follows[k].set.c=0)&&decide (d.follows[k].set.d=0)))) with
    | false=>rfl
    | true=>
      simp at e
      simp [e] at b1
   refine zw1 e2 ?_
   exact⟨hlt,zg0,rfl,hstep b2⟩
 ·have e3:=Qu hlt
  obtain rfl:k=d.follows.length:=by omega
  refine zw1 e3 ?_
  refine Qa rfl ?_
  refine Qj ?_
  show CW _ _ _ _
  refine zw0 ?_
  refine Qd ?_
  refine⟨_,zf0,⟨0,_,rfl,fun _ p hp=>?_,fun _=>rfl⟩,rfl⟩
  obtain⟨i,hi,rfl⟩:=List.getElem_of_mem hp
  exact hall i hi hi
def Qcz (ps:List Prod) (x:ByteArray):Prop:=∃ i,ConsP ps x i∧0≤i
def Yr (c:List Group):List ByteArray:=c.flatMap (·.cons)
def chainOK (ps:List Prod) (l:List ByteArray):Prop:=(∀ x∈l,Qcz ps x)∧l.Nodup
theorem Qit {c:List Group} {k:Nat} (hk:k<c.length):Yr (c.take (k+1))=Yr (c.take k)++c[k].cons:=by
 unfold Yr
 rw[List.take_succ_eq_append_getElem hk,List.flatMap_append]
 simp
structure PI (ps:List Prod) (es:List (ByteArray×Int)) (l:List ByteArray):Prop where
 g:∀ x,mGet es x=if memB l x=true then 1 else 0
 o:chainOK ps l
theorem PI.nil {ps:List Prod}:PI ps [] []:=⟨fun x=>by simp [mGet,Qa5,memB],by simp [chainOK]⟩
theorem PI.add {ps:List Prod} {es:List (ByteArray×Int)} {l:List ByteArray} {x:ByteArray} (P:PI ps es l) (hx:Qcz ps x) (h0:mGet es x=0):PI ps (mPut es x 1) (l++[x]):=by
 have hn:x∉l:=fun h=>by rw[P.g,if_pos (memB_iff.2 h)] at h0;cases h0
 refine⟨fun y=>?_,fun y hy=>?_,?_⟩
 ·rw[Zs,P.g]
  by_cases e:y=x
  ·rw[if_pos e,if_pos (memB_iff.2 (by rw[e];simp))]
  ·rw[if_neg e]
   by_cases q:y∈l
   ·rw[if_pos (memB_iff.2 q),if_pos (memB_iff.2 (List.mem_append_left _ q))]
   ·rw[if_neg (fun k=>q (memB_iff.1 k)),if_neg (fun k=>?_)]
    rcases List.mem_append.1 (memB_iff.1 k) with k|k
    ·exact q k
    ·exact e (List.mem_singleton.1 k)
 ·rcases List.mem_append.1 hy with hy|hy
  ·exact P.o.1 y hy
  ·rw[List.mem_singleton.1 hy];exact hx
 ·rw[List.nodup_append]
  exact⟨P.o.2,by simp,fun a ha b hb e=>hn (by rw[← List.mem_singleton.1 hb,← e];exact ha)⟩
theorem chainOK.pre {ps:List Prod} {l t:List ByteArray} (h:chainOK ps (l++t)):chainOK ps l:=⟨fun x hx=>h.1 x (List.mem_append_left _ hx),(List.nodup_append.1 h.2).1⟩
theorem Qju {c:List Group} {k j:Nat} (hk:k<c.length):∃ t,Yr c=Yr (c.take k)++c[k].cons.take j++t:=by
 refine⟨c[k].cons.drop j++Yr (c.drop (k+1)),?_⟩
 have h1:Yr c=Yr (c.take (k+1))++Yr (c.drop (k+1)):=by
  unfold Yr
  rw[← List.flatMap_append,List.take_append_drop]
 rw[h1,Qit hk,List.append_assoc,List.append_assoc,← List.append_assoc (c[k].cons.take j),List.take_append_drop]
def Qk4 (d:Def):Prop:=∀ c∈d.chains,chainOK d.prods (Yr c)
set_option maxHeartbeats 16000000 in
theorem Qxx (hk:Bk h r d):FW env 79 [r] h fun x h'=>LookR (Qk4 d) x∧h'=h:=by
 refine Qdu ?_
 have hk0:=hk
 obtain⟨h0,ib,im,sv,up,uc,uf,ur,ub,rfl,hd,K⟩:=hk
 have hd:=hd.mono K.p
 obtain⟨p1,c1,rfl⟩:=RdL.form hd.prods
 obtain⟨p2,c2,rfl⟩:=RdL.form hd.chains
 obtain⟨p3,c3,rfl⟩:=SlR.form hd.follows
 obtain⟨p4,c4,rfl⟩:=SlR.form hd.rejects
 obtain⟨p5,c5,rfl⟩:=RdL.form hd.boxes
 have l1:d.prods.length≤140737488355328:=by have:=RdL.le hd.prods;omega
 have l2:d.chains.length≤140737488355328:=by have:=RdL.le hd.chains;omega
 have l3:d.follows.length≤140737488355328:=by have:=hd.follows.1;omega
 have l4:d.rejects.length≤140737488355328:=by have:=hd.rejects.1;omega
 have l5:d.boxes.length≤140737488355328:=by have:=RdL.le hd.boxes;omega
 obtain⟨es,hm,hes⟩:=K.m
 have hb:=K.b
 unfold Def.val at hb
 simp only[List.cons_append,List.nil_append] at hb
 have hkk:=Xh es
 have hss:RdNames h sv (Qm d.prods):=K.s.sl (b:=16) (by have:=Xw (ps:=d.prods);have:=RdL.le hd.prods;omega)
 obtain⟨pq,cq,rfl⟩:=hss.form
 refine fe Tryz.func79 ?_;simp only[push_cast]
 refine zw1 hb ?_
 refine Qy d.chains.length (fun k (x:Heap)=>[(0,.val (.pointer (some ⟨ib,0,some 0⟩))),(15,.val (.slice p2 d.chains.length c2)),(16,.val (i64 d.chains.length)),(17,.val (i64 k))]) (fun _ x=>x) (fun k x=>h <+: x∧∀ i (hi:i<d.chains.length),i<k→chainOK d.prods (Yr d.chains[i])) h zg0 rfl ⟨List.prefix_refl _,fun i _ hi=>absurd hi om⟩ ?_
 rintro k h1 hkn ⟨hp,hall⟩
 by_cases hlt:k<d.chains.length
 ·obtain⟨id,ver,own,c',cells,u,hv,hid0,hrd,hu⟩:=RdL.at (k:=1) (fun _ _=>rfl) hd.chains hlt
  cases hv
  have hid:=Qc hp hid0
  have hu0:=hu
  obtain⟨ps,cs,rfl⟩:=RdL.form hu
  have hg:=Qci hrd om
  simp only[List.getElem?_cons_zero,Nat.mul_one] at hg
  have w1:=rng hlt
  have w2:=inc hlt l2
  have q3:=Qv hlt
  have hcl:d.chains[k].length≤140737488355328:=by have:=RdL.le hu0;omega
  refine zw1 q3 ?_
  refine Qb rfl ?_
  refine zw4 w1 hid hg Nat.mul_one ?_
  refine Qcv (kt:=9) (et:=3) zf0 rfl kr ?_
  have hp2:h <+: h1++[HObj.map []]:=Yl hp
  have hm0:(h1++[HObj.map []])[h1.length]? = some (.map (smE [])):=Qp
  have hlen:=hp.length_le
  generalize (h1++[HObj.map []])=h2 at hp2 hm0 ⊢
  generalize him:h1.length=im at hm0 hlen ⊢
  refine zw0 ?_
  refine Qy d.chains[k].length (fun m (x:Heap×List (ByteArray×Int))=>[(0,.val (.pointer (some ⟨ib,0,some 0⟩))),(6,.val (.map (some im))),(15,.val (.slice (some ⟨id,0,some ver⟩) d.chains.length c2)),(16,.val (i64 d.chains.length)),(17,.val (i64 k)),(22,.val (.slice ps d.chains[k].length cs)),(23,.val (i64 d.chains[k].length)),(24,.val (i64 m))]) (fun _ x=>x.1)
   (fun m x=>h <+: x.1∧x.1[im]? = some (.map (smE x.2))∧PI d.prods x.2 (Yr (d.chains[k].take m))) (h2,[]) zg0 rfl ⟨hp2,hm0,PI.nil⟩ ?_
  rintro m ⟨hk3,es3⟩ hmn ⟨hp3,hm3,hPI3⟩
  simp only at hp3 hm3 hPI3 ⊢
  by_cases hml:m<d.chains[k].length
  ·obtain⟨id3,ver3,own3,c3',cells3,u3,hv3,hid3,hrd3,hu3⟩:=RdL.at (k:=2) (fun _ _=>rfl) (hu0.mono hp3) hml
   cases hv3
   have hu3:RdNames hk3 u3 (d.chains[k])[m].cons:=hu3
   obtain⟨id30,ver30,own30,c30',cells30,u30,hv30,hid30,hrd30,hu30⟩:=RdL.at (k:=2) (fun _ _=>rfl) hu0 hml
   cases hv30
   have hu3e:u30=u3:=by
    have:=(Qc hp3 hid30).symm.trans hid3
    cases this
    rw[hrd30] at hrd3
    simpa using hrd3
   subst hu3e
   have hu30:RdNames h u30 (d.chains[k])[m].cons:=hu30
   obtain⟨p6,c6,rfl⟩:=SlR.form hu30
   have hul:=RdNames.le hu30
   have v7:=rng hml
   have v8:=inc hml hcl
   have q4:=Qv hml
   refine zw1 q4 ?_
   refine Qb rfl ?_
   refine zw3 v7 hid3 hrd3 ?_
   have z0:((d.chains[k])[m].cons.take 0)=[]:=rfl
   refine Qy (d.chains[k])[m].cons.length (fun j (x:Heap×List (ByteArray×Int))=>[(0,.val (.pointer (some ⟨ib,0,some 0⟩))),(6,.val (.map (some im))),(15,.val (.slice (some ⟨id,0,some ver⟩) d.chains.length c2)),(16,.val (i64 d.chains.length)),(17,.val (i64 k)),(22,.val (.slice (some ⟨id3,0,some ver3⟩) d.chains[k].length cs)),(23,.val (i64 d.chains[k].length)),(24,.val (i64 m)),(29,.val (.slice p6 (d.chains[k])[m].cons.length c6)),(30,.val (i64 (d.chains[k])[m].cons.length)),(31,.val (i64 j))]) (fun _ x=>x.1)
    (fun j x=>h <+: x.1∧x.1[im]? = some (.map (smE x.2))∧PI d.prods x.2 (Yr (d.chains[k].take m)++(d.chains[k])[m].cons.take j)) (hk3,es3) zg0 rfl ⟨hp3,hm3,by rw[z0,List.append_nil];exact hPI3⟩ ?_
   rintro j ⟨hk4,es4⟩ hjn ⟨hp4,hm4,hPI4⟩
   simp only at hp4 hm4 hPI4 ⊢
   by_cases hjl:j<(d.chains[k])[m].cons.length
   ·obtain⟨id5,ver5,own5,c5',cells5,hv5,hid5,hc5⟩:=(hu30.mono hp4).at hjl
    cases hv5
    have v1:=rng hjl
    have v2:=inc hjl hul
    have v3:=Qv hjl
    have hb4:=Qc hp4 hb
    have hkk4:=Xh es4
    refine zw1 v3 ?_
    refine Qb rfl ?_
    refine zw5 v1 hid5 hc5 hb4 Nat.mul_one ?_
    refine zj Tryz.func24 ?_
    refine (Qhh (hd.mono hp4)).mono ?_
    rintro _ h5 ⟨⟨ci,hci,rfl⟩,rfl⟩
    by_cases qc:ci<0
    ·have dc:=decide_eq_true qc
     refine zw1 dc ?_
     refine Qb rfl ?_
     refine zw0 ?_
     refine Qd ?_
     refine⟨_,zf0,⟨50,_,rfl,⟨fun h=>(by cases h),fun h=>?_⟩⟩,hp4⟩
     have hc:=h _ (List.getElem_mem hlt)
     obtain⟨t,ht⟩:=Qju (c:=d.chains[k]) (k:=m) (j:=j+1) hml
     rw[ht] at hc
     have hc:=hc.pre
     rw[List.take_succ_eq_append_getElem hjl,← List.append_assoc] at hc
     exfalso
     obtain⟨i,h1,h2⟩:=hc.1 _ (List.mem_append_right _ (List.mem_singleton.2 rfl))
     have:=h1.uniq hci
     omega
    ·have dc:=decide_eq_false qc
     have hgx:=hPI4.g (d.chains[k])[m].cons[j]
     rcases Jg es4 (d.chains[k])[m].cons[j] with ⟨hg4,hn0⟩ | hg4
     ·have w9:IntKind.i64.wrap (0+1)=1:=by decide
      refine zw4 dc hm4 hg4 hkk4 ?_
      refine Qa rfl ?_
      refine zw4 hm4 hg4 hkk4 w9 ?_
      refine Jj (kt:=9) (et:=3) (kd:=Zr) zf0 rfl rfl kr rfl zf0 hm4 zf0 zf0 rfl hkk4 ?_
      dsimp only
      rw[Zc]
      refine zw1 v2 ?_
      refine⟨hjl,(h5.set im (.map (smE (mPut es4 ((d.chains[k])[m].cons[j]) 1))),mPut es4 ((d.chains[k])[m].cons[j]) 1),zg0,rfl,Xa hp4 om,Qh hm4,?_⟩
      rw[List.take_succ_eq_append_getElem hjl,← List.append_assoc]
      exact hPI4.add ⟨ci,hci,by omega⟩ hn0
     ·by_cases hmm:(d.chains[k])[m].cons[j]∈Yr (d.chains[k].take m)++(d.chains[k])[m].cons.take j
      ·rw[if_pos (memB_iff.2 hmm)] at hgx
       rw[hgx] at hg4
       refine zw4 dc hm4 hg4 hkk4 ?_
       refine Qb rfl ?_
       refine zw0 ?_
       refine Qd ?_
       refine⟨_,zf0,⟨50,_,rfl,⟨fun h=>(by cases h),fun h=>?_⟩⟩,hp4⟩
       have hc:=h _ (List.getElem_mem hlt)
       obtain⟨t,ht⟩:=Qju (c:=d.chains[k]) (k:=m) (j:=j+1) hml
       rw[ht] at hc
       have hc:=hc.pre
       rw[List.take_succ_eq_append_getElem hjl,← List.append_assoc] at hc
       exfalso
       exact (List.nodup_append.1 hc.2).2.2 _ hmm _ (List.mem_singleton.2 rfl) rfl
      ·rw[if_neg (fun k=>hmm (memB_iff.1 k))] at hgx
       have hn0:=hgx
       rw[hgx] at hg4
       have w9:IntKind.i64.wrap (0+1)=1:=by decide
       refine zw4 dc hm4 hg4 hkk4 ?_
       refine Qa rfl ?_
       refine zw4 hm4 hg4 hkk4 w9 ?_
       refine Jj (kt:=9) (et:=3) (kd:=Zr) zf0 rfl rfl kr rfl zf0 hm4 zf0 zf0 rfl hkk4 ?_
       dsimp only
       rw[Zc]
       refine zw1 v2 ?_
       refine⟨hjl,(h5.set im (.map (smE (mPut es4 ((d.chains[k])[m].cons[j]) 1))),mPut es4 ((d.chains[k])[m].cons[j]) 1),zg0,rfl,Xa hp4 om,Qh hm4,?_⟩
       rw[List.take_succ_eq_append_getElem hjl,← List.append_assoc]
       exact hPI4.add ⟨ci,hci,by omega⟩ hn0
   ·have v3:=Qu hjl
    obtain rfl:j=(d.chains[k])[m].cons.length:=by omega
    rw[List.take_length,← Qit hml] at hPI4
    refine zw1 v3 ?_
    refine Qa rfl ?_
    refine Qj ?_
    show CW _ _ _ _
    refine zw1 v8 ?_
    exact⟨hml,(hk4,es4),zg0,rfl,hp4,hm4,hPI4⟩
  ·have q4:=Qu hml
   obtain rfl:m=d.chains[k].length:=by omega
   rw[List.take_length] at hPI3
   refine zw1 q4 ?_
   refine Qa rfl ?_
   refine Qj ?_
   show CW _ _ _ _
   refine zw1 w2 ?_
   refine⟨hlt,hk3,zg0,rfl,hp3,fun i hi h2=>?_⟩
   rcases (by omega:i<k∨i=k) with h4|rfl
   ·exact hall i hi h4
   ·exact hPI3.o
 ·have e3:=Qu hlt
  obtain rfl:k=d.chains.length:=by omega
  refine zw1 e3 ?_
  refine Qa rfl ?_
  refine Qj ?_
  show CW _ _ _ _
  refine zw0 ?_
  refine Qd ?_
  refine⟨_,zf0,⟨0,_,rfl,fun _ p hp=>?_,fun _=>rfl⟩,hp⟩
  obtain⟨i,hi,rfl⟩:=List.getElem_of_mem hp
  exact hall i hi hi
end
theorem Qf9:∀ {n:Nat} {l:List Nat},l.Nodup→(∀ i∈l,i<n)→l.length≤n
 | 0,l,_,h=>by
   cases l with
   | nil=>simp
   | cons a l=>exact absurd (h a List.mem_cons_self) om
 | n+1,l,hd,h=>by
   have h1:(l.filter (fun i=>decide (i≠n))).length≤n:=Qf9 (hd.filter _) fun i hi=>by
    have:=List.mem_filter.1 hi
    have h2:=h i this.1
    have h3:=of_decide_eq_true this.2
    omega
   have h2:∀ l:List Nat,l.Nodup→l.length≤(l.filter (fun i=>decide (i≠n))).length+1:=by
    intro l
    induction l with
    | nil=>intro _;simp
    | cons a l ih=>
      intro hd
      rw[List.nodup_cons] at hd
      by_cases e:a=n
      ·subst e
       have:(l.filter (fun i=>decide (i≠a)))=l:=List.filter_eq_self.2 fun i hi=>decide_eq_true fun e=>hd.1 (e▸hi)
       rw[List.filter_cons,if_neg (by simp),this]
       simp
      ·rw[List.filter_cons,if_pos (by simpa using e)]
       have:=ih hd.2
       simp only[List.length_cons]
       omega
   have:=h2 l hd
   omega
theorem Qal {l:List Nat} {i:Nat} (h:l.Nodup) (hi:i∉l):(l++[i]).Nodup:=by
 rw[List.nodup_append]
 exact⟨h,by simp,fun a ha b hb e=>hi (by rw[← List.mem_singleton.1 hb,← e];exact ha)⟩
def Zl (L:List ByteArray) (s:ByteArray):Nat:=L.countP fun x=>decide (s=x)
theorem Qob {L:List ByteArray} {x s:ByteArray}:Zl (L++[x]) s=Zl L s+(if s=x then 1 else 0):=by
 unfold Zl
 rw[List.countP_append,List.countP_singleton]
 by_cases h:s=x<;>simp [h]
theorem Qmu {L:List ByteArray} {s:ByteArray}:Zl L s≤L.length:=List.countP_le_length
def Qjr (d:Def):List ByteArray:=d.rejects.map (·.sort)++d.follows.map (·.sort)
def Qa0 (d:Def) (s:ByteArray):Bool:=decide (0<Zl (Qjr d) s)
def badA (d:Def) (x:Reject):Bool:=!Zo d.prods x.sort true||(!Zo d.prods x.by_ true||(decide (x.sort=x.by_)||Qa0 d x.by_))
def badJ (d:Def) (x:Reject) (j:Nat):Bool:=badA d x||(d.rejects.take j).any fun y=>decide (y.sort=x.sort)
theorem Qsi {d:Def} {x:Reject} {j:Nat} (hj:j<d.rejects.length):badJ d x (j+1)=(badJ d x j||decide (d.rejects[j].sort=x.sort)):=by
 unfold badJ
 rw[List.take_succ_eq_append_getElem hj,List.any_append,Bool.or_assoc]
 simp
def Qht (d:Def):Prop:=∀ (i:Nat) (hi:i<d.rejects.length),badJ d d.rejects[i] i=false∧∀ s,Rch d.prods (fun p=>Yg p.syms) d.rejects[i].by_ s→Qa0 d s=false
structure HI (es:List (ByteArray×Int)) (L:List ByteArray):Prop where
 g:∀ s,mGet es s=Zl L s
theorem HI.add {es:List (ByteArray×Int)} {L:List ByteArray} (H:HI es L) (x:ByteArray):HI (mPut es x (Zl L x+1)) (L++[x]):=
 ⟨fun s=>by
  rw[Zs,Qob,H.g]
  by_cases e:s=x
  ·subst e;simp
  ·simp [e]⟩
section
variable {h:Heap} {r:Value} {d:Def}
theorem Zx {α β:Type} {f:α→β} {l:List α} {k:Nat} (hk:k<l.length):(l.take (k+1)).map f=(l.take k).map f++[f l[k]]:=by
 rw[List.take_succ_eq_append_getElem hk,List.map_append]
 rfl
structure HR (h:Heap) (im:Nat) (x:Heap×List (ByteArray×Int)) (L:List ByteArray):Prop where
 p:h <+: x.1
 m:x.1[im]? = some (.map (smE x.2))
 i:HI x.2 L
theorem HR.put {h:Heap} {im:Nat} {x:Heap×List (ByteArray×Int)} {L:List ByteArray} (R:HR h im x L) (hl:h.length≤im) (s:ByteArray):HR h im (x.1.set im (.map (smE (mPut x.2 s (Zl L s+1)))),mPut x.2 s (Zl L s+1)) (L++[s]):=
 ⟨Xa R.p hl,Qh R.m,R.i.add s⟩
def Qdo (d:Def) (es:List (ByteArray×Int)) (i:Nat):Bool:=match es[i]? with
 | some p=>Qa0 d p.1
 | none=>false
theorem Qth (es:List (ByteArray×Int)):(smE es).all (fun p=>Jl p.1)=true:=by
 unfold smE
 rw[List.all_map,List.all_eq_true]
 intro x _
 rfl
theorem smE_at {es:List (ByteArray×Int)} {i:Nat} {k v:Value}:(smE es)[i]? = some (k,v)↔∃ p,es[i]? = some p∧k = .string p.1∧v=i64 p.2:=by
 unfold smE
 rw[List.getElem?_map]
 cases es[i]? with
 | none=>simp
 | some p=>simp [eq_comm]
theorem Qts {d:Def} {es:List (ByteArray×Int)} {seen:List Nat} (h1:∀ i∈seen,i<es.length) (h2:∀ i,i<es.length→i∈seen):seen.any (Qdo d es)=es.any fun p=>Qa0 d p.1:=by
 rw[Bool.eq_iff_iff,List.any_eq_true,List.any_eq_true]
 constructor
 ·rintro⟨i,hi,hs⟩
  have:=h1 i hi
  unfold Qdo at hs
  rw[List.getElem?_eq_getElem this] at hs
  exact⟨_,List.getElem_mem this,hs⟩
 ·rintro⟨p,hp,hs⟩
  obtain⟨i,hi,rfl⟩:=List.getElem_of_mem hp
  refine⟨i,h2 i hi,?_⟩
  unfold Qdo
  rw[List.getElem?_eq_getElem hi]
  exact hs
set_option maxHeartbeats 16000000 in
theorem Qr5 (hk:Bk h r d) (hpn:Ym d≤160):FW env 78 [r] h fun x h'=>LookR (Qht d) x∧h'=h:=by
 refine Qdu ?_
 have hk0:=hk
 have hU:(d.prods.flatMap fun p=>Yg p.syms).length≤100000:=by
  have:=Qk7 d.prods
  unfold Ym at hpn
  unfold nP at this
  omega
 obtain⟨h0,ib,im,sv,up,uc,uf,ur,ub,rfl,hd,K⟩:=hk
 have hd:=hd.mono K.p
 obtain⟨p1,c1,rfl⟩:=RdL.form hd.prods
 obtain⟨p2,c2,rfl⟩:=RdL.form hd.chains
 obtain⟨p3,c3,rfl⟩:=SlR.form hd.follows
 obtain⟨p4,c4,rfl⟩:=SlR.form hd.rejects
 obtain⟨p5,c5,rfl⟩:=RdL.form hd.boxes
 have l1:d.prods.length≤140737488355328:=by have:=RdL.le hd.prods;omega
 have l2:d.chains.length≤140737488355328:=by have:=RdL.le hd.chains;omega
 have l3:d.follows.length≤140737488355328:=by have:=hd.follows.1;omega
 have l4:d.rejects.length≤140737488355328:=by have:=hd.rejects.1;omega
 have l5:d.boxes.length≤140737488355328:=by have:=RdL.le hd.boxes;omega
 obtain⟨es,hm,hes⟩:=K.m
 have hb:=K.b
 unfold Def.val at hb
 simp only[List.cons_append,List.nil_append] at hb
 have hkk:=Xh es
 have hss:RdNames h sv (Qm d.prods):=K.s.sl (b:=16) (by have:=Xw (ps:=d.prods);have:=RdL.le hd.prods;omega)
 obtain⟨pq,cq,rfl⟩:=hss.form
 have b1:d.rejects.length≤160:=by unfold Ym at hpn;omega
 have b2:d.follows.length≤160:=by unfold Ym at hpn;omega
 refine fe Tryz.func78 ?_;simp only[push_cast]
 refine zu ?_
 iterate 2 (refine zx zp0 ?_)
 refine zu ?_
 refine Qcv (kt:=9) (et:=3) zf0 rfl kr ?_
 have hR0:HR h h.length (h++[HObj.map []],[]) []:=⟨Qo,Qp,⟨fun s=>rfl⟩⟩
 have him0:h.length≤h.length:=Nat.le_refl _
 have hb1:=Qc hR0.p hb
 simp only at hb1
 generalize (h++[HObj.map []])=h2 at hR0 hb1 ⊢
 generalize him:h.length=im at hR0 him0 ⊢
 refine zw1 hb1 ?_
 refine CW.mono (Q:=fun e s'=>e = .exit 0∧∃ x:Heap×List (ByteArray×Int),HR h im x (d.rejects.map (·.sort))∧s'.h=x.1∧SubL [(0,.val (.pointer (some ⟨ib,0,some 0⟩))),(4,.val (.map (some im)))] s'.fr) ?_ ?_
 ·refine Qy d.rejects.length (fun k (x:Heap×List (ByteArray×Int))=>[(0,.val (.pointer (some ⟨ib,0,some 0⟩))),(4,.val (.map (some im))),(20,.val (.slice p4 d.rejects.length c4)),(21,.val (i64 d.rejects.length)),(22,.val (i64 k))]) (fun _ x=>x.1) (fun k x=>HR h im x ((d.rejects.take k).map (·.sort))) (h2,[]) zg0 rfl hR0 ?_
  rintro k x hkn hR
  by_cases hlt:k<d.rejects.length
  ·obtain⟨id,ver,own,c',hv,hid⟩:=SlR.at (SlR.mono hd.rejects hR.p) om
   cases hv
   have hrd:=Qau hlt
   have e1:=rng hlt
   have e2:=inc hlt l4
   have e3:=Qv hlt
   have hm:=hR.m
   have hgk:=hR.i.g d.rejects[k].sort
   have hkk:=Xh x.2
   have hLb:=Qmu (L:=(d.rejects.take k).map (·.sort)) (s:=d.rejects[k].sort)
   have w9:IntKind.i64.wrap ((Zl ((d.rejects.take k).map (·.sort)) d.rejects[k].sort:Int)+1)=(Zl ((d.rejects.take k).map (·.sort)) d.rejects[k].sort:Int)+1:=Qg om (by simp only[List.length_append,List.length_map,List.length_take] at hLb;omega)
   refine zw1 e3 ?_
   refine Qb rfl ?_
   rcases Jg x.2 d.rejects[k].sort with ⟨hg,h0'⟩ | hg
   ·rw[hgk] at h0'
    rw[h0'] at w9
    refine zw7 e1 hid hrd hm hg hkk w9 ?_
    rw[show ((0:Int)+1)=(Zl ((d.rejects.take k).map (·.sort)) d.rejects[k].sort:Int)+1 by rw[h0']]
    refine Jj (kt:=9) (et:=3) (kd:=Zr) zf0 rfl rfl kr rfl zf0 hm zf0 zf0 rfl hkk ?_
    dsimp only
    rw[Zc]
    refine zw1 e2 ?_
    refine⟨hlt,(x.1.set im (.map (smE (mPut x.2 (d.rejects[k].sort) ((Zl ((d.rejects.take k).map (·.sort)) (d.rejects[k].sort):Int)+1)))),mPut x.2 (d.rejects[k].sort) ((Zl ((d.rejects.take k).map (·.sort)) (d.rejects[k].sort):Int)+1)),zg0,rfl,?_⟩
    show HR _ _ _ _
    rw[Zx hlt]
    exact hR.put om _
   ·rw[hgk] at hg
    refine zw7 e1 hid hrd hm hg hkk w9 ?_
    refine Jj (kt:=9) (et:=3) (kd:=Zr) zf0 rfl rfl kr rfl zf0 hm zf0 zf0 rfl hkk ?_
    dsimp only
    rw[Zc]
    refine zw1 e2 ?_
    refine⟨hlt,(x.1.set im (.map (smE (mPut x.2 (d.rejects[k].sort) ((Zl ((d.rejects.take k).map (·.sort)) (d.rejects[k].sort):Int)+1)))),mPut x.2 (d.rejects[k].sort) ((Zl ((d.rejects.take k).map (·.sort)) (d.rejects[k].sort):Int)+1)),zg0,rfl,?_⟩
    show HR _ _ _ _
    rw[Zx hlt]
    exact hR.put om _
  ·have e3:=Qu hlt
   obtain rfl:k=d.rejects.length:=by omega
   rw[List.take_length] at hR
   refine zw1 e3 ?_
   refine Qa rfl ?_
   refine Qj ?_
   exact⟨rfl,x,hR,rfl,zg0⟩
 clear hR0 hb1
 rintro e s' ⟨rfl,x1,hR1,hh,hf⟩
 show CW _ _ _ _
 refine Qi _ hf ?_
 rw[hh]
 clear hf hh s'
 have hb1:=Qc hR1.p hb
 refine zw1 hb1 ?_
 refine CW.mono (Q:=fun e s'=>e = .exit 2∧∃ x:Heap×List (ByteArray×Int),HR h im x (Qjr d)∧s'.h=x.1∧SubL [(0,.val (.pointer (some ⟨ib,0,some 0⟩))),(4,.val (.map (some im)))] s'.fr) ?_ ?_
 ·refine Qy d.follows.length (fun k (x:Heap×List (ByteArray×Int))=>[(0,.val (.pointer (some ⟨ib,0,some 0⟩))),(4,.val (.map (some im))),(36,.val (.slice p3 d.follows.length c3)),(37,.val (i64 d.follows.length)),(38,.val (i64 k))]) (fun _ x=>x.1) (fun k x=>HR h im x (d.rejects.map (·.sort)++(d.follows.take k).map (·.sort))) x1 zg0 rfl (by rw[List.take_zero,List.map_nil,List.append_nil];exact hR1) ?_
  clear hR1 hb1
  rintro k x hkn hR
  by_cases hlt:k<d.follows.length
  ·obtain⟨id,ver,own,c',hv,hid⟩:=SlR.at (SlR.mono hd.follows hR.p) om
   cases hv
   have hrd:=Qbn hlt
   have e1:=rng hlt
   have e2:=inc hlt l3
   have e3:=Qv hlt
   have hm:=hR.m
   have hgk:=hR.i.g d.follows[k].sort
   have hkk:=Xh x.2
   have hLb:=Qmu (L:=d.rejects.map (·.sort)++(d.follows.take k).map (·.sort)) (s:=d.follows[k].sort)
   have w9:IntKind.i64.wrap ((Zl (d.rejects.map (·.sort)++(d.follows.take k).map (·.sort)) d.follows[k].sort:Int)+1)=(Zl (d.rejects.map (·.sort)++(d.follows.take k).map (·.sort)) d.follows[k].sort:Int)+1:=Qg om (by simp only[List.length_append,List.length_map,List.length_take] at hLb;omega)
   refine zw1 e3 ?_
   refine Qb rfl ?_
   have hst:d.rejects.map (·.sort)++(d.follows.take (k+1)).map (·.sort)=(d.rejects.map (·.sort)++(d.follows.take k).map (·.sort))++[d.follows[k].sort]:=by rw[Zx hlt,List.append_assoc]
   rcases Jg x.2 d.follows[k].sort with ⟨hg,h0'⟩ | hg
   ·rw[hgk] at h0'
    rw[h0'] at w9
    refine zw7 e1 hid hrd hm hg hkk w9 ?_
    rw[show ((0:Int)+1)=(Zl (d.rejects.map (·.sort)++(d.follows.take k).map (·.sort)) d.follows[k].sort:Int)+1 by rw[h0']]
    refine Jj (kt:=9) (et:=3) (kd:=Zr) zf0 rfl rfl kr rfl zf0 hm zf0 zf0 rfl hkk ?_
    dsimp only
    rw[Zc]
    refine zw1 e2 ?_
    refine⟨hlt,(x.1.set im (.map (smE (mPut x.2 (d.follows[k].sort) ((Zl (d.rejects.map (·.sort)++(d.follows.take k).map (·.sort)) (d.follows[k].sort):Int)+1)))),mPut x.2 (d.follows[k].sort) ((Zl (d.rejects.map (·.sort)++(d.follows.take k).map (·.sort)) (d.follows[k].sort):Int)+1)),zg0,rfl,?_⟩
    show HR _ _ _ _
    rw[hst]
    exact hR.put om _
   ·rw[hgk] at hg
    refine zw7 e1 hid hrd hm hg hkk w9 ?_
    refine Jj (kt:=9) (et:=3) (kd:=Zr) zf0 rfl rfl kr rfl zf0 hm zf0 zf0 rfl hkk ?_
    dsimp only
    rw[Zc]
    refine zw1 e2 ?_
    refine⟨hlt,(x.1.set im (.map (smE (mPut x.2 (d.follows[k].sort) ((Zl (d.rejects.map (·.sort)++(d.follows.take k).map (·.sort)) (d.follows[k].sort):Int)+1)))),mPut x.2 (d.follows[k].sort) ((Zl (d.rejects.map (·.sort)++(d.follows.take k).map (·.sort)) (d.follows[k].sort):Int)+1)),zg0,rfl,?_⟩
    show HR _ _ _ _
    rw[hst]
    exact hR.put om _
  ·have e3:=Qu hlt
   obtain rfl:k=d.follows.length:=by omega
   rw[List.take_length] at hR
   refine zw1 e3 ?_
   refine Qa rfl ?_
   refine Qj ?_
   exact⟨rfl,x,hR,rfl,zg0⟩
 clear hR1 hb1
 rintro e s' ⟨rfl,x2,hR2,hh,hf⟩
 show CW _ _ _ _
 refine Qi _ hf ?_
 rw[hh]
 clear hf hh s'
 have hb2:=Qc hR2.p hb
 have hHI:=hR2.i
 obtain⟨h3,es3⟩:=x2
 have hp3:=hR2.p
 have hm3:=hR2.m
 simp only at hp3 hm3 hHI hb2
 have hkk3:=Xh es3
 clear hR2
 refine zw1 hb2 ?_
 refine Qy d.rejects.length (fun k (x:Heap)=>[(0,.val (.pointer (some ⟨ib,0,some 0⟩))),(4,.val (.map (some im))),(52,.val (.slice p4 d.rejects.length c4)),(53,.val (i64 d.rejects.length)),(54,.val (i64 k))]) (fun _ x=>x) (fun k x=>h3 <+: x∧∀ (i:Nat) (hi:i<d.rejects.length),i<k→badJ d d.rejects[i] i=false∧∀ s,Rch d.prods (fun p=>Yg p.syms) d.rejects[i].by_ s→Qa0 d s=false) h3 zg0 rfl ⟨List.prefix_refl _,fun i _ hi=>absurd hi om⟩ ?_
 rintro k hk4 hkn ⟨hp34,hall⟩
 have hp4:=hp3.trans hp34
 have hm4:=Qc hp34 hm3
 have hb4:=Qc hp34 hb2
 by_cases hlt:k<d.rejects.length
 ·obtain⟨id,ver,own,c',hv,hid⟩:=SlR.at (SlR.mono hd.rejects hp4) om
  cases hv
  have hrd:=Qau hlt
  have e1:=rng hlt
  have e2:=inc hlt l4
  have e3:=Qv hlt
  have hstep:(badJ d d.rejects[k] k=false∧∀ s,Rch d.prods (fun p=>Yg p.syms) d.rejects[k].by_ s→Qa0 d s=false)→∀ (i:Nat) (hi:i<d.rejects.length),i<k+1→badJ d d.rejects[i] i=false∧∀ s,Rch d.prods (fun p=>Yg p.syms) d.rejects[i].by_ s→Qa0 d s=false:=fun hq i hi h2=>by
   rcases (by omega:i<k∨i=k) with h4|rfl
   ·exact hall i hi h4
   ·exact hq
  have hfail:¬ (badJ d d.rejects[k] k=false∧∀ s,Rch d.prods (fun p=>Yg p.syms) d.rejects[k].by_ s→Qa0 d s=false)→¬ Qht d:=fun hq hr=>hq (hr k hlt)
  generalize hX:d.rejects[k]=x at hrd hstep hfail
  refine zw1 e3 ?_
  refine Qb rfl ?_
  refine zu ?_
  iterate 6 (refine zx (zp3 e1 hid hrd) ?_)
  apply zn
  show CW _ _ _ _
  apply zs
  refine CW.mono (Q:=fun e s'=>e = .normal∧s'.h=hk4∧SubL [(0,.val (.pointer (some ⟨ib,0,some 0⟩))),(4,.val (.map (some im))),(9,.val (i64 k)),(10,.box [.string x.sort,.string x.by_]),(11,.val (.bool (badA d x))),(52,.val (.slice (some ⟨id,0,some ver⟩) d.rejects.length c4)),(53,.val (i64 d.rejects.length)),(54,.val (i64 k))] s'.fr) ?_ ?_
  ·have hK4:=hk0.mono hp4
   refine zw0 ?_
   refine zj Tryz.func132 ?_
   refine (Qer hK4).mono ?_
   rintro _ h5 ⟨rfl,e5⟩
   obtain rfl:=e5.symm
   cases g1:Zo d.prods x.sort true with
   | false=>
     refine zw0 ?_
     rw[show badA d x=true by unfold badA;rw[g1];rfl]
     exact⟨rfl,rfl,zg0⟩
   | true=>
   refine zw0 ?_
   refine zj Tryz.func132 ?_
   refine (Qer hK4).mono ?_
   rintro _ h5 ⟨rfl,e5⟩
   obtain rfl:=e5.symm
   cases g2:Zo d.prods x.by_ true with
   | false=>
     refine zw0 ?_
     rw[show badA d x=true by unfold badA;rw[g1,g2];rfl]
     exact⟨rfl,rfl,zg0⟩
   | true=>
   by_cases q:x.sort=x.by_
   ·have dq:=decide_eq_true q
    refine zw1 dq ?_
    rw[show badA d x=true by unfold badA;rw[g1,g2,dq];rfl]
    exact⟨rfl,rfl,zg0⟩
   have dq:=decide_eq_false q
   have hgk:=hHI.g x.by_
   have hB:badA d x=decide ((0:Int)<((Zl (Qjr d) x.by_:Nat):Int)):=by
    unfold badA Qa0
    rw[g1,g2,dq]
    by_cases q0:0<Zl (Qjr d) x.by_
    ·rw[decide_eq_true q0,decide_eq_true om];rfl
    ·rw[decide_eq_false q0,decide_eq_false om];rfl
   rw[hB]
   rcases Jg es3 x.by_ with ⟨hg,h0'⟩ | hg
   ·rw[hgk] at h0'
    rw[h0']
    refine zw4 dq hm4 hg hkk3 ?_
    exact⟨rfl,rfl,zg0⟩
   ·rw[hgk] at hg
    refine zw4 dq hm4 hg hkk3 ?_
    exact⟨rfl,rfl,zg0⟩
  rintro e s' ⟨rfl,hh,hf⟩
  show CW _ _ _ _
  refine Qi _ hf ?_
  rw[hh]
  clear hf hh s'
  have d5:(0≤(k:Int)∧(k:Int)≤(d.rejects.length:Int))=True:=by simp;omega
  have z0:badJ d x 0=badA d x:=by simp [badJ]
  repeat (first|apply zs|apply zr|apply zn|((first|apply zx|apply zy);·simp only[push_cast,env,Nat.reduceEqDiff,reduceIte,Nat.reduceAdd,Nat.reduceMul,Nat.reduceLeDiff,reduceCtorEq,Nat.reduceSub,Int.reduceToNat,hb4,d5,hid,Nat.zero_mul,Int.sub_zero]<;>first|exact rfl|exact .inl rfl|exact .inr rfl) | apply zq|apply zb|apply zo|apply zk|apply zl)
  refine CW.mono (Q:=fun e s'=>e = .exit 6∧s'.h=hk4∧SubL [(0,.val (.pointer (some ⟨ib,0,some 0⟩))),(4,.val (.map (some im))),(10,.box [.string x.sort,.string x.by_]),(11,.val (.bool (badJ d x k))),(52,.val (.slice (some ⟨id,0,some ver⟩) d.rejects.length c4)),(53,.val (i64 d.rejects.length)),(54,.val (i64 k))] s'.fr) ?_ ?_
  ·refine Yq k (fun j=>[(0,.val (.pointer (some ⟨ib,0,some 0⟩))),(4,.val (.map (some im))),(10,.box [.string x.sort,.string x.by_]),(11,.val (.bool (badJ d x j))),(52,.val (.slice (some ⟨id,0,some ver⟩) d.rejects.length c4)),(53,.val (i64 d.rejects.length)),(54,.val (i64 k)),(91,.val (.slice (some ⟨id,0,some ver⟩) k k)),(92,.val (i64 k)),(93,.val (i64 j))]) (fun _=>hk4) (fun _=>True) (zg1 z0) rfl trivial ?_
   intro j hjn _
   by_cases hjl:j<k
   ·have hjr:j<d.rejects.length:=by omega
    have hrj:=Qau hjr
    have v1:=rng hjl
    have v2:=inc hjl om
    have v3:=Qv hjl
    have hst:=Qsi (x:=x) hjr
    refine zw1 v3 ?_
    refine Qb rfl ?_
    refine zw4 v1 hid hrj v2 ?_
    exact⟨hjl,(zg1 hst),rfl,trivial⟩
   ·have v3:=Qu hjl
    obtain rfl:j=k:=by omega
    refine zw1 v3 ?_
    refine Qa rfl ?_
    refine Qj ?_
    exact⟨rfl,rfl,zg0⟩
  rintro e s' ⟨rfl,hh,hf⟩
  show CW _ _ _ _
  refine Qi _ hf ?_
  rw[hh]
  clear hf hh s'
  refine zw0 ?_
  refine zj Tryz.func135 ?_
  refine (Qje (st:=fun p=>Yg p.syms) (hk0.mono hp4) Tryz.func128 kr kr hU (fun p _ u h1 _ hy=>Ql2 hy)).mono ?_
  rintro _ h6 ⟨hp6,im6,es6,rfl,_,hm6,hR6⟩
  have hm4':=Qc hp6 hm4
  refine Quq (kt:=9) (et:=3) (es:=smE es6) zf0 rfl rfl kr zf0 hm6 ?_
  have hl6:(smE es6).length=es6.length:=by unfold smE;rw[List.length_map]
  rw[hl6]
  apply zn
  show CW _ _ _ _
  refine Qub (e:=.normal) [(0,.val (.pointer (some ⟨ib,0,some 0⟩))),(4,.val (.map (some im))),(10,.box [.string x.sort,.string x.by_]),(11,.val (.bool (badJ d x k||es6.any fun p=>Qa0 d p.1))),(52,.val (.slice (some ⟨id,0,some ver⟩) d.rejects.length c4)),(53,.val (i64 d.rejects.length)),(54,.val (i64 k))] h6 ?_ ?_
  ·refine Qnq ?_
   refine Qqa (fun m s=>∃ seen:List Nat,m+seen.length=es6.length∧seen.Nodup∧(∀ i∈seen,i<es6.length)∧s.h=h6∧SubL [(0,.val (.pointer (some ⟨ib,0,some 0⟩))),(4,.val (.map (some im))),(10,.box [.string x.sort,.string x.by_]),(11,.val (.bool (badJ d x k||seen.any (Qdo d es6)))),(52,.val (.slice (some ⟨id,0,some ver⟩) d.rejects.length c4)),(53,.val (i64 d.rejects.length)),(54,.val (i64 k)),(110,.itr im6 es6.length seen)] s.fr) es6.length ⟨[],by simp,.nil,by simp,rfl,?_⟩ ?_
   ·rw[List.any_nil,Bool.or_false]
    exact zg0
   rintro m s ⟨seen,hms,hnd,hlt6,hh,hf⟩
   refine Qad _ hf ?_
   rw[hh]
   clear hf hh s
   refine Qil (R:=fun e s'=>e = .normal∧s'.h=h6∧(((∀ i,i<es6.length→i∈seen)∧SubL [(0,.val (.pointer (some ⟨ib,0,some 0⟩))),(4,.val (.map (some im))),(10,.box [.string x.sort,.string x.by_]),(11,.val (.bool (badJ d x k||seen.any (Qdo d es6)))),(52,.val (.slice (some ⟨id,0,some ver⟩) d.rejects.length c4)),(53,.val (i64 d.rejects.length)),(54,.val (i64 k)),(112,.val (.bool false))] s'.fr)∨∃ i p,es6[i]? = some p∧i∉seen∧SubL [(0,.val (.pointer (some ⟨ib,0,some 0⟩))),(4,.val (.map (some im))),(10,.box [.string x.sort,.string x.by_]),(11,.val (.bool (badJ d x k||seen.any (Qdo d es6)))),(52,.val (.slice (some ⟨id,0,some ver⟩) d.rejects.length c4)),(53,.val (i64 d.rejects.length)),(54,.val (i64 k)),(110,.itr im6 es6.length (seen++[i])),(112,.val (.bool true))] s'.fr)) ?_ ?_ ?_
   ·refine Qpi (es:=smE es6) rfl rfl rfl rfl (by decide) rfl hm6 hl6 (Qth es6) (fun hA=>?_) (fun i kk v hkv hi=>?_)
    ·refine zw0 ?_
     exact⟨rfl,rfl,.inl ⟨hA,zg0⟩⟩
    ·rw[smE_at] at hkv
     obtain⟨p,hp,e1,e2⟩:=hkv
     refine zw0 ?_
     exact⟨rfl,rfl,.inr ⟨i,p,hp,hi,zg0⟩⟩
   ·rintro e s' ⟨rfl,_⟩ he
    exact absurd rfl he
   ·rintro s' ⟨_,hh,⟨hA,hf⟩ | ⟨i,p,hp,hi,hf⟩⟩
    ·refine Qad _ hf ?_
     rw[hh]
     clear hf hh s'
     refine SW.of ?_
     refine zu ?_
     refine Qa rfl ?_
     refine Qj ?_
     refine .inr ⟨by simp,?_⟩
     refine⟨rfl,?_,rfl⟩
     rw[Qts hlt6 hA]
     exact zg0
    ·refine Qad _ hf ?_
     rw[hh]
     clear hf hh s'
     refine SW.of ?_
     refine zu ?_
     refine Qb rfl ?_
     refine Xx ?_
     show CW _ _ _ _
     have hpe:(smE es6)[i]? = some (.string p.1,i64 p.2):=smE_at.2 ⟨p,hp,rfl,rfl⟩
     have hgl:(seen++[i]).getLast? = some i:=by simp
     have hi6:=(List.getElem?_eq_some_iff.1 hp).1
     have hlt7:∀ q∈seen++[i],q<es6.length:=fun q hq=>by
      rcases List.mem_append.1 hq with hq|hq
      ·exact hlt6 q hq
      ·rw[List.mem_singleton.1 hq];exact hi6
     have hlen:=Qf9 (Qal hnd hi) hlt7
     rw[List.length_append,List.length_singleton] at hlen
     obtain⟨m',rfl⟩:∃ m',m=m'+1:=⟨m-1,by omega⟩
     have hsb:Qdo d es6 i=Qa0 d p.1:=by unfold Qdo;rw[hp]
     have hst:(badJ d x k||(seen++[i]).any (Qdo d es6))=((badJ d x k||seen.any (Qdo d es6))||Qa0 d p.1):=by
      rw[List.any_append,← Bool.or_assoc,List.any_cons,List.any_nil,Bool.or_false,hsb]
     cases hB:(badJ d x k||seen.any (Qdo d es6)) with
     | true=>
       rw[hB,Bool.true_or] at hst
       refine zw4 hm6 hl6 hgl hpe ?_
       refine .inl ⟨rfl,m',rfl,seen++[i],by rw[List.length_append,List.length_singleton];omega,Qal hnd hi,hlt7,rfl,?_⟩
       rw[hst]
       exact zg0
     | false=>
       rw[hB,Bool.false_or] at hst
       have hgk:=hHI.g p.1
       have hhb:Qa0 d p.1=decide ((0:Int)<((Zl (Qjr d) p.1:Nat):Int)):=by
        unfold Qa0
        by_cases q0:0<Zl (Qjr d) p.1
        ·rw[decide_eq_true q0,decide_eq_true om]
        ·rw[decide_eq_false q0,decide_eq_false om]
       rw[hhb] at hst
       rcases Jg es3 p.1 with ⟨hg,h0'⟩ | hg
       ·rw[hgk] at h0'
        rw[h0'] at hst
        refine zw7 hm6 hl6 hgl hpe hm4' hg hkk3 ?_
        refine .inl ⟨rfl,m',rfl,seen++[i],by rw[List.length_append,List.length_singleton];omega,Qal hnd hi,hlt7,rfl,?_⟩
        rw[hst]
        exact zg0
       ·rw[hgk] at hg
        refine zw7 hm6 hl6 hgl hpe hm4' hg hkk3 ?_
        refine .inl ⟨rfl,m',rfl,seen++[i],by rw[List.length_append,List.length_singleton];omega,Qal hnd hi,hlt7,rfl,?_⟩
        rw[hst]
        exact zg0
  ·show CW _ _ _ _
   have hRk:∀ s,mGet es6 s≠0↔Rch d.prods (fun p=>Yg p.syms) x.by_ s:=fun s=>hR6.done
   cases hB:(badJ d x k||es6.any fun p=>Qa0 d p.1) with
   | true=>
     refine zw0 ?_
     refine Qb rfl ?_
     refine zw0 ?_
     refine Qt 3 Qq kr ?_
     refine zw0 ?_
     refine Qd ?_
     refine⟨_,zf0,⟨49,_,rfl,⟨fun h=>(by cases h),fun h=>absurd h (hfail fun hq=>?_)⟩⟩,hp4.trans hp6⟩
     rw[hq.1,Bool.false_or,List.any_eq_true] at hB
     obtain⟨p,hp,hh⟩:=hB
     rw[hq.2 _ ((hRk _).1 (Qyy hR6.k hp))] at hh
     cases hh
   | false=>
     refine zw0 ?_
     refine Qa rfl ?_
     refine zw1 e2 ?_
     refine⟨hlt,h6,zg0,rfl,hp34.trans hp6,hstep ⟨?_,fun s hs=>?_⟩⟩
     ·cases e:badJ d x k with
      | false=>rfl
      | true=>rw[e] at hB;cases hB
     ·obtain⟨p,hp,rfl⟩:=Qyx ((hRk s).2 hs)
      cases e:Qa0 d p.1 with
      | false=>rfl
      | true=>
        have:(es6.any fun p=>Qa0 d p.1)=true:=List.any_eq_true.2 ⟨p,hp,e⟩
        rw[this,Bool.or_true] at hB
        cases hB
 ·have e3:=Qu hlt
  obtain rfl:k=d.rejects.length:=by omega
  refine zw1 e3 ?_
  refine Qa rfl ?_
  refine Qj ?_
  show CW _ _ _ _
  refine zw0 ?_
  refine Qd ?_
  exact⟨_,zf0,⟨0,_,rfl,fun _ i hi=>hall i hi hi,fun _=>rfl⟩,hp4⟩
end
section
variable {h:Heap}
theorem Qsa {s:Sym} (hw:SymWf s):FW env 202 [s.val] h fun r h'=>r = .bool (!Xc s)∧h'=h:=by
 refine fe Tryz.func202 ?_;simp only[push_cast]
 refine zw0 ?_
 refine zj Tryz.func203 ?_
 refine (Qmh hw).mono ?_
 rintro _ h1 ⟨rfl,rfl⟩
 refine zw0 ?_
 refine Qd ?_
 exact⟨_,zf0,rfl,rfl⟩
set_option maxHeartbeats 4000000 in
theorem Qtu {p:Prod} {u:Value} (hy:RdYs h u p.syms) (hw:ProdWf p):FW env 171 [p.val u] h fun r h'=>r = .bool (Yb p)∧h'=h:=by
 have hy0:=hy
 obtain⟨ps,cs,rfl⟩:=SlR.form hy
 refine fe Tryz.func171 ?_;simp only[push_cast]
 refine zw0 ?_
 refine zj Tryz.func170 ?_
 refine (Zi hw.sort).mono ?_
 rintro _ h1 ⟨rfl,rfl⟩
 rw[Qav]
 cases g1:Xo p.sort with
 | false=>
   refine zw0 ?_
   refine Qb rfl ?_
   refine zw0 ?_
   refine Qd ?_
   exact⟨_,zf0,by simp [resV,Yb,g1],rfl⟩
 | true=>
   refine zw0 ?_
   refine zj Tryz.func170 ?_
   refine (Zi hw.cons).mono ?_
   rintro _ h1 ⟨rfl,rfl⟩
   cases g2:Qa9 p.cons true with
   | false=>
     refine zw0 ?_
     refine Qb rfl ?_
     refine zw0 ?_
     refine Qd ?_
     exact⟨_,zf0,by simp [resV,Yb,g1,g2],rfl⟩
   | true=>
     by_cases q3:p.syms.length=0
     ·have d3:decide ((p.syms.length:Int)=0)=true:=decide_eq_true om
      refine zw1 d3 ?_
      refine Qb rfl ?_
      refine zw0 ?_
      refine Qd ?_
      exact⟨_,zf0,by simp [resV,Yb,g1,g2,q3],rfl⟩
     have d3:decide ((p.syms.length:Int)=0)=false:=decide_eq_false om
     by_cases q4:p.syms.length≤12
     ·have d4:decide ((12:Int)<(p.syms.length:Int))=false:=decide_eq_false om
      refine zw2 d3 d4 ?_
      refine Qa rfl ?_
      refine zw0 ?_
      refine Ze zf0 (fun b1=>?_) (fun b1=>?_)
      ·have b2:(if p.lex=true then !p.bracket else (p.bracket == emB p.cons))=false:=by
        revert b1
        unfold emB
        cases p.lex<;>cases p.bracket<;>cases decide (p.cons=⟨#[]⟩)<;>simp
       refine zw0 ?_
       refine Qd ?_
       exact⟨_,zf0,by unfold Yb;rw[b2,Bool.false_and,Bool.and_false];rfl,rfl⟩
      ·have b2:(if p.lex=true then !p.bracket else (p.bracket == emB p.cons))=true:=by
        revert b1
        unfold emB
        cases p.lex<;>cases p.bracket<;>cases decide (p.cons=⟨#[]⟩)<;>simp
       refine zw0 ?_
       refine zj Tryz.func130 ?_
       refine (Qe7 (P:=fun s=>!Xc s) (cap:=[]) (g:=202) (fn:=Tryz.f202) hy0 Tryz.func202 kr kr (fun s hs=>Qsa (hw.syms s hs))).mono ?_
       rintro _ h1 ⟨rfl,rfl⟩
       refine zw0 ?_
       refine Qd ?_
       refine⟨_,zf0,?_,rfl⟩
       have e5:(!(p.syms.any fun s=>!Xc s))=p.syms.all Xc:=by
        rw[List.not_any_eq_all_not]
        simp
       unfold Yb
       rw[b2,g1,g2,decide_eq_true q3,decide_eq_true q4,← e5]
       rfl
     ·have d4:decide ((12:Int)<(p.syms.length:Int))=true:=decide_eq_true om
      refine zw2 d3 d4 ?_
      refine Qb rfl ?_
      refine zw0 ?_
      refine Qd ?_
      exact⟨_,zf0,by simp [resV,Yb,g1,g2,q4],rfl⟩
set_option maxHeartbeats 4000000 in
theorem Qrr {u:Value} {c:List Group} (hc:RdChain h u c) (hw:∀ g∈c,∀ s∈g.cons,s.size≤szB):FW env 172 [u] h fun r h'=>r = .bool (Zd c)∧h'=h:=by
 obtain⟨ps,cs,rfl⟩:=RdL.form hc
 have hl:c.length≤140737488355328:=by have:=RdL.le hc;omega
 refine fe Tryz.func172 ?_;simp only[push_cast]
 refine zw0 ?_
 refine Yq c.length (fun k=>[(0,.val (.slice ps c.length cs)),(7,.val (.slice ps c.length cs)),(8,.val (i64 c.length)),(9,.val (i64 k))]) (fun _=>h) (fun k=>∀ i (hi:i<c.length),i<k→Yp c[i]=true) zg0 rfl (fun i _ hi=>absurd hi om) ?_
 intro k hkn hall
 by_cases hlt:k<c.length
 ·obtain⟨id,ver,own,c',cells,u,hv,hid,hrd,hu⟩:=RdL.at (k:=2) (fun _ _=>rfl) hc hlt
  cases hv
  have hwk:=hw _ (List.getElem_mem hlt)
  obtain⟨p2,c2,rfl⟩:=SlR.form hu
  have hu0:=hu
  have e1:=rng hlt
  have e2:=inc hlt hl
  have e3:=Qv hlt
  have hstep:Yp c[k]=true→∀ i (hi:i<c.length),i<k+1→Yp c[i]=true:=fun h3 i hi h2=>by
   rcases (by omega:i<k∨i=k) with h4|rfl
   ·exact hall i hi h4
   ·exact h3
  have hgb:Yp c[k]=(decide (0≤c[k].assoc)&&(decide (c[k].assoc≤3)&&(decide (c[k].cons.length≠0)&&(decide (c[k].cons.length≤16)&&c[k].cons.all Xo)))):=rfl
  have hul:=RdNames.le hu
  generalize hGr:c[k]=G at hrd hu hu0 hwk hgb hul
  rw[hGr] at hstep
  refine zw1 e3 ?_
  refine Qb rfl ?_
  refine zw3 e1 hid hrd ?_
  refine Ze zf0 (fun b1=>?_) (fun b1=>?_)
  ·have b2:Yp G=false:=by
    rw[hgb]
    revert b1
    by_cases a1:0≤G.assoc<;>by_cases a2:G.assoc≤3<;>by_cases a3:G.cons.length=0<;>by_cases a4:G.cons.length≤16<;>simp [a1,a2,a3,a4]<;>omega
   refine zw0 ?_
   refine Qd ?_
   refine⟨_,zf0,?_,rfl⟩
   have:c.all Yp=false:=List.all_eq_false.2 ⟨_,List.getElem_mem hlt,by rw[hGr,b2];decide⟩
   unfold Zd
   rw[this]
   rfl
  have b2:Yp G=G.cons.all Xo:=by
   rw[hgb]
   revert b1
   by_cases a1:0≤G.assoc<;>by_cases a2:G.assoc≤3<;>by_cases a3:G.cons.length=0<;>by_cases a4:G.cons.length≤16<;>simp [a1,a2,a3,a4]<;>omega
  refine zw0 ?_
  refine Yq G.cons.length (fun j=>[(0,.val (.slice (some ⟨id,0,some ver⟩) c.length cs)),(7,.val (.slice (some ⟨id,0,some ver⟩) c.length cs)),(8,.val (i64 c.length)),(9,.val (i64 k)),(34,.val (.slice p2 G.cons.length c2)),(35,.val (i64 G.cons.length)),(36,.val (i64 j))]) (fun _=>h) (fun j=>∀ i (hi:i<G.cons.length),i<j→Xo G.cons[i]=true) zg0 rfl (fun i _ hi=>absurd hi om) ?_
  intro j hjn hallj
  by_cases hjl:j<G.cons.length
  ·obtain⟨id5,ver5,own5,c5',cells5,hv5,hid5,hc5⟩:=RdNames.at hu hjl
   cases hv5
   have v1:=rng hjl
   have v2:=inc hjl hul
   have v3:=Qv hjl
   refine zw1 v3 ?_
   refine Qb rfl ?_
   refine zw4 v1 hid5 hc5 Nat.mul_one ?_
   refine zj Tryz.func170 ?_
   refine (Zi (hwk _ (List.getElem_mem hjl))).mono ?_
   rintro _ h1 ⟨rfl,rfl⟩
   rw[Qav]
   cases hN:Xo G.cons[j] with
   | false=>
     refine zw0 ?_
     refine Qb rfl ?_
     refine zw0 ?_
     have b3:Yp G=false:=by
      rw[b2]
      exact List.all_eq_false.2 ⟨_,List.getElem_mem hjl,by rw[hN];decide⟩
     refine Qd ?_
     refine⟨_,zf0,?_,rfl⟩
     have:c.all Yp=false:=List.all_eq_false.2 ⟨_,List.getElem_mem hlt,by rw[hGr,b3];decide⟩
     unfold Zd
     rw[this]
     rfl
   | true=>
     refine zw0 ?_
     refine Qa rfl ?_
     refine zw1 v2 ?_
     refine⟨hjl,zg0,rfl,fun i hi h2=>?_⟩
     rcases (by omega:i<j∨i=j) with h4|rfl
     ·exact hallj i hi h4
     ·exact hN
  ·have v3:=Qu hjl
   obtain rfl:j=G.cons.length:=by omega
   refine zw1 v3 ?_
   refine Qa rfl ?_
   refine Qj ?_
   show CW _ _ _ _
   refine zw1 e2 ?_
   refine⟨hlt,zg0,rfl,hstep ?_⟩
   rw[b2,List.all_eq_true]
   intro x hx
   obtain⟨i,hi,rfl⟩:=List.getElem_of_mem hx
   exact hallj i hi hi
 ·have e3:=Qu hlt
  obtain rfl:k=c.length:=by omega
  refine zw1 e3 ?_
  refine Qa rfl ?_
  refine Qj ?_
  show CW _ _ _ _
  have hA:c.all Yp=true:=by
   rw[List.all_eq_true]
   intro x hx
   obtain⟨i,hi,rfl⟩:=List.getElem_of_mem hx
   exact hall i hi hi
  by_cases a3:c.length=0
  ·have d3:decide ((0:Int)<(c.length:Int))=false:=decide_eq_false om
   refine zw1 d3 ?_
   refine Qd ?_
   exact⟨_,zf0,by simp [resV,Zd,a3],rfl⟩
  ·have d3:decide ((0:Int)<(c.length:Int))=true:=decide_eq_true om
   refine zw1 d3 ?_
   refine Qd ?_
   refine⟨_,zf0,?_,rfl⟩
   unfold Zd
   rw[hA,decide_eq_true a3]
   by_cases a4:c.length≤16
   ·have d4:decide ((c.length:Int)≤16)=true:=decide_eq_true om
    simp [resV,d4,a4]
   ·have d4:decide ((c.length:Int)≤16)=false:=decide_eq_false om
    simp [resV,d4,a4]
end
theorem Qtn {l:List Item} {k:Nat} (hk:k<l.length):okL (l.take (k+1))=(okL (l.take k)&&okI l[k]):=by
 rw[Qha,Qha,List.take_succ_eq_append_getElem hk,List.all_append]
 simp
theorem Qq9 {l:List Item} {k:Nat} (hk:k<l.length):cntL (l.take (k+1))=cntL (l.take k)+1+cntL l[k].items:=by
 rw[Qdy,Qdy,Qj1 hk,List.length_take,List.length_take]
 omega
theorem Qzn {l:List Item} {k:Nat}:cntL (l.take k)≤cntL l:=by
 rw[Qdy,Qdy,List.length_take]
 have:=Qpz (l:=l) (k:=k)
 omega
theorem Qwe {l:List Item} {k:Nat} (h:okL l=true):okL (l.take k)=true:=by
 rw[Qha,List.all_eq_true] at *
 exact fun x hx=>h x (List.mem_of_mem_take hx)
theorem Qdt {h:Heap} {i:Nat} {o:HObj} (k:h[i]? = some o):h.set i o=h:=by
 refine List.ext_getElem? fun j=>?_
 by_cases e:i=j
 ·subst e
  rw[Qh k,k]
 ·rw[Qk e]
section
set_option maxHeartbeats 16000000 in
theorem Qsj {h0:Heap} {v:Value} {l:List Item} (hr:RdItems h0 v l):∀ {h:Heap} {il:Nat} {v0:Int},h0 <+: h→h0.length≤il→h[il]? = some (.arr [i64 v0] 0 true 3)→0≤v0→v0≤64 →
 FW env 173 [v,.pointer (some ⟨il,0,some 0⟩)] h fun r h'=>∃ (b:Bool) (v':Int),r = .bool b∧h'=h.set il (.arr [i64 v'] 0 true 3)∧(b=true→okL l=true∧v'=v0-cntL l∧0≤v')∧(b=false→¬ (okL l=true∧(cntL l:Int)≤v0)):=by
 induction hr with
 | @mk v l us hl hs hu ih=>
   intro h il v0 hp0 hil0 hil hv0 hv64
   obtain⟨p,c,rfl⟩:=hs.form
   have hle:=hs.1
   have hn:l.length≤140737488355328:=by omega
   have hlt_il:=Yn hil
   refine fe Tryz.func173 ?_;simp only[push_cast]
   refine zw0 ?_
   refine Qy l.length (fun k (m:Int)=>[(0,.val (.slice p l.length c)),(1,.val (.pointer (some ⟨il,0,some 0⟩))),(9,.val (.slice p l.length c)),(10,.val (i64 l.length)),(11,.val (i64 k))]) (fun _ m=>h.set il (.arr [i64 m] 0 true 3)) (fun k m=>m=v0-cntL (l.take k)∧0≤m∧okL (l.take k)=true) v0 zg0 (Qdt hil).symm ⟨by simp [cntL],hv0,rfl⟩ ?_
   intro k m hk ⟨hm,hm0,hok⟩
   have hilk:(h.set il (HObj.arr [i64 m] 0 true 3))[il]? = some (.arr [i64 m] 0 true 3):=Qh hil
   have hpk:h0 <+: h.set il (HObj.arr [i64 m] 0 true 3):=Xa hp0 hil0
   by_cases hlt:k<l.length
   ·obtain⟨id,ver,own,c',hv,hid⟩:=SlR.at (hs.mono hpk) om
    cases hv
    have e1:=rng hlt
    have e2:=inc hlt hn
    have e3:=Qv hlt
    have hi':k<us.length:=hl▸hlt
    have hg:=Qh3 hl hlt
    have hrec:=fun h il v0 a b c d e=>@ih k l[k] us[k] (by simp [hlt]) (by simp [hi']) h il v0 a b c d e
    obtain⟨pu,cu,huf⟩:∃ pu cu,us[k] = .slice pu l[k].items.length cu:=RdL.form (RdItems.iff.1 (hu k l[k] us[k] (by simp [hlt]) (by simp [hi'])))
    rw[huf] at hg hrec
    have ec:=Qq9 hlt
    have eo:=Qtn hlt
    rw[Xco] at eo
    have ecl:=Qzn (l:=l) (k:=k+1)
    have eol:okL l=true→okL (l.take (k+1))=true:=Qwe
    generalize hX:l[k]=x at hg hrec ec eo
    have w1:IntKind.i64.wrap (m-1)=m-1:=Qg om om
    refine zw1 e3 ?_
    refine Qb rfl ?_
    refine zw5 e1 hid hg hilk w1 ?_
    refine Yc (v:=i64 (m-1)) (vs:=[i64 (m-1)]) (cells':=[i64 (m-1)]) zf0 rfl rfl rfl zf0 hilk zf0 rfl rfl ?_
    dsimp only
    rw[List.set_set]
    have hil2:(h.set il (HObj.arr [i64 (m-1)] 0 true 3))[il]? = some (.arr [i64 (m-1)] 0 true 3):=Qh hil
    have hp2:h0 <+: h.set il (HObj.arr [i64 (m-1)] 0 true 3):=Xa hp0 hil0
    generalize hh2:h.set il (HObj.arr [i64 (m-1)] 0 true 3)=h2 at hil2 hp2 ⊢
    refine zu ?_
    iterate 9 (refine zx zp0 ?_)
    refine zu ?_
    iterate 1 (refine zx zp0 ?_)
    refine zu ?_
    iterate 2 (refine zx zp0 ?_)
    apply zn
    show CW _ _ _ _
    refine CW.mono (Q:=fun e s'=>e = .normal∧s'.h=h2∧∃ b,b=Qb0 x∧SubL [(0,.val (.slice (some ⟨id,0,some ver⟩) l.length c)),(1,.val (.pointer (some ⟨il,0,some 0⟩))),(6,.box [i64 x.kind,.string x.text,i64 x.n,.slice pu x.items.length cu]),(8,.val (.bool b)),(9,.val (.slice (some ⟨id,0,some ver⟩) l.length c)),(10,.val (i64 l.length)),(11,.val (i64 k))] s'.fr) ?_ ?_
    ·by_cases k1:x.kind=1
     ·have d1:=decide_eq_true k1
      refine zw1 d1 ?_
      refine Qb rfl ?_
      refine zw0 ?_
      refine⟨rfl,rfl,(decide ((x.text.size:Int)≤32)&&decide (x.n=0)&&decide ((x.items.length:Int)=0)),?_,zg0⟩
      obtain⟨k0,t0,n0,l0⟩:=x
      simp only[Item.kind,Item.text,Item.n,Item.items] at *
      simp [Qb0,Item.kind,Item.text,Item.n,Item.items,emB,Bool.and_assoc,k1]
     have d1:=decide_eq_false k1
     refine zw1 d1 ?_
     refine Qa rfl ?_
     by_cases k2:x.kind=2
     ·have d2:=decide_eq_true k2
      refine zw1 d2 ?_
      refine Qb rfl ?_
      refine zw0 ?_
      refine⟨rfl,rfl,(decide (x.text=⟨#[]⟩)&&(decide (0≤x.n)&&decide (x.n≤999999))&&decide ((x.items.length:Int)=0)),?_,zg0⟩
      obtain⟨k0,t0,n0,l0⟩:=x
      simp only[Item.kind,Item.text,Item.n,Item.items] at *
      simp [Qb0,Item.kind,Item.text,Item.n,Item.items,emB,Bool.and_assoc,k2]
     have d2:=decide_eq_false k2
     refine zw1 d2 ?_
     refine Qa rfl ?_
     by_cases k3:x.kind=3
     ·have d3:=decide_eq_true k3
      refine zw1 d3 ?_
      refine Qb rfl ?_
      refine Xx ?_
      show CW _ _ _ _
      refine Qb rfl ?_
      refine zw0 ?_
      refine⟨rfl,rfl,(decide (x.text=⟨#[]⟩)&&decide (x.n=0)&&decide ((x.items.length:Int)=0)),?_,zg0⟩
      obtain⟨k0,t0,n0,l0⟩:=x
      simp only[Item.kind,Item.text,Item.n,Item.items] at *
      simp [Qb0,Item.kind,Item.text,Item.n,Item.items,emB,Bool.and_assoc,k3]
     have d3:=decide_eq_false k3
     refine zw1 d3 ?_
     refine Qa rfl ?_
     by_cases k4:x.kind=4
     ·have d4:=decide_eq_true k4
      refine zw1 d4 ?_
      refine Qb rfl ?_
      refine zw0 ?_
      refine⟨rfl,rfl,(decide (x.text=⟨#[]⟩)&&decide (x.n=0)&&decide ((x.items.length:Int)=0)),?_,zg0⟩
      obtain⟨k0,t0,n0,l0⟩:=x
      simp only[Item.kind,Item.text,Item.n,Item.items] at *
      simp [Qb0,Item.kind,Item.text,Item.n,Item.items,emB,Bool.and_assoc,k4]
     have d4:=decide_eq_false k4
     refine zw1 d4 ?_
     refine Qa rfl ?_
     by_cases k5:x.kind=5
     ·have d5:=decide_eq_true k5
      refine zw1 d5 ?_
      refine Qb rfl ?_
      refine zw0 ?_
      refine⟨rfl,rfl,(decide (x.text=⟨#[]⟩)&&(decide (0≤x.n)&&decide (x.n≤999999))),?_,zg0⟩
      obtain⟨k0,t0,n0,l0⟩:=x
      simp only[Item.kind,Item.text,Item.n,Item.items] at *
      simp [Qb0,Item.kind,Item.text,Item.n,Item.items,emB,Bool.and_assoc,k5]
     have d5:=decide_eq_false k5
     refine zw1 d5 ?_
     refine Qa rfl ?_
     by_cases k6:x.kind=6
     ·have d6:=decide_eq_true k6
      refine zw1 d6 ?_
      refine Qb rfl ?_
      refine zw0 ?_
      refine⟨rfl,rfl,(decide (x.text=⟨#[]⟩)&&decide (x.n=0)),?_,zg0⟩
      obtain⟨k0,t0,n0,l0⟩:=x
      simp only[Item.kind,Item.text,Item.n,Item.items] at *
      simp [Qb0,Item.kind,Item.text,Item.n,Item.items,emB,Bool.and_assoc,k6]
     have d6:=decide_eq_false k6
     refine zw1 d6 ?_
     refine Qa rfl ?_
     refine zw0 ?_
     refine⟨rfl,rfl,false,?_,zg0⟩
     obtain⟨k0,t0,n0,l0⟩:=x
     simp only[Item.kind,Item.text,Item.n,Item.items] at *
     simp [Qb0,Item.kind,Item.text,Item.n,Item.items,emB,Bool.and_assoc,k1,k2,k3,k4,k5,k6]
    rintro e s' ⟨rfl,hh,b,hb,hf⟩
    show CW _ _ _ _
    refine Qi _ hf ?_
    rw[hh]
    clear hf hh s'
    cases b with
    | false=>
      refine zw0 ?_
      refine Qb rfl ?_
      refine zw0 ?_
      refine Qd ?_
      refine⟨_,zf0,false,m-1,rfl,hh2.symm,fun h=>(by cases h),fun _ hh=>?_⟩
      have:=eol hh.1
      rw[eo,← hb] at this
      simp at this
    | true=>
      by_cases q:m-1<0
      ·have dq:=decide_eq_true q
       refine zw2 hil2 dq ?_
       refine Qb rfl ?_
       refine zw0 ?_
       refine Qd ?_
       refine⟨_,zf0,false,m-1,rfl,hh2.symm,fun h=>(by cases h),fun _ hh=>?_⟩
       omega
      ·have dq:=decide_eq_false q
       refine zw2 hil2 dq ?_
       refine zj Tryz.func173 ?_
       refine (hrec h2 il (m-1) hp2 hil0 hil2 om om).mono ?_
       rintro _ h3 ⟨b',v',rfl,rfl,g1,g2⟩
       have hset:h2.set il (HObj.arr [i64 v'] 0 true 3)=h.set il (HObj.arr [i64 v'] 0 true 3):=by rw[← hh2,List.set_set]
       cases b' with
       | false=>
         refine zw0 ?_
         refine Qb rfl ?_
         refine zw0 ?_
         refine Qd ?_
         refine⟨_,zf0,false,v',rfl,hset,fun h=>(by cases h),fun _ hh=>?_⟩
         refine g2 rfl ⟨?_,by omega⟩
         have:=eol hh.1
         rw[eo] at this
         simp only[Bool.and_eq_true] at this
         exact this.2.2
       | true=>
         obtain⟨g3,g4,g5⟩:=g1 rfl
         refine zw0 ?_
         refine Qa rfl ?_
         refine zw1 e2 ?_
         refine⟨hlt,v',zg0,hset,by omega,g5,?_⟩
         rw[eo,hok,← hb,g3]
         rfl
   ·have e3:=Qu hlt
    obtain rfl:k=l.length:=by omega
    rw[List.take_length] at hm hok
    refine zw1 e3 ?_
    refine Qa rfl ?_
    refine Qj ?_
    show CW _ _ _ _
    refine zw0 ?_
    refine Qd ?_
    exact⟨_,zf0,true,m,rfl,rfl,fun _=>⟨hok,hm,hm0⟩,fun h=>(by cases h)⟩
end
section
variable {h:Heap} {r:Value} {d:Def} {up uc uf ur ub:Value}
theorem Qic {α:Type} {P:α→Bool} {l:List α} (hall:∀ i (hi:i<l.length),i<l.length→P l[i]=true):l.all P=true:=by
 rw[List.all_eq_true]
 intro x hx
 obtain⟨i,hi,rfl⟩:=List.getElem_of_mem hx
 exact hall i hi hi
theorem Qeo {α:Type} {P:α→Bool} {l:List α} {k:Nat} (hk:k<l.length) (hp:P l[k]=false):l.all P=false:=List.all_eq_false.2 ⟨_,List.getElem_mem hk,by rw[hp];decide⟩
set_option maxHeartbeats 16000000 in
theorem Qre (hd:RdDefs h d up uc uf ur ub) (hw:DefWf d):FW env 127 [.agg (d.val up uc uf ur ub).toArray] h fun r h'=>r = .bool (Yj d)∧h'=h:=by
 refine Qlp ?_
 obtain⟨p1,c1,rfl⟩:=RdL.form hd.prods
 obtain⟨p2,c2,rfl⟩:=RdL.form hd.chains
 obtain⟨p3,c3,rfl⟩:=SlR.form hd.follows
 obtain⟨p4,c4,rfl⟩:=SlR.form hd.rejects
 obtain⟨p5,c5,rfl⟩:=RdL.form hd.boxes
 have l1:d.prods.length≤140737488355328:=by have:=RdL.le hd.prods;omega
 have l2:d.chains.length≤140737488355328:=by have:=RdL.le hd.chains;omega
 have l3:d.follows.length≤140737488355328:=by have:=hd.follows.1;omega
 have l4:d.rejects.length≤140737488355328:=by have:=hd.rejects.1;omega
 have l5:d.boxes.length≤140737488355328:=by have:=RdL.le hd.boxes;omega
 obtain⟨B,hB⟩:∃ B:List Value,B=[.string d.start,.string d.layout,.slice p1 d.prods.length c1,.slice p2 d.chains.length c2,.slice p3 d.follows.length c3,.slice p4 d.rejects.length c4,.slice p5 d.boxes.length c5]:=⟨_,rfl⟩
 refine fe Tryz.func127 ?_;simp only[push_cast]
 unfold Def.val
 refine zw0 ?_
 refine zj Tryz.func170 ?_
 refine (Zi hw.start).mono ?_
 rintro _ h1 ⟨rfl,rfl⟩
 cases g1:Qa9 d.start true with
 | false=>
   refine zw0 ?_
   refine Qb rfl ?_
   refine zw0 ?_
   refine Qd ?_
   refine⟨_,zf0,?_,List.prefix_refl _⟩
   unfold Yj
   simp only[g1,Bool.false_and,Bool.and_false,Bool.true_and]
   rfl
 | true=>
 refine zw0 ?_
 refine zj Tryz.func170 ?_
 refine (Zi hw.layout).mono ?_
 rintro _ h1 ⟨rfl,rfl⟩
 cases g2:Qa9 d.layout true with
 | false=>
   refine zw0 ?_
   refine Qb rfl ?_
   refine zw0 ?_
   refine Qd ?_
   refine⟨_,zf0,?_,List.prefix_refl _⟩
   unfold Yj
   simp only[g1,g2,Bool.false_and,Bool.and_false,Bool.true_and]
   rfl
 | true=>
 by_cases q3:d.prods.length≤200
 case neg=>
  have d3:decide ((200:Int)<(d.prods.length:Int))=true:=decide_eq_true om
  have g3:=decide_eq_false q3
  refine zw1 d3 ?_
  refine Qb rfl ?_
  refine zw0 ?_
  refine Qd ?_
  refine⟨_,zf0,?_,List.prefix_refl _⟩
  unfold Yj
  simp only[g1,g2,g3,Bool.false_and,Bool.and_false,Bool.true_and]
  rfl
 have d3:decide ((200:Int)<(d.prods.length:Int))=false:=decide_eq_false om
 have g3:=decide_eq_true q3
 refine zw1 d3 ?_
 refine Qa rfl ?_
 refine zw0 ?_
 refine Yq d.prods.length (fun k=>[(1,.box B),(31,.val (.slice p1 d.prods.length c1)),(32,.val (i64 d.prods.length)),(33,.val (i64 k))]) (fun _=>h1) (fun k=>∀ i (hi:i<d.prods.length),i<k→Yb d.prods[i]=true) (by rw[hB];exact zg0) rfl (fun i _ hi=>absurd hi om) ?_
 intro k hkn hall
 by_cases hlt:k<d.prods.length
 ·obtain⟨id,ver,own,c',cells,u,hv,hid,hrd,hu⟩:=RdL.at (k:=5) (fun _ _=>rfl) hd.prods hlt
  cases hv
  have hu0:=hu
  obtain⟨ps,cs,rfl⟩:=SlR.form hu
  have w1:=rng hlt
  have w2:=inc hlt l1
  have q3:=Qv hlt
  refine zw1 q3 ?_
  refine Qb rfl ?_
  refine zw3 w1 hid hrd ?_
  refine zj Tryz.func171 ?_
  refine (Qtu hu0 (hw.prods _ (List.getElem_mem hlt))).mono ?_
  rintro _ h2 ⟨rfl,rfl⟩
  cases gg:Yb d.prods[k] with
  | false=>
    have gA:=Qeo hlt gg
    refine zw0 ?_
    refine Qb rfl ?_
    refine zw0 ?_
    refine Qd ?_
    refine⟨_,zf0,?_,List.prefix_refl _⟩
    unfold Yj
    simp only[g1,g2,g3,gA,Bool.false_and,Bool.and_false,Bool.true_and]
    rfl
  | true=>
    refine zw0 ?_
    refine Qa rfl ?_
    refine zw1 w2 ?_
    refine⟨hlt,zg0,rfl,fun i hi h2=>?_⟩
    rcases (by omega:i<k∨i=k) with h4|rfl
    ·exact hall i hi h4
    ·exact gg
 have e3:=Qu hlt
 obtain rfl:k=d.prods.length:=by omega
 refine zw1 e3 ?_
 refine Qa rfl ?_
 refine Qj ?_
 show CW _ _ _ _
 have gP:=Qic (P:=Yb) hall
 clear hall
 refine zw0 ?_
 rw[hB]
 refine zw0 ?_
 refine Yq d.chains.length (fun k=>[(1,.box B),(42,.val (.slice p2 d.chains.length c2)),(43,.val (i64 d.chains.length)),(44,.val (i64 k))]) (fun _=>h1) (fun k=>∀ i (hi:i<d.chains.length),i<k→Zd d.chains[i]=true) (by rw[hB];exact zg0) rfl (fun i _ hi=>absurd hi om) ?_
 intro k hkn hall
 by_cases hlt:k<d.chains.length
 ·obtain⟨id,ver,own,c',cells,u,hv,hid,hrd,hu⟩:=RdL.at (k:=1) (fun _ _=>rfl) hd.chains hlt
  cases hv
  have hu0:=hu
  obtain⟨ps,cs,rfl⟩:=RdL.form hu
  have hg:=Qci hrd om
  simp only[List.getElem?_cons_zero,Nat.mul_one] at hg
  have w1:=rng hlt
  have w2:=inc hlt l2
  have q3:=Qv hlt
  refine zw1 q3 ?_
  refine Qb rfl ?_
  refine zw4 w1 hid hg Nat.mul_one ?_
  refine zj Tryz.func172 ?_
  refine (Qrr hu0 (hw.chains _ (List.getElem_mem hlt))).mono ?_
  rintro _ h2 ⟨rfl,rfl⟩
  cases gg:Zd d.chains[k] with
  | false=>
    have gA:=Qeo hlt gg
    refine zw0 ?_
    refine Qb rfl ?_
    refine zw0 ?_
    refine Qd ?_
    refine⟨_,zf0,?_,List.prefix_refl _⟩
    unfold Yj
    simp only[g1,g2,g3,gP,gA,Bool.false_and,Bool.and_false,Bool.true_and]
    rfl
  | true=>
    refine zw0 ?_
    refine Qa rfl ?_
    refine zw1 w2 ?_
    refine⟨hlt,zg0,rfl,fun i hi h2=>?_⟩
    rcases (by omega:i<k∨i=k) with h4|rfl
    ·exact hall i hi h4
    ·exact gg
 have e3:=Qu hlt
 obtain rfl:k=d.chains.length:=by omega
 refine zw1 e3 ?_
 refine Qa rfl ?_
 refine Qj ?_
 show CW _ _ _ _
 have gC:=Qic (P:=Zd) hall
 clear hall
 refine zw0 ?_
 rw[hB]
 refine zw0 ?_
 refine Yq d.follows.length (fun k=>[(1,.box B),(53,.val (.slice p3 d.follows.length c3)),(54,.val (i64 d.follows.length)),(55,.val (i64 k))]) (fun _=>h1) (fun k=>∀ i (hi:i<d.follows.length),i<k→(fun f:Follow=>Xo f.sort) d.follows[i]=true) (by rw[hB];exact zg0) rfl (fun i _ hi=>absurd hi om) ?_
 intro k hkn hall
 by_cases hlt:k<d.follows.length
 ·obtain⟨id,ver,own,c',hv,hid⟩:=SlR.at hd.follows om
  cases hv
  have hg:=Qbn hlt
  have w1:=rng hlt
  have w2:=inc hlt l3
  have q3:=Qv hlt
  refine zw1 q3 ?_
  refine Qb rfl ?_
  refine zw3 w1 hid hg ?_
  refine zj Tryz.func170 ?_
  refine (Zi (hw.follows _ (List.getElem_mem hlt)).1).mono ?_
  rintro _ h2 ⟨rfl,rfl⟩
  rw[Qav]
  cases gg:Xo d.follows[k].sort with
  | false=>
    have gA:=Qeo (P:=fun f:Follow=>Xo f.sort) hlt gg
    refine zw0 ?_
    refine Qb rfl ?_
    refine zw0 ?_
    refine Qd ?_
    refine⟨_,zf0,?_,List.prefix_refl _⟩
    unfold Yj
    simp only[g1,g2,g3,gP,gC,gA,Bool.false_and,Bool.and_false,Bool.true_and]
    rfl
  | true=>
    refine zw0 ?_
    refine Qa rfl ?_
    refine zw1 w2 ?_
    refine⟨hlt,zg0,rfl,fun i hi h2=>?_⟩
    rcases (by omega:i<k∨i=k) with h4|rfl
    ·exact hall i hi h4
    ·exact gg
 have e3:=Qu hlt
 obtain rfl:k=d.follows.length:=by omega
 refine zw1 e3 ?_
 refine Qa rfl ?_
 refine Qj ?_
 show CW _ _ _ _
 have gF:=Qic (P:=fun f:Follow=>Xo f.sort) hall
 clear hall
 refine zw0 ?_
 rw[hB]
 refine zw0 ?_
 refine Yq d.rejects.length (fun k=>[(1,.box B),(65,.val (.slice p4 d.rejects.length c4)),(66,.val (i64 d.rejects.length)),(67,.val (i64 k))]) (fun _=>h1) (fun k=>∀ i (hi:i<d.rejects.length),i<k→(fun x:Reject=>Xo x.sort&&Xo x.by_) d.rejects[i]=true) (by rw[hB];exact zg0) rfl (fun i _ hi=>absurd hi om) ?_
 intro k hkn hall
 by_cases hlt:k<d.rejects.length
 ·obtain⟨id,ver,own,c',hv,hid⟩:=SlR.at hd.rejects om
  cases hv
  have hg:=Qau hlt
  have w1:=rng hlt
  have w2:=inc hlt l4
  have q3:=Qv hlt
  refine zw1 q3 ?_
  refine Qb rfl ?_
  refine zw3 w1 hid hg ?_
  refine zj Tryz.func170 ?_
  refine (Zi (hw.rejects _ (List.getElem_mem hlt)).1).mono ?_
  rintro _ h2 ⟨rfl,rfl⟩
  rw[Qav]
  cases gg:Xo d.rejects[k].sort with
  | false=>
    have gA:=Qeo (P:=fun x:Reject=>Xo x.sort&&Xo x.by_) hlt (by simp only[gg,Bool.false_and])
    refine zw0 ?_
    refine Qb rfl ?_
    refine zw0 ?_
    refine Qd ?_
    refine⟨_,zf0,?_,List.prefix_refl _⟩
    unfold Yj
    simp only[g1,g2,g3,gP,gC,gF,gA,Bool.false_and,Bool.and_false,Bool.true_and]
    rfl
  | true=>
    refine zw0 ?_
    refine zj Tryz.func170 ?_
    refine (Zi (hw.rejects _ (List.getElem_mem hlt)).2).mono ?_
    rintro _ h2 ⟨rfl,rfl⟩
    rw[Qav]
    cases gg2:Xo d.rejects[k].by_ with
    | false=>
      have gA:=Qeo (P:=fun x:Reject=>Xo x.sort&&Xo x.by_) hlt (by simp only[gg2,Bool.and_false])
      refine zw0 ?_
      refine Qb rfl ?_
      refine zw0 ?_
      refine Qd ?_
      refine⟨_,zf0,?_,List.prefix_refl _⟩
      unfold Yj
      simp only[g1,g2,g3,gP,gC,gF,gA,Bool.false_and,Bool.and_false,Bool.true_and]
      rfl
    | true=>
      refine zw0 ?_
      refine Qa rfl ?_
      refine zw1 w2 ?_
      refine⟨hlt,zg0,rfl,fun i hi h2=>?_⟩
      rcases (by omega:i<k∨i=k) with h4|rfl
      ·exact hall i hi h4
      ·exact (by simp only[gg,gg2,Bool.and_true])
 have e3:=Qu hlt
 obtain rfl:k=d.rejects.length:=by omega
 refine zw1 e3 ?_
 refine Qa rfl ?_
 refine Qj ?_
 show CW _ _ _ _
 have gR:=Qic (P:=fun x:Reject=>Xo x.sort&&Xo x.by_) hall
 clear hall
 refine zw0 ?_
 rw[hB]
 refine zw0 ?_
 refine Qy d.boxes.length (fun k (x:Heap)=>[(83,.val (.slice p5 d.boxes.length c5)),(84,.val (i64 d.boxes.length)),(85,.val (i64 k))]) (fun _ x=>x) (fun k x=>h1 <+: x∧∀ i (hi:i<d.boxes.length),i<k→Jw d.boxes[i]=true) h1 zg0 rfl ⟨List.prefix_refl _,fun i _ hi=>absurd hi om⟩ ?_
 rintro k hk hkn ⟨hp,hall⟩
 by_cases hlt:k<d.boxes.length
 ·obtain⟨id,ver,own,c',cells,u,hv,hid0,hrd,hu⟩:=RdL.at (k:=2) (fun _ _=>rfl) hd.boxes hlt
  cases hv
  have hid:=Qc hp hid0
  have hu0:=hu
  obtain⟨ps,cs,rfl⟩:=RdL.form (RdItems.iff.1 hu)
  have w1:=rng hlt
  have w2:=inc hlt l5
  have q3:=Qv hlt
  refine zw1 q3 ?_
  refine Qb rfl ?_
  refine zu ?_
  iterate 4 (refine zx (zp3 w1 hid hrd) ?_)
  refine zu ?_
  refine Yw (t:=3) (cs:=[i64 0]) zf0 zf0 ?_
  dsimp only[St.putO,St.put]
  refine Yc (v:=i64 64) (vs:=[i64 64]) (cells':=[i64 64]) zf0 rfl rfl rfl zf0 Qp zf0 rfl rfl ?_
  dsimp only
  have hset:(hk++[HObj.arr [i64 0] 0 true 3]).set hk.length (.arr [i64 64] 0 true 3)=hk++[.arr [i64 64] 0 true 3]:=by simp
  rw[hset]
  have hp2:h1 <+: hk++[HObj.arr [i64 64] 0 true 3]:=Yl hp
  have hil:(hk++[HObj.arr [i64 64] 0 true 3])[hk.length]? = some (.arr [i64 64] 0 true 3):=Qp
  have hlen:=hp.length_le
  generalize (hk++[HObj.arr [i64 64] 0 true 3])=h2 at hp2 hil ⊢
  refine zw0 ?_
  refine zj Tryz.func170 ?_
  refine (Zi (hw.boxes _ (List.getElem_mem hlt))).mono ?_
  rintro _ h2 ⟨rfl,rfl⟩
  rw[Qav]
  cases gg:Xo d.boxes[k].cons with
  | false=>
    have gA:=Qeo hlt (show Jw d.boxes[k]=false by unfold Jw;rw[gg];rfl)
    refine zw0 ?_
    refine Qb rfl ?_
    refine zw0 ?_
    refine Qd ?_
    refine⟨_,zf0,?_,hp2⟩
    unfold Yj
    simp only[g1,g2,g3,gP,gC,gF,gR,gA,Bool.false_and,Bool.and_false,Bool.true_and]
    rfl
  | true=>
    refine zw0 ?_
    refine zj Tryz.func173 ?_
    refine (Qsj hu0 hp2 hlen hil (by decide) (by decide)).mono ?_
    rintro _ h3 ⟨b,v',rfl,rfl,k1,k2⟩
    have hp3:h1 <+: h2.set hk.length (HObj.arr [i64 v'] 0 true 3):=Xa hp2 hlen
    generalize h2.set hk.length (HObj.arr [i64 v'] 0 true 3)=h3 at hp3 ⊢
    cases b with
    | false=>
      have gA:=Qeo hlt (show Jw d.boxes[k]=false by
       unfold Jw
       rw[gg,Bool.true_and]
       cases e1:okL d.boxes[k].items with
       | false=>rfl
       | true=>
         have:=k2 rfl
         rw[e1] at this
         rw[Bool.true_and]
         exact decide_eq_false fun hle=>this ⟨rfl,by omega⟩)
      refine zw0 ?_
      refine Qb rfl ?_
      refine zw0 ?_
      refine Qd ?_
      refine⟨_,zf0,?_,hp3⟩
      unfold Yj
      simp only[g1,g2,g3,gP,gC,gF,gR,gA,Bool.false_and,Bool.and_false,Bool.true_and]
      rfl
    | true=>
      obtain⟨k3,k4,k5⟩:=k1 rfl
      refine zw0 ?_
      refine Qa rfl ?_
      refine zw1 w2 ?_
      refine⟨hlt,h3,zg0,rfl,hp3,fun i hi h2=>?_⟩
      rcases (by omega:i<k∨i=k) with h4|rfl
      ·exact hall i hi h4
      ·unfold Jw
       rw[gg,k3,decide_eq_true om]
       rfl
 ·have e3:=Qu hlt
  obtain rfl:k=d.boxes.length:=by omega
  have gX:=Qic hall
  refine zw1 e3 ?_
  refine Qa rfl ?_
  refine Qj ?_
  show CW _ _ _ _
  refine zw0 ?_
  refine Qd ?_
  refine⟨_,zf0,?_,hp⟩
  unfold Yj
  rw[g1,g2,g3,gP,gC,gF,gR,gX]
  rfl
theorem Qxi (hk:Bk h r d) (hw:DefWf d):FW env 67 [r] h fun x h'=>LookR (Yj d=true) x∧h'=h:=by
 obtain⟨h0,ib,im,sv,up,uc,uf,ur,ub,rfl,hd,K⟩:=hk
 have hd:=hd.mono K.p
 obtain⟨p1,c1,rfl⟩:=RdL.form hd.prods
 obtain⟨p2,c2,rfl⟩:=RdL.form hd.chains
 obtain⟨p3,c3,rfl⟩:=SlR.form hd.follows
 obtain⟨p4,c4,rfl⟩:=SlR.form hd.rejects
 obtain⟨p5,c5,rfl⟩:=RdL.form hd.boxes
 have l1:d.prods.length≤140737488355328:=by have:=RdL.le hd.prods;omega
 have l2:d.chains.length≤140737488355328:=by have:=RdL.le hd.chains;omega
 have l3:d.follows.length≤140737488355328:=by have:=hd.follows.1;omega
 have l4:d.rejects.length≤140737488355328:=by have:=hd.rejects.1;omega
 have l5:d.boxes.length≤140737488355328:=by have:=RdL.le hd.boxes;omega
 obtain⟨es,hm,hes⟩:=K.m
 have hb:=K.b
 unfold Def.val at hb
 simp only[List.cons_append,List.nil_append] at hb
 have hkk:=Xh es
 have hss:RdNames h sv (Qm d.prods):=K.s.sl (b:=16) (by have:=Xw (ps:=d.prods);have:=RdL.le hd.prods;omega)
 obtain⟨pq,cq,rfl⟩:=hss.form
 have hR:=Qre hd hw
 unfold Def.val at hR
 refine fe Tryz.func67 ?_;simp only[push_cast]
 refine zw1 hb ?_
 refine zj Tryz.func127 ?_
 refine hR.mono ?_
 rintro _ h1 ⟨rfl,rfl⟩
 cases g:Yj d with
 | false=>
   refine zw0 ?_
   refine Qb rfl ?_
   refine zw0 ?_
   refine Qd ?_
   exact⟨_,zf0,⟨3,_,rfl,⟨fun h=>(by cases h),fun h=>(by cases h)⟩⟩,rfl⟩
 | true=>
   refine zw0 ?_
   refine Qa rfl ?_
   refine zw0 ?_
   refine Qd ?_
   exact⟨_,zf0,⟨0,_,rfl,⟨fun _=>rfl,fun _=>rfl⟩⟩,rfl⟩
end
mutual
def fitI (Y:List Sym):Item→Nat×Nat→Option (Nat×Nat)
 | .mk k t n l,s=>if k=5∨k=6 then (if 40<n then none else fitL Y l s)
   else if k=1 then (match Y[s.1]? with
    | none=>none
    | some y=>if y.kind=1∧y.text=t then some (s.1+1,s.2) else none)
   else if k=2 then (match Y[s.1]? with
    | none=>none
    | some y=>if y.kind=1∨n≠(s.2:Int)+1 then none else some (s.1+1,s.2+1))
   else some s
def fitL (Y:List Sym):List Item→Nat×Nat→Option (Nat×Nat)
 | [],s=>some s
 | x :: r,s=>match fitI Y x s with
   | some s'=>fitL Y r s'
   | none=>none
end
theorem Zq {Y:List Sym} (x:Item) (q ho:Nat):fitI Y x (q,ho)=if x.kind=5∨x.kind=6 then (if 40<x.n then none else fitL Y x.items (q,ho))
 else if x.kind=1 then (match Y[q]? with
  | none=>none
  | some y=>if y.kind=1∧y.text=x.text then some (q+1,ho) else none)
 else if x.kind=2 then (match Y[q]? with
  | none=>none
  | some y=>if y.kind=1∨x.n≠(ho:Int)+1 then none else some (q+1,ho+1))
 else some (q,ho):=by
 cases x
 unfold fitI
 rfl
theorem Qi0 {Y:List Sym}:∀ {l r:List Item} {s s':Nat×Nat},fitL Y l s=some s'→fitL Y (l++r) s=fitL Y r s'
 | [],r,s,s',h=>by unfold fitL at h;cases h;rfl
 | x :: l,r,s,s',h=>by
   unfold fitL at h
   rw[List.cons_append]
   conv=>lhs;unfold fitL
   cases e:fitI Y x s with
   | none=>rw[e] at h;cases h
   | some s2=>
     rw[e] at h
     exact Qi0 h
theorem Qr9 {Y:List Sym} {l:List Item} {k:Nat} (hk:k<l.length) {s s':Nat×Nat} (h:fitL Y (l.take k) s=some s'):fitL Y (l.take (k+1)) s=fitI Y l[k] s':=by
 rw[List.take_succ_eq_append_getElem hk,Qi0 h]
 unfold fitL
 cases fitI Y l[k] s' with
 | none=>rfl
 | some s2=>rfl
theorem Qrd {Y:List Sym} {l:List Item} {k:Nat} (hk:k<l.length) {s s':Nat×Nat} (h:fitL Y (l.take k) s=some s') (h2:fitI Y l[k] s'=none):fitL Y l s=none:=by
 have:l=l.take k++(l[k] :: l.drop (k+1)):=by simp
 rw[this,Qi0 h]
 unfold fitL
 rw[h2]
section
variable {Y:List Sym} {id ver:Nat} {own:Bool} {iy ih:Nat}
def fitH (h:Heap) (Y:List Sym) (id ver iy ih:Nat) (q ho c:Nat):Heap:=(h.set iy (.arr [.slice (some ⟨id,q*8,some ver⟩) (Y.length-q) c] 0 true 49)).set ih (.arr [i64 (ho:Int)] 0 true 3)
theorem Qe4 {h:Heap} {q ho c q' ho' c':Nat} (hne:iy≠ih):fitH (fitH h Y id ver iy ih q ho c) Y id ver iy ih q' ho' c'=fitH h Y id ver iy ih q' ho' c':=by
 unfold fitH
 rw[List.set_comm _ _ (Ne.symm hne),List.set_set,List.set_set]
theorem Qvt {h:Heap} {q ho c q' c':Nat} (hne:iy≠ih):(fitH h Y id ver iy ih q ho c).set iy (.arr [.slice (some ⟨id,q'*8,some ver⟩) (Y.length-q') c'] 0 true 49)=fitH h Y id ver iy ih q' ho c':=by
 unfold fitH
 rw[List.set_comm _ _ (Ne.symm hne),List.set_set]
theorem Xea {h:Heap} {q ho c ho':Nat}:(fitH h Y id ver iy ih q ho c).set ih (.arr [i64 (ho':Int)] 0 true 3)=fitH h Y id ver iy ih q ho' c:=by
 unfold fitH
 rw[List.set_set]
theorem Qpt {h:Heap} {q ho c:Nat} (hne:iy≠ih) (hly:iy<h.length):(fitH h Y id ver iy ih q ho c)[iy]? = some (.arr [.slice (some ⟨id,q*8,some ver⟩) (Y.length-q) c] 0 true 49):=by
 unfold fitH
 rw[Qk (Ne.symm hne),List.getElem?_set_self hly]
theorem Qkv {h:Heap} {q ho c:Nat} (hlh:ih<h.length):(fitH h Y id ver iy ih q ho c)[ih]? = some (.arr [i64 (ho:Int)] 0 true 3):=by
 unfold fitH
 rw[List.getElem?_set_self (by rw[List.length_set];exact hlh)]
set_option maxHeartbeats 16000000 in
theorem Qyi {h0:Heap} {v:Value} {l:List Item} (hr:RdItems h0 v l) (hid0:h0[id]? = some (.arr (Y.flatMap Sym.cells) ver own 56)) (hY:Y.length≤1000) (hne:iy≠ih) (hiy0:h0.length≤iy) (hih0:h0.length≤ih) :
 ∀ {h:Heap} {q ho c:Nat},h0 <+: h→h=fitH h Y id ver iy ih q ho c→iy<h.length→ih<h.length→q≤Y.length→ho≤q →
 FW env 137 [v,.pointer (some ⟨iy,0,some 0⟩),.pointer (some ⟨ih,0,some 0⟩)] h fun r h'=>∃ (b:Bool) (q' ho' c':Nat),r = .bool b∧h'=fitH h Y id ver iy ih q' ho' c'∧(b=true→fitL Y l (q,ho)=some (q',ho')∧q'≤Y.length∧ho'≤q')∧(b=false→fitL Y l (q,ho)=none):=by
 induction hr with
 | @mk v l us hl hs hu ih_=>
   intro h q0 ho0 c0 hp0 hH hly hlh hq0 hho0
   obtain⟨p,c,rfl⟩:=hs.form
   have hle:=hs.1
   have hn:l.length≤140737488355328:=by omega
   refine fe Tryz.func137 ?_;simp only[push_cast]
   refine zw0 ?_
   refine Qy l.length (fun k (x:Nat×Nat×Nat)=>[(1,.val (.pointer (some ⟨iy,0,some 0⟩))),(2,.val (.pointer (some ⟨ih,0,some 0⟩))),(10,.val (.slice p l.length c)),(11,.val (i64 l.length)),(12,.val (i64 k))]) (fun _ x=>fitH h Y id ver iy ih x.1 x.2.1 x.2.2) (fun k x=>fitL Y (l.take k) (q0,ho0)=some (x.1,x.2.1)∧x.1≤Y.length∧x.2.1≤x.1) (q0,ho0,c0) zg0 hH ⟨rfl,hq0,hho0⟩ ?_
   rintro k ⟨q,ho,cy⟩ hk ⟨hfit,hq,hho⟩
   simp only at hfit hq hho ⊢
   have hpk:h0 <+: fitH h Y id ver iy ih q ho cy:=Xa (Xa hp0 hiy0) hih0
   have hgy:=Qpt (Y:=Y) (id:=id) (ver:=ver) (q:=q) (ho:=ho) (c:=cy) hne hly
   have hgh:=Qkv (Y:=Y) (id:=id) (ver:=ver) (iy:=iy) (q:=q) (ho:=ho) (c:=cy) hlh
   have hlen1:iy<(fitH h Y id ver iy ih q ho cy).length:=by unfold fitH;rw[List.length_set,List.length_set];exact hly
   have hlen2:ih<(fitH h Y id ver iy ih q ho cy).length:=by unfold fitH;rw[List.length_set,List.length_set];exact hlh
   by_cases hlt:k<l.length
   ·obtain⟨id2,ver2,own2,c',hv,hid2⟩:=SlR.at (hs.mono hpk) om
    cases hv
    have e1:=rng hlt
    have e2:=inc hlt hn
    have e3:=Qv hlt
    have hi':k<us.length:=hl▸hlt
    have hg:=Qh3 hl hlt
    have hrec:=@ih_ k l[k] us[k] (by simp [hlt]) (by simp [hi'])
    obtain⟨pu,cu,huf⟩:∃ pu cu,us[k] = .slice pu l[k].items.length cu:=RdL.form (RdItems.iff.1 (hu k l[k] us[k] (by simp [hlt]) (by simp [hi'])))
    rw[huf] at hg hrec
    have hst:=Qr9 hlt hfit
    have hsp:=Qrd hlt hfit
    generalize hX:l[k]=x at hg hrec hst hsp
    refine zw1 e3 ?_
    refine Qb rfl ?_
    by_cases k5:x.kind=5
    ·have d5:=decide_eq_true k5
     refine zw4 e1 hid2 hg d5 ?_
     refine Qb rfl ?_
     refine Xx ?_
     show CW _ _ _ _
     refine Qb rfl ?_
     by_cases q40:40<x.n
     ·have d40:=decide_eq_true q40
      refine zw1 d40 ?_
      refine Qb rfl ?_
      refine zw0 ?_
      refine Qd ?_
      refine⟨_,zf0,false,q,ho,cy,rfl,rfl,fun h=>(by cases h),fun _=>hsp ?_⟩
      rw[Zq]
      rw[if_pos (by simp [k5]),if_pos q40]
     ·have d40:=decide_eq_false q40
      refine zw1 d40 ?_
      refine zj Tryz.func137 ?_
      refine (hrec hpk (Qe4 hne).symm hlen1 hlen2 hq hho).mono ?_
      rintro _ h3 ⟨b',q',ho',c3,rfl,rfl,g1,g2⟩
      rw[Qe4 hne]
      cases b' with
      | false=>
        refine zw0 ?_
        refine Qb rfl ?_
        refine zw0 ?_
        refine Qd ?_
        refine⟨_,zf0,false,q',ho',c3,rfl,rfl,fun h=>(by cases h),fun _=>hsp ?_⟩
        rw[Zq]
        rw[if_pos (by simp [k5]),if_neg q40]
        exact g2 rfl
      | true=>
        obtain⟨g3,g4,g5⟩:=g1 rfl
        refine zw0 ?_
        refine Qa rfl ?_
        refine zw1 e2 ?_
        refine⟨hlt,(q',ho',c3),zg0,rfl,?_,g4,g5⟩
        rw[hst,Zq,if_pos (by simp [k5]),if_neg q40]
        exact g3
    have d5:=decide_eq_false k5
    refine zw4 e1 hid2 hg d5 ?_
    refine Qa rfl ?_
    by_cases k6:x.kind=6
    ·have d6:=decide_eq_true k6
     refine zw1 d6 ?_
     refine Qb rfl ?_
     by_cases q40:40<x.n
     ·have d40:=decide_eq_true q40
      refine zw1 d40 ?_
      refine Qb rfl ?_
      refine zw0 ?_
      refine Qd ?_
      refine⟨_,zf0,false,q,ho,cy,rfl,rfl,fun h=>(by cases h),fun _=>hsp ?_⟩
      rw[Zq]
      rw[if_pos (by simp [k6]),if_pos q40]
     ·have d40:=decide_eq_false q40
      refine zw1 d40 ?_
      refine zj Tryz.func137 ?_
      refine (hrec hpk (Qe4 hne).symm hlen1 hlen2 hq hho).mono ?_
      rintro _ h3 ⟨b',q',ho',c3,rfl,rfl,g1,g2⟩
      rw[Qe4 hne]
      cases b' with
      | false=>
        refine zw0 ?_
        refine Qb rfl ?_
        refine zw0 ?_
        refine Qd ?_
        refine⟨_,zf0,false,q',ho',c3,rfl,rfl,fun h=>(by cases h),fun _=>hsp ?_⟩
        rw[Zq]
        rw[if_pos (by simp [k6]),if_neg q40]
        exact g2 rfl
      | true=>
        obtain⟨g3,g4,g5⟩:=g1 rfl
        refine zw0 ?_
        refine Qa rfl ?_
        refine zw1 e2 ?_
        refine⟨hlt,(q',ho',c3),zg0,rfl,?_,g4,g5⟩
        rw[hst,Zq,if_pos (by simp [k6]),if_neg q40]
        exact g3
    have d6:=decide_eq_false k6
    have n56:¬ (x.kind=5∨x.kind=6):=by simp [k5,k6]
    refine zw1 d6 ?_
    refine Qa rfl ?_
    by_cases k1:x.kind=1
    ·have d1:=decide_eq_true k1
     refine zw1 d1 ?_
     refine Qb rfl ?_
     refine Xx ?_
     show CW _ _ _ _
     refine Qb rfl ?_
     by_cases hqe:q=Y.length
     ·have hm0:Y.length-q=0:=by omega
      rw[hm0] at hgy
      refine zw1 hgy ?_
      refine Qb rfl ?_
      refine zw0 ?_
      refine Qd ?_
      refine⟨_,zf0,false,q,ho,cy,rfl,rfl,fun h=>(by cases h),fun _=>hsp ?_⟩
      rw[Zq]
      rw[if_neg n56,if_pos k1,List.getElem?_eq_none om]
     obtain⟨m,hm⟩:∃ m,Y.length-q=m+1:=⟨Y.length-q-1,by omega⟩
     rw[hm] at hgy
     have hql:q<Y.length:=by omega
     have hdl:decide (((m:Int)+1)=0)=false:=decide_eq_false om
     refine zw2 hgy hdl ?_
     refine Qa rfl ?_
     have hidk:=Qc hpk hid0
     have hyg:=Qah (l:=Y) (i:=q) hql
     have r0:((0:Int)<(m:Int)+1)=True:=eq_true om
     have r1:((0:Int)≤1∧(1:Int)≤(m:Int)+1∧(m:Int)+1≤(m:Int)+1)=True:=eq_true om
     have r2:((m:Int)+1-1).toNat=m:=by omega
     have hye:Y[q]? = some Y[q]:=List.getElem?_eq_getElem hql
     generalize Y[q]=y at hyg hye
     have hsetY:(fitH h Y id ver iy ih q ho cy).set iy (.arr [.slice (some ⟨id,q*8+8,some ver⟩) m m] 0 true 49)=fitH h Y id ver iy ih (q+1) ho m:=by
      have:=Qvt (h:=h) (Y:=Y) (id:=id) (ver:=ver) (q:=q) (ho:=ho) (c:=cy) (q':=q+1) (c':=m) hne
      rw[show Y.length-(q+1)=m by omega,show (q+1)*8=q*8+8 by omega] at this
      exact this
     refine zw6 hgy r0 r1 r2 hidk hyg ?_
     refine Yc (v:=.slice (some ⟨id,q*8+8,some ver⟩) m m) (vs:=[.slice (some ⟨id,q*8+8,some ver⟩) m m]) (cells':=[.slice (some ⟨id,q*8+8,some ver⟩) m m]) zf0 rfl rfl rfl zf0 hgy zf0 rfl rfl ?_
     dsimp only
     rw[hsetY]
     refine zw1 d1 ?_
     refine Qb rfl ?_
     by_cases y1:y.kind=1
     ·have f1:=decide_eq_true y1
      by_cases y2:y.text=x.text
      ·have f2:=decide_eq_true y2
       refine zw2 f1 f2 ?_
       refine Qa rfl ?_
       refine Xx ?_
       show CW _ _ _ _
       refine Qj ?_
       show CW _ _ _ _
       refine zw1 e2 ?_
       refine⟨hlt,(q+1,ho,m),zg0,rfl,?_,hql,Nat.le_succ_of_le hho⟩
       rw[hst,Zq,if_neg n56,if_pos k1,hye]
       simp only
       rw[if_pos ⟨y1,y2⟩]
      ·have f2:=decide_eq_false y2
       refine zw2 f1 f2 ?_
       refine Qb rfl ?_
       refine zw0 ?_
       refine Qd ?_
       refine⟨_,zf0,false,q+1,ho,m,rfl,rfl,fun h=>(by cases h),fun _=>hsp ?_⟩
       rw[Zq]
       rw[if_neg n56,if_pos k1,hye]
       simp only
       rw[if_neg (fun h=>y2 h.2)]
     ·have f1:=decide_eq_false y1
      refine zw1 f1 ?_
      refine Qb rfl ?_
      refine zw0 ?_
      refine Qd ?_
      refine⟨_,zf0,false,q+1,ho,m,rfl,rfl,fun h=>(by cases h),fun _=>hsp ?_⟩
      rw[Zq]
      rw[if_neg n56,if_pos k1,hye]
      simp only
      rw[if_neg (fun h=>y1 h.1)]
    have d1:=decide_eq_false k1
    refine zw1 d1 ?_
    refine Qa rfl ?_
    by_cases k2:x.kind=2
    ·have d2:=decide_eq_true k2
     refine zw1 d2 ?_
     refine Qb rfl ?_
     by_cases hqe:q=Y.length
     ·have hm0:Y.length-q=0:=by omega
      rw[hm0] at hgy
      refine zw1 hgy ?_
      refine Qb rfl ?_
      refine zw0 ?_
      refine Qd ?_
      refine⟨_,zf0,false,q,ho,cy,rfl,rfl,fun h=>(by cases h),fun _=>hsp ?_⟩
      rw[Zq]
      rw[if_neg n56,if_neg k1,if_pos k2,List.getElem?_eq_none om]
     obtain⟨m,hm⟩:∃ m,Y.length-q=m+1:=⟨Y.length-q-1,by omega⟩
     rw[hm] at hgy
     have hql:q<Y.length:=by omega
     have hdl:decide (((m:Int)+1)=0)=false:=decide_eq_false om
     refine zw2 hgy hdl ?_
     refine Qa rfl ?_
     have hidk:=Qc hpk hid0
     have hyg:=Qah (l:=Y) (i:=q) hql
     have r0:((0:Int)<(m:Int)+1)=True:=eq_true om
     have r1:((0:Int)≤1∧(1:Int)≤(m:Int)+1∧(m:Int)+1≤(m:Int)+1)=True:=eq_true om
     have r2:((m:Int)+1-1).toNat=m:=by omega
     have hye:Y[q]? = some Y[q]:=List.getElem?_eq_getElem hql
     generalize Y[q]=y at hyg hye
     have hsetY:(fitH h Y id ver iy ih q ho cy).set iy (.arr [.slice (some ⟨id,q*8+8,some ver⟩) m m] 0 true 49)=fitH h Y id ver iy ih (q+1) ho m:=by
      have:=Qvt (h:=h) (Y:=Y) (id:=id) (ver:=ver) (q:=q) (ho:=ho) (c:=cy) (q':=q+1) (c':=m) hne
      rw[show Y.length-(q+1)=m by omega,show (q+1)*8=q*8+8 by omega] at this
      exact this
     refine zw6 hgy r0 r1 r2 hidk hyg ?_
     refine Yc (v:=.slice (some ⟨id,q*8+8,some ver⟩) m m) (vs:=[.slice (some ⟨id,q*8+8,some ver⟩) m m]) (cells':=[.slice (some ⟨id,q*8+8,some ver⟩) m m]) zf0 rfl rfl rfl zf0 hgy zf0 rfl rfl ?_
     dsimp only
     rw[hsetY]
     refine zw1 d1 ?_
     refine Qa rfl ?_
     have hgh1:=Qkv (h:=h) (Y:=Y) (id:=id) (ver:=ver) (iy:=iy) (q:=q+1) (ho:=ho) (c:=m) hlh
     have w1:IntKind.i64.wrap ((ho:Int)+1)=(ho:Int)+1:=Qg om om
     have hsetH:(fitH h Y id ver iy ih (q+1) ho m).set ih (.arr [i64 ((ho:Int)+1)] 0 true 3)=fitH h Y id ver iy ih (q+1) (ho+1) m:=Xea
     have hgh2:=Qkv (h:=h) (Y:=Y) (id:=id) (ver:=ver) (iy:=iy) (q:=q+1) (ho:=ho+1) (c:=m) hlh
     refine zw2 hgh1 w1 ?_
     refine Yc (v:=i64 ((ho:Int)+1)) (vs:=[i64 ((ho:Int)+1)]) (cells':=[i64 ((ho:Int)+1)]) zf0 rfl rfl rfl zf0 hgh1 zf0 rfl rfl ?_
     dsimp only
     rw[hsetH]
     refine zw0 ?_
     refine Qt 10 Qq kr ?_
     by_cases y1:y.kind=1
     ·have f1:=decide_eq_true y1
      refine zw1 f1 ?_
      refine Qb rfl ?_
      refine zw0 ?_
      refine Qd ?_
      refine⟨_,zf0,false,q+1,ho+1,m,rfl,rfl,fun h=>(by cases h),fun _=>hsp ?_⟩
      rw[Zq]
      rw[if_neg n56,if_neg k1,if_pos k2,hye]
      simp only
      rw[if_pos (.inl y1)]
     ·have f1:=decide_eq_false y1
      by_cases y2:x.n=(ho:Int)+1
      ·have f2:=decide_eq_true y2
       refine zw3 f1 f2 hgh2 ?_
       refine Qa rfl ?_
       refine zw1 e2 ?_
       refine⟨hlt,(q+1,ho+1,m),zg0,rfl,?_,hql,Nat.succ_le_succ hho⟩
       rw[hst,Zq,if_neg n56,if_neg k1,if_pos k2,hye]
       simp only
       rw[if_neg (by simp [y1,y2])]
      ·have f2:=decide_eq_false y2
       refine zw3 f1 f2 hgh2 ?_
       refine Qb rfl ?_
       refine zw0 ?_
       refine Qd ?_
       refine⟨_,zf0,false,q+1,ho+1,m,rfl,rfl,fun h=>(by cases h),fun _=>hsp ?_⟩
       rw[Zq]
       rw[if_neg n56,if_neg k1,if_pos k2,hye]
       simp only
       rw[if_pos (.inr y2)]
    have d2:=decide_eq_false k2
    refine zw1 d2 ?_
    refine Qa rfl ?_
    refine zw1 e2 ?_
    refine⟨hlt,(q,ho,cy),zg0,rfl,?_,hq,hho⟩
    rw[hst,Zq,if_neg n56,if_neg k1,if_neg k2]
   ·have e3:=Qu hlt
    obtain rfl:k=l.length:=by omega
    rw[List.take_length] at hfit
    refine zw1 e3 ?_
    refine Qa rfl ?_
    refine Qj ?_
    show CW _ _ _ _
    refine zw0 ?_
    refine Qd ?_
    exact⟨_,zf0,true,q,ho,cy,rfl,rfl,fun _=>⟨hfit,hq,hho⟩,fun h=>(by cases h)⟩
end
section
variable {h:Heap} {r:Value} {d:Def}
def Qow (d:Def) (x:Box):Prop:=∃ (k:Nat) (hk:k<d.prods.length),ConsP d.prods x.cons k∧∃ ho,fitL d.prods[k].syms x.items (0,0)=some (d.prods[k].syms.length,ho)
def Qcx (d:Def):Prop:=(∀ x∈d.boxes,Qow d x)∧(d.boxes.map (·.cons)).Nodup
structure BXI (d:Def) (es:List (ByteArray×Int)) (k:Nat):Prop where
 g:∀ x,mGet es x=if memB ((d.boxes.take k).map (·.cons)) x=true then 1 else 0
 o:∀ (i:Nat) (hi:i<d.boxes.length),i<k→Qow d d.boxes[i]
 n:((d.boxes.take k).map (·.cons)).Nodup
theorem BXI.add {es:List (ByteArray×Int)} {k:Nat} (B:BXI d es k) (hk:k<d.boxes.length) (h0:mGet es d.boxes[k].cons=0) (ht:Qow d d.boxes[k]):BXI d (mPut es d.boxes[k].cons 1) (k+1):=by
 have hn:d.boxes[k].cons∉(d.boxes.take k).map (·.cons):=fun h=>by rw[B.g,if_pos (memB_iff.2 h)] at h0;cases h0
 refine⟨fun y=>?_,fun i hi h2=>?_,?_⟩
 ·rw[Zs,B.g,Zx hk]
  by_cases e:y=d.boxes[k].cons
  ·rw[if_pos e,if_pos (memB_iff.2 (by rw[e];simp))]
  ·rw[if_neg e]
   by_cases q:y∈(d.boxes.take k).map (·.cons)
   ·rw[if_pos (memB_iff.2 q),if_pos (memB_iff.2 (List.mem_append_left _ q))]
   ·rw[if_neg (fun k=>q (memB_iff.1 k)),if_neg (fun k=>?_)]
    rcases List.mem_append.1 (memB_iff.1 k) with k|k
    ·exact q k
    ·exact e (List.mem_singleton.1 k)
 ·rcases (by omega:i<k∨i=k) with h4|rfl
  ·exact B.o i hi h4
  ·exact ht
 ·rw[Zx hk,List.nodup_append]
  exact⟨B.n,by simp,fun a ha b hb e=>hn (by rw[← List.mem_singleton.1 hb,← e];exact ha)⟩
theorem ConsP.lt {ps:List Prod} {n:ByteArray} {i:Int} (h:ConsP ps n i) (h0:0≤i):∃ (k:Nat) (hk:k<ps.length),i=(k:Int):=by
 rcases h with ⟨_,rfl⟩ | ⟨_,⟨k,hk,_,_,rfl⟩ | ⟨_,rfl⟩⟩
 ·omega
 ·exact⟨k,hk,rfl⟩
 ·omega
set_option maxHeartbeats 16000000 in
theorem Xap (hk:Bk h r d) (hr:Yj d=true):FW env 81 [r] h fun x h'=>LookR (Qcx d) x∧h'=h:=by
 refine Qdu ?_
 have hk0:=hk
 obtain⟨h0,ib,im,sv,up,uc,uf,ur,ub,rfl,hd,K⟩:=hk
 have hd:=hd.mono K.p
 obtain⟨p1,c1,rfl⟩:=RdL.form hd.prods
 obtain⟨p2,c2,rfl⟩:=RdL.form hd.chains
 obtain⟨p3,c3,rfl⟩:=SlR.form hd.follows
 obtain⟨p4,c4,rfl⟩:=SlR.form hd.rejects
 obtain⟨p5,c5,rfl⟩:=RdL.form hd.boxes
 have l1:d.prods.length≤140737488355328:=by have:=RdL.le hd.prods;omega
 have l2:d.chains.length≤140737488355328:=by have:=RdL.le hd.chains;omega
 have l3:d.follows.length≤140737488355328:=by have:=hd.follows.1;omega
 have l4:d.rejects.length≤140737488355328:=by have:=hd.rejects.1;omega
 have l5:d.boxes.length≤140737488355328:=by have:=RdL.le hd.boxes;omega
 obtain⟨es,hm,hes⟩:=K.m
 have hb:=K.b
 unfold Def.val at hb
 simp only[List.cons_append,List.nil_append] at hb
 have hkk:=Xh es
 have hss:RdNames h sv (Qm d.prods):=K.s.sl (b:=16) (by have:=Xw (ps:=d.prods);have:=RdL.le hd.prods;omega)
 obtain⟨pq,cq,rfl⟩:=hss.form
 refine fe Tryz.func81 ?_;simp only[push_cast]
 refine zu ?_
 iterate 2 (refine zx zp0 ?_)
 refine zu ?_
 refine Qcv (kt:=9) (et:=3) zf0 rfl kr ?_
 have hp0:h <+: h++[HObj.map []]:=Qo
 have hm0:(h++[HObj.map []])[h.length]? = some (.map (smE [])):=Qp
 have hb1:=Qc hp0 hb
 have him0:h.length≤h.length:=Nat.le_refl _
 generalize (h++[HObj.map []])=h2 at hp0 hm0 hb1 ⊢
 generalize him:h.length=im at hm0 him0 ⊢
 refine zw1 hb1 ?_
 refine Qy d.boxes.length (fun k (x:Heap×List (ByteArray×Int))=>[(0,.val (.pointer (some ⟨ib,0,some 0⟩))),(4,.val (.map (some im))),(15,.val (.slice p5 d.boxes.length c5)),(16,.val (i64 d.boxes.length)),(17,.val (i64 k))]) (fun _ x=>x.1)
  (fun k x=>h <+: x.1∧x.1[im]? = some (.map (smE x.2))∧BXI d x.2 k) (h2,[]) zg0 rfl ⟨hp0,hm0,⟨fun x=>rfl,fun i _ hi=>absurd hi om,.nil⟩⟩ ?_
 rintro k ⟨hk4,es⟩ hkn ⟨hp,hm,hB⟩
 simp only at hp hm hB ⊢
 by_cases hlt:k<d.boxes.length
 ·obtain⟨id,ver,own,c',cells,u,hv,hid0,hrd,hu⟩:=RdL.at (k:=2) (fun _ _=>rfl) hd.boxes hlt
  cases hv
  have hid:=Qc hp hid0
  have hu0:=hu
  obtain⟨ps,cs,rfl⟩:=RdL.form (RdItems.iff.1 hu)
  have w1:=rng hlt
  have w2:=inc hlt l5
  have q3:=Qv hlt
  have hb4:=Qc hp hb
  have hkk:=Xh es
  have hmem:=List.getElem_mem hlt
  refine zw1 q3 ?_
  refine Qb rfl ?_
  refine zw3 w1 hid hrd ?_
  refine Qt 6 Qq kr ?_
  refine zw1 hb4 ?_
  refine zj Tryz.func24 ?_
  refine (Qhh (hd.mono hp)).mono ?_
  rintro _ h5 ⟨⟨ci,hci,rfl⟩,e5⟩
  obtain rfl:=e5.symm
  have hgx:=hB.g d.boxes[k].cons
  have hdup:d.boxes[k].cons∈(d.boxes.take k).map (·.cons)→¬ Qcx d:=fun hin hbo=>by
   have h1:=hbo.2
   rw[← List.take_append_drop (k+1) d.boxes,List.map_append,Zx hlt] at h1
   have h2:=(List.nodup_append.1 h1).1
   exact (List.nodup_append.1 h2).2.2 _ hin _ (List.mem_singleton.2 rfl) rfl
  have hneg:ci<0→¬ Qcx d:=fun hc hbo=>by
   obtain⟨kk,_,h2,_⟩:=hbo.1 _ hmem
   have:=hci.uniq h2
   omega
  by_cases hin:d.boxes[k].cons∈(d.boxes.take k).map (·.cons)
  ·rw[if_pos (memB_iff.2 hin)] at hgx
   have hg:=(Jg es d.boxes[k].cons).resolve_left (fun h=>by rw[hgx] at h;exact absurd h.2 (by decide))
   rw[hgx] at hg
   have w9:IntKind.i64.wrap (1+1)=2:=by decide
   refine zw4 hm hg hkk w9 ?_
   refine Jj (kt:=9) (et:=3) (kd:=Zr) zf0 rfl rfl kr rfl zf0 hm zf0 zf0 rfl hkk ?_
   dsimp only
   rw[Zc]
   have hp6:h <+: hk4.set im (.map (smE (mPut es d.boxes[k].cons 2))):=Xa hp om
   have hm6:(hk4.set im (.map (smE (mPut es d.boxes[k].cons 2))))[im]? = some (.map (smE (mPut es d.boxes[k].cons 2))):=Qh hm
   have hg6:mget (smE (mPut es d.boxes[k].cons 2)) (.string d.boxes[k].cons)=some (i64 2):=by rw[Qey,Qd8,if_pos rfl];rfl
   have hkk6:=Xh (mPut es d.boxes[k].cons 2)
   generalize (mPut es d.boxes[k].cons 2)=es6 at hp6 hm6 hg6 hkk6 ⊢
   generalize (hk4.set im (HObj.map (smE es6)))=h6 at hp6 hm6 ⊢
   by_cases qc:ci<0
   ·have dc:=decide_eq_true qc
    refine zw1 dc ?_
    refine Qb rfl ?_
    refine zw0 ?_
    refine Qt 3 Qq kr ?_
    refine zw0 ?_
    refine Qd ?_
    refine⟨_,zf0,⟨52,_,rfl,⟨fun h=>(by cases h),fun h=>absurd h (hneg qc)⟩⟩,hp6⟩
   ·have dc:=decide_eq_false qc
    refine zw4 dc hm6 hg6 hkk6 ?_
    refine Qb rfl ?_
    refine zw0 ?_
    refine Qt 3 Qq kr ?_
    refine zw0 ?_
    refine Qd ?_
    refine⟨_,zf0,⟨52,_,rfl,⟨fun h=>(by cases h),fun h=>absurd h (hdup hin)⟩⟩,hp6⟩
  ·rw[if_neg (fun k=>hin (memB_iff.1 k))] at hgx
   have hB':=hB.add hlt hgx
   have w9:IntKind.i64.wrap (0+1)=1:=by decide
   iterate 1 (refine zx zp0 ?_)
   apply zn
   show CW _ _ _ _
   apply zs
   refine CW.mono (Q:=fun e s'=>e = .normal∧s'.h=hk4.set im (.map (smE (mPut es d.boxes[k].cons 1)))∧SubL [(0,.val (.pointer (some ⟨ib,0,some 0⟩))),(4,.val (.map (some im))),(6,.box [.string d.boxes[k].cons,.slice ps d.boxes[k].items.length cs]),(7,.val (i64 ci)),(15,.val (.slice (some ⟨id,0,some ver⟩) d.boxes.length c5)),(16,.val (i64 d.boxes.length)),(17,.val (i64 k))] s'.fr) ?_ ?_
   ·rcases Jg es d.boxes[k].cons with ⟨hg,_⟩ | hg
    ·refine zw4 hm hg hkk w9 ?_
     refine Jj (kt:=9) (et:=3) (kd:=Zr) zf0 rfl rfl kr rfl zf0 hm zf0 zf0 rfl hkk ?_
     dsimp only
     rw[Zc]
     refine zw0 ?_
     exact⟨rfl,rfl,zg0⟩
    ·rw[hgx] at hg
     refine zw4 hm hg hkk w9 ?_
     refine Jj (kt:=9) (et:=3) (kd:=Zr) zf0 rfl rfl kr rfl zf0 hm zf0 zf0 rfl hkk ?_
     dsimp only
     rw[Zc]
     refine zw0 ?_
     exact⟨rfl,rfl,zg0⟩
   rintro e s' ⟨rfl,hh,hf⟩
   show CW _ _ _ _
   refine Qi _ hf ?_
   rw[hh]
   clear hf hh s'
   have hp6:h <+: hk4.set im (.map (smE (mPut es d.boxes[k].cons 1))):=Xa hp om
   have hm6:(hk4.set im (.map (smE (mPut es d.boxes[k].cons 1))))[im]? = some (.map (smE (mPut es d.boxes[k].cons 1))):=Qh hm
   have hg6:mget (smE (mPut es d.boxes[k].cons 1)) (.string d.boxes[k].cons)=some (i64 1):=by rw[Qey,Qd8,if_pos rfl];rfl
   have hkk6:=Xh (mPut es d.boxes[k].cons 1)
   generalize (mPut es d.boxes[k].cons 1)=es6 at hp6 hm6 hg6 hkk6 hB' ⊢
   generalize (hk4.set im (HObj.map (smE es6)))=h6 at hp6 hm6 ⊢
   by_cases qc:ci<0
   ·have dc:=decide_eq_true qc
    refine zw1 dc ?_
    refine Qb rfl ?_
    refine zw0 ?_
    refine Qt 3 Qq kr ?_
    refine zw0 ?_
    refine Qd ?_
    refine⟨_,zf0,⟨52,_,rfl,⟨fun h=>(by cases h),fun h=>absurd h (hneg qc)⟩⟩,hp6⟩
   have dc:=decide_eq_false qc
   obtain⟨kk,hkl,rfl⟩:=hci.lt om
   obtain⟨idp,verp,ownp,cp',cellsp,up,hvp,hidp0,hrdp,hup⟩:=RdL.at (k:=5) (fun _ _=>rfl) hd.prods hkl
   cases hvp
   have hidp:=Qc hp6 hidp0
   have hup:RdYs h up d.prods[kk].syms:=hup
   have hrp:Yb d.prods[kk]=true:=by
    unfold Yj at hr
    simp only[Bool.and_eq_true] at hr
    exact List.all_eq_true.1 hr.2.1 _ (List.getElem_mem hkl)
   have hsl:d.prods[kk].syms.length≠0∧d.prods[kk].syms.length≤12:=by
    unfold Yb at hrp
    simp only[Bool.and_eq_true,decide_eq_true_eq] at hrp
    exact hrp.1.2.2
   obtain⟨idy,very,owny,cy,hvy,hidy⟩:=SlR.at hup om
   subst hvy
   have hg4:=Ja (j:=4) hrdp om
   simp only[List.getElem?_cons_succ,List.getElem?_cons_zero] at hg4
   have hb6:=Qc hp6 hb
   have wk:=rng hkl
   generalize hPk:d.prods[kk]=P at hrdp hg4 hup hidy hsl
   refine zw4 dc hm6 hg6 hkk6 ?_
   refine Qa rfl ?_
   refine zu ?_
   iterate 9 (refine zx (zp4 hb6 wk hidp hg4) ?_)
   refine Yw (t:=49) (cs:=[nilS]) zf0 zf0 ?_
   dsimp only[St.putO,St.put]
   refine Yc (v:=.slice (some ⟨idy,0,some very⟩) P.syms.length cy) (vs:=[.slice (some ⟨idy,0,some very⟩) P.syms.length cy]) (cells':=[.slice (some ⟨idy,0,some very⟩) P.syms.length cy]) zf0 rfl rfl rfl zf0 Qp zf0 rfl rfl ?_
   dsimp only
   have hset1:(h6++[HObj.arr [nilS] 0 true 49]).set h6.length (.arr [.slice (some ⟨idy,0,some very⟩) P.syms.length cy] 0 true 49)=h6++[.arr [.slice (some ⟨idy,0,some very⟩) P.syms.length cy] 0 true 49]:=by simp
   rw[hset1]
   obtain⟨h7,hh7⟩:∃ h7,h7=h6++[HObj.arr [.slice (some ⟨idy,0,some very⟩) P.syms.length cy] 0 true 49]:=⟨_,rfl⟩
   have hp7:h6 <+: h7:=hh7▸Qo
   have hy7:h7[h6.length]? = some (.arr [.slice (some ⟨idy,0,some very⟩) P.syms.length cy] 0 true 49):=hh7▸Qp
   have hl7:h7.length=h6.length+1:=by rw[hh7];simp
   rw[← hh7]
   refine zu ?_
   refine Yw (t:=3) (cs:=[i64 0]) zf0 zf0 ?_
   dsimp only[St.putO,St.put]
   refine Yc (v:=i64 0) (vs:=[i64 0]) (cells':=[i64 0]) zf0 rfl rfl rfl zf0 Qp zf0 rfl rfl ?_
   dsimp only
   have hset2:(h7++[HObj.arr [i64 0] 0 true 3]).set h7.length (.arr [i64 0] 0 true 3)=h7++[.arr [i64 0] 0 true 3]:=by simp
   rw[hset2]
   obtain⟨h8,hh8⟩:∃ h8,h8=h7++[HObj.arr [i64 0] 0 true 3]:=⟨_,rfl⟩
   have hp8:h7 <+: h8:=hh8▸Qo
   have hh9:h8[h7.length]? = some (.arr [i64 0] 0 true 3):=hh8▸Qp
   have hl8:h8.length=h7.length+1:=by rw[hh8];simp
   rw[← hh8]
   have hy8:=Qc hp8 hy7
   have hm8:=Qc (hp7.trans hp8) hm6
   have hpp:=hp6.trans (hp7.trans hp8)
   have hlen6:=hp6.length_le
   have him6:=Yn hm6
   clear hh7 hh8 hset1 hset2
   have hfH:h8=fitH h8 P.syms idy very h6.length h7.length 0 0 cy:=by
    unfold fitH
    rw[Nat.zero_mul,Nat.sub_zero,Qdt hy8,show (((0:Nat):Int))=0 from rfl,Qdt hh9]
   have hNo:(∀ ho,fitL P.syms d.boxes[k].items (0,0)≠some (P.syms.length,ho))→¬ Qcx d:=fun hn hbo=>by
    obtain⟨k2,hk2,h3,ho,h4⟩:=hbo.1 _ hmem
    have:=h3.uniq hci
    obtain rfl:k2=kk:=by omega
    rw[hPk] at h4
    exact hn ho h4
   refine zw0 ?_
   refine zj Tryz.func137 ?_
   refine (Qyi hu0 hidy om om om om hpp hfH om om (Nat.zero_le _) (Nat.le_refl _)).mono ?_
   rintro _ h9 ⟨b',q',ho',c3,rfl,rfl,g1,g2⟩
   have hgy9:=Qpt (h:=h8) (Y:=P.syms) (id:=idy) (ver:=very) (iy:=h6.length) (ih:=h7.length) (q:=q') (ho:=ho') (c:=c3) om om
   have hp9:h <+: fitH h8 P.syms idy very h6.length h7.length q' ho' c3:=Xa (Xa hpp om) om
   have hm9:(fitH h8 P.syms idy very h6.length h7.length q' ho' c3)[im]? = some (.map (smE es6)):=by
    unfold fitH
    rw[Qk om,Qk om]
    exact hm8
   generalize fitH h8 P.syms idy very h6.length h7.length q' ho' c3=h9 at hgy9 hp9 hm9 ⊢
   cases b' with
   | false=>
     have hN2:¬ Qcx d:=hNo fun ho=>by
      rw[g2 rfl]
      simp
     refine zw0 ?_
     refine Qb rfl ?_
     refine zw0 ?_
     refine Qt 3 Qq kr ?_
     refine zw0 ?_
     refine Qd ?_
     refine⟨_,zf0,⟨52,_,rfl,⟨fun h=>(by cases h),fun h=>absurd h hN2⟩⟩,hp9⟩
   | true=>
     obtain⟨g3,g4,g5⟩:=g1 rfl
     by_cases qe:q'=P.syms.length
     ·have hm0:P.syms.length-q'=0:=by omega
      rw[hm0] at hgy9
      refine zw1 hgy9 ?_
      refine Qa rfl ?_
      refine zw1 w2 ?_
      exact⟨hlt,(h9,es6),zg0,rfl,hp9,hm9,hB' ⟨kk,hkl,hci,ho',by rw[hPk,← qe];exact qe ▸ g3⟩⟩
     ·obtain⟨m,hm⟩:∃ m,P.syms.length-q'=m+1:=⟨P.syms.length-q'-1,by omega⟩
      rw[hm] at hgy9
      have dm:decide ((0:Int)<(m:Int)+1)=true:=decide_eq_true om
      refine zw2 hgy9 dm ?_
      refine Qb rfl ?_
      have hN2:¬ Qcx d:=hNo fun ho he=>by
       rw[g3] at he
       cases he
       exact qe rfl
      refine zw0 ?_
      refine Qt 3 Qq kr ?_
      refine zw0 ?_
      refine Qd ?_
      refine⟨_,zf0,⟨52,_,rfl,⟨fun h=>(by cases h),fun h=>absurd h hN2⟩⟩,hp9⟩
 ·have e3:=Qu hlt
  obtain rfl:k=d.boxes.length:=by omega
  refine zw1 e3 ?_
  refine Qa rfl ?_
  refine Qj ?_
  show CW _ _ _ _
  refine zw0 ?_
  refine Qd ?_
  refine⟨_,zf0,⟨0,_,rfl,fun _=>⟨fun x hx=>?_,?_⟩,fun _=>rfl⟩,hp⟩
  ·obtain⟨i,hi,rfl⟩:=List.getElem_of_mem hx
   exact hB.o i hi hi
  ·have:=hB.n
   rw[List.take_length] at this
   exact this
end
section
variable {h:Heap} {r:Value} {d:Def} {up uc uf ur ub:Value}
theorem Qhg {g:FuncId} {er:Int}:FW env 71 [i64 er,.func (.func g) #[] #[]] h fun x h'=>∃ i1 i2,x = .func (.func 129) #[] #[.pointer (some ⟨i1,0,some 0⟩),.pointer (some ⟨i2,0,some 0⟩)]∧h <+: h'∧h'[i1]? = some (.arr [.func (.func g) #[] #[]] 0 true 142)∧h'[i2]? = some (.arr [i64 er] 0 true 44):=by
 refine fe Tryz.func71 ?_;simp only[push_cast]
 refine zu ?_
 refine Yw (t:=44) (cs:=[i64 er]) zf0 zf0 ?_
 dsimp only[St.putO,St.put]
 have hp1:h <+: h++[HObj.arr [i64 er] 0 true 44]:=Qo
 have hx2:(h++[HObj.arr [i64 er] 0 true 44])[h.length]? = some (.arr [i64 er] 0 true 44):=Qp
 generalize (h++[HObj.arr [i64 er] 0 true 44])=h1 at hp1 hx2 ⊢
 generalize h.length=i2 at hx2 ⊢
 refine Yw (t:=142) (cs:=[.func (.func g) #[] #[]]) zf0 zf0 ?_
 dsimp only[St.putO,St.put]
 have hp2:h1 <+: h1++[HObj.arr [.func (.func g) #[] #[]] 0 true 142]:=Qo
 have hx1:(h1++[HObj.arr [.func (.func g) #[] #[]] 0 true 142])[h1.length]? = some (.arr [.func (.func g) #[] #[]] 0 true 142):=Qp
 generalize (h1++[HObj.arr [.func (.func g) #[] #[]] 0 true 142])=h2 at hp2 hx1 ⊢
 generalize h1.length=i1 at hx1 ⊢
 refine zw0 ?_
 refine Qd ?_
 exact⟨_,zf0,i1,i2,rfl,hp1.trans hp2,hx1,Qc hp2 hx2⟩
def Qqj (d:Def):Nat→Prop
 | 0=>Yj d=true
 | 1=>∀ s∈Qm d.prods,Xy d.prods s≠3
 | 2=>Xy d.prods d.start=2∧(d.layout.size=0∨Xy d.prods d.layout=1)
 | 3=>∀ s∈allN d,Xy d.prods s≠0
 | 4=>∀ p∈d.prods,p.syms.any (Qb3 d p.lex)=false
 | 5=>Qwc d.prods
 | 6=>∀ p∈d.prods,Qh2 p=false
 | 7=>∀ p∈d.prods,Ql5 d p=false
 | 8=>∀ p∈d.prods,(p.syms.any (fun s=>decide (s.kind=1)&&decide (s.text=⟨#[]⟩))||p.syms.all Jc)=false
 | 9=>∀ s∈Qm d.prods,¬ Rch d.prods (fun p=>Qbx p.syms) s s
 | 10=>Qht d
 | 11=>Qk4 d
 | 12=>∀ f∈d.follows,Qbs f.set=false
 | _=>Qcx d
def Qct (d:Def):Prop:=∀ k,k<14→Qqj d k
def LookS (h:Heap) (r:Value) (v:Value) (P:Prop):Prop:=∃ g fn cap,v = .func (.func g) #[] (List.toArray cap)∧env.P.funcs[g]? = some fn∧(fn.name == "runtime.NumGoroutine")=false∧fn.body.isNone=false∧FW env g (r :: cap) h (fun x h'=>LookR P x∧h'=h)
theorem Qh5 (hr:Yj d=true) {p:Prod} (hp:p∈d.prods):p.syms.length≠0∧p.syms.length≤12:=by
 unfold Yj at hr
 simp only[Bool.and_eq_true] at hr
 have hrp:=List.all_eq_true.1 hr.2.1 _ hp
 unfold Yb at hrp
 simp only[Bool.and_eq_true,decide_eq_true_eq] at hrp
 exact hrp.1.2.2
abbrev fnV (g:FuncId):Value:=.func (.func g) #[] #[]
abbrev Qqo (i1 i2:Nat):Value:=.func (.func 129) #[] #[.pointer (some ⟨i1,0,some 0⟩),.pointer (some ⟨i2,0,some 0⟩)]
def Qdf (a1 a2 b1 b2 c1 c2 d1 d2:Nat):List Value:=[fnV 67,fnV 68,fnV 69,fnV 70,Qqo a1 a2,fnV 73,Qqo b1 b2,Qqo c1 c2,Qqo d1 d2,fnV 77,fnV 78,fnV 79,fnV 80,fnV 81]
def HoldE (h:Heap) (i1 i2:Nat) (g:FuncId) (er:Int):Prop:=h[i1]? = some (.arr [.func (.func g) #[] #[]] 0 true 142)∧h[i2]? = some (.arr [i64 er] 0 true 44)
theorem HoldE.mono {h h':Heap} {i1 i2:Nat} {g:FuncId} {er:Int} (k:HoldE h i1 i2 g er) (hp:h <+: h'):HoldE h' i1 i2 g er:=⟨Qc hp k.1,Qc hp k.2⟩
theorem Qtk (hk:Bk h r d) (hw:DefWf d) (hpn:Yj d=true→Ym d≤160) {a1 a2 b1 b2 c1 c2 d1 d2:Nat} (ha:HoldE h a1 a2 72 44) (hb:HoldE h b1 b2 74 46) (hc:HoldE h c1 c2 75 2) (hd:HoldE h d1 d2 76 47) :
 ∀ (k:Nat) (v:Value),(Qdf a1 a2 b1 b2 c1 c2 d1 d2)[k]? = some v→(∀ j,j<k→Qqj d j)→LookS h r v (Qqj d k):=by
 intro k v hv hP
 match k,hv,hP with
 | 0,hv,hP=>cases hv;exact⟨67,Tryz.f67,[],rfl,Tryz.func67,by kernel_rfl,by kernel_rfl,Qxi hk hw⟩
 | 1,hv,hP=>cases hv;exact⟨68,Tryz.f68,[],rfl,Tryz.func68,by kernel_rfl,by kernel_rfl,Qty hk⟩
 | 2,hv,hP=>cases hv;exact⟨69,Tryz.f69,[],rfl,Tryz.func69,by kernel_rfl,by kernel_rfl,Qwo hk⟩
 | 3,hv,hP=>cases hv;exact⟨70,Tryz.f70,[],rfl,Tryz.func70,by kernel_rfl,by kernel_rfl,Qdu (Qkk hk (hpn (hP 0 (by decide))))⟩
 | 4,hv,hP=>cases hv;exact⟨129,Tryz.f129,[.pointer (some ⟨_,0,some 0⟩),.pointer (some ⟨_,0,some 0⟩)],rfl,Tryz.func129,by kernel_rfl,by kernel_rfl,Qfm hk Tryz.func72 kr kr ha.1 ha.2 (by decide) (fun p _ u hy=>Qx4 hk hy)⟩
 | 5,hv,hP=>cases hv;exact⟨73,Tryz.f73,[],rfl,Tryz.func73,by kernel_rfl,by kernel_rfl,Qs4 hk⟩
 | 6,hv,hP=>cases hv;exact⟨129,Tryz.f129,[.pointer (some ⟨_,0,some 0⟩),.pointer (some ⟨_,0,some 0⟩)],rfl,Tryz.func129,by kernel_rfl,by kernel_rfl,Qfm hk Tryz.func74 kr kr hb.1 hb.2 (by decide) (fun p _ u hy=>Qov hy)⟩
 | 7,hv,hP=>cases hv;exact⟨129,Tryz.f129,[.pointer (some ⟨_,0,some 0⟩),.pointer (some ⟨_,0,some 0⟩)],rfl,Tryz.func129,by kernel_rfl,by kernel_rfl,Qfm hk Tryz.func75 kr kr hc.1 hc.2 (by decide) (fun p hp u hy=>Qy7 hk hy (hw.prods p hp) (by have:=(Qh5 (hP 0 (by decide)) hp).2;omega))⟩
 | 8,hv,hP=>cases hv;exact⟨129,Tryz.f129,[.pointer (some ⟨_,0,some 0⟩),.pointer (some ⟨_,0,some 0⟩)],rfl,Tryz.func129,by kernel_rfl,by kernel_rfl,Qfm hk Tryz.func76 kr kr hd.1 hd.2 (by decide) (fun p _ u hy=>Xac hy)⟩
 | 9,hv,hP=>cases hv;exact⟨77,Tryz.f77,[],rfl,Tryz.func77,by kernel_rfl,by kernel_rfl,Qsv hk (hpn (hP 0 (by decide)))⟩
 | 10,hv,hP=>cases hv;exact⟨78,Tryz.f78,[],rfl,Tryz.func78,by kernel_rfl,by kernel_rfl,Qr5 hk (hpn (hP 0 (by decide)))⟩
 | 11,hv,hP=>cases hv;exact⟨79,Tryz.f79,[],rfl,Tryz.func79,by kernel_rfl,by kernel_rfl,Qxx hk⟩
 | 12,hv,hP=>cases hv;exact⟨80,Tryz.f80,[],rfl,Tryz.func80,by kernel_rfl,by kernel_rfl,Qr8 hk⟩
 | 13,hv,hP=>cases hv;exact⟨81,Tryz.f81,[],rfl,Tryz.func81,by kernel_rfl,by kernel_rfl,Xap hk (hP 0 (by decide))⟩
 | k+14,hv,hP=>simp [Qdf] at hv
set_option maxHeartbeats 8000000 in
theorem Qt2 (hd:RdDefs h d up uc uf ur ub) (hw:DefWf d) (hpn:Yj d=true→Ym d≤160):FW env 31 [.agg (d.val up uc uf ur ub).toArray] h fun x h'=>LookR (Qct d) x∧h'=h:=by
 refine Qdu ?_
 have hO:=Qpg hd
 have hd0:=hd
 obtain⟨p1,c1,rfl⟩:=RdL.form hd.prods
 obtain⟨p2,c2,rfl⟩:=RdL.form hd.chains
 obtain⟨p3,c3,rfl⟩:=SlR.form hd.follows
 obtain⟨p4,c4,rfl⟩:=SlR.form hd.rejects
 obtain⟨p5,c5,rfl⟩:=RdL.form hd.boxes
 have l1:d.prods.length≤140737488355328:=by have:=RdL.le hd.prods;omega
 have l2:d.chains.length≤140737488355328:=by have:=RdL.le hd.chains;omega
 have l3:d.follows.length≤140737488355328:=by have:=hd.follows.1;omega
 have l4:d.rejects.length≤140737488355328:=by have:=hd.rejects.1;omega
 have l5:d.boxes.length≤140737488355328:=by have:=RdL.le hd.boxes;omega
 refine fe Tryz.func31 ?_;simp only[push_cast]
 unfold Def.val at hO ⊢
 refine zw0 ?_
 refine zj Tryz.func66 ?_
 refine hO.mono ?_
 rintro _ h1 ⟨ib,im,sv,rfl,hBk⟩
 have hp1:=hBk.p
 have hk:Bk h1 (.pointer (some ⟨ib,0,some 0⟩)) d:=⟨h,ib,im,sv,_,_,_,_,_,rfl,hd0,hBk⟩
 clear hBk
 refine zw0 ?_
 refine zj Tryz.func71 ?_
 refine (Qhg (g:=72) (er:=44)).mono ?_
 rintro _ h2 ⟨a1,a2,rfl,hp2,ha1,ha2⟩
 have ha:HoldE h2 a1 a2 _ _:=⟨ha1,ha2⟩
 refine zw0 ?_
 refine zj Tryz.func71 ?_
 refine (Qhg (g:=74) (er:=46)).mono ?_
 rintro _ h3 ⟨b1,b2,rfl,hp3,hb1,hb2⟩
 have hb:HoldE h3 b1 b2 _ _:=⟨hb1,hb2⟩
 have ha:=ha.mono hp3
 refine zw0 ?_
 refine zj Tryz.func71 ?_
 refine (Qhg (g:=75) (er:=2)).mono ?_
 rintro _ h4 ⟨e1,e2,rfl,hp4,hc1,hc2⟩
 have hc:HoldE h4 e1 e2 _ _:=⟨hc1,hc2⟩
 have ha:=ha.mono hp4
 have hb:=hb.mono hp4
 refine zw0 ?_
 refine zj Tryz.func71 ?_
 refine (Qhg (g:=76) (er:=47)).mono ?_
 rintro _ h5 ⟨d1,d2,rfl,hp5,hd1,hd2⟩
 have hdd:HoldE h5 d1 d2 _ _:=⟨hd1,hd2⟩
 have ha:=ha.mono hp5
 have hb:=hb.mono hp5
 have hc:=hc.mono hp5
 refine Yi (t:=140) (cs:=Qdf a1 a2 b1 b2 e1 e2 d1 d2) (n:=14) zf0 kr ?_
 dsimp only[St.putO,St.put]
 have hp6:h5 <+: h5++[HObj.arr (Qdf a1 a2 b1 b2 e1 e2 d1 d2) 0 true 140]:=Qo
 have hL:(h5++[HObj.arr (Qdf a1 a2 b1 b2 e1 e2 d1 d2) 0 true 140])[h5.length]? = some (.arr (Qdf a1 a2 b1 b2 e1 e2 d1 d2) 0 true 140):=Qp
 generalize (h5++[HObj.arr (Qdf a1 a2 b1 b2 e1 e2 d1 d2) 0 true 140])=h6 at hp6 hL ⊢
 generalize h5.length=iL at hL ⊢
 have hp26:=((hp3.trans hp4).trans hp5).trans hp6
 have hk6:=hk.mono (hp2.trans hp26)
 have hlo:=Qtk hk6 hw hpn (ha.mono hp6) (hb.mono hp6) (hc.mono hp6) (hdd.mono hp6)
 have hpp:h <+: h6:=hp1.trans (hp2.trans hp26)
 generalize hLL:Qdf a1 a2 b1 b2 e1 e2 d1 d2=L at hL hlo
 have hLn:L.length=14:=by rw[← hLL];rfl
 refine zw0 ?_
 obtain⟨n,hn⟩:∃ n:Nat,n=14:=⟨14,rfl⟩
 refine Yq n (fun k=>[(4,.val (.pointer (some ⟨ib,0,some 0⟩))),(17,.val (.slice (some ⟨iL,0,some 0⟩) n n)),(18,.val (i64 n)),(19,.val (i64 k))]) (fun _=>h6) (fun k=>∀ j,j<k→Qqj d j) (by rw[hn];exact (by simp only[push_cast,Nat.reduceEqDiff,reduceIte,Int.reduceAdd])) rfl (fun j hj=>absurd hj om) ?_
 intro k hkn hall
 by_cases hlt:k<n
 ·have hLk:L[k]? = some L[k]:=List.getElem?_eq_getElem om
  obtain⟨g,fn,cap,hv,hf,hnm,hbd,hF⟩:=hlo k _ hLk hall
  rw[hv] at hLk
  have v1:=rng hlt
  have v2:=inc hlt om
  have v3:=Qv hlt
  refine zw1 v3 ?_
  refine Qb rfl ?_
  refine zw4 v1 hL hLk Nat.mul_one ?_
  refine zc (f:=g) (cap:=cap) (args:=[.pointer (some ⟨ib,0,some 0⟩)]) (fn:=fn) zf0 hf hnm hbd ?_
  refine hF.mono ?_
  rintro _ h7 ⟨⟨e,w,rfl,he⟩,e7⟩
  obtain rfl:=e7.symm
  by_cases q:e=0
  ·have dq:=decide_eq_true q
   refine zw1 dq ?_
   refine Qa rfl ?_
   refine zw1 v2 ?_
   refine⟨hlt,zg0,rfl,fun j hj=>?_⟩
   rcases (by omega:j<k∨j=k) with h4|rfl
   ·exact hall j h4
   ·exact he.1 q
  ·have dq:=decide_eq_false q
   refine zw1 dq ?_
   refine Qb rfl ?_
   refine zw0 ?_
   refine Qd ?_
   exact⟨_,zf0,⟨e,w,rfl,⟨fun h=>absurd h q,fun h=>absurd (he.2 (h k om)) q⟩⟩,hpp⟩
 ·have v3:=Qu hlt
  obtain rfl:k=n:=by omega
  refine zw1 v3 ?_
  refine Qa rfl ?_
  refine Qj ?_
  show CW _ _ _ _
  refine zw0 ?_
  refine Qd ?_
  exact⟨_,zf0,⟨0,_,rfl,fun _ k hk=>hall k om,fun _=>rfl⟩,hpp⟩
end
structure LKey where
 lex:Bool
 name:ByteArray
 set:BSet
 sep:ByteArray
 deriving DecidableEq
abbrev LKey.val (k:LKey):Value:=.agg #[.bool k.lex,.string k.name,u64 k.set.a,u64 k.set.b,u64 k.set.c,u64 k.set.d,.string k.sep]
def LKey.cells (k:LKey):List Value:=[.bool k.lex,.string k.name,u64 k.set.a,u64 k.set.b,u64 k.set.c,u64 k.set.d,.string k.sep]
def Qa7 (s:Sym):Bool:=decide (s.kind=5)||decide (s.kind=6)
def keyY (lex:Bool) (s:Sym):LKey:=⟨lex,s.name,s.set,s.sep⟩
def Qh8 (l:List LKey) (k:LKey):List LKey:=if k∈l then l else l++[k]
def Zy (lex:Bool) (l:List LKey) (s:Sym):List LKey:=if Qa7 s=true then Qh8 l (keyY lex s) else l
def Qak (lex:Bool) (l:List LKey) (ys:List Sym):List LKey:=ys.foldl (Zy lex) l
def Xe (ps:List Prod):List LKey:=ps.foldl (fun l p=>Qak p.lex l p.syms) []
theorem Qn0 {lex:Bool} {l:List LKey} {ys:List Sym} {k:Nat} (hk:k<ys.length):Qak lex l (ys.take (k+1))=Zy lex (Qak lex l (ys.take k)) ys[k]:=by
 unfold Qak
 rw[List.take_succ_eq_append_getElem hk,List.foldl_append]
 rfl
theorem Qo0 {ps:List Prod} {k:Nat} (hk:k<ps.length):Xe (ps.take (k+1))=Qak ps[k].lex (Xe (ps.take k)) ps[k].syms:=by
 unfold Xe
 rw[List.take_succ_eq_append_getElem hk,List.foldl_append]
 rfl
theorem Qni {lex:Bool} {l:List LKey} {s:Sym} {k:LKey}:k∈Zy lex l s↔k∈l∨(Qa7 s=true∧k=keyY lex s):=by
 unfold Zy Qh8
 by_cases h:Qa7 s=true
 ·rw[if_pos h]
  by_cases q:keyY lex s∈l
  ·rw[if_pos q]
   exact⟨.inl,fun h=>h.elim id fun h=>h.2▸q⟩
  ·rw[if_neg q,List.mem_append,List.mem_singleton]
   exact⟨fun h'=>h'.imp id fun e=>⟨h,e⟩,fun h'=>h'.imp id fun e=>e.2⟩
 ·rw[if_neg h]
  exact⟨.inl,fun h'=>h'.elim id fun e=>absurd e.1 h⟩
theorem Qjq {lex:Bool} {k:LKey}:∀ {ys:List Sym} {l:List LKey},k∈Qak lex l ys↔k∈l∨∃ s∈ys,Qa7 s=true∧k=keyY lex s
 | [],l=>by simp [Qak]
 | s :: ys,l=>by
   have ih:=Qjq (lex:=lex) (k:=k) (ys:=ys) (l:=Zy lex l s)
   unfold Qak at ih ⊢
   rw[List.foldl_cons,ih,Qni]
   simp only[List.mem_cons,exists_eq_or_imp]
   exact or_assoc
theorem Qkf {k:LKey}:∀ {ps:List Prod} {l:List LKey},k∈ps.foldl (fun l p=>Qak p.lex l p.syms) l↔k∈l∨∃ p∈ps,∃ s∈p.syms,Qa7 s=true∧k=keyY p.lex s
 | [],l=>by simp
 | p :: ps,l=>by
   rw[List.foldl_cons,Qkf (ps:=ps),Qjq]
   simp only[List.mem_cons,exists_eq_or_imp]
   exact or_assoc
theorem mem_keys {k:LKey} {ps:List Prod}:k∈Xe ps↔∃ p∈ps,∃ s∈p.syms,Qa7 s=true∧k=keyY p.lex s:=by
 unfold Xe
 rw[Qkf]
 simp
theorem Qg0:∀ {ps:List Prod} {l:List ByteArray},l.Nodup→(ps.foldl Jo l).Nodup
 | [],l,h=>h
 | p :: ps,l,h=>by
   rw[List.foldl_cons]
   refine Qg0 ?_
   unfold Jo
   split
   ·exact h
   ·rename_i q
    rw[List.nodup_append]
    exact⟨h,by simp,fun a ha b hb e=>q (memB_iff.2 (by rw[← List.mem_singleton.1 hb,← e];exact ha))⟩
theorem Qi8 {ps:List Prod}:(Qm ps).Nodup:=Qg0 List.nodup_nil
theorem Qfx {lex:Bool}:∀ {ys:List Sym} {l:List LKey},(Qak lex l ys).length≤l.length+ys.length
 | [],l=>by simp [Qak]
 | s :: ys,l=>by
   have ih:=Qfx (lex:=lex) (ys:=ys) (l:=Zy lex l s)
   have h:(Zy lex l s).length≤l.length+1:=by
    unfold Zy Qh8
    split
    ·split<;>simp
    ·simp
   unfold Qak at ih ⊢
   rw[List.foldl_cons,List.length_cons]
   omega
theorem Qdv:∀ {ps:List Prod} {l:List LKey},(ps.foldl (fun l p=>Qak p.lex l p.syms) l).length≤l.length+sumN (fun p=>p.syms.length) ps
 | [],l=>by simp
 | p :: ps,l=>by
   have ih:=Qdv (ps:=ps) (l:=Qak p.lex l p.syms)
   have h:=Qfx (lex:=p.lex) (ys:=p.syms) (l:=l)
   unfold sumN at *
   simp only[List.foldl_cons,List.map_cons,List.sum_cons]
   omega
def nS (d:Def):Nat:=(Qm d.prods).length
def nK (d:Def):Nat:=(Xe d.prods).length
def ntS (d:Def) (s:ByteArray):Nat:=(Qm d.prods).idxOf s
def ntL (d:Def) (k:LKey):Nat:=nS d+(Xe d.prods).idxOf k
def gapN (d:Def):Int:=if emB d.layout=true then -1 else ((nS d+nK d:Nat):Int)
def topN (d:Def):Nat:=nS d+nK d+(if emB d.layout=true then 0 else 1)
def ntsN (d:Def):Nat:=topN d+1
def bitS (b:Nat):BSet:=⟨if b / 64=0 then 2 ^ (b % 64) else 0,if b / 64=1 then 2 ^ (b % 64) else 0,if b / 64=2 then 2 ^ (b % 64) else 0,if b / 64=3 then 2 ^ (b % 64) else 0⟩
def set0:BSet:=⟨0,0,0,0⟩
def ntK (n:Int):KSym:=⟨n,set0⟩
def litK (t:ByteArray):List KSym:=(List.range t.size).map fun i=>⟨-1,bitS (bn t i)⟩
def Qe9 (d:Def) (name:ByteArray) (set:BSet):KSym:=if emB name=true then ⟨-1,set⟩ else ntK (ntS d name)
def ownK (d:Def) (lex:Bool) (s:Sym):List KSym:=if s.kind=1 then litK s.text else if Qa7 s=true then [ntK (ntL d (keyY lex s))] else [Qe9 d s.name s.set]
structure URow where
 mask:Nat
 rhs:List KSym
 os:List Int
def preG (d:Def) (lex:Bool) (rhs:List KSym):Bool:=!rhs.isEmpty&&(!lex && !emB d.layout)
def Qaw (d:Def) (lex:Bool) (r:URow) (i:Nat) (s:Sym):URow:=
 ⟨r.mask,r.rhs++(if preG d lex r.rhs=true then [ntK (gapN d)] else [])++ownK d lex s,r.os++(if preG d lex r.rhs=true then [-1] else [])++List.replicate (ownK d lex s).length (i:Int)⟩
def Qcg (d:Def) (lex:Bool) (r:URow) (i:Nat) (s:Sym):URow:=
 if Jc s=true then (if r.mask % 2=0 then ⟨r.mask / 2,r.rhs,r.os⟩ else Qaw d lex ⟨r.mask / 2,r.rhs,r.os⟩ i s) else Qaw d lex r i s
def Ys (d:Def) (p:Prod) (mask:Nat):Nat→URow
 | 0=>⟨mask,[],[]⟩
 | k+1=>match p.syms[k]? with
   | some s=>Qcg d p.lex (Ys d p mask k) k s
   | none=>Ys d p mask k
def Jq (d:Def) (p:Prod) (mask:Nat):URow:=Ys d p mask p.syms.length
def Qc5 (p:Prod):Nat:=2 ^ outN p.syms
def Qaf (d:Def) (i:Nat) (p:Prod) (mask:Nat):Rule×Org:=(⟨ntS d p.sort,(Jq d p mask).rhs⟩,⟨0,i,mask,(Jq d p mask).os⟩)
def Qc1 (d:Def) (i:Nat) (p:Prod):List (Rule×Org):=(List.range (Qc5 p)).map fun m=>Qaf d i p m
def rosN (d:Def):Nat→List (Rule×Org)
 | 0=>[]
 | k+1=>match d.prods[k]? with
   | some p=>rosN d k++Qc1 d k p
   | none=>rosN d k
def Jf (d:Def) (k:LKey):List KSym:=if (!k.lex && !emB d.layout)=true then [ntK (gapN d)] else []
def Qj8 (d:Def) (k:LKey):List KSym:=[ntK (ntL d k)]++Jf d k++(if emB k.sep=true then [] else litK k.sep++Jf d k)++[Qe9 d k.name k.set]
def rosK (d:Def) (k:LKey):List (Rule×Org):=[(⟨ntL d k,[Qe9 d k.name k.set]⟩,⟨1,0,0,[]⟩),(⟨ntL d k,Qj8 d k⟩,⟨2,0,0,[]⟩)]
def Qbm (d:Def) (l:List LKey):List (Rule×Org):=l.flatMap (rosK d)
def rosT (d:Def):List (Rule×Org):=if emB d.layout=true then [(⟨topN d,[ntK (ntS d d.start)]⟩,⟨5,0,0,[]⟩)]
 else [(⟨gapN d,[]⟩,⟨3,0,0,[]⟩),(⟨gapN d,[ntK (gapN d),ntK (ntS d d.layout)]⟩,⟨4,0,0,[]⟩),(⟨topN d,[ntK (gapN d),ntK (ntS d d.start),ntK (gapN d)]⟩,⟨5,0,0,[]⟩)]
def ros (d:Def):List (Rule×Org):=rosN d d.prods.length++Qbm d (Xe d.prods)++rosT d
section
variable {h:Heap}
set_option maxHeartbeats 2000000 in
theorem Qqt {v:Value} {n:Nat} {cells:List Value} (hs:SlR h v n cells 51 72) (hl:cells.length=n*5):FW env 82 [v] h fun r h'=>h <+: h'∧Grow h h' r n cells 51:=by
 have hb:n*72≤140737488355328:=hs.1
 have key:(v=nilS∧n=0∧cells=[])∨∃ a c,v = .slice (some a) n c:=by
  rcases hs.2 with ⟨rfl|rfl,rfl,rfl⟩ | ⟨id,ver,own,c,rfl,hid⟩
  ·exact .inl ⟨rfl,rfl,rfl⟩
  ·exact .inr ⟨_,_,rfl⟩
  ·exact .inr ⟨_,_,rfl⟩
 refine fe Tryz.func82 ?_;simp only[push_cast]
 rcases key with ⟨rfl,rfl,rfl⟩ | ⟨a,c,rfl⟩
 ·refine zw0 ?_
  refine Qb rfl ?_
  refine zw0 ?_
  refine Qd ?_
  exact⟨_,zf0,List.prefix_refl _,Grow.nil⟩
 ·repeat (first|apply zs|apply zr|apply zn|((first|apply zx|apply zy);·simp only[push_cast,env,Nat.reduceEqDiff,reduceIte,Nat.reduceAdd,Nat.reduceMul,Nat.reduceLeDiff,reduceCtorEq,Nat.reduceSub,Int.reduceToNat,Option.isNone_some]<;>first|exact rfl|exact .inl rfl|exact .inr rfl) | apply zq|apply zb|apply zo|apply zk|apply zl)
  refine Qa rfl ?_
  refine zu ?_
  refine Yi (t:=51) (cs:=[]) (n:=0) zf0 kr ?_
  dsimp only[St.putO,St.put]
  have hp1:h <+: h++[HObj.arr [] 0 true 51]:=Qo
  have hG:Grow h (h++[HObj.arr [] 0 true 51]) (.slice (some ⟨h.length,0,some 0⟩) 0 0) 0 [] 51:=.inr ⟨h.length,0,Nat.le_refl _,rfl,Qp⟩
  generalize (h++[HObj.arr [] 0 true 51])=h1 at hp1 hG ⊢
  generalize h.length=i1 at hG ⊢
  refine zw0 ?_
  refine Qbe (t:=22) (cs:=cells) (m:=n) kr ti51 (by decide) rfl hG hp1 rfl (hs.mono hp1) hl (by simp only;omega) om zf0 rfl zf0 zf0 ?_
  intro p' c' h' k1 k2 _
  rw[Nat.zero_add] at k2 ⊢
  rw[List.nil_append] at k2
  refine zw0 ?_
  refine Qd ?_
  refine⟨_,zf0,k1,?_⟩
  exact k2
set_option maxHeartbeats 2000000 in
theorem Qq1 {v:Value} {n:Nat} {cells:List Value} (hs:SlR h v n cells 56 88) (hl:cells.length=n*8):FW env 83 [v] h fun r h'=>h <+: h'∧Grow h h' r n cells 56:=by
 have hb:n*88≤140737488355328:=hs.1
 have key:(v=nilS∧n=0∧cells=[])∨∃ a c,v = .slice (some a) n c:=by
  rcases hs.2 with ⟨rfl|rfl,rfl,rfl⟩ | ⟨id,ver,own,c,rfl,hid⟩
  ·exact .inl ⟨rfl,rfl,rfl⟩
  ·exact .inr ⟨_,_,rfl⟩
  ·exact .inr ⟨_,_,rfl⟩
 refine fe Tryz.func83 ?_;simp only[push_cast]
 rcases key with ⟨rfl,rfl,rfl⟩ | ⟨a,c,rfl⟩
 ·refine zw0 ?_
  refine Qb rfl ?_
  refine zw0 ?_
  refine Qd ?_
  exact⟨_,zf0,List.prefix_refl _,Grow.nil⟩
 ·repeat (first|apply zs|apply zr|apply zn|((first|apply zx|apply zy);·simp only[push_cast,env,Nat.reduceEqDiff,reduceIte,Nat.reduceAdd,Nat.reduceMul,Nat.reduceLeDiff,reduceCtorEq,Nat.reduceSub,Int.reduceToNat,Option.isNone_some]<;>first|exact rfl|exact .inl rfl|exact .inr rfl) | apply zq|apply zb|apply zo|apply zk|apply zl)
  refine Qa rfl ?_
  refine zu ?_
  refine Yi (t:=56) (cs:=[]) (n:=0) zf0 kr ?_
  dsimp only[St.putO,St.put]
  have hp1:h <+: h++[HObj.arr [] 0 true 56]:=Qo
  have hG:Grow h (h++[HObj.arr [] 0 true 56]) (.slice (some ⟨h.length,0,some 0⟩) 0 0) 0 [] 56:=.inr ⟨h.length,0,Nat.le_refl _,rfl,Qp⟩
  generalize (h++[HObj.arr [] 0 true 56])=h1 at hp1 hG ⊢
  generalize h.length=i1 at hG ⊢
  refine zw0 ?_
  refine Qbe (t:=49) (cs:=cells) (m:=n) kr ti56 (by decide) rfl hG hp1 rfl (hs.mono hp1) hl (by simp only;omega) om zf0 rfl zf0 zf0 ?_
  intro p' c' h' k1 k2 _
  rw[Nat.zero_add] at k2 ⊢
  rw[List.nil_append] at k2
  refine zw0 ?_
  refine Qd ?_
  refine⟨_,zf0,k1,?_⟩
  exact k2
set_option maxHeartbeats 2000000 in
theorem Qsn {v:Value} {n:Nat} {cells:List Value} (hs:SlR h v n cells 82 32) (hl:cells.length=n*2):FW env 84 [v] h fun r h'=>h <+: h'∧Grow h h' r n cells 82:=by
 have hb:n*32≤140737488355328:=hs.1
 have key:(v=nilS∧n=0∧cells=[])∨∃ a c,v = .slice (some a) n c:=by
  rcases hs.2 with ⟨rfl|rfl,rfl,rfl⟩ | ⟨id,ver,own,c,rfl,hid⟩
  ·exact .inl ⟨rfl,rfl,rfl⟩
  ·exact .inr ⟨_,_,rfl⟩
  ·exact .inr ⟨_,_,rfl⟩
 refine fe Tryz.func84 ?_;simp only[push_cast]
 rcases key with ⟨rfl,rfl,rfl⟩ | ⟨a,c,rfl⟩
 ·refine zw0 ?_
  refine Qb rfl ?_
  refine zw0 ?_
  refine Qd ?_
  exact⟨_,zf0,List.prefix_refl _,Grow.nil⟩
 ·repeat (first|apply zs|apply zr|apply zn|((first|apply zx|apply zy);·simp only[push_cast,env,Nat.reduceEqDiff,reduceIte,Nat.reduceAdd,Nat.reduceMul,Nat.reduceLeDiff,reduceCtorEq,Nat.reduceSub,Int.reduceToNat,Option.isNone_some]<;>first|exact rfl|exact .inl rfl|exact .inr rfl) | apply zq|apply zb|apply zo|apply zk|apply zl)
  refine Qa rfl ?_
  refine zu ?_
  refine Yi (t:=82) (cs:=[]) (n:=0) zf0 kr ?_
  dsimp only[St.putO,St.put]
  have hp1:h <+: h++[HObj.arr [] 0 true 82]:=Qo
  have hG:Grow h (h++[HObj.arr [] 0 true 82]) (.slice (some ⟨h.length,0,some 0⟩) 0 0) 0 [] 82:=.inr ⟨h.length,0,Nat.le_refl _,rfl,Qp⟩
  generalize (h++[HObj.arr [] 0 true 82])=h1 at hp1 hG ⊢
  generalize h.length=i1 at hG ⊢
  refine zw0 ?_
  refine Qbe (t:=80) (cs:=cells) (m:=n) kr ti82 (by decide) rfl hG hp1 rfl (hs.mono hp1) hl (by simp only;omega) om zf0 rfl zf0 zf0 ?_
  intro p' c' h' k1 k2 _
  rw[Nat.zero_add] at k2 ⊢
  rw[List.nil_append] at k2
  refine zw0 ?_
  refine Qd ?_
  refine⟨_,zf0,k1,?_⟩
  exact k2
set_option maxHeartbeats 2000000 in
theorem Qr4 {v:Value} {n:Nat} {cells:List Value} (hs:SlR h v n cells 9 16) (hl:cells.length=n*1):FW env 85 [v] h fun r h'=>h <+: h'∧Grow h h' r n cells 9:=by
 have hb:n*16≤140737488355328:=hs.1
 have key:(v=nilS∧n=0∧cells=[])∨∃ a c,v = .slice (some a) n c:=by
  rcases hs.2 with ⟨rfl|rfl,rfl,rfl⟩ | ⟨id,ver,own,c,rfl,hid⟩
  ·exact .inl ⟨rfl,rfl,rfl⟩
  ·exact .inr ⟨_,_,rfl⟩
  ·exact .inr ⟨_,_,rfl⟩
 refine fe Tryz.func85 ?_;simp only[push_cast]
 rcases key with ⟨rfl,rfl,rfl⟩ | ⟨a,c,rfl⟩
 ·refine zw0 ?_
  refine Qb rfl ?_
  refine zw0 ?_
  refine Qd ?_
  exact⟨_,zf0,List.prefix_refl _,Grow.nil⟩
 ·repeat (first|apply zs|apply zr|apply zn|((first|apply zx|apply zy);·simp only[push_cast,env,Nat.reduceEqDiff,reduceIte,Nat.reduceAdd,Nat.reduceMul,Nat.reduceLeDiff,reduceCtorEq,Nat.reduceSub,Int.reduceToNat,Option.isNone_some]<;>first|exact rfl|exact .inl rfl|exact .inr rfl) | apply zq|apply zb|apply zo|apply zk|apply zl)
  refine Qa rfl ?_
  refine zu ?_
  refine Yi (t:=9) (cs:=[]) (n:=0) zf0 kr ?_
  dsimp only[St.putO,St.put]
  have hp1:h <+: h++[HObj.arr [] 0 true 9]:=Qo
  have hG:Grow h (h++[HObj.arr [] 0 true 9]) (.slice (some ⟨h.length,0,some 0⟩) 0 0) 0 [] 9:=.inr ⟨h.length,0,Nat.le_refl _,rfl,Qp⟩
  generalize (h++[HObj.arr [] 0 true 9])=h1 at hp1 hG ⊢
  generalize h.length=i1 at hG ⊢
  refine zw0 ?_
  refine Qbe (t:=36) (cs:=cells) (m:=n) kr ti9 (by decide) rfl hG hp1 rfl (hs.mono hp1) hl (by simp only;omega) om zf0 rfl zf0 zf0 ?_
  intro p' c' h' k1 k2 _
  rw[Nat.zero_add] at k2 ⊢
  rw[List.nil_append] at k2
  refine zw0 ?_
  refine Qd ?_
  refine⟨_,zf0,k1,?_⟩
  exact k2
set_option maxHeartbeats 2000000 in
theorem Qq3 {v:Value} {n:Nat} {cells:List Value} (hs:SlR h v n cells 112 48) (hl:cells.length=n*5):FW env 86 [v] h fun r h'=>h <+: h'∧Grow h h' r n cells 112:=by
 have hb:n*48≤140737488355328:=hs.1
 have key:(v=nilS∧n=0∧cells=[])∨∃ a c,v = .slice (some a) n c:=by
  rcases hs.2 with ⟨rfl|rfl,rfl,rfl⟩ | ⟨id,ver,own,c,rfl,hid⟩
  ·exact .inl ⟨rfl,rfl,rfl⟩
  ·exact .inr ⟨_,_,rfl⟩
  ·exact .inr ⟨_,_,rfl⟩
 refine fe Tryz.func86 ?_;simp only[push_cast]
 rcases key with ⟨rfl,rfl,rfl⟩ | ⟨a,c,rfl⟩
 ·refine zw0 ?_
  refine Qb rfl ?_
  refine zw0 ?_
  refine Qd ?_
  exact⟨_,zf0,List.prefix_refl _,Grow.nil⟩
 ·repeat (first|apply zs|apply zr|apply zn|((first|apply zx|apply zy);·simp only[push_cast,env,Nat.reduceEqDiff,reduceIte,Nat.reduceAdd,Nat.reduceMul,Nat.reduceLeDiff,reduceCtorEq,Nat.reduceSub,Int.reduceToNat,Option.isNone_some]<;>first|exact rfl|exact .inl rfl|exact .inr rfl) | apply zq|apply zb|apply zo|apply zk|apply zl)
  refine Qa rfl ?_
  refine zu ?_
  refine Yi (t:=112) (cs:=[]) (n:=0) zf0 kr ?_
  dsimp only[St.putO,St.put]
  have hp1:h <+: h++[HObj.arr [] 0 true 112]:=Qo
  have hG:Grow h (h++[HObj.arr [] 0 true 112]) (.slice (some ⟨h.length,0,some 0⟩) 0 0) 0 [] 112:=.inr ⟨h.length,0,Nat.le_refl _,rfl,Qp⟩
  generalize (h++[HObj.arr [] 0 true 112])=h1 at hp1 hG ⊢
  generalize h.length=i1 at hG ⊢
  refine zw0 ?_
  refine Qbe (t:=24) (cs:=cells) (m:=n) kr Xad (by decide) rfl hG hp1 rfl (hs.mono hp1) hl (by simp only;omega) om zf0 rfl zf0 zf0 ?_
  intro p' c' h' k1 k2 _
  rw[Nat.zero_add] at k2 ⊢
  rw[List.nil_append] at k2
  refine zw0 ?_
  refine Qd ?_
  refine⟨_,zf0,k1,?_⟩
  exact k2
set_option maxHeartbeats 2000000 in
theorem Qq2 {v:Value} {n:Nat} {cells:List Value} (hs:SlR h v n cells 114 32) (hl:cells.length=n*2):FW env 87 [v] h fun r h'=>h <+: h'∧Grow h h' r n cells 114:=by
 have hb:n*32≤140737488355328:=hs.1
 have key:(v=nilS∧n=0∧cells=[])∨∃ a c,v = .slice (some a) n c:=by
  rcases hs.2 with ⟨rfl|rfl,rfl,rfl⟩ | ⟨id,ver,own,c,rfl,hid⟩
  ·exact .inl ⟨rfl,rfl,rfl⟩
  ·exact .inr ⟨_,_,rfl⟩
  ·exact .inr ⟨_,_,rfl⟩
 refine fe Tryz.func87 ?_;simp only[push_cast]
 rcases key with ⟨rfl,rfl,rfl⟩ | ⟨a,c,rfl⟩
 ·refine zw0 ?_
  refine Qb rfl ?_
  refine zw0 ?_
  refine Qd ?_
  exact⟨_,zf0,List.prefix_refl _,Grow.nil⟩
 ·repeat (first|apply zs|apply zr|apply zn|((first|apply zx|apply zy);·simp only[push_cast,env,Nat.reduceEqDiff,reduceIte,Nat.reduceAdd,Nat.reduceMul,Nat.reduceLeDiff,reduceCtorEq,Nat.reduceSub,Int.reduceToNat,Option.isNone_some]<;>first|exact rfl|exact .inl rfl|exact .inr rfl) | apply zq|apply zb|apply zo|apply zk|apply zl)
  refine Qa rfl ?_
  refine zu ?_
  refine Yi (t:=114) (cs:=[]) (n:=0) zf0 kr ?_
  dsimp only[St.putO,St.put]
  have hp1:h <+: h++[HObj.arr [] 0 true 114]:=Qo
  have hG:Grow h (h++[HObj.arr [] 0 true 114]) (.slice (some ⟨h.length,0,some 0⟩) 0 0) 0 [] 114:=.inr ⟨h.length,0,Nat.le_refl _,rfl,Qp⟩
  generalize (h++[HObj.arr [] 0 true 114])=h1 at hp1 hG ⊢
  generalize h.length=i1 at hG ⊢
  refine zw0 ?_
  refine Qbe (t:=25) (cs:=cells) (m:=n) kr Xan (by decide) rfl hG hp1 rfl (hs.mono hp1) hl (by simp only;omega) om zf0 rfl zf0 zf0 ?_
  intro p' c' h' k1 k2 _
  rw[Nat.zero_add] at k2 ⊢
  rw[List.nil_append] at k2
  refine zw0 ?_
  refine Qd ?_
  refine⟨_,zf0,k1,?_⟩
  exact k2
set_option maxHeartbeats 2000000 in
theorem Qrg {v:Value} {n:Nat} {cells:List Value} (hs:SlR h v n cells 85 40) (hl:cells.length=n*2):FW env 88 [v] h fun r h'=>h <+: h'∧Grow h h' r n cells 85:=by
 have hb:n*40≤140737488355328:=hs.1
 have key:(v=nilS∧n=0∧cells=[])∨∃ a c,v = .slice (some a) n c:=by
  rcases hs.2 with ⟨rfl|rfl,rfl,rfl⟩ | ⟨id,ver,own,c,rfl,hid⟩
  ·exact .inl ⟨rfl,rfl,rfl⟩
  ·exact .inr ⟨_,_,rfl⟩
  ·exact .inr ⟨_,_,rfl⟩
 refine fe Tryz.func88 ?_;simp only[push_cast]
 rcases key with ⟨rfl,rfl,rfl⟩ | ⟨a,c,rfl⟩
 ·refine zw0 ?_
  refine Qb rfl ?_
  refine zw0 ?_
  refine Qd ?_
  exact⟨_,zf0,List.prefix_refl _,Grow.nil⟩
 ·repeat (first|apply zs|apply zr|apply zn|((first|apply zx|apply zy);·simp only[push_cast,env,Nat.reduceEqDiff,reduceIte,Nat.reduceAdd,Nat.reduceMul,Nat.reduceLeDiff,reduceCtorEq,Nat.reduceSub,Int.reduceToNat,Option.isNone_some]<;>first|exact rfl|exact .inl rfl|exact .inr rfl) | apply zq|apply zb|apply zo|apply zk|apply zl)
  refine Qa rfl ?_
  refine zu ?_
  refine Yi (t:=85) (cs:=[]) (n:=0) zf0 kr ?_
  dsimp only[St.putO,St.put]
  have hp1:h <+: h++[HObj.arr [] 0 true 85]:=Qo
  have hG:Grow h (h++[HObj.arr [] 0 true 85]) (.slice (some ⟨h.length,0,some 0⟩) 0 0) 0 [] 85:=.inr ⟨h.length,0,Nat.le_refl _,rfl,Qp⟩
  generalize (h++[HObj.arr [] 0 true 85])=h1 at hp1 hG ⊢
  generalize h.length=i1 at hG ⊢
  refine zw0 ?_
  refine Qbe (t:=26) (cs:=cells) (m:=n) kr ti85 (by decide) rfl hG hp1 rfl (hs.mono hp1) hl (by simp only;omega) om zf0 rfl zf0 zf0 ?_
  intro p' c' h' k1 k2 _
  rw[Nat.zero_add] at k2 ⊢
  rw[List.nil_append] at k2
  refine zw0 ?_
  refine Qd ?_
  refine⟨_,zf0,k1,?_⟩
  exact k2
set_option maxHeartbeats 2000000 in
theorem Qqw {v:Value} {n:Nat} {cells:List Value} (hs:SlR h v n cells 136 56) (hl:cells.length=n*4):FW env 138 [v] h fun r h'=>h <+: h'∧Grow h h' r n cells 136:=by
 have hb:n*56≤140737488355328:=hs.1
 have key:(v=nilS∧n=0∧cells=[])∨∃ a c,v = .slice (some a) n c:=by
  rcases hs.2 with ⟨rfl|rfl,rfl,rfl⟩ | ⟨id,ver,own,c,rfl,hid⟩
  ·exact .inl ⟨rfl,rfl,rfl⟩
  ·exact .inr ⟨_,_,rfl⟩
  ·exact .inr ⟨_,_,rfl⟩
 refine fe Tryz.func138 ?_;simp only[push_cast]
 rcases key with ⟨rfl,rfl,rfl⟩ | ⟨a,c,rfl⟩
 ·refine zw0 ?_
  refine Qb rfl ?_
  refine zw0 ?_
  refine Qd ?_
  exact⟨_,zf0,List.prefix_refl _,Grow.nil⟩
 ·repeat (first|apply zs|apply zr|apply zn|((first|apply zx|apply zy);·simp only[push_cast,env,Nat.reduceEqDiff,reduceIte,Nat.reduceAdd,Nat.reduceMul,Nat.reduceLeDiff,reduceCtorEq,Nat.reduceSub,Int.reduceToNat,Option.isNone_some]<;>first|exact rfl|exact .inl rfl|exact .inr rfl) | apply zq|apply zb|apply zo|apply zk|apply zl)
  refine Qa rfl ?_
  refine zu ?_
  refine Yi (t:=136) (cs:=[]) (n:=0) zf0 kr ?_
  dsimp only[St.putO,St.put]
  have hp1:h <+: h++[HObj.arr [] 0 true 136]:=Qo
  have hG:Grow h (h++[HObj.arr [] 0 true 136]) (.slice (some ⟨h.length,0,some 0⟩) 0 0) 0 [] 136:=.inr ⟨h.length,0,Nat.le_refl _,rfl,Qp⟩
  generalize (h++[HObj.arr [] 0 true 136])=h1 at hp1 hG ⊢
  generalize h.length=i1 at hG ⊢
  refine zw0 ?_
  refine Qbe (t:=83) (cs:=cells) (m:=n) kr Xal (by decide) rfl hG hp1 rfl (hs.mono hp1) hl (by simp only;omega) om zf0 rfl zf0 zf0 ?_
  intro p' c' h' k1 k2 _
  rw[Nat.zero_add] at k2 ⊢
  rw[List.nil_append] at k2
  refine zw0 ?_
  refine Qd ?_
  refine⟨_,zf0,k1,?_⟩
  exact k2
end
def Agr (n:Nat) (h h':Heap):Prop:=∀ j o,n≤j→h[j]? = some o→h'[j]? = some o
section
variable {n m:Nat} {a b c h h' hk:Heap}
theorem Agr.refl:Agr n h h:=fun _ _ _ k=>k
theorem Agr.trans (k1:Agr n a b) (k2:Agr n b c):Agr n a c:=fun j o hj e=>k2 j o hj (k1 j o hj e)
theorem Agr.low (k:Agr n a b) (hn:n≤m):Agr m a b:=fun j o hj e=>k j o om e
theorem Agr.pre (k:a <+: b):Agr n a b:=fun j o _ e=>Qc k e
theorem Agr.set {i:Nat} {x:HObj} (hi:i<n):Agr n h (h.set i x):=fun j o hj e=>by rw[Qk om];exact e
def Fr (R:Heap→Prop) (n:Nat) (h:Heap):Prop:=∀ h',Agr n h h'→R h'
variable {R:Heap→Prop}
theorem Fr.mono (k:Fr R n a) (h:Agr n a b):Fr R n b:=fun x e=>k x (h.trans e)
theorem Fr.low (k:Fr R m a) (h:n≤m):Fr R n a:=fun x e=>k x (e.low h)
theorem Fr.now (k:Fr R n a):R a:=k a Agr.refl
theorem Grow.fr {v:Value} {cells:List Value} {et:TypeId} {b:Nat} (G:Grow h hk v n cells et) (hb:n*b≤140737488355328):Fr (fun x=>SlR x v n cells et b) h.length hk:=fun x e=>
 (G.mono (h':=x) fun j o hj ho=>e j o (G.lt hj).1 ho).sl hb
theorem Qug {α:Type} {f:α→List Value} {k:Nat} (hf:∀ x,(f x).length=k) {l:List α} {i o:Nat} {x:α} {v:Value} (hi:i<l.length) (ho:o<k) (hx:f x=(f l[i]).set o v):(l.flatMap f).set (i*k+o) v=(l.set i x).flatMap f:=by
 have e:l.flatMap f=(l.take i).flatMap f++(f l[i]++(l.drop (i+1)).flatMap f):=by
  conv=>lhs;rw[← List.take_append_drop i l,List.flatMap_append,List.drop_eq_getElem_cons hi,List.flatMap_cons]
 have hti:((l.take i).flatMap f).length=i*k:=by rw[Yv hf,List.length_take,Nat.min_eq_left om]
 have e2:(l.set i x).flatMap f=(l.take i).flatMap f++(f x++(l.drop (i+1)).flatMap f):=by rw[List.set_eq_take_append_cons_drop,if_pos hi,List.flatMap_append,List.flatMap_cons]
 rw[e2,e,List.set_append_right _ _ om,hti,show i*k+o-i*k=o by omega,List.set_append_left _ _ (by rw[hf];exact ho),hx]
theorem Qqh {α β:Type}:∀ {l:List α} {W:List β} {i:Nat} (hi:i<l.length) (r:β),(l.zip W).set i (l[i],r)=l.zip (W.set i r)
 | x :: l,[],i,_,r=>by simp
 | x :: l,w :: W,0,_,r=>by simp
 | x :: l,w :: W,i+1,hi,r=>by
   simp only[List.zip_cons_cons,List.set_cons_succ,List.getElem_cons_succ]
   rw[Qqh (Nat.lt_of_succ_lt_succ hi)]
theorem Xdw {cells:List Value} {off:Nat} {v:Value} (h:off<cells.length):wrC cells off [v]=some (cells.set off v):=by
 unfold wrC
 rw[if_pos (by rw[List.length_singleton];omega)]
 congr 1
 rw[List.set_eq_take_append_cons_drop,if_pos h]
 simp
theorem Qfk {α:Type} {f:α→Value→List Value} {k o:Nat} (hf:∀ x u,(f x u).length=k) (ho:o<k) (hx:∀ x u v,f x v=(f x u).set o v) {l:List α} {W:List Value} (hW:W.length=l.length) {i:Nat} (hi:i<l.length) {v:Value} :
 wrC ((l.zip W).flatMap fun p=>f p.1 p.2) (i*k+o) [v]=some ((l.zip (W.set i v)).flatMap fun p=>f p.1 p.2):=by
 have hz:i<(l.zip W).length:=by simp [hW,hi]
 have hl:=Yv (f:=fun p:α×Value=>f p.1 p.2) (k:=k) (fun _=>hf _ _) (l.zip W)
 have h1:(i+1)*k≤(l.zip W).length*k:=Nat.mul_le_mul_right k hz
 rw[Nat.succ_mul] at h1
 rw[Xdw om,Qug (f:=fun p:α×Value=>f p.1 p.2) (fun _=>hf _ _) (x:=(l[i],v)) hz ho (by simp only[List.getElem_zip];exact hx _ _ _),Qqh hi]
theorem Qg8 {α:Type} {f:α→Value→List Value} {k:Nat} (hf:∀ x u,(f x u).length=k) {l:List α} {W:List Value} {i:Nat} {u:Value} (hi:i<l.length) (hu:W[i]? = some u):rdH ((l.zip W).flatMap fun p=>f p.1 p.2) (i*k) k=some (f l[i] u):=by
 refine Xs (f:=fun p:α×Value=>f p.1 p.2) (fun _=>hf _ _) (l.zip W) i (l[i],u) ?_
 obtain⟨hw,rfl⟩:=List.getElem?_eq_some_iff.1 hu
 simp [List.getElem?_zip_eq_some,hi,hw]
end
abbrev itF:Item→Value→List Value:=fun p u=>[i64 p.kind,.string p.text,i64 p.n,u]
structure ItI (h hk:Heap) (id ver:Nat) (l:List Item) (us W:List Value) (k:Nat):Prop where
 p:h <+: hk
 n:W.length=l.length
 o:hk[id]? = some (.arr ((l.zip W).flatMap fun p=>itF p.1 p.2) ver true 136)
 d:∀ (i:Nat) (hi:i<l.length),i<k→∃ u,W[i]? = some u∧Fr (fun x=>RdItems x u l[i].items) (id+1) hk
 r:∀ i,k≤i→W[i]? = us[i]?
set_option maxHeartbeats 8000000 in
theorem Quv {h0:Heap} {v:Value} {l:List Item} (hr:RdItems h0 v l):∀ {h:Heap},h0 <+: h→FW env 89 [v] h fun r h'=>h <+: h'∧(∃ p c,r = .slice p l.length c)∧Fr (fun x=>RdItems x r l) h.length h':=by
 induction hr with
 | @mk v l us hl hs hu ih=>
   intro h hp0
   have hle:=hs.1
   have hn:l.length≤140737488355328:=by omega
   have hcl:((l.zip us).flatMap fun p=>itF p.1 p.2).length=l.length*4:=by rw[Yv (f:=fun p:Item×Value=>itF p.1 p.2) (k:=4) (fun _=>rfl),List.length_zip,hl,Nat.min_self]
   refine fe Tryz.func89 ?_;simp only[push_cast]
   refine zw0 ?_
   refine zj Tryz.func138 ?_
   refine (Qqw (hs.mono hp0) hcl).mono ?_
   rintro r1 h1 ⟨hp1,hG⟩
   by_cases hz:l.length=0
   ·obtain⟨pq,cq,rfl⟩:=hG.form
    have hfin:Fr (fun x=>RdItems x (.slice pq l.length cq) l) h.length h1:=fun x e=>.mk us hl (hG.fr (b:=56) om x e) (fun i x u h1 h2=>by have:=(List.getElem?_eq_some_iff.1 h1).1;omega)
    refine zw0 ?_
    refine Yq l.length (fun k=>[(0,.val (.slice pq l.length cq)),(7,.val (i64 l.length)),(8,.val (i64 k))]) (fun _=>h1) (fun _=>True) zg0 rfl trivial ?_
    intro k hk _
    have hlt:¬ k<l.length:=by omega
    have e3:=Qu hlt
    refine zw1 e3 ?_
    refine Qa rfl ?_
    refine Qj ?_
    show CW _ _ _ _
    refine zw0 ?_
    refine Qd ?_
    refine⟨_,zf0,hp1,⟨pq,cq,?_⟩,?_⟩
    ·rfl
    ·exact hfin
   obtain⟨id,ver,hid,rfl,hob⟩:=hG.mine om
   refine zw0 ?_
   refine Qy l.length (fun k (x:Heap×List Value)=>[(0,.val (.slice (some ⟨id,0,some ver⟩) l.length l.length)),(7,.val (i64 l.length)),(8,.val (i64 k))]) (fun _ x=>x.1) (fun k x=>ItI h x.1 id ver l us x.2 k) (h1,us) zg0 rfl ⟨hp1,hl,hob,fun i hi h=>absurd h om,fun i _=>rfl⟩ ?_
   rintro k ⟨hk,W⟩ hkn I
   simp only at I ⊢
   by_cases hlt:k<l.length
   ·have e1:=rng hlt
    have e2:=inc hlt hn
    have e3:=Qv hlt
    have hi':k<us.length:=hl▸hlt
    have hWk:W[k]? = some us[k]:=by rw[I.r k (Nat.le_refl _)];simp [hi']
    have hg:=Qg8 (f:=itF) (k:=4) (fun _ _=>rfl) hlt hWk
    have hg3:=Ja (j:=3) hg om
    simp only[List.getElem?_cons_succ,List.getElem?_cons_zero] at hg3
    have ho:=I.o
    have hrec:=@ih k l[k] us[k] (by simp [hlt]) (by simp [hi']) hk (hp0.trans I.p)
    have hlen1:=Yn I.o
    refine zw1 e3 ?_
    refine Qb rfl ?_
    refine zw3 e1 ho hg3 ?_
    refine zj Tryz.func89 ?_
    refine hrec.mono ?_
    rintro _ h5 ⟨hp5,⟨pr,cr,rfl⟩,hF⟩
    have ho5:=Qc hp5 ho
    refine zw1 e1 ?_
    refine Yc zf0 rfl rfl rfl zf0 ho5 zf0 rfl (Qfk (f:=itF) (k:=4) (o:=3) (fun _ _=>rfl) (by decide) (fun _ _ _=>rfl) I.n hlt) ?_
    refine zw1 e2 ?_
    have hA5:Agr (id+1) hk (h5.set id (.arr ((l.zip (W.set k (.slice pr l[k].items.length cr))).flatMap fun p=>itF p.1 p.2) ver true 136)):=(Agr.pre hp5).trans (Agr.set om)
    refine⟨hlt,(h5.set id (.arr ((l.zip (W.set k (.slice pr l[k].items.length cr))).flatMap fun p=>itF p.1 p.2) ver true 136),W.set k (.slice pr l[k].items.length cr)),zg0,rfl,Xa (I.p.trans hp5) hid,by rw[List.length_set];exact I.n,Qh ho5,fun i hi h2=>?_,fun i hi=>?_⟩
    ·rcases (by omega:i<k∨i=k) with h4|rfl
     ·obtain⟨u,hu1,hu2⟩:=I.d i hi h4
      exact⟨u,by rw[List.getElem?_set_ne om];exact hu1,hu2.mono hA5⟩
     ·refine⟨_,List.getElem?_set_self (by rw[I.n];exact hlt),(hF.mono ?_).low om⟩
      exact Agr.set om
    ·simp only
     rw[List.getElem?_set_ne om]
     exact I.r i om
   ·have e3:=Qu hlt
    obtain rfl:k=l.length:=by omega
    refine zw1 e3 ?_
    refine Qa rfl ?_
    refine Qj ?_
    show CW _ _ _ _
    have hfin:Fr (fun x=>RdItems x (.slice (some ⟨id,0,some ver⟩) l.length l.length) l) h.length hk:=by
     refine fun x e=>.mk W I.n ⟨hle,.inr ⟨id,ver,true,_,rfl,e _ _ hid I.o⟩⟩ fun i y u h1 h2=>?_
     obtain⟨hi,rfl⟩:=List.getElem?_eq_some_iff.1 h1
     obtain⟨u',hu1,hu2⟩:=I.d i hi hi
     rw[hu1] at h2
     cases h2
     exact hu2 x (e.low om)
    refine zw0 ?_
    refine Qd ?_
    refine⟨_,zf0,I.p,⟨some ⟨id,0,some ver⟩,l.length,?_⟩,?_⟩
    ·rfl
    ·exact hfin
def selB (l:List Org) (p:Int) (i:Nat):Bool:=match l[i]? with
 | some o=>decide (o.kind=0)&&decide (o.prod=p)
 | none=>false
def Yx (l:List Org) (p:Int) (n:Nat):List Int:=((List.range n).filter (selB l p)).map Int.ofNat
theorem Qmd {l:List Org} {p:Int} {n:Nat}:Yx l p (n+1)=if selB l p n=true then Yx l p n++[(n:Int)] else Yx l p n:=by
 unfold Yx
 rw[List.range_succ,List.filter_append,List.map_append]
 cases h:selB l p n<;>simp [h]
theorem Qod {l:List Org} {p:Int} {n:Nat}:(Yx l p n).length≤n:=by
 unfold Yx
 rw[List.length_map]
 exact Nat.le_trans (List.length_filter_le _ _) (by simp)
theorem Qxt {l:List Org} {p:Int} {i:Nat} (hi:i<l.length):selB l p i=(decide (l[i].kind=0)&&decide (l[i].prod=p)):=by
 unfold selB
 rw[List.getElem?_eq_getElem hi]
section
variable {h:Heap} {v:Value} {fr:List Org} {l:List ByteArray} {b:ByteArray} {p:Int}
set_option maxHeartbeats 4000000 in
theorem Qj9 (hk:RdKern0 h v fr l) (hm:fr.length≤4096):FW env 22 [v,i64 p] h fun r h'=>h <+: h'∧Grow h h' r (Yx fr p fr.length).length ((Yx fr p fr.length).map i64) 3:=by
 obtain⟨s0,s1,p2,p3,p4,p5,p6,p9,p12,p13,p14,n2,n3,n4,n5,n6,n9,n12,n13,n14,c2,c3,c4,c5,c6,c9,c12,c13,c14,i7,i8,uf,un,rfl,hf,hn⟩:=hk
 obtain⟨pf,cf,rfl⟩:=hf.form
 obtain⟨pn,cn,rfl⟩:=hn.form
 have z0:(Yx fr p 0).length=0:=rfl
 refine fe Tryz.func22 ?_;simp only[push_cast]
 refine zw0 ?_
 refine Qy fr.length (fun k (x:Heap×Option Addr×Nat)=>[(1,.val (i64 p)),(5,.val (.slice x.2.1 (Yx fr p k).length x.2.2)),(9,.val (.slice pf fr.length cf)),(10,.val (i64 fr.length)),(11,.val (i64 k))]) (fun _ x=>x.1)
  (fun k x=>h <+: x.1∧Grow h x.1 (.slice x.2.1 (Yx fr p k).length x.2.2) (Yx fr p k).length ((Yx fr p k).map i64) 3) (h,none,0) (zg1 z0) rfl ⟨List.prefix_refl _,Grow.nil⟩ ?_
 rintro k ⟨hk,q,cq⟩ hkn ⟨hp,hG⟩
 simp only at hp hG ⊢
 have hlen:(Yx fr p k).length≤k:=Qod
 by_cases hlt:k<fr.length
 ·have hf':=hf.mono hp
  obtain⟨id,ver,own,c',cells,ps,ns,cs,hv,hid,_,hc,_⟩:=hf'.at hlt
  cases hv
  have e1:=rng hlt
  have e2:=inc hlt hf.le
  have e3:=Qv hlt
  have hs:=Qmd (l:=fr) (p:=p) (n:=k)
  rw[Qxt hlt] at hs
  refine zw1 e3 ?_
  refine Qb rfl ?_
  by_cases q1:fr[k].kind=0
  ·by_cases q2:fr[k].prod=p
   ·rw[if_pos (by simp [q1,q2])] at hs
    have hs2:(Yx fr p (k+1)).length=(Yx fr p k).length+1:=by rw[hs];simp
    repeat (first|apply zs|apply zr|apply zn|((first|apply zx|apply zy);·simp only[push_cast,env,Nat.reduceEqDiff,reduceIte,Nat.reduceAdd,Nat.reduceMul,Nat.reduceLeDiff,reduceCtorEq,Nat.reduceSub,Int.reduceToNat,e1,hid,hc,q1,q2,decide_true]<;>first|exact rfl|exact .inl rfl|exact .inr rfl) | apply zq|apply zb|apply zo|apply zk|apply zl)
    refine Qb rfl ?_
    refine zw0 ?_
    refine Qmg (l:=Yx fr p k) (b:=k) (h:=h) zf0 rfl zf0 zf0 hG hp om ?_
    intro p' c' h' k1 k2 _ _
    refine zw1 e2 ?_
    refine⟨hlt,(h',p',c'),?_,rfl,k2,?_⟩
    ·exact (zg1 hs2)
    ·rw[hs]
     simpa using k1
   ·rw[if_neg (by simp [q2])] at hs
    repeat (first|apply zs|apply zr|apply zn|((first|apply zx|apply zy);·simp only[push_cast,env,Nat.reduceEqDiff,reduceIte,Nat.reduceAdd,Nat.reduceMul,Nat.reduceLeDiff,reduceCtorEq,Nat.reduceSub,Int.reduceToNat,e1,hid,hc,q1,q2,decide_true,decide_false]<;>first|exact rfl|exact .inl rfl|exact .inr rfl) | apply zq|apply zb|apply zo|apply zk|apply zl)
    refine Qa rfl ?_
    refine zw1 e2 ?_
    refine⟨hlt,(hk,q,cq),?_,rfl,hp,?_⟩
    ·exact (zg1 hs)
    ·rw[hs]
     exact hG
  ·rw[if_neg (by simp [q1])] at hs
   repeat (first|apply zs|apply zr|apply zn|((first|apply zx|apply zy);·simp only[push_cast,env,Nat.reduceEqDiff,reduceIte,Nat.reduceAdd,Nat.reduceMul,Nat.reduceLeDiff,reduceCtorEq,Nat.reduceSub,Int.reduceToNat,e1,hid,hc,q1,decide_false]<;>first|exact rfl|exact .inl rfl|exact .inr rfl) | apply zq|apply zb|apply zo|apply zk|apply zl)
   refine Qa rfl ?_
   refine zw1 e2 ?_
   refine⟨hlt,(hk,q,cq),?_,rfl,hp,?_⟩
   ·exact (zg1 hs)
   ·rw[hs]
    exact hG
 ·have e3:=Qu hlt
  obtain rfl:k=fr.length:=by omega
  refine zw1 e3 ?_
  refine Qa rfl ?_
  refine Qj ?_
  show CW _ _ _ _
  refine zw0 ?_
  refine Qd ?_
  refine⟨_,zf0,hp,?_⟩
  exact hG
end
end Go.Proofs.YtmdmimkbpikmoaaGreat
namespace Go.Proofs.YtmdmimkbpikmoaaGreat.Run5
set_option linter.unusedSimpArgs false
set_option linter.unusedVariables false
open Go.RowKit Am Ty
set_option maxRecDepth 100000
def s1v:Value:=.agg #[.string ⟨#[69]⟩,zE,.slice (some ⟨7,0,some 0⟩) 3 3,.slice (some ⟨10,0,some 0⟩) 1 1,zN,zN,zN]
def s1h:Heap:=[.arr [.string ⟨#[69]⟩,zE,.slice (some ⟨7,0,some 0⟩) 3 3,.slice (some ⟨10,0,some 0⟩) 1 1,zN,zN,zN] 0 true 28,
 .arr [i64 3,zE,zU,zU,zU,zU,.string ⟨#[69]⟩,zE] 0 true 56,
 .arr [i64 3,zE,zU,zU,zU,zU,.string ⟨#[78]⟩,zE] 0 true 56,
 .arr [i64 1,.string ⟨#[43]⟩,zU,zU,zU,zU,zE,zE] 0 true 56,
 .arr [i64 3,zE,zU,zU,zU,zU,.string ⟨#[69]⟩,zE,i64 1,.string ⟨#[43]⟩,zU,zU,zU,zU,zE,zE,i64 3,zE,zU,zU,zU,zU,.string ⟨#[69]⟩,zE] 0 true 56,
 .arr [i64 3,zE,zU,zU,zU,zU,.string ⟨#[78]⟩,zE] 0 true 56,
 .arr [i64 6,zE,.int .u64 281474976710656,zU,zU,zU,zE,zE] 0 true 56,
 .arr [.bool false,.string ⟨#[69]⟩,.string ⟨#[65]⟩,.bool false,.slice (some ⟨4,0,some 0⟩) 3 3,.bool false,.string ⟨#[69]⟩,.string ⟨#[78]⟩,.bool false,.slice (some ⟨5,0,some 0⟩) 1 1,.bool true,.string ⟨#[78]⟩,zE,.bool false,.slice (some ⟨6,0,some 0⟩) 1 1] 0 true 51,
 .arr [.string ⟨#[65]⟩] 0 true 9,
 .arr [i64 1,.slice (some ⟨8,0,some 0⟩) 1 1] 0 true 82,
 .arr [.slice (some ⟨9,0,some 0⟩) 1 1] 0 true 80,
 .arr [.string ⟨#[69]⟩,zE,.slice (some ⟨7,0,some 0⟩) 3 3,.slice (some ⟨10,0,some 0⟩) 1 1,zN,zN,zN] 0 true 28,
 .arr [zE,zE,zN,zN,zN,zN,zN,i64 0,i64 0,zN,zN,zN,zN,zN,zN] 0 true 43]
def s2v:Value:=.agg #[.string ⟨#[69]⟩,zE,.slice (some ⟨15,0,some 1⟩) 3 3,.slice (some ⟨22,0,some 0⟩) 1 1,zN,zN,zN]
def s2h:Heap:=[.arr [.string ⟨#[69]⟩,zE,.slice (some ⟨7,0,some 0⟩) 3 3,.slice (some ⟨10,0,some 0⟩) 1 1,zN,zN,zN] 0 true 28,
 .arr [i64 3,zE,zU,zU,zU,zU,.string ⟨#[69]⟩,zE] 0 true 56,
 .arr [i64 3,zE,zU,zU,zU,zU,.string ⟨#[78]⟩,zE] 0 true 56,
 .arr [i64 1,.string ⟨#[43]⟩,zU,zU,zU,zU,zE,zE] 0 true 56,
 .arr [i64 3,zE,zU,zU,zU,zU,.string ⟨#[69]⟩,zE,i64 1,.string ⟨#[43]⟩,zU,zU,zU,zU,zE,zE,i64 3,zE,zU,zU,zU,zU,.string ⟨#[69]⟩,zE] 0 true 56,
 .arr [i64 3,zE,zU,zU,zU,zU,.string ⟨#[78]⟩,zE] 0 true 56,
 .arr [i64 6,zE,.int .u64 281474976710656,zU,zU,zU,zE,zE] 0 true 56,
 .arr [.bool false,.string ⟨#[69]⟩,.string ⟨#[65]⟩,.bool false,.slice (some ⟨4,0,some 0⟩) 3 3,.bool false,.string ⟨#[69]⟩,.string ⟨#[78]⟩,.bool false,.slice (some ⟨5,0,some 0⟩) 1 1,.bool true,.string ⟨#[78]⟩,zE,.bool false,.slice (some ⟨6,0,some 0⟩) 1 1] 0 true 51,
 .arr [.string ⟨#[65]⟩] 0 true 9,
 .arr [i64 1,.slice (some ⟨8,0,some 0⟩) 1 1] 0 true 82,
 .arr [.slice (some ⟨9,0,some 0⟩) 1 1] 0 true 80,
 .arr [.string ⟨#[69]⟩,zE,.slice (some ⟨7,0,some 0⟩) 3 3,.slice (some ⟨10,0,some 0⟩) 1 1,zN,zN,zN] 0 true 28,
 .arr [zE,zE,zN,zN,zN,zN,zN,i64 0,i64 0,zN,zN,zN,zN,zN,zN] 0 true 43,
 .arr [.string ⟨#[69]⟩,zE,.slice (some ⟨15,0,some 1⟩) 3 3,.slice (some ⟨22,0,some 0⟩) 1 1,zN,zN,zN] 0 true 28,
 .arr [.string ⟨#[69]⟩,zE,.slice (some ⟨15,0,some 1⟩) 3 3,.slice (some ⟨22,0,some 0⟩) 1 1,zN,zN,zN] 0 true 28,
 .arr [.bool false,.string ⟨#[69]⟩,.string ⟨#[65]⟩,.bool false,.slice (some ⟨16,0,some 1⟩) 3 3,.bool false,.string ⟨#[69]⟩,.string ⟨#[78]⟩,.bool false,.slice (some ⟨17,0,some 1⟩) 1 1,.bool true,.string ⟨#[78]⟩,zE,.bool false,.slice (some ⟨18,0,some 1⟩) 1 1] 1 true 51,
 .arr [i64 3,zE,zU,zU,zU,zU,.string ⟨#[69]⟩,zE,i64 1,.string ⟨#[43]⟩,zU,zU,zU,zU,zE,zE,i64 3,zE,zU,zU,zU,zU,.string ⟨#[69]⟩,zE] 1 true 56,
 .arr [i64 3,zE,zU,zU,zU,zU,.string ⟨#[78]⟩,zE] 1 true 56,
 .arr [i64 6,zE,.int .u64 281474976710656,zU,zU,zU,zE,zE] 1 true 56,
 .arr [i64 1,.slice (some ⟨20,0,some 1⟩) 1 1] 1 true 82,
 .arr [.string ⟨#[65]⟩] 1 true 9,
 .arr [.slice (some ⟨19,0,some 1⟩) 1 1] 0 true 80,
 .arr [.slice (some ⟨19,0,some 1⟩) 1 1] 0 true 80]
def s3v:Value:=.pointer (some ⟨25,0,some 0⟩)
def s3h:Heap:=[.arr [.string ⟨#[69]⟩,zE,.slice (some ⟨7,0,some 0⟩) 3 3,.slice (some ⟨10,0,some 0⟩) 1 1,zN,zN,zN] 0 true 28,
 .arr [i64 3,zE,zU,zU,zU,zU,.string ⟨#[69]⟩,zE] 0 true 56,
 .arr [i64 3,zE,zU,zU,zU,zU,.string ⟨#[78]⟩,zE] 0 true 56,
 .arr [i64 1,.string ⟨#[43]⟩,zU,zU,zU,zU,zE,zE] 0 true 56,
 .arr [i64 3,zE,zU,zU,zU,zU,.string ⟨#[69]⟩,zE,i64 1,.string ⟨#[43]⟩,zU,zU,zU,zU,zE,zE,i64 3,zE,zU,zU,zU,zU,.string ⟨#[69]⟩,zE] 0 true 56,
 .arr [i64 3,zE,zU,zU,zU,zU,.string ⟨#[78]⟩,zE] 0 true 56,
 .arr [i64 6,zE,.int .u64 281474976710656,zU,zU,zU,zE,zE] 0 true 56,
 .arr [.bool false,.string ⟨#[69]⟩,.string ⟨#[65]⟩,.bool false,.slice (some ⟨4,0,some 0⟩) 3 3,.bool false,.string ⟨#[69]⟩,.string ⟨#[78]⟩,.bool false,.slice (some ⟨5,0,some 0⟩) 1 1,.bool true,.string ⟨#[78]⟩,zE,.bool false,.slice (some ⟨6,0,some 0⟩) 1 1] 0 true 51,
 .arr [.string ⟨#[65]⟩] 0 true 9,
 .arr [i64 1,.slice (some ⟨8,0,some 0⟩) 1 1] 0 true 82,
 .arr [.slice (some ⟨9,0,some 0⟩) 1 1] 0 true 80,
 .arr [.string ⟨#[69]⟩,zE,.slice (some ⟨7,0,some 0⟩) 3 3,.slice (some ⟨10,0,some 0⟩) 1 1,zN,zN,zN] 0 true 28,
 .arr [zE,zE,zN,zN,zN,zN,zN,i64 0,i64 0,zN,zN,zN,zN,zN,zN] 0 true 43,
 .arr [.string ⟨#[69]⟩,zE,.slice (some ⟨15,0,some 1⟩) 3 3,.slice (some ⟨22,0,some 0⟩) 1 1,zN,zN,zN] 0 true 28,
 .arr [.string ⟨#[69]⟩,zE,.slice (some ⟨15,0,some 1⟩) 3 3,.slice (some ⟨22,0,some 0⟩) 1 1,zN,zN,zN] 0 true 28,
 .arr [.bool false,.string ⟨#[69]⟩,.string ⟨#[65]⟩,.bool false,.slice (some ⟨16,0,some 1⟩) 3 3,.bool false,.string ⟨#[69]⟩,.string ⟨#[78]⟩,.bool false,.slice (some ⟨17,0,some 1⟩) 1 1,.bool true,.string ⟨#[78]⟩,zE,.bool false,.slice (some ⟨18,0,some 1⟩) 1 1] 1 true 51,
 .arr [i64 3,zE,zU,zU,zU,zU,.string ⟨#[69]⟩,zE,i64 1,.string ⟨#[43]⟩,zU,zU,zU,zU,zE,zE,i64 3,zE,zU,zU,zU,zU,.string ⟨#[69]⟩,zE] 1 true 56,
 .arr [i64 3,zE,zU,zU,zU,zU,.string ⟨#[78]⟩,zE] 1 true 56,
 .arr [i64 6,zE,.int .u64 281474976710656,zU,zU,zU,zE,zE] 1 true 56,
 .arr [i64 1,.slice (some ⟨20,0,some 1⟩) 1 1] 1 true 82,
 .arr [.string ⟨#[65]⟩] 1 true 9,
 .arr [.slice (some ⟨19,0,some 1⟩) 1 1] 0 true 80,
 .arr [.slice (some ⟨19,0,some 1⟩) 1 1] 0 true 80,
 .map [],
 .map [],
 .arr [.string ⟨#[69]⟩,zE,.slice (some ⟨15,0,some 1⟩) 3 3,.slice (some ⟨22,0,some 0⟩) 1 1,zN,zN,zN,i64 0,i64 0,zN,zN,zN,zN,zN,zN,.map (some 23),.map (some 24),zN,i64 0] 0 true 94]
def s4h:Heap:=[.arr [.string ⟨#[69]⟩,zE,.slice (some ⟨7,0,some 0⟩) 3 3,.slice (some ⟨10,0,some 0⟩) 1 1,zN,zN,zN] 0 true 28,
 .arr [i64 3,zE,zU,zU,zU,zU,.string ⟨#[69]⟩,zE] 0 true 56,
 .arr [i64 3,zE,zU,zU,zU,zU,.string ⟨#[78]⟩,zE] 0 true 56,
 .arr [i64 1,.string ⟨#[43]⟩,zU,zU,zU,zU,zE,zE] 0 true 56,
 .arr [i64 3,zE,zU,zU,zU,zU,.string ⟨#[69]⟩,zE,i64 1,.string ⟨#[43]⟩,zU,zU,zU,zU,zE,zE,i64 3,zE,zU,zU,zU,zU,.string ⟨#[69]⟩,zE] 0 true 56,
 .arr [i64 3,zE,zU,zU,zU,zU,.string ⟨#[78]⟩,zE] 0 true 56,
 .arr [i64 6,zE,.int .u64 281474976710656,zU,zU,zU,zE,zE] 0 true 56,
 .arr [.bool false,.string ⟨#[69]⟩,.string ⟨#[65]⟩,.bool false,.slice (some ⟨4,0,some 0⟩) 3 3,.bool false,.string ⟨#[69]⟩,.string ⟨#[78]⟩,.bool false,.slice (some ⟨5,0,some 0⟩) 1 1,.bool true,.string ⟨#[78]⟩,zE,.bool false,.slice (some ⟨6,0,some 0⟩) 1 1] 0 true 51,
 .arr [.string ⟨#[65]⟩] 0 true 9,
 .arr [i64 1,.slice (some ⟨8,0,some 0⟩) 1 1] 0 true 82,
 .arr [.slice (some ⟨9,0,some 0⟩) 1 1] 0 true 80,
 .arr [.string ⟨#[69]⟩,zE,.slice (some ⟨7,0,some 0⟩) 3 3,.slice (some ⟨10,0,some 0⟩) 1 1,zN,zN,zN] 0 true 28,
 .arr [zE,zE,zN,zN,zN,zN,zN,i64 0,i64 0,zN,zN,zN,zN,zN,zN] 0 true 43,
 .arr [.string ⟨#[69]⟩,zE,.slice (some ⟨15,0,some 1⟩) 3 3,.slice (some ⟨22,0,some 0⟩) 1 1,zN,zN,zN] 0 true 28,
 .arr [.string ⟨#[69]⟩,zE,.slice (some ⟨15,0,some 1⟩) 3 3,.slice (some ⟨22,0,some 0⟩) 1 1,zN,zN,zN] 0 true 28,
 .arr [.bool false,.string ⟨#[69]⟩,.string ⟨#[65]⟩,.bool false,.slice (some ⟨16,0,some 1⟩) 3 3,.bool false,.string ⟨#[69]⟩,.string ⟨#[78]⟩,.bool false,.slice (some ⟨17,0,some 1⟩) 1 1,.bool true,.string ⟨#[78]⟩,zE,.bool false,.slice (some ⟨18,0,some 1⟩) 1 1] 1 true 51,
 .arr [i64 3,zE,zU,zU,zU,zU,.string ⟨#[69]⟩,zE,i64 1,.string ⟨#[43]⟩,zU,zU,zU,zU,zE,zE,i64 3,zE,zU,zU,zU,zU,.string ⟨#[69]⟩,zE] 1 true 56,
 .arr [i64 3,zE,zU,zU,zU,zU,.string ⟨#[78]⟩,zE] 1 true 56,
 .arr [i64 6,zE,.int .u64 281474976710656,zU,zU,zU,zE,zE] 1 true 56,
 .arr [i64 1,.slice (some ⟨20,0,some 1⟩) 1 1] 1 true 82,
 .arr [.string ⟨#[65]⟩] 1 true 9,
 .arr [.slice (some ⟨19,0,some 1⟩) 1 1] 0 true 80,
 .arr [.slice (some ⟨19,0,some 1⟩) 1 1] 0 true 80,
 .map [(.string ⟨#[69]⟩,.int .i64 0),(.string ⟨#[78]⟩,.int .i64 1)],
 .map [(.agg #[.bool true,zE,.int .u64 281474976710656,zU,zU,zU,zE],.int .i64 2)],
 .arr [.string ⟨#[69]⟩,zE,.slice (some ⟨15,0,some 1⟩) 3 3,.slice (some ⟨22,0,some 0⟩) 1 1,zN,zN,zN,i64 4,i64 3,zN,zN,.slice (some ⟨35,0,some 3⟩) 4 4,zN,zN,zN,.map (some 23),.map (some 24),.slice (some ⟨45,0,some 0⟩) 1 1,.int .i64 (-1)] 0 true 94,
 .arr [.pointer (some ⟨25,0,some 0⟩)] 0 true 89,
 .arr [.string ⟨#[69]⟩,zE,.slice (some ⟨15,0,some 1⟩) 3 3,.slice (some ⟨22,0,some 0⟩) 1 1,zN,zN,zN] 0 true 28,
 .arr [.string ⟨#[69]⟩,zE,.slice (some ⟨15,0,some 1⟩) 3 3,.slice (some ⟨22,0,some 0⟩) 1 1,zN,zN,zN] 0 true 28,
 .map [(.string ⟨#[69]⟩,.int .i64 2),(.string ⟨#[78]⟩,.int .i64 1)],
 .arr [.string ⟨#[69]⟩,zE,.slice (some ⟨15,0,some 1⟩) 3 3,.slice (some ⟨22,0,some 0⟩) 1 1,zN,zN,zN,.slice (some ⟨32,0,some 1⟩) 2 2,.map (some 29)] 0 true 190,
 .arr [.bool false,.string ⟨#[69]⟩,.string ⟨#[65]⟩,.bool false,.slice (some ⟨16,0,some 1⟩) 3 3] 0 true 51,
 .arr [.string ⟨#[69]⟩,.string ⟨#[78]⟩] 1 true 9,
 .arr [.bool false,.string ⟨#[69]⟩,.string ⟨#[78]⟩,.bool false,.slice (some ⟨17,0,some 1⟩) 1 1] 0 true 51,
 .arr [.bool true,.string ⟨#[78]⟩,zE,.bool false,.slice (some ⟨18,0,some 1⟩) 1 1] 0 true 51,
 .arr [.string ⟨#[69]⟩,.string ⟨#[78]⟩,.string ⟨#[91,48,93,43]⟩,.string ⟨#[116,111,112]⟩] 3 true 9,
 .arr [.bool false,.string ⟨#[69]⟩,.string ⟨#[65]⟩,.bool false,.slice (some ⟨16,0,some 1⟩) 3 3] 0 true 51,
 .arr [i64 3,zE,zU,zU,zU,zU,.string ⟨#[69]⟩,zE] 0 true 56,
 .arr [i64 1,.string ⟨#[43]⟩,zU,zU,zU,zU,zE,zE] 0 true 56,
 .arr [i64 3,zE,zU,zU,zU,zU,.string ⟨#[69]⟩,zE] 0 true 56,
 .arr [.bool false,.string ⟨#[69]⟩,.string ⟨#[78]⟩,.bool false,.slice (some ⟨17,0,some 1⟩) 1 1] 0 true 51,
 .arr [i64 3,zE,zU,zU,zU,zU,.string ⟨#[78]⟩,zE] 0 true 56,
 .arr [.bool true,.string ⟨#[78]⟩,zE,.bool false,.slice (some ⟨18,0,some 1⟩) 1 1] 0 true 51,
 .arr [i64 6,zE,.int .u64 281474976710656,zU,zU,zU,zE,zE] 0 true 56,
 .arr [.bool true,zE,.int .u64 281474976710656,zU,zU,zU,zE] 0 true 154,
 .arr [.bool true,zE,.int .u64 281474976710656,zU,zU,zU,zE] 0 true 154]
def s5h:Heap:=[.arr [.string ⟨#[69]⟩,zE,.slice (some ⟨7,0,some 0⟩) 3 3,.slice (some ⟨10,0,some 0⟩) 1 1,zN,zN,zN] 0 true 28,
 .arr [i64 3,zE,zU,zU,zU,zU,.string ⟨#[69]⟩,zE] 0 true 56,
 .arr [i64 3,zE,zU,zU,zU,zU,.string ⟨#[78]⟩,zE] 0 true 56,
 .arr [i64 1,.string ⟨#[43]⟩,zU,zU,zU,zU,zE,zE] 0 true 56,
 .arr [i64 3,zE,zU,zU,zU,zU,.string ⟨#[69]⟩,zE,i64 1,.string ⟨#[43]⟩,zU,zU,zU,zU,zE,zE,i64 3,zE,zU,zU,zU,zU,.string ⟨#[69]⟩,zE] 0 true 56,
 .arr [i64 3,zE,zU,zU,zU,zU,.string ⟨#[78]⟩,zE] 0 true 56,
 .arr [i64 6,zE,.int .u64 281474976710656,zU,zU,zU,zE,zE] 0 true 56,
 .arr [.bool false,.string ⟨#[69]⟩,.string ⟨#[65]⟩,.bool false,.slice (some ⟨4,0,some 0⟩) 3 3,.bool false,.string ⟨#[69]⟩,.string ⟨#[78]⟩,.bool false,.slice (some ⟨5,0,some 0⟩) 1 1,.bool true,.string ⟨#[78]⟩,zE,.bool false,.slice (some ⟨6,0,some 0⟩) 1 1] 0 true 51,
 .arr [.string ⟨#[65]⟩] 0 true 9,
 .arr [i64 1,.slice (some ⟨8,0,some 0⟩) 1 1] 0 true 82,
 .arr [.slice (some ⟨9,0,some 0⟩) 1 1] 0 true 80,
 .arr [.string ⟨#[69]⟩,zE,.slice (some ⟨7,0,some 0⟩) 3 3,.slice (some ⟨10,0,some 0⟩) 1 1,zN,zN,zN] 0 true 28,
 .arr [zE,zE,zN,zN,zN,zN,zN,i64 0,i64 0,zN,zN,zN,zN,zN,zN] 0 true 43,
 .arr [.string ⟨#[69]⟩,zE,.slice (some ⟨15,0,some 1⟩) 3 3,.slice (some ⟨22,0,some 0⟩) 1 1,zN,zN,zN] 0 true 28,
 .arr [.string ⟨#[69]⟩,zE,.slice (some ⟨15,0,some 1⟩) 3 3,.slice (some ⟨22,0,some 0⟩) 1 1,zN,zN,zN] 0 true 28,
 .arr [.bool false,.string ⟨#[69]⟩,.string ⟨#[65]⟩,.bool false,.slice (some ⟨16,0,some 1⟩) 3 3,.bool false,.string ⟨#[69]⟩,.string ⟨#[78]⟩,.bool false,.slice (some ⟨17,0,some 1⟩) 1 1,.bool true,.string ⟨#[78]⟩,zE,.bool false,.slice (some ⟨18,0,some 1⟩) 1 1] 1 true 51,
 .arr [i64 3,zE,zU,zU,zU,zU,.string ⟨#[69]⟩,zE,i64 1,.string ⟨#[43]⟩,zU,zU,zU,zU,zE,zE,i64 3,zE,zU,zU,zU,zU,.string ⟨#[69]⟩,zE] 1 true 56,
 .arr [i64 3,zE,zU,zU,zU,zU,.string ⟨#[78]⟩,zE] 1 true 56,
 .arr [i64 6,zE,.int .u64 281474976710656,zU,zU,zU,zE,zE] 1 true 56,
 .arr [i64 1,.slice (some ⟨20,0,some 1⟩) 1 1] 1 true 82,
 .arr [.string ⟨#[65]⟩] 1 true 9,
 .arr [.slice (some ⟨19,0,some 1⟩) 1 1] 0 true 80,
 .arr [.slice (some ⟨19,0,some 1⟩) 1 1] 0 true 80,
 .map [(.string ⟨#[69]⟩,.int .i64 0),(.string ⟨#[78]⟩,.int .i64 1)],
 .map [(.agg #[.bool true,zE,.int .u64 281474976710656,zU,zU,zU,zE],.int .i64 2)],
 .arr [.string ⟨#[69]⟩,zE,.slice (some ⟨15,0,some 1⟩) 3 3,.slice (some ⟨22,0,some 0⟩) 1 1,zN,zN,zN,i64 4,i64 3,.slice (some ⟨77,0,some 5⟩) 6 6,.slice (some ⟨78,0,some 5⟩) 6 6,.slice (some ⟨35,0,some 3⟩) 4 4,zN,zN,zN,.map (some 23),.map (some 24),.slice (some ⟨45,0,some 0⟩) 1 1,.int .i64 (-1)] 0 true 94,
 .arr [.pointer (some ⟨25,0,some 0⟩)] 0 true 89,
 .arr [.string ⟨#[69]⟩,zE,.slice (some ⟨15,0,some 1⟩) 3 3,.slice (some ⟨22,0,some 0⟩) 1 1,zN,zN,zN] 0 true 28,
 .arr [.string ⟨#[69]⟩,zE,.slice (some ⟨15,0,some 1⟩) 3 3,.slice (some ⟨22,0,some 0⟩) 1 1,zN,zN,zN] 0 true 28,
 .map [(.string ⟨#[69]⟩,.int .i64 2),(.string ⟨#[78]⟩,.int .i64 1)],
 .arr [.string ⟨#[69]⟩,zE,.slice (some ⟨15,0,some 1⟩) 3 3,.slice (some ⟨22,0,some 0⟩) 1 1,zN,zN,zN,.slice (some ⟨32,0,some 1⟩) 2 2,.map (some 29)] 0 true 190,
 .arr [.bool false,.string ⟨#[69]⟩,.string ⟨#[65]⟩,.bool false,.slice (some ⟨16,0,some 1⟩) 3 3] 0 true 51,
 .arr [.string ⟨#[69]⟩,.string ⟨#[78]⟩] 1 true 9,
 .arr [.bool false,.string ⟨#[69]⟩,.string ⟨#[78]⟩,.bool false,.slice (some ⟨17,0,some 1⟩) 1 1] 0 true 51,
 .arr [.bool true,.string ⟨#[78]⟩,zE,.bool false,.slice (some ⟨18,0,some 1⟩) 1 1] 0 true 51,
 .arr [.string ⟨#[69]⟩,.string ⟨#[78]⟩,.string ⟨#[91,48,93,43]⟩,.string ⟨#[116,111,112]⟩] 3 true 9,
 .arr [.bool false,.string ⟨#[69]⟩,.string ⟨#[65]⟩,.bool false,.slice (some ⟨16,0,some 1⟩) 3 3] 0 true 51,
 .arr [i64 3,zE,zU,zU,zU,zU,.string ⟨#[69]⟩,zE] 0 true 56,
 .arr [i64 1,.string ⟨#[43]⟩,zU,zU,zU,zU,zE,zE] 0 true 56,
 .arr [i64 3,zE,zU,zU,zU,zU,.string ⟨#[69]⟩,zE] 0 true 56,
 .arr [.bool false,.string ⟨#[69]⟩,.string ⟨#[78]⟩,.bool false,.slice (some ⟨17,0,some 1⟩) 1 1] 0 true 51,
 .arr [i64 3,zE,zU,zU,zU,zU,.string ⟨#[78]⟩,zE] 0 true 56,
 .arr [.bool true,.string ⟨#[78]⟩,zE,.bool false,.slice (some ⟨18,0,some 1⟩) 1 1] 0 true 51,
 .arr [i64 6,zE,.int .u64 281474976710656,zU,zU,zU,zE,zE] 0 true 56,
 .arr [.bool true,zE,.int .u64 281474976710656,zU,zU,zU,zE] 0 true 154,
 .arr [.bool true,zE,.int .u64 281474976710656,zU,zU,zU,zE] 0 true 154,
 .arr [.pointer (some ⟨25,0,some 0⟩)] 0 true 89,
 .arr [.bool false,.string ⟨#[69]⟩,.string ⟨#[65]⟩,.bool false,.slice (some ⟨16,0,some 1⟩) 3 3] 0 true 51,
 .arr [.bool false,.string ⟨#[69]⟩,.string ⟨#[65]⟩,.bool false,.slice (some ⟨16,0,some 1⟩) 3 3] 0 true 51,
 .arr [i64 0,i64 0,i64 0,.slice (some ⟨58,0,some 2⟩) 3 3] 0 true 67,
 .arr [i64 3,zE,zU,zU,zU,zU,.string ⟨#[69]⟩,zE] 0 true 56,
 .arr [.bool false,.string ⟨#[69]⟩,.string ⟨#[65]⟩,.bool false,.slice (some ⟨16,0,some 1⟩) 3 3] 0 true 51,
 .arr [i64 3,zE,zU,zU,zU,zU,.string ⟨#[69]⟩,zE] 0 true 56,
 .arr [i64 0,zU,zU,zU,zU] 0 true 65,
 .arr [i64 0,zU,zU,zU,zU] 0 true 65,
 .arr [i64 0,zU,zU,zU,zU] 0 true 65,
 .arr [i64 0,zU,zU,zU,zU,.int .i64 (-1),.int .u64 8796093022208,zU,zU,zU,i64 0,zU,zU,zU,zU] 2 true 65,
 .arr [i64 0] 0 true 3,
 .arr [i64 0,i64 1,i64 2] 2 true 3,
 .arr [i64 1,.string ⟨#[43]⟩,zU,zU,zU,zU,zE,zE] 0 true 56,
 .arr [.bool false,.string ⟨#[69]⟩,.string ⟨#[65]⟩,.bool false,.slice (some ⟨16,0,some 1⟩) 3 3] 0 true 51,
 .arr [i64 1,.string ⟨#[43]⟩,zU,zU,zU,zU,zE,zE] 0 true 56,
 .arr [.int .u8 43] 0 true 5,
 .arr [.int .i64 (-1),.int .u64 8796093022208,zU,zU,zU] 0 true 65,
 .arr [.int .i64 (-1),.int .u64 8796093022208,zU,zU,zU] 0 true 65,
 .arr [.int .i64 (-1),.int .u64 8796093022208,zU,zU,zU] 0 true 65,
 .arr [.int .i64 (-1),.int .u64 8796093022208,zU,zU,zU] 0 true 65,
 .arr [i64 1] 0 true 3,
 .arr [i64 3,zE,zU,zU,zU,zU,.string ⟨#[69]⟩,zE] 0 true 56,
 .arr [.bool false,.string ⟨#[69]⟩,.string ⟨#[65]⟩,.bool false,.slice (some ⟨16,0,some 1⟩) 3 3] 0 true 51,
 .arr [i64 3,zE,zU,zU,zU,zU,.string ⟨#[69]⟩,zE] 0 true 56,
 .arr [i64 0,zU,zU,zU,zU] 0 true 65,
 .arr [i64 0,zU,zU,zU,zU] 0 true 65,
 .arr [i64 0,zU,zU,zU,zU] 0 true 65,
 .arr [i64 2] 0 true 3,
 .arr [i64 0,i64 0,i64 0,.slice (some ⟨58,0,some 2⟩) 3 3] 0 true 67,
 .arr [i64 0,.slice (some ⟨56,0,some 2⟩) 3 3] 0 true 63,
 .arr [i64 0,.slice (some ⟨56,0,some 2⟩) 3 3,i64 0,.slice (some ⟨88,0,some 0⟩) 1 1,i64 1,.slice (some ⟨100,0,some 0⟩) 1 1,i64 2,.slice (some ⟨105,0,some 0⟩) 1 1,i64 2,.slice (some ⟨106,0,some 1⟩) 2 2,i64 3,.slice (some ⟨109,0,some 0⟩) 1 1] 5 true 63,
 .arr [i64 0,i64 0,i64 0,.slice (some ⟨58,0,some 2⟩) 3 3,i64 0,i64 1,i64 0,.slice (some ⟨90,0,some 0⟩) 1 1,i64 0,i64 2,i64 0,.slice (some ⟨102,0,some 0⟩) 1 1,i64 1,i64 0,i64 0,zN,i64 2,i64 0,i64 0,zN,i64 5,i64 0,i64 0,zN] 5 true 67,
 .arr [.bool false,.string ⟨#[69]⟩,.string ⟨#[78]⟩,.bool false,.slice (some ⟨17,0,some 1⟩) 1 1] 0 true 51,
 .arr [.bool false,.string ⟨#[69]⟩,.string ⟨#[78]⟩,.bool false,.slice (some ⟨17,0,some 1⟩) 1 1] 0 true 51,
 .arr [i64 0,i64 1,i64 0,.slice (some ⟨90,0,some 0⟩) 1 1] 0 true 67,
 .arr [i64 3,zE,zU,zU,zU,zU,.string ⟨#[78]⟩,zE] 0 true 56,
 .arr [.bool false,.string ⟨#[69]⟩,.string ⟨#[78]⟩,.bool false,.slice (some ⟨17,0,some 1⟩) 1 1] 0 true 51,
 .arr [i64 3,zE,zU,zU,zU,zU,.string ⟨#[78]⟩,zE] 0 true 56,
 .arr [i64 1,zU,zU,zU,zU] 0 true 65,
 .arr [i64 1,zU,zU,zU,zU] 0 true 65,
 .arr [i64 1,zU,zU,zU,zU] 0 true 65,
 .arr [i64 1,zU,zU,zU,zU] 0 true 65,
 .arr [i64 0] 0 true 3,
 .arr [i64 0] 0 true 3,
 .arr [.bool true,.string ⟨#[78]⟩,zE,.bool false,.slice (some ⟨18,0,some 1⟩) 1 1] 0 true 51,
 .arr [.bool true,.string ⟨#[78]⟩,zE,.bool false,.slice (some ⟨18,0,some 1⟩) 1 1] 0 true 51,
 .arr [i64 0,i64 2,i64 0,.slice (some ⟨102,0,some 0⟩) 1 1] 0 true 67,
 .arr [i64 6,zE,.int .u64 281474976710656,zU,zU,zU,zE,zE] 0 true 56,
 .arr [.bool true,.string ⟨#[78]⟩,zE,.bool false,.slice (some ⟨18,0,some 1⟩) 1 1] 0 true 51,
 .arr [i64 6,zE,.int .u64 281474976710656,zU,zU,zU,zE,zE] 0 true 56,
 .arr [i64 2,zU,zU,zU,zU] 0 true 65,
 .arr [i64 2,zU,zU,zU,zU] 0 true 65,
 .arr [i64 2,zU,zU,zU,zU] 0 true 65,
 .arr [i64 2,zU,zU,zU,zU] 0 true 65,
 .arr [i64 0] 0 true 3,
 .arr [i64 0] 0 true 3,
 .arr [.bool true,zE,.int .u64 281474976710656,zU,zU,zU,zE] 0 true 154,
 .arr [.int .i64 (-1),.int .u64 281474976710656,zU,zU,zU] 0 true 65,
 .arr [.int .i64 (-1),.int .u64 281474976710656,zU,zU,zU] 0 true 65,
 .arr [i64 2,zU,zU,zU,zU,.int .i64 (-1),.int .u64 281474976710656,zU,zU,zU] 1 true 65,
 .arr [.slice (some ⟨106,0,some 0⟩) 1 1] 0 true 61,
 .arr [i64 0,zU,zU,zU,zU] 0 true 65,
 .arr [i64 0,zU,zU,zU,zU] 0 true 65]
def s6h:Heap:=[.arr [.string ⟨#[69]⟩,zE,.slice (some ⟨7,0,some 0⟩) 3 3,.slice (some ⟨10,0,some 0⟩) 1 1,zN,zN,zN] 0 true 28,
 .arr [i64 3,zE,zU,zU,zU,zU,.string ⟨#[69]⟩,zE] 0 true 56,
 .arr [i64 3,zE,zU,zU,zU,zU,.string ⟨#[78]⟩,zE] 0 true 56,
 .arr [i64 1,.string ⟨#[43]⟩,zU,zU,zU,zU,zE,zE] 0 true 56,
 .arr [i64 3,zE,zU,zU,zU,zU,.string ⟨#[69]⟩,zE,i64 1,.string ⟨#[43]⟩,zU,zU,zU,zU,zE,zE,i64 3,zE,zU,zU,zU,zU,.string ⟨#[69]⟩,zE] 0 true 56,
 .arr [i64 3,zE,zU,zU,zU,zU,.string ⟨#[78]⟩,zE] 0 true 56,
 .arr [i64 6,zE,.int .u64 281474976710656,zU,zU,zU,zE,zE] 0 true 56,
 .arr [.bool false,.string ⟨#[69]⟩,.string ⟨#[65]⟩,.bool false,.slice (some ⟨4,0,some 0⟩) 3 3,.bool false,.string ⟨#[69]⟩,.string ⟨#[78]⟩,.bool false,.slice (some ⟨5,0,some 0⟩) 1 1,.bool true,.string ⟨#[78]⟩,zE,.bool false,.slice (some ⟨6,0,some 0⟩) 1 1] 0 true 51,
 .arr [.string ⟨#[65]⟩] 0 true 9,
 .arr [i64 1,.slice (some ⟨8,0,some 0⟩) 1 1] 0 true 82,
 .arr [.slice (some ⟨9,0,some 0⟩) 1 1] 0 true 80,
 .arr [.string ⟨#[69]⟩,zE,.slice (some ⟨7,0,some 0⟩) 3 3,.slice (some ⟨10,0,some 0⟩) 1 1,zN,zN,zN] 0 true 28,
 .arr [zE,zE,zN,zN,zN,zN,zN,i64 0,i64 0,zN,zN,zN,zN,zN,zN] 0 true 43,
 .arr [.string ⟨#[69]⟩,zE,.slice (some ⟨15,0,some 1⟩) 3 3,.slice (some ⟨22,0,some 0⟩) 1 1,zN,zN,zN] 0 true 28,
 .arr [.string ⟨#[69]⟩,zE,.slice (some ⟨15,0,some 1⟩) 3 3,.slice (some ⟨22,0,some 0⟩) 1 1,zN,zN,zN] 0 true 28,
 .arr [.bool false,.string ⟨#[69]⟩,.string ⟨#[65]⟩,.bool false,.slice (some ⟨16,0,some 1⟩) 3 3,.bool false,.string ⟨#[69]⟩,.string ⟨#[78]⟩,.bool false,.slice (some ⟨17,0,some 1⟩) 1 1,.bool true,.string ⟨#[78]⟩,zE,.bool false,.slice (some ⟨18,0,some 1⟩) 1 1] 1 true 51,
 .arr [i64 3,zE,zU,zU,zU,zU,.string ⟨#[69]⟩,zE,i64 1,.string ⟨#[43]⟩,zU,zU,zU,zU,zE,zE,i64 3,zE,zU,zU,zU,zU,.string ⟨#[69]⟩,zE] 1 true 56,
 .arr [i64 3,zE,zU,zU,zU,zU,.string ⟨#[78]⟩,zE] 1 true 56,
 .arr [i64 6,zE,.int .u64 281474976710656,zU,zU,zU,zE,zE] 1 true 56,
 .arr [i64 1,.slice (some ⟨20,0,some 1⟩) 1 1] 1 true 82,
 .arr [.string ⟨#[65]⟩] 1 true 9,
 .arr [.slice (some ⟨19,0,some 1⟩) 1 1] 0 true 80,
 .arr [.slice (some ⟨19,0,some 1⟩) 1 1] 0 true 80,
 .map [(.string ⟨#[69]⟩,.int .i64 0),(.string ⟨#[78]⟩,.int .i64 1)],
 .map [(.agg #[.bool true,zE,.int .u64 281474976710656,zU,zU,zU,zE],.int .i64 2)],
 .arr [.string ⟨#[69]⟩,zE,.slice (some ⟨15,0,some 1⟩) 3 3,.slice (some ⟨22,0,some 0⟩) 1 1,zN,zN,zN,i64 4,i64 3,.slice (some ⟨77,0,some 5⟩) 6 6,.slice (some ⟨78,0,some 5⟩) 6 6,.slice (some ⟨35,0,some 3⟩) 4 4,.slice (some ⟨112,0,some 0⟩) 1 1,.slice (some ⟨113,0,some 0⟩) 4 4,.slice (some ⟨114,0,some 0⟩) 4 4,.map (some 23),.map (some 24),.slice (some ⟨45,0,some 0⟩) 1 1,.int .i64 (-1)] 0 true 94,
 .arr [.pointer (some ⟨25,0,some 0⟩)] 0 true 89,
 .arr [.string ⟨#[69]⟩,zE,.slice (some ⟨15,0,some 1⟩) 3 3,.slice (some ⟨22,0,some 0⟩) 1 1,zN,zN,zN] 0 true 28,
 .arr [.string ⟨#[69]⟩,zE,.slice (some ⟨15,0,some 1⟩) 3 3,.slice (some ⟨22,0,some 0⟩) 1 1,zN,zN,zN] 0 true 28,
 .map [(.string ⟨#[69]⟩,.int .i64 2),(.string ⟨#[78]⟩,.int .i64 1)],
 .arr [.string ⟨#[69]⟩,zE,.slice (some ⟨15,0,some 1⟩) 3 3,.slice (some ⟨22,0,some 0⟩) 1 1,zN,zN,zN,.slice (some ⟨32,0,some 1⟩) 2 2,.map (some 29)] 0 true 190,
 .arr [.bool false,.string ⟨#[69]⟩,.string ⟨#[65]⟩,.bool false,.slice (some ⟨16,0,some 1⟩) 3 3] 0 true 51,
 .arr [.string ⟨#[69]⟩,.string ⟨#[78]⟩] 1 true 9,
 .arr [.bool false,.string ⟨#[69]⟩,.string ⟨#[78]⟩,.bool false,.slice (some ⟨17,0,some 1⟩) 1 1] 0 true 51,
 .arr [.bool true,.string ⟨#[78]⟩,zE,.bool false,.slice (some ⟨18,0,some 1⟩) 1 1] 0 true 51,
 .arr [.string ⟨#[69]⟩,.string ⟨#[78]⟩,.string ⟨#[91,48,93,43]⟩,.string ⟨#[116,111,112]⟩] 3 true 9,
 .arr [.bool false,.string ⟨#[69]⟩,.string ⟨#[65]⟩,.bool false,.slice (some ⟨16,0,some 1⟩) 3 3] 0 true 51,
 .arr [i64 3,zE,zU,zU,zU,zU,.string ⟨#[69]⟩,zE] 0 true 56,
 .arr [i64 1,.string ⟨#[43]⟩,zU,zU,zU,zU,zE,zE] 0 true 56,
 .arr [i64 3,zE,zU,zU,zU,zU,.string ⟨#[69]⟩,zE] 0 true 56,
 .arr [.bool false,.string ⟨#[69]⟩,.string ⟨#[78]⟩,.bool false,.slice (some ⟨17,0,some 1⟩) 1 1] 0 true 51,
 .arr [i64 3,zE,zU,zU,zU,zU,.string ⟨#[78]⟩,zE] 0 true 56,
 .arr [.bool true,.string ⟨#[78]⟩,zE,.bool false,.slice (some ⟨18,0,some 1⟩) 1 1] 0 true 51,
 .arr [i64 6,zE,.int .u64 281474976710656,zU,zU,zU,zE,zE] 0 true 56,
 .arr [.bool true,zE,.int .u64 281474976710656,zU,zU,zU,zE] 0 true 154,
 .arr [.bool true,zE,.int .u64 281474976710656,zU,zU,zU,zE] 0 true 154,
 .arr [.pointer (some ⟨25,0,some 0⟩)] 0 true 89,
 .arr [.bool false,.string ⟨#[69]⟩,.string ⟨#[65]⟩,.bool false,.slice (some ⟨16,0,some 1⟩) 3 3] 0 true 51,
 .arr [.bool false,.string ⟨#[69]⟩,.string ⟨#[65]⟩,.bool false,.slice (some ⟨16,0,some 1⟩) 3 3] 0 true 51,
 .arr [i64 0,i64 0,i64 0,.slice (some ⟨58,0,some 2⟩) 3 3] 0 true 67,
 .arr [i64 3,zE,zU,zU,zU,zU,.string ⟨#[69]⟩,zE] 0 true 56,
 .arr [.bool false,.string ⟨#[69]⟩,.string ⟨#[65]⟩,.bool false,.slice (some ⟨16,0,some 1⟩) 3 3] 0 true 51,
 .arr [i64 3,zE,zU,zU,zU,zU,.string ⟨#[69]⟩,zE] 0 true 56,
 .arr [i64 0,zU,zU,zU,zU] 0 true 65,
 .arr [i64 0,zU,zU,zU,zU] 0 true 65,
 .arr [i64 0,zU,zU,zU,zU] 0 true 65,
 .arr [i64 0,zU,zU,zU,zU,.int .i64 (-1),.int .u64 8796093022208,zU,zU,zU,i64 0,zU,zU,zU,zU] 2 true 65,
 .arr [i64 0] 0 true 3,
 .arr [i64 0,i64 1,i64 2] 2 true 3,
 .arr [i64 1,.string ⟨#[43]⟩,zU,zU,zU,zU,zE,zE] 0 true 56,
 .arr [.bool false,.string ⟨#[69]⟩,.string ⟨#[65]⟩,.bool false,.slice (some ⟨16,0,some 1⟩) 3 3] 0 true 51,
 .arr [i64 1,.string ⟨#[43]⟩,zU,zU,zU,zU,zE,zE] 0 true 56,
 .arr [.int .u8 43] 0 true 5,
 .arr [.int .i64 (-1),.int .u64 8796093022208,zU,zU,zU] 0 true 65,
 .arr [.int .i64 (-1),.int .u64 8796093022208,zU,zU,zU] 0 true 65,
 .arr [.int .i64 (-1),.int .u64 8796093022208,zU,zU,zU] 0 true 65,
 .arr [.int .i64 (-1),.int .u64 8796093022208,zU,zU,zU] 0 true 65,
 .arr [i64 1] 0 true 3,
 .arr [i64 3,zE,zU,zU,zU,zU,.string ⟨#[69]⟩,zE] 0 true 56,
 .arr [.bool false,.string ⟨#[69]⟩,.string ⟨#[65]⟩,.bool false,.slice (some ⟨16,0,some 1⟩) 3 3] 0 true 51,
 .arr [i64 3,zE,zU,zU,zU,zU,.string ⟨#[69]⟩,zE] 0 true 56,
 .arr [i64 0,zU,zU,zU,zU] 0 true 65,
 .arr [i64 0,zU,zU,zU,zU] 0 true 65,
 .arr [i64 0,zU,zU,zU,zU] 0 true 65,
 .arr [i64 2] 0 true 3,
 .arr [i64 0,i64 0,i64 0,.slice (some ⟨58,0,some 2⟩) 3 3] 0 true 67,
 .arr [i64 0,.slice (some ⟨56,0,some 2⟩) 3 3] 0 true 63,
 .arr [i64 0,.slice (some ⟨56,0,some 2⟩) 3 3,i64 0,.slice (some ⟨88,0,some 0⟩) 1 1,i64 1,.slice (some ⟨100,0,some 0⟩) 1 1,i64 2,.slice (some ⟨105,0,some 0⟩) 1 1,i64 2,.slice (some ⟨106,0,some 1⟩) 2 2,i64 3,.slice (some ⟨109,0,some 0⟩) 1 1] 5 true 63,
 .arr [i64 0,i64 0,i64 0,.slice (some ⟨58,0,some 2⟩) 3 3,i64 0,i64 1,i64 0,.slice (some ⟨90,0,some 0⟩) 1 1,i64 0,i64 2,i64 0,.slice (some ⟨102,0,some 0⟩) 1 1,i64 1,i64 0,i64 0,zN,i64 2,i64 0,i64 0,zN,i64 5,i64 0,i64 0,zN] 5 true 67,
 .arr [.bool false,.string ⟨#[69]⟩,.string ⟨#[78]⟩,.bool false,.slice (some ⟨17,0,some 1⟩) 1 1] 0 true 51,
 .arr [.bool false,.string ⟨#[69]⟩,.string ⟨#[78]⟩,.bool false,.slice (some ⟨17,0,some 1⟩) 1 1] 0 true 51,
 .arr [i64 0,i64 1,i64 0,.slice (some ⟨90,0,some 0⟩) 1 1] 0 true 67,
 .arr [i64 3,zE,zU,zU,zU,zU,.string ⟨#[78]⟩,zE] 0 true 56,
 .arr [.bool false,.string ⟨#[69]⟩,.string ⟨#[78]⟩,.bool false,.slice (some ⟨17,0,some 1⟩) 1 1] 0 true 51,
 .arr [i64 3,zE,zU,zU,zU,zU,.string ⟨#[78]⟩,zE] 0 true 56,
 .arr [i64 1,zU,zU,zU,zU] 0 true 65,
 .arr [i64 1,zU,zU,zU,zU] 0 true 65,
 .arr [i64 1,zU,zU,zU,zU] 0 true 65,
 .arr [i64 1,zU,zU,zU,zU] 0 true 65,
 .arr [i64 0] 0 true 3,
 .arr [i64 0] 0 true 3,
 .arr [.bool true,.string ⟨#[78]⟩,zE,.bool false,.slice (some ⟨18,0,some 1⟩) 1 1] 0 true 51,
 .arr [.bool true,.string ⟨#[78]⟩,zE,.bool false,.slice (some ⟨18,0,some 1⟩) 1 1] 0 true 51,
 .arr [i64 0,i64 2,i64 0,.slice (some ⟨102,0,some 0⟩) 1 1] 0 true 67,
 .arr [i64 6,zE,.int .u64 281474976710656,zU,zU,zU,zE,zE] 0 true 56,
 .arr [.bool true,.string ⟨#[78]⟩,zE,.bool false,.slice (some ⟨18,0,some 1⟩) 1 1] 0 true 51,
 .arr [i64 6,zE,.int .u64 281474976710656,zU,zU,zU,zE,zE] 0 true 56,
 .arr [i64 2,zU,zU,zU,zU] 0 true 65,
 .arr [i64 2,zU,zU,zU,zU] 0 true 65,
 .arr [i64 2,zU,zU,zU,zU] 0 true 65,
 .arr [i64 2,zU,zU,zU,zU] 0 true 65,
 .arr [i64 0] 0 true 3,
 .arr [i64 0] 0 true 3,
 .arr [.bool true,zE,.int .u64 281474976710656,zU,zU,zU,zE] 0 true 154,
 .arr [.int .i64 (-1),.int .u64 281474976710656,zU,zU,zU] 0 true 65,
 .arr [.int .i64 (-1),.int .u64 281474976710656,zU,zU,zU] 0 true 65,
 .arr [i64 2,zU,zU,zU,zU,.int .i64 (-1),.int .u64 281474976710656,zU,zU,zU] 1 true 65,
 .arr [.slice (some ⟨106,0,some 0⟩) 1 1] 0 true 61,
 .arr [i64 0,zU,zU,zU,zU] 0 true 65,
 .arr [i64 0,zU,zU,zU,zU] 0 true 65,
 .map [(.agg #[i64 0,i64 2,i64 0],.int .i64 1)],
 .arr [i64 0,i64 2,i64 0] 0 true 70,
 .arr [i64 0,i64 2,i64 0] 0 true 70,
 .arr [zU,zU,zU,zU,zU,zU,zU,zU,zU,zU,zU,zU,zU,zU,zU,zU] 0 true 54,
 .arr [.int .i64 (-1),.int .i64 (-1),.int .i64 (-1),.int .i64 (-1)] 0 true 3]
def tup0:Value:=.tuple #[]
def rCheck:Ran:=⟨31,[s1v],s1h,.tuple #[i64 0,zE],s1h⟩
def rCopied:Ran:=⟨32,[s1v],s1h,s2v,s2h⟩
def rNts:Ran:=⟨33,[s3v],s3h,tup0,s4h⟩
def rRules:Ran:=⟨34,[s3v],s4h,tup0,s5h⟩
def rFilters:Ran:=⟨35,[s3v],s5h,tup0,s6h⟩
theorem Qw1:ranB rCheck (Qe2 env (fun _=>true) 400 20 rCheck.f rCheck.args rCheck.h)=true:=by kernel_rfl
theorem Qtl:ranB rCopied (Qe2 env (fun _=>true) 400 20 rCopied.f rCopied.args rCopied.h)=true:=by kernel_rfl
theorem Xgx:ranB rNts (Qe2 env (fun _=>true) 400 20 rNts.f rNts.args rNts.h)=true:=by kernel_rfl
theorem Qwp:ranB rRules (Qe2 env (fun _=>true) 400 20 rRules.f rRules.args rRules.h)=true:=by kernel_rfl
theorem Qqs:ranB rFilters (Qe2 env (fun _=>true) 400 20 rFilters.f rFilters.args rFilters.h)=true:=by kernel_rfl
def rans:List Ran:=[rCheck,rCopied,rNts,rRules,rFilters]
theorem rans_ok:∀ m∈rans,RanOK env m:=by
 intro m hm
 simp only[rans,List.mem_cons,List.not_mem_nil,or_false] at hm
 have hC:=Qdi (N:=env) Qq Qqb (fuel:=400) 20
 rcases hm with rfl|rfl|rfl|rfl|rfl
 ·exact Qh6 hC Qw1
 ·exact Qh6 hC Qtl
 ·exact Qh6 hC Xgx
 ·exact Qh6 hC Qwp
 ·exact Qh6 hC Qqs
noncomputable def orc1:=Qmo (Qe2 env (fun _=>true) 400 20) rans
noncomputable def orc2:=runF env (fun _=>true) 400 orc1
noncomputable def orc3:=runF env (fun _=>true) 400 orc2
theorem alive_run:((orc3 13 [] []).map fun p=>p.1)=some (.bool true):=by kernel_rfl
end Go.Proofs.YtmdmimkbpikmoaaGreat.Run5
namespace Go.Proofs.YtmdmimkbpikmoaaGreat
open Go.RowKit Am Ty
theorem aliveK_fw {h:Heap}:FW env 13 [] h fun r h'=>r = .bool true∧h'=h:=by
 have h1:=Run5.alive_run
 cases hc:Run5.orc3 13 [] [] with
 | none=>rw[hc] at h1;cases h1
 | some p=>
   obtain⟨r,h'⟩:=p
   rw[hc] at h1
   simp only[Option.map_some,Option.some.injEq] at h1
   subst h1
   have h2:=(Qem Qq Qqb (Qem Qq Qqb (Ql0 (Qdi (N:=env) Qq Qqb (fuel:=400) 20) Run5.rans_ok)) _ _ _ _ _ hc).2
   unfold FW
   exact⟨_,_,.fresh h2 (.pure1 rfl),rfl,rfl⟩
end Go.Proofs.YtmdmimkbpikmoaaGreat
namespace Go.Proofs.YtmdmimkbpikmoaaGreat
set_option linter.unusedSimpArgs false
set_option linter.unusedVariables false
set_option maxRecDepth 20000
open Go.RowKit Am Ty
theorem Yu {all:Array Oper} {o:Oper} {s:St} {c:Call} {f:FuncId} {cap args:List Value} {fn:Func} {v:Value} {h':Heap} (hw:Ql all o s=some true) (ho:o.op = .call c) (hc:Ji s c.callee=some (f,cap)) (ha:evs s c.args.toList=some args)
 (hf:env.P.funcs[f]? = some fn) (hnm:(fn.name == "runtime.NumGoroutine")=false) (hb:fn.body.isNone=false) (k:Ev env (.call f (args++cap) s.h v h')):One env all o s (.sl (.val v)) h':=.call hw ho hc ha hf hnm hb k
section
variable {h:Heap} {v:Value} {fr:List Org} {l:List ByteArray} {b:ByteArray} {p:Int}
end
end Go.Proofs.YtmdmimkbpikmoaaGreat
