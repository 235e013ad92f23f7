/- Several texts, one behind the other. -/
import Derived.Test.YtmdmimkbpikmoaaGreatZTy
import Derived.DeepKeys
namespace Go.Proofs.YtmdmimkbpikmoaaGreat
set_option linter.unusedSimpArgs false
set_option linter.unusedVariables false
set_option maxRecDepth 20000
open Go.RowKit Am Ty
def Qy3 (l:List Rule):Int:=(l.map fun r=>(r.rhs.length:Int)+1).sum
def BSet.zero:BSet:=⟨0,0,0,0⟩
def badS (nts:Int) (s:KSym):Prop:=s.nt < -1∨nts≤s.nt∨(0≤s.nt∧s.set≠BSet.zero)
def badR (nts:Int) (r:Rule):Prop:=r.lhs<0∨nts≤r.lhs∨80<r.rhs.length∨∃ s∈r.rhs,badS nts s
def badG (g:Gram):Prop:=g.nts<1∨4096<g.nts∨g.start<0∨g.nts≤g.start∨8192<g.rules.length∨∃ r∈g.rules,badR g.nts r
instance (nts:Int) (s:KSym):Decidable (badS nts s):=by unfold badS;infer_instance
instance (nts:Int) (r:Rule):Decidable (badR nts r):=by unfold badR;infer_instance
instance (g:Gram):Decidable (badG g):=by unfold badG;infer_instance
theorem Qzr (a b:BSet):eqL a.cells b.cells=decide (a=b):=by
 cases a;cases b
 simp only[BSet.cells,eqL,eq1,Bool.and_true,BSet.mk.injEq,Bool.decide_and]
theorem Qvw (a b c d:Int) (s:BSet):(decide (a=s.a)&&(decide (b=s.b)&&(decide (c=s.c)&&decide (d=s.d))))=decide (BSet.mk a b c d=s):=by
 have:=Qzr ⟨a,b,c,d⟩ s
 simpa only[BSet.cells,eqL,eq1,Bool.and_true] using this
attribute [push_cast] Qiz
theorem Ja {cells l:List Value} {off n j:Nat} (h:rdH cells off n=some l) (hj:j<n):cells[off+j]? = l[j]?:=by
 unfold rdH rdC at h
 split at h
 ·cases h
  rw[List.getElem?_take_of_lt hj,List.getElem?_drop]
 ·cases h
theorem Qci {cells l:List Value} {off n:Nat} (h:rdH cells off n=some l) (hj:0<n):cells[off]? = l[0]?:=Ja (j:=0) h hj
def Qu5 (g:Gram) (lim:Int):Prop:=lim<g.nts∨lim<g.rules.length∨lim<g.nts+Qy3 g.rules
instance (g:Gram) (lim:Int):Decidable (Qu5 g lim):=by unfold Qu5;infer_instance
attribute [push_cast] Qh9
def RdSymsN (id:Nat) (h:Heap) (u:Value) (l:List KSym):Prop:=∀ h':Heap,(∀ j o,j≠id→h[j]? = some o→h'[j]? = some o)→RdSyms h' u l
theorem RdSymsN.rd {id:Nat} {h:Heap} {u:Value} {l:List KSym} (k:RdSymsN id h u l):RdSyms h u l:=k h fun _ _ _ h=>h
theorem RdSymsN.mono {id:Nat} {h h':Heap} {u:Value} {l:List KSym} (k:RdSymsN id h u l) (hh:∀ j o,j≠id→h[j]? = some o→h'[j]? = some o):RdSymsN id h' u l:=
 fun h2 h3=>k h2 fun j o hj ho=>h3 j o hj (hh j o hj ho)
abbrev rowf (p:Rule×Value):List Value:=[i64 p.1.lhs,p.2]
def BuiltR (h hk:Heap) (u:Value) (l:List Rule):Prop:=
 h <+: hk∧l.length≤1000000∧∃ us:List Value,us.length=l.length∧((l=[]∧u = .slice none 0 0)∨∃ id ver,h.length≤id∧u = .slice (some ⟨id,0,some ver⟩) l.length l.length ∧
   hk[id]? = some (.arr ((l.zip us).flatMap rowf) ver true 63)∧∀ (i:Nat) (r:Rule) (x:Value),l[i]? = some r→us[i]? = some x→RdSymsN id hk x r.rhs)
theorem Qba {hk h1:Heap} (hp:hk <+: h1):∀ {j:Nat} {o:HObj},hk[j]? = some o→h1[j]? = some o:=fun h=>Qc hp h
theorem BuiltR.grow {h hk h1:Heap} {u:Value} {l:List Rule} (b:BuiltR h hk u l) (hp:hk <+: h1):BuiltR h h1 u l:=by
 obtain⟨b1,b0,us,b2,b3⟩:=b
 refine⟨b1.trans hp,b0,us,b2,?_⟩
 rcases b3 with b3|⟨id,ver,c1,c2,c3,c4⟩
 ·exact .inl b3
 ·exact .inr ⟨id,ver,c1,c2,Qba hp c3,fun i r x h1 h2=>(c4 i r x h1 h2).mono fun j o _ ho=>Qba hp ho⟩
theorem BuiltR.rd {h hk:Heap} {u:Value} {l:List Rule} (b:BuiltR h hk u l):RdRules hk u l:=by
 obtain⟨b1,b0,us,b2,b3⟩:=b
 rcases b3 with ⟨rfl,rfl⟩ | ⟨id,ver,c1,c2,c3,c4⟩
 ·exact⟨[],rfl,⟨by simp,.inl ⟨.inl rfl,rfl,rfl⟩⟩,fun i r u h=>by simp at h⟩
 ·exact⟨us,b2,⟨by omega,.inr ⟨id,ver,true,_,c2,c3⟩⟩,fun i r x h1 h2=>(c4 i r x h1 h2).rd⟩
theorem Qo {h:Heap} {x:HObj}:h <+: h++[x]:=⟨[x],rfl⟩
theorem Qp {h:Heap} {x:HObj}:(h++[x])[h.length]? = some x:=by simp
def Xho {G:Type} (n k:Nat) (F:Nat→G→Fr) (H:Nat→G→Heap) (I:Nat→G→Prop) (Q:AX→St→Prop):AX→St→Prop
 | .normal,s=>k<n∧∃ g,SubL (F (k+1) g) s.fr∧s.h=H (k+1) g∧I (k+1) g
 | e,s=>Q e s
theorem Qy {N:Env} {G:Type} {c:Code} {s:St} {Q:AX→St→Prop} (n:Nat) (F:Nat→G→Fr) (H:Nat→G→Heap) (I:Nat→G→Prop) (g0:G) (h0:SubL (F 0 g0) s.fr) (hh:s.h=H 0 g0) (hI:I 0 g0)
 (hs:∀ k g,k≤n→I k g→CW N c ⟨F k g,[],H k g⟩ (Xho n k F H I Q)):CW N (.loop c) s Q:=by
 refine Qhc (fun m s=>∃ k g,m=n-k∧k≤n∧SubL (F k g) s.fr∧s.h=H k g∧I k g) n ⟨0,g0,rfl,Nat.zero_le _,h0,hh,hI⟩ ?_
 rintro m s ⟨k,g,rfl,hk,hf,hh,hI⟩
 refine Qi _ hf ?_
 rw[hh]
 refine (hs k g hk hI).mono fun e s' hq=>?_
 cases e with
 | normal=>
   obtain⟨h1,g',h2,h3,h4⟩:=hq
   exact⟨n-(k+1),by omega,k+1,g',rfl,by omega,h2,h3,h4⟩
 | exit id=>exact hq
 | ret=>exact hq
theorem BuiltR.form {h hk:Heap} {u:Value} {l:List Rule} (b:BuiltR h hk u l):∃ p c,u = .slice p l.length c:=by
 obtain⟨_,_,us,_,⟨rfl,rfl⟩ | ⟨id,ver,_,rfl,_⟩⟩:=b
 ·exact⟨_,_,rfl⟩
 ·exact⟨_,_,rfl⟩
theorem Qkw:Tryz.prog.underlying 54=some (.array 4 52):=by kernel_rfl
theorem Qp7:Tryz.prog.underlying 52=some (.int .u64):=by kernel_rfl
theorem Qzm:Tryz.prog.underlying 3=some (.int .i64):=by kernel_rfl
theorem Qsb:Tryz.prog.cellsOf 52=1:=by kernel_rfl
theorem Qnb {xs:Array Value} {off:Nat} {v:Value} {w:World} (h:xs[off]? = some v):(part 52 xs off).run Tryz.prog w = .ok v w:=run_part_plain w kr h
theorem Qm8 {xs:Array Value} {off:Nat} {v:Value} {w:World} (h:xs[off]? = some v):(part 3 xs off).run Tryz.prog w = .ok v w:=run_part_plain w kr h
theorem Qji (d:Nat) (xs ys:Array Value) (f g:Nat→Int) (w:World):∀ (is:List Nat),(∀ i∈is,xs[i]? = some (.int .u64 (f i))∧ys[i]? = some (.int .u64 (g i))) →
 (Op.eqItems (d+1) 52 1 xs ys is).run Tryz.prog w = .ok (is.all fun i=>decide (f i=g i)) w
 | [],_=>by simp [Op.eqItems]
 | i :: is,h=>by
   obtain⟨h1,h2⟩:=h i List.mem_cons_self
   have ih:=Qji d xs ys f g w is fun j hj=>h j (List.mem_cons_of_mem _ hj)
   simp only[Op.eqItems,Sem.run_bind,Nat.mul_one,Qnb h1,Qnb h2,Result.andThen_ok,run_equalIn_int w d _ _ _ _ _ Qp7,List.all_cons]
   by_cases he:f i=g i
   ·simp only[he,beq_self_eq_true,Bool.not_true,Bool.false_eq_true,if_false,decide_true,Bool.true_and]
    exact ih
   ·simp [he]
theorem Qqe (d:Nat) (a b c e a' b' c' e':Int) (w:World):(Op.equalIn (d+2) 54 (.agg #[.int .u64 a,.int .u64 b,.int .u64 c,.int .u64 e]) (.agg #[.int .u64 a',.int .u64 b',.int .u64 c',.int .u64 e'])).run Tryz.prog w =
 .ok (decide (a=a')&&(decide (b=b')&&(decide (c=c')&&decide (e=e')))) w:=by
 obtain⟨i,hi⟩:=info_of_underlying Qp7
 rw[run_equalIn_array w (d+1) _ _ Qkw hi,Qsb]
 rw[Qji d _ _ (fun i=>[a,b,c,e].getD i 0) (fun i=>[a',b',c',e'].getD i 0) w]
 ·simp only[show List.range 4=[0,1,2,3] from rfl,List.all_cons,List.all_nil,Bool.and_true,List.getD_cons_zero,List.getD_cons_succ]
 ·intro i hi
  have:i=0∨i=1∨i=2∨i=3:=by simp at hi;omega
  rcases this with rfl|rfl|rfl|rfl<;>exact⟨rfl,rfl⟩
theorem Qvj (a b c e n:Int) (w:World):(part 54 #[.int .i64 n,.int .u64 a,.int .u64 b,.int .u64 c,.int .u64 e] 1).run Tryz.prog w = .ok (.agg #[.int .u64 a,.int .u64 b,.int .u64 c,.int .u64 e]) w:=by
 obtain⟨i,hi⟩:=info_of_underlying Qkw
 have hs:(Tryz.prog.info? 54).map (·.size)=some 4:=by kernel_rfl
 rw[hi] at hs
 simp only[Option.map_some,Option.some.injEq] at hs
 simp [part,Qbj Qkw,Qf3,Xt hi,hs]
noncomputable def fld (i:Nat):Option Field:=(Tryz.prog.fieldsOf 65)[i]?
theorem Qxa (d:Nat) (n a b c e n' a' b' c' e':Int) (w:World):(Op.equalIn (d+3) 65 (.agg #[.int .i64 n,.int .u64 a,.int .u64 b,.int .u64 c,.int .u64 e]) (.agg #[.int .i64 n',.int .u64 a',.int .u64 b',.int .u64 c',.int .u64 e'])).run Tryz.prog w =
 .ok (decide (n=n')&&(decide (a=a')&&(decide (b=b')&&(decide (c=c')&&decide (e=e'))))) w:=by
 obtain⟨f0,h0⟩:∃ f,fld 0=some f:=Option.isSome_iff_exists.1 kr
 obtain⟨f1,h1⟩:∃ f,fld 1=some f:=Option.isSome_iff_exists.1 kr
 have hsz:(Tryz.prog.fieldsOf 65).size=2:=by kernel_rfl
 have hl:(Tryz.prog.fieldsOf 65).toList=[f0,f1]:=by
  apply List.ext_getElem?
  intro i
  match i with
  | 0=>simpa [fld] using h0
  | 1=>simpa [fld] using h1
  | i+2=>simp [hsz]
 have t0:(fld 0).map (fun f=>(f.type,f.offset,f.name == "_"))=some (3,0,false):=by kernel_rfl
 have t1:(fld 1).map (fun f=>(f.type,f.offset,f.name == "_"))=some (54,1,false):=by kernel_rfl
 rw[h0] at t0
 rw[h1] at t1
 simp only[Option.map_some,Option.some.injEq,Prod.mk.injEq,beq_eq_false_iff_ne,ne_eq] at t0 t1
 obtain⟨a1,a2,a3⟩:=t0
 obtain⟨b1,b2,b3⟩:=t1
 rw[run_equalIn_struct w (d+2) _ _ _ kr kr,hl]
 simp only[Op.eqFields,a1,a2,a3,b1,b2,b3,ne_eq,not_false_eq_true,if_true,Sem.run_bind]
 rw[Qm8 (v:=.int .i64 n) rfl]
 simp only[Result.andThen_ok]
 rw[Qm8 (v:=.int .i64 n') rfl]
 simp only[Result.andThen_ok,run_equalIn_int w (d+1) _ _ _ _ _ Qzm]
 by_cases he:n=n'
 ·simp only[he,beq_self_eq_true,Bool.not_true,Bool.false_eq_true,if_false,decide_true,Bool.true_and,Sem.run_bind,Qvj,Result.andThen_ok,Qqe]
  generalize (decide (a=a')&&(decide (b=b')&&(decide (c=c')&&decide (e=e'))))=r
  cases r<;>simp
 ·simp [he]
theorem Qv2 {l:List Value} (h:Qiz l=true):∃ a b c e,l=[.int .u64 a,.int .u64 b,.int .u64 c,.int .u64 e]:=by
 unfold Qiz at h
 split at h
 ·exact⟨_,_,_,_,rfl⟩
 ·cases h
theorem Quh {l:List Value} (h:Qh9 l=true):∃ n a b c e,l=[.int .i64 n,.int .u64 a,.int .u64 b,.int .u64 c,.int .u64 e]:=by
 unfold Qh9 at h
 split at h
 ·exact⟨_,_,_,_,_,rfl⟩
 ·cases h
theorem Qii {μ:Mu}:∀ {l l':List Value},(∀ v∈l,∃ k a,v = .int k a)→VRL Tryz.prog μ l l'→l'=l
 | [],[],_,_=>rfl
 | v :: l,v' :: l',h,⟨h1,h2⟩=>by
   obtain⟨k,a,rfl⟩:=h v List.mem_cons_self
   rw[VR.int h1,Qii (fun u hu=>h u (List.mem_cons_of_mem _ hu)) h2]
 | [],_ :: _,_,h=>h.elim
 | _ :: _,[],_,h=>h.elim
theorem Qk3 {xs:Array Value} {l:List Value} (h:xs.toList=l):xs=l.toArray:=by rw[← h]
theorem Qt7:∀ t chk,env.eqs t=some chk→EqOK Tryz.prog t chk∧∀ l l':List Value,∀ μ:Mu,VRL Tryz.prog μ l l'→chk l=true→l'=l:=by
 intro t chk h
 simp only[env] at h
 split at h
 ·rename_i ht
  subst ht
  cases h
  refine⟨fun xs ys h1 h2=>⟨by kernel_rfl,fun w=>?_⟩,?_⟩
  ·obtain⟨a,b,c,e,hx⟩:=Qv2 h1
   obtain⟨a',b',c',e',hy⟩:=Qv2 h2
   rw[hx,hy,Qk3 hx,Qk3 hy]
   rw[show (10000:Nat)=9998+2 from rfl]
   rw[Qqe 9998]
   simp only[eqL,eq1,Bool.and_true]
  ·intro l l' μ hv hc
   obtain⟨a,b,c,e,rfl⟩:=Qv2 hc
   exact Qii (by simp) hv
 ·split at h
  ·rename_i ht
   subst ht
   cases h
   refine⟨fun xs ys h1 h2=>⟨by kernel_rfl,fun w=>?_⟩,?_⟩
   ·obtain⟨n,a,b,c,e,hx⟩:=Quh h1
    obtain⟨n',a',b',c',e',hy⟩:=Quh h2
    rw[hx,hy,Qk3 hx,Qk3 hy]
    rw[show (10000:Nat)=9997+3 from rfl]
    rw[Qxa 9997]
    simp only[eqL,eq1,Bool.and_true]
   ·intro l l' μ hv hc
    obtain⟨n,a,b,c,e,rfl⟩:=Quh hc
    exact Qii (by simp) hv
  ·exact Qon t chk h
end Go.Proofs.YtmdmimkbpikmoaaGreat
namespace Go.Proofs.YtmdmimkbpikmoaaGreat
set_option linter.unusedSimpArgs false
set_option linter.unusedVariables false
open Go.RowKit Am Ty
theorem Qvz:(env.P.funcs.toList.all fun fn=>!(fn.name == "runtime.NumGoroutine"))=true:=by kernel_rfl
theorem Qqb:NmOK env (fun _=>true):=fun f fn _ hf=>by
 have:=List.all_eq_true.1 Qvz fn (Array.mem_toList_iff.2 (Array.mem_of_getElem? hf))
 simpa using this
set_option maxRecDepth 100000
theorem alive_run:((Qe2 env (fun _=>true) 200 10 26 [] []).map fun p=>p.1)=some (.bool true):=by kernel_rfl
end Go.Proofs.YtmdmimkbpikmoaaGreat
namespace Go.Proofs.YtmdmimkbpikmoaaGreat
set_option linter.unusedSimpArgs false
set_option linter.unusedVariables false
set_option maxRecDepth 20000
open Go.RowKit Am Ty
def whK {G:Type} (m:G→Nat) (F:G→Fr) (H:G→Heap) (I:G→Prop) (g:G) (Q:AX→St→Prop):AX→St→Prop
 | .normal,s=>∃ g',m g'<m g∧SubL (F g') s.fr∧s.h=H g'∧I g'
 | e,s=>Q e s
theorem Jh {N:Env} {G:Type} {c:Code} {s:St} {Q:AX→St→Prop} (m:G→Nat) (F:G→Fr) (H:G→Heap) (I:G→Prop) (g0:G) (h0:SubL (F g0) s.fr) (hh:s.h=H g0) (hI:I g0)
 (hs:∀ g,I g→CW N c ⟨F g,[],H g⟩ (whK m F H I g Q)):CW N (.loop c) s Q:=by
 refine Qhc (fun n s=>∃ g,n=m g∧SubL (F g) s.fr∧s.h=H g∧I g) (m g0) ⟨g0,rfl,h0,hh,hI⟩ ?_
 rintro n s ⟨g,rfl,hf,hh,hI⟩
 refine Qi _ hf ?_
 rw[hh]
 refine (hs g hI).mono fun e s' hq=>?_
 cases e with
 | normal=>
   obtain⟨g',h1,h2,h3,h4⟩:=hq
   exact⟨m g',h1,g',rfl,h2,h3,h4⟩
 | exit id=>exact hq
 | ret=>exact hq
theorem Yl {h H:Heap} {x:HObj} (hp:h <+: H):h <+: H++[x]:=hp.trans Qo
theorem Xa {h H:Heap} {id:Nat} {x:HObj} (hp:h <+: H) (hi:h.length≤id):h <+: H.set id x:=by
 obtain⟨tl,rfl⟩:=hp
 rw[List.prefix_iff_eq_take,List.take_set_of_le hi,List.take_left]
theorem Qk {H:Heap} {i j:Nat} {x:HObj} (h:i≠j):(H.set i x)[j]? = H[j]?:=List.getElem?_set_ne h
theorem Qh {H:Heap} {i:Nat} {x y:HObj} (h:H[i]? = some y):(H.set i x)[i]? = some x:=List.getElem?_set_self (List.getElem?_eq_some_iff.1 h).1
theorem Yn {H:Heap} {i:Nat} {y:HObj} (h:H[i]? = some y):i<H.length:=(List.getElem?_eq_some_iff.1 h).1
theorem Xg {H:Heap} {x:HObj} {i:Nat} {y:HObj} (h:H[i]? = some y):(H++[x])[i]? = some y:=Qba Qo h
theorem Qu2 {α:Type} {f:α→Value} {l:List α} {i:Nat} {x:α} (hi:i<l.length):wrC (l.map f) i [f x]=some ((l.set i x).map f):=by
 unfold wrC
 rw[if_pos (by simp only[List.length_map,List.length_singleton];omega)]
 congr 1
 rw[List.set_eq_take_append_cons_drop,if_pos hi]
 simp
theorem Yv {α:Type} {f:α→List Value} {k:Nat} (hf:∀ x,(f x).length=k):∀ l:List α,(l.flatMap f).length=l.length*k
 | []=>by simp
 | x :: l=>by simp only[List.flatMap_cons,List.length_append,hf,Yv hf l,List.length_cons,Nat.succ_mul];omega
theorem Qp1 {α:Type} {f:α→List Value} {k:Nat} (hf:∀ x,(f x).length=k) {l:List α} {i:Nat} {x:α} (hi:i<l.length):wrC (l.flatMap f) (i*k) (f x)=some ((l.set i x).flatMap f):=by
 have h1:(i+1)*k≤l.length*k:=Nat.mul_le_mul_right k hi
 have h2:(i+1)*k=i*k+k:=Nat.succ_mul i k
 unfold wrC
 rw[if_pos (by rw[Yv hf,hf];omega),hf]
 congr 1
 rw[List.set_eq_take_append_cons_drop,if_pos hi,List.flatMap_append,List.flatMap_cons]
 have e:l.flatMap f=(l.take i).flatMap f++(f l[i]++(l.drop (i+1)).flatMap f):=by
  conv=>lhs;rw[← List.take_append_drop i l,List.flatMap_append,List.drop_eq_getElem_cons hi,List.flatMap_cons]
 have hti:((l.take i).flatMap f).length=i*k:=by rw[Yv hf,List.length_take,Nat.min_eq_left om]
 rw[e]
 simp only[List.append_assoc]
 rw[List.take_left' hti,← hti,List.drop_append,List.drop_of_length_le om,show (List.flatMap f (List.take i l)).length+k-(List.flatMap f (List.take i l)).length=k by omega,← hf l[i],List.drop_left,List.nil_append]
theorem Qrm {n:Nat} {v:Value}:(List.replicate n [v]).flatten=List.replicate n v:=by
 induction n with
 | zero=>rfl
 | succ n ih=>rw[List.replicate_succ,List.flatten_cons,ih,List.replicate_succ];rfl
theorem Qwx {α:Type} {f:α→Value} {n:Nat} {x:α}:List.replicate n (f x)=(List.replicate n x).map f:=by simp
theorem Qs5 {α:Type} {f:α→List Value} {n:Nat} {x:α}:(List.replicate n (f x)).flatten=(List.replicate n x).flatMap f:=by
 induction n with
 | zero=>rfl
 | succ n ih=>rw[List.replicate_succ,List.flatten_cons,ih,List.replicate_succ,List.flatMap_cons]
section
variable {all:Array Oper} {o:Oper} {r:List Oper} {s:St} {K:St→Prop}
theorem Qvc {x:Operand} {t e:TypeId} {ti:TI} {z:Value} {n:Int} {N:Nat} {cs:List Value} (hw:Ql all o s=some true) (ho:o.op = .makeSlice t x x) (hx:ev s x=some (i64 n)) (hN:n=N) (hu:env.P.underlying t=some (.slice e)) (ht:Qf env.P e=some ti)
 (hz:ti.zero=some z) (hp:(Jl z&&z.cells.toList.all one&&decide (z.cells.size=ti.size)&&decide (0<ti.size))=true) (hb:N*ti.bytes≤140737488355328) (hN2:N≤140737488355328) (hcs:(List.replicate N z.cells.toList).flatten=cs)
 (k:OW env all r ({ s with h:=s.h++[HObj.arr cs 0 true e] }.putO o.dst (.val (.slice (some ⟨s.h.length,0,some 0⟩) N N))) K):OW env all (o :: r) s K:=by
 subst hN hcs
 refine Xii hw ?_ k
 rw[ho]
 have h1:(ti.bytes:Int)*(N:Int)≤140737488355328:=by
  have:((N*ti.bytes:Nat):Int)≤140737488355328:=by omega
  rw[Int.natCast_mul,Int.mul_comm] at this
  exact this
 have h2:(N:Int)≤140737488355328:=by omega
 unfold mkC
 simp only[hu,hx,ht,hz]
 rw[if_pos (by rw[hp,decide_eq_true trivial,decide_eq_true (Int.natCast_nonneg N),decide_eq_true h1,decide_eq_true h2];rfl),Int.toNat_natCast]
theorem Qvp {x:Operand} {n:Int} {N:Nat} (hw:Ql all o s=some true) (ho:o.op = .makeSlice 39 x x) (hx:ev s x=some (i64 n)) (hN:n=N) (hN2:N≤1000000)
 (k:OW env all r ({ s with h:=s.h++[HObj.arr ((List.replicate N (0:Int)).map i64) 0 true 3] }.putO o.dst (.val (.slice (some ⟨s.h.length,0,some 0⟩) N N))) K):OW env all (o :: r) s K:=by
 refine Qvc hw ho hx hN kr ti3 rfl (by rfl) (by simp only;omega) om (by rw[← Qwx];exact Qrm) k
theorem Qtw {x:Operand} {n:Int} {N:Nat} (hw:Ql all o s=some true) (ho:o.op = .makeSlice 38 x x) (hx:ev s x=some (i64 n)) (hN:n=N) (hN2:N≤1000000)
 (k:OW env all r ({ s with h:=s.h++[HObj.arr ((List.replicate N (⟨0,0,0,0⟩:BSet)).flatMap BSet.cells) 0 true 54] }.putO o.dst (.val (.slice (some ⟨s.h.length,0,some 0⟩) N N))) K):OW env all (o :: r) s K:=by
 refine Qvc hw ho hx hN kr ti54 rfl (by rfl) (by simp only;omega) om (Qs5 (f:=BSet.cells) (n:=N) (x:=⟨0,0,0,0⟩)) k
end
inductive Der (T:KSym→Prop) (rules:List Rule):Int→Prop
 | mk (r:Rule):r∈rules→(∀ s∈r.rhs,s.nt<0→T s)→(∀ s∈r.rhs,0≤s.nt→Der T rules s.nt)→Der T rules r.lhs
def bit (m:List Bool) (i:Int):Bool:=m.getD i.toNat false
theorem Qax {m:List Bool} {i:Int} (h0:0≤i) (h1:i<m.length):bit m i=m[i.toNat]'om:=by
 unfold bit
 rw[List.getD_eq_getElem?_getD,List.getElem?_eq_getElem (by omega:i.toNat<m.length)]
 rfl
theorem Qpp {m:List Bool} {i j:Int} {b:Bool} (h0:0≤i) (h1:i<m.length) (j0:0≤j):bit (m.set i.toNat b) j=if i=j then b else bit m j:=by
 unfold bit
 simp only[List.getD_eq_getElem?_getD,List.getElem?_set]
 by_cases h:i=j
 ·subst h
  rw[if_pos rfl,if_pos rfl,if_pos om]
  rfl
 ·rw[if_neg om,if_neg h]
theorem Qxs {n:Nat} {i:Int}:bit (List.replicate n false) i=false:=by
 unfold bit
 rw[List.getD_eq_getElem?_getD,List.getElem?_replicate]
 split<;>rfl
def Marks (n:Int) (D:Int→Prop) (m:List Bool):Prop:=(m.length:Int)=n∧∀ i:Int,0≤i→i<n→(bit m i=true↔D i)
theorem Marks.eq {n:Int} {D:Int→Prop} {m m':List Bool} (h:Marks n D m) (h':Marks n D m'):m=m':=by
 have hl:m.length=m'.length:=by have:=h.1;have:=h'.1;omega
 refine List.ext_getElem hl fun i h1 h2=>?_
 have a1:=h.2 i om (by have:=h.1;omega)
 have a2:=h'.2 i om (by have:=h.1;omega)
 rw[Qax om om] at a1 a2
 simp only[Int.toNat_natCast] at a1 a2
 cases hm:m[i]<;>cases hm':m'[i]<;>simp_all
def Mine (h h':Heap) (v:Value) (n:Nat) (cells:List Value) (et:TypeId):Prop:=∃ id ver,h.length≤id∧v = .slice (some ⟨id,0,some ver⟩) n n∧h'[id]? = some (.arr cells ver true et)
abbrev MineB (h h':Heap) (v:Value) (m:List Bool):Prop:=Mine h h' v m.length (m.map Value.bool) 4
theorem MineB.rd {h h':Heap} {v:Value} {m:List Bool} (k:MineB h h' v m) (hl:m.length≤1000000):RdBools h' v m:=by
 obtain⟨id,ver,h1,h2,h3⟩:=k
 exact⟨by omega,.inr ⟨id,ver,true,_,h2,h3⟩⟩
def Right (g:Gram):Prop:=¬ badG g
structure RightS (g:Gram):Prop where
 n1:1≤g.nts
 n2:g.nts≤4096
 s1:0≤g.start
 s2:g.start<g.nts
 rl:g.rules.length≤8192
 r:∀ r∈g.rules,0≤r.lhs∧r.lhs<g.nts∧r.rhs.length≤80∧∀ s∈r.rhs,-1≤s.nt∧s.nt<g.nts∧(0≤s.nt→s.set=BSet.zero)
def Grow (h hk:Heap) (v:Value) (n:Nat) (cells:List Value) (et:TypeId):Prop:=(n=0∧cells=[]∧v = .slice none 0 0)∨Mine h hk v n cells et
def isAt:Value→Nat→Bool
 | .slice (some a) _ _,j=>a.block == j
 | _,_=>false
section
variable {h hk:Heap} {v:Value} {n b:Nat} {cells:List Value} {et:TypeId}
theorem Grow.nil:Grow h hk (.slice none 0 0) 0 [] et:=.inl ⟨rfl,rfl,rfl⟩
theorem Grow.form (g:Grow h hk v n cells et):∃ p c,v = .slice p n c:=by
 rcases g with ⟨rfl,_,rfl⟩ | ⟨id,ver,_,rfl,_⟩
 ·exact⟨_,_,rfl⟩
 ·exact⟨_,_,rfl⟩
theorem Grow.sl (g:Grow h hk v n cells et) (hb:n*b≤140737488355328):SlR hk v n cells et b:=by
 rcases g with ⟨rfl,rfl,rfl⟩ | ⟨id,ver,_,h2,h3⟩
 ·exact⟨hb,.inl ⟨.inl rfl,rfl,rfl⟩⟩
 ·exact⟨hb,.inr ⟨id,ver,true,_,h2,h3⟩⟩
theorem Grow.mono {h':Heap} (g:Grow h hk v n cells et) (hp:∀ j o,isAt v j=true→hk[j]? = some o→h'[j]? = some o):Grow h h' v n cells et:=by
 rcases g with g|⟨id,ver,h1,rfl,h3⟩
 ·exact .inl g
 ·exact .inr ⟨id,ver,h1,rfl,hp _ _ (by simp [isAt]) h3⟩
theorem Mine.mono {h':Heap} (g:Mine h hk v n cells et) (hp:∀ j o,isAt v j=true→hk[j]? = some o→h'[j]? = some o):Mine h h' v n cells et:=by
 obtain⟨id,ver,h1,rfl,h3⟩:=g
 exact⟨id,ver,h1,rfl,hp _ _ (by simp [isAt]) h3⟩
theorem Grow.lt (g:Grow h hk v n cells et) {j:Nat} (hj:isAt v j=true):h.length≤j∧j<hk.length:=by
 rcases g with ⟨_,_,rfl⟩ | ⟨id,ver,h1,rfl,h3⟩
 ·simp [isAt] at hj
 ·simp only[isAt,beq_iff_eq] at hj
  subst hj
  exact⟨h1,Yn h3⟩
theorem Grow.mine (g:Grow h hk v n cells et) (hn:0<n):Mine h hk v n cells et:=by
 rcases g with ⟨h0,_⟩ | g
 ·omega
 ·exact g
end
section
variable {all:Array Oper} {o:Oper} {r:List Oper} {s:St} {K:St→Prop}
theorem Qdz {x:Operand} {t y:Nat} {e:TypeId} {ti:TI} {v:Value} {cs cells:List Value} {n:Nat} {h:Heap} (hw:Ql all o s=some true)
 (ho:o.op = .call { callee:=.builtin .append,args:=#[x,.tmp y],argTypes:=#[t,t] }) (hu:env.P.underlying t=some (.slice e)) (ht:Qf env.P e=some ti) (hs0:0<ti.size) (hz:(ti.zero.map fun z=>z.cells.size)=some ti.size)
 (hx:ev s x=some v) (hy:fget s.fr y = .bsl cs 1) (G:Grow h s.h v n cells e) (hp:h <+: s.h) (hl:cells.length=n*ti.size) (hc:cs.length=ti.size) (hb:(n+1)*ti.bytes≤140737488355328) (hn:n+1≤140737488355328)
 (k:∀ p c h',Grow h h' (.slice p (n+1) c) (n+1) (cells++cs) e→h <+: h'→(∀ j o,isAt v j=false→s.h[j]? = some o→h'[j]? = some o)→s.h.length≤h'.length→OW env all r ({ s with h:=h' }.putO o.dst (.val (.slice p (n+1) c))) K):OW env all (o :: r) s K:=by
 have hi:Xz s s.h ti.size (.tmp y)=some (cs,1):=by simp only[Xz,hy,hc,Nat.one_mul,if_true]
 rcases G with ⟨rfl,rfl,rfl⟩ | ⟨id,ver,h1,rfl,h3⟩
 ·refine Qew hw ho hu ht hs0 hz hx hi (by decide) (by simpa using hb) (by decide) ?_
  exact k (some ⟨s.h.length,0,some 0⟩) 1 _ (.inr ⟨s.h.length,0,hp.length_le,rfl,by simp⟩) (Yl hp) (fun j o _ h=>Xg h) (by simp)
 ·refine Qfu hw ho hu ht hs0 hz hx h3 om hi hb hn ?_
  rw[List.take_of_length_le om]
  refine k (some ⟨id,0,some (ver+1)⟩) (n+1) _ (.inr ⟨id,ver+1,h1,rfl,Qh h3⟩) (Xa hp h1) (fun j o hj h=>?_) (by simp)
  simp only[isAt,beq_eq_false_iff_ne] at hj
  rw[Qk hj]
  exact h
theorem Qmg {x:Operand} {y:Nat} {v:Value} {l:List Int} {b:Int} {h:Heap} (hw:Ql all o s=some true)
 (ho:o.op = .call { callee:=.builtin .append,args:=#[x,.tmp y],argTypes:=#[39,39] }) (hx:ev s x=some v) (hy:fget s.fr y = .bsl [i64 b] 1) (G:Grow h s.h v l.length (l.map i64) 3) (hp:h <+: s.h) (hn:l.length≤1000000)
 (k:∀ p c h',Grow h h' (.slice p (l.length+1) c) (l++[b]).length ((l++[b]).map i64) 3→h <+: h'→(∀ j o,isAt v j=false→s.h[j]? = some o→h'[j]? = some o)→s.h.length≤h'.length→OW env all r ({ s with h:=h' }.putO o.dst (.val (.slice p (l.length+1) c))) K):OW env all (o :: r) s K:=by
 refine Qdz hw ho kr ti3 (by decide) rfl hx hy G hp (by simp) rfl (by simp only;omega) om fun p c h' h1 h2 h3 h4=>k p c h' ?_ h2 h3 h4
 rw[List.map_append,List.length_append]
 exact h1
theorem Yi {t:TypeId} {cs:List Value} {n:Nat} (hw:Ql all o s=some true) (hm:bslC env s o.op=some (t,cs,n))
 (k:OW env all r ({ s with h:=s.h++[HObj.arr cs 0 true t] }.putO o.dst (.val (.slice (some ⟨s.h.length,0,some 0⟩) n n))) K):OW env all (o :: r) s K:=by
 unfold OW at k ⊢
 obtain⟨s2,k1,k2⟩:=k
 exact⟨s2,.opBslH hw hm k1,k2⟩
end
theorem Qt5:∀ {m m':List Bool},m.length=m'.length→(∀ (i:Nat) (h1:i<m.length) (h2:i<m'.length),m[i]=true→m'[i]=true)→m.count true≤m'.count true
 | [],[],_,_=>Nat.le_refl _
 | a :: m,b :: m',hl,hh=>by
   have ih:=Qt5 (m:=m) (m':=m') (by simpa using hl) fun i h1 h2 h=>hh (i+1) (by simpa using h1) (by simpa using h2) h
   have h0:=hh 0 (by simp) (by simp)
   simp only[List.getElem_cons_zero] at h0
   rw[List.count_cons,List.count_cons]
   cases a<;>cases b<;>simp_all<;>omega
theorem Qoc:∀ {m m':List Bool},m.length=m'.length→(∀ (i:Nat) (h1:i<m.length) (h2:i<m'.length),m[i]=true→m'[i]=true)→(∃ (i:Nat) (h1:i<m.length) (h2:i<m'.length),m[i]=false∧m'[i]=true)→m.count true<m'.count true
 | [],[],_,_,⟨i,h1,_⟩=>by simp at h1
 | a :: m,b :: m',hl,hh,⟨i,h1,h2,h3,h4⟩=>by
   have hl':m.length=m'.length:=by simpa using hl
   have hh':∀ (i:Nat) (h1:i<m.length) (h2:i<m'.length),m[i]=true→m'[i]=true:=fun i h1 h2 h=>hh (i+1) (by simpa using h1) (by simpa using h2) h
   have h0:=hh 0 (by simp) (by simp)
   simp only[List.getElem_cons_zero] at h0
   rw[List.count_cons,List.count_cons]
   cases i with
   | zero=>
     simp only[List.getElem_cons_zero] at h3 h4
     subst h3 h4
     have:=Qt5 hl' hh'
     simp
     omega
   | succ i=>
     have ih:=Qoc hl' hh' ⟨i,by simpa using h1,by simpa using h2,by simpa using h3,by simpa using h4⟩
     cases a<;>cases b<;>simp_all<;>omega
theorem Qnh {m:List Bool} (h:m.length≤m.count true):∀ b∈m,b=true:=by
 have:m.count true=m.length:=Nat.le_antisymm List.count_le_length h
 rw[List.count_eq_length] at this
 exact fun b hb=>(this b hb).symm
def BLe (n:Int) (m m':List Bool):Prop:=∀ i:Int,0≤i→i<n→bit m i=true→bit m' i=true
theorem BLe.get {n:Int} {m m':List Bool} (h:BLe n m m') (h1:(m.length:Int)=n) (h2:(m'.length:Int)=n):∀ (i:Nat) (h1:i<m.length) (h2:i<m'.length),m[i]=true→m'[i]=true:=by
 intro i k1 k2 k
 have:=h i om om
 rw[Qax om om,Qax om om] at this
 exact this k
def POK (T:KSym→Prop) (P:KSym→List Bool→Bool):Prop:=∀ s m,P s m=true↔(s.nt<0→T s)∧(0≤s.nt→bit m s.nt=true)
def Sat (P:KSym→List Bool→Bool) (m:List Bool) (r:Rule):Prop:=∀ s∈r.rhs,P s m=true
def ClosedM (P:KSym→List Bool→Bool) (rules:List Rule) (m:List Bool):Prop:=∀ r∈rules,Sat P m r→bit m r.lhs=true
def Round (P:KSym→List Bool→Bool) (g:Gram) (m m':List Bool):Prop:=(m'.length:Int)=g.nts∧∀ i:Int,0≤i→i<g.nts→(bit m' i=true↔∃ r∈g.rules,r.lhs=i∧Sat P m r)
structure Rounds (T:KSym→Prop) (P:KSym→List Bool→Bool) (g:Gram) (k:Nat) (m:List Bool):Prop where
 l:(m.length:Int)=g.nts
 s:∀ i:Int,0≤i→i<g.nts→bit m i=true→Der T g.rules i
 u:∀ i:Int,0≤i→i<g.nts→bit m i=true→∃ r∈g.rules,r.lhs=i∧Sat P m r
 c:k≤m.count true∨ClosedM P g.rules m
section
variable {T:KSym→Prop} {P:KSym→List Bool→Bool} {g:Gram} {m m':List Bool} {k:Nat}
theorem Sat.mono (hP:POK T P) (R:RightS g) {r:Rule} (hr:r∈g.rules) (hle:BLe g.nts m m') (h:Sat P m r):Sat P m' r:=by
 intro s hs
 have h1:=(hP s m).1 (h s hs)
 obtain⟨_,_,_,hS⟩:=R.r r hr
 have h2:=hS s hs
 exact (hP s m').2 ⟨h1.1,fun h0=>hle _ h0 om (h1.2 h0)⟩
theorem Rounds.start (hn:(m.length:Int)=g.nts) (h:∀ i,bit m i=false):Rounds T P g 0 m:=
 ⟨hn,fun i _ _ hb=>(by rw[h] at hb;cases hb),fun i _ _ hb=>(by rw[h] at hb;cases hb),.inl (Nat.zero_le _)⟩
theorem Rounds.step (hP:POK T P) (R:RightS g) (h:Rounds T P g k m) (hr:Round P g m m'):Rounds T P g (k+1) m':=by
 have hle:BLe g.nts m m':=fun i h0 h1 hb=>(hr.2 i h0 h1).2 (h.u i h0 h1 hb)
 refine⟨hr.1,fun i h0 h1 hb=>?_,fun i h0 h1 hb=>?_,?_⟩
 ·obtain⟨r,hr1,rfl,hS⟩:=(hr.2 i h0 h1).1 hb
  obtain⟨_,_,_,hS'⟩:=R.r r hr1
  exact .mk r hr1 (fun s hs=>((hP s m).1 (hS s hs)).1) (fun s hs k0=>h.s _ k0 (by have:=hS' s hs;omega) (((hP s m).1 (hS s hs)).2 k0))
 ·obtain⟨r,hr1,rfl,hS⟩:=(hr.2 i h0 h1).1 hb
  exact⟨r,hr1,rfl,hS.mono hP R hr1 hle⟩
 ·by_cases hc:ClosedM P g.rules m
  ·have hge:BLe g.nts m' m:=fun i h0 h1 hb=>by
    obtain⟨r,hr1,rfl,hS⟩:=(hr.2 i h0 h1).1 hb
    exact hc r hr1 hS
   refine .inr fun r hr1 hS=>?_
   obtain⟨l1,l2,_⟩:=R.r r hr1
   exact (hr.2 _ l1 l2).2 ⟨r,hr1,rfl,hS.mono hP R hr1 hge⟩
  ·rcases h.c with h3|h3
   ·refine .inl ?_
    have:∃ r,r∈g.rules∧Sat P m r∧bit m r.lhs=false:=by
     refine Classical.byContradiction fun hn=>hc fun r hr1 hS=>?_
     cases hb:bit m r.lhs with
     | true=>rfl
     | false=>exact (hn ⟨r,hr1,hS,hb⟩).elim
    obtain⟨r,hr1,hS,hb⟩:=this
    obtain⟨l1,l2,_⟩:=R.r r hr1
    have hb':bit m' r.lhs=true:=(hr.2 _ l1 l2).2 ⟨r,hr1,rfl,hS⟩
    have hl:=h.l
    have hl':=hr.1
    have:m.count true<m'.count true:=by
     refine Qoc om (hle.get hl hl') ⟨r.lhs.toNat,by omega,by omega,?_,?_⟩
     ·rw[← Qax l1 om];exact hb
     ·rw[← Qax l1 om];exact hb'
    omega
   ·exact (hc h3).elim
theorem ClosedM.der (hP:POK T P) (hc:ClosedM P g.rules m) {i:Int} (hd:Der T g.rules i):bit m i=true:=by
 induction hd with
 | mk r hr hT hD ih=>exact hc r hr fun s hs=>(hP s m).2 ⟨hT s hs,fun h0=>ih s hs h0⟩
theorem Rounds.fin (hP:POK T P) (R:RightS g) (h:Rounds T P g k m) (hk:g.nts≤k):Marks g.nts (Der T g.rules) m:=by
 refine⟨h.l,fun i h0 h1=>⟨h.s i h0 h1,fun hd=>?_⟩⟩
 have hl:=h.l
 rcases h.c with hc|hc
 ·have:=Qnh (m:=m) om
  rw[Qax h0 om]
  exact this _ (List.getElem_mem _)
 ·exact hc.der hP hd
end
inductive Reached (g:Gram):Int→Prop
 | start:Reached g g.start
 | step (r:Rule) (s:KSym):r∈g.rules→s∈r.rhs→0≤s.nt→Reached g r.lhs→Reached g s.nt
def Proc (g:Gram) (m:List Bool) (i:Int):Prop:=∀ r∈g.rules,r.lhs=i→∀ s∈r.rhs,0≤s.nt→bit m s.nt=true
def AllLe (m m':List Bool):Prop:=∀ i:Int,0≤i→bit m i=true→bit m' i=true
theorem AllLe.refl {m:List Bool}:AllLe m m:=fun _ _ h=>h
theorem AllLe.trans {a b c:List Bool} (h:AllLe a b) (k:AllLe b c):AllLe a c:=fun i h0 h1=>k i h0 (h i h0 h1)
theorem AllLe.set {m:List Bool} {i:Int} (h0:0≤i) (h1:i<m.length):AllLe m (m.set i.toNat true):=fun j j0 hj=>by
 rw[Qpp h0 h1 j0]
 split
 ·rfl
 ·exact hj
theorem Proc.mono {g:Gram} {m m':List Bool} {i:Int} (h:Proc g m i) (hl:AllLe m m'):Proc g m' i:=fun r hr e s hs h0=>hl _ h0 (h r hr e s hs h0)
structure RInv (g:Gram) (m:List Bool) (l:List Int) (now:Int→Prop):Prop where
 n:(m.length:Int)=g.nts
 s:∀ i:Int,0≤i→bit m i=true→Reached g i
 st:bit m g.start=true
 li:∀ x∈l,0≤x∧x<g.nts∧bit m x=true
 p:∀ i:Int,0≤i→bit m i=true→i∈l∨now i∨Proc g m i
theorem RInv.fin {g:Gram} {m:List Bool} (R:RightS g) (h:RInv g m [] fun _=>False):Marks g.nts (Reached g) m:=by
 refine⟨h.n,fun i h0 h1=>⟨h.s i h0,fun hr=>?_⟩⟩
 clear h0 h1
 induction hr with
 | start=>exact h.st
 | step r s hr hs h0 _ ih=>
   rcases h.p r.lhs (R.r r hr).1 ih with h1|h1|h1
   ·cases h1
   ·exact h1.elim
   ·exact h1 r hr rfl s hs h0
theorem RInv.pop {g:Gram} {m:List Bool} {l:List Int} {x:Int} (h:RInv g m (l++[x]) fun _=>False):RInv g m l fun i=>i=x:=by
 refine⟨h.n,h.s,h.st,fun y hy=>h.li y (List.mem_append_left _ hy),fun i h0 h1=>?_⟩
 rcases h.p i h0 h1 with k|k|k
 ·rw[List.mem_append] at k
  rcases k with k|k
  ·exact .inl k
  ·exact .inr (.inl (by simpa using k))
 ·exact k.elim
 ·exact .inr (.inr k)
theorem RInv.next {g:Gram} {m:List Bool} {l:List Int} {x:Int} (h:RInv g m l fun i=>i=x) (hp:Proc g m x):RInv g m l fun _=>False:=by
 refine⟨h.n,h.s,h.st,h.li,fun i h0 h1=>?_⟩
 rcases h.p i h0 h1 with k|k|k
 ·exact .inl k
 ·exact .inr (.inr (k▸hp))
 ·exact .inr (.inr k)
theorem RInv.start {g:Gram} {N:Nat} (R:RightS g) (hN:g.nts=N):RInv g ((List.replicate N false).set g.start.toNat true) [g.start] fun _=>False:=by
 have s1:=R.s1
 have s2:=R.s2
 have hb:∀ i:Int,0≤i→(bit ((List.replicate N false).set g.start.toNat true) i=true↔i=g.start):=fun i h0=>by
  rw[Qpp s1 (by simp;omega) h0,Qxs]
  constructor
  ·intro h
   split at h
   ·rename_i e
    exact e.symm
   ·cases h
  ·rintro rfl
   rw[if_pos rfl]
 refine⟨by simp [hN],fun i h0 h1=>(hb i h0).1 h1▸.start,(hb _ s1).2 rfl,fun x hx=>?_,fun i h0 h1=>?_⟩
 ·obtain rfl:x=_:=by simpa using hx
  exact⟨s1,s2,(hb _ s1).2 rfl⟩
 ·exact .inl (by simp [(hb i h0).1 h1])
def ClosedR (g:Gram) (m:List Bool):Prop:=∀ r∈g.rules,bit m r.lhs=true→∀ s∈r.rhs,0≤s.nt→bit m s.nt=true
structure RRounds (g:Gram) (k:Nat) (m:List Bool):Prop where
 n:(m.length:Int)=g.nts
 s:∀ i:Int,0≤i→bit m i=true→Reached g i
 st:bit m g.start=true
 c:k+1≤m.count true∨ClosedR g m
structure RRound (g:Gram) (m:List Bool) (k:Nat) (m':List Bool):Prop where
 n:(m'.length:Int)=g.nts
 s:∀ i:Int,0≤i→bit m' i=true→Reached g i
 le:AllLe m m'
 d:∀ r∈g.rules.take k,bit m r.lhs=true→∀ s∈r.rhs,0≤s.nt→bit m' s.nt=true
theorem RRounds.start {g:Gram} {N:Nat} (R:RightS g) (hN:g.nts=N):RRounds g 0 ((List.replicate N false).set g.start.toNat true):=by
 have h:=RInv.start R hN
 have s1:=R.s1
 refine⟨h.n,h.s,h.st,.inl ?_⟩
 have h1:=h.st
 have hn:=h.n
 have s2:=R.s2
 rw[Qax s1 om] at h1
 exact List.count_pos_iff.2 (List.mem_iff_getElem.2 ⟨_,_,h1⟩)
theorem RRounds.step {g:Gram} {m m':List Bool} {k:Nat} (R:RightS g) (h:RRounds g k m) (hr:RRound g m g.rules.length m'):RRounds g (k+1) m':=by
 have hd:=hr.d
 rw[List.take_length] at hd
 refine⟨hr.n,hr.s,hr.le _ R.s1 h.st,?_⟩
 have hl:=h.n
 have hl':=hr.n
 have hle:∀ (i:Nat) (h1:i<m.length) (h2:i<m'.length),m[i]=true→m'[i]=true:=BLe.get (n:=g.nts) (fun i h0 _=>hr.le i h0) hl hl'
 by_cases hc:∃ i:Int,0≤i∧i<g.nts∧bit m i=false∧bit m' i=true
 ·rcases h.c with h3|h3
  ·obtain⟨i,h0,h1,h2,h4⟩:=hc
   have:=Qoc om hle ⟨i.toNat,by omega,by omega,by rw[← Qax h0 om];exact h2,by rw[← Qax h0 om];exact h4⟩
   exact .inl om
  ·-- what is closed stays: but something was added,which is reached: no
   obtain⟨i,h0,h1,h2,h4⟩:=hc
   have hre:=hr.s i h0 h4
   have:∀ j,Reached g j→bit m j=true:=fun j hj=>by
    induction hj with
    | start=>exact h.st
    | step r s hr hs h0 _ ih=>exact h3 r hr ih s hs h0
   rw[this i hre] at h2
   cases h2
 ·refine .inr fun r hr1 hb s hs h0=>?_
  obtain⟨l1,l2,_,hS⟩:=R.r r hr1
  have hs2:=hS s hs
  have hge:∀ i:Int,0≤i→i<g.nts→bit m' i=true→bit m i=true:=fun i h0 h1 hb=>by
   cases h:bit m i with
   | true=>rfl
   | false=>exact (hc ⟨i,h0,h1,h,hb⟩).elim
  exact hd r hr1 (hge _ l1 l2 hb) s hs h0
theorem RRounds.fin {g:Gram} {m:List Bool} {k:Nat} (R:RightS g) (h:RRounds g k m) (hk:g.nts≤k+1):Marks g.nts (Reached g) m:=by
 have hl:=h.n
 refine⟨h.n,fun i h0 h1=>⟨h.s i h0,fun hr=>?_⟩⟩
 rcases h.c with hc|hc
 ·have:=Qnh (m:=m) om
  rw[Qax h0 om]
  exact this _ (List.getElem_mem _)
 ·clear h0 h1
  induction hr with
  | start=>exact h.st
  | step r s hr hs h0 _ ih=>exact hc r hr ih s hs h0
def WWf (w:Int):Prop:=0≤w∧w<18446744073709551616
def wbit (w:Int) (j:Nat):Bool:=w.toNat.testBit j
def BSet.word (s:BSet):Nat→Int
 | 0=>s.a
 | 1=>s.b
 | 2=>s.c
 | _=>s.d
def BSet.has (s:BSet) (n:Nat):Bool:=wbit (s.word (n / 64)) (n % 64)
structure SetWf (s:BSet):Prop where
 a:WWf s.a
 b:WWf s.b
 c:WWf s.c
 d:WWf s.d
theorem SetWf.word {s:BSet} (h:SetWf s) (i:Nat):WWf (s.word i):=by
 match i with
 | 0=>exact h.a
 | 1=>exact h.b
 | 2=>exact h.c
 | n+3=>exact h.d
theorem Qvb {v w:Int} (hv:WWf v) (hw:WWf w) (h:∀ j,j<64→wbit v j=wbit w j):v=w:=by
 have:v.toNat=w.toNat:=by
  refine Nat.eq_of_testBit_eq fun j=>?_
  by_cases hj:j<64
  ·exact h j hj
  ·have e:∀ u:Int,WWf u→u.toNat.testBit j=false:=fun u hu=>by
    refine Nat.testBit_lt_two_pow (Nat.lt_of_lt_of_le (m:=2 ^ 64) (by have:=hu.1;have:=hu.2;omega) (Nat.pow_le_pow_right (by decide) om))
   rw[e v hv,e w hw]
 have:=hv.1
 have:=hw.1
 omega
theorem BSet.ext {s t:BSet} (hs:SetWf s) (ht:SetWf t) (h:∀ n,n<256→s.has n=t.has n):s=t:=by
 have key:∀ i,i<4→s.word i=t.word i:=fun i hi=>Qvb (hs.word i) (ht.word i) fun j hj=>by
  have:=h (i*64+j) om
  unfold BSet.has at this
  rwa [show (i*64+j) / 64=i by omega,show (i*64+j) % 64=j by omega] at this
 have h0:=key 0 (by decide)
 have h1:=key 1 (by decide)
 have h2:=key 2 (by decide)
 have h3:=key 3 (by decide)
 cases s;cases t
 simp only[BSet.word] at h0 h1 h2 h3
 simp only[h0,h1,h2,h3]
def wor (v w:Int):Int:=((v.toNat ||| w.toNat:Nat):Int)
theorem Qcn {v w:Int} (hv:WWf v) (hw:WWf w):WWf (wor v w):=by
 have:v.toNat ||| w.toNat<2 ^ 64:=Nat.or_lt_two_pow (by have:=hv.1;have:=hv.2;omega) (by have:=hw.1;have:=hw.2;omega)
 exact⟨Int.natCast_nonneg _,by unfold wor;omega⟩
theorem Qxc {v w:Int} {j:Nat}:wbit (wor v w) j=(wbit v j||wbit w j):=by
 unfold wbit wor
 rw[Int.toNat_natCast,Nat.testBit_or]
theorem Qm6 {x:Int} (h:WWf x):IntKind.u64.wrap x=x:=by
 have h1:=h.1
 have h2:=h.2
 unfold IntKind.wrap
 simp only[IntKind.bits,IntKind.signed,Bool.false_and,Bool.false_eq_true,if_false]
 omega
theorem Qlm {v w:Int} (hv:WWf v) (hw:WWf w):IntKind.u64.wrap ((BitVec.ofInt 64 v ||| BitVec.ofInt 64 w).toNat)=wor v w:=by
 have e:∀ u:Int,WWf u→(BitVec.ofInt 64 u).toNat=u.toNat:=fun u hu=>by
  rw[BitVec.toNat_ofInt]
  have:=hu.1
  have:=hu.2
  congr 1
  exact Int.emod_eq_of_lt hu.1 (by simpa using hu.2)
 rw[BitVec.toNat_or,e v hv,e w hw]
 exact Qm6 (Qcn hv hw)
def BSet.union (s t:BSet):BSet:=⟨wor s.a t.a,wor s.b t.b,wor s.c t.c,wor s.d t.d⟩
theorem Qs6 {s t:BSet} (hs:SetWf s) (ht:SetWf t):SetWf (s.union t):=⟨Qcn hs.a ht.a,Qcn hs.b ht.b,Qcn hs.c ht.c,Qcn hs.d ht.d⟩
theorem Qfw {s t:BSet} {n:Nat}:(s.union t).has n=(s.has n||t.has n):=by
 unfold BSet.has
 have:(s.union t).word (n / 64)=wor (s.word (n / 64)) (t.word (n / 64)):=by
  match n / 64 with
  | 0=>rfl
  | 1=>rfl
  | 2=>rfl
  | k+3=>rfl
 rw[this,Qxc]
theorem Qzx:SetWf BSet.zero:=⟨⟨by decide,by decide⟩,⟨by decide,by decide⟩,⟨by decide,by decide⟩,⟨by decide,by decide⟩⟩
theorem Qvm {n:Nat}:BSet.zero.has n=false:=by
 unfold BSet.has wbit
 have:BSet.zero.word (n / 64)=0:=by
  match n / 64 with
  | 0=>rfl
  | 1=>rfl
  | 2=>rfl
  | k+3=>rfl
 rw[this]
 simp
theorem Qk2 {s:BSet} (hs:SetWf s) (h:∀ n,n<256→s.has n=false):s=BSet.zero:=BSet.ext hs Qzx fun n hn=>by rw[h n hn,Qvm]
theorem Qlr {w:Int} (hw:WWf w) {j:Nat}:wbit w j=decide (w / 2 ^ j % 2=1):=by
 have h0:=hw.1
 obtain⟨x,rfl⟩:∃ x:Nat,w=x:=⟨w.toNat,by omega⟩
 unfold wbit
 rw[Int.toNat_natCast,Nat.testBit_eq_decide_div_mod_eq]
 have:(x:Int) / 2 ^ j % 2=((x / 2 ^ j % 2:Nat):Int):=by simp
 rw[this]
 by_cases h:x / 2 ^ j % 2=1
 ·rw[decide_eq_true h,decide_eq_true om]
 ·rw[decide_eq_false h,decide_eq_false om]
def NullS (D:Int→Prop) (s:KSym):Prop:=0≤s.nt∧D s.nt
inductive Fst (rules:List Rule) (D:Int→Prop) (b:Nat):Int→Prop
 | mk (r:Rule) (k:Nat) (hk:k<r.rhs.length):r∈rules→(∀ s∈r.rhs.take k,NullS D s)→(r.rhs[k].nt<0→r.rhs[k].set.has b=true)→(0≤r.rhs[k].nt→Fst rules D b r.rhs[k].nt)→Fst rules D b r.lhs
def sget (l:List BSet) (i:Int):BSet:=l.getD i.toNat BSet.zero
theorem Qtr {l:List BSet} {i:Int} (h0:0≤i) (h1:i<l.length):sget l i=l[i.toNat]'om:=by
 unfold sget
 rw[List.getD_eq_getElem?_getD,List.getElem?_eq_getElem (by omega:i.toNat<l.length)]
 rfl
def SLe (s t:BSet):Prop:=∀ b,b<256→s.has b=true→t.has b=true
theorem SLe.refl {s:BSet}:SLe s s:=fun _ _ h=>h
theorem SLe.trans {a b c:BSet} (h:SLe a b) (k:SLe b c):SLe a c:=fun i h0 h1=>k i h0 (h i h0 h1)
theorem SLe.left {s t:BSet}:SLe s (s.union t):=fun b _ h=>by rw[Qfw,h];rfl
theorem SLe.right {s t:BSet}:SLe t (s.union t):=fun b _ h=>by rw[Qfw,h,Bool.or_true]
def Qdp (out:List BSet) (s:KSym):BSet:=if s.nt<0 then s.set else sget out s.nt
structure FInv (g:Gram) (D:Int→Prop) (out:List BSet):Prop where
 n:(out.length:Int)=g.nts
 wf:∀ i:Int,0≤i→i<g.nts→SetWf (sget out i)
 s:∀ i:Int,0≤i→i<g.nts→∀ b,b<256→(sget out i).has b=true→Fst g.rules D b i
def FClosed (D:Int→Prop) (out:List BSet) (r:Rule) (s:BSet):Prop:=∀ (k:Nat) (hk:k<r.rhs.length),(∀ x∈r.rhs.take k,NullS D x)→SLe (Qdp out r.rhs[k]) s
def Firsts (g:Gram) (D:Int→Prop) (out:List BSet):Prop:=(out.length:Int)=g.nts∧∀ i:Int,0≤i→i<g.nts→SetWf (sget out i)∧∀ b,b<256→((sget out i).has b=true↔Fst g.rules D b i)
theorem FInv.fin {g:Gram} {D:Int→Prop} {out:List BSet} (R:RightS g) (h:FInv g D out) (hc:∀ r∈g.rules,FClosed D out r (sget out r.lhs)):Firsts g D out:=by
 refine⟨h.n,fun i h0 h1=>⟨h.wf i h0 h1,fun b hb=>⟨h.s i h0 h1 b hb,fun hf=>?_⟩⟩⟩
 clear h0 h1
 induction hf with
 | mk r k hk hr hp hs hn ih=>
   refine hc r hr k hk hp b hb ?_
   unfold Qdp
   split
   ·rename_i h0
    exact hs h0
   ·rename_i h0
    exact ih om
theorem Firsts.eq {g:Gram} {D:Int→Prop} {a b:List BSet} (ha:Firsts g D a) (hb:Firsts g D b):a=b:=by
 have hl:a.length=b.length:=by have:=ha.1;have:=hb.1;omega
 refine List.ext_getElem hl fun i h1 h2=>?_
 have hn:=ha.1
 have a1:=ha.2 i om om
 have a2:=hb.2 i om om
 rw[Qtr om om] at a1 a2
 simp only[Int.toNat_natCast] at a1 a2
 refine BSet.ext a1.1 a2.1 fun n hn=>?_
 have:=(a1.2 n hn).trans (a2.2 n hn).symm
 cases h3:a[i].has n<;>cases h4:b[i].has n<;>simp_all
def card (s:BSet):Nat:=((List.range 256).filter fun b=>!s.has b).length
def room (l:List BSet):Nat:=(l.map card).sum
structure FPre (g:Gram) (D:Int→Prop) (out:List BSet) (r:Rule) (j:Nat) (s:BSet):Prop where
 wf:SetWf s
 le:SLe (sget out r.lhs) s
 so:∀ b,b<256→s.has b=true→Fst g.rules D b r.lhs
 c:∀ (k:Nat) (hk:k<r.rhs.length),k<j→(∀ x∈r.rhs.take k,NullS D x)→SLe (Qdp out r.rhs[k]) s
theorem FPre.start {g:Gram} {D:Int→Prop} {out:List BSet} {r:Rule} (R:RightS g) (h:FInv g D out) (hr:r∈g.rules):FPre g D out r 0 (sget out r.lhs):=by
 obtain⟨l1,l2,_⟩:=R.r r hr
 exact⟨h.wf _ l1 l2,.refl,h.s _ l1 l2,fun k _ hk=>by omega⟩
theorem FPre.step {g:Gram} {D:Int→Prop} {out:List BSet} {r:Rule} {j:Nat} {s:BSet} (R:RightS g) (hW:∀ r∈g.rules,∀ s∈r.rhs,SetWf s.set) (h:FInv g D out) (hr:r∈g.rules) (hp:FPre g D out r j s) (hj:j<r.rhs.length) (hn:∀ x∈r.rhs.take j,NullS D x) :
 FPre g D out r (j+1) (s.union (Qdp out r.rhs[j])):=by
 obtain⟨l1,l2,l3,hS⟩:=R.r r hr
 have hs:=hS _ (List.getElem_mem hj)
 have hw:SetWf (Qdp out r.rhs[j]):=by
  unfold Qdp
  split
  ·exact hW r hr _ (List.getElem_mem hj)
  ·exact h.wf _ om om
 refine⟨Qs6 hp.wf hw,hp.le.trans .left,fun b hb hh=>?_,fun k hk hkj hx=>?_⟩
 ·rw[Qfw,Bool.or_eq_true] at hh
  rcases hh with hh|hh
  ·exact hp.so b hb hh
  ·refine .mk r j hj hr hn (fun h0=>?_) fun h0=>?_
   ·unfold Qdp at hh
    rwa [if_pos h0] at hh
   ·unfold Qdp at hh
    rw[if_neg om] at hh
    exact h.s _ h0 hs.2.1 b hb hh
 ·rcases Nat.lt_or_ge k j with h1|h1
  ·exact (hp.c k hk h1 hx).trans .left
  ·obtain rfl:k=j:=by omega
   exact .right
theorem FPre.stop {g:Gram} {D:Int→Prop} {out:List BSet} {r:Rule} {j:Nat} {s:BSet} (hp:FPre g D out r (j+1) s) (hj:j<r.rhs.length) (hn:¬ NullS D r.rhs[j]):FClosed D out r s:=by
 intro k hk hx
 rcases Nat.lt_or_ge k (j+1) with h1|h1
 ·exact hp.c k hk h1 hx
 ·refine (hn (hx _ ?_)).elim
  rw[List.mem_take_iff_getElem]
  exact⟨j,by omega,rfl⟩
theorem FPre.all {g:Gram} {D:Int→Prop} {out:List BSet} {r:Rule} {s:BSet} (hp:FPre g D out r r.rhs.length s):FClosed D out r s:=fun k hk hx=>hp.c k hk hk hx
end Go.Proofs.YtmdmimkbpikmoaaGreat
