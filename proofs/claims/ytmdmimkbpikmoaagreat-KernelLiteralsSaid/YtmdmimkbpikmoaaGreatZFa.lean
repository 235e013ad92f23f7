/- Several texts, one behind the other. -/
import Derived.Test.YtmdmimkbpikmoaaGreatZTy
import Derived.DeepKeys
set_option linter.unusedSimpArgs false
set_option linter.unusedVariables false
set_option maxHeartbeats 8000000
namespace Go.Proofs.YtmdmimkbpikmoaaGreat
set_option maxRecDepth 20000
open Go.RowKit Am Ty
def HM (l:List dt):Int:=(l.map fun r=>(r.rhs.length:Int)+1).sum
def aZ.zero:aZ:=⟨0,0,0,0⟩
def IZ (fk:Int) (s:bd):Prop:=s.nt < -1∨fk≤s.nt∨(0≤s.nt∧s.set≠aZ.zero)
def Jw (fk:Int) (r:dt):Prop:=r.lhs<0∨fk≤r.lhs∨80<r.rhs.length∨∃ s∈r.rhs,IZ fk s
def LF (g:fc):Prop:=g.fk<1∨4096<g.fk∨g.start<0∨g.fk≤g.start∨8192<g.rules.length∨∃ r∈g.rules,Jw g.fk r
instance (fk:Int) (s:bd):Decidable (IZ fk s):=by unfold IZ;infer_instance
instance (fk:Int) (r:dt):Decidable (Jw fk r):=by unfold Jw;infer_instance
instance (g:fc):Decidable (LF g):=by unfold LF;infer_instance
theorem G4 (a b:aZ):jk a.cells b.cells=decide (a=b):=by
 cases a;cases b
 simp only[aZ.cells,jk,mw,Bool.and_true,aZ.mk.injEq,Bool.decide_and]
theorem C9 (a b c d:Int) (s:aZ):(decide (a=s.a)&&(decide (b=s.b)&&(decide (c=s.c)&&decide (d=s.d))))=decide (aZ.mk a b c d=s):=by
 have:=G4 ⟨a,b,c,d⟩ s
 simpa only[aZ.cells,jk,mw,Bool.and_true] using this
attribute [push_cast] qz
theorem g7 {cells l:List Value} {off n j:Nat} (h:je cells off n=some l) (hj:j<n):cells[off+j]? = l[j]?:=by{
unfold je s7 at h
split at h
·cases h
 rw[List.getElem?_take_of_lt hj,List.getElem?_drop]
·cases h}
theorem mV {cells l:List Value} {off n:Nat} (h:je cells off n=some l) (hj:0<n):cells[off]? = l[0]?:=g7 (j:=0) h hj
def Fj (g:fc) (lim:Int):Prop:=lim<g.fk∨lim<g.rules.length∨lim<g.fk+HM g.rules
instance (g:fc) (lim:Int):Decidable (Fj g lim):=by unfold Fj;infer_instance
attribute [push_cast] su
def ll (id:Nat) (h:ah) (u:Value) (l:List bd):Prop:=∀ h':ah,(∀ j o,j≠id→h[j]? = some o→h'[j]? = some o)→kH h' u l
theorem ll.rd {id:Nat} {h:ah} {u:Value} {l:List bd} (k:ll id h u l):kH h u l:=k h fun _ _ _ h=>h
theorem ll.mono {id:Nat} {h h':ah} {u:Value} {l:List bd} (k:ll id h u l) (hh:∀ j o,j≠id→h[j]? = some o→h'[j]? = some o):ll id h' u l:=
 fun h2 h3=>k h2 fun j o hj ho=>h3 j o hj (hh j o hj ho)
abbrev Sc (p:dt×Value):List Value:=[i64 p.1.lhs,p.2]
def me (h hk:ah) (u:Value) (l:List dt):Prop:=
 h <+: hk∧l.length≤1000000∧∃ us:List Value,us.length=l.length∧((l=[]∧u = .slice none 0 0)∨∃ id au,h.length≤id∧u = .slice (some ⟨id,0,some au⟩) l.length l.length ∧
   hk[id]? = some (.aj ((l.zip us).flatMap Sc) au true 63)∧∀ (i:Nat) (r:dt) (x:Value),l[i]? = some r→us[i]? = some x→ll id hk x r.rhs)
theorem iz {hk h1:ah} (hp:hk <+: h1):∀ {j:Nat} {o:av},hk[j]? = some o→h1[j]? = some o:=fun h=>ag hp h
theorem me.grow {h hk h1:ah} {u:Value} {l:List dt} (b:me h hk u l) (hp:hk <+: h1):me h h1 u l:=by{
obtain⟨b1,b0,us,b2,b3⟩:=b
refine⟨b1.trans hp,b0,us,b2,?_⟩
rcases b3 with b3|⟨id,au,c1,c2,c3,c4⟩
·exact .inl b3
·exact .inr ⟨id,au,c1,c2,iz hp c3,fun i r x h1 h2=>(c4 i r x h1 h2).mono fun j o _ ho=>iz hp ho⟩}
theorem me.rd {h hk:ah} {u:Value} {l:List dt} (b:me h hk u l):gd hk u l:=by{
obtain⟨b1,b0,us,b2,b3⟩:=b
rcases b3 with ⟨rfl,rfl⟩ | ⟨id,au,c1,c2,c3,c4⟩
·exact⟨[],rfl,⟨by simp,.inl ⟨.inl rfl,rfl,rfl⟩⟩,fun i r u h=>by simp at h⟩
·exact⟨us,b2,⟨by omega,.inr ⟨id,au,true,_,c2,c3⟩⟩,fun i r x h1 h2=>(c4 i r x h1 h2).rd⟩}
theorem aI {h:ah} {x:av}:h <+: h++[x]:=⟨[x],rfl⟩
theorem aJ {h:ah} {x:av}:(h++[x])[h.length]? = some x:=by simp
def Pk {G:Type} (n k:Nat) (F:Nat→G→Fr) (H:Nat→G→ah) (I:Nat→G→Prop) (Q:AX→St→Prop):AX→St→Prop
 | .normal,s=>k<n∧∃ g,bB (F (k+1) g) s.fr∧s.h=H (k+1) g∧I (k+1) g
 | e,s=>Q e s
theorem a9 {N:Env} {G:Type} {c:Code} {s:St} {Q:AX→St→Prop} (n:Nat) (F:Nat→G→Fr) (H:Nat→G→ah) (I:Nat→G→Prop) (g0:G) (h0:bB (F 0 g0) s.fr) (hh:s.h=H 0 g0) (hI:I 0 g0) (hs:∀ k g,k≤n→I k g→CW N c ⟨F k g,[],H k g⟩ (Pk n k F H I Q)):CW N (.loop c) s Q:=by{
refine pH (fun m s=>∃ k g,m=n-k∧k≤n∧bB (F k g) s.fr∧s.h=H k g∧I k g) n ⟨0,g0,rfl,Nat.zero_le _,h0,hh,hI⟩ ?_
rintro m s ⟨k,g,rfl,hk,hf,hh,hI⟩
refine aA _ hf ?_
rw[hh]
refine (hs k g hk hI).mono fun e s' hq=>?_
cases e with
| normal=>
  obtain⟨h1,g',h2,h3,h4⟩:=hq
  exact⟨n-(k+1),by omega,k+1,g',rfl,by omega,h2,h3,h4⟩
| exit id=>exact hq
| ret=>exact hq}
theorem me.form {h hk:ah} {u:Value} {l:List dt} (b:me h hk u l):∃ p c,u = .slice p l.length c:=by{
obtain⟨_,_,us,_,⟨rfl,rfl⟩ | ⟨id,au,_,rfl,_⟩⟩:=b
·exact⟨_,_,rfl⟩
·exact⟨_,_,rfl⟩}
theorem ux:Tryz.prog.underlying 54=some (.array 4 52):=by kernel_rfl
theorem zX:Tryz.prog.underlying 52=some (.int .u64):=by kernel_rfl
theorem GC:Tryz.prog.underlying 3=some (.int .i64):=by kernel_rfl
theorem Cd:Tryz.prog.cellsOf 52=1:=by kernel_rfl
theorem xS {xs:Array Value} {off:Nat} {v:Value} {w:World} (h:xs[off]? = some v):(part 52 xs off).run Tryz.prog w = .ok v w:=run_part_plain w kr h
theorem vZ {xs:Array Value} {off:Nat} {v:Value} {w:World} (h:xs[off]? = some v):(part 3 xs off).run Tryz.prog w = .ok v w:=run_part_plain w kr h
theorem tC (d:Nat) (xs ys:Array Value) (f g:Nat→Int) (w:World):∀ (is:List Nat),(∀ i∈is,xs[i]? = some (.int .u64 (f i))∧ys[i]? = some (.int .u64 (g i))) →
 (Op.eqItems (d+1) 52 1 xs ys is).run Tryz.prog w = .ok (is.all fun i=>decide (f i=g i)) w
 | [],_=>by simp [Op.eqItems]
 | i :: is,h=>by
   obtain⟨h1,h2⟩:=h i List.mem_cons_self
   have ih:=tC d xs ys f g w is fun j hj=>h j (List.mem_cons_of_mem _ hj)
   simp only[Op.eqItems,Sem.run_bind,Nat.mul_one,xS h1,xS h2,Result.andThen_ok,run_equalIn_int w d _ _ _ _ _ zX,List.all_cons]
   by_cases he:f i=g i
   ·simp only[he,beq_self_eq_true,Bool.not_true,Bool.false_eq_true,if_false,decide_true,Bool.true_and]
    exact ih
   ·simp [he]
theorem Ai (d:Nat) (a b c e a' b' c' e':Int) (w:World):(Op.equalIn (d+2) 54 (.agg #[.int .u64 a,.int .u64 b,.int .u64 c,.int .u64 e]) (.agg #[.int .u64 a',.int .u64 b',.int .u64 c',.int .u64 e'])).run Tryz.prog w = .ok (decide (a=a')&&(decide (b=b')&&(decide (c=c')&&decide (e=e')))) w:=by{
obtain⟨i,hi⟩:=info_of_underlying zX
rw[run_equalIn_array w (d+1) _ _ ux hi,Cd]
rw[tC d _ _ (fun i=>[a,b,c,e].getD i 0) (fun i=>[a',b',c',e'].getD i 0) w]
·simp only[show List.range 4=[0,1,2,3] from rfl,List.all_cons,List.all_nil,Bool.and_true,List.getD_cons_zero,List.getD_cons_succ]
·intro i hi
 have:i=0∨i=1∨i=2∨i=3:=by simp at hi;omega
 rcases this with rfl|rfl|rfl|rfl<;>exact⟨rfl,rfl⟩}
theorem DZ (a b c e n:Int) (w:World):(part 54 #[.int .i64 n,.int .u64 a,.int .u64 b,.int .u64 c,.int .u64 e] 1).run Tryz.prog w = .ok (.agg #[.int .u64 a,.int .u64 b,.int .u64 c,.int .u64 e]) w:=by{
obtain⟨i,hi⟩:=info_of_underlying ux
have hs:(Tryz.prog.info? 54).map (·.size)=some 4:=by kernel_rfl
rw[hi] at hs
simp only[Option.map_some,Option.some.injEq] at hs
simp [part,iP ux,oJ,bT hi,hs]}
noncomputable def Mr (i:Nat):Option Field:=(Tryz.prog.fieldsOf 65)[i]?
theorem G8 (d:Nat) (n a b c e n' a' b' c' e':Int) (w:World):(Op.equalIn (d+3) 65 (.agg #[.int .i64 n,.int .u64 a,.int .u64 b,.int .u64 c,.int .u64 e]) (.agg #[.int .i64 n',.int .u64 a',.int .u64 b',.int .u64 c',.int .u64 e'])).run Tryz.prog w = .ok (decide (n=n')&&(decide (a=a')&&(decide (b=b')&&(decide (c=c')&&decide (e=e'))))) w:=by{
obtain⟨f0,h0⟩:∃ f,Mr 0=some f:=Option.isSome_iff_exists.1 kr
obtain⟨f1,h1⟩:∃ f,Mr 1=some f:=Option.isSome_iff_exists.1 kr
have hsz:(Tryz.prog.fieldsOf 65).size=2:=by kernel_rfl
have hl:(Tryz.prog.fieldsOf 65).toList=[f0,f1]:=by
 apply List.ext_getElem?
 intro i
 match i with
 | 0=>simpa [Mr] using h0
 | 1=>simpa [Mr] using h1
 | i+2=>simp [hsz]
have t0:(Mr 0).map (fun f=>(f.type,f.offset,f.name == "_"))=some (3,0,false):=by kernel_rfl
have t1:(Mr 1).map (fun f=>(f.type,f.offset,f.name == "_"))=some (54,1,false):=by kernel_rfl
rw[h0] at t0
rw[h1] at t1
simp only[Option.map_some,Option.some.injEq,Prod.mk.injEq,beq_eq_false_iff_ne,ne_eq] at t0 t1
obtain⟨a1,a2,a3⟩:=t0
obtain⟨b1,b2,b3⟩:=t1
rw[run_equalIn_struct w (d+2) _ _ _ kr kr,hl]
simp only[Op.eqFields,a1,a2,a3,b1,b2,b3,ne_eq,not_false_eq_true,if_true,Sem.run_bind]
rw[vZ (v:=.int .i64 n) rfl]
simp only[Result.andThen_ok]
rw[vZ (v:=.int .i64 n') rfl]
simp only[Result.andThen_ok,run_equalIn_int w (d+1) _ _ _ _ _ GC]
by_cases he:n=n'
·simp only[he,beq_self_eq_true,Bool.not_true,Bool.false_eq_true,if_false,decide_true,Bool.true_and,Sem.run_bind,DZ,Result.andThen_ok,Ai]
 generalize (decide (a=a')&&(decide (b=b')&&(decide (c=c')&&decide (e=e'))))=r
 cases r<;>simp
·simp [he]}
theorem EC {l:List Value} (h:qz l=true):∃ a b c e,l=[.int .u64 a,.int .u64 b,.int .u64 c,.int .u64 e]:=by{
unfold qz at h
split at h
·exact⟨_,_,_,_,rfl⟩
·cases h}
theorem D9 {l:List Value} (h:su l=true):∃ n a b c e,l=[.int .i64 n,.int .u64 a,.int .u64 b,.int .u64 c,.int .u64 e]:=by{
unfold su at h
split at h
·exact⟨_,_,_,_,_,rfl⟩
·cases h}
theorem qI {μ:Mu}:∀ {l l':List Value},(∀ v∈l,∃ k a,v = .int k a)→di Tryz.prog μ l l'→l'=l
 | [],[],_,_=>rfl
 | v :: l,v' :: l',h,⟨h1,h2⟩=>by
   obtain⟨k,a,rfl⟩:=h v List.mem_cons_self
   rw[VR.int h1,qI (fun u hu=>h u (List.mem_cons_of_mem _ hu)) h2]
 | [],_ :: _,_,h=>h.elim
 | _ :: _,[],_,h=>h.elim
theorem vy {xs:Array Value} {l:List Value} (h:xs.toList=l):xs=l.toArray:=by rw[← h]
theorem DW:∀ t chk,env.IF t=some chk→CV Tryz.prog t chk∧∀ l l':List Value,∀ μ:Mu,di Tryz.prog μ l l'→chk l=true→l'=l:=by{
intro t chk h
simp only[env] at h
split at h
·rename_i ht
 subst ht
 cases h
 refine⟨fun xs ys h1 h2=>⟨by kernel_rfl,fun w=>?_⟩,?_⟩
 ·obtain⟨a,b,c,e,hx⟩:=EC h1
  obtain⟨a',b',c',e',hy⟩:=EC h2
  rw[hx,hy,vy hx,vy hy]
  rw[show (10000:Nat)=9998+2 from rfl]
  rw[Ai 9998]
  simp only[jk,mw,Bool.and_true]
 ·intro l l' μ hv hc
  obtain⟨a,b,c,e,rfl⟩:=EC hc
  exact qI (by simp) hv
·split at h
 ·rename_i ht
  subst ht
  cases h
  refine⟨fun xs ys h1 h2=>⟨by kernel_rfl,fun w=>?_⟩,?_⟩
  ·obtain⟨n,a,b,c,e,hx⟩:=D9 h1
   obtain⟨n',a',b',c',e',hy⟩:=D9 h2
   rw[hx,hy,vy hx,vy hy]
   rw[show (10000:Nat)=9997+3 from rfl]
   rw[G8 9997]
   simp only[jk,mw,Bool.and_true]
  ·intro l l' μ hv hc
   obtain⟨n,a,b,c,e,rfl⟩:=D9 hc
   exact qI (by simp) hv
 ·exact yd t chk h}
end Go.Proofs.YtmdmimkbpikmoaaGreat
namespace Go.Proofs.YtmdmimkbpikmoaaGreat
open Go.RowKit Am Ty
theorem CH:(env.P.funcs.toList.all fun fn=>!(fn.name == "runtime.NumGoroutine"))=true:=by kernel_rfl
theorem zS:rS env (fun _=>true):=fun f fn _ hf=>by
 have:=List.all_eq_true.1 CH fn (Array.mem_toList_iff.2 (Array.mem_of_getElem? hf))
 simpa using this
set_option maxRecDepth 100000
theorem s9:((nu env (fun _=>true) 200 10 26 [] []).map fun p=>p.1)=some (.bool true):=by kernel_rfl
end Go.Proofs.YtmdmimkbpikmoaaGreat
namespace Go.Proofs.YtmdmimkbpikmoaaGreat
set_option maxRecDepth 20000
open Go.RowKit Am Ty
def TZ {G:Type} (m:G→Nat) (F:G→Fr) (H:G→ah) (I:G→Prop) (g:G) (Q:AX→St→Prop):AX→St→Prop
 | .normal,s=>∃ g',m g'<m g∧bB (F g') s.fr∧s.h=H g'∧I g'
 | e,s=>Q e s
theorem eY {N:Env} {G:Type} {c:Code} {s:St} {Q:AX→St→Prop} (m:G→Nat) (F:G→Fr) (H:G→ah) (I:G→Prop) (g0:G) (h0:bB (F g0) s.fr) (hh:s.h=H g0) (hI:I g0) (hs:∀ g,I g→CW N c ⟨F g,[],H g⟩ (TZ m F H I g Q)):CW N (.loop c) s Q:=by{
refine pH (fun n s=>∃ g,n=m g∧bB (F g) s.fr∧s.h=H g∧I g) (m g0) ⟨g0,rfl,h0,hh,hI⟩ ?_
rintro n s ⟨g,rfl,hf,hh,hI⟩
refine aA _ hf ?_
rw[hh]
refine (hs g hI).mono fun e s' hq=>?_
cases e with
| normal=>
  obtain⟨g',h1,h2,h3,h4⟩:=hq
  exact⟨m g',h1,g',rfl,h2,h3,h4⟩
| exit id=>exact hq
| ret=>exact hq}
theorem cS {h H:ah} {x:av} (hp:h <+: H):h <+: H++[x]:=hp.trans aI
theorem aY {h H:ah} {id:Nat} {x:av} (hp:h <+: H) (hi:h.length≤id):h <+: H.set id x:=by
 obtain⟨tl,rfl⟩:=hp
 rw[List.prefix_iff_eq_take,List.take_set_of_le hi,List.take_left]
theorem aD {H:ah} {i j:Nat} {x:av} (h:i≠j):(H.set i x)[j]? = H[j]?:=List.getElem?_set_ne h
theorem aw {H:ah} {i:Nat} {x y:av} (h:H[i]? = some y):(H.set i x)[i]? = some x:=List.getElem?_set_self (List.getElem?_eq_some_iff.1 h).1
theorem cX {H:ah} {i:Nat} {y:av} (h:H[i]? = some y):i<H.length:=(List.getElem?_eq_some_iff.1 h).1
theorem bo {H:ah} {x:av} {i:Nat} {y:av} (h:H[i]? = some y):(H++[x])[i]? = some y:=iz aI h
theorem Ei {α:Type} {f:α→Value} {l:List α} {i:Nat} {x:α} (hi:i<l.length):lj (l.map f) i [f x]=some ((l.set i x).map f):=by{
unfold lj
rw[if_pos (by simp only[List.length_map,List.length_singleton];omega)]
congr 1
rw[List.set_eq_take_append_cons_drop,if_pos hi]
simp}
theorem dv {α:Type} {f:α→List Value} {k:Nat} (hf:∀ x,(f x).length=k):∀ l:List α,(l.flatMap f).length=l.length*k
 | []=>by simp
 | x :: l=>by simp only[List.flatMap_cons,List.length_append,hf,dv hf l,List.length_cons,Nat.succ_mul];omega
theorem AF {α:Type} {f:α→List Value} {k:Nat} (hf:∀ x,(f x).length=k) {l:List α} {i:Nat} {x:α} (hi:i<l.length):lj (l.flatMap f) (i*k) (f x)=some ((l.set i x).flatMap f):=by{
have h1:(i+1)*k≤l.length*k:=Nat.mul_le_mul_right k hi
have h2:(i+1)*k=i*k+k:=Nat.succ_mul i k
unfold lj
rw[if_pos (by rw[dv hf,hf];omega),hf]
congr 1
rw[List.set_eq_take_append_cons_drop,if_pos hi,List.flatMap_append,List.flatMap_cons]
have e:l.flatMap f=(l.take i).flatMap f++(f l[i]++(l.drop (i+1)).flatMap f):=by
 conv=>lhs;rw[← List.take_append_drop i l,List.flatMap_append,List.drop_eq_getElem_cons hi,List.flatMap_cons]
have hti:((l.take i).flatMap f).length=i*k:=by rw[dv hf,List.length_take,Nat.min_eq_left om]
rw[e]
simp only[List.append_assoc]
rw[List.take_left' hti,← hti,List.drop_append,List.drop_of_length_le om,show (List.flatMap f (List.take i l)).length+k-(List.flatMap f (List.take i l)).length=k by omega,← hf l[i],List.drop_left,List.nil_append]}
theorem BM {n:Nat} {v:Value}:(List.replicate n [v]).flatten=List.replicate n v:=by{
induction n with
| zero=>rfl
| succ n ih=>rw[List.replicate_succ,List.flatten_cons,ih,List.replicate_succ];rfl}
theorem Gp {α:Type} {f:α→Value} {n:Nat} {x:α}:List.replicate n (f x)=(List.replicate n x).map f:=by simp
theorem CC {α:Type} {f:α→List Value} {n:Nat} {x:α}:(List.replicate n (f x)).flatten=(List.replicate n x).flatMap f:=by{
induction n with
| zero=>rfl
| succ n ih=>rw[List.replicate_succ,List.flatten_cons,ih,List.replicate_succ,List.flatMap_cons]}
section
variable {all:Array Oper} {o:Oper} {r:List Oper} {s:St} {K:St→Prop}
theorem Es {x:Operand} {t e:TypeId} {ti:TI} {z:Value} {n:Int} {N:Nat} {cs:List Value} (hw:aE all o s=some true) (ho:o.op = .makeSlice t x x) (hx:ev s x=some (i64 n)) (hN:n=N) (hu:env.P.underlying t=some (.slice e)) (ht:ar env.P e=some ti) (hz:ti.zero=some z) (hp:(fB z&&z.cells.toList.all one&&decide (z.cells.size=ti.size)&&decide (0<ti.size))=true) (hb:N*ti.bytes≤140737488355328) (hN2:N≤140737488355328) (hcs:(List.replicate N z.cells.toList).flatten=cs) (k:OW env all r ({ s with h:=s.h++[av.aj cs 0 true e] }.aX o.dst (.val (.slice (some ⟨s.h.length,0,some 0⟩) N N))) K):OW env all (o :: r) s K:=by{
subst hN hcs
refine Nz hw ?_ k
rw[ho]
have h1:(ti.bytes:Int)*(N:Int)≤140737488355328:=by
 have:((N*ti.bytes:Nat):Int)≤140737488355328:=by omega
 rw[Int.natCast_mul,Int.mul_comm] at this
 exact this
have h2:(N:Int)≤140737488355328:=by omega
unfold x6
simp only[hu,hx,ht,hz]
rw[if_pos (by rw[hp,decide_eq_true trivial,decide_eq_true (Int.natCast_nonneg N),decide_eq_true h1,decide_eq_true h2];rfl),Int.toNat_natCast]}
theorem Fe {x:Operand} {n:Int} {N:Nat} (hw:aE all o s=some true) (ho:o.op = .makeSlice 39 x x) (hx:ev s x=some (i64 n)) (hN:n=N) (hN2:N≤1000000)
 (k:OW env all r ({ s with h:=s.h++[av.aj ((List.replicate N (0:Int)).map i64) 0 true 3] }.aX o.dst (.val (.slice (some ⟨s.h.length,0,some 0⟩) N N))) K):OW env all (o :: r) s K:=by
 refine Es hw ho hx hN kr Mo rfl (by rfl) (by simp only;omega) om (by rw[← Gp];exact BM) k
theorem CX {x:Operand} {n:Int} {N:Nat} (hw:aE all o s=some true) (ho:o.op = .makeSlice 38 x x) (hx:ev s x=some (i64 n)) (hN:n=N) (hN2:N≤1000000)
 (k:OW env all r ({ s with h:=s.h++[av.aj ((List.replicate N (⟨0,0,0,0⟩:aZ)).flatMap aZ.cells) 0 true 54] }.aX o.dst (.val (.slice (some ⟨s.h.length,0,some 0⟩) N N))) K):OW env all (o :: r) s K:=by
 refine Es hw ho hx hN kr NH rfl (by rfl) (by simp only;omega) om (CC (f:=aZ.cells) (n:=N) (x:=⟨0,0,0,0⟩)) k
end
inductive NN (T:bd→Prop) (rules:List dt):Int→Prop
 | mk (r:dt):r∈rules→(∀ s∈r.rhs,s.nt<0→T s)→(∀ s∈r.rhs,0≤s.nt→NN T rules s.nt)→NN T rules r.lhs
def bit (m:List Bool) (i:Int):Bool:=m.getD i.toNat false
theorem g6 {m:List Bool} {i:Int} (h0:0≤i) (h1:i<m.length):bit m i=m[i.toNat]'om:=by{
unfold bit
rw[List.getD_eq_getElem?_getD,List.getElem?_eq_getElem (by omega:i.toNat<m.length)]
rfl}
theorem Ah {m:List Bool} {i j:Int} {b:Bool} (h0:0≤i) (h1:i<m.length) (j0:0≤j):bit (m.set i.toNat b) j=if i=j then b else bit m j:=by{
unfold bit
simp only[List.getD_eq_getElem?_getD,List.getElem?_set]
by_cases h:i=j
·subst h
 rw[if_pos rfl,if_pos rfl,if_pos om]
 rfl
·rw[if_neg om,if_neg h]}
theorem H0 {n:Nat} {i:Int}:bit (List.replicate n false) i=false:=by{
unfold bit
rw[List.getD_eq_getElem?_getD,List.getElem?_replicate]
split<;>rfl}
def Marks (n:Int) (D:Int→Prop) (m:List Bool):Prop:=(m.length:Int)=n∧∀ i:Int,0≤i→i<n→(bit m i=true↔D i)
theorem Marks.eq {n:Int} {D:Int→Prop} {m m':List Bool} (h:Marks n D m) (h':Marks n D m'):m=m':=by{
have hl:m.length=m'.length:=by have:=h.1;have:=h'.1;omega
refine List.ext_getElem hl fun i h1 h2=>?_
have a1:=h.2 i om (by have:=h.1;omega)
have a2:=h'.2 i om (by have:=h.1;omega)
rw[g6 om om] at a1 a2
simp only[Int.toNat_natCast] at a1 a2
cases hm:m[i]<;>cases hm':m'[i]<;>simp_all}
def A0 (h h':ah) (v:Value) (n:Nat) (cells:List Value) (et:TypeId):Prop:=∃ id au,h.length≤id∧v = .slice (some ⟨id,0,some au⟩) n n∧h'[id]? = some (.aj cells au true et)
abbrev IL (h h':ah) (v:Value) (m:List Bool):Prop:=A0 h h' v m.length (m.map Value.bool) 4
theorem IL.rd {h h':ah} {v:Value} {m:List Bool} (k:IL h h' v m) (hl:m.length≤1000000):pX h' v m:=by
 obtain⟨id,au,h1,h2,h3⟩:=k
 exact⟨by omega,.inr ⟨id,au,true,_,h2,h3⟩⟩
def TJ (g:fc):Prop:=¬ LF g
structure iW (g:fc):Prop where
 n1:1≤g.fk
 n2:g.fk≤4096
 s1:0≤g.start
 s2:g.start<g.fk
 rl:g.rules.length≤8192
 r:∀ r∈g.rules,0≤r.lhs∧r.lhs<g.fk∧r.rhs.length≤80∧∀ s∈r.rhs,-1≤s.nt∧s.nt<g.fk∧(0≤s.nt→s.set=aZ.zero)
def aK (h hk:ah) (v:Value) (n:Nat) (cells:List Value) (et:TypeId):Prop:=(n=0∧cells=[]∧v = .slice none 0 0)∨A0 h hk v n cells et
def bX:Value→Nat→Bool
 | .slice (some a) _ _,j=>a.block == j
 | _,_=>false
section
variable {h hk:ah} {v:Value} {n b:Nat} {cells:List Value} {et:TypeId}
theorem aK.nil:aK h hk (.slice none 0 0) 0 [] et:=.inl ⟨rfl,rfl,rfl⟩
theorem aK.form (g:aK h hk v n cells et):∃ p c,v = .slice p n c:=by{
rcases g with ⟨rfl,_,rfl⟩ | ⟨id,au,_,rfl,_⟩
·exact⟨_,_,rfl⟩
·exact⟨_,_,rfl⟩}
theorem aK.sl (g:aK h hk v n cells et) (hb:n*b≤140737488355328):bW hk v n cells et b:=by{
rcases g with ⟨rfl,rfl,rfl⟩ | ⟨id,au,_,h2,h3⟩
·exact⟨hb,.inl ⟨.inl rfl,rfl,rfl⟩⟩
·exact⟨hb,.inr ⟨id,au,true,_,h2,h3⟩⟩}
theorem aK.mono {h':ah} (g:aK h hk v n cells et) (hp:∀ j o,bX v j=true→hk[j]? = some o→h'[j]? = some o):aK h h' v n cells et:=by{
rcases g with g|⟨id,au,h1,rfl,h3⟩
·exact .inl g
·exact .inr ⟨id,au,h1,rfl,hp _ _ (by simp [bX]) h3⟩}
theorem A0.mono {h':ah} (g:A0 h hk v n cells et) (hp:∀ j o,bX v j=true→hk[j]? = some o→h'[j]? = some o):A0 h h' v n cells et:=by
 obtain⟨id,au,h1,rfl,h3⟩:=g
 exact⟨id,au,h1,rfl,hp _ _ (by simp [bX]) h3⟩
theorem aK.lt (g:aK h hk v n cells et) {j:Nat} (hj:bX v j=true):h.length≤j∧j<hk.length:=by{
rcases g with ⟨_,_,rfl⟩ | ⟨id,au,h1,rfl,h3⟩
·simp [bX] at hj
·simp only[bX,beq_iff_eq] at hj
 subst hj
 exact⟨h1,cX h3⟩}
theorem aK.vV (g:aK h hk v n cells et) (hn:0<n):A0 h hk v n cells et:=by{
rcases g with ⟨h0,_⟩ | g
·omega
·exact g}
end
section
variable {all:Array Oper} {o:Oper} {r:List Oper} {s:St} {K:St→Prop}
theorem lf {x:Operand} {t y:Nat} {e:TypeId} {ti:TI} {v:Value} {cs cells:List Value} {n:Nat} {h:ah} (hw:aE all o s=some true) (ho:o.op = .call { callee:=.builtin .append,args:=#[x,.tmp y],argTypes:=#[t,t] }) (hu:env.P.underlying t=some (.slice e)) (ht:ar env.P e=some ti) (hs0:0<ti.size) (hz:(ti.zero.map fun z=>z.cells.size)=some ti.size) (hx:ev s x=some v) (hy:aS s.fr y = .nj cs 1) (G:aK h s.h v n cells e) (hp:h <+: s.h) (hl:cells.length=n*ti.size) (hc:cs.length=ti.size) (hb:(n+1)*ti.bytes≤140737488355328) (hn:n+1≤140737488355328) (k:∀ p c h',aK h h' (.slice p (n+1) c) (n+1) (cells++cs) e→h <+: h'→(∀ j o,bX v j=false→s.h[j]? = some o→h'[j]? = some o)→s.h.length≤h'.length→OW env all r ({ s with h:=h' }.aX o.dst (.val (.slice p (n+1) c))) K):OW env all (o :: r) s K:=by{
have hi:ct s s.h ti.size (.tmp y)=some (cs,1):=by simp only[ct,hy,hc,Nat.one_mul,if_true]
rcases G with ⟨rfl,rfl,rfl⟩ | ⟨id,au,h1,rfl,h3⟩
·refine mX hw ho hu ht hs0 hz hx hi (by decide) (by simpa using hb) (by decide) ?_
 exact k (some ⟨s.h.length,0,some 0⟩) 1 _ (.inr ⟨s.h.length,0,hp.length_le,rfl,by simp⟩) (cS hp) (fun j o _ h=>bo h) (by simp)
·refine oC hw ho hu ht hs0 hz hx h3 om hi hb hn ?_
 rw[List.take_of_length_le om]
 refine k (some ⟨id,0,some (au+1)⟩) (n+1) _ (.inr ⟨id,au+1,h1,rfl,aw h3⟩) (aY hp h1) (fun j o hj h=>?_) (by simp)
 simp only[bX,beq_eq_false_iff_ne] at hj
 rw[aD hj]
 exact h}
theorem wS {x:Operand} {y:Nat} {v:Value} {l:List Int} {b:Int} {h:ah} (hw:aE all o s=some true) (ho:o.op = .call { callee:=.builtin .append,args:=#[x,.tmp y],argTypes:=#[39,39] }) (hx:ev s x=some v) (hy:aS s.fr y = .nj [i64 b] 1) (G:aK h s.h v l.length (l.map i64) 3) (hp:h <+: s.h) (hn:l.length≤1000000) (k:∀ p c h',aK h h' (.slice p (l.length+1) c) (l++[b]).length ((l++[b]).map i64) 3→h <+: h'→(∀ j o,bX v j=false→s.h[j]? = some o→h'[j]? = some o)→s.h.length≤h'.length→OW env all r ({ s with h:=h' }.aX o.dst (.val (.slice p (l.length+1) c))) K):OW env all (o :: r) s K:=by{
refine lf hw ho kr Mo (by decide) rfl hx hy G hp (by simp) rfl (by simp only;omega) om fun p c h' h1 h2 h3 h4=>k p c h' ?_ h2 h3 h4
rw[List.map_append,List.length_append]
exact h1}
theorem cz {t:TypeId} {cs:List Value} {n:Nat} (hw:aE all o s=some true) (hm:ja env s o.op=some (t,cs,n)) (k:OW env all r ({ s with h:=s.h++[av.aj cs 0 true t] }.aX o.dst (.val (.slice (some ⟨s.h.length,0,some 0⟩) n n))) K):OW env all (o :: r) s K:=by{
unfold OW at k ⊢
obtain⟨s2,k1,k2⟩:=k
exact⟨s2,.nN hw hm k1,k2⟩}
end
theorem EF:∀ {m m':List Bool},m.length=m'.length→(∀ (i:Nat) (h1:i<m.length) (h2:i<m'.length),m[i]=true→m'[i]=true)→m.count true≤m'.count true
 | [],[],_,_=>Nat.le_refl _
 | a :: m,b :: m',hl,hh=>by
   have ih:=EF (m:=m) (m':=m') (by simpa using hl) fun i h1 h2 h=>hh (i+1) (by simpa using h1) (by simpa using h2) h
   have h0:=hh 0 (by simp) (by simp)
   simp only[List.getElem_cons_zero] at h0
   rw[List.count_cons,List.count_cons]
   cases a<;>cases b<;>simp_all<;>omega
theorem yD:∀ {m m':List Bool},m.length=m'.length→(∀ (i:Nat) (h1:i<m.length) (h2:i<m'.length),m[i]=true→m'[i]=true)→(∃ (i:Nat) (h1:i<m.length) (h2:i<m'.length),m[i]=false∧m'[i]=true)→m.count true<m'.count true
 | [],[],_,_,⟨i,h1,_⟩=>by simp at h1
 | a :: m,b :: m',hl,hh,⟨i,h1,h2,h3,h4⟩=>by
   have hl':m.length=m'.length:=by simpa using hl
   have hh':∀ (i:Nat) (h1:i<m.length) (h2:i<m'.length),m[i]=true→m'[i]=true:=fun i h1 h2 h=>hh (i+1) (by simpa using h1) (by simpa using h2) h
   have h0:=hh 0 (by simp) (by simp)
   simp only[List.getElem_cons_zero] at h0
   rw[List.count_cons,List.count_cons]
   cases i with
   | zero=>
     simp only[List.getElem_cons_zero] at h3 h4
     subst h3 h4
     have:=EF hl' hh'
     simp
     omega
   | succ i=>
     have ih:=yD hl' hh' ⟨i,by simpa using h1,by simpa using h2,by simpa using h3,by simpa using h4⟩
     cases a<;>cases b<;>simp_all<;>omega
theorem v5 {m:List Bool} (h:m.length≤m.count true):∀ b∈m,b=true:=by{
have:m.count true=m.length:=Nat.le_antisymm List.count_le_length h
rw[List.count_eq_length] at this
exact fun b hb=>(this b hb).symm}
def Mp (n:Int) (m m':List Bool):Prop:=∀ i:Int,0≤i→i<n→bit m i=true→bit m' i=true
theorem Mp.get {n:Int} {m m':List Bool} (h:Mp n m m') (h1:(m.length:Int)=n) (h2:(m'.length:Int)=n):∀ (i:Nat) (h1:i<m.length) (h2:i<m'.length),m[i]=true→m'[i]=true:=by{
intro i k1 k2 k
have:=h i om om
rw[g6 om om,g6 om om] at this
exact this k}
def Rd (T:bd→Prop) (P:bd→List Bool→Bool):Prop:=∀ s m,P s m=true↔(s.nt<0→T s)∧(0≤s.nt→bit m s.nt=true)
def Sat (P:bd→List Bool→Bool) (m:List Bool) (r:dt):Prop:=∀ s∈r.rhs,P s m=true
def pT (P:bd→List Bool→Bool) (rules:List dt) (m:List Bool):Prop:=∀ r∈rules,Sat P m r→bit m r.lhs=true
def M2 (P:bd→List Bool→Bool) (g:fc) (m m':List Bool):Prop:=(m'.length:Int)=g.fk∧∀ i:Int,0≤i→i<g.fk→(bit m' i=true↔∃ r∈g.rules,r.lhs=i∧Sat P m r)
structure mi (T:bd→Prop) (P:bd→List Bool→Bool) (g:fc) (k:Nat) (m:List Bool):Prop where
 l:(m.length:Int)=g.fk
 s:∀ i:Int,0≤i→i<g.fk→bit m i=true→NN T g.rules i
 u:∀ i:Int,0≤i→i<g.fk→bit m i=true→∃ r∈g.rules,r.lhs=i∧Sat P m r
 c:k≤m.count true∨pT P g.rules m
section
variable {T:bd→Prop} {P:bd→List Bool→Bool} {g:fc} {m m':List Bool} {k:Nat}
theorem Sat.mono (hP:Rd T P) (R:iW g) {r:dt} (hr:r∈g.rules) (hle:Mp g.fk m m') (h:Sat P m r):Sat P m' r:=by{
intro s hs
have h1:=(hP s m).1 (h s hs)
obtain⟨_,_,_,hS⟩:=R.r r hr
have h2:=hS s hs
exact (hP s m').2 ⟨h1.1,fun h0=>hle _ h0 om (h1.2 h0)⟩}
theorem mi.start (hn:(m.length:Int)=g.fk) (h:∀ i,bit m i=false):mi T P g 0 m:=
 ⟨hn,fun i _ _ hb=>(by rw[h] at hb;cases hb),fun i _ _ hb=>(by rw[h] at hb;cases hb),.inl (Nat.zero_le _)⟩
theorem mi.step (hP:Rd T P) (R:iW g) (h:mi T P g k m) (hr:M2 P g m m'):mi T P g (k+1) m':=by{
have hle:Mp g.fk m m':=fun i h0 h1 hb=>(hr.2 i h0 h1).2 (h.u i h0 h1 hb)
refine⟨hr.1,fun i h0 h1 hb=>?_,fun i h0 h1 hb=>?_,?_⟩
·obtain⟨r,hr1,rfl,hS⟩:=(hr.2 i h0 h1).1 hb
 obtain⟨_,_,_,hS'⟩:=R.r r hr1
 exact .mk r hr1 (fun s hs=>((hP s m).1 (hS s hs)).1) (fun s hs k0=>h.s _ k0 (by have:=hS' s hs;omega) (((hP s m).1 (hS s hs)).2 k0))
·obtain⟨r,hr1,rfl,hS⟩:=(hr.2 i h0 h1).1 hb
 exact⟨r,hr1,rfl,hS.mono hP R hr1 hle⟩
·by_cases hc:pT P g.rules m
 ·have hge:Mp g.fk m' m:=fun i h0 h1 hb=>by
   obtain⟨r,hr1,rfl,hS⟩:=(hr.2 i h0 h1).1 hb
   exact hc r hr1 hS
  refine .inr fun r hr1 hS=>?_
  obtain⟨l1,l2,_⟩:=R.r r hr1
  exact (hr.2 _ l1 l2).2 ⟨r,hr1,rfl,hS.mono hP R hr1 hge⟩
 ·rcases h.c with h3|h3
  ·refine .inl ?_
   have:∃ r,r∈g.rules∧Sat P m r∧bit m r.lhs=false:=by
    refine Classical.byContradiction fun hn=>hc fun r hr1 hS=>?_
    cases hb:bit m r.lhs with
    | true=>rfl
    | false=>exact (hn ⟨r,hr1,hS,hb⟩).elim
   obtain⟨r,hr1,hS,hb⟩:=this
   obtain⟨l1,l2,_⟩:=R.r r hr1
   have hb':bit m' r.lhs=true:=(hr.2 _ l1 l2).2 ⟨r,hr1,rfl,hS⟩
   have hl:=h.l
   have hl':=hr.1
   have:m.count true<m'.count true:=by
    refine yD om (hle.get hl hl') ⟨r.lhs.toNat,by omega,by omega,?_,?_⟩
    ·rw[← g6 l1 om];exact hb
    ·rw[← g6 l1 om];exact hb'
   omega
  ·exact (hc h3).elim}
theorem pT.T6 (hP:Rd T P) (hc:pT P g.rules m) {i:Int} (hd:NN T g.rules i):bit m i=true:=by
 induction hd with
 | mk r hr hT hD ih=>exact hc r hr fun s hs=>(hP s m).2 ⟨hT s hs,fun h0=>ih s hs h0⟩
theorem mi.fin (hP:Rd T P) (R:iW g) (h:mi T P g k m) (hk:g.fk≤k):Marks g.fk (NN T g.rules) m:=by{
refine⟨h.l,fun i h0 h1=>⟨h.s i h0 h1,fun hd=>?_⟩⟩
have hl:=h.l
rcases h.c with hc|hc
·have:=v5 (m:=m) om
 rw[g6 h0 om]
 exact this _ (List.getElem_mem _)
·exact hc.T6 hP hd}
end
inductive Reached (g:fc):Int→Prop
 | start:Reached g g.start
 | step (r:dt) (s:bd):r∈g.rules→s∈r.rhs→0≤s.nt→Reached g r.lhs→Reached g s.nt
def EX (g:fc) (m:List Bool) (i:Int):Prop:=∀ r∈g.rules,r.lhs=i→∀ s∈r.rhs,0≤s.nt→bit m s.nt=true
def lR (m m':List Bool):Prop:=∀ i:Int,0≤i→bit m i=true→bit m' i=true
theorem lR.refl {m:List Bool}:lR m m:=fun _ _ h=>h
theorem lR.trans {a b c:List Bool} (h:lR a b) (k:lR b c):lR a c:=fun i h0 h1=>k i h0 (h i h0 h1)
theorem lR.set {m:List Bool} {i:Int} (h0:0≤i) (h1:i<m.length):lR m (m.set i.toNat true):=fun j j0 hj=>by
 rw[Ah h0 h1 j0]
 split
 ·rfl
 ·exact hj
theorem EX.mono {g:fc} {m m':List Bool} {i:Int} (h:EX g m i) (hl:lR m m'):EX g m' i:=fun r hr e s hs h0=>hl _ h0 (h r hr e s hs h0)
structure qT (g:fc) (m:List Bool) (l:List Int) (now:Int→Prop):Prop where
 n:(m.length:Int)=g.fk
 s:∀ i:Int,0≤i→bit m i=true→Reached g i
 st:bit m g.start=true
 li:∀ x∈l,0≤x∧x<g.fk∧bit m x=true
 p:∀ i:Int,0≤i→bit m i=true→i∈l∨now i∨EX g m i
theorem qT.fin {g:fc} {m:List Bool} (R:iW g) (h:qT g m [] fun _=>False):Marks g.fk (Reached g) m:=by{
refine⟨h.n,fun i h0 h1=>⟨h.s i h0,fun hr=>?_⟩⟩
clear h0 h1
induction hr with
| start=>exact h.st
| step r s hr hs h0 _ ih=>
  rcases h.p r.lhs (R.r r hr).1 ih with h1|h1|h1
  ·cases h1
  ·exact h1.elim
  ·exact h1 r hr rfl s hs h0}
theorem qT.pop {g:fc} {m:List Bool} {l:List Int} {x:Int} (h:qT g m (l++[x]) fun _=>False):qT g m l fun i=>i=x:=by{
refine⟨h.n,h.s,h.st,fun y hy=>h.li y (List.mem_append_left _ hy),fun i h0 h1=>?_⟩
rcases h.p i h0 h1 with k|k|k
·rw[List.mem_append] at k
 rcases k with k|k
 ·exact .inl k
 ·exact .inr (.inl (by simpa using k))
·exact k.elim
·exact .inr (.inr k)}
theorem qT.next {g:fc} {m:List Bool} {l:List Int} {x:Int} (h:qT g m l fun i=>i=x) (hp:EX g m x):qT g m l fun _=>False:=by{
refine⟨h.n,h.s,h.st,h.li,fun i h0 h1=>?_⟩
rcases h.p i h0 h1 with k|k|k
·exact .inl k
·exact .inr (.inr (k▸hp))
·exact .inr (.inr k)}
theorem qT.start {g:fc} {N:Nat} (R:iW g) (hN:g.fk=N):qT g ((List.replicate N false).set g.start.toNat true) [g.start] fun _=>False:=by{
have s1:=R.s1
have s2:=R.s2
have hb:∀ i:Int,0≤i→(bit ((List.replicate N false).set g.start.toNat true) i=true↔i=g.start):=fun i h0=>by
 rw[Ah s1 (by simp;omega) h0,H0]
 constructor
 ·intro h
  split at h
  ·rename_i e
   exact e.symm
  ·cases h
 ·rintro rfl
  rw[if_pos rfl]
refine⟨by simp [hN],fun i h0 h1=>(hb i h0).1 h1▸.start,(hb _ s1).2 rfl,fun x hx=>?_,fun i h0 h1=>?_⟩
·obtain rfl:x=_:=by simpa using hx
 exact⟨s1,s2,(hb _ s1).2 rfl⟩
·exact .inl (by simp [(hb i h0).1 h1])}
def Hj (g:fc) (m:List Bool):Prop:=∀ r∈g.rules,bit m r.lhs=true→∀ s∈r.rhs,0≤s.nt→bit m s.nt=true
structure jP (g:fc) (k:Nat) (m:List Bool):Prop where
 n:(m.length:Int)=g.fk
 s:∀ i:Int,0≤i→bit m i=true→Reached g i
 st:bit m g.start=true
 c:k+1≤m.count true∨Hj g m
structure LM (g:fc) (m:List Bool) (k:Nat) (m':List Bool):Prop where
 n:(m'.length:Int)=g.fk
 s:∀ i:Int,0≤i→bit m' i=true→Reached g i
 le:lR m m'
 d:∀ r∈g.rules.take k,bit m r.lhs=true→∀ s∈r.rhs,0≤s.nt→bit m' s.nt=true
theorem jP.start {g:fc} {N:Nat} (R:iW g) (hN:g.fk=N):jP g 0 ((List.replicate N false).set g.start.toNat true):=by{
have h:=qT.start R hN
have s1:=R.s1
refine⟨h.n,h.s,h.st,.inl ?_⟩
have h1:=h.st
have hn:=h.n
have s2:=R.s2
rw[g6 s1 om] at h1
exact List.count_pos_iff.2 (List.mem_iff_getElem.2 ⟨_,_,h1⟩)}
theorem jP.step {g:fc} {m m':List Bool} {k:Nat} (R:iW g) (h:jP g k m) (hr:LM g m g.rules.length m'):jP g (k+1) m':=by{
have hd:=hr.d
rw[List.take_length] at hd
refine⟨hr.n,hr.s,hr.le _ R.s1 h.st,?_⟩
have hl:=h.n
have hl':=hr.n
have hle:∀ (i:Nat) (h1:i<m.length) (h2:i<m'.length),m[i]=true→m'[i]=true:=Mp.get (n:=g.fk) (fun i h0 _=>hr.le i h0) hl hl'
by_cases hc:∃ i:Int,0≤i∧i<g.fk∧bit m i=false∧bit m' i=true
·rcases h.c with h3|h3
 ·obtain⟨i,h0,h1,h2,h4⟩:=hc
  have:=yD om hle ⟨i.toNat,by omega,by omega,by rw[← g6 h0 om];exact h2,by rw[← g6 h0 om];exact h4⟩
  exact .inl om
 ·-- what is closed stays: but something was added,which is reached: no
  obtain⟨i,h0,h1,h2,h4⟩:=hc
  have hre:=hr.s i h0 h4
  have:∀ j,Reached g j→bit m j=true:=fun j hj=>by
   induction hj with
   | start=>exact h.st
   | step r s hr hs h0 _ ih=>exact h3 r hr ih s hs h0
  rw[this i hre] at h2
  cases h2
·refine .inr fun r hr1 hb s hs h0=>?_
 obtain⟨l1,l2,_,hS⟩:=R.r r hr1
 have hs2:=hS s hs
 have hge:∀ i:Int,0≤i→i<g.fk→bit m' i=true→bit m i=true:=fun i h0 h1 hb=>by
  cases h:bit m i with
  | true=>rfl
  | false=>exact (hc ⟨i,h0,h1,h,hb⟩).elim
 exact hd r hr1 (hge _ l1 l2 hb) s hs h0}
theorem jP.fin {g:fc} {m:List Bool} {k:Nat} (R:iW g) (h:jP g k m) (hk:g.fk≤k+1):Marks g.fk (Reached g) m:=by{
have hl:=h.n
refine⟨h.n,fun i h0 h1=>⟨h.s i h0,fun hr=>?_⟩⟩
rcases h.c with hc|hc
·have:=v5 (m:=m) om
 rw[g6 h0 om]
 exact this _ (List.getElem_mem _)
·clear h0 h1
 induction hr with
 | start=>exact h.st
 | step r s hr hs h0 _ ih=>exact hc r hr ih s hs h0}
def qg (w:Int):Prop:=0≤w∧w<18446744073709551616
def qK (w:Int) (j:Nat):Bool:=w.toNat.testBit j
def aZ.word (s:aZ):Nat→Int
 | 0=>s.a
 | 1=>s.b
 | 2=>s.c
 | _=>s.d
def aZ.has (s:aZ) (n:Nat):Bool:=qK (s.word (n / 64)) (n % 64)
structure du (s:aZ):Prop where
 a:qg s.a
 b:qg s.b
 c:qg s.c
 d:qg s.d
theorem du.word {s:aZ} (h:du s) (i:Nat):qg (s.word i):=by{
match i with
| 0=>exact h.a
| 1=>exact h.b
| 2=>exact h.c
| n+3=>exact h.d}
theorem Ee {v w:Int} (hv:qg v) (hw:qg w) (h:∀ j,j<64→qK v j=qK w j):v=w:=by{
have:v.toNat=w.toNat:=by
 refine Nat.eq_of_testBit_eq fun j=>?_
 by_cases hj:j<64
 ·exact h j hj
 ·have e:∀ u:Int,qg u→u.toNat.testBit j=false:=fun u hu=>by
   refine Nat.testBit_lt_two_pow (Nat.lt_of_lt_of_le (m:=2 ^ 64) (by have:=hu.1;have:=hu.2;omega) (Nat.pow_le_pow_right (by decide) om))
  rw[e v hv,e w hw]
have:=hv.1
have:=hw.1
omega}
theorem aZ.ext {s t:aZ} (hs:du s) (ht:du t) (h:∀ n,n<256→s.has n=t.has n):s=t:=by{
have key:∀ i,i<4→s.word i=t.word i:=fun i hi=>Ee (hs.word i) (ht.word i) fun j hj=>by
 have:=h (i*64+j) om
 unfold aZ.has at this
 rwa [show (i*64+j) / 64=i by omega,show (i*64+j) % 64=j by omega] at this
have h0:=key 0 (by decide)
have h1:=key 1 (by decide)
have h2:=key 2 (by decide)
have h3:=key 3 (by decide)
cases s;cases t
simp only[aZ.word] at h0 h1 h2 h3
simp only[h0,h1,h2,h3]}
def ls (v w:Int):Int:=((v.toNat ||| w.toNat:Nat):Int)
theorem j1 {v w:Int} (hv:qg v) (hw:qg w):qg (ls v w):=by
 have:v.toNat ||| w.toNat<2 ^ 64:=Nat.or_lt_two_pow (by have:=hv.1;have:=hv.2;omega) (by have:=hw.1;have:=hw.2;omega)
 exact⟨Int.natCast_nonneg _,by unfold ls;omega⟩
theorem Ij {v w:Int} {j:Nat}:qK (ls v w) j=(qK v j||qK w j):=by
 unfold qK ls
 rw[Int.toNat_natCast,Nat.testBit_or]
theorem wrap_u64 {x:Int} (h:qg x):IntKind.u64.wrap x=x:=by{
have h1:=h.1
have h2:=h.2
unfold IntKind.wrap
simp only[IntKind.bits,IntKind.signed,Bool.false_and,Bool.false_eq_true,if_false]
omega}
theorem u4 {v w:Int} (hv:qg v) (hw:qg w):IntKind.u64.wrap ((BitVec.ofInt 64 v ||| BitVec.ofInt 64 w).toNat)=ls v w:=by{
have e:∀ u:Int,qg u→(BitVec.ofInt 64 u).toNat=u.toNat:=fun u hu=>by
 rw[BitVec.toNat_ofInt]
 have:=hu.1
 have:=hu.2
 congr 1
 exact Int.emod_eq_of_lt hu.1 (by simpa using hu.2)
rw[BitVec.toNat_or,e v hv,e w hw]
exact wrap_u64 (j1 hv hw)}
def aZ.union (s t:aZ):aZ:=⟨ls s.a t.a,ls s.b t.b,ls s.c t.c,ls s.d t.d⟩
theorem C7 {s t:aZ} (hs:du s) (ht:du t):du (s.union t):=⟨j1 hs.a ht.a,j1 hs.b ht.b,j1 hs.c ht.c,j1 hs.d ht.d⟩
theorem ow {s t:aZ} {n:Nat}:(s.union t).has n=(s.has n||t.has n):=by{
unfold aZ.has
have:(s.union t).word (n / 64)=ls (s.word (n / 64)) (t.word (n / 64)):=by
 match n / 64 with
 | 0=>rfl
 | 1=>rfl
 | 2=>rfl
 | k+3=>rfl
rw[this,Ij]}
theorem Hi:du aZ.zero:=⟨⟨by decide,by decide⟩,⟨by decide,by decide⟩,⟨by decide,by decide⟩,⟨by decide,by decide⟩⟩
theorem EE {n:Nat}:aZ.zero.has n=false:=by{
unfold aZ.has qK
have:aZ.zero.word (n / 64)=0:=by
 match n / 64 with
 | 0=>rfl
 | 1=>rfl
 | 2=>rfl
 | k+3=>rfl
rw[this]
simp}
theorem vJ {s:aZ} (hs:du s) (h:∀ n,n<256→s.has n=false):s=aZ.zero:=aZ.ext hs Hi fun n hn=>by rw[h n hn,EE]
theorem wt {w:Int} (hw:qg w) {j:Nat}:qK w j=decide (w / 2 ^ j % 2=1):=by{
have h0:=hw.1
obtain⟨x,rfl⟩:∃ x:Nat,w=x:=⟨w.toNat,by omega⟩
unfold qK
rw[Int.toNat_natCast,Nat.testBit_eq_decide_div_mod_eq]
have:(x:Int) / 2 ^ j % 2=((x / 2 ^ j % 2:Nat):Int):=by simp
rw[this]
by_cases h:x / 2 ^ j % 2=1
·rw[decide_eq_true h,decide_eq_true om]
·rw[decide_eq_false h,decide_eq_false om]}
def xk (D:Int→Prop) (s:bd):Prop:=0≤s.nt∧D s.nt
inductive Px (rules:List dt) (D:Int→Prop) (b:Nat):Int→Prop
 | mk (r:dt) (k:Nat) (hk:k<r.rhs.length):r∈rules→(∀ s∈r.rhs.take k,xk D s)→(r.rhs[k].nt<0→r.rhs[k].set.has b=true)→(0≤r.rhs[k].nt→Px rules D b r.rhs[k].nt)→Px rules D b r.lhs
def sS (l:List aZ) (i:Int):aZ:=l.getD i.toNat aZ.zero
theorem EP {l:List aZ} {i:Int} (h0:0≤i) (h1:i<l.length):sS l i=l[i.toNat]'om:=by{
unfold sS
rw[List.getD_eq_getElem?_getD,List.getElem?_eq_getElem (by omega:i.toNat<l.length)]
rfl}
def BQ (s t:aZ):Prop:=∀ b,b<256→s.has b=true→t.has b=true
theorem BQ.refl {s:aZ}:BQ s s:=fun _ _ h=>h
theorem BQ.trans {a b c:aZ} (h:BQ a b) (k:BQ b c):BQ a c:=fun i h0 h1=>k i h0 (h i h0 h1)
theorem BQ.left {s t:aZ}:BQ s (s.union t):=fun b _ h=>by rw[ow,h];rfl
theorem BQ.right {s t:aZ}:BQ t (s.union t):=fun b _ h=>by rw[ow,h,Bool.or_true]
def kJ (out:List aZ) (s:bd):aZ:=if s.nt<0 then s.set else sS out s.nt
structure FY (g:fc) (D:Int→Prop) (out:List aZ):Prop where
 n:(out.length:Int)=g.fk
 wf:∀ i:Int,0≤i→i<g.fk→du (sS out i)
 s:∀ i:Int,0≤i→i<g.fk→∀ b,b<256→(sS out i).has b=true→Px g.rules D b i
def uA (D:Int→Prop) (out:List aZ) (r:dt) (s:aZ):Prop:=∀ (k:Nat) (hk:k<r.rhs.length),(∀ x∈r.rhs.take k,xk D x)→BQ (kJ out r.rhs[k]) s
def uO (g:fc) (D:Int→Prop) (out:List aZ):Prop:=(out.length:Int)=g.fk∧∀ i:Int,0≤i→i<g.fk→du (sS out i)∧∀ b,b<256→((sS out i).has b=true↔Px g.rules D b i)
theorem FY.fin {g:fc} {D:Int→Prop} {out:List aZ} (R:iW g) (h:FY g D out) (hc:∀ r∈g.rules,uA D out r (sS out r.lhs)):uO g D out:=by{
refine⟨h.n,fun i h0 h1=>⟨h.wf i h0 h1,fun b hb=>⟨h.s i h0 h1 b hb,fun hf=>?_⟩⟩⟩
clear h0 h1
induction hf with
| mk r k hk hr hp hs hn ih=>
  refine hc r hr k hk hp b hb ?_
  unfold kJ
  split
  ·rename_i h0
   exact hs h0
  ·rename_i h0
   exact ih om}
theorem uO.eq {g:fc} {D:Int→Prop} {a b:List aZ} (ha:uO g D a) (hb:uO g D b):a=b:=by{
have hl:a.length=b.length:=by have:=ha.1;have:=hb.1;omega
refine List.ext_getElem hl fun i h1 h2=>?_
have hn:=ha.1
have a1:=ha.2 i om om
have a2:=hb.2 i om om
rw[EP om om] at a1 a2
simp only[Int.toNat_natCast] at a1 a2
refine aZ.ext a1.1 a2.1 fun n hn=>?_
have:=(a1.2 n hn).trans (a2.2 n hn).symm
cases h3:a[i].has n<;>cases h4:b[i].has n<;>simp_all}
def So (s:aZ):Nat:=((List.range 256).filter fun b=>!s.has b).length
def room (l:List aZ):Nat:=(l.map So).sum
structure vi (g:fc) (D:Int→Prop) (out:List aZ) (r:dt) (j:Nat) (s:aZ):Prop where
 wf:du s
 le:BQ (sS out r.lhs) s
 so:∀ b,b<256→s.has b=true→Px g.rules D b r.lhs
 c:∀ (k:Nat) (hk:k<r.rhs.length),k<j→(∀ x∈r.rhs.take k,xk D x)→BQ (kJ out r.rhs[k]) s
theorem vi.start {g:fc} {D:Int→Prop} {out:List aZ} {r:dt} (R:iW g) (h:FY g D out) (hr:r∈g.rules):vi g D out r 0 (sS out r.lhs):=by
 obtain⟨l1,l2,_⟩:=R.r r hr
 exact⟨h.wf _ l1 l2,.refl,h.s _ l1 l2,fun k _ hk=>by omega⟩
theorem vi.step {g:fc} {D:Int→Prop} {out:List aZ} {r:dt} {j:Nat} {s:aZ} (R:iW g) (hW:∀ r∈g.rules,∀ s∈r.rhs,du s.set) (h:FY g D out) (hr:r∈g.rules) (hp:vi g D out r j s) (hj:j<r.rhs.length) (hn:∀ x∈r.rhs.take j,xk D x) : vi g D out r (j+1) (s.union (kJ out r.rhs[j])):=by{
obtain⟨l1,l2,l3,hS⟩:=R.r r hr
have hs:=hS _ (List.getElem_mem hj)
have hw:du (kJ out r.rhs[j]):=by
 unfold kJ
 split
 ·exact hW r hr _ (List.getElem_mem hj)
 ·exact h.wf _ om om
refine⟨C7 hp.wf hw,hp.le.trans .left,fun b hb hh=>?_,fun k hk hkj hx=>?_⟩
·rw[ow,Bool.or_eq_true] at hh
 rcases hh with hh|hh
 ·exact hp.so b hb hh
 ·refine .mk r j hj hr hn (fun h0=>?_) fun h0=>?_
  ·unfold kJ at hh
   rwa [if_pos h0] at hh
  ·unfold kJ at hh
   rw[if_neg om] at hh
   exact h.s _ h0 hs.2.1 b hb hh
·rcases Nat.lt_or_ge k j with h1|h1
 ·exact (hp.c k hk h1 hx).trans .left
 ·obtain rfl:k=j:=by omega
  exact .right}
theorem vi.stop {g:fc} {D:Int→Prop} {out:List aZ} {r:dt} {j:Nat} {s:aZ} (hp:vi g D out r (j+1) s) (hj:j<r.rhs.length) (hn:¬ xk D r.rhs[j]):uA D out r s:=by{
intro k hk hx
rcases Nat.lt_or_ge k (j+1) with h1|h1
·exact hp.c k hk h1 hx
·refine (hn (hx _ ?_)).elim
 rw[List.mem_take_iff_getElem]
 exact⟨j,by omega,rfl⟩}
theorem vi.all {g:fc} {D:Int→Prop} {out:List aZ} {r:dt} {s:aZ} (hp:vi g D out r r.rhs.length s):uA D out r s:=fun k hk hx=>hp.c k hk hk hx
end Go.Proofs.YtmdmimkbpikmoaaGreat
