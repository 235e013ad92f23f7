/- Several texts, one behind the other. -/
import Derived.Test.YtmdmimkbpikmoaaGreatZTy
import Derived.DeepKeys
set_option linter.unusedSimpArgs false
set_option linter.unusedVariables false
set_option maxHeartbeats 8000000
namespace Go.Proofs.YtmdmimkbpikmoaaGreat
set_option maxRecDepth 20000
open Go.RowKit Am Ty
def Hk (l:List dG):Int:=(l.map fun r=>(r.rhs.length:Int)+1).sum
def a8.zero:a8:=⟨0,0,0,0⟩
def Ky (fx:Int) (s:be):Prop:=s.nt < -1∨fx≤s.nt∨(0≤s.nt∧s.set≠a8.zero)
def LZ (fx:Int) (r:dG):Prop:=r.lhs<0∨fx≤r.lhs∨80<r.rhs.length∨∃ s∈r.rhs,Ky fx s
def Ln (g:fu):Prop:=g.fx<1∨4096<g.fx∨g.start<0∨g.fx≤g.start∨8192<g.rules.length∨∃ r∈g.rules,LZ g.fx r
instance (fx:Int) (s:be):Decidable (Ky fx s):=by unfold Ky;infer_instance
instance (fx:Int) (r:dG):Decidable (LZ fx r):=by unfold LZ;infer_instance
instance (g:fu):Decidable (Ln g):=by unfold Ln;infer_instance
theorem II (a b:a8):jy a.cells b.cells=decide (a=b):=by
 cases a;cases b
 simp only[a8.cells,jy,mZ,Bool.and_true,a8.mk.injEq,Bool.decide_and]
theorem Fz (a b c d:Int) (s:a8):(decide (a=s.a)&&(decide (b=s.b)&&(decide (c=s.c)&&decide (d=s.d))))=decide (a8.mk a b c d=s):=by
 have:=II ⟨a,b,c,d⟩ s
 simpa only[a8.cells,jy,mZ,Bool.and_true] using this
attribute [push_cast] sd
theorem dE {cells l:List Value} {off n j:Nat} (h:js cells off n=some l) (hj:j<n):cells[off+j]? = l[j]?:=by{
unfold js uD at h
split at h
·cases h
 rw[List.getElem?_take_of_lt hj,List.getElem?_drop]
·cases h}
theorem fI {cells l:List Value} {off n:Nat} (h:js cells off n=some l) (hj:0<n):cells[off]? = l[0]?:=dE (j:=0) h hj
def Gd (g:fu) (lim:Int):Prop:=lim<g.fx∨lim<g.rules.length∨lim<g.fx+Hk g.rules
instance (g:fu) (lim:Int):Decidable (Gd g lim):=by unfold Gd;infer_instance
attribute [push_cast] s7
def lT (id:Nat) (h:ai) (u:Value) (l:List be):Prop:=∀ h':ai,(∀ j o,j≠id→h[j]? = some o→h'[j]? = some o)→ll h' u l
theorem lT.rd {id:Nat} {h:ai} {u:Value} {l:List be} (k:lT id h u l):ll h u l:=k h fun _ _ _ h=>h
theorem lT.mono {id:Nat} {h h':ai} {u:Value} {l:List be} (k:lT id h u l) (hh:∀ j o,j≠id→h[j]? = some o→h'[j]? = some o):lT id h' u l:=
 fun h2 h3=>k h2 fun j o hj ho=>h3 j o hj (hh j o hj ho)
abbrev SQ (p:dG×Value):List Value:=[i64 p.1.lhs,p.2]
def mX (h hk:ai) (u:Value) (l:List dG):Prop:=
 h <+: hk∧l.length≤1000000∧∃ us:List Value,us.length=l.length∧((l=[]∧u = .slice none 0 0)∨∃ id av,h.length≤id∧u = .slice (some ⟨id,0,some av⟩) l.length l.length ∧
   hk[id]? = some (.aq ((l.zip us).flatMap SQ) av true 63)∧∀ (i:Nat) (r:dG) (x:Value),l[i]? = some r→us[i]? = some x→lT id hk x r.rhs)
theorem iM {hk h1:ai} (hp:hk <+: h1):∀ {j:Nat} {o:ax},hk[j]? = some o→h1[j]? = some o:=fun h=>af hp h
theorem mX.grow {h hk h1:ai} {u:Value} {l:List dG} (b:mX h hk u l) (hp:hk <+: h1):mX h h1 u l:=by{
obtain⟨b1,b0,us,b2,b3⟩:=b
refine⟨b1.trans hp,b0,us,b2,?_⟩
rcases b3 with b3|⟨id,av,c1,c2,c3,c4⟩
·exact .inl b3
·exact .inr ⟨id,av,c1,c2,iM hp c3,fun i r x h1 h2=>(c4 i r x h1 h2).mono fun j o _ ho=>iM hp ho⟩}
theorem mX.rd {h hk:ai} {u:Value} {l:List dG} (b:mX h hk u l):gI hk u l:=by{
obtain⟨b1,b0,us,b2,b3⟩:=b
rcases b3 with ⟨rfl,rfl⟩ | ⟨id,av,c1,c2,c3,c4⟩
·exact⟨[],rfl,⟨by simp,.inl ⟨.inl rfl,rfl,rfl⟩⟩,fun i r u h=>by simp at h⟩
·exact⟨us,b2,⟨by omega,.inr ⟨id,av,true,_,c2,c3⟩⟩,fun i r x h1 h2=>(c4 i r x h1 h2).rd⟩}
theorem aJ {h:ai} {x:ax}:h <+: h++[x]:=⟨[x],rfl⟩
theorem aK {h:ai} {x:ax}:(h++[x])[h.length]? = some x:=by simp
def Qg {G:Type} (n k:Nat) (F:Nat→G→Fr) (H:Nat→G→ai) (I:Nat→G→Prop) (Q:AX→St→Prop):AX→St→Prop
 | .normal,s=>k<n∧∃ g,bD (F (k+1) g) s.fr∧s.h=H (k+1) g∧I (k+1) g
 | e,s=>Q e s
theorem aX {N:Env} {G:Type} {c:Code} {s:St} {Q:AX→St→Prop} (n:Nat) (F:Nat→G→Fr) (H:Nat→G→ai) (I:Nat→G→Prop) (g0:G) (h0:bD (F 0 g0) s.fr) (hh:s.h=H 0 g0) (hI:I 0 g0) (hs:∀ k g,k≤n→I k g→CW N c ⟨F k g,[],H k g⟩ (Qg n k F H I Q)):CW N (.loop c) s Q:=by{
refine rm (fun m s=>∃ k g,m=n-k∧k≤n∧bD (F k g) s.fr∧s.h=H k g∧I k g) n ⟨0,g0,rfl,Nat.zero_le _,h0,hh,hI⟩ ?_
rintro m s ⟨k,g,rfl,hk,hf,hh,hI⟩
refine aA _ hf ?_
rw[hh]
refine (hs k g hk hI).mono fun e s' hq=>?_
cases e with
| normal=>
  obtain⟨h1,g',h2,h3,h4⟩:=hq
  exact⟨n-(k+1),by omega,k+1,g',rfl,by omega,h2,h3,h4⟩
| exit id=>exact hq
| ret=>exact hq}
theorem mX.form {h hk:ai} {u:Value} {l:List dG} (b:mX h hk u l):∃ p c,u = .slice p l.length c:=by{
obtain⟨_,_,us,_,⟨rfl,rfl⟩ | ⟨id,av,_,rfl,_⟩⟩:=b
·exact⟨_,_,rfl⟩
·exact⟨_,_,rfl⟩}
theorem vT:Tryz.prog.underlying 54=some (.array 4 52):=by kernel_rfl
theorem Bi:Tryz.prog.underlying 52=some (.int .u64):=by kernel_rfl
theorem Hd:Tryz.prog.underlying 3=some (.int .i64):=by kernel_rfl
theorem BV:Tryz.prog.cellsOf 52=1:=by kernel_rfl
theorem yJ {xs:Array Value} {off:Nat} {v:Value} {w:World} (h:xs[off]? = some v):(part 52 xs off).run Tryz.prog w = .ok v w:=run_part_plain w kr h
theorem xb {xs:Array Value} {off:Nat} {v:Value} {w:World} (h:xs[off]? = some v):(part 3 xs off).run Tryz.prog w = .ok v w:=run_part_plain w kr h
theorem tZ (d:Nat) (xs ys:Array Value) (f g:Nat→Int) (w:World):∀ (is:List Nat),(∀ i∈is,xs[i]? = some (.int .u64 (f i))∧ys[i]? = some (.int .u64 (g i))) →
 (Op.eqItems (d+1) 52 1 xs ys is).run Tryz.prog w = .ok (is.all fun i=>decide (f i=g i)) w
 | [],_=>by simp [Op.eqItems]
 | i :: is,h=>by
   obtain⟨h1,h2⟩:=h i List.mem_cons_self
   have ih:=tZ d xs ys f g w is fun j hj=>h j (List.mem_cons_of_mem _ hj)
   simp only[Op.eqItems,Sem.run_bind,Nat.mul_one,yJ h1,yJ h2,Result.andThen_ok,run_equalIn_int w d _ _ _ _ _ Bi,List.all_cons]
   by_cases he:f i=g i
   ·simp only[he,beq_self_eq_true,Bool.not_true,Bool.false_eq_true,if_false,decide_true,Bool.true_and]
    exact ih
   ·simp [he]
theorem A9 (d:Nat) (a b c e a' b' c' e':Int) (w:World):(Op.equalIn (d+2) 54 (.agg #[.int .u64 a,.int .u64 b,.int .u64 c,.int .u64 e]) (.agg #[.int .u64 a',.int .u64 b',.int .u64 c',.int .u64 e'])).run Tryz.prog w = .ok (decide (a=a')&&(decide (b=b')&&(decide (c=c')&&decide (e=e')))) w:=by{
obtain⟨i,hi⟩:=info_of_underlying Bi
rw[run_equalIn_array w (d+1) _ _ vT hi,BV]
rw[tZ d _ _ (fun i=>[a,b,c,e].getD i 0) (fun i=>[a',b',c',e'].getD i 0) w]
·simp only[show List.range 4=[0,1,2,3] from rfl,List.all_cons,List.all_nil,Bool.and_true,List.getD_cons_zero,List.getD_cons_succ]
·intro i hi
 have:i=0∨i=1∨i=2∨i=3:=by simp at hi;omega
 rcases this with rfl|rfl|rfl|rfl<;>exact⟨rfl,rfl⟩}
theorem El (a b c e n:Int) (w:World):(part 54 #[.int .i64 n,.int .u64 a,.int .u64 b,.int .u64 c,.int .u64 e] 1).run Tryz.prog w = .ok (.agg #[.int .u64 a,.int .u64 b,.int .u64 c,.int .u64 e]) w:=by{
obtain⟨i,hi⟩:=info_of_underlying vT
have hs:(Tryz.prog.info? 54).map (·.size)=some 4:=by kernel_rfl
rw[hi] at hs
simp only[Option.map_some,Option.some.injEq] at hs
simp [part,jb vT,o7,bV hi,hs]}
noncomputable def NC (i:Nat):Option Field:=(Tryz.prog.fieldsOf 65)[i]?
theorem Im (d:Nat) (n a b c e n' a' b' c' e':Int) (w:World):(Op.equalIn (d+3) 65 (.agg #[.int .i64 n,.int .u64 a,.int .u64 b,.int .u64 c,.int .u64 e]) (.agg #[.int .i64 n',.int .u64 a',.int .u64 b',.int .u64 c',.int .u64 e'])).run Tryz.prog w = .ok (decide (n=n')&&(decide (a=a')&&(decide (b=b')&&(decide (c=c')&&decide (e=e'))))) w:=by{
obtain⟨f0,h0⟩:∃ f,NC 0=some f:=Option.isSome_iff_exists.1 kr
obtain⟨f1,h1⟩:∃ f,NC 1=some f:=Option.isSome_iff_exists.1 kr
have hsz:(Tryz.prog.fieldsOf 65).size=2:=by kernel_rfl
have hl:(Tryz.prog.fieldsOf 65).toList=[f0,f1]:=by
 apply List.ext_getElem?
 intro i
 match i with
 | 0=>simpa [NC] using h0
 | 1=>simpa [NC] using h1
 | i+2=>simp [hsz]
have t0:(NC 0).map (fun f=>(f.type,f.offset,f.name == "_"))=some (3,0,false):=by kernel_rfl
have t1:(NC 1).map (fun f=>(f.type,f.offset,f.name == "_"))=some (54,1,false):=by kernel_rfl
rw[h0] at t0
rw[h1] at t1
simp only[Option.map_some,Option.some.injEq,Prod.mk.injEq,beq_eq_false_iff_ne,ne_eq] at t0 t1
obtain⟨a1,a2,a3⟩:=t0
obtain⟨b1,b2,b3⟩:=t1
rw[run_equalIn_struct w (d+2) _ _ _ kr kr,hl]
simp only[Op.eqFields,a1,a2,a3,b1,b2,b3,ne_eq,not_false_eq_true,if_true,Sem.run_bind]
rw[xb (v:=.int .i64 n) rfl]
simp only[Result.andThen_ok]
rw[xb (v:=.int .i64 n') rfl]
simp only[Result.andThen_ok,run_equalIn_int w (d+1) _ _ _ _ _ Hd]
by_cases he:n=n'
·simp only[he,beq_self_eq_true,Bool.not_true,Bool.false_eq_true,if_false,decide_true,Bool.true_and,Sem.run_bind,El,Result.andThen_ok,A9]
 generalize (decide (a=a')&&(decide (b=b')&&(decide (c=c')&&decide (e=e'))))=r
 cases r<;>simp
·simp [he]}
theorem DL {l:List Value} (h:sd l=true):∃ a b c e,l=[.int .u64 a,.int .u64 b,.int .u64 c,.int .u64 e]:=by{
unfold sd at h
split at h
·exact⟨_,_,_,_,rfl⟩
·cases h}
theorem EF {l:List Value} (h:s7 l=true):∃ n a b c e,l=[.int .i64 n,.int .u64 a,.int .u64 b,.int .u64 c,.int .u64 e]:=by{
unfold s7 at h
split at h
·exact⟨_,_,_,_,_,rfl⟩
·cases h}
theorem tn {μ:Mu}:∀ {l l':List Value},(∀ v∈l,∃ k a,v = .int k a)→dD Tryz.prog μ l l'→l'=l
 | [],[],_,_=>rfl
 | v :: l,v' :: l',h,⟨h1,h2⟩=>by
   obtain⟨k,a,rfl⟩:=h v List.mem_cons_self
   rw[VR.int h1,tn (fun u hu=>h u (List.mem_cons_of_mem _ hu)) h2]
 | [],_ :: _,_,h=>h.elim
 | _ :: _,[],_,h=>h.elim
theorem wF {xs:Array Value} {l:List Value} (h:xs.toList=l):xs=l.toArray:=by rw[← h]
theorem EG:∀ t chk,env.JK t=some chk→DW Tryz.prog t chk∧∀ l l':List Value,∀ μ:Mu,dD Tryz.prog μ l l'→chk l=true→l'=l:=by{
intro t chk h
simp only[env] at h
split at h
·rename_i ht
 subst ht
 cases h
 refine⟨fun xs ys h1 h2=>⟨by kernel_rfl,fun w=>?_⟩,?_⟩
 ·obtain⟨a,b,c,e,hx⟩:=DL h1
  obtain⟨a',b',c',e',hy⟩:=DL h2
  rw[hx,hy,wF hx,wF hy]
  rw[show (10000:Nat)=9998+2 from rfl]
  rw[A9 9998]
  simp only[jy,mZ,Bool.and_true]
 ·intro l l' μ hv hc
  obtain⟨a,b,c,e,rfl⟩:=DL hc
  exact tn (by simp) hv
·split at h
 ·rename_i ht
  subst ht
  cases h
  refine⟨fun xs ys h1 h2=>⟨by kernel_rfl,fun w=>?_⟩,?_⟩
  ·obtain⟨n,a,b,c,e,hx⟩:=EF h1
   obtain⟨n',a',b',c',e',hy⟩:=EF h2
   rw[hx,hy,wF hx,wF hy]
   rw[show (10000:Nat)=9997+3 from rfl]
   rw[Im 9997]
   simp only[jy,mZ,Bool.and_true]
  ·intro l l' μ hv hc
   obtain⟨n,a,b,c,e,rfl⟩:=EF hc
   exact tn (by simp) hv
 ·exact AJ t chk h}
end Go.Proofs.YtmdmimkbpikmoaaGreat
namespace Go.Proofs.YtmdmimkbpikmoaaGreat
open Go.RowKit Am Ty
theorem Fi:(env.P.funcs.toList.all fun fn=>!(fn.name == "runtime.NumGoroutine"))=true:=by kernel_rfl
theorem A2:rA env (fun _=>true):=fun f fn _ hf=>by
 have:=List.all_eq_true.1 Fi fn (Array.mem_toList_iff.2 (Array.mem_of_getElem? hf))
 simpa using this
set_option maxRecDepth 100000
theorem uA:((nM env (fun _=>true) 200 10 26 [] []).map fun p=>p.1)=some (.bool true):=by kernel_rfl
end Go.Proofs.YtmdmimkbpikmoaaGreat
namespace Go.Proofs.YtmdmimkbpikmoaaGreat
set_option maxRecDepth 20000
open Go.RowKit Am Ty
def Vh {G:Type} (m:G→Nat) (F:G→Fr) (H:G→ai) (I:G→Prop) (g:G) (Q:AX→St→Prop):AX→St→Prop
 | .normal,s=>∃ g',m g'<m g∧bD (F g') s.fr∧s.h=H g'∧I g'
 | e,s=>Q e s
theorem fl {N:Env} {G:Type} {c:Code} {s:St} {Q:AX→St→Prop} (m:G→Nat) (F:G→Fr) (H:G→ai) (I:G→Prop) (g0:G) (h0:bD (F g0) s.fr) (hh:s.h=H g0) (hI:I g0) (hs:∀ g,I g→CW N c ⟨F g,[],H g⟩ (Vh m F H I g Q)):CW N (.loop c) s Q:=by{
refine rm (fun n s=>∃ g,n=m g∧bD (F g) s.fr∧s.h=H g∧I g) (m g0) ⟨g0,rfl,h0,hh,hI⟩ ?_
rintro n s ⟨g,rfl,hf,hh,hI⟩
refine aA _ hf ?_
rw[hh]
refine (hs g hI).mono fun e s' hq=>?_
cases e with
| normal=>
  obtain⟨g',h1,h2,h3,h4⟩:=hq
  exact⟨m g',h1,g',rfl,h2,h3,h4⟩
| exit id=>exact hq
| ret=>exact hq}
theorem dt {h H:ai} {x:ax} (hp:h <+: H):h <+: H++[x]:=hp.trans aJ
theorem aZ {h H:ai} {id:Nat} {x:ax} (hp:h <+: H) (hi:h.length≤id):h <+: H.set id x:=by
 obtain⟨tl,rfl⟩:=hp
 rw[List.prefix_iff_eq_take,List.take_set_of_le hi,List.take_left]
theorem aD {H:ai} {i j:Nat} {x:ax} (h:i≠j):(H.set i x)[j]? = H[j]?:=List.getElem?_set_ne h
theorem aw {H:ai} {i:Nat} {x y:ax} (h:H[i]? = some y):(H.set i x)[i]? = some x:=List.getElem?_set_self (List.getElem?_eq_some_iff.1 h).1
theorem dw {H:ai} {i:Nat} {y:ax} (h:H[i]? = some y):i<H.length:=(List.getElem?_eq_some_iff.1 h).1
theorem bA {H:ai} {x:ax} {i:Nat} {y:ax} (h:H[i]? = some y):(H++[x])[i]? = some y:=iM aJ h
theorem EJ {α:Type} {f:α→Value} {l:List α} {i:Nat} {x:α} (hi:i<l.length):lL (l.map f) i [f x]=some ((l.set i x).map f):=by{
unfold lL
rw[if_pos (by simp only[List.length_map,List.length_singleton];omega)]
congr 1
rw[List.set_eq_take_append_cons_drop,if_pos hi]
simp}
theorem bU {α:Type} {f:α→List Value} {k:Nat} (hf:∀ x,(f x).length=k):∀ l:List α,(l.flatMap f).length=l.length*k
 | []=>by simp
 | x :: l=>by simp only[List.flatMap_cons,List.length_append,hf,bU hf l,List.length_cons,Nat.succ_mul];omega
theorem Bw {α:Type} {f:α→List Value} {k:Nat} (hf:∀ x,(f x).length=k) {l:List α} {i:Nat} {x:α} (hi:i<l.length):lL (l.flatMap f) (i*k) (f x)=some ((l.set i x).flatMap f):=by{
have h1:(i+1)*k≤l.length*k:=Nat.mul_le_mul_right k hi
have h2:(i+1)*k=i*k+k:=Nat.succ_mul i k
unfold lL
rw[if_pos (by rw[bU hf,hf];omega),hf]
congr 1
rw[List.set_eq_take_append_cons_drop,if_pos hi,List.flatMap_append,List.flatMap_cons]
have e:l.flatMap f=(l.take i).flatMap f++(f l[i]++(l.drop (i+1)).flatMap f):=by
 conv=>lhs;rw[← List.take_append_drop i l,List.flatMap_append,List.drop_eq_getElem_cons hi,List.flatMap_cons]
have hti:((l.take i).flatMap f).length=i*k:=by rw[bU hf,List.length_take,Nat.min_eq_left om]
rw[e]
simp only[List.append_assoc]
rw[List.take_left' hti,← hti,List.drop_append,List.drop_of_length_le om,show (List.flatMap f (List.take i l)).length+k-(List.flatMap f (List.take i l)).length=k by omega,← hf l[i],List.drop_left,List.nil_append]}
theorem Cs {n:Nat} {v:Value}:(List.replicate n [v]).flatten=List.replicate n v:=by{
induction n with
| zero=>rfl
| succ n ih=>rw[List.replicate_succ,List.flatten_cons,ih,List.replicate_succ];rfl}
theorem HN {α:Type} {f:α→Value} {n:Nat} {x:α}:List.replicate n (f x)=(List.replicate n x).map f:=by simp
theorem F9 {α:Type} {f:α→List Value} {n:Nat} {x:α}:(List.replicate n (f x)).flatten=(List.replicate n x).flatMap f:=by{
induction n with
| zero=>rfl
| succ n ih=>rw[List.replicate_succ,List.flatten_cons,ih,List.replicate_succ,List.flatMap_cons]}
section
variable {all:Array Oper} {o:Oper} {r:List Oper} {s:St} {K:St→Prop}
theorem E8 {x:Operand} {t e:TypeId} {ti:TI} {z:Value} {n:Int} {N:Nat} {cs:List Value} (hw:aE all o s=some true) (ho:o.op = .makeSlice t x x) (hx:ev s x=some (i64 n)) (hN:n=N) (hu:env.P.underlying t=some (.slice e)) (ht:au env.P e=some ti) (hz:ti.zero=some z) (hp:(fL z&&z.cells.toList.all one&&decide (z.cells.size=ti.size)&&decide (0<ti.size))=true) (hb:N*ti.bytes≤140737488355328) (hN2:N≤140737488355328) (hcs:(List.replicate N z.cells.toList).flatten=cs) (k:OW env all r ({ s with h:=s.h++[ax.aq cs 0 true e] }.a9 o.dst (.val (.slice (some ⟨s.h.length,0,some 0⟩) N N))) K):OW env all (o :: r) s K:=by{
subst hN hcs
refine NW hw ?_ k
rw[ho]
have h1:(ti.bytes:Int)*(N:Int)≤140737488355328:=by
 have:((N*ti.bytes:Nat):Int)≤140737488355328:=by omega
 rw[Int.natCast_mul,Int.mul_comm] at this
 exact this
have h2:(N:Int)≤140737488355328:=by omega
unfold yW
simp only[hu,hx,ht,hz]
rw[if_pos (by rw[hp,decide_eq_true trivial,decide_eq_true (Int.natCast_nonneg N),decide_eq_true h1,decide_eq_true h2];rfl),Int.toNat_natCast]}
theorem DP {x:Operand} {n:Int} {N:Nat} (hw:aE all o s=some true) (ho:o.op = .makeSlice 39 x x) (hx:ev s x=some (i64 n)) (hN:n=N) (hN2:N≤1000000)
 (k:OW env all r ({ s with h:=s.h++[ax.aq ((List.replicate N (0:Int)).map i64) 0 true 3] }.a9 o.dst (.val (.slice (some ⟨s.h.length,0,some 0⟩) N N))) K):OW env all (o :: r) s K:=by
 refine E8 hw ho hx hN kr NN rfl (by rfl) (by simp only;omega) om (by rw[← HN];exact Cs) k
theorem Ga {x:Operand} {n:Int} {N:Nat} (hw:aE all o s=some true) (ho:o.op = .makeSlice 38 x x) (hx:ev s x=some (i64 n)) (hN:n=N) (hN2:N≤1000000)
 (k:OW env all r ({ s with h:=s.h++[ax.aq ((List.replicate N (⟨0,0,0,0⟩:a8)).flatMap a8.cells) 0 true 54] }.a9 o.dst (.val (.slice (some ⟨s.h.length,0,some 0⟩) N N))) K):OW env all (o :: r) s K:=by
 refine E8 hw ho hx hN kr RV rfl (by rfl) (by simp only;omega) om (F9 (f:=a8.cells) (n:=N) (x:=⟨0,0,0,0⟩)) k
end
inductive RK (T:be→Prop) (rules:List dG):Int→Prop
 | mk (r:dG):r∈rules→(∀ s∈r.rhs,s.nt<0→T s)→(∀ s∈r.rhs,0≤s.nt→RK T rules s.nt)→RK T rules r.lhs
def bit (m:List Bool) (i:Int):Bool:=m.getD i.toNat false
theorem iz {m:List Bool} {i:Int} (h0:0≤i) (h1:i<m.length):bit m i=m[i.toNat]'om:=by{
unfold bit
rw[List.getD_eq_getElem?_getD,List.getElem?_eq_getElem (by omega:i.toNat<m.length)]
rfl}
theorem Bu {m:List Bool} {i j:Int} {b:Bool} (h0:0≤i) (h1:i<m.length) (j0:0≤j):bit (m.set i.toNat b) j=if i=j then b else bit m j:=by{
unfold bit
simp only[List.getD_eq_getElem?_getD,List.getElem?_set]
by_cases h:i=j
·subst h
 rw[if_pos rfl,if_pos rfl,if_pos om]
 rfl
·rw[if_neg om,if_neg h]}
theorem Ht {n:Nat} {i:Int}:bit (List.replicate n false) i=false:=by{
unfold bit
rw[List.getD_eq_getElem?_getD,List.getElem?_replicate]
split<;>rfl}
def Marks (n:Int) (D:Int→Prop) (m:List Bool):Prop:=(m.length:Int)=n∧∀ i:Int,0≤i→i<n→(bit m i=true↔D i)
theorem Marks.eq {n:Int} {D:Int→Prop} {m m':List Bool} (h:Marks n D m) (h':Marks n D m'):m=m':=by{
have hl:m.length=m'.length:=by have:=h.1;have:=h'.1;omega
refine List.ext_getElem hl fun i h1 h2=>?_
have a1:=h.2 i om (by have:=h.1;omega)
have a2:=h'.2 i om (by have:=h.1;omega)
rw[iz om om] at a1 a2
simp only[Int.toNat_natCast] at a1 a2
cases hm:m[i]<;>cases hm':m'[i]<;>simp_all}
def C3 (h h':ai) (v:Value) (n:Nat) (cells:List Value) (et:TypeId):Prop:=∃ id av,h.length≤id∧v = .slice (some ⟨id,0,some av⟩) n n∧h'[id]? = some (.aq cells av true et)
abbrev JT (h h':ai) (v:Value) (m:List Bool):Prop:=C3 h h' v m.length (m.map Value.bool) 4
theorem JT.rd {h h':ai} {v:Value} {m:List Bool} (k:JT h h' v m) (hl:m.length≤1000000):rr h' v m:=by
 obtain⟨id,av,h1,h2,h3⟩:=k
 exact⟨by omega,.inr ⟨id,av,true,_,h2,h3⟩⟩
def U0 (g:fu):Prop:=¬ Ln g
structure jk (g:fu):Prop where
 n1:1≤g.fx
 n2:g.fx≤4096
 s1:0≤g.start
 s2:g.start<g.fx
 rl:g.rules.length≤8192
 r:∀ r∈g.rules,0≤r.lhs∧r.lhs<g.fx∧r.rhs.length≤80∧∀ s∈r.rhs,-1≤s.nt∧s.nt<g.fx∧(0≤s.nt→s.set=a8.zero)
def aL (h hk:ai) (v:Value) (n:Nat) (cells:List Value) (et:TypeId):Prop:=(n=0∧cells=[]∧v = .slice none 0 0)∨C3 h hk v n cells et
def bX:Value→Nat→Bool
 | .slice (some a) _ _,j=>a.block == j
 | _,_=>false
section
variable {h hk:ai} {v:Value} {n b:Nat} {cells:List Value} {et:TypeId}
theorem aL.nil:aL h hk (.slice none 0 0) 0 [] et:=.inl ⟨rfl,rfl,rfl⟩
theorem aL.form (g:aL h hk v n cells et):∃ p c,v = .slice p n c:=by{
rcases g with ⟨rfl,_,rfl⟩ | ⟨id,av,_,rfl,_⟩
·exact⟨_,_,rfl⟩
·exact⟨_,_,rfl⟩}
theorem aL.sl (g:aL h hk v n cells et) (hb:n*b≤140737488355328):bT hk v n cells et b:=by{
rcases g with ⟨rfl,rfl,rfl⟩ | ⟨id,av,_,h2,h3⟩
·exact⟨hb,.inl ⟨.inl rfl,rfl,rfl⟩⟩
·exact⟨hb,.inr ⟨id,av,true,_,h2,h3⟩⟩}
theorem aL.mono {h':ai} (g:aL h hk v n cells et) (hp:∀ j o,bX v j=true→hk[j]? = some o→h'[j]? = some o):aL h h' v n cells et:=by{
rcases g with g|⟨id,av,h1,rfl,h3⟩
·exact .inl g
·exact .inr ⟨id,av,h1,rfl,hp _ _ (by simp [bX]) h3⟩}
theorem C3.mono {h':ai} (g:C3 h hk v n cells et) (hp:∀ j o,bX v j=true→hk[j]? = some o→h'[j]? = some o):C3 h h' v n cells et:=by
 obtain⟨id,av,h1,rfl,h3⟩:=g
 exact⟨id,av,h1,rfl,hp _ _ (by simp [bX]) h3⟩
theorem aL.lt (g:aL h hk v n cells et) {j:Nat} (hj:bX v j=true):h.length≤j∧j<hk.length:=by{
rcases g with ⟨_,_,rfl⟩ | ⟨id,av,h1,rfl,h3⟩
·simp [bX] at hj
·simp only[bX,beq_iff_eq] at hj
 subst hj
 exact⟨h1,dw h3⟩}
theorem aL.wJ (g:aL h hk v n cells et) (hn:0<n):C3 h hk v n cells et:=by{
rcases g with ⟨h0,_⟩ | g
·omega
·exact g}
end
section
variable {all:Array Oper} {o:Oper} {r:List Oper} {s:St} {K:St→Prop}
theorem lU {x:Operand} {t y:Nat} {e:TypeId} {ti:TI} {v:Value} {cs cells:List Value} {n:Nat} {h:ai} (hw:aE all o s=some true) (ho:o.op = .call { callee:=.builtin .append,args:=#[x,.tmp y],argTypes:=#[t,t] }) (hu:env.P.underlying t=some (.slice e)) (ht:au env.P e=some ti) (hs0:0<ti.size) (hz:(ti.zero.map fun z=>z.cells.size)=some ti.size) (hx:ev s x=some v) (hy:aW s.fr y = .nz cs 1) (G:aL h s.h v n cells e) (hp:h <+: s.h) (hl:cells.length=n*ti.size) (hc:cs.length=ti.size) (hb:(n+1)*ti.bytes≤140737488355328) (hn:n+1≤140737488355328) (k:∀ p c h',aL h h' (.slice p (n+1) c) (n+1) (cells++cs) e→h <+: h'→(∀ j o,bX v j=false→s.h[j]? = some o→h'[j]? = some o)→s.h.length≤h'.length→OW env all r ({ s with h:=h' }.a9 o.dst (.val (.slice p (n+1) c))) K):OW env all (o :: r) s K:=by{
have hi:cJ s s.h ti.size (.tmp y)=some (cs,1):=by simp only[cJ,hy,hc,Nat.one_mul,if_true]
rcases G with ⟨rfl,rfl,rfl⟩ | ⟨id,av,h1,rfl,h3⟩
·refine nk hw ho hu ht hs0 hz hx hi (by decide) (by simpa using hb) (by decide) ?_
 exact k (some ⟨s.h.length,0,some 0⟩) 1 _ (.inr ⟨s.h.length,0,hp.length_le,rfl,by simp⟩) (dt hp) (fun j o _ h=>bA h) (by simp)
·refine o8 hw ho hu ht hs0 hz hx h3 om hi hb hn ?_
 rw[List.take_of_length_le om]
 refine k (some ⟨id,0,some (av+1)⟩) (n+1) _ (.inr ⟨id,av+1,h1,rfl,aw h3⟩) (aZ hp h1) (fun j o hj h=>?_) (by simp)
 simp only[bX,beq_eq_false_iff_ne] at hj
 rw[aD hj]
 exact h}
theorem yc {x:Operand} {y:Nat} {v:Value} {l:List Int} {b:Int} {h:ai} (hw:aE all o s=some true) (ho:o.op = .call { callee:=.builtin .append,args:=#[x,.tmp y],argTypes:=#[39,39] }) (hx:ev s x=some v) (hy:aW s.fr y = .nz [i64 b] 1) (G:aL h s.h v l.length (l.map i64) 3) (hp:h <+: s.h) (hn:l.length≤1000000) (k:∀ p c h',aL h h' (.slice p (l.length+1) c) (l++[b]).length ((l++[b]).map i64) 3→h <+: h'→(∀ j o,bX v j=false→s.h[j]? = some o→h'[j]? = some o)→s.h.length≤h'.length→OW env all r ({ s with h:=h' }.a9 o.dst (.val (.slice p (l.length+1) c))) K):OW env all (o :: r) s K:=by{
refine lU hw ho kr NN (by decide) rfl hx hy G hp (by simp) rfl (by simp only;omega) om fun p c h' h1 h2 h3 h4=>k p c h' ?_ h2 h3 h4
rw[List.map_append,List.length_append]
exact h1}
theorem cV {t:TypeId} {cs:List Value} {n:Nat} (hw:aE all o s=some true) (hm:jr env s o.op=some (t,cs,n)) (k:OW env all r ({ s with h:=s.h++[ax.aq cs 0 true t] }.a9 o.dst (.val (.slice (some ⟨s.h.length,0,some 0⟩) n n))) K):OW env all (o :: r) s K:=by{
unfold OW at k ⊢
obtain⟨s2,k1,k2⟩:=k
exact⟨s2,.pd hw hm k1,k2⟩}
end
theorem ER:∀ {m m':List Bool},m.length=m'.length→(∀ (i:Nat) (h1:i<m.length) (h2:i<m'.length),m[i]=true→m'[i]=true)→m.count true≤m'.count true
 | [],[],_,_=>Nat.le_refl _
 | a :: m,b :: m',hl,hh=>by
   have ih:=ER (m:=m) (m':=m') (by simpa using hl) fun i h1 h2 h=>hh (i+1) (by simpa using h1) (by simpa using h2) h
   have h0:=hh 0 (by simp) (by simp)
   simp only[List.getElem_cons_zero] at h0
   rw[List.count_cons,List.count_cons]
   cases a<;>cases b<;>simp_all<;>omega
theorem Ai:∀ {m m':List Bool},m.length=m'.length→(∀ (i:Nat) (h1:i<m.length) (h2:i<m'.length),m[i]=true→m'[i]=true)→(∃ (i:Nat) (h1:i<m.length) (h2:i<m'.length),m[i]=false∧m'[i]=true)→m.count true<m'.count true
 | [],[],_,_,⟨i,h1,_⟩=>by simp at h1
 | a :: m,b :: m',hl,hh,⟨i,h1,h2,h3,h4⟩=>by
   have hl':m.length=m'.length:=by simpa using hl
   have hh':∀ (i:Nat) (h1:i<m.length) (h2:i<m'.length),m[i]=true→m'[i]=true:=fun i h1 h2 h=>hh (i+1) (by simpa using h1) (by simpa using h2) h
   have h0:=hh 0 (by simp) (by simp)
   simp only[List.getElem_cons_zero] at h0
   rw[List.count_cons,List.count_cons]
   cases i with
   | zero=>
     simp only[List.getElem_cons_zero] at h3 h4
     subst h3 h4
     have:=ER hl' hh'
     simp
     omega
   | succ i=>
     have ih:=Ai hl' hh' ⟨i,by simpa using h1,by simpa using h2,by simpa using h3,by simpa using h4⟩
     cases a<;>cases b<;>simp_all<;>omega
theorem x8 {m:List Bool} (h:m.length≤m.count true):∀ b∈m,b=true:=by{
have:m.count true=m.length:=Nat.le_antisymm List.count_le_length h
rw[List.count_eq_length] at this
exact fun b hb=>(this b hb).symm}
def NH (n:Int) (m m':List Bool):Prop:=∀ i:Int,0≤i→i<n→bit m i=true→bit m' i=true
theorem NH.get {n:Int} {m m':List Bool} (h:NH n m m') (h1:(m.length:Int)=n) (h2:(m'.length:Int)=n):∀ (i:Nat) (h1:i<m.length) (h2:i<m'.length),m[i]=true→m'[i]=true:=by{
intro i k1 k2 k
have:=h i om om
rw[iz om om,iz om om] at this
exact this k}
def Sl (T:be→Prop) (P:be→List Bool→Bool):Prop:=∀ s m,P s m=true↔(s.nt<0→T s)∧(0≤s.nt→bit m s.nt=true)
def Sat (P:be→List Bool→Bool) (m:List Bool) (r:dG):Prop:=∀ s∈r.rhs,P s m=true
def rj (P:be→List Bool→Bool) (rules:List dG) (m:List Bool):Prop:=∀ r∈rules,Sat P m r→bit m r.lhs=true
def QT (P:be→List Bool→Bool) (g:fu) (m m':List Bool):Prop:=(m'.length:Int)=g.fx∧∀ i:Int,0≤i→i<g.fx→(bit m' i=true↔∃ r∈g.rules,r.lhs=i∧Sat P m r)
structure mH (T:be→Prop) (P:be→List Bool→Bool) (g:fu) (k:Nat) (m:List Bool):Prop where
 l:(m.length:Int)=g.fx
 s:∀ i:Int,0≤i→i<g.fx→bit m i=true→RK T g.rules i
 u:∀ i:Int,0≤i→i<g.fx→bit m i=true→∃ r∈g.rules,r.lhs=i∧Sat P m r
 c:k≤m.count true∨rj P g.rules m
section
variable {T:be→Prop} {P:be→List Bool→Bool} {g:fu} {m m':List Bool} {k:Nat}
theorem Sat.mono (hP:Sl T P) (R:jk g) {r:dG} (hr:r∈g.rules) (hle:NH g.fx m m') (h:Sat P m r):Sat P m' r:=by{
intro s hs
have h1:=(hP s m).1 (h s hs)
obtain⟨_,_,_,hS⟩:=R.r r hr
have h2:=hS s hs
exact (hP s m').2 ⟨h1.1,fun h0=>hle _ h0 om (h1.2 h0)⟩}
theorem mH.start (hn:(m.length:Int)=g.fx) (h:∀ i,bit m i=false):mH T P g 0 m:=
 ⟨hn,fun i _ _ hb=>(by rw[h] at hb;cases hb),fun i _ _ hb=>(by rw[h] at hb;cases hb),.inl (Nat.zero_le _)⟩
theorem mH.step (hP:Sl T P) (R:jk g) (h:mH T P g k m) (hr:QT P g m m'):mH T P g (k+1) m':=by{
have hle:NH g.fx m m':=fun i h0 h1 hb=>(hr.2 i h0 h1).2 (h.u i h0 h1 hb)
refine⟨hr.1,fun i h0 h1 hb=>?_,fun i h0 h1 hb=>?_,?_⟩
·obtain⟨r,hr1,rfl,hS⟩:=(hr.2 i h0 h1).1 hb
 obtain⟨_,_,_,hS'⟩:=R.r r hr1
 exact .mk r hr1 (fun s hs=>((hP s m).1 (hS s hs)).1) (fun s hs k0=>h.s _ k0 (by have:=hS' s hs;omega) (((hP s m).1 (hS s hs)).2 k0))
·obtain⟨r,hr1,rfl,hS⟩:=(hr.2 i h0 h1).1 hb
 exact⟨r,hr1,rfl,hS.mono hP R hr1 hle⟩
·by_cases hc:rj P g.rules m
 ·have hge:NH g.fx m' m:=fun i h0 h1 hb=>by
   obtain⟨r,hr1,rfl,hS⟩:=(hr.2 i h0 h1).1 hb
   exact hc r hr1 hS
  refine .inr fun r hr1 hS=>?_
  obtain⟨l1,l2,_⟩:=R.r r hr1
  exact (hr.2 _ l1 l2).2 ⟨r,hr1,rfl,hS.mono hP R hr1 hge⟩
 ·rcases h.c with h3|h3
  ·refine .inl ?_
   have:∃ r,r∈g.rules∧Sat P m r∧bit m r.lhs=false:=by
    refine Classical.byContradiction fun hn=>hc fun r hr1 hS=>?_
    cases hb:bit m r.lhs with
    | true=>rfl
    | false=>exact (hn ⟨r,hr1,hS,hb⟩).elim
   obtain⟨r,hr1,hS,hb⟩:=this
   obtain⟨l1,l2,_⟩:=R.r r hr1
   have hb':bit m' r.lhs=true:=(hr.2 _ l1 l2).2 ⟨r,hr1,rfl,hS⟩
   have hl:=h.l
   have hl':=hr.1
   have:m.count true<m'.count true:=by
    refine Ai om (hle.get hl hl') ⟨r.lhs.toNat,by omega,by omega,?_,?_⟩
    ·rw[← iz l1 om];exact hb
    ·rw[← iz l1 om];exact hb'
   omega
  ·exact (hc h3).elim}
theorem rj.U4 (hP:Sl T P) (hc:rj P g.rules m) {i:Int} (hd:RK T g.rules i):bit m i=true:=by
 induction hd with
 | mk r hr hT hD ih=>exact hc r hr fun s hs=>(hP s m).2 ⟨hT s hs,fun h0=>ih s hs h0⟩
theorem mH.fin (hP:Sl T P) (R:jk g) (h:mH T P g k m) (hk:g.fx≤k):Marks g.fx (RK T g.rules) m:=by{
refine⟨h.l,fun i h0 h1=>⟨h.s i h0 h1,fun hd=>?_⟩⟩
have hl:=h.l
rcases h.c with hc|hc
·have:=x8 (m:=m) om
 rw[iz h0 om]
 exact this _ (List.getElem_mem _)
·exact hc.U4 hP hd}
end
inductive Reached (g:fu):Int→Prop
 | start:Reached g g.start
 | step (r:dG) (s:be):r∈g.rules→s∈r.rhs→0≤s.nt→Reached g r.lhs→Reached g s.nt
def ES (g:fu) (m:List Bool) (i:Int):Prop:=∀ r∈g.rules,r.lhs=i→∀ s∈r.rhs,0≤s.nt→bit m s.nt=true
def mn (m m':List Bool):Prop:=∀ i:Int,0≤i→bit m i=true→bit m' i=true
theorem mn.refl {m:List Bool}:mn m m:=fun _ _ h=>h
theorem mn.trans {a b c:List Bool} (h:mn a b) (k:mn b c):mn a c:=fun i h0 h1=>k i h0 (h i h0 h1)
theorem mn.set {m:List Bool} {i:Int} (h0:0≤i) (h1:i<m.length):mn m (m.set i.toNat true):=fun j j0 hj=>by
 rw[Bu h0 h1 j0]
 split
 ·rfl
 ·exact hj
theorem ES.mono {g:fu} {m m':List Bool} {i:Int} (h:ES g m i) (hl:mn m m'):ES g m' i:=fun r hr e s hs h0=>hl _ h0 (h r hr e s hs h0)
structure tf (g:fu) (m:List Bool) (l:List Int) (now:Int→Prop):Prop where
 n:(m.length:Int)=g.fx
 s:∀ i:Int,0≤i→bit m i=true→Reached g i
 st:bit m g.start=true
 li:∀ x∈l,0≤x∧x<g.fx∧bit m x=true
 p:∀ i:Int,0≤i→bit m i=true→i∈l∨now i∨ES g m i
theorem tf.fin {g:fu} {m:List Bool} (R:jk g) (h:tf g m [] fun _=>False):Marks g.fx (Reached g) m:=by{
refine⟨h.n,fun i h0 h1=>⟨h.s i h0,fun hr=>?_⟩⟩
clear h0 h1
induction hr with
| start=>exact h.st
| step r s hr hs h0 _ ih=>
  rcases h.p r.lhs (R.r r hr).1 ih with h1|h1|h1
  ·cases h1
  ·exact h1.elim
  ·exact h1 r hr rfl s hs h0}
theorem tf.pop {g:fu} {m:List Bool} {l:List Int} {x:Int} (h:tf g m (l++[x]) fun _=>False):tf g m l fun i=>i=x:=by{
refine⟨h.n,h.s,h.st,fun y hy=>h.li y (List.mem_append_left _ hy),fun i h0 h1=>?_⟩
rcases h.p i h0 h1 with k|k|k
·rw[List.mem_append] at k
 rcases k with k|k
 ·exact .inl k
 ·exact .inr (.inl (by simpa using k))
·exact k.elim
·exact .inr (.inr k)}
theorem tf.next {g:fu} {m:List Bool} {l:List Int} {x:Int} (h:tf g m l fun i=>i=x) (hp:ES g m x):tf g m l fun _=>False:=by{
refine⟨h.n,h.s,h.st,h.li,fun i h0 h1=>?_⟩
rcases h.p i h0 h1 with k|k|k
·exact .inl k
·exact .inr (.inr (k▸hp))
·exact .inr (.inr k)}
theorem tf.start {g:fu} {N:Nat} (R:jk g) (hN:g.fx=N):tf g ((List.replicate N false).set g.start.toNat true) [g.start] fun _=>False:=by{
have s1:=R.s1
have s2:=R.s2
have hb:∀ i:Int,0≤i→(bit ((List.replicate N false).set g.start.toNat true) i=true↔i=g.start):=fun i h0=>by
 rw[Bu s1 (by simp;omega) h0,Ht]
 constructor
 ·intro h
  split at h
  ·rename_i e
   exact e.symm
  ·cases h
 ·rintro rfl
  rw[if_pos rfl]
refine⟨by simp [hN],fun i h0 h1=>(hb i h0).1 h1▸.start,(hb _ s1).2 rfl,fun x hx=>?_,fun i h0 h1=>?_⟩
·obtain rfl:x=_:=by simpa using hx
 exact⟨s1,s2,(hb _ s1).2 rfl⟩
·exact .inl (by simp [(hb i h0).1 h1])}
def IL (g:fu) (m:List Bool):Prop:=∀ r∈g.rules,bit m r.lhs=true→∀ s∈r.rhs,0≤s.nt→bit m s.nt=true
structure ki (g:fu) (k:Nat) (m:List Bool):Prop where
 n:(m.length:Int)=g.fx
 s:∀ i:Int,0≤i→bit m i=true→Reached g i
 st:bit m g.start=true
 c:k+1≤m.count true∨IL g m
structure Mt (g:fu) (m:List Bool) (k:Nat) (m':List Bool):Prop where
 n:(m'.length:Int)=g.fx
 s:∀ i:Int,0≤i→bit m' i=true→Reached g i
 le:mn m m'
 d:∀ r∈g.rules.take k,bit m r.lhs=true→∀ s∈r.rhs,0≤s.nt→bit m' s.nt=true
theorem ki.start {g:fu} {N:Nat} (R:jk g) (hN:g.fx=N):ki g 0 ((List.replicate N false).set g.start.toNat true):=by{
have h:=tf.start R hN
have s1:=R.s1
refine⟨h.n,h.s,h.st,.inl ?_⟩
have h1:=h.st
have hn:=h.n
have s2:=R.s2
rw[iz s1 om] at h1
exact List.count_pos_iff.2 (List.mem_iff_getElem.2 ⟨_,_,h1⟩)}
theorem ki.step {g:fu} {m m':List Bool} {k:Nat} (R:jk g) (h:ki g k m) (hr:Mt g m g.rules.length m'):ki g (k+1) m':=by{
have hd:=hr.d
rw[List.take_length] at hd
refine⟨hr.n,hr.s,hr.le _ R.s1 h.st,?_⟩
have hl:=h.n
have hl':=hr.n
have hle:∀ (i:Nat) (h1:i<m.length) (h2:i<m'.length),m[i]=true→m'[i]=true:=NH.get (n:=g.fx) (fun i h0 _=>hr.le i h0) hl hl'
by_cases hc:∃ i:Int,0≤i∧i<g.fx∧bit m i=false∧bit m' i=true
·rcases h.c with h3|h3
 ·obtain⟨i,h0,h1,h2,h4⟩:=hc
  have:=Ai om hle ⟨i.toNat,by omega,by omega,by rw[← iz h0 om];exact h2,by rw[← iz h0 om];exact h4⟩
  exact .inl om
 ·-- what is closed stays: but something was added,which is reached: no
  obtain⟨i,h0,h1,h2,h4⟩:=hc
  have hre:=hr.s i h0 h4
  have:∀ j,Reached g j→bit m j=true:=fun j hj=>by
   induction hj with
   | start=>exact h.st
   | step r s hr hs h0 _ ih=>exact h3 r hr ih s hs h0
  rw[this i hre] at h2
  cases h2
·refine .inr fun r hr1 hb s hs h0=>?_
 obtain⟨l1,l2,_,hS⟩:=R.r r hr1
 have hs2:=hS s hs
 have hge:∀ i:Int,0≤i→i<g.fx→bit m' i=true→bit m i=true:=fun i h0 h1 hb=>by
  cases h:bit m i with
  | true=>rfl
  | false=>exact (hc ⟨i,h0,h1,h,hb⟩).elim
 exact hd r hr1 (hge _ l1 l2 hb) s hs h0}
theorem ki.fin {g:fu} {m:List Bool} {k:Nat} (R:jk g) (h:ki g k m) (hk:g.fx≤k+1):Marks g.fx (Reached g) m:=by{
have hl:=h.n
refine⟨h.n,fun i h0 h1=>⟨h.s i h0,fun hr=>?_⟩⟩
rcases h.c with hc|hc
·have:=x8 (m:=m) om
 rw[iz h0 om]
 exact this _ (List.getElem_mem _)
·clear h0 h1
 induction hr with
 | start=>exact h.st
 | step r s hr hs h0 _ ih=>exact hc r hr ih s hs h0}
def qu (w:Int):Prop:=0≤w∧w<18446744073709551616
def sx (w:Int) (j:Nat):Bool:=w.toNat.testBit j
def a8.word (s:a8):Nat→Int
 | 0=>s.a
 | 1=>s.b
 | 2=>s.c
 | _=>s.d
def a8.has (s:a8) (n:Nat):Bool:=sx (s.word (n / 64)) (n % 64)
structure di (s:a8):Prop where
 a:qu s.a
 b:qu s.b
 c:qu s.c
 d:qu s.d
theorem di.word {s:a8} (h:di s) (i:Nat):qu (s.word i):=by{
match i with
| 0=>exact h.a
| 1=>exact h.b
| 2=>exact h.c
| n+3=>exact h.d}
theorem EH {v w:Int} (hv:qu v) (hw:qu w) (h:∀ j,j<64→sx v j=sx w j):v=w:=by{
have:v.toNat=w.toNat:=by
 refine Nat.eq_of_testBit_eq fun j=>?_
 by_cases hj:j<64
 ·exact h j hj
 ·have e:∀ u:Int,qu u→u.toNat.testBit j=false:=fun u hu=>by
   refine Nat.testBit_lt_two_pow (Nat.lt_of_lt_of_le (m:=2 ^ 64) (by have:=hu.1;have:=hu.2;omega) (Nat.pow_le_pow_right (by decide) om))
  rw[e v hv,e w hw]
have:=hv.1
have:=hw.1
omega}
theorem a8.ext {s t:a8} (hs:di s) (ht:di t) (h:∀ n,n<256→s.has n=t.has n):s=t:=by{
have key:∀ i,i<4→s.word i=t.word i:=fun i hi=>EH (hs.word i) (ht.word i) fun j hj=>by
 have:=h (i*64+j) om
 unfold a8.has at this
 rwa [show (i*64+j) / 64=i by omega,show (i*64+j) % 64=j by omega] at this
have h0:=key 0 (by decide)
have h1:=key 1 (by decide)
have h2:=key 2 (by decide)
have h3:=key 3 (by decide)
cases s;cases t
simp only[a8.word] at h0 h1 h2 h3
simp only[h0,h1,h2,h3]}
def lH (v w:Int):Int:=((v.toNat ||| w.toNat:Nat):Int)
theorem kb {v w:Int} (hv:qu v) (hw:qu w):qu (lH v w):=by
 have:v.toNat ||| w.toNat<2 ^ 64:=Nat.or_lt_two_pow (by have:=hv.1;have:=hv.2;omega) (by have:=hw.1;have:=hw.2;omega)
 exact⟨Int.natCast_nonneg _,by unfold lH;omega⟩
theorem I7 {v w:Int} {j:Nat}:sx (lH v w) j=(sx v j||sx w j):=by
 unfold sx lH
 rw[Int.toNat_natCast,Nat.testBit_or]
theorem wrap_u64 {x:Int} (h:qu x):IntKind.u64.wrap x=x:=by{
have h1:=h.1
have h2:=h.2
unfold IntKind.wrap
simp only[IntKind.bits,IntKind.signed,Bool.false_and,Bool.false_eq_true,if_false]
omega}
theorem wU {v w:Int} (hv:qu v) (hw:qu w):IntKind.u64.wrap ((BitVec.ofInt 64 v ||| BitVec.ofInt 64 w).toNat)=lH v w:=by{
have e:∀ u:Int,qu u→(BitVec.ofInt 64 u).toNat=u.toNat:=fun u hu=>by
 rw[BitVec.toNat_ofInt]
 have:=hu.1
 have:=hu.2
 congr 1
 exact Int.emod_eq_of_lt hu.1 (by simpa using hu.2)
rw[BitVec.toNat_or,e v hv,e w hw]
exact wrap_u64 (kb hv hw)}
def a8.union (s t:a8):a8:=⟨lH s.a t.a,lH s.b t.b,lH s.c t.c,lH s.d t.d⟩
theorem Fy {s t:a8} (hs:di s) (ht:di t):di (s.union t):=⟨kb hs.a ht.a,kb hs.b ht.b,kb hs.c ht.c,kb hs.d ht.d⟩
theorem oQ {s t:a8} {n:Nat}:(s.union t).has n=(s.has n||t.has n):=by{
unfold a8.has
have:(s.union t).word (n / 64)=lH (s.word (n / 64)) (t.word (n / 64)):=by
 match n / 64 with
 | 0=>rfl
 | 1=>rfl
 | 2=>rfl
 | k+3=>rfl
rw[this,I7]}
theorem JA:di a8.zero:=⟨⟨by decide,by decide⟩,⟨by decide,by decide⟩,⟨by decide,by decide⟩,⟨by decide,by decide⟩⟩
theorem Ea {n:Nat}:a8.zero.has n=false:=by{
unfold a8.has sx
have:a8.zero.word (n / 64)=0:=by
 match n / 64 with
 | 0=>rfl
 | 1=>rfl
 | 2=>rfl
 | k+3=>rfl
rw[this]
simp}
theorem wg {s:a8} (hs:di s) (h:∀ n,n<256→s.has n=false):s=a8.zero:=a8.ext hs JA fun n hn=>by rw[h n hn,Ea]
theorem xo {w:Int} (hw:qu w) {j:Nat}:sx w j=decide (w / 2 ^ j % 2=1):=by{
have h0:=hw.1
obtain⟨x,rfl⟩:∃ x:Nat,w=x:=⟨w.toNat,by omega⟩
unfold sx
rw[Int.toNat_natCast,Nat.testBit_eq_decide_div_mod_eq]
have:(x:Int) / 2 ^ j % 2=((x / 2 ^ j % 2:Nat):Int):=by simp
rw[this]
by_cases h:x / 2 ^ j % 2=1
·rw[decide_eq_true h,decide_eq_true om]
·rw[decide_eq_false h,decide_eq_false om]}
def xM (D:Int→Prop) (s:be):Prop:=0≤s.nt∧D s.nt
inductive Rl (rules:List dG) (D:Int→Prop) (b:Nat):Int→Prop
 | mk (r:dG) (k:Nat) (hk:k<r.rhs.length):r∈rules→(∀ s∈r.rhs.take k,xM D s)→(r.rhs[k].nt<0→r.rhs[k].set.has b=true)→(0≤r.rhs[k].nt→Rl rules D b r.rhs[k].nt)→Rl rules D b r.lhs
def tJ (l:List a8) (i:Int):a8:=l.getD i.toNat a8.zero
theorem F7 {l:List a8} {i:Int} (h0:0≤i) (h1:i<l.length):tJ l i=l[i.toNat]'om:=by{
unfold tJ
rw[List.getD_eq_getElem?_getD,List.getElem?_eq_getElem (by omega:i.toNat<l.length)]
rfl}
def CG (s t:a8):Prop:=∀ b,b<256→s.has b=true→t.has b=true
theorem CG.refl {s:a8}:CG s s:=fun _ _ h=>h
theorem CG.trans {a b c:a8} (h:CG a b) (k:CG b c):CG a c:=fun i h0 h1=>k i h0 (h i h0 h1)
theorem CG.left {s t:a8}:CG s (s.union t):=fun b _ h=>by rw[oQ,h];rfl
theorem CG.right {s t:a8}:CG t (s.union t):=fun b _ h=>by rw[oQ,h,Bool.or_true]
def lk (out:List a8) (s:be):a8:=if s.nt<0 then s.set else tJ out s.nt
structure IX (g:fu) (D:Int→Prop) (out:List a8):Prop where
 n:(out.length:Int)=g.fx
 wf:∀ i:Int,0≤i→i<g.fx→di (tJ out i)
 s:∀ i:Int,0≤i→i<g.fx→∀ b,b<256→(tJ out i).has b=true→Rl g.rules D b i
def we (D:Int→Prop) (out:List a8) (r:dG) (s:a8):Prop:=∀ (k:Nat) (hk:k<r.rhs.length),(∀ x∈r.rhs.take k,xM D x)→CG (lk out r.rhs[k]) s
def vN (g:fu) (D:Int→Prop) (out:List a8):Prop:=(out.length:Int)=g.fx∧∀ i:Int,0≤i→i<g.fx→di (tJ out i)∧∀ b,b<256→((tJ out i).has b=true↔Rl g.rules D b i)
theorem IX.fin {g:fu} {D:Int→Prop} {out:List a8} (R:jk g) (h:IX g D out) (hc:∀ r∈g.rules,we D out r (tJ out r.lhs)):vN g D out:=by{
refine⟨h.n,fun i h0 h1=>⟨h.wf i h0 h1,fun b hb=>⟨h.s i h0 h1 b hb,fun hf=>?_⟩⟩⟩
clear h0 h1
induction hf with
| mk r k hk hr hp hs hn ih=>
  refine hc r hr k hk hp b hb ?_
  unfold lk
  split
  ·rename_i h0
   exact hs h0
  ·rename_i h0
   exact ih om}
theorem vN.eq {g:fu} {D:Int→Prop} {a b:List a8} (ha:vN g D a) (hb:vN g D b):a=b:=by{
have hl:a.length=b.length:=by have:=ha.1;have:=hb.1;omega
refine List.ext_getElem hl fun i h1 h2=>?_
have hn:=ha.1
have a1:=ha.2 i om om
have a2:=hb.2 i om om
rw[F7 om om] at a1 a2
simp only[Int.toNat_natCast] at a1 a2
refine a8.ext a1.1 a2.1 fun n hn=>?_
have:=(a1.2 n hn).trans (a2.2 n hn).symm
cases h3:a[i].has n<;>cases h4:b[i].has n<;>simp_all}
def Uy (s:a8):Nat:=((List.range 256).filter fun b=>!s.has b).length
def room (l:List a8):Nat:=(l.map Uy).sum
structure u0 (g:fu) (D:Int→Prop) (out:List a8) (r:dG) (j:Nat) (s:a8):Prop where
 wf:di s
 le:CG (tJ out r.lhs) s
 so:∀ b,b<256→s.has b=true→Rl g.rules D b r.lhs
 c:∀ (k:Nat) (hk:k<r.rhs.length),k<j→(∀ x∈r.rhs.take k,xM D x)→CG (lk out r.rhs[k]) s
theorem u0.start {g:fu} {D:Int→Prop} {out:List a8} {r:dG} (R:jk g) (h:IX g D out) (hr:r∈g.rules):u0 g D out r 0 (tJ out r.lhs):=by
 obtain⟨l1,l2,_⟩:=R.r r hr
 exact⟨h.wf _ l1 l2,.refl,h.s _ l1 l2,fun k _ hk=>by omega⟩
theorem u0.step {g:fu} {D:Int→Prop} {out:List a8} {r:dG} {j:Nat} {s:a8} (R:jk g) (hW:∀ r∈g.rules,∀ s∈r.rhs,di s.set) (h:IX g D out) (hr:r∈g.rules) (hp:u0 g D out r j s) (hj:j<r.rhs.length) (hn:∀ x∈r.rhs.take j,xM D x) : u0 g D out r (j+1) (s.union (lk out r.rhs[j])):=by{
obtain⟨l1,l2,l3,hS⟩:=R.r r hr
have hs:=hS _ (List.getElem_mem hj)
have hw:di (lk out r.rhs[j]):=by
 unfold lk
 split
 ·exact hW r hr _ (List.getElem_mem hj)
 ·exact h.wf _ om om
refine⟨Fy hp.wf hw,hp.le.trans .left,fun b hb hh=>?_,fun k hk hkj hx=>?_⟩
·rw[oQ,Bool.or_eq_true] at hh
 rcases hh with hh|hh
 ·exact hp.so b hb hh
 ·refine .mk r j hj hr hn (fun h0=>?_) fun h0=>?_
  ·unfold lk at hh
   rwa [if_pos h0] at hh
  ·unfold lk at hh
   rw[if_neg om] at hh
   exact h.s _ h0 hs.2.1 b hb hh
·rcases Nat.lt_or_ge k j with h1|h1
 ·exact (hp.c k hk h1 hx).trans .left
 ·obtain rfl:k=j:=by omega
  exact .right}
theorem u0.stop {g:fu} {D:Int→Prop} {out:List a8} {r:dG} {j:Nat} {s:a8} (hp:u0 g D out r (j+1) s) (hj:j<r.rhs.length) (hn:¬ xM D r.rhs[j]):we D out r s:=by{
intro k hk hx
rcases Nat.lt_or_ge k (j+1) with h1|h1
·exact hp.c k hk h1 hx
·refine (hn (hx _ ?_)).elim
 rw[List.mem_take_iff_getElem]
 exact⟨j,by omega,rfl⟩}
theorem u0.all {g:fu} {D:Int→Prop} {out:List a8} {r:dG} {s:a8} (hp:u0 g D out r r.rhs.length s):we D out r s:=fun k hk hx=>hp.c k hk hk hx
end Go.Proofs.YtmdmimkbpikmoaaGreat
