/- Several texts, one behind the other. -/
import Derived.Test.YtmdmimkbpikmoaaGreatZV4
import Derived.Test.YtmdmimkbpikmoaaGreatZG5
import Derived.Sort.Statements
import Derived.Test.YtmdmimkbpikmoaaGreatZFa
import Derived.Sort.LotA
import Derived.Sort.LotC
import Derived.Sort.LotD2
import Derived.Sort.LotD1
set_option linter.unusedSimpArgs false
set_option linter.unusedVariables false
set_option maxHeartbeats 8000000
namespace Go.Proofs.YtmdmimkbpikmoaaGreat
set_option maxRecDepth 20000
open Go.RowKit Am Ty
section
variable {h0 hk:ah} {im:Nat} {m:MK} {l:List (ch×gO)}
theorem vj {α:Type} {f:α→Value→List Value} {k:Nat} (hf:∀ x u,(f x u).length=k) {l:List α} {us:List Value} (h:us.length=l.length):((l.zip us).flatMap fun p=>f p.1 p.2).length=l.length*k:=by
 rw[dN (f:=fun p:α×Value=>f p.1 p.2) (k:=k) (fun _=>hf _ _),List.length_zip,h,Nat.min_self]
theorem kF (M:MR h0 hk im m l) {lhs kd pr mk:Int} {ur uo:Value} {rhs:List aT} {os:List Int} (hr:aL h0 hk ur rhs.length (rhs.flatMap aT.cells) 65) (ho:aL h0 hk uo os.length (os.map i64) 3) (hl:l.length≤1000000) : FW env 98 [.pointer (some ⟨im,0,some 0⟩),i64 lhs,ur,.agg #[i64 kd,i64 pr,i64 mk,uo]] hk fun r h'=>r = .tuple #[]∧∃ vr' vf',MR h0 h' im { m with vr:=vr',vf:=vf' } (l++[(⟨lhs,rhs⟩,⟨kd,pr,mk,os⟩)])∧cj J5 hk h':=by{
have hob:=M.o
obtain⟨us1,hn1,hG1,hu1⟩:=M.r
obtain⟨us2,hn2,hG2,hu2⟩:=M.f
have ll1:(l.map (·.1)).length=l.length:=List.length_map ..
have ll2:(l.map (·.2)).length=l.length:=List.length_map ..
have hc1:=vj (f:=VC) (k:=2) (fun _ _=>rfl) hn1
have hc2:=vj (f:=VF) (k:=4) (fun _ _=>rfl) hn2
obtain⟨pu,cu,rfl⟩:=hr.form
obtain⟨po,co,rfl⟩:=ho.form
unfold MK.cells at hob
refine fe Tryz.func98 ?_;simp only[push_cast]
refine aG hob ?_
refine lr (t:=32) (cs:=[i64 lhs,.slice pu rhs.length cu]) ak rfl kr RN (by decide) rfl ak rfl hG1 M.p hc1 rfl (by simp only;omega) om ?_
intro p1 c1 h2 k1 k2 k3 _
have kp1:cj [63] hk h2:=cj.push hG1 k3
have hob2:=kp1 _ _ hob (dR (by decide))
refine aG hob2 ?_
refine bV (v:=.slice p1 ((l.map (·.1)).length+1) c1) (vs:=[.slice p1 ((l.map (·.1)).length+1) c1]) (cells':=MK.cells { m with vr:=.slice p1 ((l.map (·.1)).length+1) c1 }) ak rfl rfl rfl ak hob2 ak rfl rfl ?_
dsimp only
have kp2:cj [94] h2 (h2.set im (.aA (MK.cells { m with vr:=.slice p1 ((l.map (·.1)).length+1) c1 }) 0 true 94)):=cj.set hob2
have hob3:(h2.set im (.aA (MK.cells { m with vr:=.slice p1 ((l.map (·.1)).length+1) c1 }) 0 true 94))[im]? = some (.aA (MK.cells { m with vr:=.slice p1 ((l.map (·.1)).length+1) c1 }) 0 true 94):=aw hob2
have hp3:h0 <+: h2.set im (.aA (MK.cells { m with vr:=.slice p1 ((l.map (·.1)).length+1) c1 }) 0 true 94):=a8 k2 M.lm
generalize (h2.set im (.aA (MK.cells { m with vr:=.slice p1 ((l.map (·.1)).length+1) c1 }) 0 true 94))=h3 at kp2 hob3 hp3 ⊢
have R1:tu h0 h2 (.slice p1 ((l.map (·.1)).length+1) c1) (l.map (·.1)++[⟨lhs,rhs⟩]):=gS.push (x:=(⟨lhs,rhs⟩:ch)) hn1 hu1 kp1 (by decide) k1 jT hr
have R3:=R1.eD kp2 (by decide) (by decide)
have kp13:cj [63,94] hk h3:=(kp1.low (by simp)).trans (kp2.low (by simp))
have hG23:=hG2.eD kp13 (by decide)
have ho3:=ho.eD kp13 (by decide)
have hu23:∀ (i:Nat) (x:gO) (u:Value),(l.map (·.2))[i]? = some x→us2[i]? = some u→∃ n,(Tn x).length=n*1∧aL h0 h3 u n (Tn x) 3:=fun i x u a b=>by
 obtain⟨n,e,g⟩:=hu2 i x u a b
 exact⟨n,e,g.eD kp13 (by decide)⟩
obtain⟨p2,c2,h4,hone,k4,k5,k6,_,_⟩:=jf (cs:=[i64 kd,i64 pr,i64 mk,.slice po os.length co]) (t:=35) kr QC (by decide) rfl hG23 hp3 hc2 rfl (by simp only;omega) om
have kp4:cj [67] h3 h4:=cj.push hG23 k6
have hob4:=kp4 _ _ hob3 (dR (by decide))
obtain⟨vr1,hvr1⟩:∃ v,v=Value.slice p1 ((l.map (·.1)).length+1) c1:=⟨_,rfl⟩
rw[← hvr1] at hob3 hob4 R3
unfold MK.cells at hob3 hob4
simp only at hob3 hob4
refine aC ?_
refine aB [(0,.val (.pointer (some ⟨im,0,some 0⟩))),(7,.box [i64 kd,i64 pr,i64 mk,.slice po os.length co])] aK ?_
show CW _ _ ⟨_,[],h3⟩ _
apply bm (L:=[[],[],[1],[2],[3],[4],[],[6],[5,7],[0],[9],[10],[0,1,2,3,4,5,6,7,8,11]]) (act:=[8,12]) (hs:=[h4,h4.set im (.aA (MK.cells { m with vr:=vr1,vf:=.slice p2 ((l.map (·.2)).length+1) c2 }) 0 true 94)]) (resL:=[_,_,_,_,_,_,_,_,_,_,_,_,_]) (frF:=[(0,.val (.pointer (some ⟨im,0,some 0⟩)))])
case hm=>exact mixed
case hc=>kernel_rfl
case ha=>rfl
case hb=>rfl
case hS=>
 refine Gc hob3 hob4 ?_
 apply ay.cons
 ·rfl
 ·refine⟨?_,trivial⟩
  exact hone _ _ _ _ _ rfl ak rfl ak ak
 ·rfl
 refine Gc hob3 hob4 ?_
 apply ay.cons
 ·rfl
 ·refine⟨?_,trivial⟩
  exact One.jP (r:=.sl .dH) (cells':=MK.cells { m with vr:=vr1,vf:=.slice p2 ((l.map (·.2)).length+1) c2 }) ak rfl ak ak hob4 ak rfl rfl rfl
 ·rfl
 exact ay.nil _
case ht=>rfl
case hF=>exact zh
have kp5:cj [94] h4 (h4.set im (.aA (MK.cells { m with vr:=vr1,vf:=.slice p2 ((l.map (·.2)).length+1) c2 }) 0 true 94)):=cj.set hob4
have F1:AT h0 h4 (.slice p2 ((l.map (·.2)).length+1) c2) (l.map (·.2)++[⟨kd,pr,mk,os⟩]):=gS.push (x:=(⟨kd,pr,mk,os⟩:gO)) hn2 hu23 kp4 (by decide) k4 (by simp) ho3
have hfin:cj J5 hk (h4.set im (.aA (MK.cells { m with vr:=vr1,vf:=.slice p2 ((l.map (·.2)).length+1) c2 }) 0 true 94)):=((kp13.low (by simp)).trans (kp4.low (by simp))).trans (kp5.low (by simp))
refine⟨_,ak,rfl,vr1,.slice p2 ((l.map (·.2)).length+1) c2,⟨a8 k5 M.lm,M.lm,aw hob4,?_,?_⟩,hfin⟩
·rw[List.map_append]
 exact (R3.eD kp4 (by decide) (by decide)).eD kp5 (by decide) (by decide)
·rw[List.map_append]
 exact F1.eD kp5 (by decide) (by decide)}
end
def kE (l:List (bt×Int)):List (Value×Value):=l.map fun p=>(p.1.val,i64 p.2)
def qu:List (bt×Int)→bt→Option Int
 | [],_=>none
 | (k,v) :: r,x=>if x=k then some v else qu r x
theorem Co (x y:bt):pX x.val y.val=decide (x=y):=by{
cases x with|mk a b c d=>cases y with|mk a' b' c' d'=>
cases c with|mk c1 c2 c3 c4=>cases c' with|mk e1 e2 e3 e4=>
simp only[pX,jD,np,Bool.and_true,bt.mk.injEq,aX.mk.injEq,Bool.decide_and,Bool.and_assoc]}
theorem EW (x:bt):∀ l,gQ (kE l) x.val=(qu l x).map i64
 | []=>rfl
 | (k,v) :: r=>by
   have ih:=EW x r
   unfold kE at ih ⊢
   simp only[List.map_cons,gQ,qu,Co,decide_eq_true_eq]
   split
   ·rfl
   ·exact ih
theorem EH (x:bt) (v:Int):∀ l,qu l x=none→iU (kE l) x.val (i64 v)=kE (l++[(x,v)])
 | [],_=>rfl
 | (k,u) :: r,h=>by
   unfold qu at h
   have hne:¬ x=k:=fun e=>by rw[if_pos e] at h;cases h
   rw[if_neg hne] at h
   have ih:=EH x v r h
   unfold kE at ih ⊢
   simp only[List.map_cons,iU,Co,decide_eq_true_eq,List.cons_append]
   rw[if_neg hne,ih]
theorem rf (l:List (bt×Int)):eG (yX k9) (kE l)=true:=by{
unfold eG kE
rw[List.all_map,List.all_eq_true]
intro x _
rfl}
@[push_cast] theorem Sw:jB 154=some (yX k9):=rfl
@[push_cast] theorem wK (k:bt):yX k9 k.val=true:=rfl
attribute [push_cast] rf
theorem pk {all:Array Oper} {o:Oper} {s:St} {h:ah} {n:Nat} {t:TypeId} {cs:List Value} (hh:s.h=h) (hw:aF all o s=some true) (hb:jw env s o.op=some (t,cs,n)):One env all o s (.sl (.val (.slice (some ⟨h.length,0,some 0⟩) n n))) (h++[av.aA cs 0 true t]):=hh▸.Fv hw hb
structure MS (hk:ah) (m:MK) (d:bM) (es:List (ByteArray×Int)) (ks:List (bt×Int)):Prop where
 sm:hk[m.is]? = some (.map (fU es))
 sg:∀ x∈aE d.aa,gQ (fU es) (.string x)=some (i64 (eE d x:Int))
 lm:hk[m.il]? = some (.map (kE ks))
 lg:∀ k∈bh d.aa,gQ (kE ks) k.val=some (i64 (i4 d k:Int))
 gp:m.lI=bl d
theorem MS.eD {a b:ah} {m:MK} {d:bM} {es:List (ByteArray×Int)} {ks:List (bt×Int)} {ts:List TypeId} (M:MS a m d es ks) (k:cj ts a b):MS b m d es ks:=⟨k _ _ M.sm rfl,M.sg,k _ _ M.lm rfl,M.lg,M.gp⟩
section
variable {h0 hk:ah} {im:Nat} {m:MK} {d:bM} {es:List (ByteArray×Int)} {ks:List (bt×Int)}
theorem xz {name:ByteArray} {set:aX} (ho:hk[im]? = some (.aA m.cells 0 true 94)) (M:MS hk m d es ks) (hn:b7 name=true∨name∈aE d.aa) : FW env 97 [.pointer (some ⟨im,0,some 0⟩),.string name,set.val] hk fun r h'=>r=(iR d name set).val∧h'=hk:=by{
unfold MK.cells at ho
have hsm:=M.sm
have hkk:=br es
refine fe Tryz.func97 ?_;simp only[push_cast]
by_cases q:name=⟨#[]⟩
·have d1:=decide_eq_true q
 refine aG d1 ?_
 refine af rfl ?_
 refine aC ?_
 refine ai ?_
 exact⟨_,ak,by unfold iR b7;rw[if_pos d1];rfl,rfl⟩
·have d1:=decide_eq_false q
 have hmem:name∈aE d.aa:=hn.resolve_left (by unfold b7;rw[d1];decide)
 have hg:=M.sg name hmem
 refine aG d1 ?_
 refine ae rfl ?_
 refine fi ho hsm hg hkk ?_
 refine zj Tryz.func99 ?_
 refine my.mono ?_
 rintro _ h1 ⟨rfl,e1⟩
 obtain rfl:=e1.symm
 refine aC ?_
 refine ai ?_
 refine⟨_,ak,?_,rfl⟩
 unfold iR b7
 rw[d1]
 rfl}
theorem Lr {p:Prod} {u:Value} {s:Sym} (ho:hk[im]? = some (.aA m.cells 0 true 94)) (M:MS hk m d es ks) (hy:fR hk u p.aj) (hp:p∈d.aa) (hs:s∈p.aj) (hn:s.kind=1∨b7 s.name=true∨s.name∈aE d.aa) (ht:s.text.size≤1000000) : FW env 141 [.pointer (some ⟨im,0,some 0⟩),p.val u,s.val] hk fun r h'=>hk <+: h'∧aL hk h' r (fl d p.lex s).length ((fl d p.lex s).flatMap aT.cells) 65:=by{
have hy0:=hy
obtain⟨ps,cs,rfl⟩:=bT.form hy
refine fe Tryz.func141 ?_;simp only[push_cast]
by_cases q1:s.kind=1
·have d1:=decide_eq_true q1
 have hK:fl d p.lex s=iX s.text:=by unfold fl;rw[if_pos q1]
 rw[hK]
 refine aG d1 ?_
 refine ae rfl ?_
 refine aC ?_
 refine zj Tryz.func101 ?_
 refine (FN ht).mono ?_
 rintro _ h1 ⟨hp1,hG⟩
 obtain⟨q,c,rfl⟩:=hG.form
 refine aC ?_
 refine ai ?_
 refine⟨_,ak,hp1,?_⟩
 exact hG
have d1:=decide_eq_false q1
refine aG d1 ?_
refine af rfl ?_
refine aC ?_
refine zj Tryz.func92 ?_
refine uI.mono ?_
rintro _ h1 ⟨rfl,e1⟩
obtain rfl:=e1.symm
cases hL:fV s with
| true=>
  have hK:fl d p.lex s=[dy (i4 d (ik p.lex s))]:=by unfold fl;rw[if_neg q1,if_pos hL]
  rw[hK]
  have hmem:ik p.lex s∈bh d.aa:=mem_keys.2 ⟨p,hp,s,hs,hL,rfl⟩
  have hg:=M.lg _ hmem
  have hlm:=M.lm
  have hkk:=rf ks
  have hkd:=wK (ik p.lex s)
  unfold k9 at hkk hkd
  have hob:=ho
  unfold MK.cells at hob
  refine aC ?_
  refine ae rfl ?_
  refine aC ?_
  refine aB [(0,.val (.pointer (some ⟨im,0,some 0⟩))),(4,.box [.bool p.lex,.string p.sort,.string p.cons,.bool p.bracket,.slice ps p.aj.length cs]),(5,.box [i64 s.kind,.string s.text,u64 s.set.a,u64 s.set.b,u64 s.set.c,u64 s.set.d,.string s.name,.string s.sep])] aK ?_
  show CW _ _ ⟨_,[],hk⟩ _
  apply bm (L:=[[],[0],[0,1],[0,1,2],[],[],[4,5],[0,1,2,3,4,5,6],[0,1,2,3,4,5,6,7],[0,1,2,3,4,5,6,7,8],[0,1,2,3,4,5,6,7,8,9]]) (act:=[9]) (hs:=[hk++[av.aA (aT.cells (dy (i4 d (ik p.lex s)))) 0 true 65]]) (resL:=[_,_,_,_,_,_,_,_,_,_,_]) (frF:=[(6,.val (.slice (some ⟨hk.length,0,some 0⟩) 1 1))])
  case hm=>exact mixed
  case hc=>kernel_rfl
  case ha=>rfl
  case hb=>rfl
  case hS=>
   refine Py hob ?_
   apply ay.cons
   ·rfl
   ·refine⟨?_,trivial⟩
    exact bi (fn:=Tryz.f93) (args:=[p.val (.slice ps p.aj.length cs),s.val]) (cap:=[]) rfl ak rfl ak ak Tryz.func93 kr kr (y8 hy0)
   ·rfl
   refine OH hob hlm hg hkk hkd ?_
   apply ay.cons
   ·rfl
   ·refine⟨?_,trivial⟩
    exact bi (fn:=Tryz.f99) (args:=[i64 (i4 d (ik p.lex s):Int)]) (cap:=[]) rfl ak rfl ak ak Tryz.func99 kr kr my
   ·rfl
   apply ay.cons
   ·rfl
   ·refine⟨?_,trivial⟩
    exact pk (h:=hk) (n:=1) (t:=65) (cs:=aT.cells (dy (i4 d (ik p.lex s)))) rfl ak kr
   ·rfl
   exact Ts
  case ht=>rfl
  case hF=>exact zh
  show CW _ _ _ _
  refine aC ?_
  refine ai ?_
  refine⟨_,ak,aH,?_⟩
  exact .inr ⟨hk.length,0,Nat.le_refl _,rfl,aJ⟩
| false=>
  have hK:fl d p.lex s=[iR d s.name s.set]:=by unfold fl;rw[if_neg q1,if_neg (by rw[hL];decide)]
  rw[hK]
  refine aC ?_
  refine af rfl ?_
  refine aC ?_
  refine zj Tryz.func97 ?_
  refine (xz ho M (hn.resolve_left q1)).mono ?_
  rintro _ h2 ⟨rfl,e2⟩
  obtain rfl:=e2.symm
  refine df (t:=65) (cs:=aT.cells (iR d s.name s.set)) (n:=1) ak kr ?_
  refine aC ?_
  refine ai ?_
  refine⟨_,ak,aH,?_⟩
  exact .inr ⟨hk.length,0,Nat.le_refl _,rfl,aJ⟩}
end
structure tb (d:bM) (p:Prod):Prop where
 mem:p∈d.aa
 n:p.aj.length≤12
 t:∀ s∈p.aj,s.text.size≤32
 nm:∀ s∈p.aj,s.kind=1∨b7 s.name=true∨s.name∈aE d.aa
 so:p.sort∈aE d.aa
 o:g7 p.aj≤4
theorem yO {d:bM} {lex:Bool} {s:Sym} (h:s.text.size≤32):(fl d lex s).length≤32:=by{
unfold fl
split
·unfold iX;simp;omega
·split<;>simp}
theorem kG {d:bM} {p:Prod} {mask k:Nat} (hk:k<p.aj.length):bP d p mask (k+1)=jv d p.lex (bP d p mask k) k p.aj[k]:=by
 conv=>lhs;unfold bP
 rw[List.getElem?_eq_getElem hk]
theorem o3 {d:bM} {p:Prod} {mask:Nat} (G:tb d p):∀ k,(bP d p mask k).rhs.length≤33*k∧(bP d p mask k).os.length=(bP d p mask k).rhs.length∧(bP d p mask k).mask≤mask
 | 0=>by simp [bP]
 | k+1=>by
   obtain⟨h1,h2,h3⟩:=o3 G k (mask:=mask)
   by_cases hk:k<p.aj.length
   ·rw[kG hk]
    have hl:=yO (d:=d) (lex:=p.lex) (G.t _ (List.getElem_mem hk))
    generalize bP d p mask k=R at h1 h2 h3
    have hput:∀ R':vY,R'.rhs=R.rhs→R'.os=R.os→R'.mask≤mask→(fD d p.lex R' k p.aj[k]).rhs.length≤33*(k+1)∧(fD d p.lex R' k p.aj[k]).os.length=(fD d p.lex R' k p.aj[k]).rhs.length∧(fD d p.lex R' k p.aj[k]).mask≤mask:=fun R' e1 e2 e3=>by
     unfold fD
     rw[e1,e2]
     refine⟨?_,?_,e3⟩
     ·simp only[List.length_append]
      split<;>simp<;>omega
     ·simp only[List.length_append,List.length_replicate]
      split<;>simp<;>omega
    unfold jv
    split
    ·split
     ·exact⟨by simp only;omega,h2,by simp only;omega⟩
     ·exact hput _ rfl rfl (by simp only;omega)
    ·exact hput R rfl rfl h3
   ·have:bP d p mask (k+1)=bP d p mask k:=by
     conv=>lhs;unfold bP
     rw[List.getElem?_eq_none om]
    rw[this]
    exact⟨by omega,h2,h3⟩
theorem Ej {n:Nat} (h:n<16):IntKind.i64.wrap (BitVec.ofInt IntKind.i64.bits (n:Int) &&& BitVec.ofInt IntKind.i64.bits 1).toNat=((n % 2:Nat):Int):=by
 have:∀ n:Fin 16,IntKind.i64.wrap (BitVec.ofInt IntKind.i64.bits (n.1:Int) &&& BitVec.ofInt IntKind.i64.bits 1).toNat=((n.1 % 2:Nat):Int):=by decide
 exact this ⟨n,h⟩
theorem bT.kY {a b:ah} {v:Value} {n w:Nat} {cells:List Value} {et:TypeId} {ts:List TypeId} (hs:bT a v n cells et w) (k:cj ts a b) (h:et∉ts):bT b v n cells et w:=by{
refine⟨hs.1,?_⟩
rcases hs.2 with h1|⟨id,ar,own,c,e,h2⟩
·exact .inl h1
·exact .inr ⟨id,ar,own,c,e,k _ _ h2 (dR h)⟩}
theorem yB {all:Array Oper} {o:Oper} {r:List Oper} {s:St} {K:St→Prop} {x:Operand} {t y:Nat} {e:TypeId} {ti:TI} {v:Value} {cs cells:List Value} {n:Nat} {h:ah} (hw:aF all o s=some true) (ho:o.op = .call { callee:=.builtin .append,args:=#[x,.tmp y],argTypes:=#[t,t] }) (hu:env.P.underlying t=some (.slice e)) (ht:aq env.P e=some ti) (hs0:0<ti.size) (hz:(ti.zero.map fun z=>z.cells.size)=some ti.size) (hx:ev s x=some v) (hy:aW s.fr y = .mx cs 1) (G:aL h s.h v n cells e) (hp:h <+: s.h) (hl:cells.length=n*ti.size) (hc:cs.length=ti.size) (hb:(n+1)*ti.bytes≤140737488355328) (hn:n+1≤140737488355328) (k:∀ p c h',aL h h' (.slice p (n+1) c) (n+1) (cells++cs) e→h <+: h'→(∀ j o,bB v j=false→s.h[j]? = some o→h'[j]? = some o)→(∀ x,bB (.slice p (n+1) c) x=true→bB v x=true∨x=s.h.length)→s.h.length≤h'.length→OW env all r ({ s with h:=h' }.a9 o.dst (.val (.slice p (n+1) c))) K):OW env all (o :: r) s K:=by{
have hi:cd s s.h ti.size (.tmp y)=some (cs,1):=by simp only[cd,hy,hc,Nat.one_mul,if_true]
rcases G with ⟨rfl,rfl,rfl⟩ | ⟨id,ar,h1,rfl,h3⟩
·refine og hw ho hu ht hs0 hz hx hi (by decide) (by simpa using hb) (by decide) ?_
 exact k (some ⟨s.h.length,0,some 0⟩) 1 _ (.inr ⟨s.h.length,0,hp.length_le,rfl,by simp⟩) (bU hp) (fun j o _ h=>bg h) (fun x hx=>by
  simp only[bB,beq_iff_eq] at hx
  exact .inr hx.symm) (by simp)
·refine oZ hw ho hu ht hs0 hz hx h3 om hi hb hn ?_
 rw[List.take_of_length_le om]
 refine k (some ⟨id,0,some (ar+1)⟩) (n+1) _ (.inr ⟨id,ar+1,h1,rfl,aw h3⟩) (a8 hp h1) (fun j o hj h=>?_) (fun x hx=>?_) (by simp)
 ·simp only[bB,beq_eq_false_iff_ne] at hj
  rw[aD hj]
  exact h
 ·simp only[bB] at hx ⊢
  exact .inl hx}
theorem aL.base {a b c:ah} {v:Value} {n:Nat} {cells:List Value} {et:TypeId} (G:aL b c v n cells et) (h:a <+: b):aL a c v n cells et:=by{
rcases G with G|⟨id,ar,h1,h2,h3⟩
·exact .inl G
·exact .inr ⟨id,ar,Nat.le_trans h.length_le h1,h2,h3⟩}
theorem MR.pre {h0 hk h1:ah} {im:Nat} {m:MK} {l:List (ch×gO)} (M:MR h0 hk im m l) (hp:hk <+: h1):MR h0 h1 im m l:=
 ⟨M.p.trans hp,M.lm,ag hp M.o,M.r.eD (cj.pre (ts:=[]) hp) (by simp) (by simp),M.f.eD (cj.pre (ts:=[]) hp) (by simp) (by simp)⟩
section
variable {h0 hk:ah} {im:Nat} {m:MK} {d:bM} {es:List (ByteArray×Int)} {ks:List (bt×Int)} {l:List (ch×gO)}
theorem Ig (M:MR h0 hk im m l) (S:MS hk m d es ks) (hP:eR hk m.vP d.aa) {kj mask:Nat} (ha:kj<d.aa.length) (G:tb d d.aa[kj]) (hm:mask<16) (hl:l.length≤1000000) : FW env 96 [.pointer (some ⟨im,0,some 0⟩),i64 (kj:Int),i64 (mask:Int)] hk fun r h'=>r = .tuple #[]∧∃ vr' vf',MR h0 h' im { m with vr:=vr',vf:=vf' } (l++[nj d kj d.aa[kj] mask])∧cj J5 hk h':=by{
have hob:=M.o
obtain⟨id,ar,own,c',cells,u,hv,hid,hrd,hu⟩:=cV.at (k:=5) (fun _ _=>rfl) hP ha
have hu:fR hk u d.aa[kj].aj:=hu
have hu0:=hu
obtain⟨ps,cs,rfl⟩:=bT.form hu
have wa:=cg ha
obtain⟨p,hpe⟩:∃ p,p=d.aa[kj]:=⟨_,rfl⟩
rw[← hpe] at hrd hu hu0 G ⊢
have hn12:=G.n
have hUL:=o3 (mask:=mask) G
unfold MK.cells at hob
have hgp:=S.gp
have hob1:=hob
rw[hv] at hob1
refine fe Tryz.func96 ?_;simp only[push_cast]
refine fi hob1 wa hid hrd ?_
refine CW.mono (Q:=fun e s'=>e = .exit 0∧∃ (h1:ah) (vr vo:Value),hk <+: h1∧aL hk h1 vr (cZ d p mask).rhs.length ((cZ d p mask).rhs.flatMap aT.cells) 65∧aL hk h1 vo (cZ d p mask).os.length ((cZ d p mask).os.map i64) 3∧s'.h=h1∧bA [(0,.val (.pointer (some ⟨im,0,some 0⟩))),(6,.box [.bool p.lex,.string p.sort,.string p.cons,.bool p.bracket,.slice ps p.aj.length cs]),(7,.box [i64 0,i64 (kj:Int),i64 (mask:Int),vo]),(8,.val vr)] s'.fr) ?_ ?_
·refine aZ p.aj.length (fun k (x:ah×Value×Value)=>[(0,.val (.pointer (some ⟨im,0,some 0⟩))),(2,.val (i64 ((bP d p mask k).mask:Int))),(6,.box [.bool p.lex,.string p.sort,.string p.cons,.bool p.bracket,.slice ps p.aj.length cs]),(7,.box [i64 0,i64 (kj:Int),i64 (mask:Int),x.2.2]),(8,.val x.2.1),(27,.val (.slice ps p.aj.length cs)),(28,.val (i64 p.aj.length)),(29,.val (i64 k))]) (fun _ x=>x.1)
  (fun k x=>hk <+: x.1∧aL hk x.1 x.2.1 (bP d p mask k).rhs.length ((bP d p mask k).rhs.flatMap aT.cells) 65∧aL hk x.1 x.2.2 (bP d p mask k).os.length ((bP d p mask k).os.map i64) 3) (hk,bX,bX) (by simp only[bP];exact aK) rfl ⟨List.prefix_refl _,aL.nil,aL.nil⟩ ?_
 rintro k ⟨h1,vr,vo⟩ hkn ⟨hp1,hG1,hG2⟩
 simp only at hp1 hG1 hG2 ⊢
 by_cases hlt:k<p.aj.length
 ·obtain⟨ids,vers,owns,cs',hvs,hids⟩:=bT.at (hu.mono hp1) om
  cases hvs
  have hgs:=ig hlt
  have e1:=cg hlt
  have e2:=inc hlt om
  have e3:=aS hlt
  have hsuc:=kG (d:=d) (mask:=mask) hlt
  obtain⟨u1,u2,u3⟩:=hUL k
  have hsm:=List.getElem_mem hlt
  have hst:=G.t _ hsm
  have hsn:=G.nm _ hsm
  generalize p.aj[k]=s at hgs hsuc hsm hst hsn
  generalize hRR:bP d p mask k=R at hG1 hG2 hsuc u1 u2 u3 ⊢
  obtain⟨qr,cr,rfl⟩:=hG1.form
  obtain⟨qo,co,rfl⟩:=hG2.form
  refine aG e3 ?_
  refine ae rfl ?_
  refine zu ?_
  iterate 6 (refine zx (Rv e1 hids hgs) ?_)
  refine zu ?_
  iterate 8 (refine zx tP ?_)
  apply zn
  show CW _ _ _ _
  obtain⟨m2,hm2⟩:∃ m2,m2=R.mask / 2:=⟨_,rfl⟩
  obtain⟨r2,hr2⟩:∃ r2,r2=R.mask % 2:=⟨_,rfl⟩
  refine CW.mono (Q:=fun e s'=>s'.h=h1∧((e = .exit 1∧bP d p mask (k+1)=⟨m2,R.rhs,R.os⟩∧bA [(0,.val (.pointer (some ⟨im,0,some 0⟩))),(6,.box [.bool p.lex,.string p.sort,.string p.cons,.bool p.bracket,.slice (some ⟨ids,0,some vers⟩) p.aj.length cs]),(27,.val (.slice (some ⟨ids,0,some vers⟩) p.aj.length cs)),(28,.val (i64 p.aj.length)),(29,.val (i64 k)),(2,.val (i64 (m2:Int))),(7,.box [i64 0,i64 (kj:Int),i64 (mask:Int),.slice qo R.os.length co]),(8,.val (.slice qr R.rhs.length cr))] s'.fr)∨(e = .normal∧∃ M1:Nat,bP d p mask (k+1)=fD d p.lex ⟨M1,R.rhs,R.os⟩ k s∧bA [(0,.val (.pointer (some ⟨im,0,some 0⟩))),(6,.box [.bool p.lex,.string p.sort,.string p.cons,.bool p.bracket,.slice (some ⟨ids,0,some vers⟩) p.aj.length cs]),(27,.val (.slice (some ⟨ids,0,some vers⟩) p.aj.length cs)),(28,.val (i64 p.aj.length)),(29,.val (i64 k)),(2,.val (i64 (M1:Int))),(7,.box [i64 0,i64 (kj:Int),i64 (mask:Int),.slice qo R.os.length co]),(8,.val (.slice qr R.rhs.length cr)),(10,.box [i64 s.kind,.string s.text,u64 s.set.a,u64 s.set.b,u64 s.set.c,u64 s.set.d,.string s.name,.string s.sep]),(9,.val (i64 k))] s'.fr))) ?_ ?_
  ·have hR16:R.mask<16:=by omega
   cases hL:dG s with
   | true=>
     rw[show (decide (s.kind=4)||decide (s.kind=5))=true from hL]
     unfold jv at hsuc
     rw[if_pos hL,← hm2] at hsuc
     have hand:=Ej hR16
     rw[← hr2] at hand
     have hshr:((R.mask:Int)).fdiv (2 ^ min 1 IntKind.i64.bits)=(m2:Int):=by
      rw[show min 1 IntKind.i64.bits=1 from rfl,Int.fdiv_eq_ediv_of_nonneg _ (by decide)]
      omega
     refine ae rfl ?_
     by_cases hz:r2=0
     ·have dz:decide ((r2:Int)=0)=true:=decide_eq_true om
      rw[← hr2,if_pos hz] at hsuc
      refine gV hand hshr dz ?_
      refine ae rfl ?_
      refine az ?_
      exact⟨rfl,.inl ⟨rfl,hsuc,aK⟩⟩
     ·have dz:decide ((r2:Int)=0)=false:=decide_eq_false om
      rw[← hr2,if_neg hz] at hsuc
      refine gV hand hshr dz ?_
      refine af rfl ?_
      refine cz ?_
      exact⟨rfl,.inr ⟨rfl,m2,hsuc,aK⟩⟩
   | false=>
     rw[show (decide (s.kind=4)||decide (s.kind=5))=false from hL]
     unfold jv at hsuc
     rw[if_neg (by rw[hL];decide)] at hsuc
     refine af rfl ?_
     refine cz ?_
     exact⟨rfl,.inr ⟨rfl,R.mask,hsuc,aK⟩⟩
  rintro e s' ⟨hh,⟨rfl,hsuc,hf⟩ | ⟨rfl,M1,hsuc,hf⟩⟩
  ·show CW _ _ _ _
   refine aB _ hf ?_
   rw[hh]
   clear hf hh s'
   refine aG e2 ?_
   refine⟨hlt,(h1,.slice qr R.rhs.length cr,.slice qo R.os.length co),?_,rfl,hp1,?_,?_⟩
   ·dsimp only
    rw[hsuc]
    exact aK
   ·rw[hsuc]
    exact hG1
   ·rw[hsuc]
    exact hG2
  show CW _ _ _ _
  refine aB _ hf ?_
  rw[hh]
  clear hf hh s'
  obtain⟨R1,hR1⟩:∃ R1,R1=R.rhs++if jn d p.lex R.rhs=true then [dy (bl d)] else []:=⟨_,rfl⟩
  obtain⟨O1,hO1⟩:∃ O1,O1=R.os++if jn d p.lex R.rhs=true then [-1] else []:=⟨_,rfl⟩
  have hsuc2:bP d p mask (k+1)=⟨M1,R1++fl d p.lex s,O1++List.replicate (fl d p.lex s).length (k:Int)⟩:=by rw[hsuc,hR1,hO1];rfl
  have hR1l:R1.length≤33*k+1:=by rw[hR1,List.length_append];split<;>simp<;>omega
  have hO1l:O1.length≤33*k+1:=by rw[hO1,List.length_append];split<;>simp<;>omega
  have hob1:=ag hp1 hob
  apply zs
  refine CW.mono (Q:=fun e s'=>e = .normal∧∃ (h2:ah) (q2:Option Addr) (c2:Nat) (q3:Option Addr) (c3:Nat),hk <+: h2∧aL hk h2 (.slice q2 R1.length c2) R1.length (R1.flatMap aT.cells) 65∧aL hk h2 (.slice q3 O1.length c3) O1.length (O1.map i64) 3∧s'.h=h2∧bA [(0,.val (.pointer (some ⟨im,0,some 0⟩))),(6,.box [.bool p.lex,.string p.sort,.string p.cons,.bool p.bracket,.slice (some ⟨ids,0,some vers⟩) p.aj.length cs]),(27,.val (.slice (some ⟨ids,0,some vers⟩) p.aj.length cs)),(28,.val (i64 p.aj.length)),(29,.val (i64 k)),(2,.val (i64 (M1:Int))),(7,.box [i64 0,i64 (kj:Int),i64 (mask:Int),.slice q3 O1.length c3]),(8,.val (.slice q2 R1.length c2)),(9,.val (i64 k)),(10,.box [i64 s.kind,.string s.text,u64 s.set.a,u64 s.set.b,u64 s.set.c,u64 s.set.d,.string s.name,.string s.sep])] s'.fr) ?_ ?_
  ·have hno:jn d p.lex R.rhs=false→hk <+: h1∧aL hk h1 (.slice qr R1.length cr) R1.length (R1.flatMap aT.cells) 65∧aL hk h1 (.slice qo O1.length co) O1.length (O1.map i64) 3∧R1=R.rhs∧O1=R.os:=fun hn=>by
    rw[hn,if_neg (by decide),List.append_nil] at hR1 hO1
    rw[hR1,hO1]
    exact⟨hp1,hG1,hG2,rfl,rfl⟩
   by_cases q1:R.rhs.length=0
   ·have hn:jn d p.lex R.rhs=false:=by unfold jn;rw[List.isEmpty_iff.2 (List.eq_nil_of_length_eq_zero q1)];rfl
    obtain⟨a1,a2,a3,a4,a5⟩:=hno hn
    have dl:decide ((0:Int)<(R.rhs.length:Int))=false:=decide_eq_false om
    refine aG dl ?_
    refine af rfl ?_
    refine cz ?_
    refine⟨rfl,h1,qr,cr,qo,co,a1,a2,a3,rfl,?_⟩
    rw[a4,a5]
    exact aK
   have dl:decide ((0:Int)<(R.rhs.length:Int))=true:=decide_eq_true om
   have hne:R.rhs.isEmpty=false:=by cases e:R.rhs with|nil=>rw[e] at q1;exact absurd rfl q1|cons a b=>rfl
   cases hlx:p.lex with
   | true=>
     have hn:jn d p.lex R.rhs=false:=by unfold jn;rw[hlx];simp
     obtain⟨a1,a2,a3,a4,a5⟩:=hno hn
     refine fh dl hlx ?_
     refine af rfl ?_
     refine cz ?_
     refine⟨rfl,h1,qr,cr,qo,co,a1,a2,a3,rfl,?_⟩
     rw[a4,a5]
     exact (lH hlx)
   | false=>
   cases hem:b7 d.layout with
   | true=>
     have hn:jn d p.lex R.rhs=false:=by unfold jn;rw[hem];simp
     obtain⟨a1,a2,a3,a4,a5⟩:=hno hn
     have dg:decide (0≤m.lI)=false:=by rw[hgp];unfold bl;rw[if_pos hem];rfl
     refine fi dl hlx hob1 dg ?_
     refine af rfl ?_
     refine cz ?_
     refine⟨rfl,h1,qr,cr,qo,co,a1,a2,a3,rfl,?_⟩
     rw[a4,a5]
     exact (lH hlx)
   | false=>
     have hn:jn d p.lex R.rhs=true:=by unfold jn;rw[hem,hlx,hne];rfl
     rw[hn,if_pos rfl] at hR1 hO1
     have dg:decide (0≤m.lI)=true:=by rw[hgp];unfold bl;rw[if_neg (by rw[hem];decide)];exact decide_eq_true om
     refine fi dl hlx hob1 dg ?_
     refine ae rfl ?_
     refine aG hob1 ?_
     refine zj Tryz.func99 ?_
     refine my.mono ?_
     rintro _ h2 ⟨rfl,e7⟩
     obtain rfl:=e7.symm
     rw[hgp]
     refine aC ?_
     refine lr (t:=61) (cs:=aT.cells (dy (bl d))) ak rfl kr zp (by decide) rfl ak rfl hG1 hp1 (by rw[jT]) rfl (by simp only;omega) om ?_
     intro p2 c2 h2 k1 k2 k3 _
     have hG22:=hG2.eD (cj.push hG1 k3) (by decide)
     refine aC ?_
     refine lr (t:=39) (cs:=[i64 (-1)]) ak rfl kr NY (by decide) rfl ak rfl hG22 k2 (by simp) rfl (by simp only;omega) om ?_
     intro p3 c3 h3 k4 k5 k6 _
     have k1':=aL.eD k1 (cj.push hG22 k6) (by decide)
     refine aC ?_
     have l1:R1.length=R.rhs.length+1:=by rw[hR1];simp
     have l2:O1.length=R.os.length+1:=by rw[hO1];simp
     refine⟨rfl,h3,p2,c2,p3,c3,k5,?_,?_,rfl,?_⟩
     ·rw[l1,hR1,List.flatMap_append,List.flatMap_singleton]
      exact k1'
     ·rw[l2,hO1,List.map_append]
      exact k4
     ·rw[l1,l2]
      exact (lH hlx)
  rintro e s' ⟨rfl,h2,q2,c2,q3,c3,hp2,hG3,hG4,hh,hf⟩
  show CW _ _ _ _
  refine aB _ hf ?_
  rw[hh]
  clear hf hh s' hG1 hG2 hob1 hp1
  have hob2:=ag hp2 M.o
  refine aC ?_
  refine zj Tryz.func141 ?_
  refine (Lr hob2 (S.eD (cj.pre (ts:=[]) hp2)) (hu.mono hp2) G.mem hsm hsn om).mono ?_
  rintro _ h3 ⟨hp3,hGK⟩
  have hKl:=yO (d:=d) (lex:=p.lex) hst
  generalize fl d p.lex s=K at hGK hKl hsuc2
  obtain⟨qk,ck,rfl⟩:=hGK.form
  have hlen2:=hp2.length_le
  have hlen3:=hp3.length_le
  refine aC ?_
  refine aZ K.length (fun j (x:ah×Value×Value)=>[(0,.val (.pointer (some ⟨im,0,some 0⟩))),(6,.box [.bool p.lex,.string p.sort,.string p.cons,.bool p.bracket,.slice (some ⟨ids,0,some vers⟩) p.aj.length cs]),(27,.val (.slice (some ⟨ids,0,some vers⟩) p.aj.length cs)),(28,.val (i64 p.aj.length)),(29,.val (i64 k)),(2,.val (i64 (M1:Int))),(9,.val (i64 k)),(7,.box [i64 0,i64 (kj:Int),i64 (mask:Int),x.2.2]),(8,.val x.2.1),(79,.val (.slice qk K.length ck)),(80,.val (i64 K.length)),(81,.val (i64 j))]) (fun _ x=>x.1)
   (fun j x=>hk <+: x.1∧h3.length≤x.1.length∧aL hk x.1 x.2.1 (R1.length+j) ((R1++K.take j).flatMap aT.cells) 65∧aL hk x.1 x.2.2 (O1.length+j) ((O1++List.replicate j (k:Int)).map i64) 3∧aL h2 x.1 (.slice qk K.length ck) K.length (K.flatMap aT.cells) 65∧∀ b,bB x.2.1 b=true→b<h2.length∨h3.length≤b) (h3,.slice q2 R1.length c2,.slice q3 O1.length c3) aK rfl ⟨hp2.trans hp3,Nat.le_refl _,?_,?_,hGK,fun b hb=>.inl (hG3.lt hb).2⟩ ?_
  ·rw[List.take_zero,List.append_nil,Nat.add_zero]
   exact hG3.eD (cj.pre (ts:=[]) hp3) (by simp)
  ·rw[List.replicate_zero,List.append_nil,Nat.add_zero]
   exact hG4.eD (cj.pre (ts:=[]) hp3) (by simp)
  rintro j ⟨h4,vr4,vo4⟩ hjn ⟨hp4,hlen4,hGr,hGo,hGk,hsep⟩
  simp only at hp4 hlen4 hGr hGo hGk hsep ⊢
  by_cases hjl:j<K.length
  ·have v1:=cg hjl
   have v2:=inc hjl om
   have v3:=aS hjl
   obtain⟨idk,verk,ownk,ckk,hvk,hidk⟩:=(hGk.sl (b:=40) om).at om
   cases hvk
   have hgk:jU (K.flatMap aT.cells) (j*5) 5=some [i64 K[j].nt,u64 K[j].set.a,u64 K[j].set.b,u64 K[j].set.c,u64 K[j].set.d]:=bS (f:=aT.cells) (k:=5) (fun _=>rfl) K j K[j] (by simp [hjl])
   have htk:K.take (j+1)=K.take j++[K[j]]:=List.take_succ_eq_append_getElem hjl
   generalize K[j]=y at hgk htk
   obtain⟨qr4,cr4,rfl⟩:=hGr.form
   obtain⟨qo4,co4,rfl⟩:=hGo.form
   have hrl:((R1++K.take j).flatMap aT.cells).length=(R1.length+j)*5:=by rw[jT,List.length_append,List.length_take,Nat.min_eq_left om]
   have hol:((O1++List.replicate j (k:Int)).map i64).length=(O1.length+j)*1:=by simp
   refine aG v3 ?_
   refine ae rfl ?_
   refine gV v1 hidk hgk ?_
   refine yB (t:=61) (cs:=aT.cells y) ak rfl kr zp (by decide) rfl ak rfl hGr hp4 hrl rfl (by simp only;omega) om ?_
   intro p5 c5 h5 k1 k2 k3 k4 hlen5
   have hlen5:h4.length≤h5.length:=hlen5
   have k4:∀ x,bB (.slice p5 (R1.length+j+1) c5) x=true→bB (.slice qr4 (R1.length+j) cr4) x=true∨x=h4.length:=k4
   have hGo5:=hGo.eD (cj.push hGr k3) (by decide)
   have hGk5:aL h2 h5 (.slice (some ⟨idk,0,some verk⟩) K.length ck) K.length (K.flatMap aT.cells) 65:=hGk.mono fun b o hb ho=>k3 b o (by
    cases e:bB (.slice qr4 (R1.length+j) cr4) b with
    | false=>rfl
    | true=>
      have a1:=hsep b e
      have a2:=hGk.lt hb
      have a3:=hGK.lt hb
      omega) ho
   refine aC ?_
   refine yB (t:=39) (cs:=[i64 (k:Int)]) ak rfl kr NY (by decide) rfl ak rfl hGo5 k2 hol rfl (by simp only;omega) om ?_
   intro p6 c6 h6 k5 k6 k7 _ hlen6
   have hlen6:h5.length≤h6.length:=hlen6
   have k1':=aL.eD k1 (cj.push hGo5 k7) (by decide)
   have hGk6:=hGk5.eD (cj.push hGo5 k7) (by decide)
   refine aG v2 ?_
   refine⟨hjl,(h6,.slice p5 (R1.length+(j+1)) c5,.slice p6 (O1.length+(j+1)) c6),?_,rfl,k6,?_,?_,?_,hGk6,fun b hb=>?_⟩
   ·dsimp only
    exact (by simp only[push_cast,Nat.reduceEqDiff,reduceIte,Nat.add_assoc])
   ·simp only;omega
   ·rw[htk,← List.append_assoc,List.flatMap_append,List.flatMap_singleton]
    exact k1'
   ·rw[List.replicate_succ',← List.append_assoc,List.map_append]
    exact k5
   ·rcases k4 b hb with a|a
    ·exact hsep b a
    ·right;omega
  ·have v3:=aP hjl
   obtain rfl:j=K.length:=by omega
   rw[List.take_length] at hGr
   refine aG v3 ?_
   refine af rfl ?_
   refine az ?_
   show CW _ _ _ _
   refine aG e2 ?_
   refine⟨hlt,(h4,vr4,vo4),?_,rfl,hp4,?_,?_⟩
   ·dsimp only
    rw[hsuc2]
    exact aK
   ·rw[hsuc2]
    simp only[List.length_append]
    exact hGr
   ·rw[hsuc2]
    simp only[List.length_append,List.length_replicate]
    exact hGo
 ·have e3:=aP hlt
  obtain rfl:k=p.aj.length:=by omega
  refine aG e3 ?_
  refine af rfl ?_
  refine az ?_
  exact⟨rfl,h1,vr,vo,hp1,hG1,hG2,rfl,aK⟩
rintro e s' ⟨rfl,h1,vr,vo,hp1,hG1,hG2,hh,hf⟩
show CW _ _ _ _
refine aB _ hf ?_
rw[hh]
clear hf hh s' hob hob1
have M1:=M.pre hp1
have S1:=S.eD (cj.pre (ts:=[]) hp1)
have hr:=kF M1 (lhs:=(eE d p.sort:Int)) (kd:=0) (pr:=(kj:Int)) (mk:=(mask:Int)) (hG1.base M.p) (hG2.base M.p) hl
unfold FW at hr
obtain⟨r,h5,hcall,rfl,vr',vf',hM5,hK5⟩:=hr
have hob:=M1.o
unfold MK.cells at hob
have hsm:=S1.sm
have hg:=S1.sg _ G.so
have hkk:=br es
obtain⟨qr,cr,rfl⟩:=hG1.form
obtain⟨qo,co,rfl⟩:=hG2.form
refine aB [(0,.val (.pointer (some ⟨im,0,some 0⟩))),(6,.box [.bool p.lex,.string p.sort,.string p.cons,.bool p.bracket,.slice ps p.aj.length cs]),(7,.box [i64 0,i64 (kj:Int),i64 (mask:Int),.slice qo (cZ d p mask).os.length co]),(8,.val (.slice qr (cZ d p mask).rhs.length cr))] aK ?_
show CW _ _ ⟨_,[],h1⟩ _
apply bm (L:=[[],[],[1],[1,2],[1,2,3],[],[5],[1,2,3,4,5,6],[],[],[0,1,2,3,4,5,6,7,8,9]]) (act:=[10]) (hs:=[h5]) (resL:=[_,_,_,_,_,_,_,_,_,_,_]) (frF:=[])
case hm=>exact mixed
case hc=>kernel_rfl
case ha=>rfl
case hb=>rfl
case hS=>
 refine tQ hob hsm hg hkk ?_
 apply ay.cons
 ·rfl
 ·refine⟨?_,trivial⟩
  exact dL (args:=[.pointer (some ⟨im,0,some 0⟩),i64 (eE d p.sort:Int),.slice qr (cZ d p mask).rhs.length cr,.agg #[i64 0,i64 (kj:Int),i64 (mask:Int),.slice qo (cZ d p mask).os.length co]]) (cap:=[]) (fn:=Tryz.f98) ak rfl ak ak Tryz.func98 kr kr hcall
 ·rfl
 exact ay.nil _
case ht=>rfl
case hF=>exact zh
exact⟨_,ak,rfl,vr',vf',hM5,(cj.pre hp1).trans hK5⟩}
end
theorem CB {t e:TypeId} {ti:TI} {v w:Value} {n m b:Nat} {cells cs:List Value} {h hk:ah} (hu:env.P.underlying t=some (.slice e)) (ht:aq env.P e=some ti) (hs0:0<ti.size) (hz:(ti.zero.map fun z=>z.cells.size)=some ti.size) (G:aL h hk v n cells e) (hp:h <+: hk) (hl:cells.length=n*ti.size) (hy:bT hk w m cs e b) (hlc:cs.length=m*ti.size) (h0:0<m) (hb:(n+m)*ti.bytes≤140737488355328) (hn:n+m≤140737488355328):∃ p c h', (∀ (all:Array Oper) (o:Oper) (s:St) (x:Operand) (y:Nat),s.h=hk→aF all o s=some true→o.op = .call { callee:=.builtin .append,args:=#[x,.tmp y],argTypes:=#[t,t] }→ev s x=some v→aW s.fr y = .val w → One env all o s (.sl (.val (.slice p (n+m) c))) h') ∧ aL h h' (.slice p (n+m) c) (n+m) (cells++cs) e∧h <+: h'∧(∀ j o,bB v j=false→hk[j]? = some o→h'[j]? = some o):=by{
obtain⟨id,ar,own,c',rfl,hid⟩:=hy.at h0
have hrd:jU cs 0 (m*ti.size)=some cs:=by
 simp only[jU,vt,Nat.zero_add,List.drop_zero,hlc]
 rw[if_pos (Nat.le_refl _),← hlc,List.take_length]
have hi:∀ (s:St) (y:Nat),s.h=hk→aW s.fr y = .val (.slice (some ⟨id,0,some ar⟩) m c')→cd s s.h ti.size (.tmp y)=some (cs,m):=fun s y hh hf=>by
 simp only[cd,hf,hh,hid,if_true]
 first|rw[hrd];rfl|(unfold jU at hrd;rw[hrd];rfl)
rcases G with ⟨rfl,rfl,rfl⟩ | ⟨idx,vex,h1,rfl,h3⟩
·rw[Nat.zero_add] at hb hn ⊢
 refine⟨some ⟨hk.length,0,some 0⟩,m,hk++[av.aA cs 0 true e],fun all o s x y hh hw ho hx hy=>?_,.inr ⟨hk.length,0,hp.length_le,rfl,by rw[List.nil_append];exact aJ⟩,bU hp,fun j o _ h=>bg h⟩
 have:=hi s y hh hy
 subst hh
 exact .y5 hw ho hu rfl ht hs0 hz hx this h0 hb hn
·refine⟨some ⟨idx,0,some (vex+1)⟩,n+m,hk.set idx (av.aA (cells++cs) (vex+1) true e),fun all o s x y hh hw ho hx hy=>?_,.inr ⟨idx,vex+1,h1,rfl,aw h3⟩,a8 hp h1,fun j o hj h=>?_⟩
 ·have h4:=hi s y hh hy
  subst hh
  have:=One.KF (N:=env) hw ho hu rfl ht hs0 hz hx h3 om h4 hb hn
  rwa [List.take_of_length_le om] at this
 ·simp only[bB,beq_eq_false_iff_ne] at hj
  rw[aD hj]
  exact h}
theorem cV.kY {α:Type} {f:α→Value→List Value} {R:ah→Value→α→Prop} {et:TypeId} {w:Nat} {a b:ah} {v:Value} {l:List α} {ts:List TypeId} (h:cV f R et w a v l) (k:cj ts a b) (hn:et∉ts) (hR:∀ u x,R a u x→R b u x):cV f R et w b v l:=by
 obtain⟨us,hl,hs,hu⟩:=h
 exact⟨us,hl,hs.kY k hn,fun i x u h1 h2=>hR _ _ (hu i x u h1 h2)⟩
theorem eR.kY {a b:ah} {v:Value} {l:List Prod} {ts:List TypeId} (h:eR a v l) (k:cj ts a b) (h1:51∉ts) (h2:56∉ts):eR b v l:=cV.kY h k h1 fun u x hu=>bT.kY hu k h2
section
variable {h0 hk:ah} {im:Nat} {m:MK} {d:bM} {es:List (ByteArray×Int)} {ks:List (bt×Int)}
theorem jk {k:Nat} (hk:k<d.aa.length):ii d (k+1)=ii d k++jX d k d.aa[k]:=by
 conv=>lhs;unfold ii
 rw[List.getElem?_eq_getElem hk]
theorem sJ {p:Prod} (h:g7 p.aj≤4):k8 p≤16:=by{
unfold k8
generalize g7 p.aj=o at h
have:o=0∨o=1∨o=2∨o=3∨o=4:=by omega
rcases this with rfl|rfl|rfl|rfl|rfl<;>decide}
theorem nW (G:∀ p∈d.aa,tb d p):∀ k,(ii d k).length≤16*k
 | 0=>by simp [ii]
 | k+1=>by
   have h:=nW G k
   by_cases hk:k<d.aa.length
   ·rw[jk hk,List.length_append]
    have h2:(jX d k d.aa[k]).length≤16:=by
     unfold jX
     rw[List.length_map,List.length_range]
     exact sJ (G _ (List.getElem_mem hk)).o
    omega
   ·have:ii d (k+1)=ii d k:=by
     conv=>lhs;unfold ii
     rw[List.getElem?_eq_none om]
    rw[this]
    omega
theorem N8 {k:bt} (S:m.lI=bl d):(!k.lex&&decide (0≤m.lI))=(!k.lex && !b7 d.layout):=by{
rw[S]
unfold bl
cases b7 d.layout with
| true=>simp
| false=>
  rw[if_neg (by decide)]
  have:decide (0≤((nS d+nK d:Nat):Int))=true:=decide_eq_true om
  rw[this]
  rfl}
theorem yr {ha:ah} {i6 i1 i9:Nat} {k:bt} {l:List aT} {v:Value} (hp:ha <+: hk) (h9:ha.length≤i9) (S:m.lI=bl d) (ho:ha[im]? = some (.aA m.cells 0 true 94)) (hx6:ha[i6]? = some (.aA k.cells 0 true 154)) (hx1:ha[i1]? = some (.aA [.pointer (some ⟨im,0,some 0⟩)] 0 true 89)) (hx9:hk[i9]? = some (.aA [v] 0 true 61)) (hG:aL ha hk v l.length (l.flatMap aT.cells) 65) (hl:l.length≤100000) : FW env 100 [.pointer (some ⟨i6,0,some 0⟩),.pointer (some ⟨i1,0,some 0⟩),.pointer (some ⟨i9,0,some 0⟩)] hk fun r h'=>r = .tuple #[]∧ha <+: h'∧∃ v',h'[i9]? = some (.aA [v'] 0 true 61)∧aL ha h' v' (l++dP d k).length ((l++dP d k).flatMap aT.cells) 65:=by{
have hob:=ag hp ho
have hk6:=ag hp hx6
have hk1:=ag hp hx1
unfold MK.cells at hob
unfold bt.cells at hk6
have hB:=N8 (k:=k) S
obtain⟨q,c,rfl⟩:=hG.form
refine fe Tryz.func100 ?_;simp only[push_cast]
cases hlx:k.lex with
| true=>
  rw[hlx] at hk6
  have hK:dP d k=[]:=by unfold dP;rw[hlx];rfl
  rw[hK,List.append_nil]
  refine aG hk6 ?_
  refine af rfl ?_
  refine aC ?_
  exact⟨_,ak,rfl,hp,_,hx9,hG⟩
| false=>
rw[hlx] at hk6 hB
cases hem:b7 d.layout with
| true=>
  rw[hem] at hB
  have dg:decide (0≤m.lI)=false:=by simpa using hB
  have hK:dP d k=[]:=by unfold dP;rw[hem,hlx];rfl
  rw[hK,List.append_nil]
  refine fi hk6 hk1 hob dg ?_
  refine af rfl ?_
  refine aC ?_
  exact⟨_,ak,rfl,hp,_,hx9,hG⟩
| false=>
  rw[hem] at hB
  have dg:decide (0≤m.lI)=true:=by simpa using hB
  have hK:dP d k=[dy (bl d)]:=by unfold dP;rw[hem,hlx];rfl
  rw[hK]
  obtain⟨p2,c2,h2,hone,k1,k2,k3,k4,k5⟩:=jf (cs:=aT.cells (dy (bl d))) (t:=61) kr zp (by decide) rfl hG hp (by rw[jT]) rfl (by simp only;omega) om
  have n9:bB (.slice q l.length c) i9=false:=by
   cases hbb:bB (.slice q l.length c) i9 with
   | false=>rfl
   | true=>
     obtain⟨ver2,h5⟩:=hG.obj hbb
     rw[hx9] at h5
     simp only[Option.some.injEq,av.aA.injEq] at h5
     exact absurd h5.2.2.2 (by decide)
  have hx92:=k3 _ _ n9 hx9
  rw[S] at hob
  rw[S] at dg
  refine fi hk6 hk1 hob dg ?_
  refine ae rfl ?_
  refine aC ?_
  refine aB [(0,.val (.pointer (some ⟨i6,0,some 0⟩))),(1,.val (.pointer (some ⟨i1,0,some 0⟩))),(2,.val (.pointer (some ⟨i9,0,some 0⟩)))] aK ?_
  show CW _ _ ⟨_,[],hk⟩ _
  apply bm (L:=[[],[],[1],[1,2],[1,2,3],[1,2,3,4],[1,2,3,4,5],[0,1,2,3,4,5,6],[0,1,2,3,4,5,6,7]]) (act:=[7,8]) (hs:=[h2,h2.set i9 (.aA [.slice p2 (l.length+1) c2] 0 true 61)]) (resL:=[_,_,_,_,_,_,_,_,_]) (frF:=[])
  case hm=>exact mixed
  case hc=>kernel_rfl
  case ha=>rfl
  case hb=>rfl
  case hS=>
   refine Oz hx9 hk1 hob ?_
   apply ay.cons
   ·rfl
   ·refine⟨?_,trivial⟩
    exact bi (fn:=Tryz.f99) (args:=[i64 (bl d)]) (cap:=[]) rfl ak rfl ak ak Tryz.func99 kr kr my
   ·rfl
   refine Oz hx9 hk1 hob ?_
   apply ay.cons
   ·rfl
   ·refine⟨?_,trivial⟩
    exact hone _ _ _ _ _ rfl ak rfl ak ak
   ·rfl
   refine Gc hx9 hx92 ?_
   apply ay.cons
   ·rfl
   ·refine⟨?_,trivial⟩
    exact One.jP (r:=.sl .dH) (cells':=[.slice p2 (l.length+1) c2]) ak rfl ak ak hx92 ak rfl rfl rfl
   ·rfl
   exact ay.nil _
  case ht=>rfl
  case hF=>exact zh
  refine⟨_,ak,rfl,a8 k2 h9,.slice p2 (l.length+1) c2,aw hx92,?_⟩
  rw[List.length_append,List.flatMap_append,List.flatMap_singleton]
  exact k1.mono fun j o hj ho=>by
   show (h2.set i9 _)[j]? = some o
   rw[aD ?_]
   ·exact ho
   ·rintro rfl
    rcases k4 _ hj with a|a
    ·rw[n9] at a;cases a
    ·have:=cD hx9;omega}
end
structure jz (d:bM):Prop where
 p:∀ p∈d.aa,tb d p
 n:d.aa.length≤200
 st:d.start∈aE d.aa
 ly:b7 d.layout=true∨d.layout∈aE d.aa
 k:∀ k∈bh d.aa,(b7 k.name=true∨k.name∈aE d.aa)∧k.sep.size≤32
 kn:(bh d.aa).length≤3000
theorem J1 {l:List bt} {i:Nat} (hi:i<l.length):jU (l.flatMap bt.cells) (i*7) 7=some [.bool l[i].lex,.string l[i].name,u64 l[i].set.a,u64 l[i].set.b,u64 l[i].set.c,u64 l[i].set.d,.string l[i].sep]:=bS (f:=bt.cells) (fun _=>rfl) l i l[i] (by simp [hi])
section
variable {h0 hk:ah} {im:Nat} {m:MK} {d:bM} {es:List (ByteArray×Int)} {ks:List (bt×Int)}
structure ND (h0 hb:ah) (im:Nat) (m:MK) (x:ah×Value×Value) (l:List (ch×gO)):Prop where
 M:MR h0 x.1 im { m with vr:=x.2.1,vf:=x.2.2 } l
 K:cj J5 hb x.1
theorem A1 {l:List bt} {k:Nat} (hk:k<l.length):iS d (l.take (k+1))=iS d (l.take k)++An d l[k]:=by
 unfold iS
 rw[List.take_succ_eq_append_getElem hk,List.flatMap_append,List.flatMap_singleton]
theorem oI {l:List bt}:(iS d l).length=2*l.length:=by{
unfold iS
induction l with
| nil=>rfl
| cons k l ih=>rw[List.flatMap_cons,List.length_append,ih];simp [An];omega}
theorem E8 (M:MR h0 hk im m []) (S:MS hk m d es ks) (hP:eR hk m.vP d.aa) (hs1:m.start=d.start) (hs2:m.layout=d.layout) (hO:aL h0 hk m.vo (bh d.aa).length ((bh d.aa).flatMap bt.cells) 154) (G:jz d) (hst:m.st=(cA d:Int)) : FW env 34 [.pointer (some ⟨im,0,some 0⟩)] hk fun r h'=>r = .tuple #[]∧∃ vr vf,MR h0 h' im { m with vr:=vr,vf:=vf } (uZ d)∧cj J5 hk h':=by{
have hlP:=cV.le hP
obtain⟨pP,cP,hvP⟩:=cV.form hP
refine fe Tryz.func34 ?_;simp only[push_cast]
refine zu ?_
refine dA (t:=89) (cs:=[.pointer (some ⟨im,0,some 0⟩)]) ak ak ?_
dsimp only[St.a9,St.put]
have hpA:hk <+: hk++[av.aA [.pointer (some ⟨im,0,some 0⟩)] 0 true 89]:=aH
have hx1:(hk++[av.aA [.pointer (some ⟨im,0,some 0⟩)] 0 true 89])[hk.length]? = some (.aA [.pointer (some ⟨im,0,some 0⟩)] 0 true 89):=aJ
generalize (hk++[av.aA [.pointer (some ⟨im,0,some 0⟩)] 0 true 89])=hb at hpA hx1 ⊢
generalize hi1:hk.length=i1 at hx1 ⊢
have KA:cj J5 hk hb:=cj.pre hpA
have MB:=M.pre hpA
have SB:=S.eD KA
have hPB:=hP.mono hpA
have hOB:=hO.eD KA (by decide)
have hobB:=MB.o
unfold MK.cells at hobB
rw[hvP] at hobB hPB
have hPB':eR hb (.slice pP d.aa.length cP) d.aa:=hPB
refine fh hx1 hobB ?_
refine CW.mono (Q:=fun e s'=>e = .exit 0∧∃ x:ah×Value×Value,ND h0 hb im m x (ii d d.aa.length)∧s'.h=x.1∧bA [(1,.val (.pointer (some ⟨i1,0,some 0⟩)))] s'.fr) ?_ ?_
·refine aZ d.aa.length (fun k (x:ah×Value×Value)=>[(1,.val (.pointer (some ⟨i1,0,some 0⟩))),(18,.val (.slice pP d.aa.length cP)),(19,.val (i64 d.aa.length)),(20,.val (i64 k))]) (fun _ x=>x.1) (fun k x=>ND h0 hb im m x (ii d k)) (hb,m.vr,m.vf) aK rfl ⟨MB,cj.refl⟩ ?_
 rintro k ⟨hc,vr,vf⟩ hkn I
 by_cases hlt:k<d.aa.length
 ·have hPC:=hPB'.kY I.K (by decide) (by decide)
  simp only at hPC
  obtain⟨id,ar,own,c',cells,u,hv,hid,hrd,hu⟩:=cV.at (k:=5) (fun _ _=>rfl) hPC hlt
  cases hv
  have hu:fR hc u d.aa[k].aj:=hu
  have hu0:=hu
  obtain⟨ps,cs,rfl⟩:=bT.form hu
  have w1:=cg hlt
  have w2:=inc hlt om
  have q3:=aS hlt
  have GP:=G.p _ (List.getElem_mem hlt)
  have hmk:=sJ GP.o
  have hrl:=nW G.p k
  have hn2:=G.n
  refine aG q3 ?_
  refine ae rfl ?_
  refine gV w1 hid hrd ?_
  refine zj Tryz.func95 ?_
  refine (EF hu0 GP.o).mono ?_
  rintro _ h2 ⟨rfl,e7⟩
  obtain rfl:=e7.symm
  have hsucc:=jk hlt
  unfold jX at hsucc
  generalize k8 d.aa[k]=N at hmk hsucc
  refine aC ?_
  refine aZ N (fun j (x:ah×Value×Value)=>[(1,.val (.pointer (some ⟨i1,0,some 0⟩))),(2,.val (i64 k)),(18,.val (.slice (some ⟨id,0,some ar⟩) d.aa.length cP)),(19,.val (i64 d.aa.length)),(20,.val (i64 k)),(26,.val (i64 N)),(27,.val (i64 j))]) (fun _ x=>x.1) (fun j x=>ND h0 hb im m x (ii d k++(List.range j).map fun q=>nj d k d.aa[k] q)) (hc,vr,vf) aK rfl (by rw[List.range_zero,List.map_nil,List.append_nil];exact I) ?_
  rintro j ⟨hd4,vr4,vf4⟩ hjn J
  by_cases hjl:j<N
  ·have v1:=cg hjl
   have v2:=inc hjl om
   have v3:=aS hjl
   have hx4:=J.K _ _ hx1 (dR (by decide))
   have hPJ:=hPB.kY J.K (by decide) (by decide)
   have SJ:=SB.eD J.K
   have MJ:=J.M
   simp only at hx4 hPJ SJ MJ ⊢
   have SJ':MS hd4 { m with vr:=vr4,vf:=vf4 } d es ks:=⟨SJ.sm,SJ.sg,SJ.lm,SJ.lg,SJ.gp⟩
   have hPJ':eR hd4 ({ m with vr:=vr4,vf:=vf4 }:MK).vP d.aa:=by show eR hd4 m.vP _;rw[hvP];exact hPJ
   refine aG v3 ?_
   refine ae rfl ?_
   refine aG hx4 ?_
   refine zj Tryz.func96 ?_
   refine (Ig MJ SJ' hPJ' (kj:=k) (mask:=j) hlt GP om (by simp only[List.length_append,List.length_map,List.length_range];omega)).mono ?_
   rintro _ h5 ⟨rfl,vr5,vf5,M5,K5⟩
   refine aG v2 ?_
   refine⟨hjl,(h5,vr5,vf5),aK,rfl,⟨?_,J.K.trans K5⟩⟩
   rw[List.range_succ,List.map_append,← List.append_assoc]
   exact M5
  ·have v3:=aP hjl
   obtain rfl:j=N:=by omega
   simp only
   refine aG v3 ?_
   refine af rfl ?_
   refine az ?_
   show CW _ _ _ _
   refine aG w2 ?_
   refine⟨hlt,(hd4,vr4,vf4),aK,rfl,?_⟩
   show ND _ _ _ _ _ (ii d (k+1))
   rw[hsucc]
   exact J
 ·have e3:=aP hlt
  obtain rfl:k=d.aa.length:=by omega
  simp only
  refine aG e3 ?_
  refine af rfl ?_
  refine az ?_
  exact⟨rfl,(hc,vr,vf),I,rfl,aK⟩
rintro e s' ⟨rfl,⟨h2,vr2,vf2⟩,I,hh,hf⟩
show CW _ _ _ _
refine aB _ hf ?_
rw[hh]
clear hf hh s'
obtain⟨qo,co,hvo⟩:=hOB.form
have hx2:=I.K _ _ hx1 (dR (by decide))
have hob2:=I.M.o
simp only[MK.cells,hvo] at hob2
simp only at hx2
have hrN:=nW G.p d.aa.length
have hn200:=G.n
have hkn:=G.kn
refine fh hx2 hob2 ?_
refine CW.mono (Q:=fun e s'=>e = .exit 4∧∃ x:ah×Value×Value,ND h0 hb im m x (ii d d.aa.length++iS d (bh d.aa))∧s'.h=x.1∧bA [(1,.val (.pointer (some ⟨i1,0,some 0⟩)))] s'.fr) ?_ ?_
·refine aZ (bh d.aa).length (fun k (x:ah×Value×Value)=>[(1,.val (.pointer (some ⟨i1,0,some 0⟩))),(39,.val (.slice qo (bh d.aa).length co)),(40,.val (i64 (bh d.aa).length)),(41,.val (i64 k))]) (fun _ x=>x.1) (fun k x=>ND h0 hb im m x (ii d d.aa.length++iS d ((bh d.aa).take k))) (h2,vr2,vf2) aK rfl (by rw[List.take_zero];show ND _ _ _ _ _ (_++[]);rw[List.append_nil];exact I) ?_
 rintro k ⟨hc,vr,vf⟩ hkn' J
 by_cases hlt:k<(bh d.aa).length
 ·have hOC:=hOB.eD J.K (by decide)
  simp only[hvo] at hOC
  obtain⟨id,ar,own,c',hv,hid⟩:=(hOC.sl (b:=72) om).at om
  cases hv
  have hkg:=J1 hlt
  have w1:=cg hlt
  have w2:=inc hlt om
  have q3:=aS hlt
  have htk:=A1 (d:=d) hlt
  obtain⟨hKn,hKs⟩:=G.k _ (List.getElem_mem hlt)
  have hKm:=List.getElem_mem hlt
  generalize (bh d.aa)[k]=K at hkg htk hKn hKs hKm
  have hlk:(iS d ((bh d.aa).take k)).length≤2*k:=by rw[oI,List.length_take];omega
  generalize hLL:ii d d.aa.length++iS d ((bh d.aa).take k)=L at J
  have hLl:L.length≤10000:=by rw[← hLL,List.length_append];omega
  have MJ:=J.M
  simp only at MJ hid ⊢
  refine aG q3 ?_
  refine ae rfl ?_
  refine zu ?_
  iterate 2 (refine zx (Rv w1 hid hkg) ?_)
  refine dA (t:=154) (cs:=[.bool false,.string ⟨#[]⟩,u64 0,u64 0,u64 0,u64 0,.string ⟨#[]⟩]) ak ak ?_
  dsimp only[St.a9,St.put]
  refine bV (v:=K.val) (vs:=K.cells) (cells':=K.cells) ak rfl rfl rfl ak aJ ak rfl rfl ?_
  dsimp only
  have hset:(hc++[av.aA [.bool false,.string ⟨#[]⟩,u64 0,u64 0,u64 0,u64 0,.string ⟨#[]⟩] 0 true 154]).set hc.length (.aA K.cells 0 true 154)=hc++[.aA K.cells 0 true 154]:=by simp
  rw[hset]
  have hp3:hc <+: hc++[av.aA K.cells 0 true 154]:=aH
  have hk3:(hc++[av.aA K.cells 0 true 154])[hc.length]? = some (.aA K.cells 0 true 154):=aJ
  generalize (hc++[av.aA K.cells 0 true 154])=h3 at hp3 hk3 ⊢
  generalize hc.length=i6 at hk3 ⊢
  have K3:cj J5 hb h3:=J.K.trans (cj.pre hp3)
  have M3:=MJ.pre hp3
  have hx3:=K3 _ _ hx1 (dR (by decide))
  have S3:=SB.eD K3
  have hob3:=M3.o
  have hk3':=hk3
  simp only[MK.cells] at hob3
  simp only[bt.cells] at hk3'
  have hlm:=S3.lm
  have hgl:=S3.lg _ hKm
  have hkk:=rf ks
  have hkd:=wK K
  unfold k9 at hkk hkd
  refine aC ?_
  refine aQ 6 mixed kr ?_
  refine C6 hx3 hob3 hk3' hlm hgl hkk hkd ?_
  have S3':MS h3 { m with vr:=vr,vf:=vf } d es ks:=⟨S3.sm,S3.sg,S3.lm,S3.lg,S3.gp⟩
  refine zj Tryz.func97 ?_
  refine (xz M3.o S3' hKn).mono ?_
  rintro _ h4 ⟨rfl,e7⟩
  obtain rfl:=e7.symm
  generalize hPK:iR d K.name K.set=PK
  refine aC ?_
  iterate 3 (refine zx (Tz hx3) ?_)
  refine df (t:=65) (cs:=aT.cells PK) (n:=1) ak kr ?_
  dsimp only[St.a9,St.put]
  have hp5:h3 <+: h3++[av.aA (aT.cells PK) 0 true 65]:=aH
  have hu5:aL h3 (h3++[av.aA (aT.cells PK) 0 true 65]) (.slice (some ⟨h3.length,0,some 0⟩) 1 1) 1 (aT.cells PK) 65:=.inr ⟨h3.length,0,Nat.le_refl _,rfl,aJ⟩
  generalize (h3++[av.aA (aT.cells PK) 0 true 65])=h5 at hp5 hu5 ⊢
  generalize h3.length=i5 at hu5 ⊢
  refine aC ?_
  refine zj Tryz.func98 ?_
  have hr5:=kF (M3.pre hp5) (lhs:=(i4 d K:Int)) (kd:=1) (pr:=0) (mk:=0) (rhs:=[PK]) (os:=[]) (uo:=bX) (by simp only[List.flatMap_cons,List.flatMap_nil,List.append_nil];exact hu5.base M3.p) aL.nil om
  refine hr5.mono ?_
  rintro _ h6 ⟨rfl,vr6,vf6,M6,K6⟩
  have K6':cj J5 hb h6:=(K3.trans (cj.pre hp5)).trans K6
  have hx6:=K6' _ _ hx1 (dR (by decide))
  have hk6:=((cj.pre (ts:=J5) hp5).trans K6) _ _ hk3 (dR (by decide))
  simp only at M6
  refine aC ?_
  refine zj Tryz.func99 ?_
  refine my.mono ?_
  rintro _ h7 ⟨rfl,e7⟩
  obtain rfl:=e7.symm
  refine df (t:=65) (cs:=aT.cells (dy (i4 d K))) (n:=1) ak kr ?_
  dsimp only[St.a9,St.put]
  have hp7:h6 <+: h6++[av.aA (aT.cells (dy (i4 d K))) 0 true 65]:=aH
  have hu7:aL h6 (h6++[av.aA (aT.cells (dy (i4 d K))) 0 true 65]) (.slice (some ⟨h6.length,0,some 0⟩) 1 1) 1 (aT.cells (dy (i4 d K))) 65:=.inr ⟨h6.length,0,Nat.le_refl _,rfl,aJ⟩
  generalize (h6++[av.aA (aT.cells (dy (i4 d K))) 0 true 65])=h7 at hp7 hu7 ⊢
  generalize hv7:Value.slice (some ⟨h6.length,0,some 0⟩) 1 1=v7 at hu7 ⊢
  have hvc7:dO 1 v7=some [v7]:=by rw[← hv7];rfl
  refine dA (t:=61) (cs:=[bX]) ak ak ?_
  dsimp only[St.a9,St.put]
  refine bV (v:=v7) (vs:=[v7]) (cells':=[v7]) ak rfl rfl rfl ak aJ ak (by rw[← hv7];rfl) rfl ?_
  dsimp only
  have hset8:(h7++[av.aA [bX] 0 true 61]).set h7.length (.aA [v7] 0 true 61)=h7++[.aA [v7] 0 true 61]:=by simp
  rw[hset8]
  have hp8:h6 <+: h7++[av.aA [v7] 0 true 61]:=bU hp7
  have hx8:(h7++[av.aA [v7] 0 true 61])[h7.length]? = some (.aA [v7] 0 true 61):=aJ
  have hu8:aL h6 (h7++[av.aA [v7] 0 true 61]) v7 1 (aT.cells (dy (i4 d K))) 65:=hu7.mono fun j o _ ho=>bg ho
  generalize (h7++[av.aA [v7] 0 true 61])=h8 at hp8 hx8 hu8 ⊢
  have hl9:h6.length≤h7.length:=hp7.length_le
  generalize h7.length=i9 at hx8 hl9 ⊢
  refine aC ?_
  refine zc (f:=100) (cap:=[.pointer (some ⟨i6,0,some 0⟩),.pointer (some ⟨i1,0,some 0⟩),.pointer (some ⟨i9,0,some 0⟩)]) (args:=[]) (fn:=Tryz.f100) ak Tryz.func100 kr kr ?_
  have hgp:({ m with vr:=vr6,vf:=vf6 }:MK).lI=bl d:=SB.gp
  refine (yr (ha:=h6) (l:=[dy (i4 d K)]) hp8 hl9 hgp M6.o hk6 hx6 hx8 (by simp only[List.flatMap_cons,List.flatMap_nil,List.append_nil];exact hu8) (by simp)).mono ?_
  rintro _ h9 ⟨rfl,hp9,v9,hx9,hu9⟩
  have hsl:(dP d K).length≤1:=by unfold dP;split<;>simp
  have hl1:([dy (i4 d K)]++dP d K).length≤2:=by rw[List.length_append,List.length_singleton];omega
  have hmore:jW d K=([dy (i4 d K)]++dP d K)++(if b7 K.sep=true then [] else iX K.sep++dP d K)++[PK]:=by rw[← hPK];rfl
  generalize hL1:[dy (i4 d K)]++dP d K=L1 at hu9 hl1 hmore
  obtain⟨L2,hL2⟩:∃ L2,L2=L1++(if b7 K.sep=true then [] else iX K.sep++dP d K):=⟨_,rfl⟩
  rw[← hL2] at hmore
  have hk9:=ag hp9 hk6
  simp only[bt.cells] at hk9
  refine aG hk9 ?_
  refine CW.mono (Q:=fun e s'=>e = .normal∧∃ (h10:ah) (v10:Value),h6 <+: h10∧h10[i9]? = some (.aA [v10] 0 true 61)∧aL h6 h10 v10 L2.length (L2.flatMap aT.cells) 65∧s'.h=h10∧bA [(1,.val (.pointer (some ⟨i1,0,some 0⟩))),(6,.val (.pointer (some ⟨i6,0,some 0⟩))),(7,.val (i64 (i4 d K:Int))),(8,.box [i64 PK.nt,u64 PK.set.a,u64 PK.set.b,u64 PK.set.c,u64 PK.set.d]),(9,.val (.pointer (some ⟨i9,0,some 0⟩))),(39,.val (.slice (some ⟨id,0,some ar⟩) (bh d.aa).length co)),(40,.val (i64 (bh d.aa).length)),(41,.val (i64 k))] s'.fr) ?_ ?_
  ·by_cases qs:K.sep=⟨#[]⟩
   ·have d1:=decide_eq_true qs
    rw[if_pos (by unfold b7;exact d1),List.append_nil] at hL2
    rw[d1,hL2]
    refine af rfl ?_
    refine cz ?_
    exact⟨rfl,h9,v9,hp9,hx9,hu9,rfl,aK⟩
   ·have d1:=decide_eq_false qs
    rw[if_neg (by unfold b7;rw[d1];decide)] at hL2
    rw[d1]
    refine ae rfl ?_
    refine aC ?_
    have hlit:=FN (h:=h9) (t:=K.sep) om
    unfold FW at hlit
    obtain⟨rl,h11,hcallL,hp11,hGl⟩:=hlit
    obtain⟨ql,cl,rfl⟩:=hGl.form
    have hll:(iX K.sep).length=K.sep.size:=by unfold iX;simp
    have hs0:0<K.sep.size:=by
     rcases Nat.eq_zero_or_pos K.sep.size with a|a
     ·exact absurd (jb.2 a) qs
     ·exact a
    have hu11:=hu9.eD (cj.pre (ts:=[]) hp11) (by simp)
    have hx11:=ag hp11 hx9
    have n9:bB v9 i9=false:=by
     cases hbb:bB v9 i9 with
     | false=>rfl
     | true=>
       obtain⟨ver2,h5⟩:=hu9.obj hbb
       rw[hx9] at h5
       simp only[Option.some.injEq,av.aA.injEq] at h5
       exact absurd h5.2.2.2 (by decide)
    obtain⟨p12,c12,h12,honeL,k2,k1,k3⟩:=CB (t:=61) kr zp (by decide) rfl hu11 (hp9.trans hp11) (by rw[jT]) (hGl.sl (b:=40) om) (by rw[jT]) om (by simp only;omega) om
    have hx12:=k3 _ _ n9 hx11
    have hk11:=ag hp11 hk9
    obtain⟨v12,hv12⟩:∃ v,v=Value.slice p12 (L1.length+(iX K.sep).length) c12:=⟨_,rfl⟩
    have hvc12:dO 1 v12=some [v12]:=by rw[hv12];rfl
    rw[← hv12] at k2 honeL
    refine aB [(1,.val (.pointer (some ⟨i1,0,some 0⟩))),(6,.val (.pointer (some ⟨i6,0,some 0⟩))),(7,.val (i64 (i4 d K:Int))),(8,.box [i64 PK.nt,u64 PK.set.a,u64 PK.set.b,u64 PK.set.c,u64 PK.set.d]),(9,.val (.pointer (some ⟨i9,0,some 0⟩))),(10,.val (.func (.func 100) #[] #[.pointer (some ⟨i6,0,some 0⟩),.pointer (some ⟨i1,0,some 0⟩),.pointer (some ⟨i9,0,some 0⟩)])),(39,.val (.slice (some ⟨id,0,some ar⟩) (bh d.aa).length co)),(40,.val (i64 (bh d.aa).length)),(41,.val (i64 k))] aK ?_
    show CW _ _ ⟨_,[],h9⟩ _
    try apply zs
    apply bm (L:=[[],[],[1],[1,2],[0,1,2,3],[0,1,2,3,4]]) (act:=[3,4,5]) (hs:=[h11,h12,h12.set i9 (.aA [v12] 0 true 61)]) (resL:=[_,_,_,_,_,_]) (frF:=[(1,.val (.pointer (some ⟨i1,0,some 0⟩))),(6,.val (.pointer (some ⟨i6,0,some 0⟩))),(7,.val (i64 (i4 d K:Int))),(8,.box [i64 PK.nt,u64 PK.set.a,u64 PK.set.b,u64 PK.set.c,u64 PK.set.d]),(9,.val (.pointer (some ⟨i9,0,some 0⟩))),(10,.val (.func (.func 100) #[] #[.pointer (some ⟨i6,0,some 0⟩),.pointer (some ⟨i1,0,some 0⟩),.pointer (some ⟨i9,0,some 0⟩)])),(39,.val (.slice (some ⟨id,0,some ar⟩) (bh d.aa).length co)),(40,.val (i64 (bh d.aa).length)),(41,.val (i64 k))])
    case hm=>exact mixed
    case hc=>kernel_rfl
    case ha=>rfl
    case hb=>rfl
    case hS=>
     refine tQ hx9 hx11 hk9 hk11 ?_
     apply ay.cons
     ·rfl
     ·refine⟨?_,trivial⟩
      exact dL (args:=[.string K.sep]) (cap:=[]) (fn:=Tryz.f101) ak rfl ak ak Tryz.func101 kr kr hcallL
     ·rfl
     apply ay.cons
     ·rfl
     ·refine⟨?_,trivial⟩
      exact honeL _ _ _ _ _ rfl ak rfl ak ak
     ·rfl
     apply ay.cons
     ·rfl
     ·refine⟨?_,trivial⟩
      exact One.jP (r:=.sl .dH) (v:=v12) (vs:=[v12]) (cells':=[v12]) ak rfl ak ak hx12 ak hvc12 rfl rfl
     ·rfl
     exact ay.nil _
    case ht=>rfl
    case hF=>exact zh
    show CW _ _ _ _
    have hx13:(h12.set i9 (.aA [v12] 0 true 61))[i9]? = some (.aA [v12] 0 true 61):=aw hx12
    have hp13:h6 <+: h12.set i9 (.aA [v12] 0 true 61):=a8 k1 hl9
    have hu13:aL h6 (h12.set i9 (.aA [v12] 0 true 61)) v12 (L1++iX K.sep).length ((L1++iX K.sep).flatMap aT.cells) 65:=by
     rw[List.length_append,List.flatMap_append]
     exact k2.eD (cj.set hx12) (by decide)
    generalize (h12.set i9 (av.aA [v12] 0 true 61))=h13 at hx13 hp13 hu13 ⊢
    refine aC ?_
    refine zc (f:=100) (cap:=[.pointer (some ⟨i6,0,some 0⟩),.pointer (some ⟨i1,0,some 0⟩),.pointer (some ⟨i9,0,some 0⟩)]) (args:=[]) (fn:=Tryz.f100) ak Tryz.func100 kr kr ?_
    refine (yr (ha:=h6) (l:=L1++iX K.sep) hp13 hl9 hgp M6.o hk6 hx6 hx13 hu13 (by rw[List.length_append];omega)).mono ?_
    rintro _ h14 ⟨rfl,hp14,v14,hx14,hu14⟩
    refine aC ?_
    refine⟨rfl,h14,v14,hp14,hx14,?_,rfl,aK⟩
    rw[hL2,← List.append_assoc]
    exact hu14
  rintro e s' ⟨rfl,h10,v10,hp10,hx10,hu10,hh,hf⟩
  show CW _ _ _ _
  refine aB _ hf ?_
  rw[hh]
  clear hf hh s'
  have hx1':=ag hp10 hx6
  have hL2l:L2.length≤100:=by
   rw[hL2,List.length_append]
   have:(iX K.sep).length=K.sep.size:=by unfold iX;simp
   split
   ·simp;omega
   ·rw[List.length_append];omega
  obtain⟨q10,c10,rfl⟩:=hu10.form
  obtain⟨p11,c11,h11,hone,k1,k2,k3,k4,k5⟩:=jf (cs:=aT.cells PK) (t:=61) kr zp (by decide) rfl hu10 hp10 (by rw[jT]) rfl (by simp only;omega) om
  have hML:jW d K=L2++[PK]:=hmore
  have hx1'':=ag k2 hx6
  have hr11:=kF (M6.pre k2) (lhs:=(i4 d K:Int)) (kd:=2) (pr:=0) (mk:=0) (ur:=.slice p11 (L2.length+1) c11) (rhs:=jW d K) (os:=[]) (uo:=bX) (by
   rw[hML,List.length_append,List.flatMap_append,List.flatMap_singleton]
   exact k1.base M6.p) aL.nil (by rw[List.length_append,List.length_singleton];omega)
  unfold FW at hr11
  obtain⟨r12,h12,hcall,rfl,vr12,vf12,M12,K12⟩:=hr11
  refine aB [(1,.val (.pointer (some ⟨i1,0,some 0⟩))),(7,.val (i64 (i4 d K:Int))),(8,.box [i64 PK.nt,u64 PK.set.a,u64 PK.set.b,u64 PK.set.c,u64 PK.set.d]),(9,.val (.pointer (some ⟨i9,0,some 0⟩))),(39,.val (.slice (some ⟨id,0,some ar⟩) (bh d.aa).length co)),(40,.val (i64 (bh d.aa).length)),(41,.val (i64 k))] aK ?_
  show CW _ _ ⟨_,[],h10⟩ _
  apply bm (L:=[[],[],[],[],[3],[2,3,4],[],[0,1,2,3,4,5,6]]) (act:=[5,7]) (hs:=[h11,h12]) (resL:=[_,_,_,_,_,_,_,_]) (frF:=[(1,.val (.pointer (some ⟨i1,0,some 0⟩))),(39,.val (.slice (some ⟨id,0,some ar⟩) (bh d.aa).length co)),(40,.val (i64 (bh d.aa).length)),(41,.val (i64 k))])
  case hm=>exact mixed
  case hc=>kernel_rfl
  case ha=>rfl
  case hb=>rfl
  case hS=>
   refine Oz hx1' hx1'' hx10 ?_
   apply ay.cons
   ·rfl
   ·refine⟨?_,trivial⟩
    exact hone _ _ _ _ _ rfl ak rfl ak ak
   ·rfl
   refine Oz hx1' hx1'' hx10 ?_
   apply ay.cons
   ·rfl
   ·refine⟨?_,trivial⟩
    exact dL (args:=[.pointer (some ⟨im,0,some 0⟩),i64 (i4 d K:Int),.slice p11 (L2.length+1) c11,.agg #[i64 2,i64 0,i64 0,bX]]) (cap:=[]) (fn:=Tryz.f98) ak rfl ak ak Tryz.func98 kr kr hcall
   ·rfl
   exact ay.nil _
  case ht=>rfl
  case hF=>exact zh
  show CW _ _ _ _
  refine aG w2 ?_
  refine⟨hlt,(h12,vr12,vf12),aK,rfl,⟨?_,(K6'.trans (cj.pre k2)).trans K12⟩⟩
  rw[htk,← List.append_assoc,hLL]
  unfold An
  rw[hPK]
  have e:L++[((⟨(i4 d K:Int),[PK]⟩,⟨1,0,0,[]⟩):ch×gO),(⟨(i4 d K:Int),jW d K⟩,⟨2,0,0,[]⟩)]=(L++[(⟨(i4 d K:Int),[PK]⟩,⟨1,0,0,[]⟩)])++[(⟨(i4 d K:Int),jW d K⟩,⟨2,0,0,[]⟩)]:=by simp
  rw[e]
  exact M12
 ·have e3:=aP hlt
  obtain rfl:k=(bh d.aa).length:=by omega
  rw[List.take_length] at J
  simp only
  refine aG e3 ?_
  refine af rfl ?_
  refine az ?_
  exact⟨rfl,(hc,vr,vf),J,rfl,aK⟩
clear hob2 hx2 I
rintro e s' ⟨rfl,⟨hz,vr,vf⟩,I,hh,hf⟩
show CW _ _ _ _
refine aB _ hf ?_
rw[hh]
clear hf hh s'
obtain⟨L,hL⟩:∃ L,L=ii d d.aa.length++iS d (bh d.aa):=⟨_,rfl⟩
rw[← hL] at I
have hLl:L.length≤10000:=by rw[hL,List.length_append,oI];omega
have hros:uZ d=L++oD d:=by rw[hL];rfl
have MZ:=I.M
have KZ:=I.K
simp only at MZ KZ ⊢
have hxz:=KZ _ _ hx1 (dR (by decide))
have SZ:=SB.eD KZ
have hsm:=SZ.sm
have hg:=SZ.sg _ G.st
have hgp:=SZ.gp
have hkk:=br es
have obz:=MZ.o
simp only[MK.cells,hs1,hs2,hst] at obz
show CW _ _ ⟨_,[],hz⟩ _
apply zs
apply B8 (L:=[[],[0],[0,1],[0,1,2],[0,1,2,3],[0,1,2,3,4],[],[6],[6,7],[6,7,8],[],[10],[10,11],[10,11,12],[10,11,12,13],[10,11,12,13,14],[6,7,8,9,10,11,12,13,14,15],[6,7,8,9,10,11,12,13,14,15,16],[],[0,1,2,3,4,5],[6,7,8,9,10,11,12,13,14,15,16,17,18]]) (act:=[]) (hs:=[]) (resL:=[_,_,_,_,_,_,_,_,_,_,_,_,_,_,_,_,_,_,_,_,.sl .dH]) (frF:=[(1,.val (.pointer (some ⟨i1,0,some 0⟩))),(11,.val (i64 (cA d:Int))),(12,.box (aT.cells (dy (eE d d.start))))]) (a:=18) (st:=20) (d:=12) (cs':=aT.cells (dy (eE d d.start)))
case hm=>exact mixed
case hc=>kernel_rfl
case ha=>rfl
case hb=>rfl
case hfree=>rfl
case hna=>rfl
case hanc=>rfl
case ho=>rfl
case hop=>rfl
case hod=>rfl
case hda=>rfl
case hS1=>
 refine OH hxz obz hsm hg hkk ?_
 apply ay.cons
 ·rfl
 ·refine⟨?_,trivial⟩
  exact bi (fn:=Tryz.f99) (args:=[i64 ((eE d d.start:Nat))]) (cap:=[]) rfl ak rfl ak ak Tryz.func99 kr kr my
 ·rfl
 exact Ts
case hS2=>exact Ts
case hra=>rfl
case hti=>exact zp
case hw=>intro H;exact ak
case hp=>intro H;exact (by simp only[push_cast,env,Nat.reduceEqDiff,reduceIte,pF,gn]<;>exact rfl)
case hbx=>intro H;exact ak
case hv=>intro H;exact ak
case hvs=>rfl
case hwr=>rfl
case ht=>rfl
case hF=>exact zh
show CW _ _ _ _
cases hem:b7 d.layout with
| true=>
  have dg:decide (m.lI<0)=true:=by rw[hgp];unfold bl;rw[if_pos hem];rfl
  have hT:oD d=[(⟨cA d,[dy (eE d d.start)]⟩,⟨5,0,0,[]⟩)]:=by unfold oD;rw[if_pos hem]
  refine gV hxz obz dg ?_
  refine ae rfl ?_
  refine zu ?_
  iterate 3 (refine zx (Tz hxz) ?_)
  refine df (t:=65) (cs:=aT.cells (dy (eE d d.start))) (n:=1) ak kr ?_
  dsimp only[St.a9,St.put]
  have hp5:hz <+: hz++[av.aA (aT.cells (dy (eE d d.start))) 0 true 65]:=aH
  have hu5:aL hz (hz++[av.aA (aT.cells (dy (eE d d.start))) 0 true 65]) (.slice (some ⟨hz.length,0,some 0⟩) 1 1) 1 (aT.cells (dy (eE d d.start))) 65:=.inr ⟨hz.length,0,Nat.le_refl _,rfl,aJ⟩
  generalize (hz++[av.aA (aT.cells (dy (eE d d.start))) 0 true 65])=h5 at hp5 hu5 ⊢
  generalize hz.length=i5 at hu5 ⊢
  refine aC ?_
  refine zj Tryz.func98 ?_
  have hr5:=kF (MZ.pre hp5) (lhs:=(cA d:Int)) (kd:=5) (pr:=0) (mk:=0) (rhs:=[dy (eE d d.start)]) (os:=[]) (uo:=bX) (by simp only[List.flatMap_cons,List.flatMap_nil,List.append_nil];exact hu5.base MZ.p) aL.nil om
  refine hr5.mono ?_
  rintro _ h6 ⟨rfl,vr6,vf6,M6,K6⟩
  refine aC ?_
  refine ai ?_
  refine⟨_,ak,rfl,vr6,vf6,?_,(KA.trans KZ).trans ((cj.pre hp5).trans K6)⟩
  rw[hros,hT]
  exact M6
| false=>
  have hgn:bl d=((nS d+nK d:Nat):Int):=by unfold bl;rw[if_neg (by rw[hem];decide)]
  have dg:decide (m.lI<0)=false:=by rw[hgp,hgn];exact decide_eq_false om
  have hT:oD d=[(⟨bl d,[]⟩,⟨3,0,0,[]⟩),(⟨bl d,[dy (bl d),dy (eE d d.layout)]⟩,⟨4,0,0,[]⟩),(⟨cA d,[dy (bl d),dy (eE d d.start),dy (bl d)]⟩,⟨5,0,0,[]⟩)]:=by unfold oD;rw[if_neg (by rw[hem];decide)]
  have hly:=G.ly.resolve_left (by rw[hem];decide)
  refine gV hxz obz dg ?_
  refine af rfl ?_
  rw[hgp] at obz
  refine aC ?_
  refine aQ 6 mixed kr ?_
  refine fh hxz obz ?_
  refine zj Tryz.func98 ?_
  have hr5:=kF MZ (lhs:=bl d) (kd:=3) (pr:=0) (mk:=0) (rhs:=[]) (os:=[]) (ur:=bX) (uo:=bX) aL.nil aL.nil om
  refine hr5.mono ?_
  rintro _ h6 ⟨rfl,vr6,vf6,M6,K6⟩
  have KZ6:=KZ.trans K6
  have hx6:=KZ6 _ _ hx1 (dR (by decide))
  have S6:=SB.eD KZ6
  have hsm6:=S6.sm
  have hg6:=S6.sg _ hly
  have ob6:=M6.o
  simp only[MK.cells,hs1,hs2,hst,hgp] at ob6
  have hp7:h6 <+: h6++[av.aA (aT.cells (dy (bl d))++aT.cells (dy (eE d d.layout))) 0 true 65]:=aH
  have hu7:aL h6 (h6++[av.aA (aT.cells (dy (bl d))++aT.cells (dy (eE d d.layout))) 0 true 65]) (.slice (some ⟨h6.length,0,some 0⟩) 2 2) 2 (aT.cells (dy (bl d))++aT.cells (dy (eE d d.layout))) 65:=.inr ⟨h6.length,0,Nat.le_refl _,rfl,aJ⟩
  have hr7:=kF (M6.pre hp7) (lhs:=bl d) (kd:=4) (pr:=0) (mk:=0) (rhs:=[dy (bl d),dy (eE d d.layout)]) (os:=[]) (uo:=bX) (by simp only[List.flatMap_cons,List.flatMap_nil,List.append_nil];exact hu7.base M6.p) aL.nil (by rw[List.length_append,List.length_singleton];omega)
  unfold FW at hr7
  obtain⟨r8,h8,hcall8,rfl,vr8,vf8,M8,K8⟩:=hr7
  have hx7:=ag hp7 hx6
  have ob7:=ag hp7 ob6
  have hsm7:=ag hp7 hsm6
  refine aC ?_
  refine aB [(1,.val (.pointer (some ⟨i1,0,some 0⟩))),(11,.val (i64 (cA d:Int))),(12,.box (aT.cells (dy (eE d d.start))))] aK ?_
  show CW _ _ ⟨_,[],h6⟩ _
  try apply zs
  apply bm (L:=[[],[],[1],[1,2],[1,2,3],[],[5],[5,6],[5,6,7],[5,6,7,8],[],[10],[10,11],[10,11,12],[],[14],[14,15],[14,15,16],[14,15,16,17],[14,15,16,17,18],[10,11,12,13,14,15,16,17,18,19],[10,11,12,13,14,15,16,17,18,19,20],[5,6,7,8,9,10,11,12,13,14,15,16,17,18,19,20,21],[],[0,1,2,3,4,5,6,7,8,9,10,11,12,13,14,15,16,17,18,19,20,21,22,23]]) (act:=[22,24]) (hs:=[h6++[av.aA (aT.cells (dy (bl d))++aT.cells (dy (eE d d.layout))) 0 true 65],h8]) (resL:=[_,_,_,_,_,_,_,_,_,_,_,_,_,_,_,_,_,_,_,_,_,_,_,_,_]) (frF:=[(1,.val (.pointer (some ⟨i1,0,some 0⟩))),(11,.val (i64 (cA d:Int))),(12,.box (aT.cells (dy (eE d d.start))))])
  case hm=>exact mixed
  case hc=>kernel_rfl
  case ha=>rfl
  case hb=>rfl
  case hS=>
   refine K7 hx6 ob6 hx7 ob7 hsm6 hsm7 hg6 hkk ?_
   apply ay.cons
   ·rfl
   ·refine⟨?_,trivial⟩
    exact bi (fn:=Tryz.f99) (args:=[i64 (bl d)]) (cap:=[]) rfl ak rfl ak ak Tryz.func99 kr kr my
   ·rfl
   refine K7 hx6 ob6 hx7 ob7 hsm6 hsm7 hg6 hkk ?_
   apply ay.cons
   ·rfl
   ·refine⟨?_,trivial⟩
    exact bi (fn:=Tryz.f99) (args:=[i64 ((eE d d.layout:Nat))]) (cap:=[]) rfl ak rfl ak ak Tryz.func99 kr kr my
   ·rfl
   apply ay.cons
   ·rfl
   ·refine⟨?_,trivial⟩
    exact pk (h:=h6) (n:=2) (t:=65) (cs:=aT.cells (dy (bl d))++aT.cells (dy (eE d d.layout))) rfl ak kr
   ·rfl
   refine VO ?_
   apply ay.cons
   ·rfl
   ·refine⟨?_,trivial⟩
    exact dL (args:=[.pointer (some ⟨im,0,some 0⟩),i64 (bl d),.slice (some ⟨h6.length,0,some 0⟩) 2 2,.agg #[i64 4,i64 0,i64 0,bX]]) (cap:=[]) (fn:=Tryz.f98) ak rfl ak ak Tryz.func98 kr kr hcall8
   ·rfl
   exact ay.nil _
  case ht=>rfl
  case hF=>exact zh
  show CW _ _ _ _
  have KZ8:=(KZ6.trans (cj.pre hp7)).trans K8
  have hx8:=KZ8 _ _ hx1 (dR (by decide))
  have ob8:=M8.o
  simp only[MK.cells,hs1,hs2,hst,hgp] at ob8
  have hp9:h8 <+: h8++[av.aA (aT.cells (dy (bl d))++aT.cells (dy (eE d d.start))++aT.cells (dy (bl d))) 0 true 65]:=aH
  have hu9:aL h8 (h8++[av.aA (aT.cells (dy (bl d))++aT.cells (dy (eE d d.start))++aT.cells (dy (bl d))) 0 true 65]) (.slice (some ⟨h8.length,0,some 0⟩) 3 3) 3 (aT.cells (dy (bl d))++aT.cells (dy (eE d d.start))++aT.cells (dy (bl d))) 65:=.inr ⟨h8.length,0,Nat.le_refl _,rfl,aJ⟩
  have hr9:=kF (M8.pre hp9) (lhs:=(cA d:Int)) (kd:=5) (pr:=0) (mk:=0) (rhs:=[dy (bl d),dy (eE d d.start),dy (bl d)]) (os:=[]) (uo:=bX) (by simp only[List.flatMap_cons,List.flatMap_nil,List.append_nil];rw[← List.append_assoc];exact hu9.base M8.p) aL.nil (by rw[List.length_append,List.length_append,List.length_singleton,List.length_singleton];omega)
  unfold FW at hr9
  obtain⟨r10,h10,hcall10,rfl,vr10,vf10,M10,K10⟩:=hr9
  have hx9:=ag hp9 hx8
  have ob9:=ag hp9 ob8
  refine aB [(1,.val (.pointer (some ⟨i1,0,some 0⟩))),(11,.val (i64 (cA d:Int))),(12,.box (aT.cells (dy (eE d d.start))))] aK ?_
  show CW _ _ ⟨_,[],h8⟩ _
  try apply zs
  apply bm (L:=[[],[],[],[2],[2,3],[2,3,4],[2,3,4,5],[],[],[8],[8,9],[8,9,10],[8,9,10,11],[2,3,4,5,6,7,8,9,10,11,12],[],[0,1,2,3,4,5,6,7,8,9,10,11,12,13,14]]) (act:=[13,15]) (hs:=[h8++[av.aA (aT.cells (dy (bl d))++aT.cells (dy (eE d d.start))++aT.cells (dy (bl d))) 0 true 65],h10]) (resL:=[_,_,_,_,_,_,_,_,_,_,_,_,_,_,_,_]) (frF:=[])
  case hm=>exact mixed
  case hc=>kernel_rfl
  case ha=>rfl
  case hb=>rfl
  case hS=>
   refine tQ hx8 ob8 hx9 ob9 ?_
   apply ay.cons
   ·rfl
   ·refine⟨?_,trivial⟩
    exact bi (fn:=Tryz.f99) (args:=[i64 (bl d)]) (cap:=[]) rfl ak rfl ak ak Tryz.func99 kr kr my
   ·rfl
   refine tQ hx8 ob8 hx9 ob9 ?_
   apply ay.cons
   ·rfl
   ·refine⟨?_,trivial⟩
    exact bi (fn:=Tryz.f99) (args:=[i64 (bl d)]) (cap:=[]) rfl ak rfl ak ak Tryz.func99 kr kr my
   ·rfl
   apply ay.cons
   ·rfl
   ·refine⟨?_,trivial⟩
    exact pk (h:=h8) (n:=3) (t:=65) (cs:=aT.cells (dy (bl d))++aT.cells (dy (eE d d.start))++aT.cells (dy (bl d))) rfl ak kr
   ·rfl
   refine VO ?_
   apply ay.cons
   ·rfl
   ·refine⟨?_,trivial⟩
    exact dL (args:=[.pointer (some ⟨im,0,some 0⟩),i64 (cA d:Int),.slice (some ⟨h8.length,0,some 0⟩) 3 3,.agg #[i64 5,i64 0,i64 0,bX]]) (cap:=[]) (fn:=Tryz.f98) ak rfl ak ak Tryz.func98 kr kr hcall10
   ·rfl
   exact ay.nil _
  case ht=>rfl
  case hF=>exact zh
  refine⟨_,ak,rfl,vr10,vf10,?_,(KA.trans KZ8).trans ((cj.pre hp9).trans K10)⟩
  rw[hros,hT]
  have e:L++[((⟨bl d,[]⟩,⟨3,0,0,[]⟩):ch×gO),(⟨bl d,[dy (bl d),dy (eE d d.layout)]⟩,⟨4,0,0,[]⟩),(⟨cA d,[dy (bl d),dy (eE d d.start),dy (bl d)]⟩,⟨5,0,0,[]⟩)]=((L++[(⟨bl d,[]⟩,⟨3,0,0,[]⟩)])++[(⟨bl d,[dy (bl d),dy (eE d d.layout)]⟩,⟨4,0,0,[]⟩)])++[(⟨cA d,[dy (bl d),dy (eE d d.start),dy (bl d)]⟩,⟨5,0,0,[]⟩)]:=by simp
  rw[e]
  exact M10}
end
theorem bo {all:Array Oper} {o:Oper} {s:St} {h h':ah} {t et:TypeId} {a x:Operand} {ti:TI} {id off ar:Nat} {cells vs cells':List Value} {v:Value} {r:gD} (hh:s.h=h) (hw:aF all o s=some true) (ho:o.op = .store t a x) (ht:aq env.P t=some ti) (ha:ev s a=some (.pointer (some ⟨id,off,some ar⟩))) (hid:h[id]? = some (.aA cells ar true et)) (hx:ev s x=some v) (hv:dO ti.size v=some vs)
 (hq:ll cells off vs=some cells') (hd:o.dst=none) (he:h'=h.set id (av.aA cells' ar true et)):One env all o s r h':=by
 subst hh he
 exact .jP hw ho ht ha hid hx hv hq hd
structure aR where
 fJ:Nat
 nq:Nat
 xw:Nat
 deriving DecidableEq
def aR.cells (x:aR):List Value:=[i64 x.fJ,i64 x.nq,i64 x.xw]
abbrev aR.val (x:aR):Value:=.agg #[i64 x.fJ,i64 x.nq,i64 x.xw]
def fG (x y:aR):Int:=if x.fJ≠y.fJ then (x.fJ:Int)-y.fJ else if x.nq≠y.nq then (x.nq:Int)-y.nq else (x.xw:Int)-y.xw
def bu (x y:aR):Bool:=decide (fG x y<0)
def HA (x:aR):Prop:=x.fJ≤1000000∧x.nq≤1000000∧x.xw≤1000000
theorem BX {x y:aR}:bu x y=true↔x.fJ<y.fJ∨x.fJ=y.fJ∧(x.nq<y.nq∨x.nq=y.nq∧x.xw<y.xw):=by{
unfold bu fG
rw[decide_eq_true_eq]
by_cases h1:x.fJ=y.fJ
·rw[if_neg om]
 by_cases h2:x.nq=y.nq
 ·rw[if_neg om]
  omega
 ·rw[if_pos h2]
  omega
·rw[if_pos h1]
 omega}
theorem re {x y:aR}:bu x y=false↔¬ (x.fJ<y.fJ∨x.fJ=y.fJ∧(x.nq<y.nq∨x.nq=y.nq∧x.xw<y.xw)):=by
 rw[← BX,Bool.not_eq_true]
theorem kI:Go.Sort.SWO bu:=by{
refine⟨fun x=>?_,fun x y z h1 h2=>?_,fun x y z h1 h2=>?_⟩
·rw[re];omega
·rw[BX] at *;omega
·rw[re] at *;omega}
theorem Fu {x y:aR} (h1:bu x y=false) (h2:bu y x=false):x=y:=by{
rw[re] at h1 h2
cases x;cases y
simp only[aR.mk.injEq]
simp only at h1 h2
omega}
theorem bK {h:ah} {x y:aR} (hx:HA x) (hy:HA y):FW env 104 [x.val,y.val] h fun r h'=>r=i64 (fG x y)∧h'=h:=by{
obtain⟨x1,x2,x3⟩:=hx
obtain⟨y1,y2,y3⟩:=hy
have e1:IntKind.i64.wrap ((x.fJ:Int)-y.fJ)=(x.fJ:Int)-y.fJ:=ax om om
have e2:IntKind.i64.wrap ((x.nq:Int)-y.nq)=(x.nq:Int)-y.nq:=ax om om
have e3:IntKind.i64.wrap ((x.xw:Int)-y.xw)=(x.xw:Int)-y.xw:=ax om om
refine fe Tryz.func104 ?_;simp only[push_cast]
by_cases h1:x.fJ=y.fJ
·have d1:decide ((x.fJ:Int)=(y.fJ:Int))=true:=decide_eq_true om
 refine aG d1 ?_
 refine af rfl ?_
 by_cases h2:x.nq=y.nq
 ·have d2:decide ((x.nq:Int)=(y.nq:Int))=true:=decide_eq_true om
  refine aG d2 ?_
  refine af rfl ?_
  refine aG e3 ?_
  refine ai ?_
  exact⟨_,ak,by unfold fG;rw[if_neg om,if_neg om];rfl,rfl⟩
 ·have d2:decide ((x.nq:Int)=(y.nq:Int))=false:=decide_eq_false om
  refine aG d2 ?_
  refine ae rfl ?_
  refine aG e2 ?_
  refine ai ?_
  exact⟨_,ak,by unfold fG;rw[if_neg om,if_pos h2];rfl,rfl⟩
·have d1:decide ((x.fJ:Int)=(y.fJ:Int))=false:=decide_eq_false om
 refine aG d1 ?_
 refine ae rfl ?_
 refine aG e1 ?_
 refine ai ?_
 exact⟨_,ak,by unfold fG;rw[if_pos h1];rfl,rfl⟩}
instance:Inhabited aR:=⟨⟨0,0,0⟩⟩
abbrev aO:Value:=.func (.func 104) #[] #[]
def IC (d:Array aR):List Value:=d.toList.flatMap aR.cells
structure DA (h:ah) (id ar:Nat) (d:Array aR):Prop where
 g:h[id]? = some (.aA (IC d) ar true 70)
 n:d.size≤1000000000
 b:∀ i,i<d.size→HA d[i]!
theorem bD {d:Array aR} {i:Nat} (hi:i<d.size):jU (IC d) (i*3) 3=some [i64 d[i]!.fJ,i64 d[i]!.nq,i64 d[i]!.xw]:=by
 have h1:d.toList[i]? = some d[i]!:=by simp [hi]
 exact bS (f:=aR.cells) (k:=3) (fun _=>rfl) d.toList i d[i]! h1
theorem cS {d:Array aR} {i:Nat} {x:aR} (hi:i<d.size):ll (IC d) (i*3) [i64 x.fJ,i64 x.nq,i64 x.xw]=some (IC (d.setIfInBounds i x)):=by{
have:=Cr (f:=aR.cells) (k:=3) (fun _=>rfl) (l:=d.toList) (i:=i) (x:=x) (by simpa using hi)
unfold IC
rw[Array.toList_setIfInBounds]
exact this}
theorem swp_size {d:Array aR} {i j:Nat}:(Go.Sort.swp d i j).size=d.size:=by unfold Go.Sort.swp;simp
theorem R8 {d:Array aR} {i j:Nat} (hi:i<d.size) (hj:j<d.size) (h:∀ k,k<d.size→HA d[k]!):∀ k,k<(Go.Sort.swp d i j).size→HA (Go.Sort.swp d i j)[k]!:=fun k hk=>by
 rw[swp_size] at hk
 unfold Go.Sort.swp
 rw[getElem!_pos _ _ (by simpa using hk)]
 simp only[Array.getElem_setIfInBounds,Array.size_setIfInBounds,hk]
 split
 ·exact h i hi
 ·split
  ·exact h j hj
  ·rw[← getElem!_pos d k hk];exact h k hk
theorem DA.swp {h:ah} {id ar:Nat} {d:Array aR} (D:DA h id ar d) {i j:Nat} (hi:i<d.size) (hj:j<d.size):DA (h.set id (.aA (IC (Go.Sort.swp d i j)) ar true 70)) id ar (Go.Sort.swp d i j):=
 ⟨aw D.g,by rw[swp_size];exact D.n,R8 hi hj D.b⟩
theorem fS {h:ah} {i:Nat} {x:av} (g:h[i]? = some x):h.set i x=h:=by{
obtain⟨h1,h2⟩:=List.getElem?_eq_some_iff.1 g
rw[← h2]
exact List.set_getElem_self h1}
theorem aM {h:ah} {i:Nat} {x y:av}:(h.set i x).set i y=h.set i y:=List.set_set ..
theorem wB {h:ah} {id ar c a b:Nat} {d:Array aR} (D:DA h id ar d) (hab:a≤b) (hb:b≤d.size) : FW env 180 [.slice (some ⟨id,0,some ar⟩) d.size c,i64 a,i64 b,aO] h fun r h'=>r = .tuple #[]∧h'=h.set id (.aA (IC (Go.Sort.insertionSort bu d a b)) ar true 70)∧DA h' id ar (Go.Sort.insertionSort bu d a b)∧(Go.Sort.insertionSort bu d a b).size=d.size:=by{
have hn:=D.n
have e1:IntKind.i64.wrap ((a:Int)+1)=((a+1:Nat):Int):=by rw[ax om om];omega
refine fe Tryz.func180 ?_;simp only[push_cast]
refine aG e1 ?_
refine fp (fun x:Nat×Array aR×ah=>d.size+2-x.1) (fun x=>[(0,.val (.slice (some ⟨id,0,some ar⟩) d.size c)),(1,.val (i64 a)),(2,.val (i64 b)),(3,.val aO),(8,.val (i64 x.1))]) (fun x=>x.2.2)
 (fun x=>a<x.1∧(x.1≤b∨x.1=a+1)∧x.2.1.size=d.size∧x.2.2=h.set id (.aA (IC x.2.1) ar true 70)∧DA x.2.2 id ar x.2.1∧Go.Sort.insOuter bu a b x.1 x.2.1=Go.Sort.insertionSort bu d a b) (a+1,d,h) aK rfl ⟨by simp only;omega,.inr rfl,rfl,(fS D.g).symm,D,rfl⟩ ?_
rintro⟨i,dc,hc⟩ ⟨h1,h2,h3,h4,D1,h5⟩
simp only at h1 h2 h3 h4 D1 h5 ⊢
have e2:IntKind.i64.wrap ((i:Int)+1)=(i:Int)+1:=ax om om
by_cases hlt:i<b
·have e3:=aS hlt
 have hstep:Go.Sort.insOuter bu a b i dc=Go.Sort.insOuter bu a b (i+1) (Go.Sort.insInner bu a i dc):=by rw[Go.Sort.insOuter,if_pos hlt]
 refine aG e3 ?_
 refine ae rfl ?_
 refine aC ?_
 refine fp (fun y:Nat×Array aR×ah=>y.1) (fun y=>[(0,.val (.slice (some ⟨id,0,some ar⟩) d.size c)),(1,.val (i64 a)),(2,.val (i64 b)),(3,.val aO),(8,.val (i64 i)),(9,.val (i64 y.1))]) (fun y=>y.2.2)
  (fun y=>y.1≤i∧a≤y.1∧y.2.1.size=d.size∧y.2.2=h.set id (.aA (IC y.2.1) ar true 70)∧DA y.2.2 id ar y.2.1∧Go.Sort.insInner bu a y.1 y.2.1=Go.Sort.insInner bu a i dc) (i,dc,hc) aK rfl ⟨by simp only;omega,by simp only;omega,h3,h4,D1,rfl⟩ ?_
 rintro⟨j,dj,hj⟩ ⟨k1,k2,k3,k4,D2,k5⟩
 simp only at k1 k2 k3 k4 D2 k5 ⊢
 have hg:=D2.g
 by_cases hja:a<j
 ·obtain⟨q,rfl⟩:∃ q,j=q+1:=⟨j-1,by omega⟩
  have d4:decide ((a:Int)<((q+1:Nat):Int))=true:=decide_eq_true om
  have e5:IntKind.i64.wrap (((q+1:Nat):Int)-1)=(q:Int):=by rw[ax om om];omega
  have hq1:q+1<dj.size:=by omega
  have hq0:q<dj.size:=by omega
  have g1:=bD hq1
  have g0:=bD hq0
  have b1:=D2.b _ hq1
  have b0:=D2.b _ hq0
  have r1:=cg (k:=q+1) (n:=d.size) om
  have r0:=cg (k:=q) (n:=d.size) om
  have hun:Go.Sort.insInner bu a (q+1) dj=if (decide (q+1 > a)&&bu dj[q+1]! dj[q]!)=true then Go.Sort.insInner bu a q (Go.Sort.swp dj (q+1) q) else dj:=rfl
  obtain⟨J,hJ⟩:∃ J,J=q+1:=⟨_,rfl⟩
  rw[← hJ] at d4 e5 g1 b1 r1 hun k5 k1 k2 hq1 ⊢
  refine aC ?_
  cases hl:bu dj[J]! dj[q]! with
  | false=>
    have d7:decide (fG dj[J]! dj[q]! < 0)=false:=hl
    have hend:dj=Go.Sort.insInner bu a i dc:=by rw[← k5,hun,hl];simp
    apply bx (L:=[[],[],[0,1],[2],[3],[3],[3],[3,5,6],[3,7],[3],[3],[3,10],[3,9,11],[3,12],[3,4,8,13],[3,14],[3,15]]) (resL:=[_,_,_,_,_,_,_,_,_,_,_,_,_,_,_,_,_]) (frF:=[(0,.val (.slice (some ⟨id,0,some ar⟩) d.size c)),(1,.val (i64 a)),(2,.val (i64 b)),(3,.val aO),(8,.val (i64 i)),(9,.val (i64 J)),(34,.val (.bool false))])
    case hm=>exact mixed
    case hc=>kernel_rfl
    case hb=>rfl
    case hS=>
     refine KN d4 hg g1 g0 e5 r1 r0 Nat.mul_one ?_
     apply aV.cons
     ·exact bi (fn:=Tryz.f104) (args:=[dj[J]!.val,dj[q]!.val]) (cap:=[]) rfl (ir d4) rfl ak ak Tryz.func104 kr kr (bK b1 b0)
     ·rfl
     exact rV d7 d4
    case ht=>rfl
    case hF=>exact zh
    show CW _ _ _ _
    refine aC ?_
    refine af rfl ?_
    refine az ?_
    show CW _ _ _ _
    refine aG e2 ?_
    exact⟨(i+1,dj,hj),by simp only;omega,aK,rfl,by simp only;omega,by simp only;omega,k3,k4,D2,by simp only;rw[hend,← hstep];exact h5⟩
  | true=>
    have d7:decide (fG dj[J]! dj[q]! < 0)=true:=hl
    have hnx:Go.Sort.insInner bu a q (Go.Sort.swp dj J q)=Go.Sort.insInner bu a i dc:=by rw[← k5,hun,hl];simp [hja];omega
    apply bx (L:=[[],[],[0,1],[2],[3],[3],[3],[3,5,6],[3,7],[3],[3],[3,10],[3,9,11],[3,12],[3,4,8,13],[3,14],[3,15]]) (resL:=[_,_,_,_,_,_,_,_,_,_,_,_,_,_,_,_,_]) (frF:=[(0,.val (.slice (some ⟨id,0,some ar⟩) d.size c)),(1,.val (i64 a)),(2,.val (i64 b)),(3,.val aO),(8,.val (i64 i)),(9,.val (i64 J)),(34,.val (.bool true))])
    case hm=>exact mixed
    case hc=>kernel_rfl
    case hb=>rfl
    case hS=>
     refine KN d4 hg g1 g0 e5 r1 r0 Nat.mul_one ?_
     apply aV.cons
     ·exact bi (fn:=Tryz.f104) (args:=[dj[J]!.val,dj[q]!.val]) (cap:=[]) rfl (ir d4) rfl ak ak Tryz.func104 kr kr (bK b1 b0)
     ·rfl
     exact rV d7 d4
    case ht=>rfl
    case hF=>exact zh
    show CW _ _ _ _
    refine aC ?_
    refine ae rfl ?_
    refine aC ?_
    refine aB [(0,.val (.slice (some ⟨id,0,some ar⟩) d.size c)),(1,.val (i64 a)),(2,.val (i64 b)),(3,.val aO),(8,.val (i64 i)),(9,.val (i64 J))] aK ?_
    show CW _ _ ⟨_,[],hj⟩ _
    apply bm (L:=[[],[],[],[],[3],[],[],[6],[5,6,7],[5,6,7,8],[],[],[10,11],[10,11,12],[0,1],[0,1,5,6,7,8,9,10,11,12,13,14],[2,3,4],[0,1,2,3,4,5,6,7,8,9,10,11,12,13,14,15,16]]) (act:=[15,17]) (hs:=[hj.set id (.aA (IC (dj.setIfInBounds J dj[q]!)) ar true 70),hj.set id (.aA (IC (Go.Sort.swp dj J q)) ar true 70)]) (resL:=[_,_,_,_,_,_,_,_,_,_,_,_,_,_,_,_,_,_]) (frF:=[(0,.val (.slice (some ⟨id,0,some ar⟩) d.size c)),(1,.val (i64 a)),(2,.val (i64 b)),(3,.val aO),(8,.val (i64 i)),(9,.val (i64 J))])
    case hm=>exact mixed
    case hc=>kernel_rfl
    case ha=>rfl
    case hb=>rfl
    case hS=>
     refine JN hg g1 g0 e5 r1 r0 Nat.mul_one ?_
     apply ay.cons
     ·rfl
     ·refine⟨?_,trivial⟩
      exact bo (r:=.sl .dH) rfl ak rfl ak ak hg ak rfl (cS hq1) rfl rfl
     ·rfl
     refine tQ e5 r1 r0 Nat.mul_one ?_
     apply ay.cons
     ·rfl
     ·refine⟨?_,trivial⟩
      exact bo (r:=.sl .dH) rfl ak rfl ak ak (aw hg) ak rfl (cS (d:=dj.setIfInBounds J dj[q]!) (i:=q) (x:=dj[J]!) (by simpa using hq0)) rfl aM.symm
     ·rfl
     exact ay.nil _
    case ht=>rfl
    case hF=>exact zh
    show CW _ _ _ _
    refine aG e5 ?_
    exact⟨(q,Go.Sort.swp dj J q,_),by simp only;omega,aK,rfl,by simp only;omega,by simp only;omega,by simp only;rw[swp_size];exact k3,by simp only;rw[k4,aM],D2.swp hq1 hq0,hnx⟩
 ·have d4:decide ((a:Int)<(j:Int))=false:=decide_eq_false om
  obtain rfl:j=a:=by omega
  have hend:dj=Go.Sort.insInner bu j i dc:=by
   rw[← k5]
   cases j with
   | zero=>rfl
   | succ q=>simp [Go.Sort.insInner]
  refine aC ?_
  apply bx (L:=[[],[],[0,1],[2],[3],[3],[3],[3,5,6],[3,7],[3],[3],[3,10],[3,9,11],[3,12],[3,4,8,13],[3,14],[3,15]]) (resL:=[_,_,_,_,_,_,_,_,_,_,_,_,_,_,_,_,_]) (frF:=[(0,.val (.slice (some ⟨id,0,some ar⟩) d.size c)),(1,.val (i64 j)),(2,.val (i64 b)),(3,.val aO),(8,.val (i64 i)),(9,.val (i64 j)),(34,.val (.bool false))])
  case hm=>exact mixed
  case hc=>kernel_rfl
  case hb=>rfl
  case hS=>exact CY d4
  case ht=>rfl
  case hF=>exact zh
  show CW _ _ _ _
  refine aC ?_
  refine af rfl ?_
  refine az ?_
  show CW _ _ _ _
  refine aG e2 ?_
  exact⟨(i+1,dj,hj),by simp only;omega,aK,rfl,by simp only;omega,by simp only;omega,k3,k4,D2,by simp only;rw[hend,← hstep];exact h5⟩
·have e3:decide ((i:Int)<(b:Int))=false:=decide_eq_false om
 have hend:Go.Sort.insertionSort bu d a b=dc:=by rw[← h5,Go.Sort.insOuter,if_neg hlt]
 refine aG e3 ?_
 refine af rfl ?_
 refine az ?_
 refine⟨_,ak,rfl,?_⟩
 simp only[hend]
 exact⟨h4,D1,h3⟩}
theorem A3 {h:ah} {id ar c a b:Nat} {d:Array aR} {fv:Value} (D:DA h id ar d) (hab:a<b) (hb:b≤d.size) : FW env 184 [.slice (some ⟨id,0,some ar⟩) d.size c,i64 a,i64 b,fv] h fun r h'=>r = .tuple #[]∧h'=h.set id (.aA (IC (Go.Sort.reverseRange d a b)) ar true 70)∧DA h' id ar (Go.Sort.reverseRange d a b)∧(Go.Sort.reverseRange d a b).size=d.size:=by{
have hn:=D.n
have e1:IntKind.i64.wrap ((b:Int)-1)=((b-1:Nat):Int):=by rw[ax om om];omega
obtain⟨B,hB⟩:∃ B,B=b-1:=⟨_,rfl⟩
rw[← hB] at e1
refine fe Tryz.func184 ?_;simp only[push_cast]
refine aG e1 ?_
refine fp (fun x:Nat×Nat×Array aR×ah=>x.2.1+1-x.1) (fun x=>[(0,.val (.slice (some ⟨id,0,some ar⟩) d.size c)),(8,.val (i64 x.1)),(9,.val (i64 x.2.1))]) (fun x=>x.2.2.2)
 (fun x=>x.2.1<d.size∧x.2.2.1.size=d.size∧x.2.2.2=h.set id (.aA (IC x.2.2.1) ar true 70)∧DA x.2.2.2 id ar x.2.2.1∧Go.Sort.reverseLoop x.1 x.2.1 x.2.2.1=Go.Sort.reverseRange d a b) (a,B,d,h) aK rfl ⟨by simp only;omega,rfl,(fS D.g).symm,D,by simp only;rw[hB];rfl⟩ ?_
rintro⟨i,j,dc,hc⟩ ⟨h1,h3,h4,D1,h5⟩
simp only at h1 h3 h4 D1 h5 ⊢
by_cases hlt:i<j
·have e3:=aS hlt
 have hg:=D1.g
 have hi1:i<dc.size:=by omega
 have hj1:j<dc.size:=by omega
 have g1:=bD hi1
 have g0:=bD hj1
 have r1:=cg (k:=i) (n:=d.size) om
 have r0:=cg (k:=j) (n:=d.size) om
 have e4:IntKind.i64.wrap ((i:Int)+1)=(i:Int)+1:=ax om om
 have e5:IntKind.i64.wrap ((j:Int)-1)=((j-1:Nat):Int):=by rw[ax om om];omega
 have hst:Go.Sort.reverseLoop i j dc=Go.Sort.reverseLoop (i+1) (j-1) (Go.Sort.swp dc i j):=by rw[Go.Sort.reverseLoop,if_pos hlt]
 obtain⟨q,hq⟩:∃ q,q=j-1:=⟨_,rfl⟩
 rw[← hq] at e5 hst
 refine aG e3 ?_
 refine ae rfl ?_
 refine aC ?_
 refine aB [(0,.val (.slice (some ⟨id,0,some ar⟩) d.size c)),(8,.val (i64 i)),(9,.val (i64 j))] aK ?_
 show CW _ _ ⟨_,[],hc⟩ _
 apply bm (L:=[[],[],[],[],[],[],[4,5],[4,5,6],[],[],[8,9],[8,9,10],[0,1],[0,1,4,5,6,7,8,9,10,11,12],[2,3],[0,1,2,3,4,5,6,7,8,9,10,11,12,13,14]]) (act:=[13,15]) (hs:=[hc.set id (.aA (IC (dc.setIfInBounds i dc[j]!)) ar true 70),hc.set id (.aA (IC (Go.Sort.swp dc i j)) ar true 70)]) (resL:=[_,_,_,_,_,_,_,_,_,_,_,_,_,_,_,_]) (frF:=[(0,.val (.slice (some ⟨id,0,some ar⟩) d.size c)),(8,.val (i64 i)),(9,.val (i64 j))])
 case hm=>exact mixed
 case hc=>kernel_rfl
 case ha=>rfl
 case hb=>rfl
 case hS=>
  refine zK hg g1 g0 r1 r0 Nat.mul_one ?_
  apply ay.cons
  ·rfl
  ·refine⟨?_,trivial⟩
   exact bo (r:=.sl .dH) rfl ak rfl ak ak hg ak rfl (cS (d:=dc) (i:=i) (x:=dc[j]!) hi1) rfl rfl
  ·rfl
  refine zK hg g1 g0 r1 r0 Nat.mul_one ?_
  apply ay.cons
  ·rfl
  ·refine⟨?_,trivial⟩
   exact bo (r:=.sl .dH) rfl ak rfl ak ak (aw hg) ak rfl (cS (d:=dc.setIfInBounds i dc[j]!) (i:=j) (x:=dc[i]!) (by simpa using hj1)) rfl aM.symm
  ·rfl
  exact ay.nil _
 case ht=>rfl
 case hF=>exact zh
 show CW _ _ _ _
 refine fh e4 e5 ?_
 exact⟨(i+1,q,Go.Sort.swp dc i j,_),by simp only;omega,aK,rfl,by simp only;omega,by simp only;rw[swp_size];exact h3,by simp only;rw[h4,aM],D1.swp hi1 hj1,by simp only;rw[← hst];exact h5⟩
·have e3:decide ((i:Int)<(j:Int))=false:=decide_eq_false om
 have hend:Go.Sort.reverseRange d a b=dc:=by rw[← h5,Go.Sort.reverseLoop,if_neg hlt]
 refine aG e3 ?_
 refine af rfl ?_
 refine az ?_
 refine⟨_,ak,rfl,?_⟩
 simp only[hend]
 exact⟨h4,D1,h3⟩}
theorem Cm {h:ah} {id ar c root0 hi first:Nat} {d:Array aR} (D:DA h id ar d) (hb:first+hi≤d.size) (hroot:root0≤hi) : FW env 206 [.slice (some ⟨id,0,some ar⟩) d.size c,i64 root0,i64 hi,i64 first,aO] h fun r h'=>r = .tuple #[]∧h'=h.set id (.aA (IC (Go.Sort.siftDown bu hi first root0 d)) ar true 70)∧DA h' id ar (Go.Sort.siftDown bu hi first root0 d)∧(Go.Sort.siftDown bu hi first root0 d).size=d.size:=by{
have hn:=D.n
refine fe Tryz.func206 ?_;simp only[push_cast]
refine aC ?_
refine fp (fun x:Nat×Array aR×ah=>2*hi+2-x.1) (fun x=>[(0,.val (.slice (some ⟨id,0,some ar⟩) d.size c)),(2,.val (i64 hi)),(3,.val (i64 first)),(4,.val aO),(10,.val (i64 x.1))]) (fun x=>x.2.2)
 (fun x=>x.1≤hi∧x.2.1.size=d.size∧x.2.2=h.set id (.aA (IC x.2.1) ar true 70)∧DA x.2.2 id ar x.2.1∧Go.Sort.siftDown bu hi first x.1 x.2.1=Go.Sort.siftDown bu hi first root0 d) (root0,d,h) aK rfl ⟨hroot,rfl,(fS D.g).symm,D,rfl⟩ ?_
rintro⟨root,dc,hc⟩ ⟨h1,h3,h4,D1,h5⟩
simp only at h1 h3 h4 D1 h5 ⊢
have e1:IntKind.i64.wrap (2*(root:Int))=2*(root:Int):=ax om om
have e1':IntKind.i64.wrap (2*(root:Int)+1)=((2*root+1:Nat):Int):=by rw[ax om om];omega
obtain⟨K,hK⟩:∃ K,K=2*root+1:=⟨_,rfl⟩
rw[← hK] at e1'
have hg:=D1.g
by_cases hlt:hi≤K
·have d1:decide ((hi:Int)≤(K:Int))=true:=decide_eq_true om
 have hend:Go.Sort.siftDown bu hi first root0 d=dc:=by rw[← h5,Go.Sort.siftDown,dif_pos om]
 refine gV e1 e1' d1 ?_
 refine ae rfl ?_
 refine az ?_
 refine⟨_,ak,rfl,?_⟩
 simp only[hend]
 exact⟨h4,D1,h3⟩
have d1:decide ((hi:Int)≤(K:Int))=false:=decide_eq_false om
have hr1:first+root<dc.size:=by omega
have g2:=bD hr1
have b2:=D1.b _ hr1
have rr2:=cg (k:=first+root) (n:=d.size) om
have e2r:IntKind.i64.wrap ((first:Int)+(root:Int))=((first+root:Nat):Int):=by rw[ax om om];omega
obtain⟨r2,hr2⟩:∃ r2,r2=first+root:=⟨_,rfl⟩
rw[← hr2] at g2 b2 rr2 e2r hr1
have e3:IntKind.i64.wrap ((K:Int)+1)=((K+1:Nat):Int):=by rw[ax om om];omega
refine gV e1 e1' d1 ?_
refine af rfl ?_
refine aC ?_
refine aB [(0,.val (.slice (some ⟨id,0,some ar⟩) d.size c)),(2,.val (i64 hi)),(3,.val (i64 first)),(4,.val aO),(10,.val (i64 root)),(11,.val (i64 K))] aK ?_
show CW _ _ ⟨_,[],hc⟩ _
repeat refine vM ?_
refine CW.mono (Q:=fun e s'=>e = .normal∧s'.h=hc∧∃ (β:Bool) (C:Nat),C=(if β=true then K+1 else K)∧C<hi∧(Go.Sort.siftDown bu hi first root dc=if (!bu dc[r2]! dc[first+C]!)=true then dc else Go.Sort.siftDown bu hi first C (Go.Sort.swp dc r2 (first+C)))∧bA [(0,.val (.slice (some ⟨id,0,some ar⟩) d.size c)),(2,.val (i64 hi)),(3,.val (i64 first)),(4,.val aO),(10,.val (i64 root)),(11,.val (i64 K)),(40,.val (.bool β))] s'.fr) ?_ ?_
·by_cases hk2:K+1<hi
 ·have d3:decide (((K+1:Nat):Int)<(hi:Int))=true:=decide_eq_true om
  have hk1:first+K<dc.size:=by omega
  have hk3:first+K+1<dc.size:=by omega
  have gk:=bD hk1
  have gk1:=bD hk3
  have bk:=D1.b _ hk1
  have bk1:=D1.b _ hk3
  have rk:=cg (k:=first+K) (n:=d.size) om
  have rk1:=cg (k:=first+K+1) (n:=d.size) om
  have ek:IntKind.i64.wrap ((first:Int)+(K:Int))=((first+K:Nat):Int):=by rw[ax om om];omega
  have ek1:IntKind.i64.wrap (((first+K:Nat):Int)+1)=((first+K+1:Nat):Int):=by rw[ax om om];omega
  have hS:Go.Sort.siftDown bu hi first root dc=if (bu dc[first+K]! dc[first+K+1]!)=true then (if (!bu dc[r2]! dc[first+(K+1)]!)=true then dc else Go.Sort.siftDown bu hi first (K+1) (Go.Sort.swp dc r2 (first+(K+1)))) else (if (!bu dc[r2]! dc[first+K]!)=true then dc else Go.Sort.siftDown bu hi first K (Go.Sort.swp dc r2 (first+K))):=by
   rw[Go.Sort.siftDown,dif_neg om,hr2,hK]
   simp [show 2*root+1+1<hi by omega,show 2*root+2<hi by omega]
  obtain⟨k1,hk1e⟩:∃ k1,k1=first+K:=⟨_,rfl⟩
  obtain⟨k2,hk2e⟩:∃ k2,k2=first+K+1:=⟨_,rfl⟩
  obtain⟨K1,hK1⟩:∃ K1,K1=K+1:=⟨_,rfl⟩
  rw[← hk2e] at gk1 bk1 rk1 ek1 hS
  rw[← hk1e] at gk bk rk ek ek1 hS
  rw[← hK1] at d3 e3 hS
  cases hl1:bu dc[k1]! dc[k2]! with
  | true=>
    have d7:decide (fG dc[k1]! dc[k2]! < 0)=true:=hl1
    have hrun:Go.Sort.siftDown bu hi first root dc=if (!bu dc[r2]! dc[first+K1]!)=true then dc else Go.Sort.siftDown bu hi first K1 (Go.Sort.swp dc r2 (first+K1)):=by rw[hS,hl1];rfl
    apply bx (L:=[[],[0],[],[1,2],[3],[4],[4],[4],[4],[4,7,8],[4,6,9],[4,10],[4],[4],[4],[4,13,14],[4,15],[4,12,16],[4,17],[4,5,11,18],[4,19],[4,20]]) (resL:=[_,_,_,_,_,_,_,_,_,_,_,_,_,_,_,_,_,_,_,_,_,_]) (frF:=[(0,.val (.slice (some ⟨id,0,some ar⟩) d.size c)),(2,.val (i64 hi)),(3,.val (i64 first)),(4,.val aO),(10,.val (i64 root)),(11,.val (i64 K)),(40,.val (.bool true))])
    case hm=>exact mixed
    case hc=>kernel_rfl
    case hb=>rfl
    case hS=>
     repeat (first|exact aV.nil _|(apply aV.cons;(·apply zz;simp only[push_cast,env,Nat.reduceEqDiff,reduceIte,Nat.reduceAdd,Nat.reduceMul,Nat.reduceLeDiff,reduceCtorEq,Nat.reduceSub,Int.reduceToNat,e3,d3,hg,gk,gk1,ek,ek1,rk,rk1,Nat.mul_one]<;>exact rfl);(·rfl)))
     apply aV.cons
     ·exact bi (fn:=Tryz.f104) (args:=[dc[k1]!.val,dc[k2]!.val]) (cap:=[]) rfl (ir d3) rfl ak ak Tryz.func104 kr kr (bK bk bk1)
     ·rfl
     exact rV d7 d3
    case ht=>rfl
    case hF=>exact zh
    exact⟨rfl,rfl,true,K1,by rw[if_pos rfl];exact hK1,by omega,hrun,aK⟩
  | false=>
    have d7:decide (fG dc[k1]! dc[k2]! < 0)=false:=hl1
    have hrun:Go.Sort.siftDown bu hi first root dc=if (!bu dc[r2]! dc[first+K]!)=true then dc else Go.Sort.siftDown bu hi first K (Go.Sort.swp dc r2 (first+K)):=by rw[hS,hl1,← hk1e];rfl
    apply bx (L:=[[],[0],[],[1,2],[3],[4],[4],[4],[4],[4,7,8],[4,6,9],[4,10],[4],[4],[4],[4,13,14],[4,15],[4,12,16],[4,17],[4,5,11,18],[4,19],[4,20]]) (resL:=[_,_,_,_,_,_,_,_,_,_,_,_,_,_,_,_,_,_,_,_,_,_]) (frF:=[(0,.val (.slice (some ⟨id,0,some ar⟩) d.size c)),(2,.val (i64 hi)),(3,.val (i64 first)),(4,.val aO),(10,.val (i64 root)),(11,.val (i64 K)),(40,.val (.bool false))])
    case hm=>exact mixed
    case hc=>kernel_rfl
    case hb=>rfl
    case hS=>
     repeat (first|exact aV.nil _|(apply aV.cons;(·apply zz;simp only[push_cast,env,Nat.reduceEqDiff,reduceIte,Nat.reduceAdd,Nat.reduceMul,Nat.reduceLeDiff,reduceCtorEq,Nat.reduceSub,Int.reduceToNat,e3,d3,hg,gk,gk1,ek,ek1,rk,rk1,Nat.mul_one]<;>exact rfl);(·rfl)))
     apply aV.cons
     ·exact bi (fn:=Tryz.f104) (args:=[dc[k1]!.val,dc[k2]!.val]) (cap:=[]) rfl (ir d3) rfl ak ak Tryz.func104 kr kr (bK bk bk1)
     ·rfl
     exact rV d7 d3
    case ht=>rfl
    case hF=>exact zh
    exact⟨rfl,rfl,false,K,rfl,by omega,hrun,aK⟩
 ·have d3:decide (((K+1:Nat):Int)<(hi:Int))=false:=decide_eq_false om
  have hrun:Go.Sort.siftDown bu hi first root dc=if (!bu dc[r2]! dc[first+K]!)=true then dc else Go.Sort.siftDown bu hi first K (Go.Sort.swp dc r2 (first+K)):=by
   rw[Go.Sort.siftDown,dif_neg om,hr2,hK]
   simp [show ¬ 2*root+1+1<hi by omega]
  obtain⟨K1,hK1⟩:∃ K1,K1=K+1:=⟨_,rfl⟩
  rw[← hK1] at d3 e3
  apply bx (L:=[[],[0],[],[1,2],[3],[4],[4],[4],[4],[4,7,8],[4,6,9],[4,10],[4],[4],[4],[4,13,14],[4,15],[4,12,16],[4,17],[4,5,11,18],[4,19],[4,20]]) (resL:=[_,_,_,_,_,_,_,_,_,_,_,_,_,_,_,_,_,_,_,_,_,_]) (frF:=[(0,.val (.slice (some ⟨id,0,some ar⟩) d.size c)),(2,.val (i64 hi)),(3,.val (i64 first)),(4,.val aO),(10,.val (i64 root)),(11,.val (i64 K)),(40,.val (.bool false))])
  case hm=>exact mixed
  case hc=>kernel_rfl
  case hb=>rfl
  case hS=>exact rV e3 d3
  case ht=>rfl
  case hF=>exact zh
  exact⟨rfl,rfl,false,K,rfl,by omega,hrun,aK⟩
rintro e s' ⟨rfl,hh,β,C,hCe,hCh,hrun,hf⟩
have hCK:K≤C:=by rw[hCe];split<;>omega
show CW _ _ _ _
refine aB _ hf ?_
rw[hh]
clear hf hh
refine CW.mono (Q:=fun e s'=>e = .normal∧s'.h=hc∧bA [(0,.val (.slice (some ⟨id,0,some ar⟩) d.size c)),(2,.val (i64 hi)),(3,.val (i64 first)),(4,.val aO),(10,.val (i64 root)),(11,.val (i64 C))] s'.fr) ?_ ?_
·cases β with
 | true=>
   rw[if_pos rfl] at hCe
   rw[← hCe] at e3
   refine ae rfl ?_
   refine aG e3 ?_
   exact⟨rfl,rfl,aK⟩
 | false=>
   have hCe':C=K:=hCe
   subst hCe'
   refine af rfl ?_
   refine aC ?_
   exact⟨rfl,rfl,aK⟩
rintro e s' ⟨rfl,hh,hf⟩
show CW _ _ _ _
refine aB _ hf ?_
rw[hh]
clear hf hh
have hC1:first+C<dc.size:=by omega
have gC:=bD hC1
have bC:=D1.b _ hC1
have rC:=cg (k:=first+C) (n:=d.size) om
have eC:IntKind.i64.wrap ((first:Int)+(C:Int))=((first+C:Nat):Int):=by rw[ax om om];omega
obtain⟨c2,hc2⟩:∃ c2,c2=first+C:=⟨_,rfl⟩
rw[← hc2] at gC bC rC eC hC1 hrun
refine aC ?_
refine aB [(0,.val (.slice (some ⟨id,0,some ar⟩) d.size c)),(2,.val (i64 hi)),(3,.val (i64 first)),(4,.val aO),(10,.val (i64 root)),(11,.val (i64 C))] aK ?_
show CW _ _ ⟨_,[],hc⟩ _
cases hl2:bu dc[r2]! dc[c2]! with
| false=>
  have d8:decide (fG dc[r2]! dc[c2]! < 0)=false:=hl2
  have hend:Go.Sort.siftDown bu hi first root0 d=dc:=by rw[← h5,hrun,hl2];rfl
  apply bx (L:=[[],[],[],[],[2,3],[1,4],[5],[],[],[],[8,9],[7,10],[11],[0,6,12],[13],[14]]) (resL:=[_,_,_,_,_,_,_,_,_,_,_,_,_,_,_,_]) (frF:=[(58,.val (.bool true))])
  case hm=>exact mixed
  case hc=>kernel_rfl
  case hb=>rfl
  case hS=>
   refine KN hg g2 gC e2r eC rr2 rC Nat.mul_one ?_
   apply aV.cons
   ·exact bi (fn:=Tryz.f104) (args:=[dc[r2]!.val,dc[c2]!.val]) (cap:=[]) rfl ak rfl ak ak Tryz.func104 kr kr (bK b2 bC)
   ·rfl
   exact CY d8
  case ht=>rfl
  case hF=>exact zh
  show CW _ _ _ _
  refine aC ?_
  refine ae rfl ?_
  refine aC ?_
  refine ai ?_
  refine⟨_,ak,rfl,?_⟩
  simp only[hend]
  exact⟨h4,D1,h3⟩
| true=>
  have d8:decide (fG dc[r2]! dc[c2]! < 0)=true:=hl2
  have hnx:Go.Sort.siftDown bu hi first C (Go.Sort.swp dc r2 c2)=Go.Sort.siftDown bu hi first root0 d:=by rw[← h5,hrun,hl2];rfl
  apply bx (L:=[[],[],[],[],[2,3],[1,4],[5],[],[],[],[8,9],[7,10],[11],[0,6,12],[13],[14]]) (resL:=[_,_,_,_,_,_,_,_,_,_,_,_,_,_,_,_]) (frF:=[(0,.val (.slice (some ⟨id,0,some ar⟩) d.size c)),(2,.val (i64 hi)),(3,.val (i64 first)),(4,.val aO),(10,.val (i64 root)),(11,.val (i64 C)),(58,.val (.bool false))])
  case hm=>exact mixed
  case hc=>kernel_rfl
  case hb=>rfl
  case hS=>
   refine KN hg g2 gC e2r eC rr2 rC Nat.mul_one ?_
   apply aV.cons
   ·exact bi (fn:=Tryz.f104) (args:=[dc[r2]!.val,dc[c2]!.val]) (cap:=[]) rfl ak rfl ak ak Tryz.func104 kr kr (bK b2 bC)
   ·rfl
   exact CY d8
  case ht=>rfl
  case hF=>exact zh
  show CW _ _ _ _
  refine aC ?_
  refine af rfl ?_
  refine aC ?_
  refine aB [(0,.val (.slice (some ⟨id,0,some ar⟩) d.size c)),(2,.val (i64 hi)),(3,.val (i64 first)),(4,.val aO),(10,.val (i64 root)),(11,.val (i64 C))] aK ?_
  show CW _ _ ⟨_,[],hc⟩ _
  apply bm (L:=[[],[],[],[1,2],[],[],[],[5,6],[],[],[],[9,10],[8,9,10,11],[8,9,10,11,12],[],[],[],[15,16],[14,15,16,17],[14,15,16,17,18],[0,1,2,3],[0,1,2,3,8,9,10,11,12,13,14,15,16,17,18,19,20],[4,5,6,7],[0,1,2,3,4,5,6,7,8,9,10,11,12,13,14,15,16,17,18,19,20,21,22]]) (act:=[21,23]) (hs:=[hc.set id (.aA (IC (dc.setIfInBounds r2 dc[c2]!)) ar true 70),hc.set id (.aA (IC (Go.Sort.swp dc r2 c2)) ar true 70)]) (resL:=[_,_,_,_,_,_,_,_,_,_,_,_,_,_,_,_,_,_,_,_,_,_,_,_]) (frF:=[(0,.val (.slice (some ⟨id,0,some ar⟩) d.size c)),(2,.val (i64 hi)),(3,.val (i64 first)),(4,.val aO),(11,.val (i64 C))])
  case hm=>exact mixed
  case hc=>kernel_rfl
  case ha=>rfl
  case hb=>rfl
  case hS=>
   refine K7 hg g2 gC e2r eC rr2 rC Nat.mul_one ?_
   apply ay.cons
   ·rfl
   ·refine⟨?_,trivial⟩
    exact bo (r:=.sl .dH) rfl ak rfl ak ak hg ak rfl (cS (d:=dc) (i:=r2) (x:=dc[c2]!) hr1) rfl rfl
   ·rfl
   refine K7 hg g2 gC e2r eC rr2 rC Nat.mul_one ?_
   apply ay.cons
   ·rfl
   ·refine⟨?_,trivial⟩
    exact bo (r:=.sl .dH) rfl ak rfl ak ak (aw hg) ak rfl (cS (d:=dc.setIfInBounds r2 dc[c2]!) (i:=c2) (x:=dc[r2]!) (by simpa using hC1)) rfl aM.symm
   ·rfl
   exact ay.nil _
  case ht=>rfl
  case hF=>exact zh
  show CW _ _ _ _
  refine aC ?_
  exact⟨(C,Go.Sort.swp dc r2 c2,_),by simp only;omega,aK,rfl,by simp only;omega,by simp only;rw[swp_size];exact h3,by simp only;rw[h4,aM],D1.swp hr1 hC1,hnx⟩}
theorem Px (n:Nat):Int.tdiv ((n:Int)-1) 2=(((n-1) / 2:Nat):Int):=by{
cases n with
| zero=>rfl
| succ n=>rw[show ((n+1:Nat):Int)-1=(n:Int) by omega];rfl}
theorem Js {h:ah} {id ar c a b:Nat} {d:Array aR} (D:DA h id ar d) (hab:a≤b) (hb:b≤d.size) : FW env 181 [.slice (some ⟨id,0,some ar⟩) d.size c,i64 a,i64 b,aO] h fun r h'=>r = .tuple #[]∧h'=h.set id (.aA (IC (Go.Sort.heapSort bu d a b)) ar true 70)∧DA h' id ar (Go.Sort.heapSort bu d a b)∧(Go.Sort.heapSort bu d a b).size=d.size:=by{
have hn:=D.n
obtain⟨H,hH⟩:∃ H,H=b-a:=⟨_,rfl⟩
have e1:IntKind.i64.wrap ((b:Int)-(a:Int))=(H:Int):=by rw[ax om om];omega
have e2:IntKind.i64.wrap ((H:Int)-1)=(H:Int)-1:=ax om om
have e3:IntKind.i64.wrap (Int.tdiv ((H:Int)-1) 2)=(((H-1) / 2:Nat):Int):=by rw[Px,ax om om]
obtain⟨K0,hK0⟩:∃ K0,K0=(H-1) / 2+1:=⟨_,rfl⟩
have e3':IntKind.i64.wrap (Int.tdiv ((H:Int)-1) 2)=(K0:Int)-1:=by rw[e3,hK0];omega
refine fe Tryz.func181 ?_;simp only[push_cast]
refine gV e1 e2 e3' ?_
refine fp (fun x:Nat×Array aR×ah=>x.1) (fun x=>[(0,.val (.slice (some ⟨id,0,some ar⟩) d.size c)),(3,.val aO),(8,.val (i64 a)),(9,.val (i64 0)),(10,.val (i64 H)),(11,.val (i64 ((x.1:Int)-1)))]) (fun x=>x.2.2)
 (fun x=>x.1≤K0∧x.2.1.size=d.size∧x.2.2=h.set id (.aA (IC x.2.1) ar true 70)∧DA x.2.2 id ar x.2.1∧Go.Sort.heapBuild bu H a x.1 x.2.1=Go.Sort.heapBuild bu H a K0 d) (K0,d,h) aK rfl ⟨Nat.le_refl _,rfl,(fS D.g).symm,D,rfl⟩ ?_
rintro⟨k,dc,hc⟩ ⟨h1,h3,h4,D1,h5⟩
simp only at h1 h3 h4 D1 h5 ⊢
by_cases hk:0<k
·obtain⟨q,rfl⟩:∃ q,k=q+1:=⟨k-1,by omega⟩
 rw[show ((q+1:Nat):Int)-1=(q:Int) by omega]
 have d1:decide (0≤(q:Int))=true:=decide_eq_true om
 have e4:IntKind.i64.wrap ((q:Int)-1)=(q:Int)-1:=ax om om
 refine aG d1 ?_
 refine ae rfl ?_
 refine aC ?_
 refine zj Tryz.func206 ?_
 rw[List.append_nil,← h3]
 refine (Cm (c:=c) (root0:=q) (hi:=H) (first:=a) D1 om om).mono ?_
 rintro _ h6 ⟨rfl,k1,k2,k3⟩
 rw[h3]
 refine aG e4 ?_
 exact⟨(q,_,h6),by simp only;omega,aK,rfl,by simp only;omega,k3.trans h3,by simp only;rw[k1,h4,aM],k2,h5⟩
·obtain rfl:k=0:=by omega
 have hbu:dc=Go.Sort.heapBuild bu H a K0 d:=h5
 have d1:decide (0≤((0:Nat):Int)-1)=false:=rfl
 rw[show ((0:Nat):Int)-1 = -1 from rfl]
 have d1':decide (0≤(-1:Int))=false:=rfl
 refine aG d1' ?_
 refine af rfl ?_
 refine az ?_
 show CW _ _ _ _
 refine aG e2 ?_
 refine fp (fun x:Nat×Array aR×ah=>x.1) (fun x=>[(0,.val (.slice (some ⟨id,0,some ar⟩) d.size c)),(3,.val aO),(8,.val (i64 a)),(9,.val (i64 0)),(10,.val (i64 H)),(12,.val (i64 ((x.1:Int)-1)))]) (fun x=>x.2.2)
  (fun x=>x.1≤H∧x.2.1.size=d.size∧x.2.2=h.set id (.aA (IC x.2.1) ar true 70)∧DA x.2.2 id ar x.2.1∧Go.Sort.heapPop bu a x.1 x.2.1=Go.Sort.heapSort bu d a b) (H,dc,hc) aK rfl ⟨Nat.le_refl _,h3,h4,D1,by simp only;rw[hbu];unfold Go.Sort.heapSort;rw[← hH,hK0]⟩ ?_
 clear h1 h3 h4 D1 h5 hbu hk hc dc
 rintro⟨k,dc,hc⟩ ⟨h1,h3,h4,D1,h5⟩
 simp only at h1 h3 h4 D1 h5 ⊢
 by_cases hk:0<k
 ·obtain⟨q,rfl⟩:∃ q,k=q+1:=⟨k-1,by omega⟩
  rw[show ((q+1:Nat):Int)-1=(q:Int) by omega]
  have d1:decide (0≤(q:Int))=true:=decide_eq_true om
  have e4:IntKind.i64.wrap ((q:Int)-1)=(q:Int)-1:=ax om om
  have hun:Go.Sort.heapPop bu a (q+1) dc=Go.Sort.heapPop bu a q (Go.Sort.siftDown bu q a 0 (Go.Sort.swp dc a (a+q))):=rfl
  have hg:=D1.g
  have hi1:a<dc.size:=by omega
  have hj1:a+q<dc.size:=by omega
  have g1:=bD hi1
  have g0:=bD hj1
  have r1:=cg (k:=a) (n:=d.size) om
  have r0:=cg (k:=a+q) (n:=d.size) om
  have e5:IntKind.i64.wrap ((a:Int)+(q:Int))=((a+q:Nat):Int):=by rw[ax om om];omega
  obtain⟨J,hJ⟩:∃ J,J=a+q:=⟨_,rfl⟩
  rw[← hJ] at e5 g0 r0 hj1 hun
  refine aG d1 ?_
  refine ae rfl ?_
  refine aC ?_
  refine aB [(0,.val (.slice (some ⟨id,0,some ar⟩) d.size c)),(3,.val aO),(8,.val (i64 a)),(9,.val (i64 0)),(10,.val (i64 H)),(12,.val (i64 q))] aK ?_
  show CW _ _ ⟨_,[],hc⟩ _
  apply bm (L:=[[],[],[],[],[],[3,4],[],[],[],[7,8],[6,7,8,9],[6,7,8,9,10],[],[],[12,13],[12,13,14],[0,1],[0,1,6,7,8,9,10,11,12,13,14,15,16],[2,3,4,5],[0,1,2,3,4,5,6,7,8,9,10,11,12,13,14,15,16,17,18]]) (act:=[17,19]) (hs:=[hc.set id (.aA (IC (dc.setIfInBounds a dc[J]!)) ar true 70),hc.set id (.aA (IC (Go.Sort.swp dc a J)) ar true 70)]) (resL:=[_,_,_,_,_,_,_,_,_,_,_,_,_,_,_,_,_,_,_,_]) (frF:=[(0,.val (.slice (some ⟨id,0,some ar⟩) d.size c)),(3,.val aO),(8,.val (i64 a)),(9,.val (i64 0)),(10,.val (i64 H)),(12,.val (i64 q))])
  case hm=>exact mixed
  case hc=>kernel_rfl
  case ha=>rfl
  case hb=>rfl
  case hS=>
   refine JN hg g1 g0 r1 r0 e5 Nat.mul_one ?_
   apply ay.cons
   ·rfl
   ·refine⟨?_,trivial⟩
    exact bo (r:=.sl .dH) rfl ak rfl ak ak hg ak rfl (cS (d:=dc) (i:=a) (x:=dc[J]!) hi1) rfl rfl
   ·rfl
   refine JN hg g1 g0 r1 r0 e5 Nat.mul_one ?_
   apply ay.cons
   ·rfl
   ·refine⟨?_,trivial⟩
    exact bo (r:=.sl .dH) rfl ak rfl ak ak (aw hg) ak rfl (cS (d:=dc.setIfInBounds a dc[J]!) (i:=J) (x:=dc[a]!) (by simpa using hj1)) rfl aM.symm
   ·rfl
   exact ay.nil _
  case ht=>rfl
  case hF=>exact zh
  show CW _ _ _ _
  refine aC ?_
  refine zj Tryz.func206 ?_
  have hsz:d.size=(Go.Sort.swp dc a J).size:=by rw[swp_size,h3]
  rw[List.append_nil,hsz]
  refine (Cm (c:=c) (root0:=0) (hi:=q) (first:=a) (D1.swp hi1 hj1) (by rw[← hsz];omega) om).mono ?_
  rintro _ h6 ⟨rfl,k1,k2,k3⟩
  rw[← hsz]
  refine aG e4 ?_
  exact⟨(q,_,h6),by simp only;omega,aK,rfl,by simp only;omega,k3.trans hsz.symm,by simp only;rw[k1,h4,aM,aM],k2,by simp only;rw[← hun];exact h5⟩
 ·obtain rfl:k=0:=by omega
  have hend:Go.Sort.heapSort bu d a b=dc:=h5.symm
  rw[show ((0:Nat):Int)-1 = -1 from rfl]
  have d1':decide (0≤(-1:Int))=false:=rfl
  refine aG d1' ?_
  refine af rfl ?_
  refine az ?_
  refine⟨_,ak,rfl,?_⟩
  simp only[hend]
  exact⟨h4,D1,h3⟩}
def OM (dc:Array aR) (a:Nat) (x:aR):Bool:=!bu dc[a]! x
def RZ (dc:Array aR) (a:Nat) (x:aR):Bool:=bu dc[a]! x
theorem lS {p:aR→Bool} {d:Array aR} {j i:Nat} (h:i≤j) (hp:p d[i]! = true):Go.Sort.scanUp p d j i=Go.Sort.scanUp p d j (i+1):=by
 rw[Go.Sort.scanUp,if_pos (by simp [h,hp])]
theorem gz {p:aR→Bool} {d:Array aR} {j i:Nat} (h:¬ (i≤j∧p d[i]! = true)):Go.Sort.scanUp p d j i=i:=by
 rw[Go.Sort.scanUp,if_neg (by simpa using h)]
theorem jG {p:aR→Bool} {d:Array aR} {i j:Nat} (h:i≤j+1) (hp:p d[j+1]! = true):Go.Sort.scanDown p d i (j+1)=Go.Sort.scanDown p d i j:=by
 rw[Go.Sort.scanDown,if_pos (by simp [h,hp])]
theorem fk {p:aR→Bool} {d:Array aR} {i j:Nat} (h:¬ (i≤j∧p d[j]! = true)):Go.Sort.scanDown p d i j=j:=by{
cases j with
| zero=>rfl
| succ j=>rw[Go.Sort.scanDown,if_neg (by simpa using h)]}
theorem xN {d:Array aR} {a i j i2 j2:Nat} (h1:Go.Sort.scanUp (OM d a) d j i=i2) (h2:Go.Sort.scanDown (RZ d a) d i2 j=j2) (hij:i≤j+2):Go.Sort.partEqLoop bu a i j d=if i2 > j2 then (i2,d) else Go.Sort.partEqLoop bu a (i2+1) (j2-1) (Go.Sort.swp d i2 j2):=by{
have g1:=Go.Sort.scanUp_ge (OM d a) d j i
have g2:=Go.Sort.scanDown_le (RZ d a) d i2 j
rw[h1] at g1
rw[h2] at g2
have h1':Go.Sort.scanUp (fun x=>!bu d[a]! x) d j i=i2:=h1
have h2':Go.Sort.scanDown (fun x=>bu d[a]! x) d i2 j=j2:=h2
rw[Go.Sort.partEqLoop]
simp only[h1',h2']
by_cases h:i2 > j2
·rw[if_pos h,if_pos h]
·rw[if_neg h,if_neg h,dif_pos om]}
theorem Ee {h:ah} {id ar c a b pv:Nat} {d:Array aR} (D:DA h id ar d) (ha:a≤pv) (hpb:pv<b) (hb:b≤d.size) : FW env 186 [.slice (some ⟨id,0,some ar⟩) d.size c,i64 a,i64 b,i64 pv,aO] h fun r h'=>r=i64 (Go.Sort.partitionEqual bu d a b pv).1∧h'=h.set id (.aA (IC (Go.Sort.partitionEqual bu d a b pv).2) ar true 70)∧DA h' id ar (Go.Sort.partitionEqual bu d a b pv).2∧(Go.Sort.partitionEqual bu d a b pv).2.size=d.size:=by{
have hn:=D.n
refine fe Tryz.func186 ?_;simp only[push_cast]
refine aC ?_
have hg:=D.g
have hi1:a<d.size:=by omega
have hj1:pv<d.size:=by omega
have g1:=bD hi1
have g0:=bD hj1
have r1:=cg (k:=a) (n:=d.size) om
have r0:=cg (k:=pv) (n:=d.size) om
refine aB [(0,.val (.slice (some ⟨id,0,some ar⟩) d.size c)),(1,.val (i64 a)),(2,.val (i64 b)),(3,.val (i64 pv)),(4,.val aO)] aK ?_
show CW _ _ ⟨_,[],h⟩ _
apply bm (L:=[[],[],[],[],[],[],[4,5],[4,5,6],[],[],[8,9],[8,9,10],[0,1],[0,1,4,5,6,7,8,9,10,11,12],[2,3],[0,1,2,3,4,5,6,7,8,9,10,11,12,13,14]]) (act:=[13,15]) (hs:=[h.set id (.aA (IC (d.setIfInBounds a d[pv]!)) ar true 70),h.set id (.aA (IC (Go.Sort.swp d a pv)) ar true 70)]) (resL:=[_,_,_,_,_,_,_,_,_,_,_,_,_,_,_,_]) (frF:=[(0,.val (.slice (some ⟨id,0,some ar⟩) d.size c)),(1,.val (i64 a)),(2,.val (i64 b)),(4,.val aO)])
case hm=>exact mixed
case hc=>kernel_rfl
case ha=>rfl
case hb=>rfl
case hS=>
 refine zK hg g1 g0 r1 r0 Nat.mul_one ?_
 apply ay.cons
 ·rfl
 ·refine⟨?_,trivial⟩
  exact bo (r:=.sl .dH) rfl ak rfl ak ak hg ak rfl (cS (d:=d) (i:=a) (x:=d[pv]!) hi1) rfl rfl
 ·rfl
 refine zK hg g1 g0 r1 r0 Nat.mul_one ?_
 apply ay.cons
 ·rfl
 ·refine⟨?_,trivial⟩
  exact bo (r:=.sl .dH) rfl ak rfl ak ak (aw hg) ak rfl (cS (d:=d.setIfInBounds a d[pv]!) (i:=pv) (x:=d[a]!) (by simpa using hj1)) rfl aM.symm
 ·rfl
 exact ay.nil _
case ht=>rfl
case hF=>exact zh
show CW _ _ _ _
have e1:IntKind.i64.wrap ((a:Int)+1)=((a+1:Nat):Int):=by rw[ax om om];omega
have e2:IntKind.i64.wrap ((b:Int)-1)=((b-1:Nat):Int):=by rw[ax om om];omega
obtain⟨i0,hi0⟩:∃ i0,i0=a+1:=⟨_,rfl⟩
obtain⟨j0,hj0⟩:∃ j0,j0=b-1:=⟨_,rfl⟩
rw[← hi0] at e1
rw[← hj0] at e2
have D0:=D.swp hi1 hj1
refine fh e1 e2 ?_
refine fp (fun x:Nat×Nat×Array aR×ah=>x.2.1+3-x.1) (fun x=>[(0,.val (.slice (some ⟨id,0,some ar⟩) d.size c)),(1,.val (i64 a)),(4,.val aO),(11,.val (i64 x.1)),(12,.val (i64 x.2.1))]) (fun x=>x.2.2.2)
 (fun x=>a<x.1∧x.1≤x.2.1+2∧x.2.1<d.size∧x.2.2.1.size=d.size∧x.2.2.2=h.set id (.aA (IC x.2.2.1) ar true 70)∧DA x.2.2.2 id ar x.2.2.1∧Go.Sort.partEqLoop bu a x.1 x.2.1 x.2.2.1=Go.Sort.partitionEqual bu d a b pv) (i0,j0,Go.Sort.swp d a pv,_) aK rfl ⟨by simp only;omega,by simp only;omega,by simp only;omega,swp_size,rfl,D0,by simp only;rw[hi0,hj0];rfl⟩ ?_
clear hg g1 g0 D0
rintro⟨i,j,dc,hc⟩ ⟨h1,h2,h2',h3,h4,D1,h5⟩
simp only at h1 h2 h2' h3 h4 D1 h5 ⊢
have hg:=D1.g
have hac:a<dc.size:=by omega
have ga:=bD hac
have ba:=D1.b _ hac
have ra:=cg (k:=a) (n:=d.size) om
obtain⟨i2,hi2⟩:∃ i2,Go.Sort.scanUp (OM dc a) dc j i=i2:=⟨_,rfl⟩
refine aC ?_
refine CW.mono (Q:=fun e s'=>e = .exit 2∧s'.h=hc∧i≤i2∧i2≤j+2∧bA [(0,.val (.slice (some ⟨id,0,some ar⟩) d.size c)),(1,.val (i64 a)),(4,.val aO),(11,.val (i64 i2)),(12,.val (i64 j))] s'.fr) ?_ ?_
·refine fp (fun k:Nat=>j+1-k) (fun k=>[(0,.val (.slice (some ⟨id,0,some ar⟩) d.size c)),(1,.val (i64 a)),(4,.val aO),(11,.val (i64 k)),(12,.val (i64 j))]) (fun _=>hc)
  (fun k=>i≤k∧k≤j+2∧Go.Sort.scanUp (OM dc a) dc j k=i2) i aK rfl ⟨Nat.le_refl _,h2,hi2⟩ ?_
 rintro k ⟨k1,k2,k3⟩
 by_cases hkj:k≤j
 ·have d4:decide ((k:Int)≤(j:Int))=true:=decide_eq_true om
  have hk1:k<dc.size:=by omega
  have gk:=bD hk1
  have bk:=D1.b _ hk1
  have rk:=cg (k:=k) (n:=d.size) om
  have e4:IntKind.i64.wrap ((k:Int)+1)=(k:Int)+1:=ax om om
  cases hl:bu dc[a]! dc[k]! with
  | false=>
    have d7:decide (fG dc[a]! dc[k]! < 0)=false:=hl
    refine aC ?_
    apply bx (L:=[[],[],[0,1],[2],[3],[3],[3],[3,5,6],[3,7],[3],[3],[3,9,10],[3,11],[3,4,8,12],[3,13],[3,14],[3,15]]) (resL:=[_,_,_,_,_,_,_,_,_,_,_,_,_,_,_,_,_]) (frF:=[(0,.val (.slice (some ⟨id,0,some ar⟩) d.size c)),(1,.val (i64 a)),(4,.val aO),(11,.val (i64 k)),(12,.val (i64 j)),(47,.val (.bool true))])
    case hm=>exact mixed
    case hc=>kernel_rfl
    case hb=>rfl
    case hS=>
     refine zJ d4 hg ga gk ra rk Nat.mul_one ?_
     apply aV.cons
     ·exact bi (fn:=Tryz.f104) (args:=[dc[a]!.val,dc[k]!.val]) (cap:=[]) rfl (ir d4) rfl ak ak Tryz.func104 kr kr (bK ba bk)
     ·rfl
     exact rV d7 d4
    case ht=>rfl
    case hF=>exact zh
    show CW _ _ _ _
    refine aC ?_
    refine ae rfl ?_
    refine aG e4 ?_
    exact⟨k+1,by dsimp only;omega,aK,rfl,by omega,by omega,by rw[← k3];exact (lS hkj (by unfold OM;rw[hl];rfl)).symm⟩
  | true=>
    have d7:decide (fG dc[a]! dc[k]! < 0)=true:=hl
    have hst:i2=k:=by rw[← k3];exact gz (by unfold OM;rw[hl];simp)
    subst hst
    refine aC ?_
    apply bx (L:=[[],[],[0,1],[2],[3],[3],[3],[3,5,6],[3,7],[3],[3],[3,9,10],[3,11],[3,4,8,12],[3,13],[3,14],[3,15]]) (resL:=[_,_,_,_,_,_,_,_,_,_,_,_,_,_,_,_,_]) (frF:=[(0,.val (.slice (some ⟨id,0,some ar⟩) d.size c)),(1,.val (i64 a)),(4,.val aO),(11,.val (i64 i2)),(12,.val (i64 j)),(47,.val (.bool false))])
    case hm=>exact mixed
    case hc=>kernel_rfl
    case hb=>rfl
    case hS=>
     refine zJ d4 hg ga gk ra rk Nat.mul_one ?_
     apply aV.cons
     ·exact bi (fn:=Tryz.f104) (args:=[dc[a]!.val,dc[i2]!.val]) (cap:=[]) rfl (ir d4) rfl ak ak Tryz.func104 kr kr (bK ba bk)
     ·rfl
     exact rV d7 d4
    case ht=>rfl
    case hF=>exact zh
    show CW _ _ _ _
    refine aC ?_
    refine af rfl ?_
    refine az ?_
    exact⟨rfl,rfl,k1,k2,aK⟩
 ·have d4:decide ((k:Int)≤(j:Int))=false:=decide_eq_false om
  have hst:i2=k:=by rw[← k3];exact gz om
  subst hst
  refine aC ?_
  apply bx (L:=[[],[],[0,1],[2],[3],[3],[3],[3,5,6],[3,7],[3],[3],[3,9,10],[3,11],[3,4,8,12],[3,13],[3,14],[3,15]]) (resL:=[_,_,_,_,_,_,_,_,_,_,_,_,_,_,_,_,_]) (frF:=[(0,.val (.slice (some ⟨id,0,some ar⟩) d.size c)),(1,.val (i64 a)),(4,.val aO),(11,.val (i64 i2)),(12,.val (i64 j)),(47,.val (.bool false))])
  case hm=>exact mixed
  case hc=>kernel_rfl
  case hb=>rfl
  case hS=>exact CY d4
  case ht=>rfl
  case hF=>exact zh
  show CW _ _ _ _
  refine aC ?_
  refine af rfl ?_
  refine az ?_
  exact⟨rfl,rfl,k1,k2,aK⟩
rintro e s' ⟨rfl,hh,hii,hij2,hf⟩
show CW _ _ _ _
refine aB _ hf ?_
rw[hh]
obtain⟨j2,hj2⟩:∃ j2,Go.Sort.scanDown (RZ dc a) dc i2 j=j2:=⟨_,rfl⟩
have hstep:=xN hi2 hj2 h2
refine aC ?_
refine CW.mono (Q:=fun e s'=>e = .exit 4∧s'.h=hc∧j2≤j∧i2≤j2+2∧bA [(0,.val (.slice (some ⟨id,0,some ar⟩) d.size c)),(1,.val (i64 a)),(4,.val aO),(11,.val (i64 i2)),(12,.val (i64 j2))] s'.fr) ?_ ?_
·refine fp (fun k:Nat=>k) (fun k=>[(0,.val (.slice (some ⟨id,0,some ar⟩) d.size c)),(1,.val (i64 a)),(4,.val aO),(11,.val (i64 i2)),(12,.val (i64 k))]) (fun _=>hc)
  (fun k=>k≤j∧i2≤k+2∧Go.Sort.scanDown (RZ dc a) dc i2 k=j2) j aK rfl ⟨Nat.le_refl _,hij2,hj2⟩ ?_
 rintro k ⟨k1,k2,k3⟩
 by_cases hkj:i2≤k
 ·have d4:decide ((i2:Int)≤(k:Int))=true:=decide_eq_true om
  have hk1:k<dc.size:=by omega
  have gk:=bD hk1
  have bk:=D1.b _ hk1
  have rk:=cg (k:=k) (n:=d.size) om
  obtain⟨q,hq⟩:∃ q,k=q+1:=⟨k-1,by omega⟩
  have e4:IntKind.i64.wrap ((k:Int)-1)=(q:Int):=by rw[ax om om];omega
  cases hl:bu dc[a]! dc[k]! with
  | true=>
    have d7:decide (fG dc[a]! dc[k]! < 0)=true:=hl
    refine aC ?_
    apply bx (L:=[[],[],[0,1],[2],[3],[3],[3],[3,5,6],[3,7],[3],[3],[3,9,10],[3,11],[3,4,8,12],[3,13],[3,14]]) (resL:=[_,_,_,_,_,_,_,_,_,_,_,_,_,_,_,_]) (frF:=[(0,.val (.slice (some ⟨id,0,some ar⟩) d.size c)),(1,.val (i64 a)),(4,.val aO),(11,.val (i64 i2)),(12,.val (i64 k)),(65,.val (.bool true))])
    case hm=>exact mixed
    case hc=>kernel_rfl
    case hb=>rfl
    case hS=>
     refine zJ d4 hg ga gk ra rk Nat.mul_one ?_
     apply aV.cons
     ·exact bi (fn:=Tryz.f104) (args:=[dc[a]!.val,dc[k]!.val]) (cap:=[]) rfl (ir d4) rfl ak ak Tryz.func104 kr kr (bK ba bk)
     ·rfl
     exact rV d7 d4
    case ht=>rfl
    case hF=>exact zh
    show CW _ _ _ _
    refine aC ?_
    refine ae rfl ?_
    refine aG e4 ?_
    refine⟨q,by dsimp only;omega,aK,rfl,by omega,by omega,?_⟩
    rw[← k3,hq]
    refine (jG om ?_).symm
    rw[← hq]
    exact hl
  | false=>
    have d7:decide (fG dc[a]! dc[k]! < 0)=false:=hl
    have hst:j2=k:=by rw[← k3];exact fk (by unfold RZ;rw[hl];simp)
    subst hst
    refine aC ?_
    apply bx (L:=[[],[],[0,1],[2],[3],[3],[3],[3,5,6],[3,7],[3],[3],[3,9,10],[3,11],[3,4,8,12],[3,13],[3,14]]) (resL:=[_,_,_,_,_,_,_,_,_,_,_,_,_,_,_,_]) (frF:=[(0,.val (.slice (some ⟨id,0,some ar⟩) d.size c)),(1,.val (i64 a)),(4,.val aO),(11,.val (i64 i2)),(12,.val (i64 j2)),(65,.val (.bool false))])
    case hm=>exact mixed
    case hc=>kernel_rfl
    case hb=>rfl
    case hS=>
     refine zJ d4 hg ga gk ra rk Nat.mul_one ?_
     apply aV.cons
     ·exact bi (fn:=Tryz.f104) (args:=[dc[a]!.val,dc[j2]!.val]) (cap:=[]) rfl (ir d4) rfl ak ak Tryz.func104 kr kr (bK ba bk)
     ·rfl
     exact rV d7 d4
    case ht=>rfl
    case hF=>exact zh
    show CW _ _ _ _
    refine aC ?_
    refine af rfl ?_
    refine az ?_
    exact⟨rfl,rfl,k1,k2,aK⟩
 ·have d4:decide ((i2:Int)≤(k:Int))=false:=decide_eq_false om
  have hst:j2=k:=by rw[← k3];exact fk om
  subst hst
  refine aC ?_
  apply bx (L:=[[],[],[0,1],[2],[3],[3],[3],[3,5,6],[3,7],[3],[3],[3,9,10],[3,11],[3,4,8,12],[3,13],[3,14]]) (resL:=[_,_,_,_,_,_,_,_,_,_,_,_,_,_,_,_]) (frF:=[(0,.val (.slice (some ⟨id,0,some ar⟩) d.size c)),(1,.val (i64 a)),(4,.val aO),(11,.val (i64 i2)),(12,.val (i64 j2)),(65,.val (.bool false))])
  case hm=>exact mixed
  case hc=>kernel_rfl
  case hb=>rfl
  case hS=>exact CY d4
  case ht=>rfl
  case hF=>exact zh
  show CW _ _ _ _
  refine aC ?_
  refine af rfl ?_
  refine az ?_
  exact⟨rfl,rfl,k1,k2,aK⟩
rintro e s' ⟨rfl,hh,hjj,hij3,hf⟩
show CW _ _ _ _
refine aB _ hf ?_
rw[hh]
by_cases hgt:j2<i2
·have d5:decide ((j2:Int)<(i2:Int))=true:=decide_eq_true om
 rw[if_pos hgt,h5] at hstep
 refine aG d5 ?_
 refine ae rfl ?_
 refine az ?_
 show CW _ _ _ _
 refine aC ?_
 refine ai ?_
 refine⟨_,ak,by rw[hstep];rfl,?_⟩
 simp only[hstep]
 exact⟨h4,D1,h3⟩
·have d5:decide ((j2:Int)<(i2:Int))=false:=decide_eq_false om
 rw[if_neg hgt,h5] at hstep
 have hx1:i2<dc.size:=by omega
 have hy1:j2<dc.size:=by omega
 have gx:=bD hx1
 have gy:=bD hy1
 have rx:=cg (k:=i2) (n:=d.size) om
 have ry:=cg (k:=j2) (n:=d.size) om
 have e6:IntKind.i64.wrap ((i2:Int)+1)=(i2:Int)+1:=ax om om
 obtain⟨q,hq⟩:∃ q,q=j2-1:=⟨_,rfl⟩
 have e7:IntKind.i64.wrap ((j2:Int)-1)=(q:Int):=by rw[ax om om];omega
 rw[← hq] at hstep
 refine aG d5 ?_
 refine af rfl ?_
 refine aC ?_
 refine aB [(0,.val (.slice (some ⟨id,0,some ar⟩) d.size c)),(1,.val (i64 a)),(4,.val aO),(11,.val (i64 i2)),(12,.val (i64 j2))] aK ?_
 show CW _ _ ⟨_,[],hc⟩ _
 apply bm (L:=[[],[],[],[],[],[],[4,5],[4,5,6],[],[],[8,9],[8,9,10],[0,1],[0,1,4,5,6,7,8,9,10,11,12],[2,3],[0,1,2,3,4,5,6,7,8,9,10,11,12,13,14]]) (act:=[13,15]) (hs:=[hc.set id (.aA (IC (dc.setIfInBounds i2 dc[j2]!)) ar true 70),hc.set id (.aA (IC (Go.Sort.swp dc i2 j2)) ar true 70)]) (resL:=[_,_,_,_,_,_,_,_,_,_,_,_,_,_,_,_]) (frF:=[(0,.val (.slice (some ⟨id,0,some ar⟩) d.size c)),(1,.val (i64 a)),(4,.val aO),(11,.val (i64 i2)),(12,.val (i64 j2))])
 case hm=>exact mixed
 case hc=>kernel_rfl
 case ha=>rfl
 case hb=>rfl
 case hS=>
  refine zK hg gx gy rx ry Nat.mul_one ?_
  apply ay.cons
  ·rfl
  ·refine⟨?_,trivial⟩
   exact bo (r:=.sl .dH) rfl ak rfl ak ak hg ak rfl (cS (d:=dc) (i:=i2) (x:=dc[j2]!) hx1) rfl rfl
  ·rfl
  refine zK hg gx gy rx ry Nat.mul_one ?_
  apply ay.cons
  ·rfl
  ·refine⟨?_,trivial⟩
   exact bo (r:=.sl .dH) rfl ak rfl ak ak (aw hg) ak rfl (cS (d:=dc.setIfInBounds i2 dc[j2]!) (i:=j2) (x:=dc[i2]!) (by simpa using hy1)) rfl aM.symm
  ·rfl
  exact ay.nil _
 case ht=>rfl
 case hF=>exact zh
 show CW _ _ _ _
 refine fh e6 e7 ?_
 exact⟨(i2+1,q,Go.Sort.swp dc i2 j2,_),by simp only;omega,aK,rfl,by simp only;omega,by simp only;omega,by simp only;omega,by simp only;rw[swp_size];exact h3,by simp only;rw[h4,aM],D1.swp hx1 hy1,hstep.symm⟩}
def Hz (dc:Array aR) (a:Nat) (x:aR):Bool:=bu x dc[a]!
def Hv (dc:Array aR) (a:Nat) (x:aR):Bool:=!bu x dc[a]!
theorem uN {d:Array aR} {a i j i2 j2:Nat} (h1:Go.Sort.scanUp (Hz d a) d j i=i2) (h2:Go.Sort.scanDown (Hv d a) d i2 j=j2) (hij:i≤j+2):Go.Sort.partLoop bu a i j d=if i2 > j2 then (j2,d) else Go.Sort.partLoop bu a (i2+1) (j2-1) (Go.Sort.swp d i2 j2):=by{
have g1:=Go.Sort.scanUp_ge (Hz d a) d j i
have g2:=Go.Sort.scanDown_le (Hv d a) d i2 j
rw[h1] at g1
rw[h2] at g2
have h1':Go.Sort.scanUp (fun x=>bu x d[a]!) d j i=i2:=h1
have h2':Go.Sort.scanDown (fun x=>!bu x d[a]!) d i2 j=j2:=h2
rw[Go.Sort.partLoop]
simp only[h1',h2']
by_cases h:i2 > j2
·rw[if_pos h,if_pos h]
·rw[if_neg h,if_neg h,dif_pos om]}
theorem Jj {h:ah} {id ar c a b pv:Nat} {d:Array aR} (D:DA h id ar d) (ha:a≤pv) (hpb:pv<b) (hb:b≤d.size) : FW env 187 [.slice (some ⟨id,0,some ar⟩) d.size c,i64 a,i64 b,i64 pv,aO] h fun r h'=>∃ ap:Bool,r = .tuple #[i64 (Go.Sort.partition bu d a b pv).1,.bool ap]∧h'=h.set id (.aA (IC (Go.Sort.partition bu d a b pv).2.2) ar true 70)∧DA h' id ar (Go.Sort.partition bu d a b pv).2.2∧(Go.Sort.partition bu d a b pv).2.2.size=d.size:=by{
have hn:=D.n
rw[Go.Sort.partition_fst,Go.Sort.partition_arr]
refine fe Tryz.func187 ?_;simp only[push_cast]
refine aC ?_
have hi1:a<d.size:=by omega
have hj1:pv<d.size:=by omega
refine aB [(0,.val (.slice (some ⟨id,0,some ar⟩) d.size c)),(1,.val (i64 a)),(2,.val (i64 b)),(3,.val (i64 pv)),(4,.val aO)] aK ?_
show CW _ _ ⟨_,[],h⟩ _
have hg:=D.g
have g1:=bD hi1
have g0:=bD hj1
have r1:=cg (k:=a) (n:=d.size) om
have r0:=cg (k:=pv) (n:=d.size) om
apply bm (L:=[[],[],[],[],[],[],[4,5],[4,5,6],[],[],[8,9],[8,9,10],[0,1],[0,1,4,5,6,7,8,9,10,11,12],[2,3],[0,1,2,3,4,5,6,7,8,9,10,11,12,13,14]]) (act:=[13,15]) (hs:=[h.set id (.aA (IC (d.setIfInBounds a d[pv]!)) ar true 70),h.set id (.aA (IC (Go.Sort.swp d a pv)) ar true 70)]) (resL:=[_,_,_,_,_,_,_,_,_,_,_,_,_,_,_,_]) (frF:=[(0,.val (.slice (some ⟨id,0,some ar⟩) d.size c)),(1,.val (i64 a)),(2,.val (i64 b)),(4,.val aO)])
case hm=>exact mixed
case hc=>kernel_rfl
case ha=>rfl
case hb=>rfl
case hS=>
 refine zK hg g1 g0 r1 r0 Nat.mul_one ?_
 apply ay.cons
 ·rfl
 ·refine⟨?_,trivial⟩
  exact bo (r:=.sl .dH) rfl ak rfl ak ak hg ak rfl (cS (d:=d) (i:=a) (x:=d[pv]!) hi1) rfl rfl
 ·rfl
 refine zK hg g1 g0 r1 r0 Nat.mul_one ?_
 apply ay.cons
 ·rfl
 ·refine⟨?_,trivial⟩
  exact bo (r:=.sl .dH) rfl ak rfl ak ak (aw hg) ak rfl (cS (d:=d.setIfInBounds a d[pv]!) (i:=pv) (x:=d[a]!) (by simpa using hj1)) rfl aM.symm
 ·rfl
 exact ay.nil _
case ht=>rfl
case hF=>exact zh
show CW _ _ _ _
have e1:IntKind.i64.wrap ((a:Int)+1)=((a+1:Nat):Int):=by rw[ax om om];omega
have e2:IntKind.i64.wrap ((b:Int)-1)=((b-1:Nat):Int):=by rw[ax om om];omega
obtain⟨i0,hi0⟩:∃ i0,i0=a+1:=⟨_,rfl⟩
obtain⟨j0,hj0⟩:∃ j0,j0=b-1:=⟨_,rfl⟩
rw[← hi0] at e1
rw[← hj0] at e2
have D0:=D.swp hi1 hj1
clear hg g1 g0 r1 r0
refine fh e1 e2 ?_
refine aB [(0,.val (.slice (some ⟨id,0,some ar⟩) d.size c)),(1,.val (i64 a)),(4,.val aO),(12,.val (i64 i0)),(13,.val (i64 j0))] aK ?_
show CW _ _ ⟨_,[],h.set id (.aA (IC (Go.Sort.swp d a pv)) ar true 70)⟩ _
have hR:Go.Sort.partLoop bu a (a+1) (b-1) (Go.Sort.swp d a pv)=Go.Sort.partLoop bu a i0 j0 (Go.Sort.swp d a pv):=by rw[hi0,hj0]
rw[hR]
obtain⟨R,hR'⟩:∃ R,Go.Sort.partLoop bu a i0 j0 (Go.Sort.swp d a pv)=R:=⟨_,rfl⟩
rw[hR']
obtain⟨dc,hdc⟩:∃ dc,Go.Sort.swp d a pv=dc:=⟨_,rfl⟩
obtain⟨hc,hhc⟩:∃ hc,h.set id (.aA (IC dc) ar true 70)=hc:=⟨_,rfl⟩
rw[hdc] at D0 hR' ⊢
rw[hhc] at D0 ⊢
have h3:dc.size=d.size:=by rw[← hdc,swp_size]
obtain⟨i,hi⟩:∃ i,i0=i:=⟨_,rfl⟩
obtain⟨j,hj⟩:∃ j,j0=j:=⟨_,rfl⟩
rw[hi] at hR' ⊢ hi0
rw[hj] at hR' ⊢ hj0
have h1:a<i:=by omega
have h2:i≤j+2:=by omega
have h2':j<d.size:=by omega
have haj:a≤j:=by omega
have D1:=D0
have hg:=D1.g
have hac:a<dc.size:=by omega
have ga:=bD hac
have ba:=D1.b _ hac
have ra:=cg (k:=a) (n:=d.size) om
clear e1 e2 hi hj
obtain⟨i2,hi2⟩:∃ i2,Go.Sort.scanUp (Hz dc a) dc j i=i2:=⟨_,rfl⟩
refine aC ?_
refine CW.mono (Q:=fun e s'=>e = .exit 0∧s'.h=hc∧i≤i2∧i2≤j+2∧bA [(0,.val (.slice (some ⟨id,0,some ar⟩) d.size c)),(1,.val (i64 a)),(4,.val aO),(12,.val (i64 i2)),(13,.val (i64 j))] s'.fr) ?_ ?_
·refine fp (fun k:Nat=>j+1-k) (fun k=>[(0,.val (.slice (some ⟨id,0,some ar⟩) d.size c)),(1,.val (i64 a)),(4,.val aO),(12,.val (i64 k)),(13,.val (i64 j))]) (fun _=>hc)
  (fun k=>i≤k∧k≤j+2∧Go.Sort.scanUp (Hz dc a) dc j k=i2) i aK rfl ⟨Nat.le_refl _,h2,hi2⟩ ?_
 rintro k ⟨k1,k2,k3⟩
 by_cases hkj:k≤j
 ·have d4:decide ((k:Int)≤(j:Int))=true:=decide_eq_true om
  have hk1:k<dc.size:=by omega
  have gk:=bD hk1
  have bk:=D1.b _ hk1
  have rk:=cg (k:=k) (n:=d.size) om
  have e4:IntKind.i64.wrap ((k:Int)+1)=(k:Int)+1:=ax om om
  cases hl:bu dc[k]! dc[a]! with
  | true=>
    have d7:decide (fG dc[k]! dc[a]! < 0)=true:=hl
    refine aC ?_
    apply bx (L:=[[],[],[0,1],[2],[3],[3],[3],[3,5,6],[3,7],[3],[3],[3,9,10],[3,11],[3,4,8,12],[3,13],[3,14]]) (resL:=[_,_,_,_,_,_,_,_,_,_,_,_,_,_,_,_]) (frF:=[(0,.val (.slice (some ⟨id,0,some ar⟩) d.size c)),(1,.val (i64 a)),(4,.val aO),(12,.val (i64 k)),(13,.val (i64 j)),(47,.val (.bool true))])
    case hm=>exact mixed
    case hc=>kernel_rfl
    case hb=>rfl
    case hS=>
     refine zJ d4 hg ga gk ra rk Nat.mul_one ?_
     apply aV.cons
     ·exact bi (fn:=Tryz.f104) (args:=[dc[k]!.val,dc[a]!.val]) (cap:=[]) rfl (ir d4) rfl ak ak Tryz.func104 kr kr (bK bk ba)
     ·rfl
     exact rV d7 d4
    case ht=>rfl
    case hF=>exact zh
    show CW _ _ _ _
    refine aC ?_
    refine ae rfl ?_
    refine aG e4 ?_
    exact⟨k+1,by dsimp only;omega,aK,rfl,by omega,by omega,by rw[← k3];exact (lS hkj (by unfold Hz;exact hl)).symm⟩
  | false=>
    have d7:decide (fG dc[k]! dc[a]! < 0)=false:=hl
    have hst:i2=k:=by rw[← k3];exact gz (by unfold Hz;rw[hl];simp)
    subst hst
    refine aC ?_
    apply bx (L:=[[],[],[0,1],[2],[3],[3],[3],[3,5,6],[3,7],[3],[3],[3,9,10],[3,11],[3,4,8,12],[3,13],[3,14]]) (resL:=[_,_,_,_,_,_,_,_,_,_,_,_,_,_,_,_]) (frF:=[(0,.val (.slice (some ⟨id,0,some ar⟩) d.size c)),(1,.val (i64 a)),(4,.val aO),(12,.val (i64 i2)),(13,.val (i64 j)),(47,.val (.bool false))])
    case hm=>exact mixed
    case hc=>kernel_rfl
    case hb=>rfl
    case hS=>
     refine zJ d4 hg ga gk ra rk Nat.mul_one ?_
     apply aV.cons
     ·exact bi (fn:=Tryz.f104) (args:=[dc[i2]!.val,dc[a]!.val]) (cap:=[]) rfl (ir d4) rfl ak ak Tryz.func104 kr kr (bK bk ba)
     ·rfl
     exact rV d7 d4
    case ht=>rfl
    case hF=>exact zh
    show CW _ _ _ _
    refine aC ?_
    refine af rfl ?_
    refine az ?_
    exact⟨rfl,rfl,k1,k2,aK⟩
 ·have d4:decide ((k:Int)≤(j:Int))=false:=decide_eq_false om
  have hst:i2=k:=by rw[← k3];exact gz om
  subst hst
  refine aC ?_
  apply bx (L:=[[],[],[0,1],[2],[3],[3],[3],[3,5,6],[3,7],[3],[3],[3,9,10],[3,11],[3,4,8,12],[3,13],[3,14]]) (resL:=[_,_,_,_,_,_,_,_,_,_,_,_,_,_,_,_]) (frF:=[(0,.val (.slice (some ⟨id,0,some ar⟩) d.size c)),(1,.val (i64 a)),(4,.val aO),(12,.val (i64 i2)),(13,.val (i64 j)),(47,.val (.bool false))])
  case hm=>exact mixed
  case hc=>kernel_rfl
  case hb=>rfl
  case hS=>exact CY d4
  case ht=>rfl
  case hF=>exact zh
  show CW _ _ _ _
  refine aC ?_
  refine af rfl ?_
  refine az ?_
  exact⟨rfl,rfl,k1,k2,aK⟩
rintro e s' ⟨rfl,hh,hii,hij2,hf⟩
show CW _ _ _ _
refine aB _ hf ?_
rw[hh]
clear hf hh
obtain⟨j2,hj2⟩:∃ j2,Go.Sort.scanDown (Hv dc a) dc i2 j=j2:=⟨_,rfl⟩
have hstep:=uN hi2 hj2 h2
refine aC ?_
refine CW.mono (Q:=fun e s'=>e = .exit 2∧s'.h=hc∧j2≤j∧a≤j2∧bA [(0,.val (.slice (some ⟨id,0,some ar⟩) d.size c)),(1,.val (i64 a)),(4,.val aO),(12,.val (i64 i2)),(13,.val (i64 j2))] s'.fr) ?_ ?_
·refine fp (fun k:Nat=>k) (fun k=>[(0,.val (.slice (some ⟨id,0,some ar⟩) d.size c)),(1,.val (i64 a)),(4,.val aO),(12,.val (i64 i2)),(13,.val (i64 k))]) (fun _=>hc)
  (fun k=>k≤j∧a≤k∧Go.Sort.scanDown (Hv dc a) dc i2 k=j2) j aK rfl ⟨Nat.le_refl _,haj,hj2⟩ ?_
 rintro k ⟨k1,k2,k3⟩
 by_cases hkj:i2≤k
 ·have d4:decide ((i2:Int)≤(k:Int))=true:=decide_eq_true om
  have hk1:k<dc.size:=by omega
  have gk:=bD hk1
  have bk:=D1.b _ hk1
  have rk:=cg (k:=k) (n:=d.size) om
  obtain⟨q,hq⟩:∃ q,k=q+1:=⟨k-1,by omega⟩
  have e4:IntKind.i64.wrap ((k:Int)-1)=(q:Int):=by rw[ax om om];omega
  cases hl:bu dc[k]! dc[a]! with
  | false=>
    have d7:decide (fG dc[k]! dc[a]! < 0)=false:=hl
    refine aC ?_
    apply bx (L:=[[],[],[0,1],[2],[3],[3],[3],[3,5,6],[3,7],[3],[3],[3,9,10],[3,11],[3,4,8,12],[3,13],[3,14],[3,15]]) (resL:=[_,_,_,_,_,_,_,_,_,_,_,_,_,_,_,_,_]) (frF:=[(0,.val (.slice (some ⟨id,0,some ar⟩) d.size c)),(1,.val (i64 a)),(4,.val aO),(12,.val (i64 i2)),(13,.val (i64 k)),(66,.val (.bool true))])
    case hm=>exact mixed
    case hc=>kernel_rfl
    case hb=>rfl
    case hS=>
     refine zJ d4 hg ga gk ra rk Nat.mul_one ?_
     apply aV.cons
     ·exact bi (fn:=Tryz.f104) (args:=[dc[k]!.val,dc[a]!.val]) (cap:=[]) rfl (ir d4) rfl ak ak Tryz.func104 kr kr (bK bk ba)
     ·rfl
     exact rV d7 d4
    case ht=>rfl
    case hF=>exact zh
    show CW _ _ _ _
    refine aC ?_
    refine ae rfl ?_
    refine aG e4 ?_
    refine⟨q,by dsimp only;omega,aK,rfl,by omega,by omega,?_⟩
    rw[← k3,hq]
    refine (jG om ?_).symm
    rw[← hq]
    unfold Hv
    rw[hl]
    rfl
  | true=>
    have d7:decide (fG dc[k]! dc[a]! < 0)=true:=hl
    have hst:j2=k:=by rw[← k3];exact fk (by unfold Hv;rw[hl];simp)
    subst hst
    refine aC ?_
    apply bx (L:=[[],[],[0,1],[2],[3],[3],[3],[3,5,6],[3,7],[3],[3],[3,9,10],[3,11],[3,4,8,12],[3,13],[3,14],[3,15]]) (resL:=[_,_,_,_,_,_,_,_,_,_,_,_,_,_,_,_,_]) (frF:=[(0,.val (.slice (some ⟨id,0,some ar⟩) d.size c)),(1,.val (i64 a)),(4,.val aO),(12,.val (i64 i2)),(13,.val (i64 j2)),(66,.val (.bool false))])
    case hm=>exact mixed
    case hc=>kernel_rfl
    case hb=>rfl
    case hS=>
     refine zJ d4 hg ga gk ra rk Nat.mul_one ?_
     apply aV.cons
     ·exact bi (fn:=Tryz.f104) (args:=[dc[j2]!.val,dc[a]!.val]) (cap:=[]) rfl (ir d4) rfl ak ak Tryz.func104 kr kr (bK bk ba)
     ·rfl
     exact rV d7 d4
    case ht=>rfl
    case hF=>exact zh
    show CW _ _ _ _
    refine aC ?_
    refine af rfl ?_
    refine az ?_
    exact⟨rfl,rfl,k1,k2,aK⟩
 ·have d4:decide ((i2:Int)≤(k:Int))=false:=decide_eq_false om
  have hst:j2=k:=by rw[← k3];exact fk om
  subst hst
  refine aC ?_
  apply bx (L:=[[],[],[0,1],[2],[3],[3],[3],[3,5,6],[3,7],[3],[3],[3,9,10],[3,11],[3,4,8,12],[3,13],[3,14],[3,15]]) (resL:=[_,_,_,_,_,_,_,_,_,_,_,_,_,_,_,_,_]) (frF:=[(0,.val (.slice (some ⟨id,0,some ar⟩) d.size c)),(1,.val (i64 a)),(4,.val aO),(12,.val (i64 i2)),(13,.val (i64 j2)),(66,.val (.bool false))])
  case hm=>exact mixed
  case hc=>kernel_rfl
  case hb=>rfl
  case hS=>exact CY d4
  case ht=>rfl
  case hF=>exact zh
  show CW _ _ _ _
  refine aC ?_
  refine af rfl ?_
  refine az ?_
  exact⟨rfl,rfl,k1,k2,aK⟩
rintro e s' ⟨rfl,hh,hjj,haj2,hf⟩
show CW _ _ _ _
refine aB _ hf ?_
rw[hh]
clear hf hh
by_cases hgt:j2<i2
·have d5:decide ((j2:Int)<(i2:Int))=true:=decide_eq_true om
 rw[if_pos hgt,hR'] at hstep
 have hy1:j2<dc.size:=by omega
 have gy:=bD hy1
 have ry:=cg (k:=j2) (n:=d.size) om
 refine aG d5 ?_
 refine ae rfl ?_
 refine aC ?_
 refine aB [(0,.val (.slice (some ⟨id,0,some ar⟩) d.size c)),(1,.val (i64 a)),(4,.val aO),(12,.val (i64 i2)),(13,.val (i64 j2))] aK ?_
 show CW _ _ ⟨_,[],hc⟩ _
 apply bm (L:=[[],[],[],[],[],[],[4,5],[4,5,6],[],[],[8,9],[8,9,10],[0,1],[0,1,4,5,6,7,8,9,10,11,12],[2,3],[0,1,2,3,4,5,6,7,8,9,10,11,12,13,14]]) (act:=[13,15]) (hs:=[hc.set id (.aA (IC (dc.setIfInBounds j2 dc[a]!)) ar true 70),hc.set id (.aA (IC (Go.Sort.swp dc j2 a)) ar true 70)]) (resL:=[_,_,_,_,_,_,_,_,_,_,_,_,_,_,_,_]) (frF:=[(0,.val (.slice (some ⟨id,0,some ar⟩) d.size c)),(1,.val (i64 a)),(4,.val aO),(12,.val (i64 i2)),(13,.val (i64 j2))])
 case hm=>exact mixed
 case hc=>kernel_rfl
 case ha=>rfl
 case hb=>rfl
 case hS=>
  refine zK hg gy ga ry ra Nat.mul_one ?_
  apply ay.cons
  ·rfl
  ·refine⟨?_,trivial⟩
   exact bo (r:=.sl .dH) rfl ak rfl ak ak hg ak rfl (cS (d:=dc) (i:=j2) (x:=dc[a]!) hy1) rfl rfl
  ·rfl
  refine zK hg gy ga ry ra Nat.mul_one ?_
  apply ay.cons
  ·rfl
  ·refine⟨?_,trivial⟩
   exact bo (r:=.sl .dH) rfl ak rfl ak ak (aw hg) ak rfl (cS (d:=dc.setIfInBounds j2 dc[a]!) (i:=a) (x:=dc[j2]!) (by simpa using hac)) rfl aM.symm
  ·rfl
  exact ay.nil _
 case ht=>rfl
 case hF=>exact zh
 show CW _ _ _ _
 refine aC ?_
 refine ai ?_
 refine⟨_,ak,true,by rw[hstep];rfl,?_⟩
 simp only[hstep]
 exact⟨by rw[← hhc,aM],D1.swp hy1 hac,by rw[swp_size];exact h3⟩
have d5:decide ((j2:Int)<(i2:Int))=false:=decide_eq_false om
rw[if_neg hgt,hR'] at hstep
have hx1:i2<dc.size:=by omega
have hy1:j2<dc.size:=by omega
have gx:=bD hx1
have gy:=bD hy1
have rx:=cg (k:=i2) (n:=d.size) om
have ry:=cg (k:=j2) (n:=d.size) om
have e6:IntKind.i64.wrap ((i2:Int)+1)=(i2:Int)+1:=ax om om
obtain⟨q,hq⟩:∃ q,q=j2-1:=⟨_,rfl⟩
have e7:IntKind.i64.wrap ((j2:Int)-1)=(q:Int):=by rw[ax om om];omega
rw[← hq] at hstep
refine aG d5 ?_
refine af rfl ?_
refine aC ?_
refine aB [(0,.val (.slice (some ⟨id,0,some ar⟩) d.size c)),(1,.val (i64 a)),(4,.val aO),(12,.val (i64 i2)),(13,.val (i64 j2))] aK ?_
show CW _ _ ⟨_,[],hc⟩ _
apply bm (L:=[[],[],[],[],[],[],[4,5],[4,5,6],[],[],[8,9],[8,9,10],[0,1],[0,1,4,5,6,7,8,9,10,11,12],[2,3],[0,1,2,3,4,5,6,7,8,9,10,11,12,13,14]]) (act:=[13,15]) (hs:=[hc.set id (.aA (IC (dc.setIfInBounds i2 dc[j2]!)) ar true 70),hc.set id (.aA (IC (Go.Sort.swp dc i2 j2)) ar true 70)]) (resL:=[_,_,_,_,_,_,_,_,_,_,_,_,_,_,_,_]) (frF:=[(0,.val (.slice (some ⟨id,0,some ar⟩) d.size c)),(1,.val (i64 a)),(4,.val aO),(12,.val (i64 i2)),(13,.val (i64 j2))])
case hm=>exact mixed
case hc=>kernel_rfl
case ha=>rfl
case hb=>rfl
case hS=>
 refine zK hg gx gy rx ry Nat.mul_one ?_
 apply ay.cons
 ·rfl
 ·refine⟨?_,trivial⟩
  exact bo (r:=.sl .dH) rfl ak rfl ak ak hg ak rfl (cS (d:=dc) (i:=i2) (x:=dc[j2]!) hx1) rfl rfl
 ·rfl
 refine zK hg gx gy rx ry Nat.mul_one ?_
 apply ay.cons
 ·rfl
 ·refine⟨?_,trivial⟩
  exact bo (r:=.sl .dH) rfl ak rfl ak ak (aw hg) ak rfl (cS (d:=dc.setIfInBounds i2 dc[j2]!) (i:=j2) (x:=dc[i2]!) (by simpa using hy1)) rfl aM.symm
 ·rfl
 exact ay.nil _
case ht=>rfl
case hF=>exact zh
show CW _ _ _ _
refine fh e6 e7 ?_
refine fp (fun x:Nat×Nat×Array aR×ah=>x.2.1+3-x.1) (fun x=>[(0,.val (.slice (some ⟨id,0,some ar⟩) d.size c)),(1,.val (i64 a)),(4,.val aO),(12,.val (i64 x.1)),(13,.val (i64 x.2.1))]) (fun x=>x.2.2.2)
 (fun x=>a<x.1∧x.1≤x.2.1+2∧x.2.1<d.size∧a≤x.2.1∧x.2.2.1.size=d.size∧x.2.2.2=h.set id (.aA (IC x.2.2.1) ar true 70)∧DA x.2.2.2 id ar x.2.2.1∧Go.Sort.partLoop bu a x.1 x.2.1 x.2.2.1=R) (i2+1,q,Go.Sort.swp dc i2 j2,_) aK rfl ⟨by simp only;omega,by simp only;omega,by simp only;omega,by simp only;omega,by simp only;rw[swp_size];exact h3,by simp only;rw[← hhc,aM],D1.swp hx1 hy1,hstep.symm⟩ ?_
clear hg ga gx gy D1 D0 ba h1 h2 h2' haj h3 ra hac hstep hi2 hj2 hR' hhc hdc hi0 hj0 hR hi1 hj1 e6 e7 d5 rx ry hx1 hy1 hgt hii hij2 hjj haj2 hq
clear i2 j2 i j dc hc i0 j0 q
rintro⟨i,j,dc,hc⟩ ⟨h1,h2,h2',haj,h3,h4,D1,h5⟩
simp only at h1 h2 h2' haj h3 h4 D1 h5 ⊢
have hg:=D1.g
have hac:a<dc.size:=by omega
have ga:=bD hac
have ba:=D1.b _ hac
have ra:=cg (k:=a) (n:=d.size) om
obtain⟨i2,hi2⟩:∃ i2,Go.Sort.scanUp (Hz dc a) dc j i=i2:=⟨_,rfl⟩
refine aC ?_
refine CW.mono (Q:=fun e s'=>e = .exit 6∧s'.h=hc∧i≤i2∧i2≤j+2∧bA [(0,.val (.slice (some ⟨id,0,some ar⟩) d.size c)),(1,.val (i64 a)),(4,.val aO),(12,.val (i64 i2)),(13,.val (i64 j))] s'.fr) ?_ ?_
·refine fp (fun k:Nat=>j+1-k) (fun k=>[(0,.val (.slice (some ⟨id,0,some ar⟩) d.size c)),(1,.val (i64 a)),(4,.val aO),(12,.val (i64 k)),(13,.val (i64 j))]) (fun _=>hc)
  (fun k=>i≤k∧k≤j+2∧Go.Sort.scanUp (Hz dc a) dc j k=i2) i aK rfl ⟨Nat.le_refl _,h2,hi2⟩ ?_
 rintro k ⟨k1,k2,k3⟩
 by_cases hkj:k≤j
 ·have d4:decide ((k:Int)≤(j:Int))=true:=decide_eq_true om
  have hk1:k<dc.size:=by omega
  have gk:=bD hk1
  have bk:=D1.b _ hk1
  have rk:=cg (k:=k) (n:=d.size) om
  have e4:IntKind.i64.wrap ((k:Int)+1)=(k:Int)+1:=ax om om
  cases hl:bu dc[k]! dc[a]! with
  | true=>
    have d7:decide (fG dc[k]! dc[a]! < 0)=true:=hl
    refine aC ?_
    apply bx (L:=[[],[],[0,1],[2],[3],[3],[3],[3,5,6],[3,7],[3],[3],[3,9,10],[3,11],[3,4,8,12],[3,13],[3,14]]) (resL:=[_,_,_,_,_,_,_,_,_,_,_,_,_,_,_,_]) (frF:=[(0,.val (.slice (some ⟨id,0,some ar⟩) d.size c)),(1,.val (i64 a)),(4,.val aO),(12,.val (i64 k)),(13,.val (i64 j)),(120,.val (.bool true))])
    case hm=>exact mixed
    case hc=>kernel_rfl
    case hb=>rfl
    case hS=>
     refine zJ d4 hg ga gk ra rk Nat.mul_one ?_
     apply aV.cons
     ·exact bi (fn:=Tryz.f104) (args:=[dc[k]!.val,dc[a]!.val]) (cap:=[]) rfl (ir d4) rfl ak ak Tryz.func104 kr kr (bK bk ba)
     ·rfl
     exact rV d7 d4
    case ht=>rfl
    case hF=>exact zh
    show CW _ _ _ _
    refine aC ?_
    refine ae rfl ?_
    refine aG e4 ?_
    exact⟨k+1,by dsimp only;omega,aK,rfl,by omega,by omega,by rw[← k3];exact (lS hkj (by unfold Hz;exact hl)).symm⟩
  | false=>
    have d7:decide (fG dc[k]! dc[a]! < 0)=false:=hl
    have hst:i2=k:=by rw[← k3];exact gz (by unfold Hz;rw[hl];simp)
    subst hst
    refine aC ?_
    apply bx (L:=[[],[],[0,1],[2],[3],[3],[3],[3,5,6],[3,7],[3],[3],[3,9,10],[3,11],[3,4,8,12],[3,13],[3,14]]) (resL:=[_,_,_,_,_,_,_,_,_,_,_,_,_,_,_,_]) (frF:=[(0,.val (.slice (some ⟨id,0,some ar⟩) d.size c)),(1,.val (i64 a)),(4,.val aO),(12,.val (i64 i2)),(13,.val (i64 j)),(120,.val (.bool false))])
    case hm=>exact mixed
    case hc=>kernel_rfl
    case hb=>rfl
    case hS=>
     refine zJ d4 hg ga gk ra rk Nat.mul_one ?_
     apply aV.cons
     ·exact bi (fn:=Tryz.f104) (args:=[dc[i2]!.val,dc[a]!.val]) (cap:=[]) rfl (ir d4) rfl ak ak Tryz.func104 kr kr (bK bk ba)
     ·rfl
     exact rV d7 d4
    case ht=>rfl
    case hF=>exact zh
    show CW _ _ _ _
    refine aC ?_
    refine af rfl ?_
    refine az ?_
    exact⟨rfl,rfl,k1,k2,aK⟩
 ·have d4:decide ((k:Int)≤(j:Int))=false:=decide_eq_false om
  have hst:i2=k:=by rw[← k3];exact gz om
  subst hst
  refine aC ?_
  apply bx (L:=[[],[],[0,1],[2],[3],[3],[3],[3,5,6],[3,7],[3],[3],[3,9,10],[3,11],[3,4,8,12],[3,13],[3,14]]) (resL:=[_,_,_,_,_,_,_,_,_,_,_,_,_,_,_,_]) (frF:=[(0,.val (.slice (some ⟨id,0,some ar⟩) d.size c)),(1,.val (i64 a)),(4,.val aO),(12,.val (i64 i2)),(13,.val (i64 j)),(120,.val (.bool false))])
  case hm=>exact mixed
  case hc=>kernel_rfl
  case hb=>rfl
  case hS=>exact CY d4
  case ht=>rfl
  case hF=>exact zh
  show CW _ _ _ _
  refine aC ?_
  refine af rfl ?_
  refine az ?_
  exact⟨rfl,rfl,k1,k2,aK⟩
rintro e s' ⟨rfl,hh,hii,hij2,hf⟩
show CW _ _ _ _
refine aB _ hf ?_
rw[hh]
clear hf hh
obtain⟨j2,hj2⟩:∃ j2,Go.Sort.scanDown (Hv dc a) dc i2 j=j2:=⟨_,rfl⟩
have hstep:=uN hi2 hj2 h2
refine aC ?_
refine CW.mono (Q:=fun e s'=>e = .exit 8∧s'.h=hc∧j2≤j∧a≤j2∧bA [(0,.val (.slice (some ⟨id,0,some ar⟩) d.size c)),(1,.val (i64 a)),(4,.val aO),(12,.val (i64 i2)),(13,.val (i64 j2))] s'.fr) ?_ ?_
·refine fp (fun k:Nat=>k) (fun k=>[(0,.val (.slice (some ⟨id,0,some ar⟩) d.size c)),(1,.val (i64 a)),(4,.val aO),(12,.val (i64 i2)),(13,.val (i64 k))]) (fun _=>hc)
  (fun k=>k≤j∧a≤k∧Go.Sort.scanDown (Hv dc a) dc i2 k=j2) j aK rfl ⟨Nat.le_refl _,haj,hj2⟩ ?_
 rintro k ⟨k1,k2,k3⟩
 by_cases hkj:i2≤k
 ·have d4:decide ((i2:Int)≤(k:Int))=true:=decide_eq_true om
  have hk1:k<dc.size:=by omega
  have gk:=bD hk1
  have bk:=D1.b _ hk1
  have rk:=cg (k:=k) (n:=d.size) om
  obtain⟨q,hq⟩:∃ q,k=q+1:=⟨k-1,by omega⟩
  have e4:IntKind.i64.wrap ((k:Int)-1)=(q:Int):=by rw[ax om om];omega
  cases hl:bu dc[k]! dc[a]! with
  | false=>
    have d7:decide (fG dc[k]! dc[a]! < 0)=false:=hl
    refine aC ?_
    apply bx (L:=[[],[],[0,1],[2],[3],[3],[3],[3,5,6],[3,7],[3],[3],[3,9,10],[3,11],[3,4,8,12],[3,13],[3,14],[3,15]]) (resL:=[_,_,_,_,_,_,_,_,_,_,_,_,_,_,_,_,_]) (frF:=[(0,.val (.slice (some ⟨id,0,some ar⟩) d.size c)),(1,.val (i64 a)),(4,.val aO),(12,.val (i64 i2)),(13,.val (i64 k)),(139,.val (.bool true))])
    case hm=>exact mixed
    case hc=>kernel_rfl
    case hb=>rfl
    case hS=>
     refine zJ d4 hg ga gk ra rk Nat.mul_one ?_
     apply aV.cons
     ·exact bi (fn:=Tryz.f104) (args:=[dc[k]!.val,dc[a]!.val]) (cap:=[]) rfl (ir d4) rfl ak ak Tryz.func104 kr kr (bK bk ba)
     ·rfl
     exact rV d7 d4
    case ht=>rfl
    case hF=>exact zh
    show CW _ _ _ _
    refine aC ?_
    refine ae rfl ?_
    refine aG e4 ?_
    refine⟨q,by dsimp only;omega,aK,rfl,by omega,by omega,?_⟩
    rw[← k3,hq]
    refine (jG om ?_).symm
    rw[← hq]
    unfold Hv
    rw[hl]
    rfl
  | true=>
    have d7:decide (fG dc[k]! dc[a]! < 0)=true:=hl
    have hst:j2=k:=by rw[← k3];exact fk (by unfold Hv;rw[hl];simp)
    subst hst
    refine aC ?_
    apply bx (L:=[[],[],[0,1],[2],[3],[3],[3],[3,5,6],[3,7],[3],[3],[3,9,10],[3,11],[3,4,8,12],[3,13],[3,14],[3,15]]) (resL:=[_,_,_,_,_,_,_,_,_,_,_,_,_,_,_,_,_]) (frF:=[(0,.val (.slice (some ⟨id,0,some ar⟩) d.size c)),(1,.val (i64 a)),(4,.val aO),(12,.val (i64 i2)),(13,.val (i64 j2)),(139,.val (.bool false))])
    case hm=>exact mixed
    case hc=>kernel_rfl
    case hb=>rfl
    case hS=>
     refine zJ d4 hg ga gk ra rk Nat.mul_one ?_
     apply aV.cons
     ·exact bi (fn:=Tryz.f104) (args:=[dc[j2]!.val,dc[a]!.val]) (cap:=[]) rfl (ir d4) rfl ak ak Tryz.func104 kr kr (bK bk ba)
     ·rfl
     exact rV d7 d4
    case ht=>rfl
    case hF=>exact zh
    show CW _ _ _ _
    refine aC ?_
    refine af rfl ?_
    refine az ?_
    exact⟨rfl,rfl,k1,k2,aK⟩
 ·have d4:decide ((i2:Int)≤(k:Int))=false:=decide_eq_false om
  have hst:j2=k:=by rw[← k3];exact fk om
  subst hst
  refine aC ?_
  apply bx (L:=[[],[],[0,1],[2],[3],[3],[3],[3,5,6],[3,7],[3],[3],[3,9,10],[3,11],[3,4,8,12],[3,13],[3,14],[3,15]]) (resL:=[_,_,_,_,_,_,_,_,_,_,_,_,_,_,_,_,_]) (frF:=[(0,.val (.slice (some ⟨id,0,some ar⟩) d.size c)),(1,.val (i64 a)),(4,.val aO),(12,.val (i64 i2)),(13,.val (i64 j2)),(139,.val (.bool false))])
  case hm=>exact mixed
  case hc=>kernel_rfl
  case hb=>rfl
  case hS=>exact CY d4
  case ht=>rfl
  case hF=>exact zh
  show CW _ _ _ _
  refine aC ?_
  refine af rfl ?_
  refine az ?_
  exact⟨rfl,rfl,k1,k2,aK⟩
rintro e s' ⟨rfl,hh,hjj,haj2,hf⟩
show CW _ _ _ _
refine aB _ hf ?_
rw[hh]
clear hf hh
by_cases hgt:j2<i2
·have d5:decide ((j2:Int)<(i2:Int))=true:=decide_eq_true om
 rw[if_pos hgt,h5] at hstep
 have hy1:j2<dc.size:=by omega
 have gy:=bD hy1
 have ry:=cg (k:=j2) (n:=d.size) om
 refine aG d5 ?_
 refine ae rfl ?_
 refine az ?_
 show CW _ _ _ _
 refine aC ?_
 refine aB [(0,.val (.slice (some ⟨id,0,some ar⟩) d.size c)),(1,.val (i64 a)),(4,.val aO),(12,.val (i64 i2)),(13,.val (i64 j2))] aK ?_
 show CW _ _ ⟨_,[],hc⟩ _
 apply bm (L:=[[],[],[],[],[],[],[4,5],[4,5,6],[],[],[8,9],[8,9,10],[0,1],[0,1,4,5,6,7,8,9,10,11,12],[2,3],[0,1,2,3,4,5,6,7,8,9,10,11,12,13,14]]) (act:=[13,15]) (hs:=[hc.set id (.aA (IC (dc.setIfInBounds j2 dc[a]!)) ar true 70),hc.set id (.aA (IC (Go.Sort.swp dc j2 a)) ar true 70)]) (resL:=[_,_,_,_,_,_,_,_,_,_,_,_,_,_,_,_]) (frF:=[(0,.val (.slice (some ⟨id,0,some ar⟩) d.size c)),(1,.val (i64 a)),(4,.val aO),(12,.val (i64 i2)),(13,.val (i64 j2))])
 case hm=>exact mixed
 case hc=>kernel_rfl
 case ha=>rfl
 case hb=>rfl
 case hS=>
  refine zK hg gy ga ry ra Nat.mul_one ?_
  apply ay.cons
  ·rfl
  ·refine⟨?_,trivial⟩
   exact bo (r:=.sl .dH) rfl ak rfl ak ak hg ak rfl (cS (d:=dc) (i:=j2) (x:=dc[a]!) hy1) rfl rfl
  ·rfl
  refine zK hg gy ga ry ra Nat.mul_one ?_
  apply ay.cons
  ·rfl
  ·refine⟨?_,trivial⟩
   exact bo (r:=.sl .dH) rfl ak rfl ak ak (aw hg) ak rfl (cS (d:=dc.setIfInBounds j2 dc[a]!) (i:=a) (x:=dc[j2]!) (by simpa using hac)) rfl aM.symm
  ·rfl
  exact ay.nil _
 case ht=>rfl
 case hF=>exact zh
 show CW _ _ _ _
 refine aC ?_
 refine ai ?_
 refine⟨_,ak,false,by rw[hstep];rfl,?_⟩
 simp only[hstep]
 exact⟨by rw[h4,aM],D1.swp hy1 hac,by rw[swp_size];exact h3⟩
have d5:decide ((j2:Int)<(i2:Int))=false:=decide_eq_false om
rw[if_neg hgt,h5] at hstep
have hx1:i2<dc.size:=by omega
have hy1:j2<dc.size:=by omega
have gx:=bD hx1
have gy:=bD hy1
have rx:=cg (k:=i2) (n:=d.size) om
have ry:=cg (k:=j2) (n:=d.size) om
have e6:IntKind.i64.wrap ((i2:Int)+1)=(i2:Int)+1:=ax om om
obtain⟨q,hq⟩:∃ q,q=j2-1:=⟨_,rfl⟩
have e7:IntKind.i64.wrap ((j2:Int)-1)=(q:Int):=by rw[ax om om];omega
rw[← hq] at hstep
refine aG d5 ?_
refine af rfl ?_
refine aC ?_
refine aB [(0,.val (.slice (some ⟨id,0,some ar⟩) d.size c)),(1,.val (i64 a)),(4,.val aO),(12,.val (i64 i2)),(13,.val (i64 j2))] aK ?_
show CW _ _ ⟨_,[],hc⟩ _
apply bm (L:=[[],[],[],[],[],[],[4,5],[4,5,6],[],[],[8,9],[8,9,10],[0,1],[0,1,4,5,6,7,8,9,10,11,12],[2,3],[0,1,2,3,4,5,6,7,8,9,10,11,12,13,14]]) (act:=[13,15]) (hs:=[hc.set id (.aA (IC (dc.setIfInBounds i2 dc[j2]!)) ar true 70),hc.set id (.aA (IC (Go.Sort.swp dc i2 j2)) ar true 70)]) (resL:=[_,_,_,_,_,_,_,_,_,_,_,_,_,_,_,_]) (frF:=[(0,.val (.slice (some ⟨id,0,some ar⟩) d.size c)),(1,.val (i64 a)),(4,.val aO),(12,.val (i64 i2)),(13,.val (i64 j2))])
case hm=>exact mixed
case hc=>kernel_rfl
case ha=>rfl
case hb=>rfl
case hS=>
 refine zK hg gx gy rx ry Nat.mul_one ?_
 apply ay.cons
 ·rfl
 ·refine⟨?_,trivial⟩
  exact bo (r:=.sl .dH) rfl ak rfl ak ak hg ak rfl (cS (d:=dc) (i:=i2) (x:=dc[j2]!) hx1) rfl rfl
 ·rfl
 refine zK hg gx gy rx ry Nat.mul_one ?_
 apply ay.cons
 ·rfl
 ·refine⟨?_,trivial⟩
  exact bo (r:=.sl .dH) rfl ak rfl ak ak (aw hg) ak rfl (cS (d:=dc.setIfInBounds i2 dc[j2]!) (i:=j2) (x:=dc[i2]!) (by simpa using hy1)) rfl aM.symm
 ·rfl
 exact ay.nil _
case ht=>rfl
case hF=>exact zh
show CW _ _ _ _
refine fh e6 e7 ?_
exact⟨(i2+1,q,Go.Sort.swp dc i2 j2,_),by simp only;omega,aK,rfl,by simp only;omega,by simp only;omega,by simp only;omega,by simp only;omega,by simp only;rw[swp_size];exact h3,by simp only;rw[h4,aM],D1.swp hx1 hy1,hstep.symm⟩}
theorem qO {d:Array aR} {b i:Nat} (h:i<b) (hp:bu d[i]! d[i-1]! = false):Go.Sort.scanSorted bu d b i=Go.Sort.scanSorted bu d b (i+1):=by
 rw[Go.Sort.scanSorted,if_pos (by simp [h,hp])]
theorem kW {d:Array aR} {b i:Nat} (h:¬ (i<b∧bu d[i]! d[i-1]! = false)):Go.Sort.scanSorted bu d b i=i:=by
 rw[Go.Sort.scanSorted,if_neg (by simpa using h)]
theorem xo {d:Array aR} {b j:Nat} (h:j<b) (hp:bu d[j]! d[j-1]! = true):Go.Sort.shiftUp bu b j d=Go.Sort.shiftUp bu b (j+1) (Go.Sort.swp d j (j-1)):=by
 rw[Go.Sort.shiftUp,if_pos h,hp];rfl
theorem nu {d:Array aR} {b j:Nat} (h:¬ (j<b∧bu d[j]! d[j-1]! = true)):Go.Sort.shiftUp bu b j d=d:=by{
rw[Go.Sort.shiftUp]
by_cases hj:j<b
·rw[if_pos hj,if_pos (by simpa [hj] using h)]
·rw[if_neg hj]}
theorem IQ {h:ah} {id ar c a b:Nat} {d:Array aR} (D:DA h id ar d) (hab:a<b) (hb:b≤d.size) : FW env 185 [.slice (some ⟨id,0,some ar⟩) d.size c,i64 a,i64 b,aO] h fun r h'=>r = .bool (Go.Sort.partialInsertionSort bu d a b).2∧h'=h.set id (.aA (IC (Go.Sort.partialInsertionSort bu d a b).1) ar true 70)∧DA h' id ar (Go.Sort.partialInsertionSort bu d a b).1∧(Go.Sort.partialInsertionSort bu d a b).1.size=d.size:=by{
have hn:=D.n
have e1:IntKind.i64.wrap ((a:Int)+1)=((a+1:Nat):Int):=by rw[ax om om];omega
obtain⟨i0,hi0⟩:∃ i0,i0=a+1:=⟨_,rfl⟩
rw[← hi0] at e1
obtain⟨P,hP⟩:∃ P,Go.Sort.partialInsertionSort bu d a b=P:=⟨_,rfl⟩
have hP0:Go.Sort.partialIns bu a b 5 i0 d=P:=by rw[← hP,hi0];rfl
rw[hP]
clear hP
refine fe Tryz.func185 ?_;simp only[push_cast]
refine aG e1 ?_
refine fp (fun x:Nat×Nat×Array aR×ah=>5-x.1) (fun x=>[(0,.val (.slice (some ⟨id,0,some ar⟩) d.size c)),(1,.val (i64 a)),(2,.val (i64 b)),(3,.val aO),(9,.val (i64 x.2.1)),(10,.val (i64 x.1))]) (fun x=>x.2.2.2)
 (fun x=>x.1≤5∧a<x.2.1∧x.2.1≤b∧x.2.2.1.size=d.size∧x.2.2.2=h.set id (.aA (IC x.2.2.1) ar true 70)∧DA x.2.2.2 id ar x.2.2.1∧Go.Sort.partialIns bu a b (5-x.1) x.2.1 x.2.2.1=P) (0,i0,d,h) aK rfl ⟨by simp only;omega,by simp only;omega,by simp only;omega,rfl,(fS D.g).symm,D,hP0⟩ ?_
clear e1 hi0 hP0 i0
rintro⟨J,i,dc,hc⟩ ⟨h1,h2,h2',h3,h4,D1,h5⟩
simp only at h1 h2 h2' h3 h4 D1 h5 ⊢
by_cases hJ:J<5
·have d1:decide ((J:Int)<5)=true:=decide_eq_true om
 obtain⟨s,hs⟩:∃ s,5-J=s+1:=⟨4-J,by omega⟩
 rw[hs] at h5
 have eJ:IntKind.i64.wrap ((J:Int)+1)=(J:Int)+1:=ax om om
 refine aG d1 ?_
 refine ae rfl ?_
 obtain⟨i2,hi2⟩:∃ i2,Go.Sort.scanSorted bu dc b i=i2:=⟨_,rfl⟩
 refine aC ?_
 refine CW.mono (Q:=fun e s'=>e = .exit 2∧s'.h=hc∧i≤i2∧i2≤b∧bA [(0,.val (.slice (some ⟨id,0,some ar⟩) d.size c)),(1,.val (i64 a)),(2,.val (i64 b)),(3,.val aO),(9,.val (i64 i2)),(10,.val (i64 J))] s'.fr) ?_ ?_
 ·refine fp (fun k:Nat=>b-k) (fun k=>[(0,.val (.slice (some ⟨id,0,some ar⟩) d.size c)),(1,.val (i64 a)),(2,.val (i64 b)),(3,.val aO),(9,.val (i64 k)),(10,.val (i64 J))]) (fun _=>hc)
   (fun k=>i≤k∧k≤b∧Go.Sort.scanSorted bu dc b k=i2) i aK rfl ⟨Nat.le_refl _,h2',hi2⟩ ?_
  rintro k ⟨k1,k2,k3⟩
  by_cases hkj:k<b
  ·have d4:decide ((k:Int)<(b:Int))=true:=decide_eq_true om
   obtain⟨q,hq⟩:∃ q,k=q+1:=⟨k-1,by omega⟩
   have hqk:k-1=q:=by omega
   have e5:IntKind.i64.wrap ((k:Int)-1)=(q:Int):=by rw[ax om om];omega
   have e4:IntKind.i64.wrap ((k:Int)+1)=(k:Int)+1:=ax om om
   have hp1:k<dc.size:=by omega
   have hq1:q<dc.size:=by omega
   have gp:=bD hp1
   have gq:=bD hq1
   have bp:=D1.b _ hp1
   have bq:=D1.b _ hq1
   have rp:=cg (k:=k) (n:=d.size) om
   have rq:=cg (k:=q) (n:=d.size) om
   have hg:=D1.g
   cases hl:bu dc[k]! dc[q]! with
   | false=>
     have d7:decide (fG dc[k]! dc[q]! < 0)=false:=hl
     refine aC ?_
     apply bx (L:=[[],[],[0,1],[2],[3],[3],[3],[3,5,6],[3,7],[3],[3],[3,10],[3,9,11],[3,12],[3,4,8,13],[3,14],[3,15],[3,16]]) (resL:=[_,_,_,_,_,_,_,_,_,_,_,_,_,_,_,_,_,_]) (frF:=[(0,.val (.slice (some ⟨id,0,some ar⟩) d.size c)),(1,.val (i64 a)),(2,.val (i64 b)),(3,.val aO),(9,.val (i64 k)),(10,.val (i64 J)),(36,.val (.bool true))])
     case hm=>exact mixed
     case hc=>kernel_rfl
     case hb=>rfl
     case hS=>
      refine KN d4 e5 hg gp gq rp rq Nat.mul_one ?_
      apply aV.cons
      ·exact bi (fn:=Tryz.f104) (args:=[dc[k]!.val,dc[q]!.val]) (cap:=[]) rfl (OD d4 e5) rfl ak ak Tryz.func104 kr kr (bK bp bq)
      ·rfl
      exact VL d7 d4 e5
     case ht=>rfl
     case hF=>exact zh
     show CW _ _ _ _
     refine aC ?_
     refine ae rfl ?_
     refine aG e4 ?_
     exact⟨k+1,by dsimp only;omega,aK,rfl,by omega,by omega,by rw[← k3];exact (qO hkj (by rw[hqk];exact hl)).symm⟩
   | true=>
     have d7:decide (fG dc[k]! dc[q]! < 0)=true:=hl
     have hst:i2=k:=by rw[← k3];exact kW (by rw[hqk,hl];simp)
     subst hst
     refine aC ?_
     apply bx (L:=[[],[],[0,1],[2],[3],[3],[3],[3,5,6],[3,7],[3],[3],[3,10],[3,9,11],[3,12],[3,4,8,13],[3,14],[3,15],[3,16]]) (resL:=[_,_,_,_,_,_,_,_,_,_,_,_,_,_,_,_,_,_]) (frF:=[(0,.val (.slice (some ⟨id,0,some ar⟩) d.size c)),(1,.val (i64 a)),(2,.val (i64 b)),(3,.val aO),(9,.val (i64 i2)),(10,.val (i64 J)),(36,.val (.bool false))])
     case hm=>exact mixed
     case hc=>kernel_rfl
     case hb=>rfl
     case hS=>
      refine KN d4 e5 hg gp gq rp rq Nat.mul_one ?_
      apply aV.cons
      ·exact bi (fn:=Tryz.f104) (args:=[dc[i2]!.val,dc[q]!.val]) (cap:=[]) rfl (OD d4 e5) rfl ak ak Tryz.func104 kr kr (bK bp bq)
      ·rfl
      exact VL d7 d4 e5
     case ht=>rfl
     case hF=>exact zh
     show CW _ _ _ _
     refine aC ?_
     refine af rfl ?_
     refine az ?_
     exact⟨rfl,rfl,k1,k2,aK⟩
  ·have d4:decide ((k:Int)<(b:Int))=false:=decide_eq_false om
   have hst:i2=k:=by rw[← k3];exact kW om
   subst hst
   refine aC ?_
   apply bx (L:=[[],[],[0,1],[2],[3],[3],[3],[3,5,6],[3,7],[3],[3],[3,10],[3,9,11],[3,12],[3,4,8,13],[3,14],[3,15],[3,16]]) (resL:=[_,_,_,_,_,_,_,_,_,_,_,_,_,_,_,_,_,_]) (frF:=[(0,.val (.slice (some ⟨id,0,some ar⟩) d.size c)),(1,.val (i64 a)),(2,.val (i64 b)),(3,.val aO),(9,.val (i64 i2)),(10,.val (i64 J)),(36,.val (.bool false))])
   case hm=>exact mixed
   case hc=>kernel_rfl
   case hb=>rfl
   case hS=>exact CY d4
   case ht=>rfl
   case hF=>exact zh
   show CW _ _ _ _
   refine aC ?_
   refine af rfl ?_
   refine az ?_
   exact⟨rfl,rfl,k1,k2,aK⟩
 rintro e s' ⟨rfl,hh,hii,hib,hf⟩
 show CW _ _ _ _
 refine aB _ hf ?_
 rw[hh]
 clear hf hh
 have hstep:Go.Sort.partialIns bu a b (s+1) i dc=if i2=b then (dc,true) else if b-a<50 then (dc,false) else
  Go.Sort.partialIns bu a b s i2 (if b-i2≥2 then Go.Sort.shiftUp bu b (i2+1) (if i2-a≥2 then Go.Sort.shiftDown bu (i2-1) (Go.Sort.swp dc i2 (i2-1)) else Go.Sort.swp dc i2 (i2-1)) else (if i2-a≥2 then Go.Sort.shiftDown bu (i2-1) (Go.Sort.swp dc i2 (i2-1)) else Go.Sort.swp dc i2 (i2-1))):=by
  rw[← hi2];rfl
 rw[h5] at hstep
 clear h5 hi2
 by_cases hib2:i2=b
 ·have d2:decide ((i2:Int)=(b:Int))=true:=decide_eq_true om
  rw[if_pos hib2] at hstep
  refine aG d2 ?_
  refine ae rfl ?_
  refine aC ?_
  refine ai ?_
  rw[hstep]
  exact⟨_,ak,rfl,h4,D1,h3⟩
 have d2:decide ((i2:Int)=(b:Int))=false:=decide_eq_false om
 rw[if_neg hib2] at hstep
 have e6:IntKind.i64.wrap ((b:Int)-(a:Int))=((b-a:Nat):Int):=by rw[ax om om];omega
 obtain⟨m,hm⟩:∃ m,m=b-a:=⟨_,rfl⟩
 rw[← hm] at e6
 refine aG d2 ?_
 refine af rfl ?_
 by_cases h50:m<50
 ·have d3:decide ((m:Int)<50)=true:=decide_eq_true om
  rw[if_pos om] at hstep
  refine fh e6 d3 ?_
  refine ae rfl ?_
  refine aC ?_
  refine ai ?_
  rw[hstep]
  exact⟨_,ak,rfl,h4,D1,h3⟩
 have d3:decide ((m:Int)<50)=false:=decide_eq_false om
 rw[if_neg om] at hstep
 refine fh e6 d3 ?_
 refine af rfl ?_
 clear e6 h50 d3 hm
 obtain⟨q,hq⟩:∃ q,i2=q+1:=⟨i2-1,by omega⟩
 have hqk:i2-1=q:=by omega
 rw[hqk] at hstep
 have e5:IntKind.i64.wrap ((i2:Int)-1)=(q:Int):=by rw[ax om om];omega
 have hp1:i2<dc.size:=by omega
 have hq1:q<dc.size:=by omega
 have gp:=bD hp1
 have gq:=bD hq1
 have bp:=D1.b _ hp1
 have bq:=D1.b _ hq1
 have rp:=cg (k:=i2) (n:=d.size) om
 have rq:=cg (k:=q) (n:=d.size) om
 have hg:=D1.g
 refine aC ?_
 refine aB [(0,.val (.slice (some ⟨id,0,some ar⟩) d.size c)),(1,.val (i64 a)),(2,.val (i64 b)),(3,.val aO),(9,.val (i64 i2)),(10,.val (i64 J))] aK ?_
 show CW _ _ ⟨_,[],hc⟩ _
 apply bm (L:=[[],[],[],[],[3],[],[],[6],[5,6,7],[5,6,7,8],[],[],[10,11],[10,11,12],[0,1],[0,1,5,6,7,8,9,10,11,12,13,14],[2,3,4],[0,1,2,3,4,5,6,7,8,9,10,11,12,13,14,15,16]]) (act:=[15,17]) (hs:=[hc.set id (.aA (IC (dc.setIfInBounds i2 dc[q]!)) ar true 70),hc.set id (.aA (IC (Go.Sort.swp dc i2 q)) ar true 70)]) (resL:=[_,_,_,_,_,_,_,_,_,_,_,_,_,_,_,_,_,_]) (frF:=[(0,.val (.slice (some ⟨id,0,some ar⟩) d.size c)),(1,.val (i64 a)),(2,.val (i64 b)),(3,.val aO),(9,.val (i64 i2)),(10,.val (i64 J))])
 case hm=>exact mixed
 case hc=>kernel_rfl
 case ha=>rfl
 case hb=>rfl
 case hS=>
  refine JN hg gp gq e5 rp rq Nat.mul_one ?_
  apply ay.cons
  ·rfl
  ·refine⟨?_,trivial⟩
   exact bo (r:=.sl .dH) rfl ak rfl ak ak hg ak rfl (cS (d:=dc) (i:=i2) (x:=dc[q]!) hp1) rfl rfl
  ·rfl
  refine JN hg gp gq e5 rp rq Nat.mul_one ?_
  apply ay.cons
  ·rfl
  ·refine⟨?_,trivial⟩
   exact bo (r:=.sl .dH) rfl ak rfl ak ak (aw hg) ak rfl (cS (d:=dc.setIfInBounds i2 dc[q]!) (i:=q) (x:=dc[i2]!) (by simpa using hq1)) rfl aM.symm
  ·rfl
  exact ay.nil _
 case ht=>rfl
 case hF=>exact zh
 show CW _ _ _ _
 have D2:=D1.swp hp1 hq1
 have h6:hc.set id (.aA (IC (Go.Sort.swp dc i2 q)) ar true 70)=h.set id (.aA (IC (Go.Sort.swp dc i2 q)) ar true 70):=by rw[h4,aM]
 have h7:(Go.Sort.swp dc i2 q).size=d.size:=by rw[swp_size];exact h3
 clear hp1 hq1 gp gq bp bq rp rq hg
 obtain⟨d1',hd1⟩:∃ d1',Go.Sort.swp dc i2 q=d1':=⟨_,rfl⟩
 rw[hd1] at D2 h6 h7 hstep
 rw[hd1,h6]
 rw[h6] at D2
 clear h6 D1 h4 hd1 h3
 obtain⟨m1,hm1⟩:∃ m1,m1=i2-a:=⟨_,rfl⟩
 have e7:IntKind.i64.wrap ((i2:Int)-(a:Int))=(m1:Int):=by rw[ax om om];omega
 obtain⟨d2',hd2⟩:∃ d2',(if i2-a≥2 then Go.Sort.shiftDown bu q d1' else d1')=d2':=⟨_,rfl⟩
 rw[hd2] at hstep
 refine aG e7 ?_
 refine CW.mono (Q:=fun e s'=>e = .normal∧s'.h=h.set id (.aA (IC d2') ar true 70)∧DA s'.h id ar d2'∧d2'.size=d.size∧bA [(0,.val (.slice (some ⟨id,0,some ar⟩) d.size c)),(1,.val (i64 a)),(2,.val (i64 b)),(3,.val aO),(9,.val (i64 i2)),(10,.val (i64 J))] s'.fr) ?_ ?_
 ·by_cases hm2:2≤m1
  ·have d8:decide (2≤(m1:Int))=true:=decide_eq_true om
   rw[if_pos om] at hd2
   refine ae (ir d8) ?_
   refine aG e5 ?_
   refine fp (fun x:Nat×Array aR×ah=>x.1) (fun x=>[(0,.val (.slice (some ⟨id,0,some ar⟩) d.size c)),(1,.val (i64 a)),(2,.val (i64 b)),(3,.val aO),(9,.val (i64 i2)),(10,.val (i64 J)),(11,.val (i64 x.1))]) (fun x=>x.2.2)
    (fun x=>x.1≤q∧x.2.1.size=d.size∧x.2.2=h.set id (.aA (IC x.2.1) ar true 70)∧DA x.2.2 id ar x.2.1∧Go.Sort.shiftDown bu x.1 x.2.1=d2') (q,d1',_) aK rfl ⟨Nat.le_refl _,h7,rfl,D2,hd2⟩ ?_
   clear D2 h7 hd2 hstep e5 e7 hm1 hm2 d8
   rintro⟨k,dk,hk⟩ ⟨k1,k2,k3,D3,k4⟩
   simp only at k1 k2 k3 D3 k4 ⊢
   cases k with
   | zero=>
     have k4':d2'=dk:=k4.symm
     refine aC ?_
     refine af rfl ?_
     refine az ?_
     subst k4'
     exact⟨rfl,k3,D3,k2,aK⟩
   | succ p=>
     have hun:Go.Sort.shiftDown bu (p+1) dk=if (!bu dk[p+1]! dk[p]!)=true then dk else Go.Sort.shiftDown bu p (Go.Sort.swp dk (p+1) p):=rfl
     rw[k4] at hun
     obtain⟨K,hK⟩:∃ K,K=p+1:=⟨_,rfl⟩
     have d9:decide (1≤(K:Int))=true:=decide_eq_true om
     have e9:IntKind.i64.wrap ((K:Int)-1)=(p:Int):=by rw[ax om om];omega
     rw[← hK] at hun k1 ⊢
     have hp1:K<dk.size:=by omega
     have hq1:p<dk.size:=by omega
     have gp:=bD hp1
     have gq:=bD hq1
     have bp:=D3.b _ hp1
     have bq:=D3.b _ hq1
     have rp:=cg (k:=K) (n:=d.size) om
     have rq:=cg (k:=p) (n:=d.size) om
     have hg:=D3.g
     refine aG d9 ?_
     refine ae rfl ?_
     refine aC ?_
     cases hl:bu dk[K]! dk[p]! with
     | false=>
       have d7:decide (fG dk[K]! dk[p]! < 0)=false:=hl
       rw[hl] at hun
       have k4':d2'=dk:=hun
       apply bx (L:=[[],[],[],[1,2],[3],[],[],[6],[5,7],[8],[0,4,9],[10],[11]]) (resL:=[_,_,_,_,_,_,_,_,_,_,_,_,_]) (frF:=[(0,.val (.slice (some ⟨id,0,some ar⟩) d.size c)),(1,.val (i64 a)),(2,.val (i64 b)),(3,.val aO),(9,.val (i64 i2)),(10,.val (i64 J)),(84,.val (.bool true))])
       case hm=>exact mixed
       case hc=>kernel_rfl
       case hb=>rfl
       case hS=>
        refine zJ e9 hg gp gq rp rq Nat.mul_one ?_
        apply aV.cons
        ·exact bi (fn:=Tryz.f104) (args:=[dk[K]!.val,dk[p]!.val]) (cap:=[]) rfl (ir e9) rfl ak ak Tryz.func104 kr kr (bK bp bq)
        ·rfl
        exact rV d7 e9
       case ht=>rfl
       case hF=>exact zh
       show CW _ _ _ _
       refine aC ?_
       refine ae rfl ?_
       refine az ?_
       subst k4'
       exact⟨rfl,k3,D3,k2,aK⟩
     | true=>
       have d7:decide (fG dk[K]! dk[p]! < 0)=true:=hl
       rw[hl] at hun
       have k4':d2'=Go.Sort.shiftDown bu p (Go.Sort.swp dk K p):=hun
       apply bx (L:=[[],[],[],[1,2],[3],[],[],[6],[5,7],[8],[0,4,9],[10],[11]]) (resL:=[_,_,_,_,_,_,_,_,_,_,_,_,_]) (frF:=[(0,.val (.slice (some ⟨id,0,some ar⟩) d.size c)),(1,.val (i64 a)),(2,.val (i64 b)),(3,.val aO),(9,.val (i64 i2)),(10,.val (i64 J)),(11,.val (i64 K)),(84,.val (.bool false))])
       case hm=>exact mixed
       case hc=>kernel_rfl
       case hb=>rfl
       case hS=>
        refine zJ e9 hg gp gq rp rq Nat.mul_one ?_
        apply aV.cons
        ·exact bi (fn:=Tryz.f104) (args:=[dk[K]!.val,dk[p]!.val]) (cap:=[]) rfl (ir e9) rfl ak ak Tryz.func104 kr kr (bK bp bq)
        ·rfl
        exact rV d7 e9
       case ht=>rfl
       case hF=>exact zh
       show CW _ _ _ _
       refine aC ?_
       refine af rfl ?_
       refine aC ?_
       refine aB [(0,.val (.slice (some ⟨id,0,some ar⟩) d.size c)),(1,.val (i64 a)),(2,.val (i64 b)),(3,.val aO),(9,.val (i64 i2)),(10,.val (i64 J)),(11,.val (i64 K))] aK ?_
       show CW _ _ ⟨_,[],hk⟩ _
       apply bm (L:=[[],[],[],[],[3],[],[],[6],[5,6,7],[5,6,7,8],[],[],[10,11],[10,11,12],[0,1],[0,1,5,6,7,8,9,10,11,12,13,14],[2,3,4],[0,1,2,3,4,5,6,7,8,9,10,11,12,13,14,15,16]]) (act:=[15,17]) (hs:=[hk.set id (.aA (IC (dk.setIfInBounds K dk[p]!)) ar true 70),hk.set id (.aA (IC (Go.Sort.swp dk K p)) ar true 70)]) (resL:=[_,_,_,_,_,_,_,_,_,_,_,_,_,_,_,_,_,_]) (frF:=[(0,.val (.slice (some ⟨id,0,some ar⟩) d.size c)),(1,.val (i64 a)),(2,.val (i64 b)),(3,.val aO),(9,.val (i64 i2)),(10,.val (i64 J)),(11,.val (i64 K))])
       case hm=>exact mixed
       case hc=>kernel_rfl
       case ha=>rfl
       case hb=>rfl
       case hS=>
        refine JN hg gp gq e9 rp rq Nat.mul_one ?_
        apply ay.cons
        ·rfl
        ·refine⟨?_,trivial⟩
         exact bo (r:=.sl .dH) rfl ak rfl ak ak hg ak rfl (cS (d:=dk) (i:=K) (x:=dk[p]!) hp1) rfl rfl
        ·rfl
        refine JN hg gp gq e9 rp rq Nat.mul_one ?_
        apply ay.cons
        ·rfl
        ·refine⟨?_,trivial⟩
         exact bo (r:=.sl .dH) rfl ak rfl ak ak (aw hg) ak rfl (cS (d:=dk.setIfInBounds K dk[p]!) (i:=p) (x:=dk[K]!) (by simpa using hq1)) rfl aM.symm
        ·rfl
        exact ay.nil _
       case ht=>rfl
       case hF=>exact zh
       show CW _ _ _ _
       refine aG e9 ?_
       exact⟨(p,Go.Sort.swp dk K p,_),by simp only;omega,aK,rfl,by simp only;omega,by simp only;rw[swp_size];exact k2,by simp only;rw[k3,aM],D3.swp hp1 hq1,k4'.symm⟩
  ·have d8:decide (2≤(m1:Int))=false:=decide_eq_false om
   rw[if_neg om] at hd2
   subst hd2
   refine af (ir d8) ?_
   refine aC ?_
   exact⟨rfl,rfl,D2,h7,aK⟩
 rintro e s' ⟨rfl,hh,D3,h8,hf⟩
 show CW _ _ _ _
 refine aB _ hf ?_
 rw[hh] at D3 ⊢
 clear hf hh D2 hd2 h7 e7 hm1 e5 m1
 obtain⟨m1,hm1⟩:∃ m1,m1=b-i2:=⟨_,rfl⟩
 have e7:IntKind.i64.wrap ((b:Int)-(i2:Int))=(m1:Int):=by rw[ax om om];omega
 obtain⟨d3',hd3⟩:∃ d3',(if b-i2≥2 then Go.Sort.shiftUp bu b (i2+1) d2' else d2')=d3':=⟨_,rfl⟩
 rw[hd3] at hstep
 refine aG e7 ?_
 refine CW.mono (Q:=fun e s'=>e = .normal∧s'.h=h.set id (.aA (IC d3') ar true 70)∧DA s'.h id ar d3'∧d3'.size=d.size∧bA [(0,.val (.slice (some ⟨id,0,some ar⟩) d.size c)),(1,.val (i64 a)),(2,.val (i64 b)),(3,.val aO),(9,.val (i64 i2)),(10,.val (i64 J))] s'.fr) ?_ ?_
 ·by_cases hm2:2≤m1
  ·have d8:decide (2≤(m1:Int))=true:=decide_eq_true om
   have e8:IntKind.i64.wrap ((i2:Int)+1)=((i2+1:Nat):Int):=by rw[ax om om];omega
   rw[if_pos om] at hd3
   obtain⟨i3,hi3⟩:∃ i3,i3=i2+1:=⟨_,rfl⟩
   rw[← hi3] at e8 hd3
   refine ae (ir d8) ?_
   refine aG e8 ?_
   refine fp (fun x:Nat×Array aR×ah=>b-x.1) (fun x=>[(0,.val (.slice (some ⟨id,0,some ar⟩) d.size c)),(1,.val (i64 a)),(2,.val (i64 b)),(3,.val aO),(9,.val (i64 i2)),(10,.val (i64 J)),(12,.val (i64 x.1))]) (fun x=>x.2.2)
    (fun x=>1≤x.1∧x.1≤b∧x.2.1.size=d.size∧x.2.2=h.set id (.aA (IC x.2.1) ar true 70)∧DA x.2.2 id ar x.2.1∧Go.Sort.shiftUp bu b x.1 x.2.1=d3') (i3,d2',_) aK rfl ⟨by simp only;omega,by simp only;omega,h8,rfl,D3,hd3⟩ ?_
   clear D3 h8 hd3 hstep e7 e8 hm1 hm2 d8
   rintro⟨K,dk,hk⟩ ⟨k0,k1,k2,k3,D3,k4⟩
   simp only at k0 k1 k2 k3 D3 k4 ⊢
   by_cases hKb:K<b
   ·have d9:decide ((K:Int)<(b:Int))=true:=decide_eq_true om
    obtain⟨p,hp⟩:∃ p,p=K-1:=⟨_,rfl⟩
    have e9:IntKind.i64.wrap ((K:Int)-1)=(p:Int):=by rw[ax om om];omega
    have e10:IntKind.i64.wrap ((K:Int)+1)=(K:Int)+1:=ax om om
    have hp1:K<dk.size:=by omega
    have hq1:p<dk.size:=by omega
    have gp:=bD hp1
    have gq:=bD hq1
    have bp:=D3.b _ hp1
    have bq:=D3.b _ hq1
    have rp:=cg (k:=K) (n:=d.size) om
    have rq:=cg (k:=p) (n:=d.size) om
    have hg:=D3.g
    refine aG d9 ?_
    refine ae rfl ?_
    refine aC ?_
    cases hl:bu dk[K]! dk[p]! with
    | false=>
      have d7:decide (fG dk[K]! dk[p]! < 0)=false:=hl
      rw[nu (by rw[← hp,hl];simp)] at k4
      have k4':d3'=dk:=k4.symm
      apply bx (L:=[[],[],[],[1,2],[3],[],[],[6],[5,7],[8],[0,4,9],[10],[11]]) (resL:=[_,_,_,_,_,_,_,_,_,_,_,_,_]) (frF:=[(0,.val (.slice (some ⟨id,0,some ar⟩) d.size c)),(1,.val (i64 a)),(2,.val (i64 b)),(3,.val aO),(9,.val (i64 i2)),(10,.val (i64 J)),(124,.val (.bool true))])
      case hm=>exact mixed
      case hc=>kernel_rfl
      case hb=>rfl
      case hS=>
       refine zJ e9 hg gp gq rp rq Nat.mul_one ?_
       apply aV.cons
       ·exact bi (fn:=Tryz.f104) (args:=[dk[K]!.val,dk[p]!.val]) (cap:=[]) rfl (ir e9) rfl ak ak Tryz.func104 kr kr (bK bp bq)
       ·rfl
       exact rV d7 e9
      case ht=>rfl
      case hF=>exact zh
      show CW _ _ _ _
      refine aC ?_
      refine ae rfl ?_
      refine az ?_
      subst k4'
      exact⟨rfl,k3,D3,k2,aK⟩
    | true=>
      have d7:decide (fG dk[K]! dk[p]! < 0)=true:=hl
      rw[xo hKb (by rw[← hp];exact hl),← hp] at k4
      apply bx (L:=[[],[],[],[1,2],[3],[],[],[6],[5,7],[8],[0,4,9],[10],[11]]) (resL:=[_,_,_,_,_,_,_,_,_,_,_,_,_]) (frF:=[(0,.val (.slice (some ⟨id,0,some ar⟩) d.size c)),(1,.val (i64 a)),(2,.val (i64 b)),(3,.val aO),(9,.val (i64 i2)),(10,.val (i64 J)),(12,.val (i64 K)),(124,.val (.bool false))])
      case hm=>exact mixed
      case hc=>kernel_rfl
      case hb=>rfl
      case hS=>
       refine zJ e9 hg gp gq rp rq Nat.mul_one ?_
       apply aV.cons
       ·exact bi (fn:=Tryz.f104) (args:=[dk[K]!.val,dk[p]!.val]) (cap:=[]) rfl (ir e9) rfl ak ak Tryz.func104 kr kr (bK bp bq)
       ·rfl
       exact rV d7 e9
      case ht=>rfl
      case hF=>exact zh
      show CW _ _ _ _
      refine aC ?_
      refine af rfl ?_
      refine aC ?_
      refine aB [(0,.val (.slice (some ⟨id,0,some ar⟩) d.size c)),(1,.val (i64 a)),(2,.val (i64 b)),(3,.val aO),(9,.val (i64 i2)),(10,.val (i64 J)),(12,.val (i64 K))] aK ?_
      show CW _ _ ⟨_,[],hk⟩ _
      apply bm (L:=[[],[],[],[],[3],[],[],[6],[5,6,7],[5,6,7,8],[],[],[10,11],[10,11,12],[0,1],[0,1,5,6,7,8,9,10,11,12,13,14],[2,3,4],[0,1,2,3,4,5,6,7,8,9,10,11,12,13,14,15,16]]) (act:=[15,17]) (hs:=[hk.set id (.aA (IC (dk.setIfInBounds K dk[p]!)) ar true 70),hk.set id (.aA (IC (Go.Sort.swp dk K p)) ar true 70)]) (resL:=[_,_,_,_,_,_,_,_,_,_,_,_,_,_,_,_,_,_]) (frF:=[(0,.val (.slice (some ⟨id,0,some ar⟩) d.size c)),(1,.val (i64 a)),(2,.val (i64 b)),(3,.val aO),(9,.val (i64 i2)),(10,.val (i64 J)),(12,.val (i64 K))])
      case hm=>exact mixed
      case hc=>kernel_rfl
      case ha=>rfl
      case hb=>rfl
      case hS=>
       refine JN hg gp gq e9 rp rq Nat.mul_one ?_
       apply ay.cons
       ·rfl
       ·refine⟨?_,trivial⟩
        exact bo (r:=.sl .dH) rfl ak rfl ak ak hg ak rfl (cS (d:=dk) (i:=K) (x:=dk[p]!) hp1) rfl rfl
       ·rfl
       refine JN hg gp gq e9 rp rq Nat.mul_one ?_
       apply ay.cons
       ·rfl
       ·refine⟨?_,trivial⟩
        exact bo (r:=.sl .dH) rfl ak rfl ak ak (aw hg) ak rfl (cS (d:=dk.setIfInBounds K dk[p]!) (i:=p) (x:=dk[K]!) (by simpa using hq1)) rfl aM.symm
       ·rfl
       exact ay.nil _
      case ht=>rfl
      case hF=>exact zh
      show CW _ _ _ _
      refine aG e10 ?_
      exact⟨(K+1,Go.Sort.swp dk K p,_),by simp only;omega,aK,rfl,by simp only;omega,by simp only;omega,by simp only;rw[swp_size];exact k2,by simp only;rw[k3,aM],D3.swp hp1 hq1,k4⟩
   ·have d9:decide ((K:Int)<(b:Int))=false:=decide_eq_false om
    rw[nu om] at k4
    have k4':d3'=dk:=k4.symm
    refine aG d9 ?_
    refine af rfl ?_
    refine az ?_
    subst k4'
    exact⟨rfl,k3,D3,k2,aK⟩
  ·have d8:decide (2≤(m1:Int))=false:=decide_eq_false om
   rw[if_neg om] at hd3
   subst hd3
   refine af (ir d8) ?_
   refine aC ?_
   exact⟨rfl,rfl,D3,h8,aK⟩
 rintro e s' ⟨rfl,hh,D4,h9,hf⟩
 show CW _ _ _ _
 refine aB _ hf ?_
 rw[hh] at D4 ⊢
 refine aG eJ ?_
 exact⟨(J+1,i2,d3',_),by simp only;omega,aK,rfl,by simp only;omega,by simp only;omega,by simp only;omega,h9,rfl,D4,by simp only;rw[show 5-(J+1)=s by omega];exact hstep.symm⟩
·have d1:decide ((J:Int)<5)=false:=decide_eq_false om
 rw[show 5-J=0 by omega] at h5
 have hend:P=(dc,false):=h5.symm
 refine aG d1 ?_
 refine af rfl ?_
 refine az ?_
 show CW _ _ _ _
 refine aC ?_
 refine ai ?_
 rw[hend]
 exact⟨_,ak,rfl,h4,D1,h3⟩}
theorem pH {h:ah} {id ar c a b n sid:Nat} {d:Array aR} (D:DA h id ar d) (ha:a<d.size) (hb:b<d.size) (hs:h[sid]? = some (.aA [i64 n] 0 true 3)) (hn:n≤1000) : FW env 216 [.slice (some ⟨id,0,some ar⟩) d.size c,i64 a,i64 b,.pointer (some ⟨sid,0,some 0⟩),aO] h fun r h'=> r = .tuple #[i64 (Go.Sort.order2 bu d a b n).1,i64 (Go.Sort.order2 bu d a b n).2.1]∧h'=h.set sid (.aA [i64 (Go.Sort.order2 bu d a b n).2.2] 0 true 3):=by{
have hg:=D.g
have hsz:=D.n
have ga:=bD ha
have gb:=bD hb
have ba:=D.b _ ha
have bb:=D.b _ hb
have ra:=cg (k:=a) (n:=d.size) ha
have rb:=cg (k:=b) (n:=d.size) hb
have e1:IntKind.i64.wrap ((n:Int)+1)=((n+1:Nat):Int):=by rw[ax om om];omega
refine fe Tryz.func216 ?_;simp only[push_cast]
refine aC ?_
refine aB [(0,.val (.slice (some ⟨id,0,some ar⟩) d.size c)),(1,.val (i64 a)),(2,.val (i64 b)),(3,.val (.pointer (some ⟨sid,0,some 0⟩))),(4,.val aO)] aK ?_
show CW _ _ ⟨_,[],h⟩ _
cases hl:bu d[b]! d[a]! with
| false=>
  have d7:decide (fG d[b]! d[a]! < 0)=false:=hl
  have ho:Go.Sort.order2 bu d a b n=(a,b,n):=by unfold Go.Sort.order2;rw[hl];rfl
  apply bx (L:=[[],[],[],[1,2],[3],[],[],[5,6],[7],[0,4,8],[9]]) (resL:=[_,_,_,_,_,_,_,_,_,_,_]) (frF:=[(1,.val (i64 a)),(2,.val (i64 b)),(22,.val (.bool false))])
  case hm=>exact mixed
  case hc=>kernel_rfl
  case hb=>rfl
  case hS=>
   refine VK hg ga gb ra rb Nat.mul_one ?_
   apply aV.cons
   ·exact bi (fn:=Tryz.f104) (args:=[d[b]!.val,d[a]!.val]) (cap:=[]) rfl ak rfl ak ak Tryz.func104 kr kr (bK bb ba)
   ·rfl
   exact CY d7
  case ht=>rfl
  case hF=>exact zh
  show CW _ _ _ _
  refine aC ?_
  refine af rfl ?_
  refine aC ?_
  refine ai ?_
  exact⟨_,ak,by rw[ho];rfl,by rw[ho];exact (fS hs).symm⟩
| true=>
  have d7:decide (fG d[b]! d[a]! < 0)=true:=hl
  have ho:Go.Sort.order2 bu d a b n=(b,a,n+1):=by unfold Go.Sort.order2;rw[hl];rfl
  apply bx (L:=[[],[],[],[1,2],[3],[],[],[5,6],[7],[0,4,8],[9]]) (resL:=[_,_,_,_,_,_,_,_,_,_,_]) (frF:=[(1,.val (i64 a)),(2,.val (i64 b)),(3,.val (.pointer (some ⟨sid,0,some 0⟩))),(22,.val (.bool true))])
  case hm=>exact mixed
  case hc=>kernel_rfl
  case hb=>rfl
  case hS=>
   refine VK hg ga gb ra rb Nat.mul_one ?_
   apply aV.cons
   ·exact bi (fn:=Tryz.f104) (args:=[d[b]!.val,d[a]!.val]) (cap:=[]) rfl ak rfl ak ak Tryz.func104 kr kr (bK bb ba)
   ·rfl
   exact CY d7
  case ht=>rfl
  case hF=>exact zh
  show CW _ _ _ _
  refine aC ?_
  refine ae rfl ?_
  refine fh hs e1 ?_
  refine bV ak rfl rfl ak ak hs ak rfl rfl ?_
  refine aC ?_
  refine ai ?_
  exact⟨_,ak,by rw[ho];rfl,by rw[ho];rfl⟩}
theorem kc {d:Array aR} {a b n:Nat} (ha:a<d.size) (hb:b<d.size):(Go.Sort.order2 bu d a b n).1<d.size∧(Go.Sort.order2 bu d a b n).2.1<d.size∧(Go.Sort.order2 bu d a b n).2.2≤n+1:=by{
unfold Go.Sort.order2
split
·exact⟨hb,ha,Nat.le_refl _⟩
·exact⟨ha,hb,Nat.le_succ _⟩}
theorem DA.SS {h:ah} {id ar sid n m:Nat} {d:Array aR} (D:DA h id ar d) (hs:h[sid]? = some (.aA [i64 n] 0 true 3)):DA (h.set sid (.aA [i64 m] 0 true 3)) id ar d:=
 ⟨by
  rw[aD (by
   rintro rfl
   have:=D.g
   rw[hs] at this
   simp only[Option.some.injEq,av.aA.injEq] at this
   exact absurd this.2.2.2 (by decide))]
  exact D.g,D.n,D.b⟩
theorem pi {h:ah} {id ar c a b e n sid:Nat} {d:Array aR} (D:DA h id ar d) (ha:a<d.size) (hb:b<d.size) (he:e<d.size) (hs:h[sid]? = some (.aA [i64 n] 0 true 3)) (hn:n≤900) : FW env 210 [.slice (some ⟨id,0,some ar⟩) d.size c,i64 a,i64 b,i64 e,.pointer (some ⟨sid,0,some 0⟩),aO] h fun r h'=> r=i64 (Go.Sort.median bu d a b e n).1∧h'=h.set sid (.aA [i64 (Go.Sort.median bu d a b e n).2] 0 true 3):=by{
obtain⟨x1,y1,z1⟩:=kc (n:=n) ha hb
obtain⟨q1,hq1⟩:∃ q,Go.Sort.order2 bu d a b n=q:=⟨_,rfl⟩
rw[hq1] at x1 y1 z1
obtain⟨x2,y2,z2⟩:=kc (n:=q1.2.2) y1 he
obtain⟨q2,hq2⟩:∃ q,Go.Sort.order2 bu d q1.2.1 e q1.2.2=q:=⟨_,rfl⟩
rw[hq2] at x2 y2 z2
obtain⟨q3,hq3⟩:∃ q,Go.Sort.order2 bu d q1.1 q2.1 q2.2.2=q:=⟨_,rfl⟩
have hm:Go.Sort.median bu d a b e n=(q3.2.1,q3.2.2):=by
 unfold Go.Sort.median
 simp only[hq1,hq2,hq3]
rw[hm]
refine fe Tryz.func210 ?_;simp only[push_cast]
refine aC ?_
refine zj Tryz.func216 ?_
rw[List.append_nil]
refine (pH (c:=c) D ha hb hs om).mono ?_
rw[hq1]
rintro _ h1 ⟨rfl,k1⟩
have D1:DA h1 id ar d:=by rw[k1];exact D.SS hs
have hs1:h1[sid]? = some (.aA [i64 q1.2.2] 0 true 3):=by rw[k1];exact aw hs
refine aC ?_
refine zj Tryz.func216 ?_
rw[List.append_nil]
refine (pH (c:=c) D1 y1 he hs1 om).mono ?_
rw[hq2]
rintro _ h2 ⟨rfl,k2⟩
have D2:DA h2 id ar d:=by rw[k2];exact D1.SS hs1
have hs2:h2[sid]? = some (.aA [i64 q2.2.2] 0 true 3):=by rw[k2];exact aw hs1
refine aC ?_
refine zj Tryz.func216 ?_
rw[List.append_nil]
refine (pH (c:=c) D2 x1 x2 hs2 om).mono ?_
rw[hq3]
rintro _ h3 ⟨rfl,k3⟩
refine aC ?_
refine ai ?_
exact⟨_,ak,rfl,by rw[k3,k2,k1,aM,aM]⟩}
theorem oR {h:ah} {id ar c a n sid:Nat} {d:Array aR} (D:DA h id ar d) (h0:0<a) (ha:a+1<d.size) (hs:h[sid]? = some (.aA [i64 n] 0 true 3)) (hn:n≤900) : FW env 209 [.slice (some ⟨id,0,some ar⟩) d.size c,i64 a,.pointer (some ⟨sid,0,some 0⟩),aO] h fun r h'=> r=i64 (Go.Sort.medianAdjacent bu d a n).1∧h'=h.set sid (.aA [i64 (Go.Sort.medianAdjacent bu d a n).2] 0 true 3):=by{
have hsz:=D.n
have e1:IntKind.i64.wrap ((a:Int)-1)=((a-1:Nat):Int):=by rw[ax om om];omega
have e2:IntKind.i64.wrap ((a:Int)+1)=((a+1:Nat):Int):=by rw[ax om om];omega
have k:=pi (c:=c) (a:=a-1) (b:=a) (e:=a+1) (n:=n) D om om ha hs hn
have hm:Go.Sort.medianAdjacent bu d a n=Go.Sort.median bu d (a-1) a (a+1) n:=rfl
rw[hm]
obtain⟨p,hp⟩:∃ p,p=a-1:=⟨_,rfl⟩
obtain⟨q,hq⟩:∃ q,q=a+1:=⟨_,rfl⟩
rw[← hp,← hq] at k ⊢
rw[← hp] at e1
rw[← hq] at e2
refine fe Tryz.func209 ?_;simp only[push_cast]
refine fh e1 e2 ?_
refine zj Tryz.func210 ?_
rw[List.append_nil]
refine k.mono ?_
rintro _ h1 ⟨rfl,k1⟩
refine aC ?_
refine ai ?_
exact⟨_,ak,rfl,k1⟩}
theorem QT {N:Env} {f:FuncId} {args:List Value} {h:ah} {Q:Value→Prop} (k:FW N f args h fun r h'=>Q r∧dv h.length r∧h'.take h.length=h):FW N f args h fun r h'=>Q r∧h'=h:=by{
unfold FW at k ⊢
obtain⟨r,h',h1,h2,h3,h4⟩:=k
exact⟨r,h,.gc h1 h3 h4,h2,rfl⟩}
theorem gh {n:Nat} {a b:Int}:dv n (.tuple #[i64 a,i64 b]):=by{
refine .En fun i v h=>?_
match i,h with
| 0,h=>cases h;exact .be rfl
| 1,h=>cases h;exact .be rfl}
theorem dw {h:ah} {n:Nat} {x:av}:(h.set n x).take n=h.take n:=by
 rw[List.take_set,List.set_eq_of_length_le (by simp;omega)]
theorem ic {h:ah} {x:av}:(h++[x]).take h.length=h:=by simp
theorem jV {d:Array aR} {a b c s:Nat} (ha:a<d.size) (hb:b<d.size) (hc:c<d.size):(Go.Sort.median bu d a b c s).2≤s+3:=by{
have h1:=kc (n:=s) ha hb
have h2:=kc (n:=(Go.Sort.order2 bu d a b s).2.2) h1.2.1 hc
have h3:=kc (n:=(Go.Sort.order2 bu d (Go.Sort.order2 bu d a b s).2.1 c (Go.Sort.order2 bu d a b s).2.2).2.2) h1.1 h2.1
unfold Go.Sort.median
simp only
omega}
theorem EV {h:ah} {id ar c a b:Nat} {d:Array aR} (D:DA h id ar d) (hab:a<b) (hb:b≤d.size) : FW env 183 [.slice (some ⟨id,0,some ar⟩) d.size c,i64 a,i64 b,aO] h fun r h'=> (∃ p hint:Nat,r = .tuple #[i64 p,i64 hint]∧a≤p∧p<b)∧h'=h:=by{
have hsz:=D.n
refine QT ?_
obtain⟨l,hl⟩:∃ l,l=b-a:=⟨_,rfl⟩
obtain⟨q,hq⟩:∃ q,q=l / 4:=⟨_,rfl⟩
obtain⟨x1,hx1⟩:∃ x1,x1=a+q:=⟨_,rfl⟩
obtain⟨x2,hx2⟩:∃ x2,x2=a+q*2:=⟨_,rfl⟩
obtain⟨x3,hx3⟩:∃ x3,x3=a+q*3:=⟨_,rfl⟩
have e1:IntKind.i64.wrap ((b:Int)-a)=(l:Int):=by rw[ax om om];omega
have e2:IntKind.i64.wrap ((l:Int).tdiv 4)=(q:Int):=by
 have:(l:Int).tdiv 4=(q:Int):=by rw[hq];rfl
 rw[this,ax om om]
have e3:IntKind.i64.wrap ((q:Int)*1)=(q:Int):=by rw[ax om om];omega
have e4:IntKind.i64.wrap ((q:Int)*2)=(q:Int)*2:=ax om om
have e5:IntKind.i64.wrap ((q:Int)*3)=(q:Int)*3:=ax om om
have f1:IntKind.i64.wrap ((a:Int)+(q:Int))=(x1:Int):=by rw[ax om om];omega
have f2:IntKind.i64.wrap ((a:Int)+(q:Int)*2)=(x2:Int):=by rw[ax om om];omega
have f3:IntKind.i64.wrap ((a:Int)+(q:Int)*3)=(x3:Int):=by rw[ax om om];omega
have hq4:q*4≤l:=by omega
refine fe Tryz.func183 ?_;simp only[push_cast]
refine zu ?_
iterate 2 (apply ei;·simp only[push_cast,env,Nat.reduceEqDiff,reduceIte,Nat.reduceAdd,Nat.reduceMul,Nat.reduceLeDiff,reduceCtorEq,Nat.reduceSub,Int.reduceToNat]<;>exact rfl)
refine zu ?_
iterate 4 (apply ei;·simp only[push_cast,env,Nat.reduceEqDiff,reduceIte,Nat.reduceAdd,Nat.reduceMul,Nat.reduceLeDiff,reduceCtorEq,Nat.reduceSub,Int.reduceToNat,e1]<;>exact rfl)
refine zu ?_
refine dA (t:=3) (cs:=[i64 0]) ak ak ?_
dsimp only[St.a9,St.put]
have D0:DA (h++[.aA [i64 (0:Nat)] 0 true 3]) id ar d:=⟨bg D.g,D.n,D.b⟩
have s0:(h++[.aA [i64 (0:Nat)] 0 true 3])[h.length]? = some (.aA [i64 (0:Nat)] 0 true 3):=aJ
refine Tm e1 e2 e3 e4 e5 f1 f2 f3 ?_
by_cases h8:8≤l
·have d1:decide (8≤(l:Int))=true:=decide_eq_true om
 have b1:a<x1∧x1+1<b:=by omega
 have b2:a<x2∧x2+1<b:=by omega
 have b3:a<x3∧x3+1<b:=by omega
 clear e2 e3 e4 e5 f1 f2 f3 hq hx1 hx2 hx3 hq4
 refine ae (ir d1) ?_
 by_cases h50:50≤l
 ·have d2:decide (50≤(l:Int))=true:=decide_eq_true om
  clear hl e1
  refine aG d2 ?_
  refine ae rfl ?_
  refine aC ?_
  refine zj Tryz.func209 ?_
  rw[List.append_nil]
  refine (oR (c:=c) D0 om om s0 om).mono ?_
  have hm1:=Go.Sort.medianAdjacent_mem bu d x1 0
  have hc1:(Go.Sort.medianAdjacent bu d x1 0).2≤0+3:=jV om om om
  obtain⟨p1,hp1⟩:∃ p,Go.Sort.medianAdjacent bu d x1 0=p:=⟨_,rfl⟩
  rw[hp1] at hm1 hc1 ⊢
  have hr1:a≤p1.1∧p1.1<b:=by omega
  clear hm1 hp1
  rintro _ h1 ⟨rfl,k1⟩
  have D1:DA h1 id ar d:=by rw[k1];exact (D0).SS s0
  have s1:h1[h.length]? = some (.aA [i64 p1.2] 0 true 3):=by rw[k1];exact aw s0
  refine aC ?_
  refine zj Tryz.func209 ?_
  rw[List.append_nil]
  refine (oR (c:=c) D1 om om s1 om).mono ?_
  have hm2:=Go.Sort.medianAdjacent_mem bu d x2 p1.2
  have hc2:(Go.Sort.medianAdjacent bu d x2 p1.2).2≤p1.2+3:=jV om om om
  obtain⟨p2,hp2⟩:∃ p,Go.Sort.medianAdjacent bu d x2 p1.2=p:=⟨_,rfl⟩
  rw[hp2] at hm2 hc2 ⊢
  have hr2:a≤p2.1∧p2.1<b:=by omega
  clear hm2 hp2
  rintro _ h2 ⟨rfl,k2⟩
  have D2:DA h2 id ar d:=by rw[k2];exact (D1).SS s1
  have s2:h2[h.length]? = some (.aA [i64 p2.2] 0 true 3):=by rw[k2];exact aw s1
  refine aC ?_
  refine zj Tryz.func209 ?_
  rw[List.append_nil]
  refine (oR (c:=c) D2 om om s2 om).mono ?_
  have hm3:=Go.Sort.medianAdjacent_mem bu d x3 p2.2
  have hc3:(Go.Sort.medianAdjacent bu d x3 p2.2).2≤p2.2+3:=jV om om om
  obtain⟨p3,hp3⟩:∃ p,Go.Sort.medianAdjacent bu d x3 p2.2=p:=⟨_,rfl⟩
  rw[hp3] at hm3 hc3 ⊢
  have hr3:a≤p3.1∧p3.1<b:=by omega
  clear hm3 hp3
  rintro _ h3 ⟨rfl,k3⟩
  have D3:DA h3 id ar d:=by rw[k3];exact (D2).SS s2
  have s3:h3[h.length]? = some (.aA [i64 p3.2] 0 true 3):=by rw[k3];exact aw s2
  refine aC ?_
  refine zj Tryz.func210 ?_
  rw[List.append_nil]
  refine (pi (c:=c) D3 om om om s3 om).mono ?_
  have hmm:=Go.Sort.median_mem bu d p1.1 p2.1 p3.1 p3.2
  have hmc:(Go.Sort.median bu d p1.1 p2.1 p3.1 p3.2).2≤p3.2+3:=jV om om om
  obtain⟨pm,hpm⟩:∃ p,Go.Sort.median bu d p1.1 p2.1 p3.1 p3.2=p:=⟨_,rfl⟩
  rw[hpm] at hmm hmc ⊢
  have hrm:a≤pm.1∧pm.1<b:=by omega
  clear hmm hpm
  rintro _ hM ⟨rfl,kM⟩
  have sM:hM[h.length]? = some (.aA [i64 pm.2] 0 true 3):=by rw[kM];exact aw s3
  obtain⟨n,hn⟩:∃ n,n=pm.2:=⟨_,rfl⟩
  rw[← hn] at sM
  refine aG sM ?_
  by_cases hz:n=0
  ·have d3:decide ((n:Int)=0)=true:=decide_eq_true om
   refine ae (ir d3) ?_
   refine aC ?_
   refine ai ?_
   exact⟨_,ak,⟨_,1,rfl,hrm⟩,gh,(by rw[kM,dw,k3,dw,k2,dw,k1,dw,ic])⟩
  have d3:decide ((n:Int)=0)=false:=decide_eq_false om
  by_cases hz2:n=12
  ·have d4:decide ((n:Int)=12)=true:=decide_eq_true om
   refine af (ir d3) ?_
   refine aG d4 ?_
   refine ae rfl ?_
   refine aC ?_
   refine ai ?_
   exact⟨_,ak,⟨_,2,rfl,hrm⟩,gh,(by rw[kM,dw,k3,dw,k2,dw,k1,dw,ic])⟩
  have d4:decide ((n:Int)=12)=false:=decide_eq_false om
  refine af (ir d3) ?_
  refine aG d4 ?_
  refine af rfl ?_
  refine aC ?_
  refine ai ?_
  exact⟨_,ak,⟨_,0,rfl,hrm⟩,gh,(by rw[kM,dw,k3,dw,k2,dw,k1,dw,ic])⟩
 ·have d2:decide (50≤(l:Int))=false:=decide_eq_false om
  clear hl e1
  refine aG d2 ?_
  refine af rfl ?_
  refine aC ?_
  refine zj Tryz.func210 ?_
  rw[List.append_nil]
  refine (pi (c:=c) D0 om om om s0 om).mono ?_
  have hmm:=Go.Sort.median_mem bu d x1 x2 x3 0
  have hmc:(Go.Sort.median bu d x1 x2 x3 0).2≤0+3:=jV om om om
  obtain⟨pm,hpm⟩:∃ p,Go.Sort.median bu d x1 x2 x3 0=p:=⟨_,rfl⟩
  rw[hpm] at hmm hmc ⊢
  have hrm:a≤pm.1∧pm.1<b:=by omega
  clear hmm hpm
  rintro _ hM ⟨rfl,kM⟩
  have sM:hM[h.length]? = some (.aA [i64 pm.2] 0 true 3):=by rw[kM];exact aw s0
  obtain⟨n,hn⟩:∃ n,n=pm.2:=⟨_,rfl⟩
  rw[← hn] at sM
  refine aG sM ?_
  by_cases hz:n=0
  ·have d3:decide ((n:Int)=0)=true:=decide_eq_true om
   refine ae (ir d3) ?_
   refine aC ?_
   refine ai ?_
   exact⟨_,ak,⟨_,1,rfl,hrm⟩,gh,(by rw[kM,dw,ic])⟩
  have d3:decide ((n:Int)=0)=false:=decide_eq_false om
  by_cases hz2:n=12
  ·have d4:decide ((n:Int)=12)=true:=decide_eq_true om
   refine af (ir d3) ?_
   refine aG d4 ?_
   refine ae rfl ?_
   refine aC ?_
   refine ai ?_
   exact⟨_,ak,⟨_,2,rfl,hrm⟩,gh,(by rw[kM,dw,ic])⟩
  have d4:decide ((n:Int)=12)=false:=decide_eq_false om
  refine af (ir d3) ?_
  refine aG d4 ?_
  refine af rfl ?_
  refine aC ?_
  refine ai ?_
  exact⟨_,ak,⟨_,0,rfl,hrm⟩,gh,(by rw[kM,dw,ic])⟩
·have d1:decide (8≤(l:Int))=false:=decide_eq_false om
 have b2:a≤x2∧x2<b:=by omega
 clear e2 e3 e4 e5 f1 f2 f3 hq hx1 hx2 hx3 hq4
 refine af (ir d1) ?_
 repeat (first|apply zs|apply zr|apply zn|((first|apply zx|apply zy);·simp only[push_cast,env,Nat.reduceEqDiff,reduceIte,Nat.reduceAdd,Nat.reduceMul,Nat.reduceLeDiff,reduceCtorEq,Nat.reduceSub,Int.reduceToNat,aJ]<;>first|exact rfl|exact .inl rfl|exact .inr rfl) | apply zq|apply zb|apply zo|apply zk|apply zl)
 refine ae rfl ?_
 refine aC ?_
 refine ai ?_
 exact⟨_,ak,⟨_,1,rfl,b2⟩,gh,ic⟩}
theorem me {x:Int} (h0:0≤x) (h1:x<18446744073709551616):IntKind.u64.wrap x=x:=by
 have:IntKind.u64.wrap x=x % 18446744073709551616:=by simp [IntKind.wrap,IntKind.bits,IntKind.signed]
 omega
theorem On {x:Int} (h0:0≤x) (h1:x<256):IntKind.u8.wrap x=x:=by
 have:IntKind.u8.wrap x=x % 256:=by simp [IntKind.wrap,IntKind.bits,IntKind.signed]
 omega
theorem KM {m k p:Nat} (h:2 ^ k=p) (hk:k≤64):(m:Int).fdiv (2 ^ min k IntKind.u64.bits)=((m / p:Nat):Int):=by{
have h1:min k IntKind.u64.bits=k:=by
 show min k 64=k
 omega
have h2:(2:Int) ^ k=(p:Int):=by rw[← h];push_cast;rfl
rw[h1,h2,Int.fdiv_eq_ediv_of_nonneg _ om]
rfl}
def wH:ByteArray:=⟨((List.range 256).map fun n=>UInt8.ofNat (Go.Sort.bitsLen n)).toArray⟩
theorem A6 {n:Nat} (h:n<256):wH[n]? = some (UInt8.ofNat (Go.Sort.bitsLen n)):=by{
have hs:wH.size=256:=by
 show ((List.range 256).map fun n=>UInt8.ofNat (Go.Sort.bitsLen n)).toArray.size=256
 simp only[List.size_toArray,List.length_map,List.length_range]
rw[getElem?_pos wH n (by rw[hs];exact h)]
congr 1
show ((List.range 256).map fun n=>UInt8.ofNat (Go.Sort.bitsLen n)).toArray[n]'(by simp only[List.size_toArray,List.length_map,List.length_range];exact h)=_
simp only[List.getElem_toArray,List.getElem_map,List.getElem_range]}
theorem AY {n:Nat} (h:n<256):(UInt8.ofNat (Go.Sort.bitsLen n)).toNat=Go.Sort.bitsLen n:=by{
have:=(Go.Sort.bitsLen_le_iff n 8).2 h
rw[UInt8.toNat_ofNat']
omega}
theorem E9 {all:Array Oper} {o:Oper} {s:St} {t:TypeId} {x i:Operand} {b:ByteArray} {k:IntKind} {n:Nat} (hg:aF all o s=some true) (ho:o.op = .index t x i) (hu:env.P.underlying t=some .string) (hx:ev s x=some (.string b)) (hi:ev s i=some (.int k n)) (hb:b=wH) (hn:n<256) : uT env all o s=some (s.a9 o.dst (.val (.int .u8 (Go.Sort.bitsLen n)))):=by{
unfold uT
rw[hg,ho]
simp only[rz,lG,hu,hx,hi,hb,Int.toNat_natCast,A6 hn,AY hn,Int.natCast_nonneg,if_true]}
theorem sR {n k:Nat} (h:2 ^ k≤n):Go.Sort.bitsLen n=k+Go.Sort.bitsLen (n / 2 ^ k):=by{
have h1:=Go.Sort.lt_two_pow_bitsLen (n / 2 ^ k)
apply Nat.le_antisymm
·rw[Go.Sort.bitsLen_le_iff,Nat.pow_add]
 have:=(Nat.div_lt_iff_lt_mul (Nat.two_pow_pos k)).1 h1
 rwa [Nat.mul_comm] at this
·have h2:=Go.Sort.lt_two_pow_bitsLen n
 have h3:k≤Go.Sort.bitsLen n:=by
  rcases Nat.lt_or_ge (Go.Sort.bitsLen n) k with h3|h3
  ·have:=(Go.Sort.bitsLen_le_iff n k).1 (Nat.le_of_lt h3)
   omega
  ·exact h3
 have h4:Go.Sort.bitsLen (n / 2 ^ k)≤Go.Sort.bitsLen n-k:=by
  rw[Go.Sort.bitsLen_le_iff,Nat.div_lt_iff_lt_mul (Nat.two_pow_pos k),← Nat.pow_add]
  rwa [Nat.sub_add_cancel h3]
 omega}
theorem E1 {h:ah} {n:Nat} (hn:n≤1000000000):FW env 189 [.int .u64 n] h fun r h'=>r=i64 (Go.Sort.bitsLen n)∧h'=h:=by{
refine fe Tryz.func189 ?_;simp only[push_cast]
have d1:decide (4294967296≤(n:Int))=false:=decide_eq_false om
refine aG d1 ?_
refine af rfl ?_
obtain⟨z,hz⟩:∃ z:Nat,z=0:=⟨_,rfl⟩
have ez:(0:Int)=(z:Int):=by omega
refine aC ?_
refine aB [(0,.val (.int .u64 n)),(2,.val (i64 z)),(8,.val (.bool (decide (65536≤(n:Int)))))] (by rw[hz];exact⟨rfl,rfl,rfl,trivial⟩) ?_
show CW _ _ ⟨_,[],h⟩ _
refine CW.mono (Q:=fun e s'=>e = .normal∧s'.h=h∧∃ m k:Nat,k+Go.Sort.bitsLen m=Go.Sort.bitsLen n∧m<65536∧k≤16∧bA [(0,.val (.int .u64 m)),(2,.val (i64 k))] s'.fr) ?_ ?_
·by_cases h1:65536≤n
 ·have d2:decide (65536≤(n:Int))=true:=decide_eq_true om
  have e1:(n:Int).fdiv (2 ^ min 16 IntKind.u64.bits)=((n / 65536:Nat):Int):=KM (by decide) (by decide)
  obtain⟨m',hm'⟩:∃ y,y=n / 65536:=⟨_,rfl⟩
  have hb:=sR (n:=n) (k:=16) h1
  have e3:n / 2 ^ 16=m':=hm'.symm
  rw[e3] at hb
  rw[← hm'] at e1
  have e2:IntKind.i64.wrap ((z:Int)+16)=((z+16:Nat):Int):=by rw[ax om om];omega
  obtain⟨k',hk'⟩:∃ y,y=z+16:=⟨_,rfl⟩
  rw[← hk'] at e2
  refine ae (ir d2) ?_
  refine fh e1 e2 ?_
  exact⟨rfl,rfl,m',k',by omega,by omega,by omega,aK⟩
 ·have d2:decide (65536≤(n:Int))=false:=decide_eq_false om
  refine af (ir d2) ?_
  refine aC ?_
  exact⟨rfl,rfl,n,z,om,by omega,by omega,aK⟩
rintro e s' ⟨rfl,hh,m,k,hmk,hm,hk,hf⟩
show CW _ _ _ _
refine aB _ hf ?_
rw[hh]
clear hf hh
refine aC ?_
refine CW.mono (Q:=fun e s'=>e = .normal∧s'.h=h∧∃ m k:Nat,k+Go.Sort.bitsLen m=Go.Sort.bitsLen n∧m<256∧k≤24∧bA [(0,.val (.int .u64 m)),(2,.val (i64 k))] s'.fr) ?_ ?_
·by_cases h1:256≤m
 ·have d2:decide (256≤(m:Int))=true:=decide_eq_true om
  have e1:(m:Int).fdiv (2 ^ min 8 IntKind.u64.bits)=((m / 256:Nat):Int):=KM (by decide) (by decide)
  obtain⟨m',hm'⟩:∃ y,y=m / 256:=⟨_,rfl⟩
  have hb:=sR (n:=m) (k:=8) h1
  have e3:m / 2 ^ 8=m':=hm'.symm
  rw[e3] at hb
  rw[← hm'] at e1
  have e2:IntKind.i64.wrap ((k:Int)+8)=((k+8:Nat):Int):=by rw[ax om om];omega
  obtain⟨k',hk'⟩:∃ y,y=k+8:=⟨_,rfl⟩
  rw[← hk'] at e2
  refine ae (ir d2) ?_
  refine fh e1 e2 ?_
  exact⟨rfl,rfl,m',k',by omega,by omega,by omega,aK⟩
 ·have d2:decide (256≤(m:Int))=false:=decide_eq_false om
  refine af (ir d2) ?_
  refine aC ?_
  exact⟨rfl,rfl,m,k,hmk,by omega,by omega,aK⟩
rintro e s' ⟨rfl,hh,m2,k2,hmk2,hm2,hk2,hf⟩
show CW _ _ _ _
refine aB _ hf ?_
rw[hh]
clear hf hh
have e1:IntKind.u8.wrap (m2:Int)=(m2:Int):=On om om
have hb8:=(Go.Sort.bitsLen_le_iff m2 8).2 hm2
have e2:IntKind.i64.wrap ((Go.Sort.bitsLen m2:Nat):Int)=(Go.Sort.bitsLen m2:Int):=ax om om
have e3:IntKind.i64.wrap ((k2:Int)+(Go.Sort.bitsLen m2:Int))=((Go.Sort.bitsLen n:Nat):Int):=by rw[ax om om];omega
refine zu ?_
iterate 3 (apply ei;·simp only[push_cast,env,Nat.reduceEqDiff,reduceIte,Nat.reduceAdd,Nat.reduceMul,Nat.reduceLeDiff,reduceCtorEq,Nat.reduceSub,Int.reduceToNat,e1]<;>exact rfl)
refine ei (E9 rfl rfl rfl rfl ak kr hm2) ?_
dsimp only[St.a9,St.put]
refine fh e2 e3 ?_
refine ai ?_
exact⟨_,ak,rfl,rfl⟩}
theorem AK {h:ah} {n:Nat} (hn:n≤1000000000):FW env 146 [.int .u64 n] h fun r h'=>r=i64 (Go.Sort.bitsLen n)∧h'=h:=by{
refine fe Tryz.func146 ?_;simp only[push_cast]
refine aC ?_
refine af rfl ?_
refine aC ?_
refine zj Tryz.func189 ?_
rw[List.append_nil]
refine (E1 hn).mono ?_
rintro _ h1 ⟨rfl,rfl⟩
refine aC ?_
refine ai ?_
exact⟨_,ak,rfl,rfl⟩}
theorem Ke {h:ah} {n:Nat} (h0:8≤n) (hn:n≤1000000000):FW env 207 [i64 n] h fun r h'=>(∃ m:Nat,r = .int .u64 m∧0<m∧m≤2*n)∧h'=h:=by{
refine fe Tryz.func207 ?_;simp only[push_cast]
have e1:IntKind.u64.wrap (n:Int)=(n:Int):=me om om
refine aG e1 ?_
refine zj Tryz.func146 ?_
rw[List.append_nil]
refine (AK hn).mono ?_
rintro _ h1 ⟨rfl,rfl⟩
have hb:=(Go.Sort.bitsLen_le_iff n 30).2 om
have hp:=Go.Sort.two_pow_bitsLen_le (n:=n) om
obtain⟨m,hm⟩:∃ m,m=2 ^ Go.Sort.bitsLen n:=⟨_,rfl⟩
have hm0:0<m:=by rw[hm];exact Nat.two_pow_pos _
rw[← hm] at hp
obtain⟨B,hB⟩:∃ B,Go.Sort.bitsLen n=B:=⟨_,rfl⟩
rw[hB] at hm hb ⊢
have d1:¬ ((B:Int)<0):=by omega
have e2:IntKind.u64.wrap (1*2 ^ min B IntKind.u64.bits)=(m:Int):=by
 have:min B IntKind.u64.bits=B:=by
  show min B 64=B
  omega
 have h2:(2:Int) ^ B=(m:Int):=by rw[hm];push_cast;rfl
 rw[this,Int.one_mul,h2]
 exact me om om
refine fh d1 e2 ?_
refine ai ?_
exact⟨_,ak,⟨m,rfl,hm0,hp⟩,rfl⟩}
theorem Gb {h:ah} {sid:Nat} {v:Int} (hs:h[sid]? = some (.aA [.int .u64 v] 0 true 256)) : FW env 208 [.pointer (some ⟨sid,0,some 0⟩)] h fun r h'=>∃ w:Int,r = .int .u64 w∧h'=h.set sid (.aA [.int .u64 w] 0 true 256):=by{
refine fe Tryz.func208 ?_;simp only[push_cast]
refine aC ?_
refine aB [(0,.val (.pointer (some ⟨sid,0,some 0⟩)))] aK ?_
show CW _ _ ⟨_,[],h⟩ _
apply bm (L:=[[],[0],[1],[],[3],[4],[5],[2,6],[0],[0,1,2,3,4,5,6,7,8]]) (act:=[9]) (hs:=[h.set sid (.aA [.int .u64 _] 0 true 256)]) (resL:=[_,_,_,_,_,_,_,_,_,_]) (frF:=[(0,.val (.pointer (some ⟨sid,0,some 0⟩)))])
case hm=>exact mixed
case hc=>kernel_rfl
case ha=>rfl
case hb=>rfl
case hS=>
 refine Py hs ?_
 apply ay.cons
 ·rfl
 ·refine⟨?_,trivial⟩
  exact bo (r:=.sl .dH) rfl ak rfl ak ak hs ak rfl rfl rfl rfl
 ·rfl
 exact ay.nil _
case ht=>rfl
case hF=>exact zh
show CW _ _ ⟨_,[],h.set sid (.aA [.int .u64 (IntKind.u64.wrap _)] 0 true 256)⟩ _
generalize IntKind.u64.wrap _=v1
have hs1:(h.set sid (.aA [.int .u64 v1] 0 true 256))[sid]? = some (.aA [.int .u64 v1] 0 true 256):=aw hs
obtain⟨h1,k1⟩:∃ h1,h.set sid (.aA [.int .u64 v1] 0 true 256)=h1:=⟨_,rfl⟩
rw[k1] at hs1 ⊢
refine zu ?_
apply bm (L:=[[],[0],[1],[],[3],[4],[5],[2,6],[0],[0,1,2,3,4,5,6,7,8]]) (act:=[9]) (hs:=[h1.set sid (.aA [.int .u64 _] 0 true 256)]) (resL:=[_,_,_,_,_,_,_,_,_,_]) (frF:=[(0,.val (.pointer (some ⟨sid,0,some 0⟩)))])
case hm=>exact mixed
case hc=>kernel_rfl
case ha=>rfl
case hb=>rfl
case hS=>
 refine Py hs1 ?_
 apply ay.cons
 ·rfl
 ·refine⟨?_,trivial⟩
  exact bo (r:=.sl .dH) rfl ak rfl ak ak hs1 ak rfl rfl rfl rfl
 ·rfl
 exact ay.nil _
case ht=>rfl
case hF=>exact zh
show CW _ _ ⟨_,[],h1.set sid (.aA [.int .u64 (IntKind.u64.wrap _)] 0 true 256)⟩ _
generalize IntKind.u64.wrap _=v2
have hs2:(h1.set sid (.aA [.int .u64 v2] 0 true 256))[sid]? = some (.aA [.int .u64 v2] 0 true 256):=aw hs1
obtain⟨h2,k2⟩:∃ h2,h1.set sid (.aA [.int .u64 v2] 0 true 256)=h2:=⟨_,rfl⟩
rw[k2] at hs2 ⊢
refine zu ?_
apply bm (L:=[[],[0],[1],[],[3],[4],[5],[2,6],[0],[0,1,2,3,4,5,6,7,8]]) (act:=[9]) (hs:=[h2.set sid (.aA [.int .u64 _] 0 true 256)]) (resL:=[_,_,_,_,_,_,_,_,_,_]) (frF:=[(0,.val (.pointer (some ⟨sid,0,some 0⟩)))])
case hm=>exact mixed
case hc=>kernel_rfl
case ha=>rfl
case hb=>rfl
case hS=>
 refine Py hs2 ?_
 apply ay.cons
 ·rfl
 ·refine⟨?_,trivial⟩
  exact bo (r:=.sl .dH) rfl ak rfl ak ak hs2 ak rfl rfl rfl rfl
 ·rfl
 exact ay.nil _
case ht=>rfl
case hF=>exact zh
show CW _ _ ⟨_,[],h2.set sid (.aA [.int .u64 (IntKind.u64.wrap _)] 0 true 256)⟩ _
generalize IntKind.u64.wrap _=v3
have hs3:(h2.set sid (.aA [.int .u64 v3] 0 true 256))[sid]? = some (.aA [.int .u64 v3] 0 true 256):=aw hs2
obtain⟨h3,k3⟩:∃ h3,h2.set sid (.aA [.int .u64 v3] 0 true 256)=h3:=⟨_,rfl⟩
rw[k3] at hs3 ⊢
refine aG hs3 ?_
refine ai ?_
exact⟨_,ak,v3,rfl,by rw[← k3,← k2,← k1,aM,aM]⟩}
theorem vA {Y:ah} {n:Nat} {x y:av} (h:Y.length=n):(Y++[x]).set n y=Y++[y]:=by
 subst h
 simp
theorem Dl {Y:ah} {id:Nat} {x y:av} (h:id<Y.length):(Y++[x]).set id y=Y.set id y++[x]:=List.set_append_left _ _ h
theorem Dt {Y:ah} {n:Nat} {x:av} (h:Y.length=n):(Y++[x])[n]? = some x:=by
 subst h
 simp
theorem CR {w:Int} {m:Nat} (hm:m<18446744073709551616):∃ o:Nat,IntKind.u64.wrap ((BitVec.ofInt IntKind.u64.bits w &&& BitVec.ofInt IntKind.u64.bits (m:Int)).toNat)=(o:Int)∧o≤m:=by{
have h1:(BitVec.ofInt IntKind.u64.bits (m:Int)).toNat=m:=by
 show (BitVec.ofInt 64 (m:Int)).toNat=m
 rw[BitVec.toNat_ofInt]
 omega
refine⟨(BitVec.ofInt IntKind.u64.bits w &&& BitVec.ofInt IntKind.u64.bits (m:Int)).toNat,?_,?_⟩
·refine me om ?_
 have:=(BitVec.ofInt IntKind.u64.bits w &&& BitVec.ofInt IntKind.u64.bits (m:Int)).isLt
 have e:(2:Nat) ^ IntKind.u64.bits=18446744073709551616:=rfl
 omega
·rw[BitVec.toNat_and,h1]
 exact Nat.and_le_right}
theorem Mn {h:ah} {id ar c a b:Nat} {d:Array aR} {fv:Value} (D:DA h id ar d) (h8:8≤b-a) (hb:b≤d.size) : FW env 182 [.slice (some ⟨id,0,some ar⟩) d.size c,i64 a,i64 b,fv] h fun r h'=> r = .tuple #[]∧∃ d',Go.Sort.PermIn a b d d'∧DA h' id ar d'∧h.set id (.aA (IC d') ar true 70) <+: h':=by{
have hsz:=D.n
obtain⟨l,hl⟩:∃ l,l=b-a:=⟨_,rfl⟩
obtain⟨q,hq⟩:∃ q,q=l / 4:=⟨_,rfl⟩
obtain⟨A,hA⟩:∃ A,A=a+q*2-1:=⟨_,rfl⟩
obtain⟨B,hB⟩:∃ B,B=a+q*2+1:=⟨_,rfl⟩
have e1:IntKind.i64.wrap ((b:Int)-a)=(l:Int):=by rw[ax om om];omega
have e2:IntKind.i64.wrap ((l:Int).tdiv 4)=(q:Int):=by
 have:(l:Int).tdiv 4=(q:Int):=by rw[hq];rfl
 rw[this,ax om om]
have e4:IntKind.i64.wrap ((q:Int)*2)=(q:Int)*2:=ax om om
have e5:IntKind.i64.wrap ((a:Int)+(q:Int)*2)=(a:Int)+(q:Int)*2:=ax om om
have e6:IntKind.i64.wrap ((a:Int)+(q:Int)*2-1)=(A:Int):=by rw[ax om om];omega
have e7:IntKind.i64.wrap ((a:Int)+(q:Int)*2+1)=(B:Int):=by rw[ax om om];omega
have e8:IntKind.u64.wrap (l:Int)=(l:Int):=me om om
have d1:decide (8≤(l:Int))=true:=decide_eq_true om
have hAa:a≤A:=by omega
have hBb:B<b:=by omega
have hAB:A+2=B:=by omega
have hla:l+a=b:=by omega
have hl8:8≤l:=by omega
clear hq hA hB hl
refine fe Tryz.func182 ?_;simp only[push_cast]
refine fh e1 d1 ?_
refine ae rfl ?_
refine zu ?_
iterate 2 (apply ei;·simp only[push_cast,env,Nat.reduceEqDiff,reduceIte,Nat.reduceAdd,Nat.reduceMul,Nat.reduceLeDiff,reduceCtorEq,Nat.reduceSub,Int.reduceToNat,e8]<;>exact rfl)
refine dA (t:=256) (cs:=[.int .u64 0]) ak ak ?_
dsimp only[St.a9,St.put]
refine bV ak rfl rfl ak ak aJ ak rfl rfl ?_
rw[vA rfl]
refine aC ?_
refine zj Tryz.func207 ?_
rw[List.append_nil]
refine (Ke hl8 om).mono ?_
rintro _ _ ⟨⟨m,rfl,hm0,hm⟩,rfl⟩
refine fi e2 e4 e5 e6 ?_
have hid:id<h.length:=(List.getElem?_eq_some_iff.1 D.g).1
have hsame:=fS D.g
refine fp (fun x:Nat×Int×Array aR=>B+1-x.1) (fun x=>[(0,.val (.slice (some ⟨id,0,some ar⟩) d.size c)),(1,.val (i64 a)),(8,.val (i64 l)),(9,.val (.pointer (some ⟨h.length,0,some 0⟩))),(10,.val (.int .u64 m)),(11,.val (i64 x.1))])
 (fun x=>h.set id (.aA (IC x.2.2) ar true 70)++[.aA [.int .u64 x.2.1] 0 true 256])
 (fun x=>A≤x.1∧x.1≤B+1∧Go.Sort.PermIn a b d x.2.2∧DA (h.set id (.aA (IC x.2.2) ar true 70)) id ar x.2.2) (A,(l:Int),d) aK (by simp only[hsame]) ⟨Nat.le_refl _,by simp only;omega,Go.Sort.permIn_refl _ _ _,by simp only[hsame];exact D⟩ ?_
rintro⟨x,v,dc⟩ ⟨h1,h2,h3,D1⟩
simp only at h1 h2 h3 D1 ⊢
have hsz1:dc.size=d.size:=h3.1
have hL:∀ dd:Array aR,(h.set id (.aA (IC dd) ar true 70)).length=h.length:=fun dd=>List.length_set ..
by_cases hxB:x≤B
·have d2:decide ((x:Int)≤(B:Int))=true:=decide_eq_true om
 have e9:IntKind.i64.wrap ((x:Int)+1)=(x:Int)+1:=ax om om
 have e10:IntKind.u64.wrap ((m:Int)-1)=((m-1:Nat):Int):=by rw[me om om];omega
 obtain⟨m1,hm1⟩:∃ m1,m1=m-1:=⟨_,rfl⟩
 rw[← hm1] at e10
 refine kL e2 e4 e5 e7 d2 ?_
 refine ae rfl ?_
 refine aC ?_
 refine zj Tryz.func208 ?_
 rw[List.append_nil]
 refine (Gb (v:=v) (Dt (hL _))).mono ?_
 rintro _ _ ⟨w,rfl,rfl⟩
 rw[vA (hL _)]
 obtain⟨o,ho,hom⟩:=CR (w:=w) (m:=m1) om
 have e11:IntKind.i64.wrap (o:Int)=(o:Int):=ax om om
 refine gV e10 ho e11 ?_
 refine CW.mono (Q:=fun e s'=>e = .normal∧s'.h=h.set id (.aA (IC dc) ar true 70)++[.aA [.int .u64 w] 0 true 256]∧∃ p:Nat,p<l∧bA [(0,.val (.slice (some ⟨id,0,some ar⟩) d.size c)),(1,.val (i64 a)),(8,.val (i64 l)),(9,.val (.pointer (some ⟨h.length,0,some 0⟩))),(10,.val (.int .u64 m)),(11,.val (i64 x)),(12,.val (i64 p))] s'.fr) ?_ ?_
 ·by_cases hol:l≤o
  ·have d3:decide ((l:Int)≤(o:Int))=true:=decide_eq_true om
   obtain⟨p,hp⟩:∃ p,p=o-l:=⟨_,rfl⟩
   have e12:IntKind.i64.wrap ((o:Int)-(l:Int))=(p:Int):=by rw[ax om om];omega
   refine ae (ir d3) ?_
   refine aG e12 ?_
   exact⟨rfl,rfl,p,by omega,aK⟩
  ·have d3:decide ((l:Int)≤(o:Int))=false:=decide_eq_false om
   refine af (ir d3) ?_
   refine aC ?_
   exact⟨rfl,rfl,o,by omega,aK⟩
 rintro e s' ⟨rfl,hh,p,hpl,hf⟩
 show CW _ _ _ _
 refine aB _ hf ?_
 rw[hh]
 clear hf hh
 obtain⟨y,hy⟩:∃ y,y=a+p:=⟨_,rfl⟩
 have e13:IntKind.i64.wrap ((a:Int)+(p:Int))=(y:Int):=by rw[ax om om];omega
 have e14:IntKind.i64.wrap ((p:Int)+(a:Int))=(y:Int):=by rw[ax om om];omega
 have hx1:x<dc.size:=by omega
 have hy1:y<dc.size:=by omega
 have gx:=bD hx1
 have gy:=bD hy1
 have rx:=cg (k:=x) (n:=d.size) om
 have ry:=cg (k:=y) (n:=d.size) om
 obtain⟨hc,hhc⟩:∃ hc,h.set id (.aA (IC dc) ar true 70)++[.aA [.int .u64 w] 0 true 256]=hc:=⟨_,rfl⟩
 have hg:hc[id]? = some (.aA (IC dc) ar true 70):=by rw[← hhc];exact bg D1.g
 rw[hhc]
 refine aC ?_
 apply bm (L:=[[],[],[],[],[],[3,4],[],[],[],[7,8],[6,7,8,9],[6,7,8,9,10],[],[],[12,13],[12,13,14],[0,1],[0,1,6,7,8,9,10,11,12,13,14,15,16],[2,3,4,5],[0,1,2,3,4,5,6,7,8,9,10,11,12,13,14,15,16,17,18]]) (act:=[17,19]) (hs:=[hc.set id (.aA (IC (dc.setIfInBounds x dc[y]!)) ar true 70),hc.set id (.aA (IC (Go.Sort.swp dc x y)) ar true 70)]) (resL:=[_,_,_,_,_,_,_,_,_,_,_,_,_,_,_,_,_,_,_,_]) (frF:=[(0,.val (.slice (some ⟨id,0,some ar⟩) d.size c)),(1,.val (i64 a)),(8,.val (i64 l)),(9,.val (.pointer (some ⟨h.length,0,some 0⟩))),(10,.val (.int .u64 m)),(11,.val (i64 x))])
 case hm=>exact mixed
 case hc=>kernel_rfl
 case ha=>rfl
 case hb=>rfl
 case hS=>
  refine K7 hg gx gy rx ry e13 e14 Nat.mul_one ?_
  apply ay.cons
  ·rfl
  ·refine⟨?_,trivial⟩
   exact bo (r:=.sl .dH) rfl ak rfl ak ak hg ak rfl (cS (d:=dc) (i:=x) (x:=dc[y]!) hx1) rfl rfl
  ·rfl
  refine K7 hg gx gy rx ry e13 e14 Nat.mul_one ?_
  apply ay.cons
  ·rfl
  ·refine⟨?_,trivial⟩
   exact bo (r:=.sl .dH) rfl ak rfl ak ak (aw hg) ak rfl (cS (d:=dc.setIfInBounds x dc[y]!) (i:=y) (x:=dc[x]!) (by simpa using hy1)) rfl aM.symm
  ·rfl
  exact ay.nil _
 case ht=>rfl
 case hF=>exact zh
 show CW _ _ _ _
 refine aG e9 ?_
 refine⟨(x+1,w,Go.Sort.swp dc x y),by simp only;omega,aK,?_,by simp only;omega,by simp only;omega,?_,?_⟩
 ·simp only
  show hc.set id _=_
  rw[← hhc,Dl (by rw[hL];exact hid),aM]
 ·exact Go.Sort.permIn_trans _ _ _ a b h3 (Go.Sort.swp_permIn _ a b x y om om om om om)
 ·have:=D1.swp hx1 hy1
  rw[aM] at this
  exact this
·have d2:decide ((x:Int)≤(B:Int))=false:=decide_eq_false om
 refine kL e2 e4 e5 e7 d2 ?_
 refine af rfl ?_
 refine az ?_
 exact⟨_,ak,rfl,dc,h3,⟨bg D1.g,D1.n,D1.b⟩,List.prefix_append _ _⟩}
end Go.Proofs.YtmdmimkbpikmoaaGreat
