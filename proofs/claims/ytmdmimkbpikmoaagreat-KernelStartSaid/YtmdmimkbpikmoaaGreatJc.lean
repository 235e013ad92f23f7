/- KernelStart returns true for every input, and its arguments read as they did. No conditions. -/
import Derived.Test.YtmdmimkbpikmoaaGreatZWm
import Derived.Test.YtmdmimkbpikmoaaGreatZG5
namespace Go.Proofs.YtmdmimkbpikmoaaGreat
set_option linter.unusedSimpArgs false
set_option linter.unusedVariables false
set_option maxRecDepth 20000
open Go.ChangeShapes Go.WideShapes Go.ChangeAt Go.RowKit Am Ty
set_option maxRecDepth 100000 in
theorem oq {h:ai}:∀ {avs:List Value},ph Tryz.prog h [28,9] avs→FW env 10 avs h fun r _=>r = .bool true
 | [a,b],⟨h0,h1,_⟩=>by
   obtain⟨d,⟨up,uc,uf,ur,ub,rfl,hd⟩,hw⟩:=H6 h0
   obtain⟨s,rfl,hs⟩:=GX h1
   exact sL hd hw hs
namespace Jc
set_option maxRecDepth 100000 in
theorem lifted (os:Os) (started:os.Started) (H:Type) (enc:TypeId×Value→H) : ReturnsInHanded {} Tryz.checked os 10 .any (Rows.kernelStartSpec.pre6 enc Tryz.prog Tryz.f10 Rows.kernelStartRow.domain false) (Rows.kernelStartSpec.post enc Tryz.prog Tryz.f10 false true false false):=by{
refine returnsInHanded_of_change_sized (C:=Tryz.checked) own started kr Tryz.func10
 (ChangeSpec.witness6 (enc:=enc) (C:=Tryz.checked) false ⟨#[],#[.agg #[.string ⟨#[]⟩,.string ⟨#[]⟩,.slice none 0 0,.slice none 0 0,.slice none 0 0,.slice none 0 0,.slice none 0 0],.string ⟨#[]⟩],[]⟩ 8 kr kr kr kr) ?_
intro W base args ds gs before hval0 hW hcnd hsz0 _
have hsz:(DataW.weightsEach Tryz.prog (Tryz.f10.params.toList++Rows.kernelStartSpec.plain.varTypes Tryz.prog) (ds++gs)).all (·≤reachBytes)=true:=hsz0
have hval:∀ (j:Nat) t v,Tryz.f10.params[j]? = some t→args[j]? = some v→Value.okWide Tryz.prog W .any base t v:=hval0
have hW':=hW
obtain⟨p,q,hA0,hV,rfl,hfz,hnd⟩:=hW
have hA:DataW.TrodAll enc Tryz.prog W 0 (fun _=>true) true Tryz.f10.params.toList args.toList ds p:=hA0
have hpar:Tryz.f10.params.toList=[28,9]:=by rw[Tryz.params10]
rw[hpar] at hA hsz
obtain⟨v0,vs0,d0,ds0,p0,q0,hargs,rfl,rfl,k0,r0⟩:=trodAll_cons hA
obtain⟨v1,vs1,d1,ds1,p1,q1,rfl,rfl,rfl,k1,r1⟩:=trodAll_cons r0
obtain⟨rfl,rfl,rfl⟩:=trodAll_nil r1
obtain⟨rfl,rfl⟩:=trodVars_none hV
clear hA0 hval0 hsz0
refine (zI (f:=10) (ts:=Ad) (tys:=[28,9]) Cu (by decide) (fun h avs k=>oq k) (fun j t v e1 e2=>hval j t v (by rw[← Array.getElem?_toList,hpar];exact e1) (by rw[← Array.getElem?_toList];exact e2)) hA ?_).mono fun e W' ⟨he,bel⟩=>?_
·intro i t d e1 e2
 have hlt:i<[28,9].length:=(List.getElem?_eq_some_iff.1 e1).1
 exact j7 hsz i t d (by rw[List.getElem?_append_left hlt];exact e1) (by rw[List.append_nil];exact e2)
subst he
exact⟨_,rfl,_,_,_,[],_,[],hW',trodAll_mk1 (shut_bool Tryz.underlying4 _),(by rw[hpar];exact zp bel kr hA),rfl,bel.frame _,fun h=>by cases h⟩}
theorem over:Rows.kernelStartRow.holds Tryz.pinned (OpenSpec.ofChange Rows.kernelStartSpec):=
 OpenClaim.holds_of_wide 10 Tryz.f10 rfl rfl rfl rfl rfl rfl rfl ⟨rfl,rfl,rfl,rfl,rfl⟩ rfl rfl rfl rfl rfl kr Tryz.func10 kr
  (of_decide_eq_true kr) (by unfold Func.isWrapper;first|(rw[if_pos (by decide +kernel)];kernel_rfl) | (rw[if_neg (by decide +kernel)];exact⟨rfl,rfl⟩))
  (fun os started H enc _=>lifted os started H enc)
end Jc
theorem kernelStart_holds:Rows.KernelStartSaid:=Jc.over
#print axioms kernelStart_holds
end Go.Proofs.YtmdmimkbpikmoaaGreat
