/- FactsKernel returns true for every input, and its arguments read as they did. No conditions. -/
import Derived.Test.YtmdmimkbpikmoaaGreatZG11
import Derived.Test.YtmdmimkbpikmoaaGreatZG5
namespace Go.Proofs.YtmdmimkbpikmoaaGreat
set_option linter.unusedSimpArgs false
set_option linter.unusedVariables false
set_option maxRecDepth 20000
open Go.ChangeShapes Go.WideShapes Go.ChangeAt Go.RowKit Am Ty
set_option maxRecDepth 100000 in
theorem o0 {h:ah}:∀ {avs:List Value},qj Tryz.prog h [28] avs→FW env 11 avs h fun r _=>r = .bool true
 | [a],⟨h0,_⟩=>by
   obtain⟨d,⟨up,uc,uf,ur,ub,rfl,hd⟩,hw⟩:=HJ h0
   exact tA hd hw
namespace Jf
set_option maxRecDepth 100000 in
theorem lifted (os:Os) (started:os.Started) (H:Type) (enc:TypeId×Value→H) : ReturnsInHanded {} Tryz.checked os 11 .any (Rows.factsKernelSpec.pre6 enc Tryz.prog Tryz.f11 Rows.factsKernelRow.domain false) (Rows.factsKernelSpec.post enc Tryz.prog Tryz.f11 false true false false):=by{
refine returnsInHanded_of_change_sized (C:=Tryz.checked) own started kr Tryz.func11
 (ChangeSpec.witness6 (enc:=enc) (C:=Tryz.checked) false ⟨#[],#[.agg #[.string ⟨#[]⟩,.string ⟨#[]⟩,.slice none 0 0,.slice none 0 0,.slice none 0 0,.slice none 0 0,.slice none 0 0]],[]⟩ 8 kr kr kr kr) ?_
intro W base args ds gs before hval0 hW hcnd hsz0 _
have hsz:(DataW.weightsEach Tryz.prog (Tryz.f11.params.toList++Rows.factsKernelSpec.plain.varTypes Tryz.prog) (ds++gs)).all (·≤reachBytes)=true:=hsz0
have hval:∀ (j:Nat) t v,Tryz.f11.params[j]? = some t→args[j]? = some v→Value.okWide Tryz.prog W .any base t v:=hval0
have hW':=hW
obtain⟨p,q,hA0,hV,rfl,hfz,hnd⟩:=hW
have hA:DataW.TrodAll enc Tryz.prog W 0 (fun _=>true) true Tryz.f11.params.toList args.toList ds p:=hA0
have hpar:Tryz.f11.params.toList=[28]:=by rw[Tryz.params11]
rw[hpar] at hA hsz
obtain⟨v0,vs0,d0,ds0,p0,q0,hargs,rfl,rfl,k0,r0⟩:=trodAll_cons hA
obtain⟨rfl,rfl,rfl⟩:=trodAll_nil r0
obtain⟨rfl,rfl⟩:=trodVars_none hV
clear hA0 hval0 hsz0
refine (AE (f:=11) (ts:=A2) (tys:=[28]) Du (by decide) (fun h avs k=>o0 k) (fun j t v e1 e2=>hval j t v (by rw[← Array.getElem?_toList,hpar];exact e1) (by rw[← Array.getElem?_toList];exact e2)) hA ?_).mono fun e W' ⟨he,bel⟩=>?_
·intro i t d e1 e2
 have hlt:i<[28].length:=(List.getElem?_eq_some_iff.1 e1).1
 exact ky hsz i t d (by rw[List.getElem?_append_left hlt];exact e1) (by rw[List.append_nil];exact e2)
subst he
exact⟨_,rfl,_,_,_,[],_,[],hW',trodAll_mk1 (shut_bool Tryz.underlying4 _),(by rw[hpar];exact Ba bel kr hA),rfl,bel.frame _,fun h=>by cases h⟩}
theorem over:Rows.factsKernelRow.holds Tryz.pinned (OpenSpec.ofChange Rows.factsKernelSpec):=
 OpenClaim.holds_of_wide 11 Tryz.f11 rfl rfl rfl rfl rfl rfl rfl ⟨rfl,rfl,rfl,rfl,rfl⟩ rfl rfl rfl rfl rfl kr Tryz.func11 kr
  (of_decide_eq_true kr) (by unfold Func.isWrapper;first|(rw[if_pos (by decide +kernel)];kernel_rfl) | (rw[if_neg (by decide +kernel)];exact⟨rfl,rfl⟩))
  (fun os started H enc _=>lifted os started H enc)
end Jf
theorem factsKernel_holds:Rows.FactsKernelSaid:=Jf.over
#print axioms factsKernel_holds
end Go.Proofs.YtmdmimkbpikmoaaGreat
