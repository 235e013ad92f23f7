/- KernelLiterals returns true for every input, and its arguments read as they did. No conditions. -/
import Derived.Test.YtmdmimkbpikmoaaGreatZWo
import Derived.Test.YtmdmimkbpikmoaaGreatZG5
namespace Go.Proofs.YtmdmimkbpikmoaaGreat
set_option linter.unusedSimpArgs false
set_option linter.unusedVariables false
set_option maxRecDepth 20000
open Go.ChangeShapes Go.WideShapes Go.ChangeAt Go.RowKit Am Ty
theorem BO {h:ah} {a:Value} (k:Mj Tryz.prog h 36 a):∃ l,bh h a l∧∀ s∈l,s.size≤140737488355328:=by{
obtain⟨n,vs,k,⟨h1,_⟩ | ⟨_,rfl⟩⟩:=k
·have:kL Tryz.prog 36=false:=by kernel_rfl
 rw[this] at h1
 cases h1
·obtain⟨u,l,e,hu,hs⟩:=DT k
 obtain rfl:a=u:=by simpa using e
 exact⟨l,hu,hs⟩}
set_option maxRecDepth 100000 in
theorem lM {h:ah}:∀ {avs:List Value},o7 Tryz.prog h [36] avs→FW env 8 avs h fun r _=>r = .bool true
 | [a],⟨h0,_⟩=>by
   obtain⟨l,hl,hs⟩:=BO h0
   exact nz hl hs
namespace Je
set_option maxRecDepth 100000 in
theorem lifted (os:Os) (started:os.Started) (H:Type) (enc:TypeId×Value→H) : ReturnsInHanded {} Tryz.checked os 8 .any (Rows.kernelLiteralsSpec.pre6 enc Tryz.prog Tryz.f8 Rows.kernelLiteralsRow.domain false) (Rows.kernelLiteralsSpec.post enc Tryz.prog Tryz.f8 false true false false):=by{
refine returnsInHanded_of_change_sized (C:=Tryz.checked) own started kr Tryz.func8
 (ChangeSpec.witness6 (enc:=enc) (C:=Tryz.checked) false ⟨#[],#[.slice none 0 0],[]⟩ 8 kr kr kr kr) ?_
intro W base args ds gs before hval0 hW hcnd hsz0 _
have hsz:(DataW.weightsEach Tryz.prog (Tryz.f8.params.toList++Rows.kernelLiteralsSpec.plain.varTypes Tryz.prog) (ds++gs)).all (·≤reachBytes)=true:=hsz0
have hval:∀ (j:Nat) t v,Tryz.f8.params[j]? = some t→args[j]? = some v→Value.okWide Tryz.prog W .any base t v:=hval0
have hW':=hW
obtain⟨p,q,hA0,hV,rfl,hfz,hnd⟩:=hW
have hA:DataW.TrodAll enc Tryz.prog W 0 (fun _=>true) true Tryz.f8.params.toList args.toList ds p:=hA0
have hpar:Tryz.f8.params.toList=[36]:=by rw[Tryz.params8]
rw[hpar] at hA hsz
obtain⟨v0,vs0,d0,ds0,p0,q0,hargs,rfl,rfl,k0,r0⟩:=trodAll_cons hA
obtain⟨rfl,rfl,rfl⟩:=trodAll_nil r0
obtain⟨rfl,rfl⟩:=trodVars_none hV
clear hA0 hval0 hsz0
refine (zC (f:=8) (ts:=yN) (tys:=[36]) AP (by decide) (fun h avs k=>lM k) (fun j t v e1 e2=>hval j t v (by rw[← Array.getElem?_toList,hpar];exact e1) (by rw[← Array.getElem?_toList];exact e2)) hA ?_).mono fun e W' ⟨he,bel⟩=>?_
·intro i t d e1 e2
 have hlt:i<[36].length:=(List.getElem?_eq_some_iff.1 e1).1
 exact jQ hsz i t d (by rw[List.getElem?_append_left hlt];exact e1) (by rw[List.append_nil];exact e2)
subst he
exact⟨_,rfl,_,_,_,[],_,[],hW',trodAll_mk1 (shut_bool Tryz.underlying4 _),(by rw[hpar];exact yB bel kr hA),rfl,bel.frame _,fun h=>by cases h⟩}
theorem over:Rows.kernelLiteralsRow.holds Tryz.pinned (OpenSpec.ofChange Rows.kernelLiteralsSpec):=
 OpenClaim.holds_of_wide 8 Tryz.f8 rfl rfl rfl rfl rfl rfl rfl ⟨rfl,rfl,rfl,rfl,rfl⟩ rfl rfl rfl rfl rfl kr Tryz.func8 kr
  (of_decide_eq_true kr) (by unfold Func.isWrapper;first|(rw[if_pos (by decide +kernel)];kernel_rfl) | (rw[if_neg (by decide +kernel)];exact⟨rfl,rfl⟩))
  (fun os started H enc _=>lifted os started H enc)
end Je
theorem kernelLiterals_holds:Rows.KernelLiteralsSaid:=Je.over
#print axioms kernelLiterals_holds
end Go.Proofs.YtmdmimkbpikmoaaGreat
