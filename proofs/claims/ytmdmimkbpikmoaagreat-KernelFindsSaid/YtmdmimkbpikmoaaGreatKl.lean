/- KernelFinds returns true for every input, and its arguments read as they did. No conditions. -/
import Derived.Test.YtmdmimkbpikmoaaGreatZG5
namespace Go.Proofs.YtmdmimkbpikmoaaGreat
set_option linter.unusedSimpArgs false
set_option linter.unusedVariables false
set_option maxRecDepth 20000
open Go.ChangeShapes Go.WideShapes Go.ChangeAt Go.RowKit Am Ty
set_option maxRecDepth 100000 in
theorem kernelfinds_args {h : Heap} : ∀ {avs : List Value}, AllRd Tryz.prog h [43, 9, 3] avs → FW env 4 avs h fun r _ => r = .bool true
  | [a, b, c], ⟨h0, h1, h2, _⟩ => by
    obtain ⟨fr, l, hk⟩ := rda_kern0 h0
    obtain ⟨s, rfl, hs⟩ := rda_str h1
    obtain ⟨i, rfl, _⟩ := rda_int h2
    exact kernelfinds_fw hk hs
namespace Kl
set_option maxRecDepth 100000 in
theorem lifted (os : Os) (started : os.Started) (H : Type) (enc : TypeId × Value → H) :
    ReturnsInHanded {} Tryz.checked os 4 .any (Rows.kernelFindsSpec.pre6 enc Tryz.prog Tryz.f4 Rows.kernelFindsRow.domain false) (Rows.kernelFindsSpec.post enc Tryz.prog Tryz.f4 false true false false) := by
  refine returnsInHanded_of_change_sized (C := Tryz.checked) own started (by kernel_rfl) Tryz.func4
    (ChangeSpec.witness6 (enc := enc) (C := Tryz.checked) false ⟨#[], #[.agg #[.string ⟨#[]⟩, .string ⟨#[]⟩, .slice none 0 0, .slice none 0 0, .slice none 0 0, .slice none 0 0, .slice none 0 0, .int .i64 0, .int .i64 0, .slice none 0 0, .slice none 0 0, .slice none 0 0, .slice none 0 0, .slice none 0 0, .slice none 0 0], .string ⟨#[]⟩, .int .i64 0], []⟩ 8 (by kernel_rfl) (by kernel_rfl) (by kernel_rfl) (by kernel_rfl)) ?_
  intro W base args ds gs before hval0 hW hcnd hsz0 _
  have hsz : (DataW.weightsEach Tryz.prog (Tryz.f4.params.toList ++ Rows.kernelFindsSpec.plain.varTypes Tryz.prog) (ds ++ gs)).all (· ≤ reachBytes) = true := hsz0
  have hval : ∀ (j : Nat) t v, Tryz.f4.params[j]? = some t → args[j]? = some v → Value.okWide Tryz.prog W .any base t v := hval0
  have hW' := hW
  obtain ⟨p, q, hA0, hV, rfl, hfz, hnd⟩ := hW
  have hA : DataW.TrodAll enc Tryz.prog W 0 (fun _ => true) true Tryz.f4.params.toList args.toList ds p := hA0
  have hpar : Tryz.f4.params.toList = [43, 9, 3] := by rw [Tryz.params4]
  rw [hpar] at hA hsz
  obtain ⟨v0, vs0, d0, ds0, p0, q0, hargs, rfl, rfl, k0, r0⟩ := trodAll_cons hA
  obtain ⟨v1, vs1, d1, ds1, p1, q1, rfl, rfl, rfl, k1, r1⟩ := trodAll_cons r0
  obtain ⟨v2, vs2, d2, ds2, p2, q2, rfl, rfl, rfl, k2, r2⟩ := trodAll_cons r1
  obtain ⟨rfl, rfl, rfl⟩ := trodAll_nil r2
  obtain ⟨rfl, rfl⟩ := trodVars_none hV
  clear hA0 hval0 hsz0
  refine (calls_args (f := 4) (ts := kernTs) (tys := [43, 9, 3]) kernTs_ok (by decide) (fun h avs k => kernelfinds_args k) (fun j t v e1 e2 => hval j t v (by rw [← Array.getElem?_toList, hpar]; exact e1) (by rw [← Array.getElem?_toList]; exact e2)) hA ?_).mono fun e W' ⟨he, bel⟩ => ?_
  · intro i t d e1 e2
    have hlt : i < [43, 9, 3].length := (List.getElem?_eq_some_iff.1 e1).1
    exact weights_each hsz i t d (by rw [List.getElem?_append_left hlt]; exact e1) (by rw [List.append_nil]; exact e2)
  subst he
  exact ⟨_, rfl, _, _, _, [], _, [], hW', trodAll_mk1 (shut_bool Tryz.underlying4 _), (by rw [hpar]; exact below_all' bel (by kernel_rfl) hA), rfl, bel.frame _, fun h => by cases h⟩
theorem over : Rows.kernelFindsRow.holds Tryz.pinned (OpenSpec.ofChange Rows.kernelFindsSpec) :=
  OpenClaim.holds_of_wide 4 Tryz.f4 rfl rfl rfl rfl rfl rfl rfl ⟨rfl, rfl, rfl, rfl, rfl⟩ rfl rfl rfl rfl rfl (by kernel_rfl) Tryz.func4 (by kernel_rfl)
    (of_decide_eq_true (by kernel_rfl)) (by unfold Func.isWrapper; first | (rw [if_pos (by decide +kernel)]; kernel_rfl) | (rw [if_neg (by decide +kernel)]; exact ⟨rfl, rfl⟩))
    (fun os started H enc _ => lifted os started H enc)
end Kl
theorem kernelFinds_holds : Rows.KernelFindsSaid := Kl.over
#print axioms kernelFinds_holds
end Go.Proofs.YtmdmimkbpikmoaaGreat
