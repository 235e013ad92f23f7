/- EarleyCharts returns true for every input, and its arguments read as they did. No conditions. -/
import Derived.Test.YtafncpgiibikcaaZSd
import Derived.Test.YtafncpgiibikcaaZE6
namespace Go.Proofs.Ytafncpgiibikcaa
set_option linter.unusedSimpArgs false
set_option linter.unusedVariables false
open Go.ChangeShapes Go.WideShapes Go.ChangeAt Go.RowKit Am Ty
set_option maxRecDepth 100000 in
theorem earleycharts_args {h : Heap} : ∀ {avs : List Value}, AllRd Try.prog h [24, 25] avs → FW env 9 avs h fun r _ => r = .bool true
  | [a, b], ⟨h0, h1, _⟩ => by
    obtain ⟨g, hg, w1, _, w3⟩ := rda_gram h0
    obtain ⟨w1', hw1⟩ := rda_bytes h1
    exact earleycharts_fw hg hw1 (nts_wf w1) w3
namespace Ll
set_option maxRecDepth 100000 in
theorem lifted (os : Os) (started : os.Started) (H : Type) (enc : TypeId × Value → H) :
    ReturnsInHanded {} Try.checked os 9 .any (Rows.earleyChartsSpec.pre6 enc Try.prog Try.f9 Rows.earleyChartsRow.domain false) (Rows.earleyChartsSpec.post enc Try.prog Try.f9 false true false false) := by
  refine returnsInHanded_of_change_sized (C := Try.checked) own started (by kernel_rfl) Try.func9
    (ChangeSpec.witness6 (enc := enc) (C := Try.checked) false ⟨#[], #[.agg #[.int .i64 0, .int .i64 0, .slice none 0 0], .slice none 0 0], []⟩ 8 (by kernel_rfl) (by kernel_rfl) (by kernel_rfl) (by kernel_rfl)) ?_
  intro W base args ds gs before hval0 hW hcnd hsz0 _
  have hsz : (DataW.weightsEach Try.prog (Try.f9.params.toList ++ Rows.earleyChartsSpec.plain.varTypes Try.prog) (ds ++ gs)).all (· ≤ reachBytes) = true := hsz0
  have hval : ∀ (j : Nat) t v, Try.f9.params[j]? = some t → args[j]? = some v → Value.okWide Try.prog W .any base t v := hval0
  have hW' := hW
  obtain ⟨p, q, hA0, hV, rfl, hfz, hnd⟩ := hW
  have hA : DataW.TrodAll enc Try.prog W 0 (fun _ => true) true Try.f9.params.toList args.toList ds p := hA0
  have hpar : Try.f9.params.toList = [24, 25] := by rw [Try.params9]
  rw [hpar] at hA hsz
  obtain ⟨v0, vs0, d0, ds0, p0, q0, hargs, rfl, rfl, k0, r0⟩ := trodAll_cons hA
  obtain ⟨v1, vs1, d1, ds1, p1, q1, rfl, rfl, rfl, k1, r1⟩ := trodAll_cons r0
  obtain ⟨rfl, rfl, rfl⟩ := trodAll_nil r1
  obtain ⟨rfl, rfl⟩ := trodVars_none hV
  clear hA0 hval0 hsz0
  refine (calls_args (f := 9) (ts := textTs) (tys := [24, 25]) textTs_ok (by decide) (fun h avs k => earleycharts_args k) (fun j t v e1 e2 => hval j t v (by rw [← Array.getElem?_toList, hpar]; exact e1) (by rw [← Array.getElem?_toList]; exact e2)) hA ?_).mono fun e W' ⟨he, bel⟩ => ?_
  · intro i t d e1 e2
    have hlt : i < [24, 25].length := (List.getElem?_eq_some_iff.1 e1).1
    exact weights_each hsz i t d (by rw [List.getElem?_append_left hlt]; exact e1) (by rw [List.append_nil]; exact e2)
  subst he
  exact ⟨_, rfl, _, _, _, [], _, [], hW', trodAll_mk1 (shut_bool Try.underlying4 _), (by rw [hpar]; exact below_all' bel (by kernel_rfl) hA), rfl, bel.frame _, fun h => by cases h⟩
theorem over : Rows.earleyChartsRow.holds Try.pinned (OpenSpec.ofChange Rows.earleyChartsSpec) :=
  OpenClaim.holds_of_wide 9 Try.f9 rfl rfl rfl rfl rfl rfl rfl ⟨rfl, rfl, rfl, rfl, rfl⟩ rfl rfl rfl rfl rfl (by kernel_rfl) Try.func9 (by kernel_rfl)
    (of_decide_eq_true (by kernel_rfl)) (by unfold Func.isWrapper; first | (rw [if_pos (by decide +kernel)]; kernel_rfl) | (rw [if_neg (by decide +kernel)]; exact ⟨rfl, rfl⟩))
    (fun os started H enc _ => lifted os started H enc)
end Ll
theorem earleyCharts_holds : Rows.EarleyChartsSaid := Ll.over
#print axioms earleyCharts_holds
end Go.Proofs.Ytafncpgiibikcaa
