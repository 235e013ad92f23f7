/- FactsRight returns true for every input, and its argument reads as it did. No conditions. -/
import Derived.Test.YtnlchlnkibpkaaaRows
import Derived.Test.YtnlchlnkibpkaaaFh
import Derived.Test.YtnlchlnkibpkaaaBr
import Derived.Test.YtnlchlnkibpkaaaEq
import Derived.WalkKit
import Derived.ProofKit
import Derived.OpenShut
import Derived.ChangeOld
import Derived.Below
import Derived.Carry
import Derived.SizedLaws
namespace Go.Proofs.Ytnlchlnkibpkaaa
set_option linter.unusedSimpArgs false
set_option linter.unusedVariables false
open Go.ChangeShapes Go.WideShapes Go.ChangeAt Go.RowKit Am Ty

theorem own : ownKnob Try.prog.godebug = none := by kernel_rfl
theorem laidOut : laidOutB Try.prog = true := by kernel_rfl
def gramTs : List TypeId := [24, 3, 22, 48, 46, 56, 45, 43]
theorem gramTs_ok : gramTs.all (kindB Try.prog gramTs) = true := by kernel_rfl
theorem noOwn_below {μ : Mu} {h : Heap} {W w' : World} (hn : noOwn h) (k : FrW (OwnB μ h) W w') : Below W.heap.size W w' :=
  ⟨k.os, k.tape, k.output, k.size, fun i hi => k.block i hi fun ⟨_, _, _, _, _, h1, _⟩ => by have := hn _ _ _ _ _ h1; cases this⟩
/-- a call of one grammar that yields true -/
theorem calls_gram {H : Type} {enc : TypeId × Value → H} {f : FuncId} {W : World} {base : Nat} {v : Value} {d : DataW H} {p : List MemPlace}
    (hf : ∀ (h : Heap) (g : Gram) (x : Value), RdGram h x g → (Lit.int .i64 g.nts).wf = true → (Lit.int .i64 g.start).wf = true → FW env f [x] h fun r _ => r = .bool true)
    (hval : Value.okWide Try.prog W .any base 24 v) (h0 : DataW.Trod enc Try.prog W 0 (fun _ => true) true 24 v d p) (hw : (d.weights Try.prog 24).all (fun b => decide (b ≤ reachBytes)) = true) :
    Calls Try.prog f #[v] W fun e W' => e = .returned (.bool true) ∧ Below W.heap.size W W' := by
  have hu : Try.prog.underlying 24 = some (.struct (Try.prog.fieldsOf 24)) := by kernel_rfl
  unfold Value.okWide at hval
  rw [hu] at hval
  obtain ⟨cs, rfl, _, _⟩ := hval
  obtain ⟨n, hn⟩ := h0
  obtain ⟨μ, h, vs, _, _, H, hno, hv, _, hr⟩ := tells_trod gramTs_ok n _ _ _ (by simp [gramTs]) hn hw [] [] ⟨rfl, fun id c v o t h1 => by simp at h1, fun a b c1 c2 v1 v2 o e1 e2 m1 m2 _ h1 => by simp at h1⟩ (fun id c v o e h1 => by simp at h1)
  obtain ⟨g, hg, w1, w2⟩ := rd_gram hr
  have k := hf h g _ hg w1 w2
  unfold FW at k
  obtain ⟨r, h', k1, rfl⟩ := k
  refine (Ev.calls env_ok k1 μ W #[.agg cs] H ⟨VRL.agg hv, trivial⟩).mono fun e W' ⟨μ', r', he, hvr, _, _, hfr, _, _⟩ => ?_
  exact ⟨by rw [he, VR.bool hvr], noOwn_below hno hfr⟩
namespace L1
set_option maxRecDepth 100000 in
theorem lifted (os : Os) (started : os.Started) (H : Type) (enc : TypeId × Value → H) :
    ReturnsInHanded {} Try.checked os 3 .any (Rows.factsRightSpec.pre6 enc Try.prog Try.f3 Rows.factsRightRow.domain false) (Rows.factsRightSpec.post enc Try.prog Try.f3 false true false false) := by
  refine returnsInHanded_of_change_sized (C := Try.checked) own started (by kernel_rfl) Try.func3
    (ChangeSpec.witness6 (enc := enc) (C := Try.checked) false ⟨#[], #[.agg #[.int .i64 0, .int .i64 0, .slice none 0 0]], []⟩ 8 (by kernel_rfl) (by kernel_rfl) (by kernel_rfl) (by kernel_rfl)) ?_
  intro W base args ds gs before hval0 hW hcnd hsz0 _
  have hsz : (DataW.weightsEach Try.prog (Try.f3.params.toList ++ Rows.factsRightSpec.plain.varTypes Try.prog) (ds ++ gs)).all (· ≤ reachBytes) = true := hsz0
  have hval : ∀ (j : Nat) t v, Try.f3.params[j]? = some t → args[j]? = some v → Value.okWide Try.prog W .any base t v := hval0
  have hW' := hW
  obtain ⟨p, q, hA0, hV, rfl, hfz, hnd⟩ := hW
  have hA : DataW.TrodAll enc Try.prog W 0 (fun _ => true) true Try.f3.params.toList args.toList ds p := hA0
  rw [Try.params3] at hA hval hsz
  obtain ⟨v0, vs0, d0, ds0, p0, q0, hargs, rfl, rfl, h0, r0⟩ := trodAll_cons hA
  obtain ⟨rfl, rfl, rfl⟩ := trodAll_nil r0
  obtain rfl : args = #[v0] := by cases args; simp_all
  obtain ⟨rfl, rfl⟩ := trodVars_none hV
  have hw : (d0.weights Try.prog 24).all (fun b => decide (b ≤ reachBytes)) = true := weights_each hsz 0 24 d0 rfl rfl
  have lt0 : ∀ x ∈ p0, x.block < W.heap.size := by obtain ⟨m, hm⟩ := h0; exact DataW.trod_lt m _ _ _ hm
  clear hA0 hval0 hsz0 hsz
  refine (calls_gram (f := 3) (fun h g x hg w1 w2 => factsright_fw hg ?_) (hval 0 24 v0 rfl rfl) h0 hw).mono fun e W' ⟨he, bel⟩ => ?_
  · have h1 := w1
    simp only [Lit.wf, Bool.and_eq_true, decide_eq_true_eq] at h1
    have h2 : IntKind.i64.min = -9223372036854775808 := by decide
    omega
  · subst he
    exact ⟨_, rfl, _, _, _, [], _, [], hW', trodAll_mk1 (shut_bool Try.underlying4 _), (trodAll_cons_mk (Below.trod laidOut (by kernel_rfl) (of_decide_eq_true (by kernel_rfl)) h0 bel lt0) trodAll_mk0), rfl, bel.frame _, fun h => by cases h⟩
theorem over : Rows.factsRightRow.holds Try.pinned (OpenSpec.ofChange Rows.factsRightSpec) :=
  OpenClaim.holds_of_wide 3 Try.f3 rfl rfl rfl rfl rfl rfl rfl ⟨rfl, rfl, rfl, rfl, rfl⟩ rfl rfl rfl rfl rfl (by kernel_rfl) Try.func3 (by kernel_rfl)
    (of_decide_eq_true (by kernel_rfl)) (by unfold Func.isWrapper; first | (rw [if_pos (by decide +kernel)]; kernel_rfl) | (rw [if_neg (by decide +kernel)]; exact ⟨rfl, rfl⟩))
    (fun os started H enc _ => lifted os started H enc)
end L1
theorem factsRight_holds : Rows.FactsRightSaid := L1.over
#print axioms factsRight_holds
end Go.Proofs.Ytnlchlnkibpkaaa
