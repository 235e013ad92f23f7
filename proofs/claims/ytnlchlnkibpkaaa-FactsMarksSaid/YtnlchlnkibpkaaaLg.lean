/- What a law of one grammar asks of its rows, out of the abstract machine. -/
import Derived.Test.YtnlchlnkibpkaaaRows
import Derived.Test.YtnlchlnkibpkaaaBr
import Derived.Test.YtnlchlnkibpkaaaEq
import Derived.WalkKit
import Derived.ProofKit
import Derived.OpenShut
import Derived.ChangeOld
import Derived.Below
import Derived.Carry
import Derived.SizedLaws
namespace Go.Proofs.Ytnlchlnkibpkaaa
set_option linter.unusedSimpArgs false
set_option linter.unusedVariables false
open Go.ChangeShapes Go.WideShapes Go.ChangeAt Go.RowKit Am Ty

theorem own : ownKnob Try.prog.godebug = none := by kernel_rfl
theorem laidOut : laidOutB Try.prog = true := by kernel_rfl
def gramTs : List TypeId := [24, 3, 22, 48, 46, 56, 45, 43]
theorem gramTs_ok : gramTs.all (kindB Try.prog gramTs) = true := by kernel_rfl
theorem noOwn_below {μ : Mu} {h : Heap} {W w' : World} (hn : noOwn h) (k : FrW (OwnB μ h) W w') : Below W.heap.size W w' :=
  ⟨k.os, k.tape, k.output, k.size, fun i hi => k.block i hi fun ⟨_, _, _, _, _, h1, _⟩ => by have := hn _ _ _ _ _ h1; cases this⟩
/-- a call of one grammar that yields true -/
theorem calls_gram {H : Type} {enc : TypeId × Value → H} {f : FuncId} {W : World} {base : Nat} {v : Value} {d : DataW H} {p : List MemPlace}
    (hf : ∀ (h : Heap) (g : Gram) (x : Value), RdGram h x g → (Lit.int .i64 g.nts).wf = true → (Lit.int .i64 g.start).wf = true → WfG g → FW env f [x] h fun r _ => r = .bool true)
    (hval : Value.okWide Try.prog W .any base 24 v) (h0 : DataW.Trod enc Try.prog W 0 (fun _ => true) true 24 v d p) (hw : (d.weights Try.prog 24).all (fun b => decide (b ≤ reachBytes)) = true) :
    Calls Try.prog f #[v] W fun e W' => e = .returned (.bool true) ∧ Below W.heap.size W W' := by
  have hu : Try.prog.underlying 24 = some (.struct (Try.prog.fieldsOf 24)) := by kernel_rfl
  unfold Value.okWide at hval
  rw [hu] at hval
  obtain ⟨cs, rfl, _, _⟩ := hval
  obtain ⟨n, hn⟩ := h0
  obtain ⟨μ, h, vs, _, _, H, hno, hv, _, hr⟩ := tells_trod gramTs_ok n _ _ _ (by simp [gramTs]) hn hw [] [] ⟨rfl, fun id c v o t h1 => by simp at h1, fun a b c1 c2 v1 v2 o e1 e2 m1 m2 _ h1 => by simp at h1⟩ (fun id c v o e h1 => by simp at h1)
  obtain ⟨g, hg, w1, w2, w3⟩ := rd_gram hr
  have k := hf h g _ hg w1 w2 w3
  unfold FW at k
  obtain ⟨r, h', k1, rfl⟩ := k
  refine (Ev.calls env_ok k1 μ W #[.agg cs] H ⟨VRL.agg hv, trivial⟩).mono fun e W' ⟨μ', r', he, hvr, _, _, hfr, _, _⟩ => ?_
  exact ⟨by rw [he, VR.bool hvr], noOwn_below hno hfr⟩
theorem nts_wf {n : Int} (h : (Lit.int .i64 n).wf = true) : -9223372036854775808 ≤ n := by
  simp only [Lit.wf, Bool.and_eq_true, decide_eq_true_eq] at h
  have h2 : IntKind.i64.min = -9223372036854775808 := by decide
  omega
end Go.Proofs.Ytnlchlnkibpkaaa
