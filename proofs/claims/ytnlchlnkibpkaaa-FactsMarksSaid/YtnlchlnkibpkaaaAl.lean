/- alive: its fixed calls, run by the kernel. -/
import Derived.Test.YtnlchlnkibpkaaaD1
import Derived.Test.YtnlchlnkibpkaaaAmF
namespace Go.Proofs.Ytnlchlnkibpkaaa
set_option linter.unusedSimpArgs false
set_option linter.unusedVariables false
open Go.RowKit Am Ty
theorem names_ok : (env.P.funcs.toList.all fun fn => !(fn.name == "runtime.NumGoroutine")) = true := by kernel_rfl
theorem nm_ok : NmOK env (fun _ => true) := fun f fn _ hf => by
  have := List.all_eq_true.1 names_ok fn (Array.mem_toList_iff.2 (Array.mem_of_getElem? hf))
  simpa using this
set_option maxRecDepth 100000
theorem alive_run : ((callX env (fun _ => true) 200 10 12 [] []).map fun p => p.1) = some (.bool true) := by kernel_rfl
theorem alive_fw {h : Heap} : FW env 12 [] h fun r h' => r = .bool true ∧ h' = h := by
  have h1 := alive_run
  cases hc : callX env (fun _ => true) 200 10 12 [] [] with
  | none => rw [hc] at h1; cases h1
  | some p =>
    obtain ⟨r, h'⟩ := p
    rw [hc] at h1
    simp only [Option.map_some, Option.some.injEq] at h1
    subst h1
    have h2 := (callX_sound mixed nm_ok 10 _ _ _ _ _ hc).2
    unfold FW
    exact ⟨_, _, .fresh h2 (.pure1 rfl), rfl, rfl⟩
end Go.Proofs.Ytnlchlnkibpkaaa
