/-
  NARROWER THAN 'FOR EVERY INPUT', by the rows' own cells (each row's printed sentence says how): KernelMakes: loops · KernelFinds: loops · KernelOwn: loops · KernelMasks: loops · KernelPlaces: loops · KernelFree: loops · KernelStart: loops · FactsKernel: loops.
  DERIVED. THE GIVEN ROWS OF THIS SEAT. 9 by the template 'for every input the law returns true; each argument reads behind the call as it read before'; 0 by the template 'total and deterministic' (their statements: YtmdmimkbpikmoaaGreatTotals.lean).
  GIVEN WITH THE SEED: the statements are not yours to turn. If you find one false, say at which input.
  Laid BY PROGRAM, IN A SANDBOX (cutbox-rows.mjs): the forced cells as the released guide's own fill.sh prints them over the translation c2608ae61f9213c2… (all of the seat's roots in one cut). By AI agents, Wed Nov 11 2026. No macro, syntax, notation, axiom, sorry.
-/
import Derived.Test.YtmdmimkbpikmoaaGreatChecked
import GoSem.Claim
import GoSem.ClaimJoined
import GoSem.ClaimMapViews
import Derived.JoinedTies
import Derived.KernelRfl
namespace Go.Proofs.YtmdmimkbpikmoaaGreat
/- THE CELL 'sum', in the pinned program and in every row, IS THE sha256 OF THE DUMP (.gsa) THAT YtmdmimkbpikmoaaGreatProg.lean LOADS. Nothing in Lean hashes anything: it is a label: what it is worth is what the hold of that sum in a sandbox is worth. -/
noncomputable def Tryz.pinned : Pinned := { name := "ytmdmimkbpikmoaagreat", sum := "c2608ae61f9213c2905c65e5abbdeb6447984ee3905aba0f44167395771c6104", checked := Tryz.checked }
namespace Rows
def none {H : Type} : Left H := { results := [], args := [] }

/-- 'tracerylaw05.KernelMakes': WHATEVER THE INPUT: true; the input reads as it did. -/
def kernelMakesSpec : ChangeSpec := { name := "kernelMakes", fn := fun _ => fun
  | [d] => { results := [.lit (.bool true)], args := [d] }
  | _ => none }
def kernelMakesRow : OpenClaim := { program := "ytmdmimkbpikmoaagreat", sum := "c2608ae61f9213c2905c65e5abbdeb6447984ee3905aba0f44167395771c6104", func := "tracery/tracerylaw05.KernelMakes", spec := "kernelMakes", inPlace := ["internal/abi.NoEscape"], unfollowed := true, recurses := true, loops := true, plainKeys := false, apart := false }
def KernelMakesSaid : Prop := kernelMakesRow.holds Tryz.pinned (OpenSpec.ofChange kernelMakesSpec)

/-- ITS FALSE NEIGHBOUR: 'it returns false'. Refute it at one input. -/
def kernelMakesWrong : ChangeSpec := { name := "kernelMakes", fn := fun _ => fun
  | [d] => { results := [.lit (.bool false)], args := [d] }
  | _ => none }
def KernelMakesWrongFalsely : Prop := kernelMakesRow.holds Tryz.pinned (OpenSpec.ofChange kernelMakesWrong)

/-- 'tracerylaw05.KernelFinds': WHATEVER THE INPUT: true; the input reads as it did. -/
def kernelFindsSpec : ChangeSpec := { name := "kernelFinds", fn := fun _ => fun
  | [d1, d2, d3] => { results := [.lit (.bool true)], args := [d1, d2, d3] }
  | _ => none }
def kernelFindsRow : OpenClaim := { program := "ytmdmimkbpikmoaagreat", sum := "c2608ae61f9213c2905c65e5abbdeb6447984ee3905aba0f44167395771c6104", func := "tracery/tracerylaw05.KernelFinds", spec := "kernelFinds", inPlace := ["internal/abi.NoEscape"], unfollowed := true, recurses := true, loops := true, plainKeys := false, apart := false }
def KernelFindsSaid : Prop := kernelFindsRow.holds Tryz.pinned (OpenSpec.ofChange kernelFindsSpec)

/-- ITS FALSE NEIGHBOUR: 'it returns false'. Refute it at one input. -/
def kernelFindsWrong : ChangeSpec := { name := "kernelFinds", fn := fun _ => fun
  | [d1, d2, d3] => { results := [.lit (.bool false)], args := [d1, d2, d3] }
  | _ => none }
def KernelFindsWrongFalsely : Prop := kernelFindsRow.holds Tryz.pinned (OpenSpec.ofChange kernelFindsWrong)

/-- 'tracerylaw05.KernelOwn': WHATEVER THE INPUT: true; the input reads as it did. -/
def kernelOwnSpec : ChangeSpec := { name := "kernelOwn", fn := fun _ => fun
  | [d] => { results := [.lit (.bool true)], args := [d] }
  | _ => none }
def kernelOwnRow : OpenClaim := { program := "ytmdmimkbpikmoaagreat", sum := "c2608ae61f9213c2905c65e5abbdeb6447984ee3905aba0f44167395771c6104", func := "tracery/tracerylaw05.KernelOwn", spec := "kernelOwn", inPlace := ["internal/abi.NoEscape"], unfollowed := true, recurses := true, loops := true, plainKeys := false, apart := false }
def KernelOwnSaid : Prop := kernelOwnRow.holds Tryz.pinned (OpenSpec.ofChange kernelOwnSpec)

/-- ITS FALSE NEIGHBOUR: 'it returns false'. Refute it at one input. -/
def kernelOwnWrong : ChangeSpec := { name := "kernelOwn", fn := fun _ => fun
  | [d] => { results := [.lit (.bool false)], args := [d] }
  | _ => none }
def KernelOwnWrongFalsely : Prop := kernelOwnRow.holds Tryz.pinned (OpenSpec.ofChange kernelOwnWrong)

/-- 'tracerylaw05.KernelMasks': WHATEVER THE INPUT: true; the input reads as it did. -/
def kernelMasksSpec : ChangeSpec := { name := "kernelMasks", fn := fun _ => fun
  | [d] => { results := [.lit (.bool true)], args := [d] }
  | _ => none }
def kernelMasksRow : OpenClaim := { program := "ytmdmimkbpikmoaagreat", sum := "c2608ae61f9213c2905c65e5abbdeb6447984ee3905aba0f44167395771c6104", func := "tracery/tracerylaw05.KernelMasks", spec := "kernelMasks", inPlace := ["internal/abi.NoEscape"], unfollowed := true, recurses := true, loops := true, plainKeys := false, apart := false }
def KernelMasksSaid : Prop := kernelMasksRow.holds Tryz.pinned (OpenSpec.ofChange kernelMasksSpec)

/-- ITS FALSE NEIGHBOUR: 'it returns false'. Refute it at one input. -/
def kernelMasksWrong : ChangeSpec := { name := "kernelMasks", fn := fun _ => fun
  | [d] => { results := [.lit (.bool false)], args := [d] }
  | _ => none }
def KernelMasksWrongFalsely : Prop := kernelMasksRow.holds Tryz.pinned (OpenSpec.ofChange kernelMasksWrong)

/-- 'tracerylaw05.KernelPlaces': WHATEVER THE INPUT: true; the input reads as it did. -/
def kernelPlacesSpec : ChangeSpec := { name := "kernelPlaces", fn := fun _ => fun
  | [d] => { results := [.lit (.bool true)], args := [d] }
  | _ => none }
def kernelPlacesRow : OpenClaim := { program := "ytmdmimkbpikmoaagreat", sum := "c2608ae61f9213c2905c65e5abbdeb6447984ee3905aba0f44167395771c6104", func := "tracery/tracerylaw05.KernelPlaces", spec := "kernelPlaces", inPlace := ["internal/abi.NoEscape"], unfollowed := true, recurses := true, loops := true, plainKeys := false, apart := false }
def KernelPlacesSaid : Prop := kernelPlacesRow.holds Tryz.pinned (OpenSpec.ofChange kernelPlacesSpec)

/-- ITS FALSE NEIGHBOUR: 'it returns false'. Refute it at one input. -/
def kernelPlacesWrong : ChangeSpec := { name := "kernelPlaces", fn := fun _ => fun
  | [d] => { results := [.lit (.bool false)], args := [d] }
  | _ => none }
def KernelPlacesWrongFalsely : Prop := kernelPlacesRow.holds Tryz.pinned (OpenSpec.ofChange kernelPlacesWrong)

/-- 'tracerylaw05.KernelLiterals': WHATEVER THE INPUT: true; the input reads as it did. -/
def kernelLiteralsSpec : ChangeSpec := { name := "kernelLiterals", fn := fun _ => fun
  | [d] => { results := [.lit (.bool true)], args := [d] }
  | _ => none }
def kernelLiteralsRow : OpenClaim := { program := "ytmdmimkbpikmoaagreat", sum := "c2608ae61f9213c2905c65e5abbdeb6447984ee3905aba0f44167395771c6104", func := "tracery/tracerylaw05.KernelLiterals", spec := "kernelLiterals", inPlace := ["internal/abi.NoEscape"], unfollowed := true, recurses := true, plainKeys := false, apart := false }
def KernelLiteralsSaid : Prop := kernelLiteralsRow.holds Tryz.pinned (OpenSpec.ofChange kernelLiteralsSpec)

/-- ITS FALSE NEIGHBOUR: 'it returns false'. Refute it at one input. -/
def kernelLiteralsWrong : ChangeSpec := { name := "kernelLiterals", fn := fun _ => fun
  | [d] => { results := [.lit (.bool false)], args := [d] }
  | _ => none }
def KernelLiteralsWrongFalsely : Prop := kernelLiteralsRow.holds Tryz.pinned (OpenSpec.ofChange kernelLiteralsWrong)

/-- 'tracerylaw05.KernelFree': WHATEVER THE INPUT: true; the input reads as it did. -/
def kernelFreeSpec : ChangeSpec := { name := "kernelFree", fn := fun _ => fun
  | [d] => { results := [.lit (.bool true)], args := [d] }
  | _ => none }
def kernelFreeRow : OpenClaim := { program := "ytmdmimkbpikmoaagreat", sum := "c2608ae61f9213c2905c65e5abbdeb6447984ee3905aba0f44167395771c6104", func := "tracery/tracerylaw05.KernelFree", spec := "kernelFree", inPlace := ["internal/abi.NoEscape"], unfollowed := true, recurses := true, loops := true, plainKeys := false, apart := false }
def KernelFreeSaid : Prop := kernelFreeRow.holds Tryz.pinned (OpenSpec.ofChange kernelFreeSpec)

/-- ITS FALSE NEIGHBOUR: 'it returns false'. Refute it at one input. -/
def kernelFreeWrong : ChangeSpec := { name := "kernelFree", fn := fun _ => fun
  | [d] => { results := [.lit (.bool false)], args := [d] }
  | _ => none }
def KernelFreeWrongFalsely : Prop := kernelFreeRow.holds Tryz.pinned (OpenSpec.ofChange kernelFreeWrong)

/-- 'tracerylaw05.KernelStart': WHATEVER THE INPUT: true; the input reads as it did. -/
def kernelStartSpec : ChangeSpec := { name := "kernelStart", fn := fun _ => fun
  | [d1, d2] => { results := [.lit (.bool true)], args := [d1, d2] }
  | _ => none }
def kernelStartRow : OpenClaim := { program := "ytmdmimkbpikmoaagreat", sum := "c2608ae61f9213c2905c65e5abbdeb6447984ee3905aba0f44167395771c6104", func := "tracery/tracerylaw05.KernelStart", spec := "kernelStart", inPlace := ["internal/abi.NoEscape"], unfollowed := true, recurses := true, loops := true, plainKeys := false, apart := false }
def KernelStartSaid : Prop := kernelStartRow.holds Tryz.pinned (OpenSpec.ofChange kernelStartSpec)

/-- ITS FALSE NEIGHBOUR: 'it returns false'. Refute it at one input. -/
def kernelStartWrong : ChangeSpec := { name := "kernelStart", fn := fun _ => fun
  | [d1, d2] => { results := [.lit (.bool false)], args := [d1, d2] }
  | _ => none }
def KernelStartWrongFalsely : Prop := kernelStartRow.holds Tryz.pinned (OpenSpec.ofChange kernelStartWrong)

/-- 'tracerylaw06.FactsKernel': WHATEVER THE INPUT: true; the input reads as it did. -/
def factsKernelSpec : ChangeSpec := { name := "factsKernel", fn := fun _ => fun
  | [d] => { results := [.lit (.bool true)], args := [d] }
  | _ => none }
def factsKernelRow : OpenClaim := { program := "ytmdmimkbpikmoaagreat", sum := "c2608ae61f9213c2905c65e5abbdeb6447984ee3905aba0f44167395771c6104", func := "tracery/tracerylaw06.FactsKernel", spec := "factsKernel", inPlace := ["internal/abi.NoEscape"], unfollowed := true, recurses := true, loops := true, plainKeys := false, apart := false }
def FactsKernelSaid : Prop := factsKernelRow.holds Tryz.pinned (OpenSpec.ofChange factsKernelSpec)

/-- ITS FALSE NEIGHBOUR: 'it returns false'. Refute it at one input. -/
def factsKernelWrong : ChangeSpec := { name := "factsKernel", fn := fun _ => fun
  | [d] => { results := [.lit (.bool false)], args := [d] }
  | _ => none }
def FactsKernelWrongFalsely : Prop := factsKernelRow.holds Tryz.pinned (OpenSpec.ofChange factsKernelWrong)

/- THE SECOND FORM. 'bulk': how many values and letters a reading holds, each counted each time it is reached (what is shared counts as often as it is met; a slice's spare places count too). A statement '..UptoSaid' is the law's where the arguments, and the package variables that the reading takes, are together of bulk at most 1048576: NARROWER than '..Said'. Prove '..Said' where nothing that the law and all that it calls make is longer than what came in: it says more and counts as full. Else prove '..UptoSaid'. A law counts once. -/
mutual
def uptoBulk {H : Type} : DataW H → Nat
  | .lit (.string bytes) => bytes.length + 1
  | .lit _ => 1
  | .nil => 1
  | .ptr d => uptoBulk d + 1
  | .slice elems spare => uptoBulkAll elems + uptoBulkAll spare + 1
  | .agg parts => uptoBulkAll parts + 1
  | .iface _ d => uptoBulk d + 1
  | .map entries => uptoBulkEntries entries + 1
  | .held _ => 1
def uptoBulkAll {H : Type} : List (DataW H) → Nat
  | [] => 0
  | d :: r => uptoBulk d + uptoBulkAll r
def uptoBulkEntries {H : Type} : List (Lit × DataW H) → Nat
  | [] => 0
  | x :: r => uptoBulkEntry x + uptoBulkEntries r
def uptoBulkEntry {H : Type} : Lit × DataW H → Nat
  | (.string bytes, d) => bytes.length + uptoBulk d + 1
  | (_, d) => uptoBulk d + 1
 end
def uptoSmall : (H : Type) → List (DataW H) → Bool := fun _ ds => decide (uptoBulkAll ds ≤ 1048576)
def OpenSpec.upto (s : _root_.Go.ChangeSpec) : _root_.Go.OpenSpec := { _root_.Go.OpenSpec.ofChange s with cond := some uptoSmall }

/-- 'tracerylaw05.KernelMakes', WHERE WHAT IT READS IS OF BULK AT MOST 1048576: true; the input reads as it did. -/
def kernelMakesUptoRow : OpenClaim := { program := "ytmdmimkbpikmoaagreat", sum := "c2608ae61f9213c2905c65e5abbdeb6447984ee3905aba0f44167395771c6104", func := "tracery/tracerylaw05.KernelMakes", spec := "kernelMakes", inPlace := ["internal/abi.NoEscape"], unfollowed := true, recurses := true, loops := true, plainKeys := false, apart := false, narrowed := true }
def KernelMakesUptoSaid : Prop := kernelMakesUptoRow.holds Tryz.pinned (OpenSpec.upto kernelMakesSpec)

/-- 'tracerylaw05.KernelFinds', WHERE WHAT IT READS IS OF BULK AT MOST 1048576: true; the input reads as it did. -/
def kernelFindsUptoRow : OpenClaim := { program := "ytmdmimkbpikmoaagreat", sum := "c2608ae61f9213c2905c65e5abbdeb6447984ee3905aba0f44167395771c6104", func := "tracery/tracerylaw05.KernelFinds", spec := "kernelFinds", inPlace := ["internal/abi.NoEscape"], unfollowed := true, recurses := true, loops := true, plainKeys := false, apart := false, narrowed := true }
def KernelFindsUptoSaid : Prop := kernelFindsUptoRow.holds Tryz.pinned (OpenSpec.upto kernelFindsSpec)

/-- 'tracerylaw05.KernelOwn', WHERE WHAT IT READS IS OF BULK AT MOST 1048576: true; the input reads as it did. -/
def kernelOwnUptoRow : OpenClaim := { program := "ytmdmimkbpikmoaagreat", sum := "c2608ae61f9213c2905c65e5abbdeb6447984ee3905aba0f44167395771c6104", func := "tracery/tracerylaw05.KernelOwn", spec := "kernelOwn", inPlace := ["internal/abi.NoEscape"], unfollowed := true, recurses := true, loops := true, plainKeys := false, apart := false, narrowed := true }
def KernelOwnUptoSaid : Prop := kernelOwnUptoRow.holds Tryz.pinned (OpenSpec.upto kernelOwnSpec)

/-- 'tracerylaw05.KernelMasks', WHERE WHAT IT READS IS OF BULK AT MOST 1048576: true; the input reads as it did. -/
def kernelMasksUptoRow : OpenClaim := { program := "ytmdmimkbpikmoaagreat", sum := "c2608ae61f9213c2905c65e5abbdeb6447984ee3905aba0f44167395771c6104", func := "tracery/tracerylaw05.KernelMasks", spec := "kernelMasks", inPlace := ["internal/abi.NoEscape"], unfollowed := true, recurses := true, loops := true, plainKeys := false, apart := false, narrowed := true }
def KernelMasksUptoSaid : Prop := kernelMasksUptoRow.holds Tryz.pinned (OpenSpec.upto kernelMasksSpec)

/-- 'tracerylaw05.KernelPlaces', WHERE WHAT IT READS IS OF BULK AT MOST 1048576: true; the input reads as it did. -/
def kernelPlacesUptoRow : OpenClaim := { program := "ytmdmimkbpikmoaagreat", sum := "c2608ae61f9213c2905c65e5abbdeb6447984ee3905aba0f44167395771c6104", func := "tracery/tracerylaw05.KernelPlaces", spec := "kernelPlaces", inPlace := ["internal/abi.NoEscape"], unfollowed := true, recurses := true, loops := true, plainKeys := false, apart := false, narrowed := true }
def KernelPlacesUptoSaid : Prop := kernelPlacesUptoRow.holds Tryz.pinned (OpenSpec.upto kernelPlacesSpec)

/-- 'tracerylaw05.KernelLiterals', WHERE WHAT IT READS IS OF BULK AT MOST 1048576: true; the input reads as it did. -/
def kernelLiteralsUptoRow : OpenClaim := { program := "ytmdmimkbpikmoaagreat", sum := "c2608ae61f9213c2905c65e5abbdeb6447984ee3905aba0f44167395771c6104", func := "tracery/tracerylaw05.KernelLiterals", spec := "kernelLiterals", inPlace := ["internal/abi.NoEscape"], unfollowed := true, recurses := true, plainKeys := false, apart := false, narrowed := true }
def KernelLiteralsUptoSaid : Prop := kernelLiteralsUptoRow.holds Tryz.pinned (OpenSpec.upto kernelLiteralsSpec)

/-- 'tracerylaw05.KernelFree', WHERE WHAT IT READS IS OF BULK AT MOST 1048576: true; the input reads as it did. -/
def kernelFreeUptoRow : OpenClaim := { program := "ytmdmimkbpikmoaagreat", sum := "c2608ae61f9213c2905c65e5abbdeb6447984ee3905aba0f44167395771c6104", func := "tracery/tracerylaw05.KernelFree", spec := "kernelFree", inPlace := ["internal/abi.NoEscape"], unfollowed := true, recurses := true, loops := true, plainKeys := false, apart := false, narrowed := true }
def KernelFreeUptoSaid : Prop := kernelFreeUptoRow.holds Tryz.pinned (OpenSpec.upto kernelFreeSpec)

/-- 'tracerylaw05.KernelStart', WHERE WHAT IT READS IS OF BULK AT MOST 1048576: true; the input reads as it did. -/
def kernelStartUptoRow : OpenClaim := { program := "ytmdmimkbpikmoaagreat", sum := "c2608ae61f9213c2905c65e5abbdeb6447984ee3905aba0f44167395771c6104", func := "tracery/tracerylaw05.KernelStart", spec := "kernelStart", inPlace := ["internal/abi.NoEscape"], unfollowed := true, recurses := true, loops := true, plainKeys := false, apart := false, narrowed := true }
def KernelStartUptoSaid : Prop := kernelStartUptoRow.holds Tryz.pinned (OpenSpec.upto kernelStartSpec)

/-- 'tracerylaw06.FactsKernel', WHERE WHAT IT READS IS OF BULK AT MOST 1048576: true; the input reads as it did. -/
def factsKernelUptoRow : OpenClaim := { program := "ytmdmimkbpikmoaagreat", sum := "c2608ae61f9213c2905c65e5abbdeb6447984ee3905aba0f44167395771c6104", func := "tracery/tracerylaw06.FactsKernel", spec := "factsKernel", inPlace := ["internal/abi.NoEscape"], unfollowed := true, recurses := true, loops := true, plainKeys := false, apart := false, narrowed := true }
def FactsKernelUptoSaid : Prop := factsKernelUptoRow.holds Tryz.pinned (OpenSpec.upto factsKernelSpec)

end Rows
end Go.Proofs.YtmdmimkbpikmoaaGreat
