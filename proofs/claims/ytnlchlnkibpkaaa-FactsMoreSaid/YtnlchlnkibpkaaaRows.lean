/-
  No cell of these rows narrows 'for every input' (looked for: loops, veiled, ifaces, maps, wideKeys, modest, calm, conditions, laid).
  DERIVED. THE GIVEN ROWS OF THIS SEAT. 8 by the template 'for every input the law returns true; each argument reads behind the call as it read before'; 0 by the template 'total and deterministic' (their statements: YtnlchlnkibpkaaaTotals.lean).
  GIVEN WITH THE SEED: the statements are not yours to turn. If you find one false, say at which input.
  Laid BY PROGRAM, IN A SANDBOX (cutbox-rows.mjs): the forced cells as the released guide's own fill.sh prints them over the translation 21b264a35be2d480… (all of the seat's roots in one cut). By AI agents, Wed Nov 11 2026. No macro, syntax, notation, axiom, sorry.
-/
import Derived.Test.YtnlchlnkibpkaaaChecked
import GoSem.Claim
import GoSem.ClaimJoined
import GoSem.ClaimMapViews
import Derived.JoinedTies
import Derived.KernelRfl
namespace Go.Proofs.Ytnlchlnkibpkaaa
/- THE CELL 'sum', in the pinned program and in every row, IS THE sha256 OF THE DUMP (.gsa) THAT YtnlchlnkibpkaaaProg.lean LOADS. Nothing in Lean hashes anything: it is a label: what it is worth is what the hold of that sum in a sandbox is worth. -/
noncomputable def Try.pinned : Pinned := { name := "ytnlchlnkibpkaaa", sum := "21b264a35be2d480cc02a2703902304c0bef70e4ed0f36974e06d1159ab4dd5e", checked := Try.checked }
namespace Rows
def none {H : Type} : Left H := { results := [], args := [] }

/-- 'tracerylaw06.FactsRight': WHATEVER THE INPUT: true; the input reads as it did. -/
def factsRightSpec : ChangeSpec := { name := "factsRight", fn := fun _ => fun
  | [d] => { results := [.lit (.bool true)], args := [d] }
  | _ => none }
def factsRightRow : OpenClaim := { program := "ytnlchlnkibpkaaa", sum := "21b264a35be2d480cc02a2703902304c0bef70e4ed0f36974e06d1159ab4dd5e", func := "tracery/tracerylaw06.FactsRight", spec := "factsRight", unfollowed := true, recurses := true, apart := false }
def FactsRightSaid : Prop := factsRightRow.holds Try.pinned (OpenSpec.ofChange factsRightSpec)

/-- ITS FALSE NEIGHBOUR: 'it returns false'. Refute it at one input. -/
def factsRightWrong : ChangeSpec := { name := "factsRight", fn := fun _ => fun
  | [d] => { results := [.lit (.bool false)], args := [d] }
  | _ => none }
def FactsRightWrongFalsely : Prop := factsRightRow.holds Try.pinned (OpenSpec.ofChange factsRightWrong)

/-- 'tracerylaw06.FactsFirst': WHATEVER THE INPUT: true; the input reads as it did. -/
def factsFirstSpec : ChangeSpec := { name := "factsFirst", fn := fun _ => fun
  | [d] => { results := [.lit (.bool true)], args := [d] }
  | _ => none }
def factsFirstRow : OpenClaim := { program := "ytnlchlnkibpkaaa", sum := "21b264a35be2d480cc02a2703902304c0bef70e4ed0f36974e06d1159ab4dd5e", func := "tracery/tracerylaw06.FactsFirst", spec := "factsFirst", unfollowed := true, recurses := true, apart := false }
def FactsFirstSaid : Prop := factsFirstRow.holds Try.pinned (OpenSpec.ofChange factsFirstSpec)

/-- ITS FALSE NEIGHBOUR: 'it returns false'. Refute it at one input. -/
def factsFirstWrong : ChangeSpec := { name := "factsFirst", fn := fun _ => fun
  | [d] => { results := [.lit (.bool false)], args := [d] }
  | _ => none }
def FactsFirstWrongFalsely : Prop := factsFirstRow.holds Try.pinned (OpenSpec.ofChange factsFirstWrong)

/-- 'tracerylaw06.FactsLengths': WHATEVER THE INPUT: true; the input reads as it did. -/
def factsLengthsSpec : ChangeSpec := { name := "factsLengths", fn := fun _ => fun
  | [d] => { results := [.lit (.bool true)], args := [d] }
  | _ => none }
def factsLengthsRow : OpenClaim := { program := "ytnlchlnkibpkaaa", sum := "21b264a35be2d480cc02a2703902304c0bef70e4ed0f36974e06d1159ab4dd5e", func := "tracery/tracerylaw06.FactsLengths", spec := "factsLengths", unfollowed := true, recurses := true, apart := false }
def FactsLengthsSaid : Prop := factsLengthsRow.holds Try.pinned (OpenSpec.ofChange factsLengthsSpec)

/-- ITS FALSE NEIGHBOUR: 'it returns false'. Refute it at one input. -/
def factsLengthsWrong : ChangeSpec := { name := "factsLengths", fn := fun _ => fun
  | [d] => { results := [.lit (.bool false)], args := [d] }
  | _ => none }
def FactsLengthsWrongFalsely : Prop := factsLengthsRow.holds Try.pinned (OpenSpec.ofChange factsLengthsWrong)

/-- 'tracerylaw06.FactsTurned': WHATEVER THE INPUT: true; the input reads as it did. -/
def factsTurnedSpec : ChangeSpec := { name := "factsTurned", fn := fun _ => fun
  | [d1, d2] => { results := [.lit (.bool true)], args := [d1, d2] }
  | _ => none }
def factsTurnedRow : OpenClaim := { program := "ytnlchlnkibpkaaa", sum := "21b264a35be2d480cc02a2703902304c0bef70e4ed0f36974e06d1159ab4dd5e", func := "tracery/tracerylaw06.FactsTurned", spec := "factsTurned", unfollowed := true, recurses := true, apart := false }
def FactsTurnedSaid : Prop := factsTurnedRow.holds Try.pinned (OpenSpec.ofChange factsTurnedSpec)

/-- ITS FALSE NEIGHBOUR: 'it returns false'. Refute it at one input. -/
def factsTurnedWrong : ChangeSpec := { name := "factsTurned", fn := fun _ => fun
  | [d1, d2] => { results := [.lit (.bool false)], args := [d1, d2] }
  | _ => none }
def FactsTurnedWrongFalsely : Prop := factsTurnedRow.holds Try.pinned (OpenSpec.ofChange factsTurnedWrong)

/-- 'tracerylaw06.FactsShort': WHATEVER THE INPUT: true; the input reads as it did. -/
def factsShortSpec : ChangeSpec := { name := "factsShort", fn := fun _ => fun
  | [d] => { results := [.lit (.bool true)], args := [d] }
  | _ => none }
def factsShortRow : OpenClaim := { program := "ytnlchlnkibpkaaa", sum := "21b264a35be2d480cc02a2703902304c0bef70e4ed0f36974e06d1159ab4dd5e", func := "tracery/tracerylaw06.FactsShort", spec := "factsShort", unfollowed := true, recurses := true, apart := false }
def FactsShortSaid : Prop := factsShortRow.holds Try.pinned (OpenSpec.ofChange factsShortSpec)

/-- ITS FALSE NEIGHBOUR: 'it returns false'. Refute it at one input. -/
def factsShortWrong : ChangeSpec := { name := "factsShort", fn := fun _ => fun
  | [d] => { results := [.lit (.bool false)], args := [d] }
  | _ => none }
def FactsShortWrongFalsely : Prop := factsShortRow.holds Try.pinned (OpenSpec.ofChange factsShortWrong)

/-- 'tracerylaw06.FactsTrims': WHATEVER THE INPUT: true; the input reads as it did. -/
def factsTrimsSpec : ChangeSpec := { name := "factsTrims", fn := fun _ => fun
  | [d] => { results := [.lit (.bool true)], args := [d] }
  | _ => none }
def factsTrimsRow : OpenClaim := { program := "ytnlchlnkibpkaaa", sum := "21b264a35be2d480cc02a2703902304c0bef70e4ed0f36974e06d1159ab4dd5e", func := "tracery/tracerylaw06.FactsTrims", spec := "factsTrims", unfollowed := true, recurses := true, apart := false }
def FactsTrimsSaid : Prop := factsTrimsRow.holds Try.pinned (OpenSpec.ofChange factsTrimsSpec)

/-- ITS FALSE NEIGHBOUR: 'it returns false'. Refute it at one input. -/
def factsTrimsWrong : ChangeSpec := { name := "factsTrims", fn := fun _ => fun
  | [d] => { results := [.lit (.bool false)], args := [d] }
  | _ => none }
def FactsTrimsWrongFalsely : Prop := factsTrimsRow.holds Try.pinned (OpenSpec.ofChange factsTrimsWrong)

/-- 'tracerylaw06.FactsMarks': WHATEVER THE INPUT: true; the input reads as it did. -/
def factsMarksSpec : ChangeSpec := { name := "factsMarks", fn := fun _ => fun
  | [d] => { results := [.lit (.bool true)], args := [d] }
  | _ => none }
def factsMarksRow : OpenClaim := { program := "ytnlchlnkibpkaaa", sum := "21b264a35be2d480cc02a2703902304c0bef70e4ed0f36974e06d1159ab4dd5e", func := "tracery/tracerylaw06.FactsMarks", spec := "factsMarks", unfollowed := true, recurses := true, apart := false }
def FactsMarksSaid : Prop := factsMarksRow.holds Try.pinned (OpenSpec.ofChange factsMarksSpec)

/-- ITS FALSE NEIGHBOUR: 'it returns false'. Refute it at one input. -/
def factsMarksWrong : ChangeSpec := { name := "factsMarks", fn := fun _ => fun
  | [d] => { results := [.lit (.bool false)], args := [d] }
  | _ => none }
def FactsMarksWrongFalsely : Prop := factsMarksRow.holds Try.pinned (OpenSpec.ofChange factsMarksWrong)

/-- 'tracerylaw06.FactsMore': WHATEVER THE INPUT: true; the input reads as it did. -/
def factsMoreSpec : ChangeSpec := { name := "factsMore", fn := fun _ => fun
  | [d1, d2] => { results := [.lit (.bool true)], args := [d1, d2] }
  | _ => none }
def factsMoreRow : OpenClaim := { program := "ytnlchlnkibpkaaa", sum := "21b264a35be2d480cc02a2703902304c0bef70e4ed0f36974e06d1159ab4dd5e", func := "tracery/tracerylaw06.FactsMore", spec := "factsMore", unfollowed := true, recurses := true, apart := false }
def FactsMoreSaid : Prop := factsMoreRow.holds Try.pinned (OpenSpec.ofChange factsMoreSpec)

/-- ITS FALSE NEIGHBOUR: 'it returns false'. Refute it at one input. -/
def factsMoreWrong : ChangeSpec := { name := "factsMore", fn := fun _ => fun
  | [d1, d2] => { results := [.lit (.bool false)], args := [d1, d2] }
  | _ => none }
def FactsMoreWrongFalsely : Prop := factsMoreRow.holds Try.pinned (OpenSpec.ofChange factsMoreWrong)

/- THE SECOND FORM. 'bulk': how many values and letters a reading holds, each counted each time it is reached (what is shared counts as often as it is met; a slice's spare places count too). A statement '..UptoSaid' is the law's where the arguments, and the package variables that the reading takes, are together of bulk at most 1048576: NARROWER than '..Said'. Prove '..Said' where nothing that the law and all that it calls make is longer than what came in: it says more and counts as full. Else prove '..UptoSaid'. A law counts once. -/
mutual
def uptoBulk {H : Type} : DataW H → Nat
  | .lit (.string bytes) => bytes.length + 1
  | .lit _ => 1
  | .nil => 1
  | .ptr d => uptoBulk d + 1
  | .slice elems spare => uptoBulkAll elems + uptoBulkAll spare + 1
  | .agg parts => uptoBulkAll parts + 1
  | .iface _ d => uptoBulk d + 1
  | .map entries => uptoBulkEntries entries + 1
  | .held _ => 1
def uptoBulkAll {H : Type} : List (DataW H) → Nat
  | [] => 0
  | d :: r => uptoBulk d + uptoBulkAll r
def uptoBulkEntries {H : Type} : List (Lit × DataW H) → Nat
  | [] => 0
  | x :: r => uptoBulkEntry x + uptoBulkEntries r
def uptoBulkEntry {H : Type} : Lit × DataW H → Nat
  | (.string bytes, d) => bytes.length + uptoBulk d + 1
  | (_, d) => uptoBulk d + 1
 end
def uptoSmall : (H : Type) → List (DataW H) → Bool := fun _ ds => decide (uptoBulkAll ds ≤ 1048576)
def OpenSpec.upto (s : _root_.Go.ChangeSpec) : _root_.Go.OpenSpec := { _root_.Go.OpenSpec.ofChange s with cond := some uptoSmall }

/-- 'tracerylaw06.FactsRight', WHERE WHAT IT READS IS OF BULK AT MOST 1048576: true; the input reads as it did. -/
def factsRightUptoRow : OpenClaim := { program := "ytnlchlnkibpkaaa", sum := "21b264a35be2d480cc02a2703902304c0bef70e4ed0f36974e06d1159ab4dd5e", func := "tracery/tracerylaw06.FactsRight", spec := "factsRight", unfollowed := true, recurses := true, apart := false, narrowed := true }
def FactsRightUptoSaid : Prop := factsRightUptoRow.holds Try.pinned (OpenSpec.upto factsRightSpec)

/-- 'tracerylaw06.FactsFirst', WHERE WHAT IT READS IS OF BULK AT MOST 1048576: true; the input reads as it did. -/
def factsFirstUptoRow : OpenClaim := { program := "ytnlchlnkibpkaaa", sum := "21b264a35be2d480cc02a2703902304c0bef70e4ed0f36974e06d1159ab4dd5e", func := "tracery/tracerylaw06.FactsFirst", spec := "factsFirst", unfollowed := true, recurses := true, apart := false, narrowed := true }
def FactsFirstUptoSaid : Prop := factsFirstUptoRow.holds Try.pinned (OpenSpec.upto factsFirstSpec)

/-- 'tracerylaw06.FactsLengths', WHERE WHAT IT READS IS OF BULK AT MOST 1048576: true; the input reads as it did. -/
def factsLengthsUptoRow : OpenClaim := { program := "ytnlchlnkibpkaaa", sum := "21b264a35be2d480cc02a2703902304c0bef70e4ed0f36974e06d1159ab4dd5e", func := "tracery/tracerylaw06.FactsLengths", spec := "factsLengths", unfollowed := true, recurses := true, apart := false, narrowed := true }
def FactsLengthsUptoSaid : Prop := factsLengthsUptoRow.holds Try.pinned (OpenSpec.upto factsLengthsSpec)

/-- 'tracerylaw06.FactsTurned', WHERE WHAT IT READS IS OF BULK AT MOST 1048576: true; the input reads as it did. -/
def factsTurnedUptoRow : OpenClaim := { program := "ytnlchlnkibpkaaa", sum := "21b264a35be2d480cc02a2703902304c0bef70e4ed0f36974e06d1159ab4dd5e", func := "tracery/tracerylaw06.FactsTurned", spec := "factsTurned", unfollowed := true, recurses := true, apart := false, narrowed := true }
def FactsTurnedUptoSaid : Prop := factsTurnedUptoRow.holds Try.pinned (OpenSpec.upto factsTurnedSpec)

/-- 'tracerylaw06.FactsShort', WHERE WHAT IT READS IS OF BULK AT MOST 1048576: true; the input reads as it did. -/
def factsShortUptoRow : OpenClaim := { program := "ytnlchlnkibpkaaa", sum := "21b264a35be2d480cc02a2703902304c0bef70e4ed0f36974e06d1159ab4dd5e", func := "tracery/tracerylaw06.FactsShort", spec := "factsShort", unfollowed := true, recurses := true, apart := false, narrowed := true }
def FactsShortUptoSaid : Prop := factsShortUptoRow.holds Try.pinned (OpenSpec.upto factsShortSpec)

/-- 'tracerylaw06.FactsTrims', WHERE WHAT IT READS IS OF BULK AT MOST 1048576: true; the input reads as it did. -/
def factsTrimsUptoRow : OpenClaim := { program := "ytnlchlnkibpkaaa", sum := "21b264a35be2d480cc02a2703902304c0bef70e4ed0f36974e06d1159ab4dd5e", func := "tracery/tracerylaw06.FactsTrims", spec := "factsTrims", unfollowed := true, recurses := true, apart := false, narrowed := true }
def FactsTrimsUptoSaid : Prop := factsTrimsUptoRow.holds Try.pinned (OpenSpec.upto factsTrimsSpec)

/-- 'tracerylaw06.FactsMarks', WHERE WHAT IT READS IS OF BULK AT MOST 1048576: true; the input reads as it did. -/
def factsMarksUptoRow : OpenClaim := { program := "ytnlchlnkibpkaaa", sum := "21b264a35be2d480cc02a2703902304c0bef70e4ed0f36974e06d1159ab4dd5e", func := "tracery/tracerylaw06.FactsMarks", spec := "factsMarks", unfollowed := true, recurses := true, apart := false, narrowed := true }
def FactsMarksUptoSaid : Prop := factsMarksUptoRow.holds Try.pinned (OpenSpec.upto factsMarksSpec)

/-- 'tracerylaw06.FactsMore', WHERE WHAT IT READS IS OF BULK AT MOST 1048576: true; the input reads as it did. -/
def factsMoreUptoRow : OpenClaim := { program := "ytnlchlnkibpkaaa", sum := "21b264a35be2d480cc02a2703902304c0bef70e4ed0f36974e06d1159ab4dd5e", func := "tracery/tracerylaw06.FactsMore", spec := "factsMore", unfollowed := true, recurses := true, apart := false, narrowed := true }
def FactsMoreUptoSaid : Prop := factsMoreUptoRow.holds Try.pinned (OpenSpec.upto factsMoreSpec)

end Rows
end Go.Proofs.Ytnlchlnkibpkaaa
