/-
  No cell of these rows narrows 'for every input' (looked for: loops, veiled, ifaces, maps, wideKeys, modest, calm, conditions, laid).
  DERIVED. THE GIVEN ROWS OF THIS SEAT. 10 by the template 'for every input the law returns true; each argument reads behind the call as it read before'; 0 by the template 'total and deterministic' (their statements: YtafncpgiibikcaaTotals.lean).
  GIVEN WITH THE SEED: the statements are not yours to turn. If you find one false, say at which input.
  Laid BY PROGRAM, IN A SANDBOX (cutbox-rows.mjs): the forced cells as the released guide's own fill.sh prints them over the translation b47235427fa82e37… (all of the seat's roots in one cut). By AI agents, Wed Nov 11 2026. No macro, syntax, notation, axiom, sorry.
-/
import Derived.Test.YtafncpgiibikcaaChecked
import GoSem.Claim
import GoSem.ClaimJoined
import GoSem.ClaimMapViews
import Derived.JoinedTies
import Derived.KernelRfl
namespace Go.Proofs.Ytafncpgiibikcaa
/- THE CELL 'sum', in the pinned program and in every row, IS THE sha256 OF THE DUMP (.gsa) THAT YtafncpgiibikcaaProg.lean LOADS. Nothing in Lean hashes anything: it is a label: what it is worth is what the hold of that sum in a sandbox is worth. -/
noncomputable def Try.pinned : Pinned := { name := "ytafncpgiibikcaa", sum := "b47235427fa82e374d6aa7f404b71d73462eb11d925f577fa4f99f113a43febd", checked := Try.checked }
namespace Rows
def none {H : Type} : Left H := { results := [], args := [] }

/-- 'tracerylaw07.EarleyAccepts': WHATEVER THE INPUT: true; the input reads as it did. -/
def earleyAcceptsSpec : ChangeSpec := { name := "earleyAccepts", fn := fun _ => fun
  | [d1, d2] => { results := [.lit (.bool true)], args := [d1, d2] }
  | _ => none }
def earleyAcceptsRow : OpenClaim := { program := "ytafncpgiibikcaa", sum := "b47235427fa82e374d6aa7f404b71d73462eb11d925f577fa4f99f113a43febd", func := "tracery/tracerylaw07.EarleyAccepts", spec := "earleyAccepts", unfollowed := true, recurses := true, plainKeys := false, apart := false }
def EarleyAcceptsSaid : Prop := earleyAcceptsRow.holds Try.pinned (OpenSpec.ofChange earleyAcceptsSpec)

/-- ITS FALSE NEIGHBOUR: 'it returns false'. Refute it at one input. -/
def earleyAcceptsWrong : ChangeSpec := { name := "earleyAccepts", fn := fun _ => fun
  | [d1, d2] => { results := [.lit (.bool false)], args := [d1, d2] }
  | _ => none }
def EarleyAcceptsWrongFalsely : Prop := earleyAcceptsRow.holds Try.pinned (OpenSpec.ofChange earleyAcceptsWrong)

/-- 'tracerylaw07.EarleyLast': WHATEVER THE INPUT: true; the input reads as it did. -/
def earleyLastSpec : ChangeSpec := { name := "earleyLast", fn := fun _ => fun
  | [d1, d2] => { results := [.lit (.bool true)], args := [d1, d2] }
  | _ => none }
def earleyLastRow : OpenClaim := { program := "ytafncpgiibikcaa", sum := "b47235427fa82e374d6aa7f404b71d73462eb11d925f577fa4f99f113a43febd", func := "tracery/tracerylaw07.EarleyLast", spec := "earleyLast", unfollowed := true, recurses := true, plainKeys := false, apart := false }
def EarleyLastSaid : Prop := earleyLastRow.holds Try.pinned (OpenSpec.ofChange earleyLastSpec)

/-- ITS FALSE NEIGHBOUR: 'it returns false'. Refute it at one input. -/
def earleyLastWrong : ChangeSpec := { name := "earleyLast", fn := fun _ => fun
  | [d1, d2] => { results := [.lit (.bool false)], args := [d1, d2] }
  | _ => none }
def EarleyLastWrongFalsely : Prop := earleyLastRow.holds Try.pinned (OpenSpec.ofChange earleyLastWrong)

/-- 'tracerylaw07.EarleySpans': WHATEVER THE INPUT: true; the input reads as it did. -/
def earleySpansSpec : ChangeSpec := { name := "earleySpans", fn := fun _ => fun
  | [d1, d2, d3] => { results := [.lit (.bool true)], args := [d1, d2, d3] }
  | _ => none }
def earleySpansRow : OpenClaim := { program := "ytafncpgiibikcaa", sum := "b47235427fa82e374d6aa7f404b71d73462eb11d925f577fa4f99f113a43febd", func := "tracery/tracerylaw07.EarleySpans", spec := "earleySpans", unfollowed := true, recurses := true, plainKeys := false, apart := false }
def EarleySpansSaid : Prop := earleySpansRow.holds Try.pinned (OpenSpec.ofChange earleySpansSpec)

/-- ITS FALSE NEIGHBOUR: 'it returns false'. Refute it at one input. -/
def earleySpansWrong : ChangeSpec := { name := "earleySpans", fn := fun _ => fun
  | [d1, d2, d3] => { results := [.lit (.bool false)], args := [d1, d2, d3] }
  | _ => none }
def EarleySpansWrongFalsely : Prop := earleySpansRow.holds Try.pinned (OpenSpec.ofChange earleySpansWrong)

/-- 'tracerylaw07.EarleyTwo': WHATEVER THE INPUT: true; the input reads as it did. -/
def earleyTwoSpec : ChangeSpec := { name := "earleyTwo", fn := fun _ => fun
  | [d1, d2, d3] => { results := [.lit (.bool true)], args := [d1, d2, d3] }
  | _ => none }
def earleyTwoRow : OpenClaim := { program := "ytafncpgiibikcaa", sum := "b47235427fa82e374d6aa7f404b71d73462eb11d925f577fa4f99f113a43febd", func := "tracery/tracerylaw07.EarleyTwo", spec := "earleyTwo", unfollowed := true, recurses := true, plainKeys := false, apart := false }
def EarleyTwoSaid : Prop := earleyTwoRow.holds Try.pinned (OpenSpec.ofChange earleyTwoSpec)

/-- ITS FALSE NEIGHBOUR: 'it returns false'. Refute it at one input. -/
def earleyTwoWrong : ChangeSpec := { name := "earleyTwo", fn := fun _ => fun
  | [d1, d2, d3] => { results := [.lit (.bool false)], args := [d1, d2, d3] }
  | _ => none }
def EarleyTwoWrongFalsely : Prop := earleyTwoRow.holds Try.pinned (OpenSpec.ofChange earleyTwoWrong)

/-- 'tracerylaw07.EarleyTurned': WHATEVER THE INPUT: true; the input reads as it did. -/
def earleyTurnedSpec : ChangeSpec := { name := "earleyTurned", fn := fun _ => fun
  | [d1, d2] => { results := [.lit (.bool true)], args := [d1, d2] }
  | _ => none }
def earleyTurnedRow : OpenClaim := { program := "ytafncpgiibikcaa", sum := "b47235427fa82e374d6aa7f404b71d73462eb11d925f577fa4f99f113a43febd", func := "tracery/tracerylaw07.EarleyTurned", spec := "earleyTurned", unfollowed := true, recurses := true, plainKeys := false, apart := false }
def EarleyTurnedSaid : Prop := earleyTurnedRow.holds Try.pinned (OpenSpec.ofChange earleyTurnedSpec)

/-- ITS FALSE NEIGHBOUR: 'it returns false'. Refute it at one input. -/
def earleyTurnedWrong : ChangeSpec := { name := "earleyTurned", fn := fun _ => fun
  | [d1, d2] => { results := [.lit (.bool false)], args := [d1, d2] }
  | _ => none }
def EarleyTurnedWrongFalsely : Prop := earleyTurnedRow.holds Try.pinned (OpenSpec.ofChange earleyTurnedWrong)

/-- 'tracerylaw07.EarleyWhole': WHATEVER THE INPUT: true; the input reads as it did. -/
def earleyWholeSpec : ChangeSpec := { name := "earleyWhole", fn := fun _ => fun
  | [d1, d2, d3] => { results := [.lit (.bool true)], args := [d1, d2, d3] }
  | _ => none }
def earleyWholeRow : OpenClaim := { program := "ytafncpgiibikcaa", sum := "b47235427fa82e374d6aa7f404b71d73462eb11d925f577fa4f99f113a43febd", func := "tracery/tracerylaw07.EarleyWhole", spec := "earleyWhole", unfollowed := true, recurses := true, plainKeys := false, apart := false }
def EarleyWholeSaid : Prop := earleyWholeRow.holds Try.pinned (OpenSpec.ofChange earleyWholeSpec)

/-- ITS FALSE NEIGHBOUR: 'it returns false'. Refute it at one input. -/
def earleyWholeWrong : ChangeSpec := { name := "earleyWhole", fn := fun _ => fun
  | [d1, d2, d3] => { results := [.lit (.bool false)], args := [d1, d2, d3] }
  | _ => none }
def EarleyWholeWrongFalsely : Prop := earleyWholeRow.holds Try.pinned (OpenSpec.ofChange earleyWholeWrong)

/-- 'tracerylaw07.EarleyCharts': WHATEVER THE INPUT: true; the input reads as it did. -/
def earleyChartsSpec : ChangeSpec := { name := "earleyCharts", fn := fun _ => fun
  | [d1, d2] => { results := [.lit (.bool true)], args := [d1, d2] }
  | _ => none }
def earleyChartsRow : OpenClaim := { program := "ytafncpgiibikcaa", sum := "b47235427fa82e374d6aa7f404b71d73462eb11d925f577fa4f99f113a43febd", func := "tracery/tracerylaw07.EarleyCharts", spec := "earleyCharts", unfollowed := true, recurses := true, plainKeys := false, apart := false }
def EarleyChartsSaid : Prop := earleyChartsRow.holds Try.pinned (OpenSpec.ofChange earleyChartsSpec)

/-- ITS FALSE NEIGHBOUR: 'it returns false'. Refute it at one input. -/
def earleyChartsWrong : ChangeSpec := { name := "earleyCharts", fn := fun _ => fun
  | [d1, d2] => { results := [.lit (.bool false)], args := [d1, d2] }
  | _ => none }
def EarleyChartsWrongFalsely : Prop := earleyChartsRow.holds Try.pinned (OpenSpec.ofChange earleyChartsWrong)

/-- 'tracerylaw07.EarleyBound': WHATEVER THE INPUT: true; the input reads as it did. -/
def earleyBoundSpec : ChangeSpec := { name := "earleyBound", fn := fun _ => fun
  | [d1, d2] => { results := [.lit (.bool true)], args := [d1, d2] }
  | _ => none }
def earleyBoundRow : OpenClaim := { program := "ytafncpgiibikcaa", sum := "b47235427fa82e374d6aa7f404b71d73462eb11d925f577fa4f99f113a43febd", func := "tracery/tracerylaw07.EarleyBound", spec := "earleyBound", unfollowed := true, recurses := true, plainKeys := false, apart := false }
def EarleyBoundSaid : Prop := earleyBoundRow.holds Try.pinned (OpenSpec.ofChange earleyBoundSpec)

/-- ITS FALSE NEIGHBOUR: 'it returns false'. Refute it at one input. -/
def earleyBoundWrong : ChangeSpec := { name := "earleyBound", fn := fun _ => fun
  | [d1, d2] => { results := [.lit (.bool false)], args := [d1, d2] }
  | _ => none }
def EarleyBoundWrongFalsely : Prop := earleyBoundRow.holds Try.pinned (OpenSpec.ofChange earleyBoundWrong)

/-- 'tracerylaw07.EarleyNext': WHATEVER THE INPUT: true; the input reads as it did. -/
def earleyNextSpec : ChangeSpec := { name := "earleyNext", fn := fun _ => fun
  | [d1, d2, d3] => { results := [.lit (.bool true)], args := [d1, d2, d3] }
  | _ => none }
def earleyNextRow : OpenClaim := { program := "ytafncpgiibikcaa", sum := "b47235427fa82e374d6aa7f404b71d73462eb11d925f577fa4f99f113a43febd", func := "tracery/tracerylaw07.EarleyNext", spec := "earleyNext", unfollowed := true, recurses := true, plainKeys := false, apart := false }
def EarleyNextSaid : Prop := earleyNextRow.holds Try.pinned (OpenSpec.ofChange earleyNextSpec)

/-- ITS FALSE NEIGHBOUR: 'it returns false'. Refute it at one input. -/
def earleyNextWrong : ChangeSpec := { name := "earleyNext", fn := fun _ => fun
  | [d1, d2, d3] => { results := [.lit (.bool false)], args := [d1, d2, d3] }
  | _ => none }
def EarleyNextWrongFalsely : Prop := earleyNextRow.holds Try.pinned (OpenSpec.ofChange earleyNextWrong)

/-- 'tracerylaw07.EarleyViable': WHATEVER THE INPUT: true; the input reads as it did. -/
def earleyViableSpec : ChangeSpec := { name := "earleyViable", fn := fun _ => fun
  | [d1, d2, d3] => { results := [.lit (.bool true)], args := [d1, d2, d3] }
  | _ => none }
def earleyViableRow : OpenClaim := { program := "ytafncpgiibikcaa", sum := "b47235427fa82e374d6aa7f404b71d73462eb11d925f577fa4f99f113a43febd", func := "tracery/tracerylaw07.EarleyViable", spec := "earleyViable", unfollowed := true, recurses := true, plainKeys := false, apart := false }
def EarleyViableSaid : Prop := earleyViableRow.holds Try.pinned (OpenSpec.ofChange earleyViableSpec)

/-- ITS FALSE NEIGHBOUR: 'it returns false'. Refute it at one input. -/
def earleyViableWrong : ChangeSpec := { name := "earleyViable", fn := fun _ => fun
  | [d1, d2, d3] => { results := [.lit (.bool false)], args := [d1, d2, d3] }
  | _ => none }
def EarleyViableWrongFalsely : Prop := earleyViableRow.holds Try.pinned (OpenSpec.ofChange earleyViableWrong)

/- THE SECOND FORM. 'bulk': how many values and letters a reading holds, each counted each time it is reached (what is shared counts as often as it is met; a slice's spare places count too). A statement '..UptoSaid' is the law's where the arguments, and the package variables that the reading takes, are together of bulk at most 1048576: NARROWER than '..Said'. Prove '..Said' where nothing that the law and all that it calls make is longer than what came in: it says more and counts as full. Else prove '..UptoSaid'. A law counts once. -/
mutual
def uptoBulk {H : Type} : DataW H → Nat
  | .lit (.string bytes) => bytes.length + 1
  | .lit _ => 1
  | .nil => 1
  | .ptr d => uptoBulk d + 1
  | .slice elems spare => uptoBulkAll elems + uptoBulkAll spare + 1
  | .agg parts => uptoBulkAll parts + 1
  | .iface _ d => uptoBulk d + 1
  | .map entries => uptoBulkEntries entries + 1
  | .held _ => 1
def uptoBulkAll {H : Type} : List (DataW H) → Nat
  | [] => 0
  | d :: r => uptoBulk d + uptoBulkAll r
def uptoBulkEntries {H : Type} : List (Lit × DataW H) → Nat
  | [] => 0
  | x :: r => uptoBulkEntry x + uptoBulkEntries r
def uptoBulkEntry {H : Type} : Lit × DataW H → Nat
  | (.string bytes, d) => bytes.length + uptoBulk d + 1
  | (_, d) => uptoBulk d + 1
 end
def uptoSmall : (H : Type) → List (DataW H) → Bool := fun _ ds => decide (uptoBulkAll ds ≤ 1048576)
def OpenSpec.upto (s : _root_.Go.ChangeSpec) : _root_.Go.OpenSpec := { _root_.Go.OpenSpec.ofChange s with cond := some uptoSmall }

/-- 'tracerylaw07.EarleyAccepts', WHERE WHAT IT READS IS OF BULK AT MOST 1048576: true; the input reads as it did. -/
def earleyAcceptsUptoRow : OpenClaim := { program := "ytafncpgiibikcaa", sum := "b47235427fa82e374d6aa7f404b71d73462eb11d925f577fa4f99f113a43febd", func := "tracery/tracerylaw07.EarleyAccepts", spec := "earleyAccepts", unfollowed := true, recurses := true, plainKeys := false, apart := false, narrowed := true }
def EarleyAcceptsUptoSaid : Prop := earleyAcceptsUptoRow.holds Try.pinned (OpenSpec.upto earleyAcceptsSpec)

/-- 'tracerylaw07.EarleyLast', WHERE WHAT IT READS IS OF BULK AT MOST 1048576: true; the input reads as it did. -/
def earleyLastUptoRow : OpenClaim := { program := "ytafncpgiibikcaa", sum := "b47235427fa82e374d6aa7f404b71d73462eb11d925f577fa4f99f113a43febd", func := "tracery/tracerylaw07.EarleyLast", spec := "earleyLast", unfollowed := true, recurses := true, plainKeys := false, apart := false, narrowed := true }
def EarleyLastUptoSaid : Prop := earleyLastUptoRow.holds Try.pinned (OpenSpec.upto earleyLastSpec)

/-- 'tracerylaw07.EarleySpans', WHERE WHAT IT READS IS OF BULK AT MOST 1048576: true; the input reads as it did. -/
def earleySpansUptoRow : OpenClaim := { program := "ytafncpgiibikcaa", sum := "b47235427fa82e374d6aa7f404b71d73462eb11d925f577fa4f99f113a43febd", func := "tracery/tracerylaw07.EarleySpans", spec := "earleySpans", unfollowed := true, recurses := true, plainKeys := false, apart := false, narrowed := true }
def EarleySpansUptoSaid : Prop := earleySpansUptoRow.holds Try.pinned (OpenSpec.upto earleySpansSpec)

/-- 'tracerylaw07.EarleyTwo', WHERE WHAT IT READS IS OF BULK AT MOST 1048576: true; the input reads as it did. -/
def earleyTwoUptoRow : OpenClaim := { program := "ytafncpgiibikcaa", sum := "b47235427fa82e374d6aa7f404b71d73462eb11d925f577fa4f99f113a43febd", func := "tracery/tracerylaw07.EarleyTwo", spec := "earleyTwo", unfollowed := true, recurses := true, plainKeys := false, apart := false, narrowed := true }
def EarleyTwoUptoSaid : Prop := earleyTwoUptoRow.holds Try.pinned (OpenSpec.upto earleyTwoSpec)

/-- 'tracerylaw07.EarleyTurned', WHERE WHAT IT READS IS OF BULK AT MOST 1048576: true; the input reads as it did. -/
def earleyTurnedUptoRow : OpenClaim := { program := "ytafncpgiibikcaa", sum := "b47235427fa82e374d6aa7f404b71d73462eb11d925f577fa4f99f113a43febd", func := "tracery/tracerylaw07.EarleyTurned", spec := "earleyTurned", unfollowed := true, recurses := true, plainKeys := false, apart := false, narrowed := true }
def EarleyTurnedUptoSaid : Prop := earleyTurnedUptoRow.holds Try.pinned (OpenSpec.upto earleyTurnedSpec)

/-- 'tracerylaw07.EarleyWhole', WHERE WHAT IT READS IS OF BULK AT MOST 1048576: true; the input reads as it did. -/
def earleyWholeUptoRow : OpenClaim := { program := "ytafncpgiibikcaa", sum := "b47235427fa82e374d6aa7f404b71d73462eb11d925f577fa4f99f113a43febd", func := "tracery/tracerylaw07.EarleyWhole", spec := "earleyWhole", unfollowed := true, recurses := true, plainKeys := false, apart := false, narrowed := true }
def EarleyWholeUptoSaid : Prop := earleyWholeUptoRow.holds Try.pinned (OpenSpec.upto earleyWholeSpec)

/-- 'tracerylaw07.EarleyCharts', WHERE WHAT IT READS IS OF BULK AT MOST 1048576: true; the input reads as it did. -/
def earleyChartsUptoRow : OpenClaim := { program := "ytafncpgiibikcaa", sum := "b47235427fa82e374d6aa7f404b71d73462eb11d925f577fa4f99f113a43febd", func := "tracery/tracerylaw07.EarleyCharts", spec := "earleyCharts", unfollowed := true, recurses := true, plainKeys := false, apart := false, narrowed := true }
def EarleyChartsUptoSaid : Prop := earleyChartsUptoRow.holds Try.pinned (OpenSpec.upto earleyChartsSpec)

/-- 'tracerylaw07.EarleyBound', WHERE WHAT IT READS IS OF BULK AT MOST 1048576: true; the input reads as it did. -/
def earleyBoundUptoRow : OpenClaim := { program := "ytafncpgiibikcaa", sum := "b47235427fa82e374d6aa7f404b71d73462eb11d925f577fa4f99f113a43febd", func := "tracery/tracerylaw07.EarleyBound", spec := "earleyBound", unfollowed := true, recurses := true, plainKeys := false, apart := false, narrowed := true }
def EarleyBoundUptoSaid : Prop := earleyBoundUptoRow.holds Try.pinned (OpenSpec.upto earleyBoundSpec)

/-- 'tracerylaw07.EarleyNext', WHERE WHAT IT READS IS OF BULK AT MOST 1048576: true; the input reads as it did. -/
def earleyNextUptoRow : OpenClaim := { program := "ytafncpgiibikcaa", sum := "b47235427fa82e374d6aa7f404b71d73462eb11d925f577fa4f99f113a43febd", func := "tracery/tracerylaw07.EarleyNext", spec := "earleyNext", unfollowed := true, recurses := true, plainKeys := false, apart := false, narrowed := true }
def EarleyNextUptoSaid : Prop := earleyNextUptoRow.holds Try.pinned (OpenSpec.upto earleyNextSpec)

/-- 'tracerylaw07.EarleyViable', WHERE WHAT IT READS IS OF BULK AT MOST 1048576: true; the input reads as it did. -/
def earleyViableUptoRow : OpenClaim := { program := "ytafncpgiibikcaa", sum := "b47235427fa82e374d6aa7f404b71d73462eb11d925f577fa4f99f113a43febd", func := "tracery/tracerylaw07.EarleyViable", spec := "earleyViable", unfollowed := true, recurses := true, plainKeys := false, apart := false, narrowed := true }
def EarleyViableUptoSaid : Prop := earleyViableUptoRow.holds Try.pinned (OpenSpec.upto earleyViableSpec)

end Rows
end Go.Proofs.Ytafncpgiibikcaa
