/-
  No cell of these rows narrows 'for every input' (looked for: loops, veiled, ifaces, maps, wideKeys, modest, calm, conditions, laid).
  DERIVED. THE GIVEN ROWS OF THIS SEAT. 8 by the template 'for every input the law returns true; each argument reads behind the call as it read before'; 0 by the template 'total and deterministic' (their statements: YtjpjnjidchdlbaaTotals.lean).
  GIVEN WITH THE SEED: the statements are not yours to turn. If you find one false, say at which input.
  Laid BY PROGRAM, IN A SANDBOX (cutbox-rows.mjs): the forced cells as the released guide's own fill.sh prints them over the translation 570eeab23f5ecf00… (all of the seat's roots in one cut). By AI agents, Wed Nov 11 2026. No macro, syntax, notation, axiom, sorry.
-/
import Derived.Test.YtjpjnjidchdlbaaChecked
import GoSem.Claim
import GoSem.ClaimJoined
import GoSem.ClaimMapViews
import Derived.JoinedTies
import Derived.KernelRfl
namespace Go.Proofs.Ytjpjnjidchdlbaa
/- THE CELL 'sum', in the pinned program and in every row, IS THE sha256 OF THE DUMP (.gsa) THAT YtjpjnjidchdlbaaProg.lean LOADS. Nothing in Lean hashes anything: it is a label: what it is worth is what the hold of that sum in a sandbox is worth. -/
noncomputable def Try.pinned : Pinned := { name := "ytjpjnjidchdlbaa", sum := "570eeab23f5ecf00bded120ffaf35870f3814a39f787321763726dd3012fe457", checked := Try.checked }
namespace Rows
def none {H : Type} : Left H := { results := [], args := [] }

/-- 'gyrelaw09.VecCross': WHATEVER THE INPUT: true; the input reads as it did. -/
def vecCrossSpec : ChangeSpec := { name := "vecCross", fn := fun _ => fun
  | [d1, d2] => { results := [.lit (.bool true)], args := [d1, d2] }
  | _ => none }
def vecCrossRow : OpenClaim := { program := "ytjpjnjidchdlbaa", sum := "570eeab23f5ecf00bded120ffaf35870f3814a39f787321763726dd3012fe457", func := "gyre/gyrelaw09.VecCross", spec := "vecCross", unfollowed := true, recurses := true, apart := false }
def VecCrossSaid : Prop := vecCrossRow.holds Try.pinned (OpenSpec.ofChange vecCrossSpec)

/-- ITS FALSE NEIGHBOUR: 'it returns false'. Refute it at one input. -/
def vecCrossWrong : ChangeSpec := { name := "vecCross", fn := fun _ => fun
  | [d1, d2] => { results := [.lit (.bool false)], args := [d1, d2] }
  | _ => none }
def VecCrossWrongFalsely : Prop := vecCrossRow.holds Try.pinned (OpenSpec.ofChange vecCrossWrong)

/-- 'gyrelaw09.VecSums': WHATEVER THE INPUT: true; the input reads as it did. -/
def vecSumsSpec : ChangeSpec := { name := "vecSums", fn := fun _ => fun
  | [d1, d2, d3, d4] => { results := [.lit (.bool true)], args := [d1, d2, d3, d4] }
  | _ => none }
def vecSumsRow : OpenClaim := { program := "ytjpjnjidchdlbaa", sum := "570eeab23f5ecf00bded120ffaf35870f3814a39f787321763726dd3012fe457", func := "gyre/gyrelaw09.VecSums", spec := "vecSums", unfollowed := true, recurses := true, apart := false }
def VecSumsSaid : Prop := vecSumsRow.holds Try.pinned (OpenSpec.ofChange vecSumsSpec)

/-- ITS FALSE NEIGHBOUR: 'it returns false'. Refute it at one input. -/
def vecSumsWrong : ChangeSpec := { name := "vecSums", fn := fun _ => fun
  | [d1, d2, d3, d4] => { results := [.lit (.bool false)], args := [d1, d2, d3, d4] }
  | _ => none }
def VecSumsWrongFalsely : Prop := vecSumsRow.holds Try.pinned (OpenSpec.ofChange vecSumsWrong)

/-- 'gyrelaw09.VecFar': WHATEVER THE INPUT: true; the input reads as it did. -/
def vecFarSpec : ChangeSpec := { name := "vecFar", fn := fun _ => fun
  | [d1, d2, d3, d4] => { results := [.lit (.bool true)], args := [d1, d2, d3, d4] }
  | _ => none }
def vecFarRow : OpenClaim := { program := "ytjpjnjidchdlbaa", sum := "570eeab23f5ecf00bded120ffaf35870f3814a39f787321763726dd3012fe457", func := "gyre/gyrelaw09.VecFar", spec := "vecFar", unfollowed := true, recurses := true, apart := false }
def VecFarSaid : Prop := vecFarRow.holds Try.pinned (OpenSpec.ofChange vecFarSpec)

/-- ITS FALSE NEIGHBOUR: 'it returns false'. Refute it at one input. -/
def vecFarWrong : ChangeSpec := { name := "vecFar", fn := fun _ => fun
  | [d1, d2, d3, d4] => { results := [.lit (.bool false)], args := [d1, d2, d3, d4] }
  | _ => none }
def VecFarWrongFalsely : Prop := vecFarRow.holds Try.pinned (OpenSpec.ofChange vecFarWrong)

/-- 'gyrelaw09.VecOver': WHATEVER THE INPUT: true; the input reads as it did. -/
def vecOverSpec : ChangeSpec := { name := "vecOver", fn := fun _ => fun
  | [d1, d2, d3] => { results := [.lit (.bool true)], args := [d1, d2, d3] }
  | _ => none }
def vecOverRow : OpenClaim := { program := "ytjpjnjidchdlbaa", sum := "570eeab23f5ecf00bded120ffaf35870f3814a39f787321763726dd3012fe457", func := "gyre/gyrelaw09.VecOver", spec := "vecOver", unfollowed := true, recurses := true, apart := false }
def VecOverSaid : Prop := vecOverRow.holds Try.pinned (OpenSpec.ofChange vecOverSpec)

/-- ITS FALSE NEIGHBOUR: 'it returns false'. Refute it at one input. -/
def vecOverWrong : ChangeSpec := { name := "vecOver", fn := fun _ => fun
  | [d1, d2, d3] => { results := [.lit (.bool false)], args := [d1, d2, d3] }
  | _ => none }
def VecOverWrongFalsely : Prop := vecOverRow.holds Try.pinned (OpenSpec.ofChange vecOverWrong)

/-- 'gyrelaw10.StateRows': WHATEVER THE INPUT: true; the input reads as it did. -/
def stateRowsSpec : ChangeSpec := { name := "stateRows", fn := fun _ => fun
  | [d1, d2] => { results := [.lit (.bool true)], args := [d1, d2] }
  | _ => none }
def stateRowsRow : OpenClaim := { program := "ytjpjnjidchdlbaa", sum := "570eeab23f5ecf00bded120ffaf35870f3814a39f787321763726dd3012fe457", func := "gyre/gyrelaw10.StateRows", spec := "stateRows", unfollowed := true, recurses := true, apart := false }
def StateRowsSaid : Prop := stateRowsRow.holds Try.pinned (OpenSpec.ofChange stateRowsSpec)

/-- ITS FALSE NEIGHBOUR: 'it returns false'. Refute it at one input. -/
def stateRowsWrong : ChangeSpec := { name := "stateRows", fn := fun _ => fun
  | [d1, d2] => { results := [.lit (.bool false)], args := [d1, d2] }
  | _ => none }
def StateRowsWrongFalsely : Prop := stateRowsRow.holds Try.pinned (OpenSpec.ofChange stateRowsWrong)

/-- 'gyrelaw10.StateTurned': WHATEVER THE INPUT: true; the input reads as it did. -/
def stateTurnedSpec : ChangeSpec := { name := "stateTurned", fn := fun _ => fun
  | [d] => { results := [.lit (.bool true)], args := [d] }
  | _ => none }
def stateTurnedRow : OpenClaim := { program := "ytjpjnjidchdlbaa", sum := "570eeab23f5ecf00bded120ffaf35870f3814a39f787321763726dd3012fe457", func := "gyre/gyrelaw10.StateTurned", spec := "stateTurned", unfollowed := true, recurses := true, apart := false }
def StateTurnedSaid : Prop := stateTurnedRow.holds Try.pinned (OpenSpec.ofChange stateTurnedSpec)

/-- ITS FALSE NEIGHBOUR: 'it returns false'. Refute it at one input. -/
def stateTurnedWrong : ChangeSpec := { name := "stateTurned", fn := fun _ => fun
  | [d] => { results := [.lit (.bool false)], args := [d] }
  | _ => none }
def StateTurnedWrongFalsely : Prop := stateTurnedRow.holds Try.pinned (OpenSpec.ofChange stateTurnedWrong)

/-- 'gyrelaw10.StateWithin': WHATEVER THE INPUT: true; the input reads as it did. -/
def stateWithinSpec : ChangeSpec := { name := "stateWithin", fn := fun _ => fun
  | [d1, d2, d3, d4, d5] => { results := [.lit (.bool true)], args := [d1, d2, d3, d4, d5] }
  | _ => none }
def stateWithinRow : OpenClaim := { program := "ytjpjnjidchdlbaa", sum := "570eeab23f5ecf00bded120ffaf35870f3814a39f787321763726dd3012fe457", func := "gyre/gyrelaw10.StateWithin", spec := "stateWithin", unfollowed := true, recurses := true, apart := false }
def StateWithinSaid : Prop := stateWithinRow.holds Try.pinned (OpenSpec.ofChange stateWithinSpec)

/-- ITS FALSE NEIGHBOUR: 'it returns false'. Refute it at one input. -/
def stateWithinWrong : ChangeSpec := { name := "stateWithin", fn := fun _ => fun
  | [d1, d2, d3, d4, d5] => { results := [.lit (.bool false)], args := [d1, d2, d3, d4, d5] }
  | _ => none }
def StateWithinWrongFalsely : Prop := stateWithinRow.holds Try.pinned (OpenSpec.ofChange stateWithinWrong)

/-- 'gyrelaw10.StateLeast': WHATEVER THE INPUT: true; the input reads as it did. -/
def stateLeastSpec : ChangeSpec := { name := "stateLeast", fn := fun _ => fun
  | [d] => { results := [.lit (.bool true)], args := [d] }
  | _ => none }
def stateLeastRow : OpenClaim := { program := "ytjpjnjidchdlbaa", sum := "570eeab23f5ecf00bded120ffaf35870f3814a39f787321763726dd3012fe457", func := "gyre/gyrelaw10.StateLeast", spec := "stateLeast", unfollowed := true, recurses := true, apart := false }
def StateLeastSaid : Prop := stateLeastRow.holds Try.pinned (OpenSpec.ofChange stateLeastSpec)

/-- ITS FALSE NEIGHBOUR: 'it returns false'. Refute it at one input. -/
def stateLeastWrong : ChangeSpec := { name := "stateLeast", fn := fun _ => fun
  | [d] => { results := [.lit (.bool false)], args := [d] }
  | _ => none }
def StateLeastWrongFalsely : Prop := stateLeastRow.holds Try.pinned (OpenSpec.ofChange stateLeastWrong)

/- THE SECOND FORM. 'bulk': how many values and letters a reading holds, each counted each time it is reached (what is shared counts as often as it is met; a slice's spare places count too). A statement '..UptoSaid' is the law's where the arguments, and the package variables that the reading takes, are together of bulk at most 1048576: NARROWER than '..Said'. Prove '..Said' where nothing that the law and all that it calls make is longer than what came in: it says more and counts as full. Else prove '..UptoSaid'. A law counts once. -/
mutual
def uptoBulk {H : Type} : DataW H → Nat
  | .lit (.string bytes) => bytes.length + 1
  | .lit _ => 1
  | .nil => 1
  | .ptr d => uptoBulk d + 1
  | .slice elems spare => uptoBulkAll elems + uptoBulkAll spare + 1
  | .agg parts => uptoBulkAll parts + 1
  | .iface _ d => uptoBulk d + 1
  | .map entries => uptoBulkEntries entries + 1
  | .held _ => 1
def uptoBulkAll {H : Type} : List (DataW H) → Nat
  | [] => 0
  | d :: r => uptoBulk d + uptoBulkAll r
def uptoBulkEntries {H : Type} : List (Lit × DataW H) → Nat
  | [] => 0
  | x :: r => uptoBulkEntry x + uptoBulkEntries r
def uptoBulkEntry {H : Type} : Lit × DataW H → Nat
  | (.string bytes, d) => bytes.length + uptoBulk d + 1
  | (_, d) => uptoBulk d + 1
 end
def uptoSmall : (H : Type) → List (DataW H) → Bool := fun _ ds => decide (uptoBulkAll ds ≤ 1048576)
def OpenSpec.upto (s : _root_.Go.ChangeSpec) : _root_.Go.OpenSpec := { _root_.Go.OpenSpec.ofChange s with cond := some uptoSmall }

/-- 'gyrelaw09.VecCross', WHERE WHAT IT READS IS OF BULK AT MOST 1048576: true; the input reads as it did. -/
def vecCrossUptoRow : OpenClaim := { program := "ytjpjnjidchdlbaa", sum := "570eeab23f5ecf00bded120ffaf35870f3814a39f787321763726dd3012fe457", func := "gyre/gyrelaw09.VecCross", spec := "vecCross", unfollowed := true, recurses := true, apart := false, narrowed := true }
def VecCrossUptoSaid : Prop := vecCrossUptoRow.holds Try.pinned (OpenSpec.upto vecCrossSpec)

/-- 'gyrelaw09.VecSums', WHERE WHAT IT READS IS OF BULK AT MOST 1048576: true; the input reads as it did. -/
def vecSumsUptoRow : OpenClaim := { program := "ytjpjnjidchdlbaa", sum := "570eeab23f5ecf00bded120ffaf35870f3814a39f787321763726dd3012fe457", func := "gyre/gyrelaw09.VecSums", spec := "vecSums", unfollowed := true, recurses := true, apart := false, narrowed := true }
def VecSumsUptoSaid : Prop := vecSumsUptoRow.holds Try.pinned (OpenSpec.upto vecSumsSpec)

/-- 'gyrelaw09.VecFar', WHERE WHAT IT READS IS OF BULK AT MOST 1048576: true; the input reads as it did. -/
def vecFarUptoRow : OpenClaim := { program := "ytjpjnjidchdlbaa", sum := "570eeab23f5ecf00bded120ffaf35870f3814a39f787321763726dd3012fe457", func := "gyre/gyrelaw09.VecFar", spec := "vecFar", unfollowed := true, recurses := true, apart := false, narrowed := true }
def VecFarUptoSaid : Prop := vecFarUptoRow.holds Try.pinned (OpenSpec.upto vecFarSpec)

/-- 'gyrelaw09.VecOver', WHERE WHAT IT READS IS OF BULK AT MOST 1048576: true; the input reads as it did. -/
def vecOverUptoRow : OpenClaim := { program := "ytjpjnjidchdlbaa", sum := "570eeab23f5ecf00bded120ffaf35870f3814a39f787321763726dd3012fe457", func := "gyre/gyrelaw09.VecOver", spec := "vecOver", unfollowed := true, recurses := true, apart := false, narrowed := true }
def VecOverUptoSaid : Prop := vecOverUptoRow.holds Try.pinned (OpenSpec.upto vecOverSpec)

/-- 'gyrelaw10.StateRows', WHERE WHAT IT READS IS OF BULK AT MOST 1048576: true; the input reads as it did. -/
def stateRowsUptoRow : OpenClaim := { program := "ytjpjnjidchdlbaa", sum := "570eeab23f5ecf00bded120ffaf35870f3814a39f787321763726dd3012fe457", func := "gyre/gyrelaw10.StateRows", spec := "stateRows", unfollowed := true, recurses := true, apart := false, narrowed := true }
def StateRowsUptoSaid : Prop := stateRowsUptoRow.holds Try.pinned (OpenSpec.upto stateRowsSpec)

/-- 'gyrelaw10.StateTurned', WHERE WHAT IT READS IS OF BULK AT MOST 1048576: true; the input reads as it did. -/
def stateTurnedUptoRow : OpenClaim := { program := "ytjpjnjidchdlbaa", sum := "570eeab23f5ecf00bded120ffaf35870f3814a39f787321763726dd3012fe457", func := "gyre/gyrelaw10.StateTurned", spec := "stateTurned", unfollowed := true, recurses := true, apart := false, narrowed := true }
def StateTurnedUptoSaid : Prop := stateTurnedUptoRow.holds Try.pinned (OpenSpec.upto stateTurnedSpec)

/-- 'gyrelaw10.StateWithin', WHERE WHAT IT READS IS OF BULK AT MOST 1048576: true; the input reads as it did. -/
def stateWithinUptoRow : OpenClaim := { program := "ytjpjnjidchdlbaa", sum := "570eeab23f5ecf00bded120ffaf35870f3814a39f787321763726dd3012fe457", func := "gyre/gyrelaw10.StateWithin", spec := "stateWithin", unfollowed := true, recurses := true, apart := false, narrowed := true }
def StateWithinUptoSaid : Prop := stateWithinUptoRow.holds Try.pinned (OpenSpec.upto stateWithinSpec)

/-- 'gyrelaw10.StateLeast', WHERE WHAT IT READS IS OF BULK AT MOST 1048576: true; the input reads as it did. -/
def stateLeastUptoRow : OpenClaim := { program := "ytjpjnjidchdlbaa", sum := "570eeab23f5ecf00bded120ffaf35870f3814a39f787321763726dd3012fe457", func := "gyre/gyrelaw10.StateLeast", spec := "stateLeast", unfollowed := true, recurses := true, apart := false, narrowed := true }
def StateLeastUptoSaid : Prop := stateLeastUptoRow.holds Try.pinned (OpenSpec.upto stateLeastSpec)

end Rows
end Go.Proofs.Ytjpjnjidchdlbaa
