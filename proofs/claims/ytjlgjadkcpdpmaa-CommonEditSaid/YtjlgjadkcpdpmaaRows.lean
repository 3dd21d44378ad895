/-
  No cell of these rows narrows 'for every input' (looked for: loops, veiled, ifaces, maps, wideKeys, modest, calm, conditions, laid).
  DERIVED. THE GIVEN ROWS OF THIS SEAT. 7 by the template 'for every input the law returns true; each argument reads behind the call as it read before'; 0 by the template 'total and deterministic' (their statements: YtjlgjadkcpdpmaaTotals.lean).
  GIVEN WITH THE SEED: the statements are not yours to turn. If you find one false, say at which input.
  Laid BY PROGRAM, IN A SANDBOX (cutbox-rows.mjs): the forced cells as the released guide's own fill.sh prints them over the translation ae7fe80e49ee5efd… (all of the seat's roots in one cut). By AI agents, Wed Nov 11 2026. No macro, syntax, notation, axiom, sorry.
-/
import Derived.Test.YtjlgjadkcpdpmaaChecked
import GoSem.Claim
import GoSem.ClaimJoined
import GoSem.ClaimMapViews
import Derived.JoinedTies
import Derived.KernelRfl
namespace Go.Proofs.Ytjlgjadkcpdpmaa
/- THE CELL 'sum', in the pinned program and in every row, IS THE sha256 OF THE DUMP (.gsa) THAT YtjlgjadkcpdpmaaProg.lean LOADS. Nothing in Lean hashes anything: it is a label: what it is worth is what the hold of that sum in a sandbox is worth. -/
noncomputable def Try.pinned : Pinned := { name := "ytjlgjadkcpdpmaa", sum := "ae7fe80e49ee5efda5bf7783e57ad5003ef264e6e7c9e07b12411e870a5430da", checked := Try.checked }
namespace Rows
def none {H : Type} : Left H := { results := [], args := [] }

/-- 'letterbecklaw2.CommonLongest': WHATEVER THE INPUT: true; the input reads as it did. -/
def commonLongestSpec : ChangeSpec := { name := "commonLongest", fn := fun _ => fun
  | [d1, d2, d3] => { results := [.lit (.bool true)], args := [d1, d2, d3] }
  | _ => none }
def commonLongestRow : OpenClaim := { program := "ytjlgjadkcpdpmaa", sum := "ae7fe80e49ee5efda5bf7783e57ad5003ef264e6e7c9e07b12411e870a5430da", func := "letterbeck/letterbecklaw2.CommonLongest", spec := "commonLongest", apart := false }
def CommonLongestSaid : Prop := commonLongestRow.holds Try.pinned (OpenSpec.ofChange commonLongestSpec)

/-- ITS FALSE NEIGHBOUR: 'it returns false'. Refute it at one input. -/
def commonLongestWrong : ChangeSpec := { name := "commonLongest", fn := fun _ => fun
  | [d1, d2, d3] => { results := [.lit (.bool false)], args := [d1, d2, d3] }
  | _ => none }
def CommonLongestWrongFalsely : Prop := commonLongestRow.holds Try.pinned (OpenSpec.ofChange commonLongestWrong)

/-- 'letterbecklaw2.CommonWithin': WHATEVER THE INPUT: true; the input reads as it did. -/
def commonWithinSpec : ChangeSpec := { name := "commonWithin", fn := fun _ => fun
  | [d1, d2, d3, d4, d5] => { results := [.lit (.bool true)], args := [d1, d2, d3, d4, d5] }
  | _ => none }
def commonWithinRow : OpenClaim := { program := "ytjlgjadkcpdpmaa", sum := "ae7fe80e49ee5efda5bf7783e57ad5003ef264e6e7c9e07b12411e870a5430da", func := "letterbeck/letterbecklaw2.CommonWithin", spec := "commonWithin", apart := false }
def CommonWithinSaid : Prop := commonWithinRow.holds Try.pinned (OpenSpec.ofChange commonWithinSpec)

/-- ITS FALSE NEIGHBOUR: 'it returns false'. Refute it at one input. -/
def commonWithinWrong : ChangeSpec := { name := "commonWithin", fn := fun _ => fun
  | [d1, d2, d3, d4, d5] => { results := [.lit (.bool false)], args := [d1, d2, d3, d4, d5] }
  | _ => none }
def CommonWithinWrongFalsely : Prop := commonWithinRow.holds Try.pinned (OpenSpec.ofChange commonWithinWrong)

/-- 'letterbecklaw2.EditMetric': WHATEVER THE INPUT: true; the input reads as it did. -/
def editMetricSpec : ChangeSpec := { name := "editMetric", fn := fun _ => fun
  | [d1, d2, d3] => { results := [.lit (.bool true)], args := [d1, d2, d3] }
  | _ => none }
def editMetricRow : OpenClaim := { program := "ytjlgjadkcpdpmaa", sum := "ae7fe80e49ee5efda5bf7783e57ad5003ef264e6e7c9e07b12411e870a5430da", func := "letterbeck/letterbecklaw2.EditMetric", spec := "editMetric", inPlace := ["internal/abi.NoEscape"], unfollowed := true, recurses := true, apart := false }
def EditMetricSaid : Prop := editMetricRow.holds Try.pinned (OpenSpec.ofChange editMetricSpec)

/-- ITS FALSE NEIGHBOUR: 'it returns false'. Refute it at one input. -/
def editMetricWrong : ChangeSpec := { name := "editMetric", fn := fun _ => fun
  | [d1, d2, d3] => { results := [.lit (.bool false)], args := [d1, d2, d3] }
  | _ => none }
def EditMetricWrongFalsely : Prop := editMetricRow.holds Try.pinned (OpenSpec.ofChange editMetricWrong)

/-- 'letterbecklaw2.EditSteps': WHATEVER THE INPUT: true; the input reads as it did. -/
def editStepsSpec : ChangeSpec := { name := "editSteps", fn := fun _ => fun
  | [d1, d2] => { results := [.lit (.bool true)], args := [d1, d2] }
  | _ => none }
def editStepsRow : OpenClaim := { program := "ytjlgjadkcpdpmaa", sum := "ae7fe80e49ee5efda5bf7783e57ad5003ef264e6e7c9e07b12411e870a5430da", func := "letterbeck/letterbecklaw2.EditSteps", spec := "editSteps", inPlace := ["internal/abi.NoEscape"], unfollowed := true, recurses := true, apart := false }
def EditStepsSaid : Prop := editStepsRow.holds Try.pinned (OpenSpec.ofChange editStepsSpec)

/-- ITS FALSE NEIGHBOUR: 'it returns false'. Refute it at one input. -/
def editStepsWrong : ChangeSpec := { name := "editSteps", fn := fun _ => fun
  | [d1, d2] => { results := [.lit (.bool false)], args := [d1, d2] }
  | _ => none }
def EditStepsWrongFalsely : Prop := editStepsRow.holds Try.pinned (OpenSpec.ofChange editStepsWrong)

/-- 'letterbecklaw2.EditBounds': WHATEVER THE INPUT: true; the input reads as it did. -/
def editBoundsSpec : ChangeSpec := { name := "editBounds", fn := fun _ => fun
  | [d1, d2, d3] => { results := [.lit (.bool true)], args := [d1, d2, d3] }
  | _ => none }
def editBoundsRow : OpenClaim := { program := "ytjlgjadkcpdpmaa", sum := "ae7fe80e49ee5efda5bf7783e57ad5003ef264e6e7c9e07b12411e870a5430da", func := "letterbeck/letterbecklaw2.EditBounds", spec := "editBounds", inPlace := ["internal/abi.NoEscape"], unfollowed := true, recurses := true, apart := false }
def EditBoundsSaid : Prop := editBoundsRow.holds Try.pinned (OpenSpec.ofChange editBoundsSpec)

/-- ITS FALSE NEIGHBOUR: 'it returns false'. Refute it at one input. -/
def editBoundsWrong : ChangeSpec := { name := "editBounds", fn := fun _ => fun
  | [d1, d2, d3] => { results := [.lit (.bool false)], args := [d1, d2, d3] }
  | _ => none }
def EditBoundsWrongFalsely : Prop := editBoundsRow.holds Try.pinned (OpenSpec.ofChange editBoundsWrong)

/-- 'letterbecklaw2.EditOne': WHATEVER THE INPUT: true; the input reads as it did. -/
def editOneSpec : ChangeSpec := { name := "editOne", fn := fun _ => fun
  | [d1, d2, d3, d4] => { results := [.lit (.bool true)], args := [d1, d2, d3, d4] }
  | _ => none }
def editOneRow : OpenClaim := { program := "ytjlgjadkcpdpmaa", sum := "ae7fe80e49ee5efda5bf7783e57ad5003ef264e6e7c9e07b12411e870a5430da", func := "letterbeck/letterbecklaw2.EditOne", spec := "editOne", inPlace := ["internal/abi.NoEscape"], unfollowed := true, recurses := true, apart := false }
def EditOneSaid : Prop := editOneRow.holds Try.pinned (OpenSpec.ofChange editOneSpec)

/-- ITS FALSE NEIGHBOUR: 'it returns false'. Refute it at one input. -/
def editOneWrong : ChangeSpec := { name := "editOne", fn := fun _ => fun
  | [d1, d2, d3, d4] => { results := [.lit (.bool false)], args := [d1, d2, d3, d4] }
  | _ => none }
def EditOneWrongFalsely : Prop := editOneRow.holds Try.pinned (OpenSpec.ofChange editOneWrong)

/-- 'letterbecklaw2.CommonEdit': WHATEVER THE INPUT: true; the input reads as it did. -/
def commonEditSpec : ChangeSpec := { name := "commonEdit", fn := fun _ => fun
  | [d1, d2] => { results := [.lit (.bool true)], args := [d1, d2] }
  | _ => none }
def commonEditRow : OpenClaim := { program := "ytjlgjadkcpdpmaa", sum := "ae7fe80e49ee5efda5bf7783e57ad5003ef264e6e7c9e07b12411e870a5430da", func := "letterbeck/letterbecklaw2.CommonEdit", spec := "commonEdit", apart := false }
def CommonEditSaid : Prop := commonEditRow.holds Try.pinned (OpenSpec.ofChange commonEditSpec)

/-- ITS FALSE NEIGHBOUR: 'it returns false'. Refute it at one input. -/
def commonEditWrong : ChangeSpec := { name := "commonEdit", fn := fun _ => fun
  | [d1, d2] => { results := [.lit (.bool false)], args := [d1, d2] }
  | _ => none }
def CommonEditWrongFalsely : Prop := commonEditRow.holds Try.pinned (OpenSpec.ofChange commonEditWrong)

/- THE SECOND FORM. 'bulk': how many values and letters a reading holds, each counted each time it is reached (what is shared counts as often as it is met; a slice's spare places count too). A statement '..UptoSaid' is the law's where the arguments, and the package variables that the reading takes, are together of bulk at most 1048576: NARROWER than '..Said'. Prove '..Said' where nothing that the law and all that it calls make is longer than what came in: it says more and counts as full. Else prove '..UptoSaid'. A law counts once. -/
mutual
def uptoBulk {H : Type} : DataW H → Nat
  | .lit (.string bytes) => bytes.length + 1
  | .lit _ => 1
  | .nil => 1
  | .ptr d => uptoBulk d + 1
  | .slice elems spare => uptoBulkAll elems + uptoBulkAll spare + 1
  | .agg parts => uptoBulkAll parts + 1
  | .iface _ d => uptoBulk d + 1
  | .map entries => uptoBulkEntries entries + 1
  | .held _ => 1
def uptoBulkAll {H : Type} : List (DataW H) → Nat
  | [] => 0
  | d :: r => uptoBulk d + uptoBulkAll r
def uptoBulkEntries {H : Type} : List (Lit × DataW H) → Nat
  | [] => 0
  | x :: r => uptoBulkEntry x + uptoBulkEntries r
def uptoBulkEntry {H : Type} : Lit × DataW H → Nat
  | (.string bytes, d) => bytes.length + uptoBulk d + 1
  | (_, d) => uptoBulk d + 1
 end
def uptoSmall : (H : Type) → List (DataW H) → Bool := fun _ ds => decide (uptoBulkAll ds ≤ 1048576)
def OpenSpec.upto (s : _root_.Go.ChangeSpec) : _root_.Go.OpenSpec := { _root_.Go.OpenSpec.ofChange s with cond := some uptoSmall }

/-- 'letterbecklaw2.CommonLongest', WHERE WHAT IT READS IS OF BULK AT MOST 1048576: true; the input reads as it did. -/
def commonLongestUptoRow : OpenClaim := { program := "ytjlgjadkcpdpmaa", sum := "ae7fe80e49ee5efda5bf7783e57ad5003ef264e6e7c9e07b12411e870a5430da", func := "letterbeck/letterbecklaw2.CommonLongest", spec := "commonLongest", apart := false, narrowed := true }
def CommonLongestUptoSaid : Prop := commonLongestUptoRow.holds Try.pinned (OpenSpec.upto commonLongestSpec)

/-- 'letterbecklaw2.CommonWithin', WHERE WHAT IT READS IS OF BULK AT MOST 1048576: true; the input reads as it did. -/
def commonWithinUptoRow : OpenClaim := { program := "ytjlgjadkcpdpmaa", sum := "ae7fe80e49ee5efda5bf7783e57ad5003ef264e6e7c9e07b12411e870a5430da", func := "letterbeck/letterbecklaw2.CommonWithin", spec := "commonWithin", apart := false, narrowed := true }
def CommonWithinUptoSaid : Prop := commonWithinUptoRow.holds Try.pinned (OpenSpec.upto commonWithinSpec)

/-- 'letterbecklaw2.EditMetric', WHERE WHAT IT READS IS OF BULK AT MOST 1048576: true; the input reads as it did. -/
def editMetricUptoRow : OpenClaim := { program := "ytjlgjadkcpdpmaa", sum := "ae7fe80e49ee5efda5bf7783e57ad5003ef264e6e7c9e07b12411e870a5430da", func := "letterbeck/letterbecklaw2.EditMetric", spec := "editMetric", inPlace := ["internal/abi.NoEscape"], unfollowed := true, recurses := true, apart := false, narrowed := true }
def EditMetricUptoSaid : Prop := editMetricUptoRow.holds Try.pinned (OpenSpec.upto editMetricSpec)

/-- 'letterbecklaw2.EditSteps', WHERE WHAT IT READS IS OF BULK AT MOST 1048576: true; the input reads as it did. -/
def editStepsUptoRow : OpenClaim := { program := "ytjlgjadkcpdpmaa", sum := "ae7fe80e49ee5efda5bf7783e57ad5003ef264e6e7c9e07b12411e870a5430da", func := "letterbeck/letterbecklaw2.EditSteps", spec := "editSteps", inPlace := ["internal/abi.NoEscape"], unfollowed := true, recurses := true, apart := false, narrowed := true }
def EditStepsUptoSaid : Prop := editStepsUptoRow.holds Try.pinned (OpenSpec.upto editStepsSpec)

/-- 'letterbecklaw2.EditBounds', WHERE WHAT IT READS IS OF BULK AT MOST 1048576: true; the input reads as it did. -/
def editBoundsUptoRow : OpenClaim := { program := "ytjlgjadkcpdpmaa", sum := "ae7fe80e49ee5efda5bf7783e57ad5003ef264e6e7c9e07b12411e870a5430da", func := "letterbeck/letterbecklaw2.EditBounds", spec := "editBounds", inPlace := ["internal/abi.NoEscape"], unfollowed := true, recurses := true, apart := false, narrowed := true }
def EditBoundsUptoSaid : Prop := editBoundsUptoRow.holds Try.pinned (OpenSpec.upto editBoundsSpec)

/-- 'letterbecklaw2.EditOne', WHERE WHAT IT READS IS OF BULK AT MOST 1048576: true; the input reads as it did. -/
def editOneUptoRow : OpenClaim := { program := "ytjlgjadkcpdpmaa", sum := "ae7fe80e49ee5efda5bf7783e57ad5003ef264e6e7c9e07b12411e870a5430da", func := "letterbeck/letterbecklaw2.EditOne", spec := "editOne", inPlace := ["internal/abi.NoEscape"], unfollowed := true, recurses := true, apart := false, narrowed := true }
def EditOneUptoSaid : Prop := editOneUptoRow.holds Try.pinned (OpenSpec.upto editOneSpec)

/-- 'letterbecklaw2.CommonEdit', WHERE WHAT IT READS IS OF BULK AT MOST 1048576: true; the input reads as it did. -/
def commonEditUptoRow : OpenClaim := { program := "ytjlgjadkcpdpmaa", sum := "ae7fe80e49ee5efda5bf7783e57ad5003ef264e6e7c9e07b12411e870a5430da", func := "letterbeck/letterbecklaw2.CommonEdit", spec := "commonEdit", apart := false, narrowed := true }
def CommonEditUptoSaid : Prop := commonEditUptoRow.holds Try.pinned (OpenSpec.upto commonEditSpec)

end Rows
end Go.Proofs.Ytjlgjadkcpdpmaa
