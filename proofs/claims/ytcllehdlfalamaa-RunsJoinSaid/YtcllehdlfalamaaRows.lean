/-
  No cell of these rows narrows 'for every input' (looked for: loops, veiled, ifaces, maps, wideKeys, modest, calm, conditions, laid).
  DERIVED. THE GIVEN ROWS OF THIS SEAT. 3 by the template 'for every input the law returns true; each argument reads behind the call as it read before'; 0 by the template 'total and deterministic' (their statements: YtcllehdlfalamaaTotals.lean).
  GIVEN WITH THE SEED: the statements are not yours to turn. If you find one false, say at which input.
  Laid BY PROGRAM, IN A SANDBOX (cutbox-rows.mjs): the forced cells as the released guide's own fill.sh prints them over the translation ed44669e8e60dbf3… (all of the seat's roots in one cut). By AI agents, Wed Nov 11 2026. No macro, syntax, notation, axiom, sorry.
-/
import Derived.Test.YtcllehdlfalamaaChecked
import GoSem.Claim
import GoSem.ClaimJoined
import GoSem.ClaimMapViews
import Derived.JoinedTies
import Derived.KernelRfl
namespace Go.Proofs.Ytcllehdlfalamaa
/- THE CELL 'sum', in the pinned program and in every row, IS THE sha256 OF THE DUMP (.gsa) THAT YtcllehdlfalamaaProg.lean LOADS. Nothing in Lean hashes anything: it is a label: what it is worth is what the hold of that sum in a sandbox is worth. -/
noncomputable def Try.pinned : Pinned := { name := "ytcllehdlfalamaa", sum := "ed44669e8e60dbf300116138e82ac14bc4c06cdb22d196b40b45e42e17181a77", checked := Try.checked }
namespace Rows
def none {H : Type} : Left H := { results := [], args := [] }

/-- 'letterbecklaw2.RunsBack': WHATEVER THE INPUT: true; the input reads as it did. -/
def runsBackSpec : ChangeSpec := { name := "runsBack", fn := fun _ => fun
  | [d1, d2] => { results := [.lit (.bool true)], args := [d1, d2] }
  | _ => none }
def runsBackRow : OpenClaim := { program := "ytcllehdlfalamaa", sum := "ed44669e8e60dbf300116138e82ac14bc4c06cdb22d196b40b45e42e17181a77", func := "letterbeck/letterbecklaw2.RunsBack", spec := "runsBack", inPlace := ["internal/abi.NoEscape", "internal/bytealg.MakeNoZero"], apart := false }
def RunsBackSaid : Prop := runsBackRow.holds Try.pinned (OpenSpec.ofChange runsBackSpec)

/-- ITS FALSE NEIGHBOUR: 'it returns false'. Refute it at one input. -/
def runsBackWrong : ChangeSpec := { name := "runsBack", fn := fun _ => fun
  | [d1, d2] => { results := [.lit (.bool false)], args := [d1, d2] }
  | _ => none }
def RunsBackWrongFalsely : Prop := runsBackRow.holds Try.pinned (OpenSpec.ofChange runsBackWrong)

/-- 'letterbecklaw2.RunsJoin': WHATEVER THE INPUT: true; the input reads as it did. -/
def runsJoinSpec : ChangeSpec := { name := "runsJoin", fn := fun _ => fun
  | [d1, d2] => { results := [.lit (.bool true)], args := [d1, d2] }
  | _ => none }
def runsJoinRow : OpenClaim := { program := "ytcllehdlfalamaa", sum := "ed44669e8e60dbf300116138e82ac14bc4c06cdb22d196b40b45e42e17181a77", func := "letterbeck/letterbecklaw2.RunsJoin", spec := "runsJoin", inPlace := ["internal/abi.NoEscape", "internal/bytealg.MakeNoZero"], apart := false }
def RunsJoinSaid : Prop := runsJoinRow.holds Try.pinned (OpenSpec.ofChange runsJoinSpec)

/-- ITS FALSE NEIGHBOUR: 'it returns false'. Refute it at one input. -/
def runsJoinWrong : ChangeSpec := { name := "runsJoin", fn := fun _ => fun
  | [d1, d2] => { results := [.lit (.bool false)], args := [d1, d2] }
  | _ => none }
def RunsJoinWrongFalsely : Prop := runsJoinRow.holds Try.pinned (OpenSpec.ofChange runsJoinWrong)

/-- 'letterbecklaw2.RunsSum': WHATEVER THE INPUT: true; the input reads as it did. -/
def runsSumSpec : ChangeSpec := { name := "runsSum", fn := fun _ => fun
  | [d] => { results := [.lit (.bool true)], args := [d] }
  | _ => none }
def runsSumRow : OpenClaim := { program := "ytcllehdlfalamaa", sum := "ed44669e8e60dbf300116138e82ac14bc4c06cdb22d196b40b45e42e17181a77", func := "letterbeck/letterbecklaw2.RunsSum", spec := "runsSum", inPlace := ["internal/abi.NoEscape", "internal/bytealg.MakeNoZero"], apart := false }
def RunsSumSaid : Prop := runsSumRow.holds Try.pinned (OpenSpec.ofChange runsSumSpec)

/-- ITS FALSE NEIGHBOUR: 'it returns false'. Refute it at one input. -/
def runsSumWrong : ChangeSpec := { name := "runsSum", fn := fun _ => fun
  | [d] => { results := [.lit (.bool false)], args := [d] }
  | _ => none }
def RunsSumWrongFalsely : Prop := runsSumRow.holds Try.pinned (OpenSpec.ofChange runsSumWrong)

/- THE SECOND FORM. 'bulk': how many values and letters a reading holds, each counted each time it is reached (what is shared counts as often as it is met; a slice's spare places count too). A statement '..UptoSaid' is the law's where the arguments, and the package variables that the reading takes, are together of bulk at most 1048576: NARROWER than '..Said'. Prove '..Said' where nothing that the law and all that it calls make is longer than what came in: it says more and counts as full. Else prove '..UptoSaid'. A law counts once. -/
mutual
def uptoBulk {H : Type} : DataW H → Nat
  | .lit (.string bytes) => bytes.length + 1
  | .lit _ => 1
  | .nil => 1
  | .ptr d => uptoBulk d + 1
  | .slice elems spare => uptoBulkAll elems + uptoBulkAll spare + 1
  | .agg parts => uptoBulkAll parts + 1
  | .iface _ d => uptoBulk d + 1
  | .map entries => uptoBulkEntries entries + 1
  | .held _ => 1
def uptoBulkAll {H : Type} : List (DataW H) → Nat
  | [] => 0
  | d :: r => uptoBulk d + uptoBulkAll r
def uptoBulkEntries {H : Type} : List (Lit × DataW H) → Nat
  | [] => 0
  | x :: r => uptoBulkEntry x + uptoBulkEntries r
def uptoBulkEntry {H : Type} : Lit × DataW H → Nat
  | (.string bytes, d) => bytes.length + uptoBulk d + 1
  | (_, d) => uptoBulk d + 1
 end
def uptoSmall : (H : Type) → List (DataW H) → Bool := fun _ ds => decide (uptoBulkAll ds ≤ 1048576)
def OpenSpec.upto (s : _root_.Go.ChangeSpec) : _root_.Go.OpenSpec := { _root_.Go.OpenSpec.ofChange s with cond := some uptoSmall }

/-- 'letterbecklaw2.RunsBack', WHERE WHAT IT READS IS OF BULK AT MOST 1048576: true; the input reads as it did. -/
def runsBackUptoRow : OpenClaim := { program := "ytcllehdlfalamaa", sum := "ed44669e8e60dbf300116138e82ac14bc4c06cdb22d196b40b45e42e17181a77", func := "letterbeck/letterbecklaw2.RunsBack", spec := "runsBack", inPlace := ["internal/abi.NoEscape", "internal/bytealg.MakeNoZero"], apart := false, narrowed := true }
def RunsBackUptoSaid : Prop := runsBackUptoRow.holds Try.pinned (OpenSpec.upto runsBackSpec)

/-- 'letterbecklaw2.RunsJoin', WHERE WHAT IT READS IS OF BULK AT MOST 1048576: true; the input reads as it did. -/
def runsJoinUptoRow : OpenClaim := { program := "ytcllehdlfalamaa", sum := "ed44669e8e60dbf300116138e82ac14bc4c06cdb22d196b40b45e42e17181a77", func := "letterbeck/letterbecklaw2.RunsJoin", spec := "runsJoin", inPlace := ["internal/abi.NoEscape", "internal/bytealg.MakeNoZero"], apart := false, narrowed := true }
def RunsJoinUptoSaid : Prop := runsJoinUptoRow.holds Try.pinned (OpenSpec.upto runsJoinSpec)

/-- 'letterbecklaw2.RunsSum', WHERE WHAT IT READS IS OF BULK AT MOST 1048576: true; the input reads as it did. -/
def runsSumUptoRow : OpenClaim := { program := "ytcllehdlfalamaa", sum := "ed44669e8e60dbf300116138e82ac14bc4c06cdb22d196b40b45e42e17181a77", func := "letterbeck/letterbecklaw2.RunsSum", spec := "runsSum", inPlace := ["internal/abi.NoEscape", "internal/bytealg.MakeNoZero"], apart := false, narrowed := true }
def RunsSumUptoSaid : Prop := runsSumUptoRow.holds Try.pinned (OpenSpec.upto runsSumSpec)

end Rows
end Go.Proofs.Ytcllehdlfalamaa
