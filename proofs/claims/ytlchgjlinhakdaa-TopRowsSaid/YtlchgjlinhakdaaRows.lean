/-
  No cell of these rows narrows 'for every input' (looked for: loops, veiled, ifaces, maps, wideKeys, modest, calm, conditions, laid).
  DERIVED. THE GIVEN ROWS OF THIS SEAT. 5 by the template 'for every input the law returns true; each argument reads behind the call as it read before'; 0 by the template 'total and deterministic' (their statements: YtlchgjlinhakdaaTotals.lean).
  GIVEN WITH THE SEED: the statements are not yours to turn. If you find one false, say at which input.
  Laid BY PROGRAM, IN A SANDBOX (cutbox-rows.mjs): the forced cells as the released guide's own fill.sh prints them over the translation 77faa01aba8b0f4e… (all of the seat's roots in one cut). By AI agents, Wed Nov 11 2026. No macro, syntax, notation, axiom, sorry.
-/
import Derived.Test.YtlchgjlinhakdaaChecked
import GoSem.Claim
import GoSem.ClaimJoined
import GoSem.ClaimMapViews
import Derived.JoinedTies
import Derived.KernelRfl
namespace Go.Proofs.Ytlchgjlinhakdaa
/- THE CELL 'sum', in the pinned program and in every row, IS THE sha256 OF THE DUMP (.gsa) THAT YtlchgjlinhakdaaProg.lean LOADS. Nothing in Lean hashes anything: it is a label: what it is worth is what the hold of that sum in a sandbox is worth. -/
noncomputable def Try.pinned : Pinned := { name := "ytlchgjlinhakdaa", sum := "77faa01aba8b0f4e351df2030fee58ae8008d1621b03554e9c55bdae7241622e", checked := Try.checked }
namespace Rows
def none {H : Type} : Left H := { results := [], args := [] }

/-- 'letterbecklaw2.RiseErdos': WHATEVER THE INPUT: true; the input reads as it did. -/
def riseErdosSpec : ChangeSpec := { name := "riseErdos", fn := fun _ => fun
  | [d] => { results := [.lit (.bool true)], args := [d] }
  | _ => none }
def riseErdosRow : OpenClaim := { program := "ytlchgjlinhakdaa", sum := "77faa01aba8b0f4e351df2030fee58ae8008d1621b03554e9c55bdae7241622e", func := "letterbeck/letterbecklaw2.RiseErdos", spec := "riseErdos", unfollowed := true, recurses := true, apart := false }
def RiseErdosSaid : Prop := riseErdosRow.holds Try.pinned (OpenSpec.ofChange riseErdosSpec)

/-- ITS FALSE NEIGHBOUR: 'it returns false'. Refute it at one input. -/
def riseErdosWrong : ChangeSpec := { name := "riseErdos", fn := fun _ => fun
  | [d] => { results := [.lit (.bool false)], args := [d] }
  | _ => none }
def RiseErdosWrongFalsely : Prop := riseErdosRow.holds Try.pinned (OpenSpec.ofChange riseErdosWrong)

/-- 'letterbecklaw2.RisePiles': WHATEVER THE INPUT: true; the input reads as it did. -/
def risePilesSpec : ChangeSpec := { name := "risePiles", fn := fun _ => fun
  | [d] => { results := [.lit (.bool true)], args := [d] }
  | _ => none }
def risePilesRow : OpenClaim := { program := "ytlchgjlinhakdaa", sum := "77faa01aba8b0f4e351df2030fee58ae8008d1621b03554e9c55bdae7241622e", func := "letterbeck/letterbecklaw2.RisePiles", spec := "risePiles", unfollowed := true, recurses := true, apart := false }
def RisePilesSaid : Prop := risePilesRow.holds Try.pinned (OpenSpec.ofChange risePilesSpec)

/-- ITS FALSE NEIGHBOUR: 'it returns false'. Refute it at one input. -/
def risePilesWrong : ChangeSpec := { name := "risePiles", fn := fun _ => fun
  | [d] => { results := [.lit (.bool false)], args := [d] }
  | _ => none }
def RisePilesWrongFalsely : Prop := risePilesRow.holds Try.pinned (OpenSpec.ofChange risePilesWrong)

/-- 'letterbecklaw2.RiseSchensted': WHATEVER THE INPUT: true; the input reads as it did. -/
def riseSchenstedSpec : ChangeSpec := { name := "riseSchensted", fn := fun _ => fun
  | [d] => { results := [.lit (.bool true)], args := [d] }
  | _ => none }
def riseSchenstedRow : OpenClaim := { program := "ytlchgjlinhakdaa", sum := "77faa01aba8b0f4e351df2030fee58ae8008d1621b03554e9c55bdae7241622e", func := "letterbeck/letterbecklaw2.RiseSchensted", spec := "riseSchensted", unfollowed := true, recurses := true, apart := false }
def RiseSchenstedSaid : Prop := riseSchenstedRow.holds Try.pinned (OpenSpec.ofChange riseSchenstedSpec)

/-- ITS FALSE NEIGHBOUR: 'it returns false'. Refute it at one input. -/
def riseSchenstedWrong : ChangeSpec := { name := "riseSchensted", fn := fun _ => fun
  | [d] => { results := [.lit (.bool false)], args := [d] }
  | _ => none }
def RiseSchenstedWrongFalsely : Prop := riseSchenstedRow.holds Try.pinned (OpenSpec.ofChange riseSchenstedWrong)

/-- 'letterbecklaw2.RiseMore': WHATEVER THE INPUT: true; the input reads as it did. -/
def riseMoreSpec : ChangeSpec := { name := "riseMore", fn := fun _ => fun
  | [d1, d2] => { results := [.lit (.bool true)], args := [d1, d2] }
  | _ => none }
def riseMoreRow : OpenClaim := { program := "ytlchgjlinhakdaa", sum := "77faa01aba8b0f4e351df2030fee58ae8008d1621b03554e9c55bdae7241622e", func := "letterbeck/letterbecklaw2.RiseMore", spec := "riseMore", unfollowed := true, recurses := true, apart := false }
def RiseMoreSaid : Prop := riseMoreRow.holds Try.pinned (OpenSpec.ofChange riseMoreSpec)

/-- ITS FALSE NEIGHBOUR: 'it returns false'. Refute it at one input. -/
def riseMoreWrong : ChangeSpec := { name := "riseMore", fn := fun _ => fun
  | [d1, d2] => { results := [.lit (.bool false)], args := [d1, d2] }
  | _ => none }
def RiseMoreWrongFalsely : Prop := riseMoreRow.holds Try.pinned (OpenSpec.ofChange riseMoreWrong)

/-- 'letterbecktop.TopRows': WHATEVER THE INPUT: true; the input reads as it did. -/
def topRowsSpec : ChangeSpec := { name := "topRows", fn := fun _ => fun
  | [d1, d2, d3] => { results := [.lit (.bool true)], args := [d1, d2, d3] }
  | _ => none }
def topRowsRow : OpenClaim := { program := "ytlchgjlinhakdaa", sum := "77faa01aba8b0f4e351df2030fee58ae8008d1621b03554e9c55bdae7241622e", func := "letterbeck/letterbecktop.TopRows", spec := "topRows", unfollowed := true, recurses := true, apart := false }
def TopRowsSaid : Prop := topRowsRow.holds Try.pinned (OpenSpec.ofChange topRowsSpec)

/-- ITS FALSE NEIGHBOUR: 'it returns false'. Refute it at one input. -/
def topRowsWrong : ChangeSpec := { name := "topRows", fn := fun _ => fun
  | [d1, d2, d3] => { results := [.lit (.bool false)], args := [d1, d2, d3] }
  | _ => none }
def TopRowsWrongFalsely : Prop := topRowsRow.holds Try.pinned (OpenSpec.ofChange topRowsWrong)

/- THE SECOND FORM. 'bulk': how many values and letters a reading holds, each counted each time it is reached (what is shared counts as often as it is met; a slice's spare places count too). A statement '..UptoSaid' is the law's where the arguments, and the package variables that the reading takes, are together of bulk at most 1048576: NARROWER than '..Said'. Prove '..Said' where nothing that the law and all that it calls make is longer than what came in: it says more and counts as full. Else prove '..UptoSaid'. A law counts once. -/
mutual
def uptoBulk {H : Type} : DataW H → Nat
  | .lit (.string bytes) => bytes.length + 1
  | .lit _ => 1
  | .nil => 1
  | .ptr d => uptoBulk d + 1
  | .slice elems spare => uptoBulkAll elems + uptoBulkAll spare + 1
  | .agg parts => uptoBulkAll parts + 1
  | .iface _ d => uptoBulk d + 1
  | .map entries => uptoBulkEntries entries + 1
  | .held _ => 1
def uptoBulkAll {H : Type} : List (DataW H) → Nat
  | [] => 0
  | d :: r => uptoBulk d + uptoBulkAll r
def uptoBulkEntries {H : Type} : List (Lit × DataW H) → Nat
  | [] => 0
  | x :: r => uptoBulkEntry x + uptoBulkEntries r
def uptoBulkEntry {H : Type} : Lit × DataW H → Nat
  | (.string bytes, d) => bytes.length + uptoBulk d + 1
  | (_, d) => uptoBulk d + 1
 end
def uptoSmall : (H : Type) → List (DataW H) → Bool := fun _ ds => decide (uptoBulkAll ds ≤ 1048576)
def OpenSpec.upto (s : _root_.Go.ChangeSpec) : _root_.Go.OpenSpec := { _root_.Go.OpenSpec.ofChange s with cond := some uptoSmall }

/-- 'letterbecklaw2.RiseErdos', WHERE WHAT IT READS IS OF BULK AT MOST 1048576: true; the input reads as it did. -/
def riseErdosUptoRow : OpenClaim := { program := "ytlchgjlinhakdaa", sum := "77faa01aba8b0f4e351df2030fee58ae8008d1621b03554e9c55bdae7241622e", func := "letterbeck/letterbecklaw2.RiseErdos", spec := "riseErdos", unfollowed := true, recurses := true, apart := false, narrowed := true }
def RiseErdosUptoSaid : Prop := riseErdosUptoRow.holds Try.pinned (OpenSpec.upto riseErdosSpec)

/-- 'letterbecklaw2.RisePiles', WHERE WHAT IT READS IS OF BULK AT MOST 1048576: true; the input reads as it did. -/
def risePilesUptoRow : OpenClaim := { program := "ytlchgjlinhakdaa", sum := "77faa01aba8b0f4e351df2030fee58ae8008d1621b03554e9c55bdae7241622e", func := "letterbeck/letterbecklaw2.RisePiles", spec := "risePiles", unfollowed := true, recurses := true, apart := false, narrowed := true }
def RisePilesUptoSaid : Prop := risePilesUptoRow.holds Try.pinned (OpenSpec.upto risePilesSpec)

/-- 'letterbecklaw2.RiseSchensted', WHERE WHAT IT READS IS OF BULK AT MOST 1048576: true; the input reads as it did. -/
def riseSchenstedUptoRow : OpenClaim := { program := "ytlchgjlinhakdaa", sum := "77faa01aba8b0f4e351df2030fee58ae8008d1621b03554e9c55bdae7241622e", func := "letterbeck/letterbecklaw2.RiseSchensted", spec := "riseSchensted", unfollowed := true, recurses := true, apart := false, narrowed := true }
def RiseSchenstedUptoSaid : Prop := riseSchenstedUptoRow.holds Try.pinned (OpenSpec.upto riseSchenstedSpec)

/-- 'letterbecklaw2.RiseMore', WHERE WHAT IT READS IS OF BULK AT MOST 1048576: true; the input reads as it did. -/
def riseMoreUptoRow : OpenClaim := { program := "ytlchgjlinhakdaa", sum := "77faa01aba8b0f4e351df2030fee58ae8008d1621b03554e9c55bdae7241622e", func := "letterbeck/letterbecklaw2.RiseMore", spec := "riseMore", unfollowed := true, recurses := true, apart := false, narrowed := true }
def RiseMoreUptoSaid : Prop := riseMoreUptoRow.holds Try.pinned (OpenSpec.upto riseMoreSpec)

/-- 'letterbecktop.TopRows', WHERE WHAT IT READS IS OF BULK AT MOST 1048576: true; the input reads as it did. -/
def topRowsUptoRow : OpenClaim := { program := "ytlchgjlinhakdaa", sum := "77faa01aba8b0f4e351df2030fee58ae8008d1621b03554e9c55bdae7241622e", func := "letterbeck/letterbecktop.TopRows", spec := "topRows", unfollowed := true, recurses := true, apart := false, narrowed := true }
def TopRowsUptoSaid : Prop := topRowsUptoRow.holds Try.pinned (OpenSpec.upto topRowsSpec)

end Rows
end Go.Proofs.Ytlchgjlinhakdaa
