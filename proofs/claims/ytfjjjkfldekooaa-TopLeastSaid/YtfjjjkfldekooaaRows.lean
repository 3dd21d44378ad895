/-
  No cell of these rows narrows 'for every input' (looked for: loops, veiled, ifaces, maps, wideKeys, modest, calm, conditions, laid).
  DERIVED. THE GIVEN ROWS OF THIS SEAT. 5 by the template 'for every input the law returns true; each argument reads behind the call as it read before'; 0 by the template 'total and deterministic' (their statements: YtfjjjkfldekooaaTotals.lean).
  GIVEN WITH THE SEED: the statements are not yours to turn. If you find one false, say at which input.
  Laid BY PROGRAM, IN A SANDBOX (cutbox-rows.mjs): the forced cells as the released guide's own fill.sh prints them over the translation b45815efb049aa8b… (all of the seat's roots in one cut). By AI agents, Wed Nov 11 2026. No macro, syntax, notation, axiom, sorry.
-/
import Derived.Test.YtfjjjkfldekooaaChecked
import GoSem.Claim
import GoSem.ClaimJoined
import GoSem.ClaimMapViews
import Derived.JoinedTies
import Derived.KernelRfl
namespace Go.Proofs.Ytfjjjkfldekooaa
/- THE CELL 'sum', in the pinned program and in every row, IS THE sha256 OF THE DUMP (.gsa) THAT YtfjjjkfldekooaaProg.lean LOADS. Nothing in Lean hashes anything: it is a label: what it is worth is what the hold of that sum in a sandbox is worth. -/
noncomputable def Try.pinned : Pinned := { name := "ytfjjjkfldekooaa", sum := "b45815efb049aa8bc2143699c7457fac215e840fdec47c74efea4fd9a16b95b1", checked := Try.checked }
namespace Rows
def none {H : Type} : Left H := { results := [], args := [] }

/-- 'letterbecklaw2.WheelBack': WHATEVER THE INPUT: true; the input reads as it did. -/
def wheelBackSpec : ChangeSpec := { name := "wheelBack", fn := fun _ => fun
  | [d] => { results := [.lit (.bool true)], args := [d] }
  | _ => none }
def wheelBackRow : OpenClaim := { program := "ytfjjjkfldekooaa", sum := "b45815efb049aa8bc2143699c7457fac215e840fdec47c74efea4fd9a16b95b1", func := "letterbeck/letterbecklaw2.WheelBack", spec := "wheelBack", inPlace := ["internal/abi.NoEscape"], unfollowed := true, recurses := true, apart := false }
def WheelBackSaid : Prop := wheelBackRow.holds Try.pinned (OpenSpec.ofChange wheelBackSpec)

/-- ITS FALSE NEIGHBOUR: 'it returns false'. Refute it at one input. -/
def wheelBackWrong : ChangeSpec := { name := "wheelBack", fn := fun _ => fun
  | [d] => { results := [.lit (.bool false)], args := [d] }
  | _ => none }
def WheelBackWrongFalsely : Prop := wheelBackRow.holds Try.pinned (OpenSpec.ofChange wheelBackWrong)

/-- 'letterbecklaw2.WheelBytes': WHATEVER THE INPUT: true; the input reads as it did. -/
def wheelBytesSpec : ChangeSpec := { name := "wheelBytes", fn := fun _ => fun
  | [d] => { results := [.lit (.bool true)], args := [d] }
  | _ => none }
def wheelBytesRow : OpenClaim := { program := "ytfjjjkfldekooaa", sum := "b45815efb049aa8bc2143699c7457fac215e840fdec47c74efea4fd9a16b95b1", func := "letterbeck/letterbecklaw2.WheelBytes", spec := "wheelBytes", inPlace := ["internal/abi.NoEscape"], unfollowed := true, recurses := true, apart := false }
def WheelBytesSaid : Prop := wheelBytesRow.holds Try.pinned (OpenSpec.ofChange wheelBytesSpec)

/-- ITS FALSE NEIGHBOUR: 'it returns false'. Refute it at one input. -/
def wheelBytesWrong : ChangeSpec := { name := "wheelBytes", fn := fun _ => fun
  | [d] => { results := [.lit (.bool false)], args := [d] }
  | _ => none }
def WheelBytesWrongFalsely : Prop := wheelBytesRow.holds Try.pinned (OpenSpec.ofChange wheelBytesWrong)

/-- 'letterbecklaw2.WheelTurns': WHATEVER THE INPUT: true; the input reads as it did. -/
def wheelTurnsSpec : ChangeSpec := { name := "wheelTurns", fn := fun _ => fun
  | [d1, d2] => { results := [.lit (.bool true)], args := [d1, d2] }
  | _ => none }
def wheelTurnsRow : OpenClaim := { program := "ytfjjjkfldekooaa", sum := "b45815efb049aa8bc2143699c7457fac215e840fdec47c74efea4fd9a16b95b1", func := "letterbeck/letterbecklaw2.WheelTurns", spec := "wheelTurns", inPlace := ["internal/abi.NoEscape", "internal/bytealg.IndexByteString", "internal/bytealg.IndexString"], unfollowed := true, recurses := true, named := ["internal/bytealg.MaxLen"], apart := false }
def WheelTurnsSaid : Prop := wheelTurnsRow.holds Try.pinned (OpenSpec.ofChange wheelTurnsSpec)

/-- ITS FALSE NEIGHBOUR: 'it returns false'. Refute it at one input. -/
def wheelTurnsWrong : ChangeSpec := { name := "wheelTurns", fn := fun _ => fun
  | [d1, d2] => { results := [.lit (.bool false)], args := [d1, d2] }
  | _ => none }
def WheelTurnsWrongFalsely : Prop := wheelTurnsRow.holds Try.pinned (OpenSpec.ofChange wheelTurnsWrong)

/-- 'letterbecktop.TopSmall': WHATEVER THE INPUT: true; the input reads as it did. -/
def topSmallSpec : ChangeSpec := { name := "topSmall", fn := fun _ => fun
  | [d] => { results := [.lit (.bool true)], args := [d] }
  | _ => none }
def topSmallRow : OpenClaim := { program := "ytfjjjkfldekooaa", sum := "b45815efb049aa8bc2143699c7457fac215e840fdec47c74efea4fd9a16b95b1", func := "letterbeck/letterbecktop.TopSmall", spec := "topSmall", inPlace := ["internal/abi.NoEscape", "internal/bytealg.MakeNoZero", "internal/bytealg.IndexByte"], unfollowed := true, recurses := true, apart := false }
def TopSmallSaid : Prop := topSmallRow.holds Try.pinned (OpenSpec.ofChange topSmallSpec)

/-- ITS FALSE NEIGHBOUR: 'it returns false'. Refute it at one input. -/
def topSmallWrong : ChangeSpec := { name := "topSmall", fn := fun _ => fun
  | [d] => { results := [.lit (.bool false)], args := [d] }
  | _ => none }
def TopSmallWrongFalsely : Prop := topSmallRow.holds Try.pinned (OpenSpec.ofChange topSmallWrong)

/-- 'letterbecktop.TopLeast': WHATEVER THE INPUT: true; the input reads as it did. -/
def topLeastSpec : ChangeSpec := { name := "topLeast", fn := fun _ => fun
  | [d] => { results := [.lit (.bool true)], args := [d] }
  | _ => none }
def topLeastRow : OpenClaim := { program := "ytfjjjkfldekooaa", sum := "b45815efb049aa8bc2143699c7457fac215e840fdec47c74efea4fd9a16b95b1", func := "letterbeck/letterbecktop.TopLeast", spec := "topLeast", inPlace := ["internal/abi.NoEscape"], unfollowed := true, recurses := true, apart := false }
def TopLeastSaid : Prop := topLeastRow.holds Try.pinned (OpenSpec.ofChange topLeastSpec)

/-- ITS FALSE NEIGHBOUR: 'it returns false'. Refute it at one input. -/
def topLeastWrong : ChangeSpec := { name := "topLeast", fn := fun _ => fun
  | [d] => { results := [.lit (.bool false)], args := [d] }
  | _ => none }
def TopLeastWrongFalsely : Prop := topLeastRow.holds Try.pinned (OpenSpec.ofChange topLeastWrong)

/- THE SECOND FORM. 'bulk': how many values and letters a reading holds, each counted each time it is reached (what is shared counts as often as it is met; a slice's spare places count too). A statement '..UptoSaid' is the law's where the arguments, and the package variables that the reading takes, are together of bulk at most 1048576: NARROWER than '..Said'. Prove '..Said' where nothing that the law and all that it calls make is longer than what came in: it says more and counts as full. Else prove '..UptoSaid'. A law counts once. -/
mutual
def uptoBulk {H : Type} : DataW H → Nat
  | .lit (.string bytes) => bytes.length + 1
  | .lit _ => 1
  | .nil => 1
  | .ptr d => uptoBulk d + 1
  | .slice elems spare => uptoBulkAll elems + uptoBulkAll spare + 1
  | .agg parts => uptoBulkAll parts + 1
  | .iface _ d => uptoBulk d + 1
  | .map entries => uptoBulkEntries entries + 1
  | .held _ => 1
def uptoBulkAll {H : Type} : List (DataW H) → Nat
  | [] => 0
  | d :: r => uptoBulk d + uptoBulkAll r
def uptoBulkEntries {H : Type} : List (Lit × DataW H) → Nat
  | [] => 0
  | x :: r => uptoBulkEntry x + uptoBulkEntries r
def uptoBulkEntry {H : Type} : Lit × DataW H → Nat
  | (.string bytes, d) => bytes.length + uptoBulk d + 1
  | (_, d) => uptoBulk d + 1
 end
def uptoSmall : (H : Type) → List (DataW H) → Bool := fun _ ds => decide (uptoBulkAll ds ≤ 1048576)
def OpenSpec.upto (s : _root_.Go.ChangeSpec) : _root_.Go.OpenSpec := { _root_.Go.OpenSpec.ofChange s with cond := some uptoSmall }

/-- 'letterbecklaw2.WheelBack', WHERE WHAT IT READS IS OF BULK AT MOST 1048576: true; the input reads as it did. -/
def wheelBackUptoRow : OpenClaim := { program := "ytfjjjkfldekooaa", sum := "b45815efb049aa8bc2143699c7457fac215e840fdec47c74efea4fd9a16b95b1", func := "letterbeck/letterbecklaw2.WheelBack", spec := "wheelBack", inPlace := ["internal/abi.NoEscape"], unfollowed := true, recurses := true, apart := false, narrowed := true }
def WheelBackUptoSaid : Prop := wheelBackUptoRow.holds Try.pinned (OpenSpec.upto wheelBackSpec)

/-- 'letterbecklaw2.WheelBytes', WHERE WHAT IT READS IS OF BULK AT MOST 1048576: true; the input reads as it did. -/
def wheelBytesUptoRow : OpenClaim := { program := "ytfjjjkfldekooaa", sum := "b45815efb049aa8bc2143699c7457fac215e840fdec47c74efea4fd9a16b95b1", func := "letterbeck/letterbecklaw2.WheelBytes", spec := "wheelBytes", inPlace := ["internal/abi.NoEscape"], unfollowed := true, recurses := true, apart := false, narrowed := true }
def WheelBytesUptoSaid : Prop := wheelBytesUptoRow.holds Try.pinned (OpenSpec.upto wheelBytesSpec)

/-- 'letterbecklaw2.WheelTurns', WHERE WHAT IT READS IS OF BULK AT MOST 1048576: true; the input reads as it did. -/
def wheelTurnsUptoRow : OpenClaim := { program := "ytfjjjkfldekooaa", sum := "b45815efb049aa8bc2143699c7457fac215e840fdec47c74efea4fd9a16b95b1", func := "letterbeck/letterbecklaw2.WheelTurns", spec := "wheelTurns", inPlace := ["internal/abi.NoEscape", "internal/bytealg.IndexByteString", "internal/bytealg.IndexString"], unfollowed := true, recurses := true, named := ["internal/bytealg.MaxLen"], apart := false, narrowed := true }
def WheelTurnsUptoSaid : Prop := wheelTurnsUptoRow.holds Try.pinned (OpenSpec.upto wheelTurnsSpec)

/-- 'letterbecktop.TopSmall', WHERE WHAT IT READS IS OF BULK AT MOST 1048576: true; the input reads as it did. -/
def topSmallUptoRow : OpenClaim := { program := "ytfjjjkfldekooaa", sum := "b45815efb049aa8bc2143699c7457fac215e840fdec47c74efea4fd9a16b95b1", func := "letterbeck/letterbecktop.TopSmall", spec := "topSmall", inPlace := ["internal/abi.NoEscape", "internal/bytealg.MakeNoZero", "internal/bytealg.IndexByte"], unfollowed := true, recurses := true, apart := false, narrowed := true }
def TopSmallUptoSaid : Prop := topSmallUptoRow.holds Try.pinned (OpenSpec.upto topSmallSpec)

/-- 'letterbecktop.TopLeast', WHERE WHAT IT READS IS OF BULK AT MOST 1048576: true; the input reads as it did. -/
def topLeastUptoRow : OpenClaim := { program := "ytfjjjkfldekooaa", sum := "b45815efb049aa8bc2143699c7457fac215e840fdec47c74efea4fd9a16b95b1", func := "letterbeck/letterbecktop.TopLeast", spec := "topLeast", inPlace := ["internal/abi.NoEscape"], unfollowed := true, recurses := true, apart := false, narrowed := true }
def TopLeastUptoSaid : Prop := topLeastUptoRow.holds Try.pinned (OpenSpec.upto topLeastSpec)

end Rows
end Go.Proofs.Ytfjjjkfldekooaa
