/-
  No cell of these rows narrows 'for every input' (looked for: loops, veiled, ifaces, maps, wideKeys, modest, calm, conditions, laid).
  DERIVED. THE GIVEN ROWS OF THIS SEAT. 3 by the template 'for every input the law returns true; each argument reads behind the call as it read before'; 0 by the template 'total and deterministic' (their statements: YtacmkogdfienmaaTotals.lean).
  GIVEN WITH THE SEED: the statements are not yours to turn. If you find one false, say at which input.
  Laid BY PROGRAM, IN A SANDBOX (cutbox-rows.mjs): the forced cells as the released guide's own fill.sh prints them over the translation 86bb9260930efdc2… (all of the seat's roots in one cut). By AI agents, Wed Nov 11 2026. No macro, syntax, notation, axiom, sorry.
-/
import Derived.Test.YtacmkogdfienmaaChecked
import GoSem.Claim
import GoSem.ClaimJoined
import GoSem.ClaimMapViews
import Derived.JoinedTies
import Derived.KernelRfl
namespace Go.Proofs.Ytacmkogdfienmaa
/- THE CELL 'sum', in the pinned program and in every row, IS THE sha256 OF THE DUMP (.gsa) THAT YtacmkogdfienmaaProg.lean LOADS. Nothing in Lean hashes anything: it is a label: what it is worth is what the hold of that sum in a sandbox is worth. -/
noncomputable def Try.pinned : Pinned := { name := "ytacmkogdfienmaa", sum := "86bb9260930efdc2b3a3721a1896304ba14606a5a86cb5637ab6dd6a6541593b", checked := Try.checked }
namespace Rows
def none {H : Type} : Left H := { results := [], args := [] }

/-- 'letterbecklaw2.LempelBack': WHATEVER THE INPUT: true; the input reads as it did. -/
def lempelBackSpec : ChangeSpec := { name := "lempelBack", fn := fun _ => fun
  | [d] => { results := [.lit (.bool true)], args := [d] }
  | _ => none }
def lempelBackRow : OpenClaim := { program := "ytacmkogdfienmaa", sum := "86bb9260930efdc2b3a3721a1896304ba14606a5a86cb5637ab6dd6a6541593b", func := "letterbeck/letterbecklaw2.LempelBack", spec := "lempelBack", plainKeys := false, apart := false }
def LempelBackSaid : Prop := lempelBackRow.holds Try.pinned (OpenSpec.ofChange lempelBackSpec)

/-- ITS FALSE NEIGHBOUR: 'it returns false'. Refute it at one input. -/
def lempelBackWrong : ChangeSpec := { name := "lempelBack", fn := fun _ => fun
  | [d] => { results := [.lit (.bool false)], args := [d] }
  | _ => none }
def LempelBackWrongFalsely : Prop := lempelBackRow.holds Try.pinned (OpenSpec.ofChange lempelBackWrong)

/-- 'letterbecklaw2.LempelFresh': WHATEVER THE INPUT: true; the input reads as it did. -/
def lempelFreshSpec : ChangeSpec := { name := "lempelFresh", fn := fun _ => fun
  | [d] => { results := [.lit (.bool true)], args := [d] }
  | _ => none }
def lempelFreshRow : OpenClaim := { program := "ytacmkogdfienmaa", sum := "86bb9260930efdc2b3a3721a1896304ba14606a5a86cb5637ab6dd6a6541593b", func := "letterbeck/letterbecklaw2.LempelFresh", spec := "lempelFresh", plainKeys := false, apart := false }
def LempelFreshSaid : Prop := lempelFreshRow.holds Try.pinned (OpenSpec.ofChange lempelFreshSpec)

/-- ITS FALSE NEIGHBOUR: 'it returns false'. Refute it at one input. -/
def lempelFreshWrong : ChangeSpec := { name := "lempelFresh", fn := fun _ => fun
  | [d] => { results := [.lit (.bool false)], args := [d] }
  | _ => none }
def LempelFreshWrongFalsely : Prop := lempelFreshRow.holds Try.pinned (OpenSpec.ofChange lempelFreshWrong)

/-- 'letterbecklaw2.LempelMore': WHATEVER THE INPUT: true; the input reads as it did. -/
def lempelMoreSpec : ChangeSpec := { name := "lempelMore", fn := fun _ => fun
  | [d1, d2] => { results := [.lit (.bool true)], args := [d1, d2] }
  | _ => none }
def lempelMoreRow : OpenClaim := { program := "ytacmkogdfienmaa", sum := "86bb9260930efdc2b3a3721a1896304ba14606a5a86cb5637ab6dd6a6541593b", func := "letterbeck/letterbecklaw2.LempelMore", spec := "lempelMore", plainKeys := false, apart := false }
def LempelMoreSaid : Prop := lempelMoreRow.holds Try.pinned (OpenSpec.ofChange lempelMoreSpec)

/-- ITS FALSE NEIGHBOUR: 'it returns false'. Refute it at one input. -/
def lempelMoreWrong : ChangeSpec := { name := "lempelMore", fn := fun _ => fun
  | [d1, d2] => { results := [.lit (.bool false)], args := [d1, d2] }
  | _ => none }
def LempelMoreWrongFalsely : Prop := lempelMoreRow.holds Try.pinned (OpenSpec.ofChange lempelMoreWrong)

/- THE SECOND FORM. 'bulk': how many values and letters a reading holds, each counted each time it is reached (what is shared counts as often as it is met; a slice's spare places count too). A statement '..UptoSaid' is the law's where the arguments, and the package variables that the reading takes, are together of bulk at most 1048576: NARROWER than '..Said'. Prove '..Said' where nothing that the law and all that it calls make is longer than what came in: it says more and counts as full. Else prove '..UptoSaid'. A law counts once. -/
mutual
def uptoBulk {H : Type} : DataW H → Nat
  | .lit (.string bytes) => bytes.length + 1
  | .lit _ => 1
  | .nil => 1
  | .ptr d => uptoBulk d + 1
  | .slice elems spare => uptoBulkAll elems + uptoBulkAll spare + 1
  | .agg parts => uptoBulkAll parts + 1
  | .iface _ d => uptoBulk d + 1
  | .map entries => uptoBulkEntries entries + 1
  | .held _ => 1
def uptoBulkAll {H : Type} : List (DataW H) → Nat
  | [] => 0
  | d :: r => uptoBulk d + uptoBulkAll r
def uptoBulkEntries {H : Type} : List (Lit × DataW H) → Nat
  | [] => 0
  | x :: r => uptoBulkEntry x + uptoBulkEntries r
def uptoBulkEntry {H : Type} : Lit × DataW H → Nat
  | (.string bytes, d) => bytes.length + uptoBulk d + 1
  | (_, d) => uptoBulk d + 1
 end
def uptoSmall : (H : Type) → List (DataW H) → Bool := fun _ ds => decide (uptoBulkAll ds ≤ 1048576)
def OpenSpec.upto (s : _root_.Go.ChangeSpec) : _root_.Go.OpenSpec := { _root_.Go.OpenSpec.ofChange s with cond := some uptoSmall }

/-- 'letterbecklaw2.LempelBack', WHERE WHAT IT READS IS OF BULK AT MOST 1048576: true; the input reads as it did. -/
def lempelBackUptoRow : OpenClaim := { program := "ytacmkogdfienmaa", sum := "86bb9260930efdc2b3a3721a1896304ba14606a5a86cb5637ab6dd6a6541593b", func := "letterbeck/letterbecklaw2.LempelBack", spec := "lempelBack", plainKeys := false, apart := false, narrowed := true }
def LempelBackUptoSaid : Prop := lempelBackUptoRow.holds Try.pinned (OpenSpec.upto lempelBackSpec)

/-- 'letterbecklaw2.LempelFresh', WHERE WHAT IT READS IS OF BULK AT MOST 1048576: true; the input reads as it did. -/
def lempelFreshUptoRow : OpenClaim := { program := "ytacmkogdfienmaa", sum := "86bb9260930efdc2b3a3721a1896304ba14606a5a86cb5637ab6dd6a6541593b", func := "letterbeck/letterbecklaw2.LempelFresh", spec := "lempelFresh", plainKeys := false, apart := false, narrowed := true }
def LempelFreshUptoSaid : Prop := lempelFreshUptoRow.holds Try.pinned (OpenSpec.upto lempelFreshSpec)

/-- 'letterbecklaw2.LempelMore', WHERE WHAT IT READS IS OF BULK AT MOST 1048576: true; the input reads as it did. -/
def lempelMoreUptoRow : OpenClaim := { program := "ytacmkogdfienmaa", sum := "86bb9260930efdc2b3a3721a1896304ba14606a5a86cb5637ab6dd6a6541593b", func := "letterbeck/letterbecklaw2.LempelMore", spec := "lempelMore", plainKeys := false, apart := false, narrowed := true }
def LempelMoreUptoSaid : Prop := lempelMoreUptoRow.holds Try.pinned (OpenSpec.upto lempelMoreSpec)

end Rows
end Go.Proofs.Ytacmkogdfienmaa
