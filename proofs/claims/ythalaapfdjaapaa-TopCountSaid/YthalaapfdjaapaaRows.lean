/-
  No cell of these rows narrows 'for every input' (looked for: loops, veiled, ifaces, maps, wideKeys, modest, calm, conditions, laid).
  DERIVED. THE GIVEN ROWS OF THIS SEAT. 6 by the template 'for every input the law returns true; each argument reads behind the call as it read before'; 0 by the template 'total and deterministic' (their statements: YthalaapfdjaapaaTotals.lean).
  GIVEN WITH THE SEED: the statements are not yours to turn. If you find one false, say at which input.
  Laid BY PROGRAM, IN A SANDBOX (cutbox-rows.mjs): the forced cells as the released guide's own fill.sh prints them over the translation 70a3878629aa2113… (all of the seat's roots in one cut). By AI agents, Wed Nov 11 2026. No macro, syntax, notation, axiom, sorry.
-/
import Derived.Test.YthalaapfdjaapaaChecked
import GoSem.Claim
import GoSem.ClaimJoined
import GoSem.ClaimMapViews
import Derived.JoinedTies
import Derived.KernelRfl
namespace Go.Proofs.Ythalaapfdjaapaa
/- THE CELL 'sum', in the pinned program and in every row, IS THE sha256 OF THE DUMP (.gsa) THAT YthalaapfdjaapaaProg.lean LOADS. Nothing in Lean hashes anything: it is a label: what it is worth is what the hold of that sum in a sandbox is worth. -/
noncomputable def Try.pinned : Pinned := { name := "ythalaapfdjaapaa", sum := "70a3878629aa2113e54cb1de6707cf8b74a88c729282d315055552c6166453be", checked := Try.checked }
namespace Rows
def none {H : Type} : Left H := { results := [], args := [] }

/-- 'letterbecklaw2.SuffixOrder': WHATEVER THE INPUT: true; the input reads as it did. -/
def suffixOrderSpec : ChangeSpec := { name := "suffixOrder", fn := fun _ => fun
  | [d] => { results := [.lit (.bool true)], args := [d] }
  | _ => none }
def suffixOrderRow : OpenClaim := { program := "ythalaapfdjaapaa", sum := "70a3878629aa2113e54cb1de6707cf8b74a88c729282d315055552c6166453be", func := "letterbeck/letterbecklaw2.SuffixOrder", spec := "suffixOrder", unfollowed := true, recurses := true, apart := false }
def SuffixOrderSaid : Prop := suffixOrderRow.holds Try.pinned (OpenSpec.ofChange suffixOrderSpec)

/-- ITS FALSE NEIGHBOUR: 'it returns false'. Refute it at one input. -/
def suffixOrderWrong : ChangeSpec := { name := "suffixOrder", fn := fun _ => fun
  | [d] => { results := [.lit (.bool false)], args := [d] }
  | _ => none }
def SuffixOrderWrongFalsely : Prop := suffixOrderRow.holds Try.pinned (OpenSpec.ofChange suffixOrderWrong)

/-- 'letterbecklaw2.SuffixAlike': WHATEVER THE INPUT: true; the input reads as it did. -/
def suffixAlikeSpec : ChangeSpec := { name := "suffixAlike", fn := fun _ => fun
  | [d] => { results := [.lit (.bool true)], args := [d] }
  | _ => none }
def suffixAlikeRow : OpenClaim := { program := "ythalaapfdjaapaa", sum := "70a3878629aa2113e54cb1de6707cf8b74a88c729282d315055552c6166453be", func := "letterbeck/letterbecklaw2.SuffixAlike", spec := "suffixAlike", unfollowed := true, recurses := true, apart := false }
def SuffixAlikeSaid : Prop := suffixAlikeRow.holds Try.pinned (OpenSpec.ofChange suffixAlikeSpec)

/-- ITS FALSE NEIGHBOUR: 'it returns false'. Refute it at one input. -/
def suffixAlikeWrong : ChangeSpec := { name := "suffixAlike", fn := fun _ => fun
  | [d] => { results := [.lit (.bool false)], args := [d] }
  | _ => none }
def SuffixAlikeWrongFalsely : Prop := suffixAlikeRow.holds Try.pinned (OpenSpec.ofChange suffixAlikeWrong)

/-- 'letterbecklaw2.SuffixCount': WHATEVER THE INPUT: true; the input reads as it did. -/
def suffixCountSpec : ChangeSpec := { name := "suffixCount", fn := fun _ => fun
  | [d1, d2] => { results := [.lit (.bool true)], args := [d1, d2] }
  | _ => none }
def suffixCountRow : OpenClaim := { program := "ythalaapfdjaapaa", sum := "70a3878629aa2113e54cb1de6707cf8b74a88c729282d315055552c6166453be", func := "letterbeck/letterbecklaw2.SuffixCount", spec := "suffixCount", unfollowed := true, recurses := true, apart := false }
def SuffixCountSaid : Prop := suffixCountRow.holds Try.pinned (OpenSpec.ofChange suffixCountSpec)

/-- ITS FALSE NEIGHBOUR: 'it returns false'. Refute it at one input. -/
def suffixCountWrong : ChangeSpec := { name := "suffixCount", fn := fun _ => fun
  | [d1, d2] => { results := [.lit (.bool false)], args := [d1, d2] }
  | _ => none }
def SuffixCountWrongFalsely : Prop := suffixCountRow.holds Try.pinned (OpenSpec.ofChange suffixCountWrong)

/-- 'letterbecklaw2.SuffixTwice': WHATEVER THE INPUT: true; the input reads as it did. -/
def suffixTwiceSpec : ChangeSpec := { name := "suffixTwice", fn := fun _ => fun
  | [d1, d2, d3] => { results := [.lit (.bool true)], args := [d1, d2, d3] }
  | _ => none }
def suffixTwiceRow : OpenClaim := { program := "ythalaapfdjaapaa", sum := "70a3878629aa2113e54cb1de6707cf8b74a88c729282d315055552c6166453be", func := "letterbeck/letterbecklaw2.SuffixTwice", spec := "suffixTwice", unfollowed := true, recurses := true, apart := false }
def SuffixTwiceSaid : Prop := suffixTwiceRow.holds Try.pinned (OpenSpec.ofChange suffixTwiceSpec)

/-- ITS FALSE NEIGHBOUR: 'it returns false'. Refute it at one input. -/
def suffixTwiceWrong : ChangeSpec := { name := "suffixTwice", fn := fun _ => fun
  | [d1, d2, d3] => { results := [.lit (.bool false)], args := [d1, d2, d3] }
  | _ => none }
def SuffixTwiceWrongFalsely : Prop := suffixTwiceRow.holds Try.pinned (OpenSpec.ofChange suffixTwiceWrong)

/-- 'letterbecklaw2.SuffixFind': WHATEVER THE INPUT: true; the input reads as it did. -/
def suffixFindSpec : ChangeSpec := { name := "suffixFind", fn := fun _ => fun
  | [d1, d2] => { results := [.lit (.bool true)], args := [d1, d2] }
  | _ => none }
def suffixFindRow : OpenClaim := { program := "ythalaapfdjaapaa", sum := "70a3878629aa2113e54cb1de6707cf8b74a88c729282d315055552c6166453be", func := "letterbeck/letterbecklaw2.SuffixFind", spec := "suffixFind", unfollowed := true, recurses := true, apart := false }
def SuffixFindSaid : Prop := suffixFindRow.holds Try.pinned (OpenSpec.ofChange suffixFindSpec)

/-- ITS FALSE NEIGHBOUR: 'it returns false'. Refute it at one input. -/
def suffixFindWrong : ChangeSpec := { name := "suffixFind", fn := fun _ => fun
  | [d1, d2] => { results := [.lit (.bool false)], args := [d1, d2] }
  | _ => none }
def SuffixFindWrongFalsely : Prop := suffixFindRow.holds Try.pinned (OpenSpec.ofChange suffixFindWrong)

/-- 'letterbecktop.TopCount': WHATEVER THE INPUT: true; the input reads as it did. -/
def topCountSpec : ChangeSpec := { name := "topCount", fn := fun _ => fun
  | [d] => { results := [.lit (.bool true)], args := [d] }
  | _ => none }
def topCountRow : OpenClaim := { program := "ythalaapfdjaapaa", sum := "70a3878629aa2113e54cb1de6707cf8b74a88c729282d315055552c6166453be", func := "letterbeck/letterbecktop.TopCount", spec := "topCount", unfollowed := true, recurses := true, apart := false }
def TopCountSaid : Prop := topCountRow.holds Try.pinned (OpenSpec.ofChange topCountSpec)

/-- ITS FALSE NEIGHBOUR: 'it returns false'. Refute it at one input. -/
def topCountWrong : ChangeSpec := { name := "topCount", fn := fun _ => fun
  | [d] => { results := [.lit (.bool false)], args := [d] }
  | _ => none }
def TopCountWrongFalsely : Prop := topCountRow.holds Try.pinned (OpenSpec.ofChange topCountWrong)

/- THE SECOND FORM. 'bulk': how many values and letters a reading holds, each counted each time it is reached (what is shared counts as often as it is met; a slice's spare places count too). A statement '..UptoSaid' is the law's where the arguments, and the package variables that the reading takes, are together of bulk at most 1048576: NARROWER than '..Said'. Prove '..Said' where nothing that the law and all that it calls make is longer than what came in: it says more and counts as full. Else prove '..UptoSaid'. A law counts once. -/
mutual
def uptoBulk {H : Type} : DataW H → Nat
  | .lit (.string bytes) => bytes.length + 1
  | .lit _ => 1
  | .nil => 1
  | .ptr d => uptoBulk d + 1
  | .slice elems spare => uptoBulkAll elems + uptoBulkAll spare + 1
  | .agg parts => uptoBulkAll parts + 1
  | .iface _ d => uptoBulk d + 1
  | .map entries => uptoBulkEntries entries + 1
  | .held _ => 1
def uptoBulkAll {H : Type} : List (DataW H) → Nat
  | [] => 0
  | d :: r => uptoBulk d + uptoBulkAll r
def uptoBulkEntries {H : Type} : List (Lit × DataW H) → Nat
  | [] => 0
  | x :: r => uptoBulkEntry x + uptoBulkEntries r
def uptoBulkEntry {H : Type} : Lit × DataW H → Nat
  | (.string bytes, d) => bytes.length + uptoBulk d + 1
  | (_, d) => uptoBulk d + 1
 end
def uptoSmall : (H : Type) → List (DataW H) → Bool := fun _ ds => decide (uptoBulkAll ds ≤ 1048576)
def OpenSpec.upto (s : _root_.Go.ChangeSpec) : _root_.Go.OpenSpec := { _root_.Go.OpenSpec.ofChange s with cond := some uptoSmall }

/-- 'letterbecklaw2.SuffixOrder', WHERE WHAT IT READS IS OF BULK AT MOST 1048576: true; the input reads as it did. -/
def suffixOrderUptoRow : OpenClaim := { program := "ythalaapfdjaapaa", sum := "70a3878629aa2113e54cb1de6707cf8b74a88c729282d315055552c6166453be", func := "letterbeck/letterbecklaw2.SuffixOrder", spec := "suffixOrder", unfollowed := true, recurses := true, apart := false, narrowed := true }
def SuffixOrderUptoSaid : Prop := suffixOrderUptoRow.holds Try.pinned (OpenSpec.upto suffixOrderSpec)

/-- 'letterbecklaw2.SuffixAlike', WHERE WHAT IT READS IS OF BULK AT MOST 1048576: true; the input reads as it did. -/
def suffixAlikeUptoRow : OpenClaim := { program := "ythalaapfdjaapaa", sum := "70a3878629aa2113e54cb1de6707cf8b74a88c729282d315055552c6166453be", func := "letterbeck/letterbecklaw2.SuffixAlike", spec := "suffixAlike", unfollowed := true, recurses := true, apart := false, narrowed := true }
def SuffixAlikeUptoSaid : Prop := suffixAlikeUptoRow.holds Try.pinned (OpenSpec.upto suffixAlikeSpec)

/-- 'letterbecklaw2.SuffixCount', WHERE WHAT IT READS IS OF BULK AT MOST 1048576: true; the input reads as it did. -/
def suffixCountUptoRow : OpenClaim := { program := "ythalaapfdjaapaa", sum := "70a3878629aa2113e54cb1de6707cf8b74a88c729282d315055552c6166453be", func := "letterbeck/letterbecklaw2.SuffixCount", spec := "suffixCount", unfollowed := true, recurses := true, apart := false, narrowed := true }
def SuffixCountUptoSaid : Prop := suffixCountUptoRow.holds Try.pinned (OpenSpec.upto suffixCountSpec)

/-- 'letterbecklaw2.SuffixTwice', WHERE WHAT IT READS IS OF BULK AT MOST 1048576: true; the input reads as it did. -/
def suffixTwiceUptoRow : OpenClaim := { program := "ythalaapfdjaapaa", sum := "70a3878629aa2113e54cb1de6707cf8b74a88c729282d315055552c6166453be", func := "letterbeck/letterbecklaw2.SuffixTwice", spec := "suffixTwice", unfollowed := true, recurses := true, apart := false, narrowed := true }
def SuffixTwiceUptoSaid : Prop := suffixTwiceUptoRow.holds Try.pinned (OpenSpec.upto suffixTwiceSpec)

/-- 'letterbecklaw2.SuffixFind', WHERE WHAT IT READS IS OF BULK AT MOST 1048576: true; the input reads as it did. -/
def suffixFindUptoRow : OpenClaim := { program := "ythalaapfdjaapaa", sum := "70a3878629aa2113e54cb1de6707cf8b74a88c729282d315055552c6166453be", func := "letterbeck/letterbecklaw2.SuffixFind", spec := "suffixFind", unfollowed := true, recurses := true, apart := false, narrowed := true }
def SuffixFindUptoSaid : Prop := suffixFindUptoRow.holds Try.pinned (OpenSpec.upto suffixFindSpec)

/-- 'letterbecktop.TopCount', WHERE WHAT IT READS IS OF BULK AT MOST 1048576: true; the input reads as it did. -/
def topCountUptoRow : OpenClaim := { program := "ythalaapfdjaapaa", sum := "70a3878629aa2113e54cb1de6707cf8b74a88c729282d315055552c6166453be", func := "letterbeck/letterbecktop.TopCount", spec := "topCount", unfollowed := true, recurses := true, apart := false, narrowed := true }
def TopCountUptoSaid : Prop := topCountUptoRow.holds Try.pinned (OpenSpec.upto topCountSpec)

end Rows
end Go.Proofs.Ythalaapfdjaapaa
