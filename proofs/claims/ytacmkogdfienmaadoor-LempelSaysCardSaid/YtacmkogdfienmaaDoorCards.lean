/-
  DERIVED. GIVEN WITH THE SEED: THE CARDS: each row of YtacmkogdfienmaaDoorRows.lean that lists a variable, with what it lists TIED to the program's text (the seventh form; the later family's looks); each row that meets fmt, with fmt's text TOLD by the authors' own Lean function (tested against real Go, not proved from fmt's source: count such statements apart). THE CARD IS WHAT COUNTS. Prove the row's statement (the work); the ties are given (YtacmkogdfienmaaDoorTie.lean); close each card by the builder's one call (the guide's Derived/Test/ToyasCard.lean, 'card_holds'). Laid BY PROGRAM, IN A SANDBOX (cutbox-door.mjs). By AI agents, Wed Nov 11 2026. No macro, syntax, notation, axiom, sorry.
-/
import Derived.Test.YtacmkogdfienmaaDoorRows
import GoSem.ClaimSeven
namespace Go.Proofs.YtacmkogdfienmaaDoor
namespace Rows

/-- THE TIED CARD OF 'letterbecklaw2.LempelSays'. -/
def lempelSaysCard : Claim7 := { stood := { row := lempelSaysRow, standIns := [], harness := (true, "55c7ae0d526d42bcd54c516da28ee080593c250ebc84b86e22674a799801bcd0"), looks := true }, kinds := [], alts := [], laidByText := true, laidKinds := [.handle], laidTests := true, laidLooks := .later }
def LempelSaysCardSaid : Prop := Claim7.holds Tryd.pinned (.plain (OpenSpec.ofChange lempelSaysSpec)) lempelSaysCard

/-- THE SECOND FORM's CARD OF 'letterbecklaw2.LempelSays'. -/
def lempelSaysUptoCard : Claim7 := { stood := { row := lempelSaysUptoRow, standIns := [], harness := (true, "55c7ae0d526d42bcd54c516da28ee080593c250ebc84b86e22674a799801bcd0"), looks := true }, kinds := [], alts := [], laidByText := true, laidKinds := [.handle], laidTests := true, laidLooks := .later }
def LempelSaysUptoCardSaid : Prop := Claim7.holds Tryd.pinned (.plain (OpenSpec.upto lempelSaysSpec)) lempelSaysUptoCard
end Rows
end Go.Proofs.YtacmkogdfienmaaDoor
