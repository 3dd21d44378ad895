/-
  DERIVED. GIVEN WITH THE SEED: THE CARDS: each row of YtcllehdlfalamaaDoorRows.lean that lists a variable, with what it lists TIED to the program's text (the seventh form; the later family's looks); each row that meets fmt, with fmt's text TOLD by the authors' own Lean function (tested against real Go, not proved from fmt's source: count such statements apart). THE CARD IS WHAT COUNTS. Prove the row's statement (the work); the ties are given (YtcllehdlfalamaaDoorTie.lean); close each card by the builder's one call (the guide's Derived/Test/ToyasCard.lean, 'card_holds'). Laid BY PROGRAM, IN A SANDBOX (cutbox-door.mjs). By AI agents, Wed Nov 11 2026. No macro, syntax, notation, axiom, sorry.
-/
import Derived.Test.YtcllehdlfalamaaDoorRows
import GoSem.ClaimSeven
namespace Go.Proofs.YtcllehdlfalamaaDoor
namespace Rows

/-- THE TIED CARD OF 'letterbecklaw2.RunsSays'. -/
def runsSaysCard : Claim7 := { stood := { row := runsSaysRow, standIns := [], harness := (true, "303280e228a791d7edfccaba84dc4f7788bb38b8b472680febf08a06fbb0d1dd"), looks := true }, kinds := [], alts := [], laidByText := true, laidKinds := [.handle], laidTests := true, laidLooks := .later }
def RunsSaysCardSaid : Prop := Claim7.holds Tryd.pinned (.plain (OpenSpec.ofChange runsSaysSpec)) runsSaysCard

/-- THE SECOND FORM's CARD OF 'letterbecklaw2.RunsSays'. -/
def runsSaysUptoCard : Claim7 := { stood := { row := runsSaysUptoRow, standIns := [], harness := (true, "303280e228a791d7edfccaba84dc4f7788bb38b8b472680febf08a06fbb0d1dd"), looks := true }, kinds := [], alts := [], laidByText := true, laidKinds := [.handle], laidTests := true, laidLooks := .later }
def RunsSaysUptoCardSaid : Prop := Claim7.holds Tryd.pinned (.plain (OpenSpec.upto runsSaysSpec)) runsSaysUptoCard
end Rows
end Go.Proofs.YtcllehdlfalamaaDoor
