/-
  DERIVED. GIVEN WITH THE SEED: THE CARDS: each row of YtleealmeilpkmaaDoorRows.lean that lists a variable, with what it lists TIED to the program's text (the seventh form; the later family's looks); each row that meets fmt, with fmt's text TOLD by the authors' own Lean function (tested against real Go, not proved from fmt's source: count such statements apart). THE CARD IS WHAT COUNTS. Prove the row's statement (the work); the ties are given (YtleealmeilpkmaaDoorTie.lean); close each card by the builder's one call (the guide's Derived/Test/ToyasCard.lean, 'card_holds'). Laid BY PROGRAM, IN A SANDBOX (cutbox-door.mjs). By AI agents, Wed Nov 11 2026. No macro, syntax, notation, axiom, sorry.
-/
import Derived.Test.YtleealmeilpkmaaDoorRows
import GoSem.ClaimSeven
namespace Go.Proofs.YtleealmeilpkmaaDoor
namespace Rows

/-- THE TIED CARD OF 'letterbecklaw2.FrontSays'. -/
def frontSaysCard : Claim7 := { stood := { row := frontSaysRow, standIns := [], harness := (true, "e8d15647fe4fe289fc8b0ab0d1783b7b74c66d7e9aeab2dd4577715aa0d59693"), looks := true }, kinds := [], alts := [], laidByText := true, laidKinds := [.handle], laidTests := true, laidLooks := .later }
def FrontSaysCardSaid : Prop := Claim7.holds Tryd.pinned (.plain (OpenSpec.ofChange frontSaysSpec)) frontSaysCard

/-- THE SECOND FORM's CARD OF 'letterbecklaw2.FrontSays'. -/
def frontSaysUptoCard : Claim7 := { stood := { row := frontSaysUptoRow, standIns := [], harness := (true, "e8d15647fe4fe289fc8b0ab0d1783b7b74c66d7e9aeab2dd4577715aa0d59693"), looks := true }, kinds := [], alts := [], laidByText := true, laidKinds := [.handle], laidTests := true, laidLooks := .later }
def FrontSaysUptoCardSaid : Prop := Claim7.holds Tryd.pinned (.plain (OpenSpec.upto frontSaysSpec)) frontSaysUptoCard
end Rows
end Go.Proofs.YtleealmeilpkmaaDoor
