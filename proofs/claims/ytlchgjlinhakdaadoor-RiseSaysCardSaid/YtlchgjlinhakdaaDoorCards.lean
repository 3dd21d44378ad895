/-
  DERIVED. GIVEN WITH THE SEED: THE CARDS: each row of YtlchgjlinhakdaaDoorRows.lean that lists a variable, with what it lists TIED to the program's text (the seventh form; the later family's looks); each row that meets fmt, with fmt's text TOLD by the authors' own Lean function (tested against real Go, not proved from fmt's source: count such statements apart). THE CARD IS WHAT COUNTS. Prove the row's statement (the work); the ties are given (YtlchgjlinhakdaaDoorTie.lean); close each card by the builder's one call (the guide's Derived/Test/ToyasCard.lean, 'card_holds'). Laid BY PROGRAM, IN A SANDBOX (cutbox-door.mjs). By AI agents, Wed Nov 11 2026. No macro, syntax, notation, axiom, sorry.
-/
import Derived.Test.YtlchgjlinhakdaaDoorRows
import GoSem.ClaimSeven
namespace Go.Proofs.YtlchgjlinhakdaaDoor
namespace Rows

/-- THE TIED CARD OF 'letterbecklaw2.RiseSays'. -/
def riseSaysCard : Claim7 := { stood := { row := riseSaysRow, standIns := [], harness := (true, "c777fab7cf66fa39a9095237a778f814150e65742e5fae5112cf48170e44e61d"), looks := true }, kinds := [], alts := [], laidByText := true, laidKinds := [.handle], laidTests := true, laidLooks := .later }
def RiseSaysCardSaid : Prop := Claim7.holds Tryd.pinned (.plain (OpenSpec.ofChange riseSaysSpec)) riseSaysCard

/-- THE SECOND FORM's CARD OF 'letterbecklaw2.RiseSays'. -/
def riseSaysUptoCard : Claim7 := { stood := { row := riseSaysUptoRow, standIns := [], harness := (true, "c777fab7cf66fa39a9095237a778f814150e65742e5fae5112cf48170e44e61d"), looks := true }, kinds := [], alts := [], laidByText := true, laidKinds := [.handle], laidTests := true, laidLooks := .later }
def RiseSaysUptoCardSaid : Prop := Claim7.holds Tryd.pinned (.plain (OpenSpec.upto riseSaysSpec)) riseSaysUptoCard
end Rows
end Go.Proofs.YtlchgjlinhakdaaDoor
