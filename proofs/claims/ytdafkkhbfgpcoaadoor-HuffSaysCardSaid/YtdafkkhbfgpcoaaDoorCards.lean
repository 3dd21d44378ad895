/-
  DERIVED. GIVEN WITH THE SEED: THE CARDS: each row of YtdafkkhbfgpcoaaDoorRows.lean that lists a variable, with what it lists TIED to the program's text (the seventh form; the later family's looks); each row that meets fmt, with fmt's text TOLD by the authors' own Lean function (tested against real Go, not proved from fmt's source: count such statements apart). THE CARD IS WHAT COUNTS. Prove the row's statement (the work); the ties are given (YtdafkkhbfgpcoaaDoorTie.lean); close each card by the builder's one call (the guide's Derived/Test/ToyasCard.lean, 'card_holds'). Laid BY PROGRAM, IN A SANDBOX (cutbox-door.mjs). By AI agents, Wed Nov 11 2026. No macro, syntax, notation, axiom, sorry.
-/
import Derived.Test.YtdafkkhbfgpcoaaDoorRows
import GoSem.ClaimSeven
namespace Go.Proofs.YtdafkkhbfgpcoaaDoor
namespace Rows

/-- THE TIED CARD OF 'letterbecklaw2.HuffSays'. -/
def huffSaysCard : Claim7 := { stood := { row := huffSaysRow, standIns := [], harness := (true, "919fbb48d99ae79bf97a60af23ab11284195bf9cfb9801bdf4eae30e3f3e7e83"), looks := true }, kinds := [], alts := [], laidByText := true, laidKinds := [.handle], laidTests := true, laidLooks := .later }
def HuffSaysCardSaid : Prop := Claim7.holds Tryd.pinned (.plain (OpenSpec.ofChange huffSaysSpec)) huffSaysCard

/-- THE SECOND FORM's CARD OF 'letterbecklaw2.HuffSays'. -/
def huffSaysUptoCard : Claim7 := { stood := { row := huffSaysUptoRow, standIns := [], harness := (true, "919fbb48d99ae79bf97a60af23ab11284195bf9cfb9801bdf4eae30e3f3e7e83"), looks := true }, kinds := [], alts := [], laidByText := true, laidKinds := [.handle], laidTests := true, laidLooks := .later }
def HuffSaysUptoCardSaid : Prop := Claim7.holds Tryd.pinned (.plain (OpenSpec.upto huffSaysSpec)) huffSaysUptoCard
end Rows
end Go.Proofs.YtdafkkhbfgpcoaaDoor
