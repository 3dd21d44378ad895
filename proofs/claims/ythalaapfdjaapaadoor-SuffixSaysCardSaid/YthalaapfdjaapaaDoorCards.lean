/-
  DERIVED. GIVEN WITH THE SEED: THE CARDS: each row of YthalaapfdjaapaaDoorRows.lean that lists a variable, with what it lists TIED to the program's text (the seventh form; the later family's looks); each row that meets fmt, with fmt's text TOLD by the authors' own Lean function (tested against real Go, not proved from fmt's source: count such statements apart). THE CARD IS WHAT COUNTS. Prove the row's statement (the work); the ties are given (YthalaapfdjaapaaDoorTie.lean); close each card by the builder's one call (the guide's Derived/Test/ToyasCard.lean, 'card_holds'). Laid BY PROGRAM, IN A SANDBOX (cutbox-door.mjs). By AI agents, Wed Nov 11 2026. No macro, syntax, notation, axiom, sorry.
-/
import Derived.Test.YthalaapfdjaapaaDoorRows
import GoSem.ClaimSeven
namespace Go.Proofs.YthalaapfdjaapaaDoor
namespace Rows

/-- THE TIED CARD OF 'letterbecklaw2.SuffixSays'. -/
def suffixSaysCard : Claim7 := { stood := { row := suffixSaysRow, standIns := [], harness := (true, "f62c7e566ee2ed673dbc0c07db5bd9a0e2c6f61f2869b15d4db3df4bfad95134"), looks := true }, kinds := [], alts := [], laidByText := true, laidKinds := [.handle], laidTests := true, laidLooks := .later }
def SuffixSaysCardSaid : Prop := Claim7.holds Tryd.pinned (.plain (OpenSpec.ofChange suffixSaysSpec)) suffixSaysCard

/-- THE SECOND FORM's CARD OF 'letterbecklaw2.SuffixSays'. -/
def suffixSaysUptoCard : Claim7 := { stood := { row := suffixSaysUptoRow, standIns := [], harness := (true, "f62c7e566ee2ed673dbc0c07db5bd9a0e2c6f61f2869b15d4db3df4bfad95134"), looks := true }, kinds := [], alts := [], laidByText := true, laidKinds := [.handle], laidTests := true, laidLooks := .later }
def SuffixSaysUptoCardSaid : Prop := Claim7.holds Tryd.pinned (.plain (OpenSpec.upto suffixSaysSpec)) suffixSaysUptoCard
end Rows
end Go.Proofs.YthalaapfdjaapaaDoor
