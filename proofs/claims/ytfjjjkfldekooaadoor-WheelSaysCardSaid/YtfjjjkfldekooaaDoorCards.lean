/-
  DERIVED. GIVEN WITH THE SEED: THE CARDS: each row of YtfjjjkfldekooaaDoorRows.lean that lists a variable, with what it lists TIED to the program's text (the seventh form; the later family's looks); each row that meets fmt, with fmt's text TOLD by the authors' own Lean function (tested against real Go, not proved from fmt's source: count such statements apart). THE CARD IS WHAT COUNTS. Prove the row's statement (the work); the ties are given (YtfjjjkfldekooaaDoorTie.lean); close each card by the builder's one call (the guide's Derived/Test/ToyasCard.lean, 'card_holds'). Laid BY PROGRAM, IN A SANDBOX (cutbox-door.mjs). By AI agents, Wed Nov 11 2026. No macro, syntax, notation, axiom, sorry.
-/
import Derived.Test.YtfjjjkfldekooaaDoorRows
import GoSem.ClaimSeven
namespace Go.Proofs.YtfjjjkfldekooaaDoor
namespace Rows

/-- THE TIED CARD OF 'letterbecklaw2.WheelSays'. -/
def wheelSaysCard : Claim7 := { stood := { row := wheelSaysRow, standIns := [], harness := (true, "b91ff52b861c745e5c4e49e01ca701a3448108313b7e06999e2817caa6e492c3"), looks := true }, kinds := [], alts := [], laidByText := true, laidKinds := [.handle], laidTests := true, laidLooks := .later }
def WheelSaysCardSaid : Prop := Claim7.holds Tryd.pinned (.plain (OpenSpec.ofChange wheelSaysSpec)) wheelSaysCard

/-- THE SECOND FORM's CARD OF 'letterbecklaw2.WheelSays'. -/
def wheelSaysUptoCard : Claim7 := { stood := { row := wheelSaysUptoRow, standIns := [], harness := (true, "b91ff52b861c745e5c4e49e01ca701a3448108313b7e06999e2817caa6e492c3"), looks := true }, kinds := [], alts := [], laidByText := true, laidKinds := [.handle], laidTests := true, laidLooks := .later }
def WheelSaysUptoCardSaid : Prop := Claim7.holds Tryd.pinned (.plain (OpenSpec.upto wheelSaysSpec)) wheelSaysUptoCard
end Rows
end Go.Proofs.YtfjjjkfldekooaaDoor
