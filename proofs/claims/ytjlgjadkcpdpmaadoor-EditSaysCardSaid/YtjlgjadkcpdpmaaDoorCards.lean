/-
  DERIVED. GIVEN WITH THE SEED: THE CARDS: each row of YtjlgjadkcpdpmaaDoorRows.lean that lists a variable, with what it lists TIED to the program's text (the seventh form; the later family's looks); each row that meets fmt, with fmt's text TOLD by the authors' own Lean function (tested against real Go, not proved from fmt's source: count such statements apart). THE CARD IS WHAT COUNTS. Prove the row's statement (the work); the ties are given (YtjlgjadkcpdpmaaDoorTie.lean); close each card by the builder's one call (the guide's Derived/Test/ToyasCard.lean, 'card_holds'). Laid BY PROGRAM, IN A SANDBOX (cutbox-door.mjs). By AI agents, Wed Nov 11 2026. No macro, syntax, notation, axiom, sorry.
-/
import Derived.Test.YtjlgjadkcpdpmaaDoorRows
import GoSem.ClaimSeven
namespace Go.Proofs.YtjlgjadkcpdpmaaDoor
namespace Rows

/-- THE TIED CARD OF 'letterbecklaw2.CommonSays'. -/
def commonSaysCard : Claim7 := { stood := { row := commonSaysRow, standIns := [], harness := (true, "784df086cd978f6ed57846aa37fab971324e2c269119e1c7ade4763319d91f49"), looks := true }, kinds := [], alts := [], laidByText := true, laidKinds := [.handle], laidTests := true, laidLooks := .later }
def CommonSaysCardSaid : Prop := Claim7.holds Tryd.pinned (.plain (OpenSpec.ofChange commonSaysSpec)) commonSaysCard

/-- THE TIED CARD OF 'letterbecklaw2.EditSays'. -/
def editSaysCard : Claim7 := { stood := { row := editSaysRow, standIns := [], harness := (true, "784df086cd978f6ed57846aa37fab971324e2c269119e1c7ade4763319d91f49"), looks := true }, kinds := [], alts := [], laidByText := true, laidKinds := [.handle], laidTests := true, laidLooks := .later }
def EditSaysCardSaid : Prop := Claim7.holds Tryd.pinned (.plain (OpenSpec.ofChange editSaysSpec)) editSaysCard

/-- THE SECOND FORM's CARD OF 'letterbecklaw2.CommonSays'. -/
def commonSaysUptoCard : Claim7 := { stood := { row := commonSaysUptoRow, standIns := [], harness := (true, "784df086cd978f6ed57846aa37fab971324e2c269119e1c7ade4763319d91f49"), looks := true }, kinds := [], alts := [], laidByText := true, laidKinds := [.handle], laidTests := true, laidLooks := .later }
def CommonSaysUptoCardSaid : Prop := Claim7.holds Tryd.pinned (.plain (OpenSpec.upto commonSaysSpec)) commonSaysUptoCard

/-- THE SECOND FORM's CARD OF 'letterbecklaw2.EditSays'. -/
def editSaysUptoCard : Claim7 := { stood := { row := editSaysUptoRow, standIns := [], harness := (true, "784df086cd978f6ed57846aa37fab971324e2c269119e1c7ade4763319d91f49"), looks := true }, kinds := [], alts := [], laidByText := true, laidKinds := [.handle], laidTests := true, laidLooks := .later }
def EditSaysUptoCardSaid : Prop := Claim7.holds Tryd.pinned (.plain (OpenSpec.upto editSaysSpec)) editSaysUptoCard
end Rows
end Go.Proofs.YtjlgjadkcpdpmaaDoor
