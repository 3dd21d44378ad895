/-
  DERIVED. GIVEN WITH THE SEED: THE CARDS: each row of YtnaoonegeboflaaDoorRows.lean that lists a variable, with what it lists TIED to the program's text (the seventh form; the later family's looks); each row that meets fmt, with fmt's text TOLD by the authors' own Lean function (tested against real Go, not proved from fmt's source: count such statements apart). THE CARD IS WHAT COUNTS. Prove the row's statement (the work); the ties are given (YtnaoonegeboflaaDoorTie.lean); close each card by the builder's one call (the guide's Derived/Test/ToyasCard.lean, 'card_holds'). Laid BY PROGRAM, IN A SANDBOX (cutbox-door.mjs). By AI agents, Wed Nov 11 2026. No macro, syntax, notation, axiom, sorry.
-/
import Derived.Test.YtnaoonegeboflaaDoorRows
import GoSem.ClaimSeven
namespace Go.Proofs.YtnaoonegeboflaaDoor
namespace Rows

/-- THE TIED CARD OF 'letterbecklaw2.KraftCodes'. -/
def kraftCodesCard : Claim7 := { stood := { row := kraftCodesRow, standIns := [], harness := (true, "b454262b43edf05a41a3f4b53cc528c9396722c4041b8281e622fd01aaf19838"), looks := true }, kinds := [], alts := [], laidByText := true, laidKinds := [.handle], laidTests := true, laidLooks := .later }
def KraftCodesCardSaid : Prop := Claim7.holds Tryd.pinned (.plain (OpenSpec.ofChange kraftCodesSpec)) kraftCodesCard

/-- THE TIED CARD OF 'letterbecklaw2.KraftSays'. -/
def kraftSaysCard : Claim7 := { stood := { row := kraftSaysRow, standIns := [], harness := (true, "b454262b43edf05a41a3f4b53cc528c9396722c4041b8281e622fd01aaf19838"), looks := true }, kinds := [], alts := [], laidByText := true, laidKinds := [.handle], laidTests := true, laidLooks := .later }
def KraftSaysCardSaid : Prop := Claim7.holds Tryd.pinned (.plain (OpenSpec.ofChange kraftSaysSpec)) kraftSaysCard

/-- THE SECOND FORM's CARD OF 'letterbecklaw2.KraftCodes'. -/
def kraftCodesUptoCard : Claim7 := { stood := { row := kraftCodesUptoRow, standIns := [], harness := (true, "b454262b43edf05a41a3f4b53cc528c9396722c4041b8281e622fd01aaf19838"), looks := true }, kinds := [], alts := [], laidByText := true, laidKinds := [.handle], laidTests := true, laidLooks := .later }
def KraftCodesUptoCardSaid : Prop := Claim7.holds Tryd.pinned (.plain (OpenSpec.upto kraftCodesSpec)) kraftCodesUptoCard

/-- THE SECOND FORM's CARD OF 'letterbecklaw2.KraftSays'. -/
def kraftSaysUptoCard : Claim7 := { stood := { row := kraftSaysUptoRow, standIns := [], harness := (true, "b454262b43edf05a41a3f4b53cc528c9396722c4041b8281e622fd01aaf19838"), looks := true }, kinds := [], alts := [], laidByText := true, laidKinds := [.handle], laidTests := true, laidLooks := .later }
def KraftSaysUptoCardSaid : Prop := Claim7.holds Tryd.pinned (.plain (OpenSpec.upto kraftSaysSpec)) kraftSaysUptoCard
end Rows
end Go.Proofs.YtnaoonegeboflaaDoor
