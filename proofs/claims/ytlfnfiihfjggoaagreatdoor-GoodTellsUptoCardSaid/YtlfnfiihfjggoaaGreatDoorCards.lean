/-
  DERIVED. GIVEN WITH THE SEED: THE CARDS: each row of YtlfnfiihfjggoaaGreatDoorRows.lean that lists a variable, with what it lists TIED to the program's text (the seventh form; the later family's looks); each row that meets fmt, with fmt's text TOLD by the authors' own Lean function (tested against real Go, not proved from fmt's source: count such statements apart). THE CARD IS WHAT COUNTS. Prove the row's statement (the work); the ties are given (YtlfnfiihfjggoaaGreatDoorTie.lean); close each card by the builder's one call (the guide's Derived/Test/ToyasCard.lean, 'card_holds'). Laid BY PROGRAM, IN A SANDBOX (cutbox-door.mjs). By AI agents, Wed Nov 11 2026. No macro, syntax, notation, axiom, sorry.
-/
import Derived.Test.YtlfnfiihfjggoaaGreatDoorRows
import GoSem.ClaimSeven
namespace Go.Proofs.YtlfnfiihfjggoaaGreatDoor
namespace Rows

/-- THE TIED CARD OF 'spandrellaw23.GoodTells'. -/
def goodTellsCard : Claim7 := { stood := { row := goodTellsRow, standIns := [], harness := (true, "e18e4e220c92521c323406c762bab7d509fbcb9156a0032c32f01a1f0b7e3dfb"), looks := true }, kinds := [], alts := [], laidByText := true, laidKinds := [.data], laidTests := true, laidLooks := .later }
def GoodTellsCardSaid : Prop := Claim7.holds Tryz.pinned (.plain (OpenSpec.ofChange goodTellsSpec)) goodTellsCard

/-- THE TIED CARD OF 'spandrellaw23.GoodPieces'. -/
def goodPiecesCard : Claim7 := { stood := { row := goodPiecesRow, standIns := [], harness := (true, "e18e4e220c92521c323406c762bab7d509fbcb9156a0032c32f01a1f0b7e3dfb"), looks := true }, kinds := [], alts := [], laidByText := true, laidKinds := [.data], laidTests := true, laidLooks := .later }
def GoodPiecesCardSaid : Prop := Claim7.holds Tryz.pinned (.plain (OpenSpec.ofChange goodPiecesSpec)) goodPiecesCard

/-- THE TIED CARD OF 'spandrellaw23.GoodShapes'. -/
def goodShapesCard : Claim7 := { stood := { row := goodShapesRow, standIns := [], harness := (true, "e18e4e220c92521c323406c762bab7d509fbcb9156a0032c32f01a1f0b7e3dfb"), looks := true }, kinds := [], alts := [], laidByText := true, laidKinds := [.data], laidTests := true, laidLooks := .later }
def GoodShapesCardSaid : Prop := Claim7.holds Tryz.pinned (.plain (OpenSpec.ofChange goodShapesSpec)) goodShapesCard

/-- THE SECOND FORM's CARD OF 'spandrellaw23.GoodTells'. -/
def goodTellsUptoCard : Claim7 := { stood := { row := goodTellsUptoRow, standIns := [], harness := (true, "e18e4e220c92521c323406c762bab7d509fbcb9156a0032c32f01a1f0b7e3dfb"), looks := true }, kinds := [], alts := [], laidByText := true, laidKinds := [.data], laidTests := true, laidLooks := .later }
def GoodTellsUptoCardSaid : Prop := Claim7.holds Tryz.pinned (.plain (OpenSpec.upto goodTellsSpec)) goodTellsUptoCard

/-- THE SECOND FORM's CARD OF 'spandrellaw23.GoodPieces'. -/
def goodPiecesUptoCard : Claim7 := { stood := { row := goodPiecesUptoRow, standIns := [], harness := (true, "e18e4e220c92521c323406c762bab7d509fbcb9156a0032c32f01a1f0b7e3dfb"), looks := true }, kinds := [], alts := [], laidByText := true, laidKinds := [.data], laidTests := true, laidLooks := .later }
def GoodPiecesUptoCardSaid : Prop := Claim7.holds Tryz.pinned (.plain (OpenSpec.upto goodPiecesSpec)) goodPiecesUptoCard

/-- THE SECOND FORM's CARD OF 'spandrellaw23.GoodShapes'. -/
def goodShapesUptoCard : Claim7 := { stood := { row := goodShapesUptoRow, standIns := [], harness := (true, "e18e4e220c92521c323406c762bab7d509fbcb9156a0032c32f01a1f0b7e3dfb"), looks := true }, kinds := [], alts := [], laidByText := true, laidKinds := [.data], laidTests := true, laidLooks := .later }
def GoodShapesUptoCardSaid : Prop := Claim7.holds Tryz.pinned (.plain (OpenSpec.upto goodShapesSpec)) goodShapesUptoCard
end Rows
end Go.Proofs.YtlfnfiihfjggoaaGreatDoor
