/-
  DERIVED. GIVEN WITH THE SEED: THE CARDS: each row of YtkcmapimcgppmaaGreatDoorRows.lean that lists a variable, with what it lists TIED to the program's text (the seventh form; the later family's looks); each row that meets fmt, with fmt's text TOLD by the authors' own Lean function (tested against real Go, not proved from fmt's source: count such statements apart). THE CARD IS WHAT COUNTS. Prove the row's statement (the work); the ties are given (YtkcmapimcgppmaaGreatDoorTie.lean); close each card by the builder's one call (the guide's Derived/Test/ToyasCard.lean, 'card_holds'). Laid BY PROGRAM, IN A SANDBOX (cutbox-door.mjs). By AI agents, Wed Nov 11 2026. No macro, syntax, notation, axiom, sorry.
-/
import Derived.Test.YtkcmapimcgppmaaGreatDoorRows
import GoSem.ClaimSeven
namespace Go.Proofs.YtkcmapimcgppmaaGreatDoor
namespace Rows

/-- THE TIED CARD OF 'spandrellaw22.CodesTuples'. -/
def codesTuplesCard : Claim7 := { stood := { row := codesTuplesRow, standIns := [], harness := (true, "39a12fc81d6d740a45fee43efc59f9c35ed21519d5c0ebaa94ceeec177e40986"), looks := true }, kinds := [], alts := [], laidByText := true, laidKinds := [.data], laidTests := true, laidLooks := .later }
def CodesTuplesCardSaid : Prop := Claim7.holds Tryz.pinned (.plain (OpenSpec.ofChange codesTuplesSpec)) codesTuplesCard

/-- THE TIED CARD OF 'spandrellaw22.CodesTell'. -/
def codesTellCard : Claim7 := { stood := { row := codesTellRow, standIns := [], harness := (true, "39a12fc81d6d740a45fee43efc59f9c35ed21519d5c0ebaa94ceeec177e40986"), looks := true }, kinds := [], alts := [], laidByText := true, laidKinds := [.data], laidTests := true, laidLooks := .later }
def CodesTellCardSaid : Prop := Claim7.holds Tryz.pinned (.plain (OpenSpec.ofChange codesTellSpec)) codesTellCard

/-- THE TIED CARD OF 'spandrellaw22.CodesMove'. -/
def codesMoveCard : Claim7 := { stood := { row := codesMoveRow, standIns := [], harness := (true, "39a12fc81d6d740a45fee43efc59f9c35ed21519d5c0ebaa94ceeec177e40986"), looks := true }, kinds := [], alts := [], laidByText := true, laidKinds := [.data], laidTests := true, laidLooks := .later }
def CodesMoveCardSaid : Prop := Claim7.holds Tryz.pinned (.plain (OpenSpec.ofChange codesMoveSpec)) codesMoveCard

/-- THE TIED CARD OF 'spandrellaw22.CodesShapes'. -/
def codesShapesCard : Claim7 := { stood := { row := codesShapesRow, standIns := [], harness := (true, "39a12fc81d6d740a45fee43efc59f9c35ed21519d5c0ebaa94ceeec177e40986"), looks := true }, kinds := [], alts := [], laidByText := true, laidKinds := [.data], laidTests := true, laidLooks := .later }
def CodesShapesCardSaid : Prop := Claim7.holds Tryz.pinned (.plain (OpenSpec.ofChange codesShapesSpec)) codesShapesCard

/-- THE SECOND FORM's CARD OF 'spandrellaw22.CodesTuples'. -/
def codesTuplesUptoCard : Claim7 := { stood := { row := codesTuplesUptoRow, standIns := [], harness := (true, "39a12fc81d6d740a45fee43efc59f9c35ed21519d5c0ebaa94ceeec177e40986"), looks := true }, kinds := [], alts := [], laidByText := true, laidKinds := [.data], laidTests := true, laidLooks := .later }
def CodesTuplesUptoCardSaid : Prop := Claim7.holds Tryz.pinned (.plain (OpenSpec.upto codesTuplesSpec)) codesTuplesUptoCard

/-- THE SECOND FORM's CARD OF 'spandrellaw22.CodesTell'. -/
def codesTellUptoCard : Claim7 := { stood := { row := codesTellUptoRow, standIns := [], harness := (true, "39a12fc81d6d740a45fee43efc59f9c35ed21519d5c0ebaa94ceeec177e40986"), looks := true }, kinds := [], alts := [], laidByText := true, laidKinds := [.data], laidTests := true, laidLooks := .later }
def CodesTellUptoCardSaid : Prop := Claim7.holds Tryz.pinned (.plain (OpenSpec.upto codesTellSpec)) codesTellUptoCard

/-- THE SECOND FORM's CARD OF 'spandrellaw22.CodesMove'. -/
def codesMoveUptoCard : Claim7 := { stood := { row := codesMoveUptoRow, standIns := [], harness := (true, "39a12fc81d6d740a45fee43efc59f9c35ed21519d5c0ebaa94ceeec177e40986"), looks := true }, kinds := [], alts := [], laidByText := true, laidKinds := [.data], laidTests := true, laidLooks := .later }
def CodesMoveUptoCardSaid : Prop := Claim7.holds Tryz.pinned (.plain (OpenSpec.upto codesMoveSpec)) codesMoveUptoCard

/-- THE SECOND FORM's CARD OF 'spandrellaw22.CodesShapes'. -/
def codesShapesUptoCard : Claim7 := { stood := { row := codesShapesUptoRow, standIns := [], harness := (true, "39a12fc81d6d740a45fee43efc59f9c35ed21519d5c0ebaa94ceeec177e40986"), looks := true }, kinds := [], alts := [], laidByText := true, laidKinds := [.data], laidTests := true, laidLooks := .later }
def CodesShapesUptoCardSaid : Prop := Claim7.holds Tryz.pinned (.plain (OpenSpec.upto codesShapesSpec)) codesShapesUptoCard
end Rows
end Go.Proofs.YtkcmapimcgppmaaGreatDoor
