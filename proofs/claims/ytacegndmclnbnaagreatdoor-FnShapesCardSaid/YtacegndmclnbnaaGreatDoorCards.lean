/-
  DERIVED. GIVEN WITH THE SEED: THE CARDS: each row of YtacegndmclnbnaaGreatDoorRows.lean that lists a variable, with what it lists TIED to the program's text (the seventh form; the later family's looks); each row that meets fmt, with fmt's text TOLD by the authors' own Lean function (tested against real Go, not proved from fmt's source: count such statements apart). THE CARD IS WHAT COUNTS. Prove the row's statement (the work); the ties are given (YtacegndmclnbnaaGreatDoorTie.lean); close each card by the builder's one call (the guide's Derived/Test/ToyasCard.lean, 'card_holds'). Laid BY PROGRAM, IN A SANDBOX (cutbox-door.mjs). By AI agents, Wed Nov 11 2026. No macro, syntax, notation, axiom, sorry.
-/
import Derived.Test.YtacegndmclnbnaaGreatDoorRows
import GoSem.ClaimSeven
namespace Go.Proofs.YtacegndmclnbnaaGreatDoor
namespace Rows

/-- THE TIED CARD OF 'laws.FnShapes'. -/
def fnShapesCard : Claim7 := { stood := { row := fnShapesRow, standIns := [], harness := (true, "9d477523520a4c169488858381f7775086a61474c0b917ff2020bfe005bae9f6"), looks := false }, kinds := [], alts := [], laidByText := true, laidKinds := [.data, .pinned], laidTests := true, laidLooks := .later }
def FnShapesCardSaid : Prop := Claim7.holds Tryz.pinned (.plain (OpenSpec.ofChange fnShapesSpec)) fnShapesCard

/-- THE TIED CARD OF 'laws.FnExactNameOfPiece'. -/
def fnExactNameOfPieceCard : Claim7 := { stood := { row := fnExactNameOfPieceRow, standIns := [], harness := (true, "9d477523520a4c169488858381f7775086a61474c0b917ff2020bfe005bae9f6"), looks := false }, kinds := [], alts := [], laidByText := true, laidKinds := [.data, .pinned], laidTests := true, laidLooks := .later }
def FnExactNameOfPieceCardSaid : Prop := Claim7.holds Tryz.pinned (.plain (OpenSpec.ofChange fnExactNameOfPieceSpec)) fnExactNameOfPieceCard

/-- THE SECOND FORM's CARD OF 'laws.FnShapes'. -/
def fnShapesUptoCard : Claim7 := { stood := { row := fnShapesUptoRow, standIns := [], harness := (true, "9d477523520a4c169488858381f7775086a61474c0b917ff2020bfe005bae9f6"), looks := false }, kinds := [], alts := [], laidByText := true, laidKinds := [.data, .pinned], laidTests := true, laidLooks := .later }
def FnShapesUptoCardSaid : Prop := Claim7.holds Tryz.pinned (.plain (OpenSpec.upto fnShapesSpec)) fnShapesUptoCard

/-- THE SECOND FORM's CARD OF 'laws.FnExactNameOfPiece'. -/
def fnExactNameOfPieceUptoCard : Claim7 := { stood := { row := fnExactNameOfPieceUptoRow, standIns := [], harness := (true, "9d477523520a4c169488858381f7775086a61474c0b917ff2020bfe005bae9f6"), looks := false }, kinds := [], alts := [], laidByText := true, laidKinds := [.data, .pinned], laidTests := true, laidLooks := .later }
def FnExactNameOfPieceUptoCardSaid : Prop := Claim7.holds Tryz.pinned (.plain (OpenSpec.upto fnExactNameOfPieceSpec)) fnExactNameOfPieceUptoCard
end Rows
end Go.Proofs.YtacegndmclnbnaaGreatDoor
