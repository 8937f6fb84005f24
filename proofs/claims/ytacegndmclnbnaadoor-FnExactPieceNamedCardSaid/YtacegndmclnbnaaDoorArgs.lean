/- What a law is given, opened: a slice of cells of the laws' own type reads as a list of pairs. No condition. -/
import Derived.Test.YtacegndmclnbnaaDoorCells
import Derived.ProofKit
import Derived.Deep.SlicePairs
namespace Go.Proofs.YtacegndmclnbnaaDoor
open Go.RowKit Go.Deep Go.ChangeShapes Go.WideShapes

/-- The value is a slice that reads as these cells. -/
def CellsArg (w : World) (v : Value) (cs : List C) : Prop := ∃ A n cap, v = .slice A n cap ∧ n ≤ maxLen ∧ CellsAt w A n cs

end Go.Proofs.YtacegndmclnbnaaDoor
