/- HasCell, EqualShapes, CompareShapes, the program's and the reference's: contracts. Condition: slices of at most 2^20 cells. -/
import Derived.Test.YtacegndmclnbnaaDoorCells
namespace Go.Proofs.YtacegndmclnbnaaDoor
open Go.RowKit

def memC (cs : List C) (x y : Int) : Bool := cs.any fun c => c.1 == x && c.2 == y
theorem memC_no {cs : List C} {k : Nat} {a b x y : Int} (h : memC (cs.take k) x y = false) (he : cs[k]? = some (a, b)) (hn : (a == x && b == y) = false) : Hid (memC (cs.take (k + 1)) x y = false) := by
  show _ = _
  rw [memC, take_next he, List.any_append, ← memC, h]
  simp [hn]
theorem memC_yes {cs : List C} {k : Nat} {a b x y : Int} (he : cs[k]? = some (a, b)) (hn : (a == x && b == y) = true) : memC cs x y = true :=
  List.any_eq_true.2 ⟨(a, b), List.mem_of_getElem? he, hn⟩


end Go.Proofs.YtacegndmclnbnaaDoor
