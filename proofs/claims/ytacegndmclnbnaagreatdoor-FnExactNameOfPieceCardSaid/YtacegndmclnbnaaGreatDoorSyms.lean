/- SymmetriesOf and IsChiral, the program's and the reference's: contracts. Condition: slices of at most 2^20 cells. -/
import Derived.Test.YtacegndmclnbnaaGreatDoorTurnM
import Derived.Test.YtacegndmclnbnaaGreatDoorEq
import Derived.Test.YtacegndmclnbnaaGreatDoorInts
import Derived.Test.YtacegndmclnbnaaGreatDoorBx
namespace Go.Proofs.YtacegndmclnbnaaGreatDoor
open Go.RowKit

def symTo (cs : List C) (k : Nat) : List Int := ((List.range k).filter fun m => decide (turnC cs m = cornerC cs)).map fun (m : Nat) => (m : Int)
def symsL (cs : List C) : List Int := if isShape cs = true then symTo cs 8 else []
theorem symTo_zero (cs : List C) : symTo cs 0 = [] := rfl
theorem symTo_yes {cs : List C} {k : Nat} (h : turnC cs k = cornerC cs) : symTo cs (k + 1) = symTo cs k ++ [(k : Int)] := by
  unfold symTo
  rw [List.range_succ, List.filter_append, List.map_append]
  simp [h]
theorem symTo_no {cs : List C} {k : Nat} (h : ¬ turnC cs k = cornerC cs) : symTo cs (k + 1) = symTo cs k := by
  unfold symTo
  rw [List.range_succ, List.filter_append, List.map_append]
  simp [h]
theorem symTo_len (cs : List C) (k : Nat) : (symTo cs k).length ≤ k := by
  unfold symTo
  rw [List.length_map]
  exact Nat.le_trans (List.length_filter_le _ _) (by simp)
theorem symsL_len (cs : List C) : (symsL cs).length ≤ 1048576 := by
  unfold symsL
  split
  · exact Nat.le_trans (symTo_len cs 8) (by omega)
  · simp
theorem symsL_len' (cs : List C) (_ : cs.length ≤ 1048576) : (symsL cs).length ≤ 1048576 := symsL_len cs
theorem cornerC_len (cs : List C) : (cornerC cs).length = cs.length := by unfold cornerC movC; simp

end Go.Proofs.YtacegndmclnbnaaGreatDoor
