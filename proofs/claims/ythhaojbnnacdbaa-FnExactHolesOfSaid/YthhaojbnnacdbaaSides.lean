/- InnerSides and PerimeterOf, the program's and the reference's. Condition: slices of at most 2^20 cells. -/
import Derived.Test.YthhaojbnnacdbaaNear
import Derived.Test.YthhaojbnnacdbaaShape
namespace Go.Proofs.Ythhaojbnnacdbaa
open Go.RowKit

def nearAt (cs : List C) (i k : Nat) : Bool := nearB (cs.getD i (0, 0)) (cs.getD k (0, 0))
theorem nearAt_eq {cs : List C} {i k : Nat} {a b c d : Int} (h1 : cs[i]? = some (a, b)) (h2 : cs[k]? = some (c, d)) : nearAt cs i k = nearB (a, b) (c, d) := by
  unfold nearAt; simp [List.getD_eq_getElem?_getD, h1, h2]
def rowSides (cs : List C) (i : Nat) : Nat → Nat
  | 0 => 0
  | k + 1 => rowSides cs i k + (if nearAt cs i k then 1 else 0)
def sidesTo (cs : List C) : Nat → Nat
  | 0 => 0
  | i + 1 => sidesTo cs i + rowSides cs i i
def innerSides (cs : List C) : Nat := if isShape cs then sidesTo cs cs.length else 0
theorem rowSides_le (cs : List C) (i : Nat) : ∀ k, rowSides cs i k ≤ k
  | 0 => Nat.le_refl _
  | k + 1 => by have := rowSides_le cs i k; unfold rowSides; split <;> omega
theorem sidesTo_le (cs : List C) : ∀ i, i ≤ 8 → sidesTo cs i ≤ i * 8
  | 0, _ => Nat.le_refl _
  | i + 1, h => by have := sidesTo_le cs i (by omega); have := rowSides_le cs i i; unfold sidesTo; omega
theorem row_yes {cs : List C} {i k s : Nat} (hs : s = sidesTo cs i + rowSides cs i k) (h : nearAt cs i k = true) : s + 1 = sidesTo cs i + rowSides cs i (k + 1) := by
  unfold rowSides; rw [h]; simp; omega
theorem row_no {cs : List C} {i k s : Nat} (hs : s = sidesTo cs i + rowSides cs i k) (h : nearAt cs i k = false) : s = sidesTo cs i + rowSides cs i (k + 1) := by
  unfold rowSides; rw [h]; simp; omega

end Go.Proofs.Ythhaojbnnacdbaa
