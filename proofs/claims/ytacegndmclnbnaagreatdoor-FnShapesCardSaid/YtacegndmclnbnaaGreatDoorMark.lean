/- A slice of cells is marked with running numbers, and looked over for them: what the laws do to tell whether memory is shared. -/
import Derived.Test.YtacegndmclnbnaaGreatDoorLawC
import Derived.Maps.AppendAt
namespace Go.Proofs.YtacegndmclnbnaaGreatDoor
open Go.RowKit

/-- the cells k, k + 1 | k + 2, k + 3 | .. -/
def marks (k : Int) (n : Nat) : List C := (List.range n).map fun (j : Nat) => (k + 2 * (j : Int), k + 2 * (j : Int) + 1)
theorem marks_length (k : Int) (n : Nat) : (marks k n).length = n := by simp [marks]
theorem marks_get {k : Int} {n j : Nat} (h : j < n) : (marks k n)[j]? = some (k + 2 * (j : Int), k + 2 * (j : Int) + 1) := by
  simp [marks, h]
/-- the first j cells marked, the others as they were -/
def markTo (cs : List C) (k : Int) (j : Nat) : List C := marks k j ++ cs.drop j
theorem markTo_zero (cs : List C) (k : Int) : markTo cs k 0 = cs := by simp [markTo, marks]
theorem markTo_all {cs : List C} {n : Nat} (h : cs.length = n) (k : Int) : markTo cs k n = marks k n := by
  unfold markTo; rw [List.drop_of_length_le (by omega)]; simp
theorem markTo_length {cs : List C} {n j : Nat} (h : cs.length = n) (hj : j ≤ n) (k : Int) : (markTo cs k j).length = n := by
  unfold markTo; simp [marks_length]; omega
theorem marks_succ (k : Int) (j : Nat) : marks k (j + 1) = marks k j ++ [(k + 2 * (j : Int), k + 2 * (j : Int) + 1)] := by
  unfold marks; rw [List.range_succ, List.map_append]; rfl
theorem markTo_set {cs : List C} {n j : Nat} (h : cs.length = n) (hj : j < n) (k : Int) : (markTo cs k j).set j (k + 2 * (j : Int), k + 2 * (j : Int) + 1) = markTo cs k (j + 1) := by
  unfold markTo
  rw [List.set_append_right _ _ (by rw [marks_length]; omega), marks_length, Nat.sub_self, marks_succ, List.append_assoc]
  congr 1
  rw [List.drop_eq_getElem_cons (by omega)]
  rfl



/-! ### Rows beside one another -/
theorem own_beside {w w' : World} {row : Option Nat} {base : Nat} {v : Value} {cs : List C} (h : Own w base v cs) (hg : w.grownBy w' row) (hne : v.ownBlock = none ∨ v.ownBlock ≠ row) : Own w' base v cs := h.kept hg hne
theorem Own.apart {w w' : World} {base base' : Nat} {v v' : Value} {cs cs' : List C} (h : Own w base v cs) (h' : Own w' base' v' cs') (hlt : w.heap.size ≤ base') : v.ownBlock = none ∨ v.ownBlock ≠ v'.ownBlock := by
  cases hv : v.ownBlock with
  | none => exact Or.inl rfl
  | some k =>
    refine Or.inr fun e => ?_
    have h1 := h.lt k hv
    have h2 := h'.lt k e.symm
    omega
theorem Own.apart' {w w' : World} {base base' : Nat} {v v' : Value} {cs cs' : List C} (h : Own w base v cs) (h' : Own w' base' v' cs') (hlt : w.heap.size ≤ base') : v'.ownBlock = none ∨ v'.ownBlock ≠ v.ownBlock := by
  cases hv : v'.ownBlock with
  | none => exact Or.inl rfl
  | some k =>
    refine Or.inr fun e => ?_
    have h1 := h.lt k e.symm
    have h2 := h'.lt k hv
    omega
theorem below_grown {B : Nat} {a w w' : World} {base : Nat} {v : Value} {cs : List C} (h : Below B a w) (ho : Own w base v cs) (hg : w.grownBy w' v.ownBlock) (hBw : B ≤ w.heap.size) (hB : B ≤ base) : Below B a w' :=
  h.grown hg hBw (fun k hk => Nat.le_trans hB (ho.lt k hk).1)
theorem own_cells {w : World} {base n cap : Nat} {A : Option Addr} {cs : List C} (h : Own w base (.slice A n cap) cs) : CellsAt w A n cs := by
  obtain ⟨A', cap', e, hr, _⟩ := h.form
  injection e with e1 e2 _
  subst e1 e2
  exact hr
end Go.Proofs.YtacegndmclnbnaaGreatDoor
