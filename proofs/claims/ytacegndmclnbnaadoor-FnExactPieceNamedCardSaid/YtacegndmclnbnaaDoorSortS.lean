/- The reference's SortCells: an insertion sort. Condition: slices of at most 2^20 cells. -/
import Derived.Test.YtacegndmclnbnaaDoorSortM
import Derived.Test.YtacegndmclnbnaaDoorApp
import Derived.Test.YtacegndmclnbnaaDoorMark
import Derived.Deep.RegionLaw
namespace Go.Proofs.YtacegndmclnbnaaDoor
open Go.RowKit

theorem CellsAt.takeS {w : World} {A : Option Addr} {n k : Nat} {cs : List C} (h : CellsAt w A n cs) (hk : k ≤ n) : SliceAt w 2 A k (flat (cs.take k)) := by
  have hl : (cs.take k).length = k := by rw [List.length_take, h.1]; omega
  refine CellsAt.slice ⟨hl, fun hn => ?_⟩
  obtain ⟨b, o, e, hlt, hc⟩ := h.2 (by omega)
  refine ⟨b, o, e, hlt, fun j hj => ?_⟩
  have := hc j (by omega)
  rw [show (cs.take k).getD j (0, 0) = cs.getD j (0, 0) by simp [List.getD_eq_getElem?_getD, hj]]
  exact this

theorem own_cap {w : World} {base : Nat} {A : Option Addr} {n cap : Nat} {cs : List C} (h : Own w base (.slice A n cap) cs) : n ≤ cap ∧ cap ≤ maxLen := by
  have hn := (own_cells h).1
  rcases h.2 with ⟨e, h0⟩ | ⟨g, cap', cur, e, _, _, hle, hm, _⟩
  · injection e with e1 e2 e3
    subst e3
    exact ⟨by omega, by unfold maxLen; omega⟩
  · injection e with e1 e2 e3
    subst e3
    exact ⟨by omega, hm⟩
theorem CellsAt.dropS {w : World} {A : Option Addr} {n k cap : Nat} {cs : List C} (h : CellsAt w A n cs) (hk : k ≤ n) (hcap : n ≤ cap) : SliceAt w 2 (if cap = k then A else A.map (·.add (k * 2))) (n - k) (flat (cs.drop k)) := by
  have hl : (cs.drop k).length = n - k := by rw [List.length_drop, h.1]
  by_cases hn : k < n
  · obtain ⟨b, o, e, hlt, hc⟩ := h.2 (by omega)
    subst e
    rw [if_neg (by omega)]
    refine CellsAt.slice ⟨hl, fun _ => ⟨b, o + k * 2, by simp [Addr.add_lit], hlt, fun j hj => ?_⟩⟩
    have := hc (k + j) (by omega)
    rw [show (cs.drop k).getD j (0, 0) = cs.getD (k + j) (0, 0) by simp [List.getD_eq_getElem?_getD], show o + k * 2 + j * 2 = o + (k + j) * 2 by omega]
    exact this
  · exact ⟨by rw [flat_length, hl], fun h0 => by omega⟩

end Go.Proofs.YtacegndmclnbnaaDoor
