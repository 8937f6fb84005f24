/- What the laws themselves do with slices of cells: size, copy, comparison. Condition: at most 2^20 cells. -/
import Derived.Test.YtpbkpebpidabiaaCells
namespace Go.Proofs.Ytpbkpebpidabiaa
open Go.RowKit

def mixC (cs : List C) (n k : Nat) : List C := cs.take k ++ List.replicate (n - k) (0, 0)
theorem mixC_length {cs : List C} {n k : Nat} (h : cs.length = n) (hk : k ≤ n) : (mixC cs n k).length = n := by
  simp [mixC]; omega
theorem mixC_zero (cs : List C) (n : Nat) : mixC cs n 0 = List.replicate n (0, 0) := by simp [mixC]
theorem mixC_all {cs : List C} {n : Nat} (h : cs.length = n) : mixC cs n n = cs := by simp [mixC, ← h]
theorem mixC_set {cs : List C} {n k : Nat} {x : C} (h : cs.length = n) (hk : k < n) (he : cs[k]? = some x) : (mixC cs n k).set k x = mixC cs n (k + 1) := by
  unfold mixC
  have hl : (cs.take k).length = k := by simp; omega
  rw [List.set_append_right _ _ (by omega), hl, Nat.sub_self, take_next he, show n - k = (n - (k + 1)) + 1 by omega, List.replicate_succ]
  simp
theorem flat_replicate (n : Nat) : flat (List.replicate n (0, 0)) = (madeCells #[.int .i64 0, .int .i64 0] (n * 2)).toList := by
  apply List.ext_getElem?
  intro j
  by_cases hj : j < n * 2
  · have h1 := flat_get (List.replicate n (0, 0)) (j / 2)
    have hr : (List.replicate n ((0 : Int), (0 : Int)))[j / 2]? = some (0, 0) := by
      rw [List.getElem?_replicate, if_pos (by omega)]
    rw [hr] at h1
    rcases Nat.mod_two_eq_zero_or_one j with h | h
    · rw [show j / 2 * 2 = j by omega] at h1
      rw [h1.1]
      simp [madeCells, hj, h]
    · rw [show j / 2 * 2 + 1 = j by omega] at h1
      rw [h1.2]
      simp [madeCells, hj, h]
  · rw [List.getElem?_eq_none (by rw [flat_length]; simp; omega), List.getElem?_eq_none (by simp [madeCells]; omega)]


theorem below1 (w : World) (o : Obj) : Below w.heap.size w (w.alloc o) := (Below.refl _ _).alloc (Nat.le_refl _) _
theorem below2 (w : World) (o p : Obj) : Below w.heap.size w ((w.alloc o).alloc p) := (below1 w o).alloc (by simp) _
theorem below3 (w : World) (o p q : Obj) : Below w.heap.size w (((w.alloc o).alloc p).alloc q) := (below2 w o p).alloc (by simp; omega) _


theorem own_stored {w : World} {B g n k : Nat} {cs : List C} {x y : Int} (h : w.ownsRow B 51 2 (.slice (some ⟨g, 0, none⟩) n n) n (flat (mixC cs n k))) (hl : cs.length = n) (hk : k < n) (he : cs[k]? = some (x, y)) :
    ((w.setCell ⟨g, k * 2, none⟩ (.int .i64 x)).setCell ⟨g, k * 2 + 1, none⟩ (.int .i64 y)).ownsRow B 51 2 (.slice (some ⟨g, 0, none⟩) n n) n (flat (mixC cs n (k + 1))) := by
  have h1 := (h.stored (k * 2) (.int .i64 x)).1
  have h2 := (h1.stored (k * 2 + 1) (.int .i64 y)).1
  rwa [flat_set (mixC cs n k) k (x, y), mixC_set hl hk he] at h2

theorem row_below {w w' : World} {B e sz n : Nat} {v : Value} {xs : List Value} (h : w.ownsRow B e sz v n xs) (hb : Below w.heap.size w w') : w'.ownsRow B e sz v n xs := by
  refine h.kept (row := none) ⟨hb.os, hb.tape, hb.output, hb.size, fun k hk _ => hb.block k hk⟩ ?_
  cases v.ownBlock <;> simp
theorem row_cell {w : World} {B e sz n g cap : Nat} {xs : List Value} (h : w.ownsRow B e sz (.slice (some ⟨g, 0, none⟩) n cap) n xs) {j : Nat} (hj : j < n * sz) : ∃ u, w.cell? ⟨g, j, none⟩ = some u := by
  have hl : j < xs.length := by rw [h.1]; exact hj
  exact ⟨xs[j], (World.ownsRow.cellAt h j hj).trans (List.getElem?_eq_getElem hl)⟩



theorem take_eq_next {cs ds : List C} {k : Nat} {x : C} (h : cs.take k = ds.take k) (h1 : cs[k]? = some x) (h2 : ds[k]? = some x) : Hid (cs.take (k + 1) = ds.take (k + 1)) := by
  show _ = _
  rw [take_next h1, take_next h2, h]
theorem ne_at {cs ds : List C} {k : Nat} {x y : C} (h1 : cs[k]? = some x) (h2 : ds[k]? = some y) (hne : x ≠ y) : cs ≠ ds := by
  rintro rfl
  rw [h1] at h2
  exact hne (Option.some.inj h2)
def EqPost (cs ds : List C) (w : World) (e : Ending) (w' : World) : Prop := e = .returned (.bool (decide (cs = ds))) ∧ Below w.heap.size w w'

end Go.Proofs.Ytpbkpebpidabiaa
