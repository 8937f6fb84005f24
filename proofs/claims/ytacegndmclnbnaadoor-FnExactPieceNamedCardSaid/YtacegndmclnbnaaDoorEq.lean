/- EqualShapes, the order of cells, and CompareShapes, the program's and the reference's: contracts. Condition: slices of at most 2^20 cells. -/
import Derived.Test.YtacegndmclnbnaaDoorLawC
namespace Go.Proofs.YtacegndmclnbnaaDoor
open Go.RowKit

/-! ### The order of cells -/
def bef (a b : C) : Bool := decide (a.2 < b.2) || (decide (a.2 = b.2) && decide (a.1 < b.1))
theorem bef_iff (a b : C) : bef a b = true ↔ a.2 < b.2 ∨ (a.2 = b.2 ∧ a.1 < b.1) := by simp [bef]
theorem bef_mk (a b c d : Int) : bef (a, b) (c, d) = (decide (b < d) || (decide (b = d) && decide (a < c))) := rfl

set_option maxHeartbeats 400000 in
theorem implBefore (a b c d : Int) (w : World) :
    Calls Tryd.prog 88 #[.agg #[.int .i64 a, .int .i64 b], .agg #[.int .i64 c, .int .i64 d]] w fun e w' => e = .returned (.bool (bef (a, b) (c, d))) ∧ Below w.heap.size w w' := by
  have hB := ((Below.refl w.heap.size w).alloc (Nat.le_refl _) (.cells #[.int .i64 a, .int .i64 b] 50)).alloc (by simp) (.cells #[.int .i64 c, .int .i64 d] 50)
  rw [bef_mk]
  by_cases h1 : b < d
  · have hd : decide (b < d) = true := by simpa using h1
    go_enter Tryd.func88, Tryd.ntmps88
    go_wp2
    go_ret
    exact ⟨by simp [h1], hB⟩
  · have hd : decide (b < d) = false := by simpa using h1
    by_cases h2 : b = d
    · subst h2
      by_cases h3 : a < c
      all_goals
        go_enter Tryd.func88, Tryd.ntmps88
        go_wp2
        go_ret
        exact ⟨by simp [h3], hB⟩
    · have hd2 : (b == d) = false := by simpa using h2
      go_enter Tryd.func88, Tryd.ntmps88
      go_wp2
      go_ret
      exact ⟨by simp, hB⟩
theorem implBefore_eq {a b c d : Int} {t : Bool} (h : bef (a, b) (c, d) = t) (w : World) :
    Calls Tryd.prog 88 #[.agg #[.int .i64 a, .int .i64 b], .agg #[.int .i64 c, .int .i64 d]] w fun e w' => e = .returned (.bool t) ∧ Below w.heap.size w w' := h ▸ implBefore a b c d w
set_option maxHeartbeats 400000 in
theorem specBefore (a b c d : Int) (w : World) :
    Calls Tryd.prog 82 #[.agg #[.int .i64 a, .int .i64 b], .agg #[.int .i64 c, .int .i64 d]] w fun e w' => e = .returned (.bool (bef (a, b) (c, d))) ∧ Below w.heap.size w w' := by
  have hB := ((Below.refl w.heap.size w).alloc (Nat.le_refl _) (.cells #[.int .i64 a, .int .i64 b] 50)).alloc (by simp) (.cells #[.int .i64 c, .int .i64 d] 50)
  rw [bef_mk]
  by_cases h1 : b < d
  · have hd : decide (b < d) = true := by simpa using h1
    go_enter Tryd.func82, Tryd.ntmps82
    go_wp2
    go_ret
    exact ⟨by simp [h1], hB⟩
  · have hd : decide (b < d) = false := by simpa using h1
    by_cases h2 : b = d
    · subst h2
      by_cases h3 : a < c
      all_goals
        go_enter Tryd.func82, Tryd.ntmps82
        go_wp2
        go_ret
        exact ⟨by simp [h3], hB⟩
    · have hd2 : (b == d) = false := by simpa using h2
      go_enter Tryd.func82, Tryd.ntmps82
      go_wp2
      go_ret
      exact ⟨by simp, hB⟩
theorem specBefore_eq {a b c d : Int} {t : Bool} (h : bef (a, b) (c, d) = t) (w : World) :
    Calls Tryd.prog 82 #[.agg #[.int .i64 a, .int .i64 b], .agg #[.int .i64 c, .int .i64 d]] w fun e w' => e = .returned (.bool t) ∧ Below w.heap.size w w' := h ▸ specBefore a b c d w

end Go.Proofs.YtacegndmclnbnaaDoor
