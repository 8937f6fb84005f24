/- A number in a range: the program's between and the reference's l1In. No condition. -/
import Derived.Test.YthhaojbnnacdbaaCells
namespace Go.Proofs.Ythhaojbnnacdbaa
open Go.RowKit

def inB (x lo hi : Int) : Bool := decide (lo ≤ x) && decide (x ≤ hi)
theorem between_any (x lo hi : Int) (w : World) :
    Calls Try.prog 73 #[.int .i64 x, .int .i64 lo, .int .i64 hi] w fun e w' => e = .returned (.bool (inB x lo hi)) ∧ w = w' := by
  unfold inB
  by_cases h1 : lo ≤ x <;> by_cases h2 : x ≤ hi
  all_goals
    go_enter Try.func73, Try.ntmps73
    go_wp2
    go_ret
    exact ⟨ret_bool (by simp [h1, h2]), rfl⟩
theorem between_eq {x lo hi : Int} {t : Bool} (h : inB x lo hi = t) (w : World) :
    Calls Try.prog 73 #[.int .i64 x, .int .i64 lo, .int .i64 hi] w fun e w' => e = .returned (.bool t) ∧ w = w' := h ▸ between_any x lo hi w
theorem l1In_any (x lo hi : Int) (w : World) :
    Calls Try.prog 90 #[.int .i64 x, .int .i64 lo, .int .i64 hi] w fun e w' => e = .returned (.bool (inB x lo hi)) ∧ w = w' := by
  unfold inB
  by_cases h1 : lo ≤ x <;> by_cases h2 : x ≤ hi
  all_goals
    go_enter Try.func90, Try.ntmps90
    go_wp2
    go_ret
    exact ⟨ret_bool (by simp [h1, h2]), rfl⟩
theorem l1In_eq {x lo hi : Int} {t : Bool} (h : inB x lo hi = t) (w : World) :
    Calls Try.prog 90 #[.int .i64 x, .int .i64 lo, .int .i64 hi] w fun e w' => e = .returned (.bool t) ∧ w = w' := h ▸ l1In_any x lo hi w
end Go.Proofs.Ythhaojbnnacdbaa
