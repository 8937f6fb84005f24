/- The places beside a cell: the program's sides. Condition: small coordinates. -/
import Derived.Test.YthhaojbnnacdbaaConnS
import Derived.Test.YthhaojbnnacdbaaMark
namespace Go.Proofs.Ythhaojbnnacdbaa
open Go.RowKit

def sidesL (c : C) : List C := [(c.1, c.2 - 1), (c.1 - 1, c.2), (c.1 + 1, c.2), (c.1, c.2 + 1)]
set_option maxHeartbeats 800000 in
theorem implSides (x y : Int) (w : World) (hxy : smallC (x, y)) : Calls Try.prog 72 #[.agg #[.int .i64 x, .int .i64 y]] w (OwnPost w (sidesL (x, y))) := by
  obtain ⟨x1, x2, y1, y2⟩ := hxy
  simp only at x1 x2 y1 y2
  go_enter Try.func72, Try.ntmps72
  go_wp2
  go_ret
  refine ⟨_, rfl, ⟨rfl, Or.inr ⟨w.heap.size + 1, 4, #[.int .i64 x, .int .i64 (y - 1), .int .i64 (x - 1), .int .i64 y, .int .i64 (x + 1), .int .i64 y, .int .i64 x, .int .i64 (y + 1)], rfl, by omega, ?_, Nat.le_refl _, by unfold maxLen; omega, rfl, rfl⟩⟩, ?_⟩
  · have := heap_alloc_new (w.alloc (.cells #[.int .i64 x, .int .i64 y] 58)) (.cells #[.int .i64 x, .int .i64 (y - 1), .int .i64 (x - 1), .int .i64 y, .int .i64 (x + 1), .int .i64 y, .int .i64 x, .int .i64 (y + 1)] 58)
    rw [show (w.alloc (.cells #[.int .i64 x, .int .i64 y] 58)).heap.size = w.heap.size + 1 by simp] at this
    exact this
  · exact below2' _ _ _
def sidesR (c : C) : List C := [(c.1 + 1, c.2), (c.1, c.2 + 1), (c.1 - 1, c.2), (c.1, c.2 - 1)]
theorem sides_same (c d : C) : d ∈ sidesR c ↔ d ∈ sidesL c := by
  simp only [sidesR, sidesL, List.mem_cons, List.not_mem_nil, or_false]
  constructor <;> rintro (h | h | h | h) <;> simp [h]
theorem sides_small {p q : Int} (h : 0 ≤ p ∧ p ≤ 7 ∧ 0 ≤ q ∧ q ≤ 7) {j : Nat} {c : C} (hc : (sidesL (p, q))[j]? = some c) : smallC c := by
  have hm := List.mem_of_getElem? hc
  obtain ⟨h1, h2, h3, h4⟩ := h
  simp only [sidesL, List.mem_cons, List.not_mem_nil, or_false] at hm
  rcases hm with rfl | rfl | rfl | rfl
  all_goals refine ⟨?_, ?_, ?_, ?_⟩ <;> simp only <;> omega

theorem sideR_at (p q : Int) {d : Nat} (h : d < 4) : ∃ dx dy : Int, -1 ≤ dx ∧ dx ≤ 1 ∧ -1 ≤ dy ∧ dy ≤ 1 ∧ Int.tmod (1 - (d : Int)) 2 = dx ∧ Int.tmod (2 - (d : Int)) 2 = dy ∧ (sidesR (p, q))[d]? = some (p + dx, q + dy) := by
  have : d = 0 ∨ d = 1 ∨ d = 2 ∨ d = 3 := by omega
  rcases this with rfl | rfl | rfl | rfl
  · exact ⟨1, 0, by omega, by omega, by omega, by omega, rfl, rfl, by simp [sidesR]⟩
  · exact ⟨0, 1, by omega, by omega, by omega, by omega, rfl, rfl, by simp [sidesR]⟩
  · exact ⟨-1, 0, by omega, by omega, by omega, by omega, rfl, rfl, by simp [sidesR]; omega⟩
  · exact ⟨0, -1, by omega, by omega, by omega, by omega, rfl, rfl, by simp [sidesR]; omega⟩
end Go.Proofs.Ythhaojbnnacdbaa
