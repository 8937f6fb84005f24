/- The places beside a cell: the program's sides. Condition: small coordinates. -/
import Derived.Test.YtacegndmclnbnaaGreatDoorConnS
import Derived.Test.YtacegndmclnbnaaGreatDoorMark
namespace Go.Proofs.YtacegndmclnbnaaGreatDoor
open Go.RowKit

def sidesL (c : C) : List C := [(c.1, c.2 - 1), (c.1 - 1, c.2), (c.1 + 1, c.2), (c.1, c.2 + 1)]
def sidesR (c : C) : List C := [(c.1 + 1, c.2), (c.1, c.2 + 1), (c.1 - 1, c.2), (c.1, c.2 - 1)]
theorem sides_same (c d : C) : d ∈ sidesR c ↔ d ∈ sidesL c := by
  simp only [sidesR, sidesL, List.mem_cons, List.not_mem_nil, or_false]
  constructor <;> rintro (h | h | h | h) <;> simp [h]
theorem sides_small {p q : Int} (h : 0 ≤ p ∧ p ≤ 7 ∧ 0 ≤ q ∧ q ≤ 7) {j : Nat} {c : C} (hc : (sidesL (p, q))[j]? = some c) : smallC c := by
  have hm := List.mem_of_getElem? hc
  obtain ⟨h1, h2, h3, h4⟩ := h
  simp only [sidesL, List.mem_cons, List.not_mem_nil, or_false] at hm
  rcases hm with rfl | rfl | rfl | rfl
  all_goals refine ⟨?_, ?_, ?_, ?_⟩ <;> simp only <;> omega

theorem sideR_at (p q : Int) {d : Nat} (h : d < 4) : ∃ dx dy : Int, -1 ≤ dx ∧ dx ≤ 1 ∧ -1 ≤ dy ∧ dy ≤ 1 ∧ Int.tmod (1 - (d : Int)) 2 = dx ∧ Int.tmod (2 - (d : Int)) 2 = dy ∧ (sidesR (p, q))[d]? = some (p + dx, q + dy) := by
  have : d = 0 ∨ d = 1 ∨ d = 2 ∨ d = 3 := by omega
  rcases this with rfl | rfl | rfl | rfl
  · exact ⟨1, 0, by omega, by omega, by omega, by omega, rfl, rfl, by simp [sidesR]⟩
  · exact ⟨0, 1, by omega, by omega, by omega, by omega, rfl, rfl, by simp [sidesR]⟩
  · exact ⟨-1, 0, by omega, by omega, by omega, by omega, rfl, rfl, by simp [sidesR]; omega⟩
  · exact ⟨0, -1, by omega, by omega, by omega, by omega, rfl, rfl, by simp [sidesR]; omega⟩
end Go.Proofs.YtacegndmclnbnaaGreatDoor
