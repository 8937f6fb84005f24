/- Motions: carry and l3Apply, ComposeMotions, InverseMotion, the program's and the reference's: contracts. Condition: cells of small coordinates. -/
import Derived.Test.YtacegndmclnbnaaDoorShape
namespace Go.Proofs.YtacegndmclnbnaaDoor
open Go.RowKit

def turn1 (c : C) : C := (-c.2, c.1)
def turnN : Nat → C → C
  | 0, c => c
  | k + 1, c => turn1 (turnN k c)
def flipC (c : C) (m : Nat) : C := if 4 ≤ m then (-c.1, c.2) else c
def carryC (c : C) (m : Nat) : C := turnN (m % 4) (flipC c m)
def smallC (c : C) : Prop := -100 ≤ c.1 ∧ c.1 ≤ 100 ∧ -100 ≤ c.2 ∧ c.2 ≤ 100
theorem small_turnN {c : C} (h : smallC c) : ∀ k, smallC (turnN k c)
  | 0 => h
  | k + 1 => by
    obtain ⟨a, b, d, e⟩ := small_turnN h k
    exact ⟨by show -100 ≤ -(turnN k c).2; omega, by show -(turnN k c).2 ≤ 100; omega, a, b⟩
theorem small_flip {c : C} {m : Nat} (h : smallC c) : smallC (flipC c m) := by
  unfold flipC; split
  · obtain ⟨a, b, d, e⟩ := h
    exact ⟨by show -100 ≤ -c.1; omega, by show -c.1 ≤ 100; omega, d, e⟩
  · exact h
theorem small_carry {c : C} {m : Nat} (h : smallC c) : smallC (carryC c m) := small_turnN (small_flip h) _

def aggC (c : C) : Value := .agg #[.int .i64 c.1, .int .i64 c.2]
def boxC (c : C) : Obj := .cells #[.int .i64 c.1, .int .i64 c.2] 50
def AggPost (c : C) (w : World) (e : Ending) (w' : World) : Prop := e = .returned (.agg #[.int .i64 c.1, .int .i64 c.2]) ∧ Below w.heap.size w w'

theorem below2' (w : World) (o p : Obj) : Below w.heap.size w ((w.alloc o).alloc p) := (below_alloc w o).alloc (by simp) _



end Go.Proofs.YtacegndmclnbnaaDoor
