/- ComposeMotions and InverseMotion, the program's and the reference's: contracts. No condition. -/
import Derived.Test.YtacegndmclnbnaaGreatDoorMot
namespace Go.Proofs.YtacegndmclnbnaaGreatDoor
open Go.RowKit

theorem run_eql_cell {a b c d : Int} {t : Bool} (h : decide ((a, b) = (c, d)) = t) (W : World) :
    (binOp .eql 50 (.agg #[.int .i64 a, .int .i64 b]) (.agg #[.int .i64 c, .int .i64 d])).run Tryz.prog W = .ok (.bool t) W := by
  subst h
  by_cases hp : a = c
  · subst hp
    by_cases hq : b = d
    · subst hq; go_simp
    · go_simp
  · go_simp

/-! ### Composition -/
def hitI (a b k : Nat) : Bool := decide (carryC (1, 2) k = carryC (carryC (1, 2) a) b)
def hitS (a b k : Nat) : Bool := decide (carryC (1, 0) k = carryC (carryC (1, 0) a) b) && decide (carryC (0, 1) k = carryC (carryC (0, 1) a) b)
theorem hit_eq : ∀ a b k : Fin 8, hitI a.1 b.1 k.1 = hitS a.1 b.1 k.1 := by decide +kernel
def firstHit (f : Nat → Bool) : Nat → Nat → Int
  | 0, _ => -1
  | n + 1, k => if f k = true then (k : Int) else firstHit f n (k + 1)
def compM (a b : Int) : Int := if 0 ≤ a ∧ a ≤ 7 ∧ 0 ≤ b ∧ b ≤ 7 then firstHit (hitI a.toNat b.toNat) 8 0 else -1
theorem inB_07 {a : Int} : inB a 0 7 = true ↔ 0 ≤ a ∧ a ≤ 7 := by simp [inB]


theorem box_cell (w : World) (c : C) (j : Nat) (v : Value) (h : (#[Value.int .i64 c.1, .int .i64 c.2] : Array Value)[j]? = some v) : (w.alloc (.cells #[.int .i64 c.1, .int .i64 c.2] 50)).cell? ⟨w.heap.size, j, none⟩ = some v := by
  rw [cell_of_row _ _ _ _ _ _ (heap_alloc_new w _)]; exact h
theorem firstHit_congr {f g : Nat → Bool} : ∀ (n k : Nat), (∀ j, k ≤ j → j < k + n → f j = g j) → firstHit f n k = firstHit g n k
  | 0, _, _ => rfl
  | n + 1, k, h => by
    unfold firstHit
    rw [h k (by omega) (by omega), firstHit_congr n (k + 1) fun j h1 h2 => h j (by omega) (by omega)]
theorem hits_eq {a b : Nat} (ha : a ≤ 7) (hb : b ≤ 7) : firstHit (hitI a b) 8 0 = firstHit (hitS a b) 8 0 :=
  firstHit_congr 8 0 fun j _ h => hit_eq ⟨a, by omega⟩ ⟨b, by omega⟩ ⟨j, by omega⟩


def invF (m : Int) (k : Nat) : Bool := decide (compM m k = 0)
def invM (m : Int) : Int := firstHit (invF m) 8 0
theorem first_step (f : Nat → Bool) {k : Nat} (h : k < 8) : firstHit f (8 - k) k = if f k = true then (k : Int) else firstHit f (8 - (k + 1)) (k + 1) := by
  rw [show 8 - k = (8 - (k + 1)) + 1 by omega]; rfl
end Go.Proofs.YtacegndmclnbnaaGreatDoor
