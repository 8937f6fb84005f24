/- SquaresIn, the program's and the reference's. Condition: slices of at most 2^20 cells. -/
import Derived.Test.YthhaojbnnacdbaaNear
import Derived.Test.YthhaojbnnacdbaaHas
namespace Go.Proofs.Ythhaojbnnacdbaa
open Go.RowKit

def sqAt (cs : List C) (c : C) : Bool := memC cs (c.1 + 1) c.2 && memC cs c.1 (c.2 + 1) && memC cs (c.1 + 1) (c.2 + 1)
def sqTo (cs : List C) (k : Nat) : Nat := ((cs.take k).filter (sqAt cs)).length
def squares (cs : List C) : Nat := if isShape cs then sqTo cs cs.length else 0
theorem sqTo_le (cs : List C) (k : Nat) : sqTo cs k ≤ k := by
  unfold sqTo
  refine Nat.le_trans (List.length_filter_le _ _) ?_
  simp; omega
theorem sq_yes {cs : List C} {k s : Nat} {c : C} (hs : s = sqTo cs k) (hk : cs[k]? = some c) (h : sqAt cs c = true) : s + 1 = sqTo cs (k + 1) := by
  unfold sqTo at *; rw [take_next hk, List.filter_append, hs]; simp [h]
theorem sq_no {cs : List C} {k s : Nat} {c : C} (hs : s = sqTo cs k) (hk : cs[k]? = some c) (h : sqAt cs c = false) : s = sqTo cs (k + 1) := by
  unfold sqTo at *; rw [take_next hk, List.filter_append, hs]; simp [h]

theorem specHas_eq {A : Option Addr} {n cap : Nat} {cs : List C} {x y : Int} {t : Bool} {w : World} (hm : memC cs x y = t) (hn : n ≤ 1048576) (h : CellsAt w A n cs) :
    ∀ v : Later w, Calls Try.prog 69 #[.slice A n cap, .int .i64 x, .int .i64 y] v.1 fun e w' => e = .returned (.bool t) ∧ v.1 = w' :=
  fun v => by subst hm; exact specHasCell A n cap cs x y v.1 hn (h.below v.2)
theorem implHas_eq {A : Option Addr} {n cap : Nat} {cs : List C} {x y : Int} {t : Bool} {w : World} (hm : memC cs x y = t) (hn : n ≤ 1048576) (h : CellsAt w A n cs) :
    ∀ v : Later w, Calls Try.prog 109 #[.slice A n cap, .int .i64 x, .int .i64 y] v.1 fun e w' => e = .returned (.bool t) ∧ Below v.1.heap.size v.1 w' :=
  fun v => by subst hm; exact implHasCell A n cap cs x y v.1 hn (h.below v.2)

end Go.Proofs.Ythhaojbnnacdbaa
