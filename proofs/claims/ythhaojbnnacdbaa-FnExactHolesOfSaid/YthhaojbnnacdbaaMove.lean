/- Cells moved by a distance: the program's moved. Condition: small coordinates, slices of at most 2^20 cells. -/
import Derived.Test.YthhaojbnnacdbaaNear
namespace Go.Proofs.Ythhaojbnnacdbaa
open Go.RowKit

def movC (cs : List C) (x y : Int) : List C := cs.map fun c => (c.1 + x, c.2 + y)
theorem movC_length (cs : List C) (x y : Int) : (movC cs x y).length = cs.length := by simp [movC]
theorem movC_take {cs : List C} {k : Nat} {p q x y : Int} (h : cs[k]? = some (p, q)) : movC (cs.take (k + 1)) x y = movC (cs.take k) x y ++ [(p + x, q + y)] := by
  unfold movC; rw [take_next h, List.map_append]; rfl
theorem below_append1 {B : Nat} {w wr w1 : World} {o : Obj} {v : Value} {e sz n : Nat} {xs : List Value} (hb : Below B w wr) (hown : wr.ownsRow B e sz v n xs) (hB : B ≤ wr.heap.size)
    (hgrow : (wr.alloc o).grownBy w1 v.ownBlock) : Below B w w1 :=
  (hb.alloc hB o).grown hgrow (by simp; omega) (fun k hk => (hown.lt k hk).1)
theorem below_append {B : Nat} {w wr w1 : World} {o : Obj} {v : Value} {e sz n : Nat} {xs : List Value} (hb : Below B w wr) (hown : wr.ownsRow B e sz v n xs) (hB : B ≤ wr.heap.size)
    (hgrow : ((wr.alloc o).drew).grownBy w1 v.ownBlock) : Below B w w1 :=
  ((hb.alloc hB o).drew).grown hgrow (by simp; omega) (fun k hk => (hown.lt k hk).1)
theorem below_append2 {B : Nat} {w wr w1 : World} {o p : Obj} {v : Value} {e sz n : Nat} {xs : List Value} (hb : Below B w wr) (hown : wr.ownsRow B e sz v n xs) (hB : B ≤ wr.heap.size)
    (hgrow : ((wr.alloc o).alloc p).grownBy w1 v.ownBlock) : Below B w w1 :=
  ((hb.alloc hB o).alloc (by simp; omega) p).grown hgrow (by simp; omega) (fun k hk => (hown.lt k hk).1)

set_option maxHeartbeats 1600000 in
theorem implMoved (A : Option Addr) (n cap : Nat) (cs : List C) (x y : Int) (w : World) (hz : ∀ (k : Nat) (c : C), cs[k]? = some c → smallC c) (hxy : smallC (x, y)) (hn : n ≤ 1048576) (h : CellsAt w A n cs) :
    Calls Try.prog 112 #[.slice A n cap, .int .i64 x, .int .i64 y] w (OwnPost w (movC cs x y)) := by
  obtain ⟨i0, hi, hz0, hz1, hz2⟩ := info_parts Try.infoC
  obtain ⟨x1, x2, y1, y2⟩ := hxy
  simp only at x1 x2 y1 y2
  have hl := Lib.hid h.1
  go_enter Try.func112, Try.ntmps112
  go_wp2
  go_loopw [7, 9, 12] (fun v _ i wr => ∃ k : Nat, k ≤ n ∧ i = .int .i64 k ∧ wr.ownsRow w.heap.size 58 2 v k (flat (movC (cs.take k) x y)) ∧ Below w.heap.size w wr) (fun _ _ i _ => n - (intOf i).toNat)
  case atStart => exact ⟨0, Nat.zero_le _, rfl, World.ownsRow_nil _ _ _ _, Below.refl _ _⟩
  case round =>
    obtain ⟨k, hk, rfl, hown, hb⟩ := hrel
    by_cases hlt : k < n
    · obtain ⟨b, o, p, q, rfl, hbl, HP, c1, c2⟩ := (h.below hb).at_ hlt
      clear h
      obtain ⟨z1, z2, z3, z4⟩ := hz _ _ HP.out
      simp only at z1 z2 z3 z4
      have hsz := hb.size
      go_wp2_with (at_builtin; refine wpList_append_own _ rfl _ _ 25 rfl w.heap.size 58 i0 (.agg #[.int .i64 0, .int .i64 0]) 2 16 Try.underlying25 hi hz0 hz1 hz2 rfl (by decide) _ _ _ rfl ((hown.alloc _).alloc _) ⟨wr.heap.size + 1, 0, none⟩ 1 1 (flat [(p + x, q + y)]) rfl rfl ?c1 ?c2 ?c3 ?c4 ?c5 ?_)
      case c1 => exact World.news_of_block (cs := #[.int .i64 (p + x), .int .i64 (q + y)]) (by have := heap_alloc_new (wr.alloc (.cells #[.int .i64 p, .int .i64 q] 58)) (.cells #[.int .i64 (p + x), .int .i64 (q + y)] 58); rw [show wr.heap.size + 1 = (wr.alloc (.cells #[.int .i64 p, .int .i64 q] 58)).heap.size by simp]; exact this)
      case c2 => exact flat_one
      case c3 => unfold maxLen; omega
      case c4 => omega
      case c5 => simp; omega
      intro v' w1 hown1 hgrow _
      have R1 := below_append2 hb hown hsz hgrow
      rw [← flat_append, ← movC_take HP.out] at hown1
      clear hown hgrow
      go_wp2
      go_roundw
      case rel => exact ⟨k + 1, by omega, by go_num, hown1, R1⟩
      case measure => simp [intOf]; omega
    · obtain rfl : k = n := by omega
      rw [List.take_of_length_le (by rw [hl.out]; exact Nat.le_refl _)] at hown
      have hO : Own wr w.heap.size u7 (movC cs x y) := by unfold Own; rw [movC_length, hl.out]; exact hown
      go_wp2
      go_ret
      exact ⟨_, rfl, hO, hb⟩

/-- what MoveShape hands back -/
def moveShape (cs : List C) (x y : Int) : List C × Bool := if (isShape cs && inB x (-7) 7 && inB y (-7) 7 && isShape (movC cs x y)) = true then (movC cs x y, true) else ([], false)
/-- The call hands back a row of its own and a Bool. -/
def OwnPost2 (w : World) (r : List C × Bool) (e : Ending) (w' : World) : Prop := ∃ v, e = .returned (.tuple #[v, .bool r.2]) ∧ Own w' w.heap.size v r.1 ∧ Below w.heap.size w w'
theorem moveShape_no {cs : List C} {x y : Int} (h : (isShape cs && inB x (-7) 7 && inB y (-7) 7 && isShape (movC cs x y)) = false) : moveShape cs x y = ([], false) := by
  unfold moveShape; rw [h]; rfl
theorem moveShape_yes {cs : List C} {x y : Int} (h : (isShape cs && inB x (-7) 7 && inB y (-7) 7 && isShape (movC cs x y)) = true) : moveShape cs x y = (movC cs x y, true) := by
  unfold moveShape; rw [h]; rfl
theorem inB_small {x : Int} (h : inB x (-7) 7 = true) : -7 ≤ x ∧ x ≤ 7 := by
  unfold inB at h; simp at h; exact h

theorem own_empty (w : World) : Own (w.alloc (.cells #[] 58)) w.heap.size (.slice (some ⟨w.heap.size, 0, none⟩) 0 0) [] :=
  ⟨rfl, Or.inr ⟨w.heap.size, 0, #[], rfl, Nat.le_refl _, heap_alloc_new w _, Nat.le_refl _, by unfold maxLen; omega, rfl, rfl⟩⟩


theorem moveShape_len (cs : List C) (x y : Int) (h : cs.length ≤ 1048576) : (moveShape cs x y).1.length ≤ 1048576 := by
  unfold moveShape
  split
  · show (movC cs x y).length ≤ _; rw [movC_length]; exact h
  · exact Nat.zero_le _
end Go.Proofs.Ythhaojbnnacdbaa
