/- What the law on shapes asks, plain: a shape's text is read back as its corner, a move is taken back, and the corner is the same behind a move. -/
import Derived.Test.YtacegndmclnbnaaGreatDoorPShI
import Derived.Test.YtacegndmclnbnaaGreatDoorMove
import Derived.Test.YtacegndmclnbnaaGreatDoorEq
import Derived.Test.YtacegndmclnbnaaGreatDoorTurnM
namespace Go.Proofs.YtacegndmclnbnaaGreatDoor
open Go.RowKit

theorem mov_mov2 (cs : List C) (x y u v : Int) : movC (movC cs x y) u v = movC cs (x + u) (y + v) := by
  unfold movC
  rw [List.map_map]
  exact List.map_congr_left fun c _ => Prod.ext (by show c.1 + x + u = c.1 + (x + u); omega) (by show c.2 + y + v = c.2 + (y + v); omega)
theorem minOf_mov2 {f : C → Int} {d : Int} {cs : List C} {x y : Int} (h : cs ≠ []) (hf : ∀ c : C, f (c.1 + x, c.2 + y) = f c + d) : minOf f (movC cs x y) = minOf f cs + d := by
  obtain ⟨c, hc, e⟩ := minOf_mem f h
  refine minOf_eq (fun a ha => ?_) ⟨(c.1 + x, c.2 + y), List.mem_map.2 ⟨c, hc, rfl⟩, by rw [hf, e]⟩
  obtain ⟨b, hb, rfl⟩ := List.mem_map.1 ha
  have := minOf_le f hb
  rw [hf]; omega
theorem corner_mov2 (cs : List C) (x y : Int) : cornerC (movC cs x y) = cornerC cs := by
  by_cases h : cs = []
  · subst h; rfl
  · unfold cornerC
    rw [minOf_mov2 (f := (·.1)) (d := x) h (fun c => rfl), minOf_mov2 (f := (·.2)) (d := y) h (fun c => rfl), mov_mov2]
    congr 1 <;> omega
theorem corner_corner (cs : List C) : cornerC (cornerC cs) = cornerC cs := by
  conv => lhs; arg 1; unfold cornerC
  exact corner_mov2 _ _ _
theorem corner_shape {cs : List C} (h : isShape cs = true) : isShape (cornerC cs) = true := by
  have hl := shape_len h
  exact isShape_mk (cornerC_sorted (shape_sorted h)) (smallL_corner h) (by rw [cornerC_length]; exact hl.1) (by rw [cornerC_length]; exact hl.2)
theorem psh_fmt (cs : List C) : pshR (fmt (cornerShape cs)) = (cornerShape cs, isShape cs) := by
  have hr := (read_fmt cs).1
  have hp : psh (fmt (cornerShape cs)) = if fmt (cornerShape cs) ≠ [] ∧ fmt (cornerShape (cornerShape cs)) = fmt (cornerShape cs) then some (cornerShape cs) else none := by unfold psh; rw [hr]
  cases h : isShape cs with
  | false =>
    have e : cornerShape cs = [] := by unfold cornerShape; rw [if_neg (by rw [h]; simp)]
    rw [e]
    rfl
  | true =>
    have e : cornerShape cs = cornerC cs := by unfold cornerShape; rw [if_pos h]
    have e2 : cornerShape (cornerC cs) = cornerC cs := by unfold cornerShape; rw [if_pos (corner_shape h), corner_corner]
    have hne : fmt (cornerC cs) ≠ [] := by
      intro h0
      rw [e, h0] at hr
      have hl := (shape_len h).1
      have := congrArg List.length hr
      rw [cornerC_length] at this
      simp [pread] at this
      omega
    rw [e, e2, if_pos ⟨hne, rfl⟩] at hp
    rw [e, pshR_some hp]
theorem mov_back (cs : List C) (x y : Int) : movC (movC cs x y) (-x) (-y) = cs := by
  rw [mov_mov2, show x + -x = 0 by omega, show y + -y = 0 by omega]
  unfold movC
  conv => rhs; rw [← List.map_id cs]
  exact List.map_congr_left fun c _ => by simp
theorem inB_neg {x : Int} (h : inB x (-7) 7 = true) : inB (-x) (-7) 7 = true := by
  have := inB_small h
  unfold inB
  simp
  omega
theorem move_cases (cs : List C) (x y : Int) : moveShape cs x y = ([], false) ∨ (moveShape cs x y = (movC cs x y, true) ∧ moveShape (movC cs x y) (-x) (-y) = (cs, true) ∧ cornerShape (movC cs x y) = cornerShape cs) := by
  cases h : (isShape cs && inB x (-7) 7 && inB y (-7) 7 && isShape (movC cs x y)) with
  | false => exact Or.inl (moveShape_no h)
  | true =>
    refine Or.inr ⟨moveShape_yes h, ?_, ?_⟩
    all_goals simp only [Bool.and_eq_true] at h
    all_goals obtain ⟨⟨⟨h1, h2⟩, h3⟩, h4⟩ := h
    · have := moveShape_yes (cs := movC cs x y) (x := -x) (y := -y) (by rw [mov_back, h4, inB_neg h2, inB_neg h3, h1]; rfl)
      rw [mov_back] at this
      exact this
    · unfold cornerShape
      rw [if_pos h1, if_pos h4, corner_mov2]
theorem isShape_eq (cs : List C) : isShape cs = isShape cs := rfl
theorem specSame (A B : Option Addr) (n cap cap' : Nat) (cs : List C) (w : World) (hn : n ≤ 1048576) (h : CellsAt w A n cs) (g : CellsAt w B n cs) :
    Calls Tryz.prog 15 #[.slice A n cap, .slice B n cap'] w fun e w' => e = .returned (.bool true) ∧ Below w.heap.size w w' := by
  have := specEqualShapes A B n n cap cap' cs cs w hn hn h g
  unfold EqPost at this
  rwa [show decide (cs = cs) = true by simp] at this
theorem specSame2 (A B : Option Addr) (n m cap cap' : Nat) (cs : List C) (w : World) (hm : n = m) (hn : n ≤ 1048576) (h : CellsAt w A n cs) (g : CellsAt w B m cs) :
    Calls Tryz.prog 15 #[.slice A n cap, .slice B m cap'] w fun e w' => e = .returned (.bool true) ∧ Below w.heap.size w w' := by
  subst hm
  exact specSame A B n cap cap' cs w hn h g
end Go.Proofs.YtacegndmclnbnaaGreatDoor
