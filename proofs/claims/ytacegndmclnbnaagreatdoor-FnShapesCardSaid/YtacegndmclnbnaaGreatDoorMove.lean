/- Cells moved by a distance: the program's moved. Condition: small coordinates, slices of at most 2^20 cells. -/
import Derived.Test.YtacegndmclnbnaaGreatDoorNear
namespace Go.Proofs.YtacegndmclnbnaaGreatDoor
open Go.RowKit

def movC (cs : List C) (x y : Int) : List C := cs.map fun c => (c.1 + x, c.2 + y)
theorem movC_length (cs : List C) (x y : Int) : (movC cs x y).length = cs.length := by simp [movC]
theorem movC_take {cs : List C} {k : Nat} {p q x y : Int} (h : cs[k]? = some (p, q)) : movC (cs.take (k + 1)) x y = movC (cs.take k) x y ++ [(p + x, q + y)] := by
  unfold movC; rw [take_next h, List.map_append]; rfl
theorem below_append1 {B : Nat} {w wr w1 : World} {o : Obj} {v : Value} {e sz n : Nat} {xs : List Value} (hb : Below B w wr) (hown : wr.ownsRow B e sz v n xs) (hB : B ≤ wr.heap.size)
    (hgrow : (wr.alloc o).grownBy w1 v.ownBlock) : Below B w w1 :=
  (hb.alloc hB o).grown hgrow (by simp; omega) (fun k hk => (hown.lt k hk).1)
theorem below_append {B : Nat} {w wr w1 : World} {o : Obj} {v : Value} {e sz n : Nat} {xs : List Value} (hb : Below B w wr) (hown : wr.ownsRow B e sz v n xs) (hB : B ≤ wr.heap.size)
    (hgrow : ((wr.alloc o).drew).grownBy w1 v.ownBlock) : Below B w w1 :=
  ((hb.alloc hB o).drew).grown hgrow (by simp; omega) (fun k hk => (hown.lt k hk).1)
theorem below_append2 {B : Nat} {w wr w1 : World} {o p : Obj} {v : Value} {e sz n : Nat} {xs : List Value} (hb : Below B w wr) (hown : wr.ownsRow B e sz v n xs) (hB : B ≤ wr.heap.size)
    (hgrow : ((wr.alloc o).alloc p).grownBy w1 v.ownBlock) : Below B w w1 :=
  ((hb.alloc hB o).alloc (by simp; omega) p).grown hgrow (by simp; omega) (fun k hk => (hown.lt k hk).1)

set_option maxHeartbeats 1600000 in
theorem implMoved (A : Option Addr) (n cap : Nat) (cs : List C) (x y : Int) (w : World) (hz : ∀ (k : Nat) (c : C), cs[k]? = some c → smallC c) (hxy : smallC (x, y)) (hn : n ≤ 1048576) (h : CellsAt w A n cs) :
    Calls Tryz.prog 54 #[.slice A n cap, .int .i64 x, .int .i64 y] w (OwnPost w (movC cs x y)) := by
  obtain ⟨i0, hi, hz0, hz1, hz2⟩ := info_parts Tryz.infoC
  obtain ⟨x1, x2, y1, y2⟩ := hxy
  simp only at x1 x2 y1 y2
  have hl := Lib.hid h.1
  go_enter Tryz.func54, Tryz.ntmps54
  go_wp2
  go_loopw [7, 9, 12] (fun v _ i wr => ∃ k : Nat, k ≤ n ∧ i = .int .i64 k ∧ wr.ownsRow w.heap.size 50 2 v k (flat (movC (cs.take k) x y)) ∧ Below w.heap.size w wr) (fun _ _ i _ => n - (intOf i).toNat)
  case atStart => exact ⟨0, Nat.zero_le _, rfl, World.ownsRow_nil _ _ _ _, Below.refl _ _⟩
  case round =>
    obtain ⟨k, hk, rfl, hown, hb⟩ := hrel
    by_cases hlt : k < n
    · obtain ⟨b, o, p, q, rfl, hbl, HP, c1, c2⟩ := (h.below hb).at_ hlt
      clear h
      obtain ⟨z1, z2, z3, z4⟩ := hz _ _ HP.out
      simp only at z1 z2 z3 z4
      have hsz := hb.size
      go_wp2_with (at_builtin; refine wpList_append_own _ rfl _ _ 24 rfl w.heap.size 50 i0 (.agg #[.int .i64 0, .int .i64 0]) 2 16 Tryz.underlying24 hi hz0 hz1 hz2 rfl (by decide) _ _ _ rfl ((hown.alloc _).alloc _) ⟨wr.heap.size + 1, 0, none⟩ 1 1 (flat [(p + x, q + y)]) rfl rfl ?c1 ?c2 ?c3 ?c4 ?c5 ?_)
      case c1 => exact World.news_of_block (cs := #[.int .i64 (p + x), .int .i64 (q + y)]) (by have := heap_alloc_new (wr.alloc (.cells #[.int .i64 p, .int .i64 q] 50)) (.cells #[.int .i64 (p + x), .int .i64 (q + y)] 50); rw [show wr.heap.size + 1 = (wr.alloc (.cells #[.int .i64 p, .int .i64 q] 50)).heap.size by simp]; exact this)
      case c2 => exact flat_one
      case c3 => unfold maxLen; omega
      case c4 => omega
      case c5 => simp; omega
      intro v' w1 hown1 hgrow _
      have R1 := below_append2 hb hown hsz hgrow
      rw [← flat_append, ← movC_take HP.out] at hown1
      clear hown hgrow
      go_wp2
      go_roundw
      case rel => exact ⟨k + 1, by omega, by go_num, hown1, R1⟩
      case measure => simp [intOf]; omega
    · obtain rfl : k = n := by omega
      rw [List.take_of_length_le (by rw [hl.out]; exact Nat.le_refl _)] at hown
      have hO : Own wr w.heap.size u7 (movC cs x y) := by unfold Own; rw [movC_length, hl.out]; exact hown
      go_wp2
      go_ret
      exact ⟨_, rfl, hO, hb⟩

/-- what MoveShape hands back -/
def moveShape (cs : List C) (x y : Int) : List C × Bool := if (isShape cs && inB x (-7) 7 && inB y (-7) 7 && isShape (movC cs x y)) = true then (movC cs x y, true) else ([], false)
/-- The call hands back a row of its own and a Bool. -/
def OwnPost2 (w : World) (r : List C × Bool) (e : Ending) (w' : World) : Prop := ∃ v, e = .returned (.tuple #[v, .bool r.2]) ∧ Own w' w.heap.size v r.1 ∧ Below w.heap.size w w'
theorem moveShape_no {cs : List C} {x y : Int} (h : (isShape cs && inB x (-7) 7 && inB y (-7) 7 && isShape (movC cs x y)) = false) : moveShape cs x y = ([], false) := by
  unfold moveShape; rw [h]; rfl
theorem moveShape_yes {cs : List C} {x y : Int} (h : (isShape cs && inB x (-7) 7 && inB y (-7) 7 && isShape (movC cs x y)) = true) : moveShape cs x y = (movC cs x y, true) := by
  unfold moveShape; rw [h]; rfl
theorem inB_small {x : Int} (h : inB x (-7) 7 = true) : -7 ≤ x ∧ x ≤ 7 := by
  unfold inB at h; simp at h; exact h

theorem own_empty (w : World) : Own (w.alloc (.cells #[] 50)) w.heap.size (.slice (some ⟨w.heap.size, 0, none⟩) 0 0) [] :=
  ⟨rfl, Or.inr ⟨w.heap.size, 0, #[], rfl, Nat.le_refl _, heap_alloc_new w _, Nat.le_refl _, by unfold maxLen; omega, rfl, rfl⟩⟩

set_option maxHeartbeats 3200000 in
theorem specMoveShape (A : Option Addr) (n cap : Nat) (cs : List C) (x y : Int) (w : World) (hn : n ≤ 1048576) (h : CellsAt w A n cs) :
    Calls Tryz.prog 19 #[.slice A n cap, .int .i64 x, .int .i64 y] w (OwnPost2 w (moveShape cs x y)) := by
  obtain ⟨i0, hi, hz0, hz1, hz2⟩ := info_parts Tryz.infoC
  have hE := own_empty w
  have hb0 := below_alloc w (.cells #[] 50)
  have hc := specIsShape A n cap cs _ hn (h.below hb0)
  have hl := Lib.hid h.1
  cases hs : isShape cs with
  | false =>
    have HR : Hid (moveShape cs x y = ([], false)) := by show _ = _; exact moveShape_no (by rw [hs]; rfl)
    rw [hs] at hc
    clear hs
    go_enter Tryz.func19, Tryz.ntmps19
    go_wp2_with fail
    refine hc.mono ?_
    rintro e w1 ⟨rfl, hb1⟩
    go_wp2
    go_ret2
    rw [HR.out]
    exact ⟨_, rfl, hE.below hb1, hb0.trans (hb1.mono hb0.size)⟩
  | true =>
    have HS := Lib.hid hs
    rw [hs] at hc
    clear hs
    cases hx : inB x (-7) 7 with
    | false =>
      have HR : Hid (moveShape cs x y = ([], false)) := by show _ = _; exact moveShape_no (by rw [hx, HS.out]; rfl)
      have HX := Lib.hid hx
      clear hx
      go_enter Tryz.func19, Tryz.ntmps19
      go_wp2_with fail
      refine hc.mono ?_
      rintro e w1 ⟨rfl, hb1⟩
      go_wp2_with fail
      refine (l1In_eq HX.out _).mono ?_
      rintro e w2 ⟨rfl, rfl⟩
      go_wp2
      go_ret2
      rw [HR.out]
      exact ⟨_, rfl, hE.below hb1, hb0.trans (hb1.mono hb0.size)⟩
    | true =>
      have HX := Lib.hid hx
      have bx := inB_small hx
      clear hx
      cases hy : inB y (-7) 7 with
      | false =>
        have HR : Hid (moveShape cs x y = ([], false)) := by show _ = _; exact moveShape_no (by rw [hy, HX.out, HS.out]; rfl)
        have HY := Lib.hid hy
        clear hy
        go_enter Tryz.func19, Tryz.ntmps19
        go_wp2_with fail
        refine hc.mono ?_
        rintro e w1 ⟨rfl, hb1⟩
        go_wp2_with fail
        refine (l1In_eq HX.out _).mono ?_
        rintro e w2 ⟨rfl, rfl⟩
        go_wp2_with fail
        refine (l1In_eq HY.out _).mono ?_
        rintro e w2 ⟨rfl, rfl⟩
        go_wp2
        go_ret2
        rw [HR.out]
        exact ⟨_, rfl, hE.below hb1, hb0.trans (hb1.mono hb0.size)⟩
      | true =>
        have HY := Lib.hid hy
        have bY := inB_small hy
        clear hy
        go_enter Tryz.func19, Tryz.ntmps19
        go_wp2_with fail
        refine hc.mono ?_
        rintro e w1 ⟨rfl, hb1⟩
        go_wp2_with fail
        refine (l1In_eq HX.out _).mono ?_
        rintro e w2 ⟨rfl, rfl⟩
        go_wp2_with fail
        refine (l1In_eq HY.out _).mono ?_
        rintro e w2 ⟨rfl, rfl⟩
        clear hc
        have hb1' := hb0.trans (hb1.mono hb0.size)
        have hE1 := hE.below hb1
        clear hE
        go_wp2
        go_loopw [8, 9] (fun v i wr => ∃ k : Nat, k ≤ n ∧ i = .int .i64 k ∧ wr.ownsRow w.heap.size 50 2 v k (flat (movC (cs.take k) x y)) ∧ Below w.heap.size w wr) (fun _ i _ => n - (intOf i).toNat)
        case atStart => exact ⟨0, Nat.zero_le _, rfl, hE1, hb1'⟩
        case round =>
          obtain ⟨k, hk, rfl, hown, hb⟩ := hrel
          by_cases hlt : k < n
          · obtain ⟨b, o, p, q, rfl, hbl, HP, d1, d2⟩ := h.at_ hlt
            clear h
            obtain ⟨z1, z2, z3, z4⟩ := shape_cell HS.out HP.out
            have hsz := hb.size
            have c1 := cell_on hb hbl d1
            have c2 := cell_on hb hbl d2
            have hbl' : b < wr.heap.size := by omega
            have a1 := cell_on (below_alloc wr (.cells #[.int .i64 (p + x), .int .i64 (q + y)] 50)) hbl' c1
            have a2 := cell_on (below_alloc wr (.cells #[.int .i64 (p + x), .int .i64 (q + y)] 50)) hbl' c2
            have e2 : (0 : Int) ≤ (k : Int) := by omega
            have e3 : (k : Int) < (n : Int) := by omega
            have hw1 : IntKind.i64.wrap (p + x) = p + x := by rw [IntKind.wrap_i64]; omega
            have hw2 : IntKind.i64.wrap (q + y) = q + y := by rw [IntKind.wrap_i64]; omega
            go_wp2
            go_region_held3 (fun ω => ω.cell? ⟨b, o + k * 2, none⟩ = some (.int .i64 p) ∧ ω.cell? ⟨b, o + k * 2 + 1, none⟩ = some (.int .i64 q)) (first | exact ⟨c1, c2⟩ | exact ⟨a1, a2⟩ | exact ⟨cell_on (below_append hb hown hsz hgrow) hbl d1, cell_on (below_append hb hown hsz hgrow) hbl d2⟩) ((refine step_append_lies _ (by rfl) _ _ _ (by rfl) w.heap.size 50 i0 (.agg #[.int .i64 0, .int .i64 0]) 2 16 Tryz.underlying24 hi hz0 hz1 hz2 rfl (by decide) _ _ _ (by rfl) ((hown.alloc _).drew) ⟨wr.heap.size, 0, none⟩ 1 1 (flat [(p + x, q + y)]) (by rfl) (by rfl) (World.news_of_block (cs := #[.int .i64 (p + x), .int .i64 (q + y)]) (t := 50) (fr := (0, 0)) (heap_alloc_new wr _)) flat_one (by omega) (by unfold maxLen; omega) (by omega) (by simp; omega) (wr.heap.size + 1) (by simp) ?_; intro g cap' w1' hown1 hgrow hat hlt1))
            all_goals
              have R1 := below_append hb hown hsz hgrow
              rw [← flat_append, ← movC_take HP.out] at hown1
              clear hgrow hat hlt1 hown d1 d2 c1 c2 a1 a2
              go_wp2
              go_roundw
              case rel => exact ⟨k + 1, by omega, by go_num, hown1, R1⟩
              case measure => simp [intOf]; omega
          · obtain rfl : k = n := by omega
            rw [List.take_of_length_le (by rw [hl.out]; exact Nat.le_refl _)] at hown
            have hO : Own wr w.heap.size u8 (movC cs x y) := by unfold Own; rw [movC_length, hl.out]; exact hown
            obtain ⟨A', cap', rfl, hr, _⟩ := hO.form
            have hc := specIsShape A' (movC cs x y).length cap' (movC cs x y) wr (by rw [movC_length, hl.out]; exact hn) hr
            clear hown
            cases hm : isShape (movC cs x y) with
            | false =>
              have HR : Hid (moveShape cs x y = ([], false)) := by show _ = _; exact moveShape_no (by rw [hm, HY.out, HX.out, HS.out]; rfl)
              rw [hm] at hc
              clear hm
              go_wp2_with fail
              refine hc.mono ?_
              rintro e w2 ⟨rfl, hb2⟩
              have hE2 := own_empty w2
              have hb3 := hb.trans (hb2.mono hb.size)
              have hb4 := hb3.trans ((below_alloc w2 (.cells #[] 50)).mono hb3.size)
              go_wp2
              go_ret2
              rw [HR.out]
              exact ⟨_, rfl, hE2.mono hb3.size, hb4⟩
            | true =>
              have HR : Hid (moveShape cs x y = (movC cs x y, true)) := by show _ = _; exact moveShape_yes (by rw [hm, HY.out, HX.out, HS.out]; rfl)
              rw [hm] at hc
              clear hm
              go_wp2_with fail
              refine hc.mono ?_
              rintro e w2 ⟨rfl, hb2⟩
              have hb3 := hb.trans (hb2.mono hb.size)
              go_wp2
              go_ret2
              rw [HR.out]
              exact ⟨_, rfl, hO.below hb2, hb3⟩

set_option maxHeartbeats 1600000 in
theorem implMoveShape (A : Option Addr) (n cap : Nat) (cs : List C) (x y : Int) (w : World) (hn : n ≤ 1048576) (h : CellsAt w A n cs) :
    Calls Tryz.prog 18 #[.slice A n cap, .int .i64 x, .int .i64 y] w (OwnPost2 w (moveShape cs x y)) := by
  have hc := implIsShape A n cap cs _ hn h
  have hl := Lib.hid h.1
  cases hs : isShape cs with
  | false =>
    have HR : Hid (moveShape cs x y = ([], false)) := by show _ = _; exact moveShape_no (by rw [hs]; rfl)
    rw [hs] at hc
    clear hs
    go_enter Tryz.func18, Tryz.ntmps18
    go_wp2_with fail
    refine hc.mono ?_
    rintro e w1 ⟨rfl, hb1⟩
    go_wp2
    go_ret2
    rw [HR.out]
    exact ⟨_, rfl, Own.nil _ _, hb1⟩
  | true =>
    have HS := Lib.hid hs
    rw [hs] at hc
    clear hs
    cases hx : inB x (-7) 7 with
    | false =>
      have HR : Hid (moveShape cs x y = ([], false)) := by show _ = _; exact moveShape_no (by rw [hx, HS.out]; rfl)
      have HX := Lib.hid hx
      clear hx
      go_enter Tryz.func18, Tryz.ntmps18
      go_wp2_with fail
      refine hc.mono ?_
      rintro e w1 ⟨rfl, hb1⟩
      go_wp2_with fail
      refine (between_eq HX.out _).mono ?_
      rintro e w2 ⟨rfl, rfl⟩
      go_wp2
      go_ret2
      rw [HR.out]
      exact ⟨_, rfl, Own.nil _ _, hb1⟩
    | true =>
      have HX := Lib.hid hx
      have bx := inB_small hx
      clear hx
      cases hy : inB y (-7) 7 with
      | false =>
        have HR : Hid (moveShape cs x y = ([], false)) := by show _ = _; exact moveShape_no (by rw [hy, HX.out, HS.out]; rfl)
        have HY := Lib.hid hy
        clear hy
        go_enter Tryz.func18, Tryz.ntmps18
        go_wp2_with fail
        refine hc.mono ?_
        rintro e w1 ⟨rfl, hb1⟩
        go_wp2_with fail
        refine (between_eq HX.out _).mono ?_
        rintro e w2 ⟨rfl, rfl⟩
        go_wp2_with fail
        refine (between_eq HY.out _).mono ?_
        rintro e w2 ⟨rfl, rfl⟩
        go_wp2
        go_ret2
        rw [HR.out]
        exact ⟨_, rfl, Own.nil _ _, hb1⟩
      | true =>
        have HY := Lib.hid hy
        have bY := inB_small hy
        clear hy
        go_enter Tryz.func18, Tryz.ntmps18
        go_wp2_with fail
        refine hc.mono ?_
        rintro e w1 ⟨rfl, hb1⟩
        clear hc
        go_wp2_with fail
        refine (between_eq HX.out _).mono ?_
        rintro e w2 ⟨rfl, rfl⟩
        go_wp2_with fail
        refine (between_eq HY.out _).mono ?_
        rintro e w2 ⟨rfl, rfl⟩
        go_wp2_with fail
        refine (implMoved A n cap cs x y w1 (fun k c hk => shape_small HS.out hk) ⟨by show -100 ≤ x; omega, by show x ≤ 100; omega, by show -100 ≤ y; omega, by show y ≤ 100; omega⟩ hn (h.below hb1)).mono ?_
        rintro e w2 ⟨v, rfl, hO, hb2⟩
        have hb3 := hb1.trans (hb2.mono hb1.size)
        obtain ⟨A', cap', rfl, hr, _⟩ := hO.form
        have hc := implIsShape A' (movC cs x y).length cap' (movC cs x y) w2 (by rw [movC_length, hl.out]; exact hn) hr
        cases hm : isShape (movC cs x y) with
        | false =>
          have HR : Hid (moveShape cs x y = ([], false)) := by show _ = _; exact moveShape_no (by rw [hm, HY.out, HX.out, HS.out]; rfl)
          rw [hm] at hc
          clear hm
          go_wp2_with fail
          refine hc.mono ?_
          rintro e w3 ⟨rfl, hb4⟩
          go_wp2
          go_ret2
          rw [HR.out]
          exact ⟨_, rfl, Own.nil _ _, hb3.trans (hb4.mono hb3.size)⟩
        | true =>
          have HR : Hid (moveShape cs x y = (movC cs x y, true)) := by show _ = _; exact moveShape_yes (by rw [hm, HY.out, HX.out, HS.out]; rfl)
          rw [hm] at hc
          clear hm
          go_wp2_with fail
          refine hc.mono ?_
          rintro e w3 ⟨rfl, hb4⟩
          go_wp2
          go_ret2
          rw [HR.out]
          exact ⟨_, rfl, (hO.below hb4).mono hb1.size, hb3.trans (hb4.mono hb3.size)⟩
theorem moveShape_len (cs : List C) (x y : Int) (h : cs.length ≤ 1048576) : (moveShape cs x y).1.length ≤ 1048576 := by
  unfold moveShape
  split
  · show (movC cs x y).length ≤ _; rw [movC_length]; exact h
  · exact Nat.zero_le _
end Go.Proofs.YtacegndmclnbnaaGreatDoor
