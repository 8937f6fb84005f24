/- What the law on shapes draws. No condition but that the code reads as bytes. -/
import Derived.Test.YtacegndmclnbnaaGreatDoorSpoil
import Derived.Test.YtacegndmclnbnaaGreatDoorPShM
import Derived.ArgAppend
import Derived.OwnWalk
import Derived.Deep.Upon
namespace Go.Proofs.YtacegndmclnbnaaGreatDoor
open Go.RowKit
set_option linter.unusedVariables false

theorem below_cur {w w1 w2 : World} {B : Nat} (h1 : Below w.heap.size w w1) (hg : w1.grownBy w2 (some B)) (hB : w.heap.size ≤ B) : Below w.heap.size w w2 := h1.grown hg h1.size (fun z hz => by cases hz; exact hB)
theorem fmt_size (cs : List C) : (⟨(fmt (cornerShape cs)).toArray⟩ : ByteArray).size ≤ 70 := by have := fmt_short cs; show (fmt (cornerShape cs)).toArray.size ≤ 70; simpa using this
/-- a few cells -/
def CellsPost (w : World) (e : Ending) (w' : World) : Prop := ∃ (A : Option Addr) (n cap : Nat) (cs : List C), e = .returned (.slice A n cap) ∧ CellsAt w' A n cs ∧ n ≤ 9 ∧ Below w.heap.size w w'
/-- a few cells and two numbers -/
def CellsInts (lo hi : Int) (w : World) (e : Ending) (w' : World) : Prop := ∃ (A : Option Addr) (n cap : Nat) (cs : List C) (x y : Int), e = .returned (.tuple #[.slice A n cap, .int .i64 x, .int .i64 y]) ∧ CellsAt w' A n cs ∧ n ≤ 9 ∧ lo ≤ x ∧ x ≤ hi ∧ lo ≤ y ∧ y ≤ hi ∧ Below w.heap.size w w'
def CellsPair (w : World) (e : Ending) (w' : World) : Prop := ∃ (A : Option Addr) (n cap : Nat) (cs : List C) (A' : Option Addr) (n' cap' : Nat) (cs' : List C), e = .returned (.tuple #[.slice A n cap, .slice A' n' cap']) ∧ CellsAt w' A n cs ∧ n ≤ 9 ∧ CellsAt w' A' n' cs' ∧ n' ≤ 9 ∧ Below w.heap.size w w'
theorem drawFormatShape (A : Option Addr) (n cap : Nat) (w : World) (hn : n ≤ 1048576) (h : BytesAt w A n) : Calls Tryz.prog 6 #[.slice A n cap] w (CellsPost w) := by
  go_enter Tryz.func6, Tryz.ntmps6
  go_wp2_with fail
  refine (drawNew A n cap w hn h).mono ?_
  rintro e w1 ⟨B, rfl, hC, hB, hb1⟩
  go_wp2_with fail
  refine (drawAny _ B w1 hC).mono ?_
  rintro e w2 ⟨A2, n2, cap2, cs, rfl, hD, hn8, hC2, hg2⟩
  have hbF := below_cur hb1 hg2 hB
  go_wp2
  go_ret
  exact ⟨_, _, _, cs, rfl, hD.cells, by omega, hbF⟩
theorem drawIsConnectedShape (A : Option Addr) (n cap : Nat) (w : World) (hn : n ≤ 1048576) (h : BytesAt w A n) : Calls Tryz.prog 23 #[.slice A n cap] w (CellsPost w) := by
  go_enter Tryz.func23, Tryz.ntmps23
  go_wp2_with fail
  refine (drawNew A n cap w hn h).mono ?_
  rintro e w1 ⟨B, rfl, hC, hB, hb1⟩
  go_wp2_with fail
  refine (drawAny _ B w1 hC).mono ?_
  rintro e w2 ⟨A2, n2, cap2, cs, rfl, hD, hn8, hC2, hg2⟩
  have hbF := below_cur hb1 hg2 hB
  go_wp2
  go_ret
  exact ⟨_, _, _, cs, rfl, hD.cells, by omega, hbF⟩
set_option maxRecDepth 20000 in
theorem drawMoveShape (A : Option Addr) (n cap : Nat) (w : World) (hn : n ≤ 1048576) (h : BytesAt w A n) : Calls Tryz.prog 17 #[.slice A n cap] w (CellsInts (-2) 6 w) := by
  go_enter Tryz.func17, Tryz.ntmps17
  go_wp2_with fail
  refine (drawNew A n cap w hn h).mono ?_
  rintro e w1 ⟨B, rfl, hC, hB, hb1⟩
  go_wp2_with fail
  refine (drawAny _ B w1 hC).mono ?_
  rintro e w2 ⟨A2, n2, cap2, cs, rfl, hD, hn8, hC2, hg2⟩
  have hB1 := hC.lt
  go_wp2_with fail
  refine (drawBelow _ B 9 w2 hC2 (by omega)).mono ?_
  rintro e w3 ⟨x, ⟨hx0, hx1⟩, rfl, hC3, hg3⟩
  go_wp2_with fail
  refine (drawBelow _ B 9 w3 hC3 (by omega)).mono ?_
  rintro e w4 ⟨y, ⟨hy0, hy1⟩, rfl, hC4, hg4⟩
  have hD4 := (hD.off hg3 hB1).off hg4 hB1
  have hbF := below_cur hb1 (hg2.trans (hg3.trans hg4)) hB
  go_wp2
  go_ret3
  exact ⟨_, _, _, cs, _, _, rfl, hD4.cells, by omega, by omega, by omega, by omega, by omega, hbF⟩
set_option maxRecDepth 20000 in
theorem drawHasCell (A : Option Addr) (n cap : Nat) (w : World) (hn : n ≤ 1048576) (h : BytesAt w A n) : Calls Tryz.prog 24 #[.slice A n cap] w (CellsInts 0 3 w) := by
  go_enter Tryz.func24, Tryz.ntmps24
  go_wp2_with fail
  refine (drawNew A n cap w hn h).mono ?_
  rintro e w1 ⟨B, rfl, hC, hB, hb1⟩
  go_wp2_with fail
  refine (drawAny _ B w1 hC).mono ?_
  rintro e w2 ⟨A2, n2, cap2, cs, rfl, hD, hn8, hC2, hg2⟩
  have hB1 := hC.lt
  go_wp2_with fail
  refine (drawBelow _ B 4 w2 hC2 (by omega)).mono ?_
  rintro e w3 ⟨x, ⟨hx0, hx1⟩, rfl, hC3, hg3⟩
  go_wp2_with fail
  refine (drawBelow _ B 4 w3 hC3 (by omega)).mono ?_
  rintro e w4 ⟨y, ⟨hy0, hy1⟩, rfl, hC4, hg4⟩
  have hD4 := (hD.off hg3 hB1).off hg4 hB1
  have hbF := below_cur hb1 (hg2.trans (hg3.trans hg4)) hB
  go_wp2
  go_ret3
  exact ⟨_, _, _, cs, _, _, rfl, hD4.cells, by omega, by omega, by omega, by omega, by omega, hbF⟩
set_option maxRecDepth 20000 in
set_option maxHeartbeats 800000 in
theorem drawEqualShapes (A : Option Addr) (n cap : Nat) (w : World) (hn : n ≤ 1048576) (h : BytesAt w A n) : Calls Tryz.prog 25 #[.slice A n cap] w (CellsPair w) := by
  obtain ⟨i0, hi, hz0, hz1, hz2⟩ := info_parts Tryz.infoC
  go_enter Tryz.func25, Tryz.ntmps25
  go_wp2_with fail
  refine (drawNew A n cap w hn h).mono ?_
  rintro e w1 ⟨B, rfl, hC, hB, hb1⟩
  go_wp2_with fail
  refine (drawAny _ B w1 hC).mono ?_
  rintro e w2 ⟨A2, n2, cap2, cs, rfl, hD, hn8, hC2, hg2⟩
  have hB1 := hC.lt
  go_wp2_with fail
  refine (drawOnce _ B 2 w2 hC2 (by omega)).mono ?_
  rintro e w3 ⟨⟨t, rfl⟩, hC3, hg3⟩
  have hD3 := hD.off hg3 hB1
  have hb3 := below_cur hb1 (hg2.trans hg3) hB
  clear hD hg2 hg3 hb1 hC hC2
  cases t with
  | true =>
    have hz := below_alloc w3 (.cells #[] 50)
    have hD4 := hD3.below hz
    have hown : (w3.alloc (.cells #[] 50)).ownsRow w3.heap.size 50 2 (.slice (some ⟨w3.heap.size, 0, none⟩) 0 0) 0 [] := World.ownsRow_made _ _ _ (Nat.le_refl _) (by decide) rfl
    go_wp2_with (at_builtin; refine wpList_append_slice _ rfl _ _ 24 rfl w3.heap.size 50 i0 (.agg #[.int .i64 0, .int .i64 0]) 2 16 Tryz.underlying24 hi hz0 hz1 hz2 rfl (by decide) _ _ _ rfl hown A2 n2 cap2 (flat cs) rfl hD4.cells.slice flat_one ?c1 ?c2 (by simp) ?_)
    case c1 => unfold maxLen; omega
    case c2 => omega
    intro v' w4 hown4 hgrow _
    have hO : Own w4 w3.heap.size v' cs := by
      have hl := hD4.cells.1
      unfold Own
      rw [hl]
      simpa using hown4
    have hb4 : Below w3.heap.size w3 w4 := hz.grown hgrow (by simp) (fun z hz => by have := (hown.lt z hz).1; exact this)
    have hD5 := (hD3.below hb4).cells
    have hl := hD5.1
    obtain ⟨A4, cap4, rfl, hr4, _⟩ := hO.form
    have hbF := hb3.trans (hb4.mono hb3.size)
    clear hown hown4 hgrow hO hz hD4 hD3
    go_wp2
    go_ret2
    exact ⟨_, _, _, cs, _, _, _, cs, rfl, hD5, by omega, hr4, by omega, hbF⟩
  | false =>
    go_wp2_with fail
    refine (drawAny _ B w3 hC3).mono ?_
    rintro e w4 ⟨A4, n4, cap4, ds, rfl, hD4, hn4, hC4, hg4⟩
    have hD5 := hD3.off hg4 hB1
    have hbF := below_cur hb3 hg4 hB
    go_wp2
    go_ret2
    exact ⟨_, _, _, cs, _, _, _, ds, rfl, hD5.cells, by omega, hD4.cells, by omega, hbF⟩
/-- two cells written behind a row of cells -/
theorem cells_room {w : World} {g off n : Nat} {cs : List C} {x y : Int} (h : CellsAt w (some ⟨g, off, none⟩) n cs) (hg : g < w.heap.size)
    (hs : ∀ j, j < 2 → (w.cell? ⟨g, off + n * 2 + j, none⟩).isSome = true) : CellsAt (w.setCells g (off + n * 2) (flat [(x, y)])) (some ⟨g, off, none⟩) (n + 1) (cs ++ [(x, y)]) := by
  have hin := World.cell?_setCells_in g (flat [(x, y)]) (off + n * 2) w (fun j hj => hs j (by rw [flat_length] at hj; exact hj))
  refine ⟨by simp [h.1], fun _ => ⟨g, off, rfl, by show g < ((w.setCell ⟨g, off + n * 2, none⟩ (.int .i64 x)).setCell ⟨g, off + n * 2 + 1, none⟩ (.int .i64 y)).heap.size; simp [World.setCell]; exact hg, fun j hj => ?_⟩⟩
  by_cases hjn : j < n
  · obtain ⟨b, o, e, hlt, hc⟩ := h.2 (by omega)
    injection e with e
    injection e with e1 e2
    subst e1 e2
    have e1 : (cs ++ [(x, y)]).getD j (0, 0) = cs.getD j (0, 0) := by simp [List.getD_eq_getElem?_getD, List.getElem?_append_left (show j < cs.length by rw [h.1]; exact hjn)]
    rw [e1, World.cell?_setCells_out _ _ _ _ _ (fun _ _ => Or.inl (by simp; omega)), World.cell?_setCells_out _ _ _ _ _ (fun _ _ => Or.inl (by simp; omega))]
    exact hc j hjn
  · obtain rfl : j = n := by omega
    have e1 : (cs ++ [(x, y)]).getD j (0, 0) = (x, y) := by simp [List.getD_eq_getElem?_getD, ← h.1]
    rw [e1]
    have a0 := hin 0 (by rw [flat_length]; simp)
    have a1 := hin 1 (by rw [flat_length]; simp)
    exact ⟨by rw [Nat.add_zero] at a0; exact a0, a1⟩
set_option maxRecDepth 20000 in
set_option maxHeartbeats 1600000 in
theorem drawSortCells (A : Option Addr) (n cap : Nat) (w : World) (hn : n ≤ 1048576) (h : BytesAt w A n) : Calls Tryz.prog 22 #[.slice A n cap] w (CellsPost w) := by
  obtain ⟨i0, hi, hz0, hz1, hz2⟩ := info_parts Tryz.infoC
  go_enter Tryz.func22, Tryz.ntmps22
  go_wp2_with fail
  refine (drawNew A n cap w hn h).mono ?_
  rintro e w1 ⟨B, rfl, hC, hB, hb1⟩
  go_wp2_with fail
  refine (drawAny2 _ B w1 hC).mono ?_
  rintro e w2 ⟨A2, n2, cap2, cs, rfl, hD, hn8, hC2, hg2, hE⟩
  have hB1 := hC.lt
  go_wp2_with fail
  refine (drawBelow _ B 3 w2 hC2 (by omega)).mono ?_
  rintro e w3 ⟨x, ⟨hx0, hx1⟩, rfl, hC3, hg3⟩
  go_wp2_with fail
  refine (drawBelow _ B 3 w3 hC3 (by omega)).mono ?_
  rintro e w4 ⟨y, ⟨hy0, hy1⟩, rfl, hC4, hg4⟩
  have hz := below_alloc w4 (.cells #[.int .i64 x, .int .i64 y] 50)
  have hD4 := ((hD.off hg3 hB1).off hg4 hB1).below hz
  have hE4 := ((hE.off hg3 hB1).off hg4 hB1).below hz
  have hb4 := below_cur hb1 (hg2.trans (hg3.trans hg4)) hB
  have hbz := hb4.trans (hz.mono hb4.size)
  obtain ⟨g, off, rfl, hgb, hgl, hle, hsp⟩ := hE4
  have hl := hD4.cells.1
  have hcs := hD4.cells
  have hb1s := hb1.size
  clear hD hE hg2 hg3 hg4 hC hC2 hC3 hC4 hb1
  go_wp2_with (at_builtin; refine wpList_append_arg _ rfl _ _ 24 rfl 50 i0 (.agg #[.int .i64 0, .int .i64 0]) 2 16 Tryz.underlying24 hi hz0 hz1 hz2 rfl (by decide) g off n2 cap2 (flat cs) rfl ?lo ?olds ⟨w4.heap.size, 0, none⟩ 1 1 (flat [(x, y)]) rfl rfl ?c1 ?c2 ?spare ?maxLen ?bytes ?room ?grow)
  case lo => rw [flat_length, hl]
  case olds =>
    intro j u hj
    have hj2 : j < n2 * 2 := by have := (List.getElem?_eq_some_iff.1 hj).1; rw [flat_length, hl] at this; exact this
    obtain ⟨ad, e, hc⟩ := hcs.slice.2 (by omega)
    injection e with e
    rw [← e] at hc
    have := hc j u hj
    rwa [Addr.add_lit] at this
  case c1 => exact World.news_of_block (cs := #[.int .i64 x, .int .i64 y]) (heap_alloc_new w4 _)
  case c2 => exact flat_one
  case spare =>
    intro hr j hj
    rw [flat_length] at hj
    exact hsp j (by have : j < 2 := hj; omega)
  case maxLen => unfold maxLen; omega
  case bytes => omega
  case room =>
    intro hr
    have hR := cells_room (x := x) (y := y) hcs hgl (fun j hj => (hsp j (by omega)).1)
    have hgw : w.heap.size ≤ g := Nat.le_trans hb1s hgb
    have hbS : Below w.heap.size w ((w4.alloc (.cells #[.int .i64 x, .int .i64 y] 50)).setCells g (off + n2 * 2) (flat [(x, y)])) := (hbz.setCell (p := ⟨g, off + n2 * 2, none⟩) hgw _).setCell (p := ⟨g, off + n2 * 2 + 1, none⟩) hgw _
    revert hR hbS
    generalize (w4.alloc (.cells #[.int .i64 x, .int .i64 y] 50)).setCells g (off + n2 * 2) (flat [(x, y)]) = wz
    intro hR hbS
    clear hsp hcs hD4
    go_wp2
    go_ret
    exact ⟨_, _, _, _, rfl, hR, by omega, hbS⟩
  case grow =>
    intro hr v' w5 hown hgrow
    have hO : Own w5 (w4.heap.size + 1) v' (cs ++ [(x, y)]) := by
      unfold Own
      rw [flat_append, List.length_append, hl]
      exact hown
    have hbF := hbz.trans (⟨hgrow.os, hgrow.tape, hgrow.output, hgrow.size, fun k hk => hgrow.block k (Nat.lt_of_lt_of_le hk hbz.size) (by simp)⟩ : Below w.heap.size _ w5)
    obtain ⟨A5, cap5, rfl, hr5, _⟩ := hO.form
    have hlen : (cs ++ [(x, y)]).length ≤ 9 := by simp; omega
    clear hsp hcs hD4 hown hgrow hO
    go_wp2
    go_ret
    exact ⟨_, _, _, _, rfl, hr5, hlen, hbF⟩
def picksL : List ByteArray := [⟨#[]⟩, ⟨#[35]⟩, ⟨#[46, 35]⟩, ⟨#[35, 46]⟩, ⟨#[35, 47]⟩, ⟨#[47, 35]⟩, ⟨#[35, 47, 47, 35]⟩, ⟨#[46]⟩, ⟨#[35, 120]⟩, ⟨#[35, 35, 35, 35, 35, 35, 35, 35, 35]⟩, ⟨#[46, 35, 47, 35]⟩, ⟨#[35, 47, 46, 35]⟩]
theorem picks_small : ∀ t, t ∈ picksL → t.size ≤ 1003 := by
  intro t ht
  simp only [picksL, List.mem_cons, List.mem_nil_iff, or_false] at ht
  rcases ht with rfl | rfl | rfl | rfl | rfl | rfl | rfl | rfl | rfl | rfl | rfl | rfl <;> decide
theorem drawPickS (b0 B b : Nat) (L : List ByteArray) (w : World) (h : Cur w b0 B) (hn : 0 < L.length) (hb : b < w.heap.size) (hne : b ≠ B) (hc : ∀ (j : Nat) (t : ByteArray), L[j]? = some t → w.cell? ⟨b, j, none⟩ = some (.string t)) (hs : ∀ t, t ∈ L → t.size ≤ 1003) :
    Calls Tryz.prog 47 #[.pointer (some ⟨B, 0, none⟩), .slice (some ⟨b, 0, none⟩) L.length L.length] w (StrPost 1003 b0 B w) := by
  obtain ⟨n, hnl⟩ : ∃ n, n = L.length := ⟨_, rfl⟩
  rw [← hnl] at hn ⊢
  have HL := Lib.hid hnl
  clear hnl
  have hpos : (0 : Int) < (n : Int) := by omega
  go_enter Tryz.func47, Tryz.ntmps47
  go_wp2_with fail
  refine (drawBelow b0 B n w h hpos).mono ?_
  rintro e w1 ⟨r, ⟨hr0, hr1⟩, rfl, hC1, hg1⟩
  obtain ⟨q, rfl⟩ : ∃ q : Nat, r = q := ⟨r.toNat, by omega⟩
  obtain ⟨t, ht⟩ : ∃ t, L[q]? = some t := ⟨_, List.getElem?_eq_getElem (by have := HL.out; omega)⟩
  have hv := (World.cell?_of_block (a := ⟨b, q, none⟩) (hg1.block b hb (fun e => by injection e with e; omega))).trans (hc q t ht)
  have hts := hs t (List.mem_of_getElem? ht)
  clear hc hs ht
  go_wp2
  go_ret
  exact ⟨t, hts, rfl, hC1, hg1⟩
def StrOut (w : World) (e : Ending) (w' : World) : Prop := ∃ t : ByteArray, t.size ≤ 1003 ∧ e = .returned (.string t) ∧ Below w.heap.size w w'
set_option maxRecDepth 20000 in
set_option maxHeartbeats 1600000 in
theorem drawParseShape (A : Option Addr) (n cap : Nat) (w : World) (hn : n ≤ 1048576) (h : BytesAt w A n) : Calls Tryz.prog 10 #[.slice A n cap] w (StrOut w) := by
  go_enter Tryz.func10, Tryz.ntmps10
  go_wp2_with fail
  refine (drawNew A n cap w hn h).mono ?_
  rintro e w1 ⟨B, rfl, hC, hB, hb1⟩
  go_wp2_with fail
  refine (drawAny _ B w1 hC).mono ?_
  rintro e w2 ⟨A2, n2, cap2, cs, rfl, hD, hn8, hC2, hg2⟩
  have hb2 := below_cur hb1 hg2 hB
  go_wp2_with fail
  refine (specFormatShape A2 n2 cap2 cs w2 (by omega) hD.cells).mono ?_
  rintro e w3 ⟨rfl, k3⟩
  have hC3 := hC2.below k3
  have hb3 := hb2.trans (k3.mono hb2.size)
  have hfl := fmt_size cs
  obtain ⟨t, ht⟩ : ∃ t : ByteArray, t = ⟨(fmt (cornerShape cs)).toArray⟩ := ⟨_, rfl⟩
  rw [← ht] at hfl
  simp only [← ht]
  clear ht hD hC hC2 hg2 k3 hb2 hb1
  go_wp2_with fail
  refine (drawBelow _ B 4 w3 hC3 (by omega)).mono ?_
  rintro e w4 ⟨q, ⟨hq0, hq1⟩, rfl, hC4, hg4⟩
  have hb4 := below_cur hb3 hg4 hB
  clear hC3 hg4 hb3
  by_cases q0 : q = 0
  · subst q0
    go_wp2_with fail
    refine (drawSpoil _ B t w4 hC4 (by omega)).mono ?_
    rintro e w5 ⟨u, hu, rfl, _, hg5⟩
    have hb5 := below_cur hb4 hg5 hB
    go_wp2
    go_ret
    exact ⟨u, hu, rfl, hb5⟩
  · have z0 : (q == 0) = false := by simpa using q0
    by_cases q1 : q = 1
    · subst q1
      have hz := below_alloc w4 (.cells (picksL.map Value.string).toArray 9)
      have hCz := hC4.below hz
      have hbz := hb4.trans (hz.mono hb4.size)
      have hBl := hC4.lt
      have P := drawPickS _ B w4.heap.size picksL _ hCz (by decide) (by simp) (by omega) (fun j t ht => by
        simp only [World.cell?, heap_alloc_new, List.getElem?_toArray, List.getElem?_map, ht, Option.map_some]
        rfl) picks_small
      go_wp2_with fail
      refine P.mono ?_
      rintro e w5 ⟨u, hu, rfl, _, hg5⟩
      have hb5 := below_cur hbz hg5 hB
      go_wp2
      go_ret
      exact ⟨u, hu, rfl, hb5⟩
    · have z1 : (q == 1) = false := by simpa using q1
      go_wp2
      go_ret
      exact ⟨t, by omega, rfl, hb4⟩
end Go.Proofs.YtacegndmclnbnaaGreatDoor
