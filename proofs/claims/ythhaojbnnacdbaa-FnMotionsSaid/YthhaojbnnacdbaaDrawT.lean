/- What the laws on motions draw. No condition but that the code reads as bytes. -/
import Derived.Test.YthhaojbnnacdbaaDrawM
import Derived.Test.YthhaojbnnacdbaaOrient
namespace Go.Proofs.Ythhaojbnnacdbaa
open Go.RowKit

theorem below_cur {w w1 w2 : World} {B : Nat} (h1 : Below w.heap.size w w1) (hg : w1.grownBy w2 (some B)) (hB : w.heap.size ≤ B) : Below w.heap.size w w2 := h1.grown hg h1.size (fun z hz => by cases hz; exact hB)
def TwoInts (P : Int → Int → Prop) (w : World) (e : Ending) (w' : World) : Prop := ∃ a b : Int, P a b ∧ e = .returned (.tuple #[.int .i64 a, .int .i64 b]) ∧ Below w.heap.size w w'
def CellsInt (w : World) (e : Ending) (w' : World) : Prop := ∃ (A : Option Addr) (n cap : Nat) (cs : List C) (m : Int), e = .returned (.tuple #[.slice A n cap, .int .i64 m]) ∧ CellsAt w' A n cs ∧ n ≤ 8 ∧ -1 ≤ m ∧ m ≤ 8 ∧ Below w.heap.size w w'
def CellsTwo (w : World) (e : Ending) (w' : World) : Prop := ∃ (A : Option Addr) (n cap : Nat) (cs : List C) (A' : Option Addr) (n' cap' : Nat) (cs' : List C), e = .returned (.tuple #[.slice A n cap, .slice A' n' cap']) ∧ CellsAt w' A n cs ∧ n ≤ 8 ∧ CellsAt w' A' n' cs' ∧ n' ≤ 8 ∧ Below w.heap.size w w'

theorem drawCompose (A : Option Addr) (n cap : Nat) (w : World) (hn : n ≤ 1048576) (h : BytesAt w A n) : Calls Try.prog 46 #[.slice A n cap] w (TwoInts (fun a b => -1 ≤ a ∧ a ≤ 8 ∧ 0 ≤ b ∧ b ≤ 8) w) := by
  go_enter Try.func46, Try.ntmps46
  go_wp2_with fail
  refine (drawNew A n cap w hn h).mono ?_
  rintro e w1 ⟨B, rfl, hC, hB, hb1⟩
  go_wp2_with fail
  refine (drawBelow _ B 10 w1 hC (by omega)).mono ?_
  rintro e w2 ⟨r, ⟨hr0, hr1⟩, rfl, hC2, hg2⟩
  go_wp2_with fail
  refine (drawBelow _ B 9 w2 hC2 (by omega)).mono ?_
  rintro e w3 ⟨s, ⟨hs0, hs1⟩, rfl, hC3, hg3⟩
  have hbF := below_cur hb1 (hg2.trans hg3) hB
  go_wp2
  go_ret2
  exact ⟨_, _, ⟨by omega, by omega, by omega, by omega⟩, rfl, hbF⟩
theorem drawBoth (A : Option Addr) (n cap : Nat) (w : World) (hn : n ≤ 1048576) (h : BytesAt w A n) : Calls Try.prog 99 #[.slice A n cap] w (CellsInt w) := by
  go_enter Try.func99, Try.ntmps99
  go_wp2_with fail
  refine (drawNew A n cap w hn h).mono ?_
  rintro e w1 ⟨B, rfl, hC, hB, hb1⟩
  go_wp2_with fail
  refine (drawAny _ B w1 hC).mono ?_
  rintro e w2 ⟨A2, n2, cap2, cs, rfl, hD, hn8, hC2, hg2⟩
  have hB1 := hC.lt
  go_wp2_with fail
  refine (drawBelow _ B 10 w2 hC2 (by omega)).mono ?_
  rintro e w3 ⟨s, ⟨hs0, hs1⟩, rfl, hC3, hg3⟩
  have hD3 := hD.off hg3 hB1
  have hbF := below_cur hb1 (hg2.trans hg3) hB
  go_wp2
  go_ret2
  exact ⟨_, _, _, cs, _, rfl, hD3.cells, hn8, by omega, by omega, hbF⟩
theorem drawTurnShape (A : Option Addr) (n cap : Nat) (w : World) (hn : n ≤ 1048576) (h : BytesAt w A n) : Calls Try.prog 51 #[.slice A n cap] w (CellsInt w) := by
  go_enter Try.func51, Try.ntmps51
  go_wp2_with fail
  refine (drawBoth A n cap w hn h).mono ?_
  rintro e w1 ⟨A2, n2, cap2, cs, m, rfl, hc, hn8, h1, h2, hb⟩
  go_wp2
  go_ret2
  exact ⟨_, _, _, cs, _, rfl, hc, hn8, h1, h2, hb⟩
set_option maxHeartbeats 800000 in
theorem drawTwo (A : Option Addr) (n cap : Nat) (w : World) (hn : n ≤ 1048576) (h : BytesAt w A n) : Calls Try.prog 100 #[.slice A n cap] w (CellsTwo w) := by
  go_enter Try.func100, Try.ntmps100
  go_wp2_with fail
  refine (drawNew A n cap w hn h).mono ?_
  rintro e w1 ⟨B, rfl, hC, hB, hb1⟩
  go_wp2_with fail
  refine (drawAny _ B w1 hC).mono ?_
  rintro e w2 ⟨A2, n2, cap2, cs, rfl, hD, hn8, hC2, hg2⟩
  have hB1 := hC.lt
  have hc := specIsShape A2 n2 cap2 cs w2 (by omega) hD.cells
  have hbG := below_cur hb1 hg2 hB
  clear hC hg2 hb1
  cases hs : isShape cs with
  | false =>
    rw [hs] at hc
    clear hs
    go_wp2_with fail
    refine hc.mono ?_
    rintro e w3 ⟨rfl, hb3⟩
    have hC3 := hC2.below hb3
    have hD3 := hD.below hb3
    have hbH := hbG.trans (hb3.mono hbG.size)
    go_wp2_with fail
    refine (drawAny _ B w3 hC3).mono ?_
    rintro e w4 ⟨A4, n4, cap4, cs4, rfl, hD4, hn84, hC4, hg4⟩
    have hD5 := hD3.off hg4 hB1
    have hbF := below_cur hbH hg4 hB
    go_wp2
    go_ret2
    exact ⟨_, _, _, cs, _, _, _, cs4, rfl, hD5.cells, hn8, hD4.cells, hn84, hbF⟩
  | true =>
    rw [hs] at hc
    have HS := Lib.hid hs
    clear hs
    go_wp2_with fail
    refine hc.mono ?_
    rintro e w3 ⟨rfl, hb3⟩
    have hC3 := hC2.below hb3
    have hD3 := hD.below hb3
    have hbH := hbG.trans (hb3.mono hbG.size)
    clear hC2 hD hbG hb3 hc
    go_wp2_with fail
    refine (drawOnce _ B 3 w3 hC3 (by omega)).mono ?_
    rintro e w4 ⟨⟨t, rfl⟩, hC4, hg4⟩
    have hD4 := hD3.off hg4 hB1
    have hbI := below_cur hbH hg4 hB
    clear hC3 hD3 hbH hg4
    cases t with
    | true =>
      go_wp2_with fail
      refine (drawAny _ B w4 hC4).mono ?_
      rintro e w5 ⟨A5, n5, cap5, cs5, rfl, hD5, hn85, hC5, hg5⟩
      have hD6 := hD4.off hg5 hB1
      have hbF := below_cur hbI hg5 hB
      go_wp2
      go_ret2
      exact ⟨_, _, _, cs, _, _, _, cs5, rfl, hD6.cells, hn8, hD5.cells, hn85, hbF⟩
    | false =>
      go_wp2_with fail
      refine (drawBelow _ B 8 w4 hC4 (by omega)).mono ?_
      rintro e w5 ⟨s, ⟨hs0, hs1⟩, rfl, hC5, hg5⟩
      obtain ⟨q, rfl⟩ : ∃ q : Nat, s = q := ⟨s.toNat, by omega⟩
      have hD5 := hD4.off hg5 hB1
      have hbJ := below_cur hbI hg5 hB
      have hl := (shape_len (turn_shape HS.out q)).2
      go_wp2_with fail
      refine (specTurn A2 n2 cap2 cs q w5 (by omega) (shape_smallL HS.out) (by omega) hD5.cells).mono ?_
      rintro e w6 ⟨v6, rfl, hO6, hb6⟩
      obtain ⟨A6, cap6, rfl, hr6, _⟩ := hO6.form
      have hD6 := hD5.below hb6
      have hbF := hbJ.trans (hb6.mono hbJ.size)
      go_wp2
      go_ret2
      exact ⟨_, _, _, cs, _, _, _, _, rfl, hD6.cells, hn8, hr6, hl, hbF⟩
theorem drawIsCongruent (A : Option Addr) (n cap : Nat) (w : World) (hn : n ≤ 1048576) (h : BytesAt w A n) : Calls Try.prog 63 #[.slice A n cap] w (CellsTwo w) := by
  go_enter Try.func63, Try.ntmps63
  go_wp2_with fail
  refine (drawTwo A n cap w hn h).mono ?_
  rintro e w1 ⟨A2, n2, cap2, cs, A3, n3, cap3, ds, rfl, hc, hn8, hd, hn8', hb⟩
  go_wp2
  go_ret2
  exact ⟨_, _, _, cs, _, _, _, ds, rfl, hc, hn8, hd, hn8', hb⟩
theorem drawCompareShapes (A : Option Addr) (n cap : Nat) (w : World) (hn : n ≤ 1048576) (h : BytesAt w A n) : Calls Try.prog 64 #[.slice A n cap] w (CellsTwo w) := by
  go_enter Try.func64, Try.ntmps64
  go_wp2_with fail
  refine (drawTwo A n cap w hn h).mono ?_
  rintro e w1 ⟨A2, n2, cap2, cs, A3, n3, cap3, ds, rfl, hc, hn8, hd, hn8', hb⟩
  go_wp2
  go_ret2
  exact ⟨_, _, _, cs, _, _, _, ds, rfl, hc, hn8, hd, hn8', hb⟩
end Go.Proofs.Ythhaojbnnacdbaa
