/- IsConvexShape, the program's and the reference's: contracts. Condition: slices of at most 2^20 cells. -/
import Derived.Test.YtdfmnljlkcokjaaTurnM
import Derived.Test.YtdfmnljlkcokjaaConn
import Derived.Test.YtdfmnljlkcokjaaConv
namespace Go.Proofs.Ytdfmnljlkcokjaa
open Go.RowKit

noncomputable def convex (cs : List C) : Bool := connected cs && rowConvex cs && rowConvex (turnC cs 1)
theorem convex_no1 {cs : List C} (h : connected cs = false) : convex cs = false := by unfold convex; rw [h]; rfl
theorem convex_no2 {cs : List C} (h : connected cs = true) (h2 : rowConvex cs = false) : convex cs = false := by unfold convex; rw [h, h2]; rfl
theorem convex_yes {cs : List C} (h : connected cs = true) (h2 : rowConvex cs = true) : convex cs = rowConvex (turnC cs 1) := by unfold convex; rw [h, h2]; rfl
open Classical in
theorem rowConvex_iff {cs : List C} (h : isShape cs = true) : rowConvex cs = true ↔ follows cs := by unfold rowConvex; rw [h]; simp

set_option maxHeartbeats 1600000 in
theorem implIsConvex (A : Option Addr) (n cap : Nat) (cs : List C) (w : World) (hn : n ≤ 1048576) (h : CellsAt w A n cs) :
    Calls Try.prog 41 #[.slice A n cap] w fun e w' => e = .returned (.bool (convex cs)) ∧ Below w.heap.size w w' := by
  have hc := (implIsConnected A n cap cs w hn h)
  cases hs : connected cs with
  | false =>
    have HR : Hid (false = convex cs) := (convex_no1 hs).symm
    rw [hs] at hc
    clear hs
    go_enter Try.func41, Try.ntmps41
    go_wp2_with fail
    refine hc.mono ?_
    rintro e w1 ⟨rfl, hb⟩
    go_wp2
    go_ret
    exact ⟨ret_bool HR.out, hb⟩
  | true =>
    have HS := Lib.hid (connected_shape hs)
    have hl := shape_len HS.out
    rw [h.1] at hl
    have HC := Lib.hid hs
    rw [hs] at hc
    clear hs
    obtain ⟨t, ht⟩ : ∃ t, t = rowConvex cs := ⟨_, rfl⟩
    have HT : Hid (t = true ↔ follows cs) := by show _ ↔ _; rw [ht]; exact rowConvex_iff HS.out
    cases t with
    | false =>
      have HR : Hid (false = convex cs) := (convex_no2 HC.out ht.symm).symm
      clear ht
      go_enter Try.func41, Try.ntmps41
      go_wp2_with fail
      refine hc.mono ?_
      rintro e w1 ⟨rfl, hb⟩
      go_wp2_with fail
      refine (implRows A n cap cs false w1 HT.out (fun k c hk => shape_small HS.out hk) hn (h.below hb)).mono ?_
      rintro e w2 ⟨rfl, hb2⟩
      go_wp2
      go_ret
      exact ⟨ret_bool HR.out, hb.trans (hb2.mono hb.size)⟩
    | true =>
      obtain ⟨u, hu⟩ : ∃ u, u = rowConvex (turnC cs 1) := ⟨_, rfl⟩
      have HS2 := Lib.hid (turn_shape HS.out 1)
      have HU : Hid (u = true ↔ follows (turnC cs 1)) := by show _ ↔ _; rw [hu]; exact rowConvex_iff HS2.out
      have HR : Hid (u = convex cs) := by show _ = _; rw [convex_yes HC.out ht.symm]; exact hu
      have HL2 : Hid ((turnC cs 1).length ≤ 8) := (shape_len HS2.out).2
      clear ht hu
      go_enter Try.func41, Try.ntmps41
      go_wp2_with fail
      refine hc.mono ?_
      rintro e w1 ⟨rfl, hb⟩
      clear hc
      go_wp2_with fail
      refine (implRows A n cap cs true w1 ⟨fun _ => HT.out.1 (by first | rfl | trivial), fun _ => rfl⟩ (fun k c hk => shape_small HS.out hk) hn (h.below hb)).mono ?_
      rintro e w2 ⟨rfl, hb2⟩
      have hb' := hb.trans (hb2.mono hb.size)
      go_wp2_with fail
      refine (implTurned A n cap cs 1 w2 (by omega) (sorts_small n (by omega)) (by omega) (shape_smallL HS.out) hn (h.below hb')).mono ?_
      rintro e w3 ⟨v, rfl, hO, hb3⟩
      obtain ⟨B, cap2, rfl, hB, hmx⟩ := hO.form
      have hb'' := hb'.trans (hb3.mono hb'.size)
      go_wp2_with fail
      refine (implRows B _ cap2 (turnC cs 1) u w3 HU.out (fun k c hk => shape_small HS2.out hk) (Nat.le_trans HL2.out (by omega)) hB).mono ?_
      rintro e w4 ⟨rfl, hb4⟩
      go_wp2
      go_ret
      exact ⟨ret_bool HR.out, hb''.trans (hb4.mono hb''.size)⟩
set_option maxHeartbeats 1600000 in
theorem specIsConvex (A : Option Addr) (n cap : Nat) (cs : List C) (w : World) (hn : n ≤ 1048576) (h : CellsAt w A n cs) :
    Calls Try.prog 40 #[.slice A n cap] w fun e w' => e = .returned (.bool (convex cs)) ∧ Below w.heap.size w w' := by
  have hi := (specIsShape A n cap cs w hn h)
  cases his : isShape cs with
  | false =>
    have HR : Hid (false = convex cs) := by
      show _ = _
      refine (convex_no1 ?_).symm
      cases hs : connected cs with
      | false => rfl
      | true => exact absurd (connected_shape hs) (by rw [his]; simp)
    rw [his] at hi
    clear his
    go_enter Try.func40, Try.ntmps40
    go_wp2_with fail
    refine hi.mono ?_
    rintro e w1 ⟨rfl, hb⟩
    go_wp2
    go_ret
    exact ⟨ret_bool HR.out, hb⟩
  | true =>
    have HS := Lib.hid his
    have hl := shape_len HS.out
    rw [h.1] at hl
    rw [his] at hi
    clear his
    obtain ⟨s, hs⟩ : ∃ s, s = connected cs := ⟨_, rfl⟩
    cases s with
    | false =>
      have HR : Hid (false = convex cs) := (convex_no1 hs.symm).symm
      have HC := Lib.hid hs.symm
      clear hs
      go_enter Try.func40, Try.ntmps40
      go_wp2_with fail
      refine hi.mono ?_
      rintro e w1 ⟨rfl, hb⟩
      clear hi
      have hc := (specIsConnected A n cap cs w1 hn (h.below hb))
      rw [HC.out] at hc
      go_wp2_with fail
      refine hc.mono ?_
      rintro e w2 ⟨rfl, hb2⟩
      go_wp2
      go_ret
      exact ⟨ret_bool HR.out, hb.trans (hb2.mono hb.size)⟩
    | true =>
      have HC := Lib.hid hs.symm
      clear hs
      obtain ⟨t, ht⟩ : ∃ t, t = rowConvex cs := ⟨_, rfl⟩
      cases t with
      | false =>
        have HR : Hid (false = convex cs) := (convex_no2 HC.out ht.symm).symm
        have HT := Lib.hid ht.symm
        clear ht
        go_enter Try.func40, Try.ntmps40
        go_wp2_with fail
        refine hi.mono ?_
        rintro e w1 ⟨rfl, hb⟩
        clear hi
        have hc := (specIsConnected A n cap cs w1 hn (h.below hb))
        rw [HC.out] at hc
        go_wp2_with fail
        refine hc.mono ?_
        rintro e w2 ⟨rfl, hb2⟩
        clear hc
        have hb' := hb.trans (hb2.mono hb.size)
        have hc := (specIsRowConvex A n cap cs w2 hn (h.below hb'))
        rw [HT.out] at hc
        go_wp2_with fail
        refine hc.mono ?_
        rintro e w3 ⟨rfl, hb3⟩
        go_wp2
        go_ret
        exact ⟨ret_bool HR.out, hb'.trans (hb3.mono hb'.size)⟩
      | true =>
        have HR : Hid (rowConvex (turnC cs 1) = convex cs) := (convex_yes HC.out ht.symm).symm
        have HT := Lib.hid ht.symm
        have HL2 : Hid ((turnC cs 1).length ≤ 8) := (shape_len (turn_shape HS.out 1)).2
        clear ht
        go_enter Try.func40, Try.ntmps40
        go_wp2_with fail
        refine hi.mono ?_
        rintro e w1 ⟨rfl, hb⟩
        clear hi
        have hc := (specIsConnected A n cap cs w1 hn (h.below hb))
        rw [HC.out] at hc
        go_wp2_with fail
        refine hc.mono ?_
        rintro e w2 ⟨rfl, hb2⟩
        clear hc
        have hb' := hb.trans (hb2.mono hb.size)
        have hc := (specIsRowConvex A n cap cs w2 hn (h.below hb'))
        rw [HT.out] at hc
        go_wp2_with fail
        refine hc.mono ?_
        rintro e w3 ⟨rfl, hb3⟩
        clear hc
        have hb'' := hb'.trans (hb3.mono hb'.size)
        go_wp2_with fail
        refine (specTurn A n cap cs 1 w3 (by omega) (shape_smallL HS.out) hn (h.below hb'')).mono ?_
        rintro e w4 ⟨v, rfl, hO, hb4⟩
        obtain ⟨B, cap2, rfl, hB, hmx⟩ := hO.form
        have hb3' := hb''.trans (hb4.mono hb''.size)
        go_wp2_with fail
        refine (specIsRowConvex B _ cap2 (turnC cs 1) w4 (Nat.le_trans HL2.out (by omega)) hB).mono ?_
        rintro e w5 ⟨rfl, hb5⟩
        go_wp2
        go_ret
        exact ⟨ret_bool HR.out, hb3'.trans (hb5.mono hb3'.size)⟩
end Go.Proofs.Ytdfmnljlkcokjaa
