/- RectangleOf, the program's and the reference's: contracts. No condition. -/
import Derived.Test.YtpbkpebpidabiaaBox
import Derived.Deep.RegionLaw
import Derived.Test.YtpbkpebpidabiaaRegC
namespace Go.Proofs.Ytpbkpebpidabiaa
open Go.RowKit

def rectOf (x y : Int) : (Int × List Int) × Bool := if (inB x 1 6 && inB y 1 6) = true then ((x, List.replicate y.toNat ((2 : Int) ^ x.toNat - 1)), true) else ((0, []), false)
/-- the call hands back a region of its own and a Bool -/
def OwnRPost2 (w : World) (r : (Int × List Int) × Bool) (e : Ending) (w' : World) : Prop := ∃ v, e = .returned (.tuple #[.agg #[.int .i64 r.1.1, v], .bool r.2]) ∧ OwnI w' w.heap.size v r.1.2 ∧ Below w.heap.size w w'
theorem rectOf_no {x y : Int} (h : (inB x 1 6 && inB y 1 6) = false) : rectOf x y = ((0, []), false) := by unfold rectOf; rw [h]; rfl
theorem rectOf_yes {x y : Int} (h1 : inB x 1 6 = true) (h2 : inB y 1 6 = true) : rectOf x y = ((x, List.replicate y.toNat ((2 : Int) ^ x.toNat - 1)), true) := by unfold rectOf; rw [h1, h2]; rfl

set_option maxHeartbeats 1600000 in
theorem implRectangleOf (x y : Int) (w : World) : Calls Try.prog 15 #[.int .i64 x, .int .i64 y] w (OwnRPost2 w (rectOf x y)) := by
  obtain ⟨i0, hi, hz0, hz1, hz2⟩ := info_parts Try.infoI
  have hB := below1 w (.cells #[.int .i64 0, .slice none 0 0] 27)
  cases h1 : inB x 1 6 with
  | false =>
    have HR := Lib.hid (rectOf_no (x := x) (y := y) (by rw [h1]; rfl))
    have H1 := Lib.hid h1
    clear h1
    go_enter Try.func15, Try.ntmps15
    go_wp2_with fail
    refine (isSide_eq H1.out _).mono ?_
    rintro e w1 ⟨rfl, rfl⟩
    go_wp2
    refine bodyPost_ret (v := .tuple #[.agg #[.int .i64 0, .slice none 0 0], .bool false]) (by simp [results, Try.results15, go_sem]) rfl ?_
    rw [HR.out]
    exact ⟨_, rfl, OwnI.nil _ _, hB⟩
  | true =>
    obtain ⟨W1, W6, P1, P2, hsh⟩ := shl_side h1
    cases h2 : inB y 1 6 with
    | false =>
      have HR := Lib.hid (rectOf_no (x := x) (y := y) (by rw [h1, h2]; rfl))
      have H1 := Lib.hid h1
      have H2 := Lib.hid h2
      clear h1 h2 hsh P1 P2
      go_enter Try.func15, Try.ntmps15
      go_wp2_with fail
      refine (isSide_eq H1.out _).mono ?_
      rintro e w1 ⟨rfl, rfl⟩
      go_wp2_with fail
      refine (isSide_eq H2.out _).mono ?_
      rintro e w1 ⟨rfl, rfl⟩
      go_wp2
      refine bodyPost_ret (v := .tuple #[.agg #[.int .i64 0, .slice none 0 0], .bool false]) (by simp [results, Try.results15, go_sem]) rfl ?_
      rw [HR.out]
      exact ⟨_, rfl, OwnI.nil _ _, hB⟩
    | true =>
      have HR := Lib.hid (rectOf_yes h1 h2)
      have H1 := Lib.hid h1
      have H2 := Lib.hid h2
      have hy : 1 ≤ y ∧ y ≤ 6 := by unfold inB at h2; simpa using h2
      obtain ⟨hy1, hy6⟩ := hy
      obtain ⟨P, hP⟩ : ∃ P, P = (2 : Int) ^ x.toNat := ⟨_, rfl⟩
      rw [← hP] at P1 P2 hsh
      have hsh2 : wrap64 ((2 : Int) ^ x.toNat) = P := by rw [← hP]; exact IntWalk.wrap64_in _ ⟨by omega, by omega⟩
      have HP := Lib.hid hP
      clear h1 h2 hsh hP
      go_enter Try.func15, Try.ntmps15
      go_wp2_with fail
      refine (isSide_eq H1.out _).mono ?_
      rintro e w1 ⟨rfl, rfl⟩
      go_wp2_with fail
      refine (isSide_eq H2.out _).mono ?_
      rintro e w1 ⟨rfl, rfl⟩
      go_wp2
      have hN1 := Box2.new w (.int .i64 0) (.slice none 0 0) 27
      have hN2 := Box2.new (w.alloc (.cells #[.int .i64 0, .slice none 0 0] 27)) (.int .i64 x) (.slice none 0 0) 27
      rw [show (w.alloc (.cells #[.int .i64 0, .slice none 0 0] 27)).heap.size = w.heap.size + 1 by simp] at hN2
      obtain ⟨m, hm⟩ : ∃ m : Nat, y = (m : Int) := ⟨y.toNat, by omega⟩
      subst hm
      go_loopw [19] (fun i wr => ∃ (k : Nat) (v : Value), k ≤ m ∧ i = .int .i64 k ∧ Box2 wr w.heap.size (.int .i64 0) (.slice none 0 0) 27 ∧ Box2 wr (w.heap.size + 1) (.int .i64 x) v 27 ∧ OwnI wr (w.heap.size + 2) v (List.replicate k (P - 1)) ∧ Below w.heap.size w wr) (fun i _ => m - (intOf i).toNat)
      case atStart => exact ⟨0, _, Nat.zero_le _, rfl, hN1.alloc _, hN2, OwnI.nil _ _, below2 _ _ _⟩
      case round =>
        clear hN1 hN2
        obtain ⟨k, v, hk, rfl, hX, hY, hown, hb⟩ := hrel
        by_cases hlt : k < m
        · have hsz := hY.lt
          have d1 := hY.c1
          have d2 := hY.f1
          have hlti : (k : Int) < (m : Int) := by omega
          obtain ⟨A', cap', rfl, _, _⟩ := hown.form
          have hw1 : IntKind.i64.wrap ((2 : Int) ^ x.toNat) = P := by rw [← HP.out]; rw [IntKind.wrap_i64]; omega
          have hw2 : IntKind.i64.wrap (P - 1) = P - 1 := by rw [IntKind.wrap_i64]; omega
          have hne : some (w.heap.size + 1) ≠ (Value.slice A' (List.replicate k (P - 1)).length cap').ownBlock := by intro e; have := (hown.lt _ e.symm).1; omega
          rw [List.length_replicate] at *
          go_wp2
          go_region_law ((refine step_append_lies _ (by rfl) _ _ _ (by rfl) (w.heap.size + 2) 3 i0 (.int .i64 0) 1 8 Try.underlying22 hi hz0 hz1 hz2 rfl (by decide) _ _ _ (by rfl) ((World.ownsRow.alloc hown _).drew) ⟨wr.heap.size, 0, none⟩ 1 1 (intsV [P - 1]) (by rfl) (by rfl) (World.news_of_block (cs := #[.int .i64 (P - 1)]) (t := 3) (fr := (0, 0)) (heap_alloc_new wr _)) intsV_one (by omega) (by rw [List.length_replicate]; unfold maxLen; omega) (by rw [List.length_replicate]; omega) (by simp; omega) (wr.heap.size + 1) (by simp) ?_; intro g cap2 w1' hown1 hgrow hat hlt1; have hY1 := (hY.alloc (.cells #[.int .i64 (P - 1)] 3)).drew.grown hgrow hne; have e1 := hY1.c1; have e2 := hY1.f1))
          all_goals
            have hX1 := ((hX.alloc (.cells #[.int .i64 (P - 1)] 3)).drew.grown hgrow (show some w.heap.size ≠ _ from by intro e; have := (hown.lt _ e.symm).1; omega)).other (a := ⟨w.heap.size + 1, 1, none⟩) (by simp) (.slice (some ⟨g, 0, none⟩) (k + 1) cap2)
            have hY2 := hY1.set1 (.slice (some ⟨g, 0, none⟩) (k + 1) cap2)
            have hO2 : OwnI w1' (w.heap.size + 2) (.slice (some ⟨g, 0, none⟩) (k + 1) cap2) (List.replicate (k + 1) (P - 1)) := by
              unfold OwnI
              rw [List.length_replicate, List.replicate_succ', intsV_append]
              rw [List.length_replicate] at hown1
              exact hown1
            have hO3 := hO2.setCell_below (a := ⟨w.heap.size + 1, 1, none⟩) (by simp) (.slice (some ⟨g, 0, none⟩) (k + 1) cap2)
            have hb1 := (((hb.alloc (by omega) (.cells #[.int .i64 (P - 1)] 3)).drew.grown hgrow (by simp; omega) (fun z hz => by have := (hown.lt _ hz).1; omega))).setCell (p := ⟨w.heap.size + 1, 1, none⟩) (by simp) (.slice (some ⟨g, 0, none⟩) (k + 1) cap2)
            clear hX hY hown hb hgrow hat hlt1 hown1 hY1 hO2
            go_wp2
            go_roundw
            case rel => exact ⟨k + 1, _, by omega, by go_num, hX1, hY2, hO3, hb1⟩
            case measure => simp [intOf]; omega
        · obtain rfl : k = m := by omega
          obtain ⟨A', cap', rfl, _, _⟩ := hown.form
          rw [List.length_replicate] at *
          have d0 := hY.c0
          have d1 := hY.c1
          have x0 := hX.c0
          have x1 := hX.c1
          have f0 := hX.f0
          have f1 := hX.f1
          go_wp2
          have z := (hX.set0 (.int .i64 x)).set1 (.slice A' k cap')
          refine bodyPost_ret (v := .tuple #[.agg #[.int .i64 x, .slice A' k cap'], .bool true]) (by simp [results, Try.results15, go_sem, z.c0, z.c1]) rfl ?_
          rw [HR.out, ← HP.out]
          exact ⟨_, rfl, ((hown.setCell_below (by simp) _).setCell_below (by simp) _).mono (by omega), (hb.setCell (by simp) _).setCell (by simp) _⟩

set_option maxHeartbeats 1600000 in
theorem specRectangleOf (x y : Int) (w : World) : Calls Try.prog 14 #[.int .i64 x, .int .i64 y] w (OwnRPost2 w (rectOf x y)) := by
  obtain ⟨i0, hi, hz0, hz1, hz2⟩ := info_parts Try.infoI
  have hB := below1 w (.cells #[.int .i64 0, .slice none 0 0] 27)
  cases h1 : inB x 1 6 with
  | false =>
    have HR := Lib.hid (rectOf_no (x := x) (y := y) (by rw [h1]; rfl))
    have H1 := Lib.hid h1
    clear h1
    go_enter Try.func14, Try.ntmps14
    go_wp2_with fail
    refine (l1In_eq H1.out _).mono ?_
    rintro e w1 ⟨rfl, rfl⟩
    go_wp2
    refine bodyPost_ret (v := .tuple #[.agg #[.int .i64 0, .slice none 0 0], .bool false]) (by simp [results, Try.results14, go_sem]) rfl ?_
    rw [HR.out]
    exact ⟨_, rfl, OwnI.nil _ _, hB⟩
  | true =>
    obtain ⟨W1, W6, P1, P2, hsh⟩ := shl_side h1
    cases h2 : inB y 1 6 with
    | false =>
      have HR := Lib.hid (rectOf_no (x := x) (y := y) (by rw [h1, h2]; rfl))
      have H1 := Lib.hid h1
      have H2 := Lib.hid h2
      clear h1 h2 hsh P1 P2
      go_enter Try.func14, Try.ntmps14
      go_wp2_with fail
      refine (l1In_eq H1.out _).mono ?_
      rintro e w1 ⟨rfl, rfl⟩
      go_wp2_with fail
      refine (l1In_eq H2.out _).mono ?_
      rintro e w1 ⟨rfl, rfl⟩
      go_wp2
      refine bodyPost_ret (v := .tuple #[.agg #[.int .i64 0, .slice none 0 0], .bool false]) (by simp [results, Try.results14, go_sem]) rfl ?_
      rw [HR.out]
      exact ⟨_, rfl, OwnI.nil _ _, hB⟩
    | true =>
      have HR := Lib.hid (rectOf_yes h1 h2)
      have H1 := Lib.hid h1
      have H2 := Lib.hid h2
      have hy : 1 ≤ y ∧ y ≤ 6 := by unfold inB at h2; simpa using h2
      obtain ⟨hy1, hy6⟩ := hy
      obtain ⟨P, hP⟩ : ∃ P, P = (2 : Int) ^ x.toNat := ⟨_, rfl⟩
      rw [← hP] at P1 P2 hsh
      have hsh2 : wrap64 ((2 : Int) ^ x.toNat) = P := by rw [← hP]; exact IntWalk.wrap64_in _ ⟨by omega, by omega⟩
      have HP := Lib.hid hP
      clear h1 h2 hsh hP
      go_enter Try.func14, Try.ntmps14
      go_wp2_with fail
      refine (l1In_eq H1.out _).mono ?_
      rintro e w1 ⟨rfl, rfl⟩
      go_wp2_with fail
      refine (l1In_eq H2.out _).mono ?_
      rintro e w1 ⟨rfl, rfl⟩
      go_wp2
      have hN1 := Box2.new w (.int .i64 0) (.slice none 0 0) 27
      have hN2 := Box2.new (w.alloc (.cells #[.int .i64 0, .slice none 0 0] 27)) (.int .i64 x) (.slice none 0 0) 27
      rw [show (w.alloc (.cells #[.int .i64 0, .slice none 0 0] 27)).heap.size = w.heap.size + 1 by simp] at hN2
      obtain ⟨m, hm⟩ : ∃ m : Nat, y = (m : Int) := ⟨y.toNat, by omega⟩
      subst hm
      go_loopw [7] (fun i wr => ∃ (k : Nat) (v : Value), k ≤ m ∧ i = .int .i64 k ∧ Box2 wr w.heap.size (.int .i64 0) (.slice none 0 0) 27 ∧ Box2 wr (w.heap.size + 1) (.int .i64 x) v 27 ∧ OwnI wr (w.heap.size + 2) v (List.replicate k (P - 1)) ∧ Below w.heap.size w wr) (fun i _ => m - (intOf i).toNat)
      case atStart => exact ⟨0, _, Nat.zero_le _, rfl, hN1.alloc _, hN2, OwnI.nil _ _, below2 _ _ _⟩
      case round =>
        clear hN1 hN2
        obtain ⟨k, v, hk, rfl, hX, hY, hown, hb⟩ := hrel
        by_cases hlt : k < m
        · have hsz := hY.lt
          have d1 := hY.c1
          have d2 := hY.f1
          have hlti : (k : Int) < (m : Int) := by omega
          obtain ⟨A', cap', rfl, _, _⟩ := hown.form
          have hw1 : IntKind.i64.wrap ((2 : Int) ^ x.toNat) = P := by rw [← HP.out]; rw [IntKind.wrap_i64]; omega
          have hw2 : IntKind.i64.wrap (P - 1) = P - 1 := by rw [IntKind.wrap_i64]; omega
          have hne : some (w.heap.size + 1) ≠ (Value.slice A' (List.replicate k (P - 1)).length cap').ownBlock := by intro e; have := (hown.lt _ e.symm).1; omega
          rw [List.length_replicate] at *
          go_wp2
          go_region_law ((refine step_append_lies _ (by rfl) _ _ _ (by rfl) (w.heap.size + 2) 3 i0 (.int .i64 0) 1 8 Try.underlying22 hi hz0 hz1 hz2 rfl (by decide) _ _ _ (by rfl) ((World.ownsRow.alloc hown _).drew) ⟨wr.heap.size, 0, none⟩ 1 1 (intsV [P - 1]) (by rfl) (by rfl) (World.news_of_block (cs := #[.int .i64 (P - 1)]) (t := 3) (fr := (0, 0)) (heap_alloc_new wr _)) intsV_one (by omega) (by rw [List.length_replicate]; unfold maxLen; omega) (by rw [List.length_replicate]; omega) (by simp; omega) (wr.heap.size + 1) (by simp) ?_; intro g cap2 w1' hown1 hgrow hat hlt1; have hY1 := (hY.alloc (.cells #[.int .i64 (P - 1)] 3)).drew.grown hgrow hne; have e1 := hY1.c1; have e2 := hY1.f1))
          all_goals
            have hX1 := ((hX.alloc (.cells #[.int .i64 (P - 1)] 3)).drew.grown hgrow (show some w.heap.size ≠ _ from by intro e; have := (hown.lt _ e.symm).1; omega)).other (a := ⟨w.heap.size + 1, 1, none⟩) (by simp) (.slice (some ⟨g, 0, none⟩) (k + 1) cap2)
            have hY2 := hY1.set1 (.slice (some ⟨g, 0, none⟩) (k + 1) cap2)
            have hO2 : OwnI w1' (w.heap.size + 2) (.slice (some ⟨g, 0, none⟩) (k + 1) cap2) (List.replicate (k + 1) (P - 1)) := by
              unfold OwnI
              rw [List.length_replicate, List.replicate_succ', intsV_append]
              rw [List.length_replicate] at hown1
              exact hown1
            have hO3 := hO2.setCell_below (a := ⟨w.heap.size + 1, 1, none⟩) (by simp) (.slice (some ⟨g, 0, none⟩) (k + 1) cap2)
            have hb1 := (((hb.alloc (by omega) (.cells #[.int .i64 (P - 1)] 3)).drew.grown hgrow (by simp; omega) (fun z hz => by have := (hown.lt _ hz).1; omega))).setCell (p := ⟨w.heap.size + 1, 1, none⟩) (by simp) (.slice (some ⟨g, 0, none⟩) (k + 1) cap2)
            clear hX hY hown hb hgrow hat hlt1 hown1 hY1 hO2
            go_wp2
            go_roundw
            case rel => exact ⟨k + 1, _, by omega, by go_num, hX1, hY2, hO3, hb1⟩
            case measure => simp [intOf]; omega
        · obtain rfl : k = m := by omega
          obtain ⟨A', cap', rfl, _, _⟩ := hown.form
          rw [List.length_replicate] at *
          have d0 := hY.c0
          have d1 := hY.c1
          have x0 := hX.c0
          have x1 := hX.c1
          have f0 := hX.f0
          have f1 := hX.f1
          go_wp2
          have z := (hX.set0 (.int .i64 x)).set1 (.slice A' k cap')
          refine bodyPost_ret (v := .tuple #[.agg #[.int .i64 x, .slice A' k cap'], .bool true]) (by simp [results, Try.results14, go_sem, z.c0, z.c1]) rfl ?_
          rw [HR.out, ← HP.out]
          exact ⟨_, rfl, ((hown.setCell_below (by simp) _).setCell_below (by simp) _).mono (by omega), (hb.setCell (by simp) _).setCell (by simp) _⟩
theorem rectOf_len (x y : Int) : (rectOf x y).1.2.length ≤ 1048576 := by
  unfold rectOf
  split
  · rename_i h
    simp only [Bool.and_eq_true] at h
    have h2 := h.2
    unfold inB at h2
    simp at h2
    simp; omega
  · exact Nat.zero_le _
end Go.Proofs.Ytpbkpebpidabiaa
