/- SymmetriesOf and IsChiral, the program's and the reference's: contracts. Condition: slices of at most 2^20 cells. -/
import Derived.Test.YthhaojbnnacdbaaTurnM
import Derived.Test.YthhaojbnnacdbaaEq
import Derived.Test.YthhaojbnnacdbaaInts
import Derived.Test.YthhaojbnnacdbaaBx
namespace Go.Proofs.Ythhaojbnnacdbaa
open Go.RowKit

def symTo (cs : List C) (k : Nat) : List Int := ((List.range k).filter fun m => decide (turnC cs m = cornerC cs)).map fun (m : Nat) => (m : Int)
def symsL (cs : List C) : List Int := if isShape cs = true then symTo cs 8 else []
theorem symTo_zero (cs : List C) : symTo cs 0 = [] := rfl
theorem symTo_yes {cs : List C} {k : Nat} (h : turnC cs k = cornerC cs) : symTo cs (k + 1) = symTo cs k ++ [(k : Int)] := by
  unfold symTo
  rw [List.range_succ, List.filter_append, List.map_append]
  simp [h]
theorem symTo_no {cs : List C} {k : Nat} (h : ¬ turnC cs k = cornerC cs) : symTo cs (k + 1) = symTo cs k := by
  unfold symTo
  rw [List.range_succ, List.filter_append, List.map_append]
  simp [h]
theorem symTo_len (cs : List C) (k : Nat) : (symTo cs k).length ≤ k := by
  unfold symTo
  rw [List.length_map]
  exact Nat.le_trans (List.length_filter_le _ _) (by simp)
theorem symsL_len (cs : List C) : (symsL cs).length ≤ 1048576 := by
  unfold symsL
  split
  · exact Nat.le_trans (symTo_len cs 8) (by omega)
  · simp
theorem symsL_len' (cs : List C) (_ : cs.length ≤ 1048576) : (symsL cs).length ≤ 1048576 := symsL_len cs
theorem cornerC_len (cs : List C) : (cornerC cs).length = cs.length := by unfold cornerC movC; simp

set_option maxRecDepth 100000 in
set_option maxHeartbeats 1600000 in
theorem implSymmetries (A : Option Addr) (n cap : Nat) (cs : List C) (w : World) (hn : n ≤ 1048576) (h : CellsAt w A n cs) :
    Calls Try.prog 54 #[.slice A n cap] w (OwnIPost w (symsL cs)) := by
  have hc := implIsShape A n cap cs w hn h
  cases hs : isShape cs with
  | false =>
    have HR : Hid (symsL cs = []) := by show _ = _; unfold symsL; rw [hs]; rfl
    rw [hs] at hc
    clear hs
    go_enter Try.func54, Try.ntmps54
    go_wp2_with fail
    refine hc.mono ?_
    rintro e w1 ⟨rfl, hb⟩
    go_wp2
    go_ret
    rw [HR.out]
    exact ⟨_, rfl, OwnI.nil _ _, hb⟩
  | true =>
    obtain ⟨i0, hi, hz0, hz1, hz2⟩ := info_parts Try.infoI
    have HR : Hid (symsL cs = symTo cs 8) := by show _ = _; unfold symsL; rw [hs]; rfl
    have HS := Lib.hid hs
    have hl := shape_len hs
    rw [h.1] at hl
    have hlc := Lib.hid h.1
    have HSO : Hid (sortC (cornerC cs) = cornerC cs) := cornerC_self (shape_sorted hs)
    rw [hs] at hc
    clear hs
    go_enter Try.func54, Try.ntmps54
    go_wp2_with fail
    refine hc.mono ?_
    rintro e w1 ⟨rfl, hb⟩
    clear hc
    go_wp2_with fail
    refine (implCorner A n cap _ w1 (sorts_small n (by omega)) (by omega) (shape_smallL HS.out) hn (h.below hb)).mono ?_
    rintro e w2 ⟨v2, rfl, hO2, hb2⟩
    rw [HSO.out] at hO2
    have hbA := hb.trans (hb2.mono hb.size)
    obtain ⟨B, cap2, rfl, hr2, _⟩ := hO2.form
    rw [cornerC_len, hlc.out] at hr2
    rw [cornerC_len, hlc.out]
    have h2 := h.below hbA
    clear hO2 hb hb2 h
    go_wp2
    go_loopw [4, 5, 11] (fun v _ i wr => ∃ k : Nat, k ≤ 8 ∧ i = .int .i64 k ∧ OwnI wr w2.heap.size v (symTo cs k) ∧ Below w2.heap.size w2 wr) (fun _ _ i _ => 8 - (intOf i).toNat)
    case atStart => exact ⟨0, Nat.zero_le _, rfl, OwnI.nil _ _, Below.refl _ _⟩
    case round =>
      obtain ⟨k, hk, rfl, hown, hb⟩ := hrel
      have HB : Hid (Below w.heap.size w wr) := hbA.trans (hb.mono hbA.size)
      by_cases hlt : k < 8
      · have hki : (k : Int) < 8 := by omega
        have hA := h2.below hb
        have hB := hr2.below hb
        have hlen := Lib.hid (symTo_len cs k)
        clear h2 hr2
        go_wp2_with fail
        refine (implTurned A n cap cs k wr (by omega) (sorts_small n (by omega)) (by omega) (shape_smallL HS.out) hn hA).mono ?_
        rintro e w3 ⟨v3, rfl, hO3, hb3⟩
        obtain ⟨D, cap3, rfl, hr3, _⟩ := hO3.form
        have hl3 : (turnC cs k).length = n := by rw [turnC_len (shape_nodup HS.out)]; exact hlc.out
        rw [hl3] at hr3
        rw [hl3]
        have hown3 := hown.below hb3
        have hbB := hb.trans (hb3.mono hb.size)
        have HB3 : Hid (Below w.heap.size w w3) := HB.out.trans (hb3.mono HB.out.size)
        have hB3 := hB.below hb3
        clear hown hb hb3 hO3 hA hB HB hl3
        by_cases he : turnC cs k = cornerC cs
        · have hq := implEqualShapes D B n n cap3 cap2 (turnC cs k) (cornerC cs) w3 hn hn hr3 hB3
          unfold EqPost at hq
          rw [decide_eq_true he] at hq
          have HE := Lib.hid (symTo_yes he)
          clear he hr3 hB3
          go_wp2_with fail
          refine hq.mono ?_
          rintro e w4 ⟨rfl, hb4⟩
          have hown4 := hown3.below hb4
          have hbC := hbB.trans (hb4.mono hbB.size)
          have HB4 : Hid (Below w.heap.size w w4) := HB3.out.trans (hb4.mono HB3.out.size)
          have hsz := hbC.size
          have hszw := HB4.out.size
          clear hq hown3 hbB hb4 HB3
          have hll := hlen.out
          unfold OwnI at hown4
          go_wp2_with (at_builtin; refine wpList_append_own _ rfl _ _ 48 rfl w2.heap.size 3 i0 (.int .i64 0) 1 8 Try.underlying48 hi hz0 hz1 hz2 rfl (by decide) _ _ _ rfl (World.ownsRow.alloc hown4 _) ⟨w4.heap.size, 0, none⟩ 1 1 (intsV [(k : Int)]) rfl rfl ?c1 ?c2 ?c3 ?c4 ?c5 ?_)
          case c1 => exact World.news_of_block (cs := #[.int .i64 k]) (heap_alloc_new w4 _)
          case c2 => exact intsV_one
          case c3 => unfold maxLen; omega
          case c4 => omega
          case c5 => simp; omega
          intro v' w5 hown5 hgrow _
          have R1 : Below w2.heap.size w2 w5 := below_append1 hbC hown4 hsz hgrow
          rw [← intsV_append, ← HE.out] at hown5
          have HL5 : Hid ((symTo cs (k + 1)).length = (symTo cs k).length + 1) := by show _ = _; rw [HE.out]; simp
          have hO5 : OwnI w5 w2.heap.size v' (symTo cs (k + 1)) := by unfold OwnI; rw [HL5.out]; exact hown5
          clear hown4 hgrow hown5 HE
          go_wp2
          go_roundw
          case rel => exact ⟨k + 1, by omega, by go_num, hO5, R1⟩
          case measure => simp [intOf]; omega
        · have hq := implEqualShapes D B n n cap3 cap2 (turnC cs k) (cornerC cs) w3 hn hn hr3 hB3
          unfold EqPost at hq
          rw [decide_eq_false he] at hq
          have HE := Lib.hid (symTo_no he)
          clear he hr3 hB3
          go_wp2_with fail
          refine hq.mono ?_
          rintro e w4 ⟨rfl, hb4⟩
          have hO5 := hown3.below hb4
          rw [← HE.out] at hO5
          have R1 := hbB.trans (hb4.mono hbB.size)
          clear hq hown3 hbB hb4 HB3 HE
          go_wp2
          go_roundw
          case rel => exact ⟨k + 1, by omega, by go_num, hO5, R1⟩
          case measure => simp [intOf]; omega
      · obtain rfl : k = 8 := by omega
        go_wp2
        go_ret
        rw [HR.out]
        exact ⟨_, rfl, hown.mono hbA.size, HB.out⟩
set_option maxRecDepth 100000 in
set_option maxHeartbeats 1600000 in
theorem specSymmetries (A : Option Addr) (n cap : Nat) (cs : List C) (w : World) (hn : n ≤ 1048576) (h : CellsAt w A n cs) :
    Calls Try.prog 58 #[.slice A n cap] w (OwnIPost w (symsL cs)) := by
  cases hs : isShape cs with
  | false =>
    have HR : Hid (symsL cs = []) := by show _ = _; unfold symsL; rw [hs]; rfl
    have hE := ownI_empty w
    have hbE := below_alloc w (.cells #[] 3)
    have hc := specIsShape A n cap cs (w.alloc (.cells #[] 3)) hn (h.below hbE)
    rw [hs] at hc
    clear hs
    go_enter Try.func58, Try.ntmps58
    go_wp2
    go_loopw [3, 4] (fun v i wr => v = .slice (some ⟨w.heap.size, 0, none⟩) 0 0 ∧ i = .int .i64 0 ∧ wr = w.alloc (.cells #[] 3)) (fun _ _ _ => 0)
    case atStart => exact ⟨rfl, rfl, rfl⟩
    case round =>
      obtain ⟨rfl, rfl, rfl⟩ := hrel
      go_wp2_with fail
      refine hc.mono ?_
      rintro e w1 ⟨rfl, hb⟩
      go_wp2
      go_ret
      rw [HR.out]
      exact ⟨_, rfl, hE.below hb, hbE.trans (hb.mono hbE.size)⟩
  | true =>
    obtain ⟨i0, hi, hz0, hz1, hz2⟩ := info_parts Try.infoI
    have HR : Hid (symsL cs = symTo cs 8) := by show _ = _; unfold symsL; rw [hs]; rfl
    have HS := Lib.hid hs
    have hl := shape_len hs
    rw [h.1] at hl
    have hlc := Lib.hid h.1
    have hE := ownI_empty w
    have hbE := below_alloc w (.cells #[] 3)
    clear hs
    go_enter Try.func58, Try.ntmps58
    go_wp2
    go_loopw [3, 4] (fun v i wr => ∃ k : Nat, k ≤ 8 ∧ i = .int .i64 k ∧ OwnI wr w.heap.size v (symTo cs k) ∧ Below w.heap.size w wr) (fun _ i _ => 8 - (intOf i).toNat)
    case atStart => exact ⟨0, Nat.zero_le _, rfl, hE, hbE⟩
    case round =>
      clear hE hbE
      obtain ⟨k, hk, rfl, hown, hb⟩ := hrel
      by_cases hlt : k < 8
      · have hki : (k : Int) < 8 := by omega
        have hc := specIsShape A n cap cs wr hn (h.below hb)
        rw [HS.out] at hc
        have hlen := Lib.hid (symTo_len cs k)
        go_wp2_with fail
        refine hc.mono ?_
        rintro e w1 ⟨rfl, hb1⟩
        have hbA := hb.trans (hb1.mono hb.size)
        have hownA := hown.below hb1
        clear hc hb1 hown hb
        go_wp2_with fail
        refine (specTurn A n cap cs k w1 (by omega) (shape_smallL HS.out) hn (h.below hbA)).mono ?_
        rintro e w3 ⟨v3, rfl, hO3, hb3⟩
        obtain ⟨D, cap3, rfl, hr3, _⟩ := hO3.form
        have hl3 : (turnC cs k).length = n := by rw [turnC_len (shape_nodup HS.out)]; exact hlc.out
        rw [hl3] at hr3
        rw [hl3]
        have hown3 := hownA.below hb3
        have hbB := hbA.trans (hb3.mono hbA.size)
        clear hownA hbA hb3 hO3 hl3
        go_wp2_with fail
        refine (specCorner A n cap cs w3 (shape_smallL HS.out) hn (h.below hbB)).mono ?_
        rintro e w4 ⟨v4, rfl, hO4, hb4⟩
        obtain ⟨B, cap4, rfl, hr4, _⟩ := hO4.form
        rw [cornerC_len, hlc.out] at hr4
        rw [cornerC_len, hlc.out]
        have hr3 := hr3.below hb4
        have hown3 := hown3.below hb4
        have hbB := hbB.trans (hb4.mono hbB.size)
        clear hO4 hb4
        by_cases he : turnC cs k = cornerC cs
        · have hq := specEqualShapes D B n n cap3 cap4 (turnC cs k) (cornerC cs) w4 hn hn hr3 hr4
          unfold EqPost at hq
          rw [decide_eq_true he] at hq
          have HE := Lib.hid (symTo_yes he)
          clear he hr3 hr4
          go_wp2_with fail
          refine hq.mono ?_
          rintro e w5 ⟨rfl, hb5⟩
          have hown4 := hown3.below hb5
          have hbC := hbB.trans (hb5.mono hbB.size)
          have hsz := hbC.size
          clear hq hown3 hbB hb5 h
          have hll := hlen.out
          unfold OwnI at hown4
          go_wp2_with (at_builtin; refine wpList_append_own _ rfl _ _ 48 rfl w.heap.size 3 i0 (.int .i64 0) 1 8 Try.underlying48 hi hz0 hz1 hz2 rfl (by decide) _ _ _ rfl (World.ownsRow.alloc hown4 _) ⟨w5.heap.size, 0, none⟩ 1 1 (intsV [(k : Int)]) rfl rfl ?c1 ?c2 ?c3 ?c4 ?c5 ?_)
          case c1 => exact World.news_of_block (cs := #[.int .i64 k]) (heap_alloc_new w5 _)
          case c2 => exact intsV_one
          case c3 => unfold maxLen; omega
          case c4 => omega
          case c5 => simp; omega
          intro v' w6 hown5 hgrow _
          have R1 : Below w.heap.size w w6 := below_append1 hbC hown4 hsz hgrow
          rw [← intsV_append, ← HE.out] at hown5
          have HL5 : Hid ((symTo cs (k + 1)).length = (symTo cs k).length + 1) := by show _ = _; rw [HE.out]; simp
          have hO5 : OwnI w6 w.heap.size v' (symTo cs (k + 1)) := by unfold OwnI; rw [HL5.out]; exact hown5
          clear hown4 hgrow hown5 HE
          go_wp2
          go_roundw
          case rel => exact ⟨k + 1, by omega, by go_num, hO5, R1⟩
          case measure => simp [intOf]; omega
        · have hq := specEqualShapes D B n n cap3 cap4 (turnC cs k) (cornerC cs) w4 hn hn hr3 hr4
          unfold EqPost at hq
          rw [decide_eq_false he] at hq
          have HE := Lib.hid (symTo_no he)
          clear he hr3 hr4
          go_wp2_with fail
          refine hq.mono ?_
          rintro e w5 ⟨rfl, hb5⟩
          have hO5 := hown3.below hb5
          rw [← HE.out] at hO5
          have R1 := hbB.trans (hb5.mono hbB.size)
          clear hq hown3 hbB hb5 HE h
          go_wp2
          go_roundw
          case rel => exact ⟨k + 1, by omega, by go_num, hO5, R1⟩
          case measure => simp [intOf]; omega
      · obtain rfl : k = 8 := by omega
        go_wp2
        go_ret
        rw [HR.out]
        exact ⟨_, rfl, hown, hb⟩
end Go.Proofs.Ythhaojbnnacdbaa
