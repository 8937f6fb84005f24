/- The laws SortCells, walked: each returns true. No condition. -/
import Derived.Test.YthhaojbnnacdbaaArgs
import Derived.Test.YthhaojbnnacdbaaLawC
import Derived.Test.YthhaojbnnacdbaaMark
import Derived.Test.YthhaojbnnacdbaaSortQ
namespace Go.Proofs.Ythhaojbnnacdbaa
open Go.RowKit
set_option linter.unusedVariables false

set_option maxHeartbeats 2000000 in
theorem walkFnExactSortCells (W : World) (v0 : Value) (a0 : List C) (h0 : CellsArg W v0 a0) : Calls Try.prog 4 #[v0] W fun e w' => e = .returned (.bool true) ∧ Below W.heap.size W w' := by
  obtain ⟨A0, n0, cap0, rfl, hm0, hc0⟩ := h0
  unfold maxLen at hm0
  by_cases hs0 : n0 ≤ 1048576
  · have hn0 : n0 ≤ 1048576 := by omega
    have hl0 : a0.length ≤ 1048576 := by rw [hc0.1]; exact hn0
    have hlr : (sortC a0).length ≤ 1048576 := sortC_len2 _ hl0
    go_enter Try.func4, Try.ntmps4
    go_wp2_with fail
    refine (szCellS_ok _ _ _ _ _ (by omega) (by omega)).mono ?_
    rintro e w ⟨rfl, rfl⟩
    go_wp2_with fail
    refine (toCellS_any _ _ _ _ _ hn0 hc0).mono ?_
    rintro e w1 ⟨vs0, rfl, os0, k1⟩
    obtain ⟨As0, caps0, rfl, _, _⟩ := os0.form
    have K1 := k1
    go_wp2_with fail
    refine (specSort _ _ _ _ _ hl0 (own_cells os0)).mono ?_
    rintro e w2 ⟨vw, rfl, ow, k2⟩
    obtain ⟨Aw, capw, rfl, _, _⟩ := ow.form
    have K2 := K1.trans (k2.mono K1.size)
    have os0_2 := os0.below k2
    go_wp2_with fail
    refine (toCellS_any _ _ _ _ _ hn0 (hc0.below K2)).mono ?_
    rintro e w3 ⟨vx0, rfl, ox0, k3⟩
    obtain ⟨Ax0, capx0, rfl, _, _⟩ := ox0.form
    have K3 := K2.trans (k3.mono K2.size)
    have ow_3 := ow.below k3
    go_wp2_with fail
    refine (implSortAll _ _ _ _ _ hl0 (own_cells ox0)).mono ?_
    rintro e w4 ⟨vg, rfl, og, k4⟩
    obtain ⟨Ag, capg, rfl, _, _⟩ := og.form
    have K4 := K3.trans (k4.mono K3.size)
    have ow_4 := ow_3.below k4
    have ox0_4 := ox0.below k4
    have sz : W.heap.size ≤ w1.heap.size ∧ w1.heap.size ≤ w2.heap.size ∧ w2.heap.size ≤ w3.heap.size ∧ w3.heap.size ≤ w4.heap.size := ⟨k1.size, k2.size, k3.size, k4.size⟩
    go_wp2_with fail
    refine (eqCellS_any _ _ _ _ _ _ _ _ _ hlr (own_cells og) (own_cells ow_4)).mono ?_
    rintro e w5 ⟨rfl, k5⟩
    have K5 := K4.trans (k5.mono K4.size)
    have ow_5 := ow_4.below k5
    have ox0_5 := ox0_4.below k5
    have og_5 := og.below k5
    go_wp2_with fail
    refine (toCellS_any _ _ _ _ _ hn0 (hc0.below K5)).mono ?_
    rintro e w6 ⟨vy0, rfl, oy0, k6⟩
    obtain ⟨Ay0, capy0, rfl, _, _⟩ := oy0.form
    have K6 := K5.trans (k6.mono K5.size)
    have ow_6 := ow_5.below k6
    have ox0_6 := ox0_5.below k6
    have og_6 := og_5.below k6
    go_wp2_with fail
    refine (eqCellS_any _ _ _ _ _ _ _ _ _ hl0 (own_cells ox0_6) (own_cells oy0)).mono ?_
    rintro e w7 ⟨rfl, k7⟩
    have K7 := K6.trans (k7.mono K6.size)
    have ow_7 := ow_6.below k7
    have ox0_7 := ox0_6.below k7
    have og_7 := og_6.below k7
    have oy0_7 := oy0.below k7
    go_wp2_with fail
    refine (markCellS_any _ _ _ _ _ hl0 ⟨by omega, by omega⟩ ox0_7).mono ?_
    rintro e w8 ⟨rfl, mx0, g8⟩
    have ow_8 := own_beside ow_7 g8 (Own.apart ow ox0 (by have := sz; omega))
    have og_8 := own_beside og_7 g8 (Own.apart' ox0 og (by have := sz; omega))
    have K8 := below_grown K7 ox0_7 g8 K7.size (by have := sz; omega)
    go_wp2_with fail
    refine (eqCellS_any _ _ _ _ _ _ _ _ _ hlr (own_cells og_8) (own_cells ow_8)).mono ?_
    rintro e w9 ⟨rfl, k9⟩
    have K9 := K8.trans (k9.mono K8.size)
    have ow_9 := ow_8.below k9
    have ox0_9 := mx0.below k9
    have og_9 := og_8.below k9
    go_wp2_with fail
    refine (markCellS_any _ _ _ _ _ hlr ⟨by omega, by omega⟩ og_9).mono ?_
    rintro e w10 ⟨rfl, mg, g10⟩
    have ow_10 := own_beside ow_9 g10 (Own.apart ow og (by have := sz; omega))
    have K10 := below_grown K9 og_9 g10 K9.size (by have := sz; omega)
    go_wp2_with fail
    refine (heldCellS_any _ _ _ _ _ hlr ⟨by omega, by omega⟩ (own_cells mg)).mono ?_
    rintro e w11 ⟨rfl, rfl⟩
    go_wp2_with fail
    refine (toCellS_any _ _ _ _ _ hn0 (hc0.below K10)).mono ?_
    rintro e w12 ⟨vz0, rfl, oz0, k12⟩
    obtain ⟨Az0, capz0, rfl, _, _⟩ := oz0.form
    have K12 := K10.trans (k12.mono K10.size)
    have ow_12 := ow_10.below k12
    have og_12 := mg.below k12
    go_wp2_with fail
    refine (implSortAll _ _ _ _ _ hl0 (own_cells oz0)).mono ?_
    rintro e w13 ⟨vh, rfl, oh, k13⟩
    obtain ⟨Ah, caph, rfl, _, _⟩ := oh.form
    have K13 := K12.trans (k13.mono K12.size)
    have ow_13 := ow_12.below k13
    have og_13 := og_12.below k13
    have oz0_13 := oz0.below k13
    go_wp2_with fail
    refine (eqCellS_any _ _ _ _ _ _ _ _ _ hlr (own_cells oh) (own_cells ow_13)).mono ?_
    rintro e w14 ⟨rfl, k14⟩
    have K14 := K13.trans (k14.mono K13.size)
    have ow_14 := ow_13.below k14
    have og_14 := og_13.below k14
    have oh_14 := oh.below k14
    go_wp2_with fail
    refine (heldCellS_any _ _ _ _ _ hlr ⟨by omega, by omega⟩ (own_cells og_14)).mono ?_
    rintro e w15 ⟨rfl, rfl⟩
    go_wp2
    go_ret
    exact ⟨rfl, K14⟩
  · go_enter Try.func4, Try.ntmps4
    go_wp2_with fail
    refine (szCellS_big _ _ _ _ _ (by omega) (by omega) (by omega) (by omega)).mono ?_
    rintro e w ⟨rfl, rfl⟩
    go_wp2
    go_ret
    exact ⟨rfl, Below.refl _ _⟩
end Go.Proofs.Ythhaojbnnacdbaa
