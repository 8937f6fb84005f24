/- The laws IsCongruent, walked: each returns true. No condition. -/
import Derived.Test.YthhaojbnnacdbaaArgs
import Derived.Test.YthhaojbnnacdbaaLawC
import Derived.Test.YthhaojbnnacdbaaMark
import Derived.Test.YthhaojbnnacdbaaOrient
namespace Go.Proofs.Ythhaojbnnacdbaa
open Go.RowKit
set_option linter.unusedVariables false

set_option maxHeartbeats 1000000 in
theorem walkFnExactIsCongruent (W : World) (v0 : Value) (a0 : List C) (h0 : CellsArg W v0 a0) (v1 : Value) (a1 : List C) (h1 : CellsArg W v1 a1) : Calls Try.prog 5 #[v0, v1] W fun e w' => e = .returned (.bool true) ∧ Below W.heap.size W w' := by
  obtain ⟨A0, n0, cap0, rfl, hm0, hc0⟩ := h0
  unfold maxLen at hm0
  obtain ⟨A1, n1, cap1, rfl, hm1, hc1⟩ := h1
  unfold maxLen at hm1
  by_cases hs0 : n0 ≤ 1048576
  · have hn0 : n0 ≤ 1048576 := by omega
    by_cases hs1 : n0 + n1 ≤ 1048576
    · have hn1 : n1 ≤ 1048576 := by omega
      have hl0 : a0.length ≤ 1048576 := by rw [hc0.1]; exact hn0
      have hl1 : a1.length ≤ 1048576 := by rw [hc1.1]; exact hn1
      go_enter Try.func5, Try.ntmps5
      go_wp2_with fail
      refine (szCellS_ok _ _ _ _ _ (by omega) (by omega)).mono ?_
      rintro e w ⟨rfl, rfl⟩
      go_wp2_with fail
      refine (szCellS_ok _ _ _ _ _ (by omega) (by omega)).mono ?_
      rintro e w ⟨rfl, rfl⟩
      go_wp2_with fail
      refine (toCellS_any _ _ _ _ _ hn0 hc0).mono ?_
      rintro e w1 ⟨vs0, rfl, os0, k1⟩
      obtain ⟨As0, caps0, rfl, rs0, _⟩ := os0.form
      have K1 := k1
      go_wp2_with fail
      refine (toCellS_any _ _ _ _ _ hn1 (hc1.below K1)).mono ?_
      rintro e w2 ⟨vs1, rfl, os1, k2⟩
      obtain ⟨As1, caps1, rfl, rs1, _⟩ := os1.form
      have K2 := K1.trans (k2.mono K1.size)
      have rs0_2 := rs0.below k2
      go_wp2_with fail
      refine (specCongruent _ _ _ _ _ _ _ _ _ hl0 hl1 rs0_2 rs1).mono ?_
      rintro e w3 ⟨rfl, k3⟩
      have K3 := K2.trans (k3.mono K2.size)
      have rs0_3 := rs0_2.below k3
      have rs1_3 := rs1.below k3
      go_wp2_with fail
      refine (toCellS_any _ _ _ _ _ hn0 (hc0.below K3)).mono ?_
      rintro e w4 ⟨vx0, rfl, ox0, k4⟩
      obtain ⟨Ax0, capx0, rfl, rx0, _⟩ := ox0.form
      have K4 := K3.trans (k4.mono K3.size)
      have rs0_4 := rs0_3.below k4
      have rs1_4 := rs1_3.below k4
      go_wp2_with fail
      refine (toCellS_any _ _ _ _ _ hn1 (hc1.below K4)).mono ?_
      rintro e w5 ⟨vx1, rfl, ox1, k5⟩
      obtain ⟨Ax1, capx1, rfl, rx1, _⟩ := ox1.form
      have K5 := K4.trans (k5.mono K4.size)
      have rs0_5 := rs0_4.below k5
      have rs1_5 := rs1_4.below k5
      have rx0_5 := rx0.below k5
      go_wp2_with fail
      refine (implCongruent _ _ _ _ _ _ _ _ _ hl0 hl1 rx0_5 rx1).mono ?_
      rintro e w6 ⟨rfl, k6⟩
      have K6 := K5.trans (k6.mono K5.size)
      have rs0_6 := rs0_5.below k6
      have rs1_6 := rs1_5.below k6
      have rx0_6 := rx0_5.below k6
      have rx1_6 := rx1.below k6
      go_wp2_with fail
      refine (toCellS_any _ _ _ _ _ hn0 (hc0.below K6)).mono ?_
      rintro e w7 ⟨vy0, rfl, oy0, k7⟩
      obtain ⟨Ay0, capy0, rfl, ry0, _⟩ := oy0.form
      have K7 := K6.trans (k7.mono K6.size)
      have rs0_7 := rs0_6.below k7
      have rs1_7 := rs1_6.below k7
      have rx0_7 := rx0_6.below k7
      have rx1_7 := rx1_6.below k7
      go_wp2_with fail
      refine (eqCellS_any _ _ _ _ _ _ _ _ _ hl0 rx0_7 ry0).mono ?_
      rintro e w8 ⟨rfl, k8⟩
      have K8 := K7.trans (k8.mono K7.size)
      have rs0_8 := rs0_7.below k8
      have rs1_8 := rs1_7.below k8
      have rx0_8 := rx0_7.below k8
      have rx1_8 := rx1_7.below k8
      have ry0_8 := ry0.below k8
      go_wp2_with fail
      refine (toCellS_any _ _ _ _ _ hn1 (hc1.below K8)).mono ?_
      rintro e w9 ⟨vy1, rfl, oy1, k9⟩
      obtain ⟨Ay1, capy1, rfl, ry1, _⟩ := oy1.form
      have K9 := K8.trans (k9.mono K8.size)
      have rs0_9 := rs0_8.below k9
      have rs1_9 := rs1_8.below k9
      have rx0_9 := rx0_8.below k9
      have rx1_9 := rx1_8.below k9
      have ry0_9 := ry0_8.below k9
      go_wp2_with fail
      refine (eqCellS_any _ _ _ _ _ _ _ _ _ hl1 rx1_9 ry1).mono ?_
      rintro e w10 ⟨rfl, k10⟩
      have K10 := K9.trans (k10.mono K9.size)
      have rs0_10 := rs0_9.below k10
      have rs1_10 := rs1_9.below k10
      have rx0_10 := rx0_9.below k10
      have rx1_10 := rx1_9.below k10
      have ry0_10 := ry0_9.below k10
      have ry1_10 := ry1.below k10
      go_wp2
      go_ret
      exact ⟨rfl, K10⟩
    · go_enter Try.func5, Try.ntmps5
      go_wp2_with fail
      refine (szCellS_ok _ _ _ _ _ (by omega) (by omega)).mono ?_
      rintro e w ⟨rfl, rfl⟩
      go_wp2_with fail
      refine (szCellS_big _ _ _ _ _ (by omega) (by omega) (by omega) (by omega)).mono ?_
      rintro e w ⟨rfl, rfl⟩
      go_wp2
      go_ret
      exact ⟨rfl, Below.refl _ _⟩
  · go_enter Try.func5, Try.ntmps5
    go_wp2_with fail
    refine (szCellS_big _ _ _ _ _ (by omega) (by omega) (by omega) (by omega)).mono ?_
    rintro e w ⟨rfl, rfl⟩
    go_wp2
    go_ret
    exact ⟨rfl, Below.refl _ _⟩

end Go.Proofs.Ythhaojbnnacdbaa
