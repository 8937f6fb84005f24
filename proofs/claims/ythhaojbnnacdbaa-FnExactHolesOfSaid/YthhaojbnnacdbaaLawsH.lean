/- The laws HolesOf, walked: each returns true. No condition. -/
import Derived.Test.YthhaojbnnacdbaaArgs
import Derived.Test.YthhaojbnnacdbaaLawC
import Derived.Test.YthhaojbnnacdbaaHoleI
namespace Go.Proofs.Ythhaojbnnacdbaa
open Go.RowKit
set_option linter.unusedVariables false

set_option maxHeartbeats 1000000 in
theorem walkFnExactHolesOf (W : World) (v0 : Value) (a0 : List C) (h0 : CellsArg W v0 a0) : Calls Try.prog 3 #[v0] W fun e w' => e = .returned (.bool true) ∧ Below W.heap.size W w' := by
  obtain ⟨A0, n0, cap0, rfl, hm0, hc0⟩ := h0
  unfold maxLen at hm0
  by_cases hs0 : n0 ≤ 1048576
  · have hn0 : n0 ≤ 1048576 := by omega
    have hl0 : a0.length ≤ 1048576 := by rw [hc0.1]; exact hn0
    go_enter Try.func3, Try.ntmps3
    go_wp2_with fail
    refine (szCellS_ok _ _ _ _ _ (by omega) (by omega)).mono ?_
    rintro e w ⟨rfl, rfl⟩
    go_wp2_with fail
    refine (toCellS_any _ _ _ _ _ hn0 hc0).mono ?_
    rintro e w1 ⟨vs0, rfl, os0, k1⟩
    obtain ⟨As0, caps0, rfl, rs0, _⟩ := os0.form
    have K1 := k1
    go_wp2_with fail
    refine (specHoles _ _ _ _ _ hl0 rs0).mono ?_
    rintro e w2 ⟨rfl, k2⟩
    have K2 := K1.trans (k2.mono K1.size)
    have rs0_2 := rs0.below k2
    go_wp2_with fail
    refine (toCellS_any _ _ _ _ _ hn0 (hc0.below K2)).mono ?_
    rintro e w3 ⟨vx0, rfl, ox0, k3⟩
    obtain ⟨Ax0, capx0, rfl, rx0, _⟩ := ox0.form
    have K3 := K2.trans (k3.mono K2.size)
    have rs0_3 := rs0_2.below k3
    go_wp2_with fail
    refine (implHoles _ _ _ _ _ hl0 rx0).mono ?_
    rintro e w4 ⟨rfl, k4⟩
    have K4 := K3.trans (k4.mono K3.size)
    have rs0_4 := rs0_3.below k4
    have rx0_4 := rx0.below k4
    go_wp2_with fail
    refine (toCellS_any _ _ _ _ _ hn0 (hc0.below K4)).mono ?_
    rintro e w5 ⟨vy0, rfl, oy0, k5⟩
    obtain ⟨Ay0, capy0, rfl, ry0, _⟩ := oy0.form
    have K5 := K4.trans (k5.mono K4.size)
    have rs0_5 := rs0_4.below k5
    have rx0_5 := rx0_4.below k5
    go_wp2_with fail
    refine (eqCellS_any _ _ _ _ _ _ _ _ _ hl0 rx0_5 ry0).mono ?_
    rintro e w6 ⟨rfl, k6⟩
    have K6 := K5.trans (k6.mono K5.size)
    have rs0_6 := rs0_5.below k6
    have rx0_6 := rx0_5.below k6
    have ry0_6 := ry0.below k6
    go_wp2
    go_ret
    exact ⟨rfl, K6⟩
  · go_enter Try.func3, Try.ntmps3
    go_wp2_with fail
    refine (szCellS_big _ _ _ _ _ (by omega) (by omega) (by omega) (by omega)).mono ?_
    rintro e w ⟨rfl, rfl⟩
    go_wp2
    go_ret
    exact ⟨rfl, Below.refl _ _⟩

end Go.Proofs.Ythhaojbnnacdbaa
