/- The laws AreaOf, walked: each returns true. No condition. -/
import Derived.Test.YtpbkpebpidabiaaRegC
import Derived.Test.YtpbkpebpidabiaaArea
namespace Go.Proofs.Ytpbkpebpidabiaa
open Go.RowKit
set_option linter.unusedVariables false

set_option maxHeartbeats 2000000 in
theorem walkFnExactAreaOf (W : World) (v0 : Value) (a0 : Int × List Int) (h0 : RegArg W v0 a0) : Calls Try.prog 8 #[v0] W fun e w' => e = .returned (.bool true) ∧ Below W.heap.size W w' := by
  obtain ⟨A0, n0, cap0, rfl, hm0, hw0, hc0⟩ := h0
  obtain ⟨W0, xs0⟩ := a0
  simp only at hw0 hc0 ⊢
  unfold maxLen at hm0
  clear hw0
  by_cases hs0 : n0 ≤ 1048576
  · have hn0 : n0 ≤ 1048576 := by omega
    have hl0 : xs0.length ≤ 1048576 := by rw [hc0.1]; exact hn0
    have B0 : Below W.heap.size W (W.alloc (.cells #[.int .i64 W0, .slice A0 n0 cap0] 24)) := below1 _ _
    go_enter Try.func8, Try.ntmps8
    go_wp2_with fail
    refine (szRegion_ok _ _ _ _ _ _ (by omega) (by omega)).mono ?_
    rintro e w1 ⟨rfl, k1⟩
    have K1 := B0.trans (k1.mono B0.size)
    have ka0_1 := k1
    have ca00_1 : w1.cell? ⟨W.heap.size, 0, none⟩ = some (.int .i64 W0) := by have := box_cell (j := 0) ka0_1 rfl; simpa using this
    have ca01_1 : w1.cell? ⟨W.heap.size, 1, none⟩ = some (.slice A0 n0 cap0) := by have := box_cell (j := 1) ka0_1 rfl; simpa using this
    go_wp2_with fail
    refine (toRegion_any _ _ _ _ _ _ hn0 (hc0.below K1)).mono ?_
    rintro e w2 ⟨vs0, rfl, os0, k2⟩
    obtain ⟨As0, caps0, rfl, _, _⟩ := os0.form
    simp only at os0 ⊢
    have K2 := K1.trans (k2.mono K1.size)
    have ka0_2 := ka0_1.trans (k2.mono ka0_1.size)
    have ca00_2 : w2.cell? ⟨W.heap.size, 0, none⟩ = some (.int .i64 W0) := by have := box_cell (j := 0) ka0_2 rfl; simpa using this
    clear ca00_1
    have ca01_2 : w2.cell? ⟨W.heap.size, 1, none⟩ = some (.slice A0 n0 cap0) := by have := box_cell (j := 1) ka0_2 rfl; simpa using this
    clear ca01_1
    go_wp2_with fail
    refine (specAreaOf _ _ _ _ _ _ hl0 (ownI_ints os0)).mono ?_
    rintro e w3 ⟨rfl, k3⟩
    have K3 := K2.trans (k3.mono K2.size)
    have ka0_3 := ka0_2.trans (k3.mono ka0_2.size)
    have ca00_3 : w3.cell? ⟨W.heap.size, 0, none⟩ = some (.int .i64 W0) := by have := box_cell (j := 0) ka0_3 rfl; simpa using this
    clear ca00_2
    have ca01_3 : w3.cell? ⟨W.heap.size, 1, none⟩ = some (.slice A0 n0 cap0) := by have := box_cell (j := 1) ka0_3 rfl; simpa using this
    clear ca01_2
    have os0_3 := os0.below k3
    go_wp2_with fail
    refine (toRegion_any _ _ _ _ _ _ hn0 (hc0.below K3)).mono ?_
    rintro e w4 ⟨vx0, rfl, ox0, k4⟩
    obtain ⟨Ax0, capx0, rfl, _, _⟩ := ox0.form
    simp only at ox0 ⊢
    have K4 := K3.trans (k4.mono K3.size)
    have ka0_4 := ka0_3.trans (k4.mono ka0_3.size)
    have ca00_4 : w4.cell? ⟨W.heap.size, 0, none⟩ = some (.int .i64 W0) := by have := box_cell (j := 0) ka0_4 rfl; simpa using this
    clear ca00_3
    have ca01_4 : w4.cell? ⟨W.heap.size, 1, none⟩ = some (.slice A0 n0 cap0) := by have := box_cell (j := 1) ka0_4 rfl; simpa using this
    clear ca01_3
    obtain ⟨w5, hw5⟩ : ∃ w, w = w4.alloc (.cells #[.int .i64 W0, .slice Ax0 xs0.length capx0] 27) := ⟨_, rfl⟩
    have k5 : Below w4.heap.size w4 w5 := by rw [hw5]; exact below_alloc _ _
    have kx0_5 : Below (w4.alloc (.cells #[.int .i64 W0, .slice Ax0 xs0.length capx0] 27)).heap.size (w4.alloc (.cells #[.int .i64 W0, .slice Ax0 xs0.length capx0] 27)) w5 := by rw [hw5]; exact Below.refl _ _
    have hs5 : Hid (w5 = w4.alloc (.cells #[.int .i64 W0, .slice Ax0 xs0.length capx0] 27)) := hw5
    have K5 := K4.trans (k5.mono K4.size)
    have ka0_5 := ka0_4.trans (k5.mono ka0_4.size)
    have ca00_5 : w5.cell? ⟨W.heap.size, 0, none⟩ = some (.int .i64 W0) := by have := box_cell (j := 0) ka0_5 rfl; simpa using this
    clear ca00_4
    have ca01_5 : w5.cell? ⟨W.heap.size, 1, none⟩ = some (.slice A0 n0 cap0) := by have := box_cell (j := 1) ka0_5 rfl; simpa using this
    clear ca01_4
    have ox0_5 := ox0.below k5
    have qa00 : (w4.alloc (.cells #[.int .i64 W0, .slice Ax0 xs0.length capx0] 27)).cell? ⟨W.heap.size, 0, none⟩ = some (.int .i64 W0) := by rw [← hs5.out]; exact ca00_5
    have qa01 : (w4.alloc (.cells #[.int .i64 W0, .slice Ax0 xs0.length capx0] 27)).cell? ⟨W.heap.size, 1, none⟩ = some (.slice A0 n0 cap0) := by rw [← hs5.out]; exact ca01_5
    have cx00_5 : w5.cell? ⟨w4.heap.size, 0, none⟩ = some (.int .i64 W0) := box_cell (j := 0) kx0_5 rfl
    have cx01_5 : w5.cell? ⟨w4.heap.size, 1, none⟩ = some (.slice Ax0 xs0.length capx0) := box_cell (j := 1) kx0_5 rfl
    clear hw5
    go_wp2_with fail
    rw [← hs5.out]
    clear qa00 qa01
    refine (implAreaOf _ _ _ _ _ _ hl0 (ownI_ints ox0_5)).mono ?_
    rintro e w6 ⟨rfl, k6⟩
    have K6 := K5.trans (k6.mono K5.size)
    have ka0_6 := ka0_5.trans (k6.mono ka0_5.size)
    have ca00_6 : w6.cell? ⟨W.heap.size, 0, none⟩ = some (.int .i64 W0) := by have := box_cell (j := 0) ka0_6 rfl; simpa using this
    clear ca00_5
    have ca01_6 : w6.cell? ⟨W.heap.size, 1, none⟩ = some (.slice A0 n0 cap0) := by have := box_cell (j := 1) ka0_6 rfl; simpa using this
    clear ca01_5
    have kx0_6 := kx0_5.trans (k6.mono kx0_5.size)
    have cx00_6 : w6.cell? ⟨w4.heap.size, 0, none⟩ = some (.int .i64 W0) := by have := box_cell (j := 0) kx0_6 rfl; simpa using this
    clear cx00_5
    have cx01_6 : w6.cell? ⟨w4.heap.size, 1, none⟩ = some (.slice Ax0 xs0.length capx0) := by have := box_cell (j := 1) kx0_6 rfl; simpa using this
    clear cx01_5
    have ox0_6 := ox0_5.below k6
    go_wp2_with fail
    go_region_held3 (fun ω => ω.cell? ⟨W.heap.size, 0, none⟩ = some (.int .i64 W0) ∧ ω.cell? ⟨W.heap.size, 1, none⟩ = some (.slice A0 n0 cap0) ∧ ω.cell? ⟨w4.heap.size, 0, none⟩ = some (.int .i64 W0) ∧ ω.cell? ⟨w4.heap.size, 1, none⟩ = some (.slice Ax0 xs0.length capx0)) (first | exact ⟨ca00_6, ca01_6, cx00_6, cx01_6⟩ | exact ⟨ca00_7, ca01_7, cx00_7, cx01_7⟩ | exact ⟨ca00_8, ca01_8, cx00_8, cx01_8⟩) ((first | (go_at_call 11; (with_reducible refine (toRegion_any W0 A0 n0 cap0 xs0 _ hn0 (hc0.below K6.drew)).mono ?_); rintro e w7 ⟨vy0, rfl, oy0, k7⟩; obtain ⟨Ay0, capy0, rfl, _, _⟩ := oy0.form; simp only at oy0; have K7 := K6.drew.trans (k7.mono K6.drew.size); have ka0_7 := ka0_6.drew.trans (k7.mono ka0_6.drew.size); have kx0_7 := kx0_6.drew.trans (k7.mono kx0_6.drew.size); have ca00_7 : w7.cell? ⟨W.heap.size, 0, none⟩ = some (.int .i64 W0) := (by have := box_cell (j := 0) ka0_7 rfl; simpa using this); have ca01_7 : w7.cell? ⟨W.heap.size, 1, none⟩ = some (.slice A0 n0 cap0) := (by have := box_cell (j := 1) ka0_7 rfl; simpa using this); have cx00_7 : w7.cell? ⟨w4.heap.size, 0, none⟩ = some (.int .i64 W0) := (by have := box_cell (j := 0) kx0_7 rfl; simpa using this); have cx01_7 : w7.cell? ⟨w4.heap.size, 1, none⟩ = some (.slice Ax0 xs0.length capx0) := (by have := box_cell (j := 1) kx0_7 rfl; simpa using this); have ox0_7 := (ox0_6.below (Below.refl _ _).drew).below k7) | (go_at_call 13; refine (eqRegion_any _ _ _ _ _ _ _ _ _ _ _ hl0 (ownI_ints ox0_7) (ownI_ints oy0)).mono ?_; rintro e w8 ⟨rfl, k8⟩; have K8 := K7.trans (k8.mono K7.size); have ka0_8 := ka0_7.trans (k8.mono ka0_7.size); have kx0_8 := kx0_7.trans (k8.mono kx0_7.size); have ca00_8 : w8.cell? ⟨W.heap.size, 0, none⟩ = some (.int .i64 W0) := (by have := box_cell (j := 0) ka0_8 rfl; simpa using this); have ca01_8 : w8.cell? ⟨W.heap.size, 1, none⟩ = some (.slice A0 n0 cap0) := (by have := box_cell (j := 1) ka0_8 rfl; simpa using this); have cx00_8 : w8.cell? ⟨w4.heap.size, 0, none⟩ = some (.int .i64 W0) := (by have := box_cell (j := 0) kx0_8 rfl; simpa using this); have cx01_8 : w8.cell? ⟨w4.heap.size, 1, none⟩ = some (.slice Ax0 xs0.length capx0) := (by have := box_cell (j := 1) kx0_8 rfl; simpa using this); have ox0_8 := ox0_7.below k8; have oy0_8 := oy0.below k8)))
    clear ca00_6 ca01_6 cx00_6 cx01_6
    clear ca00_7 ca01_7 cx00_7 cx01_7
    go_wp2
    go_ret
    exact ⟨rfl, K8⟩
  · have B0 : Below W.heap.size W (W.alloc (.cells #[.int .i64 W0, .slice A0 n0 cap0] 24)) := below1 _ _
    go_enter Try.func8, Try.ntmps8
    go_wp2_with fail
    refine (szRegion_big _ _ _ _ _ _ (by omega) (by omega) (by omega) (by omega)).mono ?_
    rintro e w1 ⟨rfl, k1⟩
    have L1 := B0.trans (k1.mono B0.size)
    go_wp2
    go_ret
    exact ⟨rfl, L1⟩
end Go.Proofs.Ytpbkpebpidabiaa
