/- The laws IsRegion, InRegion, EqualRegions, walked: each returns true. No condition. -/
import Derived.Test.YtpbkpebpidabiaaRegC
namespace Go.Proofs.Ytpbkpebpidabiaa
open Go.RowKit
set_option linter.unusedVariables false

set_option maxHeartbeats 2000000 in
theorem walkFnExactIsRegion (W : World) (v0 : Value) (a0 : Int × List Int) (h0 : RegArg W v0 a0) : Calls Try.prog 5 #[v0] W fun e w' => e = .returned (.bool true) ∧ Below W.heap.size W w' := by
  obtain ⟨A0, n0, cap0, rfl, hm0, hw0, hc0⟩ := h0
  obtain ⟨W0, xs0⟩ := a0
  simp only at hw0 hc0 ⊢
  unfold maxLen at hm0
  clear hw0
  by_cases hs0 : n0 ≤ 1048576
  · have hn0 : n0 ≤ 1048576 := by omega
    have hl0 : xs0.length ≤ 1048576 := by rw [hc0.1]; exact hn0
    have B0 : Below W.heap.size W (W.alloc (.cells #[.int .i64 W0, .slice A0 n0 cap0] 24)) := below1 _ _
    go_enter Try.func5, Try.ntmps5
    go_wp2_with fail
    refine (szRegion_ok _ _ _ _ _ _ (by omega) (by omega)).mono ?_
    rintro e w1 ⟨rfl, k1⟩
    have K1 := B0.trans (k1.mono B0.size)
    have ka0_1 := k1
    have ca00_1 : w1.cell? ⟨W.heap.size, 0, none⟩ = some (.int .i64 W0) := by have := box_cell (j := 0) ka0_1 rfl; simpa using this
    have ca01_1 : w1.cell? ⟨W.heap.size, 1, none⟩ = some (.slice A0 n0 cap0) := by have := box_cell (j := 1) ka0_1 rfl; simpa using this
    go_wp2_with fail
    refine (toRegion_any _ _ _ _ _ _ hn0 (hc0.below K1)).mono ?_
    rintro e w2 ⟨vs0, rfl, os0, k2⟩
    obtain ⟨As0, caps0, rfl, _, _⟩ := os0.form
    simp only at os0 ⊢
    have K2 := K1.trans (k2.mono K1.size)
    have ka0_2 := ka0_1.trans (k2.mono ka0_1.size)
    have ca00_2 : w2.cell? ⟨W.heap.size, 0, none⟩ = some (.int .i64 W0) := by have := box_cell (j := 0) ka0_2 rfl; simpa using this
    clear ca00_1
    have ca01_2 : w2.cell? ⟨W.heap.size, 1, none⟩ = some (.slice A0 n0 cap0) := by have := box_cell (j := 1) ka0_2 rfl; simpa using this
    clear ca01_1
    go_wp2_with fail
    refine (specIsRegion _ _ _ _ _ _ hl0 (ownI_ints os0)).mono ?_
    rintro e w3 ⟨rfl, k3⟩
    have K3 := K2.trans (k3.mono K2.size)
    have ka0_3 := ka0_2.trans (k3.mono ka0_2.size)
    have ca00_3 : w3.cell? ⟨W.heap.size, 0, none⟩ = some (.int .i64 W0) := by have := box_cell (j := 0) ka0_3 rfl; simpa using this
    clear ca00_2
    have ca01_3 : w3.cell? ⟨W.heap.size, 1, none⟩ = some (.slice A0 n0 cap0) := by have := box_cell (j := 1) ka0_3 rfl; simpa using this
    clear ca01_2
    have os0_3 := os0.below k3
    go_wp2_with fail
    refine (toRegion_any _ _ _ _ _ _ hn0 (hc0.below K3)).mono ?_
    rintro e w4 ⟨vx0, rfl, ox0, k4⟩
    obtain ⟨Ax0, capx0, rfl, _, _⟩ := ox0.form
    simp only at ox0 ⊢
    have K4 := K3.trans (k4.mono K3.size)
    have ka0_4 := ka0_3.trans (k4.mono ka0_3.size)
    have ca00_4 : w4.cell? ⟨W.heap.size, 0, none⟩ = some (.int .i64 W0) := by have := box_cell (j := 0) ka0_4 rfl; simpa using this
    clear ca00_3
    have ca01_4 : w4.cell? ⟨W.heap.size, 1, none⟩ = some (.slice A0 n0 cap0) := by have := box_cell (j := 1) ka0_4 rfl; simpa using this
    clear ca01_3
    obtain ⟨w5, hw5⟩ : ∃ w, w = w4.alloc (.cells #[.int .i64 W0, .slice Ax0 xs0.length capx0] 27) := ⟨_, rfl⟩
    have k5 : Below w4.heap.size w4 w5 := by rw [hw5]; exact below_alloc _ _
    have kx0_5 : Below (w4.alloc (.cells #[.int .i64 W0, .slice Ax0 xs0.length capx0] 27)).heap.size (w4.alloc (.cells #[.int .i64 W0, .slice Ax0 xs0.length capx0] 27)) w5 := by rw [hw5]; exact Below.refl _ _
    have hs5 : Hid (w5 = w4.alloc (.cells #[.int .i64 W0, .slice Ax0 xs0.length capx0] 27)) := hw5
    have K5 := K4.trans (k5.mono K4.size)
    have ka0_5 := ka0_4.trans (k5.mono ka0_4.size)
    have ca00_5 : w5.cell? ⟨W.heap.size, 0, none⟩ = some (.int .i64 W0) := by have := box_cell (j := 0) ka0_5 rfl; simpa using this
    clear ca00_4
    have ca01_5 : w5.cell? ⟨W.heap.size, 1, none⟩ = some (.slice A0 n0 cap0) := by have := box_cell (j := 1) ka0_5 rfl; simpa using this
    clear ca01_4
    have ox0_5 := ox0.below k5
    have qa00 : (w4.alloc (.cells #[.int .i64 W0, .slice Ax0 xs0.length capx0] 27)).cell? ⟨W.heap.size, 0, none⟩ = some (.int .i64 W0) := by rw [← hs5.out]; exact ca00_5
    have qa01 : (w4.alloc (.cells #[.int .i64 W0, .slice Ax0 xs0.length capx0] 27)).cell? ⟨W.heap.size, 1, none⟩ = some (.slice A0 n0 cap0) := by rw [← hs5.out]; exact ca01_5
    have cx00_5 : w5.cell? ⟨w4.heap.size, 0, none⟩ = some (.int .i64 W0) := box_cell (j := 0) kx0_5 rfl
    have cx01_5 : w5.cell? ⟨w4.heap.size, 1, none⟩ = some (.slice Ax0 xs0.length capx0) := box_cell (j := 1) kx0_5 rfl
    clear hw5
    go_wp2_with fail
    rw [← hs5.out]
    clear qa00 qa01
    refine (implIsRegion _ _ _ _ _ _ hl0 (ownI_ints ox0_5)).mono ?_
    rintro e w6 ⟨rfl, k6⟩
    have K6 := K5.trans (k6.mono K5.size)
    have ka0_6 := ka0_5.trans (k6.mono ka0_5.size)
    have ca00_6 : w6.cell? ⟨W.heap.size, 0, none⟩ = some (.int .i64 W0) := by have := box_cell (j := 0) ka0_6 rfl; simpa using this
    clear ca00_5
    have ca01_6 : w6.cell? ⟨W.heap.size, 1, none⟩ = some (.slice A0 n0 cap0) := by have := box_cell (j := 1) ka0_6 rfl; simpa using this
    clear ca01_5
    have kx0_6 := kx0_5.trans (k6.mono kx0_5.size)
    have cx00_6 : w6.cell? ⟨w4.heap.size, 0, none⟩ = some (.int .i64 W0) := by have := box_cell (j := 0) kx0_6 rfl; simpa using this
    clear cx00_5
    have cx01_6 : w6.cell? ⟨w4.heap.size, 1, none⟩ = some (.slice Ax0 xs0.length capx0) := by have := box_cell (j := 1) kx0_6 rfl; simpa using this
    clear cx01_5
    have ox0_6 := ox0_5.below k6
    go_wp2_with fail
    go_region_held3 (fun ω => ω.cell? ⟨W.heap.size, 0, none⟩ = some (.int .i64 W0) ∧ ω.cell? ⟨W.heap.size, 1, none⟩ = some (.slice A0 n0 cap0) ∧ ω.cell? ⟨w4.heap.size, 0, none⟩ = some (.int .i64 W0) ∧ ω.cell? ⟨w4.heap.size, 1, none⟩ = some (.slice Ax0 xs0.length capx0)) (first | exact ⟨ca00_6, ca01_6, cx00_6, cx01_6⟩ | exact ⟨ca00_7, ca01_7, cx00_7, cx01_7⟩ | exact ⟨ca00_8, ca01_8, cx00_8, cx01_8⟩) ((first | (go_at_call 11; (with_reducible refine (toRegion_any W0 A0 n0 cap0 xs0 _ hn0 (hc0.below K6.drew)).mono ?_); rintro e w7 ⟨vy0, rfl, oy0, k7⟩; obtain ⟨Ay0, capy0, rfl, _, _⟩ := oy0.form; simp only at oy0; have K7 := K6.drew.trans (k7.mono K6.drew.size); have ka0_7 := ka0_6.drew.trans (k7.mono ka0_6.drew.size); have kx0_7 := kx0_6.drew.trans (k7.mono kx0_6.drew.size); have ca00_7 : w7.cell? ⟨W.heap.size, 0, none⟩ = some (.int .i64 W0) := (by have := box_cell (j := 0) ka0_7 rfl; simpa using this); have ca01_7 : w7.cell? ⟨W.heap.size, 1, none⟩ = some (.slice A0 n0 cap0) := (by have := box_cell (j := 1) ka0_7 rfl; simpa using this); have cx00_7 : w7.cell? ⟨w4.heap.size, 0, none⟩ = some (.int .i64 W0) := (by have := box_cell (j := 0) kx0_7 rfl; simpa using this); have cx01_7 : w7.cell? ⟨w4.heap.size, 1, none⟩ = some (.slice Ax0 xs0.length capx0) := (by have := box_cell (j := 1) kx0_7 rfl; simpa using this); have ox0_7 := (ox0_6.below (Below.refl _ _).drew).below k7) | (go_at_call 13; refine (eqRegion_any _ _ _ _ _ _ _ _ _ _ _ hl0 (ownI_ints ox0_7) (ownI_ints oy0)).mono ?_; rintro e w8 ⟨rfl, k8⟩; have K8 := K7.trans (k8.mono K7.size); have ka0_8 := ka0_7.trans (k8.mono ka0_7.size); have kx0_8 := kx0_7.trans (k8.mono kx0_7.size); have ca00_8 : w8.cell? ⟨W.heap.size, 0, none⟩ = some (.int .i64 W0) := (by have := box_cell (j := 0) ka0_8 rfl; simpa using this); have ca01_8 : w8.cell? ⟨W.heap.size, 1, none⟩ = some (.slice A0 n0 cap0) := (by have := box_cell (j := 1) ka0_8 rfl; simpa using this); have cx00_8 : w8.cell? ⟨w4.heap.size, 0, none⟩ = some (.int .i64 W0) := (by have := box_cell (j := 0) kx0_8 rfl; simpa using this); have cx01_8 : w8.cell? ⟨w4.heap.size, 1, none⟩ = some (.slice Ax0 xs0.length capx0) := (by have := box_cell (j := 1) kx0_8 rfl; simpa using this); have ox0_8 := ox0_7.below k8; have oy0_8 := oy0.below k8)))
    clear ca00_6 ca01_6 cx00_6 cx01_6
    clear ca00_7 ca01_7 cx00_7 cx01_7
    go_wp2
    go_ret
    exact ⟨rfl, K8⟩
  · have B0 : Below W.heap.size W (W.alloc (.cells #[.int .i64 W0, .slice A0 n0 cap0] 24)) := below1 _ _
    go_enter Try.func5, Try.ntmps5
    go_wp2_with fail
    refine (szRegion_big _ _ _ _ _ _ (by omega) (by omega) (by omega) (by omega)).mono ?_
    rintro e w1 ⟨rfl, k1⟩
    have L1 := B0.trans (k1.mono B0.size)
    go_wp2
    go_ret
    exact ⟨rfl, L1⟩

set_option maxHeartbeats 2000000 in
theorem walkFnExactInRegion (W : World) (v0 : Value) (a0 : Int × List Int) (h0 : RegArg W v0 a0) (x1 : Int) (_ : (Lit.int .i64 x1).wf = true) (x2 : Int) (_ : (Lit.int .i64 x2).wf = true) : Calls Try.prog 6 #[v0, .int .i64 x1, .int .i64 x2] W fun e w' => e = .returned (.bool true) ∧ Below W.heap.size W w' := by
  obtain ⟨A0, n0, cap0, rfl, hm0, hw0, hc0⟩ := h0
  obtain ⟨W0, xs0⟩ := a0
  simp only at hw0 hc0 ⊢
  unfold maxLen at hm0
  clear hw0
  by_cases hs0 : n0 ≤ 1048576
  · have hn0 : n0 ≤ 1048576 := by omega
    have hl0 : xs0.length ≤ 1048576 := by rw [hc0.1]; exact hn0
    have B0 : Below W.heap.size W (W.alloc (.cells #[.int .i64 W0, .slice A0 n0 cap0] 24)) := below1 _ _
    go_enter Try.func6, Try.ntmps6
    go_wp2_with fail
    refine (szRegion_ok _ _ _ _ _ _ (by omega) (by omega)).mono ?_
    rintro e w1 ⟨rfl, k1⟩
    have K1 := B0.trans (k1.mono B0.size)
    have ka0_1 := k1
    have ca00_1 : w1.cell? ⟨W.heap.size, 0, none⟩ = some (.int .i64 W0) := by have := box_cell (j := 0) ka0_1 rfl; simpa using this
    have ca01_1 : w1.cell? ⟨W.heap.size, 1, none⟩ = some (.slice A0 n0 cap0) := by have := box_cell (j := 1) ka0_1 rfl; simpa using this
    go_wp2_with fail
    refine (toRegion_any _ _ _ _ _ _ hn0 (hc0.below K1)).mono ?_
    rintro e w2 ⟨vs0, rfl, os0, k2⟩
    obtain ⟨As0, caps0, rfl, _, _⟩ := os0.form
    simp only at os0 ⊢
    have K2 := K1.trans (k2.mono K1.size)
    have ka0_2 := ka0_1.trans (k2.mono ka0_1.size)
    have ca00_2 : w2.cell? ⟨W.heap.size, 0, none⟩ = some (.int .i64 W0) := by have := box_cell (j := 0) ka0_2 rfl; simpa using this
    clear ca00_1
    have ca01_2 : w2.cell? ⟨W.heap.size, 1, none⟩ = some (.slice A0 n0 cap0) := by have := box_cell (j := 1) ka0_2 rfl; simpa using this
    clear ca01_1
    go_wp2_with fail
    refine (specInRegion _ _ _ _ _ _ _ _ hl0 (ownI_ints os0)).mono ?_
    rintro e w3 ⟨rfl, k3⟩
    have K3 := K2.trans (k3.mono K2.size)
    have ka0_3 := ka0_2.trans (k3.mono ka0_2.size)
    have ca00_3 : w3.cell? ⟨W.heap.size, 0, none⟩ = some (.int .i64 W0) := by have := box_cell (j := 0) ka0_3 rfl; simpa using this
    clear ca00_2
    have ca01_3 : w3.cell? ⟨W.heap.size, 1, none⟩ = some (.slice A0 n0 cap0) := by have := box_cell (j := 1) ka0_3 rfl; simpa using this
    clear ca01_2
    have os0_3 := os0.below k3
    go_wp2_with fail
    refine (toRegion_any _ _ _ _ _ _ hn0 (hc0.below K3)).mono ?_
    rintro e w4 ⟨vx0, rfl, ox0, k4⟩
    obtain ⟨Ax0, capx0, rfl, _, _⟩ := ox0.form
    simp only at ox0 ⊢
    have K4 := K3.trans (k4.mono K3.size)
    have ka0_4 := ka0_3.trans (k4.mono ka0_3.size)
    have ca00_4 : w4.cell? ⟨W.heap.size, 0, none⟩ = some (.int .i64 W0) := by have := box_cell (j := 0) ka0_4 rfl; simpa using this
    clear ca00_3
    have ca01_4 : w4.cell? ⟨W.heap.size, 1, none⟩ = some (.slice A0 n0 cap0) := by have := box_cell (j := 1) ka0_4 rfl; simpa using this
    clear ca01_3
    obtain ⟨w5, hw5⟩ : ∃ w, w = w4.alloc (.cells #[.int .i64 W0, .slice Ax0 xs0.length capx0] 27) := ⟨_, rfl⟩
    have k5 : Below w4.heap.size w4 w5 := by rw [hw5]; exact below_alloc _ _
    have kx0_5 : Below (w4.alloc (.cells #[.int .i64 W0, .slice Ax0 xs0.length capx0] 27)).heap.size (w4.alloc (.cells #[.int .i64 W0, .slice Ax0 xs0.length capx0] 27)) w5 := by rw [hw5]; exact Below.refl _ _
    have hs5 : Hid (w5 = w4.alloc (.cells #[.int .i64 W0, .slice Ax0 xs0.length capx0] 27)) := hw5
    have K5 := K4.trans (k5.mono K4.size)
    have ka0_5 := ka0_4.trans (k5.mono ka0_4.size)
    have ca00_5 : w5.cell? ⟨W.heap.size, 0, none⟩ = some (.int .i64 W0) := by have := box_cell (j := 0) ka0_5 rfl; simpa using this
    clear ca00_4
    have ca01_5 : w5.cell? ⟨W.heap.size, 1, none⟩ = some (.slice A0 n0 cap0) := by have := box_cell (j := 1) ka0_5 rfl; simpa using this
    clear ca01_4
    have ox0_5 := ox0.below k5
    have qa00 : (w4.alloc (.cells #[.int .i64 W0, .slice Ax0 xs0.length capx0] 27)).cell? ⟨W.heap.size, 0, none⟩ = some (.int .i64 W0) := by rw [← hs5.out]; exact ca00_5
    have qa01 : (w4.alloc (.cells #[.int .i64 W0, .slice Ax0 xs0.length capx0] 27)).cell? ⟨W.heap.size, 1, none⟩ = some (.slice A0 n0 cap0) := by rw [← hs5.out]; exact ca01_5
    have cx00_5 : w5.cell? ⟨w4.heap.size, 0, none⟩ = some (.int .i64 W0) := box_cell (j := 0) kx0_5 rfl
    have cx01_5 : w5.cell? ⟨w4.heap.size, 1, none⟩ = some (.slice Ax0 xs0.length capx0) := box_cell (j := 1) kx0_5 rfl
    clear hw5
    go_wp2_with fail
    rw [← hs5.out]
    clear qa00 qa01
    refine (implInRegion _ _ _ _ _ _ _ _ hl0 (ownI_ints ox0_5)).mono ?_
    rintro e w6 ⟨rfl, k6⟩
    have K6 := K5.trans (k6.mono K5.size)
    have ka0_6 := ka0_5.trans (k6.mono ka0_5.size)
    have ca00_6 : w6.cell? ⟨W.heap.size, 0, none⟩ = some (.int .i64 W0) := by have := box_cell (j := 0) ka0_6 rfl; simpa using this
    clear ca00_5
    have ca01_6 : w6.cell? ⟨W.heap.size, 1, none⟩ = some (.slice A0 n0 cap0) := by have := box_cell (j := 1) ka0_6 rfl; simpa using this
    clear ca01_5
    have kx0_6 := kx0_5.trans (k6.mono kx0_5.size)
    have cx00_6 : w6.cell? ⟨w4.heap.size, 0, none⟩ = some (.int .i64 W0) := by have := box_cell (j := 0) kx0_6 rfl; simpa using this
    clear cx00_5
    have cx01_6 : w6.cell? ⟨w4.heap.size, 1, none⟩ = some (.slice Ax0 xs0.length capx0) := by have := box_cell (j := 1) kx0_6 rfl; simpa using this
    clear cx01_5
    have ox0_6 := ox0_5.below k6
    go_wp2_with fail
    go_region_held3 (fun ω => ω.cell? ⟨W.heap.size, 0, none⟩ = some (.int .i64 W0) ∧ ω.cell? ⟨W.heap.size, 1, none⟩ = some (.slice A0 n0 cap0) ∧ ω.cell? ⟨w4.heap.size, 0, none⟩ = some (.int .i64 W0) ∧ ω.cell? ⟨w4.heap.size, 1, none⟩ = some (.slice Ax0 xs0.length capx0)) (first | exact ⟨ca00_6, ca01_6, cx00_6, cx01_6⟩ | exact ⟨ca00_7, ca01_7, cx00_7, cx01_7⟩ | exact ⟨ca00_8, ca01_8, cx00_8, cx01_8⟩) ((first | (go_at_call 11; (with_reducible refine (toRegion_any W0 A0 n0 cap0 xs0 _ hn0 (hc0.below K6.drew)).mono ?_); rintro e w7 ⟨vy0, rfl, oy0, k7⟩; obtain ⟨Ay0, capy0, rfl, _, _⟩ := oy0.form; simp only at oy0; have K7 := K6.drew.trans (k7.mono K6.drew.size); have ka0_7 := ka0_6.drew.trans (k7.mono ka0_6.drew.size); have kx0_7 := kx0_6.drew.trans (k7.mono kx0_6.drew.size); have ca00_7 : w7.cell? ⟨W.heap.size, 0, none⟩ = some (.int .i64 W0) := (by have := box_cell (j := 0) ka0_7 rfl; simpa using this); have ca01_7 : w7.cell? ⟨W.heap.size, 1, none⟩ = some (.slice A0 n0 cap0) := (by have := box_cell (j := 1) ka0_7 rfl; simpa using this); have cx00_7 : w7.cell? ⟨w4.heap.size, 0, none⟩ = some (.int .i64 W0) := (by have := box_cell (j := 0) kx0_7 rfl; simpa using this); have cx01_7 : w7.cell? ⟨w4.heap.size, 1, none⟩ = some (.slice Ax0 xs0.length capx0) := (by have := box_cell (j := 1) kx0_7 rfl; simpa using this); have ox0_7 := (ox0_6.below (Below.refl _ _).drew).below k7) | (go_at_call 13; refine (eqRegion_any _ _ _ _ _ _ _ _ _ _ _ hl0 (ownI_ints ox0_7) (ownI_ints oy0)).mono ?_; rintro e w8 ⟨rfl, k8⟩; have K8 := K7.trans (k8.mono K7.size); have ka0_8 := ka0_7.trans (k8.mono ka0_7.size); have kx0_8 := kx0_7.trans (k8.mono kx0_7.size); have ca00_8 : w8.cell? ⟨W.heap.size, 0, none⟩ = some (.int .i64 W0) := (by have := box_cell (j := 0) ka0_8 rfl; simpa using this); have ca01_8 : w8.cell? ⟨W.heap.size, 1, none⟩ = some (.slice A0 n0 cap0) := (by have := box_cell (j := 1) ka0_8 rfl; simpa using this); have cx00_8 : w8.cell? ⟨w4.heap.size, 0, none⟩ = some (.int .i64 W0) := (by have := box_cell (j := 0) kx0_8 rfl; simpa using this); have cx01_8 : w8.cell? ⟨w4.heap.size, 1, none⟩ = some (.slice Ax0 xs0.length capx0) := (by have := box_cell (j := 1) kx0_8 rfl; simpa using this); have ox0_8 := ox0_7.below k8; have oy0_8 := oy0.below k8)))
    clear ca00_6 ca01_6 cx00_6 cx01_6
    clear ca00_7 ca01_7 cx00_7 cx01_7
    go_wp2
    go_ret
    exact ⟨rfl, K8⟩
  · have B0 : Below W.heap.size W (W.alloc (.cells #[.int .i64 W0, .slice A0 n0 cap0] 24)) := below1 _ _
    go_enter Try.func6, Try.ntmps6
    go_wp2_with fail
    refine (szRegion_big _ _ _ _ _ _ (by omega) (by omega) (by omega) (by omega)).mono ?_
    rintro e w1 ⟨rfl, k1⟩
    have L1 := B0.trans (k1.mono B0.size)
    go_wp2
    go_ret
    exact ⟨rfl, L1⟩

set_option maxHeartbeats 2000000 in
theorem walkFnExactEqualRegions (W : World) (v0 : Value) (a0 : Int × List Int) (h0 : RegArg W v0 a0) (v1 : Value) (a1 : Int × List Int) (h1 : RegArg W v1 a1) : Calls Try.prog 3 #[v0, v1] W fun e w' => e = .returned (.bool true) ∧ Below W.heap.size W w' := by
  obtain ⟨A0, n0, cap0, rfl, hm0, hw0, hc0⟩ := h0
  obtain ⟨W0, xs0⟩ := a0
  simp only at hw0 hc0 ⊢
  unfold maxLen at hm0
  clear hw0
  obtain ⟨A1, n1, cap1, rfl, hm1, hw1, hc1⟩ := h1
  obtain ⟨W1, xs1⟩ := a1
  simp only at hw1 hc1 ⊢
  unfold maxLen at hm1
  clear hw1
  by_cases hs0 : n0 ≤ 1048576
  · have hn0 : n0 ≤ 1048576 := by omega
    by_cases hs1 : n0 + n1 ≤ 1048576
    · have hn1 : n1 ≤ 1048576 := by omega
      have hl0 : xs0.length ≤ 1048576 := by rw [hc0.1]; exact hn0
      have hl1 : xs1.length ≤ 1048576 := by rw [hc1.1]; exact hn1
      have B0 : Below W.heap.size W ((W.alloc (.cells #[.int .i64 W0, .slice A0 n0 cap0] 24)).alloc (.cells #[.int .i64 W1, .slice A1 n1 cap1] 24)) := below2 _ _ _
      go_enter Try.func3, Try.ntmps3
      go_wp2_with fail
      refine (szRegion_ok _ _ _ _ _ _ (by omega) (by omega)).mono ?_
      rintro e w1 ⟨rfl, k1⟩
      have K1 := B0.trans (k1.mono B0.size)
      have ka0_1 := (below_alloc (W.alloc (.cells #[.int .i64 W0, .slice A0 n0 cap0] 24)) _).trans (k1.mono (below_alloc (W.alloc (.cells #[.int .i64 W0, .slice A0 n0 cap0] 24)) _).size)
      have ca00_1 : w1.cell? ⟨W.heap.size, 0, none⟩ = some (.int .i64 W0) := by have := box_cell (j := 0) ka0_1 rfl; simpa using this
      have ca01_1 : w1.cell? ⟨W.heap.size, 1, none⟩ = some (.slice A0 n0 cap0) := by have := box_cell (j := 1) ka0_1 rfl; simpa using this
      have ka1_1 := k1
      have ca10_1 : w1.cell? ⟨W.heap.size + 1, 0, none⟩ = some (.int .i64 W1) := by have := box_cell (j := 0) ka1_1 rfl; simpa using this
      have ca11_1 : w1.cell? ⟨W.heap.size + 1, 1, none⟩ = some (.slice A1 n1 cap1) := by have := box_cell (j := 1) ka1_1 rfl; simpa using this
      go_wp2_with fail
      refine (szRegion_ok _ _ _ _ _ _ (by omega) (by omega)).mono ?_
      rintro e w2 ⟨rfl, k2⟩
      have K2 := K1.trans (k2.mono K1.size)
      have ka0_2 := ka0_1.trans (k2.mono ka0_1.size)
      have ca00_2 : w2.cell? ⟨W.heap.size, 0, none⟩ = some (.int .i64 W0) := by have := box_cell (j := 0) ka0_2 rfl; simpa using this
      clear ca00_1
      have ca01_2 : w2.cell? ⟨W.heap.size, 1, none⟩ = some (.slice A0 n0 cap0) := by have := box_cell (j := 1) ka0_2 rfl; simpa using this
      clear ca01_1
      have ka1_2 := ka1_1.trans (k2.mono ka1_1.size)
      have ca10_2 : w2.cell? ⟨W.heap.size + 1, 0, none⟩ = some (.int .i64 W1) := by have := box_cell (j := 0) ka1_2 rfl; simpa using this
      clear ca10_1
      have ca11_2 : w2.cell? ⟨W.heap.size + 1, 1, none⟩ = some (.slice A1 n1 cap1) := by have := box_cell (j := 1) ka1_2 rfl; simpa using this
      clear ca11_1
      go_wp2_with fail
      go_region_held3 (fun ω => ω.cell? ⟨W.heap.size, 0, none⟩ = some (.int .i64 W0) ∧ ω.cell? ⟨W.heap.size, 1, none⟩ = some (.slice A0 n0 cap0) ∧ ω.cell? ⟨W.heap.size + 1, 0, none⟩ = some (.int .i64 W1) ∧ ω.cell? ⟨W.heap.size + 1, 1, none⟩ = some (.slice A1 n1 cap1)) (first | exact ⟨ca00_2, ca01_2, ca10_2, ca11_2⟩ | exact ⟨ca00_3, ca01_3, ca10_3, ca11_3⟩ | exact ⟨ca00_4, ca01_4, ca10_4, ca11_4⟩ | exact ⟨ca00_5, ca01_5, ca10_5, ca11_5⟩) ((first | (go_at_call 11; (with_reducible refine (toRegion_any W0 A0 n0 cap0 xs0 _ hn0 (hc0.below K2.drew)).mono ?_); rintro e w3 ⟨vs0, rfl, os0, k3⟩; obtain ⟨As0, caps0, rfl, _, _⟩ := os0.form; simp only at os0; have K3 := K2.drew.trans (k3.mono K2.drew.size); have ka0_3 := ka0_2.drew.trans (k3.mono ka0_2.drew.size); have ka1_3 := ka1_2.drew.trans (k3.mono ka1_2.drew.size); have ca00_3 : w3.cell? ⟨W.heap.size, 0, none⟩ = some (.int .i64 W0) := (by have := box_cell (j := 0) ka0_3 rfl; simpa using this); have ca01_3 : w3.cell? ⟨W.heap.size, 1, none⟩ = some (.slice A0 n0 cap0) := (by have := box_cell (j := 1) ka0_3 rfl; simpa using this); have ca10_3 : w3.cell? ⟨W.heap.size + 1, 0, none⟩ = some (.int .i64 W1) := (by have := box_cell (j := 0) ka1_3 rfl; simpa using this); have ca11_3 : w3.cell? ⟨W.heap.size + 1, 1, none⟩ = some (.slice A1 n1 cap1) := (by have := box_cell (j := 1) ka1_3 rfl; simpa using this)) | (go_at_call 11; (with_reducible refine (toRegion_any W1 A1 n1 cap1 xs1 _ hn1 (hc1.below K3)).mono ?_); rintro e w4 ⟨vs1, rfl, os1, k4⟩; obtain ⟨As1, caps1, rfl, _, _⟩ := os1.form; simp only at os1; have K4 := K3.trans (k4.mono K3.size); have ka0_4 := ka0_3.trans (k4.mono ka0_3.size); have ka1_4 := ka1_3.trans (k4.mono ka1_3.size); have ca00_4 : w4.cell? ⟨W.heap.size, 0, none⟩ = some (.int .i64 W0) := (by have := box_cell (j := 0) ka0_4 rfl; simpa using this); have ca01_4 : w4.cell? ⟨W.heap.size, 1, none⟩ = some (.slice A0 n0 cap0) := (by have := box_cell (j := 1) ka0_4 rfl; simpa using this); have ca10_4 : w4.cell? ⟨W.heap.size + 1, 0, none⟩ = some (.int .i64 W1) := (by have := box_cell (j := 0) ka1_4 rfl; simpa using this); have ca11_4 : w4.cell? ⟨W.heap.size + 1, 1, none⟩ = some (.slice A1 n1 cap1) := (by have := box_cell (j := 1) ka1_4 rfl; simpa using this); have os0_4 := os0.below k4) | (go_at_call 10; refine (specEqR _ _ _ _ _ _ _ _ _ _ _ hl0 hl1 (ownI_ints os0_4) (ownI_ints os1)).mono ?_; rintro e w5 ⟨rfl, k5⟩; have K5 := K4.trans (k5.mono K4.size); have ka0_5 := ka0_4.trans (k5.mono ka0_4.size); have ka1_5 := ka1_4.trans (k5.mono ka1_4.size); have ca00_5 : w5.cell? ⟨W.heap.size, 0, none⟩ = some (.int .i64 W0) := (by have := box_cell (j := 0) ka0_5 rfl; simpa using this); have ca01_5 : w5.cell? ⟨W.heap.size, 1, none⟩ = some (.slice A0 n0 cap0) := (by have := box_cell (j := 1) ka0_5 rfl; simpa using this); have ca10_5 : w5.cell? ⟨W.heap.size + 1, 0, none⟩ = some (.int .i64 W1) := (by have := box_cell (j := 0) ka1_5 rfl; simpa using this); have ca11_5 : w5.cell? ⟨W.heap.size + 1, 1, none⟩ = some (.slice A1 n1 cap1) := (by have := box_cell (j := 1) ka1_5 rfl; simpa using this); have os0_5 := os0_4.below k5; have os1_5 := os1.below k5)))
      clear ca00_2 ca01_2 ca10_2 ca11_2
      clear ca00_3 ca01_3 ca10_3 ca11_3
      clear ca00_4 ca01_4 ca10_4 ca11_4
      go_wp2_with fail
      refine (toRegion_any _ _ _ _ _ _ hn0 (hc0.below K5)).mono ?_
      rintro e w6 ⟨vx0, rfl, ox0, k6⟩
      obtain ⟨Ax0, capx0, rfl, _, _⟩ := ox0.form
      simp only at ox0 ⊢
      have K6 := K5.trans (k6.mono K5.size)
      have ka0_6 := ka0_5.trans (k6.mono ka0_5.size)
      have ca00_6 : w6.cell? ⟨W.heap.size, 0, none⟩ = some (.int .i64 W0) := by have := box_cell (j := 0) ka0_6 rfl; simpa using this
      clear ca00_5
      have ca01_6 : w6.cell? ⟨W.heap.size, 1, none⟩ = some (.slice A0 n0 cap0) := by have := box_cell (j := 1) ka0_6 rfl; simpa using this
      clear ca01_5
      have ka1_6 := ka1_5.trans (k6.mono ka1_5.size)
      have ca10_6 : w6.cell? ⟨W.heap.size + 1, 0, none⟩ = some (.int .i64 W1) := by have := box_cell (j := 0) ka1_6 rfl; simpa using this
      clear ca10_5
      have ca11_6 : w6.cell? ⟨W.heap.size + 1, 1, none⟩ = some (.slice A1 n1 cap1) := by have := box_cell (j := 1) ka1_6 rfl; simpa using this
      clear ca11_5
      obtain ⟨w7, hw7⟩ : ∃ w, w = w6.alloc (.cells #[.int .i64 W0, .slice Ax0 xs0.length capx0] 27) := ⟨_, rfl⟩
      have k7 : Below w6.heap.size w6 w7 := by rw [hw7]; exact below_alloc _ _
      have kx0_7 : Below (w6.alloc (.cells #[.int .i64 W0, .slice Ax0 xs0.length capx0] 27)).heap.size (w6.alloc (.cells #[.int .i64 W0, .slice Ax0 xs0.length capx0] 27)) w7 := by rw [hw7]; exact Below.refl _ _
      have hs7 : Hid (w7 = w6.alloc (.cells #[.int .i64 W0, .slice Ax0 xs0.length capx0] 27)) := hw7
      have K7 := K6.trans (k7.mono K6.size)
      have ka0_7 := ka0_6.trans (k7.mono ka0_6.size)
      have ca00_7 : w7.cell? ⟨W.heap.size, 0, none⟩ = some (.int .i64 W0) := by have := box_cell (j := 0) ka0_7 rfl; simpa using this
      clear ca00_6
      have ca01_7 : w7.cell? ⟨W.heap.size, 1, none⟩ = some (.slice A0 n0 cap0) := by have := box_cell (j := 1) ka0_7 rfl; simpa using this
      clear ca01_6
      have ka1_7 := ka1_6.trans (k7.mono ka1_6.size)
      have ca10_7 : w7.cell? ⟨W.heap.size + 1, 0, none⟩ = some (.int .i64 W1) := by have := box_cell (j := 0) ka1_7 rfl; simpa using this
      clear ca10_6
      have ca11_7 : w7.cell? ⟨W.heap.size + 1, 1, none⟩ = some (.slice A1 n1 cap1) := by have := box_cell (j := 1) ka1_7 rfl; simpa using this
      clear ca11_6
      have ox0_7 := ox0.below k7
      have qa00 : (w6.alloc (.cells #[.int .i64 W0, .slice Ax0 xs0.length capx0] 27)).cell? ⟨W.heap.size, 0, none⟩ = some (.int .i64 W0) := by rw [← hs7.out]; exact ca00_7
      have qa01 : (w6.alloc (.cells #[.int .i64 W0, .slice Ax0 xs0.length capx0] 27)).cell? ⟨W.heap.size, 1, none⟩ = some (.slice A0 n0 cap0) := by rw [← hs7.out]; exact ca01_7
      have qa10 : (w6.alloc (.cells #[.int .i64 W0, .slice Ax0 xs0.length capx0] 27)).cell? ⟨W.heap.size + 1, 0, none⟩ = some (.int .i64 W1) := by rw [← hs7.out]; exact ca10_7
      have qa11 : (w6.alloc (.cells #[.int .i64 W0, .slice Ax0 xs0.length capx0] 27)).cell? ⟨W.heap.size + 1, 1, none⟩ = some (.slice A1 n1 cap1) := by rw [← hs7.out]; exact ca11_7
      have cx00_7 : w7.cell? ⟨w6.heap.size, 0, none⟩ = some (.int .i64 W0) := box_cell (j := 0) kx0_7 rfl
      have cx01_7 : w7.cell? ⟨w6.heap.size, 1, none⟩ = some (.slice Ax0 xs0.length capx0) := box_cell (j := 1) kx0_7 rfl
      clear hw7
      go_wp2_with fail
      rw [← hs7.out]
      clear qa00 qa01 qa10 qa11
      refine (toRegion_any _ _ _ _ _ _ hn1 (hc1.below K7)).mono ?_
      rintro e w8 ⟨vx1, rfl, ox1, k8⟩
      obtain ⟨Ax1, capx1, rfl, _, _⟩ := ox1.form
      simp only at ox1 ⊢
      have K8 := K7.trans (k8.mono K7.size)
      have ka0_8 := ka0_7.trans (k8.mono ka0_7.size)
      have ca00_8 : w8.cell? ⟨W.heap.size, 0, none⟩ = some (.int .i64 W0) := by have := box_cell (j := 0) ka0_8 rfl; simpa using this
      clear ca00_7
      have ca01_8 : w8.cell? ⟨W.heap.size, 1, none⟩ = some (.slice A0 n0 cap0) := by have := box_cell (j := 1) ka0_8 rfl; simpa using this
      clear ca01_7
      have ka1_8 := ka1_7.trans (k8.mono ka1_7.size)
      have ca10_8 : w8.cell? ⟨W.heap.size + 1, 0, none⟩ = some (.int .i64 W1) := by have := box_cell (j := 0) ka1_8 rfl; simpa using this
      clear ca10_7
      have ca11_8 : w8.cell? ⟨W.heap.size + 1, 1, none⟩ = some (.slice A1 n1 cap1) := by have := box_cell (j := 1) ka1_8 rfl; simpa using this
      clear ca11_7
      have kx0_8 := kx0_7.trans (k8.mono kx0_7.size)
      have cx00_8 : w8.cell? ⟨w6.heap.size, 0, none⟩ = some (.int .i64 W0) := by have := box_cell (j := 0) kx0_8 rfl; simpa using this
      clear cx00_7
      have cx01_8 : w8.cell? ⟨w6.heap.size, 1, none⟩ = some (.slice Ax0 xs0.length capx0) := by have := box_cell (j := 1) kx0_8 rfl; simpa using this
      clear cx01_7
      have ox0_8 := ox0_7.below k8
      obtain ⟨w9, hw9⟩ : ∃ w, w = w8.alloc (.cells #[.int .i64 W1, .slice Ax1 xs1.length capx1] 27) := ⟨_, rfl⟩
      have k9 : Below w8.heap.size w8 w9 := by rw [hw9]; exact below_alloc _ _
      have kx1_9 : Below (w8.alloc (.cells #[.int .i64 W1, .slice Ax1 xs1.length capx1] 27)).heap.size (w8.alloc (.cells #[.int .i64 W1, .slice Ax1 xs1.length capx1] 27)) w9 := by rw [hw9]; exact Below.refl _ _
      have hs9 : Hid (w9 = w8.alloc (.cells #[.int .i64 W1, .slice Ax1 xs1.length capx1] 27)) := hw9
      have K9 := K8.trans (k9.mono K8.size)
      have ka0_9 := ka0_8.trans (k9.mono ka0_8.size)
      have ca00_9 : w9.cell? ⟨W.heap.size, 0, none⟩ = some (.int .i64 W0) := by have := box_cell (j := 0) ka0_9 rfl; simpa using this
      clear ca00_8
      have ca01_9 : w9.cell? ⟨W.heap.size, 1, none⟩ = some (.slice A0 n0 cap0) := by have := box_cell (j := 1) ka0_9 rfl; simpa using this
      clear ca01_8
      have ka1_9 := ka1_8.trans (k9.mono ka1_8.size)
      have ca10_9 : w9.cell? ⟨W.heap.size + 1, 0, none⟩ = some (.int .i64 W1) := by have := box_cell (j := 0) ka1_9 rfl; simpa using this
      clear ca10_8
      have ca11_9 : w9.cell? ⟨W.heap.size + 1, 1, none⟩ = some (.slice A1 n1 cap1) := by have := box_cell (j := 1) ka1_9 rfl; simpa using this
      clear ca11_8
      have kx0_9 := kx0_8.trans (k9.mono kx0_8.size)
      have cx00_9 : w9.cell? ⟨w6.heap.size, 0, none⟩ = some (.int .i64 W0) := by have := box_cell (j := 0) kx0_9 rfl; simpa using this
      clear cx00_8
      have cx01_9 : w9.cell? ⟨w6.heap.size, 1, none⟩ = some (.slice Ax0 xs0.length capx0) := by have := box_cell (j := 1) kx0_9 rfl; simpa using this
      clear cx01_8
      have ox0_9 := ox0_8.below k9
      have ox1_9 := ox1.below k9
      have qa00 : (w8.alloc (.cells #[.int .i64 W1, .slice Ax1 xs1.length capx1] 27)).cell? ⟨W.heap.size, 0, none⟩ = some (.int .i64 W0) := by rw [← hs9.out]; exact ca00_9
      have qa01 : (w8.alloc (.cells #[.int .i64 W1, .slice Ax1 xs1.length capx1] 27)).cell? ⟨W.heap.size, 1, none⟩ = some (.slice A0 n0 cap0) := by rw [← hs9.out]; exact ca01_9
      have qa10 : (w8.alloc (.cells #[.int .i64 W1, .slice Ax1 xs1.length capx1] 27)).cell? ⟨W.heap.size + 1, 0, none⟩ = some (.int .i64 W1) := by rw [← hs9.out]; exact ca10_9
      have qa11 : (w8.alloc (.cells #[.int .i64 W1, .slice Ax1 xs1.length capx1] 27)).cell? ⟨W.heap.size + 1, 1, none⟩ = some (.slice A1 n1 cap1) := by rw [← hs9.out]; exact ca11_9
      have qx00 : (w8.alloc (.cells #[.int .i64 W1, .slice Ax1 xs1.length capx1] 27)).cell? ⟨w6.heap.size, 0, none⟩ = some (.int .i64 W0) := by rw [← hs9.out]; exact cx00_9
      have qx01 : (w8.alloc (.cells #[.int .i64 W1, .slice Ax1 xs1.length capx1] 27)).cell? ⟨w6.heap.size, 1, none⟩ = some (.slice Ax0 xs0.length capx0) := by rw [← hs9.out]; exact cx01_9
      have cx10_9 : w9.cell? ⟨w8.heap.size, 0, none⟩ = some (.int .i64 W1) := box_cell (j := 0) kx1_9 rfl
      have cx11_9 : w9.cell? ⟨w8.heap.size, 1, none⟩ = some (.slice Ax1 xs1.length capx1) := box_cell (j := 1) kx1_9 rfl
      clear hw9
      go_wp2_with fail
      rw [← hs9.out]
      clear qa00 qa01 qa10 qa11 qx00 qx01
      refine (implEqR _ _ _ _ _ _ _ _ _ _ _ hl0 hl1 (ownI_ints ox0_9) (ownI_ints ox1_9)).mono ?_
      rintro e w10 ⟨rfl, k10⟩
      have K10 := K9.trans (k10.mono K9.size)
      have ka0_10 := ka0_9.trans (k10.mono ka0_9.size)
      have ca00_10 : w10.cell? ⟨W.heap.size, 0, none⟩ = some (.int .i64 W0) := by have := box_cell (j := 0) ka0_10 rfl; simpa using this
      clear ca00_9
      have ca01_10 : w10.cell? ⟨W.heap.size, 1, none⟩ = some (.slice A0 n0 cap0) := by have := box_cell (j := 1) ka0_10 rfl; simpa using this
      clear ca01_9
      have ka1_10 := ka1_9.trans (k10.mono ka1_9.size)
      have ca10_10 : w10.cell? ⟨W.heap.size + 1, 0, none⟩ = some (.int .i64 W1) := by have := box_cell (j := 0) ka1_10 rfl; simpa using this
      clear ca10_9
      have ca11_10 : w10.cell? ⟨W.heap.size + 1, 1, none⟩ = some (.slice A1 n1 cap1) := by have := box_cell (j := 1) ka1_10 rfl; simpa using this
      clear ca11_9
      have kx0_10 := kx0_9.trans (k10.mono kx0_9.size)
      have cx00_10 : w10.cell? ⟨w6.heap.size, 0, none⟩ = some (.int .i64 W0) := by have := box_cell (j := 0) kx0_10 rfl; simpa using this
      clear cx00_9
      have cx01_10 : w10.cell? ⟨w6.heap.size, 1, none⟩ = some (.slice Ax0 xs0.length capx0) := by have := box_cell (j := 1) kx0_10 rfl; simpa using this
      clear cx01_9
      have kx1_10 := kx1_9.trans (k10.mono kx1_9.size)
      have cx10_10 : w10.cell? ⟨w8.heap.size, 0, none⟩ = some (.int .i64 W1) := by have := box_cell (j := 0) kx1_10 rfl; simpa using this
      clear cx10_9
      have cx11_10 : w10.cell? ⟨w8.heap.size, 1, none⟩ = some (.slice Ax1 xs1.length capx1) := by have := box_cell (j := 1) kx1_10 rfl; simpa using this
      clear cx11_9
      have ox0_10 := ox0_9.below k10
      have ox1_10 := ox1_9.below k10
      go_wp2_with fail
      go_region_held3 (fun ω => ω.cell? ⟨W.heap.size, 0, none⟩ = some (.int .i64 W0) ∧ ω.cell? ⟨W.heap.size, 1, none⟩ = some (.slice A0 n0 cap0) ∧ ω.cell? ⟨W.heap.size + 1, 0, none⟩ = some (.int .i64 W1) ∧ ω.cell? ⟨W.heap.size + 1, 1, none⟩ = some (.slice A1 n1 cap1) ∧ ω.cell? ⟨w6.heap.size, 0, none⟩ = some (.int .i64 W0) ∧ ω.cell? ⟨w6.heap.size, 1, none⟩ = some (.slice Ax0 xs0.length capx0) ∧ ω.cell? ⟨w8.heap.size, 0, none⟩ = some (.int .i64 W1) ∧ ω.cell? ⟨w8.heap.size, 1, none⟩ = some (.slice Ax1 xs1.length capx1)) (first | exact ⟨ca00_10, ca01_10, ca10_10, ca11_10, cx00_10, cx01_10, cx10_10, cx11_10⟩ | exact ⟨ca00_11, ca01_11, ca10_11, ca11_11, cx00_11, cx01_11, cx10_11, cx11_11⟩ | exact ⟨ca00_12, ca01_12, ca10_12, ca11_12, cx00_12, cx01_12, cx10_12, cx11_12⟩) ((first | (go_at_call 11; (with_reducible refine (toRegion_any W0 A0 n0 cap0 xs0 _ hn0 (hc0.below K10.drew)).mono ?_); rintro e w11 ⟨vy0, rfl, oy0, k11⟩; obtain ⟨Ay0, capy0, rfl, _, _⟩ := oy0.form; simp only at oy0; have K11 := K10.drew.trans (k11.mono K10.drew.size); have ka0_11 := ka0_10.drew.trans (k11.mono ka0_10.drew.size); have ka1_11 := ka1_10.drew.trans (k11.mono ka1_10.drew.size); have kx0_11 := kx0_10.drew.trans (k11.mono kx0_10.drew.size); have kx1_11 := kx1_10.drew.trans (k11.mono kx1_10.drew.size); have ca00_11 : w11.cell? ⟨W.heap.size, 0, none⟩ = some (.int .i64 W0) := (by have := box_cell (j := 0) ka0_11 rfl; simpa using this); have ca01_11 : w11.cell? ⟨W.heap.size, 1, none⟩ = some (.slice A0 n0 cap0) := (by have := box_cell (j := 1) ka0_11 rfl; simpa using this); have ca10_11 : w11.cell? ⟨W.heap.size + 1, 0, none⟩ = some (.int .i64 W1) := (by have := box_cell (j := 0) ka1_11 rfl; simpa using this); have ca11_11 : w11.cell? ⟨W.heap.size + 1, 1, none⟩ = some (.slice A1 n1 cap1) := (by have := box_cell (j := 1) ka1_11 rfl; simpa using this); have cx00_11 : w11.cell? ⟨w6.heap.size, 0, none⟩ = some (.int .i64 W0) := (by have := box_cell (j := 0) kx0_11 rfl; simpa using this); have cx01_11 : w11.cell? ⟨w6.heap.size, 1, none⟩ = some (.slice Ax0 xs0.length capx0) := (by have := box_cell (j := 1) kx0_11 rfl; simpa using this); have cx10_11 : w11.cell? ⟨w8.heap.size, 0, none⟩ = some (.int .i64 W1) := (by have := box_cell (j := 0) kx1_11 rfl; simpa using this); have cx11_11 : w11.cell? ⟨w8.heap.size, 1, none⟩ = some (.slice Ax1 xs1.length capx1) := (by have := box_cell (j := 1) kx1_11 rfl; simpa using this); have ox0_11 := (ox0_10.below (Below.refl _ _).drew).below k11; have ox1_11 := (ox1_10.below (Below.refl _ _).drew).below k11) | (go_at_call 13; refine (eqRegion_any _ _ _ _ _ _ _ _ _ _ _ hl0 (ownI_ints ox0_11) (ownI_ints oy0)).mono ?_; rintro e w12 ⟨rfl, k12⟩; have K12 := K11.trans (k12.mono K11.size); have ka0_12 := ka0_11.trans (k12.mono ka0_11.size); have ka1_12 := ka1_11.trans (k12.mono ka1_11.size); have kx0_12 := kx0_11.trans (k12.mono kx0_11.size); have kx1_12 := kx1_11.trans (k12.mono kx1_11.size); have ca00_12 : w12.cell? ⟨W.heap.size, 0, none⟩ = some (.int .i64 W0) := (by have := box_cell (j := 0) ka0_12 rfl; simpa using this); have ca01_12 : w12.cell? ⟨W.heap.size, 1, none⟩ = some (.slice A0 n0 cap0) := (by have := box_cell (j := 1) ka0_12 rfl; simpa using this); have ca10_12 : w12.cell? ⟨W.heap.size + 1, 0, none⟩ = some (.int .i64 W1) := (by have := box_cell (j := 0) ka1_12 rfl; simpa using this); have ca11_12 : w12.cell? ⟨W.heap.size + 1, 1, none⟩ = some (.slice A1 n1 cap1) := (by have := box_cell (j := 1) ka1_12 rfl; simpa using this); have cx00_12 : w12.cell? ⟨w6.heap.size, 0, none⟩ = some (.int .i64 W0) := (by have := box_cell (j := 0) kx0_12 rfl; simpa using this); have cx01_12 : w12.cell? ⟨w6.heap.size, 1, none⟩ = some (.slice Ax0 xs0.length capx0) := (by have := box_cell (j := 1) kx0_12 rfl; simpa using this); have cx10_12 : w12.cell? ⟨w8.heap.size, 0, none⟩ = some (.int .i64 W1) := (by have := box_cell (j := 0) kx1_12 rfl; simpa using this); have cx11_12 : w12.cell? ⟨w8.heap.size, 1, none⟩ = some (.slice Ax1 xs1.length capx1) := (by have := box_cell (j := 1) kx1_12 rfl; simpa using this); have ox0_12 := ox0_11.below k12; have ox1_12 := ox1_11.below k12; have oy0_12 := oy0.below k12)))
      clear ca00_10 ca01_10 ca10_10 ca11_10 cx00_10 cx01_10 cx10_10 cx11_10
      clear ca00_11 ca01_11 ca10_11 ca11_11 cx00_11 cx01_11 cx10_11 cx11_11
      go_wp2_with fail
      go_region_held3 (fun ω => ω.cell? ⟨W.heap.size, 0, none⟩ = some (.int .i64 W0) ∧ ω.cell? ⟨W.heap.size, 1, none⟩ = some (.slice A0 n0 cap0) ∧ ω.cell? ⟨W.heap.size + 1, 0, none⟩ = some (.int .i64 W1) ∧ ω.cell? ⟨W.heap.size + 1, 1, none⟩ = some (.slice A1 n1 cap1) ∧ ω.cell? ⟨w6.heap.size, 0, none⟩ = some (.int .i64 W0) ∧ ω.cell? ⟨w6.heap.size, 1, none⟩ = some (.slice Ax0 xs0.length capx0) ∧ ω.cell? ⟨w8.heap.size, 0, none⟩ = some (.int .i64 W1) ∧ ω.cell? ⟨w8.heap.size, 1, none⟩ = some (.slice Ax1 xs1.length capx1)) (first | exact ⟨ca00_12, ca01_12, ca10_12, ca11_12, cx00_12, cx01_12, cx10_12, cx11_12⟩ | exact ⟨ca00_13, ca01_13, ca10_13, ca11_13, cx00_13, cx01_13, cx10_13, cx11_13⟩ | exact ⟨ca00_14, ca01_14, ca10_14, ca11_14, cx00_14, cx01_14, cx10_14, cx11_14⟩) ((first | (go_at_call 11; (with_reducible refine (toRegion_any W1 A1 n1 cap1 xs1 _ hn1 (hc1.below K12.drew)).mono ?_); rintro e w13 ⟨vy1, rfl, oy1, k13⟩; obtain ⟨Ay1, capy1, rfl, _, _⟩ := oy1.form; simp only at oy1; have K13 := K12.drew.trans (k13.mono K12.drew.size); have ka0_13 := ka0_12.drew.trans (k13.mono ka0_12.drew.size); have ka1_13 := ka1_12.drew.trans (k13.mono ka1_12.drew.size); have kx0_13 := kx0_12.drew.trans (k13.mono kx0_12.drew.size); have kx1_13 := kx1_12.drew.trans (k13.mono kx1_12.drew.size); have ca00_13 : w13.cell? ⟨W.heap.size, 0, none⟩ = some (.int .i64 W0) := (by have := box_cell (j := 0) ka0_13 rfl; simpa using this); have ca01_13 : w13.cell? ⟨W.heap.size, 1, none⟩ = some (.slice A0 n0 cap0) := (by have := box_cell (j := 1) ka0_13 rfl; simpa using this); have ca10_13 : w13.cell? ⟨W.heap.size + 1, 0, none⟩ = some (.int .i64 W1) := (by have := box_cell (j := 0) ka1_13 rfl; simpa using this); have ca11_13 : w13.cell? ⟨W.heap.size + 1, 1, none⟩ = some (.slice A1 n1 cap1) := (by have := box_cell (j := 1) ka1_13 rfl; simpa using this); have cx00_13 : w13.cell? ⟨w6.heap.size, 0, none⟩ = some (.int .i64 W0) := (by have := box_cell (j := 0) kx0_13 rfl; simpa using this); have cx01_13 : w13.cell? ⟨w6.heap.size, 1, none⟩ = some (.slice Ax0 xs0.length capx0) := (by have := box_cell (j := 1) kx0_13 rfl; simpa using this); have cx10_13 : w13.cell? ⟨w8.heap.size, 0, none⟩ = some (.int .i64 W1) := (by have := box_cell (j := 0) kx1_13 rfl; simpa using this); have cx11_13 : w13.cell? ⟨w8.heap.size, 1, none⟩ = some (.slice Ax1 xs1.length capx1) := (by have := box_cell (j := 1) kx1_13 rfl; simpa using this); have ox0_13 := (ox0_12.below (Below.refl _ _).drew).below k13; have ox1_13 := (ox1_12.below (Below.refl _ _).drew).below k13) | (go_at_call 13; refine (eqRegion_any _ _ _ _ _ _ _ _ _ _ _ hl1 (ownI_ints ox1_13) (ownI_ints oy1)).mono ?_; rintro e w14 ⟨rfl, k14⟩; have K14 := K13.trans (k14.mono K13.size); have ka0_14 := ka0_13.trans (k14.mono ka0_13.size); have ka1_14 := ka1_13.trans (k14.mono ka1_13.size); have kx0_14 := kx0_13.trans (k14.mono kx0_13.size); have kx1_14 := kx1_13.trans (k14.mono kx1_13.size); have ca00_14 : w14.cell? ⟨W.heap.size, 0, none⟩ = some (.int .i64 W0) := (by have := box_cell (j := 0) ka0_14 rfl; simpa using this); have ca01_14 : w14.cell? ⟨W.heap.size, 1, none⟩ = some (.slice A0 n0 cap0) := (by have := box_cell (j := 1) ka0_14 rfl; simpa using this); have ca10_14 : w14.cell? ⟨W.heap.size + 1, 0, none⟩ = some (.int .i64 W1) := (by have := box_cell (j := 0) ka1_14 rfl; simpa using this); have ca11_14 : w14.cell? ⟨W.heap.size + 1, 1, none⟩ = some (.slice A1 n1 cap1) := (by have := box_cell (j := 1) ka1_14 rfl; simpa using this); have cx00_14 : w14.cell? ⟨w6.heap.size, 0, none⟩ = some (.int .i64 W0) := (by have := box_cell (j := 0) kx0_14 rfl; simpa using this); have cx01_14 : w14.cell? ⟨w6.heap.size, 1, none⟩ = some (.slice Ax0 xs0.length capx0) := (by have := box_cell (j := 1) kx0_14 rfl; simpa using this); have cx10_14 : w14.cell? ⟨w8.heap.size, 0, none⟩ = some (.int .i64 W1) := (by have := box_cell (j := 0) kx1_14 rfl; simpa using this); have cx11_14 : w14.cell? ⟨w8.heap.size, 1, none⟩ = some (.slice Ax1 xs1.length capx1) := (by have := box_cell (j := 1) kx1_14 rfl; simpa using this); have ox0_14 := ox0_13.below k14; have ox1_14 := ox1_13.below k14; have oy1_14 := oy1.below k14)))
      clear ca00_12 ca01_12 ca10_12 ca11_12 cx00_12 cx01_12 cx10_12 cx11_12
      clear ca00_13 ca01_13 ca10_13 ca11_13 cx00_13 cx01_13 cx10_13 cx11_13
      go_wp2
      go_ret
      exact ⟨rfl, K14⟩
    · have B0 : Below W.heap.size W ((W.alloc (.cells #[.int .i64 W0, .slice A0 n0 cap0] 24)).alloc (.cells #[.int .i64 W1, .slice A1 n1 cap1] 24)) := below2 _ _ _
      go_enter Try.func3, Try.ntmps3
      go_wp2_with fail
      refine (szRegion_ok _ _ _ _ _ _ (by omega) (by omega)).mono ?_
      rintro e w1 ⟨rfl, k1⟩
      have L1 := B0.trans (k1.mono B0.size)
      have c0 : w1.cell? ⟨W.heap.size + 1, 0, none⟩ = some (.int .i64 W1) := by have := box_cell (w := W.alloc (.cells #[.int .i64 W0, .slice A0 n0 cap0] 24)) (j := 0) k1 rfl; simpa using this
      have c1 : w1.cell? ⟨W.heap.size + 1, 1, none⟩ = some (.slice A1 n1 cap1) := by have := box_cell (w := W.alloc (.cells #[.int .i64 W0, .slice A0 n0 cap0] 24)) (j := 1) k1 rfl; simpa using this
      go_wp2_with fail
      refine (szRegion_big _ _ _ _ _ _ (by omega) (by omega) (by omega) (by omega)).mono ?_
      rintro e w2 ⟨rfl, k2⟩
      have L2 := L1.trans (k2.mono L1.size)
      go_wp2
      go_ret
      exact ⟨rfl, L2⟩
  · have B0 : Below W.heap.size W ((W.alloc (.cells #[.int .i64 W0, .slice A0 n0 cap0] 24)).alloc (.cells #[.int .i64 W1, .slice A1 n1 cap1] 24)) := below2 _ _ _
    go_enter Try.func3, Try.ntmps3
    go_wp2_with fail
    refine (szRegion_big _ _ _ _ _ _ (by omega) (by omega) (by omega) (by omega)).mono ?_
    rintro e w1 ⟨rfl, k1⟩
    have L1 := B0.trans (k1.mono B0.size)
    go_wp2
    go_ret
    exact ⟨rfl, L1⟩
end Go.Proofs.Ytpbkpebpidabiaa
