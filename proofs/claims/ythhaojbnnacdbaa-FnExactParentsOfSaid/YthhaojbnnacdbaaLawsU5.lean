/- The laws ParentsOf, walked: each returns true. No condition. -/
import Derived.Test.YthhaojbnnacdbaaParS
import Derived.Test.YthhaojbnnacdbaaLawC
import Derived.Test.YthhaojbnnacdbaaMark
import Derived.Test.YthhaojbnnacdbaaLists
import Derived.Test.YthhaojbnnacdbaaArgs
import Derived.Test.YthhaojbnnacdbaaSortS
namespace Go.Proofs.Ythhaojbnnacdbaa
open Go.RowKit
set_option linter.unusedVariables false

set_option maxHeartbeats 2000000 in
theorem walkFnExactParentsOf (W : World) (v0 : Value) (a0 : List C) (h0 : CellsArg W v0 a0) : Calls Try.prog 9 #[v0] W fun e w' => e = .returned (.bool true) ∧ Below W.heap.size W w' := by
  obtain ⟨A0, n0, cap0, rfl, hm0, hc0⟩ := h0
  unfold maxLen at hm0
  by_cases hs0 : n0 ≤ 1048576
  · have hl0 : a0.length ≤ 1048576 := by rw [hc0.1]; exact hs0
    obtain ⟨hr1, hr2⟩ := parL_nice a0
    have hsh : shortS (parL a0) := fun cs hcs => Nat.le_trans (totS_mem hcs) hr2
    go_enter Try.func9, Try.ntmps9
    go_wp2_with fail
    refine (szCellS_ok _ _ _ _ _ (by omega) (by omega)).mono ?_
    rintro e w ⟨rfl, rfl⟩
    go_wp2_with fail
    refine (toCellS_any _ _ _ _ _ hs0 hc0).mono ?_
    rintro e w1 ⟨vs, rfl, os, k1⟩
    obtain ⟨As, caps, rfl, _, _⟩ := os.form
    go_wp2_with fail
    refine (specParents _ _ _ _ _ hl0 (own_cells os) (own_cap os).1).mono ?_
    rintro e w2 ⟨Aw, capw, rfl, ⟨rs, _, _⟩, k2⟩
    have K2 := k1.trans (k2.mono k1.size)
    go_wp2_with fail
    refine (toCellS_any _ _ _ _ _ hs0 (hc0.below K2)).mono ?_
    rintro e w3 ⟨vx, rfl, ox, k3⟩
    obtain ⟨Ax, capx, rfl, _, _⟩ := ox.form
    have Z3 := k3
    go_wp2_with fail
    refine (implParents _ _ _ _ _ hl0 (own_cells ox) (own_cap ox).1).mono ?_
    rintro e w4 ⟨vg, vsg, rfl, og, k4⟩
    obtain ⟨Ag, capg, rfl, _, _⟩ := og.form
    have Z4 := Z3.trans (k4.mono Z3.size)
    have ox4 := ox.below k4
    go_wp2_with fail
    refine (eqCellSS_any _ _ _ _ _ _ _ _ _ hr1 hsh (ownV_shapes og) (rs.below Z4)).mono ?_
    rintro e w5 ⟨rfl, k5⟩
    have Z5 := Z4.trans (k5.mono Z4.size)
    have og5 := og.below k5
    have ox5 := ox4.below k5
    go_wp2_with fail
    refine (toCellS_any _ _ _ _ _ hs0 (hc0.below (K2.trans (Z5.mono K2.size)))).mono ?_
    rintro e w6 ⟨vy, rfl, oy, k6⟩
    obtain ⟨Ay, capy, rfl, _, _⟩ := oy.form
    have Z6 := Z5.trans (k6.mono Z5.size)
    have og6 := og5.below k6
    have ox6 := ox5.below k6
    go_wp2_with fail
    refine (eqCellS_any _ _ _ _ _ _ _ _ _ hl0 (own_cells ox6) (own_cells oy)).mono ?_
    rintro e w7 ⟨rfl, k7⟩
    have Z7 := Z6.trans (k7.mono Z6.size)
    have og7 := og6.below k7
    have ox7 := ox6.below k7
    go_wp2_with fail
    refine (markCellS_any _ _ _ _ _ hl0 ⟨by omega, by omega⟩ ox7).mono ?_
    rintro e w8 ⟨rfl, mx, g8⟩
    have Z8 := below_grown Z7 ox7 g8 Z7.size (Nat.le_refl _)
    have og8 := og7.kept_far g8 (fun k hk => Or.inl (ox.lt k hk).2)
    have hps8 : (0 : Int) ≤ 1 + 2 * (a0.length : Int) := by omega
    go_wp2_with fail
    refine (eqCellSS_any _ _ _ _ _ _ _ _ _ hr1 hsh (ownV_shapes og8) (rs.below Z8)).mono ?_
    rintro e w9 ⟨rfl, k9⟩
    have Z9 := Z8.trans (k9.mono Z8.size)
    have og9 := og8.below k9
    have szg : w3.heap.size ≤ w9.heap.size := by have := k4.size; have := k5.size; have := k6.size; have := k7.size; have := g8.size; have := k9.size; omega
    go_wp2_with fail
    refine (markCellSS_any _ _ _ _ _ _ hr2 hr1 ⟨by omega, by omega⟩ szg og9).mono ?_
    rintro e w10 ⟨rfl, og10, b10⟩
    have Z10 := Z9.trans (b10.mono k3.size)
    have hpt : (0 : Int) ≤ 1 + 2 * (totS (parL a0) : Int) := by omega
    go_wp2_with fail
    refine (heldCellSS_any _ _ _ (parL a0) _ _ rfl hr2 hr1 ⟨by omega, by omega⟩ (by have t := ownV_shapes og10; first | exact t | (rw [marksS_length] at t; exact t))).mono ?_
    rintro e w11 ⟨rfl, rfl⟩
    go_wp2_with fail
    refine (toCellS_any _ _ _ _ _ hs0 (hc0.below (K2.trans (Z10.mono K2.size)))).mono ?_
    rintro e w11 ⟨vz, rfl, oz, k11⟩
    obtain ⟨Az, capz, rfl, _, _⟩ := oz.form
    have Z11 := Z10.trans (k11.mono Z10.size)
    have og11 := og10.below k11
    go_wp2_with fail
    refine (implParents _ _ _ _ _ hl0 (own_cells oz) (own_cap oz).1).mono ?_
    rintro e w12 ⟨vh, vsh, rfl, oh, k12⟩
    obtain ⟨Ah, caph, rfl, _, _⟩ := oh.form
    have Z12 := Z11.trans (k12.mono Z11.size)
    have og12 := og11.below k12
    go_wp2_with fail
    refine (eqCellSS_any _ _ _ _ _ _ _ _ _ hr1 hsh (ownV_shapes oh) (rs.below Z12)).mono ?_
    rintro e w13 ⟨rfl, k13⟩
    have Z13 := Z12.trans (k13.mono Z12.size)
    have og13 := og12.below k13
    go_wp2_with fail
    refine (heldCellSS_any _ _ _ (parL a0) _ _ rfl hr2 hr1 ⟨by omega, by omega⟩ (by have t := ownV_shapes og13; first | exact t | (rw [marksS_length] at t; exact t))).mono ?_
    rintro e w14 ⟨rfl, rfl⟩
    go_wp2
    go_ret
    exact ⟨rfl, K2.trans (Z13.mono K2.size)⟩
  · go_enter Try.func9, Try.ntmps9
    go_wp2_with fail
    refine (szCellS_big _ _ _ _ _ (by omega) (by omega) (by omega) (by omega)).mono ?_
    rintro e w ⟨rfl, rfl⟩
    go_wp2
    go_ret
    exact ⟨rfl, Below.refl _ _⟩
end Go.Proofs.Ythhaojbnnacdbaa
