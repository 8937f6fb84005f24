/- The laws FreeShapes, OneSidedShapes, walked: each returns true. No condition. -/
import Derived.Test.YthhaojbnnacdbaaFirstS
import Derived.Test.YthhaojbnnacdbaaLawC
import Derived.Test.YthhaojbnnacdbaaMark
import Derived.Test.YthhaojbnnacdbaaLists
import Derived.Test.YthhaojbnnacdbaaArgs
namespace Go.Proofs.Ythhaojbnnacdbaa
open Go.RowKit
set_option linter.unusedVariables false

set_option maxHeartbeats 2000000 in
theorem walkFnExactFreeShapes (W : World) (x0 : Int) (h0 : (Lit.int .i64 x0).wf = true) : Calls Try.prog 12 #[.int .i64 x0] W fun e w' => e = .returned (.bool true) ∧ Below W.heap.size W w' := by
  obtain ⟨hr1, hr2⟩ := freeL_nice x0
  have hsh : shortS (freeL x0) := fun cs hcs => Nat.le_trans (totS_mem hcs) hr2
  go_enter Try.func12, Try.ntmps12
  go_wp2_with fail
  refine (specFree _ _ h0).mono ?_
  rintro e w2 ⟨Aw, capw, rfl, ⟨rs, _, _⟩, k2⟩
  have K2 := k2
  have Z3 := Below.refl w2.heap.size w2
  go_wp2_with fail
  refine (implFree _ _ h0).mono ?_
  rintro e w4 ⟨vg, vsg, rfl, og, k4⟩
  obtain ⟨Ag, capg, rfl, _, _⟩ := og.form
  have Z4 := Z3.trans (k4.mono Z3.size)
  go_wp2_with fail
  refine (eqCellSS_any _ _ _ _ _ _ _ _ _ hr1 hsh (ownV_shapes og) (rs.below Z4)).mono ?_
  rintro e w5 ⟨rfl, k5⟩
  have Z5 := Z4.trans (k5.mono Z4.size)
  have og5 := og.below k5
  have szg : w2.heap.size ≤ w5.heap.size := by have := k4.size; have := k5.size; omega
  go_wp2_with fail
  refine (markCellSS_any _ _ _ _ _ _ hr2 hr1 ⟨by omega, by omega⟩ szg og5).mono ?_
  rintro e w6 ⟨rfl, og6, b6⟩
  have Z6 := Z5.trans (b6.mono (Nat.le_refl _))
  have hpt : (0 : Int) ≤ 1 + 2 * (totS (freeL x0) : Int) := by omega
  go_wp2_with fail
  refine (heldCellSS_any _ _ _ (freeL x0) _ _ rfl hr2 hr1 ⟨by omega, by omega⟩ (by have t := ownV_shapes og6; first | exact t | (rw [marksS_length] at t; exact t))).mono ?_
  rintro e w7 ⟨rfl, rfl⟩
  go_wp2_with fail
  refine (implFree _ _ h0).mono ?_
  rintro e w7 ⟨vh, vsh, rfl, oh, k7⟩
  obtain ⟨Ah, caph, rfl, _, _⟩ := oh.form
  have Z7 := Z6.trans (k7.mono Z6.size)
  have og7 := og6.below k7
  go_wp2_with fail
  refine (eqCellSS_any _ _ _ _ _ _ _ _ _ hr1 hsh (ownV_shapes oh) (rs.below Z7)).mono ?_
  rintro e w8 ⟨rfl, k8⟩
  have Z8 := Z7.trans (k8.mono Z7.size)
  have og8 := og7.below k8
  go_wp2_with fail
  refine (heldCellSS_any _ _ _ (freeL x0) _ _ rfl hr2 hr1 ⟨by omega, by omega⟩ (by have t := ownV_shapes og8; first | exact t | (rw [marksS_length] at t; exact t))).mono ?_
  rintro e w9 ⟨rfl, rfl⟩
  go_wp2
  go_ret
  exact ⟨rfl, K2.trans (Z8.mono K2.size)⟩

set_option maxHeartbeats 2000000 in
theorem walkFnExactOneSidedShapes (W : World) (x0 : Int) (h0 : (Lit.int .i64 x0).wf = true) : Calls Try.prog 13 #[.int .i64 x0] W fun e w' => e = .returned (.bool true) ∧ Below W.heap.size W w' := by
  obtain ⟨hr1, hr2⟩ := oneL_nice x0
  have hsh : shortS (oneL x0) := fun cs hcs => Nat.le_trans (totS_mem hcs) hr2
  go_enter Try.func13, Try.ntmps13
  go_wp2_with fail
  refine (specOneSided _ _ h0).mono ?_
  rintro e w2 ⟨Aw, capw, rfl, ⟨rs, _, _⟩, k2⟩
  have K2 := k2
  have Z3 := Below.refl w2.heap.size w2
  go_wp2_with fail
  refine (implOneSided _ _ h0).mono ?_
  rintro e w4 ⟨vg, vsg, rfl, og, k4⟩
  obtain ⟨Ag, capg, rfl, _, _⟩ := og.form
  have Z4 := Z3.trans (k4.mono Z3.size)
  go_wp2_with fail
  refine (eqCellSS_any _ _ _ _ _ _ _ _ _ hr1 hsh (ownV_shapes og) (rs.below Z4)).mono ?_
  rintro e w5 ⟨rfl, k5⟩
  have Z5 := Z4.trans (k5.mono Z4.size)
  have og5 := og.below k5
  have szg : w2.heap.size ≤ w5.heap.size := by have := k4.size; have := k5.size; omega
  go_wp2_with fail
  refine (markCellSS_any _ _ _ _ _ _ hr2 hr1 ⟨by omega, by omega⟩ szg og5).mono ?_
  rintro e w6 ⟨rfl, og6, b6⟩
  have Z6 := Z5.trans (b6.mono (Nat.le_refl _))
  have hpt : (0 : Int) ≤ 1 + 2 * (totS (oneL x0) : Int) := by omega
  go_wp2_with fail
  refine (heldCellSS_any _ _ _ (oneL x0) _ _ rfl hr2 hr1 ⟨by omega, by omega⟩ (by have t := ownV_shapes og6; first | exact t | (rw [marksS_length] at t; exact t))).mono ?_
  rintro e w7 ⟨rfl, rfl⟩
  go_wp2_with fail
  refine (implOneSided _ _ h0).mono ?_
  rintro e w7 ⟨vh, vsh, rfl, oh, k7⟩
  obtain ⟨Ah, caph, rfl, _, _⟩ := oh.form
  have Z7 := Z6.trans (k7.mono Z6.size)
  have og7 := og6.below k7
  go_wp2_with fail
  refine (eqCellSS_any _ _ _ _ _ _ _ _ _ hr1 hsh (ownV_shapes oh) (rs.below Z7)).mono ?_
  rintro e w8 ⟨rfl, k8⟩
  have Z8 := Z7.trans (k8.mono Z7.size)
  have og8 := og7.below k8
  go_wp2_with fail
  refine (heldCellSS_any _ _ _ (oneL x0) _ _ rfl hr2 hr1 ⟨by omega, by omega⟩ (by have t := ownV_shapes og8; first | exact t | (rw [marksS_length] at t; exact t))).mono ?_
  rintro e w9 ⟨rfl, rfl⟩
  go_wp2
  go_ret
  exact ⟨rfl, K2.trans (Z8.mono K2.size)⟩
end Go.Proofs.Ythhaojbnnacdbaa
