/- The law RemoveCell, walked: it returns true. No condition. -/
import Derived.Test.YtpbkpebpidabiaaRem
import Derived.Test.YtpbkpebpidabiaaLawsR2
namespace Go.Proofs.Ytpbkpebpidabiaa
open Go.RowKit
set_option linter.unusedVariables false

theorem remCell_len (r : Int × List Int) (x y : Int) : (remCell r x y).1.2.length = r.2.length := by
  unfold remCell
  split
  · simp
  · rfl

set_option maxHeartbeats 4000000 in
theorem walkFnExactRemoveCell (W : World) (v0 : Value) (a0 : Int × List Int) (h0 : RegArg W v0 a0) (x1 : Int) (_ : (Lit.int .i64 x1).wf = true) (x2 : Int) (_ : (Lit.int .i64 x2).wf = true) : Calls Try.prog 7 #[v0, .int .i64 x1, .int .i64 x2] W fun e w' => e = .returned (.bool true) ∧ Below W.heap.size W w' := by
  obtain ⟨A0, n0, cap0, rfl, hm0, hw0, hc0⟩ := h0
  obtain ⟨W0, xs0⟩ := a0
  simp only at hw0 hc0 ⊢
  unfold maxLen at hm0
  clear hw0
  have B0 := below1 W (.cells #[.int .i64 W0, .slice A0 n0 cap0] 24)
  by_cases hs0 : n0 ≤ 1048576
  · have hn0 : n0 ≤ 1048576 := by omega
    have hl0 : xs0.length ≤ 1048576 := by rw [hc0.1]; exact hn0
    obtain ⟨r, hr⟩ : ∃ r, r = remCell (W0, xs0) x1 x2 := ⟨_, rfl⟩
    have CS : ∀ A n cap w, n ≤ 1048576 → IntsAt w A n xs0 → Calls Try.prog 22 #[.agg #[.int .i64 W0, .slice A n cap], .int .i64 x1, .int .i64 x2] w (OwnRPost2 w r) := fun A n cap w hn h => hr ▸ specRemoveCell W0 A n cap xs0 x1 x2 w hn h
    have CI : ∀ A n cap w, n ≤ 1048576 → IntsAt w A n xs0 → Calls Try.prog 23 #[.agg #[.int .i64 W0, .slice A n cap], .int .i64 x1, .int .i64 x2] w (OwnRPost2 w r) := fun A n cap w hn h => hr ▸ implRemoveCell W0 A n cap xs0 x1 x2 w hn h
    have hlr : r.1.2.length ≤ 1048576 := by rw [hr, remCell_len]; exact hl0
    clear hr
    obtain ⟨⟨V, ys⟩, t⟩ := r
    simp only at hlr
    have bA := Box2.new W (.int .i64 W0) (.slice A0 n0 cap0) 24
    go_enter Try.func7, Try.ntmps7
    go_wp2_with fail
    refine (szRegion_ok _ _ _ _ _ _ (by omega) (by omega)).mono ?_
    rintro e w1 ⟨rfl, k1⟩
    have z1 := k1.size
    try simp at z1
    have bA_1 := bA.later k1
    have K1 := B0.trans (k1.mono B0.size)
    have cA0 := bA_1.c0
    have cA1 := bA_1.c1
    go_wp2_with fail
    refine (toRegion_any _ _ _ _ _ _ hn0 (hc0.below K1)).mono ?_
    rintro e w2 ⟨vs, rfl, os, k2⟩
    obtain ⟨As, caps, rfl, _, _⟩ := os.form
    simp only at os ⊢
    have z2 := k2.size
    try simp at z2
    have ls : ∀ k, (Value.slice As xs0.length caps).ownBlock = some k → W.heap.size + 1 ≤ k ∧ k < w2.heap.size := fun k hk => by have := os.lt k hk; (try simp at this); omega
    clear cA0 cA1
    have bA_2 := bA_1.later k2
    have K2 := K1.trans (k2.mono K1.size)
    go_wp2_with fail
    refine (CS _ _ _ _ hl0 (ownI_ints os)).mono ?_
    rintro e w3 ⟨vw, rfl, ow, k3⟩
    simp only at ow ⊢
    obtain ⟨Aw, capw, rfl, _, _⟩ := ow.form
    have z3 := k3.size
    try simp at z3
    have lw : ∀ k, (Value.slice Aw ys.length capw).ownBlock = some k → w2.heap.size ≤ k ∧ k < w3.heap.size := fun k hk => by have := ow.lt k hk; (try simp at this); omega
    have bA_3 := bA_2.later k3
    have os_3 := os.below k3
    have K3 := K2.trans (k3.mono K2.size)
    have bA_aw := bA_3.alloc (.cells #[.int .i64 V, .slice Aw ys.length capw] 27)
    have ow_aw := ow.below (below_alloc _ (.cells #[.int .i64 V, .slice Aw ys.length capw] 27))
    have bw_new := Box2.new w3 (.int .i64 V) (.slice Aw ys.length capw) 27
    have Kaw := K3.trans ((below_alloc w3 (.cells #[.int .i64 V, .slice Aw ys.length capw] 27)).mono K3.size)
    have cA0 := bA_aw.c0
    have cA1 := bA_aw.c1
    have cw0 := bw_new.c0
    have cw1 := bw_new.c1
    go_wp2_with fail
    refine (toRegion_any _ _ _ _ _ _ hn0 (hc0.below Kaw)).mono ?_
    rintro e w4 ⟨vx, rfl, ox, k4⟩
    obtain ⟨Ax, capx, rfl, _, _⟩ := ox.form
    simp only at ox ⊢
    have z4 := k4.size
    try simp at z4
    have lx : ∀ k, (Value.slice Ax xs0.length capx).ownBlock = some k → w3.heap.size + 1 ≤ k ∧ k < w4.heap.size := fun k hk => by have := ox.lt k hk; (try simp at this); omega
    clear cA0 cA1 cw0 cw1
    have bA_4 := bA_aw.later k4
    have bw_4 := bw_new.later k4
    have ow_4 := ow_aw.below k4
    have K4 := Kaw.trans (k4.mono Kaw.size)
    have bA_ax := bA_4.alloc (.cells #[.int .i64 W0, .slice Ax xs0.length capx] 27)
    have bw_ax := bw_4.alloc (.cells #[.int .i64 W0, .slice Ax xs0.length capx] 27)
    have ow_ax := ow_4.below (below_alloc _ (.cells #[.int .i64 W0, .slice Ax xs0.length capx] 27))
    have ox_ax := ox.below (below_alloc _ (.cells #[.int .i64 W0, .slice Ax xs0.length capx] 27))
    have bx_new := Box2.new w4 (.int .i64 W0) (.slice Ax xs0.length capx) 27
    have Kax := K4.trans ((below_alloc w4 (.cells #[.int .i64 W0, .slice Ax xs0.length capx] 27)).mono K4.size)
    have cA0 := bA_ax.c0
    have cA1 := bA_ax.c1
    have cw0 := bw_ax.c0
    have cw1 := bw_ax.c1
    have cx0 := bx_new.c0
    have cx1 := bx_new.c1
    go_wp2_with fail
    refine (CI _ _ _ _ hl0 (ownI_ints ox_ax)).mono ?_
    rintro e w5 ⟨vg, rfl, og, k5⟩
    simp only at og ⊢
    obtain ⟨Ag, capg, rfl, _, _⟩ := og.form
    have z5 := k5.size
    try simp at z5
    have lg : ∀ k, (Value.slice Ag ys.length capg).ownBlock = some k → w4.heap.size + 1 ≤ k ∧ k < w5.heap.size := fun k hk => by have := og.lt k hk; (try simp at this); omega
    clear cA0 cA1 cw0 cw1 cx0 cx1
    have bA_5 := bA_ax.later k5
    have bw_5 := bw_ax.later k5
    have bx_5 := bx_new.later k5
    have ow_5 := ow_ax.below k5
    have ox_5 := ox_ax.below k5
    have K5 := Kax.trans (k5.mono Kax.size)
    have bA_ag := bA_5.alloc (.cells #[.int .i64 V, .slice Ag ys.length capg] 27)
    have bw_ag := bw_5.alloc (.cells #[.int .i64 V, .slice Ag ys.length capg] 27)
    have bx_ag := bx_5.alloc (.cells #[.int .i64 V, .slice Ag ys.length capg] 27)
    have ow_ag := ow_5.below (below_alloc _ (.cells #[.int .i64 V, .slice Ag ys.length capg] 27))
    have ox_ag := ox_5.below (below_alloc _ (.cells #[.int .i64 V, .slice Ag ys.length capg] 27))
    have og_ag := og.below (below_alloc _ (.cells #[.int .i64 V, .slice Ag ys.length capg] 27))
    have bg_new := Box2.new w5 (.int .i64 V) (.slice Ag ys.length capg) 27
    have Kag := K5.trans ((below_alloc w5 (.cells #[.int .i64 V, .slice Ag ys.length capg] 27)).mono K5.size)
    have cA0 := bA_ag.c0
    have cA1 := bA_ag.c1
    have cw0 := bw_ag.c0
    have cw1 := bw_ag.c1
    have cx0 := bx_ag.c0
    have cx1 := bx_ag.c1
    have cg0 := bg_new.c0
    have cg1 := bg_new.c1
    go_wp2_with fail
    refine (eqRegion_any _ _ _ _ _ _ _ _ _ _ _ hlr (ownI_ints og_ag) (ownI_ints ow_ag)).mono ?_
    rintro e w6 ⟨rfl, k6⟩
    have z6 := k6.size
    try simp at z6
    clear cA0 cA1 cw0 cw1 cx0 cx1 cg0 cg1
    have bA_6 := bA_ag.later k6
    have bw_6 := bw_ag.later k6
    have bx_6 := bx_ag.later k6
    have bg_6 := bg_new.later k6
    have ow_6 := ow_ag.below k6
    have ox_6 := ox_ag.below k6
    have og_6 := og_ag.below k6
    have K6 := Kag.trans (k6.mono Kag.size)
    have cA0 := bA_6.c0
    have cA1 := bA_6.c1
    have cw0 := bw_6.c0
    have cw1 := bw_6.c1
    have cx0 := bx_6.c0
    have cx1 := bx_6.c1
    have cg0 := bg_6.c0
    have cg1 := bg_6.c1
    go_wp2_with fail
    go_region_held3 (fun ω => ω.cell? ⟨W.heap.size, 0, none⟩ = some (.int .i64 W0) ∧ ω.cell? ⟨W.heap.size, 1, none⟩ = some (.slice A0 n0 cap0) ∧ ω.cell? ⟨w4.heap.size, 0, none⟩ = some (.int .i64 W0) ∧ ω.cell? ⟨w4.heap.size, 1, none⟩ = some (.slice Ax xs0.length capx)) (first | exact ⟨cA0, cA1, cx0, cx1⟩ | exact ⟨dA0, dA1, dx0, dx1⟩ | exact ⟨eA0, eA1, ex0, ex1⟩) ((first | (go_at_call 11; refine (toRegion_any _ _ _ _ _ _ hn0 (hc0.below K6.drew)).mono ?_; rintro e w7 ⟨vy, rfl, oy, k7⟩; obtain ⟨Ay, capy, rfl, _, _⟩ := oy.form; have K7 := K6.drew.trans (k7.mono K6.size); have z7 := k7.size; (try simp at z7); have bA_7 := bA_6.drew.later k7; have bw_7 := bw_6.drew.later k7; have bx_7 := bx_6.drew.later k7; have bg_7 := bg_6.drew.later k7; have ow_7 := (ow_6.below (Below.refl _ _).drew).below k7; have ox_7 := (ox_6.below (Below.refl _ _).drew).below k7; have og_7 := (og_6.below (Below.refl _ _).drew).below k7; have dA0 := bA_7.c0; have dA1 := bA_7.c1; have dx0 := bx_7.c0; have dx1 := bx_7.c1) | (go_at_call 13; refine (eqRegion_any _ _ _ _ _ _ _ _ _ _ _ hl0 (ownI_ints ox_7) (ownI_ints oy)).mono ?_; rintro e w8 ⟨rfl, k8⟩; have K8 := K7.trans (k8.mono K7.size); have z8 := k8.size; (try simp at z8); have bA_8 := bA_7.later k8; have bw_8 := bw_7.later k8; have bx_8 := bx_7.later k8; have bg_8 := bg_7.later k8; have ow_8 := ow_7.below k8; have ox_8 := ox_7.below k8; have og_8 := og_7.below k8; have eA0 := bA_8.c0; have eA1 := bA_8.c1; have ex0 := bx_8.c0; have ex1 := bx_8.c1)))
    clear dA0 eA0 dA1 eA1 dx0 ex0 dx1 ex1
    clear cA0 cA1 cw0 cw1 cx0 cx1 cg0 cg1
    have cA0 := bA_8.c0
    have cA1 := bA_8.c1
    have cw0 := bw_8.c0
    have cw1 := bw_8.c1
    have cx0 := bx_8.c0
    have cx1 := bx_8.c1
    have cg0 := bg_8.c0
    have cg1 := bg_8.c1
    go_wp2_with fail
    refine (markRegion_any _ _ _ _ _ _ hl0 ⟨by omega, by omega⟩ ox_8).mono ?_
    rintro e w9 ⟨rfl, omx, q9⟩
    clear cA0 cA1 cw0 cw1 cx0 cx1 cg0 cg1
    have z9 := q9.size
    have bA_9 := bA_8.grown q9 (by intro e; have := lx _ e.symm; omega)
    have bw_9 := bw_8.grown q9 (by intro e; have := lx _ e.symm; omega)
    have bx_9 := bx_8.grown q9 (by intro e; have := lx _ e.symm; omega)
    have bg_9 := bg_8.grown q9 (by intro e; have := lx _ e.symm; omega)
    have ow_9 := ownI_beside ow_8 q9 (by cases hz : (Value.slice Aw ys.length capw).ownBlock with | none => exact Or.inl rfl | some z => exact Or.inr (fun e => by have e1 := lw z hz; have e2 := lx z e.symm; omega))
    have og_9 := ownI_beside og_8 q9 (by cases hz : (Value.slice Ag ys.length capg).ownBlock with | none => exact Or.inl rfl | some z => exact Or.inr (fun e => by have e1 := lg z hz; have e2 := lx z e.symm; omega))
    have K9 := below_grownI K8 ox_8 q9 K8.size (by simp; omega)
    have cA0 := bA_9.c0
    have cA1 := bA_9.c1
    have cw0 := bw_9.c0
    have cw1 := bw_9.c1
    have cx0 := bx_9.c0
    have cx1 := bx_9.c1
    have cg0 := bg_9.c0
    have cg1 := bg_9.c1
    go_wp2_with fail
    refine (eqRegion_any _ _ _ _ _ _ _ _ _ _ _ hlr (ownI_ints og_9) (ownI_ints ow_9)).mono ?_
    rintro e w10 ⟨rfl, k10⟩
    have z10 := k10.size
    try simp at z10
    clear cA0 cA1 cw0 cw1 cx0 cx1 cg0 cg1
    have bA_10 := bA_9.later k10
    have bw_10 := bw_9.later k10
    have bx_10 := bx_9.later k10
    have bg_10 := bg_9.later k10
    have ow_10 := ow_9.below k10
    have ox_10 := omx.below k10
    have og_10 := og_9.below k10
    have K10 := K9.trans (k10.mono K9.size)
    have cA0 := bA_10.c0
    have cA1 := bA_10.c1
    have cw0 := bw_10.c0
    have cw1 := bw_10.c1
    have cx0 := bx_10.c0
    have cx1 := bx_10.c1
    have cg0 := bg_10.c0
    have cg1 := bg_10.c1
    go_wp2_with fail
    refine (markRegion_any _ _ _ _ _ _ hlr ⟨by omega, by omega⟩ og_10).mono ?_
    rintro e w11 ⟨rfl, omg, q11⟩
    clear cA0 cA1 cw0 cw1 cx0 cx1 cg0 cg1
    have z11 := q11.size
    have bA_11 := bA_10.grown q11 (by intro e; have := lg _ e.symm; omega)
    have bw_11 := bw_10.grown q11 (by intro e; have := lg _ e.symm; omega)
    have bx_11 := bx_10.grown q11 (by intro e; have := lg _ e.symm; omega)
    have bg_11 := bg_10.grown q11 (by intro e; have := lg _ e.symm; omega)
    have ow_11 := ownI_beside ow_10 q11 (by cases hz : (Value.slice Aw ys.length capw).ownBlock with | none => exact Or.inl rfl | some z => exact Or.inr (fun e => by have e1 := lw z hz; have e2 := lg z e.symm; omega))
    have ox_11 := ownI_beside ox_10 q11 (by cases hz : (Value.slice Ax xs0.length capx).ownBlock with | none => exact Or.inl rfl | some z => exact Or.inr (fun e => by have e1 := lx z hz; have e2 := lg z e.symm; omega))
    have K11 := below_grownI K10 og_10 q11 K10.size (by simp; omega)
    have cA0 := bA_11.c0
    have cA1 := bA_11.c1
    have cw0 := bw_11.c0
    have cw1 := bw_11.c1
    have cx0 := bx_11.c0
    have cx1 := bx_11.c1
    have cg0 := bg_11.c0
    have cg1 := bg_11.c1
    go_wp2_with fail
    refine (heldRegion_any _ _ _ _ _ _ hlr ⟨by omega, by omega⟩ (ownI_ints omg)).mono ?_
    rintro e w12 ⟨rfl, k12⟩
    have z12 := k12.size
    try simp at z12
    clear cA0 cA1 cw0 cw1 cx0 cx1 cg0 cg1
    have bA_12 := bA_11.later k12
    have bw_12 := bw_11.later k12
    have bg_12 := bg_11.later k12
    have ow_12 := ow_11.below k12
    have og_12 := omg.below k12
    have K12 := K11.trans (k12.mono K11.size)
    have cA0 := bA_12.c0
    have cA1 := bA_12.c1
    have cw0 := bw_12.c0
    have cw1 := bw_12.c1
    have cg0 := bg_12.c0
    have cg1 := bg_12.c1
    go_wp2_with fail
    refine (toRegion_any _ _ _ _ _ _ hn0 (hc0.below K12)).mono ?_
    rintro e w13 ⟨vt, rfl, ot, k13⟩
    obtain ⟨At, capt, rfl, _, _⟩ := ot.form
    simp only at ot ⊢
    have z13 := k13.size
    try simp at z13
    have lt : ∀ k, (Value.slice At xs0.length capt).ownBlock = some k → w4.heap.size ≤ k ∧ k < w13.heap.size := fun k hk => by have := ot.lt k hk; (try simp at this); omega
    clear cA0 cA1 cw0 cw1 cg0 cg1
    have bA_13 := bA_12.later k13
    have bw_13 := bw_12.later k13
    have bg_13 := bg_12.later k13
    have ow_13 := ow_12.below k13
    have og_13 := og_12.below k13
    have K13 := K12.trans (k13.mono K12.size)
    go_wp2_with fail
    refine (CI _ _ _ _ hl0 (ownI_ints ot)).mono ?_
    rintro e w14 ⟨vh, rfl, oh, k14⟩
    simp only at oh ⊢
    obtain ⟨Ah, caph, rfl, _, _⟩ := oh.form
    have z14 := k14.size
    try simp at z14
    have lh : ∀ k, (Value.slice Ah ys.length caph).ownBlock = some k → w4.heap.size ≤ k ∧ k < w14.heap.size := fun k hk => by have := oh.lt k hk; (try simp at this); omega
    have bA_14 := bA_13.later k14
    have bw_14 := bw_13.later k14
    have bg_14 := bg_13.later k14
    have ow_14 := ow_13.below k14
    have og_14 := og_13.below k14
    have ot_14 := ot.below k14
    have K14 := K13.trans (k14.mono K13.size)
    have bA_ah := bA_14.alloc (.cells #[.int .i64 V, .slice Ah ys.length caph] 27)
    have bw_ah := bw_14.alloc (.cells #[.int .i64 V, .slice Ah ys.length caph] 27)
    have bg_ah := bg_14.alloc (.cells #[.int .i64 V, .slice Ah ys.length caph] 27)
    have ow_ah := ow_14.below (below_alloc _ (.cells #[.int .i64 V, .slice Ah ys.length caph] 27))
    have og_ah := og_14.below (below_alloc _ (.cells #[.int .i64 V, .slice Ah ys.length caph] 27))
    have oh_ah := oh.below (below_alloc _ (.cells #[.int .i64 V, .slice Ah ys.length caph] 27))
    have bh_new := Box2.new w14 (.int .i64 V) (.slice Ah ys.length caph) 27
    have Kah := K14.trans ((below_alloc w14 (.cells #[.int .i64 V, .slice Ah ys.length caph] 27)).mono K14.size)
    have cA0 := bA_ah.c0
    have cA1 := bA_ah.c1
    have cw0 := bw_ah.c0
    have cw1 := bw_ah.c1
    have cg0 := bg_ah.c0
    have cg1 := bg_ah.c1
    have ch0 := bh_new.c0
    have ch1 := bh_new.c1
    go_wp2_with fail
    refine (eqRegion_any _ _ _ _ _ _ _ _ _ _ _ hlr (ownI_ints oh_ah) (ownI_ints ow_ah)).mono ?_
    rintro e w15 ⟨rfl, k15⟩
    have z15 := k15.size
    try simp at z15
    clear cA0 cA1 cw0 cw1 cg0 cg1 ch0 ch1
    have bA_15 := bA_ah.later k15
    have bw_15 := bw_ah.later k15
    have bg_15 := bg_ah.later k15
    have bh_15 := bh_new.later k15
    have ow_15 := ow_ah.below k15
    have og_15 := og_ah.below k15
    have oh_15 := oh_ah.below k15
    have K15 := Kah.trans (k15.mono Kah.size)
    have cA0 := bA_15.c0
    have cA1 := bA_15.c1
    have cw0 := bw_15.c0
    have cw1 := bw_15.c1
    have cg0 := bg_15.c0
    have cg1 := bg_15.c1
    have ch0 := bh_15.c0
    have ch1 := bh_15.c1
    go_wp2_with fail
    refine (heldRegion_any _ _ _ _ _ _ hlr ⟨by omega, by omega⟩ (ownI_ints og_15)).mono ?_
    rintro e w16 ⟨rfl, k16⟩
    have z16 := k16.size
    try simp at z16
    clear cA0 cA1 cw0 cw1 cg0 cg1 ch0 ch1
    have bA_16 := bA_15.later k16
    have bw_16 := bw_15.later k16
    have bg_16 := bg_15.later k16
    have bh_16 := bh_15.later k16
    have ow_16 := ow_15.below k16
    have og_16 := og_15.below k16
    have oh_16 := oh_15.below k16
    have K16 := K15.trans (k16.mono K15.size)
    go_wp2
    go_ret
    exact ⟨rfl, K16⟩
  · go_enter Try.func7, Try.ntmps7
    go_wp2_with fail
    refine (szRegion_big _ _ _ _ _ _ (by omega) (by omega) (by omega) (by omega)).mono ?_
    rintro e w1 ⟨rfl, k1⟩
    go_wp2
    go_ret
    exact ⟨rfl, B0.trans (k1.mono B0.size)⟩
end Go.Proofs.Ytpbkpebpidabiaa
