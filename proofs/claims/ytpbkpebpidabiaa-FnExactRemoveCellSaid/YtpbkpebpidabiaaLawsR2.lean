/- The law RectangleOf, walked: it returns true. No condition. -/
import Derived.Test.YtpbkpebpidabiaaRect
namespace Go.Proofs.Ytpbkpebpidabiaa
open Go.RowKit
set_option linter.unusedVariables false

theorem own_ne {v : Value} {b s : Nat} (h : ∀ k, v.ownBlock = some k → s ≤ k) (hb : b < s) : some b ≠ v.ownBlock := by
  intro e; have := h b e.symm; omega
theorem own_ne' {v : Value} {b s : Nat} (h : ∀ k, v.ownBlock = some k → k < s) (hb : s ≤ b) : some b ≠ v.ownBlock := by
  intro e; have := h b e.symm; omega

set_option maxHeartbeats 2000000 in
theorem walkFnExactRectangleOf (W : World) (x0 : Int) (_ : (Lit.int .i64 x0).wf = true) (x1 : Int) (_ : (Lit.int .i64 x1).wf = true) : Calls Try.prog 4 #[.int .i64 x0, .int .i64 x1] W fun e w' => e = .returned (.bool true) ∧ Below W.heap.size W w' := by
  obtain ⟨r, hr⟩ : ∃ r, r = rectOf x0 x1 := ⟨_, rfl⟩
  have CS : ∀ w, Calls Try.prog 14 #[.int .i64 x0, .int .i64 x1] w (OwnRPost2 w r) := fun w => hr ▸ specRectangleOf x0 x1 w
  have CI : ∀ w, Calls Try.prog 15 #[.int .i64 x0, .int .i64 x1] w (OwnRPost2 w r) := fun w => hr ▸ implRectangleOf x0 x1 w
  have hlr : r.1.2.length ≤ 1048576 := hr ▸ rectOf_len x0 x1
  clear hr
  obtain ⟨⟨V, xs⟩, t⟩ := r
  simp only at hlr
  go_enter Try.func4, Try.ntmps4
  go_wp2_with fail
  refine (CS _).mono ?_
  rintro e w1 ⟨vw, rfl, ow, k1⟩
  simp only at ow ⊢
  obtain ⟨Aw, capw, rfl, _, _⟩ := ow.form
  have K1 := k1
  have owlt : ∀ k, (Value.slice Aw xs.length capw).ownBlock = some k → k < w1.heap.size := fun k hk => (ow.lt k hk).2
  go_wp2_with fail
  refine (CI _).mono ?_
  rintro e w2 ⟨vg, rfl, og, k2⟩
  simp only at og ⊢
  obtain ⟨Ag, capg, rfl, _, _⟩ := og.form
  have D1 := below_alloc w1 (.cells #[.int .i64 V, .slice Aw xs.length capw] 27)
  have bw := (Box2.new w1 (.int .i64 V) (.slice Aw xs.length capw) 27).later k2
  have ow := (ow.below D1).below k2
  have K2 := K1.trans ((D1.trans (k2.mono D1.size)).mono K1.size)
  have z1 := k2.size
  simp at z1
  have c0 := bw.c0
  have c1 := bw.c1
  have D2 := below_alloc w2 (.cells #[.int .i64 V, .slice Ag xs.length capg] 27)
  have bw2 := bw.alloc (.cells #[.int .i64 V, .slice Ag xs.length capg] 27)
  have c02 := bw2.c0
  have c12 := bw2.c1
  have bg := Box2.new w2 (.int .i64 V) (.slice Ag xs.length capg) 27
  have ow2 := ow.below D2
  have og2 := og.below D2
  go_wp2_with fail
  refine (eqRegion_any _ _ _ _ _ _ _ _ _ _ _ hlr (ownI_ints og2) (ownI_ints ow2)).mono ?_
  rintro e w3 ⟨rfl, k3⟩
  have K3 := K2.trans ((D2.trans (k3.mono D2.size)).mono K2.size)
  have bw3 := bw2.later k3
  have bg3 := bg.later k3
  have ow3 := ow2.below k3
  have og3 := og2.below k3
  clear c0 c1 c02 c12 bw bw2 bg ow2 og2
  have c0 := bw3.c0
  have c1 := bw3.c1
  have g0 := bg3.c0
  have g1 := bg3.c1
  go_wp2_with fail
  refine (markRegion_any _ _ _ _ _ _ hlr ⟨by omega, by omega⟩ og3).mono ?_
  rintro e w4 ⟨rfl, og4, q4⟩
  have bw4 := bw3.grown q4 (own_ne (s := w1.heap.size + 1) (fun k hk => by have := (og.lt k hk).1; simp at this; omega) (by omega))
  have bg4 := bg3.grown q4 (own_ne' (s := w2.heap.size) (fun k hk => (og.lt k hk).2) (Nat.le_refl _))
  have ow4 := ownI_beside ow3 q4 (block_apart (s := w1.heap.size + 1) (fun k hk => by have := owlt k hk; omega) (fun k hk => by have := (og.lt k hk).1; simp at this; omega))
  have K4 := below_grownI K3 og3 q4 K3.size (by have := K1.size; simp; omega)
  clear c0 c1 g0 g1 bw3 bg3 ow3 og3
  have c0 := bw4.c0
  have c1 := bw4.c1
  have g0 := bg4.c0
  have g1 := bg4.c1
  go_wp2_with fail
  refine (heldRegion_any _ _ _ _ _ _ hlr ⟨by omega, by omega⟩ (ownI_ints og4)).mono ?_
  rintro e w5 ⟨rfl, k5⟩
  have K5 := K4.trans (k5.mono K4.size)
  have bw5 := bw4.later k5
  have bg5 := bg4.later k5
  have ow5 := ow4.below k5
  have og5 := og4.below k5
  clear c0 c1 g0 g1 bw4 bg4 ow4 og4
  go_wp2_with fail
  refine (CI _).mono ?_
  rintro e w6 ⟨vh, rfl, oh, k6⟩
  simp only at oh ⊢
  obtain ⟨Ah, caph, rfl, _, _⟩ := oh.form
  have K6 := K5.trans (k6.mono K5.size)
  have D6 := below_alloc w6 (.cells #[.int .i64 V, .slice Ah xs.length caph] 27)
  have bw6 := (bw5.later k6).alloc (.cells #[.int .i64 V, .slice Ah xs.length caph] 27)
  have bg6 := (bg5.later k6).alloc (.cells #[.int .i64 V, .slice Ah xs.length caph] 27)
  have ow6 := (ow5.below k6).below D6
  have og6 := (og5.below k6).below D6
  have oh6 := oh.below D6
  clear bw5 bg5 ow5 og5
  have c0 := bw6.c0
  have c1 := bw6.c1
  go_wp2_with fail
  refine (eqRegion_any _ _ _ _ _ _ _ _ _ _ _ hlr (ownI_ints oh6) (ownI_ints ow6)).mono ?_
  rintro e w7 ⟨rfl, k7⟩
  have K7 := K6.trans ((D6.trans (k7.mono D6.size)).mono K6.size)
  have bg7 := bg6.later k7
  have og7 := og6.below k7
  clear c0 c1 bw6 bg6
  have g0 := bg7.c0
  have g1 := bg7.c1
  go_wp2_with fail
  refine (heldRegion_any _ _ _ _ _ _ hlr ⟨by omega, by omega⟩ (ownI_ints og7)).mono ?_
  rintro e w8 ⟨rfl, k8⟩
  have K8 := K7.trans (k8.mono K7.size)
  go_wp2
  go_ret
  exact ⟨rfl, K8⟩
end Go.Proofs.Ytpbkpebpidabiaa
