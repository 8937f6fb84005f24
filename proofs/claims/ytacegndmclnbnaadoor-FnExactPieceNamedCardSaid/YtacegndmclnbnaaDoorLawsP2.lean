/- The laws PieceNamed, walked: each returns true. No condition. -/
import Derived.Test.YtacegndmclnbnaaDoorArgs
import Derived.Test.YtacegndmclnbnaaDoorLawC
import Derived.Test.YtacegndmclnbnaaDoorMark
import Derived.Test.YtacegndmclnbnaaDoorPiece
namespace Go.Proofs.YtacegndmclnbnaaDoor
open Go.RowKit
set_option linter.unusedVariables false

set_option maxRecDepth 20000 in
set_option maxHeartbeats 2000000 in
theorem walkFnExactPieceNamed (W : World) (s : ByteArray) (h0 : s.size ≤ maxLen) (hL : laidMetH Tryd.prog Rows.fnExactPieceNamedRow.laid W) (hS : W.ShapedOpen Tryd.prog) : Calls Tryd.prog 3 #[.string s] W fun e w' => e = .returned (.bool true) ∧ Below W.heap.size W w' := by
  obtain ⟨m, hm⟩ := maxLenCell hS
  by_cases hn : s.size ≤ 1048576
  · have hn1 : (s.size : Int) ≤ 1048576 := by omega
    have hlr : (pcR s.data.toList).1.length ≤ 1048576 := by have := pcR_len s.data.toList; omega
    have S0 := fun w => specPieceNamed s w hn
    have I0 := fun w h => implPieceNamed s m w hn h
    revert S0 I0 hlr
    generalize pcR s.data.toList = R
    intro hlr S0 I0
    clear hL h0 hS
    go_enter Tryd.func3, Tryd.ntmps3
    go_wp2_with fail
    refine (S0 _).mono ?_
    rintro e w1 ⟨vw, rfl, ow, k1⟩
    obtain ⟨Aw, capw, rfl, _, _⟩ := ow.form
    have K1 := k1
    go_wp2_with fail
    refine (I0 _ (cell_keep hm K1)).mono ?_
    rintro e w2 ⟨vg, rfl, og, k2⟩
    obtain ⟨Ag, capg, rfl, _, _⟩ := og.form
    have K2 := K1.trans (k2.mono K1.size)
    have ow_2 := ow.below k2
    go_wp2_with fail
    refine (eqCellS_any _ _ _ _ _ _ _ _ _ hlr (own_cells og) (own_cells ow_2)).mono ?_
    rintro e w3 ⟨rfl, k3⟩
    have K3 := K2.trans (k3.mono K2.size)
    have ow_3 := ow_2.below k3
    have og_3 := og.below k3
    have sz : W.heap.size ≤ w1.heap.size ∧ w1.heap.size ≤ w2.heap.size ∧ w2.heap.size ≤ w3.heap.size := ⟨k1.size, k2.size, k3.size⟩
    go_wp2_with fail
    refine (markCellS_any _ _ _ _ _ hlr ⟨by omega, by omega⟩ og_3).mono ?_
    rintro e w4 ⟨rfl, mg, g4⟩
    have ow_4 := own_beside ow_3 g4 (Own.apart ow og (by have := sz; omega))
    have K4 := below_grown K3 og_3 g4 K3.size (by have := sz; omega)
    go_wp2_with fail
    refine (heldCellS_any _ _ _ _ _ hlr ⟨by omega, by omega⟩ (own_cells mg)).mono ?_
    rintro e w5 ⟨rfl, rfl⟩
    go_wp2_with fail
    refine (I0 _ (cell_keep hm K4)).mono ?_
    rintro e w6 ⟨vh, rfl, oh, k6⟩
    obtain ⟨Ah, caph, rfl, _, _⟩ := oh.form
    have K6 := K4.trans (k6.mono K4.size)
    have ow_6 := ow_4.below k6
    have mg_6 := mg.below k6
    go_wp2_with fail
    refine (eqCellS_any _ _ _ _ _ _ _ _ _ hlr (own_cells oh) (own_cells ow_6)).mono ?_
    rintro e w7 ⟨rfl, k7⟩
    have K7 := K6.trans (k7.mono K6.size)
    have mg_7 := mg_6.below k7
    go_wp2_with fail
    refine (heldCellS_any _ _ _ _ _ hlr ⟨by omega, by omega⟩ (own_cells mg_7)).mono ?_
    rintro e w8 ⟨rfl, rfl⟩
    go_wp2
    go_ret
    exact ⟨rfl, K7⟩
  · have hn1 : (1048576 : Int) < s.size := by omega
    clear hm h0 hL hS
    go_enter Tryd.func3, Tryd.ntmps3
    go_wp2
    go_ret
    exact ⟨rfl, Below.refl _ _⟩
end Go.Proofs.YtacegndmclnbnaaDoor
