/- The law FnShapes, walked: it returns true. No condition. -/
import Derived.Test.YtacegndmclnbnaaGreatDoorDrawS
import Derived.Test.YtacegndmclnbnaaGreatDoorShpM
import Derived.Test.YtacegndmclnbnaaGreatDoorConn
import Derived.Test.YtacegndmclnbnaaGreatDoorConnS
import Derived.Test.YtacegndmclnbnaaGreatDoorHas
import Derived.Test.YtacegndmclnbnaaGreatDoorTurn
import Derived.Test.YtacegndmclnbnaaGreatDoorSortS
import Derived.Test.YtacegndmclnbnaaGreatDoorSortP
import Derived.Test.YtacegndmclnbnaaGreatDoorArgsB
namespace Go.Proofs.YtacegndmclnbnaaGreatDoor
open Go.RowKit
set_option linter.unusedVariables false

set_option maxRecDepth 100000 in
set_option maxHeartbeats 16000000 in
theorem walkFnShapes (W : World) (v0 : Value) (u0 : Unit) (h0 : BytesArg W v0) (hL : laidMetH Tryz.prog Rows.fnShapesRow.laid W) (hS : W.ShapedOpen Tryz.prog) : Calls Tryz.prog 3 #[v0] W fun e w' => e = .returned (.bool true) ∧ Below W.heap.size W w' := by
  obtain ⟨A0, n0, cap0, rfl, hm0, hc0⟩ := h0
  obtain ⟨m, hm⟩ := maxLenCell hS
  unfold maxLen at hm0
  clear hL hS
  by_cases hs0 : n0 ≤ 1048576
  · go_enter Tryz.func3, Tryz.ntmps3
    go_wp2_with fail
    refine (bigNo A0 n0 cap0 _ hs0).mono ?_
    rintro e w ⟨rfl, rfl⟩
    go_wp2_with fail
    refine (drawFormatShape A0 n0 cap0 _ hs0 hc0).mono ?_
    rintro e w1 ⟨As, ns, caps, cs, rfl, rs, hns, k1⟩
    have K1 := k1
    have hns1 : ns ≤ 1048576 := by omega
    have hcl : (cornerShape cs).length ≤ 1048576 := cornerShape_len cs (by rw [rs.1]; exact hns1)
    obtain ⟨T, hT⟩ : ∃ T : ByteArray, T = ⟨(fmt (cornerShape cs)).toArray⟩ := ⟨_, rfl⟩
    have FI := fun (w : World) h => implFormatShape As ns caps cs w hns1 h
    have FS := fun (w : World) h => specFormatShape As ns caps cs w hns1 h
    simp only [← hT] at FI FS
    have hTz : T.size ≤ 1048576 := by have := fmt_size cs; rw [hT]; omega
    have PT := fun (w : World) h => implParseShape T m w hTz h
    have hpt : pshR T.data.toList = (cornerShape cs, isShape cs) := by rw [hT]; exact psh_fmt cs
    simp only [hpt] at PT
    have CI := fun (w : World) h => implCornerShape As ns caps cs w hns1 h
    have CS := fun (w : World) h => specCornerShape As ns caps cs w hns1 h
    have II := fun (w : World) h => implIsShape As ns caps cs w hns1 h
    have IS := fun (w : World) h => specIsShape As ns caps cs w hns1 h
    have SI := fun (w : World) h => implSizeOf As ns caps cs w hns1 h
    have SS := fun (w : World) h => specSizeOf As ns caps cs w hns1 h
    obtain ⟨CR, hCR⟩ : ∃ CR, CR = cornerShape cs := ⟨_, rfl⟩
    obtain ⟨b, hb⟩ : ∃ b, b = isShape cs := ⟨_, rfl⟩
    obtain ⟨s1, hs1⟩ : ∃ s1, s1 = (sizeOf_ cs).1 := ⟨_, rfl⟩
    obtain ⟨s2, hs2⟩ : ∃ s2, s2 = (sizeOf_ cs).2 := ⟨_, rfl⟩
    simp only [← hCR] at PT CI CS hcl
    simp only [← hb] at PT II IS
    simp only [← hs1, ← hs2] at SI SS
    clear hT hpt hCR hb hs1 hs2 hTz
    go_wp2_with fail
    refine (FI _ rs).mono ?_
    rintro e w2 ⟨rfl, k2⟩
    have K2 := K1.trans (k2.mono K1.size)
    have rs_2 := rs.below k2
    clear K1 rs
    clear FI
    go_wp2_with fail
    refine (PT _ (cell_keep hm K2)).mono ?_
    rintro e w3 ⟨vx, rfl, ox, k3⟩
    have K3 := K2.trans (k3.mono K2.size)
    have rs_3 := rs_2.below k3
    clear K2 rs_2
    obtain ⟨Ax, capx, rfl, rx, _⟩ := ox.form
    simp only at rx
    clear ox
    clear PT
    go_wp2_with fail
    refine (CI _ rs_3).mono ?_
    rintro e w4 ⟨vc, rfl, oc, k4⟩
    have K4 := K3.trans (k4.mono K3.size)
    have rs_4 := rs_3.below k4
    have rx_4 := rx.below k4
    clear K3 rs_3 rx
    obtain ⟨Ac, capc, rfl, rc, _⟩ := oc.form
    clear oc
    clear CI
    go_wp2_with fail
    refine (drawParseShape A0 n0 cap0 _ hs0 (hc0.below K4)).mono ?_
    rintro e w5 ⟨a, haz, rfl, k5⟩
    have K5 := K4.trans (k5.mono K4.size)
    have rs_5 := rs_4.below k5
    have rx_5 := rx_4.below k5
    have rc_5 := rc.below k5
    clear K4 rs_4 rx_4 rc
    have RI := fun (w : World) h => implParseShape a m w (by omega) h
    have RS := fun (w : World) => specParseShape a w (by omega)
    have hR9 := pshR_len a.data.toList
    revert RI RS hR9
    generalize pshR a.data.toList = R
    intro RI RS hR9
    have hR1 : R.1.length ≤ 1048576 := by omega
    clear hR9
    go_wp2_with fail
    refine (RI _ (cell_keep hm K5)).mono ?_
    rintro e w6 ⟨vy, rfl, oy, k6⟩
    have K6 := K5.trans (k6.mono K5.size)
    have rs_6 := rs_5.below k6
    have rx_6 := rx_5.below k6
    have rc_6 := rc_5.below k6
    clear K5 rs_5 rx_5 rc_5
    obtain ⟨Ay, capy, rfl, ry, _⟩ := oy.form
    clear oy
    clear RI
    go_wp2_with fail
    refine (RS _).mono ?_
    rintro e w7 ⟨vz, rfl, oz, k7⟩
    have K7 := K6.trans (k7.mono K6.size)
    have rs_7 := rs_6.below k7
    have rx_7 := rx_6.below k7
    have rc_7 := rc_6.below k7
    have ry_7 := ry.below k7
    clear K6 rs_6 rx_6 rc_6 ry
    obtain ⟨Az, capz, rfl, rz, _⟩ := oz.form
    clear oz
    clear RS
    go_wp2_with fail
    refine (FS _ rs_7).mono ?_
    rintro e w8 ⟨rfl, k8⟩
    have K8 := K7.trans (k8.mono K7.size)
    have rs_8 := rs_7.below k8
    have rx_8 := rx_7.below k8
    have rc_8 := rc_7.below k8
    have ry_8 := ry_7.below k8
    have rz_8 := rz.below k8
    clear K7 rs_7 rx_7 rc_7 ry_7 rz
    clear FS
    go_wp2_with fail
    refine (IS _ rs_8).mono ?_
    rintro e w9 ⟨rfl, k9⟩
    have K9 := K8.trans (k9.mono K8.size)
    have rs_9 := rs_8.below k9
    have rx_9 := rx_8.below k9
    have rc_9 := rc_8.below k9
    have ry_9 := ry_8.below k9
    have rz_9 := rz_8.below k9
    clear K8 rs_8 rx_8 rc_8 ry_8 rz_8
    clear IS
    go_wp2_with fail
    refine (II _ rs_9).mono ?_
    rintro e w10 ⟨rfl, k10⟩
    have K10 := K9.trans (k10.mono K9.size)
    have rs_10 := rs_9.below k10
    have rx_10 := rx_9.below k10
    have rc_10 := rc_9.below k10
    have ry_10 := ry_9.below k10
    have rz_10 := rz_9.below k10
    clear K9 rs_9 rx_9 rc_9 ry_9 rz_9
    clear II
    go_wp2_with fail
    refine (CS _ rs_10).mono ?_
    rintro e w11 ⟨vk, rfl, ok, k11⟩
    have K11 := K10.trans (k11.mono K10.size)
    have rs_11 := rs_10.below k11
    have rx_11 := rx_10.below k11
    have rc_11 := rc_10.below k11
    have ry_11 := ry_10.below k11
    have rz_11 := rz_10.below k11
    clear K10 rs_10 rx_10 rc_10 ry_10 rz_10
    obtain ⟨Ak, capk, rfl, rk, _⟩ := ok.form
    clear ok
    clear CS
    go_wp2_with fail
    refine (specSame _ _ _ _ _ _ _ hcl rc_11 rk).mono ?_
    rintro e w12 ⟨rfl, k12⟩
    have K12 := K11.trans (k12.mono K11.size)
    have rs_12 := rs_11.below k12
    have rx_12 := rx_11.below k12
    have rc_12 := rc_11.below k12
    have ry_12 := ry_11.below k12
    have rz_12 := rz_11.below k12
    have rk_12 := rk.below k12
    clear K11 rs_11 rx_11 rc_11 ry_11 rz_11 rk
    cases b with
    | true =>
      go_wp2_with fail
      refine (specSame _ _ _ _ _ _ _ hcl rx_12 rc_12).mono ?_
      rintro e w13 ⟨rfl, k13⟩
      have K13 := K12.trans (k13.mono K12.size)
      have rs_13 := rs_12.below k13
      have rx_13 := rx_12.below k13
      have rc_13 := rc_12.below k13
      have ry_13 := ry_12.below k13
      have rz_13 := rz_12.below k13
      have rk_13 := rk_12.below k13
      clear K12 rs_12 rx_12 rc_12 ry_12 rz_12 rk_12
      clear rx_13 rc_13 rk_13
      go_wp2_with fail
      refine (specSame _ _ _ _ _ _ _ hR1 ry_13 rz_13).mono ?_
      rintro e w14 ⟨rfl, k14⟩
      have K14 := K13.trans (k14.mono K13.size)
      have rs_14 := rs_13.below k14
      have ry_14 := ry_13.below k14
      have rz_14 := rz_13.below k14
      clear K13 rs_13 ry_13 rz_13
      clear ry_14 rz_14
      go_wp2_with fail
      refine (drawMoveShape A0 n0 cap0 _ hs0 (hc0.below K14)).mono ?_
      rintro e w15 ⟨Ab, nb, capb, bs, dx, dy, rfl, rb, hnb, x1, x2, y1, y2, k15⟩
      have K15 := K14.trans (k15.mono K14.size)
      have rs_15 := rs_14.below k15
      clear K14 rs_14
      have hnb1 : nb ≤ 1048576 := by omega
      have hbl := rb.1
      have MI := fun (w : World) h => implMoveShape Ab nb capb bs dx dy w hnb1 h
      have MS := fun (w : World) h => specMoveShape Ab nb capb bs dx dy w hnb1 h
      have hwx : IntKind.i64.wrap (-dx) = -dx := by rw [IntKind.wrap_i64]; omega
      have hwy : IntKind.i64.wrap (-dy) = -dy := by rw [IntKind.wrap_i64]; omega
      rcases move_cases bs dx dy with hmv | ⟨hmv, hback, hcor⟩
      · simp only [hmv] at MI MS
        clear hmv hbl
        go_wp2_with fail
        refine (MI _ rb).mono ?_
        rintro e w16 ⟨vd, rfl, od, k16⟩
        have K16 := K15.trans (k16.mono K15.size)
        have rs_16 := rs_15.below k16
        have rb_16 := rb.below k16
        clear K15 rs_15 rb
        obtain ⟨Ad, capd, rfl, rd, _⟩ := od.form
        simp only at rd
        clear od
        go_wp2_with fail
        refine (MS _ rb_16).mono ?_
        rintro e w17 ⟨ve, rfl, oe, k17⟩
        have K17 := K16.trans (k17.mono K16.size)
        have rs_17 := rs_16.below k17
        have rb_17 := rb_16.below k17
        have rd_17 := rd.below k17
        clear K16 rs_16 rb_16 rd
        obtain ⟨Ae, cape, rfl, re, _⟩ := oe.form
        simp only at re
        clear oe
        clear MI MS
        go_wp2_with fail
        refine (specSame _ _ _ _ _ _ _ (by simp) rd_17 re).mono ?_
        rintro e w18 ⟨rfl, k18⟩
        have K18 := K17.trans (k18.mono K17.size)
        have rs_18 := rs_17.below k18
        have rb_18 := rb_17.below k18
        have rd_18 := rd_17.below k18
        have re_18 := re.below k18
        clear K17 rs_17 rb_17 rd_17 re
        clear rd_18 re_18 rb_18
        go_wp2_with fail
        refine (SI _ rs_18).mono ?_
        rintro e w19 ⟨rfl, k19⟩
        have K19 := K18.trans (k19.mono K18.size)
        have rs_19 := rs_18.below k19
        clear K18 rs_18
        go_wp2_with fail
        refine (SS _ rs_19).mono ?_
        rintro e w20 ⟨rfl, k20⟩
        have K20 := K19.trans (k20.mono K19.size)
        have rs_20 := rs_19.below k20
        clear K19 rs_19
        clear rs_20
        clear SI SS
        go_wp2_with fail
        refine (drawSortCells A0 n0 cap0 _ hs0 (hc0.below K20)).mono ?_
        rintro e w21 ⟨Af, nf, capf, fs, rfl, rf, hnf, k21⟩
        have K21 := K20.trans (k21.mono K20.size)
        clear K20
        go_wp2_with fail
        refine (drawIsConnectedShape A0 n0 cap0 _ hs0 (hc0.below K21)).mono ?_
        rintro e w22 ⟨Ag, ng, capg, gs, rfl, rg, hng, k22⟩
        have K22 := K21.trans (k22.mono K21.size)
        have rf_22 := rf.below k22
        clear K21 rf
        go_wp2_with fail
        refine (drawHasCell A0 n0 cap0 _ hs0 (hc0.below K22)).mono ?_
        rintro e w23 ⟨Ai, ni, capi, is, px, py, rfl, ri, hni, px1, px2, py1, py2, k23⟩
        have K23 := K22.trans (k23.mono K22.size)
        have rf_23 := rf_22.below k23
        have rg_23 := rg.below k23
        clear K22 rf_22 rg
        go_wp2_with fail
        refine (drawEqualShapes A0 n0 cap0 _ hs0 (hc0.below K23)).mono ?_
        rintro e w24 ⟨Am, nm, capm, ms, An, nn, capn, ns2, rfl, rm, hnm, rn, hnn, k24⟩
        have K24 := K23.trans (k24.mono K23.size)
        have rf_24 := rf_23.below k24
        have rg_24 := rg_23.below k24
        have ri_24 := ri.below k24
        clear K23 rf_23 rg_23 ri
        have hfl : (sortC fs).length ≤ 1048576 := by have := sortC_le fs; have := rf_24.1; omega
        go_wp2_with fail
        refine (implSort Af nf capf fs _ (sorts_small nf (by omega)) (by omega) rf_24).mono ?_
        rintro e w25 ⟨vp, rfl, op, k25⟩
        have K25 := K24.trans (k25.mono K24.size)
        have rf_25 := rf_24.below k25
        have rg_25 := rg_24.below k25
        have ri_25 := ri_24.below k25
        have rm_25 := rm.below k25
        have rn_25 := rn.below k25
        clear K24 rf_24 rg_24 ri_24 rm rn
        obtain ⟨Ap, capp, rfl, rp, _⟩ := op.form
        clear op
        go_wp2_with fail
        refine (specSort Af nf capf fs _ (by omega) rf_25).mono ?_
        rintro e w26 ⟨vr, rfl, or, k26⟩
        have K26 := K25.trans (k26.mono K25.size)
        have rf_26 := rf_25.below k26
        have rg_26 := rg_25.below k26
        have ri_26 := ri_25.below k26
        have rm_26 := rm_25.below k26
        have rn_26 := rn_25.below k26
        have rp_26 := rp.below k26
        clear K25 rf_25 rg_25 ri_25 rm_25 rn_25 rp
        obtain ⟨Ar, capr, rfl, rr, _⟩ := or.form
        clear or
        go_wp2_with fail
        refine (specSame _ _ _ _ _ _ _ hfl rp_26 rr).mono ?_
        rintro e w27 ⟨rfl, k27⟩
        have K27 := K26.trans (k27.mono K26.size)
        have rf_27 := rf_26.below k27
        have rg_27 := rg_26.below k27
        have ri_27 := ri_26.below k27
        have rm_27 := rm_26.below k27
        have rn_27 := rn_26.below k27
        have rp_27 := rp_26.below k27
        have rr_27 := rr.below k27
        clear K26 rf_26 rg_26 ri_26 rm_26 rn_26 rp_26 rr
        clear rp_27 rr_27 rf_27
        go_wp2_with fail
        refine (implIsConnected Ag ng capg gs _ (by omega) rg_27).mono ?_
        rintro e w28 ⟨rfl, k28⟩
        have K28 := K27.trans (k28.mono K27.size)
        have rg_28 := rg_27.below k28
        have ri_28 := ri_27.below k28
        have rm_28 := rm_27.below k28
        have rn_28 := rn_27.below k28
        clear K27 rg_27 ri_27 rm_27 rn_27
        go_wp2_with fail
        refine (specIsConnected Ag ng capg gs _ (by omega) rg_28).mono ?_
        rintro e w29 ⟨rfl, k29⟩
        have K29 := K28.trans (k29.mono K28.size)
        have rg_29 := rg_28.below k29
        have ri_29 := ri_28.below k29
        have rm_29 := rm_28.below k29
        have rn_29 := rn_28.below k29
        clear K28 rg_28 ri_28 rm_28 rn_28
        clear rg_29
        go_wp2_with fail
        refine (implHasCell Ai ni capi is px py _ (by omega) ri_29).mono ?_
        rintro e w30 ⟨rfl, k30⟩
        have K30 := K29.trans (k30.mono K29.size)
        have ri_30 := ri_29.below k30
        have rm_30 := rm_29.below k30
        have rn_30 := rn_29.below k30
        clear K29 ri_29 rm_29 rn_29
        go_wp2_with fail
        refine (specHasCell Ai ni capi is px py _ (by omega) ri_30).mono ?_
        rintro e w ⟨rfl, rfl⟩
        clear ri_30
        go_wp2_with fail
        refine (implEqualShapes Am An nm nn capm capn ms ns2 _ (by omega) (by omega) rm_30 rn_30).mono ?_
        rintro e w31 ⟨rfl, k31⟩
        have K31 := K30.trans (k31.mono K30.size)
        have rm_31 := rm_30.below k31
        have rn_31 := rn_30.below k31
        clear K30 rm_30 rn_30
        go_wp2_with fail
        refine (specEqualShapes Am An nm nn capm capn ms ns2 _ (by omega) (by omega) rm_31 rn_31).mono ?_
        rintro e w32 ⟨rfl, k32⟩
        have K32 := K31.trans (k32.mono K31.size)
        have rm_32 := rm_31.below k32
        have rn_32 := rn_31.below k32
        clear K31 rm_31 rn_31
        go_wp2
        go_ret
        exact ⟨rfl, K32⟩
      · have hMl : (movC bs dx dy).length ≤ 1048576 := by rw [movC_length]; omega
        have hbl9 : bs.length ≤ 1048576 := by omega
        have MB := fun (A : Option Addr) (n cap : Nat) (w : World) hn h => implMoveShape A n cap (movC bs dx dy) (-dx) (-dy) w hn h
        have CM := fun (A : Option Addr) (n cap : Nat) (w : World) hn h => implCornerShape A n cap (movC bs dx dy) w hn h
        have CB := fun (w : World) h => specCornerShape Ab nb capb bs w hnb1 h
        have hcl2 : (cornerShape bs).length ≤ 1048576 := cornerShape_len bs hbl9
        simp only [hmv] at MI MS
        simp only [hback] at MB
        simp only [hcor] at CM
        obtain ⟨M, hM⟩ : ∃ M, M = movC bs dx dy := ⟨_, rfl⟩
        obtain ⟨Q, hQ⟩ : ∃ Q, Q = cornerShape bs := ⟨_, rfl⟩
        simp only [← hM] at MI MS MB CM hMl
        simp only [← hQ] at CM CB hcl2
        have HBL := Lib.hid hbl
        clear hmv hback hcor hM hQ hbl
        go_wp2_with fail
        refine (MI _ rb).mono ?_
        rintro e w16 ⟨vd, rfl, od, k16⟩
        have K16 := K15.trans (k16.mono K15.size)
        have rs_16 := rs_15.below k16
        have rb_16 := rb.below k16
        clear K15 rs_15 rb
        obtain ⟨Ad, capd, rfl, rd, _⟩ := od.form
        simp only at rd
        clear od
        go_wp2_with fail
        refine (MS _ rb_16).mono ?_
        rintro e w17 ⟨ve, rfl, oe, k17⟩
        have K17 := K16.trans (k17.mono K16.size)
        have rs_17 := rs_16.below k17
        have rb_17 := rb_16.below k17
        have rd_17 := rd.below k17
        clear K16 rs_16 rb_16 rd
        obtain ⟨Ae, cape, rfl, re, _⟩ := oe.form
        simp only at re
        clear oe
        clear MI MS
        go_wp2_with fail
        refine (specSame _ _ _ _ _ _ _ hMl rd_17 re).mono ?_
        rintro e w18 ⟨rfl, k18⟩
        have K18 := K17.trans (k18.mono K17.size)
        have rs_18 := rs_17.below k18
        have rb_18 := rb_17.below k18
        have rd_18 := rd_17.below k18
        have re_18 := re.below k18
        clear K17 rs_17 rb_17 rd_17 re
        go_wp2_with fail
        refine (MB _ _ _ _ hMl re_18).mono ?_
        rintro e w19 ⟨vq, rfl, oq, k19⟩
        have K19 := K18.trans (k19.mono K18.size)
        have rs_19 := rs_18.below k19
        have rb_19 := rb_18.below k19
        have rd_19 := rd_18.below k19
        have re_19 := re_18.below k19
        clear K18 rs_18 rb_18 rd_18 re_18
        obtain ⟨Aq, capq, rfl, rq, _⟩ := oq.form
        simp only at rq
        clear oq
        clear MB
        go_wp2_with fail
        refine (specSame2 _ _ _ _ _ _ _ _ HBL.out hbl9 rq rb_19).mono ?_
        rintro e w20 ⟨rfl, k20⟩
        have K20 := K19.trans (k20.mono K19.size)
        have rs_20 := rs_19.below k20
        have rb_20 := rb_19.below k20
        have rd_20 := rd_19.below k20
        have re_20 := re_19.below k20
        have rq_20 := rq.below k20
        clear K19 rs_19 rb_19 rd_19 re_19 rq
        clear rq_20
        go_wp2_with fail
        refine (CM _ _ _ _ hMl re_20).mono ?_
        rintro e w21 ⟨vu, rfl, ou, k21⟩
        have K21 := K20.trans (k21.mono K20.size)
        have rs_21 := rs_20.below k21
        have rb_21 := rb_20.below k21
        have rd_21 := rd_20.below k21
        have re_21 := re_20.below k21
        clear K20 rs_20 rb_20 rd_20 re_20
        obtain ⟨Au, capu, rfl, ru, _⟩ := ou.form
        clear ou
        clear CM
        go_wp2_with fail
        refine (CB _ rb_21).mono ?_
        rintro e w22 ⟨vo, rfl, oo, k22⟩
        have K22 := K21.trans (k22.mono K21.size)
        have rs_22 := rs_21.below k22
        have rb_22 := rb_21.below k22
        have rd_22 := rd_21.below k22
        have re_22 := re_21.below k22
        have ru_22 := ru.below k22
        clear K21 rs_21 rb_21 rd_21 re_21 ru
        obtain ⟨Ao, capo, rfl, ro, _⟩ := oo.form
        clear oo
        clear CB
        go_wp2_with fail
        refine (specSame _ _ _ _ _ _ _ hcl2 ru_22 ro).mono ?_
        rintro e w23 ⟨rfl, k23⟩
        have K23 := K22.trans (k23.mono K22.size)
        have rs_23 := rs_22.below k23
        have rb_23 := rb_22.below k23
        have rd_23 := rd_22.below k23
        have re_23 := re_22.below k23
        have ru_23 := ru_22.below k23
        have ro_23 := ro.below k23
        clear K22 rs_22 rb_22 rd_22 re_22 ru_22 ro
        clear ru_23 ro_23
        clear rd_23 re_23 rb_23
        go_wp2_with fail
        refine (SI _ rs_23).mono ?_
        rintro e w24 ⟨rfl, k24⟩
        have K24 := K23.trans (k24.mono K23.size)
        have rs_24 := rs_23.below k24
        clear K23 rs_23
        go_wp2_with fail
        refine (SS _ rs_24).mono ?_
        rintro e w25 ⟨rfl, k25⟩
        have K25 := K24.trans (k25.mono K24.size)
        have rs_25 := rs_24.below k25
        clear K24 rs_24
        clear rs_25
        clear SI SS
        go_wp2_with fail
        refine (drawSortCells A0 n0 cap0 _ hs0 (hc0.below K25)).mono ?_
        rintro e w26 ⟨Af, nf, capf, fs, rfl, rf, hnf, k26⟩
        have K26 := K25.trans (k26.mono K25.size)
        clear K25
        go_wp2_with fail
        refine (drawIsConnectedShape A0 n0 cap0 _ hs0 (hc0.below K26)).mono ?_
        rintro e w27 ⟨Ag, ng, capg, gs, rfl, rg, hng, k27⟩
        have K27 := K26.trans (k27.mono K26.size)
        have rf_27 := rf.below k27
        clear K26 rf
        go_wp2_with fail
        refine (drawHasCell A0 n0 cap0 _ hs0 (hc0.below K27)).mono ?_
        rintro e w28 ⟨Ai, ni, capi, is, px, py, rfl, ri, hni, px1, px2, py1, py2, k28⟩
        have K28 := K27.trans (k28.mono K27.size)
        have rf_28 := rf_27.below k28
        have rg_28 := rg.below k28
        clear K27 rf_27 rg
        go_wp2_with fail
        refine (drawEqualShapes A0 n0 cap0 _ hs0 (hc0.below K28)).mono ?_
        rintro e w29 ⟨Am, nm, capm, ms, An, nn, capn, ns2, rfl, rm, hnm, rn, hnn, k29⟩
        have K29 := K28.trans (k29.mono K28.size)
        have rf_29 := rf_28.below k29
        have rg_29 := rg_28.below k29
        have ri_29 := ri.below k29
        clear K28 rf_28 rg_28 ri
        have hfl : (sortC fs).length ≤ 1048576 := by have := sortC_le fs; have := rf_29.1; omega
        go_wp2_with fail
        refine (implSort Af nf capf fs _ (sorts_small nf (by omega)) (by omega) rf_29).mono ?_
        rintro e w30 ⟨vp, rfl, op, k30⟩
        have K30 := K29.trans (k30.mono K29.size)
        have rf_30 := rf_29.below k30
        have rg_30 := rg_29.below k30
        have ri_30 := ri_29.below k30
        have rm_30 := rm.below k30
        have rn_30 := rn.below k30
        clear K29 rf_29 rg_29 ri_29 rm rn
        obtain ⟨Ap, capp, rfl, rp, _⟩ := op.form
        clear op
        go_wp2_with fail
        refine (specSort Af nf capf fs _ (by omega) rf_30).mono ?_
        rintro e w31 ⟨vr, rfl, or, k31⟩
        have K31 := K30.trans (k31.mono K30.size)
        have rf_31 := rf_30.below k31
        have rg_31 := rg_30.below k31
        have ri_31 := ri_30.below k31
        have rm_31 := rm_30.below k31
        have rn_31 := rn_30.below k31
        have rp_31 := rp.below k31
        clear K30 rf_30 rg_30 ri_30 rm_30 rn_30 rp
        obtain ⟨Ar, capr, rfl, rr, _⟩ := or.form
        clear or
        go_wp2_with fail
        refine (specSame _ _ _ _ _ _ _ hfl rp_31 rr).mono ?_
        rintro e w32 ⟨rfl, k32⟩
        have K32 := K31.trans (k32.mono K31.size)
        have rf_32 := rf_31.below k32
        have rg_32 := rg_31.below k32
        have ri_32 := ri_31.below k32
        have rm_32 := rm_31.below k32
        have rn_32 := rn_31.below k32
        have rp_32 := rp_31.below k32
        have rr_32 := rr.below k32
        clear K31 rf_31 rg_31 ri_31 rm_31 rn_31 rp_31 rr
        clear rp_32 rr_32 rf_32
        go_wp2_with fail
        refine (implIsConnected Ag ng capg gs _ (by omega) rg_32).mono ?_
        rintro e w33 ⟨rfl, k33⟩
        have K33 := K32.trans (k33.mono K32.size)
        have rg_33 := rg_32.below k33
        have ri_33 := ri_32.below k33
        have rm_33 := rm_32.below k33
        have rn_33 := rn_32.below k33
        clear K32 rg_32 ri_32 rm_32 rn_32
        go_wp2_with fail
        refine (specIsConnected Ag ng capg gs _ (by omega) rg_33).mono ?_
        rintro e w34 ⟨rfl, k34⟩
        have K34 := K33.trans (k34.mono K33.size)
        have rg_34 := rg_33.below k34
        have ri_34 := ri_33.below k34
        have rm_34 := rm_33.below k34
        have rn_34 := rn_33.below k34
        clear K33 rg_33 ri_33 rm_33 rn_33
        clear rg_34
        go_wp2_with fail
        refine (implHasCell Ai ni capi is px py _ (by omega) ri_34).mono ?_
        rintro e w35 ⟨rfl, k35⟩
        have K35 := K34.trans (k35.mono K34.size)
        have ri_35 := ri_34.below k35
        have rm_35 := rm_34.below k35
        have rn_35 := rn_34.below k35
        clear K34 ri_34 rm_34 rn_34
        go_wp2_with fail
        refine (specHasCell Ai ni capi is px py _ (by omega) ri_35).mono ?_
        rintro e w ⟨rfl, rfl⟩
        clear ri_35
        go_wp2_with fail
        refine (implEqualShapes Am An nm nn capm capn ms ns2 _ (by omega) (by omega) rm_35 rn_35).mono ?_
        rintro e w36 ⟨rfl, k36⟩
        have K36 := K35.trans (k36.mono K35.size)
        have rm_36 := rm_35.below k36
        have rn_36 := rn_35.below k36
        clear K35 rm_35 rn_35
        go_wp2_with fail
        refine (specEqualShapes Am An nm nn capm capn ms ns2 _ (by omega) (by omega) rm_36 rn_36).mono ?_
        rintro e w37 ⟨rfl, k37⟩
        have K37 := K36.trans (k37.mono K36.size)
        have rm_37 := rm_36.below k37
        have rn_37 := rn_36.below k37
        clear K36 rm_36 rn_36
        go_wp2
        go_ret
        exact ⟨rfl, K37⟩
    | false =>
      clear rx_12 rc_12 rk_12
      go_wp2_with fail
      refine (specSame _ _ _ _ _ _ _ hR1 ry_12 rz_12).mono ?_
      rintro e w13 ⟨rfl, k13⟩
      have K13 := K12.trans (k13.mono K12.size)
      have rs_13 := rs_12.below k13
      have ry_13 := ry_12.below k13
      have rz_13 := rz_12.below k13
      clear K12 rs_12 ry_12 rz_12
      clear ry_13 rz_13
      go_wp2_with fail
      refine (drawMoveShape A0 n0 cap0 _ hs0 (hc0.below K13)).mono ?_
      rintro e w14 ⟨Ab, nb, capb, bs, dx, dy, rfl, rb, hnb, x1, x2, y1, y2, k14⟩
      have K14 := K13.trans (k14.mono K13.size)
      have rs_14 := rs_13.below k14
      clear K13 rs_13
      have hnb1 : nb ≤ 1048576 := by omega
      have hbl := rb.1
      have MI := fun (w : World) h => implMoveShape Ab nb capb bs dx dy w hnb1 h
      have MS := fun (w : World) h => specMoveShape Ab nb capb bs dx dy w hnb1 h
      have hwx : IntKind.i64.wrap (-dx) = -dx := by rw [IntKind.wrap_i64]; omega
      have hwy : IntKind.i64.wrap (-dy) = -dy := by rw [IntKind.wrap_i64]; omega
      rcases move_cases bs dx dy with hmv | ⟨hmv, hback, hcor⟩
      · simp only [hmv] at MI MS
        clear hmv hbl
        go_wp2_with fail
        refine (MI _ rb).mono ?_
        rintro e w15 ⟨vd, rfl, od, k15⟩
        have K15 := K14.trans (k15.mono K14.size)
        have rs_15 := rs_14.below k15
        have rb_15 := rb.below k15
        clear K14 rs_14 rb
        obtain ⟨Ad, capd, rfl, rd, _⟩ := od.form
        simp only at rd
        clear od
        go_wp2_with fail
        refine (MS _ rb_15).mono ?_
        rintro e w16 ⟨ve, rfl, oe, k16⟩
        have K16 := K15.trans (k16.mono K15.size)
        have rs_16 := rs_15.below k16
        have rb_16 := rb_15.below k16
        have rd_16 := rd.below k16
        clear K15 rs_15 rb_15 rd
        obtain ⟨Ae, cape, rfl, re, _⟩ := oe.form
        simp only at re
        clear oe
        clear MI MS
        go_wp2_with fail
        refine (specSame _ _ _ _ _ _ _ (by simp) rd_16 re).mono ?_
        rintro e w17 ⟨rfl, k17⟩
        have K17 := K16.trans (k17.mono K16.size)
        have rs_17 := rs_16.below k17
        have rb_17 := rb_16.below k17
        have rd_17 := rd_16.below k17
        have re_17 := re.below k17
        clear K16 rs_16 rb_16 rd_16 re
        clear rd_17 re_17 rb_17
        go_wp2_with fail
        refine (SI _ rs_17).mono ?_
        rintro e w18 ⟨rfl, k18⟩
        have K18 := K17.trans (k18.mono K17.size)
        have rs_18 := rs_17.below k18
        clear K17 rs_17
        go_wp2_with fail
        refine (SS _ rs_18).mono ?_
        rintro e w19 ⟨rfl, k19⟩
        have K19 := K18.trans (k19.mono K18.size)
        have rs_19 := rs_18.below k19
        clear K18 rs_18
        clear rs_19
        clear SI SS
        go_wp2_with fail
        refine (drawSortCells A0 n0 cap0 _ hs0 (hc0.below K19)).mono ?_
        rintro e w20 ⟨Af, nf, capf, fs, rfl, rf, hnf, k20⟩
        have K20 := K19.trans (k20.mono K19.size)
        clear K19
        go_wp2_with fail
        refine (drawIsConnectedShape A0 n0 cap0 _ hs0 (hc0.below K20)).mono ?_
        rintro e w21 ⟨Ag, ng, capg, gs, rfl, rg, hng, k21⟩
        have K21 := K20.trans (k21.mono K20.size)
        have rf_21 := rf.below k21
        clear K20 rf
        go_wp2_with fail
        refine (drawHasCell A0 n0 cap0 _ hs0 (hc0.below K21)).mono ?_
        rintro e w22 ⟨Ai, ni, capi, is, px, py, rfl, ri, hni, px1, px2, py1, py2, k22⟩
        have K22 := K21.trans (k22.mono K21.size)
        have rf_22 := rf_21.below k22
        have rg_22 := rg.below k22
        clear K21 rf_21 rg
        go_wp2_with fail
        refine (drawEqualShapes A0 n0 cap0 _ hs0 (hc0.below K22)).mono ?_
        rintro e w23 ⟨Am, nm, capm, ms, An, nn, capn, ns2, rfl, rm, hnm, rn, hnn, k23⟩
        have K23 := K22.trans (k23.mono K22.size)
        have rf_23 := rf_22.below k23
        have rg_23 := rg_22.below k23
        have ri_23 := ri.below k23
        clear K22 rf_22 rg_22 ri
        have hfl : (sortC fs).length ≤ 1048576 := by have := sortC_le fs; have := rf_23.1; omega
        go_wp2_with fail
        refine (implSort Af nf capf fs _ (sorts_small nf (by omega)) (by omega) rf_23).mono ?_
        rintro e w24 ⟨vp, rfl, op, k24⟩
        have K24 := K23.trans (k24.mono K23.size)
        have rf_24 := rf_23.below k24
        have rg_24 := rg_23.below k24
        have ri_24 := ri_23.below k24
        have rm_24 := rm.below k24
        have rn_24 := rn.below k24
        clear K23 rf_23 rg_23 ri_23 rm rn
        obtain ⟨Ap, capp, rfl, rp, _⟩ := op.form
        clear op
        go_wp2_with fail
        refine (specSort Af nf capf fs _ (by omega) rf_24).mono ?_
        rintro e w25 ⟨vr, rfl, or, k25⟩
        have K25 := K24.trans (k25.mono K24.size)
        have rf_25 := rf_24.below k25
        have rg_25 := rg_24.below k25
        have ri_25 := ri_24.below k25
        have rm_25 := rm_24.below k25
        have rn_25 := rn_24.below k25
        have rp_25 := rp.below k25
        clear K24 rf_24 rg_24 ri_24 rm_24 rn_24 rp
        obtain ⟨Ar, capr, rfl, rr, _⟩ := or.form
        clear or
        go_wp2_with fail
        refine (specSame _ _ _ _ _ _ _ hfl rp_25 rr).mono ?_
        rintro e w26 ⟨rfl, k26⟩
        have K26 := K25.trans (k26.mono K25.size)
        have rf_26 := rf_25.below k26
        have rg_26 := rg_25.below k26
        have ri_26 := ri_25.below k26
        have rm_26 := rm_25.below k26
        have rn_26 := rn_25.below k26
        have rp_26 := rp_25.below k26
        have rr_26 := rr.below k26
        clear K25 rf_25 rg_25 ri_25 rm_25 rn_25 rp_25 rr
        clear rp_26 rr_26 rf_26
        go_wp2_with fail
        refine (implIsConnected Ag ng capg gs _ (by omega) rg_26).mono ?_
        rintro e w27 ⟨rfl, k27⟩
        have K27 := K26.trans (k27.mono K26.size)
        have rg_27 := rg_26.below k27
        have ri_27 := ri_26.below k27
        have rm_27 := rm_26.below k27
        have rn_27 := rn_26.below k27
        clear K26 rg_26 ri_26 rm_26 rn_26
        go_wp2_with fail
        refine (specIsConnected Ag ng capg gs _ (by omega) rg_27).mono ?_
        rintro e w28 ⟨rfl, k28⟩
        have K28 := K27.trans (k28.mono K27.size)
        have rg_28 := rg_27.below k28
        have ri_28 := ri_27.below k28
        have rm_28 := rm_27.below k28
        have rn_28 := rn_27.below k28
        clear K27 rg_27 ri_27 rm_27 rn_27
        clear rg_28
        go_wp2_with fail
        refine (implHasCell Ai ni capi is px py _ (by omega) ri_28).mono ?_
        rintro e w29 ⟨rfl, k29⟩
        have K29 := K28.trans (k29.mono K28.size)
        have ri_29 := ri_28.below k29
        have rm_29 := rm_28.below k29
        have rn_29 := rn_28.below k29
        clear K28 ri_28 rm_28 rn_28
        go_wp2_with fail
        refine (specHasCell Ai ni capi is px py _ (by omega) ri_29).mono ?_
        rintro e w ⟨rfl, rfl⟩
        clear ri_29
        go_wp2_with fail
        refine (implEqualShapes Am An nm nn capm capn ms ns2 _ (by omega) (by omega) rm_29 rn_29).mono ?_
        rintro e w30 ⟨rfl, k30⟩
        have K30 := K29.trans (k30.mono K29.size)
        have rm_30 := rm_29.below k30
        have rn_30 := rn_29.below k30
        clear K29 rm_29 rn_29
        go_wp2_with fail
        refine (specEqualShapes Am An nm nn capm capn ms ns2 _ (by omega) (by omega) rm_30 rn_30).mono ?_
        rintro e w31 ⟨rfl, k31⟩
        have K31 := K30.trans (k31.mono K30.size)
        have rm_31 := rm_30.below k31
        have rn_31 := rn_30.below k31
        clear K30 rm_30 rn_30
        go_wp2
        go_ret
        exact ⟨rfl, K31⟩
      · have hMl : (movC bs dx dy).length ≤ 1048576 := by rw [movC_length]; omega
        have hbl9 : bs.length ≤ 1048576 := by omega
        have MB := fun (A : Option Addr) (n cap : Nat) (w : World) hn h => implMoveShape A n cap (movC bs dx dy) (-dx) (-dy) w hn h
        have CM := fun (A : Option Addr) (n cap : Nat) (w : World) hn h => implCornerShape A n cap (movC bs dx dy) w hn h
        have CB := fun (w : World) h => specCornerShape Ab nb capb bs w hnb1 h
        have hcl2 : (cornerShape bs).length ≤ 1048576 := cornerShape_len bs hbl9
        simp only [hmv] at MI MS
        simp only [hback] at MB
        simp only [hcor] at CM
        obtain ⟨M, hM⟩ : ∃ M, M = movC bs dx dy := ⟨_, rfl⟩
        obtain ⟨Q, hQ⟩ : ∃ Q, Q = cornerShape bs := ⟨_, rfl⟩
        simp only [← hM] at MI MS MB CM hMl
        simp only [← hQ] at CM CB hcl2
        have HBL := Lib.hid hbl
        clear hmv hback hcor hM hQ hbl
        go_wp2_with fail
        refine (MI _ rb).mono ?_
        rintro e w15 ⟨vd, rfl, od, k15⟩
        have K15 := K14.trans (k15.mono K14.size)
        have rs_15 := rs_14.below k15
        have rb_15 := rb.below k15
        clear K14 rs_14 rb
        obtain ⟨Ad, capd, rfl, rd, _⟩ := od.form
        simp only at rd
        clear od
        go_wp2_with fail
        refine (MS _ rb_15).mono ?_
        rintro e w16 ⟨ve, rfl, oe, k16⟩
        have K16 := K15.trans (k16.mono K15.size)
        have rs_16 := rs_15.below k16
        have rb_16 := rb_15.below k16
        have rd_16 := rd.below k16
        clear K15 rs_15 rb_15 rd
        obtain ⟨Ae, cape, rfl, re, _⟩ := oe.form
        simp only at re
        clear oe
        clear MI MS
        go_wp2_with fail
        refine (specSame _ _ _ _ _ _ _ hMl rd_16 re).mono ?_
        rintro e w17 ⟨rfl, k17⟩
        have K17 := K16.trans (k17.mono K16.size)
        have rs_17 := rs_16.below k17
        have rb_17 := rb_16.below k17
        have rd_17 := rd_16.below k17
        have re_17 := re.below k17
        clear K16 rs_16 rb_16 rd_16 re
        go_wp2_with fail
        refine (MB _ _ _ _ hMl re_17).mono ?_
        rintro e w18 ⟨vq, rfl, oq, k18⟩
        have K18 := K17.trans (k18.mono K17.size)
        have rs_18 := rs_17.below k18
        have rb_18 := rb_17.below k18
        have rd_18 := rd_17.below k18
        have re_18 := re_17.below k18
        clear K17 rs_17 rb_17 rd_17 re_17
        obtain ⟨Aq, capq, rfl, rq, _⟩ := oq.form
        simp only at rq
        clear oq
        clear MB
        go_wp2_with fail
        refine (specSame2 _ _ _ _ _ _ _ _ HBL.out hbl9 rq rb_18).mono ?_
        rintro e w19 ⟨rfl, k19⟩
        have K19 := K18.trans (k19.mono K18.size)
        have rs_19 := rs_18.below k19
        have rb_19 := rb_18.below k19
        have rd_19 := rd_18.below k19
        have re_19 := re_18.below k19
        have rq_19 := rq.below k19
        clear K18 rs_18 rb_18 rd_18 re_18 rq
        clear rq_19
        go_wp2_with fail
        refine (CM _ _ _ _ hMl re_19).mono ?_
        rintro e w20 ⟨vu, rfl, ou, k20⟩
        have K20 := K19.trans (k20.mono K19.size)
        have rs_20 := rs_19.below k20
        have rb_20 := rb_19.below k20
        have rd_20 := rd_19.below k20
        have re_20 := re_19.below k20
        clear K19 rs_19 rb_19 rd_19 re_19
        obtain ⟨Au, capu, rfl, ru, _⟩ := ou.form
        clear ou
        clear CM
        go_wp2_with fail
        refine (CB _ rb_20).mono ?_
        rintro e w21 ⟨vo, rfl, oo, k21⟩
        have K21 := K20.trans (k21.mono K20.size)
        have rs_21 := rs_20.below k21
        have rb_21 := rb_20.below k21
        have rd_21 := rd_20.below k21
        have re_21 := re_20.below k21
        have ru_21 := ru.below k21
        clear K20 rs_20 rb_20 rd_20 re_20 ru
        obtain ⟨Ao, capo, rfl, ro, _⟩ := oo.form
        clear oo
        clear CB
        go_wp2_with fail
        refine (specSame _ _ _ _ _ _ _ hcl2 ru_21 ro).mono ?_
        rintro e w22 ⟨rfl, k22⟩
        have K22 := K21.trans (k22.mono K21.size)
        have rs_22 := rs_21.below k22
        have rb_22 := rb_21.below k22
        have rd_22 := rd_21.below k22
        have re_22 := re_21.below k22
        have ru_22 := ru_21.below k22
        have ro_22 := ro.below k22
        clear K21 rs_21 rb_21 rd_21 re_21 ru_21 ro
        clear ru_22 ro_22
        clear rd_22 re_22 rb_22
        go_wp2_with fail
        refine (SI _ rs_22).mono ?_
        rintro e w23 ⟨rfl, k23⟩
        have K23 := K22.trans (k23.mono K22.size)
        have rs_23 := rs_22.below k23
        clear K22 rs_22
        go_wp2_with fail
        refine (SS _ rs_23).mono ?_
        rintro e w24 ⟨rfl, k24⟩
        have K24 := K23.trans (k24.mono K23.size)
        have rs_24 := rs_23.below k24
        clear K23 rs_23
        clear rs_24
        clear SI SS
        go_wp2_with fail
        refine (drawSortCells A0 n0 cap0 _ hs0 (hc0.below K24)).mono ?_
        rintro e w25 ⟨Af, nf, capf, fs, rfl, rf, hnf, k25⟩
        have K25 := K24.trans (k25.mono K24.size)
        clear K24
        go_wp2_with fail
        refine (drawIsConnectedShape A0 n0 cap0 _ hs0 (hc0.below K25)).mono ?_
        rintro e w26 ⟨Ag, ng, capg, gs, rfl, rg, hng, k26⟩
        have K26 := K25.trans (k26.mono K25.size)
        have rf_26 := rf.below k26
        clear K25 rf
        go_wp2_with fail
        refine (drawHasCell A0 n0 cap0 _ hs0 (hc0.below K26)).mono ?_
        rintro e w27 ⟨Ai, ni, capi, is, px, py, rfl, ri, hni, px1, px2, py1, py2, k27⟩
        have K27 := K26.trans (k27.mono K26.size)
        have rf_27 := rf_26.below k27
        have rg_27 := rg.below k27
        clear K26 rf_26 rg
        go_wp2_with fail
        refine (drawEqualShapes A0 n0 cap0 _ hs0 (hc0.below K27)).mono ?_
        rintro e w28 ⟨Am, nm, capm, ms, An, nn, capn, ns2, rfl, rm, hnm, rn, hnn, k28⟩
        have K28 := K27.trans (k28.mono K27.size)
        have rf_28 := rf_27.below k28
        have rg_28 := rg_27.below k28
        have ri_28 := ri.below k28
        clear K27 rf_27 rg_27 ri
        have hfl : (sortC fs).length ≤ 1048576 := by have := sortC_le fs; have := rf_28.1; omega
        go_wp2_with fail
        refine (implSort Af nf capf fs _ (sorts_small nf (by omega)) (by omega) rf_28).mono ?_
        rintro e w29 ⟨vp, rfl, op, k29⟩
        have K29 := K28.trans (k29.mono K28.size)
        have rf_29 := rf_28.below k29
        have rg_29 := rg_28.below k29
        have ri_29 := ri_28.below k29
        have rm_29 := rm.below k29
        have rn_29 := rn.below k29
        clear K28 rf_28 rg_28 ri_28 rm rn
        obtain ⟨Ap, capp, rfl, rp, _⟩ := op.form
        clear op
        go_wp2_with fail
        refine (specSort Af nf capf fs _ (by omega) rf_29).mono ?_
        rintro e w30 ⟨vr, rfl, or, k30⟩
        have K30 := K29.trans (k30.mono K29.size)
        have rf_30 := rf_29.below k30
        have rg_30 := rg_29.below k30
        have ri_30 := ri_29.below k30
        have rm_30 := rm_29.below k30
        have rn_30 := rn_29.below k30
        have rp_30 := rp.below k30
        clear K29 rf_29 rg_29 ri_29 rm_29 rn_29 rp
        obtain ⟨Ar, capr, rfl, rr, _⟩ := or.form
        clear or
        go_wp2_with fail
        refine (specSame _ _ _ _ _ _ _ hfl rp_30 rr).mono ?_
        rintro e w31 ⟨rfl, k31⟩
        have K31 := K30.trans (k31.mono K30.size)
        have rf_31 := rf_30.below k31
        have rg_31 := rg_30.below k31
        have ri_31 := ri_30.below k31
        have rm_31 := rm_30.below k31
        have rn_31 := rn_30.below k31
        have rp_31 := rp_30.below k31
        have rr_31 := rr.below k31
        clear K30 rf_30 rg_30 ri_30 rm_30 rn_30 rp_30 rr
        clear rp_31 rr_31 rf_31
        go_wp2_with fail
        refine (implIsConnected Ag ng capg gs _ (by omega) rg_31).mono ?_
        rintro e w32 ⟨rfl, k32⟩
        have K32 := K31.trans (k32.mono K31.size)
        have rg_32 := rg_31.below k32
        have ri_32 := ri_31.below k32
        have rm_32 := rm_31.below k32
        have rn_32 := rn_31.below k32
        clear K31 rg_31 ri_31 rm_31 rn_31
        go_wp2_with fail
        refine (specIsConnected Ag ng capg gs _ (by omega) rg_32).mono ?_
        rintro e w33 ⟨rfl, k33⟩
        have K33 := K32.trans (k33.mono K32.size)
        have rg_33 := rg_32.below k33
        have ri_33 := ri_32.below k33
        have rm_33 := rm_32.below k33
        have rn_33 := rn_32.below k33
        clear K32 rg_32 ri_32 rm_32 rn_32
        clear rg_33
        go_wp2_with fail
        refine (implHasCell Ai ni capi is px py _ (by omega) ri_33).mono ?_
        rintro e w34 ⟨rfl, k34⟩
        have K34 := K33.trans (k34.mono K33.size)
        have ri_34 := ri_33.below k34
        have rm_34 := rm_33.below k34
        have rn_34 := rn_33.below k34
        clear K33 ri_33 rm_33 rn_33
        go_wp2_with fail
        refine (specHasCell Ai ni capi is px py _ (by omega) ri_34).mono ?_
        rintro e w ⟨rfl, rfl⟩
        clear ri_34
        go_wp2_with fail
        refine (implEqualShapes Am An nm nn capm capn ms ns2 _ (by omega) (by omega) rm_34 rn_34).mono ?_
        rintro e w35 ⟨rfl, k35⟩
        have K35 := K34.trans (k35.mono K34.size)
        have rm_35 := rm_34.below k35
        have rn_35 := rn_34.below k35
        clear K34 rm_34 rn_34
        go_wp2_with fail
        refine (specEqualShapes Am An nm nn capm capn ms ns2 _ (by omega) (by omega) rm_35 rn_35).mono ?_
        rintro e w36 ⟨rfl, k36⟩
        have K36 := K35.trans (k36.mono K35.size)
        have rm_36 := rm_35.below k36
        have rn_36 := rn_35.below k36
        clear K35 rm_35 rn_35
        go_wp2
        go_ret
        exact ⟨rfl, K36⟩
  · go_enter Tryz.func3, Tryz.ntmps3
    go_wp2_with fail
    refine (bigYes A0 n0 cap0 _ hs0).mono ?_
    rintro e w ⟨rfl, rfl⟩
    go_wp2
    go_ret
    exact ⟨rfl, Below.refl _ _⟩
end Go.Proofs.YtacegndmclnbnaaGreatDoor
