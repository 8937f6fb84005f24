/- The law FnMotions, walked: it returns true. No condition. -/
import Derived.Test.YthhaojbnnacdbaaMoG
import Derived.Test.YthhaojbnnacdbaaArgsB
namespace Go.Proofs.Ythhaojbnnacdbaa
open Go.RowKit
set_option linter.unusedVariables false

set_option maxRecDepth 100000 in
set_option maxHeartbeats 8000000 in
theorem walkFnMotions (W : World) (v0 : Value) (u0 : Unit) (h0 : BytesArg W v0) : Calls Try.prog 14 #[v0] W fun e w' => e = .returned (.bool true) ∧ Below W.heap.size W w' := by
  obtain ⟨A0, n0, cap0, rfl, hm0, hc0⟩ := h0
  unfold maxLen at hm0
  by_cases hs0 : n0 ≤ 1048576
  · go_enter Try.func14, Try.ntmps14
    go_wp2_with fail
    refine (big_no A0 n0 cap0 _ hs0).mono ?_
    rintro e w1 ⟨rfl, rfl⟩
    go_wp2_with fail
    refine (drawCompose A0 n0 cap0 _ hs0 hc0).mono ?_
    rintro e w1 ⟨a, b, hab, rfl, k1⟩
    have K1 := k1
    have hc0_1 := hc0.below k1
    clear hc0
    obtain ⟨M, hM⟩ : ∃ M, M = compM a b := ⟨_, rfl⟩
    obtain ⟨I, hI⟩ : ∃ I, I = invM a := ⟨_, rfl⟩
    obtain ⟨J, hJ⟩ : ∃ J, J = invM b := ⟨_, rfl⟩
    have Ci := fun w => implCompose a b w
    have Cs := fun w => specCompose a b w
    have Ii := fun w => implInverse a w
    have Is := fun w => specInverse a w
    have Ij := fun w => implInverse b w
    rw [← hM] at Ci Cs
    rw [← hI] at Ii Is
    rw [← hJ] at Ij
    have hcj := fun (h : 0 ≤ M) => (by rw [hM, hJ] at *; exact comp_inv_at hab h : compM M J = a)
    have HCJ := Lib.hid hcj
    clear hM hI hJ hcj hab
    go_wp2_with fail
    refine (Ci _).mono ?_
    rintro e w2 ⟨rfl, k2⟩
    have K2 := K1.trans (k2.mono K1.size)
    have hc0_2 := hc0_1.below k2
    clear hc0_1
    go_wp2_with fail
    refine (Cs _).mono ?_
    rintro e w3 ⟨rfl, k3⟩
    have K3 := K2.trans (k3.mono K2.size)
    have hc0_3 := hc0_2.below k3
    clear hc0_2
    go_wp2_with fail
    refine (Ii _).mono ?_
    rintro e w4 ⟨rfl, k4⟩
    have K4 := K3.trans (k4.mono K3.size)
    have hc0_4 := hc0_3.below k4
    clear hc0_3
    go_wp2_with fail
    refine (Is _).mono ?_
    rintro e w5 ⟨rfl, k5⟩
    have K5 := K4.trans (k5.mono K4.size)
    have hc0_5 := hc0_4.below k5
    clear hc0_4
    by_cases hM0 : 0 ≤ M
    · have hcj := HCJ.out hM0
      have CJ := fun w => implCompose M J w
      rw [hcj] at CJ
      clear hcj
      go_wp2_with fail
      refine (Ij _).mono ?_
      rintro e w6 ⟨rfl, k6⟩
      have K6 := K5.trans (k6.mono K5.size)
      have hc0_6 := hc0_5.below k6
      clear hc0_5
      go_wp2_with fail
      refine (CJ _).mono ?_
      rintro e w7 ⟨rfl, k7⟩
      have K7 := K6.trans (k7.mono K6.size)
      have hc0_7 := hc0_6.below k7
      clear hc0_6
      clear CJ Ci Cs Ii Is Ij
      go_wp2_with fail
      refine (drawTurnShape A0 n0 cap0 _ hs0 hc0_7).mono ?_
      rintro e w8 ⟨As, ns, caps, cs, m, rfl, rs, hn8, hm1, hm2, k8⟩
      have K8 := K7.trans (k8.mono K7.size)
      have hc0_8 := hc0_7.below k8
      clear hc0_7
      have hns : ns ≤ 1048576 := by omega
      have HNS := Lib.hid rs.1
      have hcl : cs.length ≤ 1048576 := by rw [rs.1]; exact hns
      have hol := orientL_nice cs
      have hos : shortS (orientL cs) := fun x hx => by have := orientL_each cs x hx; omega
      have hsl := symsL_len cs
      cases hT : (isShape cs && inB m 0 7) with
      | false =>
        have hts : turnShape cs m = ([], false) := turnShape_no hT
        have TI := fun (A : Option Addr) (n cap : Nat) (w : World) (h : n ≤ 1048576) (g : CellsAt w A n cs) => implTurnShape A n cap cs m w h g
        have TS := fun (A : Option Addr) (n cap : Nat) (w : World) (h : n ≤ 1048576) (g : CellsAt w A n cs) => specTurnShape A n cap cs m w h g
        rw [hts] at TI TS
        clear hT hts
        go_wp2_with fail
        refine (TI As ns caps _ hns rs).mono ?_
        rintro e w9 ⟨vx, rfl, ox, k9⟩
        have K9 := K8.trans (k9.mono K8.size)
        have hc0_9 := hc0_8.below k9
        have rs_9 := rs.below k9
        clear hc0_8 rs
        obtain ⟨Ax, capx, rfl, rx, _⟩ := ox.form
        simp only at rx
        go_wp2_with fail
        refine (TS As ns caps _ hns rs_9).mono ?_
        rintro e w10 ⟨vy, rfl, oy, k10⟩
        have K10 := K9.trans (k10.mono K9.size)
        have hc0_10 := hc0_9.below k10
        have rs_10 := rs_9.below k10
        have rx_10 := rx.below k10
        clear hc0_9 rs_9 rx
        obtain ⟨Ay, capy, rfl, ry, _⟩ := oy.form
        simp only at ry
        go_wp2_with fail
        refine (implOrient As ns caps cs _ hns rs_10).mono ?_
        rintro e w11 ⟨vl, vsl, rfl, ol, k11⟩
        have K11 := K10.trans (k11.mono K10.size)
        have hc0_11 := hc0_10.below k11
        have rs_11 := rs_10.below k11
        have rx_11 := rx_10.below k11
        have ry_11 := ry.below k11
        clear hc0_10 rs_10 rx_10 ry
        obtain ⟨Al, capl, rfl, rl, _⟩ := ol.form
        go_wp2_with fail
        refine (implSymmetries As ns caps cs _ hns rs_11).mono ?_
        rintro e w12 ⟨vg, rfl, og, k12⟩
        have K12 := K11.trans (k12.mono K11.size)
        have hc0_12 := hc0_11.below k12
        have rs_12 := rs_11.below k12
        have rx_12 := rx_11.below k12
        have ry_12 := ry_11.below k12
        have rl_12 := rl.below k12
        clear hc0_11 rs_11 rx_11 ry_11 rl
        obtain ⟨Ag, capg, rfl, rg, _⟩ := og.form
        go_wp2_with fail
        refine (spec_same Ax Ay _ capx capy _ _ (by simp) rx_12 ry_12).mono ?_
        rintro e w13 ⟨rfl, k13⟩
        have K13 := K12.trans (k13.mono K12.size)
        have hc0_13 := hc0_12.below k13
        have rs_13 := rs_12.below k13
        have rx_13 := rx_12.below k13
        have ry_13 := ry_12.below k13
        have rl_13 := rl_12.below k13
        have rg_13 := rg.below k13
        clear hc0_12 rs_12 rx_12 ry_12 rl_12 rg
        go_wp2_with fail
        refine (specOrient As ns caps cs _ hns rs_13).mono ?_
        rintro e w14 ⟨Am, capm, rfl, ⟨rm, _, _⟩, k14⟩
        have K14 := K13.trans (k14.mono K13.size)
        have hc0_14 := hc0_13.below k14
        have rs_14 := rs_13.below k14
        have rx_14 := rx_13.below k14
        have ry_14 := ry_13.below k14
        have rl_14 := rl_13.below k14
        have rg_14 := rg_13.below k14
        clear hc0_13 rs_13 rx_13 ry_13 rl_13 rg_13
        go_wp2_with fail
        refine (sameShapes_same Al Am _ capl capm (orientL cs) _ hol.1 hos rl_14 rm).mono ?_
        rintro e w15 ⟨rfl, k15⟩
        have K15 := K14.trans (k15.mono K14.size)
        have hc0_15 := hc0_14.below k15
        have rs_15 := rs_14.below k15
        have rx_15 := rx_14.below k15
        have ry_15 := ry_14.below k15
        have rl_15 := rl_14.below k15
        have rg_15 := rg_14.below k15
        have rm_15 := rm.below k15
        clear hc0_14 rs_14 rx_14 ry_14 rl_14 rg_14 rm
        go_wp2_with fail
        refine (specSymmetries As ns caps cs _ hns rs_15).mono ?_
        rintro e w16 ⟨vh, rfl, oh, k16⟩
        have K16 := K15.trans (k16.mono K15.size)
        have hc0_16 := hc0_15.below k16
        have rs_16 := rs_15.below k16
        have rx_16 := rx_15.below k16
        have ry_16 := ry_15.below k16
        have rg_16 := rg_15.below k16
        clear hc0_15 rs_15 rx_15 ry_15 rg_15
        obtain ⟨Ah, caph, rfl, rh, _⟩ := oh.form
        go_wp2_with fail
        refine (sameInts_same Ag Ah _ capg caph (symsL cs) _ hsl rg_16 rh).mono ?_
        rintro e w17 ⟨rfl, k17⟩
        have K17 := K16.trans (k17.mono K16.size)
        have hc0_17 := hc0_16.below k17
        have rs_17 := rs_16.below k17
        have rx_17 := rx_16.below k17
        have ry_17 := ry_16.below k17
        have rg_17 := rg_16.below k17
        have rh_17 := rh.below k17
        clear hc0_16 rs_16 rx_16 ry_16 rg_16 rh
        have CSH := fun w g => specIsShape As ns caps cs w hns g
        cases hsh : isShape cs with
        | false =>
          rw [hsh] at CSH
          clear hsh
          go_wp2_with fail
          refine (CSH _ rs_17).mono ?_
          rintro e w18 ⟨rfl, k18⟩
          have K18 := K17.trans (k18.mono K17.size)
          have hc0_18 := hc0_17.below k18
          have rs_18 := rs_17.below k18
          have rx_18 := rx_17.below k18
          have ry_18 := ry_17.below k18
          clear hc0_17 rs_17 rx_17 ry_17
          obtain ⟨ch, hch⟩ : ∃ ch, ch = chiral cs := ⟨_, rfl⟩
          have Chi := fun w g => implIsChiral As ns caps cs w hns g
          have Chs := fun w g => specIsChiral As ns caps cs w hns g
          rw [← hch] at Chi Chs
          clear hch
          clear CSH
          go_wp2_with fail
          refine (Chi _ rs_18).mono ?_
          rintro e w19 ⟨rfl, k19⟩
          have K19 := K18.trans (k19.mono K18.size)
          have hc0_19 := hc0_18.below k19
          have rs_19 := rs_18.below k19
          have rx_19 := rx_18.below k19
          have ry_19 := ry_18.below k19
          clear hc0_18 rs_18 rx_18 ry_18
          go_wp2_with fail
          refine (Chs _ rs_19).mono ?_
          rintro e w20 ⟨rfl, k20⟩
          have K20 := K19.trans (k20.mono K19.size)
          have hc0_20 := hc0_19.below k20
          have rs_20 := rs_19.below k20
          have rx_20 := rx_19.below k20
          have ry_20 := ry_19.below k20
          clear hc0_19 rs_19 rx_19 ry_19
          clear Chi Chs TI TS
          go_wp2_with fail
          refine (drawIsCongruent A0 n0 cap0 _ hs0 hc0_20).mono ?_
          rintro e w21 ⟨Ap, np, capp, cp, Aq, nq, capq, cq, rfl, rp, hp8, rq, hq8, k21⟩
          have K21 := K20.trans (k21.mono K20.size)
          have hc0_21 := hc0_20.below k21
          have rs_21 := rs_20.below k21
          clear hc0_20 rs_20
          go_wp2_with fail
          refine (drawCompareShapes A0 n0 cap0 _ hs0 hc0_21).mono ?_
          rintro e w22 ⟨Ae, ne, cape, ce, Af, nf, capf, cf, rfl, re, he8, rf, hf8, k22⟩
          have K22 := K21.trans (k22.mono K21.size)
          have hc0_22 := hc0_21.below k22
          have rs_22 := rs_21.below k22
          have rp_22 := rp.below k22
          have rq_22 := rq.below k22
          clear hc0_21 rs_21 rp rq
          obtain ⟨g, hg⟩ : ∃ g, g = congL cp cq := ⟨_, rfl⟩
          have G1 := fun w h1 h2 => implCongruent Ap Aq np nq capp capq cp cq w (by omega) (by omega) h1 h2
          have G2 := fun w h1 h2 => specCongruent Ap Aq np nq capp capq cp cq w (by omega) (by omega) h1 h2
          have G3 := fun w h1 h2 => implCongruent Aq Ap nq np capq capp cq cp w (by omega) (by omega) h1 h2
          rw [congL_symm cq cp] at G3
          rw [← hg] at G1 G2 G3
          clear hg
          obtain ⟨z, hz⟩ : ∃ z, z = cmpC cf ce := ⟨_, rfl⟩
          have hzr := cmpC_range cf ce
          have H1 := fun w h1 h2 => implCompareShapes Ae Af ne nf cape capf ce cf w (by omega) (by omega) h1 h2
          have H2 := fun w h1 h2 => specCompareShapes Ae Af ne nf cape capf ce cf w (by omega) (by omega) h1 h2
          have H3 := fun w h1 h2 => implCompareShapes Af Ae nf ne capf cape cf ce w (by omega) (by omega) h1 h2
          unfold CmpPost at H1 H2 H3
          rw [cmpC_anti cf ce, ← hz] at H1 H2
          rw [← hz] at H3 hzr
          clear hz
          have hz1 : -1 ≤ -z ∧ -z ≤ 1 := by omega
          go_wp2_with fail
          refine (G1 _ rp_22 rq_22).mono ?_
          rintro e w23 ⟨rfl, k23⟩
          have K23 := K22.trans (k23.mono K22.size)
          have rs_23 := rs_22.below k23
          have rp_23 := rp_22.below k23
          have rq_23 := rq_22.below k23
          have re_23 := re.below k23
          have rf_23 := rf.below k23
          clear rs_22 rp_22 rq_22 re rf
          go_wp2_with fail
          refine (G2 _ rp_23 rq_23).mono ?_
          rintro e w24 ⟨rfl, k24⟩
          have K24 := K23.trans (k24.mono K23.size)
          have rs_24 := rs_23.below k24
          have rp_24 := rp_23.below k24
          have rq_24 := rq_23.below k24
          have re_24 := re_23.below k24
          have rf_24 := rf_23.below k24
          clear rs_23 rp_23 rq_23 re_23 rf_23
          go_wp2_with fail
          refine (G1 _ rp_24 rq_24).mono ?_
          rintro e w25 ⟨rfl, k25⟩
          have K25 := K24.trans (k25.mono K24.size)
          have rs_25 := rs_24.below k25
          have rp_25 := rp_24.below k25
          have rq_25 := rq_24.below k25
          have re_25 := re_24.below k25
          have rf_25 := rf_24.below k25
          clear rs_24 rp_24 rq_24 re_24 rf_24
          go_wp2_with fail
          refine (G3 _ rq_25 rp_25).mono ?_
          rintro e w26 ⟨rfl, k26⟩
          have K26 := K25.trans (k26.mono K25.size)
          have rs_26 := rs_25.below k26
          have rp_26 := rp_25.below k26
          have rq_26 := rq_25.below k26
          have re_26 := re_25.below k26
          have rf_26 := rf_25.below k26
          clear rs_25 rp_25 rq_25 re_25 rf_25
          clear G1 G2 G3
          go_wp2_with fail
          refine (H1 _ re_26 rf_26).mono ?_
          rintro e w27 ⟨rfl, k27⟩
          have K27 := K26.trans (k27.mono K26.size)
          have rs_27 := rs_26.below k27
          have re_27 := re_26.below k27
          have rf_27 := rf_26.below k27
          clear rs_26 re_26 rf_26
          go_wp2_with fail
          refine (H2 _ re_27 rf_27).mono ?_
          rintro e w28 ⟨rfl, k28⟩
          have K28 := K27.trans (k28.mono K27.size)
          have rs_28 := rs_27.below k28
          have re_28 := re_27.below k28
          have rf_28 := rf_27.below k28
          clear rs_27 re_27 rf_27
          go_wp2_with fail
          refine (H1 _ re_28 rf_28).mono ?_
          rintro e w29 ⟨rfl, k29⟩
          have K29 := K28.trans (k29.mono K28.size)
          have rs_29 := rs_28.below k29
          have re_29 := re_28.below k29
          have rf_29 := rf_28.below k29
          clear rs_28 re_28 rf_28
          go_wp2_with fail
          refine (H3 _ rf_29 re_29).mono ?_
          rintro e w30 ⟨rfl, k30⟩
          have K30 := K29.trans (k30.mono K29.size)
          have rs_30 := rs_29.below k30
          have re_30 := re_29.below k30
          have rf_30 := rf_29.below k30
          clear rs_29 re_29 rf_29
          clear H1 H2 H3
          go_wp2_with fail
          refine (implCanon As ns caps cs _ hns rs_30).mono ?_
          rintro e w31 ⟨v3, rfl, o3, k31⟩
          have K31 := K30.trans (k31.mono K30.size)
          have rs_31 := rs_30.below k31
          clear rs_30
          obtain ⟨A3, cap3, rfl, r3, _⟩ := o3.form
          go_wp2_with fail
          refine (specCanon As ns caps cs _ hns rs_31).mono ?_
          rintro e w32 ⟨A4, cap4, rfl, r4, k32⟩
          have K32 := K31.trans (k32.mono K31.size)
          have rs_32 := rs_31.below k32
          have r3_32 := r3.below k32
          clear rs_31 r3
          have hcn2 := canonC_len cs
          go_wp2_with fail
          refine (spec_same A3 A4 _ cap3 cap4 _ _ (by omega) r3_32 r4).mono ?_
          rintro e w33 ⟨rfl, k33⟩
          have K33 := K32.trans (k33.mono K32.size)
          have rs_33 := rs_32.below k33
          have r3_33 := r3_32.below k33
          have r4_33 := r4.below k33
          clear rs_32 r3_32 r4
          go_wp2
          go_ret
          exact ⟨rfl, K33⟩
        | true =>
          rw [hsh] at CSH
          have hor := orbit hsh
          obtain ⟨lo, hlo⟩ : ∃ lo, lo = (orientL cs).length := ⟨_, rfl⟩
          obtain ⟨ls, hls⟩ : ∃ ls, ls = (symsL cs).length := ⟨_, rfl⟩
          rw [← hlo, ← hls] at hor ⊢
          have hor2 : (lo : Int) * (ls : Int) = 8 := by exact_mod_cast hor
          have hor3 : wrap64 ((lo : Int) * (ls : Int)) = 8 := by rw [hor2]; exact IntWalk.wrap64_in _ ⟨by omega, by omega⟩
          clear hor hlo hls
          clear hsh
          go_wp2_with fail
          refine (CSH _ rs_17).mono ?_
          rintro e w18 ⟨rfl, k18⟩
          have K18 := K17.trans (k18.mono K17.size)
          have hc0_18 := hc0_17.below k18
          have rs_18 := rs_17.below k18
          have rx_18 := rx_17.below k18
          have ry_18 := ry_17.below k18
          clear hc0_17 rs_17 rx_17 ry_17
          obtain ⟨ch, hch⟩ : ∃ ch, ch = chiral cs := ⟨_, rfl⟩
          have Chi := fun w g => implIsChiral As ns caps cs w hns g
          have Chs := fun w g => specIsChiral As ns caps cs w hns g
          rw [← hch] at Chi Chs
          clear hch
          clear CSH
          go_wp2_with fail
          refine (Chi _ rs_18).mono ?_
          rintro e w19 ⟨rfl, k19⟩
          have K19 := K18.trans (k19.mono K18.size)
          have hc0_19 := hc0_18.below k19
          have rs_19 := rs_18.below k19
          have rx_19 := rx_18.below k19
          have ry_19 := ry_18.below k19
          clear hc0_18 rs_18 rx_18 ry_18
          go_wp2_with fail
          refine (Chs _ rs_19).mono ?_
          rintro e w20 ⟨rfl, k20⟩
          have K20 := K19.trans (k20.mono K19.size)
          have hc0_20 := hc0_19.below k20
          have rs_20 := rs_19.below k20
          have rx_20 := rx_19.below k20
          have ry_20 := ry_19.below k20
          clear hc0_19 rs_19 rx_19 ry_19
          clear Chi Chs TI TS
          go_wp2_with fail
          refine (drawIsCongruent A0 n0 cap0 _ hs0 hc0_20).mono ?_
          rintro e w21 ⟨Ap, np, capp, cp, Aq, nq, capq, cq, rfl, rp, hp8, rq, hq8, k21⟩
          have K21 := K20.trans (k21.mono K20.size)
          have hc0_21 := hc0_20.below k21
          have rs_21 := rs_20.below k21
          clear hc0_20 rs_20
          go_wp2_with fail
          refine (drawCompareShapes A0 n0 cap0 _ hs0 hc0_21).mono ?_
          rintro e w22 ⟨Ae, ne, cape, ce, Af, nf, capf, cf, rfl, re, he8, rf, hf8, k22⟩
          have K22 := K21.trans (k22.mono K21.size)
          have hc0_22 := hc0_21.below k22
          have rs_22 := rs_21.below k22
          have rp_22 := rp.below k22
          have rq_22 := rq.below k22
          clear hc0_21 rs_21 rp rq
          obtain ⟨g, hg⟩ : ∃ g, g = congL cp cq := ⟨_, rfl⟩
          have G1 := fun w h1 h2 => implCongruent Ap Aq np nq capp capq cp cq w (by omega) (by omega) h1 h2
          have G2 := fun w h1 h2 => specCongruent Ap Aq np nq capp capq cp cq w (by omega) (by omega) h1 h2
          have G3 := fun w h1 h2 => implCongruent Aq Ap nq np capq capp cq cp w (by omega) (by omega) h1 h2
          rw [congL_symm cq cp] at G3
          rw [← hg] at G1 G2 G3
          clear hg
          obtain ⟨z, hz⟩ : ∃ z, z = cmpC cf ce := ⟨_, rfl⟩
          have hzr := cmpC_range cf ce
          have H1 := fun w h1 h2 => implCompareShapes Ae Af ne nf cape capf ce cf w (by omega) (by omega) h1 h2
          have H2 := fun w h1 h2 => specCompareShapes Ae Af ne nf cape capf ce cf w (by omega) (by omega) h1 h2
          have H3 := fun w h1 h2 => implCompareShapes Af Ae nf ne capf cape cf ce w (by omega) (by omega) h1 h2
          unfold CmpPost at H1 H2 H3
          rw [cmpC_anti cf ce, ← hz] at H1 H2
          rw [← hz] at H3 hzr
          clear hz
          have hz1 : -1 ≤ -z ∧ -z ≤ 1 := by omega
          go_wp2_with fail
          refine (G1 _ rp_22 rq_22).mono ?_
          rintro e w23 ⟨rfl, k23⟩
          have K23 := K22.trans (k23.mono K22.size)
          have rs_23 := rs_22.below k23
          have rp_23 := rp_22.below k23
          have rq_23 := rq_22.below k23
          have re_23 := re.below k23
          have rf_23 := rf.below k23
          clear rs_22 rp_22 rq_22 re rf
          go_wp2_with fail
          refine (G2 _ rp_23 rq_23).mono ?_
          rintro e w24 ⟨rfl, k24⟩
          have K24 := K23.trans (k24.mono K23.size)
          have rs_24 := rs_23.below k24
          have rp_24 := rp_23.below k24
          have rq_24 := rq_23.below k24
          have re_24 := re_23.below k24
          have rf_24 := rf_23.below k24
          clear rs_23 rp_23 rq_23 re_23 rf_23
          go_wp2_with fail
          refine (G1 _ rp_24 rq_24).mono ?_
          rintro e w25 ⟨rfl, k25⟩
          have K25 := K24.trans (k25.mono K24.size)
          have rs_25 := rs_24.below k25
          have rp_25 := rp_24.below k25
          have rq_25 := rq_24.below k25
          have re_25 := re_24.below k25
          have rf_25 := rf_24.below k25
          clear rs_24 rp_24 rq_24 re_24 rf_24
          go_wp2_with fail
          refine (G3 _ rq_25 rp_25).mono ?_
          rintro e w26 ⟨rfl, k26⟩
          have K26 := K25.trans (k26.mono K25.size)
          have rs_26 := rs_25.below k26
          have rp_26 := rp_25.below k26
          have rq_26 := rq_25.below k26
          have re_26 := re_25.below k26
          have rf_26 := rf_25.below k26
          clear rs_25 rp_25 rq_25 re_25 rf_25
          clear G1 G2 G3
          go_wp2_with fail
          refine (H1 _ re_26 rf_26).mono ?_
          rintro e w27 ⟨rfl, k27⟩
          have K27 := K26.trans (k27.mono K26.size)
          have rs_27 := rs_26.below k27
          have re_27 := re_26.below k27
          have rf_27 := rf_26.below k27
          clear rs_26 re_26 rf_26
          go_wp2_with fail
          refine (H2 _ re_27 rf_27).mono ?_
          rintro e w28 ⟨rfl, k28⟩
          have K28 := K27.trans (k28.mono K27.size)
          have rs_28 := rs_27.below k28
          have re_28 := re_27.below k28
          have rf_28 := rf_27.below k28
          clear rs_27 re_27 rf_27
          go_wp2_with fail
          refine (H1 _ re_28 rf_28).mono ?_
          rintro e w29 ⟨rfl, k29⟩
          have K29 := K28.trans (k29.mono K28.size)
          have rs_29 := rs_28.below k29
          have re_29 := re_28.below k29
          have rf_29 := rf_28.below k29
          clear rs_28 re_28 rf_28
          go_wp2_with fail
          refine (H3 _ rf_29 re_29).mono ?_
          rintro e w30 ⟨rfl, k30⟩
          have K30 := K29.trans (k30.mono K29.size)
          have rs_30 := rs_29.below k30
          have re_30 := re_29.below k30
          have rf_30 := rf_29.below k30
          clear rs_29 re_29 rf_29
          clear H1 H2 H3
          go_wp2_with fail
          refine (implCanon As ns caps cs _ hns rs_30).mono ?_
          rintro e w31 ⟨v3, rfl, o3, k31⟩
          have K31 := K30.trans (k31.mono K30.size)
          have rs_31 := rs_30.below k31
          clear rs_30
          obtain ⟨A3, cap3, rfl, r3, _⟩ := o3.form
          go_wp2_with fail
          refine (specCanon As ns caps cs _ hns rs_31).mono ?_
          rintro e w32 ⟨A4, cap4, rfl, r4, k32⟩
          have K32 := K31.trans (k32.mono K31.size)
          have rs_32 := rs_31.below k32
          have r3_32 := r3.below k32
          clear rs_31 r3
          have hcn2 := canonC_len cs
          go_wp2_with fail
          refine (spec_same A3 A4 _ cap3 cap4 _ _ (by omega) r3_32 r4).mono ?_
          rintro e w33 ⟨rfl, k33⟩
          have K33 := K32.trans (k33.mono K32.size)
          have rs_33 := rs_32.below k33
          have r3_33 := r3_32.below k33
          have r4_33 := r4.below k33
          clear rs_32 r3_32 r4
          go_wp2
          go_ret
          exact ⟨rfl, K33⟩
      | true =>
        have hand : isShape cs = true ∧ inB m 0 7 = true := by simpa using hT
        have hm7 : 0 ≤ m ∧ m ≤ 7 := by simpa [inB] using hand.2
        obtain ⟨q, rfl⟩ : ∃ q : Nat, m = q := ⟨m.toNat, by omega⟩
        have hts : turnShape cs q = (turnC cs q, true) := turnShape_yes hand.1 hand.2
        have HSH := Lib.hid hand.1
        have hq7 : q ≤ 7 := by omega
        have hsh2 := turn_shape hand.1 q
        have HS2 := Lib.hid hsh2
        have hl2 := (shape_len hsh2).2
        obtain ⟨hi1, hi2⟩ := inv_all ⟨q, by omega⟩
        simp only at hi1 hi2
        have HI1 := Lib.hid hi1
        have HI2 := Lib.hid hi2
        clear hand hsh2 hi1 hi2 hm7
        have TI := fun (A : Option Addr) (n cap : Nat) (w : World) (h : n ≤ 1048576) (g : CellsAt w A n cs) => implTurnShape A n cap cs q w h g
        have TS := fun (A : Option Addr) (n cap : Nat) (w : World) (h : n ≤ 1048576) (g : CellsAt w A n cs) => specTurnShape A n cap cs q w h g
        rw [hts] at TI TS
        clear hT hts
        go_wp2_with fail
        refine (TI As ns caps _ hns rs).mono ?_
        rintro e w9 ⟨vx, rfl, ox, k9⟩
        have K9 := K8.trans (k9.mono K8.size)
        have hc0_9 := hc0_8.below k9
        have rs_9 := rs.below k9
        clear hc0_8 rs
        obtain ⟨Ax, capx, rfl, rx, _⟩ := ox.form
        simp only at rx
        go_wp2_with fail
        refine (TS As ns caps _ hns rs_9).mono ?_
        rintro e w10 ⟨vy, rfl, oy, k10⟩
        have K10 := K9.trans (k10.mono K9.size)
        have hc0_10 := hc0_9.below k10
        have rs_10 := rs_9.below k10
        have rx_10 := rx.below k10
        clear hc0_9 rs_9 rx
        obtain ⟨Ay, capy, rfl, ry, _⟩ := oy.form
        simp only at ry
        go_wp2_with fail
        refine (implOrient As ns caps cs _ hns rs_10).mono ?_
        rintro e w11 ⟨vl, vsl, rfl, ol, k11⟩
        have K11 := K10.trans (k11.mono K10.size)
        have hc0_11 := hc0_10.below k11
        have rs_11 := rs_10.below k11
        have rx_11 := rx_10.below k11
        have ry_11 := ry.below k11
        clear hc0_10 rs_10 rx_10 ry
        obtain ⟨Al, capl, rfl, rl, _⟩ := ol.form
        go_wp2_with fail
        refine (implSymmetries As ns caps cs _ hns rs_11).mono ?_
        rintro e w12 ⟨vg, rfl, og, k12⟩
        have K12 := K11.trans (k12.mono K11.size)
        have hc0_12 := hc0_11.below k12
        have rs_12 := rs_11.below k12
        have rx_12 := rx_11.below k12
        have ry_12 := ry_11.below k12
        have rl_12 := rl.below k12
        clear hc0_11 rs_11 rx_11 ry_11 rl
        obtain ⟨Ag, capg, rfl, rg, _⟩ := og.form
        go_wp2_with fail
        refine (spec_same Ax Ay _ capx capy _ _ (by omega) rx_12 ry_12).mono ?_
        rintro e w13 ⟨rfl, k13⟩
        have K13 := K12.trans (k13.mono K12.size)
        have hc0_13 := hc0_12.below k13
        have rs_13 := rs_12.below k13
        have rx_13 := rx_12.below k13
        have ry_13 := ry_12.below k13
        have rl_13 := rl_12.below k13
        have rg_13 := rg.below k13
        clear hc0_12 rs_12 rx_12 ry_12 rl_12 rg
        go_wp2_with fail
        refine (specOrient As ns caps cs _ hns rs_13).mono ?_
        rintro e w14 ⟨Am, capm, rfl, ⟨rm, _, _⟩, k14⟩
        have K14 := K13.trans (k14.mono K13.size)
        have hc0_14 := hc0_13.below k14
        have rs_14 := rs_13.below k14
        have rx_14 := rx_13.below k14
        have ry_14 := ry_13.below k14
        have rl_14 := rl_13.below k14
        have rg_14 := rg_13.below k14
        clear hc0_13 rs_13 rx_13 ry_13 rl_13 rg_13
        go_wp2_with fail
        refine (sameShapes_same Al Am _ capl capm (orientL cs) _ hol.1 hos rl_14 rm).mono ?_
        rintro e w15 ⟨rfl, k15⟩
        have K15 := K14.trans (k15.mono K14.size)
        have hc0_15 := hc0_14.below k15
        have rs_15 := rs_14.below k15
        have rx_15 := rx_14.below k15
        have ry_15 := ry_14.below k15
        have rl_15 := rl_14.below k15
        have rg_15 := rg_14.below k15
        have rm_15 := rm.below k15
        clear hc0_14 rs_14 rx_14 ry_14 rl_14 rg_14 rm
        go_wp2_with fail
        refine (specSymmetries As ns caps cs _ hns rs_15).mono ?_
        rintro e w16 ⟨vh, rfl, oh, k16⟩
        have K16 := K15.trans (k16.mono K15.size)
        have hc0_16 := hc0_15.below k16
        have rs_16 := rs_15.below k16
        have rx_16 := rx_15.below k16
        have ry_16 := ry_15.below k16
        have rg_16 := rg_15.below k16
        clear hc0_15 rs_15 rx_15 ry_15 rg_15
        obtain ⟨Ah, caph, rfl, rh, _⟩ := oh.form
        go_wp2_with fail
        refine (sameInts_same Ag Ah _ capg caph (symsL cs) _ hsl rg_16 rh).mono ?_
        rintro e w17 ⟨rfl, k17⟩
        have K17 := K16.trans (k17.mono K16.size)
        have hc0_17 := hc0_16.below k17
        have rs_17 := rs_16.below k17
        have rx_17 := rx_16.below k17
        have ry_17 := ry_16.below k17
        have rg_17 := rg_16.below k17
        have rh_17 := rh.below k17
        clear hc0_16 rs_16 rx_16 ry_16 rg_16 rh
        have CSH := fun w g => specIsShape As ns caps cs w hns g
        rw [HSH.out] at CSH
        have hor := orbit HSH.out
        obtain ⟨lo, hlo⟩ : ∃ lo, lo = (orientL cs).length := ⟨_, rfl⟩
        obtain ⟨ls, hls⟩ : ∃ ls, ls = (symsL cs).length := ⟨_, rfl⟩
        rw [← hlo, ← hls] at hor ⊢
        have hor2 : (lo : Int) * (ls : Int) = 8 := by exact_mod_cast hor
        have hor3 : wrap64 ((lo : Int) * (ls : Int)) = 8 := by rw [hor2]; exact IntWalk.wrap64_in _ ⟨by omega, by omega⟩
        clear hor hlo hls
        go_wp2_with fail
        refine (CSH _ rs_17).mono ?_
        rintro e w18 ⟨rfl, k18⟩
        have K18 := K17.trans (k18.mono K17.size)
        have hc0_18 := hc0_17.below k18
        have rs_18 := rs_17.below k18
        have rx_18 := rx_17.below k18
        have ry_18 := ry_17.below k18
        clear hc0_17 rs_17 rx_17 ry_17
        obtain ⟨ch, hch⟩ : ∃ ch, ch = chiral cs := ⟨_, rfl⟩
        have Chi := fun w g => implIsChiral As ns caps cs w hns g
        have Chs := fun w g => specIsChiral As ns caps cs w hns g
        rw [← hch] at Chi Chs
        clear hch
        clear CSH
        go_wp2_with fail
        refine (Chi _ rs_18).mono ?_
        rintro e w19 ⟨rfl, k19⟩
        have K19 := K18.trans (k19.mono K18.size)
        have hc0_19 := hc0_18.below k19
        have rs_19 := rs_18.below k19
        have rx_19 := rx_18.below k19
        have ry_19 := ry_18.below k19
        clear hc0_18 rs_18 rx_18 ry_18
        go_wp2_with fail
        refine (Chs _ rs_19).mono ?_
        rintro e w20 ⟨rfl, k20⟩
        have K20 := K19.trans (k20.mono K19.size)
        have hc0_20 := hc0_19.below k20
        have rs_20 := rs_19.below k20
        have rx_20 := rx_19.below k20
        have ry_20 := ry_19.below k20
        clear hc0_19 rs_19 rx_19 ry_19
        clear Chi Chs TI TS
        go_wp2_with fail
        refine (implInverse q _).mono ?_
        rintro e w21 ⟨rfl, k21⟩
        have K21 := K20.trans (k21.mono K20.size)
        have hc0_21 := hc0_20.below k21
        have rs_21 := rs_20.below k21
        have ry_21 := ry_20.below k21
        clear hc0_20 rs_20 ry_20
        have ZT := fun w g => implTurnShape Ay (turnC cs q).length capy (turnC cs q) (invN q : Nat) w (by omega) g
        rw [turnShape_yes HS2.out (by rw [← HI1.out]; exact HI2.out), turn_back HSH.out hq7, ← HI1.out] at ZT
        go_wp2_with fail
        refine (ZT _ ry_21).mono ?_
        rintro e w22 ⟨vz, rfl, oz, k22⟩
        have K22 := K21.trans (k22.mono K21.size)
        have hc0_22 := hc0_21.below k22
        have rs_22 := rs_21.below k22
        have ry_22 := ry_21.below k22
        clear hc0_21 rs_21 ry_21
        obtain ⟨Az, capz, rfl, rz, _⟩ := oz.form
        simp only at rz
        have CN := fun w g => specCornerShape As ns caps cs w hns g
        rw [show cornerShape cs = cornerC cs from by unfold cornerShape; rw [HSH.out]; rfl] at CN
        have hcc : (cornerC cs).length ≤ 1048576 := by rw [cornerC_len]; exact hcl
        clear ZT
        go_wp2_with fail
        refine (CN _ rs_22).mono ?_
        rintro e w23 ⟨vc, rfl, oc, k23⟩
        have K23 := K22.trans (k23.mono K22.size)
        have hc0_23 := hc0_22.below k23
        have rs_23 := rs_22.below k23
        have ry_23 := ry_22.below k23
        have rz_23 := rz.below k23
        clear hc0_22 rs_22 ry_22 rz
        obtain ⟨Ac, capc, rfl, rc, _⟩ := oc.form
        go_wp2_with fail
        refine (spec_same Az Ac _ capz capc _ _ hcc rz_23 rc).mono ?_
        rintro e w24 ⟨rfl, k24⟩
        have K24 := K23.trans (k24.mono K23.size)
        have hc0_24 := hc0_23.below k24
        have rs_24 := rs_23.below k24
        have ry_24 := ry_23.below k24
        have rz_24 := rz_23.below k24
        have rc_24 := rc.below k24
        clear hc0_23 rs_23 ry_23 rz_23 rc
        have CG := fun w g g2 => implCongruent As Ay ns (turnC cs q).length caps capy cs (turnC cs q) w hns (by omega) g g2
        rw [congL_turn HSH.out hq7] at CG
        clear CN
        go_wp2_with fail
        refine (CG _ rs_24 ry_24).mono ?_
        rintro e w25 ⟨rfl, k25⟩
        have K25 := K24.trans (k25.mono K24.size)
        have hc0_25 := hc0_24.below k25
        have rs_25 := rs_24.below k25
        have ry_25 := ry_24.below k25
        clear hc0_24 rs_24 ry_24
        have CY := fun w g => implCanon Ay (turnC cs q).length capy (turnC cs q) w (by omega) g
        rw [canon_turn HSH.out hq7] at CY
        clear CG
        go_wp2_with fail
        refine (CY _ ry_25).mono ?_
        rintro e w26 ⟨v1, rfl, o1, k26⟩
        have K26 := K25.trans (k26.mono K25.size)
        have hc0_26 := hc0_25.below k26
        have rs_26 := rs_25.below k26
        have ry_26 := ry_25.below k26
        clear hc0_25 rs_25 ry_25
        obtain ⟨A1, cap1, rfl, r1, _⟩ := o1.form
        go_wp2_with fail
        refine (implCanon As ns caps cs _ hns rs_26).mono ?_
        rintro e w27 ⟨v2, rfl, o2, k27⟩
        have K27 := K26.trans (k27.mono K26.size)
        have hc0_27 := hc0_26.below k27
        have rs_27 := rs_26.below k27
        have ry_27 := ry_26.below k27
        have r1_27 := r1.below k27
        clear hc0_26 rs_26 ry_26 r1
        obtain ⟨A2, cap2, rfl, r2, _⟩ := o2.form
        have hcan := canonC_len cs
        clear CY
        go_wp2_with fail
        refine (spec_same A1 A2 _ cap1 cap2 _ _ (by omega) r1_27 r2).mono ?_
        rintro e w28 ⟨rfl, k28⟩
        have K28 := K27.trans (k28.mono K27.size)
        have hc0_28 := hc0_27.below k28
        have rs_28 := rs_27.below k28
        have ry_28 := ry_27.below k28
        have r1_28 := r1_27.below k28
        have r2_28 := r2.below k28
        clear hc0_27 rs_27 ry_27 r1_27 r2
        go_wp2_with fail
        refine (drawIsCongruent A0 n0 cap0 _ hs0 hc0_28).mono ?_
        rintro e w29 ⟨Ap, np, capp, cp, Aq, nq, capq, cq, rfl, rp, hp8, rq, hq8, k29⟩
        have K29 := K28.trans (k29.mono K28.size)
        have hc0_29 := hc0_28.below k29
        have rs_29 := rs_28.below k29
        clear hc0_28 rs_28
        go_wp2_with fail
        refine (drawCompareShapes A0 n0 cap0 _ hs0 hc0_29).mono ?_
        rintro e w30 ⟨Ae, ne, cape, ce, Af, nf, capf, cf, rfl, re, he8, rf, hf8, k30⟩
        have K30 := K29.trans (k30.mono K29.size)
        have hc0_30 := hc0_29.below k30
        have rs_30 := rs_29.below k30
        have rp_30 := rp.below k30
        have rq_30 := rq.below k30
        clear hc0_29 rs_29 rp rq
        obtain ⟨g, hg⟩ : ∃ g, g = congL cp cq := ⟨_, rfl⟩
        have G1 := fun w h1 h2 => implCongruent Ap Aq np nq capp capq cp cq w (by omega) (by omega) h1 h2
        have G2 := fun w h1 h2 => specCongruent Ap Aq np nq capp capq cp cq w (by omega) (by omega) h1 h2
        have G3 := fun w h1 h2 => implCongruent Aq Ap nq np capq capp cq cp w (by omega) (by omega) h1 h2
        rw [congL_symm cq cp] at G3
        rw [← hg] at G1 G2 G3
        clear hg
        obtain ⟨z, hz⟩ : ∃ z, z = cmpC cf ce := ⟨_, rfl⟩
        have hzr := cmpC_range cf ce
        have H1 := fun w h1 h2 => implCompareShapes Ae Af ne nf cape capf ce cf w (by omega) (by omega) h1 h2
        have H2 := fun w h1 h2 => specCompareShapes Ae Af ne nf cape capf ce cf w (by omega) (by omega) h1 h2
        have H3 := fun w h1 h2 => implCompareShapes Af Ae nf ne capf cape cf ce w (by omega) (by omega) h1 h2
        unfold CmpPost at H1 H2 H3
        rw [cmpC_anti cf ce, ← hz] at H1 H2
        rw [← hz] at H3 hzr
        clear hz
        have hz1 : -1 ≤ -z ∧ -z ≤ 1 := by omega
        go_wp2_with fail
        refine (G1 _ rp_30 rq_30).mono ?_
        rintro e w31 ⟨rfl, k31⟩
        have K31 := K30.trans (k31.mono K30.size)
        have rs_31 := rs_30.below k31
        have rp_31 := rp_30.below k31
        have rq_31 := rq_30.below k31
        have re_31 := re.below k31
        have rf_31 := rf.below k31
        clear rs_30 rp_30 rq_30 re rf
        go_wp2_with fail
        refine (G2 _ rp_31 rq_31).mono ?_
        rintro e w32 ⟨rfl, k32⟩
        have K32 := K31.trans (k32.mono K31.size)
        have rs_32 := rs_31.below k32
        have rp_32 := rp_31.below k32
        have rq_32 := rq_31.below k32
        have re_32 := re_31.below k32
        have rf_32 := rf_31.below k32
        clear rs_31 rp_31 rq_31 re_31 rf_31
        go_wp2_with fail
        refine (G1 _ rp_32 rq_32).mono ?_
        rintro e w33 ⟨rfl, k33⟩
        have K33 := K32.trans (k33.mono K32.size)
        have rs_33 := rs_32.below k33
        have rp_33 := rp_32.below k33
        have rq_33 := rq_32.below k33
        have re_33 := re_32.below k33
        have rf_33 := rf_32.below k33
        clear rs_32 rp_32 rq_32 re_32 rf_32
        go_wp2_with fail
        refine (G3 _ rq_33 rp_33).mono ?_
        rintro e w34 ⟨rfl, k34⟩
        have K34 := K33.trans (k34.mono K33.size)
        have rs_34 := rs_33.below k34
        have rp_34 := rp_33.below k34
        have rq_34 := rq_33.below k34
        have re_34 := re_33.below k34
        have rf_34 := rf_33.below k34
        clear rs_33 rp_33 rq_33 re_33 rf_33
        clear G1 G2 G3
        go_wp2_with fail
        refine (H1 _ re_34 rf_34).mono ?_
        rintro e w35 ⟨rfl, k35⟩
        have K35 := K34.trans (k35.mono K34.size)
        have rs_35 := rs_34.below k35
        have re_35 := re_34.below k35
        have rf_35 := rf_34.below k35
        clear rs_34 re_34 rf_34
        go_wp2_with fail
        refine (H2 _ re_35 rf_35).mono ?_
        rintro e w36 ⟨rfl, k36⟩
        have K36 := K35.trans (k36.mono K35.size)
        have rs_36 := rs_35.below k36
        have re_36 := re_35.below k36
        have rf_36 := rf_35.below k36
        clear rs_35 re_35 rf_35
        go_wp2_with fail
        refine (H1 _ re_36 rf_36).mono ?_
        rintro e w37 ⟨rfl, k37⟩
        have K37 := K36.trans (k37.mono K36.size)
        have rs_37 := rs_36.below k37
        have re_37 := re_36.below k37
        have rf_37 := rf_36.below k37
        clear rs_36 re_36 rf_36
        go_wp2_with fail
        refine (H3 _ rf_37 re_37).mono ?_
        rintro e w38 ⟨rfl, k38⟩
        have K38 := K37.trans (k38.mono K37.size)
        have rs_38 := rs_37.below k38
        have re_38 := re_37.below k38
        have rf_38 := rf_37.below k38
        clear rs_37 re_37 rf_37
        clear H1 H2 H3
        go_wp2_with fail
        refine (implCanon As ns caps cs _ hns rs_38).mono ?_
        rintro e w39 ⟨v3, rfl, o3, k39⟩
        have K39 := K38.trans (k39.mono K38.size)
        have rs_39 := rs_38.below k39
        clear rs_38
        obtain ⟨A3, cap3, rfl, r3, _⟩ := o3.form
        go_wp2_with fail
        refine (specCanon As ns caps cs _ hns rs_39).mono ?_
        rintro e w40 ⟨A4, cap4, rfl, r4, k40⟩
        have K40 := K39.trans (k40.mono K39.size)
        have rs_40 := rs_39.below k40
        have r3_40 := r3.below k40
        clear rs_39 r3
        have hcn2 := canonC_len cs
        go_wp2_with fail
        refine (spec_same A3 A4 _ cap3 cap4 _ _ (by omega) r3_40 r4).mono ?_
        rintro e w41 ⟨rfl, k41⟩
        have K41 := K40.trans (k41.mono K40.size)
        have rs_41 := rs_40.below k41
        have r3_41 := r3_40.below k41
        have r4_41 := r4.below k41
        clear rs_40 r3_40 r4
        go_wp2
        go_ret
        exact ⟨rfl, K41⟩
    · clear Ci Cs Ii Is Ij
      go_wp2_with fail
      refine (drawTurnShape A0 n0 cap0 _ hs0 hc0_5).mono ?_
      rintro e w6 ⟨As, ns, caps, cs, m, rfl, rs, hn8, hm1, hm2, k6⟩
      have K6 := K5.trans (k6.mono K5.size)
      have hc0_6 := hc0_5.below k6
      clear hc0_5
      have hns : ns ≤ 1048576 := by omega
      have HNS := Lib.hid rs.1
      have hcl : cs.length ≤ 1048576 := by rw [rs.1]; exact hns
      have hol := orientL_nice cs
      have hos : shortS (orientL cs) := fun x hx => by have := orientL_each cs x hx; omega
      have hsl := symsL_len cs
      cases hT : (isShape cs && inB m 0 7) with
      | false =>
        have hts : turnShape cs m = ([], false) := turnShape_no hT
        have TI := fun (A : Option Addr) (n cap : Nat) (w : World) (h : n ≤ 1048576) (g : CellsAt w A n cs) => implTurnShape A n cap cs m w h g
        have TS := fun (A : Option Addr) (n cap : Nat) (w : World) (h : n ≤ 1048576) (g : CellsAt w A n cs) => specTurnShape A n cap cs m w h g
        rw [hts] at TI TS
        clear hT hts
        go_wp2_with fail
        refine (TI As ns caps _ hns rs).mono ?_
        rintro e w7 ⟨vx, rfl, ox, k7⟩
        have K7 := K6.trans (k7.mono K6.size)
        have hc0_7 := hc0_6.below k7
        have rs_7 := rs.below k7
        clear hc0_6 rs
        obtain ⟨Ax, capx, rfl, rx, _⟩ := ox.form
        simp only at rx
        go_wp2_with fail
        refine (TS As ns caps _ hns rs_7).mono ?_
        rintro e w8 ⟨vy, rfl, oy, k8⟩
        have K8 := K7.trans (k8.mono K7.size)
        have hc0_8 := hc0_7.below k8
        have rs_8 := rs_7.below k8
        have rx_8 := rx.below k8
        clear hc0_7 rs_7 rx
        obtain ⟨Ay, capy, rfl, ry, _⟩ := oy.form
        simp only at ry
        go_wp2_with fail
        refine (implOrient As ns caps cs _ hns rs_8).mono ?_
        rintro e w9 ⟨vl, vsl, rfl, ol, k9⟩
        have K9 := K8.trans (k9.mono K8.size)
        have hc0_9 := hc0_8.below k9
        have rs_9 := rs_8.below k9
        have rx_9 := rx_8.below k9
        have ry_9 := ry.below k9
        clear hc0_8 rs_8 rx_8 ry
        obtain ⟨Al, capl, rfl, rl, _⟩ := ol.form
        go_wp2_with fail
        refine (implSymmetries As ns caps cs _ hns rs_9).mono ?_
        rintro e w10 ⟨vg, rfl, og, k10⟩
        have K10 := K9.trans (k10.mono K9.size)
        have hc0_10 := hc0_9.below k10
        have rs_10 := rs_9.below k10
        have rx_10 := rx_9.below k10
        have ry_10 := ry_9.below k10
        have rl_10 := rl.below k10
        clear hc0_9 rs_9 rx_9 ry_9 rl
        obtain ⟨Ag, capg, rfl, rg, _⟩ := og.form
        go_wp2_with fail
        refine (spec_same Ax Ay _ capx capy _ _ (by simp) rx_10 ry_10).mono ?_
        rintro e w11 ⟨rfl, k11⟩
        have K11 := K10.trans (k11.mono K10.size)
        have hc0_11 := hc0_10.below k11
        have rs_11 := rs_10.below k11
        have rx_11 := rx_10.below k11
        have ry_11 := ry_10.below k11
        have rl_11 := rl_10.below k11
        have rg_11 := rg.below k11
        clear hc0_10 rs_10 rx_10 ry_10 rl_10 rg
        go_wp2_with fail
        refine (specOrient As ns caps cs _ hns rs_11).mono ?_
        rintro e w12 ⟨Am, capm, rfl, ⟨rm, _, _⟩, k12⟩
        have K12 := K11.trans (k12.mono K11.size)
        have hc0_12 := hc0_11.below k12
        have rs_12 := rs_11.below k12
        have rx_12 := rx_11.below k12
        have ry_12 := ry_11.below k12
        have rl_12 := rl_11.below k12
        have rg_12 := rg_11.below k12
        clear hc0_11 rs_11 rx_11 ry_11 rl_11 rg_11
        go_wp2_with fail
        refine (sameShapes_same Al Am _ capl capm (orientL cs) _ hol.1 hos rl_12 rm).mono ?_
        rintro e w13 ⟨rfl, k13⟩
        have K13 := K12.trans (k13.mono K12.size)
        have hc0_13 := hc0_12.below k13
        have rs_13 := rs_12.below k13
        have rx_13 := rx_12.below k13
        have ry_13 := ry_12.below k13
        have rl_13 := rl_12.below k13
        have rg_13 := rg_12.below k13
        have rm_13 := rm.below k13
        clear hc0_12 rs_12 rx_12 ry_12 rl_12 rg_12 rm
        go_wp2_with fail
        refine (specSymmetries As ns caps cs _ hns rs_13).mono ?_
        rintro e w14 ⟨vh, rfl, oh, k14⟩
        have K14 := K13.trans (k14.mono K13.size)
        have hc0_14 := hc0_13.below k14
        have rs_14 := rs_13.below k14
        have rx_14 := rx_13.below k14
        have ry_14 := ry_13.below k14
        have rg_14 := rg_13.below k14
        clear hc0_13 rs_13 rx_13 ry_13 rg_13
        obtain ⟨Ah, caph, rfl, rh, _⟩ := oh.form
        go_wp2_with fail
        refine (sameInts_same Ag Ah _ capg caph (symsL cs) _ hsl rg_14 rh).mono ?_
        rintro e w15 ⟨rfl, k15⟩
        have K15 := K14.trans (k15.mono K14.size)
        have hc0_15 := hc0_14.below k15
        have rs_15 := rs_14.below k15
        have rx_15 := rx_14.below k15
        have ry_15 := ry_14.below k15
        have rg_15 := rg_14.below k15
        have rh_15 := rh.below k15
        clear hc0_14 rs_14 rx_14 ry_14 rg_14 rh
        have CSH := fun w g => specIsShape As ns caps cs w hns g
        cases hsh : isShape cs with
        | false =>
          rw [hsh] at CSH
          clear hsh
          go_wp2_with fail
          refine (CSH _ rs_15).mono ?_
          rintro e w16 ⟨rfl, k16⟩
          have K16 := K15.trans (k16.mono K15.size)
          have hc0_16 := hc0_15.below k16
          have rs_16 := rs_15.below k16
          have rx_16 := rx_15.below k16
          have ry_16 := ry_15.below k16
          clear hc0_15 rs_15 rx_15 ry_15
          obtain ⟨ch, hch⟩ : ∃ ch, ch = chiral cs := ⟨_, rfl⟩
          have Chi := fun w g => implIsChiral As ns caps cs w hns g
          have Chs := fun w g => specIsChiral As ns caps cs w hns g
          rw [← hch] at Chi Chs
          clear hch
          clear CSH
          go_wp2_with fail
          refine (Chi _ rs_16).mono ?_
          rintro e w17 ⟨rfl, k17⟩
          have K17 := K16.trans (k17.mono K16.size)
          have hc0_17 := hc0_16.below k17
          have rs_17 := rs_16.below k17
          have rx_17 := rx_16.below k17
          have ry_17 := ry_16.below k17
          clear hc0_16 rs_16 rx_16 ry_16
          go_wp2_with fail
          refine (Chs _ rs_17).mono ?_
          rintro e w18 ⟨rfl, k18⟩
          have K18 := K17.trans (k18.mono K17.size)
          have hc0_18 := hc0_17.below k18
          have rs_18 := rs_17.below k18
          have rx_18 := rx_17.below k18
          have ry_18 := ry_17.below k18
          clear hc0_17 rs_17 rx_17 ry_17
          clear Chi Chs TI TS
          go_wp2_with fail
          refine (drawIsCongruent A0 n0 cap0 _ hs0 hc0_18).mono ?_
          rintro e w19 ⟨Ap, np, capp, cp, Aq, nq, capq, cq, rfl, rp, hp8, rq, hq8, k19⟩
          have K19 := K18.trans (k19.mono K18.size)
          have hc0_19 := hc0_18.below k19
          have rs_19 := rs_18.below k19
          clear hc0_18 rs_18
          go_wp2_with fail
          refine (drawCompareShapes A0 n0 cap0 _ hs0 hc0_19).mono ?_
          rintro e w20 ⟨Ae, ne, cape, ce, Af, nf, capf, cf, rfl, re, he8, rf, hf8, k20⟩
          have K20 := K19.trans (k20.mono K19.size)
          have hc0_20 := hc0_19.below k20
          have rs_20 := rs_19.below k20
          have rp_20 := rp.below k20
          have rq_20 := rq.below k20
          clear hc0_19 rs_19 rp rq
          obtain ⟨g, hg⟩ : ∃ g, g = congL cp cq := ⟨_, rfl⟩
          have G1 := fun w h1 h2 => implCongruent Ap Aq np nq capp capq cp cq w (by omega) (by omega) h1 h2
          have G2 := fun w h1 h2 => specCongruent Ap Aq np nq capp capq cp cq w (by omega) (by omega) h1 h2
          have G3 := fun w h1 h2 => implCongruent Aq Ap nq np capq capp cq cp w (by omega) (by omega) h1 h2
          rw [congL_symm cq cp] at G3
          rw [← hg] at G1 G2 G3
          clear hg
          obtain ⟨z, hz⟩ : ∃ z, z = cmpC cf ce := ⟨_, rfl⟩
          have hzr := cmpC_range cf ce
          have H1 := fun w h1 h2 => implCompareShapes Ae Af ne nf cape capf ce cf w (by omega) (by omega) h1 h2
          have H2 := fun w h1 h2 => specCompareShapes Ae Af ne nf cape capf ce cf w (by omega) (by omega) h1 h2
          have H3 := fun w h1 h2 => implCompareShapes Af Ae nf ne capf cape cf ce w (by omega) (by omega) h1 h2
          unfold CmpPost at H1 H2 H3
          rw [cmpC_anti cf ce, ← hz] at H1 H2
          rw [← hz] at H3 hzr
          clear hz
          have hz1 : -1 ≤ -z ∧ -z ≤ 1 := by omega
          go_wp2_with fail
          refine (G1 _ rp_20 rq_20).mono ?_
          rintro e w21 ⟨rfl, k21⟩
          have K21 := K20.trans (k21.mono K20.size)
          have rs_21 := rs_20.below k21
          have rp_21 := rp_20.below k21
          have rq_21 := rq_20.below k21
          have re_21 := re.below k21
          have rf_21 := rf.below k21
          clear rs_20 rp_20 rq_20 re rf
          go_wp2_with fail
          refine (G2 _ rp_21 rq_21).mono ?_
          rintro e w22 ⟨rfl, k22⟩
          have K22 := K21.trans (k22.mono K21.size)
          have rs_22 := rs_21.below k22
          have rp_22 := rp_21.below k22
          have rq_22 := rq_21.below k22
          have re_22 := re_21.below k22
          have rf_22 := rf_21.below k22
          clear rs_21 rp_21 rq_21 re_21 rf_21
          go_wp2_with fail
          refine (G1 _ rp_22 rq_22).mono ?_
          rintro e w23 ⟨rfl, k23⟩
          have K23 := K22.trans (k23.mono K22.size)
          have rs_23 := rs_22.below k23
          have rp_23 := rp_22.below k23
          have rq_23 := rq_22.below k23
          have re_23 := re_22.below k23
          have rf_23 := rf_22.below k23
          clear rs_22 rp_22 rq_22 re_22 rf_22
          go_wp2_with fail
          refine (G3 _ rq_23 rp_23).mono ?_
          rintro e w24 ⟨rfl, k24⟩
          have K24 := K23.trans (k24.mono K23.size)
          have rs_24 := rs_23.below k24
          have rp_24 := rp_23.below k24
          have rq_24 := rq_23.below k24
          have re_24 := re_23.below k24
          have rf_24 := rf_23.below k24
          clear rs_23 rp_23 rq_23 re_23 rf_23
          clear G1 G2 G3
          go_wp2_with fail
          refine (H1 _ re_24 rf_24).mono ?_
          rintro e w25 ⟨rfl, k25⟩
          have K25 := K24.trans (k25.mono K24.size)
          have rs_25 := rs_24.below k25
          have re_25 := re_24.below k25
          have rf_25 := rf_24.below k25
          clear rs_24 re_24 rf_24
          go_wp2_with fail
          refine (H2 _ re_25 rf_25).mono ?_
          rintro e w26 ⟨rfl, k26⟩
          have K26 := K25.trans (k26.mono K25.size)
          have rs_26 := rs_25.below k26
          have re_26 := re_25.below k26
          have rf_26 := rf_25.below k26
          clear rs_25 re_25 rf_25
          go_wp2_with fail
          refine (H1 _ re_26 rf_26).mono ?_
          rintro e w27 ⟨rfl, k27⟩
          have K27 := K26.trans (k27.mono K26.size)
          have rs_27 := rs_26.below k27
          have re_27 := re_26.below k27
          have rf_27 := rf_26.below k27
          clear rs_26 re_26 rf_26
          go_wp2_with fail
          refine (H3 _ rf_27 re_27).mono ?_
          rintro e w28 ⟨rfl, k28⟩
          have K28 := K27.trans (k28.mono K27.size)
          have rs_28 := rs_27.below k28
          have re_28 := re_27.below k28
          have rf_28 := rf_27.below k28
          clear rs_27 re_27 rf_27
          clear H1 H2 H3
          go_wp2_with fail
          refine (implCanon As ns caps cs _ hns rs_28).mono ?_
          rintro e w29 ⟨v3, rfl, o3, k29⟩
          have K29 := K28.trans (k29.mono K28.size)
          have rs_29 := rs_28.below k29
          clear rs_28
          obtain ⟨A3, cap3, rfl, r3, _⟩ := o3.form
          go_wp2_with fail
          refine (specCanon As ns caps cs _ hns rs_29).mono ?_
          rintro e w30 ⟨A4, cap4, rfl, r4, k30⟩
          have K30 := K29.trans (k30.mono K29.size)
          have rs_30 := rs_29.below k30
          have r3_30 := r3.below k30
          clear rs_29 r3
          have hcn2 := canonC_len cs
          go_wp2_with fail
          refine (spec_same A3 A4 _ cap3 cap4 _ _ (by omega) r3_30 r4).mono ?_
          rintro e w31 ⟨rfl, k31⟩
          have K31 := K30.trans (k31.mono K30.size)
          have rs_31 := rs_30.below k31
          have r3_31 := r3_30.below k31
          have r4_31 := r4.below k31
          clear rs_30 r3_30 r4
          go_wp2
          go_ret
          exact ⟨rfl, K31⟩
        | true =>
          rw [hsh] at CSH
          have hor := orbit hsh
          obtain ⟨lo, hlo⟩ : ∃ lo, lo = (orientL cs).length := ⟨_, rfl⟩
          obtain ⟨ls, hls⟩ : ∃ ls, ls = (symsL cs).length := ⟨_, rfl⟩
          rw [← hlo, ← hls] at hor ⊢
          have hor2 : (lo : Int) * (ls : Int) = 8 := by exact_mod_cast hor
          have hor3 : wrap64 ((lo : Int) * (ls : Int)) = 8 := by rw [hor2]; exact IntWalk.wrap64_in _ ⟨by omega, by omega⟩
          clear hor hlo hls
          clear hsh
          go_wp2_with fail
          refine (CSH _ rs_15).mono ?_
          rintro e w16 ⟨rfl, k16⟩
          have K16 := K15.trans (k16.mono K15.size)
          have hc0_16 := hc0_15.below k16
          have rs_16 := rs_15.below k16
          have rx_16 := rx_15.below k16
          have ry_16 := ry_15.below k16
          clear hc0_15 rs_15 rx_15 ry_15
          obtain ⟨ch, hch⟩ : ∃ ch, ch = chiral cs := ⟨_, rfl⟩
          have Chi := fun w g => implIsChiral As ns caps cs w hns g
          have Chs := fun w g => specIsChiral As ns caps cs w hns g
          rw [← hch] at Chi Chs
          clear hch
          clear CSH
          go_wp2_with fail
          refine (Chi _ rs_16).mono ?_
          rintro e w17 ⟨rfl, k17⟩
          have K17 := K16.trans (k17.mono K16.size)
          have hc0_17 := hc0_16.below k17
          have rs_17 := rs_16.below k17
          have rx_17 := rx_16.below k17
          have ry_17 := ry_16.below k17
          clear hc0_16 rs_16 rx_16 ry_16
          go_wp2_with fail
          refine (Chs _ rs_17).mono ?_
          rintro e w18 ⟨rfl, k18⟩
          have K18 := K17.trans (k18.mono K17.size)
          have hc0_18 := hc0_17.below k18
          have rs_18 := rs_17.below k18
          have rx_18 := rx_17.below k18
          have ry_18 := ry_17.below k18
          clear hc0_17 rs_17 rx_17 ry_17
          clear Chi Chs TI TS
          go_wp2_with fail
          refine (drawIsCongruent A0 n0 cap0 _ hs0 hc0_18).mono ?_
          rintro e w19 ⟨Ap, np, capp, cp, Aq, nq, capq, cq, rfl, rp, hp8, rq, hq8, k19⟩
          have K19 := K18.trans (k19.mono K18.size)
          have hc0_19 := hc0_18.below k19
          have rs_19 := rs_18.below k19
          clear hc0_18 rs_18
          go_wp2_with fail
          refine (drawCompareShapes A0 n0 cap0 _ hs0 hc0_19).mono ?_
          rintro e w20 ⟨Ae, ne, cape, ce, Af, nf, capf, cf, rfl, re, he8, rf, hf8, k20⟩
          have K20 := K19.trans (k20.mono K19.size)
          have hc0_20 := hc0_19.below k20
          have rs_20 := rs_19.below k20
          have rp_20 := rp.below k20
          have rq_20 := rq.below k20
          clear hc0_19 rs_19 rp rq
          obtain ⟨g, hg⟩ : ∃ g, g = congL cp cq := ⟨_, rfl⟩
          have G1 := fun w h1 h2 => implCongruent Ap Aq np nq capp capq cp cq w (by omega) (by omega) h1 h2
          have G2 := fun w h1 h2 => specCongruent Ap Aq np nq capp capq cp cq w (by omega) (by omega) h1 h2
          have G3 := fun w h1 h2 => implCongruent Aq Ap nq np capq capp cq cp w (by omega) (by omega) h1 h2
          rw [congL_symm cq cp] at G3
          rw [← hg] at G1 G2 G3
          clear hg
          obtain ⟨z, hz⟩ : ∃ z, z = cmpC cf ce := ⟨_, rfl⟩
          have hzr := cmpC_range cf ce
          have H1 := fun w h1 h2 => implCompareShapes Ae Af ne nf cape capf ce cf w (by omega) (by omega) h1 h2
          have H2 := fun w h1 h2 => specCompareShapes Ae Af ne nf cape capf ce cf w (by omega) (by omega) h1 h2
          have H3 := fun w h1 h2 => implCompareShapes Af Ae nf ne capf cape cf ce w (by omega) (by omega) h1 h2
          unfold CmpPost at H1 H2 H3
          rw [cmpC_anti cf ce, ← hz] at H1 H2
          rw [← hz] at H3 hzr
          clear hz
          have hz1 : -1 ≤ -z ∧ -z ≤ 1 := by omega
          go_wp2_with fail
          refine (G1 _ rp_20 rq_20).mono ?_
          rintro e w21 ⟨rfl, k21⟩
          have K21 := K20.trans (k21.mono K20.size)
          have rs_21 := rs_20.below k21
          have rp_21 := rp_20.below k21
          have rq_21 := rq_20.below k21
          have re_21 := re.below k21
          have rf_21 := rf.below k21
          clear rs_20 rp_20 rq_20 re rf
          go_wp2_with fail
          refine (G2 _ rp_21 rq_21).mono ?_
          rintro e w22 ⟨rfl, k22⟩
          have K22 := K21.trans (k22.mono K21.size)
          have rs_22 := rs_21.below k22
          have rp_22 := rp_21.below k22
          have rq_22 := rq_21.below k22
          have re_22 := re_21.below k22
          have rf_22 := rf_21.below k22
          clear rs_21 rp_21 rq_21 re_21 rf_21
          go_wp2_with fail
          refine (G1 _ rp_22 rq_22).mono ?_
          rintro e w23 ⟨rfl, k23⟩
          have K23 := K22.trans (k23.mono K22.size)
          have rs_23 := rs_22.below k23
          have rp_23 := rp_22.below k23
          have rq_23 := rq_22.below k23
          have re_23 := re_22.below k23
          have rf_23 := rf_22.below k23
          clear rs_22 rp_22 rq_22 re_22 rf_22
          go_wp2_with fail
          refine (G3 _ rq_23 rp_23).mono ?_
          rintro e w24 ⟨rfl, k24⟩
          have K24 := K23.trans (k24.mono K23.size)
          have rs_24 := rs_23.below k24
          have rp_24 := rp_23.below k24
          have rq_24 := rq_23.below k24
          have re_24 := re_23.below k24
          have rf_24 := rf_23.below k24
          clear rs_23 rp_23 rq_23 re_23 rf_23
          clear G1 G2 G3
          go_wp2_with fail
          refine (H1 _ re_24 rf_24).mono ?_
          rintro e w25 ⟨rfl, k25⟩
          have K25 := K24.trans (k25.mono K24.size)
          have rs_25 := rs_24.below k25
          have re_25 := re_24.below k25
          have rf_25 := rf_24.below k25
          clear rs_24 re_24 rf_24
          go_wp2_with fail
          refine (H2 _ re_25 rf_25).mono ?_
          rintro e w26 ⟨rfl, k26⟩
          have K26 := K25.trans (k26.mono K25.size)
          have rs_26 := rs_25.below k26
          have re_26 := re_25.below k26
          have rf_26 := rf_25.below k26
          clear rs_25 re_25 rf_25
          go_wp2_with fail
          refine (H1 _ re_26 rf_26).mono ?_
          rintro e w27 ⟨rfl, k27⟩
          have K27 := K26.trans (k27.mono K26.size)
          have rs_27 := rs_26.below k27
          have re_27 := re_26.below k27
          have rf_27 := rf_26.below k27
          clear rs_26 re_26 rf_26
          go_wp2_with fail
          refine (H3 _ rf_27 re_27).mono ?_
          rintro e w28 ⟨rfl, k28⟩
          have K28 := K27.trans (k28.mono K27.size)
          have rs_28 := rs_27.below k28
          have re_28 := re_27.below k28
          have rf_28 := rf_27.below k28
          clear rs_27 re_27 rf_27
          clear H1 H2 H3
          go_wp2_with fail
          refine (implCanon As ns caps cs _ hns rs_28).mono ?_
          rintro e w29 ⟨v3, rfl, o3, k29⟩
          have K29 := K28.trans (k29.mono K28.size)
          have rs_29 := rs_28.below k29
          clear rs_28
          obtain ⟨A3, cap3, rfl, r3, _⟩ := o3.form
          go_wp2_with fail
          refine (specCanon As ns caps cs _ hns rs_29).mono ?_
          rintro e w30 ⟨A4, cap4, rfl, r4, k30⟩
          have K30 := K29.trans (k30.mono K29.size)
          have rs_30 := rs_29.below k30
          have r3_30 := r3.below k30
          clear rs_29 r3
          have hcn2 := canonC_len cs
          go_wp2_with fail
          refine (spec_same A3 A4 _ cap3 cap4 _ _ (by omega) r3_30 r4).mono ?_
          rintro e w31 ⟨rfl, k31⟩
          have K31 := K30.trans (k31.mono K30.size)
          have rs_31 := rs_30.below k31
          have r3_31 := r3_30.below k31
          have r4_31 := r4.below k31
          clear rs_30 r3_30 r4
          go_wp2
          go_ret
          exact ⟨rfl, K31⟩
      | true =>
        have hand : isShape cs = true ∧ inB m 0 7 = true := by simpa using hT
        have hm7 : 0 ≤ m ∧ m ≤ 7 := by simpa [inB] using hand.2
        obtain ⟨q, rfl⟩ : ∃ q : Nat, m = q := ⟨m.toNat, by omega⟩
        have hts : turnShape cs q = (turnC cs q, true) := turnShape_yes hand.1 hand.2
        have HSH := Lib.hid hand.1
        have hq7 : q ≤ 7 := by omega
        have hsh2 := turn_shape hand.1 q
        have HS2 := Lib.hid hsh2
        have hl2 := (shape_len hsh2).2
        obtain ⟨hi1, hi2⟩ := inv_all ⟨q, by omega⟩
        simp only at hi1 hi2
        have HI1 := Lib.hid hi1
        have HI2 := Lib.hid hi2
        clear hand hsh2 hi1 hi2 hm7
        have TI := fun (A : Option Addr) (n cap : Nat) (w : World) (h : n ≤ 1048576) (g : CellsAt w A n cs) => implTurnShape A n cap cs q w h g
        have TS := fun (A : Option Addr) (n cap : Nat) (w : World) (h : n ≤ 1048576) (g : CellsAt w A n cs) => specTurnShape A n cap cs q w h g
        rw [hts] at TI TS
        clear hT hts
        go_wp2_with fail
        refine (TI As ns caps _ hns rs).mono ?_
        rintro e w7 ⟨vx, rfl, ox, k7⟩
        have K7 := K6.trans (k7.mono K6.size)
        have hc0_7 := hc0_6.below k7
        have rs_7 := rs.below k7
        clear hc0_6 rs
        obtain ⟨Ax, capx, rfl, rx, _⟩ := ox.form
        simp only at rx
        go_wp2_with fail
        refine (TS As ns caps _ hns rs_7).mono ?_
        rintro e w8 ⟨vy, rfl, oy, k8⟩
        have K8 := K7.trans (k8.mono K7.size)
        have hc0_8 := hc0_7.below k8
        have rs_8 := rs_7.below k8
        have rx_8 := rx.below k8
        clear hc0_7 rs_7 rx
        obtain ⟨Ay, capy, rfl, ry, _⟩ := oy.form
        simp only at ry
        go_wp2_with fail
        refine (implOrient As ns caps cs _ hns rs_8).mono ?_
        rintro e w9 ⟨vl, vsl, rfl, ol, k9⟩
        have K9 := K8.trans (k9.mono K8.size)
        have hc0_9 := hc0_8.below k9
        have rs_9 := rs_8.below k9
        have rx_9 := rx_8.below k9
        have ry_9 := ry.below k9
        clear hc0_8 rs_8 rx_8 ry
        obtain ⟨Al, capl, rfl, rl, _⟩ := ol.form
        go_wp2_with fail
        refine (implSymmetries As ns caps cs _ hns rs_9).mono ?_
        rintro e w10 ⟨vg, rfl, og, k10⟩
        have K10 := K9.trans (k10.mono K9.size)
        have hc0_10 := hc0_9.below k10
        have rs_10 := rs_9.below k10
        have rx_10 := rx_9.below k10
        have ry_10 := ry_9.below k10
        have rl_10 := rl.below k10
        clear hc0_9 rs_9 rx_9 ry_9 rl
        obtain ⟨Ag, capg, rfl, rg, _⟩ := og.form
        go_wp2_with fail
        refine (spec_same Ax Ay _ capx capy _ _ (by omega) rx_10 ry_10).mono ?_
        rintro e w11 ⟨rfl, k11⟩
        have K11 := K10.trans (k11.mono K10.size)
        have hc0_11 := hc0_10.below k11
        have rs_11 := rs_10.below k11
        have rx_11 := rx_10.below k11
        have ry_11 := ry_10.below k11
        have rl_11 := rl_10.below k11
        have rg_11 := rg.below k11
        clear hc0_10 rs_10 rx_10 ry_10 rl_10 rg
        go_wp2_with fail
        refine (specOrient As ns caps cs _ hns rs_11).mono ?_
        rintro e w12 ⟨Am, capm, rfl, ⟨rm, _, _⟩, k12⟩
        have K12 := K11.trans (k12.mono K11.size)
        have hc0_12 := hc0_11.below k12
        have rs_12 := rs_11.below k12
        have rx_12 := rx_11.below k12
        have ry_12 := ry_11.below k12
        have rl_12 := rl_11.below k12
        have rg_12 := rg_11.below k12
        clear hc0_11 rs_11 rx_11 ry_11 rl_11 rg_11
        go_wp2_with fail
        refine (sameShapes_same Al Am _ capl capm (orientL cs) _ hol.1 hos rl_12 rm).mono ?_
        rintro e w13 ⟨rfl, k13⟩
        have K13 := K12.trans (k13.mono K12.size)
        have hc0_13 := hc0_12.below k13
        have rs_13 := rs_12.below k13
        have rx_13 := rx_12.below k13
        have ry_13 := ry_12.below k13
        have rl_13 := rl_12.below k13
        have rg_13 := rg_12.below k13
        have rm_13 := rm.below k13
        clear hc0_12 rs_12 rx_12 ry_12 rl_12 rg_12 rm
        go_wp2_with fail
        refine (specSymmetries As ns caps cs _ hns rs_13).mono ?_
        rintro e w14 ⟨vh, rfl, oh, k14⟩
        have K14 := K13.trans (k14.mono K13.size)
        have hc0_14 := hc0_13.below k14
        have rs_14 := rs_13.below k14
        have rx_14 := rx_13.below k14
        have ry_14 := ry_13.below k14
        have rg_14 := rg_13.below k14
        clear hc0_13 rs_13 rx_13 ry_13 rg_13
        obtain ⟨Ah, caph, rfl, rh, _⟩ := oh.form
        go_wp2_with fail
        refine (sameInts_same Ag Ah _ capg caph (symsL cs) _ hsl rg_14 rh).mono ?_
        rintro e w15 ⟨rfl, k15⟩
        have K15 := K14.trans (k15.mono K14.size)
        have hc0_15 := hc0_14.below k15
        have rs_15 := rs_14.below k15
        have rx_15 := rx_14.below k15
        have ry_15 := ry_14.below k15
        have rg_15 := rg_14.below k15
        have rh_15 := rh.below k15
        clear hc0_14 rs_14 rx_14 ry_14 rg_14 rh
        have CSH := fun w g => specIsShape As ns caps cs w hns g
        rw [HSH.out] at CSH
        have hor := orbit HSH.out
        obtain ⟨lo, hlo⟩ : ∃ lo, lo = (orientL cs).length := ⟨_, rfl⟩
        obtain ⟨ls, hls⟩ : ∃ ls, ls = (symsL cs).length := ⟨_, rfl⟩
        rw [← hlo, ← hls] at hor ⊢
        have hor2 : (lo : Int) * (ls : Int) = 8 := by exact_mod_cast hor
        have hor3 : wrap64 ((lo : Int) * (ls : Int)) = 8 := by rw [hor2]; exact IntWalk.wrap64_in _ ⟨by omega, by omega⟩
        clear hor hlo hls
        go_wp2_with fail
        refine (CSH _ rs_15).mono ?_
        rintro e w16 ⟨rfl, k16⟩
        have K16 := K15.trans (k16.mono K15.size)
        have hc0_16 := hc0_15.below k16
        have rs_16 := rs_15.below k16
        have rx_16 := rx_15.below k16
        have ry_16 := ry_15.below k16
        clear hc0_15 rs_15 rx_15 ry_15
        obtain ⟨ch, hch⟩ : ∃ ch, ch = chiral cs := ⟨_, rfl⟩
        have Chi := fun w g => implIsChiral As ns caps cs w hns g
        have Chs := fun w g => specIsChiral As ns caps cs w hns g
        rw [← hch] at Chi Chs
        clear hch
        clear CSH
        go_wp2_with fail
        refine (Chi _ rs_16).mono ?_
        rintro e w17 ⟨rfl, k17⟩
        have K17 := K16.trans (k17.mono K16.size)
        have hc0_17 := hc0_16.below k17
        have rs_17 := rs_16.below k17
        have rx_17 := rx_16.below k17
        have ry_17 := ry_16.below k17
        clear hc0_16 rs_16 rx_16 ry_16
        go_wp2_with fail
        refine (Chs _ rs_17).mono ?_
        rintro e w18 ⟨rfl, k18⟩
        have K18 := K17.trans (k18.mono K17.size)
        have hc0_18 := hc0_17.below k18
        have rs_18 := rs_17.below k18
        have rx_18 := rx_17.below k18
        have ry_18 := ry_17.below k18
        clear hc0_17 rs_17 rx_17 ry_17
        clear Chi Chs TI TS
        go_wp2_with fail
        refine (implInverse q _).mono ?_
        rintro e w19 ⟨rfl, k19⟩
        have K19 := K18.trans (k19.mono K18.size)
        have hc0_19 := hc0_18.below k19
        have rs_19 := rs_18.below k19
        have ry_19 := ry_18.below k19
        clear hc0_18 rs_18 ry_18
        have ZT := fun w g => implTurnShape Ay (turnC cs q).length capy (turnC cs q) (invN q : Nat) w (by omega) g
        rw [turnShape_yes HS2.out (by rw [← HI1.out]; exact HI2.out), turn_back HSH.out hq7, ← HI1.out] at ZT
        go_wp2_with fail
        refine (ZT _ ry_19).mono ?_
        rintro e w20 ⟨vz, rfl, oz, k20⟩
        have K20 := K19.trans (k20.mono K19.size)
        have hc0_20 := hc0_19.below k20
        have rs_20 := rs_19.below k20
        have ry_20 := ry_19.below k20
        clear hc0_19 rs_19 ry_19
        obtain ⟨Az, capz, rfl, rz, _⟩ := oz.form
        simp only at rz
        have CN := fun w g => specCornerShape As ns caps cs w hns g
        rw [show cornerShape cs = cornerC cs from by unfold cornerShape; rw [HSH.out]; rfl] at CN
        have hcc : (cornerC cs).length ≤ 1048576 := by rw [cornerC_len]; exact hcl
        clear ZT
        go_wp2_with fail
        refine (CN _ rs_20).mono ?_
        rintro e w21 ⟨vc, rfl, oc, k21⟩
        have K21 := K20.trans (k21.mono K20.size)
        have hc0_21 := hc0_20.below k21
        have rs_21 := rs_20.below k21
        have ry_21 := ry_20.below k21
        have rz_21 := rz.below k21
        clear hc0_20 rs_20 ry_20 rz
        obtain ⟨Ac, capc, rfl, rc, _⟩ := oc.form
        go_wp2_with fail
        refine (spec_same Az Ac _ capz capc _ _ hcc rz_21 rc).mono ?_
        rintro e w22 ⟨rfl, k22⟩
        have K22 := K21.trans (k22.mono K21.size)
        have hc0_22 := hc0_21.below k22
        have rs_22 := rs_21.below k22
        have ry_22 := ry_21.below k22
        have rz_22 := rz_21.below k22
        have rc_22 := rc.below k22
        clear hc0_21 rs_21 ry_21 rz_21 rc
        have CG := fun w g g2 => implCongruent As Ay ns (turnC cs q).length caps capy cs (turnC cs q) w hns (by omega) g g2
        rw [congL_turn HSH.out hq7] at CG
        clear CN
        go_wp2_with fail
        refine (CG _ rs_22 ry_22).mono ?_
        rintro e w23 ⟨rfl, k23⟩
        have K23 := K22.trans (k23.mono K22.size)
        have hc0_23 := hc0_22.below k23
        have rs_23 := rs_22.below k23
        have ry_23 := ry_22.below k23
        clear hc0_22 rs_22 ry_22
        have CY := fun w g => implCanon Ay (turnC cs q).length capy (turnC cs q) w (by omega) g
        rw [canon_turn HSH.out hq7] at CY
        clear CG
        go_wp2_with fail
        refine (CY _ ry_23).mono ?_
        rintro e w24 ⟨v1, rfl, o1, k24⟩
        have K24 := K23.trans (k24.mono K23.size)
        have hc0_24 := hc0_23.below k24
        have rs_24 := rs_23.below k24
        have ry_24 := ry_23.below k24
        clear hc0_23 rs_23 ry_23
        obtain ⟨A1, cap1, rfl, r1, _⟩ := o1.form
        go_wp2_with fail
        refine (implCanon As ns caps cs _ hns rs_24).mono ?_
        rintro e w25 ⟨v2, rfl, o2, k25⟩
        have K25 := K24.trans (k25.mono K24.size)
        have hc0_25 := hc0_24.below k25
        have rs_25 := rs_24.below k25
        have ry_25 := ry_24.below k25
        have r1_25 := r1.below k25
        clear hc0_24 rs_24 ry_24 r1
        obtain ⟨A2, cap2, rfl, r2, _⟩ := o2.form
        have hcan := canonC_len cs
        clear CY
        go_wp2_with fail
        refine (spec_same A1 A2 _ cap1 cap2 _ _ (by omega) r1_25 r2).mono ?_
        rintro e w26 ⟨rfl, k26⟩
        have K26 := K25.trans (k26.mono K25.size)
        have hc0_26 := hc0_25.below k26
        have rs_26 := rs_25.below k26
        have ry_26 := ry_25.below k26
        have r1_26 := r1_25.below k26
        have r2_26 := r2.below k26
        clear hc0_25 rs_25 ry_25 r1_25 r2
        go_wp2_with fail
        refine (drawIsCongruent A0 n0 cap0 _ hs0 hc0_26).mono ?_
        rintro e w27 ⟨Ap, np, capp, cp, Aq, nq, capq, cq, rfl, rp, hp8, rq, hq8, k27⟩
        have K27 := K26.trans (k27.mono K26.size)
        have hc0_27 := hc0_26.below k27
        have rs_27 := rs_26.below k27
        clear hc0_26 rs_26
        go_wp2_with fail
        refine (drawCompareShapes A0 n0 cap0 _ hs0 hc0_27).mono ?_
        rintro e w28 ⟨Ae, ne, cape, ce, Af, nf, capf, cf, rfl, re, he8, rf, hf8, k28⟩
        have K28 := K27.trans (k28.mono K27.size)
        have hc0_28 := hc0_27.below k28
        have rs_28 := rs_27.below k28
        have rp_28 := rp.below k28
        have rq_28 := rq.below k28
        clear hc0_27 rs_27 rp rq
        obtain ⟨g, hg⟩ : ∃ g, g = congL cp cq := ⟨_, rfl⟩
        have G1 := fun w h1 h2 => implCongruent Ap Aq np nq capp capq cp cq w (by omega) (by omega) h1 h2
        have G2 := fun w h1 h2 => specCongruent Ap Aq np nq capp capq cp cq w (by omega) (by omega) h1 h2
        have G3 := fun w h1 h2 => implCongruent Aq Ap nq np capq capp cq cp w (by omega) (by omega) h1 h2
        rw [congL_symm cq cp] at G3
        rw [← hg] at G1 G2 G3
        clear hg
        obtain ⟨z, hz⟩ : ∃ z, z = cmpC cf ce := ⟨_, rfl⟩
        have hzr := cmpC_range cf ce
        have H1 := fun w h1 h2 => implCompareShapes Ae Af ne nf cape capf ce cf w (by omega) (by omega) h1 h2
        have H2 := fun w h1 h2 => specCompareShapes Ae Af ne nf cape capf ce cf w (by omega) (by omega) h1 h2
        have H3 := fun w h1 h2 => implCompareShapes Af Ae nf ne capf cape cf ce w (by omega) (by omega) h1 h2
        unfold CmpPost at H1 H2 H3
        rw [cmpC_anti cf ce, ← hz] at H1 H2
        rw [← hz] at H3 hzr
        clear hz
        have hz1 : -1 ≤ -z ∧ -z ≤ 1 := by omega
        go_wp2_with fail
        refine (G1 _ rp_28 rq_28).mono ?_
        rintro e w29 ⟨rfl, k29⟩
        have K29 := K28.trans (k29.mono K28.size)
        have rs_29 := rs_28.below k29
        have rp_29 := rp_28.below k29
        have rq_29 := rq_28.below k29
        have re_29 := re.below k29
        have rf_29 := rf.below k29
        clear rs_28 rp_28 rq_28 re rf
        go_wp2_with fail
        refine (G2 _ rp_29 rq_29).mono ?_
        rintro e w30 ⟨rfl, k30⟩
        have K30 := K29.trans (k30.mono K29.size)
        have rs_30 := rs_29.below k30
        have rp_30 := rp_29.below k30
        have rq_30 := rq_29.below k30
        have re_30 := re_29.below k30
        have rf_30 := rf_29.below k30
        clear rs_29 rp_29 rq_29 re_29 rf_29
        go_wp2_with fail
        refine (G1 _ rp_30 rq_30).mono ?_
        rintro e w31 ⟨rfl, k31⟩
        have K31 := K30.trans (k31.mono K30.size)
        have rs_31 := rs_30.below k31
        have rp_31 := rp_30.below k31
        have rq_31 := rq_30.below k31
        have re_31 := re_30.below k31
        have rf_31 := rf_30.below k31
        clear rs_30 rp_30 rq_30 re_30 rf_30
        go_wp2_with fail
        refine (G3 _ rq_31 rp_31).mono ?_
        rintro e w32 ⟨rfl, k32⟩
        have K32 := K31.trans (k32.mono K31.size)
        have rs_32 := rs_31.below k32
        have rp_32 := rp_31.below k32
        have rq_32 := rq_31.below k32
        have re_32 := re_31.below k32
        have rf_32 := rf_31.below k32
        clear rs_31 rp_31 rq_31 re_31 rf_31
        clear G1 G2 G3
        go_wp2_with fail
        refine (H1 _ re_32 rf_32).mono ?_
        rintro e w33 ⟨rfl, k33⟩
        have K33 := K32.trans (k33.mono K32.size)
        have rs_33 := rs_32.below k33
        have re_33 := re_32.below k33
        have rf_33 := rf_32.below k33
        clear rs_32 re_32 rf_32
        go_wp2_with fail
        refine (H2 _ re_33 rf_33).mono ?_
        rintro e w34 ⟨rfl, k34⟩
        have K34 := K33.trans (k34.mono K33.size)
        have rs_34 := rs_33.below k34
        have re_34 := re_33.below k34
        have rf_34 := rf_33.below k34
        clear rs_33 re_33 rf_33
        go_wp2_with fail
        refine (H1 _ re_34 rf_34).mono ?_
        rintro e w35 ⟨rfl, k35⟩
        have K35 := K34.trans (k35.mono K34.size)
        have rs_35 := rs_34.below k35
        have re_35 := re_34.below k35
        have rf_35 := rf_34.below k35
        clear rs_34 re_34 rf_34
        go_wp2_with fail
        refine (H3 _ rf_35 re_35).mono ?_
        rintro e w36 ⟨rfl, k36⟩
        have K36 := K35.trans (k36.mono K35.size)
        have rs_36 := rs_35.below k36
        have re_36 := re_35.below k36
        have rf_36 := rf_35.below k36
        clear rs_35 re_35 rf_35
        clear H1 H2 H3
        go_wp2_with fail
        refine (implCanon As ns caps cs _ hns rs_36).mono ?_
        rintro e w37 ⟨v3, rfl, o3, k37⟩
        have K37 := K36.trans (k37.mono K36.size)
        have rs_37 := rs_36.below k37
        clear rs_36
        obtain ⟨A3, cap3, rfl, r3, _⟩ := o3.form
        go_wp2_with fail
        refine (specCanon As ns caps cs _ hns rs_37).mono ?_
        rintro e w38 ⟨A4, cap4, rfl, r4, k38⟩
        have K38 := K37.trans (k38.mono K37.size)
        have rs_38 := rs_37.below k38
        have r3_38 := r3.below k38
        clear rs_37 r3
        have hcn2 := canonC_len cs
        go_wp2_with fail
        refine (spec_same A3 A4 _ cap3 cap4 _ _ (by omega) r3_38 r4).mono ?_
        rintro e w39 ⟨rfl, k39⟩
        have K39 := K38.trans (k39.mono K38.size)
        have rs_39 := rs_38.below k39
        have r3_39 := r3_38.below k39
        have r4_39 := r4.below k39
        clear rs_38 r3_38 r4
        go_wp2
        go_ret
        exact ⟨rfl, K39⟩
  · go_enter Try.func14, Try.ntmps14
    go_wp2_with fail
    refine (big_yes A0 n0 cap0 _ hs0).mono ?_
    rintro e w ⟨rfl, rfl⟩
    go_wp2
    go_ret
    exact ⟨rfl, Below.refl _ _⟩
end Go.Proofs.Ythhaojbnnacdbaa
