/- The partition, exactly. Condition: at most 2^20 cells. -/
import Derived.Test.YthhaojbnnacdbaaSortA
import Derived.Sort.WalkC4
import Derived.Sort.LotC
namespace Go.Proofs.Ythhaojbnnacdbaa
open Go.RowKit
set_option linter.unusedVariables false

section
variable {B : Nat} {w0 : World} {Bv blk n cap : Nat} {dk : Array C} {w w' : World}
set_option maxRecDepth 100000 in
set_option maxHeartbeats 32000000 in
theorem partW (sf : Nat) (sb : Array Value) (hsw : 2 ≤ n → SwapRun Try.prog sf sb B w0 Bv blk n cap) (h : SS B w0 Bv blk n cap dk w) (a b pivot : Nat) (hap : a ≤ pivot) (hpb : pivot < b) (hab : a + 2 ≤ b) (hb : b ≤ n) (hn : n ≤ 1048576) :
    Calls Try.prog 134 #[dataV Bv sf sb, .int .i64 a, .int .i64 b, .int .i64 pivot] w fun e w' => e = .returned (.tuple #[.int .i64 (Sort.partition bef dk a b pivot).1, .bool (Sort.partition bef dk a b pivot).2.1]) ∧ SS B w0 Bv blk n cap (Sort.partition bef dk a b pivot).2.2 w' ∧ w.grownBy w' (some blk) := by
  obtain ⟨R, hR⟩ : ∃ R, R = Sort.partition bef dk a b pivot := ⟨_, rfl⟩
  rw [← hR]
  have h0 := h.later (below_alloc w (.cells #[(.func (.func 77) #[] #[.pointer (some ⟨Bv, 0, none⟩)]), (.func (.func sf) #[] sb)] 89))
  obtain ⟨w1, hs1, h1, hg1⟩ := hsw (by omega) dk _ h0 a pivot (by omega) (by omega)
  have hbk : blk < w.heap.size := (h.own.lt blk rfl).2
  have hx := (Box2.new w (.func (.func 77) #[] #[.pointer (some ⟨Bv, 0, none⟩)]) (.func (.func sf) #[] sb) 89).grown hg1 (by intro e; injection e with e; omega)
  have hG0 : w.grownBy w1 (some blk) := (grow_below (below_alloc w _)).trans hg1
  have eg : ∀ args w, (callFunc 77 args).run Try.prog w = .ok (.enter 77 args) w := enters_of Try.func77 (by kernel_rfl) rfl
  obtain ⟨d1, hd1⟩ : ∃ d1, d1 = Sort.swp dk a pivot := ⟨_, rfl⟩
  rw [← hd1] at h1
  have HD := Lib.hid hd1
  have HR := Lib.hid hR
  clear hR hd1 h0 hg1 h
  unfold dataV
  go_enter Try.func134, Try.ntmps134
  have hS := h1
  have hG := hG0
  clear h1 hG0
  go_wp2
  go_loopw [10] (fun vi wr => ∃ pu : Nat, vi = .int .i64 pu ∧ a + 1 ≤ pu ∧ pu ≤ b - 1 + 1 ∧ SS B w0 Bv blk n cap d1 wr ∧ Box2 wr w.heap.size (.func (.func 77) #[] #[.pointer (some ⟨Bv, 0, none⟩)]) (.func (.func sf) #[] sb) 89 ∧ w.grownBy wr (some blk) ∧ Hid (Sort.scanUp (fun x => bef x d1[a]!) d1 (b - 1) pu = Sort.scanUp (fun x => bef x d1[a]!) d1 (b - 1) (a + 1))) (fun vi _ => b - 1 + 1 - (intOf vi).toNat)
  case atStart => exact ⟨a + 1, by first | rfl | (congr 1; omega), by omega, by omega, hS, hx, hG, rfl⟩
  case round =>
    clear hS hx hG
    obtain ⟨pu, rfl, hu1, hu2, hSu, hxu, hGu, HKu⟩ := hrel
    have c0 := hxu.c0
    have c1 := hxu.c1
    by_cases hcc : pu ≤ b - 1
    · have hci : (pu : Int) ≤ (b - 1 : Int) := by omega
      have hlp : Calls Try.prog 77 #[.int .i64 ((pu : Int)), .int .i64 ((a : Int)), .pointer (some ⟨Bv, 0, none⟩)] wr fun e w' => e = .returned (.bool (bef d1[pu]! d1[a]!)) ∧ Below wr.heap.size wr w' := by
        have := less_any hSu (pu) (a) (by omega) (by omega)
        exact this
      cases hv : bef d1[pu]! d1[a]! with
      | true =>
        have HN : Hid (Sort.scanUp (fun x => bef x d1[a]!) d1 (b - 1) (pu + 1) = Sort.scanUp (fun x => bef x d1[a]!) d1 (b - 1) (a + 1)) := by show _ = _; rw [← HKu.out, scanUp_go (fun x => bef x d1[a]!) d1 (b - 1) pu hcc (by simp [hv])]
        rw [hv] at hlp
        clear hv
        go_wp2_with fail
        refine hlp.mono ?_
        rintro e wp ⟨rfl, hbp⟩
        have hSp := hSu.later hbp
        have hGp := hGu.trans (grow_below (row := some blk) hbp)
        have hxp := hxu.later hbp
        have c0p := hxp.c0
        have c1p := hxp.c1
        clear hlp hSu hxu c0 c1 hGu
        go_wp2
        go_roundw
        case rel => exact ⟨pu + 1, by first | go_num | (congr 1; omega), by omega, by omega, hSp, hxp, hGp, HN⟩
        case measure => simp [intOf]; omega
      | false =>
        have HZu : Hid (pu = Sort.scanUp (fun x => bef x d1[a]!) d1 (b - 1) (a + 1)) := by show _ = _; rw [← HKu.out, scanUp_end (fun x => bef x d1[a]!) d1 (b - 1) pu (Or.inr (by simp [hv]))]
        rw [hv] at hlp
        clear hv
        go_wp2_with fail
        refine hlp.mono ?_
        rintro e wp ⟨rfl, hbp⟩
        have hSp := hSu.later hbp
        have hGp := hGu.trans (grow_below (row := some blk) hbp)
        have hxp := hxu.later hbp
        have c0p := hxp.c0
        have c1p := hxp.c1
        clear hlp hSu hxu c0 c1 hGu HKu c0p c1p
        have hSu := hSp
        have hxu := hxp
        have hGu := hGp
        clear hSp hxp hGp
        go_wp2
        go_loopw [11] (fun vi wr => ∃ pd : Nat, vi = .int .i64 pd ∧ pd ≤ b - 1 ∧ pu ≤ pd + 1 ∧ SS B w0 Bv blk n cap d1 wr ∧ Box2 wr w.heap.size (.func (.func 77) #[] #[.pointer (some ⟨Bv, 0, none⟩)]) (.func (.func sf) #[] sb) 89 ∧ w.grownBy wr (some blk) ∧ Hid (Sort.scanDown (fun x => !bef x d1[a]!) d1 pu pd = Sort.scanDown (fun x => !bef x d1[a]!) d1 pu (b - 1))) (fun vi _ => (intOf vi).toNat)
        case atStart => exact ⟨b - 1, by first | rfl | (congr 1; omega), by omega, by omega, hSu, hxu, hGu, rfl⟩
        case round =>
          clear hSu hxu hGu
          obtain ⟨pd, rfl, hd1, hd2, hSd, hxd, hGd, HKd⟩ := hrel
          have c0 := hxd.c0
          have c1 := hxd.c1
          by_cases hcc : pu ≤ pd
          · have hci : (pu : Int) ≤ (pd : Int) := by omega
            have hlp : Calls Try.prog 77 #[.int .i64 ((pd : Int)), .int .i64 ((a : Int)), .pointer (some ⟨Bv, 0, none⟩)] wr fun e w' => e = .returned (.bool (bef d1[pd]! d1[a]!)) ∧ Below wr.heap.size wr w' := by
              have := less_any hSd (pd) (a) (by omega) (by omega)
              exact this
            cases hv : bef d1[pd]! d1[a]! with
            | true =>
              have HZd : Hid (pd = Sort.scanDown (fun x => !bef x d1[a]!) d1 pu (b - 1)) := by show _ = _; rw [← HKd.out, scanDown_end (fun x => !bef x d1[a]!) d1 pu pd (Or.inr (by simp [hv]))]
              rw [hv] at hlp
              clear hv
              go_wp2_with fail
              refine hlp.mono ?_
              rintro e wp ⟨rfl, hbp⟩
              have hSp := hSd.later hbp
              have hGp := hGd.trans (grow_below (row := some blk) hbp)
              have hxp := hxd.later hbp
              have c0p := hxp.c0
              have c1p := hxp.c1
              clear hlp hSd hxd c0 c1 hGd HKd c0p c1p
              have hSd := hSp
              have hxd := hxp
              have hGd := hGp
              clear hSp hxp hGp
              by_cases hbr : pd < pu
              · exact absurd hcc (by omega)
              · have hbri : ¬ (pd : Int) < (pu : Int) := by omega
                have hlt := part_scans_lt bef a (a + 1) (b - 1) d1 (by omega) HZu.out HZd.out (by omega)
                have hgo := part_first_go bef dk a b pivot rfl rfl HD.out HZu.out HZd.out (by omega)
                obtain ⟨wz, hsz, hSz, hgz⟩ := hsw (by omega) d1 _ hSd (pu) (pd) (by omega) (by omega)
                have c0 := hxd.c0
                have c1 := hxd.c1
                have hGz := hGd.trans hgz
                have hxz := hxd.grown hgz (by intro e; injection e with e; omega)
                have c0z := hxz.c0
                have c1z := hxz.c1
                obtain ⟨d2, hd2⟩ : ∃ d2, d2 = Sort.swp d1 pu pd := ⟨_, rfl⟩
                rw [← hd2] at hSz hgo
                clear hd2
                obtain ⟨L, hL⟩ : ∃ L, L = Sort.partLoop bef a (pu + 1) (pd - 1) d2 := ⟨_, rfl⟩
                rw [← hL, ← HR.out] at hgo
                have HG := Lib.hid hgo
                have HL : Hid (Sort.partLoop bef a (pu + 1) (pd - 1) d2 = L) := hL.symm
                clear hL hgo HZu HZd
                clear hSd hgz hxd hGd c0z c1z
                go_wp2
                go_loopw [10, 11] (fun vi vj wr => ∃ (i j : Nat) (di : Array C), vi = .int .i64 i ∧ vj = .int .i64 j ∧ a < i ∧ i ≤ j + 1 ∧ j < b ∧ SS B w0 Bv blk n cap di wr ∧ Box2 wr w.heap.size (.func (.func 77) #[] #[.pointer (some ⟨Bv, 0, none⟩)]) (.func (.func sf) #[] sb) 89 ∧ w.grownBy wr (some blk) ∧ Hid (Sort.partLoop bef a i j di = L)) (fun vi vj _ => ((intOf vj) + 1 - intOf vi).toNat)
                case atStart => exact ⟨pu + 1, pd - 1, d2, by go_num, by congr 1; omega, by omega, by omega, by omega, hSz, hxz, hGz, HL⟩
                case round =>
                  clear hSz hxz hGz HL hsz c0 c1
                  obtain ⟨i, j, di, rfl, rfl, hai, hij, hjb, hS, hx, hG, HO⟩ := hrel
                  go_wp2
                  go_loopw [10] (fun vi wr => ∃ pv : Nat, vi = .int .i64 pv ∧ i ≤ pv ∧ pv ≤ j + 1 ∧ SS B w0 Bv blk n cap di wr ∧ Box2 wr w.heap.size (.func (.func 77) #[] #[.pointer (some ⟨Bv, 0, none⟩)]) (.func (.func sf) #[] sb) 89 ∧ w.grownBy wr (some blk) ∧ Hid (Sort.scanUp (fun x => bef x di[a]!) di j pv = Sort.scanUp (fun x => bef x di[a]!) di j i)) (fun vi _ => j + 1 - (intOf vi).toNat)
                  case atStart => exact ⟨i, by first | rfl | (congr 1; omega), by omega, by omega, hS, hx, hG, rfl⟩
                  case round =>
                    clear hS hx hG
                    obtain ⟨pv, rfl, hv1, hv2, hSv, hxv, hGv, HKv⟩ := hrel
                    have c0 := hxv.c0
                    have c1 := hxv.c1
                    by_cases hcc : pv ≤ j
                    · have hci : (pv : Int) ≤ (j : Int) := by omega
                      have hlp : Calls Try.prog 77 #[.int .i64 ((pv : Int)), .int .i64 ((a : Int)), .pointer (some ⟨Bv, 0, none⟩)] wr fun e w' => e = .returned (.bool (bef di[pv]! di[a]!)) ∧ Below wr.heap.size wr w' := by
                        have := less_any hSv (pv) (a) (by omega) (by omega)
                        exact this
                      cases hv : bef di[pv]! di[a]! with
                      | true =>
                        have HN : Hid (Sort.scanUp (fun x => bef x di[a]!) di j (pv + 1) = Sort.scanUp (fun x => bef x di[a]!) di j i) := by show _ = _; rw [← HKv.out, scanUp_go (fun x => bef x di[a]!) di j pv hcc (by simp [hv])]
                        rw [hv] at hlp
                        clear hv
                        go_wp2_with fail
                        refine hlp.mono ?_
                        rintro e wp ⟨rfl, hbp⟩
                        have hSp := hSv.later hbp
                        have hGp := hGv.trans (grow_below (row := some blk) hbp)
                        have hxp := hxv.later hbp
                        have c0p := hxp.c0
                        have c1p := hxp.c1
                        clear hlp hSv hxv c0 c1 hGv
                        go_wp2
                        go_roundw
                        case rel => exact ⟨pv + 1, by first | go_num | (congr 1; omega), by omega, by omega, hSp, hxp, hGp, HN⟩
                        case measure => simp [intOf]; omega
                      | false =>
                        have HZv : Hid (pv = Sort.scanUp (fun x => bef x di[a]!) di j i) := by show _ = _; rw [← HKv.out, scanUp_end (fun x => bef x di[a]!) di j pv (Or.inr (by simp [hv]))]
                        rw [hv] at hlp
                        clear hv
                        go_wp2_with fail
                        refine hlp.mono ?_
                        rintro e wp ⟨rfl, hbp⟩
                        have hSp := hSv.later hbp
                        have hGp := hGv.trans (grow_below (row := some blk) hbp)
                        have hxp := hxv.later hbp
                        have c0p := hxp.c0
                        have c1p := hxp.c1
                        clear hlp hSv hxv c0 c1 hGv HKv c0p c1p
                        have hSv := hSp
                        have hxv := hxp
                        have hGv := hGp
                        clear hSp hxp hGp
                        go_wp2
                        go_loopw [11] (fun vi wr => ∃ pe : Nat, vi = .int .i64 pe ∧ pe ≤ j ∧ pv ≤ pe + 1 ∧ SS B w0 Bv blk n cap di wr ∧ Box2 wr w.heap.size (.func (.func 77) #[] #[.pointer (some ⟨Bv, 0, none⟩)]) (.func (.func sf) #[] sb) 89 ∧ w.grownBy wr (some blk) ∧ Hid (Sort.scanDown (fun x => !bef x di[a]!) di pv pe = Sort.scanDown (fun x => !bef x di[a]!) di pv j)) (fun vi _ => (intOf vi).toNat)
                        case atStart => exact ⟨j, by first | rfl | (congr 1; omega), by omega, by omega, hSv, hxv, hGv, rfl⟩
                        case round =>
                          clear hSv hxv hGv
                          obtain ⟨pe, rfl, he1, he2, hSe, hxe, hGe, HKe⟩ := hrel
                          have c0 := hxe.c0
                          have c1 := hxe.c1
                          by_cases hcc : pv ≤ pe
                          · have hci : (pv : Int) ≤ (pe : Int) := by omega
                            have hlp : Calls Try.prog 77 #[.int .i64 ((pe : Int)), .int .i64 ((a : Int)), .pointer (some ⟨Bv, 0, none⟩)] wr fun e w' => e = .returned (.bool (bef di[pe]! di[a]!)) ∧ Below wr.heap.size wr w' := by
                              have := less_any hSe (pe) (a) (by omega) (by omega)
                              exact this
                            cases hv : bef di[pe]! di[a]! with
                            | true =>
                              have HZe : Hid (pe = Sort.scanDown (fun x => !bef x di[a]!) di pv j) := by show _ = _; rw [← HKe.out, scanDown_end (fun x => !bef x di[a]!) di pv pe (Or.inr (by simp [hv]))]
                              rw [hv] at hlp
                              clear hv
                              go_wp2_with fail
                              refine hlp.mono ?_
                              rintro e wp ⟨rfl, hbp⟩
                              have hSp := hSe.later hbp
                              have hGp := hGe.trans (grow_below (row := some blk) hbp)
                              have hxp := hxe.later hbp
                              have c0p := hxp.c0
                              have c1p := hxp.c1
                              clear hlp hSe hxe c0 c1 hGe HKe c0p c1p
                              have hSe := hSp
                              have hxe := hxp
                              have hGe := hGp
                              clear hSp hxp hGp
                              by_cases hbr : pe < pv
                              · exact absurd hcc (by omega)
                              · have hbri : ¬ (pe : Int) < (pv : Int) := by omega
                                have hlt := part_scans_lt bef a i j di (by omega) HZv.out HZe.out (by omega)
                                obtain ⟨wz, hsz, hSz, hgz⟩ := hsw (by omega) di _ hSe (pv) (pe) (by omega) (by omega)
                                have HN : Hid (Sort.partLoop bef a (pv + 1) (pe - 1) (Sort.swp di pv pe) = L) := by show _ = _; rw [← HO.out, part_go bef a i j di HZv.out HZe.out (by omega)]
                                have c0 := hxe.c0
                                have c1 := hxe.c1
                                have hGz := hGe.trans hgz
                                have hxz := hxe.grown hgz (by intro e; injection e with e; omega)
                                have c0z := hxz.c0
                                have c1z := hxz.c1
                                clear hSe hgz hxe hGe c0z c1z
                                go_wp2
                                go_roundw
                                case rel => exact ⟨pv + 1, pe - 1, _, by go_num, by congr 1; omega, by omega, by omega, by omega, hSz, hxz, hGz, HN⟩
                                case measure => simp [intOf]; omega
                            | false =>
                              have HN : Hid (Sort.scanDown (fun x => !bef x di[a]!) di pv (pe - 1) = Sort.scanDown (fun x => !bef x di[a]!) di pv j) := by show _ = _; rw [← HKe.out, scanDown_go (fun x => !bef x di[a]!) di pv pe hcc (by omega) (by simp [hv])]
                              rw [hv] at hlp
                              clear hv
                              go_wp2_with fail
                              refine hlp.mono ?_
                              rintro e wp ⟨rfl, hbp⟩
                              have hSp := hSe.later hbp
                              have hGp := hGe.trans (grow_below (row := some blk) hbp)
                              have hxp := hxe.later hbp
                              have c0p := hxp.c0
                              have c1p := hxp.c1
                              clear hlp hSe hxe c0 c1 hGe
                              go_wp2
                              go_roundw
                              case rel => exact ⟨pe - 1, by first | go_num | (congr 1; omega), by omega, by omega, hSp, hxp, hGp, HN⟩
                              case measure => simp [intOf]; omega
                          · have hci : ¬ (pv : Int) ≤ (pe : Int) := by omega
                            have HZe : Hid (pe = Sort.scanDown (fun x => !bef x di[a]!) di pv j) := by show _ = _; rw [← HKe.out, scanDown_end (fun x => !bef x di[a]!) di pv pe (Or.inl hcc)]
                            clear c0 c1 HKe
                            have hbr : pe < pv := by omega
                            have hbri : (pe : Int) < (pv : Int) := by omega
                            obtain ⟨wy, hsy, hSy, hgy⟩ := hsw (by omega) di _ hSe (pe) (a) (by omega) (by omega)
                            have c0 := hxe.c0
                            have c1 := hxe.c1
                            have hGy := hGe.trans hgy
                            have HE : Hid (R = (pe, false, Sort.swp di pe a)) := by show _ = _; rw [HG.out, ← HO.out, part_break bef a i j di HZv.out HZe.out hbr]
                            clear hSe hxe hGe hgy
                            go_wp2
                            go_ret2
                            exact ⟨by rw [HE.out]; first | done | rfl, by rw [HE.out]; exact hSy, hGy⟩
                    · have hci : ¬ (pv : Int) ≤ (j : Int) := by omega
                      have HZv : Hid (pv = Sort.scanUp (fun x => bef x di[a]!) di j i) := by show _ = _; rw [← HKv.out, scanUp_end (fun x => bef x di[a]!) di j pv (Or.inl hcc)]
                      clear c0 c1 HKv
                      go_wp2
                      go_loopw [11] (fun vi wr => ∃ pe : Nat, vi = .int .i64 pe ∧ pe ≤ j ∧ pv ≤ pe + 1 ∧ SS B w0 Bv blk n cap di wr ∧ Box2 wr w.heap.size (.func (.func 77) #[] #[.pointer (some ⟨Bv, 0, none⟩)]) (.func (.func sf) #[] sb) 89 ∧ w.grownBy wr (some blk) ∧ Hid (Sort.scanDown (fun x => !bef x di[a]!) di pv pe = Sort.scanDown (fun x => !bef x di[a]!) di pv j)) (fun vi _ => (intOf vi).toNat)
                      case atStart => exact ⟨j, by first | rfl | (congr 1; omega), by omega, by omega, hSv, hxv, hGv, rfl⟩
                      case round =>
                        clear hSv hxv hGv
                        obtain ⟨pe, rfl, he1, he2, hSe, hxe, hGe, HKe⟩ := hrel
                        have c0 := hxe.c0
                        have c1 := hxe.c1
                        by_cases hcc : pv ≤ pe
                        · exact absurd hcc (by omega)
                        · have hci : ¬ (pv : Int) ≤ (pe : Int) := by omega
                          have HZe : Hid (pe = Sort.scanDown (fun x => !bef x di[a]!) di pv j) := by show _ = _; rw [← HKe.out, scanDown_end (fun x => !bef x di[a]!) di pv pe (Or.inl hcc)]
                          clear c0 c1 HKe
                          have hbr : pe < pv := by omega
                          have hbri : (pe : Int) < (pv : Int) := by omega
                          obtain ⟨wy, hsy, hSy, hgy⟩ := hsw (by omega) di _ hSe (pe) (a) (by omega) (by omega)
                          have c0 := hxe.c0
                          have c1 := hxe.c1
                          have hGy := hGe.trans hgy
                          have HE : Hid (R = (pe, false, Sort.swp di pe a)) := by show _ = _; rw [HG.out, ← HO.out, part_break bef a i j di HZv.out HZe.out hbr]
                          clear hSe hxe hGe hgy
                          go_wp2
                          go_ret2
                          exact ⟨by rw [HE.out]; first | done | rfl, by rw [HE.out]; exact hSy, hGy⟩
            | false =>
              have HN : Hid (Sort.scanDown (fun x => !bef x d1[a]!) d1 pu (pd - 1) = Sort.scanDown (fun x => !bef x d1[a]!) d1 pu (b - 1)) := by show _ = _; rw [← HKd.out, scanDown_go (fun x => !bef x d1[a]!) d1 pu pd hcc (by omega) (by simp [hv])]
              rw [hv] at hlp
              clear hv
              go_wp2_with fail
              refine hlp.mono ?_
              rintro e wp ⟨rfl, hbp⟩
              have hSp := hSd.later hbp
              have hGp := hGd.trans (grow_below (row := some blk) hbp)
              have hxp := hxd.later hbp
              have c0p := hxp.c0
              have c1p := hxp.c1
              clear hlp hSd hxd c0 c1 hGd
              go_wp2
              go_roundw
              case rel => exact ⟨pd - 1, by first | go_num | (congr 1; omega), by omega, by omega, hSp, hxp, hGp, HN⟩
              case measure => simp [intOf]; omega
          · have hci : ¬ (pu : Int) ≤ (pd : Int) := by omega
            have HZd : Hid (pd = Sort.scanDown (fun x => !bef x d1[a]!) d1 pu (b - 1)) := by show _ = _; rw [← HKd.out, scanDown_end (fun x => !bef x d1[a]!) d1 pu pd (Or.inl hcc)]
            clear c0 c1 HKd
            have hbr : pd < pu := by omega
            have hbri : (pd : Int) < (pu : Int) := by omega
            obtain ⟨wy, hsy, hSy, hgy⟩ := hsw (by omega) d1 _ hSd (pd) (a) (by omega) (by omega)
            have c0 := hxd.c0
            have c1 := hxd.c1
            have hGy := hGd.trans hgy
            have HE : Hid (R = (pd, true, Sort.swp d1 pd a)) := by show _ = _; rw [HR.out, part_first_break bef dk a b pivot rfl rfl HD.out HZu.out HZd.out hbr]
            clear hSd hxd hGd hgy
            go_wp2
            go_ret2
            exact ⟨by rw [HE.out]; first | done | rfl, by rw [HE.out]; exact hSy, hGy⟩
    · have hci : ¬ (pu : Int) ≤ (b - 1 : Int) := by omega
      have HZu : Hid (pu = Sort.scanUp (fun x => bef x d1[a]!) d1 (b - 1) (a + 1)) := by show _ = _; rw [← HKu.out, scanUp_end (fun x => bef x d1[a]!) d1 (b - 1) pu (Or.inl hcc)]
      clear c0 c1 HKu
      go_wp2
      go_loopw [11] (fun vi wr => ∃ pd : Nat, vi = .int .i64 pd ∧ pd ≤ b - 1 ∧ pu ≤ pd + 1 ∧ SS B w0 Bv blk n cap d1 wr ∧ Box2 wr w.heap.size (.func (.func 77) #[] #[.pointer (some ⟨Bv, 0, none⟩)]) (.func (.func sf) #[] sb) 89 ∧ w.grownBy wr (some blk) ∧ Hid (Sort.scanDown (fun x => !bef x d1[a]!) d1 pu pd = Sort.scanDown (fun x => !bef x d1[a]!) d1 pu (b - 1))) (fun vi _ => (intOf vi).toNat)
      case atStart => exact ⟨b - 1, by first | rfl | (congr 1; omega), by omega, by omega, hSu, hxu, hGu, rfl⟩
      case round =>
        clear hSu hxu hGu
        obtain ⟨pd, rfl, hd1, hd2, hSd, hxd, hGd, HKd⟩ := hrel
        have c0 := hxd.c0
        have c1 := hxd.c1
        by_cases hcc : pu ≤ pd
        · exact absurd hcc (by omega)
        · have hci : ¬ (pu : Int) ≤ (pd : Int) := by omega
          have HZd : Hid (pd = Sort.scanDown (fun x => !bef x d1[a]!) d1 pu (b - 1)) := by show _ = _; rw [← HKd.out, scanDown_end (fun x => !bef x d1[a]!) d1 pu pd (Or.inl hcc)]
          clear c0 c1 HKd
          have hbr : pd < pu := by omega
          have hbri : (pd : Int) < (pu : Int) := by omega
          obtain ⟨wy, hsy, hSy, hgy⟩ := hsw (by omega) d1 _ hSd (pd) (a) (by omega) (by omega)
          have c0 := hxd.c0
          have c1 := hxd.c1
          have hGy := hGd.trans hgy
          have HE : Hid (R = (pd, true, Sort.swp d1 pd a)) := by show _ = _; rw [HR.out, part_first_break bef dk a b pivot rfl rfl HD.out HZu.out HZd.out hbr]
          clear hSd hxd hGd hgy
          go_wp2
          go_ret2
          exact ⟨by rw [HE.out]; first | done | rfl, by rw [HE.out]; exact hSy, hGy⟩
end
end Go.Proofs.Ythhaojbnnacdbaa
