/- The partition of equal cells, exactly. Condition: at most 2^20 cells. -/
import Derived.Test.YthhaojbnnacdbaaSortA
import Derived.Sort.WalkC
import Derived.Sort.LotC
namespace Go.Proofs.Ythhaojbnnacdbaa
open Go.RowKit
set_option linter.unusedVariables false

section
variable {B : Nat} {w0 : World} {Bv blk n cap : Nat} {dk : Array C} {w w' : World}
set_option maxRecDepth 100000 in
set_option maxHeartbeats 32000000 in
theorem partEqW (sf : Nat) (sb : Array Value) (hsw : 2 ≤ n → SwapRun Try.prog sf sb B w0 Bv blk n cap) (h : SS B w0 Bv blk n cap dk w) (a b pivot : Nat) (hap : a ≤ pivot) (hpb : pivot < b) (hab : a + 2 ≤ b) (hb : b ≤ n) (hn : n ≤ 1048576) :
    Calls Try.prog 133 #[dataV Bv sf sb, .int .i64 a, .int .i64 b, .int .i64 pivot] w fun e w' => e = .returned (.int .i64 (Sort.partitionEqual bef dk a b pivot).1) ∧ SS B w0 Bv blk n cap (Sort.partitionEqual bef dk a b pivot).2 w' ∧ w.grownBy w' (some blk) := by
  obtain ⟨R, hR⟩ : ∃ R, R = Sort.partitionEqual bef dk a b pivot := ⟨_, rfl⟩
  rw [← hR]
  have h0 := h.later (below_alloc w (.cells #[(.func (.func 77) #[] #[.pointer (some ⟨Bv, 0, none⟩)]), (.func (.func sf) #[] sb)] 89))
  obtain ⟨w1, hs1, h1, hg1⟩ := hsw (by omega) dk _ h0 a pivot (by omega) (by omega)
  have hbk : blk < w.heap.size := (h.own.lt blk rfl).2
  have hx := (Box2.new w (.func (.func 77) #[] #[.pointer (some ⟨Bv, 0, none⟩)]) (.func (.func sf) #[] sb) 89).grown hg1 (by intro e; injection e with e; omega)
  have hG0 : w.grownBy w1 (some blk) := (grow_below (below_alloc w _)).trans hg1
  have eg : ∀ args w, (callFunc 77 args).run Try.prog w = .ok (.enter 77 args) w := enters_of Try.func77 (by kernel_rfl) rfl
  obtain ⟨d1, hd1⟩ : ∃ d1, d1 = Sort.swp dk a pivot := ⟨_, rfl⟩
  rw [← hd1] at h1
  have HD := Lib.hid hd1
  have HR := Lib.hid hR
  clear hR hd1 h0 hg1 h
  unfold dataV
  go_enter Try.func133, Try.ntmps133
  have HR2 : Hid (Sort.partEqLoop bef a (a + 1) (b - 1) d1 = R) := by show _ = _; rw [HR.out, HD.out]; rfl
  clear HR HD
  go_wp2
  go_loopw [9, 10] (fun vi vj wr => ∃ (i j : Nat) (di : Array C), vi = .int .i64 i ∧ vj = .int .i64 j ∧ a < i ∧ i ≤ j + 1 ∧ j < b ∧ SS B w0 Bv blk n cap di wr ∧ Box2 wr w.heap.size (.func (.func 77) #[] #[.pointer (some ⟨Bv, 0, none⟩)]) (.func (.func sf) #[] sb) 89 ∧ w.grownBy wr (some blk) ∧ Hid (Sort.partEqLoop bef a i j di = R)) (fun vi vj _ => ((intOf vj) + 1 - intOf vi).toNat)
  case atStart => exact ⟨a + 1, b - 1, d1, by go_num, by congr 1; omega, by omega, by omega, by omega, h1, hx, hG0, HR2⟩
  case round =>
    clear h1 hx hG0 HR2 hs1
    obtain ⟨i, j, di, rfl, rfl, hai, hij, hjb, hS, hx, hG, HO⟩ := hrel
    go_wp2
    go_loopw [9] (fun vi wr => ∃ pu : Nat, vi = .int .i64 pu ∧ i ≤ pu ∧ pu ≤ j + 1 ∧ SS B w0 Bv blk n cap di wr ∧ Box2 wr w.heap.size (.func (.func 77) #[] #[.pointer (some ⟨Bv, 0, none⟩)]) (.func (.func sf) #[] sb) 89 ∧ w.grownBy wr (some blk) ∧ Hid (Sort.scanUp (fun x => !bef di[a]! x) di j pu = Sort.scanUp (fun x => !bef di[a]! x) di j i)) (fun vi _ => j + 1 - (intOf vi).toNat)
    case atStart => exact ⟨i, by first | rfl | (congr 1; omega), by omega, by omega, hS, hx, hG, rfl⟩
    case round =>
      clear hS hx hG
      obtain ⟨pu, rfl, hu1, hu2, hSu, hxu, hGu, HKu⟩ := hrel
      have c0 := hxu.c0
      have c1 := hxu.c1
      by_cases hcc : pu ≤ j
      · have hci : (pu : Int) ≤ (j : Int) := by omega
        have hlp : Calls Try.prog 77 #[.int .i64 ((a : Int)), .int .i64 ((pu : Int)), .pointer (some ⟨Bv, 0, none⟩)] wr fun e w' => e = .returned (.bool (bef di[a]! di[pu]!)) ∧ Below wr.heap.size wr w' := by
          have := less_any hSu (a) (pu) (by omega) (by omega)
          exact this
        cases hv : bef di[a]! di[pu]! with
        | true =>
          have HZu : Hid (pu = Sort.scanUp (fun x => !bef di[a]! x) di j i) := by show _ = _; rw [← HKu.out, scanUp_end (fun x => !bef di[a]! x) di j pu (Or.inr (by simp [hv]))]
          rw [hv] at hlp
          clear hv
          go_wp2_with fail
          refine hlp.mono ?_
          rintro e wp ⟨rfl, hbp⟩
          have hSp := hSu.later hbp
          have hGp := hGu.trans (grow_below (row := some blk) hbp)
          have hxp := hxu.later hbp
          have c0p := hxp.c0
          have c1p := hxp.c1
          clear hlp hSu hxu c0 c1 hGu HKu c0p c1p
          have hSu := hSp
          have hxu := hxp
          have hGu := hGp
          clear hSp hxp hGp
          go_wp2
          go_loopw [10] (fun vi wr => ∃ pd : Nat, vi = .int .i64 pd ∧ pd ≤ j ∧ pu ≤ pd + 1 ∧ SS B w0 Bv blk n cap di wr ∧ Box2 wr w.heap.size (.func (.func 77) #[] #[.pointer (some ⟨Bv, 0, none⟩)]) (.func (.func sf) #[] sb) 89 ∧ w.grownBy wr (some blk) ∧ Hid (Sort.scanDown (fun x => bef di[a]! x) di pu pd = Sort.scanDown (fun x => bef di[a]! x) di pu j)) (fun vi _ => (intOf vi).toNat)
          case atStart => exact ⟨j, by first | rfl | (congr 1; omega), by omega, by omega, hSu, hxu, hGu, rfl⟩
          case round =>
            clear hSu hxu hGu
            obtain ⟨pd, rfl, hd1, hd2, hSd, hxd, hGd, HKd⟩ := hrel
            have c0 := hxd.c0
            have c1 := hxd.c1
            by_cases hcc : pu ≤ pd
            · have hci : (pu : Int) ≤ (pd : Int) := by omega
              have hlp : Calls Try.prog 77 #[.int .i64 ((a : Int)), .int .i64 ((pd : Int)), .pointer (some ⟨Bv, 0, none⟩)] wr fun e w' => e = .returned (.bool (bef di[a]! di[pd]!)) ∧ Below wr.heap.size wr w' := by
                have := less_any hSd (a) (pd) (by omega) (by omega)
                exact this
              cases hv : bef di[a]! di[pd]! with
              | true =>
                have HN : Hid (Sort.scanDown (fun x => bef di[a]! x) di pu (pd - 1) = Sort.scanDown (fun x => bef di[a]! x) di pu j) := by show _ = _; rw [← HKd.out, scanDown_go (fun x => bef di[a]! x) di pu pd hcc (by omega) (by simp [hv])]
                rw [hv] at hlp
                clear hv
                go_wp2_with fail
                refine hlp.mono ?_
                rintro e wp ⟨rfl, hbp⟩
                have hSp := hSd.later hbp
                have hGp := hGd.trans (grow_below (row := some blk) hbp)
                have hxp := hxd.later hbp
                have c0p := hxp.c0
                have c1p := hxp.c1
                clear hlp hSd hxd c0 c1 hGd
                go_wp2
                go_roundw
                case rel => exact ⟨pd - 1, by first | go_num | (congr 1; omega), by omega, by omega, hSp, hxp, hGp, HN⟩
                case measure => simp [intOf]; omega
              | false =>
                have HZd : Hid (pd = Sort.scanDown (fun x => bef di[a]! x) di pu j) := by show _ = _; rw [← HKd.out, scanDown_end (fun x => bef di[a]! x) di pu pd (Or.inr (by simp [hv]))]
                rw [hv] at hlp
                clear hv
                go_wp2_with fail
                refine hlp.mono ?_
                rintro e wp ⟨rfl, hbp⟩
                have hSp := hSd.later hbp
                have hGp := hGd.trans (grow_below (row := some blk) hbp)
                have hxp := hxd.later hbp
                have c0p := hxp.c0
                have c1p := hxp.c1
                clear hlp hSd hxd c0 c1 hGd HKd c0p c1p
                have hSd := hSp
                have hxd := hxp
                have hGd := hGp
                clear hSp hxp hGp
                by_cases hbr : pd < pu
                · have hbri : (pd : Int) < (pu : Int) := by omega
                  have HE : Hid (R = (pu, di)) := by show _ = _; rw [← HO.out, partEq_break bef a i j di HZu.out HZd.out hbr]
                  go_wp2
                  go_ret
                  exact ⟨by rw [HE.out]; first | done | rfl, by rw [HE.out]; exact hSd, hGd⟩
                · have hbri : ¬ (pd : Int) < (pu : Int) := by omega
                  have hlt := scans_lt bef a i j di (by omega) HZu.out HZd.out (by omega)
                  obtain ⟨wz, hsz, hSz, hgz⟩ := hsw (by omega) di _ hSd (pu) (pd) (by omega) (by omega)
                  have HN : Hid (Sort.partEqLoop bef a (pu + 1) (pd - 1) (Sort.swp di pu pd) = R) := by show _ = _; rw [← HO.out, partEq_go bef a i j di HZu.out HZd.out (by omega)]
                  have c0 := hxd.c0
                  have c1 := hxd.c1
                  have hGz := hGd.trans hgz
                  have hxz := hxd.grown hgz (by intro e; injection e with e; omega)
                  have c0z := hxz.c0
                  have c1z := hxz.c1
                  clear hSd hgz hxd hGd c0z c1z
                  go_wp2
                  go_roundw
                  case rel => exact ⟨pu + 1, pd - 1, _, by go_num, by congr 1; omega, by omega, by omega, by omega, hSz, hxz, hGz, HN⟩
                  case measure => simp [intOf]; omega
            · have hci : ¬ (pu : Int) ≤ (pd : Int) := by omega
              have HZd : Hid (pd = Sort.scanDown (fun x => bef di[a]! x) di pu j) := by show _ = _; rw [← HKd.out, scanDown_end (fun x => bef di[a]! x) di pu pd (Or.inl hcc)]
              clear c0 c1 HKd
              have hbr : pd < pu := by omega
              have hbri : (pd : Int) < (pu : Int) := by omega
              have HE : Hid (R = (pu, di)) := by show _ = _; rw [← HO.out, partEq_break bef a i j di HZu.out HZd.out hbr]
              go_wp2
              go_ret
              exact ⟨by rw [HE.out]; first | done | rfl, by rw [HE.out]; exact hSd, hGd⟩
        | false =>
          have HN : Hid (Sort.scanUp (fun x => !bef di[a]! x) di j (pu + 1) = Sort.scanUp (fun x => !bef di[a]! x) di j i) := by show _ = _; rw [← HKu.out, scanUp_go (fun x => !bef di[a]! x) di j pu hcc (by simp [hv])]
          rw [hv] at hlp
          clear hv
          go_wp2_with fail
          refine hlp.mono ?_
          rintro e wp ⟨rfl, hbp⟩
          have hSp := hSu.later hbp
          have hGp := hGu.trans (grow_below (row := some blk) hbp)
          have hxp := hxu.later hbp
          have c0p := hxp.c0
          have c1p := hxp.c1
          clear hlp hSu hxu c0 c1 hGu
          go_wp2
          go_roundw
          case rel => exact ⟨pu + 1, by first | go_num | (congr 1; omega), by omega, by omega, hSp, hxp, hGp, HN⟩
          case measure => simp [intOf]; omega
      · have hci : ¬ (pu : Int) ≤ (j : Int) := by omega
        have HZu : Hid (pu = Sort.scanUp (fun x => !bef di[a]! x) di j i) := by show _ = _; rw [← HKu.out, scanUp_end (fun x => !bef di[a]! x) di j pu (Or.inl hcc)]
        clear c0 c1 HKu
        go_wp2
        go_loopw [10] (fun vi wr => ∃ pd : Nat, vi = .int .i64 pd ∧ pd ≤ j ∧ pu ≤ pd + 1 ∧ SS B w0 Bv blk n cap di wr ∧ Box2 wr w.heap.size (.func (.func 77) #[] #[.pointer (some ⟨Bv, 0, none⟩)]) (.func (.func sf) #[] sb) 89 ∧ w.grownBy wr (some blk) ∧ Hid (Sort.scanDown (fun x => bef di[a]! x) di pu pd = Sort.scanDown (fun x => bef di[a]! x) di pu j)) (fun vi _ => (intOf vi).toNat)
        case atStart => exact ⟨j, by first | rfl | (congr 1; omega), by omega, by omega, hSu, hxu, hGu, rfl⟩
        case round =>
          clear hSu hxu hGu
          obtain ⟨pd, rfl, hd1, hd2, hSd, hxd, hGd, HKd⟩ := hrel
          have c0 := hxd.c0
          have c1 := hxd.c1
          by_cases hcc : pu ≤ pd
          · exact absurd hcc (by omega)
          · have hci : ¬ (pu : Int) ≤ (pd : Int) := by omega
            have HZd : Hid (pd = Sort.scanDown (fun x => bef di[a]! x) di pu j) := by show _ = _; rw [← HKd.out, scanDown_end (fun x => bef di[a]! x) di pu pd (Or.inl hcc)]
            clear c0 c1 HKd
            have hbr : pd < pu := by omega
            have hbri : (pd : Int) < (pu : Int) := by omega
            have HE : Hid (R = (pu, di)) := by show _ = _; rw [← HO.out, partEq_break bef a i j di HZu.out HZd.out hbr]
            go_wp2
            go_ret
            exact ⟨by rw [HE.out]; first | done | rfl, by rw [HE.out]; exact hSd, hGd⟩
end
end Go.Proofs.Ythhaojbnnacdbaa
