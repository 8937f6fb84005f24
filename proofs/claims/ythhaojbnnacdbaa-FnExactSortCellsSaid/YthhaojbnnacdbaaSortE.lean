/- The insertion sort that gives up, exactly. Condition: at most 2^20 cells. -/
import Derived.Test.YthhaojbnnacdbaaSortA
import Derived.Sort.WalkA6
import Derived.Sort.LotA
namespace Go.Proofs.Ythhaojbnnacdbaa
open Go.RowKit
set_option linter.unusedVariables false

section
variable {B : Nat} {w0 : World} {Bv blk n cap : Nat} {dk : Array C} {w w' : World}
set_option maxRecDepth 100000 in
set_option maxHeartbeats 16000000 in
theorem partialW (sf : Nat) (sb : Array Value) (hsw : 2 ≤ n → SwapRun Try.prog sf sb B w0 Bv blk n cap) (h : SS B w0 Bv blk n cap dk w) (a b : Nat) (hab : a + 2 ≤ b) (hb : b ≤ n) (hn : n ≤ 1048576) :
    Calls Try.prog 132 #[dataV Bv sf sb, .int .i64 a, .int .i64 b] w fun e w' => e = .returned (.bool (Sort.partialInsertionSort bef dk a b).2) ∧ SS B w0 Bv blk n cap (Sort.partialInsertionSort bef dk a b).1 w' ∧ w.grownBy w' (some blk) := by
  obtain ⟨R, hR⟩ : ∃ R, R = Sort.partialInsertionSort bef dk a b := ⟨_, rfl⟩
  rw [← hR]
  have HR : Hid (Sort.partialIns bef a b (5 - 0) (a + 1) dk = R) := hR.symm
  clear hR
  have h1 := h.later (below_alloc w (.cells #[(.func (.func 77) #[] #[.pointer (some ⟨Bv, 0, none⟩)]), (.func (.func sf) #[] sb)] 89))
  have hx := Box2.new w (.func (.func 77) #[] #[.pointer (some ⟨Bv, 0, none⟩)]) (.func (.func sf) #[] sb) 89
  have hG0 : w.grownBy (w.alloc (.cells #[(.func (.func 77) #[] #[.pointer (some ⟨Bv, 0, none⟩)]), (.func (.func sf) #[] sb)] 89)) (some blk) := grow_below (below_alloc w _)
  have eg : ∀ args w, (callFunc 77 args).run Try.prog w = .ok (.enter 77 args) w := enters_of Try.func77 (by kernel_rfl) rfl
  have hbk : blk < w.heap.size := (h.own.lt blk rfl).2
  unfold dataV
  clear h
  go_enter Try.func132, Try.ntmps132
  go_wp2
  go_loopw [7, 8, 9, 10] (fun vi vs _ _ wr => ∃ (s i : Nat) (di : Array C), vi = .int .i64 i ∧ vs = .int .i64 s ∧ s ≤ 5 ∧ a + 1 ≤ i ∧ i ≤ b ∧ SS B w0 Bv blk n cap di wr ∧ Box2 wr w.heap.size (.func (.func 77) #[] #[.pointer (some ⟨Bv, 0, none⟩)]) (.func (.func sf) #[] sb) 89 ∧ w.grownBy wr (some blk) ∧ Hid (Sort.partialIns bef a b (5 - s) i di = R)) (fun _ vs _ _ _ => 5 - (intOf vs).toNat)
  case atStart => exact ⟨0, a + 1, dk, by go_num, rfl, by omega, Nat.le_refl _, by omega, h1, hx, hG0, HR⟩
  case round =>
    clear h1 hx hG0 HR
    obtain ⟨s, i, di, rfl, rfl, hs5, hai, hib, hS, hx, hG, HO⟩ := hrel
    by_cases hs : s < 5
    · have hsi : (s : Int) < 5 := by omega
      go_wp2
      go_loopw [7] (fun vi wr => ∃ k : Nat, vi = .int .i64 k ∧ i ≤ k ∧ k ≤ b ∧ SS B w0 Bv blk n cap di wr ∧ Box2 wr w.heap.size (.func (.func 77) #[] #[.pointer (some ⟨Bv, 0, none⟩)]) (.func (.func sf) #[] sb) 89 ∧ w.grownBy wr (some blk) ∧ Hid (Sort.scanSorted bef di b k = Sort.scanSorted bef di b i)) (fun vi _ => b - (intOf vi).toNat)
      case atStart => exact ⟨i, rfl, Nat.le_refl _, hib, hS, hx, hG, rfl⟩
      case round =>
        clear hS hx hG
        obtain ⟨k, rfl, hik, hkb, hS, hx, hG, HK⟩ := hrel
        have c0 := hx.c0
        have c1 := hx.c1
        by_cases hkl : k < b
        · have hkli : (k : Int) < (b : Int) := by omega
          have hlp : Calls Try.prog 77 #[.int .i64 ((k : Int)), .int .i64 ((k : Int) - 1), .pointer (some ⟨Bv, 0, none⟩)] wr fun e w' => e = .returned (.bool (bef di[k]! di[k - 1]!)) ∧ Below wr.heap.size wr w' := by
            have := less_any hS (k) (k - 1) (by omega) (by omega)
            rwa [show ((k - 1 : Nat) : Int) = (k : Int) - 1 by omega] at this
          cases hv : bef di[k]! di[k - 1]! with
          | false =>
            have HN : Hid (Sort.scanSorted bef di b (k + 1) = Sort.scanSorted bef di b i) := by show _ = _; rw [← HK.out, scanSorted_go bef di b k hkl hv]
            rw [hv] at hlp
            clear hv
            go_wp2_with fail
            refine hlp.mono ?_
            rintro e wp ⟨rfl, hbp⟩
            have hSp := hS.later hbp
            have hGp := hG.trans (grow_below (row := some blk) hbp)
            have hxp := hx.later hbp
            have c0p := hxp.c0
            have c1p := hxp.c1
            clear hlp hS hx c0 c1 hG
            go_wp2
            go_roundw
            case rel => exact ⟨k + 1, by go_num, by omega, by omega, hSp, hxp, hGp, HN⟩
            case measure => simp [intOf]; omega
          | true =>
            have HS : Hid (Sort.scanSorted bef di b i = k) := by show _ = _; rw [← HK.out, scanSorted_stop bef di b k (Or.inr hv)]
            rw [hv] at hlp
            clear hv
            have hkne : ((k : Int) == (b : Int)) = false := by simp; omega
            go_wp2_with fail
            refine hlp.mono ?_
            rintro e wp ⟨rfl, hbp⟩
            have hSp := hS.later hbp
            have hGp := hG.trans (grow_below (row := some blk) hbp)
            have hxp := hx.later hbp
            have c0p := hxp.c0
            have c1p := hxp.c1
            clear hlp hS hx c0 c1 hG
            by_cases h50 : b - a < 50
            · have h50i : (b : Int) - (a : Int) < 50 := by omega
              have HE : Hid (R = (di, false)) := by show _ = _; rw [← HO.out, pi_short bef a b s i di hs (by rw [HS.out]; omega) h50]
              go_wp2
              go_ret
              exact ⟨by rw [HE.out]; first | done | rfl, by rw [HE.out]; exact hSp, hGp⟩
            · have h50i : ¬ (b : Int) - (a : Int) < 50 := by omega
              have HG := Lib.hid (pi_go bef a b s i k di hs HS.out (by omega) h50)
              obtain ⟨wz, hsz, hSz, hgz⟩ := hsw (by omega) di wp hSp (k) (k - 1) (by omega) (by omega)
              rw [show ((k - 1 : Nat) : Int) = (k : Int) - 1 by omega] at hsz
              have hGz := hGp.trans hgz
              have hxz := hxp.grown hgz (by intro e; injection e with e; omega)
              have c0z := hxz.c0
              have c1z := hxz.c1
              obtain ⟨d1, hd1⟩ : ∃ d1, d1 = Sort.swp di k (k - 1) := ⟨_, rfl⟩
              rw [← hd1] at hSz HG
              clear hd1
              clear hSp hgz hxp hGp
              by_cases h2 : 2 ≤ k - a
              · have h2i : (2 : Int) ≤ (k : Int) - (a : Int) := by omega
                go_wp2
                go_loopw [9] (fun vj wr => ∃ (j : Nat) (dj : Array C), vj = .int .i64 j ∧ j ≤ k - 1 ∧ SS B w0 Bv blk n cap dj wr ∧ Box2 wr w.heap.size (.func (.func 77) #[] #[.pointer (some ⟨Bv, 0, none⟩)]) (.func (.func sf) #[] sb) 89 ∧ w.grownBy wr (some blk) ∧ Hid (Sort.shiftDown bef j dj = Sort.shiftDown bef (k - 1) d1)) (fun vj _ => (intOf vj).toNat)
                case atStart => exact ⟨k - 1, d1, by congr 1; omega, Nat.le_refl _, hSz, hxz, hGz, rfl⟩
                case round =>
                  clear hSz hxz hGz c0z c1z
                  obtain ⟨j, dj, rfl, hjk, hS, hx, hG, HJ⟩ := hrel
                  have c0 := hx.c0
                  have c1 := hx.c1
                  rcases Nat.eq_zero_or_pos j with h0 | hpos
                  · have HD : Hid (dj = Sort.fixDown bef a k d1) := by show _ = _; unfold Sort.fixDown; rw [if_pos h2, ← HJ.out, shiftDown_stop bef j dj (Or.inl h0)]
                    have hj1 : ¬ (1 : Int) ≤ (j : Int) := by omega
                    clear c0 c1
                    obtain ⟨d2, hd2⟩ : ∃ d2, d2 = dj := ⟨_, rfl⟩
                    rw [← hd2] at HD hS
                    have hS2 := hS
                    have hx2 := hx
                    have hG2 := hG
                    clear hS hx hG HJ hd2
                    by_cases h3 : 2 ≤ b - k
                    · have h3i : (2 : Int) ≤ (b : Int) - (k : Int) := by omega
                      go_wp2
                      go_loopw [10] (fun vj wr => ∃ (j : Nat) (dj : Array C), vj = .int .i64 j ∧ k + 1 ≤ j ∧ j ≤ b ∧ SS B w0 Bv blk n cap dj wr ∧ Box2 wr w.heap.size (.func (.func 77) #[] #[.pointer (some ⟨Bv, 0, none⟩)]) (.func (.func sf) #[] sb) 89 ∧ w.grownBy wr (some blk) ∧ Hid (Sort.shiftUp bef b j dj = Sort.shiftUp bef b (k + 1) d2)) (fun vj _ => b - (intOf vj).toNat)
                      case atStart => exact ⟨k + 1, d2, by go_num, Nat.le_refl _, by omega, hS2, hx2, hG2, rfl⟩
                      case round =>
                        clear hS2 hx2 hG2
                        obtain ⟨j, dj, rfl, hkj, hjb, hS, hx, hG, HJ⟩ := hrel
                        have c0 := hx.c0
                        have c1 := hx.c1
                        by_cases hjl : j < b
                        · have hjli : (j : Int) < (b : Int) := by omega
                          have hlq : Calls Try.prog 77 #[.int .i64 ((j : Int)), .int .i64 ((j : Int) - 1), .pointer (some ⟨Bv, 0, none⟩)] wr fun e w' => e = .returned (.bool (bef dj[j]! dj[j - 1]!)) ∧ Below wr.heap.size wr w' := by
                            have := less_any hS (j) (j - 1) (by omega) (by omega)
                            rwa [show ((j - 1 : Nat) : Int) = (j : Int) - 1 by omega] at this
                          cases hv : bef dj[j]! dj[j - 1]! with
                          | true =>
                            have HN : Hid (Sort.shiftUp bef b (j + 1) (Sort.swp dj j (j - 1)) = Sort.shiftUp bef b (k + 1) d2) := by show _ = _; rw [← HJ.out, shiftUp_go bef b j dj hjl hv]
                            rw [hv] at hlq
                            clear hv
                            go_wp2_with fail
                            refine hlq.mono ?_
                            rintro e wq ⟨rfl, hbq⟩
                            have hSq := hS.later hbq
                            have hGq := hG.trans (grow_below (row := some blk) hbq)
                            have hxq := hx.later hbq
                            have c0q := hxq.c0
                            have c1q := hxq.c1
                            obtain ⟨wy, hsy, hSy, hgy⟩ := hsw (by omega) dj wq hSq (j) (j - 1) (by omega) (by omega)
                            rw [show ((j - 1 : Nat) : Int) = (j : Int) - 1 by omega] at hsy
                            have hGy := hGq.trans hgy
                            have hxy := hxq.grown hgy (by intro e; injection e with e; omega)
                            have c0y := hxy.c0
                            have c1y := hxy.c1
                            clear hlq hS hx c0 c1 hG hSq hgy hGq c0y c1y
                            go_wp2
                            go_roundw
                            case rel => exact ⟨j + 1, _, by go_num, by omega, by omega, hSy, hxy, hGy, HN⟩
                            case measure => simp [intOf]; omega
                          | false =>
                            have HF : Hid (dj = Sort.fixUp bef b k (Sort.fixDown bef a k d1)) := by show _ = _; rw [← HD.out]; unfold Sort.fixUp; rw [if_pos h3, ← HJ.out, shiftUp_stop bef b j dj (Or.inr hv)]
                            rw [hv] at hlq
                            clear hv
                            go_wp2_with fail
                            refine hlq.mono ?_
                            rintro e wq ⟨rfl, hbq⟩
                            have hSq := hS.later hbq
                            have hGq := hG.trans (grow_below (row := some blk) hbq)
                            have hxq := hx.later hbq
                            have c0q := hxq.c0
                            have c1q := hxq.c1
                            clear hlq hS hx c0 c1 hG
                            have HN : Hid (Sort.partialIns bef a b (5 - (s + 1)) k dj = R) := by show _ = _; rw [← HO.out, HG.out, ← HF.out]
                            go_wp2
                            go_roundw
                            case rel => exact ⟨s + 1, k, dj, rfl, by go_num, by omega, by omega, by omega, hSq, hxq, hGq, HN⟩
                            case measure => simp [intOf]; omega
                        · have hjli : ¬ (j : Int) < (b : Int) := by omega
                          have HF : Hid (dj = Sort.fixUp bef b k (Sort.fixDown bef a k d1)) := by show _ = _; rw [← HD.out]; unfold Sort.fixUp; rw [if_pos h3, ← HJ.out, shiftUp_stop bef b j dj (Or.inl hjl)]
                          have HN : Hid (Sort.partialIns bef a b (5 - (s + 1)) k dj = R) := by show _ = _; rw [← HO.out, HG.out, ← HF.out]
                          go_wp2
                          go_roundw
                          case rel => exact ⟨s + 1, k, dj, rfl, by go_num, by omega, by omega, by omega, hS, hx, hG, HN⟩
                          case measure => simp [intOf]; omega
                    · have h3i : ¬ (2 : Int) ≤ (b : Int) - (k : Int) := by omega
                      have HF : Hid (d2 = Sort.fixUp bef b k (Sort.fixDown bef a k d1)) := by show _ = _; rw [← HD.out]; unfold Sort.fixUp; rw [if_neg h3]
                      have HN : Hid (Sort.partialIns bef a b (5 - (s + 1)) k d2 = R) := by show _ = _; rw [← HO.out, HG.out, ← HF.out]
                      go_wp2
                      go_roundw
                      case rel => exact ⟨s + 1, k, d2, rfl, by go_num, by omega, by omega, by omega, hS2, hx2, hG2, HN⟩
                      case measure => simp [intOf]; omega
                  · have hj1 : (1 : Int) ≤ (j : Int) := by omega
                    have hlp : Calls Try.prog 77 #[.int .i64 ((j : Int)), .int .i64 ((j : Int) - 1), .pointer (some ⟨Bv, 0, none⟩)] wr fun e w' => e = .returned (.bool (bef dj[j]! dj[j - 1]!)) ∧ Below wr.heap.size wr w' := by
                      have := less_any hS (j) (j - 1) (by omega) (by omega)
                      rwa [show ((j - 1 : Nat) : Int) = (j : Int) - 1 by omega] at this
                    cases hv : bef dj[j]! dj[j - 1]! with
                    | true =>
                      have HN : Hid (Sort.shiftDown bef (j - 1) (Sort.swp dj j (j - 1)) = Sort.shiftDown bef (k - 1) d1) := by show _ = _; rw [← HJ.out, shiftDown_go bef j dj hpos hv]
                      rw [hv] at hlp
                      clear hv
                      go_wp2_with fail
                      refine hlp.mono ?_
                      rintro e wp ⟨rfl, hbp⟩
                      have hSp := hS.later hbp
                      have hGp := hG.trans (grow_below (row := some blk) hbp)
                      have hxp := hx.later hbp
                      have c0p := hxp.c0
                      have c1p := hxp.c1
                      obtain ⟨wy, hsy, hSy, hgy⟩ := hsw (by omega) dj wp hSp (j) (j - 1) (by omega) (by omega)
                      rw [show ((j - 1 : Nat) : Int) = (j : Int) - 1 by omega] at hsy
                      have hGy := hGp.trans hgy
                      have hxy := hxp.grown hgy (by intro e; injection e with e; omega)
                      have c0y := hxy.c0
                      have c1y := hxy.c1
                      clear hlp hS hx c0 c1 hG hSp hgy hGp c0y c1y
                      go_wp2
                      go_roundw
                      case rel => exact ⟨j - 1, _, by congr 1; omega, by omega, hSy, hxy, hGy, HN⟩
                      case measure => simp [intOf]; omega
                    | false =>
                      have HD : Hid (dj = Sort.fixDown bef a k d1) := by show _ = _; unfold Sort.fixDown; rw [if_pos h2, ← HJ.out, shiftDown_stop bef j dj (Or.inr hv)]
                      rw [hv] at hlp
                      clear hv
                      go_wp2_with fail
                      refine hlp.mono ?_
                      rintro e wp ⟨rfl, hbp⟩
                      have hSp := hS.later hbp
                      have hGp := hG.trans (grow_below (row := some blk) hbp)
                      have hxp := hx.later hbp
                      have c0p := hxp.c0
                      have c1p := hxp.c1
                      obtain ⟨d2, hd2⟩ : ∃ d2, d2 = dj := ⟨_, rfl⟩
                      rw [← hd2] at HD hSp
                      clear hlp hS hx c0 c1 hG HJ hd2 c0p c1p
                      by_cases h3 : 2 ≤ b - k
                      · have h3i : (2 : Int) ≤ (b : Int) - (k : Int) := by omega
                        go_wp2
                        go_loopw [10] (fun vj wr => ∃ (j : Nat) (dj : Array C), vj = .int .i64 j ∧ k + 1 ≤ j ∧ j ≤ b ∧ SS B w0 Bv blk n cap dj wr ∧ Box2 wr w.heap.size (.func (.func 77) #[] #[.pointer (some ⟨Bv, 0, none⟩)]) (.func (.func sf) #[] sb) 89 ∧ w.grownBy wr (some blk) ∧ Hid (Sort.shiftUp bef b j dj = Sort.shiftUp bef b (k + 1) d2)) (fun vj _ => b - (intOf vj).toNat)
                        case atStart => exact ⟨k + 1, d2, by go_num, Nat.le_refl _, by omega, hSp, hxp, hGp, rfl⟩
                        case round =>
                          clear hSp hxp hGp
                          obtain ⟨j, dj, rfl, hkj, hjb, hS, hx, hG, HJ⟩ := hrel
                          have c0 := hx.c0
                          have c1 := hx.c1
                          by_cases hjl : j < b
                          · have hjli : (j : Int) < (b : Int) := by omega
                            have hlq : Calls Try.prog 77 #[.int .i64 ((j : Int)), .int .i64 ((j : Int) - 1), .pointer (some ⟨Bv, 0, none⟩)] wr fun e w' => e = .returned (.bool (bef dj[j]! dj[j - 1]!)) ∧ Below wr.heap.size wr w' := by
                              have := less_any hS (j) (j - 1) (by omega) (by omega)
                              rwa [show ((j - 1 : Nat) : Int) = (j : Int) - 1 by omega] at this
                            cases hv : bef dj[j]! dj[j - 1]! with
                            | true =>
                              have HN : Hid (Sort.shiftUp bef b (j + 1) (Sort.swp dj j (j - 1)) = Sort.shiftUp bef b (k + 1) d2) := by show _ = _; rw [← HJ.out, shiftUp_go bef b j dj hjl hv]
                              rw [hv] at hlq
                              clear hv
                              go_wp2_with fail
                              refine hlq.mono ?_
                              rintro e wq ⟨rfl, hbq⟩
                              have hSq := hS.later hbq
                              have hGq := hG.trans (grow_below (row := some blk) hbq)
                              have hxq := hx.later hbq
                              have c0q := hxq.c0
                              have c1q := hxq.c1
                              obtain ⟨wy, hsy, hSy, hgy⟩ := hsw (by omega) dj wq hSq (j) (j - 1) (by omega) (by omega)
                              rw [show ((j - 1 : Nat) : Int) = (j : Int) - 1 by omega] at hsy
                              have hGy := hGq.trans hgy
                              have hxy := hxq.grown hgy (by intro e; injection e with e; omega)
                              have c0y := hxy.c0
                              have c1y := hxy.c1
                              clear hlq hS hx c0 c1 hG hSq hgy hGq c0y c1y
                              go_wp2
                              go_roundw
                              case rel => exact ⟨j + 1, _, by go_num, by omega, by omega, hSy, hxy, hGy, HN⟩
                              case measure => simp [intOf]; omega
                            | false =>
                              have HF : Hid (dj = Sort.fixUp bef b k (Sort.fixDown bef a k d1)) := by show _ = _; rw [← HD.out]; unfold Sort.fixUp; rw [if_pos h3, ← HJ.out, shiftUp_stop bef b j dj (Or.inr hv)]
                              rw [hv] at hlq
                              clear hv
                              go_wp2_with fail
                              refine hlq.mono ?_
                              rintro e wq ⟨rfl, hbq⟩
                              have hSq := hS.later hbq
                              have hGq := hG.trans (grow_below (row := some blk) hbq)
                              have hxq := hx.later hbq
                              have c0q := hxq.c0
                              have c1q := hxq.c1
                              clear hlq hS hx c0 c1 hG
                              have HN : Hid (Sort.partialIns bef a b (5 - (s + 1)) k dj = R) := by show _ = _; rw [← HO.out, HG.out, ← HF.out]
                              go_wp2
                              go_roundw
                              case rel => exact ⟨s + 1, k, dj, rfl, by go_num, by omega, by omega, by omega, hSq, hxq, hGq, HN⟩
                              case measure => simp [intOf]; omega
                          · have hjli : ¬ (j : Int) < (b : Int) := by omega
                            have HF : Hid (dj = Sort.fixUp bef b k (Sort.fixDown bef a k d1)) := by show _ = _; rw [← HD.out]; unfold Sort.fixUp; rw [if_pos h3, ← HJ.out, shiftUp_stop bef b j dj (Or.inl hjl)]
                            have HN : Hid (Sort.partialIns bef a b (5 - (s + 1)) k dj = R) := by show _ = _; rw [← HO.out, HG.out, ← HF.out]
                            go_wp2
                            go_roundw
                            case rel => exact ⟨s + 1, k, dj, rfl, by go_num, by omega, by omega, by omega, hS, hx, hG, HN⟩
                            case measure => simp [intOf]; omega
                      · have h3i : ¬ (2 : Int) ≤ (b : Int) - (k : Int) := by omega
                        have HF : Hid (d2 = Sort.fixUp bef b k (Sort.fixDown bef a k d1)) := by show _ = _; rw [← HD.out]; unfold Sort.fixUp; rw [if_neg h3]
                        have HN : Hid (Sort.partialIns bef a b (5 - (s + 1)) k d2 = R) := by show _ = _; rw [← HO.out, HG.out, ← HF.out]
                        go_wp2
                        go_roundw
                        case rel => exact ⟨s + 1, k, d2, rfl, by go_num, by omega, by omega, by omega, hSp, hxp, hGp, HN⟩
                        case measure => simp [intOf]; omega
              · have h2i : ¬ (2 : Int) ≤ (k : Int) - (a : Int) := by omega
                have HD : Hid (d1 = Sort.fixDown bef a k d1) := by show _ = _; unfold Sort.fixDown; rw [if_neg h2]
                by_cases h3 : 2 ≤ b - k
                · have h3i : (2 : Int) ≤ (b : Int) - (k : Int) := by omega
                  go_wp2
                  go_loopw [10] (fun vj wr => ∃ (j : Nat) (dj : Array C), vj = .int .i64 j ∧ k + 1 ≤ j ∧ j ≤ b ∧ SS B w0 Bv blk n cap dj wr ∧ Box2 wr w.heap.size (.func (.func 77) #[] #[.pointer (some ⟨Bv, 0, none⟩)]) (.func (.func sf) #[] sb) 89 ∧ w.grownBy wr (some blk) ∧ Hid (Sort.shiftUp bef b j dj = Sort.shiftUp bef b (k + 1) d1)) (fun vj _ => b - (intOf vj).toNat)
                  case atStart => exact ⟨k + 1, d1, by go_num, Nat.le_refl _, by omega, hSz, hxz, hGz, rfl⟩
                  case round =>
                    clear hSz hxz hGz
                    obtain ⟨j, dj, rfl, hkj, hjb, hS, hx, hG, HJ⟩ := hrel
                    have c0 := hx.c0
                    have c1 := hx.c1
                    by_cases hjl : j < b
                    · have hjli : (j : Int) < (b : Int) := by omega
                      have hlq : Calls Try.prog 77 #[.int .i64 ((j : Int)), .int .i64 ((j : Int) - 1), .pointer (some ⟨Bv, 0, none⟩)] wr fun e w' => e = .returned (.bool (bef dj[j]! dj[j - 1]!)) ∧ Below wr.heap.size wr w' := by
                        have := less_any hS (j) (j - 1) (by omega) (by omega)
                        rwa [show ((j - 1 : Nat) : Int) = (j : Int) - 1 by omega] at this
                      cases hv : bef dj[j]! dj[j - 1]! with
                      | true =>
                        have HN : Hid (Sort.shiftUp bef b (j + 1) (Sort.swp dj j (j - 1)) = Sort.shiftUp bef b (k + 1) d1) := by show _ = _; rw [← HJ.out, shiftUp_go bef b j dj hjl hv]
                        rw [hv] at hlq
                        clear hv
                        go_wp2_with fail
                        refine hlq.mono ?_
                        rintro e wq ⟨rfl, hbq⟩
                        have hSq := hS.later hbq
                        have hGq := hG.trans (grow_below (row := some blk) hbq)
                        have hxq := hx.later hbq
                        have c0q := hxq.c0
                        have c1q := hxq.c1
                        obtain ⟨wy, hsy, hSy, hgy⟩ := hsw (by omega) dj wq hSq (j) (j - 1) (by omega) (by omega)
                        rw [show ((j - 1 : Nat) : Int) = (j : Int) - 1 by omega] at hsy
                        have hGy := hGq.trans hgy
                        have hxy := hxq.grown hgy (by intro e; injection e with e; omega)
                        have c0y := hxy.c0
                        have c1y := hxy.c1
                        clear hlq hS hx c0 c1 hG hSq hgy hGq c0y c1y
                        go_wp2
                        go_roundw
                        case rel => exact ⟨j + 1, _, by go_num, by omega, by omega, hSy, hxy, hGy, HN⟩
                        case measure => simp [intOf]; omega
                      | false =>
                        have HF : Hid (dj = Sort.fixUp bef b k (Sort.fixDown bef a k d1)) := by show _ = _; rw [← HD.out]; unfold Sort.fixUp; rw [if_pos h3, ← HJ.out, shiftUp_stop bef b j dj (Or.inr hv)]
                        rw [hv] at hlq
                        clear hv
                        go_wp2_with fail
                        refine hlq.mono ?_
                        rintro e wq ⟨rfl, hbq⟩
                        have hSq := hS.later hbq
                        have hGq := hG.trans (grow_below (row := some blk) hbq)
                        have hxq := hx.later hbq
                        have c0q := hxq.c0
                        have c1q := hxq.c1
                        clear hlq hS hx c0 c1 hG
                        have HN : Hid (Sort.partialIns bef a b (5 - (s + 1)) k dj = R) := by show _ = _; rw [← HO.out, HG.out, ← HF.out]
                        go_wp2
                        go_roundw
                        case rel => exact ⟨s + 1, k, dj, rfl, by go_num, by omega, by omega, by omega, hSq, hxq, hGq, HN⟩
                        case measure => simp [intOf]; omega
                    · have hjli : ¬ (j : Int) < (b : Int) := by omega
                      have HF : Hid (dj = Sort.fixUp bef b k (Sort.fixDown bef a k d1)) := by show _ = _; rw [← HD.out]; unfold Sort.fixUp; rw [if_pos h3, ← HJ.out, shiftUp_stop bef b j dj (Or.inl hjl)]
                      have HN : Hid (Sort.partialIns bef a b (5 - (s + 1)) k dj = R) := by show _ = _; rw [← HO.out, HG.out, ← HF.out]
                      go_wp2
                      go_roundw
                      case rel => exact ⟨s + 1, k, dj, rfl, by go_num, by omega, by omega, by omega, hS, hx, hG, HN⟩
                      case measure => simp [intOf]; omega
                · have h3i : ¬ (2 : Int) ≤ (b : Int) - (k : Int) := by omega
                  exact absurd (show b - a < 50 by omega) h50
        · have hkli : ¬ (k : Int) < (b : Int) := by omega
          have hkb2 : k = b := by omega
          have HE : Hid (R = (di, true)) := by show _ = _; rw [← HO.out, pi_true bef a b s i di hs (by rw [← HK.out, hkb2, scanSorted_stop bef di b b (Or.inl (Nat.lt_irrefl _))])]
          have hke : ((k : Int) == (b : Int)) = true := by simp; omega
          clear hkb2
          go_wp2
          go_ret
          exact ⟨by rw [HE.out]; first | done | rfl, by rw [HE.out]; exact hS, hG⟩
    · have hs2 : s = 5 := by omega
      subst hs2
      have HE : Hid (R = (di, false)) := by show _ = _; rw [← HO.out]; rfl
      go_wp2
      go_ret
      exact ⟨by rw [HE.out]; first | done | rfl, by rw [HE.out]; exact hS, hG⟩
end
end Go.Proofs.Ythhaojbnnacdbaa
