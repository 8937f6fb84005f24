/- The heap sort of sort.Slice, and the exchange of a range's ends: what pdqsort falls back on. Condition: at most 2^20 cells. -/
import Derived.Test.YthhaojbnnacdbaaSlice
import Derived.Sort.WalkB3
import Derived.Sort.LotD3
import Derived.Sort.LotB
import Derived.Sort.LotC
namespace Go.Proofs.Ythhaojbnnacdbaa
open Go.RowKit
set_option linter.unusedVariables false

section
variable {B : Nat} {w0 : World} {Bv blk n cap : Nat} {dk : Array C} {w w' : World}
theorem grow_below {w w' : World} {row : Option Nat} (hb : Below w.heap.size w w') : w.grownBy w' row := ⟨hb.os, hb.tape, hb.output, hb.size, fun k hk _ => hb.block k hk⟩
set_option maxRecDepth 100000 in
set_option maxHeartbeats 4000000 in
theorem siftDownW (sf : Nat) (sb : Array Value) (hsw : 2 ≤ n → SwapRun Try.prog sf sb B w0 Bv blk n cap) (h : SS B w0 Bv blk n cap dk w) (lo hi first : Nat) (hlh : lo ≤ hi) (hf : first + hi ≤ n) (hn : n ≤ 1048576) :
    Calls Try.prog 137 #[dataV Bv sf sb, .int .i64 lo, .int .i64 hi, .int .i64 first] w fun e w' => e = .returned (.tuple #[]) ∧ SS B w0 Bv blk n cap (Sort.siftDown bef hi first lo dk) w' ∧ w.grownBy w' (some blk) := by
  have h1 := h.later (below_alloc w (.cells #[(.func (.func 77) #[] #[.pointer (some ⟨Bv, 0, none⟩)]), (.func (.func sf) #[] sb)] 89))
  have hx := Box2.new w (.func (.func 77) #[] #[.pointer (some ⟨Bv, 0, none⟩)]) (.func (.func sf) #[] sb) 89
  have hG0 : w.grownBy (w.alloc (.cells #[(.func (.func 77) #[] #[.pointer (some ⟨Bv, 0, none⟩)]), (.func (.func sf) #[] sb)] 89)) (some blk) := grow_below (below_alloc w _)
  have eg : ∀ args w, (callFunc 77 args).run Try.prog w = .ok (.enter 77 args) w := enters_of Try.func77 (by kernel_rfl) rfl
  have hbk : blk < w.heap.size := (h.own.lt blk rfl).2
  unfold dataV
  clear h
  go_enter Try.func137, Try.ntmps137
  go_wp2
  go_loopw [8, 9] (fun vr _ wr => ∃ (r : Nat) (di : Array C), vr = .int .i64 r ∧ r ≤ hi ∧ SS B w0 Bv blk n cap di wr ∧ Box2 wr w.heap.size (.func (.func 77) #[] #[.pointer (some ⟨Bv, 0, none⟩)]) (.func (.func sf) #[] sb) 89 ∧ w.grownBy wr (some blk) ∧ Hid (Sort.siftDown bef hi first r di = Sort.siftDown bef hi first lo dk)) (fun vr _ _ => hi - (intOf vr).toNat)
  case atStart => exact ⟨lo, dk, rfl, hlh, h1, hx, hG0, rfl⟩
  case round =>
    clear h1 hx hG0
    obtain ⟨r, di, rfl, hrh, hS, hx, hG, HO⟩ := hrel
    by_cases hc : 2 * r + 1 < hi
    · have hci : 2 * (r : Int) + 1 < (hi : Int) := by omega
      have c0 := hx.c0
      have c1 := hx.c1
      by_cases hr2 : 2 * r + 2 < hi
      · have hr2i : 2 * (r : Int) + 1 + 1 < (hi : Int) := by omega
        have hlp : Calls Try.prog 77 #[.int .i64 ((first : Int) + (2 * (r : Int) + 1)), .int .i64 ((first : Int) + (2 * (r : Int) + 1) + 1), .pointer (some ⟨Bv, 0, none⟩)] wr fun e w' => e = .returned (.bool (bef di[first + (2 * r + 1)]! di[first + (2 * r + 2)]!)) ∧ Below wr.heap.size wr w' := by
          have := less_any hS (first + (2 * r + 1)) (first + (2 * r + 2)) (by omega) (by omega)
          rwa [show ((first + (2 * r + 1) : Nat) : Int) = (first : Int) + (2 * (r : Int) + 1) by omega, show ((first + (2 * r + 2) : Nat) : Int) = (first : Int) + (2 * (r : Int) + 1) + 1 by omega] at this
        cases hvp : bef di[first + (2 * r + 1)]! di[first + (2 * r + 2)]! with
        | true =>
          have HV := Lib.hid hvp
          rw [hvp] at hlp
          clear hvp
          go_wp2_with fail
          refine hlp.mono ?_
          rintro e wp ⟨rfl, hbp⟩
          have hSp := hS.later hbp
          have hGp := hG.trans (grow_below (row := some blk) hbp)
          have hxp := hx.later hbp
          have c0p := hxp.c0
          have c1p := hxp.c1
          clear hlp hS hx c0 c1 hG
          have hlq : Calls Try.prog 77 #[.int .i64 ((first : Int) + (r : Int)), .int .i64 ((first : Int) + (2 * (r : Int) + 1 + 1)), .pointer (some ⟨Bv, 0, none⟩)] wp fun e w' => e = .returned (.bool (bef di[first + r]! di[first + (2 * r + 2)]!)) ∧ Below wp.heap.size wp w' := by
            have := less_any hSp (first + r) (first + (2 * r + 2)) (by omega) (by omega)
            rwa [show ((first + r : Nat) : Int) = (first : Int) + (r : Int) by omega, show ((first + (2 * r + 2) : Nat) : Int) = (first : Int) + (2 * (r : Int) + 1 + 1) by omega] at this
          cases hvq : bef di[first + r]! di[first + (2 * r + 2)]! with
          | true =>
            have HN : Hid (Sort.siftDown bef hi first (2 * r + 2) (Sort.swp di (first + r) (first + (2 * r + 2))) = Sort.siftDown bef hi first lo dk) := by show _ = _; rw [← HO.out, Sort.sd_right_go bef di hr2 HV.out hvq]
            rw [hvq] at hlq
            clear hvq
            go_wp2_with fail
            refine hlq.mono ?_
            rintro e wq ⟨rfl, hbq⟩
            have hSq := hSp.later hbq
            have hGq := hGp.trans (grow_below (row := some blk) hbq)
            have hxq := hxp.later hbq
            have c0q := hxq.c0
            have c1q := hxq.c1
            obtain ⟨wz, hsz, hSz, hgz⟩ := hsw (by omega) di wq hSq (first + r) (first + (2 * r + 2)) (by omega) (by omega)
            rw [show ((first + r : Nat) : Int) = (first : Int) + (r : Int) by omega, show ((first + (2 * r + 2) : Nat) : Int) = (first : Int) + (2 * (r : Int) + 1 + 1) by omega] at hsz
            have hGz := hGq.trans hgz
            have hxz := hxq.grown hgz (by intro e; injection e with e; omega)
            have c0z := hxz.c0
            have c1z := hxz.c1
            clear hlq c0z c1z hxq hSq hgz
            go_wp2
            go_roundw
            case rel => exact ⟨2 * r + 2, _, by go_num, by omega, hSz, hxz, hGz, HN⟩
            case measure => simp [intOf]; omega
          | false =>
            have HE : Hid (di = Sort.siftDown bef hi first lo dk) := by show _ = _; rw [← HO.out, Sort.sd_right_stop bef di hr2 HV.out hvq]
            rw [hvq] at hlq
            clear hvq
            go_wp2_with fail
            refine hlq.mono ?_
            rintro e wq ⟨rfl, hbq⟩
            have hSq := hSp.later hbq
            have hGq := hGp.trans (grow_below (row := some blk) hbq)
            have hxq := hxp.later hbq
            have c0q := hxq.c0
            have c1q := hxq.c1
            clear hlq
            go_wp2
            first | go_end0 | (refine bodyPost_ret (results_none rfl _ _ _) rfl ?_) | (simp only [Exit.inBlock, Exit.then]; refine bodyPost_ret (results_none rfl _ _ _) rfl ?_)
            exact ⟨rfl, by rw [← HE.out]; exact hSq, hGq⟩
        | false =>
          have HV := Lib.hid hvp
          rw [hvp] at hlp
          clear hvp
          go_wp2_with fail
          refine hlp.mono ?_
          rintro e wp ⟨rfl, hbp⟩
          have hSp := hS.later hbp
          have hGp := hG.trans (grow_below (row := some blk) hbp)
          have hxp := hx.later hbp
          have c0p := hxp.c0
          have c1p := hxp.c1
          clear hlp hS hx c0 c1 hG
          have hlq : Calls Try.prog 77 #[.int .i64 ((first : Int) + (r : Int)), .int .i64 ((first : Int) + (2 * (r : Int) + 1)), .pointer (some ⟨Bv, 0, none⟩)] wp fun e w' => e = .returned (.bool (bef di[first + r]! di[first + (2 * r + 1)]!)) ∧ Below wp.heap.size wp w' := by
            have := less_any hSp (first + r) (first + (2 * r + 1)) (by omega) (by omega)
            rwa [show ((first + r : Nat) : Int) = (first : Int) + (r : Int) by omega, show ((first + (2 * r + 1) : Nat) : Int) = (first : Int) + (2 * (r : Int) + 1) by omega] at this
          cases hvq : bef di[first + r]! di[first + (2 * r + 1)]! with
          | true =>
            have HN : Hid (Sort.siftDown bef hi first (2 * r + 1) (Sort.swp di (first + r) (first + (2 * r + 1))) = Sort.siftDown bef hi first lo dk) := by show _ = _; rw [← HO.out, Sort.sd_left_go bef di hc (fun _ => HV.out) hvq]
            rw [hvq] at hlq
            clear hvq
            go_wp2_with fail
            refine hlq.mono ?_
            rintro e wq ⟨rfl, hbq⟩
            have hSq := hSp.later hbq
            have hGq := hGp.trans (grow_below (row := some blk) hbq)
            have hxq := hxp.later hbq
            have c0q := hxq.c0
            have c1q := hxq.c1
            obtain ⟨wz, hsz, hSz, hgz⟩ := hsw (by omega) di wq hSq (first + r) (first + (2 * r + 1)) (by omega) (by omega)
            rw [show ((first + r : Nat) : Int) = (first : Int) + (r : Int) by omega, show ((first + (2 * r + 1) : Nat) : Int) = (first : Int) + (2 * (r : Int) + 1) by omega] at hsz
            have hGz := hGq.trans hgz
            have hxz := hxq.grown hgz (by intro e; injection e with e; omega)
            have c0z := hxz.c0
            have c1z := hxz.c1
            clear hlq c0z c1z hxq hSq hgz
            go_wp2
            go_roundw
            case rel => exact ⟨2 * r + 1, _, by go_num, by omega, hSz, hxz, hGz, HN⟩
            case measure => simp [intOf]; omega
          | false =>
            have HE : Hid (di = Sort.siftDown bef hi first lo dk) := by show _ = _; rw [← HO.out, Sort.sd_left_stop bef di hc (fun _ => HV.out) hvq]
            rw [hvq] at hlq
            clear hvq
            go_wp2_with fail
            refine hlq.mono ?_
            rintro e wq ⟨rfl, hbq⟩
            have hSq := hSp.later hbq
            have hGq := hGp.trans (grow_below (row := some blk) hbq)
            have hxq := hxp.later hbq
            have c0q := hxq.c0
            have c1q := hxq.c1
            clear hlq
            go_wp2
            first | go_end0 | (refine bodyPost_ret (results_none rfl _ _ _) rfl ?_) | (simp only [Exit.inBlock, Exit.then]; refine bodyPost_ret (results_none rfl _ _ _) rfl ?_)
            exact ⟨rfl, by rw [← HE.out]; exact hSq, hGq⟩
      · have hr2i : ¬ 2 * (r : Int) + 1 + 1 < (hi : Int) := by omega
        have hlq : Calls Try.prog 77 #[.int .i64 ((first : Int) + (r : Int)), .int .i64 ((first : Int) + (2 * (r : Int) + 1)), .pointer (some ⟨Bv, 0, none⟩)] wr fun e w' => e = .returned (.bool (bef di[first + r]! di[first + (2 * r + 1)]!)) ∧ Below wr.heap.size wr w' := by
          have := less_any hS (first + r) (first + (2 * r + 1)) (by omega) (by omega)
          rwa [show ((first + r : Nat) : Int) = (first : Int) + (r : Int) by omega, show ((first + (2 * r + 1) : Nat) : Int) = (first : Int) + (2 * (r : Int) + 1) by omega] at this
        cases hvq : bef di[first + r]! di[first + (2 * r + 1)]! with
        | true =>
          have HN : Hid (Sort.siftDown bef hi first (2 * r + 1) (Sort.swp di (first + r) (first + (2 * r + 1))) = Sort.siftDown bef hi first lo dk) := by show _ = _; rw [← HO.out, Sort.sd_left_go bef di hc (fun k => absurd k hr2) hvq]
          rw [hvq] at hlq
          clear hvq
          go_wp2_with fail
          refine hlq.mono ?_
          rintro e wq ⟨rfl, hbq⟩
          have hSq := hS.later hbq
          have hGq := hG.trans (grow_below (row := some blk) hbq)
          have hxq := hx.later hbq
          have c0q := hxq.c0
          have c1q := hxq.c1
          obtain ⟨wz, hsz, hSz, hgz⟩ := hsw (by omega) di wq hSq (first + r) (first + (2 * r + 1)) (by omega) (by omega)
          rw [show ((first + r : Nat) : Int) = (first : Int) + (r : Int) by omega, show ((first + (2 * r + 1) : Nat) : Int) = (first : Int) + (2 * (r : Int) + 1) by omega] at hsz
          have hGz := hGq.trans hgz
          have hxz := hxq.grown hgz (by intro e; injection e with e; omega)
          have c0z := hxz.c0
          have c1z := hxz.c1
          clear hlq c0z c1z hxq hSq hgz
          go_wp2
          go_roundw
          case rel => exact ⟨2 * r + 1, _, by go_num, by omega, hSz, hxz, hGz, HN⟩
          case measure => simp [intOf]; omega
        | false =>
          have HE : Hid (di = Sort.siftDown bef hi first lo dk) := by show _ = _; rw [← HO.out, Sort.sd_left_stop bef di hc (fun k => absurd k hr2) hvq]
          rw [hvq] at hlq
          clear hvq
          go_wp2_with fail
          refine hlq.mono ?_
          rintro e wq ⟨rfl, hbq⟩
          have hSq := hS.later hbq
          have hGq := hG.trans (grow_below (row := some blk) hbq)
          have hxq := hx.later hbq
          have c0q := hxq.c0
          have c1q := hxq.c1
          clear hlq
          go_wp2
          first | go_end0 | (refine bodyPost_ret (results_none rfl _ _ _) rfl ?_) | (simp only [Exit.inBlock, Exit.then]; refine bodyPost_ret (results_none rfl _ _ _) rfl ?_)
          exact ⟨rfl, by rw [← HE.out]; exact hSq, hGq⟩
    · have hci : ¬ 2 * (r : Int) + 1 < (hi : Int) := by omega
      have HE : Hid (di = Sort.siftDown bef hi first lo dk) := by show _ = _; rw [← HO.out, Sort.sd_end bef di (by omega)]
      go_wp2
      first | go_end0 | (refine bodyPost_ret (results_none rfl _ _ _) rfl ?_) | (simp only [Exit.inBlock, Exit.then]; refine bodyPost_ret (results_none rfl _ _ _) rfl ?_)
      exact ⟨rfl, by rw [← HE.out]; exact hS, hG⟩
end
end Go.Proofs.Ythhaojbnnacdbaa
