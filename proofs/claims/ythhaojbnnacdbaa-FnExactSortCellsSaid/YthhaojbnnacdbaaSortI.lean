/- The insertion sort of sort.Slice, its frame told. Condition: at most 2^20 cells. -/
import Derived.Test.YthhaojbnnacdbaaSortA
namespace Go.Proofs.Ythhaojbnnacdbaa
open Go.RowKit
set_option linter.unusedVariables false

section
variable {B : Nat} {w0 : World} {Bv blk n cap : Nat} {dk : Array C} {w w' : World}
set_option maxRecDepth 100000 in
set_option maxHeartbeats 8000000 in
theorem insSortW (sf : Nat) (sb : Array Value) (hsw : 2 ≤ n → SwapRun Try.prog sf sb B w0 Bv blk n cap) (h : SS B w0 Bv blk n cap dk w) (a b : Nat) (hab : a ≤ b) (hb : b ≤ n) (hn : n ≤ 1048576) :
    Calls Try.prog 127 #[dataV Bv sf sb, .int .i64 a, .int .i64 b] w fun e w' => e = .returned (.tuple #[]) ∧ SS B w0 Bv blk n cap (Sort.insertionSort bef dk a b) w' ∧ w.grownBy w' (some blk) := by
  have h1 := h.later (below_alloc w (.cells #[(.func (.func 77) #[] #[.pointer (some ⟨Bv, 0, none⟩)]), (.func (.func sf) #[] sb)] 89))
  have hx := Box2.new w (.func (.func 77) #[] #[.pointer (some ⟨Bv, 0, none⟩)]) (.func (.func sf) #[] sb) 89
  have hG0 : w.grownBy (w.alloc (.cells #[(.func (.func 77) #[] #[.pointer (some ⟨Bv, 0, none⟩)]), (.func (.func sf) #[] sb)] 89)) (some blk) := grow_below (below_alloc w _)
  have eg : ∀ args w, (callFunc 77 args).run Try.prog w = .ok (.enter 77 args) w := enters_of Try.func77 (by kernel_rfl) rfl
  have hbk : blk < w.heap.size := (h.own.lt blk rfl).2
  unfold dataV
  clear h
  go_enter Try.func127, Try.ntmps127
  go_wp2
  go_loopw [6, 7] (fun vi _ wr => ∃ (i : Nat) (di : Array C), vi = .int .i64 i ∧ a < i ∧ i ≤ b + 1 ∧ SS B w0 Bv blk n cap di wr ∧ Box2 wr w.heap.size (.func (.func 77) #[] #[.pointer (some ⟨Bv, 0, none⟩)]) (.func (.func sf) #[] sb) 89 ∧ w.grownBy wr (some blk) ∧ Hid (Sort.insOuter bef a b i di = Sort.insOuter bef a b (a + 1) dk)) (fun vi _ _ => b + 1 - (intOf vi).toNat)
  case atStart => exact ⟨a + 1, dk, by go_num, by omega, by omega, h1, hx, hG0, rfl⟩
  case round =>
    clear h1 hx hG0
    obtain ⟨i, di, rfl, hai, hib, hS, hx, hG, HO⟩ := hrel
    by_cases hlt : i < b
    · have hlti : (i : Int) < (b : Int) := by omega
      go_wp2
      go_loopw [7] (fun vj wr => ∃ (j : Nat) (dj : Array C), vj = .int .i64 j ∧ a ≤ j ∧ j ≤ i ∧ SS B w0 Bv blk n cap dj wr ∧ Box2 wr w.heap.size (.func (.func 77) #[] #[.pointer (some ⟨Bv, 0, none⟩)]) (.func (.func sf) #[] sb) 89 ∧ w.grownBy wr (some blk) ∧ Hid (Sort.insInner bef a j dj = Sort.insInner bef a i di)) (fun vj _ => (intOf vj).toNat)
      case atStart => exact ⟨i, di, rfl, by omega, Nat.le_refl _, hS, hx, hG, rfl⟩
      case round =>
        clear hS hx hG
        obtain ⟨j, dj, rfl, haj, hji, hS, hx, hG, HI⟩ := hrel
        have OUT : Hid ((j ≤ a ∨ bef dj[j]! dj[j - 1]! = false) → Sort.insOuter bef a b (i + 1) dj = Sort.insOuter bef a b (a + 1) dk) := by
          show _ → _
          intro hs
          rw [← HO.out, insOuter_go bef _ _ _ _ hlt, ← HI.out, insInner_stop bef _ _ _ hs]
        have c0 := hx.c0
        have c1 := hx.c1
        by_cases hja : a < j
        · have hjai : (a : Int) < (j : Int) := by omega
          have hlp : Calls Try.prog 77 #[.int .i64 ((j : Int)), .int .i64 ((j : Int) - 1), .pointer (some ⟨Bv, 0, none⟩)] wr fun e w' => e = .returned (.bool (bef dj[j]! dj[j - 1]!)) ∧ Below wr.heap.size wr w' := by
            have := less_any hS (j) (j - 1) (by omega) (by omega)
            rwa [show ((j - 1 : Nat) : Int) = (j : Int) - 1 by omega] at this
          cases hv : bef dj[j]! dj[j - 1]! with
          | true =>
            have HN : Hid (Sort.insInner bef a (j - 1) (Sort.swp dj j (j - 1)) = Sort.insInner bef a i di) := by show _ = _; rw [← HI.out, insInner_go bef a j dj hja hv]
            rw [hv] at hlp
            clear hv
            go_wp2_with fail
            refine hlp.mono ?_
            rintro e wp ⟨rfl, hbp⟩
            have hSp := hS.later hbp
            have hGp := hG.trans (grow_below (row := some blk) hbp)
            have hxp := hx.later hbp
            have c0p := hxp.c0
            have c1p := hxp.c1
            obtain ⟨wz, hsz, hSz, hgz⟩ := hsw (by omega) dj wp hSp (j) (j - 1) (by omega) (by omega)
            rw [show ((j - 1 : Nat) : Int) = (j : Int) - 1 by omega] at hsz
            have hGz := hGp.trans hgz
            have hxz := hxp.grown hgz (by intro e; injection e with e; omega)
            have c0z := hxz.c0
            have c1z := hxz.c1
            clear hlp hS hx c0 c1 hG hSp hgz hGp c0z c1z OUT
            go_wp2
            go_roundw
            case rel => exact ⟨j - 1, _, by congr 1; omega, by omega, by omega, hSz, hxz, hGz, HN⟩
            case measure => simp [intOf]; omega
          | false =>
            have HN := Lib.hid (OUT.out (Or.inr hv))
            rw [hv] at hlp
            clear hv
            go_wp2_with fail
            refine hlp.mono ?_
            rintro e wp ⟨rfl, hbp⟩
            have hSp := hS.later hbp
            have hGp := hG.trans (grow_below (row := some blk) hbp)
            have hxp := hx.later hbp
            have c0p := hxp.c0
            have c1p := hxp.c1
            clear hlp hS hx c0 c1 hG
            go_wp2
            go_roundw
            case rel => exact ⟨i + 1, dj, by go_num, by omega, by omega, hSp, hxp, hGp, HN⟩
            case measure => simp [intOf]; omega
        · have hjai : ¬ (a : Int) < (j : Int) := by omega
          have HN := Lib.hid (OUT.out (Or.inl (by omega)))
          go_wp2
          go_roundw
          case rel => exact ⟨i + 1, dj, by go_num, by omega, by omega, hS, hx, hG, HN⟩
          case measure => simp [intOf]; omega
    · have hlti : ¬ (i : Int) < (b : Int) := by omega
      have HE : Hid (di = Sort.insertionSort bef dk a b) := by show _ = _; unfold Sort.insertionSort; rw [← HO.out, insOuter_stop bef _ _ _ _ hlt]
      go_wp2
      first | go_end0 | (refine bodyPost_ret (results_none rfl _ _ _) rfl ?_) | (simp only [Exit.inBlock, Exit.then]; refine bodyPost_ret (results_none rfl _ _ _) rfl ?_)
      exact ⟨rfl, by rw [← HE.out]; exact hS, hG⟩
end
end Go.Proofs.Ythhaojbnnacdbaa
