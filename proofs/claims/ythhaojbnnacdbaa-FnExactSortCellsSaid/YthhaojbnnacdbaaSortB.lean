/- The heap sort of sort.Slice, and a range turned round. Condition: at most 2^20 cells. -/
import Derived.Test.YthhaojbnnacdbaaSortA
import Derived.Sort.WalkB3
import Derived.Sort.LotD3
import Derived.Sort.LotB
namespace Go.Proofs.Ythhaojbnnacdbaa
open Go.RowKit
set_option linter.unusedVariables false

section
variable {B : Nat} {w0 : World} {Bv blk n cap : Nat} {dk : Array C} {w w' : World}
theorem heap_build (hi first : Nat) (k : Nat) (d : Array C) : Sort.heapBuild bef hi first (k + 1) d = Sort.heapBuild bef hi first k (Sort.siftDown bef hi first k d) := rfl
theorem heap_pop (first : Nat) (k : Nat) (d : Array C) : Sort.heapPop bef first (k + 1) d = Sort.heapPop bef first k (Sort.siftDown bef k first 0 (Sort.swp d first (first + k))) := rfl
theorem half_of (m : Nat) : ((m : Int) - 1).tdiv 2 = (((m - 1) / 2 + 1 : Nat) : Int) - 1 := by
  have := half_start (a := 0) (b := m) (Nat.zero_le _)
  simpa using this
set_option maxRecDepth 100000 in
set_option maxHeartbeats 4000000 in
theorem heapSortW (sf : Nat) (sb : Array Value) (hsw : 2 ≤ n → SwapRun Try.prog sf sb B w0 Bv blk n cap) (h : SS B w0 Bv blk n cap dk w) (a b : Nat) (hab : a + 2 ≤ b) (hb : b ≤ n) (hn : n ≤ 1048576) :
    Calls Try.prog 128 #[dataV Bv sf sb, .int .i64 a, .int .i64 b] w fun e w' => e = .returned (.tuple #[]) ∧ SS B w0 Bv blk n cap (Sort.heapSort bef dk a b) w' ∧ w.grownBy w' (some blk) := by
  obtain ⟨q, hq⟩ : ∃ q : Nat, q = b - a := ⟨_, rfl⟩
  have hqi : (b : Int) - (a : Int) = (q : Int) := by omega
  have hq2 : 2 ≤ q := by omega
  have haq : a + q ≤ n := by omega
  have hhalf := half_of q
  have hhr : (q - 1) / 2 + 1 ≤ q := by omega
  obtain ⟨p, hp⟩ : ∃ p : Nat, p = (q - 1) / 2 + 1 := ⟨_, rfl⟩
  have HH : Hid (Sort.heapSort bef dk a b = Sort.heapPop bef a q (Sort.heapBuild bef q a p dk)) := by show _ = _; rw [hp, hq]; rfl
  rw [← hp] at hhalf hhr
  have SD := fun (d : Array C) (v : World) (hs : SS B w0 Bv blk n cap d v) (lo hi : Nat) h1 h2 => siftDownW sf sb hsw hs lo hi a h1 h2 hn
  unfold dataV at SD
  clear hp hq hab hb
  have h1 := h.later (below_alloc w (.cells #[(.func (.func 77) #[] #[.pointer (some ⟨Bv, 0, none⟩)]), (.func (.func sf) #[] sb)] 89))
  have hx := Box2.new w (.func (.func 77) #[] #[.pointer (some ⟨Bv, 0, none⟩)]) (.func (.func sf) #[] sb) 89
  have hG0 : w.grownBy (w.alloc (.cells #[(.func (.func 77) #[] #[.pointer (some ⟨Bv, 0, none⟩)]), (.func (.func sf) #[] sb)] 89)) (some blk) := grow_below (below_alloc w _)
  have eg : ∀ args w, (callFunc 77 args).run Try.prog w = .ok (.enter 77 args) w := enters_of Try.func77 (by kernel_rfl) rfl
  have hbk : blk < w.heap.size := (h.own.lt blk rfl).2
  unfold dataV
  clear h
  go_enter Try.func128, Try.ntmps128
  go_wp2
  go_loopw [9] (fun vi wr => ∃ (k : Nat) (di : Array C), vi = .int .i64 ((k : Int) - 1) ∧ k ≤ p ∧ SS B w0 Bv blk n cap di wr ∧ Box2 wr w.heap.size (.func (.func 77) #[] #[.pointer (some ⟨Bv, 0, none⟩)]) (.func (.func sf) #[] sb) 89 ∧ w.grownBy wr (some blk) ∧ Hid (Sort.heapBuild bef q a k di = Sort.heapBuild bef q a p dk)) (fun vi _ => (intOf vi + 1).toNat)
  case atStart => exact ⟨p, dk, rfl, Nat.le_refl _, h1, hx, hG0, rfl⟩
  case round =>
    clear h1 hx hG0
    obtain ⟨k, di, rfl, hk, hS, hx, hG, HO⟩ := hrel
    have c0 := hx.c0
    have c1 := hx.c1
    rcases Nat.eq_zero_or_pos k with h0 | hpos
    · subst h0
      have HB : Hid (di = Sort.heapBuild bef q a p dk) := HO
      rw [show (((0 : Nat) : Int)) - 1 = -1 from rfl]
      go_wp2
      go_loopw [10] (fun vi wr => ∃ (k : Nat) (dj : Array C), vi = .int .i64 ((k : Int) - 1) ∧ k ≤ q ∧ SS B w0 Bv blk n cap dj wr ∧ Box2 wr w.heap.size (.func (.func 77) #[] #[.pointer (some ⟨Bv, 0, none⟩)]) (.func (.func sf) #[] sb) 89 ∧ w.grownBy wr (some blk) ∧ Hid (Sort.heapPop bef a k dj = Sort.heapPop bef a q di)) (fun vi _ => (intOf vi + 1).toNat)
      case atStart => exact ⟨q, di, rfl, Nat.le_refl _, hS, hx, hG, rfl⟩
      case round =>
        clear hS hx c0 c1 hG
        obtain ⟨k, dj, rfl, hk, hS, hx, hG, HP⟩ := hrel
        have c0 := hx.c0
        have c1 := hx.c1
        rcases Nat.eq_zero_or_pos k with h0 | hpos
        · subst h0
          have HE : Hid (dj = Sort.heapSort bef dk a b) := by show _ = _; rw [HH.out, ← HB.out, ← HP.out]; rfl
          go_wp2
          first | go_end0 | (refine bodyPost_ret (results_none rfl _ _ _) rfl ?_) | (simp only [Exit.inBlock, Exit.then]; refine bodyPost_ret (results_none rfl _ _ _) rfl ?_)
          exact ⟨rfl, by rw [← HE.out]; exact hS, hG⟩
        · obtain ⟨k, rfl⟩ : ∃ j, k = j + 1 := ⟨k - 1, by omega⟩
          have hki : (((k + 1 : Nat) : Int)) - 1 = (k : Int) := by omega
          have HN : Hid (Sort.heapPop bef a k (Sort.siftDown bef k a 0 (Sort.swp dj a (a + k))) = Sort.heapPop bef a q di) := by show _ = _; rw [← HP.out]; rfl
          obtain ⟨wz, hsz, hSz, hgz⟩ := hsw (by omega) dj wr hS (a) (a + k) (by omega) (by omega)
          rw [show ((a + k : Nat) : Int) = (a : Int) + (k : Int) by omega] at hsz
          have hGz := hG.trans hgz
          have hxz := hx.grown hgz (by intro e; injection e with e; omega)
          have c0z := hxz.c0
          have c1z := hxz.c1
          have S2 := SD _ _ hSz 0 k (Nat.zero_le _) (by omega)
          clear hS hgz hx
          go_wp2_with fail
          refine S2.mono ?_
          rintro e wy ⟨rfl, hSy, hgy⟩
          have hxy := hxz.grown hgy (by intro e; injection e with e; omega)
          have hGy := hGz.trans hgy
          clear S2 hSz hxz c0 c1 c0z c1z
          go_wp2
          go_roundw
          case rel => exact ⟨k, _, by go_num, by omega, hSy, hxy, hGy, HN⟩
          case measure => simp [intOf]
    · obtain ⟨k, rfl⟩ : ∃ j, k = j + 1 := ⟨k - 1, by omega⟩
      have hki : (((k + 1 : Nat) : Int)) - 1 = (k : Int) := by omega
      have HN : Hid (Sort.heapBuild bef q a k (Sort.siftDown bef q a k di) = Sort.heapBuild bef q a p dk) := by show _ = _; rw [← HO.out]; rfl
      have S2 := SD _ _ hS k q (by omega) (by omega)
      go_wp2_with fail
      refine S2.mono ?_
      rintro e wy ⟨rfl, hSy, hgy⟩
      have hxy := hx.grown hgy (by intro e; injection e with e; omega)
      have hGy := hG.trans hgy
      clear S2 hS hx c0 c1
      go_wp2
      go_roundw
      case rel => exact ⟨k, _, by go_num, by omega, hSy, hxy, hGy, HN⟩
      case measure => simp [intOf]
end
end Go.Proofs.Ythhaojbnnacdbaa
