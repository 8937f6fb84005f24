/- The pivot's choice and the breaking of patterns, told as far as the sort needs it. Condition: 13 to 2^20 cells. -/
import Derived.Test.YthhaojbnnacdbaaSortC
namespace Go.Proofs.Ythhaojbnnacdbaa
open Go.RowKit
set_option linter.unusedVariables false

section
variable {B : Nat} {w0 : World} {Bv blk n cap : Nat} {dk : Array C} {w w' : World}
theorem below_off {w w2 w' : World} {sp : Nat} (hb : Below w.heap.size w w2) (hg : w2.grownBy w' (some sp)) (hs : w.heap.size ≤ sp) : Below w.heap.size w w' :=
  hb.grown hg hb.size (fun k hk => by injection hk with hk; omega)
theorem and_low (x : Int) (M : Nat) (h : M < 18446744073709551616) : ∃ o : Nat, bits .and .u64 x (M : Int) = o ∧ o ≤ M := by
  refine ⟨(BitVec.ofInt 64 x &&& BitVec.ofInt 64 (M : Int)).toNat, ?_, ?_⟩
  · show IntKind.u64.wrap ((BitVec.ofInt 64 x &&& BitVec.ofInt 64 (M : Int)).toNat : Int) = _
    have := (BitVec.ofInt 64 x &&& BitVec.ofInt 64 (M : Int)).isLt
    rw [IntKind.wrap_u64]
    omega
  · rw [BitVec.toNat_and]
    refine Nat.le_trans Nat.and_le_right ?_
    rw [BitVec.toNat_ofInt]
    omega
theorem pow_range {l : Nat} (h : 1 ≤ l) : 1 ≤ 1 <<< Sort.bitsLen l ∧ 1 <<< Sort.bitsLen l ≤ 2 * l := by
  have h1 := Nat.log2_self_le (n := l) (by omega)
  unfold Sort.bitsLen
  rw [if_neg (by omega), Nat.one_shiftLeft, Nat.pow_succ]
  have := Nat.two_pow_pos l.log2
  omega
set_option maxRecDepth 100000 in
set_option maxHeartbeats 8000000 in
theorem choosePivotW (sf : Nat) (sb : Array Value) (h : SS B w0 Bv blk n cap dk w) (a b : Nat) (hab : a + 13 ≤ b) (hb : b ≤ n) (hn : n ≤ 1048576) :
    Calls Try.prog 130 #[dataV Bv sf sb, .int .i64 a, .int .i64 b] w fun e w' => (∃ (x : Nat) (z : Int), e = .returned (.tuple #[.int .i64 x, .int .i64 z]) ∧ a ≤ x ∧ x < b) ∧ SS B w0 Bv blk n cap dk w' ∧ Below w.heap.size w w' := by
  obtain ⟨l, hl⟩ : ∃ l : Nat, l = b - a := ⟨_, rfl⟩
  have hli : (b : Int) - (a : Int) = (l : Int) := by omega
  have hl13 : 13 ≤ l := by omega
  have hal : a + l ≤ n := by omega
  have hbl : b = a + l := by omega
  obtain ⟨m, hm⟩ : ∃ m : Nat, m = l / 4 := ⟨_, rfl⟩
  have hdiv : (l : Int).tdiv 4 = (m : Int) := by rw [Int.tdiv_eq_ediv_of_nonneg (by omega)]; omega
  have hm4 : 4 * m ≤ l := by omega
  have hm3 : 3 ≤ m := by omega
  have hm50 : 50 ≤ l → 12 ≤ m := by omega
  have HB := Lib.hid hbl
  have hbv := lt_of_block h.box
  have hbk0 := (h.own.lt blk rfl).2
  have hBk := h.blk_le
  have h2p : SS B w0 Bv blk n cap dk ((w.alloc (.cells #[(.func (.func 77) #[] #[.pointer (some ⟨Bv, 0, none⟩)]), (.func (.func sf) #[] sb)] 89)).alloc (.cells #[.int .i64 0] 3)) := (h.later (below_alloc w _)).later (below_alloc _ _)
  have hx2 := (Box2.new w (.func (.func 77) #[] #[.pointer (some ⟨Bv, 0, none⟩)]) (.func (.func sf) #[] sb) 89).later (below_alloc _ (.cells #[.int .i64 0] 3))
  have hc2 : Cnt ((w.alloc (.cells #[(.func (.func 77) #[] #[.pointer (some ⟨Bv, 0, none⟩)]), (.func (.func sf) #[] sb)] 89)).alloc (.cells #[.int .i64 0] 3)) (w.heap.size + 1) := ⟨0, by have := heap_alloc_new (w.alloc (.cells #[(.func (.func 77) #[] #[.pointer (some ⟨Bv, 0, none⟩)]), (.func (.func sf) #[] sb)] 89)) (.cells #[.int .i64 0] 3); simpa using this⟩
  have hb2 : Below w.heap.size w ((w.alloc (.cells #[(.func (.func 77) #[] #[.pointer (some ⟨Bv, 0, none⟩)]), (.func (.func sf) #[] sb)] 89)).alloc (.cells #[.int .i64 0] 3)) := (below_alloc w _).trans ((below_alloc _ _).mono (by simp))
  have MA := fun (v : World) hs hk (q : Nat) hq1 hq2 => medianAdjW (w0 := w0) (B := B) (Bv := Bv) (blk := blk) (n := n) (cap := cap) (dk := dk) (w := v) sf sb hs (w.heap.size + 1) hk (by omega) (by omega) (by omega) q hq1 hq2 hn
  have MD := fun (v : World) hs hk (p q r : Nat) h1 h2 h3 => medianW (w0 := w0) (B := B) (Bv := Bv) (blk := blk) (n := n) (cap := cap) (dk := dk) (w := v) sf sb hs (w.heap.size + 1) hk (by omega) (by omega) (by omega) p q r h1 h2 h3 hn
  unfold dataV at MA MD ⊢
  clear h hl hm hb hbl hab
  have c0 := hx2.c0
  have c1 := hx2.c1
  have l8 : (8 : Int) ≤ (l : Int) := by omega
  by_cases h50 : 50 ≤ l
  · have l50 : (50 : Int) ≤ (l : Int) := by omega
    have hm12 := hm50 h50
    have M1 := fun (v : World) hs hk => MA v hs hk (a + m) (by omega) (by omega)
    have M2 := fun (v : World) hs hk => MA v hs hk (a + m * 2) (by omega) (by omega)
    have M3 := fun (v : World) hs hk => MA v hs hk (a + m * 3) (by omega) (by omega)
    rw [show ((a + m : Nat) : Int) = (a : Int) + (m : Int) by omega] at M1
    rw [show ((a + m * 2 : Nat) : Int) = (a : Int) + (m : Int) * 2 by omega] at M2
    rw [show ((a + m * 3 : Nat) : Int) = (a : Int) + (m : Int) * 3 by omega] at M3
    go_enter Try.func130, Try.ntmps130
    go_wp2_with fail
    refine (M1 _ h2p hc2).mono ?_
    rintro e w1 ⟨⟨x1, rfl, hr1⟩, hS1, hC1, hg1⟩
    have hx1z := hx2.grown hg1 (by intro e; injection e with e; omega)
    have hG1 := hg1
    have p01 := hx1z.c0
    have p11 := hx1z.c1
    clear M1
    go_wp2_with fail
    refine (M2 _ hS1 hC1).mono ?_
    rintro e w2 ⟨⟨x2, rfl, hr2⟩, hS2, hC2, hg2⟩
    have hx2z := hx1z.grown hg2 (by intro e; injection e with e; omega)
    have hG2 := hG1.trans hg2
    have p02 := hx2z.c0
    have p12 := hx2z.c1
    clear M2
    go_wp2_with fail
    refine (M3 _ hS2 hC2).mono ?_
    rintro e w3 ⟨⟨x3, rfl, hr3⟩, hS3, hC3, hg3⟩
    have hx3z := hx2z.grown hg3 (by intro e; injection e with e; omega)
    have hG3 := hG2.trans hg3
    have p03 := hx3z.c0
    have p13 := hx3z.c1
    clear M3
    go_wp2_with fail
    refine (MD _ hS3 hC3 x1 x2 x3 (by omega) (by omega) (by omega)).mono ?_
    rintro e w4 ⟨⟨x, rfl, hr4⟩, hS4, hC4, hg4⟩
    have hG4 := hG3.trans hg4
    clear MA MD c0 c1 p01 p11 p02 p12 p03 p13 hx2 hx1z hx2z hx3z hC3 hC2 hC1 hc2 hS3 hS2 hS1 h2p
    obtain ⟨s, hs⟩ := hC4
    have k0 := cell_of_one hs
    have hbF := below_off hb2 hG4 (by omega)
    have hr : a ≤ x ∧ x < b := by have := HB.out; omega
    by_cases s0 : s = 0
    · subst s0
      go_wp2
      go_ret2
      exact ⟨⟨x, _, rfl, hr⟩, hS4, hbF⟩
    · have z0 : (s == 0) = false := by simpa using s0
      by_cases s1 : s = 12
      · subst s1
        go_wp2
        go_ret2
        exact ⟨⟨x, _, rfl, hr⟩, hS4, hbF⟩
      · have z1 : (s == 12) = false := by simpa using s1
        go_wp2
        go_ret2
        exact ⟨⟨x, _, rfl, hr⟩, hS4, hbF⟩
  · have l50 : ¬ (50 : Int) ≤ (l : Int) := by omega
    have M1 := fun (v : World) hs hk => MD v hs hk (a + m) (a + m * 2) (a + m * 3) (by omega) (by omega) (by omega)
    rw [show ((a + m : Nat) : Int) = (a : Int) + (m : Int) by omega, show ((a + m * 2 : Nat) : Int) = (a : Int) + (m : Int) * 2 by omega, show ((a + m * 3 : Nat) : Int) = (a : Int) + (m : Int) * 3 by omega] at M1
    go_enter Try.func130, Try.ntmps130
    go_wp2_with fail
    refine (M1 _ h2p hc2).mono ?_
    rintro e w4 ⟨⟨x, rfl, hr4⟩, hS4, hC4, hg4⟩
    clear MA MD M1 c0 c1 hx2 hc2 h2p
    obtain ⟨s, hs⟩ := hC4
    have k0 := cell_of_one hs
    have hbF := below_off hb2 hg4 (by omega)
    have hr : a ≤ x ∧ x < b := by have := HB.out; omega
    by_cases s0 : s = 0
    · subst s0
      go_wp2
      go_ret2
      exact ⟨⟨x, _, rfl, hr⟩, hS4, hbF⟩
    · have z0 : (s == 0) = false := by simpa using s0
      by_cases s1 : s = 12
      · subst s1
        go_wp2
        go_ret2
        exact ⟨⟨x, _, rfl, hr⟩, hS4, hbF⟩
      · have z1 : (s == 12) = false := by simpa using s1
        go_wp2
        go_ret2
        exact ⟨⟨x, _, rfl, hr⟩, hS4, hbF⟩
set_option maxRecDepth 100000 in
set_option maxHeartbeats 8000000 in
theorem breakW (sf : Nat) (sb : Array Value) (hsw : 2 ≤ n → SwapRun Try.prog sf sb B w0 Bv blk n cap) (h : SS B w0 Bv blk n cap dk w) (a b : Nat) (hab : a + 13 ≤ b) (hb : b ≤ n) (hn : n ≤ 1048576) :
    Calls Try.prog 129 #[dataV Bv sf sb, .int .i64 a, .int .i64 b] w fun e w' => e = .returned (.tuple #[]) ∧ (∃ d, Sort.PermIn a b dk d ∧ SS B w0 Bv blk n cap d w') ∧ w.grownBy w' (some blk) := by
  obtain ⟨l, hl⟩ : ∃ l : Nat, l = b - a := ⟨_, rfl⟩
  have hli : (b : Int) - (a : Int) = (l : Int) := by omega
  have hl13 : 13 ≤ l := by omega
  have l8 : (8 : Int) ≤ (l : Int) := by omega
  have hbl : b = a + l := by omega
  have hal : a + l ≤ n := by omega
  obtain ⟨m, hm⟩ : ∃ m : Nat, m = l / 4 := ⟨_, rfl⟩
  have hdiv : (l : Int).tdiv 4 = (m : Int) := by rw [Int.tdiv_eq_ediv_of_nonneg (by omega)]; omega
  have hm4 : 4 * m ≤ l := by omega
  have hm3 : 3 ≤ m := by omega
  obtain ⟨M, hM⟩ : ∃ M : Nat, M = 1 <<< Sort.bitsLen l := ⟨_, rfl⟩
  have hMr := pow_range (l := l) (by omega)
  have NP := fun v => Try.nextPowerOfTwo l (by omega) v
  rw [← hM] at hMr NP
  have hM1 : IntKind.u64.wrap ((M : Int) - 1) = ((M - 1 : Nat) : Int) := by rw [IntKind.wrap_u64]; omega
  have hwl : IntKind.u64.wrap (l : Int) = (l : Int) := by rw [IntKind.wrap_u64]; omega
  have hbv := lt_of_block h.box
  have hbk := (h.own.lt blk rfl).2
  have hBk := h.blk_le
  have hSW := fun (hq : SS B w0 Bv blk n cap dk ((w.alloc (.cells #[(.func (.func 77) #[] #[.pointer (some ⟨Bv, 0, none⟩)]), (.func (.func sf) #[] sb)] 89)).alloc (.cells #[.int .u64 l] 114))) => hq
  have h2p : SS B w0 Bv blk n cap dk ((w.alloc (.cells #[(.func (.func 77) #[] #[.pointer (some ⟨Bv, 0, none⟩)]), (.func (.func sf) #[] sb)] 89)).alloc (.cells #[.int .u64 l] 114)) := (h.later (below_alloc w _)).later (below_alloc _ _)
  have hx2 := (Box2.new w (.func (.func 77) #[] #[.pointer (some ⟨Bv, 0, none⟩)]) (.func (.func sf) #[] sb) 89).later (below_alloc _ (.cells #[.int .u64 l] 114))
  have hr2 : ∃ X : Nat, X < 18446744073709551616 ∧ ((w.alloc (.cells #[(.func (.func 77) #[] #[.pointer (some ⟨Bv, 0, none⟩)]), (.func (.func sf) #[] sb)] 89)).alloc (.cells #[.int .u64 l] 114)).heap[w.heap.size + 1]? = some (.cells #[.int .u64 X] 114 (0, 0)) := ⟨l, by omega, by have := heap_alloc_new (w.alloc (.cells #[(.func (.func 77) #[] #[.pointer (some ⟨Bv, 0, none⟩)]), (.func (.func sf) #[] sb)] 89)) (.cells #[.int .u64 l] 114); simpa using this⟩
  have hg2 : w.grownBy ((w.alloc (.cells #[(.func (.func 77) #[] #[.pointer (some ⟨Bv, 0, none⟩)]), (.func (.func sf) #[] sb)] 89)).alloc (.cells #[.int .u64 l] 114)) (some blk) := (grow_below (below_alloc w _)).trans (grow_below (below_alloc _ _))
  have HB := Lib.hid hbl
  have HMR := Lib.hid hMr
  clear hSW hl hm hM hMr hbl h hab hb
  unfold dataV
  go_enter Try.func129, Try.ntmps129
  go_wp2_with fail
  refine (NP _).mono ?_
  rintro e w3 ⟨rfl, rfl⟩
  clear NP
  go_wp2
  go_loopw [9, 10] (fun vi _ wr => ∃ (t : Nat) (di : Array C), vi = .int .i64 ((a : Int) + (m : Int) * 2 - 1 + (t : Int)) ∧ t ≤ 3 ∧ Hid (Sort.PermIn a b dk di) ∧ SS B w0 Bv blk n cap di wr ∧ Box2 wr w.heap.size (.func (.func 77) #[] #[.pointer (some ⟨Bv, 0, none⟩)]) (.func (.func sf) #[] sb) 89 ∧ (∃ X : Nat, X < 18446744073709551616 ∧ wr.heap[w.heap.size + 1]? = some (.cells #[.int .u64 X] 114 (0, 0))) ∧ w.grownBy wr (some blk)) (fun vi _ _ => ((a : Int) + (m : Int) * 2 + 2 - intOf vi).toNat)
  case atStart => exact ⟨0, dk, by simp, Nat.zero_le _, Sort.permIn_refl _ _ _, h2p, hx2, hr2, hg2⟩
  case round =>
    clear h2p hx2 hr2 hg2
    obtain ⟨t, di, rfl, ht, HP, hS, hx, ⟨X, hX, hrb⟩, hG⟩ := hrel
    have c0 := hx.c0
    have c1 := hx.c1
    by_cases hlt : t < 3
    · have hti : (a : Int) + (m : Int) * 2 - 1 + (t : Int) ≤ (a : Int) + (m : Int) * 2 + 1 := by omega
      have rc := cell_of_one hrb
      have rf : wr.frozen? ⟨w.heap.size + 1, 0, none⟩ = false := by simp [World.frozen?, hrb]
      have hlb := lt_of_block hrb
      have NX := Try.xorshift_Next (w.heap.size + 1) 0 X hX wr rc rf
      have hX2 := Sort.xorNextN_lt X hX
      obtain ⟨Y, hY⟩ : ∃ Y, Y = Sort.xorNextN X := ⟨_, rfl⟩
      rw [← hY] at NX hX2
      obtain ⟨o, ho, hoM⟩ := and_low (Y : Int) (M - 1) (by have := HMR.out; omega)
      have hgN : wr.grownBy ((wr.setCell ⟨w.heap.size + 1, 0, none⟩ (.int .u64 Y)).drewN 3) (some (w.heap.size + 1)) := (grown_one wr _ _).trans (grow_below (below_drewN (Below.refl _ _) 3))
      have hSn := hS.off hgN (by omega) (by omega) (by omega)
      have hxn := hx.grown hgN (by intro e; injection e with e; omega)
      have hrn : ((wr.setCell ⟨w.heap.size + 1, 0, none⟩ (.int .u64 Y)).drewN 3).heap[w.heap.size + 1]? = some (.cells #[.int .u64 Y] 114 (0, 0)) := setCell_one hrb
      have hGn : w.grownBy ((wr.setCell ⟨w.heap.size + 1, 0, none⟩ (.int .u64 Y)).drewN 3) (some blk) := ⟨hgN.os.trans hG.os, hgN.tape.trans hG.tape, hgN.output.trans hG.output, Nat.le_trans hG.size hgN.size, fun k hk hne => (hgN.block k (Nat.lt_of_lt_of_le hk hG.size) (by intro e; injection e with e; omega)).trans (hG.block k hk hne)⟩
      have hwo : IntKind.i64.wrap (o : Int) = (o : Int) := by have := HMR.out; rw [IntKind.wrap_i64]; omega
      clear hS hx rc rf hrb hG hX hY hgN c0 c1
      revert NX hSn hxn hrn hGn
      generalize (wr.setCell ⟨w.heap.size + 1, 0, none⟩ (.int .u64 Y)).drewN 3 = wn
      intro NX hSn hxn hrn hGn
      go_wp2_with fail
      refine NX.mono ?_
      rintro e w5 ⟨rfl, rfl⟩
      clear NX
      obtain ⟨q, hq⟩ : ∃ q : Nat, (a : Int) + (m : Int) * 2 - 1 + (t : Int) = q := ⟨((a : Int) + (m : Int) * 2 - 1 + (t : Int)).toNat, by omega⟩
      have hqr : a ≤ q ∧ q < b := by have := HB.out; omega
      have c0 := hxn.c0
      have c1 := hxn.c1
      have hlb2 := lt_of_block hrn
      have HQ := Lib.hid hq
      by_cases hol : l ≤ o
      · have holi : (l : Int) ≤ (o : Int) := by omega
        obtain ⟨u, hu⟩ : ∃ u : Nat, (o : Int) - (l : Int) = u := ⟨((o : Int) - (l : Int)).toNat, by omega⟩
        have hul : u < l := by have := HMR.out; omega
        obtain ⟨wz, hsz, hSz, hgz⟩ := hsw (by omega) di w5 hSn q (a + u) (by have := HB.out; omega) (by omega)
        rw [show ((a + u : Nat) : Int) = (a : Int) + (u : Int) by omega] at hsz
        have hxz := hxn.grown hgz (by intro e; injection e with e; omega)
        have hGz := hGn.trans hgz
        have hrz := (hgz.block (w.heap.size + 1) hlb2 (by intro e; injection e with e; omega)).trans hrn
        have HN : Hid (Sort.PermIn a b dk (Sort.swp di q (a + u))) := Sort.permIn_trans _ _ _ a b HP.out (Sort.swp_permIn di a b q (a + u) hqr.1 hqr.2 (by omega) (by have := HB.out; omega) (by have := HB.out; rw [hSn.size]; omega))
        clear hSn hrn hgz hxn hqr
        go_wp2
        go_roundw
        case rel => exact ⟨t + 1, _, by have := HQ.out; congr 1; omega, by omega, HN, hSz, hxz, ⟨Y, hX2, hrz⟩, hGz⟩
        case measure => have := HQ.out; simp [intOf]; omega
      · have holi : ¬ (l : Int) ≤ (o : Int) := by omega
        have hul : o < l := by omega
        obtain ⟨wz, hsz, hSz, hgz⟩ := hsw (by omega) di w5 hSn q (a + o) (by have := HB.out; omega) (by omega)
        rw [show ((a + o : Nat) : Int) = (a : Int) + (o : Int) by omega] at hsz
        have hxz := hxn.grown hgz (by intro e; injection e with e; omega)
        have hGz := hGn.trans hgz
        have hrz := (hgz.block (w.heap.size + 1) hlb2 (by intro e; injection e with e; omega)).trans hrn
        have HN : Hid (Sort.PermIn a b dk (Sort.swp di q (a + o))) := Sort.permIn_trans _ _ _ a b HP.out (Sort.swp_permIn di a b q (a + o) hqr.1 hqr.2 (by omega) (by have := HB.out; omega) (by have := HB.out; rw [hSn.size]; omega))
        clear hSn hrn hgz hxn hqr
        go_wp2
        go_roundw
        case rel => exact ⟨t + 1, _, by have := HQ.out; congr 1; omega, by omega, HN, hSz, hxz, ⟨Y, hX2, hrz⟩, hGz⟩
        case measure => have := HQ.out; simp [intOf]; omega
    · have hti : ¬ (a : Int) + (m : Int) * 2 - 1 + (t : Int) ≤ (a : Int) + (m : Int) * 2 + 1 := by omega
      go_wp2
      first | go_end0 | (refine bodyPost_ret (results_none rfl _ _ _) rfl ?_) | (simp only [Exit.inBlock, Exit.then]; refine bodyPost_ret (results_none rfl _ _ _) rfl ?_)
      exact ⟨rfl, ⟨di, HP.out, hS⟩, hG⟩
end
end Go.Proofs.Ythhaojbnnacdbaa
