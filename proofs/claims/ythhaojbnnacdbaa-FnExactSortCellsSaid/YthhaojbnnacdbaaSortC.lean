/- A range turned round, patterns broken, a pivot chosen: told as far as the sort needs it. Condition: at most 2^20 cells. -/
import Derived.Test.YthhaojbnnacdbaaSortA
import Derived.Sort.LotD3
import Derived.Sort.LotD5
namespace Go.Proofs.Ythhaojbnnacdbaa
open Go.RowKit
set_option linter.unusedVariables false

section
variable {B : Nat} {w0 : World} {Bv blk n cap : Nat} {dk : Array C} {w w' : World}
/-- a counter of the sort's own -/
def Cnt (w : World) (sp : Nat) : Prop := ∃ s : Int, w.heap[sp]? = some (.cells #[.int .i64 s] 3 (0, 0))
theorem Cnt.kept {w w' : World} {sp : Nat} {row : Option Nat} (h : Cnt w sp) (hg : w.grownBy w' row) (hne : some sp ≠ row) : Cnt w' sp := by
  obtain ⟨s, h⟩ := h
  exact ⟨s, (hg.block sp (lt_of_block h) hne).trans h⟩
theorem SS.off (h : SS B w0 Bv blk n cap dk w) {sp : Nat} (hg : w.grownBy w' (some sp)) (h1 : sp ≠ Bv) (h2 : sp ≠ blk) (h3 : B ≤ sp) : SS B w0 Bv blk n cap dk w' := by
  refine ⟨h.size, ?_, (hg.block _ (lt_of_block h.box) (fun e => by injection e with e; exact h1 e.symm)).trans h.box, ?_, h.bv, h.ne⟩
  · exact World.ownsRow.kept h.own hg (Or.inr (by intro e; injection e with e; exact h2 e.symm))
  · exact h.below.grown hg (Nat.le_trans h.blk_le (Nat.le_of_lt (h.own.lt blk rfl).2)) (fun k hk => by injection hk with hk; omega)
theorem grown_one (w : World) (g : Nat) (u : Value) : w.grownBy (w.setCell ⟨g, 0, none⟩ u) (some g) :=
  ⟨rfl, rfl, rfl, by simp [World.setCell], fun k _ hne => by
    simp only [World.setCell, Array.getElem?_modify]
    rw [if_neg (fun e => hne (by rw [e]))]⟩
theorem setCell_one {w : World} {g : Nat} {v u : Value} {t : TypeId} (h : w.heap[g]? = some (.cells #[v] t (0, 0))) : (w.setCell ⟨g, 0, none⟩ u).heap[g]? = some (.cells #[u] t (0, 0)) := by
  simp only [World.setCell, Array.getElem?_modify, h]
  simp
set_option maxRecDepth 100000 in
set_option maxHeartbeats 4000000 in
theorem reverseW (sf : Nat) (sb : Array Value) (hsw : 2 ≤ n → SwapRun Try.prog sf sb B w0 Bv blk n cap) (h : SS B w0 Bv blk n cap dk w) (a b : Nat) (hab : a + 2 ≤ b) (hb : b ≤ n) (hn : n ≤ 1048576) :
    Calls Try.prog 131 #[dataV Bv sf sb, .int .i64 a, .int .i64 b] w fun e w' => e = .returned (.tuple #[]) ∧ (∃ d, Sort.PermIn a b dk d ∧ SS B w0 Bv blk n cap d w') ∧ w.grownBy w' (some blk) := by
  have h1 := h.later (below_alloc w (.cells #[(.func (.func 77) #[] #[.pointer (some ⟨Bv, 0, none⟩)]), (.func (.func sf) #[] sb)] 89))
  have hx := Box2.new w (.func (.func 77) #[] #[.pointer (some ⟨Bv, 0, none⟩)]) (.func (.func sf) #[] sb) 89
  have hG0 : w.grownBy (w.alloc (.cells #[(.func (.func 77) #[] #[.pointer (some ⟨Bv, 0, none⟩)]), (.func (.func sf) #[] sb)] 89)) (some blk) := grow_below (below_alloc w _)
  have eg : ∀ args w, (callFunc 77 args).run Try.prog w = .ok (.enter 77 args) w := enters_of Try.func77 (by kernel_rfl) rfl
  have hbk : blk < w.heap.size := (h.own.lt blk rfl).2
  unfold dataV
  clear h
  go_enter Try.func131, Try.ntmps131
  go_wp2
  go_loopw [6, 7] (fun vi vj wr => ∃ (i : Nat) (j : Int) (di : Array C), vi = .int .i64 i ∧ vj = .int .i64 j ∧ a ≤ i ∧ i ≤ b ∧ -1 ≤ j ∧ j < b ∧ Hid (Sort.PermIn a b dk di) ∧ SS B w0 Bv blk n cap di wr ∧ Box2 wr w.heap.size (.func (.func 77) #[] #[.pointer (some ⟨Bv, 0, none⟩)]) (.func (.func sf) #[] sb) 89 ∧ w.grownBy wr (some blk)) (fun vi _ _ => b + 1 - (intOf vi).toNat)
  case atStart => exact ⟨a, (b : Int) - 1, dk, rfl, by go_num, Nat.le_refl _, by omega, by omega, by omega, Sort.permIn_refl _ _ _, h1, hx, hG0⟩
  case round =>
    clear h1 hx hG0
    obtain ⟨i, j, di, rfl, rfl, hai, hib, hj0, hjb, HP, hS, hx, hG⟩ := hrel
    have c0 := hx.c0
    have c1 := hx.c1
    by_cases hlt : (i : Int) < j
    · obtain ⟨j, rfl⟩ : ∃ q : Nat, j = q := ⟨j.toNat, by omega⟩
      obtain ⟨wz, hsz, hSz, hgz⟩ := hsw (by omega) di wr hS (i) (j) (by omega) (by omega)
      have hGz := hG.trans hgz
      have hxz := hx.grown hgz (by intro e; injection e with e; omega)
      have c0z := hxz.c0
      have c1z := hxz.c1
      have HN : Hid (Sort.PermIn a b dk (Sort.swp di i j)) := Sort.permIn_trans _ _ _ a b HP.out (Sort.swp_permIn di a b i j hai (by omega) (by omega) (by omega) (by rw [hS.size]; exact hb))
      clear hS hgz hx c0z c1z
      go_wp2
      go_roundw
      case rel => exact ⟨i + 1, (j : Int) - 1, _, by go_num, by go_num, by omega, by omega, by omega, by omega, HN, hSz, hxz, hGz⟩
      case measure => simp [intOf]; omega
    · have hlt2 : ¬ (i : Int) < j := hlt
      go_wp2
      first | go_end0 | (refine bodyPost_ret (results_none rfl _ _ _) rfl ?_) | (simp only [Exit.inBlock, Exit.then]; refine bodyPost_ret (results_none rfl _ _ _) rfl ?_)
      exact ⟨rfl, ⟨di, HP.out, hS⟩, hG⟩
set_option maxRecDepth 100000 in
set_option maxHeartbeats 4000000 in
theorem order2W (sf : Nat) (sb : Array Value) (h : SS B w0 Bv blk n cap dk w) (sp : Nat) (hc : Cnt w sp) (h1p : sp ≠ Bv) (h2p : sp ≠ blk) (h3p : B ≤ sp) (a b : Nat) (ha : a < n) (hb : b < n) (hn : n ≤ 1048576) :
    Calls Try.prog 143 #[dataV Bv sf sb, .int .i64 a, .int .i64 b, .pointer (some ⟨sp, 0, none⟩)] w fun e w' => (∃ x y : Nat, e = .returned (.tuple #[.int .i64 x, .int .i64 y]) ∧ ((x = a ∧ y = b) ∨ (x = b ∧ y = a))) ∧ SS B w0 Bv blk n cap dk w' ∧ Cnt w' sp ∧ w.grownBy w' (some sp) := by
  have hsl : sp < w.heap.size := by obtain ⟨s, hc⟩ := hc; exact lt_of_block hc
  have hcn := hc.kept (grow_below (row := none) (below_alloc w (.cells #[(.func (.func 77) #[] #[.pointer (some ⟨Bv, 0, none⟩)]), (.func (.func sf) #[] sb)] 89))) (by simp)
  clear hc
  have h1 := h.later (below_alloc w (.cells #[(.func (.func 77) #[] #[.pointer (some ⟨Bv, 0, none⟩)]), (.func (.func sf) #[] sb)] 89))
  have hx := Box2.new w (.func (.func 77) #[] #[.pointer (some ⟨Bv, 0, none⟩)]) (.func (.func sf) #[] sb) 89
  have hG0 : w.grownBy (w.alloc (.cells #[(.func (.func 77) #[] #[.pointer (some ⟨Bv, 0, none⟩)]), (.func (.func sf) #[] sb)] 89)) (some blk) := grow_below (below_alloc w _)
  have eg : ∀ args w, (callFunc 77 args).run Try.prog w = .ok (.enter 77 args) w := enters_of Try.func77 (by kernel_rfl) rfl
  have hbk : blk < w.heap.size := (h.own.lt blk rfl).2
  unfold dataV
  clear h
  go_enter Try.func143, Try.ntmps143
  clear hG0
  have c0 := hx.c0
  have hlp : Calls Try.prog 77 #[.int .i64 ((b : Int)), .int .i64 ((a : Int)), .pointer (some ⟨Bv, 0, none⟩)] (w.alloc (.cells #[(.func (.func 77) #[] #[.pointer (some ⟨Bv, 0, none⟩)]), (.func (.func sf) #[] sb)] 89)) fun e w' => e = .returned (.bool (bef dk[b]! dk[a]!)) ∧ Below (w.alloc (.cells #[(.func (.func 77) #[] #[.pointer (some ⟨Bv, 0, none⟩)]), (.func (.func sf) #[] sb)] 89)).heap.size (w.alloc (.cells #[(.func (.func 77) #[] #[.pointer (some ⟨Bv, 0, none⟩)]), (.func (.func sf) #[] sb)] 89)) w' := by
    have := less_any h1 (b) (a) (by omega) (by omega)
    exact this
  have hG0 : w.grownBy (w.alloc (.cells #[(.func (.func 77) #[] #[.pointer (some ⟨Bv, 0, none⟩)]), (.func (.func sf) #[] sb)] 89)) (some sp) := grow_below (below_alloc w _)
  cases hv : bef dk[b]! dk[a]! with
  | true =>
    rw [hv] at hlp
    clear hv
    go_wp2_with fail
    refine hlp.mono ?_
    rintro e wp ⟨rfl, hbp⟩
    have hSp := h1.later hbp
    have hGp := hG0.trans (grow_below (row := some sp) hbp)
    have hcp := hcn.kept (grow_below (row := none) hbp) (by simp)
    clear hlp h1 hx c0 hcn hbp hG0
    obtain ⟨s, hcs⟩ := hcp
    have k0 : wp.cell? ⟨sp, 0, none⟩ = some (.int .i64 s) := by simp only [World.cell?, hcs]; rfl
    have k1 : wp.frozen? ⟨sp, 0, none⟩ = false := by simp [World.frozen?, hcs]
    have hgs := fun u => grown_one wp sp u
    have hcs2 := fun u => setCell_one (u := u) hcs
    clear hcs
    go_wp2
    go_ret2
    exact ⟨⟨b, a, rfl, Or.inr ⟨rfl, rfl⟩⟩, hSp.off (hgs _) h1p h2p h3p, ⟨_, hcs2 _⟩, hGp.trans (hgs _)⟩
  | false =>
    rw [hv] at hlp
    clear hv
    go_wp2_with fail
    refine hlp.mono ?_
    rintro e wp ⟨rfl, hbp⟩
    have hSp := h1.later hbp
    have hGp := hG0.trans (grow_below (row := some sp) hbp)
    have hcp := hcn.kept (grow_below (row := none) hbp) (by simp)
    clear hlp h1 hx c0 hcn hbp hG0
    go_wp2
    go_ret2
    exact ⟨⟨a, b, rfl, Or.inl ⟨rfl, rfl⟩⟩, hSp, hcp, hGp⟩
set_option maxRecDepth 100000 in
set_option maxHeartbeats 4000000 in
theorem medianW (sf : Nat) (sb : Array Value) (h : SS B w0 Bv blk n cap dk w) (sp : Nat) (hc : Cnt w sp) (h1p : sp ≠ Bv) (h2p : sp ≠ blk) (h3p : B ≤ sp) (a b c : Nat) (ha : a < n) (hb : b < n) (hcn : c < n) (hn : n ≤ 1048576) :
    Calls Try.prog 141 #[dataV Bv sf sb, .int .i64 a, .int .i64 b, .int .i64 c, .pointer (some ⟨sp, 0, none⟩)] w fun e w' => (∃ x : Nat, e = .returned (.int .i64 x) ∧ (x = a ∨ x = b ∨ x = c)) ∧ SS B w0 Bv blk n cap dk w' ∧ Cnt w' sp ∧ w.grownBy w' (some sp) := by
  have hsl : sp < w.heap.size := by obtain ⟨s, hc⟩ := hc; exact lt_of_block hc
  have hcz := hc.kept (grow_below (row := none) (below_alloc w (.cells #[(.func (.func 77) #[] #[.pointer (some ⟨Bv, 0, none⟩)]), (.func (.func sf) #[] sb)] 89))) (by simp)
  have OR := fun (v : World) hs hk (p q : Nat) hp hq => order2W (w0 := w0) (B := B) (Bv := Bv) (blk := blk) (n := n) (cap := cap) (dk := dk) (w := v) sf sb hs sp hk h1p h2p h3p p q hp hq hn
  unfold dataV at OR
  clear hc
  have h1 := h.later (below_alloc w (.cells #[(.func (.func 77) #[] #[.pointer (some ⟨Bv, 0, none⟩)]), (.func (.func sf) #[] sb)] 89))
  have hx := Box2.new w (.func (.func 77) #[] #[.pointer (some ⟨Bv, 0, none⟩)]) (.func (.func sf) #[] sb) 89
  have hG0 : w.grownBy (w.alloc (.cells #[(.func (.func 77) #[] #[.pointer (some ⟨Bv, 0, none⟩)]), (.func (.func sf) #[] sb)] 89)) (some blk) := grow_below (below_alloc w _)
  have eg : ∀ args w, (callFunc 77 args).run Try.prog w = .ok (.enter 77 args) w := enters_of Try.func77 (by kernel_rfl) rfl
  have hbk : blk < w.heap.size := (h.own.lt blk rfl).2
  unfold dataV
  clear h
  go_enter Try.func141, Try.ntmps141
  clear hG0
  have hG0 : w.grownBy (w.alloc (.cells #[(.func (.func 77) #[] #[.pointer (some ⟨Bv, 0, none⟩)]), (.func (.func sf) #[] sb)] 89)) (some sp) := grow_below (below_alloc w _)
  have c0 := hx.c0
  have c1 := hx.c1
  go_wp2_with fail
  refine (OR _ h1 hcz a b (by omega) (by omega)).mono ?_
  rintro e w1 ⟨⟨x1, y1, rfl, hxy1⟩, hS1, hC1, hg1⟩
  have hx1 := hx.grown hg1 (by intro e; injection e with e; omega)
  have hG1 := hG0.trans hg1
  have p01 := hx1.c0
  have p11 := hx1.c1
  go_wp2_with fail
  refine (OR _ hS1 hC1 y1 c (by omega) (by omega)).mono ?_
  rintro e w2 ⟨⟨x2, y2, rfl, hxy2⟩, hS2, hC2, hg2⟩
  have hx2 := hx1.grown hg2 (by intro e; injection e with e; omega)
  have hG2 := hG1.trans hg2
  have p02 := hx2.c0
  have p12 := hx2.c1
  go_wp2_with fail
  refine (OR _ hS2 hC2 x1 x2 (by omega) (by omega)).mono ?_
  rintro e w3 ⟨⟨x3, y3, rfl, hxy3⟩, hS3, hC3, hg3⟩
  have hx3 := hx2.grown hg3 (by intro e; injection e with e; omega)
  have hG3 := hG2.trans hg3
  have p03 := hx3.c0
  have p13 := hx3.c1
  go_wp2
  go_ret
  exact ⟨⟨y3, rfl, by omega⟩, hS3, hC3, hG3⟩
set_option maxRecDepth 100000 in
set_option maxHeartbeats 4000000 in
theorem medianAdjW (sf : Nat) (sb : Array Value) (h : SS B w0 Bv blk n cap dk w) (sp : Nat) (hc : Cnt w sp) (h1p : sp ≠ Bv) (h2p : sp ≠ blk) (h3p : B ≤ sp) (a : Nat) (ha : a + 1 < n) (ha1 : 1 ≤ a) (hn : n ≤ 1048576) :
    Calls Try.prog 140 #[dataV Bv sf sb, .int .i64 a, .pointer (some ⟨sp, 0, none⟩)] w fun e w' => (∃ x : Nat, e = .returned (.int .i64 x) ∧ (x + 1 = a ∨ x = a ∨ x = a + 1)) ∧ SS B w0 Bv blk n cap dk w' ∧ Cnt w' sp ∧ w.grownBy w' (some sp) := by
  have hsl : sp < w.heap.size := by obtain ⟨s, hc⟩ := hc; exact lt_of_block hc
  have hcz := hc.kept (grow_below (row := none) (below_alloc w (.cells #[(.func (.func 77) #[] #[.pointer (some ⟨Bv, 0, none⟩)]), (.func (.func sf) #[] sb)] 89))) (by simp)
  obtain ⟨q, rfl⟩ : ∃ q, a = q + 1 := ⟨a - 1, by omega⟩
  have MD := fun (v : World) hs hk => medianW (w0 := w0) (B := B) (Bv := Bv) (blk := blk) (n := n) (cap := cap) (dk := dk) (w := v) sf sb hs sp hk h1p h2p h3p q (q + 1) (q + 2) (by omega) (by omega) (by omega) hn
  have e1 : ((q + 1 : Nat) : Int) - 1 = (q : Int) := by omega
  have e2 : ((q + 1 : Nat) : Int) + 1 = ((q + 2 : Nat) : Int) := by omega
  obtain ⟨b1, hb1⟩ : ∃ b1, b1 = q + 1 := ⟨_, rfl⟩
  obtain ⟨b2, hb2⟩ : ∃ b2, b2 = q + 2 := ⟨_, rfl⟩
  rw [← hb1, ← hb2] at MD
  rw [← hb1] at e1
  rw [← hb1, ← hb2] at e2
  rw [← hb1]
  have HB1 := Lib.hid hb1
  have HB2 := Lib.hid hb2
  have hbn : b1 ≤ 1048576 := by omega
  have hbp : 1 ≤ (b1 : Int) := by omega
  clear hb1 hb2 ha1 ha
  unfold dataV at MD
  clear hc
  have h1 := h.later (below_alloc w (.cells #[(.func (.func 77) #[] #[.pointer (some ⟨Bv, 0, none⟩)]), (.func (.func sf) #[] sb)] 89))
  have hx := Box2.new w (.func (.func 77) #[] #[.pointer (some ⟨Bv, 0, none⟩)]) (.func (.func sf) #[] sb) 89
  have hG0 : w.grownBy (w.alloc (.cells #[(.func (.func 77) #[] #[.pointer (some ⟨Bv, 0, none⟩)]), (.func (.func sf) #[] sb)] 89)) (some blk) := grow_below (below_alloc w _)
  have eg : ∀ args w, (callFunc 77 args).run Try.prog w = .ok (.enter 77 args) w := enters_of Try.func77 (by kernel_rfl) rfl
  have hbk : blk < w.heap.size := (h.own.lt blk rfl).2
  unfold dataV
  clear h
  go_enter Try.func140, Try.ntmps140
  clear hG0
  have hG0 : w.grownBy (w.alloc (.cells #[(.func (.func 77) #[] #[.pointer (some ⟨Bv, 0, none⟩)]), (.func (.func sf) #[] sb)] 89)) (some sp) := grow_below (below_alloc w _)
  have c0 := hx.c0
  have c1 := hx.c1
  go_wp2_with fail
  refine (MD _ h1 hcz).mono ?_
  rintro e w1 ⟨⟨x, rfl, hx3⟩, hS, hC, hg⟩
  go_wp2
  go_ret
  exact ⟨⟨x, rfl, by have := HB1.out; have := HB2.out; omega⟩, hS, hC, hG0.trans hg⟩
end
end Go.Proofs.Ythhaojbnnacdbaa
