/- CompareShapes, the program's and the reference's: contracts. Condition: slices of at most 2^20 cells. -/
import Derived.Test.YthhaojbnnacdbaaEq
namespace Go.Proofs.Ythhaojbnnacdbaa
open Go.RowKit

def cmpL : List C → List C → Int
  | a :: r, b :: s => if bef a b = true then -1 else if bef b a = true then 1 else cmpL r s
  | _, _ => 0
def cmpC (cs ds : List C) : Int := if cs.length < ds.length then -1 else if ds.length < cs.length then 1 else cmpL cs ds
theorem cmpL_at {cs ds : List C} {k : Nat} {a b : C} (h : cs[k]? = some a) (g : ds[k]? = some b) :
    cmpL (cs.drop k) (ds.drop k) = if bef a b = true then -1 else if bef b a = true then 1 else cmpL (cs.drop (k + 1)) (ds.drop (k + 1)) := by
  obtain ⟨hk, rfl⟩ := List.getElem?_eq_some_iff.1 h
  obtain ⟨gk, rfl⟩ := List.getElem?_eq_some_iff.1 g
  rw [List.drop_eq_getElem_cons hk, List.drop_eq_getElem_cons gk]
  rfl
theorem cmpL_end {cs ds : List C} {k : Nat} (h : cs.length ≤ k) : cmpL (cs.drop k) (ds.drop k) = 0 := by
  rw [List.drop_eq_nil_of_le h]; rfl
theorem bef_irrefl (a : C) : bef a a = false := by
  cases h : bef a a with
  | false => rfl
  | true => rw [bef_iff] at h; omega
theorem bef_total {a b : C} (h : bef a b = false) (k : bef b a = false) : a = b := by
  have h' : ¬ (a.2 < b.2 ∨ (a.2 = b.2 ∧ a.1 < b.1)) := by rw [← bef_iff, h]; simp
  have k' : ¬ (b.2 < a.2 ∨ (b.2 = a.2 ∧ b.1 < a.1)) := by rw [← bef_iff, k]; simp
  exact Prod.ext (by omega) (by omega)
theorem bef_asymm {a b : C} (h : bef a b = true) : bef b a = false := by
  cases k : bef b a with
  | false => rfl
  | true => rw [bef_iff] at h k; omega

theorem run_neq_cell {p q p' q' : Int} (h : (p, q) ≠ (p', q')) (W : World) :
    (binOp .neq 58 (.agg #[.int .i64 p, .int .i64 q]) (.agg #[.int .i64 p', .int .i64 q'])).run Try.prog W = .ok (.bool true) W := by
  by_cases hp : p = p'
  · subst hp
    have hq : ¬ q = q' := fun e => h (by rw [e])
    go_simp
  · go_simp

def CmpPost (cs ds : List C) (w : World) (e : Ending) (w' : World) : Prop := e = .returned (.int .i64 (cmpC cs ds)) ∧ Below w.heap.size w w'

set_option maxHeartbeats 800000 in
theorem implCompareShapes (A B : Option Addr) (n m cap cap' : Nat) (cs ds : List C) (w : World) (hn : n ≤ 1048576) (hm : m ≤ 1048576) (h : CellsAt w A n cs) (g : CellsAt w B m ds) :
    Calls Try.prog 65 #[.slice A n cap, .slice B m cap'] w (CmpPost cs ds w) := by
  by_cases h1 : n < m
  · have HE : Hid (cmpC cs ds = -1) := by show _ = _; unfold cmpC; rw [if_pos (by rw [h.1, g.1]; exact h1)]
    go_enter Try.func65, Try.ntmps65
    go_wp2
    go_ret
    exact ⟨ret_int HE.out.symm, Below.refl _ _⟩
  · by_cases h2 : m < n
    · have HE : Hid (cmpC cs ds = 1) := by show _ = _; unfold cmpC; rw [if_neg (by rw [h.1, g.1]; exact h1), if_pos (by rw [h.1, g.1]; exact h2)]
      go_enter Try.func65, Try.ntmps65
      go_wp2
      go_ret
      exact ⟨ret_int HE.out.symm, Below.refl _ _⟩
    · obtain rfl : n = m := by omega
      have HC : Hid (cmpC cs ds = cmpL cs ds) := by show _ = _; unfold cmpC; rw [if_neg (by rw [h.1, g.1]; exact h1), if_neg (by rw [h.1, g.1]; exact h2)]
      go_enter Try.func65, Try.ntmps65
      go_wp2
      go_loopw [5, 20] (fun _ i wr => ∃ k : Nat, k ≤ n ∧ i = .int .i64 k ∧ Hid (cmpL (cs.drop k) (ds.drop k) = cmpL cs ds) ∧ Below w.heap.size w wr) (fun _ i _ => n - (intOf i).toNat)
      case atStart => exact ⟨0, Nat.zero_le _, rfl, rfl, Below.refl _ _⟩
      case round =>
        obtain ⟨k, hk, rfl, HT, hb⟩ := hrel
        by_cases hlt : k < n
        · obtain ⟨b, o, p, q, rfl, hbl, HK, c1, c2⟩ := (h.below hb).at_ hlt
          obtain ⟨b', o', p', q', rfl, hbl', HK', c1', c2'⟩ := (g.below hb).at_ hlt
          have e0 : (0 : Int) ≤ (k : Int) := by omega
          have e1 : (k : Int) < (n : Int) := by omega
          have l1 := later_cell hbl c1
          have l2 := later_cell hbl c2
          have l3 := later_cell hbl' c1'
          have l4 := later_cell hbl' c2'
          have HS := Lib.hid (cmpL_at HK.out HK'.out)
          rw [HT.out] at HS
          clear h g
          by_cases hc : bef (p, q) (p', q') = true
          · go_wp2
            (refine wp_region_later (by kernel_rfl) (by kernel_rfl) ?_; (repeat (go_big_quiet_step ((go_at_call 78; exact Calls.later (implBefore_eq hc _))))); refine wpQuiet_nil ?_; rintro wq ⟨xq, hxq⟩; have hq := later_below hxq; clear hxq xq)
            go_wp2
            go_ret
            exact ⟨ret_int (by rw [HC.out, HS.out, if_pos hc]), hb.trans (hq.mono hb.size)⟩
          · have hc' : bef (p, q) (p', q') = false := by simpa using hc
            by_cases hd : bef (p', q') (p, q) = true
            · go_wp2
              (refine wp_region_later (by kernel_rfl) (by kernel_rfl) ?_; (repeat (go_big_quiet_step ((go_at_call 78; exact Calls.later (implBefore_eq hc' _))))); refine wpQuiet_nil ?_; rintro wq ⟨xq, hxq⟩; have hq := later_below hxq; clear hxq xq)
              have l1 := later_cell (Nat.lt_of_lt_of_le hbl hq.size) (cell_on hq hbl c1)
              have l2 := later_cell (Nat.lt_of_lt_of_le hbl hq.size) (cell_on hq hbl c2)
              have l3 := later_cell (Nat.lt_of_lt_of_le hbl' hq.size) (cell_on hq hbl' c1')
              have l4 := later_cell (Nat.lt_of_lt_of_le hbl' hq.size) (cell_on hq hbl' c2')
              have hb := hb.trans (hq.mono hb.size)
              go_wp2
              (refine wp_region_later (by kernel_rfl) (by kernel_rfl) ?_; (repeat (go_big_quiet_step ((go_at_call 78; exact Calls.later (implBefore_eq hd _))))); refine wpQuiet_nil ?_; rintro wq ⟨xq, hxq⟩; have hq := later_below hxq; clear hxq xq)
              go_wp2
              go_ret
              exact ⟨ret_int (by rw [HC.out, HS.out, if_neg hc, if_pos hd]), hb.trans (hq.mono hb.size)⟩
            · have hd' : bef (p', q') (p, q) = false := by simpa using hd
              go_wp2
              (refine wp_region_later (by kernel_rfl) (by kernel_rfl) ?_; (repeat (go_big_quiet_step ((go_at_call 78; exact Calls.later (implBefore_eq hc' _))))); refine wpQuiet_nil ?_; rintro wq ⟨xq, hxq⟩; have hq := later_below hxq; clear hxq xq)
              have l1 := later_cell (Nat.lt_of_lt_of_le hbl hq.size) (cell_on hq hbl c1)
              have l2 := later_cell (Nat.lt_of_lt_of_le hbl hq.size) (cell_on hq hbl c2)
              have l3 := later_cell (Nat.lt_of_lt_of_le hbl' hq.size) (cell_on hq hbl' c1')
              have l4 := later_cell (Nat.lt_of_lt_of_le hbl' hq.size) (cell_on hq hbl' c2')
              have hb := hb.trans (hq.mono hb.size)
              go_wp2
              (refine wp_region_later (by kernel_rfl) (by kernel_rfl) ?_; (repeat (go_big_quiet_step ((go_at_call 78; exact Calls.later (implBefore_eq hd' _))))); refine wpQuiet_nil ?_; rintro wq ⟨xq, hxq⟩; have hq := later_below hxq; clear hxq xq)
              have hb := hb.trans (hq.mono hb.size)
              rw [if_neg hc, if_neg hd] at HS
              go_wp2
              go_roundw
              case rel => exact ⟨k + 1, by omega, by go_num, HS.out.symm, hb⟩
              case measure => simp [intOf]; omega
        · have HE : Hid (cmpC cs ds = 0) := by show _ = _; rw [HC.out, ← HT.out, cmpL_end (by rw [h.1]; omega)]
          clear h g
          go_wp2
          go_ret
          exact ⟨ret_int HE.out.symm, hb⟩
set_option maxHeartbeats 800000 in
theorem specCompareShapes (A B : Option Addr) (n m cap cap' : Nat) (cs ds : List C) (w : World) (hn : n ≤ 1048576) (hm : m ≤ 1048576) (h : CellsAt w A n cs) (g : CellsAt w B m ds) :
    Calls Try.prog 66 #[.slice A n cap, .slice B m cap'] w (CmpPost cs ds w) := by
  by_cases h1 : n < m
  · have HE : Hid (cmpC cs ds = -1) := by show _ = _; unfold cmpC; rw [if_pos (by rw [h.1, g.1]; exact h1)]
    have hb : ((n : Int) != (m : Int)) = true := by rw [bne_iff_ne]; omega
    go_enter Try.func66, Try.ntmps66
    go_wp2
    go_ret
    exact ⟨ret_int HE.out.symm, Below.refl _ _⟩
  · by_cases h2 : m < n
    · have HE : Hid (cmpC cs ds = 1) := by show _ = _; unfold cmpC; rw [if_neg (by rw [h.1, g.1]; exact h1), if_pos (by rw [h.1, g.1]; exact h2)]
      have hb : ((n : Int) != (m : Int)) = true := by rw [bne_iff_ne]; omega
      go_enter Try.func66, Try.ntmps66
      go_wp2
      go_ret
      exact ⟨ret_int HE.out.symm, Below.refl _ _⟩
    · obtain rfl : n = m := by omega
      have HC : Hid (cmpC cs ds = cmpL cs ds) := by show _ = _; unfold cmpC; rw [if_neg (by rw [h.1, g.1]; exact h1), if_neg (by rw [h.1, g.1]; exact h2)]
      go_enter Try.func66, Try.ntmps66
      go_wp2
      go_loopw [5] (fun i wr => ∃ k : Nat, k ≤ n ∧ i = .int .i64 k ∧ Hid (cmpL (cs.drop k) (ds.drop k) = cmpL cs ds) ∧ Below w.heap.size w wr) (fun i _ => n - (intOf i).toNat)
      case atStart => exact ⟨0, Nat.zero_le _, rfl, rfl, Below.refl _ _⟩
      case round =>
        obtain ⟨k, hk, rfl, HT, hb⟩ := hrel
        by_cases hlt : k < n
        · obtain ⟨b, o, p, q, rfl, hbl, HK, c1, c2⟩ := (h.below hb).at_ hlt
          obtain ⟨b', o', p', q', rfl, hbl', HK', c1', c2'⟩ := (g.below hb).at_ hlt
          have e0 : (0 : Int) ≤ (k : Int) := by omega
          have e1 : (k : Int) < (n : Int) := by omega
          have l1 := later_cell hbl c1
          have l2 := later_cell hbl c2
          have l3 := later_cell hbl' c1'
          have l4 := later_cell hbl' c2'
          have HS := Lib.hid (cmpL_at HK.out HK'.out)
          rw [HT.out] at HS
          clear h g
          by_cases hpq : (p, q) = (p', q')
          · obtain ⟨rfl, rfl⟩ : p = p' ∧ q = q' := by simpa using hpq
            clear hpq
            rw [bef_irrefl, if_neg (by simp)] at HS
            go_wp2
            (refine wp_region_later (by kernel_rfl) (by kernel_rfl) ?_; (repeat (go_big_quiet_step (fail))); refine wpQuiet_nil ?_; rintro wq ⟨xq, hxq⟩; have hq := later_below hxq; clear hxq xq)
            have hb := hb.trans (hq.mono hb.size)
            go_wp2
            go_roundw
            case rel => exact ⟨k + 1, by omega, by go_num, HS.out.symm, hb⟩
            case measure => simp [intOf]; omega
          · have hrun : ∀ W, (binOp .neq 58 (.agg #[.int .i64 p, .int .i64 q]) (.agg #[.int .i64 p', .int .i64 q'])).run Try.prog W = .ok (.bool true) W := fun W => run_neq_cell hpq W
            have HPQ := Lib.hid hpq
            clear hpq
            by_cases hc : bef (p, q) (p', q') = true
            · go_wp2
              (refine wp_region_later (by kernel_rfl) (by kernel_rfl) ?_; (repeat (go_big_quiet_step (fail))); refine wpQuiet_nil ?_; rintro wq ⟨xq, hxq⟩; have hq := later_below hxq; clear hxq xq)
              have l1 := later_cell (Nat.lt_of_lt_of_le hbl hq.size) (cell_on hq hbl c1)
              have l2 := later_cell (Nat.lt_of_lt_of_le hbl hq.size) (cell_on hq hbl c2)
              have l3 := later_cell (Nat.lt_of_lt_of_le hbl' hq.size) (cell_on hq hbl' c1')
              have l4 := later_cell (Nat.lt_of_lt_of_le hbl' hq.size) (cell_on hq hbl' c2')
              have hb := hb.trans (hq.mono hb.size)
              go_wp2
              (refine wp_region_later (by kernel_rfl) (by kernel_rfl) ?_; (repeat (go_big_quiet_step ((go_at_call 75; exact Calls.later (specBefore_eq hc _))))); refine wpQuiet_nil ?_; rintro wq ⟨xq, hxq⟩; have hq := later_below hxq; clear hxq xq)
              go_wp2
              go_ret
              exact ⟨ret_int (by rw [HC.out, HS.out, if_pos hc]), hb.trans (hq.mono hb.size)⟩
            · have hc' : bef (p, q) (p', q') = false := by simpa using hc
              have hd : bef (p', q') (p, q) = true := by
                cases hd : bef (p', q') (p, q) with
                | true => rfl
                | false => exact absurd (bef_total hc' hd) HPQ.out
              go_wp2
              (refine wp_region_later (by kernel_rfl) (by kernel_rfl) ?_; (repeat (go_big_quiet_step (fail))); refine wpQuiet_nil ?_; rintro wq ⟨xq, hxq⟩; have hq := later_below hxq; clear hxq xq)
              have l1 := later_cell (Nat.lt_of_lt_of_le hbl hq.size) (cell_on hq hbl c1)
              have l2 := later_cell (Nat.lt_of_lt_of_le hbl hq.size) (cell_on hq hbl c2)
              have l3 := later_cell (Nat.lt_of_lt_of_le hbl' hq.size) (cell_on hq hbl' c1')
              have l4 := later_cell (Nat.lt_of_lt_of_le hbl' hq.size) (cell_on hq hbl' c2')
              have hb := hb.trans (hq.mono hb.size)
              go_wp2
              (refine wp_region_later (by kernel_rfl) (by kernel_rfl) ?_; (repeat (go_big_quiet_step ((go_at_call 75; exact Calls.later (specBefore_eq hc' _))))); refine wpQuiet_nil ?_; rintro wq ⟨xq, hxq⟩; have hq := later_below hxq; clear hxq xq)
              go_wp2
              go_ret
              exact ⟨ret_int (by rw [HC.out, HS.out, if_neg hc, if_pos hd]), hb.trans (hq.mono hb.size)⟩
        · have HE : Hid (cmpC cs ds = 0) := by show _ = _; rw [HC.out, ← HT.out, cmpL_end (by rw [h.1]; omega)]
          clear h g
          go_wp2
          go_ret
          exact ⟨ret_int HE.out.symm, hb⟩
end Go.Proofs.Ythhaojbnnacdbaa
