/- What the laws themselves do with slices of cells: size, copy, comparison. Condition: at most 2^20 cells. -/
import Derived.Test.YthhaojbnnacdbaaCells
namespace Go.Proofs.Ythhaojbnnacdbaa
open Go.RowKit

def mixC (cs : List C) (n k : Nat) : List C := cs.take k ++ List.replicate (n - k) (0, 0)
theorem mixC_length {cs : List C} {n k : Nat} (h : cs.length = n) (hk : k ≤ n) : (mixC cs n k).length = n := by
  simp [mixC]; omega
theorem mixC_zero (cs : List C) (n : Nat) : mixC cs n 0 = List.replicate n (0, 0) := by simp [mixC]
theorem mixC_all {cs : List C} {n : Nat} (h : cs.length = n) : mixC cs n n = cs := by simp [mixC, ← h]
theorem mixC_set {cs : List C} {n k : Nat} {x : C} (h : cs.length = n) (hk : k < n) (he : cs[k]? = some x) : (mixC cs n k).set k x = mixC cs n (k + 1) := by
  unfold mixC
  have hl : (cs.take k).length = k := by simp; omega
  rw [List.set_append_right _ _ (by omega), hl, Nat.sub_self, take_next he, show n - k = (n - (k + 1)) + 1 by omega, List.replicate_succ]
  simp
theorem flat_replicate (n : Nat) : flat (List.replicate n (0, 0)) = (madeCells #[.int .i64 0, .int .i64 0] (n * 2)).toList := by
  apply List.ext_getElem?
  intro j
  by_cases hj : j < n * 2
  · have h1 := flat_get (List.replicate n (0, 0)) (j / 2)
    have hr : (List.replicate n ((0 : Int), (0 : Int)))[j / 2]? = some (0, 0) := by
      rw [List.getElem?_replicate, if_pos (by omega)]
    rw [hr] at h1
    rcases Nat.mod_two_eq_zero_or_one j with h | h
    · rw [show j / 2 * 2 = j by omega] at h1
      rw [h1.1]
      simp [madeCells, hj, h]
    · rw [show j / 2 * 2 + 1 = j by omega] at h1
      rw [h1.2]
      simp [madeCells, hj, h]
  · rw [List.getElem?_eq_none (by rw [flat_length]; simp; omega), List.getElem?_eq_none (by simp [madeCells]; omega)]

theorem szCellS_ok (A : Option Addr) (n cap : Nat) (left : Int) (w : World) (h1 : left ≤ 1048576) (hl : (n : Int) ≤ left) :
    Calls Try.prog 15 #[.slice A n cap, .int .i64 left] w fun e w' => e = .returned (.int .i64 (left - n)) ∧ w = w' := by
  go_enter Try.func15, Try.ntmps15
  go_wp2
  go_ret
  exact ⟨rfl, rfl⟩
theorem szCellS_big (A : Option Addr) (n cap : Nat) (left : Int) (w : World) (h0 : 0 ≤ left) (h1 : left ≤ 1048576) (hn : n ≤ 9223372036854775807) (hl : left < (n : Int)) :
    Calls Try.prog 15 #[.slice A n cap, .int .i64 left] w fun e w' => e = .returned (.int .i64 (-1)) ∧ w = w' := by
  go_enter Try.func15, Try.ntmps15
  go_wp2
  go_ret
  exact ⟨rfl, rfl⟩

theorem below1 (w : World) (o : Obj) : Below w.heap.size w (w.alloc o) := (Below.refl _ _).alloc (Nat.le_refl _) _
theorem below2 (w : World) (o p : Obj) : Below w.heap.size w ((w.alloc o).alloc p) := (below1 w o).alloc (by simp) _
theorem below3 (w : World) (o p q : Obj) : Below w.heap.size w (((w.alloc o).alloc p).alloc q) := (below2 w o p).alloc (by simp; omega) _

theorem toCell_any (x y : Int) (w : World) : Calls Try.prog 70 #[.agg #[.int .i64 x, .int .i64 y]] w fun e w' => e = .returned (.agg #[.int .i64 x, .int .i64 y]) ∧ Below w.heap.size w w' := by
  go_enter Try.func70, Try.ntmps70
  go_wp2
  exact bodyPost_ret (v := .agg #[.int .i64 x, .int .i64 y]) (by simp [results, Try.results70, go_sem]) rfl ⟨rfl, below3 _ _ _ _⟩

theorem own_stored {w : World} {B g n k : Nat} {cs : List C} {x y : Int} (h : w.ownsRow B 58 2 (.slice (some ⟨g, 0, none⟩) n n) n (flat (mixC cs n k))) (hl : cs.length = n) (hk : k < n) (he : cs[k]? = some (x, y)) :
    ((w.setCell ⟨g, k * 2, none⟩ (.int .i64 x)).setCell ⟨g, k * 2 + 1, none⟩ (.int .i64 y)).ownsRow B 58 2 (.slice (some ⟨g, 0, none⟩) n n) n (flat (mixC cs n (k + 1))) := by
  have h1 := (h.stored (k * 2) (.int .i64 x)).1
  have h2 := (h1.stored (k * 2 + 1) (.int .i64 y)).1
  rwa [flat_set (mixC cs n k) k (x, y), mixC_set hl hk he] at h2

theorem row_below {w w' : World} {B e sz n : Nat} {v : Value} {xs : List Value} (h : w.ownsRow B e sz v n xs) (hb : Below w.heap.size w w') : w'.ownsRow B e sz v n xs := by
  refine h.kept (row := none) ⟨hb.os, hb.tape, hb.output, hb.size, fun k hk _ => hb.block k hk⟩ ?_
  cases v.ownBlock <;> simp
theorem row_cell {w : World} {B e sz n g cap : Nat} {xs : List Value} (h : w.ownsRow B e sz (.slice (some ⟨g, 0, none⟩) n cap) n xs) {j : Nat} (hj : j < n * sz) : ∃ u, w.cell? ⟨g, j, none⟩ = some u := by
  have hl : j < xs.length := by rw [h.1]; exact hj
  exact ⟨xs[j], (World.ownsRow.cellAt h j hj).trans (List.getElem?_eq_getElem hl)⟩

set_option maxHeartbeats 400000 in
theorem toCellS_any (A : Option Addr) (n cap : Nat) (cs : List C) (w : World) (hn : n ≤ 1048576) (h : CellsAt w A n cs) :
    Calls Try.prog 17 #[.slice A n cap] w (OwnPost w cs) := by
  obtain ⟨i0, hi, hz0, hz1, hz2⟩ := info_parts Try.infoC
  have hcl := h.1
  go_enter Try.func17, Try.ntmps17
  go_wp2_with (at_make; refine wpList_make_full _ rfl _ _ 25 rfl w.heap.size 58 i0 (.agg #[.int .i64 0, .int .i64 0]) 2 Try.underlying25 hi hz0 hz1 .i64 .i64 n n n rfl rfl rfl rfl ?c1 ?c2 (Nat.le_refl _) ?_)
  case c1 => rw [hz2]; omega
  case c2 => unfold maxLen; omega
  intro w1 hown hgrow
  rw [← flat_replicate, ← mixC_zero cs] at hown
  have hb : Below w.heap.size w w1 := (Below.refl _ _).grown hgrow (Nat.le_refl _) (fun _ h => by cases h)
  clear hgrow
  go_wp2
  go_loopw [4] (fun i wr => ∃ k : Nat, k ≤ n ∧ i = .int .i64 k ∧ wr.ownsRow w.heap.size 58 2 (.slice (some ⟨w.heap.size, 0, none⟩) n n) n (flat (mixC cs n k)) ∧ Below w.heap.size w wr ∧ w.heap.size < wr.heap.size) (fun i _ => n - (intOf i).toNat)
  case atStart => exact ⟨0, Nat.zero_le _, rfl, hown, hb, (hown.lt _ rfl).2⟩
  case round =>
    obtain ⟨k, hk, rfl, hown, hb, hlw⟩ := hrel
    by_cases hlt : k < n
    · obtain ⟨b, o, p, q, rfl, hbl, HK, c1, c2⟩ := h.at_ hlt
      have c1 := cell_on hb hbl c1
      have c2 := cell_on hb hbl c2
      clear h
      go_wp2_with (go_at_call 70; refine (toCell_any _ _ _).mono ?_; rintro e w2 ⟨rfl, hb2⟩; have hown2 := row_below hown hb2; have f1 := World.ownsRow.frozenAt hown2 (k * 2); have f2 := World.ownsRow.frozenAt hown2 (k * 2 + 1); obtain ⟨u1, d1⟩ := row_cell hown2 (j := k * 2) (by omega); obtain ⟨u2, d2⟩ := row_cell hown2 (j := k * 2 + 1) (by omega))
      have hown3 := own_stored hown2 hcl hlt HK.out
      have hb3 : Below w.heap.size w ((w2.setCell ⟨w.heap.size, k * 2, none⟩ (.int .i64 p)).setCell ⟨w.heap.size, k * 2 + 1, none⟩ (.int .i64 q)) := ((hb.trans (hb2.mono hb.size)).setCell (p := ⟨w.heap.size, k * 2, none⟩) (Nat.le_refl _) _).setCell (p := ⟨w.heap.size, k * 2 + 1, none⟩) (Nat.le_refl _) _
      have hlw3 : w.heap.size < w2.heap.size := Nat.lt_of_lt_of_le hlw hb2.size
      go_roundw
      case rel => exact ⟨k + 1, by omega, by go_num, hown3, hb3, by simpa using hlw3⟩
      case measure => simp [intOf]; omega
    · obtain rfl : k = n := by omega
      rw [mixC_all hcl] at hown
      clear h
      go_wp2
      go_ret
      exact ⟨_, rfl, by unfold Own; rw [hcl]; exact hown, hb⟩

theorem eqCell_any (a b c d : Int) (w : World) : Calls Try.prog 74 #[.agg #[.int .i64 a, .int .i64 b], .agg #[.int .i64 c, .int .i64 d]] w fun e w' => e = .returned (.bool (decide ((a, b) = (c, d)))) ∧ Below w.heap.size w w' := by
  have hB := ((Below.refl w.heap.size w).alloc (Nat.le_refl _) (.cells #[.int .i64 a, .int .i64 b] 58)).alloc (by simp) (.cells #[.int .i64 c, .int .i64 d] 58)
  by_cases h1 : a = c
  · subst h1
    by_cases h2 : b = d
    · subst h2
      go_enter Try.func74, Try.ntmps74
      go_wp2
      go_ret
      exact ⟨by simp, hB⟩
    · have e2 : (b != d) = true := by simpa using h2
      go_enter Try.func74, Try.ntmps74
      go_wp2
      go_ret
      exact ⟨ret_bool (by simp [h2]), hB⟩
  · have e1 : (a != c) = true := by simpa using h1
    go_enter Try.func74, Try.ntmps74
    go_wp2
    go_ret
    exact ⟨ret_bool (by simp [h1]), hB⟩
theorem eqCell_eq {a b c d : Int} {t : Bool} (h : decide ((a, b) = (c, d)) = t) (w : World) :
    Calls Try.prog 74 #[.agg #[.int .i64 a, .int .i64 b], .agg #[.int .i64 c, .int .i64 d]] w fun e w' => e = .returned (.bool t) ∧ Below w.heap.size w w' := h ▸ eqCell_any a b c d w

theorem take_eq_next {cs ds : List C} {k : Nat} {x : C} (h : cs.take k = ds.take k) (h1 : cs[k]? = some x) (h2 : ds[k]? = some x) : Hid (cs.take (k + 1) = ds.take (k + 1)) := by
  show _ = _
  rw [take_next h1, take_next h2, h]
theorem ne_at {cs ds : List C} {k : Nat} {x y : C} (h1 : cs[k]? = some x) (h2 : ds[k]? = some y) (hne : x ≠ y) : cs ≠ ds := by
  rintro rfl
  rw [h1] at h2
  exact hne (Option.some.inj h2)
def EqPost (cs ds : List C) (w : World) (e : Ending) (w' : World) : Prop := e = .returned (.bool (decide (cs = ds))) ∧ Below w.heap.size w w'

set_option maxHeartbeats 400000 in
theorem eqCellS_any (A B : Option Addr) (n m cap cap' : Nat) (cs ds : List C) (w : World) (hn : n ≤ 1048576) (h : CellsAt w A n cs) (g : CellsAt w B m ds) :
    Calls Try.prog 19 #[.slice A n cap, .slice B m cap'] w (EqPost cs ds w) := by
  by_cases hl : n = m
  · subst hl
    go_enter Try.func19, Try.ntmps19
    go_wp2
    go_loopw [5] (fun i wr => ∃ k : Nat, k ≤ n ∧ i = .int .i64 k ∧ Hid (cs.take k = ds.take k) ∧ Below w.heap.size w wr) (fun i _ => n - (intOf i).toNat)
    case atStart => exact ⟨0, Nat.zero_le _, rfl, rfl, Below.refl _ _⟩
    case round =>
      obtain ⟨k, hk, rfl, HT, hb⟩ := hrel
      by_cases hlt : k < n
      · obtain ⟨b, o, p, q, rfl, hbl, HK, c1, c2⟩ := (h.below hb).at_ hlt
        obtain ⟨b', o', p', q', rfl, hbl', HK', c1', c2'⟩ := (g.below hb).at_ hlt
        have e0 : (0 : Int) ≤ (k : Int) := by omega
        have e1 : (k : Int) < (n : Int) := by omega
        have l1 := later_cell hbl c1
        have l2 := later_cell hbl c2
        have l3 := later_cell hbl' c1'
        have l4 := later_cell hbl' c2'
        clear h g
        by_cases hpq : (p, q) = (p', q')
        · have hd : decide ((p, q) = (p', q')) = true := by simpa using hpq
          have HR := take_eq_next HT.out HK.out (by rw [hpq]; exact HK'.out)
          have HD := Lib.hid hd
          clear hpq hd
          go_wp2
          (refine wp_region_later (by kernel_rfl) (by kernel_rfl) ?_; (repeat (go_big_quiet_step ((go_at_call 74; exact Calls.later (eqCell_eq HD.out _))))); refine wpQuiet_nil ?_; rintro wq ⟨xq, hxq⟩; have hq := later_below hxq; clear hxq xq)
          have hb := hb.trans (hq.mono hb.size)
          go_wp2
          go_roundw
          case rel => exact ⟨k + 1, by omega, by go_num, HR, hb⟩
          case measure => simp [intOf]; omega
        · have hd : decide ((p, q) = (p', q')) = false := by simpa using hpq
          have HR := Lib.hid (ne_at HK.out HK'.out hpq)
          have HD := Lib.hid hd
          clear hpq hd
          go_wp2
          (refine wp_region_later (by kernel_rfl) (by kernel_rfl) ?_; (repeat (go_big_quiet_step ((go_at_call 74; exact Calls.later (eqCell_eq HD.out _))))); refine wpQuiet_nil ?_; rintro wq ⟨xq, hxq⟩; have hq := later_below hxq; clear hxq xq)
          have hb := hb.trans (hq.mono hb.size)
          go_wp2
          go_ret
          exact ⟨ret_bool (by simp [HR.out]), hb⟩
      · have HE : Hid (cs = ds) := by
          have := HT.out
          rwa [List.take_of_length_le (by rw [h.1]; omega), List.take_of_length_le (by rw [g.1]; omega)] at this
        clear h g
        go_wp2
        go_ret
        exact ⟨ret_bool (by simp [HE.out]), hb⟩
  · have HE : Hid (cs ≠ ds) := by rintro rfl; exact hl (h.1.symm.trans g.1)
    have hb : ((n : Int) != (m : Int)) = true := by rw [bne_iff_ne]; omega
    go_enter Try.func19, Try.ntmps19
    go_wp2
    go_ret
    exact ⟨ret_bool (by simp [HE.out]), Below.refl _ _⟩
end Go.Proofs.Ythhaojbnnacdbaa
