/- InnerSides and PerimeterOf, the program's and the reference's. Condition: slices of at most 2^20 cells. -/
import Derived.Test.YtmojfiigjoamnaaNear
import Derived.Test.YtmojfiigjoamnaaShape
namespace Go.Proofs.Ytmojfiigjoamnaa
open Go.RowKit

def nearAt (cs : List C) (i k : Nat) : Bool := nearB (cs.getD i (0, 0)) (cs.getD k (0, 0))
theorem nearAt_eq {cs : List C} {i k : Nat} {a b c d : Int} (h1 : cs[i]? = some (a, b)) (h2 : cs[k]? = some (c, d)) : nearAt cs i k = nearB (a, b) (c, d) := by
  unfold nearAt; simp [List.getD_eq_getElem?_getD, h1, h2]
def rowSides (cs : List C) (i : Nat) : Nat → Nat
  | 0 => 0
  | k + 1 => rowSides cs i k + (if nearAt cs i k then 1 else 0)
def sidesTo (cs : List C) : Nat → Nat
  | 0 => 0
  | i + 1 => sidesTo cs i + rowSides cs i i
def innerSides (cs : List C) : Nat := if isShape cs then sidesTo cs cs.length else 0
theorem rowSides_le (cs : List C) (i : Nat) : ∀ k, rowSides cs i k ≤ k
  | 0 => Nat.le_refl _
  | k + 1 => by have := rowSides_le cs i k; unfold rowSides; split <;> omega
theorem sidesTo_le (cs : List C) : ∀ i, i ≤ 8 → sidesTo cs i ≤ i * 8
  | 0, _ => Nat.le_refl _
  | i + 1, h => by have := sidesTo_le cs i (by omega); have := rowSides_le cs i i; unfold sidesTo; omega
theorem row_yes {cs : List C} {i k s : Nat} (hs : s = sidesTo cs i + rowSides cs i k) (h : nearAt cs i k = true) : s + 1 = sidesTo cs i + rowSides cs i (k + 1) := by
  unfold rowSides; rw [h]; simp; omega
theorem row_no {cs : List C} {i k s : Nat} (hs : s = sidesTo cs i + rowSides cs i k) (h : nearAt cs i k = false) : s = sidesTo cs i + rowSides cs i (k + 1) := by
  unfold rowSides; rw [h]; simp; omega

set_option maxHeartbeats 1600000 in
theorem implInnerSides (A : Option Addr) (n cap : Nat) (cs : List C) (w : World) (hn : n ≤ 1048576) (h : CellsAt w A n cs) :
    Calls Try.prog 36 #[.slice A n cap] w fun e w' => e = .returned (.int .i64 (innerSides cs)) ∧ Below w.heap.size w w' := by
  cases hs : isShape cs with
  | false =>
    have HR : Hid ((0 : Int) = innerSides cs) := by show _ = _; unfold innerSides; rw [hs]; rfl
    have hc := (implIsShape A n cap cs w hn h)
    rw [hs] at hc
    clear hs
    go_enter Try.func36, Try.ntmps36
    go_wp2_with fail
    refine hc.mono ?_
    rintro e w1 ⟨rfl, hb⟩
    go_wp2
    go_ret
    exact ⟨ret_int HR.out, hb⟩
  | true =>
    have HR : Hid (innerSides cs = sidesTo cs n) := by show _ = _; unfold innerSides; rw [hs, if_pos rfl, h.1]
    have hl := shape_len hs
    rw [h.1] at hl
    have HS := Lib.hid hs
    have hc := (implIsShape A n cap cs w hn h)
    rw [hs] at hc
    clear hs
    go_enter Try.func36, Try.ntmps36
    go_wp2_with fail
    refine hc.mono ?_
    rintro e w1 ⟨rfl, hb0⟩
    replace h := h.below hb0
    clear hc
    go_wp2
    go_loopw [3, 4, 5, 11, 15] (fun s _ _ i _ wr => ∃ k t : Nat, k ≤ n ∧ i = .int .i64 k ∧ s = .int .i64 t ∧ t ≤ k * 8 ∧ Hid (t = sidesTo cs k) ∧ Below w1.heap.size w1 wr) (fun _ _ _ i _ _ => n - (intOf i).toNat)
    case atStart => exact ⟨0, 0, Nat.zero_le _, rfl, rfl, Nat.le_refl _, rfl, Below.refl _ _⟩
    case round =>
      obtain ⟨k, t, hk, rfl, rfl, ht, HT, hb⟩ := hrel
      by_cases hlt : k < n
      · go_wp2
        go_loopw [3, 5, 15] (fun s _ j wr' => ∃ m t' : Nat, m ≤ k ∧ j = .int .i64 m ∧ s = .int .i64 t' ∧ t' ≤ k * 8 + m ∧ Hid (t' = sidesTo cs k + rowSides cs k m) ∧ Below w1.heap.size w1 wr') (fun _ _ j _ => k - (intOf j).toNat)
        case atStart => exact ⟨0, t, Nat.zero_le _, rfl, rfl, by omega, HT, hb⟩
        case round =>
          obtain ⟨m, t', hm, rfl, rfl, ht', HT', hb'⟩ := hrel
          by_cases hmk : m < k
          · obtain ⟨b, o, p, q, e1, hbl, HK, c1, c2⟩ := (h.below hb').at_ hlt
            obtain ⟨b', o', p', q', e2, hbl', HK', c1', c2'⟩ := (h.below hb').at_ (k := m) (by omega)
            clear h
            subst e1
            injection e2 with e2
            injection e2 with e2 e3 _
            subst e2 e3
            have l1 := later_cell hbl c1
            have l2 := later_cell hbl c2
            have l3 := later_cell hbl c1'
            have l4 := later_cell hbl c2'
            have i1 : (m : Int) < (n : Int) := by omega
            cases hv : nearB (p, q) (p', q') with
            | true =>
              have HV := Lib.hid hv
              have HN : Hid (t' + 1 = sidesTo cs k + rowSides cs k (m + 1)) := row_yes HT'.out (by rw [nearAt_eq HK.out HK'.out, hv])
              clear hv
              go_wp2
              (refine wp_region_later (by kernel_rfl) (by kernel_rfl) ?_; (repeat (go_big_quiet_step ((go_at_call 65; exact Calls.later (implBeside_eq HV.out (shape_small HS.out HK.out) (shape_small HS.out HK'.out) _))))); refine wpQuiet_nil ?_; rintro wq ⟨xq, hxq⟩; have hq := later_below hxq; clear hxq xq)
              have hb' := hb'.trans (hq.mono hb'.size)
              go_wp2
              go_roundw
              case rel => exact ⟨m + 1, t' + 1, by omega, by go_num, by go_num, by omega, HN, hb'⟩
              case measure => simp [intOf]; omega
            | false =>
              have HV := Lib.hid hv
              have HN : Hid (t' = sidesTo cs k + rowSides cs k (m + 1)) := row_no HT'.out (by rw [nearAt_eq HK.out HK'.out, hv])
              clear hv
              go_wp2
              (refine wp_region_later (by kernel_rfl) (by kernel_rfl) ?_; (repeat (go_big_quiet_step ((go_at_call 65; exact Calls.later (implBeside_eq HV.out (shape_small HS.out HK.out) (shape_small HS.out HK'.out) _))))); refine wpQuiet_nil ?_; rintro wq ⟨xq, hxq⟩; have hq := later_below hxq; clear hxq xq)
              have hb' := hb'.trans (hq.mono hb'.size)
              go_wp2
              go_roundw
              case rel => exact ⟨m + 1, t', by omega, by go_num, rfl, by omega, HN, hb'⟩
              case measure => simp [intOf]; omega
          · obtain rfl : m = k := by omega
            go_wp2
            go_roundw
            case rel => exact ⟨m + 1, t', by omega, by go_num, rfl, by omega, HT', hb'⟩
            case measure => simp [intOf]; omega
      · obtain rfl : k = n := by omega
        clear h
        go_wp2
        go_ret
        exact ⟨ret_int (by rw [HR.out, HT.out]), hb0.trans (hb.mono hb0.size)⟩

set_option maxHeartbeats 1600000 in
theorem specInnerSides (A : Option Addr) (n cap : Nat) (cs : List C) (w : World) (hn : n ≤ 1048576) (h : CellsAt w A n cs) :
    Calls Try.prog 35 #[.slice A n cap] w fun e w' => e = .returned (.int .i64 (innerSides cs)) ∧ Below w.heap.size w w' := by
  cases hs : isShape cs with
  | false =>
    have HR : Hid ((0 : Int) = innerSides cs) := by show _ = _; unfold innerSides; rw [hs]; rfl
    have hc := (specIsShape A n cap cs w hn h)
    rw [hs] at hc
    clear hs
    go_enter Try.func35, Try.ntmps35
    go_wp2
    go_loopw [3, 4] (fun s i wr => s = .int .i64 0 ∧ i = .int .i64 0 ∧ wr = w) (fun i _ _ => 0)
    case atStart => exact ⟨rfl, rfl, rfl⟩
    case round =>
      obtain ⟨rfl, rfl, rfl⟩ := hrel
      by_cases h0 : n = 0
      · have d0 : decide ((0 : Int) < (n : Int)) = false := by simp; omega
        have d1 : decide (0 < n) = false := by simp; omega
        clear h
        go_wp2
        go_ret
        exact ⟨ret_int HR.out, Below.refl _ _⟩
      · have d0 : decide ((0 : Int) < (n : Int)) = true := by simp; omega
        have d1 : decide (0 < n) = true := by simp; omega
        go_wp2_with fail
        refine hc.mono ?_
        rintro e w1 ⟨rfl, hb⟩
        go_wp2
        go_ret
        exact ⟨ret_int HR.out, hb⟩
  | true =>
    have HR : Hid (innerSides cs = sidesTo cs n) := by show _ = _; unfold innerSides; rw [hs, if_pos rfl, h.1]
    have hl := shape_len hs
    rw [h.1] at hl
    have HS := Lib.hid hs
    clear hs
    go_enter Try.func35, Try.ntmps35
    go_wp2
    go_loopw [3, 4, 5] (fun s i _ wr => ∃ k t : Nat, k ≤ n ∧ i = .int .i64 k ∧ s = .int .i64 t ∧ t ≤ k * 8 ∧ Hid (t = sidesTo cs k) ∧ Below w.heap.size w wr) (fun _ i _ _ => n - (intOf i).toNat)
    case atStart => exact ⟨0, 0, Nat.zero_le _, rfl, rfl, Nat.le_refl _, rfl, Below.refl _ _⟩
    case round =>
      obtain ⟨k, t, hk, rfl, rfl, ht, HT, hb⟩ := hrel
      by_cases hlt : k < n
      · have hc := (specIsShape A n cap cs wr hn (h.below hb))
        rw [HS.out] at hc
        go_wp2_with fail
        refine hc.mono ?_
        rintro e w1 ⟨rfl, hb1⟩
        clear hc
        have hb := hb.trans (hb1.mono hb.size)
        clear hb1
        go_wp2
        go_loopw [3, 5] (fun s j wr' => ∃ m t' : Nat, m ≤ k ∧ j = .int .i64 m ∧ s = .int .i64 t' ∧ t' ≤ k * 8 + m ∧ Hid (t' = sidesTo cs k + rowSides cs k m) ∧ Below w.heap.size w wr') (fun _ j _ => k - (intOf j).toNat)
        case atStart => exact ⟨0, t, Nat.zero_le _, rfl, rfl, by omega, HT, hb⟩
        case round =>
          obtain ⟨m, t', hm, rfl, rfl, ht', HT', hb'⟩ := hrel
          by_cases hmk : m < k
          · obtain ⟨b, o, p, q, e1, hbl, HK, c1, c2⟩ := (h.below hb').at_ hlt
            obtain ⟨b', o', p', q', e2, hbl', HK', c1', c2'⟩ := (h.below hb').at_ (k := m) (by omega)
            clear h
            subst e1
            injection e2 with e2
            injection e2 with e2 e3 _
            subst e2 e3
            have l1 := later_cell hbl c1
            have l2 := later_cell hbl c2
            have l3 := later_cell hbl c1'
            have l4 := later_cell hbl c2'
            have i1 : (m : Int) < (n : Int) := by omega
            cases hv : nearB (p, q) (p', q') with
            | true =>
              have HV := Lib.hid hv
              have HN : Hid (t' + 1 = sidesTo cs k + rowSides cs k (m + 1)) := row_yes HT'.out (by rw [nearAt_eq HK.out HK'.out, hv])
              clear hv
              go_wp2
              (refine wp_region_later (by kernel_rfl) (by kernel_rfl) ?_; (repeat (go_big_quiet_step ((go_at_call 64; exact Calls.later (specNear_eq HV.out (shape_small HS.out HK.out) (shape_small HS.out HK'.out) _))))); refine wpQuiet_nil ?_; rintro wq ⟨xq, hxq⟩; have hq := later_below hxq; clear hxq xq)
              have hb' := hb'.trans (hq.mono hb'.size)
              go_wp2
              go_roundw
              case rel => exact ⟨m + 1, t' + 1, by omega, by go_num, by go_num, by omega, HN, hb'⟩
              case measure => simp [intOf]; omega
            | false =>
              have HV := Lib.hid hv
              have HN : Hid (t' = sidesTo cs k + rowSides cs k (m + 1)) := row_no HT'.out (by rw [nearAt_eq HK.out HK'.out, hv])
              clear hv
              go_wp2
              (refine wp_region_later (by kernel_rfl) (by kernel_rfl) ?_; (repeat (go_big_quiet_step ((go_at_call 64; exact Calls.later (specNear_eq HV.out (shape_small HS.out HK.out) (shape_small HS.out HK'.out) _))))); refine wpQuiet_nil ?_; rintro wq ⟨xq, hxq⟩; have hq := later_below hxq; clear hxq xq)
              have hb' := hb'.trans (hq.mono hb'.size)
              go_wp2
              go_roundw
              case rel => exact ⟨m + 1, t', by omega, by go_num, rfl, by omega, HN, hb'⟩
              case measure => simp [intOf]; omega
          · obtain rfl : m = k := by omega
            go_wp2
            go_roundw
            case rel => exact ⟨m + 1, t', by omega, by go_num, rfl, by omega, HT', hb'⟩
            case measure => simp [intOf]; omega
      · obtain rfl : k = n := by omega
        clear h
        go_wp2
        go_ret
        exact ⟨ret_int (by rw [HR.out, HT.out]), hb⟩

def perimeter (cs : List C) : Int := if isShape cs then 4 * (cs.length : Int) - 2 * (innerSides cs : Int) else -1
theorem inner_le {cs : List C} (hs : isShape cs = true) : innerSides cs ≤ 64 := by
  unfold innerSides
  rw [if_pos hs]
  have := shape_len hs
  have := sidesTo_le cs cs.length this.2
  omega
set_option maxHeartbeats 800000 in
theorem implPerimeterOf (A : Option Addr) (n cap : Nat) (cs : List C) (w : World) (hn : n ≤ 1048576) (h : CellsAt w A n cs) :
    Calls Try.prog 40 #[.slice A n cap] w fun e w' => e = .returned (.int .i64 (perimeter cs)) ∧ Below w.heap.size w w' := by
  have hc := (implIsShape A n cap cs w hn h)
  cases hs : isShape cs with
  | false =>
    have HR : Hid ((-1 : Int) = perimeter cs) := by show _ = _; unfold perimeter; rw [hs]; rfl
    rw [hs] at hc
    clear hs
    go_enter Try.func40, Try.ntmps40
    go_wp2_with fail
    refine hc.mono ?_
    rintro e w1 ⟨rfl, hb⟩
    go_wp2
    go_ret
    exact ⟨ret_int HR.out, hb⟩
  | true =>
    have HR : Hid (4 * (n : Int) - 2 * (innerSides cs : Int) = perimeter cs) := by show _ = _; unfold perimeter; rw [hs, if_pos rfl, h.1]
    have hl := shape_len hs
    rw [h.1] at hl
    have hi := inner_le hs
    rw [hs] at hc
    clear hs
    go_enter Try.func40, Try.ntmps40
    go_wp2_with fail
    refine hc.mono ?_
    rintro e w1 ⟨rfl, hb⟩
    clear hc
    have hc := (implInnerSides A n cap cs w1 hn (h.below hb))
    obtain ⟨s, hss⟩ : ∃ s, s = innerSides cs := ⟨_, rfl⟩
    rw [← hss] at hc hi HR
    clear hss
    go_wp2_with fail
    refine hc.mono ?_
    rintro e w2 ⟨rfl, hb2⟩
    go_wp2
    go_ret
    exact ⟨ret_int HR.out, hb.trans (hb2.mono hb.size)⟩
set_option maxHeartbeats 800000 in
theorem specPerimeterOf (A : Option Addr) (n cap : Nat) (cs : List C) (w : World) (hn : n ≤ 1048576) (h : CellsAt w A n cs) :
    Calls Try.prog 39 #[.slice A n cap] w fun e w' => e = .returned (.int .i64 (perimeter cs)) ∧ Below w.heap.size w w' := by
  have hc := (specIsShape A n cap cs w hn h)
  cases hs : isShape cs with
  | false =>
    have HR : Hid ((-1 : Int) = perimeter cs) := by show _ = _; unfold perimeter; rw [hs]; rfl
    rw [hs] at hc
    clear hs
    go_enter Try.func39, Try.ntmps39
    go_wp2_with fail
    refine hc.mono ?_
    rintro e w1 ⟨rfl, hb⟩
    go_wp2
    go_ret
    exact ⟨ret_int HR.out, hb⟩
  | true =>
    have HR : Hid (4 * (n : Int) - 2 * (innerSides cs : Int) = perimeter cs) := by show _ = _; unfold perimeter; rw [hs, if_pos rfl, h.1]
    have hl := shape_len hs
    rw [h.1] at hl
    have hi := inner_le hs
    rw [hs] at hc
    clear hs
    go_enter Try.func39, Try.ntmps39
    go_wp2_with fail
    refine hc.mono ?_
    rintro e w1 ⟨rfl, hb⟩
    clear hc
    have hc := (specInnerSides A n cap cs w1 hn (h.below hb))
    obtain ⟨s, hss⟩ : ∃ s, s = innerSides cs := ⟨_, rfl⟩
    rw [← hss] at hc hi HR
    clear hss
    go_wp2_with fail
    refine hc.mono ?_
    rintro e w2 ⟨rfl, hb2⟩
    go_wp2
    go_ret
    exact ⟨ret_int HR.out, hb.trans (hb2.mono hb.size)⟩
end Go.Proofs.Ytmojfiigjoamnaa
