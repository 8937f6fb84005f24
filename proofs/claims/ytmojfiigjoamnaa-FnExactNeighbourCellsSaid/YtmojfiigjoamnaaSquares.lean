/- SquaresIn, the program's and the reference's. Condition: slices of at most 2^20 cells. -/
import Derived.Test.YtmojfiigjoamnaaNear
import Derived.Test.YtmojfiigjoamnaaHas
namespace Go.Proofs.Ytmojfiigjoamnaa
open Go.RowKit

def sqAt (cs : List C) (c : C) : Bool := memC cs (c.1 + 1) c.2 && memC cs c.1 (c.2 + 1) && memC cs (c.1 + 1) (c.2 + 1)
def sqTo (cs : List C) (k : Nat) : Nat := ((cs.take k).filter (sqAt cs)).length
def squares (cs : List C) : Nat := if isShape cs then sqTo cs cs.length else 0
theorem sqTo_le (cs : List C) (k : Nat) : sqTo cs k ≤ k := by
  unfold sqTo
  refine Nat.le_trans (List.length_filter_le _ _) ?_
  simp; omega
theorem sq_yes {cs : List C} {k s : Nat} {c : C} (hs : s = sqTo cs k) (hk : cs[k]? = some c) (h : sqAt cs c = true) : s + 1 = sqTo cs (k + 1) := by
  unfold sqTo at *; rw [take_next hk, List.filter_append, hs]; simp [h]
theorem sq_no {cs : List C} {k s : Nat} {c : C} (hs : s = sqTo cs k) (hk : cs[k]? = some c) (h : sqAt cs c = false) : s = sqTo cs (k + 1) := by
  unfold sqTo at *; rw [take_next hk, List.filter_append, hs]; simp [h]

theorem specHas_eq {A : Option Addr} {n cap : Nat} {cs : List C} {x y : Int} {t : Bool} {w : World} (hm : memC cs x y = t) (hn : n ≤ 1048576) (h : CellsAt w A n cs) :
    ∀ v : Later w, Calls Try.prog 21 #[.slice A n cap, .int .i64 x, .int .i64 y] v.1 fun e w' => e = .returned (.bool t) ∧ v.1 = w' :=
  fun v => by subst hm; exact specHasCell A n cap cs x y v.1 hn (h.below v.2)
theorem implHas_eq {A : Option Addr} {n cap : Nat} {cs : List C} {x y : Int} {t : Bool} {w : World} (hm : memC cs x y = t) (hn : n ≤ 1048576) (h : CellsAt w A n cs) :
    ∀ v : Later w, Calls Try.prog 23 #[.slice A n cap, .int .i64 x, .int .i64 y] v.1 fun e w' => e = .returned (.bool t) ∧ Below v.1.heap.size v.1 w' :=
  fun v => by subst hm; exact implHasCell A n cap cs x y v.1 hn (h.below v.2)

set_option maxHeartbeats 1600000 in
theorem implSquaresIn (A : Option Addr) (n cap : Nat) (cs : List C) (w : World) (hn : n ≤ 1048576) (h : CellsAt w A n cs) :
    Calls Try.prog 38 #[.slice A n cap] w fun e w' => e = .returned (.int .i64 (squares cs)) ∧ Below w.heap.size w w' := by
  have hc := (implIsShape A n cap cs w hn h)
  cases hs : isShape cs with
  | false =>
    have HR : Hid ((0 : Int) = squares cs) := by show _ = _; unfold squares; rw [hs]; rfl
    rw [hs] at hc
    clear hs
    go_enter Try.func38, Try.ntmps38
    go_wp2_with fail
    refine hc.mono ?_
    rintro e w1 ⟨rfl, hb⟩
    go_wp2
    go_ret
    exact ⟨ret_int HR.out, hb⟩
  | true =>
    have HR : Hid (squares cs = sqTo cs n) := by show _ = _; unfold squares; rw [hs, if_pos rfl, h.1]
    have hl := shape_len hs
    rw [h.1] at hl
    have HS := Lib.hid hs
    rw [hs] at hc
    clear hs
    go_enter Try.func38, Try.ntmps38
    go_wp2_with fail
    refine hc.mono ?_
    rintro e w1 ⟨rfl, hb0⟩
    replace h := h.below hb0
    clear hc
    go_wp2
    go_loopw [3, 5, 11] (fun s _ i wr => ∃ k t : Nat, k ≤ n ∧ i = .int .i64 k ∧ s = .int .i64 t ∧ t ≤ k ∧ Hid (t = sqTo cs k) ∧ Below w1.heap.size w1 wr) (fun _ _ i _ => n - (intOf i).toNat)
    case atStart => exact ⟨0, 0, Nat.zero_le _, rfl, rfl, Nat.le_refl _, rfl, Below.refl _ _⟩
    case round =>
      obtain ⟨k, t, hk, rfl, rfl, ht, HT, hb⟩ := hrel
      by_cases hlt : k < n
      · have h' := h.below hb
        obtain ⟨b, o, p, q, rfl, hbl, HK, c1, c2⟩ := h'.at_ hlt
        obtain ⟨z1, z2, z3, z4⟩ := shape_cell HS.out HK.out
        have l1 := later_box (w := wr) (t := 43) (show (#[Value.int .i64 p, .int .i64 q] : Array Value)[0]? = some (.int .i64 p) from rfl)
        have l2 := later_box (w := wr) (t := 43) (show (#[Value.int .i64 p, .int .i64 q] : Array Value)[1]? = some (.int .i64 q) from rfl)
        have hbx := below_alloc wr (.cells #[.int .i64 p, .int .i64 q] 43)
        have hx := h'.below hbx
        have hbw := hb.trans (hbx.mono hb.size)
        clear h h'
        cases hv1 : memC cs (p + 1) q with
        | false =>
          have HN : Hid (t = sqTo cs (k + 1)) := sq_no HT.out HK.out (by unfold sqAt; simp only; rw [hv1]; rfl)
          have C1 := implHas_eq (cap := cap) hv1 hn hx
          clear hx hv1
          go_wp2_with fail
          refine (C1 ⟨_, (Below.refl _ _)⟩).mono ?_
          rintro e y1 ⟨rfl, B1⟩
          have D1 := B1
          have m1a := l1 ⟨_, D1⟩
          have m1b := l2 ⟨_, D1⟩
          simp only at m1a m1b
          have hb := hbw.trans (D1.mono hbw.size)
          go_wp2
          go_roundw
          case rel => exact ⟨k + 1, t, by omega, by go_num, rfl, by omega, HN, hb⟩
          case measure => simp [intOf]; omega
        | true =>
          cases hv2 : memC cs p (q + 1) with
          | false =>
            have HN : Hid (t = sqTo cs (k + 1)) := sq_no HT.out HK.out (by unfold sqAt; simp only; rw [hv1, hv2]; rfl)
            have C1 := implHas_eq (cap := cap) hv1 hn hx
            have C2 := implHas_eq (cap := cap) hv2 hn hx
            clear hx hv1 hv2
            go_wp2_with fail
            refine (C1 ⟨_, (Below.refl _ _)⟩).mono ?_
            rintro e y1 ⟨rfl, B1⟩
            have D1 := B1
            have m1a := l1 ⟨_, D1⟩
            have m1b := l2 ⟨_, D1⟩
            simp only at m1a m1b
            go_wp2_with fail
            refine (C2 ⟨_, D1⟩).mono ?_
            rintro e y2 ⟨rfl, B2⟩
            have D2 := D1.trans (B2.mono D1.size)
            have m2a := l1 ⟨_, D2⟩
            have m2b := l2 ⟨_, D2⟩
            simp only at m2a m2b
            have hb := hbw.trans (D2.mono hbw.size)
            go_wp2
            go_roundw
            case rel => exact ⟨k + 1, t, by omega, by go_num, rfl, by omega, HN, hb⟩
            case measure => simp [intOf]; omega
          | true =>
            cases hv3 : memC cs (p + 1) (q + 1) with
            | false =>
              have HN : Hid (t = sqTo cs (k + 1)) := sq_no HT.out HK.out (by unfold sqAt; simp only; rw [hv1, hv2, hv3]; rfl)
              have C1 := implHas_eq (cap := cap) hv1 hn hx
              have C2 := implHas_eq (cap := cap) hv2 hn hx
              have C3 := implHas_eq (cap := cap) hv3 hn hx
              clear hx hv1 hv2 hv3
              go_wp2_with fail
              refine (C1 ⟨_, (Below.refl _ _)⟩).mono ?_
              rintro e y1 ⟨rfl, B1⟩
              have D1 := B1
              have m1a := l1 ⟨_, D1⟩
              have m1b := l2 ⟨_, D1⟩
              simp only at m1a m1b
              go_wp2_with fail
              refine (C2 ⟨_, D1⟩).mono ?_
              rintro e y2 ⟨rfl, B2⟩
              have D2 := D1.trans (B2.mono D1.size)
              have m2a := l1 ⟨_, D2⟩
              have m2b := l2 ⟨_, D2⟩
              simp only at m2a m2b
              go_wp2_with fail
              refine (C3 ⟨_, D2⟩).mono ?_
              rintro e y3 ⟨rfl, B3⟩
              have D3 := D2.trans (B3.mono D2.size)
              have m3a := l1 ⟨_, D3⟩
              have m3b := l2 ⟨_, D3⟩
              simp only at m3a m3b
              have hb := hbw.trans (D3.mono hbw.size)
              go_wp2
              go_roundw
              case rel => exact ⟨k + 1, t, by omega, by go_num, rfl, by omega, HN, hb⟩
              case measure => simp [intOf]; omega
            | true =>
              have HN : Hid (t + 1 = sqTo cs (k + 1)) := sq_yes HT.out HK.out (by unfold sqAt; simp only; rw [hv1, hv2, hv3]; rfl)
              have C1 := implHas_eq (cap := cap) hv1 hn hx
              have C2 := implHas_eq (cap := cap) hv2 hn hx
              have C3 := implHas_eq (cap := cap) hv3 hn hx
              clear hx hv1 hv2 hv3
              go_wp2_with fail
              refine (C1 ⟨_, (Below.refl _ _)⟩).mono ?_
              rintro e y1 ⟨rfl, B1⟩
              have D1 := B1
              have m1a := l1 ⟨_, D1⟩
              have m1b := l2 ⟨_, D1⟩
              simp only at m1a m1b
              go_wp2_with fail
              refine (C2 ⟨_, D1⟩).mono ?_
              rintro e y2 ⟨rfl, B2⟩
              have D2 := D1.trans (B2.mono D1.size)
              have m2a := l1 ⟨_, D2⟩
              have m2b := l2 ⟨_, D2⟩
              simp only at m2a m2b
              go_wp2_with fail
              refine (C3 ⟨_, D2⟩).mono ?_
              rintro e y3 ⟨rfl, B3⟩
              have D3 := D2.trans (B3.mono D2.size)
              have m3a := l1 ⟨_, D3⟩
              have m3b := l2 ⟨_, D3⟩
              simp only at m3a m3b
              have hb := hbw.trans (D3.mono hbw.size)
              go_wp2
              go_roundw
              case rel => exact ⟨k + 1, t + 1, by omega, by go_num, by go_num, by omega, HN, hb⟩
              case measure => simp [intOf]; omega
      · obtain rfl : k = n := by omega
        clear h
        go_wp2
        go_ret
        exact ⟨ret_int (by rw [HR.out, HT.out]), hb0.trans (hb.mono hb0.size)⟩

set_option maxHeartbeats 8000000 in
theorem specSquaresIn (A : Option Addr) (n cap : Nat) (cs : List C) (w : World) (hn : n ≤ 1048576) (h : CellsAt w A n cs) :
    Calls Try.prog 37 #[.slice A n cap] w fun e w' => e = .returned (.int .i64 (squares cs)) ∧ Below w.heap.size w w' := by
  cases hs : isShape cs with
  | false =>
    have HR : Hid ((0 : Int) = squares cs) := by show _ = _; unfold squares; rw [hs]; rfl
    have hc := (specIsShape A n cap cs w hn h)
    rw [hs] at hc
    clear hs
    go_enter Try.func37, Try.ntmps37
    go_wp2
    go_loopw [3, 4] (fun s i wr => s = .int .i64 0 ∧ i = .int .i64 0 ∧ wr = w) (fun i _ _ => 0)
    case atStart => exact ⟨rfl, rfl, rfl⟩
    case round =>
      obtain ⟨rfl, rfl, rfl⟩ := hrel
      by_cases h0 : n = 0
      · have d0 : decide ((0 : Int) < (n : Int)) = false := by simp; omega
        have d1 : decide (0 < n) = false := by simp; omega
        clear h
        go_wp2
        go_ret
        exact ⟨ret_int HR.out, Below.refl _ _⟩
      · have d0 : decide ((0 : Int) < (n : Int)) = true := by simp; omega
        have d1 : decide (0 < n) = true := by simp; omega
        go_wp2_with fail
        refine hc.mono ?_
        rintro e w1 ⟨rfl, hb⟩
        go_wp2
        go_ret
        exact ⟨ret_int HR.out, hb⟩
  | true =>
    have HR : Hid (squares cs = sqTo cs n) := by show _ = _; unfold squares; rw [hs, if_pos rfl, h.1]
    have hl := shape_len hs
    rw [h.1] at hl
    have HS := Lib.hid hs
    clear hs
    go_enter Try.func37, Try.ntmps37
    go_wp2
    go_loopw [3, 4] (fun s i wr => ∃ k t : Nat, k ≤ n ∧ i = .int .i64 k ∧ s = .int .i64 t ∧ t ≤ k ∧ Hid (t = sqTo cs k) ∧ Below w.heap.size w wr) (fun _ i _ => n - (intOf i).toNat)
    case atStart => exact ⟨0, 0, Nat.zero_le _, rfl, rfl, Nat.le_refl _, rfl, Below.refl _ _⟩
    case round =>
      obtain ⟨k, t, hk, rfl, rfl, ht, HT, hb⟩ := hrel
      by_cases hlt : k < n
      · have hc := (specIsShape A n cap cs wr hn (h.below hb))
        rw [HS.out] at hc
        go_wp2_with fail
        refine hc.mono ?_
        rintro e w1 ⟨rfl, hb1⟩
        clear hc
        have hb := hb.trans (hb1.mono hb.size)
        clear hb1
        have hx := h.below hb
        obtain ⟨b, o, p, q, rfl, hbl, HK, c1, c2⟩ := hx.at_ hlt
        clear h
        obtain ⟨p1, hp1⟩ : ∃ p1, p1 = p + 1 := ⟨_, rfl⟩
        obtain ⟨q1, hq1⟩ : ∃ q1, q1 = q + 1 := ⟨_, rfl⟩
        have W1 : wrap64 (p + 1) = p1 := by rw [hp1]; obtain ⟨z1, z2, z3, z4⟩ := shape_cell HS.out HK.out; exact IntWalk.wrap64_in _ ⟨by omega, by omega⟩
        have W2 : wrap64 (q + 1) = q1 := by rw [hq1]; obtain ⟨z1, z2, z3, z4⟩ := shape_cell HS.out HK.out; exact IntWalk.wrap64_in _ ⟨by omega, by omega⟩
        have HP := Lib.hid hp1
        have HQ := Lib.hid hq1
        clear hp1 hq1
        have l1 := later_cell hbl c1
        have l2 := later_cell hbl c2
        have e2 : (0 : Int) ≤ (k : Int) := by omega
        have e3 : (k : Int) < (n : Int) := by omega
        cases hv1 : memC cs p1 q with
        | false =>
          have HN : Hid (t = sqTo cs (k + 1)) := sq_no HT.out HK.out (by unfold sqAt; simp only; rw [← HP.out, ← HQ.out, hv1]; rfl)
          have C1 := specHas_eq (cap := cap) hv1 hn hx
          clear hx hv1
          go_wp2
          (refine wp_region_later (by kernel_rfl) (by kernel_rfl) ?_; (repeat (go_big_quiet_step ((first | (go_at_call 21; with_reducible exact Calls.later_same (C1 _)))))); refine wpQuiet_nil ?_; rintro wq ⟨xq, hxq⟩; have hq := later_below hxq; clear hxq xq)
          have hb := hb.trans (hq.mono hb.size)
          go_wp2
          go_roundw
          case rel => exact ⟨k + 1, t, by omega, by go_num, rfl, by omega, HN, hb⟩
          case measure => simp [intOf]; omega
        | true =>
          cases hv2 : memC cs p q1 with
          | false =>
            have HN : Hid (t = sqTo cs (k + 1)) := sq_no HT.out HK.out (by unfold sqAt; simp only; rw [← HP.out, ← HQ.out, hv1, hv2]; rfl)
            have C1 := specHas_eq (cap := cap) hv1 hn hx
            have C2 := specHas_eq (cap := cap) hv2 hn hx
            clear hx hv1 hv2
            go_wp2
            (refine wp_region_later (by kernel_rfl) (by kernel_rfl) ?_; (repeat (go_big_quiet_step ((first | (go_at_call 21; with_reducible exact Calls.later_same (C1 _)) | (go_at_call 21; with_reducible exact Calls.later_same (C2 _)))))); refine wpQuiet_nil ?_; rintro wq ⟨xq, hxq⟩; have hq := later_below hxq; clear hxq xq)
            have hb := hb.trans (hq.mono hb.size)
            go_wp2
            go_roundw
            case rel => exact ⟨k + 1, t, by omega, by go_num, rfl, by omega, HN, hb⟩
            case measure => simp [intOf]; omega
          | true =>
            cases hv3 : memC cs p1 q1 with
            | false =>
              have HN : Hid (t = sqTo cs (k + 1)) := sq_no HT.out HK.out (by unfold sqAt; simp only; rw [← HP.out, ← HQ.out, hv1, hv2, hv3]; rfl)
              have C1 := specHas_eq (cap := cap) hv1 hn hx
              have C2 := specHas_eq (cap := cap) hv2 hn hx
              have C3 := specHas_eq (cap := cap) hv3 hn hx
              clear hx hv1 hv2 hv3
              go_wp2
              (refine wp_region_later (by kernel_rfl) (by kernel_rfl) ?_; (repeat (go_big_quiet_step ((first | (go_at_call 21; with_reducible exact Calls.later_same (C1 _)) | (go_at_call 21; with_reducible exact Calls.later_same (C2 _)) | (go_at_call 21; with_reducible exact Calls.later_same (C3 _)))))); refine wpQuiet_nil ?_; rintro wq ⟨xq, hxq⟩; have hq := later_below hxq; clear hxq xq)
              have hb := hb.trans (hq.mono hb.size)
              go_wp2
              go_roundw
              case rel => exact ⟨k + 1, t, by omega, by go_num, rfl, by omega, HN, hb⟩
              case measure => simp [intOf]; omega
            | true =>
              have HN : Hid (t + 1 = sqTo cs (k + 1)) := sq_yes HT.out HK.out (by unfold sqAt; simp only; rw [← HP.out, ← HQ.out, hv1, hv2, hv3]; rfl)
              have C1 := specHas_eq (cap := cap) hv1 hn hx
              have C2 := specHas_eq (cap := cap) hv2 hn hx
              have C3 := specHas_eq (cap := cap) hv3 hn hx
              clear hx hv1 hv2 hv3
              go_wp2
              (refine wp_region_later (by kernel_rfl) (by kernel_rfl) ?_; (repeat (go_big_quiet_step ((first | (go_at_call 21; with_reducible exact Calls.later_same (C1 _)) | (go_at_call 21; with_reducible exact Calls.later_same (C2 _)) | (go_at_call 21; with_reducible exact Calls.later_same (C3 _)))))); refine wpQuiet_nil ?_; rintro wq ⟨xq, hxq⟩; have hq := later_below hxq; clear hxq xq)
              have hb := hb.trans (hq.mono hb.size)
              go_wp2
              go_roundw
              case rel => exact ⟨k + 1, t + 1, by omega, by go_num, by go_num, by omega, HN, hb⟩
              case measure => simp [intOf]; omega
      · obtain rfl : k = n := by omega
        clear h
        go_wp2
        go_ret
        exact ⟨ret_int (by rw [HR.out, HT.out]), hb⟩
end Go.Proofs.Ytmojfiigjoamnaa
