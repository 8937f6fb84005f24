/- IsShape, the program's and the reference's: both say the same of a list of cells. Condition: a slice of at most 2^20 cells. -/
import Derived.Test.YthhaojbnnacdbaaCmp
import Derived.Test.YthhaojbnnacdbaaIn
namespace Go.Proofs.Ythhaojbnnacdbaa
open Go.RowKit

def onB (c : C) : Bool := inB c.1 0 7 && inB c.2 0 7
/-- what is asked of the cell at place k -/
def okAt (cs : List C) (k : Nat) : Bool := match cs[k]? with
  | none => true
  | some c => onB c && (decide (k = 0) || match cs[k - 1]? with
    | none => true
    | some p => bef p c)
def okTo (cs : List C) : Nat → Bool
  | 0 => true
  | k + 1 => okTo cs k && okAt cs k
def isShape (cs : List C) : Bool := okTo cs cs.length && inB cs.length 1 8
theorem okTo_bad {cs : List C} {k : Nat} (h : okAt cs k = false) : ∀ n, k < n → okTo cs n = false := by
  intro n
  induction n with
  | zero => intro h; omega
  | succ n ih =>
    intro hk
    unfold okTo
    rcases Nat.lt_or_ge k n with h1 | h1
    · rw [ih h1]; rfl
    · obtain rfl : k = n := by omega
      rw [h]; simp
theorem okAt_first {cs : List C} {c : C} (h : cs[0]? = some c) : okAt cs 0 = onB c := by
  unfold okAt; rw [h]; simp
theorem okAt_next {cs : List C} {k : Nat} {p c : C} (h0 : 0 < k) (hp : cs[k - 1]? = some p) (h : cs[k]? = some c) : okAt cs k = (onB c && bef p c) := by
  unfold okAt
  rw [h]
  simp only [hp]
  rw [decide_eq_false (by omega : ¬ k = 0), Bool.false_or]
theorem isShape_bad {cs : List C} {k : Nat} (h : okAt cs k = false) (hk : k < cs.length) : isShape cs = false := by
  unfold isShape; rw [okTo_bad h _ hk]; rfl

theorem onBoard_eq {a b : Int} {t : Bool} (h : onB (a, b) = t) (w : World) :
    Calls Try.prog 101 #[.agg #[.int .i64 a, .int .i64 b]] w fun e w' => e = .returned (.bool t) ∧ Below w.heap.size w w' := by
  have hB := (Below.refl w.heap.size w).alloc (Nat.le_refl _) (.cells #[.int .i64 a, .int .i64 b] 58)
  subst h
  cases h1 : inB a 0 7 with
  | true =>
    cases h2 : inB b 0 7 with
    | true =>
      have HR : Hid (onB (a, b) = true) := by show (inB a 0 7 && inB b 0 7) = true; rw [h1, h2]; rfl
      have H1 := Lib.hid h1
      have H2 := Lib.hid h2
      clear h1 h2
      go_enter Try.func101, Try.ntmps101
      go_wp2_with fail
      refine (between_eq H1.out _).mono ?_
      rintro e w1 ⟨rfl, rfl⟩
      go_wp2_with fail
      refine (between_eq H2.out _).mono ?_
      rintro e w1 ⟨rfl, rfl⟩
      go_wp2
      go_ret
      exact ⟨ret_bool (by rw [HR.out]), hB⟩
    | false =>
      have HR : Hid (onB (a, b) = false) := by show (inB a 0 7 && inB b 0 7) = false; rw [h1, h2]; rfl
      have H1 := Lib.hid h1
      have H2 := Lib.hid h2
      clear h1 h2
      go_enter Try.func101, Try.ntmps101
      go_wp2_with fail
      refine (between_eq H1.out _).mono ?_
      rintro e w1 ⟨rfl, rfl⟩
      go_wp2_with fail
      refine (between_eq H2.out _).mono ?_
      rintro e w1 ⟨rfl, rfl⟩
      go_wp2
      go_ret
      exact ⟨ret_bool (by rw [HR.out]), hB⟩
  | false =>
    have HR : Hid (onB (a, b) = false) := by show (inB a 0 7 && inB b 0 7) = false; rw [h1]; rfl
    have H1 := Lib.hid h1
    clear h1
    go_enter Try.func101, Try.ntmps101
    go_wp2_with fail
    refine (between_eq H1.out _).mono ?_
    rintro e w1 ⟨rfl, rfl⟩
    go_wp2
    go_ret
    exact ⟨ret_bool (by rw [HR.out]), hB⟩

set_option maxHeartbeats 800000 in
theorem implIsShape (A : Option Addr) (n cap : Nat) (cs : List C) (w : World) (hn : n ≤ 1048576) (h : CellsAt w A n cs) :
    Calls Try.prog 71 #[.slice A n cap] w fun e w' => e = .returned (.bool (isShape cs)) ∧ Below w.heap.size w w' := by
  have hlen := Lib.hid h.1
  go_enter Try.func71, Try.ntmps71
  go_wp2
  go_loopw [3, 4, 7] (fun _ _ i wr => ∃ k : Nat, k ≤ n ∧ i = .int .i64 k ∧ Hid (okTo cs k = true) ∧ Below w.heap.size w wr) (fun _ _ i _ => n - (intOf i).toNat)
  case atStart => exact ⟨0, Nat.zero_le _, rfl, rfl, Below.refl _ _⟩
  case round =>
    obtain ⟨k, hk, rfl, HT, hb⟩ := hrel
    by_cases hlt : k < n
    · by_cases h0 : k = 0
      · have d0 : decide ((0 : Int) < (k : Int)) = false := by simp; omega
        have d1 : decide (0 < k) = false := by simp; omega
        obtain ⟨b, o, p, q, rfl, hbl, HK, c1, c2⟩ := (h.below hb).at_ hlt
        clear h
        have l1 := later_box (w := wr) (t := 58) (show (#[Value.int .i64 p, .int .i64 q] : Array Value)[0]? = some (.int .i64 p) from rfl)
        have l2 := later_box (w := wr) (t := 58) (show (#[Value.int .i64 p, .int .i64 q] : Array Value)[1]? = some (.int .i64 q) from rfl)
        have HA : Hid (okAt cs k = onB (p, q)) := by show _ = _; rw [h0]; exact okAt_first (by rw [← h0]; exact HK.out)
        have H0 := Lib.hid h0
        clear h0
        cases ho : onB (p, q) with
        | true =>
          have HO := Lib.hid ho
          rw [ho] at HA
          clear ho
          go_wp2
          (refine wp_region_later (by kernel_rfl) (by kernel_rfl) ?_; (repeat (go_big_quiet_step ((go_at_call 101; exact Calls.later (onBoard_eq HO.out _))))); refine wpQuiet_nil ?_; rintro wq ⟨xq, hxq⟩; have hq := later_below hxq; clear hxq xq)
          have hb := hb.trans ((below_alloc wr (.cells #[.int .i64 p, .int .i64 q] 58)).trans (hq.mono (by simp)) |>.mono hb.size)
          go_wp2
          go_roundw
          case rel => exact ⟨k + 1, by omega, by go_num, by show okTo cs (k + 1) = true; unfold okTo; rw [HT.out, HA.out]; rfl, hb⟩
          case measure => simp [intOf]; omega
        | false =>
          have HO := Lib.hid ho
          rw [ho] at HA
          clear ho
          have HR := Lib.hid (isShape_bad HA.out (by rw [hlen.out]; exact hlt))
          go_wp2
          (refine wp_region_later (by kernel_rfl) (by kernel_rfl) ?_; (repeat (go_big_quiet_step ((go_at_call 101; exact Calls.later (onBoard_eq HO.out _))))); refine wpQuiet_nil ?_; rintro wq ⟨xq, hxq⟩; have hq := later_below hxq; clear hxq xq)
          have hb := hb.trans ((below_alloc wr (.cells #[.int .i64 p, .int .i64 q] 58)).trans (hq.mono (by simp)) |>.mono hb.size)
          go_wp2
          go_ret
          exact ⟨ret_bool HR.out.symm, hb⟩
      · have d0 : decide ((0 : Int) < (k : Int)) = true := by simp; omega
        have d1 : decide (0 < k) = true := by simp; omega
        obtain ⟨b, o, p0, q0, p, q, rfl, hbl, HP, HK, c3, c4, c1, c2⟩ := (h.below hb).two hlt (by omega)
        clear h
        have e0 : (0 : Int) ≤ (k : Int) - 1 := by omega
        have e1 : (k : Int) - 1 < (n : Int) := by omega
        have l1 := later_box (w := wr) (t := 58) (show (#[Value.int .i64 p, .int .i64 q] : Array Value)[0]? = some (.int .i64 p) from rfl)
        have l2 := later_box (w := wr) (t := 58) (show (#[Value.int .i64 p, .int .i64 q] : Array Value)[1]? = some (.int .i64 q) from rfl)
        have l3 := later_old (ob := .cells #[.int .i64 p, .int .i64 q] 58) hbl c3
        have l4 := later_old (ob := .cells #[.int .i64 p, .int .i64 q] 58) hbl c4
        have HA := Lib.hid (okAt_next (by omega) HP.out HK.out)
        cases ho : onB (p, q) with
        | true =>
          have HO := Lib.hid ho
          rw [ho] at HA
          clear ho
          cases hf : bef (p0, q0) (p, q) with
          | true =>
            have HF := Lib.hid hf
            rw [hf] at HA
            clear hf
            go_wp2
            (refine wp_region_later (by kernel_rfl) (by kernel_rfl) ?_; (repeat (go_big_quiet_step ((first | (go_at_call 101; exact Calls.later (onBoard_eq HO.out _)) | (go_at_call 78; exact Calls.later (implBefore_eq HF.out _)))))); refine wpQuiet_nil ?_; rintro wq ⟨xq, hxq⟩; have hq := later_below hxq; clear hxq xq)
            have hb := hb.trans ((below_alloc wr (.cells #[.int .i64 p, .int .i64 q] 58)).trans (hq.mono (by simp)) |>.mono hb.size)
            go_wp2
            go_roundw
            case rel => exact ⟨k + 1, by omega, by go_num, by show okTo cs (k + 1) = true; unfold okTo; rw [HT.out, HA.out]; rfl, hb⟩
            case measure => simp [intOf]; omega
          | false =>
            have HF := Lib.hid hf
            rw [hf] at HA
            clear hf
            have HR := Lib.hid (isShape_bad HA.out (by rw [hlen.out]; exact hlt))
            go_wp2
            (refine wp_region_later (by kernel_rfl) (by kernel_rfl) ?_; (repeat (go_big_quiet_step ((first | (go_at_call 101; exact Calls.later (onBoard_eq HO.out _)) | (go_at_call 78; exact Calls.later (implBefore_eq HF.out _)))))); refine wpQuiet_nil ?_; rintro wq ⟨xq, hxq⟩; have hq := later_below hxq; clear hxq xq)
            have hb := hb.trans ((below_alloc wr (.cells #[.int .i64 p, .int .i64 q] 58)).trans (hq.mono (by simp)) |>.mono hb.size)
            go_wp2
            go_ret
            exact ⟨ret_bool HR.out.symm, hb⟩
        | false =>
          have HO := Lib.hid ho
          rw [ho] at HA
          clear ho
          have HR := Lib.hid (isShape_bad HA.out (by rw [hlen.out]; exact hlt))
          go_wp2
          (refine wp_region_later (by kernel_rfl) (by kernel_rfl) ?_; (repeat (go_big_quiet_step ((go_at_call 101; exact Calls.later (onBoard_eq HO.out _))))); refine wpQuiet_nil ?_; rintro wq ⟨xq, hxq⟩; have hq := later_below hxq; clear hxq xq)
          have hb := hb.trans ((below_alloc wr (.cells #[.int .i64 p, .int .i64 q] 58)).trans (hq.mono (by simp)) |>.mono hb.size)
          go_wp2
          go_ret
          exact ⟨ret_bool HR.out.symm, hb⟩
    · obtain rfl : k = n := by omega
      have HR : Hid (isShape cs = inB (k : Int) 1 8) := by show _ = _; unfold isShape; rw [hlen.out, HT.out]; rfl
      clear h
      go_wp2_with fail
      go_wp2_with (go_at_call 73; refine (between_any _ _ _ _).mono ?_; rintro e w' ⟨rfl, rfl⟩)
      go_ret
      exact ⟨ret_bool HR.out.symm, hb⟩

set_option maxHeartbeats 1600000 in
theorem specIsShape (A : Option Addr) (n cap : Nat) (cs : List C) (w : World) (hn : n ≤ 1048576) (h : CellsAt w A n cs) :
    Calls Try.prog 59 #[.slice A n cap] w fun e w' => e = .returned (.bool (isShape cs)) ∧ Below w.heap.size w w' := by
  have hlen := Lib.hid h.1
  go_enter Try.func59, Try.ntmps59
  go_wp2
  go_loopw [3] (fun i wr => ∃ k : Nat, k ≤ n ∧ i = .int .i64 k ∧ Hid (okTo cs k = true) ∧ Below w.heap.size w wr) (fun i _ => n - (intOf i).toNat)
  case atStart => exact ⟨0, Nat.zero_le _, rfl, rfl, Below.refl _ _⟩
  case round =>
    obtain ⟨k, hk, rfl, HT, hb⟩ := hrel
    by_cases hlt : k < n
    · have e2 : (0 : Int) ≤ (k : Int) := by omega
      have e3 : (k : Int) < (n : Int) := by omega
      by_cases h0 : k = 0
      · have d0 : decide ((0 : Int) < (k : Int)) = false := by simp; omega
        have d1 : decide (0 < k) = false := by simp; omega
        obtain ⟨b, o, p, q, rfl, hbl, HK, c1, c2⟩ := (h.below hb).at_ hlt
        clear h
        have l1 := later_cell hbl c1
        have l2 := later_cell hbl c2
        have HA : Hid (okAt cs k = (inB p 0 7 && inB q 0 7)) := by show _ = _; rw [h0]; exact okAt_first (by rw [← h0]; exact HK.out)
        have H0 := Lib.hid h0
        clear h0
        cases hx : inB p 0 7 with
        | true =>
          have HX := Lib.hid hx
          rw [hx] at HA
          clear hx
          cases hy : inB q 0 7 with
          | true =>
            have HY := Lib.hid hy
            rw [hy] at HA
            clear hy
            go_wp2
            (refine wp_region_later (by kernel_rfl) (by kernel_rfl) ?_; (repeat (go_big_quiet_step ((first | (go_at_call_of 90 p; exact Calls.later_same (l1In_eq HX.out _)) | (go_at_call_of 90 q; exact Calls.later_same (l1In_eq HY.out _)))))); refine wpQuiet_nil ?_; rintro wq ⟨xq, hxq⟩; have hq := later_below hxq; clear hxq xq)
            have hb := hb.trans (hq.mono hb.size)
            go_wp2
            go_roundw
            case rel => exact ⟨k + 1, by omega, by go_num, by show okTo cs (k + 1) = true; unfold okTo; rw [HT.out, HA.out]; rfl, hb⟩
            case measure => simp [intOf]; omega
          | false =>
            have HY := Lib.hid hy
            rw [hy] at HA
            clear hy
            have HR := Lib.hid (isShape_bad HA.out (by rw [hlen.out]; exact hlt))
            go_wp2
            (refine wp_region_later (by kernel_rfl) (by kernel_rfl) ?_; (repeat (go_big_quiet_step ((first | (go_at_call_of 90 p; exact Calls.later_same (l1In_eq HX.out _)) | (go_at_call_of 90 q; exact Calls.later_same (l1In_eq HY.out _)))))); refine wpQuiet_nil ?_; rintro wq ⟨xq, hxq⟩; have hq := later_below hxq; clear hxq xq)
            have hb := hb.trans (hq.mono hb.size)
            go_wp2
            go_ret
            exact ⟨ret_bool HR.out.symm, hb⟩
        | false =>
            have HX := Lib.hid hx
            rw [hx] at HA
            clear hx
            have HR := Lib.hid (isShape_bad HA.out (by rw [hlen.out]; exact hlt))
            go_wp2
            (refine wp_region_later (by kernel_rfl) (by kernel_rfl) ?_; (repeat (go_big_quiet_step ((go_at_call_of 90 p; exact Calls.later_same (l1In_eq HX.out _))))); refine wpQuiet_nil ?_; rintro wq ⟨xq, hxq⟩; have hq := later_below hxq; clear hxq xq)
            have hb := hb.trans (hq.mono hb.size)
            go_wp2
            go_ret
            exact ⟨ret_bool HR.out.symm, hb⟩
      · have d0 : decide ((0 : Int) < (k : Int)) = true := by simp; omega
        have d1 : decide (0 < k) = true := by simp; omega
        obtain ⟨b, o, p0, q0, p, q, rfl, hbl, HP, HK, c3, c4, c1, c2⟩ := (h.below hb).two hlt (by omega)
        clear h
        have e0 : (0 : Int) ≤ (k : Int) - 1 := by omega
        have e1 : (k : Int) - 1 < (n : Int) := by omega
        have l1 := later_cell hbl c1
        have l2 := later_cell hbl c2
        have l3 := later_cell hbl c3
        have l4 := later_cell hbl c4
        have HA : Hid (okAt cs k = ((inB p 0 7 && inB q 0 7) && bef (p0, q0) (p, q))) := okAt_next (by omega) HP.out HK.out
        cases hx : inB p 0 7 with
        | true =>
          have HX := Lib.hid hx
          rw [hx] at HA
          clear hx
          cases hy : inB q 0 7 with
          | true =>
            have HY := Lib.hid hy
            rw [hy] at HA
            clear hy
            cases hf : bef (p0, q0) (p, q) with
            | true =>
              have HF := Lib.hid hf
              rw [hf] at HA
              clear hf
              go_wp2
              (refine wp_region_later (by kernel_rfl) (by kernel_rfl) ?_; (repeat (go_big_quiet_step ((first | (go_at_call_of 90 p; exact Calls.later_same (l1In_eq HX.out _)) | (go_at_call_of 90 q; exact Calls.later_same (l1In_eq HY.out _)) | (go_at_call 75; exact Calls.later (specBefore_eq HF.out _)))))); refine wpQuiet_nil ?_; rintro wq ⟨xq, hxq⟩; have hq := later_below hxq; clear hxq xq)
              have hb := hb.trans (hq.mono hb.size)
              go_wp2
              go_roundw
              case rel => exact ⟨k + 1, by omega, by go_num, by show okTo cs (k + 1) = true; unfold okTo; rw [HT.out, HA.out]; rfl, hb⟩
              case measure => simp [intOf]; omega
            | false =>
              have HF := Lib.hid hf
              rw [hf] at HA
              clear hf
              have HR := Lib.hid (isShape_bad HA.out (by rw [hlen.out]; exact hlt))
              go_wp2
              (refine wp_region_later (by kernel_rfl) (by kernel_rfl) ?_; (repeat (go_big_quiet_step ((first | (go_at_call_of 90 p; exact Calls.later_same (l1In_eq HX.out _)) | (go_at_call_of 90 q; exact Calls.later_same (l1In_eq HY.out _)) | (go_at_call 75; exact Calls.later (specBefore_eq HF.out _)))))); refine wpQuiet_nil ?_; rintro wq ⟨xq, hxq⟩; have hq := later_below hxq; clear hxq xq)
              have hb := hb.trans (hq.mono hb.size)
              go_wp2
              go_ret
              exact ⟨ret_bool HR.out.symm, hb⟩
          | false =>
            have HY := Lib.hid hy
            rw [hy] at HA
            clear hy
            have HR := Lib.hid (isShape_bad HA.out (by rw [hlen.out]; exact hlt))
            go_wp2
            (refine wp_region_later (by kernel_rfl) (by kernel_rfl) ?_; (repeat (go_big_quiet_step ((first | (go_at_call_of 90 p; exact Calls.later_same (l1In_eq HX.out _)) | (go_at_call_of 90 q; exact Calls.later_same (l1In_eq HY.out _)))))); refine wpQuiet_nil ?_; rintro wq ⟨xq, hxq⟩; have hq := later_below hxq; clear hxq xq)
            have hb := hb.trans (hq.mono hb.size)
            go_wp2
            go_ret
            exact ⟨ret_bool HR.out.symm, hb⟩
        | false =>
            have HX := Lib.hid hx
            rw [hx] at HA
            clear hx
            have HR := Lib.hid (isShape_bad HA.out (by rw [hlen.out]; exact hlt))
            go_wp2
            (refine wp_region_later (by kernel_rfl) (by kernel_rfl) ?_; (repeat (go_big_quiet_step ((go_at_call_of 90 p; exact Calls.later_same (l1In_eq HX.out _))))); refine wpQuiet_nil ?_; rintro wq ⟨xq, hxq⟩; have hq := later_below hxq; clear hxq xq)
            have hb := hb.trans (hq.mono hb.size)
            go_wp2
            go_ret
            exact ⟨ret_bool HR.out.symm, hb⟩
    · obtain rfl : k = n := by omega
      have HR : Hid (isShape cs = inB (k : Int) 1 8) := by show _ = _; unfold isShape; rw [hlen.out, HT.out]; rfl
      clear h
      go_wp2_with (go_at_call 90; refine (l1In_any _ _ _ _).mono ?_; rintro e w' ⟨rfl, rfl⟩)
      go_ret
      exact ⟨ret_bool HR.out.symm, hb⟩
end Go.Proofs.Ythhaojbnnacdbaa
