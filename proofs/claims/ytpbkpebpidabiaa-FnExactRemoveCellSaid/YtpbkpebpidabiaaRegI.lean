/- IsRegion, the program's and the reference's: contracts. Condition: at most 2^20 rows. -/
import Derived.Test.YtpbkpebpidabiaaRegE
namespace Go.Proofs.Ytpbkpebpidabiaa
open Go.RowKit

def rowOk (W x : Int) : Bool := decide (0 ≤ x) && decide (x < (2 : Int) ^ W.toNat)
def isReg (r : Int × List Int) : Bool := inB r.1 1 6 && inB r.2.length 1 6 && r.2.all (rowOk r.1)
theorem isReg_w {W : Int} {xs : List Int} (h : inB W 1 6 = false) : isReg (W, xs) = false := by unfold isReg; rw [h]; rfl
theorem isReg_h {W : Int} {xs : List Int} (h : inB xs.length 1 6 = false) : isReg (W, xs) = false := by unfold isReg; rw [h]; simp
theorem isReg_bad {W : Int} {xs : List Int} {k : Nat} {x : Int} (hk : xs[k]? = some x) (h : rowOk W x = false) : isReg (W, xs) = false := by
  unfold isReg
  have : xs.all (rowOk W) = false := by
    rw [List.all_eq_false]
    exact ⟨x, List.mem_of_getElem? hk, by simp [h]⟩
  simp only
  rw [this, Bool.and_false]
theorem all_next {f : Int → Bool} {xs : List Int} {k : Nat} {x : Int} (h : (xs.take k).all f = true) (hk : xs[k]? = some x) (hx : f x = true) : Hid ((xs.take (k + 1)).all f = true) := by
  show _ = _
  rw [take_next hk, List.all_append, h]; simp [hx]
theorem shl_side {W : Int} (h : inB W 1 6 = true) : 1 ≤ W ∧ W ≤ 6 ∧ 2 ≤ (2 : Int) ^ W.toNat ∧ (2 : Int) ^ W.toNat ≤ 64 ∧ IntKind.i64.wrap ((2 : Int) ^ W.toNat) = (2 : Int) ^ W.toNat := by
  have hb : 1 ≤ W ∧ W ≤ 6 := by unfold inB at h; simpa using h
  obtain ⟨k, rfl⟩ : ∃ k : Nat, W = (k : Int) := ⟨W.toNat, by omega⟩
  have : k = 1 ∨ k = 2 ∨ k = 3 ∨ k = 4 ∨ k = 5 ∨ k = 6 := by omega
  rcases this with rfl | rfl | rfl | rfl | rfl | rfl
  all_goals exact ⟨by omega, by omega, by decide, by decide, by decide⟩

theorem isSide_eq {x : Int} {t : Bool} (h : inB x 1 6 = t) (w : World) : Calls Try.prog 31 #[.int .i64 x] w fun e w' => e = .returned (.bool t) ∧ w = w' := by
  go_enter Try.func31, Try.ntmps31
  go_wp2_with (go_at_call 40; refine (between_eq h _).mono ?_; rintro e w1 ⟨rfl, rfl⟩)
  go_ret
  exact ⟨rfl, rfl⟩

set_option maxHeartbeats 800000 in
theorem implIsRegion (W : Int) (A : Option Addr) (n cap : Nat) (xs : List Int) (w : World) (hn : n ≤ 1048576) (h : IntsAt w A n xs) :
    Calls Try.prog 19 #[.agg #[.int .i64 W, .slice A n cap]] w fun e w' => e = .returned (.bool (isReg (W, xs))) ∧ Below w.heap.size w w' := by
  have hB := below1 w (.cells #[.int .i64 W, .slice A n cap] 27)
  have hl := Lib.hid h.1
  cases hw : inB W 1 6 with
  | false =>
    have HR := Lib.hid (isReg_w (xs := xs) hw)
    have HW := Lib.hid hw
    clear hw
    go_enter Try.func19, Try.ntmps19
    go_wp2_with fail
    refine (isSide_eq HW.out _).mono ?_
    rintro e w1 ⟨rfl, rfl⟩
    go_wp2
    go_ret
    exact ⟨ret_bool HR.out.symm, hB⟩
  | true =>
    obtain ⟨W1, W6, P1, P2, hsh⟩ := shl_side hw
    have HW := Lib.hid hw
    cases hx : inB (n : Int) 1 6 with
    | false =>
      have HR : Hid (isReg (W, xs) = false) := isReg_h (by rw [hl.out]; exact hx)
      have HX := Lib.hid hx
      clear hw hx hsh P1 P2
      go_enter Try.func19, Try.ntmps19
      go_wp2_with fail
      refine (isSide_eq HW.out _).mono ?_
      rintro e w1 ⟨rfl, rfl⟩
      go_wp2_with fail
      refine (isSide_eq HX.out _).mono ?_
      rintro e w1 ⟨rfl, rfl⟩
      go_wp2
      go_ret
      exact ⟨ret_bool HR.out.symm, hB⟩
    | true =>
      have HX := Lib.hid hx
      obtain ⟨P, hP⟩ : ∃ P, P = (2 : Int) ^ W.toNat := ⟨_, rfl⟩
      rw [← hP] at P1 P2 hsh
      have hsh2 : wrap64 ((2 : Int) ^ W.toNat) = P := by rw [← hP]; exact IntWalk.wrap64_in _ ⟨by omega, by omega⟩
      have HP := Lib.hid hP
      clear hw hx hsh hP
      go_enter Try.func19, Try.ntmps19
      go_wp2_with fail
      refine (isSide_eq HW.out _).mono ?_
      rintro e w1 ⟨rfl, rfl⟩
      go_wp2_with fail
      refine (isSide_eq HX.out _).mono ?_
      rintro e w1 ⟨rfl, rfl⟩
      have h := h.below hB
      go_wp2
      go_loop [4, 19] (fun _ i => ∃ k : Nat, k ≤ n ∧ i = .int .i64 k ∧ Hid ((xs.take k).all (rowOk W) = true)) (fun _ i => n - (intOf i).toNat)
      case atStart => exact ⟨0, Nat.zero_le _, rfl, rfl⟩
      case round =>
        obtain ⟨k, hk, rfl, HT⟩ := hrel
        by_cases hlt : k < n
        · obtain ⟨b, o, x, rfl, hbl, HK, c1⟩ := h.at_ hlt
          have hki : (k : Int) < (n : Int) := by omega
          clear h
          by_cases h0 : 0 ≤ x
          · have d0 : decide (x < 0) = false := by simp; omega
            by_cases h1 : x < P
            · have d1 : decide (P ≤ x) = false := by simp; omega
              have HN := all_next HT.out HK.out (by unfold rowOk; rw [← HP.out]; simp [h0, h1])
              go_wp2
              go_round
              case rel => exact ⟨k + 1, by omega, by go_num, HN⟩
              case measure => simp [intOf]; omega
            · have d1 : decide (P ≤ x) = true := by simp; omega
              have HR := Lib.hid (isReg_bad (W := W) HK.out (by unfold rowOk; rw [← HP.out]; simp [h1]))
              go_wp2
              go_ret
              exact ⟨ret_bool HR.out.symm, hB⟩
          · have d0 : decide (x < 0) = true := by simp; omega
            have HR := Lib.hid (isReg_bad (W := W) HK.out (by unfold rowOk; simp [h0]))
            clear hsh2
            go_wp2
            go_ret
            exact ⟨ret_bool HR.out.symm, hB⟩
        · obtain rfl : k = n := by omega
          have HR : Hid (isReg (W, xs) = true) := by
            show _ = _
            have := HT.out
            rw [List.take_of_length_le (by rw [hl.out]; exact Nat.le_refl _)] at this
            unfold isReg
            simp only
            rw [this, HW.out, hl.out, HX.out]; rfl
          clear h
          go_wp2
          go_ret
          exact ⟨ret_bool HR.out.symm, hB⟩
set_option maxHeartbeats 1600000 in
theorem specIsRegion (W : Int) (A : Option Addr) (n cap : Nat) (xs : List Int) (w : World) (hn : n ≤ 1048576) (h : IntsAt w A n xs) :
    Calls Try.prog 18 #[.agg #[.int .i64 W, .slice A n cap]] w fun e w' => e = .returned (.bool (isReg (W, xs))) ∧ Below w.heap.size w w' := by
  have hB := below1 w (.cells #[.int .i64 W, .slice A n cap] 27)
  have hl := Lib.hid h.1
  cases hw : inB W 1 6 with
  | false =>
    have HR := Lib.hid (isReg_w (xs := xs) hw)
    have HW := Lib.hid hw
    clear hw
    go_enter Try.func18, Try.ntmps18
    go_wp2_with fail
    refine (l1In_eq HW.out _).mono ?_
    rintro e w1 ⟨rfl, rfl⟩
    go_wp2
    go_ret
    exact ⟨ret_bool HR.out.symm, hB⟩
  | true =>
    obtain ⟨W1, W6, P1, P2, hsh⟩ := shl_side hw
    have HW := Lib.hid hw
    cases hx : inB (n : Int) 1 6 with
    | false =>
      have HR : Hid (isReg (W, xs) = false) := isReg_h (by rw [hl.out]; exact hx)
      have HX := Lib.hid hx
      clear hw hx hsh P1 P2
      go_enter Try.func18, Try.ntmps18
      go_wp2_with fail
      refine (l1In_eq HW.out _).mono ?_
      rintro e w1 ⟨rfl, rfl⟩
      go_wp2_with fail
      refine (l1In_eq HX.out _).mono ?_
      rintro e w1 ⟨rfl, rfl⟩
      go_wp2
      go_ret
      exact ⟨ret_bool HR.out.symm, hB⟩
    | true =>
      have HX := Lib.hid hx
      obtain ⟨P, hP⟩ : ∃ P, P = (2 : Int) ^ W.toNat := ⟨_, rfl⟩
      rw [← hP] at P1 P2 hsh
      have HSH := Lib.hid hsh
      have HP := Lib.hid hP
      clear hw hx hsh hP
      go_enter Try.func18, Try.ntmps18
      go_wp2_with fail
      refine (l1In_eq HW.out _).mono ?_
      rintro e w1 ⟨rfl, rfl⟩
      go_wp2_with fail
      refine (l1In_eq HX.out _).mono ?_
      rintro e w1 ⟨rfl, rfl⟩
      have h := h.below hB
      have hsz := hB.size
      simp at hsz
      go_wp2
      go_loopw [3] (fun i wr => ∃ k j : Nat, k ≤ n ∧ i = .int .i64 k ∧ Hid ((xs.take k).all (rowOk W) = true) ∧ wr = (w.alloc (.cells #[.int .i64 W, .slice A n cap] 27)).drewN j) (fun i _ => n - (intOf i).toNat)
      case atStart => exact ⟨0, 0, Nat.zero_le _, rfl, rfl, rfl⟩
      case round =>
        obtain ⟨k, j, hk, rfl, HT, rfl⟩ := hrel
        by_cases hlt : k < n
        · obtain ⟨b, o, x, rfl, hbl, HK, c1⟩ := h.at_ hlt
          have hki : (k : Int) < (n : Int) := by omega
          have hk0 : (0 : Int) ≤ (k : Int) := by omega
          have hsh2 : IntKind.i64.wrap ((2 : Int) ^ W.toNat) = P := by rw [← HP.out]; exact HSH.out
          clear h
          by_cases h0 : 0 ≤ x
          · have d0 : decide (x < 0) = false := by simp; omega
            by_cases h1 : x < P
            · have d1 : decide (P ≤ x) = false := by simp; omega
              have HN := all_next HT.out HK.out (by unfold rowOk; rw [← HP.out]; simp [h0, h1])
              go_wp2
              go_quiet (fail)
              go_wp2
              go_roundw
              case rel => exact ⟨k + 1, _, by omega, by go_num, HN, rfl⟩
              case measure => simp [intOf]; omega
            · have d1 : decide (P ≤ x) = true := by simp; omega
              have HR := Lib.hid (isReg_bad (W := W) HK.out (by unfold rowOk; rw [← HP.out]; simp [h1]))
              go_wp2
              go_quiet (fail)
              go_wp2
              go_ret
              exact ⟨ret_bool HR.out.symm, below_drewN (below_drewN hB _) _⟩
          · have d0 : decide (x < 0) = true := by simp; omega
            have HR := Lib.hid (isReg_bad (W := W) HK.out (by unfold rowOk; simp [h0]))
            go_wp2
            go_quiet (fail)
            go_wp2
            go_ret
            exact ⟨ret_bool HR.out.symm, below_drewN (below_drewN hB _) _⟩
        · obtain rfl : k = n := by omega
          have HR : Hid (isReg (W, xs) = true) := by
            show _ = _
            have := HT.out
            rw [List.take_of_length_le (by rw [hl.out]; exact Nat.le_refl _)] at this
            unfold isReg
            simp only
            rw [this, HW.out, hl.out, HX.out]; rfl
          clear h
          go_wp2
          go_ret
          exact ⟨ret_bool HR.out.symm, below_drewN hB _⟩
end Go.Proofs.Ytpbkpebpidabiaa
