/- EqualRegions and IsRegion, the program's and the reference's: contracts. Condition: at most 2^20 rows. -/
import Derived.Test.YtpbkpebpidabiaaReg
import Derived.Test.YtpbkpebpidabiaaIn
namespace Go.Proofs.Ytpbkpebpidabiaa
open Go.RowKit

set_option maxHeartbeats 400000 in
theorem sameInts_any (A B : Option Addr) (n m cap cap' : Nat) (cs ds : List Int) (w : World) (hn : n ≤ 1048576) (h : IntsAt w A n cs) (g : IntsAt w B m ds) :
    Calls Try.prog 28 #[.slice A n cap, .slice B m cap'] w (EqPostI cs ds w) := by
  by_cases hl : n = m
  · subst hl
    go_enter Try.func28, Try.ntmps28
    go_wp2
    go_loopw [5, 13] (fun _ i wr => ∃ k : Nat, k ≤ n ∧ i = .int .i64 k ∧ Hid (cs.take k = ds.take k) ∧ Below w.heap.size w wr) (fun _ i _ => n - (intOf i).toNat)
    case atStart => exact ⟨0, Nat.zero_le _, rfl, rfl, Below.refl _ _⟩
    case round =>
      obtain ⟨k, hk, rfl, HT, hb⟩ := hrel
      by_cases hlt : k < n
      · obtain ⟨b, o, p, rfl, hbl, HK, c1⟩ := (h.below hb).at_ hlt
        obtain ⟨b', o', p', rfl, hbl', HK', c1'⟩ := (g.below hb).at_ hlt
        have e0 : (0 : Int) ≤ (k : Int) := by omega
        have e1 : (k : Int) < (n : Int) := by omega
        clear h g
        by_cases hpq : p = p'
        · have hd : (p != p') = false := by simpa using hpq
          have HR := take_eq_nextI HT.out HK.out (by rw [hpq]; exact HK'.out)
          clear hpq
          go_wp2
          go_quiet (fail)
          go_wp2
          go_roundw
          case rel => exact ⟨k + 1, by omega, by go_num, HR, below_drewN hb _⟩
          case measure => simp [intOf]; omega
        · have hd : (p != p') = true := by simpa using hpq
          have HR := Lib.hid (ne_atI HK.out HK'.out hpq)
          clear hpq
          go_wp2
          go_quiet (fail)
          go_wp2
          go_ret
          exact ⟨ret_bool (by simp [HR.out]), below_drewN hb _⟩
      · have HE : Hid (cs = ds) := by
          have := HT.out
          rwa [List.take_of_length_le (by rw [h.1]; omega), List.take_of_length_le (by rw [g.1]; omega)] at this
        clear h g
        go_wp2
        go_ret
        exact ⟨ret_bool (by simp [HE.out]), hb⟩
  · have HE : Hid (cs ≠ ds) := by rintro rfl; exact hl (h.1.symm.trans g.1)
    have hb : ((n : Int) != (m : Int)) = true := by rw [bne_iff_ne]; omega
    go_enter Try.func28, Try.ntmps28
    go_wp2
    go_ret
    exact ⟨ret_bool (by simp [HE.out]), Below.refl _ _⟩

theorem implEqualRegions (W V : Int) (A B : Option Addr) (n m cap cap' : Nat) (xs ys : List Int) (w : World) (hn : n ≤ 1048576) (h : IntsAt w A n xs) (g : IntsAt w B m ys) :
    Calls Try.prog 12 #[.agg #[.int .i64 W, .slice A n cap], .agg #[.int .i64 V, .slice B m cap']] w (EqPostR (W, xs) (V, ys) w) := by
  by_cases hW : W = V
  · subst hW
    have e1 : (W == W) = true := by simp
    go_enter Try.func12, Try.ntmps12
    go_wp2_with fail
    refine (sameInts_any A B n m cap cap' xs ys _ hn (h.below (below2 w _ _)) (g.below (below2 w _ _))).mono ?_
    rintro e w1 ⟨rfl, hb⟩
    have hB := (below2 w _ _).trans (hb.mono (below2 w _ _).size)
    clear hb h g
    go_wp2
    go_ret
    exact ⟨ret_bool (by simp), hB⟩
  · have e1 : (W == V) = false := by simpa using hW
    have HX := Lib.hid hW
    clear hW
    go_enter Try.func12, Try.ntmps12
    go_wp2
    go_ret
    exact ⟨ret_bool (by simp [HX.out]), below2 w _ _⟩
set_option maxHeartbeats 800000 in
theorem specEqualRegions (W V : Int) (A B : Option Addr) (n m cap cap' : Nat) (xs ys : List Int) (w : World) (hn : n ≤ 1048576) (h : IntsAt w A n xs) (g : IntsAt w B m ys) :
    Calls Try.prog 10 #[.agg #[.int .i64 W, .slice A n cap], .agg #[.int .i64 V, .slice B m cap']] w (EqPostR (W, xs) (V, ys) w) := by
  by_cases hW : W = V
  · subst hW
    have e1 : (W != W) = false := by simp
    by_cases hl : n = m
    · subst hl
      have e2 : ((n : Int) != (n : Int)) = false := by simp
      have h := h.below (below2 w (.cells #[.int .i64 W, .slice A n cap] 27) (.cells #[.int .i64 W, .slice B n cap'] 27))
      have g := g.below (below2 w (.cells #[.int .i64 W, .slice A n cap] 27) (.cells #[.int .i64 W, .slice B n cap'] 27))
      have hB := below2 w (.cells #[.int .i64 W, .slice A n cap] 27) (.cells #[.int .i64 W, .slice B n cap'] 27)
      have hB1 := hB.size
      simp at hB1
      go_enter Try.func10, Try.ntmps10
      go_wp2
      go_loopw [5] (fun i wr => ∃ k j : Nat, k ≤ n ∧ i = .int .i64 k ∧ Hid (xs.take k = ys.take k) ∧ wr = ((w.alloc (.cells #[.int .i64 W, .slice A n cap] 27)).alloc (.cells #[.int .i64 W, .slice B n cap'] 27)).drewN j) (fun i _ => n - (intOf i).toNat)
      case atStart => exact ⟨0, 0, Nat.zero_le _, rfl, rfl, rfl⟩
      case round =>
        obtain ⟨k, j, hk, rfl, HT, rfl⟩ := hrel
        by_cases hlt : k < n
        · obtain ⟨b, o, p, rfl, hbl, HK, c1⟩ := (h).at_ hlt
          obtain ⟨b', o', p', rfl, hbl', HK', c1'⟩ := (g).at_ hlt
          have e0 : (0 : Int) ≤ (k : Int) := by omega
          have e1 : (k : Int) < (n : Int) := by omega
          clear h g
          by_cases hpq : p = p'
          · have hd : (p != p') = false := by simpa using hpq
            have HR := take_eq_nextI HT.out HK.out (by rw [hpq]; exact HK'.out)
            clear hpq
            go_wp2
            go_quiet (fail)
            go_wp2
            go_roundw
            case rel => exact ⟨k + 1, _, by omega, by go_num, HR, rfl⟩
            case measure => simp [intOf]; omega
          · have hd : (p != p') = true := by simpa using hpq
            have HR := Lib.hid (ne_atI HK.out HK'.out hpq)
            clear hpq
            go_wp2
            go_quiet (fail)
            go_wp2
            go_ret
            exact ⟨ret_bool (by simp [HR.out]), below_drewN (below_drewN hB _) _⟩
        · have HE : Hid (xs = ys) := by
            have := HT.out
            rwa [List.take_of_length_le (by rw [h.1]; omega), List.take_of_length_le (by rw [g.1]; omega)] at this
          clear h g
          go_wp2
          go_ret
          exact ⟨ret_bool (by simp [HE.out]), below_drewN hB _⟩
    · have HE : Hid (xs ≠ ys) := by rintro rfl; exact hl (h.1.symm.trans g.1)
      have e2 : ((n : Int) != (m : Int)) = true := by rw [bne_iff_ne]; omega
      go_enter Try.func10, Try.ntmps10
      go_wp2
      go_ret
      exact ⟨ret_bool (by simp [HE.out]), below2 w _ _⟩
  · have e1 : (W != V) = true := by simpa using hW
    have HX := Lib.hid hW
    clear hW
    go_enter Try.func10, Try.ntmps10
    go_wp2
    go_ret
    exact ⟨ret_bool (by simp [HX.out]), below2 w _ _⟩
theorem specEqR (W : Int) (A : Option Addr) (n cap : Nat) (xs : List Int) (V : Int) (B : Option Addr) (m cap' : Nat) (ys : List Int) (w : World) (hn : n ≤ 1048576) (_ : m ≤ 1048576) (h : IntsAt w A n xs) (g : IntsAt w B m ys) :
    Calls Try.prog 10 #[.agg #[.int .i64 W, .slice A n cap], .agg #[.int .i64 V, .slice B m cap']] w (EqPostR (W, xs) (V, ys) w) := specEqualRegions W V A B n m cap cap' xs ys w hn h g
theorem implEqR (W : Int) (A : Option Addr) (n cap : Nat) (xs : List Int) (V : Int) (B : Option Addr) (m cap' : Nat) (ys : List Int) (w : World) (hn : n ≤ 1048576) (_ : m ≤ 1048576) (h : IntsAt w A n xs) (g : IntsAt w B m ys) :
    Calls Try.prog 12 #[.agg #[.int .i64 W, .slice A n cap], .agg #[.int .i64 V, .slice B m cap']] w (EqPostR (W, xs) (V, ys) w) := implEqualRegions W V A B n m cap cap' xs ys w hn h g
end Go.Proofs.Ytpbkpebpidabiaa
