/- EqualShapes, the order of cells, and CompareShapes, the program's and the reference's: contracts. Condition: slices of at most 2^20 cells. -/
import Derived.Test.YthhaojbnnacdbaaLawC
namespace Go.Proofs.Ythhaojbnnacdbaa
open Go.RowKit

/-! ### The order of cells -/
def bef (a b : C) : Bool := decide (a.2 < b.2) || (decide (a.2 = b.2) && decide (a.1 < b.1))
theorem bef_iff (a b : C) : bef a b = true ↔ a.2 < b.2 ∨ (a.2 = b.2 ∧ a.1 < b.1) := by simp [bef]
theorem bef_mk (a b c d : Int) : bef (a, b) (c, d) = (decide (b < d) || (decide (b = d) && decide (a < c))) := rfl

set_option maxHeartbeats 400000 in
theorem implBefore (a b c d : Int) (w : World) :
    Calls Try.prog 78 #[.agg #[.int .i64 a, .int .i64 b], .agg #[.int .i64 c, .int .i64 d]] w fun e w' => e = .returned (.bool (bef (a, b) (c, d))) ∧ Below w.heap.size w w' := by
  have hB := ((Below.refl w.heap.size w).alloc (Nat.le_refl _) (.cells #[.int .i64 a, .int .i64 b] 58)).alloc (by simp) (.cells #[.int .i64 c, .int .i64 d] 58)
  rw [bef_mk]
  by_cases h1 : b < d
  · have hd : decide (b < d) = true := by simpa using h1
    go_enter Try.func78, Try.ntmps78
    go_wp2
    go_ret
    exact ⟨by simp [h1], hB⟩
  · have hd : decide (b < d) = false := by simpa using h1
    by_cases h2 : b = d
    · subst h2
      by_cases h3 : a < c
      all_goals
        go_enter Try.func78, Try.ntmps78
        go_wp2
        go_ret
        exact ⟨by simp [h3], hB⟩
    · have hd2 : (b == d) = false := by simpa using h2
      go_enter Try.func78, Try.ntmps78
      go_wp2
      go_ret
      exact ⟨by simp, hB⟩
theorem implBefore_eq {a b c d : Int} {t : Bool} (h : bef (a, b) (c, d) = t) (w : World) :
    Calls Try.prog 78 #[.agg #[.int .i64 a, .int .i64 b], .agg #[.int .i64 c, .int .i64 d]] w fun e w' => e = .returned (.bool t) ∧ Below w.heap.size w w' := h ▸ implBefore a b c d w
set_option maxHeartbeats 400000 in
theorem specBefore (a b c d : Int) (w : World) :
    Calls Try.prog 75 #[.agg #[.int .i64 a, .int .i64 b], .agg #[.int .i64 c, .int .i64 d]] w fun e w' => e = .returned (.bool (bef (a, b) (c, d))) ∧ Below w.heap.size w w' := by
  have hB := ((Below.refl w.heap.size w).alloc (Nat.le_refl _) (.cells #[.int .i64 a, .int .i64 b] 58)).alloc (by simp) (.cells #[.int .i64 c, .int .i64 d] 58)
  rw [bef_mk]
  by_cases h1 : b < d
  · have hd : decide (b < d) = true := by simpa using h1
    go_enter Try.func75, Try.ntmps75
    go_wp2
    go_ret
    exact ⟨by simp [h1], hB⟩
  · have hd : decide (b < d) = false := by simpa using h1
    by_cases h2 : b = d
    · subst h2
      by_cases h3 : a < c
      all_goals
        go_enter Try.func75, Try.ntmps75
        go_wp2
        go_ret
        exact ⟨by simp [h3], hB⟩
    · have hd2 : (b == d) = false := by simpa using h2
      go_enter Try.func75, Try.ntmps75
      go_wp2
      go_ret
      exact ⟨by simp, hB⟩
theorem specBefore_eq {a b c d : Int} {t : Bool} (h : bef (a, b) (c, d) = t) (w : World) :
    Calls Try.prog 75 #[.agg #[.int .i64 a, .int .i64 b], .agg #[.int .i64 c, .int .i64 d]] w fun e w' => e = .returned (.bool t) ∧ Below w.heap.size w w' := h ▸ specBefore a b c d w

set_option maxHeartbeats 400000 in
theorem implEqualShapes (A B : Option Addr) (n m cap cap' : Nat) (cs ds : List C) (w : World) (hn : n ≤ 1048576) (_ : m ≤ 1048576) (h : CellsAt w A n cs) (g : CellsAt w B m ds) :
    Calls Try.prog 79 #[.slice A n cap, .slice B m cap'] w (EqPost cs ds w) := by
  by_cases hl : n = m
  · subst hl
    go_enter Try.func79, Try.ntmps79
    go_wp2
    go_loopw [5, 13] (fun _ i wr => ∃ k : Nat, k ≤ n ∧ i = .int .i64 k ∧ Hid (cs.take k = ds.take k) ∧ Below w.heap.size w wr) (fun _ i _ => n - (intOf i).toNat)
    case atStart => exact ⟨0, Nat.zero_le _, rfl, rfl, Below.refl _ _⟩
    case round =>
      obtain ⟨k, hk, rfl, HT, hb⟩ := hrel
      by_cases hlt : k < n
      · obtain ⟨b, o, p, q, rfl, hbl, HK, c1, c2⟩ := (h.below hb).at_ hlt
        obtain ⟨b', o', p', q', rfl, hbl', HK', c1', c2'⟩ := (g.below hb).at_ hlt
        have e0 : (0 : Int) ≤ (k : Int) := by omega
        have e1 : (k : Int) < (n : Int) := by omega
        clear h g
        by_cases hp : p = p'
        · subst hp
          by_cases hq : q = q'
          · subst hq
            have HR := take_eq_next HT.out HK.out HK'.out
            go_wp2
            go_quiet (fail)
            go_wp2
            go_roundw
            case rel => exact ⟨k + 1, by omega, by go_num, HR, below_drewN hb _⟩
            case measure => simp [intOf]; omega
          · have HR := Lib.hid (ne_at HK.out HK'.out (fun e => hq (congrArg Prod.snd e)))
            go_wp2
            go_quiet (fail)
            go_wp2
            go_ret
            exact ⟨ret_bool (by simp [HR.out]), below_drewN hb _⟩
        · have HR := Lib.hid (ne_at HK.out HK'.out (fun e => hp (congrArg Prod.fst e)))
          go_wp2
          go_quiet (fail)
          go_wp2
          go_ret
          exact ⟨ret_bool (by simp [HR.out]), below_drewN hb _⟩
      · have HE : Hid (cs = ds) := by
          have := HT.out
          rwa [List.take_of_length_le (by rw [h.1]; omega), List.take_of_length_le (by rw [g.1]; omega)] at this
        clear h g
        go_wp2
        go_ret
        exact ⟨ret_bool (by simp [HE.out]), hb⟩
  · have HE : Hid (cs ≠ ds) := by rintro rfl; exact hl (h.1.symm.trans g.1)
    have hb : ((n : Int) != (m : Int)) = true := by rw [bne_iff_ne]; omega
    go_enter Try.func79, Try.ntmps79
    go_wp2
    go_ret
    exact ⟨ret_bool (by simp [HE.out]), Below.refl _ _⟩
set_option maxHeartbeats 400000 in
theorem specEqualShapes (A B : Option Addr) (n m cap cap' : Nat) (cs ds : List C) (w : World) (hn : n ≤ 1048576) (_ : m ≤ 1048576) (h : CellsAt w A n cs) (g : CellsAt w B m ds) :
    Calls Try.prog 55 #[.slice A n cap, .slice B m cap'] w (EqPost cs ds w) := by
  by_cases hl : n = m
  · subst hl
    go_enter Try.func55, Try.ntmps55
    go_wp2
    go_loopw [5] (fun i wr => ∃ k : Nat, k ≤ n ∧ i = .int .i64 k ∧ Hid (cs.take k = ds.take k) ∧ Below w.heap.size w wr) (fun i _ => n - (intOf i).toNat)
    case atStart => exact ⟨0, Nat.zero_le _, rfl, rfl, Below.refl _ _⟩
    case round =>
      obtain ⟨k, hk, rfl, HT, hb⟩ := hrel
      by_cases hlt : k < n
      · obtain ⟨b, o, p, q, rfl, hbl, HK, c1, c2⟩ := (h.below hb).at_ hlt
        obtain ⟨b', o', p', q', rfl, hbl', HK', c1', c2'⟩ := (g.below hb).at_ hlt
        have e0 : (0 : Int) ≤ (k : Int) := by omega
        have e1 : (k : Int) < (n : Int) := by omega
        clear h g
        by_cases hp : p = p'
        · subst hp
          by_cases hq : q = q'
          · subst hq
            have HR := take_eq_next HT.out HK.out HK'.out
            go_wp2
            go_quiet (fail)
            go_wp2
            go_roundw
            case rel => exact ⟨k + 1, by omega, by go_num, HR, below_drewN hb _⟩
            case measure => simp [intOf]; omega
          · have HR := Lib.hid (ne_at HK.out HK'.out (fun e => hq (congrArg Prod.snd e)))
            go_wp2
            go_quiet (fail)
            go_wp2
            go_ret
            exact ⟨ret_bool (by simp [HR.out]), below_drewN hb _⟩
        · have HR := Lib.hid (ne_at HK.out HK'.out (fun e => hp (congrArg Prod.fst e)))
          go_wp2
          go_quiet (fail)
          go_wp2
          go_ret
          exact ⟨ret_bool (by simp [HR.out]), below_drewN hb _⟩
      · have HE : Hid (cs = ds) := by
          have := HT.out
          rwa [List.take_of_length_le (by rw [h.1]; omega), List.take_of_length_le (by rw [g.1]; omega)] at this
        clear h g
        go_wp2
        go_ret
        exact ⟨ret_bool (by simp [HE.out]), hb⟩
  · have HE : Hid (cs ≠ ds) := by rintro rfl; exact hl (h.1.symm.trans g.1)
    have hb : ((n : Int) != (m : Int)) = true := by rw [bne_iff_ne]; omega
    go_enter Try.func55, Try.ntmps55
    go_wp2
    go_ret
    exact ⟨ret_bool (by simp [HE.out]), Below.refl _ _⟩
end Go.Proofs.Ythhaojbnnacdbaa
