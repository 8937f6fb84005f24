/- Motions: carry and l3Apply, ComposeMotions, InverseMotion, the program's and the reference's: contracts. Condition: cells of small coordinates. -/
import Derived.Test.YthhaojbnnacdbaaShape
namespace Go.Proofs.Ythhaojbnnacdbaa
open Go.RowKit

def turn1 (c : C) : C := (-c.2, c.1)
def turnN : Nat → C → C
  | 0, c => c
  | k + 1, c => turn1 (turnN k c)
def flipC (c : C) (m : Nat) : C := if 4 ≤ m then (-c.1, c.2) else c
def carryC (c : C) (m : Nat) : C := turnN (m % 4) (flipC c m)
def smallC (c : C) : Prop := -100 ≤ c.1 ∧ c.1 ≤ 100 ∧ -100 ≤ c.2 ∧ c.2 ≤ 100
theorem small_turnN {c : C} (h : smallC c) : ∀ k, smallC (turnN k c)
  | 0 => h
  | k + 1 => by
    obtain ⟨a, b, d, e⟩ := small_turnN h k
    exact ⟨by show -100 ≤ -(turnN k c).2; omega, by show -(turnN k c).2 ≤ 100; omega, a, b⟩
theorem small_flip {c : C} {m : Nat} (h : smallC c) : smallC (flipC c m) := by
  unfold flipC; split
  · obtain ⟨a, b, d, e⟩ := h
    exact ⟨by show -100 ≤ -c.1; omega, by show -c.1 ≤ 100; omega, d, e⟩
  · exact h
theorem small_carry {c : C} {m : Nat} (h : smallC c) : smallC (carryC c m) := small_turnN (small_flip h) _

def aggC (c : C) : Value := .agg #[.int .i64 c.1, .int .i64 c.2]
def boxC (c : C) : Obj := .cells #[.int .i64 c.1, .int .i64 c.2] 58
def AggPost (c : C) (w : World) (e : Ending) (w' : World) : Prop := e = .returned (.agg #[.int .i64 c.1, .int .i64 c.2]) ∧ Below w.heap.size w w'

theorem below2' (w : World) (o p : Obj) : Below w.heap.size w ((w.alloc o).alloc p) := (below_alloc w o).alloc (by simp) _

set_option maxHeartbeats 800000 in
theorem implCarry (x y : Int) (m : Nat) (w : World) (hm : m ≤ 7) (hs : smallC (x, y)) :
    Calls Try.prog 97 #[.agg #[.int .i64 x, .int .i64 y], .int .i64 m] w (AggPost (carryC (x, y) m) w) := by
  obtain ⟨r, hr⟩ : ∃ r, r = m % 4 := ⟨_, rfl⟩
  have hr4 : r < 4 := by omega
  have hrm : (m : Int) % 4 = (r : Int) := by omega
  obtain ⟨p, q, hpq⟩ : ∃ p q, flipC (x, y) m = (p, q) := ⟨_, _, rfl⟩
  have HF : Hid (carryC (x, y) m = turnN r (p, q)) := by show _ = _; rw [carryC, hpq, hr]
  have hsm := small_flip (m := m) hs
  rw [hpq] at hsm
  have HSM := Lib.hid hsm
  obtain ⟨s1, s2, s3, s4⟩ := hs
  simp only at s1 s2 s3 s4
  clear hr hsm
  by_cases h4 : 4 ≤ m
  · have d4 : decide ((4 : Int) ≤ (m : Int)) = true := by simp; omega
    have hfl : p = -x ∧ q = y := by
      rw [flipC, if_pos h4] at hpq
      injection hpq with h1 h2
      exact ⟨h1.symm, h2.symm⟩
    obtain ⟨rfl, rfl⟩ := hfl
    clear hpq
    go_enter Try.func97, Try.ntmps97
    go_wp2
    go_loopw [13] (fun i wr => ∃ (k : Nat) (a b : Int), k ≤ r ∧ i = .int .i64 k ∧ Hid ((a, b) = turnN k (-x, q)) ∧ (-100 ≤ a ∧ a ≤ 100 ∧ -100 ≤ b ∧ b ≤ 100) ∧ wr = (w.alloc (.cells #[.int .i64 a, .int .i64 b] 58)).alloc (.cells #[.int .i64 0, .int .i64 0] 58)) (fun i _ => 4 - (intOf i).toNat)
    case atStart => exact ⟨0, -x, q, by omega, rfl, rfl, HSM.out, rfl⟩
    case round =>
      obtain ⟨k, a, b, hk, rfl, HT, ⟨b1, b2, b3, b4⟩, rfl⟩ := hrel
      by_cases hlt : k < r
      · go_wp2
        go_roundw
        case rel => exact ⟨k + 1, -b, a, by omega, by go_num, by show (-b, a) = turn1 (turnN k (-x, q)); rw [← HT.out]; rfl, by omega, rfl⟩
        case measure => simp [intOf]; omega
      · obtain rfl : k = r := by omega
        go_wp2
        exact bodyPost_ret (v := .agg #[.int .i64 a, .int .i64 b]) (by simp [results, Try.results97, go_sem]) rfl ⟨by rw [HF.out, ← HT.out], below2' _ _ _⟩
  · have d4 : decide ((4 : Int) ≤ (m : Int)) = false := by simp; omega
    have hfl : p = x ∧ q = y := by
      rw [flipC, if_neg h4] at hpq
      injection hpq with h1 h2
      exact ⟨h1.symm, h2.symm⟩
    obtain ⟨rfl, rfl⟩ := hfl
    clear hpq
    go_enter Try.func97, Try.ntmps97
    go_wp2
    go_loopw [13] (fun i wr => ∃ (k : Nat) (a b : Int), k ≤ r ∧ i = .int .i64 k ∧ Hid ((a, b) = turnN k (p, q)) ∧ (-100 ≤ a ∧ a ≤ 100 ∧ -100 ≤ b ∧ b ≤ 100) ∧ wr = (w.alloc (.cells #[.int .i64 a, .int .i64 b] 58)).alloc (.cells #[.int .i64 0, .int .i64 0] 58)) (fun i _ => 4 - (intOf i).toNat)
    case atStart => exact ⟨0, p, q, by omega, rfl, rfl, HSM.out, rfl⟩
    case round =>
      obtain ⟨k, a, b, hk, rfl, HT, ⟨b1, b2, b3, b4⟩, rfl⟩ := hrel
      by_cases hlt : k < r
      · go_wp2
        go_roundw
        case rel => exact ⟨k + 1, -b, a, by omega, by go_num, by show (-b, a) = turn1 (turnN k (p, q)); rw [← HT.out]; rfl, by omega, rfl⟩
        case measure => simp [intOf]; omega
      · obtain rfl : k = r := by omega
        go_wp2
        exact bodyPost_ret (v := .agg #[.int .i64 a, .int .i64 b]) (by simp [results, Try.results97, go_sem]) rfl ⟨by rw [HF.out, ← HT.out], below2' _ _ _⟩

set_option maxHeartbeats 800000 in
theorem specCarry (x y : Int) (m : Nat) (w : World) (hm : m ≤ 7) (hs : smallC (x, y)) :
    Calls Try.prog 98 #[.agg #[.int .i64 x, .int .i64 y], .int .i64 m] w (AggPost (carryC (x, y) m) w) := by
  obtain ⟨r, hr⟩ : ∃ r, r = m % 4 := ⟨_, rfl⟩
  have hr4 : r < 4 := by omega
  have hrm : (m : Int) % 4 = (r : Int) := by omega
  obtain ⟨p, q, hpq⟩ : ∃ p q, flipC (x, y) m = (p, q) := ⟨_, _, rfl⟩
  have HF : Hid (carryC (x, y) m = turnN r (p, q)) := by show _ = _; rw [carryC, hpq, hr]
  have hsm := small_flip (m := m) hs
  rw [hpq] at hsm
  have HSM := Lib.hid hsm
  obtain ⟨s1, s2, s3, s4⟩ := hs
  simp only at s1 s2 s3 s4
  clear hr hsm
  by_cases h4 : 4 ≤ m
  · have d4 : decide ((4 : Int) ≤ (m : Int)) = true := by simp; omega
    have hfl : p = -x ∧ q = y := by
      rw [flipC, if_pos h4] at hpq
      injection hpq with h1 h2
      exact ⟨h1.symm, h2.symm⟩
    obtain ⟨rfl, rfl⟩ := hfl
    clear hpq
    go_enter Try.func98, Try.ntmps98
    go_wp2
    go_loopw [5] (fun i wr => ∃ (k : Nat) (a b : Int), k ≤ r ∧ i = .int .i64 k ∧ Hid ((a, b) = turnN k (-x, q)) ∧ (-100 ≤ a ∧ a ≤ 100 ∧ -100 ≤ b ∧ b ≤ 100) ∧ wr = (w.alloc (.cells #[.int .i64 a, .int .i64 b] 58)).alloc (.cells #[.int .i64 0, .int .i64 0] 58)) (fun i _ => 4 - (intOf i).toNat)
    case atStart => exact ⟨0, -x, q, by omega, rfl, rfl, HSM.out, rfl⟩
    case round =>
      obtain ⟨k, a, b, hk, rfl, HT, ⟨b1, b2, b3, b4⟩, rfl⟩ := hrel
      by_cases hlt : k < r
      · go_wp2
        go_roundw
        case rel => exact ⟨k + 1, -b, a, by omega, by go_num, by show (-b, a) = turn1 (turnN k (-x, q)); rw [← HT.out]; rfl, by omega, rfl⟩
        case measure => simp [intOf]; omega
      · obtain rfl : k = r := by omega
        go_wp2
        exact bodyPost_ret (v := .agg #[.int .i64 a, .int .i64 b]) (by simp [results, Try.results98, go_sem]) rfl ⟨by rw [HF.out, ← HT.out], below2' _ _ _⟩
  · have d4 : decide ((4 : Int) ≤ (m : Int)) = false := by simp; omega
    have hfl : p = x ∧ q = y := by
      rw [flipC, if_neg h4] at hpq
      injection hpq with h1 h2
      exact ⟨h1.symm, h2.symm⟩
    obtain ⟨rfl, rfl⟩ := hfl
    clear hpq
    go_enter Try.func98, Try.ntmps98
    go_wp2
    go_loopw [5] (fun i wr => ∃ (k : Nat) (a b : Int), k ≤ r ∧ i = .int .i64 k ∧ Hid ((a, b) = turnN k (p, q)) ∧ (-100 ≤ a ∧ a ≤ 100 ∧ -100 ≤ b ∧ b ≤ 100) ∧ wr = (w.alloc (.cells #[.int .i64 a, .int .i64 b] 58)).alloc (.cells #[.int .i64 0, .int .i64 0] 58)) (fun i _ => 4 - (intOf i).toNat)
    case atStart => exact ⟨0, p, q, by omega, rfl, rfl, HSM.out, rfl⟩
    case round =>
      obtain ⟨k, a, b, hk, rfl, HT, ⟨b1, b2, b3, b4⟩, rfl⟩ := hrel
      by_cases hlt : k < r
      · go_wp2
        go_roundw
        case rel => exact ⟨k + 1, -b, a, by omega, by go_num, by show (-b, a) = turn1 (turnN k (p, q)); rw [← HT.out]; rfl, by omega, rfl⟩
        case measure => simp [intOf]; omega
      · obtain rfl : k = r := by omega
        go_wp2
        exact bodyPost_ret (v := .agg #[.int .i64 a, .int .i64 b]) (by simp [results, Try.results98, go_sem]) rfl ⟨by rw [HF.out, ← HT.out], below2' _ _ _⟩

end Go.Proofs.Ythhaojbnnacdbaa
