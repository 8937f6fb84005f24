/- EncodeFixed and DecodeFixed, the program's and the reference's: contracts of all four. Condition: a string of at most 2^20 bytes. -/
import Derived.Test.YtacegndmclnbnaaDoorHex
namespace Go.Proofs.YtacegndmclnbnaaDoor
open Go.RowKit

/-! ### The plain functions -/
def decF (l : List UInt8) : Nat := l.foldl (fun a b => a * 256 + b.toNat) 0
theorem decF_snoc (l : List UInt8) (b : UInt8) : decF (l ++ [b]) = decF l * 256 + b.toNat := by simp [decF]
theorem decF_fold (l : List UInt8) : ∀ a : Nat, l.foldl (fun a b => a * 256 + b.toNat) a < (a + 1) * 256 ^ l.length := by
  induction l with
  | nil => intro a; simp
  | cons b r ih =>
    intro a
    have hb := b.toNat_lt
    have h := ih (a * 256 + b.toNat)
    have h2 : (a * 256 + b.toNat + 1) * 256 ^ r.length ≤ ((a + 1) * 256) * 256 ^ r.length := Nat.mul_le_mul_right _ (by omega)
    rw [List.length_cons, Nat.pow_succ, Nat.mul_comm (256 ^ r.length) 256, ← Nat.mul_assoc]
    exact Nat.lt_of_lt_of_le h h2
theorem decF_lt (l : List UInt8) : decF l < 256 ^ l.length := by
  have := decF_fold l 0
  simpa [decF] using this
theorem pow256_le {k : Nat} (h : k ≤ 7) : 256 ^ k ≤ 72057594037927936 := Nat.le_trans (Nat.pow_le_pow_right (by omega) h) (by decide)
theorem decF_take_lt (l : List UInt8) {k : Nat} (h : k ≤ 6) : decF (l.take k) < 281474976710656 :=
  Nat.lt_of_lt_of_le (decF_lt _) (Nat.le_trans (Nat.pow_le_pow_right (by omega) (Nat.le_trans (List.length_take_le _ _) h)) (by decide))

/-- n's last w bytes, most significant first -/
def fixL : Nat → Nat → List UInt8
  | 0, _ => []
  | w + 1, n => fixL w (n / 256) ++ [UInt8.ofNat (n % 256)]
theorem fixL_length (w n : Nat) : (fixL w n).length = w := by
  induction w generalizing n with
  | zero => rfl
  | succ w ih => simp [fixL, ih]
def encF (n w : Int) : List UInt8 := if 1 ≤ w ∧ w ≤ 7 ∧ 0 ≤ n ∧ n < 256 ^ w.toNat then fixL w.toNat n.toNat else []
theorem fixL_parts (a b n : Nat) : fixL (a + b) n = fixL a (n / 256 ^ b) ++ fixL b n := by
  induction b generalizing n with
  | zero => simp [fixL]
  | succ b ih =>
    show fixL (a + b) (n / 256) ++ [_] = _
    rw [ih, List.append_assoc, Nat.div_div_eq_div_mul, Nat.pow_succ, Nat.mul_comm 256]
    rfl
theorem fixL_next (t r n : Nat) : fixL (t + 1) (n / 256 ^ r) = fixL t (n / 256 ^ (r + 1)) ++ [UInt8.ofNat (n / 256 ^ r % 256)] := by
  show fixL t (n / 256 ^ r / 256) ++ [_] = _
  rw [Nat.div_div_eq_div_mul, Nat.pow_succ]

theorem or_low (a b : Nat) (h : b < 256) : (a * 256 ||| b) = a * 256 + b := by
  have := Nat.shiftLeft_add_eq_or_of_lt (i := 8) (b := b) (by omega) a
  rw [Nat.shiftLeft_eq] at this
  exact this.symm
theorem ofInt_i64 (a : Nat) (ha : a < 9223372036854775808) : (BitVec.ofInt 64 (a : Int)).toNat = a := by
  rw [BitVec.ofInt_natCast, BitVec.toNat_ofNat]; exact Nat.mod_eq_of_lt (by omega)
theorem i64_or_nat (a b : Nat) (ha : a < 9223372036854775808) (hb : b < 9223372036854775808) : bits .or .i64 (a : Int) (b : Int) = ((a ||| b : Nat) : Int) := by
  have hx : a ||| b < 2 ^ 63 := Nat.or_lt_two_pow (by omega) (by omega)
  show IntKind.i64.wrap ((BitVec.ofInt 64 (a : Int) ||| BitVec.ofInt 64 (b : Int)).toNat : Int) = _
  rw [BitVec.toNat_or, ofInt_i64 a ha, ofInt_i64 b hb, IntKind.wrap_i64]
  omega
theorem or_byte (a : Nat) (b : UInt8) (h : a < 281474976710656) : bits .or .i64 ((a : Int) * 256) (b.toNat : Int) = ((a * 256 + b.toNat : Nat) : Int) := by
  have hb := b.toNat_lt
  rw [← or_low a b.toNat (by omega), ← i64_or_nat _ _ (by omega) (by omega)]
  rfl

/-! ### The contracts -/
theorem l1In_any (x lo hi : Int) (w : World) :
    Calls Tryd.prog 38 #[.int .i64 x, .int .i64 lo, .int .i64 hi] w fun e w' => e = .returned (.bool (decide (lo ≤ x) && decide (x ≤ hi))) ∧ w = w' := by
  by_cases h1 : lo ≤ x <;> by_cases h2 : x ≤ hi
  all_goals
    go_enter Tryd.func38, Tryd.ntmps38
    go_wp2
    go_ret
    exact ⟨by simp [h1, h2], rfl⟩

theorem l1In_yes (x lo hi : Int) (w : World) (h1 : lo ≤ x) (h2 : x ≤ hi) :
    Calls Tryd.prog 38 #[.int .i64 x, .int .i64 lo, .int .i64 hi] w fun e w' => e = .returned (.bool true) ∧ w = w' := by
  refine (l1In_any x lo hi w).mono ?_
  rintro e w' ⟨rfl, rfl⟩
  exact ⟨by simp [h1, h2], rfl⟩
theorem l1In_no (x lo hi : Int) (w : World) (h : ¬ (lo ≤ x ∧ x ≤ hi)) :
    Calls Tryd.prog 38 #[.int .i64 x, .int .i64 lo, .int .i64 hi] w fun e w' => e = .returned (.bool false) ∧ w = w' := by
  refine (l1In_any x lo hi w).mono ?_
  rintro e w' ⟨rfl, rfl⟩
  refine ⟨?_, rfl⟩
  by_cases h1 : lo ≤ x <;> by_cases h2 : x ≤ hi <;> simp [h1, h2] <;> exact absurd ⟨h1, h2⟩ h

def okF (s : ByteArray) (n : Int) : Bool := decide (1 ≤ n) && decide (n ≤ 7) && decide (n ≤ s.size)
def resF (s : ByteArray) (n : Int) : Value := if okF s n = true then .tuple #[.int .i64 (decF (s.data.toList.take n.toNat) : Int), .bool true] else .tuple #[.int .i64 0, .bool false]


set_option maxHeartbeats 400000 in
theorem implDecodeFixed (s : ByteArray) (n : Int) (w : World) (hs : s.size ≤ 1048576) :
    Calls Tryd.prog 24 #[.string s, .int .i64 n] w fun e w' => e = .returned (resF s n) ∧ w = w' := by
  by_cases ha : 1 ≤ n
  · by_cases hb : n ≤ 7
    · by_cases h2 : n ≤ s.size
      · have hok : okF s n = true := by simp [okF, ha, hb, h2]
        rw [resF, if_pos hok]
        clear hok
        go_enter Tryd.func24, Tryd.ntmps24
        go_wp2
        go_loop [6, 21] (fun a i => ∃ k : Nat, (k : Int) ≤ n ∧ i = .int .i64 k ∧ a = .int .i64 (decF (s.data.toList.take k) : Int)) (fun _ i => n.toNat - (intOf i).toNat)
        case atStart => exact ⟨0, by omega, rfl, rfl⟩
        case round =>
          obtain ⟨k, hk, rfl, rfl⟩ := hrel
          by_cases hlt : (k : Int) < n
          · have hks : k < s.size := by omega
            have hd := decF_take_lt s.data.toList (k := k) (by omega)
            have hx := s[k].toNat_lt
            have hor := or_byte (decF (s.data.toList.take k)) s[k] hd
            have HS : Hid (decF (s.data.toList.take (k + 1)) = decF (s.data.toList.take k) * 256 + s[k].toNat) := by
              rw [take_snoc s k hks, decF_snoc]; rfl
            go_wp2
            go_round
            case rel => exact ⟨k + 1, by omega, by go_num, by rw [HS.out]; go_num⟩
            case measure => simp [intOf]; omega
          · obtain rfl : n = k := by omega
            go_wp2
            go_ret2
            exact ⟨by simp, rfl⟩
      · have hok : okF s n = false := by simp [okF, h2]
        rw [resF, if_neg (by simp [hok])]
        clear hok
        go_enter Tryd.func24, Tryd.ntmps24
        go_wp2
        go_ret2
        exact ⟨rfl, rfl⟩
    · have hok : okF s n = false := by simp [okF, hb]
      rw [resF, if_neg (by simp [hok])]
      clear hok
      go_enter Tryd.func24, Tryd.ntmps24
      go_wp2
      go_ret2
      exact ⟨rfl, rfl⟩
  · have hok : okF s n = false := by simp [okF, ha]
    rw [resF, if_neg (by simp [hok])]
    clear hok
    go_enter Tryd.func24, Tryd.ntmps24
    go_wp2
    go_ret2
    exact ⟨rfl, rfl⟩
end Go.Proofs.YtacegndmclnbnaaDoor
