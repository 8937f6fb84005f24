/- EncodeFixed, the program's and the reference's: both return the same bytes, for every two numbers. No condition. -/
import Derived.Test.YtacegndmclnbnaaDoorFix
namespace Go.Proofs.YtacegndmclnbnaaDoor
open Go.RowKit

theorem encF_no {n w : Int} (h : ¬ (1 ≤ w ∧ w ≤ 7 ∧ 0 ≤ n ∧ n < 256 ^ w.toNat)) : encF n w = [] := if_neg h
theorem encF_yes {n w : Nat} (h1 : 1 ≤ w) (h7 : w ≤ 7) (h : n < 256 ^ w) : encF n w = fixL w n := by
  unfold encF
  have h' : (n : Int) < ((256 ^ w : Nat) : Int) := by omega
  rw [Int.natCast_pow] at h'
  rw [if_pos ⟨by omega, by omega, by omega, h'⟩]
  rfl
theorem string_app (a b : List UInt8) : (⟨a.toArray⟩ : ByteArray) ++ ⟨b.toArray⟩ = ⟨(a ++ b).toArray⟩ := by
  apply ByteArray.ext; simp

theorem byte_of (n : Nat) : IntKind.u8.wrap ((n % 256 : Nat) : Int) = ((UInt8.ofNat (n % 256)).toNat : Int) := by
  have : (UInt8.ofNat (n % 256)).toNat = n % 256 := by simp
  rw [this]
  exact IntWalk.u8_in _ (by omega)

theorem fix_q {k q m : Nat} (h : q = m / 256 ^ k) : Hid (q / 256 = m / 256 ^ (k + 1)) := by
  show _ = _
  rw [h, Nat.div_div_eq_div_mul, Nat.pow_succ]
theorem fix_l {k q m : Nat} {l : List UInt8} (h : q = m / 256 ^ k) (hl : l = fixL k m) : Hid ([UInt8.ofNat (q % 256)] ++ l = fixL (k + 1) m) := by
  show _ = _
  have := fixL_parts 1 k m
  rw [Nat.add_comm 1 k] at this
  rw [this, ← h, hl]; simp [fixL]
theorem fix_big {k q m : Nat} (h : q = m / 256 ^ k) (hz : 0 < q) : ¬ (1 ≤ (k : Int) ∧ (k : Int) ≤ 7 ∧ 0 ≤ (m : Int) ∧ (m : Int) < 256 ^ (k : Int).toNat) := by
  rintro ⟨_, _, _, h4⟩
  rw [h] at hz
  have h5 : (m : Int) < ((256 ^ k : Nat) : Int) := by rw [Int.natCast_pow]; exact h4
  have := Nat.div_eq_of_lt (show m < 256 ^ k by omega)
  omega
theorem fix_small {k q m : Nat} (h : q = m / 256 ^ k) (hz : ¬ 0 < q) : m < 256 ^ k := by
  have h0 : m / 256 ^ k = 0 := by omega
  rcases (Nat.div_eq_zero_iff).1 h0 with h | h
  · exact absurd h (Nat.ne_of_gt (Nat.pow_pos (by omega)))
  · exact h

theorem conv1 (W : World) (q : Nat) : (convert 32 9 (.slice (some ⟨W.heap.size, 0, none⟩) 1 1)).run Tryd.prog (W.alloc (.cells #[.int .u8 ((q : Int) % 256)] 5)) =
    .ok (.string ⟨[UInt8.ofNat (q % 256)].toArray⟩) (W.alloc (.cells #[.int .u8 ((q : Int) % 256)] 5)) := by
  refine run_convert_bytes_back _ 32 9 5 _ 1 [UInt8.ofNat (q % 256)] Tryd.underlying32 Tryd.underlying5 Tryd.underlying9 fun j hj => ?_
  obtain rfl : j = 0 := by simpa using hj
  have h := World.news_of_block (heap_alloc_new W (.cells #[.int .u8 ((q : Int) % 256)] 5)) 0 (.int .u8 ((q : Int) % 256)) rfl
  rw [h]
  simp
theorem add_strs (W : World) (a b : List UInt8) (h : a.length + b.length ≤ 9223372036854775807) : (Op.stringOp .add ⟨a.toArray⟩ ⟨b.toArray⟩).run Tryd.prog W = .ok (.string ⟨(a ++ b).toArray⟩) W := by
  rw [← string_app]
  exact run_string_add_sum _ _ _ (by simpa [ByteArray.size] using h)

set_option maxHeartbeats 400000 in
theorem specEncodeFixed (n w : Int) (W : World) (_h : -9223372036854775808 ≤ n ∧ n ≤ 9223372036854775807) :
    Calls Tryd.prog 25 #[.int .i64 n, .int .i64 w] W fun e w' => e = .returned (.string ⟨(encF n w).toArray⟩) ∧ Below W.heap.size W w' := by
  by_cases hw : 1 ≤ w ∧ w ≤ 7
  · obtain ⟨ha, hb⟩ := hw
    by_cases hn : 0 ≤ n
    · obtain ⟨m, rfl⟩ := Int.eq_ofNat_of_zero_le hn
      obtain ⟨d, rfl⟩ := Int.eq_ofNat_of_zero_le (show 0 ≤ w by omega)
      go_enter Tryd.func25, Tryd.ntmps25
      go_wp2_with (go_at_call 38; refine (l1In_yes _ _ _ _ ?_ ?_).mono ?_; omega; omega; rintro e w' ⟨rfl, rfl⟩)
      go_loopw [0, 5, 6] (fun x o i wr => ∃ k q : Nat, k ≤ d ∧ q ≤ m ∧ i = .int .i64 k ∧ x = .int .i64 q ∧ Hid (q = m / 256 ^ k) ∧ (∃ l : List UInt8, l.length = k ∧ o = .string ⟨l.toArray⟩ ∧ Hid (l = fixL k m)) ∧ Below W.heap.size W wr) (fun _ _ i _ => d - (intOf i).toNat)
      case atStart => exact ⟨0, m, by omega, by omega, rfl, rfl, (by simp : m = m / 256 ^ 0), ⟨[], rfl, rfl, (rfl : [] = fixL 0 m)⟩, Below.refl _ _⟩
      case round =>
        obtain ⟨k, q, hk, hqm, rfl, rfl, hq, ⟨l, hl, rfl, hle⟩, hbl⟩ := hrel
        by_cases hlt : k < d
        · have hc1 := conv1 wr q
          have hc2 := fun W => add_strs W [UInt8.ofNat (q % 256)] l (by simp; omega)
          have HL := Lib.hid hl
          clear hl
          go_wp2
          go_roundw
          case rel =>
            refine ⟨k + 1, q / 256, by omega, by omega, by go_num, by go_num, fix_q hq.out, ⟨_, ?_, rfl, fix_l hq.out hle.out⟩, hbl.alloc hbl.size _⟩
            simp [HL.out]
          case measure => simp [intOf]; omega
        · obtain rfl : k = d := by omega
          by_cases hz : 0 < q
          · have he : Hid (encF m k = []) := encF_no (fix_big hq.out hz)
            go_wp2
            go_ret
            exact ⟨by rw [he.out]; rfl, hbl⟩
          · have he : Hid (encF m k = l) := by rw [hle.out]; exact encF_yes (by omega) (by omega) (fix_small hq.out hz)
            go_wp2
            go_ret
            exact ⟨by rw [he.out]; rfl, hbl⟩
    · have he : encF n w = [] := encF_no (by omega)
      rw [he]; clear he
      go_enter Tryd.func25, Tryd.ntmps25
      go_wp2_with (go_at_call 38; refine (l1In_yes _ _ _ _ ?_ ?_).mono ?_; omega; omega; rintro e w' ⟨rfl, rfl⟩)
      go_ret
      exact ⟨rfl, Below.refl _ _⟩
  · have he : encF n w = [] := encF_no (by omega)
    rw [he]; clear he
    go_enter Tryd.func25, Tryd.ntmps25
    go_wp2_with (go_at_call 38; refine (l1In_no _ _ _ _ ?_).mono ?_; exact hw; rintro e w' ⟨rfl, rfl⟩)
    go_ret
    exact ⟨rfl, Below.refl _ _⟩
end Go.Proofs.YtacegndmclnbnaaDoor
