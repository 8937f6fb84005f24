/- DecodeVarint, the program's and the reference's: both return the same two numbers, for every string of at most 2^20 bytes. -/
import Derived.Test.YtacegndmclnbnaaDoorVar
namespace Go.Proofs.YtacegndmclnbnaaDoor
open Go.RowKit

theorem shl7 {x k : Nat} (hx : x < 128) (hk : k < 7) : IntKind.i64.wrap ((x : Int) * 2 ^ (7 * (k : Int)).toNat) = ((x * 128 ^ k : Nat) : Int) := by
  have e : (7 * (k : Int)).toNat = 7 * k := by omega
  have e2 : ((2 : Int) ^ (7 * k)) = ((128 ^ k : Nat) : Int) := by rw [Int.pow_mul, Int.natCast_pow]; rfl
  rw [e, e2, ← Int.natCast_mul]
  have h1 : 128 ^ k ≤ 128 ^ 6 := Nat.pow_le_pow_right (by omega) (by omega)
  have h2 : x * 128 ^ k ≤ 128 * 128 ^ 6 := Nat.mul_le_mul (by omega) h1
  have h3 : 128 * 128 ^ 6 = 562949953421312 := by decide
  exact IntWalk.i64_in _ (by omega)
theorem decV_take {s : ByteArray} {k : Nat} (h : k < s.size) : decV (s.data.toList.take (k + 1)) = decV (s.data.toList.take k) + s[k].toNat % 128 * 128 ^ k := by
  rw [take_snoc s k h, decV_append]
  have : (s.data.toList.take k).length = k := by
    have h2 : k < s.data.size := h
    simp; omega
  rw [this]
  simp only [decV, Nat.mul_zero, Nat.add_zero]
  rw [Nat.mul_comm]
theorem resV_end {s : ByteArray} {f k : Nat} (h : ¬ k < s.size) : resVAux s.data.toList f k = (0, 0) := by
  cases f with
  | zero => rfl
  | succ f => unfold resVAux; rw [List.getElem?_eq_none (by simpa using h)]
theorem resV_step {s : ByteArray} {f k : Nat} (h : k < s.size) : resVAux s.data.toList (f + 1) k =
    if s[k].toNat < 128 then (if s[k].toNat = 0 ∧ 0 < k then (0, 0) else (decV (s.data.toList.take (k + 1)), k + 1)) else resVAux s.data.toList f (k + 1) := by
  conv => lhs; unfold resVAux
  rw [List.getElem?_eq_getElem (by simpa using h)]
  rfl
def retV (p : Nat × Nat) : Ending := .returned (.tuple #[.int .i64 (p.1 : Int), .int .i64 (p.2 : Int)])

set_option maxRecDepth 20000 in
set_option maxHeartbeats 400000 in
theorem implDecodeVarint (s : ByteArray) (W : World) (hs : s.size ≤ 1048576) :
    Calls Tryd.prog 21 #[.string s] W fun e w' => e = retV (resV s.data.toList) ∧ W = w' := by
  go_enter Tryd.func21, Tryd.ntmps21
  go_wp2
  go_loop [4, 5] (fun a i => ∃ k n : Nat, k ≤ 7 ∧ k ≤ s.size ∧ i = .int .i64 k ∧ a = .int .i64 n ∧ (n : Int) ≤ 562949953421311 ∧ Hid (n = decV (s.data.toList.take k)) ∧ Hid (resVAux s.data.toList (7 - k) k = resV s.data.toList)) (fun _ i => 7 - (intOf i).toNat)
  case atStart => exact ⟨0, 0, by omega, by omega, rfl, rfl, by omega, rfl, rfl⟩
  case round =>
    obtain ⟨k, n, hk, hks, rfl, rfl, hn, HN, HR⟩ := hrel
    have e0 : (0 : Int) ≤ (k : Int) := by omega
    by_cases h7 : k < 7
    · by_cases hlt : k < s.size
      · obtain ⟨x, hx⟩ : ∃ x, x = s[k].toNat % 128 := ⟨_, rfl⟩
        have hx2 : x < 128 := by omega
        have hr : IntKind.i64.wrap ((s[k].toNat : Int) % 128) = (x : Int) := by rw [hx]; exact IntWalk.i64_in _ (by omega)
        have hsh := shl7 (x := x) (k := k) (by omega) h7
        obtain ⟨y, hy⟩ : ∃ y, y = x * 128 ^ k := ⟨_, rfl⟩
        rw [← hy] at hsh
        have HS : Hid (n + y = decV (s.data.toList.take (k + 1))) := by rw [Hid, decV_take hlt, ← HN.out, hy, hx]
        have hle : ((n + y : Nat) : Int) ≤ 562949953421311 := by
          have := decV_le (l := s.data.toList.take (k + 1)) (by have := List.length_take_le (k + 1) s.data.toList; omega)
          rw [HS.out]; omega
        have HX := Lib.hid hx
        clear hx hy
        have HT := Lib.hid (resV_step (f := 7 - (k + 1)) hlt)
        rw [show 7 - (k + 1) + 1 = 7 - k by omega, HR.out] at HT
        go_wp2
        · have a1 : (s[k].toNat : Int) < 128 := by assumption
          have a2 : s[k].toNat = 0 := by assumption
          have a3 : 0 < k := by assumption
          go_ret2
          exact ⟨by rw [HT.out, if_pos (by omega), if_pos ⟨a2, a3⟩]; rfl, rfl⟩
        · have a1 : (s[k].toNat : Int) < 128 := by assumption
          have a3 : ¬ 0 < k := by assumption
          go_ret2
          exact ⟨by rw [HT.out, if_pos (by omega), if_neg (fun h => a3 h.2), ← HS.out]; rfl, rfl⟩
        · have a1 : (s[k].toNat : Int) < 128 := by assumption
          have a2 : ¬ s[k].toNat = 0 := by assumption
          go_ret2
          exact ⟨by rw [HT.out, if_pos (by omega), if_neg (fun h => a2 h.1), ← HS.out]; rfl, rfl⟩
        · have a1 : 128 ≤ (s[k].toNat : Int) := by assumption
          rw [if_neg (by omega)] at HT
          go_round
          case rel => exact ⟨k + 1, n + y, by omega, by omega, by go_num, by go_num, hle, HS, HT.out.symm⟩
          case measure => simp [intOf]; omega
      · go_wp2
        go_ret2
        exact ⟨by rw [← HR.out, resV_end hlt]; rfl, rfl⟩
    · go_wp2
      go_ret2
      exact ⟨by rw [← HR.out, show 7 - k = 0 by omega]; rfl, rfl⟩
end Go.Proofs.YtacegndmclnbnaaDoor
