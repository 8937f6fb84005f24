/- The reference's EncodeHex returns the same digits, for every string of at most 2^20 bytes. -/
import Derived.Test.YthibmbaobnpidaaHex
namespace Go.Proofs.Ythibmbaobnpidaa
open Go.RowKit

theorem wrap_u8 (x : UInt8) : IntKind.i64.wrap (x.toNat : Int) = (x.toNat : Int) := IntWalk.i64_in _ (by have := x.toNat_lt; omega)
theorem wrap_u8_div (x : UInt8) : IntKind.i64.wrap ((x.toNat : Int) / 16) = (x.toNat : Int) / 16 := IntWalk.i64_in _ (by have := x.toNat_lt; omega)
theorem tmod_u8 (x : UInt8) (n : Int) : (x.toNat : Int).tmod n = (x.toNat : Int) % n := Int.tmod_eq_emod_of_nonneg (by omega)

set_option maxHeartbeats 400000 in
theorem specEncodeHex (s : ByteArray) (w : World) (hs : s.size ≤ 1048576) :
    Calls Try.prog 10 #[.string s] w fun e w' => e = .returned (.string ⟨(hexL s.data.toList).toArray⟩) ∧ Below w.heap.size w w' := by
  obtain ⟨i0, hi, hz0, hz1, hz2⟩ := info_parts Try.info5
  go_enter Try.func10, Try.ntmps10
  go_wp2
  go_loopw [3, 4] (fun v i wr => ∃ k : Nat, k ≤ s.size ∧ i = .int .i64 k ∧ wr.ownsRow w.heap.size 5 1 v (2 * k) (bcells (hexL (s.data.toList.take k))) ∧ Below w.heap.size w wr) (fun _ i _ => s.size - (intOf i).toNat)
  case atStart => exact ⟨0, Nat.zero_le _, rfl, World.ownsRow_made _ _ _ (Nat.le_refl _) (by decide) rfl, (Below.refl _ _).alloc (Nat.le_refl _) _⟩
  case round =>
    obtain ⟨k, hk, rfl, hown, hb⟩ := hrel
    by_cases hlt : k < s.size
    · have b0 : (0 : Int) ≤ (k : Int) := Int.natCast_nonneg _
      have b1 : (k : Int) < (s.size : Int) := by omega
      have hsz := hb.size
      have hx := s[k].toNat_lt
      have d1 := wrap_u8 s[k]
      have d2 := wrap_u8_div s[k]
      have d3 := tmod_u8 s[k] 16
      go_wp2
      go_region_held3 (fun _ => True) (exact trivial) (first | (go_at_call 22; refine (l1Digit_any _ _ ?_ ?_).mono ?_; omega; omega; rintro e w' ⟨rfl, rfl⟩) | (refine step_append_lies _ (by rfl) _ _ _ (by rfl) w.heap.size 5 i0 (.int .u8 0) 1 1 Try.underlying36 hi hz0 hz1 hz2 rfl (by decide) _ _ _ (by rfl) ((hown.alloc _).drew) ⟨wr.heap.size, 0, none⟩ 2 2 (bcells [hexd (s[k].toNat / 16), hexd (s[k].toNat % 16)]) (by rfl) (by rfl) (World.news_of_block (cs := (bcells [hexd (s[k].toNat / 16), hexd (s[k].toNat % 16)]).toArray) (t := 5) (fr := (0, 0)) (heap_alloc_new wr _)) (by simp [bcells, Value.oneCell']) (by omega) (by unfold maxLen; omega) (by omega) (by simp; omega) (wr.heap.size + 1) (by simp) ?_; intro g cap w1 hown1 hgrow hat hlt1))
      go_goals
      all_goals
        have R1 := below_append hb hown hsz hgrow
        have R2 : w1.ownsRow w.heap.size 5 1 (.slice (some ⟨g, 0, none⟩) (2 * k + 2) cap) (2 * (k + 1)) (bcells (hexL (s.data.toList.take (k + 1)))) := by
          rw [hexL_take s k hlt, bcells_append]; exact hown1
        clear hown1 hgrow hat hlt1 hown d1 d2 d3
        go_wp2
        go_roundw
        case rel => exact ⟨k + 1, by omega, by go_num, R2, R1⟩
        case measure => simp [intOf]; omega
    · obtain rfl : k = s.size := by omega
      have hc := string_of_own (P := Try.prog) hown Try.underlying36 Try.underlying5 Try.underlying9
      rw [List.take_of_length_le (by simp)] at hc
      clear hown
      go_wp2
      go_ret
      exact ⟨rfl, hb⟩
end Go.Proofs.Ythibmbaobnpidaa
