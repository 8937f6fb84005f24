/- DecodeVarint of the reference returns the program's two numbers, for every string of at most 2^20 bytes. -/
import Derived.Test.YthibmbaobnpidaaVarD
import Derived.Lib.Strings
import Derived.Deep.RegionHeld3
namespace Go.Proofs.Ythibmbaobnpidaa
open Go.RowKit

theorem extract_zero (s : ByteArray) (k : Nat) : (s.extract 0 k).toList = s.data.toList.take k := by
  rw [ByteArray.toList_eq, Lib.extract_data]; simp
theorem specV_end {s : ByteArray} {f k : Nat} (h : ¬ k < s.size) : specVAux s.data.toList f k = (0, 0) := by
  cases f with
  | zero => rfl
  | succ f =>
    unfold specVAux
    rw [if_neg (show ¬ k < s.data.toList.length by simpa using h)]
theorem specV_step {s : ByteArray} {f k : Nat} (h : k < s.size) : specVAux s.data.toList (f + 1) k =
    if canonB (s.data.toList.take (k + 1)) = true then (decV (s.data.toList.take (k + 1)), k + 1) else specVAux s.data.toList f (k + 1) := by
  conv => lhs; unfold specVAux
  rw [if_pos (show k < s.data.toList.length by simpa using h)]
theorem decV_win {s : ByteArray} {k r : Nat} (hk : k ≤ s.size) (h : r < k) : decV ((s.data.toList.take k).drop r) = decV ((s.data.toList.take k).drop (r + 1)) * 128 + s[r].toNat % 128 := by
  have hl : r < (s.data.toList.take k).length := by have : s.data.toList.length = s.size := by simp
                                                    rw [List.length_take]; omega
  rw [List.drop_eq_getElem_cons hl]
  simp only [decV, List.getElem_take]
  have hd : r < s.data.toList.length := by have : s.data.toList.length = s.size := by simp
                                           omega
  have : s.data.toList[r]'hd = s[r] := rfl
  rw [this]; omega
theorem decV_drop_le (l : List UInt8) (k r : Nat) (h : k ≤ 7) : decV ((l.take k).drop r) ≤ 562949953421311 :=
  decV_le (by rw [List.length_drop]; have := List.length_take_le k l; omega)

set_option maxRecDepth 20000 in
set_option maxHeartbeats 800000 in
theorem specDecodeVarint (s : ByteArray) (W : World) (hs : s.size ≤ 1048576) :
    Calls Try.prog 18 #[.string s] W fun e w' => e = retV (resV s.data.toList) ∧ Below W.heap.size W w' := by
  go_enter Try.func18, Try.ntmps18
  go_wp2
  go_loopw [4, 5, 6] (fun a _ _ wr => ∃ k : Nat, k ≤ 7 ∧ k ≤ s.size ∧ a = .int .i64 ((k : Int) + 1) ∧ Hid (specVAux s.data.toList (7 - k) k = resV s.data.toList) ∧ Below W.heap.size W wr) (fun a _ _ _ => 8 - (intOf a).toNat)
  case atStart => exact ⟨0, by omega, by omega, rfl, specV_eq _ _ _ (fun i h => by omega), Below.refl _ _⟩
  case round =>
    obtain ⟨k, hk, hks, rfl, HR, hb⟩ := hrel
    by_cases h7 : k < 7
    · by_cases hlt : k < s.size
      · have hd1 : decide ((k : Int) + 1 ≤ 7) = true := by simp; omega
        have hd2 : decide ((k : Int) + 1 ≤ (s.size : Int)) = true := by simp; omega
        obtain ⟨wo, rfl⟩ : ∃ wo : World, wo = wr := ⟨_, rfl⟩
        go_wp2
        go_loop [5, 6] (fun a i => ∃ n r : Nat, r ≤ k + 1 ∧ a = .int .i64 n ∧ (n : Int) ≤ 562949953421311 ∧ i = .int .i64 ((r : Int) - 1) ∧ Hid (n = decV ((s.data.toList.take (k + 1)).drop r))) (fun _ i => (intOf i + 1).toNat)
        case atStart => exact ⟨0, k + 1, by omega, rfl, by omega, by go_num, by rw [Hid, List.drop_eq_nil_of_le (List.length_take_le _ _)]; rfl⟩
        case round =>
          obtain ⟨n, r, hr, rfl, hn, rfl, HN⟩ := hrel
          by_cases hr0 : r = 0
          · subst hr0
            have HN : Hid (n = decV (s.data.toList.take (k + 1))) := HN.out
            have c1 : (0 : Int) ≤ (k : Int) + 1 := by omega
            have c2 : (k : Int) + 1 ≤ (s.size : Int) := by omega
            have hsz := hb.size
            have HE : Hid (encV (n : Int) = s.data.toList.take (k + 1) ↔ canonB (s.data.toList.take (k + 1)) = true) := by
              have := encV_decV (l := s.data.toList.take (k + 1)) (by have := List.length_take_le (k + 1) s.data.toList; omega)
              rw [Hid, HN.out]; exact this
            have HT := Lib.hid (specV_step (f := 7 - (k + 1)) hlt)
            rw [show 7 - (k + 1) + 1 = 7 - k by omega, HR.out] at HT
            by_cases hc : canonB (s.data.toList.take (k + 1)) = true
            · have heq : (encV (n : Int) == (s.extract 0 (k + 1)).toList) = true := by rw [extract_zero]; simp [HE.out.2 hc]
              go_wp2
              go_region_held3 (fun _ => True) (exact trivial) ((go_at_call 14; refine (specEncodeVarint _ _).mono ?_; rintro e w' ⟨rfl, hb'⟩))
              all_goals
                have R := hb.drew.trans (hb'.mono hsz)
                go_wp2
                go_ret2
                exact ⟨by rw [HT.out, if_pos hc, ← HN.out]; rfl, R⟩
            · have heq : (encV (n : Int) == (s.extract 0 (k + 1)).toList) = false := by
                rw [extract_zero]
                have := fun h => hc (HE.out.1 h)
                simpa using this
              go_wp2
              go_region_held3 (fun _ => True) (exact trivial) ((go_at_call 14; refine (specEncodeVarint _ _).mono ?_; rintro e w' ⟨rfl, hb'⟩))
              all_goals
                have R := hb.drew.trans (hb'.mono hsz)
                go_wp2
                go_roundw
                case rel => exact ⟨k + 1, by omega, by omega, by go_num, by rw [Hid, HT.out, if_neg hc], R⟩
                case measure => simp [intOf]; omega
          · obtain ⟨r, rfl⟩ : ∃ q, r = q + 1 := ⟨r - 1, by omega⟩
            have hrs : r < s.size := by omega
            have HS : Hid (n * 128 + s[r].toNat % 128 = decV ((s.data.toList.take (k + 1)).drop r)) := by
              rw [Hid, decV_win (by omega) (by omega), ← HN.out]
            have hle : ((n * 128 + s[r].toNat % 128 : Nat) : Int) ≤ 562949953421311 := by
              have := decV_drop_le s.data.toList (k + 1) r (by omega)
              rw [HS.out]; omega
            have hx := s[r].toNat_lt
            go_wp2
            go_round
            case rel => exact ⟨n * 128 + s[r].toNat % 128, r, by omega, by go_num, hle, by go_num, HS⟩
            case measure => simp [intOf]
      · have hd1 : decide ((k : Int) + 1 ≤ 7) = true := by simp; omega
        have hd2 : decide ((k : Int) + 1 ≤ (s.size : Int)) = false := by simp; omega
        go_wp2
        go_ret2
        exact ⟨by rw [← HR.out, specV_end hlt]; rfl, hb⟩
    · have hd1 : decide ((k : Int) + 1 ≤ 7) = false := by simp; omega
      go_wp2
      go_ret2
      exact ⟨by rw [← HR.out, show 7 - k = 0 by omega]; rfl, hb⟩
end Go.Proofs.Ythibmbaobnpidaa
