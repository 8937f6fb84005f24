/- The laws on encodings, walked: each returns true, by the contracts of the reference's function and of the program's. No condition. -/
import Derived.Test.YthibmbaobnpidaaVarS
import Derived.Test.YthibmbaobnpidaaUnhexD
namespace Go.Proofs.Ythibmbaobnpidaa
open Go.RowKit

theorem wf_i64 {n : Int} (h : (Lit.int .i64 n).wf = true) : -9223372036854775808 ≤ n ∧ n ≤ 9223372036854775807 := by
  simp [Lit.wf, IntKind.min, IntKind.max, IntKind.signed, IntKind.bits] at h
  omega

set_option maxHeartbeats 1000000 in
theorem walkFnExactConstants (W : World) : Calls Try.prog 3 #[] W fun e w' => e = .returned (.bool true) ∧ Below W.heap.size W w' := by
  go_enter Try.func3, Try.ntmps3
  go_wp2
  go_ret
  exact ⟨rfl, Below.refl _ _⟩

set_option maxHeartbeats 400000 in
theorem walkFnExactEncodeHex (W : World) (s : ByteArray) (_ : s.size ≤ maxLen) : Calls Try.prog 4 #[.string s] W fun e w' => e = .returned (.bool true) ∧ Below W.heap.size W w' := by
  by_cases hs : s.size ≤ 1048576
  · go_enter Try.func4, Try.ntmps4
    go_wp2_with (first | (go_at_call 10; refine (specEncodeHex _ _ hs).mono ?_; rintro e w1 ⟨rfl, hb1⟩) | (go_at_call 11; refine (implEncodeHex _ _ hs).mono ?_; rintro e w2 ⟨rfl, hb2⟩))
    go_ret
    exact ⟨rfl, hb1.trans (hb2.mono hb1.size)⟩
  · go_enter Try.func4, Try.ntmps4
    go_wp2
    go_ret
    exact ⟨rfl, Below.refl _ _⟩
set_option maxHeartbeats 400000 in
theorem walkFnExactDecodeHex (W : World) (s : ByteArray) (_ : s.size ≤ maxLen) : Calls Try.prog 9 #[.string s] W fun e w' => e = .returned (.bool true) ∧ Below W.heap.size W w' := by
  by_cases hs : s.size ≤ 1048576
  · obtain ⟨r, hr⟩ : ∃ r, r = unhex s.data.toList := ⟨_, rfl⟩
    have HR := Lib.hid hr
    clear hr
    have H1 : ∀ w, Calls Try.prog 20 #[.string s] w fun e w' => e = retX r ∧ Below w.heap.size w w' := fun w => by rw [HR.out]; exact specDecodeHex s w hs
    have H2 : ∀ w, Calls Try.prog 21 #[.string s] w fun e w' => e = retX r ∧ Below w.heap.size w w' := fun w => by rw [HR.out]; exact implDecodeHex s w hs
    have K1 := Lib.hid H1
    have K2 := Lib.hid H2
    clear H1 H2
    cases r
    all_goals
      go_enter Try.func9, Try.ntmps9
      go_wp2_with (first | (go_at_call 20; refine (K1.out _).mono ?_; rintro e w1 ⟨rfl, hb1⟩; unfold retX) | (go_at_call 21; refine (K2.out _).mono ?_; rintro e w2 ⟨rfl, hb2⟩; unfold retX))
      go_ret
      exact ⟨rfl, hb1.trans (hb2.mono hb1.size)⟩
  · go_enter Try.func9, Try.ntmps9
    go_wp2
    go_ret
    exact ⟨rfl, Below.refl _ _⟩
set_option maxHeartbeats 400000 in
theorem walkFnExactEncodeVarint (W : World) (n : Int) (_ : (Lit.int .i64 n).wf = true) : Calls Try.prog 6 #[.int .i64 n] W fun e w' => e = .returned (.bool true) ∧ Below W.heap.size W w' := by
  go_enter Try.func6, Try.ntmps6
  go_wp2_with (first | (go_at_call 14; refine (specEncodeVarint _ _).mono ?_; rintro e w1 ⟨rfl, hb1⟩) | (go_at_call 15; refine (implEncodeVarint _ _).mono ?_; rintro e w2 ⟨rfl, hb2⟩))
  go_ret
  exact ⟨rfl, hb1.trans (hb2.mono hb1.size)⟩
set_option maxHeartbeats 400000 in
theorem walkFnExactEncodeFixed (W : World) (n : Int) (wn : (Lit.int .i64 n).wf = true) (w : Int) (_ : (Lit.int .i64 w).wf = true) : Calls Try.prog 7 #[.int .i64 n, .int .i64 w] W fun e w' => e = .returned (.bool true) ∧ Below W.heap.size W w' := by
  have hn := wf_i64 wn
  go_enter Try.func7, Try.ntmps7
  go_wp2_with (first | (go_at_call 16; refine (specEncodeFixed _ _ _ hn).mono ?_; rintro e w1 ⟨rfl, hb1⟩) | (go_at_call 17; refine (implEncodeFixed _ _ _ hn).mono ?_; rintro e w2 ⟨rfl, hb2⟩))
  go_ret
  exact ⟨rfl, hb1.trans (hb2.mono hb1.size)⟩
set_option maxHeartbeats 400000 in
theorem walkFnExactDecodeFixed (W : World) (s : ByteArray) (_ : s.size ≤ maxLen) (w : Int) (_ : (Lit.int .i64 w).wf = true) : Calls Try.prog 5 #[.string s, .int .i64 w] W fun e w' => e = .returned (.bool true) ∧ Below W.heap.size W w' := by
  by_cases hs : s.size ≤ 1048576
  · by_cases ho : okF s w = true
    all_goals
      go_enter Try.func5, Try.ntmps5
      go_wp2_with (first | (go_at_call 12; refine (specDecodeFixed _ _ _ hs).mono ?_; rintro e w1 ⟨rfl, rfl⟩; rw [resF]) | (go_at_call 13; refine (implDecodeFixed _ _ _ hs).mono ?_; rintro e w2 ⟨rfl, rfl⟩; rw [resF]))
      go_ret
      exact ⟨rfl, Below.refl _ _⟩
  · go_enter Try.func5, Try.ntmps5
    go_wp2
    go_ret
    exact ⟨rfl, Below.refl _ _⟩
set_option maxHeartbeats 400000 in
theorem walkFnExactDecodeVarint (W : World) (s : ByteArray) (_ : s.size ≤ maxLen) : Calls Try.prog 8 #[.string s] W fun e w' => e = .returned (.bool true) ∧ Below W.heap.size W w' := by
  by_cases hs : s.size ≤ 1048576
  · go_enter Try.func8, Try.ntmps8
    go_wp2_with (first | (go_at_call 18; refine (specDecodeVarint _ _ hs).mono ?_; rintro e w1 ⟨rfl, hb1⟩; unfold retV) | (go_at_call 19; refine (implDecodeVarint _ _ hs).mono ?_; rintro e w2 ⟨rfl, rfl⟩; unfold retV))
    go_ret
    exact ⟨rfl, hb1⟩
  · go_enter Try.func8, Try.ntmps8
    go_wp2
    go_ret
    exact ⟨rfl, Below.refl _ _⟩
end Go.Proofs.Ythibmbaobnpidaa
