/- The law FormatInt, walked: it returns true, where the library's table of powers of ten is as it is laid. No other condition. -/
import Derived.Test.YtacegndmclnbnaaDoorNum
import Derived.Lib.LaidTab
import Derived.Stop.LaidErr
namespace Go.Proofs.YtacegndmclnbnaaDoor
open Go.RowKit
set_option linter.unusedVariables false

theorem pow_tab {rest : List (String × DataW Unit)} {W : World} (h : laidMet Tryd.prog (("internal/strconv.uint64pow10", Rows.laid_internal_strconv_uint64pow10) :: rest) W) : Lib.TabIs Tryd.prog W "internal/strconv.uint64pow10" .u64 Lib.pow10Tab :=
  Lib.tabIs_of_head (g := 3) (t := 119) (e := 96) (n := 20) (by kernel_rfl) (by kernel_rfl) Tryd.underlying119 Tryd.underlying96 (by kernel_rfl) (by kernel_rfl) h
theorem walkFnExactFormatInt (W : World) (a0 : Int) (h0 : (Lit.int .i64 a0).wf = true) (hL : laidMetH Tryd.prog Rows.fnExactFormatIntRow.laid W) :
    Calls Tryd.prog 4 #[.int .i64 a0] W fun e w' => e = .returned (.bool true) ∧ Below W.heap.size W w' := by
  have hL' : laidMet Tryd.prog (("math/bits.deBruijn32tab", Rows.laid_math_bits_deBruijn32tab) :: ("math/bits.deBruijn64tab", Rows.laid_math_bits_deBruijn64tab) :: ("internal/strconv.uint64pow10", Rows.laid_internal_strconv_uint64pow10) :: []) W := hL
  have htab := pow_tab (laidMet.tail (laidMet.tail hL'))
  have hr : -9223372036854775808 ≤ a0 ∧ a0 ≤ 9223372036854775807 := by
    have e1 : IntKind.i64.min = -9223372036854775808 := rfl
    have e2 : IntKind.i64.max = 9223372036854775807 := rfl
    simp [Lit.wf, e1, e2] at h0
    omega
  have C1 := specFormatInt a0 W hr
  have C2 := fun w (hb : Below W.heap.size W w) => implFormatInt a0 w hr (tab_below htab hb)
  obtain ⟨s, hs⟩ : ∃ s : ByteArray, s = ⟨(Lib.itoa a0).toArray⟩ := ⟨_, rfl⟩
  rw [← hs] at C1 C2
  clear hs hr htab hL hL' h0
  go_enter Tryd.func4, Tryd.ntmps4
  go_wp2_with fail
  refine C1.mono ?_
  rintro e w1 ⟨rfl, k1⟩
  go_wp2_with fail
  refine (C2 _ k1).mono ?_
  rintro e w2 ⟨rfl, k2⟩
  go_wp2
  go_ret
  exact ⟨rfl, k1.trans (k2.mono k1.size)⟩
end Go.Proofs.YtacegndmclnbnaaDoor
