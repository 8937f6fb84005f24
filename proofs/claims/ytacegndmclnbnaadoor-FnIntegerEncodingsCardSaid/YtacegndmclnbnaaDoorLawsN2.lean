/- The law ParseInt, walked: it returns true, where the library's table of powers of ten and its two errors are as they are laid. No other condition. -/
import Derived.Test.YtacegndmclnbnaaDoorPIntS
import Derived.Test.YtacegndmclnbnaaDoorLawsN1
import Derived.Lib.SmallJoins
namespace Go.Proofs.YtacegndmclnbnaaDoor
open Go.RowKit
set_option linter.unusedVariables false

set_option maxRecDepth 20000 in
set_option maxHeartbeats 800000 in
theorem implParseInt (s : ByteArray) (W : World) (htab : Lib.TabIs Tryd.prog W "internal/strconv.uint64pow10" .u64 Lib.pow10Tab)
    (tp : TypeId) (p : Value) (hvar : W.var? Tryd.prog "strconv.ErrSyntax" = some #[.iface tp p]) :
    Calls Tryd.prog 16 #[.string s] W fun e w' => e = retP (pI s.data.toList) ∧ Below W.heap.size W w' := by
  have hl : s.data.toList.length = s.size := by simp
  by_cases h1 : s.size < 1
  · have HP := Lib.hid (pI_long (l := s.data.toList) (by omega))
    have h1' : (s.size : Int) < 1 := by omega
    clear hl h1 htab hvar
    go_enter Tryd.func16, Tryd.ntmps16
    go_wp2
    go_ret2
    exact ⟨by rw [HP.out]; rfl, Below.refl _ _⟩
  · by_cases h2 : 10 < s.size
    · have HP := Lib.hid (pI_long (l := s.data.toList) (by omega))
      have h1' : (1 : Int) ≤ (s.size : Int) := by omega
      have h2' : (10 : Int) < (s.size : Int) := by omega
      clear hl h1 h2 htab hvar
      go_enter Tryd.func16, Tryd.ntmps16
      go_wp2
      go_ret2
      exact ⟨by rw [HP.out]; rfl, Below.refl _ _⟩
    · have h1' : (1 : Int) ≤ (s.size : Int) := by omega
      have h2' : (s.size : Int) ≤ 10 := by omega
      cases ha : Lib.atoi s.data.toList with
      | none =>
        have HP := Lib.hid (pI_fail ha)
        have C := Tryd.strconv_Atoi_syntax_var s (by omega) (by rw [Lib.atoiAll_short _ (by omega), ha]; rfl) tp p W hvar
        clear ha htab hvar hl h1 h2
        go_enter Tryd.func16, Tryd.ntmps16
        go_wp2_with fail
        refine C.mono ?_
        rintro e w1 ⟨N, rfl, _, _, k1⟩
        clear C
        go_wp2
        go_ret2
        exact ⟨by rw [HP.out]; rfl, k1⟩
      | some n =>
        have C := Tryd.strconv_Atoi s n (by omega) ha W
        by_cases hn1 : n < -999999999
        · have HP := Lib.hid (pI_far ha (Or.inl hn1))
          clear ha htab hvar hl h1 h2
          go_enter Tryd.func16, Tryd.ntmps16
          go_wp2_with fail
          refine C.mono ?_
          rintro e w1 ⟨rfl, t, hw⟩
          have k1 : Below W.heap.size W w1 := by rw [hw]; exact Joins.below_bytesWorld _ _ _ _ (Nat.le_refl _)
          clear C hw
          go_wp2
          go_ret2
          exact ⟨by rw [HP.out]; rfl, k1⟩
        · by_cases hn2 : 999999999 < n
          · have HP := Lib.hid (pI_far ha (Or.inr (Or.inl hn2)))
            clear ha htab hvar hl h1 h2
            go_enter Tryd.func16, Tryd.ntmps16
            go_wp2_with fail
            refine C.mono ?_
            rintro e w1 ⟨rfl, t, hw⟩
            have k1 : Below W.heap.size W w1 := by rw [hw]; exact Joins.below_bytesWorld _ _ _ _ (Nat.le_refl _)
            clear C hw
            go_wp2
            go_ret2
            exact ⟨by rw [HP.out]; rfl, k1⟩
          · have hn1' : -999999999 ≤ n := by omega
            have hn2' : n ≤ 999999999 := by omega
            have F := fun w (hb : Below W.heap.size W w) => implFormatInt n w (by omega) (tab_below htab hb)
            obtain ⟨t, ht⟩ : ∃ t : ByteArray, t = ⟨(Lib.itoa n).toArray⟩ := ⟨_, rfl⟩
            rw [← ht] at F
            by_cases hts : t = s
            · have HP := Lib.hid (pI_near hn1' hn2' (bytes_ne.1 (ht.symm.trans hts)))
              subst hts
              clear ha htab hvar hl h1 h2 hn1 hn2 ht
              go_enter Tryd.func16, Tryd.ntmps16
              go_wp2_with fail
              refine C.mono ?_
              rintro e w1 ⟨rfl, tt, hw⟩
              have k1 : Below W.heap.size W w1 := by rw [hw]; exact Joins.below_bytesWorld _ _ _ _ (Nat.le_refl _)
              clear C hw
              go_wp2_with (go_at_call 14; refine (F _ k1).mono ?_; rintro e w2 ⟨rfl, k2⟩)
              go_ret2
              exact ⟨by rw [HP.out]; rfl, k1.trans (k2.mono k1.size)⟩
            · have HP := Lib.hid (pI_far ha (Or.inr (Or.inr fun e => hts (ht.trans (bytes_ne.2 e)))))
              have hne : (t.toList == s.toList) = false := by rw [ByteArray.toList_eq, ByteArray.toList_eq]; exact beq_eq_false_iff_ne.2 fun e => hts (ByteArray.ext (Array.ext' e))
              clear ha htab hvar hl h1 h2 hn1 hn2 ht hts
              go_enter Tryd.func16, Tryd.ntmps16
              go_wp2_with fail
              refine C.mono ?_
              rintro e w1 ⟨rfl, tt, hw⟩
              have k1 : Below W.heap.size W w1 := by rw [hw]; exact Joins.below_bytesWorld _ _ _ _ (Nat.le_refl _)
              clear C hw
              go_wp2_with (go_at_call 14; refine (F _ k1).mono ?_; rintro e w2 ⟨rfl, k2⟩)
              go_ret2
              exact ⟨by rw [HP.out]; rfl, k1.trans (k2.mono k1.size)⟩
theorem star_err : "*" ++ "errors.errorString" = "*errors.errorString" := by decide
theorem syntax_var {rest : List (String × DataW Unit)} {W : World} (h : laidMet Tryd.prog (("strconv.ErrSyntax", Rows.laid_strconv_ErrSyntax) :: rest) W) : ∃ tp p, W.var? Tryd.prog "strconv.ErrSyntax" = some #[.iface tp p] := by
  obtain ⟨a, s, hv, _⟩ := laid_sentinel (g := 0) (ti := 52) (tp := 123) (te := 125) (ts := 9) h (by kernel_rfl) (by kernel_rfl) Tryd.underlying52 (fun u hu => typeName_ptr_named (nm := "errors.errorString") (by rw [star_err]; kernel_rfl) (by kernel_rfl) (by decide) u (by rw [star_err]; exact hu)) Tryd.underlying123 Tryd.underlying125 rfl rfl Tryd.underlying9 (by kernel_rfl) (by kernel_rfl)
  exact ⟨_, _, hv⟩
theorem var_below {w w' : World} {name : String} {v : Value} (h : w.var? Tryd.prog name = some #[v]) (hb : Below w.heap.size w w') : w'.var? Tryd.prog name = some #[v] := by
  unfold World.var? at h ⊢
  revert h
  cases Tryd.prog.globalNamed name with
  | none => exact fun h => h
  | some g =>
    simp only [Option.bind_some]
    intro h
    have hg : g < w.heap.size := by
      rcases Nat.lt_or_ge g w.heap.size with h1 | h1
      · exact h1
      · rw [Array.getElem?_eq_none h1] at h; simp at h
    rw [hb.block g hg]
    exact h
set_option maxRecDepth 20000 in
theorem walkFnExactParseInt (W : World) (s : ByteArray) (h0 : s.size ≤ maxLen) (hL : laidMetH Tryd.prog Rows.fnExactParseIntRow.laid W) :
    Calls Tryd.prog 5 #[.string s] W fun e w' => e = .returned (.bool true) ∧ Below W.heap.size W w' := by
  have hL' : laidMet Tryd.prog (("math/bits.deBruijn32tab", Rows.laid_math_bits_deBruijn32tab) :: ("math/bits.deBruijn64tab", Rows.laid_math_bits_deBruijn64tab) :: ("internal/strconv.uint64pow10", Rows.laid_internal_strconv_uint64pow10) :: ("strconv.ErrRange", Rows.laid_strconv_ErrRange) :: ("strconv.ErrSyntax", Rows.laid_strconv_ErrSyntax) :: []) W := hL
  have hL2 := laidMet.tail (laidMet.tail hL')
  have htab := pow_tab hL2
  obtain ⟨tp, p, hvar⟩ := syntax_var (laidMet.tail (laidMet.tail hL2))
  clear h0 hL hL' hL2
  by_cases hz : s.size ≤ 1048576
  · have hz' : (s.size : Int) ≤ 1048576 := by omega
    have C1 := specParseInt s W hz
    have C2 := fun w (hb : Below W.heap.size W w) => implParseInt s w (tab_below htab hb) tp p (var_below hvar hb)
    obtain ⟨o, ho⟩ : ∃ o, o = pI s.data.toList := ⟨_, rfl⟩
    rw [← ho] at C1 C2
    obtain ⟨i, hi⟩ : ∃ i : Int, i = o.getD 0 := ⟨_, rfl⟩
    obtain ⟨b, hb⟩ : ∃ b : Bool, b = o.isSome := ⟨_, rfl⟩
    unfold retP at C1 C2
    rw [← hi, ← hb] at C1 C2
    clear ho hi hb htab hvar hz
    go_enter Tryd.func5, Tryd.ntmps5
    go_wp2_with fail
    refine C1.mono ?_
    rintro e w1 ⟨rfl, k1⟩
    go_wp2_with fail
    refine (C2 _ k1).mono ?_
    rintro e w2 ⟨rfl, k2⟩
    go_wp2
    go_ret
    exact ⟨rfl, k1.trans (k2.mono k1.size)⟩
  · have hz' : (1048576 : Int) < s.size := by omega
    clear htab hvar hz
    go_enter Tryd.func5, Tryd.ntmps5
    go_wp2
    go_ret
    exact ⟨rfl, Below.refl _ _⟩
end Go.Proofs.YtacegndmclnbnaaDoor
