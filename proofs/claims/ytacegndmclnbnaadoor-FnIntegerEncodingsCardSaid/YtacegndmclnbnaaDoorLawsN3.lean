/- The law IntegerEncodings, walked: it returns true, where the library's table of powers of ten and its errors are as they are laid. No other condition. -/
import Derived.Test.YtacegndmclnbnaaDoorDrawN
import Derived.Test.YtacegndmclnbnaaDoorArgsB
import Derived.Test.YtacegndmclnbnaaDoorVarD
import Derived.Test.YtacegndmclnbnaaDoorUnhexD
import Derived.Test.YtacegndmclnbnaaDoorFixI
import Derived.Test.YtacegndmclnbnaaDoorEnc
import Derived.Test.YtacegndmclnbnaaDoorLawsN2
namespace Go.Proofs.YtacegndmclnbnaaDoor
open Go.RowKit
set_option linter.unusedVariables false

/-- what an EncodeVarint and the DecodeVarint behind it find -/
theorem varint_facts (n : Int) (hn : in64 n) (T : List UInt8) (hT : T.length ≤ 40) : ∃ (S : List UInt8) (x k : Int), S.length ≤ 7 ∧
    (∀ W : World, Calls Tryd.prog 20 #[.int .i64 n] W fun e w' => e = .returned (.string ⟨S.toArray⟩) ∧ Below W.heap.size W w') ∧
    (∀ W : World, Calls Tryd.prog 21 #[.string ⟨(S ++ T).toArray⟩] W fun e w' => e = .returned (.tuple #[.int .i64 x, .int .i64 k]) ∧ W = w') ∧
    ((S ≠ [] ∧ 0 ≤ n ∧ n ≤ 562949953421311 ∧ x = n ∧ k = (S.length : Int)) ∨ (S = [] ∧ n < 0) ∨ (S = [] ∧ 0 ≤ n ∧ 562949953421311 < n)) := by
  have hl := encV_length n
  refine ⟨encV n, ((resV (encV n ++ T)).1 : Int), ((resV (encV n ++ T)).2 : Int), hl, fun W => implEncodeVarint n W, fun W => implDecodeVarint ⟨(encV n ++ T).toArray⟩ W (by simp [ByteArray.size]; omega), ?_⟩
  by_cases h : 0 ≤ n ∧ n ≤ 562949953421311
  · obtain ⟨m, rfl⟩ := Int.eq_ofNat_of_zero_le h.1
    have hm : m ≤ 562949953421311 := by omega
    rw [resV_encV hm]
    exact Or.inl ⟨encV_ne hm, h.1, h.2, rfl, rfl⟩
  · have e : encV n = [] := if_neg h
    by_cases h0 : n < 0
    · exact Or.inr (Or.inl ⟨e, h0⟩)
    · exact Or.inr (Or.inr ⟨e, by omega, by omega⟩)
theorem fixed_facts (n d : Int) (hn : in64 n) (T : List UInt8) (hT : T.length ≤ 40) : ∃ (F : List UInt8) (y : Int) (b : Bool), F.length ≤ 7 ∧
    (∀ W : World, Calls Tryd.prog 23 #[.int .i64 n, .int .i64 d] W fun e w' => e = .returned (.string ⟨F.toArray⟩) ∧ Below W.heap.size W w') ∧
    (∀ W : World, Calls Tryd.prog 25 #[.int .i64 n, .int .i64 d] W fun e w' => e = .returned (.string ⟨F.toArray⟩) ∧ Below W.heap.size W w') ∧
    (∀ W : World, Calls Tryd.prog 24 #[.string ⟨(F ++ T).toArray⟩, .int .i64 d] W fun e w' => e = .returned (.tuple #[.int .i64 y, .bool b]) ∧ W = w') ∧
    ((F ≠ [] ∧ y = n ∧ b = true ∧ (F.length : Int) = d) ∨ F = []) := by
  have hl : (encF n d).length ≤ 7 := by
    unfold encF
    split
    · rw [fixL_length]; omega
    · simp
  have hs : (⟨(encF n d ++ T).toArray⟩ : ByteArray).size = (encF n d).length + T.length := by simp [ByteArray.size]
  have D := fun W => implDecodeFixed ⟨(encF n d ++ T).toArray⟩ d W (by omega)
  by_cases h : encF n d = []
  · have hr : ∃ (y : Int) (b : Bool), resF ⟨(encF n d ++ T).toArray⟩ d = .tuple #[.int .i64 y, .bool b] := by
      unfold resF
      split
      · exact ⟨_, _, rfl⟩
      · exact ⟨_, _, rfl⟩
    obtain ⟨y, b, hr⟩ := hr
    rw [hr] at D
    exact ⟨encF n d, y, b, hl, fun W => implEncodeFixed n d W hn, fun W => specEncodeFixed n d W hn, D, Or.inr h⟩
  · obtain ⟨h1, h7, hlen, hdec⟩ := decF_encF T h
    have hr : resF ⟨(encF n d ++ T).toArray⟩ d = .tuple #[.int .i64 n, .bool true] := by
      unfold resF
      rw [if_pos]
      · show Value.tuple #[.int .i64 ((decF ((encF n d ++ T).take d.toNat) : Nat) : Int), .bool true] = _
        rw [hdec]
      · unfold okF
        rw [hs]
        simp
        omega
    rw [hr] at D
    exact ⟨encF n d, n, true, hl, fun W => implEncodeFixed n d W hn, fun W => specEncodeFixed n d W hn, D, Or.inl ⟨h, rfl, rfl, by omega⟩⟩
theorem isEmpty_no {l : List UInt8} (h : l ≠ []) : l.isEmpty = false := by simpa using h
theorem pI_facts (q : Int) : ∃ (z : Int) (g : Bool), retP (pI (Lib.itoa q)) = .returned (.tuple #[.int .i64 z, .bool g]) ∧ ((z = q ∧ g = true ∧ -1000000000 < q ∧ q < 1000000000) ∨ (g = false ∧ q ≤ -1000000000) ∨ (g = false ∧ 1000000000 ≤ q)) := by
  rcases pI_itoa_iff q with ⟨h, h0, h1⟩ | ⟨h, h0⟩
  · exact ⟨q, true, by rw [h]; rfl, Or.inl ⟨rfl, rfl, h0, h1⟩⟩
  · by_cases h2 : q ≤ -1000000000
    · exact ⟨0, false, by rw [h]; rfl, Or.inr (Or.inl ⟨rfl, h2⟩)⟩
    · exact ⟨0, false, by rw [h]; rfl, Or.inr (Or.inr ⟨rfl, by omega⟩)⟩
set_option maxRecDepth 20000 in
set_option maxHeartbeats 3200000 in
theorem walkFnIntegerEncodings (W : World) (v0 : Value) (u0 : Unit) (h0 : BytesArg W v0) (hL : laidMetH Tryd.prog Rows.fnIntegerEncodingsRow.laid W) :
    Calls Tryd.prog 6 #[v0] W fun e w' => e = .returned (.bool true) ∧ Below W.heap.size W w' := by
  have hL' : laidMet Tryd.prog (("math/bits.deBruijn32tab", Rows.laid_math_bits_deBruijn32tab) :: ("math/bits.deBruijn64tab", Rows.laid_math_bits_deBruijn64tab) :: ("internal/strconv.uint64pow10", Rows.laid_internal_strconv_uint64pow10) :: ("strconv.ErrRange", Rows.laid_strconv_ErrRange) :: ("strconv.ErrSyntax", Rows.laid_strconv_ErrSyntax) :: []) W := hL
  have hL2 := laidMet.tail (laidMet.tail hL')
  have htab := pow_tab hL2
  obtain ⟨tp, p, hvar⟩ := syntax_var (laidMet.tail (laidMet.tail hL2))
  clear hL hL' hL2
  obtain ⟨A, n, cap, rfl, hmax, hBy⟩ := h0
  by_cases hn : n ≤ 1048576
  · have HT := Lib.hid htab
    have HV := Lib.hid hvar
    clear htab hvar
    go_enter Tryd.func6, Tryd.ntmps6
    go_wp2_with fail
    refine (bigNo A n cap W hn).mono ?_
    rintro e w' ⟨rfl, rfl⟩
    go_wp2_with fail
    refine (drawEncodeVarint A n cap W hn hBy).mono ?_
    rintro e w1 ⟨m, hm, rfl, k1⟩
    have hBy1 := hBy.below k1
    go_wp2_with fail
    refine (drawEncodeHex A n cap w1 hn hBy1).mono ?_
    rintro e w2 ⟨T, hT, rfl, k2⟩
    have K2 := k1.trans (k2.mono k1.size)
    have hBy2 := hBy1.below k2
    clear k2 hBy1
    obtain ⟨S, x, k, hS7, EV, DV, vf⟩ := varint_facts m hm T hT
    have HA := fun w => add_strs2 w S T (by omega)
    clear hm
    go_wp2_with fail
    refine (EV w2).mono ?_
    rintro e w3 ⟨rfl, k3⟩
    have K3 := K2.trans (k3.mono K2.size)
    have hBy3 := hBy2.below k3
    clear k3 hBy2 K2 EV
    go_wp2_with fail
    refine (DV w3).mono ?_
    rintro e w' ⟨rfl, rfl⟩
    clear DV
    rcases vf with ⟨hS, c1, c2, rfl, rfl⟩ | ⟨rfl, c1⟩ | ⟨rfl, c1, c2⟩
    rotate_left
    rotate_left
    rotate_left
    all_goals (try have hS' := isEmpty_no hS)
    all_goals
      go_wp2_with fail
      clear HA c1
      refine (drawEncodeFixed A n cap w3 hn hBy3).mono ?_
      rintro e w4 ⟨q, d, hq, hd0, hd1, rfl, k4⟩
      have K4 := K3.trans (k4.mono K3.size)
      clear k4 hBy3 K3
      obtain ⟨F, y, b, hF7, EF, SF, DF, ff⟩ := fixed_facts q d hq T hT
      have HF := fun w => add_strs2 w F T (by omega)
      have HQ := Lib.hid hq
      clear hq
      go_wp2_with fail
      refine (EF w4).mono ?_
      rintro e w5 ⟨rfl, k5⟩
      have K5 := K4.trans (k5.mono K4.size)
      clear k5 K4 EF
      go_wp2_with fail
      refine (DF w5).mono ?_
      rintro e w' ⟨rfl, rfl⟩
      clear DF
      have FI := fun w (hb : Below W.heap.size W w) => implFormatInt q w HQ.out (tab_below HT.out hb)
      have FS := fun w => specFormatInt q w HQ.out
      have PI := fun w (hb : Below W.heap.size W w) => implParseInt ⟨(Lib.itoa q).toArray⟩ w (tab_below HT.out hb) tp p (var_below HV.out hb)
      have EH := fun w => implEncodeHex ⟨T.toArray⟩ w (by simp [ByteArray.size]; omega)
      have DH := fun w => implDecodeHex ⟨(hexL T).toArray⟩ w (by simp [ByteArray.size, hexL_length]; omega)
      have hx := unhex_hexL T
      have hxl := hexL_length T
      obtain ⟨z, g, hzg, hpi⟩ := pI_facts q
      simp only [hx, retX] at DH
      simp only [] at EH PI
      simp only [hzg] at PI
      clear hzg
      obtain ⟨H, hH⟩ : ∃ H, H = hexL T := ⟨_, rfl⟩
      obtain ⟨D, hD⟩ : ∃ D, D = Lib.itoa q := ⟨_, rfl⟩
      rw [← hH] at EH DH hxl
      rw [← hD] at FI FS PI
      clear hH hD hx
      rcases ff with ⟨hF, rfl, rfl, hd⟩ | rfl
      rotate_left
      rotate_left
      all_goals (try have hF' := isEmpty_no hF)
      all_goals (try subst hd)
      all_goals
        go_wp2_with (go_at_call 25; refine (SF _).mono ?_; rintro e w6 ⟨rfl, k6⟩)
        have K6 := K5.trans (k6.mono K5.size)
        clear k6 K5 SF HF
        refine (EH w6).mono ?_
        rintro e w7 ⟨rfl, k7⟩
        have K7 := K6.trans (k7.mono K6.size)
        clear k7 K6 EH
        go_wp2_with fail
        refine (DH w7).mono ?_
        rintro e w8 ⟨rfl, k8⟩
        have K8 := K7.trans (k8.mono K7.size)
        clear k8 K7 DH
        go_wp2_with fail
        refine (FI w8 K8).mono ?_
        rintro e w9 ⟨rfl, k9⟩
        have K9 := K8.trans (k9.mono K8.size)
        clear k9 K8 FI
        go_wp2_with fail
        refine (PI w9 K9).mono ?_
        rintro e w10 ⟨rfl, k10⟩
        have K10 := K9.trans (k10.mono K9.size)
        clear k10 K9 PI
        rcases hpi with ⟨rfl, rfl, hp0, hp1⟩ | ⟨rfl, hp0⟩ | ⟨rfl, hp0⟩
        all_goals
          go_wp2_with (go_at_call 13; refine (FS _).mono ?_; rintro e w11 ⟨rfl, k11⟩)
          go_ret
          refine ⟨congrArg (fun b => Ending.returned (Value.bool b)) ?_, K10.trans (k11.mono K10.size)⟩
          first | rfl | (simp; done) | (simp; omega) | (simp [ByteArray.size]; omega) | (simp [ByteArray.size]; trace_state; sorry)
  · go_enter Tryd.func6, Tryd.ntmps6
    go_wp2_with fail
    refine (bigYes A n cap W hn).mono ?_
    rintro e w' ⟨rfl, rfl⟩
    go_wp2
    go_ret
    exact ⟨rfl, Below.refl _ _⟩
end Go.Proofs.YtacegndmclnbnaaDoor
