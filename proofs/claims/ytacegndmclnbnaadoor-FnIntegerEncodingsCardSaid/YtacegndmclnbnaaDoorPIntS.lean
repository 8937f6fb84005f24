/- ParseInt of the reference, walked: it returns the number that the text is written as, or none. -/
import Derived.Test.YtacegndmclnbnaaDoorPInt
import Derived.Lib.Strings
import Derived.Deep.RegionHeld3
namespace Go.Proofs.YtacegndmclnbnaaDoor
open Go.RowKit
set_option linter.unusedVariables false

/-- the two results -/
def retP (o : Option Int) : Ending := .returned (.tuple #[.int .i64 (o.getD 0), .bool o.isSome])
theorem dread_next {s : ByteArray} {k n m : Nat} (h : k < s.size) (hd : (n, m) = dread (s.data.toList.take k)) :
    dread (s.data.toList.take (k + 1)) = if 48 ≤ s[k].toNat ∧ s[k].toNat ≤ 57 then (n * 10 + (s[k].toNat - 48), m + 1) else (n, m) := by
  have hl : k < s.data.toList.length := by simpa using h
  rw [dread_snoc (List.getElem?_eq_getElem hl), ← hd]
  rfl
theorem dread_stop {s : ByteArray} {k n m : Nat} (hk : k ≤ 11) (h : ¬ (k < s.size ∧ k < 11)) (hd : (n, m) = dread (s.data.toList.take k)) : (n, m) = dread (s.data.toList.take 11) := by
  rcases Nat.lt_or_ge k 11 with h1 | h1
  · have hl : s.data.toList.length = s.size := by simp
    rw [hd, List.take_of_length_le (by omega), List.take_of_length_le (by omega)]
  · rw [hd, show k = 11 by omega]
theorem dread_small {l : List UInt8} {k n m : Nat} (hk : k ≤ 11) (hd : (n, m) = dread (l.take k)) : n < 100000000000 ∧ m ≤ k := by
  have h := dread_bound (l.take k)
  rw [← hd] at h
  have h2 := List.length_take_le k l
  simp only [] at h
  have : 10 ^ m ≤ 10 ^ 11 := Nat.pow_le_pow_right (by omega) (by omega)
  omega
theorem sread_neg {s : ByteArray} {n m : Nat} (h0 : 0 < s.size) (h : s[0].toNat = 45) (hd : (n, m) = dread (s.data.toList.take 11)) : sread s.data.toList = -(n : Int) := by
  have hl : 0 < s.data.toList.length := by simpa using h0
  have e : s.data.toList.head? = some 45 := by
    rw [List.head?_eq_getElem?, List.getElem?_eq_getElem hl]
    exact congrArg some (UInt8.toNat_inj.1 h)
  unfold sread
  rw [if_pos e, ← hd]
theorem sread_pos {s : ByteArray} {n m : Nat} (h : ∀ h0 : 0 < s.size, s[0].toNat ≠ 45) (hd : (n, m) = dread (s.data.toList.take 11)) : sread s.data.toList = (n : Int) := by
  have e : s.data.toList.head? ≠ some 45 := by
    rw [List.head?_eq_getElem?]
    intro e
    obtain ⟨hl, hx⟩ := List.getElem?_eq_some_iff.1 e
    have h0 : 0 < s.size := by simpa using hl
    refine h h0 ?_
    have : s[0] = 45 := hx
    rw [this]
    rfl
  unfold sread
  rw [if_neg e, ← hd]
theorem bytes_ne {s : ByteArray} {l : List UInt8} : (⟨l.toArray⟩ : ByteArray) = s ↔ l = s.data.toList := by
  constructor
  · rintro rfl; rfl
  · rintro rfl; rfl

set_option maxRecDepth 20000 in
set_option maxHeartbeats 800000 in
theorem specParseInt (s : ByteArray) (W : World) (hs : s.size ≤ 1048576) :
    Calls Tryd.prog 15 #[.string s] W fun e w' => e = retP (pI s.data.toList) ∧ Below W.heap.size W w' := by
  have HH := Lib.hid hs
  go_enter Tryd.func15, Tryd.ntmps15
  go_wp2
  go_loop [4, 5, 6] (fun a b i => ∃ k n m : Nat, k ≤ 11 ∧ k ≤ s.size ∧ i = .int .i64 k ∧ a = .int .i64 n ∧ b = .int .i64 m ∧ (n : Int) ≤ 99999999999 ∧ m ≤ k ∧ Hid ((n, m) = dread (s.data.toList.take k))) (fun _ _ i => 11 - (intOf i).toNat)
  case atStart => exact ⟨0, 0, 0, by omega, by omega, rfl, rfl, rfl, by omega, by omega, rfl⟩
  case round =>
    obtain ⟨k, n, m, hk, hks, rfl, rfl, rfl, hn, hm, HD⟩ := hrel
    by_cases hlt : k < s.size ∧ k < 11
    · obtain ⟨h1, h2⟩ := hlt
      have HN := Lib.hid (dread_next h1 HD.out)
      have hx := s[k].toNat_lt
      by_cases hdig : 48 ≤ s[k].toNat ∧ s[k].toNat ≤ 57
      · have HN2 : Hid ((n * 10 + (s[k].toNat - 48), m + 1) = dread (s.data.toList.take (k + 1))) := by show _ = _; rw [HN.out, if_pos hdig]
        have hs2 := dread_small (by omega) HN2.out
        obtain ⟨g1, g2⟩ := hdig
        have e1 : (48 : Int) ≤ (s[k].toNat : Int) := by omega
        have e2 : (s[k].toNat : Int) ≤ 57 := by omega
        clear HN hs
        go_wp2
        go_round
        case rel => exact ⟨k + 1, n * 10 + (s[k].toNat - 48), m + 1, by omega, by omega, rfl, by go_num, rfl, by omega, by omega, HN2⟩
        case measure => simp [intOf]; omega
      · have HN2 : Hid ((n, m) = dread (s.data.toList.take (k + 1))) := by show _ = _; rw [HN.out, if_neg hdig]
        clear HN hs
        go_wp2
        all_goals first | omega | skip
        all_goals go_round
        all_goals first | exact ⟨k + 1, n, m, by omega, by omega, rfl, rfl, rfl, by omega, by omega, HN2⟩ | (simp [intOf]; omega)
    · have HE := Lib.hid (dread_stop hk hlt HD.out)
      have tail : ∀ v : Int, v = sread s.data.toList → -9223372036854775808 ≤ v ∧ v ≤ 9223372036854775807 →
          (9 < m ∨ 10 < s.size → Hid (pI s.data.toList = none)) ∧ (m ≤ 9 → ¬ (⟨(Lib.itoa v).toArray⟩ : ByteArray) = s → Hid (pI s.data.toList = none)) ∧ (m ≤ 9 → (⟨(Lib.itoa v).toArray⟩ : ByteArray) = s → Hid (pI s.data.toList = some v)) := by
        intro v hv hb
        have h2 : (dread (s.data.toList.take 11)).2 = m := by rw [← HE.out]
        have hl : s.data.toList.length = s.size := by simp
        refine ⟨fun h => pI_spec_none (by omega), fun h1 h3 => pI_spec_none (Or.inr (Or.inr fun e => h3 (bytes_ne.2 (by rw [hv]; exact e)))), fun h1 h3 => ?_⟩
        rw [Hid, hv]
        exact pI_spec_some (by omega) (by rw [← hv]; exact bytes_ne.1 h3)
      by_cases hneg : ∃ h0 : 0 < s.size, s[0].toNat = 45
      · obtain ⟨h0, h45⟩ := hneg
        obtain ⟨T1, T2, T3⟩ := tail (-(n : Int)) (sread_neg h0 h45 HE.out).symm (by omega)
        have C := specFormatInt (-(n : Int)) W (by omega)
        obtain ⟨t, ht⟩ : ∃ t : ByteArray, t = ⟨(Lib.itoa (-(n : Int))).toArray⟩ := ⟨_, rfl⟩
        rw [← ht] at C T2 T3
        have ex : (k < s.size ∧ (11 : Int) ≤ k) ∨ ¬ k < s.size := by omega
        clear ht tail HE HD hs hlt
        rcases ex with ⟨x1, x2⟩ | x1
        all_goals
          by_cases hm9 : (9 : Int) < m
          · have TT := T1 (Or.inl (by omega))
            clear T1 T2 T3
            first
            | (exfalso; omega)
            | (go_wp2; go_ret2; exact ⟨by rw [TT.out]; rfl, Below.refl _ _⟩)
          · by_cases hz : 10 < s.size
            · have TT := T1 (Or.inr hz)
              have hz1 : (10 : Int) < s.size := by omega
              clear T1 T2 T3
              first
              | (exfalso; omega)
              | (go_wp2; go_ret2; exact ⟨by rw [TT.out]; rfl, Below.refl _ _⟩)
            · have hz1 : (s.size : Int) ≤ 10 := by omega
              try (exfalso; omega)
              all_goals
                have hm1 : m ≤ 9 := by omega
                clear T1 hz
                by_cases hts : t = s
                · subst hts
                  have TT := T3 hm1 rfl
                  clear T2 T3
                  go_wp2_with (go_at_call 13; refine C.mono ?_; rintro e w' ⟨rfl, hb'⟩)
                  go_ret2
                  exact ⟨by rw [TT.out]; rfl, hb'⟩
                · have TT := T2 hm1 hts
                  have hne : (t.toList == s.toList) = false := by rw [ByteArray.toList_eq, ByteArray.toList_eq]; exact beq_eq_false_iff_ne.2 fun e => hts (ByteArray.ext (Array.ext' e))
                  clear T2 T3 hts
                  go_wp2_with (go_at_call 13; refine C.mono ?_; rintro e w' ⟨rfl, hb'⟩)
                  go_ret2
                  exact ⟨by rw [TT.out]; rfl, hb'⟩
      · have hpos : ∀ h0 : 0 < s.size, s[0].toNat ≠ 45 := fun h0 h => hneg ⟨h0, h⟩
        obtain ⟨T1, T2, T3⟩ := tail n (sread_pos hpos HE.out).symm (by omega)
        have C := specFormatInt n W (by omega)
        have ex : (k < s.size ∧ (11 : Int) ≤ k) ∨ ¬ k < s.size := by omega
        obtain ⟨t, ht⟩ : ∃ t : ByteArray, t = ⟨(Lib.itoa n).toArray⟩ := ⟨_, rfl⟩
        rw [← ht] at C T2 T3
        by_cases h0 : 0 < s.size
        · have h45 := hpos h0
          clear ht tail HE HD hs hlt hpos hneg
          rcases ex with ⟨x1, x2⟩ | x1
          all_goals
            by_cases hm9 : (9 : Int) < m
            · have TT := T1 (Or.inl (by omega))
              clear T1 T2 T3
              first
              | (exfalso; omega)
              | (go_wp2; go_ret2; exact ⟨by rw [TT.out]; rfl, Below.refl _ _⟩)
            · by_cases hz : 10 < s.size
              · have TT := T1 (Or.inr hz)
                have hz1 : (10 : Int) < s.size := by omega
                clear T1 T2 T3
                first
                | (exfalso; omega)
                | (go_wp2; go_ret2; exact ⟨by rw [TT.out]; rfl, Below.refl _ _⟩)
              · have hz1 : (s.size : Int) ≤ 10 := by omega
                try (exfalso; omega)
                all_goals
                  have hm1 : m ≤ 9 := by omega
                  clear T1 hz
                  by_cases hts : t = s
                  · subst hts
                    have TT := T3 hm1 rfl
                    clear T2 T3
                    go_wp2_with (go_at_call 13; refine C.mono ?_; rintro e w' ⟨rfl, hb'⟩)
                    go_ret2
                    exact ⟨by rw [TT.out]; rfl, hb'⟩
                  · have TT := T2 hm1 hts
                    have hne : (t.toList == s.toList) = false := by rw [ByteArray.toList_eq, ByteArray.toList_eq]; exact beq_eq_false_iff_ne.2 fun e => hts (ByteArray.ext (Array.ext' e))
                    clear T2 T3 hts
                    go_wp2_with (go_at_call 13; refine C.mono ?_; rintro e w' ⟨rfl, hb'⟩)
                    go_ret2
                    exact ⟨by rw [TT.out]; rfl, hb'⟩
        · clear ht tail HE HD hs hlt hpos hneg
          rcases ex with ⟨x1, x2⟩ | x1
          all_goals
            by_cases hm9 : (9 : Int) < m
            · have TT := T1 (Or.inl (by omega))
              clear T1 T2 T3
              first
              | (exfalso; omega)
              | (go_wp2; go_ret2; exact ⟨by rw [TT.out]; rfl, Below.refl _ _⟩)
            · by_cases hz : 10 < s.size
              · have TT := T1 (Or.inr hz)
                have hz1 : (10 : Int) < s.size := by omega
                clear T1 T2 T3
                first
                | (exfalso; omega)
                | (go_wp2; go_ret2; exact ⟨by rw [TT.out]; rfl, Below.refl _ _⟩)
              · have hz1 : (s.size : Int) ≤ 10 := by omega
                try (exfalso; omega)
                all_goals
                  have hm1 : m ≤ 9 := by omega
                  clear T1 hz
                  by_cases hts : t = s
                  · subst hts
                    have TT := T3 hm1 rfl
                    clear T2 T3
                    go_wp2_with (go_at_call 13; refine C.mono ?_; rintro e w' ⟨rfl, hb'⟩)
                    go_ret2
                    exact ⟨by rw [TT.out]; rfl, hb'⟩
                  · have TT := T2 hm1 hts
                    have hne : (t.toList == s.toList) = false := by rw [ByteArray.toList_eq, ByteArray.toList_eq]; exact beq_eq_false_iff_ne.2 fun e => hts (ByteArray.ext (Array.ext' e))
                    clear T2 T3 hts
                    go_wp2_with (go_at_call 13; refine C.mono ?_; rintro e w' ⟨rfl, hb'⟩)
                    go_ret2
                    exact ⟨by rw [TT.out]; rfl, hb'⟩
end Go.Proofs.YtacegndmclnbnaaDoor
