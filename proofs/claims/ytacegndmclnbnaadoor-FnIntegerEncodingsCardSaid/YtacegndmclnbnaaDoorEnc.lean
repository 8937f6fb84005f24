/- Encodings, back and forth: what is written reads as it was, whatever follows. Plain, no program is in sight here. -/
import Derived.Test.YtacegndmclnbnaaDoorVarP
import Derived.Test.YtacegndmclnbnaaDoorFix
import Derived.Test.YtacegndmclnbnaaDoorUnhex
import Derived.Test.YtacegndmclnbnaaDoorPInt
namespace Go.Proofs.YtacegndmclnbnaaDoor

theorem decV_varL (f n : Nat) (h : n < 128 ^ (f + 1)) : decV (varL f n) = n := by
  induction f generalizing n with
  | zero =>
    have : n < 128 := by simpa using h
    simp only [varL, decV, ofNat_toNat_lt (show n < 256 by omega)]
    omega
  | succ f ih =>
    by_cases h8 : n < 128
    · rw [varL_small _ _ h8]
      simp only [decV, ofNat_toNat_lt (show n < 256 by omega)]
      omega
    · rw [varL_big _ _ (by omega)]
      have h1 : n / 128 < 128 ^ (f + 1) := by
        rw [Nat.pow_succ] at h
        exact Nat.div_lt_of_lt_mul (by rw [Nat.mul_comm]; exact h)
      simp only [decV, ih _ h1, ofNat_toNat_lt (show n % 128 + 128 < 256 by omega)]
      omega
theorem resV_skip (s : List UInt8) : ∀ (d f k : Nat), d + k ≤ s.length → (∀ i, i < d + k → 128 ≤ (s.getD i 0).toNat) → resVAux s (f + d) k = resVAux s f (k + d) := by
  intro d
  induction d with
  | zero => intro f k _ _; rfl
  | succ d ih =>
    intro f k hl h
    have hk : k < s.length := by omega
    have hb := h k (by omega)
    rw [show f + (d + 1) = (f + d) + 1 by omega]
    conv => lhs; unfold resVAux
    rw [List.getElem?_eq_getElem hk]
    have e : s.getD k 0 = s[k] := by simp [List.getD, List.getElem?_eq_getElem hk]
    rw [e] at hb
    simp only []
    rw [if_neg (by omega), ih f (k + 1) (by omega) (fun i hi => h i (by omega)), show k + 1 + d = k + (d + 1) by omega]
theorem encV_form {n : Nat} (h : n ≤ 562949953421311) : encV n = varL 6 n ∧ n < 128 ^ (6 + 1) := by
  have : 128 ^ (6 + 1) = 562949953421312 := by decide
  refine ⟨?_, by omega⟩
  unfold encV
  rw [if_pos (by omega)]
  rfl
theorem resV_encV {n : Nat} (h : n ≤ 562949953421311) (t : List UInt8) : resV (encV n ++ t) = (n, (encV n).length) := by
  obtain ⟨he, hn⟩ := encV_form h
  have hc := canonB_varL 6 n hn
  have hd := decV_varL 6 n hn
  have hl := varL_length 6 n
  rw [he]
  generalize varL 6 n = l at *
  have hne : l ≠ [] := by rintro rfl; simp [canonB] at hc
  have hpos := List.length_pos_iff.2 hne
  have hall := canonB_all hc
  obtain ⟨m, b, rfl⟩ : ∃ m b, l = m ++ [b] := ⟨l.dropLast, l.getLast hne, (List.dropLast_concat_getLast hne).symm⟩
  simp only [List.length_append, List.length_singleton] at *
  have hm : ∀ c ∈ m, 128 ≤ c.toNat := by
    intro c hcm
    obtain ⟨i, hi, rfl⟩ := List.getElem_of_mem hcm
    have := hall i (by omega)
    simpa [List.getD, List.getElem?_append_left hi, List.getElem?_eq_getElem hi] using this
  have hlast := canonB_last (b := b) hm
  rw [hc] at hlast
  have hs := resV_skip ((m ++ [b]) ++ t) m.length (7 - m.length) 0 (by simp) (fun i hi => by
    have := hall i (by omega)
    rw [List.getD_eq_getElem?_getD, List.getElem?_append_left (by simp; omega), ← List.getD_eq_getElem?_getD]
    exact this)
  unfold resV
  rw [show 7 - m.length + m.length = 7 by omega, Nat.zero_add] at hs
  rw [hs, show 7 - m.length = (6 - m.length) + 1 by omega]
  unfold resVAux
  have e : ((m ++ [b]) ++ t)[m.length]? = some b := by simp
  rw [e]
  simp only []
  have h1 : b.toNat < 128 ∧ (b.toNat ≠ 0 ∨ m = []) := by simpa [← UInt8.toNat_inj] using hlast.symm
  have hb1 : b.toNat < 128 := h1.1
  rw [if_pos hb1, if_neg]
  · have : ((m ++ [b]) ++ t).take (m.length + 1) = m ++ [b] := by
      rw [List.take_append_of_le_length (by simp)]
      exact List.take_of_length_le (by simp)
    rw [this, hd]
  · rintro ⟨h2, h3⟩
    rcases h1.2 with h | h
    · exact h h2
    · subst h; simp at h3
theorem encV_ne {n : Nat} (h : n ≤ 562949953421311) : encV n ≠ [] := by
  have h1 := congrArg Prod.snd (resV_encV h [])
  intro e
  have hc := canonB_varL 6 n (encV_form h).2
  rw [← (encV_form h).1, e] at hc
  simp [canonB] at hc
theorem decF_fixL : ∀ (w n : Nat), n < 256 ^ w → decF (fixL w n) = n := by
  intro w
  induction w with
  | zero => intro n h; simp at h; subst h; rfl
  | succ w ih =>
    intro n h
    have e := fixL_next w 0 n
    simp only [Nat.pow_zero, Nat.div_one, Nat.zero_add, Nat.pow_one] at e
    rw [e, decF_snoc, ih _ (by rw [Nat.pow_succ] at h; omega)]
    have : (UInt8.ofNat (n % 256)).toNat = n % 256 := by simp
    rw [this]
    omega
/-- what stands ahead, of a fixed width, reads as it was -/
theorem decF_encF {n w : Int} (t : List UInt8) (h : encF n w ≠ []) : 1 ≤ w ∧ w ≤ 7 ∧ (encF n w).length = w.toNat ∧ (decF ((encF n w ++ t).take w.toNat) : Int) = n := by
  unfold encF at h ⊢
  split at h
  · rename_i hc
    obtain ⟨h1, h2, h3, h4⟩ := hc
    rw [if_pos ⟨h1, h2, h3, h4⟩]
    refine ⟨h1, h2, fixL_length _ _, ?_⟩
    rw [List.take_append_of_le_length (by rw [fixL_length]; omega), List.take_of_length_le (by rw [fixL_length]; omega), decF_fixL]
    · omega
    · have : (n.toNat : Int) < ((256 ^ w.toNat : Nat) : Int) := by rw [Int.natCast_pow]; simpa [Int.toNat_of_nonneg h3] using h4
      omega
  · exact absurd rfl h
theorem unhex_hexL : ∀ l : List UInt8, unhex (hexL l) = some l := by
  intro l
  induction l with
  | nil => rfl
  | cons b r ih =>
    have hb := b.toNat_lt
    have h1 := hexV_hit (c := hexd (b.toNat / 16)) (k := b.toNat / 16) (by omega) rfl
    have h2 := hexV_hit (c := hexd (b.toNat % 16)) (k := b.toNat % 16) (by omega) rfl
    simp only [hexL, unhex, h1, h2, ih]
    have e : (16 * ((b.toNat / 16 : Nat) : Int) + ((b.toNat % 16 : Nat) : Int)).toNat = b.toNat := by omega
    rw [e]
    simp
    omega
theorem pI_itoa_iff (n : Int) : (pI (Lib.itoa n) = some n ∧ -1000000000 < n ∧ n < 1000000000) ∨ (pI (Lib.itoa n) = none ∧ ¬ (-1000000000 < n ∧ n < 1000000000)) := by
  by_cases h : -1000000000 < n ∧ n < 1000000000
  · exact Or.inl ⟨pI_itoa (by omega) (by omega), h⟩
  · exact Or.inr ⟨pI_far (atoi_itoa n) (by omega), h⟩
end Go.Proofs.YtacegndmclnbnaaDoor
