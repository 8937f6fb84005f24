/- Variable length numbers: the plain functions, and that the program's way to decode finds what the reference's way finds. No program is in sight here. -/
namespace Go.Proofs.YtacegndmclnbnaaDoor

def varL : Nat → Nat → List UInt8
  | 0, n => [UInt8.ofNat n]
  | f + 1, n => if n < 128 then [UInt8.ofNat n] else UInt8.ofNat (n % 128 + 128) :: varL f (n / 128)
def encV (n : Int) : List UInt8 := if 0 ≤ n ∧ n ≤ 562949953421311 then varL 6 n.toNat else []
theorem varL_length (f n : Nat) : (varL f n).length ≤ f + 1 := by
  induction f generalizing n with
  | zero => simp [varL]
  | succ f ih => unfold varL; split <;> simp; exact ih _
theorem varL_small (f n : Nat) (h : n < 128) : varL f n = [UInt8.ofNat n] := by
  cases f <;> simp [varL, h]
theorem varL_big (f n : Nat) (h : 128 ≤ n) : varL (f + 1) n = UInt8.ofNat (n % 128 + 128) :: varL f (n / 128) := by
  rw [varL, if_neg (by omega)]
theorem encV_length (n : Int) : (encV n).length ≤ 7 := by
  unfold encV; split
  · exact varL_length _ _
  · simp

def decV : List UInt8 → Nat
  | [] => 0
  | b :: r => b.toNat % 128 + 128 * decV r
theorem decV_lt (l : List UInt8) : decV l < 128 ^ l.length := by
  induction l with
  | nil => simp [decV]
  | cons b r ih => simp only [decV, List.length_cons, Nat.pow_succ]; omega
theorem decV_append (l m : List UInt8) : decV (l ++ m) = decV l + 128 ^ l.length * decV m := by
  induction l with
  | nil => simp [decV]
  | cons b r ih =>
    simp only [List.cons_append, decV, ih, List.length_cons, Nat.pow_succ]
    rw [Nat.mul_add, Nat.mul_comm (128 ^ r.length) 128, Nat.mul_assoc]; omega
theorem decV_le {l : List UInt8} (h : l.length ≤ 7) : decV l ≤ 562949953421311 := by
  have h1 := decV_lt l
  have h2 : 128 ^ l.length ≤ 128 ^ 7 := Nat.pow_le_pow_right (by omega) h
  have h3 : 128 ^ 7 = 562949953421312 := by decide
  omega

def canonNZ : List UInt8 → Bool
  | [] => false
  | [b] => decide (b.toNat < 128) && decide (b.toNat ≠ 0)
  | b :: c :: r => decide (128 ≤ b.toNat) && canonNZ (c :: r)
def canonB : List UInt8 → Bool
  | [] => false
  | [b] => decide (b.toNat < 128)
  | b :: c :: r => decide (128 ≤ b.toNat) && canonNZ (c :: r)

theorem ofNat_toNat_lt {n : Nat} (h : n < 256) : (UInt8.ofNat n).toNat = n := by
  simp; omega
theorem u8_eq {b : UInt8} {n : Nat} (h : b.toNat = n) : UInt8.ofNat n = b := by
  subst h; simp

theorem canonNZ_varL (f n : Nat) (hn : 0 < n) (h : n < 128 ^ (f + 1)) : canonNZ (varL f n) = true := by
  induction f generalizing n with
  | zero =>
    have : n < 128 := by simpa using h
    simp only [varL, canonNZ, ofNat_toNat_lt (show n < 256 by omega)]
    simp; omega
  | succ f ih =>
    by_cases h8 : n < 128
    · rw [varL_small _ _ h8]
      simp only [canonNZ, ofNat_toNat_lt (show n < 256 by omega)]
      simp; omega
    · rw [varL_big _ _ (by omega)]
      have h1 : n / 128 < 128 ^ (f + 1) := by
        rw [Nat.pow_succ] at h
        exact Nat.div_lt_of_lt_mul (by rw [Nat.mul_comm]; exact h)
      have := ih (n / 128) (by omega) h1
      revert this
      cases hv : varL f (n / 128) with
      | nil => simp [canonNZ]
      | cons c r =>
        intro this
        simp only [canonNZ, this, ofNat_toNat_lt (show n % 128 + 128 < 256 by omega)]
        simp
theorem canonB_varL (f n : Nat) (h : n < 128 ^ (f + 1)) : canonB (varL f n) = true := by
  cases f with
  | zero =>
    have : n < 128 := by simpa using h
    simp only [varL, canonB, ofNat_toNat_lt (show n < 256 by omega)]
    simp; omega
  | succ f =>
    by_cases h8 : n < 128
    · rw [varL_small _ _ h8]
      simp only [canonB, ofNat_toNat_lt (show n < 256 by omega)]
      simp; omega
    · rw [varL_big _ _ (by omega)]
      have h1 : n / 128 < 128 ^ (f + 1) := by
        rw [Nat.pow_succ] at h
        exact Nat.div_lt_of_lt_mul (by rw [Nat.mul_comm]; exact h)
      have := canonNZ_varL f (n / 128) (by omega) h1
      revert this
      cases hv : varL f (n / 128) with
      | nil => simp [canonNZ]
      | cons c r =>
        intro this
        simp only [canonB, this, ofNat_toNat_lt (show n % 128 + 128 < 256 by omega)]
        simp
theorem canonNZ_pos {l : List UInt8} (h : canonNZ l = true) : 0 < decV l := by
  induction l with
  | nil => simp [canonNZ] at h
  | cons b r ih =>
    cases r with
    | nil =>
      simp [canonNZ] at h
      have h2 : b.toNat ≠ 0 := h.2
      have : b.toNat < 128 := by simpa using h.1
      simp only [decV]; omega
    | cons c r =>
      simp [canonNZ] at h
      have := ih h.2
      simp only [decV] at *; omega
theorem varL_decV_NZ {l : List UInt8} (h : canonNZ l = true) : ∀ f, l.length ≤ f + 1 → varL f (decV l) = l := by
  induction l with
  | nil => simp [canonNZ] at h
  | cons b r ih =>
    intro f hf
    cases r with
    | nil =>
      simp [canonNZ] at h
      have hb : b.toNat < 128 := by simpa using h.1
      have e : decV [b] = b.toNat := by simp only [decV]; omega
      rw [e, varL_small _ _ hb, u8_eq rfl]
    | cons c r =>
      simp [canonNZ] at h
      have hb : 128 ≤ b.toNat := by simpa using h.1
      have hlt := b.toNat_lt
      have hp := canonNZ_pos h.2
      obtain ⟨f, rfl⟩ : ∃ g, f = g + 1 := ⟨f - 1, by simp at hf; omega⟩
      have e : decV (b :: c :: r) = b.toNat % 128 + 128 * decV (c :: r) := rfl
      rw [e, varL_big _ _ (by omega), show (b.toNat % 128 + 128 * decV (c :: r)) / 128 = decV (c :: r) by omega,
        ih h.2 f (by simp at hf ⊢; omega), u8_eq (b := b) (by omega)]
theorem varL_decV {l : List UInt8} (h : canonB l = true) (f : Nat) (hf : l.length ≤ f + 1) : varL f (decV l) = l := by
  match l, h with
  | [b], h =>
    have hb : b.toNat < 128 := by simpa [canonB] using h
    have e : decV [b] = b.toNat := by simp only [decV]; omega
    rw [e, varL_small _ _ hb, u8_eq rfl]
  | b :: c :: r, h =>
    simp [canonB] at h
    have hb : 128 ≤ b.toNat := by simpa using h.1
    have hlt := b.toNat_lt
    have hp := canonNZ_pos h.2
    obtain ⟨f, rfl⟩ : ∃ g, f = g + 1 := ⟨f - 1, by simp at hf; omega⟩
    have e : decV (b :: c :: r) = b.toNat % 128 + 128 * decV (c :: r) := rfl
    rw [e, varL_big _ _ (by omega), show (b.toNat % 128 + 128 * decV (c :: r)) / 128 = decV (c :: r) by omega,
      varL_decV_NZ h.2 f (by simp at hf ⊢; omega), u8_eq (b := b) (by omega)]
theorem encV_decV {l : List UInt8} (h7 : l.length ≤ 7) : encV (decV l) = l ↔ canonB l = true := by
  have hle := decV_le h7
  have e : encV (decV l) = varL 6 (decV l) := by
    unfold encV; rw [if_pos ⟨by omega, by omega⟩]; simp
  rw [e]
  constructor
  · intro h
    rw [← h]
    exact canonB_varL 6 _ (by have : 128 ^ (6 + 1) = 562949953421312 := by decide
                              omega)
  · intro h
    exact varL_decV h 6 (by omega)

/-! ### The two ways to decode -/
def resVAux (s : List UInt8) : Nat → Nat → Nat × Nat
  | 0, _ => (0, 0)
  | f + 1, k => match s[k]? with
    | none => (0, 0)
    | some b => if b.toNat < 128 then (if b.toNat = 0 ∧ 0 < k then (0, 0) else (decV (s.take (k + 1)), k + 1)) else resVAux s f (k + 1)
def resV (s : List UInt8) : Nat × Nat := resVAux s 7 0
def specVAux (s : List UInt8) : Nat → Nat → Nat × Nat
  | 0, _ => (0, 0)
  | f + 1, k => if k < s.length then (if canonB (s.take (k + 1)) = true then (decV (s.take (k + 1)), k + 1) else specVAux s f (k + 1)) else (0, 0)

theorem canonNZ_all {l : List UInt8} (h : canonNZ l = true) : ∀ i, i + 1 < l.length → 128 ≤ (l.getD i 0).toNat := by
  induction l with
  | nil => intro i hi; simp at hi
  | cons b r ih =>
    cases r with
    | nil => intro i hi; simp at hi
    | cons c r =>
      simp [canonNZ] at h
      intro i hi
      cases i with
      | zero => simpa using h.1
      | succ i => simpa using ih h.2 i (by simp at hi ⊢; omega)
theorem canonB_all {l : List UInt8} (h : canonB l = true) : ∀ i, i + 1 < l.length → 128 ≤ (l.getD i 0).toNat := by
  match l, h with
  | [b], h => intro i hi; simp at hi
  | b :: c :: r, h =>
    simp [canonB] at h
    intro i hi
    cases i with
    | zero => simpa using h.1
    | succ i => simpa using canonNZ_all h.2 i (by simp at hi ⊢; omega)
theorem canonNZ_last {l : List UInt8} {b : UInt8} (hl : ∀ c ∈ l, 128 ≤ c.toNat) : canonNZ (l ++ [b]) = (decide (b.toNat < 128) && decide (b.toNat ≠ 0)) := by
  induction l with
  | nil => rfl
  | cons c r ih =>
    have hc := hl c (by simp)
    have := ih fun d hd => hl d (by simp [hd])
    cases r with
    | nil => simp only [List.cons_append, List.nil_append, canonNZ]; simp [hc]
    | cons d r => simp only [List.cons_append, canonNZ] at this ⊢; rw [this]; simp [hc]
theorem canonB_last {l : List UInt8} {b : UInt8} (hl : ∀ c ∈ l, 128 ≤ c.toNat) : canonB (l ++ [b]) = (decide (b.toNat < 128) && (decide (b.toNat ≠ 0) || decide (l = []))) := by
  cases l with
  | nil => simp [canonB]
  | cons c r =>
    have hc := hl c (by simp)
    have := canonNZ_last (l := r) (b := b) fun d hd => hl d (by simp [hd])
    cases r with
    | nil => simp only [List.cons_append, List.nil_append, canonB, canonNZ]; simp [hc]
    | cons d r => simp only [List.cons_append, canonB] at this ⊢; rw [this]; simp [hc]

theorem specV_dead (s : List UInt8) (i : Nat) (h : (s.getD i 0).toNat < 128) : ∀ f k, i < k → specVAux s f k = (0, 0) := by
  intro f
  induction f with
  | zero => intro k _; rfl
  | succ f ih =>
    intro k hk
    unfold specVAux
    split
    · rename_i hlt
      rw [if_neg, ih (k + 1) (by omega)]
      intro hc
      have := canonB_all hc i (by rw [List.length_take]; omega)
      rw [List.getD_eq_getElem?_getD, List.getElem?_take, if_pos (by omega), ← List.getD_eq_getElem?_getD] at this
      omega
    · rfl
theorem specV_eq (s : List UInt8) : ∀ f k, (∀ i, i < k → i < s.length → 128 ≤ (s.getD i 0).toNat) → specVAux s f k = resVAux s f k := by
  intro f
  induction f with
  | zero => intro k _; rfl
  | succ f ih =>
    intro k hk
    unfold specVAux resVAux
    by_cases hlt : k < s.length
    · rw [if_pos hlt, List.getElem?_eq_getElem hlt]
      simp only
      have htk : s.take (k + 1) = s.take k ++ [s[k]] := List.take_succ_eq_append_getElem hlt
      have hall : ∀ c ∈ s.take k, 128 ≤ c.toNat := by
        intro c hc
        obtain ⟨i, hi, rfl⟩ := List.mem_iff_getElem.1 hc
        rw [List.length_take] at hi
        have := hk i (by omega) (by omega)
        rw [List.getElem_take]
        rw [List.getD_eq_getElem?_getD, List.getElem?_eq_getElem (by omega)] at this
        exact this
      have hcan := canonB_last (b := s[k]) hall
      rw [← htk] at hcan
      have hnil : s.take k = [] ↔ k = 0 := by
        rw [List.take_eq_nil_iff]
        constructor
        · rintro (h | h)
          · exact h
          · subst h; simp at hlt
        · exact .inl
      by_cases hb : s[k].toNat < 128
      · rw [if_pos hb]
        by_cases hz : s[k].toNat = 0 ∧ 0 < k
        · rw [if_pos hz, if_neg]
          · exact specV_dead s k (by rw [List.getD_eq_getElem?_getD, List.getElem?_eq_getElem hlt]; exact hb) f (k + 1) (by omega)
          · rw [hcan]
            have h1 : ¬ s.take k = [] := fun e => by have := hnil.1 e; omega
            simp [hz.1, h1]
        · rw [if_neg hz, if_pos]
          rw [hcan]
          simp only [Bool.and_eq_true, Bool.or_eq_true, decide_eq_true_eq]
          refine ⟨hb, ?_⟩
          by_cases h0 : s[k].toNat = 0
          · right; exact hnil.2 (by omega)
          · left; exact h0
      · rw [if_neg hb, if_neg]
        · refine ih (k + 1) fun i hi hil => ?_
          rcases Nat.lt_or_ge i k with h | h
          · exact hk i h hil
          · obtain rfl : i = k := by omega
            rw [List.getD_eq_getElem?_getD, List.getElem?_eq_getElem hlt]
            show 128 ≤ s[i].toNat
            omega
        · rw [hcan]; simp [hb]
    · rw [if_neg hlt, List.getElem?_eq_none (by omega)]

end Go.Proofs.YtacegndmclnbnaaDoor
