/- ParseInt: the plain law (of no program): what the reference reads of the first bytes, and what the library's Atoi with a second look reads, is the same number, or none. And the two walks. -/
import Derived.Test.YtacegndmclnbnaaDoorNum
import Derived.Lib.AtoiTie
import Derived.Lib.AtoiBound
import Derived.Lib.ItoaMem
namespace Go.Proofs.YtacegndmclnbnaaDoor
open Go.RowKit
set_option linter.unusedVariables false

/-- the number that a text of at most nine digits is written as -/
def pI (l : List UInt8) : Option Int :=
  match Lib.atoi l with
  | some n => if -999999999 ≤ n ∧ n ≤ 999999999 ∧ Lib.itoa n = l then some n else none
  | none => none
/-- one byte read by the reference: the number and how many digits it has -/
def dstep (s : Nat × Nat) (b : UInt8) : Nat × Nat := if 48 ≤ b.toNat ∧ b.toNat ≤ 57 then (s.1 * 10 + (b.toNat - 48), s.2 + 1) else s
def dread (l : List UInt8) : Nat × Nat := l.foldl dstep (0, 0)

theorem dstep_digit (s : Nat × Nat) {d : Nat} (h : d < 10) : dstep s (UInt8.ofNat (48 + d)) = (s.1 * 10 + d, s.2 + 1) := by
  have e : (UInt8.ofNat (48 + d)).toNat = 48 + d := by rw [UInt8.toNat_ofNat']; omega
  unfold dstep
  rw [e, if_pos (by omega)]
  simp
theorem digitVal_digit {d : Nat} (h : d < 10) : Lib.digitVal (UInt8.ofNat (48 + d)) = some d := by
  have e : ∀ d : Fin 10, Lib.digitVal (UInt8.ofNat (48 + d.val)) = some d.val := by decide
  exact e ⟨d, h⟩
theorem dread_digits (u : Nat) : ∀ s : Nat × Nat, (Lib.decDigits u).foldl dstep s = (s.1 * 10 ^ (Lib.decDigits u).length + u, s.2 + (Lib.decDigits u).length) := by
  induction u using Nat.strongRecOn with
  | _ u ih =>
    intro s
    rw [Lib.decDigits]
    by_cases h : u < 10
    · rw [dif_pos h, List.foldl_cons, List.foldl_nil, dstep_digit s h, List.length_singleton, Nat.pow_one]
    · rw [dif_neg h, List.foldl_append, ih (u / 10) (by omega), List.foldl_cons, List.foldl_nil, dstep_digit _ (by omega)]
      simp only [List.length_append, List.length_singleton, Nat.pow_succ, Prod.mk.injEq]
      refine ⟨?_, by omega⟩
      rw [Nat.add_mul, Nat.mul_assoc]
      omega
theorem decFrom_app (a b : List UInt8) : ∀ n, Lib.decFrom n (a ++ b) = (Lib.decFrom n a).bind (Lib.decFrom · b) := by
  induction a with
  | nil => intro n; rfl
  | cons x t ih =>
    intro n
    simp only [List.cons_append, Lib.decFrom]
    cases Lib.digitVal x with
    | none => rfl
    | some d => exact ih _
theorem decFrom_digits (u : Nat) : Lib.decFrom 0 (Lib.decDigits u) = some u := by
  induction u using Nat.strongRecOn with
  | _ u ih =>
    rw [Lib.decDigits]
    by_cases h : u < 10
    · rw [dif_pos h, Lib.decFrom, digitVal_digit h]
      simp [Lib.decFrom]
    · rw [dif_neg h, decFrom_app, ih (u / 10) (by omega)]
      simp only [Option.bind_some, Lib.decFrom, digitVal_digit (show u % 10 < 10 by omega), Option.some.injEq]
      omega
theorem decDigits_ne (u : Nat) : Lib.decDigits u ≠ [] := by
  rw [Lib.decDigits]
  split <;> simp
theorem decNat_digits (u : Nat) : Lib.decNat (Lib.decDigits u) = some u := by
  unfold Lib.decNat
  rw [decFrom_digits, if_neg (by simpa using decDigits_ne u)]
theorem head_digit (u : Nat) : ∃ b r, Lib.decDigits u = b :: r ∧ 48 ≤ b.toNat ∧ b.toNat ≤ 57 := by
  induction u using Nat.strongRecOn with
  | _ u ih =>
    rw [Lib.decDigits]
    by_cases h : u < 10
    · rw [dif_pos h]
      refine ⟨_, _, rfl, ?_⟩
      have e : (UInt8.ofNat (48 + u)).toNat = 48 + u := by rw [UInt8.toNat_ofNat']; omega
      rw [e]
      omega
    · rw [dif_neg h]
      obtain ⟨b, r, hbr, h1⟩ := ih (u / 10) (by omega)
      exact ⟨b, r ++ [_], by rw [hbr]; rfl, h1⟩
theorem digits_len : ∀ (k u : Nat), u < 10 ^ (k + 1) → (Lib.decDigits u).length ≤ k + 1 := by
  intro k
  induction k with
  | zero => intro u h; rw [Lib.decDigits, dif_pos (by simpa using h)]; simp
  | succ k ih =>
    intro u h
    rw [Lib.decDigits]
    split
    · simp
    · rw [List.length_append, List.length_singleton]
      have := ih (u / 10) (by rw [Nat.pow_succ] at h; omega)
      omega
theorem atoi_itoa (n : Int) : Lib.atoi (Lib.itoa n) = some n := by
  by_cases h : n < 0
  · obtain ⟨u, rfl⟩ : ∃ u : Nat, n = -(u : Int) := ⟨n.natAbs, by omega⟩
    rw [Lib.itoa_neg u (by omega)]
    simp only [Lib.atoi, decNat_digits]
    rfl
  · obtain ⟨u, rfl⟩ : ∃ u : Nat, n = u := ⟨n.toNat, by omega⟩
    rw [Lib.itoa_nonneg]
    obtain ⟨b, r, hbr, h0, h1⟩ := head_digit u
    have hd := decNat_digits u
    rw [hbr] at hd ⊢
    have n45 : (b == 45) = false := by simpa using fun e : b = 45 => by subst e; simp at h0
    have n43 : (b == 43) = false := by simpa using fun e : b = 43 => by subst e; simp at h0
    simp only [Lib.atoi, n45, n43, hd]
    rfl
theorem itoa_small {n : Int} (h0 : -999999999 ≤ n) (h1 : n ≤ 999999999) : 1 ≤ (Lib.itoa n).length ∧ (Lib.itoa n).length ≤ 10 := by
  by_cases h : n < 0
  · obtain ⟨u, rfl⟩ : ∃ u : Nat, n = -(u : Int) := ⟨n.natAbs, by omega⟩
    rw [Lib.itoa_neg u (by omega), List.length_cons]
    have := digits_len 8 u (by omega)
    omega
  · obtain ⟨u, rfl⟩ : ∃ u : Nat, n = u := ⟨n.toNat, by omega⟩
    rw [Lib.itoa_nonneg]
    have := digits_len 8 u (by omega)
    have := List.length_pos_iff.2 (decDigits_ne u)
    omega
theorem pI_itoa {n : Int} (h0 : -999999999 ≤ n) (h1 : n ≤ 999999999) : pI (Lib.itoa n) = some n := by
  unfold pI
  rw [atoi_itoa]
  simp only []
  rw [if_pos (by simp [h0, h1])]
theorem pI_some {l : List UInt8} {n : Int} (h : pI l = some n) : -999999999 ≤ n ∧ n ≤ 999999999 ∧ Lib.itoa n = l ∧ Lib.atoi l = some n := by
  unfold pI at h
  split at h
  · rename_i m hm
    split at h
    · rename_i hc
      obtain rfl := Option.some.inj h
      exact ⟨hc.1, hc.2.1, hc.2.2, hm⟩
    · cases h
  · cases h
theorem pI_long {l : List UInt8} (h : l.length < 1 ∨ 10 < l.length) : pI l = none := by
  cases hp : pI l with
  | none => rfl
  | some n =>
    obtain ⟨h0, h1, rfl, _⟩ := pI_some hp
    have := itoa_small h0 h1
    omega
theorem pI_fail {l : List UInt8} (h : Lib.atoi l = none) : pI l = none := by unfold pI; rw [h]
theorem pI_far {l : List UInt8} {n : Int} (h : Lib.atoi l = some n) (hn : n < -999999999 ∨ 999999999 < n ∨ Lib.itoa n ≠ l) : pI l = none := by
  unfold pI
  rw [h]
  simp only []
  rw [if_neg]
  rintro ⟨a, b, c⟩
  rcases hn with h | h | h
  · omega
  · omega
  · exact h c
theorem pI_near {l : List UInt8} {n : Int} (h0 : -999999999 ≤ n) (h1 : n ≤ 999999999) (h : Lib.itoa n = l) : pI l = some n := by subst h; exact pI_itoa h0 h1

/-! ### what the reference reads -/
theorem dread_snoc {l : List UInt8} {k : Nat} {b : UInt8} (h : l[k]? = some b) : dread (l.take (k + 1)) = dstep (dread (l.take k)) b := by
  have e : l.take (k + 1) = l.take k ++ [b] := by rw [List.take_add_one, h]; rfl
  unfold dread
  rw [e, List.foldl_append]
  rfl
theorem dread_lt : ∀ (l : List UInt8) (s : Nat × Nat), s.1 < 10 ^ s.2 → (l.foldl dstep s).1 < 10 ^ (l.foldl dstep s).2 ∧ (l.foldl dstep s).2 ≤ s.2 + l.length := by
  intro l
  induction l with
  | nil => intro s h; exact ⟨h, Nat.le_refl _⟩
  | cons b t ih =>
    intro s h
    rw [List.foldl_cons]
    have hs : (dstep s b).1 < 10 ^ (dstep s b).2 ∧ (dstep s b).2 ≤ s.2 + 1 := by
      unfold dstep
      split
      · refine ⟨?_, Nat.le_refl _⟩
        simp only [Nat.pow_succ]
        omega
      · exact ⟨h, by omega⟩
    have := ih _ hs.1
    exact ⟨this.1, by have := this.2; rw [List.length_cons]; omega⟩
theorem dread_bound (l : List UInt8) : (dread l).1 < 10 ^ (dread l).2 ∧ (dread l).2 ≤ l.length := by
  have := dread_lt l (0, 0) (by decide)
  exact ⟨this.1, by have h2 := this.2; rw [Nat.zero_add] at h2; exact h2⟩
/-- the number of the reference -/
def sread (l : List UInt8) : Int := if l.head? = some 45 then -((dread (l.take 11)).1 : Int) else (dread (l.take 11)).1
theorem sread_itoa {n : Int} (h0 : -999999999 ≤ n) (h1 : n ≤ 999999999) : sread (Lib.itoa n) = n ∧ (dread ((Lib.itoa n).take 11)).2 ≤ 9 := by
  have hl := itoa_small h0 h1
  rw [sread, List.take_of_length_le (by omega)]
  by_cases h : n < 0
  · obtain ⟨u, rfl⟩ : ∃ u : Nat, n = -(u : Int) := ⟨n.natAbs, by omega⟩
    rw [Lib.itoa_neg u (by omega), dread, List.foldl_cons, show dstep (0, 0) 45 = (0, 0) from rfl, dread_digits]
    have := digits_len 8 u (by omega)
    simp; omega
  · obtain ⟨u, rfl⟩ : ∃ u : Nat, n = u := ⟨n.toNat, by omega⟩
    rw [Lib.itoa_nonneg, dread, dread_digits]
    have := digits_len 8 u (by omega)
    obtain ⟨b, r, hbr, h2, h3⟩ := head_digit u
    have n45 : b ≠ 45 := fun e => by subst e; simp at h2
    have hh : (Lib.decDigits u).head? ≠ some 45 := by rw [hbr]; simpa using n45
    rw [if_neg hh]
    simp; omega
theorem pI_spec_none {l : List UInt8} (h : 9 < (dread (l.take 11)).2 ∨ 10 < l.length ∨ Lib.itoa (sread l) ≠ l) : pI l = none := by
  cases hp : pI l with
  | none => rfl
  | some n =>
    exfalso
    obtain ⟨h0, h1, rfl, _⟩ := pI_some hp
    have := itoa_small h0 h1
    have hs := sread_itoa h0 h1
    rcases h with h | h | h
    · omega
    · omega
    · rw [hs.1] at h; exact h rfl
theorem pI_spec_some {l : List UInt8} (h : (dread (l.take 11)).2 ≤ 9) (he : Lib.itoa (sread l) = l) : pI l = some (sread l) := by
  have hb := dread_bound (l.take 11)
  have : (dread (l.take 11)).1 < 10 ^ 9 := Nat.lt_of_lt_of_le hb.1 (Nat.pow_le_pow_right (by omega) h)
  refine pI_near ?_ ?_ he <;> unfold sread <;> split <;> omega
end Go.Proofs.YtacegndmclnbnaaDoor
