/- IsRowConvex, the program's and the reference's. Condition: slices of at most 2^20 cells. -/
import Derived.Test.YthhaojbnnacdbaaNear
import Derived.Test.YthhaojbnnacdbaaHas
namespace Go.Proofs.Ythhaojbnnacdbaa
open Go.RowKit

def gapOk (cs : List C) (a b : C) : Prop := a.2 = b.2 → ∀ x, a.1 < x → x < b.1 → memC cs x a.2 = true
def follows (cs : List C) : Prop := ∀ i j : Nat, i < cs.length → j < cs.length → gapOk cs (cs.getD i (0, 0)) (cs.getD j (0, 0))
theorem getD_of {cs : List C} {k : Nat} {c : C} (h : cs[k]? = some c) : cs.getD k (0, 0) = c := by simp [List.getD_eq_getElem?_getD, h]


/-! ### Plain law: rows that follow, and cells one behind another -/
def stepOk (a b : C) : Prop := b.2 = a.2 → b.1 = a.1 + 1
def consec (cs : List C) : Prop := ∀ k : Nat, k + 1 < cs.length → stepOk (cs.getD k (0, 0)) (cs.getD (k + 1) (0, 0))
theorem bef_trans {a b c : C} (h1 : bef a b = true) (h2 : bef b c = true) : bef a c = true := by
  rw [bef_iff] at *; omega
theorem get_some {cs : List C} {k : Nat} (h : k < cs.length) : cs[k]? = some (cs.getD k (0, 0)) := by simp [h]
theorem shape_step {cs : List C} (h : isShape cs = true) {k : Nat} (hk : k + 1 < cs.length) : bef (cs.getD k (0, 0)) (cs.getD (k + 1) (0, 0)) = true := by
  unfold isShape at h
  have h1 := (Bool.and_eq_true _ _ ▸ h).1
  have := okTo_all h1 (k + 1) hk
  rw [okAt_next (p := cs.getD k (0, 0)) (by omega) (by rw [Nat.add_sub_cancel]; exact get_some (by omega)) (get_some hk)] at this
  exact (Bool.and_eq_true _ _ ▸ this).2
theorem shape_far {cs : List C} (h : isShape cs = true) {k : Nat} : ∀ d, k + (d + 1) < cs.length → bef (cs.getD k (0, 0)) (cs.getD (k + (d + 1)) (0, 0)) = true
  | 0, hk => shape_step h hk
  | d + 1, hk => bef_trans (shape_far h d (by omega)) (shape_step (k := k + (d + 1)) h hk)
theorem shape_lt {cs : List C} (h : isShape cs = true) {k m : Nat} (hkm : k < m) (hm : m < cs.length) : bef (cs.getD k (0, 0)) (cs.getD m (0, 0)) = true := by
  have := shape_far h (k := k) (m - k - 1) (by omega)
  rwa [show k + (m - k - 1 + 1) = m by omega] at this
theorem memC_iff {cs : List C} {x y : Int} : memC cs x y = true ↔ ∃ k, k < cs.length ∧ cs.getD k (0, 0) = (x, y) := by
  unfold memC
  rw [List.any_eq_true]
  constructor
  · rintro ⟨c, hc, h⟩
    obtain ⟨k, hk, rfl⟩ := List.getElem_of_mem hc
    refine ⟨k, hk, ?_⟩
    simp at h
    simp [hk]
    exact Prod.ext h.1 h.2
  · rintro ⟨k, hk, h⟩
    refine ⟨cs[k], List.getElem_mem hk, ?_⟩
    have : cs.getD k (0, 0) = cs[k] := by simp [hk]
    rw [← this, h]
    simp
theorem follows_iff {cs : List C} (h : isShape cs = true) : follows cs ↔ consec cs := by
  constructor
  · intro hf k hk hrow
    have hb := (bef_iff _ _).1 (shape_step h hk)
    have hg := hf k (k + 1) (by omega) hk hrow.symm ((cs.getD k (0, 0)).1 + 1) (by omega)
    by_cases hx : (cs.getD (k + 1) (0, 0)).1 = (cs.getD k (0, 0)).1 + 1
    · exact hx
    · obtain ⟨j, hj, hv⟩ := memC_iff.1 (hg (by omega))
      exfalso
      by_cases h1 : j ≤ k
      · have hle : j = k ∨ bef (cs.getD j (0, 0)) (cs.getD k (0, 0)) = true := by
          rcases Nat.lt_or_ge j k with h2 | h2
          · exact Or.inr (shape_lt h h2 (by omega))
          · exact Or.inl (by omega)
        rcases hle with rfl | hle
        · rw [hv] at hx hb; simp only at hx hb; have := congrArg Prod.fst hv; simp only at this; omega
        · rw [bef_iff, hv] at hle; simp only at hle; omega
      · have hle : j = k + 1 ∨ bef (cs.getD (k + 1) (0, 0)) (cs.getD j (0, 0)) = true := by
          rcases Nat.lt_or_ge (k + 1) j with h2 | h2
          · exact Or.inr (shape_lt h h2 hj)
          · exact Or.inl (by omega)
        rcases hle with rfl | hle
        · rw [hv] at hx; exact hx rfl
        · rw [bef_iff, hv] at hle; simp only at hle; omega
  · intro hc i j hi hj hrow x h1 h2
    have hij : i < j := by
      rcases Nat.lt_trichotomy i j with h3 | h3 | h3
      · exact h3
      · subst h3; omega
      · have := (bef_iff _ _).1 (shape_lt h h3 hi); omega
    have key : ∀ d, i + d ≤ j → (cs.getD (i + d) (0, 0)).2 = (cs.getD i (0, 0)).2 ∧ (cs.getD (i + d) (0, 0)).1 = (cs.getD i (0, 0)).1 + d := by
      intro d
      induction d with
      | zero => intro _; simp
      | succ d ih =>
        intro hd
        obtain ⟨r1, r2⟩ := ih (by omega)
        have hb := (bef_iff _ _).1 (shape_step (k := i + d) h (by omega))
        have hrow2 : (cs.getD (i + (d + 1)) (0, 0)).2 = (cs.getD i (0, 0)).2 := by
          rcases Nat.lt_or_ge (i + (d + 1)) j with h3 | h3
          · have := (bef_iff _ _).1 (shape_lt h h3 hj)
            have e : i + d + 1 = i + (d + 1) := by omega
            rw [e] at hb
            omega
          · have e : i + (d + 1) = j := by omega
            rw [e]; exact hrow.symm
        refine ⟨hrow2, ?_⟩
        have := hc (i + d) (by omega) (by rw [r1]; exact hrow2)
        have e : i + d + 1 = i + (d + 1) := by omega
        rw [e] at this
        rw [this, r2]
        omega
    have hlast := key (j - i) (by omega)
    rw [show i + (j - i) = j by omega] at hlast
    have hx := key (x - (cs.getD i (0, 0)).1).toNat (by omega)
    exact memC_iff.2 ⟨i + (x - (cs.getD i (0, 0)).1).toNat, by omega, Prod.ext (by rw [hx.2]; omega) (by rw [hx.1])⟩

open Classical in
noncomputable def rowConvex (cs : List C) : Bool := isShape cs && decide (follows cs)


end Go.Proofs.Ythhaojbnnacdbaa
