/- The shapes with one more cell, in order, each once; the shapes of n cells. Plain. -/
import Derived.Test.YthhaojbnnacdbaaOrientM
import Derived.Test.YthhaojbnnacdbaaSd
namespace Go.Proofs.Ythhaojbnnacdbaa
open Go.RowKit

def addC (cs : List C) (d : C) : List C := cornerC (sortC (cs ++ [d]))
theorem addC_len (cs : List C) (d : C) : (addC cs d).length ≤ cs.length + 1 := by
  have h := sortC_le (cs ++ [d])
  unfold addC
  rw [cornerC_len]
  simpa using h
def extStep (cs : List C) (ls : L2) (d : C) : L2 := if memC cs d.1 d.2 = true then ls else if isShape (addC cs d) = true then insS (addC cs d) ls else ls
def extTo (cs : List C) (ds : List C) : L2 := ds.foldl (extStep cs) []
theorem extTo_snoc (cs ds : List C) (d : C) : extTo cs (ds ++ [d]) = extStep cs (extTo cs ds) d := by unfold extTo; rw [List.foldl_append]; rfl
theorem extStep_in {cs : List C} {d : C} (ls : L2) (h : memC cs d.1 d.2 = true) : extStep cs ls d = ls := by unfold extStep; rw [if_pos h]
theorem extStep_off {cs : List C} {d : C} (ls : L2) (h : memC cs d.1 d.2 = false) (h2 : isShape (addC cs d) = false) : extStep cs ls d = ls := by unfold extStep; rw [h, h2]; rfl
theorem extStep_on {cs : List C} {d : C} (ls : L2) (h : memC cs d.1 d.2 = false) (h2 : isShape (addC cs d) = true) : extStep cs ls d = insS (addC cs d) ls := by unfold extStep; rw [h, h2]; rfl
theorem extStep_cases (cs : List C) (ls : L2) (d : C) : (extStep cs ls d = ls ∧ ¬ (memC cs d.1 d.2 = false ∧ isShape (addC cs d) = true)) ∨ (extStep cs ls d = insS (addC cs d) ls ∧ memC cs d.1 d.2 = false ∧ isShape (addC cs d) = true) := by
  cases h : memC cs d.1 d.2 with
  | true => exact Or.inl ⟨extStep_in ls h, by simp⟩
  | false =>
    cases h2 : isShape (addC cs d) with
    | false => exact Or.inl ⟨extStep_off ls h h2, by simp⟩
    | true => exact Or.inr ⟨extStep_on ls h h2, rfl, rfl⟩
theorem extFold_sorted (cs : List C) : ∀ (ds : List C) (ls : L2), SortedS ls → SortedS (ds.foldl (extStep cs) ls)
  | [], _, h => h
  | d :: r, ls, h => by
    refine extFold_sorted cs r _ ?_
    rcases extStep_cases cs ls d with ⟨e, _⟩ | ⟨e, _⟩ <;> rw [e]
    · exact h
    · exact insS_sorted _ h
theorem extTo_sorted (cs ds : List C) : SortedS (extTo cs ds) := extFold_sorted cs ds [] List.Pairwise.nil
theorem extFold_mem (cs : List C) (x : List C) : ∀ (ds : List C) (ls : L2), x ∈ ds.foldl (extStep cs) ls ↔ x ∈ ls ∨ ∃ d, d ∈ ds ∧ memC cs d.1 d.2 = false ∧ isShape (addC cs d) = true ∧ x = addC cs d
  | [], ls => by simp
  | d :: r, ls => by
    show x ∈ r.foldl (extStep cs) (extStep cs ls d) ↔ _
    rw [extFold_mem cs x r]
    rcases extStep_cases cs ls d with ⟨e, hn⟩ | ⟨e, h1, h2⟩
    · rw [e]
      constructor
      · rintro (h | ⟨c, hc, h⟩)
        · exact Or.inl h
        · exact Or.inr ⟨c, List.mem_cons_of_mem _ hc, h⟩
      · rintro (h | ⟨c, hc, h1, h2, h3⟩)
        · exact Or.inl h
        · rcases List.mem_cons.1 hc with rfl | hc
          · exact absurd ⟨h1, h2⟩ hn
          · exact Or.inr ⟨c, hc, h1, h2, h3⟩
    · rw [e, insS_mem]
      constructor
      · rintro ((h | h) | ⟨c, hc, h⟩)
        · exact Or.inr ⟨d, List.mem_cons_self .., h1, h2, h⟩
        · exact Or.inl h
        · exact Or.inr ⟨c, List.mem_cons_of_mem _ hc, h⟩
      · rintro (h | ⟨c, hc, g1, g2, g3⟩)
        · exact Or.inl (Or.inr h)
        · rcases List.mem_cons.1 hc with rfl | hc
          · exact Or.inl (Or.inl g3)
          · exact Or.inr ⟨c, hc, g1, g2, g3⟩
theorem extTo_mem (cs ds : List C) (x : List C) : x ∈ extTo cs ds ↔ ∃ d, d ∈ ds ∧ memC cs d.1 d.2 = false ∧ isShape (addC cs d) = true ∧ x = addC cs d := by
  unfold extTo; rw [extFold_mem]; simp
theorem extFold_len (cs : List C) : ∀ (ds : List C) (ls : L2), (ds.foldl (extStep cs) ls).length ≤ ls.length + ds.length
  | [], ls => by simp
  | d :: r, ls => by
    show (r.foldl (extStep cs) (extStep cs ls d)).length ≤ _
    have h := extFold_len cs r (extStep cs ls d)
    have h2 : (extStep cs ls d).length ≤ ls.length + 1 := by
      rcases extStep_cases cs ls d with ⟨e, _⟩ | ⟨e, _⟩ <;> rw [e]
      · omega
      · exact insS_len _ _
    simp only [List.length_cons]; omega
theorem extTo_len (cs ds : List C) : (extTo cs ds).length ≤ ds.length := by have := extFold_len cs ds []; simpa [extTo] using this
theorem extTo_short (cs ds : List C) : shortS (extTo cs ds) := by
  intro x hx
  obtain ⟨d, _, _, h, rfl⟩ := (extTo_mem cs ds x).1 hx
  have := shape_len h
  omega
theorem sidesL_len (c : C) : (sidesL c).length = 4 := rfl
theorem flat_sides_len (cs : List C) : (cs.flatMap sidesL).length = 4 * cs.length := by
  induction cs with
  | nil => rfl
  | cons a r ih => rw [List.flatMap_cons, List.length_append, ih, List.length_cons, sidesL_len]; omega
theorem flat_sidesR_len (cs : List C) : (cs.flatMap sidesR).length = 4 * cs.length := by
  induction cs with
  | nil => rfl
  | cons a r ih => rw [List.flatMap_cons, List.length_append, ih, List.length_cons, show (sidesR a).length = 4 from rfl]; omega
/-- the shapes with one more cell -/
def extC (cs : List C) : L2 := extTo cs (cs.flatMap sidesL)
theorem extC_ref (cs : List C) : extTo cs (cs.flatMap sidesR) = extC cs := by
  refine sortedS_unique (extTo_sorted _ _) (extTo_sorted _ _) fun x => ?_
  rw [extC, extTo_mem, extTo_mem]
  simp only [List.mem_flatMap, sides_same]
theorem extC_len (cs : List C) : (extC cs).length ≤ 4 * cs.length := by
  have := extTo_len cs (cs.flatMap sidesL)
  rw [flat_sides_len] at this
  exact this
theorem extC_each (cs : List C) : ∀ x, x ∈ extC cs → x.length ≤ 8 := by
  intro x hx
  obtain ⟨d, _, _, h, rfl⟩ := (extTo_mem _ _ x).1 hx
  exact (shape_len h).2
/-- what ExtensionsOf hands back -/
def extL (cs : List C) : L2 := if (isShape cs && decide (cs.length < 8)) = true then extC cs else []
theorem extL_nice (cs : List C) : (extL cs).length ≤ 1048576 ∧ totS (extL cs) ≤ 1048576 := by
  unfold extL
  split
  · rename_i h
    simp at h
    have h1 := extC_len cs
    have h2 := totS_le (extC_each cs)
    have h3 := Nat.mul_le_mul_right 8 h1
    omega
  · simp [totS]
end Go.Proofs.Ythhaojbnnacdbaa
