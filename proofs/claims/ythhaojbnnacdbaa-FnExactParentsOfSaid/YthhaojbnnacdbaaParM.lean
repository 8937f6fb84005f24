/- The shapes with one cell less that hang together. Plain. -/
import Derived.Test.YthhaojbnnacdbaaOrientM
import Derived.Test.YthhaojbnnacdbaaConnS
namespace Go.Proofs.Ythhaojbnnacdbaa
open Go.RowKit

def dropAt (cs : List C) (i : Nat) : List C := cs.take i ++ cs.drop (i + 1)
noncomputable def parStep (cs : List C) (ls : L2) (i : Nat) : L2 := if connected (dropAt cs i) = true then insS (cornerC (dropAt cs i)) ls else ls
noncomputable def parTo (cs : List C) (k : Nat) : L2 := (List.range k).foldl (parStep cs) []
theorem parTo_zero (cs : List C) : parTo cs 0 = [] := rfl
theorem parTo_succ (cs : List C) (k : Nat) : parTo cs (k + 1) = parStep cs (parTo cs k) k := by
  unfold parTo
  rw [List.range_succ, List.foldl_append]
  rfl
theorem parTo_yes {cs : List C} {k : Nat} (h : connected (dropAt cs k) = true) : parTo cs (k + 1) = insS (cornerC (dropAt cs k)) (parTo cs k) := by rw [parTo_succ]; unfold parStep; rw [if_pos h]
theorem parTo_no {cs : List C} {k : Nat} (h : connected (dropAt cs k) = false) : parTo cs (k + 1) = parTo cs k := by rw [parTo_succ]; unfold parStep; rw [h]; rfl
theorem parTo_sorted (cs : List C) : ∀ k, SortedS (parTo cs k)
  | 0 => List.Pairwise.nil
  | k + 1 => by
    cases h : connected (dropAt cs k) with
    | true => rw [parTo_yes h]; exact insS_sorted _ (parTo_sorted cs k)
    | false => rw [parTo_no h]; exact parTo_sorted cs k
theorem parTo_len (cs : List C) : ∀ k, (parTo cs k).length ≤ k
  | 0 => Nat.le_refl _
  | k + 1 => by
    have h2 := parTo_len cs k
    cases h : connected (dropAt cs k) with
    | true => rw [parTo_yes h]; have h1 := insS_len (cornerC (dropAt cs k)) (parTo cs k); omega
    | false => rw [parTo_no h]; omega
theorem connected_is {cs : List C} (h : connected cs = true) : isShape cs = true := by
  unfold connected at h
  exact (Bool.and_eq_true _ _ ▸ h).1
theorem parTo_each (cs : List C) : ∀ k, ∀ x, x ∈ parTo cs k → x.length ≤ 8
  | 0, x, h => by cases h
  | k + 1, x, h => by
    cases hc : connected (dropAt cs k) with
    | true =>
      rw [parTo_yes hc, insS_mem] at h
      rcases h with rfl | h
      · rw [cornerC_len]; exact (shape_len (connected_is hc)).2
      · exact parTo_each cs k x h
    | false => rw [parTo_no hc] at h; exact parTo_each cs k x h
theorem parTo_short (cs : List C) (k : Nat) : shortS (parTo cs k) := fun x hx => by have := parTo_each cs k x hx; omega
/-- what ParentsOf hands back -/
noncomputable def parL (cs : List C) : L2 := if isShape cs = true then parTo cs cs.length else []
theorem parL_nice (cs : List C) : (parL cs).length ≤ 1048576 ∧ totS (parL cs) ≤ 1048576 := by
  unfold parL
  split
  · rename_i h
    have h0 := (shape_len h).2
    have h1 := parTo_len cs cs.length
    have h2 := totS_le (parTo_each cs cs.length)
    omega
  · simp [totS]
theorem dropAt_len {cs : List C} {i : Nat} (h : i < cs.length) : (dropAt cs i).length = cs.length - 1 := by unfold dropAt; simp; omega
theorem dropAt_mem {cs : List C} {i : Nat} {c : C} (h : c ∈ dropAt cs i) : c ∈ cs := by
  rcases List.mem_append.1 h with h | h
  · exact List.mem_of_mem_take h
  · exact List.mem_of_mem_drop h
theorem dropAt_sorted {cs : List C} (h : Sorted cs) (i : Nat) : Sorted (dropAt cs i) := by
  have hs : List.Sublist (cs.take i ++ cs.drop (i + 1)) (cs.take i ++ cs.drop i) := (List.Sublist.refl _).append (by rw [← List.drop_drop]; exact List.drop_sublist _ _)
  rw [List.take_append_drop] at hs
  exact List.Pairwise.sublist hs h
theorem dropAt_shape {cs : List C} (h : isShape cs = true) {i : Nat} (hi : i < cs.length) (h2 : 2 ≤ cs.length) : isShape (dropAt cs i) = true := by
  have hl := shape_len h
  have hd := dropAt_len hi
  refine isShape_mk (dropAt_sorted (shape_sorted h) i) (fun c hc => ?_) (by omega) (by omega)
  obtain ⟨k, hk, e⟩ := List.getElem_of_mem (dropAt_mem hc)
  have e2 := List.getElem?_eq_getElem hk
  rw [e] at e2
  exact shape_cell h (x := c.1) (y := c.2) e2
theorem dropAt_one {cs : List C} (h : cs.length = 1) : dropAt cs 0 = [] := List.eq_nil_of_length_eq_zero (by rw [dropAt_len (by omega)]; omega)
theorem connected_nil : connected [] = false := by
  cases h : connected [] with
  | false => rfl
  | true => have := (shape_len (connected_is h)).1; simp at this
end Go.Proofs.Ythhaojbnnacdbaa
