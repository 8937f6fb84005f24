/- Where a shape goes in an ordered list: the program's place and the reference's. Plain. -/
import Derived.Test.YtacegndmclnbnaaGreatDoorLists
namespace Go.Proofs.YtacegndmclnbnaaGreatDoor

theorem sortedS_lt {ls : L2} (h : SortedS ls) {i j : Nat} {a b : List C} (hi : ls[i]? = some a) (hj : ls[j]? = some b) (hij : i < j) : shLt a b := by
  obtain ⟨h1, rfl⟩ := List.getElem?_eq_some_iff.1 hi
  obtain ⟨h2, rfl⟩ := List.getElem?_eq_some_iff.1 hj
  exact List.pairwise_iff_getElem.1 h i j h1 h2 hij
theorem mem_takeS {ls : L2} {k : Nat} {x : List C} (h : x ∈ ls.take k) : ∃ t, t < k ∧ ls[t]? = some x := by
  obtain ⟨t, ht, e⟩ := List.getElem_of_mem h
  rw [List.length_take] at ht
  refine ⟨t, by omega, ?_⟩
  rw [← e, List.getElem_take, List.getElem?_eq_getElem (by omega)]
theorem mem_dropS {ls : L2} {k : Nat} {x : List C} (h : x ∈ ls.drop k) : ∃ t, k ≤ t ∧ ls[t]? = some x := by
  obtain ⟨t, ht, e⟩ := List.getElem_of_mem h
  rw [List.length_drop] at ht
  refine ⟨k + t, by omega, ?_⟩
  rw [← e, List.getElem_drop, List.getElem?_eq_getElem (by omega)]
/-- the program's place: the first that is not before the shape -/
theorem insS_place {s : List C} {ls : L2} {k : Nat} (hs : SortedS ls) (h1 : ∀ t x, t < k → ls[t]? = some x → cmpC x s < 0) (h2 : ∀ t x, k ≤ t → ls[t]? = some x → 0 ≤ cmpC x s) (h3 : ∀ x, ls[k]? = some x → x ≠ s) : insS s ls = ls.take k ++ s :: ls.drop k := by
  refine insS_split k (fun x hx => ?_) (fun x hx => ?_)
  · obtain ⟨t, ht, e⟩ := mem_takeS hx
    exact h1 t x ht e
  · obtain ⟨t, ht, e⟩ := mem_dropS hx
    have hk : k < ls.length := by have := (List.getElem?_eq_some_iff.1 e).1; omega
    have ek := List.getElem?_eq_getElem hk
    have h0 := h2 k _ (Nat.le_refl _) ek
    have hne := h3 _ ek
    have hlt : shLt s ls[k] := by
      rcases shLt_tri s ls[k] with h | h | h
      · exact h
      · exact absurd h.symm hne
      · have : cmpC ls[k] s < 0 := h
        omega
    rcases Nat.lt_or_ge k t with hkt | hkt
    · exact shLt_trans hlt (sortedS_lt hs ek e hkt)
    · obtain rfl : t = k := by omega
      rw [ek] at e
      injection e with e
      rw [← e]; exact hlt
/-- the reference's place: behind the last that is not behind the shape -/
theorem insS_back {s : List C} {ls : L2} {k : Nat} (hs : SortedS ls) (hkl : k ≤ ls.length) (h2 : ∀ t x, k ≤ t → ls[t]? = some x → cmpC s x < 0) (h1 : 0 < k → ∀ x, ls[k - 1]? = some x → 0 ≤ cmpC s x) (h3 : 0 < k → ∀ x, ls[k - 1]? = some x → x ≠ s) : insS s ls = ls.take k ++ s :: ls.drop k := by
  refine insS_split k (fun x hx => ?_) (fun x hx => ?_)
  · obtain ⟨t, ht, e⟩ := mem_takeS hx
    by_cases hk : k - 1 < ls.length
    · have ek := List.getElem?_eq_getElem hk
      have h0 := h1 (by omega) _ ek
      have hne := h3 (by omega) _ ek
      have hlt : shLt ls[k - 1] s := by
        rcases shLt_tri ls[k - 1] s with h | h | h
        · exact h
        · exact absurd h hne
        · have : cmpC s ls[k - 1] < 0 := h
          omega
      rcases Nat.lt_or_ge t (k - 1) with hkt | hkt
      · exact shLt_trans (sortedS_lt hs e ek hkt) hlt
      · obtain rfl : t = k - 1 := by omega
        rw [ek] at e
        injection e with e
        rw [← e]; exact hlt
    · omega
  · obtain ⟨t, ht, e⟩ := mem_dropS hx
    exact h2 t x ht e
theorem sortedS_unique : ∀ {l m : L2}, SortedS l → SortedS m → (∀ c, c ∈ l ↔ c ∈ m) → l = m
  | [], [], _, _, _ => rfl
  | [], b :: m, _, _, h => by have := (h b).2 (List.mem_cons_self ..); cases this
  | a :: l, [], _, _, h => by have := (h a).1 (List.mem_cons_self ..); cases this
  | a :: l, b :: m, hl, hm, h => by
    obtain ⟨hl1, hl2⟩ := List.pairwise_cons.1 hl
    obtain ⟨hm1, hm2⟩ := List.pairwise_cons.1 hm
    have hab : a = b := by
      rcases List.mem_cons.1 ((h a).1 (List.mem_cons_self ..)) with e | ha
      · exact e
      · rcases List.mem_cons.1 ((h b).2 (List.mem_cons_self ..)) with e | hb
        · exact e.symm
        · exact absurd (shLt_trans (hm1 a ha) (hl1 b hb)) (shLt_irrefl _)
    subst hab
    congr 1
    refine sortedS_unique hl2 hm2 fun c => ⟨fun hc => ?_, fun hc => ?_⟩
    · rcases List.mem_cons.1 ((h c).1 (List.mem_cons_of_mem _ hc)) with e | hc'
      · subst e; exact absurd (hl1 c hc) (shLt_irrefl _)
      · exact hc'
    · rcases List.mem_cons.1 ((h c).2 (List.mem_cons_of_mem _ hc)) with e | hc'
      · subst e; exact absurd (hm1 c hc) (shLt_irrefl _)
      · exact hc'
def putTo (f : Nat → List C) (k : Nat) : L2 := (List.range k).foldl (fun l m => insS (f m) l) []
theorem putTo_zero (f : Nat → List C) : putTo f 0 = [] := rfl
theorem putTo_succ (f : Nat → List C) (k : Nat) : putTo f (k + 1) = insS (f k) (putTo f k) := by
  unfold putTo
  rw [List.range_succ, List.foldl_append]
  rfl
theorem putTo_sorted (f : Nat → List C) : ∀ k, SortedS (putTo f k)
  | 0 => List.Pairwise.nil
  | k + 1 => by rw [putTo_succ]; exact insS_sorted _ (putTo_sorted f k)
theorem putTo_len (f : Nat → List C) : ∀ k, (putTo f k).length ≤ k
  | 0 => Nat.le_refl _
  | k + 1 => by
    rw [putTo_succ]
    have h1 := insS_len (f k) (putTo f k)
    have h2 := putTo_len f k
    omega
theorem putTo_mem (f : Nat → List C) (x : List C) : ∀ k, x ∈ putTo f k ↔ ∃ m, m < k ∧ x = f m
  | 0 => by simp [putTo_zero]
  | k + 1 => by
    rw [putTo_succ, insS_mem, putTo_mem f x k]
    constructor
    · rintro (h | ⟨m, hm, h⟩)
      · exact ⟨k, by omega, h⟩
      · exact ⟨m, by omega, h⟩
    · rintro ⟨m, hm, h⟩
      by_cases hmk : m = k
      · exact Or.inl (by rw [h, hmk])
      · exact Or.inr ⟨m, by omega, h⟩
end Go.Proofs.YtacegndmclnbnaaGreatDoor
