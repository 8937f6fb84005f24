/- A text split by strokes: the library's split is the rows of the text; they hold no stroke and make the text again. Plain. -/
import Derived.Test.YtacegndmclnbnaaDoorPShM
import Derived.Lib.Split
import Derived.Lib.SplitLaws
namespace Go.Proofs.YtacegndmclnbnaaDoor

/-- the rows of a text -/
def rowsOf : List UInt8 → List (List UInt8)
  | [] => [[]]
  | b :: l => if b = 47 then [] :: rowsOf l else match rowsOf l with
    | [] => [[b]]
    | r :: R => (b :: r) :: R
theorem split_rows : ∀ t : List UInt8, Lib.splitK [47] 0 (t.count 47) t = rowsOf t := by
  intro t
  induction t with
  | nil => rfl
  | cons b l ih =>
    unfold rowsOf
    by_cases hb : b = 47
    · subst hb
      rw [if_pos rfl, List.count_cons_self, ← ih]
      have e : Lib.index (47 :: l) [47] = 0 := by unfold Lib.index; rw [if_pos (by simp [List.isPrefixOf])]
      conv => lhs; unfold Lib.splitK
      rw [e, if_neg (by decide)]
      rfl
    · rw [if_neg hb, List.count_cons_of_ne (by simpa using hb), ← ih]
      have hp : ([47] : List UInt8).isPrefixOf (b :: l) = false := by
        simp [List.isPrefixOf]
        exact fun e => hb e.symm
      cases hk : l.count 47 with
      | zero => rfl
      | succ k =>
        have hge := Lib.index_ge l [47]
        by_cases hi : Lib.index l [47] = -1
        · have e : Lib.index (b :: l) [47] = -1 := by unfold Lib.index; rw [hp, hi]; rfl
          unfold Lib.splitK
          rw [e, hi]
          rfl
        · obtain ⟨i, hi'⟩ : ∃ i : Nat, Lib.index l [47] = i := ⟨(Lib.index l [47]).toNat, by omega⟩
          have e : Lib.index (b :: l) [47] = ((i + 1 : Nat) : Int) := by
            unfold Lib.index
            rw [hp, hi', if_neg (by simp), if_neg (by simp)]
            rfl
          unfold Lib.splitK
          rw [e, hi', if_neg (by first | (simp; done) | (simp; omega)), if_neg (by first | (simp; done) | (simp; omega))]
          rfl
theorem rowsOf_ne (t : List UInt8) : rowsOf t ≠ [] := by
  cases t with
  | nil => simp [rowsOf]
  | cons b l =>
    unfold rowsOf
    split
    · simp
    · split <;> simp
theorem rows_flat : ∀ t : List UInt8, ((rowsOf t).map (· ++ [47])).flatten = t ++ [47] := by
  intro t
  induction t with
  | nil => rfl
  | cons b l ih =>
    unfold rowsOf
    by_cases hb : b = 47
    · subst hb
      rw [if_pos rfl, List.map_cons, List.flatten_cons, ih]
      rfl
    · rw [if_neg hb]
      have hne := rowsOf_ne l
      revert ih hne
      cases rowsOf l with
      | nil => intro _ h; exact absurd rfl h
      | cons r R =>
        intro ih _
        simp only [List.map_cons, List.flatten_cons, List.cons_append] at ih ⊢
        rw [ih]
theorem rows_free : ∀ (t r : List UInt8), r ∈ rowsOf t → (47 : UInt8) ∉ r := by
  intro t
  induction t with
  | nil => intro r hr; simp [rowsOf] at hr; subst hr; simp
  | cons b l ih =>
    intro r hr
    unfold rowsOf at hr
    by_cases hb : b = 47
    · rw [if_pos hb] at hr
      rcases List.mem_cons.1 hr with e | h
      · subst e; simp
      · exact ih r h
    · rw [if_neg hb] at hr
      have hne := rowsOf_ne l
      revert hr ih hne
      cases rowsOf l with
      | nil => intro _ _ h; exact absurd rfl h
      | cons q R =>
        intro ih hr _
        rcases List.mem_cons.1 hr with e | h
        · subst e
          have := ih q (List.mem_cons_self ..)
          simp only [List.mem_cons, not_or]
          exact ⟨fun e => hb e.symm, this⟩
        · exact ih r (List.mem_cons_of_mem _ h)
end Go.Proofs.YtacegndmclnbnaaDoor
