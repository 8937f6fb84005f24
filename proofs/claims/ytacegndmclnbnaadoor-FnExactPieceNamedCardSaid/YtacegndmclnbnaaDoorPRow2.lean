/- A text read row by row: the program's reader at the rows that a split leaves. Plain. -/
import Derived.Test.YtacegndmclnbnaaDoorPRows
namespace Go.Proofs.YtacegndmclnbnaaDoor

/-- the first k rows, each with its stroke -/
def flatR (S : List ByteArray) (k : Nat) : List UInt8 := ((S.take k).map fun r => r.data.toList ++ [47]).flatten
theorem flatR_next {S : List ByteArray} {k : Nat} {r : ByteArray} (h : S[k]? = some r) : flatR S (k + 1) = flatR S k ++ (r.data.toList ++ [47]) := by
  unfold flatR
  rw [List.take_add_one, h]
  simp
theorem flatR_end {t : List UInt8} {S : List ByteArray} (h : S.map (·.data.toList) = rowsOf t) : flatR S S.length = t ++ [47] := by
  unfold flatR
  rw [List.take_length, ← rows_flat t, ← h, List.map_map]
  rfl
theorem preadI_one (l : List UInt8) (b : UInt8) : preadI (l ++ [b]) = pstepI (preadI l) b := by
  unfold preadI
  rw [List.foldl_append]
  rfl
theorem preadI_row {l : List UInt8} {r : ByteArray} {x : Nat} (h : x < r.size) : preadI (l ++ r.data.toList.take (x + 1)) = pstepI (preadI (l ++ r.data.toList.take x)) r[x] := by
  have hl : x < r.data.toList.length := by simpa using h
  have e : r.data.toList.take (x + 1) = r.data.toList.take x ++ [r[x]] := by rw [List.take_add_one, List.getElem?_eq_getElem hl]; rfl
  rw [e, ← List.append_assoc, preadI_one]
theorem preadI_stroke (l : List UInt8) : (preadI (l ++ [47])).1 = (preadI l).1 := by
  rw [preadI_one]
  unfold pstepI
  simp
theorem pstepI_short {s : List C × Int × Int} {b : UInt8} (h : s.1.length ≤ 9) : (pstepI s b).1.length ≤ 9 := by
  unfold pstepI
  split
  · simp only
    split
    · simp; omega
    · exact h
  · split <;> exact h
theorem preadI_short (l : List UInt8) : (preadI l).1.length ≤ 9 := by
  have aux : ∀ (l : List UInt8) (s : List C × Int × Int), s.1.length ≤ 9 → (l.foldl pstepI s).1.length ≤ 9 := by
    intro l
    induction l with
    | nil => intro s h; exact h
    | cons b r ih => intro s h; rw [List.foldl_cons]; exact ih _ (pstepI_short h)
  exact aux l _ (by simp)
theorem row_byte {t : List UInt8} {S : List ByteArray} (h : S.map (·.data.toList) = rowsOf t) {k x : Nat} {r : ByteArray} (hr : S[k]? = some r) (hx : x < r.size) : r[x] ≠ 47 := by
  intro e
  have h1 : r.data.toList ∈ rowsOf t := by rw [← h]; exact List.mem_map.2 ⟨r, List.mem_of_getElem? hr, rfl⟩
  have h2 := rows_free t _ h1
  have hl : x < r.data.toList.length := by simpa using hx
  have h3 : r[x] ∈ r.data.toList := List.mem_of_getElem? (i := x) (List.getElem?_eq_getElem hl)
  rw [e] at h3
  exact h2 h3
theorem row_size {t : List UInt8} {S : List ByteArray} (h : S.map (·.data.toList) = rowsOf t) : (∀ (k : Nat) (r : ByteArray), S[k]? = some r → r.size ≤ t.length) ∧ S.length ≤ t.length + 1 := by
  have e := flatR_end h
  have hlen : (flatR S S.length).length = t.length + 1 := by rw [e]; simp
  unfold flatR at hlen
  rw [List.take_length, List.length_flatten, List.map_map] at hlen
  constructor
  · intro k r hr
    have hm := List.mem_of_getElem? hr
    have : r.size + 1 ≤ (S.map (List.length ∘ fun r => r.data.toList ++ [47])).sum := by
      have aux : ∀ (S : List ByteArray), r ∈ S → r.size + 1 ≤ (S.map (List.length ∘ fun r => r.data.toList ++ [47])).sum := by
        intro S
        induction S with
        | nil => intro h; cases h
        | cons q R ih =>
          intro h
          rw [List.map_cons, List.sum_cons]
          rcases List.mem_cons.1 h with e | h
          · subst e; simp
          · have := ih h; omega
      exact aux S hm
    omega
  · have aux : ∀ (S : List ByteArray), S.length ≤ (S.map (List.length ∘ fun r => r.data.toList ++ [47])).sum := by
      intro S
      induction S with
      | nil => simp
      | cons q R ih =>
        rw [List.map_cons, List.sum_cons, List.length_cons]
        have : (List.length ∘ fun r : ByteArray => r.data.toList ++ [47]) q = q.data.toList.length + 1 := by simp
        omega
    have := aux S
    omega
theorem psh_rows (t : List UInt8) {O : List C} (h : O = (preadI (t ++ [47])).1) : psh t = if t ≠ [] ∧ fmt (cornerShape O) = t then some O else none := by
  rw [h, preadI_stroke]
  exact (psh_I t).symm
end Go.Proofs.YtacegndmclnbnaaDoor
