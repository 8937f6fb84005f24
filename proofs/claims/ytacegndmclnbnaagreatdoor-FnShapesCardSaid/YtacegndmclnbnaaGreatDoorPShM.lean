/- ParseShape: the plain law: a text is taken if what it reads as writes that very text; whoever stops at eight cells or at 70 bytes finds the same. No program is in sight here. -/
import Derived.Test.YtacegndmclnbnaaGreatDoorFmtS
import Derived.Lib.Split
import Derived.Lib.SplitLaws
namespace Go.Proofs.YtacegndmclnbnaaGreatDoor

/-- one byte read -/
def pstep (s : List C × Int × Int) (b : UInt8) : List C × Int × Int :=
  if b = 35 then (s.1 ++ [(s.2.1, s.2.2)], s.2.1 + 1, s.2.2) else if b = 47 then (s.1, 0, s.2.2 + 1) else (s.1, s.2.1 + 1, s.2.2)
/-- one byte read, no cell behind the ninth -/
def pstepI (s : List C × Int × Int) (b : UInt8) : List C × Int × Int :=
  if b = 35 then (if s.1.length ≤ 8 then s.1 ++ [(s.2.1, s.2.2)] else s.1, s.2.1 + 1, s.2.2) else if b = 47 then (s.1, 0, s.2.2 + 1) else (s.1, s.2.1 + 1, s.2.2)
def pread (l : List UInt8) : List C × Int × Int := l.foldl pstep ([], 0, 0)
def preadI (l : List UInt8) : List C × Int × Int := l.foldl pstepI ([], 0, 0)

theorem pread_slash (n : Nat) : ∀ s : List C × Int × Int, (List.replicate n (47 : UInt8)).foldl pstep s = (s.1, (if n = 0 then s.2.1 else 0), s.2.2 + n) := by
  induction n with
  | zero => intro s; simp
  | succ n ih =>
    intro s
    rw [List.replicate_succ, List.foldl_cons, ih]
    simp [pstep]
    omega
theorem pread_dot (n : Nat) : ∀ s : List C × Int × Int, (List.replicate n (46 : UInt8)).foldl pstep s = (s.1, s.2.1 + n, s.2.2) := by
  induction n with
  | zero => intro s; simp
  | succ n ih =>
    intro s
    rw [List.replicate_succ, List.foldl_cons, ih]
    simp [pstep]
    omega
theorem pread_slashI (n : Nat) : ∀ s : List C × Int × Int, (List.replicate n (47 : UInt8)).foldl pstepI s = (s.1, (if n = 0 then s.2.1 else 0), s.2.2 + n) := by
  induction n with
  | zero => intro s; simp
  | succ n ih =>
    intro s
    rw [List.replicate_succ, List.foldl_cons, ih]
    simp [pstepI]
    omega
theorem pread_dotI (n : Nat) : ∀ s : List C × Int × Int, (List.replicate n (46 : UInt8)).foldl pstepI s = (s.1, s.2.1 + n, s.2.2) := by
  induction n with
  | zero => intro s; simp
  | succ n ih =>
    intro s
    rw [List.replicate_succ, List.foldl_cons, ih]
    simp [pstepI]
    omega
/-- the place ahead of a cell, once the strokes and dots are read -/
theorem at_cell {h x y : Int} {c : C} {r : List C} (ho : okL h x y (c :: r)) :
    (if (c.2 - y).toNat = 0 then x else 0) + ((c.1 - (if y < c.2 then 0 else x)).toNat : Int) = c.1 ∧ y + ((c.2 - y).toNat : Int) = c.2 := by
  obtain ⟨h1, b1, _⟩ := ho
  by_cases hlt : y < c.2
  · rw [if_neg (by omega), if_pos hlt]
    omega
  · rw [if_pos (by omega), if_neg hlt]
    omega
theorem pread_fmtL {h : Int} : ∀ (K : List C) (x y : Int) (out : List C), okL h x y K → ((fmtL x y K).foldl pstep (out, x, y)).1 = out ++ K := by
  intro K
  induction K with
  | nil => intro x y out _; simp [fmtL]
  | cons c r ih =>
    intro x y out ho
    obtain ⟨e1, e2⟩ := at_cell ho
    simp only [fmtL, List.foldl_append, pread_slash, pread_dot, List.foldl_cons, List.foldl_nil]
    simp only [e1, e2]
    have := ih (c.1 + 1) c.2 (out ++ [c]) ho.2.2.2.2.2.2
    simpa [pstep] using this
theorem pread_fmtLI {h : Int} : ∀ (K : List C) (x y : Int) (out : List C), okL h x y K → out.length + K.length ≤ 9 → ((fmtL x y K).foldl pstepI (out, x, y)).1 = out ++ K := by
  intro K
  induction K with
  | nil => intro x y out _ _; simp [fmtL]
  | cons c r ih =>
    intro x y out ho hl
    obtain ⟨e1, e2⟩ := at_cell ho
    rw [List.length_cons] at hl
    simp only [fmtL, List.foldl_append, pread_slashI, pread_dotI, List.foldl_cons, List.foldl_nil]
    simp only [e1, e2]
    have := ih (c.1 + 1) c.2 (out ++ [c]) ho.2.2.2.2.2.2 (by simp; omega)
    have h8 : out.length ≤ 8 := by omega
    simpa [pstepI, h8] using this
theorem fmtL_bytes : ∀ (K : List C) (x y : Int) (b : UInt8), b ∈ fmtL x y K → b = 35 ∨ b = 46 ∨ b = 47 := by
  intro K
  induction K with
  | nil => intro x y b hb; cases hb
  | cons c r ih =>
    intro x y b hb
    simp only [fmtL, List.mem_append, List.mem_replicate, List.mem_singleton] at hb
    rcases hb with h | h | h | h
    · exact Or.inr (Or.inr h.2)
    · exact Or.inr (Or.inl h.2)
    · exact Or.inl h
    · exact ih _ _ _ h
theorem fmtL_cols {h : Int} : ∀ (K : List C) (x y : Int), 0 ≤ x → okL h x y K → ((fmtL x y K).length : Int) ≤ (K.map (·.1 + 1)).sum + (h - 1 - y) := by
  intro K
  induction K with
  | nil => intro x y _ ho; have : y + 1 = h := ho; simp [fmtL]; omega
  | cons c r ih =>
    intro x y hx ho
    have hr := ih (c.1 + 1) c.2 (by have := ho.2.1; omega) ho.2.2.2.2.2.2
    obtain ⟨h1, b1, b2, b3, b4, b5, _⟩ := ho
    simp only [fmtL, List.length_append, List.length_replicate, List.length_cons, List.length_nil, List.map_cons, List.sum_cons]
    split <;> omega
theorem sum_cols : ∀ K : List C, (∀ c, c ∈ K → 0 ≤ c.1 ∧ c.1 ≤ 7) → (K.map (·.1 + 1)).sum ≤ 8 * (K.length : Int) := by
  intro K
  induction K with
  | nil => intro _; simp
  | cons c r ih =>
    intro h
    have h1 := h c (List.mem_cons_self ..)
    have h2 := ih fun d hd => h d (List.mem_cons_of_mem _ hd)
    simp only [List.map_cons, List.sum_cons, List.length_cons]
    omega
theorem sum_cols0 : ∀ K : List C, (∀ c, c ∈ K → 0 ≤ c.1 ∧ c.1 ≤ 7) → (∃ c, c ∈ K ∧ c.1 = 0) → (K.map (·.1 + 1)).sum ≤ 8 * (K.length : Int) - 7 := by
  intro K
  induction K with
  | nil => rintro _ ⟨c, hc, _⟩; cases hc
  | cons c r ih =>
    rintro h ⟨d, hd, h0⟩
    have h1 := h c (List.mem_cons_self ..)
    have hr : ∀ d, d ∈ r → 0 ≤ d.1 ∧ d.1 ≤ 7 := fun d hd => h d (List.mem_cons_of_mem _ hd)
    simp only [List.map_cons, List.sum_cons, List.length_cons]
    rcases List.mem_cons.1 hd with e | hd
    · subst e
      have := sum_cols r hr
      omega
    · have := ih hr ⟨d, hd, h0⟩
      omega
theorem corner_left {cs : List C} (h : isShape cs = true) : ∃ c, c ∈ cornerC cs ∧ c.1 = 0 := by
  have hl := (shape_len h).1
  have hne : cs ≠ [] := by rintro rfl; simp at hl
  obtain ⟨d, hd, e⟩ := minOf_mem (·.1) hne
  have e : d.1 = minOf (·.1) cs := by first | exact e | exact e.symm
  refine ⟨(d.1 - minOf (·.1) cs, d.2 - minOf (·.2) cs), ?_, by simp only; omega⟩
  unfold cornerC
  rw [movC_mem]
  have e1 : d.1 - minOf (·.1) cs - -(minOf (·.1) cs) = d.1 := by omega
  have e2 : d.2 - minOf (·.2) cs - -(minOf (·.2) cs) = d.2 := by omega
  simp only [e1, e2]
  exact hd
theorem fmt_short (cs : List C) : (fmt (cornerShape cs)).length ≤ 70 := by
  unfold cornerShape
  by_cases h : isShape cs = true
  · rw [if_pos h]
    have hb := smallL_corner h
    have h1 := fmtL_cols _ 0 0 (by omega) (okL_shape h)
    have h2 := sum_cols0 _ (fun c hc => ⟨(hb c hc).1, (hb c hc).2.1⟩) (corner_left h)
    have h3 := (shape_len h).2
    rw [cornerC_length] at h2
    have h4 : extOf (·.2) (cornerC cs) ≤ 8 := by
      have aux : ∀ (l : List C) (m : Int), (∀ c, c ∈ l → c.2 ≤ 7) → m ≤ 8 → l.foldl (fun m c => max m (c.2 + 1)) m ≤ 8 := by
        intro l
        induction l with
        | nil => intro m _ h8; exact h8
        | cons c r ih =>
          intro m h h8
          have := h c (List.mem_cons_self ..)
          rw [List.foldl_cons]
          exact ih _ (fun d hd => h d (List.mem_cons_of_mem _ hd)) (by omega)
      exact aux _ 0 (fun c hc => (hb c hc).2.2.2) (by omega)
    unfold fmt
    omega
  · rw [if_neg h]
    simp [fmt, fmtL]
theorem read_fmt (cs : List C) : (pread (fmt (cornerShape cs))).1 = cornerShape cs ∧ (preadI (fmt (cornerShape cs))).1 = cornerShape cs := by
  obtain ⟨h, ho⟩ := corner_ok cs
  have hs := corner_short cs
  exact ⟨by have := pread_fmtL _ 0 0 [] ho; rw [List.nil_append] at this; exact this, by have := pread_fmtLI _ 0 0 [] ho (by simp; omega); rw [List.nil_append] at this; exact this⟩
/-- the shape that a text writes -/
def psh (t : List UInt8) : Option (List C) := if t ≠ [] ∧ fmt (cornerShape (pread t).1) = t then some (pread t).1 else none
theorem psh_I (t : List UInt8) : (if t ≠ [] ∧ fmt (cornerShape (preadI t).1) = t then some (preadI t).1 else none) = psh t := by
  unfold psh
  by_cases h : fmt (cornerShape (preadI t).1) = t
  · obtain ⟨h1, h2⟩ := read_fmt (preadI t).1
    rw [h] at h1 h2
    have e : (pread t).1 = (preadI t).1 := h1.trans h2.symm
    rw [e]
  · by_cases h' : fmt (cornerShape (pread t).1) = t
    · obtain ⟨h1, h2⟩ := read_fmt (pread t).1
      rw [h'] at h1 h2
      have e : (preadI t).1 = (pread t).1 := h2.trans h1.symm
      rw [e]
    · rw [if_neg (fun e => h e.2), if_neg (fun e => h' e.2)]
theorem psh_long {t : List UInt8} (h : 70 < t.length) : psh t = none := by
  unfold psh
  rw [if_neg]
  rintro ⟨_, e⟩
  have := fmt_short (pread t).1
  rw [e] at this
  omega
theorem psh_bad {t : List UInt8} {b : UInt8} (hb : b ∈ t) (h1 : b ≠ 35) (h2 : b ≠ 46) (h3 : b ≠ 47) : psh t = none := by
  unfold psh
  rw [if_neg]
  rintro ⟨_, e⟩
  rw [← e] at hb
  rcases fmtL_bytes _ _ _ _ hb with h | h | h
  · exact h1 h
  · exact h2 h
  · exact h3 h

/-- the rows of a text -/
def rowsOf : List UInt8 → List (List UInt8)
  | [] => [[]]
  | b :: l => if b = 47 then [] :: rowsOf l else match rowsOf l with
    | [] => [[b]]
    | r :: R => (b :: r) :: R
theorem split_rows : ∀ t : List UInt8, Lib.splitK [47] 0 (t.count 47) t = rowsOf t := by
  intro t
  induction t with
  | nil => rfl
  | cons b l ih =>
    unfold rowsOf
    by_cases hb : b = 47
    · subst hb
      rw [if_pos rfl, List.count_cons_self, ← ih]
      have e : Lib.index (47 :: l) [47] = 0 := by unfold Lib.index; rw [if_pos (by simp [List.isPrefixOf])]
      conv => lhs; unfold Lib.splitK
      rw [e, if_neg (by decide)]
      rfl
    · rw [if_neg hb, List.count_cons_of_ne (by simpa using hb), ← ih]
      have hp : ([47] : List UInt8).isPrefixOf (b :: l) = false := by
        simp [List.isPrefixOf]
        exact fun e => hb e.symm
      cases hk : l.count 47 with
      | zero => rfl
      | succ k =>
        have hge := Lib.index_ge l [47]
        by_cases hi : Lib.index l [47] = -1
        · have e : Lib.index (b :: l) [47] = -1 := by unfold Lib.index; rw [hp, hi]; rfl
          unfold Lib.splitK
          rw [e, hi]
          rfl
        · obtain ⟨i, hi'⟩ : ∃ i : Nat, Lib.index l [47] = i := ⟨(Lib.index l [47]).toNat, by omega⟩
          have e : Lib.index (b :: l) [47] = ((i + 1 : Nat) : Int) := by
            unfold Lib.index
            rw [hp, hi', if_neg (by simp), if_neg (by simp)]
            rfl
          unfold Lib.splitK
          rw [e, hi', if_neg (by first | (simp; done) | (simp; omega)), if_neg (by first | (simp; done) | (simp; omega))]
          rfl
theorem rowsOf_ne (t : List UInt8) : rowsOf t ≠ [] := by
  cases t with
  | nil => simp [rowsOf]
  | cons b l =>
    unfold rowsOf
    split
    · simp
    · split <;> simp
theorem rows_flat : ∀ t : List UInt8, ((rowsOf t).map (· ++ [47])).flatten = t ++ [47] := by
  intro t
  induction t with
  | nil => rfl
  | cons b l ih =>
    unfold rowsOf
    by_cases hb : b = 47
    · subst hb
      rw [if_pos rfl, List.map_cons, List.flatten_cons, ih]
      rfl
    · rw [if_neg hb]
      have hne := rowsOf_ne l
      revert ih hne
      cases rowsOf l with
      | nil => intro _ h; exact absurd rfl h
      | cons r R =>
        intro ih _
        simp only [List.map_cons, List.flatten_cons, List.cons_append] at ih ⊢
        rw [ih]
theorem rows_free : ∀ (t r : List UInt8), r ∈ rowsOf t → (47 : UInt8) ∉ r := by
  intro t
  induction t with
  | nil => intro r hr; simp [rowsOf] at hr; subst hr; simp
  | cons b l ih =>
    intro r hr
    unfold rowsOf at hr
    by_cases hb : b = 47
    · rw [if_pos hb] at hr
      rcases List.mem_cons.1 hr with e | h
      · subst e; simp
      · exact ih r h
    · rw [if_neg hb] at hr
      have hne := rowsOf_ne l
      revert hr ih hne
      cases rowsOf l with
      | nil => intro _ _ h; exact absurd rfl h
      | cons q R =>
        intro ih hr _
        rcases List.mem_cons.1 hr with e | h
        · subst e
          have := ih q (List.mem_cons_self ..)
          simp only [List.mem_cons, not_or]
          exact ⟨fun e => hb e.symm, this⟩
        · exact ih r (List.mem_cons_of_mem _ h)

/-- the first k rows, each with its stroke -/
def flatR (S : List ByteArray) (k : Nat) : List UInt8 := ((S.take k).map fun r => r.data.toList ++ [47]).flatten
theorem flatR_next {S : List ByteArray} {k : Nat} {r : ByteArray} (h : S[k]? = some r) : flatR S (k + 1) = flatR S k ++ (r.data.toList ++ [47]) := by
  unfold flatR
  rw [List.take_add_one, h]
  simp
theorem flatR_end {t : List UInt8} {S : List ByteArray} (h : S.map (·.data.toList) = rowsOf t) : flatR S S.length = t ++ [47] := by
  unfold flatR
  rw [List.take_length, ← rows_flat t, ← h, List.map_map]
  rfl
theorem preadI_one (l : List UInt8) (b : UInt8) : preadI (l ++ [b]) = pstepI (preadI l) b := by
  unfold preadI
  rw [List.foldl_append]
  rfl
theorem preadI_row {l : List UInt8} {r : ByteArray} {x : Nat} (h : x < r.size) : preadI (l ++ r.data.toList.take (x + 1)) = pstepI (preadI (l ++ r.data.toList.take x)) r[x] := by
  have hl : x < r.data.toList.length := by simpa using h
  have e : r.data.toList.take (x + 1) = r.data.toList.take x ++ [r[x]] := by rw [List.take_add_one, List.getElem?_eq_getElem hl]; rfl
  rw [e, ← List.append_assoc, preadI_one]
theorem preadI_stroke (l : List UInt8) : (preadI (l ++ [47])).1 = (preadI l).1 := by
  rw [preadI_one]
  unfold pstepI
  simp
theorem pstepI_short {s : List C × Int × Int} {b : UInt8} (h : s.1.length ≤ 9) : (pstepI s b).1.length ≤ 9 := by
  unfold pstepI
  split
  · simp only
    split
    · simp; omega
    · exact h
  · split <;> exact h
theorem preadI_short (l : List UInt8) : (preadI l).1.length ≤ 9 := by
  have aux : ∀ (l : List UInt8) (s : List C × Int × Int), s.1.length ≤ 9 → (l.foldl pstepI s).1.length ≤ 9 := by
    intro l
    induction l with
    | nil => intro s h; exact h
    | cons b r ih => intro s h; rw [List.foldl_cons]; exact ih _ (pstepI_short h)
  exact aux l _ (by simp)
theorem row_byte {t : List UInt8} {S : List ByteArray} (h : S.map (·.data.toList) = rowsOf t) {k x : Nat} {r : ByteArray} (hr : S[k]? = some r) (hx : x < r.size) : r[x] ≠ 47 := by
  intro e
  have h1 : r.data.toList ∈ rowsOf t := by rw [← h]; exact List.mem_map.2 ⟨r, List.mem_of_getElem? hr, rfl⟩
  have h2 := rows_free t _ h1
  have hl : x < r.data.toList.length := by simpa using hx
  have h3 : r[x] ∈ r.data.toList := List.mem_of_getElem? (i := x) (List.getElem?_eq_getElem hl)
  rw [e] at h3
  exact h2 h3
theorem row_size {t : List UInt8} {S : List ByteArray} (h : S.map (·.data.toList) = rowsOf t) : (∀ (k : Nat) (r : ByteArray), S[k]? = some r → r.size ≤ t.length) ∧ S.length ≤ t.length + 1 := by
  have e := flatR_end h
  have hlen : (flatR S S.length).length = t.length + 1 := by rw [e]; simp
  unfold flatR at hlen
  rw [List.take_length, List.length_flatten, List.map_map] at hlen
  constructor
  · intro k r hr
    have hm := List.mem_of_getElem? hr
    have : r.size + 1 ≤ (S.map (List.length ∘ fun r => r.data.toList ++ [47])).sum := by
      have aux : ∀ (S : List ByteArray), r ∈ S → r.size + 1 ≤ (S.map (List.length ∘ fun r => r.data.toList ++ [47])).sum := by
        intro S
        induction S with
        | nil => intro h; cases h
        | cons q R ih =>
          intro h
          rw [List.map_cons, List.sum_cons]
          rcases List.mem_cons.1 h with e | h
          · subst e; simp
          · have := ih h; omega
      exact aux S hm
    omega
  · have aux : ∀ (S : List ByteArray), S.length ≤ (S.map (List.length ∘ fun r => r.data.toList ++ [47])).sum := by
      intro S
      induction S with
      | nil => simp
      | cons q R ih =>
        rw [List.map_cons, List.sum_cons, List.length_cons]
        have : (List.length ∘ fun r : ByteArray => r.data.toList ++ [47]) q = q.data.toList.length + 1 := by simp
        omega
    have := aux S
    omega
theorem psh_rows (t : List UInt8) {O : List C} (h : O = (preadI (t ++ [47])).1) : psh t = if t ≠ [] ∧ fmt (cornerShape O) = t then some O else none := by
  rw [h, preadI_stroke]
  exact (psh_I t).symm
end Go.Proofs.YtacegndmclnbnaaGreatDoor
