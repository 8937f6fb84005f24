/- ParseShape: the plain law: a text is taken if what it reads as writes that very text; whoever stops at eight cells or at 70 bytes finds the same. No program is in sight here. -/
import Derived.Test.YtacegndmclnbnaaDoorFmtS
namespace Go.Proofs.YtacegndmclnbnaaDoor

/-- one byte read -/
def pstep (s : List C × Int × Int) (b : UInt8) : List C × Int × Int :=
  if b = 35 then (s.1 ++ [(s.2.1, s.2.2)], s.2.1 + 1, s.2.2) else if b = 47 then (s.1, 0, s.2.2 + 1) else (s.1, s.2.1 + 1, s.2.2)
/-- one byte read, no cell behind the ninth -/
def pstepI (s : List C × Int × Int) (b : UInt8) : List C × Int × Int :=
  if b = 35 then (if s.1.length ≤ 8 then s.1 ++ [(s.2.1, s.2.2)] else s.1, s.2.1 + 1, s.2.2) else if b = 47 then (s.1, 0, s.2.2 + 1) else (s.1, s.2.1 + 1, s.2.2)
def pread (l : List UInt8) : List C × Int × Int := l.foldl pstep ([], 0, 0)
def preadI (l : List UInt8) : List C × Int × Int := l.foldl pstepI ([], 0, 0)

theorem pread_slash (n : Nat) : ∀ s : List C × Int × Int, (List.replicate n (47 : UInt8)).foldl pstep s = (s.1, (if n = 0 then s.2.1 else 0), s.2.2 + n) := by
  induction n with
  | zero => intro s; simp
  | succ n ih =>
    intro s
    rw [List.replicate_succ, List.foldl_cons, ih]
    simp [pstep]
    omega
theorem pread_dot (n : Nat) : ∀ s : List C × Int × Int, (List.replicate n (46 : UInt8)).foldl pstep s = (s.1, s.2.1 + n, s.2.2) := by
  induction n with
  | zero => intro s; simp
  | succ n ih =>
    intro s
    rw [List.replicate_succ, List.foldl_cons, ih]
    simp [pstep]
    omega
theorem pread_slashI (n : Nat) : ∀ s : List C × Int × Int, (List.replicate n (47 : UInt8)).foldl pstepI s = (s.1, (if n = 0 then s.2.1 else 0), s.2.2 + n) := by
  induction n with
  | zero => intro s; simp
  | succ n ih =>
    intro s
    rw [List.replicate_succ, List.foldl_cons, ih]
    simp [pstepI]
    omega
theorem pread_dotI (n : Nat) : ∀ s : List C × Int × Int, (List.replicate n (46 : UInt8)).foldl pstepI s = (s.1, s.2.1 + n, s.2.2) := by
  induction n with
  | zero => intro s; simp
  | succ n ih =>
    intro s
    rw [List.replicate_succ, List.foldl_cons, ih]
    simp [pstepI]
    omega
/-- the place ahead of a cell, once the strokes and dots are read -/
theorem at_cell {h x y : Int} {c : C} {r : List C} (ho : okL h x y (c :: r)) :
    (if (c.2 - y).toNat = 0 then x else 0) + ((c.1 - (if y < c.2 then 0 else x)).toNat : Int) = c.1 ∧ y + ((c.2 - y).toNat : Int) = c.2 := by
  obtain ⟨h1, b1, _⟩ := ho
  by_cases hlt : y < c.2
  · rw [if_neg (by omega), if_pos hlt]
    omega
  · rw [if_pos (by omega), if_neg hlt]
    omega
theorem pread_fmtL {h : Int} : ∀ (K : List C) (x y : Int) (out : List C), okL h x y K → ((fmtL x y K).foldl pstep (out, x, y)).1 = out ++ K := by
  intro K
  induction K with
  | nil => intro x y out _; simp [fmtL]
  | cons c r ih =>
    intro x y out ho
    obtain ⟨e1, e2⟩ := at_cell ho
    simp only [fmtL, List.foldl_append, pread_slash, pread_dot, List.foldl_cons, List.foldl_nil]
    simp only [e1, e2]
    have := ih (c.1 + 1) c.2 (out ++ [c]) ho.2.2.2.2.2.2
    simpa [pstep] using this
theorem pread_fmtLI {h : Int} : ∀ (K : List C) (x y : Int) (out : List C), okL h x y K → out.length + K.length ≤ 9 → ((fmtL x y K).foldl pstepI (out, x, y)).1 = out ++ K := by
  intro K
  induction K with
  | nil => intro x y out _ _; simp [fmtL]
  | cons c r ih =>
    intro x y out ho hl
    obtain ⟨e1, e2⟩ := at_cell ho
    rw [List.length_cons] at hl
    simp only [fmtL, List.foldl_append, pread_slashI, pread_dotI, List.foldl_cons, List.foldl_nil]
    simp only [e1, e2]
    have := ih (c.1 + 1) c.2 (out ++ [c]) ho.2.2.2.2.2.2 (by simp; omega)
    have h8 : out.length ≤ 8 := by omega
    simpa [pstepI, h8] using this
theorem fmtL_bytes : ∀ (K : List C) (x y : Int) (b : UInt8), b ∈ fmtL x y K → b = 35 ∨ b = 46 ∨ b = 47 := by
  intro K
  induction K with
  | nil => intro x y b hb; cases hb
  | cons c r ih =>
    intro x y b hb
    simp only [fmtL, List.mem_append, List.mem_replicate, List.mem_singleton] at hb
    rcases hb with h | h | h | h
    · exact Or.inr (Or.inr h.2)
    · exact Or.inr (Or.inl h.2)
    · exact Or.inl h
    · exact ih _ _ _ h
theorem fmtL_cols {h : Int} : ∀ (K : List C) (x y : Int), 0 ≤ x → okL h x y K → ((fmtL x y K).length : Int) ≤ (K.map (·.1 + 1)).sum + (h - 1 - y) := by
  intro K
  induction K with
  | nil => intro x y _ ho; have : y + 1 = h := ho; simp [fmtL]; omega
  | cons c r ih =>
    intro x y hx ho
    have hr := ih (c.1 + 1) c.2 (by have := ho.2.1; omega) ho.2.2.2.2.2.2
    obtain ⟨h1, b1, b2, b3, b4, b5, _⟩ := ho
    simp only [fmtL, List.length_append, List.length_replicate, List.length_cons, List.length_nil, List.map_cons, List.sum_cons]
    split <;> omega
theorem sum_cols : ∀ K : List C, (∀ c, c ∈ K → 0 ≤ c.1 ∧ c.1 ≤ 7) → (K.map (·.1 + 1)).sum ≤ 8 * (K.length : Int) := by
  intro K
  induction K with
  | nil => intro _; simp
  | cons c r ih =>
    intro h
    have h1 := h c (List.mem_cons_self ..)
    have h2 := ih fun d hd => h d (List.mem_cons_of_mem _ hd)
    simp only [List.map_cons, List.sum_cons, List.length_cons]
    omega
theorem sum_cols0 : ∀ K : List C, (∀ c, c ∈ K → 0 ≤ c.1 ∧ c.1 ≤ 7) → (∃ c, c ∈ K ∧ c.1 = 0) → (K.map (·.1 + 1)).sum ≤ 8 * (K.length : Int) - 7 := by
  intro K
  induction K with
  | nil => rintro _ ⟨c, hc, _⟩; cases hc
  | cons c r ih =>
    rintro h ⟨d, hd, h0⟩
    have h1 := h c (List.mem_cons_self ..)
    have hr : ∀ d, d ∈ r → 0 ≤ d.1 ∧ d.1 ≤ 7 := fun d hd => h d (List.mem_cons_of_mem _ hd)
    simp only [List.map_cons, List.sum_cons, List.length_cons]
    rcases List.mem_cons.1 hd with e | hd
    · subst e
      have := sum_cols r hr
      omega
    · have := ih hr ⟨d, hd, h0⟩
      omega
theorem corner_left {cs : List C} (h : isShape cs = true) : ∃ c, c ∈ cornerC cs ∧ c.1 = 0 := by
  have hl := (shape_len h).1
  have hne : cs ≠ [] := by rintro rfl; simp at hl
  obtain ⟨d, hd, e⟩ := minOf_mem (·.1) hne
  have e : d.1 = minOf (·.1) cs := by first | exact e | exact e.symm
  refine ⟨(d.1 - minOf (·.1) cs, d.2 - minOf (·.2) cs), ?_, by simp only; omega⟩
  unfold cornerC
  rw [movC_mem]
  have e1 : d.1 - minOf (·.1) cs - -(minOf (·.1) cs) = d.1 := by omega
  have e2 : d.2 - minOf (·.2) cs - -(minOf (·.2) cs) = d.2 := by omega
  simp only [e1, e2]
  exact hd
theorem fmt_short (cs : List C) : (fmt (cornerShape cs)).length ≤ 70 := by
  unfold cornerShape
  by_cases h : isShape cs = true
  · rw [if_pos h]
    have hb := smallL_corner h
    have h1 := fmtL_cols _ 0 0 (by omega) (okL_shape h)
    have h2 := sum_cols0 _ (fun c hc => ⟨(hb c hc).1, (hb c hc).2.1⟩) (corner_left h)
    have h3 := (shape_len h).2
    rw [cornerC_length] at h2
    have h4 : extOf (·.2) (cornerC cs) ≤ 8 := by
      have aux : ∀ (l : List C) (m : Int), (∀ c, c ∈ l → c.2 ≤ 7) → m ≤ 8 → l.foldl (fun m c => max m (c.2 + 1)) m ≤ 8 := by
        intro l
        induction l with
        | nil => intro m _ h8; exact h8
        | cons c r ih =>
          intro m h h8
          have := h c (List.mem_cons_self ..)
          rw [List.foldl_cons]
          exact ih _ (fun d hd => h d (List.mem_cons_of_mem _ hd)) (by omega)
      exact aux _ 0 (fun c hc => (hb c hc).2.2.2) (by omega)
    unfold fmt
    omega
  · rw [if_neg h]
    simp [fmt, fmtL]
theorem read_fmt (cs : List C) : (pread (fmt (cornerShape cs))).1 = cornerShape cs ∧ (preadI (fmt (cornerShape cs))).1 = cornerShape cs := by
  obtain ⟨h, ho⟩ := corner_ok cs
  have hs := corner_short cs
  exact ⟨by have := pread_fmtL _ 0 0 [] ho; rw [List.nil_append] at this; exact this, by have := pread_fmtLI _ 0 0 [] ho (by simp; omega); rw [List.nil_append] at this; exact this⟩
/-- the shape that a text writes -/
def psh (t : List UInt8) : Option (List C) := if t ≠ [] ∧ fmt (cornerShape (pread t).1) = t then some (pread t).1 else none
theorem psh_I (t : List UInt8) : (if t ≠ [] ∧ fmt (cornerShape (preadI t).1) = t then some (preadI t).1 else none) = psh t := by
  unfold psh
  by_cases h : fmt (cornerShape (preadI t).1) = t
  · obtain ⟨h1, h2⟩ := read_fmt (preadI t).1
    rw [h] at h1 h2
    have e : (pread t).1 = (preadI t).1 := h1.trans h2.symm
    rw [e]
  · by_cases h' : fmt (cornerShape (pread t).1) = t
    · obtain ⟨h1, h2⟩ := read_fmt (pread t).1
      rw [h'] at h1 h2
      have e : (preadI t).1 = (pread t).1 := h2.trans h1.symm
      rw [e]
    · rw [if_neg (fun e => h e.2), if_neg (fun e => h' e.2)]
theorem psh_long {t : List UInt8} (h : 70 < t.length) : psh t = none := by
  unfold psh
  rw [if_neg]
  rintro ⟨_, e⟩
  have := fmt_short (pread t).1
  rw [e] at this
  omega
theorem psh_bad {t : List UInt8} {b : UInt8} (hb : b ∈ t) (h1 : b ≠ 35) (h2 : b ≠ 46) (h3 : b ≠ 47) : psh t = none := by
  unfold psh
  rw [if_neg]
  rintro ⟨_, e⟩
  rw [← e] at hb
  rcases fmtL_bytes _ _ _ _ hb with h | h | h
  · exact h1 h
  · exact h2 h
  · exact h3 h
end Go.Proofs.YtacegndmclnbnaaDoor
