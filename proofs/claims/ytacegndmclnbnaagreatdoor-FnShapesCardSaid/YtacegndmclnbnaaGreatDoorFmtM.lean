/- FormatShape: the plain law: rows that are filled one cell after the other and then joined are what is written cell after cell. No program is in sight here. -/
import Derived.Test.YtacegndmclnbnaaGreatDoorTurn
import Derived.Lib.Join
namespace Go.Proofs.YtacegndmclnbnaaGreatDoor

/-- what is written of the cells, from a place on -/
def fmtL : Int → Int → List C → List UInt8
  | _, _, [] => []
  | x, y, c :: r => List.replicate (c.2 - y).toNat 47 ++ (List.replicate (c.1 - (if y < c.2 then 0 else x)).toNat 46 ++ ([35] ++ fmtL (c.1 + 1) c.2 r))
def fmt (cs : List C) : List UInt8 := fmtL 0 0 cs
/-- the cells stand in order from a place on, h rows high -/
def okL (h : Int) : Int → Int → List C → Prop
  | _, y, [] => y + 1 = h
  | x, y, c :: r => (y < c.2 ∨ (y = c.2 ∧ x ≤ c.1)) ∧ 0 ≤ c.1 ∧ c.1 ≤ 7 ∧ 0 ≤ c.2 ∧ c.2 ≤ 7 ∧ c.2 < h ∧ okL h (c.1 + 1) c.2 r

theorem fold_ge (cs : List C) : ∀ m : Int, m ≤ cs.foldl (fun m c => max m (c.2 + 1)) m := by
  induction cs with
  | nil => intro m; exact Int.le_refl _
  | cons c r ih => intro m; rw [List.foldl_cons]; have := ih (max m (c.2 + 1)); omega
theorem okL_mk (h : Int) : ∀ (cs : List C) (x y : Int), Sorted cs → (∀ c, c ∈ cs → 0 ≤ c.1 ∧ c.1 ≤ 7 ∧ 0 ≤ c.2 ∧ c.2 ≤ 7) → (∀ c, cs.head? = some c → y < c.2 ∨ (y = c.2 ∧ x ≤ c.1)) →
    h = cs.foldl (fun m c => max m (c.2 + 1)) (y + 1) → okL h x y cs := by
  intro cs
  induction cs with
  | nil => intro x y _ _ _ hh; exact hh.symm
  | cons c r ih =>
    intro x y hs hb hhead hh
    obtain ⟨b1, b2, b3, b4⟩ := hb c (List.mem_cons_self ..)
    have h1 := hhead c rfl
    rw [List.foldl_cons, show max (y + 1) (c.2 + 1) = c.2 + 1 by omega] at hh
    have h2 := fold_ge r (c.2 + 1)
    refine ⟨h1, b1, b2, b3, b4, by omega, ih _ _ (List.Pairwise.of_cons hs) (fun d hd => hb d (List.mem_cons_of_mem _ hd)) ?_ hh⟩
    intro d hd
    have hd' : d ∈ r := List.mem_of_mem_head? hd
    have := (bef_iff c d).1 (List.rel_of_pairwise_cons hs hd')
    omega
theorem okL_shape {cs : List C} (h : isShape cs = true) : okL (extOf (·.2) (cornerC cs)) 0 0 (cornerC cs) := by
  have hb := smallL_corner h
  have hs := cornerC_sorted (shape_sorted h)
  have hne : cornerC cs ≠ [] := fun e => by
    have := congrArg List.length e
    rw [cornerC_length] at this
    have h1 := (shape_len h).1
    simp at this
    rw [this] at h1
    simp at h1
  obtain ⟨c, r, e⟩ := List.exists_cons_of_ne_nil hne
  refine okL_mk _ _ 0 0 hs hb (fun d hd => ?_) ?_
  · have := hb d (List.mem_of_mem_head? hd)
    omega
  · unfold extOf
    rw [e, List.foldl_cons, List.foldl_cons]
    have := hb c (by rw [e]; exact List.mem_cons_self ..)
    rw [show max 0 (c.2 + 1) = max (0 + 1) (c.2 + 1) by omega]
theorem fmtL_len (h : Int) : ∀ (cs : List C) (x y : Int), 0 ≤ x → x ≤ 8 → 0 ≤ y → okL h x y cs → (fmtL x y cs).length ≤ 16 * cs.length := by
  intro cs
  induction cs with
  | nil => intro x y _ _ _ _; exact Nat.zero_le _
  | cons c r ih =>
    intro x y hx hx8 hy ho
    obtain ⟨_, b1, b2, b3, b4, _, ho'⟩ := ho
    have := ih _ _ (by omega) (by omega) b3 ho'
    simp only [fmtL, List.length_append, List.length_replicate, List.length_cons, List.length_nil]
    split <;> omega

/-! ### the rows -/
/-- one cell more in its row -/
def rstep (R : List (List UInt8)) (c : C) : List (List UInt8) := R.set c.2.toNat (R.getD c.2.toNat [] ++ (List.replicate (c.1 - ((R.getD c.2.toNat []).length : Int)).toNat 46 ++ [35]))
/-- the rows, filled up to a place: what is left to write makes the whole -/
def RowsTo (h : Int) (whole : List UInt8) (x y : Int) (cs : List C) (R : List (List UInt8)) : Prop :=
  ∃ (A : List (List UInt8)) (r : List UInt8) (m : Nat), R = A ++ (r :: List.replicate m []) ∧ (A.length : Int) = y ∧ (r.length : Int) = x ∧ y + 1 + m = h ∧ (A.map (· ++ [47])).flatten ++ (r ++ fmtL x y cs) = whole
theorem rows_start {h : Int} (h1 : 1 ≤ h) (cs : List C) : RowsTo h (fmt cs) 0 0 cs (List.replicate h.toNat []) := by
  obtain ⟨m, hm⟩ : ∃ m : Nat, h.toNat = m + 1 := ⟨h.toNat - 1, by omega⟩
  refine ⟨[], [], m, by rw [hm]; rfl, rfl, rfl, by omega, rfl⟩
theorem rows_at {h x y : Int} {whole : List UInt8} {c : C} {cs : List C} {R : List (List UInt8)} (hR : RowsTo h whole x y (c :: cs) R) (ho : okL h x y (c :: cs)) (hy : 0 ≤ y) :
    (R.length : Int) = h ∧ ((R.getD c.2.toNat []).length : Int) = (if y < c.2 then 0 else x) ∧ ((R.getD c.2.toNat []).length : Int) ≤ c.1 := by
  obtain ⟨A, r, m, rfl, hA, hr, hm, hw⟩ := hR
  obtain ⟨h1, b1, b2, b3, b4, b5, _⟩ := ho
  have hlen : ((A ++ (r :: List.replicate m [])).length : Int) = h := by simp; omega
  refine ⟨hlen, ?_⟩
  by_cases hlt : y < c.2
  · have e : (A ++ (r :: List.replicate m [])).getD c.2.toNat [] = [] := by
      obtain ⟨d, hd⟩ : ∃ d : Nat, c.2.toNat = A.length + (d + 1) := ⟨c.2.toNat - A.length - 1, by omega⟩
      rw [hd, List.getD_eq_getElem?_getD, List.getElem?_append_right (by omega), Nat.add_sub_cancel_left, List.getElem?_cons_succ]
      simp [List.getElem?_replicate]
      split <;> rfl
    rw [e, if_pos hlt]
    exact ⟨rfl, b1⟩
  · have hy2 : y = c.2 := by omega
    have e : (A ++ (r :: List.replicate m [])).getD c.2.toNat [] = r := by
      rw [show c.2.toNat = A.length by omega, List.getD_eq_getElem?_getD, List.getElem?_append_right (Nat.le_refl _), Nat.sub_self]
      rfl
    rw [e, if_neg hlt]
    exact ⟨hr, by omega⟩
theorem rows_step {h x y : Int} {whole : List UInt8} {c : C} {cs : List C} {R : List (List UInt8)} (hR : RowsTo h whole x y (c :: cs) R) (ho : okL h x y (c :: cs)) (hy : 0 ≤ y) :
    RowsTo h whole (c.1 + 1) c.2 cs (rstep R c) := by
  obtain ⟨_, hq, hq1⟩ := rows_at hR ho hy
  obtain ⟨A, r, m, rfl, hA, hr, hm, hw⟩ := hR
  obtain ⟨h1, b1, b2, b3, b4, b5, _⟩ := ho
  by_cases hlt : y < c.2
  · rw [if_pos hlt] at hq
    obtain ⟨d, hd⟩ : ∃ d : Nat, c.2.toNat = A.length + (d + 1) := ⟨c.2.toNat - A.length - 1, by omega⟩
    obtain ⟨k, hk⟩ : ∃ k : Nat, m = d + (k + 1) := ⟨m - d - 1, by omega⟩
    have hq0 : (A ++ (r :: List.replicate m [])).getD c.2.toNat [] = [] := List.length_eq_zero_iff.1 (by omega)
    refine ⟨A ++ (r :: List.replicate d []), List.replicate c.1.toNat 46 ++ [35], k, ?_, by simp; omega, by simp; omega, by omega, ?_⟩
    · unfold rstep
      rw [hq0, hd, List.set_append_right _ _ (by omega), Nat.add_sub_cancel_left, List.set_cons_succ, hk, ← List.replicate_append_replicate, List.set_append_right _ _ (by simp), List.length_replicate, Nat.sub_self, List.replicate_succ, List.set_cons_zero]
      simp
    · rw [← hw]
      simp only [fmtL, if_pos hlt, List.map_append, List.map_cons, List.flatten_append, List.flatten_cons, List.map_replicate, List.nil_append, List.append_assoc]
      have e : (List.replicate d ([47] : List UInt8)).flatten = List.replicate d 47 := by
        induction d with
        | zero => rfl
        | succ d ih => simp [List.replicate_succ]
      rw [e, show (c.2 - y).toNat = d + 1 by omega, List.replicate_succ]
      simp
  · rw [if_neg hlt] at hq
    have hy2 : y = c.2 := by omega
    have e : (A ++ (r :: List.replicate m [])).getD c.2.toNat [] = r := by
      rw [show c.2.toNat = A.length by omega, List.getD_eq_getElem?_getD, List.getElem?_append_right (Nat.le_refl _), Nat.sub_self]
      rfl
    rw [e] at hq hq1
    refine ⟨A, r ++ (List.replicate (c.1 - (r.length : Int)).toNat 46 ++ [35]), m, ?_, by omega, by simp; omega, by omega, ?_⟩
    · unfold rstep
      rw [e, show c.2.toNat = A.length by omega, List.set_append_right _ _ (Nat.le_refl _), Nat.sub_self, List.set_cons_zero]
    · rw [← hw]
      simp only [fmtL, if_neg hlt, List.append_assoc]
      rw [show (c.2 - y).toNat = 0 by omega, hr]
      simp
theorem join_rows (A : List (List UInt8)) (r : List UInt8) : Lib.join (A ++ [r]) [47] = (A.map (· ++ [47])).flatten ++ r := by
  induction A with
  | nil => rw [List.nil_append, Lib.join_one]; rfl
  | cons a B ih =>
    cases B with
    | nil => simp [Lib.join, List.intercalate]
    | cons b B =>
      have e : Lib.join (a :: b :: B ++ [r]) [47] = a ++ ([47] ++ Lib.join (b :: B ++ [r]) [47]) := by simp [Lib.join, List.intercalate]
      rw [e, ih]
      simp
theorem rows_end {h x y : Int} {whole : List UInt8} {R : List (List UInt8)} (hR : RowsTo h whole x y [] R) (ho : okL h x y []) : Lib.join R [47] = whole := by
  obtain ⟨A, r, m, rfl, hA, hr, hm, hw⟩ := hR
  have : y + 1 = h := ho
  obtain rfl : m = 0 := by omega
  rw [List.replicate_zero, join_rows, ← hw]
  simp [fmtL]
end Go.Proofs.YtacegndmclnbnaaGreatDoor
