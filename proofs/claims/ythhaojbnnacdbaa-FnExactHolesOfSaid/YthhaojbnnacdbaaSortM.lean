/- Cells in order, each once: what sorting them gives; corners. Plain. -/
import Derived.Test.YthhaojbnnacdbaaConnM
import Derived.Test.YthhaojbnnacdbaaMove
namespace Go.Proofs.Ythhaojbnnacdbaa

def Sorted (l : List C) : Prop := l.Pairwise fun a b => bef a b = true
theorem Sorted.nodup {l : List C} (h : Sorted l) : l.Nodup := by
  rw [List.nodup_iff_pairwise_ne]
  exact h.imp fun hab e => by subst e; rw [bef_irrefl] at hab; cases hab
/-- There is one list in order with given members. -/
theorem sorted_unique : ∀ {l m : List C}, Sorted l → Sorted m → (∀ c, c ∈ l ↔ c ∈ m) → l = m
  | [], [], _, _, _ => rfl
  | [], b :: m, _, _, h => by have := (h b).2 (List.mem_cons_self ..); cases this
  | a :: l, [], _, _, h => by have := (h a).1 (List.mem_cons_self ..); cases this
  | a :: l, b :: m, hl, hm, h => by
    obtain ⟨hl1, hl2⟩ := List.pairwise_cons.1 hl
    obtain ⟨hm1, hm2⟩ := List.pairwise_cons.1 hm
    have hab : a = b := by
      rcases List.mem_cons.1 ((h a).1 (List.mem_cons_self ..)) with e | ha
      · exact e
      · rcases List.mem_cons.1 ((h b).2 (List.mem_cons_self ..)) with e | hb
        · exact e.symm
        · have := bef_asymm (hm1 a ha); rw [hl1 b hb] at this; cases this
    subst hab
    congr 1
    refine sorted_unique hl2 hm2 fun c => ⟨fun hc => ?_, fun hc => ?_⟩
    · rcases List.mem_cons.1 ((h c).1 (List.mem_cons_of_mem _ hc)) with e | hc'
      · subst e; have := hl1 c hc; rw [bef_irrefl] at this; cases this
      · exact hc'
    · rcases List.mem_cons.1 ((h c).2 (List.mem_cons_of_mem _ hc)) with e | hc'
      · subst e; have := hm1 c hc; rw [bef_irrefl] at this; cases this
      · exact hc'
def insC : List C → C → List C
  | [], c => [c]
  | a :: r, c => if bef c a = true then c :: a :: r else if bef a c = true then a :: insC r c else a :: r
theorem insC_mem (c d : C) : ∀ l : List C, d ∈ insC l c ↔ d ∈ l ∨ d = c
  | [] => by simp [insC]
  | a :: r => by
    unfold insC
    split
    · simp only [List.mem_cons]; constructor
      · rintro (h | h | h) <;> simp [h]
      · rintro ((h | h) | h) <;> simp [h]
    · split
      · simp only [List.mem_cons, insC_mem c d r]; constructor
        · rintro (h | h | h) <;> simp [h]
        · rintro ((h | h) | h) <;> simp [h]
      · rename_i h1 h2
        have e : a = c := bef_total (by simpa using h2) (by simpa using h1)
        subst e
        simp only [List.mem_cons]; constructor
        · rintro (h | h) <;> simp [h]
        · rintro ((h | h) | h) <;> simp [h]
theorem insC_sorted (c : C) : ∀ {l : List C}, Sorted l → Sorted (insC l c)
  | [], _ => by simp [insC, Sorted]
  | a :: r, h => by
    obtain ⟨h1, h2⟩ := List.pairwise_cons.1 h
    unfold insC
    split
    · rename_i hca
      refine List.pairwise_cons.2 ⟨fun d hd => ?_, h⟩
      rcases List.mem_cons.1 hd with rfl | hd
      · exact hca
      · exact bef_trans hca (h1 d hd)
    · split
      · rename_i hac
        refine List.pairwise_cons.2 ⟨fun d hd => ?_, insC_sorted c h2⟩
        rcases (insC_mem c d r).1 hd with hd | rfl
        · exact h1 d hd
        · exact hac
      · exact h
def sortC (cs : List C) : List C := cs.foldl insC []
theorem foldl_insC (cs : List C) : ∀ (l : List C), Sorted l → Sorted (cs.foldl insC l) ∧ ∀ c, c ∈ cs.foldl insC l ↔ c ∈ l ∨ c ∈ cs := by
  induction cs with
  | nil => intro l h; exact ⟨h, fun c => by simp⟩
  | cons a r ih =>
    intro l h
    obtain ⟨h1, h2⟩ := ih (insC l a) (insC_sorted a h)
    refine ⟨h1, fun c => ?_⟩
    show c ∈ r.foldl insC (insC l a) ↔ _
    rw [h2, insC_mem]
    simp only [List.mem_cons]
    constructor
    · rintro ((h | h) | h) <;> simp [h]
    · rintro (h | h | h) <;> simp [h]
theorem sortC_sorted (cs : List C) : Sorted (sortC cs) := (foldl_insC cs [] List.Pairwise.nil).1
theorem sortC_mem (cs : List C) (c : C) : c ∈ sortC cs ↔ c ∈ cs := by
  rw [sortC, (foldl_insC cs [] List.Pairwise.nil).2]; simp
theorem sortC_eq {l cs : List C} (h : Sorted l) (hm : ∀ c, c ∈ l ↔ c ∈ cs) : l = sortC cs :=
  sorted_unique h (sortC_sorted cs) fun c => (hm c).trans (sortC_mem cs c).symm
theorem sortC_self {l : List C} (h : Sorted l) : sortC l = l := (sortC_eq h fun _ => Iff.rfl).symm
theorem sortC_snoc (cs : List C) (c : C) : sortC (cs ++ [c]) = insC (sortC cs) c := by
  unfold sortC; rw [List.foldl_append]; rfl
theorem sortC_le (cs : List C) : (sortC cs).length ≤ cs.length :=
  length_le_of_sub (sortC_sorted cs).nodup fun c hc => (sortC_mem cs c).1 hc
theorem sortC_nil : sortC [] = [] := rfl

/-- where the reference puts a cell: behind all that are not greater -/
theorem insC_at {l : List C} {c : C} {k : Nat} (h : Sorted l) (hk : k ≤ l.length) (hhi : ∀ j, k ≤ j → ∀ d, l[j]? = some d → bef c d = true) (hlo : ∀ d, l[k - 1]? = some d → 0 < k → bef d c = true) : insC l c = l.take k ++ c :: l.drop k := by
  have hs : Sorted (l.take k ++ c :: l.drop k) := by
    unfold Sorted
    rw [List.pairwise_append]
    refine ⟨h.sublist (List.take_sublist _ _), ?_, ?_⟩
    · rw [List.pairwise_cons]
      refine ⟨fun d hd => ?_, h.sublist (List.drop_sublist _ _)⟩
      obtain ⟨j, hj, rfl⟩ := List.getElem_of_mem hd
      refine hhi (k + j) (by omega) _ ?_
      rw [← List.getElem?_drop, List.getElem?_eq_getElem hj]
    · intro a ha b hb
      have hac : bef a c = true := by
        obtain ⟨j, hj, rfl⟩ := List.getElem_of_mem ha
        rw [List.length_take] at hj
        rw [List.getElem_take]
        have hk1 : k - 1 < l.length := by omega
        have h1 := hlo _ (List.getElem?_eq_getElem hk1) (by omega)
        rcases Nat.lt_or_ge j (k - 1) with hlt | hge
        · exact bef_trans (List.pairwise_iff_getElem.1 h j (k - 1) (by omega) hk1 hlt) h1
        · have : j = k - 1 := by omega
          subst this; exact h1
      rcases List.mem_cons.1 hb with rfl | hb
      · exact hac
      · refine bef_trans hac ?_
        obtain ⟨j, hj, rfl⟩ := List.getElem_of_mem hb
        refine hhi (k + j) (by omega) _ ?_
        rw [← List.getElem?_drop, List.getElem?_eq_getElem hj]
  refine sorted_unique (insC_sorted c h) hs fun d => ?_
  rw [insC_mem]
  constructor
  · rintro (hd | rfl)
    · rw [← List.take_append_drop k l] at hd
      rcases List.mem_append.1 hd with hd | hd
      · exact List.mem_append_left _ hd
      · exact List.mem_append_right _ (List.mem_cons_of_mem _ hd)
    · exact List.mem_append_right _ (List.mem_cons_self ..)
  · intro hd
    rcases List.mem_append.1 hd with hd | hd
    · exact Or.inl (List.mem_of_mem_take hd)
    · rcases List.mem_cons.1 hd with rfl | hd
      · exact Or.inr rfl
      · exact Or.inl (List.mem_of_mem_drop hd)
theorem insC_in {l : List C} {c : C} (h : Sorted l) (hc : c ∈ l) : insC l c = l :=
  sorted_unique (insC_sorted c h) h fun d => by
    rw [insC_mem]; constructor
    · rintro (h | rfl)
      · exact h
      · exact hc
    · exact Or.inl

/-! ### Shapes are in order -/
theorem shape_sorted {cs : List C} (h : isShape cs = true) : Sorted cs := by
  unfold Sorted
  rw [List.pairwise_iff_getElem]
  intro i j hi hj hij
  have := shape_lt h hij hj
  simpa [hi, hj] using this
theorem bef_move (a b : C) (x y : Int) : bef (a.1 + x, a.2 + y) (b.1 + x, b.2 + y) = bef a b := by
  rw [bef_mk, show bef a b = (decide (a.2 < b.2) || (decide (a.2 = b.2) && decide (a.1 < b.1))) from rfl]
  congr 1
  · exact decide_eq_decide.2 (by omega)
  · congr 1
    · exact decide_eq_decide.2 (by omega)
    · exact decide_eq_decide.2 (by omega)
theorem Sorted.move {l : List C} (h : Sorted l) (x y : Int) : Sorted (movC l x y) := by
  unfold Sorted movC
  rw [List.pairwise_map]
  exact h.imp fun {a b} hab => by rw [bef_move]; exact hab
theorem movC_mem {l : List C} {x y : Int} {c : C} : c ∈ movC l x y ↔ (c.1 - x, c.2 - y) ∈ l := by
  unfold movC
  rw [List.mem_map]
  constructor
  · rintro ⟨a, ha, rfl⟩
    have : (a.1 + x - x, a.2 + y - y) = a := Prod.ext (by show a.1 + x - x = a.1; omega) (by show a.2 + y - y = a.2; omega)
    rw [this]; exact ha
  · intro h
    exact ⟨_, h, Prod.ext (by show c.1 - x + x = c.1; omega) (by show c.2 - y + y = c.2; omega)⟩
theorem sortC_move (cs : List C) (x y : Int) : sortC (movC cs x y) = movC (sortC cs) x y :=
  (sortC_eq ((sortC_sorted cs).move x y) fun c => by rw [movC_mem, movC_mem, sortC_mem]).symm

/-! ### The least coordinates -/
def minOf (f : C → Int) : List C → Int
  | [] => 0
  | [a] => f a
  | a :: b :: r => min (f a) (minOf f (b :: r))
theorem minOf_le (f : C → Int) : ∀ {l : List C} {c : C}, c ∈ l → minOf f l ≤ f c
  | [a], c, h => by rw [List.mem_singleton.1 h]; exact Int.le_refl _
  | a :: b :: r, c, h => by
    unfold minOf
    rcases List.mem_cons.1 h with rfl | h
    · exact Int.min_le_left _ _
    · exact Int.le_trans (Int.min_le_right _ _) (minOf_le f h)
theorem minOf_mem (f : C → Int) : ∀ {l : List C}, l ≠ [] → ∃ c, c ∈ l ∧ minOf f l = f c
  | [a], _ => ⟨a, List.mem_singleton.2 rfl, rfl⟩
  | a :: b :: r, _ => by
    obtain ⟨c, hc, e⟩ := minOf_mem f (l := b :: r) (by simp)
    unfold minOf
    rcases Int.le_total (f a) (minOf f (b :: r)) with h | h
    · exact ⟨a, List.mem_cons_self .., Int.min_eq_left h⟩
    · exact ⟨c, List.mem_cons_of_mem _ hc, by rw [Int.min_eq_right h]; exact e⟩
theorem minOf_eq {f : C → Int} {l : List C} {m : Int} (h1 : ∀ c, c ∈ l → m ≤ f c) (h2 : ∃ c, c ∈ l ∧ f c = m) : minOf f l = m := by
  obtain ⟨c, hc, e⟩ := h2
  have a := minOf_le f hc
  obtain ⟨d, hd, e2⟩ := minOf_mem f (l := l) (List.ne_nil_of_mem hc)
  have b := h1 d hd
  omega
theorem minOf_same {f : C → Int} {l m : List C} (h : ∀ c, c ∈ l ↔ c ∈ m) : minOf f l = minOf f m := by
  cases l with
  | nil => cases m with
    | nil => rfl
    | cons b r => have := (h b).2 (List.mem_cons_self ..); cases this
  | cons a r =>
    obtain ⟨c, hc, e⟩ := minOf_mem f (l := a :: r) (by simp)
    refine Eq.symm (minOf_eq (fun d hd => ?_) ⟨c, (h c).1 hc, e.symm⟩)
    exact minOf_le f ((h d).2 hd)
theorem minOf_snoc (f : C → Int) {l : List C} {c : C} (h : l ≠ []) : minOf f (l ++ [c]) = min (minOf f l) (f c) := by
  refine minOf_eq (fun d hd => ?_) ?_
  · rcases List.mem_append.1 hd with hd | hd
    · exact Int.le_trans (Int.min_le_left _ _) (minOf_le f hd)
    · rw [List.mem_singleton.1 hd]; exact Int.min_le_right _ _
  · obtain ⟨d, hd, e⟩ := minOf_mem f h
    rcases Int.le_total (minOf f l) (f c) with hle | hle
    · exact ⟨d, List.mem_append_left _ hd, by rw [Int.min_eq_left hle]; exact e.symm⟩
    · exact ⟨c, List.mem_append_right _ (List.mem_singleton.2 rfl), by rw [Int.min_eq_right hle]⟩
def cornerC (cs : List C) : List C := movC cs (-(minOf (·.1) cs)) (-(minOf (·.2) cs))
theorem cornerC_length (cs : List C) : (cornerC cs).length = cs.length := movC_length _ _ _
theorem cornerC_sort (cs : List C) : sortC (cornerC cs) = cornerC (sortC cs) := by
  unfold cornerC
  rw [sortC_move, minOf_same (f := (·.1)) (sortC_mem cs), minOf_same (f := (·.2)) (sortC_mem cs)]
theorem cornerC_sorted {cs : List C} (h : Sorted cs) : Sorted (cornerC cs) := h.move _ _
theorem cornerC_self {cs : List C} (h : Sorted cs) : sortC (cornerC cs) = cornerC cs := sortC_self (cornerC_sorted h)
theorem cornerC_nil : cornerC [] = [] := rfl
/-- a shape, turned, in its corner -/
def turnC (cs : List C) (m : Nat) : List C := cornerC (sortC (cs.map fun c => carryC c m))
theorem turnC_sorted (cs : List C) (m : Nat) : Sorted (turnC cs m) := cornerC_sorted (sortC_sorted _)
theorem turnC_impl (cs : List C) (m : Nat) : sortC (cornerC (cs.map fun c => carryC c m)) = turnC cs m := cornerC_sort _
theorem turnC_le (cs : List C) (m : Nat) : (turnC cs m).length ≤ cs.length := by
  unfold turnC; rw [cornerC_length]; exact Nat.le_trans (sortC_le _) (by simp)
end Go.Proofs.Ythhaojbnnacdbaa
