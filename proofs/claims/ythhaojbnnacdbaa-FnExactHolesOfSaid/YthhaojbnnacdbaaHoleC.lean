/- A shape's holes: the components of a frame, less one; the cornered shape's own frame counts the same. Plain. -/
import Derived.Test.YthhaojbnnacdbaaHoleM
import Derived.Test.YthhaojbnnacdbaaTurn
namespace Go.Proofs.Ythhaojbnnacdbaa

theorem ext_aux (f : C → Int) : ∀ (l : List C) (m : Int), m ≤ l.foldl (fun m c => max m (f c + 1)) m ∧ (∀ c, c ∈ l → f c + 1 ≤ l.foldl (fun m c => max m (f c + 1)) m) ∧
    (l.foldl (fun m c => max m (f c + 1)) m = m ∨ ∃ c, c ∈ l ∧ l.foldl (fun m c => max m (f c + 1)) m = f c + 1) := by
  intro l
  induction l with
  | nil => intro m; exact ⟨Int.le_refl _, (by intro c h; cases h), Or.inl rfl⟩
  | cons a r ih =>
    intro m
    obtain ⟨h1, h2, h3⟩ := ih (max m (f a + 1))
    rw [List.foldl_cons]
    refine ⟨by omega, fun c hc => ?_, ?_⟩
    · rcases List.mem_cons.1 hc with rfl | hc
      · omega
      · exact h2 c hc
    · rcases h3 with h3 | ⟨c, hc, h3⟩
      · by_cases hm : f a + 1 ≤ m
        · left; rw [h3]; omega
        · right; exact ⟨a, List.mem_cons_self .., by rw [h3]; omega⟩
      · right; exact ⟨c, List.mem_cons_of_mem _ hc, h3⟩
theorem ext_gt (f : C → Int) {cs : List C} {c : C} (h : c ∈ cs) : f c < extOf f cs := by
  have := (ext_aux f cs 0).2.1 c h
  unfold extOf
  omega
theorem ext_at (f : C → Int) {cs : List C} (hne : cs ≠ []) (h0 : ∀ c, c ∈ cs → 0 ≤ f c) : ∃ c, c ∈ cs ∧ extOf f cs = f c + 1 := by
  rcases (ext_aux f cs 0).2.2 with h | h
  · exfalso
    obtain ⟨c, hc⟩ := List.exists_mem_of_ne_nil cs hne
    have := (ext_aux f cs 0).2.1 c hc
    have := h0 c hc
    omega
  · exact h
/-- what HolesOf hands back -/
def HolesIs (cs : List C) (k : Int) : Prop := (isShape cs = false ∧ k = -1) ∨ (isShape cs = true ∧ ∃ l, Reps (FreeIn cs (-1) 8 (-1) 8) l ∧ k = (l.length : Int) - 1)
theorem holes_one {cs : List C} {k m : Int} (h : HolesIs cs k) (g : HolesIs cs m) : k = m := by
  rcases h with ⟨h1, rfl⟩ | ⟨h1, l, hl, rfl⟩ <;> rcases g with ⟨g1, rfl⟩ | ⟨g1, q, hq, rfl⟩
  · rfl
  · rw [h1] at g1; cases g1
  · rw [h1] at g1; cases g1
  · rw [hl.len hq]
/-- the cornered shape's own frame -/
theorem holes_corner {cs : List C} (hs : isShape cs = true) {l : List C} (h : Reps (FreeIn (cornerC cs) (-1) (extOf (·.1) (cornerC cs)) (-1) (extOf (·.2) (cornerC cs))) l) : HolesIs cs ((l.length : Int) - 1) := by
  have hb := smallL_corner hs
  have hl := (shape_len hs).1
  have hne : cs ≠ [] := by rintro rfl; simp at hl
  have hcne : cornerC cs ≠ [] := fun e => by have := cornerC_length cs; rw [e] at this; simp at this; omega
  obtain ⟨p, hp, ep⟩ := ext_at (·.1) hcne (fun c hc => (hb c hc).1)
  obtain ⟨q, hq, eq⟩ := ext_at (·.2) hcne (fun c hc => (hb c hc).2.2.1)
  obtain ⟨u, hu⟩ : ∃ u, u = minOf (·.1) cs := ⟨_, rfl⟩
  obtain ⟨v, hv⟩ : ∃ v, v = minOf (·.2) cs := ⟨_, rfl⟩
  have hmem : ∀ c : C, c ∈ cornerC cs ↔ (c.1 + u, c.2 + v) ∈ cs := fun c => by
    unfold cornerC
    rw [movC_mem, ← hu, ← hv]
    have e1 : c.1 - -u = c.1 + u := by omega
    have e2 : c.2 - -v = c.2 + v := by omega
    rw [e1, e2]
  have hin : ∀ c, c ∈ cs → 0 ≤ c.1 ∧ c.1 ≤ 7 ∧ 0 ≤ c.2 ∧ c.2 ≤ 7 := fun c hc => by
    obtain ⟨k, hk, e⟩ := List.getElem_of_mem hc
    exact shape_cell hs (k := k) (x := c.1) (y := c.2) (by rw [List.getElem?_eq_getElem hk, e])
  have hu0 : 0 ≤ u := by
    obtain ⟨c, hc, e⟩ := minOf_mem (·.1) hne
    have := (hin c hc).1
    have e : minOf (·.1) cs = c.1 := e
    omega
  have hv0 : 0 ≤ v := by
    obtain ⟨c, hc, e⟩ := minOf_mem (·.2) hne
    have := (hin c hc).2.2.1
    have e : minOf (·.2) cs = c.2 := e
    omega
  have hp7 := hin _ ((hmem p).1 hp)
  have hq7 := hin _ ((hmem q).1 hq)
  have hp0 := hb p hp
  have hq0 := hb q hq
  simp only at hp7 hq7 ep eq
  have hbig := reps_frame (X0 := -1 - u) (X1 := 8 - u) (Y0 := -1 - v) (Y1 := 8 - v) (by omega) (by omega) (by omega) (by omega) (by omega) (by omega)
    (fun c hc => ⟨by have := (hb c hc).1; omega, ext_gt (·.1) hc, by have := (hb c hc).2.2.1; omega, ext_gt (·.2) hc⟩) h
  have hmv := reps_move u v hbig
  have eF : (fun c : C => FreeIn (cornerC cs) (-1 - u) (8 - u) (-1 - v) (8 - v) (c.1 - u, c.2 - v)) = FreeIn cs (-1) 8 (-1) 8 := by
    funext c
    refine propext ⟨fun ⟨⟨h1, h2, h3, h4⟩, hn⟩ => ⟨⟨?_, ?_, ?_, ?_⟩, fun hm => hn ((hmem _).2 ?_)⟩, fun ⟨⟨h1, h2, h3, h4⟩, hn⟩ => ⟨⟨?_, ?_, ?_, ?_⟩, fun hm => hn ?_⟩⟩
    all_goals (try simp only at h1 h2 h3 h4)
    · omega
    · omega
    · omega
    · omega
    · have e : ((c.1 - u + u, c.2 - v + v) : C) = c := Prod.ext (by show c.1 - u + u = c.1; omega) (by show c.2 - v + v = c.2; omega)
      rw [e]; exact hm
    · show -1 - u ≤ c.1 - u; omega
    · show c.1 - u ≤ 8 - u; omega
    · show -1 - v ≤ c.2 - v; omega
    · show c.2 - v ≤ 8 - v; omega
    · have := (hmem _).1 hm
      have e : ((c.1 - u + u, c.2 - v + v) : C) = c := Prod.ext (by show c.1 - u + u = c.1; omega) (by show c.2 - v + v = c.2; omega)
      rw [e] at this; exact this
  rw [eF] at hmv
  exact Or.inr ⟨hs, _, hmv, by rw [List.length_map]⟩
end Go.Proofs.Ythhaojbnnacdbaa
