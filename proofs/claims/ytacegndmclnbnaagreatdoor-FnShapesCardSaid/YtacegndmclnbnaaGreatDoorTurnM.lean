/- A shape, turned, is a shape. Plain. -/
import Derived.Test.YtacegndmclnbnaaGreatDoorTurn2
namespace Go.Proofs.YtacegndmclnbnaaGreatDoor

theorem isShape_mk {cs : List C} (hs : Sorted cs) (hb : ∀ c, c ∈ cs → 0 ≤ c.1 ∧ c.1 ≤ 7 ∧ 0 ≤ c.2 ∧ c.2 ≤ 7) (h1 : 1 ≤ cs.length) (h8 : cs.length ≤ 8) : isShape cs = true := by
  have hat : ∀ k, k < cs.length → okAt cs k = true := by
    intro k hk
    have e := List.getElem?_eq_getElem hk
    have hon : onB cs[k] = true := by
      have := hb cs[k] (List.getElem_mem hk)
      simp [onB, inB]; omega
    by_cases h0 : k = 0
    · subst h0; rw [okAt_first e]; exact hon
    · rw [okAt_next (by omega) (List.getElem?_eq_getElem (show k - 1 < cs.length by omega)) e, hon]
      exact List.pairwise_iff_getElem.1 hs (k - 1) k (by omega) hk (by omega)
  have hto : ∀ k, k ≤ cs.length → okTo cs k = true := by
    intro k
    induction k with
    | zero => intro _; rfl
    | succ k ih => intro hk; unfold okTo; rw [ih (by omega), hat k (by omega)]; rfl
  unfold isShape
  rw [hto _ (Nat.le_refl _)]
  simp [inB]; omega
theorem turnN_inj : ∀ (k : Nat) {a b : C}, turnN k a = turnN k b → a = b
  | 0, _, _, h => h
  | k + 1, a, b, h => by
    refine turnN_inj k ?_
    have h1 : turn1 (turnN k a) = turn1 (turnN k b) := h
    unfold turn1 at h1
    have e1 := congrArg Prod.fst h1
    have e2 := congrArg Prod.snd h1
    simp only at e1 e2
    exact Prod.ext e2 (by omega)
theorem flipC_inj {a b : C} {m : Nat} (h : flipC a m = flipC b m) : a = b := by
  unfold flipC at h
  split at h
  · have e1 := congrArg Prod.fst h
    have e2 := congrArg Prod.snd h
    simp only at e1 e2
    exact Prod.ext (by omega) e2
  · exact h
theorem carryC_inj {a b : C} {m : Nat} (h : carryC a m = carryC b m) : a = b := flipC_inj (turnN_inj _ h)
theorem sortC_len {l : List C} (h : l.Nodup) : (sortC l).length = l.length :=
  Nat.le_antisymm (sortC_le l) (length_le_of_sub h fun c hc => (sortC_mem l c).2 hc)
theorem mapC_nodup {cs : List C} (h : cs.Nodup) (m : Nat) : (mapC cs m).Nodup := by
  unfold mapC
  rw [List.nodup_iff_pairwise_ne] at *
  rw [List.pairwise_map]
  exact h.imp fun hab e => hab (carryC_inj e)
theorem turnC_len {cs : List C} (h : cs.Nodup) (m : Nat) : (turnC cs m).length = cs.length := by
  unfold turnC
  rw [cornerC_length]
  have := sortC_len (mapC_nodup h m)
  unfold mapC at this
  rw [this]; simp
def oneSide (f : C → Int) (cs : List C) : Prop := (∀ c, c ∈ cs → 0 ≤ f c ∧ f c ≤ 7) ∨ (∀ c, c ∈ cs → -7 ≤ f c ∧ f c ≤ 0)
theorem oneSide_turn {cs : List C} (h : oneSide (·.1) cs ∧ oneSide (·.2) cs) : oneSide (·.1) (cs.map turn1) ∧ oneSide (·.2) (cs.map turn1) := by
  obtain ⟨h1, h2⟩ := h
  constructor
  · rcases h2 with h2 | h2
    · refine Or.inr fun c hc => ?_
      obtain ⟨a, ha, rfl⟩ := List.mem_map.1 hc
      have := h2 a ha
      simp only [turn1] at *; omega
    · refine Or.inl fun c hc => ?_
      obtain ⟨a, ha, rfl⟩ := List.mem_map.1 hc
      have := h2 a ha
      simp only [turn1] at *; omega
  · rcases h1 with h1 | h1
    · refine Or.inl fun c hc => ?_
      obtain ⟨a, ha, rfl⟩ := List.mem_map.1 hc
      exact h1 a ha
    · refine Or.inr fun c hc => ?_
      obtain ⟨a, ha, rfl⟩ := List.mem_map.1 hc
      exact h1 a ha
theorem oneSide_turnN {cs : List C} (h : oneSide (·.1) cs ∧ oneSide (·.2) cs) : ∀ k, oneSide (·.1) (cs.map (turnN k)) ∧ oneSide (·.2) (cs.map (turnN k))
  | 0 => by simpa [turnN] using h
  | k + 1 => by
    have := oneSide_turn (oneSide_turnN h k)
    rw [List.map_map] at this
    exact this
theorem oneSide_flip {cs : List C} (m : Nat) (h : oneSide (·.1) cs ∧ oneSide (·.2) cs) : oneSide (·.1) (cs.map (flipC · m)) ∧ oneSide (·.2) (cs.map (flipC · m)) := by
  obtain ⟨h1, h2⟩ := h
  by_cases h4 : 4 ≤ m
  · constructor
    · rcases h1 with h1 | h1
      · refine Or.inr fun c hc => ?_
        obtain ⟨a, ha, rfl⟩ := List.mem_map.1 hc
        have := h1 a ha
        simp only [flipC, if_pos h4] at *; omega
      · refine Or.inl fun c hc => ?_
        obtain ⟨a, ha, rfl⟩ := List.mem_map.1 hc
        have := h1 a ha
        simp only [flipC, if_pos h4] at *; omega
    · rcases h2 with h2 | h2
      · refine Or.inl fun c hc => ?_
        obtain ⟨a, ha, rfl⟩ := List.mem_map.1 hc
        simpa only [flipC, if_pos h4] using h2 a ha
      · refine Or.inr fun c hc => ?_
        obtain ⟨a, ha, rfl⟩ := List.mem_map.1 hc
        simpa only [flipC, if_pos h4] using h2 a ha
  · have e : cs.map (flipC · m) = cs := by
      rw [show (fun c => flipC c m) = id from funext fun c => by simp [flipC, h4]]
      simp
    rw [e]; exact ⟨h1, h2⟩
theorem oneSide_map {cs : List C} (m : Nat) (h : oneSide (·.1) cs ∧ oneSide (·.2) cs) : oneSide (·.1) (mapC cs m) ∧ oneSide (·.2) (mapC cs m) := by
  have := oneSide_turnN (oneSide_flip m h) (m % 4)
  rw [List.map_map] at this
  exact this
theorem corner_bounds {cs : List C} (f : C → Int) (h : oneSide f cs) : ∀ c, c ∈ cs → 0 ≤ f c - minOf f cs ∧ f c - minOf f cs ≤ 7 := by
  intro c hc
  have h1 := minOf_le f hc
  obtain ⟨d, hd, e⟩ := minOf_mem f (List.ne_nil_of_mem hc)
  rcases h with h | h
  · have := h c hc; have := h d hd; omega
  · have := h c hc; have := h d hd; omega
theorem turn_shape {cs : List C} (h : isShape cs = true) (m : Nat) : isShape (turnC cs m) = true := by
  have hl := shape_len h
  have hnd := shape_nodup h
  have hone : oneSide (·.1) cs ∧ oneSide (·.2) cs := by
    have hc : ∀ c, c ∈ cs → 0 ≤ c.1 ∧ c.1 ≤ 7 ∧ 0 ≤ c.2 ∧ c.2 ≤ 7 := by
      intro c hc
      obtain ⟨k, hk, rfl⟩ := List.getElem_of_mem hc
      exact shape_cell h (k := k) (x := cs[k].1) (y := cs[k].2) (List.getElem?_eq_getElem hk)
    exact ⟨Or.inl fun c hx => ⟨(hc c hx).1, (hc c hx).2.1⟩, Or.inl fun c hx => ⟨(hc c hx).2.2.1, (hc c hx).2.2.2⟩⟩
  have hm := oneSide_map m hone
  refine isShape_mk (turnC_sorted cs m) (fun c hc => ?_) (by rw [turnC_len hnd]; omega) (by rw [turnC_len hnd]; omega)
  unfold turnC cornerC at hc
  rw [movC_mem] at hc
  have hc' := (sortC_mem _ _).1 hc
  have e1 : minOf (·.1) (sortC (cs.map fun c => carryC c m)) = minOf (·.1) (mapC cs m) := minOf_same (sortC_mem _)
  have e2 : minOf (·.2) (sortC (cs.map fun c => carryC c m)) = minOf (·.2) (mapC cs m) := minOf_same (sortC_mem _)
  rw [e1, e2] at hc'
  have b1 := corner_bounds (·.1) hm.1 _ hc'
  have b2 := corner_bounds (·.2) hm.2 _ hc'
  simp only at b1 b2
  omega
end Go.Proofs.YtacegndmclnbnaaGreatDoor
