/- Cells that hang together: what two searches over them have in common. Plain. -/
import Derived.Test.YthhaojbnnacdbaaConv
import Derived.Test.YthhaojbnnacdbaaSides
namespace Go.Proofs.Ythhaojbnnacdbaa

/-- what is reached from the first cell by steps over sides -/
inductive Reach (cs : List C) : C → Prop
  | first : ∀ c, cs[0]? = some c → Reach cs c
  | step : ∀ a b, Reach cs a → b ∈ cs → nearB a b = true → Reach cs b
def Connected (cs : List C) : Prop := ∀ c, c ∈ cs → Reach cs c
theorem Reach.mem {cs : List C} {c : C} (h : Reach cs c) : c ∈ cs := by
  cases h with
  | first _ h => exact List.mem_of_getElem? h
  | step _ _ _ h _ => exact h

theorem shape_inj {cs : List C} (h : isShape cs = true) {i j : Nat} (hi : i < cs.length) (hj : j < cs.length) (e : cs.getD i (0, 0) = cs.getD j (0, 0)) : i = j := by
  rcases Nat.lt_trichotomy i j with h1 | h1 | h1
  · have := shape_lt h h1 hj; rw [e] at this; exact by rw [bef_irrefl] at this; cases this
  · exact h1
  · have := shape_lt h h1 hi; rw [e] at this; exact by rw [bef_irrefl] at this; cases this
theorem shape_nodup {cs : List C} (h : isShape cs = true) : cs.Nodup := by
  rw [List.nodup_iff_pairwise_ne, List.pairwise_iff_getElem]
  intro i j hi hj hij e
  have := shape_inj h (i := i) (j := j) hi hj (by simp [hi, hj, e])
  omega

/-- a set of cells that holds the first and is closed under steps holds all that is reached -/
theorem reach_in {cs : List C} {p : C → Prop} (h0 : ∀ c, cs[0]? = some c → p c) (hs : ∀ a b, p a → a ∈ cs → b ∈ cs → nearB a b = true → p b) : ∀ c, Reach cs c → p c := by
  intro c hc
  induction hc with
  | first c h => exact h0 c h
  | step a b ha hb hn ih => exact hs a b ih ha.mem hb hn

/-- a list without twins within another of no greater length holds it whole -/
theorem whole_of_length {l m : List C} (hl : l.Nodup) (hs : ∀ c, c ∈ l → c ∈ m) (hm : m.length ≤ l.length) : ∀ c, c ∈ m → c ∈ l := by
  induction l generalizing m with
  | nil => intro c hc; cases m with
    | nil => exact hc
    | cons _ _ => simp at hm
  | cons a r ih =>
    intro c hc
    have ha : a ∈ m := hs a (List.mem_cons_self ..)
    have hl' := List.nodup_cons.1 hl
    by_cases hca : c = a
    · rw [hca]; exact List.mem_cons_self ..
    · refine List.mem_cons_of_mem _ (ih (m := m.erase a) hl'.2 (fun d hd => ?_) ?_ c ?_)
      · have hda : d ≠ a := fun e => hl'.1 (e ▸ hd)
        exact (List.mem_erase_of_ne hda).2 (hs d (List.mem_cons_of_mem _ hd))
      · rw [List.length_erase_of_mem ha]; simp at hm; omega
      · exact (List.mem_erase_of_ne hca).2 hc
theorem length_le_of_sub {l m : List C} (hl : l.Nodup) (hs : ∀ c, c ∈ l → c ∈ m) : l.length ≤ m.length := by
  induction l generalizing m with
  | nil => exact Nat.zero_le _
  | cons a r ih =>
    have hl' := List.nodup_cons.1 hl
    have ha : a ∈ m := hs a (List.mem_cons_self ..)
    have := ih (m := m.erase a) hl'.2 fun d hd => (List.mem_erase_of_ne (fun e : d = a => hl'.1 (e ▸ hd))).2 (hs d (List.mem_cons_of_mem _ hd))
    rw [List.length_erase_of_mem ha] at this
    have h1 : 0 < m.length := List.length_pos_of_mem ha
    simp; omega

/-- the breadth-first search: at its end it has found them all, or not -/
theorem bfs_end {cs l : List C} (hn : cs.Nodup) (hl : l.Nodup) (h0 : ∀ c, cs[0]? = some c → c ∈ l) (hr : ∀ c, c ∈ l → Reach cs c) (hc : ∀ a b, a ∈ l → b ∈ cs → nearB a b = true → b ∈ l) :
    l.length = cs.length ↔ Connected cs := by
  constructor
  · intro e c hcm
    exact hr c (whole_of_length hl (fun c h => (hr c h).mem) (by omega) c hcm)
  · intro h
    have h1 := length_le_of_sub hl (fun c h => (hr c h).mem)
    have h2 := length_le_of_sub hn (m := l) fun c hcm => reach_in (p := fun c => c ∈ l) h0 (fun a b ha _ hb hn => hc a b ha hb hn) c (h c hcm)
    omega
/-- the search by marks -/
theorem marks_end {cs : List C} {seen : List Bool} (hs : isShape cs = true) (hl : seen.length = cs.length) (h0 : seen.getD 0 false = true) (hr : ∀ j, seen.getD j false = true → Reach cs (cs.getD j (0, 0)))
    (hc : ∀ i j, i < cs.length → j < cs.length → seen.getD i false = true → nearAt cs i j = true → seen.getD j false = true) : seen.count true = cs.length ↔ Connected cs := by
  rw [← hl, List.count_eq_length]
  constructor
  · intro h c hcm
    obtain ⟨k, hk, rfl⟩ := List.getElem_of_mem hcm
    have := hr k (by have := h seen[k] (List.getElem_mem _); simp [hl, hk, ← this])
    simpa [hk] using this
  · intro h b hb
    obtain ⟨k, hk, rfl⟩ := List.getElem_of_mem hb
    have key := reach_in (cs := cs) (p := fun c => ∀ j, j < cs.length → cs.getD j (0, 0) = c → seen.getD j false = true)
      (fun c hc0 j hj e => by
        have hp : 0 < cs.length := by omega
        have : cs.getD 0 (0, 0) = c := by simp [List.getD_eq_getElem?_getD, hc0]
        rw [shape_inj hs hj hp (e.trans this.symm)]; exact h0)
      (fun a b ha ham hbm hnab j hj e => by
        obtain ⟨i, hi, rfl⟩ := List.getElem_of_mem ham
        have hia : cs.getD i (0, 0) = cs[i] := by simp [hi]
        exact hc i j hi hj (ha i hi hia) (by unfold nearAt; rw [hia, e]; exact hnab))
      (cs.getD k (0, 0)) (h _ (by rw [hl] at hk; simp [hk])) k (by omega) rfl
    simpa [hk] using key.symm
end Go.Proofs.Ythhaojbnnacdbaa
