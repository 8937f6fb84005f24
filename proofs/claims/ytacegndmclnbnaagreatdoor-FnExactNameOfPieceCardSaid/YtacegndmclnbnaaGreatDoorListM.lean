/- Lists of shapes in order, each once: the order of shapes, insertion. Plain. -/
import Derived.Test.YtacegndmclnbnaaGreatDoorCmp
namespace Go.Proofs.YtacegndmclnbnaaGreatDoor
open Go.RowKit

theorem bef_step {a b c : C} (h1 : bef a b = true) (h2 : bef b c = true) : bef a c = true := by
  rw [bef_iff] at *
  omega
theorem cmpL_self (cs : List C) : cmpL cs cs = 0 := by
  induction cs with
  | nil => rfl
  | cons a l ih => simp [cmpL, bef_irrefl, ih]
theorem cmpL_cons (a b : C) (r s : List C) : cmpL (a :: r) (b :: s) = if bef a b = true then -1 else if bef b a = true then 1 else cmpL r s := rfl
theorem cmpL_range : ∀ cs ds : List C, cmpL cs ds = -1 ∨ cmpL cs ds = 0 ∨ cmpL cs ds = 1
  | [], _ => by simp [cmpL]
  | _ :: _, [] => by simp [cmpL]
  | a :: r, b :: s => by
    rw [cmpL_cons]
    split
    · exact Or.inl rfl
    · split
      · exact Or.inr (Or.inr rfl)
      · exact cmpL_range r s
theorem cmpL_anti : ∀ cs ds : List C, cmpL ds cs = -cmpL cs ds
  | [], [] => by simp [cmpL]
  | [], _ :: _ => by simp [cmpL]
  | _ :: _, [] => by simp [cmpL]
  | a :: r, b :: s => by
    rw [cmpL_cons, cmpL_cons, cmpL_anti r s]
    by_cases h1 : bef a b = true
    · have h2 := bef_asymm h1
      simp [h1, h2]
    · by_cases h2 : bef b a = true
      · simp [h1, h2]
      · simp [h1, h2]
theorem cmpL_eq : ∀ {cs ds : List C}, cs.length = ds.length → cmpL cs ds = 0 → cs = ds
  | [], [], _, _ => rfl
  | [], _ :: _, h, _ => by simp at h
  | _ :: _, [], h, _ => by simp at h
  | a :: r, b :: s, h, e => by
    rw [cmpL_cons] at e
    split at e
    · cases e
    · split at e
      · cases e
      · rename_i h1 h2
        have e1 : a = b := bef_total (by simpa using h1) (by simpa using h2)
        rw [e1, cmpL_eq (by simpa using h) e]
theorem cmpL_trans : ∀ {cs ds es : List C}, cs.length = ds.length → ds.length = es.length → cmpL cs ds = -1 → cmpL ds es = -1 → cmpL cs es = -1
  | [], _, _, _, _, h, _ => by simp [cmpL] at h
  | _ :: _, [], _, h, _, _, _ => by simp at h
  | _ :: _, _ :: _, [], _, h, _, _ => by simp at h
  | a :: r, b :: s, c :: t, h1, h2, e1, e2 => by
    rw [cmpL_cons] at e1 e2 ⊢
    by_cases p : bef a b = true
    · by_cases q : bef b c = true
      · rw [if_pos (bef_step p q)]
      · rw [if_neg q] at e2
        by_cases q' : bef c b = true
        · rw [if_pos q'] at e2; cases e2
        · have e3 : b = c := bef_total (by simpa using q) (by simpa using q')
          rw [← e3, if_pos p]
    · rw [if_neg p] at e1
      by_cases p' : bef b a = true
      · rw [if_pos p'] at e1; cases e1
      · rw [if_neg p'] at e1
        have e3 : a = b := bef_total (by simpa using p) (by simpa using p')
        rw [e3]
        by_cases q : bef b c = true
        · rw [if_pos q]
        · rw [if_neg q] at e2 ⊢
          by_cases q' : bef c b = true
          · rw [if_pos q'] at e2; cases e2
          · rw [if_neg q'] at e2 ⊢
            exact cmpL_trans (by simpa using h1) (by simpa using h2) e1 e2

/-- the strict order of shapes -/
def shLt (a b : List C) : Prop := cmpC a b < 0
theorem cmpC_anti (a b : List C) : cmpC b a = -cmpC a b := by
  unfold cmpC
  rw [cmpL_anti a b]
  split <;> split <;> omega
theorem cmpC_zero {a b : List C} : cmpC a b = 0 ↔ a = b := by
  constructor
  · intro h
    unfold cmpC at h
    split at h
    · cases h
    · split at h
      · cases h
      · exact cmpL_eq (by omega) h
  · rintro rfl
    unfold cmpC
    simp [cmpL_self]
theorem shLt_irrefl (a : List C) : ¬ shLt a a := by
  unfold shLt
  rw [cmpC_zero.2 rfl]
  omega
theorem shLt_trans {a b c : List C} (h1 : shLt a b) (h2 : shLt b c) : shLt a c := by
  unfold shLt cmpC at *
  have r1 := cmpL_range a b
  have r2 := cmpL_range b c
  by_cases l1 : a.length < b.length
  · by_cases l2 : b.length < c.length
    · rw [if_pos (by omega)]; omega
    · rw [if_neg l2] at h2
      by_cases l3 : c.length < b.length
      · rw [if_pos l3] at h2; omega
      · rw [if_pos (by omega)]; omega
  · rw [if_neg l1] at h1
    by_cases l1' : b.length < a.length
    · rw [if_pos l1'] at h1; omega
    · rw [if_neg l1'] at h1
      by_cases l2 : b.length < c.length
      · rw [if_pos (by omega)]; omega
      · rw [if_neg l2] at h2
        by_cases l3 : c.length < b.length
        · rw [if_pos l3] at h2; omega
        · rw [if_neg l3] at h2
          have e : cmpL a c = -1 := cmpL_trans (ds := b) (by omega) (by omega) (by omega) (by omega)
          rw [if_neg (by omega), if_neg (by omega), e]
          omega
theorem shLt_tri (a b : List C) : shLt a b ∨ a = b ∨ shLt b a := by
  by_cases h : cmpC a b < 0
  · exact Or.inl h
  · by_cases e : cmpC a b = 0
    · exact Or.inr (Or.inl (cmpC_zero.1 e))
    · refine Or.inr (Or.inr ?_)
      show cmpC b a < 0
      rw [cmpC_anti a b]; omega

/-- in order, each once -/
def SortedS (ls : List (List C)) : Prop := ls.Pairwise shLt
def insS (s : List C) : List (List C) → List (List C)
  | [] => [s]
  | a :: l => if cmpC s a < 0 then s :: a :: l else if cmpC s a = 0 then a :: l else a :: insS s l
theorem insS_mem (s : List C) : ∀ (ls : List (List C)) (x : List C), x ∈ insS s ls ↔ x = s ∨ x ∈ ls
  | [], x => by simp [insS]
  | a :: l, x => by
    unfold insS
    split
    · simp
    · split
      · rename_i h
        have := cmpC_zero.1 h
        subst this
        simp
      · rw [List.mem_cons, insS_mem s l x, List.mem_cons]
        constructor
        · rintro (h | h | h)
          · exact Or.inr (Or.inl h)
          · exact Or.inl h
          · exact Or.inr (Or.inr h)
        · rintro (h | h | h)
          · exact Or.inr (Or.inl h)
          · exact Or.inl h
          · exact Or.inr (Or.inr h)
theorem insS_sorted (s : List C) : ∀ {ls : List (List C)}, SortedS ls → SortedS (insS s ls)
  | [], _ => by simp [insS, SortedS]
  | a :: l, h => by
    have hp := List.pairwise_cons.1 h
    unfold insS
    split
    · rename_i hs
      refine List.pairwise_cons.2 ⟨fun x hx => ?_, h⟩
      rcases List.mem_cons.1 hx with rfl | hx
      · exact hs
      · exact shLt_trans hs (hp.1 x hx)
    · split
      · exact h
      · rename_i h1 h2
        refine List.pairwise_cons.2 ⟨fun x hx => ?_, insS_sorted s hp.2⟩
        rcases (insS_mem s l x).1 hx with rfl | hx
        · show cmpC a x < 0
          rw [cmpC_anti x a]; omega
        · exact hp.1 x hx
theorem insS_len (s : List C) : ∀ ls : List (List C), (insS s ls).length ≤ ls.length + 1
  | [] => by simp [insS]
  | a :: l => by
    unfold insS
    split
    · simp
    · split
      · simp
      · have := insS_len s l
        simp only [List.length_cons]; omega
theorem insS_here {s : List C} : ∀ {ls : List (List C)}, SortedS ls → s ∈ ls → insS s ls = ls
  | [], _, h => by simp at h
  | a :: l, hs, h => by
    have hp := List.pairwise_cons.1 hs
    unfold insS
    rcases List.mem_cons.1 h with rfl | h
    · rw [if_neg (by rw [cmpC_zero.2 rfl]; omega), if_pos (cmpC_zero.2 rfl)]
    · have : shLt a s := hp.1 s h
      have e : cmpC s a = -cmpC a s := cmpC_anti a s
      unfold shLt at this
      rw [if_neg (by omega), if_neg (by omega), insS_here hp.2 h]
/-- where a shape goes: behind k shapes before it, ahead of shapes behind it -/
theorem insS_split {s : List C} : ∀ {ls : List (List C)} (k : Nat), (∀ x, x ∈ ls.take k → shLt x s) → (∀ x, x ∈ ls.drop k → shLt s x) → insS s ls = ls.take k ++ s :: ls.drop k
  | [], k, _, _ => by simp [insS]
  | a :: l, 0, _, h => by
    have : cmpC s a < 0 := h a (by simp)
    simp [insS, this]
  | a :: l, k + 1, h1, h2 => by
    have h : cmpC a s < 0 := h1 a (by simp)
    have e : cmpC s a = -cmpC a s := cmpC_anti a s
    unfold insS
    rw [if_neg (by omega), if_neg (by omega), insS_split k (fun x hx => h1 x (by simp [hx])) (fun x hx => h2 x (by simpa using hx))]
    simp
end Go.Proofs.YtacegndmclnbnaaGreatDoor
