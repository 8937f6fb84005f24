/- IsConnectedShape, the reference's: a breadth-first search. Condition: slices of at most 2^20 cells. -/
import Derived.Test.YtacegndmclnbnaaDoorConnM
import Derived.Test.YtacegndmclnbnaaDoorMove
import Derived.Test.YtacegndmclnbnaaDoorSquares
namespace Go.Proofs.YtacegndmclnbnaaDoor
open Go.RowKit

structure BInv (cs l : List C) (i : Nat) (a : C) (k : Nat) : Prop where
  nodup : l.Nodup
  first : ∀ c, cs[0]? = some c → c ∈ l
  reach : ∀ c, c ∈ l → Reach cs c
  done : ∀ j, j < i → ∀ b, b ∈ cs → nearB (l.getD j (0, 0)) b = true → b ∈ l
  at_ : l[i]? = some a
  part : ∀ j, j < k → ∀ b, cs[j]? = some b → nearB a b = true → b ∈ l
structure BHead (cs l : List C) (i : Nat) : Prop where
  nodup : l.Nodup
  first : ∀ c, cs[0]? = some c → c ∈ l
  reach : ∀ c, c ∈ l → Reach cs c
  done : ∀ j, j < i → ∀ b, b ∈ cs → nearB (l.getD j (0, 0)) b = true → b ∈ l
theorem BHead.start {cs : List C} {c : C} (h : cs[0]? = some c) : BHead cs [c] 0 :=
  ⟨by simp, fun d hd => by rw [h] at hd; injection hd with hd; simp [hd], fun d hd => by rw [List.mem_singleton.1 hd]; exact .first c h, fun j hj => absurd hj (by omega)⟩
theorem BHead.into {cs l : List C} {i : Nat} {a : C} (h : BHead cs l i) (ha : l[i]? = some a) : BInv cs l i a 0 :=
  ⟨h.nodup, h.first, h.reach, h.done, ha, fun j hj => absurd hj (by omega)⟩
theorem BInv.out {cs l : List C} {i k : Nat} {a : C} (h : BInv cs l i a k) (hk : cs.length ≤ k) : BHead cs l (i + 1) :=
  ⟨h.nodup, h.first, h.reach, fun j hj b hb hn => by
    by_cases hji : j = i
    · subst hji
      have : l.getD j (0, 0) = a := by simp [List.getD_eq_getElem?_getD, h.at_]
      rw [this] at hn
      obtain ⟨m, hm, rfl⟩ := List.getElem_of_mem hb
      exact h.part m (by omega) _ (List.getElem?_eq_getElem hm) hn
    · exact h.done j (by omega) b hb hn⟩
theorem BInv.skip {cs l : List C} {i k : Nat} {a b : C} (h : BInv cs l i a k) (hb : cs[k]? = some b) (hs : nearB a b = true → b ∈ l) : BInv cs l i a (k + 1) :=
  ⟨h.nodup, h.first, h.reach, h.done, h.at_, fun j hj c hc hn => by
    by_cases hjk : j = k
    · subst hjk; rw [hb] at hc; injection hc with hc; subst hc; exact hs hn
    · exact h.part j (by omega) c hc hn⟩
theorem BInv.add {cs l : List C} {i k : Nat} {a b : C} (h : BInv cs l i a k) (hb : cs[k]? = some b) (hn : nearB a b = true) (hl : ¬ b ∈ l) : BInv cs (l ++ [b]) i a (k + 1) := by
  have hil := (List.getElem?_eq_some_iff.1 h.at_).1
  refine ⟨?_, fun c hc => List.mem_append_left _ (h.first c hc), fun c hc => ?_, fun j hj c hc hn' => ?_, ?_, fun j hj c hc hn' => ?_⟩
  · rw [List.nodup_append]
    refine ⟨h.nodup, by simp, fun x hx y hy e => ?_⟩
    rw [List.mem_singleton.1 hy] at e
    exact hl (e ▸ hx)
  · rcases List.mem_append.1 hc with hc | hc
    · exact h.reach c hc
    · rw [List.mem_singleton.1 hc]; exact .step a b (h.reach a (List.mem_of_getElem? h.at_)) (List.mem_of_getElem? hb) hn
  · have : (l ++ [b]).getD j (0, 0) = l.getD j (0, 0) := by
      simp only [List.getD_eq_getElem?_getD]; rw [List.getElem?_append_left (by omega)]
    rw [this] at hn'
    exact List.mem_append_left _ (h.done j hj c hc hn')
  · rw [List.getElem?_append_left hil]; exact h.at_
  · by_cases hjk : j = k
    · subst hjk; rw [hb] at hc; injection hc with hc; subst hc; exact List.mem_append_right _ (List.mem_singleton.2 rfl)
    · exact List.mem_append_left _ (h.part j (by omega) c hc hn')
theorem BInv.len {cs l : List C} {i k : Nat} {a : C} (h : BInv cs l i a k) : i < l.length ∧ l.length ≤ cs.length :=
  ⟨(List.getElem?_eq_some_iff.1 h.at_).1, length_le_of_sub h.nodup fun c hc => (h.reach c hc).mem⟩
theorem BHead.len {cs l : List C} {i : Nat} (h : BHead cs l i) : l.length ≤ cs.length := length_le_of_sub h.nodup fun c hc => (h.reach c hc).mem
theorem mem_memC {l : List C} {x y : Int} : memC l x y = true ↔ (x, y) ∈ l := by
  rw [memC_iff]
  constructor
  · rintro ⟨k, hk, e⟩
    have : l[k] = (x, y) := by simpa [hk] using e
    exact this ▸ List.getElem_mem hk
  · intro h
    obtain ⟨k, hk, e⟩ := List.getElem_of_mem h
    exact ⟨k, hk, by simpa [hk] using e⟩

theorem small_mem {cs : List C} (h : isShape cs = true) {c : C} (hc : c ∈ cs) : smallC c := by
  obtain ⟨k, hk, rfl⟩ := List.getElem_of_mem hc
  exact shape_small h (List.getElem?_eq_getElem hk)
theorem own_one (w : World) (p q : Int) : Own (w.alloc (.cells #[.int .i64 p, .int .i64 q] 50)) w.heap.size (.slice (some ⟨w.heap.size, 0, none⟩) 1 1) [(p, q)] :=
  ⟨rfl, Or.inr ⟨w.heap.size, 1, #[.int .i64 p, .int .i64 q], rfl, Nat.le_refl _, heap_alloc_new w _, Nat.le_refl _, by unfold maxLen; omega, rfl, rfl⟩⟩
open Classical in
noncomputable def connected (cs : List C) : Bool := isShape cs && decide (Connected cs)

end Go.Proofs.YtacegndmclnbnaaDoor
