/- The shapes of n cells that hang together, those that come first under motions. Plain. -/
import Derived.Test.YthhaojbnnacdbaaExtM
namespace Go.Proofs.Ythhaojbnnacdbaa
open Go.RowKit

def growRow (acc : L2) (ls : L2) : L2 := ls.foldl (fun a t => insS t a) acc
theorem growRow_next {acc ls : L2} {k : Nat} {t : List C} (h : ls[k]? = some t) : growRow acc (ls.take (k + 1)) = insS t (growRow acc (ls.take k)) := by
  unfold growRow; rw [take_next h, List.foldl_append]; rfl
theorem growRow_zero (acc ls : L2) : growRow acc (ls.take 0) = acc := by unfold growRow; rw [List.take_zero]; rfl
def nextL (ls : L2) : L2 := ls.foldl (fun a s => growRow a (extC s)) []
theorem nextL_next {ls : L2} {k : Nat} {t : List C} (h : ls[k]? = some t) : nextL (ls.take (k + 1)) = growRow (nextL (ls.take k)) (extC t) := by
  unfold nextL; rw [take_next h, List.foldl_append]; rfl
theorem nextL_zero (ls : L2) : nextL (ls.take 0) = [] := by rw [List.take_zero]; rfl
def fixL : Nat → L2
  | 0 => [[(0, 0)]]
  | k + 1 => nextL (fixL k)
theorem growRow_sorted {acc : L2} (h : SortedS acc) : ∀ ls : L2, SortedS (growRow acc ls) := by
  intro ls
  induction ls generalizing acc with
  | nil => exact h
  | cons t r ih => exact ih (insS_sorted t h)
theorem growRow_mem (x : List C) : ∀ (ls acc : L2), x ∈ growRow acc ls ↔ x ∈ acc ∨ x ∈ ls
  | [], acc => by simp [growRow]
  | t :: r, acc => by
    show x ∈ growRow (insS t acc) r ↔ _
    rw [growRow_mem x r, insS_mem, List.mem_cons]
    constructor
    · rintro ((h | h) | h)
      · exact Or.inr (Or.inl h)
      · exact Or.inl h
      · exact Or.inr (Or.inr h)
    · rintro (h | h | h)
      · exact Or.inl (Or.inr h)
      · exact Or.inl (Or.inl h)
      · exact Or.inr h
theorem growRow_len : ∀ (ls acc : L2), (growRow acc ls).length ≤ acc.length + ls.length
  | [], acc => by simp [growRow]
  | t :: r, acc => by
    have h := growRow_len r (insS t acc)
    have h2 := insS_len t acc
    show (growRow (insS t acc) r).length ≤ _
    simp only [List.length_cons]; omega
theorem nextFold_sorted : ∀ (ls acc : L2), SortedS acc → SortedS (ls.foldl (fun a s => growRow a (extC s)) acc)
  | [], _, h => h
  | _ :: r, _, h => nextFold_sorted r _ (growRow_sorted h _)
theorem nextL_sorted (ls : L2) : SortedS (nextL ls) := nextFold_sorted ls [] List.Pairwise.nil
theorem nextFold_mem (x : List C) : ∀ (ls acc : L2), x ∈ ls.foldl (fun a s => growRow a (extC s)) acc ↔ x ∈ acc ∨ ∃ s, s ∈ ls ∧ x ∈ extC s
  | [], acc => by simp
  | s :: r, acc => by
    show x ∈ r.foldl (fun a s => growRow a (extC s)) (growRow acc (extC s)) ↔ _
    rw [nextFold_mem x r, growRow_mem]
    constructor
    · rintro ((h | h) | ⟨t, ht, h⟩)
      · exact Or.inl h
      · exact Or.inr ⟨s, List.mem_cons_self .., h⟩
      · exact Or.inr ⟨t, List.mem_cons_of_mem _ ht, h⟩
    · rintro (h | ⟨t, ht, h⟩)
      · exact Or.inl (Or.inl h)
      · rcases List.mem_cons.1 ht with rfl | ht
        · exact Or.inl (Or.inr h)
        · exact Or.inr ⟨t, ht, h⟩
theorem nextL_mem {ls : L2} {x : List C} : x ∈ nextL ls ↔ ∃ s, s ∈ ls ∧ x ∈ extC s := by
  unfold nextL; rw [nextFold_mem]; simp
theorem nextFold_len (b : Nat) : ∀ (ls acc : L2), (∀ s, s ∈ ls → (extC s).length ≤ b) → (ls.foldl (fun a s => growRow a (extC s)) acc).length ≤ acc.length + ls.length * b
  | [], acc, _ => by simp
  | s :: r, acc, h => by
    have h1 := nextFold_len b r (growRow acc (extC s)) fun t ht => h t (List.mem_cons_of_mem _ ht)
    have h2 := growRow_len (extC s) acc
    have h3 := h s (List.mem_cons_self ..)
    show (r.foldl (fun a s => growRow a (extC s)) (growRow acc (extC s))).length ≤ _
    simp only [List.length_cons, Nat.succ_mul]; omega
theorem nextL_len {ls : L2} (b : Nat) (h : ∀ s, s ∈ ls → (extC s).length ≤ b) : (nextL ls).length ≤ ls.length * b := by
  have := nextFold_len b ls [] h
  simpa [nextL] using this
theorem addC_len_eq {cs : List C} {d : C} (h : cs.Nodup) (hd : memC cs d.1 d.2 = false) : (addC cs d).length = cs.length + 1 := by
  have hn : (cs ++ [d]).Nodup := by
    rw [List.nodup_append]
    refine ⟨h, by simp, fun x hx y hy e => ?_⟩
    rw [List.mem_singleton.1 hy] at e
    subst e
    rw [mem_memC.2 hx] at hd
    cases hd
  unfold addC
  rw [cornerC_len, sortC_len hn]
  simp
theorem fixL_each : ∀ k, k ≤ 7 → ∀ s, s ∈ fixL k → isShape s = true ∧ s.length = k + 1
  | 0, _, s, h => by
    rw [List.mem_singleton.1 h]
    exact ⟨by decide +kernel, rfl⟩
  | k + 1, hk, s, h => by
    obtain ⟨t, ht, hs⟩ := nextL_mem.1 h
    have ih := fixL_each k (by omega) t ht
    obtain ⟨d, _, hd, hsh, rfl⟩ := (extTo_mem _ _ s).1 hs
    exact ⟨hsh, by rw [addC_len_eq (shape_sorted ih.1).nodup hd, ih.2]⟩
theorem fixL_ext {k : Nat} (hk : k ≤ 6) {s : List C} (h : s ∈ fixL k) : extL s = extC s := by
  obtain ⟨h1, h2⟩ := fixL_each k (by omega) s h
  unfold extL
  rw [h1, h2, decide_eq_true (by omega)]; rfl
theorem fixL_sorted : ∀ k, SortedS (fixL k)
  | 0 => List.pairwise_singleton _ _
  | _ + 1 => nextL_sorted _
theorem fixL_len_step {k b : Nat} (hk : k ≤ 6) (h : (fixL k).length ≤ b) : (fixL (k + 1)).length ≤ b * (4 * (k + 1)) := by
  have h1 : (fixL (k + 1)).length ≤ (fixL k).length * (4 * (k + 1)) := nextL_len (4 * (k + 1)) fun s hs => by
    have h2 := extC_len s
    rw [(fixL_each k (by omega) s hs).2] at h2
    exact h2
  exact Nat.le_trans h1 (Nat.mul_le_mul_right _ h)
theorem fixL_len : ∀ k, k ≤ 4 → (fixL k).length ≤ 6144 := by
  have h0 : (fixL 0).length ≤ 1 := Nat.le_refl _
  have h1 : (fixL 1).length ≤ 4 := fixL_len_step (by omega) h0
  have h2 : (fixL 2).length ≤ 32 := fixL_len_step (by omega) h1
  have h3 : (fixL 3).length ≤ 384 := fixL_len_step (by omega) h2
  have h4 : (fixL 4).length ≤ 6144 := fixL_len_step (by omega) h3
  intro k hk
  have : k = 0 ∨ k = 1 ∨ k = 2 ∨ k = 3 ∨ k = 4 := by omega
  rcases this with rfl | rfl | rfl | rfl | rfl <;> omega
theorem nextTake_len {k : Nat} (hk : k ≤ 3) (i : Nat) : (nextL ((fixL k).take i)).length ≤ 6144 * 16 := by
  have hl : ((fixL k).take i).length ≤ 6144 := by have := fixL_len k (by omega); rw [List.length_take]; omega
  refine Nat.le_trans (nextL_len 16 fun s hs => ?_) (Nat.mul_le_mul_right _ hl)
  have h2 := extC_len s
  rw [(fixL_each k (by omega) s (List.mem_of_mem_take hs)).2] at h2
  omega
theorem nextTake_short {k : Nat} (i : Nat) (acc : L2) (h : ∀ s, s ∈ acc → s.length ≤ 8) : shortS (growRow (nextL ((fixL k).take i)) acc) := by
  intro x hx
  rcases (growRow_mem x _ _).1 hx with hx | hx
  · obtain ⟨s, _, hs⟩ := nextL_mem.1 hx
    have := extC_each s x hs; omega
  · have := h x hx; omega
theorem fixL_short {k : Nat} (hk : k ≤ 7) : shortS (fixL k) := fun s hs => by have := (fixL_each k hk s hs).2; omega
def FixedL (n : Int) : L2 := if inB n 1 5 = true then fixL (n.toNat - 1) else []
theorem FixedL_each {n : Int} {s : List C} (h : s ∈ FixedL n) : isShape s = true := by
  unfold FixedL at h
  split at h
  · rename_i hn
    simp [inB] at hn
    exact (fixL_each _ (by omega) s h).1
  · cases h
theorem FixedL_nice (n : Int) : (FixedL n).length ≤ 1048576 ∧ totS (FixedL n) ≤ 1048576 := by
  have h2 := totS_le (ls := FixedL n) (b := 8) fun s hs => (shape_len (FixedL_each hs)).2
  have h1 : (FixedL n).length ≤ 6144 := by
    unfold FixedL
    split
    · rename_i hn
      simp [inB] at hn
      exact fixL_len _ (by omega)
    · simp
  omega
theorem FixedL_len (n : Int) : (FixedL n).length ≤ 6144 := by
  unfold FixedL
  split
  · rename_i hn
    simp [inB] at hn
    exact fixL_len _ (by omega)
  · simp

/-! ### First under motions -/
def leastTo (s : List C) : Nat → Bool
  | 0 => true
  | m + 1 => leastTo s m && decide (0 ≤ cmpC (turnC s m) s)
theorem leastTo_off {s : List C} {k : Nat} (h : leastTo s k = false) : ∀ m, k ≤ m → leastTo s m = false
  | 0, hm => by obtain rfl : k = 0 := by omega
                exact h
  | m + 1, hm => by
    by_cases e : k = m + 1
    · subst e; exact h
    · unfold leastTo; rw [leastTo_off h m (by omega)]; rfl
def firstL (n : Int) (m : Nat) : L2 := (FixedL n).filter fun s => leastTo s m
theorem firstL_yes {ls : L2} {m k : Nat} {s : List C} (h : ls[k]? = some s) (hs : leastTo s m = true) : (ls.take (k + 1)).filter (fun s => leastTo s m) = (ls.take k).filter (fun s => leastTo s m) ++ [s] := by
  rw [take_next h, List.filter_append]; simp [hs]
theorem firstL_no {ls : L2} {m k : Nat} {s : List C} (h : ls[k]? = some s) (hs : leastTo s m = false) : (ls.take (k + 1)).filter (fun s => leastTo s m) = (ls.take k).filter (fun s => leastTo s m) := by
  rw [take_next h, List.filter_append]; simp [hs]
theorem firstL_nice (m : Nat) (n : Int) : (firstL n m).length ≤ 1048576 ∧ totS (firstL n m) ≤ 1048576 := by
  have h2 := totS_le (ls := firstL n m) (b := 8) fun s hs => (shape_len (FixedL_each ((List.mem_filter.1 hs).1))).2
  have h1 : (firstL n m).length ≤ 6144 := Nat.le_trans (List.length_filter_le _ _) (FixedL_len n)
  omega
def freeL (n : Int) : L2 := firstL n 8
def oneL (n : Int) : L2 := firstL n 4
theorem freeL_nice (n : Int) : (freeL n).length ≤ 1048576 ∧ totS (freeL n) ≤ 1048576 := firstL_nice 8 n
theorem oneL_nice (n : Int) : (oneL n).length ≤ 1048576 ∧ totS (oneL n) ≤ 1048576 := firstL_nice 4 n
def countL (n : Int) : Int := if inB n 1 5 = true then ((freeL n).length : Nat) else -1
end Go.Proofs.Ythhaojbnnacdbaa
