/- A slice of cells is marked with running numbers, and looked over for them: what the laws do to tell whether memory is shared. -/
import Derived.Test.YthhaojbnnacdbaaLawC
import Derived.Maps.AppendAt
namespace Go.Proofs.Ythhaojbnnacdbaa
open Go.RowKit

/-- the cells k, k + 1 | k + 2, k + 3 | .. -/
def marks (k : Int) (n : Nat) : List C := (List.range n).map fun (j : Nat) => (k + 2 * (j : Int), k + 2 * (j : Int) + 1)
theorem marks_length (k : Int) (n : Nat) : (marks k n).length = n := by simp [marks]
theorem marks_get {k : Int} {n j : Nat} (h : j < n) : (marks k n)[j]? = some (k + 2 * (j : Int), k + 2 * (j : Int) + 1) := by
  simp [marks, h]
/-- the first j cells marked, the others as they were -/
def markTo (cs : List C) (k : Int) (j : Nat) : List C := marks k j ++ cs.drop j
theorem markTo_zero (cs : List C) (k : Int) : markTo cs k 0 = cs := by simp [markTo, marks]
theorem markTo_all {cs : List C} {n : Nat} (h : cs.length = n) (k : Int) : markTo cs k n = marks k n := by
  unfold markTo; rw [List.drop_of_length_le (by omega)]; simp
theorem markTo_length {cs : List C} {n j : Nat} (h : cs.length = n) (hj : j ≤ n) (k : Int) : (markTo cs k j).length = n := by
  unfold markTo; simp [marks_length]; omega
theorem marks_succ (k : Int) (j : Nat) : marks k (j + 1) = marks k j ++ [(k + 2 * (j : Int), k + 2 * (j : Int) + 1)] := by
  unfold marks; rw [List.range_succ, List.map_append]; rfl
theorem markTo_set {cs : List C} {n j : Nat} (h : cs.length = n) (hj : j < n) (k : Int) : (markTo cs k j).set j (k + 2 * (j : Int), k + 2 * (j : Int) + 1) = markTo cs k (j + 1) := by
  unfold markTo
  rw [List.set_append_right _ _ (by rw [marks_length]; omega), marks_length, Nat.sub_self, marks_succ, List.append_assoc]
  congr 1
  rw [List.drop_eq_getElem_cons (by omega)]
  rfl

set_option maxHeartbeats 800000 in
theorem markCellS_any (v : Value) (cs : List C) (k : Int) (base : Nat) (w : World) (hn : cs.length ≤ 1048576) (hk : 0 ≤ k ∧ k ≤ 4194304) (h : Own w base v cs) :
    Calls Try.prog 22 #[v, .int .i64 k] w fun e w' => e = .returned (.int .i64 (k + 2 * (cs.length : Int))) ∧ Own w' base v (marks k cs.length) ∧ w.grownBy w' v.ownBlock := by
  obtain ⟨A, cap, rfl, hr, _⟩ := h.form
  obtain ⟨n, hnn⟩ : ∃ n, n = cs.length := ⟨_, rfl⟩
  have hnn' := hnn.symm
  rw [hnn'] at hn h hr ⊢
  have hl := Lib.hid hnn'
  clear hnn hnn' hr
  go_enter Try.func22, Try.ntmps22
  go_wp2
  go_loopw [1, 5] (fun q i wr => ∃ j : Nat, j ≤ n ∧ i = .int .i64 j ∧ q = .int .i64 (k + 2 * (j : Int)) ∧ wr.ownsRow base 58 2 (.slice A n cap) n (flat (markTo cs k j)) ∧ w.grownBy wr (Value.slice A n cap).ownBlock) (fun _ i _ => n - (intOf i).toNat)
  case atStart => exact ⟨0, Nat.zero_le _, rfl, by go_num, by unfold Own at h; rw [hl.out] at h; rw [markTo_zero]; exact h, World.grownBy.refl _ _⟩
  case round =>
    obtain ⟨j, hj, rfl, rfl, hown, hg⟩ := hrel
    by_cases hlt : j < n
    · obtain ⟨g, rfl⟩ : ∃ g, A = some ⟨g, 0, none⟩ := by
        rcases hown.2 with ⟨_, h0⟩ | ⟨g, _, _, e, _⟩
        · omega
        · injection e with e _ _; exact ⟨g, e⟩
      have f1 := World.ownsRow.frozenAt hown (j * 2)
      have f2 := World.ownsRow.frozenAt hown (j * 2 + 1)
      obtain ⟨u1, d1⟩ := row_cell hown (j := j * 2) (by omega)
      obtain ⟨u2, d2⟩ := row_cell hown (j := j * 2 + 1) (by omega)
      have h1 := hown.stored (j * 2) (.int .i64 (k + 2 * (j : Int)))
      have h2 := h1.1.stored (j * 2 + 1) (.int .i64 (k + 2 * (j : Int) + 1))
      have hown3 := h2.1
      have hg3 := World.grownBy.trans hg (World.grownBy.trans h1.2 h2.2)
      rw [flat_set (markTo cs k j) j (k + 2 * (j : Int), k + 2 * (j : Int) + 1), markTo_set hl.out hlt] at hown3
      clear h1 h2 hown hg h
      go_wp2
      go_roundw
      case rel => exact ⟨j + 1, by omega, by go_num, by go_num, hown3, hg3⟩
      case measure => simp [intOf]; omega
    · obtain rfl : j = n := by omega
      rw [markTo_all hl.out] at hown
      go_wp2
      go_ret
      exact ⟨ret_int (by omega), by unfold Own; rw [marks_length]; exact hown, hg⟩

set_option maxHeartbeats 800000 in
theorem heldCellS_any (A : Option Addr) (n cap : Nat) (k : Int) (w : World) (hn : n ≤ 1048576) (hk : 0 ≤ k ∧ k ≤ 4194304) (h : CellsAt w A n (marks k n)) :
    Calls Try.prog 23 #[.slice A n cap, .int .i64 k] w fun e w' => e = .returned (.int .i64 (k + 2 * (n : Int))) ∧ w = w' := by
  go_enter Try.func23, Try.ntmps23
  go_wp2
  go_loop [1, 5] (fun q i => ∃ j : Nat, j ≤ n ∧ i = .int .i64 j ∧ q = .int .i64 (k + 2 * (j : Int))) (fun _ i => n - (intOf i).toNat)
  case atStart => exact ⟨0, Nat.zero_le _, rfl, by go_num⟩
  case round =>
    obtain ⟨j, hj, rfl, rfl⟩ := hrel
    by_cases hlt : j < n
    · obtain ⟨b, o, p, q, rfl, hbl, HK, c1, c2⟩ := h.at_ hlt
      have hm := HK.out
      rw [marks_get hlt] at hm
      injection hm with hm
      injection hm with hp hq
      subst hp hq
      clear h
      go_wp2
      go_round
      case rel => exact ⟨j + 1, by omega, by go_num, by go_num⟩
      case measure => simp [intOf]; omega
    · obtain rfl : j = n := by omega
      clear h
      go_wp2
      go_ret
      exact ⟨ret_int (by omega), rfl⟩

/-! ### Rows beside one another -/
theorem own_beside {w w' : World} {row : Option Nat} {base : Nat} {v : Value} {cs : List C} (h : Own w base v cs) (hg : w.grownBy w' row) (hne : v.ownBlock = none ∨ v.ownBlock ≠ row) : Own w' base v cs := h.kept hg hne
theorem Own.apart {w w' : World} {base base' : Nat} {v v' : Value} {cs cs' : List C} (h : Own w base v cs) (h' : Own w' base' v' cs') (hlt : w.heap.size ≤ base') : v.ownBlock = none ∨ v.ownBlock ≠ v'.ownBlock := by
  cases hv : v.ownBlock with
  | none => exact Or.inl rfl
  | some k =>
    refine Or.inr fun e => ?_
    have h1 := h.lt k hv
    have h2 := h'.lt k e.symm
    omega
theorem Own.apart' {w w' : World} {base base' : Nat} {v v' : Value} {cs cs' : List C} (h : Own w base v cs) (h' : Own w' base' v' cs') (hlt : w.heap.size ≤ base') : v'.ownBlock = none ∨ v'.ownBlock ≠ v.ownBlock := by
  cases hv : v'.ownBlock with
  | none => exact Or.inl rfl
  | some k =>
    refine Or.inr fun e => ?_
    have h1 := h.lt k e.symm
    have h2 := h'.lt k hv
    omega
theorem below_grown {B : Nat} {a w w' : World} {base : Nat} {v : Value} {cs : List C} (h : Below B a w) (ho : Own w base v cs) (hg : w.grownBy w' v.ownBlock) (hBw : B ≤ w.heap.size) (hB : B ≤ base) : Below B a w' :=
  h.grown hg hBw (fun k hk => Nat.le_trans hB (ho.lt k hk).1)
theorem own_cells {w : World} {base n cap : Nat} {A : Option Addr} {cs : List C} (h : Own w base (.slice A n cap) cs) : CellsAt w A n cs := by
  obtain ⟨A', cap', e, hr, _⟩ := h.form
  injection e with e1 e2 _
  subst e1 e2
  exact hr
end Go.Proofs.Ythhaojbnnacdbaa
