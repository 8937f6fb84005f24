/- A grid of marks and a queue of cells, in memory. -/
import Derived.Test.YthhaojbnnacdbaaHoleP
import Derived.Test.YthhaojbnnacdbaaBx
import Derived.ArgAppend
import Derived.Maps.AppendAt
namespace Go.Proofs.Ythhaojbnnacdbaa
open Go.RowKit

/-! ### A store turns one block -/
theorem set_grown (w : World) (b o : Nat) (v : Value) : w.grownBy (w.setCell ⟨b, o, none⟩ v) (some b) :=
  ⟨rfl, rfl, rfl, by show w.heap.size ≤ (w.heap.modify b _).size; simp, fun k _ hne => by
    show (w.heap.modify b _)[k]? = _
    rw [Array.getElem?_modify, if_neg (fun e => hne (by rw [e]))]⟩
theorem grown_drew {w w' : World} {row : Option Nat} (h : w.grownBy w' row) : w.grownBy w'.drew row := ⟨h.os, h.tape, h.output, h.size, h.block⟩
theorem grown_of_below {w w' : World} (h : Below w.heap.size w w') (row : Option Nat) : w.grownBy w' row := ⟨h.os, h.tape, h.output, h.size, fun k hk _ => h.block k hk⟩

/-! ### The grid -/
def gridV (G : List Bool) : List Value := G.map .bool
def Grid (w : World) (b : Nat) (G : List Bool) : Prop := w.heap[b]? = some (.cells (gridV G).toArray 62 (0, 0))
theorem grid_new (w : World) : Grid (w.alloc (.cells Try.zeroCells62 62)) w.heap.size (List.replicate 100 false) := by
  unfold Grid
  rw [heap_alloc_new]
  have e : Try.zeroCells62 = (gridV (List.replicate 100 false)).toArray := by kernel_rfl
  rw [e]
section
variable {w w' : World} {b : Nat} {G : List Bool} {c : C}
theorem Grid.lt (h : Grid w b G) : b < w.heap.size := lt_of_block h
theorem Grid.cell (h : Grid w b G) (hl : G.length = 100) {x y : Nat} (hx : x < 10) (hy : y < 10) : w.cell? ⟨b, y * 10 + x, none⟩ = some (.bool (gAt G ((x : Int), (y : Int)))) := by
  have hlt : y * 10 + x < G.length := by omega
  unfold Grid at h
  simp [World.cell?, h, gridV, hlt, gAt, ix]
theorem Grid.open_ (h : Grid w b G) (k : Nat) : w.frozen? ⟨b, k, none⟩ = false := by unfold Grid at h; simp [World.frozen?, h]
theorem Grid.below (h : Grid w b G) (hb : Below w.heap.size w w') : Grid w' b G := (hb.block b h.lt).trans h
theorem Grid.grown {row : Option Nat} (h : Grid w b G) (hg : w.grownBy w' row) (hne : some b ≠ row) : Grid w' b G := (hg.block b h.lt hne).trans h
theorem Grid.set (h : Grid w b G) (x y : Nat) : Grid (w.setCell ⟨b, y * 10 + x, none⟩ (.bool true)) b (G.set (ix ((x : Int), (y : Int))) true) := by
  have hlt := h.lt
  have e : ix ((x : Int), (y : Int)) = y * 10 + x := by simp [ix]
  have h' : w.heap[b] = .cells (gridV G).toArray 62 (0, 0) := by unfold Grid at h; simpa [Array.getElem?_eq_getElem hlt] using h
  rw [e]
  show (w.heap.modify b _)[b]? = _
  rw [Array.getElem?_eq_getElem (by simpa using hlt), Array.getElem_modify_self, h']
  simp [gridV, List.map_set]
theorem Grid.drew (h : Grid w b G) : Grid w.drew b G := h
end
/-- how many cells of the grid stand unmarked -/
def gLeft (w : World) (b : Nat) : Nat := match w.heap[b]? with
  | some (.cells cs _ _) => 100 - cs.toList.countP fun v => match v with
    | .bool true => true
    | _ => false
  | _ => 0
theorem gridV_count (G : List Bool) : (gridV G).countP (fun v => match v with
    | .bool true => true
    | _ => false) = G.count true := by
  induction G with
  | nil => rfl
  | cons a r ih => cases a <;> simp [gridV] at ih ⊢ <;> exact ih
theorem Grid.left {w : World} {b : Nat} {G : List Bool} (h : Grid w b G) : gLeft w b = 100 - G.count true := by
  unfold Grid at h
  unfold gLeft
  rw [h]
  simp only
  have := gridV_count G
  rw [← this]
def lenOf : Value → Nat
  | .slice _ n _ => n
  | _ => 0

/-! ### The queue -/
/-- a slice of n cells at (g, off), its spare cells there and not frozen -/
structure Qu (w : World) (B g off n cap : Nat) (T : List C) : Prop where
  base : B ≤ g
  lt : g < w.heap.size
  len : T.length = n
  le : n ≤ cap
  at_ : ∀ j, j < n → w.cell? ⟨g, off + j * 2, none⟩ = some (.int .i64 (T.getD j (0, 0)).1) ∧ w.cell? ⟨g, off + j * 2 + 1, none⟩ = some (.int .i64 (T.getD j (0, 0)).2)
  spare : ∀ j, j < (cap - n) * 2 → (w.cell? ⟨g, off + n * 2 + j, none⟩).isSome = true ∧ w.frozen? ⟨g, off + n * 2 + j, none⟩ = false
def Queue (w : World) (B : Nat) (v : Value) (T : List C) : Prop := ∃ g off n cap, v = .slice (some ⟨g, off, none⟩) n cap ∧ Qu w B g off n cap T
section
variable {w w' : World} {B g off n cap : Nat} {T : List C} {v : Value}
theorem Qu.cells (h : Qu w B g off n cap T) : CellsAt w (some ⟨g, off, none⟩) n T := ⟨h.len, fun _ => ⟨g, off, rfl, h.lt, h.at_⟩⟩
theorem Qu.grown {row : Option Nat} (h : Qu w B g off n cap T) (hg : w.grownBy w' row) (hne : some g ≠ row) : Qu w' B g off n cap T := by
  have hk := hg.block g h.lt hne
  refine ⟨h.base, Nat.lt_of_lt_of_le h.lt hg.size, h.len, h.le, fun j hj => ?_, fun j hj => ?_⟩
  · have := h.at_ j hj
    exact ⟨by rw [World.cell?_of_block (a := ⟨g, off + j * 2, none⟩) hk]; exact this.1, by rw [World.cell?_of_block (a := ⟨g, off + j * 2 + 1, none⟩) hk]; exact this.2⟩
  · have := h.spare j hj
    exact ⟨by rw [World.cell?_of_block (a := ⟨g, off + n * 2 + j, none⟩) hk]; exact this.1, by rw [World.frozen?_of_block (a := ⟨g, off + n * 2 + j, none⟩) hk]; exact this.2⟩
theorem Qu.below (h : Qu w B g off n cap T) (hb : Below w.heap.size w w') : Qu w' B g off n cap T := h.grown (grown_of_below hb none) (by simp)
theorem Qu.drew (h : Qu w B g off n cap T) : Qu w.drew B g off n cap T := ⟨h.base, h.lt, h.len, h.le, h.at_, h.spare⟩
theorem Qu.new (w : World) (x y : Int) (hB : B ≤ w.heap.size) : Qu (w.alloc (.cells #[.int .i64 x, .int .i64 y] 58)) B w.heap.size 0 1 1 [(x, y)] :=
  ⟨hB, by simp, rfl, Nat.le_refl _, fun j hj => by obtain rfl : j = 0 := by omega
                                                   exact ⟨by simp, by simp⟩, fun j hj => by omega⟩
theorem Qu.one {a : C} (h : Qu w B g off n cap (a :: T)) (hc : cap = 1) : T = [] ∧ n = 1 ∧ Qu w B g off 0 0 [] := by
  have hl := h.len
  have hle := h.le
  simp only [List.length_cons] at hl
  refine ⟨List.eq_nil_of_length_eq_zero (by omega), by omega, ⟨h.base, h.lt, rfl, Nat.le_refl _, fun j hj => by omega, fun j hj => by omega⟩⟩
theorem Qu.tail {a : C} (h : Qu w B g off n cap (a :: T)) : Qu w B g (off + 2) (n - 1) (cap - 1) T := by
  have hl := h.len
  have hle := h.le
  simp only [List.length_cons] at hl
  refine ⟨h.base, h.lt, by omega, by omega, fun j hj => ?_, fun j hj => ?_⟩
  · have := h.at_ (j + 1) (by omega)
    rw [show off + 2 + j * 2 = off + (j + 1) * 2 by omega]
    exact this
  · have := h.spare j (by omega)
    rw [show off + 2 + (n - 1) * 2 + j = off + n * 2 + j by omega]
    exact this
theorem Qu.head {a : C} (h : Qu w B g off n cap (a :: T)) : w.cell? ⟨g, off, none⟩ = some (.int .i64 a.1) ∧ w.cell? ⟨g, off + 1, none⟩ = some (.int .i64 a.2) := by
  have hl := h.len
  simp only [List.length_cons] at hl
  exact h.at_ 0 (by omega)
theorem Qu.ofOwn (h : Own w B v T) (h0 : 0 < T.length) : ∃ g n cap, v = .slice (some ⟨g, 0, none⟩) n cap ∧ Qu w B g 0 n cap T := by
  have hc : ∃ A cap, v = .slice A T.length cap ∧ CellsAt w A T.length T := by
    obtain ⟨A, cap, e, h1, _⟩ := h.form
    exact ⟨A, cap, e, h1⟩
  rcases h.2 with ⟨_, h1⟩ | ⟨g, c8, cur, e8, hgb, hgc, hle, _, hsz, _⟩
  · omega
  · obtain ⟨A, cap, e, hA⟩ := hc
    rw [e8] at e
    injection e with e1 _ _
    subst e1
    refine ⟨g, _, c8, e8, ⟨hgb, lt_of_block hgc, rfl, hle, fun j hj => ?_, fun j hj => ?_⟩⟩
    · obtain ⟨b, o, e, _, hcc⟩ := hA.2 h0
      injection e with e
      injection e with e1 e2
      subst e1 e2
      exact hcc j hj
    · have hlt : 0 + T.length * 2 + j < cur.size := by rw [hsz, Nat.zero_add]; omega
      simp only [Nat.zero_add] at hlt ⊢
      constructor
      · simp only [World.cell?, hgc]
        simp [hlt]
      · simp only [World.frozen?, hgc]
        simp
theorem setCells_grown (w : World) (g o : Nat) (x y : Int) : w.grownBy (w.setCells g o (flat [(x, y)])) (some g) := by
  show w.grownBy ((w.setCell ⟨g, o, none⟩ (.int .i64 x)).setCell ⟨g, o + 1, none⟩ (.int .i64 y)) (some g)
  exact World.grownBy.trans (set_grown w g o _) (set_grown _ g (o + 1) _)
theorem Qu.push (h : Qu w B g off n cap T) (hr : n + 1 ≤ cap) (x y : Int) : Qu (w.setCells g (off + n * 2) (flat [(x, y)])) B g off (n + 1) cap (T ++ [(x, y)]) := by
  have hin := World.cell?_setCells_in g (flat [(x, y)]) (off + n * 2) w (fun j hj => (h.spare j (by rw [flat_length] at hj; have : j < 2 := hj; omega)).1)
  have hg := setCells_grown w g (off + n * 2) x y
  refine ⟨h.base, Nat.lt_of_lt_of_le h.lt hg.size, by rw [List.length_append, h.len]; rfl, hr, fun j hj => ?_, fun j hj => ?_⟩
  · by_cases hjn : j < n
    · have e1 : (T ++ [(x, y)]).getD j (0, 0) = T.getD j (0, 0) := by simp [List.getD_eq_getElem?_getD, List.getElem?_append_left (show j < T.length by rw [h.len]; exact hjn)]
      rw [e1, World.cell?_setCells_out _ _ _ _ _ (fun _ _ => Or.inl (by simp; omega)), World.cell?_setCells_out _ _ _ _ _ (fun _ _ => Or.inl (by simp; omega))]
      exact h.at_ j hjn
    · obtain rfl : j = n := by omega
      have e1 : (T ++ [(x, y)]).getD j (0, 0) = (x, y) := by simp [List.getD_eq_getElem?_getD, ← h.len]
      rw [e1]
      have a0 := hin 0 (by rw [flat_length]; simp)
      have a1 := hin 1 (by rw [flat_length]; simp)
      exact ⟨by rw [Nat.add_zero] at a0; exact a0, a1⟩
  · have hs := h.spare (j + 2) (by omega)
    rw [show off + n * 2 + (j + 2) = off + (n + 1) * 2 + j by omega] at hs
    rw [World.cell?_setCells_out _ _ _ _ _ (fun _ _ => Or.inr (by rw [flat_length]; simp; omega)), World.frozen?_setCells]
    exact hs
end
end Go.Proofs.Ythhaojbnnacdbaa
