/- A block of two cells that is known whole: a local of a struct type. No condition. -/
import Derived.Test.YthhaojbnnacdbaaCells
import Derived.OneCell
namespace Go.Proofs.Ythhaojbnnacdbaa
open Go.RowKit

/-- Block b holds the two values. -/
def Box2 (w : World) (b : Nat) (x y : Value) (t : TypeId) : Prop := w.heap[b]? = some (.cells #[x, y] t (0, 0))
section
variable {w w' : World} {b : Nat} {x y : Value} {t : TypeId}
theorem Box2.lt (h : Box2 w b x y t) : b < w.heap.size := lt_of_block h
theorem Box2.c0 (h : Box2 w b x y t) : w.cell? ⟨b, 0, none⟩ = some x := by unfold Box2 at h; simp [World.cell?, h]
theorem Box2.c1 (h : Box2 w b x y t) : w.cell? ⟨b, 1, none⟩ = some y := by unfold Box2 at h; simp [World.cell?, h]
theorem Box2.f0 (h : Box2 w b x y t) : w.frozen? ⟨b, 0, none⟩ = false := by unfold Box2 at h; simp [World.frozen?, h]
theorem Box2.f1 (h : Box2 w b x y t) : w.frozen? ⟨b, 1, none⟩ = false := by unfold Box2 at h; simp [World.frozen?, h]
theorem Box2.new (w : World) (x y : Value) (t : TypeId) : Box2 (w.alloc (.cells #[x, y] t)) w.heap.size x y t := heap_alloc_new w _
theorem Box2.below (h : Box2 w b x y t) {B : Nat} (hb : Below B w w') (hlt : b < B) : Box2 w' b x y t := (hb.block b hlt).trans h
theorem Box2.later (h : Box2 w b x y t) (hb : Below w.heap.size w w') : Box2 w' b x y t := h.below hb h.lt
theorem Box2.alloc (h : Box2 w b x y t) (o : Obj) : Box2 (w.alloc o) b x y t := h.later (below_alloc _ _)
theorem Box2.drew (h : Box2 w b x y t) : Box2 w.drew b x y t := h
theorem Box2.drewN (h : Box2 w b x y t) (n : Nat) : Box2 (w.drewN n) b x y t := h
theorem Box2.grown {row : Option Nat} (h : Box2 w b x y t) (hg : w.grownBy w' row) (hne : some b ≠ row) : Box2 w' b x y t := (hg.block b h.lt hne).trans h
theorem Box2.other (h : Box2 w b x y t) {a : Addr} (ha : b ≠ a.block) (u : Value) : Box2 (w.setCell a u) b x y t := by
  unfold Box2; rw [Below.heap_setCell _ _ _ _ ha]; exact h
theorem Box2.set0 (h : Box2 w b x y t) (u : Value) : Box2 (w.setCell ⟨b, 0, none⟩ u) b u y t := by
  have hlt := h.lt
  have h' : w.heap[b] = .cells #[x, y] t (0, 0) := by unfold Box2 at h; simpa [Array.getElem?_eq_getElem hlt] using h
  show (w.heap.modify b _)[b]? = _
  rw [Array.getElem?_eq_getElem (by simpa using hlt), Array.getElem_modify_self, h']
  rfl
theorem Box2.set1 (h : Box2 w b x y t) (u : Value) : Box2 (w.setCell ⟨b, 1, none⟩ u) b x u t := by
  have hlt := h.lt
  have h' : w.heap[b] = .cells #[x, y] t (0, 0) := by unfold Box2 at h; simpa [Array.getElem?_eq_getElem hlt] using h
  show (w.heap.modify b _)[b]? = _
  rw [Array.getElem?_eq_getElem (by simpa using hlt), Array.getElem_modify_self, h']
  rfl
end
end Go.Proofs.Ythhaojbnnacdbaa
