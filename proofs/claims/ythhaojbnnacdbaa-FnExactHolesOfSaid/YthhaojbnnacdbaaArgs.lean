/- What a law is given, opened: a slice of cells of the laws' own type reads as a list of pairs. No condition. -/
import Derived.Test.YthhaojbnnacdbaaCells
import Derived.ProofKit
import Derived.Deep.SlicePairs
namespace Go.Proofs.Ythhaojbnnacdbaa
open Go.RowKit Go.Deep Go.ChangeShapes Go.WideShapes

/-- The value is a slice that reads as these cells. -/
def CellsArg (w : World) (v : Value) (cs : List C) : Prop := ∃ A n cap, v = .slice A n cap ∧ n ≤ maxLen ∧ CellsAt w A n cs

set_option maxRecDepth 100000 in
theorem open_cells {H : Type} {enc : TypeId × Value → H} {w : World} {r : Reach} {b0 base : Nat} {spare : Nat → Bool} {held : Bool} {v : Value} {d : DataW H} {p : List MemPlace}
    (hv : Value.okWide Try.prog w r b0 22 v) (h : DataW.Trod enc Try.prog w base spare held 22 v d p) : ∃ cs, CellsArg w v cs := by
  obtain ⟨a0, len, cap, rfl⟩ := okWide_slice Try.underlying22 hv
  obtain ⟨fuel, hf⟩ := h
  rcases open_slice_pairs Try.underlying22 Try.underlying60 (by kernel_rfl) rfl rfl (by kernel_rfl) (by kernel_rfl) hf with ⟨hcs, _⟩ | ⟨a, l, c, m, n, V0, V1, D0, D1, P0, P1, hcs, _, hl, hm, hmm, _, hx⟩
  · simp [Value.cells] at hcs
    obtain ⟨rfl, rfl, rfl⟩ := hcs
    exact ⟨[], none, 0, 0, rfl, by unfold maxLen; omega, CellsAt.none_⟩
  · simp [Value.cells] at hcs
    obtain ⟨rfl, rfl, rfl⟩ := hcs
    have hml : len ≤ m := by rw [hmm]; split <;> omega
    have hex : ∀ i, i < len → ∃ q : C, w.cell? (a.add (i * 2)) = some (.int .i64 q.1) ∧ w.cell? (a.add (i * 2 + 1)) = some (.int .i64 q.2) := by
      intro i hi
      obtain ⟨h0, h1, t0, t1⟩ := hx i (by omega)
      obtain ⟨x, e0, _, _⟩ := DataW.trod_int Try.underlying3 t0
      obtain ⟨y, e1, _, _⟩ := DataW.trod_int Try.underlying3 t1
      simp at e0 e1
      exact ⟨(x, y), by rw [h0, e0], by rw [h1, e1]⟩
    obtain ⟨f, hf⟩ := choose_lt hex
    refine ⟨(List.range len).map f, some a, len, cap, rfl, by omega, by simp, fun hn => ?_⟩
    obtain ⟨b, off, spot⟩ := a
    have hspot : spot = none := by simpa [Addr.add] using World.cell?_spot (hf 0 hn).1
    subst hspot
    have hadd : ∀ j, (⟨b, off, none⟩ : Addr).add j = ⟨b, off + j, none⟩ := fun j => by unfold Addr.add; split <;> simp_all
    refine ⟨b, off, rfl, World.block_lt_of_cell? w _ (by have := (hf 0 hn).1; rw [hadd] at this; exact this), fun j hj => ?_⟩
    have hg : ((List.range len).map f).getD j (0, 0) = f j := by simp [hj]
    rw [hg]
    have h := hf j hj
    rw [hadd, hadd] at h
    exact h
end Go.Proofs.Ythhaojbnnacdbaa
