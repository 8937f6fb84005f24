/- What a law is given, opened: a slice of bytes reads as bytes. No condition. -/
import Derived.Test.YtacegndmclnbnaaGreatDoorDraw
import Derived.ProofKit
namespace Go.Proofs.YtacegndmclnbnaaGreatDoor
open Go.RowKit Go.ChangeShapes Go.WideShapes

/-- The value is a slice that reads as bytes. -/
def BytesArg (w : World) (v : Value) : Prop := ∃ A n cap, v = .slice A n cap ∧ n ≤ maxLen ∧ BytesAt w A n
set_option maxRecDepth 100000 in
theorem open_bytes {H : Type} {enc : TypeId × Value → H} {w : World} {r : Reach} {b0 base : Nat} {held : Bool} {v : Value} {d : DataW H} {p : List MemPlace}
    (hv : Value.okWide Tryz.prog w r b0 22 v) (h : DataW.Trod enc Tryz.prog w base (fun _ => true) held 22 v d p) : ∃ _ : Unit, BytesArg w v := by
  obtain ⟨a1, len, cap, rfl⟩ := okWide_slice Tryz.underlying22 hv
  obtain ⟨fuel, hf⟩ := h
  rcases open_ints Tryz.underlying22 Tryz.underlying5 (by kernel_rfl) hf with ⟨hcs, hx⟩ | ⟨a, len', cap', zs, hcs, _, hl, hm, hz, hx, hcell, hwz⟩
  · simp [Value.cells] at hcs
    obtain ⟨rfl, rfl, rfl⟩ := hcs
    exact ⟨(), none, 0, 0, rfl, by unfold maxLen; omega, fun h => by omega⟩
  · simp [Value.cells] at hcs
    obtain ⟨rfl, rfl, rfl⟩ := hcs
    simp only [if_true] at hz
    refine ⟨(), some a, len, cap, rfl, by omega, fun hn => ?_⟩
    obtain ⟨b, off, spot⟩ := a
    have hspot : spot = none := by simpa [Addr.add] using World.cell?_spot (hcell 0 (by omega))
    subst hspot
    have hadd : ∀ j, (⟨b, off, none⟩ : Addr).add j = ⟨b, off + j, none⟩ := fun j => by unfold Addr.add; split <;> simp_all
    refine ⟨b, off, rfl, World.block_lt_of_cell? w _ (by have := hcell 0 (by omega); rw [hadd] at this; exact this), fun j hj => ?_⟩
    have h := hcell j (by omega)
    rw [hadd] at h
    exact ⟨_, h⟩
end Go.Proofs.YtacegndmclnbnaaGreatDoor
