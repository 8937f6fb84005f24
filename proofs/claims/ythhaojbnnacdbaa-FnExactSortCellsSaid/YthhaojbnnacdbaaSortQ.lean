/- sort.Slice as SortCells calls it, and SortCells: every length up to 2^20. -/
import Derived.Test.YthhaojbnnacdbaaSortG
import Derived.Test.YthhaojbnnacdbaaSortS
namespace Go.Proofs.Ythhaojbnnacdbaa
open Go.RowKit

section
variable {B : Nat} {w0 : World} {Bv blk n cap : Nat} {dk : Array C} {w w' : World}
theorem sliceBig (h : SS B w0 Bv blk n cap dk w) (h2 : 2 ≤ n) (hn : n ≤ 1048576) :
    Calls Try.prog 76 #[.iface 25 (.slice (some ⟨blk, 0, none⟩) n cap), .func (.func 77) #[] #[.pointer (some ⟨Bv, 0, none⟩)]] w fun e w' => e = .returned (.tuple #[]) ∧ ∃ R, Sort.PermIn 0 n dk R ∧ Sort.SortedIn bef 0 n R ∧ SS B w0 Bv blk n cap R w' := by
  have hie : Try.prog.info? 58 = some Try.infoE := by kernel_rfl
  have hs := fun w => Lib.run_swapper_slice (P := Try.prog) 25 58 Try.infoT Try.infoE (by kernel_rfl) (by kernel_rfl) hie 25 (fun _ => by kernel_rfl) (some ⟨blk, 0, none⟩) n cap 124 (by rw [Try.swapK n h2]; kernel_rfl) w
  rw [Try.swapK n h2, if_neg (by omega)] at hs
  refine slice_pdq 124 _ _ n cap hn _ w _ ⟨_, _, _, rfl⟩ hs fun lim w1 hb => ?_
  refine (pdqW _ _ (fun _ => swap_any) hn (n + 1) 0 n lim dk w1 (by omega) (Nat.zero_le _) (Nat.le_refl _) (h.later hb) (Or.inl rfl)).mono fun e w' hd => ?_
  obtain ⟨h1, h3, _⟩ := hd
  exact ⟨h1, h3⟩
theorem sorts_all (n : Nat) (hn : n ≤ 1048576) : SortsAt n := by
  by_cases h12 : n ≤ 12
  · exact sorts_small n h12
  intro cs w0 w p cap Bv ho hbx hb hB hne
  have hl : cs.length = n := (own_cells ho).1
  obtain ⟨blk, rfl⟩ : ∃ blk, p = some ⟨blk, 0, none⟩ := by
    rcases ho.2 with ⟨he, h0⟩ | ⟨g, _, _, e, _⟩
    · omega
    · injection e with e _ _; exact ⟨g, e⟩
  have hS : SS w0.heap.size w0 Bv blk n cap cs.toArray w := ⟨by simp [hl], ho, hbx, hb, hB, hne blk rfl⟩
  refine (sliceBig hS (by omega) hn).mono fun e w' hd => ?_
  obtain ⟨he, R, hP, hO, h⟩ := hd
  refine ⟨he, _, ?_, h.cells, h.box, h.below, hB, ?_⟩
  · have hp := perm_list (d := cs.toArray) (d' := R) (by rw [show cs.toArray.size = n by simp [hl]]; exact hP)
    simpa using hp
  · refine sorted_weak ?_
    rw [h.size]
    exact hO
theorem implSortAll (A : Option Addr) (n cap : Nat) (cs : List C) (w : World) (hn : n ≤ 1048576) (h : CellsAt w A n cs) :
    Calls Try.prog 21 #[.slice A n cap] w (OwnPost w (sortC cs)) := implSort A n cap cs w (sorts_all n hn) hn h
theorem sortC_len2 (cs : List C) (h : cs.length ≤ 1048576) : (sortC cs).length ≤ 1048576 := Nat.le_trans (sortC_le cs) h
end
end Go.Proofs.Ythhaojbnnacdbaa
