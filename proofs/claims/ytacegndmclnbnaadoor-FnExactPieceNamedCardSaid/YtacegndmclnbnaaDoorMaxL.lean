/- The library's variable bytealg.MaxLen holds a number; ParseShape's result is short. -/
import Derived.Test.YtacegndmclnbnaaDoorPShI
import Derived.Test.YtacegndmclnbnaaDoorRows
import Derived.Shelf.Vars
namespace Go.Proofs.YtacegndmclnbnaaDoor
open Go.RowKit

theorem maxLenCell {W : World} (h : W.ShapedOpen Tryd.prog) : ∃ m : Int, W.cell? ⟨2, 0, none⟩ = some (.int .i64 m) :=
  Go.Proofs.cell_of_shapedOpen_int (P := Tryd.prog) (g := 2) (t := 3) (zero := #[.int .i64 0]) h (of_decide_eq_true (by kernel_rfl)) (by kernel_rfl) rfl (by kernel_rfl) (by kernel_rfl) Tryd.underlying3
theorem cell_keep {W w : World} {a : Addr} {v : Value} (h : W.cell? a = some v) (hb : Below W.heap.size W w) : w.cell? a = some v := by
  have hk := World.block_lt_of_cell? _ _ h
  have := hb.block a.block hk
  simpa only [World.cell?, this] using h
theorem pshR_len (l : List UInt8) : (pshR l).1.length ≤ 9 := by
  unfold pshR
  rw [← psh_I]
  split
  · exact preadI_short l
  · simp
end Go.Proofs.YtacegndmclnbnaaDoor
