/- IsConnectedShape and IsTreeLike, the program's; IsTreeLike, the reference's. Condition: slices of at most 2^20 cells. -/
import Derived.Test.YthhaojbnnacdbaaHangs
namespace Go.Proofs.Ythhaojbnnacdbaa
open Go.RowKit


theorem connected_shape {cs : List C} (h : connected cs = true) : isShape cs = true := by
  unfold connected at h
  exact (Bool.and_eq_true _ _ ▸ h).1
noncomputable def treeLike (cs : List C) : Bool := connected cs && (((innerSides cs : Nat) : Int) == (cs.length : Int) - 1)


end Go.Proofs.Ythhaojbnnacdbaa
