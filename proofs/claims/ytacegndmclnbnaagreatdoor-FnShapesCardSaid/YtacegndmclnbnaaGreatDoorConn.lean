/- IsConnectedShape and IsTreeLike, the program's; IsTreeLike, the reference's. Condition: slices of at most 2^20 cells. -/
import Derived.Test.YtacegndmclnbnaaGreatDoorHangs
namespace Go.Proofs.YtacegndmclnbnaaGreatDoor
open Go.RowKit

open Classical in
set_option maxHeartbeats 800000 in
theorem implIsConnected (A : Option Addr) (n cap : Nat) (cs : List C) (w : World) (hn : n ≤ 1048576) (h : CellsAt w A n cs) :
    Calls Tryz.prog 28 #[.slice A n cap] w fun e w' => e = .returned (.bool (connected cs)) ∧ Below w.heap.size w w' := by
  have hc := (implIsShape A n cap cs w hn h)
  cases hs : isShape cs with
  | false =>
    have HR : Hid (false = connected cs) := by show _ = _; unfold connected; rw [hs]; rfl
    rw [hs] at hc
    clear hs
    go_enter Tryz.func28, Tryz.ntmps28
    go_wp2_with fail
    refine hc.mono ?_
    rintro e w1 ⟨rfl, hb⟩
    go_wp2
    go_ret
    exact ⟨ret_bool HR.out, hb⟩
  | true =>
    obtain ⟨t, ht⟩ : ∃ t, t = decide (Connected cs) := ⟨_, rfl⟩
    have HR : Hid (t = connected cs) := by show _ = _; unfold connected; rw [hs, ht]; rfl
    have HT : Hid (t = true ↔ Connected cs) := by show _ ↔ _; rw [ht]; simp
    have HS := Lib.hid hs
    rw [hs] at hc
    clear hs ht
    go_enter Tryz.func28, Tryz.ntmps28
    go_wp2_with fail
    refine hc.mono ?_
    rintro e w1 ⟨rfl, hb⟩
    go_wp2_with fail
    refine (implHangs A n cap cs t w1 HT.out HS.out hn (h.below hb)).mono ?_
    rintro e w2 ⟨rfl, hb2⟩
    go_wp2
    go_ret
    exact ⟨ret_bool HR.out, hb.trans (hb2.mono hb.size)⟩

theorem connected_shape {cs : List C} (h : connected cs = true) : isShape cs = true := by
  unfold connected at h
  exact (Bool.and_eq_true _ _ ▸ h).1
noncomputable def treeLike (cs : List C) : Bool := connected cs && (((innerSides cs : Nat) : Int) == (cs.length : Int) - 1)


end Go.Proofs.YtacegndmclnbnaaGreatDoor
