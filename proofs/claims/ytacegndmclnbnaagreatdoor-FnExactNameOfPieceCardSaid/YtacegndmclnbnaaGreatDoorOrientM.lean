/- The orientations of a shape, its canonical form. Plain. -/
import Derived.Test.YtacegndmclnbnaaGreatDoorPutM
import Derived.Test.YtacegndmclnbnaaGreatDoorTurnM
import Derived.Test.YtacegndmclnbnaaGreatDoorSyms
namespace Go.Proofs.YtacegndmclnbnaaGreatDoor

def orientL (cs : List C) : L2 := if isShape cs = true then putTo (turnC cs) 8 else []
def canonC (cs : List C) : List C := (orientL cs).headD []
theorem orientL_mem {cs : List C} (h : isShape cs = true) {x : List C} : x ∈ orientL cs ↔ ∃ m, m < 8 ∧ x = turnC cs m := by
  unfold orientL; rw [if_pos h, putTo_mem]
theorem orientL_len (cs : List C) : (orientL cs).length ≤ 8 := by
  unfold orientL; split
  · exact putTo_len _ _
  · simp
theorem orientL_each (cs : List C) : ∀ x, x ∈ orientL cs → x.length ≤ 8 := by
  intro x hx
  unfold orientL at hx
  split at hx
  · rename_i h
    obtain ⟨m, _, rfl⟩ := (putTo_mem _ _ _).1 hx
    have := shape_len (turn_shape h m)
    omega
  · cases hx
theorem totS_le {ls : L2} {b : Nat} (h : ∀ x, x ∈ ls → x.length ≤ b) : totS ls ≤ ls.length * b := by
  induction ls with
  | nil => simp [totS]
  | cons a r ih =>
    have h1 := ih fun x hx => h x (List.mem_cons_of_mem _ hx)
    have h2 := h a (List.mem_cons_self ..)
    simp only [totS, List.length_cons, Nat.succ_mul]; omega
theorem orientL_nice (cs : List C) : (orientL cs).length ≤ 1048576 ∧ totS (orientL cs) ≤ 1048576 := by
  have h1 := orientL_len cs
  have h2 := totS_le (orientL_each cs)
  omega
theorem canonC_len (cs : List C) : (canonC cs).length ≤ 8 := by
  unfold canonC
  cases h : orientL cs with
  | nil => simp
  | cons a r => exact orientL_each cs a (by rw [h]; exact List.mem_cons_self ..)
theorem canonC_len' (cs : List C) (_ : cs.length ≤ 1048576) : (canonC cs).length ≤ 1048576 := by have := canonC_len cs; omega
theorem orientL_pos {cs : List C} (h : isShape cs = true) : 0 < (orientL cs).length :=
  List.length_pos_of_mem ((orientL_mem h).2 ⟨0, by omega, rfl⟩)
theorem orientL_none {cs : List C} (h : isShape cs = false) : orientL cs = [] := by unfold orientL; rw [h]; rfl
end Go.Proofs.YtacegndmclnbnaaGreatDoor
