/- IsChiral, the program's and the reference's: contracts. Condition: slices of at most 2^20 cells. -/
import Derived.Test.YthhaojbnnacdbaaSyms
namespace Go.Proofs.Ythhaojbnnacdbaa
open Go.RowKit

def allLow (xs : List Int) (k : Nat) : Prop := ∀ j : Nat, j < k → xs.getD j 0 < 4
theorem getI_of {xs : List Int} {k : Nat} {x : Int} (h : xs[k]? = some x) : xs.getD k 0 = x := by simp [List.getD_eq_getElem?_getD, h]
theorem allLow_next {xs : List Int} {k : Nat} {x : Int} (h : allLow xs k) (hx : xs[k]? = some x) (hl : x < 4) : allLow xs (k + 1) := fun j hj => by
  by_cases e : j = k
  · rw [e, getI_of hx]; exact hl
  · exact h j (by omega)
open Classical in
noncomputable def chiral (cs : List C) : Bool := isShape cs && decide (allLow (symsL cs) (symsL cs).length)
theorem chiral_no {cs : List C} {k : Nat} {x : Int} (hk : k < (symsL cs).length) (hx : (symsL cs)[k]? = some x) (h : ¬ x < 4) : chiral cs = false := by
  have : ¬ allLow (symsL cs) (symsL cs).length := fun hf => h (by have := hf k hk; rwa [getI_of hx] at this)
  unfold chiral
  simp [this]
theorem chiral_end {cs : List C} (h : allLow (symsL cs) (symsL cs).length) : chiral cs = isShape cs := by
  unfold chiral
  simp [h]
theorem syms_some {cs : List C} (h : isShape cs = true) : 0 < (symsL cs).length := by
  have e : turnC cs 0 = cornerC cs := by
    rw [← turnC_impl cs 0]
    have : (cs.map fun c => carryC c 0) = cs := by
      conv => rhs; rw [← List.map_id cs]
      exact List.map_congr_left fun c _ => by simp [carryC, turnN, flipC]
    rw [this]
    exact cornerC_self (shape_sorted h)
  unfold symsL
  rw [if_pos h]
  unfold symTo
  rw [List.length_map]
  exact List.length_pos_of_mem (List.mem_filter.2 ⟨List.mem_range.2 (by omega : 0 < 8), decide_eq_true e⟩)
theorem syms_none {cs : List C} (h : isShape cs = false) : symsL cs = [] := by unfold symsL; rw [h]; rfl
theorem syms_pos (cs : List C) : decide (0 < (symsL cs).length) = isShape cs := by
  cases h : isShape cs with
  | false => rw [syms_none h]; rfl
  | true => exact decide_eq_true (syms_some h)

set_option maxHeartbeats 1600000 in
theorem implIsChiral (A : Option Addr) (n cap : Nat) (cs : List C) (w : World) (hn : n ≤ 1048576) (h : CellsAt w A n cs) :
    Calls Try.prog 60 #[.slice A n cap] w fun e w' => e = .returned (.bool (chiral cs)) ∧ Below w.heap.size w w' := by
  go_enter Try.func60, Try.ntmps60
  go_wp2_with fail
  refine (implSymmetries A n cap cs w hn h).mono ?_
  rintro e w1 ⟨v1, rfl, hO, hb1⟩
  obtain ⟨B, cap1, rfl, hr, hmx⟩ := hO.form
  have hn2 := symsL_len cs
  obtain ⟨m, hm⟩ : ∃ m, m = (symsL cs).length := ⟨_, rfl⟩
  have HM := Lib.hid hm
  rw [← hm] at hr hn2 hmx
  rw [← hm]
  clear hm hO
  go_wp2
  go_loopw [4, 8] (fun _ i wr => ∃ k : Nat, k ≤ m ∧ i = .int .i64 k ∧ Hid (allLow (symsL cs) k) ∧ wr = w1) (fun _ i _ => m - (intOf i).toNat)
  case atStart => exact ⟨0, Nat.zero_le _, rfl, fun j hj => absurd hj (by omega), by first | rfl | trivial⟩
  case round =>
    obtain ⟨k, hk, rfl, HK, rfl⟩ := hrel
    by_cases hlt : k < m
    · obtain ⟨b, o, x, rfl, hbl, HX, c1⟩ := hr.at_ hlt
      by_cases hx : x < 4
      · have HN := Lib.hid (allLow_next HK.out HX.out hx)
        go_wp2
        go_roundw
        case rel => exact ⟨k + 1, by omega, by go_num, HN, by first | rfl | trivial⟩
        case measure => simp [intOf]; omega
      · have HR : Hid (false = chiral cs) := (chiral_no (by rw [← HM.out]; exact hlt) HX.out hx).symm
        have hx' : (4 : Int) ≤ x := by omega
        go_wp2
        go_ret
        exact ⟨ret_bool HR.out, hb1⟩
    · obtain rfl : k = m := by omega
      have HR : Hid (isShape cs = chiral cs) := (chiral_end (by rw [← HM.out]; exact HK.out)).symm
      go_wp2_with fail
      refine (implIsShape A n cap cs wr hn (h.below hb1)).mono ?_
      rintro e w2 ⟨rfl, hb2⟩
      go_wp2
      go_ret
      exact ⟨ret_bool HR.out, hb1.trans (hb2.mono hb1.size)⟩
set_option maxHeartbeats 1600000 in
theorem specIsChiral (A : Option Addr) (n cap : Nat) (cs : List C) (w : World) (hn : n ≤ 1048576) (h : CellsAt w A n cs) :
    Calls Try.prog 61 #[.slice A n cap] w fun e w' => e = .returned (.bool (chiral cs)) ∧ Below w.heap.size w w' := by
  go_enter Try.func61, Try.ntmps61
  go_wp2_with fail
  refine (specSymmetries A n cap cs w hn h).mono ?_
  rintro e w1 ⟨v1, rfl, hO, hb1⟩
  obtain ⟨B, cap1, rfl, hr, hmx⟩ := hO.form
  have hn2 := symsL_len cs
  obtain ⟨m, hm⟩ : ∃ m, m = (symsL cs).length := ⟨_, rfl⟩
  have HM := Lib.hid hm
  rw [← hm] at hr hn2 hmx
  rw [← hm]
  clear hm hO
  go_wp2
  go_loopw [4] (fun i wr => ∃ k : Nat, k ≤ m ∧ i = .int .i64 k ∧ Hid (allLow (symsL cs) k) ∧ wr = w1) (fun i _ => m - (intOf i).toNat)
  case atStart => exact ⟨0, Nat.zero_le _, rfl, fun j hj => absurd hj (by omega), by first | rfl | trivial⟩
  case round =>
    obtain ⟨k, hk, rfl, HK, rfl⟩ := hrel
    by_cases hlt : k < m
    · obtain ⟨b, o, x, rfl, hbl, HX, c1⟩ := hr.at_ hlt
      have hki : (k : Int) < (m : Int) := by omega
      by_cases hx : x < 4
      · have HN := Lib.hid (allLow_next HK.out HX.out hx)
        go_wp2
        go_roundw
        case rel => exact ⟨k + 1, by omega, by go_num, HN, by first | rfl | trivial⟩
        case measure => simp [intOf]; omega
      · have HR : Hid (false = chiral cs) := (chiral_no (by rw [← HM.out]; exact hlt) HX.out hx).symm
        have hx' : (4 : Int) ≤ x := by omega
        go_wp2
        go_ret
        exact ⟨ret_bool HR.out, hb1⟩
    · obtain rfl : k = m := by omega
      have HR : Hid (decide (0 < k) = chiral cs) := by
        show _ = _
        rw [chiral_end (by rw [← HM.out]; exact HK.out), ← syms_pos cs, ← HM.out]
      go_wp2
      go_ret
      exact ⟨ret_bool HR.out, hb1⟩
end Go.Proofs.Ythhaojbnnacdbaa
