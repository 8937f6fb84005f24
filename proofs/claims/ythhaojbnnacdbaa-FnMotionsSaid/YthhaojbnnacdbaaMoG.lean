/- For the law on motions: comparing two lists that read alike; the group of eight; symmetry. No condition but sizes. -/
import Derived.Test.YthhaojbnnacdbaaGroup
import Derived.Test.YthhaojbnnacdbaaChir
import Derived.Test.YthhaojbnnacdbaaDrawT
import Derived.Test.YthhaojbnnacdbaaLawC
namespace Go.Proofs.Ythhaojbnnacdbaa
open Go.RowKit

theorem comp_inv_all : ∀ a : Fin 10, ∀ b : Fin 9, 0 ≤ compM ((a.1 : Int) - 1) b.1 → compM (compM ((a.1 : Int) - 1) b.1) (invM b.1) = (a.1 : Int) - 1 := by decide +kernel
theorem comp_inv_at {a b : Int} (h : -1 ≤ a ∧ a ≤ 8 ∧ 0 ≤ b ∧ b ≤ 8) (hm : 0 ≤ compM a b) : compM (compM a b) (invM b) = a := by
  obtain ⟨h1, h2, h3, h4⟩ := h
  have h := comp_inv_all ⟨(a + 1).toNat, by omega⟩ ⟨b.toNat, by omega⟩
  simp only at h
  rw [show (((a + 1).toNat : Nat) : Int) - 1 = a by omega, show ((b.toNat : Nat) : Int) = b by omega] at h
  exact h hm
theorem inv_all : ∀ k : Fin 8, invM k.1 = (invN k.1 : Nat) ∧ inB (invM k.1) 0 7 = true := by decide +kernel
theorem cmpC_range (a b : List C) : -1 ≤ cmpC a b ∧ cmpC a b ≤ 1 := by
  unfold cmpC
  rcases cmpL_range a b with h | h | h <;> (split <;> (try split) <;> omega)
theorem congL_symm (a b : List C) : congL a b = congL b a := by
  unfold congL
  cases isShape a <;> cases isShape b <;> simp [eq_comm]
theorem congL_turn {cs : List C} (h : isShape cs = true) {k : Nat} (hk : k ≤ 7) : congL cs (turnC cs k) = true := by
  unfold congL
  rw [h, turn_shape h k, canon_turn h hk]
  simp
theorem spec_same (A B : Option Addr) (n cap cap' : Nat) (cs : List C) (w : World) (hn : n ≤ 1048576) (h : CellsAt w A n cs) (g : CellsAt w B n cs) :
    Calls Try.prog 55 #[.slice A n cap, .slice B n cap'] w fun e w' => e = .returned (.bool true) ∧ Below w.heap.size w w' := by
  have := specEqualShapes A B n n cap cap' cs cs w hn hn h g
  unfold EqPost at this
  rwa [show decide (cs = cs) = true by simp] at this
theorem big_no (A : Option Addr) (n cap : Nat) (w : World) (hn : n ≤ 1048576) : Calls Try.prog 45 #[.slice A n cap] w fun e w' => e = .returned (.bool false) ∧ w = w' := by
  have h : ¬ (1048576 : Int) < (n : Int) := by omega
  go_enter Try.func45, Try.ntmps45
  go_wp2
  go_ret
  exact ⟨rfl, rfl⟩
theorem big_yes (A : Option Addr) (n cap : Nat) (w : World) (hn : ¬ n ≤ 1048576) : Calls Try.prog 45 #[.slice A n cap] w fun e w' => e = .returned (.bool true) ∧ w = w' := by
  have h : (1048576 : Int) < (n : Int) := by omega
  go_enter Try.func45, Try.ntmps45
  go_wp2
  go_ret
  exact ⟨rfl, rfl⟩
set_option maxHeartbeats 800000 in
theorem sameShapes_same (A B : Option Addr) (n cap cap' : Nat) (ls : L2) (w : World) (hn : n ≤ 1048576) (hs : shortS ls) (h : ShapesAt w A n ls) (g : ShapesAt w B n ls) :
    Calls Try.prog 56 #[.slice A n cap, .slice B n cap'] w fun e w' => e = .returned (.bool true) ∧ Below w.heap.size w w' := by
  have HS := Lib.hid hs
  clear hs
  go_enter Try.func56, Try.ntmps56
  go_wp2
  go_loopw [5] (fun i wr => ∃ k : Nat, k ≤ n ∧ i = .int .i64 k ∧ Below w.heap.size w wr) (fun i _ => n - (intOf i).toNat)
  case atStart => exact ⟨0, Nat.zero_le _, rfl, Below.refl _ _⟩
  case round =>
    obtain ⟨k, hk, rfl, hb⟩ := hrel
    by_cases hlt : k < n
    · obtain ⟨b, o, P, p, c, cs, rfl, hbl, HK, c1, r1⟩ := (h.below hb).at_ hlt
      obtain ⟨b', o', Q, q, c', ds, rfl, hbl', HK', c1', r1'⟩ := (g.below hb).at_ hlt
      have e0 : (0 : Int) ≤ (k : Int) := by omega
      have e1 : (k : Int) < (n : Int) := by omega
      obtain rfl : cs = ds := by have := HK.out.symm.trans HK'.out; injection this
      have hp : p ≤ 1048576 := by rw [← r1.1]; exact HS.out _ (List.mem_of_getElem? HK.out)
      have hq0 : q ≤ 1048576 := by rw [← r1'.1]; exact HS.out _ (List.mem_of_getElem? HK.out)
      have l1 := later_cell hbl c1
      have l2 := later_cell hbl' c1'
      have hc2 : ∀ z : Later wr, Calls Try.prog 55 #[.slice P p c, .slice Q q c'] z.1 fun e w' => e = .returned (.bool true) ∧ Below z.1.heap.size z.1 w' := by
        intro z
        have := specEqualShapes P Q p q c c' cs cs z.1 hp hq0 (r1.below z.2) (r1'.below z.2)
        unfold EqPost at this
        rwa [show decide (cs = cs) = true by simp] at this
      clear h g r1 r1'
      go_wp2
      (refine wp_region_later (by kernel_rfl) (by kernel_rfl) ?_; (repeat (go_big_quiet_step ((go_at_call 55; exact Calls.later (hc2 _))))); refine wpQuiet_nil ?_; rintro wq ⟨xq, hxq⟩; have hq := later_below hxq; clear hxq xq)
      have hb := hb.trans (hq.mono hb.size)
      go_wp2
      go_roundw
      case rel => exact ⟨k + 1, by omega, by go_num, hb⟩
      case measure => simp [intOf]; omega
    · clear h g
      go_wp2
      go_ret
      exact ⟨rfl, hb⟩
set_option maxHeartbeats 800000 in
theorem sameInts_same (A B : Option Addr) (n cap cap' : Nat) (xs : List Int) (w : World) (hn : n ≤ 1048576) (h : IntsAt w A n xs) (g : IntsAt w B n xs) :
    Calls Try.prog 57 #[.slice A n cap, .slice B n cap'] w fun e w' => e = .returned (.bool true) ∧ Below w.heap.size w w' := by
  go_enter Try.func57, Try.ntmps57
  go_wp2
  go_loopw [5] (fun i wr => ∃ k : Nat, k ≤ n ∧ i = .int .i64 k ∧ Below w.heap.size w wr) (fun i _ => n - (intOf i).toNat)
  case atStart => exact ⟨0, Nat.zero_le _, rfl, Below.refl _ _⟩
  case round =>
    obtain ⟨k, hk, rfl, hb⟩ := hrel
    by_cases hlt : k < n
    · obtain ⟨b, o, x, rfl, hbl, HK, c1⟩ := (h.below hb).at_ hlt
      obtain ⟨b', o', y, rfl, hbl', HK', c1'⟩ := (g.below hb).at_ hlt
      have e0 : (0 : Int) ≤ (k : Int) := by omega
      have e1 : (k : Int) < (n : Int) := by omega
      obtain rfl : x = y := by have := HK.out.symm.trans HK'.out; injection this
      have l1 := later_cell hbl c1
      have l2 := later_cell hbl' c1'
      clear h g
      go_wp2
      (refine wp_region_later (by kernel_rfl) (by kernel_rfl) ?_; (repeat (go_big_quiet_step (fail))); refine wpQuiet_nil ?_; rintro wq ⟨xq, hxq⟩; have hq := later_below hxq; clear hxq xq)
      have hb := hb.trans (hq.mono hb.size)
      go_wp2
      go_roundw
      case rel => exact ⟨k + 1, by omega, by go_num, hb⟩
      case measure => simp [intOf]; omega
    · clear h g
      go_wp2
      go_ret
      exact ⟨rfl, hb⟩
end Go.Proofs.Ythhaojbnnacdbaa
