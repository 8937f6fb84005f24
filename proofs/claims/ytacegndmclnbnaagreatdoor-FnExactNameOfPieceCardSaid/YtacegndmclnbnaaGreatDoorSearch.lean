/- sort.Search with a comparison that may make memory: the first place at which it holds. Condition: it holds from some place on; at most 2^20 places. -/
import Derived.Test.YtacegndmclnbnaaGreatDoorCells
import Derived.Shelf.Abstract
namespace Go.Proofs.YtacegndmclnbnaaGreatDoor
open Go.RowKit
set_option maxHeartbeats 1000000 in
theorem search_any (g : Nat) (cb : Array Value) (n : Nat) (p : Nat → Bool) (w : World) (eg : ∀ args w, (callFunc g args).run Tryz.prog w = .ok (.enter g args) w) (hn : n ≤ 1048576)
    (hf : ∀ w1, Below w.heap.size w w1 → ∀ i, i < n → Calls Tryz.prog g (#[.int .i64 i] ++ cb) w1 fun e w' => e = .returned (.bool (p i)) ∧ Below w1.heap.size w1 w')
    (hmono : ∀ a b, a ≤ b → b < n → p a = true → p b = true) :
    Calls Tryz.prog 139 #[.int .i64 n, .func (.func g) #[] cb] w fun e w' => ∃ k : Nat, k ≤ n ∧ e = .returned (.int .i64 k) ∧ (∀ t, t < k → p t = false) ∧ (∀ t, k ≤ t → t < n → p t = true) ∧ Below w.heap.size w w' := by
  have HF := Lib.hid hf
  have HM := Lib.hid hmono
  clear hf hmono
  go_enter Tryz.func139, Tryz.ntmps139
  go_wp2
  go_loopw [5, 6] (fun x y wr => ∃ i j : Nat, i ≤ j ∧ j ≤ n ∧ x = .int .i64 i ∧ y = .int .i64 j ∧ Hid ((∀ t, t < i → p t = false) ∧ (∀ t, j ≤ t → t < n → p t = true)) ∧ Below w.heap.size w wr) (fun x y _ => (intOf y - intOf x).toNat)
  case atStart => exact ⟨0, n, Nat.zero_le _, Nat.le_refl _, rfl, rfl, (show _ ∧ _ from ⟨fun t ht => absurd ht (Nat.not_lt_zero _), fun t h1 h2 => by omega⟩), Below.refl _ _⟩
  case round =>
    obtain ⟨lo, hi, hlh, hin, rfl, rfl, I, hb⟩ := hrel
    by_cases hlt : lo < hi
    · have hc := HF.out wr hb ((lo + hi) / 2) (by omega)
      rw [show (((lo + hi) / 2 : Nat) : Int) = ((lo : Int) + (hi : Int)) / 2 by omega] at hc
      cases hp : p ((lo + hi) / 2) <;> rw [hp] at hc
      · have I2 : Hid ((∀ t, t < (lo + hi) / 2 + 1 → p t = false) ∧ (∀ t, hi ≤ t → t < n → p t = true)) := (show _ ∧ _ from ⟨fun t ht => (by
            cases h : p t with
            | false => rfl
            | true => have := HM.out t ((lo + hi) / 2) (by omega) (by omega) h; rw [hp] at this; cases this), I.out.2⟩)
        clear hp
        go_wp2_with (go_at_fn g; refine hc.mono ?_; rintro e w' ⟨rfl, hb2⟩)
        have hb3 := hb.trans (hb2.mono hb.size)
        go_roundw
        case rel => exact ⟨(lo + hi) / 2 + 1, hi, by omega, hin, by rw [show ((lo : Int) + (hi : Int)) / 2 + 1 = (((lo + hi) / 2 + 1 : Nat) : Int) by omega], rfl, I2, hb3⟩
        case measure => simp [intOf]; omega
      · have I2 : Hid ((∀ t, t < lo → p t = false) ∧ (∀ t, (lo + hi) / 2 ≤ t → t < n → p t = true)) := (show _ ∧ _ from ⟨I.out.1, fun t ht htn => HM.out ((lo + hi) / 2) t ht htn hp⟩)
        clear hp
        go_wp2_with (go_at_fn g; refine hc.mono ?_; rintro e w' ⟨rfl, hb2⟩)
        have hb3 := hb.trans (hb2.mono hb.size)
        go_roundw
        case rel => exact ⟨lo, (lo + hi) / 2, by omega, by omega, rfl, by rw [show ((lo : Int) + (hi : Int)) / 2 = (((lo + hi) / 2 : Nat) : Int) by omega], I2, hb3⟩
        case measure => simp [intOf]; omega
    · obtain rfl : hi = lo := by omega
      go_wp2
      go_ret
      exact ⟨hi, hin, rfl, I.out.1, I.out.2, hb⟩
end Go.Proofs.YtacegndmclnbnaaGreatDoor
