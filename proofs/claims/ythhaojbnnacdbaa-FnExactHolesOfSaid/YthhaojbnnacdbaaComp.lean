/- ComposeMotions and InverseMotion, the program's and the reference's: contracts. No condition. -/
import Derived.Test.YthhaojbnnacdbaaMot
namespace Go.Proofs.Ythhaojbnnacdbaa
open Go.RowKit

theorem run_eql_cell {a b c d : Int} {t : Bool} (h : decide ((a, b) = (c, d)) = t) (W : World) :
    (binOp .eql 58 (.agg #[.int .i64 a, .int .i64 b]) (.agg #[.int .i64 c, .int .i64 d])).run Try.prog W = .ok (.bool t) W := by
  subst h
  by_cases hp : a = c
  · subst hp
    by_cases hq : b = d
    · subst hq; go_simp
    · go_simp
  · go_simp

/-! ### Composition -/
def hitI (a b k : Nat) : Bool := decide (carryC (1, 2) k = carryC (carryC (1, 2) a) b)
def hitS (a b k : Nat) : Bool := decide (carryC (1, 0) k = carryC (carryC (1, 0) a) b) && decide (carryC (0, 1) k = carryC (carryC (0, 1) a) b)
theorem hit_eq : ∀ a b k : Fin 8, hitI a.1 b.1 k.1 = hitS a.1 b.1 k.1 := by decide +kernel
def firstHit (f : Nat → Bool) : Nat → Nat → Int
  | 0, _ => -1
  | n + 1, k => if f k = true then (k : Int) else firstHit f n (k + 1)
def compM (a b : Int) : Int := if 0 ≤ a ∧ a ≤ 7 ∧ 0 ≤ b ∧ b ≤ 7 then firstHit (hitI a.toNat b.toNat) 8 0 else -1
theorem inB_07 {a : Int} : inB a 0 7 = true ↔ 0 ≤ a ∧ a ≤ 7 := by simp [inB]
theorem isMotion_eq {m : Int} {t : Bool} (h : inB m 0 7 = t) (w : World) :
    Calls Try.prog 96 #[.int .i64 m] w fun e w' => e = .returned (.bool t) ∧ w = w' := by
  have H := Lib.hid h
  clear h
  go_enter Try.func96, Try.ntmps96
  go_wp2_with (go_at_call 73; refine (between_eq H.out _).mono ?_; rintro e w' ⟨rfl, rfl⟩)
  go_ret
  exact ⟨rfl, rfl⟩

set_option maxHeartbeats 1600000 in
theorem implCompose (a b : Int) (w : World) :
    Calls Try.prog 47 #[.int .i64 a, .int .i64 b] w fun e w' => e = .returned (.int .i64 (compM a b)) ∧ Below w.heap.size w w' := by
  cases ha : inB a 0 7 with
  | false =>
    have HR : Hid (compM a b = -1) := if_neg (fun h => by rw [inB_07.2 ⟨h.1, h.2.1⟩] at ha; cases ha)
    have HA := Lib.hid ha
    clear ha
    go_enter Try.func47, Try.ntmps47
    go_wp2_with (go_at_call 96; refine (isMotion_eq HA.out _).mono ?_; rintro e w' ⟨rfl, rfl⟩)
    go_ret
    exact ⟨ret_int HR.out.symm, Below.refl _ _⟩
  | true =>
    cases hb : inB b 0 7 with
    | false =>
      have HR : Hid (compM a b = -1) := if_neg (fun h => by rw [inB_07.2 ⟨h.2.2.1, h.2.2.2⟩] at hb; cases hb)
      have HA := Lib.hid ha
      have HB := Lib.hid hb
      clear ha hb
      go_enter Try.func47, Try.ntmps47
      go_wp2_with fail
      refine (isMotion_eq HA.out _).mono ?_
      rintro e w' ⟨rfl, rfl⟩
      go_wp2_with fail
      refine (isMotion_eq HB.out _).mono ?_
      rintro e w' ⟨rfl, rfl⟩
      go_wp2
      go_ret
      exact ⟨ret_int HR.out.symm, Below.refl _ _⟩
    | true =>
      obtain ⟨a0, a7⟩ := inB_07.1 ha
      obtain ⟨b0, b7⟩ := inB_07.1 hb
      have HR : Hid (compM a b = firstHit (hitI a.toNat b.toNat) 8 0) := if_pos ⟨a0, a7, b0, b7⟩
      have HA := Lib.hid ha
      have HB := Lib.hid hb
      clear ha hb
      obtain ⟨m, rfl⟩ := Int.eq_ofNat_of_zero_le a0
      obtain ⟨n, rfl⟩ := Int.eq_ofNat_of_zero_le b0
      go_enter Try.func47, Try.ntmps47
      go_wp2_with fail
      refine (isMotion_eq HA.out _).mono ?_
      rintro e w' ⟨rfl, rfl⟩
      go_wp2_with fail
      refine (isMotion_eq HB.out _).mono ?_
      rintro e w' ⟨rfl, rfl⟩
      go_wp2
      have hS1 : smallC (1, 2) := ⟨by decide, by decide, by decide, by decide⟩
      have hS2 := small_carry (m := m) hS1
      have HS1 := Lib.hid hS1
      have HS2 := Lib.hid hS2
      clear hS1 hS2
      go_loopw [6, 16] (fun _ i wr => ∃ k : Nat, k ≤ 8 ∧ i = .int .i64 k ∧ Hid (firstHit (hitI m n) (8 - k) k = firstHit (hitI m n) 8 0) ∧ Below (w.alloc (.cells #[.int .i64 1, .int .i64 2] 58)).heap.size (w.alloc (.cells #[.int .i64 1, .int .i64 2] 58)) wr) (fun _ i _ => 8 - (intOf i).toNat)
      case atStart => exact ⟨0, by omega, rfl, rfl, Below.refl _ _⟩
      case round =>
        obtain ⟨k, hk, rfl, HF, hbl⟩ := hrel
        by_cases hlt : k < 8
        · have l1 := later_cell (w := wr) (b := w.heap.size) (o := 0) (v := .int .i64 1) (by have := hbl.size; simp at this; omega) (cell_on hbl (by simp) (by rw [cell_of_row _ _ _ _ _ _ (heap_alloc_new w _)]; rfl))
          have l2 := later_cell (w := wr) (b := w.heap.size) (o := 1) (v := .int .i64 2) (by have := hbl.size; simp at this; omega) (cell_on hbl (by simp) (by rw [cell_of_row _ _ _ _ _ _ (heap_alloc_new w _)]; rfl))
          have HN : Hid (firstHit (hitI m n) (8 - k) k = if hitI m n k = true then (k : Int) else firstHit (hitI m n) (8 - (k + 1)) (k + 1)) := by
            show _ = _
            rw [show 8 - k = (8 - (k + 1)) + 1 by omega]; rfl
          cases hh : hitI m n k with
          | true =>
            rw [hh, if_pos rfl] at HN
            have hrun := run_eql_cell (a := (carryC (1, 2) k).1) (b := (carryC (1, 2) k).2) (c := (carryC (carryC (1, 2) m) n).1) (d := (carryC (carryC (1, 2) m) n).2) hh
            clear hh
            go_wp2
            (refine wp_region_later (by kernel_rfl) (by kernel_rfl) ?_; (repeat (go_big_quiet_step ((first | (go_at_call_of 97 (k : Int); refine Calls.later (implCarry _ _ _ _ ?_ HS1.out); omega) | (go_at_call_of 97 (m : Int); refine Calls.later (implCarry _ _ _ _ ?_ HS1.out); omega) | (go_at_call_of 97 (n : Int); refine Calls.later (implCarry _ _ _ _ ?_ HS2.out); omega))))); refine wpQuiet_nil ?_; rintro wq ⟨xq, hxq⟩; have hq := later_below hxq; clear hxq xq)
            have hbl := hbl.trans (hq.mono hbl.size)
            go_wp2
            go_ret
            exact ⟨ret_int (by rw [HR.out, Int.toNat_natCast, Int.toNat_natCast, ← HF.out, HN.out]), (below_alloc w _).trans (hbl.mono (by simp))⟩
          | false =>
            rw [hh, if_neg (by simp)] at HN
            have hrun := run_eql_cell (a := (carryC (1, 2) k).1) (b := (carryC (1, 2) k).2) (c := (carryC (carryC (1, 2) m) n).1) (d := (carryC (carryC (1, 2) m) n).2) hh
            clear hh
            go_wp2
            (refine wp_region_later (by kernel_rfl) (by kernel_rfl) ?_; (repeat (go_big_quiet_step ((first | (go_at_call_of 97 (k : Int); refine Calls.later (implCarry _ _ _ _ ?_ HS1.out); omega) | (go_at_call_of 97 (m : Int); refine Calls.later (implCarry _ _ _ _ ?_ HS1.out); omega) | (go_at_call_of 97 (n : Int); refine Calls.later (implCarry _ _ _ _ ?_ HS2.out); omega))))); refine wpQuiet_nil ?_; rintro wq ⟨xq, hxq⟩; have hq := later_below hxq; clear hxq xq)
            have hbl := hbl.trans (hq.mono hbl.size)
            go_wp2
            go_roundw
            case rel => exact ⟨k + 1, by omega, by go_num, by show _ = _; rw [← HN.out, HF.out], hbl⟩
            case measure => simp [intOf]; omega
        · have HE : Hid (firstHit (hitI m n) 8 0 = -1) := by show _ = _; rw [← HF.out, show 8 - k = 0 by omega]; rfl
          go_wp2
          go_ret
          exact ⟨ret_int (by rw [HR.out, Int.toNat_natCast, Int.toNat_natCast, HE.out]), (below_alloc w _).trans (hbl.mono (by simp))⟩

theorem box_cell (w : World) (c : C) (j : Nat) (v : Value) (h : (#[Value.int .i64 c.1, .int .i64 c.2] : Array Value)[j]? = some v) : (w.alloc (.cells #[.int .i64 c.1, .int .i64 c.2] 58)).cell? ⟨w.heap.size, j, none⟩ = some v := by
  rw [cell_of_row _ _ _ _ _ _ (heap_alloc_new w _)]; exact h
theorem firstHit_congr {f g : Nat → Bool} : ∀ (n k : Nat), (∀ j, k ≤ j → j < k + n → f j = g j) → firstHit f n k = firstHit g n k
  | 0, _, _ => rfl
  | n + 1, k, h => by
    unfold firstHit
    rw [h k (by omega) (by omega), firstHit_congr n (k + 1) fun j h1 h2 => h j (by omega) (by omega)]
theorem hits_eq {a b : Nat} (ha : a ≤ 7) (hb : b ≤ 7) : firstHit (hitI a b) 8 0 = firstHit (hitS a b) 8 0 :=
  firstHit_congr 8 0 fun j _ h => hit_eq ⟨a, by omega⟩ ⟨b, by omega⟩ ⟨j, by omega⟩

set_option maxHeartbeats 1600000 in
theorem specCompose (a b : Int) (w : World) :
    Calls Try.prog 48 #[.int .i64 a, .int .i64 b] w fun e w' => e = .returned (.int .i64 (compM a b)) ∧ Below w.heap.size w w' := by
  cases ha : inB a 0 7 with
  | false =>
    have HR : Hid (compM a b = -1) := if_neg (fun h => by rw [inB_07.2 ⟨h.1, h.2.1⟩] at ha; cases ha)
    have HA := Lib.hid ha
    clear ha
    go_enter Try.func48, Try.ntmps48
    go_wp2_with (go_at_call 90; refine (l1In_eq HA.out _).mono ?_; rintro e w' ⟨rfl, rfl⟩)
    go_ret
    exact ⟨ret_int HR.out.symm, Below.refl _ _⟩
  | true =>
    cases hb : inB b 0 7 with
    | false =>
      have HR : Hid (compM a b = -1) := if_neg (fun h => by rw [inB_07.2 ⟨h.2.2.1, h.2.2.2⟩] at hb; cases hb)
      have HA := Lib.hid ha
      have HB := Lib.hid hb
      clear ha hb
      go_enter Try.func48, Try.ntmps48
      go_wp2_with fail
      refine (l1In_eq HA.out _).mono ?_
      rintro e w' ⟨rfl, rfl⟩
      go_wp2_with fail
      refine (l1In_eq HB.out _).mono ?_
      rintro e w' ⟨rfl, rfl⟩
      go_wp2
      go_ret
      exact ⟨ret_int HR.out.symm, Below.refl _ _⟩
    | true =>
      obtain ⟨a0, a7⟩ := inB_07.1 ha
      obtain ⟨b0, b7⟩ := inB_07.1 hb
      have HR0 : compM a b = firstHit (hitI a.toNat b.toNat) 8 0 := if_pos ⟨a0, a7, b0, b7⟩
      rw [hits_eq (by omega) (by omega)] at HR0
      have HR := Lib.hid HR0
      have HA := Lib.hid ha
      have HB := Lib.hid hb
      clear ha hb HR0
      obtain ⟨m, rfl⟩ := Int.eq_ofNat_of_zero_le a0
      obtain ⟨n, rfl⟩ := Int.eq_ofNat_of_zero_le b0
      have HS1 : Hid (smallC (1, 0)) := ⟨by decide, by decide, by decide, by decide⟩
      have HS2 : Hid (smallC (0, 1)) := ⟨by decide, by decide, by decide, by decide⟩
      go_enter Try.func48, Try.ntmps48
      go_wp2_with fail
      refine (l1In_eq HA.out _).mono ?_
      rintro e w' ⟨rfl, rfl⟩
      go_wp2_with fail
      refine (l1In_eq HB.out _).mono ?_
      rintro e w' ⟨rfl, rfl⟩
      go_wp2_with fail
      refine (specCarry 1 0 m _ (by omega) HS1.out).mono ?_
      rintro e w1 ⟨rfl, k1⟩
      go_wp2_with fail
      refine (specCarry _ _ n _ (by omega) (small_carry (m := m) HS1.out)).mono ?_
      rintro e w2 ⟨rfl, k2⟩
      go_wp2_with fail
      refine (specCarry 0 1 m _ (by omega) HS2.out).mono ?_
      rintro e w3 ⟨rfl, k3⟩
      go_wp2_with fail
      refine (specCarry _ _ n _ (by omega) (small_carry (m := m) HS2.out)).mono ?_
      rintro e w4 ⟨rfl, k4⟩
      have o1 := box_cell w2 (carryC (carryC (1, 0) m) n) 0 _ rfl
      have o2 := box_cell w2 (carryC (carryC (1, 0) m) n) 1 _ rfl
      have p1 := cell_on k4 (Nat.lt_of_lt_of_le (by simp) k3.size) (cell_on k3 (by simp) o1)
      have p2 := cell_on k4 (Nat.lt_of_lt_of_le (by simp) k3.size) (cell_on k3 (by simp) o2)
      have z2 : w2.heap.size < w4.heap.size := by have := k3.size; have := k4.size; simp at *; omega
      have q1 := cell_on (below_alloc w4 (.cells #[.int .i64 (carryC (carryC (0, 1) m) n).1, .int .i64 (carryC (carryC (0, 1) m) n).2] 58)) z2 p1
      have q2 := cell_on (below_alloc w4 (.cells #[.int .i64 (carryC (carryC (0, 1) m) n).1, .int .i64 (carryC (carryC (0, 1) m) n).2] 58)) z2 p2
      have q3 := box_cell w4 (carryC (carryC (0, 1) m) n) 0 _ rfl
      have q4 := box_cell w4 (carryC (carryC (0, 1) m) n) 1 _ rfl
      have KK : Below w.heap.size w (w4.alloc (.cells #[.int .i64 (carryC (carryC (0, 1) m) n).1, .int .i64 (carryC (carryC (0, 1) m) n).2] 58)) := by
        have h2 := k1.trans (k2.mono k1.size)
        have h3 := (h2.alloc h2.size (.cells #[.int .i64 (carryC (carryC (1, 0) m) n).1, .int .i64 (carryC (carryC (1, 0) m) n).2] 58))
        have h4 := h3.trans (k3.mono h3.size)
        have h5 := h4.trans (k4.mono h4.size)
        exact h5.alloc h5.size _
      clear o1 o2 p1 p2 k1 k2 k3 k4
      go_wp2
      go_loopw [7] (fun i wr => ∃ k : Nat, k ≤ 8 ∧ i = .int .i64 k ∧ Hid (firstHit (hitS m n) (8 - k) k = firstHit (hitS m n) 8 0) ∧ Below (w4.alloc (.cells #[.int .i64 (carryC (carryC (0, 1) m) n).1, .int .i64 (carryC (carryC (0, 1) m) n).2] 58)).heap.size (w4.alloc (.cells #[.int .i64 (carryC (carryC (0, 1) m) n).1, .int .i64 (carryC (carryC (0, 1) m) n).2] 58)) wr) (fun i _ => 8 - (intOf i).toNat)
      case atStart => exact ⟨0, by omega, rfl, rfl, Below.refl _ _⟩
      case round =>
        obtain ⟨k, hk, rfl, HF, hbl⟩ := hrel
        by_cases hlt : k < 8
        · have zr : w4.heap.size < wr.heap.size := by have := hbl.size; simp at this; omega
          have l1 := later_cell (w := wr) (by omega) (cell_on hbl (by simp; omega) q1)
          have l2 := later_cell (w := wr) (by omega) (cell_on hbl (by simp; omega) q2)
          have l3 := later_cell (w := wr) (by omega) (cell_on hbl (by simp) q3)
          have l4 := later_cell (w := wr) (by omega) (cell_on hbl (by simp) q4)
          clear q1 q2 q3 q4
          have HN : Hid (firstHit (hitS m n) (8 - k) k = if hitS m n k = true then (k : Int) else firstHit (hitS m n) (8 - (k + 1)) (k + 1)) := by
            show _ = _
            rw [show 8 - k = (8 - (k + 1)) + 1 by omega]; rfl
          cases h1 : decide (carryC (1, 0) k = carryC (carryC (1, 0) m) n) with
          | true =>
            have hrun := run_eql_cell (a := (carryC (1, 0) k).1) (b := (carryC (1, 0) k).2) (c := (carryC (carryC (1, 0) m) n).1) (d := (carryC (carryC (1, 0) m) n).2) h1
            cases h2 : decide (carryC (0, 1) k = carryC (carryC (0, 1) m) n) with
            | true =>
              have hrun2 := run_eql_cell (a := (carryC (0, 1) k).1) (b := (carryC (0, 1) k).2) (c := (carryC (carryC (0, 1) m) n).1) (d := (carryC (carryC (0, 1) m) n).2) h2
              have hh : hitS m n k = true := by unfold hitS; rw [h1, h2]; rfl
              rw [hh, if_pos rfl] at HN
              clear h1 h2 hh
              go_wp2
              (refine wp_region_later (by kernel_rfl) (by kernel_rfl) ?_; (repeat (go_big_quiet_step ((first | (go_at_call_of 98 (#[Value.int .i64 1, .int .i64 0]); refine Calls.later (specCarry _ _ _ _ ?_ HS1.out); omega) | (go_at_call_of 98 (#[Value.int .i64 0, .int .i64 1]); refine Calls.later (specCarry _ _ _ _ ?_ HS2.out); omega))))); refine wpQuiet_nil ?_; rintro wq ⟨xq, hxq⟩; have hq := later_below hxq; clear hxq xq)
              have hbl := hbl.trans (hq.mono hbl.size)
              go_wp2
              go_ret
              exact ⟨ret_int (by rw [HR.out, Int.toNat_natCast, Int.toNat_natCast, ← HF.out, HN.out]), KK.trans (hbl.mono KK.size)⟩
            | false =>
              have hrun2 := run_eql_cell (a := (carryC (0, 1) k).1) (b := (carryC (0, 1) k).2) (c := (carryC (carryC (0, 1) m) n).1) (d := (carryC (carryC (0, 1) m) n).2) h2
              have hh : hitS m n k = false := by unfold hitS; rw [h1, h2]; rfl
              rw [hh, if_neg (by simp)] at HN
              clear h1 h2 hh
              go_wp2
              (refine wp_region_later (by kernel_rfl) (by kernel_rfl) ?_; (repeat (go_big_quiet_step ((first | (go_at_call_of 98 (#[Value.int .i64 1, .int .i64 0]); refine Calls.later (specCarry _ _ _ _ ?_ HS1.out); omega) | (go_at_call_of 98 (#[Value.int .i64 0, .int .i64 1]); refine Calls.later (specCarry _ _ _ _ ?_ HS2.out); omega))))); refine wpQuiet_nil ?_; rintro wq ⟨xq, hxq⟩; have hq := later_below hxq; clear hxq xq)
              have hbl := hbl.trans (hq.mono hbl.size)
              go_wp2
              go_roundw
              case rel => exact ⟨k + 1, by omega, by go_num, by show _ = _; rw [← HN.out, HF.out], hbl⟩
              case measure => simp [intOf]; omega
          | false =>
            have hrun := run_eql_cell (a := (carryC (1, 0) k).1) (b := (carryC (1, 0) k).2) (c := (carryC (carryC (1, 0) m) n).1) (d := (carryC (carryC (1, 0) m) n).2) h1
            have hh : hitS m n k = false := by unfold hitS; rw [h1]; rfl
            rw [hh, if_neg (by simp)] at HN
            clear h1 hh
            go_wp2
            (refine wp_region_later (by kernel_rfl) (by kernel_rfl) ?_; (repeat (go_big_quiet_step ((first | (go_at_call_of 98 (#[Value.int .i64 1, .int .i64 0]); refine Calls.later (specCarry _ _ _ _ ?_ HS1.out); omega) | (go_at_call_of 98 (#[Value.int .i64 0, .int .i64 1]); refine Calls.later (specCarry _ _ _ _ ?_ HS2.out); omega))))); refine wpQuiet_nil ?_; rintro wq ⟨xq, hxq⟩; have hq := later_below hxq; clear hxq xq)
            have hbl := hbl.trans (hq.mono hbl.size)
            go_wp2
            go_roundw
            case rel => exact ⟨k + 1, by omega, by go_num, by show _ = _; rw [← HN.out, HF.out], hbl⟩
            case measure => simp [intOf]; omega
        · have HE : Hid (firstHit (hitS m n) 8 0 = -1) := by show _ = _; rw [← HF.out, show 8 - k = 0 by omega]; rfl
          go_wp2
          go_ret
          exact ⟨ret_int (by rw [HR.out, Int.toNat_natCast, Int.toNat_natCast, HE.out]), KK.trans (hbl.mono KK.size)⟩

def invF (m : Int) (k : Nat) : Bool := decide (compM m k = 0)
def invM (m : Int) : Int := firstHit (invF m) 8 0
theorem first_step (f : Nat → Bool) {k : Nat} (h : k < 8) : firstHit f (8 - k) k = if f k = true then (k : Int) else firstHit f (8 - (k + 1)) (k + 1) := by
  rw [show 8 - k = (8 - (k + 1)) + 1 by omega]; rfl
set_option maxHeartbeats 800000 in
theorem implInverse (m : Int) (w : World) :
    Calls Try.prog 49 #[.int .i64 m] w fun e w' => e = .returned (.int .i64 (invM m)) ∧ Below w.heap.size w w' := by
  go_enter Try.func49, Try.ntmps49
  go_wp2
  go_loopw [3, 4] (fun _ i wr => ∃ k : Nat, k ≤ 8 ∧ i = .int .i64 k ∧ Hid (firstHit (invF m) (8 - k) k = invM m) ∧ Below w.heap.size w wr) (fun _ i _ => 8 - (intOf i).toNat)
  case atStart => exact ⟨0, by omega, rfl, rfl, Below.refl _ _⟩
  case round =>
    obtain ⟨k, hk, rfl, HF, hb⟩ := hrel
    by_cases hlt : k < 8
    · have HN := Lib.hid (first_step (invF m) hlt)
      cases hh : invF m k with
      | true =>
        have h0 : (compM m k == 0) = true := by simpa [invF] using hh
        rw [hh, if_pos rfl] at HN
        clear hh
        go_wp2_with (go_at_call 47; refine (implCompose _ _ _).mono ?_; rintro e w1 ⟨rfl, k1⟩)
        go_ret
        exact ⟨ret_int (by rw [← HF.out, HN.out]), hb.trans (k1.mono hb.size)⟩
      | false =>
        have h0 : (compM m k == 0) = false := by simpa [invF] using hh
        rw [hh, if_neg (by simp)] at HN
        clear hh
        go_wp2_with (go_at_call 47; refine (implCompose _ _ _).mono ?_; rintro e w1 ⟨rfl, k1⟩)
        have hb := hb.trans (k1.mono hb.size)
        go_roundw
        case rel => exact ⟨k + 1, by omega, by go_num, by show _ = _; rw [← HN.out, HF.out], hb⟩
        case measure => simp [intOf]; omega
    · have HE : Hid (invM m = -1) := by show _ = _; rw [← HF.out, show 8 - k = 0 by omega]; rfl
      go_wp2
      go_ret
      exact ⟨ret_int HE.out.symm, hb⟩
set_option maxHeartbeats 800000 in
theorem specInverse (m : Int) (w : World) :
    Calls Try.prog 50 #[.int .i64 m] w fun e w' => e = .returned (.int .i64 (invM m)) ∧ Below w.heap.size w w' := by
  go_enter Try.func50, Try.ntmps50
  go_wp2
  go_loopw [3] (fun i wr => ∃ k : Nat, k ≤ 8 ∧ i = .int .i64 k ∧ Hid (firstHit (invF m) (8 - k) k = invM m) ∧ Below w.heap.size w wr) (fun i _ => 8 - (intOf i).toNat)
  case atStart => exact ⟨0, by omega, rfl, rfl, Below.refl _ _⟩
  case round =>
    obtain ⟨k, hk, rfl, HF, hb⟩ := hrel
    by_cases hlt : k < 8
    · have HN := Lib.hid (first_step (invF m) hlt)
      cases hh : invF m k with
      | true =>
        have h0 : (compM m k == 0) = true := by simpa [invF] using hh
        rw [hh, if_pos rfl] at HN
        clear hh
        go_wp2_with (go_at_call 48; refine (specCompose _ _ _).mono ?_; rintro e w1 ⟨rfl, k1⟩)
        go_ret
        exact ⟨ret_int (by rw [← HF.out, HN.out]), hb.trans (k1.mono hb.size)⟩
      | false =>
        have h0 : (compM m k == 0) = false := by simpa [invF] using hh
        rw [hh, if_neg (by simp)] at HN
        clear hh
        go_wp2_with (go_at_call 48; refine (specCompose _ _ _).mono ?_; rintro e w1 ⟨rfl, k1⟩)
        have hb := hb.trans (k1.mono hb.size)
        go_roundw
        case rel => exact ⟨k + 1, by omega, by go_num, by show _ = _; rw [← HN.out, HF.out], hb⟩
        case measure => simp [intOf]; omega
    · have HE : Hid (invM m = -1) := by show _ = _; rw [← HF.out, show 8 - k = 0 by omega]; rfl
      go_wp2
      go_ret
      exact ⟨ret_int HE.out.symm, hb⟩
end Go.Proofs.Ythhaojbnnacdbaa
