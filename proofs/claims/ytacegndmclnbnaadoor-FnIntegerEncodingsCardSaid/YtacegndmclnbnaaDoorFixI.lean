/- EncodeFixed of the program returns the reference's bytes, for every two numbers. No condition. -/
import Derived.Test.YtacegndmclnbnaaDoorFixE
namespace Go.Proofs.YtacegndmclnbnaaDoor
open Go.RowKit

theorem two_pow {d : Nat} (h : d ≤ 7) : IntKind.i64.wrap (2 ^ (8 * (d : Int)).toNat) = ((256 ^ d : Nat) : Int) := by
  have e : (8 * (d : Int)).toNat = 8 * d := by omega
  have e2 : ((2 : Int) ^ (8 * d)) = ((256 ^ d : Nat) : Int) := by
    rw [Int.pow_mul, Int.natCast_pow]; rfl
  rw [e, e2]
  have := pow256_le h
  generalize 256 ^ d = p at *
  exact IntWalk.i64_in _ (by omega)
theorem shr_eq (m r : Nat) : (m : Int) / 2 ^ (8 * (r : Int)).toNat = ((m / 256 ^ r : Nat) : Int) := by
  have e : (8 * (r : Int)).toNat = 8 * r := by omega
  rw [e, Int.pow_mul, Int.natCast_ediv, Int.natCast_pow]; rfl
theorem wrap_byte (q : Nat) : IntKind.u8.wrap (q : Int) = ((UInt8.ofNat (q % 256)).toNat : Int) := by
  have : (UInt8.ofNat (q % 256)).toNat = q % 256 := by simp
  rw [this, IntKind.wrap_u8]; omega

theorem fix_over {m d p : Nat} (hp : p = 256 ^ d) (h : ¬ m < p) : ¬ (1 ≤ (d : Int) ∧ (d : Int) ≤ 7 ∧ 0 ≤ (m : Int) ∧ (m : Int) < 256 ^ (d : Int).toNat) := by
  rintro ⟨_, _, _, h4⟩
  have h5 : (m : Int) < ((256 ^ d : Nat) : Int) := by rw [Int.natCast_pow]; exact h4
  rw [← hp] at h5
  omega
theorem below_append' {B : Nat} {w wr w1 : World} {o : Obj} {v : Value} {e sz n : Nat} {xs : List Value} (hb : Below B w wr) (hown : wr.ownsRow B e sz v n xs) (hB : B ≤ wr.heap.size)
    (hgrow : (wr.alloc o).grownBy w1 v.ownBlock) : Below B w w1 :=
  (hb.alloc hB o).grown hgrow (by simp; omega) (fun k hk => (hown.lt k hk).1)
theorem fix_down {d r m q : Nat} {l : List UInt8} {b : UInt8} (hl : l = fixL (d - (r + 1)) (m / 256 ^ (r + 1))) (hq : q = m / 256 ^ r) (hb : b = UInt8.ofNat (q % 256)) (hr : r + 1 ≤ d) :
    Hid (l ++ [b] = fixL (d - r) (m / 256 ^ r)) := by
  show _ = _
  rw [show d - r = d - (r + 1) + 1 by omega, fixL_next, ← hl, hb, hq]

set_option maxRecDepth 20000 in
set_option maxHeartbeats 400000 in
theorem implEncodeFixed (n w : Int) (W : World) (_h : -9223372036854775808 ≤ n ∧ n ≤ 9223372036854775807) :
    Calls Tryd.prog 23 #[.int .i64 n, .int .i64 w] W fun e w' => e = .returned (.string ⟨(encF n w).toArray⟩) ∧ Below W.heap.size W w' := by
  obtain ⟨i0, hi, hz0, hz1, hz2⟩ := info_parts Tryd.info5
  by_cases ha : 1 ≤ w
  · by_cases hb : w ≤ 7
    · by_cases hn : 0 ≤ n
      · obtain ⟨m, rfl⟩ := Int.eq_ofNat_of_zero_le hn
        obtain ⟨d, rfl⟩ := Int.eq_ofNat_of_zero_le (show 0 ≤ w by omega)
        have hp := two_pow (d := d) (by omega)
        obtain ⟨p, hpe⟩ : ∃ p, p = 256 ^ d := ⟨_, rfl⟩
        rw [← hpe] at hp
        by_cases hlt : m < p
        · have he : Hid (encF m d = fixL d m) := encF_yes (by omega) (by omega) (by omega)
          clear hpe
          have hd1 : decide ((d : Int) < 1) = false := by simp; omega
          have hd2 : decide (7 < (d : Int)) = false := by simp; omega
          have hd3 : decide ((m : Int) < 0) = false := by simp
          have hd4 : decide (p ≤ m) = false := by simp; omega
          go_enter Tryd.func23, Tryd.ntmps23
          go_wp2
          go_loopw [5, 6] (fun v i wr => ∃ (r : Nat) (l : List UInt8), r ≤ d ∧ i = .int .i64 ((r : Int) - 1) ∧ Hid (l = fixL (d - r) (m / 256 ^ r)) ∧ wr.ownsRow W.heap.size 5 1 v (d - r) (bcells l) ∧ Below W.heap.size W wr) (fun _ i _ => (intOf i + 1).toNat)
          case atStart => exact ⟨d, [], Nat.le_refl _, rfl, by simp [Hid, fixL], by rw [Nat.sub_self]; exact World.ownsRow_nil _ _ _ _, Below.refl _ _⟩
          case round =>
            obtain ⟨r, l, hr, rfl, hl, hown, hbl⟩ := hrel
            by_cases hr0 : r = 0
            · subst hr0
              have hc := string_of_own (P := Tryd.prog) hown Tryd.underlying32 Tryd.underlying5 Tryd.underlying9
              clear hown
              go_wp2
              go_ret
              exact ⟨by rw [he.out, hl.out]; simp, hbl⟩
            · obtain ⟨r, rfl⟩ : ∃ r', r = r' + 1 := ⟨r - 1, by omega⟩
              have hq := shr_eq m r
              obtain ⟨q, hqe⟩ : ∃ q, q = m / 256 ^ r := ⟨_, rfl⟩
              have hqe' := Lib.hid hqe
              rw [← hqe] at hq
              clear hqe
              have hw := wrap_byte q
              obtain ⟨b, hbe⟩ : ∃ b : UInt8, b = UInt8.ofNat (q % 256) := ⟨_, rfl⟩
              have hbe' := Lib.hid hbe
              rw [← hbe] at hw
              clear hbe
              have hsz := hbl.size
              go_wp2_with (at_builtin; refine wpList_append_own _ rfl _ _ 32 rfl W.heap.size 5 i0 (.int .u8 0) 1 1 Tryd.underlying32 hi hz0 hz1 hz2 rfl (by decide) _ _ _ rfl (hown.alloc _) ⟨wr.heap.size, 0, none⟩ 1 1 (bcells [b]) rfl rfl ?c1 ?c2 ?c3 ?c4 ?c5 ?_)
              case c1 => exact World.news_of_block (cs := #[.int .u8 (b.toNat : Int)]) (heap_alloc_new wr _)
              case c2 => simp [bcells, Value.oneCell']
              case c3 => unfold maxLen; omega
              case c4 => omega
              case c5 => simp; omega
              intro v' w1 hown1 hgrow _
              have R1 := below_append' hbl hown hsz hgrow
              rw [← bcells_append] at hown1
              clear hown hgrow hq hw
              go_wp2
              go_roundw
              case rel => exact ⟨r, l ++ [b], by omega, by go_num, fix_down hl.out hqe'.out hbe'.out hr, by rw [show d - r = d - (r + 1) + 1 by omega]; exact hown1, R1⟩
              case measure => simp [intOf]
        · have he : Hid (encF m d = []) := encF_no (fix_over hpe hlt)
          clear hpe
          go_enter Tryd.func23, Tryd.ntmps23
          go_wp2
          go_ret
          exact ⟨by rw [he.out]; rfl, Below.refl _ _⟩
      · have he : Hid (encF n w = []) := encF_no (by omega)
        go_enter Tryd.func23, Tryd.ntmps23
        go_wp2
        go_ret
        exact ⟨by rw [he.out]; rfl, Below.refl _ _⟩
    · have he : Hid (encF n w = []) := encF_no (by omega)
      go_enter Tryd.func23, Tryd.ntmps23
      go_wp2
      go_ret
      exact ⟨by rw [he.out]; rfl, Below.refl _ _⟩
  · have he : Hid (encF n w = []) := encF_no (by omega)
    go_enter Tryd.func23, Tryd.ntmps23
    go_wp2
    go_ret
    exact ⟨by rw [he.out]; rfl, Below.refl _ _⟩
end Go.Proofs.YtacegndmclnbnaaDoor
