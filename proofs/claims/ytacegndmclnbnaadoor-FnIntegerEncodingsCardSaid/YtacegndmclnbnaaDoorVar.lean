/- EncodeVarint, the program's and the reference's: both return the same bytes, for every number. No condition. -/
import Derived.Test.YtacegndmclnbnaaDoorFixI
import Derived.Test.YtacegndmclnbnaaDoorVarP
namespace Go.Proofs.YtacegndmclnbnaaDoor
open Go.RowKit

theorem var_cell (m : Nat) : bcells [UInt8.ofNat (m % 128 + 128)] = [.int .u8 ((m : Int) % 128 + 128)] := by
  simp only [bcells, List.map_cons, List.map_nil, ofNat_toNat_lt (show m % 128 + 128 < 256 by omega)]
  simp
theorem var_cell' (m : Nat) : bcells [UInt8.ofNat (m % 128 + 128)] = [.int .u8 (128 + (m : Int) % 128)] := by
  rw [var_cell, Int.add_comm]
theorem var_last (m : Nat) (h : m < 128) : bcells [UInt8.ofNat m] = [.int .u8 (m : Int)] := by
  simp only [bcells, List.map_cons, List.map_nil, ofNat_toNat_lt (show m < 256 by omega)]
theorem var_step {f m N : Nat} {l : List UInt8} (h : l ++ varL (f + 1) m = varL 6 N) (hm : 128 ≤ m) : Hid ((l ++ [UInt8.ofNat (m % 128 + 128)]) ++ varL f (m / 128) = varL 6 N) := by
  show _ = _
  rw [← h, varL_big _ _ hm]; simp
theorem pow_step {f m : Nat} (h : m < 128 ^ (f + 1 + 1)) : Hid (m / 128 < 128 ^ (f + 1)) := by
  show _ < _
  rw [Nat.pow_succ] at h
  exact Nat.div_lt_of_lt_mul (by rw [Nat.mul_comm]; exact h)

theorem pow7 {N : Nat} (h : N ≤ 562949953421311) : N < 128 ^ (6 + 1) := by
  have : 128 ^ (6 + 1) = 562949953421312 := by decide
  omega

def VarRel (W : World) (N : Nat) (m f : Nat) (l : List UInt8) (v : Value) (wr : World) : Prop :=
  m < 128 ^ (f + 1) ∧ l ++ varL f m = varL 6 N ∧ l.length + f = 6 ∧ wr.ownsRow W.heap.size 5 1 v l.length (bcells l) ∧ Below W.heap.size W wr


set_option maxRecDepth 20000 in
set_option maxHeartbeats 400000 in
theorem implEncodeVarint (n : Int) (W : World) :
    Calls Tryd.prog 20 #[.int .i64 n] W fun e w' => e = .returned (.string ⟨(encV n).toArray⟩) ∧ Below W.heap.size W w' := by
  obtain ⟨i0, hi, hz0, hz1, hz2⟩ := info_parts Tryd.info5
  by_cases h0 : 0 ≤ n
  · by_cases h1 : n ≤ 562949953421311
    · obtain ⟨N, rfl⟩ := Int.eq_ofNat_of_zero_le h0
      have he : Hid (encV N = varL 6 N) := by show encV N = _; unfold encV; rw [if_pos ⟨h0, h1⟩]; rfl
      have hd1 : decide ((N : Int) < 0) = false := by simp
      have hd2 : decide (562949953421311 < (N : Int)) = false := by simp; omega
      go_enter Tryd.func20, Tryd.ntmps20
      go_wp2
      go_loopw [0, 3] (fun x v wr => ∃ (m f : Nat) (l : List UInt8), (m : Int) ≤ 562949953421311 ∧ x = .int .i64 m ∧ VarRel W N m f l v wr) (fun x _ _ => (intOf x).toNat)
      case atStart => exact ⟨N, 6, [], by omega, rfl, pow7 (by omega), rfl, rfl, World.ownsRow_nil _ _ _ _, Below.refl _ _⟩
      case round =>
        obtain ⟨m, f, l, hm, rfl, hp, hv, hl, hown, hbl⟩ := hrel
        have HP := Lib.hid hp
        have HV := Lib.hid hv
        have HL := Lib.hid hl
        have hl6 : l.length ≤ 6 := by omega
        clear hp hv hl
        have hsz := hbl.size
        by_cases hlt : 128 ≤ m
        · obtain ⟨f, rfl⟩ : ∃ g, f = g + 1 := by
            cases f with
            | zero => exact absurd HP.out (by simp; omega)
            | succ g => exact ⟨g, rfl⟩
          obtain ⟨b, hbe, hbc⟩ : ∃ b, Hid (b = UInt8.ofNat (m % 128 + 128)) ∧ Hid (bcells [b] = [.int .u8 ((m : Int) % 128 + 128)]) := ⟨_, rfl, var_cell m⟩
          go_wp2_with (at_builtin; refine wpList_append_own _ rfl _ _ 32 rfl W.heap.size 5 i0 (.int .u8 0) 1 1 Tryd.underlying32 hi hz0 hz1 hz2 rfl (by decide) _ _ _ rfl (hown.alloc _) ⟨wr.heap.size, 0, none⟩ 1 1 (bcells [b]) rfl rfl ?c1 ?c2 ?c3 ?c4 ?c5 ?_)
          case c1 => rw [hbc.out]; exact World.news_of_block (cs := #[.int .u8 ((m : Int) % 128 + 128)]) (heap_alloc_new wr _)
          case c2 => simp [bcells, Value.oneCell']
          case c3 => unfold maxLen; omega
          case c4 => omega
          case c5 => simp; omega
          intro v' w1 hown1 hgrow _
          have R1 := below_append' hbl hown hsz hgrow
          have R : VarRel W N (m / 128) f (l ++ [b]) v' w1 :=
            ⟨(pow_step HP.out).out, (by rw [hbe.out]; exact (var_step HV.out hlt).out), by have := HL.out; simp; omega, by rw [bcells_append, List.length_append]; exact hown1, R1⟩
          clear hown hgrow hown1
          go_wp2
          go_roundw
          case rel => exact ⟨m / 128, f, _, by omega, by go_num, R⟩
          case measure => simp [intOf]; omega
        · have hm8 : m < 128 := by omega
          obtain ⟨b, hbe, hbc⟩ : ∃ b, Hid (b = UInt8.ofNat m) ∧ Hid (bcells [b] = [.int .u8 (m : Int)]) := ⟨_, rfl, var_last m hm8⟩
          go_wp2_with (at_builtin; refine wpList_append_own _ rfl _ _ 32 rfl W.heap.size 5 i0 (.int .u8 0) 1 1 Tryd.underlying32 hi hz0 hz1 hz2 rfl (by decide) _ _ _ rfl (hown.alloc _) ⟨wr.heap.size, 0, none⟩ 1 1 (bcells [b]) rfl rfl ?d1 ?d2 ?d3 ?d4 ?d5 ?_)
          case d1 => rw [hbc.out]; exact World.news_of_block (cs := #[.int .u8 (m : Int)]) (heap_alloc_new wr _)
          case d2 => simp [bcells, Value.oneCell']
          case d3 => unfold maxLen; omega
          case d4 => omega
          case d5 => simp; omega
          intro v' w1 hown1 hgrow _
          have R1 := below_append' hbl hown hsz hgrow
          rw [← bcells_append] at hown1
          have hc := string_of_own (P := Tryd.prog) hown1 Tryd.underlying32 Tryd.underlying5 Tryd.underlying9
          clear hown hgrow hown1
          go_wp2
          go_ret
          exact ⟨by rw [he.out, ← HV.out, varL_small _ _ hm8, hbe.out]; rfl, R1⟩
    · have he : Hid (encV n = []) := if_neg (by omega)
      go_enter Tryd.func20, Tryd.ntmps20
      go_wp2
      go_ret
      exact ⟨by rw [he.out]; rfl, Below.refl _ _⟩
  · have he : Hid (encV n = []) := if_neg (by omega)
    go_enter Tryd.func20, Tryd.ntmps20
    go_wp2
    go_ret
    exact ⟨by rw [he.out]; rfl, Below.refl _ _⟩
end Go.Proofs.YtacegndmclnbnaaDoor
