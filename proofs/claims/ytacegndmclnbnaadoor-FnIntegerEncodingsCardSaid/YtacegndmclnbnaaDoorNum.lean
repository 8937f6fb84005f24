/- FormatInt, the program's and the reference's: both write the number. No condition but that it is an int; the program's reads the library's table of powers of ten. -/
import Derived.Test.YtacegndmclnbnaaDoorShelf
import Derived.Test.YtacegndmclnbnaaDoorCells
import Derived.Lib.ItoaLen
import Derived.Laws.Concat
import Derived.IntWalk
import Derived.Shelf.SlSorted.Search
namespace Go.Proofs.YtacegndmclnbnaaDoor
open Go.RowKit

theorem string_app2 (a b : List UInt8) : (⟨a.toArray⟩ : ByteArray) ++ ⟨b.toArray⟩ = ⟨(a ++ b).toArray⟩ := by
  apply ByteArray.ext; simp
theorem add_strs2 (W : World) (a b : List UInt8) (h : a.length + b.length ≤ 9223372036854775807) : (Op.stringOp .add ⟨a.toArray⟩ ⟨b.toArray⟩).run Tryd.prog W = .ok (.string ⟨(a ++ b).toArray⟩) W := by
  rw [← string_app2]
  exact run_string_add_sum _ _ _ (by simpa [ByteArray.size] using h)
theorem conv_digit (W : World) (q : Nat) : (convert 32 9 (.slice (some ⟨W.heap.size, 0, none⟩) 1 1)).run Tryd.prog (W.alloc (.cells #[.int .u8 (48 + (q : Int) % 10)] 5)) =
    .ok (.string ⟨[UInt8.ofNat (48 + q % 10)].toArray⟩) (W.alloc (.cells #[.int .u8 (48 + (q : Int) % 10)] 5)) := by
  refine run_convert_bytes_back _ 32 9 5 _ 1 [UInt8.ofNat (48 + q % 10)] Tryd.underlying32 Tryd.underlying5 Tryd.underlying9 fun j hj => ?_
  obtain rfl : j = 0 := by simpa using hj
  have h := World.news_of_block (heap_alloc_new W (.cells #[.int .u8 (48 + (q : Int) % 10)] 5)) 0 (.int .u8 (48 + (q : Int) % 10)) rfl
  rw [h]
  simp; omega
theorem conv_neg (W : World) (q : Nat) (h : q % 10 = 0) : (convert 32 9 (.slice (some ⟨W.heap.size, 0, none⟩) 1 1)).run Tryd.prog (W.alloc (.cells #[.int .u8 (48 + -((q : Int) % 10))] 5)) =
    .ok (.string ⟨[48].toArray⟩) (W.alloc (.cells #[.int .u8 (48 + -((q : Int) % 10))] 5)) := by
  have h1 := conv_digit W q
  rw [h, show (q : Int) % 10 = 0 by omega] at h1
  rw [show (q : Int) % 10 = 0 by omega]
  exact h1
/-- the digits of a number, none of 0 -/
def tailD (q : Nat) : List UInt8 := if q = 0 then [] else Lib.decDigits q
theorem tailD_step {q : Nat} (h : 0 < q) : tailD q = tailD (q / 10) ++ [UInt8.ofNat (48 + q % 10)] := by
  unfold tailD
  rw [if_neg (by omega), Lib.decDigits]
  by_cases h10 : q < 10
  · rw [dif_pos h10, if_pos (by omega), Nat.mod_eq_of_lt h10]; rfl
  · rw [dif_neg h10, if_neg (by omega)]
theorem tailD_len {u : Nat} (h : u < 18446744073709551616) : (tailD u).length ≤ 20 := by
  unfold tailD
  split
  · simp
  · rw [Lib.decDigits_length]; exact Lib.nDigits_le20 u h

set_option maxRecDepth 20000 in
set_option maxHeartbeats 800000 in
theorem specFormatInt (n : Int) (W : World) (h : -9223372036854775808 ≤ n ∧ n ≤ 9223372036854775807) :
    Calls Tryd.prog 13 #[.int .i64 n] W fun e w' => e = .returned (.string ⟨(Lib.itoa n).toArray⟩) ∧ Below W.heap.size W w' := by
  by_cases h0 : n = 0
  · subst h0
    have HR : Hid (Lib.itoa 0 = [48]) := by show _ = _; unfold Lib.itoa; rw [if_neg (by omega)]; exact Lib.decDigits_one (by omega)
    go_enter Tryd.func13, Tryd.ntmps13
    go_wp2
    go_ret
    exact ⟨by rw [HR.out]; rfl, Below.refl _ _⟩
  · by_cases hp : 0 < n
    · obtain ⟨u, rfl⟩ : ∃ u : Nat, n = u := ⟨n.toNat, by omega⟩
      have HR : Hid (Lib.itoa u = tailD u) := by show _ = _; unfold Lib.itoa tailD; rw [if_neg (by omega), if_neg (by omega)]; rfl
      have hul := tailD_len (u := u) (by omega)
      have HH := Lib.hid h
      have z0 : ((u : Int) == 0) = false := by simp; omega
      clear h
      have z1 : ¬ (u : Int) < 0 := by omega
      go_enter Tryd.func13, Tryd.ntmps13
      go_wp2
      go_loopw [0, 3] (fun x o wr => ∃ (q : Nat) (l : List UInt8), q ≤ u ∧ x = .int .i64 q ∧ o = .string ⟨l.toArray⟩ ∧ Hid (tailD q ++ l = tailD u) ∧ Below W.heap.size W wr) (fun x _ _ => (intOf x).toNat)
      case atStart => exact ⟨u, [], Nat.le_refl _, rfl, rfl, (by show _ = _; simp), Below.refl _ _⟩
      case round =>
        obtain ⟨q, l, hq, rfl, rfl, HL, hb⟩ := hrel
        by_cases hq0 : q = 0
        · subst hq0
          have HE : Hid (l = tailD u) := by show _ = _; have := HL.out; rw [show tailD 0 = [] from rfl, List.nil_append] at this; exact this
          go_wp2
          go_ret
          exact ⟨by rw [HR.out, ← HE.out]; rfl, hb⟩
        · have hll : l.length ≤ 20 := by have := congrArg List.length HL.out; rw [List.length_append] at this; omega
          have HL2 : Hid (tailD (q / 10) ++ ([UInt8.ofNat (48 + q % 10)] ++ l) = tailD u) := by
            show _ = _
            rw [← List.append_assoc, ← tailD_step (by omega)]; exact HL.out
          have hc1 := conv_digit wr q
          obtain ⟨c, hc⟩ : ∃ c, c = UInt8.ofNat (48 + q % 10) := ⟨_, rfl⟩
          rw [← hc] at hc1 HL2
          have hc2 := fun W => add_strs2 W [c] l (by simp; omega)
          have w1 : wrap64 ((q : Int) / 10) = (q : Int) / 10 := IntWalk.wrap64_in _ ⟨by omega, by have := HH.out.2; omega⟩
          clear hc
          have z2 : ((q : Int) == 0) = false := by simp; omega
          have z2' : ((q : Int) != 0) = true := by simp; omega
          have z3 : ¬ ((q : Int) % 10 < 0) := by omega
          have z4 : 0 ≤ (q : Int) % 10 := by omega
          have z5 : (q : Int) % 10 ≤ 9 := by omega
          have hq1 : 0 < q := by omega
          clear hq0
          go_wp2
          go_roundw
          case rel => exact ⟨q / 10, [c] ++ l, by omega, by rw [w1]; exact congrArg (Value.int IntKind.i64) (by omega), rfl, HL2, hb.alloc hb.size _⟩
          case measure => rw [w1]; simp [intOf]; omega
    · obtain ⟨u, rfl⟩ : ∃ u : Nat, n = -(u : Int) := ⟨n.natAbs, by omega⟩
      have HR : Hid (Lib.itoa (-(u : Int)) = 45 :: tailD u) := by
        show _ = _
        unfold Lib.itoa tailD
        rw [if_pos (by omega), if_neg (by omega)]
        simp
      have hul := tailD_len (u := u) (by omega)
      have hub : (u : Int) ≤ 9223372036854775808 := by omega
      have hup : 0 < u := by omega
      have z0 : (-(u : Int) == 0) = false := by simp; omega
      have z1 : -(u : Int) < 0 := by omega
      have HH := Lib.hid hub
      clear h h0 hp hub
      go_enter Tryd.func13, Tryd.ntmps13
      go_wp2
      go_loopw [0, 3, 5] (fun x o _ wr => ∃ (q : Nat) (l : List UInt8), q ≤ u ∧ x = .int .i64 (-(q : Int)) ∧ o = .string ⟨l.toArray⟩ ∧ Hid (tailD q ++ l = tailD u) ∧ Below W.heap.size W wr) (fun x _ _ _ => (intOf x).natAbs)
      case atStart => exact ⟨u, [], Nat.le_refl _, rfl, rfl, (by show _ = _; simp), Below.refl _ _⟩
      case round =>
        obtain ⟨q, l, hq, rfl, rfl, HL, hb⟩ := hrel
        have hll : l.length ≤ 20 := by have := congrArg List.length HL.out; rw [List.length_append] at this; omega
        by_cases hq0 : q = 0
        · subst hq0
          have HE : Hid (l = tailD u) := by
            show _ = _
            have := HL.out
            rw [show tailD 0 = [] from rfl, List.nil_append] at this; exact this
          have hc2 := fun W => add_strs2 W [45] l (by simp; omega)
          clear z0 z1 hup
          go_wp2
          go_ret
          exact ⟨by rw [HR.out, ← HE.out]; rfl, hb⟩
        · have hq1 : 0 < q := by omega
          have HL2 : Hid (tailD (q / 10) ++ ([UInt8.ofNat (48 + q % 10)] ++ l) = tailD u) := by
            show _ = _
            rw [← List.append_assoc, ← tailD_step (by omega)]; exact HL.out
          have t1 : Int.tmod (-(q : Int)) 10 = -((q : Int) % 10) := by rw [Int.neg_tmod, Int.tmod_eq_emod_of_nonneg (by omega)]
          have t2 : Int.tdiv (-(q : Int)) 10 = -((q : Int) / 10) := by rw [Int.neg_tdiv, Int.tdiv_eq_ediv_of_nonneg (by omega)]
          have w2 : wrap64 (-((q : Int) / 10)) = -((q : Int) / 10) := IntWalk.wrap64_in _ ⟨by have := HH.out; omega, by omega⟩
          have z2 : (-(q : Int) == 0) = false := by simp; omega
          have z2' : (-(q : Int) != 0) = true := by simp; omega
          have z4 : 0 ≤ (q : Int) % 10 := by omega
          have z5 : (q : Int) % 10 ≤ 9 := by omega
          clear z0 z1 hup
          by_cases hd0 : (q : Int) % 10 = 0
          · have hc1 := conv_neg wr q (by omega)
            have hc2 := fun W => add_strs2 W [48] l (by simp; omega)
            have e48 : UInt8.ofNat (48 + q % 10) = 48 := by rw [show q % 10 = 0 by omega]; rfl
            rw [e48] at HL2
            have z6 : ¬ (-((q : Int) % 10) < 0) := by omega
            clear e48 hd0 hq0
            go_wp2
            go_roundw
            case rel => exact ⟨q / 10, [48] ++ l, by omega, by (try rw [w2]); exact congrArg (Value.int IntKind.i64) (by omega), rfl, HL2, hb.alloc hb.size _⟩
            case measure => (try rw [w2]); simp [intOf]; omega
          · have hc1 := conv_digit wr q
            obtain ⟨c, hc⟩ : ∃ c, c = UInt8.ofNat (48 + q % 10) := ⟨_, rfl⟩
            rw [← hc] at hc1 HL2
            have hc2 := fun W => add_strs2 W [c] l (by simp; omega)
            have z6 : -((q : Int) % 10) < 0 := by omega
            clear hd0 hc hq0
            go_wp2
            go_roundw
            case rel => exact ⟨q / 10, [c] ++ l, by omega, by (try rw [w2]); exact congrArg (Value.int IntKind.i64) (by omega), rfl, HL2, hb.alloc hb.size _⟩
            case measure => (try rw [w2]); simp [intOf]; omega
theorem tab_below {w w' : World} {name : String} {k : IntKind} {zs : List Int} (h : Lib.TabIs Tryd.prog w name k zs) (hb : Below w.heap.size w w') : Lib.TabIs Tryd.prog w' name k zs := by
  unfold Lib.TabIs World.var? at h ⊢
  revert h
  cases Tryd.prog.globalNamed name with
  | none => exact fun h => h
  | some g =>
    simp only [Option.bind_some]
    intro h
    have hg : g < w.heap.size := by
      rcases Nat.lt_or_ge g w.heap.size with h1 | h1
      · exact h1
      · rw [Array.getElem?_eq_none h1] at h; simp at h
    rw [hb.block g hg]
    exact h
/-- the program's, where the library's table of powers of ten is as it is laid -/
theorem implFormatInt (n : Int) (W : World) (h : -9223372036854775808 ≤ n ∧ n ≤ 9223372036854775807) (htab : Lib.TabIs Tryd.prog W "internal/strconv.uint64pow10" .u64 Lib.pow10Tab) :
    Calls Tryd.prog 14 #[.int .i64 n] W fun e w' => e = .returned (.string ⟨(Lib.itoa n).toArray⟩) ∧ Below W.heap.size W w' := by
  have hc := Tryd.strconv_Itoa n h.1 h.2 W htab
  have HH := Lib.hid h
  clear h htab
  go_enter Tryd.func14, Tryd.ntmps14
  go_wp2_with fail
  refine hc.mono ?_
  rintro e w1 ⟨rfl, q, os, rfl⟩
  have hb := below_grown_sl W.heap.size W q os (Nat.le_refl _)
  clear hc
  go_wp2
  go_ret
  exact ⟨rfl, hb⟩
end Go.Proofs.YtacegndmclnbnaaDoor
