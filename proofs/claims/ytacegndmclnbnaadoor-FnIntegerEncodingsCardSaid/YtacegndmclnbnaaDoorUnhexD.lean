/- DecodeHex, the program's and the reference's: contracts of both. Condition: a string of at most 2^20 bytes. -/
import Derived.Test.YtacegndmclnbnaaDoorUnhex
import Derived.Test.YtacegndmclnbnaaDoorFixI
namespace Go.Proofs.YtacegndmclnbnaaDoor
open Go.RowKit

theorem below_drewN {B : Nat} {a w : World} (h : Below B a w) (n : Nat) : Below B a (w.drewN n) := h.trans ⟨rfl, rfl, rfl, Nat.le_refl _, fun _ _ => rfl⟩
theorem unhex_end {s : ByteArray} {j : Nat} {l : List UInt8} (h : ¬ 2 * j < s.size) (e : (unhex (s.data.toList.drop (2 * j))).map (l ++ ·) = unhex s.data.toList) : unhex s.data.toList = some l := by
  rw [List.drop_eq_nil_of_le (by simp; exact Nat.le_of_not_lt h)] at e
  rw [← e]; simp [unhex]
theorem drop2 {s : ByteArray} {j : Nat} (h : 2 * j + 1 < s.size) : s.data.toList.drop (2 * j) = s[2 * j] :: s[2 * j + 1] :: s.data.toList.drop (2 * (j + 1)) := by
  have hl : s.data.toList.length = s.size := by simp
  rw [List.drop_eq_getElem_cons (by omega), List.drop_eq_getElem_cons (by omega)]
  rfl
theorem unhex_bad {s : ByteArray} {j : Nat} {l : List UInt8} (h : 2 * j + 1 < s.size) (e : (unhex (s.data.toList.drop (2 * j))).map (l ++ ·) = unhex s.data.toList)
    (hb : ¬ (0 ≤ hexV s[2 * j] ∧ 0 ≤ hexV s[2 * j + 1])) : unhex s.data.toList = none := by
  rw [drop2 h] at e
  rw [← e, unhex, if_neg hb]; rfl
theorem unhex_step {s : ByteArray} {j : Nat} {l : List UInt8} (h : 2 * j + 1 < s.size) (e : (unhex (s.data.toList.drop (2 * j))).map (l ++ ·) = unhex s.data.toList)
    (ha : 0 ≤ hexV s[2 * j]) (hb : 0 ≤ hexV s[2 * j + 1]) :
    (unhex (s.data.toList.drop (2 * (j + 1)))).map ((l ++ [UInt8.ofNat (16 * hexV s[2 * j] + hexV s[2 * j + 1]).toNat]) ++ ·) = unhex s.data.toList := by
  rw [drop2 h, unhex, if_pos ⟨ha, hb⟩] at e
  rw [← e, Option.map_map]
  congr 1
  funext x
  simp

theorem hex_cell {a b : Int} (ha : 0 ≤ a) (ha2 : a < 16) (hb : 0 ≤ b) (hb2 : b < 16) : bcells [UInt8.ofNat (16 * a + b).toNat] = [.int .u8 (16 * a + b)] := by
  have h : (UInt8.ofNat (16 * a + b).toNat).toNat = (16 * a + b).toNat := by simp; omega
  simp only [bcells, List.map_cons, List.map_nil, h]
  rw [Int.toNat_of_nonneg (by omega)]

set_option maxRecDepth 20000 in
set_option maxHeartbeats 800000 in
theorem implDecodeHex (s : ByteArray) (W : World) (hs : s.size ≤ 1048576) :
    Calls Tryd.prog 27 #[.string s] W fun e w' => e = retX (unhex s.data.toList) ∧ Below W.heap.size W w' := by
  obtain ⟨i0, hi, hz0, hz1, hz2⟩ := info_parts Tryd.info5
  by_cases hodd : s.size % 2 = 1
  · have HN : Hid (unhex s.data.toList = none) := unhex_odd _ (by simpa using hodd)
    have h1 : (((s.size : Int) % 2) != 0) = true := by simp; omega
    go_enter Tryd.func27, Tryd.ntmps27
    go_wp2
    go_ret2
    exact ⟨by rw [HN.out]; rfl, Below.refl _ _⟩
  · have h1 : (((s.size : Int) % 2) != 0) = false := by simp; omega
    obtain ⟨h, hh⟩ : ∃ h, s.size = 2 * h := ⟨s.size / 2, by omega⟩
    have HH := Lib.hid hh
    have hh1 : s.size ≤ 2 * h := by omega
    have hh2 : 2 * h ≤ s.size := by omega
    clear hh hodd
    go_enter Tryd.func27, Tryd.ntmps27
    go_wp2
    go_loopw [4, 5, 6, 7] (fun v i _ _ wr => ∃ (j : Nat) (l : List UInt8), j ≤ h ∧ i = .int .i64 ((2 * j : Nat) : Int) ∧ l.length = j ∧ Hid ((unhex (s.data.toList.drop (2 * j))).map (l ++ ·) = unhex s.data.toList) ∧ wr.ownsRow W.heap.size 5 1 v j (bcells l) ∧ Below W.heap.size W wr) (fun _ i _ _ _ => s.size - (intOf i).toNat)
    case atStart => exact ⟨0, [], by omega, rfl, rfl, by simp [Hid], World.ownsRow_nil _ _ _ _, Below.refl _ _⟩
    case round =>
      obtain ⟨j, l, hj, rfl, hl, HU, hown, hb⟩ := hrel
      have HL := Lib.hid hl
      clear hl
      have hsz := hb.size
      by_cases hlt : j < h
      · have b1 : 2 * j + 1 < s.size := by omega
        have b2 : 2 * j < s.size := by omega
        have x1 := hexV_lt s[2 * j]
        have x2 := hexV_lt s[2 * j + 1]
        have b3 : (0 : Int) ≤ 2 * (j : Int) := by omega
        have b4 : 2 * (j : Int) + 1 < (s.size : Int) := by omega
        have b5 : 2 * (j : Int) < (s.size : Int) := by omega
        have b6 : IntKind.i64.wrap (2 * (j : Int) + 1) = 2 * (j : Int) + 1 := IntWalk.i64_in _ (by omega)
        have b7 : (0 : Int) ≤ 2 * (j : Int) + 1 := by omega
        have b8 : (2 * (j : Int) + 1).toNat = 2 * j + 1 := by omega
        have b9 : (2 * (j : Int)).toNat = 2 * j := by omega
        by_cases ha : 0 ≤ hexV s[2 * j]
        · by_cases hb2 : 0 ≤ hexV s[2 * j + 1]
          · have HS := Lib.hid (unhex_step b1 HU.out ha hb2)
            obtain ⟨b, hbe, hbc⟩ : ∃ b, Hid (b = UInt8.ofNat (16 * hexV s[2 * j] + hexV s[2 * j + 1]).toNat) ∧ Hid (bcells [b] = [.int .u8 (16 * hexV s[2 * j] + hexV s[2 * j + 1])]) := ⟨_, Lib.hid rfl, Lib.hid (hex_cell ha x1 hb2 x2)⟩
            go_wp2
            go_quiet ((go_at_call 39; exact Calls.quiet_of_same (indexByte_any _ _)))
            have hb := below_drewN hb nq
            have hown : (wr.drewN nq).ownsRow W.heap.size 5 1 u4 j (bcells l) := hown
            have hsz := hb.size
            go_wp2_with (first | (at_builtin; refine wpList_append_own _ rfl _ _ 32 rfl W.heap.size 5 i0 (.int .u8 0) 1 1 Tryd.underlying32 hi hz0 hz1 hz2 rfl (by decide) _ _ _ rfl (hown.alloc _) ⟨wr.heap.size, 0, none⟩ 1 1 (bcells [b]) rfl rfl ?c1 ?c2 ?c3 ?c4 ?c5 ?_))
            case c1 => rw [hbc.out]; exact World.news_of_block (cs := #[.int .u8 (16 * hexV s[2 * j] + hexV s[2 * j + 1])]) (heap_alloc_new _ _)
            case c2 => simp [bcells, Value.oneCell']
            case c3 => unfold maxLen; omega
            case c4 => omega
            case c5 => simp; omega
            intro v' w1 hown1 hgrow _
            have R1 := below_append' hb hown hsz hgrow
            rw [← bcells_append] at hown1
            clear hown hgrow
            go_wp2
            go_roundw
            case rel => exact ⟨j + 1, l ++ [b], by omega, by go_num, by rw [List.length_append, HL.out]; rfl, by rw [hbe.out]; exact HS, hown1, R1⟩
            case measure => simp [intOf]; omega
          · have HE := Lib.hid (unhex_bad b1 HU.out (fun h => hb2 h.2))
            go_wp2
            go_quiet ((go_at_call 39; exact Calls.quiet_of_same (indexByte_any _ _)))
            have hb := below_drewN hb nq
            have hown : (wr.drewN nq).ownsRow W.heap.size 5 1 u4 j (bcells l) := hown
            have hsz := hb.size
            go_wp2
            go_ret2
            exact ⟨by rw [HE.out]; rfl, hb⟩
        · have HE := Lib.hid (unhex_bad b1 HU.out (fun h => ha h.1))
          go_wp2
          go_quiet ((go_at_call 39; exact Calls.quiet_of_same (indexByte_any _ _)))
          have hb := below_drewN hb nq
          have hown : (wr.drewN nq).ownsRow W.heap.size 5 1 u4 j (bcells l) := hown
          have hsz := hb.size
          go_wp2
          go_ret2
          exact ⟨by rw [HE.out]; rfl, hb⟩
      · obtain rfl : j = h := by omega
        have hc := string_of_own (P := Tryd.prog) hown Tryd.underlying32 Tryd.underlying5 Tryd.underlying9
        have HE := Lib.hid (unhex_end (s := s) (by omega) HU.out)
        clear hown
        go_wp2
        go_ret2
        exact ⟨by rw [HE.out]; rfl, hb⟩
end Go.Proofs.YtacegndmclnbnaaDoor
