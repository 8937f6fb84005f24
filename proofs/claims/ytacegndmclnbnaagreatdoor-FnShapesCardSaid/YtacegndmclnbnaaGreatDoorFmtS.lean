/- FormatShape of the reference, walked: it writes the shape's cells, from the corner. -/
import Derived.Test.YtacegndmclnbnaaGreatDoorFmtM
import Derived.Test.YtacegndmclnbnaaGreatDoorShelf
namespace Go.Proofs.YtacegndmclnbnaaGreatDoor
open Go.RowKit
set_option linter.unusedVariables false

theorem string_app3 (a b : List UInt8) : (⟨a.toArray⟩ : ByteArray) ++ ⟨b.toArray⟩ = ⟨(a ++ b).toArray⟩ := by
  apply ByteArray.ext; simp
theorem add_strs3 (W : World) (a b : List UInt8) (h : a.length + b.length ≤ 9223372036854775807) : (Op.stringOp .add ⟨a.toArray⟩ ⟨b.toArray⟩).run Tryz.prog W = .ok (.string ⟨(a ++ b).toArray⟩) W := by
  rw [← string_app3]
  exact run_string_add_sum _ _ _ (by simpa [ByteArray.size] using h)
/-- a byte more -/
theorem add_byte3 (W : World) (a : List UInt8) (b : UInt8) (h : a.length ≤ 1000000) : (Op.stringOp .add ⟨a.toArray⟩ ⟨#[b]⟩).run Tryz.prog W = .ok (.string ⟨(a ++ [b]).toArray⟩) W :=
  add_strs3 W a [b] (by simp; omega)
theorem corner_ok (cs : List C) : ∃ h, okL h 0 0 (cornerShape cs) := by
  unfold cornerShape
  split
  · rename_i h; exact ⟨_, okL_shape h⟩
  · exact ⟨1, rfl⟩
theorem corner_short (cs : List C) : (cornerShape cs).length ≤ 8 := by
  unfold cornerShape
  split
  · rename_i h; rw [cornerC_length]; exact (shape_len h).2
  · exact Nat.zero_le _
theorem drop_next {cs : List C} {k : Nat} {c : C} (h : cs[k]? = some c) : cs.drop k = c :: cs.drop (k + 1) := by
  obtain ⟨hk, e⟩ := List.getElem?_eq_some_iff.1 h
  rw [← e]
  exact List.drop_eq_getElem_cons hk
set_option maxRecDepth 20000 in
set_option maxHeartbeats 1600000 in
theorem specFormatShape (A : Option Addr) (n cap : Nat) (cs : List C) (w : World) (hn : n ≤ 1048576) (h : CellsAt w A n cs) :
    Calls Tryz.prog 12 #[.slice A n cap] w fun e w' => e = .returned (.string ⟨(fmt (cornerShape cs)).toArray⟩) ∧ Below w.heap.size w w' := by
  obtain ⟨ht, hok⟩ := corner_ok cs
  have hsh := corner_short cs
  have hcs := specCornerShape A n cap cs w hn h
  obtain ⟨L, hL⟩ : ∃ L, L = cornerShape cs := ⟨_, rfl⟩
  rw [← hL] at hok hsh hcs ⊢
  clear hL h
  have HOK := Lib.hid hok
  clear hok
  go_enter Tryz.func12, Tryz.ntmps12
  go_wp2_with fail
  refine hcs.mono ?_
  rintro e w1 ⟨v, rfl, hO, hb⟩
  obtain ⟨A', cap', rfl, _, _⟩ := hO.form
  have hcell := own_cells hO
  clear hO hcs
  go_wp2
  go_loop [4, 5, 6, 7] (fun t x y i => ∃ (k : Nat) (T : List UInt8) (a b : Int), k ≤ L.length ∧ i = .int .i64 k ∧ t = .string ⟨T.toArray⟩ ∧ x = .int .i64 a ∧ y = .int .i64 b ∧ (0 ≤ a ∧ a ≤ 8 ∧ 0 ≤ b ∧ b ≤ 7) ∧ T.length ≤ 20 * k ∧
    Hid (T ++ fmtL a b (L.drop k) = fmt L) ∧ Hid (okL ht a b (L.drop k))) (fun _ _ _ i => L.length - (intOf i).toNat)
  case atStart => exact ⟨0, [], 0, 0, Nat.zero_le _, rfl, rfl, rfl, rfl, by omega, Nat.zero_le _, rfl, HOK.out⟩
  case round =>
    clear HOK
    obtain ⟨k, T, a, b, hk, rfl, rfl, rfl, rfl, ⟨ha0, ha1, hb0, hb1⟩, hT, HW, HK⟩ := hrel
    by_cases hlt : k < L.length
    · obtain ⟨g, o, p, q, rfl, hbl, HC, c1, c2⟩ := hcell.at_ hlt
      have hd := drop_next HC.out
      have ho := HK.out
      rw [hd] at ho
      obtain ⟨h1, b1, b2, b3, b4, _, ho'⟩ := ho
      simp only at h1 b1 b2 b3 b4 ho'
      have HO := Lib.hid ho'
      have HW2 : Hid (T ++ (List.replicate (q - b).toNat 47 ++ (List.replicate (p - (if b < q then 0 else a)).toNat 46 ++ ([35] ++ fmtL (p + 1) q (L.drop (k + 1))))) = fmt L) := by
        show _ = _
        rw [← HW.out, hd]
        rfl
      obtain ⟨z, hz⟩ : ∃ z : Int, z = if b < q then 0 else a := ⟨_, rfl⟩
      rw [← hz] at HW2
      have hz1 : 0 ≤ z ∧ z ≤ p := by rw [hz]; split <;> omega
      have hbq : b ≤ q := by omega
      have HZ := Lib.hid hz
      clear hd ho' HW HK h1 hz hcell
      have hki : (k : Int) < (L.length : Int) := by omega
      go_wp2
      go_loop [4, 5, 6] (fun t x y => ∃ (j : Nat) (u : Int), b + j ≤ q ∧ y = .int .i64 (b + j) ∧ x = .int .i64 u ∧ t = .string ⟨(T ++ List.replicate j 47).toArray⟩ ∧ (0 ≤ u ∧ u ≤ 8) ∧ Hid ((j = 0 ∧ u = a) ∨ (0 < j ∧ u = 0))) (fun _ _ y => (q - intOf y).toNat)
      case atStart => exact ⟨0, a, by omega, by simp, rfl, by simp, ⟨ha0, ha1⟩, Or.inl ⟨rfl, rfl⟩⟩
      case round =>
        obtain ⟨j, u, hj, rfl, rfl, rfl, ⟨hu0, hu1⟩, HU⟩ := hrel
        by_cases hjq : b + j < q
        · have hadd := fun W => add_byte3 W (T ++ List.replicate j 47) 47 (by simp; omega)
          have hrep : (T ++ List.replicate j (47 : UInt8)) ++ [47] = T ++ List.replicate (j + 1) 47 := by rw [List.append_assoc, List.replicate_succ']
          rw [hrep] at hadd
          clear hrep
          go_wp2
          go_round
          case rel => exact ⟨j + 1, 0, by omega, by go_num, rfl, rfl, by omega, Or.inr ⟨by omega, rfl⟩⟩
          case measure => simp [intOf]; omega
        · have hjq2 : b + j = q := by omega
          have huz : u = z := by
            rw [HZ.out]
            rcases HU.out with ⟨rfl, rfl⟩ | ⟨hj0, rfl⟩
            · rw [if_neg (by omega)]
            · rw [if_pos (by omega)]
          subst huz
          obtain ⟨T1, hT1⟩ : ∃ T1, T1 = T ++ List.replicate j (47 : UInt8) := ⟨_, rfl⟩
          have hl1 : T1.length ≤ 20 * k + 7 := by rw [hT1]; simp; omega
          have HW3 : Hid (T1 ++ (List.replicate (p - u).toNat 46 ++ ([35] ++ fmtL (p + 1) q (L.drop (k + 1)))) = fmt L) := by
            show _ = _
            rw [← HW2.out, hT1, show (q - b).toNat = j by omega]
            simp
          rw [← hT1]
          clear hT1 HW2 HU HZ
          go_wp2
          go_loop [4, 5] (fun t x => ∃ (m : Nat), u + m ≤ p ∧ x = .int .i64 (u + m) ∧ t = .string ⟨(T1 ++ List.replicate m 46).toArray⟩) (fun _ x => (p - intOf x).toNat)
          case atStart => exact ⟨0, by omega, by simp, by simp⟩
          case round =>
            obtain ⟨m, hm, rfl, rfl⟩ := hrel
            by_cases hmp : u + m < p
            · have hadd := fun W => add_byte3 W (T1 ++ List.replicate m 46) 46 (by simp; omega)
              have hrep : (T1 ++ List.replicate m (46 : UInt8)) ++ [46] = T1 ++ List.replicate (m + 1) 46 := by rw [List.append_assoc, List.replicate_succ']
              rw [hrep] at hadd
              clear hrep
              go_wp2
              go_round
              case rel => exact ⟨m + 1, by omega, by go_num, rfl⟩
              case measure => simp [intOf]; omega
            · have hmp2 : u + m = p := by omega
              obtain ⟨T2, hT2⟩ : ∃ T2, T2 = T1 ++ List.replicate m (46 : UInt8) := ⟨_, rfl⟩
              have hl2 : T2.length ≤ 20 * k + 14 := by rw [hT2]; simp; omega
              have HW4 : Hid ((T2 ++ [35]) ++ fmtL (p + 1) q (L.drop (k + 1)) = fmt L) := by
                show _ = _
                rw [← HW3.out, hT2, show (p - u).toNat = m by omega]
                simp
              rw [← hT2]
              have hadd := fun W => add_byte3 W T2 35 (by omega)
              clear hT2 HW3
              go_wp2
              go_round
              case rel => exact ⟨k + 1, T2 ++ [35], p + 1, q, by omega, by go_num, rfl, by go_num, by go_num, by omega, by simp; omega, HW4, HO⟩
              case measure => simp [intOf]; omega
    · have e : L.drop k = [] := List.drop_eq_nil_of_le (by omega)
      have HW2 : Hid (T = fmt L) := by show _ = _; rw [← HW.out, e]; simp [fmtL]
      clear HW HK e
      go_wp2
      go_ret
      exact ⟨by rw [HW2.out]; rfl, hb⟩
end Go.Proofs.YtacegndmclnbnaaGreatDoor
