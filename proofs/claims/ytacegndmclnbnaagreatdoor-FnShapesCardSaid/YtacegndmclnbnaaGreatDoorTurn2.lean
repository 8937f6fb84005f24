/- turned, l3Turn, TurnShape, the program's and the reference's: contracts. Condition: slices of at most 2^20 cells. -/
import Derived.Test.YtacegndmclnbnaaGreatDoorTurn
namespace Go.Proofs.YtacegndmclnbnaaGreatDoor
open Go.RowKit

def mapC (cs : List C) (m : Nat) : List C := cs.map fun c => carryC c m
theorem mapC_length (cs : List C) (m : Nat) : (mapC cs m).length = cs.length := by simp [mapC]
theorem mapC_take {cs : List C} {k : Nat} {c : C} (m : Nat) (h : cs[k]? = some c) : mapC (cs.take (k + 1)) m = mapC (cs.take k) m ++ [carryC c m] := by
  unfold mapC; rw [take_next h, List.map_append]; rfl
theorem mapC_small {cs : List C} (h : smallL cs) (m : Nat) : smallL (mapC cs m) := by
  intro c hc
  obtain ⟨a, ha, rfl⟩ := List.mem_map.1 hc
  exact small_carry (h a ha)

set_option maxHeartbeats 1600000 in
theorem implTurned (A : Option Addr) (n cap : Nat) (cs : List C) (m : Nat) (w : World) (hm : m ≤ 7) (hst : SortsAt n) (h0 : 0 < n) (hsm : smallL cs) (hn : n ≤ 1048576) (h : CellsAt w A n cs) :
    Calls Tryz.prog 130 #[.slice A n cap, .int .i64 m] w (OwnPost w (turnC cs m)) := by
  obtain ⟨i0, hi, hz0, hz1, hz2⟩ := info_parts Tryz.infoC
  have hl := Lib.hid h.1
  have HSM := Lib.hid hsm
  have HST := Lib.hid hst
  clear hst hsm
  go_enter Tryz.func130, Tryz.ntmps130
  go_wp2
  go_loopw [5, 7, 10] (fun v _ i wr => ∃ k : Nat, k ≤ n ∧ i = .int .i64 k ∧ wr.ownsRow w.heap.size 50 2 v k (flat (mapC (cs.take k) m)) ∧ Below w.heap.size w wr) (fun _ _ i _ => n - (intOf i).toNat)
  case atStart => exact ⟨0, Nat.zero_le _, rfl, World.ownsRow_nil _ _ _ _, Below.refl _ _⟩
  case round =>
    obtain ⟨k, hk, rfl, hown, hb⟩ := hrel
    by_cases hlt : k < n
    · obtain ⟨b, o, p, q, rfl, hbl, HP, c1, c2⟩ := (h.below hb).at_ hlt
      have sP := HSM.out.at_ k _ HP.out
      obtain ⟨p', q', hpq⟩ : ∃ p' q', carryC (p, q) m = (p', q') := ⟨_, _, rfl⟩
      have hca := implCarry p q m (wr.alloc (.cells #[.int .i64 p, .int .i64 q] 50)) hm sP
      rw [hpq] at hca
      have HPQ := Lib.hid hpq
      have hown1 := hown.alloc (.cells #[.int .i64 p, .int .i64 q] 50)
      have hb1 := hb.trans ((below_alloc wr (.cells #[.int .i64 p, .int .i64 q] 50)).mono hb.size)
      clear h hpq hown hb
      go_wp2_with fail
      refine hca.mono ?_
      rintro e w2 ⟨rfl, hb2⟩
      have hown := row_below hown1 hb2
      have hb := hb1.trans (hb2.mono hb1.size)
      have hsz := hb.size
      clear hca hown1 hb1 hb2 c1 c2 hbl
      go_wp2_with (at_builtin; refine wpList_append_own _ rfl _ _ 24 rfl w.heap.size 50 i0 (.agg #[.int .i64 0, .int .i64 0]) 2 16 Tryz.underlying24 hi hz0 hz1 hz2 rfl (by decide) _ _ _ rfl (World.ownsRow.alloc hown _) ⟨w2.heap.size, 0, none⟩ 1 1 (flat [(p', q')]) rfl rfl ?c1 ?c2 ?c3 ?c4 ?c5 ?_)
      case c1 => exact World.news_of_block (cs := #[.int .i64 p', .int .i64 q']) (heap_alloc_new w2 _)
      case c2 => exact flat_one
      case c3 => unfold maxLen; omega
      case c4 => omega
      case c5 => simp; omega
      intro v' w3 hown1 hgrow _
      have R1 := below_append1 hb hown hsz hgrow
      rw [← flat_append, ← HPQ.out, ← mapC_take m HP.out] at hown1
      clear hown hgrow
      go_wp2
      go_roundw
      case rel => exact ⟨k + 1, by omega, by go_num, hown1, R1⟩
      case measure => simp [intOf]; omega
    · obtain rfl : k = n := by omega
      rw [List.take_of_length_le (by rw [hl.out]; exact Nat.le_refl _)] at hown
      have hO : Own wr w.heap.size u5 (mapC cs m) := by unfold Own; rw [mapC_length, hl.out]; exact hown
      obtain ⟨A1, cap1, e5, hr, _⟩ := hO.form
      have hlen : (mapC cs m).length = k := by rw [mapC_length]; exact hl.out
      rw [hlen] at hr e5
      subst e5
      have hSM := mapC_small HSM.out m
      clear h hown hO hlen
      go_wp2_with fail
      refine (implCorner A1 k cap1 _ wr HST.out h0 hSM hn hr).mono ?_
      rintro e w2 ⟨v2, rfl, hO2, hb2⟩
      rw [show sortC (cornerC (mapC cs m)) = turnC cs m from turnC_impl cs m] at hO2
      go_wp2
      go_ret
      exact ⟨_, rfl, hO2.mono hb.size, hb.trans (hb2.mono hb.size)⟩

set_option maxHeartbeats 1600000 in
theorem specTurn (A : Option Addr) (n cap : Nat) (cs : List C) (m : Nat) (w : World) (hm : m ≤ 7) (hsm : smallL cs) (hn : n ≤ 1048576) (h : CellsAt w A n cs) :
    Calls Tryz.prog 128 #[.slice A n cap, .int .i64 m] w (OwnPost w (turnC cs m)) := by
  obtain ⟨i0, hi, hz0, hz1, hz2⟩ := info_parts Tryz.infoC
  have hl := Lib.hid h.1
  have HSM := Lib.hid hsm
  have hE := own_empty w
  have hbE := below_alloc w (.cells #[] 50)
  clear hsm
  go_enter Tryz.func128, Tryz.ntmps128
  go_wp2
  go_loopw [5, 6] (fun v i wr => ∃ k : Nat, k ≤ n ∧ i = .int .i64 k ∧ wr.ownsRow w.heap.size 50 2 v k (flat (mapC (cs.take k) m)) ∧ Below w.heap.size w wr) (fun _ i _ => n - (intOf i).toNat)
  case atStart => exact ⟨0, Nat.zero_le _, rfl, hE, hbE⟩
  case round =>
    clear hE hbE
    obtain ⟨k, hk, rfl, hown, hb⟩ := hrel
    by_cases hlt : k < n
    · obtain ⟨b, o, p, q, rfl, hbl, HP, c1, c2⟩ := (h.below hb).at_ hlt
      have sP := HSM.out.at_ k _ HP.out
      obtain ⟨p', q', hpq⟩ : ∃ p' q', carryC (p, q) m = (p', q') := ⟨_, _, rfl⟩
      have hca := specCarry p q m wr hm sP
      rw [hpq] at hca
      have HPQ := Lib.hid hpq
      have hki : (k : Int) < (n : Int) := by omega
      clear h hpq
      go_wp2_with fail
      refine hca.mono ?_
      rintro e w2 ⟨rfl, hb2⟩
      have hown := row_below hown hb2
      have hb := hb.trans (hb2.mono hb.size)
      have hsz := hb.size
      clear hca hb2 c1 c2 hbl
      go_wp2_with (at_builtin; refine wpList_append_own _ rfl _ _ 24 rfl w.heap.size 50 i0 (.agg #[.int .i64 0, .int .i64 0]) 2 16 Tryz.underlying24 hi hz0 hz1 hz2 rfl (by decide) _ _ _ rfl (World.ownsRow.alloc hown _) ⟨w2.heap.size, 0, none⟩ 1 1 (flat [(p', q')]) rfl rfl ?c1 ?c2 ?c3 ?c4 ?c5 ?_)
      case c1 => exact World.news_of_block (cs := #[.int .i64 p', .int .i64 q']) (heap_alloc_new w2 _)
      case c2 => exact flat_one
      case c3 => unfold maxLen; omega
      case c4 => omega
      case c5 => simp; omega
      intro v' w3 hown1 hgrow _
      have R1 := below_append1 hb hown hsz hgrow
      rw [← flat_append, ← HPQ.out, ← mapC_take m HP.out] at hown1
      clear hown hgrow
      go_wp2
      go_roundw
      case rel => exact ⟨k + 1, by omega, by go_num, hown1, R1⟩
      case measure => simp [intOf]; omega
    · obtain rfl : k = n := by omega
      rw [List.take_of_length_le (by rw [hl.out]; exact Nat.le_refl _)] at hown
      have hO : Own wr w.heap.size u5 (mapC cs m) := by unfold Own; rw [mapC_length, hl.out]; exact hown
      obtain ⟨A1, cap1, e5, hr, _⟩ := hO.form
      have hlen : (mapC cs m).length = k := by rw [mapC_length]; exact hl.out
      rw [hlen] at hr e5
      subst e5
      have hSM := mapC_small HSM.out m
      have hslen : (sortC (mapC cs m)).length ≤ 1048576 := Nat.le_trans (sortC_le _) (by rw [hlen]; exact hn)
      clear h hown hO hlen
      go_wp2_with fail
      refine (specSort A1 k cap1 _ wr hn hr).mono ?_
      rintro e w2 ⟨v2, rfl, hO2, hb2⟩
      obtain ⟨A2, cap2, rfl, hr2, _⟩ := hO2.form
      have hB := hb.trans (hb2.mono hb.size)
      go_wp2_with fail
      refine (specCorner A2 _ cap2 _ w2 (fun c hc => hSM c ((sortC_mem _ _).1 hc)) hslen hr2).mono ?_
      rintro e w3 ⟨v3, rfl, hO3, hb3⟩
      go_wp2
      go_ret
      exact ⟨_, rfl, hO3.mono hB.size, hB.trans (hb3.mono hB.size)⟩

def turnShape (cs : List C) (m : Int) : List C × Bool := if (isShape cs && inB m 0 7) = true then (turnC cs m.toNat, true) else ([], false)
theorem turnShape_len (cs : List C) (m : Int) (h : cs.length ≤ 1048576) : (turnShape cs m).1.length ≤ 1048576 := by
  unfold turnShape; split
  · exact Nat.le_trans (turnC_le _ _) h
  · exact Nat.zero_le _
theorem turnShape_no {cs : List C} {m : Int} (h : (isShape cs && inB m 0 7) = false) : turnShape cs m = ([], false) := by unfold turnShape; rw [h]; rfl
theorem turnShape_yes {cs : List C} {m : Nat} (h1 : isShape cs = true) (h2 : inB m 0 7 = true) : turnShape cs m = (turnC cs m, true) := by unfold turnShape; rw [h1, h2]; rfl

end Go.Proofs.YtacegndmclnbnaaGreatDoor
