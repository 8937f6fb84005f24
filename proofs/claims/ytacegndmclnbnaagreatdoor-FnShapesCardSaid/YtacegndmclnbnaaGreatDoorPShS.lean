/- ParseShape of the reference, walked: it hands back the shape that the text writes, or none. -/
import Derived.Test.YtacegndmclnbnaaGreatDoorPShM
import Derived.Test.YtacegndmclnbnaaGreatDoorFmtS
import Derived.Test.YtacegndmclnbnaaGreatDoorMove
namespace Go.Proofs.YtacegndmclnbnaaGreatDoor
open Go.RowKit
set_option linter.unusedVariables false

theorem pread_next {s : ByteArray} {k : Nat} (h : k < s.size) : pread (s.data.toList.take (k + 1)) = pstep (pread (s.data.toList.take k)) s[k] := by
  have hl : k < s.data.toList.length := by simpa using h
  have e : s.data.toList.take (k + 1) = s.data.toList.take k ++ [s[k]] := by rw [List.take_add_one, List.getElem?_eq_getElem hl]; rfl
  unfold pread
  rw [e, List.foldl_append]
  rfl
def pshR (l : List UInt8) : List C × Bool := ((psh l).getD [], (psh l).isSome)
theorem pshR_none {l : List UInt8} (h : psh l = none) : pshR l = ([], false) := by unfold pshR; rw [h]; rfl
theorem pshR_some {l : List UInt8} {cs : List C} (h : psh l = some cs) : pshR l = (cs, true) := by unfold pshR; rw [h]; rfl
theorem pread_small (l : List UInt8) : (pread l).1.length ≤ l.length ∧ 0 ≤ (pread l).2.1 ∧ (pread l).2.1 ≤ l.length ∧ 0 ≤ (pread l).2.2 ∧ (pread l).2.2 ≤ l.length := by
  have aux : ∀ (l : List UInt8) (s : List C × Int × Int) (n : Nat), s.1.length ≤ n → 0 ≤ s.2.1 → s.2.1 ≤ n → 0 ≤ s.2.2 → s.2.2 ≤ n →
      (l.foldl pstep s).1.length ≤ n + l.length ∧ 0 ≤ (l.foldl pstep s).2.1 ∧ (l.foldl pstep s).2.1 ≤ (n + l.length : Nat) ∧ 0 ≤ (l.foldl pstep s).2.2 ∧ (l.foldl pstep s).2.2 ≤ (n + l.length : Nat) := by
    intro l
    induction l with
    | nil => intro s n h1 h2 h3 h4 h5; exact ⟨h1, h2, h3, h4, h5⟩
    | cons b r ih =>
      intro s n h1 h2 h3 h4 h5
      have key : (pstep s b).1.length ≤ n + 1 ∧ 0 ≤ (pstep s b).2.1 ∧ (pstep s b).2.1 ≤ (n + 1 : Nat) ∧ 0 ≤ (pstep s b).2.2 ∧ (pstep s b).2.2 ≤ (n + 1 : Nat) := by
        unfold pstep
        split
        · simp; omega
        · split
          · simp; omega
          · simp; omega
      obtain ⟨k1, k2, k3, k4, k5⟩ := key
      have := ih (pstep s b) (n + 1) k1 k2 k3 k4 k5
      rw [List.foldl_cons, List.length_cons, show n + (r.length + 1) = n + 1 + r.length by omega]
      exact this
  have := aux l ([], 0, 0) 0 (Nat.le_refl _) (by simp) (by simp) (by simp) (by simp)
  simp only [Nat.zero_add] at this
  exact this
/-- at the loop's end, wherever it ended -/
theorem psh_end {l : List UInt8} {O : List C} (h : l.length ≤ 70 → O = (pread l).1) : psh l = if l ≠ [] ∧ fmt (cornerShape O) = l then some O else none := by
  by_cases hl : l.length ≤ 70
  · rw [h hl]; rfl
  · rw [psh_long (by omega), if_neg]
    rintro ⟨_, e⟩
    have := fmt_short O
    rw [e] at this
    omega
set_option maxRecDepth 20000 in
set_option maxHeartbeats 1600000 in
theorem specParseShape (s : ByteArray) (W : World) (hs : s.size ≤ 1048576) : Calls Tryz.prog 11 #[.string s] W (OwnPost2 W (pshR s.data.toList)) := by
  obtain ⟨i0, hi, hz0, hz1, hz2⟩ := info_parts Tryz.infoC
  have hown : (W.alloc (.cells #[] 50)).ownsRow W.heap.size 50 2 (.slice (some ⟨W.heap.size, 0, none⟩) 0 0) 0 (flat []) := World.ownsRow_made _ _ _ (Nat.le_refl _) (by decide) rfl
  have hb := below_alloc W (.cells #[] 50)
  have hl : s.data.toList.length = s.size := by simp
  go_enter Tryz.func11, Tryz.ntmps11
  go_wp2
  go_loopw [4, 5, 6, 7] (fun v x y i wr => ∃ (k : Nat) (O : List C) (a b : Int), k ≤ s.size ∧ (70 < s.size → k = 0) ∧ i = .int .i64 k ∧ x = .int .i64 a ∧ y = .int .i64 b ∧ Hid ((O, a, b) = pread (s.data.toList.take k)) ∧ wr.ownsRow W.heap.size 50 2 v O.length (flat O) ∧ Below W.heap.size W wr) (fun _ _ _ i _ => s.size - (intOf i).toNat)
  case atStart => exact ⟨0, [], 0, 0, Nat.zero_le _, fun _ => rfl, rfl, rfl, rfl, rfl, hown, hb⟩
  case round =>
    clear hown hb
    obtain ⟨k, O, a, b, hk, hk70, rfl, rfl, rfl, HO, hown, hb⟩ := hrel
    have hsm := pread_small (s.data.toList.take k)
    rw [← HO.out, List.length_take, hl, Nat.min_eq_left hk] at hsm
    simp only at hsm
    by_cases hlt : k < s.size ∧ s.size ≤ 70
    · obtain ⟨h1, h2⟩ := hlt
      have h2' : (s.size : Int) ≤ 70 := by omega
      have HN := Lib.hid (pread_next h1)
      rw [← HO.out] at HN
      have hsz := hb.size
      have hmem : s[k] ∈ s.data.toList := by
        have : k < s.data.toList.length := by omega
        exact List.mem_of_getElem? (i := k) (List.getElem?_eq_getElem this)
      by_cases e35 : s[k] = 35
      · have t35 : s[k].toNat = 35 := by rw [e35]; rfl
        have HN2 : Hid ((O ++ [(a, b)], a + 1, b) = pread (s.data.toList.take (k + 1))) := by show _ = _; rw [HN.out]; simp [pstep, e35]
        clear HN hmem
        go_wp2_with (at_builtin; refine wpList_append_own _ rfl _ _ 24 rfl W.heap.size 50 i0 (.agg #[.int .i64 0, .int .i64 0]) 2 16 Tryz.underlying24 hi hz0 hz1 hz2 rfl (by decide) _ _ _ rfl (hown.alloc _) ⟨wr.heap.size, 0, none⟩ 1 1 (flat [(a, b)]) rfl rfl ?c1 ?c2 ?c3 ?c4 ?c5 ?_)
        case c1 => exact World.news_of_block (cs := #[.int .i64 a, .int .i64 b]) (heap_alloc_new wr _)
        case c2 => exact flat_one
        case c3 => unfold maxLen; omega
        case c4 => omega
        case c5 => simp; omega
        intro v' w1 hown1 hgrow _
        have R1 := (hb.alloc hsz (.cells #[.int .i64 a, .int .i64 b] 50)).grown hgrow (by simp; omega) (fun z hz => (hown.lt z hz).1)
        have hown2 : w1.ownsRow W.heap.size 50 2 v' (O ++ [(a, b)]).length (flat (O ++ [(a, b)])) := by rw [flat_append, List.length_append]; exact hown1
        clear hown hgrow hown1
        go_wp2
        go_roundw
        case rel => exact ⟨k + 1, O ++ [(a, b)], a + 1, b, by omega, by omega, by go_num, by go_num, rfl, HN2, hown2, R1⟩
        case measure => simp [intOf]; omega
      · have n35 : ((s[k].toNat : Int) == 35) = false := by
          have : s[k].toNat ≠ 35 := fun e => e35 (UInt8.toNat_inj.1 e)
          simp; omega
        by_cases e46 : s[k] = 46
        · have t46 : s[k].toNat = 46 := by rw [e46]; rfl
          have HN2 : Hid ((O, a + 1, b) = pread (s.data.toList.take (k + 1))) := by show _ = _; rw [HN.out]; simp [pstep, e46]
          clear HN hmem n35
          go_wp2
          go_roundw
          case rel => exact ⟨k + 1, O, a + 1, b, by omega, by omega, by go_num, by go_num, rfl, HN2, hown, hb⟩
          case measure => simp [intOf]; omega
        · have n46 : ((s[k].toNat : Int) == 46) = false := by
            have : s[k].toNat ≠ 46 := fun e => e46 (UInt8.toNat_inj.1 e)
            simp; omega
          by_cases e47 : s[k] = 47
          · have t47 : s[k].toNat = 47 := by rw [e47]; rfl
            have HN2 : Hid ((O, 0, b + 1) = pread (s.data.toList.take (k + 1))) := by show _ = _; rw [HN.out]; simp [pstep, e47]
            clear HN hmem n35 n46
            go_wp2
            go_roundw
            case rel => exact ⟨k + 1, O, 0, b + 1, by omega, by omega, by go_num, rfl, by go_num, HN2, hown, hb⟩
            case measure => simp [intOf]; omega
          · have n47 : ((s[k].toNat : Int) == 47) = false := by
              have : s[k].toNat ≠ 47 := fun e => e47 (UInt8.toNat_inj.1 e)
              simp; omega
            have HP := Lib.hid (pshR_none (psh_bad hmem e35 e46 e47))
            have made : (wr.alloc (.cells #[] 50)).ownsRow W.heap.size 50 2 (.slice (some ⟨wr.heap.size, 0, none⟩) 0 0) 0 (flat []) := World.ownsRow_made _ _ _ hsz (by decide) rfl
            have hb2 := hb.alloc hsz (.cells #[] 50)
            clear HN hmem hown
            go_wp2
            go_ret2
            exact ⟨_, by rw [HP.out]; rfl, by rw [HP.out]; exact made, hb2⟩
    · have hX := psh_end (l := s.data.toList) (O := O) (fun h => by
        have hke : k = s.size := by omega
        have e : pread s.data.toList = (O, a, b) := by rw [HO.out, hke, ← hl, List.take_length]
        rw [e])
      obtain ⟨A', cap', rfl, _, _⟩ := Own.form (cs := O) hown
      have hcell := own_cells (cs := O) hown
      have C := specFormatShape A' O.length cap' O wr (by omega) hcell
      have ex : (k < s.size ∧ (70 : Int) < s.size) ∨ ¬ k < s.size := by omega
      have hsz := hb.size
      obtain ⟨tt, htt⟩ : ∃ tt : ByteArray, tt = ⟨(fmt (cornerShape O)).toArray⟩ := ⟨_, rfl⟩
      rw [← htt] at C
      have hiff : tt = s ↔ fmt (cornerShape O) = s.data.toList := by
        rw [htt]
        constructor
        · rintro rfl; rfl
        · intro e; rw [e]
      have hnil : s.data.toList = [] ↔ s.size = 0 := by rw [← List.length_eq_zero_iff, hl]
      clear htt hcell HO hsm
      by_cases h0 : s.size = 0
      · have HP := Lib.hid (pshR_none (l := s.data.toList) (by rw [hX, if_neg (fun e => e.1 (hnil.2 h0))]))
        obtain rfl : s = ⟨#[]⟩ := by
          have := hnil.2 h0
          exact ByteArray.ext (Array.ext' this)
        have made : (wr.alloc (.cells #[] 50)).ownsRow W.heap.size 50 2 (.slice (some ⟨wr.heap.size, 0, none⟩) 0 0) 0 (flat []) := World.ownsRow_made _ _ _ hsz (by decide) rfl
        have hb2 := hb.alloc hsz (.cells #[] 50)
        clear hX hiff hnil C hown hlt ex
        go_wp2
        go_ret2
        exact ⟨_, by rw [HP.out]; rfl, by rw [HP.out]; exact made, hb2⟩
      · have hne : s.toList.isEmpty = false := by
          rw [ByteArray.toList_eq]
          exact List.isEmpty_eq_false_iff.2 fun e => h0 (hnil.1 e)
        by_cases heq : tt = s
        · have HP := Lib.hid (pshR_some (l := s.data.toList) (cs := O) (by rw [hX, if_pos ⟨fun e => h0 (hnil.1 e), hiff.1 heq⟩]))
          clear hX hiff hnil hlt
          subst heq
          rcases ex with ⟨x1, x2⟩ | x1
          all_goals
            go_wp2_with (go_at_call 12; refine C.mono ?_; rintro e w9 ⟨rfl, k9⟩)
            go_ret2
            exact ⟨_, by rw [HP.out]; rfl, by rw [HP.out]; exact Own.below (cs := O) hown k9, hb.trans (k9.mono hsz)⟩
        · have HP := Lib.hid (pshR_none (l := s.data.toList) (by rw [hX, if_neg (fun e => heq (hiff.2 e.2))]))
          have heq' : (tt.toList == s.toList) = false := by
            rw [ByteArray.toList_eq, ByteArray.toList_eq]
            exact beq_eq_false_iff_ne.2 fun e => heq (ByteArray.ext (Array.ext' e))
          clear hX hiff hnil hlt heq hown
          rcases ex with ⟨x1, x2⟩ | x1
          all_goals
            go_wp2_with (go_at_call 12; refine C.mono ?_; rintro e w9 ⟨rfl, k9⟩)
            have hb9 := hb.trans (k9.mono hsz)
            go_ret2
            exact ⟨_, by rw [HP.out]; rfl, by rw [HP.out]; exact World.ownsRow_made _ _ _ hb9.size (by decide) rfl, hb9.alloc hb9.size _⟩
end Go.Proofs.YtacegndmclnbnaaGreatDoor
