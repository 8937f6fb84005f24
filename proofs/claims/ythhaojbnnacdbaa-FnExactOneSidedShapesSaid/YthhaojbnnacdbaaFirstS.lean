/- FreeShapes, OneSidedShapes, CountFree, the reference's: contracts. No condition. -/
import Derived.Test.YthhaojbnnacdbaaGrowS
import Derived.Test.YthhaojbnnacdbaaFirst
namespace Go.Proofs.Ythhaojbnnacdbaa
open Go.RowKit

/-- what the reference collects: nothing as yet, or a row behind -/
def OutRow (B0 : Nat) (w : World) (base : Nat) (v : Value) (vo : List Value) : Prop := (vo = [] ∧ v = .slice (some ⟨B0, 0, none⟩) 0 0) ∨ w.ownsRow base 25 1 v vo.length vo
theorem OutRow.below {B0 : Nat} {w w' : World} {base : Nat} {v : Value} {vo : List Value} (h : OutRow B0 w base v vo) (hb : Below w.heap.size w w') : OutRow B0 w' base v vo := h.imp id fun h => row_belowS h hb
theorem AllRead.snoc {w : World} {vo : List Value} {lo : L2} {u : Value} {cs : List C} (h : AllRead w vo lo) (hu : Reads w u cs) : AllRead w (vo ++ [u]) (lo ++ [cs]) := by
  refine ⟨by simp [h.1], fun j x ds e1 e2 => ?_⟩
  have hl := h.1
  by_cases hj : j < vo.length
  · rw [List.getElem?_append_left hj] at e1
    rw [List.getElem?_append_left (by omega)] at e2
    exact h.2 j x ds e1 e2
  · rw [List.getElem?_append_right (by omega)] at e1
    rw [List.getElem?_append_right (by omega)] at e2
    have hj0 : j - vo.length = 0 := by have := (List.getElem?_eq_some_iff.1 e1).1; simp at this; omega
    rw [hj0] at e1
    rw [show j - lo.length = 0 by omega] at e2
    simp at e1 e2
    subst e1 e2
    exact hu

set_option maxHeartbeats 1600000 in
theorem specLeast (A : Option Addr) (n cap : Nat) (t : List C) (M : Nat) (w : World) (hM : M ≤ 8) (hs : isShape t = true) (hn : n ≤ 1048576) (h : CellsAt w A n t) :
    Calls Try.prog 92 #[.slice A n cap, .int .i64 M] w fun e w' => e = .returned (.bool (leastTo t M)) ∧ Below w.heap.size w w' := by
  have HST := Lib.hid hs
  clear hs
  go_enter Try.func92, Try.ntmps92
  go_wp2
  go_loopw [5] (fun i wr => ∃ j : Nat, j ≤ M ∧ i = .int .i64 j ∧ Hid (leastTo t j = true) ∧ Below w.heap.size w wr) (fun i _ => M - (intOf i).toNat)
  case atStart => exact ⟨0, Nat.zero_le _, rfl, rfl, Below.refl _ _⟩
  case round =>
    obtain ⟨j, hj, rfl, HL, hb⟩ := hrel
    by_cases hjM : j < M
    · have hji : (j : Int) < (M : Int) := by omega
      have HN : Hid (leastTo t (j + 1) = decide (0 ≤ cmpC (turnC t j) t)) := least_step HL.out
      have hl2 := (shape_len (turn_shape HST.out j)).2
      have rt := h.below hb
      go_wp2_with fail
      refine (specTurn A n cap t j wr (by omega) (shape_smallL HST.out) hn rt).mono ?_
      rintro e w3 ⟨v3, rfl, hO3, hb3⟩
      obtain ⟨D, cd, rfl, rd, _⟩ := hO3.form
      have hb3' := hb.trans (hb3.mono hb.size)
      have hC := specCompareShapes D A (turnC t j).length n cd cap (turnC t j) t w3 (by omega) hn rd (rt.below hb3)
      obtain ⟨z, hz⟩ : ∃ z, z = cmpC (turnC t j) t := ⟨_, rfl⟩
      unfold CmpPost at hC
      rw [← hz] at hC
      rw [← hz] at HN
      clear hO3 hb3 rd hb rt hz
      by_cases hzn : z < 0
      · have HF : Hid (leastTo t M = false) := by
          show _ = _
          refine leastTo_off (k := j + 1) ?_ M (by omega)
          rw [HN.out]
          exact decide_eq_false (by omega)
        go_wp2_with fail
        refine hC.mono ?_
        rintro e w4 ⟨rfl, hb4⟩
        go_wp2
        go_ret
        exact ⟨ret_bool HF.out.symm, hb3'.trans (hb4.mono hb3'.size)⟩
      · have HL2 : Hid (leastTo t (j + 1) = true) := by
          show _ = _
          rw [HN.out]
          exact decide_eq_true (by omega)
        go_wp2_with fail
        refine hC.mono ?_
        rintro e w4 ⟨rfl, hb4⟩
        have hb5 := hb3'.trans (hb4.mono hb3'.size)
        go_wp2
        go_roundw
        case rel => exact ⟨j + 1, by omega, by go_num, HL2, hb5⟩
        case measure => simp [intOf]; omega
    · obtain rfl : j = M := by omega
      clear h
      go_wp2
      go_ret
      exact ⟨ret_bool HL.out.symm, hb⟩
set_option maxRecDepth 100000 in
set_option maxHeartbeats 3200000 in
theorem specFree (x : Int) (w : World) (hx : (Lit.int .i64 x).wf = true) : Calls Try.prog 41 #[.int .i64 x] w (SpecL w (freeL x)) := by
  obtain ⟨i0, hi, hz0, hz1, hz2⟩ := info_parts Try.infoL
  have hbE := below_alloc w (.cells #[] 25)
  go_enter Try.func41, Try.ntmps41
  go_wp2_with fail
  refine (specFixed x _ hx).mono ?_
  rintro e w1 ⟨A, cap, rfl, ⟨hF, _, _⟩, hb0⟩
  have hbW := hbE.trans (hb0.mono hbE.size)
  have hw1 : w.heap.size < w1.heap.size := by have := hb0.size; simp at this; omega
  obtain ⟨m, hm⟩ : ∃ m, m = (FixedL x).length := ⟨_, rfl⟩
  have HM := Lib.hid hm
  have hmn := FixedL_len x
  rw [← hm] at hF hmn ⊢
  clear hm hbE hb0
  go_wp2
  go_loopw [3, 5] (fun v i wr => ∃ (k : Nat) (vo : List Value), k ≤ m ∧ i = .int .i64 k ∧ OutRow w.heap.size wr w1.heap.size v vo ∧ vo.length ≤ k ∧ Hid (AllRead w1 vo (((FixedL x).take k).filter fun s => leastTo s 8)) ∧ Below w1.heap.size w1 wr) (fun _ i _ => m - (intOf i).toNat)
  case atStart => exact ⟨0, [], Nat.zero_le _, rfl, Or.inl ⟨rfl, rfl⟩, Nat.le_refl _, (show AllRead _ _ _ from ⟨rfl, fun j u cs h => by simp at h⟩), Below.refl _ _⟩
  case round =>
    obtain ⟨k, vo, hk, rfl, hOut, hvk, HAR, hb⟩ := hrel
    by_cases hlt : k < m
    · have hki : (k : Int) < (m : Int) := by omega
      obtain ⟨b, o, B, d, c, t, rfl, hbb, HT, c1, rt1⟩ := hF.at_ hlt
      have HR1 := Lib.hid rt1
      have rt := rt1.below hb
      have cz := cell_on hb hbb c1
      have HST := Lib.hid (FixedL_each (List.mem_of_getElem? HT.out))
      have htl := shape_len HST.out
      have hd : d ≤ 8 := by rw [← rt.1]; exact htl.2
      have hC := specLeast B d c t 8 wr (by omega) HST.out (by omega) rt
      clear hF c1 rt1 rt
      cases hL : leastTo t 8 with
      | false =>
        rw [hL] at hC
        have HN : Hid (((FixedL x).take (k + 1)).filter (fun s => leastTo s 8) = ((FixedL x).take k).filter fun s => leastTo s 8) := firstL_no HT.out hL
        rw [← HN.out] at HAR
        clear hL
        go_wp2_with fail
        refine hC.mono ?_
        rintro e w4 ⟨rfl, hb4⟩
        have hOut4 := hOut.below hb4
        have hbZ := hb.trans (hb4.mono hb.size)
        clear hC hOut hb hb4 cz
        go_wp2
        go_roundw
        case rel => exact ⟨k + 1, vo, by omega, by go_num, hOut4, by omega, HAR, hbZ⟩
        case measure => simp [intOf]; omega
      | true =>
        rw [hL] at hC
        have HN : Hid (((FixedL x).take (k + 1)).filter (fun s => leastTo s 8) = ((FixedL x).take k).filter (fun s => leastTo s 8) ++ [t]) := firstL_yes HT.out hL
        have HAR2 : Hid (AllRead w1 (vo ++ [.slice B d c]) (((FixedL x).take (k + 1)).filter fun s => leastTo s 8)) := by
          show AllRead _ _ _
          rw [HN.out]
          exact HAR.out.snoc ⟨B, d, c, rfl, HR1.out⟩
        clear hL
        go_wp2_with fail
        refine hC.mono ?_
        rintro e w4 ⟨rfl, hb4⟩
        have hOut4 := hOut.below hb4
        have hbZ := hb.trans (hb4.mono hb.size)
        have c4 := cell_on hb4 (Nat.lt_of_lt_of_le hbb hb.size) cz
        have hszW := hbZ.size
        have hbA := hbZ.alloc hbZ.size (.cells #[.slice B d c] 25)
        have hnw := heap_alloc_new w4 (.cells #[.slice B d c] 25)
        clear hC hOut hb hb4 cz HAR
        rcases hOut4 with ⟨rfl, rfl⟩ | hrow4
        · go_wp2_with (at_builtin; refine wpList_append_grows _ rfl _ _ 32 rfl 25 i0 (.slice none 0 0) 1 24 Try.underlying32 hi hz0 hz1 hz2 rfl (by decide) (some ⟨w.heap.size, 0, none⟩) 0 0 [] rfl (fun h => by cases h) rfl (fun b _ j u h => by simp at h) ⟨w4.heap.size, 0, none⟩ 1 1 [.slice B d c] rfl rfl ?c1 ?c2 (by omega) ?c3 ?c4 ?_)
          case c1 => exact World.news_of_block (cs := #[.slice B d c]) hnw
          case c2 => exact fun u hu => by rw [List.mem_singleton.1 hu]; rfl
          case c3 => unfold maxLen; omega
          case c4 => omega
          intro v' w5 hown1 hgrow
          have R1 := hbA.grown hgrow (by simp; omega) (fun z hz => by cases hz)
          have hOut5 : OutRow w.heap.size w5 w1.heap.size v' ([] ++ [.slice B d c]) := Or.inr ⟨hown1.1, hown1.2.imp id fun ⟨g, cp, cur, e, hg, r⟩ => ⟨g, cp, cur, e, by omega, r⟩⟩
          clear hown1 hgrow hbZ hbA hnw c4
          go_wp2
          go_roundw
          case rel => exact ⟨k + 1, _, by omega, by go_num, hOut5, by simp, HAR2, R1⟩
          case measure => simp [intOf]; omega
        · go_wp2_with (at_builtin; refine wpList_append_own _ rfl _ _ 32 rfl w1.heap.size 25 i0 (.slice none 0 0) 1 24 Try.underlying32 hi hz0 hz1 hz2 rfl (by decide) _ _ _ rfl (World.ownsRow.alloc hrow4 _) ⟨w4.heap.size, 0, none⟩ 1 1 [.slice B d c] rfl rfl ?c1 ?c2 ?c3 ?c4 ?c5 ?_)
          case c1 => exact World.news_of_block (cs := #[.slice B d c]) hnw
          case c2 => exact fun u hu => by rw [List.mem_singleton.1 hu]; rfl
          case c3 => unfold maxLen; omega
          case c4 => omega
          case c5 => simp; omega
          intro v' w5 hown1 hgrow _
          have R1 := hbA.grown hgrow (by simp; omega) (fun z hz => (World.ownsRow.lt hrow4 z hz).1)
          have hOut5 : OutRow w.heap.size w5 w1.heap.size v' (vo ++ [.slice B d c]) := Or.inr (by rw [List.length_append]; exact hown1)
          clear hown1 hgrow hbZ hbA hnw c4 hrow4
          go_wp2
          go_roundw
          case rel => exact ⟨k + 1, _, by omega, by go_num, hOut5, by simp; omega, HAR2, R1⟩
          case measure => simp [intOf]; omega
    · obtain rfl : k = m := by omega
      have HE : Hid (((FixedL x).take k).filter (fun s => leastTo s 8) = freeL x) := by
        show _ = _
        rw [List.take_of_length_le (by rw [HM.out]; exact Nat.le_refl _)]
        rfl
      rw [HE.out] at HAR
      have HV := Lib.hid HAR.out.1
      have hfin := Lib.hid (hbW.trans (hb.mono hbW.size))
      rcases hOut with ⟨rfl, rfl⟩ | hrow
      · have HZ : Hid (freeL x = []) := List.eq_nil_of_length_eq_zero HV.out.symm
        clear hF
        go_wp2
        go_ret
        rw [HZ.out]
        exact ⟨_, 0, rfl, ⟨ShapesAt.none_, Nat.le_refl _, Nat.zero_le _⟩, hfin.out⟩
      · obtain ⟨A9, c9, rfl, hr9, hm9, hc9⟩ := shapes_of_row hrow HV.out.symm (HAR.out.below hb)
        have HR9 := Lib.hid hr9
        clear hF hrow hr9
        go_wp2
        go_ret
        unfold SpecL
        rw [← HV.out]
        exact ⟨A9, c9, rfl, ⟨HR9.out, hm9, hc9⟩, hfin.out⟩
set_option maxRecDepth 100000 in
set_option maxHeartbeats 3200000 in
theorem specOneSided (x : Int) (w : World) (hx : (Lit.int .i64 x).wf = true) : Calls Try.prog 43 #[.int .i64 x] w (SpecL w (oneL x)) := by
  obtain ⟨i0, hi, hz0, hz1, hz2⟩ := info_parts Try.infoL
  have hbE := below_alloc w (.cells #[] 25)
  go_enter Try.func43, Try.ntmps43
  go_wp2_with fail
  refine (specFixed x _ hx).mono ?_
  rintro e w1 ⟨A, cap, rfl, ⟨hF, _, _⟩, hb0⟩
  have hbW := hbE.trans (hb0.mono hbE.size)
  have hw1 : w.heap.size < w1.heap.size := by have := hb0.size; simp at this; omega
  obtain ⟨m, hm⟩ : ∃ m, m = (FixedL x).length := ⟨_, rfl⟩
  have HM := Lib.hid hm
  have hmn := FixedL_len x
  rw [← hm] at hF hmn ⊢
  clear hm hbE hb0
  go_wp2
  go_loopw [3, 5] (fun v i wr => ∃ (k : Nat) (vo : List Value), k ≤ m ∧ i = .int .i64 k ∧ OutRow w.heap.size wr w1.heap.size v vo ∧ vo.length ≤ k ∧ Hid (AllRead w1 vo (((FixedL x).take k).filter fun s => leastTo s 4)) ∧ Below w1.heap.size w1 wr) (fun _ i _ => m - (intOf i).toNat)
  case atStart => exact ⟨0, [], Nat.zero_le _, rfl, Or.inl ⟨rfl, rfl⟩, Nat.le_refl _, (show AllRead _ _ _ from ⟨rfl, fun j u cs h => by simp at h⟩), Below.refl _ _⟩
  case round =>
    obtain ⟨k, vo, hk, rfl, hOut, hvk, HAR, hb⟩ := hrel
    by_cases hlt : k < m
    · have hki : (k : Int) < (m : Int) := by omega
      obtain ⟨b, o, B, d, c, t, rfl, hbb, HT, c1, rt1⟩ := hF.at_ hlt
      have HR1 := Lib.hid rt1
      have rt := rt1.below hb
      have cz := cell_on hb hbb c1
      have HST := Lib.hid (FixedL_each (List.mem_of_getElem? HT.out))
      have htl := shape_len HST.out
      have hd : d ≤ 8 := by rw [← rt.1]; exact htl.2
      have hC := specLeast B d c t 4 wr (by omega) HST.out (by omega) rt
      clear hF c1 rt1 rt
      cases hL : leastTo t 4 with
      | false =>
        rw [hL] at hC
        have HN : Hid (((FixedL x).take (k + 1)).filter (fun s => leastTo s 4) = ((FixedL x).take k).filter fun s => leastTo s 4) := firstL_no HT.out hL
        rw [← HN.out] at HAR
        clear hL
        go_wp2_with fail
        refine hC.mono ?_
        rintro e w4 ⟨rfl, hb4⟩
        have hOut4 := hOut.below hb4
        have hbZ := hb.trans (hb4.mono hb.size)
        clear hC hOut hb hb4 cz
        go_wp2
        go_roundw
        case rel => exact ⟨k + 1, vo, by omega, by go_num, hOut4, by omega, HAR, hbZ⟩
        case measure => simp [intOf]; omega
      | true =>
        rw [hL] at hC
        have HN : Hid (((FixedL x).take (k + 1)).filter (fun s => leastTo s 4) = ((FixedL x).take k).filter (fun s => leastTo s 4) ++ [t]) := firstL_yes HT.out hL
        have HAR2 : Hid (AllRead w1 (vo ++ [.slice B d c]) (((FixedL x).take (k + 1)).filter fun s => leastTo s 4)) := by
          show AllRead _ _ _
          rw [HN.out]
          exact HAR.out.snoc ⟨B, d, c, rfl, HR1.out⟩
        clear hL
        go_wp2_with fail
        refine hC.mono ?_
        rintro e w4 ⟨rfl, hb4⟩
        have hOut4 := hOut.below hb4
        have hbZ := hb.trans (hb4.mono hb.size)
        have c4 := cell_on hb4 (Nat.lt_of_lt_of_le hbb hb.size) cz
        have hszW := hbZ.size
        have hbA := hbZ.alloc hbZ.size (.cells #[.slice B d c] 25)
        have hnw := heap_alloc_new w4 (.cells #[.slice B d c] 25)
        clear hC hOut hb hb4 cz HAR
        rcases hOut4 with ⟨rfl, rfl⟩ | hrow4
        · go_wp2_with (at_builtin; refine wpList_append_grows _ rfl _ _ 32 rfl 25 i0 (.slice none 0 0) 1 24 Try.underlying32 hi hz0 hz1 hz2 rfl (by decide) (some ⟨w.heap.size, 0, none⟩) 0 0 [] rfl (fun h => by cases h) rfl (fun b _ j u h => by simp at h) ⟨w4.heap.size, 0, none⟩ 1 1 [.slice B d c] rfl rfl ?c1 ?c2 (by omega) ?c3 ?c4 ?_)
          case c1 => exact World.news_of_block (cs := #[.slice B d c]) hnw
          case c2 => exact fun u hu => by rw [List.mem_singleton.1 hu]; rfl
          case c3 => unfold maxLen; omega
          case c4 => omega
          intro v' w5 hown1 hgrow
          have R1 := hbA.grown hgrow (by simp; omega) (fun z hz => by cases hz)
          have hOut5 : OutRow w.heap.size w5 w1.heap.size v' ([] ++ [.slice B d c]) := Or.inr ⟨hown1.1, hown1.2.imp id fun ⟨g, cp, cur, e, hg, r⟩ => ⟨g, cp, cur, e, by omega, r⟩⟩
          clear hown1 hgrow hbZ hbA hnw c4
          go_wp2
          go_roundw
          case rel => exact ⟨k + 1, _, by omega, by go_num, hOut5, by simp, HAR2, R1⟩
          case measure => simp [intOf]; omega
        · go_wp2_with (at_builtin; refine wpList_append_own _ rfl _ _ 32 rfl w1.heap.size 25 i0 (.slice none 0 0) 1 24 Try.underlying32 hi hz0 hz1 hz2 rfl (by decide) _ _ _ rfl (World.ownsRow.alloc hrow4 _) ⟨w4.heap.size, 0, none⟩ 1 1 [.slice B d c] rfl rfl ?c1 ?c2 ?c3 ?c4 ?c5 ?_)
          case c1 => exact World.news_of_block (cs := #[.slice B d c]) hnw
          case c2 => exact fun u hu => by rw [List.mem_singleton.1 hu]; rfl
          case c3 => unfold maxLen; omega
          case c4 => omega
          case c5 => simp; omega
          intro v' w5 hown1 hgrow _
          have R1 := hbA.grown hgrow (by simp; omega) (fun z hz => (World.ownsRow.lt hrow4 z hz).1)
          have hOut5 : OutRow w.heap.size w5 w1.heap.size v' (vo ++ [.slice B d c]) := Or.inr (by rw [List.length_append]; exact hown1)
          clear hown1 hgrow hbZ hbA hnw c4 hrow4
          go_wp2
          go_roundw
          case rel => exact ⟨k + 1, _, by omega, by go_num, hOut5, by simp; omega, HAR2, R1⟩
          case measure => simp [intOf]; omega
    · obtain rfl : k = m := by omega
      have HE : Hid (((FixedL x).take k).filter (fun s => leastTo s 4) = oneL x) := by
        show _ = _
        rw [List.take_of_length_le (by rw [HM.out]; exact Nat.le_refl _)]
        rfl
      rw [HE.out] at HAR
      have HV := Lib.hid HAR.out.1
      have hfin := Lib.hid (hbW.trans (hb.mono hbW.size))
      rcases hOut with ⟨rfl, rfl⟩ | hrow
      · have HZ : Hid (oneL x = []) := List.eq_nil_of_length_eq_zero HV.out.symm
        clear hF
        go_wp2
        go_ret
        rw [HZ.out]
        exact ⟨_, 0, rfl, ⟨ShapesAt.none_, Nat.le_refl _, Nat.zero_le _⟩, hfin.out⟩
      · obtain ⟨A9, c9, rfl, hr9, hm9, hc9⟩ := shapes_of_row hrow HV.out.symm (HAR.out.below hb)
        have HR9 := Lib.hid hr9
        clear hF hrow hr9
        go_wp2
        go_ret
        unfold SpecL
        rw [← HV.out]
        exact ⟨A9, c9, rfl, ⟨HR9.out, hm9, hc9⟩, hfin.out⟩
theorem specCountFree (x : Int) (w : World) (hx : (Lit.int .i64 x).wf = true) : Calls Try.prog 39 #[.int .i64 x] w fun e w' => e = .returned (.int .i64 (countL x)) ∧ Below w.heap.size w w' := by
  cases hb : inB x 1 5 with
  | false =>
    have HR : Hid ((-1 : Int) = countL x) := by show _ = _; unfold countL; rw [hb]; rfl
    have hc := l1In_eq hb w
    clear hb
    go_enter Try.func39, Try.ntmps39
    go_wp2_with fail
    refine hc.mono ?_
    rintro e w1 ⟨rfl, rfl⟩
    go_wp2
    go_ret
    exact ⟨ret_int HR.out, Below.refl _ _⟩
  | true =>
    have HR : Hid ((((freeL x).length : Nat) : Int) = countL x) := by show _ = _; unfold countL; rw [hb]; rfl
    have hc := l1In_eq hb w
    clear hb
    go_enter Try.func39, Try.ntmps39
    go_wp2_with fail
    refine hc.mono ?_
    rintro e w1 ⟨rfl, rfl⟩
    go_wp2_with fail
    refine (specFree x _ hx).mono ?_
    rintro e w2 ⟨A, cap, rfl, _, hb⟩
    go_wp2
    go_ret
    exact ⟨ret_int HR.out, hb⟩
end Go.Proofs.Ythhaojbnnacdbaa
