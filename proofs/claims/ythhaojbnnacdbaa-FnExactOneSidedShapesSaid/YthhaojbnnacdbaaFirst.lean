/- FreeShapes, OneSidedShapes, CountFree, the program's: contracts. No condition. -/
import Derived.Test.YthhaojbnnacdbaaGrow
namespace Go.Proofs.Ythhaojbnnacdbaa
open Go.RowKit

theorem least_step {s : List C} {k : Nat} (h : leastTo s k = true) : leastTo s (k + 1) = decide (0 ≤ cmpC (turnC s k) s) := by show (leastTo s k && _) = _; rw [h]; rfl
theorem least_gone {s : List C} {k : Nat} (h : leastTo s k = false) : leastTo s (k + 1) = false := by show (leastTo s k && _) = _; rw [h]; rfl
theorem least_flip (s t : List C) : (0 ≤ cmpC t s) ↔ (cmpC s t ≤ 0) := by rw [cmpC_anti s t]; omega
/-- a row that holds some of the rows of an owned list, in their order -/
structure SomeOf (w : World) (base : Nat) (v : Value) (vo : List Value) (lo : L2) (vs : List Value) (ls : L2) : Prop where
  row : w.ownsRow base 25 1 v vo.length vo
  len : vo.length = lo.length
  sub : vo.Sublist vs
  each : ∀ (j : Nat) (u : Value) (cs : List C), vo[j]? = some u → lo[j]? = some cs → ∃ i : Nat, vs[i]? = some u ∧ ls[i]? = some cs
theorem SomeOf.own {w : World} {base b0 : Nat} {v x : Value} {vo vs : List Value} {lo ls : L2} (h : SomeOf w base v vo lo vs ls) (hb : b0 ≤ base) (hO : OwnV w b0 x vs ls) (hlt : ∀ u, u ∈ vs → ∀ k, u.ownBlock = some k → k < base) : OwnV w b0 v vo lo := by
  refine ⟨⟨h.row.1, h.row.2.imp id fun ⟨g, cap, cur, e, hg, r⟩ => ⟨g, cap, cur, e, Nat.le_trans hb hg, r⟩⟩, h.len, fun j u cs e1 e2 => ?_, hO.apart.sublist h.sub, fun u hu => ?_⟩
  · obtain ⟨i, h1, h2⟩ := h.each j u cs e1 e2
    exact hO.each i u cs h1 h2
  · cases hk : u.ownBlock with
    | none => exact Or.inl rfl
    | some k => exact Or.inr fun e => by have := hlt u (h.sub.subset hu) k hk; have := (World.ownsRow.lt h.row k e.symm).1; omega
theorem SomeOf.below {w w' : World} {base : Nat} {v : Value} {vo vs : List Value} {lo ls : L2} (h : SomeOf w base v vo lo vs ls) (hb : Below w.heap.size w w') : SomeOf w' base v vo lo vs ls :=
  ⟨row_belowS h.row hb, h.len, h.sub, h.each⟩
theorem SomeOf.snoc {w : World} {base k : Nat} {v u : Value} {vo vs : List Value} {lo ls : L2} {cs : List C} (h1 : vo.length = lo.length) (h2 : vo.Sublist (vs.take k)) (h3 : ∀ (j : Nat) (u : Value) (cs : List C), vo[j]? = some u → lo[j]? = some cs → ∃ i : Nat, vs[i]? = some u ∧ ls[i]? = some cs)
    (hu : vs[k]? = some u) (hc : ls[k]? = some cs) (hrow : w.ownsRow base 25 1 v (vo.length + 1) (vo ++ [u])) : SomeOf w base v (vo ++ [u]) (lo ++ [cs]) vs ls ∧ (vo ++ [u]).Sublist (vs.take (k + 1)) := by
  have hs : (vo ++ [u]).Sublist (vs.take (k + 1)) := by rw [take_next hu]; exact h2.append (List.Sublist.refl _)
  refine ⟨⟨by rw [List.length_append]; exact hrow, by simp [h1], hs.trans (List.take_sublist _ _), fun j x ds e1 e2 => ?_⟩, hs⟩
  by_cases hj : j < vo.length
  · rw [List.getElem?_append_left hj] at e1
    rw [List.getElem?_append_left (by omega)] at e2
    exact h3 j x ds e1 e2
  · rw [List.getElem?_append_right (by omega)] at e1
    rw [List.getElem?_append_right (by omega)] at e2
    have hj0 : j - vo.length = 0 := by have := (List.getElem?_eq_some_iff.1 e1).1; simp at this; omega
    rw [hj0] at e1
    rw [show j - lo.length = 0 by omega] at e2
    simp at e1 e2
    subst e1 e2
    exact ⟨k, hu, hc⟩

set_option maxRecDepth 100000 in
set_option maxHeartbeats 3200000 in
theorem implFirstOf (x : Int) (M : Nat) (w : World) (hx : (Lit.int .i64 x).wf = true) (hM : M ≤ 8) :
    Calls Try.prog 93 #[.int .i64 x, .int .i64 M] w (ImplL w (firstL x M)) := by
  obtain ⟨i0, hi, hz0, hz1, hz2⟩ := info_parts Try.infoL
  go_enter Try.func93, Try.ntmps93
  go_wp2_with fail
  refine (implFixed x w hx).mono ?_
  rintro e w1 ⟨vF, vs, rfl, hF, hb0⟩
  obtain ⟨A, cap, rfl, _, _⟩ := hF.form
  obtain ⟨m, hm⟩ : ∃ m, m = (FixedL x).length := ⟨_, rfl⟩
  have HM := Lib.hid hm
  have hmn := FixedL_len x
  have hF' : OwnV w1 w.heap.size (.slice A m cap) vs (FixedL x) := by rw [hm]; exact hF
  rw [← hm] at hmn ⊢
  have HLT := Lib.hid (fun u hu k hk => (hF'.lt_in (u := u) hu k hk).2)
  clear hm hF
  go_wp2
  go_loopw [5, 13] (fun v i wr => ∃ (k : Nat) (vo : List Value), k ≤ m ∧ i = .int .i64 k ∧ SomeOf wr w1.heap.size v vo (((FixedL x).take k).filter fun s => leastTo s M) vs (FixedL x) ∧ Hid (vo.Sublist (vs.take k)) ∧ Below w1.heap.size w1 wr) (fun _ i _ => m - (intOf i).toNat)
  case atStart => exact ⟨0, [], Nat.zero_le _, rfl, ⟨World.ownsRow_nil _ _ _ _, rfl, List.nil_sublist _, fun j u cs h => by simp at h⟩, List.nil_sublist _, Below.refl _ _⟩
  case round =>
    obtain ⟨k, vo, hk, rfl, hS, HSub, hb⟩ := hrel
    by_cases hlt : k < m
    · have hki : (k : Int) < (m : Int) := by omega
      have hkl : k < (FixedL x).length := by rw [← HM.out]; exact hlt
      have HT : Hid ((FixedL x)[k]? = some (FixedL x)[k]) := List.getElem?_eq_getElem hkl
      obtain ⟨t, ht⟩ : ∃ t, t = (FixedL x)[k] := ⟨_, rfl⟩
      rw [← ht] at HT
      clear ht
      have HST := Lib.hid (FixedL_each (List.mem_of_getElem? HT.out))
      have htl := shape_len HST.out
      obtain ⟨g, cap', B, c, e1, hvk, c1, hOt⟩ := (hF'.below hb).cell HT.out
      rw [← HM.out] at e1
      injection e1 with e1 _ e2
      subst e1 e2
      have HVK := Lib.hid hvk
      have rt := own_cells hOt
      have hvo : vo.length ≤ 6144 := by
        have h1 := HSub.out.length_le
        rw [List.length_take] at h1
        omega
      clear hvk hOt hkl
      rename World => wa
      go_wp2
      go_loopw [8, 18] (fun f i wz => ∃ j : Nat, j ≤ M ∧ i = .int .i64 j ∧ f = .bool (leastTo t j) ∧ Below wa.heap.size wa wz) (fun _ i _ => M - (intOf i).toNat)
      case atStart => exact ⟨0, Nat.zero_le _, rfl, rfl, Below.refl _ _⟩
      case round =>
        obtain ⟨j, hj, rfl, rfl, hbz⟩ := hrel
        by_cases hjM : j < M
        · have hji : (j : Int) < (M : Int) := by omega
          cases hL : leastTo t j with
          | false =>
            have HN : Hid (leastTo t (j + 1) = false) := least_gone hL
            clear hL c1 rt
            go_wp2
            go_roundw
            case rel => exact ⟨j + 1, by omega, by go_num, by rw [HN.out], hbz⟩
            case measure => simp [intOf]; omega
          | true =>
            have HN : Hid (leastTo t (j + 1) = decide (0 ≤ cmpC (turnC t j) t)) := least_step hL
            have hl2 := (shape_len (turn_shape HST.out j)).2
            have rt2 := rt.below hbz
            clear hL
            go_wp2_with fail
            refine (implTurned B t.length c t j wr (by omega) (sorts_small _ (by omega)) htl.1 (shape_smallL HST.out) (by omega) rt2).mono ?_
            rintro e w3 ⟨v3, rfl, hO3, hb3⟩
            obtain ⟨D, cd, rfl, rd, _⟩ := hO3.form
            have hbz3 := hbz.trans (hb3.mono hbz.size)
            have hC := implCompareShapes B D t.length _ c cd t (turnC t j) w3 (by omega) (by omega) (rt2.below hb3) rd
            obtain ⟨z, hz⟩ : ∃ z, z = cmpC t (turnC t j) := ⟨_, rfl⟩
            unfold CmpPost at hC
            rw [← hz] at hC
            have HZ : Hid (decide (z ≤ 0) = leastTo t (j + 1)) := by
              show _ = _
              rw [HN.out, hz]
              exact decide_eq_decide.2 (least_flip t (turnC t j)).symm
            clear hO3 hb3 rd hbz rt2 hz HN
            go_wp2_with fail
            refine hC.mono ?_
            rintro e w4 ⟨rfl, hb4⟩
            have hbz4 := hbz3.trans (hb4.mono hbz3.size)
            clear hC hbz3 hb4
            go_wp2
            go_roundw
            case rel => exact ⟨j + 1, by omega, by go_num, by rw [← HZ.out], hbz4⟩
            case measure => simp [intOf]; omega
        · obtain rfl : j = M := by omega
          have hS' := hS.below hbz
          have hbW := hb.trans (hbz.mono hb.size)
          have h1 := hS'.len
          have HL1 := Lib.hid h1
          have hrow := hS'.row
          have HE := Lib.hid hS'.each
          cases hL : leastTo t j with
          | false =>
            have HN : Hid (((FixedL x).take (k + 1)).filter (fun s => leastTo s j) = ((FixedL x).take k).filter fun s => leastTo s j) := firstL_no HT.out hL
            rw [← HN.out] at hS'
            have HSub2 : Hid (vo.Sublist (vs.take (k + 1))) := by
              show List.Sublist _ _
              rw [take_next HVK.out]
              exact HSub.out.trans (List.sublist_append_left _ _)
            clear hL hS hb hbz h1 hrow c1 rt
            go_wp2
            go_roundw
            case rel => exact ⟨k + 1, vo, by omega, by go_num, hS', HSub2, hbW⟩
            case measure => simp [intOf]; omega
          | true =>
            have HN : Hid (((FixedL x).take (k + 1)).filter (fun s => leastTo s j) = ((FixedL x).take k).filter (fun s => leastTo s j) ++ [t]) := firstL_yes HT.out hL
            have hszW := hbW.size
            clear hL hS hb hbz h1 hS' c1 rt
            go_wp2_with (at_builtin; refine wpList_append_own _ rfl _ _ 32 rfl w1.heap.size 25 i0 (.slice none 0 0) 1 24 Try.underlying32 hi hz0 hz1 hz2 rfl (by decide) _ _ _ rfl (World.ownsRow.alloc hrow _) ⟨wr.heap.size, 0, none⟩ 1 1 [.slice B t.length c] rfl rfl ?c1 ?c2 ?c3 ?c4 ?c5 ?_)
            case c1 => exact World.news_of_block (cs := #[.slice B t.length c]) (heap_alloc_new wr _)
            case c2 => exact fun u hu => by rw [List.mem_singleton.1 hu]; rfl
            case c3 => unfold maxLen; omega
            case c4 => omega
            case c5 => simp; omega
            intro v' w3 hown1 hgrow _
            have R1 := (hbW.alloc hbW.size (.cells #[.slice B t.length c] 25)).grown hgrow (by simp; omega) (fun z hz => (World.ownsRow.lt hrow z hz).1)
            obtain ⟨hS3, HSub3⟩ := SomeOf.snoc HL1.out HSub.out HE.out HVK.out HT.out hown1
            rw [← HN.out] at hS3
            have HSub3 := Lib.hid HSub3
            clear hown1 hgrow hrow hbW
            go_wp2
            go_roundw
            case rel => exact ⟨k + 1, _, by omega, by go_num, hS3, HSub3, R1⟩
            case measure => simp [intOf]; omega
    · obtain rfl : k = m := by omega
      have HE : Hid (((FixedL x).take k).filter (fun s => leastTo s M) = firstL x M) := by
        show _ = _
        rw [List.take_of_length_le (by rw [HM.out]; exact Nat.le_refl _)]
        rfl
      rw [HE.out] at hS
      have hO := hS.own hb0.size (hF'.below hb) (fun u hu z hz => HLT.out u hu z hz)
      obtain ⟨A9, c9, e9, _, _⟩ := hO.form
      go_wp2
      go_ret
      exact ⟨_, vo, rfl, hO, hb0.trans (hb.mono hb0.size)⟩
theorem implFree (x : Int) (w : World) (hx : (Lit.int .i64 x).wf = true) : Calls Try.prog 42 #[.int .i64 x] w (ImplL w (freeL x)) := by
  go_enter Try.func42, Try.ntmps42
  go_wp2_with fail
  refine (implFirstOf x 8 w hx (by omega)).mono ?_
  rintro e w1 ⟨v, vs, rfl, hO, hb⟩
  obtain ⟨A, cap, rfl, _, _⟩ := hO.form
  go_wp2
  go_ret
  exact ⟨_, vs, rfl, hO, hb⟩
theorem implOneSided (x : Int) (w : World) (hx : (Lit.int .i64 x).wf = true) : Calls Try.prog 44 #[.int .i64 x] w (ImplL w (oneL x)) := by
  go_enter Try.func44, Try.ntmps44
  go_wp2_with fail
  refine (implFirstOf x 4 w hx (by omega)).mono ?_
  rintro e w1 ⟨v, vs, rfl, hO, hb⟩
  obtain ⟨A, cap, rfl, _, _⟩ := hO.form
  go_wp2
  go_ret
  exact ⟨_, vs, rfl, hO, hb⟩
theorem implCountFree (x : Int) (w : World) (hx : (Lit.int .i64 x).wf = true) : Calls Try.prog 40 #[.int .i64 x] w fun e w' => e = .returned (.int .i64 (countL x)) ∧ Below w.heap.size w w' := by
  cases hb : inB x 1 5 with
  | false =>
    have HR : Hid ((-1 : Int) = countL x) := by show _ = _; unfold countL; rw [hb]; rfl
    have hc := between_eq hb w
    clear hb
    go_enter Try.func40, Try.ntmps40
    go_wp2_with fail
    refine hc.mono ?_
    rintro e w1 ⟨rfl, rfl⟩
    go_wp2
    go_ret
    exact ⟨ret_int HR.out, Below.refl _ _⟩
  | true =>
    have HR : Hid ((((freeL x).length : Nat) : Int) = countL x) := by show _ = _; unfold countL; rw [hb]; rfl
    have hc := between_eq hb w
    clear hb
    go_enter Try.func40, Try.ntmps40
    go_wp2_with fail
    refine hc.mono ?_
    rintro e w1 ⟨rfl, rfl⟩
    go_wp2_with fail
    refine (implFree x _ hx).mono ?_
    rintro e w2 ⟨v, vs, rfl, hO, hb⟩
    obtain ⟨A, cap, rfl, _, _⟩ := hO.form
    go_wp2
    go_ret
    exact ⟨ret_int HR.out, hb⟩
end Go.Proofs.Ythhaojbnnacdbaa
