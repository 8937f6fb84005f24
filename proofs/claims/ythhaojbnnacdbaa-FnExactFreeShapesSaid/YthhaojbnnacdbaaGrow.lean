/- FixedShapes, the program's: contracts. No condition. -/
import Derived.Test.YthhaojbnnacdbaaExt
import Derived.Test.YthhaojbnnacdbaaGrowM
namespace Go.Proofs.Ythhaojbnnacdbaa
open Go.RowKit

theorem ownV_one (w : World) (B : Nat) (hB : B = w.heap.size) : OwnV ((w.alloc (.cells #[.int .i64 0, .int .i64 0] 58)).alloc (.cells #[.slice (some ⟨B, 0, none⟩) 1 1] 25)) w.heap.size (.slice (some ⟨B + 1, 0, none⟩) 1 1) [.slice (some ⟨B, 0, none⟩) 1 1] [[(0, 0)]] := by
  subst hB
  have h1 := own_one w 0 0
  have h2 := h1.below (below_alloc (w.alloc (.cells #[.int .i64 0, .int .i64 0] 58)) (.cells #[.slice (some ⟨w.heap.size, 0, none⟩) 1 1] 25))
  have hb := heap_alloc_new (w.alloc (.cells #[.int .i64 0, .int .i64 0] 58)) (.cells #[.slice (some ⟨w.heap.size, 0, none⟩) 1 1] 25)
  rw [show (w.alloc (.cells #[.int .i64 0, .int .i64 0] 58)).heap.size = w.heap.size + 1 by simp] at hb
  refine ⟨⟨rfl, Or.inr ⟨w.heap.size + 1, 1, #[.slice (some ⟨w.heap.size, 0, none⟩) 1 1], rfl, by omega, hb, Nat.le_refl _, by unfold maxLen; omega, rfl, rfl⟩⟩, rfl, fun j u cs e1 e2 => ?_, List.pairwise_singleton _ _, fun u hu => ?_⟩
  · have hj : j = 0 := by have := (List.getElem?_eq_some_iff.1 e1).1; simp at this; exact this
    subst hj
    simp at e1 e2
    subst e1 e2
    exact h2
  · rw [List.mem_singleton.1 hu]
    exact Or.inr (by simp [Value.ownBlock])

set_option maxRecDepth 100000 in
set_option maxHeartbeats 3200000 in
theorem implGrown (n : Nat) (w : World) (h1 : 1 ≤ n) (h5 : n ≤ 5) :
    Calls Try.prog 91 #[.int .i64 n] w (ImplL w (fixL (n - 1))) := by
  have hO := ownV_one w w.heap.size rfl
  have hbO := below2' w (.cells #[.int .i64 0, .int .i64 0] 58) (.cells #[.slice (some ⟨w.heap.size, 0, none⟩) 1 1] 25)
  go_enter Try.func91, Try.ntmps91
  go_wp2
  go_loopw [3, 4] (fun v i wr => ∃ (k : Nat) (vs : List Value), k < n ∧ i = .int .i64 ((k : Int) + 1) ∧ OwnV wr w.heap.size v vs (fixL k) ∧ Below w.heap.size w wr) (fun _ i _ => n - (intOf i).toNat)
  case atStart => exact ⟨0, _, by omega, rfl, hO, hbO⟩
  case round =>
    clear hO hbO
    obtain ⟨k, vs, hk, rfl, hown, hb⟩ := hrel
    by_cases hlt : k + 1 < n
    · have hki : (k : Int) + 1 < (n : Int) := by omega
      have hfl := fixL_len k (by omega)
      obtain ⟨A, cap, rfl, _, _⟩ := hown.form
      obtain ⟨m, hm⟩ : ∃ m, m = (fixL k).length := ⟨_, rfl⟩
      have HM := Lib.hid hm
      have hown' : OwnV wr w.heap.size (.slice A m cap) vs (fixL k) := by rw [hm]; exact hown
      rw [← hm] at hfl ⊢
      clear hm hown
      rename World => wa
      go_wp2
      go_loopw [5, 20] (fun v i wz => ∃ (q : Nat) (vn : List Value), q ≤ m ∧ i = .int .i64 q ∧ OwnV wz wa.heap.size v vn (nextL ((fixL k).take q)) ∧ Below wa.heap.size wa wz) (fun _ i _ => m - (intOf i).toNat)
      case atStart => exact ⟨0, [], Nat.zero_le _, rfl, by rw [nextL_zero]; exact OwnV.nil _ _, Below.refl _ _⟩
      case round =>
        obtain ⟨q, vn, hq, rfl, hnx, hba⟩ := hrel
        by_cases hlq : q < m
        · have hqi : (q : Int) < (m : Int) := by omega
          have hql : q < (fixL k).length := by rw [← HM.out]; exact hlq
          have HT : Hid ((fixL k)[q]? = some (fixL k)[q]) := List.getElem?_eq_getElem hql
          obtain ⟨t, ht⟩ : ∃ t, t = (fixL k)[q] := ⟨_, rfl⟩
          rw [← ht] at HT
          clear ht
          obtain ⟨hst, hlt'⟩ := fixL_each k (by omega) t (List.mem_of_getElem? HT.out)
          have hownZ := hown'.below hba
          obtain ⟨g, cap', B, c, e1, _, c1, hOt⟩ := hownZ.cell HT.out
          rw [← HM.out] at e1
          injection e1 with e1 _ e2
          subst e1 e2
          have ht8 : t.length < 8 := by omega
          have HX := implExt B t.length c t wr hst ht8 (own_cells hOt)
          have hel := extC_len t
          have hel2 : (extC t).length ≤ 20 := by omega
          have hnl := nextTake_len (k := k) (by omega) q
          have HNL := Lib.hid hnx.lt
          have HNI := Lib.hid (fun u hu => hnx.lt_in (u := u) hu)
          have HBW := Lib.hid hba.size
          clear hownZ hOt hst hlt' hql hel
          go_wp2_with fail
          refine HX.mono ?_
          rintro e w1 ⟨ve, vse, rfl, hE, hbE⟩
          obtain ⟨Ae, ce, rfl, _, _⟩ := hE.form
          obtain ⟨n1, hn1⟩ : ∃ n1, n1 = (extC t).length := ⟨_, rfl⟩
          have HN1 := Lib.hid hn1
          have hE' : OwnV w1 wr.heap.size (.slice Ae n1 ce) vse (extC t) := by rw [hn1]; exact hE
          rw [← hn1] at hel2 ⊢
          have hnx1 := hnx.below hbE
          have hba1 := hba.trans (hbE.mono hba.size)
          have hFar : FarB u5 wr.heap.size w1.heap.size := fun z hz => Or.inl (HNL.out z hz).2
          have hIn : Hid (∀ x, x ∈ vn → (∀ z, x.ownBlock = some z → z < wr.heap.size) ∨ ∃ i, i < 0 ∧ vse[i]? = some x) := (show ∀ x, _ from fun x hx => Or.inl fun z hz => (HNI.out x hx z hz).2)
          obtain ⟨ws, hws⟩ : ∃ ws, ws = wr.heap.size := ⟨_, rfl⟩
          rw [← hws] at hE' hFar hIn
          have hwa : wa.heap.size ≤ ws := by rw [hws]; exact hba.size
          have hEL := Lib.hid hE'.lt
          have hELI := Lib.hid (fun u hu => hE'.lt_in (u := u) hu)
          have HEA := Lib.hid hE'.apart
          have hEO := Lib.hid hE'.off
          clear hn1 hE hnx hba hbE HX hws c1
          go_wp2
          go_loopw [5, 27] (fun v i wz => ∃ (j : Nat) (vn : List Value), j ≤ n1 ∧ i = .int .i64 j ∧ OwnV wz wa.heap.size v vn (growRow (nextL ((fixL k).take q)) ((extC t).take j)) ∧ Below wa.heap.size wa wz ∧ OwnV wz ws (.slice Ae n1 ce) vse (extC t) ∧ FarB v ws w1.heap.size ∧ w1.heap.size ≤ wz.heap.size ∧ Hid (∀ x, x ∈ vn → (∀ z, x.ownBlock = some z → z < ws) ∨ ∃ i, i < j ∧ vse[i]? = some x)) (fun _ i _ => n1 - (intOf i).toNat)
          case atStart => exact ⟨0, vn, Nat.zero_le _, rfl, by rw [growRow_zero]; exact hnx1, hba1, hE', hFar, Nat.le_refl _, hIn⟩
          case round =>
            clear hnx1 hba1 hE' hFar hIn
            obtain ⟨j, vn, hj, rfl, hnx, hba, hE, hFar, hsz, hIn⟩ := hrel
            by_cases hlj : j < n1
            · have hji : (j : Int) < (n1 : Int) := by omega
              have hjl : j < (extC t).length := by rw [← HN1.out]; exact hlj
              have HU : Hid ((extC t)[j]? = some (extC t)[j]) := List.getElem?_eq_getElem hjl
              obtain ⟨u, hu⟩ : ∃ u, u = (extC t)[j] := ⟨_, rfl⟩
              rw [← hu] at HU
              clear hu
              have hu8 := extC_each t u (List.mem_of_getElem? HU.out)
              obtain ⟨ge, cape, Be, ce', e1, hvj, d1, hOu⟩ := hE.cell HU.out
              rw [← HN1.out] at e1
              injection e1 with e1 _ e2
              subst e1 e2
              have HVJ := Lib.hid hvj
              have hvl := (List.getElem?_eq_some_iff.1 hvj).1
              have hve : Value.slice Be u.length ce' = vse[j] := (List.getElem?_eq_some_iff.1 hvj).2.symm
              have hap : ∀ x, x ∈ vn → x.ownBlock = none ∨ x.ownBlock ≠ (Value.slice Be u.length ce').ownBlock := by
                intro x hx
                rcases hIn.out x hx with h | ⟨i, hi, hxi⟩
                · cases hb : x.ownBlock with
                  | none => exact Or.inl rfl
                  | some z => exact Or.inr fun e => by have := h z hb; have := (hOu.lt z e.symm).1; omega
                · have hil := (List.getElem?_eq_some_iff.1 hxi).1
                  have hxe : x = vse[i] := (List.getElem?_eq_some_iff.1 hxi).2.symm
                  rw [hxe, hve]
                  exact List.pairwise_iff_getElem.1 HEA.out i j hil hvl hi
              have hof : (Value.slice Be u.length ce').ownBlock = none ∨ (Value.slice Be u.length ce').ownBlock ≠ u5.ownBlock := hFar.off hOu (fun z hz => by
                have := (hELI.out _ (List.mem_of_getElem? HVJ.out) z hz).2
                exact this)
              have hgl := growRow_len ((extC t).take j) (nextL ((fixL k).take q))
              have hgl2 : (growRow (nextL ((fixL k).take q)) ((extC t).take j)).length ≤ 1000000 := by rw [List.length_take] at hgl; omega
              have hP := implPut u5 vn _ Be u.length ce' u wa.heap.size wr hgl2 (nextTake_short q _ (fun z hz => extC_each t z (List.mem_of_mem_take hz))) (by omega) (growRow_sorted (nextL_sorted _) _) hba.size hnx (hOu.mono hwa) hap hof
              rw [← growRow_next HU.out] at hP
              have hEoff : ∀ z, u5.ownBlock = some z → z < ws ∨ w1.heap.size ≤ z := hFar
              have HL3 := Lib.hid hnx.lt
              clear hnx hOu hap hof hve hvj hgl hgl2 hjl hvl
              go_wp2_with fail
              refine hP.mono ?_
              rintro e w8 ⟨v8, vs8, rfl, hnx8, hg8, hv8, hin8⟩
              have hba8 := hba.grown hg8 hba.size (fun z hz => (HL3.out z hz).1)
              have hE8 : OwnV w8 ws (.slice (some ⟨ge, 0, none⟩) n1 ce) vse (extC t) := by
                refine hE.kept hg8 ?_ fun y hy => ?_
                · refine Or.inr fun e => ?_
                  have h1 := hFar ge e.symm
                  have h2 := hEL.out ge rfl
                  omega
                · cases hb : y.ownBlock with
                  | none => exact Or.inl rfl
                  | some z => exact Or.inr fun e => by have h1 := hFar z e.symm; have h2 := hELI.out y hy z hb; omega
              have hsz8 := Nat.le_trans hsz hg8.size
              have hFar8 : FarB v8 ws w1.heap.size := by
                rcases hv8 with e | ⟨q8, e, hq8⟩
                · intro z hz; rw [e] at hz; exact hFar z hz
                · intro z hz; rw [e] at hz; injection hz with hz; exact Or.inr (by omega)
              have hIn8 : Hid (∀ x, x ∈ vs8 → (∀ z, x.ownBlock = some z → z < ws) ∨ ∃ i, i < j + 1 ∧ vse[i]? = some x) := (show ∀ x, _ from fun x hx => by
                rcases hin8 x hx with hx | rfl
                · rcases hIn.out x hx with h | ⟨i, hi, hxi⟩
                  · exact Or.inl h
                  · exact Or.inr ⟨i, by omega, hxi⟩
                · exact Or.inr ⟨j, by omega, HVJ.out⟩)
              clear hP hba hE hFar hv8 hin8 hIn hg8 hEoff d1
              go_wp2
              go_roundw
              case rel => exact ⟨j + 1, vs8, by omega, by go_num, hnx8, hba8, hE8, hFar8, hsz8, hIn8⟩
              case measure => simp [intOf]; omega
            · obtain rfl : j = n1 := by omega
              have HN : Hid (growRow (nextL ((fixL k).take q)) ((extC t).take j) = nextL ((fixL k).take (q + 1))) := by
                show _ = _
                rw [show (extC t).take j = extC t from List.take_of_length_le (by rw [HN1.out]; exact Nat.le_refl _), ← nextL_next HT.out]
              rw [HN.out] at hnx
              clear hE hFar
              go_wp2
              go_roundw
              case rel => exact ⟨q + 1, vn, by omega, by go_num, hnx, hba⟩
              case measure => simp [intOf]; omega
        · obtain rfl : q = m := by omega
          have HN : Hid (nextL ((fixL k).take q) = fixL (k + 1)) := by
            show _ = _
            rw [List.take_of_length_le (by rw [HM.out]; exact Nat.le_refl _)]
            rfl
          rw [HN.out] at hnx
          have hfin := hnx.mono hb.size
          have hbf := hb.trans (hba.mono hb.size)
          clear hown' hnx hb hba
          go_wp2
          go_roundw
          case rel => exact ⟨k + 1, vn, by omega, by go_num, hfin, hbf⟩
          case measure => simp [intOf]; omega
    · obtain rfl : n = k + 1 := by omega
      go_wp2
      go_ret
      exact ⟨_, vs, rfl, hown, hb⟩
set_option maxHeartbeats 800000 in
theorem implFixed (x : Int) (w : World) (_ : (Lit.int .i64 x).wf = true) : Calls Try.prog 38 #[.int .i64 x] w (ImplL w (FixedL x)) := by
  cases hx : inB x 1 5 with
  | false =>
    have HR : Hid (FixedL x = []) := by show _ = _; unfold FixedL; rw [hx]; rfl
    have hc := between_eq hx w
    clear hx
    go_enter Try.func38, Try.ntmps38
    go_wp2_with fail
    refine hc.mono ?_
    rintro e w1 ⟨rfl, rfl⟩
    go_wp2
    go_ret
    rw [HR.out]
    exact ⟨_, _, rfl, OwnV.nil _ _, Below.refl _ _⟩
  | true =>
    have hr : 1 ≤ x ∧ x ≤ 5 := by simpa [inB] using hx
    obtain ⟨n, rfl⟩ : ∃ n : Nat, x = n := ⟨x.toNat, by omega⟩
    have HR : Hid (FixedL n = fixL (n - 1)) := by show _ = _; unfold FixedL; rw [hx]; rfl
    have hc := between_eq hx w
    clear hx
    go_enter Try.func38, Try.ntmps38
    go_wp2_with fail
    refine hc.mono ?_
    rintro e w1 ⟨rfl, rfl⟩
    go_wp2_with fail
    refine (implGrown n _ (by omega) (by omega)).mono ?_
    rintro e w2 ⟨v, vs, rfl, hO, hb⟩
    obtain ⟨A, cap, rfl, _, _⟩ := hO.form
    go_wp2
    go_ret
    rw [HR.out]
    exact ⟨_, vs, rfl, hO, hb⟩
end Go.Proofs.Ythhaojbnnacdbaa
