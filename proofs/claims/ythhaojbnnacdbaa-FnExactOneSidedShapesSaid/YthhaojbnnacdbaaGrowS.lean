/- FixedShapes, the reference's: contract. No condition. -/
import Derived.Test.YthhaojbnnacdbaaExtS
import Derived.Test.YthhaojbnnacdbaaGrowM
namespace Go.Proofs.Ythhaojbnnacdbaa
open Go.RowKit

set_option maxRecDepth 100000 in
set_option maxHeartbeats 3200000 in
theorem specFixed (x : Int) (w : World) (_ : (Lit.int .i64 x).wf = true) : Calls Try.prog 37 #[.int .i64 x] w (SpecL w (FixedL x)) := by
  obtain ⟨i0, hi, hz0, hz1, hz2⟩ := info_parts Try.infoL
  have hbE := below_alloc w (.cells #[] 25)
  cases hx : inB x 1 5 with
  | false =>
    have HR : Hid (FixedL x = []) := by show _ = _; unfold FixedL; rw [hx]; rfl
    have hc := l1In_eq hx (w.alloc (.cells #[] 25))
    clear hx
    go_enter Try.func37, Try.ntmps37
    go_wp2_with fail
    refine hc.mono ?_
    rintro e w1 ⟨rfl, rfl⟩
    go_wp2
    go_ret
    rw [HR.out]
    exact ⟨_, 0, rfl, ⟨ShapesAt.none_, Nat.le_refl _, Nat.zero_le _⟩, hbE⟩
  | true =>
    have hr : 1 ≤ x ∧ x ≤ 5 := by simpa [inB] using hx
    obtain ⟨n, rfl⟩ : ∃ n : Nat, x = n := ⟨x.toNat, by omega⟩
    have HR : Hid (FixedL n = fixL (n - 1)) := by show _ = _; unfold FixedL; rw [hx]; rfl
    have hc := l1In_eq hx (w.alloc (.cells #[] 25))
    clear hx
    go_enter Try.func37, Try.ntmps37
    go_wp2_with fail
    refine hc.mono ?_
    rintro e w1 ⟨rfl, rfl⟩
    have hO0 := own_emptyL w
    have z1 : Below w.heap.size w ((w.alloc (.cells #[] 25)).alloc (.cells #[.int .i64 0, .int .i64 0] 58)) := below2' _ _ _
    have hcell := (own_one (w.alloc (.cells #[] 25)) 0 0)
    rw [show (w.alloc (.cells #[] 25)).heap.size = w.heap.size + 1 by simp] at hcell
    clear hc
    go_wp2_with (at_builtin; refine wpList_append_own _ rfl _ _ 32 rfl w.heap.size 25 i0 (.slice none 0 0) 1 24 Try.underlying32 hi hz0 hz1 hz2 rfl (by decide) _ _ _ rfl ((hO0.alloc _).alloc _) ⟨w.heap.size + 2, 0, none⟩ 1 1 [.slice (some ⟨w.heap.size + 1, 0, none⟩) 1 1] rfl rfl ?c1 ?c2 ?c3 ?c4 ?c5 ?_)
    case c1 =>
      have := heap_alloc_new ((w.alloc (.cells #[] 25)).alloc (.cells #[.int .i64 0, .int .i64 0] 58)) (.cells #[.slice (some ⟨w.heap.size + 1, 0, none⟩) 1 1] 25)
      rw [show ((w.alloc (.cells #[] 25)).alloc (.cells #[.int .i64 0, .int .i64 0] 58)).heap.size = w.heap.size + 2 by simp] at this
      exact World.news_of_block (cs := #[.slice (some ⟨w.heap.size + 1, 0, none⟩) 1 1]) this
    case c2 => exact fun u hu => by rw [List.mem_singleton.1 hu]; rfl
    case c3 => unfold maxLen; omega
    case c4 => omega
    case c5 => simp; omega
    intro v' w3 hown hgrow _
    have hb3 := (z1.alloc z1.size (.cells #[.slice (some ⟨w.heap.size + 1, 0, none⟩) 1 1] 25)).grown hgrow (by simp; omega) (by intro z hz; simp [Value.ownBlock] at hz; omega)
    have hc3 : CellsAt w3 (some ⟨w.heap.size + 1, 0, none⟩) 1 [(0, 0)] := by
      have t := (hcell.below (below_alloc _ (.cells #[.slice (some ⟨w.heap.size + 1, 0, none⟩) 1 1] 25)))
      exact own_cells (own_beside t hgrow (Or.inr (by simp [Value.ownBlock])))
    obtain ⟨P0, c0, rfl, hr0, hpc0, hcm0⟩ := shapes_of_row (ls := [[(0, 0)]]) hown rfl ⟨rfl, fun j u cs e1 e2 => by
      have hj : j = 0 := by have := (List.getElem?_eq_some_iff.1 e1).1; simp at this; exact this
      subst hj
      simp at e1 e2
      subst e1 e2
      exact ⟨_, _, _, rfl, hc3⟩⟩
    clear hown hgrow hO0 z1 hcell hc3 hbE
    go_wp2
    go_loopw [3, 4] (fun v i wr => ∃ (k : Nat) (P : Option Addr) (m c : Nat), k < n ∧ i = .int .i64 ((k : Int) + 1) ∧ v = .slice P m c ∧ m = (fixL k).length ∧ ShapesAt wr P m (fixL k) ∧ m ≤ c ∧ c ≤ maxLen ∧ Below w.heap.size w wr) (fun _ i _ => n - (intOf i).toNat)
    case atStart => exact ⟨0, P0, 1, c0, by omega, rfl, rfl, rfl, hr0, hpc0, hcm0, hb3⟩
    case round =>
      clear hr0 hpc0 hcm0 hb3
      obtain ⟨k, P, m, c, hk, rfl, rfl, hm, hrd, hmc, hcm, hb⟩ := hrel
      have HM := Lib.hid hm
      by_cases hlt : k + 1 < n
      · have hki : (k : Int) + 1 < (n : Int) := by omega
        have hfl := fixL_len k (by omega)
        rw [← hm] at hfl
        clear hm
        rename World => wa
        have hbE := below_alloc wa (.cells #[] 25)
        go_wp2
        go_loopw [5, 6] (fun v i wz => ∃ (q : Nat) (P' : Option Addr) (m' c' : Nat), q ≤ m ∧ i = .int .i64 q ∧ v = .slice P' m' c' ∧ m' = (nextL ((fixL k).take q)).length ∧ ShapesAt wz P' m' (nextL ((fixL k).take q)) ∧ m' ≤ c' ∧ c' ≤ maxLen ∧ Below wa.heap.size wa wz) (fun _ i _ => m - (intOf i).toNat)
        case atStart => exact ⟨0, _, 0, 0, Nat.zero_le _, rfl, rfl, by rw [nextL_zero]; rfl, by rw [nextL_zero]; exact ShapesAt.none_, Nat.le_refl _, Nat.zero_le _, hbE⟩
        case round =>
          clear hbE
          obtain ⟨q, P', m', c', hq, rfl, rfl, hm', hrn, hmc', hcm', hba⟩ := hrel
          have HM' := Lib.hid hm'
          clear hm'
          by_cases hlq : q < m
          · have hqi : (q : Int) < (m : Int) := by omega
            obtain ⟨b, o, B, d, dc, t, rfl, hbb, HT, c1, rt⟩ := (hrd.below hba).at_ hlq
            obtain ⟨hst, hlt'⟩ := fixL_each k (by omega) t (List.mem_of_getElem? HT.out)
            have hdl : d ≤ 8 := by rw [← rt.1, hlt']; omega
            have hel : extL t = extC t := fixL_ext (by omega) (List.mem_of_getElem? HT.out)
            have hC := specExtensionsOf B d dc t wr (by omega) rt
            rw [hel] at hC
            have hel1 := extC_len t
            have hel2 : (extC t).length ≤ 20 := by omega
            have hnl := nextTake_len (k := k) (by omega) q
            clear hst hlt' hel hel1 rt
            go_wp2_with fail
            refine hC.mono ?_
            rintro e w1 ⟨Ae, ce, rfl, ⟨hE, _, _⟩, hbE⟩
            have hrn1 := hrn.below hbE
            have hba1 := hba.trans (hbE.mono hba.size)
            obtain ⟨n1, hn1⟩ : ∃ n1, n1 = (extC t).length := ⟨_, rfl⟩
            have HN1 := Lib.hid hn1
            rw [← hn1] at hE hel2 ⊢
            clear hC hrn hba hbE hn1 c1 hbb
            go_wp2
            go_loopw [5, 8] (fun v i wz => ∃ (j : Nat) (P' : Option Addr) (m' c' : Nat), j ≤ n1 ∧ i = .int .i64 j ∧ v = .slice P' m' c' ∧ m' = (growRow (nextL ((fixL k).take q)) ((extC t).take j)).length ∧ ShapesAt wz P' m' (growRow (nextL ((fixL k).take q)) ((extC t).take j)) ∧ m' ≤ c' ∧ c' ≤ maxLen ∧ Below wa.heap.size wa wz ∧ ShapesAt wz Ae n1 (extC t)) (fun _ i _ => n1 - (intOf i).toNat)
            case atStart => exact ⟨0, P', m', c', Nat.zero_le _, rfl, rfl, by rw [growRow_zero]; exact HM'.out, by rw [growRow_zero]; exact hrn1, hmc', hcm', hba1, hE⟩
            case round =>
              clear hrn1 hba1 hE HM' hmc' hcm'
              obtain ⟨j, P', m', c', hj, rfl, rfl, hm', hrn, hmc', hcm', hba, hE⟩ := hrel
              have HM' := Lib.hid hm'
              clear hm'
              by_cases hlj : j < n1
              · have hji : (j : Int) < (n1 : Int) := by omega
                obtain ⟨be, oe, Be, de, dce, u, rfl, hbb, HU, c1, ru⟩ := hE.at_ hlj
                have hu8 := extC_each t u (List.mem_of_getElem? HU.out)
                have hde : de ≤ 8 := by rw [← ru.1]; exact hu8
                have hgl := growRow_len ((extC t).take j) (nextL ((fixL k).take q))
                have hgl2 : m' ≤ 1000000 := by rw [HM'.out]; rw [List.length_take] at hgl; omega
                have hS := specPut P' m' c' _ Be de dce u wr hgl2 hmc' hcm' (nextTake_short q _ (fun z hz => extC_each t z (List.mem_of_mem_take hz))) (by omega) (growRow_sorted (nextL_sorted _) _) hrn ru
                rw [← growRow_next HU.out] at hS
                clear hrn ru hgl
                go_wp2_with fail
                refine hS.mono ?_
                rintro e w9 ⟨P9, c9, rfl, ⟨hr9, hm9, hc9⟩, hb9⟩
                have hbZ := hba.trans (hb9.mono hba.size)
                have hE9 := hE.below hb9
                have HX1 := Lib.hid hr9
                have HX2 := Lib.hid hm9
                clear hS hba hb9 hr9 hm9 hE c1 hbb
                go_wp2
                go_roundw
                case rel => exact ⟨j + 1, P9, _, c9, by omega, by go_num, rfl, rfl, HX1.out, HX2.out, hc9, hbZ, hE9⟩
                case measure => simp [intOf]; omega
              · obtain rfl : j = n1 := by omega
                have HN : Hid (growRow (nextL ((fixL k).take q)) ((extC t).take j) = nextL ((fixL k).take (q + 1))) := by
                  show _ = _
                  rw [show (extC t).take j = extC t from List.take_of_length_le (by rw [HN1.out]; exact Nat.le_refl _), ← nextL_next HT.out]
                rw [HN.out] at hrn HM'
                clear hE
                go_wp2
                go_roundw
                case rel => exact ⟨q + 1, P', m', c', by omega, by go_num, rfl, HM'.out, hrn, hmc', hcm', hba⟩
                case measure => simp [intOf]; omega
          · obtain rfl : q = m := by omega
            have HN : Hid (nextL ((fixL k).take q) = fixL (k + 1)) := by
              show _ = _
              rw [List.take_of_length_le (by rw [HM.out]; exact Nat.le_refl _)]
              rfl
            rw [HN.out] at hrn HM'
            have hbf := hb.trans (hba.mono hb.size)
            clear hrd hb hba
            go_wp2
            go_roundw
            case rel => exact ⟨k + 1, P', m', c', by omega, by go_num, rfl, HM'.out, hrn, hmc', hcm', hbf⟩
            case measure => simp [intOf]; omega
      · obtain rfl : n = k + 1 := by omega
        clear hm
        go_wp2
        go_ret
        rw [HR.out]
        unfold SpecL
        rw [show k + 1 - 1 = k from rfl, ← HM.out]
        exact ⟨P, c, rfl, ⟨hrd, hmc, hcm⟩, hb⟩
end Go.Proofs.Ythhaojbnnacdbaa
