/- ExtensionsOf, the program's and the reference's: contracts. Condition: slices of at most 2^20 cells. -/
import Derived.Test.YthhaojbnnacdbaaExt
import Derived.BigRegion
namespace Go.Proofs.Ythhaojbnnacdbaa
open Go.RowKit

set_option maxHeartbeats 800000 in
theorem implExtensionsOf (A : Option Addr) (n cap : Nat) (cs : List C) (w : World) (hn : n ≤ 1048576) (h : CellsAt w A n cs) :
    Calls Try.prog 34 #[.slice A n cap] w (ImplL w (extL cs)) := by
  have hc := implIsShape A n cap cs w hn h
  have hl := h.1
  cases hs : isShape cs with
  | false =>
    have HR : Hid (extL cs = []) := by show _ = _; unfold extL; rw [hs]; rfl
    rw [hs] at hc
    clear hs hl
    go_enter Try.func34, Try.ntmps34
    go_wp2_with fail
    refine hc.mono ?_
    rintro e w1 ⟨rfl, hb⟩
    go_wp2
    go_ret
    rw [HR.out]
    exact ⟨_, _, rfl, OwnV.nil _ _, hb⟩
  | true =>
    rw [hs] at hc
    by_cases h8 : n < 8
    · have HR : Hid (extL cs = extC cs) := by show _ = _; unfold extL; rw [hs, hl, decide_eq_true h8]; rfl
      have HS := Lib.hid hs
      have h8i : (n : Int) < 8 := by omega
      clear hs hl
      go_enter Try.func34, Try.ntmps34
      go_wp2_with fail
      refine hc.mono ?_
      rintro e w1 ⟨rfl, hb⟩
      go_wp2_with fail
      refine (implExt A n cap cs w1 HS.out h8 (h.below hb)).mono ?_
      rintro e w2 ⟨v, vs, rfl, hO, hb2⟩
      obtain ⟨A2, c2, rfl, _, _⟩ := hO.form
      go_wp2
      go_ret
      rw [HR.out]
      exact ⟨_, vs, rfl, hO.mono hb.size, hb.trans (hb2.mono hb.size)⟩
    · have HR : Hid (extL cs = []) := by show _ = _; unfold extL; rw [hs, hl, decide_eq_false h8]; rfl
      have h8i : (8 : Int) ≤ (n : Int) := by omega
      clear hs hl
      go_enter Try.func34, Try.ntmps34
      go_wp2_with fail
      refine hc.mono ?_
      rintro e w1 ⟨rfl, hb⟩
      go_wp2
      go_ret
      rw [HR.out]
      exact ⟨_, _, rfl, OwnV.nil _ _, hb⟩

set_option maxRecDepth 100000 in
set_option maxHeartbeats 3200000 in
theorem specExtensionsOf (A : Option Addr) (n cap : Nat) (cs : List C) (w : World) (hn : n ≤ 1048576) (h : CellsAt w A n cs) :
    Calls Try.prog 33 #[.slice A n cap] w (SpecL w (extL cs)) := by
  obtain ⟨i0, hi, hz0, hz1, hz2⟩ := info_parts Try.infoC
  have hbE := below_alloc w (.cells #[] 25)
  have hc := specIsShape A n cap cs (w.alloc (.cells #[] 25)) hn (h.below hbE)
  have hl := h.1
  cases hs : isShape cs with
  | false =>
    have HR : Hid (extL cs = []) := by show _ = _; unfold extL; rw [hs]; rfl
    rw [hs] at hc
    clear hs hl
    go_enter Try.func33, Try.ntmps33
    go_wp2_with fail
    refine hc.mono ?_
    rintro e w1 ⟨rfl, hb⟩
    go_wp2
    go_ret
    rw [HR.out]
    exact ⟨_, 0, rfl, ⟨ShapesAt.none_, Nat.le_refl _, Nat.zero_le _⟩, hbE.trans (hb.mono hbE.size)⟩
  | true =>
    have hl8 := (shape_len hs).2
    rw [hs] at hc
    by_cases h8 : n = 8
    · have HR : Hid (extL cs = []) := by show _ = _; unfold extL; rw [hs, hl, decide_eq_false (by omega)]; rfl
      have h8i : ((n : Int) == 8) = true := by simp; omega
      have HH := Lib.hid h8
      clear hs hl h8 hl8
      go_enter Try.func33, Try.ntmps33
      go_wp2_with fail
      refine hc.mono ?_
      rintro e w1 ⟨rfl, hb⟩
      go_wp2
      go_ret
      rw [HR.out]
      exact ⟨_, 0, rfl, ⟨ShapesAt.none_, Nat.le_refl _, Nat.zero_le _⟩, hbE.trans (hb.mono hbE.size)⟩
    · have HR : Hid (extL cs = extTo cs (cs.flatMap sidesR)) := by show _ = _; unfold extL; rw [extC_ref, hs, hl, decide_eq_true (by omega)]; rfl
      have h8i : ((n : Int) == 8) = false := by simp; omega
      have hn7 : n ≤ 7 := by omega
      have HL := Lib.hid hl
      have HS := Lib.hid hs
      clear hs hl h8 hl8
      go_enter Try.func33, Try.ntmps33
      go_wp2_with fail
      refine hc.mono ?_
      rintro e w1 ⟨rfl, hb0⟩
      replace hb0 := hbE.trans (hb0.mono hbE.size)
      clear hc hbE
      go_wp2
      go_loopw [3, 4] (fun v i wr => ∃ (k : Nat) (P : Option Addr) (m c : Nat), k ≤ n ∧ i = .int .i64 k ∧ v = .slice P m c ∧ m = (extTo cs ((cs.take k).flatMap sidesR)).length ∧ ShapesAt wr P m (extTo cs ((cs.take k).flatMap sidesR)) ∧ m ≤ c ∧ c ≤ maxLen ∧ Below w.heap.size w wr) (fun _ i _ => n - (intOf i).toNat)
      case atStart => exact ⟨0, _, 0, 0, Nat.zero_le _, rfl, rfl, rfl, ShapesAt.none_, Nat.le_refl _, Nat.zero_le _, hb0⟩
      case round =>
        clear hb0
        obtain ⟨k, P, m, c, hk, rfl, rfl, hm, hr, hmc, hcm, hb⟩ := hrel
        have HM := Lib.hid hm
        by_cases hlt : k < n
        · obtain ⟨b, o, p, q, rfl, hbl, HK, c1, c2⟩ := (h.below hb).at_ hlt
          have hsP := shape_cell HS.out HK.out
          have HX0 : Hid (extTo cs ((cs.take k).flatMap sidesR ++ (sidesR (p, q)).take 0) = extTo cs ((cs.take k).flatMap sidesR)) := by show _ = _; rw [List.take_zero, List.append_nil]
          have hk' : k ≤ 6 := by omega
          clear hm c1 c2 hbl
          go_wp2
          go_loopw [3, 5] (fun v i wr => ∃ (j : Nat) (P : Option Addr) (m c : Nat), j ≤ 4 ∧ i = .int .i64 j ∧ v = .slice P m c ∧ m = (extTo cs ((cs.take k).flatMap sidesR ++ (sidesR (p, q)).take j)).length ∧ ShapesAt wr P m (extTo cs ((cs.take k).flatMap sidesR ++ (sidesR (p, q)).take j)) ∧ m ≤ c ∧ c ≤ maxLen ∧ Below w.heap.size w wr) (fun _ i _ => 4 - (intOf i).toNat)
          case atStart => exact ⟨0, P, m, c, Nat.zero_le _, rfl, rfl, by rw [HX0.out]; exact HM.out, by rw [HX0.out]; exact hr, hmc, hcm, hb⟩
          case round =>
            clear hr hb HM hmc hcm
            obtain ⟨j, P, m, c, hj, rfl, rfl, hm, hr, hmc, hcm, hb⟩ := hrel
            have HM := Lib.hid hm
            clear hm
            by_cases hj4 : j < 4
            · obtain ⟨b', o', p', q', e', hbl, HK', c1, c2⟩ := (h.below hb).at_ hlt
              injection e' with e'
              injection e' with e1' e2'
              subst e1' e2'
              have e3 := HK.out.symm.trans HK'.out
              injection e3 with e3
              injection e3 with e3 e4
              subst e3 e4
              obtain ⟨z1, z2, z3, z4⟩ := hsP
              obtain ⟨dx, dy, x1, x2, y1, y2, t1, t2, hX⟩ := sideR_at p q hj4
              have hj4i : (j : Int) < 4 := by omega
              obtain ⟨x, hx⟩ : ∃ x, x = p + dx := ⟨_, rfl⟩
              obtain ⟨y, hy⟩ : ∃ y, y = q + dy := ⟨_, rfl⟩
              rw [← hx, ← hy] at hX
              have HX := Lib.hid hX
              have sX : smallC (x, y) := ⟨by simp only; omega, by simp only; omega, by simp only; omega, by simp only; omega⟩
              have W1 : wrap64 (p + dx) = x := by rw [hx]; exact IntWalk.wrap64_in _ ⟨by omega, by omega⟩
              have W2 : wrap64 (q + dy) = y := by rw [hy]; exact IntWalk.wrap64_in _ ⟨by omega, by omega⟩
              have V1 : IntKind.i64.wrap (p + dx) = x := by rw [IntKind.wrap_i64]; omega
              have V2 : IntKind.i64.wrap (q + dy) = y := by rw [IntKind.wrap_i64]; omega
              have V3 : IntKind.i64.wrap (1 - (j : Int)) = 1 - (j : Int) := by rw [IntKind.wrap_i64]; omega
              have V4 : IntKind.i64.wrap (2 - (j : Int)) = 2 - (j : Int) := by rw [IntKind.wrap_i64]; omega
              have hki : (k : Int) < (n : Int) := by omega
              have hk0 : (0 : Int) ≤ (k : Int) := by omega
              clear hx hy hX z1 z2 z3 z4 HK'
              go_wp2
              go_region
              have hbX := (hb.trans ((below_alloc wr (.cells #[.int .i64 x, .int .i64 y] 58)).mono hb.size)).drew
              have hX8 := hr.below (below_alloc wr (.cells #[.int .i64 x, .int .i64 y] 58)).drew
              have hltx : wr.heap.size < (wr.alloc (.cells #[.int .i64 x, .int .i64 y] 58)).drew.heap.size := by show _ < (wr.alloc _).heap.size; simp
              have e0 : (wr.alloc (.cells #[.int .i64 x, .int .i64 y] 58)).drew.cell? ⟨wr.heap.size, 0, none⟩ = some (.int .i64 x) := by show (wr.alloc _).cell? _ = _; simp
              have e1 : (wr.alloc (.cells #[.int .i64 x, .int .i64 y] 58)).drew.cell? ⟨wr.heap.size, 1, none⟩ = some (.int .i64 y) := by show (wr.alloc _).cell? _ = _; simp
              obtain ⟨wx, hwx⟩ : ∃ wx, wx = (wr.alloc (.cells #[.int .i64 x, .int .i64 y] 58)).drew := ⟨_, rfl⟩
              rw [← hwx] at hbX hX8 hltx e0 e1 ⊢
              have HWX := Lib.hid hwx
              clear hwx hb hr c1 c2 W1 W2 V1 V2 V3 V4 t1 t2 hbl
              have hx := h.below hbX
              have C1 := specHasCell (some ⟨b, o, none⟩) n cap cs x y wx (by omega) hx
              have hln1 := extTo_len cs ((cs.take k).flatMap sidesR ++ (sidesR (p, q)).take j)
              have hln : (extTo cs ((cs.take k).flatMap sidesR ++ (sidesR (p, q)).take j)).length ≤ 1000 := by
                rw [List.length_append, flat_sidesR_len, List.length_take, List.length_take, show (sidesR (p, q)).length = 4 from rfl] at hln1
                omega
              have hsn : extTo cs ((cs.take k).flatMap sidesR ++ (sidesR (p, q)).take (j + 1)) = extStep cs (extTo cs ((cs.take k).flatMap sidesR ++ (sidesR (p, q)).take j)) (x, y) := by
                rw [take_next HX.out, ← List.append_assoc, extTo_snoc]
              have HSN := Lib.hid hsn
              clear hln1 hsn
              cases hv : memC cs x y with
              | true =>
                rw [hv] at C1
                have HN : Hid (extTo cs ((cs.take k).flatMap sidesR ++ (sidesR (p, q)).take (j + 1)) = extTo cs ((cs.take k).flatMap sidesR ++ (sidesR (p, q)).take j)) := by show _ = _; rw [HSN.out]; exact extStep_in _ hv
                rw [← HN.out] at hX8 HM
                clear hv hx h
                go_wp2_with fail
                refine C1.mono ?_
                rintro e y1 ⟨rfl, rfl⟩
                go_wp2
                go_roundw
                case rel => exact ⟨j + 1, P, m, c, by omega, by go_num, rfl, HM.out, hX8, hmc, hcm, hbX⟩
                case measure => simp [intOf]; omega
              | false =>
                rw [hv] at C1
                have HV := Lib.hid hv
                clear hv
                go_wp2_with fail
                refine C1.mono ?_
                rintro e y1 ⟨rfl, rfl⟩
                have SM := Lib.hid (smallL_add (shape_smallL HS.out) sX)
                have hcl : cs.length ≤ 7 := by rw [HL.out]; omega
                have HAD : Hid (cornerC (sortC (cs ++ [(x, y)])) = addC cs (x, y)) := rfl
                have hO0 := own_empty wx
                have zA := (below_alloc wx (.cells #[] 58))
                have zAX := zA.alloc zA.size (.cells #[.int .i64 x, .int .i64 y] 58)
                have zX := (below_alloc wx (.cells #[.int .i64 x, .int .i64 y] 58))
                have zXA := zX.alloc zX.size (.cells #[] 58)
                have hO1 := (own_empty (wx.alloc (.cells #[.int .i64 x, .int .i64 y] 58))).mono (base' := wx.heap.size) (by simp)
                rw [show (wx.alloc (.cells #[.int .i64 x, .int .i64 y] 58)).heap.size = wx.heap.size + 1 by simp] at hO1
                have hn1 := heap_alloc_new (wx.alloc (.cells #[] 58)) (.cells #[.int .i64 x, .int .i64 y] 58)
                rw [show (wx.alloc (.cells #[] 58)).heap.size = wx.heap.size + 1 by simp] at hn1
                have hn2 : ((wx.alloc (.cells #[.int .i64 x, .int .i64 y] 58)).alloc (.cells #[] 58)).heap[wx.heap.size]? = some (.cells #[.int .i64 x, .int .i64 y] 58 (0, 0)) := (Below.heap_alloc _ _ _ (by simp)).trans (heap_alloc_new wx _)
                have a0 := cell_on zA hltx e0
                have a1 := cell_on zA hltx e1
                have a2 := cell_on zAX hltx e0
                have a3 := cell_on zAX hltx e1
                have a4 := cell_on zX hltx e0
                have a5 := cell_on zX hltx e1
                have a6 := cell_on zXA hltx e0
                have a7 := cell_on zXA hltx e1
                have hr0 := hx.below zA.drew
                have hr1 := hx.below zAX.drew
                have hr2 := hx.below zXA.drew
                have hcn : n = cs.length := HL.out.symm
                have HCN := Lib.hid hcn
                clear C1 hcn
                go_wp2
                go_region_held3 (fun ω => ω.cell? ⟨wr.heap.size, 0, none⟩ = some (.int .i64 x) ∧ ω.cell? ⟨wr.heap.size, 1, none⟩ = some (.int .i64 y)) (first | exact ⟨e0, e1⟩ | exact ⟨a0, a1⟩ | exact ⟨a2, a3⟩ | exact ⟨a4, a5⟩ | exact ⟨a6, a7⟩ | exact ⟨f0, f1⟩ | exact ⟨g0, g1⟩ | exact ⟨f2, f3⟩ | exact ⟨f4, f5⟩ | exact ⟨f6, f7⟩) ((first | (refine step_append_slice _ (by rfl) _ _ 25 (by rfl) wx.heap.size 58 i0 (.agg #[.int .i64 0, .int .i64 0]) 2 16 Try.underlying25 hi hz0 hz1 hz2 rfl (by decide) _ _ _ (by rfl) (World.ownsRow.drew hO0) (some ⟨b, o, none⟩) n cap (flat cs) (by rfl) hr0.slice flat_one (by simp; unfold maxLen; omega) (by simp; omega) (by simp) ?_; intro v1 w1 o1x k1 at1; have o1 : Own w1 wx.heap.size v1 cs := (by unfold Own; rw [HL.out]; have t := o1x; rw [show flat [] ++ flat cs = flat cs from rfl, show ([] : List C).length + n = n from Nat.zero_add n] at t; exact t); clear o1x; have hb1 := zA.drew.grown k1 (by simp) (by intro z hz; simp [Value.ownBlock] at hz; omega); have f0 := cell_on hb1 hltx e0; have f1 := cell_on hb1 hltx e1; have hb1' := hb1.alloc hb1.size (.cells #[.int .i64 x, .int .i64 y] 58); have g0 := cell_on hb1' hltx e0; have g1 := cell_on hb1' hltx e1; have s1 := hb1.size) | (refine step_append_slice _ (by rfl) _ _ 25 (by rfl) wx.heap.size 58 i0 (.agg #[.int .i64 0, .int .i64 0]) 2 16 Try.underlying25 hi hz0 hz1 hz2 rfl (by decide) _ _ _ (by rfl) (World.ownsRow.drew (World.ownsRow.alloc hO0 _)) (some ⟨b, o, none⟩) n cap (flat cs) (by rfl) hr1.slice flat_one (by simp; unfold maxLen; omega) (by simp; omega) (by simp; omega) ?_; intro v1 w1 o1x k1 at1; have o1 : Own w1 wx.heap.size v1 cs := (by unfold Own; rw [HL.out]; have t := o1x; rw [show flat [] ++ flat cs = flat cs from rfl, show ([] : List C).length + n = n from Nat.zero_add n] at t; exact t); clear o1x; have hb1 := zAX.drew.grown k1 (by simp; omega) (by intro z hz; simp [Value.ownBlock] at hz; omega); have f0 := cell_on hb1 hltx e0; have f1 := cell_on hb1 hltx e1; have hb1' := hb1.alloc hb1.size (.cells #[.int .i64 x, .int .i64 y] 58); have g0 := cell_on hb1' hltx e0; have g1 := cell_on hb1' hltx e1; have s1 := hb1.size; have hpq : w1.heap[wx.heap.size + 1]? = some (.cells #[.int .i64 x, .int .i64 y] 58 (0, 0)) := (k1.block (wx.heap.size + 1) (by simp) (by simp [Value.ownBlock])).trans hn1) | (refine step_append_slice _ (by rfl) _ _ 25 (by rfl) wx.heap.size 58 i0 (.agg #[.int .i64 0, .int .i64 0]) 2 16 Try.underlying25 hi hz0 hz1 hz2 rfl (by decide) _ _ _ (by rfl) (World.ownsRow.drew hO1) (some ⟨b, o, none⟩) n cap (flat cs) (by rfl) hr2.slice flat_one (by simp; unfold maxLen; omega) (by simp; omega) (by simp; omega) ?_; intro v1 w1 o1x k1 at1; have o1 : Own w1 wx.heap.size v1 cs := (by unfold Own; rw [HL.out]; have t := o1x; rw [show flat [] ++ flat cs = flat cs from rfl, show ([] : List C).length + n = n from Nat.zero_add n] at t; exact t); clear o1x; have hb1 := zXA.drew.grown k1 (by simp; omega) (by intro z hz; simp [Value.ownBlock] at hz; omega); have f0 := cell_on hb1 hltx e0; have f1 := cell_on hb1 hltx e1; have hb1' := hb1.alloc hb1.size (.cells #[.int .i64 x, .int .i64 y] 58); have g0 := cell_on hb1' hltx e0; have g1 := cell_on hb1' hltx e1; have s1 := hb1.size; have hpr : w1.heap[wx.heap.size]? = some (.cells #[.int .i64 x, .int .i64 y] 58 (0, 0)) := (k1.block wx.heap.size (by simp; omega) (by simp [Value.ownBlock])).trans hn2) | (refine step_append_lies _ (by rfl) _ _ 25 (by rfl) wx.heap.size 58 i0 (.agg #[.int .i64 0, .int .i64 0]) 2 16 Try.underlying25 hi hz0 hz1 hz2 rfl (by decide) _ _ _ (by rfl) (World.ownsRow.alloc o1 _) ⟨w1.heap.size, 0, none⟩ 1 1 (flat [(x, y)]) (by rfl) (by rfl) (World.news_of_block (cs := #[.int .i64 x, .int .i64 y]) (t := 58) (fr := (0, 0)) (heap_alloc_new w1 _)) flat_one (by omega) (by unfold maxLen; omega) (by omega) (by simp; omega) (w1.heap.size + 1) (by simp) ?_; intro g5 cap5 w5 o5 k5 at5 lt5; have hb5 := hb1'.grown k5 (by simp; omega) (fun z hz => (o1.lt z hz).1); have t5 : Own w5 wx.heap.size (.slice (some ⟨g5, 0, none⟩) (cs.length + 1) cap5) (cs ++ [(x, y)]) := (by unfold Own; rw [flat_append, List.length_append]; exact o5); have f2 := cell_on hb5 hltx e0; have f3 := cell_on hb5 hltx e1) | (refine step_append_lies _ (by rfl) _ _ 25 (by rfl) wx.heap.size 58 i0 (.agg #[.int .i64 0, .int .i64 0]) 2 16 Try.underlying25 hi hz0 hz1 hz2 rfl (by decide) _ _ _ (by rfl) o1 ⟨wx.heap.size + 1, 0, none⟩ 1 1 (flat [(x, y)]) (by rfl) (by rfl) (World.news_of_block (cs := #[.int .i64 x, .int .i64 y]) (t := 58) (fr := (0, 0)) hpq) flat_one (by omega) (by unfold maxLen; omega) (by omega) (by omega) w1.heap.size rfl ?_; intro g5 cap5 w5 o5 k5 at5 lt5; have hb5 := hb1.grown k5 (by omega) (fun z hz => (o1.lt z hz).1); have t5 : Own w5 wx.heap.size (.slice (some ⟨g5, 0, none⟩) (cs.length + 1) cap5) (cs ++ [(x, y)]) := (by unfold Own; rw [flat_append, List.length_append]; exact o5); have f2 := cell_on hb5 hltx e0; have f3 := cell_on hb5 hltx e1) | (refine step_append_lies _ (by rfl) _ _ 25 (by rfl) wx.heap.size 58 i0 (.agg #[.int .i64 0, .int .i64 0]) 2 16 Try.underlying25 hi hz0 hz1 hz2 rfl (by decide) _ _ _ (by rfl) o1 ⟨wx.heap.size, 0, none⟩ 1 1 (flat [(x, y)]) (by rfl) (by rfl) (World.news_of_block (cs := #[.int .i64 x, .int .i64 y]) (t := 58) (fr := (0, 0)) hpr) flat_one (by omega) (by unfold maxLen; omega) (by omega) (by omega) w1.heap.size rfl ?_; intro g5 cap5 w5 o5 k5 at5 lt5; have hb5 := hb1.grown k5 (by omega) (fun z hz => (o1.lt z hz).1); have t5 : Own w5 wx.heap.size (.slice (some ⟨g5, 0, none⟩) (cs.length + 1) cap5) (cs ++ [(x, y)]) := (by unfold Own; rw [flat_append, List.length_append]; exact o5); have f2 := cell_on hb5 hltx e0; have f3 := cell_on hb5 hltx e1) | (go_at_call 20; refine (specSort (some ⟨g5, 0, none⟩) (cs.length + 1) cap5 (cs ++ [(x, y)]) _ (by omega) (by have t := own_cells t5; exact t)).mono ?_; rintro e w6 ⟨v6, rfl, o6, b6⟩; have hb6 := hb5.trans (b6.mono hb5.size); obtain ⟨A6, c6, rfl, r6, _⟩ := o6.form; have f4 := cell_on hb6 hltx e0; have f5 := cell_on hb6 hltx e1) | (go_at_call 84; refine (specCorner A6 _ c6 (sortC (cs ++ [(x, y)])) _ (fun z hz => SM.out z ((sortC_mem _ z).1 hz)) (by have := sortC_le (cs ++ [(x, y)]); simp at this; omega) r6).mono ?_; rintro e w7 ⟨v7, rfl, o7, b7⟩; have hb7 := hb6.trans (b7.mono hb6.size); rw [HAD.out] at o7; have f6 := cell_on hb7 hltx e0; have f7 := cell_on hb7 hltx e1)))
                all_goals
                  obtain ⟨A7, c7, rfl, r7, _⟩ := o7.form
                  have hal := addC_len cs (x, y)
                  have hbW := hbX.trans (hb7.mono hbX.size)
                  have hrW := hX8.below hb7
                  have C4 := specIsShape A7 (addC cs (x, y)).length c7 (addC cs (x, y)) w7 (by omega) r7
                  clear hX8 hbX e0 e1 a0 a1 a2 a3 a4 a5 a6 a7 f0 f1 f2 f3 f4 f5 f6 f7 hr0 hr1 hr2 zA zAX zX zXA hn1 hn2 hO0 hO1 o1 k1 at1 s1 o5 k5 at5 lt5 t5 hb1 hb5 o6 b6 hb6 r6 o7 b7 hb7 hx h
                  cases hsh : isShape (addC cs (x, y)) with
                  | false =>
                    have HN : Hid (extTo cs ((cs.take k).flatMap sidesR ++ (sidesR (p, q)).take (j + 1)) = extTo cs ((cs.take k).flatMap sidesR ++ (sidesR (p, q)).take j)) := by show _ = _; rw [HSN.out]; exact extStep_off _ HV.out hsh
                    rw [hsh] at C4
                    rw [← HN.out] at hrW HM
                    clear hsh r7
                    go_wp2_with fail
                    refine C4.mono ?_
                    rintro e w8 ⟨rfl, B8⟩
                    have hr8 := hrW.below B8
                    have hb8 := hbW.trans (B8.mono hbW.size)
                    clear C4 B8 hrW hbW
                    go_wp2
                    go_roundw
                    case rel => exact ⟨j + 1, P, m, c, by omega, by go_num, rfl, HM.out, hr8, hmc, hcm, hb8⟩
                    case measure => simp [intOf]; omega
                  | true =>
                    have HN : Hid (extTo cs ((cs.take k).flatMap sidesR ++ (sidesR (p, q)).take (j + 1)) = insS (addC cs (x, y)) (extTo cs ((cs.take k).flatMap sidesR ++ (sidesR (p, q)).take j))) := by show _ = _; rw [HSN.out]; exact extStep_on _ HV.out hsh
                    rw [hsh] at C4
                    clear hsh
                    go_wp2_with fail
                    refine C4.mono ?_
                    rintro e w8 ⟨rfl, B8⟩
                    have hr8 := hrW.below B8
                    have ht8 := r7.below B8
                    have hb8 := hbW.trans (B8.mono hbW.size)
                    have hmn : m ≤ 1000 := by rw [HM.out]; omega
                    have hS := specPut P m c _ A7 (addC cs (x, y)).length c7 (addC cs (x, y)) w8 (by omega) hmc hcm (extTo_short _ _) (by omega) (extTo_sorted _ _) hr8 ht8
                    rw [← HN.out] at hS
                    clear C4 B8 hrW hbW r7 hr8 ht8
                    go_wp2_with fail
                    refine hS.mono ?_
                    rintro e w9 ⟨P9, c9, rfl, ⟨hr9, hm9, hc9⟩, hb9⟩
                    have hbZ := hb8.trans (hb9.mono hb8.size)
                    have HX1 := Lib.hid hr9
                    have HX2 := Lib.hid hm9
                    clear hS hb8 hb9 hr9 hm9
                    go_wp2
                    go_roundw
                    case rel => exact ⟨j + 1, P9, _, c9, by omega, by go_num, rfl, rfl, HX1.out, HX2.out, hc9, hbZ⟩
                    case measure => simp [intOf]; omega
            · obtain rfl : j = 4 := by omega
              have HN : Hid (extTo cs ((cs.take k).flatMap sidesR ++ (sidesR (p, q)).take 4) = extTo cs ((cs.take (k + 1)).flatMap sidesR)) := by
                show _ = _
                rw [take_next HK.out, List.flatMap_append]
                rfl
              rw [HN.out] at hr HM
              clear h
              go_wp2
              go_roundw
              case rel => exact ⟨k + 1, P, m, c, by omega, by go_num, rfl, HM.out, hr, hmc, hcm, hb⟩
              case measure => simp [intOf]; omega
        · obtain rfl : k = n := by omega
          have HN : Hid (extTo cs ((cs.take k).flatMap sidesR) = extL cs) := by
            show _ = _
            rw [List.take_of_length_le (by rw [HL.out]; exact Nat.le_refl _), HR.out]
          rw [HN.out] at hr HM
          clear h hm
          go_wp2
          go_ret
          unfold SpecL
          rw [← HM.out]
          exact ⟨P, c, rfl, ⟨hr, hmc, hcm⟩, hb⟩
end Go.Proofs.Ythhaojbnnacdbaa
