/- The reference's SortCells: an insertion sort. Condition: slices of at most 2^20 cells. -/
import Derived.Test.YthhaojbnnacdbaaSortM
import Derived.Test.YthhaojbnnacdbaaApp
import Derived.Test.YthhaojbnnacdbaaMark
import Derived.Deep.RegionLaw
namespace Go.Proofs.Ythhaojbnnacdbaa
open Go.RowKit

theorem CellsAt.takeS {w : World} {A : Option Addr} {n k : Nat} {cs : List C} (h : CellsAt w A n cs) (hk : k ≤ n) : SliceAt w 2 A k (flat (cs.take k)) := by
  have hl : (cs.take k).length = k := by rw [List.length_take, h.1]; omega
  refine CellsAt.slice ⟨hl, fun hn => ?_⟩
  obtain ⟨b, o, e, hlt, hc⟩ := h.2 (by omega)
  refine ⟨b, o, e, hlt, fun j hj => ?_⟩
  have := hc j (by omega)
  rw [show (cs.take k).getD j (0, 0) = cs.getD j (0, 0) by simp [List.getD_eq_getElem?_getD, hj]]
  exact this

theorem own_cap {w : World} {base : Nat} {A : Option Addr} {n cap : Nat} {cs : List C} (h : Own w base (.slice A n cap) cs) : n ≤ cap ∧ cap ≤ maxLen := by
  have hn := (own_cells h).1
  rcases h.2 with ⟨e, h0⟩ | ⟨g, cap', cur, e, _, _, hle, hm, _⟩
  · injection e with e1 e2 e3
    subst e3
    exact ⟨by omega, by unfold maxLen; omega⟩
  · injection e with e1 e2 e3
    subst e3
    exact ⟨by omega, hm⟩
theorem CellsAt.dropS {w : World} {A : Option Addr} {n k cap : Nat} {cs : List C} (h : CellsAt w A n cs) (hk : k ≤ n) (hcap : n ≤ cap) : SliceAt w 2 (if cap = k then A else A.map (·.add (k * 2))) (n - k) (flat (cs.drop k)) := by
  have hl : (cs.drop k).length = n - k := by rw [List.length_drop, h.1]
  by_cases hn : k < n
  · obtain ⟨b, o, e, hlt, hc⟩ := h.2 (by omega)
    subst e
    rw [if_neg (by omega)]
    refine CellsAt.slice ⟨hl, fun _ => ⟨b, o + k * 2, by simp [Addr.add_lit], hlt, fun j hj => ?_⟩⟩
    have := hc (k + j) (by omega)
    rw [show (cs.drop k).getD j (0, 0) = cs.getD (k + j) (0, 0) by simp [List.getD_eq_getElem?_getD], show o + k * 2 + j * 2 = o + (k + j) * 2 by omega]
    exact this
  · exact ⟨by rw [flat_length, hl], fun h0 => by omega⟩

set_option maxRecDepth 100000 in
set_option maxHeartbeats 3200000 in
theorem specSort (A : Option Addr) (n cap : Nat) (cs : List C) (w : World) (hn : n ≤ 1048576) (h : CellsAt w A n cs) :
    Calls Try.prog 20 #[.slice A n cap] w (OwnPost w (sortC cs)) := by
  obtain ⟨i0, hi, hz0, hz1, hz2⟩ := info_parts Try.infoC
  have hl := Lib.hid h.1
  have hE := own_empty w
  have hbE := below_alloc w (.cells #[] 58)
  go_enter Try.func20, Try.ntmps20
  go_wp2
  go_loopw [3, 4, 5] (fun v i _ wr => ∃ k : Nat, k ≤ n ∧ i = .int .i64 k ∧ Own wr w.heap.size v (sortC (cs.take k)) ∧ Below w.heap.size w wr) (fun _ i _ _ => n - (intOf i).toNat)
  case atStart => exact ⟨0, Nat.zero_le _, rfl, hE, hbE⟩
  case round =>
    clear hE hbE
    obtain ⟨k, hk, rfl, hown, hb⟩ := hrel
    obtain ⟨A4, cap4, rfl, _, _⟩ := hown.form
    have hsl : (sortC (cs.take k)).length ≤ n := Nat.le_trans (sortC_le _) (by rw [List.length_take]; omega)
    obtain ⟨L, hL⟩ : ∃ L, L = sortC (cs.take k) := ⟨_, rfl⟩
    rw [← hL] at hown hsl ⊢
    have HL := Lib.hid hL
    clear hL
    by_cases hlt : k < n
    · go_wp2
      go_loopw [5] (fun z wr => ∃ m : Nat, m ≤ L.length ∧ z = .int .i64 m ∧ Hid (∀ c, cs[k]? = some c → ∀ j, m ≤ j → ∀ d, L[j]? = some d → bef c d = true) ∧ Own wr w.heap.size (.slice A4 L.length cap4) L ∧ Below w.heap.size w wr) (fun z _ => (intOf z).toNat)
      case atStart => exact ⟨L.length, Nat.le_refl _, rfl, (by show ∀ c, _ → _; intro c _ j hj d hd; rw [List.getElem?_eq_none hj] at hd; cases hd), hown, hb⟩
      case round =>
        clear hown hb
        obtain ⟨m, hm, rfl, HM, hown, hb⟩ := hrel
        obtain ⟨b, o, p, q, rfl, hbl, HK, c1, c2⟩ := h.at_ hlt
        have hki : (k : Int) < (n : Int) := by omega
        by_cases hm0 : m = 0
        · have d0 : decide ((0 : Int) < (m : Int)) = false := by simp; omega
          have d0' : decide (0 < m) = false := by simp; omega
          have HM0 := Lib.hid hm0
          clear hm0
          have a1 := later_cell (Nat.lt_of_lt_of_le hbl hb.size) (cell_on hb hbl c1)
          have HN : Hid (sortC (cs.take (k + 1)) = L.take m ++ (p, q) :: L.drop m) := by
            show _ = _
            rw [take_next HK.out, sortC_snoc, ← HL.out]
            exact insC_at (by rw [HL.out]; exact sortC_sorted _) hm (HM.out _ HK.out) (fun d hd h0 => absurd h0 (by have := HM0.out; omega))
          clear h
          go_wp2
          (refine wp_region_later (by kernel_rfl) (by kernel_rfl) ?_; (repeat (go_big_quiet_step (fail))); refine wpQuiet_nil ?_; rintro wq ⟨xq, hxq⟩; have hq := later_below hxq; clear hxq xq)
          have hown := hown.below hq
          have hb := hb.trans (hq.mono hb.size)
          clear hq a1
          go_wp2
          (refine wp_region_later (by kernel_rfl) (by kernel_rfl) ?_; (repeat (go_big_quiet_step (fail))); refine wpQuiet_nil ?_; rintro wq ⟨xq, hxq⟩; have hq := later_below hxq; clear hxq xq)
          have hown := hown.below hq
          have hb := hb.trans (hq.mono hb.size)
          clear hq
          go_wp2
          obtain ⟨hcap1, hcap2⟩ := own_cap hown
          unfold maxLen at hcap2
          have hmc : m ≤ cap4 := by omega
          have hO0 := own_empty wq
          have hsz := hb.size
          have hblq : b < wq.heap.size := Nat.lt_of_lt_of_le hbl hsz
          have e1 := cell_on hb hbl c1
          have e2 := cell_on hb hbl c2
          have hb0 := hb.alloc hsz (.cells #[] 58)
          have e3 := cell_on hb0 hbl c1
          have e4 := cell_on hb0 hbl c2
          have hb00 := hb0.alloc hb0.size (.cells #[.int .i64 p, .int .i64 q] 58)
          have hnew := heap_alloc_new (wq.alloc (.cells #[] 58)) (.cells #[.int .i64 p, .int .i64 q] 58)
          rw [show (wq.alloc (.cells #[] 58)).heap.size = wq.heap.size + 1 by simp] at hnew
          have hb02 := hb.alloc hsz (.cells #[.int .i64 p, .int .i64 q] 58)
          have hb01 := hb02.alloc hb02.size (.cells #[] 58)
          have h3 := cell_on hb02 hbl c1
          have h4 := cell_on hb02 hbl c2
          have h5 := cell_on hb01 hbl c1
          have h6 := cell_on hb01 hbl c2
          have hO1 := (own_empty (wq.alloc (.cells #[.int .i64 p, .int .i64 q] 58))).mono (base' := wq.heap.size) (by simp)
          rw [show (wq.alloc (.cells #[.int .i64 p, .int .i64 q] 58)).heap.size = wq.heap.size + 1 by simp] at hO1
          have hnew1 : ((wq.alloc (.cells #[.int .i64 p, .int .i64 q] 58)).alloc (.cells #[] 58)).heap[wq.heap.size]? = some (.cells #[.int .i64 p, .int .i64 q] 58 (0, 0)) := (Below.heap_alloc _ _ _ (by simp)).trans (heap_alloc_new wq _)
          have h1 := cell_on hb00 hbl c1
          have h2 := cell_on hb00 hbl c2
          have hr := own_cells hown
          have hr0 := hr.below (below_alloc wq (.cells #[] 58))
          have hr1 := (hr.below (below_alloc wq (.cells #[.int .i64 p, .int .i64 q] 58))).below (below_alloc _ (.cells #[] 58))
          go_region_held3 (fun ω => ω.cell? ⟨b, o + k * 2, none⟩ = some (.int .i64 p) ∧ ω.cell? ⟨b, o + k * 2 + 1, none⟩ = some (.int .i64 q)) (first | exact ⟨e1, e2⟩ | exact ⟨e3, e4⟩ | exact ⟨h1, h2⟩ | exact ⟨h3, h4⟩ | exact ⟨h5, h6⟩ | exact ⟨f1, f2⟩ | exact ⟨g1, g2⟩ | exact ⟨f3, f4⟩ | exact ⟨f5, f6⟩) ((first | (refine step_append_slice _ (by rfl) _ _ 25 (by rfl) wq.heap.size 58 i0 (.agg #[.int .i64 0, .int .i64 0]) 2 16 Try.underlying25 hi hz0 hz1 hz2 rfl (by decide) _ _ _ (by rfl) (World.ownsRow.drew hO0) A4 m cap4 (flat (L.take m)) (by rfl) ((hr0.below (Below.refl _ _).drew).takeS hm) flat_one (by simp; unfold maxLen; omega) (by simp; omega) (by simp) ?_; intro v1 w1 o1x k1 at1; have o1 : w1.ownsRow wq.heap.size 58 2 v1 m (flat (L.take m)) := (by have t := o1x; rw [show flat [] ++ flat (L.take m) = flat (L.take m) from rfl, show ([] : List C).length + m = m from Nat.zero_add m] at t; exact t); clear o1x; have hb1 := hb0.drew.grown k1 (by simp; omega) (by intro z hz; simp [Value.ownBlock] at hz; omega); have f1 := cell_on hb1 hbl c1; have f2 := cell_on hb1 hbl c2; have hb1' := hb1.alloc hb1.size (.cells #[.int .i64 p, .int .i64 q] 58); have g1 := cell_on hb1' hbl c1; have g2 := cell_on hb1' hbl c2; have hL1 : Own w1 w.heap.size (.slice A4 L.length cap4) L := own_beside (World.ownsRow.drew (hown.below (below_alloc wq (.cells #[] 58)))) k1 (by cases hz : (Value.slice A4 L.length cap4).ownBlock with | none => exact Or.inl rfl | some z => exact Or.inr (fun e => by have := (hown.lt z hz).2; simp [Value.ownBlock] at e; omega)); have s1 := k1.size; (try simp at s1)) | (refine step_append_slice _ (by rfl) _ _ 25 (by rfl) wq.heap.size 58 i0 (.agg #[.int .i64 0, .int .i64 0]) 2 16 Try.underlying25 hi hz0 hz1 hz2 rfl (by decide) _ _ _ (by rfl) (World.ownsRow.drew (World.ownsRow.alloc hO0 _)) A4 m cap4 (flat (L.take m)) (by rfl) (((hr0.below (below_alloc _ (.cells #[.int .i64 p, .int .i64 q] 58))).below (Below.refl _ _).drew).takeS hm) flat_one (by simp; unfold maxLen; omega) (by simp; omega) (by simp; omega) ?_; intro v1 w1 o1x k1 at1; have o1 : w1.ownsRow wq.heap.size 58 2 v1 m (flat (L.take m)) := (by have t := o1x; rw [show flat [] ++ flat (L.take m) = flat (L.take m) from rfl, show ([] : List C).length + m = m from Nat.zero_add m] at t; exact t); clear o1x; have hb1 := hb00.drew.grown k1 (by simp; omega) (by intro z hz; simp [Value.ownBlock] at hz; omega); have f1 := cell_on hb1 hbl c1; have f2 := cell_on hb1 hbl c2; have hL1 : Own w1 w.heap.size (.slice A4 L.length cap4) L := own_beside (World.ownsRow.drew ((hown.below (below_alloc wq (.cells #[] 58))).below (below_alloc _ (.cells #[.int .i64 p, .int .i64 q] 58)))) k1 (by cases hz : (Value.slice A4 L.length cap4).ownBlock with | none => exact Or.inl rfl | some z => exact Or.inr (fun e => by have := (hown.lt z hz).2; simp [Value.ownBlock] at e; omega)); have hpq : w1.heap[wq.heap.size + 1]? = some (.cells #[.int .i64 p, .int .i64 q] 58 (0, 0)) := (k1.block (wq.heap.size + 1) (by simp) (by simp [Value.ownBlock])).trans hnew; have s1 := k1.size; (try simp at s1)) | (refine step_append_slice _ (by rfl) _ _ 25 (by rfl) wq.heap.size 58 i0 (.agg #[.int .i64 0, .int .i64 0]) 2 16 Try.underlying25 hi hz0 hz1 hz2 rfl (by decide) _ _ _ (by rfl) (World.ownsRow.drew hO1) A4 m cap4 (flat (L.take m)) (by rfl) ((hr1.below (Below.refl _ _).drew).takeS hm) flat_one (by simp; unfold maxLen; omega) (by simp; omega) (by simp; omega) ?_; intro v1 w1 o1x k1 at1; have o1 : w1.ownsRow wq.heap.size 58 2 v1 m (flat (L.take m)) := (by have t := o1x; rw [show flat [] ++ flat (L.take m) = flat (L.take m) from rfl, show ([] : List C).length + m = m from Nat.zero_add m] at t; exact t); clear o1x; have hb1 := hb01.drew.grown k1 (by simp; omega) (by intro z hz; simp [Value.ownBlock] at hz; omega); have f1 := cell_on hb1 hbl c1; have f2 := cell_on hb1 hbl c2; have hL1 : Own w1 w.heap.size (.slice A4 L.length cap4) L := own_beside (World.ownsRow.drew ((hown.below (below_alloc wq (.cells #[.int .i64 p, .int .i64 q] 58))).below (below_alloc _ (.cells #[] 58)))) k1 (by cases hz : (Value.slice A4 L.length cap4).ownBlock with | none => exact Or.inl rfl | some z => exact Or.inr (fun e => by have := (hown.lt z hz).2; simp [Value.ownBlock] at e; omega)); have hpr : w1.heap[wq.heap.size]? = some (.cells #[.int .i64 p, .int .i64 q] 58 (0, 0)) := (k1.block wq.heap.size (by simp; omega) (by simp [Value.ownBlock])).trans hnew1; have s1 := k1.size; (try simp at s1)) | (refine step_append_lies _ (by rfl) _ _ _ (by rfl) wq.heap.size 58 i0 (.agg #[.int .i64 0, .int .i64 0]) 2 16 Try.underlying25 hi hz0 hz1 hz2 rfl (by decide) _ _ _ (by rfl) (World.ownsRow.alloc o1 _) ⟨w1.heap.size, 0, none⟩ 1 1 (flat [(p, q)]) (by rfl) (by rfl) (World.news_of_block (cs := #[.int .i64 p, .int .i64 q]) (t := 58) (fr := (0, 0)) (heap_alloc_new w1 _)) flat_one (by omega) (by unfold maxLen; omega) (by omega) (by simp; omega) (w1.heap.size + 1) (by simp) ?_; intro g3 cap3 w2 o2 k2 at2 lt2; have hb2 := hb1'.grown k2 (by simp; have := hb1.size; omega) (fun z hz => by have := (o1.lt _ hz).1; omega); have f3 := cell_on hb2 hbl c1; have f4 := cell_on hb2 hbl c2; have hL2 : Own w2 w.heap.size (.slice A4 L.length cap4) L := own_beside (hL1.below (below_alloc w1 (.cells #[.int .i64 p, .int .i64 q] 58))) k2 (by cases hz : (Value.slice A4 L.length cap4).ownBlock with | none => exact Or.inl rfl | some z => exact Or.inr (fun e => by have := (hown.lt z hz).2; have := (o1.lt _ e.symm).1; omega)); have hr2 := (own_cells hL2).dropS hm hcap1; have s2 := k2.size; (try simp at s2)) | (refine step_append_lies _ (by rfl) _ _ _ (by rfl) wq.heap.size 58 i0 (.agg #[.int .i64 0, .int .i64 0]) 2 16 Try.underlying25 hi hz0 hz1 hz2 rfl (by decide) _ _ _ (by rfl) o1 ⟨wq.heap.size + 1, 0, none⟩ 1 1 (flat [(p, q)]) (by rfl) (by rfl) (World.news_of_block (cs := #[.int .i64 p, .int .i64 q]) (t := 58) (fr := (0, 0)) hpq) flat_one (by omega) (by unfold maxLen; omega) (by omega) (by omega) w1.heap.size rfl ?_; intro g3 cap3 w2 o2 k2 at2 lt2; have hb2 := hb1.grown k2 (by omega) (fun z hz => by have := (o1.lt _ hz).1; omega); have f3 := cell_on hb2 hbl c1; have f4 := cell_on hb2 hbl c2; have hL2 : Own w2 w.heap.size (.slice A4 L.length cap4) L := own_beside hL1 k2 (by cases hz : (Value.slice A4 L.length cap4).ownBlock with | none => exact Or.inl rfl | some z => exact Or.inr (fun e => by have := (hown.lt z hz).2; have := (o1.lt _ e.symm).1; omega)); have hr2 := (own_cells hL2).dropS hm hcap1; have s2 := k2.size; (try simp at s2)) | (refine step_append_lies _ (by rfl) _ _ _ (by rfl) wq.heap.size 58 i0 (.agg #[.int .i64 0, .int .i64 0]) 2 16 Try.underlying25 hi hz0 hz1 hz2 rfl (by decide) _ _ _ (by rfl) o1 ⟨wq.heap.size, 0, none⟩ 1 1 (flat [(p, q)]) (by rfl) (by rfl) (World.news_of_block (cs := #[.int .i64 p, .int .i64 q]) (t := 58) (fr := (0, 0)) hpr) flat_one (by omega) (by unfold maxLen; omega) (by omega) (by omega) w1.heap.size rfl ?_; intro g3 cap3 w2 o2 k2 at2 lt2; have hb2 := hb1.grown k2 (by omega) (fun z hz => by have := (o1.lt _ hz).1; omega); have f3 := cell_on hb2 hbl c1; have f4 := cell_on hb2 hbl c2; have hL2 : Own w2 w.heap.size (.slice A4 L.length cap4) L := own_beside hL1 k2 (by cases hz : (Value.slice A4 L.length cap4).ownBlock with | none => exact Or.inl rfl | some z => exact Or.inr (fun e => by have := (hown.lt z hz).2; have := (o1.lt _ e.symm).1; omega)); have hr2 := (own_cells hL2).dropS hm hcap1; have s2 := k2.size; (try simp at s2)) | (refine step_append_slice _ (by rfl) _ _ 25 (by rfl) wq.heap.size 58 i0 (.agg #[.int .i64 0, .int .i64 0]) 2 16 Try.underlying25 hi hz0 hz1 hz2 rfl (by decide) _ _ _ (by rfl) o2 (if cap4 = m then A4 else A4.map (·.add (m * 2))) (L.length - m) _ (flat (L.drop m)) (by rfl) hr2 flat_one (by unfold maxLen; omega) (by omega) (by omega) ?_; intro v3 w3 o3 k3 at3; have hb3 := hb2.grown k3 (by omega) (fun z hz => by have := (o2.lt _ hz).1; omega); have f5 := cell_on hb3 hbl c1; have f6 := cell_on hb3 hbl c2)))
          all_goals
            have hO3 : Own w3 w.heap.size v3 (sortC (cs.take (k + 1))) := by
              have t : Own w3 wq.heap.size v3 (L.take m ++ [(p, q)] ++ L.drop m) := by
                unfold Own
                rw [flat_append, flat_append, show (L.take m ++ [(p, q)] ++ L.drop m).length = m + 1 + (L.length - m) by simp; omega]
                exact o3
              rw [HN.out]
              have u := t.mono (base' := w.heap.size) (by omega)
              simpa using u
            clear o3 o2 o1 hL1 hL2 hr2 k1 k2 k3 at1 at2 at3
            go_wp2
            go_roundw
            case rel => exact ⟨k + 1, by omega, by go_num, hO3, hb3⟩
            case measure => simp [intOf]; omega
        · have d0 : decide ((0 : Int) < (m : Int)) = true := by simp; omega
          have d0' : decide (0 < m) = true := by simp; omega
          have hm1 : (0 : Int) < (m : Int) := by omega
          have hke : ((m : Int) - 1).toNat = m - 1 := by omega
          have HM0 := Lib.hid hm0
          clear hm0
          have hrw := own_cells hown
          obtain ⟨b4, o4, x, y, rfl, hb4, HX, x1, x2⟩ := hrw.at_ (k := m - 1) (by have := HM0.out; omega)
          have hblw := Nat.lt_of_lt_of_le hbl hb.size
          have w1c := cell_on hb hbl c1
          have w2c := cell_on hb hbl c2
          have l1 := later_cell hblw w1c
          have l2 := later_cell hblw w2c
          have l3 := later_cell hb4 x1
          have l4 := later_cell hb4 x2
          cases hv : bef (p, q) (x, y) with
          | true =>
            have C1 : ∀ z : Later wr, Calls Try.prog 75 #[.agg #[.int .i64 p, .int .i64 q], .agg #[.int .i64 x, .int .i64 y]] z.1 fun e w' => e = .returned (.bool true) ∧ Below z.1.heap.size z.1 w' := fun z => specBefore_eq hv z.1
            have HN : Hid (∀ c, cs[k]? = some c → ∀ j, m - 1 ≤ j → ∀ d, L[j]? = some d → bef c d = true) := by
              show ∀ c, _ → _
              intro c hc j hj d hd
              have e := HK.out.symm.trans hc
              injection e with e
              subst e
              by_cases hjm : j = m - 1
              · subst hjm; have := HX.out.symm.trans hd; injection this with this; subst this; exact hv
              · exact HM.out _ hc j (by omega) d hd
            clear h hrw hv w1c w2c x1 x2
            go_wp2
            (refine wp_region_later (by kernel_rfl) (by kernel_rfl) ?_; (repeat (go_big_quiet_step ((go_at_call 75; with_reducible exact Calls.later (C1 _))))); refine wpQuiet_nil ?_; rintro wq ⟨xq, hxq⟩; have hq := later_below hxq; clear hxq xq)
            have hown := hown.below hq
            have hb := hb.trans (hq.mono hb.size)
            clear hq l1 l2 l3 l4
            go_wp2
            go_roundw
            case rel => exact ⟨m - 1, by omega, by congr 1; have := HM0.out; omega, HN, hown, hb⟩
            case measure => simp [intOf]; have := HM0.out; omega
          | false =>
            have C1 : ∀ z : Later wr, Calls Try.prog 75 #[.agg #[.int .i64 p, .int .i64 q], .agg #[.int .i64 x, .int .i64 y]] z.1 fun e w' => e = .returned (.bool false) ∧ Below z.1.heap.size z.1 w' := fun z => specBefore_eq hv z.1
            have HV := Lib.hid hv
            clear hv h hrw
            go_wp2
            (refine wp_region_later (by kernel_rfl) (by kernel_rfl) ?_; (repeat (go_big_quiet_step ((go_at_call 75; with_reducible exact Calls.later (C1 _))))); refine wpQuiet_nil ?_; rintro wq ⟨xq, hxq⟩; have hq := later_below hxq; clear hxq xq)
            have hown := hown.below hq
            have hb := hb.trans (hq.mono hb.size)
            have hbl4 := Nat.lt_of_lt_of_le hb4 hq.size
            have x1 := cell_on hq hb4 x1
            have x2 := cell_on hq hb4 x2
            clear hq l1 l2 l3 l4 w1c w2c hblw C1 hb4
            obtain ⟨wr, hwr⟩ : ∃ wr, wr = wq := ⟨_, rfl⟩
            rw [← hwr] at hown hb hbl4 x1 x2 ⊢
            clear hwr
            have hblw := Nat.lt_of_lt_of_le hbl hb.size
            have w1c := cell_on hb hbl c1
            have w2c := cell_on hb hbl c2
            have l1 := later_cell hblw w1c
            have l2 := later_cell hblw w2c
            have l3 := later_cell hbl4 x1
            have l4 := later_cell hbl4 x2
            by_cases hp : x = p
            · obtain rfl : p = x := hp.symm
              by_cases hq0 : y = q
              · obtain rfl : q = y := hq0.symm
                have HN : Hid (sortC (cs.take (k + 1)) = L) := by
                  show _ = _
                  rw [take_next HK.out, sortC_snoc, ← HL.out]
                  exact insC_in (by rw [HL.out]; exact sortC_sorted _) (List.mem_of_getElem? HX.out)
                go_wp2
                (refine wp_region_later (by kernel_rfl) (by kernel_rfl) ?_; (repeat (go_big_quiet_step (fail))); refine wpQuiet_nil ?_; rintro wq ⟨xq, hxq⟩; have hq := later_below hxq; clear hxq xq)
                have hown := hown.below hq
                have hb := hb.trans (hq.mono hb.size)
                have hO3 : Own wq w.heap.size (.slice (some ⟨b4, o4, none⟩) L.length cap4) (sortC (cs.take (k + 1))) := by rw [HN.out]; exact hown
                clear hq l1 l2 l3 l4
                go_wp2
                go_roundw
                case rel => exact ⟨k + 1, by omega, by go_num, hO3, hb⟩
                case measure => simp [intOf]; omega
              · have hne : ¬ ((p, y) : C) = (p, q) := fun e => hq0 (congrArg Prod.snd e)
                have HN : Hid (sortC (cs.take (k + 1)) = L.take m ++ (p, q) :: L.drop m) := by
                  show _ = _
                  rw [take_next HK.out, sortC_snoc, ← HL.out]
                  exact insC_at (by rw [HL.out]; exact sortC_sorted _) hm (HM.out _ HK.out) (fun d hd _ => by have := HX.out.symm.trans hd; injection this with this; subst this; cases hx : bef (p, y) (p, q) with | true => rfl | false => exact absurd (bef_total hx HV.out) hne)
                clear hne
                go_wp2
                (refine wp_region_later (by kernel_rfl) (by kernel_rfl) ?_; (repeat (go_big_quiet_step (fail))); refine wpQuiet_nil ?_; rintro wq ⟨xq, hxq⟩; have hq := later_below hxq; clear hxq xq)
                have hown := hown.below hq
                have hb := hb.trans (hq.mono hb.size)
                clear hq l1 l2 l3 l4 w1c w2c x1 x2 hbl4
                obtain ⟨A5, hA5⟩ : ∃ A5 : Option Addr, A5 = some ⟨b4, o4, none⟩ := ⟨_, rfl⟩
                rw [← hA5] at hown ⊢
                clear hA5
                go_wp2
                obtain ⟨hcap1, hcap2⟩ := own_cap hown
                unfold maxLen at hcap2
                have hmc : m ≤ cap4 := by omega
                have hO0 := own_empty wq
                have hsz := hb.size
                have hblq : b < wq.heap.size := Nat.lt_of_lt_of_le hbl hsz
                have e1 := cell_on hb hbl c1
                have e2 := cell_on hb hbl c2
                have hb0 := hb.alloc hsz (.cells #[] 58)
                have e3 := cell_on hb0 hbl c1
                have e4 := cell_on hb0 hbl c2
                have hb00 := hb0.alloc hb0.size (.cells #[.int .i64 p, .int .i64 q] 58)
                have hnew := heap_alloc_new (wq.alloc (.cells #[] 58)) (.cells #[.int .i64 p, .int .i64 q] 58)
                rw [show (wq.alloc (.cells #[] 58)).heap.size = wq.heap.size + 1 by simp] at hnew
                have hb02 := hb.alloc hsz (.cells #[.int .i64 p, .int .i64 q] 58)
                have hb01 := hb02.alloc hb02.size (.cells #[] 58)
                have h3 := cell_on hb02 hbl c1
                have h4 := cell_on hb02 hbl c2
                have h5 := cell_on hb01 hbl c1
                have h6 := cell_on hb01 hbl c2
                have hO1 := (own_empty (wq.alloc (.cells #[.int .i64 p, .int .i64 q] 58))).mono (base' := wq.heap.size) (by simp)
                rw [show (wq.alloc (.cells #[.int .i64 p, .int .i64 q] 58)).heap.size = wq.heap.size + 1 by simp] at hO1
                have hnew1 : ((wq.alloc (.cells #[.int .i64 p, .int .i64 q] 58)).alloc (.cells #[] 58)).heap[wq.heap.size]? = some (.cells #[.int .i64 p, .int .i64 q] 58 (0, 0)) := (Below.heap_alloc _ _ _ (by simp)).trans (heap_alloc_new wq _)
                have h1 := cell_on hb00 hbl c1
                have h2 := cell_on hb00 hbl c2
                have hr := own_cells hown
                have hr0 := hr.below (below_alloc wq (.cells #[] 58))
                have hr1 := (hr.below (below_alloc wq (.cells #[.int .i64 p, .int .i64 q] 58))).below (below_alloc _ (.cells #[] 58))
                go_region_held3 (fun ω => ω.cell? ⟨b, o + k * 2, none⟩ = some (.int .i64 p) ∧ ω.cell? ⟨b, o + k * 2 + 1, none⟩ = some (.int .i64 q)) (first | exact ⟨e1, e2⟩ | exact ⟨e3, e4⟩ | exact ⟨h1, h2⟩ | exact ⟨h3, h4⟩ | exact ⟨h5, h6⟩ | exact ⟨f1, f2⟩ | exact ⟨g1, g2⟩ | exact ⟨f3, f4⟩ | exact ⟨f5, f6⟩) ((first | (refine step_append_slice _ (by rfl) _ _ 25 (by rfl) wq.heap.size 58 i0 (.agg #[.int .i64 0, .int .i64 0]) 2 16 Try.underlying25 hi hz0 hz1 hz2 rfl (by decide) _ _ _ (by rfl) (World.ownsRow.drew hO0) A5 m cap4 (flat (L.take m)) (by rfl) ((hr0.below (Below.refl _ _).drew).takeS hm) flat_one (by simp; unfold maxLen; omega) (by simp; omega) (by simp) ?_; intro v1 w1 o1x k1 at1; have o1 : w1.ownsRow wq.heap.size 58 2 v1 m (flat (L.take m)) := (by have t := o1x; rw [show flat [] ++ flat (L.take m) = flat (L.take m) from rfl, show ([] : List C).length + m = m from Nat.zero_add m] at t; exact t); clear o1x; have hb1 := hb0.drew.grown k1 (by simp; omega) (by intro z hz; simp [Value.ownBlock] at hz; omega); have f1 := cell_on hb1 hbl c1; have f2 := cell_on hb1 hbl c2; have hb1' := hb1.alloc hb1.size (.cells #[.int .i64 p, .int .i64 q] 58); have g1 := cell_on hb1' hbl c1; have g2 := cell_on hb1' hbl c2; have hL1 : Own w1 w.heap.size (.slice A5 L.length cap4) L := own_beside (World.ownsRow.drew (hown.below (below_alloc wq (.cells #[] 58)))) k1 (by cases hz : (Value.slice A5 L.length cap4).ownBlock with | none => exact Or.inl rfl | some z => exact Or.inr (fun e => by have := (hown.lt z hz).2; simp [Value.ownBlock] at e; omega)); have s1 := k1.size; (try simp at s1)) | (refine step_append_slice _ (by rfl) _ _ 25 (by rfl) wq.heap.size 58 i0 (.agg #[.int .i64 0, .int .i64 0]) 2 16 Try.underlying25 hi hz0 hz1 hz2 rfl (by decide) _ _ _ (by rfl) (World.ownsRow.drew (World.ownsRow.alloc hO0 _)) A5 m cap4 (flat (L.take m)) (by rfl) (((hr0.below (below_alloc _ (.cells #[.int .i64 p, .int .i64 q] 58))).below (Below.refl _ _).drew).takeS hm) flat_one (by simp; unfold maxLen; omega) (by simp; omega) (by simp; omega) ?_; intro v1 w1 o1x k1 at1; have o1 : w1.ownsRow wq.heap.size 58 2 v1 m (flat (L.take m)) := (by have t := o1x; rw [show flat [] ++ flat (L.take m) = flat (L.take m) from rfl, show ([] : List C).length + m = m from Nat.zero_add m] at t; exact t); clear o1x; have hb1 := hb00.drew.grown k1 (by simp; omega) (by intro z hz; simp [Value.ownBlock] at hz; omega); have f1 := cell_on hb1 hbl c1; have f2 := cell_on hb1 hbl c2; have hL1 : Own w1 w.heap.size (.slice A5 L.length cap4) L := own_beside (World.ownsRow.drew ((hown.below (below_alloc wq (.cells #[] 58))).below (below_alloc _ (.cells #[.int .i64 p, .int .i64 q] 58)))) k1 (by cases hz : (Value.slice A5 L.length cap4).ownBlock with | none => exact Or.inl rfl | some z => exact Or.inr (fun e => by have := (hown.lt z hz).2; simp [Value.ownBlock] at e; omega)); have hpq : w1.heap[wq.heap.size + 1]? = some (.cells #[.int .i64 p, .int .i64 q] 58 (0, 0)) := (k1.block (wq.heap.size + 1) (by simp) (by simp [Value.ownBlock])).trans hnew; have s1 := k1.size; (try simp at s1)) | (refine step_append_slice _ (by rfl) _ _ 25 (by rfl) wq.heap.size 58 i0 (.agg #[.int .i64 0, .int .i64 0]) 2 16 Try.underlying25 hi hz0 hz1 hz2 rfl (by decide) _ _ _ (by rfl) (World.ownsRow.drew hO1) A5 m cap4 (flat (L.take m)) (by rfl) ((hr1.below (Below.refl _ _).drew).takeS hm) flat_one (by simp; unfold maxLen; omega) (by simp; omega) (by simp; omega) ?_; intro v1 w1 o1x k1 at1; have o1 : w1.ownsRow wq.heap.size 58 2 v1 m (flat (L.take m)) := (by have t := o1x; rw [show flat [] ++ flat (L.take m) = flat (L.take m) from rfl, show ([] : List C).length + m = m from Nat.zero_add m] at t; exact t); clear o1x; have hb1 := hb01.drew.grown k1 (by simp; omega) (by intro z hz; simp [Value.ownBlock] at hz; omega); have f1 := cell_on hb1 hbl c1; have f2 := cell_on hb1 hbl c2; have hL1 : Own w1 w.heap.size (.slice A5 L.length cap4) L := own_beside (World.ownsRow.drew ((hown.below (below_alloc wq (.cells #[.int .i64 p, .int .i64 q] 58))).below (below_alloc _ (.cells #[] 58)))) k1 (by cases hz : (Value.slice A5 L.length cap4).ownBlock with | none => exact Or.inl rfl | some z => exact Or.inr (fun e => by have := (hown.lt z hz).2; simp [Value.ownBlock] at e; omega)); have hpr : w1.heap[wq.heap.size]? = some (.cells #[.int .i64 p, .int .i64 q] 58 (0, 0)) := (k1.block wq.heap.size (by simp; omega) (by simp [Value.ownBlock])).trans hnew1; have s1 := k1.size; (try simp at s1)) | (refine step_append_lies _ (by rfl) _ _ _ (by rfl) wq.heap.size 58 i0 (.agg #[.int .i64 0, .int .i64 0]) 2 16 Try.underlying25 hi hz0 hz1 hz2 rfl (by decide) _ _ _ (by rfl) (World.ownsRow.alloc o1 _) ⟨w1.heap.size, 0, none⟩ 1 1 (flat [(p, q)]) (by rfl) (by rfl) (World.news_of_block (cs := #[.int .i64 p, .int .i64 q]) (t := 58) (fr := (0, 0)) (heap_alloc_new w1 _)) flat_one (by omega) (by unfold maxLen; omega) (by omega) (by simp; omega) (w1.heap.size + 1) (by simp) ?_; intro g3 cap3 w2 o2 k2 at2 lt2; have hb2 := hb1'.grown k2 (by simp; have := hb1.size; omega) (fun z hz => by have := (o1.lt _ hz).1; omega); have f3 := cell_on hb2 hbl c1; have f4 := cell_on hb2 hbl c2; have hL2 : Own w2 w.heap.size (.slice A5 L.length cap4) L := own_beside (hL1.below (below_alloc w1 (.cells #[.int .i64 p, .int .i64 q] 58))) k2 (by cases hz : (Value.slice A5 L.length cap4).ownBlock with | none => exact Or.inl rfl | some z => exact Or.inr (fun e => by have := (hown.lt z hz).2; have := (o1.lt _ e.symm).1; omega)); have hr2 := (own_cells hL2).dropS hm hcap1; have s2 := k2.size; (try simp at s2)) | (refine step_append_lies _ (by rfl) _ _ _ (by rfl) wq.heap.size 58 i0 (.agg #[.int .i64 0, .int .i64 0]) 2 16 Try.underlying25 hi hz0 hz1 hz2 rfl (by decide) _ _ _ (by rfl) o1 ⟨wq.heap.size + 1, 0, none⟩ 1 1 (flat [(p, q)]) (by rfl) (by rfl) (World.news_of_block (cs := #[.int .i64 p, .int .i64 q]) (t := 58) (fr := (0, 0)) hpq) flat_one (by omega) (by unfold maxLen; omega) (by omega) (by omega) w1.heap.size rfl ?_; intro g3 cap3 w2 o2 k2 at2 lt2; have hb2 := hb1.grown k2 (by omega) (fun z hz => by have := (o1.lt _ hz).1; omega); have f3 := cell_on hb2 hbl c1; have f4 := cell_on hb2 hbl c2; have hL2 : Own w2 w.heap.size (.slice A5 L.length cap4) L := own_beside hL1 k2 (by cases hz : (Value.slice A5 L.length cap4).ownBlock with | none => exact Or.inl rfl | some z => exact Or.inr (fun e => by have := (hown.lt z hz).2; have := (o1.lt _ e.symm).1; omega)); have hr2 := (own_cells hL2).dropS hm hcap1; have s2 := k2.size; (try simp at s2)) | (refine step_append_lies _ (by rfl) _ _ _ (by rfl) wq.heap.size 58 i0 (.agg #[.int .i64 0, .int .i64 0]) 2 16 Try.underlying25 hi hz0 hz1 hz2 rfl (by decide) _ _ _ (by rfl) o1 ⟨wq.heap.size, 0, none⟩ 1 1 (flat [(p, q)]) (by rfl) (by rfl) (World.news_of_block (cs := #[.int .i64 p, .int .i64 q]) (t := 58) (fr := (0, 0)) hpr) flat_one (by omega) (by unfold maxLen; omega) (by omega) (by omega) w1.heap.size rfl ?_; intro g3 cap3 w2 o2 k2 at2 lt2; have hb2 := hb1.grown k2 (by omega) (fun z hz => by have := (o1.lt _ hz).1; omega); have f3 := cell_on hb2 hbl c1; have f4 := cell_on hb2 hbl c2; have hL2 : Own w2 w.heap.size (.slice A5 L.length cap4) L := own_beside hL1 k2 (by cases hz : (Value.slice A5 L.length cap4).ownBlock with | none => exact Or.inl rfl | some z => exact Or.inr (fun e => by have := (hown.lt z hz).2; have := (o1.lt _ e.symm).1; omega)); have hr2 := (own_cells hL2).dropS hm hcap1; have s2 := k2.size; (try simp at s2)) | (refine step_append_slice _ (by rfl) _ _ 25 (by rfl) wq.heap.size 58 i0 (.agg #[.int .i64 0, .int .i64 0]) 2 16 Try.underlying25 hi hz0 hz1 hz2 rfl (by decide) _ _ _ (by rfl) o2 (if cap4 = m then A5 else A5.map (·.add (m * 2))) (L.length - m) _ (flat (L.drop m)) (by rfl) hr2 flat_one (by unfold maxLen; omega) (by omega) (by omega) ?_; intro v3 w3 o3 k3 at3; have hb3 := hb2.grown k3 (by omega) (fun z hz => by have := (o2.lt _ hz).1; omega); have f5 := cell_on hb3 hbl c1; have f6 := cell_on hb3 hbl c2)))
                all_goals
                  have hO3 : Own w3 w.heap.size v3 (sortC (cs.take (k + 1))) := by
                    have t : Own w3 wq.heap.size v3 (L.take m ++ [(p, q)] ++ L.drop m) := by
                      unfold Own
                      rw [flat_append, flat_append, show (L.take m ++ [(p, q)] ++ L.drop m).length = m + 1 + (L.length - m) by simp; omega]
                      exact o3
                    rw [HN.out]
                    have u := t.mono (base' := w.heap.size) (by omega)
                    simpa using u
                  clear o3 o2 o1 hL1 hL2 hr2 k1 k2 k3 at1 at2 at3
                  go_wp2
                  go_roundw
                  case rel => exact ⟨k + 1, by omega, by go_num, hO3, hb3⟩
                  case measure => simp [intOf]; omega
            · have hne : ¬ ((x, y) : C) = (p, q) := fun e => hp (congrArg Prod.fst e)
              have HN : Hid (sortC (cs.take (k + 1)) = L.take m ++ (p, q) :: L.drop m) := by
                show _ = _
                rw [take_next HK.out, sortC_snoc, ← HL.out]
                exact insC_at (by rw [HL.out]; exact sortC_sorted _) hm (HM.out _ HK.out) (fun d hd _ => by have := HX.out.symm.trans hd; injection this with this; subst this; cases hx : bef (x, y) (p, q) with | true => rfl | false => exact absurd (bef_total hx HV.out) hne)
              clear hne
              go_wp2
              (refine wp_region_later (by kernel_rfl) (by kernel_rfl) ?_; (repeat (go_big_quiet_step (fail))); refine wpQuiet_nil ?_; rintro wq ⟨xq, hxq⟩; have hq := later_below hxq; clear hxq xq)
              have hown := hown.below hq
              have hb := hb.trans (hq.mono hb.size)
              clear hq l1 l2 l3 l4 w1c w2c x1 x2 hbl4
              obtain ⟨A5, hA5⟩ : ∃ A5 : Option Addr, A5 = some ⟨b4, o4, none⟩ := ⟨_, rfl⟩
              rw [← hA5] at hown ⊢
              clear hA5
              go_wp2
              obtain ⟨hcap1, hcap2⟩ := own_cap hown
              unfold maxLen at hcap2
              have hmc : m ≤ cap4 := by omega
              have hO0 := own_empty wq
              have hsz := hb.size
              have hblq : b < wq.heap.size := Nat.lt_of_lt_of_le hbl hsz
              have e1 := cell_on hb hbl c1
              have e2 := cell_on hb hbl c2
              have hb0 := hb.alloc hsz (.cells #[] 58)
              have e3 := cell_on hb0 hbl c1
              have e4 := cell_on hb0 hbl c2
              have hb00 := hb0.alloc hb0.size (.cells #[.int .i64 p, .int .i64 q] 58)
              have hnew := heap_alloc_new (wq.alloc (.cells #[] 58)) (.cells #[.int .i64 p, .int .i64 q] 58)
              rw [show (wq.alloc (.cells #[] 58)).heap.size = wq.heap.size + 1 by simp] at hnew
              have hb02 := hb.alloc hsz (.cells #[.int .i64 p, .int .i64 q] 58)
              have hb01 := hb02.alloc hb02.size (.cells #[] 58)
              have h3 := cell_on hb02 hbl c1
              have h4 := cell_on hb02 hbl c2
              have h5 := cell_on hb01 hbl c1
              have h6 := cell_on hb01 hbl c2
              have hO1 := (own_empty (wq.alloc (.cells #[.int .i64 p, .int .i64 q] 58))).mono (base' := wq.heap.size) (by simp)
              rw [show (wq.alloc (.cells #[.int .i64 p, .int .i64 q] 58)).heap.size = wq.heap.size + 1 by simp] at hO1
              have hnew1 : ((wq.alloc (.cells #[.int .i64 p, .int .i64 q] 58)).alloc (.cells #[] 58)).heap[wq.heap.size]? = some (.cells #[.int .i64 p, .int .i64 q] 58 (0, 0)) := (Below.heap_alloc _ _ _ (by simp)).trans (heap_alloc_new wq _)
              have h1 := cell_on hb00 hbl c1
              have h2 := cell_on hb00 hbl c2
              have hr := own_cells hown
              have hr0 := hr.below (below_alloc wq (.cells #[] 58))
              have hr1 := (hr.below (below_alloc wq (.cells #[.int .i64 p, .int .i64 q] 58))).below (below_alloc _ (.cells #[] 58))
              go_region_held3 (fun ω => ω.cell? ⟨b, o + k * 2, none⟩ = some (.int .i64 p) ∧ ω.cell? ⟨b, o + k * 2 + 1, none⟩ = some (.int .i64 q)) (first | exact ⟨e1, e2⟩ | exact ⟨e3, e4⟩ | exact ⟨h1, h2⟩ | exact ⟨h3, h4⟩ | exact ⟨h5, h6⟩ | exact ⟨f1, f2⟩ | exact ⟨g1, g2⟩ | exact ⟨f3, f4⟩ | exact ⟨f5, f6⟩) ((first | (refine step_append_slice _ (by rfl) _ _ 25 (by rfl) wq.heap.size 58 i0 (.agg #[.int .i64 0, .int .i64 0]) 2 16 Try.underlying25 hi hz0 hz1 hz2 rfl (by decide) _ _ _ (by rfl) (World.ownsRow.drew hO0) A5 m cap4 (flat (L.take m)) (by rfl) ((hr0.below (Below.refl _ _).drew).takeS hm) flat_one (by simp; unfold maxLen; omega) (by simp; omega) (by simp) ?_; intro v1 w1 o1x k1 at1; have o1 : w1.ownsRow wq.heap.size 58 2 v1 m (flat (L.take m)) := (by have t := o1x; rw [show flat [] ++ flat (L.take m) = flat (L.take m) from rfl, show ([] : List C).length + m = m from Nat.zero_add m] at t; exact t); clear o1x; have hb1 := hb0.drew.grown k1 (by simp; omega) (by intro z hz; simp [Value.ownBlock] at hz; omega); have f1 := cell_on hb1 hbl c1; have f2 := cell_on hb1 hbl c2; have hb1' := hb1.alloc hb1.size (.cells #[.int .i64 p, .int .i64 q] 58); have g1 := cell_on hb1' hbl c1; have g2 := cell_on hb1' hbl c2; have hL1 : Own w1 w.heap.size (.slice A5 L.length cap4) L := own_beside (World.ownsRow.drew (hown.below (below_alloc wq (.cells #[] 58)))) k1 (by cases hz : (Value.slice A5 L.length cap4).ownBlock with | none => exact Or.inl rfl | some z => exact Or.inr (fun e => by have := (hown.lt z hz).2; simp [Value.ownBlock] at e; omega)); have s1 := k1.size; (try simp at s1)) | (refine step_append_slice _ (by rfl) _ _ 25 (by rfl) wq.heap.size 58 i0 (.agg #[.int .i64 0, .int .i64 0]) 2 16 Try.underlying25 hi hz0 hz1 hz2 rfl (by decide) _ _ _ (by rfl) (World.ownsRow.drew (World.ownsRow.alloc hO0 _)) A5 m cap4 (flat (L.take m)) (by rfl) (((hr0.below (below_alloc _ (.cells #[.int .i64 p, .int .i64 q] 58))).below (Below.refl _ _).drew).takeS hm) flat_one (by simp; unfold maxLen; omega) (by simp; omega) (by simp; omega) ?_; intro v1 w1 o1x k1 at1; have o1 : w1.ownsRow wq.heap.size 58 2 v1 m (flat (L.take m)) := (by have t := o1x; rw [show flat [] ++ flat (L.take m) = flat (L.take m) from rfl, show ([] : List C).length + m = m from Nat.zero_add m] at t; exact t); clear o1x; have hb1 := hb00.drew.grown k1 (by simp; omega) (by intro z hz; simp [Value.ownBlock] at hz; omega); have f1 := cell_on hb1 hbl c1; have f2 := cell_on hb1 hbl c2; have hL1 : Own w1 w.heap.size (.slice A5 L.length cap4) L := own_beside (World.ownsRow.drew ((hown.below (below_alloc wq (.cells #[] 58))).below (below_alloc _ (.cells #[.int .i64 p, .int .i64 q] 58)))) k1 (by cases hz : (Value.slice A5 L.length cap4).ownBlock with | none => exact Or.inl rfl | some z => exact Or.inr (fun e => by have := (hown.lt z hz).2; simp [Value.ownBlock] at e; omega)); have hpq : w1.heap[wq.heap.size + 1]? = some (.cells #[.int .i64 p, .int .i64 q] 58 (0, 0)) := (k1.block (wq.heap.size + 1) (by simp) (by simp [Value.ownBlock])).trans hnew; have s1 := k1.size; (try simp at s1)) | (refine step_append_slice _ (by rfl) _ _ 25 (by rfl) wq.heap.size 58 i0 (.agg #[.int .i64 0, .int .i64 0]) 2 16 Try.underlying25 hi hz0 hz1 hz2 rfl (by decide) _ _ _ (by rfl) (World.ownsRow.drew hO1) A5 m cap4 (flat (L.take m)) (by rfl) ((hr1.below (Below.refl _ _).drew).takeS hm) flat_one (by simp; unfold maxLen; omega) (by simp; omega) (by simp; omega) ?_; intro v1 w1 o1x k1 at1; have o1 : w1.ownsRow wq.heap.size 58 2 v1 m (flat (L.take m)) := (by have t := o1x; rw [show flat [] ++ flat (L.take m) = flat (L.take m) from rfl, show ([] : List C).length + m = m from Nat.zero_add m] at t; exact t); clear o1x; have hb1 := hb01.drew.grown k1 (by simp; omega) (by intro z hz; simp [Value.ownBlock] at hz; omega); have f1 := cell_on hb1 hbl c1; have f2 := cell_on hb1 hbl c2; have hL1 : Own w1 w.heap.size (.slice A5 L.length cap4) L := own_beside (World.ownsRow.drew ((hown.below (below_alloc wq (.cells #[.int .i64 p, .int .i64 q] 58))).below (below_alloc _ (.cells #[] 58)))) k1 (by cases hz : (Value.slice A5 L.length cap4).ownBlock with | none => exact Or.inl rfl | some z => exact Or.inr (fun e => by have := (hown.lt z hz).2; simp [Value.ownBlock] at e; omega)); have hpr : w1.heap[wq.heap.size]? = some (.cells #[.int .i64 p, .int .i64 q] 58 (0, 0)) := (k1.block wq.heap.size (by simp; omega) (by simp [Value.ownBlock])).trans hnew1; have s1 := k1.size; (try simp at s1)) | (refine step_append_lies _ (by rfl) _ _ _ (by rfl) wq.heap.size 58 i0 (.agg #[.int .i64 0, .int .i64 0]) 2 16 Try.underlying25 hi hz0 hz1 hz2 rfl (by decide) _ _ _ (by rfl) (World.ownsRow.alloc o1 _) ⟨w1.heap.size, 0, none⟩ 1 1 (flat [(p, q)]) (by rfl) (by rfl) (World.news_of_block (cs := #[.int .i64 p, .int .i64 q]) (t := 58) (fr := (0, 0)) (heap_alloc_new w1 _)) flat_one (by omega) (by unfold maxLen; omega) (by omega) (by simp; omega) (w1.heap.size + 1) (by simp) ?_; intro g3 cap3 w2 o2 k2 at2 lt2; have hb2 := hb1'.grown k2 (by simp; have := hb1.size; omega) (fun z hz => by have := (o1.lt _ hz).1; omega); have f3 := cell_on hb2 hbl c1; have f4 := cell_on hb2 hbl c2; have hL2 : Own w2 w.heap.size (.slice A5 L.length cap4) L := own_beside (hL1.below (below_alloc w1 (.cells #[.int .i64 p, .int .i64 q] 58))) k2 (by cases hz : (Value.slice A5 L.length cap4).ownBlock with | none => exact Or.inl rfl | some z => exact Or.inr (fun e => by have := (hown.lt z hz).2; have := (o1.lt _ e.symm).1; omega)); have hr2 := (own_cells hL2).dropS hm hcap1; have s2 := k2.size; (try simp at s2)) | (refine step_append_lies _ (by rfl) _ _ _ (by rfl) wq.heap.size 58 i0 (.agg #[.int .i64 0, .int .i64 0]) 2 16 Try.underlying25 hi hz0 hz1 hz2 rfl (by decide) _ _ _ (by rfl) o1 ⟨wq.heap.size + 1, 0, none⟩ 1 1 (flat [(p, q)]) (by rfl) (by rfl) (World.news_of_block (cs := #[.int .i64 p, .int .i64 q]) (t := 58) (fr := (0, 0)) hpq) flat_one (by omega) (by unfold maxLen; omega) (by omega) (by omega) w1.heap.size rfl ?_; intro g3 cap3 w2 o2 k2 at2 lt2; have hb2 := hb1.grown k2 (by omega) (fun z hz => by have := (o1.lt _ hz).1; omega); have f3 := cell_on hb2 hbl c1; have f4 := cell_on hb2 hbl c2; have hL2 : Own w2 w.heap.size (.slice A5 L.length cap4) L := own_beside hL1 k2 (by cases hz : (Value.slice A5 L.length cap4).ownBlock with | none => exact Or.inl rfl | some z => exact Or.inr (fun e => by have := (hown.lt z hz).2; have := (o1.lt _ e.symm).1; omega)); have hr2 := (own_cells hL2).dropS hm hcap1; have s2 := k2.size; (try simp at s2)) | (refine step_append_lies _ (by rfl) _ _ _ (by rfl) wq.heap.size 58 i0 (.agg #[.int .i64 0, .int .i64 0]) 2 16 Try.underlying25 hi hz0 hz1 hz2 rfl (by decide) _ _ _ (by rfl) o1 ⟨wq.heap.size, 0, none⟩ 1 1 (flat [(p, q)]) (by rfl) (by rfl) (World.news_of_block (cs := #[.int .i64 p, .int .i64 q]) (t := 58) (fr := (0, 0)) hpr) flat_one (by omega) (by unfold maxLen; omega) (by omega) (by omega) w1.heap.size rfl ?_; intro g3 cap3 w2 o2 k2 at2 lt2; have hb2 := hb1.grown k2 (by omega) (fun z hz => by have := (o1.lt _ hz).1; omega); have f3 := cell_on hb2 hbl c1; have f4 := cell_on hb2 hbl c2; have hL2 : Own w2 w.heap.size (.slice A5 L.length cap4) L := own_beside hL1 k2 (by cases hz : (Value.slice A5 L.length cap4).ownBlock with | none => exact Or.inl rfl | some z => exact Or.inr (fun e => by have := (hown.lt z hz).2; have := (o1.lt _ e.symm).1; omega)); have hr2 := (own_cells hL2).dropS hm hcap1; have s2 := k2.size; (try simp at s2)) | (refine step_append_slice _ (by rfl) _ _ 25 (by rfl) wq.heap.size 58 i0 (.agg #[.int .i64 0, .int .i64 0]) 2 16 Try.underlying25 hi hz0 hz1 hz2 rfl (by decide) _ _ _ (by rfl) o2 (if cap4 = m then A5 else A5.map (·.add (m * 2))) (L.length - m) _ (flat (L.drop m)) (by rfl) hr2 flat_one (by unfold maxLen; omega) (by omega) (by omega) ?_; intro v3 w3 o3 k3 at3; have hb3 := hb2.grown k3 (by omega) (fun z hz => by have := (o2.lt _ hz).1; omega); have f5 := cell_on hb3 hbl c1; have f6 := cell_on hb3 hbl c2)))
              all_goals
                have hO3 : Own w3 w.heap.size v3 (sortC (cs.take (k + 1))) := by
                  have t : Own w3 wq.heap.size v3 (L.take m ++ [(p, q)] ++ L.drop m) := by
                    unfold Own
                    rw [flat_append, flat_append, show (L.take m ++ [(p, q)] ++ L.drop m).length = m + 1 + (L.length - m) by simp; omega]
                    exact o3
                  rw [HN.out]
                  have u := t.mono (base' := w.heap.size) (by omega)
                  simpa using u
                clear o3 o2 o1 hL1 hL2 hr2 k1 k2 k3 at1 at2 at3
                go_wp2
                go_roundw
                case rel => exact ⟨k + 1, by omega, by go_num, hO3, hb3⟩
                case measure => simp [intOf]; omega
    · obtain rfl : k = n := by omega
      have HE : Hid (L = sortC cs) := by
        show _ = _
        rw [HL.out, List.take_of_length_le (by rw [hl.out]; exact Nat.le_refl _)]
      have hO : Own wr w.heap.size (.slice A4 L.length cap4) (sortC cs) := by
        rw [← HE.out]; exact hown
      clear h
      go_wp2
      go_ret
      exact ⟨_, rfl, hO, hb⟩
end Go.Proofs.Ythhaojbnnacdbaa
