/- l3Put, the reference's: a shape goes into an ordered list. Condition: sizes. -/
import Derived.Test.YtacegndmclnbnaaGreatDoorPut
import Derived.Test.YtacegndmclnbnaaGreatDoorApp
import Derived.Test.YtacegndmclnbnaaGreatDoorSortS
namespace Go.Proofs.YtacegndmclnbnaaGreatDoor
open Go.RowKit

theorem own_emptyL (w : World) : (w.alloc (.cells #[] 24)).ownsRow w.heap.size 24 1 (.slice (some ⟨w.heap.size, 0, none⟩) 0 0) 0 [] :=
  ⟨rfl, Or.inr ⟨w.heap.size, 0, #[], rfl, Nat.le_refl _, heap_alloc_new w _, Nat.le_refl _, by unfold maxLen; omega, rfl, rfl⟩⟩
theorem SliceAt.below {w w' : World} {sz n : Nat} {A : Option Addr} {xs : List Value} (h : SliceAt w sz A n xs) (hb : Below w.heap.size w w') : SliceAt w' sz A n xs :=
  ⟨h.1, fun hn => by
    obtain ⟨ad, e, hc⟩ := h.2 hn
    exact ⟨ad, e, fun j u hu => (hb.cell (p := ad.add j) (World.block_lt_of_cell? w _ (hc j u hu))).trans (hc j u hu)⟩⟩

set_option maxRecDepth 100000 in
set_option maxHeartbeats 3200000 in
theorem specPut (A : Option Addr) (n cap : Nat) (ls : L2) (B : Option Addr) (m c : Nat) (cs : List C) (w : World) (hn : n ≤ 1000000) (hnc : n ≤ cap) (hcm : cap ≤ maxLen) (hsh : shortS ls) (hm : m ≤ 1048576) (hs : SortedS ls)
    (h : ShapesAt w A n ls) (ho : CellsAt w B m cs) :
    Calls Tryz.prog 127 #[.slice A n cap, .slice B m c] w (SpecL w (insS cs ls)) := by
  obtain ⟨i0, hi, hz0, hz1, hz2⟩ := info_parts Tryz.infoL
  have HL : Hid (ls.length = n) := h.1
  have HSH := Lib.hid hsh
  have HS := Lib.hid hs
  clear hsh hs
  unfold maxLen at hcm
  go_enter Tryz.func127, Tryz.ntmps127
  go_wp2
  go_loopw [5] (fun z wr => ∃ q : Nat, q ≤ n ∧ z = .int .i64 q ∧ Hid (∀ (t : Nat) (x : List C), q ≤ t → ls[t]? = some x → cmpC cs x < 0) ∧ Below w.heap.size w wr) (fun z _ => (intOf z).toNat)
  case atStart => exact ⟨n, Nat.le_refl _, rfl, (show ∀ (t : Nat) (x : List C), _ from fun t x ht hx => by have := (List.getElem?_eq_some_iff.1 hx).1; have := HL.out; omega), Below.refl _ _⟩
  case round =>
    obtain ⟨q, hq, rfl, HQ, hbx⟩ := hrel
    by_cases hq0 : q = 0
    · have d0 : decide ((0 : Int) < (q : Int)) = false := by simp; omega
      have d0' : decide (0 < q) = false := by simp; omega
      have HN : Hid (insS cs ls = ls.take q ++ cs :: ls.drop q) := insS_back HS.out (by rw [HL.out]; exact hq) HQ.out (fun h0 => absurd h0 (by omega)) (fun h0 => absurd h0 (by omega))
      have HQ0 := Lib.hid hq0
      clear hq0
      obtain ⟨wx, hwx⟩ : ∃ wx, wx = wr := ⟨_, rfl⟩
      obtain ⟨A5, hA5⟩ : ∃ A5, A5 = A := ⟨_, rfl⟩
      rw [← hwx] at hbx ⊢
      rw [← hA5] at h ⊢
      clear hwx hA5
      have hqc : q ≤ cap := by omega
      obtain ⟨vs, hAR, hval⟩ := (h.below hbx).vals
      have hvl : vs.length = n := by rw [hAR.1]; exact HL.out
      have HX : Hid (AllRead wx (vs.take q ++ .slice B m c :: vs.drop q) (ls.take q ++ cs :: ls.drop q)) := hAR.put ⟨B, m, c, rfl, ho.below hbx⟩ q (by rw [HL.out]; exact hq)
      have TK : Hid (SliceAt wx 1 A5 q (vs.take q)) := by
        refine ⟨by simp; omega, fun h0 => ?_⟩
        obtain ⟨b, o, e, hlt, hc⟩ := hval (by omega)
        refine ⟨_, e, fun j u hu => ?_⟩
        rw [Addr.add_lit]
        rw [List.getElem?_take] at hu
        split at hu
        · exact hc j u hu
        · cases hu
      have DR : Hid (SliceAt wx 1 (if cap = q then A5 else A5.map (·.add q)) (n - q) (vs.drop q)) := by
        refine ⟨by simp; omega, fun h0 => ?_⟩
        obtain ⟨b, o, e, hlt, hc⟩ := hval (by omega)
        rw [if_neg (by omega)]
        subst e
        refine ⟨⟨b, o + q, none⟩, by simp [Addr.add_lit], fun j u hu => ?_⟩
        rw [Addr.add_lit]
        rw [List.getElem?_drop] at hu
        have := hc (q + j) u hu
        rwa [show o + (q + j) = o + q + j by omega] at this
      have ONE1 : Hid (∀ u, u ∈ vs.take q → u.oneCell' = true) := (show ∀ u, _ from fun u hu => hAR.one u (List.mem_of_mem_take hu))
      have ONE2 : Hid (∀ u, u ∈ vs.drop q → u.oneCell' = true) := (show ∀ u, _ from fun u hu => hAR.one u (List.mem_of_mem_drop hu))
      have ONEu : Hid (∀ u, u ∈ [Value.slice B m c] → u.oneCell' = true) := (show ∀ u, _ from fun u hu => by rw [List.mem_singleton.1 hu]; rfl)
      have hO0 := own_emptyL wx
      have hnew := heap_alloc_new (wx.alloc (.cells #[] 24)) (.cells #[.slice B m c] 24)
      rw [show (wx.alloc (.cells #[] 24)).heap.size = wx.heap.size + 1 by simp] at hnew
      have hO1 := own_emptyL (wx.alloc (.cells #[.slice B m c] 24))
      rw [show (wx.alloc (.cells #[.slice B m c] 24)).heap.size = wx.heap.size + 1 by simp] at hO1
      have hO1 : ((wx.alloc (.cells #[.slice B m c] 24)).alloc (.cells #[] 24)).ownsRow wx.heap.size 24 1 (.slice (some ⟨wx.heap.size + 1, 0, none⟩) 0 0) 0 [] := ⟨hO1.1, hO1.2.imp id fun ⟨g, cp, cur, e, hg, r⟩ => ⟨g, cp, cur, e, by omega, r⟩⟩
      have hnew1 : ((wx.alloc (.cells #[.slice B m c] 24)).alloc (.cells #[] 24)).heap[wx.heap.size]? = some (.cells #[.slice B m c] 24 (0, 0)) := (Below.heap_alloc _ _ _ (by simp)).trans (heap_alloc_new wx _)
      clear hAR hval
      go_wp2
      go_region_held3 (fun _ => True) (exact trivial) (first | (refine step_append_slice _ (by rfl) _ _ 127 (by rfl) wx.heap.size 24 i0 (.slice none 0 0) 1 24 Tryz.underlying127 hi hz0 hz1 hz2 rfl (by decide) _ _ _ (by rfl) (World.ownsRow.drew hO0) A5 q cap (vs.take q) (by rfl) (TK.out.below (below_alloc wx (.cells #[] 24)).drew) ONE1.out (by simp; unfold maxLen; omega) (by first | omega | (simp; omega)) (by first | omega | (simp; done) | (simp; omega)) ?_; intro v1 w1 o1x k1 at1; have o1 : w1.ownsRow wx.heap.size 24 1 v1 q (vs.take q) := (by simpa using o1x); clear o1x; have hb1 : Below wx.heap.size wx w1 := (below_alloc wx (.cells #[] 24)).drew.grown k1 (by first | omega | (simp; done) | (simp; omega)) (by intro z hz; simp [Value.ownBlock] at hz; omega); have s1 := hb1.size) | (refine step_append_slice _ (by rfl) _ _ 127 (by rfl) wx.heap.size 24 i0 (.slice none 0 0) 1 24 Tryz.underlying127 hi hz0 hz1 hz2 rfl (by decide) _ _ _ (by rfl) (World.ownsRow.drew (World.ownsRow.alloc hO0 _)) A5 q cap (vs.take q) (by rfl) (TK.out.below (below2' wx (.cells #[] 24) (.cells #[.slice B m c] 24)).drew) ONE1.out (by simp; unfold maxLen; omega) (by first | omega | (simp; omega)) (by first | omega | (simp; done) | (simp; omega)) ?_; intro v1 w1 o1x k1 at1; have o1 : w1.ownsRow wx.heap.size 24 1 v1 q (vs.take q) := (by simpa using o1x); clear o1x; have hb1 : Below wx.heap.size wx w1 := (below2' wx (.cells #[] 24) (.cells #[.slice B m c] 24)).drew.grown k1 (by first | omega | (simp; done) | (simp; omega)) (by intro z hz; simp [Value.ownBlock] at hz; omega); have s1 := hb1.size; have hpq := (k1.block (wx.heap.size + 1) (by simp) (by simp [Value.ownBlock])).trans hnew) | (refine step_append_slice _ (by rfl) _ _ 127 (by rfl) wx.heap.size 24 i0 (.slice none 0 0) 1 24 Tryz.underlying127 hi hz0 hz1 hz2 rfl (by decide) _ _ _ (by rfl) (World.ownsRow.drew hO1) A5 q cap (vs.take q) (by rfl) (TK.out.below (below2' wx (.cells #[.slice B m c] 24) (.cells #[] 24)).drew) ONE1.out (by simp; unfold maxLen; omega) (by first | omega | (simp; omega)) (by first | omega | (simp; done) | (simp; omega)) ?_; intro v1 w1 o1x k1 at1; have o1 : w1.ownsRow wx.heap.size 24 1 v1 q (vs.take q) := (by simpa using o1x); clear o1x; have hb1 : Below wx.heap.size wx w1 := (below2' wx (.cells #[.slice B m c] 24) (.cells #[] 24)).drew.grown k1 (by first | omega | (simp; done) | (simp; omega)) (by intro z hz; simp [Value.ownBlock] at hz; omega); have s1 := hb1.size; have hpr := (k1.block wx.heap.size (by first | omega | (simp; done) | (simp; omega)) (by simp [Value.ownBlock])).trans hnew1) | (refine step_append_lies _ (by rfl) _ _ 127 (by rfl) wx.heap.size 24 i0 (.slice none 0 0) 1 24 Tryz.underlying127 hi hz0 hz1 hz2 rfl (by decide) _ _ _ (by rfl) (World.ownsRow.alloc o1 _) ⟨w1.heap.size, 0, none⟩ 1 1 [.slice B m c] (by rfl) (by rfl) (World.news_of_block (cs := #[.slice B m c]) (heap_alloc_new w1 _)) ONEu.out (by omega) (by unfold maxLen; omega) (by omega) (by first | omega | (simp; done) | (simp; omega)) (w1.heap.size + 1) (by simp) ?_; intro g3 cap3 w2 o2 k2 at2 lt2; have hb2 : Below wx.heap.size wx w2 := (hb1.alloc s1 (.cells #[.slice B m c] 24)).grown k2 (by first | omega | (simp; done) | (simp; omega)) (fun z hz => by have := (o1.lt _ hz).1; omega); have s2 := hb2.size) | (refine step_append_lies _ (by rfl) _ _ 127 (by rfl) wx.heap.size 24 i0 (.slice none 0 0) 1 24 Tryz.underlying127 hi hz0 hz1 hz2 rfl (by decide) _ _ _ (by rfl) o1 ⟨wx.heap.size + 1, 0, none⟩ 1 1 [.slice B m c] (by rfl) (by rfl) (World.news_of_block (cs := #[.slice B m c]) hpq) ONEu.out (by omega) (by unfold maxLen; omega) (by omega) (by first | omega | (simp; done) | (simp; omega)) w1.heap.size rfl ?_; intro g3 cap3 w2 o2 k2 at2 lt2; have hb2 : Below wx.heap.size wx w2 := hb1.grown k2 (by first | omega | (simp; done) | (simp; omega)) (fun z hz => by have := (o1.lt _ hz).1; omega); have s2 := hb2.size) | (refine step_append_lies _ (by rfl) _ _ 127 (by rfl) wx.heap.size 24 i0 (.slice none 0 0) 1 24 Tryz.underlying127 hi hz0 hz1 hz2 rfl (by decide) _ _ _ (by rfl) o1 ⟨wx.heap.size, 0, none⟩ 1 1 [.slice B m c] (by rfl) (by rfl) (World.news_of_block (cs := #[.slice B m c]) hpr) ONEu.out (by omega) (by unfold maxLen; omega) (by omega) (by first | omega | (simp; done) | (simp; omega)) w1.heap.size rfl ?_; intro g3 cap3 w2 o2 k2 at2 lt2; have hb2 : Below wx.heap.size wx w2 := hb1.grown k2 (by first | omega | (simp; done) | (simp; omega)) (fun z hz => by have := (o1.lt _ hz).1; omega); have s2 := hb2.size) | (refine step_append_slice _ (by rfl) _ _ 127 (by rfl) wx.heap.size 24 i0 (.slice none 0 0) 1 24 Tryz.underlying127 hi hz0 hz1 hz2 rfl (by decide) _ _ _ (by rfl) o2 (if cap = q then A5 else A5.map (·.add q)) (n - q) _ (vs.drop q) (by rfl) (DR.out.below hb2) ONE2.out (by unfold maxLen; omega) (by omega) (by omega) ?_; intro v3 w3 o3 k3 at3; have hb3 : Below wx.heap.size wx w3 := hb2.grown k3 (by omega) (fun z hz => by have := (o2.lt _ hz).1; omega)))
      all_goals
        have hl3 : (ls.take q ++ cs :: ls.drop q).length = q + 1 + (n - q) := by have := HL.out; simp; omega
        have o3' : w3.ownsRow wx.heap.size 24 1 v3 (q + 1 + (n - q)) (vs.take q ++ .slice B m c :: vs.drop q) := by simpa using o3
        obtain ⟨A6, cap6, rfl, hr6, hle6, hmx6⟩ := shapes_of_row o3' hl3 (HX.out.below hb3)
        clear o1 o2 o3 k1 k2 k3 at1 at2 at3 TK DR
        have hb4 := Lib.hid (hbx.trans (hb3.mono hbx.size))
        have hR6 := Lib.hid hr6
        have hL3 := Lib.hid hl3
        clear hr6 hl3
        go_wp2
        all_goals go_ret
        all_goals
          rw [HN.out]
          unfold SpecL
          rw [hL3.out]
          exact ⟨A6, cap6, rfl, ⟨hR6.out, hle6, hmx6⟩, hb4.out⟩
    · have hq1 : (0 : Int) < (q : Int) := by omega
      have hq2 : 0 < q := by omega
      have hqc : q ≤ cap := by omega
      obtain ⟨b, o, D, d, dc, ds, rfl, hbb, HK, c2, r2⟩ := (h.below hbx).at_ (k := q - 1) (by omega)
      have hke : ((q : Int) - 1).toNat = q - 1 := by omega
      have hq3 : (0 : Int) ≤ (q : Int) - 1 := by omega
      have hq4 : (q : Int) - 1 < (n : Int) := by omega
      have hd : d ≤ 1048576 := by rw [← r2.1]; exact HSH.out _ (List.mem_of_getElem? HK.out)
      have hC := specCompareShapes B D m d c dc cs ds wr hm hd (ho.below hbx) r2
      have r2 := Lib.hid r2
      clear hq0
      by_cases hc : cmpC cs ds < 0
      · have HQ2 : Hid (∀ (t : Nat) (x : List C), q - 1 ≤ t → ls[t]? = some x → cmpC cs x < 0) := (show ∀ (t : Nat) (x : List C), _ from fun t x ht hx => by
          by_cases e : t = q - 1
          · subst e; rw [HK.out] at hx; injection hx with hx; rw [← hx]; exact hc
          · exact HQ.out t x (by omega) hx)
        clear h ho
        go_wp2_with fail
        refine hC.mono ?_
        rintro e w2 ⟨rfl, hb2⟩
        have hb3 := hbx.trans (hb2.mono hbx.size)
        go_wp2
        go_roundw
        case rel => exact ⟨q - 1, by omega, by congr 1; omega, HQ2, hb3⟩
        case measure => simp [intOf]; omega
      · have HGE : Hid (0 ≤ cmpC cs ds) := by show _ ≤ _; omega
        go_wp2_with fail
        refine hC.mono ?_
        rintro e w2 ⟨rfl, hb2⟩
        have hb3 := hbx.trans (hb2.mono hbx.size)
        have c3 := cell_on hb2 hbb c2
        have hE := specEqualShapes D B d m dc c ds cs w2 hd hm (r2.out.below hb2) (ho.below hb3)
        unfold EqPost at hE
        clear hC hbx c2
        by_cases he : ds = cs
        · rw [decide_eq_true he] at hE
          have HN : Hid (insS cs ls = ls) := insS_here HS.out (by rw [← he]; exact List.mem_of_getElem? HK.out)
          clear he ho
          go_wp2_with fail
          refine hE.mono ?_
          rintro e w4 ⟨rfl, hb4⟩
          have hb5 := hb3.trans (hb4.mono hb3.size)
          have hfin := h.below hb5
          clear hE h
          go_wp2
          go_ret
          rw [HN.out]
          unfold SpecL
          rw [HL.out]
          exact ⟨_, cap, rfl, ⟨hfin, hnc, by unfold maxLen; omega⟩, hb5⟩
        · rw [decide_eq_false he] at hE
          have HNE := Lib.hid he
          clear he
          go_wp2_with fail
          refine hE.mono ?_
          rintro e wx ⟨rfl, hb4⟩
          have hbx := hb3.trans (hb4.mono hb3.size)
          have HN : Hid (insS cs ls = ls.take q ++ cs :: ls.drop q) := insS_back HS.out (by rw [HL.out]; exact hq) HQ.out (fun _ x hx => by rw [HK.out] at hx; injection hx with hx; rw [← hx]; exact HGE.out) (fun _ x hx => by rw [HK.out] at hx; injection hx with hx; rw [← hx]; exact HNE.out)
          clear hE hb3 hb4 c3 hbb r2 HK
          obtain ⟨A5, hA5⟩ : ∃ A5 : Option Addr, A5 = some ⟨b, o, none⟩ := ⟨_, rfl⟩
          rw [← hA5] at h ⊢
          clear hA5
          obtain ⟨vs, hAR, hval⟩ := (h.below hbx).vals
          have hvl : vs.length = n := by rw [hAR.1]; exact HL.out
          have HX : Hid (AllRead wx (vs.take q ++ .slice B m c :: vs.drop q) (ls.take q ++ cs :: ls.drop q)) := hAR.put ⟨B, m, c, rfl, ho.below hbx⟩ q (by rw [HL.out]; exact hq)
          have TK : Hid (SliceAt wx 1 A5 q (vs.take q)) := by
            refine ⟨by simp; omega, fun h0 => ?_⟩
            obtain ⟨b, o, e, hlt, hc⟩ := hval (by omega)
            refine ⟨_, e, fun j u hu => ?_⟩
            rw [Addr.add_lit]
            rw [List.getElem?_take] at hu
            split at hu
            · exact hc j u hu
            · cases hu
          have DR : Hid (SliceAt wx 1 (if cap = q then A5 else A5.map (·.add q)) (n - q) (vs.drop q)) := by
            refine ⟨by simp; omega, fun h0 => ?_⟩
            obtain ⟨b, o, e, hlt, hc⟩ := hval (by omega)
            rw [if_neg (by omega)]
            subst e
            refine ⟨⟨b, o + q, none⟩, by simp [Addr.add_lit], fun j u hu => ?_⟩
            rw [Addr.add_lit]
            rw [List.getElem?_drop] at hu
            have := hc (q + j) u hu
            rwa [show o + (q + j) = o + q + j by omega] at this
          have ONE1 : Hid (∀ u, u ∈ vs.take q → u.oneCell' = true) := (show ∀ u, _ from fun u hu => hAR.one u (List.mem_of_mem_take hu))
          have ONE2 : Hid (∀ u, u ∈ vs.drop q → u.oneCell' = true) := (show ∀ u, _ from fun u hu => hAR.one u (List.mem_of_mem_drop hu))
          have ONEu : Hid (∀ u, u ∈ [Value.slice B m c] → u.oneCell' = true) := (show ∀ u, _ from fun u hu => by rw [List.mem_singleton.1 hu]; rfl)
          have hO0 := own_emptyL wx
          have hnew := heap_alloc_new (wx.alloc (.cells #[] 24)) (.cells #[.slice B m c] 24)
          rw [show (wx.alloc (.cells #[] 24)).heap.size = wx.heap.size + 1 by simp] at hnew
          have hO1 := own_emptyL (wx.alloc (.cells #[.slice B m c] 24))
          rw [show (wx.alloc (.cells #[.slice B m c] 24)).heap.size = wx.heap.size + 1 by simp] at hO1
          have hO1 : ((wx.alloc (.cells #[.slice B m c] 24)).alloc (.cells #[] 24)).ownsRow wx.heap.size 24 1 (.slice (some ⟨wx.heap.size + 1, 0, none⟩) 0 0) 0 [] := ⟨hO1.1, hO1.2.imp id fun ⟨g, cp, cur, e, hg, r⟩ => ⟨g, cp, cur, e, by omega, r⟩⟩
          have hnew1 : ((wx.alloc (.cells #[.slice B m c] 24)).alloc (.cells #[] 24)).heap[wx.heap.size]? = some (.cells #[.slice B m c] 24 (0, 0)) := (Below.heap_alloc _ _ _ (by simp)).trans (heap_alloc_new wx _)
          clear hAR hval
          go_wp2
          go_region_held3 (fun _ => True) (exact trivial) (first | (refine step_append_slice _ (by rfl) _ _ 127 (by rfl) wx.heap.size 24 i0 (.slice none 0 0) 1 24 Tryz.underlying127 hi hz0 hz1 hz2 rfl (by decide) _ _ _ (by rfl) (World.ownsRow.drew hO0) A5 q cap (vs.take q) (by rfl) (TK.out.below (below_alloc wx (.cells #[] 24)).drew) ONE1.out (by simp; unfold maxLen; omega) (by first | omega | (simp; omega)) (by first | omega | (simp; done) | (simp; omega)) ?_; intro v1 w1 o1x k1 at1; have o1 : w1.ownsRow wx.heap.size 24 1 v1 q (vs.take q) := (by simpa using o1x); clear o1x; have hb1 : Below wx.heap.size wx w1 := (below_alloc wx (.cells #[] 24)).drew.grown k1 (by first | omega | (simp; done) | (simp; omega)) (by intro z hz; simp [Value.ownBlock] at hz; omega); have s1 := hb1.size) | (refine step_append_slice _ (by rfl) _ _ 127 (by rfl) wx.heap.size 24 i0 (.slice none 0 0) 1 24 Tryz.underlying127 hi hz0 hz1 hz2 rfl (by decide) _ _ _ (by rfl) (World.ownsRow.drew (World.ownsRow.alloc hO0 _)) A5 q cap (vs.take q) (by rfl) (TK.out.below (below2' wx (.cells #[] 24) (.cells #[.slice B m c] 24)).drew) ONE1.out (by simp; unfold maxLen; omega) (by first | omega | (simp; omega)) (by first | omega | (simp; done) | (simp; omega)) ?_; intro v1 w1 o1x k1 at1; have o1 : w1.ownsRow wx.heap.size 24 1 v1 q (vs.take q) := (by simpa using o1x); clear o1x; have hb1 : Below wx.heap.size wx w1 := (below2' wx (.cells #[] 24) (.cells #[.slice B m c] 24)).drew.grown k1 (by first | omega | (simp; done) | (simp; omega)) (by intro z hz; simp [Value.ownBlock] at hz; omega); have s1 := hb1.size; have hpq := (k1.block (wx.heap.size + 1) (by simp) (by simp [Value.ownBlock])).trans hnew) | (refine step_append_slice _ (by rfl) _ _ 127 (by rfl) wx.heap.size 24 i0 (.slice none 0 0) 1 24 Tryz.underlying127 hi hz0 hz1 hz2 rfl (by decide) _ _ _ (by rfl) (World.ownsRow.drew hO1) A5 q cap (vs.take q) (by rfl) (TK.out.below (below2' wx (.cells #[.slice B m c] 24) (.cells #[] 24)).drew) ONE1.out (by simp; unfold maxLen; omega) (by first | omega | (simp; omega)) (by first | omega | (simp; done) | (simp; omega)) ?_; intro v1 w1 o1x k1 at1; have o1 : w1.ownsRow wx.heap.size 24 1 v1 q (vs.take q) := (by simpa using o1x); clear o1x; have hb1 : Below wx.heap.size wx w1 := (below2' wx (.cells #[.slice B m c] 24) (.cells #[] 24)).drew.grown k1 (by first | omega | (simp; done) | (simp; omega)) (by intro z hz; simp [Value.ownBlock] at hz; omega); have s1 := hb1.size; have hpr := (k1.block wx.heap.size (by first | omega | (simp; done) | (simp; omega)) (by simp [Value.ownBlock])).trans hnew1) | (refine step_append_lies _ (by rfl) _ _ 127 (by rfl) wx.heap.size 24 i0 (.slice none 0 0) 1 24 Tryz.underlying127 hi hz0 hz1 hz2 rfl (by decide) _ _ _ (by rfl) (World.ownsRow.alloc o1 _) ⟨w1.heap.size, 0, none⟩ 1 1 [.slice B m c] (by rfl) (by rfl) (World.news_of_block (cs := #[.slice B m c]) (heap_alloc_new w1 _)) ONEu.out (by omega) (by unfold maxLen; omega) (by omega) (by first | omega | (simp; done) | (simp; omega)) (w1.heap.size + 1) (by simp) ?_; intro g3 cap3 w2 o2 k2 at2 lt2; have hb2 : Below wx.heap.size wx w2 := (hb1.alloc s1 (.cells #[.slice B m c] 24)).grown k2 (by first | omega | (simp; done) | (simp; omega)) (fun z hz => by have := (o1.lt _ hz).1; omega); have s2 := hb2.size) | (refine step_append_lies _ (by rfl) _ _ 127 (by rfl) wx.heap.size 24 i0 (.slice none 0 0) 1 24 Tryz.underlying127 hi hz0 hz1 hz2 rfl (by decide) _ _ _ (by rfl) o1 ⟨wx.heap.size + 1, 0, none⟩ 1 1 [.slice B m c] (by rfl) (by rfl) (World.news_of_block (cs := #[.slice B m c]) hpq) ONEu.out (by omega) (by unfold maxLen; omega) (by omega) (by first | omega | (simp; done) | (simp; omega)) w1.heap.size rfl ?_; intro g3 cap3 w2 o2 k2 at2 lt2; have hb2 : Below wx.heap.size wx w2 := hb1.grown k2 (by first | omega | (simp; done) | (simp; omega)) (fun z hz => by have := (o1.lt _ hz).1; omega); have s2 := hb2.size) | (refine step_append_lies _ (by rfl) _ _ 127 (by rfl) wx.heap.size 24 i0 (.slice none 0 0) 1 24 Tryz.underlying127 hi hz0 hz1 hz2 rfl (by decide) _ _ _ (by rfl) o1 ⟨wx.heap.size, 0, none⟩ 1 1 [.slice B m c] (by rfl) (by rfl) (World.news_of_block (cs := #[.slice B m c]) hpr) ONEu.out (by omega) (by unfold maxLen; omega) (by omega) (by first | omega | (simp; done) | (simp; omega)) w1.heap.size rfl ?_; intro g3 cap3 w2 o2 k2 at2 lt2; have hb2 : Below wx.heap.size wx w2 := hb1.grown k2 (by first | omega | (simp; done) | (simp; omega)) (fun z hz => by have := (o1.lt _ hz).1; omega); have s2 := hb2.size) | (refine step_append_slice _ (by rfl) _ _ 127 (by rfl) wx.heap.size 24 i0 (.slice none 0 0) 1 24 Tryz.underlying127 hi hz0 hz1 hz2 rfl (by decide) _ _ _ (by rfl) o2 (if cap = q then A5 else A5.map (·.add q)) (n - q) _ (vs.drop q) (by rfl) (DR.out.below hb2) ONE2.out (by unfold maxLen; omega) (by omega) (by omega) ?_; intro v3 w3 o3 k3 at3; have hb3 : Below wx.heap.size wx w3 := hb2.grown k3 (by omega) (fun z hz => by have := (o2.lt _ hz).1; omega)))
          all_goals
            have hl3 : (ls.take q ++ cs :: ls.drop q).length = q + 1 + (n - q) := by have := HL.out; simp; omega
            have o3' : w3.ownsRow wx.heap.size 24 1 v3 (q + 1 + (n - q)) (vs.take q ++ .slice B m c :: vs.drop q) := by simpa using o3
            obtain ⟨A6, cap6, rfl, hr6, hle6, hmx6⟩ := shapes_of_row o3' hl3 (HX.out.below hb3)
            clear o1 o2 o3 k1 k2 k3 at1 at2 at3 TK DR
            have hb4 := Lib.hid (hbx.trans (hb3.mono hbx.size))
            have hR6 := Lib.hid hr6
            have hL3 := Lib.hid hl3
            clear hr6 hl3
            go_wp2
            all_goals go_ret
            all_goals
              rw [HN.out]
              unfold SpecL
              rw [hL3.out]
              exact ⟨A6, cap6, rfl, ⟨hR6.out, hle6, hmx6⟩, hb4.out⟩
end Go.Proofs.YtacegndmclnbnaaGreatDoor
