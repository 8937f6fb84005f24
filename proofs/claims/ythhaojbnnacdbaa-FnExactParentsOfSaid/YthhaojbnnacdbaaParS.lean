/- ParentsOf, the reference's: contract. Condition: slices of at most 2^20 cells, their length within their capacity. -/
import Derived.Test.YthhaojbnnacdbaaPar
import Derived.Test.YthhaojbnnacdbaaConn
namespace Go.Proofs.Ythhaojbnnacdbaa
open Go.RowKit

set_option maxRecDepth 100000 in
set_option maxHeartbeats 3200000 in
theorem specParents (A : Option Addr) (n cap : Nat) (cs : List C) (w : World) (hn : n ≤ 1048576) (h : CellsAt w A n cs) (hcap : n ≤ cap) :
    Calls Try.prog 35 #[.slice A n cap] w (SpecL w (parL cs)) := by
  obtain ⟨i0, hi, hz0, hz1, hz2⟩ := info_parts Try.infoC
  cases hs : isShape cs with
  | false =>
    have HR : Hid (parL cs = []) := by show _ = _; unfold parL; rw [hs]; rfl
    have hbE := below_alloc w (.cells #[] 25)
    have hc := specIsShape A n cap cs (w.alloc (.cells #[] 25)) hn (h.below hbE)
    rw [hs] at hc
    clear hs
    by_cases hn0 : 0 < n
    · have hi0 : (0 : Int) < (n : Int) := by omega
      go_enter Try.func35, Try.ntmps35
      go_wp2
      go_loopw [3, 4] (fun v i wr => v = .slice (some ⟨w.heap.size, 0, none⟩) 0 0 ∧ i = .int .i64 0 ∧ wr = w.alloc (.cells #[] 25)) (fun _ _ _ => 0)
      case atStart => exact ⟨rfl, rfl, rfl⟩
      case round =>
        obtain ⟨rfl, rfl, rfl⟩ := hrel
        go_wp2_with fail
        refine hc.mono ?_
        rintro e w1 ⟨rfl, hb⟩
        go_wp2
        go_ret
        rw [HR.out]
        exact ⟨_, 0, rfl, ⟨ShapesAt.none_, Nat.le_refl _, Nat.zero_le _⟩, hbE.trans (hb.mono hbE.size)⟩
    · obtain rfl : n = 0 := by omega
      go_enter Try.func35, Try.ntmps35
      go_wp2
      go_loopw [3, 4] (fun v i wr => v = .slice (some ⟨w.heap.size, 0, none⟩) 0 0 ∧ i = .int .i64 0 ∧ wr = w.alloc (.cells #[] 25)) (fun _ _ _ => 0)
      case atStart => exact ⟨rfl, rfl, rfl⟩
      case round =>
        obtain ⟨rfl, rfl, rfl⟩ := hrel
        go_wp2
        go_ret
        rw [HR.out]
        exact ⟨_, 0, rfl, ⟨ShapesAt.none_, Nat.le_refl _, Nat.zero_le _⟩, hbE⟩
  | true =>
    have HR : Hid (parL cs = parTo cs cs.length) := by show _ = _; unfold parL; rw [hs]; rfl
    have HS := Lib.hid hs
    have hl := shape_len hs
    rw [h.1] at hl
    have HL := Lib.hid h.1
    have hbE := below_alloc w (.cells #[] 25)
    clear hs
    go_enter Try.func35, Try.ntmps35
    go_wp2
    go_loopw [3, 4] (fun v i wr => ∃ (k : Nat) (P : Option Addr) (m c : Nat), k ≤ n ∧ i = .int .i64 k ∧ v = .slice P m c ∧ m = (parTo cs k).length ∧ ShapesAt wr P m (parTo cs k) ∧ m ≤ c ∧ c ≤ maxLen ∧ Below w.heap.size w wr) (fun _ i _ => n - (intOf i).toNat)
    case atStart => exact ⟨0, _, 0, 0, Nat.zero_le _, rfl, rfl, rfl, ShapesAt.none_, Nat.le_refl _, Nat.zero_le _, hbE⟩
    case round =>
      clear hbE
      obtain ⟨k, P, m, c, hk, rfl, rfl, hm, hr, hmc, hcm, hb⟩ := hrel
      have HM := Lib.hid hm
      clear hm
      by_cases hlt : k < n
      · have hki : (k : Int) < (n : Int) := by omega
        have hc := specIsShape A n cap cs wr hn (h.below hb)
        rw [HS.out] at hc
        go_wp2_with fail
        refine hc.mono ?_
        rintro e wx ⟨rfl, hbx⟩
        have hrx := hr.below hbx
        have hbX := hb.trans (hbx.mono hb.size)
        clear hc hr hb hbx
        have hA := h.below hbX
        have hk1 : k ≤ cap := by omega
        have hk8 : (k : Int) ≤ (cap : Int) := by omega
        have hk9 : (k : Int) ≤ (n : Int) := by omega
        have hk2 : (k : Int) + 1 ≤ (n : Int) := by omega
        have hk3 : (0 : Int) ≤ (k : Int) + 1 := by omega
        have hk5 : k + 1 ≤ n := by omega
        have hk6 : k + 1 ≤ cap := by omega
        have hk7 : ((k : Int) + 1) ≤ (cap : Int) := by omega
        have hk4 : ((k : Int) + 1).toNat = k + 1 := by omega
        have V1 : IntKind.i64.wrap ((k : Int) + 1) = (k : Int) + 1 := by rw [IntKind.wrap_i64]; omega
        obtain ⟨L, hL⟩ : ∃ L, L = cs.take k := ⟨_, rfl⟩
        have TK : Hid (CellsAt wx A k L) := by show CellsAt _ _ _ _; rw [hL]; exact hA.takeC (by omega)
        have hlk : L.length = k := TK.out.1
        have hlk8 : L.length ≤ 8 := by omega
        have hlk9 : L.length + (n - (k + 1)) ≤ 8 := by omega
        have HLK := Lib.hid hlk
        have HTL : Hid (k + (n - (k + 1)) = (dropAt cs k).length ∧ L ++ cs.drop (k + 1) = dropAt cs k) := by
          have e := HL.out
          refine ⟨by rw [dropAt_len (by omega)]; omega, by rw [hL]; rfl⟩
        have zA := (below_alloc wx (.cells #[] 58))
        have hO0 := own_empty wx
        have hr0 := Lib.hid hA
        obtain ⟨A6, hA6⟩ : ∃ A6, A6 = (if cap = k + 1 then A else A.map (·.add ((k + 1) * 2))) := ⟨_, rfl⟩
        have DR : Hid (∀ w', CellsAt w' A n cs → SliceAt w' 2 A6 (n - (k + 1)) (flat (cs.drop (k + 1)))) := by
          show ∀ w', _
          rw [hA6]
          exact fun w' hw' => hw'.dropS hk5 hcap
        have hite := hA6.symm
        clear hL hlk hA hA6 h
        go_wp2
        go_region_held3 (fun _ => True) (exact trivial) ((first | (refine step_append_slice _ (by rfl) _ _ 25 (by rfl) wx.heap.size 58 i0 (.agg #[.int .i64 0, .int .i64 0]) 2 16 Try.underlying25 hi hz0 hz1 hz2 rfl (by decide) _ _ _ (by rfl) (World.ownsRow.drew hO0) A k cap (flat L) (by rfl) (TK.out.below zA.drew).slice flat_one (by simp; unfold maxLen; omega) (by simp; omega) (by simp) ?_; intro v4 w4 o4x k4 at4; have o4 : w4.ownsRow wx.heap.size 58 2 v4 k (flat L) := (by have t := o4x; rw [show flat [] ++ flat L = flat L from rfl, show ([] : List C).length + k = k from Nat.zero_add k] at t; exact t); clear o4x; have hb4 := zA.drew.grown k4 (by simp) (by intro z hz; simp [Value.ownBlock] at hz; omega); have s4 := hb4.size) | (refine step_append_slice _ (by rfl) _ _ 25 (by rfl) wx.heap.size 58 i0 (.agg #[.int .i64 0, .int .i64 0]) 2 16 Try.underlying25 hi hz0 hz1 hz2 rfl (by decide) _ _ _ (by rfl) o4 A6 (n - (k + 1)) _ (flat (cs.drop (k + 1))) (by rfl) (DR.out _ (hr0.out.below hb4)) flat_one (by unfold maxLen; omega) (by omega) (by omega) ?_; intro v5 w5 o5 k5 at5; have hb5 := hb4.grown k5 (by omega) (fun z hz => (World.ownsRow.lt o4 z hz).1))))
        all_goals
          have t5 : Own w5 wx.heap.size v5 (dropAt cs k) := by
            have e := HTL.out
            unfold Own
            rw [← e.1, ← e.2, flat_append]
            exact o5
          obtain ⟨A5', c5', rfl, r5, _⟩ := t5.form
          have hbW := hbX.trans (hb5.mono hbX.size)
          have hrW := hrx.below hb5
          have hdl : (dropAt cs k).length ≤ 8 := by have := dropAt_len (cs := cs) (i := k) (by rw [HL.out]; exact hlt); have := HL.out; omega
          have C5 := specIsConnected A5' (dropAt cs k).length c5' (dropAt cs k) w5 (by omega) r5
          clear hrx hbX o4 o5 k5 at5 hb4 hb5 zA hO0 hr0 DR TK HTL hite t5 k4 at4
          cases hcn : connected (dropAt cs k) with
          | false =>
            rw [hcn] at C5
            have HN : Hid (parTo cs (k + 1) = parTo cs k) := parTo_no hcn
            rw [← HN.out] at hrW HM
            clear hcn r5
            go_wp2_with fail
            refine C5.mono ?_
            rintro e w6 ⟨rfl, B6⟩
            have hr6 := hrW.below B6
            have hb6 := hbW.trans (B6.mono hbW.size)
            clear C5 B6 hrW hbW
            go_wp2
            go_roundw
            case rel => exact ⟨k + 1, P, m, c, by omega, by go_num, rfl, HM.out, hr6, hmc, hcm, hb6⟩
            case measure => simp [intOf]; omega
          | true =>
            rw [hcn] at C5
            have HN : Hid (parTo cs (k + 1) = insS (cornerC (dropAt cs k)) (parTo cs k)) := parTo_yes hcn
            have HSD := Lib.hid (connected_is hcn)
            have hpl := parTo_len cs k
            clear hcn
            go_wp2_with fail
            refine C5.mono ?_
            rintro e w6 ⟨rfl, B6⟩
            have hr6 := hrW.below B6
            have hb6 := hbW.trans (B6.mono hbW.size)
            have r6 := r5.below B6
            clear C5 B6 hrW hbW r5
            go_wp2_with fail
            refine (specCorner A5' (dropAt cs k).length c5' (dropAt cs k) w6 (shape_smallL HSD.out) (by omega) r6).mono ?_
            rintro e w7 ⟨v7, rfl, o7, B7⟩
            have hr7 := hr6.below B7
            have hb7 := hb6.trans (B7.mono hb6.size)
            obtain ⟨A7, c7, rfl, r7, _⟩ := o7.form
            have hc7 : (cornerC (dropAt cs k)).length ≤ 8 := by rw [cornerC_len]; exact hdl
            have hmn : m ≤ 1000 := by rw [HM.out]; omega
            have hS := specPut P m c _ A7 (cornerC (dropAt cs k)).length c7 (cornerC (dropAt cs k)) w7 (by omega) hmc hcm (parTo_short cs k) (by omega) (parTo_sorted cs k) hr7 r7
            rw [← HN.out] at hS
            clear hr6 hb6 r6 o7 r7 B7 hr7
            go_wp2_with fail
            refine hS.mono ?_
            rintro e w8 ⟨P9, c9, rfl, ⟨hr9, hm9, hc9⟩, hb9⟩
            have hbZ := hb7.trans (hb9.mono hb7.size)
            have HX1 := Lib.hid hr9
            have HX2 := Lib.hid hm9
            clear hS hb7 hb9 hr9 hm9
            go_wp2
            go_roundw
            case rel => exact ⟨k + 1, P9, _, c9, by omega, by go_num, rfl, rfl, HX1.out, HX2.out, hc9, hbZ⟩
            case measure => simp [intOf]; omega
      · obtain rfl : k = n := by omega
        have HE : Hid (parTo cs k = parL cs) := by show _ = _; rw [HR.out, HL.out]
        rw [HE.out] at hr HM
        clear h
        go_wp2
        go_ret
        unfold SpecL
        rw [← HM.out]
        exact ⟨P, c, rfl, ⟨hr, hmc, hcm⟩, hb⟩
end Go.Proofs.Ythhaojbnnacdbaa
