/- ParentsOf, the program's: contract. Condition: slices of at most 2^20 cells, their length within their capacity. -/
import Derived.Test.YthhaojbnnacdbaaExt
import Derived.Test.YthhaojbnnacdbaaParM
import Derived.Test.YthhaojbnnacdbaaHangs
namespace Go.Proofs.Ythhaojbnnacdbaa
open Go.RowKit

theorem CellsAt.takeC {w : World} {A : Option Addr} {n k : Nat} {cs : List C} (h : CellsAt w A n cs) (hk : k ≤ n) : CellsAt w A k (cs.take k) := by
  have hl : (cs.take k).length = k := by rw [List.length_take, h.1]; omega
  refine ⟨hl, fun hn => ?_⟩
  obtain ⟨b, o, e, hlt, hc⟩ := h.2 (by omega)
  refine ⟨b, o, e, hlt, fun j hj => ?_⟩
  have := hc j (by omega)
  rw [show (cs.take k).getD j (0, 0) = cs.getD j (0, 0) by simp [List.getD_eq_getElem?_getD, hj]]
  exact this
set_option maxHeartbeats 800000 in
theorem implHangsNil (A : Option Addr) (cap : Nat) (w : World) :
    Calls Try.prog 88 #[.slice A 0 cap] w fun e w' => e = .returned (.bool false) ∧ Below w.heap.size w w' := by
  go_enter Try.func88, Try.ntmps88
  go_wp2
  go_ret
  exact ⟨rfl, Below.refl _ _⟩
open Classical in
theorem implHangsC (A : Option Addr) (n cap : Nat) (cs : List C) (w : World) (hs : isShape cs = true ∨ cs = []) (hn : n ≤ 1048576) (h : CellsAt w A n cs) :
    Calls Try.prog 88 #[.slice A n cap] w fun e w' => e = .returned (.bool (connected cs)) ∧ Below w.heap.size w w' := by
  rcases hs with hs | rfl
  · have e : connected cs = decide (Connected cs) := by unfold connected; rw [hs]; rfl
    rw [e]
    exact implHangs A n cap cs _ w (by simp) hs hn h
  · obtain rfl : n = 0 := h.1.symm
    rw [connected_nil]
    exact implHangsNil A cap w
set_option maxRecDepth 100000 in
set_option maxHeartbeats 3200000 in
theorem implParents (A : Option Addr) (n cap : Nat) (cs : List C) (w : World) (hn : n ≤ 1048576) (h : CellsAt w A n cs) (hcap : n ≤ cap) :
    Calls Try.prog 36 #[.slice A n cap] w (ImplL w (parL cs)) := by
  obtain ⟨i0, hi, hz0, hz1, hz2⟩ := info_parts Try.infoC
  have hc := implIsShape A n cap cs w hn h
  cases hs : isShape cs with
  | false =>
    have HR : Hid (parL cs = []) := by show _ = _; unfold parL; rw [hs]; rfl
    rw [hs] at hc
    clear hs
    go_enter Try.func36, Try.ntmps36
    go_wp2_with fail
    refine hc.mono ?_
    rintro e w1 ⟨rfl, hb⟩
    go_wp2
    go_ret
    rw [HR.out]
    exact ⟨_, _, rfl, OwnV.nil _ _, hb⟩
  | true =>
    have HR : Hid (parL cs = parTo cs cs.length) := by show _ = _; unfold parL; rw [hs]; rfl
    have HS := Lib.hid hs
    have hl := shape_len hs
    rw [h.1] at hl
    have HL := Lib.hid h.1
    rw [hs] at hc
    clear hs
    go_enter Try.func36, Try.ntmps36
    go_wp2_with fail
    refine hc.mono ?_
    rintro e w1 ⟨rfl, hb0⟩
    clear hc
    have h1 := h.below hb0
    clear h
    go_wp2
    go_loopw [3, 11] (fun v i wr => ∃ (k : Nat) (vs : List Value), k ≤ n ∧ i = .int .i64 k ∧ OwnV wr w1.heap.size v vs (parTo cs k) ∧ Below w1.heap.size w1 wr) (fun _ i _ => n - (intOf i).toNat)
    case atStart => exact ⟨0, [], Nat.zero_le _, rfl, OwnV.nil _ _, Below.refl _ _⟩
    case round =>
      obtain ⟨k, vs, hk, rfl, hown, hb⟩ := hrel
      by_cases hlt : k < n
      · have hki : (k : Int) < (n : Int) := by omega
        have hA := h1.below hb
        have hk1 : k ≤ cap := by omega
        have hk8 : (k : Int) ≤ (cap : Int) := by omega
        have hk9 : (k : Int) ≤ (n : Int) := by omega
        have hk2 : (k : Int) + 1 ≤ (n : Int) := by omega
        have hk3 : (0 : Int) ≤ (k : Int) + 1 := by omega
        have hk5 : k + 1 ≤ n := by omega
        have hk6 : k + 1 ≤ cap := by omega
        have hk7 : ((k : Int) + 1) ≤ (cap : Int) := by omega
        have hk4 : ((k : Int) + 1).toNat = k + 1 := by omega
        have V1 : IntKind.i64.wrap ((k : Int) + 1) = (k : Int) + 1 := by rw [IntKind.wrap_i64]; omega
        obtain ⟨L, hL⟩ : ∃ L, L = cs.take k := ⟨_, rfl⟩
        have TK : Hid (CellsAt wr A k L) := by show CellsAt _ _ _ _; rw [hL]; exact hA.takeC (by omega)
        have hlk : L.length = k := TK.out.1
        have hlk8 : L.length ≤ 8 := by omega
        have hlk9 : L.length + (n - (k + 1)) ≤ 8 := by omega
        have HTL : Hid (L.length + (n - (k + 1)) = (dropAt cs k).length ∧ L ++ cs.drop (k + 1) = dropAt cs k) := by
          have e := HL.out
          refine ⟨by rw [dropAt_len (by omega)]; omega, by rw [hL]; rfl⟩
        have CA : Calls Try.prog 87 #[.slice A k cap] wr.drew (OwnPost wr.drew L) := implCopyCells A k cap L _ (by omega) (TK.out.below (Below.refl _ _).drew)
        clear hL hlk
        have zA := (Below.refl wr.heap.size wr).drew
        have hr0 := Lib.hid hA
        clear hA h1
        obtain ⟨A6, hA6⟩ : ∃ A6, A6 = (if cap = k + 1 then A else A.map (·.add ((k + 1) * 2))) := ⟨_, rfl⟩
        have DR : Hid (∀ w', CellsAt w' A n cs → SliceAt w' 2 A6 (n - (k + 1)) (flat (cs.drop (k + 1)))) := by
          show ∀ w', _
          rw [hA6]
          exact fun w' hw' => hw'.dropS hk5 hcap
        have hite := hA6.symm
        clear hA6
        all_goals
          go_wp2
          go_region_held3 (fun _ => True) (exact trivial) ((first | (go_at_call 87; (with_reducible refine CA.mono ?_); rintro e w4 ⟨v4, rfl, o4, b4⟩; have hb4 := zA.trans (b4.mono zA.size); replace o4 := o4.mono (base' := wr.heap.size) zA.size; obtain ⟨A5, c5, rfl, _, _⟩ := o4.form; have s4 := hb4.size) | (refine step_append_slice _ (by rfl) _ _ 25 (by rfl) wr.heap.size 58 i0 (.agg #[.int .i64 0, .int .i64 0]) 2 16 Try.underlying25 hi hz0 hz1 hz2 rfl (by decide) _ _ _ (by rfl) o4 A6 (n - (k + 1)) _ (flat (cs.drop (k + 1))) (by rfl) (DR.out _ (hr0.out.below hb4)) flat_one (by unfold maxLen; omega) (by omega) (by omega) ?_; intro v5 w5 o5 k5 at5; have hb5 := hb4.grown k5 (by omega) (fun z hz => (o4.lt z hz).1))))
          all_goals
            have t5 : Own w5 wr.heap.size v5 (dropAt cs k) := by
              have e := HTL.out
              unfold Own
              rw [← e.1, ← e.2, flat_append]
              exact o5
            have hs5 := hb5.size
            have hap := apart_new hown t5 (Nat.le_refl _)
            have hown5 := hown.below hb5
            have hbW := hb.trans (hb5.mono hb.size)
            have hB0 : w1.heap.size ≤ wr.heap.size := hb.size
            obtain ⟨A5', c5', rfl, r5, _⟩ := t5.form
            have hdl : (dropAt cs k).length ≤ 8 := by have := dropAt_len (cs := cs) (i := k) (by rw [HL.out]; exact hlt); have := HL.out; omega
            have hsd : isShape (dropAt cs k) = true ∨ dropAt cs k = [] := by
              by_cases h2 : 2 ≤ cs.length
              · exact Or.inl (dropAt_shape HS.out (by rw [HL.out]; exact hlt) h2)
              · right
                have e := HL.out
                obtain rfl : k = 0 := by omega
                exact dropAt_one (by omega)
            have C5 := implHangsC A5' (dropAt cs k).length c5' (dropAt cs k) w5 hsd (by omega) r5
            clear hown hb o4 o5 k5 at5 b4 hb4 hb5 CA zA hr0 DR TK HTL hsd hs5
            cases hcn : connected (dropAt cs k) with
            | false =>
              rw [hcn] at C5
              have HN : Hid (parTo cs (k + 1) = parTo cs k) := parTo_no hcn
              rw [← HN.out] at hown5
              clear hcn hap t5 r5
              go_wp2_with fail
              refine C5.mono ?_
              rintro e w6 ⟨rfl, B6⟩
              have hown6 := hown5.below B6
              have hb6 := hbW.trans (B6.mono hbW.size)
              clear C5 B6 hown5 hbW
              go_wp2
              go_roundw
              case rel => exact ⟨k + 1, vs, by omega, by go_num, hown6, hb6⟩
              case measure => simp [intOf]; omega
            | true =>
              rw [hcn] at C5
              have HN : Hid (parTo cs (k + 1) = insS (cornerC (dropAt cs k)) (parTo cs k)) := parTo_yes hcn
              have HSD := Lib.hid (connected_is hcn)
              have hd1 := (shape_len (connected_is hcn)).1
              have HCS : Hid (sortC (cornerC (dropAt cs k)) = cornerC (dropAt cs k)) := cornerC_self (shape_sorted (connected_is hcn))
              have hpl := parTo_len cs k
              clear hcn hap
              go_wp2_with fail
              refine C5.mono ?_
              rintro e w6 ⟨rfl, B6⟩
              have hown6 := hown5.below B6
              have hb6 := hbW.trans (B6.mono hbW.size)
              have r6 := r5.below B6
              clear C5 B6 hown5 hbW r5 t5
              go_wp2_with fail
              refine (implCorner A5' (dropAt cs k).length c5' (dropAt cs k) w6 (sorts_small _ (by omega)) hd1 (shape_smallL HSD.out) (by omega) r6).mono ?_
              rintro e w7 ⟨v7, rfl, o7, B7⟩
              rw [HCS.out] at o7
              have hap := apart_new hown6 o7 (Nat.le_refl _)
              have o7' := o7.mono (base' := w1.heap.size) hb6.size
              have hown7 := hown6.below B7
              have hb7 := hb6.trans (B7.mono hb6.size)
              obtain ⟨A7, c7, rfl, _, _⟩ := o7.form
              have hc7 : (cornerC (dropAt cs k)).length ≤ 8 := by rw [cornerC_len]; exact hdl
              have hP := implPut u3 vs _ A7 (cornerC (dropAt cs k)).length c7 (cornerC (dropAt cs k)) w1.heap.size w7 (by omega) (parTo_short cs k) (by omega) (parTo_sorted cs k) hb7.size hown7 o7' hap.1 hap.2
              rw [← HN.out] at hP
              have HL3 := Lib.hid hown7.lt
              clear hown6 hb6 r6 o7 o7' hap B7 hown7
              go_wp2_with fail
              refine hP.mono ?_
              rintro e w8 ⟨v8, vs8, rfl, hown8, hg8, _, _⟩
              have hb8 := hb7.grown hg8 hb7.size (fun z hz => (HL3.out z hz).1)
              clear hP hb7 hg8
              go_wp2
              go_roundw
              case rel => exact ⟨k + 1, vs8, by omega, by go_num, hown8, hb8⟩
              case measure => simp [intOf]; omega
      · obtain rfl : k = n := by omega
        have HE : Hid (parTo cs k = parL cs) := by show _ = _; rw [HR.out, HL.out]
        rw [HE.out] at hown
        clear h1
        go_wp2
        go_ret
        exact ⟨_, vs, rfl, hown.mono hb0.size, hb0.trans (hb.mono hb0.size)⟩
end Go.Proofs.Ythhaojbnnacdbaa
