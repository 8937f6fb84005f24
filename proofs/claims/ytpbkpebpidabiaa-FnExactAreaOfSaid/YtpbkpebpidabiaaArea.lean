/- AreaOf, the program's and the reference's: contracts. Condition: at most 2^20 rows. -/
import Derived.Test.YtpbkpebpidabiaaBox
import Derived.Test.YtpbkpebpidabiaaRegC
namespace Go.Proofs.Ytpbkpebpidabiaa
open Go.RowKit

def popc (v : Int) : Nat := ((List.range 6).filter fun k : Nat => bitR v (k : Int)).length

theorem ones64 (x : Int) (w : World) (h0 : 0 ≤ x) (h : x < 64) : Calls Try.prog 43 #[.int .u64 x] w fun e w' => e = .returned (.int .i64 (popc x)) ∧ w = w' := by
  go_enter Try.func43, Try.ntmps43
  go_wp2
  go_ret
  refine ⟨ret_int ?_, rfl⟩
  obtain ⟨k, rfl⟩ : ∃ k : Nat, x = (k : Int) := ⟨x.toNat, by omega⟩
  have hk : k < 64 := by omega
  clear h0 h
  revert k
  decide +kernel
theorem ones_any (x : Int) (w : World) (h0 : 0 ≤ x) (h : x < 64) : Calls Try.prog 39 #[.int .u64 x] w fun e w' => e = .returned (.int .i64 (popc x)) ∧ w = w' := by
  go_enter Try.func39, Try.ntmps39
  go_wp2_with (go_at_call 43; refine (ones64 _ _ h0 h).mono ?_; rintro e w1 ⟨rfl, rfl⟩)
  go_ret
  exact ⟨rfl, rfl⟩
theorem popc_le (v : Int) : popc v ≤ 6 := by
  unfold popc
  exact Nat.le_trans (List.length_filter_le _ _) (by simp)
def areaTo (xs : List Int) (k : Nat) : Nat := ((xs.take k).map popc).sum
theorem areaTo_next {xs : List Int} {k : Nat} {x : Int} (h : xs[k]? = some x) : areaTo xs (k + 1) = areaTo xs k + popc x := by
  unfold areaTo; rw [take_next h]; simp
theorem areaTo_le (xs : List Int) (k : Nat) : areaTo xs k ≤ 6 * k := by
  unfold areaTo
  induction k with
  | zero => simp
  | succ k ih =>
    cases hx : xs[k]? with
    | none =>
      have : xs.length ≤ k := by simpa using hx
      rw [List.take_of_length_le (by omega)]
      rw [List.take_of_length_le (by omega)] at ih
      omega
    | some x =>
      rw [take_next hx]
      have := popc_le x
      rw [List.map_append, List.sum_append]
      simp only [List.map_cons, List.map_nil, List.sum_cons, List.sum_nil]
      omega
def areaOf (r : Int × List Int) : Int := if isReg r = true then (areaTo r.2 r.2.length : Nat) else -1

set_option maxHeartbeats 800000 in
theorem implAreaOf (W : Int) (A : Option Addr) (n cap : Nat) (xs : List Int) (w : World) (hn : n ≤ 1048576) (h : IntsAt w A n xs) :
    Calls Try.prog 25 #[.agg #[.int .i64 W, .slice A n cap]] w fun e w' => e = .returned (.int .i64 (areaOf (W, xs))) ∧ Below w.heap.size w w' := by
  have hB := below1 w (.cells #[.int .i64 W, .slice A n cap] 27)
  have hc := implIsRegion W A n cap xs _ hn (h.below hB)
  cases hr : isReg (W, xs) with
  | false =>
    have HR : Hid (areaOf (W, xs) = -1) := by show _ = _; unfold areaOf; rw [hr]; rfl
    rw [hr] at hc
    clear hr
    go_enter Try.func25, Try.ntmps25
    go_wp2_with fail
    refine hc.mono ?_
    rintro e w1 ⟨rfl, hb⟩
    go_wp2
    go_ret
    exact ⟨ret_int HR.out.symm, hB.trans (hb.mono hB.size)⟩
  | true =>
    have HR : Hid (areaOf (W, xs) = (areaTo xs xs.length : Nat)) := by show _ = _; unfold areaOf; rw [hr, if_pos rfl]
    obtain ⟨W1, W6, L1, L6, hx⟩ := isReg_parts hr
    have hl := Lib.hid h.1
    rw [h.1] at L1 L6
    have HX := Lib.hid hx
    rw [hr] at hc
    clear hr hx
    go_enter Try.func25, Try.ntmps25
    go_wp2_with fail
    refine hc.mono ?_
    rintro e w1 ⟨rfl, hb⟩
    have hbx := (Box2.new w (.int .i64 W) (.slice A n cap) 27).later hb
    have c0 := hbx.c0
    have c1 := hbx.c1
    have hB1 := hB.trans (hb.mono hB.size)
    have h1 := (h.below hB1)
    clear hc hb h
    go_wp2
    go_loop [3, 5, 12] (fun s _ i => ∃ (k t : Nat), k ≤ n ∧ i = .int .i64 k ∧ s = .int .i64 t ∧ t ≤ 6 * k ∧ Hid (t = areaTo xs k)) (fun _ _ i => n - (intOf i).toNat)
    case atStart => exact ⟨0, 0, Nat.zero_le _, rfl, rfl, Nat.le_refl _, rfl⟩
    case round =>
      obtain ⟨k, t, hk, rfl, rfl, ht, HT⟩ := hrel
      by_cases hlt : k < n
      · obtain ⟨b, o, x, rfl, hbl, HK, d1⟩ := h1.at_ hlt
        have hxx := HX.out k x HK.out
        have x0 : 0 ≤ x := hxx.1
        have x6 : x < 64 := hxx.2.1
        have hp := popc_le x
        have HN : Hid (t + popc x = areaTo xs (k + 1)) := by show _ = _; rw [areaTo_next HK.out, HT.out]
        obtain ⟨u, hu⟩ : ∃ u, u = popc x := ⟨_, rfl⟩
        have C1 := fun w => ones_any x w x0 x6
        rw [← hu] at hp HN C1
        clear hxx hu h1
        go_wp2_with (go_at_call 39; refine (C1 _).mono ?_; rintro e w2 ⟨rfl, rfl⟩)
        go_round
        case rel => exact ⟨k + 1, t + u, by omega, by go_num, by go_num, by omega, HN⟩
        case measure => simp [intOf]; omega
      · obtain rfl : k = n := by omega
        clear h1
        go_wp2
        go_ret
        exact ⟨ret_int (by rw [HR.out, HT.out, hl.out]), hB1⟩

theorem cellR_at {W : Int} {xs : List Int} {k : Nat} {v : Int} (hk : xs[k]? = some v) {j : Nat} (hj : (j : Int) < W) : cellR (W, xs) j k = bitR v j := cellR_in (by omega) hj hk
def popTo (v : Int) (j : Nat) : Nat := ((List.range j).filter fun k : Nat => bitR v (k : Int)).length
theorem popTo_next (v : Int) (j : Nat) : popTo v (j + 1) = popTo v j + (if bitR v (j : Int) = true then 1 else 0) := by
  unfold popTo; rw [List.range_succ, List.filter_append, List.length_append]
  congr 1
  by_cases h : bitR v (j : Int) = true <;> simp [h]
theorem popTo_dec : ∀ j : Nat, j < 7 → ∀ v : Nat, v < 64 → v < 2 ^ j → popTo (v : Int) j = popc (v : Int) := by decide +kernel
theorem popTo_all {v : Int} {W : Nat} (h0 : 0 ≤ v) (h64 : v < 64) (hW : W ≤ 6) (h : v < 2 ^ W) : popTo v W = popc v := by
  obtain ⟨m, rfl⟩ : ∃ m : Nat, v = (m : Int) := ⟨v.toNat, by omega⟩
  refine popTo_dec W (by omega) m (by omega) ?_
  have : ((2 ^ W : Nat) : Int) = (2 : Int) ^ W := by simp
  omega
theorem popTo_le (v : Int) (j : Nat) : popTo v j ≤ j := by
  unfold popTo
  exact Nat.le_trans (List.length_filter_le _ _) (by simp)
theorem own_emptyA (w : World) : Own (w.alloc (.cells #[] 51)) w.heap.size (.slice (some ⟨w.heap.size, 0, none⟩) 0 0) [] :=
  ⟨rfl, Or.inr ⟨w.heap.size, 0, #[], rfl, Nat.le_refl _, heap_alloc_new w _, Nat.le_refl _, by unfold maxLen; omega, rfl, rfl⟩⟩
def LenPost (w : World) (m : Nat) (e : Ending) (w' : World) : Prop := ∃ v L, e = .returned v ∧ Own w' w.heap.size v L ∧ L.length = m ∧ Below w.heap.size w w'

set_option maxHeartbeats 3200000 in
theorem specCellsLen (W : Int) (A : Option Addr) (n cap : Nat) (xs : List Int) (w : World) (hn : n ≤ 1048576) (hr : isReg (W, xs) = true) (h : IntsAt w A n xs) :
    Calls Try.prog 38 #[.agg #[.int .i64 W, .slice A n cap]] w (LenPost w (areaTo xs xs.length)) := by
  obtain ⟨i0, hi, hz0, hz1, hz2⟩ := info_parts Try.infoC
  obtain ⟨W1, W6, L1, L6, hx⟩ := isReg_parts hr
  have hl := Lib.hid h.1
  rw [h.1] at L1 L6
  have HX := Lib.hid hx
  have HG := Lib.hid hr
  clear hr hx
  have hB := below2 w (.cells #[.int .i64 W, .slice A n cap] 27) (.cells #[] 51)
  have hbx := (Box2.new w (.int .i64 W) (.slice A n cap) 27).alloc (.cells #[] 51)
  have hE := own_emptyA (w.alloc (.cells #[.int .i64 W, .slice A n cap] 27))
  rw [show (w.alloc (.cells #[.int .i64 W, .slice A n cap] 27)).heap.size = w.heap.size + 1 by simp] at hE
  go_enter Try.func38, Try.ntmps38
  go_wp2
  go_loopw [3, 4, 5] (fun v i _ wr => ∃ (k : Nat) (L : List C), k ≤ n ∧ i = .int .i64 k ∧ Box2 wr w.heap.size (.int .i64 W) (.slice A n cap) 27 ∧ Own wr (w.heap.size + 1) v L ∧ Hid (L.length = areaTo xs k) ∧ Below w.heap.size w wr) (fun _ i _ _ => n - (intOf i).toNat)
  case atStart => exact ⟨0, [], Nat.zero_le _, rfl, hbx, hE, rfl, hB⟩
  case round =>
    clear hbx hE hB
    obtain ⟨k, L, hk, rfl, hbx, hown, HL, hb⟩ := hrel
    obtain ⟨A', cap', rfl, _, _⟩ := hown.form
    have c0 := hbx.c0
    have c1 := hbx.c1
    by_cases hlt : k < n
    · have hc := specIsRegion W A n cap xs wr hn (h.below hb)
      rw [HG.out] at hc
      go_wp2_with fail
      refine hc.mono ?_
      rintro e w1 ⟨rfl, hb1⟩
      clear hc c0 c1
      have hbx := hbx.later hb1
      have hown := hown.below hb1
      have hb := hb.trans (hb1.mono hb.size)
      clear hb1
      go_wp2
      go_loopw [3, 5] (fun v i wr => ∃ (j : Nat) (L : List C), (j : Int) ≤ W ∧ i = .int .i64 j ∧ Box2 wr w.heap.size (.int .i64 W) (.slice A n cap) 27 ∧ Own wr (w.heap.size + 1) v L ∧ Hid (∀ v, xs[k]? = some v → L.length = areaTo xs k + popTo v j) ∧ Below w.heap.size w wr) (fun _ i _ => 6 - (intOf i).toNat)
      case atStart => exact ⟨0, L, by omega, rfl, hbx, hown, (by show ∀ v, _ → _; intro v _; rw [HL.out]; rfl), hb⟩
      case round =>
        clear hbx hown hb HL
        obtain ⟨j, L, hj, rfl, hbx, hown, HL, hb⟩ := hrel
        obtain ⟨A', cap', rfl, _, _⟩ := hown.form
        have c0 := hbx.c0
        have c1 := hbx.c1
        by_cases hjW : (j : Int) < W
        · obtain ⟨b, o, v, rfl, hbl, HK, d1⟩ := (h.below hb).at_ hlt
          have hLv := HL.out v HK.out
          have hLl : L.length ≤ 6 * k + 6 := by have := areaTo_le xs k; have := popTo_le v j; omega
          have hc := l6In_any W _ n cap xs j k wr HG.out (h.below hb)
          rw [cellR_at HK.out hjW] at hc
          have HLv := Lib.hid hLv
          clear hLv d1 h
          cases hv : bitR v j with
          | false =>
            have HN : Hid (∀ v, xs[k]? = some v → L.length = areaTo xs k + popTo v (j + 1)) := by
              show ∀ v, _ → _
              intro v' hv'
              rw [HK.out] at hv'; injection hv' with hv'; subst hv'
              rw [popTo_next, hv, HLv.out]; rfl
            rw [hv] at hc
            clear hv HLv
            go_wp2_with fail
            refine hc.mono ?_
            rintro e w1 ⟨rfl, hb1⟩
            clear hc c0 c1
            have hbx := hbx.later hb1
            have hown := hown.below hb1
            have hb := hb.trans (hb1.mono hb.size)
            clear hb1
            go_wp2
            go_roundw
            case rel => exact ⟨j + 1, L, by omega, by go_num, hbx, hown, HN, hb⟩
            case measure => simp [intOf]; omega
          | true =>
            have HN : Hid (∀ v, xs[k]? = some v → (L ++ [((j : Int), (k : Int))]).length = areaTo xs k + popTo v (j + 1)) := by
              show ∀ v, _ → _
              intro v' hv'
              rw [HK.out] at hv'; injection hv' with hv'; subst hv'
              rw [popTo_next, hv, List.length_append, HLv.out]; rfl
            rw [hv] at hc
            clear hv HLv
            go_wp2_with fail
            refine hc.mono ?_
            rintro e w1 ⟨rfl, hb1⟩
            clear hc c0 c1
            have hbx := hbx.later hb1
            have hown := hown.below hb1
            have hb := hb.trans (hb1.mono hb.size)
            clear hb1
            have hsz := hbx.lt
            go_wp2_with (at_builtin; refine wpList_append_own _ rfl _ _ 46 rfl (w.heap.size + 1) 51 i0 (.agg #[.int .i64 0, .int .i64 0]) 2 16 Try.underlying46 hi hz0 hz1 hz2 rfl (by decide) _ _ _ rfl (World.ownsRow.alloc hown _) ⟨w1.heap.size, 0, none⟩ 1 1 (flat [((j : Int), (k : Int))]) rfl rfl ?c1 ?c2 ?c3 ?c4 ?c5 ?_)
            case c1 => exact World.news_of_block (cs := #[.int .i64 j, .int .i64 k]) (heap_alloc_new w1 _)
            case c2 => exact flat_one
            case c3 => unfold maxLen; omega
            case c4 => omega
            case c5 => simp; omega
            intro v' w3 hown1 hgrow _
            have R1 := (hb.alloc (by omega) (.cells #[.int .i64 j, .int .i64 k] 51)).grown hgrow (by simp; omega) (fun z hz => by have := (hown.lt _ hz).1; omega)
            have hbx3 := (hbx.alloc (.cells #[.int .i64 j, .int .i64 k] 51)).grown hgrow (by intro e; have := (hown.lt _ e.symm).1; omega)
            have hO3 : Own w3 (w.heap.size + 1) v' (L ++ [((j : Int), (k : Int))]) := by
              unfold Own
              rw [flat_append, List.length_append]
              exact hown1
            clear hown hown1 hgrow hb hbx
            go_wp2
            go_roundw
            case rel => exact ⟨j + 1, L ++ [((j : Int), (k : Int))], by omega, by go_num, hbx3, hO3, HN, R1⟩
            case measure => simp [intOf]; omega
        · obtain ⟨b, o, v, rfl, hbl, HK, d1⟩ := (h.below hb).at_ hlt
          have HN : Hid (L.length = areaTo xs (k + 1)) := by
            show _ = _
            have hjW' : (j : Int) = W := by omega
            have hxx := HX.out k v HK.out
            rw [areaTo_next HK.out, HL.out v HK.out, popTo_all hxx.1 hxx.2.1 (by omega) (by have := hxx.2.2; rw [← hjW'] at this; exact this)]
          clear h d1
          go_wp2
          go_roundw
          case rel => exact ⟨k + 1, L, by omega, by go_num, hbx, hown, HN, hb⟩
          case measure => simp [intOf]; omega
    · obtain rfl : k = n := by omega
      clear h
      go_wp2
      go_ret
      exact ⟨_, L, rfl, hown.mono (by omega), by rw [HL.out, hl.out], hb⟩
set_option maxHeartbeats 800000 in
theorem specAreaOf (W : Int) (A : Option Addr) (n cap : Nat) (xs : List Int) (w : World) (hn : n ≤ 1048576) (h : IntsAt w A n xs) :
    Calls Try.prog 24 #[.agg #[.int .i64 W, .slice A n cap]] w fun e w' => e = .returned (.int .i64 (areaOf (W, xs))) ∧ Below w.heap.size w w' := by
  have hB := below1 w (.cells #[.int .i64 W, .slice A n cap] 27)
  have hc := specIsRegion W A n cap xs _ hn (h.below hB)
  cases hr : isReg (W, xs) with
  | false =>
    have HR : Hid (areaOf (W, xs) = -1) := by show _ = _; unfold areaOf; rw [hr]; rfl
    rw [hr] at hc
    clear hr
    go_enter Try.func24, Try.ntmps24
    go_wp2_with fail
    refine hc.mono ?_
    rintro e w1 ⟨rfl, hb⟩
    go_wp2
    go_ret
    exact ⟨ret_int HR.out.symm, hB.trans (hb.mono hB.size)⟩
  | true =>
    have HR : Hid (areaOf (W, xs) = (areaTo xs xs.length : Nat)) := by show _ = _; unfold areaOf; rw [hr, if_pos rfl]
    have HG := Lib.hid hr
    rw [hr] at hc
    clear hr
    go_enter Try.func24, Try.ntmps24
    go_wp2_with fail
    refine hc.mono ?_
    rintro e w1 ⟨rfl, hb⟩
    have hbx := (Box2.new w (.int .i64 W) (.slice A n cap) 27).later hb
    have c0 := hbx.c0
    have c1 := hbx.c1
    have hB1 := hB.trans (hb.mono hB.size)
    have h1 := (h.below hB1)
    clear hc hb h
    go_wp2_with fail
    refine (specCellsLen W A n cap xs w1 hn HG.out h1).mono ?_
    rintro e w2 ⟨v, L, rfl, hO, hL, hb2⟩
    obtain ⟨A', cap', rfl, _, _⟩ := hO.form
    have HL := Lib.hid hL
    clear hL hO
    go_wp2
    go_ret
    exact ⟨ret_int (by rw [HR.out, HL.out]), hB1.trans (hb2.mono hB1.size)⟩
end Go.Proofs.Ytpbkpebpidabiaa
