/- HolesOf, the reference's: floods of the inside behind the search from outside. Condition: slices of at most 2^20 cells. -/
import Derived.Test.YthhaojbnnacdbaaHoleO
namespace Go.Proofs.Ythhaojbnnacdbaa
open Go.RowKit

/-- the one number that HolesIs allows -/
noncomputable def holesC (cs : List C) : Int := Classical.epsilon (HolesIs cs)
theorem holesC_of {cs : List C} {k : Int} (h : HolesIs cs k) : k = holesC cs := holes_one h (Classical.epsilon_spec (p := HolesIs cs) ⟨k, h⟩)

set_option maxRecDepth 20000 in
set_option maxHeartbeats 6400000 in
theorem specHoles (A : Option Addr) (n cap : Nat) (cs : List C) (w : World) (hn : n ≤ 1048576) (h : CellsAt w A n cs) :
    Calls Try.prog 16 #[.slice A n cap] w fun e w' => e = .returned (.int .i64 (holesC cs)) ∧ Below w.heap.size w w' := by
  obtain ⟨i0, hi, hz0, hz1, hz2⟩ := info_parts Try.infoC
  have hc0 := specIsShape A n cap cs w hn h
  cases hs : isShape cs with
  | false =>
    have HR : Hid ((-1 : Int) = holesC cs) := holesC_of (Or.inl ⟨hs, rfl⟩)
    rw [hs] at hc0
    clear hs
    go_enter Try.func16, Try.ntmps16
    go_wp2_with fail
    refine hc0.mono ?_
    rintro e w1 ⟨rfl, hb⟩
    go_wp2
    go_ret
    exact ⟨ret_int HR.out, hb⟩
  | true =>
    rw [hs] at hc0
    have hc1 : ∀ w1, Below w.heap.size w w1 → Calls Try.prog 67 #[.slice A n cap] w1 (Ints2 (extOf (·.1) (cornerC cs)) (extOf (·.2) (cornerC cs)) w1) := fun w1 hb => by
      have := specSizeOf A n cap cs w1 hn (h.below hb)
      rwa [size_shape hs] at this
    have hc2 : ∀ w1, Below w.heap.size w w1 → Calls Try.prog 62 #[.slice A n cap] w1 (OwnPost w1 (cornerC cs)) := fun w1 hb => by
      have := specCornerShape A n cap cs w1 hn (h.below hb)
      rwa [corner_shape hs] at this
    have hc3 : ∀ w1, Below w.heap.size w w1 → Calls Try.prog 68 #[.slice A n cap] w1 (fun e w' => ∃ (v : Value) (L : List C), e = .returned v ∧ Own w' w1.heap.size v L ∧ Hid (Scan (cornerC cs) (extOf (·.1) (cornerC cs)) (extOf (·.2) (cornerC cs)) 0 0 [(-1, -1)] L) ∧ L.length ≤ 100 ∧ Below w1.heap.size w1 w') := fun w1 hb => by
      refine (specOutside A n cap cs w1 hs hn (h.below hb)).mono ?_
      rintro e w2 ⟨v, L, h1, h2, h3, h4, h5⟩
      have hE := ext_bounds hs
      exact ⟨v, L, h1, h2, h3.out.scan hE.1.1 hE.1.2.2.1 hE.2, h4, h5⟩
    obtain ⟨⟨eb1, eb2, eb3, eb4⟩, hIn⟩ := ext_bounds hs
    have hln : (cornerC cs).length ≤ 8 := by rw [cornerC_length]; exact (shape_len hs).2
    have hP : ∀ (R L : List C) (m : Nat), R.length = m + 1 → Scan (cornerC cs) (extOf (·.1) (cornerC cs)) (extOf (·.2) (cornerC cs)) 0 (extOf (·.2) (cornerC cs)) R L → (m : Int) = holesC cs := fun R L m hm hS => by
      have := holesC_of (holes_corner hs hS.ends)
      rw [← this, hm]; omega
    clear hs h
    revert hc1 hc2 hc3 eb1 eb2 eb3 eb4 hIn hln hP
    generalize holesC cs = PP
    generalize extOf (·.1) (cornerC cs) = W
    generalize extOf (·.2) (cornerC cs) = H
    generalize cornerC cs = cc
    intro hc1 hc2 hc3 hIn eb1 eb2 eb3 eb4 hln hP
    have HP := Lib.hid hP
    clear hIn hP
    go_enter Try.func16, Try.ntmps16
    go_wp2_with fail
    refine hc0.mono ?_
    rintro e w0 ⟨rfl, hb0⟩
    go_wp2_with fail
    refine (hc1 w0 hb0).mono ?_
    rintro e w1 ⟨rfl, hb1⟩
    replace hb1 := hb0.trans (hb1.mono hb0.size)
    go_wp2_with fail
    refine (hc2 w1 hb1).mono ?_
    rintro e w2 ⟨vc, rfl, hOc, hb2⟩
    replace hb2 := hb1.trans (hb2.mono hb1.size)
    obtain ⟨Ac, capc, rfl, hcc2, _⟩ := hOc.form
    go_wp2_with fail
    refine (hc3 w2 hb2).mono ?_
    rintro e w3 ⟨v0, L0, rfl, hO0, HS0, hL0, hb3⟩
    obtain ⟨nc, hnc⟩ : ∃ nc, nc = cc.length := ⟨_, rfl⟩
    rw [← hnc] at hcc2 hln ⊢
    clear hc0 hc1 hc2 hc3 hOc hb0 hb1 hnc
    go_wp2
    go_loopw [6, 7, 8, 9, 10, 11, 12, 13, 14] (fun v nn y _ _ _ _ _ _ wr => ∃ (R L : List C) (j m : Nat), (j : Int) ≤ H ∧ y = .int .i64 j ∧ nn = .int .i64 m ∧ Hid (R.length = m + 1) ∧ m ≤ 8 * j ∧ Hid (Scan cc W H 0 j R L) ∧ L.length ≤ 100 ∧ Own wr w2.heap.size v L ∧ Below w2.heap.size w2 wr) (fun _ _ y _ _ _ _ _ _ _ => H.toNat - (intOf y).toNat)
    case atStart => exact ⟨[(-1, -1)], L0, 0, 0, eb3, rfl, rfl, rfl, Nat.le_refl _, HS0, hL0, hO0, hb3⟩
    case round =>
      clear hO0 hb3 HS0
      obtain ⟨R, L, j, m, hj, rfl, rfl, HR, hm, HS, hL, hown, hb⟩ := hrel
      by_cases hjH : (j : Int) < H
      · go_wp2
        go_loopw [6, 7, 9, 10, 11, 12, 13, 14] (fun v nn x _ _ _ _ _ wr => ∃ (R L : List C) (i m : Nat), (i : Int) ≤ W ∧ x = .int .i64 i ∧ nn = .int .i64 m ∧ Hid (R.length = m + 1) ∧ m ≤ 8 * j + i ∧ Hid (Scan cc W H i j R L) ∧ L.length ≤ 100 ∧ Own wr w2.heap.size v L ∧ Below w2.heap.size w2 wr) (fun _ _ x _ _ _ _ _ _ => W.toNat - (intOf x).toNat)
        case atStart => exact ⟨R, L, 0, m, eb1, rfl, rfl, HR, by omega, HS, hL, hown, hb⟩
        case round =>
          clear hown hb HS HR hm hL
          obtain ⟨R, L, i, m, hi', rfl, rfl, HR, hm, HS, hL, hown, hb⟩ := hrel
          obtain ⟨A', cap', rfl, hr, _⟩ := hown.form
          by_cases hiW : (i : Int) < W
          · have C1 := specHasCell Ac nc capc cc i j wr (by omega) (hcc2.below hb)
            have C2 := specHasCell A' L.length cap' L i j wr (by omega) hr
            clear hr
            cases hv1 : memC cc i j with
            | true =>
              rw [hv1] at C1
              have HN : Hid (Scan cc W H ((i + 1 : Nat) : Int) j R L) := Scan.skip HS.out (fun hf => absurd (mem_memC.1 hv1) hf.2)
              clear hv1 C2 HS
              go_wp2_with fail
              refine C1.mono ?_
              rintro e y1 ⟨rfl, rfl⟩
              go_wp2
              go_roundw
              case rel => exact ⟨R, L, i + 1, m, by omega, by go_num, rfl, HR, by omega, HN, hL, hown, hb⟩
              case measure => simp [intOf]; omega
            | false =>
              rw [hv1] at C1
              cases hv2 : memC L i j with
              | true =>
                rw [hv2] at C2
                have HN : Hid (Scan cc W H ((i + 1 : Nat) : Int) j R L) := Scan.skip HS.out (fun _ => mem_memC.1 hv2)
                clear hv1 hv2 HS
                go_wp2_with fail
                refine C1.mono ?_
                rintro e y1 ⟨rfl, rfl⟩
                go_wp2_with fail
                refine C2.mono ?_
                rintro e y1 ⟨rfl, rfl⟩
                go_wp2
                go_roundw
                case rel => exact ⟨R, L, i + 1, m, by omega, by go_num, rfl, HR, by omega, HN, hL, hown, hb⟩
                case measure => simp [intOf]; omega
              | false =>
                rw [hv2] at C2
                have HF : Hid (Fill cc W H i j (R ++ [((i : Int), (j : Int))]) (L ++ [((i : Int), (j : Int))]) L.length) := HS.out.seed ⟨by show (0 : Int) ≤ i; omega, hiW, by show (0 : Int) ≤ j; omega, hjH⟩ (not_mem hv1) (not_mem hv2)
                have HR2 : Hid ((R ++ [((i : Int), (j : Int))]).length = (m + 1) + 1) := by show _ = _; rw [List.length_append, HR.out]; rfl
                have hL2 := HF.out.len (frame_box eb2 eb4)
                clear hv1 hv2 HS HR
                have hsz := hb.size
                go_wp2_with fail
                refine C1.mono ?_
                rintro e y1 ⟨rfl, rfl⟩
                go_wp2_with fail
                refine C2.mono ?_
                rintro e y1 ⟨rfl, rfl⟩
                clear C1 C2
                go_wp2_with (at_builtin; refine wpList_append_own _ rfl _ _ 25 rfl w2.heap.size 58 i0 (.agg #[.int .i64 0, .int .i64 0]) 2 16 Try.underlying25 hi hz0 hz1 hz2 rfl (by decide) _ _ _ rfl (World.ownsRow.alloc hown _) ⟨wr.heap.size, 0, none⟩ 1 1 (flat [((i : Int), (j : Int))]) rfl rfl ?c1 ?c2 ?c3 ?c4 ?c5 ?_)
                case c1 => exact World.news_of_block (cs := #[.int .i64 i, .int .i64 j]) (heap_alloc_new wr _)
                case c2 => exact flat_one
                case c3 => unfold maxLen; omega
                case c4 => omega
                case c5 => simp; omega
                intro v' w3 hown1 hgrow _
                have R1 := below_append1 hb hown hsz hgrow
                have hO3 : Own w3 w2.heap.size v' (L ++ [((i : Int), (j : Int))]) := by
                  unfold Own
                  rw [flat_append, List.length_append]
                  exact hown1
                clear hown hown1 hgrow hb
                obtain ⟨st, hst⟩ : ∃ st, st = L.length := ⟨_, rfl⟩
                obtain ⟨R', hR'⟩ : ∃ R', R' = R ++ [((i : Int), (j : Int))] := ⟨_, rfl⟩
                obtain ⟨L', hL'⟩ : ∃ L', L' = L ++ [((i : Int), (j : Int))] := ⟨_, rfl⟩
                have hst' : st ≤ L'.length := by rw [hL', hst]; simp
                rw [← hst, ← hR', ← hL'] at HF
                rw [← hR'] at HR2
                rw [← hL'] at hL2 hO3
                rw [← hst]
                clear hst hR' hL'
                go_wp2
                go_loopw [6, 11, 12, 13, 14] (fun v ii _ _ _ wr => ∃ (L : List C) (k : Nat), k ≤ L.length ∧ ii = .int .i64 k ∧ Hid (Fill cc W H i j R' L k) ∧ L.length ≤ 100 ∧ Own wr w2.heap.size v L ∧ Below w2.heap.size w2 wr) (fun _ ii _ _ _ _ => 100 - (intOf ii).toNat)
                case atStart => exact ⟨L', st, hst', rfl, HF, hL2, hO3, R1⟩
                case round =>
                  clear hO3 R1 HF hL2
                  obtain ⟨L, k, hk, rfl, HB, hln2, hown, hb⟩ := hrel
                  obtain ⟨A', cap', rfl, hr, _⟩ := hown.form
                  by_cases hlt : k < L.length
                  · obtain ⟨b', o', p, q, rfl, _, HA, _, _⟩ := hr.at_ hlt
                    have HI : Hid (FillAt cc W H i j R' L k (p, q) 0) := HB.out.into HA.out
                    clear HB hr
                    go_wp2
                    go_loopw [6, 12, 13, 14] (fun v jj _ _ wr => ∃ (L : List C) (d : Nat), d ≤ 4 ∧ jj = .int .i64 d ∧ Hid (FillAt cc W H i j R' L k (p, q) d) ∧ Own wr w2.heap.size v L ∧ Below w2.heap.size w2 wr) (fun _ jj _ _ _ => 4 - (intOf jj).toNat)
                    case atStart => exact ⟨L, 0, Nat.zero_le _, rfl, HI.out, hown, hb⟩
                    case round =>
                      clear hown hb HI HA hlt hk hln2
                      obtain ⟨L, d, hd, rfl, HI, hown, hb⟩ := hrel
                      obtain ⟨A', cap', rfl, hr, hll⟩ := hown.form
                      have hlt := HI.out.lt
                      have hL := HI.out.inv.len (frame_box eb2 eb4)
                      by_cases hd4 : d < 4
                      · obtain ⟨b, o, p', q', rfl, hbl, HA, c1, c2⟩ := hr.at_ hlt
                        have he := HI.out.at_
                        rw [HA.out] at he
                        injection he with he
                        injection he with he1 he2
                        subst he1 he2
                        obtain ⟨z1, z2, z3, z4⟩ := frame_box eb2 eb4 _ HI.out.free
                        simp only at z1 z2 z3 z4
                        obtain ⟨dx, dy, x1, x2, y1, y2, t1, t2, hX⟩ := sideR_at p' q' hd4
                        have hd4i : (d : Int) < 4 := by omega
                        have hlti : (k : Int) < (L.length : Int) := by omega
                        obtain ⟨x, hx⟩ : ∃ x, x = p' + dx := ⟨_, rfl⟩
                        obtain ⟨y, hy⟩ : ∃ y, y = q' + dy := ⟨_, rfl⟩
                        rw [← hx, ← hy] at hX
                        have HX := Lib.hid hX
                        clear hX
                        have W1 : wrap64 (p' + dx) = x := by rw [hx]; exact IntWalk.wrap64_in _ ⟨by omega, by omega⟩
                        have W2 : wrap64 (q' + dy) = y := by rw [hy]; exact IntWalk.wrap64_in _ ⟨by omega, by omega⟩
                        have C1 := specHasCell Ac nc capc cc x y wr (by omega) (hcc2.below hb)
                        have C2 := specHasCell (some ⟨b, o, none⟩) L.length cap' L x y wr (by omega) hr
                        clear hr hx hy z1 z2 z3 z4
                        cases hv1 : memC cc x y with
                        | true =>
                          rw [hv1] at C1
                          have HN : Hid (FillAt cc W H i j R' L k (p', q') (d + 1)) := HI.out.skip HX.out (fun hf => absurd (mem_memC.1 hv1) hf.2)
                          clear hv1 C2
                          go_wp2_with fail
                          refine C1.mono ?_
                          rintro e y1 ⟨rfl, rfl⟩
                          go_wp2
                          go_roundw
                          case rel => exact ⟨L, d + 1, by omega, by go_num, HN, hown, hb⟩
                          case measure => simp [intOf]; omega
                        | false =>
                          rw [hv1] at C1
                          cases hv2 : memC L x y with
                          | true =>
                            rw [hv2] at C2
                            have HN : Hid (FillAt cc W H i j R' L k (p', q') (d + 1)) := HI.out.skip HX.out (fun _ => mem_memC.1 hv2)
                            clear hv1 hv2
                            go_wp2_with fail
                            refine C1.mono ?_
                            rintro e y1 ⟨rfl, rfl⟩
                            go_wp2_with fail
                            refine C2.mono ?_
                            rintro e y1 ⟨rfl, rfl⟩
                            go_wp2
                            go_roundw
                            case rel => exact ⟨L, d + 1, by omega, by go_num, HN, hown, hb⟩
                            case measure => simp [intOf]; omega
                          | false =>
                            rw [hv2] at C2
                            have HN : Hid (FillAt cc W H i j R' (L ++ [(x, y)]) k (p', q') (d + 1)) := FillAt.add HI.out HX.out (not_mem hv1) (not_mem hv2)
                            clear hv1 hv2
                            have hsz := hb.size
                            go_wp2_with fail
                            refine C1.mono ?_
                            rintro e y1 ⟨rfl, rfl⟩
                            go_wp2_with fail
                            refine C2.mono ?_
                            rintro e y1 ⟨rfl, rfl⟩
                            clear C1 C2
                            go_wp2_with (at_builtin; refine wpList_append_own _ rfl _ _ 25 rfl w2.heap.size 58 i0 (.agg #[.int .i64 0, .int .i64 0]) 2 16 Try.underlying25 hi hz0 hz1 hz2 rfl (by decide) _ _ _ rfl (World.ownsRow.alloc hown _) ⟨wr.heap.size, 0, none⟩ 1 1 (flat [(x, y)]) rfl rfl ?c1 ?c2 ?c3 ?c4 ?c5 ?_)
                            case c1 => exact World.news_of_block (cs := #[.int .i64 x, .int .i64 y]) (heap_alloc_new wr _)
                            case c2 => exact flat_one
                            case c3 => unfold maxLen; omega
                            case c4 => omega
                            case c5 => simp; omega
                            intro v' w3 hown1 hgrow _
                            have R1 := below_append1 hb hown hsz hgrow
                            have hO3 : Own w3 w2.heap.size v' (L ++ [(x, y)]) := by
                              unfold Own
                              rw [flat_append, List.length_append]
                              exact hown1
                            clear hown hown1 hgrow
                            go_wp2
                            go_roundw
                            case rel => exact ⟨L ++ [(x, y)], d + 1, by omega, by go_num, HN, hO3, R1⟩
                            case measure => simp [intOf]; omega
                      · obtain rfl : d = 4 := by omega
                        have HN : Hid (Fill cc W H i j R' L (k + 1)) := HI.out.out
                        clear hr
                        go_wp2
                        go_roundw
                        case rel => exact ⟨L, k + 1, by omega, by go_num, HN, hL, hown, hb⟩
                        case measure => simp [intOf]; omega
                  · obtain rfl : k = L.length := by omega
                    have HN : Hid (Scan cc W H ((i + 1 : Nat) : Int) j R' L) := Fill.scan HB.out
                    clear hr HB
                    go_wp2
                    go_roundw
                    case rel => exact ⟨R', L, i + 1, m + 1, by omega, by go_num, by go_num, HR2, by omega, HN, hln2, hown, hb⟩
                    case measure => simp [intOf]; omega
          · obtain rfl : (i : Int) = W := by omega
            have HN : Hid (Scan cc i H 0 ((j + 1 : Nat) : Int) R L) := Scan.row HS.out
            clear hr
            go_wp2
            go_roundw
            case rel => exact ⟨R, L, j + 1, m, by omega, by go_num, rfl, HR, by omega, HN, hL, hown, hb⟩
            case measure => simp [intOf]; omega
      · obtain rfl : (j : Int) = H := by omega
        have HN : Hid ((m : Int) = PP) := HP.out R L m HR.out HS.out
        have hbF := hb2.trans (hb.mono hb2.size)
        go_wp2
        go_ret
        exact ⟨ret_int HN.out, hbF⟩
end Go.Proofs.Ythhaojbnnacdbaa
