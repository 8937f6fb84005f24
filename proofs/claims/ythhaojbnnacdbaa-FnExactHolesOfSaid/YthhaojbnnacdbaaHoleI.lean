/- HolesOf, the program's: a flood by marks and a queue. Condition: slices of at most 2^20 cells. -/
import Derived.Test.YthhaojbnnacdbaaHoleG
import Derived.BigRegion
import Derived.RegionTactic
namespace Go.Proofs.Ythhaojbnnacdbaa
open Go.RowKit

set_option maxRecDepth 20000 in
set_option maxHeartbeats 6400000 in
theorem implHoles (A : Option Addr) (n cap : Nat) (cs : List C) (w : World) (hn : n ≤ 1048576) (h : CellsAt w A n cs) :
    Calls Try.prog 18 #[.slice A n cap] w fun e w' => e = .returned (.int .i64 (holesC cs)) ∧ Below w.heap.size w w' := by
  obtain ⟨i0, hi, hz0, hz1, hz2⟩ := info_parts Try.infoC
  have hc := implIsShape A n cap cs w hn h
  cases hs : isShape cs with
  | false =>
    have HR : Hid ((-1 : Int) = holesC cs) := holesC_of (Or.inl ⟨hs, rfl⟩)
    rw [hs] at hc
    clear hs
    go_enter Try.func18, Try.ntmps18
    go_wp2_with fail
    refine hc.mono ?_
    rintro e w1 ⟨rfl, hb⟩
    go_wp2
    go_ret
    exact ⟨ret_int HR.out, hb⟩
  | true =>
    have hl := shape_len hs
    rw [h.1] at hl
    have HL := Lib.hid h.1
    have HS := Lib.hid hs
    have HP : Hid (∀ (R : List C) (G : List Bool) (m : Nat), R.length = m → PScan cs 0 10 R G → (m : Int) - 1 = holesC cs) := by
      show ∀ _, _
      intro R G m hm hp
      have := holesC_of (hp.ends hs)
      rw [← this, hm]
    rw [hs] at hc
    clear hs
    go_enter Try.func18, Try.ntmps18
    go_wp2_with fail
    refine hc.mono ?_
    rintro e w1 ⟨rfl, hb0⟩
    clear hc
    have hG0 := grid_new w1
    have hbG := below_alloc w1 (.cells Try.zeroCells62 62)
    go_wp2
    go_loopw [5, 18] (fun _ i wr => ∃ (k : Nat) (G : List Bool), k ≤ n ∧ i = .int .i64 k ∧ Hid (Marked cs k G) ∧ Grid wr w1.heap.size G ∧ Below w1.heap.size w1 wr) (fun _ i _ => n - (intOf i).toNat)
    case atStart => exact ⟨0, _, Nat.zero_le _, rfl, Marked.start cs, hG0, hbG⟩
    case round =>
      clear hG0 hbG
      obtain ⟨k, G, hk, rfl, HM, hG, hb⟩ := hrel
      by_cases hlt : k < n
      · obtain ⟨b, o, p, q, rfl, hbl, HK, c1, c2⟩ := (h.below (hb0.trans (hb.mono hb0.size))).at_ hlt
        obtain ⟨z1, z2, z3, z4⟩ := shape_cell HS.out HK.out
        obtain ⟨x, rfl⟩ : ∃ x : Nat, p = x := ⟨p.toNat, by omega⟩
        obtain ⟨y, rfl⟩ : ∃ y : Nat, q = y := ⟨q.toNat, by omega⟩
        have hx7 : x ≤ 7 := by omega
        have hy7 : y ≤ 7 := by omega
        have HN : Hid (Marked cs (k + 1) (G.set (ix (((x + 1 : Nat) : Int), ((y + 1 : Nat) : Int))) true)) := HM.out.next HK.out ⟨by show (0 : Int) ≤ x + 1; omega, by show (x : Int) + 1 ≤ 9; omega, by show (0 : Int) ≤ y + 1; omega, by show (y : Int) + 1 ≤ 9; omega⟩
        have hG1 := hG.below (below_alloc wr (.cells #[.int .i64 x, .int .i64 y] 58))
        have hB1 := hb.trans ((below_alloc wr (.cells #[.int .i64 x, .int .i64 y] 58)).mono hb.size)
        have hX := Box2.new wr (.int .i64 x) (.int .i64 y) 58
        have e0 := hX.c0
        have e1 := hX.c1
        have g1 := hG1.cell HM.out.len (x := x + 1) (y := y + 1) (by omega) (by omega)
        have g2 := hG1.open_ ((y + 1) * 10 + (x + 1))
        have hG2 := (hG1.set (x + 1) (y + 1)).drew
        have hB2 := (hB1.setCell (p := ⟨w1.heap.size, (y + 1) * 10 + (x + 1), none⟩) (Nat.le_refl _) (.bool true)).drew
        clear h hG hG1 hb hB1 hX HM HK z1 z2 z3 z4
        go_wp2
        go_region
        clear e0 e1 g1 g2 c1 c2
        go_wp2
        go_roundw
        case rel => exact ⟨k + 1, _, by omega, by go_num, HN, hG2, hB2⟩
        case measure => simp [intOf]; omega
      · obtain rfl : k = n := by omega
        have HSC : Hid (PScan cs 0 0 [] G) := Marked.scan (by have := HM.out; rw [← HL.out] at this; exact this)
        clear h HM
        go_wp2
        go_loopw [6, 7, 8, 9, 10, 12, 31, 34, 63] (fun pp _ _ _ _ _ yy _ _ wr => ∃ (R : List C) (G : List Bool) (j m : Nat), j ≤ 10 ∧ yy = .int .i64 j ∧ pp = .int .i64 m ∧ Hid (R.length = m) ∧ m ≤ 10 * j ∧ Hid (PScan cs 0 j R G) ∧ Grid wr w1.heap.size G ∧ Below w1.heap.size w1 wr) (fun _ _ _ _ _ _ yy _ _ _ => 10 - (intOf yy).toNat)
        case atStart => exact ⟨[], G, 0, 0, Nat.zero_le _, rfl, rfl, rfl, Nat.le_refl _, HSC, hG, hb⟩
        case round =>
          clear hG hb HSC
          obtain ⟨R, G, j, m, hj, rfl, rfl, HR, hm, HSC, hG, hb⟩ := hrel
          by_cases hj10 : j < 10
          · have hj10i : (j : Int) < 10 := by omega
            go_wp2
            go_loopw [6, 8, 9, 10, 12, 34, 63] (fun pp _ _ _ _ xx _ wr => ∃ (R : List C) (G : List Bool) (i m : Nat), i ≤ 10 ∧ xx = .int .i64 i ∧ pp = .int .i64 m ∧ Hid (R.length = m) ∧ m ≤ 10 * j + i ∧ Hid (PScan cs i j R G) ∧ Grid wr w1.heap.size G ∧ Below w1.heap.size w1 wr) (fun _ _ _ _ _ xx _ _ => 10 - (intOf xx).toNat)
            case atStart => exact ⟨R, G, 0, m, Nat.zero_le _, rfl, rfl, HR, by omega, HSC, hG, hb⟩
            case round =>
              clear hG hb HSC HR hm
              obtain ⟨R, G, i, m, hi', rfl, rfl, HR, hm, HSC, hG, hb⟩ := hrel
              by_cases hi10 : i < 10
              · have hi10i : (i : Int) < 10 := by omega
                have g1 := hG.cell HSC.out.len hi10 hj10
                have g2 := hG.open_ (j * 10 + i)
                cases hv : gAt G ((i : Int), (j : Int)) with
                | true =>
                  rw [hv] at g1
                  have HN : Hid (PScan cs ((i + 1 : Nat) : Int) j R G) := PScan.skip HSC.out hv
                  clear hv
                  go_wp2
                  go_roundw
                  case rel => exact ⟨R, G, i + 1, m, by omega, by go_num, rfl, HR, by omega, HN, hG, hb⟩
                  case measure => simp [intOf]; omega
                | false =>
                  rw [hv] at g1
                  have HF : Hid (PFill cs i j (R ++ [((i : Int), (j : Int))]) (G.set (ix ((i : Int), (j : Int))) true) [((i : Int), (j : Int))]) := PScan.seed HSC.out ⟨by show (0 : Int) ≤ i; omega, by show (i : Int) ≤ 9; omega, by show (0 : Int) ≤ j; omega, by show (j : Int) ≤ 9; omega⟩ hv
                  have HR2 : Hid ((R ++ [((i : Int), (j : Int))]).length = m + 1) := by show _ = _; rw [List.length_append, HR.out]; rfl
                  have hG1 := hG.set i j
                  have hB1 := hb.setCell (p := ⟨w1.heap.size, j * 10 + i, none⟩) (Nat.le_refl _) (.bool true)
                  have hsz := hG1.lt
                  have hQ := Qu.new (B := w1.heap.size + 1) (wr.setCell ⟨w1.heap.size, j * 10 + i, none⟩ (.bool true)) i j hsz
                  have hG2 := hG1.below (below_alloc _ (.cells #[.int .i64 i, .int .i64 j] 58))
                  have hB2 := hB1.trans ((below_alloc _ (.cells #[.int .i64 i, .int .i64 j] 58)).mono hB1.size)
                  have hS : (wr.setCell ⟨w1.heap.size, j * 10 + i, none⟩ (.bool true)).heap.size = wr.heap.size := by simp [World.setCell]
                  obtain ⟨R', hR'⟩ : ∃ R', R' = R ++ [((i : Int), (j : Int))] := ⟨_, rfl⟩
                  rw [← hR'] at HF HR2
                  clear hv hG hb HSC HR hG1 hB1 hR'
                  rw [hS] at hQ
                  go_wp2
                  go_loopw [9, 10, 12, 63] (fun v _ _ _ wr => ∃ (T : List C) (G : List Bool), Hid (PFill cs i j R' G T) ∧ Queue wr (w1.heap.size + 1) v T ∧ Grid wr w1.heap.size G ∧ Below w1.heap.size w1 wr) (fun v _ _ _ wr => gLeft wr w1.heap.size + lenOf v)
                  case atStart => exact ⟨_, _, HF, ⟨_, _, _, _, rfl, hQ⟩, hG2, hB2⟩
                  case round =>
                    clear hQ hG2 hB2 HF hS hsz g1 g2
                    obtain ⟨T, G, HF, ⟨g, off, nq, capq, rfl, hQ⟩, hG, hb⟩ := hrel
                    cases T with
                    | nil =>
                      obtain rfl : nq = 0 := hQ.len.symm
                      have HN : Hid (PScan cs ((i + 1 : Nat) : Int) j R' G) := PFill.scan HF.out
                      clear HF hQ
                      go_wp2
                      go_roundw
                      case rel => exact ⟨R', G, i + 1, m + 1, by omega, by go_num, by go_num, HR2, by omega, HN, hG, hb⟩
                      case measure => simp [intOf]; omega
                    | cons a T =>
                      obtain ⟨p, q⟩ := a
                      have hnq := hQ.len
                      simp only [List.length_cons] at hnq
                      have hle := hQ.le
                      have HA : Hid (PFillAt cs i j R' G T (p, q) 0) := PInv.pop HF.out
                      obtain ⟨on1, on2, on3, on4⟩ := HA.out.here.1.on
                      simp only at on1 on2 on3 on4
                      have sP : smallC (p, q) := ⟨by show -100 ≤ p; omega, by show p ≤ 100; omega, by show -100 ≤ q; omega, by show q ≤ 100; omega⟩
                      obtain ⟨c1, c2⟩ := hQ.head
                      simp only at c1 c2
                      have j0 : (0 : Int) < (nq : Int) := by omega
                      have j1 : (1 : Int) ≤ (nq : Int) := by omega
                      have j2 : (nq : Int) ≤ (capq : Int) := by omega
                      have hgl := hQ.lt
                      have hgb := hQ.base
                      obtain ⟨M, hM⟩ : ∃ M, gLeft wr w1.heap.size + nq = M + 1 := ⟨gLeft wr w1.heap.size + (nq - 1), by omega⟩
                      have HM0 : Hid (100 - G.count true + T.length ≤ M) := by
                        show _ ≤ _
                        have := hG.left
                        omega
                      have HQ : Hid (Qu wr (w1.heap.size + 1) g off nq capq ((p, q) :: T)) := hQ
                      clear HF hQ on1 on2 on3 on4
                      go_wp2_with fail
                      case' inl =>
                        have HQ2 : Hid (Qu wr (w1.heap.size + 1) g off (nq - 1) 0 T) := by
                          obtain ⟨rfl, hn1, hz⟩ := HQ.out.one h
                          rw [hn1]
                          exact hz
                      case' inr =>
                        have HQ2 : Hid (Qu wr (w1.heap.size + 1) g (off + 2) (nq - 1) (capq - 1) T) := HQ.out.tail
                      all_goals
                        clear h HQ c1 c2 j0 j1 j2 hle
                        refine (implSides p q _ sP).mono ?_
                        rintro e w2 ⟨v, rfl, hO, hb2⟩
                        obtain ⟨A4, cap4, hv4, _, _⟩ := hO.form
                        change v = .slice A4 4 cap4 at hv4
                        subst hv4
                        have hbA := below_alloc wr (.cells #[.int .i64 p, .int .i64 q] 58)
                        have hbB := hbA.trans (hb2.mono hbA.size)
                        have hQ2 := HQ2.out.below hbB
                        have hG2 := hG.below hbB
                        have hB2 := hb.trans (hbB.mono hb.size)
                        have hO2 := hO.mono (base' := wr.heap.size) hbA.size
                        have hws1 : w1.heap.size < wr.heap.size := hG.lt
                        have HLT := Lib.hid (fun k hk => (hO2.lt k hk).2)
                        obtain ⟨ws, hws0⟩ : ∃ ws, ws = wr.heap.size := ⟨_, rfl⟩
                        rw [← hws0] at hO2 hgl hws1
                        have hFar : g < ws ∨ w2.heap.size ≤ g := Or.inl hgl
                        clear hO hb2 hbA hbB hG hb HQ2 sP hws0 hgl hgb
                        go_wp2
                        go_loopw [9, 12, 63] (fun v _ ii wr => ∃ (T : List C) (G : List Bool) (d g off nq cap : Nat), d ≤ 4 ∧ ii = .int .i64 d ∧ v = .slice (some ⟨g, off, none⟩) nq cap ∧ Qu wr (w1.heap.size + 1) g off nq cap T ∧ (g < ws ∨ w2.heap.size ≤ g) ∧ Hid (PFillAt cs i j R' G T (p, q) d) ∧ Hid (100 - G.count true + T.length ≤ M) ∧ Grid wr w1.heap.size G ∧ Below w1.heap.size w1 wr ∧ Own wr ws (.slice A4 4 cap4) (sidesL (p, q)) ∧ w2.heap.size ≤ wr.heap.size) (fun _ _ ii _ => 4 - (intOf ii).toNat)
                        case atStart => exact ⟨T, G, 0, g, _, _, _, Nat.zero_le _, rfl, rfl, hQ2, hFar, HA, HM0, hG2, hB2, hO2, Nat.le_refl _⟩
                        case round =>
                          clear hQ2 hFar HA HM0 hG2 hB2 hO2 hnq
                          obtain ⟨T, G, d, g, off, n2, cap2, hd, rfl, rfl, hQ, hFar, HA, HM, hG, hb, hO, hsz2⟩ := hrel
                          by_cases hd4 : d < 4
                          · obtain ⟨bs, os, x, y, rfl, hbs, HX, d1, d2⟩ := (own_cells hO).at_ hd4
                            have hd4i : (d : Int) < 4 := by omega
                            have hbW := below_alloc wr (.cells #[.int .i64 x, .int .i64 y] 58)
                            have hQ1 := hQ.below hbW
                            have hG1 := hG.below hbW
                            have hB1 := hb.trans (hbW.mono hb.size)
                            have hO1 := hO.below hbW
                            have hsz1 := Nat.le_trans hsz2 hbW.size
                            have m0 := (later_box (w := wr) (t := 58) (show (#[Value.int .i64 x, .int .i64 y] : Array Value)[0]? = some (.int .i64 x) from rfl))
                            have m1 := (later_box (w := wr) (t := 58) (show (#[Value.int .i64 x, .int .i64 y] : Array Value)[1]? = some (.int .i64 y) from rfl))
                            have hGlt := hG.lt
                            clear hQ hG hb hO hsz2 hbW
                            cases hv1 : inB x 0 9 with
                            | false =>
                              have HN : Hid (PFillAt cs i j R' G T (p, q) (d + 1)) := PAt.skip HA.out HX.out (fun hf => absurd ⟨hf.on.1, hf.on.2.1⟩ (inB_no hv1))
                              have HV1 := Lib.hid hv1
                              clear hv1 HA HX
                              go_wp2
                              (refine wp_region_later (by kernel_rfl) (by kernel_rfl) ?_; (repeat (go_big_quiet_step ((go_at_call 73; with_reducible exact Calls.later_same (between_eq HV1.out _))))); refine wpQuiet_nil ?_; rintro wq ⟨xq, hxq⟩; have hq := later_below hxq; clear hxq xq)
                              have hQ3 := hQ1.below hq
                              have hG3 := hG1.below hq
                              have hb3 := hB1.trans (hq.mono hB1.size)
                              have hO3 := hO1.below hq
                              have hsz3 := Nat.le_trans hsz1 hq.size
                              clear m0 m1 hQ1 hG1 hB1 hO1 hsz1 hq d1 d2
                              go_wp2
                              go_roundw
                              case rel => exact ⟨T, G, d + 1, g, off, n2, cap2, by omega, by go_num, rfl, hQ3, hFar, HN, HM, hG3, hb3, hO3, hsz3⟩
                              case measure => simp [intOf]; omega
                            | true =>
                              cases hv2 : inB y 0 9 with
                              | false =>
                                have HN : Hid (PFillAt cs i j R' G T (p, q) (d + 1)) := PAt.skip HA.out HX.out (fun hf => absurd ⟨hf.on.2.2.1, hf.on.2.2.2⟩ (inB_no hv2))
                                have HV1 := Lib.hid hv1
                                have HV2 := Lib.hid hv2
                                clear hv1 hv2
                                clear HA HX
                                go_wp2
                                (refine wp_region_later (by kernel_rfl) (by kernel_rfl) ?_; (repeat (go_big_quiet_step ((first | (go_at_call 73; with_reducible exact Calls.later_same (between_eq HV1.out _)) | (go_at_call 73; with_reducible exact Calls.later_same (between_eq HV2.out _)))))); refine wpQuiet_nil ?_; rintro wq ⟨xq, hxq⟩; have hq := later_below hxq; clear hxq xq)
                                have hQ3 := hQ1.below hq
                                have hG3 := hG1.below hq
                                have hb3 := hB1.trans (hq.mono hB1.size)
                                have hO3 := hO1.below hq
                                have hsz3 := Nat.le_trans hsz1 hq.size
                                clear m0 m1 hQ1 hG1 hB1 hO1 hsz1 hq d1 d2
                                go_wp2
                                go_roundw
                                case rel => exact ⟨T, G, d + 1, g, off, n2, cap2, by omega, by go_num, rfl, hQ3, hFar, HN, HM, hG3, hb3, hO3, hsz3⟩
                                case measure => simp [intOf]; omega
                              | true =>
                                obtain ⟨x1, x2⟩ := inB_yes hv1
                                obtain ⟨y1, y2⟩ := inB_yes hv2
                                have HV1 := Lib.hid hv1
                                have HV2 := Lib.hid hv2
                                clear hv1 hv2
                                obtain ⟨x, rfl⟩ : ∃ z : Nat, x = z := ⟨x.toNat, by omega⟩
                                obtain ⟨y, rfl⟩ : ∃ z : Nat, y = z := ⟨y.toNat, by omega⟩
                                have hx10 : x < 10 := by omega
                                have hy10 : y < 10 := by omega
                                have hx10i : (x : Int) < 10 := by omega
                                have hy10i : (y : Int) < 10 := by omega
                                have m2 := later_cell hG1.lt (hG1.cell HA.out.len hx10 hy10)
                                have HON : Hid (On ((x : Int), (y : Int))) := ⟨x1, x2, y1, y2⟩
                                clear x1 x2 y1 y2
                                cases hv3 : gAt G ((x : Int), (y : Int)) with
                                | true =>
                                  have HN : Hid (PFillAt cs i j R' G T (p, q) (d + 1)) := PAt.skip HA.out HX.out (fun _ => hv3)
                                  rw [hv3] at m2
                                  clear hv3 HON
                                  clear HA HX
                                  go_wp2
                                  (refine wp_region_later (by kernel_rfl) (by kernel_rfl) ?_; (repeat (go_big_quiet_step ((first | (go_at_call 73; with_reducible exact Calls.later_same (between_eq HV1.out _)) | (go_at_call 73; with_reducible exact Calls.later_same (between_eq HV2.out _)))))); refine wpQuiet_nil ?_; rintro wq ⟨xq, hxq⟩; have hq := later_below hxq; clear hxq xq)
                                  have hQ3 := hQ1.below hq
                                  have hG3 := hG1.below hq
                                  have hb3 := hB1.trans (hq.mono hB1.size)
                                  have hO3 := hO1.below hq
                                  have hsz3 := Nat.le_trans hsz1 hq.size
                                  clear m0 m1 hQ1 hG1 hB1 hO1 hsz1 hq d1 d2
                                  go_wp2
                                  go_roundw
                                  case rel => exact ⟨T, G, d + 1, g, off, n2, cap2, by omega, by go_num, rfl, hQ3, hFar, HN, HM, hG3, hb3, hO3, hsz3⟩
                                  case measure => simp [intOf]; omega
                                | false =>
                                  rw [hv3] at m2
                                  have HN : Hid (PFillAt cs i j R' (G.set (ix ((x : Int), (y : Int))) true) (T ++ [((x : Int), (y : Int))]) (p, q) (d + 1)) := PAt.add HA.out HX.out HON.out hv3
                                  have HL100 := HA.out.len
                                  have HM2 : Hid (100 - (G.set (ix ((x : Int), (y : Int))) true).count true + (T ++ [((x : Int), (y : Int))]).length ≤ M) := by
                                    show _ ≤ _
                                    have t1 := gcount_set HL100 HON.out hv3
                                    have t2 := @List.count_le_length Bool _ true (G.set (ix ((x : Int), (y : Int))) true)
                                    rw [List.length_set, HL100] at t2
                                    have t3 := HM.out
                                    rw [List.length_append]
                                    simp only [List.length_cons, List.length_nil]
                                    omega
                                  have hn2 : n2 ≤ 100 := by
                                    have t1 := HA.out.room
                                    have t2 := @List.count_le_length Bool _ true G
                                    rw [HL100] at t2
                                    rw [hQ1.len] at t1
                                    omega
                                  have hX1 := Box2.new wr (.int .i64 x) (.int .i64 y) 58
                                  clear hv3 HON HA HX HM
                                  go_wp2
                                  (refine wp_region_later (by kernel_rfl) (by kernel_rfl) ?_; (repeat (go_big_quiet_step ((first | (go_at_call 73; with_reducible exact Calls.later_same (between_eq HV1.out _)) | (go_at_call 73; with_reducible exact Calls.later_same (between_eq HV2.out _)))))); refine wpQuiet_nil ?_; rintro wq ⟨xq, hxq⟩; have hq := later_below hxq; clear hxq xq)
                                  have hQ3 := hQ1.below hq
                                  have hG3 := hG1.below hq
                                  have hb3 := hB1.trans (hq.mono hB1.size)
                                  have hO3 := hO1.below hq
                                  have hsz3 := Nat.le_trans hsz1 hq.size
                                  have hX3 := hX1.later hq
                                  have hxb : w1.heap.size < wr.heap.size := hGlt
                                  clear m0 m1 m2 hQ1 hG1 hB1 hO1 hX1 hsz1 hq d1 d2
                                  have e0 := hX3.c0
                                  have e1 := hX3.c1
                                  have g1 := hG3.cell HL100 hx10 hy10
                                  have g2 := hG3.open_ (y * 10 + x)
                                  have hg4 := grown_drew (set_grown wq w1.heap.size (y * 10 + x) (.bool true))
                                  have hQ4 := hQ3.grown hg4 (fun e => by injection e with e; have := hQ3.base; omega)
                                  have hG4 := (hG3.set x y).drew
                                  have hB4 := (hb3.setCell (p := ⟨w1.heap.size, y * 10 + x, none⟩) (Nat.le_refl _) (.bool true)).drew
                                  have hO4 := own_beside hO3 hg4 (by
                                    cases hvb : (Value.slice (some ⟨bs, os, none⟩) 4 cap4).ownBlock with
                                    | none => exact Or.inl rfl
                                    | some z => refine Or.inr fun e => ?_; injection e with e; have := (hO3.lt _ hvb).1; omega)
                                  have hX4 := hX3.grown hg4 (fun e => by injection e with e; omega)
                                  have hsz4 := Nat.le_trans hsz3 hg4.size
                                  clear hQ3 hG3 hb3 hO3 hX3 hsz3 hg4
                                  go_wp2
                                  go_region
                                  clear e0 e1 g1 g2
                                  revert hQ4 hG4 hB4 hO4 hX4 hsz4
                                  generalize (wq.setCell ⟨w1.heap.size, y * 10 + x, none⟩ (.bool true)).drew = wt
                                  intro hQ4 hG4 hB4 hO4 hX4 hsz4
                                  have e0 := hX4.c0
                                  have e1 := hX4.c1
                                  have hbW := below_alloc wt (.cells #[.int .i64 x, .int .i64 y] 58)
                                  have hQ5 := hQ4.below hbW
                                  have hG5 := hG4.below hbW
                                  have hB5 := hB4.trans (hbW.mono hB4.size)
                                  have hO5 := hO4.below hbW
                                  have hsz5 := Nat.le_trans hsz4 hbW.size
                                  have hlq := hQ5.len
                                  have hcs := hQ5.cells
                                  clear hQ4 hG4 hO4 hX4 hbW
                                  go_wp2_with (at_builtin; refine wpList_append_arg _ rfl _ _ 25 rfl 58 i0 (.agg #[.int .i64 0, .int .i64 0]) 2 16 Try.underlying25 hi hz0 hz1 hz2 rfl (by decide) g off n2 cap2 (flat T) rfl ?lo ?olds ⟨wt.heap.size, 0, none⟩ 1 1 (flat [((x : Int), (y : Int))]) rfl rfl ?c1 ?c2 ?spare ?maxLen ?bytes ?room ?grow)
                                  case lo => rw [flat_length, hlq]
                                  case olds =>
                                    intro jj u hj
                                    have hj2 : jj < n2 * 2 := by have := (List.getElem?_eq_some_iff.1 hj).1; rw [flat_length, hlq] at this; exact this
                                    obtain ⟨ad, e, hc⟩ := hcs.slice.2 (by omega)
                                    injection e with e
                                    rw [← e] at hc
                                    have := hc jj u hj
                                    rwa [Addr.add_lit] at this
                                  case c1 => exact World.news_of_block (cs := #[.int .i64 x, .int .i64 y]) (heap_alloc_new wt _)
                                  case c2 => exact flat_one
                                  case spare =>
                                    intro hr jj hj
                                    rw [flat_length] at hj
                                    exact hQ5.spare jj (by have : jj < 2 := hj; omega)
                                  case maxLen => unfold maxLen; omega
                                  case bytes => omega
                                  case room =>
                                    intro hr
                                    have hgs := setCells_grown (wt.alloc (.cells #[.int .i64 x, .int .i64 y] 58)) g (off + n2 * 2) x y
                                    have hgw : w1.heap.size ≤ g := Nat.le_of_succ_le hQ5.base
                                    have hQ6 := hQ5.push hr x y
                                    have hG6 := hG5.grown hgs (fun e => by injection e with e; have := hQ5.base; omega)
                                    have hB6 : Below w1.heap.size w1 ((wt.alloc (.cells #[.int .i64 x, .int .i64 y] 58)).setCells g (off + n2 * 2) (flat [((x : Int), (y : Int))])) := (hB5.setCell (p := ⟨g, off + n2 * 2, none⟩) hgw _).setCell (p := ⟨g, off + n2 * 2 + 1, none⟩) hgw _
                                    have hO6 := own_beside hO5 hgs (by
                                      cases hvb : (Value.slice (some ⟨bs, os, none⟩) 4 cap4).ownBlock with
                                      | none => exact Or.inl rfl
                                      | some z => refine Or.inr fun e => ?_; injection e with e; have := (hO5.lt _ hvb).1; have := HLT.out _ hvb; omega)
                                    have hsz6 := Nat.le_trans hsz5 hgs.size
                                    clear hgs hQ5 hG5 hB5 hO5 hsz5 hcs e0 e1
                                    revert hQ6 hG6 hB6 hO6 hsz6
                                    generalize (wt.alloc (.cells #[.int .i64 x, .int .i64 y] 58)).setCells g (off + n2 * 2) (flat [((x : Int), (y : Int))]) = wz
                                    intro hQ6 hG6 hB6 hO6 hsz6
                                    go_wp2
                                    go_roundw
                                    case rel => exact ⟨_, _, d + 1, g, off, n2 + 1, cap2, by omega, by go_num, rfl, hQ6, hFar, HN, HM2, hG6, hB6, hO6, hsz6⟩
                                    case measure => simp [intOf]; omega
                                  case grow =>
                                    intro hr v' w5 hown hgrow
                                    have hO : Own w5 (wt.heap.size + 1) v' (T ++ [((x : Int), (y : Int))]) := by
                                      unfold Own
                                      rw [flat_append, List.length_append, hlq]
                                      exact hown
                                    have hbF : Below (wt.alloc (.cells #[.int .i64 x, .int .i64 y] 58)).heap.size (wt.alloc (.cells #[.int .i64 x, .int .i64 y] 58)) w5 := ⟨hgrow.os, hgrow.tape, hgrow.output, hgrow.size, fun k hk => hgrow.block k hk (by simp)⟩
                                    obtain ⟨g6, n6, cap6, rfl, hq6⟩ := Qu.ofOwn hO (by rw [List.length_append]; simp)
                                    have hb1s := hB4.size
                                    have hgb6 := hq6.base
                                    have hQ6 : Qu w5 (w1.heap.size + 1) g6 0 n6 cap6 (T ++ [((x : Int), (y : Int))]) := ⟨by omega, hq6.lt, hq6.len, hq6.le, hq6.at_, hq6.spare⟩
                                    have hG6 := hG5.below hbF
                                    have hB6 := hB5.trans (hbF.mono hB5.size)
                                    have hO6 := hO5.below hbF
                                    have hsz6 := Nat.le_trans hsz5 hbF.size
                                    have hFar6 : g6 < ws ∨ w2.heap.size ≤ g6 := Or.inr (by omega)
                                    clear hown hgrow hO hbF hq6 hG5 hB5 hO5 hsz5 hcs hQ5 e0 e1
                                    go_wp2
                                    go_roundw
                                    case rel => exact ⟨_, _, d + 1, g6, 0, n6, cap6, by omega, by go_num, rfl, hQ6, hFar6, HN, HM2, hG6, hB6, hO6, hsz6⟩
                                    case measure => simp [intOf]; omega
                          · obtain rfl : d = 4 := by omega
                            have HN : Hid (PFill cs i j R' G T) := PAt.out HA.out
                            have hlen := hQ.len
                            have hmm := hG.left
                            have hm1 := HM.out
                            go_wp2
                            go_roundw
                            case rel => exact ⟨T, G, HN, ⟨g, off, n2, cap2, rfl, hQ⟩, hG, hb⟩
                            case measure => simp [lenOf]; omega
              · obtain rfl : i = 10 := by omega
                have HN : Hid (PScan cs 0 ((j + 1 : Nat) : Int) R G) := PScan.row HSC.out
                go_wp2
                go_roundw
                case rel => exact ⟨R, G, j + 1, m, by omega, by go_num, rfl, HR, by omega, HN, hG, hb⟩
                case measure => simp [intOf]; omega
          · obtain rfl : j = 10 := by omega
            have HN : Hid ((m : Int) - 1 = holesC cs) := HP.out R G m HR.out HSC.out
            have hbF := hb0.trans (hb.mono hb0.size)
            go_wp2
            go_ret
            exact ⟨ret_int HN.out, hbF⟩
end Go.Proofs.Ythhaojbnnacdbaa
