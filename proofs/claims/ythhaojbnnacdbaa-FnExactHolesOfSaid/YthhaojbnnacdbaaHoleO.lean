/- The reference's search from outside: l5Outside. Condition: a shape. -/
import Derived.Test.YthhaojbnnacdbaaHoleR
import Derived.Test.YthhaojbnnacdbaaNbr
namespace Go.Proofs.Ythhaojbnnacdbaa
open Go.RowKit

theorem not_mem {l : List C} {x y : Int} (h : memC l x y = false) : (x, y) ∉ l := fun hm => by rw [mem_memC.2 hm] at h; cases h
theorem inB_yes {x lo hi : Int} (h : inB x lo hi = true) : lo ≤ x ∧ x ≤ hi := by unfold inB at h; simpa using h
theorem inB_no {x lo hi : Int} (h : inB x lo hi = false) : ¬ (lo ≤ x ∧ x ≤ hi) := by unfold inB at h; simpa using h
def OutPost (cs : List C) (w : World) (e : Ending) (w' : World) : Prop := ∃ (v : Value) (L : List C), e = .returned v ∧ Own w' w.heap.size v L ∧ Hid (Outer (cornerC cs) (extOf (·.1) (cornerC cs)) (extOf (·.2) (cornerC cs)) L L.length) ∧ L.length ≤ 100 ∧ Below w.heap.size w w'
theorem ext_bounds {cs : List C} (hs : isShape cs = true) : (0 ≤ extOf (·.1) (cornerC cs) ∧ extOf (·.1) (cornerC cs) ≤ 8 ∧ 0 ≤ extOf (·.2) (cornerC cs) ∧ extOf (·.2) (cornerC cs) ≤ 8) ∧ ∀ c, c ∈ cornerC cs → Inside (extOf (·.1) (cornerC cs)) (extOf (·.2) (cornerC cs)) c := by
  have hb := smallL_corner hs
  have hl := (shape_len hs).1
  have hcne : cornerC cs ≠ [] := fun e => by have := cornerC_length cs; rw [e] at this; simp at this; omega
  obtain ⟨p, hp, ep⟩ := ext_at (·.1) hcne (fun c hc => (hb c hc).1)
  obtain ⟨q, hq, eq⟩ := ext_at (·.2) hcne (fun c hc => (hb c hc).2.2.1)
  have hp0 := hb p hp
  have hq0 := hb q hq
  exact ⟨⟨by omega, by omega, by omega, by omega⟩, fun c hc => ⟨(hb c hc).1, ext_gt (·.1) hc, (hb c hc).2.2.1, ext_gt (·.2) hc⟩⟩
theorem size_shape {cs : List C} (hs : isShape cs = true) : sizeOf_ cs = (extOf (·.1) (cornerC cs), extOf (·.2) (cornerC cs)) := by unfold sizeOf_ cornerShape; rw [if_pos hs]
theorem corner_shape {cs : List C} (hs : isShape cs = true) : cornerShape cs = cornerC cs := by unfold cornerShape; rw [if_pos hs]

set_option maxRecDepth 20000 in
set_option maxHeartbeats 3200000 in
theorem specOutside (A : Option Addr) (n cap : Nat) (cs : List C) (w : World) (hs : isShape cs = true) (hn : n ≤ 1048576) (h : CellsAt w A n cs) :
    Calls Try.prog 68 #[.slice A n cap] w (OutPost cs w) := by
  obtain ⟨i0, hi, hz0, hz1, hz2⟩ := info_parts Try.infoC
  have hc1 := specSizeOf A n cap cs w hn h
  have hc2 : ∀ w1, Below w.heap.size w w1 → Calls Try.prog 62 #[.slice A n cap] w1 (OwnPost w1 (cornerC cs)) := fun w1 hb => by
    have := specCornerShape A n cap cs w1 hn (h.below hb)
    rwa [corner_shape hs] at this
  obtain ⟨⟨eb1, eb2, eb3, eb4⟩, hIn⟩ := ext_bounds hs
  have hln : (cornerC cs).length ≤ 8 := by rw [cornerC_length]; exact (shape_len hs).2
  have hP : ∀ (v : Value) (w2 : World) (L : List C), (Own w2 w.heap.size v L ∧ Hid (Outer (cornerC cs) (extOf (·.1) (cornerC cs)) (extOf (·.2) (cornerC cs)) L L.length) ∧ L.length ≤ 100 ∧ Below w.heap.size w w2) → OutPost cs w (.returned v) w2 := fun v w2 L ⟨a, b, c, d⟩ => ⟨v, L, rfl, a, b, c, d⟩
  rw [size_shape hs] at hc1
  clear hs h
  revert hc1 hc2 eb1 eb2 eb3 eb4 hIn hln hP
  generalize OutPost cs w = PP
  generalize extOf (·.1) (cornerC cs) = W
  generalize extOf (·.2) (cornerC cs) = H
  generalize cornerC cs = cc
  intro hc1 hc2 hIn eb1 eb2 eb3 eb4 hln hP
  have HIn := Lib.hid hIn
  clear hIn
  go_enter Try.func68, Try.ntmps68
  go_wp2_with fail
  refine hc1.mono ?_
  rintro e w1 ⟨rfl, hb1⟩
  simp only
  go_wp2_with fail
  refine (hc2 w1 hb1).mono ?_
  rintro e w2 ⟨vc, rfl, hOc, hb2⟩
  obtain ⟨Ac, capc, rfl, hcc, _⟩ := hOc.form
  have hb3 := hb1.trans (hb2.mono hb1.size)
  obtain ⟨nc, hnc⟩ : ∃ nc, nc = cc.length := ⟨_, rfl⟩
  rw [← hnc] at hcc hln ⊢
  have hO1 := own_one w2 (-1) (-1)
  have hb4 := below_alloc w2 (.cells #[.int .i64 (-1), .int .i64 (-1)] 58)
  have HS0 := Lib.hid (Outer.start eb1 eb3 HIn.out)
  clear hc1 hc2 hOc hb1 hb2 hnc
  go_wp2
  go_loopw [6, 7, 8, 9, 10] (fun v i _ _ _ wr => ∃ (L : List C) (k : Nat), k ≤ L.length ∧ i = .int .i64 k ∧ Hid (Outer cc W H L k) ∧ L.length ≤ 100 ∧ Own wr w2.heap.size v L ∧ Below w2.heap.size w2 wr) (fun _ i _ _ _ _ => 100 - (intOf i).toNat)
  case atStart => exact ⟨[(-1, -1)], 0, Nat.zero_le _, rfl, HS0, by simp, hO1, hb4⟩
  case round =>
    clear hO1 hb4
    obtain ⟨L, k, hk, rfl, HB, hln2, hown, hb⟩ := hrel
    obtain ⟨A', cap', rfl, hr, _⟩ := hown.form
    by_cases hlt : k < L.length
    · obtain ⟨b', o', p, q, rfl, _, HA, _, _⟩ := hr.at_ hlt
      have HI : Hid (OuterAt cc W H L k (p, q) 0) := HB.out.into HA.out
      clear HB hr
      go_wp2
      go_loopw [6, 8, 9, 10] (fun v j _ _ wr => ∃ (L : List C) (m : Nat), m ≤ 4 ∧ j = .int .i64 m ∧ Hid (OuterAt cc W H L k (p, q) m) ∧ Own wr w2.heap.size v L ∧ Below w2.heap.size w2 wr) (fun _ j _ _ _ => 4 - (intOf j).toNat)
      case atStart => exact ⟨L, 0, Nat.zero_le _, rfl, HI.out, hown, hb⟩
      case round =>
        clear hown hb HI HA hlt hk hln2
        obtain ⟨L, j, hj, rfl, HI, hown, hb⟩ := hrel
        obtain ⟨A', cap', rfl, hr, hll⟩ := hown.form
        have hlt := HI.out.lt
        have hL := HI.out.inv.len (frame_box eb2 eb4)
        by_cases hj4 : j < 4
        · obtain ⟨b, o, p', q', rfl, hbl, HA, c1, c2⟩ := hr.at_ hlt
          have he := HI.out.at_
          rw [HA.out] at he
          injection he with he
          injection he with he1 he2
          subst he1 he2
          obtain ⟨z1, z2, z3, z4⟩ := frame_box eb2 eb4 _ HI.out.free
          simp only at z1 z2 z3 z4
          obtain ⟨dx, dy, x1, x2, y1, y2, t1, t2, hX⟩ := sideR_at p' q' hj4
          have hj4i : (j : Int) < 4 := by omega
          have hlti : (k : Int) < (L.length : Int) := by omega
          obtain ⟨x, hx⟩ : ∃ x, x = p' + dx := ⟨_, rfl⟩
          obtain ⟨y, hy⟩ : ∃ y, y = q' + dy := ⟨_, rfl⟩
          rw [← hx, ← hy] at hX
          have HX := Lib.hid hX
          clear hX
          have W1 : wrap64 (p' + dx) = x := by rw [hx]; exact IntWalk.wrap64_in _ ⟨by omega, by omega⟩
          have W2 : wrap64 (q' + dy) = y := by rw [hy]; exact IntWalk.wrap64_in _ ⟨by omega, by omega⟩
          have C1 := specHasCell Ac nc capc cc x y wr (by omega) (hcc.below hb)
          have C2 := specHasCell (some ⟨b, o, none⟩) L.length cap' L x y wr (by omega) hr
          clear hr hx hy z1 z2 z3 z4
          cases hi1 : inB x (-1) W with
          | false =>
            have D1 := l1In_eq hi1 wr
            have HN : Hid (OuterAt cc W H L k (p', q') (j + 1)) := HI.out.skip HX.out (fun hf => absurd ⟨hf.1.1, hf.1.2.1⟩ (inB_no hi1))
            clear hi1 C1 C2
            go_wp2_with fail
            refine D1.mono ?_
            rintro e y1 ⟨rfl, rfl⟩
            go_wp2
            go_roundw
            case rel => exact ⟨L, j + 1, by omega, by go_num, HN, hown, hb⟩
            case measure => simp [intOf]; omega
          | true =>
            have D1 := l1In_eq hi1 wr
            cases hi2 : inB y (-1) H with
            | false =>
              have D2 := l1In_eq hi2 wr
              have HN : Hid (OuterAt cc W H L k (p', q') (j + 1)) := HI.out.skip HX.out (fun hf => absurd ⟨hf.1.2.2.1, hf.1.2.2.2⟩ (inB_no hi2))
              clear hi1 hi2 C1 C2
              go_wp2_with fail
              refine D1.mono ?_
              rintro e y1 ⟨rfl, rfl⟩
              go_wp2_with fail
              refine D2.mono ?_
              rintro e y1 ⟨rfl, rfl⟩
              go_wp2
              go_roundw
              case rel => exact ⟨L, j + 1, by omega, by go_num, HN, hown, hb⟩
              case measure => simp [intOf]; omega
            | true =>
              have D2 := l1In_eq hi2 wr
              cases hv1 : memC cc x y with
              | true =>
                rw [hv1] at C1
                have HN : Hid (OuterAt cc W H L k (p', q') (j + 1)) := HI.out.skip HX.out (fun hf => absurd (mem_memC.1 hv1) hf.2)
                clear hi1 hi2 hv1 C2
                go_wp2_with fail
                refine D1.mono ?_
                rintro e y1 ⟨rfl, rfl⟩
                go_wp2_with fail
                refine D2.mono ?_
                rintro e y1 ⟨rfl, rfl⟩
                go_wp2_with fail
                refine C1.mono ?_
                rintro e y1 ⟨rfl, rfl⟩
                go_wp2
                go_roundw
                case rel => exact ⟨L, j + 1, by omega, by go_num, HN, hown, hb⟩
                case measure => simp [intOf]; omega
              | false =>
                rw [hv1] at C1
                cases hv2 : memC L x y with
                | true =>
                  rw [hv2] at C2
                  have HN : Hid (OuterAt cc W H L k (p', q') (j + 1)) := HI.out.skip HX.out (fun _ => mem_memC.1 hv2)
                  clear hi1 hi2 hv1 hv2
                  go_wp2_with fail
                  refine D1.mono ?_
                  rintro e y1 ⟨rfl, rfl⟩
                  go_wp2_with fail
                  refine D2.mono ?_
                  rintro e y1 ⟨rfl, rfl⟩
                  go_wp2_with fail
                  refine C1.mono ?_
                  rintro e y1 ⟨rfl, rfl⟩
                  go_wp2_with fail
                  refine C2.mono ?_
                  rintro e y1 ⟨rfl, rfl⟩
                  go_wp2
                  go_roundw
                  case rel => exact ⟨L, j + 1, by omega, by go_num, HN, hown, hb⟩
                  case measure => simp [intOf]; omega
                | false =>
                  rw [hv2] at C2
                  have HN : Hid (OuterAt cc W H (L ++ [(x, y)]) k (p', q') (j + 1)) := OuterAt.add HI.out HX.out ⟨(inB_yes hi1).1, (inB_yes hi1).2, (inB_yes hi2).1, (inB_yes hi2).2⟩ (not_mem hv1) (not_mem hv2)
                  clear hi1 hi2 hv1 hv2
                  have hsz := hb.size
                  go_wp2_with fail
                  refine D1.mono ?_
                  rintro e y1 ⟨rfl, rfl⟩
                  go_wp2_with fail
                  refine D2.mono ?_
                  rintro e y1 ⟨rfl, rfl⟩
                  go_wp2_with fail
                  refine C1.mono ?_
                  rintro e y1 ⟨rfl, rfl⟩
                  go_wp2_with fail
                  refine C2.mono ?_
                  rintro e y1 ⟨rfl, rfl⟩
                  clear C1 C2 D1 D2
                  go_wp2_with (at_builtin; refine wpList_append_own _ rfl _ _ 25 rfl w2.heap.size 58 i0 (.agg #[.int .i64 0, .int .i64 0]) 2 16 Try.underlying25 hi hz0 hz1 hz2 rfl (by decide) _ _ _ rfl (World.ownsRow.alloc hown _) ⟨wr.heap.size, 0, none⟩ 1 1 (flat [(x, y)]) rfl rfl ?c1 ?c2 ?c3 ?c4 ?c5 ?_)
                  case c1 => exact World.news_of_block (cs := #[.int .i64 x, .int .i64 y]) (heap_alloc_new wr _)
                  case c2 => exact flat_one
                  case c3 => unfold maxLen; omega
                  case c4 => omega
                  case c5 => simp; omega
                  intro v' w3 hown1 hgrow _
                  have R1 := below_append1 hb hown hsz hgrow
                  have hO3 : Own w3 w2.heap.size v' (L ++ [(x, y)]) := by
                    unfold Own
                    rw [flat_append, List.length_append]
                    exact hown1
                  clear hown hown1 hgrow
                  go_wp2
                  go_roundw
                  case rel => exact ⟨L ++ [(x, y)], j + 1, by omega, by go_num, HN, hO3, R1⟩
                  case measure => simp [intOf]; omega
        · obtain rfl : j = 4 := by omega
          have HN : Hid (Outer cc W H L (k + 1)) := HI.out.out
          clear hr
          go_wp2
          go_roundw
          case rel => exact ⟨L, k + 1, by omega, by go_num, HN, hL, hown, hb⟩
          case measure => simp [intOf]; omega
    · obtain rfl : k = L.length := by omega
      have hO := hown.mono (base' := w.heap.size) hb3.size
      have hbF := hb3.trans (hb.mono hb3.size)
      clear hr
      go_wp2
      exact hP _ _ L ⟨hO, HB, hln2, hbF⟩
end Go.Proofs.Ythhaojbnnacdbaa
