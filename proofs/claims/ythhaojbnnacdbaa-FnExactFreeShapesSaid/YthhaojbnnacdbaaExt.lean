/- ExtensionsOf, the program's: contracts. Condition: slices of at most 2^20 cells. -/
import Derived.Test.YthhaojbnnacdbaaOrient
import Derived.Test.YthhaojbnnacdbaaExtM
namespace Go.Proofs.Ythhaojbnnacdbaa
open Go.RowKit

set_option maxHeartbeats 800000 in
theorem implCopyCells (A : Option Addr) (n cap : Nat) (cs : List C) (w : World) (hn : n ≤ 1048576) (h : CellsAt w A n cs) :
    Calls Try.prog 87 #[.slice A n cap] w (OwnPost w cs) := by
  obtain ⟨i0, hi, hz0, hz1, hz2⟩ := info_parts Try.infoC
  have hl := Lib.hid h.1
  go_enter Try.func87, Try.ntmps87
  go_wp2_with (at_builtin; refine wpList_append_slice _ rfl _ _ 25 rfl w.heap.size 58 i0 (.agg #[.int .i64 0, .int .i64 0]) 2 16 Try.underlying25 hi hz0 hz1 hz2 rfl (by decide) _ _ _ rfl (World.ownsRow_nil _ _ _ _) A n cap (flat cs) rfl h.slice flat_one ?c1 ?c2 (Nat.le_refl _) ?_)
  case c1 => unfold maxLen; omega
  case c2 => omega
  intro v' w1 hown hgrow _
  have hb1 : Below w.heap.size w w1 := (Below.refl _ _).grown hgrow (Nat.le_refl _) (fun _ h => by cases h)
  have hO : Own w1 w.heap.size v' cs := by unfold Own; rw [hl.out]; simpa using hown
  clear hown hgrow h
  go_wp2
  go_ret
  exact ⟨_, rfl, hO, hb1⟩
/-- the value's block lies ahead of a, or from b on -/
def FarB (v : Value) (a b : Nat) : Prop := ∀ q, v.ownBlock = some q → q < a ∨ b ≤ q
theorem FarB.off {v u : Value} {w : World} {a b : Nat} {cs : List C} (h : FarB v a b) (ho : Own w a u cs) (hb : ∀ k, u.ownBlock = some k → k < b) : u.ownBlock = none ∨ u.ownBlock ≠ v.ownBlock := by
  cases hu : u.ownBlock with
  | none => exact Or.inl rfl
  | some k => exact Or.inr fun e => by have := h k e.symm; have := (ho.lt k hu).1; have := hb k hu; omega
theorem smallL_add {cs : List C} {d : C} (h : smallL cs) (hd : smallC d) : smallL (cs ++ [d]) := by
  intro c hc
  rcases List.mem_append.1 hc with hc | hc
  · exact h c hc
  · rw [List.mem_singleton.1 hc]; exact hd

set_option maxRecDepth 100000 in
set_option maxHeartbeats 3200000 in
theorem implExt (A : Option Addr) (n cap : Nat) (cs : List C) (w : World) (hs : isShape cs = true) (hn : n < 8) (h : CellsAt w A n cs) :
    Calls Try.prog 85 #[.slice A n cap] w (ImplL w (extC cs)) := by
  obtain ⟨i0, hi, hz0, hz1, hz2⟩ := info_parts Try.infoC
  have HL := Lib.hid h.1
  have HS := Lib.hid hs
  clear hs
  go_enter Try.func85, Try.ntmps85
  go_wp2
  go_loopw [3, 11] (fun v i wr => ∃ (k : Nat) (vs : List Value), k ≤ n ∧ i = .int .i64 k ∧ OwnV wr w.heap.size v vs (extTo cs ((cs.take k).flatMap sidesL)) ∧ Below w.heap.size w wr) (fun _ i _ => n - (intOf i).toNat)
  case atStart => exact ⟨0, [], Nat.zero_le _, rfl, OwnV.nil _ _, Below.refl _ _⟩
  case round =>
    obtain ⟨k, vs, hk, rfl, hown, hb⟩ := hrel
    by_cases hlt : k < n
    · obtain ⟨b, o, p, q, rfl, hbl, HK, c1, c2⟩ := (h.below hb).at_ hlt
      have sP := shape_small HS.out HK.out
      have hsP := shape_cell HS.out HK.out
      have hlnK : (extTo cs ((cs.take k).flatMap sidesL)).length ≤ 28 := by
        have t1 := extTo_len cs ((cs.take k).flatMap sidesL)
        rw [flat_sides_len, List.length_take] at t1
        omega
      go_wp2_with fail
      refine (implSides p q _ sP).mono ?_
      rintro e w2 ⟨v, rfl, hO, hb2⟩
      obtain ⟨A4, cap4, hv4, _, _⟩ := hO.form
      change v = .slice A4 4 cap4 at hv4
      subst hv4
      have hbA := hb.trans ((below_alloc wr (.cells #[.int .i64 p, .int .i64 q] 58)).mono hb.size)
      have hbB := hbA.trans (hb2.mono hbA.size)
      have hown2 := (hown.below (below_alloc wr (.cells #[.int .i64 p, .int .i64 q] 58))).below hb2
      have hO2 := hO.mono (base' := wr.heap.size) (by simp)
      obtain ⟨ws, hws0⟩ : ∃ ws, ws = wr.heap.size := ⟨_, rfl⟩
      rw [← hws0] at hO2
      have hFar : FarB u3 ws w2.heap.size := fun q hq => Or.inl (by rw [hws0]; exact (hown.lt q hq).2)
      have HLT := Lib.hid (fun k hk => (hO2.lt k hk).2)
      have SS := Lib.hid (fun (j : Nat) (c : C) => sides_small (j := j) (c := c) hsP)
      have HX0 : Hid (extTo cs ((cs.take k).flatMap sidesL ++ (sidesL (p, q)).take 0) = extTo cs ((cs.take k).flatMap sidesL)) := by show _ = _; rw [List.take_zero, List.append_nil]
      clear hown hO hb2 c1 c2 hbl hbA hsP sP hws0
      go_wp2
      go_loopw [3, 18] (fun v i wr => ∃ (j : Nat) (vs : List Value), j ≤ 4 ∧ i = .int .i64 j ∧ OwnV wr w.heap.size v vs (extTo cs ((cs.take k).flatMap sidesL ++ (sidesL (p, q)).take j)) ∧ Below w.heap.size w wr ∧ Own wr ws (.slice A4 4 cap4) (sidesL (p, q)) ∧ FarB v ws w2.heap.size ∧ w2.heap.size ≤ wr.heap.size) (fun _ i _ => 4 - (intOf i).toNat)
      case atStart => exact ⟨0, vs, Nat.zero_le _, rfl, by rw [HX0.out]; exact hown2, hbB, hO2, hFar, Nat.le_refl _⟩
      case round =>
        clear hown2 hbB hO2 hFar
        obtain ⟨j, vs, hj, rfl, hown, hb, hO, hFar, hsz2⟩ := hrel
        by_cases hj4 : j < 4
        · obtain ⟨bs, os, x, y, rfl, hbs, HX, d1, d2⟩ := (own_cells hO).at_ hj4
          have sX := SS.out _ _ HX.out
          have hj4i : (j : Int) < 4 := by omega
          have hx := (h.below hb).below (below_alloc wr (.cells #[.int .i64 x, .int .i64 y] 58))
          have hB1 := hb.trans ((below_alloc wr (.cells #[.int .i64 x, .int .i64 y] 58)).mono hb.size)
          have hO1 := hO.below (below_alloc wr (.cells #[.int .i64 x, .int .i64 y] 58))
          have hsz1 : w2.heap.size ≤ (wr.alloc (.cells #[.int .i64 x, .int .i64 y] 58)).heap.size := by simp; omega
          have hown1 := hown.below (below_alloc wr (.cells #[.int .i64 x, .int .i64 y] 58))
          have m0 := (later_box (w := wr) (t := 58) (show (#[Value.int .i64 x, .int .i64 y] : Array Value)[0]? = some (.int .i64 x) from rfl))
          have m1 := (later_box (w := wr) (t := 58) (show (#[Value.int .i64 x, .int .i64 y] : Array Value)[1]? = some (.int .i64 y) from rfl))
          have hln1 := extTo_len cs ((cs.take k).flatMap sidesL ++ (sidesL (p, q)).take j)
          have hln : (extTo cs ((cs.take k).flatMap sidesL ++ (sidesL (p, q)).take j)).length ≤ 1000 := by
            rw [List.length_append, flat_sides_len, List.length_take, List.length_take, sidesL_len] at hln1
            omega
          have hsn : extTo cs ((cs.take k).flatMap sidesL ++ (sidesL (p, q)).take (j + 1)) = extStep cs (extTo cs ((cs.take k).flatMap sidesL ++ (sidesL (p, q)).take j)) (x, y) := by
            rw [take_next HX.out, ← List.append_assoc, extTo_snoc]
          have HSN := Lib.hid hsn
          clear hln1 hsn
          cases hv : memC cs x y with
          | true =>
            have HN : Hid (extTo cs ((cs.take k).flatMap sidesL ++ (sidesL (p, q)).take (j + 1)) = extTo cs ((cs.take k).flatMap sidesL ++ (sidesL (p, q)).take j)) := by show _ = _; rw [HSN.out]; exact extStep_in _ hv
            have C1 := implHas_eq (cap := cap) hv (by omega) hx
            clear hv hx h hb hown hO
            go_wp2_with fail
            refine (C1 ⟨_, (Below.refl _ _)⟩).mono ?_
            rintro e y1 ⟨rfl, B1⟩
            have hown := hown1.below B1
            have hb := hB1.trans (B1.mono hB1.size)
            have hO := hO1.below B1
            have hsz3 := Nat.le_trans hsz1 B1.size
            rw [← HN.out] at hown
            go_wp2
            go_roundw
            case rel => exact ⟨j + 1, vs, by omega, by go_num, hown, hb, hO, hFar, hsz3⟩
            case measure => simp [intOf]; omega
          | false =>
            have C1 := implHas_eq (cap := cap) hv (by omega) hx
            have HV := Lib.hid hv
            clear hv hb hown hO
            go_wp2_with fail
            refine (C1 ⟨_, (Below.refl _ _)⟩).mono ?_
            rintro e y1 ⟨rfl, B1⟩
            have hown := hown1.below B1
            have hb := hB1.trans (B1.mono hB1.size)
            have hO := hO1.below B1
            have hsz3 := Nat.le_trans hsz1 B1.size
            have e0 := m0 ⟨_, B1⟩
            have e1 := m1 ⟨_, B1⟩
            simp only at e0 e1
            have hlt7 : wr.heap.size < y1.heap.size := by have := B1.size; simp at this; omega
            have hxy := hx.below B1
            clear hown1 hB1 hO1 C1 m0 m1 hx
            have SM := Lib.hid (smallL_add (shape_smallL HS.out) sX)
            have HAD : Hid (sortC (cornerC (cs ++ [(x, y)])) = addC cs (x, y)) := cornerC_sort _
            have hcl : cs.length ≤ 7 := by rw [HL.out]; omega
            have zA := (Below.refl y1.heap.size y1).drew
            have zC := (below_alloc y1 (.cells #[.int .i64 x, .int .i64 y] 58)).drew
            have CA : Calls Try.prog 87 #[.slice (some ⟨b, o, none⟩) n cap] y1.drew (OwnPost y1.drew cs) := implCopyCells (some ⟨b, o, none⟩) n cap cs _ (by omega) (hxy.below zA)
            have CC : Calls Try.prog 87 #[.slice (some ⟨b, o, none⟩) n cap] (y1.alloc (.cells #[.int .i64 x, .int .i64 y] 58)).drew (OwnPost (y1.alloc (.cells #[.int .i64 x, .int .i64 y] 58)).drew cs) := implCopyCells (some ⟨b, o, none⟩) n cap cs _ (by omega) (hxy.below zC)
            have h0 := cell_on (below_alloc y1 (.cells #[.int .i64 x, .int .i64 y] 58)) hlt7 e0
            have h1 := cell_on (below_alloc y1 (.cells #[.int .i64 x, .int .i64 y] 58)) hlt7 e1
            have hnew := heap_alloc_new y1 (.cells #[.int .i64 x, .int .i64 y] 58)
            clear hxy h
            go_wp2
            go_region_held3 (fun ω => ω.cell? ⟨wr.heap.size, 0, none⟩ = some (.int .i64 x) ∧ ω.cell? ⟨wr.heap.size, 1, none⟩ = some (.int .i64 y)) (first | exact ⟨e0, e1⟩ | exact ⟨h0, h1⟩ | exact ⟨f0, f1⟩ | exact ⟨g0, g1⟩ | exact ⟨f2, f3⟩ | exact ⟨f4, f5⟩) ((first | (go_at_call 87; (with_reducible refine CA.mono ?_); rintro e w4 ⟨v4, rfl, o4, b4⟩; have hb4 := zA.trans (b4.mono zA.size); replace o4 := o4.mono (base' := y1.heap.size) zA.size; obtain ⟨A5, c5, rfl, _, _⟩ := o4.form; have f0 := cell_on hb4 hlt7 e0; have f1 := cell_on hb4 hlt7 e1; have hb4' := hb4.alloc hb4.size (.cells #[.int .i64 x, .int .i64 y] 58); have g0 := cell_on hb4' hlt7 e0; have g1 := cell_on hb4' hlt7 e1; have s4 := hb4.size) | (go_at_call 87; (with_reducible refine CC.mono ?_); rintro e w4 ⟨v4, rfl, o4, b4⟩; have hb4 := zC.trans (b4.mono zC.size); replace o4 := o4.mono (base' := y1.heap.size) zC.size; obtain ⟨A5, c5, rfl, _, _⟩ := o4.form; have f0 := cell_on hb4 hlt7 e0; have f1 := cell_on hb4 hlt7 e1; have hpq : w4.heap[y1.heap.size]? = some (.cells #[.int .i64 x, .int .i64 y] 58 (0, 0)) := (b4.block y1.heap.size (by simp)).trans hnew; have s4 := hb4.size) | (refine step_append_lies _ (by rfl) _ _ 25 (by rfl) y1.heap.size 58 i0 (.agg #[.int .i64 0, .int .i64 0]) 2 16 Try.underlying25 hi hz0 hz1 hz2 rfl (by decide) _ _ _ (by rfl) (World.ownsRow.alloc o4 _) ⟨w4.heap.size, 0, none⟩ 1 1 (flat [(x, y)]) (by rfl) (by rfl) (World.news_of_block (cs := #[.int .i64 x, .int .i64 y]) (t := 58) (fr := (0, 0)) (heap_alloc_new w4 _)) flat_one (by omega) (by unfold maxLen; omega) (by omega) (by simp; omega) (w4.heap.size + 1) (by simp) ?_; intro g5 cap5 w5 o5 k5 at5 lt5; have hb5 := hb4'.grown k5 (by simp; omega) (fun z hz => (o4.lt z hz).1); have t5 : Own w5 y1.heap.size (.slice (some ⟨g5, 0, none⟩) (cs.length + 1) cap5) (cs ++ [(x, y)]) := (by unfold Own; rw [flat_append, List.length_append]; exact o5); have f2 := cell_on hb5 hlt7 e0; have f3 := cell_on hb5 hlt7 e1) | (refine step_append_lies _ (by rfl) _ _ 25 (by rfl) y1.heap.size 58 i0 (.agg #[.int .i64 0, .int .i64 0]) 2 16 Try.underlying25 hi hz0 hz1 hz2 rfl (by decide) _ _ _ (by rfl) o4 ⟨y1.heap.size, 0, none⟩ 1 1 (flat [(x, y)]) (by rfl) (by rfl) (World.news_of_block (cs := #[.int .i64 x, .int .i64 y]) (t := 58) (fr := (0, 0)) hpq) flat_one (by omega) (by unfold maxLen; omega) (by omega) (by omega) w4.heap.size rfl ?_; intro g5 cap5 w5 o5 k5 at5 lt5; have hb5 := hb4.grown k5 (by omega) (fun z hz => (o4.lt z hz).1); have t5 : Own w5 y1.heap.size (.slice (some ⟨g5, 0, none⟩) (cs.length + 1) cap5) (cs ++ [(x, y)]) := (by unfold Own; rw [flat_append, List.length_append]; exact o5); have f2 := cell_on hb5 hlt7 e0; have f3 := cell_on hb5 hlt7 e1) | (go_at_call 89; refine (implCorner (some ⟨g5, 0, none⟩) (cs.length + 1) cap5 (cs ++ [(x, y)]) _ (sorts_small _ (by omega)) (by omega) SM.out (by omega) (by have t := own_cells t5; exact t)).mono ?_; rintro e w6 ⟨v6, rfl, o6, b6⟩; have hb6 := hb5.trans (b6.mono hb5.size); rw [HAD.out] at o6; have f4 := cell_on hb6 hlt7 e0; have f5 := cell_on hb6 hlt7 e1)))
            all_goals
              have hs5 := hb5.size
              clear o4 o5 k5 at5 lt5 t5 b6 hb5
              obtain ⟨A6, c6, rfl, r6, _⟩ := o6.form
              have hal := addC_len cs (x, y)
              have hap := apart_new hown o6 hs5
              have hown6 := hown.below hb6
              have hbW := hb.trans (hb6.mono hb.size)
              have hO6 := hO.below hb6
              have hsz6 := Nat.le_trans hsz3 hb6.size
              have o6' := o6.mono (base' := w.heap.size) (Nat.le_trans hb.size hs5)
              have C4 := implIsShape A6 (addC cs (x, y)).length c6 (addC cs (x, y)) w6 (by omega) r6
              clear hown hb hO e0 e1 h0 h1 f0 f1 f2 f3 f4 f5 CA CC hnew zA zC hb6 o6 s4
              cases hsh : isShape (addC cs (x, y)) with
              | false =>
                have HN : Hid (extTo cs ((cs.take k).flatMap sidesL ++ (sidesL (p, q)).take (j + 1)) = extTo cs ((cs.take k).flatMap sidesL ++ (sidesL (p, q)).take j)) := by show _ = _; rw [HSN.out]; exact extStep_off _ HV.out hsh
                rw [hsh] at C4
                clear hsh hap r6 o6'
                go_wp2_with fail
                refine C4.mono ?_
                rintro e w7 ⟨rfl, B7⟩
                have hown7 := hown6.below B7
                have hb7 := hbW.trans (B7.mono hbW.size)
                have hO7 := hO6.below B7
                have hsz7 := Nat.le_trans hsz6 B7.size
                rw [← HN.out] at hown7
                clear hown6 hbW hO6 C4 B7
                go_wp2
                go_roundw
                case rel => exact ⟨j + 1, vs, by omega, by go_num, hown7, hb7, hO7, hFar, hsz7⟩
                case measure => simp [intOf]; omega
              | true =>
                have HN : Hid (extTo cs ((cs.take k).flatMap sidesL ++ (sidesL (p, q)).take (j + 1)) = insS (addC cs (x, y)) (extTo cs ((cs.take k).flatMap sidesL ++ (sidesL (p, q)).take j))) := by show _ = _; rw [HSN.out]; exact extStep_on _ HV.out hsh
                rw [hsh] at C4
                clear hsh r6
                go_wp2_with fail
                refine C4.mono ?_
                rintro e w7 ⟨rfl, B7⟩
                have hown7 := hown6.below B7
                have o7 := o6'.below B7
                have hb7 := hbW.trans (B7.mono hbW.size)
                have hO7 := hO6.below B7
                have hsz7 := Nat.le_trans hsz6 B7.size
                have hP := implPut u3 vs _ A6 (addC cs (x, y)).length c6 (addC cs (x, y)) w.heap.size w7 (by omega) (extTo_short _ _) (by omega) (extTo_sorted _ _) hb7.size hown7 o7 hap.1 hap.2
                rw [← HN.out] at hP
                have HL3 := Lib.hid hown7.lt
                clear hown6 hbW hO6 C4 B7 hap o6' hown7 o7
                go_wp2_with fail
                refine hP.mono ?_
                rintro e w8 ⟨v8, vs8, rfl, hown8, hg8, hv8, _⟩
                have hb8 := hb7.grown hg8 hb7.size (fun z hz => (HL3.out z hz).1)
                have hO8 := own_beside hO7 hg8 (hFar.off hO7 HLT.out)
                have hsz8 := Nat.le_trans hsz7 hg8.size
                have hFar8 : FarB v8 ws w2.heap.size := by
                  rcases hv8 with e | ⟨q8, e, hq8⟩
                  · intro q hq; rw [e] at hq; exact hFar q hq
                  · intro q hq; rw [e] at hq; injection hq with hq; exact Or.inr (by omega)
                clear hP hO7 hg8 hb7 hv8 hFar
                go_wp2
                go_roundw
                case rel => exact ⟨j + 1, vs8, by omega, by go_num, hown8, hb8, hO8, hFar8, hsz8⟩
                case measure => simp [intOf]; omega
        · obtain rfl : j = 4 := by omega
          have HN : Hid (extTo cs ((cs.take k).flatMap sidesL ++ (sidesL (p, q)).take 4) = extTo cs ((cs.take (k + 1)).flatMap sidesL)) := by
            show _ = _
            rw [take_next HK.out, List.flatMap_append]
            rfl
          rw [HN.out] at hown
          clear h hO hFar
          go_wp2
          go_roundw
          case rel => exact ⟨k + 1, vs, by omega, by go_num, hown, hb⟩
          case measure => simp [intOf]; omega
    · obtain rfl : k = n := by omega
      have HN : Hid (extTo cs ((cs.take k).flatMap sidesL) = extC cs) := by
        show _ = _
        rw [List.take_of_length_le (by rw [HL.out]; exact Nat.le_refl _)]
        rfl
      rw [HN.out] at hown
      clear h
      go_wp2
      go_ret
      exact ⟨_, vs, rfl, hown, hb⟩
end Go.Proofs.Ythhaojbnnacdbaa
