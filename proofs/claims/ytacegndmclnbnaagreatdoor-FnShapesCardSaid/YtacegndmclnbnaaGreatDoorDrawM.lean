/- Drawn shapes: some list of cells, few, their coordinates small (but for one that may be anything). No condition but that the code reads as bytes. -/
import Derived.Test.YtacegndmclnbnaaGreatDoorDraw
import Derived.Test.YtacegndmclnbnaaGreatDoorCorn
import Derived.Test.YtacegndmclnbnaaGreatDoorSd
import Derived.Test.YtacegndmclnbnaaGreatDoorTurnM
namespace Go.Proofs.YtacegndmclnbnaaGreatDoor
open Go.RowKit

theorem below_any {w w' : World} {row : Option Nat} (hb : Below w.heap.size w w') : w.grownBy w' row := ⟨hb.os, hb.tape, hb.output, hb.size, fun k hk _ => hb.block k hk⟩
theorem own_off {w w' : World} {base B : Nat} {v : Value} {cs : List C} (h : Own w base v cs) (hg : w.grownBy w' (some B)) (hB : B < base) : Own w' base v cs := by
  refine own_beside h hg ?_
  cases hv : v.ownBlock with
  | none => exact Or.inl rfl
  | some k => exact Or.inr fun e => by injection e with e; have := (h.lt k hv).1; omega
theorem grown_own {w w' a : World} {base B : Nat} {v : Value} {cs : List C} (h : a.grownBy w (some B)) (ho : Own w base v cs) (hg : w.grownBy w' v.ownBlock) (hb : a.heap.size ≤ base) : a.grownBy w' (some B) := by
  refine ⟨hg.os.trans h.os, hg.tape.trans h.tape, hg.output.trans h.output, Nat.le_trans h.size hg.size, fun k hk hne => ?_⟩
  rw [hg.block k (Nat.lt_of_lt_of_le hk h.size) (fun e => by have := (ho.lt k e.symm).1; omega)]
  exact h.block k hk hne
theorem Cur.own {w w' : World} {b0 B base : Nat} {v : Value} {cs : List C} (h : Cur w b0 B) (ho : Own w base v cs) (hg : w.grownBy w' v.ownBlock) (hB : B < base) : Cur w' b0 B := by
  have := h.ge
  refine h.beside hg (fun e => ?_) (fun k hk => ?_)
  · have := (ho.lt B e.symm).1; omega
  · have := (ho.lt k hk).1; omega
/-- coordinates on the board -/
def onL (cs : List C) : Prop := ∀ c, c ∈ cs → 0 ≤ c.1 ∧ c.1 ≤ 7 ∧ 0 ≤ c.2 ∧ c.2 ≤ 7
theorem onL.small {cs : List C} (h : onL cs) : smallL cs := fun c hc => by
  obtain ⟨h1, h2, h3, h4⟩ := h c hc
  exact ⟨by omega, by omega, by omega, by omega⟩
/-- a drawn slice of cells, of the call's own -/
def GrowPost (m : Nat) (b0 B : Nat) (w : World) (e : Ending) (w' : World) : Prop := ∃ (v : Value) (cs : List C), e = .returned v ∧ Own w' w.heap.size v cs ∧ 1 ≤ cs.length ∧ cs.length ≤ m ∧ smallL cs ∧ Cur w' b0 B ∧ w.grownBy w' (some B)

set_option maxRecDepth 100000 in
set_option maxHeartbeats 3200000 in
theorem drawGrow (b0 B n : Nat) (w : World) (h : Cur w b0 B) (h1 : 1 ≤ n) (h7 : n ≤ 7) : Calls Tryz.prog 86 #[.pointer (some ⟨B, 0, none⟩), .int .i64 n] w (GrowPost 7 b0 B w) := by
  obtain ⟨i0, hi, hz0, hz1, hz2⟩ := info_parts Tryz.infoC
  have hO := own_one w 3 3
  have hC := h.below (below_alloc w (.cells #[.int .i64 3, .int .i64 3] 50))
  have hG : w.grownBy (w.alloc (.cells #[.int .i64 3, .int .i64 3] 50)) (some B) := below_any (below_alloc w _)
  have hBw := h.lt
  have hL0 : Hid (onL [(3, 3)]) := (show onL _ from fun c hc => by rw [List.mem_singleton.1 hc]; exact ⟨by decide, by decide, by decide, by decide⟩)
  clear h
  go_enter Tryz.func86, Tryz.ntmps86
  go_wp2
  go_loopw [5, 6] (fun v i wr => ∃ (k : Nat) (cs : List C), 1 ≤ k ∧ k ≤ n ∧ i = .int .i64 k ∧ Own wr w.heap.size v cs ∧ 1 ≤ cs.length ∧ cs.length ≤ k ∧ Hid (onL cs) ∧ Cur wr b0 B ∧ w.grownBy wr (some B)) (fun _ i _ => n - (intOf i).toNat)
  case atStart => exact ⟨1, [(3, 3)], Nat.le_refl _, h1, rfl, hO, Nat.le_refl _, Nat.le_refl _, hL0, hC, hG⟩
  case round =>
    clear hO hC hG hL0
    obtain ⟨k, cs, hk1, hk, rfl, hown, hl1, hlk, hON, hC, hG⟩ := hrel
    obtain ⟨A, cap, rfl, _, _⟩ := hown.form
    by_cases hlt : k < n
    · have hki : (k : Int) < (n : Int) := by omega
      have hpos : (0 : Int) < (cs.length : Int) := by omega
      go_wp2_with fail
      refine (drawBelow b0 B _ wr hC hpos).mono ?_
      rintro e w1 ⟨r, ⟨hr0, hr1⟩, rfl, hC1, hg1⟩
      obtain ⟨q, rfl⟩ : ∃ q : Nat, r = q := ⟨r.toNat, by omega⟩
      have hown1 := own_off hown hg1 hBw
      have hG1 := hG.trans hg1
      obtain ⟨b, o, p, y, rfl, hbl, HK, c1, c2⟩ := (own_cells hown1).at_ (k := q) (by omega)
      obtain ⟨p1, p2, y1, y2⟩ := hON.out _ (List.mem_of_getElem? HK.out)
      simp only at p1 p2 y1 y2
      have hqi : (q : Int) < (cs.length : Int) := by omega
      have hb2 := below_alloc w1 (.cells #[.int .i64 p, .int .i64 y] 50)
      have hC2 := hC1.below hb2
      have hown2 := hown1.below hb2
      have hG2 := hG1.trans (below_any (row := some B) hb2)
      have hx0 := later_box (w := w1) (t := 50) (show (#[Value.int .i64 p, .int .i64 y] : Array Value)[0]? = some (.int .i64 p) from rfl)
      have hx1 := later_box (w := w1) (t := 50) (show (#[Value.int .i64 p, .int .i64 y] : Array Value)[1]? = some (.int .i64 y) from rfl)
      have hBw1 : B < w1.heap.size := hC1.lt
      clear hown hC hG hg1 hC1 hown1 hG1
      go_wp2_with fail
      refine (drawBelow b0 B 4 _ hC2 (by omega)).mono ?_
      rintro e w3 ⟨r, ⟨hd0, hd1⟩, rfl, hC3, hg3⟩
      have hown3 := own_off hown2 hg3 hBw
      have hG3 := hG2.trans hg3
      have hq0 : w1.heap.size < (w1.alloc (.cells #[.int .i64 p, .int .i64 y] 50)).heap.size := by simp
      have x0 := (World.cell?_of_block (a := ⟨w1.heap.size, 0, none⟩) (hg3.block w1.heap.size hq0 (fun e => by injection e with e; omega))).trans (hx0 ⟨_, Below.refl _ _⟩)
      have x1 := (World.cell?_of_block (a := ⟨w1.heap.size, 1, none⟩) (hg3.block w1.heap.size hq0 (fun e => by injection e with e; omega))).trans (hx1 ⟨_, Below.refl _ _⟩)
      obtain ⟨d, rfl⟩ : ∃ d : Nat, r = d := ⟨r.toNat, by omega⟩
      obtain ⟨dx, dy, u1, u2, z1, z2, t1, t2, _⟩ := sideR_at p y (d := d) (by omega)
      obtain ⟨X, hX⟩ : ∃ X, X = p + dx := ⟨_, rfl⟩
      obtain ⟨Y, hY⟩ : ∃ Y, Y = y + dy := ⟨_, rfl⟩
      have W1 : wrap64 (p + dx) = X := by rw [hX]; exact IntWalk.wrap64_in _ ⟨by omega, by omega⟩
      have W2 : wrap64 (y + dy) = Y := by rw [hY]; exact IntWalk.wrap64_in _ ⟨by omega, by omega⟩
      have XY : Hid (p + dx = X ∧ y + dy = Y) := ⟨hX.symm, hY.symm⟩
      have W3 := XY.out.1
      have W4 := XY.out.2
      have bX : -1 ≤ X ∧ X ≤ 8 ∧ -1 ≤ Y ∧ Y ≤ 8 := ⟨by omega, by omega, by omega, by omega⟩
      have hb4 := below_alloc w3 (.cells #[.int .i64 X, .int .i64 Y] 50)
      have hC4 := hC3.below hb4
      have hown4 := hown3.below hb4
      have hG4 := hG3.trans (below_any (row := some B) hb4)
      have n0 := later_box (w := w3) (t := 50) (show (#[Value.int .i64 X, .int .i64 Y] : Array Value)[0]? = some (.int .i64 X) from rfl)
      have n1 := later_box (w := w3) (t := 50) (show (#[Value.int .i64 X, .int .i64 Y] : Array Value)[1]? = some (.int .i64 Y) from rfl)
      have HBX := Lib.hid bX
      have hcl : cs.length ≤ 7 := by omega
      clear hX hY hown2 hC2 hG2 hx0 hx1 hb2 c1 c2 hC3 hg3 hown3 hG3 bX hbl
      cases hx : inB X 0 7 with
      | false =>
        have C1 := fun w => l1In_eq hx w
        clear hx n0 n1
        go_wp2_with (first | (go_at_call 48; with_reducible refine (C1 _).mono ?_; rintro e w' ⟨rfl, rfl⟩))
        go_roundw
        case rel => exact ⟨k + 1, cs, by omega, by omega, by go_num, hown4, hl1, by omega, hON, hC4, hG4⟩
        case measure => simp [intOf]; omega
      | true =>
        have C1 := fun w => l1In_eq hx w
        cases hy : inB Y 0 7 with
        | false =>
          have C2 := fun w => l1In_eq hy w
          clear hx hy n0 n1
          go_wp2_with (first | (go_at_call 48; with_reducible refine (C1 _).mono ?_; rintro e w' ⟨rfl, rfl⟩) | (go_at_call 48; with_reducible refine (C2 _).mono ?_; rintro e w' ⟨rfl, rfl⟩))
          go_roundw
          case rel => exact ⟨k + 1, cs, by omega, by omega, by go_num, hown4, hl1, by omega, hON, hC4, hG4⟩
          case measure => simp [intOf]; omega
        | true =>
          have C2 := fun w => l1In_eq hy w
          have hrx : 0 ≤ X ∧ X ≤ 7 := by simpa [inB] using hx
          have hry : 0 ≤ Y ∧ Y ≤ 7 := by simpa [inB] using hy
          have C3 := specHasCell (some ⟨b, o, none⟩) cs.length cap cs X Y (w3.alloc (.cells #[.int .i64 X, .int .i64 Y] 50)) (by omega) (own_cells hown4)
          cases hv : memC cs X Y with
          | true =>
            rw [hv] at C3
            clear hx hy hv n0 n1
            go_wp2_with fail
            refine (C1 _).mono ?_
            rintro e w' ⟨rfl, rfl⟩
            go_wp2_with fail
            refine (C2 _).mono ?_
            rintro e w' ⟨rfl, rfl⟩
            go_wp2_with fail
            refine C3.mono ?_
            rintro e w' ⟨rfl, rfl⟩
            go_wp2
            go_roundw
            case rel => exact ⟨k + 1, cs, by omega, by omega, by go_num, hown4, hl1, by omega, hON, hC4, hG4⟩
            case measure => simp [intOf]; omega
          | false =>
            rw [hv] at C3
            have HON2 : Hid (onL (cs ++ [(X, Y)])) := (show onL _ from fun c hc => by
              rcases List.mem_append.1 hc with hc | hc
              · exact hON.out c hc
              · rw [List.mem_singleton.1 hc]; exact ⟨hrx.1, hrx.2, hry.1, hry.2⟩)
            have hsz := hG4.size
            clear hx hy hv n0 n1 hrx hry
            go_wp2_with fail
            refine (C1 _).mono ?_
            rintro e w' ⟨rfl, rfl⟩
            go_wp2_with fail
            refine (C2 _).mono ?_
            rintro e w' ⟨rfl, rfl⟩
            go_wp2_with fail
            refine C3.mono ?_
            rintro e w' ⟨rfl, rfl⟩
            have m0 : (w3.alloc (.cells #[.int .i64 X, .int .i64 Y] 50)).cell? ⟨w3.heap.size, 0, none⟩ = some (.int .i64 X) := by simp
            have m1 : (w3.alloc (.cells #[.int .i64 X, .int .i64 Y] 50)).cell? ⟨w3.heap.size, 1, none⟩ = some (.int .i64 Y) := by simp
            have hnw := heap_alloc_new (w3.alloc (.cells #[.int .i64 X, .int .i64 Y] 50)) (.cells #[.int .i64 X, .int .i64 Y] 50)
            rw [show (w3.alloc (.cells #[.int .i64 X, .int .i64 Y] 50)).heap.size = w3.heap.size + 1 by simp] at hnw
            go_wp2_with (at_builtin; refine wpList_append_own _ rfl _ _ 24 rfl w.heap.size 50 i0 (.agg #[.int .i64 0, .int .i64 0]) 2 16 Tryz.underlying24 hi hz0 hz1 hz2 rfl (by decide) _ _ _ rfl (World.ownsRow.alloc hown4 _) ⟨w3.heap.size + 1, 0, none⟩ 1 1 (flat [(X, Y)]) rfl rfl ?c1 ?c2 ?c3 ?c4 ?c5 ?_)
            case c1 => exact World.news_of_block (cs := #[.int .i64 X, .int .i64 Y]) hnw
            case c2 => exact flat_one
            case c3 => unfold maxLen; omega
            case c4 => omega
            case c5 => simp at hsz ⊢; omega
            intro v' w5 hown5 hgrow _
            have hb5 := below_alloc (w3.alloc (.cells #[.int .i64 X, .int .i64 Y] 50)) (.cells #[.int .i64 X, .int .i64 Y] 50)
            have hownZ := hown4.below hb5
            have hC5 := (hC4.below hb5).own hownZ hgrow hBw
            have hG5 := grown_own (hG4.trans (below_any (row := some B) hb5)) hownZ hgrow (Nat.le_refl _)
            have hO5 : Own w5 w.heap.size v' (cs ++ [(X, Y)]) := by
              unfold Own
              rw [flat_append, List.length_append]
              exact hown5
            clear hown5 hgrow hownZ hb5 hnw m0 m1 hC4 hG4 hown4
            go_wp2
            go_roundw
            case rel => exact ⟨k + 1, cs ++ [(X, Y)], by omega, by omega, by go_num, hO5, by simp, by simp; omega, HON2, hC5, hG5⟩
            case measure => simp [intOf]; omega
    · obtain rfl : k = n := by omega
      have hcl : cs.length ≤ 7 := by omega
      have hr := own_cells hown
      have HSM := Lib.hid hON.out.small
      go_wp2_with fail
      refine (specSort A cs.length cap cs wr (by omega) hr).mono ?_
      rintro e w1 ⟨v1, rfl, hO1, hb1⟩
      obtain ⟨A1, cap1, rfl, hr1, _⟩ := hO1.form
      have hsl := sortC_le cs
      have hsp : 1 ≤ (sortC cs).length := by
        have hne : cs ≠ [] := by intro e; rw [e] at hl1; simp at hl1
        obtain ⟨c, hc⟩ := List.exists_mem_of_ne_nil cs hne
        exact List.length_pos_of_mem ((sortC_mem cs c).2 hc)
      have hSS : smallL (sortC cs) := fun c hc => HSM.out c ((sortC_mem cs c).1 hc)
      go_wp2_with fail
      refine (specCorner A1 (sortC cs).length cap1 (sortC cs) w1 hSS (by omega) hr1).mono ?_
      rintro e w2 ⟨v2, rfl, hO2, hb2⟩
      have hCC : onL (cornerC (sortC cs)) := by
        have hoo : oneSide (·.1) (sortC cs) ∧ oneSide (·.2) (sortC cs) := ⟨Or.inl fun c hc => by have := hON.out c ((sortC_mem cs c).1 hc); exact ⟨this.1, this.2.1⟩, Or.inl fun c hc => by have := hON.out c ((sortC_mem cs c).1 hc); exact ⟨this.2.2.1, this.2.2.2⟩⟩
        intro c hc
        obtain ⟨a, ha, rfl⟩ := List.mem_map.1 hc
        have h1 := corner_bounds (·.1) hoo.1 a ha
        have h2 := corner_bounds (·.2) hoo.2 a ha
        simp only at h1 h2 ⊢
        omega
      have HCS := Lib.hid hCC.small
      have hG2 := (hG.trans (below_any (row := some B) hb1)).trans (below_any (row := some B) hb2)
      have hC2 := (hC.below hb1).below hb2
      have hsz : w.heap.size ≤ w1.heap.size := Nat.le_trans hG.size hb1.size
      have hO2' := hO2.mono (base' := w.heap.size) hsz
      obtain ⟨A2, cap2, rfl, _, _⟩ := hO2.form
      go_wp2
      go_ret
      have hl2 : (cornerC (sortC cs)).length = (sortC cs).length := cornerC_length _
      exact ⟨_, _, rfl, hO2', by omega, by omega, HCS.out, hC2, hG2⟩
theorem drawShape (b0 B : Nat) (w : World) (h : Cur w b0 B) : Calls Tryz.prog 67 #[.pointer (some ⟨B, 0, none⟩)] w (GrowPost 7 b0 B w) := by
  go_enter Tryz.func67, Tryz.ntmps67
  go_wp2_with fail
  refine (drawBelow b0 B 7 w h (by omega)).mono ?_
  rintro e w1 ⟨r, ⟨hr0, hr1⟩, rfl, hC1, hg1⟩
  obtain ⟨q, rfl⟩ : ∃ q : Nat, r = q := ⟨r.toNat, by omega⟩
  have hG := drawGrow b0 B (1 + q) w1 hC1 (by omega) (by omega)
  rw [show ((1 + q : Nat) : Int) = 1 + (q : Int) by omega] at hG
  go_wp2_with fail
  refine hG.mono ?_
  rintro e w2 ⟨v, cs, rfl, hO, hl1, hl7, hsm, hC2, hg2⟩
  obtain ⟨A, cap, rfl, _, _⟩ := hO.form
  have hO' := hO.mono (base' := w.heap.size) hg1.size
  clear hG
  go_wp2
  go_ret
  exact ⟨_, cs, rfl, hO', hl1, hl7, hsm, hC2, hg1.trans hg2⟩
/-- a slice of cells behind base -/
structure Drawn (w : World) (base : Nat) (A : Option Addr) (n : Nat) (cs : List C) : Prop where
  cells : CellsAt w A n cs
  far : ∀ b o, A = some ⟨b, o, none⟩ → base ≤ b
theorem Drawn.off {w w' : World} {base B : Nat} {A : Option Addr} {n : Nat} {cs : List C} (h : Drawn w base A n cs) (hg : w.grownBy w' (some B)) (hB : B < base) : Drawn w' base A n cs := by
  refine ⟨⟨h.cells.1, fun hn => ?_⟩, h.far⟩
  obtain ⟨b, o, e, hlt, hc⟩ := h.cells.2 hn
  have hf := h.far b o e
  have hne : some b ≠ some B := fun e => by injection e with e; omega
  exact ⟨b, o, e, Nat.lt_of_lt_of_le hlt hg.size, fun j hj => ⟨(World.cell?_of_block (a := ⟨b, o + j * 2, none⟩) (hg.block b hlt hne)).trans (hc j hj).1, (World.cell?_of_block (a := ⟨b, o + j * 2 + 1, none⟩) (hg.block b hlt hne)).trans (hc j hj).2⟩⟩
theorem Drawn.below {w w' : World} {base : Nat} {A : Option Addr} {n : Nat} {cs : List C} (h : Drawn w base A n cs) (hb : Below w.heap.size w w') : Drawn w' base A n cs := ⟨h.cells.below hb, h.far⟩
theorem Drawn.mono {w : World} {base base' : Nat} {A : Option Addr} {n : Nat} {cs : List C} (h : Drawn w base A n cs) (hb : base' ≤ base) : Drawn w base' A n cs := ⟨h.cells, fun b o e => Nat.le_trans hb (h.far b o e)⟩
theorem Own.drawn {w : World} {base n cap : Nat} {A : Option Addr} {cs : List C} (h : Own w base (.slice A n cap) cs) : Drawn w base A n cs :=
  ⟨own_cells h, fun b o e => by subst e; exact (h.lt b rfl).1⟩
def AnyPost (b0 B : Nat) (w : World) (e : Ending) (w' : World) : Prop := ∃ (A : Option Addr) (n cap : Nat) (cs : List C), e = .returned (.slice A n cap) ∧ Drawn w' w.heap.size A n cs ∧ n ≤ 8 ∧ Cur w' b0 B ∧ w.grownBy w' (some B)
theorem CellsAt.dropC {w : World} {A : Option Addr} {n k cap : Nat} {cs : List C} (h : CellsAt w A n cs) (hk : k ≤ n) (hcap : n ≤ cap) : CellsAt w (if cap = k then A else A.map (·.add (k * 2))) (n - k) (cs.drop k) := by
  have hl : (cs.drop k).length = n - k := by rw [List.length_drop, h.1]
  by_cases hn : k < n
  · obtain ⟨b, o, e, hlt, hc⟩ := h.2 (by omega)
    subst e
    rw [if_neg (by omega)]
    refine ⟨hl, fun _ => ⟨b, o + k * 2, by simp [Addr.add_lit], hlt, fun j hj => ?_⟩⟩
    have := hc (k + j) (by omega)
    rw [show (cs.drop k).getD j (0, 0) = cs.getD (k + j) (0, 0) by simp [List.getD_eq_getElem?_getD], show o + k * 2 + j * 2 = o + (k + j) * 2 by omega]
    exact this
  · exact ⟨by rw [hl], fun h0 => by omega⟩
set_option maxRecDepth 100000 in
set_option maxHeartbeats 800000 in
theorem drawPick (b0 B : Nat) (a : Addr) (n cap : Nat) (w : World) (h : Cur w b0 B) (hn : 0 < n) (hr : ∀ j, j < n → ∃ v : Int, w.cell? ⟨a.block, a.off + j, none⟩ = some (.int .i64 v)) (ha : a = ⟨a.block, a.off, none⟩) (hlt : a.block < w.heap.size) (hne : a.block ≠ B) :
    Calls Tryz.prog 68 #[.pointer (some ⟨B, 0, none⟩), .slice (some a) n cap] w (DrawPost (fun _ => True) b0 B w) := by
  obtain ⟨b, o, t⟩ := a
  injection ha with _ _ ha
  subst ha
  simp only at hr hlt hne
  have hnp : (0 : Int) < (n : Int) := by omega
  go_enter Tryz.func68, Tryz.ntmps68
  go_wp2_with fail
  refine (drawBelow b0 B n w h hnp).mono ?_
  rintro e w1 ⟨r, ⟨hr0, hr1⟩, rfl, hC1, hg1⟩
  obtain ⟨q, rfl⟩ : ∃ q : Nat, r = q := ⟨r.toNat, by omega⟩
  obtain ⟨v, hv⟩ := hr q (by omega)
  have hv1 := (World.cell?_of_block (a := ⟨b, o + q, none⟩) (hg1.block b hlt (fun e => by injection e with e; omega))).trans hv
  clear hr hv
  go_wp2
  go_ret
  exact ⟨_, trivial, rfl, hC1, hg1⟩
/-- what an append to a slice needs: its spare cells are there, in a block from base on, and are not frozen -/
def Ext (w : World) (base : Nat) (A : Option Addr) (n cap : Nat) : Prop := ∃ g off, A = some ⟨g, off, none⟩ ∧ base ≤ g ∧ g < w.heap.size ∧ n ≤ cap ∧ ∀ j, j < (cap - n) * 2 → (w.cell? ⟨g, off + n * 2 + j, none⟩).isSome = true ∧ w.frozen? ⟨g, off + n * 2 + j, none⟩ = false
theorem Own.ext {w : World} {base n cap : Nat} {A : Option Addr} {cs : List C} (h : Own w base (.slice A n cap) cs) (h0 : 0 < cs.length) : Ext w base A n cap := by
  rcases h.2 with ⟨_, h1⟩ | ⟨g, c8, cur, e8, hgb, hgc, hle, _, hsz, _⟩
  · omega
  · injection e8 with e8 e9 e10
    subst e8 e9 e10
    refine ⟨g, 0, rfl, hgb, lt_of_block hgc, hle, fun j hj => ⟨?_, ?_⟩⟩
    · have hlt : 0 + cs.length * 2 + j < cur.size := by rw [hsz, Nat.zero_add]; omega
      simp only [World.cell?, hgc]
      simp only [Nat.zero_add] at hlt
      simp [hlt]
    · simp only [World.frozen?, hgc]
      simp
theorem Ext.drop1 {w : World} {base n cap : Nat} {A : Option Addr} (h : Ext w base A n cap) (hn : 1 ≤ n) : Ext w base (A.map (·.add (1 * 2))) (n - 1) (cap - 1) := by
  obtain ⟨g, off, rfl, hb, hlt, hle, hs⟩ := h
  refine ⟨g, off + 2, by simp [Addr.add_lit], hb, hlt, by omega, fun j hj => ?_⟩
  have := hs j (by omega)
  rw [show off + 2 + (n - 1) * 2 + j = off + n * 2 + j by omega]
  exact this
theorem Ext.zero {w : World} {base n cap : Nat} {A : Option Addr} (h : Ext w base A n cap) : Ext w base A 0 0 := by
  obtain ⟨g, off, rfl, hb, hlt, hle, hs⟩ := h
  exact ⟨g, off, rfl, hb, hlt, Nat.le_refl _, fun j hj => by omega⟩
theorem Ext.off {w w' : World} {base n cap B : Nat} {A : Option Addr} (h : Ext w base A n cap) (hg : w.grownBy w' (some B)) (hB : B < base) : Ext w' base A n cap := by
  obtain ⟨g, off, rfl, hb, hlt, hle, hs⟩ := h
  have hk := hg.block g hlt (fun e => by injection e with e; omega)
  refine ⟨g, off, rfl, hb, Nat.lt_of_lt_of_le hlt hg.size, hle, fun j hj => ?_⟩
  have := hs j hj
  exact ⟨by rw [World.cell?_of_block (a := ⟨g, off + n * 2 + j, none⟩) hk]; exact this.1, by rw [World.frozen?_of_block (a := ⟨g, off + n * 2 + j, none⟩) hk]; exact this.2⟩
theorem Ext.below {w w' : World} {base n cap : Nat} {A : Option Addr} (h : Ext w base A n cap) (hg : Below w.heap.size w w') : Ext w' base A n cap := by
  obtain ⟨g, off, rfl, hb, hlt, hle, hs⟩ := h
  have hk := hg.block g hlt
  refine ⟨g, off, rfl, hb, Nat.lt_of_lt_of_le hlt hg.size, hle, fun j hj => ?_⟩
  have := hs j hj
  exact ⟨by rw [World.cell?_of_block (a := ⟨g, off + n * 2 + j, none⟩) hk]; exact this.1, by rw [World.frozen?_of_block (a := ⟨g, off + n * 2 + j, none⟩) hk]; exact this.2⟩
theorem sortC_pos (c : C) {cs : List C} : 0 < (sortC (cs ++ [c])).length := by
  have : c ∈ sortC (cs ++ [c]) := (sortC_mem _ _).2 (by simp)
  exact List.length_pos_of_mem this
def AnyPost2 (b0 B : Nat) (w : World) (e : Ending) (w' : World) : Prop := ∃ (A : Option Addr) (n cap : Nat) (cs : List C), e = .returned (.slice A n cap) ∧ Drawn w' w.heap.size A n cs ∧ n ≤ 8 ∧ Cur w' b0 B ∧ w.grownBy w' (some B) ∧ Ext w' w.heap.size A n cap
set_option maxRecDepth 100000 in
set_option maxHeartbeats 3200000 in
theorem drawAny2 (b0 B : Nat) (w : World) (h : Cur w b0 B) : Calls Tryz.prog 38 #[.pointer (some ⟨B, 0, none⟩)] w (AnyPost2 b0 B w) := by
  obtain ⟨i0, hi, hz0, hz1, hz2⟩ := info_parts Tryz.infoC
  have hBw := h.lt
  go_enter Tryz.func38, Tryz.ntmps38
  go_wp2_with fail
  refine (drawShape b0 B w h).mono ?_
  rintro e w1 ⟨v, cs, rfl, hO1, hl1, hl7, hsm, hC1, hg1⟩
  obtain ⟨A, cap, rfl, _, _⟩ := hO1.form
  go_wp2_with fail
  refine (drawBelow b0 B 12 w1 hC1 (by omega)).mono ?_
  rintro e w2 ⟨r, ⟨hr0, hr1⟩, rfl, hC2, hg2⟩
  have hO2 := own_off hO1 hg2 hBw
  have hG2 := hg1.trans hg2
  have HSM := Lib.hid hsm
  clear hO1 hC1 hg1 hg2 h hsm
  have hcases : r = 0 ∨ r = 1 ∨ r = 2 ∨ r = 3 ∨ 4 ≤ r := by omega
  rcases hcases with rfl | rfl | rfl | rfl | h4
  · go_wp2_with fail
    refine (drawBelow b0 B 9 w2 hC2 (by omega)).mono ?_
    rintro e w3 ⟨x, ⟨hx0, hx1⟩, rfl, hC3, hg3⟩
    go_wp2_with fail
    refine (drawBelow b0 B 9 w3 hC3 (by omega)).mono ?_
    rintro e w4 ⟨y, ⟨hy0, hy1⟩, rfl, hC4, hg4⟩
    have hg := hg3.trans hg4
    have hO4 := own_off hO2 hg hBw
    have hG4 := hG2.trans hg
    have hsz := hG4.size
    clear hO2 hG2 hg3 hg4 hg hC2 hC3
    go_wp2_with (at_builtin; refine wpList_append_own _ rfl _ _ 24 rfl w.heap.size 50 i0 (.agg #[.int .i64 0, .int .i64 0]) 2 16 Tryz.underlying24 hi hz0 hz1 hz2 rfl (by decide) _ _ _ rfl (World.ownsRow.alloc hO4 _) ⟨w4.heap.size, 0, none⟩ 1 1 (flat [(x - 1, y)]) rfl rfl ?c1 ?c2 ?c3 ?c4 ?c5 ?_)
    case c1 => exact World.news_of_block (cs := #[.int .i64 (x - 1), .int .i64 y]) (heap_alloc_new w4 _)
    case c2 => exact flat_one
    case c3 => unfold maxLen; omega
    case c4 => omega
    case c5 => simp; omega
    intro v' w5 hown5 hgrow _
    have hb5 := below_alloc w4 (.cells #[.int .i64 (x - 1), .int .i64 y] 50)
    have hownZ := hO4.below hb5
    have hC5 := (hC4.below hb5).own hownZ hgrow hBw
    have hG5 := grown_own (hG4.trans (below_any (row := some B) hb5)) hownZ hgrow (Nat.le_refl _)
    have hO5 : Own w5 w.heap.size v' (cs ++ [(x - 1, y)]) := by
      unfold Own
      rw [flat_append, List.length_append]
      exact hown5
    obtain ⟨A5, cap5, e5, _, _⟩ := hO5.form
    have e5' : v' = .slice A5 (cs.length + 1) cap5 := by rw [e5]; simp
    subst e5'
    clear e5 hown5 hgrow hownZ hb5 hC4 hG4 hO4
    go_wp2
    go_ret
    exact ⟨A5, cs.length + 1, cap5, _, rfl, hO5.drawn, by omega, hC5, hG5, by have := hO5.ext (by simp); exact this⟩
  · go_wp2_with fail
    refine (drawBelow b0 B 8 w2 hC2 (by omega)).mono ?_
    rintro e w3 ⟨x, ⟨hx0, hx1⟩, rfl, hC3, hg3⟩
    go_wp2_with fail
    refine (drawBelow b0 B 8 w3 hC3 (by omega)).mono ?_
    rintro e w4 ⟨y, ⟨hy0, hy1⟩, rfl, hC4, hg4⟩
    have hg := hg3.trans hg4
    have hO4 := own_off hO2 hg hBw
    have hG4 := hG2.trans hg
    have hsz := hG4.size
    clear hO2 hG2 hg3 hg4 hg hC2 hC3
    go_wp2_with (at_builtin; refine wpList_append_own _ rfl _ _ 24 rfl w.heap.size 50 i0 (.agg #[.int .i64 0, .int .i64 0]) 2 16 Tryz.underlying24 hi hz0 hz1 hz2 rfl (by decide) _ _ _ rfl (World.ownsRow.alloc hO4 _) ⟨w4.heap.size, 0, none⟩ 1 1 (flat [(x, y)]) rfl rfl ?c1 ?c2 ?c3 ?c4 ?c5 ?_)
    case c1 => exact World.news_of_block (cs := #[.int .i64 x, .int .i64 y]) (heap_alloc_new w4 _)
    case c2 => exact flat_one
    case c3 => unfold maxLen; omega
    case c4 => omega
    case c5 => simp; omega
    intro v' w5 hown5 hgrow _
    have hb5 := below_alloc w4 (.cells #[.int .i64 x, .int .i64 y] 50)
    have hownZ := hO4.below hb5
    have hC5 := (hC4.below hb5).own hownZ hgrow hBw
    have hG5 := grown_own (hG4.trans (below_any (row := some B) hb5)) hownZ hgrow (Nat.le_refl _)
    have hO5 : Own w5 w.heap.size v' (cs ++ [(x, y)]) := by
      unfold Own
      rw [flat_append, List.length_append]
      exact hown5
    obtain ⟨A5, cap5, e5, hr5, _⟩ := hO5.form
    obtain ⟨n5, hn5⟩ : ∃ n5, n5 = (cs ++ [(x, y)]).length := ⟨_, rfl⟩
    rw [← hn5] at e5 hr5
    have hn8 : n5 ≤ 8 := by rw [hn5]; simp; omega
    subst e5
    have hsl := sortC_le (cs ++ [(x, y)])
    rw [← hn5] at hsl
    clear hown5 hgrow hownZ hb5 hC4 hG4 hO4 hn5 hO5
    go_wp2_with fail
    refine (specSort A5 n5 cap5 (cs ++ [(x, y)]) w5 (by omega) hr5).mono ?_
    rintro e w6 ⟨v6, rfl, hO6, hb6⟩
    obtain ⟨A6, cap6, rfl, _, _⟩ := hO6.form
    have hO6' := hO6.mono (base' := w.heap.size) hG5.size
    have hC6 := hC5.below hb6
    have hG6 := hG5.trans (below_any (row := some B) hb6)
    go_wp2
    go_ret
    exact ⟨A6, _, cap6, _, rfl, hO6'.drawn, by omega, hC6, hG6, hO6'.ext (sortC_pos _)⟩
  · obtain ⟨hcap, _⟩ := own_cap hO2
    obtain ⟨A6, hA6⟩ : ∃ A6, A6 = (if cap = 1 then A else A.map (·.add (1 * 2))) := ⟨_, rfl⟩
    have hD : Drawn w2 w.heap.size A6 (cs.length - 1) (cs.drop 1) := by
      refine ⟨by rw [hA6]; exact (own_cells hO2).dropC hl1 hcap, fun b o e => ?_⟩
      rw [hA6] at e
      split at e
      · exact hO2.drawn.far b o e
      · cases hA : A with
        | none => rw [hA] at e; cases e
        | some a =>
          rw [hA] at e
          obtain ⟨ab, ao, at'⟩ := a
          have hfo := hO2.form
          obtain ⟨A7, c7, e7, _, _⟩ := hfo
          rcases hO2.2 with ⟨e8, _⟩ | ⟨g, c8, cur, e8, hgb, _⟩
          · injection e8 with e8 _ _; rw [hA] at e8; cases e8
          · injection e8 with e8 _ _
            rw [hA] at e8
            injection e8 with e8
            injection e8 with e8 e9 e10
            subst e8 e9 e10
            simp [Addr.add_lit] at e
            omega
    have i1 : (1 : Int) ≤ (cs.length : Int) := by omega
    have i2 : (cs.length : Int) ≤ (cap : Int) := by omega
    by_cases hc1 : cap = 1
    · subst hc1
      rw [if_pos rfl] at hA6
      subst hA6
      have hz : cs.length - 1 = 0 := by omega
      rw [hz] at hD
      clear hz
      go_wp2
      go_ret
      exact ⟨_, 0, 0, _, rfl, hD, by omega, hC2, hG2, (hO2.ext (by omega)).zero⟩
    · rw [if_neg hc1] at hA6
      subst hA6
      go_wp2
      go_ret
      exact ⟨_, cs.length - 1, cap - 1, _, rfl, hD, by omega, hC2, hG2, (hO2.ext (by omega)).drop1 (by omega)⟩
  · obtain ⟨g, c8, cur, e8, hgb, hgc⟩ : ∃ g c8 cur, Value.slice A cs.length cap = .slice (some ⟨g, 0, none⟩) cs.length c8 ∧ w.heap.size ≤ g ∧ w2.heap[g]? = some (.cells cur 50 (0, 0)) := by
      rcases hO2.2 with ⟨_, h0⟩ | ⟨g, c8, cur, e8, hgb, hgc, _⟩
      · omega
      · exact ⟨g, c8, cur, e8, hgb, hgc⟩
    injection e8 with e8 _ e9
    subst e8 e9
    clear hgc
    have hbA := below_alloc w2 (.cells #[.int .i64 (-1), .int .i64 8, .int .i64 9223372036854775807] 3)
    have hO3 := hO2.below hbA
    have hC3 := hC2.below hbA
    have hG3 := hG2.trans (below_any (row := some B) hbA)
    have hnw := heap_alloc_new w2 (.cells #[.int .i64 (-1), .int .i64 8, .int .i64 9223372036854775807] 3)
    have hB2 := hC2.lt
    have hP := drawPick b0 B ⟨w2.heap.size, 0, none⟩ 3 3 _ hC3 (by omega) (fun j hj => by
      have : j = 0 ∨ j = 1 ∨ j = 2 := by omega
      rcases this with rfl | rfl | rfl
      · exact ⟨-1, by simp⟩
      · exact ⟨8, by simp⟩
      · exact ⟨9223372036854775807, by simp⟩) rfl (by simp) (by show w2.heap.size ≠ B; omega)
    clear hO2 hC2 hG2 hbA hC3
    go_wp2_with fail
    refine hP.mono ?_
    rintro e w4 ⟨x, _, rfl, hC4, hg4⟩
    have hO4 := own_off hO3 hg4 hBw
    have hG4 := hG3.trans hg4
    obtain ⟨p, q, t, ht⟩ : ∃ p q t, cs = (p, q) :: t := by
      cases cs with
      | nil => simp at hl1
      | cons a t => exact ⟨a.1, a.2, t, rfl⟩
    have hst := World.ownsRow.stored hO4 0 (.int .i64 x)
    have f0 := World.ownsRow.frozenAt hO4 0
    have z0 : w4.cell? ⟨g, 0, none⟩ = some (.int .i64 p) := by
      have := World.ownsRow.cellAt hO4 0 (by omega)
      rw [this, ht]; rfl
    have hO5 : Own (w4.setCell ⟨g, 0, none⟩ (.int .i64 x)) w.heap.size (.slice (some ⟨g, 0, none⟩) cs.length cap) ((x, q) :: t) := by
      unfold Own
      have e1 : (flat cs).set 0 (.int .i64 x) = flat ((x, q) :: t) := by rw [ht]; rfl
      have e2 : ((x, q) :: t).length = cs.length := by rw [ht]; rfl
      rw [← e1, e2]
      exact hst.1
    have hC5 := hC4.own hO4 hst.2 hBw
    have hG5 := grown_own hG4 hO4 hst.2 (Nat.le_refl _)
    have i1 : (0 : Int) < (cs.length : Int) := by omega
    clear hP hO3 hG3 hg4 hnw ht hst hO4 hC4 hG4
    go_wp2
    go_ret
    exact ⟨_, cs.length, cap, _, rfl, hO5.drawn, by omega, hC5, hG5, hO5.ext (by simp)⟩
  · have c0 : (r == 0) = false := by simp; omega
    have c1 : (r == 1) = false := by simp; omega
    have c2 : (r == 2) = false := by simp; omega
    have c3 : (r == 3) = false := by simp; omega
    go_wp2
    go_ret
    exact ⟨A, _, cap, cs, rfl, hO2.drawn, by omega, hC2, hG2, hO2.ext (by omega)⟩
theorem drawAny (b0 B : Nat) (w : World) (h : Cur w b0 B) : Calls Tryz.prog 38 #[.pointer (some ⟨B, 0, none⟩)] w (AnyPost b0 B w) :=
  (drawAny2 b0 B w h).mono fun _ _ ⟨A, n, cap, cs, h1, h2, h3, h4, h5, _⟩ => ⟨A, n, cap, cs, h1, h2, h3, h4, h5⟩
end Go.Proofs.YtacegndmclnbnaaGreatDoor
