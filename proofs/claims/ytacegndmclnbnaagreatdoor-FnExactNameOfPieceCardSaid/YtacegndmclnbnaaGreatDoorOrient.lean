/- OrientationsOf, CanonicalShape, IsCongruent, the program's and the reference's: contracts. Condition: slices of at most 2^20 cells. -/
import Derived.Test.YtacegndmclnbnaaGreatDoorPut
import Derived.Test.YtacegndmclnbnaaGreatDoorPutS
import Derived.Test.YtacegndmclnbnaaGreatDoorOrientM
namespace Go.Proofs.YtacegndmclnbnaaGreatDoor
open Go.RowKit

theorem own_far {w w' : World} {base : Nat} {v : Value} {cs : List C} {row : Option Nat} (h : Own w base v cs) (hg : w.grownBy w' row) (hr : ∀ k, row = some k → k < base ∨ w.heap.size ≤ k) : Own w' base v cs := by
  refine h.kept hg ?_
  cases hv : v.ownBlock with
  | none => exact Or.inl rfl
  | some k => exact Or.inr fun e => by have := h.lt k hv; have := hr k e.symm; omega
theorem apart_new {w w3 : World} {base B : Nat} {v u : Value} {vs : List Value} {ls : L2} {cs : List C} (h : OwnV w base v vs ls) (ho : Own w3 B u cs) (hB : w.heap.size ≤ B) :
    (∀ x, x ∈ vs → x.ownBlock = none ∨ x.ownBlock ≠ u.ownBlock) ∧ (u.ownBlock = none ∨ u.ownBlock ≠ v.ownBlock) := by
  refine ⟨fun x hx => ?_, ?_⟩
  · cases hb : x.ownBlock with
    | none => exact Or.inl rfl
    | some k => exact Or.inr fun e => by have := (h.lt_in hx k hb).2; have := (ho.lt k e.symm).1; omega
  · cases hb : u.ownBlock with
    | none => exact Or.inl rfl
    | some k => exact Or.inr fun e => by have := (h.lt k e.symm).2; have := (ho.lt k hb).1; omega
theorem OwnV.cell {w : World} {base : Nat} {v : Value} {vs : List Value} {ls : L2} (h : OwnV w base v vs ls) {k : Nat} {cs : List C} (hk : ls[k]? = some cs) :
    ∃ g cap B c, v = .slice (some ⟨g, 0, none⟩) ls.length cap ∧ vs[k]? = some (.slice B cs.length c) ∧ w.cell? ⟨g, k, none⟩ = some (.slice B cs.length c) ∧ Own w base (.slice B cs.length c) cs := by
  have hkl := (List.getElem?_eq_some_iff.1 hk).1
  have hvl : k < vs.length := by rw [h.len]; exact hkl
  have e1 := List.getElem?_eq_getElem hvl
  have hO := h.each k _ _ e1 hk
  obtain ⟨B, c, e, _, _⟩ := hO.form
  have hrow := h.row
  rw [h.len] at hrow
  obtain ⟨g, cap, e2, _, _⟩ := World.ownsRow.form hrow (by omega)
  rw [e2] at hrow
  have hc := World.ownsRow.cellAt hrow k (by omega)
  rw [e1, e] at hc
  rw [e] at hO e1
  exact ⟨g, cap, B, c, e2, e1, hc, hO⟩
/-- what the reference hands back where it hands back a shape of a list -/
def SpecC (w : World) (cs : List C) (e : Ending) (w' : World) : Prop := ∃ A cap, e = .returned (.slice A cs.length cap) ∧ CellsAt w' A cs.length cs ∧ Below w.heap.size w w'
theorem putTo_short {cs : List C} (h : isShape cs = true) (k : Nat) : shortS (putTo (turnC cs) k) := by
  intro x hx
  obtain ⟨m, _, rfl⟩ := (putTo_mem _ _ _).1 hx
  have := shape_len (turn_shape h m)
  omega

set_option maxRecDepth 100000 in
set_option maxHeartbeats 1600000 in
theorem implOrient (A : Option Addr) (n cap : Nat) (cs : List C) (w : World) (hn : n ≤ 1048576) (h : CellsAt w A n cs) :
    Calls Tryz.prog 115 #[.slice A n cap] w (ImplL w (orientL cs)) := by
  have hc := implIsShape A n cap cs w hn h
  cases hs : isShape cs with
  | false =>
    have HR : Hid (orientL cs = []) := orientL_none hs
    rw [hs] at hc
    clear hs
    go_enter Tryz.func115, Tryz.ntmps115
    go_wp2_with fail
    refine hc.mono ?_
    rintro e w1 ⟨rfl, hb⟩
    go_wp2
    go_ret
    rw [HR.out]
    exact ⟨_, _, rfl, OwnV.nil _ _, hb⟩
  | true =>
    have HR : Hid (orientL cs = putTo (turnC cs) 8) := by show _ = _; unfold orientL; rw [hs]; rfl
    have HS := Lib.hid hs
    have hl := shape_len hs
    rw [h.1] at hl
    have hlc := Lib.hid h.1
    rw [hs] at hc
    clear hs
    go_enter Tryz.func115, Tryz.ntmps115
    go_wp2_with fail
    refine hc.mono ?_
    rintro e w1 ⟨rfl, hb0⟩
    clear hc
    have h1 := h.below hb0
    clear h
    go_wp2
    go_loopw [3, 4, 8] (fun v _ i wr => ∃ (k : Nat) (vs : List Value), k ≤ 8 ∧ i = .int .i64 k ∧ OwnV wr w1.heap.size v vs (putTo (turnC cs) k) ∧ Below w1.heap.size w1 wr) (fun _ _ i _ => 8 - (intOf i).toNat)
    case atStart => exact ⟨0, [], Nat.zero_le _, rfl, OwnV.nil _ _, Below.refl _ _⟩
    case round =>
      obtain ⟨k, vs, hk, rfl, hown, hb⟩ := hrel
      have HB : Hid (Below w.heap.size w wr) := hb0.trans (hb.mono hb0.size)
      by_cases hlt : k < 8
      · have hki : (k : Int) < 8 := by omega
        have hA := h1.below hb
        clear h1
        go_wp2_with fail
        refine (implTurned A n cap cs k wr (by omega) (sorts_small n (by omega)) (by omega) (shape_smallL HS.out) hn hA).mono ?_
        rintro e w3 ⟨v3, rfl, hO3, hb3⟩
        obtain ⟨D, cap3, rfl, _, _⟩ := hO3.form
        have hap := apart_new hown hO3 (Nat.le_refl _)
        have hown3 := hown.below hb3
        have hbB := hb.trans (hb3.mono hb.size)
        have hO3' := hO3.mono (base' := w1.heap.size) hb.size
        have hln := putTo_len (turnC cs) k
        have htl := (shape_len (turn_shape HS.out k)).2
        have hP := implPut u3 vs _ D (turnC cs k).length cap3 (turnC cs k) w1.heap.size w3 (by omega) (putTo_short HS.out k) (by omega) (putTo_sorted _ k) hbB.size hown3 hO3' hap.1 hap.2
        rw [← putTo_succ] at hP
        have HL3 := Lib.hid hown3.lt
        clear hown hO3 hb3 hb hap hown3 hO3' hA hln htl
        go_wp2_with fail
        refine hP.mono ?_
        rintro e w4 ⟨v4, vs4, rfl, hown4, hg4, _, _⟩
        have hbC := hbB.grown hg4 hbB.size (fun z hz => (HL3.out z hz).1)
        clear hP hbB hg4
        go_wp2
        go_roundw
        case rel => exact ⟨k + 1, vs4, by omega, by go_num, hown4, hbC⟩
        case measure => simp [intOf]; omega
      · obtain rfl : k = 8 := by omega
        go_wp2
        go_ret
        rw [HR.out]
        exact ⟨_, vs, rfl, hown.mono hb0.size, HB.out⟩
theorem shapes_empty (w : World) : ShapesAt (w.alloc (.cells #[] 24)) (some ⟨w.heap.size, 0, none⟩) 0 [] := ShapesAt.none_
set_option maxRecDepth 100000 in
set_option maxHeartbeats 1600000 in
theorem specOrient (A : Option Addr) (n cap : Nat) (cs : List C) (w : World) (hn : n ≤ 1048576) (h : CellsAt w A n cs) :
    Calls Tryz.prog 114 #[.slice A n cap] w (SpecL w (orientL cs)) := by
  cases hs : isShape cs with
  | false =>
    have HR : Hid (orientL cs = []) := orientL_none hs
    have hbE := below_alloc w (.cells #[] 24)
    have hc := specIsShape A n cap cs (w.alloc (.cells #[] 24)) hn (h.below hbE)
    rw [hs] at hc
    clear hs
    go_enter Tryz.func114, Tryz.ntmps114
    go_wp2
    go_loopw [3, 4] (fun v i wr => v = .slice (some ⟨w.heap.size, 0, none⟩) 0 0 ∧ i = .int .i64 0 ∧ wr = w.alloc (.cells #[] 24)) (fun _ _ _ => 0)
    case atStart => exact ⟨rfl, rfl, rfl⟩
    case round =>
      obtain ⟨rfl, rfl, rfl⟩ := hrel
      go_wp2_with fail
      refine hc.mono ?_
      rintro e w1 ⟨rfl, hb⟩
      go_wp2
      go_ret
      rw [HR.out]
      exact ⟨_, 0, rfl, ⟨ShapesAt.none_, Nat.le_refl _, Nat.zero_le _⟩, hbE.trans (hb.mono hbE.size)⟩
  | true =>
    have HR : Hid (orientL cs = putTo (turnC cs) 8) := by show _ = _; unfold orientL; rw [hs]; rfl
    have HS := Lib.hid hs
    have hl := shape_len hs
    rw [h.1] at hl
    have hlc := Lib.hid h.1
    have hbE := below_alloc w (.cells #[] 24)
    clear hs
    go_enter Tryz.func114, Tryz.ntmps114
    go_wp2
    go_loopw [3, 4] (fun v i wr => ∃ (k : Nat) (P : Option Addr) (p c : Nat), k ≤ 8 ∧ i = .int .i64 k ∧ v = .slice P p c ∧ p = (putTo (turnC cs) k).length ∧ ShapesAt wr P p (putTo (turnC cs) k) ∧ p ≤ c ∧ c ≤ maxLen ∧ Below w.heap.size w wr) (fun _ i _ => 8 - (intOf i).toNat)
    case atStart => exact ⟨0, _, 0, 0, Nat.zero_le _, rfl, rfl, rfl, ShapesAt.none_, Nat.le_refl _, Nat.zero_le _, hbE⟩
    case round =>
      clear hbE
      obtain ⟨k, P, p, c, hk, rfl, rfl, hp, hr, hpc, hcm, hb⟩ := hrel
      have hln := putTo_len (turnC cs) k
      have HP := Lib.hid hp
      by_cases hlt : k < 8
      · have hki : (k : Int) < 8 := by omega
        have hpm : p ≤ 8 := by omega
        have hc := specIsShape A n cap cs wr hn (h.below hb)
        rw [HS.out] at hc
        clear hln hp
        go_wp2_with fail
        refine hc.mono ?_
        rintro e w1 ⟨rfl, hb1⟩
        have hbA := hb.trans (hb1.mono hb.size)
        have hrA := hr.below hb1
        clear hc hb1 hr hb
        go_wp2_with fail
        refine (specTurn A n cap cs k w1 (by omega) (shape_smallL HS.out) hn (h.below hbA)).mono ?_
        rintro e w3 ⟨v3, rfl, hO3, hb3⟩
        obtain ⟨D, cap3, rfl, hr3, _⟩ := hO3.form
        have hrB := hrA.below hb3
        have hbB := hbA.trans (hb3.mono hbA.size)
        have htl := (shape_len (turn_shape HS.out k)).2
        have hS := specPut P p c (putTo (turnC cs) k) D (turnC cs k).length cap3 (turnC cs k) w3 (by omega) hpc hcm (putTo_short HS.out k) (by omega) (putTo_sorted _ k) hrB hr3
        rw [← putTo_succ] at hS
        clear hbA hb3 hO3 hrA hr3 hrB htl
        go_wp2_with fail
        refine hS.mono ?_
        rintro e w4 ⟨P4, c4, rfl, ⟨hr4, hpc4, hcm4⟩, hb4⟩
        have hbC := hbB.trans (hb4.mono hbB.size)
        have HX := Lib.hid hr4
        have HY := Lib.hid hpc4
        clear hS hbB hb4 hr4 hpc4
        go_wp2
        go_roundw
        case rel => exact ⟨k + 1, P4, _, c4, by omega, by go_num, rfl, rfl, HX.out, HY.out, hcm4, hbC⟩
        case measure => simp [intOf]; omega
      · obtain rfl : k = 8 := by omega
        go_wp2
        go_ret
        rw [HR.out]
        unfold SpecL
        rw [← HP.out]
        exact ⟨P, c, rfl, ⟨hr, hpc, hcm⟩, hb⟩

set_option maxHeartbeats 800000 in
theorem implCanon (A : Option Addr) (n cap : Nat) (cs : List C) (w : World) (hn : n ≤ 1048576) (h : CellsAt w A n cs) :
    Calls Tryz.prog 85 #[.slice A n cap] w (OwnPost w (canonC cs)) := by
  have hc := implOrient A n cap cs w hn h
  cases ho : orientL cs with
  | nil =>
    have HR : Hid (canonC cs = []) := by show _ = _; unfold canonC; rw [ho]; rfl
    rw [ho] at hc
    clear ho
    go_enter Tryz.func85, Tryz.ntmps85
    go_wp2_with fail
    refine hc.mono ?_
    rintro e w1 ⟨v, vs, rfl, hO, hb⟩
    obtain ⟨A1, cap1, rfl, _, _⟩ := hO.form
    go_wp2
    go_ret
    rw [HR.out]
    exact ⟨_, rfl, Own.nil _ _, hb⟩
  | cons a r =>
    have HR : Hid (canonC cs = a) := by show _ = _; unfold canonC; rw [ho]; rfl
    rw [ho] at hc
    have hlen : (r.length : Int) + 1 ≠ 0 := by omega
    clear ho
    go_enter Tryz.func85, Tryz.ntmps85
    go_wp2_with fail
    refine hc.mono ?_
    rintro e w1 ⟨v, vs, rfl, hO, hb⟩
    obtain ⟨g, c1, B, c2, rfl, _, hcell, hOa⟩ := hO.cell (k := 0) (cs := a) rfl
    obtain ⟨n1, hn1⟩ : ∃ n1, n1 = (a :: r).length := ⟨_, rfl⟩
    have hn2 : 0 < n1 := by rw [hn1]; simp
    have hn3 : ((n1 : Int) == 0) = false := by simp; omega
    have hn4 : ¬ n1 = 0 := by omega
    rw [← hn1]
    clear hn1 hc hO hlen
    go_wp2
    go_ret
    rw [HR.out]
    exact ⟨_, rfl, hOa, hb⟩
set_option maxHeartbeats 800000 in
theorem specCanon (A : Option Addr) (n cap : Nat) (cs : List C) (w : World) (hn : n ≤ 1048576) (h : CellsAt w A n cs) :
    Calls Tryz.prog 84 #[.slice A n cap] w (SpecC w (canonC cs)) := by
  have hc := specOrient A n cap cs w hn h
  cases ho : orientL cs with
  | nil =>
    have HR : Hid (canonC cs = []) := by show _ = _; unfold canonC; rw [ho]; rfl
    rw [ho] at hc
    clear ho
    go_enter Tryz.func84, Tryz.ntmps84
    go_wp2_with fail
    refine hc.mono ?_
    rintro e w1 ⟨A1, cap1, rfl, _, hb⟩
    have hb2 := hb.alloc hb.size (.cells #[] 50)
    go_wp2
    go_ret
    rw [HR.out]
    exact ⟨_, 0, rfl, CellsAt.none_, hb2⟩
  | cons a r =>
    have HR : Hid (canonC cs = a) := by show _ = _; unfold canonC; rw [ho]; rfl
    rw [ho] at hc
    clear ho
    go_enter Tryz.func84, Tryz.ntmps84
    go_wp2_with fail
    refine hc.mono ?_
    rintro e w1 ⟨A1, cap1, rfl, ⟨hr, _, _⟩, hb⟩
    obtain ⟨b, o, B, m, c, ds, rfl, hbb, HK, c2, r2⟩ := hr.at_ (k := 0) (by simp)
    have HE : Hid (ds = a) := by have := HK.out; simp at this; exact this.symm
    obtain ⟨n1, hn1⟩ : ∃ n1, n1 = (a :: r).length := ⟨_, rfl⟩
    have hn2 : 0 < n1 := by rw [hn1]; simp
    have hn3 : ((n1 : Int) == 0) = false := by simp; omega
    have hn4 : ¬ n1 = 0 := by omega
    rw [Nat.add_zero] at c2
    rw [← hn1]
    clear hn1 hc hr HK
    go_wp2
    go_ret
    rw [HR.out, ← HE.out]
    obtain rfl : ds.length = m := r2.1
    exact ⟨_, c, rfl, r2, hb⟩
def congL (a b : List C) : Bool := isShape a && (isShape b && decide (canonC a = canonC b))
set_option maxHeartbeats 800000 in
theorem implCongruent (A B : Option Addr) (n m cap cap' : Nat) (cs ds : List C) (w : World) (hn : n ≤ 1048576) (hm : m ≤ 1048576) (h : CellsAt w A n cs) (g : CellsAt w B m ds) :
    Calls Tryz.prog 65 #[.slice A n cap, .slice B m cap'] w fun e w' => e = .returned (.bool (congL cs ds)) ∧ Below w.heap.size w w' := by
  have hc := implIsShape A n cap cs w hn h
  cases hs : isShape cs with
  | false =>
    have HR : Hid (congL cs ds = false) := by show _ = _; unfold congL; rw [hs]; rfl
    rw [hs] at hc
    clear hs
    go_enter Tryz.func65, Tryz.ntmps65
    go_wp2_with fail
    refine hc.mono ?_
    rintro e w1 ⟨rfl, hb⟩
    go_wp2
    go_ret
    exact ⟨ret_bool HR.out.symm, hb⟩
  | true =>
    rw [hs] at hc
    have hd := fun w' (hb : Below w.heap.size w w') => implIsShape B m cap' ds w' hm (g.below hb)
    cases ht : isShape ds with
    | false =>
      have HR : Hid (congL cs ds = false) := by show _ = _; unfold congL; rw [hs, ht]; rfl
      rw [ht] at hd
      clear hs ht
      go_enter Tryz.func65, Tryz.ntmps65
      go_wp2_with fail
      refine hc.mono ?_
      rintro e w1 ⟨rfl, hb⟩
      go_wp2_with fail
      refine (hd _ hb).mono ?_
      rintro e w2 ⟨rfl, hb2⟩
      go_wp2
      go_ret
      exact ⟨ret_bool HR.out.symm, hb.trans (hb2.mono hb.size)⟩
    | true =>
      have HR : Hid (congL cs ds = decide (canonC cs = canonC ds)) := by show _ = _; unfold congL; rw [hs, ht]; rfl
      rw [ht] at hd
      have HH := Lib.hid h
      have HG := Lib.hid g
      have l1 := canonC_len cs
      have l2 := canonC_len ds
      clear hs ht h g
      go_enter Tryz.func65, Tryz.ntmps65
      go_wp2_with fail
      refine hc.mono ?_
      rintro e w1 ⟨rfl, hb⟩
      go_wp2_with fail
      refine (hd _ hb).mono ?_
      rintro e w2 ⟨rfl, hb2⟩
      have hb := hb.trans (hb2.mono hb.size)
      clear hc hd hb2
      go_wp2_with fail
      refine (implCanon A n cap cs w2 hn (HH.out.below hb)).mono ?_
      rintro e w3 ⟨v3, rfl, hO3, hb3⟩
      obtain ⟨D, c3, rfl, r3, _⟩ := hO3.form
      have hb := hb.trans (hb3.mono hb.size)
      go_wp2_with fail
      refine (implCanon B m cap' ds w3 hm (HG.out.below hb)).mono ?_
      rintro e w4 ⟨v4, rfl, hO4, hb4⟩
      obtain ⟨E, c4, rfl, r4, _⟩ := hO4.form
      have hb := hb.trans (hb4.mono hb.size)
      go_wp2_with fail
      refine (implEqualShapes D E _ _ c3 c4 _ _ w4 (by omega) (by omega) (r3.below hb4) r4).mono ?_
      rintro e w5 ⟨rfl, hb5⟩
      go_wp2
      go_ret
      exact ⟨ret_bool HR.out.symm, hb.trans (hb5.mono hb.size)⟩
set_option maxHeartbeats 800000 in
theorem specCongruent (A B : Option Addr) (n m cap cap' : Nat) (cs ds : List C) (w : World) (hn : n ≤ 1048576) (hm : m ≤ 1048576) (h : CellsAt w A n cs) (g : CellsAt w B m ds) :
    Calls Tryz.prog 62 #[.slice A n cap, .slice B m cap'] w fun e w' => e = .returned (.bool (congL cs ds)) ∧ Below w.heap.size w w' := by
  have hc := specIsShape A n cap cs w hn h
  cases hs : isShape cs with
  | false =>
    have HR : Hid (congL cs ds = false) := by show _ = _; unfold congL; rw [hs]; rfl
    rw [hs] at hc
    clear hs
    go_enter Tryz.func62, Tryz.ntmps62
    go_wp2_with fail
    refine hc.mono ?_
    rintro e w1 ⟨rfl, hb⟩
    go_wp2
    go_ret
    exact ⟨ret_bool HR.out.symm, hb⟩
  | true =>
    rw [hs] at hc
    have hd := fun w' (hb : Below w.heap.size w w') => specIsShape B m cap' ds w' hm (g.below hb)
    cases ht : isShape ds with
    | false =>
      have HR : Hid (congL cs ds = false) := by show _ = _; unfold congL; rw [hs, ht]; rfl
      rw [ht] at hd
      clear hs ht
      go_enter Tryz.func62, Tryz.ntmps62
      go_wp2_with fail
      refine hc.mono ?_
      rintro e w1 ⟨rfl, hb⟩
      go_wp2_with fail
      refine (hd _ hb).mono ?_
      rintro e w2 ⟨rfl, hb2⟩
      go_wp2
      go_ret
      exact ⟨ret_bool HR.out.symm, hb.trans (hb2.mono hb.size)⟩
    | true =>
      have HR : Hid (congL cs ds = decide (canonC cs = canonC ds)) := by show _ = _; unfold congL; rw [hs, ht]; rfl
      rw [ht] at hd
      have HH := Lib.hid h
      have HG := Lib.hid g
      have l1 := canonC_len cs
      have l2 := canonC_len ds
      clear hs ht h g
      go_enter Tryz.func62, Tryz.ntmps62
      go_wp2_with fail
      refine hc.mono ?_
      rintro e w1 ⟨rfl, hb⟩
      go_wp2_with fail
      refine (hd _ hb).mono ?_
      rintro e w2 ⟨rfl, hb2⟩
      have hb := hb.trans (hb2.mono hb.size)
      clear hc hd hb2
      go_wp2_with fail
      refine (specCanon A n cap cs w2 hn (HH.out.below hb)).mono ?_
      rintro e w3 ⟨D, c3, rfl, r3, hb3⟩
      have hb := hb.trans (hb3.mono hb.size)
      go_wp2_with fail
      refine (specCanon B m cap' ds w3 hm (HG.out.below hb)).mono ?_
      rintro e w4 ⟨E, c4, rfl, r4, hb4⟩
      have hb := hb.trans (hb4.mono hb.size)
      go_wp2_with fail
      refine (specEqualShapes D E _ _ c3 c4 _ _ w4 (by omega) (by omega) (r3.below hb4) r4).mono ?_
      rintro e w5 ⟨rfl, hb5⟩
      go_wp2
      go_ret
      exact ⟨ret_bool HR.out.symm, hb.trans (hb5.mono hb.size)⟩
end Go.Proofs.YtacegndmclnbnaaGreatDoor
