/- NameOfPiece of the reference and of the program, walked: the first piece that is congruent to the shape. Condition: slices of at most 2^20 cells. -/
import Derived.Test.YtacegndmclnbnaaGreatDoorPiece
import Derived.Test.YtacegndmclnbnaaGreatDoorOrient
namespace Go.Proofs.YtacegndmclnbnaaGreatDoor
open Go.RowKit
set_option linter.unusedVariables false

def nmR (cs : List C) : List UInt8 := match pieceL.find? (fun p => congL cs (pshR p.2).1) with
  | some p => p.1
  | none => []
def nmFrom (k : Nat) (cs : List C) : List UInt8 := match (pieceL.drop k).find? (fun p => congL cs (pshR p.2).1) with
  | some p => p.1
  | none => []
theorem nmFrom_yes {k : Nat} {p : List UInt8 × List UInt8} {cs : List C} (h : pieceL[k]? = some p) (hc : congL cs (pshR p.2).1 = true) : nmFrom k cs = p.1 := by
  unfold nmFrom
  rw [List.drop_eq_getElem_cons (List.getElem?_eq_some_iff.1 h).1, (List.getElem?_eq_some_iff.1 h).2, List.find?_cons]
  simp only [hc]
theorem nmFrom_no {k : Nat} {p : List UInt8 × List UInt8} {cs : List C} (h : pieceL[k]? = some p) (hc : congL cs (pshR p.2).1 = false) : nmFrom k cs = nmFrom (k + 1) cs := by
  unfold nmFrom
  rw [List.drop_eq_getElem_cons (List.getElem?_eq_some_iff.1 h).1, (List.getElem?_eq_some_iff.1 h).2, List.find?_cons]
  simp only [hc]
theorem nmFrom_end (cs : List C) : nmFrom 12 cs = [] := rfl
theorem piece_self : ∀ p, p ∈ pieceL → pieceL.find? (fun q => q.1 == p.1) = some p := by decide
theorem pcR_piece {k : Nat} {p : List UInt8 × List UInt8} (h : pieceL[k]? = some p) : pcR p.1 = pshR p.2 := by
  unfold pcR
  rw [piece_self p (List.mem_of_getElem? h)]
def namesV : Array Value := (pieceL.map fun p => Value.string ⟨p.1.toArray⟩).toArray
theorem name_cell (w : World) (t : TypeId) {k : Nat} {p : List UInt8 × List UInt8} (h : pieceL[k]? = some p) :
    (w.alloc (.cells namesV t)).cell? ⟨w.heap.size, k, none⟩ = some (.string ⟨p.1.toArray⟩) := by
  simp only [World.cell?, heap_alloc_new, namesV, List.getElem?_toArray, List.getElem?_map, h, Option.map_some]
  rfl
set_option maxRecDepth 20000 in
theorem specNames (W : World) : Calls Tryz.prog 60 #[] W fun e w' => e = .returned (.slice (some ⟨W.heap.size, 0, none⟩) 12 12) ∧ w' = W.alloc (.cells namesV 9) := by
  go_enter Tryz.func60, Tryz.ntmps60
  go_wp2
  go_ret
  exact ⟨rfl, rfl⟩
set_option maxRecDepth 20000 in
set_option maxHeartbeats 3200000 in
theorem specNameOfPiece (A : Option Addr) (n cap : Nat) (cs : List C) (W : World) (hn : n ≤ 1048576) (h : CellsAt W A n cs) :
    Calls Tryz.prog 34 #[.slice A n cap] W fun e w' => e = .returned (.string ⟨(nmR cs).toArray⟩) ∧ Below W.heap.size W w' := by
  have C0 := specNames W
  have hb0 := below_alloc W (.cells namesV 9)
  have hw2 : W.heap.size < (W.alloc (.cells namesV 9)).heap.size := by simp
  have hcell := fun (k : Nat) (p : List UInt8 × List UInt8) (h : pieceL[k]? = some p) => name_cell W 9 h
  revert C0 hb0 hw2 hcell
  generalize W.alloc (.cells namesV 9) = w2
  intro C0 hb0 hw2 hcell
  go_enter Tryz.func34, Tryz.ntmps34
  go_wp2_with fail
  refine C0.mono ?_
  rintro e w' ⟨rfl, rfl⟩
  clear C0
  go_wp2
  go_loopw [4, 5, 6] (fun i _ _ wr => ∃ k : Nat, k ≤ 12 ∧ i = .int .i64 k ∧ Hid (nmFrom k cs = nmR cs) ∧ Below w'.heap.size w' wr) (fun i _ _ _ => 12 - (intOf i).toNat)
  case atStart => exact ⟨0, Nat.zero_le _, rfl, rfl, Below.refl _ _⟩
  case round =>
    obtain ⟨k, hk, rfl, HP, hb⟩ := hrel
    have hB := hb0.trans (hb.mono hb0.size)
    by_cases hlt : k < 12
    · obtain ⟨p, hp⟩ := piece_some hlt
      have c0 := hcell k p hp
      have ebk : wr.heap[W.heap.size]? = w'.heap[W.heap.size]? := hb.block W.heap.size hw2
      have d0 : wr.cell? ⟨W.heap.size, k, none⟩ = some (.string ⟨p.1.toArray⟩) := by rw [← c0]; simp only [World.cell?, ebk]
      have hsm := (piece_small p (List.mem_of_getElem? hp)).1
      have hlen := pshR_len p.2
      have HY := Lib.hid fun hc => nmFrom_yes (cs := cs) hp hc
      have HN := Lib.hid fun hc => nmFrom_no (cs := cs) hp hc
      obtain ⟨nm, hnm⟩ : ∃ nm : ByteArray, nm = ⟨p.1.toArray⟩ := ⟨_, rfl⟩
      rw [← hnm] at d0
      have en : nm.data.toList = p.1 := by rw [hnm]
      have hnz : nm.size ≤ 1048576 := by
        rw [← en] at hsm
        have : nm.size ≤ 9 := by simpa using hsm
        omega
      have PS := specPieceNamed nm wr hnz
      rw [en, pcR_piece hp] at PS
      have EN := Lib.hid hnm
      revert PS hlen HY HN
      generalize pshR p.2 = R
      intro hlen HY HN PS
      clear hnm en c0 hcell hp ebk hnz hsm
      have hsz := hb.size
      have hk12 : (k : Int) < 12 := by omega
      go_wp2_with fail
      refine PS.mono ?_
      rintro e w4 ⟨v4, rfl, o4, k4⟩
      obtain ⟨A4, cap4, rfl, _, _⟩ := o4.form
      have K4 := hB.trans (k4.mono hB.size)
      have CG := specCongruent A A4 n R.1.length cap cap4 cs R.1 w4 hn (by omega) (h.below K4) (own_cells o4)
      have d4 := cell_keep d0 k4
      have hb4 := hb.trans (k4.mono hsz)
      clear PS o4 d0
      cases hc : congL cs R.1 with
      | true =>
        rw [hc] at CG
        have HE : Hid (nmR cs = p.1) := by show _ = _; rw [← HP.out]; exact HY.out hc
        clear HY HN HP hc
        go_wp2_with fail
        refine CG.mono ?_
        rintro e w5 ⟨rfl, k5⟩
        have d5 := cell_keep d4 k5
        have K5 := K4.trans (k5.mono K4.size)
        clear CG d4
        go_wp2
        go_ret
        exact ⟨by rw [HE.out, EN.out]; rfl, K5⟩
      | false =>
        rw [hc] at CG
        have HE : Hid (nmFrom (k + 1) cs = nmR cs) := by show _ = _; rw [← HP.out]; exact (HN.out hc).symm
        clear HY HN HP hc
        go_wp2_with fail
        refine CG.mono ?_
        rintro e w5 ⟨rfl, k5⟩
        have hb5 := hb4.trans (k5.mono hb4.size)
        clear CG d4
        go_wp2
        go_roundw
        case rel => exact ⟨k + 1, by omega, by go_num, HE, hb5⟩
        case measure => simp [intOf]; omega
    · have HE : Hid (nmR cs = []) := by
        show _ = _
        rw [← HP.out, show k = 12 by omega, nmFrom_end]
      have hk12 : ¬ (k : Int) < 12 := by omega
      go_wp2
      go_ret
      exact ⟨by rw [HE.out]; rfl, hB⟩
set_option maxRecDepth 20000 in
set_option maxHeartbeats 3200000 in
theorem implNameOfPiece (m : Int) (A : Option Addr) (n cap : Nat) (cs : List C) (W : World) (hm : W.cell? ⟨0, 0, none⟩ = some (.int .i64 m)) (hn : n ≤ 1048576) (h : CellsAt W A n cs) :
    Calls Tryz.prog 36 #[.slice A n cap] W fun e w' => e = .returned (.string ⟨(nmR cs).toArray⟩) ∧ Below W.heap.size W w' := by
  have C0 := implPieces W
  have hb0 := below_alloc W (.cells pieceV 70)
  have hw2 : W.heap.size < (W.alloc (.cells pieceV 70)).heap.size := by simp
  have hcell := fun (k : Nat) (p : List UInt8 × List UInt8) (h : pieceL[k]? = some p) => piece_cell W 70 h
  revert C0 hcell hb0 hw2
  generalize W.alloc (.cells pieceV 70) = w2
  intro C0 hb0 hw2 hcell
  go_enter Tryz.func36, Tryz.ntmps36
  go_wp2_with fail
  refine C0.mono ?_
  rintro e w' ⟨rfl, rfl⟩
  clear C0
  go_wp2
  go_loopw [4, 5, 6, 9] (fun _ _ _ i wr => ∃ k : Nat, k ≤ 12 ∧ i = .int .i64 k ∧ Hid (nmFrom k cs = nmR cs) ∧ Below w'.heap.size w' wr) (fun _ _ _ i _ => 12 - (intOf i).toNat)
  case atStart => exact ⟨0, Nat.zero_le _, rfl, rfl, Below.refl _ _⟩
  case round =>
    obtain ⟨k, hk, rfl, HP, hb⟩ := hrel
    have hB := hb0.trans (hb.mono hb0.size)
    by_cases hlt : k < 12
    · obtain ⟨p, hp⟩ := piece_some hlt
      obtain ⟨c0, c1⟩ := hcell k p hp
      have ebk : wr.heap[W.heap.size]? = w'.heap[W.heap.size]? := hb.block W.heap.size hw2
      have d0 : wr.cell? ⟨W.heap.size, k * 2, none⟩ = some (.string ⟨p.1.toArray⟩) := by rw [← c0]; simp only [World.cell?, ebk]
      have d1 : wr.cell? ⟨W.heap.size, k * 2 + 1, none⟩ = some (.string ⟨p.2.toArray⟩) := by rw [← c1]; simp only [World.cell?, ebk]
      have hbl : W.heap.size < wr.heap.size := Nat.lt_of_lt_of_le hw2 hb.size
      have hsm := piece_small p (List.mem_of_getElem? hp)
      have hlen := pshR_len p.2
      have HY := Lib.hid fun hc => nmFrom_yes (cs := cs) hp hc
      have HN := Lib.hid fun hc => nmFrom_no (cs := cs) hp hc
      obtain ⟨nm, hnm⟩ : ∃ nm : ByteArray, nm = ⟨p.1.toArray⟩ := ⟨_, rfl⟩
      obtain ⟨tx, htx⟩ : ∃ tx : ByteArray, tx = ⟨p.2.toArray⟩ := ⟨_, rfl⟩
      rw [← hnm] at d0
      rw [← htx] at d1
      have et : tx.data.toList = p.2 := by rw [htx]
      have htz : tx.size ≤ 9 := by have := hsm.2; rw [← et] at this; simpa using this
      have PS := fun w h => implParseShape tx m w (by omega) h
      rw [et] at PS
      have EN := Lib.hid hnm
      revert PS hlen HY HN
      generalize pshR p.2 = R
      intro hlen HY HN PS
      have hm1 := cell_keep hm hB
      clear hnm et htx hsm c0 c1 hcell hp ebk
      have hsz := hb.size
      have hk12 : (k : Int) < 12 := by omega
      go_wp2_with fail
      have hb3 := below_alloc wr (.cells #[.string nm, .string tx] 70)
      have e3 : (wr.alloc (.cells #[.string nm, .string tx] 70)).cell? ⟨wr.heap.size, 0, none⟩ = some (.string nm) := by simp only [World.cell?, heap_alloc_new]; rfl
      refine (PS _ (cell_keep hm1 hb3)).mono ?_
      rintro e w4 ⟨v4, rfl, o4, k4⟩
      have d4 := cell_keep e3 k4
      have B3 := hB.trans (hb3.mono hB.size)
      obtain ⟨A4, cap4, rfl, _, _⟩ := o4.form
      have K4 := B3.trans (k4.mono B3.size)
      have CG := implCongruent A A4 n R.1.length cap cap4 cs R.1 w4 hn (by omega) (h.below K4) (own_cells o4)
      have hb4 := (hb.trans (hb3.mono hsz)).trans (k4.mono (hb.trans (hb3.mono hsz)).size)
      clear PS o4 d0 d1 e3
      cases hc : congL cs R.1 with
      | true =>
        rw [hc] at CG
        have HE : Hid (nmR cs = p.1) := by show _ = _; rw [← HP.out]; exact HY.out hc
        clear HY HN HP hc
        go_wp2_with fail
        refine CG.mono ?_
        rintro e w5 ⟨rfl, k5⟩
        have d5 := cell_keep d4 k5
        have K5 := K4.trans (k5.mono K4.size)
        clear CG d4
        go_wp2
        go_ret
        exact ⟨by rw [HE.out, EN.out]; rfl, K5⟩
      | false =>
        rw [hc] at CG
        have HE : Hid (nmFrom (k + 1) cs = nmR cs) := by show _ = _; rw [← HP.out]; exact (HN.out hc).symm
        clear HY HN HP hc
        go_wp2_with fail
        refine CG.mono ?_
        rintro e w5 ⟨rfl, k5⟩
        have hb5 := hb4.trans (k5.mono hb4.size)
        clear CG d4
        go_wp2
        go_roundw
        case rel => exact ⟨k + 1, by omega, by go_num, HE, hb5⟩
        case measure => simp [intOf]; omega
    · have HE : Hid (nmR cs = []) := by
        show _ = _
        rw [← HP.out, show k = 12 by omega, nmFrom_end]
      have hk12 : ¬ (k : Int) < 12 := by omega
      go_wp2
      go_ret
      exact ⟨by rw [HE.out]; rfl, hB⟩
end Go.Proofs.YtacegndmclnbnaaGreatDoor
