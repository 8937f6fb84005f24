/- The twelve pieces by name: PieceNamed of the reference and of the program, walked. -/
import Derived.Test.YtacegndmclnbnaaGreatDoorPShI
namespace Go.Proofs.YtacegndmclnbnaaGreatDoor
open Go.RowKit
set_option linter.unusedVariables false

def pieceL : List (List UInt8 × List UInt8) := [([73, 50], [35, 35]), ([73, 51], [35, 35, 35]), ([86, 51], [35, 35, 47, 35]), ([73, 52], [35, 35, 35, 35]), ([76, 52], [35, 35, 35, 47, 35]), ([84, 52], [35, 35, 35, 47, 46, 35]), ([83, 52], [46, 35, 35, 47, 35, 35]), ([79, 52], [35, 35, 47, 35, 35]), ([88, 53], [46, 35, 47, 35, 35, 35, 47, 46, 35]), ([80, 53], [35, 35, 47, 35, 35, 47, 35]), ([87, 53], [35, 47, 35, 35, 47, 46, 35, 35]), ([85, 53], [35, 46, 35, 47, 35, 35, 35])]
def pcR (l : List UInt8) : List C × Bool := match pieceL.find? (fun p => p.1 == l) with
  | some p => pshR p.2
  | none => ([], false)
def pcFrom (k : Nat) (l : List UInt8) : List C × Bool := match (pieceL.drop k).find? (fun p => p.1 == l) with
  | some p => pshR p.2
  | none => ([], false)
theorem pcR_len (l : List UInt8) : (pcR l).1.length ≤ 9 := by
  unfold pcR
  split
  · exact pshR_len _
  · simp
theorem pcFrom_yes {k : Nat} {p : List UInt8 × List UInt8} (h : pieceL[k]? = some p) : pcFrom k p.1 = pshR p.2 := by
  unfold pcFrom
  rw [List.drop_eq_getElem_cons (List.getElem?_eq_some_iff.1 h).1, (List.getElem?_eq_some_iff.1 h).2, List.find?_cons_of_pos (by simp)]
theorem pcFrom_no {k : Nat} {p : List UInt8 × List UInt8} {l : List UInt8} (h : pieceL[k]? = some p) (hn : p.1 ≠ l) : pcFrom k l = pcFrom (k + 1) l := by
  unfold pcFrom
  rw [List.drop_eq_getElem_cons (List.getElem?_eq_some_iff.1 h).1, (List.getElem?_eq_some_iff.1 h).2, List.find?_cons_of_neg (by simpa using hn)]
theorem pcFrom_end (l : List UInt8) : pcFrom 12 l = ([], false) := rfl
theorem pair_get {α β : Type} (f g : α → β) : ∀ (l : List α) (k : Nat), (l.flatMap fun p => [f p, g p])[k * 2]? = l[k]?.map f ∧ (l.flatMap fun p => [f p, g p])[k * 2 + 1]? = l[k]?.map g
  | [], k => by simp
  | a :: l, 0 => by simp
  | a :: l, k + 1 => by
    have := pair_get f g l k
    rw [List.flatMap_cons]
    simp only [List.cons_append, List.nil_append, List.getElem?_cons_succ, show (k + 1) * 2 = k * 2 + 1 + 1 by omega]
    exact this
def pieceV : Array Value := (pieceL.flatMap fun p => [Value.string ⟨p.1.toArray⟩, Value.string ⟨p.2.toArray⟩]).toArray
theorem piece_cell (w : World) (t : TypeId) {k : Nat} {p : List UInt8 × List UInt8} (h : pieceL[k]? = some p) :
    (w.alloc (.cells pieceV t)).cell? ⟨w.heap.size, k * 2, none⟩ = some (.string ⟨p.1.toArray⟩) ∧ (w.alloc (.cells pieceV t)).cell? ⟨w.heap.size, k * 2 + 1, none⟩ = some (.string ⟨p.2.toArray⟩) := by
  have e := pair_get (fun p : List UInt8 × List UInt8 => Value.string ⟨p.1.toArray⟩) (fun p => Value.string ⟨p.2.toArray⟩) pieceL k
  rw [h] at e
  simp only [Option.map_some] at e
  simp only [World.cell?, heap_alloc_new, pieceV, List.getElem?_toArray]
  exact e
theorem piece_some {k : Nat} (h : k < 12) : ∃ p, pieceL[k]? = some p := ⟨_, List.getElem?_eq_getElem h⟩
theorem piece_small : ∀ p, p ∈ pieceL → p.1.length ≤ 9 ∧ p.2.length ≤ 9 := by decide
theorem pc_0 : pcR (⟨#[73, 50]⟩ : ByteArray).data.toList = pshR (⟨#[35, 35]⟩ : ByteArray).data.toList := rfl
theorem pc_1 : pcR (⟨#[73, 51]⟩ : ByteArray).data.toList = pshR (⟨#[35, 35, 35]⟩ : ByteArray).data.toList := rfl
theorem pc_2 : pcR (⟨#[86, 51]⟩ : ByteArray).data.toList = pshR (⟨#[35, 35, 47, 35]⟩ : ByteArray).data.toList := rfl
theorem pc_3 : pcR (⟨#[73, 52]⟩ : ByteArray).data.toList = pshR (⟨#[35, 35, 35, 35]⟩ : ByteArray).data.toList := rfl
theorem pc_4 : pcR (⟨#[76, 52]⟩ : ByteArray).data.toList = pshR (⟨#[35, 35, 35, 47, 35]⟩ : ByteArray).data.toList := rfl
theorem pc_5 : pcR (⟨#[84, 52]⟩ : ByteArray).data.toList = pshR (⟨#[35, 35, 35, 47, 46, 35]⟩ : ByteArray).data.toList := rfl
theorem pc_6 : pcR (⟨#[83, 52]⟩ : ByteArray).data.toList = pshR (⟨#[46, 35, 35, 47, 35, 35]⟩ : ByteArray).data.toList := rfl
theorem pc_7 : pcR (⟨#[79, 52]⟩ : ByteArray).data.toList = pshR (⟨#[35, 35, 47, 35, 35]⟩ : ByteArray).data.toList := rfl
theorem pc_8 : pcR (⟨#[88, 53]⟩ : ByteArray).data.toList = pshR (⟨#[46, 35, 47, 35, 35, 35, 47, 46, 35]⟩ : ByteArray).data.toList := rfl
theorem pc_9 : pcR (⟨#[80, 53]⟩ : ByteArray).data.toList = pshR (⟨#[35, 35, 47, 35, 35, 47, 35]⟩ : ByteArray).data.toList := rfl
theorem pc_10 : pcR (⟨#[87, 53]⟩ : ByteArray).data.toList = pshR (⟨#[35, 47, 35, 35, 47, 46, 35, 35]⟩ : ByteArray).data.toList := rfl
theorem pc_11 : pcR (⟨#[85, 53]⟩ : ByteArray).data.toList = pshR (⟨#[35, 46, 35, 47, 35, 35, 35]⟩ : ByteArray).data.toList := rfl
theorem ne_lit {s : ByteArray} {l : List UInt8} (h : s ≠ ⟨l.toArray⟩) : (s.toList == l) = false := by
  rw [ByteArray.toList_eq]
  exact beq_eq_false_iff_ne.2 fun e => h (ByteArray.ext (Array.ext' (by rw [e])))
set_option maxRecDepth 20000 in
set_option maxHeartbeats 3200000 in
theorem specPieceNamed (s : ByteArray) (W : World) (hs : s.size ≤ 1048576) : Calls Tryz.prog 61 #[.string s] W (OwnPost2 W (pcR s.data.toList)) := by
  clear hs
  by_cases e0 : s = ⟨#[73, 50]⟩
  · subst e0
    have S := specParseShape ⟨#[35, 35]⟩ W (by decide)
    rw [← pc_0] at S
    go_enter Tryz.func61, Tryz.ntmps61
    go_wp2_with fail
    refine S.mono ?_
    rintro e w1 ⟨v, rfl, o1, k1⟩
    go_wp2
    go_ret2
    exact ⟨v, rfl, o1, k1⟩
  have n0 := ne_lit (l := [73, 50]) e0
  by_cases e1 : s = ⟨#[73, 51]⟩
  · subst e1
    have S := specParseShape ⟨#[35, 35, 35]⟩ W (by decide)
    rw [← pc_1] at S
    go_enter Tryz.func61, Tryz.ntmps61
    go_wp2_with fail
    refine S.mono ?_
    rintro e w1 ⟨v, rfl, o1, k1⟩
    go_wp2
    go_ret2
    exact ⟨v, rfl, o1, k1⟩
  have n1 := ne_lit (l := [73, 51]) e1
  by_cases e2 : s = ⟨#[86, 51]⟩
  · subst e2
    have S := specParseShape ⟨#[35, 35, 47, 35]⟩ W (by decide)
    rw [← pc_2] at S
    go_enter Tryz.func61, Tryz.ntmps61
    go_wp2_with fail
    refine S.mono ?_
    rintro e w1 ⟨v, rfl, o1, k1⟩
    go_wp2
    go_ret2
    exact ⟨v, rfl, o1, k1⟩
  have n2 := ne_lit (l := [86, 51]) e2
  by_cases e3 : s = ⟨#[73, 52]⟩
  · subst e3
    have S := specParseShape ⟨#[35, 35, 35, 35]⟩ W (by decide)
    rw [← pc_3] at S
    go_enter Tryz.func61, Tryz.ntmps61
    go_wp2_with fail
    refine S.mono ?_
    rintro e w1 ⟨v, rfl, o1, k1⟩
    go_wp2
    go_ret2
    exact ⟨v, rfl, o1, k1⟩
  have n3 := ne_lit (l := [73, 52]) e3
  by_cases e4 : s = ⟨#[76, 52]⟩
  · subst e4
    have S := specParseShape ⟨#[35, 35, 35, 47, 35]⟩ W (by decide)
    rw [← pc_4] at S
    go_enter Tryz.func61, Tryz.ntmps61
    go_wp2_with fail
    refine S.mono ?_
    rintro e w1 ⟨v, rfl, o1, k1⟩
    go_wp2
    go_ret2
    exact ⟨v, rfl, o1, k1⟩
  have n4 := ne_lit (l := [76, 52]) e4
  by_cases e5 : s = ⟨#[84, 52]⟩
  · subst e5
    have S := specParseShape ⟨#[35, 35, 35, 47, 46, 35]⟩ W (by decide)
    rw [← pc_5] at S
    go_enter Tryz.func61, Tryz.ntmps61
    go_wp2_with fail
    refine S.mono ?_
    rintro e w1 ⟨v, rfl, o1, k1⟩
    go_wp2
    go_ret2
    exact ⟨v, rfl, o1, k1⟩
  have n5 := ne_lit (l := [84, 52]) e5
  by_cases e6 : s = ⟨#[83, 52]⟩
  · subst e6
    have S := specParseShape ⟨#[46, 35, 35, 47, 35, 35]⟩ W (by decide)
    rw [← pc_6] at S
    go_enter Tryz.func61, Tryz.ntmps61
    go_wp2_with fail
    refine S.mono ?_
    rintro e w1 ⟨v, rfl, o1, k1⟩
    go_wp2
    go_ret2
    exact ⟨v, rfl, o1, k1⟩
  have n6 := ne_lit (l := [83, 52]) e6
  by_cases e7 : s = ⟨#[79, 52]⟩
  · subst e7
    have S := specParseShape ⟨#[35, 35, 47, 35, 35]⟩ W (by decide)
    rw [← pc_7] at S
    go_enter Tryz.func61, Tryz.ntmps61
    go_wp2_with fail
    refine S.mono ?_
    rintro e w1 ⟨v, rfl, o1, k1⟩
    go_wp2
    go_ret2
    exact ⟨v, rfl, o1, k1⟩
  have n7 := ne_lit (l := [79, 52]) e7
  by_cases e8 : s = ⟨#[88, 53]⟩
  · subst e8
    have S := specParseShape ⟨#[46, 35, 47, 35, 35, 35, 47, 46, 35]⟩ W (by decide)
    rw [← pc_8] at S
    go_enter Tryz.func61, Tryz.ntmps61
    go_wp2_with fail
    refine S.mono ?_
    rintro e w1 ⟨v, rfl, o1, k1⟩
    go_wp2
    go_ret2
    exact ⟨v, rfl, o1, k1⟩
  have n8 := ne_lit (l := [88, 53]) e8
  by_cases e9 : s = ⟨#[80, 53]⟩
  · subst e9
    have S := specParseShape ⟨#[35, 35, 47, 35, 35, 47, 35]⟩ W (by decide)
    rw [← pc_9] at S
    go_enter Tryz.func61, Tryz.ntmps61
    go_wp2_with fail
    refine S.mono ?_
    rintro e w1 ⟨v, rfl, o1, k1⟩
    go_wp2
    go_ret2
    exact ⟨v, rfl, o1, k1⟩
  have n9 := ne_lit (l := [80, 53]) e9
  by_cases e10 : s = ⟨#[87, 53]⟩
  · subst e10
    have S := specParseShape ⟨#[35, 47, 35, 35, 47, 46, 35, 35]⟩ W (by decide)
    rw [← pc_10] at S
    go_enter Tryz.func61, Tryz.ntmps61
    go_wp2_with fail
    refine S.mono ?_
    rintro e w1 ⟨v, rfl, o1, k1⟩
    go_wp2
    go_ret2
    exact ⟨v, rfl, o1, k1⟩
  have n10 := ne_lit (l := [87, 53]) e10
  by_cases e11 : s = ⟨#[85, 53]⟩
  · subst e11
    have S := specParseShape ⟨#[35, 46, 35, 47, 35, 35, 35]⟩ W (by decide)
    rw [← pc_11] at S
    go_enter Tryz.func61, Tryz.ntmps61
    go_wp2_with fail
    refine S.mono ?_
    rintro e w1 ⟨v, rfl, o1, k1⟩
    go_wp2
    go_ret2
    exact ⟨v, rfl, o1, k1⟩
  have n11 := ne_lit (l := [85, 53]) e11
  have HP : Hid (pcR s.data.toList = ([], false)) := by
    show _ = _
    unfold pcR
    rw [List.find?_eq_none.2]
    intro p hp
    simp only [ByteArray.toList_eq, beq_eq_false_iff_ne, ne_eq] at n0 n1 n2 n3 n4 n5 n6 n7 n8 n9 n10 n11
    simp only [pieceL, List.mem_cons, List.mem_nil_iff, or_false] at hp
    rcases hp with rfl | rfl | rfl | rfl | rfl | rfl | rfl | rfl | rfl | rfl | rfl | rfl
    all_goals (simp only [beq_iff_eq]; intro e; first | exact n0 e.symm | exact n1 e.symm | exact n2 e.symm | exact n3 e.symm | exact n4 e.symm | exact n5 e.symm | exact n6 e.symm | exact n7 e.symm | exact n8 e.symm | exact n9 e.symm | exact n10 e.symm | exact n11 e.symm)
  clear e0 e1 e2 e3 e4 e5 e6 e7 e8 e9 e10 e11
  go_enter Tryz.func61, Tryz.ntmps61
  go_wp2
  go_ret2
  exact ⟨_, by rw [HP.out]; rfl, by rw [HP.out]; exact World.ownsRow_made _ _ _ (Nat.le_refl _) (by decide) rfl, below_alloc _ _⟩
set_option maxRecDepth 20000 in
theorem implPieces (W : World) : Calls Tryz.prog 64 #[] W fun e w' => e = .returned (.slice (some ⟨W.heap.size, 0, none⟩) 12 12) ∧ w' = W.alloc (.cells pieceV 70) := by
  go_enter Tryz.func64, Tryz.ntmps64
  go_wp2
  go_ret
  exact ⟨rfl, rfl⟩
end Go.Proofs.YtacegndmclnbnaaGreatDoor
