/- sort.Slice over a slice of cells, its comparison a closure that calls the program's before: what the sort passes through; the comparison; the exchange; insertion sort. Condition: at least two cells. -/
import Derived.Test.YthhaojbnnacdbaaSortM
import Derived.Test.YthhaojbnnacdbaaMark
import Derived.Test.YthhaojbnnacdbaaBx
import Derived.Lib.ReflectliteSlice
import Derived.Lib.ReflectliteSwap
import Derived.Sort.LotA
import Derived.Sort.WalkA
import Derived.OneCell
import Derived.Laws.Externs
import Derived.Shelf.Abstract
namespace Go.Proofs.Ythhaojbnnacdbaa
open Go.RowKit

/-- A world that the sort passes through: the row holds dk; the variable that the closure has captured holds the row's slice. -/
structure SS (B : Nat) (w0 : World) (Bv blk n cap : Nat) (dk : Array C) (w : World) : Prop where
  size : dk.size = n
  own : Own w B (.slice (some ⟨blk, 0, none⟩) n cap) dk.toList
  box : w.heap[Bv]? = some (.cells #[.slice (some ⟨blk, 0, none⟩) n cap] 25 (0, 0))
  below : Below B w0 w
  bv : B ≤ Bv
  ne : Bv ≠ blk
section
variable {B : Nat} {w0 : World} {Bv blk n cap : Nat} {dk : Array C} {w w' : World}
theorem SS.later (h : SS B w0 Bv blk n cap dk w) (hb : Below w.heap.size w w') : SS B w0 Bv blk n cap dk w' :=
  ⟨h.size, h.own.below hb, (hb.block _ (lt_of_block h.box)).trans h.box, h.below.trans (hb.mono (Nat.le_of_lt (Nat.lt_of_le_of_lt h.bv (lt_of_block h.box)))), h.bv, h.ne⟩
theorem SS.cells (h : SS B w0 Bv blk n cap dk w) : CellsAt w (some ⟨blk, 0, none⟩) n dk.toList := own_cells h.own
theorem SS.blk_le (h : SS B w0 Bv blk n cap dk w) : B ≤ blk := (h.own.lt blk rfl).1
theorem arr_get {dk : Array C} {i : Nat} (h : i < dk.size) : dk.toList[i]? = some dk[i]! := by
  rw [Array.getElem?_toList, Array.getElem?_eq_getElem h, getElem!_pos dk i h]

/-- the comparison that SortCells hands to sort.Slice -/
theorem less_any (h : SS B w0 Bv blk n cap dk w) (i j : Nat) (hi : i < n) (hj : j < n) :
    Calls Try.prog 77 #[.int .i64 i, .int .i64 j, .pointer (some ⟨Bv, 0, none⟩)] w fun e w' => e = .returned (.bool (bef dk[i]! dk[j]!)) ∧ Below w.heap.size w w' := by
  have hbl := lt_of_block h.box
  have c0 := cell_of_one h.box
  obtain ⟨b1, o1, x, y, e1, hb1, H1, c1, c2⟩ := h.cells.at_ hi
  obtain ⟨b2, o2, x', y', e2, _, H2, c3, c4⟩ := h.cells.at_ hj
  injection e1 with e1
  injection e1 with e1 e1'
  injection e2 with e2
  injection e2 with e2 e2'
  subst e1 e1' e2 e2'
  have g1 := H1.out
  rw [arr_get (by rw [h.size]; exact hi)] at g1
  have g2 := H2.out
  rw [arr_get (by rw [h.size]; exact hj)] at g2
  injection g1 with g1
  injection g2 with g2
  rw [g1, g2]
  rw [Nat.zero_add] at c1 c2 c3 c4
  have l0 := later_cell hbl c0
  have l1 := later_cell hb1 c1
  have l2 := later_cell hb1 c2
  have l3 := later_cell hb1 c3
  have l4 := later_cell hb1 c4
  have i1 : (i : Int) < (n : Int) := by omega
  have i2 : (j : Int) < (n : Int) := by omega
  have i3 : (0 : Int) ≤ (i : Int) := by omega
  have i4 : (0 : Int) ≤ (j : Int) := by omega
  have C1 : ∀ z : Later w, Calls Try.prog 78 #[.agg #[.int .i64 x, .int .i64 y], .agg #[.int .i64 x', .int .i64 y']] z.1 fun e w' => e = .returned (.bool (bef (x, y) (x', y'))) ∧ Below z.1.heap.size z.1 w' := fun z => implBefore x y x' y' z.1
  clear g1 g2 h H1 H2
  go_enter Try.func77, Try.ntmps77
  go_wp2
  (refine wp_region_later (by kernel_rfl) (by kernel_rfl) ?_; (repeat (go_big_quiet_step ((go_at_call 78; with_reducible exact Calls.later (C1 _))))); refine wpQuiet_nil ?_; rintro wq ⟨xq, hxq⟩; have hq := later_below hxq; clear hxq xq)
  go_wp2
  go_ret
  exact ⟨rfl, hq⟩

/-! ### The exchange -/
noncomputable def Try.infoT : TypeInfo := (Try.prog.info? 25).get (by kernel_rfl)
noncomputable def Try.infoE : TypeInfo := (Try.prog.info? 58).get (by kernel_rfl)
theorem Try.swapK (n : Nat) (h2 : 2 ≤ n) : Lib.swapperK n Try.infoE 25 = 9 := by
  have a : Try.infoE.hasPointers = false := by kernel_rfl
  have b : Try.infoE.bytes = 16 := by kernel_rfl
  have c : (n == 0) = false := by simp; omega
  have d : (n == 1) = false := by simp; omega
  simp [Lib.swapperK, a, b, c, d]
theorem arr_swp (dk : Array C) (i j : Nat) : (Sort.swp dk i j).toList = (dk.toList.set i dk[j]!).set j dk[i]! := by
  unfold Sort.swp
  simp [Array.toList_setIfInBounds]
def SwapRun (P : Program) (sf : Nat) (sb : Array Value) (B : Nat) (w0 : World) (Bv blk n cap : Nat) : Prop :=
  ∀ (dk : Array C) (w : World), SS B w0 Bv blk n cap dk w → ∀ i j : Nat, i < n → j < n →
    ∃ w', (callFunc sf (#[.int .i64 i, .int .i64 j] ++ sb)).run P w = .ok (.value (.tuple #[])) w' ∧ SS B w0 Bv blk n cap (Sort.swp dk i j) w' ∧ w.grownBy w' (some blk)
theorem swap_any {B : Nat} {w0 : World} {Bv blk n cap : Nat} : SwapRun Try.prog 124 #[.slice (some ⟨blk, 0, none⟩) n cap, typeHandle Try.prog 58] B w0 Bv blk n cap := by
  intro dk w h i j hi hj
  have hie : Try.prog.info? 58 = some Try.infoE := by kernel_rfl
  have hsz : Try.infoE.size = 2 := by kernel_rfl
  have hown : w.ownsRow B 58 2 (.slice (some ⟨blk, 0, none⟩) n cap) n (flat dk.toList) := by
    have := h.own; unfold Own at this; rwa [show dk.toList.length = n by simp [h.size]] at this
  have cell : ∀ (k : Nat), k < n → w.cell? ⟨blk, 0 + k * Try.infoE.size + 0, none⟩ = some (.int .i64 (dk[k]!).1) ∧ w.cell? ⟨blk, 0 + k * Try.infoE.size + 1, none⟩ = some (.int .i64 (dk[k]!).2) := by
    intro k hk
    obtain ⟨b, o, e, hlt, hc⟩ := h.cells.2 (by omega)
    injection e with e
    injection e with e1 e2
    subst e1 e2
    have hg : dk.toList.getD k (0, 0) = dk[k]! := by rw [List.getD_eq_getElem?_getD, arr_get (by rw [h.size]; exact hk)]; rfl
    have := hc k hk
    rw [hg] at this
    rw [hsz]
    exact this
  have fr : ∀ (k : Nat), w.frozen? ⟨blk, k, none⟩ = false := fun k => World.ownsRow.frozenAt hown k
  have each : ∀ (k : Nat), k < n → ∀ u v, ([Value.int .i64 (dk[k]!).1, .int .i64 (dk[k]!).2])[u]? = some v → w.cell? ⟨blk, 0 + k * Try.infoE.size + u, none⟩ = some v := by
    intro k hk u v hu
    have := cell k hk
    have hu2 := (List.getElem?_eq_some_iff.1 hu).1
    rcases u with _ | _ | u
    · rw [← (Option.some.inj hu : Value.int .i64 (dk[k]!).1 = v)]; exact this.1
    · rw [← (Option.some.inj hu : Value.int .i64 (dk[k]!).2 = v)]; exact this.2
    · exact absurd hu2 (by show ¬ u + 2 < 2; omega)
  have one : ∀ (k : Nat), ∀ v ∈ [Value.int .i64 (dk[k]!).1, .int .i64 (dk[k]!).2], v.oneCell' = true := by
    intro k v hv
    rcases List.mem_cons.1 hv with rfl | hv
    · rfl
    · rcases List.mem_cons.1 hv with rfl | hv
      · rfl
      · cases hv
  have hrun := Lib.run_swap_cells (P := Try.prog) false 58 Try.infoE hie (fun _ => by kernel_rfl) blk 0 n cap i j hi hj [.int .i64 (dk[i]!).1, .int .i64 (dk[i]!).2] [.int .i64 (dk[j]!).1, .int .i64 (dk[j]!).2] (by rw [hsz]; rfl) (by rw [hsz]; rfl) (one i) (one j) w (each i hi) (each j hj) (fun k _ => fr _) (fun k _ => fr _)
  refine ⟨_, by
    rw [run_callFunc_extern Try.func124 (by kernel_rfl) (by kernel_rfl) (by kernel_rfl) (e := Extern.ReflectliteSwapper.swap false) (by kernel_rfl)]
    rw [show (#[Value.int .i64 (i : Int), Value.int .i64 (j : Int)] ++ #[Value.slice (some ⟨blk, 0, none⟩) n cap, typeHandle Try.prog 58]) = #[.int .i64 i, .int .i64 j, .slice (some ⟨blk, 0, none⟩) n cap, typeHandle Try.prog 58] from rfl, hrun]
    rfl, ?_⟩
  rw [hsz]
  simp only [World.setCells, Nat.zero_add]
  have o1 := hown.stored (i * 2) (.int .i64 (dk[j]!).1)
  have o2 := o1.1.stored (i * 2 + 1) (.int .i64 (dk[j]!).2)
  have o3 := o2.1.stored (j * 2) (.int .i64 (dk[i]!).1)
  have o4 := o3.1.stored (j * 2 + 1) (.int .i64 (dk[i]!).2)
  have hO := o4.1
  rw [flat_set _ i dk[j]!, flat_set _ j dk[i]!, ← arr_swp] at hO
  have hblk := h.blk_le
  refine ⟨⟨by rw [Sort.size_swp]; exact h.size, ?_, ?_, ?_, h.bv, h.ne⟩, World.grownBy.trans o1.2 (World.grownBy.trans o2.2 (World.grownBy.trans o3.2 o4.2))⟩
  · unfold Own
    have e1 : (Sort.swp dk i j).toList.length = dk.toList.length := by simp [Sort.swp]
    rw [e1, show dk.toList.length = n by simp [h.size]]; exact hO
  · have hne := h.ne
    rw [Below.heap_setCell _ _ _ _ hne, Below.heap_setCell _ _ _ _ hne, Below.heap_setCell _ _ _ _ hne, Below.heap_setCell _ _ _ _ hne]
    exact h.box
  · exact (((h.below.setCell hblk _).setCell hblk _).setCell hblk _).setCell hblk _

/-! ### Insertion sort -/
/-- what pdqsort_func and its callees are handed: the comparison and the exchange -/
def dataV (Bv sf : Nat) (sb : Array Value) : Value := .agg #[.func (.func 77) #[] #[.pointer (some ⟨Bv, 0, none⟩)], .func (.func sf) #[] sb]
theorem swo_bef : Sort.SWO bef := ⟨bef_irrefl, fun _ _ _ h k => bef_trans h k, fun x y z h k => by
  cases hx : bef x z with
  | false => rfl
  | true =>
    have h' : ¬ (x.2 < y.2 ∨ (x.2 = y.2 ∧ x.1 < y.1)) := by rw [← bef_iff, h]; simp
    have k' : ¬ (y.2 < z.2 ∨ (y.2 = z.2 ∧ y.1 < z.1)) := by rw [← bef_iff, k]; simp
    rw [bef_iff] at hx
    omega⟩
section
variable {B : Nat} {w0 : World} {Bv blk n cap : Nat} {dk : Array C} {w w' : World}
set_option maxRecDepth 100000 in
set_option maxHeartbeats 2000000 in
theorem insSort (sf : Nat) (sb : Array Value) (hsw : 2 ≤ n → SwapRun Try.prog sf sb B w0 Bv blk n cap) (h : SS B w0 Bv blk n cap dk w) (a b : Nat) (hab : a ≤ b) (hb : b ≤ n) (hn : n ≤ 1048576) :
    Calls Try.prog 127 #[dataV Bv sf sb, .int .i64 a, .int .i64 b] w fun e w' => e = .returned (.tuple #[]) ∧ SS B w0 Bv blk n cap (Sort.insertionSort bef dk a b) w' := by
  have h1 := h.later (below_alloc w (.cells #[.func (.func 77) #[] #[.pointer (some ⟨Bv, 0, none⟩)], .func (.func sf) #[] sb] 89))
  have hx := Box2.new w (.func (.func 77) #[] #[.pointer (some ⟨Bv, 0, none⟩)]) (.func (.func sf) #[] sb) 89
  have eg : ∀ args w, (callFunc 77 args).run Try.prog w = .ok (.enter 77 args) w := enters_of Try.func77 (by kernel_rfl) rfl
  have hbk : blk < w.heap.size := (h.own.lt blk rfl).2
  unfold dataV
  clear h
  go_enter Try.func127, Try.ntmps127
  go_wp2
  go_loopw [6, 7] (fun vi _ wr => ∃ (i : Nat) (di : Array C), vi = .int .i64 i ∧ a < i ∧ i ≤ b + 1 ∧ SS B w0 Bv blk n cap di wr ∧ Box2 wr w.heap.size (.func (.func 77) #[] #[.pointer (some ⟨Bv, 0, none⟩)]) (.func (.func sf) #[] sb) 89 ∧ Hid (Sort.insOuter bef a b i di = Sort.insOuter bef a b (a + 1) dk)) (fun vi _ _ => b + 1 - (intOf vi).toNat)
  case atStart => exact ⟨a + 1, dk, by go_num, by omega, by omega, h1, hx, rfl⟩
  case round =>
    clear h1 hx
    obtain ⟨i, di, rfl, hai, hib, hS, hx, HO⟩ := hrel
    by_cases hlt : i < b
    · go_wp2
      go_loopw [7] (fun vj wr2 => ∃ (j : Nat) (dj : Array C), vj = .int .i64 j ∧ a ≤ j ∧ j ≤ i ∧ SS B w0 Bv blk n cap dj wr2 ∧ Box2 wr2 w.heap.size (.func (.func 77) #[] #[.pointer (some ⟨Bv, 0, none⟩)]) (.func (.func sf) #[] sb) 89 ∧ Hid (Sort.insInner bef a j dj = Sort.insInner bef a i di)) (fun vj _ => (intOf vj).toNat)
      case atStart => exact ⟨i, di, rfl, by omega, Nat.le_refl _, hS, hx, rfl⟩
      case round =>
        clear hS hx
        obtain ⟨j, dj, rfl, haj, hji, hS, hx, HI⟩ := hrel
        have OUT : Hid ((j ≤ a ∨ bef dj[j]! dj[j - 1]! = false) → Sort.insOuter bef a b (i + 1) dj = Sort.insOuter bef a b (a + 1) dk) := by
          show _ → _
          intro hs
          rw [← HO.out, insOuter_go bef _ _ _ _ hlt, ← HI.out, insInner_stop bef _ _ _ hs]
        by_cases hja : a < j
        · have c0 := hx.c0
          have c1 := hx.c1
          have hl := less_any hS j (j - 1) (by omega) (by omega)
          rw [show (((j - 1 : Nat) : Int)) = (j : Int) - 1 by omega] at hl
          cases hlv : bef dj[j]! dj[j - 1]! with
          | true =>
            have HV := Lib.hid hlv
            rw [hlv] at hl
            clear hlv
            go_wp2_with (go_at_fn 77; refine hl.mono ?_; rintro e w2 ⟨rfl, hb2⟩; have hS2 := hS.later hb2; have hx2 := hx.later hb2; have c2 := hx2.c1)
            obtain ⟨w3, hs, hS3, hg3⟩ := hsw (by omega) dj w2 hS2 j (j - 1) (by omega) (by omega)
            rw [show (((j - 1 : Nat) : Int)) = (j : Int) - 1 by omega] at hs
            have hx3 := hx2.grown hg3 (by intro e; injection e with e; omega)
            have HN : Hid (Sort.insInner bef a (j - 1) (Sort.swp dj j (j - 1)) = Sort.insInner bef a i di) := by
              show _ = _
              rw [← HI.out, insInner_go bef a j dj hja HV.out]
            clear hS hx c0 c1 hl c2 hS2 hx2 hg3
            rw [hs, Oper.upon_value]
            go_wp2
            go_roundw
            case rel => exact ⟨j - 1, Sort.swp dj j (j - 1), by congr 1; omega, by omega, by omega, hS3, hx3, HN⟩
            case measure => simp [intOf]; omega
          | false =>
            have HV := Lib.hid hlv
            rw [hlv] at hl
            clear hlv
            go_wp2_with (go_at_fn 77; refine hl.mono ?_; rintro e w2 ⟨rfl, hb2⟩)
            have hS2 := hS.later hb2
            have hx2 := hx.later hb2
            clear hS hx c0 c1 hl
            go_roundw
            case rel => exact ⟨i + 1, dj, by go_num, by omega, by omega, hS2, hx2, OUT.out (Or.inr HV.out)⟩
            case measure => simp [intOf]; omega
        · have hja' : decide ((a : Int) < (j : Int)) = false := by simp; omega
          go_wp2
          go_roundw
          case rel => exact ⟨i + 1, dj, by go_num, by omega, by omega, hS, hx, OUT.out (Or.inl (by omega))⟩
          case measure => simp [intOf]; omega
    · have HE : Hid (di = Sort.insertionSort bef dk a b) := by
        show _ = _
        unfold Sort.insertionSort; rw [← HO.out, insOuter_stop bef _ _ _ _ hlt]
      go_wp2
      go_end0
      exact ⟨rfl, by rw [← HE.out]; exact hS⟩
end
end
end Go.Proofs.Ythhaojbnnacdbaa
