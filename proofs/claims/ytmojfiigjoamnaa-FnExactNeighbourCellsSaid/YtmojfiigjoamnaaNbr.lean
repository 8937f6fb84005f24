/- The places beside a cell: the program's sides; a map keyed by cells. Condition: small coordinates. -/
import Derived.Test.YtmojfiigjoamnaaConnS
import Derived.Test.YtmojfiigjoamnaaMark
import Derived.Maps.OwnSet
import Derived.Maps.Views
import Derived.DeepKeys4
import Derived.ChangeKeys
namespace Go.Proofs.Ytmojfiigjoamnaa
open Go.RowKit

def sidesL (c : C) : List C := [(c.1, c.2 - 1), (c.1 - 1, c.2), (c.1 + 1, c.2), (c.1, c.2 + 1)]
set_option maxHeartbeats 800000 in
theorem implSides (x y : Int) (w : World) (hxy : smallC (x, y)) : Calls Try.prog 66 #[.agg #[.int .i64 x, .int .i64 y]] w (OwnPost w (sidesL (x, y))) := by
  obtain ⟨x1, x2, y1, y2⟩ := hxy
  simp only at x1 x2 y1 y2
  go_enter Try.func66, Try.ntmps66
  go_wp2
  go_ret
  refine ⟨_, rfl, ⟨rfl, Or.inr ⟨w.heap.size + 1, 4, #[.int .i64 x, .int .i64 (y - 1), .int .i64 (x - 1), .int .i64 y, .int .i64 (x + 1), .int .i64 y, .int .i64 x, .int .i64 (y + 1)], rfl, by omega, ?_, Nat.le_refl _, by unfold maxLen; omega, rfl, rfl⟩⟩, ?_⟩
  · have := heap_alloc_new (w.alloc (.cells #[.int .i64 x, .int .i64 y] 43)) (.cells #[.int .i64 x, .int .i64 (y - 1), .int .i64 (x - 1), .int .i64 y, .int .i64 (x + 1), .int .i64 y, .int .i64 x, .int .i64 (y + 1)] 43)
    rw [show (w.alloc (.cells #[.int .i64 x, .int .i64 y] 43)).heap.size = w.heap.size + 1 by simp] at this
    exact this
  · exact below2' _ _ _
def cellKey (c : C) : Lit := .string (keyBytes [.int .i64 c.1, .int .i64 c.2])
theorem wf_small {x : Int} (h1 : -200 ≤ x) (h2 : x ≤ 200) : (Lit.int .i64 x).wf = true := WalkArith.wf_i64 (by omega)
theorem keyOf_cell {x y : Int} (h1 : (Lit.int .i64 x).wf = true) (h2 : (Lit.int .i64 y).wf = true) : keyOf Try.prog 43 (.agg #[.int .i64 x, .int .i64 y]) = some (cellKey (x, y)) := by
  have hk : Try.prog.keyType 43 = true := by kernel_rfl
  obtain ⟨m, hm⟩ : ∃ m, Try.prog.types.size = m + 1 := ⟨Try.prog.types.size - 1, by kernel_rfl⟩
  have hc : Try.prog.cellsOf 43 = 2 := by kernel_rfl
  have hf : (Value.agg #[.int .i64 x, .int .i64 y]).formed Try.prog 43 = true := by
    simp [Value.formed, Try.underlying43, hc]
  have hc1 : Try.prog.cellsOf 3 = 1 := by kernel_rfl
  unfold keyOf
  rw [Try.underlying43]
  simp only [hk, hf, Bool.and_true, if_true]
  rw [hm]
  simp [Program.keyLits, Try.underlying43, Try.underlying3, hc, hc1, h1, h2, Value.cells, cellKey]
theorem cellKey_is (c : C) : WideAt.IsKeyLit (cellKey c) := by
  exact trivial
theorem cellKey_inj {a b : C} (ha : smallC a) (hb : smallC b) (h : cellKey a = cellKey b) : a = b := by
  unfold cellKey at h
  injection h with h
  obtain ⟨a1, a2, a3, a4⟩ := ha
  obtain ⟨b1, b2, b3, b4⟩ := hb
  have := keyBytes_inj (l := [.int .i64 a.1, .int .i64 a.2]) (l' := [.int .i64 b.1, .int .i64 b.2]) ⟨rfl, rfl, trivial⟩ (by intro q hq; simp at hq; rcases hq with rfl | rfl; exact wf_small (by omega) (by omega); exact wf_small (by omega) (by omega)) (by intro q hq; simp at hq; rcases hq with rfl | rfl; exact wf_small (by omega) (by omega); exact wf_small (by omega) (by omega)) h
  simp at this
  exact Prod.ext this.1 this.2
theorem law_cell : Maps.Keyed Try.prog 43 := Maps.Keyed.of_law (deep_law_laid (m := 100) (by kernel_rfl) (by omega) (of_decide_eq_true (by kernel_rfl)) (by kernel_rfl) (by kernel_rfl))

/-! ### The places, collected -/
def addN (cs l : List C) (c : C) : List C := if (memC cs c.1 c.2 || memC l c.1 c.2) = true then l else l ++ [c]
def nbrFold (cs l ds : List C) : List C := ds.foldl (addN cs) l
theorem nbrFold_snoc (cs l ds : List C) (d : C) : nbrFold cs l (ds ++ [d]) = addN cs (nbrFold cs l ds) d := by
  unfold nbrFold; rw [List.foldl_append]; rfl
theorem addN_mem (cs l : List C) (d c : C) : c ∈ addN cs l d ↔ c ∈ l ∨ (c = d ∧ ¬ c ∈ cs) := by
  unfold addN
  by_cases h1 : memC cs d.1 d.2 = true
  · rw [h1]
    simp only [Bool.true_or, if_true]
    constructor
    · exact Or.inl
    · rintro (h | ⟨rfl, h⟩)
      · exact h
      · exact absurd (mem_memC.1 h1) h
  · have h1' : memC cs d.1 d.2 = false := by simpa using h1
    have n1 : ¬ d ∈ cs := fun h => h1 (mem_memC.2 h)
    by_cases h2 : memC l d.1 d.2 = true
    · rw [h1', h2]
      simp only [Bool.false_or, if_true]
      constructor
      · exact Or.inl
      · rintro (h | ⟨rfl, h⟩)
        · exact h
        · exact mem_memC.1 h2
    · have h2' : memC l d.1 d.2 = false := by simpa using h2
      rw [h1', h2']
      simp only [Bool.false_or, Bool.false_eq_true, if_false, List.mem_append, List.mem_singleton]
      constructor
      · rintro (h | rfl)
        · exact Or.inl h
        · exact Or.inr ⟨rfl, n1⟩
      · rintro (h | ⟨rfl, h⟩)
        · exact Or.inl h
        · exact Or.inr rfl
theorem addN_nodup {cs l : List C} {d : C} (h : l.Nodup) : (addN cs l d).Nodup := by
  unfold addN
  split
  · exact h
  · rename_i hx
    rw [List.nodup_append]
    refine ⟨h, by simp, fun x hxl y hy e => hx ?_⟩
    rw [List.mem_singleton.1 hy] at e
    subst e
    rw [mem_memC.2 hxl, Bool.or_true]
theorem nbrFold_mem (cs : List C) (c : C) : ∀ (ds l : List C), c ∈ nbrFold cs l ds ↔ c ∈ l ∨ (c ∈ ds ∧ ¬ c ∈ cs)
  | [], l => by simp [nbrFold]
  | d :: r, l => by
    show c ∈ nbrFold cs (addN cs l d) r ↔ _
    rw [nbrFold_mem cs c r, addN_mem]
    simp only [List.mem_cons]
    constructor
    · rintro ((h | ⟨rfl, h⟩) | ⟨h1, h2⟩)
      · exact Or.inl h
      · exact Or.inr ⟨Or.inl rfl, h⟩
      · exact Or.inr ⟨Or.inr h1, h2⟩
    · rintro (h | ⟨rfl | h1, h2⟩)
      · exact Or.inl (Or.inl h)
      · exact Or.inl (Or.inr ⟨rfl, h2⟩)
      · exact Or.inr ⟨h1, h2⟩
theorem nbrFold_nodup (cs : List C) : ∀ (ds l : List C), l.Nodup → (nbrFold cs l ds).Nodup
  | [], _, h => h
  | _ :: r, _, h => nbrFold_nodup cs r _ (addN_nodup h)
def sidesR (c : C) : List C := [(c.1 + 1, c.2), (c.1, c.2 + 1), (c.1 - 1, c.2), (c.1, c.2 - 1)]
theorem sides_same (c d : C) : d ∈ sidesR c ↔ d ∈ sidesL c := by
  simp only [sidesR, sidesL, List.mem_cons, List.not_mem_nil, or_false]
  constructor <;> rintro (h | h | h | h) <;> simp [h]
theorem nbr_len (cs ds : List C) : (nbrFold cs [] (ds.flatMap sidesR)).length = (nbrFold cs [] (ds.flatMap sidesL)).length := by
  have m : ∀ c, c ∈ nbrFold cs [] (ds.flatMap sidesR) ↔ c ∈ nbrFold cs [] (ds.flatMap sidesL) := by
    intro c
    rw [nbrFold_mem, nbrFold_mem]
    simp only [List.mem_flatMap, sides_same]
  have n1 := nbrFold_nodup cs (ds.flatMap sidesR) [] List.nodup_nil
  have n2 := nbrFold_nodup cs (ds.flatMap sidesL) [] List.nodup_nil
  exact Nat.le_antisymm (length_le_of_sub n1 fun c hc => (m c).1 hc) (length_le_of_sub n2 fun c hc => (m c).2 hc)
def nbrCount (cs : List C) : Int := if isShape cs = true then ((nbrFold cs [] (cs.flatMap sidesL)).length : Nat) else -1
theorem fold_len_le (cs : List C) : ∀ (ds l : List C), (nbrFold cs l ds).length ≤ l.length + ds.length
  | [], l => by simp [nbrFold]
  | d :: r, l => by
    have h := fold_len_le cs r (addN cs l d)
    have h2 : (addN cs l d).length ≤ l.length + 1 := by
      unfold addN; split
      · omega
      · simp
    show (nbrFold cs (addN cs l d) r).length ≤ _
    simp only [List.length_cons]
    omega

/-- A map whose keys are these cells. -/
structure SetOfCells (D : DataW Unit) (l : List C) : Prop where
  tidy : Maps.Tidy D
  size : Maps.size D = l.length
  has : ∀ c, smallC c → (Maps.has D (cellKey c) = true ↔ c ∈ l)
  small : ∀ c ∈ l, smallC c
theorem SetOfCells.start : SetOfCells (.map []) [] :=
  ⟨Maps.tidy_empty, rfl, fun c _ => by simp [Maps.has], fun c hc => by cases hc⟩
theorem SetOfCells.put {D : DataW Unit} {cs l : List C} {d : C} (h : SetOfCells D l) (hd : smallC d) (hn : memC cs d.1 d.2 = false) (u : DataW Unit) : SetOfCells (D.put (cellKey d) u) (addN cs l d) := by
  have hk := cellKey_is d
  have hsz := Maps.size_put (k := cellKey d) h.tidy u
  by_cases hm : d ∈ l
  · have e : addN cs l d = l := by unfold addN; rw [mem_memC.2 hm, Bool.or_true, if_pos rfl]
    rw [e]
    refine ⟨h.tidy.put hk u, ?_, fun c hc => ?_, h.small⟩
    · rw [hsz, if_pos ((h.has d hd).2 hm), h.size]
    · by_cases he : c = d
      · subst he; rw [Maps.has_put_same h.tidy.isMap hk]; simp [hm]
      · rw [Maps.has_put_other (fun e => he (cellKey_inj hc hd e))]; exact h.has c hc
  · have h2 : memC l d.1 d.2 = false := by
      cases hx : memC l d.1 d.2 with
      | false => rfl
      | true => exact absurd (mem_memC.1 hx) hm
    have e : addN cs l d = l ++ [d] := by unfold addN; rw [hn, h2]; rfl
    rw [e]
    refine ⟨h.tidy.put hk u, ?_, fun c hc => ?_, fun c hc => ?_⟩
    · rw [hsz, if_neg (fun hx => hm ((h.has d hd).1 hx)), h.size]; simp
    · by_cases he : c = d
      · subst he; rw [Maps.has_put_same h.tidy.isMap hk]; simp
      · rw [Maps.has_put_other (fun e => he (cellKey_inj hc hd e)), h.has c hc]; simp [he]
    · rcases List.mem_append.1 hc with hc | hc
      · exact h.small c hc
      · rw [List.mem_singleton.1 hc]; exact hd
theorem addN_in {cs l : List C} {d : C} (h : memC cs d.1 d.2 = true) : addN cs l d = l := by unfold addN; rw [h]; rfl

theorem map_below {w w' : World} {P : Program} {k : TypeId} {R : Value → Option (DataW Unit × List MemPlace)} {b n : Nat} {D : DataW Unit} (h : w.ownsMap P k R b n D) (hb : Below w.heap.size w w') : w'.ownsMap P k R b n D :=
  h.kept (row := none) ⟨hb.os, hb.tape, hb.output, hb.size, fun k hk _ => hb.block k hk⟩ (by simp)
theorem sides_small {p q : Int} (h : 0 ≤ p ∧ p ≤ 7 ∧ 0 ≤ q ∧ q ≤ 7) {j : Nat} {c : C} (hc : (sidesL (p, q))[j]? = some c) : smallC c := by
  have hm := List.mem_of_getElem? hc
  obtain ⟨h1, h2, h3, h4⟩ := h
  simp only [sidesL, List.mem_cons, List.not_mem_nil, or_false] at hm
  rcases hm with rfl | rfl | rfl | rfl
  all_goals refine ⟨?_, ?_, ?_, ?_⟩ <;> simp only <;> omega

set_option maxHeartbeats 3200000 in
theorem implNeighbours (A : Option Addr) (n cap : Nat) (cs : List C) (w : World) (hn : n ≤ 1048576) (h : CellsAt w A n cs) :
    Calls Try.prog 42 #[.slice A n cap] w fun e w' => e = .returned (.int .i64 (nbrCount cs)) ∧ Below w.heap.size w w' := by
  have hc := (implIsShape A n cap cs w hn h)
  have hmm := @run_makeMap Try.prog
  cases hs : isShape cs with
  | false =>
    have HR : Hid ((-1 : Int) = nbrCount cs) := by show _ = _; unfold nbrCount; rw [hs]; rfl
    rw [hs] at hc
    clear hs
    go_enter Try.func42, Try.ntmps42
    go_wp2_with fail
    refine hc.mono ?_
    rintro e w1 ⟨rfl, hb⟩
    go_wp2
    go_ret
    exact ⟨ret_int HR.out, hb⟩
  | true =>
    have HR : Hid (nbrCount cs = ((nbrFold cs [] (cs.flatMap sidesL)).length : Nat)) := by show _ = _; unfold nbrCount; rw [hs, if_pos rfl]
    have hl := shape_len hs
    rw [h.1] at hl
    have HL := Lib.hid h.1
    have HS := Lib.hid hs
    rw [hs] at hc
    clear hs
    go_enter Try.func42, Try.ntmps42
    go_wp2_with fail
    refine hc.mono ?_
    rintro e w1 ⟨rfl, hb0⟩
    replace h := h.below hb0
    clear hc
    go_wp2
    go_loopw [5, 7, 14, 21] (fun _ _ i _ wr => ∃ (k m : Nat) (D : DataW Unit), k ≤ n ∧ i = .int .i64 k ∧ m ≤ 4 * k ∧ wr.ownsMap Try.prog 43 (plainElem Try.prog 3) w1.heap.size m D ∧ Hid (SetOfCells D (nbrFold cs [] ((cs.take k).flatMap sidesL))) ∧ Below w1.heap.size w1 wr) (fun _ _ i _ _ => n - (intOf i).toNat)
    case atStart => exact ⟨0, 0, .map [], Nat.zero_le _, rfl, Nat.le_refl _, World.ownsMap_made _ _ _ _, SetOfCells.start, below_alloc _ _⟩
    case round =>
      obtain ⟨k, m, D, hk, rfl, hm, hown, HD, hb⟩ := hrel
      by_cases hlt : k < n
      · obtain ⟨b, o, p, q, rfl, hbl, HK, c1, c2⟩ := (h.below hb).at_ hlt
        have sP := shape_small HS.out HK.out
        go_wp2_with fail
        refine (implSides p q _ sP).mono ?_
        rintro e w2 ⟨v, rfl, hO, hb2⟩
        obtain ⟨A4, cap4, hv4, _, _⟩ := hO.form
        change v = .slice A4 4 cap4 at hv4
        subst hv4
        have hB2 : Below w1.heap.size w1 w2 := (hb.trans ((below_alloc wr _).mono hb.size)).trans (hb2.mono (by have := hb.size; simp; omega))
        have hown2 := map_below (map_below hown (below_alloc wr _)) hb2
        have hO2 := hO.mono (base' := w1.heap.size + 1) (by have := hb.size; simp; omega)
        have SS := Lib.hid (fun (j : Nat) (c : C) => sides_small (j := j) (c := c) (shape_cell HS.out HK.out))
        clear hO hown hb hb2 c1 c2 hbl
        go_wp2
        go_loopw [7, 21] (fun _ i wr => ∃ (j m : Nat) (D : DataW Unit), j ≤ 4 ∧ i = .int .i64 j ∧ m ≤ 4 * k + j ∧ wr.ownsMap Try.prog 43 (plainElem Try.prog 3) w1.heap.size m D ∧ Hid (SetOfCells D (nbrFold cs [] ((cs.take k).flatMap sidesL ++ (sidesL (p, q)).take j))) ∧ Own wr (w1.heap.size + 1) (.slice A4 4 cap4) (sidesL (p, q)) ∧ Below w1.heap.size w1 wr) (fun _ i _ => 4 - (intOf i).toNat)
        case atStart => exact ⟨0, m, D, Nat.zero_le _, rfl, by omega, hown2, by rw [List.take_zero, List.append_nil]; exact HD.out, hO2, hB2⟩
        case round =>
          clear hown2 hO2 hB2 HD hm
          obtain ⟨j, m, D, hj, rfl, hm, hown, HD, hO, hb⟩ := hrel
          by_cases hj4 : j < 4
          · obtain ⟨bs, os, x, y, rfl, hbs, HX, d1, d2⟩ := (own_cells hO).at_ hj4
            have sX := SS.out _ _ HX.out
            have hO1 := hO.below (below_alloc wr (.cells #[.int .i64 x, .int .i64 y] 43))
            have hown1 := map_below hown (below_alloc wr (.cells #[.int .i64 x, .int .i64 y] 43))
            have hx := (((h.below hb).below (below_alloc wr (.cells #[.int .i64 x, .int .i64 y] 43))))
            have hB1 := hb.trans ((below_alloc wr (.cells #[.int .i64 x, .int .i64 y] 43)).mono hb.size)
            have m0 := (later_box (w := wr) (t := 43) (show (#[Value.int .i64 x, .int .i64 y] : Array Value)[0]? = some (.int .i64 x) from rfl))
            have m1 := (later_box (w := wr) (t := 43) (show (#[Value.int .i64 x, .int .i64 y] : Array Value)[1]? = some (.int .i64 y) from rfl))
            have hj4i : (j : Int) < 4 := by omega
            clear hO hown
            cases hv : memC cs x y with
            | true =>
              have C1 := implHas_eq (cap := cap) hv hn hx
              have HN : Hid (SetOfCells D (nbrFold cs [] ((cs.take k).flatMap sidesL ++ (sidesL (p, q)).take (j + 1)))) := by
                show SetOfCells _ _
                rw [take_next HX.out, ← List.append_assoc, nbrFold_snoc, addN_in hv]; exact HD.out
              clear hv hx h hb HD
              go_wp2_with fail
              refine (C1 ⟨_, (Below.refl _ _)⟩).mono ?_
              rintro e y1 ⟨rfl, B1⟩
              have hb := hB1.trans (B1.mono hB1.size)
              have hown := map_below hown1 B1
              have hO := hO1.below B1
              go_wp2
              go_roundw
              case rel => exact ⟨j + 1, m, D, by omega, by go_num, by omega, hown, HN, hO, hb⟩
              case measure => simp [intOf]; omega
            | false =>
              have C1 := implHas_eq (cap := cap) hv hn hx
              have HN : ∀ u, Hid (SetOfCells (D.put (cellKey (x, y)) u) (nbrFold cs [] ((cs.take k).flatMap sidesL ++ (sidesL (p, q)).take (j + 1)))) := by
                intro u
                show SetOfCells _ _
                rw [take_next HX.out, ← List.append_assoc, nbrFold_snoc]; exact HD.out.put sX hv u
              have hkey : keyOf Try.prog 43 (.agg #[.int .i64 x, .int .i64 y]) = some (cellKey (x, y)) := keyOf_cell (WalkArith.wf_i64 (by have := sX.1; have := sX.2.1; simp only at *; omega)) (WalkArith.wf_i64 (by have := sX.2.2.1; have := sX.2.2.2; simp only at *; omega))
              have HK' := Lib.hid hkey
              clear hkey hv hx h hb HD
              go_wp2_with fail
              refine (C1 ⟨_, (Below.refl _ _)⟩).mono ?_
              rintro e y1 ⟨rfl, B1⟩
              have hb := hB1.trans (B1.mono hB1.size)
              have hown := map_below hown1 B1
              have hO := hO1.below B1
              have e0 := m0 ⟨_, B1⟩
              have e1 := m1 ⟨_, B1⟩
              simp only at e0 e1
              go_wp2_with (first | (at_mapUpdate; refine wpList_mapUpdate_own _ rfl _ _ _ 49 rfl 43 3 law_cell Try.underlying49 (plainElem (H := Unit) Try.prog 3) w1.heap.size m _ rfl hown (by unfold maxLen; omega) _ _ _ rfl rfl HK'.out _ [] (plainElem_int Try.underlying3 (by decide)) ?_; intro w3 hown3 hgrow3) | go_in)
              have hO3 := own_beside hO hgrow3 (by
                cases hvb : (Value.slice (some ⟨bs, os, none⟩) 4 cap4).ownBlock with
                | none => exact Or.inl rfl
                | some z => refine Or.inr fun e => ?_; injection e with e; have := (hO.lt _ hvb).1; omega)
              have hb3 := hb.grown hgrow3 hb.size (fun z hz => by cases hz; exact Nat.le_refl _)
              clear hown hO hb
              go_roundw
              case rel => exact ⟨j + 1, m + 1, _, by omega, by go_num, by omega, hown3, HN _, hO3, hb3⟩
              case measure => simp [intOf]; omega
          · obtain rfl : j = 4 := by omega
            have HN : Hid (SetOfCells D (nbrFold cs [] ((cs.take (k + 1)).flatMap sidesL))) := by
              show SetOfCells _ _
              rw [take_next HK.out, List.flatMap_append]
              exact HD.out
            clear h
            go_wp2
            go_roundw
            case rel => exact ⟨k + 1, m, D, by omega, by go_num, by omega, hown, HN, hb⟩
            case measure => simp [intOf]; omega
      · obtain rfl : k = n := by omega
        clear h
        go_wp2_with (first | (at_len; refine wpList_len_own _ rfl _ 49 rfl 43 3 Try.underlying49 _ w1.heap.size m D rfl hown ?_) | go_in)
        go_ret
        have := HD.out.size
        rw [List.take_of_length_le (by rw [HL.out]; exact Nat.le_refl _)] at this
        exact ⟨ret_int (by rw [HR.out, this]), hb0.trans (hb.mono hb0.size)⟩

theorem addN_in2 {cs l : List C} {d : C} (h : memC l d.1 d.2 = true) : addN cs l d = l := by unfold addN; rw [h, Bool.or_true]; rfl
theorem addN_out {cs l : List C} {d : C} (h : memC cs d.1 d.2 = false) (h2 : memC l d.1 d.2 = false) : addN cs l d = l ++ [d] := by unfold addN; rw [h, h2]; rfl
theorem sideR_at (p q : Int) {d : Nat} (h : d < 4) : ∃ dx dy : Int, -1 ≤ dx ∧ dx ≤ 1 ∧ -1 ≤ dy ∧ dy ≤ 1 ∧ Int.tmod (1 - (d : Int)) 2 = dx ∧ Int.tmod (2 - (d : Int)) 2 = dy ∧ (sidesR (p, q))[d]? = some (p + dx, q + dy) := by
  have : d = 0 ∨ d = 1 ∨ d = 2 ∨ d = 3 := by omega
  rcases this with rfl | rfl | rfl | rfl
  · exact ⟨1, 0, by omega, by omega, by omega, by omega, rfl, rfl, by simp [sidesR]⟩
  · exact ⟨0, 1, by omega, by omega, by omega, by omega, rfl, rfl, by simp [sidesR]⟩
  · exact ⟨-1, 0, by omega, by omega, by omega, by omega, rfl, rfl, by simp [sidesR]; omega⟩
  · exact ⟨0, -1, by omega, by omega, by omega, by omega, rfl, rfl, by simp [sidesR]; omega⟩

set_option maxHeartbeats 3200000 in
theorem specNeighbours (A : Option Addr) (n cap : Nat) (cs : List C) (w : World) (hn : n ≤ 1048576) (h : CellsAt w A n cs) :
    Calls Try.prog 41 #[.slice A n cap] w fun e w' => e = .returned (.int .i64 (nbrCount cs)) ∧ Below w.heap.size w w' := by
  obtain ⟨i0, hi, hz0, hz1, hz2⟩ := info_parts Try.infoC
  have hc := (specIsShape A n cap cs w hn h)
  cases hs : isShape cs with
  | false =>
    have HR : Hid ((-1 : Int) = nbrCount cs) := by show _ = _; unfold nbrCount; rw [hs]; rfl
    rw [hs] at hc
    clear hs
    go_enter Try.func41, Try.ntmps41
    go_wp2_with fail
    refine hc.mono ?_
    rintro e w1 ⟨rfl, hb⟩
    go_wp2
    go_ret
    exact ⟨ret_int HR.out, hb⟩
  | true =>
    have HR : Hid (nbrCount cs = ((nbrFold cs [] (cs.flatMap sidesR)).length : Nat)) := by show _ = _; unfold nbrCount; rw [hs, if_pos rfl, nbr_len]
    have hl := shape_len hs
    rw [h.1] at hl
    have HL := Lib.hid h.1
    have HS := Lib.hid hs
    rw [hs] at hc
    clear hs
    go_enter Try.func41, Try.ntmps41
    go_wp2_with fail
    refine hc.mono ?_
    rintro e w1 ⟨rfl, hb0⟩
    clear hc
    have hE := (own_empty w1).mono hb0.size
    have hbE := hb0.trans ((below_alloc w1 (.cells #[] 43)).mono hb0.size)
    go_wp2
    go_loopw [3, 4, 5, 6, 7] (fun v i _ _ _ wr => ∃ (k : Nat) (L : List C), k ≤ n ∧ i = .int .i64 k ∧ Hid (L = nbrFold cs [] ((cs.take k).flatMap sidesR)) ∧ L.length ≤ 4 * k ∧ Own wr w.heap.size v L ∧ Below w.heap.size w wr) (fun _ i _ _ _ _ => n - (intOf i).toNat)
    case atStart => exact ⟨0, [], Nat.zero_le _, rfl, rfl, Nat.zero_le _, hE, hbE⟩
    case round =>
      clear hE hbE
      obtain ⟨k, L, hk, rfl, HF, hL, hown, hb⟩ := hrel
      obtain ⟨A', cap', rfl, hr, _⟩ := hown.form
      by_cases hlt : k < n
      · go_wp2
        go_loopw [3, 5, 6, 7] (fun v i _ _ wr => ∃ (j : Nat) (L : List C), j ≤ 4 ∧ i = .int .i64 j ∧ Hid (∀ c, cs[k]? = some c → L = nbrFold cs [] ((cs.take k).flatMap sidesR ++ (sidesR c).take j)) ∧ L.length ≤ 4 * k + j ∧ Own wr w.heap.size v L ∧ Below w.heap.size w wr) (fun _ i _ _ _ => 4 - (intOf i).toNat)
        case atStart => exact ⟨0, L, Nat.zero_le _, rfl, (by show ∀ c, _ → _; intro c _; rw [List.take_zero, List.append_nil]; exact HF.out), by omega, hown, hb⟩
        case round =>
          clear hown hb HF hL hr
          obtain ⟨j, L, hj, rfl, HF, hL, hown, hb⟩ := hrel
          obtain ⟨A', cap', rfl, hr, _⟩ := hown.form
          by_cases hj4 : j < 4
          · obtain ⟨b, o, p, q, rfl, hbl, HK, c1, c2⟩ := (h.below hb).at_ hlt
            obtain ⟨z1, z2, z3, z4⟩ := shape_cell HS.out HK.out
            obtain ⟨dx, dy, x1, x2, y1, y2, t1, t2, hX⟩ := sideR_at p q hj4
            have HX := Lib.hid hX
            clear hX
            have hj4i : (j : Int) < 4 := by omega
            obtain ⟨x, hx⟩ : ∃ x, x = p + dx := ⟨_, rfl⟩
            obtain ⟨y, hy⟩ : ∃ y, y = q + dy := ⟨_, rfl⟩
            have HXY : Hid (p + dx = x ∧ q + dy = y) := ⟨hx.symm, hy.symm⟩
            have W1 : wrap64 (p + dx) = x := by rw [hx]; exact IntWalk.wrap64_in _ ⟨by omega, by omega⟩
            have W2 : wrap64 (q + dy) = y := by rw [hy]; exact IntWalk.wrap64_in _ ⟨by omega, by omega⟩
            have C1 := specHasCell (some ⟨b, o, none⟩) n cap cs x y wr hn (h.below hb)
            have C2 := specHasCell A' L.length cap' L x y wr (by omega) hr
            have HNext : Hid (∀ L' : List C, L' = addN cs L (x, y) → ∀ c, cs[k]? = some c → L' = nbrFold cs [] ((cs.take k).flatMap sidesR ++ (sidesR c).take (j + 1))) := by
              show ∀ _, _
              intro L' hL' c hc
              have hxy := HX.out
              rw [HXY.out.1, HXY.out.2] at hxy
              have e := HK.out.symm.trans hc
              injection e with e
              subst e
              rw [take_next hxy, ← List.append_assoc, nbrFold_snoc, ← HF.out _ hc]
              exact hL'
            clear h hr hx hy z1 z2 z3 z4
            cases hv1 : memC cs x y with
            | true =>
              rw [hv1] at C1
              have HN := Lib.hid (HNext.out L (addN_in hv1).symm)
              clear hv1 HNext C2
              go_wp2_with fail
              refine C1.mono ?_
              rintro e y1 ⟨rfl, rfl⟩
              go_wp2
              go_roundw
              case rel => exact ⟨j + 1, L, by omega, by go_num, HN, by omega, hown, hb⟩
              case measure => simp [intOf]; omega
            | false =>
              rw [hv1] at C1
              cases hv2 : memC L x y with
              | true =>
                rw [hv2] at C2
                have HN := Lib.hid (HNext.out L (addN_in2 hv2).symm)
                clear hv1 hv2 HNext
                go_wp2_with fail
                refine C1.mono ?_
                rintro e y1 ⟨rfl, rfl⟩
                go_wp2_with fail
                refine C2.mono ?_
                rintro e y1 ⟨rfl, rfl⟩
                go_wp2
                go_roundw
                case rel => exact ⟨j + 1, L, by omega, by go_num, HN, by omega, hown, hb⟩
                case measure => simp [intOf]; omega
              | false =>
                rw [hv2] at C2
                have HN := Lib.hid (HNext.out (L ++ [(x, y)]) (addN_out hv1 hv2).symm)
                clear hv1 hv2 HNext
                have hsz := hb.size
                go_wp2_with fail
                refine C1.mono ?_
                rintro e y1 ⟨rfl, rfl⟩
                go_wp2_with fail
                refine C2.mono ?_
                rintro e y1 ⟨rfl, rfl⟩
                clear C1 C2
                go_wp2_with (at_builtin; refine wpList_append_own _ rfl _ _ 27 rfl w.heap.size 43 i0 (.agg #[.int .i64 0, .int .i64 0]) 2 16 Try.underlying27 hi hz0 hz1 hz2 rfl (by decide) _ _ _ rfl (World.ownsRow.alloc hown _) ⟨wr.heap.size, 0, none⟩ 1 1 (flat [(x, y)]) rfl rfl ?c1 ?c2 ?c3 ?c4 ?c5 ?_)
                case c1 => exact World.news_of_block (cs := #[.int .i64 x, .int .i64 y]) (heap_alloc_new wr _)
                case c2 => exact flat_one
                case c3 => unfold maxLen; omega
                case c4 => omega
                case c5 => simp; omega
                intro v' w3 hown1 hgrow _
                have R1 := below_append1 hb hown hsz hgrow
                have hO3 : Own w3 w.heap.size v' (L ++ [(x, y)]) := by
                  unfold Own
                  rw [flat_append, List.length_append]
                  exact hown1
                clear hown hown1 hgrow
                go_wp2
                go_roundw
                case rel => exact ⟨j + 1, L ++ [(x, y)], by omega, by go_num, HN, by simp; omega, hO3, R1⟩
                case measure => simp [intOf]; omega
          · obtain rfl : j = 4 := by omega
            obtain ⟨b, o, p, q, _, _, HK, _, _⟩ := (h.below hb).at_ hlt
            have HN : Hid (L = nbrFold cs [] ((cs.take (k + 1)).flatMap sidesR)) := by
              show _ = _
              rw [take_next HK.out, List.flatMap_append]
              exact HF.out _ HK.out
            clear h hr
            go_wp2
            go_roundw
            case rel => exact ⟨k + 1, L, by omega, by go_num, HN, by omega, hown, hb⟩
            case measure => simp [intOf]; omega
      · obtain rfl : k = n := by omega
        clear h hr
        have HN : Hid (((L.length : Nat) : Int) = nbrCount cs) := by
          show _ = _
          rw [HR.out, HF.out, List.take_of_length_le (by rw [HL.out]; exact Nat.le_refl _)]
        go_wp2
        go_ret
        exact ⟨ret_int HN.out, hb⟩
end Go.Proofs.Ytmojfiigjoamnaa
