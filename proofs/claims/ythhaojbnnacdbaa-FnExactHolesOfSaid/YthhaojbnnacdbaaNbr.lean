/- The places beside a cell: the program's sides; a map keyed by cells. Condition: small coordinates. -/
import Derived.Test.YthhaojbnnacdbaaConnS
import Derived.Test.YthhaojbnnacdbaaSd
import Derived.Test.YthhaojbnnacdbaaMark
import Derived.Maps.OwnSet
import Derived.Maps.Views
import Derived.DeepKeys4
import Derived.ChangeKeys
namespace Go.Proofs.Ythhaojbnnacdbaa
open Go.RowKit

def cellKey (c : C) : Lit := .string (keyBytes [.int .i64 c.1, .int .i64 c.2])
theorem wf_small {x : Int} (h1 : -200 ≤ x) (h2 : x ≤ 200) : (Lit.int .i64 x).wf = true := WalkArith.wf_i64 (by omega)
theorem keyOf_cell {x y : Int} (h1 : (Lit.int .i64 x).wf = true) (h2 : (Lit.int .i64 y).wf = true) : keyOf Try.prog 58 (.agg #[.int .i64 x, .int .i64 y]) = some (cellKey (x, y)) := by
  have hk : Try.prog.keyType 58 = true := by kernel_rfl
  obtain ⟨m, hm⟩ : ∃ m, Try.prog.types.size = m + 1 := ⟨Try.prog.types.size - 1, by kernel_rfl⟩
  have hc : Try.prog.cellsOf 58 = 2 := by kernel_rfl
  have hf : (Value.agg #[.int .i64 x, .int .i64 y]).formed Try.prog 58 = true := by
    simp [Value.formed, Try.underlying58, hc]
  have hc1 : Try.prog.cellsOf 3 = 1 := by kernel_rfl
  unfold keyOf
  rw [Try.underlying58]
  simp only [hk, hf, Bool.and_true, if_true]
  rw [hm]
  simp [Program.keyLits, Try.underlying58, Try.underlying3, hc, hc1, h1, h2, Value.cells, cellKey]
theorem cellKey_is (c : C) : WideAt.IsKeyLit (cellKey c) := by
  exact trivial
theorem cellKey_inj {a b : C} (ha : smallC a) (hb : smallC b) (h : cellKey a = cellKey b) : a = b := by
  unfold cellKey at h
  injection h with h
  obtain ⟨a1, a2, a3, a4⟩ := ha
  obtain ⟨b1, b2, b3, b4⟩ := hb
  have := keyBytes_inj (l := [.int .i64 a.1, .int .i64 a.2]) (l' := [.int .i64 b.1, .int .i64 b.2]) ⟨rfl, rfl, trivial⟩ (by intro q hq; simp at hq; rcases hq with rfl | rfl; exact wf_small (by omega) (by omega); exact wf_small (by omega) (by omega)) (by intro q hq; simp at hq; rcases hq with rfl | rfl; exact wf_small (by omega) (by omega); exact wf_small (by omega) (by omega)) h
  simp at this
  exact Prod.ext this.1 this.2
theorem law_cell : Maps.Keyed Try.prog 58 := Maps.Keyed.of_law (deep_law_laid (m := 100) (by kernel_rfl) (by omega) (of_decide_eq_true (by kernel_rfl)) (by kernel_rfl) (by kernel_rfl))

/-! ### The places, collected -/
def addN (cs l : List C) (c : C) : List C := if (memC cs c.1 c.2 || memC l c.1 c.2) = true then l else l ++ [c]
def nbrFold (cs l ds : List C) : List C := ds.foldl (addN cs) l
theorem nbrFold_snoc (cs l ds : List C) (d : C) : nbrFold cs l (ds ++ [d]) = addN cs (nbrFold cs l ds) d := by
  unfold nbrFold; rw [List.foldl_append]; rfl
theorem addN_mem (cs l : List C) (d c : C) : c ∈ addN cs l d ↔ c ∈ l ∨ (c = d ∧ ¬ c ∈ cs) := by
  unfold addN
  by_cases h1 : memC cs d.1 d.2 = true
  · rw [h1]
    simp only [Bool.true_or, if_true]
    constructor
    · exact Or.inl
    · rintro (h | ⟨rfl, h⟩)
      · exact h
      · exact absurd (mem_memC.1 h1) h
  · have h1' : memC cs d.1 d.2 = false := by simpa using h1
    have n1 : ¬ d ∈ cs := fun h => h1 (mem_memC.2 h)
    by_cases h2 : memC l d.1 d.2 = true
    · rw [h1', h2]
      simp only [Bool.false_or, if_true]
      constructor
      · exact Or.inl
      · rintro (h | ⟨rfl, h⟩)
        · exact h
        · exact mem_memC.1 h2
    · have h2' : memC l d.1 d.2 = false := by simpa using h2
      rw [h1', h2']
      simp only [Bool.false_or, Bool.false_eq_true, if_false, List.mem_append, List.mem_singleton]
      constructor
      · rintro (h | rfl)
        · exact Or.inl h
        · exact Or.inr ⟨rfl, n1⟩
      · rintro (h | ⟨rfl, h⟩)
        · exact Or.inl h
        · exact Or.inr rfl
theorem addN_nodup {cs l : List C} {d : C} (h : l.Nodup) : (addN cs l d).Nodup := by
  unfold addN
  split
  · exact h
  · rename_i hx
    rw [List.nodup_append]
    refine ⟨h, by simp, fun x hxl y hy e => hx ?_⟩
    rw [List.mem_singleton.1 hy] at e
    subst e
    rw [mem_memC.2 hxl, Bool.or_true]
theorem nbrFold_mem (cs : List C) (c : C) : ∀ (ds l : List C), c ∈ nbrFold cs l ds ↔ c ∈ l ∨ (c ∈ ds ∧ ¬ c ∈ cs)
  | [], l => by simp [nbrFold]
  | d :: r, l => by
    show c ∈ nbrFold cs (addN cs l d) r ↔ _
    rw [nbrFold_mem cs c r, addN_mem]
    simp only [List.mem_cons]
    constructor
    · rintro ((h | ⟨rfl, h⟩) | ⟨h1, h2⟩)
      · exact Or.inl h
      · exact Or.inr ⟨Or.inl rfl, h⟩
      · exact Or.inr ⟨Or.inr h1, h2⟩
    · rintro (h | ⟨rfl | h1, h2⟩)
      · exact Or.inl (Or.inl h)
      · exact Or.inl (Or.inr ⟨rfl, h2⟩)
      · exact Or.inr ⟨h1, h2⟩
theorem nbrFold_nodup (cs : List C) : ∀ (ds l : List C), l.Nodup → (nbrFold cs l ds).Nodup
  | [], _, h => h
  | _ :: r, _, h => nbrFold_nodup cs r _ (addN_nodup h)
theorem nbr_len (cs ds : List C) : (nbrFold cs [] (ds.flatMap sidesR)).length = (nbrFold cs [] (ds.flatMap sidesL)).length := by
  have m : ∀ c, c ∈ nbrFold cs [] (ds.flatMap sidesR) ↔ c ∈ nbrFold cs [] (ds.flatMap sidesL) := by
    intro c
    rw [nbrFold_mem, nbrFold_mem]
    simp only [List.mem_flatMap, sides_same]
  have n1 := nbrFold_nodup cs (ds.flatMap sidesR) [] List.nodup_nil
  have n2 := nbrFold_nodup cs (ds.flatMap sidesL) [] List.nodup_nil
  exact Nat.le_antisymm (length_le_of_sub n1 fun c hc => (m c).1 hc) (length_le_of_sub n2 fun c hc => (m c).2 hc)
def nbrCount (cs : List C) : Int := if isShape cs = true then ((nbrFold cs [] (cs.flatMap sidesL)).length : Nat) else -1
theorem fold_len_le (cs : List C) : ∀ (ds l : List C), (nbrFold cs l ds).length ≤ l.length + ds.length
  | [], l => by simp [nbrFold]
  | d :: r, l => by
    have h := fold_len_le cs r (addN cs l d)
    have h2 : (addN cs l d).length ≤ l.length + 1 := by
      unfold addN; split
      · omega
      · simp
    show (nbrFold cs (addN cs l d) r).length ≤ _
    simp only [List.length_cons]
    omega

/-- A map whose keys are these cells. -/
structure SetOfCells (D : DataW Unit) (l : List C) : Prop where
  tidy : Maps.Tidy D
  size : Maps.size D = l.length
  has : ∀ c, smallC c → (Maps.has D (cellKey c) = true ↔ c ∈ l)
  small : ∀ c ∈ l, smallC c
theorem SetOfCells.start : SetOfCells (.map []) [] :=
  ⟨Maps.tidy_empty, rfl, fun c _ => by simp [Maps.has], fun c hc => by cases hc⟩
theorem SetOfCells.put {D : DataW Unit} {cs l : List C} {d : C} (h : SetOfCells D l) (hd : smallC d) (hn : memC cs d.1 d.2 = false) (u : DataW Unit) : SetOfCells (D.put (cellKey d) u) (addN cs l d) := by
  have hk := cellKey_is d
  have hsz := Maps.size_put (k := cellKey d) h.tidy u
  by_cases hm : d ∈ l
  · have e : addN cs l d = l := by unfold addN; rw [mem_memC.2 hm, Bool.or_true, if_pos rfl]
    rw [e]
    refine ⟨h.tidy.put hk u, ?_, fun c hc => ?_, h.small⟩
    · rw [hsz, if_pos ((h.has d hd).2 hm), h.size]
    · by_cases he : c = d
      · subst he; rw [Maps.has_put_same h.tidy.isMap hk]; simp [hm]
      · rw [Maps.has_put_other (fun e => he (cellKey_inj hc hd e))]; exact h.has c hc
  · have h2 : memC l d.1 d.2 = false := by
      cases hx : memC l d.1 d.2 with
      | false => rfl
      | true => exact absurd (mem_memC.1 hx) hm
    have e : addN cs l d = l ++ [d] := by unfold addN; rw [hn, h2]; rfl
    rw [e]
    refine ⟨h.tidy.put hk u, ?_, fun c hc => ?_, fun c hc => ?_⟩
    · rw [hsz, if_neg (fun hx => hm ((h.has d hd).1 hx)), h.size]; simp
    · by_cases he : c = d
      · subst he; rw [Maps.has_put_same h.tidy.isMap hk]; simp
      · rw [Maps.has_put_other (fun e => he (cellKey_inj hc hd e)), h.has c hc]; simp [he]
    · rcases List.mem_append.1 hc with hc | hc
      · exact h.small c hc
      · rw [List.mem_singleton.1 hc]; exact hd
theorem addN_in {cs l : List C} {d : C} (h : memC cs d.1 d.2 = true) : addN cs l d = l := by unfold addN; rw [h]; rfl

theorem map_below {w w' : World} {P : Program} {k : TypeId} {R : Value → Option (DataW Unit × List MemPlace)} {b n : Nat} {D : DataW Unit} (h : w.ownsMap P k R b n D) (hb : Below w.heap.size w w') : w'.ownsMap P k R b n D :=
  h.kept (row := none) ⟨hb.os, hb.tape, hb.output, hb.size, fun k hk _ => hb.block k hk⟩ (by simp)

theorem addN_in2 {cs l : List C} {d : C} (h : memC l d.1 d.2 = true) : addN cs l d = l := by unfold addN; rw [h, Bool.or_true]; rfl
theorem addN_out {cs l : List C} {d : C} (h : memC cs d.1 d.2 = false) (h2 : memC l d.1 d.2 = false) : addN cs l d = l ++ [d] := by unfold addN; rw [h, h2]; rfl
end Go.Proofs.Ythhaojbnnacdbaa
