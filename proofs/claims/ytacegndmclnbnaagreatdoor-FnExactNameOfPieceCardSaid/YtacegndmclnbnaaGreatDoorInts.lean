/- Slices of ints: what it is that one reads as a list; a row of the call's own; what the laws do with them (size, copy, comparison, marks). Condition: at most 2^20 numbers. -/
import Derived.Test.YtacegndmclnbnaaGreatDoorMark
import Derived.Lib.SmallJoins
import Derived.ProofKit
import Derived.ChangeSlices
namespace Go.Proofs.YtacegndmclnbnaaGreatDoor
open Go.RowKit Go.ChangeShapes Go.WideShapes

/-- The slice value with address A and length n reads, in the world w, as the numbers xs. -/
def IntsAt (w : World) (A : Option Addr) (n : Nat) (xs : List Int) : Prop :=
  xs.length = n ∧ (0 < n → ∃ b o, A = some ⟨b, o, none⟩ ∧ b < w.heap.size ∧ ∀ j, j < n → w.cell? ⟨b, o + j, none⟩ = some (.int .i64 (xs.getD j 0)))
section
variable {w w' : World} {A : Option Addr} {n : Nat} {xs : List Int}
theorem IntsAt.below (h : IntsAt w A n xs) (hb : Below w.heap.size w w') : IntsAt w' A n xs :=
  ⟨h.1, fun hn => by
    obtain ⟨b, o, e, hlt, hc⟩ := h.2 hn
    exact ⟨b, o, e, Nat.lt_of_lt_of_le hlt hb.size, fun j hj => (hb.cell (p := ⟨b, o + j, none⟩) hlt).trans (hc j hj)⟩⟩
theorem IntsAt.at_ (h : IntsAt w A n xs) {k : Nat} (hk : k < n) : ∃ b o x, A = some ⟨b, o, none⟩ ∧ b < w.heap.size ∧ Hid (xs[k]? = some x) ∧ w.cell? ⟨b, o + k, none⟩ = some (.int .i64 x) := by
  obtain ⟨b, o, e, hlt, hc⟩ := h.2 (by omega)
  have hl : k < xs.length := by rw [h.1]; exact hk
  have hg : xs.getD k 0 = xs[k] := by simp [hl]
  refine ⟨b, o, xs[k], e, hlt, List.getElem?_eq_getElem hl, ?_⟩
  rw [← hg]; exact hc k hk
theorem IntsAt.none_ : IntsAt w A 0 [] := ⟨rfl, fun h => absurd h (by omega)⟩
end
def intsV (xs : List Int) : List Value := xs.map (.int .i64)
theorem intsV_length (xs : List Int) : (intsV xs).length = xs.length := by simp [intsV]
theorem intsV_append (a b : List Int) : intsV (a ++ b) = intsV a ++ intsV b := by simp [intsV]
theorem intsV_get (xs : List Int) (k : Nat) : (intsV xs)[k]? = xs[k]?.map (.int .i64) := by simp [intsV]
theorem intsV_set (xs : List Int) (k : Nat) (x : Int) : (intsV xs).set k (.int .i64 x) = intsV (xs.set k x) := by simp [intsV, List.map_set]
theorem intsV_one : ∀ {xs : List Int}, ∀ u ∈ intsV xs, u.oneCell' = true := by
  intro xs u hu
  simp only [intsV, List.mem_map] at hu
  obtain ⟨c, _, rfl⟩ := hu
  rfl
theorem Tryz.infoI : (Tryz.prog.info? 3).map (fun i => (i.zero, i.size, i.bytes)) = some (some (.int .i64 0), 1, 8) := by kernel_rfl

/-- A row of numbers that the call owns. -/
def OwnI (w : World) (base : Nat) (v : Value) (xs : List Int) : Prop := w.ownsRow base 3 1 v xs.length (intsV xs)
section
variable {w w' : World} {base : Nat} {v : Value} {xs : List Int}
theorem OwnI.form (h : OwnI w base v xs) : ∃ A cap, v = .slice A xs.length cap ∧ IntsAt w A xs.length xs ∧ xs.length ≤ maxLen := by
  rcases h.2 with ⟨rfl, h0⟩ | ⟨g, cap, cur, rfl, _, hg, hle, hm, _⟩
  · have : xs = [] := List.eq_nil_of_length_eq_zero h0
    subst this
    exact ⟨none, 0, rfl, IntsAt.none_, Nat.zero_le _⟩
  · refine ⟨_, _, rfl, ⟨rfl, fun hn => ⟨g, 0, rfl, (Array.getElem?_eq_some_iff.1 hg).1, fun j hj => ?_⟩⟩, by omega⟩
    have h1 := World.ownsRow.cellAt h j (by omega)
    have he : xs[j]? = some (xs.getD j 0) := by simp [hj]
    rw [intsV_get, he] at h1
    simp only [Nat.zero_add]
    exact h1
theorem OwnI.below (h : OwnI w base v xs) (hb : Below w.heap.size w w') : OwnI w' base v xs := by
  refine h.kept (row := none) ⟨hb.os, hb.tape, hb.output, hb.size, fun k hk _ => hb.block k hk⟩ ?_
  cases v.ownBlock <;> simp
theorem OwnI.mono {base' : Nat} (h : OwnI w base v xs) (hb : base' ≤ base) : OwnI w base' v xs :=
  ⟨h.1, h.2.imp id fun ⟨g, cap, cur, e, hg, r⟩ => ⟨g, cap, cur, e, Nat.le_trans hb hg, r⟩⟩
theorem OwnI.nil (w : World) (base : Nat) : OwnI w base (.slice none 0 0) [] := World.ownsRow_nil _ _ _ _
theorem OwnI.lt (h : OwnI w base v xs) : ∀ k, v.ownBlock = some k → base ≤ k ∧ k < w.heap.size := World.ownsRow.lt h
end
theorem ownI_ints {w : World} {base n cap : Nat} {A : Option Addr} {xs : List Int} (h : OwnI w base (.slice A n cap) xs) : IntsAt w A n xs := by
  obtain ⟨A', cap', e, hr, _⟩ := h.form
  injection e with e1 e2 _
  subst e1 e2
  exact hr
theorem ownI_empty (w : World) : OwnI (w.alloc (.cells #[] 3)) w.heap.size (.slice (some ⟨w.heap.size, 0, none⟩) 0 0) [] :=
  ⟨rfl, Or.inr ⟨w.heap.size, 0, #[], rfl, Nat.le_refl _, heap_alloc_new w _, Nat.le_refl _, by unfold maxLen; omega, rfl, rfl⟩⟩
def OwnIPost (w : World) (xs : List Int) (e : Ending) (w' : World) : Prop := ∃ v, e = .returned v ∧ OwnI w' w.heap.size v xs ∧ Below w.heap.size w w'

/-- a number comes in -/
theorem Tryz.cellsI : Tryz.prog.cellsOf 3 = 1 := by kernel_rfl
def IntsArg (w : World) (v : Value) (xs : List Int) : Prop := ∃ A n cap, v = .slice A n cap ∧ n ≤ maxLen ∧ IntsAt w A n xs
set_option maxRecDepth 100000 in
theorem open_intsv {H : Type} {enc : TypeId × Value → H} {w : World} {r : Reach} {b0 base : Nat} {held : Bool} {v : Value} {d : DataW H} {p : List MemPlace}
    (hv : Value.okWide Tryz.prog w r b0 72 v) (h : DataW.Trod enc Tryz.prog w base (fun _ => true) held 72 v d p) : ∃ xs, IntsArg w v xs := by
  obtain ⟨a1, len, cap, rfl⟩ := okWide_slice Tryz.underlying72 hv
  obtain ⟨fuel, hf⟩ := h
  rcases open_ints Tryz.underlying72 Tryz.underlying3 Tryz.cellsI hf with ⟨hcs, hx⟩ | ⟨a, len', cap', zs, hcs, _, hl, hm, hz, hx, hcell, hwz⟩
  · simp [Value.cells] at hcs
    obtain ⟨rfl, rfl, rfl⟩ := hcs
    exact ⟨[], none, 0, 0, rfl, by unfold maxLen; omega, IntsAt.none_⟩
  · simp [Value.cells] at hcs
    obtain ⟨rfl, rfl, rfl⟩ := hcs
    simp only [if_true] at hz
    refine ⟨zs.take len, some a, len, cap, rfl, by omega, by simp; omega, fun hn => ?_⟩
    obtain ⟨b, off, spot⟩ := a
    have hspot : spot = none := by simpa [Addr.add] using World.cell?_spot (hcell 0 (by omega))
    subst hspot
    have hadd : ∀ j, (⟨b, off, none⟩ : Addr).add j = ⟨b, off + j, none⟩ := fun j => by unfold Addr.add; split <;> simp_all
    refine ⟨b, off, rfl, World.block_lt_of_cell? w _ (by have := hcell 0 (by omega); rw [hadd] at this; exact this), fun j hj => ?_⟩
    have h := hcell j (by omega)
    rw [hadd] at h
    rw [h]
    simp [List.getD_eq_getElem?_getD, hj]


def mixI (cs : List Int) (n k : Nat) : List Int := cs.take k ++ List.replicate (n - k) 0
theorem mixI_zero (cs : List Int) (n : Nat) : mixI cs n 0 = List.replicate n 0 := by simp [mixI]
theorem mixI_all {cs : List Int} {n : Nat} (h : cs.length = n) : mixI cs n n = cs := by simp [mixI, ← h]
theorem mixI_set {cs : List Int} {n k : Nat} {x : Int} (h : cs.length = n) (hk : k < n) (he : cs[k]? = some x) : (mixI cs n k).set k x = mixI cs n (k + 1) := by
  unfold mixI
  have hl : (cs.take k).length = k := by simp; omega
  rw [List.set_append_right _ _ (by omega), hl, Nat.sub_self, take_next he, show n - k = (n - (k + 1)) + 1 by omega, List.replicate_succ]
  simp
theorem intsV_replicate (n : Nat) : intsV (List.replicate n 0) = (madeCells #[.int .i64 0] n).toList := by
  apply List.ext_getElem?
  intro j
  by_cases hj : j < n
  · simp [madeCells, intsV, hj, Nat.mod_one]
  · rw [List.getElem?_eq_none (by simp [intsV]; omega), List.getElem?_eq_none (by simp [madeCells]; omega)]


theorem take_eq_nextI {cs ds : List Int} {k : Nat} {x : Int} (h : cs.take k = ds.take k) (h1 : cs[k]? = some x) (h2 : ds[k]? = some x) : Hid (cs.take (k + 1) = ds.take (k + 1)) := by
  show _ = _
  rw [take_next h1, take_next h2, h]
theorem ne_atI {cs ds : List Int} {k : Nat} {x y : Int} (h1 : cs[k]? = some x) (h2 : ds[k]? = some y) (hne : x ≠ y) : cs ≠ ds := by
  rintro rfl
  rw [h1] at h2
  exact hne (Option.some.inj h2)
def EqPostI (cs ds : List Int) (w : World) (e : Ending) (w' : World) : Prop := e = .returned (.bool (decide (cs = ds))) ∧ Below w.heap.size w w'


/-- the numbers k, k + 1, .. -/
def marksI (k : Int) (n : Nat) : List Int := (List.range n).map fun (j : Nat) => k + (j : Int)
theorem marksI_length (k : Int) (n : Nat) : (marksI k n).length = n := by simp [marksI]
theorem marksI_get {k : Int} {n j : Nat} (h : j < n) : (marksI k n)[j]? = some (k + (j : Int)) := by
  simp [marksI, h]
def markToI (cs : List Int) (k : Int) (j : Nat) : List Int := marksI k j ++ cs.drop j
theorem markToI_zero (cs : List Int) (k : Int) : markToI cs k 0 = cs := by simp [markToI, marksI]
theorem markToI_all {cs : List Int} {n : Nat} (h : cs.length = n) (k : Int) : markToI cs k n = marksI k n := by
  unfold markToI; rw [List.drop_of_length_le (by omega)]; simp
theorem marksI_succ (k : Int) (j : Nat) : marksI k (j + 1) = marksI k j ++ [k + (j : Int)] := by
  unfold marksI; rw [List.range_succ, List.map_append]; rfl
theorem markToI_set {cs : List Int} {n j : Nat} (h : cs.length = n) (hj : j < n) (k : Int) : (markToI cs k j).set j (k + (j : Int)) = markToI cs k (j + 1) := by
  unfold markToI
  rw [List.set_append_right _ _ (by rw [marksI_length]; omega), marksI_length, Nat.sub_self, marksI_succ, List.append_assoc]
  congr 1
  rw [List.drop_eq_getElem_cons (by omega)]
  rfl


theorem ownI_beside {w w' : World} {row : Option Nat} {base : Nat} {v : Value} {cs : List Int} (h : OwnI w base v cs) (hg : w.grownBy w' row) (hne : v.ownBlock = none ∨ v.ownBlock ≠ row) : OwnI w' base v cs := h.kept hg hne
theorem below_grownI {B : Nat} {a w w' : World} {base : Nat} {v : Value} {cs : List Int} (h : Below B a w) (ho : OwnI w base v cs) (hg : w.grownBy w' v.ownBlock) (hBw : B ≤ w.heap.size) (hB : B ≤ base) : Below B a w' :=
  h.grown hg hBw (fun k hk => Nat.le_trans hB (ho.lt k hk).1)
/-- Two rows, one of them made later, lie in different blocks. -/
theorem block_apart {v v' : Value} {s : Nat} (h : ∀ k, v.ownBlock = some k → k < s) (h' : ∀ k, v'.ownBlock = some k → s ≤ k) : v.ownBlock = none ∨ v.ownBlock ≠ v'.ownBlock := by
  cases hv : v.ownBlock with
  | none => exact Or.inl rfl
  | some k =>
    refine Or.inr fun e => ?_
    have h1 := h k hv
    have h2 := h' k e.symm
    omega
theorem block_apart' {v v' : Value} {s : Nat} (h : ∀ k, v.ownBlock = some k → k < s) (h' : ∀ k, v'.ownBlock = some k → s ≤ k) : v'.ownBlock = none ∨ v'.ownBlock ≠ v.ownBlock := by
  cases hv : v'.ownBlock with
  | none => exact Or.inl rfl
  | some k =>
    refine Or.inr fun e => ?_
    have h1 := h k e.symm
    have h2 := h' k hv
    omega
end Go.Proofs.YtacegndmclnbnaaGreatDoor
