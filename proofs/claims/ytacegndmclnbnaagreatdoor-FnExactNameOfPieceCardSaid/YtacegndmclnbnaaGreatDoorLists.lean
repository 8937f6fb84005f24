/- Slices of slices of cells: what it is that one reads as a list of shapes; rows of the call's own; comparing, marking, looking over. No condition but sizes. -/
import Derived.Test.YtacegndmclnbnaaGreatDoorListM
import Derived.Test.YtacegndmclnbnaaGreatDoorMark
import Derived.Deep.Slices
namespace Go.Proofs.YtacegndmclnbnaaGreatDoor
open Go.RowKit

abbrev L2 := List (List C)
/-- The slice value with address A and length n reads, in the world w, as the shapes ls. -/
def ShapesAt (w : World) (A : Option Addr) (n : Nat) (ls : L2) : Prop :=
  ls.length = n ∧ (0 < n → ∃ b o, A = some ⟨b, o, none⟩ ∧ b < w.heap.size ∧
    ∀ j, j < n → ∃ Aj nj cj, w.cell? ⟨b, o + j, none⟩ = some (.slice Aj nj cj) ∧ CellsAt w Aj nj (ls.getD j []))
section
variable {w w' : World} {A : Option Addr} {n : Nat} {ls : L2}
theorem ShapesAt.below (h : ShapesAt w A n ls) (hb : Below w.heap.size w w') : ShapesAt w' A n ls :=
  ⟨h.1, fun hn => by
    obtain ⟨b, o, e, hlt, hc⟩ := h.2 hn
    refine ⟨b, o, e, Nat.lt_of_lt_of_le hlt hb.size, fun j hj => ?_⟩
    obtain ⟨Aj, nj, cj, h1, h2⟩ := hc j hj
    exact ⟨Aj, nj, cj, (hb.cell (p := ⟨b, o + j, none⟩) hlt).trans h1, h2.below hb⟩⟩
theorem ShapesAt.at_ (h : ShapesAt w A n ls) {k : Nat} (hk : k < n) : ∃ b o B m c ds, A = some ⟨b, o, none⟩ ∧ b < w.heap.size ∧ Hid (ls[k]? = some ds) ∧
    w.cell? ⟨b, o + k, none⟩ = some (.slice B m c) ∧ CellsAt w B m ds := by
  obtain ⟨b, o, e, hlt, hc⟩ := h.2 (by omega)
  have hl : k < ls.length := by rw [h.1]; exact hk
  have he : ls[k]? = some ls[k] := List.getElem?_eq_getElem hl
  have hg : ls.getD k [] = ls[k] := by simp [hl]
  obtain ⟨Aj, nj, cj, h1, h2⟩ := hc k hk
  rw [hg] at h2
  exact ⟨b, o, Aj, nj, cj, _, e, hlt, he, h1, h2⟩
theorem ShapesAt.none_ : ShapesAt w A 0 [] := ⟨rfl, fun h => absurd h (by omega)⟩
end

/-- A row of shapes that the call owns: the row's values vs, each of them a row of cells of its own, no two in one block. -/
structure OwnV (w : World) (base : Nat) (v : Value) (vs : List Value) (ls : L2) : Prop where
  row : w.ownsRow base 24 1 v vs.length vs
  len : vs.length = ls.length
  each : ∀ (j : Nat) (u : Value) (cs : List C), vs[j]? = some u → ls[j]? = some cs → Own w base u cs
  apart : vs.Pairwise fun (a b : Value) => a.ownBlock = none ∨ a.ownBlock ≠ b.ownBlock
  off : ∀ u, u ∈ vs → u.ownBlock = none ∨ u.ownBlock ≠ v.ownBlock
theorem row_belowS {w w' : World} {B e sz n : Nat} {v : Value} {xs : List Value} (h : w.ownsRow B e sz v n xs) (hb : Below w.heap.size w w') : w'.ownsRow B e sz v n xs := by
  refine h.kept (row := none) ⟨hb.os, hb.tape, hb.output, hb.size, fun k hk _ => hb.block k hk⟩ ?_
  cases v.ownBlock <;> simp
section
variable {w w' : World} {base : Nat} {v : Value} {vs : List Value} {ls : L2}
theorem OwnV.below (h : OwnV w base v vs ls) (hb : Below w.heap.size w w') : OwnV w' base v vs ls :=
  ⟨row_belowS h.row hb, h.len, fun j u cs h1 h2 => (h.each j u cs h1 h2).below hb, h.apart, h.off⟩
theorem OwnV.mono {base' : Nat} (h : OwnV w base v vs ls) (hb : base' ≤ base) : OwnV w base' v vs ls :=
  ⟨⟨h.row.1, h.row.2.imp id fun ⟨g, cap, cur, e, hg, r⟩ => ⟨g, cap, cur, e, Nat.le_trans hb hg, r⟩⟩, h.len, fun j u cs h1 h2 => (h.each j u cs h1 h2).mono hb, h.apart, h.off⟩
theorem OwnV.nil (w : World) (base : Nat) : OwnV w base (.slice none 0 0) [] [] :=
  ⟨World.ownsRow_nil _ _ _ _, rfl, fun j u cs h => by simp at h, List.Pairwise.nil, fun u h => by cases h⟩
theorem OwnV.has (h : OwnV w base v vs ls) {u : Value} (hu : u ∈ vs) : ∃ cs, cs ∈ ls ∧ Own w base u cs := by
  obtain ⟨j, hj, rfl⟩ := List.getElem_of_mem hu
  have hj' : j < ls.length := by rw [← h.len]; exact hj
  exact ⟨ls[j], List.getElem_mem hj', h.each j _ _ (List.getElem?_eq_getElem hj) (List.getElem?_eq_getElem hj')⟩
theorem OwnV.one (h : OwnV w base v vs ls) : ∀ u ∈ vs, u.oneCell' = true := by
  intro u hu
  obtain ⟨cs, _, ho⟩ := h.has hu
  obtain ⟨A, cap, rfl, _, _⟩ := ho.form
  rfl
theorem OwnV.lt (h : OwnV w base v vs ls) : ∀ k, v.ownBlock = some k → base ≤ k ∧ k < w.heap.size := World.ownsRow.lt h.row
theorem OwnV.lt_in (h : OwnV w base v vs ls) {u : Value} (hu : u ∈ vs) : ∀ k, u.ownBlock = some k → base ≤ k ∧ k < w.heap.size := by
  obtain ⟨cs, _, ho⟩ := h.has hu
  exact ho.lt
theorem OwnV.form (h : OwnV w base v vs ls) : ∃ A cap, v = .slice A ls.length cap ∧ ShapesAt w A ls.length ls ∧ ls.length ≤ maxLen ∧ ls.length ≤ cap := by
  have hrow := h.row
  rw [h.len] at hrow
  rcases hrow.2 with ⟨rfl, h0⟩ | ⟨g, cap, cur, rfl, _, hg, hle, hm, _⟩
  · have : ls = [] := List.eq_nil_of_length_eq_zero h0
    subst this
    exact ⟨none, 0, rfl, ShapesAt.none_, Nat.zero_le _, Nat.le_refl _⟩
  · refine ⟨_, _, rfl, ⟨rfl, fun hn => ⟨g, 0, rfl, (Array.getElem?_eq_some_iff.1 hg).1, fun j hj => ?_⟩⟩, by omega, hle⟩
    have h1 := World.ownsRow.cellAt hrow j (by omega)
    have hv : j < vs.length := by rw [h.len]; exact hj
    have e1 := List.getElem?_eq_getElem hv
    have e2 := List.getElem?_eq_getElem hj
    obtain ⟨A, c, e, hr, _⟩ := (h.each j _ _ e1 e2).form
    rw [e1, e] at h1
    simp only [Nat.zero_add]
    refine ⟨A, _, c, h1, ?_⟩
    rw [show ls.getD j [] = ls[j] by simp [hj]]
    exact hr
theorem ownV_shapes {n cap : Nat} {A : Option Addr} (h : OwnV w base (.slice A n cap) vs ls) : ShapesAt w A n ls := by
  obtain ⟨A', cap', e, hr, _⟩ := h.form
  injection e with e1 e2 _
  subst e1 e2
  exact hr
/-- other rows turn -/
theorem OwnV.kept {row : Option Nat} (h : OwnV w base v vs ls) (hg : w.grownBy w' row) (h1 : v.ownBlock = none ∨ v.ownBlock ≠ row) (h2 : ∀ u, u ∈ vs → u.ownBlock = none ∨ u.ownBlock ≠ row) : OwnV w' base v vs ls :=
  ⟨h.row.kept hg h1, h.len, fun j u cs e1 e2 => (h.each j u cs e1 e2).kept hg (h2 u (List.mem_of_getElem? e1)), h.apart, h.off⟩
theorem OwnV.kept_far {row : Option Nat} (h : OwnV w base v vs ls) (hg : w.grownBy w' row) (hr : ∀ k, row = some k → k < base ∨ w.heap.size ≤ k) : OwnV w' base v vs ls := by
  refine h.kept hg ?_ fun u hu => ?_
  · cases hv : v.ownBlock with
    | none => exact Or.inl rfl
    | some k => exact Or.inr fun e => by have := h.lt k hv; have := hr k e.symm; omega
  · cases hv : u.ownBlock with
    | none => exact Or.inl rfl
    | some k => exact Or.inr fun e => by have := h.lt_in hu k hv; have := hr k e.symm; omega
/-- one of the inner rows turns -/
theorem OwnV.turned (h : OwnV w base v vs ls) {j : Nat} {u : Value} {cs : List C} (hj : vs[j]? = some u) (ho : Own w' base u cs) (hg : w.grownBy w' u.ownBlock) : OwnV w' base v vs (ls.set j cs) := by
  have hjl : j < vs.length := (List.getElem?_eq_some_iff.1 hj).1
  have hju : u = vs[j] := (List.getElem?_eq_some_iff.1 hj).2.symm
  have hsy : ∀ (i : Nat) (x : Value), vs[i]? = some x → i ≠ j → x.ownBlock = none ∨ x.ownBlock ≠ u.ownBlock := by
    intro i x hx hne
    have hil : i < vs.length := (List.getElem?_eq_some_iff.1 hx).1
    have hxi : x = vs[i] := (List.getElem?_eq_some_iff.1 hx).2.symm
    rw [hxi, hju]
    rcases Nat.lt_or_ge i j with hij | hij
    · exact List.pairwise_iff_getElem.1 h.apart i j hil hjl hij
    · rcases List.pairwise_iff_getElem.1 h.apart j i hjl hil (by omega) with e | e
      · cases hb : vs[i].ownBlock with
        | none => exact Or.inl rfl
        | some k => exact Or.inr (by rw [e]; simp)
      · exact Or.inr fun e' => e e'.symm
  refine ⟨h.row.kept hg ?_, by simpa using h.len, fun i x ds e1 e2 => ?_, h.apart, h.off⟩
  · rcases h.off u (List.mem_of_getElem? hj) with e | e
    · rw [e]; cases v.ownBlock <;> simp
    · exact Or.inr fun e' => e e'.symm
  · by_cases hij : i = j
    · subst hij
      rw [hj] at e1
      injection e1 with e1
      subst e1
      rw [List.getElem?_set_self (by rw [← h.len]; exact hjl)] at e2
      injection e2 with e2
      subst e2
      exact ho
    · rw [List.getElem?_set_ne (by omega)] at e2
      exact (h.each i x ds e1 e2).kept hg (hsy i x e1 hij)
end

/-! ### The values of a row -/
/-- the value reads as these cells -/
def Reads (w : World) (u : Value) (cs : List C) : Prop := ∃ B m c, u = .slice B m c ∧ CellsAt w B m cs
theorem Reads.below {w w' : World} {u : Value} {cs : List C} (h : Reads w u cs) (hb : Below w.heap.size w w') : Reads w' u cs := by
  obtain ⟨B, m, c, e, r⟩ := h
  exact ⟨B, m, c, e, r.below hb⟩
theorem Reads.one {w : World} {u : Value} {cs : List C} (h : Reads w u cs) : u.oneCell' = true := by
  obtain ⟨B, m, c, rfl, _⟩ := h
  rfl
def AllRead (w : World) (vs : List Value) (ls : L2) : Prop := vs.length = ls.length ∧ ∀ (j : Nat) (u : Value) (cs : List C), vs[j]? = some u → ls[j]? = some cs → Reads w u cs
theorem AllRead.below {w w' : World} {vs : List Value} {ls : L2} (h : AllRead w vs ls) (hb : Below w.heap.size w w') : AllRead w' vs ls := ⟨h.1, fun j u cs e1 e2 => (h.2 j u cs e1 e2).below hb⟩
theorem AllRead.one {w : World} {vs : List Value} {ls : L2} (h : AllRead w vs ls) : ∀ u, u ∈ vs → u.oneCell' = true := by
  intro u hu
  obtain ⟨j, hj, rfl⟩ := List.getElem_of_mem hu
  exact (h.2 j _ _ (List.getElem?_eq_getElem hj) (List.getElem?_eq_getElem (by rw [← h.1]; exact hj))).one
theorem AllRead.put {w : World} {vs : List Value} {ls : L2} {u : Value} {cs : List C} (h : AllRead w vs ls) (hu : Reads w u cs) (k : Nat) (hk : k ≤ ls.length) : AllRead w (vs.take k ++ u :: vs.drop k) (ls.take k ++ cs :: ls.drop k) := by
  have hl := h.1
  refine ⟨by simp; omega, fun j x ds e1 e2 => ?_⟩
  by_cases h1 : j < k
  · rw [List.getElem?_append_left (by simp; omega), List.getElem?_take, if_pos h1] at e1 e2
    exact h.2 j x ds e1 e2
  · rw [List.getElem?_append_right (by simp; omega), List.length_take, show j - min k vs.length = j - k by omega] at e1
    rw [List.getElem?_append_right (by simp; omega), List.length_take, show j - min k ls.length = j - k by omega] at e2
    by_cases h2 : j = k
    · subst h2
      simp at e1 e2
      subst e1 e2
      exact hu
    · rw [show j - k = (j - k - 1) + 1 by omega, List.getElem?_cons_succ, List.getElem?_drop] at e1 e2
      exact h.2 (k + (j - k - 1)) x ds e1 e2
theorem ShapesAt.vals {w : World} {A : Option Addr} {n : Nat} {ls : L2} (h : ShapesAt w A n ls) : ∃ vs, AllRead w vs ls ∧
    (0 < n → ∃ b o, A = some ⟨b, o, none⟩ ∧ b < w.heap.size ∧ ∀ (j : Nat) (u : Value), vs[j]? = some u → w.cell? ⟨b, o + j, none⟩ = some u) := by
  by_cases hn : 0 < n
  · obtain ⟨b, o, e, hlt, hc⟩ := h.2 hn
    obtain ⟨f, hf⟩ := Deep.choose_lt (n := n) (p := fun j u => w.cell? ⟨b, o + j, none⟩ = some u ∧ Reads w u (ls.getD j [])) (fun j hj => by
      obtain ⟨Aj, nj, cj, h1, h2⟩ := hc j hj
      exact ⟨_, h1, _, _, _, rfl, h2⟩)
    refine ⟨(List.range n).map f, ⟨by simp [h.1], fun j u cs e1 e2 => ?_⟩, fun _ => ⟨b, o, e, hlt, fun j u e1 => ?_⟩⟩
    · have hj := (List.getElem?_eq_some_iff.1 e2).1
      rw [h.1] at hj
      simp [hj] at e1
      have := (hf j hj).2
      rw [e1, show ls.getD j [] = cs by simp [List.getD_eq_getElem?_getD, e2]] at this
      exact this
    · have hj : j < n := by have := (List.getElem?_eq_some_iff.1 e1).1; simpa using this
      simp [hj] at e1
      rw [← e1]
      exact (hf j hj).1
  · have : ls = [] := List.eq_nil_of_length_eq_zero (by rw [h.1]; omega)
    subst this
    exact ⟨[], ⟨rfl, fun j u cs e1 => by simp at e1⟩, fun h0 => absurd h0 hn⟩
theorem shapes_of_row {w : World} {base n : Nat} {v : Value} {vs : List Value} {ls : L2} (h : w.ownsRow base 24 1 v n vs) (hn : ls.length = n) (hr : AllRead w vs ls) :
    ∃ A cap, v = .slice A n cap ∧ ShapesAt w A n ls ∧ n ≤ cap ∧ cap ≤ maxLen := by
  rcases h.2 with ⟨rfl, h0⟩ | ⟨g, cap, cur, rfl, _, hg, hle, hm, _⟩
  · have : ls = [] := List.eq_nil_of_length_eq_zero (by omega)
    subst this
    subst h0
    exact ⟨none, 0, rfl, ShapesAt.none_, Nat.le_refl _, Nat.zero_le _⟩
  · refine ⟨_, _, rfl, ⟨hn, fun h0 => ⟨g, 0, rfl, (Array.getElem?_eq_some_iff.1 hg).1, fun j hj => ?_⟩⟩, hle, hm⟩
    have hv : j < vs.length := by rw [hr.1, hn]; exact hj
    have h1 := World.ownsRow.cellAt h j (by omega)
    have hl : j < ls.length := by omega
    obtain ⟨B, m, c, e, r⟩ := hr.2 j _ _ (List.getElem?_eq_getElem hv) (List.getElem?_eq_getElem hl)
    rw [List.getElem?_eq_getElem hv, e] at h1
    simp only [Nat.zero_add]
    refine ⟨B, m, c, h1, ?_⟩
    rw [show ls.getD j [] = ls[j] by simp [hl]]
    exact r

/-! ### Comparing -/
def EqPostS (ls ms : L2) (w : World) (e : Ending) (w' : World) : Prop := e = .returned (.bool (decide (ls = ms))) ∧ Below w.heap.size w w'
theorem take_eq_nextS {ls ms : L2} {k : Nat} {x : List C} (h : ls.take k = ms.take k) (h1 : ls[k]? = some x) (h2 : ms[k]? = some x) : Hid (ls.take (k + 1) = ms.take (k + 1)) := by
  show _ = _
  rw [take_next h1, take_next h2, h]
theorem ne_atS {ls ms : L2} {k : Nat} {x y : List C} (h1 : ls[k]? = some x) (h2 : ms[k]? = some y) (hne : x ≠ y) : ls ≠ ms := by
  rintro rfl
  rw [h1] at h2
  exact hne (Option.some.inj h2)
def shortS (ls : L2) : Prop := ∀ cs, cs ∈ ls → cs.length ≤ 1048576


/-! ### Marking -/
def totS : L2 → Nat
  | [] => 0
  | c :: r => c.length + totS r
def marksS (k : Int) : L2 → L2
  | [] => []
  | c :: r => marks k c.length :: marksS (k + 2 * (c.length : Int)) r
theorem totS_append : ∀ (a b : L2), totS (a ++ b) = totS a + totS b
  | [], b => by simp [totS]
  | c :: r, b => by simp [totS, totS_append r b]; omega
theorem marksS_append : ∀ (k : Int) (a b : L2), marksS k (a ++ b) = marksS k a ++ marksS (k + 2 * (totS a : Int)) b
  | k, [], b => by simp [marksS, totS]
  | k, c :: r, b => by
    have e : k + 2 * (c.length : Int) + 2 * (totS r : Int) = k + 2 * ((c.length + totS r : Nat) : Int) := by omega
    simp only [List.cons_append, marksS, marksS_append _ r b, totS, e]
theorem marksS_length : ∀ (k : Int) (a : L2), (marksS k a).length = a.length
  | _, [] => rfl
  | k, c :: r => by simp [marksS, marksS_length _ r]
theorem totS_take_next {ls : L2} {j : Nat} {c : List C} (h : ls[j]? = some c) : totS (ls.take (j + 1)) = totS (ls.take j) + c.length := by
  rw [take_next h, totS_append]; simp [totS]
theorem totS_take_le (ls : L2) (j : Nat) : totS (ls.take j) ≤ totS ls := by
  have h := totS_append (ls.take j) (ls.drop j)
  rw [List.take_append_drop] at h; omega
theorem totS_mem {ls : L2} {c : List C} (h : c ∈ ls) : c.length ≤ totS ls := by
  induction ls with
  | nil => cases h
  | cons a r ih =>
    rcases List.mem_cons.1 h with rfl | h
    · simp [totS]
    · have := ih h; simp only [totS]; omega
theorem len_totS {ls : L2} (h : ∀ c, c ∈ ls → 0 < c.length) : ls.length ≤ totS ls := by
  induction ls with
  | nil => simp
  | cons a r ih =>
    have h1 := ih fun c hc => h c (List.mem_cons_of_mem _ hc)
    have h2 := h a (List.mem_cons_self ..)
    simp only [totS, List.length_cons]; omega
def markToS (ls : L2) (k : Int) (j : Nat) : L2 := marksS k (ls.take j) ++ ls.drop j
theorem markToS_zero (ls : L2) (k : Int) : markToS ls k 0 = ls := by simp [markToS, marksS]
theorem markToS_all {ls : L2} {n : Nat} (h : ls.length = n) (k : Int) : markToS ls k n = marksS k ls := by
  unfold markToS; rw [List.take_of_length_le (by omega), List.drop_of_length_le (by omega)]; simp
theorem markToS_get {ls : L2} {j : Nat} {c : List C} (h : ls[j]? = some c) (k : Int) : (markToS ls k j)[j]? = some c := by
  have hj : j < ls.length := (List.getElem?_eq_some_iff.1 h).1
  unfold markToS
  rw [List.getElem?_append_right (by rw [marksS_length]; simp; omega), marksS_length, List.length_take, List.getElem?_drop, show j + (j - min j ls.length) = j by omega]
  exact h
theorem markToS_set {ls : L2} {j : Nat} {c : List C} (h : ls[j]? = some c) (k : Int) : (markToS ls k j).set j (marks (k + 2 * (totS (ls.take j) : Int)) c.length) = markToS ls k (j + 1) := by
  have hj : j < ls.length := (List.getElem?_eq_some_iff.1 h).1
  unfold markToS
  have hl : (marksS k (ls.take j)).length = j := by rw [marksS_length]; simp; omega
  rw [List.set_append_right _ _ (by omega), hl, Nat.sub_self, take_next h, marksS_append, List.append_assoc]
  congr 1
  rw [List.drop_eq_getElem_cons hj]
  rfl
theorem marksS_get {ls : L2} {j : Nat} {c : List C} (h : ls[j]? = some c) (k : Int) : (marksS k ls)[j]? = some (marks (k + 2 * (totS (ls.take j) : Int)) c.length) := by
  have e := markToS_set h k
  have hj : j < ls.length := (List.getElem?_eq_some_iff.1 h).1
  have h1 : (markToS ls k (j + 1))[j]? = some (marks (k + 2 * (totS (ls.take j) : Int)) c.length) := by
    rw [← e, List.getElem?_set_self]
    unfold markToS; simp [marksS_length]; omega
  have h2 : marksS k ls = marksS k (ls.take (j + 1)) ++ marksS (k + 2 * (totS (ls.take (j + 1)) : Int)) (ls.drop (j + 1)) := by
    rw [← marksS_append, List.take_append_drop]
  rw [h2, List.getElem?_append_left (by rw [marksS_length]; simp; omega)]
  unfold markToS at h1
  rwa [List.getElem?_append_left (by rw [marksS_length]; simp; omega)] at h1

/-- what the reference hands back: a list that reads as ls; nothing that was there has turned -/
def SpecL (w : World) (ls : L2) (e : Ending) (w' : World) : Prop := ∃ A cap, e = .returned (.slice A ls.length cap) ∧ (ShapesAt w' A ls.length ls ∧ ls.length ≤ cap ∧ cap ≤ maxLen) ∧ Below w.heap.size w w'
/-- what the program hands back: a list of its own -/
def ImplL (w : World) (ls : L2) (e : Ending) (w' : World) : Prop := ∃ v vs, e = .returned v ∧ OwnV w' w.heap.size v vs ls ∧ Below w.heap.size w w'
end Go.Proofs.YtacegndmclnbnaaGreatDoor
