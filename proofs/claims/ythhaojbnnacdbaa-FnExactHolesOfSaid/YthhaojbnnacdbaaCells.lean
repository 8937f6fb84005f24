/- Cells in memory: what it is that a slice of cells reads as a list of pairs; worlds that came later; a region that draws its order and whose calls make memory. -/
import Derived.Test.YthhaojbnnacdbaaRows
import Derived.WalkKit
import Derived.WalkSpells
import Derived.WalkLawsBesides
import Derived.BigQuiet
import Derived.Deep.QuietTactic
import Derived.Deep.RegionHeld3
import Derived.Deep.AppendLies
import Derived.Lib.Hide
namespace Go.Proofs.Ythhaojbnnacdbaa
open Go.RowKit

abbrev C := Int × Int

/-- The slice value with address A and length n reads, in the world w, as the cells cs. -/
def CellsAt (w : World) (A : Option Addr) (n : Nat) (cs : List C) : Prop :=
  cs.length = n ∧ (0 < n → ∃ b o, A = some ⟨b, o, none⟩ ∧ b < w.heap.size ∧
    ∀ j, j < n → w.cell? ⟨b, o + j * 2, none⟩ = some (.int .i64 (cs.getD j (0, 0)).1) ∧ w.cell? ⟨b, o + j * 2 + 1, none⟩ = some (.int .i64 (cs.getD j (0, 0)).2))

section
variable {w w' : World} {A : Option Addr} {n : Nat} {cs : List C}
theorem CellsAt.below (h : CellsAt w A n cs) (hb : Below w.heap.size w w') : CellsAt w' A n cs :=
  ⟨h.1, fun hn => by
    obtain ⟨b, o, e, hlt, hc⟩ := h.2 hn
    exact ⟨b, o, e, Nat.lt_of_lt_of_le hlt hb.size, fun j hj => ⟨(hb.cell (p := ⟨b, o + j * 2, none⟩) hlt).trans (hc j hj).1, (hb.cell (p := ⟨b, o + j * 2 + 1, none⟩) hlt).trans (hc j hj).2⟩⟩⟩
theorem CellsAt.at_ (h : CellsAt w A n cs) {k : Nat} (hk : k < n) : ∃ b o x y, A = some ⟨b, o, none⟩ ∧ b < w.heap.size ∧ Hid (cs[k]? = some (x, y)) ∧
    w.cell? ⟨b, o + k * 2, none⟩ = some (.int .i64 x) ∧ w.cell? ⟨b, o + k * 2 + 1, none⟩ = some (.int .i64 y) := by
  obtain ⟨b, o, e, hlt, hc⟩ := h.2 (by omega)
  have hl : k < cs.length := by rw [h.1]; exact hk
  have he : cs[k]? = some cs[k] := List.getElem?_eq_getElem hl
  have hg : cs.getD k (0, 0) = cs[k] := by simp [hl]
  refine ⟨b, o, cs[k].1, cs[k].2, e, hlt, he, ?_, ?_⟩
  · rw [← hg]; exact (hc k hk).1
  · rw [← hg]; exact (hc k hk).2
theorem CellsAt.two (h : CellsAt w A n cs) {k : Nat} (hk : k < n) (h0 : 0 < k) : ∃ b o x y x' y', A = some ⟨b, o, none⟩ ∧ b < w.heap.size ∧ Hid (cs[k - 1]? = some (x, y)) ∧ Hid (cs[k]? = some (x', y')) ∧
    w.cell? ⟨b, o + (k - 1) * 2, none⟩ = some (.int .i64 x) ∧ w.cell? ⟨b, o + (k - 1) * 2 + 1, none⟩ = some (.int .i64 y) ∧
    w.cell? ⟨b, o + k * 2, none⟩ = some (.int .i64 x') ∧ w.cell? ⟨b, o + k * 2 + 1, none⟩ = some (.int .i64 y') := by
  obtain ⟨b, o, x, y, e, hlt, hk1, c1, c2⟩ := h.at_ (k := k - 1) (by omega)
  obtain ⟨b', o', x', y', e', _, hk2, c1', c2'⟩ := h.at_ (k := k) hk
  rw [e] at e'
  injection e' with e'
  injection e' with e1 e2 _
  subst e1 e2
  exact ⟨b, o, x, y, x', y', e, hlt, hk1, hk2, c1, c2, c1', c2'⟩
theorem CellsAt.none_ : CellsAt w A 0 [] := ⟨rfl, fun h => absurd h (by omega)⟩
end

theorem below_drewN {B : Nat} {a w : World} (h : Below B a w) (n : Nat) : Below B a (w.drewN n) := h.trans ⟨rfl, rfl, rfl, Nat.le_refl _, fun _ _ => rfl⟩

/-- The worlds that leave all that w holds as it is. -/
def Later (w : World) := {w' : World // Below w.heap.size w w'}
instance later_nonempty (w : World) : Nonempty (Later w) := ⟨⟨w, Below.refl _ _⟩⟩
theorem wp_region_later {P : Program} {id : Nat} {Q : Exit → Act → World → Prop} {a : Act} {w : World} {l : List Oper} (hm : P.follows .mixedOrders = true) (hB : Region.lexB .any l.toArray = true)
    (h : wpQuiet P l.toArray (fun w' => ∃ x : Later w, w' = x.1) (fun a' => ∀ w', (∃ x : Later w, w' = x.1) → Q .normal a' w') l a) : (Code.region id l.toArray true).wp P Q a w :=
  wp_region_quiet (C := fun w' => ∃ x : Later w, w' = x.1) hm hB ⟨⟨w.drew, (Below.refl _ _).drew⟩, rfl⟩ (by simpa using h)
theorem later_below {w w' : World} {x : Later w} (h : w' = x.1) : Below w.heap.size w w' := h ▸ x.2
theorem cell_on {w w' : World} {b o : Nat} {v : Value} (hb : Below w.heap.size w w') (hlt : b < w.heap.size) (h : w.cell? ⟨b, o, none⟩ = some v) : w'.cell? ⟨b, o, none⟩ = some v := (hb.cell (p := ⟨b, o, none⟩) hlt).trans h
theorem later_cell {w : World} {b o : Nat} {v : Value} (hlt : b < w.heap.size) (h : w.cell? ⟨b, o, none⟩ = some v) : ∀ x : Later w, x.1.cell? ⟨b, o, none⟩ = some v :=
  fun x => (x.2.cell (p := ⟨b, o, none⟩) hlt).trans h
theorem below_alloc (w : World) (o : Obj) : Below w.heap.size w (w.alloc o) := (Below.refl _ _).alloc (Nat.le_refl _) _
theorem later_box {w : World} {cs : Array Value} {t : TypeId} {j : Nat} {v : Value} (h : cs[j]? = some v) : ∀ x : Later (w.alloc (.cells cs t)), x.1.cell? ⟨w.heap.size, j, none⟩ = some v :=
  later_cell (w := w.alloc (.cells cs t)) (by simp) (by rw [cell_of_row _ _ _ _ _ _ (heap_alloc_new w _)]; exact h)
theorem later_old {w : World} {ob : Obj} {b o : Nat} {v : Value} (hlt : b < w.heap.size) (h : w.cell? ⟨b, o, none⟩ = some v) : ∀ x : Later (w.alloc ob), x.1.cell? ⟨b, o, none⟩ = some v :=
  later_cell (Nat.lt_of_lt_of_le hlt (below_alloc w ob).size) (cell_on (below_alloc w ob) hlt h)
theorem Calls.later {P : Program} {f : FuncId} {args : Array Value} {w : World} {x : Later w} {v : Value}
    (h : Calls P f args x.1 fun e w' => e = .returned v ∧ Below x.1.heap.size x.1 w') : Calls P f args x.1 fun e w'' => e = .returned v ∧ ∃ y : Later w, w'' = y.1 :=
  h.mono fun _ _ ⟨he, hb⟩ => ⟨he, ⟨_, x.2.trans (hb.mono x.2.size)⟩, rfl⟩
theorem Calls.later_same {P : Program} {f : FuncId} {args : Array Value} {w : World} {x : Later w} {v : Value}
    (h : Calls P f args x.1 fun e w' => e = .returned v ∧ x.1 = w') : Calls P f args x.1 fun e w'' => e = .returned v ∧ ∃ y : Later w, w'' = y.1 :=
  h.mono fun _ _ ⟨he, hb⟩ => ⟨he, x, hb.symm⟩

theorem take_next {α : Type} {l : List α} {k : Nat} {x : α} (h : l[k]? = some x) : l.take (k + 1) = l.take k ++ [x] := by
  rw [List.take_add_one, h]; rfl

/-! ### A row of the call's own -/
def flat (cs : List C) : List Value := cs.flatMap fun c => [.int .i64 c.1, .int .i64 c.2]
theorem flat_append (a b : List C) : flat (a ++ b) = flat a ++ flat b := List.flatMap_append
theorem flat_length (cs : List C) : (flat cs).length = cs.length * 2 := by
  induction cs with
  | nil => rfl
  | cons c r ih => simp only [flat, List.flatMap_cons, List.length_append] at *; rw [ih]; simp; omega
theorem flat_get (cs : List C) : ∀ (k : Nat), (flat cs)[k * 2]? = cs[k]?.map (fun c => .int .i64 c.1) ∧ (flat cs)[k * 2 + 1]? = cs[k]?.map (fun c => .int .i64 c.2) := by
  induction cs with
  | nil => intro k; simp [flat]
  | cons c r ih =>
    intro k
    cases k with
    | zero => exact ⟨rfl, rfl⟩
    | succ k =>
      have h := ih k
      have e1 : (k + 1) * 2 = k * 2 + 1 + 1 := by omega
      rw [e1]
      exact h
theorem flat_set (cs : List C) : ∀ (k : Nat) (c : C), ((flat cs).set (k * 2) (.int .i64 c.1)).set (k * 2 + 1) (.int .i64 c.2) = flat (cs.set k c) := by
  induction cs with
  | nil => intro k c; simp [flat]
  | cons d r ih =>
    intro k c
    cases k with
    | zero => rfl
    | succ k =>
      have h := ih k c
      have e1 : (k + 1) * 2 = k * 2 + 1 + 1 := by omega
      rw [e1]
      simp only [flat, List.flatMap_cons, List.cons_append, List.nil_append, List.set_cons_succ] at h ⊢
      rw [h]
theorem flat_one : ∀ {cs : List C}, ∀ u ∈ flat cs, u.oneCell' = true := by
  intro cs u hu
  simp only [flat, List.mem_flatMap] at hu
  obtain ⟨c, _, h⟩ := hu
  rcases List.mem_cons.1 h with rfl | h
  · rfl
  · rcases List.mem_cons.1 h with rfl | h
    · rfl
    · cases h

/-- A row of cells that the call owns. -/
def Own (w : World) (base : Nat) (v : Value) (cs : List C) : Prop := w.ownsRow base 58 2 v cs.length (flat cs)
section
variable {w w' : World} {base : Nat} {v : Value} {cs : List C}
theorem Own.form (h : Own w base v cs) : ∃ A cap, v = .slice A cs.length cap ∧ CellsAt w A cs.length cs ∧ cs.length ≤ maxLen := by
  rcases h.2 with ⟨rfl, h0⟩ | ⟨g, cap, cur, rfl, _, hg, hle, hm, _⟩
  · have : cs = [] := List.eq_nil_of_length_eq_zero h0
    subst this
    exact ⟨none, 0, rfl, CellsAt.none_, Nat.zero_le _⟩
  · refine ⟨_, _, rfl, ⟨rfl, fun hn => ⟨g, 0, rfl, (Array.getElem?_eq_some_iff.1 hg).1, fun j hj => ?_⟩⟩, by omega⟩
    have h1 := World.ownsRow.cellAt h (j * 2) (by omega)
    have h2 := World.ownsRow.cellAt h (j * 2 + 1) (by omega)
    have hf := flat_get cs j
    have he : cs[j]? = some (cs.getD j (0, 0)) := by simp [hj]
    rw [hf.1, he] at h1
    rw [hf.2, he] at h2
    simp only [Nat.zero_add]
    exact ⟨h1, h2⟩
theorem Own.below (h : Own w base v cs) (hb : Below w.heap.size w w') : Own w' base v cs := by
  refine h.kept (row := none) ⟨hb.os, hb.tape, hb.output, hb.size, fun k hk _ => hb.block k hk⟩ ?_
  cases v.ownBlock <;> simp
theorem Own.mono {base' : Nat} (h : Own w base v cs) (hb : base' ≤ base) : Own w base' v cs :=
  ⟨h.1, h.2.imp id fun ⟨g, cap, cur, e, hg, r⟩ => ⟨g, cap, cur, e, Nat.le_trans hb hg, r⟩⟩
theorem Own.nil (w : World) (base : Nat) : Own w base (.slice none 0 0) [] := World.ownsRow_nil _ _ _ _
theorem Own.lt (h : Own w base v cs) : ∀ k, v.ownBlock = some k → base ≤ k ∧ k < w.heap.size := World.ownsRow.lt h
end
/-- The call hands back a row of its own that reads as cs; nothing that was there has turned. -/
def OwnPost (w : World) (cs : List C) (e : Ending) (w' : World) : Prop := ∃ v, e = .returned v ∧ Own w' w.heap.size v cs ∧ Below w.heap.size w w'

theorem Try.infoC : (Try.prog.info? 58).map (fun i => (i.zero, i.size, i.bytes)) = some (some (.agg #[.int .i64 0, .int .i64 0]), 2, 16) := by kernel_rfl

theorem ret_bool {a b : Bool} (h : a = b) : Ending.returned (.bool a) = .returned (.bool b) := by rw [h]
theorem ret_int {k : IntKind} {a b : Int} (h : a = b) : Ending.returned (.int k a) = .returned (.int k b) := by rw [h]
end Go.Proofs.Ythhaojbnnacdbaa
