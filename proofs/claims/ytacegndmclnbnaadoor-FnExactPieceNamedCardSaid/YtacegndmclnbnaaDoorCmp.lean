/- CompareShapes, the program's and the reference's: contracts. Condition: slices of at most 2^20 cells. -/
import Derived.Test.YtacegndmclnbnaaDoorEq
namespace Go.Proofs.YtacegndmclnbnaaDoor
open Go.RowKit

def cmpL : List C → List C → Int
  | a :: r, b :: s => if bef a b = true then -1 else if bef b a = true then 1 else cmpL r s
  | _, _ => 0
def cmpC (cs ds : List C) : Int := if cs.length < ds.length then -1 else if ds.length < cs.length then 1 else cmpL cs ds
theorem cmpL_at {cs ds : List C} {k : Nat} {a b : C} (h : cs[k]? = some a) (g : ds[k]? = some b) :
    cmpL (cs.drop k) (ds.drop k) = if bef a b = true then -1 else if bef b a = true then 1 else cmpL (cs.drop (k + 1)) (ds.drop (k + 1)) := by
  obtain ⟨hk, rfl⟩ := List.getElem?_eq_some_iff.1 h
  obtain ⟨gk, rfl⟩ := List.getElem?_eq_some_iff.1 g
  rw [List.drop_eq_getElem_cons hk, List.drop_eq_getElem_cons gk]
  rfl
theorem cmpL_end {cs ds : List C} {k : Nat} (h : cs.length ≤ k) : cmpL (cs.drop k) (ds.drop k) = 0 := by
  rw [List.drop_eq_nil_of_le h]; rfl
theorem bef_irrefl (a : C) : bef a a = false := by
  cases h : bef a a with
  | false => rfl
  | true => rw [bef_iff] at h; omega
theorem bef_total {a b : C} (h : bef a b = false) (k : bef b a = false) : a = b := by
  have h' : ¬ (a.2 < b.2 ∨ (a.2 = b.2 ∧ a.1 < b.1)) := by rw [← bef_iff, h]; simp
  have k' : ¬ (b.2 < a.2 ∨ (b.2 = a.2 ∧ b.1 < a.1)) := by rw [← bef_iff, k]; simp
  exact Prod.ext (by omega) (by omega)
theorem bef_asymm {a b : C} (h : bef a b = true) : bef b a = false := by
  cases k : bef b a with
  | false => rfl
  | true => rw [bef_iff] at h k; omega

theorem run_neq_cell {p q p' q' : Int} (h : (p, q) ≠ (p', q')) (W : World) :
    (binOp .neq 50 (.agg #[.int .i64 p, .int .i64 q]) (.agg #[.int .i64 p', .int .i64 q'])).run Tryd.prog W = .ok (.bool true) W := by
  by_cases hp : p = p'
  · subst hp
    have hq : ¬ q = q' := fun e => h (by rw [e])
    go_simp
  · go_simp

def CmpPost (cs ds : List C) (w : World) (e : Ending) (w' : World) : Prop := e = .returned (.int .i64 (cmpC cs ds)) ∧ Below w.heap.size w w'

end Go.Proofs.YtacegndmclnbnaaDoor
