/- Regions: what the laws do with them (size, copy, comparison, marks); what a region that comes in reads as. Condition: at most 2^20 rows. -/
import Derived.Test.YtpbkpebpidabiaaInts
namespace Go.Proofs.Ytpbkpebpidabiaa
open Go.RowKit Go.ChangeShapes Go.WideShapes

theorem bcell {W w1 : World} (hb : Below W.heap.size W w1) : (∀ b o, b < W.heap.size → w1.cell? ⟨b, o, none⟩ = W.cell? ⟨b, o, none⟩) ∧ (∀ b o, b < W.heap.size → w1.frozen? ⟨b, o, none⟩ = W.frozen? ⟨b, o, none⟩) :=
  ⟨fun b o h => hb.cell (p := ⟨b, o, none⟩) h, fun b o h => hb.frozen (p := ⟨b, o, none⟩) h⟩

theorem box_cell {w w' : World} {cs : Array Value} {t : TypeId} {j : Nat} {v : Value} (hb : Below (w.alloc (.cells cs t)).heap.size (w.alloc (.cells cs t)) w') (h : cs[j]? = some v) : w'.cell? ⟨w.heap.size, j, none⟩ = some v := by
  rw [hb.cell (p := ⟨w.heap.size, j, none⟩) (by simp), cell_of_row _ _ _ _ _ _ (heap_alloc_new w _)]; exact h

def OwnRPost (w : World) (r : Int × List Int) (e : Ending) (w' : World) : Prop := ∃ v, e = .returned (.agg #[.int .i64 r.1, v]) ∧ OwnI w' w.heap.size v r.2 ∧ Below w.heap.size w w'

theorem OwnI.setCell_below {w : World} {base : Nat} {v : Value} {xs : List Int} (h : OwnI w base v xs) {a : Addr} (ha : a.block < base) (u : Value) : OwnI (w.setCell a u) base v xs := ownsRow_setCell_below h ha u

set_option maxHeartbeats 800000 in
theorem toRegion_any (W : Int) (A : Option Addr) (n cap : Nat) (xs : List Int) (w : World) (hn : n ≤ 1048576) (h : IntsAt w A n xs) :
    Calls Try.prog 11 #[.agg #[.int .i64 W, .slice A n cap]] w (OwnRPost w (W, xs)) := by
  go_enter Try.func11, Try.ntmps11
  go_wp2_with fail
  refine (toIntS_any A n cap xs _ hn (h.below (below3 w _ _ _))).mono ?_
  rintro e w1 ⟨v, rfl, hO, hb1⟩
  have hB := (below3 w _ _ _).trans (hb1.mono (below3 w _ _ _).size)
  obtain ⟨A', cap', rfl, _, _⟩ := hO.form
  simp at hO
  obtain ⟨hcl, hfr⟩ := bcell hb1
  have hz := hb1.size
  simp at hz
  clear hb1 h
  go_wp2
  refine bodyPost_ret (v := .agg #[.int .i64 W, .slice A' xs.length cap']) (by simp [results, Try.results11, go_sem, hcl]) rfl ⟨_, rfl, ?_, ?_⟩
  · exact ((hO.setCell_below (by simp) _).setCell_below (by simp) _).setCell_below (by simp) _ |>.mono (by omega)
  · exact ((hB.setCell (by simp; omega) _).setCell (by simp) _).setCell (by simp) _

theorem szRegion_ok (W : Int) (A : Option Addr) (n cap : Nat) (left : Int) (w : World) (h1 : left ≤ 1048576) (hl : (n : Int) ≤ left) :
    Calls Try.prog 9 #[.agg #[.int .i64 W, .slice A n cap], .int .i64 left] w fun e w' => e = .returned (.int .i64 (left - n)) ∧ Below w.heap.size w w' := by
  go_enter Try.func9, Try.ntmps9
  go_wp2_with (go_at_call 26; refine (szIntS_ok _ _ _ _ _ h1 hl).mono ?_; rintro e w1 ⟨rfl, rfl⟩)
  go_ret
  exact ⟨rfl, below_alloc _ _⟩
theorem szRegion_big (W : Int) (A : Option Addr) (n cap : Nat) (left : Int) (w : World) (h0 : 0 ≤ left) (h1 : left ≤ 1048576) (hn : n ≤ 9223372036854775807) (hl : left < (n : Int)) :
    Calls Try.prog 9 #[.agg #[.int .i64 W, .slice A n cap], .int .i64 left] w fun e w' => e = .returned (.int .i64 (-1)) ∧ Below w.heap.size w w' := by
  go_enter Try.func9, Try.ntmps9
  go_wp2_with (go_at_call 26; refine (szIntS_big _ _ _ _ _ h0 h1 hn hl).mono ?_; rintro e w1 ⟨rfl, rfl⟩)
  go_ret
  exact ⟨rfl, below_alloc _ _⟩

def EqPostR (r s : Int × List Int) (w : World) (e : Ending) (w' : World) : Prop := e = .returned (.bool (decide (r = s))) ∧ Below w.heap.size w w'
theorem eqRegion_any (W V : Int) (A B : Option Addr) (n m cap cap' : Nat) (xs ys : List Int) (w : World) (hn : n ≤ 1048576) (h : IntsAt w A n xs) (g : IntsAt w B m ys) :
    Calls Try.prog 13 #[.agg #[.int .i64 W, .slice A n cap], .agg #[.int .i64 V, .slice B m cap']] w (EqPostR (W, xs) (V, ys) w) := by
  by_cases hW : W = V
  · subst hW
    have e1 : (W != W) = false := by simp
    go_enter Try.func13, Try.ntmps13
    go_wp2_with fail
    refine (eqIntS_any A B n m cap cap' xs ys _ hn (h.below (below2 w _ _)) (g.below (below2 w _ _))).mono ?_
    rintro e w1 ⟨rfl, hb⟩
    have hB := (below2 w _ _).trans (hb.mono (below2 w _ _).size)
    clear hb h g
    by_cases hx : xs = ys
    · have hd : decide (xs = ys) = true := by simpa using hx
      have HX := Lib.hid hx
      clear hx
      go_wp2
      go_ret
      exact ⟨ret_bool (by simp [HX.out]), hB⟩
    · have hd : decide (xs = ys) = false := by simpa using hx
      have HX := Lib.hid hx
      clear hx
      go_wp2
      go_ret
      exact ⟨ret_bool (by simp [HX.out]), hB⟩
  · have e1 : (W != V) = true := by simpa using hW
    have HX := Lib.hid hW
    clear hW
    go_enter Try.func13, Try.ntmps13
    go_wp2
    go_ret
    exact ⟨ret_bool (by simp [HX.out]), below2 w _ _⟩

theorem markRegion_any (W : Int) (v : Value) (xs : List Int) (k : Int) (base : Nat) (w : World) (hn : xs.length ≤ 1048576) (hk : 0 ≤ k ∧ k ≤ 4194304) (h : OwnI w base v xs) :
    Calls Try.prog 16 #[.agg #[.int .i64 W, v], .int .i64 k] w fun e w' => e = .returned (.int .i64 (k + (xs.length : Int))) ∧ OwnI w' base v (marksI k xs.length) ∧ w.grownBy w' v.ownBlock := by
  obtain ⟨A, cap, rfl, _, _⟩ := h.form
  go_enter Try.func16, Try.ntmps16
  go_wp2_with fail
  refine (markIntS_any _ xs k base _ hn hk (h.below (below_alloc w _))).mono ?_
  rintro e w1 ⟨rfl, hO, hg⟩
  go_wp2
  go_ret
  exact ⟨rfl, hO, (World.grownBy_alloc w _ _).trans hg⟩
theorem heldRegion_any (W : Int) (A : Option Addr) (n cap : Nat) (k : Int) (w : World) (hn : n ≤ 1048576) (hk : 0 ≤ k ∧ k ≤ 4194304) (h : IntsAt w A n (marksI k n)) :
    Calls Try.prog 17 #[.agg #[.int .i64 W, .slice A n cap], .int .i64 k] w fun e w' => e = .returned (.int .i64 (k + (n : Int))) ∧ Below w.heap.size w w' := by
  go_enter Try.func17, Try.ntmps17
  go_wp2_with fail
  refine (heldIntS_any A n cap k _ hn hk (h.below (below_alloc w _))).mono ?_
  rintro e w1 ⟨rfl, rfl⟩
  go_wp2
  go_ret
  exact ⟨rfl, below_alloc _ _⟩

/-- a region comes in -/
def RegArg (w : World) (v : Value) (r : Int × List Int) : Prop := ∃ A n cap, v = .agg #[.int .i64 r.1, .slice A n cap] ∧ n ≤ maxLen ∧ (Lit.int .i64 r.1).wf = true ∧ IntsAt w A n r.2
theorem open_region {H : Type} {enc : TypeId × Value → H} {w : World} {r : Reach} {b0 base : Nat} {held : Bool} {v : Value} {d : DataW H} {p : List MemPlace}
    (hv : Value.okWide Try.prog w r b0 24 v) (h : DataW.Trod enc Try.prog w base (fun _ => true) held 24 v d p) : ∃ x, RegArg w v x := by
  obtain ⟨v0, v1, y0, y1, n, rfl, _, _, t0, t1⟩ := Joins.open_agg2 Try.underlying24 (by kernel_rfl) (by kernel_rfl) hv h
  obtain ⟨W, e0, _, hw⟩ := DataW.trod_int Try.underlying3 t0
  injection e0 with e0 _
  subst e0
  rcases open_ints Try.underlying22 Try.underlying3 Try.cellsI t1 with ⟨hcs, hx⟩ | ⟨a, len, cap', zs, hcs, _, hl, hm, hz, hx, hcell, hwz⟩
  · injection hcs with hcs _
    subst hcs
    exact ⟨(W, []), none, 0, 0, rfl, by unfold maxLen; omega, hw, IntsAt.none_⟩
  · injection hcs with hcs _
    subst hcs
    simp only [if_true] at hz
    refine ⟨(W, zs.take len), some a, len, cap', rfl, by omega, hw, by simp; omega, fun hn => ?_⟩
    obtain ⟨b, off, spot⟩ := a
    have hspot : spot = none := by simpa [Addr.add] using World.cell?_spot (hcell 0 (by omega))
    subst hspot
    have hadd : ∀ j, (⟨b, off, none⟩ : Addr).add j = ⟨b, off + j, none⟩ := fun j => by unfold Addr.add; split <;> simp_all
    refine ⟨b, off, rfl, World.block_lt_of_cell? w _ (by have := hcell 0 (by omega); rw [hadd] at this; exact this), fun j hj => ?_⟩
    have h := hcell j (by omega)
    rw [hadd] at h
    rw [h]
    simp [List.getD_eq_getElem?_getD, hj]
end Go.Proofs.Ytpbkpebpidabiaa
