/- CornerShape, SizeOf, TurnShape, the program's and the reference's: contracts. Condition: slices of at most 2^20 cells. -/
import Derived.Test.YthhaojbnnacdbaaCorn
import Derived.Test.YthhaojbnnacdbaaComp
namespace Go.Proofs.Ythhaojbnnacdbaa
open Go.RowKit

theorem shape_smallL {cs : List C} (h : isShape cs = true) : smallL cs := by
  intro c hc
  obtain ⟨k, hk, rfl⟩ := List.getElem_of_mem hc
  exact shape_small h (List.getElem?_eq_getElem hk)
def cornerShape (cs : List C) : List C := if isShape cs = true then cornerC cs else []
theorem cornerShape_len (cs : List C) (h : cs.length ≤ 1048576) : (cornerShape cs).length ≤ 1048576 := by
  unfold cornerShape; split
  · rw [cornerC_length]; exact h
  · exact Nat.zero_le _

set_option maxHeartbeats 800000 in
theorem specCornerShape (A : Option Addr) (n cap : Nat) (cs : List C) (w : World) (hn : n ≤ 1048576) (h : CellsAt w A n cs) :
    Calls Try.prog 62 #[.slice A n cap] w (OwnPost w (cornerShape cs)) := by
  have hc := specIsShape A n cap cs w hn h
  cases hs : isShape cs with
  | false =>
    have HR : Hid (cornerShape cs = []) := by show _ = _; unfold cornerShape; rw [hs]; rfl
    rw [hs] at hc
    clear hs
    go_enter Try.func62, Try.ntmps62
    go_wp2_with fail
    refine hc.mono ?_
    rintro e w1 ⟨rfl, hb⟩
    have hE := own_empty w1
    go_wp2
    go_ret
    exact ⟨_, rfl, by rw [HR.out]; exact hE.mono hb.size, hb.trans ((below_alloc _ _).mono hb.size)⟩
  | true =>
    have HR : Hid (cornerShape cs = cornerC cs) := by show _ = _; unfold cornerShape; rw [hs]; rfl
    have HS := Lib.hid hs
    rw [hs] at hc
    clear hs
    go_enter Try.func62, Try.ntmps62
    go_wp2_with fail
    refine hc.mono ?_
    rintro e w1 ⟨rfl, hb⟩
    clear hc
    go_wp2_with fail
    refine (specCorner A n cap cs w1 (shape_smallL HS.out) hn (h.below hb)).mono ?_
    rintro e w2 ⟨v, rfl, hO, hb2⟩
    go_wp2
    go_ret
    exact ⟨_, rfl, by rw [HR.out]; exact hO.mono hb.size, hb.trans (hb2.mono hb.size)⟩

/-! ### SizeOf -/
def extOf (f : C → Int) (cs : List C) : Int := cs.foldl (fun m c => max m (f c + 1)) 0
theorem extOf_next (f : C → Int) {cs : List C} {k : Nat} {c : C} (hk : cs[k]? = some c) : extOf f (cs.take (k + 1)) = max (extOf f (cs.take k)) (f c + 1) := by
  unfold extOf; rw [take_next hk, List.foldl_append]; rfl
def sizeOf_ (cs : List C) : Int × Int := (extOf (·.1) (cornerShape cs), extOf (·.2) (cornerShape cs))
theorem smallL_corner {cs : List C} (h : isShape cs = true) : ∀ c, c ∈ cornerC cs → 0 ≤ c.1 ∧ c.1 ≤ 7 ∧ 0 ≤ c.2 ∧ c.2 ≤ 7 := by
  intro c hc
  unfold cornerC at hc
  rw [movC_mem] at hc
  have e1 : c.1 - -(minOf (·.1) cs) = c.1 + minOf (·.1) cs := by omega
  have e2 : c.2 - -(minOf (·.2) cs) = c.2 + minOf (·.2) cs := by omega
  rw [e1, e2] at hc
  have a1 := minOf_le (·.1) hc
  have a2 := minOf_le (·.2) hc
  simp only at a1 a2
  obtain ⟨k, hk, e⟩ := List.getElem_of_mem hc
  have b := shape_cell h (k := k) (x := c.1 + minOf (·.1) cs) (y := c.2 + minOf (·.2) cs) (by rw [List.getElem?_eq_getElem hk, e])
  have hne : cs ≠ [] := List.ne_nil_of_mem hc
  obtain ⟨d1, hd1, f1⟩ := minOf_mem (·.1) hne
  obtain ⟨d2, hd2, f2⟩ := minOf_mem (·.2) hne
  obtain ⟨k1, hk1, e3⟩ := List.getElem_of_mem hd1
  obtain ⟨k2, hk2, e4⟩ := List.getElem_of_mem hd2
  have b1 := shape_cell h (k := k1) (x := d1.1) (y := d1.2) (by rw [List.getElem?_eq_getElem hk1, e3])
  have b2 := shape_cell h (k := k2) (x := d2.1) (y := d2.2) (by rw [List.getElem?_eq_getElem hk2, e4])
  omega
theorem cornerShape_cells (cs : List C) : ∀ c, c ∈ cornerShape cs → 0 ≤ c.1 ∧ c.1 ≤ 7 ∧ 0 ≤ c.2 ∧ c.2 ≤ 7 := by
  intro c hc
  unfold cornerShape at hc
  split at hc
  · rename_i h; exact smallL_corner h c hc
  · cases hc
theorem ret_int2 {a b c d : Int} (h1 : a = b) (h2 : c = d) : Ending.returned (.tuple #[.int .i64 a, .int .i64 c]) = .returned (.tuple #[.int .i64 b, .int .i64 d]) := by rw [h1, h2]
def Ints2 (a b : Int) (w : World) (e : Ending) (w' : World) : Prop := e = .returned (.tuple #[.int .i64 a, .int .i64 b]) ∧ Below w.heap.size w w'

set_option maxHeartbeats 1600000 in
theorem specSizeOf (A : Option Addr) (n cap : Nat) (cs : List C) (w : World) (hn : n ≤ 1048576) (h : CellsAt w A n cs) :
    Calls Try.prog 67 #[.slice A n cap] w (Ints2 (sizeOf_ cs).1 (sizeOf_ cs).2 w) := by
  have hlen := cornerShape_len cs (by rw [h.1]; exact hn)
  go_enter Try.func67, Try.ntmps67
  go_wp2_with fail
  refine (specCornerShape A n cap cs w hn h).mono ?_
  rintro e w1 ⟨v, rfl, hO, hb⟩
  obtain ⟨A1, cap1, rfl, hr, _⟩ := hO.form
  obtain ⟨ds, hds⟩ : ∃ ds, ds = cornerShape cs := ⟨_, rfl⟩
  have HSM : Hid (∀ c, c ∈ ds → 0 ≤ c.1 ∧ c.1 ≤ 7 ∧ 0 ≤ c.2 ∧ c.2 ≤ 7) := by show ∀ c, _ → _; rw [hds]; exact cornerShape_cells cs
  have HR : Hid (sizeOf_ cs = (extOf (·.1) ds, extOf (·.2) ds)) := by show _ = _; rw [hds]; rfl
  rw [← hds] at hr hlen ⊢
  obtain ⟨m, hm⟩ : ∃ m, m = ds.length := ⟨_, rfl⟩
  rw [← hm] at hr hlen ⊢
  have HM := Lib.hid hm
  clear hO h hds hm
  go_wp2
  go_loop [5, 6, 7] (fun vx vy i => ∃ (k : Nat) (x y : Int), k ≤ m ∧ i = .int .i64 k ∧ vx = .int .i64 x ∧ vy = .int .i64 y ∧ Hid (x = extOf (·.1) (ds.take k)) ∧ Hid (y = extOf (·.2) (ds.take k)) ∧ (0 ≤ x ∧ x ≤ 8 ∧ 0 ≤ y ∧ y ≤ 8)) (fun _ _ i => m - (intOf i).toNat)
  case atStart => exact ⟨0, 0, 0, Nat.zero_le _, rfl, rfl, rfl, rfl, rfl, ⟨by omega, by omega, by omega, by omega⟩⟩
  case round =>
    obtain ⟨k, x, y, hk, rfl, rfl, rfl, M1, M2, ⟨x1, x2, y1, y2⟩⟩ := hrel
    by_cases hlt : k < m
    · obtain ⟨b, o, p, q, rfl, hbl, HK, c1, c2⟩ := hr.at_ hlt
      obtain ⟨p1, p2, q1, q2⟩ := HSM.out _ (List.mem_of_getElem? HK.out)
      simp only at p1 p2 q1 q2
      have N1 : Hid (max x (p + 1) = extOf (·.1) (ds.take (k + 1))) := by show _ = _; rw [extOf_next (·.1) HK.out, ← M1.out]
      have N2 : Hid (max y (q + 1) = extOf (·.2) (ds.take (k + 1))) := by show _ = _; rw [extOf_next (·.2) HK.out, ← M2.out]
      clear hr
      go_wp2
      go_round
      case rel => exact ⟨k + 1, _, _, by omega, by go_num, rfl, rfl, N1.out, N2.out, ⟨by omega, by omega, by omega, by omega⟩⟩
      case measure => simp [intOf]; omega
    · obtain rfl : k = m := by omega
      have E : ds.take k = ds := List.take_of_length_le (by rw [HM.out]; exact Nat.le_refl _)
      have N1 : Hid (x = extOf (·.1) ds) := by show _ = _; rw [M1.out, E]
      have N2 : Hid (y = extOf (·.2) ds) := by show _ = _; rw [M2.out, E]
      clear hr E
      go_wp2
      go_ret2
      exact ⟨ret_int2 (by rw [HR.out]; exact N1.out) (by rw [HR.out]; exact N2.out), hb⟩
end Go.Proofs.Ythhaojbnnacdbaa
