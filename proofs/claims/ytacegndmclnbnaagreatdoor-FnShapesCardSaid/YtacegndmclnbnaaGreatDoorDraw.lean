/- The cursor that draws: its bytes, numbers below a bound. No condition but that the code reads as bytes. -/
import Derived.Test.YtacegndmclnbnaaGreatDoorBx
import Derived.Test.YtacegndmclnbnaaGreatDoorMark
import Derived.Laws.Bits64
import Derived.Maps.Range
namespace Go.Proofs.YtacegndmclnbnaaGreatDoor
open Go.RowKit

/-- Block b holds the three values. -/
def Box3 (w : World) (b : Nat) (x y z : Value) (t : TypeId) : Prop := w.heap[b]? = some (.cells #[x, y, z] t (0, 0))
section
variable {w w' : World} {b : Nat} {x y z : Value} {t : TypeId}
theorem Box3.lt (h : Box3 w b x y z t) : b < w.heap.size := lt_of_block h
theorem Box3.c0 (h : Box3 w b x y z t) : w.cell? ⟨b, 0, none⟩ = some x := by unfold Box3 at h; simp [World.cell?, h]
theorem Box3.c1 (h : Box3 w b x y z t) : w.cell? ⟨b, 1, none⟩ = some y := by unfold Box3 at h; simp [World.cell?, h]
theorem Box3.c2 (h : Box3 w b x y z t) : w.cell? ⟨b, 2, none⟩ = some z := by unfold Box3 at h; simp [World.cell?, h]
theorem Box3.f1 (h : Box3 w b x y z t) : w.frozen? ⟨b, 1, none⟩ = false := by unfold Box3 at h; simp [World.frozen?, h]
theorem Box3.f2 (h : Box3 w b x y z t) : w.frozen? ⟨b, 2, none⟩ = false := by unfold Box3 at h; simp [World.frozen?, h]
theorem Box3.new (w : World) (x y z : Value) (t : TypeId) : Box3 (w.alloc (.cells #[x, y, z] t)) w.heap.size x y z t := heap_alloc_new w _
theorem Box3.below (h : Box3 w b x y z t) {B : Nat} (hb : Below B w w') (hlt : b < B) : Box3 w' b x y z t := (hb.block b hlt).trans h
theorem Box3.later (h : Box3 w b x y z t) (hb : Below w.heap.size w w') : Box3 w' b x y z t := h.below hb h.lt
theorem Box3.grown {row : Option Nat} (h : Box3 w b x y z t) (hg : w.grownBy w' row) (hne : some b ≠ row) : Box3 w' b x y z t := (hg.block b h.lt hne).trans h
theorem Box3.set1 (h : Box3 w b x y z t) (u : Value) : Box3 (w.setCell ⟨b, 1, none⟩ u) b x u z t := by
  have hlt := h.lt
  have h' : w.heap[b] = .cells #[x, y, z] t (0, 0) := by unfold Box3 at h; simpa [Array.getElem?_eq_getElem hlt] using h
  show (w.heap.modify b _)[b]? = _
  rw [Array.getElem?_eq_getElem (by simpa using hlt), Array.getElem_modify_self, h']
  rfl
theorem Box3.set2 (h : Box3 w b x y z t) (u : Value) : Box3 (w.setCell ⟨b, 2, none⟩ u) b x y u t := by
  have hlt := h.lt
  have h' : w.heap[b] = .cells #[x, y, z] t (0, 0) := by unfold Box3 at h; simpa [Array.getElem?_eq_getElem hlt] using h
  show (w.heap.modify b _)[b]? = _
  rw [Array.getElem?_eq_getElem (by simpa using hlt), Array.getElem_modify_self, h']
  rfl
end
theorem grown_set (w : World) (g j : Nat) (u : Value) : w.grownBy (w.setCell ⟨g, j, none⟩ u) (some g) :=
  ⟨rfl, rfl, rfl, by simp, fun k _ hk => heap_setCell_other w ⟨g, j, none⟩ k u (fun e => hk (by simp [e]))⟩

/-- The slice reads as bytes. -/
def BytesAt (w : World) (A : Option Addr) (n : Nat) : Prop :=
  0 < n → ∃ b o, A = some ⟨b, o, none⟩ ∧ b < w.heap.size ∧ ∀ j, j < n → ∃ v : Int, w.cell? ⟨b, o + j, none⟩ = some (.int .u8 v)
theorem BytesAt.below {w w' : World} {A : Option Addr} {n : Nat} (h : BytesAt w A n) (hb : Below w.heap.size w w') : BytesAt w' A n := fun hn => by
  obtain ⟨b, o, e, hlt, hc⟩ := h hn
  exact ⟨b, o, e, Nat.lt_of_lt_of_le hlt hb.size, fun j hj => by obtain ⟨v, hv⟩ := hc j hj; exact ⟨v, cell_on hb hlt hv⟩⟩
/-- The cursor at block B, over the bytes of a slice that lies ahead of block b0; n: how many. -/
structure Cur (w : World) (b0 B : Nat) : Prop where
  ge : b0 ≤ B
  all : ∃ (A : Option Addr) (n cap : Nat) (i h : Int), Box3 w B (.slice A n cap) (.int .i64 i) (.int .i64 h) 74 ∧ 0 ≤ i ∧ i ≤ n ∧ n ≤ 1048576 ∧
    (0 < n → ∃ b o, A = some ⟨b, o, none⟩ ∧ b < b0 ∧ b < w.heap.size ∧ ∀ j, j < n → ∃ v : Int, w.cell? ⟨b, o + j, none⟩ = some (.int .u8 v))
theorem Cur.below {w w' : World} {b0 B : Nat} (h : Cur w b0 B) (hb : Below w.heap.size w w') : Cur w' b0 B := by
  obtain ⟨A, n, cap, i, x, hB, h1, h2, h3, h4⟩ := h.all
  refine ⟨h.ge, A, n, cap, i, x, hB.later hb, h1, h2, h3, fun hn => ?_⟩
  obtain ⟨b, o, e, hlt0, hlt, hc⟩ := h4 hn
  exact ⟨b, o, e, hlt0, Nat.lt_of_lt_of_le hlt hb.size, fun j hj => by obtain ⟨v, hv⟩ := hc j hj; exact ⟨v, cell_on hb hlt hv⟩⟩
theorem Cur.lt {w : World} {b0 B : Nat} (h : Cur w b0 B) : B < w.heap.size := by
  obtain ⟨A, n, cap, i, x, hB, _⟩ := h.all
  exact hB.lt
theorem Cur.beside {w w' : World} {b0 B : Nat} {row : Option Nat} (h : Cur w b0 B) (hg : w.grownBy w' row) (hne : some B ≠ row) (hr : ∀ k, row = some k → b0 ≤ k) : Cur w' b0 B := by
  obtain ⟨A, n, cap, i, x, hB, h1, h2, h3, h4⟩ := h.all
  refine ⟨h.ge, A, n, cap, i, x, hB.grown hg hne, h1, h2, h3, fun hn => ?_⟩
  obtain ⟨b, o, e, hlt0, hlt, hc⟩ := h4 hn
  refine ⟨b, o, e, hlt0, Nat.lt_of_lt_of_le hlt hg.size, fun j hj => ?_⟩
  obtain ⟨v, hv⟩ := hc j hj
  exact ⟨v, (World.cell?_of_block (a := ⟨b, o + j, none⟩) (hg.block b hlt (fun e => by have := hr b e.symm; omega))).trans hv⟩
/-- a drawn number that meets P; the cursor alone has turned -/
def DrawPost (P : Int → Prop) (b0 B : Nat) (w : World) (e : Ending) (w' : World) : Prop := ∃ k : Int, P k ∧ e = .returned (.int .i64 k) ∧ Cur w' b0 B ∧ w.grownBy w' (some B)
theorem and_255 (x : Int) : 0 ≤ bits .and .i64 x 255 ∧ bits .and .i64 x 255 ≤ 255 := by
  have h : (BitVec.ofInt 64 x &&& BitVec.ofInt 64 255).toNat ≤ 255 := by
    rw [BitVec.toNat_and]
    exact Nat.le_trans Nat.and_le_right (by decide)
  show 0 ≤ IntKind.i64.wrap ((BitVec.ofInt 64 x &&& BitVec.ofInt 64 255).toNat : Int) ∧ IntKind.i64.wrap ((BitVec.ofInt 64 x &&& BitVec.ofInt 64 255).toNat : Int) ≤ 255
  rw [IntKind.wrap_i64]
  omega

set_option maxHeartbeats 1600000 in
theorem drawByte (b0 B : Nat) (w : World) (h : Cur w b0 B) : Calls Tryz.prog 76 #[.pointer (some ⟨B, 0, none⟩)] w (DrawPost (fun k => 0 ≤ k ∧ k ≤ 255) b0 B w) := by
  obtain ⟨hge, A, n, cap, i, x, hB, h1, h2, h3, h4⟩ := h
  obtain ⟨k, rfl⟩ : ∃ k : Nat, i = k := ⟨i.toNat, by omega⟩
  obtain ⟨x', hx'⟩ : ∃ x', x' = wrap64 (wrap64 (x * 6364136223846793005) + 1442695040888963407) := ⟨_, rfl⟩
  have hB2 := hB.set2 (.int .i64 x')
  have hg1 := grown_set w B 2 (.int .i64 x')
  have hlt := hB.lt
  have c0 := hB.c0
  have c1 := hB.c1
  have c2 := hB.c2
  have f2 := hB.f2
  have d0 := hB2.c0
  have d1 := hB2.c1
  have d2 := hB2.c2
  have e1 := hB2.f1
  have hw' := hx'.symm
  have HX := Lib.hid hx'
  clear hx'
  obtain ⟨w1, hw1⟩ : ∃ w1, w1 = w.setCell ⟨B, 2, none⟩ (.int .i64 x') := ⟨_, rfl⟩
  rw [← hw1] at hB2 hg1 d0 d1 d2 e1
  have hw1' := hw1.symm
  clear hw1
  have hr : 0 < n → ∃ b o, A = some ⟨b, o, none⟩ ∧ b < b0 ∧ b < w1.heap.size ∧ ∀ j, j < n → ∃ v : Int, w1.cell? ⟨b, o + j, none⟩ = some (.int .u8 v) := fun hn => by
    obtain ⟨b, o, e, hlt0, hltb, hc⟩ := h4 hn
    refine ⟨b, o, e, hlt0, Nat.lt_of_lt_of_le hltb hg1.size, fun j hj => ?_⟩
    obtain ⟨v, hv⟩ := hc j hj
    exact ⟨v, (World.cell?_of_block (a := ⟨b, o + j, none⟩) (hg1.block b hltb (fun e => by injection e with e; omega))).trans hv⟩
  clear h4
  by_cases hkn : k < n
  · obtain ⟨b, o, rfl, hb0, hltb, hc⟩ := hr (by omega)
    obtain ⟨v, hv⟩ := hc k hkn
    have hki : (k : Int) < (n : Int) := by omega
    have hB3 := hB2.set1 (.int .i64 ((k + 1 : Nat) : Int))
    have hg2 := grown_set w1 B 1 (.int .i64 ((k + 1 : Nat) : Int))
    have hHC := Lib.hid hc
    rw [show ((k + 1 : Nat) : Int) = (k : Int) + 1 from by omega] at hB3 hg2
    clear hc hr
    go_enter Tryz.func76, Tryz.ntmps76
    go_wp2
    go_quiet (fail)
    go_wp2
    go_quiet (fail)
    go_wp2
    go_quiet (fail)
    go_wp2
    go_ret
    refine ⟨_, and_255 _, rfl, ⟨hge, some ⟨b, o, none⟩, n, cap, (k : Int) + 1, x', ?_, by omega, by omega, h3, fun hn => ⟨b, o, rfl, hb0, ?_, fun j hj => ?_⟩⟩, ?_⟩
    · exact hB3
    · exact Nat.lt_of_lt_of_le hltb hg2.size
    · obtain ⟨u, hu⟩ := hHC.out j hj
      exact ⟨u, (World.cell?_of_block (a := ⟨b, o + j, none⟩) (hg2.block b hltb (fun e => by injection e with e; omega))).trans hu⟩
    · have t := hg1.trans hg2
      exact ⟨t.os, t.tape, t.output, t.size, t.block⟩
  · have hki : ¬ (k : Int) < (n : Int) := by omega
    go_enter Tryz.func76, Tryz.ntmps76
    go_wp2
    go_quiet (fail)
    go_wp2
    go_quiet (fail)
    go_wp2
    go_ret
    refine ⟨_, and_255 _, rfl, ⟨hge, A, n, cap, (k : Int), x', ?_, by omega, by omega, h3, hr⟩, ?_⟩
    · exact hB2
    · exact ⟨hg1.os, hg1.tape, hg1.output, hg1.size, hg1.block⟩
theorem DrawPost.mono {P Q : Int → Prop} {b0 B : Nat} {w : World} {e : Ending} {w' : World} (h : DrawPost P b0 B w e w') (hPQ : ∀ k, P k → Q k) : DrawPost Q b0 B w e w' := by
  obtain ⟨k, hk, r⟩ := h
  exact ⟨k, hPQ k hk, r⟩
set_option maxHeartbeats 1600000 in
theorem drawBelow (b0 B : Nat) (n : Int) (w : World) (h : Cur w b0 B) (hn : 0 < n) : Calls Tryz.prog 45 #[.pointer (some ⟨B, 0, none⟩), .int .i64 n] w (DrawPost (fun k => 0 ≤ k ∧ k < n) b0 B w) := by
  have hn0 : ¬ n ≤ 0 := by omega
  by_cases h256 : n ≤ 256
  · go_enter Tryz.func45, Tryz.ntmps45
    go_wp2_with fail
    refine (drawByte b0 B w h).mono ?_
    rintro e w1 ⟨k, ⟨k0, k1⟩, rfl, hC, hg⟩
    go_wp2
    go_ret
    exact ⟨_, ⟨Int.emod_nonneg _ (by omega), Int.emod_lt_of_pos _ hn⟩, rfl, hC, hg⟩
  · go_enter Tryz.func45, Tryz.ntmps45
    go_wp2_with fail
    refine (drawByte b0 B w h).mono ?_
    rintro e w1 ⟨k1, ⟨k1a, k1b⟩, rfl, hC1, hg1⟩
    go_wp2_with fail
    refine (drawByte b0 B w1 hC1).mono ?_
    rintro e w2 ⟨k2, ⟨k2a, k2b⟩, rfl, hC2, hg2⟩
    go_wp2_with fail
    refine (drawByte b0 B w2 hC2).mono ?_
    rintro e w3 ⟨k3, ⟨k3a, k3b⟩, rfl, hC3, hg3⟩
    go_wp2_with fail
    refine (drawByte b0 B w3 hC3).mono ?_
    rintro e w4 ⟨k4, ⟨k4a, k4b⟩, rfl, hC4, hg4⟩
    go_wp2
    go_ret
    exact ⟨_, ⟨Int.emod_nonneg _ (by omega), Int.emod_lt_of_pos _ hn⟩, rfl, hC4, ((hg1.trans hg2).trans hg3).trans hg4⟩
theorem drawOnce (b0 B : Nat) (n : Int) (w : World) (h : Cur w b0 B) (hn : 0 < n) : Calls Tryz.prog 55 #[.pointer (some ⟨B, 0, none⟩), .int .i64 n] w fun e w' => (∃ t : Bool, e = .returned (.bool t)) ∧ Cur w' b0 B ∧ w.grownBy w' (some B) := by
  go_enter Tryz.func55, Tryz.ntmps55
  go_wp2_with fail
  refine (drawBelow b0 B n w h hn).mono ?_
  rintro e w1 ⟨k, _, rfl, hC, hg⟩
  go_wp2
  go_ret
  exact ⟨⟨_, rfl⟩, hC, hg⟩
/-- a new cursor -/
def NewPost (b0 : Nat) (w : World) (e : Ending) (w' : World) : Prop := ∃ B : Nat, e = .returned (.pointer (some ⟨B, 0, none⟩)) ∧ Cur w' b0 B ∧ w.heap.size ≤ B ∧ Below w.heap.size w w'
set_option maxHeartbeats 1600000 in
theorem drawNew (A : Option Addr) (n cap : Nat) (w : World) (hn : n ≤ 1048576) (h : BytesAt w A n) : Calls Tryz.prog 39 #[.slice A n cap] w (NewPost w.heap.size w) := by
  have HB := Lib.hid h
  go_enter Tryz.func39, Tryz.ntmps39
  go_wp2
  go_loop [3, 4] (fun x i => ∃ (k : Nat) (h : Int), k ≤ n ∧ i = .int .i64 k ∧ x = .int .i64 h) (fun _ i => n - (intOf i).toNat)
  case atStart => exact ⟨0, _, Nat.zero_le _, rfl, rfl⟩
  case round =>
    obtain ⟨k, x, hk, rfl, rfl⟩ := hrel
    by_cases hlt : k < n ∧ k < 4000
    · obtain ⟨b, o, rfl, hbl, hc⟩ := h (by omega)
      obtain ⟨v, hv⟩ := hc k hlt.1
      have h1 : (k : Int) < (n : Int) := by omega
      have h2 : (k : Int) < 4000 := by omega
      clear hc h
      go_wp2
      go_round
      case rel => exact ⟨k + 1, _, by omega, by go_num, rfl⟩
      case measure => simp [intOf]; omega
    · clear h
      by_cases h1 : k < n
      · have h2 : (k : Int) < (n : Int) := by omega
        have h3 : ¬ (k : Int) < 4000 := by omega
        clear hlt
        go_wp2
        go_ret
        refine ⟨w.heap.size, rfl, ⟨Nat.le_refl _, A, n, cap, 0, _, Box3.new w _ _ _ _, by omega, by omega, hn, fun h0 => ?_⟩, Nat.le_refl _, below_alloc _ _⟩
        obtain ⟨b, o, e, hbl, hc⟩ := HB.out h0
        exact ⟨b, o, e, hbl, by simp; omega, fun j hj => by obtain ⟨v, hv⟩ := hc j hj; exact ⟨v, cell_on (below_alloc _ _) hbl hv⟩⟩
      · have h2 : ¬ (k : Int) < (n : Int) := by omega
        clear hlt
        go_wp2
        go_ret
        refine ⟨w.heap.size, rfl, ⟨Nat.le_refl _, A, n, cap, 0, _, Box3.new w _ _ _ _, by omega, by omega, hn, fun h0 => ?_⟩, Nat.le_refl _, below_alloc _ _⟩
        obtain ⟨b, o, e, hbl, hc⟩ := HB.out h0
        exact ⟨b, o, e, hbl, by simp; omega, fun j hj => by obtain ⟨v, hv⟩ := hc j hj; exact ⟨v, cell_on (below_alloc _ _) hbl hv⟩⟩
end Go.Proofs.YtacegndmclnbnaaGreatDoor
