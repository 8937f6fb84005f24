/- Drawn texts: some bytes, few; a law's own test of its input's length. (Lines of XDrawN, without what it imports for numbers.) -/
import Derived.Test.YtacegndmclnbnaaGreatDoorDrawM
import Derived.Test.YtacegndmclnbnaaGreatDoorHex
import Derived.Lib.SmallJoins
namespace Go.Proofs.YtacegndmclnbnaaGreatDoor
open Go.RowKit
set_option linter.unusedVariables false

theorem bigNo (A : Option Addr) (n cap : Nat) (w : World) (hn : n ≤ 1048576) : Calls Tryz.prog 5 #[.slice A n cap] w fun e w' => e = .returned (.bool false) ∧ w = w' := by
  have h : ¬ (1048576 : Int) < (n : Int) := by omega
  go_enter Tryz.func5, Tryz.ntmps5
  go_wp2
  go_ret
  exact ⟨rfl, rfl⟩
theorem bigYes (A : Option Addr) (n cap : Nat) (w : World) (hn : ¬ n ≤ 1048576) : Calls Tryz.prog 5 #[.slice A n cap] w fun e w' => e = .returned (.bool true) ∧ w = w' := by
  have h : (1048576 : Int) < (n : Int) := by omega
  go_enter Tryz.func5, Tryz.ntmps5
  go_wp2
  go_ret
  exact ⟨rfl, rfl⟩
theorem byte_cell {b : Int} (h0 : 0 ≤ b) (h1 : b ≤ 255) : bcells [UInt8.ofNat b.toNat] = [.int .u8 b] := by
  simp only [bcells, List.map_cons, List.map_nil, UInt8.toNat_ofNat']
  rw [Nat.mod_eq_of_lt (by omega), Int.toNat_of_nonneg h0]
theorem row_off {w : World} {base e n B : Nat} {v : Value} {xs : List Value} (h : w.ownsRow base e 1 v n xs) (hB : B < base) : v.ownBlock = none ∨ v.ownBlock ≠ some B := by
  cases hv : v.ownBlock with
  | none => exact Or.inl rfl
  | some g => exact Or.inr (fun e => by injection e with e; have := (h.lt g hv).1; omega)
theorem text_step {w w1 w3 : World} {b0 B e n : Nat} {v : Value} {xs : List Value} {o : Obj} (hC : Cur w1 b0 B) (hown : w1.ownsRow w.heap.size e 1 v n xs) (hG : w.grownBy w1 (some B)) (hB : B < w.heap.size) (hge : b0 ≤ B)
    (hg : (w1.alloc o).grownBy w3 v.ownBlock) : Cur w3 b0 B ∧ w.grownBy w3 (some B) := by
  have hb := below_alloc w1 o
  refine ⟨(hC.below hb).beside hg (fun e => ?_) (fun k hk => ?_), ?_⟩
  · have := (hown.lt B e.symm).1; omega
  · have := (hown.lt k hk).1; omega
  · refine ⟨hg.os.trans (hb.os.trans hG.os), hg.tape.trans (hb.tape.trans hG.tape), hg.output.trans (hb.output.trans hG.output), Nat.le_trans hG.size (Nat.le_trans hb.size hg.size), fun k hk hne => ?_⟩
    have h1 : k < w1.heap.size := Nat.lt_of_lt_of_le hk hG.size
    rw [hg.block k (Nat.lt_of_lt_of_le h1 hb.size) (fun e => by have := (hown.lt k e.symm).1; omega), hb.block k h1]
    exact hG.block k hk hne
/-- a drawn text of at most m bytes -/
def TextPost (m : Nat) (b0 B : Nat) (w : World) (e : Ending) (w' : World) : Prop := ∃ l : List UInt8, l.length ≤ m ∧ e = .returned (.string ⟨l.toArray⟩) ∧ Cur w' b0 B ∧ w.grownBy w' (some B)
set_option maxRecDepth 20000 in
set_option maxHeartbeats 3200000 in
theorem drawText (b0 B m : Nat) (w : World) (h : Cur w b0 B) (hm : m ≤ 1000) : Calls Tryz.prog 77 #[.pointer (some ⟨B, 0, none⟩), .int .i64 m] w (TextPost m b0 B w) := by
  obtain ⟨i0, hi, hz0, hz1, hz2⟩ := info_parts Tryz.info5
  have hBw := h.lt
  have hge := h.ge
  have hb1 := below_alloc w (.cells #[] 5)
  have hC := h.below hb1
  have hg : w.grownBy (w.alloc (.cells #[] 5)) (some B) := ⟨hb1.os, hb1.tape, hb1.output, hb1.size, fun k hk _ => hb1.block k hk⟩
  have hown : (w.alloc (.cells #[] 5)).ownsRow w.heap.size 5 1 (.slice (some ⟨w.heap.size, 0, none⟩) 0 0) 0 (bcells []) := World.ownsRow_made _ _ _ (Nat.le_refl _) (by decide) rfl
  have hpos : (0 : Int) < (m : Int) + 1 := by omega
  clear h hb1
  go_enter Tryz.func77, Tryz.ntmps77
  go_wp2_with fail
  refine (drawBelow b0 B 4 _ hC (by omega)).mono ?_
  rintro e w1 ⟨style, ⟨hs0, hs1⟩, rfl, hC1, hg1⟩
  have hown1 := hown.kept hg1 (Or.inr (fun e => by injection e with e; simp at e; omega))
  have hG1 := hg.trans hg1
  clear hC hg hown hg1
  go_wp2_with fail
  refine (drawBelow b0 B _ w1 hC1 hpos).mono ?_
  rintro e w2 ⟨r, ⟨hr0, hr1⟩, rfl, hC2, hg2⟩
  have hown2 := hown1.kept hg2 (Or.inr (fun e => by injection e with e; simp at e; omega))
  have hG2 := hG1.trans hg2
  obtain ⟨q, rfl⟩ : ∃ q : Nat, r = q := ⟨r.toNat, by omega⟩
  clear hC1 hg2 hown1 hG1
  go_wp2
  go_loopw [5, 7, 8] (fun v i _ wr => ∃ (k : Nat) (l : List UInt8), i = .int .i64 k ∧ l.length + k ≤ m ∧ wr.ownsRow w.heap.size 5 1 v l.length (bcells l) ∧ Cur wr b0 B ∧ w.grownBy wr (some B)) (fun _ i _ _ => (intOf i).toNat)
  case atStart => exact ⟨q, [], rfl, by simp; omega, hown2, hC2, hG2⟩
  case round =>
    clear hC2 hown2 hG2
    obtain ⟨k, l, rfl, hl, hown, hC, hG⟩ := hrel
    by_cases hk0 : k = 0
    · subst hk0
      have hc := string_of_own (P := Tryz.prog) hown Tryz.underlying22 Tryz.underlying5 Tryz.underlying9
      clear hown
      go_wp2
      go_ret
      exact ⟨l, by omega, rfl, hC, hG⟩
    · have hki : (0 : Int) < (k : Int) := by omega
      go_wp2_with fail
      refine (drawByte b0 B wr hC).mono ?_
      rintro e w1 ⟨x, ⟨hx0, hx1⟩, rfl, hC1, hg1⟩
      have hown1 := hown.kept hg1 (row_off hown hBw)
      have hG1 := hG.trans hg1
      clear hown hC hG hg1
      have sty : ∃ y : Int, 0 ≤ y ∧ y ≤ 255 ∧ ((style = 1 ∧ x % 2 = y) ∨ (style = 2 ∧ 97 + x % 4 = y) ∨ (style ≠ 1 ∧ style ≠ 2 ∧ x = y)) := by
        by_cases s1 : style = 1
        · exact ⟨x % 2, by omega, by omega, Or.inl ⟨s1, rfl⟩⟩
        · by_cases s2 : style = 2
          · exact ⟨97 + x % 4, by omega, by omega, Or.inr (Or.inl ⟨s2, rfl⟩)⟩
          · exact ⟨x, hx0, hx1, Or.inr (Or.inr ⟨s1, s2, rfl⟩)⟩
      obtain ⟨y, hy0, hy1, sty⟩ := sty
      have hu : IntKind.u8.wrap y = y := by rw [IntKind.wrap_u8]; omega
      have HB := Lib.hid (byte_cell hy0 hy1)
      rcases sty with ⟨rfl, hxy⟩ | ⟨rfl, hxy⟩ | ⟨s1, s2, rfl⟩
      · go_wp2_with (at_builtin; refine wpList_append_own _ rfl _ _ 22 rfl w.heap.size 5 i0 (.int .u8 0) 1 1 Tryz.underlying22 hi hz0 hz1 hz2 rfl (by decide) _ _ _ rfl (hown1.alloc _) ⟨w1.heap.size, 0, none⟩ 1 1 (bcells [UInt8.ofNat y.toNat]) rfl rfl ?c1 ?c2 ?c3 ?c4 ?c5 ?_)
        case c1 => rw [HB.out]; exact World.news_of_block (cs := #[.int .u8 y]) (heap_alloc_new w1 _)
        case c2 => simp [bcells, Value.oneCell']
        case c3 => unfold maxLen; omega
        case c4 => omega
        case c5 => have := hG1.size; simp; omega
        intro v' w3 hown3 hgrow _
        have R := text_step hC1 hown1 hG1 hBw hge hgrow
        rw [← bcells_append] at hown3
        have hown4 : w3.ownsRow w.heap.size 5 1 v' (l ++ [UInt8.ofNat y.toNat]).length (bcells (l ++ [UInt8.ofNat y.toNat])) := by rw [List.length_append]; exact hown3
        obtain ⟨k, rfl⟩ : ∃ g, k = g + 1 := ⟨k - 1, by omega⟩
        clear hown1 hC1 hG1 hgrow hown3
        go_wp2
        go_roundw
        case rel => exact ⟨k, l ++ [UInt8.ofNat y.toNat], by go_num, by simp; omega, hown4, R.1, R.2⟩
        case measure => simp [intOf]
      · go_wp2_with (at_builtin; refine wpList_append_own _ rfl _ _ 22 rfl w.heap.size 5 i0 (.int .u8 0) 1 1 Tryz.underlying22 hi hz0 hz1 hz2 rfl (by decide) _ _ _ rfl (hown1.alloc _) ⟨w1.heap.size, 0, none⟩ 1 1 (bcells [UInt8.ofNat y.toNat]) rfl rfl ?c1 ?c2 ?c3 ?c4 ?c5 ?_)
        case c1 => rw [HB.out]; exact World.news_of_block (cs := #[.int .u8 y]) (heap_alloc_new w1 _)
        case c2 => simp [bcells, Value.oneCell']
        case c3 => unfold maxLen; omega
        case c4 => omega
        case c5 => have := hG1.size; simp; omega
        intro v' w3 hown3 hgrow _
        have R := text_step hC1 hown1 hG1 hBw hge hgrow
        rw [← bcells_append] at hown3
        have hown4 : w3.ownsRow w.heap.size 5 1 v' (l ++ [UInt8.ofNat y.toNat]).length (bcells (l ++ [UInt8.ofNat y.toNat])) := by rw [List.length_append]; exact hown3
        obtain ⟨k, rfl⟩ : ∃ g, k = g + 1 := ⟨k - 1, by omega⟩
        clear hown1 hC1 hG1 hgrow hown3
        go_wp2
        go_roundw
        case rel => exact ⟨k, l ++ [UInt8.ofNat y.toNat], by go_num, by simp; omega, hown4, R.1, R.2⟩
        case measure => simp [intOf]
      · have z1 : (style == 1) = false := by simpa using s1
        have z2 : (style == 2) = false := by simpa using s2
        go_wp2_with (at_builtin; refine wpList_append_own _ rfl _ _ 22 rfl w.heap.size 5 i0 (.int .u8 0) 1 1 Tryz.underlying22 hi hz0 hz1 hz2 rfl (by decide) _ _ _ rfl (hown1.alloc _) ⟨w1.heap.size, 0, none⟩ 1 1 (bcells [UInt8.ofNat x.toNat]) rfl rfl ?c1 ?c2 ?c3 ?c4 ?c5 ?_)
        case c1 => rw [HB.out]; exact World.news_of_block (cs := #[.int .u8 x]) (heap_alloc_new w1 _)
        case c2 => simp [bcells, Value.oneCell']
        case c3 => unfold maxLen; omega
        case c4 => omega
        case c5 => have := hG1.size; simp; omega
        intro v' w3 hown3 hgrow _
        have R := text_step hC1 hown1 hG1 hBw hge hgrow
        rw [← bcells_append] at hown3
        have hown4 : w3.ownsRow w.heap.size 5 1 v' (l ++ [UInt8.ofNat x.toNat]).length (bcells (l ++ [UInt8.ofNat x.toNat])) := by rw [List.length_append]; exact hown3
        obtain ⟨k, rfl⟩ : ∃ g, k = g + 1 := ⟨k - 1, by omega⟩
        clear hown1 hC1 hG1 hgrow hown3
        go_wp2
        go_roundw
        case rel => exact ⟨k, l ++ [UInt8.ofNat x.toNat], by go_num, by simp; omega, hown4, R.1, R.2⟩
        case measure => simp [intOf]
theorem below_new {w w1 w2 : World} {B : Nat} (hb : Below w.heap.size w w1) (hg : w1.grownBy w2 (some B)) (hB : w.heap.size ≤ B) : Below w.heap.size w w2 :=
  hb.grown hg hb.size (fun k hk => by injection hk with hk; omega)
end Go.Proofs.YtacegndmclnbnaaGreatDoor
