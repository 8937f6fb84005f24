/- RemoveCell, the program's and the reference's: contracts. Condition: at most 2^20 rows. -/
import Derived.Test.YtpbkpebpidabiaaRect
import Derived.Test.YtpbkpebpidabiaaRegC
import Derived.Test.YtpbkpebpidabiaaApp
import Derived.Deep.RegionLaw
namespace Go.Proofs.Ytpbkpebpidabiaa
open Go.RowKit

theorem IntsAt.slice {w : World} {A : Option Addr} {n : Nat} {xs : List Int} (h : IntsAt w A n xs) : SliceAt w 1 A n (intsV xs) := by
  refine ⟨by rw [intsV_length, h.1]; omega, fun hn => ?_⟩
  obtain ⟨b, o, e, _, hc⟩ := h.2 hn
  refine ⟨_, e, fun j u hu => ?_⟩
  have hl : j < n := by have := (List.getElem?_eq_some_iff.1 hu).1; rw [intsV_length, h.1] at this; exact this
  rw [Addr.add_lit, hc j hl]
  rw [intsV_get] at hu
  rw [← hu]
  simp [h.1, hl]

theorem copyInts_any (A : Option Addr) (n cap : Nat) (xs : List Int) (w : World) (hn : n ≤ 1048576) (h : IntsAt w A n xs) :
    Calls Try.prog 41 #[.slice A n cap] w (OwnIPost w xs) := by
  obtain ⟨i0, hi, hz0, hz1, hz2⟩ := info_parts Try.infoI
  have hl := Lib.hid h.1
  go_enter Try.func41, Try.ntmps41
  go_wp2_with (at_builtin; refine wpList_append_slice _ rfl _ _ 22 rfl w.heap.size 3 i0 (.int .i64 0) 1 8 Try.underlying22 hi hz0 hz1 hz2 rfl (by decide) _ _ _ rfl (World.ownsRow_nil _ _ _ _) A n cap (intsV xs) rfl h.slice intsV_one ?c1 ?c2 (Nat.le_refl _) ?_)
  case c1 => unfold maxLen; omega
  case c2 => omega
  intro v' w1 hown hgrow _
  have hb : Below w.heap.size w w1 := (Below.refl _ _).grown hgrow (Nat.le_refl _) (fun _ h => by cases h)
  have hown : OwnI w1 w.heap.size v' xs := by unfold OwnI; rw [hl.out]; exact hown
  go_wp2
  go_ret
  exact ⟨_, rfl, hown, hb⟩

set_option maxHeartbeats 800000 in
theorem copyRegion_any (W : Int) (A : Option Addr) (n cap : Nat) (xs : List Int) (w : World) (hn : n ≤ 1048576) (h : IntsAt w A n xs) :
    Calls Try.prog 37 #[.agg #[.int .i64 W, .slice A n cap]] w (OwnRPost w (W, xs)) := by
  have hB := below2 w (.cells #[.int .i64 W, .slice A n cap] 27) (.cells #[.int .i64 0, .slice none 0 0] 27)
  have hb1 := (Box2.new w (.int .i64 W) (.slice A n cap) 27).alloc (.cells #[.int .i64 0, .slice none 0 0] 27)
  have hb2 := (Box2.new (w.alloc (.cells #[.int .i64 W, .slice A n cap] 27)) (.int .i64 0) (.slice none 0 0) 27)
  rw [show (w.alloc (.cells #[.int .i64 W, .slice A n cap] 27)).heap.size = w.heap.size + 1 by simp] at hb2
  have h := h.below hB
  go_enter Try.func37, Try.ntmps37
  go_wp2
  have c0 := hb1.c0
  have c1 := hb1.c1
  have d0 := hb2.c0
  have d1 := hb2.c1
  have g0 := hb2.f0
  have g1 := hb2.f1
  go_region_held3 (fun ω => ω.cell? ⟨w.heap.size, 0, none⟩ = some (.int .i64 W) ∧ ω.cell? ⟨w.heap.size, 1, none⟩ = some (.slice A n cap)) (first | exact ⟨c0, c1⟩ | exact ⟨c2, c3⟩ | exact ⟨((b31.other (a := ⟨w.heap.size + 1, 0, none⟩) (by simp) _).other (a := ⟨w.heap.size + 1, 1, none⟩) (by simp) _).c0, ((b31.other (a := ⟨w.heap.size + 1, 0, none⟩) (by simp) _).other (a := ⟨w.heap.size + 1, 1, none⟩) (by simp) _).c1⟩) ((first | (go_at_call 41; refine (copyInts_any A n cap xs _ hn (h.below (Below.refl _ _).drew)).mono ?_; rintro e w3 ⟨v3, rfl, o3, k3⟩; obtain ⟨A3, cap3, rfl, _, _⟩ := o3.form; have b31 := hb1.drew.later k3; have b32 := hb2.drew.later k3; have c2 := b31.c0; have c3 := b31.c1; have e0 := b32.c0; have e1 := b32.c1; have e2 := b32.f0; have e3 := b32.f1)))
  have z := (b32.set0 (.int .i64 W)).set1 (.slice A3 xs.length cap3)
  have hB3 := (hB.drew.trans (k3.mono hB.size))
  go_wp2
  refine bodyPost_ret (v := .agg #[.int .i64 W, .slice A3 xs.length cap3]) (by simp [results, Try.results37, go_sem, z.c0, z.c1]) rfl ⟨_, rfl, ?_, ?_⟩
  · exact ((o3.setCell_below (by simp) _).setCell_below (by simp) _).mono (by simp; omega)
  · exact (hB3.setCell (by simp) _).setCell (by simp) _
set_option maxHeartbeats 800000 in
theorem l6Copy_any (W : Int) (A : Option Addr) (n cap : Nat) (xs : List Int) (w : World) (hn : n ≤ 1048576) (h : IntsAt w A n xs) :
    Calls Try.prog 36 #[.agg #[.int .i64 W, .slice A n cap]] w (OwnRPost w (W, xs)) := by
  obtain ⟨i0, hi, hz0, hz1, hz2⟩ := info_parts Try.infoI
  have hl := Lib.hid h.1
  have hB := below2 w (.cells #[.int .i64 W, .slice A n cap] 27) (.cells #[.int .i64 0, .slice none 0 0] 27)
  have hb1 := (Box2.new w (.int .i64 W) (.slice A n cap) 27).alloc (.cells #[.int .i64 0, .slice none 0 0] 27)
  have hb2 := (Box2.new (w.alloc (.cells #[.int .i64 W, .slice A n cap] 27)) (.int .i64 0) (.slice none 0 0) 27)
  rw [show (w.alloc (.cells #[.int .i64 W, .slice A n cap] 27)).heap.size = w.heap.size + 1 by simp] at hb2
  have h := h.below hB
  have hE := ownI_empty ((w.alloc (.cells #[.int .i64 W, .slice A n cap] 27)).alloc (.cells #[.int .i64 0, .slice none 0 0] 27))
  rw [show ((w.alloc (.cells #[.int .i64 W, .slice A n cap] 27)).alloc (.cells #[.int .i64 0, .slice none 0 0] 27)).heap.size = w.heap.size + 2 by simp] at hE
  have h2 := h.below (below_alloc _ (.cells #[] 3))
  have c0 := hb1.c0
  have c1 := hb1.c1
  have b11 := (hb1.alloc (.cells #[] 3)).drew
  have b21 := (hb2.alloc (.cells #[] 3)).drew
  have c2 := b11.c0
  have c3 := b11.c1
  go_enter Try.func36, Try.ntmps36
  go_wp2
  go_region_held3 (fun ω => ω.cell? ⟨w.heap.size, 0, none⟩ = some (.int .i64 W) ∧ ω.cell? ⟨w.heap.size, 1, none⟩ = some (.slice A n cap)) (first | exact ⟨c0, c1⟩ | exact ⟨c2, c3⟩ | exact ⟨c4, c5⟩ | exact ⟨((b31.other (a := ⟨w.heap.size + 1, 0, none⟩) (by simp) _).other (a := ⟨w.heap.size + 1, 1, none⟩) (by simp) _).c0, ((b31.other (a := ⟨w.heap.size + 1, 0, none⟩) (by simp) _).other (a := ⟨w.heap.size + 1, 1, none⟩) (by simp) _).c1⟩) ((first | (refine step_append_slice _ (by rfl) _ _ 22 (by rfl) (w.heap.size + 2) 3 i0 (.int .i64 0) 1 8 Try.underlying22 hi hz0 hz1 hz2 rfl (by decide) _ _ _ (by rfl) ((show World.ownsRow _ _ _ _ _ _ _ from hE).drew) A n cap (intsV xs) (by rfl) (h2.below (Below.refl _ _).drew).slice intsV_one (by simp; unfold maxLen; omega) (by simp; omega) (by simp) ?_; intro v3 w3 o3 k3 at3; have b31 := b11.grown k3 (by simp [Value.ownBlock]); have b32 := b21.grown k3 (by simp [Value.ownBlock]); have c4 := b31.c0; have c5 := b31.c1; have e0 := b32.c0; have e1 := b32.c1; have e2 := b32.f0; have e3 := b32.f1; have o4 : OwnI w3 (w.heap.size + 2) v3 xs := (by unfold OwnI; rw [hl.out]; have t := o3; rw [show intsV [] ++ intsV xs = intsV xs from rfl] at t; simpa using t); obtain ⟨A3, cap3, rfl, _, _⟩ := o4.form)))
  have z := (b32.set0 (.int .i64 W)).set1 (.slice A3 xs.length cap3)
  have hB3 := ((hB.alloc (by simp; omega) (.cells #[] 3)).drew).grown k3 (by simp; omega) (by intro z hz; simp [Value.ownBlock] at hz; omega)
  go_wp2
  refine bodyPost_ret (v := .agg #[.int .i64 W, .slice A3 xs.length cap3]) (by simp [results, Try.results36, go_sem, z.c0, z.c1]) rfl ⟨_, rfl, ?_, ?_⟩
  · exact ((o4.setCell_below (by simp) _).setCell_below (by simp) _).mono (by omega)
  · exact (hB3.setCell (by simp) _).setCell (by simp) _
def remCell (r : Int × List Int) (x y : Int) : (Int × List Int) × Bool := if inReg r x y = true then ((r.1, r.2.set y.toNat (r.2.getD y.toNat 0 - (2 : Int) ^ x.toNat)), true) else (r, false)
theorem remCell_yes {W : Int} {xs : List Int} {x : Int} {k : Nat} {v : Int} (h : inReg (W, xs) x k = true) (hk : xs[k]? = some v) : remCell (W, xs) x k = ((W, xs.set k (v - (2 : Int) ^ x.toNat)), true) := by
  unfold remCell
  rw [h, if_pos rfl]
  simp only [Int.toNat_natCast]
  rw [List.getD_eq_getElem?_getD, hk]; rfl
theorem inReg_parts {W : Int} {xs : List Int} {x y : Int} (h : inReg (W, xs) x y = true) : ∃ (k : Nat) (v : Int), y = (k : Int) ∧ xs[k]? = some v ∧ bitR v x = true ∧ 0 ≤ x ∧ x < 6 ∧ 0 ≤ v ∧ v < 64 := by
  unfold inReg at h
  simp only [Bool.and_eq_true] at h
  obtain ⟨hr, hc⟩ := h
  obtain ⟨_, W6, _, _, hx⟩ := isReg_parts hr
  unfold cellR at hc
  simp only [Bool.and_eq_true, decide_eq_true_eq] at hc
  obtain ⟨⟨⟨⟨a, b⟩, c⟩, d⟩, e⟩ := hc
  obtain ⟨k, rfl⟩ : ∃ k : Nat, y = (k : Int) := ⟨y.toNat, by omega⟩
  have hk : k < xs.length := by omega
  refine ⟨k, xs[k], rfl, List.getElem?_eq_getElem hk, ?_, a, by omega, ?_⟩
  · simpa [hk] using e
  · have := hx k xs[k] (List.getElem?_eq_getElem hk)
    exact ⟨this.1, this.2.1⟩
theorem shl_small {x : Int} (h0 : 0 ≤ x) (h6 : x < 6) : IntKind.i64.wrap ((2 : Int) ^ x.toNat) = (2 : Int) ^ x.toNat ∧ 1 ≤ (2 : Int) ^ x.toNat ∧ (2 : Int) ^ x.toNat ≤ 32 := by
  obtain ⟨k, rfl⟩ : ∃ k : Nat, x = (k : Int) := ⟨x.toNat, by omega⟩
  have : k = 0 ∨ k = 1 ∨ k = 2 ∨ k = 3 ∨ k = 4 ∨ k = 5 := by omega
  rcases this with rfl | rfl | rfl | rfl | rfl | rfl
  all_goals decide
theorem andNot_dec : ∀ v : Nat, v < 64 → ∀ x : Nat, x < 6 → bitR (v : Int) (x : Int) = true → bits BinOp.andNot IntKind.i64 (v : Int) ((2 : Int) ^ (x : Int).toNat) = (v : Int) - (2 : Int) ^ (x : Int).toNat := by decide +kernel
theorem andNot_bit {v x : Int} (v0 : 0 ≤ v) (v64 : v < 64) (x0 : 0 ≤ x) (x6 : x < 6) (h : bitR v x = true) : bits BinOp.andNot IntKind.i64 v ((2 : Int) ^ x.toNat) = v - (2 : Int) ^ x.toNat := by
  obtain ⟨k, rfl⟩ : ∃ k : Nat, x = (k : Int) := ⟨x.toNat, by omega⟩
  obtain ⟨m, rfl⟩ : ∃ m : Nat, v = (m : Int) := ⟨v.toNat, by omega⟩
  exact andNot_dec m (by omega) k (by omega) h
theorem sub_bit {v x : Int} (v0 : 0 ≤ v) (v64 : v < 64) (x0 : 0 ≤ x) (x6 : x < 6) : IntKind.i64.wrap (v - (2 : Int) ^ x.toNat) = v - (2 : Int) ^ x.toNat := by
  obtain ⟨_, a, b⟩ := shl_small x0 x6
  rw [IntKind.wrap_i64]; omega

set_option maxHeartbeats 1600000 in
theorem implRemoveCell (W : Int) (A : Option Addr) (n cap : Nat) (xs : List Int) (x y : Int) (w : World) (hn : n ≤ 1048576) (h : IntsAt w A n xs) :
    Calls Try.prog 23 #[.agg #[.int .i64 W, .slice A n cap], .int .i64 x, .int .i64 y] w (OwnRPost2 w (remCell (W, xs) x y)) := by
  have hB := below2 w (.cells #[.int .i64 W, .slice A n cap] 27) (.cells #[.int .i64 0, .slice none 0 0] 27)
  have hb1 := (Box2.new w (.int .i64 W) (.slice A n cap) 27).alloc (.cells #[.int .i64 0, .slice none 0 0] 27)
  have hb2 := (Box2.new (w.alloc (.cells #[.int .i64 W, .slice A n cap] 27)) (.int .i64 0) (.slice none 0 0) 27)
  rw [show (w.alloc (.cells #[.int .i64 W, .slice A n cap] 27)).heap.size = w.heap.size + 1 by simp] at hb2
  have hl := Lib.hid h.1
  have h0 := h.below hB
  go_enter Try.func23, Try.ntmps23
  go_wp2_with fail
  refine (copyRegion_any W A n cap xs _ hn h0).mono ?_
  rintro e w1 ⟨vc, rfl, oc, k1⟩
  simp only at oc ⊢
  obtain ⟨Ac, capc, rfl, _, _⟩ := oc.form
  have hB1 := hB.trans (k1.mono hB.size)
  have z1 := k1.size
  simp at z1
  have oclt : ∀ k, (Value.slice Ac xs.length capc).ownBlock = some k → w.heap.size + 2 ≤ k ∧ k < w1.heap.size := fun k hk => by have := oc.lt k hk; simp at this; omega
  have D1 := below_alloc w1 (.cells #[.int .i64 W, .slice Ac xs.length capc] 27)
  have hb1 := hb1.later k1
  have hb2 := hb2.later k1
  have hbo := Box2.new w1 (.int .i64 W) (.slice Ac xs.length capc) 27
  have c0 := hb1.c0
  have c1 := hb1.c1
  have c0' := (hb1.alloc (.cells #[.int .i64 W, .slice Ac xs.length capc] 27)).c0
  have c1' := (hb1.alloc (.cells #[.int .i64 W, .slice Ac xs.length capc] 27)).c1
  have hc := implInRegion W A n cap xs x y _ hn ((h.below hB1).below D1)
  have oc := (oc.below D1).mono (base' := w.heap.size + 2) (by simp)
  have hB2 := hB1.trans (D1.mono hB1.size)
  clear h h0 k1 hB hB1
  cases hr : inReg (W, xs) x y with
  | false =>
    have HR : Hid (remCell (W, xs) x y = ((W, xs), false)) := by show _ = _; unfold remCell; rw [hr]; rfl
    rw [hr] at hc
    clear hr
    go_wp2_with fail
    refine hc.mono ?_
    rintro e w2 ⟨rfl, k2⟩
    have hbo := hbo.later k2
    have hb2 := (hb2.alloc (.cells #[.int .i64 W, .slice Ac xs.length capc] 27)).later k2
    have oc := oc.below k2
    have hB3 := hB2.trans (k2.mono hB2.size)
    clear c0 c1 c0' c1' hb1 hc hB2
    have d0 := hbo.c0
    have d1 := hbo.c1
    have e0 := hb2.c0
    have e1 := hb2.c1
    have e2 := hb2.f0
    have e3 := hb2.f1
    have z := (hb2.set0 (.int .i64 W)).set1 (.slice Ac xs.length capc)
    clear k2
    go_wp2
    refine bodyPost_ret (v := .tuple #[.agg #[.int .i64 W, .slice Ac xs.length capc], .bool false]) (by simp [results, Try.results23, go_sem, z.c0, z.c1]) rfl ?_
    rw [HR.out]
    exact ⟨_, rfl, ((oc.setCell_below (by simp) _).setCell_below (by simp) _).mono (by omega), (hB3.setCell (by simp) _).setCell (by simp) _⟩
  | true =>
    obtain ⟨k, v, rfl, hk, hv, x0, x6, v0, v64⟩ := inReg_parts hr
    have HR : Hid (remCell (W, xs) x k = ((W, xs.set k (v - (2 : Int) ^ x.toNat)), true)) := remCell_yes hr hk
    have HK := Lib.hid hk
    have HV := Lib.hid hv
    have hkn : k < xs.length := (List.getElem?_eq_some_iff.1 hk).1
    rw [hr] at hc
    clear hr hk hv
    go_wp2_with fail
    refine hc.mono ?_
    rintro e w2 ⟨rfl, k2⟩
    have hbo := hbo.later k2
    have hb2 := (hb2.alloc (.cells #[.int .i64 W, .slice Ac xs.length capc] 27)).later k2
    have oc := oc.below k2
    have hB3 := hB2.trans (k2.mono hB2.size)
    clear c0 c1 c0' c1' hb1 hc hB2 hl
    obtain ⟨g, rfl⟩ : ∃ g, Ac = some ⟨g, 0, none⟩ := by
      rcases oc.2 with ⟨he, h0⟩ | ⟨g, _, _, e, _⟩
      · omega
      · injection e with e _ _; exact ⟨g, e⟩
    obtain ⟨P, hP⟩ : ∃ P, P = (2 : Int) ^ x.toNat := ⟨_, rfl⟩
    have hsh : IntKind.i64.wrap ((2 : Int) ^ x.toNat) = P := by rw [hP]; exact (shl_small x0 x6).1
    obtain ⟨p1, p32⟩ := (shl_small x0 x6).2
    rw [← hP] at p1 p32
    have hq : bits BinOp.andNot IntKind.i64 v P = v - P := by rw [hP]; exact andNot_bit v0 v64 x0 x6 HV.out
    have hs := (show World.ownsRow _ _ _ _ _ _ _ from oc).stored k (.int .i64 (v - P))
    rw [intsV_set] at hs
    have HP := Lib.hid hP
    have r1 := (World.ownsRow.cellAt oc k (by omega))
    rw [intsV_get, HK.out] at r1
    simp only [Option.map_some] at r1
    have r2 := World.ownsRow.frozenAt oc k
    have d0 := hbo.c0
    have d1 := hbo.c1
    have hkx : (k : Int) < (xs.length : Int) := by omega
    have hk0 : (0 : Int) ≤ (k : Int) := by omega
    clear k2 hP
    go_wp2
    go_region
    obtain ⟨g1, g2⟩ := oclt g rfl
    have hbo3 := (hbo.other (a := ⟨g, k, none⟩) (by show w1.heap.size ≠ g; omega) (.int .i64 (v - P))).drew
    have hb23 := (hb2.other (a := ⟨g, k, none⟩) (by show w.heap.size + 1 ≠ g; omega) (.int .i64 (v - P))).drew
    have oc3 : OwnI (w2.setCell ⟨g, k, none⟩ (.int .i64 (v - P))).drew (w.heap.size + 2) (.slice (some ⟨g, 0, none⟩) xs.length capc) (xs.set k (v - P)) := by
      unfold OwnI
      rw [List.length_set]
      exact hs.1
    have hB4 := (hB3.setCell (p := ⟨g, k, none⟩) (by show w.heap.size ≤ g; omega) (.int .i64 (v - P))).drew
    have f0 := hbo3.c0
    have f1 := hbo3.c1
    have e0 := hb23.c0
    have e1 := hb23.c1
    have e2 := hb23.f0
    have e3 := hb23.f1
    have hb24 := (hb2.other (a := ⟨g, k, none⟩) (by show w.heap.size + 1 ≠ g; omega) (.int .i64 (v - P)))
    have i0 := hb24.c0
    have i1 := hb24.c1
    have i2 := hb24.f0
    have i3 := hb24.f1
    have z := (hb24.set0 (.int .i64 W)).set1 (.slice (some ⟨g, 0, none⟩) xs.length capc)
    clear hs r1 r2 d0 d1 hsh hq
    go_wp2
    refine bodyPost_ret (v := .tuple #[.agg #[.int .i64 W, .slice (some ⟨g, 0, none⟩) xs.length capc], .bool true]) (by simp [results, Try.results23, go_sem, z.c0, z.c1]) rfl ?_
    rw [HR.out, ← HP.out]
    exact ⟨_, rfl, ((oc3.setCell_below (by simp) _).setCell_below (by simp) _).mono (by omega), (hB4.setCell (by simp) _).setCell (by simp) _⟩
set_option maxHeartbeats 1600000 in
theorem specRemoveCell (W : Int) (A : Option Addr) (n cap : Nat) (xs : List Int) (x y : Int) (w : World) (hn : n ≤ 1048576) (h : IntsAt w A n xs) :
    Calls Try.prog 22 #[.agg #[.int .i64 W, .slice A n cap], .int .i64 x, .int .i64 y] w (OwnRPost2 w (remCell (W, xs) x y)) := by
  have hB := below2 w (.cells #[.int .i64 W, .slice A n cap] 27) (.cells #[.int .i64 0, .slice none 0 0] 27)
  have hb1 := (Box2.new w (.int .i64 W) (.slice A n cap) 27).alloc (.cells #[.int .i64 0, .slice none 0 0] 27)
  have hb2 := (Box2.new (w.alloc (.cells #[.int .i64 W, .slice A n cap] 27)) (.int .i64 0) (.slice none 0 0) 27)
  rw [show (w.alloc (.cells #[.int .i64 W, .slice A n cap] 27)).heap.size = w.heap.size + 1 by simp] at hb2
  have hl := Lib.hid h.1
  have h0 := h.below hB
  go_enter Try.func22, Try.ntmps22
  go_wp2_with fail
  refine (l6Copy_any W A n cap xs _ hn h0).mono ?_
  rintro e w1 ⟨vc, rfl, oc, k1⟩
  simp only at oc ⊢
  obtain ⟨Ac, capc, rfl, _, _⟩ := oc.form
  have hB1 := hB.trans (k1.mono hB.size)
  have z1 := k1.size
  simp at z1
  have oclt : ∀ k, (Value.slice Ac xs.length capc).ownBlock = some k → w.heap.size + 2 ≤ k ∧ k < w1.heap.size := fun k hk => by have := oc.lt k hk; simp at this; omega
  have D1 := below_alloc w1 (.cells #[.int .i64 W, .slice Ac xs.length capc] 27)
  have hb1 := hb1.later k1
  have hb2 := hb2.later k1
  have hbo := Box2.new w1 (.int .i64 W) (.slice Ac xs.length capc) 27
  have c0 := hb1.c0
  have c1 := hb1.c1
  have c0' := (hb1.alloc (.cells #[.int .i64 W, .slice Ac xs.length capc] 27)).c0
  have c1' := (hb1.alloc (.cells #[.int .i64 W, .slice Ac xs.length capc] 27)).c1
  have hc := specInRegion W A n cap xs x y _ hn ((h.below hB1).below D1)
  have oc := (oc.below D1).mono (base' := w.heap.size + 2) (by simp)
  have hB2 := hB1.trans (D1.mono hB1.size)
  clear h h0 k1 hB hB1
  cases hr : inReg (W, xs) x y with
  | false =>
    have HR : Hid (remCell (W, xs) x y = ((W, xs), false)) := by show _ = _; unfold remCell; rw [hr]; rfl
    rw [hr] at hc
    clear hr
    go_wp2_with fail
    refine hc.mono ?_
    rintro e w2 ⟨rfl, k2⟩
    have hbo := hbo.later k2
    have hb2 := (hb2.alloc (.cells #[.int .i64 W, .slice Ac xs.length capc] 27)).later k2
    have oc := oc.below k2
    have hB3 := hB2.trans (k2.mono hB2.size)
    clear c0 c1 c0' c1' hb1 hc hB2
    have d0 := hbo.c0
    have d1 := hbo.c1
    have e0 := hb2.c0
    have e1 := hb2.c1
    have e2 := hb2.f0
    have e3 := hb2.f1
    have z := (hb2.set0 (.int .i64 W)).set1 (.slice Ac xs.length capc)
    clear k2
    go_wp2
    refine bodyPost_ret (v := .tuple #[.agg #[.int .i64 W, .slice Ac xs.length capc], .bool false]) (by simp [results, Try.results22, go_sem, z.c0, z.c1]) rfl ?_
    rw [HR.out]
    exact ⟨_, rfl, ((oc.setCell_below (by simp) _).setCell_below (by simp) _).mono (by omega), (hB3.setCell (by simp) _).setCell (by simp) _⟩
  | true =>
    obtain ⟨k, v, rfl, hk, hv, x0, x6, v0, v64⟩ := inReg_parts hr
    have HR : Hid (remCell (W, xs) x k = ((W, xs.set k (v - (2 : Int) ^ x.toNat)), true)) := remCell_yes hr hk
    have HK := Lib.hid hk
    have HV := Lib.hid hv
    have hkn : k < xs.length := (List.getElem?_eq_some_iff.1 hk).1
    rw [hr] at hc
    clear hr hk hv
    go_wp2_with fail
    refine hc.mono ?_
    rintro e w2 ⟨rfl, k2⟩
    have hbo := hbo.later k2
    have hb2 := (hb2.alloc (.cells #[.int .i64 W, .slice Ac xs.length capc] 27)).later k2
    have oc := oc.below k2
    have hB3 := hB2.trans (k2.mono hB2.size)
    clear c0 c1 c0' c1' hb1 hc hB2 hl
    obtain ⟨g, rfl⟩ : ∃ g, Ac = some ⟨g, 0, none⟩ := by
      rcases oc.2 with ⟨he, h0⟩ | ⟨g, _, _, e, _⟩
      · omega
      · injection e with e _ _; exact ⟨g, e⟩
    obtain ⟨P, hP⟩ : ∃ P, P = (2 : Int) ^ x.toNat := ⟨_, rfl⟩
    have hsh : IntKind.i64.wrap ((2 : Int) ^ x.toNat) = P := by rw [hP]; exact (shl_small x0 x6).1
    obtain ⟨p1, p32⟩ := (shl_small x0 x6).2
    rw [← hP] at p1 p32
    have hq : IntKind.i64.wrap (v - P) = v - P := by rw [hP]; exact (sub_bit v0 v64 x0 x6)
    have hs := (show World.ownsRow _ _ _ _ _ _ _ from oc).stored k (.int .i64 (v - P))
    rw [intsV_set] at hs
    have HP := Lib.hid hP
    have r1 := (World.ownsRow.cellAt oc k (by omega))
    rw [intsV_get, HK.out] at r1
    simp only [Option.map_some] at r1
    have r2 := World.ownsRow.frozenAt oc k
    have d0 := hbo.c0
    have d1 := hbo.c1
    have hkx : (k : Int) < (xs.length : Int) := by omega
    have hk0 : (0 : Int) ≤ (k : Int) := by omega
    clear k2 hP
    go_wp2
    go_region
    obtain ⟨g1, g2⟩ := oclt g rfl
    have hbo3 := (hbo.other (a := ⟨g, k, none⟩) (by show w1.heap.size ≠ g; omega) (.int .i64 (v - P))).drew
    have hb23 := (hb2.other (a := ⟨g, k, none⟩) (by show w.heap.size + 1 ≠ g; omega) (.int .i64 (v - P))).drew
    have oc3 : OwnI (w2.setCell ⟨g, k, none⟩ (.int .i64 (v - P))).drew (w.heap.size + 2) (.slice (some ⟨g, 0, none⟩) xs.length capc) (xs.set k (v - P)) := by
      unfold OwnI
      rw [List.length_set]
      exact hs.1
    have hB4 := (hB3.setCell (p := ⟨g, k, none⟩) (by show w.heap.size ≤ g; omega) (.int .i64 (v - P))).drew
    have f0 := hbo3.c0
    have f1 := hbo3.c1
    have e0 := hb23.c0
    have e1 := hb23.c1
    have e2 := hb23.f0
    have e3 := hb23.f1
    have hb24 := (hb2.other (a := ⟨g, k, none⟩) (by show w.heap.size + 1 ≠ g; omega) (.int .i64 (v - P)))
    have i0 := hb24.c0
    have i1 := hb24.c1
    have i2 := hb24.f0
    have i3 := hb24.f1
    have z := (hb24.set0 (.int .i64 W)).set1 (.slice (some ⟨g, 0, none⟩) xs.length capc)
    clear hs r1 r2 d0 d1 hsh hq
    go_wp2
    refine bodyPost_ret (v := .tuple #[.agg #[.int .i64 W, .slice (some ⟨g, 0, none⟩) xs.length capc], .bool true]) (by simp [results, Try.results22, go_sem, z.c0, z.c1]) rfl ?_
    rw [HR.out, ← HP.out]
    exact ⟨_, rfl, ((oc3.setCell_below (by simp) _).setCell_below (by simp) _).mono (by omega), (hB4.setCell (by simp) _).setCell (by simp) _⟩
end Go.Proofs.Ytpbkpebpidabiaa
