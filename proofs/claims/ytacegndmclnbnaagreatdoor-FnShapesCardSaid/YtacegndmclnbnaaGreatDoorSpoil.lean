/- The reference's draw of a spoilt text, walked: it is some text, hardly longer. Condition: a short text. -/
import Derived.Test.YtacegndmclnbnaaGreatDoorDrawX
import Derived.Deep.RegionHeld3
namespace Go.Proofs.YtacegndmclnbnaaGreatDoor
open Go.RowKit
set_option linter.unusedVariables false

/-- a drawn text of at most m bytes, as a string -/
def StrPost (m : Nat) (b0 B : Nat) (w : World) (e : Ending) (w' : World) : Prop := ∃ t : ByteArray, t.size ≤ m ∧ e = .returned (.string t) ∧ Cur w' b0 B ∧ w.grownBy w' (some B)
theorem u8_range (x : Int) : 0 ≤ IntKind.u8.wrap x ∧ IntKind.u8.wrap x ≤ 255 := by rw [IntKind.wrap_u8]; omega
theorem row_one (w : World) (y : Int) (t : TypeId) (h0 : 0 ≤ y) (h1 : y ≤ 255) : (w.alloc (.cells #[.int .u8 y] t)).ownsRow w.heap.size t 1 (.slice (some ⟨w.heap.size, 0, none⟩) 1 1) 1 (bcells [UInt8.ofNat y.toNat]) := by
  rw [byte_cell h0 h1]
  exact ⟨rfl, Or.inr ⟨w.heap.size, 1, #[.int .u8 y], rfl, Nat.le_refl _, heap_alloc_new w _, Nat.le_refl _, by unfold maxLen; omega, rfl, rfl⟩⟩
set_option maxRecDepth 20000 in
set_option maxHeartbeats 3200000 in
theorem drawSpoil (b0 B : Nat) (s : ByteArray) (w : World) (h : Cur w b0 B) (hs : s.size ≤ 1000) : Calls Tryz.prog 46 #[.pointer (some ⟨B, 0, none⟩), .string s] w (StrPost 1003 b0 B w) := by
  have hBw := h.lt
  by_cases h0 : s.size = 0
  · have T := drawText b0 B 3 w h (by omega)
    go_enter Tryz.func46, Tryz.ntmps46
    go_wp2_with fail
    refine T.mono ?_
    rintro e w1 ⟨l, hl, rfl, hC, hg⟩
    go_wp2
    go_ret
    exact ⟨_, by show l.toArray.size ≤ _; simp; omega, rfl, hC, hg⟩
  · have hpos : (0 : Int) < (s.size : Int) := by omega
    go_enter Tryz.func46, Tryz.ntmps46
    go_wp2_with fail
    refine (drawBelow b0 B s.size w h hpos).mono ?_
    rintro e w1 ⟨r, ⟨hr0, hr1⟩, rfl, hC1, hg1⟩
    obtain ⟨k, rfl⟩ : ∃ k : Nat, r = k := ⟨r.toNat, by omega⟩
    clear h
    go_wp2_with fail
    refine (drawBelow b0 B 4 w1 hC1 (by omega)).mono ?_
    rintro e w2 ⟨q, ⟨hq0, hq1⟩, rfl, hC2, hg2⟩
    have hG2 := hg1.trans hg2
    clear hC1 hg1 hg2
    have f1 : (k : Int) ≤ (s.size : Int) := by omega
    have f2 : (k : Int) + 1 ≤ (s.size : Int) := by omega
    have f3 : (0 : Int) ≤ (k : Int) + 1 := by omega
    have f4 : ((k : Int) + 1).toNat = k + 1 := by omega
    have f5 : IntKind.i64.wrap ((k : Int) + 1) = (k : Int) + 1 := by rw [IntKind.wrap_i64]; omega
    have f6 : k ≤ s.size := by omega
    have f7 : k + 1 ≤ s.size := by omega
    by_cases q0 : q = 0
    · subst q0
      go_wp2
      have g6 : ¬ 9223372036854775807 < k + (s.size - (k + 1)) := by omega
      go_region_held3 (fun _ => True) (exact trivial) (fail)
      have hgd : w2.grownBy w2.drew (some B) := below_any (Below.refl _ _).drew
      go_wp2
      go_ret
      exact ⟨_, by simp only [ByteArray.size_append, ByteArray.size_extract]; omega, rfl, hC2.below (Below.refl _ _).drew, hG2.trans hgd⟩
    · have z0 : (q == 0) = false := by simpa using q0
      by_cases q1 : q = 1
      · subst q1
        go_wp2
        refine wp_region_held_drew (S := fun _ => True) (by kernel_rfl) trivial (fun _ => ?_)
        refine wpAnyH_take (i := 0) (v := .string s) rfl (by kernel_rfl) (by kernel_rfl) (by kernel_rfl) (fun _ _ _ h => h) (Or.inl ⟨by rfl, fun w _ => by go_simp⟩) trivial ?_
        (try simp only [Act.put])
        refine wpAnyH_take (i := 1) (v := .int .i64 k) rfl (by kernel_rfl) (by kernel_rfl) (by kernel_rfl) (fun _ _ _ h => h) (Or.inl ⟨by rfl, fun w _ => by go_simp⟩) trivial ?_
        (try simp only [Act.put])
        refine wpAnyH_take (i := 2) (v := .string (s.extract 0 k)) rfl (by kernel_rfl) (by kernel_rfl) (by kernel_rfl) (fun _ _ _ h => h) (Or.inl ⟨by rfl, fun w _ => by go_simp⟩) trivial ?_
        (try simp only [Act.put])
        refine wpAnyH_take (i := 3) (v := .pointer (some ⟨B, 0, none⟩)) rfl (by kernel_rfl) (by kernel_rfl) (by kernel_rfl) (fun _ _ _ h => h) (Or.inl ⟨by rfl, fun w _ => by go_simp⟩) trivial ?_
        (try simp only [Act.put])
        refine wpAnyH_take (i := 9) (v := .string s) rfl (by kernel_rfl) (by kernel_rfl) (by kernel_rfl) (fun _ _ _ h => h) (Or.inl ⟨by rfl, fun w _ => by go_simp⟩) trivial ?_
        (try simp only [Act.put])
        refine wpAnyH_take (i := 10) (v := .int .i64 k) rfl (by kernel_rfl) (by kernel_rfl) (by kernel_rfl) (fun _ _ _ h => h) (Or.inl ⟨by rfl, fun w _ => by go_simp⟩) trivial ?_
        (try simp only [Act.put])
        refine wpAnyH_take (i := 11) (v := .string (s.extract k s.size)) rfl (by kernel_rfl) (by kernel_rfl) (by kernel_rfl) (fun _ _ _ h => h) (Or.inl ⟨by rfl, fun w _ => by go_simp⟩) trivial ?_
        (try simp only [Act.put])
        refine wpAnyH_ready (rs := [4]) (by kernel_rfl) (by simp) ?_
        refine AllReadyH.cons rfl (fun K hK => ?_) AllReadyH.nil
        go_simp
        go_at_call 76
        refine (drawByte b0 B _ (hC2.below (Below.refl _ _).drew)).mono ?_
        rintro e w3 ⟨y, ⟨hy0, hy1⟩, rfl, hC3, hg3⟩
        refine hK.out _ _ trivial (fun _ => ?_)
        clear hK K
        (try simp only [Act.put])
        have hu : IntKind.u8.wrap y = y := by rw [IntKind.wrap_u8]; omega
        have hc := string_of_own (P := Tryz.prog) (row_one w3 y 5 hy0 hy1) Tryz.underlying22 Tryz.underlying5 Tryz.underlying9
        refine wpAnyH_ready (rs := [5]) (by kernel_rfl) (by simp) ?_
        refine AllReadyH.cons rfl (fun K hK => ?_) AllReadyH.nil
        go_simp
        refine hK.out _ _ trivial (fun _ => ?_)
        clear hK K
        (try simp only [Act.put])
        refine wpAnyH_ready (rs := [6]) (by kernel_rfl) (by simp) ?_
        refine AllReadyH.cons rfl (fun K hK => ?_) AllReadyH.nil
        go_simp
        refine hK.out _ _ trivial (fun _ => ?_)
        clear hK K
        (try simp only [Act.put])
        refine wpAnyH_ready (rs := [7]) (by kernel_rfl) (by simp) ?_
        refine AllReadyH.cons rfl (fun K hK => ?_) AllReadyH.nil
        go_simp
        refine hK.out _ _ trivial (fun _ => ?_)
        clear hK K
        (try simp only [Act.put])
        refine wpAnyH_ready (rs := [8]) (by kernel_rfl) (by simp) ?_
        refine AllReadyH.cons rfl (fun K hK => ?_) AllReadyH.nil
        go_simp
        rw [if_neg (by omega)]
        go_simp
        refine hK.out _ _ trivial (fun _ => ?_)
        clear hK K
        (try simp only [Act.put])
        refine wpAnyH_ready (rs := [12]) (by kernel_rfl) (by simp) ?_
        refine AllReadyH.cons rfl (fun K hK => ?_) AllReadyH.nil
        go_simp
        rw [if_neg (by omega)]
        go_simp
        refine hK.out _ _ trivial (fun _ => ?_)
        clear hK K
        (try simp only [Act.put])
        refine wpAnyH_ready (rs := [13]) (by kernel_rfl) (by simp) ?_
        refine AllReadyH.cons rfl (fun K hK => ?_) AllReadyH.nil
        go_simp
        refine hK.out _ _ trivial (fun _ => ?_)
        clear hK K
        (try simp only [Act.put])
        refine wpAnyH_done (by kernel_rfl) ?_ _
        have hgd : w2.grownBy w2.drew (some B) := below_any (Below.refl _ _).drew
        have hb4 := below_alloc w3 (.cells #[.int .u8 y] 5)
        have h1 : (⟨#[UInt8.ofNat y.toNat]⟩ : ByteArray).size = 1 := rfl
        go_wp2
        go_ret
        exact ⟨_, by simp only [ByteArray.size_append, ByteArray.size_extract, h1]; omega, rfl, hC3.below (below_alloc w3 _), ((hG2.trans hgd).trans hg3).trans (below_any (below_alloc w3 _))⟩
      · have z1 : (q == 1) = false := by simpa using q1
        by_cases q2 : q = 2
        · subst q2
          go_wp2
          go_ret
          exact ⟨_, by simp only [ByteArray.size_extract]; omega, rfl, hC2, hG2⟩
        · have z2 : (q == 2) = false := by simpa using q2
          go_wp2
          have f8 : IntKind.i64.wrap (((s[k]'f7).toNat : Nat) : Int) = (((s[k]'f7).toNat : Nat) : Int) := by have := (s[k]'f7).toNat_lt; rw [IntKind.wrap_i64]; omega
          refine wp_region_held_drew (S := fun _ => True) (by kernel_rfl) trivial (fun _ => ?_)
          refine wpAnyH_take (i := 0) (v := .string s) rfl (by kernel_rfl) (by kernel_rfl) (by kernel_rfl) (fun _ _ _ h => h) (Or.inl ⟨by rfl, fun w _ => by go_simp⟩) trivial ?_
          (try simp only [Act.put])
          refine wpAnyH_take (i := 1) (v := .int .i64 k) rfl (by kernel_rfl) (by kernel_rfl) (by kernel_rfl) (fun _ _ _ h => h) (Or.inl ⟨by rfl, fun w _ => by go_simp⟩) trivial ?_
          (try simp only [Act.put])
          refine wpAnyH_take (i := 2) (v := .string (s.extract 0 k)) rfl (by kernel_rfl) (by kernel_rfl) (by kernel_rfl) (fun _ _ _ h => h) (Or.inl ⟨by rfl, fun w _ => by go_simp⟩) trivial ?_
          (try simp only [Act.put])
          refine wpAnyH_take (i := 3) (v := .string s) rfl (by kernel_rfl) (by kernel_rfl) (by kernel_rfl) (fun _ _ _ h => h) (Or.inl ⟨by rfl, fun w _ => by go_simp⟩) trivial ?_
          (try simp only [Act.put])
          refine wpAnyH_take (i := 4) (v := .int .i64 k) rfl (by kernel_rfl) (by kernel_rfl) (by kernel_rfl) (fun _ _ _ h => h) (Or.inl ⟨by rfl, fun w _ => by go_simp⟩) trivial ?_
          (try simp only [Act.put])
          refine wpAnyH_take (i := 5) (v := .int .u8 ((s[k]'f7).toNat : Int)) rfl (by kernel_rfl) (by kernel_rfl) (by kernel_rfl) (fun _ _ _ h => h) (Or.inl ⟨by rfl, fun w _ => by go_simp⟩) trivial ?_
          (try simp only [Act.put])
          refine wpAnyH_take (i := 6) (v := .int .i64 ((s[k]'f7).toNat : Int)) rfl (by kernel_rfl) (by kernel_rfl) (by kernel_rfl) (fun _ _ _ h => h) (Or.inl ⟨by rfl, fun w _ => by go_simp⟩) trivial ?_
          (try simp only [Act.put])
          refine wpAnyH_take (i := 7) (v := .pointer (some ⟨B, 0, none⟩)) rfl (by kernel_rfl) (by kernel_rfl) (by kernel_rfl) (fun _ _ _ h => h) (Or.inl ⟨by rfl, fun w _ => by go_simp⟩) trivial ?_
          (try simp only [Act.put])
          refine wpAnyH_take (i := 15) (v := .string s) rfl (by kernel_rfl) (by kernel_rfl) (by kernel_rfl) (fun _ _ _ h => h) (Or.inl ⟨by rfl, fun w _ => by go_simp⟩) trivial ?_
          (try simp only [Act.put])
          refine wpAnyH_take (i := 16) (v := .int .i64 k) rfl (by kernel_rfl) (by kernel_rfl) (by kernel_rfl) (fun _ _ _ h => h) (Or.inl ⟨by rfl, fun w _ => by go_simp⟩) trivial ?_
          (try simp only [Act.put])
          refine wpAnyH_take (i := 17) (v := .int .i64 ((k : Int) + 1)) rfl (by kernel_rfl) (by kernel_rfl) (by kernel_rfl) (fun _ _ _ h => h) (Or.inl ⟨by rfl, fun w _ => by go_simp⟩) trivial ?_
          (try simp only [Act.put])
          refine wpAnyH_take (i := 18) (v := .string (s.extract (k + 1) s.size)) rfl (by kernel_rfl) (by kernel_rfl) (by kernel_rfl) (fun _ _ _ h => h) (Or.inl ⟨by rfl, fun w _ => by go_simp⟩) trivial ?_
          (try simp only [Act.put])
          refine wpAnyH_ready (rs := [8]) (by kernel_rfl) (by simp) ?_
          refine AllReadyH.cons rfl (fun K hK => ?_) AllReadyH.nil
          go_simp
          go_at_call 45
          refine (drawBelow b0 B 255 _ (hC2.below (Below.refl _ _).drew) (by omega)).mono ?_
          rintro e w3 ⟨y, ⟨hy0, hy1⟩, rfl, hC3, hg3⟩
          refine hK.out _ _ trivial (fun _ => ?_)
          clear hK K
          (try simp only [Act.put])
          have hu : IntKind.i64.wrap (1 + y) = 1 + y := by rw [IntKind.wrap_i64]; omega
          have hz := u8_range (bits BinOp.xor IntKind.i64 ((s[k]'f7).toNat : Int) (1 + y))
          have hc := string_of_own (P := Tryz.prog) (row_one w3 _ 5 hz.1 hz.2) Tryz.underlying22 Tryz.underlying5 Tryz.underlying9
          refine wpAnyH_ready (rs := [9]) (by kernel_rfl) (by simp) ?_
          refine AllReadyH.cons rfl (fun K hK => ?_) AllReadyH.nil
          go_simp
          refine hK.out _ _ trivial (fun _ => ?_)
          clear hK K
          (try simp only [Act.put])
          refine wpAnyH_ready (rs := [10]) (by kernel_rfl) (by simp) ?_
          refine AllReadyH.cons rfl (fun K hK => ?_) AllReadyH.nil
          go_simp
          refine hK.out _ _ trivial (fun _ => ?_)
          clear hK K
          (try simp only [Act.put])
          refine wpAnyH_ready (rs := [11]) (by kernel_rfl) (by simp) ?_
          refine AllReadyH.cons rfl (fun K hK => ?_) AllReadyH.nil
          go_simp
          refine hK.out _ _ trivial (fun _ => ?_)
          clear hK K
          (try simp only [Act.put])
          refine wpAnyH_ready (rs := [12]) (by kernel_rfl) (by simp) ?_
          refine AllReadyH.cons rfl (fun K hK => ?_) AllReadyH.nil
          go_simp
          refine hK.out _ _ trivial (fun _ => ?_)
          clear hK K
          (try simp only [Act.put])
          refine wpAnyH_ready (rs := [13]) (by kernel_rfl) (by simp) ?_
          refine AllReadyH.cons rfl (fun K hK => ?_) AllReadyH.nil
          go_simp
          refine hK.out _ _ trivial (fun _ => ?_)
          clear hK K
          (try simp only [Act.put])
          refine wpAnyH_ready (rs := [14]) (by kernel_rfl) (by simp) ?_
          refine AllReadyH.cons rfl (fun K hK => ?_) AllReadyH.nil
          go_simp
          rw [if_neg (by omega)]
          go_simp
          refine hK.out _ _ trivial (fun _ => ?_)
          clear hK K
          (try simp only [Act.put])
          refine wpAnyH_ready (rs := [19]) (by kernel_rfl) (by simp) ?_
          refine AllReadyH.cons rfl (fun K hK => ?_) AllReadyH.nil
          go_simp
          rw [if_neg (by omega)]
          go_simp
          refine hK.out _ _ trivial (fun _ => ?_)
          clear hK K
          (try simp only [Act.put])
          refine wpAnyH_ready (rs := [20]) (by kernel_rfl) (by simp) ?_
          refine AllReadyH.cons rfl (fun K hK => ?_) AllReadyH.nil
          go_simp
          refine hK.out _ _ trivial (fun _ => ?_)
          clear hK K
          (try simp only [Act.put])
          refine wpAnyH_done (by kernel_rfl) ?_ _
          all_goals (
            have hgd : w2.grownBy w2.drew (some B) := below_any (Below.refl _ _).drew
            have h1 : ∀ z : UInt8, (⟨#[z]⟩ : ByteArray).size = 1 := fun _ => rfl
            clear hc
            go_wp2
            go_ret
            exact ⟨_, by simp only [ByteArray.size_append, ByteArray.size_extract, h1]; omega, rfl, hC3.below (below_alloc w3 _), ((hG2.trans hgd).trans hg3).trans (below_any (below_alloc w3 _))⟩)
end Go.Proofs.YtacegndmclnbnaaGreatDoor
