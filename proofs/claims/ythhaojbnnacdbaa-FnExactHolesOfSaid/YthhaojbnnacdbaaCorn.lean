/- Cells in their corner: the program's corner, the reference's l2Corner; CornerShape. Condition: small coordinates. -/
import Derived.Test.YthhaojbnnacdbaaSortP
import Derived.Test.YthhaojbnnacdbaaSortS
namespace Go.Proofs.Ythhaojbnnacdbaa
open Go.RowKit

def smallL (cs : List C) : Prop := ∀ c, c ∈ cs → smallC c
theorem smallL.at_ {cs : List C} (h : smallL cs) (k : Nat) (c : C) (hk : cs[k]? = some c) : smallC c := h c (List.mem_of_getElem? hk)
theorem smallL.min1 {cs : List C} (h : smallL cs) (hne : cs ≠ []) : -100 ≤ minOf (·.1) cs ∧ minOf (·.1) cs ≤ 100 := by
  obtain ⟨c, hc, e⟩ := minOf_mem (·.1) hne
  rw [e]; exact ⟨(h c hc).1, (h c hc).2.1⟩
theorem smallL.min2 {cs : List C} (h : smallL cs) (hne : cs ≠ []) : -100 ≤ minOf (·.2) cs ∧ minOf (·.2) cs ≤ 100 := by
  obtain ⟨c, hc, e⟩ := minOf_mem (·.2) hne
  rw [e]; exact ⟨(h c hc).2.2.1, (h c hc).2.2.2⟩
theorem min_next (f : C → Int) {cs : List C} {k : Nat} {c : C} (h0 : 0 < cs.length) (hk : cs[k]? = some c) : minOf f (cs.take 1 ++ cs.take (k + 1)) = min (minOf f (cs.take 1 ++ cs.take k)) (f c) := by
  rw [take_next hk, ← List.append_assoc, minOf_snoc]
  cases cs with
  | nil => simp at h0
  | cons a r => simp
theorem min_end (f : C → Int) {cs : List C} : minOf f (cs.take 1 ++ cs.take cs.length) = minOf f cs := by
  refine minOf_same fun c => ?_
  rw [List.take_length, List.mem_append]
  exact ⟨fun h => h.elim List.mem_of_mem_take id, Or.inr⟩

set_option maxHeartbeats 1600000 in
theorem implCorner (A : Option Addr) (n cap : Nat) (cs : List C) (w : World) (hst : SortsAt n) (h0 : 0 < n) (hsm : smallL cs) (hn : n ≤ 1048576) (h : CellsAt w A n cs) :
    Calls Try.prog 89 #[.slice A n cap] w (OwnPost w (sortC (cornerC cs))) := by
  have hl := Lib.hid h.1
  have HSM := Lib.hid hsm
  have HST := Lib.hid hst
  have hcl : 0 < cs.length := by rw [h.1]; exact h0
  have HNE : Hid (cs ≠ []) := by show _ ≠ _; intro e; rw [e] at hcl; simp at hcl
  clear hsm hst hcl
  obtain ⟨b, o, x, y, rfl, hbl, HK, c1, c2⟩ := h.at_ (k := 0) h0
  rw [Nat.zero_mul, Nat.add_zero] at c1 c2
  have h0i : (0 : Int) < (n : Int) := by omega
  go_enter Try.func89, Try.ntmps89
  go_wp2
  go_quiet (fail)
  go_wp2
  have m1 : minOf (·.1) (cs.take 1 ++ cs.take 0) = x := by
    have : cs.take 1 = [(x, y)] := by rw [show (1 : Nat) = 0 + 1 from rfl, take_next HK.out]; rfl
    rw [this]; rfl
  have m2 : minOf (·.2) (cs.take 1 ++ cs.take 0) = y := by
    have : cs.take 1 = [(x, y)] := by rw [show (1 : Nat) = 0 + 1 from rfl, take_next HK.out]; rfl
    rw [this]; rfl
  have M1 := Lib.hid m1.symm
  have M2 := Lib.hid m2.symm
  have SX := HSM.out.at_ 0 _ HK.out
  clear m1 m2 c1 c2
  go_loopw [3, 4, 6, 17] (fun vx vy _ i wr => ∃ (k : Nat) (x y : Int), k ≤ n ∧ i = .int .i64 k ∧ vx = .int .i64 x ∧ vy = .int .i64 y ∧ Hid (x = minOf (·.1) (cs.take 1 ++ cs.take k)) ∧ Hid (y = minOf (·.2) (cs.take 1 ++ cs.take k)) ∧ smallC (x, y) ∧ Below w.heap.size w wr) (fun _ _ _ i _ => n - (intOf i).toNat)
  case atStart => exact ⟨0, x, y, Nat.zero_le _, rfl, rfl, rfl, M1.out, M2.out, SX, below_drewN (Below.refl _ _) _⟩
  case round =>
    clear M1 M2 SX HK
    obtain ⟨k, x, y, hk, rfl, rfl, rfl, M1, M2, ⟨x1, x2, y1, y2⟩, hb⟩ := hrel
    simp only at x1 x2 y1 y2
    by_cases hlt : k < n
    · obtain ⟨b, o, p, q, e, hbl, HK, c1, c2⟩ := (h.below hb).at_ hlt
      injection e with e
      injection e with e1 e2
      subst e1 e2
      obtain ⟨p1, p2, q1, q2⟩ := HSM.out.at_ k _ HK.out
      simp only at p1 p2 q1 q2
      have hb1 := hb.trans ((below_alloc wr (.cells #[.int .i64 p, .int .i64 q] 58)).mono hb.size)
      have N1 : Hid (min x p = minOf (·.1) (cs.take 1 ++ cs.take (k + 1))) := by show _ = _; rw [min_next (·.1) (by have := hl.out; omega) HK.out, ← M1.out]
      have N2 : Hid (min y q = minOf (·.2) (cs.take 1 ++ cs.take (k + 1))) := by show _ = _; rw [min_next (·.2) (by have := hl.out; omega) HK.out, ← M2.out]
      clear h
      go_wp2
      go_quiet (fail)
      go_wp2
      go_roundw
      case rel =>
        exact ⟨k + 1, _, _, by omega, by go_num, rfl, rfl, N1.out, N2.out, ⟨by show -100 ≤ min x p; omega, by show min x p ≤ 100; omega, by show -100 ≤ min y q; omega, by show min y q ≤ 100; omega⟩, below_drewN hb1 _⟩
      case measure => simp [intOf]; omega
    · obtain rfl : k = n := by omega
      have HE : Hid (movC cs (-x) (-y) = cornerC cs) := by
        show _ = _
        unfold cornerC
        rw [M1.out, M2.out, ← hl.out, min_end, min_end]
      have hm := implMoved (some ⟨b, o, none⟩) k cap cs (-x) (-y) wr (fun j c hj => HSM.out.at_ j c hj) ⟨by show -100 ≤ -x; omega, by show -x ≤ 100; omega, by show -100 ≤ -y; omega, by show -y ≤ 100; omega⟩ hn (h.below hb)
      clear h
      go_wp2_with fail
      refine hm.mono ?_
      rintro e w1 ⟨v, rfl, hO, hb1⟩
      obtain ⟨A1, cap1, rfl, hr, _⟩ := hO.form
      have hlen : (movC cs (-x) (-y)).length = k := by rw [movC_length]; exact hl.out
      rw [hlen] at hr ⊢
      have hB := hb.trans (hb1.mono hb.size)
      clear hO hm hlen
      go_wp2_with fail
      refine (implSort A1 k cap1 _ w1 HST.out hn hr).mono ?_
      rintro e w2 ⟨v2, rfl, hO2, hb2⟩
      rw [HE.out] at hO2
      go_wp2
      go_ret
      exact ⟨_, rfl, hO2.mono hB.size, hB.trans (hb2.mono hB.size)⟩
theorem min_grow (f : C → Int) {cs : List C} {k : Nat} {c : C} (h0 : 0 < k) (hk : cs[k]? = some c) : minOf f (cs.take (k + 1)) = min (minOf f (cs.take k)) (f c) := by
  rw [take_next hk, minOf_snoc]
  intro e
  have h1 := (List.getElem?_eq_some_iff.1 hk).1
  have h2 : (cs.take k).length = k := by rw [List.length_take]; omega
  rw [e] at h2
  have h3 : (0 : Nat) = k := h2
  omega
set_option maxHeartbeats 3200000 in
theorem specCorner (A : Option Addr) (n cap : Nat) (cs : List C) (w : World) (hsm : smallL cs) (hn : n ≤ 1048576) (h : CellsAt w A n cs) :
    Calls Try.prog 84 #[.slice A n cap] w (OwnPost w (cornerC cs)) := by
  obtain ⟨i0, hi, hz0, hz1, hz2⟩ := info_parts Try.infoC
  have hl := Lib.hid h.1
  have HSM := Lib.hid hsm
  have hE := own_empty w
  have hbE := below_alloc w (.cells #[] 58)
  have h1 := h.below hbE
  clear hsm
  go_enter Try.func84, Try.ntmps84
  go_wp2
  go_loopw [4, 5, 6] (fun vx vy i wr => ∃ (k : Nat) (x y : Int), k ≤ n ∧ i = .int .i64 k ∧ vx = .int .i64 x ∧ vy = .int .i64 y ∧ Hid (x = minOf (·.1) (cs.take k)) ∧ Hid (y = minOf (·.2) (cs.take k)) ∧ smallC (x, y) ∧ wr = w.alloc (.cells #[] 58)) (fun _ _ i _ => n - (intOf i).toNat)
  case atStart => exact ⟨0, 0, 0, Nat.zero_le _, rfl, rfl, rfl, rfl, rfl, ⟨by show (-100 : Int) ≤ 0; omega, by show (0 : Int) ≤ 100; omega, by show (-100 : Int) ≤ 0; omega, by show (0 : Int) ≤ 100; omega⟩, rfl⟩
  case round =>
    obtain ⟨k, x, y, hk, rfl, rfl, rfl, M1, M2, ⟨x1, x2, y1, y2⟩, rfl⟩ := hrel
    simp only at x1 x2 y1 y2
    by_cases hlt : k < n
    · obtain ⟨b, o, p, q, rfl, hbl, HK, c1, c2⟩ := h1.at_ hlt
      obtain ⟨p1, p2, q1, q2⟩ := HSM.out.at_ k _ HK.out
      simp only at p1 p2 q1 q2
      have hki : (k : Int) < (n : Int) := by omega
      clear h h1 hE hbE
      by_cases hk0 : k = 0
      · have e0 : ((k : Int) == 0) = true := by simp; omega
        have N1 : Hid (p = minOf (·.1) (cs.take (k + 1))) := by show _ = _; rw [take_next HK.out, hk0]; rfl
        have N2 : Hid (q = minOf (·.2) (cs.take (k + 1))) := by show _ = _; rw [take_next HK.out, hk0]; rfl
        clear hk0
        go_wp2
        go_roundw
        case rel => exact ⟨k + 1, p, q, by omega, by go_num, rfl, rfl, N1.out, N2.out, ⟨p1, p2, q1, q2⟩, (by first | rfl | trivial)⟩
        case measure => simp [intOf]; omega
      · have e0 : ((k : Int) == 0) = false := by simp; omega
        have N1 : Hid (min x p = minOf (·.1) (cs.take (k + 1))) := by show _ = _; rw [min_grow (·.1) (by omega) HK.out, ← M1.out]
        have N2 : Hid (min y q = minOf (·.2) (cs.take (k + 1))) := by show _ = _; rw [min_grow (·.2) (by omega) HK.out, ← M2.out]
        clear hk0
        by_cases hx : p < x <;> by_cases hy : q < y
        all_goals
          go_wp2
          go_roundw
          case rel =>
            refine ⟨k + 1, _, _, by omega, by go_num, rfl, rfl, ?_, ?_, ⟨?_, ?_, ?_, ?_⟩, (by first | rfl | trivial)⟩
            · show _ = _; rw [← N1.out]; omega
            · show _ = _; rw [← N2.out]; omega
            all_goals simp only; omega
          case measure => simp [intOf]; omega
    · obtain rfl : k = n := by omega
      have HE : Hid (movC cs (-x) (-y) = cornerC cs) := by
        show _ = _
        unfold cornerC
        rw [M1.out, M2.out, ← hl.out, List.take_length]
      clear h1
      go_wp2
      go_loopw [3, 7] (fun v i wr => ∃ j : Nat, j ≤ k ∧ i = .int .i64 j ∧ wr.ownsRow w.heap.size 58 2 v j (flat (movC (cs.take j) (-x) (-y))) ∧ Below w.heap.size w wr) (fun _ i _ => k - (intOf i).toNat)
      case atStart => exact ⟨0, Nat.zero_le _, rfl, hE, hbE⟩
      case round =>
        clear hE hbE
        obtain ⟨j, hj, rfl, hown, hb⟩ := hrel
        by_cases hlt : j < k
        · obtain ⟨b, o, p, q, rfl, hbl, HP, d1, d2⟩ := h.at_ hlt
          clear h
          obtain ⟨z1, z2, z3, z4⟩ := HSM.out.at_ j _ HP.out
          simp only at z1 z2 z3 z4
          have hsz := hb.size
          have c1 := cell_on hb hbl d1
          have c2 := cell_on hb hbl d2
          have hbl' : b < wr.heap.size := by omega
          have a1 := cell_on (below_alloc wr (.cells #[.int .i64 (p - x), .int .i64 (q - y)] 58)) hbl' c1
          have a2 := cell_on (below_alloc wr (.cells #[.int .i64 (p - x), .int .i64 (q - y)] 58)) hbl' c2
          have e2 : (0 : Int) ≤ (j : Int) := by omega
          have e3 : (j : Int) < (k : Int) := by omega
          have hw1 : IntKind.i64.wrap (p - x) = p - x := by rw [IntKind.wrap_i64]; omega
          have hw2 : IntKind.i64.wrap (q - y) = q - y := by rw [IntKind.wrap_i64]; omega
          go_wp2
          go_region_held3 (fun ω => ω.cell? ⟨b, o + j * 2, none⟩ = some (.int .i64 p) ∧ ω.cell? ⟨b, o + j * 2 + 1, none⟩ = some (.int .i64 q)) (first | exact ⟨c1, c2⟩ | exact ⟨a1, a2⟩ | exact ⟨cell_on (below_append hb hown hsz hgrow) hbl d1, cell_on (below_append hb hown hsz hgrow) hbl d2⟩) ((refine step_append_lies _ (by rfl) _ _ _ (by rfl) w.heap.size 58 i0 (.agg #[.int .i64 0, .int .i64 0]) 2 16 Try.underlying25 hi hz0 hz1 hz2 rfl (by decide) _ _ _ (by rfl) ((hown.alloc _).drew) ⟨wr.heap.size, 0, none⟩ 1 1 (flat [(p - x, q - y)]) (by rfl) (by rfl) (World.news_of_block (cs := #[.int .i64 (p - x), .int .i64 (q - y)]) (t := 58) (fr := (0, 0)) (heap_alloc_new wr _)) flat_one (by omega) (by unfold maxLen; omega) (by omega) (by simp; omega) (wr.heap.size + 1) (by simp) ?_; intro g cap' w1' hown1 hgrow hat hlt1))
          all_goals
            have R1 := below_append hb hown hsz hgrow
            rw [← flat_append, show ([(p - x, q - y)] : List C) = [(p + -x, q + -y)] by rw [Int.sub_eq_add_neg, Int.sub_eq_add_neg], ← movC_take HP.out] at hown1
            clear hgrow hat hlt1 hown d1 d2 c1 c2 a1 a2 hw1 hw2
            go_wp2
            go_roundw
            case rel => exact ⟨j + 1, by omega, by go_num, hown1, R1⟩
            case measure => simp [intOf]; omega
        · obtain rfl : j = k := by omega
          rw [List.take_of_length_le (by rw [hl.out]; exact Nat.le_refl _), HE.out] at hown
          have hO : Own wr w.heap.size u3 (cornerC cs) := by unfold Own; rw [cornerC_length, hl.out]; exact hown
          clear h
          go_wp2
          go_ret
          exact ⟨_, rfl, hO, hb⟩
end Go.Proofs.Ythhaojbnnacdbaa
