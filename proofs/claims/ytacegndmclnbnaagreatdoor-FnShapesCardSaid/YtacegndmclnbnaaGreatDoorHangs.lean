/- IsConnectedShape, the program's: a search by marks. Condition: slices of at most 2^20 cells. -/
import Derived.Test.YtacegndmclnbnaaGreatDoorConnS
import Derived.Maps.AppendAt
namespace Go.Proofs.YtacegndmclnbnaaGreatDoor
open Go.RowKit

def boolsV (bs : List Bool) : List Value := bs.map .bool
theorem boolsV_set (bs : List Bool) (j : Nat) (b : Bool) : (boolsV bs).set j (.bool b) = boolsV (bs.set j b) := by simp [boolsV, List.map_set]
theorem boolsV_get {bs : List Bool} {j : Nat} (h : j < bs.length) : (boolsV bs)[j]? = some (.bool (bs.getD j false)) := by simp [boolsV, h]
theorem Tryz.infoB : (Tryz.prog.info? 4).map (fun i => (i.zero, i.size, i.bytes)) = some (some (.bool false), 1, 1) := by kernel_rfl
structure MInv (cs : List C) (seen : List Bool) : Prop where
  len : seen.length = cs.length
  first : seen.getD 0 false = true
  reach : ∀ j, seen.getD j false = true → Reach cs (cs.getD j (0, 0))
def okPair (cs : List C) (seen : List Bool) (i j : Nat) : Prop := seen.getD i false = true → nearAt cs i j = true → seen.getD j false = true
theorem MInv.add {cs : List C} {seen : List Bool} {i j : Nat} (h : MInv cs seen) (hj : j < cs.length) (hi : seen.getD i false = true) (hn : nearAt cs i j = true) : MInv cs (seen.set j true) := by
  have hl := h.len
  refine ⟨by simpa using h.len, ?_, fun k hk => ?_⟩
  · by_cases h0 : j = 0
    · subst h0; simp [hl, hj]
    · have := h.first
      simp only [List.getD_eq_getElem?_getD] at *
      rwa [List.getElem?_set_ne (by omega)]
  · by_cases hkj : j = k
    · subst hkj
      refine .step _ _ (h.reach i hi) ?_ hn
      have : cs.getD j (0, 0) = cs[j] := by simp [hj]
      rw [this]; exact List.getElem_mem hj
    · refine h.reach k ?_
      simp only [List.getD_eq_getElem?_getD] at *
      rwa [List.getElem?_set_ne (by omega)] at hk
theorem count_set {seen : List Bool} {j : Nat} (hj : j < seen.length) (h : seen.getD j false = false) : (seen.set j true).count true = seen.count true + 1 := by
  have : seen[j] = false := by simpa [hj] using h
  rw [List.count_set hj]
  simp [this]
theorem MInv.start {cs : List C} (h : 0 < cs.length) : MInv cs ((List.replicate cs.length false).set 0 true) := by
  refine ⟨by simp, by simp [h], fun j hj => ?_⟩
  by_cases h0 : j = 0
  · subst h0
    exact .first _ (by simp [h])
  · exfalso
    simp only [List.getD_eq_getElem?_getD] at hj
    rw [List.getElem?_set_ne (by omega)] at hj
    rw [List.getElem?_replicate] at hj
    split at hj <;> simp at hj

theorem boolsV_made (n : Nat) : (madeCells #[.bool false] n).toList = boolsV (List.replicate n false) := by
  apply List.ext_getElem?
  intro j
  by_cases hj : j < n
  · simp [madeCells, boolsV, hj, Nat.mod_one]
  · rw [List.getElem?_eq_none (by simp [madeCells]; omega), List.getElem?_eq_none (by simp [boolsV]; omega)]

open Classical in
set_option maxHeartbeats 3200000 in
theorem implHangs (A : Option Addr) (n cap : Nat) (cs : List C) (t : Bool) (w : World) (ht : t = true ↔ Connected cs) (hs : isShape cs = true) (hn : n ≤ 1048576) (h : CellsAt w A n cs) :
    Calls Tryz.prog 58 #[.slice A n cap] w fun e w' => e = .returned (.bool t) ∧ Below w.heap.size w w' := by
  obtain ⟨i0, hi, hz0, hz1, hz2⟩ := info_parts Tryz.infoB
  have HT := Lib.hid ht
  clear ht
  have hl := shape_len hs
  rw [h.1] at hl
  have hlen := Lib.hid h.1
  have HS := Lib.hid hs
  clear hs
  have n0 : ((n : Int) == 0) = false := by simp; omega
  go_enter Tryz.func58, Tryz.ntmps58
  go_wp2_with (at_make; refine wpList_make_full _ rfl _ _ 103 rfl w.heap.size 4 i0 (.bool false) 1 Tryz.underlying103 hi hz0 hz1 .i64 .i64 n n n rfl rfl rfl rfl ?c1 ?c2 (Nat.le_refl _) ?_)
  case c1 => rw [hz2]; omega
  case c2 => unfold maxLen; omega
  intro w1 hown hgrow
  have hb1 : Below w.heap.size w w1 := (Below.refl _ _).grown hgrow (Nat.le_refl _) (fun _ h => by cases h)
  have hsz := (hown.lt _ rfl).2
  rw [boolsV_made] at hown
  have f1 := World.ownsRow.frozenAt hown 0
  obtain ⟨u1, d1⟩ := row_cell hown (j := 0) (by omega)
  have hown2 := (hown.stored 0 (.bool true)).1
  rw [boolsV_set] at hown2
  have hM := MInv.start (cs := cs) (by rw [hlen.out]; omega)
  rw [hlen.out] at hM
  have hb2 := hb1.setCell (p := ⟨w.heap.size, 0, none⟩) (Nat.le_refl _) (.bool true)
  have hc0 : ((List.replicate n false).set 0 true).count true = 1 := by
    rw [count_set (by simp; omega) (by simp [List.getElem?_replicate]; split <;> rfl)]; simp [List.count_replicate]
  clear hown hgrow
  have z0 : (0 : Int) < (n : Int) := by omega
  have z1 : 0 < n := by omega
  go_wp2
  clear f1 d1
  go_loopw [4, 5, 6, 7, 19, 24] (fun c mo _ _ _ _ wr => ∃ (seen : List Bool) (b : Bool), mo = .bool b ∧ c = .int .i64 (seen.count true : Nat) ∧ Hid (MInv cs seen) ∧ Hid (b = false → ∀ i j, i < n → j < n → okPair cs seen i j) ∧ wr.ownsRow w.heap.size 4 1 (.slice (some ⟨w.heap.size, 0, none⟩) n n) n (boolsV seen) ∧ Below w.heap.size w wr) (fun c mo _ _ _ _ _ => (n - (intOf c).toNat) * 2 + (if mo = .bool true then 1 else 0))
  case atStart => exact ⟨_, true, rfl, by rw [hc0]; rfl, hM, (by show true = false → _; intro h; cases h), hown2, hb2⟩
  case round =>
    obtain ⟨seen, b, rfl, rfl, HM, HC, hown, hb⟩ := hrel
    cases b with
    | true =>
      obtain ⟨q0, hq0⟩ : ∃ q0, q0 = seen.count true := ⟨_, rfl⟩
      have hcl : seen.count true ≤ n := by have := HM.out.len; rw [hlen.out] at this; rw [← this]; exact List.count_le_length
      rw [← hq0] at hcl ⊢
      have HQ0 := Lib.hid hq0
      clear hq0
      go_wp2
      go_loopw [4, 5, 6, 7, 19, 24] (fun c mo _ _ i _ wr => ∃ (seen : List Bool) (b : Bool) (k q : Nat), k ≤ n ∧ i = .int .i64 k ∧ mo = .bool b ∧ c = .int .i64 q ∧ Hid (q = seen.count true) ∧ q ≤ n ∧ Hid (MInv cs seen) ∧ Hid (b = false → ∀ i j, i < k → j < n → okPair cs seen i j) ∧ q0 ≤ q ∧ (b = true → q0 < q) ∧ wr.ownsRow w.heap.size 4 1 (.slice (some ⟨w.heap.size, 0, none⟩) n n) n (boolsV seen) ∧ Below w.heap.size w wr) (fun _ _ _ _ i _ _ => n - (intOf i).toNat)
      case atStart => exact ⟨seen, false, 0, q0, Nat.zero_le _, rfl, rfl, rfl, HQ0.out, hcl, HM.out, (by show false = false → _; intro _ i j hi; omega), Nat.le_refl _, (by intro h; cases h), hown, hb⟩
      case round =>
        clear hown hb HC HM HQ0 hcl
        obtain ⟨seen, b, k, q, hk, rfl, rfl, rfl, HQ, hqn, HM, HC, hq0, hq1, hown, hb⟩ := hrel
        by_cases hkn : k < n
        · go_wp2
          go_loopw [4, 5, 7, 24] (fun c mo _ j wr => ∃ (seen : List Bool) (b : Bool) (m q : Nat), m ≤ n ∧ j = .int .i64 m ∧ mo = .bool b ∧ c = .int .i64 q ∧ Hid (q = seen.count true) ∧ q ≤ n ∧ Hid (MInv cs seen) ∧ Hid (b = false → (∀ i j, i < k → j < n → okPair cs seen i j) ∧ ∀ j, j < m → okPair cs seen k j) ∧ q0 ≤ q ∧ (b = true → q0 < q) ∧ wr.ownsRow w.heap.size 4 1 (.slice (some ⟨w.heap.size, 0, none⟩) n n) n (boolsV seen) ∧ Below w.heap.size w wr) (fun _ _ _ j _ => n - (intOf j).toNat)
          case atStart => exact ⟨seen, b, 0, q, Nat.zero_le _, rfl, rfl, rfl, HQ.out, hqn, HM.out, (by show b = false → _; intro hb; exact ⟨HC.out hb, fun j hj => absurd hj (by omega)⟩), hq0, hq1, hown, hb⟩
          case round =>
            clear hown hb HC HM HQ hq0 hq1 hqn
            obtain ⟨seen, b, m, q, hm, rfl, rfl, rfl, HQ, hqn, HM, HC, hq0, hq1, hown, hb⟩ := hrel
            have hsl := HM.out.len
            rw [hlen.out] at hsl
            by_cases hmn : m < n
            · have r1 := (World.ownsRow.cellAt hown k (by omega)).trans (boolsV_get (by omega))
              have r2 := (World.ownsRow.cellAt hown m (by omega)).trans (boolsV_get (by omega))
              have hgw := (hown.lt _ rfl).2
              have l1 := later_cell hgw r1
              have l2 := later_cell hgw r2
              have k1 : (k : Int) < (n : Int) := by omega
              have m1 : (m : Int) < (n : Int) := by omega
              have HX : Hid (okPair cs seen k m → b = false → (∀ i j, i < k → j < n → okPair cs seen i j) ∧ ∀ j, j < m + 1 → okPair cs seen k j) := by
                show _ → b = false → _
                intro ho hb
                refine ⟨(HC.out hb).1, fun j hj => ?_⟩
                by_cases hjm : j = m
                · rw [hjm]; exact ho
                · exact (HC.out hb).2 j (by omega)
              cases hsk : seen.getD k false with
              | false =>
                have HN := Lib.hid (HX.out (fun h => by rw [hsk] at h; cases h))
                rw [hsk] at l1
                clear HX hsk
                clear h
                go_wp2
                (refine wp_region_later (by kernel_rfl) (by kernel_rfl) ?_; (repeat (go_big_quiet_step (fail))); refine wpQuiet_nil ?_; rintro wq ⟨xq, hxq⟩; have hq := later_below hxq; clear hxq xq)
                have hown := row_below hown hq
                have hb := hb.trans (hq.mono hb.size)
                go_wp2
                go_roundw
                case rel => exact ⟨seen, b, m + 1, q, by omega, by go_num, rfl, rfl, HQ.out, hqn, HM.out, HN.out, hq0, hq1, hown, hb⟩
                case measure => simp [intOf]; omega
              | true =>
                rw [hsk] at l1
                cases hsm : seen.getD m false with
                | true =>
                  have HN := Lib.hid (HX.out (fun _ _ => hsm))
                  rw [hsm] at l2
                  clear HX hsm hsk h
                  go_wp2
                  (refine wp_region_later (by kernel_rfl) (by kernel_rfl) ?_; (repeat (go_big_quiet_step (fail))); refine wpQuiet_nil ?_; rintro wq ⟨xq, hxq⟩; have hq := later_below hxq; clear hxq xq)
                  have hown := row_below hown hq
                  have hb := hb.trans (hq.mono hb.size)
                  go_wp2
                  go_roundw
                  case rel => exact ⟨seen, b, m + 1, q, by omega, by go_num, rfl, rfl, HQ.out, hqn, HM.out, HN.out, hq0, hq1, hown, hb⟩
                  case measure => simp [intOf]; omega
                | false =>
                  rw [hsm] at l2
                  obtain ⟨b1, o1, p', q', rfl, hbl, HP, c1, c2⟩ := (h.below hb).at_ hkn
                  obtain ⟨b2, o2, p2, q2, e1, _, HP2, c3, c4⟩ := (h.below hb).at_ hmn
                  injection e1 with e1
                  injection e1 with e1 e2 _
                  subst e1 e2
                  have l3 := later_cell hbl c1
                  have l4 := later_cell hbl c2
                  have l5 := later_cell hbl c3
                  have l6 := later_cell hbl c4
                  clear h
                  have sA := shape_small HS.out HP.out
                  have sP := shape_small HS.out HP2.out
                  cases hv : nearB (p', q') (p2, q2) with
                  | false =>
                    have HN := Lib.hid (HX.out (fun _ hx => by rw [nearAt_eq HP.out HP2.out, hv] at hx; cases hx))
                    have C1 : ∀ z : Later wr, Calls Tryz.prog 83 #[.agg #[.int .i64 p', .int .i64 q'], .agg #[.int .i64 p2, .int .i64 q2]] z.1 fun e w' => e = .returned (.bool false) ∧ Below z.1.heap.size z.1 w' := fun z => implBeside_eq hv sA sP z.1
                    clear HX hsm hsk hv
                    go_wp2
                    (refine wp_region_later (by kernel_rfl) (by kernel_rfl) ?_; (repeat (go_big_quiet_step ((go_at_call 83; with_reducible exact Calls.later (C1 _))))); refine wpQuiet_nil ?_; rintro wq ⟨xq, hxq⟩; have hq := later_below hxq; clear hxq xq)
                    have hown := row_below hown hq
                    have hb := hb.trans (hq.mono hb.size)
                    go_wp2
                    go_roundw
                    case rel => exact ⟨seen, b, m + 1, q, by omega, by go_num, rfl, rfl, HQ.out, hqn, HM.out, HN.out, hq0, hq1, hown, hb⟩
                    case measure => simp [intOf]; omega
                  | true =>
                    have HM2 := Lib.hid (HM.out.add (j := m) (by rw [hlen.out]; exact hmn) hsk (by rw [nearAt_eq HP.out HP2.out, hv]))
                    have HQ2 := Lib.hid (count_set (by rw [hsl]; exact hmn) hsm)
                    have hcl : (seen.set m true).count true ≤ n := by have := @List.count_le_length Bool _ true (seen.set m true); rw [List.length_set, hsl] at this; exact this
                    rw [HQ2.out, ← HQ.out] at hcl
                    have C1 : ∀ z : Later wr, Calls Tryz.prog 83 #[.agg #[.int .i64 p', .int .i64 q'], .agg #[.int .i64 p2, .int .i64 q2]] z.1 fun e w' => e = .returned (.bool true) ∧ Below z.1.heap.size z.1 w' := fun z => implBeside_eq hv sA sP z.1
                    clear HX hsm hsk hv
                    go_wp2
                    (refine wp_region_later (by kernel_rfl) (by kernel_rfl) ?_; (repeat (go_big_quiet_step ((go_at_call 83; with_reducible exact Calls.later (C1 _))))); refine wpQuiet_nil ?_; rintro wq ⟨xq, hxq⟩; have hq := later_below hxq; clear hxq xq)
                    have hown := row_below hown hq
                    have hb := hb.trans (hq.mono hb.size)
                    have f1 := World.ownsRow.frozenAt hown m
                    obtain ⟨u1, d1⟩ := row_cell hown (j := m) (by omega)
                    have hown2 := (hown.stored m (.bool true)).1
                    rw [boolsV_set] at hown2
                    have hb2 := hb.setCell (p := ⟨w.heap.size, m, none⟩) (Nat.le_refl _) (.bool true)
                    clear hown l1 l2 l3 l4 l5 l6 C1
                    go_wp2
                    go_roundw
                    case rel => exact ⟨seen.set m true, true, m + 1, q + 1, by omega, by go_num, rfl, by go_num, (by show q + 1 = _; rw [HQ2.out, HQ.out]), hcl, HM2.out, (by show true = false → _; intro h; cases h), by omega, (by intro _; omega), hown2, hb2⟩
                    case measure => simp [intOf]; omega
            · obtain rfl : m = n := by omega
              have HN : Hid (b = false → ∀ i j, i < k + 1 → j < m → okPair cs seen i j) := by
                show b = false → _
                intro hb i j hi hj
                by_cases hik : i = k
                · rw [hik]; exact (HC.out hb).2 j hj
                · exact (HC.out hb).1 i j (by omega) hj
              clear h
              go_wp2
              go_roundw
              case rel => exact ⟨seen, b, k + 1, q, by omega, by go_num, rfl, rfl, HQ.out, hqn, HM.out, HN.out, hq0, hq1, hown, hb⟩
              case measure => simp [intOf]; omega
        · obtain rfl : k = n := by omega
          clear h
          go_wp2
          go_roundw
          case rel => exact ⟨seen, b, rfl, by rw [HQ.out], HM.out, HC.out, hown, hb⟩
          case measure =>
            cases b with
            | true => have := hq1 rfl; simp [intOf]; omega
            | false => simp [intOf]; omega
    | false =>
      have HR : Hid ((((seen.count true : Nat) : Int) == (n : Int)) = t) := by
        show _ = t
        have hsl := HM.out.len
        have := marks_end HS.out hsl HM.out.first HM.out.reach (fun i j hi hj => HC.out rfl i j (by rw [hlen.out] at hi; exact hi) (by rw [hlen.out] at hj; exact hj))
        rw [hlen.out] at this
        by_cases hx : seen.count true = n
        · rw [HT.out.2 (this.1 hx)]; simp [hx]
        · have ht : t = false := by cases hh : t with
            | false => rfl
            | true => exact absurd (this.2 (HT.out.1 hh)) hx
          rw [ht]; simp; omega
      clear h
      go_wp2
      go_ret
      exact ⟨ret_bool HR.out, hb⟩
end Go.Proofs.YtacegndmclnbnaaGreatDoor
