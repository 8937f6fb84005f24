/- IsConnectedShape, the reference's: a breadth-first search. Condition: slices of at most 2^20 cells. -/
import Derived.Test.YthhaojbnnacdbaaConnM
import Derived.Test.YthhaojbnnacdbaaMove
import Derived.Test.YthhaojbnnacdbaaSquares
namespace Go.Proofs.Ythhaojbnnacdbaa
open Go.RowKit

structure BInv (cs l : List C) (i : Nat) (a : C) (k : Nat) : Prop where
  nodup : l.Nodup
  first : ∀ c, cs[0]? = some c → c ∈ l
  reach : ∀ c, c ∈ l → Reach cs c
  done : ∀ j, j < i → ∀ b, b ∈ cs → nearB (l.getD j (0, 0)) b = true → b ∈ l
  at_ : l[i]? = some a
  part : ∀ j, j < k → ∀ b, cs[j]? = some b → nearB a b = true → b ∈ l
structure BHead (cs l : List C) (i : Nat) : Prop where
  nodup : l.Nodup
  first : ∀ c, cs[0]? = some c → c ∈ l
  reach : ∀ c, c ∈ l → Reach cs c
  done : ∀ j, j < i → ∀ b, b ∈ cs → nearB (l.getD j (0, 0)) b = true → b ∈ l
theorem BHead.start {cs : List C} {c : C} (h : cs[0]? = some c) : BHead cs [c] 0 :=
  ⟨by simp, fun d hd => by rw [h] at hd; injection hd with hd; simp [hd], fun d hd => by rw [List.mem_singleton.1 hd]; exact .first c h, fun j hj => absurd hj (by omega)⟩
theorem BHead.into {cs l : List C} {i : Nat} {a : C} (h : BHead cs l i) (ha : l[i]? = some a) : BInv cs l i a 0 :=
  ⟨h.nodup, h.first, h.reach, h.done, ha, fun j hj => absurd hj (by omega)⟩
theorem BInv.out {cs l : List C} {i k : Nat} {a : C} (h : BInv cs l i a k) (hk : cs.length ≤ k) : BHead cs l (i + 1) :=
  ⟨h.nodup, h.first, h.reach, fun j hj b hb hn => by
    by_cases hji : j = i
    · subst hji
      have : l.getD j (0, 0) = a := by simp [List.getD_eq_getElem?_getD, h.at_]
      rw [this] at hn
      obtain ⟨m, hm, rfl⟩ := List.getElem_of_mem hb
      exact h.part m (by omega) _ (List.getElem?_eq_getElem hm) hn
    · exact h.done j (by omega) b hb hn⟩
theorem BInv.skip {cs l : List C} {i k : Nat} {a b : C} (h : BInv cs l i a k) (hb : cs[k]? = some b) (hs : nearB a b = true → b ∈ l) : BInv cs l i a (k + 1) :=
  ⟨h.nodup, h.first, h.reach, h.done, h.at_, fun j hj c hc hn => by
    by_cases hjk : j = k
    · subst hjk; rw [hb] at hc; injection hc with hc; subst hc; exact hs hn
    · exact h.part j (by omega) c hc hn⟩
theorem BInv.add {cs l : List C} {i k : Nat} {a b : C} (h : BInv cs l i a k) (hb : cs[k]? = some b) (hn : nearB a b = true) (hl : ¬ b ∈ l) : BInv cs (l ++ [b]) i a (k + 1) := by
  have hil := (List.getElem?_eq_some_iff.1 h.at_).1
  refine ⟨?_, fun c hc => List.mem_append_left _ (h.first c hc), fun c hc => ?_, fun j hj c hc hn' => ?_, ?_, fun j hj c hc hn' => ?_⟩
  · rw [List.nodup_append]
    refine ⟨h.nodup, by simp, fun x hx y hy e => ?_⟩
    rw [List.mem_singleton.1 hy] at e
    exact hl (e ▸ hx)
  · rcases List.mem_append.1 hc with hc | hc
    · exact h.reach c hc
    · rw [List.mem_singleton.1 hc]; exact .step a b (h.reach a (List.mem_of_getElem? h.at_)) (List.mem_of_getElem? hb) hn
  · have : (l ++ [b]).getD j (0, 0) = l.getD j (0, 0) := by
      simp only [List.getD_eq_getElem?_getD]; rw [List.getElem?_append_left (by omega)]
    rw [this] at hn'
    exact List.mem_append_left _ (h.done j hj c hc hn')
  · rw [List.getElem?_append_left hil]; exact h.at_
  · by_cases hjk : j = k
    · subst hjk; rw [hb] at hc; injection hc with hc; subst hc; exact List.mem_append_right _ (List.mem_singleton.2 rfl)
    · exact List.mem_append_left _ (h.part j (by omega) c hc hn')
theorem BInv.len {cs l : List C} {i k : Nat} {a : C} (h : BInv cs l i a k) : i < l.length ∧ l.length ≤ cs.length :=
  ⟨(List.getElem?_eq_some_iff.1 h.at_).1, length_le_of_sub h.nodup fun c hc => (h.reach c hc).mem⟩
theorem BHead.len {cs l : List C} {i : Nat} (h : BHead cs l i) : l.length ≤ cs.length := length_le_of_sub h.nodup fun c hc => (h.reach c hc).mem
theorem mem_memC {l : List C} {x y : Int} : memC l x y = true ↔ (x, y) ∈ l := by
  rw [memC_iff]
  constructor
  · rintro ⟨k, hk, e⟩
    have : l[k] = (x, y) := by simpa [hk] using e
    exact this ▸ List.getElem_mem hk
  · intro h
    obtain ⟨k, hk, e⟩ := List.getElem_of_mem h
    exact ⟨k, hk, by simpa [hk] using e⟩

theorem small_mem {cs : List C} (h : isShape cs = true) {c : C} (hc : c ∈ cs) : smallC c := by
  obtain ⟨k, hk, rfl⟩ := List.getElem_of_mem hc
  exact shape_small h (List.getElem?_eq_getElem hk)
theorem own_one (w : World) (p q : Int) : Own (w.alloc (.cells #[.int .i64 p, .int .i64 q] 58)) w.heap.size (.slice (some ⟨w.heap.size, 0, none⟩) 1 1) [(p, q)] :=
  ⟨rfl, Or.inr ⟨w.heap.size, 1, #[.int .i64 p, .int .i64 q], rfl, Nat.le_refl _, heap_alloc_new w _, Nat.le_refl _, by unfold maxLen; omega, rfl, rfl⟩⟩
open Classical in
noncomputable def connected (cs : List C) : Bool := isShape cs && decide (Connected cs)

open Classical in
set_option maxHeartbeats 3200000 in
theorem specIsConnected (A : Option Addr) (n cap : Nat) (cs : List C) (w : World) (hn : n ≤ 1048576) (h : CellsAt w A n cs) :
    Calls Try.prog 86 #[.slice A n cap] w fun e w' => e = .returned (.bool (connected cs)) ∧ Below w.heap.size w w' := by
  obtain ⟨i0, hi, hz0, hz1, hz2⟩ := info_parts Try.infoC
  have hc := specIsShape A n cap cs w hn h
  cases hs : isShape cs with
  | false =>
    have HR : Hid (false = connected cs) := by show _ = _; unfold connected; rw [hs]; rfl
    rw [hs] at hc
    clear hs
    go_enter Try.func86, Try.ntmps86
    go_wp2_with fail
    refine hc.mono ?_
    rintro e w1 ⟨rfl, hb⟩
    go_wp2
    go_ret
    exact ⟨ret_bool HR.out, hb⟩
  | true =>
    have hl := shape_len hs
    rw [h.1] at hl
    have hlen := Lib.hid h.1
    have HS := Lib.hid hs
    rw [hs] at hc
    clear hs
    go_enter Try.func86, Try.ntmps86
    go_wp2_with fail
    refine hc.mono ?_
    rintro e w1 ⟨rfl, hb1⟩
    clear hc
    obtain ⟨b, o, p, q, rfl, hbl, HP, c1, c2⟩ := (h.below hb1).at_ (k := 0) (by omega)
    rw [Nat.zero_mul, Nat.add_zero] at c1 c2
    have i1 : (0 : Int) < (n : Int) := by omega
    have i2 : 0 < n := by omega
    have hB0 := BHead.start HP.out
    have hO1 := (own_one w1 p q).mono hb1.size
    have hb2 := hb1.trans ((below_alloc w1 (.cells #[.int .i64 p, .int .i64 q] 58)).mono hb1.size)
    go_wp2
    clear c1 c2 hbl
    go_loopw [3, 4, 5] (fun v i _ wr => ∃ (l : List C) (k : Nat), k ≤ l.length ∧ i = .int .i64 k ∧ Hid (BHead cs l k) ∧ l.length ≤ n ∧ Own wr w.heap.size v l ∧ Below w.heap.size w wr) (fun _ i _ _ => n - (intOf i).toNat)
    case atStart => exact ⟨[(p, q)], 0, Nat.zero_le _, rfl, hB0, i2, hO1, hb2⟩
    case round =>
      obtain ⟨l, k, hk, rfl, HB, hln, hown, hb⟩ := hrel
      obtain ⟨A', cap', rfl, hr, _⟩ := hown.form
      by_cases hlt : k < l.length
      · obtain ⟨b', o', x, y, rfl, _, HA, _, _⟩ := hr.at_ hlt
        have HI := Lib.hid (HB.out.into HA.out)
        clear HB hr
        go_wp2
        go_loopw [3, 5] (fun v j wr => ∃ (l : List C) (m : Nat), m ≤ n ∧ j = .int .i64 m ∧ Hid (BInv cs l k (x, y) m) ∧ Own wr w.heap.size v l ∧ Below w.heap.size w wr) (fun _ j _ => n - (intOf j).toNat)
        case atStart => exact ⟨l, 0, Nat.zero_le _, rfl, HI.out, hown, hb⟩
        case round =>
          clear hown hb HI HA hlt hk hln
          obtain ⟨l, m, hm, rfl, HI, hown, hb⟩ := hrel
          obtain ⟨A', cap', rfl, hr, hll⟩ := hown.form
          have hkl := HI.out.len
          rw [hlen.out] at hkl
          obtain ⟨hk1, hk2⟩ := hkl
          by_cases hmn : m < n
          · obtain ⟨b1, o1, p, q, e1, hbl, HP, c1, c2⟩ := (h.below hb).at_ hmn
            injection e1 with e1
            injection e1 with e1 e2 _
            subst e1 e2
            obtain ⟨b', o', x', y', rfl, hbl', HA, c1', c2'⟩ := hr.at_ hk1
            have he := HI.out.at_
            rw [HA.out] at he
            injection he with he
            injection he with he1 he2
            subst he1 he2
            have sA := small_mem HS.out ((HI.out.reach _ (List.mem_of_getElem? HA.out)).mem)
            have sP := shape_small HS.out HP.out
            have l1 := later_cell hbl c1
            have l2 := later_cell hbl c2
            have l3 := later_cell hbl' c1'
            have l4 := later_cell hbl' c2'
            have j1 : (m : Int) < (n : Int) := by omega
            have j2 : (k : Int) < (l.length : Int) := by omega
            have j3 : (0 : Int) ≤ (m : Int) := by omega
            have j4 : (0 : Int) ≤ (k : Int) := by omega
            cases hv : nearB (x', y') (p, q) with
            | false =>
              have HN := Lib.hid (HI.out.skip HP.out (fun hn => by rw [hv] at hn; cases hn))
              have C1 : ∀ z : Later wr, Calls Try.prog 110 #[.agg #[.int .i64 x', .int .i64 y'], .agg #[.int .i64 p, .int .i64 q]] z.1 fun e w' => e = .returned (.bool false) ∧ Below z.1.heap.size z.1 w' := fun z => specNear_eq hv sA sP z.1
              clear hv hr h
              go_wp2
              (refine wp_region_later (by kernel_rfl) (by kernel_rfl) ?_; (repeat (go_big_quiet_step ((go_at_call 110; with_reducible exact Calls.later (C1 _))))); refine wpQuiet_nil ?_; rintro wq ⟨xq, hxq⟩; have hq := later_below hxq; clear hxq xq)
              have hb := hb.trans (hq.mono hb.size)
              have hown := hown.below hq
              go_wp2
              go_roundw
              case rel => exact ⟨l, m + 1, by omega, by go_num, HN, hown, hb⟩
              case measure => simp [intOf]; omega
            | true =>
              cases hmem : memC l p q with
              | true =>
                have HN := Lib.hid (HI.out.skip HP.out (fun _ => mem_memC.1 hmem))
                have C1 : ∀ z : Later wr, Calls Try.prog 110 #[.agg #[.int .i64 x', .int .i64 y'], .agg #[.int .i64 p, .int .i64 q]] z.1 fun e w' => e = .returned (.bool true) ∧ Below z.1.heap.size z.1 w' := fun z => specNear_eq hv sA sP z.1
                have C2 := specHas_eq (cap := cap') hmem (by omega) hr
                clear hv hmem hr h
                go_wp2
                (refine wp_region_later (by kernel_rfl) (by kernel_rfl) ?_; (repeat (go_big_quiet_step ((first | (go_at_call 110; with_reducible exact Calls.later (C1 _)) | (go_at_call 69; with_reducible exact Calls.later_same (C2 _)))))); refine wpQuiet_nil ?_; rintro wq ⟨xq, hxq⟩; have hq := later_below hxq; clear hxq xq)
                have hb := hb.trans (hq.mono hb.size)
                have hown := hown.below hq
                go_wp2
                go_roundw
                case rel => exact ⟨l, m + 1, by omega, by go_num, HN, hown, hb⟩
                case measure => simp [intOf]; omega
              | false =>
                have HN := Lib.hid (HI.out.add HP.out hv (fun hc => by rw [mem_memC.2 hc] at hmem; cases hmem))
                have C1 : ∀ z : Later wr, Calls Try.prog 110 #[.agg #[.int .i64 x', .int .i64 y'], .agg #[.int .i64 p, .int .i64 q]] z.1 fun e w' => e = .returned (.bool true) ∧ Below z.1.heap.size z.1 w' := fun z => specNear_eq hv sA sP z.1
                have C2 := specHas_eq (cap := cap') hmem (by omega) hr
                clear hv hmem hr h
                go_wp2
                (refine wp_region_later (by kernel_rfl) (by kernel_rfl) ?_; (repeat (go_big_quiet_step ((first | (go_at_call 110; with_reducible exact Calls.later (C1 _)) | (go_at_call 69; with_reducible exact Calls.later_same (C2 _)))))); refine wpQuiet_nil ?_; rintro wq ⟨xq, hxq⟩; have hq := later_below hxq; clear hxq xq)
                have hb := hb.trans (hq.mono hb.size)
                have hown := hown.below hq
                have d1 := cell_on hq hbl c1
                have d2 := cell_on hq hbl c2
                clear c1 c2 c1' c2' l1 l2 l3 l4 C1 C2 hq
                have hsz := hb.size
                go_wp2_with (at_builtin; refine wpList_append_own _ rfl _ _ 25 rfl w.heap.size 58 i0 (.agg #[.int .i64 0, .int .i64 0]) 2 16 Try.underlying25 hi hz0 hz1 hz2 rfl (by decide) _ _ _ rfl (World.ownsRow.alloc hown _) ⟨wq.heap.size, 0, none⟩ 1 1 (flat [(p, q)]) rfl rfl ?c1 ?c2 ?c3 ?c4 ?c5 ?_)
                case c1 => exact World.news_of_block (cs := #[.int .i64 p, .int .i64 q]) (heap_alloc_new wq _)
                case c2 => exact flat_one
                case c3 => unfold maxLen; omega
                case c4 => omega
                case c5 => simp; omega
                intro v' w3 hown1 hgrow _
                have R1 := below_append1 hb hown hsz hgrow
                have hO3 : Own w3 w.heap.size v' (l ++ [(p, q)]) := by
                  unfold Own
                  rw [flat_append, List.length_append]
                  exact hown1
                clear hown hown1 hgrow
                go_wp2
                go_roundw
                case rel => exact ⟨l ++ [(p, q)], m + 1, by omega, by go_num, HN, hO3, R1⟩
                case measure => simp [intOf]; omega
          · obtain rfl : m = n := by omega
            have HN := Lib.hid (HI.out.out (by rw [hlen.out]; exact Nat.le_refl _))
            have hlen2 := HN.out.len
            rw [hlen.out] at hlen2
            clear h hr
            go_wp2
            go_roundw
            case rel => exact ⟨l, k + 1, by omega, by go_num, HN, hlen2, hown, hb⟩
            case measure => simp [intOf]; omega
      · obtain rfl : k = l.length := by omega
        have HR : Hid ((((l.length : Int)) == (n : Int)) = connected cs) := by
          show _ = _
          unfold connected
          rw [HS.out, Bool.true_and]
          have hnd := shape_nodup HS.out
          have := bfs_end hnd HB.out.nodup HB.out.first HB.out.reach (fun a b ha hb hn => by
            obtain ⟨j, hj, rfl⟩ := List.getElem_of_mem ha
            exact HB.out.done j hj b hb (by simpa [hj] using hn))
          rw [hlen.out] at this
          by_cases hx : l.length = n
          · rw [decide_eq_true (this.1 hx)]; simp [hx]
          · rw [decide_eq_false (fun h => hx (this.2 h))]; simp; omega
        clear h hr
        go_wp2
        go_ret
        exact ⟨ret_bool HR.out, hb⟩
end Go.Proofs.Ythhaojbnnacdbaa
