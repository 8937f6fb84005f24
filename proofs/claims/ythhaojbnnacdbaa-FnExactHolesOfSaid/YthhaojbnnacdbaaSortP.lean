/- The program's SortCells: at most 12 cells. -/
import Derived.Test.YthhaojbnnacdbaaSlice
import Derived.Test.YthhaojbnnacdbaaApp
namespace Go.Proofs.Ythhaojbnnacdbaa
open Go.RowKit

def weak (ds : List C) : Prop := ds.Pairwise fun a b => bef b a = false
theorem weak_last {ds : List C} {k : Nat} {c d : C} (hw : weak ds) (hk : ds[k]? = some c) (h0 : 0 < k) (hp : ds[k - 1]? = some d) (hne : d ≠ c) : ∀ x, x ∈ ds.take k → bef x c = true := by
  intro x hx
  obtain ⟨j, hj, rfl⟩ := List.getElem_of_mem hx
  rw [List.length_take] at hj
  rw [List.getElem_take]
  obtain ⟨hk1, hk2⟩ := List.getElem?_eq_some_iff.1 hk
  obtain ⟨hp1, hp2⟩ := List.getElem?_eq_some_iff.1 hp
  have hdc : bef d c = true := by
    have h1 : bef c d = false := by
      have := List.pairwise_iff_getElem.1 hw (k - 1) k hp1 hk1 (by omega)
      rw [hk2, hp2] at this; exact this
    cases h2 : bef d c with
    | true => rfl
    | false => exact absurd (bef_total h2 h1) hne
  rcases Nat.lt_or_ge j (k - 1) with hlt | hge
  · have h1 := List.pairwise_iff_getElem.1 hw j (k - 1) (by omega) hp1 hlt
    rw [hp2] at h1
    cases h2 : bef ds[j] d with
    | true => exact bef_trans h2 hdc
    | false => rw [bef_total h2 h1]; exact hdc
  · have : j = k - 1 := by omega
    subst this
    rw [hp2]; exact hdc
theorem sort_new {ds : List C} {k : Nat} {c : C} (hw : weak ds) (hk : ds[k]? = some c) (hne : 0 < k → ∀ d, ds[k - 1]? = some d → d ≠ c) : sortC (ds.take (k + 1)) = sortC (ds.take k) ++ [c] := by
  rw [take_next hk, sortC_snoc]
  have hall : ∀ x, x ∈ ds.take k → bef x c = true := by
    intro x hx
    by_cases h0 : 0 < k
    · have hk1 := (List.getElem?_eq_some_iff.1 hk).1
      exact weak_last hw hk h0 (List.getElem?_eq_getElem (show k - 1 < ds.length by omega)) (hne h0 _ (List.getElem?_eq_getElem (by omega))) x hx
    · rw [show k = 0 by omega] at hx; cases hx
  rw [insC_at (k := (sortC (ds.take k)).length) (sortC_sorted _) (Nat.le_refl _) (fun j hj d hd => by rw [List.getElem?_eq_none hj] at hd; cases hd) (fun d hd _ => hall d ((sortC_mem _ _).1 (List.mem_of_getElem? hd)))]
  rw [List.take_of_length_le (Nat.le_refl _), List.drop_eq_nil_of_le (Nat.le_refl _)]
theorem sort_old {ds : List C} {k : Nat} {c : C} (hk : ds[k]? = some c) (h0 : 0 < k) (hp : ds[k - 1]? = some c) : sortC (ds.take (k + 1)) = sortC (ds.take k) := by
  rw [take_next hk, sortC_snoc]
  refine insC_in (sortC_sorted _) ((sortC_mem _ _).2 ?_)
  obtain ⟨hp1, hp2⟩ := List.getElem?_eq_some_iff.1 hp
  rw [← hp2]
  exact List.mem_take_iff_getElem.2 ⟨k - 1, by omega, rfl⟩
theorem sorted_weak {d : Array C} (h : Sort.SortedIn bef 0 d.size d) : weak d.toList := by
  unfold weak
  rw [List.pairwise_iff_getElem]
  intro i j hi hj hij
  have := h i j (Nat.zero_le _) hij (by simpa using hj)
  rw [getElem!_pos d i (by simpa using hi), getElem!_pos d j (by simpa using hj)] at this
  simpa using this
theorem perm_list {d d' : Array C} (h : Sort.PermIn 0 d.size d d') : d'.toList.Perm d.toList := by
  have h1 := h.1
  have := h.2.2
  rw [← h1] at this
  simp [h1] at this
  rwa [List.take_of_length_le (by simp [h1])] at this

section
variable {B : Nat} {w0 : World} {Bv blk n cap : Nat} {dk : Array C} {w w' : World}
set_option maxRecDepth 100000 in
set_option maxHeartbeats 2000000 in
theorem insFew (f1 f2 : Value) (b : Nat) (hb : b ≤ 1) (w : World) :
    Calls Try.prog 127 #[.agg #[f1, f2], .int .i64 0, .int .i64 b] w fun e w' => e = .returned (.tuple #[]) ∧ Below w.heap.size w w' := by
  have hlt : decide ((1 : Int) < (b : Int)) = false := by simp; omega
  go_enter Try.func127, Try.ntmps127
  go_wp2
  refine wp_loop_rounds 1 ?_
  rw [rounds_succ]
  go_wp2
  go_end0
  exact ⟨rfl, below_alloc _ _⟩
set_option maxRecDepth 100000 in
set_option maxHeartbeats 2000000 in
theorem pdqFew (f1 f2 : Value) (b : Nat) (lim : Int) (hb : b ≤ 1) (w : World) :
    Calls Try.prog 106 #[.agg #[f1, f2], .int .i64 0, .int .i64 b, .int .i64 lim] w fun e w' => e = .returned (.tuple #[]) ∧ Below w.heap.size w w' := by
  go_enter Try.func106, Try.ntmps106
  go_wp2
  refine wp_loop_rounds 1 ?_
  rw [rounds_succ]
  go_wp2_with (go_at_call 127; refine (insFew f1 f2 b hb _).mono ?_; rintro e w' ⟨rfl, hb2⟩)
  (try simp only [Exit.inBlock, Exit.then]); refine bodyPost_ret (results_none rfl _ _ _) rfl ?_
  exact ⟨rfl, (below_alloc _ _).trans (hb2.mono (below_alloc _ _).size)⟩
theorem sliceFew (p : Option Addr) (n c : Nat) (hn : n ≤ 1) (g : Nat) (lb : Array Value) (w : World) :
    Calls Try.prog 76 #[.iface 25 (.slice p n c), .func (.func g) #[] lb] w fun e w' => e = .returned (.tuple #[]) ∧ Below w.heap.size w w' := by
  have hie : Try.prog.info? 58 = some Try.infoE := by kernel_rfl
  have : n = 0 ∨ n = 1 := by omega
  rcases this with rfl | rfl
  · have hk : Lib.swapperK 0 Try.infoE 25 = 1 := by simp [Lib.swapperK]
    have hs := fun w => Lib.run_swapper_slice (P := Try.prog) 25 58 Try.infoT Try.infoE (by kernel_rfl) (by kernel_rfl) hie 25 (fun _ => by kernel_rfl) p 0 c 116 (by rw [hk]; kernel_rfl) w
    rw [hk] at hs
    exact slice_pdq _ _ p 0 c (by omega) _ w _ ⟨_, _, _, rfl⟩ hs fun lim w1 hb => (pdqFew _ _ 0 lim (by omega) w1).mono fun _ _ ⟨he, hb2⟩ => ⟨he, hb.trans (hb2.mono hb.size)⟩
  · have hk : Lib.swapperK 1 Try.infoE 25 = 2 := by simp [Lib.swapperK]
    have hs := fun w => Lib.run_swapper_slice (P := Try.prog) 25 58 Try.infoT Try.infoE (by kernel_rfl) (by kernel_rfl) hie 25 (fun _ => by kernel_rfl) p 1 c 117 (by rw [hk]; kernel_rfl) w
    rw [hk] at hs
    exact slice_pdq _ _ p 1 c (by omega) _ w _ ⟨_, _, _, rfl⟩ hs fun lim w1 hb => (pdqFew _ _ 1 lim (by omega) w1).mono fun _ _ ⟨he, hb2⟩ => ⟨he, hb.trans (hb2.mono hb.size)⟩

/-- what stands behind the call of sort.Slice -/
structure Behind (w0 : World) (Bv n cap : Nat) (p : Option Addr) (ds : List C) (w : World) : Prop where
  cells : CellsAt w p n ds
  box : w.heap[Bv]? = some (.cells #[.slice p n cap] 25 (0, 0))
  below : Below w0.heap.size w0 w
  base : w0.heap.size ≤ Bv
  weak : weak ds
def SortsAt (n : Nat) : Prop := ∀ (cs : List C) (w0 w : World) (p : Option Addr) (cap Bv : Nat), Own w w0.heap.size (.slice p n cap) cs → w.heap[Bv]? = some (.cells #[.slice p n cap] 25 (0, 0)) → Below w0.heap.size w0 w → w0.heap.size ≤ Bv →
  (∀ k, (Value.slice p n cap).ownBlock = some k → Bv ≠ k) →
  Calls Try.prog 76 #[.iface 25 (.slice p n cap), .func (.func 77) #[] #[.pointer (some ⟨Bv, 0, none⟩)]] w fun e w' => e = .returned (.tuple #[]) ∧ ∃ ds : List C, ds.Perm cs ∧ Behind w0 Bv n cap p ds w'
theorem sorts_small (n : Nat) (hn : n ≤ 12) : SortsAt n := by
  intro cs w0 w p cap Bv ho hbx hb hB hne
  have hl : cs.length = n := (own_cells ho).1
  by_cases h2 : 2 ≤ n
  · obtain ⟨blk, rfl⟩ : ∃ blk, p = some ⟨blk, 0, none⟩ := by
      rcases ho.2 with ⟨he, h0⟩ | ⟨g, _, _, e, _⟩
      · omega
      · injection e with e _ _; exact ⟨g, e⟩
    have hS : SS w0.heap.size w0 Bv blk n cap cs.toArray w := ⟨by simp [hl], ho, hbx, hb, hB, hne blk rfl⟩
    refine (sliceSmall hS h2 hn).mono fun e w' ⟨he, h⟩ => ⟨he, _, ?_, h.cells, h.box, h.below, hB, ?_⟩
    · have := (Sort.insertionSort_holds (lt := bef) swo_bef cs.toArray 0 n (Nat.zero_le _) (by simp [hl])).1
      have hp := perm_list (d := cs.toArray) (by rw [show cs.toArray.size = n by simp [hl]]; exact this)
      simpa using hp
    · have := (Sort.insertionSort_holds (lt := bef) swo_bef cs.toArray 0 n (Nat.zero_le _) (by simp [hl]))
      refine sorted_weak ?_
      rw [this.1.1, show cs.toArray.size = n by simp [hl]]
      exact this.2
  · refine (sliceFew p n cap (by omega) _ _ w).mono fun e w' ⟨he, hb2⟩ => ⟨he, cs, List.Perm.refl _, (own_cells ho).below hb2, (hb2.block _ (lt_of_block hbx)).trans hbx, hb.trans (hb2.mono hb.size), hB, ?_⟩
    unfold weak
    match cs, hl with
    | [], _ => exact List.Pairwise.nil
    | [a], _ => exact List.pairwise_singleton _ _
    | a :: b :: r, hl => simp at hl; omega
end

theorem same_at {ds : List C} {k : Nat} {p q p' q' : Int} {d : C} (h : ds[k]? = some (p', q')) (hd : ds[k]? = some d) (e : d = (p, q)) : p' = p ∧ q' = q := by
  subst e
  have := Option.some.inj (h.symm.trans hd)
  exact ⟨congrArg Prod.fst this, congrArg Prod.snd this⟩
theorem box_at {w w' : World} {cs : Array Value} {t : TypeId} {j : Nat} {v : Value} (hb : Below (w.alloc (.cells cs t)).heap.size (w.alloc (.cells cs t)) w') (h : cs[j]? = some v) : w'.cell? ⟨w.heap.size, j, none⟩ = some v := by
  rw [hb.cell (p := ⟨w.heap.size, j, none⟩) (by simp), cell_of_row _ _ _ _ _ _ (heap_alloc_new w _)]; exact h
set_option maxHeartbeats 3200000 in
theorem implSort (A : Option Addr) (n cap : Nat) (cs : List C) (w : World) (hst : SortsAt n) (hn : n ≤ 1048576) (h : CellsAt w A n cs) :
    Calls Try.prog 21 #[.slice A n cap] w (OwnPost w (sortC cs)) := by
  obtain ⟨i0, hi, hz0, hz1, hz2⟩ := info_parts Try.infoC
  have hl := Lib.hid h.1
  have HST := Lib.hid hst
  clear hst
  go_enter Try.func21, Try.ntmps21
  go_wp2_with (at_builtin; refine wpList_append_slice _ rfl _ _ 25 rfl w.heap.size 58 i0 (.agg #[.int .i64 0, .int .i64 0]) 2 16 Try.underlying25 hi hz0 hz1 hz2 rfl (by decide) _ _ _ rfl (World.ownsRow_nil _ _ _ _) A n cap (flat cs) rfl h.slice flat_one ?c1 ?c2 (Nat.le_refl _) ?_)
  case c1 => unfold maxLen; omega
  case c2 => omega
  intro v' w1 hown hgrow _
  have hb1 : Below w.heap.size w w1 := (Below.refl _ _).grown hgrow (Nat.le_refl _) (fun _ h => by cases h)
  have hO : Own w1 w.heap.size v' cs := by unfold Own; rw [hl.out]; simpa using hown
  obtain ⟨A', cap', rfl, _, _⟩ := hO.form
  have hlt1 := hO.lt
  have e2 : cs.length = n := hl.out
  rw [e2] at hO hlt1 ⊢
  clear hown hgrow h e2
  have hb2 := hb1.trans ((below_alloc w1 (.cells #[.slice A' n cap'] 25)).mono hb1.size)
  have hO2 := hO.below (below_alloc w1 (.cells #[.slice A' n cap'] 25))
  have hS := HST.out cs w _ A' cap' w1.heap.size hO2 (heap_alloc_new w1 _) hb2 hb1.size (fun k hk e => by have := (hlt1 k hk).2; omega)
  clear hO hb1 hO2 hb2 hlt1
  go_wp2_with fail
  refine hS.mono ?_
  rintro e w2 ⟨rfl, ds, hp, hB⟩
  obtain ⟨hc, hbx, hb0, hbase, hwk⟩ := hB
  have HP := Lib.hid hp
  have HW := Lib.hid hwk
  have hdl := Lib.hid hc.1
  have hbl := lt_of_block hbx
  have c0 := cell_of_one hbx
  clear hp hwk hS hbx
  go_wp2
  go_loopw [4, 5, 6, 15] (fun v _ _ i wr => ∃ k : Nat, k ≤ n ∧ i = .int .i64 k ∧ Own wr w2.heap.size v (sortC (ds.take k)) ∧ Below w2.heap.size w2 wr) (fun _ _ _ i _ => n - (intOf i).toNat)
  case atStart => exact ⟨0, Nat.zero_le _, rfl, Own.nil _ _, Below.refl _ _⟩
  case round =>
    obtain ⟨k, hk, rfl, hown, hb⟩ := hrel
    obtain ⟨A4, cap4, rfl, _, _⟩ := hown.form
    have hsl : (sortC (ds.take k)).length ≤ n := Nat.le_trans (sortC_le _) (by rw [List.length_take]; omega)
    by_cases hlt : k < n
    · have hr := hc.below hb
      obtain ⟨b, o, p, q, rfl, hbl1, HK, y1, y2⟩ := hr.at_ hlt
      have c0r := cell_on hb hbl c0
      have hblw : w1.heap.size < wr.heap.size := Nat.lt_of_lt_of_le hbl hb.size
      have hki : (k : Int) < (n : Int) := by omega
      by_cases hk0 : k = 0
      · have e0 : ((k : Int) == 0) = true := by simp; omega
        have HN : Hid (sortC (ds.take (k + 1)) = sortC (ds.take k) ++ [(p, q)]) := sort_new HW.out HK.out (fun h => absurd h (by omega))
        have l4 := later_box (w := wr) (t := 58) (show (#[Value.int .i64 p, .int .i64 q] : Array Value)[0]? = some (.int .i64 p) from rfl)
        have l5 := later_box (w := wr) (t := 58) (show (#[Value.int .i64 p, .int .i64 q] : Array Value)[1]? = some (.int .i64 q) from rfl)
        have HK0 := Lib.hid hk0
        clear hk0 hc hr
        go_wp2
        (refine wp_region_later (by kernel_rfl) (by kernel_rfl) ?_; (repeat (go_big_quiet_step (fail))); refine wpQuiet_nil ?_; rintro wq ⟨xq, hxq⟩; have hq := later_below hxq; clear hxq xq)
        have hown := (hown.below (below_alloc wr _)).below hq
        have hb := (hb.trans ((below_alloc wr _).mono hb.size)).trans (hq.mono (Nat.le_trans hb.size (below_alloc wr _).size))
        have d1 := box_at (j := 0) hq rfl
        have d2 := box_at (j := 1) hq rfl
        clear hq
        have hsz := hb.size
        go_wp2_with (at_builtin; refine wpList_append_own _ rfl _ _ 25 rfl w2.heap.size 58 i0 (.agg #[.int .i64 0, .int .i64 0]) 2 16 Try.underlying25 hi hz0 hz1 hz2 rfl (by decide) _ _ _ rfl (World.ownsRow.alloc hown _) ⟨wq.heap.size, 0, none⟩ 1 1 (flat [(p, q)]) rfl rfl ?c1 ?c2 ?c3 ?c4 ?c5 ?_)
        case c1 => exact World.news_of_block (cs := #[.int .i64 p, .int .i64 q]) (heap_alloc_new wq _)
        case c2 => exact flat_one
        case c3 => unfold maxLen; omega
        case c4 => omega
        case c5 => simp; omega
        intro v' w3 hown1 hgrow _
        have R1 := below_append1 hb hown hsz hgrow
        have hO3 : Own w3 w2.heap.size v' (sortC (ds.take k) ++ [(p, q)]) := by
          unfold Own
          rw [flat_append, List.length_append]
          exact hown1
        rw [← HN.out] at hO3
        clear hown hown1 hgrow hb d1 d2
        go_wp2
        go_roundw
        case rel => exact ⟨k + 1, by omega, by go_num, hO3, R1⟩
        case measure => simp [intOf]; omega
      · have e0 : ((k : Int) == 0) = false := by simp; omega
        have hk1 : (0 : Int) < (k : Int) := by omega
        obtain ⟨b', o', p', q', e', hbl2, HK', x1, x2⟩ := hr.at_ (k := k - 1) (by omega)
        injection e' with e'
        injection e' with e1' e2'
        subst e1' e2'
        have hke : ((k : Int) - 1).toNat = k - 1 := by omega
        clear hc hr
        by_cases hp : p' = p
        · obtain rfl : p = p' := hp.symm
          by_cases hq0 : q' = q
          · obtain rfl : q = q' := hq0.symm
            have HN : Hid (sortC (ds.take (k + 1)) = sortC (ds.take k)) := sort_old HK.out (by omega) HK'.out
            have l1 := later_old (ob := .cells #[.int .i64 p, .int .i64 q] 58) hblw c0r
            have l2 := later_old (ob := .cells #[.int .i64 p, .int .i64 q] 58) hbl1 x1
            have l3 := later_old (ob := .cells #[.int .i64 p, .int .i64 q] 58) hbl1 x2
            have l4 := later_box (w := wr) (t := 58) (show (#[Value.int .i64 p, .int .i64 q] : Array Value)[0]? = some (.int .i64 p) from rfl)
            have l5 := later_box (w := wr) (t := 58) (show (#[Value.int .i64 p, .int .i64 q] : Array Value)[1]? = some (.int .i64 q) from rfl)
            go_wp2
            (refine wp_region_later (by kernel_rfl) (by kernel_rfl) ?_; (repeat (go_big_quiet_step (fail))); refine wpQuiet_nil ?_; rintro wq ⟨xq, hxq⟩; have hq := later_below hxq; clear hxq xq)
            have hown := (hown.below (below_alloc wr _)).below hq
            have hb := (hb.trans ((below_alloc wr _).mono hb.size)).trans (hq.mono (Nat.le_trans hb.size (below_alloc wr _).size))
            have hown : Own wq w2.heap.size (.slice A4 (sortC (ds.take k)).length cap4) (sortC (ds.take (k + 1))) := by rw [HN.out]; exact hown
            clear hq
            go_wp2
            go_roundw
            case rel => exact ⟨k + 1, by omega, by go_num, hown, hb⟩
            case measure => simp [intOf]; omega
          · have HN : Hid (sortC (ds.take (k + 1)) = sortC (ds.take k) ++ [(p, q)]) := sort_new HW.out HK.out (fun _ d hd e => hq0 (same_at HK'.out hd e).2)
            have l1 := later_old (ob := .cells #[.int .i64 p, .int .i64 q] 58) hblw c0r
            have l2 := later_old (ob := .cells #[.int .i64 p, .int .i64 q] 58) hbl1 x1
            have l3 := later_old (ob := .cells #[.int .i64 p, .int .i64 q] 58) hbl1 x2
            have l4 := later_box (w := wr) (t := 58) (show (#[Value.int .i64 p, .int .i64 q] : Array Value)[0]? = some (.int .i64 p) from rfl)
            have l5 := later_box (w := wr) (t := 58) (show (#[Value.int .i64 p, .int .i64 q] : Array Value)[1]? = some (.int .i64 q) from rfl)
            go_wp2
            (refine wp_region_later (by kernel_rfl) (by kernel_rfl) ?_; (repeat (go_big_quiet_step (fail))); refine wpQuiet_nil ?_; rintro wq ⟨xq, hxq⟩; have hq := later_below hxq; clear hxq xq)
            have hown := (hown.below (below_alloc wr _)).below hq
            have hb := (hb.trans ((below_alloc wr _).mono hb.size)).trans (hq.mono (Nat.le_trans hb.size (below_alloc wr _).size))
            have d1 := box_at (j := 0) hq rfl
            have d2 := box_at (j := 1) hq rfl
            clear hq
            have hsz := hb.size
            go_wp2_with (at_builtin; refine wpList_append_own _ rfl _ _ 25 rfl w2.heap.size 58 i0 (.agg #[.int .i64 0, .int .i64 0]) 2 16 Try.underlying25 hi hz0 hz1 hz2 rfl (by decide) _ _ _ rfl (World.ownsRow.alloc hown _) ⟨wq.heap.size, 0, none⟩ 1 1 (flat [(p, q)]) rfl rfl ?c1 ?c2 ?c3 ?c4 ?c5 ?_)
            case c1 => exact World.news_of_block (cs := #[.int .i64 p, .int .i64 q]) (heap_alloc_new wq _)
            case c2 => exact flat_one
            case c3 => unfold maxLen; omega
            case c4 => omega
            case c5 => simp; omega
            intro v' w3 hown1 hgrow _
            have R1 := below_append1 hb hown hsz hgrow
            have hO3 : Own w3 w2.heap.size v' (sortC (ds.take k) ++ [(p, q)]) := by
              unfold Own
              rw [flat_append, List.length_append]
              exact hown1
            rw [← HN.out] at hO3
            clear hown hown1 hgrow hb d1 d2
            go_wp2
            go_roundw
            case rel => exact ⟨k + 1, by omega, by go_num, hO3, R1⟩
            case measure => simp [intOf]; omega
        · have HN : Hid (sortC (ds.take (k + 1)) = sortC (ds.take k) ++ [(p, q)]) := sort_new HW.out HK.out (fun _ d hd e => hp (same_at HK'.out hd e).1)
          have l1 := later_old (ob := .cells #[.int .i64 p, .int .i64 q] 58) hblw c0r
          have l2 := later_old (ob := .cells #[.int .i64 p, .int .i64 q] 58) hbl1 x1
          have l3 := later_old (ob := .cells #[.int .i64 p, .int .i64 q] 58) hbl1 x2
          have l4 := later_box (w := wr) (t := 58) (show (#[Value.int .i64 p, .int .i64 q] : Array Value)[0]? = some (.int .i64 p) from rfl)
          have l5 := later_box (w := wr) (t := 58) (show (#[Value.int .i64 p, .int .i64 q] : Array Value)[1]? = some (.int .i64 q) from rfl)
          go_wp2
          (refine wp_region_later (by kernel_rfl) (by kernel_rfl) ?_; (repeat (go_big_quiet_step (fail))); refine wpQuiet_nil ?_; rintro wq ⟨xq, hxq⟩; have hq := later_below hxq; clear hxq xq)
          have hown := (hown.below (below_alloc wr _)).below hq
          have hb := (hb.trans ((below_alloc wr _).mono hb.size)).trans (hq.mono (Nat.le_trans hb.size (below_alloc wr _).size))
          have d1 := box_at (j := 0) hq rfl
          have d2 := box_at (j := 1) hq rfl
          clear hq
          have hsz := hb.size
          go_wp2_with (at_builtin; refine wpList_append_own _ rfl _ _ 25 rfl w2.heap.size 58 i0 (.agg #[.int .i64 0, .int .i64 0]) 2 16 Try.underlying25 hi hz0 hz1 hz2 rfl (by decide) _ _ _ rfl (World.ownsRow.alloc hown _) ⟨wq.heap.size, 0, none⟩ 1 1 (flat [(p, q)]) rfl rfl ?c1 ?c2 ?c3 ?c4 ?c5 ?_)
          case c1 => exact World.news_of_block (cs := #[.int .i64 p, .int .i64 q]) (heap_alloc_new wq _)
          case c2 => exact flat_one
          case c3 => unfold maxLen; omega
          case c4 => omega
          case c5 => simp; omega
          intro v' w3 hown1 hgrow _
          have R1 := below_append1 hb hown hsz hgrow
          have hO3 : Own w3 w2.heap.size v' (sortC (ds.take k) ++ [(p, q)]) := by
            unfold Own
            rw [flat_append, List.length_append]
            exact hown1
          rw [← HN.out] at hO3
          clear hown hown1 hgrow hb d1 d2
          go_wp2
          go_roundw
          case rel => exact ⟨k + 1, by omega, by go_num, hO3, R1⟩
          case measure => simp [intOf]; omega
    · obtain rfl : k = n := by omega
      have HE : Hid (sortC (ds.take k) = sortC cs) := by
        show _ = _
        rw [List.take_of_length_le (by rw [hdl.out]; exact Nat.le_refl _)]
        exact sortC_eq (sortC_sorted _) (fun c => by rw [sortC_mem]; exact HP.out.mem_iff)
      have hO : Own wr w.heap.size (.slice A4 (sortC (ds.take k)).length cap4) (sortC cs) := by
        have t := hown.mono (Nat.le_trans hbase (Nat.le_of_lt hbl))
        rw [← HE.out]; exact t
      clear hc
      go_wp2
      go_ret
      exact ⟨_, rfl, hO, hb0.trans (hb.mono hb0.size)⟩
end Go.Proofs.Ythhaojbnnacdbaa
