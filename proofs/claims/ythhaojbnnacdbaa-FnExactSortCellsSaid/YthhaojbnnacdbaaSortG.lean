/- pdqsort, walked: a sorted permutation of the range comes back. Condition: at most 2^20 cells. -/
import Derived.Test.YthhaojbnnacdbaaSortI
import Derived.Test.YthhaojbnnacdbaaSortB
import Derived.Test.YthhaojbnnacdbaaSortC
import Derived.Test.YthhaojbnnacdbaaSortD
import Derived.Test.YthhaojbnnacdbaaSortE
import Derived.Test.YthhaojbnnacdbaaSortF
import Derived.Test.YthhaojbnnacdbaaSortH
import Derived.Test.YthhaojbnnacdbaaSortP
import Derived.Sort.LotD3
namespace Go.Proofs.Ythhaojbnnacdbaa
open Go.RowKit
set_option linter.unusedVariables false

/-- what is left to do: whatever sorted permutation of [a, b) comes back, the whole of [a0, b0) is one -/
structure Todo (a0 b0 : Nat) (d0 : Array C) (a b : Nat) (d : Array C) : Prop where
  lo : a0 ≤ a
  hi : b ≤ b0
  ab : a ≤ b
  size : b ≤ d.size
  low : Sort.Below bef a b d
  fin : ∀ R, Sort.PermIn a b d R → Sort.SortedIn bef a b R → Sort.PermIn a0 b0 d0 R ∧ Sort.SortedIn bef a0 b0 R
theorem Todo.start {a b : Nat} {d : Array C} (hab : a ≤ b) (hs : b ≤ d.size) (hl : Sort.Below bef a b d) : Todo a b d a b d := ⟨Nat.le_refl _, Nat.le_refl _, hab, hs, hl, fun _ h1 h2 => ⟨h1, h2⟩⟩
theorem Todo.perm {a0 b0 a b : Nat} {d0 d d' : Array C} (h : Todo a0 b0 d0 a b d) (hp : Sort.PermIn a b d d') : Todo a0 b0 d0 a b d' :=
  ⟨h.lo, h.hi, h.ab, by rw [hp.1]; exact h.size, h.low.perm h.size hp, fun R h1 h2 => h.fin R (Sort.permIn_trans _ _ _ a b hp h1) h2⟩
theorem Todo.eq {a0 b0 a b pivot mid : Nat} {d0 d d4 : Array C} (h : Todo a0 b0 d0 a b d) (ha : 0 < a) (hp1 : a ≤ pivot) (hp2 : pivot < b) (hn : bef d[a - 1]! d[pivot]! = false) (hx : Sort.partitionEqual bef d a b pivot = (mid, d4)) :
    a < mid ∧ mid ≤ b ∧ Todo a0 b0 d0 mid b d4 := by
  obtain ⟨r1, r2, r3, r4, r5⟩ := Sort.round_eq swo_bef (Sort.partitionEqual_holds bef) ha hp1 hp2 h.size h.low hn hx
  exact ⟨r1, r2, by have := h.lo; omega, h.hi, r2, by rw [r3]; exact h.size, r4, fun R h1 h2 => by obtain ⟨q1, q2⟩ := r5 R h1 h2; exact h.fin R q1 q2⟩
theorem Todo.part {a0 b0 a b pivot mid : Nat} {d0 d d4 : Array C} {ap : Bool} (h : Todo a0 b0 d0 a b d) (hp1 : a ≤ pivot) (hp2 : pivot < b) (hx : Sort.partition bef d a b pivot = (mid, ap, d4)) :
    a ≤ mid ∧ mid < b ∧ d4.size = d.size ∧ Sort.Below bef a mid d4 ∧ Sort.Below bef (mid + 1) b d4 ∧
    (∀ L, Sort.PermIn a mid d4 L → Sort.SortedIn bef a mid L → Todo a0 b0 d0 (mid + 1) b L) ∧ (∀ L, Sort.PermIn (mid + 1) b d4 L → Sort.SortedIn bef (mid + 1) b L → Todo a0 b0 d0 a mid L) := by
  obtain ⟨r1, r2, r3, r4, r5, r6, r7⟩ := Sort.round_part swo_bef (Sort.partition_holds bef) hp1 hp2 h.size h.low hx
  have hs := h.size
  have hlo := h.lo
  have hhi := h.hi
  refine ⟨r1, r2, r3, r4, r5, fun L h1 h2 => ?_, fun L h1 h2 => ?_⟩
  · obtain ⟨q1, q2⟩ := r6 L h1 h2
    exact ⟨by omega, hhi, by omega, by rw [h1.1, r3]; exact hs, q1, fun R k1 k2 => by obtain ⟨s1, s2⟩ := q2 R k1 k2; exact h.fin R s1 s2⟩
  · obtain ⟨q1, q2⟩ := r7 L h1 h2
    exact ⟨hlo, by omega, r1, by rw [h1.1, r3]; omega, q1, fun R k1 k2 => by obtain ⟨s1, s2⟩ := q2 R k1 k2; exact h.fin R s1 s2⟩
section
variable {B : Nat} {w0 : World} {Bv blk n cap : Nat} {dk : Array C} {w w' : World}
/-- the range [a, b) sorted -/
def Done (B : Nat) (w0 : World) (Bv blk n cap a b : Nat) (d : Array C) (w : World) (e : Ending) (w' : World) : Prop := e = .returned (.tuple #[]) ∧ (∃ R, Sort.PermIn a b d R ∧ Sort.SortedIn bef a b R ∧ SS B w0 Bv blk n cap R w') ∧ w.grownBy w' (some blk)
set_option maxRecDepth 100000 in
set_option maxHeartbeats 64000000 in
theorem pdqW (sf : Nat) (sb : Array Value) (hsw : 2 ≤ n → SwapRun Try.prog sf sb B w0 Bv blk n cap) (hn : n ≤ 1048576) : ∀ (N a b : Nat) (lim : Int) (dk : Array C) (w : World), b - a < N → a ≤ b → b ≤ n → SS B w0 Bv blk n cap dk w → Sort.Below bef a b dk →
    Calls Try.prog 106 #[dataV Bv sf sb, .int .i64 a, .int .i64 b, .int .i64 lim] w (Done B w0 Bv blk n cap a b dk w) := by
  intro N
  induction N with
  | zero => intro a b lim dk w hN; omega
  | succ N ih =>
    intro a b lim dk w hN hab hb h hlow
    have IS := fun (d : Array C) (v : World) (hs : SS B w0 Bv blk n cap d v) (p q : Nat) h1 h2 => insSortW sf sb hsw hs p q h1 h2 hn
    have HS := fun (d : Array C) (v : World) (hs : SS B w0 Bv blk n cap d v) (p q : Nat) h1 h2 => heapSortW sf sb hsw hs p q h1 h2 hn
    have BR := fun (d : Array C) (v : World) (hs : SS B w0 Bv blk n cap d v) (p q : Nat) h1 h2 => breakW sf sb hsw hs p q h1 h2 hn
    have CH := fun (d : Array C) (v : World) (hs : SS B w0 Bv blk n cap d v) (p q : Nat) h1 h2 => choosePivotW sf sb hs p q h1 h2 hn
    have RV := fun (d : Array C) (v : World) (hs : SS B w0 Bv blk n cap d v) (p q : Nat) h1 h2 => reverseW sf sb hsw hs p q h1 h2 hn
    have PI := fun (d : Array C) (v : World) (hs : SS B w0 Bv blk n cap d v) (p q : Nat) h1 h2 => partialW sf sb hsw hs p q h1 h2 hn
    have PE := fun (d : Array C) (v : World) (hs : SS B w0 Bv blk n cap d v) (p q x : Nat) h1 h2 h3 h4 => partEqW sf sb hsw hs p q x h1 h2 h3 h4 hn
    have PT := fun (d : Array C) (v : World) (hs : SS B w0 Bv blk n cap d v) (p q x : Nat) h1 h2 h3 h4 => partW sf sb hsw hs p q x h1 h2 h3 h4 hn
    have HT0 : Hid (Todo a b dk a b dk) := Todo.start hab (by rw [h.size]; exact hb) hlow
    have IH := Lib.hid ih
    clear ih hlow
    unfold dataV at IS HS BR CH RV PI PE PT
    have HIS := Lib.hid IS
    have HHS := Lib.hid HS
    have HBR := Lib.hid BR
    have HCH := Lib.hid CH
    have HRV := Lib.hid RV
    have HPI := Lib.hid PI
    have HPE := Lib.hid PE
    have HPT := Lib.hid PT
    clear IS HS BR CH RV PI PE PT
    have h1 := h.later (below_alloc w (.cells #[(.func (.func 77) #[] #[.pointer (some ⟨Bv, 0, none⟩)]), (.func (.func sf) #[] sb)] 89))
    have hx := Box2.new w (.func (.func 77) #[] #[.pointer (some ⟨Bv, 0, none⟩)]) (.func (.func sf) #[] sb) 89
    have hG0 : w.grownBy (w.alloc (.cells #[(.func (.func 77) #[] #[.pointer (some ⟨Bv, 0, none⟩)]), (.func (.func sf) #[] sb)] 89)) (some blk) := grow_below (below_alloc w _)
    have eg : ∀ args w, (callFunc 77 args).run Try.prog w = .ok (.enter 77 args) w := enters_of Try.func77 (by kernel_rfl) rfl
    have hbk : blk < w.heap.size := (h.own.lt blk rfl).2
    unfold dataV
    clear h
    go_enter Try.func106, Try.ntmps106
    go_wp2
    go_loopw [1, 2, 3, 8, 9, 10, 11, 12, 13, 14, 15, 16, 17, 18] (fun v1 v2 v3 v8 v9 _ _ _ _ _ _ _ _ _ wr => ∃ (p q : Nat) (l : Int) (wb wp : Bool) (di : Array C), v1 = .int .i64 p ∧ v2 = .int .i64 q ∧ v3 = .int .i64 l ∧ v8 = .bool wb ∧ v9 = .bool wp ∧ a ≤ p ∧ p ≤ q ∧ q ≤ b ∧ Hid (Todo a b dk p q di) ∧ SS B w0 Bv blk n cap di wr ∧ Box2 wr w.heap.size (.func (.func 77) #[] #[.pointer (some ⟨Bv, 0, none⟩)]) (.func (.func sf) #[] sb) 89 ∧ w.grownBy wr (some blk)) (fun v1 v2 _ _ _ _ _ _ _ _ _ _ _ _ _ => (intOf v2 - intOf v1).toNat)
    case atStart => exact ⟨a, b, lim, true, true, dk, rfl, rfl, rfl, rfl, rfl, Nat.le_refl _, hab, Nat.le_refl _, HT0, h1, hx, hG0⟩
    case round =>
      clear h1 hx hG0 HT0
      obtain ⟨p, q, l, wb, wp, di, rfl, rfl, rfl, rfl, rfl, hap, hpq, hqb, HT, hS, hx, hG⟩ := hrel
      have c0 := hx.c0
      have c1 := hx.c1
      by_cases h12 : q - p ≤ 12
      · have h12i : (q : Int) - (p : Int) ≤ 12 := by omega
        have C := HIS.out di wr hS p q hpq (by omega)
        have hI := Sort.insertionSort_holds (lt := bef) swo_bef di p q hpq HT.out.size
        have hF := HT.out.fin _ hI.1 hI.2
        clear hI
        go_wp2_with fail
        refine C.mono ?_
        rintro e w2 ⟨rfl, hS2, hg2⟩
        clear C
        go_wp2
        first | go_end0 | (refine bodyPost_ret (results_none rfl _ _ _) rfl ?_) | (simp only [Exit.inBlock, Exit.then]; refine bodyPost_ret (results_none rfl _ _ _) rfl ?_)
        exact ⟨rfl, ⟨_, hF.1, hF.2, hS2⟩, hG.trans hg2⟩
      · have h12i : ¬ (q : Int) - (p : Int) ≤ 12 := by omega
        by_cases hl0 : l = 0
        · subst hl0
          have C := HHS.out di wr hS p q (by omega) (by omega)
          have hI := Sort.heapSort_holds (lt := bef) swo_bef di p q hpq HT.out.size
          have hF := HT.out.fin _ hI.1 hI.2
          clear hI
          go_wp2_with fail
          refine C.mono ?_
          rintro e w2 ⟨rfl, hS2, hg2⟩
          clear C
          go_wp2
          first | go_end0 | (refine bodyPost_ret (results_none rfl _ _ _) rfl ?_) | (simp only [Exit.inBlock, Exit.then]; refine bodyPost_ret (results_none rfl _ _ _) rfl ?_)
          exact ⟨rfl, ⟨_, hF.1, hF.2, hS2⟩, hG.trans hg2⟩
        · have hl0b : (l == 0) = false := by simpa using hl0
          cases wb with
          | true =>
            have C := HCH.out di _ hS p q (by omega) (by omega)
            go_wp2_with fail
            refine C.mono ?_
            rintro e w3 ⟨⟨x, z, rfl, hxa, hxb⟩, hS3, hb3⟩
            clear C
            have hx3 := hx.later hb3
            have hG3 := hG.trans (grow_below (row := some blk) hb3)
            have HT3 := HT
            have c03 := hx3.c0
            have c13 := hx3.c1
            clear hS hx hG HT c0 c1 hb3
            by_cases hz2 : z = 2
            · subst hz2
              obtain ⟨y, hy⟩ : ∃ y : Nat, (q : Int) - 1 - ((x : Int) - (p : Int)) = y := ⟨((q : Int) - 1 - ((x : Int) - (p : Int))).toNat, by omega⟩
              have hyr : p ≤ y ∧ y < q := by omega
              have C := HRV.out di _ hS3 p q (by omega) (by omega)
              go_wp2_with fail
              refine C.mono ?_
              rintro e w4 ⟨rfl, ⟨d4, hP4, hS4⟩, hg4⟩
              clear C
              have hx4 := hx3.grown hg4 (by intro e; injection e with e; omega)
              have hG4 := hG3.trans hg4
              have HT4 := Lib.hid (HT3.out.perm hP4)
              clear hS3 hx3 hG3 HT3 c03 c13 hg4 hP4
              cases wp with
              | false =>
                have c0 := hx4.c0
                have c1 := hx4.c1
                by_cases hp0 : 0 < p
                · have hp0i : (0 : Int) < (p : Int) := by omega
                  have hlu : Calls Try.prog 77 #[.int .i64 ((p : Int) - 1), .int .i64 ((y : Int)), .pointer (some ⟨Bv, 0, none⟩)] w4 fun e w' => e = .returned (.bool (bef d4[p - 1]! d4[y]!)) ∧ Below w4.heap.size w4 w' := by
                    have := less_any hS4 (p - 1) (y) (by omega) (by omega)
                    rwa [show ((p - 1 : Nat) : Int) = (p : Int) - 1 by omega] at this
                  cases hv : bef d4[p - 1]! d4[y]! with
                  | false =>
                    rw [hv] at hlu
                    obtain ⟨⟨mid, d7⟩, hR⟩ : ∃ R, R = Sort.partitionEqual bef d4 p q y := ⟨_, rfl⟩
                    obtain ⟨hm1, hm2, ht7⟩ := HT4.out.eq hp0 (by omega) (by omega) hv hR.symm
                    have HT7 := Lib.hid ht7
                    clear ht7 hv
                    go_wp2_with fail
                    refine hlu.mono ?_
                    rintro e wu ⟨rfl, hbu⟩
                    have hSu := hS4.later hbu
                    have hGu := hG4.trans (grow_below (row := some blk) hbu)
                    have hxu := hx4.later hbu
                    have c0u := hxu.c0
                    have c1u := hxu.c1
                    have C := HPE.out d4 _ hSu p q y (by omega) (by omega) (by omega) (by omega)
                    rw [← hR] at C
                    clear hlu hR c0 c1
                    go_wp2_with fail
                    refine C.mono ?_
                    rintro e w7 ⟨rfl, hS7, hg7⟩
                    clear C
                    have hx7 := hxu.grown hg7 (by intro e; injection e with e; omega)
                    have hG7 := hGu.trans hg7
                    clear hSu hxu hGu hg7 c0u c1u hS4 hx4 hG4
                    go_wp2
                    go_roundw
                    case rel => exact ⟨mid, q, _, _, _, d7, rfl, rfl, rfl, rfl, rfl, by omega, by omega, by omega, HT7, hS7, hx7, hG7⟩
                    case measure => simp [intOf]; omega
                  | true =>
                    rw [hv] at hlu
                    clear hv
                    go_wp2_with fail
                    refine hlu.mono ?_
                    rintro e wu ⟨rfl, hbu⟩
                    have hSu := hS4.later hbu
                    have hGu := hG4.trans (grow_below (row := some blk) hbu)
                    have hxu := hx4.later hbu
                    have c0u := hxu.c0
                    have c1u := hxu.c1
                    have HTu := HT4
                    clear hlu c0 c1 hS4 hx4 hG4 HT4
                    obtain ⟨⟨mid, ap, d7⟩, hR⟩ : ∃ R, R = Sort.partition bef d4 p q y := ⟨_, rfl⟩
                    have C := HPT.out d4 _ hSu p q y (by omega) (by omega) (by omega) (by omega)
                    rw [← hR] at C
                    obtain ⟨hm1, hm2, hsz, hlo, hhi, hL, hRr⟩ := HTu.out.part (by omega) (by omega) hR.symm
                    have HL := Lib.hid hL
                    have HRr := Lib.hid hRr
                    have Hlo := Lib.hid hlo
                    have Hhi := Lib.hid hhi
                    clear hR hL hRr hlo hhi hsz
                    go_wp2_with fail
                    refine C.mono ?_
                    rintro e w7 ⟨rfl, hS7, hg7⟩
                    clear C
                    have hx7 := hxu.grown hg7 (by intro e; injection e with e; omega)
                    have hG7 := hGu.trans hg7
                    clear hSu hxu hGu HTu
                    have c0 := hx7.c0
                    have c1 := hx7.c1
                    by_cases hcmp : mid - p < q - mid
                    · have hcmpi : (mid : Int) - (p : Int) < (q : Int) - (mid : Int) := by omega
                      have C := fun lim => IH.out p mid lim d7 w7 (by omega) hm1 (by omega) hS7 Hlo.out
                      unfold dataV at C
                      go_wp2_with fail
                      refine (C _).mono ?_
                      rintro e w8 ⟨rfl, ⟨R8, hP8, hO8, hS8⟩, hg8⟩
                      clear C
                      have hx8 := hx7.grown hg8 (by intro e; injection e with e; omega)
                      have hG8 := hG7.trans hg8
                      have HT8 := Lib.hid (HL.out R8 hP8 hO8)
                      clear hS7 hx7 hG7 hg8 hP8 hO8 c0 c1 HL HRr Hlo Hhi
                      go_wp2
                      go_roundw
                      case rel => exact ⟨mid + 1, q, _, _, _, R8, by go_num, rfl, rfl, rfl, rfl, by omega, by omega, by omega, HT8, hS8, hx8, hG8⟩
                      case measure => simp [intOf]; omega
                    
                    · have hcmpi : ¬ (mid : Int) - (p : Int) < (q : Int) - (mid : Int) := by omega
                      have C := fun lim => IH.out (mid + 1) q lim d7 w7 (by omega) (by omega) (by omega) hS7 Hhi.out
                      rw [show ((mid + 1 : Nat) : Int) = (mid : Int) + 1 by omega] at C
                      unfold dataV at C
                      go_wp2_with fail
                      refine (C _).mono ?_
                      rintro e w8 ⟨rfl, ⟨R8, hP8, hO8, hS8⟩, hg8⟩
                      clear C
                      have hx8 := hx7.grown hg8 (by intro e; injection e with e; omega)
                      have hG8 := hG7.trans hg8
                      have HT8 := Lib.hid (HRr.out R8 hP8 hO8)
                      clear hS7 hx7 hG7 hg8 hP8 hO8 c0 c1 HL HRr Hlo Hhi
                      go_wp2
                      go_roundw
                      case rel => exact ⟨p, mid, _, _, _, R8, rfl, rfl, rfl, rfl, rfl, by omega, by omega, by omega, HT8, hS8, hx8, hG8⟩
                      case measure => simp [intOf]; omega
                · have hp0i : ¬ (0 : Int) < (p : Int) := by omega
                  obtain ⟨⟨mid, ap, d7⟩, hR⟩ : ∃ R, R = Sort.partition bef d4 p q y := ⟨_, rfl⟩
                  have C := HPT.out d4 _ hS4 p q y (by omega) (by omega) (by omega) (by omega)
                  rw [← hR] at C
                  obtain ⟨hm1, hm2, hsz, hlo, hhi, hL, hRr⟩ := HT4.out.part (by omega) (by omega) hR.symm
                  have HL := Lib.hid hL
                  have HRr := Lib.hid hRr
                  have Hlo := Lib.hid hlo
                  have Hhi := Lib.hid hhi
                  clear hR hL hRr hlo hhi hsz
                  go_wp2_with fail
                  refine C.mono ?_
                  rintro e w7 ⟨rfl, hS7, hg7⟩
                  clear C
                  have hx7 := hx4.grown hg7 (by intro e; injection e with e; omega)
                  have hG7 := hG4.trans hg7
                  clear hS4 hx4 hG4 HT4
                  have c0 := hx7.c0
                  have c1 := hx7.c1
                  by_cases hcmp : mid - p < q - mid
                  · have hcmpi : (mid : Int) - (p : Int) < (q : Int) - (mid : Int) := by omega
                    have C := fun lim => IH.out p mid lim d7 w7 (by omega) hm1 (by omega) hS7 Hlo.out
                    unfold dataV at C
                    go_wp2_with fail
                    refine (C _).mono ?_
                    rintro e w8 ⟨rfl, ⟨R8, hP8, hO8, hS8⟩, hg8⟩
                    clear C
                    have hx8 := hx7.grown hg8 (by intro e; injection e with e; omega)
                    have hG8 := hG7.trans hg8
                    have HT8 := Lib.hid (HL.out R8 hP8 hO8)
                    clear hS7 hx7 hG7 hg8 hP8 hO8 c0 c1 HL HRr Hlo Hhi
                    go_wp2
                    go_roundw
                    case rel => exact ⟨mid + 1, q, _, _, _, R8, by go_num, rfl, rfl, rfl, rfl, by omega, by omega, by omega, HT8, hS8, hx8, hG8⟩
                    case measure => simp [intOf]; omega
                  
                  · have hcmpi : ¬ (mid : Int) - (p : Int) < (q : Int) - (mid : Int) := by omega
                    have C := fun lim => IH.out (mid + 1) q lim d7 w7 (by omega) (by omega) (by omega) hS7 Hhi.out
                    rw [show ((mid + 1 : Nat) : Int) = (mid : Int) + 1 by omega] at C
                    unfold dataV at C
                    go_wp2_with fail
                    refine (C _).mono ?_
                    rintro e w8 ⟨rfl, ⟨R8, hP8, hO8, hS8⟩, hg8⟩
                    clear C
                    have hx8 := hx7.grown hg8 (by intro e; injection e with e; omega)
                    have hG8 := hG7.trans hg8
                    have HT8 := Lib.hid (HRr.out R8 hP8 hO8)
                    clear hS7 hx7 hG7 hg8 hP8 hO8 c0 c1 HL HRr Hlo Hhi
                    go_wp2
                    go_roundw
                    case rel => exact ⟨p, mid, _, _, _, R8, rfl, rfl, rfl, rfl, rfl, by omega, by omega, by omega, HT8, hS8, hx8, hG8⟩
                    case measure => simp [intOf]; omega
              | true =>
                have c0 := hx4.c0
                have c1 := hx4.c1
                have hI := Sort.partialInsertionSort_holds (lt := bef) swo_bef d4 p q (by omega) HT4.out.size HT4.out.low
                have C := HPI.out d4 _ hS4 p q (by omega) (by omega)
                revert hI C
                generalize Sort.partialInsertionSort bef d4 p q = R5
                obtain ⟨d5, r5⟩ := R5
                intro hI C
                obtain ⟨hP5, hO5⟩ := hI
                simp only at hP5 hO5 C
                cases r5 with
                | true =>
                  have hF := HT4.out.fin _ hP5 (hO5 rfl)
                  go_wp2_with fail
                  refine C.mono ?_
                  rintro e w5 ⟨rfl, hS5, hg5⟩
                  clear C hO5
                  go_wp2
                  first | go_end0 | (refine bodyPost_ret (results_none rfl _ _ _) rfl ?_) | (simp only [Exit.inBlock, Exit.then]; refine bodyPost_ret (results_none rfl _ _ _) rfl ?_)
                  exact ⟨rfl, ⟨_, hF.1, hF.2, hS5⟩, hG4.trans hg5⟩
                | false =>
                  go_wp2_with fail
                  refine C.mono ?_
                  rintro e w5 ⟨rfl, hS5, hg5⟩
                  clear C hO5
                  have hx5 := hx4.grown hg5 (by intro e; injection e with e; omega)
                  have hG5 := hG4.trans hg5
                  have HT5 := Lib.hid (HT4.out.perm hP5)
                  clear hS4 hx4 hG4 HT4 hg5 hP5
                  have c0 := hx5.c0
                  have c1 := hx5.c1
                  by_cases hp0 : 0 < p
                  · have hp0i : (0 : Int) < (p : Int) := by omega
                    have hlu : Calls Try.prog 77 #[.int .i64 ((p : Int) - 1), .int .i64 ((y : Int)), .pointer (some ⟨Bv, 0, none⟩)] w5 fun e w' => e = .returned (.bool (bef d5[p - 1]! d5[y]!)) ∧ Below w5.heap.size w5 w' := by
                      have := less_any hS5 (p - 1) (y) (by omega) (by omega)
                      rwa [show ((p - 1 : Nat) : Int) = (p : Int) - 1 by omega] at this
                    cases hv : bef d5[p - 1]! d5[y]! with
                    | false =>
                      rw [hv] at hlu
                      obtain ⟨⟨mid, d7⟩, hR⟩ : ∃ R, R = Sort.partitionEqual bef d5 p q y := ⟨_, rfl⟩
                      obtain ⟨hm1, hm2, ht7⟩ := HT5.out.eq hp0 (by omega) (by omega) hv hR.symm
                      have HT7 := Lib.hid ht7
                      clear ht7 hv
                      go_wp2_with fail
                      refine hlu.mono ?_
                      rintro e wu ⟨rfl, hbu⟩
                      have hSu := hS5.later hbu
                      have hGu := hG5.trans (grow_below (row := some blk) hbu)
                      have hxu := hx5.later hbu
                      have c0u := hxu.c0
                      have c1u := hxu.c1
                      have C := HPE.out d5 _ hSu p q y (by omega) (by omega) (by omega) (by omega)
                      rw [← hR] at C
                      clear hlu hR c0 c1
                      go_wp2_with fail
                      refine C.mono ?_
                      rintro e w7 ⟨rfl, hS7, hg7⟩
                      clear C
                      have hx7 := hxu.grown hg7 (by intro e; injection e with e; omega)
                      have hG7 := hGu.trans hg7
                      clear hSu hxu hGu hg7 c0u c1u hS5 hx5 hG5
                      go_wp2
                      go_roundw
                      case rel => exact ⟨mid, q, _, _, _, d7, rfl, rfl, rfl, rfl, rfl, by omega, by omega, by omega, HT7, hS7, hx7, hG7⟩
                      case measure => simp [intOf]; omega
                    | true =>
                      rw [hv] at hlu
                      clear hv
                      go_wp2_with fail
                      refine hlu.mono ?_
                      rintro e wu ⟨rfl, hbu⟩
                      have hSu := hS5.later hbu
                      have hGu := hG5.trans (grow_below (row := some blk) hbu)
                      have hxu := hx5.later hbu
                      have c0u := hxu.c0
                      have c1u := hxu.c1
                      have HTu := HT5
                      clear hlu c0 c1 hS5 hx5 hG5 HT5
                      obtain ⟨⟨mid, ap, d7⟩, hR⟩ : ∃ R, R = Sort.partition bef d5 p q y := ⟨_, rfl⟩
                      have C := HPT.out d5 _ hSu p q y (by omega) (by omega) (by omega) (by omega)
                      rw [← hR] at C
                      obtain ⟨hm1, hm2, hsz, hlo, hhi, hL, hRr⟩ := HTu.out.part (by omega) (by omega) hR.symm
                      have HL := Lib.hid hL
                      have HRr := Lib.hid hRr
                      have Hlo := Lib.hid hlo
                      have Hhi := Lib.hid hhi
                      clear hR hL hRr hlo hhi hsz
                      go_wp2_with fail
                      refine C.mono ?_
                      rintro e w7 ⟨rfl, hS7, hg7⟩
                      clear C
                      have hx7 := hxu.grown hg7 (by intro e; injection e with e; omega)
                      have hG7 := hGu.trans hg7
                      clear hSu hxu hGu HTu
                      have c0 := hx7.c0
                      have c1 := hx7.c1
                      by_cases hcmp : mid - p < q - mid
                      · have hcmpi : (mid : Int) - (p : Int) < (q : Int) - (mid : Int) := by omega
                        have C := fun lim => IH.out p mid lim d7 w7 (by omega) hm1 (by omega) hS7 Hlo.out
                        unfold dataV at C
                        go_wp2_with fail
                        refine (C _).mono ?_
                        rintro e w8 ⟨rfl, ⟨R8, hP8, hO8, hS8⟩, hg8⟩
                        clear C
                        have hx8 := hx7.grown hg8 (by intro e; injection e with e; omega)
                        have hG8 := hG7.trans hg8
                        have HT8 := Lib.hid (HL.out R8 hP8 hO8)
                        clear hS7 hx7 hG7 hg8 hP8 hO8 c0 c1 HL HRr Hlo Hhi
                        go_wp2
                        go_roundw
                        case rel => exact ⟨mid + 1, q, _, _, _, R8, by go_num, rfl, rfl, rfl, rfl, by omega, by omega, by omega, HT8, hS8, hx8, hG8⟩
                        case measure => simp [intOf]; omega
                      
                      · have hcmpi : ¬ (mid : Int) - (p : Int) < (q : Int) - (mid : Int) := by omega
                        have C := fun lim => IH.out (mid + 1) q lim d7 w7 (by omega) (by omega) (by omega) hS7 Hhi.out
                        rw [show ((mid + 1 : Nat) : Int) = (mid : Int) + 1 by omega] at C
                        unfold dataV at C
                        go_wp2_with fail
                        refine (C _).mono ?_
                        rintro e w8 ⟨rfl, ⟨R8, hP8, hO8, hS8⟩, hg8⟩
                        clear C
                        have hx8 := hx7.grown hg8 (by intro e; injection e with e; omega)
                        have hG8 := hG7.trans hg8
                        have HT8 := Lib.hid (HRr.out R8 hP8 hO8)
                        clear hS7 hx7 hG7 hg8 hP8 hO8 c0 c1 HL HRr Hlo Hhi
                        go_wp2
                        go_roundw
                        case rel => exact ⟨p, mid, _, _, _, R8, rfl, rfl, rfl, rfl, rfl, by omega, by omega, by omega, HT8, hS8, hx8, hG8⟩
                        case measure => simp [intOf]; omega
                  · have hp0i : ¬ (0 : Int) < (p : Int) := by omega
                    obtain ⟨⟨mid, ap, d7⟩, hR⟩ : ∃ R, R = Sort.partition bef d5 p q y := ⟨_, rfl⟩
                    have C := HPT.out d5 _ hS5 p q y (by omega) (by omega) (by omega) (by omega)
                    rw [← hR] at C
                    obtain ⟨hm1, hm2, hsz, hlo, hhi, hL, hRr⟩ := HT5.out.part (by omega) (by omega) hR.symm
                    have HL := Lib.hid hL
                    have HRr := Lib.hid hRr
                    have Hlo := Lib.hid hlo
                    have Hhi := Lib.hid hhi
                    clear hR hL hRr hlo hhi hsz
                    go_wp2_with fail
                    refine C.mono ?_
                    rintro e w7 ⟨rfl, hS7, hg7⟩
                    clear C
                    have hx7 := hx5.grown hg7 (by intro e; injection e with e; omega)
                    have hG7 := hG5.trans hg7
                    clear hS5 hx5 hG5 HT5
                    have c0 := hx7.c0
                    have c1 := hx7.c1
                    by_cases hcmp : mid - p < q - mid
                    · have hcmpi : (mid : Int) - (p : Int) < (q : Int) - (mid : Int) := by omega
                      have C := fun lim => IH.out p mid lim d7 w7 (by omega) hm1 (by omega) hS7 Hlo.out
                      unfold dataV at C
                      go_wp2_with fail
                      refine (C _).mono ?_
                      rintro e w8 ⟨rfl, ⟨R8, hP8, hO8, hS8⟩, hg8⟩
                      clear C
                      have hx8 := hx7.grown hg8 (by intro e; injection e with e; omega)
                      have hG8 := hG7.trans hg8
                      have HT8 := Lib.hid (HL.out R8 hP8 hO8)
                      clear hS7 hx7 hG7 hg8 hP8 hO8 c0 c1 HL HRr Hlo Hhi
                      go_wp2
                      go_roundw
                      case rel => exact ⟨mid + 1, q, _, _, _, R8, by go_num, rfl, rfl, rfl, rfl, by omega, by omega, by omega, HT8, hS8, hx8, hG8⟩
                      case measure => simp [intOf]; omega
                    
                    · have hcmpi : ¬ (mid : Int) - (p : Int) < (q : Int) - (mid : Int) := by omega
                      have C := fun lim => IH.out (mid + 1) q lim d7 w7 (by omega) (by omega) (by omega) hS7 Hhi.out
                      rw [show ((mid + 1 : Nat) : Int) = (mid : Int) + 1 by omega] at C
                      unfold dataV at C
                      go_wp2_with fail
                      refine (C _).mono ?_
                      rintro e w8 ⟨rfl, ⟨R8, hP8, hO8, hS8⟩, hg8⟩
                      clear C
                      have hx8 := hx7.grown hg8 (by intro e; injection e with e; omega)
                      have hG8 := hG7.trans hg8
                      have HT8 := Lib.hid (HRr.out R8 hP8 hO8)
                      clear hS7 hx7 hG7 hg8 hP8 hO8 c0 c1 HL HRr Hlo Hhi
                      go_wp2
                      go_roundw
                      case rel => exact ⟨p, mid, _, _, _, R8, rfl, rfl, rfl, rfl, rfl, by omega, by omega, by omega, HT8, hS8, hx8, hG8⟩
                      case measure => simp [intOf]; omega
            · have hz2b : (z == 2) = false := by simpa using hz2
              cases wp with
              | false =>
                have c0 := hx3.c0
                have c1 := hx3.c1
                by_cases hp0 : 0 < p
                · have hp0i : (0 : Int) < (p : Int) := by omega
                  have hlu : Calls Try.prog 77 #[.int .i64 ((p : Int) - 1), .int .i64 ((x : Int)), .pointer (some ⟨Bv, 0, none⟩)] w3 fun e w' => e = .returned (.bool (bef di[p - 1]! di[x]!)) ∧ Below w3.heap.size w3 w' := by
                    have := less_any hS3 (p - 1) (x) (by omega) (by omega)
                    rwa [show ((p - 1 : Nat) : Int) = (p : Int) - 1 by omega] at this
                  cases hv : bef di[p - 1]! di[x]! with
                  | false =>
                    rw [hv] at hlu
                    obtain ⟨⟨mid, d7⟩, hR⟩ : ∃ R, R = Sort.partitionEqual bef di p q x := ⟨_, rfl⟩
                    obtain ⟨hm1, hm2, ht7⟩ := HT3.out.eq hp0 (by omega) (by omega) hv hR.symm
                    have HT7 := Lib.hid ht7
                    clear ht7 hv
                    go_wp2_with fail
                    refine hlu.mono ?_
                    rintro e wu ⟨rfl, hbu⟩
                    have hSu := hS3.later hbu
                    have hGu := hG3.trans (grow_below (row := some blk) hbu)
                    have hxu := hx3.later hbu
                    have c0u := hxu.c0
                    have c1u := hxu.c1
                    have C := HPE.out di _ hSu p q x (by omega) (by omega) (by omega) (by omega)
                    rw [← hR] at C
                    clear hlu hR c0 c1
                    go_wp2_with fail
                    refine C.mono ?_
                    rintro e w7 ⟨rfl, hS7, hg7⟩
                    clear C
                    have hx7 := hxu.grown hg7 (by intro e; injection e with e; omega)
                    have hG7 := hGu.trans hg7
                    clear hSu hxu hGu hg7 c0u c1u hS3 hx3 hG3
                    go_wp2
                    go_roundw
                    case rel => exact ⟨mid, q, _, _, _, d7, rfl, rfl, rfl, rfl, rfl, by omega, by omega, by omega, HT7, hS7, hx7, hG7⟩
                    case measure => simp [intOf]; omega
                  | true =>
                    rw [hv] at hlu
                    clear hv
                    go_wp2_with fail
                    refine hlu.mono ?_
                    rintro e wu ⟨rfl, hbu⟩
                    have hSu := hS3.later hbu
                    have hGu := hG3.trans (grow_below (row := some blk) hbu)
                    have hxu := hx3.later hbu
                    have c0u := hxu.c0
                    have c1u := hxu.c1
                    have HTu := HT3
                    clear hlu c0 c1 hS3 hx3 hG3 HT3
                    obtain ⟨⟨mid, ap, d7⟩, hR⟩ : ∃ R, R = Sort.partition bef di p q x := ⟨_, rfl⟩
                    have C := HPT.out di _ hSu p q x (by omega) (by omega) (by omega) (by omega)
                    rw [← hR] at C
                    obtain ⟨hm1, hm2, hsz, hlo, hhi, hL, hRr⟩ := HTu.out.part (by omega) (by omega) hR.symm
                    have HL := Lib.hid hL
                    have HRr := Lib.hid hRr
                    have Hlo := Lib.hid hlo
                    have Hhi := Lib.hid hhi
                    clear hR hL hRr hlo hhi hsz
                    go_wp2_with fail
                    refine C.mono ?_
                    rintro e w7 ⟨rfl, hS7, hg7⟩
                    clear C
                    have hx7 := hxu.grown hg7 (by intro e; injection e with e; omega)
                    have hG7 := hGu.trans hg7
                    clear hSu hxu hGu HTu
                    have c0 := hx7.c0
                    have c1 := hx7.c1
                    by_cases hcmp : mid - p < q - mid
                    · have hcmpi : (mid : Int) - (p : Int) < (q : Int) - (mid : Int) := by omega
                      have C := fun lim => IH.out p mid lim d7 w7 (by omega) hm1 (by omega) hS7 Hlo.out
                      unfold dataV at C
                      go_wp2_with fail
                      refine (C _).mono ?_
                      rintro e w8 ⟨rfl, ⟨R8, hP8, hO8, hS8⟩, hg8⟩
                      clear C
                      have hx8 := hx7.grown hg8 (by intro e; injection e with e; omega)
                      have hG8 := hG7.trans hg8
                      have HT8 := Lib.hid (HL.out R8 hP8 hO8)
                      clear hS7 hx7 hG7 hg8 hP8 hO8 c0 c1 HL HRr Hlo Hhi
                      go_wp2
                      go_roundw
                      case rel => exact ⟨mid + 1, q, _, _, _, R8, by go_num, rfl, rfl, rfl, rfl, by omega, by omega, by omega, HT8, hS8, hx8, hG8⟩
                      case measure => simp [intOf]; omega
                    
                    · have hcmpi : ¬ (mid : Int) - (p : Int) < (q : Int) - (mid : Int) := by omega
                      have C := fun lim => IH.out (mid + 1) q lim d7 w7 (by omega) (by omega) (by omega) hS7 Hhi.out
                      rw [show ((mid + 1 : Nat) : Int) = (mid : Int) + 1 by omega] at C
                      unfold dataV at C
                      go_wp2_with fail
                      refine (C _).mono ?_
                      rintro e w8 ⟨rfl, ⟨R8, hP8, hO8, hS8⟩, hg8⟩
                      clear C
                      have hx8 := hx7.grown hg8 (by intro e; injection e with e; omega)
                      have hG8 := hG7.trans hg8
                      have HT8 := Lib.hid (HRr.out R8 hP8 hO8)
                      clear hS7 hx7 hG7 hg8 hP8 hO8 c0 c1 HL HRr Hlo Hhi
                      go_wp2
                      go_roundw
                      case rel => exact ⟨p, mid, _, _, _, R8, rfl, rfl, rfl, rfl, rfl, by omega, by omega, by omega, HT8, hS8, hx8, hG8⟩
                      case measure => simp [intOf]; omega
                · have hp0i : ¬ (0 : Int) < (p : Int) := by omega
                  obtain ⟨⟨mid, ap, d7⟩, hR⟩ : ∃ R, R = Sort.partition bef di p q x := ⟨_, rfl⟩
                  have C := HPT.out di _ hS3 p q x (by omega) (by omega) (by omega) (by omega)
                  rw [← hR] at C
                  obtain ⟨hm1, hm2, hsz, hlo, hhi, hL, hRr⟩ := HT3.out.part (by omega) (by omega) hR.symm
                  have HL := Lib.hid hL
                  have HRr := Lib.hid hRr
                  have Hlo := Lib.hid hlo
                  have Hhi := Lib.hid hhi
                  clear hR hL hRr hlo hhi hsz
                  go_wp2_with fail
                  refine C.mono ?_
                  rintro e w7 ⟨rfl, hS7, hg7⟩
                  clear C
                  have hx7 := hx3.grown hg7 (by intro e; injection e with e; omega)
                  have hG7 := hG3.trans hg7
                  clear hS3 hx3 hG3 HT3
                  have c0 := hx7.c0
                  have c1 := hx7.c1
                  by_cases hcmp : mid - p < q - mid
                  · have hcmpi : (mid : Int) - (p : Int) < (q : Int) - (mid : Int) := by omega
                    have C := fun lim => IH.out p mid lim d7 w7 (by omega) hm1 (by omega) hS7 Hlo.out
                    unfold dataV at C
                    go_wp2_with fail
                    refine (C _).mono ?_
                    rintro e w8 ⟨rfl, ⟨R8, hP8, hO8, hS8⟩, hg8⟩
                    clear C
                    have hx8 := hx7.grown hg8 (by intro e; injection e with e; omega)
                    have hG8 := hG7.trans hg8
                    have HT8 := Lib.hid (HL.out R8 hP8 hO8)
                    clear hS7 hx7 hG7 hg8 hP8 hO8 c0 c1 HL HRr Hlo Hhi
                    go_wp2
                    go_roundw
                    case rel => exact ⟨mid + 1, q, _, _, _, R8, by go_num, rfl, rfl, rfl, rfl, by omega, by omega, by omega, HT8, hS8, hx8, hG8⟩
                    case measure => simp [intOf]; omega
                  
                  · have hcmpi : ¬ (mid : Int) - (p : Int) < (q : Int) - (mid : Int) := by omega
                    have C := fun lim => IH.out (mid + 1) q lim d7 w7 (by omega) (by omega) (by omega) hS7 Hhi.out
                    rw [show ((mid + 1 : Nat) : Int) = (mid : Int) + 1 by omega] at C
                    unfold dataV at C
                    go_wp2_with fail
                    refine (C _).mono ?_
                    rintro e w8 ⟨rfl, ⟨R8, hP8, hO8, hS8⟩, hg8⟩
                    clear C
                    have hx8 := hx7.grown hg8 (by intro e; injection e with e; omega)
                    have hG8 := hG7.trans hg8
                    have HT8 := Lib.hid (HRr.out R8 hP8 hO8)
                    clear hS7 hx7 hG7 hg8 hP8 hO8 c0 c1 HL HRr Hlo Hhi
                    go_wp2
                    go_roundw
                    case rel => exact ⟨p, mid, _, _, _, R8, rfl, rfl, rfl, rfl, rfl, by omega, by omega, by omega, HT8, hS8, hx8, hG8⟩
                    case measure => simp [intOf]; omega
              | true =>
                have c0 := hx3.c0
                have c1 := hx3.c1
                by_cases hz1 : z = 1
                · subst hz1
                  have hI := Sort.partialInsertionSort_holds (lt := bef) swo_bef di p q (by omega) HT3.out.size HT3.out.low
                  have C := HPI.out di _ hS3 p q (by omega) (by omega)
                  revert hI C
                  generalize Sort.partialInsertionSort bef di p q = R5
                  obtain ⟨d5, r5⟩ := R5
                  intro hI C
                  obtain ⟨hP5, hO5⟩ := hI
                  simp only at hP5 hO5 C
                  cases r5 with
                  | true =>
                    have hF := HT3.out.fin _ hP5 (hO5 rfl)
                    go_wp2_with fail
                    refine C.mono ?_
                    rintro e w5 ⟨rfl, hS5, hg5⟩
                    clear C hO5
                    go_wp2
                    first | go_end0 | (refine bodyPost_ret (results_none rfl _ _ _) rfl ?_) | (simp only [Exit.inBlock, Exit.then]; refine bodyPost_ret (results_none rfl _ _ _) rfl ?_)
                    exact ⟨rfl, ⟨_, hF.1, hF.2, hS5⟩, hG3.trans hg5⟩
                  | false =>
                    go_wp2_with fail
                    refine C.mono ?_
                    rintro e w5 ⟨rfl, hS5, hg5⟩
                    clear C hO5
                    have hx5 := hx3.grown hg5 (by intro e; injection e with e; omega)
                    have hG5 := hG3.trans hg5
                    have HT5 := Lib.hid (HT3.out.perm hP5)
                    clear hS3 hx3 hG3 HT3 hg5 hP5
                    have c0 := hx5.c0
                    have c1 := hx5.c1
                    by_cases hp0 : 0 < p
                    · have hp0i : (0 : Int) < (p : Int) := by omega
                      have hlu : Calls Try.prog 77 #[.int .i64 ((p : Int) - 1), .int .i64 ((x : Int)), .pointer (some ⟨Bv, 0, none⟩)] w5 fun e w' => e = .returned (.bool (bef d5[p - 1]! d5[x]!)) ∧ Below w5.heap.size w5 w' := by
                        have := less_any hS5 (p - 1) (x) (by omega) (by omega)
                        rwa [show ((p - 1 : Nat) : Int) = (p : Int) - 1 by omega] at this
                      cases hv : bef d5[p - 1]! d5[x]! with
                      | false =>
                        rw [hv] at hlu
                        obtain ⟨⟨mid, d7⟩, hR⟩ : ∃ R, R = Sort.partitionEqual bef d5 p q x := ⟨_, rfl⟩
                        obtain ⟨hm1, hm2, ht7⟩ := HT5.out.eq hp0 (by omega) (by omega) hv hR.symm
                        have HT7 := Lib.hid ht7
                        clear ht7 hv
                        go_wp2_with fail
                        refine hlu.mono ?_
                        rintro e wu ⟨rfl, hbu⟩
                        have hSu := hS5.later hbu
                        have hGu := hG5.trans (grow_below (row := some blk) hbu)
                        have hxu := hx5.later hbu
                        have c0u := hxu.c0
                        have c1u := hxu.c1
                        have C := HPE.out d5 _ hSu p q x (by omega) (by omega) (by omega) (by omega)
                        rw [← hR] at C
                        clear hlu hR c0 c1
                        go_wp2_with fail
                        refine C.mono ?_
                        rintro e w7 ⟨rfl, hS7, hg7⟩
                        clear C
                        have hx7 := hxu.grown hg7 (by intro e; injection e with e; omega)
                        have hG7 := hGu.trans hg7
                        clear hSu hxu hGu hg7 c0u c1u hS5 hx5 hG5
                        go_wp2
                        go_roundw
                        case rel => exact ⟨mid, q, _, _, _, d7, rfl, rfl, rfl, rfl, rfl, by omega, by omega, by omega, HT7, hS7, hx7, hG7⟩
                        case measure => simp [intOf]; omega
                      | true =>
                        rw [hv] at hlu
                        clear hv
                        go_wp2_with fail
                        refine hlu.mono ?_
                        rintro e wu ⟨rfl, hbu⟩
                        have hSu := hS5.later hbu
                        have hGu := hG5.trans (grow_below (row := some blk) hbu)
                        have hxu := hx5.later hbu
                        have c0u := hxu.c0
                        have c1u := hxu.c1
                        have HTu := HT5
                        clear hlu c0 c1 hS5 hx5 hG5 HT5
                        obtain ⟨⟨mid, ap, d7⟩, hR⟩ : ∃ R, R = Sort.partition bef d5 p q x := ⟨_, rfl⟩
                        have C := HPT.out d5 _ hSu p q x (by omega) (by omega) (by omega) (by omega)
                        rw [← hR] at C
                        obtain ⟨hm1, hm2, hsz, hlo, hhi, hL, hRr⟩ := HTu.out.part (by omega) (by omega) hR.symm
                        have HL := Lib.hid hL
                        have HRr := Lib.hid hRr
                        have Hlo := Lib.hid hlo
                        have Hhi := Lib.hid hhi
                        clear hR hL hRr hlo hhi hsz
                        go_wp2_with fail
                        refine C.mono ?_
                        rintro e w7 ⟨rfl, hS7, hg7⟩
                        clear C
                        have hx7 := hxu.grown hg7 (by intro e; injection e with e; omega)
                        have hG7 := hGu.trans hg7
                        clear hSu hxu hGu HTu
                        have c0 := hx7.c0
                        have c1 := hx7.c1
                        by_cases hcmp : mid - p < q - mid
                        · have hcmpi : (mid : Int) - (p : Int) < (q : Int) - (mid : Int) := by omega
                          have C := fun lim => IH.out p mid lim d7 w7 (by omega) hm1 (by omega) hS7 Hlo.out
                          unfold dataV at C
                          go_wp2_with fail
                          refine (C _).mono ?_
                          rintro e w8 ⟨rfl, ⟨R8, hP8, hO8, hS8⟩, hg8⟩
                          clear C
                          have hx8 := hx7.grown hg8 (by intro e; injection e with e; omega)
                          have hG8 := hG7.trans hg8
                          have HT8 := Lib.hid (HL.out R8 hP8 hO8)
                          clear hS7 hx7 hG7 hg8 hP8 hO8 c0 c1 HL HRr Hlo Hhi
                          go_wp2
                          go_roundw
                          case rel => exact ⟨mid + 1, q, _, _, _, R8, by go_num, rfl, rfl, rfl, rfl, by omega, by omega, by omega, HT8, hS8, hx8, hG8⟩
                          case measure => simp [intOf]; omega
                        
                        · have hcmpi : ¬ (mid : Int) - (p : Int) < (q : Int) - (mid : Int) := by omega
                          have C := fun lim => IH.out (mid + 1) q lim d7 w7 (by omega) (by omega) (by omega) hS7 Hhi.out
                          rw [show ((mid + 1 : Nat) : Int) = (mid : Int) + 1 by omega] at C
                          unfold dataV at C
                          go_wp2_with fail
                          refine (C _).mono ?_
                          rintro e w8 ⟨rfl, ⟨R8, hP8, hO8, hS8⟩, hg8⟩
                          clear C
                          have hx8 := hx7.grown hg8 (by intro e; injection e with e; omega)
                          have hG8 := hG7.trans hg8
                          have HT8 := Lib.hid (HRr.out R8 hP8 hO8)
                          clear hS7 hx7 hG7 hg8 hP8 hO8 c0 c1 HL HRr Hlo Hhi
                          go_wp2
                          go_roundw
                          case rel => exact ⟨p, mid, _, _, _, R8, rfl, rfl, rfl, rfl, rfl, by omega, by omega, by omega, HT8, hS8, hx8, hG8⟩
                          case measure => simp [intOf]; omega
                    · have hp0i : ¬ (0 : Int) < (p : Int) := by omega
                      obtain ⟨⟨mid, ap, d7⟩, hR⟩ : ∃ R, R = Sort.partition bef d5 p q x := ⟨_, rfl⟩
                      have C := HPT.out d5 _ hS5 p q x (by omega) (by omega) (by omega) (by omega)
                      rw [← hR] at C
                      obtain ⟨hm1, hm2, hsz, hlo, hhi, hL, hRr⟩ := HT5.out.part (by omega) (by omega) hR.symm
                      have HL := Lib.hid hL
                      have HRr := Lib.hid hRr
                      have Hlo := Lib.hid hlo
                      have Hhi := Lib.hid hhi
                      clear hR hL hRr hlo hhi hsz
                      go_wp2_with fail
                      refine C.mono ?_
                      rintro e w7 ⟨rfl, hS7, hg7⟩
                      clear C
                      have hx7 := hx5.grown hg7 (by intro e; injection e with e; omega)
                      have hG7 := hG5.trans hg7
                      clear hS5 hx5 hG5 HT5
                      have c0 := hx7.c0
                      have c1 := hx7.c1
                      by_cases hcmp : mid - p < q - mid
                      · have hcmpi : (mid : Int) - (p : Int) < (q : Int) - (mid : Int) := by omega
                        have C := fun lim => IH.out p mid lim d7 w7 (by omega) hm1 (by omega) hS7 Hlo.out
                        unfold dataV at C
                        go_wp2_with fail
                        refine (C _).mono ?_
                        rintro e w8 ⟨rfl, ⟨R8, hP8, hO8, hS8⟩, hg8⟩
                        clear C
                        have hx8 := hx7.grown hg8 (by intro e; injection e with e; omega)
                        have hG8 := hG7.trans hg8
                        have HT8 := Lib.hid (HL.out R8 hP8 hO8)
                        clear hS7 hx7 hG7 hg8 hP8 hO8 c0 c1 HL HRr Hlo Hhi
                        go_wp2
                        go_roundw
                        case rel => exact ⟨mid + 1, q, _, _, _, R8, by go_num, rfl, rfl, rfl, rfl, by omega, by omega, by omega, HT8, hS8, hx8, hG8⟩
                        case measure => simp [intOf]; omega
                      
                      · have hcmpi : ¬ (mid : Int) - (p : Int) < (q : Int) - (mid : Int) := by omega
                        have C := fun lim => IH.out (mid + 1) q lim d7 w7 (by omega) (by omega) (by omega) hS7 Hhi.out
                        rw [show ((mid + 1 : Nat) : Int) = (mid : Int) + 1 by omega] at C
                        unfold dataV at C
                        go_wp2_with fail
                        refine (C _).mono ?_
                        rintro e w8 ⟨rfl, ⟨R8, hP8, hO8, hS8⟩, hg8⟩
                        clear C
                        have hx8 := hx7.grown hg8 (by intro e; injection e with e; omega)
                        have hG8 := hG7.trans hg8
                        have HT8 := Lib.hid (HRr.out R8 hP8 hO8)
                        clear hS7 hx7 hG7 hg8 hP8 hO8 c0 c1 HL HRr Hlo Hhi
                        go_wp2
                        go_roundw
                        case rel => exact ⟨p, mid, _, _, _, R8, rfl, rfl, rfl, rfl, rfl, by omega, by omega, by omega, HT8, hS8, hx8, hG8⟩
                        case measure => simp [intOf]; omega
                · have hz1b : (z == 1) = false := by simpa using hz1
                  have c0 := hx3.c0
                  have c1 := hx3.c1
                  by_cases hp0 : 0 < p
                  · have hp0i : (0 : Int) < (p : Int) := by omega
                    have hlu : Calls Try.prog 77 #[.int .i64 ((p : Int) - 1), .int .i64 ((x : Int)), .pointer (some ⟨Bv, 0, none⟩)] w3 fun e w' => e = .returned (.bool (bef di[p - 1]! di[x]!)) ∧ Below w3.heap.size w3 w' := by
                      have := less_any hS3 (p - 1) (x) (by omega) (by omega)
                      rwa [show ((p - 1 : Nat) : Int) = (p : Int) - 1 by omega] at this
                    cases hv : bef di[p - 1]! di[x]! with
                    | false =>
                      rw [hv] at hlu
                      obtain ⟨⟨mid, d7⟩, hR⟩ : ∃ R, R = Sort.partitionEqual bef di p q x := ⟨_, rfl⟩
                      obtain ⟨hm1, hm2, ht7⟩ := HT3.out.eq hp0 (by omega) (by omega) hv hR.symm
                      have HT7 := Lib.hid ht7
                      clear ht7 hv
                      go_wp2_with fail
                      refine hlu.mono ?_
                      rintro e wu ⟨rfl, hbu⟩
                      have hSu := hS3.later hbu
                      have hGu := hG3.trans (grow_below (row := some blk) hbu)
                      have hxu := hx3.later hbu
                      have c0u := hxu.c0
                      have c1u := hxu.c1
                      have C := HPE.out di _ hSu p q x (by omega) (by omega) (by omega) (by omega)
                      rw [← hR] at C
                      clear hlu hR c0 c1
                      go_wp2_with fail
                      refine C.mono ?_
                      rintro e w7 ⟨rfl, hS7, hg7⟩
                      clear C
                      have hx7 := hxu.grown hg7 (by intro e; injection e with e; omega)
                      have hG7 := hGu.trans hg7
                      clear hSu hxu hGu hg7 c0u c1u hS3 hx3 hG3
                      go_wp2
                      go_roundw
                      case rel => exact ⟨mid, q, _, _, _, d7, rfl, rfl, rfl, rfl, rfl, by omega, by omega, by omega, HT7, hS7, hx7, hG7⟩
                      case measure => simp [intOf]; omega
                    | true =>
                      rw [hv] at hlu
                      clear hv
                      go_wp2_with fail
                      refine hlu.mono ?_
                      rintro e wu ⟨rfl, hbu⟩
                      have hSu := hS3.later hbu
                      have hGu := hG3.trans (grow_below (row := some blk) hbu)
                      have hxu := hx3.later hbu
                      have c0u := hxu.c0
                      have c1u := hxu.c1
                      have HTu := HT3
                      clear hlu c0 c1 hS3 hx3 hG3 HT3
                      obtain ⟨⟨mid, ap, d7⟩, hR⟩ : ∃ R, R = Sort.partition bef di p q x := ⟨_, rfl⟩
                      have C := HPT.out di _ hSu p q x (by omega) (by omega) (by omega) (by omega)
                      rw [← hR] at C
                      obtain ⟨hm1, hm2, hsz, hlo, hhi, hL, hRr⟩ := HTu.out.part (by omega) (by omega) hR.symm
                      have HL := Lib.hid hL
                      have HRr := Lib.hid hRr
                      have Hlo := Lib.hid hlo
                      have Hhi := Lib.hid hhi
                      clear hR hL hRr hlo hhi hsz
                      go_wp2_with fail
                      refine C.mono ?_
                      rintro e w7 ⟨rfl, hS7, hg7⟩
                      clear C
                      have hx7 := hxu.grown hg7 (by intro e; injection e with e; omega)
                      have hG7 := hGu.trans hg7
                      clear hSu hxu hGu HTu
                      have c0 := hx7.c0
                      have c1 := hx7.c1
                      by_cases hcmp : mid - p < q - mid
                      · have hcmpi : (mid : Int) - (p : Int) < (q : Int) - (mid : Int) := by omega
                        have C := fun lim => IH.out p mid lim d7 w7 (by omega) hm1 (by omega) hS7 Hlo.out
                        unfold dataV at C
                        go_wp2_with fail
                        refine (C _).mono ?_
                        rintro e w8 ⟨rfl, ⟨R8, hP8, hO8, hS8⟩, hg8⟩
                        clear C
                        have hx8 := hx7.grown hg8 (by intro e; injection e with e; omega)
                        have hG8 := hG7.trans hg8
                        have HT8 := Lib.hid (HL.out R8 hP8 hO8)
                        clear hS7 hx7 hG7 hg8 hP8 hO8 c0 c1 HL HRr Hlo Hhi
                        go_wp2
                        go_roundw
                        case rel => exact ⟨mid + 1, q, _, _, _, R8, by go_num, rfl, rfl, rfl, rfl, by omega, by omega, by omega, HT8, hS8, hx8, hG8⟩
                        case measure => simp [intOf]; omega
                      
                      · have hcmpi : ¬ (mid : Int) - (p : Int) < (q : Int) - (mid : Int) := by omega
                        have C := fun lim => IH.out (mid + 1) q lim d7 w7 (by omega) (by omega) (by omega) hS7 Hhi.out
                        rw [show ((mid + 1 : Nat) : Int) = (mid : Int) + 1 by omega] at C
                        unfold dataV at C
                        go_wp2_with fail
                        refine (C _).mono ?_
                        rintro e w8 ⟨rfl, ⟨R8, hP8, hO8, hS8⟩, hg8⟩
                        clear C
                        have hx8 := hx7.grown hg8 (by intro e; injection e with e; omega)
                        have hG8 := hG7.trans hg8
                        have HT8 := Lib.hid (HRr.out R8 hP8 hO8)
                        clear hS7 hx7 hG7 hg8 hP8 hO8 c0 c1 HL HRr Hlo Hhi
                        go_wp2
                        go_roundw
                        case rel => exact ⟨p, mid, _, _, _, R8, rfl, rfl, rfl, rfl, rfl, by omega, by omega, by omega, HT8, hS8, hx8, hG8⟩
                        case measure => simp [intOf]; omega
                  · have hp0i : ¬ (0 : Int) < (p : Int) := by omega
                    obtain ⟨⟨mid, ap, d7⟩, hR⟩ : ∃ R, R = Sort.partition bef di p q x := ⟨_, rfl⟩
                    have C := HPT.out di _ hS3 p q x (by omega) (by omega) (by omega) (by omega)
                    rw [← hR] at C
                    obtain ⟨hm1, hm2, hsz, hlo, hhi, hL, hRr⟩ := HT3.out.part (by omega) (by omega) hR.symm
                    have HL := Lib.hid hL
                    have HRr := Lib.hid hRr
                    have Hlo := Lib.hid hlo
                    have Hhi := Lib.hid hhi
                    clear hR hL hRr hlo hhi hsz
                    go_wp2_with fail
                    refine C.mono ?_
                    rintro e w7 ⟨rfl, hS7, hg7⟩
                    clear C
                    have hx7 := hx3.grown hg7 (by intro e; injection e with e; omega)
                    have hG7 := hG3.trans hg7
                    clear hS3 hx3 hG3 HT3
                    have c0 := hx7.c0
                    have c1 := hx7.c1
                    by_cases hcmp : mid - p < q - mid
                    · have hcmpi : (mid : Int) - (p : Int) < (q : Int) - (mid : Int) := by omega
                      have C := fun lim => IH.out p mid lim d7 w7 (by omega) hm1 (by omega) hS7 Hlo.out
                      unfold dataV at C
                      go_wp2_with fail
                      refine (C _).mono ?_
                      rintro e w8 ⟨rfl, ⟨R8, hP8, hO8, hS8⟩, hg8⟩
                      clear C
                      have hx8 := hx7.grown hg8 (by intro e; injection e with e; omega)
                      have hG8 := hG7.trans hg8
                      have HT8 := Lib.hid (HL.out R8 hP8 hO8)
                      clear hS7 hx7 hG7 hg8 hP8 hO8 c0 c1 HL HRr Hlo Hhi
                      go_wp2
                      go_roundw
                      case rel => exact ⟨mid + 1, q, _, _, _, R8, by go_num, rfl, rfl, rfl, rfl, by omega, by omega, by omega, HT8, hS8, hx8, hG8⟩
                      case measure => simp [intOf]; omega
                    
                    · have hcmpi : ¬ (mid : Int) - (p : Int) < (q : Int) - (mid : Int) := by omega
                      have C := fun lim => IH.out (mid + 1) q lim d7 w7 (by omega) (by omega) (by omega) hS7 Hhi.out
                      rw [show ((mid + 1 : Nat) : Int) = (mid : Int) + 1 by omega] at C
                      unfold dataV at C
                      go_wp2_with fail
                      refine (C _).mono ?_
                      rintro e w8 ⟨rfl, ⟨R8, hP8, hO8, hS8⟩, hg8⟩
                      clear C
                      have hx8 := hx7.grown hg8 (by intro e; injection e with e; omega)
                      have hG8 := hG7.trans hg8
                      have HT8 := Lib.hid (HRr.out R8 hP8 hO8)
                      clear hS7 hx7 hG7 hg8 hP8 hO8 c0 c1 HL HRr Hlo Hhi
                      go_wp2
                      go_roundw
                      case rel => exact ⟨p, mid, _, _, _, R8, rfl, rfl, rfl, rfl, rfl, by omega, by omega, by omega, HT8, hS8, hx8, hG8⟩
                      case measure => simp [intOf]; omega
          | false =>
            have C := HBR.out di wr hS p q (by omega) (by omega)
            go_wp2_with fail
            refine C.mono ?_
            rintro e w2 ⟨rfl, ⟨d2, hP2, hS2⟩, hg2⟩
            clear C
            have hx2 := hx.grown hg2 (by intro e; injection e with e; omega)
            have hG2 := hG.trans hg2
            have HT2 := Lib.hid (HT.out.perm hP2)
            clear hS hx hG HT c0 c1 hg2 hP2
            have c0 := hx2.c0
            have c1 := hx2.c1
            have C := HCH.out d2 _ hS2 p q (by omega) (by omega)
            go_wp2_with fail
            refine C.mono ?_
            rintro e w3 ⟨⟨x, z, rfl, hxa, hxb⟩, hS3, hb3⟩
            clear C
            have hx3 := hx2.later hb3
            have hG3 := hG2.trans (grow_below (row := some blk) hb3)
            have HT3 := HT2
            have c03 := hx3.c0
            have c13 := hx3.c1
            clear hS2 hx2 hG2 HT2 c0 c1 hb3
            by_cases hz2 : z = 2
            · subst hz2
              obtain ⟨y, hy⟩ : ∃ y : Nat, (q : Int) - 1 - ((x : Int) - (p : Int)) = y := ⟨((q : Int) - 1 - ((x : Int) - (p : Int))).toNat, by omega⟩
              have hyr : p ≤ y ∧ y < q := by omega
              have C := HRV.out d2 _ hS3 p q (by omega) (by omega)
              go_wp2_with fail
              refine C.mono ?_
              rintro e w4 ⟨rfl, ⟨d4, hP4, hS4⟩, hg4⟩
              clear C
              have hx4 := hx3.grown hg4 (by intro e; injection e with e; omega)
              have hG4 := hG3.trans hg4
              have HT4 := Lib.hid (HT3.out.perm hP4)
              clear hS3 hx3 hG3 HT3 c03 c13 hg4 hP4
              have c0 := hx4.c0
              have c1 := hx4.c1
              by_cases hp0 : 0 < p
              · have hp0i : (0 : Int) < (p : Int) := by omega
                have hlu : Calls Try.prog 77 #[.int .i64 ((p : Int) - 1), .int .i64 ((y : Int)), .pointer (some ⟨Bv, 0, none⟩)] w4 fun e w' => e = .returned (.bool (bef d4[p - 1]! d4[y]!)) ∧ Below w4.heap.size w4 w' := by
                  have := less_any hS4 (p - 1) (y) (by omega) (by omega)
                  rwa [show ((p - 1 : Nat) : Int) = (p : Int) - 1 by omega] at this
                cases hv : bef d4[p - 1]! d4[y]! with
                | false =>
                  rw [hv] at hlu
                  obtain ⟨⟨mid, d7⟩, hR⟩ : ∃ R, R = Sort.partitionEqual bef d4 p q y := ⟨_, rfl⟩
                  obtain ⟨hm1, hm2, ht7⟩ := HT4.out.eq hp0 (by omega) (by omega) hv hR.symm
                  have HT7 := Lib.hid ht7
                  clear ht7 hv
                  go_wp2_with fail
                  refine hlu.mono ?_
                  rintro e wu ⟨rfl, hbu⟩
                  have hSu := hS4.later hbu
                  have hGu := hG4.trans (grow_below (row := some blk) hbu)
                  have hxu := hx4.later hbu
                  have c0u := hxu.c0
                  have c1u := hxu.c1
                  have C := HPE.out d4 _ hSu p q y (by omega) (by omega) (by omega) (by omega)
                  rw [← hR] at C
                  clear hlu hR c0 c1
                  go_wp2_with fail
                  refine C.mono ?_
                  rintro e w7 ⟨rfl, hS7, hg7⟩
                  clear C
                  have hx7 := hxu.grown hg7 (by intro e; injection e with e; omega)
                  have hG7 := hGu.trans hg7
                  clear hSu hxu hGu hg7 c0u c1u hS4 hx4 hG4
                  go_wp2
                  go_roundw
                  case rel => exact ⟨mid, q, _, _, _, d7, rfl, rfl, rfl, rfl, rfl, by omega, by omega, by omega, HT7, hS7, hx7, hG7⟩
                  case measure => simp [intOf]; omega
                | true =>
                  rw [hv] at hlu
                  clear hv
                  go_wp2_with fail
                  refine hlu.mono ?_
                  rintro e wu ⟨rfl, hbu⟩
                  have hSu := hS4.later hbu
                  have hGu := hG4.trans (grow_below (row := some blk) hbu)
                  have hxu := hx4.later hbu
                  have c0u := hxu.c0
                  have c1u := hxu.c1
                  have HTu := HT4
                  clear hlu c0 c1 hS4 hx4 hG4 HT4
                  obtain ⟨⟨mid, ap, d7⟩, hR⟩ : ∃ R, R = Sort.partition bef d4 p q y := ⟨_, rfl⟩
                  have C := HPT.out d4 _ hSu p q y (by omega) (by omega) (by omega) (by omega)
                  rw [← hR] at C
                  obtain ⟨hm1, hm2, hsz, hlo, hhi, hL, hRr⟩ := HTu.out.part (by omega) (by omega) hR.symm
                  have HL := Lib.hid hL
                  have HRr := Lib.hid hRr
                  have Hlo := Lib.hid hlo
                  have Hhi := Lib.hid hhi
                  clear hR hL hRr hlo hhi hsz
                  go_wp2_with fail
                  refine C.mono ?_
                  rintro e w7 ⟨rfl, hS7, hg7⟩
                  clear C
                  have hx7 := hxu.grown hg7 (by intro e; injection e with e; omega)
                  have hG7 := hGu.trans hg7
                  clear hSu hxu hGu HTu
                  have c0 := hx7.c0
                  have c1 := hx7.c1
                  by_cases hcmp : mid - p < q - mid
                  · have hcmpi : (mid : Int) - (p : Int) < (q : Int) - (mid : Int) := by omega
                    have C := fun lim => IH.out p mid lim d7 w7 (by omega) hm1 (by omega) hS7 Hlo.out
                    unfold dataV at C
                    go_wp2_with fail
                    refine (C _).mono ?_
                    rintro e w8 ⟨rfl, ⟨R8, hP8, hO8, hS8⟩, hg8⟩
                    clear C
                    have hx8 := hx7.grown hg8 (by intro e; injection e with e; omega)
                    have hG8 := hG7.trans hg8
                    have HT8 := Lib.hid (HL.out R8 hP8 hO8)
                    clear hS7 hx7 hG7 hg8 hP8 hO8 c0 c1 HL HRr Hlo Hhi
                    go_wp2
                    go_roundw
                    case rel => exact ⟨mid + 1, q, _, _, _, R8, by go_num, rfl, rfl, rfl, rfl, by omega, by omega, by omega, HT8, hS8, hx8, hG8⟩
                    case measure => simp [intOf]; omega
                  
                  · have hcmpi : ¬ (mid : Int) - (p : Int) < (q : Int) - (mid : Int) := by omega
                    have C := fun lim => IH.out (mid + 1) q lim d7 w7 (by omega) (by omega) (by omega) hS7 Hhi.out
                    rw [show ((mid + 1 : Nat) : Int) = (mid : Int) + 1 by omega] at C
                    unfold dataV at C
                    go_wp2_with fail
                    refine (C _).mono ?_
                    rintro e w8 ⟨rfl, ⟨R8, hP8, hO8, hS8⟩, hg8⟩
                    clear C
                    have hx8 := hx7.grown hg8 (by intro e; injection e with e; omega)
                    have hG8 := hG7.trans hg8
                    have HT8 := Lib.hid (HRr.out R8 hP8 hO8)
                    clear hS7 hx7 hG7 hg8 hP8 hO8 c0 c1 HL HRr Hlo Hhi
                    go_wp2
                    go_roundw
                    case rel => exact ⟨p, mid, _, _, _, R8, rfl, rfl, rfl, rfl, rfl, by omega, by omega, by omega, HT8, hS8, hx8, hG8⟩
                    case measure => simp [intOf]; omega
              · have hp0i : ¬ (0 : Int) < (p : Int) := by omega
                obtain ⟨⟨mid, ap, d7⟩, hR⟩ : ∃ R, R = Sort.partition bef d4 p q y := ⟨_, rfl⟩
                have C := HPT.out d4 _ hS4 p q y (by omega) (by omega) (by omega) (by omega)
                rw [← hR] at C
                obtain ⟨hm1, hm2, hsz, hlo, hhi, hL, hRr⟩ := HT4.out.part (by omega) (by omega) hR.symm
                have HL := Lib.hid hL
                have HRr := Lib.hid hRr
                have Hlo := Lib.hid hlo
                have Hhi := Lib.hid hhi
                clear hR hL hRr hlo hhi hsz
                go_wp2_with fail
                refine C.mono ?_
                rintro e w7 ⟨rfl, hS7, hg7⟩
                clear C
                have hx7 := hx4.grown hg7 (by intro e; injection e with e; omega)
                have hG7 := hG4.trans hg7
                clear hS4 hx4 hG4 HT4
                have c0 := hx7.c0
                have c1 := hx7.c1
                by_cases hcmp : mid - p < q - mid
                · have hcmpi : (mid : Int) - (p : Int) < (q : Int) - (mid : Int) := by omega
                  have C := fun lim => IH.out p mid lim d7 w7 (by omega) hm1 (by omega) hS7 Hlo.out
                  unfold dataV at C
                  go_wp2_with fail
                  refine (C _).mono ?_
                  rintro e w8 ⟨rfl, ⟨R8, hP8, hO8, hS8⟩, hg8⟩
                  clear C
                  have hx8 := hx7.grown hg8 (by intro e; injection e with e; omega)
                  have hG8 := hG7.trans hg8
                  have HT8 := Lib.hid (HL.out R8 hP8 hO8)
                  clear hS7 hx7 hG7 hg8 hP8 hO8 c0 c1 HL HRr Hlo Hhi
                  go_wp2
                  go_roundw
                  case rel => exact ⟨mid + 1, q, _, _, _, R8, by go_num, rfl, rfl, rfl, rfl, by omega, by omega, by omega, HT8, hS8, hx8, hG8⟩
                  case measure => simp [intOf]; omega
                
                · have hcmpi : ¬ (mid : Int) - (p : Int) < (q : Int) - (mid : Int) := by omega
                  have C := fun lim => IH.out (mid + 1) q lim d7 w7 (by omega) (by omega) (by omega) hS7 Hhi.out
                  rw [show ((mid + 1 : Nat) : Int) = (mid : Int) + 1 by omega] at C
                  unfold dataV at C
                  go_wp2_with fail
                  refine (C _).mono ?_
                  rintro e w8 ⟨rfl, ⟨R8, hP8, hO8, hS8⟩, hg8⟩
                  clear C
                  have hx8 := hx7.grown hg8 (by intro e; injection e with e; omega)
                  have hG8 := hG7.trans hg8
                  have HT8 := Lib.hid (HRr.out R8 hP8 hO8)
                  clear hS7 hx7 hG7 hg8 hP8 hO8 c0 c1 HL HRr Hlo Hhi
                  go_wp2
                  go_roundw
                  case rel => exact ⟨p, mid, _, _, _, R8, rfl, rfl, rfl, rfl, rfl, by omega, by omega, by omega, HT8, hS8, hx8, hG8⟩
                  case measure => simp [intOf]; omega
            · have hz2b : (z == 2) = false := by simpa using hz2
              have c0 := hx3.c0
              have c1 := hx3.c1
              by_cases hp0 : 0 < p
              · have hp0i : (0 : Int) < (p : Int) := by omega
                have hlu : Calls Try.prog 77 #[.int .i64 ((p : Int) - 1), .int .i64 ((x : Int)), .pointer (some ⟨Bv, 0, none⟩)] w3 fun e w' => e = .returned (.bool (bef d2[p - 1]! d2[x]!)) ∧ Below w3.heap.size w3 w' := by
                  have := less_any hS3 (p - 1) (x) (by omega) (by omega)
                  rwa [show ((p - 1 : Nat) : Int) = (p : Int) - 1 by omega] at this
                cases hv : bef d2[p - 1]! d2[x]! with
                | false =>
                  rw [hv] at hlu
                  obtain ⟨⟨mid, d7⟩, hR⟩ : ∃ R, R = Sort.partitionEqual bef d2 p q x := ⟨_, rfl⟩
                  obtain ⟨hm1, hm2, ht7⟩ := HT3.out.eq hp0 (by omega) (by omega) hv hR.symm
                  have HT7 := Lib.hid ht7
                  clear ht7 hv
                  go_wp2_with fail
                  refine hlu.mono ?_
                  rintro e wu ⟨rfl, hbu⟩
                  have hSu := hS3.later hbu
                  have hGu := hG3.trans (grow_below (row := some blk) hbu)
                  have hxu := hx3.later hbu
                  have c0u := hxu.c0
                  have c1u := hxu.c1
                  have C := HPE.out d2 _ hSu p q x (by omega) (by omega) (by omega) (by omega)
                  rw [← hR] at C
                  clear hlu hR c0 c1
                  go_wp2_with fail
                  refine C.mono ?_
                  rintro e w7 ⟨rfl, hS7, hg7⟩
                  clear C
                  have hx7 := hxu.grown hg7 (by intro e; injection e with e; omega)
                  have hG7 := hGu.trans hg7
                  clear hSu hxu hGu hg7 c0u c1u hS3 hx3 hG3
                  go_wp2
                  go_roundw
                  case rel => exact ⟨mid, q, _, _, _, d7, rfl, rfl, rfl, rfl, rfl, by omega, by omega, by omega, HT7, hS7, hx7, hG7⟩
                  case measure => simp [intOf]; omega
                | true =>
                  rw [hv] at hlu
                  clear hv
                  go_wp2_with fail
                  refine hlu.mono ?_
                  rintro e wu ⟨rfl, hbu⟩
                  have hSu := hS3.later hbu
                  have hGu := hG3.trans (grow_below (row := some blk) hbu)
                  have hxu := hx3.later hbu
                  have c0u := hxu.c0
                  have c1u := hxu.c1
                  have HTu := HT3
                  clear hlu c0 c1 hS3 hx3 hG3 HT3
                  obtain ⟨⟨mid, ap, d7⟩, hR⟩ : ∃ R, R = Sort.partition bef d2 p q x := ⟨_, rfl⟩
                  have C := HPT.out d2 _ hSu p q x (by omega) (by omega) (by omega) (by omega)
                  rw [← hR] at C
                  obtain ⟨hm1, hm2, hsz, hlo, hhi, hL, hRr⟩ := HTu.out.part (by omega) (by omega) hR.symm
                  have HL := Lib.hid hL
                  have HRr := Lib.hid hRr
                  have Hlo := Lib.hid hlo
                  have Hhi := Lib.hid hhi
                  clear hR hL hRr hlo hhi hsz
                  go_wp2_with fail
                  refine C.mono ?_
                  rintro e w7 ⟨rfl, hS7, hg7⟩
                  clear C
                  have hx7 := hxu.grown hg7 (by intro e; injection e with e; omega)
                  have hG7 := hGu.trans hg7
                  clear hSu hxu hGu HTu
                  have c0 := hx7.c0
                  have c1 := hx7.c1
                  by_cases hcmp : mid - p < q - mid
                  · have hcmpi : (mid : Int) - (p : Int) < (q : Int) - (mid : Int) := by omega
                    have C := fun lim => IH.out p mid lim d7 w7 (by omega) hm1 (by omega) hS7 Hlo.out
                    unfold dataV at C
                    go_wp2_with fail
                    refine (C _).mono ?_
                    rintro e w8 ⟨rfl, ⟨R8, hP8, hO8, hS8⟩, hg8⟩
                    clear C
                    have hx8 := hx7.grown hg8 (by intro e; injection e with e; omega)
                    have hG8 := hG7.trans hg8
                    have HT8 := Lib.hid (HL.out R8 hP8 hO8)
                    clear hS7 hx7 hG7 hg8 hP8 hO8 c0 c1 HL HRr Hlo Hhi
                    go_wp2
                    go_roundw
                    case rel => exact ⟨mid + 1, q, _, _, _, R8, by go_num, rfl, rfl, rfl, rfl, by omega, by omega, by omega, HT8, hS8, hx8, hG8⟩
                    case measure => simp [intOf]; omega
                  
                  · have hcmpi : ¬ (mid : Int) - (p : Int) < (q : Int) - (mid : Int) := by omega
                    have C := fun lim => IH.out (mid + 1) q lim d7 w7 (by omega) (by omega) (by omega) hS7 Hhi.out
                    rw [show ((mid + 1 : Nat) : Int) = (mid : Int) + 1 by omega] at C
                    unfold dataV at C
                    go_wp2_with fail
                    refine (C _).mono ?_
                    rintro e w8 ⟨rfl, ⟨R8, hP8, hO8, hS8⟩, hg8⟩
                    clear C
                    have hx8 := hx7.grown hg8 (by intro e; injection e with e; omega)
                    have hG8 := hG7.trans hg8
                    have HT8 := Lib.hid (HRr.out R8 hP8 hO8)
                    clear hS7 hx7 hG7 hg8 hP8 hO8 c0 c1 HL HRr Hlo Hhi
                    go_wp2
                    go_roundw
                    case rel => exact ⟨p, mid, _, _, _, R8, rfl, rfl, rfl, rfl, rfl, by omega, by omega, by omega, HT8, hS8, hx8, hG8⟩
                    case measure => simp [intOf]; omega
              · have hp0i : ¬ (0 : Int) < (p : Int) := by omega
                obtain ⟨⟨mid, ap, d7⟩, hR⟩ : ∃ R, R = Sort.partition bef d2 p q x := ⟨_, rfl⟩
                have C := HPT.out d2 _ hS3 p q x (by omega) (by omega) (by omega) (by omega)
                rw [← hR] at C
                obtain ⟨hm1, hm2, hsz, hlo, hhi, hL, hRr⟩ := HT3.out.part (by omega) (by omega) hR.symm
                have HL := Lib.hid hL
                have HRr := Lib.hid hRr
                have Hlo := Lib.hid hlo
                have Hhi := Lib.hid hhi
                clear hR hL hRr hlo hhi hsz
                go_wp2_with fail
                refine C.mono ?_
                rintro e w7 ⟨rfl, hS7, hg7⟩
                clear C
                have hx7 := hx3.grown hg7 (by intro e; injection e with e; omega)
                have hG7 := hG3.trans hg7
                clear hS3 hx3 hG3 HT3
                have c0 := hx7.c0
                have c1 := hx7.c1
                by_cases hcmp : mid - p < q - mid
                · have hcmpi : (mid : Int) - (p : Int) < (q : Int) - (mid : Int) := by omega
                  have C := fun lim => IH.out p mid lim d7 w7 (by omega) hm1 (by omega) hS7 Hlo.out
                  unfold dataV at C
                  go_wp2_with fail
                  refine (C _).mono ?_
                  rintro e w8 ⟨rfl, ⟨R8, hP8, hO8, hS8⟩, hg8⟩
                  clear C
                  have hx8 := hx7.grown hg8 (by intro e; injection e with e; omega)
                  have hG8 := hG7.trans hg8
                  have HT8 := Lib.hid (HL.out R8 hP8 hO8)
                  clear hS7 hx7 hG7 hg8 hP8 hO8 c0 c1 HL HRr Hlo Hhi
                  go_wp2
                  go_roundw
                  case rel => exact ⟨mid + 1, q, _, _, _, R8, by go_num, rfl, rfl, rfl, rfl, by omega, by omega, by omega, HT8, hS8, hx8, hG8⟩
                  case measure => simp [intOf]; omega
                
                · have hcmpi : ¬ (mid : Int) - (p : Int) < (q : Int) - (mid : Int) := by omega
                  have C := fun lim => IH.out (mid + 1) q lim d7 w7 (by omega) (by omega) (by omega) hS7 Hhi.out
                  rw [show ((mid + 1 : Nat) : Int) = (mid : Int) + 1 by omega] at C
                  unfold dataV at C
                  go_wp2_with fail
                  refine (C _).mono ?_
                  rintro e w8 ⟨rfl, ⟨R8, hP8, hO8, hS8⟩, hg8⟩
                  clear C
                  have hx8 := hx7.grown hg8 (by intro e; injection e with e; omega)
                  have hG8 := hG7.trans hg8
                  have HT8 := Lib.hid (HRr.out R8 hP8 hO8)
                  clear hS7 hx7 hG7 hg8 hP8 hO8 c0 c1 HL HRr Hlo Hhi
                  go_wp2
                  go_roundw
                  case rel => exact ⟨p, mid, _, _, _, R8, rfl, rfl, rfl, rfl, rfl, by omega, by omega, by omega, HT8, hS8, hx8, hG8⟩
                  case measure => simp [intOf]; omega
end
end Go.Proofs.Ythhaojbnnacdbaa
