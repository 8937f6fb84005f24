/- IsRowConvex, the program's and the reference's. Condition: slices of at most 2^20 cells. -/
import Derived.Test.YtdfmnljlkcokjaaNear
import Derived.Test.YtdfmnljlkcokjaaHas
namespace Go.Proofs.Ytdfmnljlkcokjaa
open Go.RowKit

def gapOk (cs : List C) (a b : C) : Prop := a.2 = b.2 → ∀ x, a.1 < x → x < b.1 → memC cs x a.2 = true
def follows (cs : List C) : Prop := ∀ i j : Nat, i < cs.length → j < cs.length → gapOk cs (cs.getD i (0, 0)) (cs.getD j (0, 0))
theorem getD_of {cs : List C} {k : Nat} {c : C} (h : cs[k]? = some c) : cs.getD k (0, 0) = c := by simp [List.getD_eq_getElem?_getD, h]

set_option maxHeartbeats 1600000 in
theorem implRows (A : Option Addr) (n cap : Nat) (cs : List C) (t : Bool) (w : World) (ht : t = true ↔ follows cs) (hz : ∀ (k : Nat) (c : C), cs[k]? = some c → smallC c) (hn : n ≤ 1048576) (h : CellsAt w A n cs) :
    Calls Try.prog 96 #[.slice A n cap] w fun e w' => e = .returned (.bool t) ∧ Below w.heap.size w w' := by
  have HT := Lib.hid ht
  clear ht
  have hl := Lib.hid h.1
  go_enter Try.func96, Try.ntmps96
  go_wp2
  go_loopw [4, 6, 7, 10, 16] (fun _ _ _ i _ wr => ∃ k : Nat, k ≤ n ∧ i = .int .i64 k ∧ Hid (∀ i j, i < k → j < n → gapOk cs (cs.getD i (0, 0)) (cs.getD j (0, 0))) ∧ Below w.heap.size w wr) (fun _ _ _ i _ _ => n - (intOf i).toNat)
  case atStart => exact ⟨0, Nat.zero_le _, rfl, fun i j hi => absurd hi (by omega), Below.refl _ _⟩
  case round =>
    obtain ⟨k, hk, rfl, HK, hb⟩ := hrel
    by_cases hlt : k < n
    · have h' := h.below hb
      obtain ⟨b, o, p, q, e1, hbl, HP, c1, c2⟩ := h'.at_ hlt
      obtain ⟨z1, z2, z3, z4⟩ := hz _ _ HP.out
      simp only at z1 z2 z3 z4
      have hbx := below_alloc wr (.cells #[.int .i64 p, .int .i64 q] 59)
      have l1 := later_box (w := wr) (t := 59) (show (#[Value.int .i64 p, .int .i64 q] : Array Value)[0]? = some (.int .i64 p) from rfl)
      have l2 := later_box (w := wr) (t := 59) (show (#[Value.int .i64 p, .int .i64 q] : Array Value)[1]? = some (.int .i64 q) from rfl)
      have hx := h'.below hbx
      clear h'
      subst e1
      go_wp2
      have hbw := hb.trans (hbx.mono hb.size)
      clear hbx
      obtain ⟨ba, hba⟩ : ∃ ba, ba = wr.heap.size := ⟨_, rfl⟩
      obtain ⟨wa, hwa⟩ : ∃ wa, wa = wr.alloc (.cells #[.int .i64 p, .int .i64 q] 59) := ⟨_, rfl⟩
      rw [← hwa] at hx hbw l1 l2 ⊢
      rw [← hba] at l1 l2 ⊢
      clear hwa hba
      go_loopw [6, 7, 16] (fun _ _ j wr' => ∃ m : Nat, m ≤ n ∧ j = .int .i64 m ∧ Hid (∀ j, j < m → gapOk cs (cs.getD k (0, 0)) (cs.getD j (0, 0))) ∧ Below wa.heap.size wa wr') (fun _ _ j _ => n - (intOf j).toNat)
      case atStart => exact ⟨0, Nat.zero_le _, rfl, fun j hj => absurd hj (by omega), Below.refl _ _⟩
      case round =>
        obtain ⟨m, hm, rfl, HM, hb'⟩ := hrel
        by_cases hmn : m < n
        · have h' := hx.below hb'
          obtain ⟨b', o', p', q', e1, hbl', HP', c1', c2'⟩ := h'.at_ hmn
          injection e1 with e1
          injection e1 with e1 e2 _
          subst e1 e2
          obtain ⟨z1', z2', z3', z4'⟩ := hz _ _ HP'.out
          simp only at z1' z2' z3' z4'
          have r1 := l1 ⟨wr, hb'⟩
          have r2 := l2 ⟨wr, hb'⟩
          simp only at r1 r2
          have hal : ba < wr.heap.size := World.block_lt_of_cell? wr _ r1
          have hbx := below_alloc wr (.cells #[.int .i64 p', .int .i64 q'] 59)
          have b1 := later_box (w := wr) (t := 59) (show (#[Value.int .i64 p', .int .i64 q'] : Array Value)[0]? = some (.int .i64 p') from rfl)
          have b2 := later_box (w := wr) (t := 59) (show (#[Value.int .i64 p', .int .i64 q'] : Array Value)[1]? = some (.int .i64 q') from rfl)
          have a1 := later_old (ob := .cells #[.int .i64 p', .int .i64 q'] 59) hal r1
          have a2 := later_old (ob := .cells #[.int .i64 p', .int .i64 q'] 59) hal r2
          have hy := h'.below hbx
          have a1' := a1 ⟨_, Below.refl _ _⟩
          simp only at a1'
          clear h'
          go_wp2
          have hbw' := hb'.trans (hbx.mono hb'.size)
          clear hbx a1' r1 r2 c1' c2'
          obtain ⟨bb, hbb⟩ : ∃ bb, bb = wr.heap.size := ⟨_, rfl⟩
          obtain ⟨wb, hwb⟩ : ∃ wb, wb = wr.alloc (.cells #[.int .i64 p', .int .i64 q'] 59) := ⟨_, rfl⟩
          rw [← hwb] at hy hbw' a1 a2 b1 b2 ⊢
          rw [← hbb] at b1 b2 ⊢
          clear hwb hbb
          go_loopw [7] (fun v wq => ∃ x : Int, v = .int .i64 x ∧ p < x ∧ x ≤ 101 ∧ Hid (∀ y, p < y → y < x → memC cs y q = true) ∧ Below wb.heap.size wb wq) (fun v _ => (p' - intOf v).toNat)
          case atStart => exact ⟨p + 1, rfl, by omega, by omega, fun y h1 h2 => absurd h1 (by omega), Below.refl _ _⟩
          case round =>
            obtain ⟨x, rfl, hpx, hx1, HX, hb2⟩ := hrel
            have m1 := a1 ⟨_, hb2⟩
            have m2 := a2 ⟨_, hb2⟩
            have m3 := b1 ⟨_, hb2⟩
            have m4 := b2 ⟨_, hb2⟩
            simp only at m1 m2 m3 m4
            by_cases hq : q = q'
            · have hq1 : (q == q') = true := by simpa using hq
              have hq2 : decide (q = q') = true := by simpa using hq
              by_cases hxp : x < p'
              · have hd : decide (x < p') = true := by simpa using hxp
                have hc := (implHasCell (some ⟨b, o, none⟩) n cap cs x q wr hn (hy.below hb2))
                cases hv : memC cs x q with
                | true =>
                  rw [hv] at hc
                  have HN : Hid (∀ y, p < y → y < x + 1 → memC cs y q = true) := fun y h1 h2 => by
                    by_cases hyx : y = x
                    · rw [hyx]; exact hv
                    · exact HX.out y h1 (by omega)
                  clear hv hq
                  go_wp2_with fail
                  refine hc.mono ?_
                  rintro e w3 ⟨rfl, hb3⟩
                  go_wp2
                  go_roundw
                  case rel => exact ⟨x + 1, by go_num, by omega, by omega, HN, hb2.trans (hb3.mono hb2.size)⟩
                  case measure => simp [intOf]; omega
                | false =>
                  rw [hv] at hc
                  have HF : Hid (t = false) := by
                    show t = false
                    cases hht : t with
                    | false => rfl
                    | true =>
                      have := (HT.out.1 hht) k m (by rw [hl.out]; exact hlt) (by rw [hl.out]; exact hmn)
                      rw [getD_of HP.out, getD_of HP'.out] at this
                      have := this hq x hpx hxp
                      simp only at this
                      rw [hv] at this
                      cases this
                  clear hv hq
                  go_wp2_with fail
                  refine hc.mono ?_
                  rintro e w3 ⟨rfl, hb3⟩
                  go_wp2
                  go_ret
                  exact ⟨ret_bool HF.out.symm, hbw.trans ((hbw'.trans ((hb2.trans (hb3.mono hb2.size)).mono hbw'.size)).mono hbw.size)⟩
              · have hd : decide (x < p') = false := by simpa using hxp
                have HN : Hid (∀ j, j < m + 1 → gapOk cs (cs.getD k (0, 0)) (cs.getD j (0, 0))) := fun j hj => by
                  by_cases hjm : j = m
                  · rw [hjm, getD_of HP.out, getD_of HP'.out]
                    intro _ y h1 h2
                    exact HX.out y h1 (by simp only at h2; omega)
                  · exact HM.out j (by omega)
                clear hq
                go_wp2
                go_roundw
                case rel => exact ⟨m + 1, by omega, by go_num, HN, hbw'.trans (hb2.mono hbw'.size)⟩
                case measure => simp [intOf]; omega
            · have hq1 : (q == q') = false := by simpa using hq
              have hq2 : decide (q = q') = false := by simpa using hq
              have HN : Hid (∀ j, j < m + 1 → gapOk cs (cs.getD k (0, 0)) (cs.getD j (0, 0))) := fun j hj => by
                by_cases hjm : j = m
                · rw [hjm, getD_of HP.out, getD_of HP'.out]
                  intro hqq
                  exact absurd hqq hq
                · exact HM.out j (by omega)
              clear hq
              go_wp2
              go_roundw
              case rel => exact ⟨m + 1, by omega, by go_num, HN, hbw'.trans (hb2.mono hbw'.size)⟩
              case measure => simp [intOf]; omega
        · have HN : Hid (∀ i j, i < k + 1 → j < n → gapOk cs (cs.getD i (0, 0)) (cs.getD j (0, 0))) := fun i j hi hj => by
            by_cases hik : i = k
            · rw [hik]; exact HM.out j (by omega)
            · exact HK.out i j (by omega) hj
          go_wp2
          go_roundw
          case rel => exact ⟨k + 1, by omega, by go_num, HN, hbw.trans (hb'.mono hbw.size)⟩
          case measure => simp [intOf]; omega
    · have HR : Hid (t = true) := HT.out.2 fun i j hi hj => HK.out i j (by rw [hl.out] at hi; omega) (by rw [hl.out] at hj; exact hj)
      clear h
      go_wp2
      go_ret
      exact ⟨ret_bool HR.out.symm, hb⟩

/-! ### Plain law: rows that follow, and cells one behind another -/
def stepOk (a b : C) : Prop := b.2 = a.2 → b.1 = a.1 + 1
def consec (cs : List C) : Prop := ∀ k : Nat, k + 1 < cs.length → stepOk (cs.getD k (0, 0)) (cs.getD (k + 1) (0, 0))
theorem bef_trans {a b c : C} (h1 : bef a b = true) (h2 : bef b c = true) : bef a c = true := by
  rw [bef_iff] at *; omega
theorem get_some {cs : List C} {k : Nat} (h : k < cs.length) : cs[k]? = some (cs.getD k (0, 0)) := by simp [h]
theorem shape_step {cs : List C} (h : isShape cs = true) {k : Nat} (hk : k + 1 < cs.length) : bef (cs.getD k (0, 0)) (cs.getD (k + 1) (0, 0)) = true := by
  unfold isShape at h
  have h1 := (Bool.and_eq_true _ _ ▸ h).1
  have := okTo_all h1 (k + 1) hk
  rw [okAt_next (p := cs.getD k (0, 0)) (by omega) (by rw [Nat.add_sub_cancel]; exact get_some (by omega)) (get_some hk)] at this
  exact (Bool.and_eq_true _ _ ▸ this).2
theorem shape_far {cs : List C} (h : isShape cs = true) {k : Nat} : ∀ d, k + (d + 1) < cs.length → bef (cs.getD k (0, 0)) (cs.getD (k + (d + 1)) (0, 0)) = true
  | 0, hk => shape_step h hk
  | d + 1, hk => bef_trans (shape_far h d (by omega)) (shape_step (k := k + (d + 1)) h hk)
theorem shape_lt {cs : List C} (h : isShape cs = true) {k m : Nat} (hkm : k < m) (hm : m < cs.length) : bef (cs.getD k (0, 0)) (cs.getD m (0, 0)) = true := by
  have := shape_far h (k := k) (m - k - 1) (by omega)
  rwa [show k + (m - k - 1 + 1) = m by omega] at this
theorem memC_iff {cs : List C} {x y : Int} : memC cs x y = true ↔ ∃ k, k < cs.length ∧ cs.getD k (0, 0) = (x, y) := by
  unfold memC
  rw [List.any_eq_true]
  constructor
  · rintro ⟨c, hc, h⟩
    obtain ⟨k, hk, rfl⟩ := List.getElem_of_mem hc
    refine ⟨k, hk, ?_⟩
    simp at h
    simp [hk]
    exact Prod.ext h.1 h.2
  · rintro ⟨k, hk, h⟩
    refine ⟨cs[k], List.getElem_mem hk, ?_⟩
    have : cs.getD k (0, 0) = cs[k] := by simp [hk]
    rw [← this, h]
    simp
theorem follows_iff {cs : List C} (h : isShape cs = true) : follows cs ↔ consec cs := by
  constructor
  · intro hf k hk hrow
    have hb := (bef_iff _ _).1 (shape_step h hk)
    have hg := hf k (k + 1) (by omega) hk hrow.symm ((cs.getD k (0, 0)).1 + 1) (by omega)
    by_cases hx : (cs.getD (k + 1) (0, 0)).1 = (cs.getD k (0, 0)).1 + 1
    · exact hx
    · obtain ⟨j, hj, hv⟩ := memC_iff.1 (hg (by omega))
      exfalso
      by_cases h1 : j ≤ k
      · have hle : j = k ∨ bef (cs.getD j (0, 0)) (cs.getD k (0, 0)) = true := by
          rcases Nat.lt_or_ge j k with h2 | h2
          · exact Or.inr (shape_lt h h2 (by omega))
          · exact Or.inl (by omega)
        rcases hle with rfl | hle
        · rw [hv] at hx hb; simp only at hx hb; have := congrArg Prod.fst hv; simp only at this; omega
        · rw [bef_iff, hv] at hle; simp only at hle; omega
      · have hle : j = k + 1 ∨ bef (cs.getD (k + 1) (0, 0)) (cs.getD j (0, 0)) = true := by
          rcases Nat.lt_or_ge (k + 1) j with h2 | h2
          · exact Or.inr (shape_lt h h2 hj)
          · exact Or.inl (by omega)
        rcases hle with rfl | hle
        · rw [hv] at hx; exact hx rfl
        · rw [bef_iff, hv] at hle; simp only at hle; omega
  · intro hc i j hi hj hrow x h1 h2
    have hij : i < j := by
      rcases Nat.lt_trichotomy i j with h3 | h3 | h3
      · exact h3
      · subst h3; omega
      · have := (bef_iff _ _).1 (shape_lt h h3 hi); omega
    have key : ∀ d, i + d ≤ j → (cs.getD (i + d) (0, 0)).2 = (cs.getD i (0, 0)).2 ∧ (cs.getD (i + d) (0, 0)).1 = (cs.getD i (0, 0)).1 + d := by
      intro d
      induction d with
      | zero => intro _; simp
      | succ d ih =>
        intro hd
        obtain ⟨r1, r2⟩ := ih (by omega)
        have hb := (bef_iff _ _).1 (shape_step (k := i + d) h (by omega))
        have hrow2 : (cs.getD (i + (d + 1)) (0, 0)).2 = (cs.getD i (0, 0)).2 := by
          rcases Nat.lt_or_ge (i + (d + 1)) j with h3 | h3
          · have := (bef_iff _ _).1 (shape_lt h h3 hj)
            have e : i + d + 1 = i + (d + 1) := by omega
            rw [e] at hb
            omega
          · have e : i + (d + 1) = j := by omega
            rw [e]; exact hrow.symm
        refine ⟨hrow2, ?_⟩
        have := hc (i + d) (by omega) (by rw [r1]; exact hrow2)
        have e : i + d + 1 = i + (d + 1) := by omega
        rw [e] at this
        rw [this, r2]
        omega
    have hlast := key (j - i) (by omega)
    rw [show i + (j - i) = j by omega] at hlast
    have hx := key (x - (cs.getD i (0, 0)).1).toNat (by omega)
    exact memC_iff.2 ⟨i + (x - (cs.getD i (0, 0)).1).toNat, by omega, Prod.ext (by rw [hx.2]; omega) (by rw [hx.1])⟩

open Classical in
noncomputable def rowConvex (cs : List C) : Bool := isShape cs && decide (follows cs)


open Classical in
set_option maxHeartbeats 1600000 in
theorem specIsRowConvex (A : Option Addr) (n cap : Nat) (cs : List C) (w : World) (hn : n ≤ 1048576) (h : CellsAt w A n cs) :
    Calls Try.prog 94 #[.slice A n cap] w fun e w' => e = .returned (.bool (rowConvex cs)) ∧ Below w.heap.size w w' := by
  cases hs : isShape cs with
  | false =>
    have HR : Hid (false = rowConvex cs) := by show _ = _; unfold rowConvex; rw [hs]; rfl
    have HS := Lib.hid hs
    clear hs
    go_enter Try.func94, Try.ntmps94
    go_wp2
    go_loopw [3] (fun i wr => i = .int .i64 1 ∧ wr = w) (fun i _ => 0)
    case atStart => exact ⟨rfl, rfl⟩
    case round =>
      obtain ⟨rfl, rfl⟩ := hrel
      have hc := (specIsShape A n cap cs wr hn h)
      rw [HS.out] at hc
      by_cases h0 : 1 < n
      · have d0 : decide ((1 : Int) < (n : Int)) = true := by simp; omega
        have d1 : decide (1 < n) = true := by simp; omega
        go_wp2_with fail
        refine hc.mono ?_
        rintro e w1 ⟨rfl, hb⟩
        clear hc
        have hc := (specIsShape A n cap cs w1 hn (h.below hb))
        rw [HS.out] at hc
        go_wp2_with fail
        refine hc.mono ?_
        rintro e w2 ⟨rfl, hb2⟩
        go_wp2
        go_ret
        exact ⟨ret_bool HR.out, hb.trans (hb2.mono hb.size)⟩
      · have d0 : decide ((1 : Int) < (n : Int)) = false := by simp; omega
        have d1 : decide (1 < n) = false := by simp; omega
        go_wp2_with fail
        refine hc.mono ?_
        rintro e w1 ⟨rfl, hb⟩
        go_wp2
        go_ret
        exact ⟨ret_bool HR.out, hb⟩
  | true =>
    have hl := shape_len hs
    rw [h.1] at hl
    have hlen := Lib.hid h.1
    have HS := Lib.hid hs
    clear hs
    go_enter Try.func94, Try.ntmps94
    go_wp2
    go_loopw [3] (fun i wr => ∃ k : Nat, 1 ≤ k ∧ k ≤ n ∧ i = .int .i64 k ∧ Hid (∀ j, j + 1 < k → stepOk (cs.getD j (0, 0)) (cs.getD (j + 1) (0, 0))) ∧ Below w.heap.size w wr) (fun i _ => n - (intOf i).toNat)
    case atStart => exact ⟨1, by omega, by omega, rfl, fun j hj => absurd hj (by omega), Below.refl _ _⟩
    case round =>
      obtain ⟨k, h1k, hk, rfl, HK, hb⟩ := hrel
      by_cases hlt : k < n
      · have hc := (specIsShape A n cap cs wr hn (h.below hb))
        rw [HS.out] at hc
        go_wp2_with fail
        refine hc.mono ?_
        rintro e w1 ⟨rfl, hb1⟩
        clear hc
        have hb := hb.trans (hb1.mono hb.size)
        clear hb1
        obtain ⟨b, o, p0, q0, p, q, rfl, hbl, HP, HK1, c3, c4, c1, c2⟩ := (h.below hb).two hlt (by omega)
        clear h
        obtain ⟨z1, z2, z3, z4⟩ := shape_cell HS.out HP.out
        have e0 : (0 : Int) ≤ (k : Int) - 1 := by omega
        have e1 : (k : Int) - 1 < (n : Int) := by omega
        have e2 : (0 : Int) ≤ (k : Int) := by omega
        have e3 : (k : Int) < (n : Int) := by omega
        have HG : Hid (stepOk (p0, q0) (p, q) → ∀ j, j + 1 < k + 1 → stepOk (cs.getD j (0, 0)) (cs.getD (j + 1) (0, 0))) := fun hs j hj => by
          by_cases hjk : j = k - 1
          · rw [hjk, show k - 1 + 1 = k by omega, getD_of HP.out, getD_of HK1.out]; exact hs
          · exact HK.out j (by omega)
        by_cases hq : q = q0
        · have hq1 : (q == q0) = true := by simpa using hq
          by_cases hp : p = p0 + 1
          · have hp1 : (p == p0 + 1) = true := by simpa using hp
            have hp2 : (p != p0 + 1) = false := by simpa using hp
            have HN := Lib.hid (HG.out (fun _ => hp))
            clear hq hp HG
            go_wp2
            go_quiet (fail)
            go_wp2
            go_roundw
            case rel => exact ⟨k + 1, by omega, by omega, by go_num, HN, below_drewN hb _⟩
            case measure => simp [intOf]; omega
          · have hp1 : (p == p0 + 1) = false := by simpa using hp
            have hp2 : (p != p0 + 1) = true := by simpa using hp
            have HR : Hid (false = rowConvex cs) := by
              show false = _
              unfold rowConvex
              rw [HS.out, Bool.true_and]
              refine (decide_eq_false fun hf => hp ?_).symm
              have := (follows_iff HS.out).1 hf (k - 1) (by rw [hlen.out]; omega)
              rw [show k - 1 + 1 = k by omega, getD_of HP.out, getD_of HK1.out] at this
              exact this hq
            clear hq hp HG
            go_wp2
            go_quiet (fail)
            go_wp2
            go_ret
            exact ⟨ret_bool HR.out, below_drewN hb _⟩
        · have hq1 : (q == q0) = false := by simpa using hq
          have HN := Lib.hid (HG.out (fun hqq => absurd hqq hq))
          clear hq HG
          go_wp2
          go_quiet (fail)
          go_wp2
          go_roundw
          case rel => exact ⟨k + 1, by omega, by omega, by go_num, HN, below_drewN hb _⟩
          case measure => simp [intOf]; omega
      · have hc := (specIsShape A n cap cs wr hn (h.below hb))
        rw [HS.out] at hc
        have HR : Hid (true = rowConvex cs) := by
          show true = _
          unfold rowConvex
          rw [HS.out, Bool.true_and]
          exact (decide_eq_true ((follows_iff HS.out).2 fun j hj => HK.out j (by rw [hlen.out] at hj; omega))).symm
        go_wp2_with fail
        refine hc.mono ?_
        rintro e w1 ⟨rfl, hb1⟩
        go_wp2
        go_ret
        exact ⟨ret_bool HR.out, hb.trans (hb1.mono hb.size)⟩
end Go.Proofs.Ytdfmnljlkcokjaa
