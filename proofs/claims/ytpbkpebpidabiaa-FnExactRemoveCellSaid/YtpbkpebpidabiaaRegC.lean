/- InRegion, the program's and the reference's: contracts. Condition: at most 2^20 rows. -/
import Derived.Test.YtpbkpebpidabiaaRegI
namespace Go.Proofs.Ytpbkpebpidabiaa
open Go.RowKit

def bitR (v x : Int) : Bool := decide (v / 2 ^ x.toNat % 2 = 1)
def cellR (r : Int × List Int) (x y : Int) : Bool := decide (0 ≤ x) && decide (0 ≤ y) && decide (x < r.1) && decide (y < (r.2.length : Int)) && bitR (r.2.getD y.toNat 0) x
theorem isReg_parts {W : Int} {xs : List Int} (h : isReg (W, xs) = true) : 1 ≤ W ∧ W ≤ 6 ∧ 1 ≤ xs.length ∧ xs.length ≤ 6 ∧ ∀ (k : Nat) (x : Int), xs[k]? = some x → 0 ≤ x ∧ x < 64 ∧ x < (2 : Int) ^ W.toNat := by
  unfold isReg at h
  simp only [Bool.and_eq_true] at h
  obtain ⟨⟨h1, h2⟩, h3⟩ := h
  obtain ⟨a, b, _, c, _⟩ := shl_side h1
  unfold inB at h2
  simp at h2
  refine ⟨a, b, by omega, by omega, fun k x hk => ?_⟩
  have := List.all_eq_true.1 h3 x (List.mem_of_getElem? hk)
  unfold rowOk at this
  simp at this
  exact ⟨this.1, by omega, this.2⟩

theorem and1_dec : ∀ m : Nat, m < 64 → (bits BinOp.and IntKind.i64 (m : Int) 1 == 1) = decide ((m : Int) % 2 = 1) := by decide +kernel
theorem and1 {v x : Int} (v0 : 0 ≤ v) (v64 : v < 64) : (bits BinOp.and IntKind.i64 (v / 2 ^ x.toNat) 1 == 1) = bitR v x := by
  have hp : (0 : Int) < 2 ^ x.toNat := Int.pow_pos (by omega)
  have h0 : 0 ≤ v / 2 ^ x.toNat := Int.ediv_nonneg v0 (by omega)
  have h1 : v / 2 ^ x.toNat ≤ v := Int.ediv_le_self _ v0
  obtain ⟨m, hm⟩ : ∃ m : Nat, v / 2 ^ x.toNat = (m : Int) := ⟨(v / 2 ^ x.toNat).toNat, by omega⟩
  unfold bitR
  rw [hm]
  exact and1_dec m (by omega)
theorem cellR_in {W : Int} {xs : List Int} {x : Int} {k : Nat} {v : Int} (x0 : 0 ≤ x) (xW : x < W) (hk : xs[k]? = some v) : cellR (W, xs) x k = bitR v x := by
  have hlt := (List.getElem?_eq_some_iff.1 hk).1
  unfold cellR
  have hg : xs.getD k 0 = v := by rw [List.getD_eq_getElem?_getD, hk]; rfl
  simp only [Int.toNat_natCast, hg]
  simp [x0, xW, hlt]
theorem cellR_out {W : Int} {xs : List Int} {x y : Int} (h : ¬ (0 ≤ x ∧ 0 ≤ y ∧ x < W ∧ y < (xs.length : Int))) : cellR (W, xs) x y = false := by
  unfold cellR
  by_cases a : 0 ≤ x <;> by_cases b : 0 ≤ y <;> by_cases c : x < W <;> by_cases d : y < (xs.length : Int)
  all_goals first | (simp [a, b, c, d]; done) | exact absurd (And.intro a (And.intro b (And.intro c d))) h

set_option maxHeartbeats 800000 in
theorem l6In_any (W : Int) (A : Option Addr) (n cap : Nat) (xs : List Int) (x y : Int) (w : World) (hr : isReg (W, xs) = true) (h : IntsAt w A n xs) :
    Calls Try.prog 34 #[.agg #[.int .i64 W, .slice A n cap], .int .i64 x, .int .i64 y] w fun e w' => e = .returned (.bool (cellR (W, xs) x y)) ∧ Below w.heap.size w w' := by
  have hB := below1 w (.cells #[.int .i64 W, .slice A n cap] 27)
  have hl := Lib.hid h.1
  obtain ⟨W1, W6, L1, L6, hx⟩ := isReg_parts hr
  by_cases x0 : 0 ≤ x
  · by_cases y0 : 0 ≤ y
    · by_cases xW : x < W
      · by_cases yn : y < (n : Int)
        · obtain ⟨k, rfl⟩ : ∃ k : Nat, y = (k : Int) := ⟨y.toNat, by omega⟩
          obtain ⟨b, o, v, rfl, hbl, HK, c1⟩ := (h.below hB).at_ (k := k) (by omega)
          obtain ⟨v0, v64, _⟩ := hx k v HK.out
          clear h hr hx
          go_enter Try.func34, Try.ntmps34
          go_wp2
          go_ret
          exact ⟨ret_bool (by rw [and1 v0 v64, cellR_in x0 xW HK.out]), hB⟩
        · have HR := Lib.hid (cellR_out (W := W) (xs := xs) (x := x) (y := y) (fun ⟨_, _, _, d⟩ => yn (by rw [hl.out] at d; exact d)))
          clear h hr hx
          go_enter Try.func34, Try.ntmps34
          go_wp2
          go_ret
          exact ⟨ret_bool HR.out.symm, hB⟩
      · have HR := Lib.hid (cellR_out (W := W) (xs := xs) (x := x) (y := y) (fun ⟨_, _, c, _⟩ => xW c))
        clear h hr hx
        go_enter Try.func34, Try.ntmps34
        go_wp2
        go_ret
        exact ⟨ret_bool HR.out.symm, hB⟩
    · have HR := Lib.hid (cellR_out (W := W) (xs := xs) (x := x) (y := y) (fun ⟨_, b, _, _⟩ => y0 b))
      clear h hr hx
      go_enter Try.func34, Try.ntmps34
      go_wp2
      go_ret
      exact ⟨ret_bool HR.out.symm, hB⟩
  · have HR := Lib.hid (cellR_out (W := W) (xs := xs) (x := x) (y := y) (fun ⟨a, _, _, _⟩ => x0 a))
    clear h hr hx
    go_enter Try.func34, Try.ntmps34
    go_wp2
    go_ret
    exact ⟨ret_bool HR.out.symm, hB⟩

set_option maxHeartbeats 800000 in
theorem has_any (W : Int) (A : Option Addr) (n cap : Nat) (xs : List Int) (x y : Int) (w : World) (hr : isReg (W, xs) = true) (h : IntsAt w A n xs) :
    Calls Try.prog 35 #[.agg #[.int .i64 W, .slice A n cap], .int .i64 x, .int .i64 y] w fun e w' => e = .returned (.bool (cellR (W, xs) x y)) ∧ Below w.heap.size w w' := by
  have hB := below1 w (.cells #[.int .i64 W, .slice A n cap] 27)
  have hl := Lib.hid h.1
  obtain ⟨W1, W6, L1, L6, hx⟩ := isReg_parts hr
  have hl' := h.1
  have hn1 : n ≤ 6 := by omega
  have hn0 : 1 ≤ n := by omega
  clear hl'
  cases hb1 : inB x 0 (W - 1) with
  | true =>
    have bx : 0 ≤ x ∧ x < W := by unfold inB at hb1; simp at hb1; omega
    obtain ⟨x0, xW⟩ := bx
    have HB1 := Lib.hid hb1
    clear hb1
    cases hb2 : inB y 0 ((n : Int) - 1) with
    | true =>
      have bY : 0 ≤ y ∧ y < (n : Int) := by unfold inB at hb2; simp at hb2; omega
      obtain ⟨y0, yn⟩ := bY
      have HB2 := Lib.hid hb2
      clear hb2
      obtain ⟨k, rfl⟩ : ∃ k : Nat, y = (k : Int) := ⟨y.toNat, by omega⟩
      obtain ⟨b, o, v, rfl, hbl, HK, c1⟩ := (h.below hB).at_ (k := k) (by omega)
      obtain ⟨v0, v64, _⟩ := hx k v HK.out
      clear h hr hx
      go_enter Try.func35, Try.ntmps35
      go_wp2_with fail
      refine (between_eq HB1.out _).mono ?_
      rintro e w1 ⟨rfl, rfl⟩
      go_wp2_with fail
      refine (between_eq HB2.out _).mono ?_
      rintro e w1 ⟨rfl, rfl⟩
      go_wp2
      go_ret
      exact ⟨ret_bool (by rw [and1 v0 v64, cellR_in x0 xW HK.out]), hB⟩
    | false =>
      have HR := Lib.hid (cellR_out (W := W) (xs := xs) (x := x) (y := y) (fun ⟨_, b, _, d⟩ => by rw [hl.out] at d; unfold inB at hb2; simp at hb2; omega))
      have HB2 := Lib.hid hb2
      clear hb2 h hr hx
      go_enter Try.func35, Try.ntmps35
      go_wp2_with fail
      refine (between_eq HB1.out _).mono ?_
      rintro e w1 ⟨rfl, rfl⟩
      go_wp2_with fail
      refine (between_eq HB2.out _).mono ?_
      rintro e w1 ⟨rfl, rfl⟩
      go_wp2
      go_ret
      exact ⟨ret_bool HR.out.symm, hB⟩
  | false =>
    have HR := Lib.hid (cellR_out (W := W) (xs := xs) (x := x) (y := y) (fun ⟨a, _, c, _⟩ => by unfold inB at hb1; simp at hb1; omega))
    have HB1 := Lib.hid hb1
    clear hb1 h hr hx
    go_enter Try.func35, Try.ntmps35
    go_wp2_with fail
    refine (between_eq HB1.out _).mono ?_
    rintro e w1 ⟨rfl, rfl⟩
    go_wp2
    go_ret
    exact ⟨ret_bool HR.out.symm, hB⟩

def inReg (r : Int × List Int) (x y : Int) : Bool := isReg r && cellR r x y
theorem implInRegion (W : Int) (A : Option Addr) (n cap : Nat) (xs : List Int) (x y : Int) (w : World) (hn : n ≤ 1048576) (h : IntsAt w A n xs) :
    Calls Try.prog 21 #[.agg #[.int .i64 W, .slice A n cap], .int .i64 x, .int .i64 y] w fun e w' => e = .returned (.bool (inReg (W, xs) x y)) ∧ Below w.heap.size w w' := by
  have hB := below1 w (.cells #[.int .i64 W, .slice A n cap] 27)
  have hc := implIsRegion W A n cap xs _ hn (h.below hB)
  cases hr : isReg (W, xs) with
  | false =>
    have HR : Hid (inReg (W, xs) x y = false) := by show _ = _; unfold inReg; rw [hr]; rfl
    rw [hr] at hc
    clear hr
    go_enter Try.func21, Try.ntmps21
    go_wp2_with fail
    refine hc.mono ?_
    rintro e w1 ⟨rfl, hb⟩
    go_wp2
    go_ret
    exact ⟨ret_bool HR.out.symm, hB.trans (hb.mono hB.size)⟩
  | true =>
    have HR : Hid (inReg (W, xs) x y = cellR (W, xs) x y) := by show _ = _; unfold inReg; rw [hr]; rfl
    rw [hr] at hc
    have HS := Lib.hid hr
    clear hr
    go_enter Try.func21, Try.ntmps21
    go_wp2_with fail
    refine hc.mono ?_
    rintro e w1 ⟨rfl, hb⟩
    obtain ⟨hcl, hfr⟩ := bcell hb
    have hz := hb.size
    simp at hz
    have hB1 := hB.trans (hb.mono hB.size)
    have h1 := (h.below hB1)
    clear hc hb
    go_wp2_with fail
    refine (has_any W A n cap xs x y w1 HS.out h1).mono ?_
    rintro e w2 ⟨rfl, hb2⟩
    clear hcl hfr
    go_wp2
    go_ret
    exact ⟨ret_bool HR.out.symm, hB1.trans (hb2.mono hB1.size)⟩
theorem specInRegion (W : Int) (A : Option Addr) (n cap : Nat) (xs : List Int) (x y : Int) (w : World) (hn : n ≤ 1048576) (h : IntsAt w A n xs) :
    Calls Try.prog 20 #[.agg #[.int .i64 W, .slice A n cap], .int .i64 x, .int .i64 y] w fun e w' => e = .returned (.bool (inReg (W, xs) x y)) ∧ Below w.heap.size w w' := by
  have hB := below1 w (.cells #[.int .i64 W, .slice A n cap] 27)
  have hc := specIsRegion W A n cap xs _ hn (h.below hB)
  cases hr : isReg (W, xs) with
  | false =>
    have HR : Hid (inReg (W, xs) x y = false) := by show _ = _; unfold inReg; rw [hr]; rfl
    rw [hr] at hc
    clear hr
    go_enter Try.func20, Try.ntmps20
    go_wp2_with fail
    refine hc.mono ?_
    rintro e w1 ⟨rfl, hb⟩
    go_wp2
    go_ret
    exact ⟨ret_bool HR.out.symm, hB.trans (hb.mono hB.size)⟩
  | true =>
    have HR : Hid (inReg (W, xs) x y = cellR (W, xs) x y) := by show _ = _; unfold inReg; rw [hr]; rfl
    rw [hr] at hc
    have HS := Lib.hid hr
    clear hr
    go_enter Try.func20, Try.ntmps20
    go_wp2_with fail
    refine hc.mono ?_
    rintro e w1 ⟨rfl, hb⟩
    obtain ⟨hcl, hfr⟩ := bcell hb
    have hz := hb.size
    simp at hz
    have hB1 := hB.trans (hb.mono hB.size)
    have h1 := (h.below hB1)
    clear hc hb
    go_wp2_with fail
    refine (l6In_any W A n cap xs x y w1 HS.out h1).mono ?_
    rintro e w2 ⟨rfl, hb2⟩
    clear hcl hfr
    go_wp2
    go_ret
    exact ⟨ret_bool HR.out.symm, hB1.trans (hb2.mono hB1.size)⟩
theorem specInR (W : Int) (A : Option Addr) (n cap : Nat) (xs : List Int) (x y : Int) (w : World) (hn : n ≤ 1048576) (h : IntsAt w A n xs) :
    Calls Try.prog 20 #[.agg #[.int .i64 W, .slice A n cap], .int .i64 x, .int .i64 y] w fun e w' => e = .returned (.bool (inReg (W, xs) x y)) ∧ Below w.heap.size w w' := specInRegion W A n cap xs x y w hn h
theorem implInR (W : Int) (A : Option Addr) (n cap : Nat) (xs : List Int) (x y : Int) (w : World) (hn : n ≤ 1048576) (h : IntsAt w A n xs) :
    Calls Try.prog 21 #[.agg #[.int .i64 W, .slice A n cap], .int .i64 x, .int .i64 y] w fun e w' => e = .returned (.bool (inReg (W, xs) x y)) ∧ Below w.heap.size w w' := implInRegion W A n cap xs x y w hn h
end Go.Proofs.Ytpbkpebpidabiaa
