/- Cells beside each other: the program's beside and the reference's l2Near. Condition: small coordinates. What a shape's cells are. -/
import Derived.Test.YthhaojbnnacdbaaMot
namespace Go.Proofs.Ythhaojbnnacdbaa
open Go.RowKit

def nearB (a b : C) : Bool := decide ((a.1 - b.1) * (a.1 - b.1) + (a.2 - b.2) * (a.2 - b.2) = 1)
theorem sq_facts (z : Int) : 0 ≤ z * z ∧ (z * z = 0 ↔ z = 0) ∧ (z * z = 1 ↔ (z = 1 ∨ z = -1)) := by
  have e : ((z.natAbs * z.natAbs : Nat) : Int) = z * z := by rw [Int.natCast_mul]; exact Int.natAbs_mul_self' z
  have h2 : 2 ≤ z.natAbs → 4 ≤ z.natAbs * z.natAbs := fun h => Nat.mul_le_mul h h
  have h0 : z.natAbs = 0 → z.natAbs * z.natAbs = 0 := fun h => by rw [h]
  have h1 : z.natAbs = 1 → z.natAbs * z.natAbs = 1 := fun h => by rw [h]
  generalize z.natAbs * z.natAbs = s at *
  generalize z * z = q at *
  refine ⟨by omega, ⟨fun h => ?_, fun h => ?_⟩, ⟨fun h => ?_, fun h => ?_⟩⟩
  all_goals omega
theorem sq_le {z : Int} (h1 : -200 ≤ z) (h2 : z ≤ 200) : 0 ≤ z * z ∧ z * z ≤ 40000 := by
  have e : ((z.natAbs * z.natAbs : Nat) : Int) = z * z := by rw [Int.natCast_mul]; exact Int.natAbs_mul_self' z
  have h3 : z.natAbs * z.natAbs ≤ 200 * 200 := Nat.mul_le_mul (by omega) (by omega)
  omega
theorem sq_one {x y : Int} : x * x + y * y = 1 ↔ max x (-x) + max y (-y) = 1 := by
  obtain ⟨hx0, hx1, hx2⟩ := sq_facts x
  obtain ⟨hy0, hy1, hy2⟩ := sq_facts y
  constructor
  · intro h
    have : (x * x = 1 ∧ y * y = 0) ∨ (x * x = 0 ∧ y * y = 1) := by omega
    rcases this with ⟨h1, h2⟩ | ⟨h1, h2⟩
    · have a := hx2.1 h1; have b := hy1.1 h2; omega
    · have a := hx1.1 h1; have b := hy2.1 h2; omega
  · intro h
    have : ((x = 1 ∨ x = -1) ∧ y = 0) ∨ (x = 0 ∧ (y = 1 ∨ y = -1)) := by omega
    rcases this with ⟨h1, h2⟩ | ⟨h1, h2⟩
    · have a := hx2.2 h1; have b := hy1.2 h2; omega
    · have a := hx1.2 h1; have b := hy2.2 h2; omega
theorem nearB_max (a b c d : Int) : nearB (a, b) (c, d) = decide (max (a - c) (c - a) + max (b - d) (d - b) = 1) := by
  unfold nearB
  have := sq_one (x := a - c) (y := b - d)
  rw [show c - a = -(a - c) by omega, show d - b = -(b - d) by omega]
  exact decide_eq_decide.2 this

/-! ### What a shape's cells are -/
theorem okTo_all {cs : List C} {n : Nat} (h : okTo cs n = true) : ∀ k, k < n → okAt cs k = true := by
  intro k hk
  cases hx : okAt cs k with
  | true => rfl
  | false => rw [okTo_bad hx n hk] at h; cases h
theorem shape_len {cs : List C} (h : isShape cs = true) : 1 ≤ cs.length ∧ cs.length ≤ 8 := by
  unfold isShape at h
  have h2 := (Bool.and_eq_true _ _ ▸ h).2
  simp [inB] at h2
  omega
theorem shape_cell {cs : List C} (h : isShape cs = true) {k : Nat} {x y : Int} (hk : cs[k]? = some (x, y)) : 0 ≤ x ∧ x ≤ 7 ∧ 0 ≤ y ∧ y ≤ 7 := by
  unfold isShape at h
  have h1 := (Bool.and_eq_true _ _ ▸ h).1
  have hlt := (List.getElem?_eq_some_iff.1 hk).1
  have := okTo_all h1 k hlt
  unfold okAt at this
  rw [hk] at this
  simp [onB, inB] at this
  omega
theorem shape_small {cs : List C} (h : isShape cs = true) {k : Nat} {x y : Int} (hk : cs[k]? = some (x, y)) : smallC (x, y) := by
  have := shape_cell h hk
  exact ⟨by show -100 ≤ x; omega, by show x ≤ 100; omega, by show -100 ≤ y; omega, by show y ≤ 100; omega⟩

set_option maxHeartbeats 800000 in
theorem specNear_eq {a b c d : Int} {t : Bool} (h : nearB (a, b) (c, d) = t) (h1 : smallC (a, b)) (h2 : smallC (c, d)) (w : World) :
    Calls Try.prog 110 #[.agg #[.int .i64 a, .int .i64 b], .agg #[.int .i64 c, .int .i64 d]] w fun e w' => e = .returned (.bool t) ∧ Below w.heap.size w w' := by
  obtain ⟨a1, a2, a3, a4⟩ := h1
  obtain ⟨c1, c2, c3, c4⟩ := h2
  simp only at a1 a2 a3 a4 c1 c2 c3 c4
  have s1 := sq_le (z := a - c) (by omega) (by omega)
  have s2 := sq_le (z := b - d) (by omega) (by omega)
  have hn : decide ((a - c) * (a - c) + (b - d) * (b - d) = 1) = t := h
  obtain ⟨s, hs⟩ : ∃ s, s = (a - c) * (a - c) := ⟨_, rfl⟩
  obtain ⟨r, hr⟩ : ∃ r, r = (b - d) * (b - d) := ⟨_, rfl⟩
  rw [← hs] at s1 hn
  rw [← hr] at s2 hn
  have w1 : wrap64 ((a - c) * (a - c)) = s := by rw [← hs]; exact IntWalk.wrap64_in s ⟨by omega, by omega⟩
  have w2 : wrap64 ((b - d) * (b - d)) = r := by rw [← hr]; exact IntWalk.wrap64_in r ⟨by omega, by omega⟩
  have hb : (s + r == 1) = t := by rw [← hn]; rfl
  clear hs hr hn h
  go_enter Try.func110, Try.ntmps110
  go_wp2
  go_ret
  exact ⟨rfl, below2' _ _ _⟩
set_option maxHeartbeats 800000 in
theorem implBeside_eq {a b c d : Int} {t : Bool} (h : nearB (a, b) (c, d) = t) (h1 : smallC (a, b)) (h2 : smallC (c, d)) (w : World) :
    Calls Try.prog 111 #[.agg #[.int .i64 a, .int .i64 b], .agg #[.int .i64 c, .int .i64 d]] w fun e w' => e = .returned (.bool t) ∧ Below w.heap.size w w' := by
  obtain ⟨a1, a2, a3, a4⟩ := h1
  obtain ⟨c1, c2, c3, c4⟩ := h2
  simp only at a1 a2 a3 a4 c1 c2 c3 c4
  rw [nearB_max] at h
  have m1 : max (a - c) (c - a) = (if a - c < c - a then c - a else a - c) := by split <;> omega
  have m2 : max (b - d) (d - b) = (if b - d < d - b then d - b else b - d) := by split <;> omega
  have hw : wrap64 ((if a - c < c - a then c - a else a - c) + (if b - d < d - b then d - b else b - d)) = (if a - c < c - a then c - a else a - c) + (if b - d < d - b then d - b else b - d) := by
    rw [← m1, ← m2]; exact IntWalk.wrap64_in _ ⟨by omega, by omega⟩
  have hb : ((if a - c < c - a then c - a else a - c) + (if b - d < d - b then d - b else b - d) == 1) = t := by rw [← h, ← m1, ← m2]; rfl
  clear h m1 m2
  go_enter Try.func111, Try.ntmps111
  go_wp2
  go_quiet (fail)
  obtain ⟨s, hs⟩ : ∃ s, s = (if a - c < c - a then c - a else a - c) := ⟨_, rfl⟩
  obtain ⟨r, hr⟩ : ∃ r, r = (if b - d < d - b then d - b else b - d) := ⟨_, rfl⟩
  rw [← hs, ← hr] at hw hb
  simp only [← hs, ← hr]
  clear hs hr
  go_wp2
  go_ret
  exact ⟨rfl, below_drewN (below2' _ _ _) _⟩
end Go.Proofs.Ythhaojbnnacdbaa
