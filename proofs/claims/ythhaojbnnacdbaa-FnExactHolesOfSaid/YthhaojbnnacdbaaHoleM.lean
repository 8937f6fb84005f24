/- Components of a set of cells, counted by systems of representatives; a frame within a greater one counts the same. Plain. -/
import Derived.Test.YthhaojbnnacdbaaConnM
namespace Go.Proofs.Ythhaojbnnacdbaa

/-- a way over sides through free cells -/
inductive Path (F : C → Prop) : C → C → Prop
  | refl : ∀ a, F a → Path F a a
  | step : ∀ a b c, Path F a b → F c → nearB b c = true → Path F a c
theorem nearB_iff {a b : C} : nearB a b = true ↔ max (a.1 - b.1) (b.1 - a.1) + max (a.2 - b.2) (b.2 - a.2) = 1 := by
  have h := nearB_max a.1 a.2 b.1 b.2
  have e : nearB a b = nearB (a.1, a.2) (b.1, b.2) := rfl
  rw [e, h]
  simp
theorem nearB_symm {a b : C} (h : nearB a b = true) : nearB b a = true := by
  rw [nearB_iff] at h ⊢
  omega
variable {F G : C → Prop} {a b c : C}
theorem Path.left (h : Path F a b) : F a := by
  induction h with
  | refl h => exact h
  | step _ _ _ _ _ ih => exact ih
theorem Path.right (h : Path F a b) : F b := by
  cases h with
  | refl h => exact h
  | step _ _ _ h _ => exact h
theorem Path.trans (h : Path F a b) (k : Path F b c) : Path F a c := by
  induction k with
  | refl _ => exact h
  | step _ _ _ hc hn ih => exact Path.step _ _ _ ih hc hn
theorem Path.one (ha : F a) (hb : F b) (hn : nearB a b = true) : Path F a b := Path.step _ _ _ (Path.refl _ ha) hb hn
theorem Path.symm (h : Path F a b) : Path F b a := by
  induction h with
  | refl h => exact Path.refl _ h
  | step _ _ h1 hc hn ih => exact (Path.one hc h1.right (nearB_symm hn)).trans ih
theorem Path.sub (h : Path F a b) (hs : ∀ c, F c → G c) : Path G a b := by
  induction h with
  | refl h => exact Path.refl _ (hs _ h)
  | step _ _ _ hc hn ih => exact Path.step _ _ _ ih (hs _ hc) hn
/-- a map that sends neighbours to neighbours, or to one cell -/
theorem Path.map {f : C → C} (h : Path F a b) (hf : ∀ c, F c → G (f c)) (hn : ∀ a b, F a → F b → nearB a b = true → f a = f b ∨ nearB (f a) (f b) = true) : Path G (f a) (f b) := by
  induction h with
  | refl h => exact Path.refl _ (hf _ h)
  | step _ c h1 hc hnb ih =>
    rcases hn _ _ h1.right hc hnb with e | e
    · rw [← e]; exact ih
    · exact Path.step _ _ _ ih (hf _ hc) e

/-- one cell of each component -/
structure Reps (F : C → Prop) (l : List C) : Prop where
  mem : ∀ r, r ∈ l → F r
  apart : l.Pairwise fun a b => ¬ Path F a b
  all : ∀ c, F c → ∃ r, r ∈ l ∧ Path F r c
theorem reps_le : ∀ (l m : List C), (l.Pairwise fun a b => ¬ Path F a b) → (∀ b, b ∈ l → ∃ r, r ∈ m ∧ Path F r b) → l.length ≤ m.length
  | [], _, _, _ => Nat.zero_le _
  | a :: l, m, hp, hc => by
    obtain ⟨h1, h2⟩ := List.pairwise_cons.1 hp
    obtain ⟨r, hr, hra⟩ := hc a (List.mem_cons_self ..)
    have := reps_le l (m.erase r) h2 fun b hb => by
      obtain ⟨q, hq, hqb⟩ := hc b (List.mem_cons_of_mem _ hb)
      refine ⟨q, (List.mem_erase_of_ne ?_).2 hq, hqb⟩
      rintro rfl
      exact h1 b hb (hra.symm.trans hqb)
    rw [List.length_erase_of_mem hr] at this
    have h0 := List.length_pos_of_mem hr
    simp only [List.length_cons]
    omega
theorem Reps.len {l m : List C} (h : Reps F l) (k : Reps F m) : l.length = m.length :=
  Nat.le_antisymm (reps_le l m h.apart fun b hb => k.all b (h.mem b hb)) (reps_le m l k.apart fun b hb => h.all b (k.mem b hb))

/-! ### A frame around a shape, and a greater one -/
def clampI (lo hi x : Int) : Int := if x < lo then lo else if hi < x then hi else x
def InBox (x0 x1 y0 y1 : Int) (c : C) : Prop := x0 ≤ c.1 ∧ c.1 ≤ x1 ∧ y0 ≤ c.2 ∧ c.2 ≤ y1
/-- the free cells of a frame -/
def FreeIn (cs : List C) (x0 x1 y0 y1 : Int) (c : C) : Prop := InBox x0 x1 y0 y1 c ∧ c ∉ cs
def clampC (x0 x1 y0 y1 : Int) (c : C) : C := (clampI x0 x1 c.1, clampI y0 y1 c.2)
theorem clamp_in {x0 x1 y0 y1 : Int} {c : C} (h : InBox x0 x1 y0 y1 c) : clampC x0 x1 y0 y1 c = c := by
  obtain ⟨h1, h2, h3, h4⟩ := h
  unfold clampC clampI
  rw [if_neg (by omega), if_neg (by omega), if_neg (by omega), if_neg (by omega)]
theorem clampI_range {lo hi x : Int} (h : lo ≤ hi) : lo ≤ clampI lo hi x ∧ clampI lo hi x ≤ hi := by
  unfold clampI; split
  · omega
  · split <;> omega
theorem clamp_free {cs : List C} {x0 x1 y0 y1 : Int} (hx : x0 < x1) (hy : y0 < y1) (hs : ∀ c, c ∈ cs → x0 < c.1 ∧ c.1 < x1 ∧ y0 < c.2 ∧ c.2 < y1) {c : C} (hc : c ∉ cs) : FreeIn cs x0 x1 y0 y1 (clampC x0 x1 y0 y1 c) := by
  have r1 := clampI_range (lo := x0) (hi := x1) (x := c.1) (by omega)
  have r2 := clampI_range (lo := y0) (hi := y1) (x := c.2) (by omega)
  refine ⟨⟨r1.1, r1.2, r2.1, r2.2⟩, fun hm => ?_⟩
  obtain ⟨h1, h2, h3, h4⟩ := hs _ hm
  have e : clampC x0 x1 y0 y1 c = c := by
    refine clamp_in ⟨?_, ?_, ?_, ?_⟩
    all_goals
      revert h1 h2 h3 h4
      simp only [clampC, clampI]
      split <;> split <;> (try split) <;> (try split) <;> omega
  rw [e] at hm
  exact hc hm
theorem clamp_near {x0 x1 y0 y1 : Int} (hx : x0 ≤ x1) (hy : y0 ≤ y1) {a b : C} (h : nearB a b = true) : clampC x0 x1 y0 y1 a = clampC x0 x1 y0 y1 b ∨ nearB (clampC x0 x1 y0 y1 a) (clampC x0 x1 y0 y1 b) = true := by
  obtain ⟨ax, ay⟩ := a
  obtain ⟨bx, by'⟩ := b
  rw [nearB_iff] at h
  rw [nearB_iff]
  have key : ∀ (lo hi : Int), lo ≤ hi → ∀ p q : Int, (p = q → clampI lo hi p = clampI lo hi q) ∧ ((p = q + 1 ∨ q = p + 1) → clampI lo hi p = clampI lo hi q ∨ clampI lo hi p = clampI lo hi q + 1 ∨ clampI lo hi q = clampI lo hi p + 1) := by
    intro lo hi hl p q
    refine ⟨fun e => by rw [e], fun e => ?_⟩
    unfold clampI
    split <;> split <;> (try split) <;> (try split) <;> omega
  have k1 := key x0 x1 hx ax bx
  have k2 := key y0 y1 hy ay by'
  simp only [clampC, Prod.mk.injEq] at h ⊢
  omega
/-- from a free cell straight to the frame -/
theorem clamp_path {cs : List C} {x0 x1 y0 y1 X0 X1 Y0 Y1 : Int} (hx : x0 < x1) (hy : y0 < y1) (hX0 : X0 ≤ x0) (hX1 : x1 ≤ X1) (hY0 : Y0 ≤ y0) (hY1 : y1 ≤ Y1)
    (hs : ∀ c, c ∈ cs → x0 < c.1 ∧ c.1 < x1 ∧ y0 < c.2 ∧ c.2 < y1) :
    ∀ (d : Nat) (c : C), (c.1 - clampI x0 x1 c.1).natAbs + (c.2 - clampI y0 y1 c.2).natAbs ≤ d → FreeIn cs X0 X1 Y0 Y1 c → Path (FreeIn cs X0 X1 Y0 Y1) (clampC x0 x1 y0 y1 c) c := by
  have fr : ∀ c : C, InBox X0 X1 Y0 Y1 c → (c.1 ≤ x0 ∨ x1 ≤ c.1 ∨ c.2 ≤ y0 ∨ y1 ≤ c.2) → FreeIn cs X0 X1 Y0 Y1 c := fun c hb ho => ⟨hb, fun hm => by have := hs c hm; omega⟩
  intro d
  induction d with
  | zero =>
    intro c hd hc
    have e : clampC x0 x1 y0 y1 c = c := Prod.ext (by show clampI x0 x1 c.1 = c.1; omega) (by show clampI y0 y1 c.2 = c.2; omega)
    rw [e]
    exact Path.refl _ hc
  | succ d ih =>
    intro c hd hc
    obtain ⟨⟨b1, b2, b3, b4⟩, hn⟩ := hc
    have go : ∀ c' : C, InBox X0 X1 Y0 Y1 c' → (c'.1 ≤ x0 ∨ x1 ≤ c'.1 ∨ c'.2 ≤ y0 ∨ y1 ≤ c'.2) → clampC x0 x1 y0 y1 c' = clampC x0 x1 y0 y1 c → (c'.1 - clampI x0 x1 c'.1).natAbs + (c'.2 - clampI y0 y1 c'.2).natAbs ≤ d → nearB c' c = true → Path (FreeIn cs X0 X1 Y0 Y1) (clampC x0 x1 y0 y1 c) c := fun c' hb ho he hd' hnb => by
      have := ih c' hd' (fr c' hb ho)
      rw [he] at this
      exact Path.step _ _ _ this ⟨⟨b1, b2, b3, b4⟩, hn⟩ hnb
    by_cases h1 : c.1 < x0
    · refine go (c.1 + 1, c.2) ⟨by show X0 ≤ c.1 + 1; omega, by show c.1 + 1 ≤ X1; omega, b3, b4⟩ (Or.inl (by show c.1 + 1 ≤ x0; omega)) ?_ ?_ (nearB_iff.2 (by show max (c.1 + 1 - c.1) (c.1 - (c.1 + 1)) + max (c.2 - c.2) (c.2 - c.2) = 1; omega))
      · have e : clampI x0 x1 (c.1 + 1) = clampI x0 x1 c.1 := by unfold clampI; rw [if_pos h1]; split <;> (try split) <;> omega
        show (clampI x0 x1 (c.1 + 1), _) = _
        rw [e]; rfl
      · show (c.1 + 1 - clampI x0 x1 (c.1 + 1)).natAbs + _ ≤ d
        have e : clampI x0 x1 (c.1 + 1) = clampI x0 x1 c.1 := by unfold clampI; rw [if_pos h1]; split <;> (try split) <;> omega
        have e2 : clampI x0 x1 c.1 = x0 := by unfold clampI; rw [if_pos h1]
        rw [e, e2]; rw [e2] at hd
        show _ + (c.2 - clampI y0 y1 c.2).natAbs ≤ d
        omega
    · by_cases h2 : x1 < c.1
      · refine go (c.1 - 1, c.2) ⟨by show X0 ≤ c.1 - 1; omega, by show c.1 - 1 ≤ X1; omega, b3, b4⟩ (Or.inr (Or.inl (by show x1 ≤ c.1 - 1; omega))) ?_ ?_ (nearB_iff.2 (by show max (c.1 - 1 - c.1) (c.1 - (c.1 - 1)) + max (c.2 - c.2) (c.2 - c.2) = 1; omega))
        · have e : clampI x0 x1 (c.1 - 1) = clampI x0 x1 c.1 := by unfold clampI; rw [if_neg h1, if_pos h2]; split <;> (try split) <;> omega
          show (clampI x0 x1 (c.1 - 1), _) = _
          rw [e]; rfl
        · show (c.1 - 1 - clampI x0 x1 (c.1 - 1)).natAbs + _ ≤ d
          have e : clampI x0 x1 (c.1 - 1) = clampI x0 x1 c.1 := by unfold clampI; rw [if_neg h1, if_pos h2]; split <;> (try split) <;> omega
          have e2 : clampI x0 x1 c.1 = x1 := by unfold clampI; rw [if_neg h1, if_pos h2]
          rw [e, e2]; rw [e2] at hd
          show _ + (c.2 - clampI y0 y1 c.2).natAbs ≤ d
          omega
      · have ex : clampI x0 x1 c.1 = c.1 := by unfold clampI; rw [if_neg h1, if_neg h2]
        by_cases h3 : c.2 < y0
        · refine go (c.1, c.2 + 1) ⟨b1, b2, by show Y0 ≤ c.2 + 1; omega, by show c.2 + 1 ≤ Y1; omega⟩ (Or.inr (Or.inr (Or.inl (by show c.2 + 1 ≤ y0; omega)))) ?_ ?_ (nearB_iff.2 (by show max (c.1 - c.1) (c.1 - c.1) + max (c.2 + 1 - c.2) (c.2 - (c.2 + 1)) = 1; omega))
          · have e : clampI y0 y1 (c.2 + 1) = clampI y0 y1 c.2 := by unfold clampI; rw [if_pos h3]; split <;> (try split) <;> omega
            show (_, clampI y0 y1 (c.2 + 1)) = _
            rw [e]; rfl
          · show _ + (c.2 + 1 - clampI y0 y1 (c.2 + 1)).natAbs ≤ d
            have e : clampI y0 y1 (c.2 + 1) = clampI y0 y1 c.2 := by unfold clampI; rw [if_pos h3]; split <;> (try split) <;> omega
            have e2 : clampI y0 y1 c.2 = y0 := by unfold clampI; rw [if_pos h3]
            rw [e, e2]; rw [e2] at hd
            show (c.1 - clampI x0 x1 c.1).natAbs + _ ≤ d
            omega
        · by_cases h4 : y1 < c.2
          · refine go (c.1, c.2 - 1) ⟨b1, b2, by show Y0 ≤ c.2 - 1; omega, by show c.2 - 1 ≤ Y1; omega⟩ (Or.inr (Or.inr (Or.inr (by show y1 ≤ c.2 - 1; omega)))) ?_ ?_ (nearB_iff.2 (by show max (c.1 - c.1) (c.1 - c.1) + max (c.2 - 1 - c.2) (c.2 - (c.2 - 1)) = 1; omega))
            · have e : clampI y0 y1 (c.2 - 1) = clampI y0 y1 c.2 := by unfold clampI; rw [if_neg h3, if_pos h4]; split <;> (try split) <;> omega
              show (_, clampI y0 y1 (c.2 - 1)) = _
              rw [e]; rfl
            · show _ + (c.2 - 1 - clampI y0 y1 (c.2 - 1)).natAbs ≤ d
              have e : clampI y0 y1 (c.2 - 1) = clampI y0 y1 c.2 := by unfold clampI; rw [if_neg h3, if_pos h4]; split <;> (try split) <;> omega
              have e2 : clampI y0 y1 c.2 = y1 := by unfold clampI; rw [if_neg h3, if_pos h4]
              rw [e, e2]; rw [e2] at hd
              show (c.1 - clampI x0 x1 c.1).natAbs + _ ≤ d
              omega
          · have e : clampC x0 x1 y0 y1 c = c := clamp_in ⟨by omega, by omega, by omega, by omega⟩
            rw [e]
            exact Path.refl _ ⟨⟨b1, b2, b3, b4⟩, hn⟩
/-- a frame's representatives are those of every greater frame -/
theorem reps_frame {cs : List C} {x0 x1 y0 y1 X0 X1 Y0 Y1 : Int} (hx : x0 < x1) (hy : y0 < y1) (hX0 : X0 ≤ x0) (hX1 : x1 ≤ X1) (hY0 : Y0 ≤ y0) (hY1 : y1 ≤ Y1)
    (hs : ∀ c, c ∈ cs → x0 < c.1 ∧ c.1 < x1 ∧ y0 < c.2 ∧ c.2 < y1) {l : List C} (h : Reps (FreeIn cs x0 x1 y0 y1) l) : Reps (FreeIn cs X0 X1 Y0 Y1) l := by
  have up : ∀ c, FreeIn cs x0 x1 y0 y1 c → FreeIn cs X0 X1 Y0 Y1 c := fun c ⟨⟨b1, b2, b3, b4⟩, hn⟩ => ⟨⟨by omega, by omega, by omega, by omega⟩, hn⟩
  have down : ∀ a b, Path (FreeIn cs X0 X1 Y0 Y1) a b → Path (FreeIn cs x0 x1 y0 y1) (clampC x0 x1 y0 y1 a) (clampC x0 x1 y0 y1 b) := fun a b hp => hp.map (fun c hc => clamp_free hx hy hs hc.2) (fun a b _ _ hn => clamp_near (by omega) (by omega) hn)
  refine ⟨fun r hr => up r (h.mem r hr), ?_, fun c hc => ?_⟩
  · refine h.apart.imp_of_mem fun {a b} ha hb hab hp => hab ?_
    have := down a b hp
    rwa [clamp_in (h.mem a ha).1, clamp_in (h.mem b hb).1] at this
  · obtain ⟨r, hr, hp⟩ := h.all _ (clamp_free hx hy hs hc.2)
    exact ⟨r, hr, (hp.sub up).trans (clamp_path hx hy hX0 hX1 hY0 hY1 hs _ c (Nat.le_refl _) hc)⟩
/-- representatives, moved -/
theorem reps_move {F : C → Prop} {l : List C} (u v : Int) (h : Reps F l) : Reps (fun c => F (c.1 - u, c.2 - v)) (l.map fun c => (c.1 + u, c.2 + v)) := by
  have e1 : ∀ c : C, ((c.1 + u - u, c.2 + v - v) : C) = c := fun c => Prod.ext (by show c.1 + u - u = c.1; omega) (by show c.2 + v - v = c.2; omega)
  have e2 : ∀ c : C, ((c.1 - u + u, c.2 - v + v) : C) = c := fun c => Prod.ext (by show c.1 - u + u = c.1; omega) (by show c.2 - v + v = c.2; omega)
  have near1 : ∀ a b : C, nearB a b = true → nearB (a.1 + u, a.2 + v) (b.1 + u, b.2 + v) = true := fun a b hn => by
    rw [nearB_iff] at hn ⊢
    show max (a.1 + u - (b.1 + u)) (b.1 + u - (a.1 + u)) + max (a.2 + v - (b.2 + v)) (b.2 + v - (a.2 + v)) = 1
    omega
  have near2 : ∀ a b : C, nearB a b = true → nearB (a.1 - u, a.2 - v) (b.1 - u, b.2 - v) = true := fun a b hn => by
    rw [nearB_iff] at hn ⊢
    show max (a.1 - u - (b.1 - u)) (b.1 - u - (a.1 - u)) + max (a.2 - v - (b.2 - v)) (b.2 - v - (a.2 - v)) = 1
    omega
  have to : ∀ a b, Path F a b → Path (fun c => F (c.1 - u, c.2 - v)) (a.1 + u, a.2 + v) (b.1 + u, b.2 + v) := fun a b hp =>
    hp.map (f := fun c => (c.1 + u, c.2 + v)) (fun c hc => by show F (c.1 + u - u, c.2 + v - v); rw [e1]; exact hc) (fun a b _ _ hn => Or.inr (near1 a b hn))
  have fro : ∀ a b, Path (fun c => F (c.1 - u, c.2 - v)) a b → Path F (a.1 - u, a.2 - v) (b.1 - u, b.2 - v) := fun a b hp =>
    hp.map (f := fun c => (c.1 - u, c.2 - v)) (fun c hc => hc) (fun a b _ _ hn => Or.inr (near2 a b hn))
  refine ⟨fun r hr => ?_, ?_, fun c hc => ?_⟩
  · obtain ⟨q, hq, rfl⟩ := List.mem_map.1 hr
    show F (q.1 + u - u, q.2 + v - v)
    rw [e1]
    exact h.mem q hq
  · rw [List.pairwise_map]
    refine h.apart.imp fun hab hp => hab ?_
    have := fro _ _ hp
    simp only [e1] at this
    exact this
  · obtain ⟨r, hr, hp⟩ := h.all _ hc
    refine ⟨_, List.mem_map.2 ⟨r, hr, rfl⟩, ?_⟩
    have := to _ _ hp
    simp only [e2] at this
    exact this
/-! ### A flood, whatever its order -/
/-- R: the representatives so far; S: what is seen; W: what is seen and waits for its neighbours -/
structure Flood (F : C → Prop) (R : List C) (S W : C → Prop) : Prop where
  free : ∀ c, S c → F c
  reached : ∀ c, S c → ∃ r, r ∈ R ∧ Path F r c
  reps : ∀ r, r ∈ R → S r
  apart : R.Pairwise fun a b => ¬ Path F a b
  closed : ∀ a b, S a → ¬ W a → F b → nearB a b = true → S b
section
variable {F : C → Prop} {R : List C} {S W : C → Prop}
theorem Flood.start0 : Flood F [] (fun _ => False) (fun _ => False) := ⟨fun _ h => False.elim h, fun _ h => False.elim h, fun _ h => (by cases h), List.Pairwise.nil, fun _ _ h => False.elim h⟩
theorem Flood.path (h : Flood F R S W) (hw : ∀ c, ¬ W c) {a b : C} (hp : Path F a b) (ha : S a) : S b := by
  induction hp with
  | refl _ => exact ha
  | step _ _ hc hb hn ih => exact h.closed _ _ ih (hw _) hb hn
theorem Flood.seed (h : Flood F R S W) (hw : ∀ c, ¬ W c) {s : C} (hs : F s) (hn : ¬ S s) : Flood F (R ++ [s]) (fun c => S c ∨ c = s) (fun c => c = s) := by
  refine ⟨fun c hc => ?_, fun c hc => ?_, fun r hr => ?_, ?_, fun a b ha hwa hb hnb => ?_⟩
  · rcases hc with hc | rfl
    · exact h.free c hc
    · exact hs
  · rcases hc with hc | rfl
    · obtain ⟨r, hr, hp⟩ := h.reached c hc
      exact ⟨r, List.mem_append_left _ hr, hp⟩
    · exact ⟨c, by simp, Path.refl _ hs⟩
  · rcases List.mem_append.1 hr with hr | hr
    · exact Or.inl (h.reps r hr)
    · exact Or.inr (List.mem_singleton.1 hr)
  · rw [List.pairwise_append]
    refine ⟨h.apart, List.pairwise_singleton _ _, fun a ha b hb hp => ?_⟩
    rw [List.mem_singleton.1 hb] at hp
    exact hn (h.path hw hp (h.reps a ha))
  · rcases ha with ha | rfl
    · exact Or.inl (h.closed a b ha (hw a) hb hnb)
    · exact absurd rfl hwa
theorem Flood.mark (h : Flood F R S W) {a b : C} (ha : S a) (hb : F b) (hn : nearB a b = true) : Flood F R (fun c => S c ∨ c = b) (fun c => W c ∨ c = b) := by
  refine ⟨fun c hc => ?_, fun c hc => ?_, fun r hr => Or.inl (h.reps r hr), h.apart, fun x y hx hwx hy hnx => ?_⟩
  · rcases hc with hc | rfl
    · exact h.free c hc
    · exact hb
  · rcases hc with hc | rfl
    · exact h.reached c hc
    · obtain ⟨r, hr, hp⟩ := h.reached a ha
      exact ⟨r, hr, Path.step _ _ _ hp hb hn⟩
  · rcases hx with hx | rfl
    · exact Or.inl (h.closed x y hx (fun k => hwx (Or.inl k)) hy hnx)
    · exact absurd (Or.inr rfl) hwx
theorem Flood.pop (h : Flood F R S W) {a : C} {W' : C → Prop} (hall : ∀ b, F b → nearB a b = true → S b) (hw : ∀ c, W c → W' c ∨ c = a) : Flood F R S W' :=
  ⟨h.free, h.reached, h.reps, h.apart, fun x y hx hwx hy hn => by
    by_cases e : x = a
    · subst e; exact hall y hy hn
    · exact h.closed x y hx (fun k => (hw x k).elim hwx e) hy hn⟩
theorem Flood.congr (h : Flood F R S W) {S' W' : C → Prop} (hs : ∀ c, S c ↔ S' c) (hw : ∀ c, W c ↔ W' c) : Flood F R S' W' := by
  have e1 : S = S' := funext fun c => propext (hs c)
  have e2 : W = W' := funext fun c => propext (hw c)
  subst e1 e2
  exact h
theorem Flood.ends (h : Flood F R S W) (hall : ∀ c, F c → S c) : Reps F R :=
  ⟨fun r hr => h.free r (h.reps r hr), h.apart, fun c hc => h.reached c (hall c hc)⟩
end
end Go.Proofs.Ythhaojbnnacdbaa
