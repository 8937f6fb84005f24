/- The program's flood over a grid of marks, ten by ten. Plain. -/
import Derived.Test.YthhaojbnnacdbaaHoleS
namespace Go.Proofs.Ythhaojbnnacdbaa

def ix (c : C) : Nat := c.2.toNat * 10 + c.1.toNat
def On (c : C) : Prop := 0 ≤ c.1 ∧ c.1 ≤ 9 ∧ 0 ≤ c.2 ∧ c.2 ≤ 9
def gAt (G : List Bool) (c : C) : Bool := G.getD (ix c) false
/-- the free cells of the grid: a shape's cell lies one to the right and one below -/
def Fr (cs : List C) (c : C) : Prop := FreeIn cs (-1) 8 (-1) 8 (c.1 - 1, c.2 - 1)
theorem Fr.on {cs : List C} {c : C} (h : Fr cs c) : On c := by
  obtain ⟨⟨h1, h2, h3, h4⟩, _⟩ := h
  simp only at h1 h2 h3 h4
  exact ⟨by omega, by omega, by omega, by omega⟩
theorem Fr.of {cs : List C} {c : C} (h : On c) (hn : (c.1 - 1, c.2 - 1) ∉ cs) : Fr cs c := by
  obtain ⟨h1, h2, h3, h4⟩ := h
  exact ⟨⟨by show -1 ≤ c.1 - 1; omega, by show c.1 - 1 ≤ 8; omega, by show -1 ≤ c.2 - 1; omega, by show c.2 - 1 ≤ 8; omega⟩, hn⟩
theorem ix_lt {c : C} (h : On c) : ix c < 100 := by obtain ⟨h1, h2, h3, h4⟩ := h; unfold ix; omega
theorem ix_inj {c d : C} (h : On c) (k : On d) (e : ix c = ix d) : c = d := by
  obtain ⟨h1, h2, h3, h4⟩ := h
  obtain ⟨k1, k2, k3, k4⟩ := k
  unfold ix at e
  exact Prod.ext (by omega) (by omega)
theorem gAt_set {G : List Bool} {c d : C} (hl : G.length = 100) (hc : On c) (hd : On d) : gAt (G.set (ix d) true) c = true ↔ gAt G c = true ∨ c = d := by
  unfold gAt
  simp only [List.getD_eq_getElem?_getD]
  by_cases e : c = d
  · subst e
    rw [List.getElem?_set_self (by rw [hl]; exact ix_lt hc)]
    simp
  · rw [List.getElem?_set_ne (fun h => e (ix_inj hc hd h.symm))]
    simp [e]
theorem gcount_set {G : List Bool} {d : C} (hl : G.length = 100) (hd : On d) (h : gAt G d = false) : (G.set (ix d) true).count true = G.count true + 1 := by
  have hlt : ix d < G.length := by rw [hl]; exact ix_lt hd
  have : G[ix d] = false := by unfold gAt at h; simpa [hlt] using h
  rw [List.count_set hlt]
  simp [this]
/-- the shape's first k cells are marked, and nothing else -/
structure Marked (cs : List C) (k : Nat) (G : List Bool) : Prop where
  len : G.length = 100
  at_ : ∀ c, On c → (gAt G c = true ↔ (c.1 - 1, c.2 - 1) ∈ cs.take k)
theorem Marked.start (cs : List C) : Marked cs 0 (List.replicate 100 false) :=
  ⟨List.length_replicate, fun c _ => by
    have hg : ∀ n i : Nat, (List.replicate n false).getD i false = false := fun n i => by
      rw [List.getD_eq_getElem?_getD, List.getElem?_replicate]
      split <;> rfl
    have e : gAt (List.replicate 100 false) c = false := hg _ _
    rw [e]
    simp⟩
theorem Marked.next {cs : List C} {k : Nat} {G : List Bool} {p q : Int} (h : Marked cs k G) (hk : cs[k]? = some (p, q)) (ho : On (p + 1, q + 1)) : Marked cs (k + 1) (G.set (ix (p + 1, q + 1)) true) :=
  ⟨by rw [List.length_set]; exact h.len, fun c hc => by
    rw [gAt_set h.len hc ho, h.at_ c hc, take_next hk, List.mem_append, List.mem_singleton]
    have e : c = (p + 1, q + 1) ↔ ((c.1 - 1, c.2 - 1) : C) = (p, q) := by
      obtain ⟨x, y⟩ := c
      simp only [Prod.mk.injEq]
      omega
    rw [e]⟩
variable {cs : List C} {K K' : C → Prop} {R : List C} {G : List Bool} {T : List C} {a c s : C} {d : Nat}
/-- what is marked and free is seen; T waits -/
structure PInv (cs : List C) (K : C → Prop) (R : List C) (G : List Bool) (T : List C) : Prop where
  len : G.length = 100
  flood : Flood (Fr cs) R (fun c => Fr cs c ∧ gAt G c = true) (· ∈ T)
  free : ∀ c, On c → gAt G c = false → Fr cs c
  wait : ∀ c, c ∈ T → Fr cs c ∧ gAt G c = true
  keep : ∀ c, K c → Fr cs c ∧ gAt G c = true
  room : T.length ≤ G.count true
structure PAt (cs : List C) (K : C → Prop) (R : List C) (G : List Bool) (T : List C) (a : C) (d : Nat) : Prop where
  len : G.length = 100
  flood : Flood (Fr cs) R (fun c => Fr cs c ∧ gAt G c = true) (fun c => c ∈ T ∨ c = a)
  free : ∀ c, On c → gAt G c = false → Fr cs c
  wait : ∀ c, c ∈ T → Fr cs c ∧ gAt G c = true
  keep : ∀ c, K c → Fr cs c ∧ gAt G c = true
  room : T.length ≤ G.count true
  here : Fr cs a ∧ gAt G a = true
  part : ∀ j, j < d → ∀ c, (sidesL a)[j]? = some c → Fr cs c → gAt G c = true
theorem PInv.pop (h : PInv cs K R G (a :: T)) : PAt cs K R G T a 0 :=
  ⟨h.len, h.flood.congr (fun _ => Iff.rfl) (fun c => by rw [List.mem_cons]; exact Or.comm), h.free, fun c hc => h.wait c (List.mem_cons_of_mem _ hc), h.keep, by have := h.room; rw [List.length_cons] at this; omega, h.wait a (List.mem_cons_self ..), fun j hj => absurd hj (by omega)⟩
theorem PAt.skip (h : PAt cs K R G T a d) (hc : (sidesL a)[d]? = some c) (hs : Fr cs c → gAt G c = true) : PAt cs K R G T a (d + 1) :=
  ⟨h.len, h.flood, h.free, h.wait, h.keep, h.room, h.here, fun j hj e he hf => by
    by_cases hjd : j = d
    · subst hjd; rw [hc] at he; injection he with he; subst he; exact hs hf
    · exact h.part j (by omega) e he hf⟩
theorem PAt.add (h : PAt cs K R G T a d) (hc : (sidesL a)[d]? = some c) (ho : On c) (hn : gAt G c = false) : PAt cs K R (G.set (ix c) true) (T ++ [c]) a (d + 1) := by
  have hf := h.free c ho hn
  have up : ∀ e, Fr cs e ∧ gAt G e = true → Fr cs e ∧ gAt (G.set (ix c) true) e = true := fun e he => ⟨he.1, (gAt_set h.len he.1.on ho).2 (Or.inl he.2)⟩
  refine ⟨by rw [List.length_set]; exact h.len, ?_, fun e he hg => ?_, fun e he => ?_, fun e he => up e (h.keep e he), ?_, up a h.here, fun j hj e he hfe => ?_⟩
  · refine (h.flood.mark h.here hf (sidesL_near.1 (List.mem_of_getElem? hc))).congr (fun e => ?_) (fun e => ?_)
    · constructor
      · rintro (he | rfl)
        · exact up e he
        · exact ⟨hf, (gAt_set h.len ho ho).2 (Or.inr rfl)⟩
      · rintro ⟨he, hg⟩
        rcases (gAt_set h.len he.on ho).1 hg with hg | rfl
        · exact Or.inl ⟨he, hg⟩
        · exact Or.inr rfl
    · simp only [List.mem_append, List.mem_singleton]
      constructor
      · rintro ((h1 | h1) | h1)
        · exact Or.inl (Or.inl h1)
        · exact Or.inr h1
        · exact Or.inl (Or.inr h1)
      · rintro ((h1 | h1) | h1)
        · exact Or.inl (Or.inl h1)
        · exact Or.inr h1
        · exact Or.inl (Or.inr h1)
  · refine h.free e he ?_
    cases hx : gAt G e with
    | false => rfl
    | true => rw [(gAt_set h.len he ho).2 (Or.inl hx)] at hg; cases hg
  · rcases List.mem_append.1 he with he | he
    · exact up e (h.wait e he)
    · rw [List.mem_singleton.1 he]; exact ⟨hf, (gAt_set h.len ho ho).2 (Or.inr rfl)⟩
  · rw [gcount_set h.len ho hn, List.length_append]; have := h.room; simp; omega
  · by_cases hjd : j = d
    · subst hjd; rw [hc] at he; injection he with he; subst he; exact (gAt_set h.len ho ho).2 (Or.inr rfl)
    · exact (gAt_set h.len hfe.on ho).2 (Or.inl (h.part j (by omega) e he hfe))
theorem PAt.out (h : PAt cs K R G T a 4) : PInv cs K R G T :=
  ⟨h.len, h.flood.pop (a := a) (fun b hb hn => by
    obtain ⟨j, hj, e⟩ := List.getElem_of_mem (sidesL_near.2 hn)
    exact ⟨hb, h.part j (by have : (sidesL a).length = 4 := rfl; omega) b (by rw [List.getElem?_eq_getElem hj, e]) hb⟩) (fun _ he => he), h.free, h.wait, h.keep, h.room⟩
theorem PInv.seed (h : PInv cs K R G []) (ho : On s) (hn : gAt G s = false) (hk : ∀ c, K' c → (Fr cs c ∧ gAt G c = true) ∨ c = s) : PInv cs K' (R ++ [s]) (G.set (ix s) true) [s] := by
  have hf := h.free s ho hn
  have up : ∀ e, Fr cs e ∧ gAt G e = true → Fr cs e ∧ gAt (G.set (ix s) true) e = true := fun e he => ⟨he.1, (gAt_set h.len he.1.on ho).2 (Or.inl he.2)⟩
  have hs : Fr cs s ∧ gAt (G.set (ix s) true) s = true := ⟨hf, (gAt_set h.len ho ho).2 (Or.inr rfl)⟩
  refine ⟨by rw [List.length_set]; exact h.len, ?_, fun e he hg => ?_, fun e he => ?_, fun e he => ?_, ?_⟩
  · refine (h.flood.seed (fun c hc => by cases hc) hf (fun hx => by rw [hn] at hx; cases hx.2)).congr (fun e => ?_) (fun e => by simp)
    constructor
    · rintro (he | rfl)
      · exact up e he
      · exact hs
    · rintro ⟨he, hg⟩
      rcases (gAt_set h.len he.on ho).1 hg with hg | rfl
      · exact Or.inl ⟨he, hg⟩
      · exact Or.inr rfl
  · refine h.free e he ?_
    cases hx : gAt G e with
    | false => rfl
    | true => rw [(gAt_set h.len he ho).2 (Or.inl hx)] at hg; cases hg
  · rw [List.mem_singleton.1 he]; exact hs
  · rcases hk e he with h1 | rfl
    · exact up e h1
    · exact hs
  · rw [gcount_set h.len ho hn]; simp
theorem PInv.weak (h : PInv cs K R G []) (hk : ∀ c, K' c → Fr cs c ∧ gAt G c = true) : PInv cs K' R G [] := ⟨h.len, h.flood, h.free, h.wait, hk, h.room⟩
def SeenTo (cs : List C) (x y : Int) (c : C) : Prop := Fr cs c ∧ (c.2 < y ∨ (c.2 = y ∧ c.1 < x))
def SeenAt (cs : List C) (x y : Int) (c : C) : Prop := SeenTo cs x y c ∨ c = (x, y)
def PScan (cs : List C) (x y : Int) (R : List C) (G : List Bool) : Prop := PInv cs (SeenTo cs x y) R G []
def PFill (cs : List C) (x y : Int) (R : List C) (G : List Bool) (T : List C) : Prop := PInv cs (SeenAt cs x y) R G T
def PFillAt (cs : List C) (x y : Int) (R : List C) (G : List Bool) (T : List C) (a : C) (d : Nat) : Prop := PAt cs (SeenAt cs x y) R G T a d
theorem Marked.scan (h : Marked cs cs.length G) : PScan cs 0 0 [] G := by
  have ht : cs.take cs.length = cs := List.take_length
  have off : ∀ c, Fr cs c → ¬ gAt G c = true := fun c hc hg => by
    have := (h.at_ c hc.on).1 hg
    rw [ht] at this
    exact hc.2 this
  refine ⟨h.len, Flood.start0.congr (fun c => ⟨False.elim, fun hc => off c hc.1 hc.2⟩) (fun c => by simp), fun c hc hg => ?_, fun c hc => absurd hc (by simp), fun c hc => ?_, Nat.zero_le _⟩
  · refine Fr.of hc fun hm => ?_
    rw [← ht] at hm
    rw [(h.at_ c hc).2 hm] at hg
    cases hg
  · have ho := hc.1.on
    rcases hc.2 with h1 | h1
    · have := ho.2.2.1; omega
    · have := ho.1; omega
theorem PScan.skip {x y : Int} (h : PScan cs x y R G) (hs : gAt G (x, y) = true) : PScan cs (x + 1) y R G := by
  refine PInv.weak h fun c hc => ?_
  by_cases e : c = (x, y)
  · subst e; exact ⟨hc.1, hs⟩
  · refine PInv.keep h c ⟨hc.1, ?_⟩
    rcases hc.2 with h1 | h1
    · exact Or.inl h1
    · refine Or.inr ⟨h1.1, ?_⟩
      have : c.1 ≠ x := fun e1 => e (Prod.ext e1 h1.1)
      omega
theorem PScan.row {y : Int} (h : PScan cs 10 y R G) : PScan cs 0 (y + 1) R G := by
  refine PInv.weak h fun c hc => PInv.keep h c ⟨hc.1, ?_⟩
  have ho := hc.1.on
  obtain ⟨h1, h2, h3, h4⟩ := ho
  rcases hc.2 with k1 | k1 <;> omega
theorem PScan.seed {x y : Int} (h : PScan cs x y R G) (ho : On (x, y)) (hn : gAt G (x, y) = false) : PFill cs x y (R ++ [(x, y)]) (G.set (ix (x, y)) true) [(x, y)] :=
  PInv.seed h ho hn fun c hc => by
    rcases hc with hc | hc
    · exact Or.inl (PInv.keep h c hc)
    · exact Or.inr hc
theorem PFill.scan {x y : Int} (h : PFill cs x y R G []) : PScan cs (x + 1) y R G :=
  PScan.skip (x := x) (y := y) (PInv.weak h fun c hc => PInv.keep h c (Or.inl hc)) (PInv.keep h _ (Or.inr rfl)).2
theorem PScan.ends (h : PScan cs 0 10 R G) (hs : isShape cs = true) : HolesIs cs ((R.length : Int) - 1) := by
  have hR : Reps (Fr cs) R := by
    have he := Flood.ends (PInv.flood h) fun c hc => PInv.keep h c ⟨hc, Or.inl (by have := hc.on.2.2.2; omega)⟩
    exact he
  have hm := reps_move (-1) (-1) hR
  have eF : (fun c : C => Fr cs (c.1 - -1, c.2 - -1)) = FreeIn cs (-1) 8 (-1) 8 := by
    funext c
    unfold Fr
    have e : ((c.1 - -1 - 1, c.2 - -1 - 1) : C) = c := Prod.ext (by show c.1 - -1 - 1 = c.1; omega) (by show c.2 - -1 - 1 = c.2; omega)
    rw [e]
  rw [eF] at hm
  exact Or.inr ⟨hs, _, hm, by rw [List.length_map]⟩
end Go.Proofs.Ythhaojbnnacdbaa
