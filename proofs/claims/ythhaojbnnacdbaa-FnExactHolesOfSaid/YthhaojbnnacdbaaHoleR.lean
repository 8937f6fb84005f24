/- Floods kept as lists: the reference's search around a cornered shape. Plain. -/
import Derived.Test.YthhaojbnnacdbaaHoleC
import Derived.Test.YthhaojbnnacdbaaSd
namespace Go.Proofs.Ythhaojbnnacdbaa

theorem sidesR_near {a b : C} : b ∈ sidesR a ↔ nearB a b = true := by
  obtain ⟨p, q⟩ := a
  obtain ⟨x, y⟩ := b
  rw [nearB_iff]
  simp only [sidesR, List.mem_cons, List.mem_nil_iff, or_false, Prod.mk.injEq]
  omega
theorem sidesL_near {a b : C} : b ∈ sidesL a ↔ nearB a b = true := by rw [← sides_same, sidesR_near]

/-! ### How many cells a frame has -/
def boxL : List C := (List.range 10).flatMap fun (y : Nat) => (List.range 10).map fun (x : Nat) => (((x : Int) - 1, (y : Int) - 1) : C)
theorem boxL_len : boxL.length = 100 := by simp [boxL]; rfl
theorem boxL_mem {c : C} (h : InBox (-1) 8 (-1) 8 c) : c ∈ boxL := by
  obtain ⟨h1, h2, h3, h4⟩ := h
  unfold boxL
  simp only [List.mem_flatMap, List.mem_map, List.mem_range]
  exact ⟨(c.2 + 1).toNat, by omega, (c.1 + 1).toNat, by omega, Prod.ext (by show ((c.1 + 1).toNat : Int) - 1 = c.1; omega) (by show ((c.2 + 1).toNat : Int) - 1 = c.2; omega)⟩
theorem box_len {l : List C} (h : l.Nodup) (hb : ∀ c, c ∈ l → InBox (-1) 8 (-1) 8 c) : l.length ≤ 100 := by
  have := length_le_of_sub h fun c hc => boxL_mem (hb c hc)
  rwa [boxL_len] at this

/-! ### The list -/
variable {F I K : C → Prop} {R L : List C} {i d : Nat} {a c : C}
/-- L is seen; from i on it waits. K: cells that are in L; I: what is known of the cells that wait. -/
structure LInv (F I K : C → Prop) (R L : List C) (i : Nat) : Prop where
  flood : Flood F R (· ∈ L) (· ∈ L.drop i)
  nodup : L.Nodup
  keep : ∀ c, K c → c ∈ L
  wait : ∀ c, c ∈ L.drop i → I c
  rlen : R.length ≤ L.length
/-- and of the cell at i the first d sides are looked at -/
structure LAt (F I K : C → Prop) (R L : List C) (i : Nat) (a : C) (d : Nat) : Prop where
  inv : LInv F I K R L i
  at_ : L[i]? = some a
  part : ∀ j, j < d → ∀ c, (sidesR a)[j]? = some c → F c → c ∈ L
theorem drop_at {l : List C} (h : l[i]? = some a) : a ∈ l.drop i := by
  have := (List.getElem?_eq_some_iff.1 h)
  obtain ⟨h1, h2⟩ := this
  rw [List.drop_eq_getElem_cons h1, h2]
  exact List.mem_cons_self ..
theorem LInv.into (h : LInv F I K R L i) (ha : L[i]? = some a) : LAt F I K R L i a 0 := ⟨h, ha, fun j hj => absurd hj (by omega)⟩
theorem LAt.lt (h : LAt F I K R L i a d) : i < L.length := (List.getElem?_eq_some_iff.1 h.at_).1
theorem LAt.ins (h : LAt F I K R L i a d) : I a := h.inv.wait a (drop_at h.at_)
theorem LAt.free (h : LAt F I K R L i a d) : F a := h.inv.flood.free a (List.mem_of_getElem? h.at_)
theorem LAt.skip (h : LAt F I K R L i a d) (hc : (sidesR a)[d]? = some c) (hs : F c → c ∈ L) : LAt F I K R L i a (d + 1) :=
  ⟨h.inv, h.at_, fun j hj e he hf => by
    by_cases hjd : j = d
    · subst hjd; rw [hc] at he; injection he with he; subst he; exact hs hf
    · exact h.part j (by omega) e he hf⟩
theorem LAt.add (h : LAt F I K R L i a d) (hc : (sidesR a)[d]? = some c) (hf : F c) (hi : I c) (hn : c ∉ L) : LAt F I K R (L ++ [c]) i a (d + 1) := by
  have hlt := h.lt
  have hdr : (L ++ [c]).drop i = L.drop i ++ [c] := List.drop_append_of_le_length (by omega)
  refine ⟨⟨?_, ?_, fun e he => List.mem_append_left _ (h.inv.keep e he), fun e he => ?_, by have := h.inv.rlen; rw [List.length_append]; omega⟩, ?_, fun j hj e he hfe => ?_⟩
  · rw [hdr]
    exact (h.inv.flood.mark (List.mem_of_getElem? h.at_) hf (sidesR_near.1 (List.mem_of_getElem? hc))).congr (fun e => by simp) (fun e => by simp)
  · rw [List.nodup_append]
    refine ⟨h.inv.nodup, by simp, fun x hx y hy e => ?_⟩
    rw [List.mem_singleton.1 hy] at e
    exact hn (e ▸ hx)
  · rw [hdr] at he
    rcases List.mem_append.1 he with he | he
    · exact h.inv.wait e he
    · rw [List.mem_singleton.1 he]; exact hi
  · rw [List.getElem?_append_left hlt]; exact h.at_
  · by_cases hjd : j = d
    · subst hjd; rw [hc] at he; injection he with he; subst he; exact List.mem_append_right _ (List.mem_singleton.2 rfl)
    · exact List.mem_append_left _ (h.part j (by omega) e he hfe)
theorem LAt.out (h : LAt F I K R L i a 4) : LInv F I K R L (i + 1) := by
  have hlt := h.lt
  have ha := (List.getElem?_eq_some_iff.1 h.at_).2
  have hdr : L.drop i = a :: L.drop (i + 1) := by rw [List.drop_eq_getElem_cons hlt, ha]
  refine ⟨h.inv.flood.pop (a := a) (fun b hb hn => ?_) (fun e he => ?_), h.inv.nodup, h.inv.keep, fun e he => h.inv.wait e (by rw [hdr]; exact List.mem_cons_of_mem _ he), h.inv.rlen⟩
  · obtain ⟨j, hj, e⟩ := List.getElem_of_mem (sidesR_near.2 hn)
    exact h.part j (by have : (sidesR a).length = 4 := rfl; omega) b (by rw [List.getElem?_eq_getElem hj, e]) hb
  · rw [hdr] at he
    rcases List.mem_cons.1 he with he | he
    · exact Or.inr he
    · exact Or.inl he
theorem LInv.len (h : LInv F I K R L i) (hF : ∀ c, F c → InBox (-1) 8 (-1) 8 c) : L.length ≤ 100 := box_len h.nodup fun c hc => hF c (h.flood.free c hc)
theorem LInv.none (_ : LInv F I K R L L.length) : ∀ c, ¬ c ∈ L.drop L.length := by intro c hc; rw [List.drop_length] at hc; cases hc
theorem LInv.path (h : LInv F I K R L L.length) {a b : C} (hp : Path F a b) (ha : a ∈ L) : b ∈ L := h.flood.path h.none hp ha
/-- a first cell -/
theorem LInv.first (hs : F a) (hi : I a) : LInv F I (fun c => c = a) [a] [a] 0 :=
  ⟨(Flood.start0.seed (fun _ => id) hs id).congr (fun c => by simp) (fun c => by simp), by simp, fun c hc => by rw [hc]; exact List.mem_singleton.2 rfl, fun c hc => by rw [List.mem_singleton.1 hc]; exact hi, by simp⟩
/-- one more beginning -/
theorem LInv.seed {I' K' : C → Prop} (h : LInv F I K R L L.length) (hs : F a) (hi : I' a) (hn : a ∉ L) (hk : ∀ c, K' c → c ∈ L ∨ c = a) : LInv F I' K' (R ++ [a]) (L ++ [a]) L.length := by
  have hdr : (L ++ [a]).drop L.length = [a] := by simp
  refine ⟨?_, ?_, fun e he => by have := hk e he; simpa using this, fun e he => ?_, by have := h.rlen; simp; omega⟩
  · rw [hdr]
    exact (h.flood.seed h.none hs hn).congr (fun e => by simp) (fun e => by simp)
  · rw [List.nodup_append]
    refine ⟨h.nodup, by simp, fun x hx y hy e => ?_⟩
    rw [List.mem_singleton.1 hy] at e
    exact hn (e ▸ hx)
  · rw [hdr] at he; rw [List.mem_singleton.1 he]; exact hi
theorem LInv.weak {I' K' : C → Prop} (h : LInv F I K R L L.length) (hk : ∀ c, K' c → c ∈ L) : LInv F I' K' R L L.length :=
  ⟨h.flood, h.nodup, hk, fun c hc => absurd hc (h.none c), h.rlen⟩

/-! ### The ring -/
theorem line_h {x y : Int} : ∀ n : Nat, (∀ k : Nat, k ≤ n → F (x + k, y)) → Path F (x, y) (x + n, y)
  | 0, h => by have := h 0 (Nat.le_refl _); simp only [Int.natCast_zero, Int.add_zero] at this ⊢; exact Path.refl _ this
  | n + 1, h => Path.step _ _ _ (line_h n fun k hk => h k (by omega)) (h (n + 1) (Nat.le_refl _)) (nearB_iff.2 (by simp only [Int.natCast_succ]; omega))
theorem line_v {x y : Int} : ∀ n : Nat, (∀ k : Nat, k ≤ n → F (x, y + k)) → Path F (x, y) (x, y + n)
  | 0, h => by have := h 0 (Nat.le_refl _); simp only [Int.natCast_zero, Int.add_zero] at this ⊢; exact Path.refl _ this
  | n + 1, h => Path.step _ _ _ (line_v n fun k hk => h k (by omega)) (h (n + 1) (Nat.le_refl _)) (nearB_iff.2 (by simp only [Int.natCast_succ]; omega))
def Inside (W H : Int) (c : C) : Prop := 0 ≤ c.1 ∧ c.1 < W ∧ 0 ≤ c.2 ∧ c.2 < H
theorem ring_path {cs : List C} {W H : Int} (hW : 0 ≤ W) (hH : 0 ≤ H) (hs : ∀ c, c ∈ cs → Inside W H c) {c : C} (hb : InBox (-1) W (-1) H c) (hr : ¬ Inside W H c) : Path (FreeIn cs (-1) W (-1) H) (-1, -1) c := by
  obtain ⟨x, y⟩ := c
  obtain ⟨h1, h2, h3, h4⟩ := hb
  simp only at h1 h2 h3 h4
  have fr : ∀ c : C, InBox (-1) W (-1) H c → ¬ Inside W H c → FreeIn cs (-1) W (-1) H c := fun c hb hn => ⟨hb, fun hm => hn (hs c hm)⟩
  have hh : ∀ (v : Int) (n : Nat), (v = -1 ∨ v = H) → (n : Int) ≤ W + 1 → Path (FreeIn cs (-1) W (-1) H) (-1, v) (-1 + n, v) := fun v n hv hn => line_h n fun k hk => fr _ ⟨by show (-1 : Int) ≤ -1 + k; omega, by show (-1 : Int) + k ≤ W; omega, by show -1 ≤ v; omega, by show v ≤ H; omega⟩ fun hi => by have := hi.2.2.1; have := hi.2.2.2; simp only at *; omega
  have hv : ∀ (u : Int) (n : Nat), (u = -1 ∨ u = W) → (n : Int) ≤ H + 1 → Path (FreeIn cs (-1) W (-1) H) (u, -1) (u, -1 + n) := fun u n hu hn => line_v n fun k hk => fr _ ⟨by show -1 ≤ u; omega, by show u ≤ W; omega, by show (-1 : Int) ≤ -1 + k; omega, by show (-1 : Int) + k ≤ H; omega⟩ fun hi => by have := hi.1; have := hi.2.1; simp only at *; omega
  have ex : ((-1 : Int) + ((x + 1).toNat : Int)) = x := by omega
  have ey : ((-1 : Int) + ((y + 1).toNat : Int)) = y := by omega
  have eW : ((-1 : Int) + ((W + 1).toNat : Int)) = W := by omega
  have eH : ((-1 : Int) + ((H + 1).toNat : Int)) = H := by omega
  have cases : y = -1 ∨ y = H ∨ x = -1 ∨ x = W := by
    unfold Inside at hr
    simp only at hr
    omega
  rcases cases with rfl | rfl | rfl | rfl
  · have := hh (-1) (x + 1).toNat (Or.inl rfl) (by omega)
    rwa [ex] at this
  · have a1 := hv (-1) (y + 1).toNat (Or.inl rfl) (by omega)
    rw [ey] at a1
    have a2 := hh y (x + 1).toNat (Or.inr rfl) (by omega)
    rw [ex] at a2
    exact a1.trans a2
  · have := hv (-1) (y + 1).toNat (Or.inl rfl) (by omega)
    rwa [ey] at this
  · have a1 := hh (-1) (x + 1).toNat (Or.inl rfl) (by omega)
    rw [ex] at a1
    have a2 := hv x (y + 1).toNat (Or.inr rfl) (by omega)
    rw [ey] at a2
    exact a1.trans a2

/-! ### Row by row -/
/-- what is settled when the scan stands at (x, y) -/
def Known (F : C → Prop) (W H x y : Int) (c : C) : Prop := F c ∧ (¬ Inside W H c ∨ c.2 < y ∨ (c.2 = y ∧ c.1 < x))
/-- what is settled while (x, y) is flooded -/
def KnownAt (F : C → Prop) (W H x y : Int) (c : C) : Prop := Known F W H x y c ∨ c = (x, y)
def Scan (cs : List C) (W H x y : Int) (R L : List C) : Prop := LInv (FreeIn cs (-1) W (-1) H) (Inside W H) (Known (FreeIn cs (-1) W (-1) H) W H x y) R L L.length
def Fill (cs : List C) (W H x y : Int) (R L : List C) (i : Nat) : Prop := LInv (FreeIn cs (-1) W (-1) H) (Inside W H) (KnownAt (FreeIn cs (-1) W (-1) H) W H x y) R L i
def FillAt (cs : List C) (W H x y : Int) (R L : List C) (i : Nat) (a : C) (d : Nat) : Prop := LAt (FreeIn cs (-1) W (-1) H) (Inside W H) (KnownAt (FreeIn cs (-1) W (-1) H) W H x y) R L i a d
/-- the search from outside -/
def Outer (cs : List C) (W H : Int) (L : List C) (i : Nat) : Prop := LInv (FreeIn cs (-1) W (-1) H) (fun _ => True) (fun c => c = (-1, -1)) [(-1, -1)] L i
def OuterAt (cs : List C) (W H : Int) (L : List C) (i : Nat) (a : C) (d : Nat) : Prop := LAt (FreeIn cs (-1) W (-1) H) (fun _ => True) (fun c => c = (-1, -1)) [(-1, -1)] L i a d
section
variable {cs : List C} {W H x y : Int}
theorem Outer.start (hW : 0 ≤ W) (hH : 0 ≤ H) (hs : ∀ c, c ∈ cs → Inside W H c) : Outer cs W H [(-1, -1)] 0 :=
  LInv.first ⟨⟨Int.le_refl _, by show -1 ≤ W; omega, Int.le_refl _, by show -1 ≤ H; omega⟩, fun hm => by have := (hs _ hm).1; simp only at this; omega⟩ trivial
theorem Outer.scan (h : Outer cs W H L L.length) (hW : 0 ≤ W) (hH : 0 ≤ H) (hs : ∀ c, c ∈ cs → Inside W H c) : Scan cs W H 0 0 [(-1, -1)] L := by
  refine h.weak fun c hc => ?_
  have hn : ¬ Inside W H c := by
    rintro hi
    rcases hc.2 with h1 | h1 | h1
    · exact h1 hi
    · have := hi.2.2.1; omega
    · have := hi.1; omega
  exact h.path (ring_path hW hH hs hc.1.1 hn) (h.keep _ rfl)
theorem Scan.skip (h : Scan cs W H x y R L) (hs : FreeIn cs (-1) W (-1) H (x, y) → (x, y) ∈ L) : Scan cs W H (x + 1) y R L := by
  refine h.weak fun c hc => ?_
  by_cases e : c = (x, y)
  · subst e; exact hs hc.1
  · refine h.keep c ⟨hc.1, ?_⟩
    rcases hc.2 with h1 | h1 | h1
    · exact Or.inl h1
    · exact Or.inr (Or.inl h1)
    · refine Or.inr (Or.inr ⟨h1.1, ?_⟩)
      have : c.1 ≠ x := fun e1 => e (Prod.ext e1 h1.1)
      omega
theorem Scan.row (h : Scan cs W H W y R L) : Scan cs W H 0 (y + 1) R L := by
  refine h.weak fun c hc => h.keep c ⟨hc.1, ?_⟩
  rcases hc.2 with h1 | h1 | h1
  · exact Or.inl h1
  · by_cases hi : Inside W H c
    · have := hi.2.1
      omega
    · exact Or.inl hi
  · by_cases hi : Inside W H c
    · have := hi.1
      omega
    · exact Or.inl hi
theorem Scan.ends (h : Scan cs W H 0 H R L) : Reps (FreeIn cs (-1) W (-1) H) R :=
  h.flood.ends fun c hc => h.keep c ⟨hc, by
    by_cases hi : Inside W H c
    · exact Or.inr (Or.inl hi.2.2.2)
    · exact Or.inl hi⟩
theorem Scan.seed (h : Scan cs W H x y R L) (hi : Inside W H (x, y)) (hf : (x, y) ∉ cs) (hn : (x, y) ∉ L) : Fill cs W H x y (R ++ [(x, y)]) (L ++ [(x, y)]) L.length := by
  obtain ⟨i1, i2, i3, i4⟩ := id hi
  simp only at i1 i2 i3 i4
  exact LInv.seed h ⟨⟨by show -1 ≤ x; omega, by show x ≤ W; omega, by show -1 ≤ y; omega, by show y ≤ H; omega⟩, hf⟩ hi hn fun c hc => by
    rcases hc with hc | hc
    · exact Or.inl (h.keep c hc)
    · exact Or.inr hc
theorem Fill.scan (h : Fill cs W H x y R L L.length) : Scan cs W H (x + 1) y R L := by
  refine Scan.skip (x := x) (y := y) (h.weak fun c hc => h.keep c (Or.inl hc)) fun _ => h.keep _ (Or.inr rfl)
theorem FillAt.add {c : C} (h : FillAt cs W H x y R L i a d) (hc : (sidesR a)[d]? = some c) (hf : c ∉ cs) (hn : c ∉ L) : FillAt cs W H x y R (L ++ [c]) i a (d + 1) := by
  have hi := LAt.ins h
  have hn' := sidesR_near.1 (List.mem_of_getElem? hc)
  rw [nearB_iff] at hn'
  obtain ⟨i1, i2, i3, i4⟩ := hi
  have hF : FreeIn cs (-1) W (-1) H c := ⟨⟨by omega, by omega, by omega, by omega⟩, hf⟩
  refine LAt.add h hc hF ?_ hn
  by_cases hx : Inside W H c
  · exact hx
  · exact absurd (LInv.keep (LAt.inv h) c (Or.inl ⟨hF, Or.inl hx⟩)) hn
theorem OuterAt.add {c : C} (h : OuterAt cs W H L i a d) (hc : (sidesR a)[d]? = some c) (hb : InBox (-1) W (-1) H c) (hf : c ∉ cs) (hn : c ∉ L) : OuterAt cs W H (L ++ [c]) i a (d + 1) := LAt.add h hc ⟨hb, hf⟩ trivial hn
theorem frame_box (hW : W ≤ 8) (hH : H ≤ 8) (c : C) (h : FreeIn cs (-1) W (-1) H c) : InBox (-1) 8 (-1) 8 c := ⟨h.1.1, by have := h.1.2.1; omega, h.1.2.2.1, by have := h.1.2.2.2; omega⟩
end
end Go.Proofs.Ythhaojbnnacdbaa
