/- Motions as a group of eight; a shape turned twice; orientations times symmetries are eight; congruence. Plain. -/
import Derived.Test.YthhaojbnnacdbaaOrientM
namespace Go.Proofs.Ythhaojbnnacdbaa

def compN (k m : Nat) : Nat := (compM (k : Int) (m : Int)).toNat
def invN (k : Nat) : Nat := (invM (k : Int)).toNat
theorem comp_facts : ∀ k m : Fin 8, compN k.1 m.1 ≤ 7 ∧ carryC (1, 0) (compN k.1 m.1) = carryC (carryC (1, 0) k.1) m.1 ∧ carryC (0, 1) (compN k.1 m.1) = carryC (carryC (0, 1) k.1) m.1 := by decide +kernel
theorem inv_facts : ∀ a : Fin 8, invN a.1 ≤ 7 ∧ compN a.1 (invN a.1) = 0 ∧ compN 0 a.1 = a.1 := by decide +kernel
theorem inv_perm : ∀ a : Fin 8, ((List.range 8).map fun m => compN m (invN a.1)).Perm (List.range 8) := by decide +kernel
theorem comp_inv : ∀ a m : Fin 8, compN (compN m.1 (invN a.1)) a.1 = m.1 := by decide +kernel
theorem comp_back : ∀ a m : Fin 8, compN a.1 (compN (invN a.1) m.1) = m.1 ∧ compN (invN a.1) m.1 ≤ 7 := by decide +kernel
theorem carry_lin (x y : Int) {m : Nat} (hm : m ≤ 7) : carryC (x, y) m = (x * (carryC (1, 0) m).1 + y * (carryC (0, 1) m).1, x * (carryC (1, 0) m).2 + y * (carryC (0, 1) m).2) := by
  have h : m = 0 ∨ m = 1 ∨ m = 2 ∨ m = 3 ∨ m = 4 ∨ m = 5 ∨ m = 6 ∨ m = 7 := by omega
  rcases h with rfl | rfl | rfl | rfl | rfl | rfl | rfl | rfl <;> simp [carryC, turnN, turn1, flipC]
theorem carry_comp (c : C) {k m : Nat} (hk : k ≤ 7) (hm : m ≤ 7) : carryC (carryC c k) m = carryC c (compN k m) := by
  obtain ⟨x, y⟩ := c
  obtain ⟨h1, h2, h3⟩ := comp_facts ⟨k, by omega⟩ ⟨m, by omega⟩
  simp only at h1 h2 h3
  rw [carry_lin x y hk, carry_lin _ _ hm, carry_lin x y h1, h2, h3]
  rw [show carryC (1, 0) k = ((carryC (1, 0) k).1, (carryC (1, 0) k).2) from rfl, show carryC (0, 1) k = ((carryC (0, 1) k).1, (carryC (0, 1) k).2) from rfl]
  rw [carry_lin (carryC (1, 0) k).1 (carryC (1, 0) k).2 hm, carry_lin (carryC (0, 1) k).1 (carryC (0, 1) k).2 hm]
  generalize carryC (1, 0) k = p
  generalize carryC (0, 1) k = q
  generalize carryC (1, 0) m = r
  generalize carryC (0, 1) m = s
  refine Prod.ext ?_ ?_ <;> simp only <;> grind
theorem carry_add (a b : C) {m : Nat} (hm : m ≤ 7) : carryC (a.1 + b.1, a.2 + b.2) m = ((carryC a m).1 + (carryC b m).1, (carryC a m).2 + (carryC b m).2) := by
  obtain ⟨x, y⟩ := a
  obtain ⟨u, v⟩ := b
  rw [carry_lin _ _ hm, carry_lin x y hm, carry_lin u v hm]
  generalize carryC (1, 0) m = r
  generalize carryC (0, 1) m = s
  refine Prod.ext ?_ ?_ <;> simp only <;> grind
theorem mapC_mov (cs : List C) (x y : Int) {m : Nat} (hm : m ≤ 7) : mapC (movC cs x y) m = movC (mapC cs m) (carryC (x, y) m).1 (carryC (x, y) m).2 := by
  unfold mapC movC
  rw [List.map_map, List.map_map]
  exact List.map_congr_left fun c _ => carry_add c (x, y) hm
theorem mov_mov (cs : List C) (x y u v : Int) : movC (movC cs x y) u v = movC cs (x + u) (y + v) := by
  unfold movC
  rw [List.map_map]
  exact List.map_congr_left fun c _ => Prod.ext (by show c.1 + x + u = c.1 + (x + u); omega) (by show c.2 + y + v = c.2 + (y + v); omega)
theorem minOf_mov {f : C → Int} {d : Int} {cs : List C} {x y : Int} (h : cs ≠ []) (hf : ∀ c : C, f (c.1 + x, c.2 + y) = f c + d) : minOf f (movC cs x y) = minOf f cs + d := by
  obtain ⟨c, hc, e⟩ := minOf_mem f h
  refine minOf_eq (fun a ha => ?_) ⟨(c.1 + x, c.2 + y), List.mem_map.2 ⟨c, hc, rfl⟩, by rw [hf, e]⟩
  obtain ⟨b, hb, rfl⟩ := List.mem_map.1 ha
  have := minOf_le f hb
  rw [hf]; omega
theorem corner_mov (cs : List C) (x y : Int) : cornerC (movC cs x y) = cornerC cs := by
  by_cases h : cs = []
  · subst h; rfl
  · unfold cornerC
    rw [minOf_mov (f := (·.1)) (d := x) h (fun c => rfl), minOf_mov (f := (·.2)) (d := y) h (fun c => rfl), mov_mov]
    congr 1 <;> omega
theorem turn_same {X Y : List C} (h : ∀ c, c ∈ X ↔ c ∈ Y) (m : Nat) : turnC X m = turnC Y m := by
  have e : sortC (mapC X m) = sortC (mapC Y m) := sortC_eq (sortC_sorted _) fun c => by
    rw [sortC_mem]
    unfold mapC
    rw [List.mem_map, List.mem_map]
    exact ⟨fun ⟨a, ha, e⟩ => ⟨a, (h a).1 ha, e⟩, fun ⟨a, ha, e⟩ => ⟨a, (h a).2 ha, e⟩⟩
  exact congrArg cornerC e
theorem turn_mov (X : List C) (x y : Int) {m : Nat} (hm : m ≤ 7) : turnC (movC X x y) m = turnC X m := by
  show cornerC (sortC (mapC (movC X x y) m)) = cornerC (sortC (mapC X m))
  rw [mapC_mov X x y hm, sortC_move, corner_mov]
theorem mapC_mapC (X : List C) {k m : Nat} (hk : k ≤ 7) (hm : m ≤ 7) : mapC (mapC X k) m = mapC X (compN k m) := by
  unfold mapC
  rw [List.map_map]
  exact List.map_congr_left fun c _ => carry_comp c hk hm
theorem turn_turn (cs : List C) {k m : Nat} (hk : k ≤ 7) (hm : m ≤ 7) : turnC (turnC cs k) m = turnC cs (compN k m) := by
  show turnC (movC (sortC (mapC cs k)) _ _) m = _
  rw [turn_mov _ _ _ hm, turn_same (Y := mapC cs k) (sortC_mem _)]
  show cornerC (sortC (mapC (mapC cs k) m)) = cornerC (sortC (mapC cs (compN k m)))
  rw [mapC_mapC cs hk hm]
theorem turn_zero {cs : List C} (h : isShape cs = true) : turnC cs 0 = cornerC cs := by
  rw [← turnC_impl cs 0]
  have : (cs.map fun c => carryC c 0) = cs := by
    conv => rhs; rw [← List.map_id cs]
    exact List.map_congr_left fun c _ => by simp [carryC, turnN, flipC]
  rw [this]
  exact cornerC_self (shape_sorted h)
theorem orient_turn {cs : List C} (h : isShape cs = true) {k : Nat} (hk : k ≤ 7) : orientL (turnC cs k) = orientL cs := by
  unfold orientL
  rw [if_pos h, if_pos (turn_shape h k)]
  refine sortedS_unique (putTo_sorted _ _) (putTo_sorted _ _) fun x => ?_
  rw [putTo_mem, putTo_mem]
  constructor
  · rintro ⟨m, hm, rfl⟩
    have := (comp_facts ⟨k, by omega⟩ ⟨m, by omega⟩).1
    simp only at this
    exact ⟨compN k m, by omega, turn_turn cs hk (by omega)⟩
  · rintro ⟨m, hm, rfl⟩
    obtain ⟨e, hle⟩ := comp_back ⟨k, by omega⟩ ⟨m, by omega⟩
    simp only at e hle
    exact ⟨compN (invN k) m, by omega, by rw [turn_turn cs hk hle, e]⟩
theorem canon_turn {cs : List C} (h : isShape cs = true) {k : Nat} (hk : k ≤ 7) : canonC (turnC cs k) = canonC cs := by
  unfold canonC; rw [orient_turn h hk]
theorem turn_back {cs : List C} (h : isShape cs = true) {k : Nat} (hk : k ≤ 7) : turnC (turnC cs k) (invN k) = cornerC cs := by
  obtain ⟨h1, h2, _⟩ := inv_facts ⟨k, by omega⟩
  simp only at h1 h2
  rw [turn_turn cs hk h1, h2, turn_zero h]

/-! ### Orientations times symmetries -/
theorem count_sum {α : Type} [DecidableEq α] (f : Nat → α) (L : List α) (hL : L.Nodup) : ∀ l : List Nat, (∀ m, m ∈ l → f m ∈ L) → l.length = (L.map fun x => l.countP fun m => decide (f m = x)).sum
  | [], _ => by
    have : (L.map fun x => ([] : List Nat).countP fun m => decide (f m = x)) = L.map fun _ => 0 := List.map_congr_left fun x _ => rfl
    rw [this]
    clear this hL
    induction L with
    | nil => rfl
    | cons a r ih => simpa using ih
  | m :: l, h => by
    have ih := count_sum f L hL l fun k hk => h k (List.mem_cons_of_mem _ hk)
    have hm := h m (List.mem_cons_self ..)
    have e : (L.map fun x => (m :: l).countP fun m => decide (f m = x)) = L.map fun x => (l.countP fun m => decide (f m = x)) + if f m = x then 1 else 0 := List.map_congr_left fun x _ => by
      rw [List.countP_cons]; simp
    rw [e, List.length_cons, ih]
    clear e ih h
    obtain ⟨g, hg⟩ : ∃ g : α → Nat, (fun x => l.countP fun m => decide (f m = x)) = g := ⟨_, rfl⟩
    have hg2 : (fun x => (l.countP fun m => decide (f m = x)) + if f m = x then 1 else 0) = fun x => g x + if f m = x then 1 else 0 := funext fun x => by rw [← congrFun hg x]
    rw [hg2, hg]
    clear hg hg2
    induction L with
    | nil => cases hm
    | cons a r ih =>
      obtain ⟨ha, hr⟩ := List.nodup_cons.1 hL
      simp only [List.map_cons, List.sum_cons]
      rcases List.mem_cons.1 hm with hfa | hmr
      · have z : (r.map fun x => g x + if f m = x then 1 else 0) = r.map g := List.map_congr_left fun x hx => by
          have : f m ≠ x := fun e => ha (by rw [← hfa, e]; exact hx)
          simp [this]
        rw [z, if_pos hfa]; omega
      · have hne : f m ≠ a := fun e => ha (by rw [← e]; exact hmr)
        have := ih hr hmr
        rw [if_neg hne]
        omega
theorem sum_const {α : Type} (L : List α) (g : α → Nat) (n : Nat) (h : ∀ x, x ∈ L → g x = n) : (L.map g).sum = L.length * n := by
  induction L with
  | nil => simp
  | cons a r ih =>
    rw [List.map_cons, List.sum_cons, h a (List.mem_cons_self ..), ih fun x hx => h x (List.mem_cons_of_mem _ hx), List.length_cons, Nat.succ_mul]
    omega
theorem sortedS_nodup {ls : L2} (h : SortedS ls) : ls.Nodup := by
  rw [List.nodup_iff_pairwise_ne]
  exact h.imp fun hab e => by subst e; exact shLt_irrefl _ hab
theorem fiber_eq (cs : List C) {a : Nat} (ha : a ≤ 7) : ((List.range 8).countP fun m => decide (turnC cs m = turnC cs a)) = (List.range 8).countP fun m => decide (turnC cs m = turnC cs 0) := by
  have hp := inv_perm ⟨a, by omega⟩
  simp only at hp
  conv => rhs; rw [← hp.countP_eq, List.countP_map]
  refine List.countP_congr fun m hm => ?_
  have hm : m < 8 := List.mem_range.1 hm
  obtain ⟨i1, i2, i3⟩ := inv_facts ⟨a, by omega⟩
  have i4 := comp_inv ⟨a, by omega⟩ ⟨m, by omega⟩
  have i5 := (comp_facts ⟨m, by omega⟩ ⟨invN a, by simp only at i1; omega⟩).1
  simp only at i1 i2 i3 i4 i5
  simp only [decide_eq_true_eq, Function.comp]
  constructor
  · intro e
    rw [← turn_turn cs (by omega) i1, e, turn_turn cs ha i1, i2]
  · intro e
    have e2 : turnC (turnC cs (compN m (invN a))) a = turnC (turnC cs 0) a := by rw [e]
    rw [turn_turn cs i5 ha, i4, turn_turn cs (by omega) ha, i3] at e2
    exact e2
theorem orbit {cs : List C} (h : isShape cs = true) : (orientL cs).length * (symsL cs).length = 8 := by
  unfold orientL symsL
  rw [if_pos h, if_pos h]
  have h1 := count_sum (turnC cs) (putTo (turnC cs) 8) (sortedS_nodup (putTo_sorted _ _)) (List.range 8) fun m hm => (putTo_mem _ _ _).2 ⟨m, List.mem_range.1 hm, rfl⟩
  rw [sum_const _ _ ((List.range 8).countP fun m => decide (turnC cs m = turnC cs 0)) (fun x hx => by
    obtain ⟨m, hm, rfl⟩ := (putTo_mem _ _ _).1 hx
    exact fiber_eq cs (by omega)), List.length_range] at h1
  have h2 : (symTo cs 8).length = (List.range 8).countP fun m => decide (turnC cs m = turnC cs 0) := by
    unfold symTo
    rw [List.length_map, List.countP_eq_length_filter, turn_zero h]
  rw [h2]; exact h1.symm
end Go.Proofs.Ythhaojbnnacdbaa
