/- putShape, the program's: a shape goes into an ordered list of its own. Condition: sizes. -/
import Derived.Test.YtacegndmclnbnaaGreatDoorPutM
import Derived.Test.YtacegndmclnbnaaGreatDoorSearch
import Derived.Test.YtacegndmclnbnaaGreatDoorCmp
import Derived.Test.YtacegndmclnbnaaGreatDoorMot
import Derived.OneCell
import Derived.Laws.CopyOwn
import Derived.Maps.Range
import Derived.Maps.AppendAt
import Derived.Deep.RegionLaw
namespace Go.Proofs.YtacegndmclnbnaaGreatDoor
open Go.RowKit

theorem Tryz.infoL : (Tryz.prog.info? 24).map (fun i => (i.zero, i.size, i.bytes)) = some (some (.slice none 0 0), 1, 24) := by kernel_rfl
theorem Tryz.infoL1 : (Tryz.prog.info? 24).map (·.size) = some 1 := by kernel_rfl

theorem grown_setCell (w : World) (g j : Nat) (u : Value) : w.grownBy (w.setCell ⟨g, j, none⟩ u) (some g) :=
  ⟨rfl, rfl, rfl, by simp, fun k _ hk => heap_setCell_other w ⟨g, j, none⟩ k u (fun e => hk (by simp [e]))⟩
theorem row_block {w : World} {base e g n cap : Nat} {xs : List Value} (h : w.ownsRow base e 1 (.slice (some ⟨g, 0, none⟩) n cap) n xs) : ∃ cur : List Value, w.heap[g]? = some (.cells cur.toArray e (0, 0)) ∧ n ≤ cap ∧ cap ≤ maxLen ∧ cur.length = cap ∧ cur.take n = xs ∧ base ≤ g := by
  rcases h.2 with ⟨e, _⟩ | ⟨g', cap', cur, e, hb, hg, hle, hm, hs, ht⟩
  · cases e
  · injection e with e1 e2 e3
    injection e1 with e1
    injection e1 with e1 _
    subst e1 e3
    exact ⟨cur.toList, by simpa using hg, hle, hm, by simpa using hs, by simpa using ht, hb⟩

theorem splice_put {z : Value} {vs cur : List Value} {n k : Nat} (u : Value) (hn : vs.length = n) (hk : k ≤ n) (hc : n + 1 ≤ cur.length) (ht : cur.take (n + 1) = vs ++ [z]) :
    ((splice cur (k + 1) (vs.drop k)).set k u).take (n + 1) = vs.take k ++ u :: vs.drop k := by
  have hcur : cur.take k = vs.take k := by
    have := congrArg (List.take k) ht
    rwa [List.take_take, Nat.min_eq_left (by omega), List.take_append_of_le_length (by omega)] at this
  have hkc : k < cur.length := by omega
  have e1 : cur.take (k + 1) = vs.take k ++ [cur[k]] := by rw [take_next (List.getElem?_eq_getElem hkc), hcur]
  have hl : (vs.take k).length = k := by simp; omega
  unfold splice
  rw [e1, List.append_assoc, List.set_append_right _ _ (by omega), hl, Nat.sub_self, List.cons_append, List.set_cons_zero]
  rw [List.nil_append, ← List.cons_append, ← List.append_assoc]
  exact List.take_left' (by simp; omega)
theorem splice_len {z : Value} {vs cur : List Value} {n k cap : Nat} (hn : vs.length = n) (hk : k ≤ n) (hc : n + 1 ≤ cap) (hl : cur.length = cap) (_ : cur.take (n + 1) = vs ++ [z]) : (splice cur (k + 1) (vs.drop k)).length = cap := by
  rw [length_splice _ _ _ (by simp; omega), hl]

/-- copy within a row that is known whole, as one step of a region that draws: nothing else turns -/
theorem step_copy_into {P : Program} {ops : Array Oper} {o : Oper} {a : Act} {w : World} {K : Act → World → Prop} {Q : Exit → Act → World → Prop} {E : Prop} (hgd : o.guard = none) (d s : Operand) (dT sT : TypeId)
    (ho : o.op = .call { callee := .builtin .copy, args := #[d, s], argTypes := #[dT, sT] }) (elem : TypeId) (hu : P.underlying dT = some (.slice elem)) (hsz : (P.info? elem).map (·.size) = some 1)
    (dp sp : Option Addr) (dLen dCap sLen sCap : Nat) (hd : a.eval d = .slice dp dLen dCap) (hs : a.eval s = .slice sp sLen sCap)
    (g off : Nat) (cur : List Value) (t : TypeId) (hg : w.heap[g]? = some (.cells cur.toArray t (0, 0))) (cs : List Value) (hn : cs.length = Nat.min sLen dLen)
    (hpos : 0 < cs.length → dp = some ⟨g, off, none⟩ ∧ ∃ ad, sp = some ad ∧ ∀ j v, cs[j]? = some v → w.cell? (ad.add j) = some v)
    (hfit : off + cs.length ≤ cur.length) (h1 : ∀ v ∈ cs, v.oneCell' = true)
    (h : ∀ w', Hid (w'.heap[g]? = some (.cells (splice cur off cs).toArray t (0, 0))) → w.grownBy w' (some g) → K (a.put o.dst (goInt cs.length)) w') :
    if Region.wanted o (yielded ops a.tmps) = true then Oper.wp P o a w K Q else E := by
  have hw : Region.wanted o (yielded ops a.tmps) = true := by simp [Region.wanted, hgd]
  rw [if_pos hw]
  by_cases h0 : cs.length = 0
  · obtain rfl : cs = [] := List.eq_nil_of_length_eq_zero h0
    have hrun := run_copy_none (P := P) w dT sT o.type elem dp sp dLen dCap sLen sCap hu hsz (by simpa using hn.symm)
    unfold Oper.wp
    simp [execOp, ho, resolve, invoke, builtin, hd, hs, hrun, Result.andThen]
    exact h w (show _ = _ by simpa [splice] using hg) (World.grownBy.refl _ _)
  · obtain ⟨rfl, ad, rfl, hsrc⟩ := hpos (by omega)
    have hrun := run_copy_row (P := P) w dT sT o.type elem g off dLen dCap ad sLen sCap cur.toArray t cs hu hsz hg hn hsrc (by simpa using hfit) h1
    unfold Oper.wp
    simp [execOp, ho, resolve, invoke, builtin, hd, hs, hrun, Result.andThen]
    exact h _ (show _ = _ by simpa [splice] using setRow_heap w g _ _ t _ hg) ⟨rfl, rfl, rfl, by simp [World.setRow], fun k _ hk => setRow_other w g k _ (fun e => hk (by simp [e]))⟩

def atP (ls : L2) (s : List C) (i : Nat) : Bool := decide (0 ≤ cmpC (ls.getD i []) s)
theorem atP_some {ls : L2} {s x : List C} {i : Nat} (h : ls[i]? = some x) : atP ls s i = decide (0 ≤ cmpC x s) := by
  unfold atP; rw [show ls.getD i [] = x by simp [List.getD_eq_getElem?_getD, h]]
theorem atP_mono {ls : L2} {s : List C} (hs : SortedS ls) : ∀ a b, a ≤ b → b < ls.length → atP ls s a = true → atP ls s b = true := by
  intro a b hab hb h
  have ha : a < ls.length := by omega
  rw [atP_some (List.getElem?_eq_getElem ha)] at h
  rw [atP_some (List.getElem?_eq_getElem hb)]
  have h1 := of_decide_eq_true h
  refine decide_eq_true ?_
  by_cases e : a = b
  · subst e; exact h1
  · have hlt : shLt ls[a] ls[b] := List.pairwise_iff_getElem.1 hs a b ha hb (by omega)
    rcases shLt_tri ls[b] s with h2 | h2 | h2
    · have : cmpC ls[a] s < 0 := shLt_trans hlt h2
      omega
    · rw [cmpC_zero.2 h2]; omega
    · have : cmpC s ls[b] < 0 := h2
      rw [cmpC_anti s ls[b]]; omega

/-- what putShape hands back -/
def PutPost (w : World) (base : Nat) (v : Value) (vs : List Value) (u : Value) (ls : L2) (e : Ending) (w' : World) : Prop :=
  ∃ v' vs', e = .returned v' ∧ OwnV w' base v' vs' ls ∧ w.grownBy w' v.ownBlock ∧ (v'.ownBlock = v.ownBlock ∨ ∃ q, v'.ownBlock = some q ∧ w.heap.size ≤ q) ∧ ∀ x, x ∈ vs' → x ∈ vs ∨ x = u
theorem OwnV.put {w w' : World} {base : Nat} {v v' u : Value} {vs : List Value} {ls : L2} {cs : List C} {k : Nat} (h : OwnV w base v vs ls) (ho : Own w base u cs)
    (hap : ∀ x, x ∈ vs → x.ownBlock = none ∨ x.ownBlock ≠ u.ownBlock) (hof : u.ownBlock = none ∨ u.ownBlock ≠ v.ownBlock) (hg : w.grownBy w' v.ownBlock) (hk : k ≤ ls.length)
    (hrow : w'.ownsRow base 24 1 v' (ls.length + 1) (vs.take k ++ u :: vs.drop k)) (hv' : v'.ownBlock = v.ownBlock ∨ ∃ q, v'.ownBlock = some q ∧ w.heap.size ≤ q) :
    OwnV w' base v' (vs.take k ++ u :: vs.drop k) (ls.take k ++ cs :: ls.drop k) := by
  have hl := h.len
  have hsplit : vs.take k ++ vs.drop k = vs := List.take_append_drop k vs
  have hflip : ∀ x, x ∈ vs → u.ownBlock = none ∨ u.ownBlock ≠ x.ownBlock := by
    intro x hx
    rcases hap x hx with e | e
    · cases hb : u.ownBlock with
      | none => exact Or.inl rfl
      | some q => exact Or.inr (by rw [e]; simp)
    · exact Or.inr fun e' => e e'.symm
  refine ⟨?_, by simp; omega, fun j x ds e1 e2 => ?_, ?_, fun x hx => ?_⟩
  · rw [show (vs.take k ++ u :: vs.drop k).length = ls.length + 1 by simp; omega]; exact hrow
  · by_cases h1 : j < k
    · rw [List.getElem?_append_left (by simp; omega), List.getElem?_take, if_pos h1] at e1 e2
      exact (h.each j x ds e1 e2).kept hg (h.off x (List.mem_of_getElem? e1))
    · rw [List.getElem?_append_right (by simp; omega), List.length_take, show j - min k vs.length = j - k by omega] at e1
      rw [List.getElem?_append_right (by simp; omega), List.length_take, show j - min k ls.length = j - k by omega] at e2
      by_cases h2 : j = k
      · subst h2
        simp at e1 e2
        subst e1 e2
        exact ho.kept hg hof
      · rw [show j - k = (j - k - 1) + 1 by omega, List.getElem?_cons_succ, List.getElem?_drop] at e1 e2
        exact (h.each (k + (j - k - 1)) x ds e1 e2).kept hg (h.off x (List.mem_of_getElem? e1))
  · have hp := h.apart
    rw [← hsplit, List.pairwise_append] at hp
    rw [List.pairwise_append]
    refine ⟨hp.1, List.pairwise_cons.2 ⟨fun x hx => hflip x (List.mem_of_mem_drop hx), hp.2.1⟩, fun a ha b hb => ?_⟩
    rcases List.mem_cons.1 hb with rfl | hb
    · exact hap a (List.mem_of_mem_take ha)
    · exact hp.2.2 a ha b hb
  · have hx' : x ∈ vs ∨ x = u := by
      rcases List.mem_append.1 hx with hx | hx
      · exact Or.inl (List.mem_of_mem_take hx)
      · rcases List.mem_cons.1 hx with rfl | hx
        · exact Or.inr rfl
        · exact Or.inl (List.mem_of_mem_drop hx)
    have hlt : ∀ q, x.ownBlock = some q → q < w.heap.size := by
      rcases hx' with hx' | rfl
      · exact fun q hq => (h.lt_in hx' q hq).2
      · exact fun q hq => (ho.lt q hq).2
    have hoff : x.ownBlock = none ∨ x.ownBlock ≠ v.ownBlock := by
      rcases hx' with hx' | rfl
      · exact h.off x hx'
      · exact hof
    rcases hv' with e | ⟨q, e, hq⟩
    · rw [e]; exact hoff
    · rw [e]
      cases hb : x.ownBlock with
      | none => exact Or.inl rfl
      | some r => exact Or.inr fun e' => by injection e' with e'; have := hlt r hb; omega

set_option maxHeartbeats 800000 in
theorem put_less (Bl Bs : Nat) (A : Option Addr) (n cap : Nat) (B : Option Addr) (m c : Nat) (ls : L2) (cs : List C) (w : World) (i : Nat) (hi : i < n) (hsh : shortS ls) (hm : m ≤ 1048576)
    (hbl : w.heap[Bl]? = some (.cells #[.slice A n cap] 127 (0, 0))) (hbs : w.heap[Bs]? = some (.cells #[.slice B m c] 24 (0, 0))) (h : ShapesAt w A n ls) (ho : CellsAt w B m cs) :
    Calls Tryz.prog 140 (#[.int .i64 i] ++ #[.pointer (some ⟨Bl, 0, none⟩), .pointer (some ⟨Bs, 0, none⟩)]) w fun e w' => e = .returned (.bool (atP ls cs i)) ∧ Below w.heap.size w w' := by
  have lbl := lt_of_block hbl
  have lbs := lt_of_block hbs
  have c0 := cell_of_one hbl
  have c1 := cell_of_one hbs
  obtain ⟨b, o, D, d, dc, ds, rfl, hb, HK, c2, r2⟩ := h.at_ hi
  have hd : d ≤ 1048576 := by rw [← r2.1]; exact hsh _ (List.mem_of_getElem? HK.out)
  obtain ⟨t, ht⟩ : ∃ t, t = cmpC ds cs := ⟨_, rfl⟩
  have HE : Hid (atP ls cs i = decide (0 ≤ t)) := by show _ = _; rw [ht]; exact atP_some HK.out
  have C1 : ∀ z : Later w, Calls Tryz.prog 141 #[.slice D d dc, .slice B m c] z.1 fun e w' => e = .returned (.int .i64 t) ∧ Below z.1.heap.size z.1 w' := by
    intro z
    rw [ht]
    exact implCompareShapes D B d m dc c ds cs z.1 hd hm (r2.below z.2) (ho.below z.2)
  have l0 := later_cell lbl c0
  have l1 := later_cell lbs c1
  have l2 := later_cell hb c2
  have i1 : (i : Int) < (n : Int) := by omega
  have i2 : (0 : Int) ≤ (i : Int) := by omega
  clear h ho hbl hbs r2 hsh ht HK
  show Calls Tryz.prog 140 #[.int .i64 i, .pointer (some ⟨Bl, 0, none⟩), .pointer (some ⟨Bs, 0, none⟩)] w _
  go_enter Tryz.func140, Tryz.ntmps140
  go_wp2
  (refine wp_region_later (by kernel_rfl) (by kernel_rfl) ?_; (repeat (go_big_quiet_step ((go_at_call 141; with_reducible exact Calls.later (C1 _))))); refine wpQuiet_nil ?_; rintro wq ⟨xq, hxq⟩; have hq := later_below hxq; clear hxq xq)
  go_wp2
  go_ret
  exact ⟨ret_bool HE.out.symm, hq⟩

set_option maxRecDepth 100000 in
set_option maxHeartbeats 3200000 in
theorem implPut (v : Value) (vs : List Value) (ls : L2) (B : Option Addr) (m c : Nat) (cs : List C) (base : Nat) (w : World) (hln : ls.length ≤ 1000000) (hsh : shortS ls) (hm : m ≤ 1048576) (hs : SortedS ls) (hbw : base ≤ w.heap.size)
    (h : OwnV w base v vs ls) (ho : Own w base (.slice B m c) cs) (hap : ∀ x, x ∈ vs → x.ownBlock = none ∨ x.ownBlock ≠ (Value.slice B m c).ownBlock) (hof : (Value.slice B m c).ownBlock = none ∨ (Value.slice B m c).ownBlock ≠ v.ownBlock) :
    Calls Tryz.prog 129 #[v, .slice B m c] w (PutPost w base v vs (.slice B m c) (insS cs ls)) := by
  obtain ⟨i0, hi, hz0, hz1, hz2⟩ := info_parts Tryz.infoL
  obtain ⟨A, cap, rfl, hr, _, _⟩ := h.form
  obtain ⟨n, hnn⟩ : ∃ n, n = ls.length := ⟨_, rfl⟩
  have HL : Hid (ls.length = n) := hnn.symm
  rw [← hnn] at hln hr h hof ⊢
  clear hnn
  have eg : ∀ args w, (callFunc 140 args).run Tryz.prog w = .ok (.enter 140 args) w := enters_of Tryz.func140 (by kernel_rfl) rfl
  have hvb : ∀ k, (Value.slice A n cap).ownBlock = some k → k < w.heap.size := fun k hk => (h.lt k hk).2
  have bx0 := heap_alloc_new w (.cells #[.slice A n cap] 127)
  obtain ⟨w1, hw1⟩ : ∃ w1, w1 = (w.alloc (.cells #[.slice A n cap] 127)).alloc (.cells #[.slice B m c] 24) := ⟨_, rfl⟩
  have hb1 : Below w.heap.size w w1 := by rw [hw1]; exact below2' _ _ _
  have hs1 : w1.heap.size = w.heap.size + 2 := by rw [hw1]; simp
  have bx1 : w1.heap[w.heap.size]? = some (.cells #[.slice A n cap] 127 (0, 0)) := by rw [hw1]; exact (Below.heap_alloc _ _ _ (by simp)).trans bx0
  have by1 : w1.heap[w.heap.size + 1]? = some (.cells #[.slice B m c] 24 (0, 0)) := by
    rw [hw1]
    have := heap_alloc_new (w.alloc (.cells #[.slice A n cap] 127)) (.cells #[.slice B m c] 24)
    rwa [show (w.alloc (.cells #[.slice A n cap] 127)).heap.size = w.heap.size + 1 by simp] at this
  have hS := search_any 140 #[.pointer (some ⟨w.heap.size, 0, none⟩), .pointer (some ⟨w.heap.size + 1, 0, none⟩)] n (atP ls cs) w1 eg (by omega)
    (fun wz hz i hiz => put_less w.heap.size (w.heap.size + 1) A n cap B m c ls cs wz i hiz hsh hm ((hz.block _ (by omega)).trans bx1) ((hz.block _ (by omega)).trans by1) ((hr.below hb1).below hz) (((own_cells ho).below hb1).below hz))
    (fun a b hab hb => atP_mono hs a b hab (by rw [HL.out]; exact hb))
  have HSH := Lib.hid hsh
  have HS := Lib.hid hs
  have HW1 := Lib.hid hw1
  have HAP := Lib.hid hap
  have HOF := Lib.hid hof
  rw [hw1] at hS
  clear hsh hs hap hof bx0 eg
  go_enter Tryz.func129, Tryz.ntmps129
  go_wp2_with fail
  refine hS.mono ?_
  rintro e w3 ⟨k, hk, rfl, hlo, hhi, hb3'⟩
  rw [← HW1.out] at hb3'
  have HLO := Lib.hid hlo
  have HHI := Lib.hid hhi
  have hb3 : Below w.heap.size w w3 := hb1.trans (hb3'.mono (by omega))
  have bx3 : w3.heap[w.heap.size]? = some (.cells #[.slice A n cap] 127 (0, 0)) := (hb3'.block _ (by omega)).trans bx1
  have by3 : w3.heap[w.heap.size + 1]? = some (.cells #[.slice B m c] 24 (0, 0)) := (hb3'.block _ (by omega)).trans by1
  clear hS hlo hhi hb3' bx1 by1 hb1 hs1 HW1
  clear hw1 w1
  have lb3 := lt_of_block bx3
  have ly3 := lt_of_block by3
  have c0 := cell_of_one bx3
  have c1 := cell_of_one by3
  have l0 := later_cell lb3 c0
  have l1 := later_cell ly3 c1
  by_cases hlt : k < n
  · obtain ⟨b, o, D, d, dc, ds, rfl, hbb, HK, c2, r2⟩ := (hr.below hb3).at_ hlt
    have hki : (k : Int) < (n : Int) := by omega
    have hk0 : (0 : Int) ≤ (k : Int) := by omega
    have l2 := later_cell hbb c2
    have hd : d ≤ 1048576 := by rw [← r2.1]; exact HSH.out _ (List.mem_of_getElem? HK.out)
    have ro := (own_cells ho).below hb3
    by_cases he : ds = cs
    · have C1 : ∀ z : Later w3, Calls Tryz.prog 32 #[.slice D d dc, .slice B m c] z.1 fun e w' => e = .returned (.bool true) ∧ Below z.1.heap.size z.1 w' := by
        intro z
        have := implEqualShapes D B d m dc c ds cs z.1 hd hm (r2.below z.2) (ro.below z.2)
        unfold EqPost at this
        rwa [decide_eq_true he] at this
      have HIN : Hid (insS cs ls = ls) := insS_here HS.out (by rw [← he]; exact List.mem_of_getElem? HK.out)
      clear he hr r2 ro hd
      go_wp2
      (refine wp_region_later (by kernel_rfl) (by kernel_rfl) ?_; (repeat (go_big_quiet_step ((go_at_call 32; with_reducible exact Calls.later (C1 _))))); refine wpQuiet_nil ?_; rintro wq ⟨xq, hxq⟩; have hq := later_below hxq; clear hxq xq)
      have c0q := cell_on hq lb3 c0
      have hbq := hb3.trans (hq.mono hb3.size)
      clear l0 l1 l2 C1
      go_wp2
      go_ret
      refine ⟨_, vs, rfl, ?_, ⟨hbq.os, hbq.tape, hbq.output, hbq.size, fun i hi _ => hbq.block i hi⟩, Or.inl rfl, fun x hx => Or.inl hx⟩
      rw [HIN.out]
      exact h.below hbq
    · have C1 : ∀ z : Later w3, Calls Tryz.prog 32 #[.slice D d dc, .slice B m c] z.1 fun e w' => e = .returned (.bool false) ∧ Below z.1.heap.size z.1 w' := by
        intro z
        have := implEqualShapes D B d m dc c ds cs z.1 hd hm (r2.below z.2) (ro.below z.2)
        unfold EqPost at this
        rwa [decide_eq_false he] at this
      have HNE : Hid (∀ x, ls[k]? = some x → x ≠ cs) := (show ∀ x, _ from fun x hx => by rw [HK.out] at hx; injection hx with hx; rw [← hx]; exact he)
      clear he hr r2 ro hd
      go_wp2
      (refine wp_region_later (by kernel_rfl) (by kernel_rfl) ?_; (repeat (go_big_quiet_step ((go_at_call 32; with_reducible exact Calls.later (C1 _))))); refine wpQuiet_nil ?_; rintro wq ⟨xq, hxq⟩; have hq := later_below hxq; clear hxq xq)
      clear l2 C1 hbb c2
      have HIN : Hid (insS cs ls = ls.take k ++ cs :: ls.drop k) := insS_place HS.out (fun t x ht hx => by
          have := HLO.out t ht
          rw [atP_some hx] at this
          have := of_decide_eq_false this
          omega) (fun t x ht hx => by
          have := HHI.out t ht (by have := (List.getElem?_eq_some_iff.1 hx).1; rw [HL.out] at this; exact this)
          rw [atP_some hx] at this
          exact of_decide_eq_true this) HNE.out
      have bxq := (hq.block _ lb3).trans bx3
      have byq := (hq.block _ ly3).trans by3
      have hbq := hb3.trans (hq.mono hb3.size)
      have lbq := lt_of_block bxq
      have lyq := lt_of_block byq
      have c0q := cell_of_one bxq
      have hq2 := h.below hbq
      have hrow := hq2.row
      have hvn : vs.length = n := by rw [hq2.len]; exact HL.out
      have HVN := Lib.hid hvn
      rw [hvn] at hrow
      have hone := hq2.one
      clear l0 l1 c0 c1 hq bx3 by3 lb3 ly3 hb3
      go_wp2_with (at_builtin; refine wpList_append_lies _ rfl _ _ 127 rfl base 24 i0 (.slice none 0 0) 1 24 Tryz.underlying127 hi hz0 hz1 hz2 rfl (by decide) _ _ _ rfl (World.ownsRow.alloc hrow _) ⟨wq.heap.size, 0, none⟩ 1 1 [.slice none 0 0] rfl rfl ?c1 ?c2 (by decide) ?c4 ?c5 ?c6 _ rfl ?_)
      case c1 => exact World.news_of_block (cs := #[.slice none 0 0]) (heap_alloc_new wq _)
      case c2 => intro u hu; rw [List.mem_singleton.1 hu]; rfl
      case c4 => unfold maxLen; omega
      case c5 => omega
      case c6 => simp; have := hbq.size; omega
      intro g cap' w5 hown5 hgrow hat hg5
      have hgw : g ≠ w.heap.size ∧ g ≠ w.heap.size + 1 := by
        rcases hat with e | e
        · have := hvb g e; omega
        · omega
      have bx5 := (hgrow.block w.heap.size (by simp; omega) (fun e => by have := hvb _ e.symm; omega)).trans ((Below.heap_alloc wq _ _ lbq).trans bxq)
      have by5 := (hgrow.block (w.heap.size + 1) (by simp; omega) (fun e => by have := hvb _ e.symm; omega)).trans ((Below.heap_alloc wq _ _ lyq).trans byq)
      have c5 := cell_of_one bx5
      have f5 := frozen_of_row w5 w.heap.size 0 _ _ bx5
      have g05 := World.grownBy.trans (World.grownBy.trans (⟨hbq.os, hbq.tape, hbq.output, hbq.size, fun i hi _ => hbq.block i hi⟩ : w.grownBy wq _) (World.grownBy_alloc wq (.cells #[.slice none 0 0] 24) _)) hgrow
      clear bxq byq c0q hrow
      go_wp2
      obtain ⟨w6, hw6⟩ : ∃ w6, w6 = w5.setCell ⟨w.heap.size, 0, none⟩ (.slice (some ⟨g, 0, none⟩) (n + 1) cap') := ⟨_, rfl⟩
      have g56 := grown_setCell w5 w.heap.size 0 (.slice (some ⟨g, 0, none⟩) (n + 1) cap')
      have bx6 := heap_setCell_same w5 w.heap.size 0 _ _ (.slice (some ⟨g, 0, none⟩) (n + 1) cap') bx5
      rw [← hw6] at g56 bx6 ⊢
      have bx6 : w6.heap[w.heap.size]? = some (.cells #[.slice (some ⟨g, 0, none⟩) (n + 1) cap'] 127 (0, 0)) := bx6
      have by6 := (g56.block (w.heap.size + 1) (lt_of_block by5) (by simp)).trans by5
      have hown6 := hown5.kept g56 (Or.inr (by simp [Value.ownBlock]; omega))
      have g06 := g05.andThen g56 (fun j hj => Or.inl (by injection hj with hj; omega))
      obtain ⟨cur, hcur, hle, hmx, hcl, htk, hbg⟩ := row_block hown6
      have c6 := cell_of_one bx6
      have lx6 := lt_of_block bx6
      have ly6 := lt_of_block by6
      have HTK := Lib.hid htk
      have hcl2 := Lib.hid hcl
      have hk1 : (k : Int) + 1 ≤ (n : Int) + 1 := by omega
      have hk2 : (0 : Int) ≤ (k : Int) + 1 := by omega
      have hk3 : (k : Int) ≤ (n : Int) + 1 := by omega
      have hkt : ((k : Int) + 1).toNat = k + 1 := by omega
      have hwr : IntKind.i64.wrap ((k : Int) + 1) = (k : Int) + 1 := by rw [IntKind.wrap_i64]; omega
      have hck : ¬ cap' = k := by omega
      have SL : Hid ((vs.drop k).length = Nat.min (n + 1 - k) (n - k)) := by show _ = _; rw [List.length_drop, HVN.out]; show _ = min _ _; omega
      have FIT : Hid (k + 1 + (vs.drop k).length ≤ cur.length) := by show _ ≤ _; rw [List.length_drop, HVN.out, hcl]; omega
      have ONE : Hid (∀ v, v ∈ vs.drop k → v.oneCell' = true) := (show ∀ v, _ from fun v hv => hone v (List.mem_of_mem_drop hv))
      have SRC : Hid (∀ (j : Nat) (v : Value), (vs.drop k)[j]? = some v → w6.cell? ⟨g, k + j, none⟩ = some v) := (show ∀ (j : Nat) (v : Value), _ from fun j v hv => by
        rw [cell_of_row w6 g (k + j) _ _ _ hcur, List.getElem?_toArray]
        rw [List.getElem?_drop] at hv
        have hj := (List.getElem?_eq_some_iff.1 hv).1
        have t : (cur.take (n + 1))[k + j]? = some v := by rw [htk, List.getElem?_append_left hj]; exact hv
        rw [List.getElem?_take] at t
        split at t
        · exact t
        · cases t)
      have hsq := hbq.size
      clear hw6 g56 bx5 by5 c5 f5 g05 hgrow hown5 hcl htk hbq lbq lyq
      by_cases hc : cap' = k + 1
      · exfalso; omega
      · go_region_law (refine step_copy_into rfl (.tmp 29) (.tmp 32) 127 127 rfl 24 Tryz.underlying127 Tryz.infoL1 _ _ _ _ _ _ rfl rfl g (k + 1) cur 24 hcur (vs.drop k) SL.out (fun h0 => ⟨rfl, ⟨g, k, none⟩, rfl, fun j v hv => by rw [Addr.add_lit]; exact SRC.out j v hv⟩) FIT.out ONE.out ?_; intro w7 H7 g67)
        all_goals
          have g67' : w6.grownBy w7 (some g) := ⟨g67.os, g67.tape, g67.output, g67.size, g67.block⟩
          have bx7 := (g67'.block w.heap.size lx6 (by simp; omega)).trans bx6
          have by7 := (g67'.block (w.heap.size + 1) ly6 (by simp; omega)).trans by6
          have c7 := cell_of_one bx7
          have d7 := cell_of_one by7
          have f7 := frozen_of_row w7 g k _ _ H7.out
          have hkl : k < (splice cur (k + 1) (vs.drop k)).length := by rw [splice_len HVN.out hk hle hcl2.out HTK.out]; omega
          obtain ⟨y7, e7⟩ : ∃ y, w7.cell? ⟨g, k, none⟩ = some y := ⟨_, by rw [cell_of_row w7 g k _ _ _ H7.out, List.getElem?_toArray]; exact List.getElem?_eq_getElem hkl⟩
          have c8 : (w7.setCell ⟨g, k, none⟩ (.slice B m c)).cell? ⟨w.heap.size, 0, none⟩ = some (.slice (some ⟨g, 0, none⟩) (n + 1) cap') := ((grown_setCell w7 g k (.slice B m c)).cell c7 (by simp; omega))
          have g78 := grown_setCell w7 g k (.slice B m c)
          have hgv : ∀ j, some g = some j → w.heap.size ≤ j ∨ _ = some j := fun j hj => by
            injection hj with hj
            subst hj
            rcases hat with e | e
            · exact Or.inr e
            · exact Or.inl (by omega)
          have g08 := (g06.andThen g67' hgv).andThen g78 hgv
          have b8 := heap_setCell_same w7 g k _ _ (.slice B m c) H7.out
          have hk4 : (k : Int) < (n : Int) + 1 := by omega
          clear g67 g67' bx7 by7 bx6 by6 hkl
          go_wp2
          go_ret
          have row8 : (w7.setCell ⟨g, k, none⟩ (.slice B m c)).ownsRow base 24 1 (.slice (some ⟨g, 0, none⟩) (n + 1) cap') (ls.length + 1) (vs.take k ++ .slice B m c :: vs.drop k) := by
            rw [HL.out]
            refine ⟨by have := HVN.out; simp; omega, Or.inr ⟨g, cap', _, rfl, hbg, b8, hle, hmx, ?_, ?_⟩⟩
            · have := splice_len HVN.out hk hle hcl2.out HTK.out
              simpa using this
            · have := splice_put (.slice B m c) HVN.out hk (by rw [hcl2.out]; exact hle) HTK.out
              simpa using this
          refine ⟨_, vs.take k ++ .slice B m c :: vs.drop k, rfl, ?_, g08, ?_, fun x hx => ?_⟩
          · rw [HIN.out]
            exact h.put ho HAP.out HOF.out g08 (by rw [HL.out]; exact hk) row8 (by rcases hat with e | e; exact Or.inl e.symm; exact Or.inr ⟨g, rfl, by omega⟩)
          · rcases hat with e | e
            · exact Or.inl e.symm
            · exact Or.inr ⟨g, rfl, by omega⟩
          · rcases List.mem_append.1 hx with hx | hx
            · exact Or.inl (List.mem_of_mem_take hx)
            · rcases List.mem_cons.1 hx with rfl | hx
              · exact Or.inr rfl
              · exact Or.inl (List.mem_of_mem_drop hx)
  · have HNE : Hid (∀ x, ls[k]? = some x → x ≠ cs) := (show ∀ x, _ from fun x hx => by have := (List.getElem?_eq_some_iff.1 hx).1; rw [HL.out] at this; exact absurd this hlt)
    have hki : ¬ (k : Int) < (n : Int) := by omega
    have hk0 : (0 : Int) ≤ (k : Int) := by omega
    clear hr
    go_wp2
    (refine wp_region_later (by kernel_rfl) (by kernel_rfl) ?_; (repeat (go_big_quiet_step (fail))); refine wpQuiet_nil ?_; rintro wq ⟨xq, hxq⟩; have hq := later_below hxq; clear hxq xq)
    have HIN : Hid (insS cs ls = ls.take k ++ cs :: ls.drop k) := insS_place HS.out (fun t x ht hx => by
        have := HLO.out t ht
        rw [atP_some hx] at this
        have := of_decide_eq_false this
        omega) (fun t x ht hx => by
        have := HHI.out t ht (by have := (List.getElem?_eq_some_iff.1 hx).1; rw [HL.out] at this; exact this)
        rw [atP_some hx] at this
        exact of_decide_eq_true this) HNE.out
    have bxq := (hq.block _ lb3).trans bx3
    have byq := (hq.block _ ly3).trans by3
    have hbq := hb3.trans (hq.mono hb3.size)
    have lbq := lt_of_block bxq
    have lyq := lt_of_block byq
    have c0q := cell_of_one bxq
    have hq2 := h.below hbq
    have hrow := hq2.row
    have hvn : vs.length = n := by rw [hq2.len]; exact HL.out
    have HVN := Lib.hid hvn
    rw [hvn] at hrow
    have hone := hq2.one
    clear l0 l1 c0 c1 hq bx3 by3 lb3 ly3 hb3
    go_wp2_with (at_builtin; refine wpList_append_lies _ rfl _ _ 127 rfl base 24 i0 (.slice none 0 0) 1 24 Tryz.underlying127 hi hz0 hz1 hz2 rfl (by decide) _ _ _ rfl (World.ownsRow.alloc hrow _) ⟨wq.heap.size, 0, none⟩ 1 1 [.slice none 0 0] rfl rfl ?c1 ?c2 (by decide) ?c4 ?c5 ?c6 _ rfl ?_)
    case c1 => exact World.news_of_block (cs := #[.slice none 0 0]) (heap_alloc_new wq _)
    case c2 => intro u hu; rw [List.mem_singleton.1 hu]; rfl
    case c4 => unfold maxLen; omega
    case c5 => omega
    case c6 => simp; have := hbq.size; omega
    intro g cap' w5 hown5 hgrow hat hg5
    have hgw : g ≠ w.heap.size ∧ g ≠ w.heap.size + 1 := by
      rcases hat with e | e
      · have := hvb g e; omega
      · omega
    have bx5 := (hgrow.block w.heap.size (by simp; omega) (fun e => by have := hvb _ e.symm; omega)).trans ((Below.heap_alloc wq _ _ lbq).trans bxq)
    have by5 := (hgrow.block (w.heap.size + 1) (by simp; omega) (fun e => by have := hvb _ e.symm; omega)).trans ((Below.heap_alloc wq _ _ lyq).trans byq)
    have c5 := cell_of_one bx5
    have f5 := frozen_of_row w5 w.heap.size 0 _ _ bx5
    have g05 := World.grownBy.trans (World.grownBy.trans (⟨hbq.os, hbq.tape, hbq.output, hbq.size, fun i hi _ => hbq.block i hi⟩ : w.grownBy wq _) (World.grownBy_alloc wq (.cells #[.slice none 0 0] 24) _)) hgrow
    clear bxq byq c0q hrow
    go_wp2
    obtain ⟨w6, hw6⟩ : ∃ w6, w6 = w5.setCell ⟨w.heap.size, 0, none⟩ (.slice (some ⟨g, 0, none⟩) (n + 1) cap') := ⟨_, rfl⟩
    have g56 := grown_setCell w5 w.heap.size 0 (.slice (some ⟨g, 0, none⟩) (n + 1) cap')
    have bx6 := heap_setCell_same w5 w.heap.size 0 _ _ (.slice (some ⟨g, 0, none⟩) (n + 1) cap') bx5
    rw [← hw6] at g56 bx6 ⊢
    have bx6 : w6.heap[w.heap.size]? = some (.cells #[.slice (some ⟨g, 0, none⟩) (n + 1) cap'] 127 (0, 0)) := bx6
    have by6 := (g56.block (w.heap.size + 1) (lt_of_block by5) (by simp)).trans by5
    have hown6 := hown5.kept g56 (Or.inr (by simp [Value.ownBlock]; omega))
    have g06 := g05.andThen g56 (fun j hj => Or.inl (by injection hj with hj; omega))
    obtain ⟨cur, hcur, hle, hmx, hcl, htk, hbg⟩ := row_block hown6
    have c6 := cell_of_one bx6
    have lx6 := lt_of_block bx6
    have ly6 := lt_of_block by6
    have HTK := Lib.hid htk
    have hcl2 := Lib.hid hcl
    have hk1 : (k : Int) + 1 ≤ (n : Int) + 1 := by omega
    have hk2 : (0 : Int) ≤ (k : Int) + 1 := by omega
    have hk3 : (k : Int) ≤ (n : Int) + 1 := by omega
    have hkt : ((k : Int) + 1).toNat = k + 1 := by omega
    have hwr : IntKind.i64.wrap ((k : Int) + 1) = (k : Int) + 1 := by rw [IntKind.wrap_i64]; omega
    have hck : ¬ cap' = k := by omega
    have SL : Hid ((vs.drop k).length = Nat.min (n + 1 - k) (n - k)) := by show _ = _; rw [List.length_drop, HVN.out]; show _ = min _ _; omega
    have FIT : Hid (k + 1 + (vs.drop k).length ≤ cur.length) := by show _ ≤ _; rw [List.length_drop, HVN.out, hcl]; omega
    have ONE : Hid (∀ v, v ∈ vs.drop k → v.oneCell' = true) := (show ∀ v, _ from fun v hv => hone v (List.mem_of_mem_drop hv))
    have SRC : Hid (∀ (j : Nat) (v : Value), (vs.drop k)[j]? = some v → w6.cell? ⟨g, k + j, none⟩ = some v) := (show ∀ (j : Nat) (v : Value), _ from fun j v hv => by
      rw [cell_of_row w6 g (k + j) _ _ _ hcur, List.getElem?_toArray]
      rw [List.getElem?_drop] at hv
      have hj := (List.getElem?_eq_some_iff.1 hv).1
      have t : (cur.take (n + 1))[k + j]? = some v := by rw [htk, List.getElem?_append_left hj]; exact hv
      rw [List.getElem?_take] at t
      split at t
      · exact t
      · cases t)
    have hsq := hbq.size
    clear hw6 g56 bx5 by5 c5 f5 g05 hgrow hown5 hcl htk hbq lbq lyq
    by_cases hc : cap' = k + 1
    · subst hc
      go_region_law (refine step_copy_into rfl (.tmp 29) (.tmp 32) 127 127 rfl 24 Tryz.underlying127 Tryz.infoL1 _ _ _ _ _ _ rfl rfl g (k + 1) cur 24 hcur (vs.drop k) (by rw [List.length_drop, HVN.out]; show _ = min _ _; omega) (fun h0 => absurd h0 (by rw [List.length_drop, HVN.out]; omega)) FIT.out ONE.out ?_; intro w7 H7 g67)
      all_goals
        have g67' : w6.grownBy w7 (some g) := ⟨g67.os, g67.tape, g67.output, g67.size, g67.block⟩
        have bx7 := (g67'.block w.heap.size lx6 (by simp; omega)).trans bx6
        have by7 := (g67'.block (w.heap.size + 1) ly6 (by simp; omega)).trans by6
        have c7 := cell_of_one bx7
        have d7 := cell_of_one by7
        have f7 := frozen_of_row w7 g k _ _ H7.out
        have hkl : k < (splice cur (k + 1) (vs.drop k)).length := by rw [splice_len HVN.out hk hle hcl2.out HTK.out]; omega
        obtain ⟨y7, e7⟩ : ∃ y, w7.cell? ⟨g, k, none⟩ = some y := ⟨_, by rw [cell_of_row w7 g k _ _ _ H7.out, List.getElem?_toArray]; exact List.getElem?_eq_getElem hkl⟩
        have c8 : (w7.setCell ⟨g, k, none⟩ (.slice B m c)).cell? ⟨w.heap.size, 0, none⟩ = some (.slice (some ⟨g, 0, none⟩) (n + 1) (k + 1)) := ((grown_setCell w7 g k (.slice B m c)).cell c7 (by simp; omega))
        have g78 := grown_setCell w7 g k (.slice B m c)
        have hgv : ∀ j, some g = some j → w.heap.size ≤ j ∨ _ = some j := fun j hj => by
          injection hj with hj
          subst hj
          rcases hat with e | e
          · exact Or.inr e
          · exact Or.inl (by omega)
        have g08 := (g06.andThen g67' hgv).andThen g78 hgv
        have b8 := heap_setCell_same w7 g k _ _ (.slice B m c) H7.out
        have hk4 : (k : Int) < (n : Int) + 1 := by omega
        clear g67 g67' bx7 by7 bx6 by6 hkl
        go_wp2
        go_ret
        have row8 : (w7.setCell ⟨g, k, none⟩ (.slice B m c)).ownsRow base 24 1 (.slice (some ⟨g, 0, none⟩) (n + 1) (k + 1)) (ls.length + 1) (vs.take k ++ .slice B m c :: vs.drop k) := by
          rw [HL.out]
          refine ⟨by have := HVN.out; simp; omega, Or.inr ⟨g, (k + 1), _, rfl, hbg, b8, hle, hmx, ?_, ?_⟩⟩
          · have := splice_len HVN.out hk hle hcl2.out HTK.out
            simpa using this
          · have := splice_put (.slice B m c) HVN.out hk (by rw [hcl2.out]; exact hle) HTK.out
            simpa using this
        refine ⟨_, vs.take k ++ .slice B m c :: vs.drop k, rfl, ?_, g08, ?_, fun x hx => ?_⟩
        · rw [HIN.out]
          exact h.put ho HAP.out HOF.out g08 (by rw [HL.out]; exact hk) row8 (by rcases hat with e | e; exact Or.inl e.symm; exact Or.inr ⟨g, rfl, by omega⟩)
        · rcases hat with e | e
          · exact Or.inl e.symm
          · exact Or.inr ⟨g, rfl, by omega⟩
        · rcases List.mem_append.1 hx with hx | hx
          · exact Or.inl (List.mem_of_mem_take hx)
          · rcases List.mem_cons.1 hx with rfl | hx
            · exact Or.inr rfl
            · exact Or.inl (List.mem_of_mem_drop hx)
    · go_region_law (refine step_copy_into rfl (.tmp 29) (.tmp 32) 127 127 rfl 24 Tryz.underlying127 Tryz.infoL1 _ _ _ _ _ _ rfl rfl g (k + 1) cur 24 hcur (vs.drop k) SL.out (fun h0 => ⟨rfl, ⟨g, k, none⟩, rfl, fun j v hv => by rw [Addr.add_lit]; exact SRC.out j v hv⟩) FIT.out ONE.out ?_; intro w7 H7 g67)
      all_goals
        have g67' : w6.grownBy w7 (some g) := ⟨g67.os, g67.tape, g67.output, g67.size, g67.block⟩
        have bx7 := (g67'.block w.heap.size lx6 (by simp; omega)).trans bx6
        have by7 := (g67'.block (w.heap.size + 1) ly6 (by simp; omega)).trans by6
        have c7 := cell_of_one bx7
        have d7 := cell_of_one by7
        have f7 := frozen_of_row w7 g k _ _ H7.out
        have hkl : k < (splice cur (k + 1) (vs.drop k)).length := by rw [splice_len HVN.out hk hle hcl2.out HTK.out]; omega
        obtain ⟨y7, e7⟩ : ∃ y, w7.cell? ⟨g, k, none⟩ = some y := ⟨_, by rw [cell_of_row w7 g k _ _ _ H7.out, List.getElem?_toArray]; exact List.getElem?_eq_getElem hkl⟩
        have c8 : (w7.setCell ⟨g, k, none⟩ (.slice B m c)).cell? ⟨w.heap.size, 0, none⟩ = some (.slice (some ⟨g, 0, none⟩) (n + 1) cap') := ((grown_setCell w7 g k (.slice B m c)).cell c7 (by simp; omega))
        have g78 := grown_setCell w7 g k (.slice B m c)
        have hgv : ∀ j, some g = some j → w.heap.size ≤ j ∨ _ = some j := fun j hj => by
          injection hj with hj
          subst hj
          rcases hat with e | e
          · exact Or.inr e
          · exact Or.inl (by omega)
        have g08 := (g06.andThen g67' hgv).andThen g78 hgv
        have b8 := heap_setCell_same w7 g k _ _ (.slice B m c) H7.out
        have hk4 : (k : Int) < (n : Int) + 1 := by omega
        clear g67 g67' bx7 by7 bx6 by6 hkl
        go_wp2
        go_ret
        have row8 : (w7.setCell ⟨g, k, none⟩ (.slice B m c)).ownsRow base 24 1 (.slice (some ⟨g, 0, none⟩) (n + 1) cap') (ls.length + 1) (vs.take k ++ .slice B m c :: vs.drop k) := by
          rw [HL.out]
          refine ⟨by have := HVN.out; simp; omega, Or.inr ⟨g, cap', _, rfl, hbg, b8, hle, hmx, ?_, ?_⟩⟩
          · have := splice_len HVN.out hk hle hcl2.out HTK.out
            simpa using this
          · have := splice_put (.slice B m c) HVN.out hk (by rw [hcl2.out]; exact hle) HTK.out
            simpa using this
        refine ⟨_, vs.take k ++ .slice B m c :: vs.drop k, rfl, ?_, g08, ?_, fun x hx => ?_⟩
        · rw [HIN.out]
          exact h.put ho HAP.out HOF.out g08 (by rw [HL.out]; exact hk) row8 (by rcases hat with e | e; exact Or.inl e.symm; exact Or.inr ⟨g, rfl, by omega⟩)
        · rcases hat with e | e
          · exact Or.inl e.symm
          · exact Or.inr ⟨g, rfl, by omega⟩
        · rcases List.mem_append.1 hx with hx | hx
          · exact Or.inl (List.mem_of_mem_take hx)
          · rcases List.mem_cons.1 hx with rfl | hx
            · exact Or.inr rfl
            · exact Or.inl (List.mem_of_mem_drop hx)
end Go.Proofs.YtacegndmclnbnaaGreatDoor
