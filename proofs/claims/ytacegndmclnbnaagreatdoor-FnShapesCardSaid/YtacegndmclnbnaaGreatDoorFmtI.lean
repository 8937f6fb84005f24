/- FormatShape of the program, walked: it writes the shape's cells, from the corner. -/
import Derived.Test.YtacegndmclnbnaaGreatDoorFmtS
import Derived.Test.YtacegndmclnbnaaGreatDoorHangs
import Derived.Lib.Repeat
import Derived.Test.YtacegndmclnbnaaGreatDoorTail
namespace Go.Proofs.YtacegndmclnbnaaGreatDoor
open Go.RowKit
set_option linter.unusedVariables false

def strsV (R : List (List UInt8)) : List Value := R.map fun l => .string ⟨l.toArray⟩
theorem strsV_set (R : List (List UInt8)) (j : Nat) (l : List UInt8) : (strsV R).set j (.string ⟨l.toArray⟩) = strsV (R.set j l) := by simp [strsV, List.map_set]
theorem strsV_get {R : List (List UInt8)} {j : Nat} (h : j < R.length) : (strsV R)[j]? = some (.string ⟨(R.getD j []).toArray⟩) := by simp [strsV, h]
theorem Tryz.infoSt : (Tryz.prog.info? 9).map (fun i => (i.zero, i.size, i.bytes)) = some (some (.string ⟨#[]⟩), 1, 16) := by kernel_rfl
theorem strsV_made (n : Nat) : (madeCells #[.string ⟨#[]⟩] n).toList = strsV (List.replicate n []) := by
  apply List.ext_getElem?
  intro j
  by_cases hj : j < n
  · simp [madeCells, strsV, hj, Nat.mod_one]
  · rw [List.getElem?_eq_none (by simp [madeCells]; omega), List.getElem?_eq_none (by simp [strsV]; omega)]
theorem repeat_dots (c : Nat) : Lib.repeatL [46] c = List.replicate c 46 := by
  induction c with
  | zero => rfl
  | succ c ih => rw [Lib.repeatL, ih]; rfl
/-- the rows up to the cell k -/
def FmtAt (h : Int) (L : List C) (k : Nat) (R : List (List UInt8)) : Prop :=
  (L = [] ∧ R = []) ∨ ∃ x y : Int, 0 ≤ x ∧ x ≤ 8 ∧ 0 ≤ y ∧ y ≤ 7 ∧ RowsTo h (fmt L) x y (L.drop k) R ∧ okL h x y (L.drop k)
theorem fmtAt_start {cs : List C} : FmtAt (extOf (·.2) (cornerShape cs)) (cornerShape cs) 0 (List.replicate (extOf (·.2) (cornerShape cs)).toNat []) := by
  unfold cornerShape
  by_cases h : isShape cs = true
  · rw [if_pos h]
    have hok := okL_shape h
    refine Or.inr ⟨0, 0, by omega, by omega, by omega, by omega, rows_start ?_ _, hok⟩
    have hb := smallL_corner h
    have hl := shape_len h
    rw [← cornerC_length] at hl
    revert hok hb hl
    cases cornerC cs with
    | nil => intro _ _ hl; simp at hl
    | cons c r =>
      intro hok hb _
      have := hok.2.2.2.2.2.1
      have := hb c (List.mem_cons_self ..)
      omega
  · rw [if_neg h]
    exact Or.inl ⟨rfl, rfl⟩
theorem fmtAt_step {h : Int} {L : List C} {k : Nat} {R : List (List UInt8)} {c : C} (hF : FmtAt h L k R) (hc : L[k]? = some c) :
    (R.length : Int) = h ∧ 0 ≤ c.1 ∧ c.1 ≤ 7 ∧ 0 ≤ c.2 ∧ c.2 < h ∧ ((R.getD c.2.toNat []).length : Int) ≤ c.1 ∧ FmtAt h L (k + 1) (rstep R c) := by
  rcases hF with ⟨rfl, _⟩ | ⟨x, y, hx0, hx8, hy0, hy7, hR, ho⟩
  · simp at hc
  · rw [drop_next hc] at hR ho
    obtain ⟨h1, h2, h3⟩ := rows_at hR ho hy0
    have hs := rows_step hR ho hy0
    obtain ⟨_, b1, b2, b3, b4, b5, ho'⟩ := ho
    exact ⟨h1, b1, b2, b3, b5, h3, Or.inr ⟨c.1 + 1, c.2, by omega, by omega, b3, b4, hs, ho'⟩⟩
theorem fmtAt_end {h : Int} {L : List C} {k : Nat} {R : List (List UInt8)} (hF : FmtAt h L k R) (hk : L.length ≤ k) : Lib.join R [47] = fmt L := by
  rcases hF with ⟨rfl, rfl⟩ | ⟨x, y, _, _, _, _, hR, ho⟩
  · rfl
  · rw [List.drop_eq_nil_of_le hk] at hR ho
    exact rows_end hR ho
theorem fmt_len (cs : List C) : (fmt (cornerShape cs)).length ≤ 128 := by
  obtain ⟨h, ho⟩ := corner_ok cs
  have h1 := fmtL_len h _ 0 0 (by omega) (by omega) (by omega) ho
  have h2 := corner_short cs
  unfold fmt
  omega
theorem ext_range (cs : List C) : 0 ≤ extOf (·.2) (cornerShape cs) ∧ extOf (·.2) (cornerShape cs) ≤ 8 := by
  have hb := cornerShape_cells cs
  unfold extOf
  have aux : ∀ (l : List C) (m : Int), (∀ c, c ∈ l → 0 ≤ c.1 ∧ c.1 ≤ 7 ∧ 0 ≤ c.2 ∧ c.2 ≤ 7) → 0 ≤ m → m ≤ 8 → 0 ≤ l.foldl (fun m c => max m (c.2 + 1)) m ∧ l.foldl (fun m c => max m (c.2 + 1)) m ≤ 8 := by
    intro l
    induction l with
    | nil => intro m _ h0 h8; exact ⟨h0, h8⟩
    | cons c r ih =>
      intro m h h0 h8
      have := h c (List.mem_cons_self ..)
      rw [List.foldl_cons]
      exact ih _ (fun d hd => h d (List.mem_cons_of_mem _ hd)) (by omega) (by omega)
  exact aux _ 0 hb (by omega) (by omega)
theorem below_none {w w' : World} (hb : Below w.heap.size w w') : w.grownBy w' none := ⟨hb.os, hb.tape, hb.output, hb.size, fun k hk _ => hb.block k hk⟩
set_option maxRecDepth 20000 in
set_option maxHeartbeats 3200000 in
theorem implFormatShape (A : Option Addr) (n cap : Nat) (cs : List C) (w : World) (hn : n ≤ 1048576) (h : CellsAt w A n cs) :
    Calls Tryz.prog 7 #[.slice A n cap] w fun e w' => e = .returned (.string ⟨(fmt (cornerShape cs)).toArray⟩) ∧ Below w.heap.size w w' := by
  obtain ⟨i0, hi, hz0, hz1, hz2⟩ := info_parts Tryz.infoSt
  have hcs := implCornerShape A n cap cs w hn h
  have hst := fmtAt_start (cs := cs)
  have hfl := fmt_len cs
  have hex := ext_range cs
  have hsh := corner_short cs
  have hbd := cornerShape_cells cs
  obtain ⟨L, hL⟩ : ∃ L, L = cornerShape cs := ⟨_, rfl⟩
  rw [← hL] at hcs hst hfl hex hsh hbd ⊢
  clear hL h
  obtain ⟨m, hm⟩ : ∃ m : Nat, extOf (·.2) L = m := ⟨(extOf (·.2) L).toNat, by omega⟩
  have EXT := fun A' c' w' (hc : CellsAt w' A' L.length L) => implExtent A' L.length c' L w' hbd (by omega) hc
  simp only [hm] at EXT hst hex
  rw [Int.toNat_natCast] at hst
  have HST := Lib.hid hst
  clear hst hm hbd
  obtain ⟨X, hX⟩ : ∃ X, X = extOf (·.1) L := ⟨_, rfl⟩
  simp only [← hX] at EXT
  clear hX
  have hm8 : m ≤ 8 := by omega
  go_enter Tryz.func7, Tryz.ntmps7
  go_wp2_with fail
  refine hcs.mono ?_
  rintro e w1 ⟨v, rfl, hO, hb⟩
  obtain ⟨A', cap', rfl, _, _⟩ := hO.form
  have hcell := own_cells hO
  clear hO hcs
  go_wp2_with fail
  refine (EXT A' cap' w1 hcell).mono ?_
  rintro e w2 ⟨rfl, hb2⟩
  have hcell2 := hcell.below hb2
  have hB2 := hb.trans (hb2.mono hb.size)
  clear hcell EXT hb2 hb
  go_wp2_with (at_make; refine wpList_make_full _ rfl _ _ 48 rfl w2.heap.size 9 i0 (.string ⟨#[]⟩) 1 Tryz.underlying48 hi hz0 hz1 .i64 .i64 m m m rfl rfl rfl rfl ?c1 ?c2 (Nat.le_refl _) ?_)
  case c1 => rw [hz2]; omega
  case c2 => unfold maxLen; omega
  intro w3 hown hgrow
  have hb3 : Below w2.heap.size w2 w3 := (Below.refl _ _).grown hgrow (Nat.le_refl _) (fun _ h => by cases h)
  rw [strsV_made] at hown
  have hw2 := hB2.size
  clear hgrow
  go_wp2
  go_loopw [8, 20] (fun _ i wr => ∃ (k : Nat) (R : List (List UInt8)), k ≤ L.length ∧ i = .int .i64 k ∧ Hid (FmtAt m L k R) ∧ R.length = m ∧ wr.ownsRow w2.heap.size 9 1 (.slice (some ⟨w2.heap.size, 0, none⟩) m m) m (strsV R) ∧ Below w2.heap.size w2 wr) (fun _ i _ => L.length - (intOf i).toNat)
  case atStart => exact ⟨0, List.replicate m [], Nat.zero_le _, rfl, HST.out, by simp, hown, hb3⟩
  case round =>
    clear hown HST hb3
    obtain ⟨k, R, hk, rfl, HF, hRm, hown, hB⟩ := hrel
    by_cases hlt : k < L.length
    · obtain ⟨g, o, p, q, rfl, hbl, HC, c1, c2⟩ := (hcell2.below hB).at_ hlt
      obtain ⟨h1, hp0, hp7, hq0, hqh, hrl, hF⟩ := fmtAt_step HF.out HC.out
      simp only at h1 hp0 hp7 hq0 hqh hrl
      obtain ⟨j, rfl⟩ : ∃ j : Nat, q = j := ⟨q.toNat, by omega⟩
      have hjm : j < m := by omega
      unfold rstep at hF
      simp only [Int.toNat_natCast] at hrl hF
      have hrow := strsV_get (R := R) (j := j) (by omega)
      obtain ⟨r, hr⟩ : ∃ r, r = R.getD j [] := ⟨_, rfl⟩
      rw [← hr] at hrow hrl hF
      clear hr
      obtain ⟨d, hd⟩ : ∃ d : Nat, p - (r.length : Int) = d := ⟨(p - (r.length : Int)).toNat, by omega⟩
      rw [hd, Int.toNat_natCast] at hF
      have HFN := Lib.hid hF
      have hrl7 : r.length ≤ 7 := by omega
      clear hF HF HC hp0 h1 hqh hq0
      have x0 := later_box (w := wr) (t := 50) (show (#[Value.int .i64 p, .int .i64 (j : Int)] : Array Value)[0]? = some (.int .i64 p) from rfl)
      have x1 := later_box (w := wr) (t := 50) (show (#[Value.int .i64 p, .int .i64 (j : Int)] : Array Value)[1]? = some (.int .i64 (j : Int)) from rfl)
      have hown1 := hown.alloc (.cells #[.int .i64 p, .int .i64 (j : Int)] 50)
      have hltg := (hown1.lt _ rfl).2
      have d0 := later_cell hltg ((World.ownsRow.cellAt hown1 j (by omega)).trans hrow)
      have hwr := below_alloc wr (.cells #[.int .i64 p, .int .i64 (j : Int)] 50)
      have hBq := hB.trans (hwr.mono hB.size)
      obtain ⟨Dl, hDl⟩ : ∃ Dl, Dl = List.replicate d (46 : UInt8) := ⟨_, rfl⟩
      have REP := fun w' => Tryz.strings_Repeat ⟨#[46]⟩ d w' (by omega) (by show 1 * d ≤ _; omega)
      have hrd : Lib.repeatL (⟨#[46]⟩ : ByteArray).data.toList d = Dl := by rw [hDl]; exact repeat_dots d
      simp only [hrd] at REP
      have hDl8 : Dl.length ≤ 8 := by rw [hDl]; simp; omega
      rw [← hDl] at HFN
      clear hDl hrd
      have HA1 := fun W => add_byte3 W Dl 35 (by omega)
      have HA2 := fun W => add_strs3 W r (Dl ++ [35]) (by simp; omega)
      obtain ⟨nw, hnw⟩ : ∃ nw, nw = r ++ (Dl ++ [35]) := ⟨_, rfl⟩
      rw [← hnw] at HFN
      simp only [← hnw] at HA2
      have hwrap : IntKind.i64.wrap (p - (r.length : Int)) = (d : Int) := by rw [IntKind.wrap_i64]; omega
      have hji : (j : Int) < (m : Int) := by omega
      clear hnw hB hown hrow hwr
      go_wp2
      refine wp_region_later_tail 18 (by kernel_rfl) (by kernel_rfl) ?_
      simp only [List.take_succ_cons, List.take_zero, List.drop_succ_cons, List.drop_zero]
      (repeat (go_big_quiet_step ((go_at_call 41; exact Calls.later (REP _)))))
      refine wpQuiet_nil ?_
      rintro wq ⟨xq, hxq⟩
      have hq := later_below hxq
      clear hxq xq x0 x1 d0
      have hownz := hown1.kept (below_none hq) (Or.inr (by simp [Value.ownBlock]))
      have hBz := hBq.trans (hq.mono hBq.size)
      have fz := World.ownsRow.frozenAt hownz j
      obtain ⟨uz, dz⟩ := row_cell hownz (j := j) (by omega)
      have hst := (hownz.stored j (.string ⟨nw.toArray⟩)).1
      rw [strsV_set] at hst
      have hBs := hBz.setCell (p := ⟨w2.heap.size, j, none⟩) (Nat.le_refl _) (.string ⟨nw.toArray⟩)
      clear hownz hBz hq hown1 hBq
      go_wp2
      go_roundw
      case rel => exact ⟨k + 1, _, by omega, by go_num, HFN.out, by simp; omega, hst, hBs⟩
      case measure => simp [intOf]; omega
    · have hj := fmtAt_end HF.out (by omega)
      have hcells : ∀ (j : Nat) (x : ByteArray), (R.map fun l => (⟨l.toArray⟩ : ByteArray))[j]? = some x → wr.cell? ⟨w2.heap.size, 0 + j, none⟩ = some (.string x) := by
        intro j x hx
        have hjl : j < R.length := by
          have := (List.getElem?_eq_some_iff.1 hx).1
          simpa using this
        rw [Nat.zero_add, World.ownsRow.cellAt hown j (by omega)]
        simp only [strsV, List.getElem?_map, List.getElem?_eq_getElem hjl, Option.map_some] at hx ⊢
        rw [← Option.some.inj hx]
      have hmm : (R.map fun l => (⟨l.toArray⟩ : ByteArray)).map (·.data.toList) = R := by
        rw [List.map_map]
        conv => rhs; rw [← List.map_id R]
        exact List.map_congr_left fun l _ => rfl
      have hsep : (⟨#[47]⟩ : ByteArray).data.toList = [47] := rfl
      have hJ := Tryz.strings_Join w2.heap.size 0 m (R.map fun l => ⟨l.toArray⟩) ⟨#[47]⟩ wr hcells (hown.lt _ rfl).2 (by simp; omega) (by simp; omega) (by rw [hmm, hsep, hj]; omega)
      rw [hmm, hsep, hj, List.length_map, hRm] at hJ
      have hBw := hB2.trans (hB.mono hB2.size)
      clear hcells hmm hsep hj hown hB hcell2 hB2 HF
      go_wp2_with fail
      refine hJ.mono ?_
      rintro e wj ⟨rfl, bj⟩
      clear hJ
      go_wp2
      go_ret
      exact ⟨rfl, hBw.trans (bj.mono hBw.size)⟩
end Go.Proofs.YtacegndmclnbnaaGreatDoor
