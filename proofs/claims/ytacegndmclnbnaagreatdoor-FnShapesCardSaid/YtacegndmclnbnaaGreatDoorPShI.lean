/- ParseShape of the program, walked: it hands back the shape that the text writes, or none. -/
import Derived.Test.YtacegndmclnbnaaGreatDoorPShS
import Derived.Test.YtacegndmclnbnaaGreatDoorPShM
import Derived.Test.YtacegndmclnbnaaGreatDoorFmtI
import Derived.Test.YtacegndmclnbnaaGreatDoorRows
import Derived.Shelf.Vars
namespace Go.Proofs.YtacegndmclnbnaaGreatDoor
open Go.RowKit
set_option linter.unusedVariables false

theorem splitS_rows (s : ByteArray) : (Lib.splitB ⟨#[47]⟩ 0 (Lib.countB s ⟨#[47]⟩) s).map (·.data.toList) = rowsOf s.data.toList := by
  rw [Lib.splitB_data]
  have e : Lib.countB s ⟨#[47]⟩ = s.data.toList.count 47 := Lib.count_one 47 s.data.toList
  rw [e]
  exact split_rows _
theorem splitS_cell {w : World} {S : List ByteArray} {k : Nat} {r : ByteArray} {t : TypeId} (h : S[k]? = some r) : (w.alloc (.cells (S.map Value.string).toArray t)).cell? ⟨w.heap.size, k, none⟩ = some (.string r) := by
  simp only [World.cell?, heap_alloc_new, List.getElem?_toArray, List.getElem?_map, h, Option.map_some]
  rfl
set_option maxRecDepth 20000 in
set_option maxHeartbeats 3200000 in
theorem implParseShape (s : ByteArray) (m : Int) (W : World) (hs : s.size ≤ 1048576) (hm : W.cell? ⟨0, 0, none⟩ = some (.int .i64 m)) :
    Calls Tryz.prog 8 #[.string s] W (OwnPost2 W (pshR s.data.toList)) := by
  obtain ⟨i0, hi, hz0, hz1, hz2⟩ := info_parts Tryz.infoC
  have C0 := Tryz.strings_Split s ⟨#[47]⟩ m W (by omega) hm (by decide)
  have hSm := splitS_rows s
  have hSl := Lib.splitB_all ⟨#[47]⟩ (by decide) 0 _ s rfl
  rw [← hSl] at C0
  clear hSl
  revert C0 hSm
  generalize Lib.splitB ⟨#[47]⟩ 0 (Lib.countB s ⟨#[47]⟩) s = S
  intro C0 hSm
  have hl : s.data.toList.length = s.size := by simp
  obtain ⟨hrs, hSs⟩ := row_size hSm
  rw [hl] at hrs hSs
  obtain ⟨n, hn⟩ : ∃ n, n = S.length := ⟨_, rfl⟩
  rw [← hn] at C0 hSs
  have HS := Lib.hid hn
  clear hn
  have hcell : ∀ (k : Nat) (r : ByteArray), S[k]? = some r → (W.alloc (.cells (S.map Value.string).toArray 9)).cell? ⟨W.heap.size, k, none⟩ = some (.string r) := fun k r h => splitS_cell h
  have hb0 := below_alloc W (.cells (S.map Value.string).toArray 9)
  have hw2 : W.heap.size < (W.alloc (.cells (S.map Value.string).toArray 9)).heap.size := by simp
  revert C0 hcell hb0 hw2
  generalize W.alloc (.cells (S.map Value.string).toArray 9) = w2
  intro C0 hcell hb0 hw2
  go_enter Tryz.func8, Tryz.ntmps8
  go_wp2_with fail
  refine C0.mono ?_
  rintro e w' ⟨rfl, rfl⟩
  clear C0
  go_wp2
  go_loopw [4, 5, 6, 7, 11] (fun v _ _ _ i wr => ∃ (k : Nat) (O : List C), k ≤ n ∧ i = .int .i64 k ∧ Hid ((O, 0, (k : Int)) = preadI (flatR S k)) ∧ wr.ownsRow w'.heap.size 50 2 v O.length (flat O) ∧ Below w'.heap.size w' wr) (fun _ _ _ _ i _ => n - (intOf i).toNat)
  case atStart => exact ⟨0, [], Nat.zero_le _, rfl, rfl, World.ownsRow_nil _ _ _ _, Below.refl _ _⟩
  case round =>
    obtain ⟨k, O, hk, rfl, HO, hown, hb⟩ := hrel
    by_cases hlt : k < n
    · obtain ⟨r, hr⟩ : ∃ r, S[k]? = some r := ⟨_, List.getElem?_eq_getElem (by have := HS.out; omega)⟩
      have c0 := hcell k r hr
      have c1 : wr.cell? ⟨W.heap.size, k, none⟩ = some (.string r) := by
        rw [← c0]
        have := hb.block W.heap.size hw2
        simp only [World.cell?, this]
      clear c0
      have hrz := hrs k r hr
      have HB := Lib.hid fun x hx => row_byte hSm hr (x := x) hx
      have HN := Lib.hid (flatR_next hr)
      have HO' : Hid ((O, ((0 : Nat) : Int), (k : Int)) = preadI (flatR S k ++ r.data.toList.take 0)) := by show _ = _; rw [List.take_zero, List.append_nil]; exact HO.out
      clear hr HO hcell hSm hrs
      go_wp2
      go_loopw [4, 7] (fun v x wq => ∃ (j : Nat) (P : List C), j ≤ r.size ∧ x = .int .i64 j ∧ Hid ((P, (j : Int), (k : Int)) = preadI (flatR S k ++ r.data.toList.take j)) ∧ wq.ownsRow w'.heap.size 50 2 v P.length (flat P) ∧ Below w'.heap.size w' wq) (fun _ x _ => r.size - (intOf x).toNat)
      case atStart => exact ⟨0, O, Nat.zero_le _, rfl, HO', hown, hb⟩
      case round =>
        clear hown hb c1 HO'
        obtain ⟨j, P, hj, rfl, HP, hown, hb⟩ := hrel
        have hP9 := preadI_short (flatR S k ++ r.data.toList.take j)
        rw [← HP.out] at hP9
        simp only at hP9
        obtain ⟨Ap, capp, rfl, _, _⟩ := Own.form (cs := P) hown
        by_cases hjr : j < r.size
        · have h47 := HB.out j hjr
          have HX := preadI_row (l := flatR S k) hjr
          rw [← HP.out] at HX
          by_cases e35 : r[j] = 35
          · have t35 : r[j].toNat = 35 := by rw [e35]; rfl
            by_cases h8 : P.length ≤ 8
            · have HX2 : Hid ((P ++ [((j : Int), (k : Int))], ((j + 1 : Nat) : Int), (k : Int)) = preadI (flatR S k ++ r.data.toList.take (j + 1))) := by show _ = _; rw [HX]; simp [pstepI, e35, h8]
              clear HX h47 e35
              have hsz := hb.size
              go_wp2_with (at_builtin; refine wpList_append_own _ rfl _ _ 24 rfl w'.heap.size 50 i0 (.agg #[.int .i64 0, .int .i64 0]) 2 16 Tryz.underlying24 hi hz0 hz1 hz2 rfl (by decide) _ _ _ rfl (hown.alloc _) ⟨wr.heap.size, 0, none⟩ 1 1 (flat [((j : Int), (k : Int))]) rfl rfl ?c1 ?c2 ?c3 ?c4 ?c5 ?_)
              case c1 => exact World.news_of_block (cs := #[.int .i64 (j : Int), .int .i64 (k : Int)]) (heap_alloc_new wr _)
              case c2 => exact flat_one
              case c3 => unfold maxLen; omega
              case c4 => omega
              case c5 => simp; omega
              intro v' w1 hown1 hgrow _
              have R1 := (hb.alloc hsz (.cells #[.int .i64 (j : Int), .int .i64 (k : Int)] 50)).grown hgrow (by simp; omega) (fun z hz => (hown.lt z hz).1)
              have hown2 : w1.ownsRow w'.heap.size 50 2 v' (P ++ [((j : Int), (k : Int))]).length (flat (P ++ [((j : Int), (k : Int))])) := by rw [flat_append, List.length_append]; exact hown1
              clear hown hgrow hown1
              go_wp2
              go_roundw
              case rel => exact ⟨j + 1, P ++ [((j : Int), (k : Int))], by omega, by go_num, HX2, hown2, R1⟩
              case measure => simp [intOf]; omega
            · have HX2 : Hid ((P, ((j + 1 : Nat) : Int), (k : Int)) = preadI (flatR S k ++ r.data.toList.take (j + 1))) := by show _ = _; rw [HX]; simp [pstepI, e35, h8]
              clear HX h47 e35
              have h8' : ¬ (P.length : Int) ≤ 8 := by omega
              go_wp2
              go_roundw
              case rel => exact ⟨j + 1, P, by omega, by go_num, HX2, hown, hb⟩
              case measure => simp [intOf]; omega
          · have n35 : ((r[j].toNat : Int) == 35) = false := by
              have : r[j].toNat ≠ 35 := fun e => e35 (UInt8.toNat_inj.1 e)
              simp; omega
            have HX2 : Hid ((P, ((j + 1 : Nat) : Int), (k : Int)) = preadI (flatR S k ++ r.data.toList.take (j + 1))) := by show _ = _; rw [HX]; simp [pstepI, e35, h47]
            clear HX h47 e35
            go_wp2
            go_roundw
            case rel => exact ⟨j + 1, P, by omega, by go_num, HX2, hown, hb⟩
            case measure => simp [intOf]; omega
        · have hjr' : j = r.size := by omega
          have HE : Hid ((P, 0, ((k + 1 : Nat) : Int)) = preadI (flatR S (k + 1))) := by
            show _ = _
            have e := HP.out
            rw [hjr', show r.size = r.data.toList.length by simp, List.take_length] at e
            rw [HN.out, ← List.append_assoc, preadI_one, ← e]
            simp [pstepI]
          clear HP
          go_wp2
          go_roundw
          case rel => exact ⟨k + 1, P, by omega, by go_num, HE, hown, hb⟩
          case measure => simp [intOf]; omega
    · have hX := psh_rows s.data.toList (O := O) (by
        have hkn : k = S.length := by have := HS.out; omega
        have e := HO.out
        rw [hkn, flatR_end hSm] at e
        rw [← e])
      have hO9 := preadI_short (flatR S k)
      rw [← HO.out] at hO9
      simp only at hO9
      obtain ⟨A', cap', rfl, _, _⟩ := Own.form (cs := O) hown
      have hcell9 := own_cells (cs := O) hown
      have C := implFormatShape A' O.length cap' O wr (by omega) hcell9
      have hsz := hb.size
      have hB := hb0.trans (hb.mono hb0.size)
      have hown' : Own wr W.heap.size (.slice A' O.length cap') O := Own.mono hown hb0.size
      obtain ⟨tt, htt⟩ : ∃ tt : ByteArray, tt = ⟨(fmt (cornerShape O)).toArray⟩ := ⟨_, rfl⟩
      rw [← htt] at C
      have hiff : tt = s ↔ fmt (cornerShape O) = s.data.toList := by
        rw [htt]
        constructor
        · rintro rfl; rfl
        · intro e; rw [e]
      have hnil : s.data.toList = [] ↔ s.size = 0 := by rw [← List.length_eq_zero_iff, hl]
      clear htt hcell9 HO hcell hSm hrs hown hb
      by_cases h0 : s.size = 0
      · have HP := Lib.hid (pshR_none (l := s.data.toList) (by rw [hX, if_neg (fun e => e.1 (hnil.2 h0))]))
        obtain rfl : s = ⟨#[]⟩ := by
          have := hnil.2 h0
          exact ByteArray.ext (Array.ext' this)
        clear hX hiff hnil C
        go_wp2
        go_ret2
        exact ⟨_, by rw [HP.out]; rfl, by rw [HP.out]; exact Own.nil _ _, hB⟩
      · have hne : s.toList.isEmpty = false := by
          rw [ByteArray.toList_eq]
          exact List.isEmpty_eq_false_iff.2 fun e => h0 (hnil.1 e)
        by_cases heq : tt = s
        · have HP := Lib.hid (pshR_some (l := s.data.toList) (cs := O) (by rw [hX, if_pos ⟨fun e => h0 (hnil.1 e), hiff.1 heq⟩]))
          clear hX hiff hnil
          subst heq
          go_wp2_with (go_at_call 7; refine C.mono ?_; rintro e w9 ⟨rfl, k9⟩)
          go_ret2
          exact ⟨_, by rw [HP.out]; rfl, by rw [HP.out]; exact hown'.below k9, hB.trans (k9.mono hB.size)⟩
        · have HP := Lib.hid (pshR_none (l := s.data.toList) (by rw [hX, if_neg (fun e => heq (hiff.2 e.2))]))
          have heq' : (tt.toList == s.toList) = false := by
            rw [ByteArray.toList_eq, ByteArray.toList_eq]
            exact beq_eq_false_iff_ne.2 fun e => heq (ByteArray.ext (Array.ext' e))
          clear hX hiff hnil heq
          go_wp2_with (go_at_call 7; refine C.mono ?_; rintro e w9 ⟨rfl, k9⟩)
          go_ret2
          exact ⟨_, by rw [HP.out]; rfl, by rw [HP.out]; exact Own.nil _ _, hB.trans (k9.mono hB.size)⟩

theorem maxLenCell {W : World} (h : W.ShapedOpen Tryz.prog) : ∃ m : Int, W.cell? ⟨0, 0, none⟩ = some (.int .i64 m) :=
  Go.Proofs.cell_of_shapedOpen_int (P := Tryz.prog) (g := 0) (t := 3) (zero := #[.int .i64 0]) h (of_decide_eq_true (by kernel_rfl)) (by kernel_rfl) rfl (by kernel_rfl) (by kernel_rfl) Tryz.underlying3
theorem cell_keep {W w : World} {a : Addr} {v : Value} (h : W.cell? a = some v) (hb : Below W.heap.size W w) : w.cell? a = some v := by
  have hk := World.block_lt_of_cell? _ _ h
  have := hb.block a.block hk
  simpa only [World.cell?, this] using h
theorem pshR_len (l : List UInt8) : (pshR l).1.length ≤ 9 := by
  unfold pshR
  rw [← psh_I]
  split
  · exact preadI_short l
  · simp
end Go.Proofs.YtacegndmclnbnaaGreatDoor
