/- The two hexadecimal encoders return the same string, for every string of at most 2^20 bytes: contracts of both, no further condition. -/
import Derived.Test.YtacegndmclnbnaaDoorRows
import Derived.WalkKit
import Derived.WalkSpells
import Derived.WalkLawsBesides
import Derived.StillTailTactics
import Derived.BigQuiet
import Derived.Deep.QuietTactic
import Derived.Lib.Hide
import Derived.Deep.RegionHeld3
import Derived.Deep.AppendLies
namespace Go.Proofs.YtacegndmclnbnaaDoor
open Go.RowKit

def hexd (n : Nat) : UInt8 := UInt8.ofNat (if n < 10 then 48 + n else 87 + n)
def hexL : List UInt8 → List UInt8
  | [] => []
  | b :: r => hexd (b.toNat / 16) :: hexd (b.toNat % 16) :: hexL r
theorem hexL_append (l m : List UInt8) : hexL (l ++ m) = hexL l ++ hexL m := by
  induction l with
  | nil => rfl
  | cons b r ih => simp [hexL, ih]
theorem hexL_length (l : List UInt8) : (hexL l).length = 2 * l.length := by
  induction l with
  | nil => rfl
  | cons b r ih => simp [hexL, ih]; omega
theorem take_snoc (s : ByteArray) (k : Nat) (h : k < s.size) : s.data.toList.take (k + 1) = s.data.toList.take k ++ [s[k]] := by
  rw [List.take_succ_eq_append_getElem (by simpa using h)]; rfl
theorem hexL_take (s : ByteArray) (k : Nat) (h : k < s.size) : hexL (s.data.toList.take (k + 1)) = hexL (s.data.toList.take k) ++ [hexd (s[k].toNat / 16), hexd (s[k].toNat % 16)] := by
  rw [take_snoc s k h, hexL_append]; rfl

theorem digits_at : ∀ k (h : k < 16), ((⟨#[48, 49, 50, 51, 52, 53, 54, 55, 56, 57, 97, 98, 99, 100, 101, 102]⟩ : ByteArray)[k]'h) = hexd k := by
  intro k h
  have : ∀ k : Fin 16, ((⟨#[48, 49, 50, 51, 52, 53, 54, 55, 56, 57, 97, 98, 99, 100, 101, 102]⟩ : ByteArray)[k.1]'k.2) = hexd k.1 := by decide
  exact this ⟨k, h⟩

def bcells (l : List UInt8) : List Value := l.map fun b => .int .u8 (b.toNat : Int)
theorem bcells_append (l m : List UInt8) : bcells (l ++ m) = bcells l ++ bcells m := List.map_append

theorem ret_int {k : IntKind} {a b : Int} (h : a = b) : Ending.returned (.int k a) = .returned (.int k b) := by rw [h]

theorem Tryd.info5 : (Tryd.prog.info? 5).map (fun i => (i.zero, i.size, i.bytes)) = some (some (.int .u8 0), 1, 1) := by kernel_rfl


/-- what the bytes of a slice that the call owns become as a string -/
theorem string_of_own {w : World} {base e : Nat} {v : Value} {n : Nat} {l : List UInt8} (h : w.ownsRow base e 1 v n (bcells l)) {P : Program} {src dst : TypeId} (hs : P.underlying src = some (.slice e)) (he : P.underlying e = some (.int .u8)) (hd : P.underlying dst = some .string) :
    (convert src dst v).run P w = .ok (.string ⟨l.toArray⟩) w := by
  have hn : l.length = n := by simpa [bcells] using h.1
  rcases h.2 with ⟨rfl, rfl⟩ | ⟨g, cap, cur, rfl, _, hg, _⟩
  · have : l = [] := List.eq_nil_of_length_eq_zero hn
    subst this
    rw [run_convert_bytes_string w src dst e none 0 0 hs he hd]
    rfl
  · subst hn
    refine run_convert_bytes_back w src dst e _ cap l hs he hd fun j hj => ?_
    exact h.cells (g := g) rfl j _ (by simp [bcells, hj])

theorem run_digit (n : Nat) (h : n < 16) (W : World) : (Instr.index 9 (.string ⟨#[48, 49, 50, 51, 52, 53, 54, 55, 56, 57, 97, 98, 99, 100, 101, 102]⟩) (.int .u8 (n : Int))).run Tryd.prog W = .ok (.int .u8 ((hexd n).toNat : Int)) W := by
  have h2 : n < (⟨#[48, 49, 50, 51, 52, 53, 54, 55, 56, 57, 97, 98, 99, 100, 101, 102]⟩ : ByteArray).size := h
  rw [← digits_at n h]
  have h3 : (n : Int) < 16 := by omega
  go_simp
theorem run_digit_hi (x : UInt8) (W : World) : (Instr.index 9 (.string ⟨#[48, 49, 50, 51, 52, 53, 54, 55, 56, 57, 97, 98, 99, 100, 101, 102]⟩) (.int .u8 ((x.toNat : Int) / 16))).run Tryd.prog W = .ok (.int .u8 ((hexd (x.toNat / 16)).toNat : Int)) W := by
  have hx := x.toNat_lt
  exact run_digit (x.toNat / 16) (by omega) W
theorem bits_and_15 (x : UInt8) : bits .and .u8 (x.toNat : Int) 15 = ((x.toNat % 16 : Nat) : Int) := by
  have h : ∀ n : Fin 256, bits .and .u8 ((n.1 : Nat) : Int) 15 = ((n.1 % 16 : Nat) : Int) := by decide +kernel
  exact h ⟨x.toNat, x.toNat_lt⟩
theorem run_digit_lo (x : UInt8) (W : World) : (Instr.index 9 (.string ⟨#[48, 49, 50, 51, 52, 53, 54, 55, 56, 57, 97, 98, 99, 100, 101, 102]⟩) (.int .u8 (bits .and .u8 (x.toNat : Int) 15))).run Tryd.prog W = .ok (.int .u8 ((hexd (x.toNat % 16)).toNat : Int)) W := by
  rw [bits_and_15]
  exact run_digit (x.toNat % 16) (by omega) W

theorem below_append {B : Nat} {w wr w1 : World} {o : Obj} {v : Value} {e sz n : Nat} {xs : List Value} (hb : Below B w wr) (hown : wr.ownsRow B e sz v n xs) (hB : B ≤ wr.heap.size)
    (hgrow : ((wr.alloc o).drew).grownBy w1 v.ownBlock) : Below B w w1 :=
  ((hb.alloc hB o).drew).grown hgrow (by simp; omega) (fun k hk => (hown.lt k hk).1)

set_option maxHeartbeats 400000 in
theorem implEncodeHex (s : ByteArray) (w : World) (hs : s.size ≤ 1048576) :
    Calls Tryd.prog 26 #[.string s] w fun e w' => e = .returned (.string ⟨(hexL s.data.toList).toArray⟩) ∧ Below w.heap.size w w' := by
  obtain ⟨i0, hi, hz0, hz1, hz2⟩ := info_parts Tryd.info5
  go_enter Tryd.func26, Tryd.ntmps26
  go_wp2
  go_loopw [3, 4] (fun v i wr => ∃ k : Nat, k ≤ s.size ∧ i = .int .i64 k ∧ wr.ownsRow w.heap.size 5 1 v (2 * k) (bcells (hexL (s.data.toList.take k))) ∧ Below w.heap.size w wr) (fun _ i _ => s.size - (intOf i).toNat)
  case atStart => exact ⟨0, Nat.zero_le _, rfl, World.ownsRow_nil _ _ _ _, Below.refl _ _⟩
  case round =>
    obtain ⟨k, hk, rfl, hown, hb⟩ := hrel
    by_cases hlt : k < s.size
    · have b0 : (0 : Int) ≤ (k : Int) := Int.natCast_nonneg _
      have b1 : (k : Int) < (s.size : Int) := by omega
      have hsz := hb.size
      have d1 := run_digit_hi s[k]
      have d2 := run_digit_lo s[k]
      go_wp2
      go_region_held3 (fun _ => True) (exact trivial) ((refine step_append_lies _ (by rfl) _ _ _ (by rfl) w.heap.size 5 i0 (.int .u8 0) 1 1 Tryd.underlying32 hi hz0 hz1 hz2 rfl (by decide) _ _ _ (by rfl) ((hown.alloc _).drew) ⟨wr.heap.size, 0, none⟩ 2 2 (bcells [hexd (s[k].toNat / 16), hexd (s[k].toNat % 16)]) (by rfl) (by rfl) (World.news_of_block (cs := (bcells [hexd (s[k].toNat / 16), hexd (s[k].toNat % 16)]).toArray) (t := 5) (fr := (0, 0)) (heap_alloc_new wr _)) (by simp [bcells, Value.oneCell']) (by omega) (by unfold maxLen; omega) (by omega) (by simp; omega) (wr.heap.size + 1) (by simp) ?_; intro g cap w1 hown1 hgrow hat hlt1))
      all_goals
        have R1 := below_append hb hown hsz hgrow
        have R2 : w1.ownsRow w.heap.size 5 1 (.slice (some ⟨g, 0, none⟩) (2 * k + 2) cap) (2 * (k + 1)) (bcells (hexL (s.data.toList.take (k + 1)))) := by
          rw [hexL_take s k hlt, bcells_append]; exact hown1
        clear hown1 hgrow hat hlt1 hown d1 d2
        go_wp2
        go_roundw
        case rel => exact ⟨k + 1, by omega, by go_num, R2, R1⟩
        case measure => simp [intOf]; omega
    · obtain rfl : k = s.size := by omega
      have hc := string_of_own (P := Tryd.prog) hown Tryd.underlying32 Tryd.underlying5 Tryd.underlying9
      rw [List.take_of_length_le (by simp)] at hc
      clear hown
      go_wp2
      go_ret
      exact ⟨rfl, hb⟩
end Go.Proofs.YtacegndmclnbnaaDoor
