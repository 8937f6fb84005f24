/- The two hexadecimal encoders return the same string, for every string of at most 2^20 bytes: contracts of both, no further condition. -/
import Derived.Test.YtacegndmclnbnaaGreatDoorRows
import Derived.WalkKit
import Derived.WalkSpells
import Derived.WalkLawsBesides
import Derived.StillTailTactics
import Derived.BigQuiet
import Derived.Deep.QuietTactic
import Derived.Lib.Hide
import Derived.Deep.RegionHeld3
import Derived.Deep.AppendLies
namespace Go.Proofs.YtacegndmclnbnaaGreatDoor
open Go.RowKit

def hexd (n : Nat) : UInt8 := UInt8.ofNat (if n < 10 then 48 + n else 87 + n)
def hexL : List UInt8 → List UInt8
  | [] => []
  | b :: r => hexd (b.toNat / 16) :: hexd (b.toNat % 16) :: hexL r
theorem hexL_append (l m : List UInt8) : hexL (l ++ m) = hexL l ++ hexL m := by
  induction l with
  | nil => rfl
  | cons b r ih => simp [hexL, ih]
theorem hexL_length (l : List UInt8) : (hexL l).length = 2 * l.length := by
  induction l with
  | nil => rfl
  | cons b r ih => simp [hexL, ih]; omega
theorem take_snoc (s : ByteArray) (k : Nat) (h : k < s.size) : s.data.toList.take (k + 1) = s.data.toList.take k ++ [s[k]] := by
  rw [List.take_succ_eq_append_getElem (by simpa using h)]; rfl
theorem hexL_take (s : ByteArray) (k : Nat) (h : k < s.size) : hexL (s.data.toList.take (k + 1)) = hexL (s.data.toList.take k) ++ [hexd (s[k].toNat / 16), hexd (s[k].toNat % 16)] := by
  rw [take_snoc s k h, hexL_append]; rfl

theorem digits_at : ∀ k (h : k < 16), ((⟨#[48, 49, 50, 51, 52, 53, 54, 55, 56, 57, 97, 98, 99, 100, 101, 102]⟩ : ByteArray)[k]'h) = hexd k := by
  intro k h
  have : ∀ k : Fin 16, ((⟨#[48, 49, 50, 51, 52, 53, 54, 55, 56, 57, 97, 98, 99, 100, 101, 102]⟩ : ByteArray)[k.1]'k.2) = hexd k.1 := by decide
  exact this ⟨k, h⟩

def bcells (l : List UInt8) : List Value := l.map fun b => .int .u8 (b.toNat : Int)
theorem bcells_append (l m : List UInt8) : bcells (l ++ m) = bcells l ++ bcells m := List.map_append

theorem ret_int {k : IntKind} {a b : Int} (h : a = b) : Ending.returned (.int k a) = .returned (.int k b) := by rw [h]

theorem Tryz.info5 : (Tryz.prog.info? 5).map (fun i => (i.zero, i.size, i.bytes)) = some (some (.int .u8 0), 1, 1) := by kernel_rfl


/-- what the bytes of a slice that the call owns become as a string -/
theorem string_of_own {w : World} {base e : Nat} {v : Value} {n : Nat} {l : List UInt8} (h : w.ownsRow base e 1 v n (bcells l)) {P : Program} {src dst : TypeId} (hs : P.underlying src = some (.slice e)) (he : P.underlying e = some (.int .u8)) (hd : P.underlying dst = some .string) :
    (convert src dst v).run P w = .ok (.string ⟨l.toArray⟩) w := by
  have hn : l.length = n := by simpa [bcells] using h.1
  rcases h.2 with ⟨rfl, rfl⟩ | ⟨g, cap, cur, rfl, _, hg, _⟩
  · have : l = [] := List.eq_nil_of_length_eq_zero hn
    subst this
    rw [run_convert_bytes_string w src dst e none 0 0 hs he hd]
    rfl
  · subst hn
    refine run_convert_bytes_back w src dst e _ cap l hs he hd fun j hj => ?_
    exact h.cells (g := g) rfl j _ (by simp [bcells, hj])

theorem run_digit (n : Nat) (h : n < 16) (W : World) : (Instr.index 9 (.string ⟨#[48, 49, 50, 51, 52, 53, 54, 55, 56, 57, 97, 98, 99, 100, 101, 102]⟩) (.int .u8 (n : Int))).run Tryz.prog W = .ok (.int .u8 ((hexd n).toNat : Int)) W := by
  have h2 : n < (⟨#[48, 49, 50, 51, 52, 53, 54, 55, 56, 57, 97, 98, 99, 100, 101, 102]⟩ : ByteArray).size := h
  rw [← digits_at n h]
  have h3 : (n : Int) < 16 := by omega
  go_simp
theorem run_digit_hi (x : UInt8) (W : World) : (Instr.index 9 (.string ⟨#[48, 49, 50, 51, 52, 53, 54, 55, 56, 57, 97, 98, 99, 100, 101, 102]⟩) (.int .u8 ((x.toNat : Int) / 16))).run Tryz.prog W = .ok (.int .u8 ((hexd (x.toNat / 16)).toNat : Int)) W := by
  have hx := x.toNat_lt
  exact run_digit (x.toNat / 16) (by omega) W
theorem bits_and_15 (x : UInt8) : bits .and .u8 (x.toNat : Int) 15 = ((x.toNat % 16 : Nat) : Int) := by
  have h : ∀ n : Fin 256, bits .and .u8 ((n.1 : Nat) : Int) 15 = ((n.1 % 16 : Nat) : Int) := by decide +kernel
  exact h ⟨x.toNat, x.toNat_lt⟩
theorem run_digit_lo (x : UInt8) (W : World) : (Instr.index 9 (.string ⟨#[48, 49, 50, 51, 52, 53, 54, 55, 56, 57, 97, 98, 99, 100, 101, 102]⟩) (.int .u8 (bits .and .u8 (x.toNat : Int) 15))).run Tryz.prog W = .ok (.int .u8 ((hexd (x.toNat % 16)).toNat : Int)) W := by
  rw [bits_and_15]
  exact run_digit (x.toNat % 16) (by omega) W

theorem below_append {B : Nat} {w wr w1 : World} {o : Obj} {v : Value} {e sz n : Nat} {xs : List Value} (hb : Below B w wr) (hown : wr.ownsRow B e sz v n xs) (hB : B ≤ wr.heap.size)
    (hgrow : ((wr.alloc o).drew).grownBy w1 v.ownBlock) : Below B w w1 :=
  ((hb.alloc hB o).drew).grown hgrow (by simp; omega) (fun k hk => (hown.lt k hk).1)

end Go.Proofs.YtacegndmclnbnaaGreatDoor
