/- HasCell, EqualShapes, CompareShapes, the program's and the reference's: contracts. Condition: slices of at most 2^20 cells. -/
import Derived.Test.YthhaojbnnacdbaaCells
namespace Go.Proofs.Ythhaojbnnacdbaa
open Go.RowKit

def memC (cs : List C) (x y : Int) : Bool := cs.any fun c => c.1 == x && c.2 == y
theorem memC_no {cs : List C} {k : Nat} {a b x y : Int} (h : memC (cs.take k) x y = false) (he : cs[k]? = some (a, b)) (hn : (a == x && b == y) = false) : Hid (memC (cs.take (k + 1)) x y = false) := by
  show _ = _
  rw [memC, take_next he, List.any_append, ← memC, h]
  simp [hn]
theorem memC_yes {cs : List C} {k : Nat} {a b x y : Int} (he : cs[k]? = some (a, b)) (hn : (a == x && b == y) = true) : memC cs x y = true :=
  List.any_eq_true.2 ⟨(a, b), List.mem_of_getElem? he, hn⟩

set_option maxHeartbeats 400000 in
theorem implHasCell (A : Option Addr) (n cap : Nat) (cs : List C) (x y : Int) (w : World) (hn : n ≤ 1048576) (h : CellsAt w A n cs) :
    Calls Try.prog 109 #[.slice A n cap, .int .i64 x, .int .i64 y] w fun e w' => e = .returned (.bool (memC cs x y)) ∧ Below w.heap.size w w' := by
  go_enter Try.func109, Try.ntmps109
  go_wp2
  go_loopw [8, 11] (fun _ i wr => ∃ k : Nat, k ≤ n ∧ i = .int .i64 k ∧ Hid (memC (cs.take k) x y = false) ∧ Below w.heap.size w wr) (fun _ i _ => n - (intOf i).toNat)
  case atStart => exact ⟨0, Nat.zero_le _, rfl, rfl, Below.refl _ _⟩
  case round =>
    obtain ⟨k, hk, rfl, HM, hb⟩ := hrel
    by_cases hlt : k < n
    · obtain ⟨b, o, p, q, rfl, hbl, HK, c1, c2⟩ := (h.below hb).at_ hlt
      clear h
      by_cases hp : p = x
      · have h1 : (p == x) = true := by simpa using hp
        by_cases hq : q = y
        · have h2 : (q == y) = true := by simpa using hq
          have HR := Lib.hid (memC_yes HK.out (show (p == x && q == y) = true by simp [hp, hq]))
          clear hp hq
          go_wp2
          go_ret
          exact ⟨by rw [HR.out]; rfl, hb.alloc hb.size _⟩
        · have h2 : (q == y) = false := by simpa using hq
          have HR := memC_no HM.out HK.out (show (p == x && q == y) = false by simp [hq])
          clear hp hq
          go_wp2
          go_roundw
          case rel => exact ⟨k + 1, by omega, by go_num, HR, hb.alloc hb.size _⟩
          case measure => simp [intOf]; omega
      · have h1 : (p == x) = false := by simpa using hp
        have HR := memC_no HM.out HK.out (show (p == x && q == y) = false by simp [hp])
        clear hp
        go_wp2
        go_roundw
        case rel => exact ⟨k + 1, by omega, by go_num, HR, hb.alloc hb.size _⟩
        case measure => simp [intOf]; omega
    · have HE : Hid (memC cs x y = false) := by
        have := HM.out
        rwa [List.take_of_length_le (by rw [h.1]; omega)] at this
      clear h
      go_wp2
      go_ret
      exact ⟨by rw [HE.out]; rfl, hb⟩

set_option maxHeartbeats 400000 in
theorem specHasCell (A : Option Addr) (n cap : Nat) (cs : List C) (x y : Int) (w : World) (hn : n ≤ 1048576) (h : CellsAt w A n cs) :
    Calls Try.prog 69 #[.slice A n cap, .int .i64 x, .int .i64 y] w fun e w' => e = .returned (.bool (memC cs x y)) ∧ w = w' := by
  go_enter Try.func69, Try.ntmps69
  go_wp2
  go_loop [7] (fun i => ∃ k : Nat, k ≤ n ∧ i = .int .i64 k ∧ Hid (memC (cs.take k) x y = false)) (fun i => n - (intOf i).toNat)
  case atStart => exact ⟨0, Nat.zero_le _, rfl, rfl⟩
  case round =>
    obtain ⟨k, hk, rfl, HM⟩ := hrel
    by_cases hlt : k < n
    · obtain ⟨b, o, p, q, rfl, hbl, HK, c1, c2⟩ := h.at_ hlt
      clear h
      by_cases hp : p = x
      · have h1 : (p == x) = true := by simpa using hp
        by_cases hq : q = y
        · have h2 : (q == y) = true := by simpa using hq
          have HR := Lib.hid (memC_yes HK.out (show (p == x && q == y) = true by simp [hp, hq]))
          clear hp hq
          go_wp2
          go_ret
          exact ⟨by rw [HR.out]; rfl, rfl⟩
        · have h2 : (q == y) = false := by simpa using hq
          have HR := memC_no HM.out HK.out (show (p == x && q == y) = false by simp [hq])
          clear hp hq
          go_wp2
          go_round
          case rel => exact ⟨k + 1, by omega, by go_num, HR⟩
          case measure => simp [intOf]; omega
      · have h1 : (p == x) = false := by simpa using hp
        have HR := memC_no HM.out HK.out (show (p == x && q == y) = false by simp [hp])
        clear hp
        go_wp2
        go_round
        case rel => exact ⟨k + 1, by omega, by go_num, HR⟩
        case measure => simp [intOf]; omega
    · have HE : Hid (memC cs x y = false) := by
        have := HM.out
        rwa [List.take_of_length_le (by rw [h.1]; omega)] at this
      clear h
      go_wp2
      go_ret
      exact ⟨by rw [HE.out]; rfl, rfl⟩
end Go.Proofs.Ythhaojbnnacdbaa
