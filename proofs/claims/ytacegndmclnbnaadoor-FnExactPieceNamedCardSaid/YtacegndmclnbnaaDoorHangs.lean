/- IsConnectedShape, the program's: a search by marks. Condition: slices of at most 2^20 cells. -/
import Derived.Test.YtacegndmclnbnaaDoorConnS
import Derived.Maps.AppendAt
namespace Go.Proofs.YtacegndmclnbnaaDoor
open Go.RowKit

def boolsV (bs : List Bool) : List Value := bs.map .bool
theorem boolsV_set (bs : List Bool) (j : Nat) (b : Bool) : (boolsV bs).set j (.bool b) = boolsV (bs.set j b) := by simp [boolsV, List.map_set]
theorem boolsV_get {bs : List Bool} {j : Nat} (h : j < bs.length) : (boolsV bs)[j]? = some (.bool (bs.getD j false)) := by simp [boolsV, h]
theorem Tryd.infoB : (Tryd.prog.info? 4).map (fun i => (i.zero, i.size, i.bytes)) = some (some (.bool false), 1, 1) := by kernel_rfl
structure MInv (cs : List C) (seen : List Bool) : Prop where
  len : seen.length = cs.length
  first : seen.getD 0 false = true
  reach : ∀ j, seen.getD j false = true → Reach cs (cs.getD j (0, 0))
def okPair (cs : List C) (seen : List Bool) (i j : Nat) : Prop := seen.getD i false = true → nearAt cs i j = true → seen.getD j false = true
theorem MInv.add {cs : List C} {seen : List Bool} {i j : Nat} (h : MInv cs seen) (hj : j < cs.length) (hi : seen.getD i false = true) (hn : nearAt cs i j = true) : MInv cs (seen.set j true) := by
  have hl := h.len
  refine ⟨by simpa using h.len, ?_, fun k hk => ?_⟩
  · by_cases h0 : j = 0
    · subst h0; simp [hl, hj]
    · have := h.first
      simp only [List.getD_eq_getElem?_getD] at *
      rwa [List.getElem?_set_ne (by omega)]
  · by_cases hkj : j = k
    · subst hkj
      refine .step _ _ (h.reach i hi) ?_ hn
      have : cs.getD j (0, 0) = cs[j] := by simp [hj]
      rw [this]; exact List.getElem_mem hj
    · refine h.reach k ?_
      simp only [List.getD_eq_getElem?_getD] at *
      rwa [List.getElem?_set_ne (by omega)] at hk
theorem count_set {seen : List Bool} {j : Nat} (hj : j < seen.length) (h : seen.getD j false = false) : (seen.set j true).count true = seen.count true + 1 := by
  have : seen[j] = false := by simpa [hj] using h
  rw [List.count_set hj]
  simp [this]
theorem MInv.start {cs : List C} (h : 0 < cs.length) : MInv cs ((List.replicate cs.length false).set 0 true) := by
  refine ⟨by simp, by simp [h], fun j hj => ?_⟩
  by_cases h0 : j = 0
  · subst h0
    exact .first _ (by simp [h])
  · exfalso
    simp only [List.getD_eq_getElem?_getD] at hj
    rw [List.getElem?_set_ne (by omega)] at hj
    rw [List.getElem?_replicate] at hj
    split at hj <;> simp at hj

theorem boolsV_made (n : Nat) : (madeCells #[.bool false] n).toList = boolsV (List.replicate n false) := by
  apply List.ext_getElem?
  intro j
  by_cases hj : j < n
  · simp [madeCells, boolsV, hj, Nat.mod_one]
  · rw [List.getElem?_eq_none (by simp [madeCells]; omega), List.getElem?_eq_none (by simp [boolsV]; omega)]

end Go.Proofs.YtacegndmclnbnaaDoor
