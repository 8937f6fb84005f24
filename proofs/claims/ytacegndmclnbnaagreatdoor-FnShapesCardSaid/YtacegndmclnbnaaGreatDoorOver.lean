/- The three closed facts of a row that read the words of the dump's head: mayEnter, make, liftsFinal, without running over the whole head. Printed by over.py. -/
import Derived.Test.YtacegndmclnbnaaGreatDoorRows
import Derived.ProofKit
namespace Go.Proofs.YtacegndmclnbnaaGreatDoor
open Go.ChangeShapes Go.WideShapes Go.ChangeAt Go.RowKit
theorem wordsSigns_other {c : Char} (h : c ≠ ' ') (l : List Char) : wordsSigns (c :: l) = match wordsSigns l with | w :: ws => (c :: w) :: ws | [] => [[c]] := by
  rw [wordsSigns]
  · rfl
  · exact fun h' => h h'
theorem words_cut : ∀ (a r : List Char), wordsSigns (a ++ ' ' :: r) = wordsSigns a ++ wordsSigns r
  | [], r => rfl
  | c :: a, r => by
    by_cases h : c = ' '
    · subst h
      show [] :: wordsSigns (a ++ ' ' :: r) = [] :: wordsSigns a ++ wordsSigns r
      rw [words_cut a r]; rfl
    · rw [List.cons_append, wordsSigns_other h, wordsSigns_other h, words_cut a r]
      have ne : wordsSigns a ≠ [] := by
        cases a with
        | nil => simp [wordsSigns]
        | cons d b =>
          unfold wordsSigns
          split <;> (try split) <;> simp
      cases hw : wordsSigns a with
      | nil => exact absurd hw ne
      | cons w ws => rfl
noncomputable def signs0 : List Char := ['h', 'a', 'r', 'n', 'e', 's', 's', ' ', '9', 'd', '4', '7', '7', '5', '2', '3', '5', '2', '0', 'a', '4', 'c', '1', '6', '9', '4', '8', '8', '8', '5', '8', '3', '8', '1', 'f', '7', '7', '7', '5', '0', '8', '6', 'a', '6', '1', '4', '7', '4', 'c', '0', 'b', '9', '1', '7', 'f', 'f', '2', '0', '2', '0', 'b', 'f', 'e', '0', '0', '5', 'b', 'a', 'e', '9', 'f', '6', ' ', 'c', 'u', 't', ' ', 'a', 't']
noncomputable def signs1 : List Char := ['l', 'o', 'o', 'p', '.', 'e', 'x', 'a', 'm', 'p', 'l', 'e', '/', 'g', '0', '3', '4', '0', '0', '/', 'l', 'a', 'w', 's', '.', 'F', 'n', 'S', 'h', 'a', 'p', 'e', 's', ' ', 'l', 'o', 'o', 'p', '.', 'e', 'x', 'a', 'm', 'p', 'l', 'e', '/', 'g', '0', '3', '4', '0', '0', '/', 'l', 'a', 'w', 's', '.', 'F', 'n', 'E', 'x', 'a', 'c', 't', 'N', 'a', 'm', 'e', 'O', 'f', 'P', 'i', 'e', 'c', 'e']
noncomputable def signsR : List Char := signs1
theorem words : ∃ X, wordsSigns Tryz.prog.initOrder.toList = wordsSigns signs0 ++ X := by
  have h : Tryz.prog.initOrder = String.ofList (signs0 ++ ' ' :: signsR) := by as_aux_lemma => kernel_rfl
  exact ⟨wordsSigns signsR, by rw [h, String.toList_ofList, words_cut]⟩
set_option maxRecDepth 100000 in
theorem behind : ∃ X, behindMainWord (wordsSigns Tryz.prog.initOrder.toList) = ['c', 'u', 't'] :: ['a', 't'] :: X := by
  obtain ⟨X, h⟩ := words
  rw [h]
  exact ⟨X, by kernel_rfl⟩
theorem eq1 : "cut".toList = ['c', 'u', 't'] := by kernel_rfl
theorem eq2 : "gc".toList = ['g', 'c'] := by kernel_rfl
theorem eq3 : "spec".toList = ['s', 'p', 'e', 'c'] := by kernel_rfl
theorem make_of (P : Program) {X : List (List Char)} (h : behindMainWord (wordsSigns P.initOrder.toList) = ['c', 'u', 't'] :: ['a', 't'] :: X) : P.make = some .cut := by
  unfold Program.make
  rw [h]
  simp only [eq1, eq2, eq3]
  rw [if_neg (by decide), if_pos (by simp)]
theorem may_of (P : Program) {X : List (List Char)} (h : behindMainWord (wordsSigns P.initOrder.toList) = ['c', 'u', 't'] :: ['a', 't'] :: X)
    (m1 : P.laysLater = false) (m2 : P.bearsReflect = false) (m3 : P.doorFits [] = true) : P.mayEnter = true := by
  have m4 : stripLifts liftWords (['c', 'u', 't'] :: ['a', 't'] :: X) = ([], ['c', 'u', 't'] :: ['a', 't'] :: X) := by kernel_rfl
  unfold Program.mayEnter
  rw [h]
  simp only [m1, m2, m3, m4, eq1]
  simp
theorem lift_of (P : Program) {X : List (List Char)} (h : behindMainWord (wordsSigns P.initOrder.toList) = ['c', 'u', 't'] :: ['a', 't'] :: X) : P.liftsFinal = false := by
  have m4 : stripLifts liftWords (['c', 'u', 't'] :: ['a', 't'] :: X) = ([], ['c', 'u', 't'] :: ['a', 't'] :: X) := by kernel_rfl
  have m5 : P.headLifts = [] := by
    unfold Program.headLifts
    rw [h, m4]
    dsimp only
    split <;> rfl
  have e : "carried".toList = ['c', 'a', 'r', 'r', 'i', 'e', 'd'] := by kernel_rfl
  unfold Program.liftsFinal
  rw [h, m5, e]
  rfl
set_option maxRecDepth 100000 in
theorem headMake : Tryz.pinned.checked.prog.make = some .cut := by
  obtain ⟨X, h⟩ := behind
  exact make_of _ h
set_option maxRecDepth 100000 in
theorem headMay : Tryz.pinned.checked.prog.mayEnter = true := by
  obtain ⟨X, h⟩ := behind
  exact may_of _ h (by as_aux_lemma => kernel_rfl) (by as_aux_lemma => kernel_rfl) (by as_aux_lemma => kernel_rfl)
set_option maxRecDepth 100000 in
theorem headLift : Tryz.pinned.checked.prog.liftsFinal = false := by
  obtain ⟨X, h⟩ := behind
  exact lift_of _ h
end Go.Proofs.YtacegndmclnbnaaGreatDoor
