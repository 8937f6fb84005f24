/- The three closed facts of a row that read the words of the dump's head: mayEnter, make, liftsFinal, without running over the whole head. Printed by over.py. -/
import Derived.Test.YthhaojbnnacdbaaRows
import Derived.ProofKit
namespace Go.Proofs.Ythhaojbnnacdbaa
open Go.ChangeShapes Go.WideShapes Go.ChangeAt Go.RowKit
theorem wordsSigns_other {c : Char} (h : c ≠ ' ') (l : List Char) : wordsSigns (c :: l) = match wordsSigns l with | w :: ws => (c :: w) :: ws | [] => [[c]] := by
  rw [wordsSigns]
  · rfl
  · exact fun h' => h h'
theorem words_cut : ∀ (a r : List Char), wordsSigns (a ++ ' ' :: r) = wordsSigns a ++ wordsSigns r
  | [], r => rfl
  | c :: a, r => by
    by_cases h : c = ' '
    · subst h
      show [] :: wordsSigns (a ++ ' ' :: r) = [] :: wordsSigns a ++ wordsSigns r
      rw [words_cut a r]; rfl
    · rw [List.cons_append, wordsSigns_other h, wordsSigns_other h, words_cut a r]
      have ne : wordsSigns a ≠ [] := by
        cases a with
        | nil => simp [wordsSigns]
        | cons d b =>
          unfold wordsSigns
          split <;> (try split) <;> simp
      cases hw : wordsSigns a with
      | nil => exact absurd hw ne
      | cons w ws => rfl
noncomputable def signs0 : List Char := ['h', 'a', 'r', 'n', 'e', 's', 's', ' ', '8', 'a', 'c', '9', '6', '1', '4', 'e', 'a', '6', '2', 'b', 'd', '5', '8', '9', '4', '5', 'c', '5', 'b', '4', '9', '4', '8', '1', '7', '5', 'a', '1', '2', '6', '5', '2', 'f', 'd', '7', '1', 'a', '7', 'a', '3', 'f', '2', '0', '8', '6', 'c', '5', '2', 'c', '5', '5', 'b', '3', '8', '4', '2', 'b', '0', '0', 'd', '7', 'b', ' ', 'c', 'u', 't', ' ', 'a', 't']
noncomputable def signs1 : List Char := ['l', 'o', 'o', 'p', '.', 'e', 'x', 'a', 'm', 'p', 'l', 'e', '/', 'g', '0', '3', '4', '0', '0', '/', 'l', 'a', 'w', 's', '.', 'F', 'n', 'E', 'x', 'a', 'c', 't', 'H', 'o', 'l', 'e', 's', 'O', 'f', ' ', 'l', 'o', 'o', 'p', '.', 'e', 'x', 'a', 'm', 'p', 'l', 'e', '/', 'g', '0', '3', '4', '0', '0', '/', 'l', 'a', 'w', 's', '.', 'F', 'n', 'E', 'x', 'a', 'c', 't', 'S', 'o', 'r', 't', 'C', 'e', 'l', 'l', 's', ' ', 'l', 'o', 'o', 'p', '.', 'e', 'x', 'a', 'm', 'p', 'l', 'e', '/', 'g', '0', '3', '4', '0', '0', '/', 'l', 'a', 'w', 's', '.', 'F', 'n', 'E', 'x', 'a', 'c', 't', 'I', 's', 'C', 'o', 'n', 'g']
noncomputable def signs2 : List Char := ['r', 'u', 'e', 'n', 't', ' ', 'l', 'o', 'o', 'p', '.', 'e', 'x', 'a', 'm', 'p', 'l', 'e', '/', 'g', '0', '3', '4', '0', '0', '/', 'l', 'a', 'w', 's', '.', 'F', 'n', 'E', 'x', 'a', 'c', 't', 'C', 'a', 'n', 'o', 'n', 'i', 'c', 'a', 'l', 'S', 'h', 'a', 'p', 'e', ' ', 'l', 'o', 'o', 'p', '.', 'e', 'x', 'a', 'm', 'p', 'l', 'e', '/', 'g', '0', '3', '4', '0', '0', '/', 'l', 'a', 'w', 's', '.', 'F', 'n', 'E', 'x', 'a', 'c', 't', 'O', 'r', 'i', 'e', 'n', 't', 'a', 't', 'i', 'o', 'n', 's', 'O', 'f', ' ', 'l', 'o', 'o', 'p', '.', 'e', 'x', 'a', 'm', 'p', 'l', 'e', '/', 'g', '0', '3', '4', '0', '0', '/']
noncomputable def signs3 : List Char := ['l', 'a', 'w', 's', '.', 'F', 'n', 'E', 'x', 'a', 'c', 't', 'E', 'x', 't', 'e', 'n', 's', 'i', 'o', 'n', 's', 'O', 'f', ' ', 'l', 'o', 'o', 'p', '.', 'e', 'x', 'a', 'm', 'p', 'l', 'e', '/', 'g', '0', '3', '4', '0', '0', '/', 'l', 'a', 'w', 's', '.', 'F', 'n', 'E', 'x', 'a', 'c', 't', 'P', 'a', 'r', 'e', 'n', 't', 's', 'O', 'f', ' ', 'l', 'o', 'o', 'p', '.', 'e', 'x', 'a', 'm', 'p', 'l', 'e', '/', 'g', '0', '3', '4', '0', '0', '/', 'l', 'a', 'w', 's', '.', 'F', 'n', 'E', 'x', 'a', 'c', 't', 'F', 'i', 'x', 'e', 'd', 'S', 'h', 'a', 'p', 'e', 's', ' ', 'l', 'o', 'o', 'p', '.', 'e', 'x', 'a', 'm']
noncomputable def signs4 : List Char := ['p', 'l', 'e', '/', 'g', '0', '3', '4', '0', '0', '/', 'l', 'a', 'w', 's', '.', 'F', 'n', 'E', 'x', 'a', 'c', 't', 'C', 'o', 'u', 'n', 't', 'F', 'r', 'e', 'e', ' ', 'l', 'o', 'o', 'p', '.', 'e', 'x', 'a', 'm', 'p', 'l', 'e', '/', 'g', '0', '3', '4', '0', '0', '/', 'l', 'a', 'w', 's', '.', 'F', 'n', 'E', 'x', 'a', 'c', 't', 'F', 'r', 'e', 'e', 'S', 'h', 'a', 'p', 'e', 's', ' ', 'l', 'o', 'o', 'p', '.', 'e', 'x', 'a', 'm', 'p', 'l', 'e', '/', 'g', '0', '3', '4', '0', '0', '/', 'l', 'a', 'w', 's', '.', 'F', 'n', 'E', 'x', 'a', 'c', 't', 'O', 'n', 'e', 'S', 'i', 'd', 'e', 'd', 'S', 'h', 'a', 'p']
noncomputable def signs5 : List Char := ['e', 's', ' ', 'l', 'o', 'o', 'p', '.', 'e', 'x', 'a', 'm', 'p', 'l', 'e', '/', 'g', '0', '3', '4', '0', '0', '/', 'l', 'a', 'w', 's', '.', 'F', 'n', 'M', 'o', 't', 'i', 'o', 'n', 's']
noncomputable def signsR : List Char := signs1 ++ (signs2 ++ (signs3 ++ (signs4 ++ (signs5))))
theorem words : ∃ X, wordsSigns Try.prog.initOrder.toList = wordsSigns signs0 ++ X := by
  have h : Try.prog.initOrder = String.ofList (signs0 ++ ' ' :: signsR) := by as_aux_lemma => kernel_rfl
  exact ⟨wordsSigns signsR, by rw [h, String.toList_ofList, words_cut]⟩
set_option maxRecDepth 100000 in
theorem behind : ∃ X, behindMainWord (wordsSigns Try.prog.initOrder.toList) = ['c', 'u', 't'] :: ['a', 't'] :: X := by
  obtain ⟨X, h⟩ := words
  rw [h]
  exact ⟨X, by kernel_rfl⟩
theorem eq1 : "cut".toList = ['c', 'u', 't'] := by kernel_rfl
theorem eq2 : "gc".toList = ['g', 'c'] := by kernel_rfl
theorem eq3 : "spec".toList = ['s', 'p', 'e', 'c'] := by kernel_rfl
theorem make_of (P : Program) {X : List (List Char)} (h : behindMainWord (wordsSigns P.initOrder.toList) = ['c', 'u', 't'] :: ['a', 't'] :: X) : P.make = some .cut := by
  unfold Program.make
  rw [h]
  simp only [eq1, eq2, eq3]
  rw [if_neg (by decide), if_pos (by simp)]
theorem may_of (P : Program) {X : List (List Char)} (h : behindMainWord (wordsSigns P.initOrder.toList) = ['c', 'u', 't'] :: ['a', 't'] :: X)
    (m1 : P.laysLater = false) (m2 : P.bearsReflect = false) (m3 : P.doorFits [] = true) : P.mayEnter = true := by
  have m4 : stripLifts liftWords (['c', 'u', 't'] :: ['a', 't'] :: X) = ([], ['c', 'u', 't'] :: ['a', 't'] :: X) := by kernel_rfl
  unfold Program.mayEnter
  rw [h]
  simp only [m1, m2, m3, m4, eq1]
  simp
theorem lift_of (P : Program) {X : List (List Char)} (h : behindMainWord (wordsSigns P.initOrder.toList) = ['c', 'u', 't'] :: ['a', 't'] :: X) : P.liftsFinal = false := by
  have m4 : stripLifts liftWords (['c', 'u', 't'] :: ['a', 't'] :: X) = ([], ['c', 'u', 't'] :: ['a', 't'] :: X) := by kernel_rfl
  have m5 : P.headLifts = [] := by
    unfold Program.headLifts
    rw [h, m4]
    dsimp only
    split <;> rfl
  have e : "carried".toList = ['c', 'a', 'r', 'r', 'i', 'e', 'd'] := by kernel_rfl
  unfold Program.liftsFinal
  rw [h, m5, e]
  rfl
set_option maxRecDepth 100000 in
theorem headMake : Try.pinned.checked.prog.make = some .cut := by
  obtain ⟨X, h⟩ := behind
  exact make_of _ h
set_option maxRecDepth 100000 in
theorem headMay : Try.pinned.checked.prog.mayEnter = true := by
  obtain ⟨X, h⟩ := behind
  exact may_of _ h (by as_aux_lemma => kernel_rfl) (by as_aux_lemma => kernel_rfl) (by as_aux_lemma => kernel_rfl)
set_option maxRecDepth 100000 in
theorem headLift : Try.pinned.checked.prog.liftsFinal = false := by
  obtain ⟨X, h⟩ := behind
  exact lift_of _ h
end Go.Proofs.Ythhaojbnnacdbaa
