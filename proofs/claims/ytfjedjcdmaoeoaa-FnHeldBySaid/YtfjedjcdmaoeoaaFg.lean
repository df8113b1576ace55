/- The head of a program whose word is a plain cut; conditions: none. -/
import Derived.Test.YtfjedjcdmaoeoaaFw
set_option linter.unusedVariables false
set_option linter.unusedSimpArgs false
set_option maxRecDepth 100000
namespace Go.Proofs.Ytfjedjcdmaoeoaa
open Go Go.RowKit
def cutW : List Char := "cut".toList
theorem strip_cut (rest : List (List Char)) : stripLifts liftWords (cutW :: rest) = ([], cutW :: rest) := by as_aux_lemma => kernel_rfl
section
variable {P : Program} {rest : List (List Char)} (h : behindMainWord (wordsSigns P.initOrder.toList) = cutW :: rest)
include h
theorem make_cut : P.make = some Make.cut := by
  unfold Program.make
  rw [h]
  have e1 : (cutW == "gc".toList) = false := by decide
  have e2 : (cutW == "spec".toList) = false := by decide
  have e3 : (cutW == "cut".toList) = true := by decide
  simp only [e1, e2, e3, Bool.or_self, Bool.true_or, Bool.false_eq_true, if_false, if_true]
theorem lifts_none : P.headLifts = [] := by
  unfold Program.headLifts
  rw [h, strip_cut]
  simp
theorem final_not : P.liftsFinal = false := by
  unfold Program.liftsFinal
  rw [lifts_none h, h]
  have e1 : ((cutW :: rest).head? == some "carried".toList) = false := by simp [cutW]
  simp only [e1, Bool.false_and, Bool.false_or]
  rfl
theorem enter_cut (h1 : P.laysLater = false) (h2 : P.bearsReflect = false) (h3 : P.doorFits [] = true) : P.mayEnter = true := by
  unfold Program.mayEnter
  rw [h]
  simp only [strip_cut, h1, h2, h3]
  simp [cutW]
end
end Go.Proofs.Ytfjedjcdmaoeoaa
