/- Facts on the head of the program, said once; conditions: none. -/
import Derived.Test.YtipkfcjmephlhaaFg
set_option linter.unusedVariables false
set_option linter.unusedSimpArgs false
set_option maxRecDepth 100000
namespace Go.Proofs.Ytipkfcjmephlhaa
open Go Go.RowKit
def headL : List Nat := [104, 97, 114, 110, 101, 115, 115, 32, 55, 57, 102, 51, 102, 52, 48, 57, 102, 97, 48, 57, 101, 51, 100, 49, 50, 101, 98, 54, 97, 51, 50, 55, 53, 51, 97, 98, 97, 55, 49, 101, 49, 97, 52, 56, 97, 57, 100, 102, 52, 52, 50, 53, 99, 97, 101, 97, 102, 48, 52, 101, 98, 56, 101, 98, 48, 48, 48, 55, 97, 54, 100, 101, 32, 99, 117, 116, 32, 97, 116, 32, 108, 111, 111, 112, 46, 101, 120, 97, 109, 112, 108, 101, 47, 99, 111, 110, 110, 101, 99, 116, 105, 111, 110, 112, 111, 111, 108, 47, 108, 97, 119, 115, 46, 70, 110, 69, 120, 97, 99, 116, 86, 97, 108, 105, 100, 80, 111, 111, 108, 32, 108, 111, 111, 112, 46, 101, 120, 97, 109, 112, 108, 101, 47, 99, 111, 110, 110, 101, 99, 116, 105, 111, 110, 112, 111, 111, 108, 47, 108, 97, 119, 115, 46, 70, 110, 69, 120, 97, 99, 116, 72, 101, 108, 100, 66, 121, 32, 108, 111, 111, 112, 46, 101, 120, 97, 109, 112, 108, 101, 47, 99, 111, 110, 110, 101, 99, 116, 105, 111, 110, 112, 111, 111, 108, 47, 108, 97, 119, 115, 46, 70, 110, 69, 120, 97, 99, 116, 67, 108, 111, 115, 101, 73, 100, 108, 101]
theorem head_eq : Try.prog.initOrder = String.ofList (headL.map Char.ofNat) := by as_aux_lemma => kernel_rfl
theorem head_list : Try.prog.initOrder.toList = headL.map Char.ofNat := by rw [head_eq, String.toList_ofList]
theorem ws_head : wordsSigns Try.prog.initOrder.toList = wsF [] (headL.map Char.ofNat) := (congrArg wordsSigns head_list).trans (ws_fast _)
theorem head_cut : behindMainWord (wordsSigns Try.prog.initOrder.toList) = cutW :: (behindMainWord (wsF [] (headL.map Char.ofNat))).tail :=
  (congrArg behindMainWord ws_head).trans (by as_aux_lemma => kernel_rfl)
theorem is_make : Try.prog.make = some Make.cut := make_cut head_cut
theorem not_final : Try.prog.liftsFinal = false := final_not head_cut
theorem may_enter : Try.prog.mayEnter = true := enter_cut head_cut (by as_aux_lemma => kernel_rfl) (by as_aux_lemma => kernel_rfl) (by as_aux_lemma => kernel_rfl)
end Go.Proofs.Ytipkfcjmephlhaa
