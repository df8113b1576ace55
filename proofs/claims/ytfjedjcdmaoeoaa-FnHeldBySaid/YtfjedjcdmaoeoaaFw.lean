/- Splitting a long word into words, tail-recursively; conditions: none. -/
import Derived.Test.YtfjedjcdmaoeoaaLift
set_option linter.unusedVariables false
set_option linter.unusedSimpArgs false
namespace Go.Proofs.Ytfjedjcdmaoeoaa
open Go Go.RowKit
def wsF : List Char → List Char → List (List Char)
  | acc, [] => [acc.reverse]
  | acc, c :: r => bif c == Char.ofNat 32 then acc.reverse :: wsF [] r else wsF (c :: acc) r
theorem ws_ne : ∀ l : List Char, wordsSigns l ≠ []
  | [] => by simp [wordsSigns]
  | c :: r => by
    by_cases h : c = Char.ofNat 32
    · subst h
      have e : wordsSigns (Char.ofNat 32 :: r) = [] :: wordsSigns r := rfl
      rw [e]; simp
    · rw [wordsSigns]
      · split <;> simp
      · exact h
theorem wsF_eq : ∀ (l acc : List Char), wsF acc l = match wordsSigns l with | w :: ws => (acc.reverse ++ w) :: ws | [] => []
  | [], acc => by simp [wsF, wordsSigns]
  | c :: r, acc => by
    by_cases h : c = Char.ofNat 32
    · subst h
      have e : wordsSigns (Char.ofNat 32 :: r) = [] :: wordsSigns r := rfl
      have h1 := wsF_eq r []
      rw [e]
      simp only [wsF, beq_self_eq_true, cond_true, List.append_nil]
      rw [h1]
      cases hw : wordsSigns r with
      | nil => exact absurd hw (ws_ne r)
      | cons w ws => simp
    · have h1 := wsF_eq r (c :: acc)
      have hb : (c == Char.ofNat 32) = false := by simpa using h
      simp only [wsF, hb, cond_false]
      rw [h1, wordsSigns]
      · cases hw : wordsSigns r with
        | nil => exact absurd hw (ws_ne r)
        | cons w ws => simp
      · exact h
theorem ws_fast (l : List Char) : wordsSigns l = wsF [] l := by
  rw [wsF_eq]
  cases hw : wordsSigns l with
  | nil => exact absurd hw (ws_ne l)
  | cons w ws => simp
end Go.Proofs.Ytfjedjcdmaoeoaa
