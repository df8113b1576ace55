/- LeaveLine where it succeeds; conditions: none. -/
import Derived.Test.YtmojlnfadjnhgaaLinK
set_option maxRecDepth 100000
set_option linter.unusedVariables false
set_option linter.unusedSimpArgs false
namespace Go.Proofs.Ytmojlnfadjnhgaa
open Eng Go Go.RowKit

theorem iLeaveZ_any {A : Option Addr} {c : Nat} {l m : LineD} (t : Int) (w : World) (h : leaveOk l t) (e : leaveL l t = m) (hL : LineR w A l) :
    Calls Try.prog 27 #[.agg (lineV l A c).toArray, .int .i64 t] w fun e w' => ∃ y : Option Addr × Nat, m.g.length ≤ y.2 ∧ e = .returned (.tuple #[.agg (lineV m y.1 y.2).toArray, .bool true]) ∧ Below w.heap.size w w' ∧ Fresh w.heap.size [gRow m y.1 y.2] w' := by
  have h1 := iLeave_any (c := c) t w hL
  unfold leaveR at h1
  rw [leaveD_ok h, decide_eq_true h, e] at h1
  exact h1

end Go.Proofs.Ytmojlnfadjnhgaa
