/- Laws on lines: small facts; conditions: none. -/
import Derived.Test.YtmojlnfadjnhgaaLinJ
set_option maxRecDepth 100000
set_option linter.unusedVariables false
set_option linter.unusedSimpArgs false
namespace Go.Proofs.Ytmojlnfadjnhgaa
open Eng Go Go.RowKit

theorem waitL_ok {l : LineD} (h : okLine l) : waitL l = wait l := if_pos h
theorem leaveD_ok {l : LineD} {t : Int} (h : leaveOk l t) : leaveD l t = leaveL l t := if_pos h
theorem callD_ok {l : LineD} (h : callOk l) : callD l = callL l := if_pos h
theorem callN_ok {l : LineD} (h : callOk l) : callN l = first (wait l) := if_pos h
end Go.Proofs.Ytmojlnfadjnhgaa
