/-
  No cell of these rows narrows 'for every input' (looked for: loops, veiled, ifaces, maps, wideKeys, modest, calm, conditions, laid).
  DERIVED. THE GIVEN ROWS OF THIS SEAT. 16 by the template 'for every input the law returns true; each argument reads behind the call as it read before'; 0 by the template 'total and deterministic' (their statements: YtfjedjcdmaoeoaaTotals.lean).
  GIVEN WITH THE SEED: the statements are not yours to turn. If you find one false, say at which input.
  Laid BY PROGRAM, IN A SANDBOX (cutbox-rows.mjs): the forced cells as the released guide's own fill.sh prints them over the translation eddebdbab56b3cfb… (all of the seat's roots in one cut). By AI agents, Wed Nov 11 2026. No macro, syntax, notation, axiom, sorry.
-/
import Derived.Test.YtfjedjcdmaoeoaaChecked
import GoSem.Claim
import GoSem.ClaimJoined
import GoSem.ClaimMapViews
import Derived.JoinedTies
import Derived.KernelRfl
namespace Go.Proofs.Ytfjedjcdmaoeoaa
/- THE CELL 'sum', in the pinned program and in every row, IS THE sha256 OF THE DUMP (.gsa) THAT YtfjedjcdmaoeoaaProg.lean LOADS. Nothing in Lean hashes anything: it is a label: what it is worth is what the hold of that sum in a sandbox is worth. -/
noncomputable def Try.pinned : Pinned := { name := "ytfjedjcdmaoeoaa", sum := "eddebdbab56b3cfb7b4d87dfc78984ce22eeca473800cd7a3038962a6c9fa1b6", checked := Try.checked }
namespace Rows
def none {H : Type} : Left H := { results := [], args := [] }

/-- 'laws.FnValidPool': WHATEVER THE INPUT: true; the input reads as it did. -/
def fnValidPoolSpec : ChangeSpec := { name := "fnValidPool", fn := fun _ => fun
  | [d] => { results := [.lit (.bool true)], args := [d] }
  | _ => none }
def fnValidPoolRow : OpenClaim := { program := "ytfjedjcdmaoeoaa", sum := "eddebdbab56b3cfb7b4d87dfc78984ce22eeca473800cd7a3038962a6c9fa1b6", func := "loop.example/connectionpool/laws.FnValidPool", spec := "fnValidPool", unfollowed := true, recurses := true, apart := false }
def FnValidPoolSaid : Prop := fnValidPoolRow.holds Try.pinned (OpenSpec.ofChange fnValidPoolSpec)

/-- ITS FALSE NEIGHBOUR: 'it returns false'. Refute it at one input. -/
def fnValidPoolWrong : ChangeSpec := { name := "fnValidPool", fn := fun _ => fun
  | [d] => { results := [.lit (.bool false)], args := [d] }
  | _ => none }
def FnValidPoolWrongFalsely : Prop := fnValidPoolRow.holds Try.pinned (OpenSpec.ofChange fnValidPoolWrong)

/-- 'laws.FnValidPoolIdle': WHATEVER THE INPUT: true; the input reads as it did. -/
def fnValidPoolIdleSpec : ChangeSpec := { name := "fnValidPoolIdle", fn := fun _ => fun
  | [d] => { results := [.lit (.bool true)], args := [d] }
  | _ => none }
def fnValidPoolIdleRow : OpenClaim := { program := "ytfjedjcdmaoeoaa", sum := "eddebdbab56b3cfb7b4d87dfc78984ce22eeca473800cd7a3038962a6c9fa1b6", func := "loop.example/connectionpool/laws.FnValidPoolIdle", spec := "fnValidPoolIdle", unfollowed := true, recurses := true, apart := false }
def FnValidPoolIdleSaid : Prop := fnValidPoolIdleRow.holds Try.pinned (OpenSpec.ofChange fnValidPoolIdleSpec)

/-- ITS FALSE NEIGHBOUR: 'it returns false'. Refute it at one input. -/
def fnValidPoolIdleWrong : ChangeSpec := { name := "fnValidPoolIdle", fn := fun _ => fun
  | [d] => { results := [.lit (.bool false)], args := [d] }
  | _ => none }
def FnValidPoolIdleWrongFalsely : Prop := fnValidPoolIdleRow.holds Try.pinned (OpenSpec.ofChange fnValidPoolIdleWrong)

/-- 'laws.FnHeldBy': WHATEVER THE INPUT: true; the input reads as it did. -/
def fnHeldBySpec : ChangeSpec := { name := "fnHeldBy", fn := fun _ => fun
  | [d] => { results := [.lit (.bool true)], args := [d] }
  | _ => none }
def fnHeldByRow : OpenClaim := { program := "ytfjedjcdmaoeoaa", sum := "eddebdbab56b3cfb7b4d87dfc78984ce22eeca473800cd7a3038962a6c9fa1b6", func := "loop.example/connectionpool/laws.FnHeldBy", spec := "fnHeldBy", unfollowed := true, recurses := true, apart := false }
def FnHeldBySaid : Prop := fnHeldByRow.holds Try.pinned (OpenSpec.ofChange fnHeldBySpec)

/-- ITS FALSE NEIGHBOUR: 'it returns false'. Refute it at one input. -/
def fnHeldByWrong : ChangeSpec := { name := "fnHeldBy", fn := fun _ => fun
  | [d] => { results := [.lit (.bool false)], args := [d] }
  | _ => none }
def FnHeldByWrongFalsely : Prop := fnHeldByRow.holds Try.pinned (OpenSpec.ofChange fnHeldByWrong)

/-- 'laws.FnCloseIdle': WHATEVER THE INPUT: true; the input reads as it did. -/
def fnCloseIdleSpec : ChangeSpec := { name := "fnCloseIdle", fn := fun _ => fun
  | [d] => { results := [.lit (.bool true)], args := [d] }
  | _ => none }
def fnCloseIdleRow : OpenClaim := { program := "ytfjedjcdmaoeoaa", sum := "eddebdbab56b3cfb7b4d87dfc78984ce22eeca473800cd7a3038962a6c9fa1b6", func := "loop.example/connectionpool/laws.FnCloseIdle", spec := "fnCloseIdle", unfollowed := true, recurses := true, apart := false }
def FnCloseIdleSaid : Prop := fnCloseIdleRow.holds Try.pinned (OpenSpec.ofChange fnCloseIdleSpec)

/-- ITS FALSE NEIGHBOUR: 'it returns false'. Refute it at one input. -/
def fnCloseIdleWrong : ChangeSpec := { name := "fnCloseIdle", fn := fun _ => fun
  | [d] => { results := [.lit (.bool false)], args := [d] }
  | _ => none }
def FnCloseIdleWrongFalsely : Prop := fnCloseIdleRow.holds Try.pinned (OpenSpec.ofChange fnCloseIdleWrong)

/-- 'laws.FnCloseIdleAll': WHATEVER THE INPUT: true; the input reads as it did. -/
def fnCloseIdleAllSpec : ChangeSpec := { name := "fnCloseIdleAll", fn := fun _ => fun
  | [d] => { results := [.lit (.bool true)], args := [d] }
  | _ => none }
def fnCloseIdleAllRow : OpenClaim := { program := "ytfjedjcdmaoeoaa", sum := "eddebdbab56b3cfb7b4d87dfc78984ce22eeca473800cd7a3038962a6c9fa1b6", func := "loop.example/connectionpool/laws.FnCloseIdleAll", spec := "fnCloseIdleAll", unfollowed := true, recurses := true, apart := false }
def FnCloseIdleAllSaid : Prop := fnCloseIdleAllRow.holds Try.pinned (OpenSpec.ofChange fnCloseIdleAllSpec)

/-- ITS FALSE NEIGHBOUR: 'it returns false'. Refute it at one input. -/
def fnCloseIdleAllWrong : ChangeSpec := { name := "fnCloseIdleAll", fn := fun _ => fun
  | [d] => { results := [.lit (.bool false)], args := [d] }
  | _ => none }
def FnCloseIdleAllWrongFalsely : Prop := fnCloseIdleAllRow.holds Try.pinned (OpenSpec.ofChange fnCloseIdleAllWrong)

/-- 'laws.FnCloseIdleParts': WHATEVER THE INPUT: true; the input reads as it did. -/
def fnCloseIdlePartsSpec : ChangeSpec := { name := "fnCloseIdleParts", fn := fun _ => fun
  | [d] => { results := [.lit (.bool true)], args := [d] }
  | _ => none }
def fnCloseIdlePartsRow : OpenClaim := { program := "ytfjedjcdmaoeoaa", sum := "eddebdbab56b3cfb7b4d87dfc78984ce22eeca473800cd7a3038962a6c9fa1b6", func := "loop.example/connectionpool/laws.FnCloseIdleParts", spec := "fnCloseIdleParts", unfollowed := true, recurses := true, apart := false }
def FnCloseIdlePartsSaid : Prop := fnCloseIdlePartsRow.holds Try.pinned (OpenSpec.ofChange fnCloseIdlePartsSpec)

/-- ITS FALSE NEIGHBOUR: 'it returns false'. Refute it at one input. -/
def fnCloseIdlePartsWrong : ChangeSpec := { name := "fnCloseIdleParts", fn := fun _ => fun
  | [d] => { results := [.lit (.bool false)], args := [d] }
  | _ => none }
def FnCloseIdlePartsWrongFalsely : Prop := fnCloseIdlePartsRow.holds Try.pinned (OpenSpec.ofChange fnCloseIdlePartsWrong)

/-- 'laws.FnAcquireConnOpen': WHATEVER THE INPUT: true; the input reads as it did. -/
def fnAcquireConnOpenSpec : ChangeSpec := { name := "fnAcquireConnOpen", fn := fun _ => fun
  | [d] => { results := [.lit (.bool true)], args := [d] }
  | _ => none }
def fnAcquireConnOpenRow : OpenClaim := { program := "ytfjedjcdmaoeoaa", sum := "eddebdbab56b3cfb7b4d87dfc78984ce22eeca473800cd7a3038962a6c9fa1b6", func := "loop.example/connectionpool/laws.FnAcquireConnOpen", spec := "fnAcquireConnOpen", unfollowed := true, recurses := true, apart := false }
def FnAcquireConnOpenSaid : Prop := fnAcquireConnOpenRow.holds Try.pinned (OpenSpec.ofChange fnAcquireConnOpenSpec)

/-- ITS FALSE NEIGHBOUR: 'it returns false'. Refute it at one input. -/
def fnAcquireConnOpenWrong : ChangeSpec := { name := "fnAcquireConnOpen", fn := fun _ => fun
  | [d] => { results := [.lit (.bool false)], args := [d] }
  | _ => none }
def FnAcquireConnOpenWrongFalsely : Prop := fnAcquireConnOpenRow.holds Try.pinned (OpenSpec.ofChange fnAcquireConnOpenWrong)

/-- 'laws.FnAcquireConnWait': WHATEVER THE INPUT: true; the input reads as it did. -/
def fnAcquireConnWaitSpec : ChangeSpec := { name := "fnAcquireConnWait", fn := fun _ => fun
  | [d] => { results := [.lit (.bool true)], args := [d] }
  | _ => none }
def fnAcquireConnWaitRow : OpenClaim := { program := "ytfjedjcdmaoeoaa", sum := "eddebdbab56b3cfb7b4d87dfc78984ce22eeca473800cd7a3038962a6c9fa1b6", func := "loop.example/connectionpool/laws.FnAcquireConnWait", spec := "fnAcquireConnWait", unfollowed := true, recurses := true, apart := false }
def FnAcquireConnWaitSaid : Prop := fnAcquireConnWaitRow.holds Try.pinned (OpenSpec.ofChange fnAcquireConnWaitSpec)

/-- ITS FALSE NEIGHBOUR: 'it returns false'. Refute it at one input. -/
def fnAcquireConnWaitWrong : ChangeSpec := { name := "fnAcquireConnWait", fn := fun _ => fun
  | [d] => { results := [.lit (.bool false)], args := [d] }
  | _ => none }
def FnAcquireConnWaitWrongFalsely : Prop := fnAcquireConnWaitRow.holds Try.pinned (OpenSpec.ofChange fnAcquireConnWaitWrong)

/-- 'laws.FnReleaseConnAll': WHATEVER THE INPUT: true; the input reads as it did. -/
def fnReleaseConnAllSpec : ChangeSpec := { name := "fnReleaseConnAll", fn := fun _ => fun
  | [d] => { results := [.lit (.bool true)], args := [d] }
  | _ => none }
def fnReleaseConnAllRow : OpenClaim := { program := "ytfjedjcdmaoeoaa", sum := "eddebdbab56b3cfb7b4d87dfc78984ce22eeca473800cd7a3038962a6c9fa1b6", func := "loop.example/connectionpool/laws.FnReleaseConnAll", spec := "fnReleaseConnAll", unfollowed := true, recurses := true, apart := false }
def FnReleaseConnAllSaid : Prop := fnReleaseConnAllRow.holds Try.pinned (OpenSpec.ofChange fnReleaseConnAllSpec)

/-- ITS FALSE NEIGHBOUR: 'it returns false'. Refute it at one input. -/
def fnReleaseConnAllWrong : ChangeSpec := { name := "fnReleaseConnAll", fn := fun _ => fun
  | [d] => { results := [.lit (.bool false)], args := [d] }
  | _ => none }
def FnReleaseConnAllWrongFalsely : Prop := fnReleaseConnAllRow.holds Try.pinned (OpenSpec.ofChange fnReleaseConnAllWrong)

/-- 'laws.FnReleaseConnWait': WHATEVER THE INPUT: true; the input reads as it did. -/
def fnReleaseConnWaitSpec : ChangeSpec := { name := "fnReleaseConnWait", fn := fun _ => fun
  | [d] => { results := [.lit (.bool true)], args := [d] }
  | _ => none }
def fnReleaseConnWaitRow : OpenClaim := { program := "ytfjedjcdmaoeoaa", sum := "eddebdbab56b3cfb7b4d87dfc78984ce22eeca473800cd7a3038962a6c9fa1b6", func := "loop.example/connectionpool/laws.FnReleaseConnWait", spec := "fnReleaseConnWait", unfollowed := true, recurses := true, apart := false }
def FnReleaseConnWaitSaid : Prop := fnReleaseConnWaitRow.holds Try.pinned (OpenSpec.ofChange fnReleaseConnWaitSpec)

/-- ITS FALSE NEIGHBOUR: 'it returns false'. Refute it at one input. -/
def fnReleaseConnWaitWrong : ChangeSpec := { name := "fnReleaseConnWait", fn := fun _ => fun
  | [d] => { results := [.lit (.bool false)], args := [d] }
  | _ => none }
def FnReleaseConnWaitWrongFalsely : Prop := fnReleaseConnWaitRow.holds Try.pinned (OpenSpec.ofChange fnReleaseConnWaitWrong)

/-- 'laws.FnHeldByAcquire': WHATEVER THE INPUT: true; the input reads as it did. -/
def fnHeldByAcquireSpec : ChangeSpec := { name := "fnHeldByAcquire", fn := fun _ => fun
  | [d] => { results := [.lit (.bool true)], args := [d] }
  | _ => none }
def fnHeldByAcquireRow : OpenClaim := { program := "ytfjedjcdmaoeoaa", sum := "eddebdbab56b3cfb7b4d87dfc78984ce22eeca473800cd7a3038962a6c9fa1b6", func := "loop.example/connectionpool/laws.FnHeldByAcquire", spec := "fnHeldByAcquire", unfollowed := true, recurses := true, apart := false }
def FnHeldByAcquireSaid : Prop := fnHeldByAcquireRow.holds Try.pinned (OpenSpec.ofChange fnHeldByAcquireSpec)

/-- ITS FALSE NEIGHBOUR: 'it returns false'. Refute it at one input. -/
def fnHeldByAcquireWrong : ChangeSpec := { name := "fnHeldByAcquire", fn := fun _ => fun
  | [d] => { results := [.lit (.bool false)], args := [d] }
  | _ => none }
def FnHeldByAcquireWrongFalsely : Prop := fnHeldByAcquireRow.holds Try.pinned (OpenSpec.ofChange fnHeldByAcquireWrong)

/-- 'laws.FnAcquireConn': WHATEVER THE INPUT: true; the input reads as it did. -/
def fnAcquireConnSpec : ChangeSpec := { name := "fnAcquireConn", fn := fun _ => fun
  | [d] => { results := [.lit (.bool true)], args := [d] }
  | _ => none }
def fnAcquireConnRow : OpenClaim := { program := "ytfjedjcdmaoeoaa", sum := "eddebdbab56b3cfb7b4d87dfc78984ce22eeca473800cd7a3038962a6c9fa1b6", func := "loop.example/connectionpool/laws.FnAcquireConn", spec := "fnAcquireConn", unfollowed := true, recurses := true, apart := false }
def FnAcquireConnSaid : Prop := fnAcquireConnRow.holds Try.pinned (OpenSpec.ofChange fnAcquireConnSpec)

/-- ITS FALSE NEIGHBOUR: 'it returns false'. Refute it at one input. -/
def fnAcquireConnWrong : ChangeSpec := { name := "fnAcquireConn", fn := fun _ => fun
  | [d] => { results := [.lit (.bool false)], args := [d] }
  | _ => none }
def FnAcquireConnWrongFalsely : Prop := fnAcquireConnRow.holds Try.pinned (OpenSpec.ofChange fnAcquireConnWrong)

/-- 'laws.FnReleaseConn': WHATEVER THE INPUT: true; the input reads as it did. -/
def fnReleaseConnSpec : ChangeSpec := { name := "fnReleaseConn", fn := fun _ => fun
  | [d] => { results := [.lit (.bool true)], args := [d] }
  | _ => none }
def fnReleaseConnRow : OpenClaim := { program := "ytfjedjcdmaoeoaa", sum := "eddebdbab56b3cfb7b4d87dfc78984ce22eeca473800cd7a3038962a6c9fa1b6", func := "loop.example/connectionpool/laws.FnReleaseConn", spec := "fnReleaseConn", unfollowed := true, recurses := true, apart := false }
def FnReleaseConnSaid : Prop := fnReleaseConnRow.holds Try.pinned (OpenSpec.ofChange fnReleaseConnSpec)

/-- ITS FALSE NEIGHBOUR: 'it returns false'. Refute it at one input. -/
def fnReleaseConnWrong : ChangeSpec := { name := "fnReleaseConn", fn := fun _ => fun
  | [d] => { results := [.lit (.bool false)], args := [d] }
  | _ => none }
def FnReleaseConnWrongFalsely : Prop := fnReleaseConnRow.holds Try.pinned (OpenSpec.ofChange fnReleaseConnWrong)

/-- 'laws.FnAcquireConnBack': WHATEVER THE INPUT: true; the input reads as it did. -/
def fnAcquireConnBackSpec : ChangeSpec := { name := "fnAcquireConnBack", fn := fun _ => fun
  | [d] => { results := [.lit (.bool true)], args := [d] }
  | _ => none }
def fnAcquireConnBackRow : OpenClaim := { program := "ytfjedjcdmaoeoaa", sum := "eddebdbab56b3cfb7b4d87dfc78984ce22eeca473800cd7a3038962a6c9fa1b6", func := "loop.example/connectionpool/laws.FnAcquireConnBack", spec := "fnAcquireConnBack", unfollowed := true, recurses := true, apart := false }
def FnAcquireConnBackSaid : Prop := fnAcquireConnBackRow.holds Try.pinned (OpenSpec.ofChange fnAcquireConnBackSpec)

/-- ITS FALSE NEIGHBOUR: 'it returns false'. Refute it at one input. -/
def fnAcquireConnBackWrong : ChangeSpec := { name := "fnAcquireConnBack", fn := fun _ => fun
  | [d] => { results := [.lit (.bool false)], args := [d] }
  | _ => none }
def FnAcquireConnBackWrongFalsely : Prop := fnAcquireConnBackRow.holds Try.pinned (OpenSpec.ofChange fnAcquireConnBackWrong)

/-- 'laws.FnExactReleaseConn': WHATEVER THE INPUT: true; the input reads as it did. -/
def fnExactReleaseConnSpec : ChangeSpec := { name := "fnExactReleaseConn", fn := fun _ => fun
  | [d1, d2] => { results := [.lit (.bool true)], args := [d1, d2] }
  | _ => none }
def fnExactReleaseConnRow : OpenClaim := { program := "ytfjedjcdmaoeoaa", sum := "eddebdbab56b3cfb7b4d87dfc78984ce22eeca473800cd7a3038962a6c9fa1b6", func := "loop.example/connectionpool/laws.FnExactReleaseConn", spec := "fnExactReleaseConn", unfollowed := true, recurses := true, apart := false }
def FnExactReleaseConnSaid : Prop := fnExactReleaseConnRow.holds Try.pinned (OpenSpec.ofChange fnExactReleaseConnSpec)

/-- ITS FALSE NEIGHBOUR: 'it returns false'. Refute it at one input. -/
def fnExactReleaseConnWrong : ChangeSpec := { name := "fnExactReleaseConn", fn := fun _ => fun
  | [d1, d2] => { results := [.lit (.bool false)], args := [d1, d2] }
  | _ => none }
def FnExactReleaseConnWrongFalsely : Prop := fnExactReleaseConnRow.holds Try.pinned (OpenSpec.ofChange fnExactReleaseConnWrong)

/-- 'laws.FnExactAcquireConn': WHATEVER THE INPUT: true; the input reads as it did. -/
def fnExactAcquireConnSpec : ChangeSpec := { name := "fnExactAcquireConn", fn := fun _ => fun
  | [d1, d2] => { results := [.lit (.bool true)], args := [d1, d2] }
  | _ => none }
def fnExactAcquireConnRow : OpenClaim := { program := "ytfjedjcdmaoeoaa", sum := "eddebdbab56b3cfb7b4d87dfc78984ce22eeca473800cd7a3038962a6c9fa1b6", func := "loop.example/connectionpool/laws.FnExactAcquireConn", spec := "fnExactAcquireConn", unfollowed := true, recurses := true, apart := false }
def FnExactAcquireConnSaid : Prop := fnExactAcquireConnRow.holds Try.pinned (OpenSpec.ofChange fnExactAcquireConnSpec)

/-- ITS FALSE NEIGHBOUR: 'it returns false'. Refute it at one input. -/
def fnExactAcquireConnWrong : ChangeSpec := { name := "fnExactAcquireConn", fn := fun _ => fun
  | [d1, d2] => { results := [.lit (.bool false)], args := [d1, d2] }
  | _ => none }
def FnExactAcquireConnWrongFalsely : Prop := fnExactAcquireConnRow.holds Try.pinned (OpenSpec.ofChange fnExactAcquireConnWrong)

/- THE SECOND FORM. 'bulk': how many values and letters a reading holds, each counted each time it is reached (what is shared counts as often as it is met; a slice's spare places count too). A statement '..UptoSaid' is the law's where the arguments, and the package variables that the reading takes, are together of bulk at most 1048576: NARROWER than '..Said'. Prove '..Said' where nothing that the law and all that it calls make is longer than what came in: it says more and counts as full. Else prove '..UptoSaid'. A law counts once. -/
mutual
def uptoBulk {H : Type} : DataW H → Nat
  | .lit (.string bytes) => bytes.length + 1
  | .lit _ => 1
  | .nil => 1
  | .ptr d => uptoBulk d + 1
  | .slice elems spare => uptoBulkAll elems + uptoBulkAll spare + 1
  | .agg parts => uptoBulkAll parts + 1
  | .iface _ d => uptoBulk d + 1
  | .map entries => uptoBulkEntries entries + 1
  | .held _ => 1
def uptoBulkAll {H : Type} : List (DataW H) → Nat
  | [] => 0
  | d :: r => uptoBulk d + uptoBulkAll r
def uptoBulkEntries {H : Type} : List (Lit × DataW H) → Nat
  | [] => 0
  | x :: r => uptoBulkEntry x + uptoBulkEntries r
def uptoBulkEntry {H : Type} : Lit × DataW H → Nat
  | (.string bytes, d) => bytes.length + uptoBulk d + 1
  | (_, d) => uptoBulk d + 1
 end
def uptoSmall : (H : Type) → List (DataW H) → Bool := fun _ ds => decide (uptoBulkAll ds ≤ 1048576)
def OpenSpec.upto (s : _root_.Go.ChangeSpec) : _root_.Go.OpenSpec := { _root_.Go.OpenSpec.ofChange s with cond := some uptoSmall }

/-- 'laws.FnValidPool', WHERE WHAT IT READS IS OF BULK AT MOST 1048576: true; the input reads as it did. -/
def fnValidPoolUptoRow : OpenClaim := { program := "ytfjedjcdmaoeoaa", sum := "eddebdbab56b3cfb7b4d87dfc78984ce22eeca473800cd7a3038962a6c9fa1b6", func := "loop.example/connectionpool/laws.FnValidPool", spec := "fnValidPool", unfollowed := true, recurses := true, apart := false, narrowed := true }
def FnValidPoolUptoSaid : Prop := fnValidPoolUptoRow.holds Try.pinned (OpenSpec.upto fnValidPoolSpec)

/-- 'laws.FnValidPoolIdle', WHERE WHAT IT READS IS OF BULK AT MOST 1048576: true; the input reads as it did. -/
def fnValidPoolIdleUptoRow : OpenClaim := { program := "ytfjedjcdmaoeoaa", sum := "eddebdbab56b3cfb7b4d87dfc78984ce22eeca473800cd7a3038962a6c9fa1b6", func := "loop.example/connectionpool/laws.FnValidPoolIdle", spec := "fnValidPoolIdle", unfollowed := true, recurses := true, apart := false, narrowed := true }
def FnValidPoolIdleUptoSaid : Prop := fnValidPoolIdleUptoRow.holds Try.pinned (OpenSpec.upto fnValidPoolIdleSpec)

/-- 'laws.FnHeldBy', WHERE WHAT IT READS IS OF BULK AT MOST 1048576: true; the input reads as it did. -/
def fnHeldByUptoRow : OpenClaim := { program := "ytfjedjcdmaoeoaa", sum := "eddebdbab56b3cfb7b4d87dfc78984ce22eeca473800cd7a3038962a6c9fa1b6", func := "loop.example/connectionpool/laws.FnHeldBy", spec := "fnHeldBy", unfollowed := true, recurses := true, apart := false, narrowed := true }
def FnHeldByUptoSaid : Prop := fnHeldByUptoRow.holds Try.pinned (OpenSpec.upto fnHeldBySpec)

/-- 'laws.FnCloseIdle', WHERE WHAT IT READS IS OF BULK AT MOST 1048576: true; the input reads as it did. -/
def fnCloseIdleUptoRow : OpenClaim := { program := "ytfjedjcdmaoeoaa", sum := "eddebdbab56b3cfb7b4d87dfc78984ce22eeca473800cd7a3038962a6c9fa1b6", func := "loop.example/connectionpool/laws.FnCloseIdle", spec := "fnCloseIdle", unfollowed := true, recurses := true, apart := false, narrowed := true }
def FnCloseIdleUptoSaid : Prop := fnCloseIdleUptoRow.holds Try.pinned (OpenSpec.upto fnCloseIdleSpec)

/-- 'laws.FnCloseIdleAll', WHERE WHAT IT READS IS OF BULK AT MOST 1048576: true; the input reads as it did. -/
def fnCloseIdleAllUptoRow : OpenClaim := { program := "ytfjedjcdmaoeoaa", sum := "eddebdbab56b3cfb7b4d87dfc78984ce22eeca473800cd7a3038962a6c9fa1b6", func := "loop.example/connectionpool/laws.FnCloseIdleAll", spec := "fnCloseIdleAll", unfollowed := true, recurses := true, apart := false, narrowed := true }
def FnCloseIdleAllUptoSaid : Prop := fnCloseIdleAllUptoRow.holds Try.pinned (OpenSpec.upto fnCloseIdleAllSpec)

/-- 'laws.FnCloseIdleParts', WHERE WHAT IT READS IS OF BULK AT MOST 1048576: true; the input reads as it did. -/
def fnCloseIdlePartsUptoRow : OpenClaim := { program := "ytfjedjcdmaoeoaa", sum := "eddebdbab56b3cfb7b4d87dfc78984ce22eeca473800cd7a3038962a6c9fa1b6", func := "loop.example/connectionpool/laws.FnCloseIdleParts", spec := "fnCloseIdleParts", unfollowed := true, recurses := true, apart := false, narrowed := true }
def FnCloseIdlePartsUptoSaid : Prop := fnCloseIdlePartsUptoRow.holds Try.pinned (OpenSpec.upto fnCloseIdlePartsSpec)

/-- 'laws.FnAcquireConnOpen', WHERE WHAT IT READS IS OF BULK AT MOST 1048576: true; the input reads as it did. -/
def fnAcquireConnOpenUptoRow : OpenClaim := { program := "ytfjedjcdmaoeoaa", sum := "eddebdbab56b3cfb7b4d87dfc78984ce22eeca473800cd7a3038962a6c9fa1b6", func := "loop.example/connectionpool/laws.FnAcquireConnOpen", spec := "fnAcquireConnOpen", unfollowed := true, recurses := true, apart := false, narrowed := true }
def FnAcquireConnOpenUptoSaid : Prop := fnAcquireConnOpenUptoRow.holds Try.pinned (OpenSpec.upto fnAcquireConnOpenSpec)

/-- 'laws.FnAcquireConnWait', WHERE WHAT IT READS IS OF BULK AT MOST 1048576: true; the input reads as it did. -/
def fnAcquireConnWaitUptoRow : OpenClaim := { program := "ytfjedjcdmaoeoaa", sum := "eddebdbab56b3cfb7b4d87dfc78984ce22eeca473800cd7a3038962a6c9fa1b6", func := "loop.example/connectionpool/laws.FnAcquireConnWait", spec := "fnAcquireConnWait", unfollowed := true, recurses := true, apart := false, narrowed := true }
def FnAcquireConnWaitUptoSaid : Prop := fnAcquireConnWaitUptoRow.holds Try.pinned (OpenSpec.upto fnAcquireConnWaitSpec)

/-- 'laws.FnReleaseConnAll', WHERE WHAT IT READS IS OF BULK AT MOST 1048576: true; the input reads as it did. -/
def fnReleaseConnAllUptoRow : OpenClaim := { program := "ytfjedjcdmaoeoaa", sum := "eddebdbab56b3cfb7b4d87dfc78984ce22eeca473800cd7a3038962a6c9fa1b6", func := "loop.example/connectionpool/laws.FnReleaseConnAll", spec := "fnReleaseConnAll", unfollowed := true, recurses := true, apart := false, narrowed := true }
def FnReleaseConnAllUptoSaid : Prop := fnReleaseConnAllUptoRow.holds Try.pinned (OpenSpec.upto fnReleaseConnAllSpec)

/-- 'laws.FnReleaseConnWait', WHERE WHAT IT READS IS OF BULK AT MOST 1048576: true; the input reads as it did. -/
def fnReleaseConnWaitUptoRow : OpenClaim := { program := "ytfjedjcdmaoeoaa", sum := "eddebdbab56b3cfb7b4d87dfc78984ce22eeca473800cd7a3038962a6c9fa1b6", func := "loop.example/connectionpool/laws.FnReleaseConnWait", spec := "fnReleaseConnWait", unfollowed := true, recurses := true, apart := false, narrowed := true }
def FnReleaseConnWaitUptoSaid : Prop := fnReleaseConnWaitUptoRow.holds Try.pinned (OpenSpec.upto fnReleaseConnWaitSpec)

/-- 'laws.FnHeldByAcquire', WHERE WHAT IT READS IS OF BULK AT MOST 1048576: true; the input reads as it did. -/
def fnHeldByAcquireUptoRow : OpenClaim := { program := "ytfjedjcdmaoeoaa", sum := "eddebdbab56b3cfb7b4d87dfc78984ce22eeca473800cd7a3038962a6c9fa1b6", func := "loop.example/connectionpool/laws.FnHeldByAcquire", spec := "fnHeldByAcquire", unfollowed := true, recurses := true, apart := false, narrowed := true }
def FnHeldByAcquireUptoSaid : Prop := fnHeldByAcquireUptoRow.holds Try.pinned (OpenSpec.upto fnHeldByAcquireSpec)

/-- 'laws.FnAcquireConn', WHERE WHAT IT READS IS OF BULK AT MOST 1048576: true; the input reads as it did. -/
def fnAcquireConnUptoRow : OpenClaim := { program := "ytfjedjcdmaoeoaa", sum := "eddebdbab56b3cfb7b4d87dfc78984ce22eeca473800cd7a3038962a6c9fa1b6", func := "loop.example/connectionpool/laws.FnAcquireConn", spec := "fnAcquireConn", unfollowed := true, recurses := true, apart := false, narrowed := true }
def FnAcquireConnUptoSaid : Prop := fnAcquireConnUptoRow.holds Try.pinned (OpenSpec.upto fnAcquireConnSpec)

/-- 'laws.FnReleaseConn', WHERE WHAT IT READS IS OF BULK AT MOST 1048576: true; the input reads as it did. -/
def fnReleaseConnUptoRow : OpenClaim := { program := "ytfjedjcdmaoeoaa", sum := "eddebdbab56b3cfb7b4d87dfc78984ce22eeca473800cd7a3038962a6c9fa1b6", func := "loop.example/connectionpool/laws.FnReleaseConn", spec := "fnReleaseConn", unfollowed := true, recurses := true, apart := false, narrowed := true }
def FnReleaseConnUptoSaid : Prop := fnReleaseConnUptoRow.holds Try.pinned (OpenSpec.upto fnReleaseConnSpec)

/-- 'laws.FnAcquireConnBack', WHERE WHAT IT READS IS OF BULK AT MOST 1048576: true; the input reads as it did. -/
def fnAcquireConnBackUptoRow : OpenClaim := { program := "ytfjedjcdmaoeoaa", sum := "eddebdbab56b3cfb7b4d87dfc78984ce22eeca473800cd7a3038962a6c9fa1b6", func := "loop.example/connectionpool/laws.FnAcquireConnBack", spec := "fnAcquireConnBack", unfollowed := true, recurses := true, apart := false, narrowed := true }
def FnAcquireConnBackUptoSaid : Prop := fnAcquireConnBackUptoRow.holds Try.pinned (OpenSpec.upto fnAcquireConnBackSpec)

/-- 'laws.FnExactReleaseConn', WHERE WHAT IT READS IS OF BULK AT MOST 1048576: true; the input reads as it did. -/
def fnExactReleaseConnUptoRow : OpenClaim := { program := "ytfjedjcdmaoeoaa", sum := "eddebdbab56b3cfb7b4d87dfc78984ce22eeca473800cd7a3038962a6c9fa1b6", func := "loop.example/connectionpool/laws.FnExactReleaseConn", spec := "fnExactReleaseConn", unfollowed := true, recurses := true, apart := false, narrowed := true }
def FnExactReleaseConnUptoSaid : Prop := fnExactReleaseConnUptoRow.holds Try.pinned (OpenSpec.upto fnExactReleaseConnSpec)

/-- 'laws.FnExactAcquireConn', WHERE WHAT IT READS IS OF BULK AT MOST 1048576: true; the input reads as it did. -/
def fnExactAcquireConnUptoRow : OpenClaim := { program := "ytfjedjcdmaoeoaa", sum := "eddebdbab56b3cfb7b4d87dfc78984ce22eeca473800cd7a3038962a6c9fa1b6", func := "loop.example/connectionpool/laws.FnExactAcquireConn", spec := "fnExactAcquireConn", unfollowed := true, recurses := true, apart := false, narrowed := true }
def FnExactAcquireConnUptoSaid : Prop := fnExactAcquireConnUptoRow.holds Try.pinned (OpenSpec.upto fnExactAcquireConnSpec)

end Rows
end Go.Proofs.Ytfjedjcdmaoeoaa
