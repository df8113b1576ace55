/-
  No cell of these rows narrows 'for every input' (looked for: loops, veiled, ifaces, maps, wideKeys, modest, calm, conditions, laid).
  DERIVED. THE GIVEN ROWS OF THIS SEAT. 19 by the template 'for every input the law returns true; each argument reads behind the call as it read before'; 0 by the template 'total and deterministic' (their statements: YtgfblbpiokiagaaTotals.lean).
  GIVEN WITH THE SEED: the statements are not yours to turn. If you find one false, say at which input.
  Laid BY PROGRAM, IN A SANDBOX (cutbox-rows.mjs): the forced cells as the released guide's own fill.sh prints them over the translation 6e2b7536aa00c2ef… (all of the seat's roots in one cut). By AI agents, Wed Nov 11 2026. No macro, syntax, notation, axiom, sorry.
-/
import Derived.Test.YtgfblbpiokiagaaChecked
import GoSem.Claim
import GoSem.ClaimJoined
import GoSem.ClaimMapViews
import Derived.JoinedTies
import Derived.KernelRfl
namespace Go.Proofs.Ytgfblbpiokiagaa
/- THE CELL 'sum', in the pinned program and in every row, IS THE sha256 OF THE DUMP (.gsa) THAT YtgfblbpiokiagaaProg.lean LOADS. Nothing in Lean hashes anything: it is a label: what it is worth is what the hold of that sum in a sandbox is worth. -/
noncomputable def Try.pinned : Pinned := { name := "ytgfblbpiokiagaa", sum := "6e2b7536aa00c2ef089070347019aed06f3a2dc871a2f0e7c5294087f20290c6", checked := Try.checked }
namespace Rows
def none {H : Type} : Left H := { results := [], args := [] }

/-- 'laws.FnExactValidLeases': WHATEVER THE INPUT: true; the input reads as it did. -/
def fnExactValidLeasesSpec : ChangeSpec := { name := "fnExactValidLeases", fn := fun _ => fun
  | [d] => { results := [.lit (.bool true)], args := [d] }
  | _ => none }
def fnExactValidLeasesRow : OpenClaim := { program := "ytgfblbpiokiagaa", sum := "6e2b7536aa00c2ef089070347019aed06f3a2dc871a2f0e7c5294087f20290c6", func := "loop.example/connectionpool/laws.FnExactValidLeases", spec := "fnExactValidLeases", unfollowed := true, recurses := true, apart := false }
def FnExactValidLeasesSaid : Prop := fnExactValidLeasesRow.holds Try.pinned (OpenSpec.ofChange fnExactValidLeasesSpec)

/-- ITS FALSE NEIGHBOUR: 'it returns false'. Refute it at one input. -/
def fnExactValidLeasesWrong : ChangeSpec := { name := "fnExactValidLeases", fn := fun _ => fun
  | [d] => { results := [.lit (.bool false)], args := [d] }
  | _ => none }
def FnExactValidLeasesWrongFalsely : Prop := fnExactValidLeasesRow.holds Try.pinned (OpenSpec.ofChange fnExactValidLeasesWrong)

/-- 'laws.FnValidLeases': WHATEVER THE INPUT: true; the input reads as it did. -/
def fnValidLeasesSpec : ChangeSpec := { name := "fnValidLeases", fn := fun _ => fun
  | [d] => { results := [.lit (.bool true)], args := [d] }
  | _ => none }
def fnValidLeasesRow : OpenClaim := { program := "ytgfblbpiokiagaa", sum := "6e2b7536aa00c2ef089070347019aed06f3a2dc871a2f0e7c5294087f20290c6", func := "loop.example/connectionpool/laws.FnValidLeases", spec := "fnValidLeases", unfollowed := true, recurses := true, apart := false }
def FnValidLeasesSaid : Prop := fnValidLeasesRow.holds Try.pinned (OpenSpec.ofChange fnValidLeasesSpec)

/-- ITS FALSE NEIGHBOUR: 'it returns false'. Refute it at one input. -/
def fnValidLeasesWrong : ChangeSpec := { name := "fnValidLeases", fn := fun _ => fun
  | [d] => { results := [.lit (.bool false)], args := [d] }
  | _ => none }
def FnValidLeasesWrongFalsely : Prop := fnValidLeasesRow.holds Try.pinned (OpenSpec.ofChange fnValidLeasesWrong)

/-- 'laws.FnValidLeasesShort': WHATEVER THE INPUT: true; the input reads as it did. -/
def fnValidLeasesShortSpec : ChangeSpec := { name := "fnValidLeasesShort", fn := fun _ => fun
  | [d] => { results := [.lit (.bool true)], args := [d] }
  | _ => none }
def fnValidLeasesShortRow : OpenClaim := { program := "ytgfblbpiokiagaa", sum := "6e2b7536aa00c2ef089070347019aed06f3a2dc871a2f0e7c5294087f20290c6", func := "loop.example/connectionpool/laws.FnValidLeasesShort", spec := "fnValidLeasesShort", unfollowed := true, recurses := true, apart := false }
def FnValidLeasesShortSaid : Prop := fnValidLeasesShortRow.holds Try.pinned (OpenSpec.ofChange fnValidLeasesShortSpec)

/-- ITS FALSE NEIGHBOUR: 'it returns false'. Refute it at one input. -/
def fnValidLeasesShortWrong : ChangeSpec := { name := "fnValidLeasesShort", fn := fun _ => fun
  | [d] => { results := [.lit (.bool false)], args := [d] }
  | _ => none }
def FnValidLeasesShortWrongFalsely : Prop := fnValidLeasesShortRow.holds Try.pinned (OpenSpec.ofChange fnValidLeasesShortWrong)

/-- 'laws.FnExactLeasedTime': WHATEVER THE INPUT: true; the input reads as it did. -/
def fnExactLeasedTimeSpec : ChangeSpec := { name := "fnExactLeasedTime", fn := fun _ => fun
  | [d1, d2] => { results := [.lit (.bool true)], args := [d1, d2] }
  | _ => none }
def fnExactLeasedTimeRow : OpenClaim := { program := "ytgfblbpiokiagaa", sum := "6e2b7536aa00c2ef089070347019aed06f3a2dc871a2f0e7c5294087f20290c6", func := "loop.example/connectionpool/laws.FnExactLeasedTime", spec := "fnExactLeasedTime", unfollowed := true, recurses := true, apart := false }
def FnExactLeasedTimeSaid : Prop := fnExactLeasedTimeRow.holds Try.pinned (OpenSpec.ofChange fnExactLeasedTimeSpec)

/-- ITS FALSE NEIGHBOUR: 'it returns false'. Refute it at one input. -/
def fnExactLeasedTimeWrong : ChangeSpec := { name := "fnExactLeasedTime", fn := fun _ => fun
  | [d1, d2] => { results := [.lit (.bool false)], args := [d1, d2] }
  | _ => none }
def FnExactLeasedTimeWrongFalsely : Prop := fnExactLeasedTimeRow.holds Try.pinned (OpenSpec.ofChange fnExactLeasedTimeWrong)

/-- 'laws.FnExactOwnerAt': WHATEVER THE INPUT: true; the input reads as it did. -/
def fnExactOwnerAtSpec : ChangeSpec := { name := "fnExactOwnerAt", fn := fun _ => fun
  | [d1, d2, d3] => { results := [.lit (.bool true)], args := [d1, d2, d3] }
  | _ => none }
def fnExactOwnerAtRow : OpenClaim := { program := "ytgfblbpiokiagaa", sum := "6e2b7536aa00c2ef089070347019aed06f3a2dc871a2f0e7c5294087f20290c6", func := "loop.example/connectionpool/laws.FnExactOwnerAt", spec := "fnExactOwnerAt", unfollowed := true, recurses := true, apart := false }
def FnExactOwnerAtSaid : Prop := fnExactOwnerAtRow.holds Try.pinned (OpenSpec.ofChange fnExactOwnerAtSpec)

/-- ITS FALSE NEIGHBOUR: 'it returns false'. Refute it at one input. -/
def fnExactOwnerAtWrong : ChangeSpec := { name := "fnExactOwnerAt", fn := fun _ => fun
  | [d1, d2, d3] => { results := [.lit (.bool false)], args := [d1, d2, d3] }
  | _ => none }
def FnExactOwnerAtWrongFalsely : Prop := fnExactOwnerAtRow.holds Try.pinned (OpenSpec.ofChange fnExactOwnerAtWrong)

/-- 'laws.FnExactFreeFor': WHATEVER THE INPUT: true; the input reads as it did. -/
def fnExactFreeForSpec : ChangeSpec := { name := "fnExactFreeFor", fn := fun _ => fun
  | [d1, d2, d3, d4] => { results := [.lit (.bool true)], args := [d1, d2, d3, d4] }
  | _ => none }
def fnExactFreeForRow : OpenClaim := { program := "ytgfblbpiokiagaa", sum := "6e2b7536aa00c2ef089070347019aed06f3a2dc871a2f0e7c5294087f20290c6", func := "loop.example/connectionpool/laws.FnExactFreeFor", spec := "fnExactFreeFor", unfollowed := true, recurses := true, apart := false }
def FnExactFreeForSaid : Prop := fnExactFreeForRow.holds Try.pinned (OpenSpec.ofChange fnExactFreeForSpec)

/-- ITS FALSE NEIGHBOUR: 'it returns false'. Refute it at one input. -/
def fnExactFreeForWrong : ChangeSpec := { name := "fnExactFreeFor", fn := fun _ => fun
  | [d1, d2, d3, d4] => { results := [.lit (.bool false)], args := [d1, d2, d3, d4] }
  | _ => none }
def FnExactFreeForWrongFalsely : Prop := fnExactFreeForRow.holds Try.pinned (OpenSpec.ofChange fnExactFreeForWrong)

/-- 'laws.FnLeasedTime': WHATEVER THE INPUT: true; the input reads as it did. -/
def fnLeasedTimeSpec : ChangeSpec := { name := "fnLeasedTime", fn := fun _ => fun
  | [d] => { results := [.lit (.bool true)], args := [d] }
  | _ => none }
def fnLeasedTimeRow : OpenClaim := { program := "ytgfblbpiokiagaa", sum := "6e2b7536aa00c2ef089070347019aed06f3a2dc871a2f0e7c5294087f20290c6", func := "loop.example/connectionpool/laws.FnLeasedTime", spec := "fnLeasedTime", unfollowed := true, recurses := true, apart := false }
def FnLeasedTimeSaid : Prop := fnLeasedTimeRow.holds Try.pinned (OpenSpec.ofChange fnLeasedTimeSpec)

/-- ITS FALSE NEIGHBOUR: 'it returns false'. Refute it at one input. -/
def fnLeasedTimeWrong : ChangeSpec := { name := "fnLeasedTime", fn := fun _ => fun
  | [d] => { results := [.lit (.bool false)], args := [d] }
  | _ => none }
def FnLeasedTimeWrongFalsely : Prop := fnLeasedTimeRow.holds Try.pinned (OpenSpec.ofChange fnLeasedTimeWrong)

/-- 'laws.FnLeasedTimeMost': WHATEVER THE INPUT: true; the input reads as it did. -/
def fnLeasedTimeMostSpec : ChangeSpec := { name := "fnLeasedTimeMost", fn := fun _ => fun
  | [d] => { results := [.lit (.bool true)], args := [d] }
  | _ => none }
def fnLeasedTimeMostRow : OpenClaim := { program := "ytgfblbpiokiagaa", sum := "6e2b7536aa00c2ef089070347019aed06f3a2dc871a2f0e7c5294087f20290c6", func := "loop.example/connectionpool/laws.FnLeasedTimeMost", spec := "fnLeasedTimeMost", unfollowed := true, recurses := true, apart := false }
def FnLeasedTimeMostSaid : Prop := fnLeasedTimeMostRow.holds Try.pinned (OpenSpec.ofChange fnLeasedTimeMostSpec)

/-- ITS FALSE NEIGHBOUR: 'it returns false'. Refute it at one input. -/
def fnLeasedTimeMostWrong : ChangeSpec := { name := "fnLeasedTimeMost", fn := fun _ => fun
  | [d] => { results := [.lit (.bool false)], args := [d] }
  | _ => none }
def FnLeasedTimeMostWrongFalsely : Prop := fnLeasedTimeMostRow.holds Try.pinned (OpenSpec.ofChange fnLeasedTimeMostWrong)

/-- 'laws.FnOwnerAt': WHATEVER THE INPUT: true; the input reads as it did. -/
def fnOwnerAtSpec : ChangeSpec := { name := "fnOwnerAt", fn := fun _ => fun
  | [d] => { results := [.lit (.bool true)], args := [d] }
  | _ => none }
def fnOwnerAtRow : OpenClaim := { program := "ytgfblbpiokiagaa", sum := "6e2b7536aa00c2ef089070347019aed06f3a2dc871a2f0e7c5294087f20290c6", func := "loop.example/connectionpool/laws.FnOwnerAt", spec := "fnOwnerAt", unfollowed := true, recurses := true, apart := false }
def FnOwnerAtSaid : Prop := fnOwnerAtRow.holds Try.pinned (OpenSpec.ofChange fnOwnerAtSpec)

/-- ITS FALSE NEIGHBOUR: 'it returns false'. Refute it at one input. -/
def fnOwnerAtWrong : ChangeSpec := { name := "fnOwnerAt", fn := fun _ => fun
  | [d] => { results := [.lit (.bool false)], args := [d] }
  | _ => none }
def FnOwnerAtWrongFalsely : Prop := fnOwnerAtRow.holds Try.pinned (OpenSpec.ofChange fnOwnerAtWrong)

/-- 'laws.FnOwnerAtNone': WHATEVER THE INPUT: true; the input reads as it did. -/
def fnOwnerAtNoneSpec : ChangeSpec := { name := "fnOwnerAtNone", fn := fun _ => fun
  | [d] => { results := [.lit (.bool true)], args := [d] }
  | _ => none }
def fnOwnerAtNoneRow : OpenClaim := { program := "ytgfblbpiokiagaa", sum := "6e2b7536aa00c2ef089070347019aed06f3a2dc871a2f0e7c5294087f20290c6", func := "loop.example/connectionpool/laws.FnOwnerAtNone", spec := "fnOwnerAtNone", unfollowed := true, recurses := true, apart := false }
def FnOwnerAtNoneSaid : Prop := fnOwnerAtNoneRow.holds Try.pinned (OpenSpec.ofChange fnOwnerAtNoneSpec)

/-- ITS FALSE NEIGHBOUR: 'it returns false'. Refute it at one input. -/
def fnOwnerAtNoneWrong : ChangeSpec := { name := "fnOwnerAtNone", fn := fun _ => fun
  | [d] => { results := [.lit (.bool false)], args := [d] }
  | _ => none }
def FnOwnerAtNoneWrongFalsely : Prop := fnOwnerAtNoneRow.holds Try.pinned (OpenSpec.ofChange fnOwnerAtNoneWrong)

/-- 'laws.FnFreeForNone': WHATEVER THE INPUT: true; the input reads as it did. -/
def fnFreeForNoneSpec : ChangeSpec := { name := "fnFreeForNone", fn := fun _ => fun
  | [d] => { results := [.lit (.bool true)], args := [d] }
  | _ => none }
def fnFreeForNoneRow : OpenClaim := { program := "ytgfblbpiokiagaa", sum := "6e2b7536aa00c2ef089070347019aed06f3a2dc871a2f0e7c5294087f20290c6", func := "loop.example/connectionpool/laws.FnFreeForNone", spec := "fnFreeForNone", unfollowed := true, recurses := true, apart := false }
def FnFreeForNoneSaid : Prop := fnFreeForNoneRow.holds Try.pinned (OpenSpec.ofChange fnFreeForNoneSpec)

/-- ITS FALSE NEIGHBOUR: 'it returns false'. Refute it at one input. -/
def fnFreeForNoneWrong : ChangeSpec := { name := "fnFreeForNone", fn := fun _ => fun
  | [d] => { results := [.lit (.bool false)], args := [d] }
  | _ => none }
def FnFreeForNoneWrongFalsely : Prop := fnFreeForNoneRow.holds Try.pinned (OpenSpec.ofChange fnFreeForNoneWrong)

/-- 'laws.FnAddLeaseOrder': WHATEVER THE INPUT: true; the input reads as it did. -/
def fnAddLeaseOrderSpec : ChangeSpec := { name := "fnAddLeaseOrder", fn := fun _ => fun
  | [d] => { results := [.lit (.bool true)], args := [d] }
  | _ => none }
def fnAddLeaseOrderRow : OpenClaim := { program := "ytgfblbpiokiagaa", sum := "6e2b7536aa00c2ef089070347019aed06f3a2dc871a2f0e7c5294087f20290c6", func := "loop.example/connectionpool/laws.FnAddLeaseOrder", spec := "fnAddLeaseOrder", unfollowed := true, recurses := true, apart := false }
def FnAddLeaseOrderSaid : Prop := fnAddLeaseOrderRow.holds Try.pinned (OpenSpec.ofChange fnAddLeaseOrderSpec)

/-- ITS FALSE NEIGHBOUR: 'it returns false'. Refute it at one input. -/
def fnAddLeaseOrderWrong : ChangeSpec := { name := "fnAddLeaseOrder", fn := fun _ => fun
  | [d] => { results := [.lit (.bool false)], args := [d] }
  | _ => none }
def FnAddLeaseOrderWrongFalsely : Prop := fnAddLeaseOrderRow.holds Try.pinned (OpenSpec.ofChange fnAddLeaseOrderWrong)

/-- 'laws.FnAddLeaseTwice': WHATEVER THE INPUT: true; the input reads as it did. -/
def fnAddLeaseTwiceSpec : ChangeSpec := { name := "fnAddLeaseTwice", fn := fun _ => fun
  | [d] => { results := [.lit (.bool true)], args := [d] }
  | _ => none }
def fnAddLeaseTwiceRow : OpenClaim := { program := "ytgfblbpiokiagaa", sum := "6e2b7536aa00c2ef089070347019aed06f3a2dc871a2f0e7c5294087f20290c6", func := "loop.example/connectionpool/laws.FnAddLeaseTwice", spec := "fnAddLeaseTwice", unfollowed := true, recurses := true, apart := false }
def FnAddLeaseTwiceSaid : Prop := fnAddLeaseTwiceRow.holds Try.pinned (OpenSpec.ofChange fnAddLeaseTwiceSpec)

/-- ITS FALSE NEIGHBOUR: 'it returns false'. Refute it at one input. -/
def fnAddLeaseTwiceWrong : ChangeSpec := { name := "fnAddLeaseTwice", fn := fun _ => fun
  | [d] => { results := [.lit (.bool false)], args := [d] }
  | _ => none }
def FnAddLeaseTwiceWrongFalsely : Prop := fnAddLeaseTwiceRow.holds Try.pinned (OpenSpec.ofChange fnAddLeaseTwiceWrong)

/-- 'laws.FnFreeFor': WHATEVER THE INPUT: true; the input reads as it did. -/
def fnFreeForSpec : ChangeSpec := { name := "fnFreeFor", fn := fun _ => fun
  | [d] => { results := [.lit (.bool true)], args := [d] }
  | _ => none }
def fnFreeForRow : OpenClaim := { program := "ytgfblbpiokiagaa", sum := "6e2b7536aa00c2ef089070347019aed06f3a2dc871a2f0e7c5294087f20290c6", func := "loop.example/connectionpool/laws.FnFreeFor", spec := "fnFreeFor", unfollowed := true, recurses := true, apart := false }
def FnFreeForSaid : Prop := fnFreeForRow.holds Try.pinned (OpenSpec.ofChange fnFreeForSpec)

/-- ITS FALSE NEIGHBOUR: 'it returns false'. Refute it at one input. -/
def fnFreeForWrong : ChangeSpec := { name := "fnFreeFor", fn := fun _ => fun
  | [d] => { results := [.lit (.bool false)], args := [d] }
  | _ => none }
def FnFreeForWrongFalsely : Prop := fnFreeForRow.holds Try.pinned (OpenSpec.ofChange fnFreeForWrong)

/-- 'laws.FnOwnerAtBusy': WHATEVER THE INPUT: true; the input reads as it did. -/
def fnOwnerAtBusySpec : ChangeSpec := { name := "fnOwnerAtBusy", fn := fun _ => fun
  | [d] => { results := [.lit (.bool true)], args := [d] }
  | _ => none }
def fnOwnerAtBusyRow : OpenClaim := { program := "ytgfblbpiokiagaa", sum := "6e2b7536aa00c2ef089070347019aed06f3a2dc871a2f0e7c5294087f20290c6", func := "loop.example/connectionpool/laws.FnOwnerAtBusy", spec := "fnOwnerAtBusy", unfollowed := true, recurses := true, apart := false }
def FnOwnerAtBusySaid : Prop := fnOwnerAtBusyRow.holds Try.pinned (OpenSpec.ofChange fnOwnerAtBusySpec)

/-- ITS FALSE NEIGHBOUR: 'it returns false'. Refute it at one input. -/
def fnOwnerAtBusyWrong : ChangeSpec := { name := "fnOwnerAtBusy", fn := fun _ => fun
  | [d] => { results := [.lit (.bool false)], args := [d] }
  | _ => none }
def FnOwnerAtBusyWrongFalsely : Prop := fnOwnerAtBusyRow.holds Try.pinned (OpenSpec.ofChange fnOwnerAtBusyWrong)

/-- 'laws.FnAddLease': WHATEVER THE INPUT: true; the input reads as it did. -/
def fnAddLeaseSpec : ChangeSpec := { name := "fnAddLease", fn := fun _ => fun
  | [d] => { results := [.lit (.bool true)], args := [d] }
  | _ => none }
def fnAddLeaseRow : OpenClaim := { program := "ytgfblbpiokiagaa", sum := "6e2b7536aa00c2ef089070347019aed06f3a2dc871a2f0e7c5294087f20290c6", func := "loop.example/connectionpool/laws.FnAddLease", spec := "fnAddLease", unfollowed := true, recurses := true, apart := false }
def FnAddLeaseSaid : Prop := fnAddLeaseRow.holds Try.pinned (OpenSpec.ofChange fnAddLeaseSpec)

/-- ITS FALSE NEIGHBOUR: 'it returns false'. Refute it at one input. -/
def fnAddLeaseWrong : ChangeSpec := { name := "fnAddLease", fn := fun _ => fun
  | [d] => { results := [.lit (.bool false)], args := [d] }
  | _ => none }
def FnAddLeaseWrongFalsely : Prop := fnAddLeaseRow.holds Try.pinned (OpenSpec.ofChange fnAddLeaseWrong)

/-- 'laws.FnExactAddLease': WHATEVER THE INPUT: true; the input reads as it did. -/
def fnExactAddLeaseSpec : ChangeSpec := { name := "fnExactAddLease", fn := fun _ => fun
  | [d1, d2] => { results := [.lit (.bool true)], args := [d1, d2] }
  | _ => none }
def fnExactAddLeaseRow : OpenClaim := { program := "ytgfblbpiokiagaa", sum := "6e2b7536aa00c2ef089070347019aed06f3a2dc871a2f0e7c5294087f20290c6", func := "loop.example/connectionpool/laws.FnExactAddLease", spec := "fnExactAddLease", unfollowed := true, recurses := true, apart := false }
def FnExactAddLeaseSaid : Prop := fnExactAddLeaseRow.holds Try.pinned (OpenSpec.ofChange fnExactAddLeaseSpec)

/-- ITS FALSE NEIGHBOUR: 'it returns false'. Refute it at one input. -/
def fnExactAddLeaseWrong : ChangeSpec := { name := "fnExactAddLease", fn := fun _ => fun
  | [d1, d2] => { results := [.lit (.bool false)], args := [d1, d2] }
  | _ => none }
def FnExactAddLeaseWrongFalsely : Prop := fnExactAddLeaseRow.holds Try.pinned (OpenSpec.ofChange fnExactAddLeaseWrong)

/-- 'laws.FnBusyAtPart': WHATEVER THE INPUT: true; the input reads as it did. -/
def fnBusyAtPartSpec : ChangeSpec := { name := "fnBusyAtPart", fn := fun _ => fun
  | [d] => { results := [.lit (.bool true)], args := [d] }
  | _ => none }
def fnBusyAtPartRow : OpenClaim := { program := "ytgfblbpiokiagaa", sum := "6e2b7536aa00c2ef089070347019aed06f3a2dc871a2f0e7c5294087f20290c6", func := "loop.example/connectionpool/laws.FnBusyAtPart", spec := "fnBusyAtPart", unfollowed := true, recurses := true, apart := false }
def FnBusyAtPartSaid : Prop := fnBusyAtPartRow.holds Try.pinned (OpenSpec.ofChange fnBusyAtPartSpec)

/-- ITS FALSE NEIGHBOUR: 'it returns false'. Refute it at one input. -/
def fnBusyAtPartWrong : ChangeSpec := { name := "fnBusyAtPart", fn := fun _ => fun
  | [d] => { results := [.lit (.bool false)], args := [d] }
  | _ => none }
def FnBusyAtPartWrongFalsely : Prop := fnBusyAtPartRow.holds Try.pinned (OpenSpec.ofChange fnBusyAtPartWrong)

/-- 'laws.FnExactBusyAt': WHATEVER THE INPUT: true; the input reads as it did. -/
def fnExactBusyAtSpec : ChangeSpec := { name := "fnExactBusyAt", fn := fun _ => fun
  | [d1, d2] => { results := [.lit (.bool true)], args := [d1, d2] }
  | _ => none }
def fnExactBusyAtRow : OpenClaim := { program := "ytgfblbpiokiagaa", sum := "6e2b7536aa00c2ef089070347019aed06f3a2dc871a2f0e7c5294087f20290c6", func := "loop.example/connectionpool/laws.FnExactBusyAt", spec := "fnExactBusyAt", unfollowed := true, recurses := true, apart := false }
def FnExactBusyAtSaid : Prop := fnExactBusyAtRow.holds Try.pinned (OpenSpec.ofChange fnExactBusyAtSpec)

/-- ITS FALSE NEIGHBOUR: 'it returns false'. Refute it at one input. -/
def fnExactBusyAtWrong : ChangeSpec := { name := "fnExactBusyAt", fn := fun _ => fun
  | [d1, d2] => { results := [.lit (.bool false)], args := [d1, d2] }
  | _ => none }
def FnExactBusyAtWrongFalsely : Prop := fnExactBusyAtRow.holds Try.pinned (OpenSpec.ofChange fnExactBusyAtWrong)

/- THE SECOND FORM. 'bulk': how many values and letters a reading holds, each counted each time it is reached (what is shared counts as often as it is met; a slice's spare places count too). A statement '..UptoSaid' is the law's where the arguments, and the package variables that the reading takes, are together of bulk at most 1048576: NARROWER than '..Said'. Prove '..Said' where nothing that the law and all that it calls make is longer than what came in: it says more and counts as full. Else prove '..UptoSaid'. A law counts once. -/
mutual
def uptoBulk {H : Type} : DataW H → Nat
  | .lit (.string bytes) => bytes.length + 1
  | .lit _ => 1
  | .nil => 1
  | .ptr d => uptoBulk d + 1
  | .slice elems spare => uptoBulkAll elems + uptoBulkAll spare + 1
  | .agg parts => uptoBulkAll parts + 1
  | .iface _ d => uptoBulk d + 1
  | .map entries => uptoBulkEntries entries + 1
  | .held _ => 1
def uptoBulkAll {H : Type} : List (DataW H) → Nat
  | [] => 0
  | d :: r => uptoBulk d + uptoBulkAll r
def uptoBulkEntries {H : Type} : List (Lit × DataW H) → Nat
  | [] => 0
  | x :: r => uptoBulkEntry x + uptoBulkEntries r
def uptoBulkEntry {H : Type} : Lit × DataW H → Nat
  | (.string bytes, d) => bytes.length + uptoBulk d + 1
  | (_, d) => uptoBulk d + 1
 end
def uptoSmall : (H : Type) → List (DataW H) → Bool := fun _ ds => decide (uptoBulkAll ds ≤ 1048576)
def OpenSpec.upto (s : _root_.Go.ChangeSpec) : _root_.Go.OpenSpec := { _root_.Go.OpenSpec.ofChange s with cond := some uptoSmall }

/-- 'laws.FnExactValidLeases', WHERE WHAT IT READS IS OF BULK AT MOST 1048576: true; the input reads as it did. -/
def fnExactValidLeasesUptoRow : OpenClaim := { program := "ytgfblbpiokiagaa", sum := "6e2b7536aa00c2ef089070347019aed06f3a2dc871a2f0e7c5294087f20290c6", func := "loop.example/connectionpool/laws.FnExactValidLeases", spec := "fnExactValidLeases", unfollowed := true, recurses := true, apart := false, narrowed := true }
def FnExactValidLeasesUptoSaid : Prop := fnExactValidLeasesUptoRow.holds Try.pinned (OpenSpec.upto fnExactValidLeasesSpec)

/-- 'laws.FnValidLeases', WHERE WHAT IT READS IS OF BULK AT MOST 1048576: true; the input reads as it did. -/
def fnValidLeasesUptoRow : OpenClaim := { program := "ytgfblbpiokiagaa", sum := "6e2b7536aa00c2ef089070347019aed06f3a2dc871a2f0e7c5294087f20290c6", func := "loop.example/connectionpool/laws.FnValidLeases", spec := "fnValidLeases", unfollowed := true, recurses := true, apart := false, narrowed := true }
def FnValidLeasesUptoSaid : Prop := fnValidLeasesUptoRow.holds Try.pinned (OpenSpec.upto fnValidLeasesSpec)

/-- 'laws.FnValidLeasesShort', WHERE WHAT IT READS IS OF BULK AT MOST 1048576: true; the input reads as it did. -/
def fnValidLeasesShortUptoRow : OpenClaim := { program := "ytgfblbpiokiagaa", sum := "6e2b7536aa00c2ef089070347019aed06f3a2dc871a2f0e7c5294087f20290c6", func := "loop.example/connectionpool/laws.FnValidLeasesShort", spec := "fnValidLeasesShort", unfollowed := true, recurses := true, apart := false, narrowed := true }
def FnValidLeasesShortUptoSaid : Prop := fnValidLeasesShortUptoRow.holds Try.pinned (OpenSpec.upto fnValidLeasesShortSpec)

/-- 'laws.FnExactLeasedTime', WHERE WHAT IT READS IS OF BULK AT MOST 1048576: true; the input reads as it did. -/
def fnExactLeasedTimeUptoRow : OpenClaim := { program := "ytgfblbpiokiagaa", sum := "6e2b7536aa00c2ef089070347019aed06f3a2dc871a2f0e7c5294087f20290c6", func := "loop.example/connectionpool/laws.FnExactLeasedTime", spec := "fnExactLeasedTime", unfollowed := true, recurses := true, apart := false, narrowed := true }
def FnExactLeasedTimeUptoSaid : Prop := fnExactLeasedTimeUptoRow.holds Try.pinned (OpenSpec.upto fnExactLeasedTimeSpec)

/-- 'laws.FnExactOwnerAt', WHERE WHAT IT READS IS OF BULK AT MOST 1048576: true; the input reads as it did. -/
def fnExactOwnerAtUptoRow : OpenClaim := { program := "ytgfblbpiokiagaa", sum := "6e2b7536aa00c2ef089070347019aed06f3a2dc871a2f0e7c5294087f20290c6", func := "loop.example/connectionpool/laws.FnExactOwnerAt", spec := "fnExactOwnerAt", unfollowed := true, recurses := true, apart := false, narrowed := true }
def FnExactOwnerAtUptoSaid : Prop := fnExactOwnerAtUptoRow.holds Try.pinned (OpenSpec.upto fnExactOwnerAtSpec)

/-- 'laws.FnExactFreeFor', WHERE WHAT IT READS IS OF BULK AT MOST 1048576: true; the input reads as it did. -/
def fnExactFreeForUptoRow : OpenClaim := { program := "ytgfblbpiokiagaa", sum := "6e2b7536aa00c2ef089070347019aed06f3a2dc871a2f0e7c5294087f20290c6", func := "loop.example/connectionpool/laws.FnExactFreeFor", spec := "fnExactFreeFor", unfollowed := true, recurses := true, apart := false, narrowed := true }
def FnExactFreeForUptoSaid : Prop := fnExactFreeForUptoRow.holds Try.pinned (OpenSpec.upto fnExactFreeForSpec)

/-- 'laws.FnLeasedTime', WHERE WHAT IT READS IS OF BULK AT MOST 1048576: true; the input reads as it did. -/
def fnLeasedTimeUptoRow : OpenClaim := { program := "ytgfblbpiokiagaa", sum := "6e2b7536aa00c2ef089070347019aed06f3a2dc871a2f0e7c5294087f20290c6", func := "loop.example/connectionpool/laws.FnLeasedTime", spec := "fnLeasedTime", unfollowed := true, recurses := true, apart := false, narrowed := true }
def FnLeasedTimeUptoSaid : Prop := fnLeasedTimeUptoRow.holds Try.pinned (OpenSpec.upto fnLeasedTimeSpec)

/-- 'laws.FnLeasedTimeMost', WHERE WHAT IT READS IS OF BULK AT MOST 1048576: true; the input reads as it did. -/
def fnLeasedTimeMostUptoRow : OpenClaim := { program := "ytgfblbpiokiagaa", sum := "6e2b7536aa00c2ef089070347019aed06f3a2dc871a2f0e7c5294087f20290c6", func := "loop.example/connectionpool/laws.FnLeasedTimeMost", spec := "fnLeasedTimeMost", unfollowed := true, recurses := true, apart := false, narrowed := true }
def FnLeasedTimeMostUptoSaid : Prop := fnLeasedTimeMostUptoRow.holds Try.pinned (OpenSpec.upto fnLeasedTimeMostSpec)

/-- 'laws.FnOwnerAt', WHERE WHAT IT READS IS OF BULK AT MOST 1048576: true; the input reads as it did. -/
def fnOwnerAtUptoRow : OpenClaim := { program := "ytgfblbpiokiagaa", sum := "6e2b7536aa00c2ef089070347019aed06f3a2dc871a2f0e7c5294087f20290c6", func := "loop.example/connectionpool/laws.FnOwnerAt", spec := "fnOwnerAt", unfollowed := true, recurses := true, apart := false, narrowed := true }
def FnOwnerAtUptoSaid : Prop := fnOwnerAtUptoRow.holds Try.pinned (OpenSpec.upto fnOwnerAtSpec)

/-- 'laws.FnOwnerAtNone', WHERE WHAT IT READS IS OF BULK AT MOST 1048576: true; the input reads as it did. -/
def fnOwnerAtNoneUptoRow : OpenClaim := { program := "ytgfblbpiokiagaa", sum := "6e2b7536aa00c2ef089070347019aed06f3a2dc871a2f0e7c5294087f20290c6", func := "loop.example/connectionpool/laws.FnOwnerAtNone", spec := "fnOwnerAtNone", unfollowed := true, recurses := true, apart := false, narrowed := true }
def FnOwnerAtNoneUptoSaid : Prop := fnOwnerAtNoneUptoRow.holds Try.pinned (OpenSpec.upto fnOwnerAtNoneSpec)

/-- 'laws.FnFreeForNone', WHERE WHAT IT READS IS OF BULK AT MOST 1048576: true; the input reads as it did. -/
def fnFreeForNoneUptoRow : OpenClaim := { program := "ytgfblbpiokiagaa", sum := "6e2b7536aa00c2ef089070347019aed06f3a2dc871a2f0e7c5294087f20290c6", func := "loop.example/connectionpool/laws.FnFreeForNone", spec := "fnFreeForNone", unfollowed := true, recurses := true, apart := false, narrowed := true }
def FnFreeForNoneUptoSaid : Prop := fnFreeForNoneUptoRow.holds Try.pinned (OpenSpec.upto fnFreeForNoneSpec)

/-- 'laws.FnAddLeaseOrder', WHERE WHAT IT READS IS OF BULK AT MOST 1048576: true; the input reads as it did. -/
def fnAddLeaseOrderUptoRow : OpenClaim := { program := "ytgfblbpiokiagaa", sum := "6e2b7536aa00c2ef089070347019aed06f3a2dc871a2f0e7c5294087f20290c6", func := "loop.example/connectionpool/laws.FnAddLeaseOrder", spec := "fnAddLeaseOrder", unfollowed := true, recurses := true, apart := false, narrowed := true }
def FnAddLeaseOrderUptoSaid : Prop := fnAddLeaseOrderUptoRow.holds Try.pinned (OpenSpec.upto fnAddLeaseOrderSpec)

/-- 'laws.FnAddLeaseTwice', WHERE WHAT IT READS IS OF BULK AT MOST 1048576: true; the input reads as it did. -/
def fnAddLeaseTwiceUptoRow : OpenClaim := { program := "ytgfblbpiokiagaa", sum := "6e2b7536aa00c2ef089070347019aed06f3a2dc871a2f0e7c5294087f20290c6", func := "loop.example/connectionpool/laws.FnAddLeaseTwice", spec := "fnAddLeaseTwice", unfollowed := true, recurses := true, apart := false, narrowed := true }
def FnAddLeaseTwiceUptoSaid : Prop := fnAddLeaseTwiceUptoRow.holds Try.pinned (OpenSpec.upto fnAddLeaseTwiceSpec)

/-- 'laws.FnFreeFor', WHERE WHAT IT READS IS OF BULK AT MOST 1048576: true; the input reads as it did. -/
def fnFreeForUptoRow : OpenClaim := { program := "ytgfblbpiokiagaa", sum := "6e2b7536aa00c2ef089070347019aed06f3a2dc871a2f0e7c5294087f20290c6", func := "loop.example/connectionpool/laws.FnFreeFor", spec := "fnFreeFor", unfollowed := true, recurses := true, apart := false, narrowed := true }
def FnFreeForUptoSaid : Prop := fnFreeForUptoRow.holds Try.pinned (OpenSpec.upto fnFreeForSpec)

/-- 'laws.FnOwnerAtBusy', WHERE WHAT IT READS IS OF BULK AT MOST 1048576: true; the input reads as it did. -/
def fnOwnerAtBusyUptoRow : OpenClaim := { program := "ytgfblbpiokiagaa", sum := "6e2b7536aa00c2ef089070347019aed06f3a2dc871a2f0e7c5294087f20290c6", func := "loop.example/connectionpool/laws.FnOwnerAtBusy", spec := "fnOwnerAtBusy", unfollowed := true, recurses := true, apart := false, narrowed := true }
def FnOwnerAtBusyUptoSaid : Prop := fnOwnerAtBusyUptoRow.holds Try.pinned (OpenSpec.upto fnOwnerAtBusySpec)

/-- 'laws.FnAddLease', WHERE WHAT IT READS IS OF BULK AT MOST 1048576: true; the input reads as it did. -/
def fnAddLeaseUptoRow : OpenClaim := { program := "ytgfblbpiokiagaa", sum := "6e2b7536aa00c2ef089070347019aed06f3a2dc871a2f0e7c5294087f20290c6", func := "loop.example/connectionpool/laws.FnAddLease", spec := "fnAddLease", unfollowed := true, recurses := true, apart := false, narrowed := true }
def FnAddLeaseUptoSaid : Prop := fnAddLeaseUptoRow.holds Try.pinned (OpenSpec.upto fnAddLeaseSpec)

/-- 'laws.FnExactAddLease', WHERE WHAT IT READS IS OF BULK AT MOST 1048576: true; the input reads as it did. -/
def fnExactAddLeaseUptoRow : OpenClaim := { program := "ytgfblbpiokiagaa", sum := "6e2b7536aa00c2ef089070347019aed06f3a2dc871a2f0e7c5294087f20290c6", func := "loop.example/connectionpool/laws.FnExactAddLease", spec := "fnExactAddLease", unfollowed := true, recurses := true, apart := false, narrowed := true }
def FnExactAddLeaseUptoSaid : Prop := fnExactAddLeaseUptoRow.holds Try.pinned (OpenSpec.upto fnExactAddLeaseSpec)

/-- 'laws.FnBusyAtPart', WHERE WHAT IT READS IS OF BULK AT MOST 1048576: true; the input reads as it did. -/
def fnBusyAtPartUptoRow : OpenClaim := { program := "ytgfblbpiokiagaa", sum := "6e2b7536aa00c2ef089070347019aed06f3a2dc871a2f0e7c5294087f20290c6", func := "loop.example/connectionpool/laws.FnBusyAtPart", spec := "fnBusyAtPart", unfollowed := true, recurses := true, apart := false, narrowed := true }
def FnBusyAtPartUptoSaid : Prop := fnBusyAtPartUptoRow.holds Try.pinned (OpenSpec.upto fnBusyAtPartSpec)

/-- 'laws.FnExactBusyAt', WHERE WHAT IT READS IS OF BULK AT MOST 1048576: true; the input reads as it did. -/
def fnExactBusyAtUptoRow : OpenClaim := { program := "ytgfblbpiokiagaa", sum := "6e2b7536aa00c2ef089070347019aed06f3a2dc871a2f0e7c5294087f20290c6", func := "loop.example/connectionpool/laws.FnExactBusyAt", spec := "fnExactBusyAt", unfollowed := true, recurses := true, apart := false, narrowed := true }
def FnExactBusyAtUptoSaid : Prop := fnExactBusyAtUptoRow.holds Try.pinned (OpenSpec.upto fnExactBusyAtSpec)

end Rows
end Go.Proofs.Ytgfblbpiokiagaa
