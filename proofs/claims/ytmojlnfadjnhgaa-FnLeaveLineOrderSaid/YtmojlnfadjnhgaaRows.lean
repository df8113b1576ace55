/-
  No cell of these rows narrows 'for every input' (looked for: loops, veiled, ifaces, maps, wideKeys, modest, calm, conditions, laid).
  DERIVED. THE GIVEN ROWS OF THIS SEAT. 20 by the template 'for every input the law returns true; each argument reads behind the call as it read before'; 0 by the template 'total and deterministic' (their statements: YtmojlnfadjnhgaaTotals.lean).
  GIVEN WITH THE SEED: the statements are not yours to turn. If you find one false, say at which input.
  Laid BY PROGRAM, IN A SANDBOX (cutbox-rows.mjs): the forced cells as the released guide's own fill.sh prints them over the translation f63bcbe74690c877… (all of the seat's roots in one cut). By AI agents, Wed Nov 11 2026. No macro, syntax, notation, axiom, sorry.
-/
import Derived.Test.YtmojlnfadjnhgaaChecked
import GoSem.Claim
import GoSem.ClaimJoined
import GoSem.ClaimMapViews
import Derived.JoinedTies
import Derived.KernelRfl
namespace Go.Proofs.Ytmojlnfadjnhgaa
/- THE CELL 'sum', in the pinned program and in every row, IS THE sha256 OF THE DUMP (.gsa) THAT YtmojlnfadjnhgaaProg.lean LOADS. Nothing in Lean hashes anything: it is a label: what it is worth is what the hold of that sum in a sandbox is worth. -/
noncomputable def Try.pinned : Pinned := { name := "ytmojlnfadjnhgaa", sum := "f63bcbe74690c87767e52273f4ee6247e6c70d884c01cf92d1e1571f44a84580", checked := Try.checked }
namespace Rows
def none {H : Type} : Left H := { results := [], args := [] }

/-- 'laws.FnTakeTicketLeave': WHATEVER THE INPUT: true; the input reads as it did. -/
def fnTakeTicketLeaveSpec : ChangeSpec := { name := "fnTakeTicketLeave", fn := fun _ => fun
  | [d] => { results := [.lit (.bool true)], args := [d] }
  | _ => none }
def fnTakeTicketLeaveRow : OpenClaim := { program := "ytmojlnfadjnhgaa", sum := "f63bcbe74690c87767e52273f4ee6247e6c70d884c01cf92d1e1571f44a84580", func := "loop.example/connectionpool/laws.FnTakeTicketLeave", spec := "fnTakeTicketLeave", unfollowed := true, recurses := true, apart := false }
def FnTakeTicketLeaveSaid : Prop := fnTakeTicketLeaveRow.holds Try.pinned (OpenSpec.ofChange fnTakeTicketLeaveSpec)

/-- ITS FALSE NEIGHBOUR: 'it returns false'. Refute it at one input. -/
def fnTakeTicketLeaveWrong : ChangeSpec := { name := "fnTakeTicketLeave", fn := fun _ => fun
  | [d] => { results := [.lit (.bool false)], args := [d] }
  | _ => none }
def FnTakeTicketLeaveWrongFalsely : Prop := fnTakeTicketLeaveRow.holds Try.pinned (OpenSpec.ofChange fnTakeTicketLeaveWrong)

/-- 'laws.FnExactValidLine': WHATEVER THE INPUT: true; the input reads as it did. -/
def fnExactValidLineSpec : ChangeSpec := { name := "fnExactValidLine", fn := fun _ => fun
  | [d] => { results := [.lit (.bool true)], args := [d] }
  | _ => none }
def fnExactValidLineRow : OpenClaim := { program := "ytmojlnfadjnhgaa", sum := "f63bcbe74690c87767e52273f4ee6247e6c70d884c01cf92d1e1571f44a84580", func := "loop.example/connectionpool/laws.FnExactValidLine", spec := "fnExactValidLine", unfollowed := true, recurses := true, apart := false }
def FnExactValidLineSaid : Prop := fnExactValidLineRow.holds Try.pinned (OpenSpec.ofChange fnExactValidLineSpec)

/-- ITS FALSE NEIGHBOUR: 'it returns false'. Refute it at one input. -/
def fnExactValidLineWrong : ChangeSpec := { name := "fnExactValidLine", fn := fun _ => fun
  | [d] => { results := [.lit (.bool false)], args := [d] }
  | _ => none }
def FnExactValidLineWrongFalsely : Prop := fnExactValidLineRow.holds Try.pinned (OpenSpec.ofChange fnExactValidLineWrong)

/-- 'laws.FnLeaveLine': WHATEVER THE INPUT: true; the input reads as it did. -/
def fnLeaveLineSpec : ChangeSpec := { name := "fnLeaveLine", fn := fun _ => fun
  | [d] => { results := [.lit (.bool true)], args := [d] }
  | _ => none }
def fnLeaveLineRow : OpenClaim := { program := "ytmojlnfadjnhgaa", sum := "f63bcbe74690c87767e52273f4ee6247e6c70d884c01cf92d1e1571f44a84580", func := "loop.example/connectionpool/laws.FnLeaveLine", spec := "fnLeaveLine", unfollowed := true, recurses := true, apart := false }
def FnLeaveLineSaid : Prop := fnLeaveLineRow.holds Try.pinned (OpenSpec.ofChange fnLeaveLineSpec)

/-- ITS FALSE NEIGHBOUR: 'it returns false'. Refute it at one input. -/
def fnLeaveLineWrong : ChangeSpec := { name := "fnLeaveLine", fn := fun _ => fun
  | [d] => { results := [.lit (.bool false)], args := [d] }
  | _ => none }
def FnLeaveLineWrongFalsely : Prop := fnLeaveLineRow.holds Try.pinned (OpenSpec.ofChange fnLeaveLineWrong)

/-- 'laws.FnValidLine': WHATEVER THE INPUT: true; the input reads as it did. -/
def fnValidLineSpec : ChangeSpec := { name := "fnValidLine", fn := fun _ => fun
  | [d] => { results := [.lit (.bool true)], args := [d] }
  | _ => none }
def fnValidLineRow : OpenClaim := { program := "ytmojlnfadjnhgaa", sum := "f63bcbe74690c87767e52273f4ee6247e6c70d884c01cf92d1e1571f44a84580", func := "loop.example/connectionpool/laws.FnValidLine", spec := "fnValidLine", unfollowed := true, recurses := true, apart := false }
def FnValidLineSaid : Prop := fnValidLineRow.holds Try.pinned (OpenSpec.ofChange fnValidLineSpec)

/-- ITS FALSE NEIGHBOUR: 'it returns false'. Refute it at one input. -/
def fnValidLineWrong : ChangeSpec := { name := "fnValidLine", fn := fun _ => fun
  | [d] => { results := [.lit (.bool false)], args := [d] }
  | _ => none }
def FnValidLineWrongFalsely : Prop := fnValidLineRow.holds Try.pinned (OpenSpec.ofChange fnValidLineWrong)

/-- 'laws.FnCallNextLeave': WHATEVER THE INPUT: true; the input reads as it did. -/
def fnCallNextLeaveSpec : ChangeSpec := { name := "fnCallNextLeave", fn := fun _ => fun
  | [d] => { results := [.lit (.bool true)], args := [d] }
  | _ => none }
def fnCallNextLeaveRow : OpenClaim := { program := "ytmojlnfadjnhgaa", sum := "f63bcbe74690c87767e52273f4ee6247e6c70d884c01cf92d1e1571f44a84580", func := "loop.example/connectionpool/laws.FnCallNextLeave", spec := "fnCallNextLeave", unfollowed := true, recurses := true, apart := false }
def FnCallNextLeaveSaid : Prop := fnCallNextLeaveRow.holds Try.pinned (OpenSpec.ofChange fnCallNextLeaveSpec)

/-- ITS FALSE NEIGHBOUR: 'it returns false'. Refute it at one input. -/
def fnCallNextLeaveWrong : ChangeSpec := { name := "fnCallNextLeave", fn := fun _ => fun
  | [d] => { results := [.lit (.bool false)], args := [d] }
  | _ => none }
def FnCallNextLeaveWrongFalsely : Prop := fnCallNextLeaveRow.holds Try.pinned (OpenSpec.ofChange fnCallNextLeaveWrong)

/-- 'laws.FnExactPlaceInLine': WHATEVER THE INPUT: true; the input reads as it did. -/
def fnExactPlaceInLineSpec : ChangeSpec := { name := "fnExactPlaceInLine", fn := fun _ => fun
  | [d1, d2] => { results := [.lit (.bool true)], args := [d1, d2] }
  | _ => none }
def fnExactPlaceInLineRow : OpenClaim := { program := "ytmojlnfadjnhgaa", sum := "f63bcbe74690c87767e52273f4ee6247e6c70d884c01cf92d1e1571f44a84580", func := "loop.example/connectionpool/laws.FnExactPlaceInLine", spec := "fnExactPlaceInLine", unfollowed := true, recurses := true, apart := false }
def FnExactPlaceInLineSaid : Prop := fnExactPlaceInLineRow.holds Try.pinned (OpenSpec.ofChange fnExactPlaceInLineSpec)

/-- ITS FALSE NEIGHBOUR: 'it returns false'. Refute it at one input. -/
def fnExactPlaceInLineWrong : ChangeSpec := { name := "fnExactPlaceInLine", fn := fun _ => fun
  | [d1, d2] => { results := [.lit (.bool false)], args := [d1, d2] }
  | _ => none }
def FnExactPlaceInLineWrongFalsely : Prop := fnExactPlaceInLineRow.holds Try.pinned (OpenSpec.ofChange fnExactPlaceInLineWrong)

/-- 'laws.FnExactTakeTicket': WHATEVER THE INPUT: true; the input reads as it did. -/
def fnExactTakeTicketSpec : ChangeSpec := { name := "fnExactTakeTicket", fn := fun _ => fun
  | [d] => { results := [.lit (.bool true)], args := [d] }
  | _ => none }
def fnExactTakeTicketRow : OpenClaim := { program := "ytmojlnfadjnhgaa", sum := "f63bcbe74690c87767e52273f4ee6247e6c70d884c01cf92d1e1571f44a84580", func := "loop.example/connectionpool/laws.FnExactTakeTicket", spec := "fnExactTakeTicket", unfollowed := true, recurses := true, apart := false }
def FnExactTakeTicketSaid : Prop := fnExactTakeTicketRow.holds Try.pinned (OpenSpec.ofChange fnExactTakeTicketSpec)

/-- ITS FALSE NEIGHBOUR: 'it returns false'. Refute it at one input. -/
def fnExactTakeTicketWrong : ChangeSpec := { name := "fnExactTakeTicket", fn := fun _ => fun
  | [d] => { results := [.lit (.bool false)], args := [d] }
  | _ => none }
def FnExactTakeTicketWrongFalsely : Prop := fnExactTakeTicketRow.holds Try.pinned (OpenSpec.ofChange fnExactTakeTicketWrong)

/-- 'laws.FnExactWaitingTickets': WHATEVER THE INPUT: true; the input reads as it did. -/
def fnExactWaitingTicketsSpec : ChangeSpec := { name := "fnExactWaitingTickets", fn := fun _ => fun
  | [d] => { results := [.lit (.bool true)], args := [d] }
  | _ => none }
def fnExactWaitingTicketsRow : OpenClaim := { program := "ytmojlnfadjnhgaa", sum := "f63bcbe74690c87767e52273f4ee6247e6c70d884c01cf92d1e1571f44a84580", func := "loop.example/connectionpool/laws.FnExactWaitingTickets", spec := "fnExactWaitingTickets", unfollowed := true, recurses := true, apart := false }
def FnExactWaitingTicketsSaid : Prop := fnExactWaitingTicketsRow.holds Try.pinned (OpenSpec.ofChange fnExactWaitingTicketsSpec)

/-- ITS FALSE NEIGHBOUR: 'it returns false'. Refute it at one input. -/
def fnExactWaitingTicketsWrong : ChangeSpec := { name := "fnExactWaitingTickets", fn := fun _ => fun
  | [d] => { results := [.lit (.bool false)], args := [d] }
  | _ => none }
def FnExactWaitingTicketsWrongFalsely : Prop := fnExactWaitingTicketsRow.holds Try.pinned (OpenSpec.ofChange fnExactWaitingTicketsWrong)

/-- 'laws.FnTakeTicketFull': WHATEVER THE INPUT: true; the input reads as it did. -/
def fnTakeTicketFullSpec : ChangeSpec := { name := "fnTakeTicketFull", fn := fun _ => fun
  | [d] => { results := [.lit (.bool true)], args := [d] }
  | _ => none }
def fnTakeTicketFullRow : OpenClaim := { program := "ytmojlnfadjnhgaa", sum := "f63bcbe74690c87767e52273f4ee6247e6c70d884c01cf92d1e1571f44a84580", func := "loop.example/connectionpool/laws.FnTakeTicketFull", spec := "fnTakeTicketFull", unfollowed := true, recurses := true, apart := false }
def FnTakeTicketFullSaid : Prop := fnTakeTicketFullRow.holds Try.pinned (OpenSpec.ofChange fnTakeTicketFullSpec)

/-- ITS FALSE NEIGHBOUR: 'it returns false'. Refute it at one input. -/
def fnTakeTicketFullWrong : ChangeSpec := { name := "fnTakeTicketFull", fn := fun _ => fun
  | [d] => { results := [.lit (.bool false)], args := [d] }
  | _ => none }
def FnTakeTicketFullWrongFalsely : Prop := fnTakeTicketFullRow.holds Try.pinned (OpenSpec.ofChange fnTakeTicketFullWrong)

/-- 'laws.FnWaitingTicketsCount': WHATEVER THE INPUT: true; the input reads as it did. -/
def fnWaitingTicketsCountSpec : ChangeSpec := { name := "fnWaitingTicketsCount", fn := fun _ => fun
  | [d] => { results := [.lit (.bool true)], args := [d] }
  | _ => none }
def fnWaitingTicketsCountRow : OpenClaim := { program := "ytmojlnfadjnhgaa", sum := "f63bcbe74690c87767e52273f4ee6247e6c70d884c01cf92d1e1571f44a84580", func := "loop.example/connectionpool/laws.FnWaitingTicketsCount", spec := "fnWaitingTicketsCount", unfollowed := true, recurses := true, apart := false }
def FnWaitingTicketsCountSaid : Prop := fnWaitingTicketsCountRow.holds Try.pinned (OpenSpec.ofChange fnWaitingTicketsCountSpec)

/-- ITS FALSE NEIGHBOUR: 'it returns false'. Refute it at one input. -/
def fnWaitingTicketsCountWrong : ChangeSpec := { name := "fnWaitingTicketsCount", fn := fun _ => fun
  | [d] => { results := [.lit (.bool false)], args := [d] }
  | _ => none }
def FnWaitingTicketsCountWrongFalsely : Prop := fnWaitingTicketsCountRow.holds Try.pinned (OpenSpec.ofChange fnWaitingTicketsCountWrong)

/-- 'laws.FnPlaceInLine': WHATEVER THE INPUT: true; the input reads as it did. -/
def fnPlaceInLineSpec : ChangeSpec := { name := "fnPlaceInLine", fn := fun _ => fun
  | [d] => { results := [.lit (.bool true)], args := [d] }
  | _ => none }
def fnPlaceInLineRow : OpenClaim := { program := "ytmojlnfadjnhgaa", sum := "f63bcbe74690c87767e52273f4ee6247e6c70d884c01cf92d1e1571f44a84580", func := "loop.example/connectionpool/laws.FnPlaceInLine", spec := "fnPlaceInLine", unfollowed := true, recurses := true, apart := false }
def FnPlaceInLineSaid : Prop := fnPlaceInLineRow.holds Try.pinned (OpenSpec.ofChange fnPlaceInLineSpec)

/-- ITS FALSE NEIGHBOUR: 'it returns false'. Refute it at one input. -/
def fnPlaceInLineWrong : ChangeSpec := { name := "fnPlaceInLine", fn := fun _ => fun
  | [d] => { results := [.lit (.bool false)], args := [d] }
  | _ => none }
def FnPlaceInLineWrongFalsely : Prop := fnPlaceInLineRow.holds Try.pinned (OpenSpec.ofChange fnPlaceInLineWrong)

/-- 'laws.FnWaitingTickets': WHATEVER THE INPUT: true; the input reads as it did. -/
def fnWaitingTicketsSpec : ChangeSpec := { name := "fnWaitingTickets", fn := fun _ => fun
  | [d] => { results := [.lit (.bool true)], args := [d] }
  | _ => none }
def fnWaitingTicketsRow : OpenClaim := { program := "ytmojlnfadjnhgaa", sum := "f63bcbe74690c87767e52273f4ee6247e6c70d884c01cf92d1e1571f44a84580", func := "loop.example/connectionpool/laws.FnWaitingTickets", spec := "fnWaitingTickets", unfollowed := true, recurses := true, apart := false }
def FnWaitingTicketsSaid : Prop := fnWaitingTicketsRow.holds Try.pinned (OpenSpec.ofChange fnWaitingTicketsSpec)

/-- ITS FALSE NEIGHBOUR: 'it returns false'. Refute it at one input. -/
def fnWaitingTicketsWrong : ChangeSpec := { name := "fnWaitingTickets", fn := fun _ => fun
  | [d] => { results := [.lit (.bool false)], args := [d] }
  | _ => none }
def FnWaitingTicketsWrongFalsely : Prop := fnWaitingTicketsRow.holds Try.pinned (OpenSpec.ofChange fnWaitingTicketsWrong)

/-- 'laws.FnTakeTicket': WHATEVER THE INPUT: true; the input reads as it did. -/
def fnTakeTicketSpec : ChangeSpec := { name := "fnTakeTicket", fn := fun _ => fun
  | [d] => { results := [.lit (.bool true)], args := [d] }
  | _ => none }
def fnTakeTicketRow : OpenClaim := { program := "ytmojlnfadjnhgaa", sum := "f63bcbe74690c87767e52273f4ee6247e6c70d884c01cf92d1e1571f44a84580", func := "loop.example/connectionpool/laws.FnTakeTicket", spec := "fnTakeTicket", unfollowed := true, recurses := true, apart := false }
def FnTakeTicketSaid : Prop := fnTakeTicketRow.holds Try.pinned (OpenSpec.ofChange fnTakeTicketSpec)

/-- ITS FALSE NEIGHBOUR: 'it returns false'. Refute it at one input. -/
def fnTakeTicketWrong : ChangeSpec := { name := "fnTakeTicket", fn := fun _ => fun
  | [d] => { results := [.lit (.bool false)], args := [d] }
  | _ => none }
def FnTakeTicketWrongFalsely : Prop := fnTakeTicketRow.holds Try.pinned (OpenSpec.ofChange fnTakeTicketWrong)

/-- 'laws.FnExactCallNext': WHATEVER THE INPUT: true; the input reads as it did. -/
def fnExactCallNextSpec : ChangeSpec := { name := "fnExactCallNext", fn := fun _ => fun
  | [d] => { results := [.lit (.bool true)], args := [d] }
  | _ => none }
def fnExactCallNextRow : OpenClaim := { program := "ytmojlnfadjnhgaa", sum := "f63bcbe74690c87767e52273f4ee6247e6c70d884c01cf92d1e1571f44a84580", func := "loop.example/connectionpool/laws.FnExactCallNext", spec := "fnExactCallNext", unfollowed := true, recurses := true, apart := false }
def FnExactCallNextSaid : Prop := fnExactCallNextRow.holds Try.pinned (OpenSpec.ofChange fnExactCallNextSpec)

/-- ITS FALSE NEIGHBOUR: 'it returns false'. Refute it at one input. -/
def fnExactCallNextWrong : ChangeSpec := { name := "fnExactCallNext", fn := fun _ => fun
  | [d] => { results := [.lit (.bool false)], args := [d] }
  | _ => none }
def FnExactCallNextWrongFalsely : Prop := fnExactCallNextRow.holds Try.pinned (OpenSpec.ofChange fnExactCallNextWrong)

/-- 'laws.FnPlaceInLineCall': WHATEVER THE INPUT: true; the input reads as it did. -/
def fnPlaceInLineCallSpec : ChangeSpec := { name := "fnPlaceInLineCall", fn := fun _ => fun
  | [d] => { results := [.lit (.bool true)], args := [d] }
  | _ => none }
def fnPlaceInLineCallRow : OpenClaim := { program := "ytmojlnfadjnhgaa", sum := "f63bcbe74690c87767e52273f4ee6247e6c70d884c01cf92d1e1571f44a84580", func := "loop.example/connectionpool/laws.FnPlaceInLineCall", spec := "fnPlaceInLineCall", unfollowed := true, recurses := true, apart := false }
def FnPlaceInLineCallSaid : Prop := fnPlaceInLineCallRow.holds Try.pinned (OpenSpec.ofChange fnPlaceInLineCallSpec)

/-- ITS FALSE NEIGHBOUR: 'it returns false'. Refute it at one input. -/
def fnPlaceInLineCallWrong : ChangeSpec := { name := "fnPlaceInLineCall", fn := fun _ => fun
  | [d] => { results := [.lit (.bool false)], args := [d] }
  | _ => none }
def FnPlaceInLineCallWrongFalsely : Prop := fnPlaceInLineCallRow.holds Try.pinned (OpenSpec.ofChange fnPlaceInLineCallWrong)

/-- 'laws.FnCallNext': WHATEVER THE INPUT: true; the input reads as it did. -/
def fnCallNextSpec : ChangeSpec := { name := "fnCallNext", fn := fun _ => fun
  | [d] => { results := [.lit (.bool true)], args := [d] }
  | _ => none }
def fnCallNextRow : OpenClaim := { program := "ytmojlnfadjnhgaa", sum := "f63bcbe74690c87767e52273f4ee6247e6c70d884c01cf92d1e1571f44a84580", func := "loop.example/connectionpool/laws.FnCallNext", spec := "fnCallNext", unfollowed := true, recurses := true, apart := false }
def FnCallNextSaid : Prop := fnCallNextRow.holds Try.pinned (OpenSpec.ofChange fnCallNextSpec)

/-- ITS FALSE NEIGHBOUR: 'it returns false'. Refute it at one input. -/
def fnCallNextWrong : ChangeSpec := { name := "fnCallNext", fn := fun _ => fun
  | [d] => { results := [.lit (.bool false)], args := [d] }
  | _ => none }
def FnCallNextWrongFalsely : Prop := fnCallNextRow.holds Try.pinned (OpenSpec.ofChange fnCallNextWrong)

/-- 'laws.FnCallNextAll': WHATEVER THE INPUT: true; the input reads as it did. -/
def fnCallNextAllSpec : ChangeSpec := { name := "fnCallNextAll", fn := fun _ => fun
  | [d] => { results := [.lit (.bool true)], args := [d] }
  | _ => none }
def fnCallNextAllRow : OpenClaim := { program := "ytmojlnfadjnhgaa", sum := "f63bcbe74690c87767e52273f4ee6247e6c70d884c01cf92d1e1571f44a84580", func := "loop.example/connectionpool/laws.FnCallNextAll", spec := "fnCallNextAll", unfollowed := true, recurses := true, apart := false }
def FnCallNextAllSaid : Prop := fnCallNextAllRow.holds Try.pinned (OpenSpec.ofChange fnCallNextAllSpec)

/-- ITS FALSE NEIGHBOUR: 'it returns false'. Refute it at one input. -/
def fnCallNextAllWrong : ChangeSpec := { name := "fnCallNextAll", fn := fun _ => fun
  | [d] => { results := [.lit (.bool false)], args := [d] }
  | _ => none }
def FnCallNextAllWrongFalsely : Prop := fnCallNextAllRow.holds Try.pinned (OpenSpec.ofChange fnCallNextAllWrong)

/-- 'laws.FnLeaveLineOrder': WHATEVER THE INPUT: true; the input reads as it did. -/
def fnLeaveLineOrderSpec : ChangeSpec := { name := "fnLeaveLineOrder", fn := fun _ => fun
  | [d] => { results := [.lit (.bool true)], args := [d] }
  | _ => none }
def fnLeaveLineOrderRow : OpenClaim := { program := "ytmojlnfadjnhgaa", sum := "f63bcbe74690c87767e52273f4ee6247e6c70d884c01cf92d1e1571f44a84580", func := "loop.example/connectionpool/laws.FnLeaveLineOrder", spec := "fnLeaveLineOrder", unfollowed := true, recurses := true, apart := false }
def FnLeaveLineOrderSaid : Prop := fnLeaveLineOrderRow.holds Try.pinned (OpenSpec.ofChange fnLeaveLineOrderSpec)

/-- ITS FALSE NEIGHBOUR: 'it returns false'. Refute it at one input. -/
def fnLeaveLineOrderWrong : ChangeSpec := { name := "fnLeaveLineOrder", fn := fun _ => fun
  | [d] => { results := [.lit (.bool false)], args := [d] }
  | _ => none }
def FnLeaveLineOrderWrongFalsely : Prop := fnLeaveLineOrderRow.holds Try.pinned (OpenSpec.ofChange fnLeaveLineOrderWrong)

/-- 'laws.FnExactLeaveLine': WHATEVER THE INPUT: true; the input reads as it did. -/
def fnExactLeaveLineSpec : ChangeSpec := { name := "fnExactLeaveLine", fn := fun _ => fun
  | [d1, d2] => { results := [.lit (.bool true)], args := [d1, d2] }
  | _ => none }
def fnExactLeaveLineRow : OpenClaim := { program := "ytmojlnfadjnhgaa", sum := "f63bcbe74690c87767e52273f4ee6247e6c70d884c01cf92d1e1571f44a84580", func := "loop.example/connectionpool/laws.FnExactLeaveLine", spec := "fnExactLeaveLine", unfollowed := true, recurses := true, apart := false }
def FnExactLeaveLineSaid : Prop := fnExactLeaveLineRow.holds Try.pinned (OpenSpec.ofChange fnExactLeaveLineSpec)

/-- ITS FALSE NEIGHBOUR: 'it returns false'. Refute it at one input. -/
def fnExactLeaveLineWrong : ChangeSpec := { name := "fnExactLeaveLine", fn := fun _ => fun
  | [d1, d2] => { results := [.lit (.bool false)], args := [d1, d2] }
  | _ => none }
def FnExactLeaveLineWrongFalsely : Prop := fnExactLeaveLineRow.holds Try.pinned (OpenSpec.ofChange fnExactLeaveLineWrong)

/-- 'laws.FnPlaceInLineLeave': WHATEVER THE INPUT: true; the input reads as it did. -/
def fnPlaceInLineLeaveSpec : ChangeSpec := { name := "fnPlaceInLineLeave", fn := fun _ => fun
  | [d] => { results := [.lit (.bool true)], args := [d] }
  | _ => none }
def fnPlaceInLineLeaveRow : OpenClaim := { program := "ytmojlnfadjnhgaa", sum := "f63bcbe74690c87767e52273f4ee6247e6c70d884c01cf92d1e1571f44a84580", func := "loop.example/connectionpool/laws.FnPlaceInLineLeave", spec := "fnPlaceInLineLeave", unfollowed := true, recurses := true, apart := false }
def FnPlaceInLineLeaveSaid : Prop := fnPlaceInLineLeaveRow.holds Try.pinned (OpenSpec.ofChange fnPlaceInLineLeaveSpec)

/-- ITS FALSE NEIGHBOUR: 'it returns false'. Refute it at one input. -/
def fnPlaceInLineLeaveWrong : ChangeSpec := { name := "fnPlaceInLineLeave", fn := fun _ => fun
  | [d] => { results := [.lit (.bool false)], args := [d] }
  | _ => none }
def FnPlaceInLineLeaveWrongFalsely : Prop := fnPlaceInLineLeaveRow.holds Try.pinned (OpenSpec.ofChange fnPlaceInLineLeaveWrong)

/- THE SECOND FORM. 'bulk': how many values and letters a reading holds, each counted each time it is reached (what is shared counts as often as it is met; a slice's spare places count too). A statement '..UptoSaid' is the law's where the arguments, and the package variables that the reading takes, are together of bulk at most 1048576: NARROWER than '..Said'. Prove '..Said' where nothing that the law and all that it calls make is longer than what came in: it says more and counts as full. Else prove '..UptoSaid'. A law counts once. -/
mutual
def uptoBulk {H : Type} : DataW H → Nat
  | .lit (.string bytes) => bytes.length + 1
  | .lit _ => 1
  | .nil => 1
  | .ptr d => uptoBulk d + 1
  | .slice elems spare => uptoBulkAll elems + uptoBulkAll spare + 1
  | .agg parts => uptoBulkAll parts + 1
  | .iface _ d => uptoBulk d + 1
  | .map entries => uptoBulkEntries entries + 1
  | .held _ => 1
def uptoBulkAll {H : Type} : List (DataW H) → Nat
  | [] => 0
  | d :: r => uptoBulk d + uptoBulkAll r
def uptoBulkEntries {H : Type} : List (Lit × DataW H) → Nat
  | [] => 0
  | x :: r => uptoBulkEntry x + uptoBulkEntries r
def uptoBulkEntry {H : Type} : Lit × DataW H → Nat
  | (.string bytes, d) => bytes.length + uptoBulk d + 1
  | (_, d) => uptoBulk d + 1
 end
def uptoSmall : (H : Type) → List (DataW H) → Bool := fun _ ds => decide (uptoBulkAll ds ≤ 1048576)
def OpenSpec.upto (s : _root_.Go.ChangeSpec) : _root_.Go.OpenSpec := { _root_.Go.OpenSpec.ofChange s with cond := some uptoSmall }

/-- 'laws.FnTakeTicketLeave', WHERE WHAT IT READS IS OF BULK AT MOST 1048576: true; the input reads as it did. -/
def fnTakeTicketLeaveUptoRow : OpenClaim := { program := "ytmojlnfadjnhgaa", sum := "f63bcbe74690c87767e52273f4ee6247e6c70d884c01cf92d1e1571f44a84580", func := "loop.example/connectionpool/laws.FnTakeTicketLeave", spec := "fnTakeTicketLeave", unfollowed := true, recurses := true, apart := false, narrowed := true }
def FnTakeTicketLeaveUptoSaid : Prop := fnTakeTicketLeaveUptoRow.holds Try.pinned (OpenSpec.upto fnTakeTicketLeaveSpec)

/-- 'laws.FnExactValidLine', WHERE WHAT IT READS IS OF BULK AT MOST 1048576: true; the input reads as it did. -/
def fnExactValidLineUptoRow : OpenClaim := { program := "ytmojlnfadjnhgaa", sum := "f63bcbe74690c87767e52273f4ee6247e6c70d884c01cf92d1e1571f44a84580", func := "loop.example/connectionpool/laws.FnExactValidLine", spec := "fnExactValidLine", unfollowed := true, recurses := true, apart := false, narrowed := true }
def FnExactValidLineUptoSaid : Prop := fnExactValidLineUptoRow.holds Try.pinned (OpenSpec.upto fnExactValidLineSpec)

/-- 'laws.FnLeaveLine', WHERE WHAT IT READS IS OF BULK AT MOST 1048576: true; the input reads as it did. -/
def fnLeaveLineUptoRow : OpenClaim := { program := "ytmojlnfadjnhgaa", sum := "f63bcbe74690c87767e52273f4ee6247e6c70d884c01cf92d1e1571f44a84580", func := "loop.example/connectionpool/laws.FnLeaveLine", spec := "fnLeaveLine", unfollowed := true, recurses := true, apart := false, narrowed := true }
def FnLeaveLineUptoSaid : Prop := fnLeaveLineUptoRow.holds Try.pinned (OpenSpec.upto fnLeaveLineSpec)

/-- 'laws.FnValidLine', WHERE WHAT IT READS IS OF BULK AT MOST 1048576: true; the input reads as it did. -/
def fnValidLineUptoRow : OpenClaim := { program := "ytmojlnfadjnhgaa", sum := "f63bcbe74690c87767e52273f4ee6247e6c70d884c01cf92d1e1571f44a84580", func := "loop.example/connectionpool/laws.FnValidLine", spec := "fnValidLine", unfollowed := true, recurses := true, apart := false, narrowed := true }
def FnValidLineUptoSaid : Prop := fnValidLineUptoRow.holds Try.pinned (OpenSpec.upto fnValidLineSpec)

/-- 'laws.FnCallNextLeave', WHERE WHAT IT READS IS OF BULK AT MOST 1048576: true; the input reads as it did. -/
def fnCallNextLeaveUptoRow : OpenClaim := { program := "ytmojlnfadjnhgaa", sum := "f63bcbe74690c87767e52273f4ee6247e6c70d884c01cf92d1e1571f44a84580", func := "loop.example/connectionpool/laws.FnCallNextLeave", spec := "fnCallNextLeave", unfollowed := true, recurses := true, apart := false, narrowed := true }
def FnCallNextLeaveUptoSaid : Prop := fnCallNextLeaveUptoRow.holds Try.pinned (OpenSpec.upto fnCallNextLeaveSpec)

/-- 'laws.FnExactPlaceInLine', WHERE WHAT IT READS IS OF BULK AT MOST 1048576: true; the input reads as it did. -/
def fnExactPlaceInLineUptoRow : OpenClaim := { program := "ytmojlnfadjnhgaa", sum := "f63bcbe74690c87767e52273f4ee6247e6c70d884c01cf92d1e1571f44a84580", func := "loop.example/connectionpool/laws.FnExactPlaceInLine", spec := "fnExactPlaceInLine", unfollowed := true, recurses := true, apart := false, narrowed := true }
def FnExactPlaceInLineUptoSaid : Prop := fnExactPlaceInLineUptoRow.holds Try.pinned (OpenSpec.upto fnExactPlaceInLineSpec)

/-- 'laws.FnExactTakeTicket', WHERE WHAT IT READS IS OF BULK AT MOST 1048576: true; the input reads as it did. -/
def fnExactTakeTicketUptoRow : OpenClaim := { program := "ytmojlnfadjnhgaa", sum := "f63bcbe74690c87767e52273f4ee6247e6c70d884c01cf92d1e1571f44a84580", func := "loop.example/connectionpool/laws.FnExactTakeTicket", spec := "fnExactTakeTicket", unfollowed := true, recurses := true, apart := false, narrowed := true }
def FnExactTakeTicketUptoSaid : Prop := fnExactTakeTicketUptoRow.holds Try.pinned (OpenSpec.upto fnExactTakeTicketSpec)

/-- 'laws.FnExactWaitingTickets', WHERE WHAT IT READS IS OF BULK AT MOST 1048576: true; the input reads as it did. -/
def fnExactWaitingTicketsUptoRow : OpenClaim := { program := "ytmojlnfadjnhgaa", sum := "f63bcbe74690c87767e52273f4ee6247e6c70d884c01cf92d1e1571f44a84580", func := "loop.example/connectionpool/laws.FnExactWaitingTickets", spec := "fnExactWaitingTickets", unfollowed := true, recurses := true, apart := false, narrowed := true }
def FnExactWaitingTicketsUptoSaid : Prop := fnExactWaitingTicketsUptoRow.holds Try.pinned (OpenSpec.upto fnExactWaitingTicketsSpec)

/-- 'laws.FnTakeTicketFull', WHERE WHAT IT READS IS OF BULK AT MOST 1048576: true; the input reads as it did. -/
def fnTakeTicketFullUptoRow : OpenClaim := { program := "ytmojlnfadjnhgaa", sum := "f63bcbe74690c87767e52273f4ee6247e6c70d884c01cf92d1e1571f44a84580", func := "loop.example/connectionpool/laws.FnTakeTicketFull", spec := "fnTakeTicketFull", unfollowed := true, recurses := true, apart := false, narrowed := true }
def FnTakeTicketFullUptoSaid : Prop := fnTakeTicketFullUptoRow.holds Try.pinned (OpenSpec.upto fnTakeTicketFullSpec)

/-- 'laws.FnWaitingTicketsCount', WHERE WHAT IT READS IS OF BULK AT MOST 1048576: true; the input reads as it did. -/
def fnWaitingTicketsCountUptoRow : OpenClaim := { program := "ytmojlnfadjnhgaa", sum := "f63bcbe74690c87767e52273f4ee6247e6c70d884c01cf92d1e1571f44a84580", func := "loop.example/connectionpool/laws.FnWaitingTicketsCount", spec := "fnWaitingTicketsCount", unfollowed := true, recurses := true, apart := false, narrowed := true }
def FnWaitingTicketsCountUptoSaid : Prop := fnWaitingTicketsCountUptoRow.holds Try.pinned (OpenSpec.upto fnWaitingTicketsCountSpec)

/-- 'laws.FnPlaceInLine', WHERE WHAT IT READS IS OF BULK AT MOST 1048576: true; the input reads as it did. -/
def fnPlaceInLineUptoRow : OpenClaim := { program := "ytmojlnfadjnhgaa", sum := "f63bcbe74690c87767e52273f4ee6247e6c70d884c01cf92d1e1571f44a84580", func := "loop.example/connectionpool/laws.FnPlaceInLine", spec := "fnPlaceInLine", unfollowed := true, recurses := true, apart := false, narrowed := true }
def FnPlaceInLineUptoSaid : Prop := fnPlaceInLineUptoRow.holds Try.pinned (OpenSpec.upto fnPlaceInLineSpec)

/-- 'laws.FnWaitingTickets', WHERE WHAT IT READS IS OF BULK AT MOST 1048576: true; the input reads as it did. -/
def fnWaitingTicketsUptoRow : OpenClaim := { program := "ytmojlnfadjnhgaa", sum := "f63bcbe74690c87767e52273f4ee6247e6c70d884c01cf92d1e1571f44a84580", func := "loop.example/connectionpool/laws.FnWaitingTickets", spec := "fnWaitingTickets", unfollowed := true, recurses := true, apart := false, narrowed := true }
def FnWaitingTicketsUptoSaid : Prop := fnWaitingTicketsUptoRow.holds Try.pinned (OpenSpec.upto fnWaitingTicketsSpec)

/-- 'laws.FnTakeTicket', WHERE WHAT IT READS IS OF BULK AT MOST 1048576: true; the input reads as it did. -/
def fnTakeTicketUptoRow : OpenClaim := { program := "ytmojlnfadjnhgaa", sum := "f63bcbe74690c87767e52273f4ee6247e6c70d884c01cf92d1e1571f44a84580", func := "loop.example/connectionpool/laws.FnTakeTicket", spec := "fnTakeTicket", unfollowed := true, recurses := true, apart := false, narrowed := true }
def FnTakeTicketUptoSaid : Prop := fnTakeTicketUptoRow.holds Try.pinned (OpenSpec.upto fnTakeTicketSpec)

/-- 'laws.FnExactCallNext', WHERE WHAT IT READS IS OF BULK AT MOST 1048576: true; the input reads as it did. -/
def fnExactCallNextUptoRow : OpenClaim := { program := "ytmojlnfadjnhgaa", sum := "f63bcbe74690c87767e52273f4ee6247e6c70d884c01cf92d1e1571f44a84580", func := "loop.example/connectionpool/laws.FnExactCallNext", spec := "fnExactCallNext", unfollowed := true, recurses := true, apart := false, narrowed := true }
def FnExactCallNextUptoSaid : Prop := fnExactCallNextUptoRow.holds Try.pinned (OpenSpec.upto fnExactCallNextSpec)

/-- 'laws.FnPlaceInLineCall', WHERE WHAT IT READS IS OF BULK AT MOST 1048576: true; the input reads as it did. -/
def fnPlaceInLineCallUptoRow : OpenClaim := { program := "ytmojlnfadjnhgaa", sum := "f63bcbe74690c87767e52273f4ee6247e6c70d884c01cf92d1e1571f44a84580", func := "loop.example/connectionpool/laws.FnPlaceInLineCall", spec := "fnPlaceInLineCall", unfollowed := true, recurses := true, apart := false, narrowed := true }
def FnPlaceInLineCallUptoSaid : Prop := fnPlaceInLineCallUptoRow.holds Try.pinned (OpenSpec.upto fnPlaceInLineCallSpec)

/-- 'laws.FnCallNext', WHERE WHAT IT READS IS OF BULK AT MOST 1048576: true; the input reads as it did. -/
def fnCallNextUptoRow : OpenClaim := { program := "ytmojlnfadjnhgaa", sum := "f63bcbe74690c87767e52273f4ee6247e6c70d884c01cf92d1e1571f44a84580", func := "loop.example/connectionpool/laws.FnCallNext", spec := "fnCallNext", unfollowed := true, recurses := true, apart := false, narrowed := true }
def FnCallNextUptoSaid : Prop := fnCallNextUptoRow.holds Try.pinned (OpenSpec.upto fnCallNextSpec)

/-- 'laws.FnCallNextAll', WHERE WHAT IT READS IS OF BULK AT MOST 1048576: true; the input reads as it did. -/
def fnCallNextAllUptoRow : OpenClaim := { program := "ytmojlnfadjnhgaa", sum := "f63bcbe74690c87767e52273f4ee6247e6c70d884c01cf92d1e1571f44a84580", func := "loop.example/connectionpool/laws.FnCallNextAll", spec := "fnCallNextAll", unfollowed := true, recurses := true, apart := false, narrowed := true }
def FnCallNextAllUptoSaid : Prop := fnCallNextAllUptoRow.holds Try.pinned (OpenSpec.upto fnCallNextAllSpec)

/-- 'laws.FnLeaveLineOrder', WHERE WHAT IT READS IS OF BULK AT MOST 1048576: true; the input reads as it did. -/
def fnLeaveLineOrderUptoRow : OpenClaim := { program := "ytmojlnfadjnhgaa", sum := "f63bcbe74690c87767e52273f4ee6247e6c70d884c01cf92d1e1571f44a84580", func := "loop.example/connectionpool/laws.FnLeaveLineOrder", spec := "fnLeaveLineOrder", unfollowed := true, recurses := true, apart := false, narrowed := true }
def FnLeaveLineOrderUptoSaid : Prop := fnLeaveLineOrderUptoRow.holds Try.pinned (OpenSpec.upto fnLeaveLineOrderSpec)

/-- 'laws.FnExactLeaveLine', WHERE WHAT IT READS IS OF BULK AT MOST 1048576: true; the input reads as it did. -/
def fnExactLeaveLineUptoRow : OpenClaim := { program := "ytmojlnfadjnhgaa", sum := "f63bcbe74690c87767e52273f4ee6247e6c70d884c01cf92d1e1571f44a84580", func := "loop.example/connectionpool/laws.FnExactLeaveLine", spec := "fnExactLeaveLine", unfollowed := true, recurses := true, apart := false, narrowed := true }
def FnExactLeaveLineUptoSaid : Prop := fnExactLeaveLineUptoRow.holds Try.pinned (OpenSpec.upto fnExactLeaveLineSpec)

/-- 'laws.FnPlaceInLineLeave', WHERE WHAT IT READS IS OF BULK AT MOST 1048576: true; the input reads as it did. -/
def fnPlaceInLineLeaveUptoRow : OpenClaim := { program := "ytmojlnfadjnhgaa", sum := "f63bcbe74690c87767e52273f4ee6247e6c70d884c01cf92d1e1571f44a84580", func := "loop.example/connectionpool/laws.FnPlaceInLineLeave", spec := "fnPlaceInLineLeave", unfollowed := true, recurses := true, apart := false, narrowed := true }
def FnPlaceInLineLeaveUptoSaid : Prop := fnPlaceInLineLeaveUptoRow.holds Try.pinned (OpenSpec.upto fnPlaceInLineLeaveSpec)

end Rows
end Go.Proofs.Ytmojlnfadjnhgaa
