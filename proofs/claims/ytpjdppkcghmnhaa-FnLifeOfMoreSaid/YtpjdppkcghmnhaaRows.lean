/-
  No cell of these rows narrows 'for every input' (looked for: loops, veiled, ifaces, maps, wideKeys, modest, calm, conditions, laid).
  DERIVED. THE GIVEN ROWS OF THIS SEAT. 4 by the template 'for every input the law returns true; each argument reads behind the call as it read before'; 0 by the template 'total and deterministic' (their statements: YtpjdppkcghmnhaaTotals.lean).
  GIVEN WITH THE SEED: the statements are not yours to turn. If you find one false, say at which input.
  Laid BY PROGRAM, IN A SANDBOX (cutbox-rows.mjs): the forced cells as the released guide's own fill.sh prints them over the translation 2b7e8c6e3d716417… (all of the seat's roots in one cut). By AI agents, Wed Nov 11 2026. No macro, syntax, notation, axiom, sorry.
-/
import Derived.Test.YtpjdppkcghmnhaaChecked
import GoSem.Claim
import GoSem.ClaimJoined
import GoSem.ClaimMapViews
import Derived.JoinedTies
import Derived.KernelRfl
namespace Go.Proofs.Ytpjdppkcghmnhaa
/- THE CELL 'sum', in the pinned program and in every row, IS THE sha256 OF THE DUMP (.gsa) THAT YtpjdppkcghmnhaaProg.lean LOADS. Nothing in Lean hashes anything: it is a label: what it is worth is what the hold of that sum in a sandbox is worth. -/
noncomputable def Try.pinned : Pinned := { name := "ytpjdppkcghmnhaa", sum := "2b7e8c6e3d716417fd36c3c772b5ebbbb7c0d0fb452b8d210480010085b0ce96", checked := Try.checked }
namespace Rows
def none {H : Type} : Left H := { results := [], args := [] }

/-- 'laws.FnExactConstants': WHATEVER THE INPUT: true; the input reads as it did. -/
def fnExactConstantsSpec : ChangeSpec := { name := "fnExactConstants", fn := fun _ => fun
  | [] => { results := [.lit (.bool true)], args := [] }
  | _ => none }
def fnExactConstantsRow : OpenClaim := { program := "ytpjdppkcghmnhaa", sum := "2b7e8c6e3d716417fd36c3c772b5ebbbb7c0d0fb452b8d210480010085b0ce96", func := "loop.example/connectionpool/laws.FnExactConstants", spec := "fnExactConstants", apart := false }
def FnExactConstantsSaid : Prop := fnExactConstantsRow.holds Try.pinned (OpenSpec.ofChange fnExactConstantsSpec)

/-- ITS FALSE NEIGHBOUR: 'it returns false'. Refute it at one input. -/
def fnExactConstantsWrong : ChangeSpec := { name := "fnExactConstants", fn := fun _ => fun
  | [] => { results := [.lit (.bool false)], args := [] }
  | _ => none }
def FnExactConstantsWrongFalsely : Prop := fnExactConstantsRow.holds Try.pinned (OpenSpec.ofChange fnExactConstantsWrong)

/-- 'laws.FnExactLifeOf': WHATEVER THE INPUT: true; the input reads as it did. -/
def fnExactLifeOfSpec : ChangeSpec := { name := "fnExactLifeOf", fn := fun _ => fun
  | [d1, d2] => { results := [.lit (.bool true)], args := [d1, d2] }
  | _ => none }
def fnExactLifeOfRow : OpenClaim := { program := "ytpjdppkcghmnhaa", sum := "2b7e8c6e3d716417fd36c3c772b5ebbbb7c0d0fb452b8d210480010085b0ce96", func := "loop.example/connectionpool/laws.FnExactLifeOf", spec := "fnExactLifeOf", apart := false }
def FnExactLifeOfSaid : Prop := fnExactLifeOfRow.holds Try.pinned (OpenSpec.ofChange fnExactLifeOfSpec)

/-- ITS FALSE NEIGHBOUR: 'it returns false'. Refute it at one input. -/
def fnExactLifeOfWrong : ChangeSpec := { name := "fnExactLifeOf", fn := fun _ => fun
  | [d1, d2] => { results := [.lit (.bool false)], args := [d1, d2] }
  | _ => none }
def FnExactLifeOfWrongFalsely : Prop := fnExactLifeOfRow.holds Try.pinned (OpenSpec.ofChange fnExactLifeOfWrong)

/-- 'laws.FnLifeOf': WHATEVER THE INPUT: true; the input reads as it did. -/
def fnLifeOfSpec : ChangeSpec := { name := "fnLifeOf", fn := fun _ => fun
  | [d] => { results := [.lit (.bool true)], args := [d] }
  | _ => none }
def fnLifeOfRow : OpenClaim := { program := "ytpjdppkcghmnhaa", sum := "2b7e8c6e3d716417fd36c3c772b5ebbbb7c0d0fb452b8d210480010085b0ce96", func := "loop.example/connectionpool/laws.FnLifeOf", spec := "fnLifeOf", apart := false }
def FnLifeOfSaid : Prop := fnLifeOfRow.holds Try.pinned (OpenSpec.ofChange fnLifeOfSpec)

/-- ITS FALSE NEIGHBOUR: 'it returns false'. Refute it at one input. -/
def fnLifeOfWrong : ChangeSpec := { name := "fnLifeOf", fn := fun _ => fun
  | [d] => { results := [.lit (.bool false)], args := [d] }
  | _ => none }
def FnLifeOfWrongFalsely : Prop := fnLifeOfRow.holds Try.pinned (OpenSpec.ofChange fnLifeOfWrong)

/-- 'laws.FnLifeOfMore': WHATEVER THE INPUT: true; the input reads as it did. -/
def fnLifeOfMoreSpec : ChangeSpec := { name := "fnLifeOfMore", fn := fun _ => fun
  | [d] => { results := [.lit (.bool true)], args := [d] }
  | _ => none }
def fnLifeOfMoreRow : OpenClaim := { program := "ytpjdppkcghmnhaa", sum := "2b7e8c6e3d716417fd36c3c772b5ebbbb7c0d0fb452b8d210480010085b0ce96", func := "loop.example/connectionpool/laws.FnLifeOfMore", spec := "fnLifeOfMore", apart := false }
def FnLifeOfMoreSaid : Prop := fnLifeOfMoreRow.holds Try.pinned (OpenSpec.ofChange fnLifeOfMoreSpec)

/-- ITS FALSE NEIGHBOUR: 'it returns false'. Refute it at one input. -/
def fnLifeOfMoreWrong : ChangeSpec := { name := "fnLifeOfMore", fn := fun _ => fun
  | [d] => { results := [.lit (.bool false)], args := [d] }
  | _ => none }
def FnLifeOfMoreWrongFalsely : Prop := fnLifeOfMoreRow.holds Try.pinned (OpenSpec.ofChange fnLifeOfMoreWrong)

/- THE SECOND FORM. 'bulk': how many values and letters a reading holds, each counted each time it is reached (what is shared counts as often as it is met; a slice's spare places count too). A statement '..UptoSaid' is the law's where the arguments, and the package variables that the reading takes, are together of bulk at most 1048576: NARROWER than '..Said'. Prove '..Said' where nothing that the law and all that it calls make is longer than what came in: it says more and counts as full. Else prove '..UptoSaid'. A law counts once. -/
mutual
def uptoBulk {H : Type} : DataW H → Nat
  | .lit (.string bytes) => bytes.length + 1
  | .lit _ => 1
  | .nil => 1
  | .ptr d => uptoBulk d + 1
  | .slice elems spare => uptoBulkAll elems + uptoBulkAll spare + 1
  | .agg parts => uptoBulkAll parts + 1
  | .iface _ d => uptoBulk d + 1
  | .map entries => uptoBulkEntries entries + 1
  | .held _ => 1
def uptoBulkAll {H : Type} : List (DataW H) → Nat
  | [] => 0
  | d :: r => uptoBulk d + uptoBulkAll r
def uptoBulkEntries {H : Type} : List (Lit × DataW H) → Nat
  | [] => 0
  | x :: r => uptoBulkEntry x + uptoBulkEntries r
def uptoBulkEntry {H : Type} : Lit × DataW H → Nat
  | (.string bytes, d) => bytes.length + uptoBulk d + 1
  | (_, d) => uptoBulk d + 1
 end
def uptoSmall : (H : Type) → List (DataW H) → Bool := fun _ ds => decide (uptoBulkAll ds ≤ 1048576)
def OpenSpec.upto (s : _root_.Go.ChangeSpec) : _root_.Go.OpenSpec := { _root_.Go.OpenSpec.ofChange s with cond := some uptoSmall }

/-- 'laws.FnExactConstants', WHERE WHAT IT READS IS OF BULK AT MOST 1048576: true; the input reads as it did. -/
def fnExactConstantsUptoRow : OpenClaim := { program := "ytpjdppkcghmnhaa", sum := "2b7e8c6e3d716417fd36c3c772b5ebbbb7c0d0fb452b8d210480010085b0ce96", func := "loop.example/connectionpool/laws.FnExactConstants", spec := "fnExactConstants", apart := false, narrowed := true }
def FnExactConstantsUptoSaid : Prop := fnExactConstantsUptoRow.holds Try.pinned (OpenSpec.upto fnExactConstantsSpec)

/-- 'laws.FnExactLifeOf', WHERE WHAT IT READS IS OF BULK AT MOST 1048576: true; the input reads as it did. -/
def fnExactLifeOfUptoRow : OpenClaim := { program := "ytpjdppkcghmnhaa", sum := "2b7e8c6e3d716417fd36c3c772b5ebbbb7c0d0fb452b8d210480010085b0ce96", func := "loop.example/connectionpool/laws.FnExactLifeOf", spec := "fnExactLifeOf", apart := false, narrowed := true }
def FnExactLifeOfUptoSaid : Prop := fnExactLifeOfUptoRow.holds Try.pinned (OpenSpec.upto fnExactLifeOfSpec)

/-- 'laws.FnLifeOf', WHERE WHAT IT READS IS OF BULK AT MOST 1048576: true; the input reads as it did. -/
def fnLifeOfUptoRow : OpenClaim := { program := "ytpjdppkcghmnhaa", sum := "2b7e8c6e3d716417fd36c3c772b5ebbbb7c0d0fb452b8d210480010085b0ce96", func := "loop.example/connectionpool/laws.FnLifeOf", spec := "fnLifeOf", apart := false, narrowed := true }
def FnLifeOfUptoSaid : Prop := fnLifeOfUptoRow.holds Try.pinned (OpenSpec.upto fnLifeOfSpec)

/-- 'laws.FnLifeOfMore', WHERE WHAT IT READS IS OF BULK AT MOST 1048576: true; the input reads as it did. -/
def fnLifeOfMoreUptoRow : OpenClaim := { program := "ytpjdppkcghmnhaa", sum := "2b7e8c6e3d716417fd36c3c772b5ebbbb7c0d0fb452b8d210480010085b0ce96", func := "loop.example/connectionpool/laws.FnLifeOfMore", spec := "fnLifeOfMore", apart := false, narrowed := true }
def FnLifeOfMoreUptoSaid : Prop := fnLifeOfMoreUptoRow.holds Try.pinned (OpenSpec.upto fnLifeOfMoreSpec)

end Rows
end Go.Proofs.Ytpjdppkcghmnhaa
