/- Readings of a law's arguments, for the laws' proofs; conditions: none. -/
import Derived.Test.YtfjedjcdmaoeoaaTab
import Derived.ProofKit
import Derived.OpenShut
import Derived.ShutString
import Derived.ChangeOld
import Derived.Below
set_option linter.unusedVariables false
namespace Go.Proofs.Ytfjedjcdmaoeoaa
open Eng Go Go.RowKit Go.ChangeShapes Go.WideShapes Go.ChangeAt
theorem own : ownKnob Try.prog.godebug = none := by as_aux_lemma => kernel_rfl
theorem laidOut : laidOutB Try.prog = true := by as_aux_lemma => kernel_rfl

section
variable {H : Type} {enc : TypeId × Value → H} {P : Program} {w : World} {base : Nat} {spare : Nat → Bool} {held : Bool}
/-- A slice of integers of one kind. -/
theorem open_row {t e : TypeId} {k : IntKind} {r : Reach} {b0 : Nat} {v : Value} {d : DataW H} {p : List MemPlace} (ht : P.underlying t = some (.slice e)) (he : P.underlying e = some (.int k)) (hC : P.cellsOf e = 1)
    (hv : Value.okWide P w r b0 t v) (h : DataW.Trod enc P w base (fun _ => true) held t v d p) :
    ∃ (A : Option Addr) (n c : Nat) (zs : List Int), v = .slice A n c ∧ Reads w 1 A n (zs.map (.int k)) ∧ (∀ z ∈ zs, (Lit.int k z).wf = true) ∧ n ≤ c ∧ c ≤ maxLen := by
  obtain ⟨A, n, c, rfl⟩ := okWide_slice ht hv
  obtain ⟨fuel, hf⟩ := h
  rcases open_ints ht he hC hf with ⟨hcs, _⟩ | ⟨x, l, c', zs, hcs, _, hl, hm, hz, _, hcell, hwz⟩
  · simp [Value.cells] at hcs
    obtain ⟨rfl, rfl, rfl⟩ := hcs
    exact ⟨none, 0, 0, [], rfl, Reads.nil _ _ _, by simp, Nat.le_refl _, Nat.zero_le _⟩
  · simp [Value.cells] at hcs
    obtain ⟨rfl, rfl, rfl⟩ := hcs
    have hz' : zs.length = c := by simpa using hz
    refine ⟨_, n, c, zs.take n, rfl, ⟨by simp; omega, fun _ => ⟨x, rfl, fun j u hu => ?_⟩⟩, fun z hzm => hwz z (List.mem_of_mem_take hzm), hl, hm⟩
    simp only [List.getElem?_map, List.getElem?_take] at hu
    split at hu
    · have hj : j < zs.length := by omega
      rw [hcell j hj]
      simp [hj] at hu
      simp [List.getD, hj, hu]
    · simp at hu
end

/-- A slice of bytes. -/
def Bytes (w : World) (A : Option Addr) (n : Nat) (bs : List Int) : Prop := Reads w 1 A n (bs.map (.int .u8)) ∧ ∀ b ∈ bs, 0 ≤ b ∧ b ≤ 255
theorem bytes_of {w : World} {A : Option Addr} {n : Nat} {bs : List Int} (h : Reads w 1 A n (bs.map (.int .u8))) (hw : ∀ z ∈ bs, (Lit.int .u8 z).wf = true) : Bytes w A n bs :=
  ⟨h, fun b hb => by
    have := hw b hb
    simp only [Lit.wf, Bool.and_eq_true, decide_eq_true_eq] at this
    have e1 : IntKind.u8.min = 0 := by decide
    have e2 : IntKind.u8.max = 255 := by decide
    omega⟩
/-- The bounds of an int. -/
def I64ok (z : Int) : Prop := -9223372036854775808 ≤ z ∧ z ≤ 9223372036854775807
theorem i64_of {z : Int} (h : (Lit.int .i64 z).wf = true) : I64ok z := by
  simp only [Lit.wf, Bool.and_eq_true, decide_eq_true_eq] at h
  have e1 : IntKind.i64.min = -9223372036854775808 := by decide
  have e2 : IntKind.i64.max = 9223372036854775807 := by decide
  unfold I64ok
  omega
end Go.Proofs.Ytfjedjcdmaoeoaa
