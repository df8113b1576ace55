/- Asking for a connection and giving it back, as total functions; conditions: none. -/
import Derived.Test.YtfjedjcdmaoeoaaPooJ
import Derived.Test.YtfjedjcdmaoeoaaPooN
set_option linter.unusedVariables false
set_option linter.unusedSimpArgs false
namespace Go.Proofs.Ytfjedjcdmaoeoaa
open Eng Go Go.RowKit

def acqD (p : PoolD) (o : Int) : PoolD := match acq p o with | some x => x.1 | none => zeroP
def acqN (p : PoolD) (o : Int) : Int := match acq p o with | some x => x.2 | none => -1
def acqB (p : PoolD) (o : Int) : Bool := (acq p o).isSome
def relD (p : PoolD) (c : Int) : PoolD := if relOk p c then (rel p c).1 else zeroP
def relN (p : PoolD) (c : Int) : Int := if relOk p c then (rel p c).2 else -1
theorem acq_no {p : PoolD} {o : Int} (h : ¬ (okPool p ∧ gives o)) : acq p o = none := if_neg h
theorem acq_idle {p : PoolD} {o : Int} (h : okPool p) (ho : gives o) (hi : p.i.length ≠ 0) : acq p o = some (withHeld p (p.i.take (p.i.length - 1)) (lastI p.i) o, lastI p.i) := by
  rw [acq, if_pos ⟨h, ho⟩, if_pos hi]
theorem acq_new {p : PoolD} {o : Int} (h : okPool p) (ho : gives o) (hi : p.i.length = 0) (hl : (p.h.length : Int) < p.m) : acq p o = some (withHeld p [] (leastIn (hc p.h) 0 6) o, leastIn (hc p.h) 0 6) := by
  rw [acq, if_pos ⟨h, ho⟩, if_neg (by omega), if_pos hl]
theorem acq_full {p : PoolD} {o : Int} (h : okPool p) (ho : gives o) (hi : p.i.length = 0) (hl : ¬ (p.h.length : Int) < p.m) (hw : p.w.length = 12) : acq p o = none := by
  rw [acq, if_pos ⟨h, ho⟩, if_neg (by omega), if_neg hl, if_pos hw]
theorem acq_waits {p : PoolD} {o : Int} (h : okPool p) (ho : gives o) (hi : p.i.length = 0) (hl : ¬ (p.h.length : Int) < p.m) (hw : p.w.length ≠ 12) : acq p o = some (⟨p.m, [], p.h, p.w ++ [o]⟩, -1) := by
  rw [acq, if_pos ⟨h, ho⟩, if_neg (by omega), if_neg hl, if_neg hw]
theorem acqD_some {p q : PoolD} {o c : Int} (h : acq p o = some (q, c)) : acqD p o = q ∧ acqN p o = c ∧ acqB p o = true := by simp [acqD, acqN, acqB, h]
theorem acqD_none {p : PoolD} {o : Int} (h : acq p o = none) : acqD p o = zeroP ∧ acqN p o = -1 ∧ acqB p o = false := by simp [acqD, acqN, acqB, h]
theorem relD_no {p : PoolD} {c : Int} (h : ¬ relOk p c) : relD p c = zeroP ∧ relN p c = -1 ∧ decide (relOk p c) = false := ⟨if_neg h, if_neg h, decide_eq_false h⟩
theorem relD_idle {p : PoolD} {c : Int} (h : relOk p c) (hw : p.w = []) : relD p c = ⟨p.m, p.i ++ [c], relH p c, []⟩ ∧ relN p c = -1 ∧ decide (relOk p c) = true := by
  refine ⟨?_, ?_, decide_eq_true h⟩
  · rw [relD, if_pos h, rel]; split
    · rfl
    · rename_i h2; rw [hw] at h2; simp at h2
  · rw [relN, if_pos h, rel]; split
    · rfl
    · rename_i h2; rw [hw] at h2; simp at h2
theorem relD_pass {p : PoolD} {c o : Int} {r : List Int} (h : relOk p c) (hw : p.w = o :: r) : relD p c = ⟨p.m, p.i, relH p c ++ [⟨c, o⟩], r⟩ ∧ relN p c = o ∧ decide (relOk p c) = true := by
  refine ⟨?_, ?_, decide_eq_true h⟩
  · rw [relD, if_pos h, rel]; split
    · rename_i h2; rw [hw] at h2; simp at h2
    · rename_i h2; rw [hw] at h2; simp only [List.cons.injEq] at h2; obtain ⟨rfl, rfl⟩ := h2; rfl
  · rw [relN, if_pos h, rel]; split
    · rename_i h2; rw [hw] at h2; simp at h2
    · rename_i h2; rw [hw] at h2; simp only [List.cons.injEq] at h2; obtain ⟨rfl, rfl⟩ := h2; rfl

/-! ### What spec.acquire does on any valid pool -/
def sAcq (p : PoolD) (o : Int) : PoolD × Int :=
  if p.i.length ≠ 0 then (withHeld p (p.i.take (p.i.length - 1)) (lastI p.i) o, lastI p.i)
  else if closedP p < 0 then (⟨p.m, [], p.h, p.w ++ [o]⟩, -1) else (withHeld p [] (closedP p) o, closedP p)
theorem sAcq_some {p q : PoolD} {o c : Int} (h : acq p o = some (q, c)) : sAcq p o = (q, c) ∧ okPool q := by
  have hp : okPool p ∧ gives o := by
    refine Classical.byContradiction fun hn => ?_
    rw [acq_no hn] at h; cases h
  have hq : okPool q := by
    by_cases hc : 0 ≤ c
    · exact (acq_held h hc).2.2.1
    · exact (acq_wait h (by omega)).2.2.1
  refine ⟨?_, hq⟩
  by_cases hi : p.i.length ≠ 0
  · rw [acq_idle hp.1 hp.2 hi] at h
    rw [sAcq, if_pos hi]
    exact Option.some.inj h
  · have hi0 : p.i.length = 0 := by omega
    have hin : p.i = [] := List.eq_nil_of_length_eq_zero hi0
    rw [sAcq, if_neg hi]
    by_cases hl : (p.h.length : Int) < p.m
    · rw [acq_new hp.1 hp.2 hi0 hl] at h
      have hf := closed_free hp.1 hin hl
      have hr := (least_free hp.1 hl).1
      rw [hf, if_neg (by omega)]
      exact Option.some.inj h
    · have hroom := pool_room hp.1
      have hf := closed_full hp.1 hin (by omega)
      rw [hf, if_pos (by omega)]
      by_cases hw : p.w.length = 12
      · rw [acq_full hp.1 hp.2 hi0 hl hw] at h; cases h
      · rw [acq_waits hp.1 hp.2 hi0 hl hw] at h
        exact Option.some.inj h
theorem sAcq_none {p : PoolD} {o : Int} (hp : okPool p) (ho : gives o) (h : acq p o = none) : ¬ okPool (sAcq p o).1 := by
  by_cases hi : p.i.length ≠ 0
  · rw [acq_idle hp ho hi] at h; cases h
  · have hi0 : p.i.length = 0 := by omega
    have hin : p.i = [] := List.eq_nil_of_length_eq_zero hi0
    by_cases hl : (p.h.length : Int) < p.m
    · rw [acq_new hp ho hi0 hl] at h; cases h
    · have hroom := pool_room hp
      have hf := closed_full hp hin (by omega)
      by_cases hw : p.w.length = 12
      · rw [sAcq, if_neg hi, hf, if_pos (by omega)]
        intro hk
        have := hk.2.2.2.2.1
        simp only [List.length_append, List.length_singleton] at this
        omega
      · rw [acq_waits hp ho hi0 hl hw] at h; cases h
theorem sAcq_len {p : PoolD} {o : Int} : (sAcq p o).1.i.length ≤ p.i.length ∧ (sAcq p o).1.h.length ≤ p.h.length + 1 ∧ (sAcq p o).1.w.length ≤ p.w.length + 1 := by
  unfold sAcq
  split
  · simp [withHeld, List.length_take]
  · split <;> simp [withHeld]
theorem acqD_len {p : PoolD} {o : Int} : (acqD p o).i.length ≤ p.i.length ∧ (acqD p o).h.length ≤ p.h.length + 1 ∧ (acqD p o).w.length ≤ p.w.length + 1 := by
  cases h : acq p o with
  | none => rw [(acqD_none h).1]; simp [zeroP]
  | some x =>
    obtain ⟨q, c⟩ := x
    rw [(acqD_some h).1]
    have := (sAcq_some h).1
    have h2 := sAcq_len (p := p) (o := o)
    rw [this] at h2
    exact h2
theorem relH_len (p : PoolD) (c : Int) : (relH p c).length ≤ p.h.length := by
  unfold relH
  exact (List.eraseIdx_sublist _ _).length_le
theorem relD_len {p : PoolD} {c : Int} : (relD p c).i.length ≤ p.i.length + 1 ∧ (relD p c).h.length ≤ p.h.length + 1 ∧ (relD p c).w.length ≤ p.w.length := by
  unfold relD
  have := relH_len p c
  split
  · unfold rel
    split
    · refine ⟨by simp, by dsimp only; omega, Nat.zero_le _⟩
    · rename_i h
      refine ⟨by dsimp only; omega, by simpa using this, by dsimp only; rw [h]; simp⟩
  · simp [zeroP]
end Go.Proofs.Ytfjedjcdmaoeoaa
