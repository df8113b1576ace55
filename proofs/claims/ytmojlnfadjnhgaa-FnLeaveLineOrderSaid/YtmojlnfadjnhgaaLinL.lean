/- A line, opened; conditions: none. -/
import Derived.Test.YtmojlnfadjnhgaaLinA
import Derived.Test.YtmojlnfadjnhgaaLift
import Derived.Lib.SmallJoins
set_option maxRecDepth 100000
set_option linter.unusedVariables false
namespace Go.Proofs.Ytmojlnfadjnhgaa
open Eng Go Go.RowKit Go.ChangeShapes Go.WideShapes Go.ChangeAt Go.Joins
section
variable {H : Type} {enc : TypeId × Value → H} {P : Program} {w : World} {base : Nat} {spare : Nat → Bool} {held : Bool}
theorem open_line {t it st : TypeId} {f0 f1 f2 : Field} {r : Reach} {b0 : Nat} {v : Value} {d : DataW H} {p : List MemPlace} (hs : P.underlying t = some (.struct #[f0, f1, f2])) (hi : P.underlying it = some (.int .i64)) (hl : P.underlying st = some (.slice it))
    (hone : Go.Deep.oneCellFields P #[f0, f1, f2] = true) (hC : P.cellsOf t = 3) (hC1 : P.cellsOf it = 1) (hF : f0.type = it ∧ f1.type = it ∧ f2.type = st) (hv : Value.okWide P w r b0 t v) (h : DataW.Trod enc P w base (fun _ => true) held t v d p) :
    ∃ (l : LineD) (A : Option Addr) (c : Nat), v = .agg (lineV l A c).toArray ∧ Reads w 1 A l.g.length (i64s l.g) ∧ l.g.length ≤ c ∧ c ≤ maxLen := by
  obtain ⟨v0, v1, v2, y0, y1, y2, m, rfl, _, _, g0, g1, g2⟩ := open_agg3 hs hone hC hv h
  obtain ⟨e0, e1, e2⟩ := hF
  rw [e0] at g0
  rw [e1] at g1
  rw [e2] at g2
  obtain ⟨z0, k0, _, _⟩ := DataW.trod_int hi g0
  obtain ⟨z1, k1, _, _⟩ := DataW.trod_int hi g1
  simp only [List.cons.injEq, and_true] at k0 k1
  rcases open_ints hl hi hC1 g2 with ⟨hcs, _⟩ | ⟨x, l, c', zs, hcs, _, hl2, hm, hz, _, hcell, hwz⟩
  · simp only [List.cons.injEq, and_true] at hcs
    exact ⟨⟨z0, z1, []⟩, none, 0, by simp [lineV, k0, k1, hcs], Reads.nil _ _ _, Nat.le_refl _, Nat.zero_le _⟩
  · simp only [List.cons.injEq, and_true] at hcs
    have hz' : zs.length = c' := by simpa using hz
    have hlen : (zs.take l).length = l := by simp; omega
    refine ⟨⟨z0, z1, zs.take l⟩, some x, c', by simp [lineV, k0, k1, hcs]; omega, ?_, by simp only [hlen]; exact hl2, hm⟩
    refine ⟨by simp [i64s], fun _ => ⟨x, rfl, fun j u hu => ?_⟩⟩
    simp only [i64s, List.getElem?_map, List.getElem?_take] at hu
    split at hu
    · have hj : j < zs.length := by omega
      rw [hcell j hj]
      simp [hj] at hu
      simp [List.getD, hj, hu]
    · simp at hu
end
end Go.Proofs.Ytmojlnfadjnhgaa
