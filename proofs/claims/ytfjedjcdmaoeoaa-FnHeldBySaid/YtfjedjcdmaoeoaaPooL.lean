/- A pool, opened; conditions: none. -/
import Derived.Test.YtfjedjcdmaoeoaaPooA
import Derived.Lib.SmallJoins
set_option maxRecDepth 100000
set_option linter.unusedVariables false
set_option linter.unusedSimpArgs false
namespace Go.Proofs.Ytfjedjcdmaoeoaa
open Eng Go Go.RowKit Go.ChangeShapes Go.WideShapes Go.ChangeAt Go.Joins

theorem list_of {α : Type} {P : Nat → α → Prop} : ∀ n : Nat, (∀ i, i < n → ∃ x, P i x) → ∃ l : List α, l.length = n ∧ ∀ i x, l[i]? = some x → P i x
  | 0, _ => ⟨[], rfl, by simp⟩
  | n + 1, h => by
    obtain ⟨l, hl, hp⟩ := list_of n (fun i hi => h i (by omega))
    obtain ⟨x, hx⟩ := h n (by omega)
    refine ⟨l ++ [x], by simp [hl], fun i y hy => ?_⟩
    rw [List.getElem?_append] at hy
    split at hy
    · exact hp i y hy
    · have h1 := (List.getElem?_eq_some_iff.1 hy).1
      simp at h1
      have h2 : i = n := by omega
      subst h2
      rw [hl, Nat.sub_self] at hy
      simp at hy
      subst hy
      exact hx
theorem reads_flat {α : Type} {f : α → List Value} {s n : Nat} (hs : ∀ x, (f x).length = s) {w : World} {ad : Addr} {l : List α} (hl : l.length = n)
    (h : ∀ i x, l[i]? = some x → ∀ j u, (f x)[j]? = some u → w.cell? ((ad.add (i * s)).add j) = some u) : Reads w s (some ad) n (l.flatMap f) :=
  ⟨by rw [flat_len hs, hl], fun _ => ⟨ad, rfl, fun j u hu => by
    have hj : j < n * s := by have := (List.getElem?_eq_some_iff.1 hu).1; rw [flat_len hs, hl] at this; exact this
    have hs0 : 0 < s := by
      rcases Nat.eq_zero_or_pos s with h0 | h0
      · rw [h0] at hj; omega
      · exact h0
    have hk : j / s < l.length := by rw [hl]; exact Nat.div_lt_of_lt_mul (by rwa [Nat.mul_comm])
    have e : j / s * s + j % s = j := Nat.div_add_mod' j s
    have hx := List.getElem?_eq_getElem hk
    have h1 := flat_get (f := f) hs hx (Nat.mod_lt j hs0)
    rw [e, hu] at h1
    have h2 := h _ _ hx _ _ h1.symm
    rw [add_add, e] at h2
    exact h2⟩⟩

section
variable {H : Type} {enc : TypeId × Value → H} {P : Program} {w : World} {base : Nat} {spare : Nat → Bool} {held : Bool}
theorem open_ints1 {st it : TypeId} {m : Nat} {v : Value} {y : DataW H × List MemPlace} (hl : P.underlying st = some (.slice it)) (hi : P.underlying it = some (.int .i64)) (hC1 : P.cellsOf it = 1) (g : DataW.trod enc P w base (fun _ => true) held m st [v] = some y) :
    ∃ (A : Option Addr) (c : Nat) (l : List Int), v = .slice A l.length c ∧ Reads w 1 A l.length (i64s l) ∧ l.length ≤ c ∧ c ≤ maxLen := by
  rcases open_ints hl hi hC1 g with ⟨hcs, _⟩ | ⟨x, l, c', zs, hcs, _, hl2, hm, hz, _, hcell, hwz⟩
  · simp only [List.cons.injEq, and_true] at hcs
    exact ⟨none, 0, [], hcs, Reads.nil _ _ _, Nat.le_refl _, Nat.zero_le _⟩
  · simp only [List.cons.injEq, and_true] at hcs
    have hz' : zs.length = c' := by simpa using hz
    have hlen : (zs.take l).length = l := by simp; omega
    refine ⟨some x, c', zs.take l, by rw [hlen]; exact hcs, ?_, by rw [hlen]; exact hl2, hm⟩
    refine ⟨by simp [i64s], fun _ => ⟨x, rfl, fun j u hu => ?_⟩⟩
    simp only [i64s, List.getElem?_map, List.getElem?_take] at hu
    split at hu
    · have hj : j < zs.length := by omega
      rw [hcell j hj]
      simp [hj] at hu
      simp [List.getD, hj, hu]
    · simp at hu
theorem open_holds1 {t e it : TypeId} {f0 f1 : Field} {m0 : Nat} {v : Value} {y : DataW H × List MemPlace} (ht : P.underlying t = some (.slice e)) (hs : P.underlying e = some (.struct #[f0, f1])) (hi : P.underlying it = some (.int .i64))
    (hC : P.cellsOf e = 2) (hC1 : P.cellsOf it = 1) (hF : (f0.type = it ∧ f0.offset = 0) ∧ (f1.type = it ∧ f1.offset = 1)) (hf : DataW.trod enc P w base (fun _ => true) held m0 t [v] = some y) :
    ∃ (A : Option Addr) (c : Nat) (l : List HoldD), v = .slice A l.length c ∧ Reads w 2 A l.length (l.flatMap holdV) ∧ l.length ≤ c ∧ c ≤ maxLen := by
  rcases DataW.trod_slice ht hf with ⟨hcs, _⟩ | ⟨a, len, cap, elems, rest, m, _, hcs, _, _, hl, hm, hlen, hel, _, _⟩
  · simp only [List.cons.injEq, and_true] at hcs
    exact ⟨none, 0, [], hcs, Reads.nil _ _ _, Nat.le_refl _, Nat.zero_le _⟩
  · simp only [List.cons.injEq, and_true] at hcs
    obtain ⟨l, hll, hp⟩ := list_of (P := fun i (x : HoldD) => ∀ j u, (holdV x)[j]? = some u → w.cell? ((a.add (i * 2)).add j) = some u) len (fun i hi' => by
      have h1 := hel i hi'
      rw [List.getElem?_eq_getElem (by omega), Option.bind_eq_some_iff] at h1
      obtain ⟨cs, hcs, ht2⟩ := h1
      obtain ⟨y0, y1, m', _, hlen2, g0, g1⟩ := Go.ChangeShapes.trod_struct2 hs ht2
      obtain ⟨⟨e0, o0⟩, ⟨e1, o1⟩⟩ := hF
      rw [e0, o0, hC1] at g0
      rw [e1, o1, hC1] at g1
      rw [hC] at hcs hlen2
      obtain ⟨z0, k0, _, _⟩ := DataW.trod_int hi g0
      obtain ⟨z1, k1, _, _⟩ := DataW.trod_int hi g1
      match cs, hlen2 with
      | [c0, c1], _ =>
        simp at k0 k1
        subst k0 k1
        refine ⟨⟨z0, z1⟩, fun j u hu => ?_⟩
        have h2 := World.cells?_some hcs
        have hj : j < 2 := (List.getElem?_eq_some_iff.1 hu).1
        rw [← hu]
        exact h2.2.2 j hj)
    exact ⟨some a, cap, l, by rw [hll]; exact hcs, by rw [hll]; exact reads_flat holdV_len hll hp, by rw [hll]; exact hl, hm⟩
theorem open_pool {t it st sh eh : TypeId} {f0 f1 f2 f3 h0 h1 : Field} {r : Reach} {b0 : Nat} {v : Value} {d : DataW H} {p : List MemPlace} (hs : P.underlying t = some (.struct #[f0, f1, f2, f3])) (hi : P.underlying it = some (.int .i64)) (hl : P.underlying st = some (.slice it)) (hh : P.underlying sh = some (.slice eh)) (he : P.underlying eh = some (.struct #[h0, h1]))
    (hone : Go.Deep.oneCellFields P #[f0, f1, f2, f3] = true) (hC : P.cellsOf t = 4) (hC1 : P.cellsOf it = 1) (hC2 : P.cellsOf eh = 2) (hF : f0.type = it ∧ f1.type = st ∧ f2.type = sh ∧ f3.type = st) (hG : (h0.type = it ∧ h0.offset = 0) ∧ (h1.type = it ∧ h1.offset = 1))
    (hv : Value.okWide P w r b0 t v) (h : DataW.Trod enc P w base (fun _ => true) held t v d p) :
    ∃ (x : PoolD) (a : PAd), v = .agg (poolV x a).toArray ∧ (Reads w 1 a.i x.i.length (i64s x.i) ∧ Reads w 2 a.h x.h.length (x.h.flatMap holdV) ∧ Reads w 1 a.w x.w.length (i64s x.w)) ∧ (x.i.length ≤ maxLen ∧ x.h.length ≤ maxLen ∧ x.w.length ≤ maxLen) := by
  obtain ⟨v0, v1, v2, v3, y0, y1, y2, y3, m, rfl, _, _, g0, g1, g2, g3⟩ := open_agg4 hs hone hC hv h
  obtain ⟨e0, e1, e2, e3⟩ := hF
  rw [e0] at g0
  rw [e1] at g1
  rw [e2] at g2
  rw [e3] at g3
  obtain ⟨z0, k0, _, _⟩ := DataW.trod_int hi g0
  simp only [List.cons.injEq, and_true] at k0
  obtain ⟨A1, c1, l1, k1, r1, q1, m1⟩ := open_ints1 hl hi hC1 g1
  obtain ⟨A2, c2, l2, k2, r2, q2, m2⟩ := open_holds1 hh he hi hC2 hC1 hG g2
  obtain ⟨A3, c3, l3, k3, r3, q3, m3⟩ := open_ints1 hl hi hC1 g3
  exact ⟨⟨z0, l1, l2, l3⟩, ⟨A1, A2, A3, c1, c2, c3⟩, by rw [k0, k1, k2, k3]; rfl, ⟨r1, r2, r3⟩, Nat.le_trans q1 m1, Nat.le_trans q2 m2, Nat.le_trans q3 m3⟩
end
end Go.Proofs.Ytfjedjcdmaoeoaa
