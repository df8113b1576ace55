/- Readings of slices of leases among a law's arguments; conditions: none. -/
import Derived.Test.YtgfblbpiokiagaaLeaA
import Derived.Lib.SmallJoins
set_option linter.unusedVariables false
set_option linter.unusedSimpArgs false
namespace Go.Proofs.Ytgfblbpiokiagaa
open Eng Go Go.RowKit Go.ChangeShapes Go.WideShapes Go.ChangeAt Go.Joins

theorem list_of {α : Type} {P : Nat → α → Prop} : ∀ n : Nat, (∀ i, i < n → ∃ x, P i x) → ∃ l : List α, l.length = n ∧ ∀ i x, l[i]? = some x → P i x
  | 0, _ => ⟨[], rfl, by simp⟩
  | n + 1, h => by
    obtain ⟨l, hl, hp⟩ := list_of n (fun i hi => h i (by omega))
    obtain ⟨x, hx⟩ := h n (by omega)
    refine ⟨l ++ [x], by simp [hl], fun i y hy => ?_⟩
    rw [List.getElem?_append] at hy
    split at hy
    · exact hp i y hy
    · have h1 := (List.getElem?_eq_some_iff.1 hy).1
      simp at h1
      have h2 : i = n := by omega
      subst h2
      rw [hl, Nat.sub_self] at hy
      simp at hy
      subst hy
      exact hx
theorem reads_flat {α : Type} {f : α → List Value} {s n : Nat} (hs : ∀ x, (f x).length = s) {w : World} {ad : Addr} {l : List α} (hl : l.length = n)
    (h : ∀ i x, l[i]? = some x → ∀ j u, (f x)[j]? = some u → w.cell? ((ad.add (i * s)).add j) = some u) : Reads w s (some ad) n (l.flatMap f) :=
  ⟨by rw [flat_len hs, hl], fun _ => ⟨ad, rfl, fun j u hu => by
    have hj : j < n * s := by have := (List.getElem?_eq_some_iff.1 hu).1; rw [flat_len hs, hl] at this; exact this
    have hs0 : 0 < s := by
      rcases Nat.eq_zero_or_pos s with h0 | h0
      · rw [h0] at hj; omega
      · exact h0
    have hk : j / s < l.length := by rw [hl]; exact Nat.div_lt_of_lt_mul (by rwa [Nat.mul_comm])
    have e : j / s * s + j % s = j := Nat.div_add_mod' j s
    have hx := List.getElem?_eq_getElem hk
    have h1 := flat_get (f := f) hs hx (Nat.mod_lt j hs0)
    rw [e, hu] at h1
    have h2 := h _ _ hx _ _ h1.symm
    rw [add_add, e] at h2
    exact h2⟩⟩

section
variable {H : Type} {enc : TypeId × Value → H} {P : Program} {w : World} {base : Nat} {spare : Nat → Bool} {held : Bool}
theorem open_leases {t e it : TypeId} {f0 f1 f2 f3 : Field} {r : Reach} {b0 : Nat} {v : Value} {d : DataW H} {p : List MemPlace} (ht : P.underlying t = some (.slice e)) (hs : P.underlying e = some (.struct #[f0, f1, f2, f3])) (hi : P.underlying it = some (.int .i64))
    (hC : P.cellsOf e = 4) (hC1 : P.cellsOf it = 1) (hF : (f0.type = it ∧ f0.offset = 0) ∧ (f1.type = it ∧ f1.offset = 1) ∧ (f2.type = it ∧ f2.offset = 2) ∧ (f3.type = it ∧ f3.offset = 3))
    (hv : Value.okWide P w r b0 t v) (h : DataW.Trod enc P w base (fun _ => true) held t v d p) :
    ∃ (A : Option Addr) (n c : Nat) (l : List LeaseD), v = .slice A n c ∧ Reads w 4 A n (l.flatMap leaseV) ∧ n ≤ c ∧ c ≤ maxLen := by
  obtain ⟨A, n, c, rfl⟩ := okWide_slice ht hv
  obtain ⟨fuel, hf⟩ := h
  rcases DataW.trod_slice ht hf with ⟨hcs, _⟩ | ⟨a, len, cap, elems, rest, m, _, hcs, _, _, hl, hm, hlen, hel, _, _⟩
  · simp [Value.cells] at hcs
    obtain ⟨rfl, rfl, rfl⟩ := hcs
    exact ⟨none, 0, 0, [], rfl, Reads.nil _ _ _, Nat.le_refl _, Nat.zero_le _⟩
  · simp [Value.cells] at hcs
    obtain ⟨rfl, rfl, rfl⟩ := hcs
    obtain ⟨l, hll, hp⟩ := list_of (P := fun i (x : LeaseD) => ∀ j u, (leaseV x)[j]? = some u → w.cell? ((a.add (i * 4)).add j) = some u) n (fun i hi' => by
      have h1 := hel i hi'
      rw [List.getElem?_eq_getElem (by omega), Option.bind_eq_some_iff] at h1
      obtain ⟨cs, hcs, ht4⟩ := h1
      obtain ⟨y0, y1, y2, y3, m', _, hlen4, g0, g1, g2, g3⟩ := trod_struct4 hs ht4
      obtain ⟨⟨e0, o0⟩, ⟨e1, o1⟩, ⟨e2, o2⟩, ⟨e3, o3⟩⟩ := hF
      rw [e0, o0, hC1] at g0
      rw [e1, o1, hC1] at g1
      rw [e2, o2, hC1] at g2
      rw [e3, o3, hC1] at g3
      rw [hC] at hcs hlen4
      obtain ⟨z0, k0, _, _⟩ := DataW.trod_int hi g0
      obtain ⟨z1, k1, _, _⟩ := DataW.trod_int hi g1
      obtain ⟨z2, k2, _, _⟩ := DataW.trod_int hi g2
      obtain ⟨z3, k3, _, _⟩ := DataW.trod_int hi g3
      match cs, hlen4 with
      | [c0, c1, c2, c3], _ =>
        simp at k0 k1 k2 k3
        subst k0 k1 k2 k3
        refine ⟨⟨z0, z1, z2, z3⟩, fun j u hu => ?_⟩
        have h2 := World.cells?_some hcs
        have hj : j < 4 := (List.getElem?_eq_some_iff.1 hu).1
        rw [← hu]
        exact h2.2.2 j hj)
    exact ⟨some a, n, c, l, rfl, reads_flat leaseV_len hll hp, hl, hm⟩
theorem open_lease {t it : TypeId} {f0 f1 f2 f3 : Field} {r : Reach} {b0 : Nat} {v : Value} {d : DataW H} {p : List MemPlace} (hs : P.underlying t = some (.struct #[f0, f1, f2, f3])) (hi : P.underlying it = some (.int .i64))
    (hone : Go.Deep.oneCellFields P #[f0, f1, f2, f3] = true) (hC : P.cellsOf t = 4) (hF : f0.type = it ∧ f1.type = it ∧ f2.type = it ∧ f3.type = it) (hv : Value.okWide P w r b0 t v) (h : DataW.Trod enc P w base (fun _ => true) held t v d p) :
    ∃ x : LeaseD, v = .agg (leaseV x).toArray := by
  obtain ⟨v0, v1, v2, v3, y0, y1, y2, y3, m, rfl, _, _, g0, g1, g2, g3⟩ := open_agg4 hs hone hC hv h
  obtain ⟨e0, e1, e2, e3⟩ := hF
  rw [e0] at g0
  rw [e1] at g1
  rw [e2] at g2
  rw [e3] at g3
  obtain ⟨z0, k0, _, _⟩ := DataW.trod_int hi g0
  obtain ⟨z1, k1, _, _⟩ := DataW.trod_int hi g1
  obtain ⟨z2, k2, _, _⟩ := DataW.trod_int hi g2
  obtain ⟨z3, k3, _, _⟩ := DataW.trod_int hi g3
  simp only [List.cons.injEq, and_true] at k0 k1 k2 k3
  exact ⟨⟨z0, z1, z2, z3⟩, by simp [leaseV, k0, k1, k2, k3]⟩
end
end Go.Proofs.Ytgfblbpiokiagaa
