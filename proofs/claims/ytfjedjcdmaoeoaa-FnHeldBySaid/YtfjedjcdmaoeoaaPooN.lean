/- The least connection that is not open, plainly; conditions: none. -/
import Derived.Test.YtfjedjcdmaoeoaaPooP
set_option linter.unusedVariables false
set_option linter.unusedSimpArgs false
namespace Go.Proofs.Ytfjedjcdmaoeoaa
open Eng Go Go.RowKit

def clo (i hs : List Int) : Int → Nat → Int
  | _, 0 => -1
  | c, k + 1 => if c ∉ i ∧ c ∉ hs then c else clo i hs (c + 1) k
theorem clo_spec (i hs : List Int) : ∀ (k : Nat) (c : Int), (clo i hs c k = -1 ∧ ∀ x, c ≤ x → x < c + k → x ∈ i ∨ x ∈ hs) ∨ (c ≤ clo i hs c k ∧ clo i hs c k < c + k ∧ clo i hs c k ∉ i ∧ clo i hs c k ∉ hs ∧ ∀ x, c ≤ x → x < clo i hs c k → x ∈ i ∨ x ∈ hs)
  | 0, c => .inl ⟨rfl, fun x h1 h2 => by omega⟩
  | k + 1, c => by
    by_cases h : c ∉ i ∧ c ∉ hs
    · have e : clo i hs c (k + 1) = c := if_pos h
      rw [e]
      exact .inr ⟨Int.le_refl _, by omega, h.1, h.2, fun x h1 h2 => by omega⟩
    · have e : clo i hs c (k + 1) = clo i hs (c + 1) k := if_neg h
      have hc : c ∈ i ∨ c ∈ hs := by
        by_cases h1 : c ∈ i
        · exact .inl h1
        · exact .inr (Classical.byContradiction fun h2 => h ⟨h1, h2⟩)
      rw [e]
      rcases clo_spec i hs k (c + 1) with ⟨h1, h2⟩ | ⟨h1, h2, h3, h4, h5⟩
      · refine .inl ⟨h1, fun x hx1 hx2 => ?_⟩
        by_cases hx : x = c
        · rw [hx]; exact hc
        · exact h2 x (by omega) (by omega)
      · refine .inr ⟨by omega, by omega, h3, h4, fun x hx1 hx2 => ?_⟩
        by_cases hx : x = c
        · rw [hx]; exact hc
        · exact h5 x (by omega) hx2
def closedP (p : PoolD) : Int := clo p.i (hc p.h) 0 p.m.toNat
/-- Nothing idle, and room: the least number that nobody holds. -/
theorem closed_free {p : PoolD} (h : okPool p) (hi : p.i = []) (hl : (p.h.length : Int) < p.m) : closedP p = leastIn (hc p.h) 0 6 := by
  obtain ⟨⟨h1, h2⟩, h3⟩ := least_free h hl
  obtain ⟨l1, l2, l3, l4⟩ := leastIn_spec (hc p.h) 6 0
  have hm := h.1
  rcases clo_spec p.i (hc p.h) p.m.toNat 0 with ⟨q1, q2⟩ | ⟨q1, q2, q3, q4, q5⟩
  · rcases q2 _ h1 (by omega) with h5 | h5
    · rw [hi] at h5; simp at h5
    · exact absurd h5 h3
  · show clo p.i (hc p.h) 0 p.m.toNat = _
    rcases Int.lt_trichotomy (clo p.i (hc p.h) 0 p.m.toNat) (leastIn (hc p.h) 0 6) with h5 | h5 | h5
    · exact absurd (l3 _ q1 h5) q4
    · exact h5
    · rcases q5 _ h1 h5 with h6 | h6
      · rw [hi] at h6; simp at h6
      · exact absurd h6 h3
/-- All held: none. -/
theorem closed_full {p : PoolD} (h : okPool p) (hi : p.i = []) (hl : (p.h.length : Int) = p.m) : closedP p = -1 := by
  have hm := h.1
  obtain ⟨_, g2, _⟩ := pigeon p.m.toNat (hc p.h) (held_nodup h) (fun x hx => by have := held_range h hx; omega)
  have g2 := g2 (by rw [hc_len]; omega)
  rcases clo_spec p.i (hc p.h) p.m.toNat 0 with ⟨q1, _⟩ | ⟨q1, q2, q3, q4, _⟩
  · exact q1
  · exact absurd (g2 _ q1 (by omega)) q4
end Go.Proofs.Ytfjedjcdmaoeoaa
