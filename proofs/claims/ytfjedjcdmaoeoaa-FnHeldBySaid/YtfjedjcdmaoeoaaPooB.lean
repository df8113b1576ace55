/- Valid pools, of both packages; conditions: none. -/
import Derived.Test.YtfjedjcdmaoeoaaPooA
set_option maxRecDepth 100000
set_option linter.unusedVariables false
set_option linter.unusedSimpArgs false
namespace Go.Proofs.Ytfjedjcdmaoeoaa
open Eng Go Go.RowKit

theorem okPool_iff {p : PoolD} {B : Int} (hB : 1 ≤ p.m ∧ p.m ≤ 6 → B = p.m - 1) : okPool p ↔ (1 ≤ p.m ∧ p.m ≤ 6) ∧ p.i.Nodup ∧ (∀ x ∈ p.i, (0 ≤ x ∧ x ≤ B) ∧ x ∉ hc p.h) ∧ (hc p.h).Nodup ∧ (∀ x ∈ p.h, (0 ≤ x.c ∧ x.c ≤ B) ∧ 0 ≤ x.o ∧ x.o ≤ 4) ∧ p.w.length ≤ 12 ∧ (∀ x ∈ p.w, 0 ≤ x ∧ x ≤ 4) ∧ (p.w.length = 0 ∨ (p.h.length : Int) = p.m) := by
  constructor
  · intro h
    have hb := hB h.1
    refine ⟨h.1, idle_nodup h, fun x hx => ⟨by have := idle_range h hx; omega, idle_held h hx⟩, held_nodup h, fun x hx => ⟨?_, h.2.2.2.1 x hx⟩, h.2.2.2.2.1, h.2.2.2.2.2.1, h.2.2.2.2.2.2⟩
    have := held_range h (mem_hc.2 ⟨x, hx, rfl⟩)
    omega
  · rintro ⟨h1, h2, h3, h4, h5, h6, h7, h8⟩
    have hb := hB h1
    refine ⟨h1, ?_, fun x hx => ?_, fun x hx => (h5 x hx).2, h6, h7, h8⟩
    · rw [conns, List.nodup_append]
      exact ⟨h2, h4, fun x hx y hy e => (h3 x hx).2 (e ▸ hy)⟩
    · rcases List.mem_append.1 hx with hx | hx
      · have := (h3 x hx).1; omega
      · obtain ⟨y, hy, rfl⟩ := mem_hc.1 hx
        have := (h5 y hy).1; omega
theorem nodup_snoc {l : List Int} {x : Int} (h : l.Nodup) (hx : x ∉ l) : (l ++ [x]).Nodup := by
  rw [List.nodup_append]
  exact ⟨h, by simp, fun y hy z hz e => by simp only [List.mem_singleton] at hz; subst hz; subst e; exact hx hy⟩
theorem nodup_no {l : List Int} {k : Nat} {x : Int} (hk : l[k]? = some x) (hm : x ∈ l.take k) : ¬ l.Nodup := fun h => by
  have h2 := List.Nodup.sublist (List.take_sublist (k + 1) l) h
  rw [take_snoc hk, List.nodup_append] at h2
  exact h2.2.2 x hm x (by simp) rfl
theorem hc_take {h : List HoldD} {k : Nat} {x : HoldD} (hk : h[k]? = some x) : hc (h.take (k + 1)) = hc (h.take k) ++ [x.c] := by
  rw [take_snoc hk, hc_app]; rfl
theorem mem_snoc {α : Type} {l : List α} {k : Nat} {x : α} (hk : l[k]? = some x) {P : α → Prop} (h : ∀ y ∈ l.take k, P y) (hx : P x) : ∀ y ∈ l.take (k + 1), P y := fun y hy => by
  rw [take_snoc hk, List.mem_append, List.mem_singleton] at hy
  rcases hy with hy | rfl
  · exact h y hy
  · exact hx

theorem impl_ValidPool_any {p : PoolD} {a : PAd} (w : World) (hP : PoolR w p a) (hci : p.i.length ≤ a.ci) :
    Calls Try.prog 20 #[.agg (poolV p a).toArray] w fun e w' => e = .returned (.bool (decide (okPool p))) ∧ Below w.heap.size w w' := by
  obtain ⟨B, hB⟩ : ∃ B, IntKind.i64.wrap (p.m - 1) = B := ⟨_, rfl⟩
  have hB1 : 1 ≤ p.m ∧ p.m ≤ 6 → B = p.m - 1 := fun h => by rw [← hB]; exact IntWalk.i64_in _ (by omega)
  have iff := okPool_iff hB1
  have hil := hP.i.le
  have hhl := hP.h.le
  refine enter (C := cxS w []) (okS w []) (St.start w) Try.func20 rfl rfl ?_; conv => whnf
  refine NewS.mk (fun g0 => ?_)
  conv => whnf
  refine LoopS.same (okS w []) [(2, 4), (10, 35)] [10] rfl (fun k : Nat => [I64 k]) (fun k => k ≤ p.i.length ∧ (∀ x ∈ p.i.take k, (0 ≤ x ∧ x ≤ B) ∧ x ∉ hc p.h) ∧ (p.i.take k).Nodup) (fun k => p.i.length - k) 0 ⟨by omega, by simp, by simp⟩ ⟨rfl, trivial⟩ (LbTo.self rfl) (fun k g ⟨hk, hI1, hI2⟩ => ?_)
  conv => whnf
  refine Sp.mk (fun h => ?_) (fun h => ?_) <;> conv => whnf
  · obtain ⟨ad, x, e, hx, hm, hc0⟩ := hP.i.at_ (k := k) (by omega)
    refine IdxS.at_ k e rfl (by omega) ?_
    conv => whnf
    refine LdS.at_ (fun w' hS => hS.cell0 hc0) ?_
    conv => whnf
    refine ⟨B, hB, ?_⟩
    conv => whnf
    refine ⟨rfl, CallS.p (fun w' hS => in_any _ _ _ w') (fun h1 => ?_) (fun h1 => ?_)⟩ <;> conv => whnf
    rotate_left
    · (repeat' (first | (refine Sp.mk (fun hs => ?_) (fun hs => ?_) <;> first | (exfalso; omega) | (conv => whnf)) | (refine Ar.i (by omega) ?_; conv => whnf) | (refine NewS.mk (fun _ => ?_); conv => whnf) | (refine QuoS.nn (by omega) ?_; conv => whnf) | (refine RemS.nn (by omega) ?_; conv => whnf) | (refine QuietS.mk (by as_aux_lemma => kernel_rfl) ?_; conv => whnf) | refine RetS.mk (fun w' hS => ?_)))
      exact ⟨by rw [decide_eq_false (fun h => h1 ((iff.1 h).2.2.1 x hm).1)], hS.below⟩
    refine SlcS.hi k rfl (by omega) ?_
    conv => whnf
    refine ⟨rfl, CallS.p (fun w' hS => contains_any x w' ((hP.i.below hS.below).take (k := k) (by omega))) (fun h2 => ?_) (fun h2 => ?_)⟩ <;> conv => whnf
    · (repeat' (first | (refine Sp.mk (fun hs => ?_) (fun hs => ?_) <;> first | (exfalso; omega) | (conv => whnf)) | (refine Ar.i (by omega) ?_; conv => whnf) | (refine NewS.mk (fun _ => ?_); conv => whnf) | (refine QuoS.nn (by omega) ?_; conv => whnf) | (refine RemS.nn (by omega) ?_; conv => whnf) | (refine QuietS.mk (by as_aux_lemma => kernel_rfl) ?_; conv => whnf) | refine RetS.mk (fun w' hS => ?_)))
      exact ⟨by rw [decide_eq_false (fun h => nodup_no hx h2 (iff.1 h).2.1)], hS.below⟩
    refine ⟨rfl, CallS.ro (fun w' hS => held_any x w' (hP.below hS.below)) ?_⟩
    conv => whnf
    refine Sp.mk (fun h3 => ?_) (fun h3 => ?_) <;> conv => whnf
    · (repeat' (first | (refine Sp.mk (fun hs => ?_) (fun hs => ?_) <;> first | (exfalso; omega) | (conv => whnf)) | (refine Ar.i (by omega) ?_; conv => whnf) | (refine NewS.mk (fun _ => ?_); conv => whnf) | (refine QuoS.nn (by omega) ?_; conv => whnf) | (refine RemS.nn (by omega) ?_; conv => whnf) | (refine QuietS.mk (by as_aux_lemma => kernel_rfl) ?_; conv => whnf) | refine RetS.mk (fun w' hS => ?_)))
      exact ⟨by rw [decide_eq_false (fun h => ((iff.1 h).2.2.1 x hm).2 (idxH_nonneg.1 h3))], hS.below⟩
    refine Ar.i (by omega) ?_
    conv => whnf
    exact ⟨k + 1, ⟨by omega, mem_snoc hx hI1 ⟨h1, fun hh => h3 (idxH_nonneg.2 hh)⟩, by rw [take_snoc hx]; exact nodup_snoc hI2 h2⟩, by omega, ⟨rfl, trivial⟩, LbTo.self rfl, RsTo.refl _⟩
  have hkn : k = p.i.length := by omega
  rw [hkn, List.take_length] at hI1 hI2
  refine LoopS.same (okS w []) [(2, 2), (5, 6), (39, 65)] [39] rfl (fun k : Nat => [I64 k]) (fun k => k ≤ p.h.length ∧ (∀ x ∈ p.h.take k, (0 ≤ x.c ∧ x.c ≤ B) ∧ 0 ≤ x.o ∧ x.o ≤ 4) ∧ (hc (p.h.take k)).Nodup) (fun k => p.h.length - k) 0 ⟨by omega, by simp, by simp [hc]⟩ ⟨rfl, trivial⟩ (LbTo.self rfl) (fun j g2 ⟨hj, hJ1, hJ2⟩ => ?_)
  conv => whnf
  refine Sp.mk (fun h => ?_) (fun h => ?_) <;> conv => whnf
  · obtain ⟨ad, x, e, hx, hm, hc0⟩ := hP.h.at_ (k := j) (by omega)
    refine IdxS.at_ j e rfl (by omega) ?_
    conv => whnf
    refine LdsS.at_ (vs := holdV x) rfl (fun w' hS i u hu => hS.cell0 (hc0 i u hu)) ?_
    conv => whnf
    refine NewS.mk (fun g3 => ?_)
    conv => whnf
    refine ⟨B, hB, ?_⟩
    conv => whnf
    refine ⟨rfl, CallS.p (fun w' hS => in_any _ _ _ w') (fun h1 => ?_) (fun h1 => ?_)⟩ <;> conv => whnf
    rotate_left
    · (repeat' (first | (refine Sp.mk (fun hs => ?_) (fun hs => ?_) <;> first | (exfalso; omega) | (conv => whnf)) | (refine Ar.i (by omega) ?_; conv => whnf) | (refine NewS.mk (fun _ => ?_); conv => whnf) | (refine QuoS.nn (by omega) ?_; conv => whnf) | (refine RemS.nn (by omega) ?_; conv => whnf) | (refine QuietS.mk (by as_aux_lemma => kernel_rfl) ?_; conv => whnf) | refine RetS.mk (fun w' hS => ?_)))
      exact ⟨by rw [decide_eq_false (fun h => h1 ((iff.1 h).2.2.2.2.1 x hm).1)], hS.below⟩
    refine ⟨rfl, CallS.p (fun w' hS => isOwner_any _ w') (fun h2 => ?_) (fun h2 => ?_)⟩ <;> conv => whnf
    rotate_left
    · (repeat' (first | (refine Sp.mk (fun hs => ?_) (fun hs => ?_) <;> first | (exfalso; omega) | (conv => whnf)) | (refine Ar.i (by omega) ?_; conv => whnf) | (refine NewS.mk (fun _ => ?_); conv => whnf) | (refine QuoS.nn (by omega) ?_; conv => whnf) | (refine RemS.nn (by omega) ?_; conv => whnf) | (refine QuietS.mk (by as_aux_lemma => kernel_rfl) ?_; conv => whnf) | refine RetS.mk (fun w' hS => ?_)))
      exact ⟨by rw [decide_eq_false (fun h => h2 ((iff.1 h).2.2.2.2.1 x hm).2)], hS.below⟩
    refine ⟨rfl, CallS.ro (fun w' hS => held_any x.c w' (hP.below hS.below)) ?_⟩
    conv => whnf
    refine Sp.mk (fun h3 => ?_) (fun h3 => ?_) <;> conv => whnf
    rotate_left
    · (repeat' (first | (refine Sp.mk (fun hs => ?_) (fun hs => ?_) <;> first | (exfalso; omega) | (conv => whnf)) | (refine Ar.i (by omega) ?_; conv => whnf) | (refine NewS.mk (fun _ => ?_); conv => whnf) | (refine QuoS.nn (by omega) ?_; conv => whnf) | (refine RemS.nn (by omega) ?_; conv => whnf) | (refine QuietS.mk (by as_aux_lemma => kernel_rfl) ?_; conv => whnf) | refine RetS.mk (fun w' hS => ?_)))
      exact ⟨by rw [decide_eq_false (fun h => h3 (idxH_nodup (iff.1 h).2.2.2.1 hx))], hS.below⟩
    refine Ar.i (by omega) ?_
    conv => whnf
    refine ⟨j + 1, ⟨by omega, mem_snoc hx hJ1 ⟨h1, h2⟩, ?_⟩, by omega, ⟨rfl, trivial⟩, ⟨rfl, (LbTo.self rfl).ok⟩, RsTo.refl _⟩
    rw [hc_take hx]
    refine nodup_snoc hJ2 ?_
    rcases idxH_spec p.h x.c 0 with ⟨q1, q2⟩ | ⟨i, y, q1, q2, q3, q4⟩
    · exact absurd (mem_hc.2 ⟨x, hm, rfl⟩) q2
    · have e2 : i = j := by omega
      rwa [e2] at q4
  have hjn : j = p.h.length := by omega
  rw [hjn, List.take_length] at hJ1 hJ2
  refine ⟨rfl, CallS.p (fun w' hS => in_any _ _ _ w') (fun h1 => ?_) (fun h1 => ?_)⟩ <;> conv => whnf
  rotate_left
  · (repeat' (first | (refine Sp.mk (fun hs => ?_) (fun hs => ?_) <;> first | (exfalso; omega) | (conv => whnf)) | (refine Ar.i (by omega) ?_; conv => whnf) | (refine NewS.mk (fun _ => ?_); conv => whnf) | (refine QuoS.nn (by omega) ?_; conv => whnf) | (refine RemS.nn (by omega) ?_; conv => whnf) | (refine QuietS.mk (by as_aux_lemma => kernel_rfl) ?_; conv => whnf) | refine RetS.mk (fun w' hS => ?_)))
    exact ⟨by rw [decide_eq_false (fun h => h1 (iff.1 h).1)], hS.below⟩
  refine Sp.mk (fun h2 => ?_) (fun h2 => ?_) <;> conv => whnf
  rotate_left
  · (repeat' (first | (refine Sp.mk (fun hs => ?_) (fun hs => ?_) <;> first | (exfalso; omega) | (conv => whnf)) | (refine Ar.i (by omega) ?_; conv => whnf) | (refine NewS.mk (fun _ => ?_); conv => whnf) | (refine QuoS.nn (by omega) ?_; conv => whnf) | (refine RemS.nn (by omega) ?_; conv => whnf) | (refine QuietS.mk (by as_aux_lemma => kernel_rfl) ?_; conv => whnf) | refine RetS.mk (fun w' hS => ?_)))
    exact ⟨by rw [decide_eq_false (fun h => h2 (by have := (iff.1 h).2.2.2.2.2.1; omega))], hS.below⟩
  refine ⟨rfl, CallS.p (fun w' hS => iallIn_any _ _ w' (hP.w.below hS.below)) (fun h3 => ?_) (fun h3 => ?_)⟩ <;> conv => whnf
  rotate_left
  · (repeat' (first | (refine Sp.mk (fun hs => ?_) (fun hs => ?_) <;> first | (exfalso; omega) | (conv => whnf)) | (refine Ar.i (by omega) ?_; conv => whnf) | (refine NewS.mk (fun _ => ?_); conv => whnf) | (refine QuoS.nn (by omega) ?_; conv => whnf) | (refine RemS.nn (by omega) ?_; conv => whnf) | (refine QuietS.mk (by as_aux_lemma => kernel_rfl) ?_; conv => whnf) | refine RetS.mk (fun w' hS => ?_)))
    exact ⟨by rw [decide_eq_false (fun h => h3 (iff.1 h).2.2.2.2.2.2.1)], hS.below⟩
  refine Sp.mk (fun h4 => ?_) (fun h4 => ?_) <;> conv => whnf
  · (repeat' (first | (refine Sp.mk (fun hs => ?_) (fun hs => ?_) <;> first | (exfalso; omega) | (conv => whnf)) | (refine Ar.i (by omega) ?_; conv => whnf) | (refine NewS.mk (fun _ => ?_); conv => whnf) | (refine QuoS.nn (by omega) ?_; conv => whnf) | (refine RemS.nn (by omega) ?_; conv => whnf) | (refine QuietS.mk (by as_aux_lemma => kernel_rfl) ?_; conv => whnf) | refine RetS.mk (fun w' hS => ?_)))
    exact ⟨by rw [decide_eq_true (iff.2 ⟨h1, hI2, hI1, hJ2, hJ1, by omega, h3, .inl (by omega)⟩)], hS.below⟩
  refine Sp.mk (fun h5 => ?_) (fun h5 => ?_) <;> conv => whnf
  · (repeat' (first | (refine Sp.mk (fun hs => ?_) (fun hs => ?_) <;> first | (exfalso; omega) | (conv => whnf)) | (refine Ar.i (by omega) ?_; conv => whnf) | (refine NewS.mk (fun _ => ?_); conv => whnf) | (refine QuoS.nn (by omega) ?_; conv => whnf) | (refine RemS.nn (by omega) ?_; conv => whnf) | (refine QuietS.mk (by as_aux_lemma => kernel_rfl) ?_; conv => whnf) | refine RetS.mk (fun w' hS => ?_)))
    exact ⟨by rw [decide_eq_true (iff.2 ⟨h1, hI2, hI1, hJ2, hJ1, by omega, h3, .inr h5⟩)], hS.below⟩
  · (repeat' (first | (refine Sp.mk (fun hs => ?_) (fun hs => ?_) <;> first | (exfalso; omega) | (conv => whnf)) | (refine Ar.i (by omega) ?_; conv => whnf) | (refine NewS.mk (fun _ => ?_); conv => whnf) | (refine QuoS.nn (by omega) ?_; conv => whnf) | (refine RemS.nn (by omega) ?_; conv => whnf) | (refine QuietS.mk (by as_aux_lemma => kernel_rfl) ?_; conv => whnf) | refine RetS.mk (fun w' hS => ?_)))
    exact ⟨by rw [decide_eq_false (fun h => by rcases (iff.1 h).2.2.2.2.2.2.2 with h6 | h6 <;> omega)], hS.below⟩
end Go.Proofs.Ytfjedjcdmaoeoaa
