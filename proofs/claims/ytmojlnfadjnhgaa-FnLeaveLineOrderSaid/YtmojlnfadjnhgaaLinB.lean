/- Valid lines and waiting tickets, of both packages; conditions: none. -/
import Derived.Test.YtmojlnfadjnhgaaLinS
set_option maxRecDepth 100000
set_option linter.unusedVariables false
set_option linter.unusedSimpArgs false
namespace Go.Proofs.Ytmojlnfadjnhgaa
open Eng Go Go.RowKit

theorem impl_ValidLine_any {A : Option Addr} {c : Nat} {l : LineD} (w : World) (hL : LineR w A l) :
    Calls Try.prog 33 #[.agg (lineV l A c).toArray] w fun e w' => e = .returned (.bool (decide (okLine l))) ∧ Below w.heap.size w w' := by
  refine enter (C := cxS w []) (okS w []) (St.start w) Try.func33 rfl rfl ?_; conv => whnf
  refine NewS.mk (fun g0 => ?_)
  conv => whnf
  (try (refine QuietS.mk (by as_aux_lemma => kernel_rfl) ?_; conv => whnf))
  (first | refine ⟨rfl, CallS.p (fun w' hS => in_any _ _ _ w') (fun h1 => ?_) (fun h1 => ?_)⟩ | refine ⟨rfl, CallQ.p (fun w' hS => in_any _ _ _ w') (fun h1 => ?_) (fun h1 => ?_)⟩) <;> conv => whnf
  rotate_left
  · (repeat' (first | (refine Sp.mk (fun hs => ?_) (fun hs => ?_) <;> first | (exfalso; omega) | (conv => whnf)) | (refine Ar.i (by omega) ?_; conv => whnf) | (refine NewS.mk (fun _ => ?_); conv => whnf) | (refine QuoS.nn (by omega) ?_; conv => whnf) | (refine RemS.nn (by omega) ?_; conv => whnf) | (refine QuietS.mk (by as_aux_lemma => kernel_rfl) ?_; conv => whnf) | refine RetS.mk (fun w' hS => ?_)))
    exact ⟨by rw [decide_eq_false]; exact fun h => h1 h.1, hS.below⟩
  (repeat' (first | (refine Sp.mk (fun hs => ?_) (fun hs => ?_) <;> first | (exfalso; omega) | (conv => whnf)) | (refine Ar.i (by omega) ?_; conv => whnf) | (refine NewS.mk (fun _ => ?_); conv => whnf) | (refine QuoS.nn (by omega) ?_; conv => whnf) | (refine RemS.nn (by omega) ?_; conv => whnf) | refine RetS.mk (fun w' hS => ?_)))
  all_goals
    (first | refine ⟨rfl, CallS.p (fun w' hS => in_any _ _ _ w') (fun h2 => ?_) (fun h2 => ?_)⟩ | refine ⟨rfl, CallQ.p (fun w' hS => in_any _ _ _ w') (fun h2 => ?_) (fun h2 => ?_)⟩) <;> simp only [cond_true, cond_false] at h2 <;> conv => whnf
    rotate_left
    · (repeat' (first | (refine Sp.mk (fun hs => ?_) (fun hs => ?_) <;> first | (exfalso; omega) | (conv => whnf)) | (refine Ar.i (by omega) ?_; conv => whnf) | (refine NewS.mk (fun _ => ?_); conv => whnf) | (refine QuoS.nn (by omega) ?_; conv => whnf) | (refine RemS.nn (by omega) ?_; conv => whnf) | (refine QuietS.mk (by as_aux_lemma => kernel_rfl) ?_; conv => whnf) | refine RetS.mk (fun w' hS => ?_)))
      exact ⟨by rw [decide_eq_false]; exact fun h => h2 (by have := h.2.1; omega), hS.below⟩
    (first | refine ⟨rfl, CallS.p (fun w' hS => impl_ascending_any w' (hL.below hS.below)) (fun h3 => ?_) (fun h3 => ?_)⟩ | refine ⟨rfl, CallQ.p (fun w' hS => impl_ascending_any w' (hL.below hS.below)) (fun h3 => ?_) (fun h3 => ?_)⟩) <;> conv => whnf
    rotate_left
    · (repeat' (first | (refine Sp.mk (fun hs => ?_) (fun hs => ?_) <;> first | (exfalso; omega) | (conv => whnf)) | (refine Ar.i (by omega) ?_; conv => whnf) | (refine NewS.mk (fun _ => ?_); conv => whnf) | (refine QuoS.nn (by omega) ?_; conv => whnf) | (refine RemS.nn (by omega) ?_; conv => whnf) | (refine QuietS.mk (by as_aux_lemma => kernel_rfl) ?_; conv => whnf) | refine RetS.mk (fun w' hS => ?_)))
      exact ⟨by rw [decide_eq_false]; exact fun h => h3 h.2.2.1, hS.below⟩
    (repeat' (first | (refine Sp.mk (fun hs => ?_) (fun hs => ?_) <;> first | (exfalso; omega) | (conv => whnf)) | (refine Ar.i (by omega) ?_; conv => whnf) | (refine NewS.mk (fun _ => ?_); conv => whnf) | (refine QuoS.nn (by omega) ?_; conv => whnf) | (refine RemS.nn (by omega) ?_; conv => whnf) | refine RetS.mk (fun w' hS => ?_)))
    (first | refine ⟨rfl, CallS.p (fun w' hS => iallIn_any _ _ w' (hL.below hS.below)) (fun h4 => ?_) (fun h4 => ?_)⟩ | refine ⟨rfl, CallQ.p (fun w' hS => iallIn_any _ _ w' (hL.below hS.below)) (fun h4 => ?_) (fun h4 => ?_)⟩) <;> conv => whnf
    · (repeat' (first | (refine Sp.mk (fun hs => ?_) (fun hs => ?_) <;> first | (exfalso; omega) | (conv => whnf)) | (refine Ar.i (by omega) ?_; conv => whnf) | (refine NewS.mk (fun _ => ?_); conv => whnf) | (refine QuoS.nn (by omega) ?_; conv => whnf) | (refine RemS.nn (by omega) ?_; conv => whnf) | (refine QuietS.mk (by as_aux_lemma => kernel_rfl) ?_; conv => whnf) | refine RetS.mk (fun w' hS => ?_)))
      exact ⟨by rw [decide_eq_true]; exact ⟨h1, by omega, h3, h4⟩, hS.below⟩
    · (repeat' (first | (refine Sp.mk (fun hs => ?_) (fun hs => ?_) <;> first | (exfalso; omega) | (conv => whnf)) | (refine Ar.i (by omega) ?_; conv => whnf) | (refine NewS.mk (fun _ => ?_); conv => whnf) | (refine QuoS.nn (by omega) ?_; conv => whnf) | (refine RemS.nn (by omega) ?_; conv => whnf) | (refine QuietS.mk (by as_aux_lemma => kernel_rfl) ?_; conv => whnf) | refine RetS.mk (fun w' hS => ?_)))
      exact ⟨by rw [decide_eq_false]; exact fun h => h4 h.2.2.2, hS.below⟩
theorem spec_validLine_any {A : Option Addr} {c : Nat} {l : LineD} (w : World) (hL : LineR w A l) :
    Calls Try.prog 56 #[.agg (lineV l A c).toArray] w fun e w' => e = .returned (.bool (decide (okLine l))) ∧ Below w.heap.size w w' := by
  refine enter (C := cxS w []) (okS w []) (St.start w) Try.func56 rfl rfl ?_; conv => whnf
  refine NewS.mk (fun g0 => ?_)
  conv => whnf
  (try (refine QuietS.mk (by as_aux_lemma => kernel_rfl) ?_; conv => whnf))
  (first | refine ⟨rfl, CallS.p (fun w' hS => inRange_any _ _ _ w') (fun h1 => ?_) (fun h1 => ?_)⟩ | refine ⟨rfl, CallQ.p (fun w' hS => inRange_any _ _ _ w') (fun h1 => ?_) (fun h1 => ?_)⟩) <;> conv => whnf
  rotate_left
  · (repeat' (first | (refine Sp.mk (fun hs => ?_) (fun hs => ?_) <;> first | (exfalso; omega) | (conv => whnf)) | (refine Ar.i (by omega) ?_; conv => whnf) | (refine NewS.mk (fun _ => ?_); conv => whnf) | (refine QuoS.nn (by omega) ?_; conv => whnf) | (refine RemS.nn (by omega) ?_; conv => whnf) | (refine QuietS.mk (by as_aux_lemma => kernel_rfl) ?_; conv => whnf) | refine RetS.mk (fun w' hS => ?_)))
    exact ⟨by rw [decide_eq_false]; exact fun h => h1 h.1, hS.below⟩
  (repeat' (first | (refine Sp.mk (fun hs => ?_) (fun hs => ?_) <;> first | (exfalso; omega) | (conv => whnf)) | (refine Ar.i (by omega) ?_; conv => whnf) | (refine NewS.mk (fun _ => ?_); conv => whnf) | (refine QuoS.nn (by omega) ?_; conv => whnf) | (refine RemS.nn (by omega) ?_; conv => whnf) | refine RetS.mk (fun w' hS => ?_)))
  all_goals
    (first | refine ⟨rfl, CallS.p (fun w' hS => inRange_any _ _ _ w') (fun h2 => ?_) (fun h2 => ?_)⟩ | refine ⟨rfl, CallQ.p (fun w' hS => inRange_any _ _ _ w') (fun h2 => ?_) (fun h2 => ?_)⟩) <;> simp only [cond_true, cond_false] at h2 <;> conv => whnf
    rotate_left
    · (repeat' (first | (refine Sp.mk (fun hs => ?_) (fun hs => ?_) <;> first | (exfalso; omega) | (conv => whnf)) | (refine Ar.i (by omega) ?_; conv => whnf) | (refine NewS.mk (fun _ => ?_); conv => whnf) | (refine QuoS.nn (by omega) ?_; conv => whnf) | (refine RemS.nn (by omega) ?_; conv => whnf) | (refine QuietS.mk (by as_aux_lemma => kernel_rfl) ?_; conv => whnf) | refine RetS.mk (fun w' hS => ?_)))
      exact ⟨by rw [decide_eq_false]; exact fun h => h2 (by have := h.2.1; omega), hS.below⟩
    (first | refine ⟨rfl, CallS.p (fun w' hS => spec_ascends_any w' (hL.below hS.below)) (fun h3 => ?_) (fun h3 => ?_)⟩ | refine ⟨rfl, CallQ.p (fun w' hS => spec_ascends_any w' (hL.below hS.below)) (fun h3 => ?_) (fun h3 => ?_)⟩) <;> conv => whnf
    rotate_left
    · (repeat' (first | (refine Sp.mk (fun hs => ?_) (fun hs => ?_) <;> first | (exfalso; omega) | (conv => whnf)) | (refine Ar.i (by omega) ?_; conv => whnf) | (refine NewS.mk (fun _ => ?_); conv => whnf) | (refine QuoS.nn (by omega) ?_; conv => whnf) | (refine RemS.nn (by omega) ?_; conv => whnf) | (refine QuietS.mk (by as_aux_lemma => kernel_rfl) ?_; conv => whnf) | refine RetS.mk (fun w' hS => ?_)))
      exact ⟨by rw [decide_eq_false]; exact fun h => h3 h.2.2.1, hS.below⟩
    (repeat' (first | (refine Sp.mk (fun hs => ?_) (fun hs => ?_) <;> first | (exfalso; omega) | (conv => whnf)) | (refine Ar.i (by omega) ?_; conv => whnf) | (refine NewS.mk (fun _ => ?_); conv => whnf) | (refine QuoS.nn (by omega) ?_; conv => whnf) | (refine RemS.nn (by omega) ?_; conv => whnf) | refine RetS.mk (fun w' hS => ?_)))
    (first | refine ⟨rfl, CallS.p (fun w' hS => sallIn_any _ _ w' (hL.below hS.below)) (fun h4 => ?_) (fun h4 => ?_)⟩ | refine ⟨rfl, CallQ.p (fun w' hS => sallIn_any _ _ w' (hL.below hS.below)) (fun h4 => ?_) (fun h4 => ?_)⟩) <;> conv => whnf
    · (repeat' (first | (refine Sp.mk (fun hs => ?_) (fun hs => ?_) <;> first | (exfalso; omega) | (conv => whnf)) | (refine Ar.i (by omega) ?_; conv => whnf) | (refine NewS.mk (fun _ => ?_); conv => whnf) | (refine QuoS.nn (by omega) ?_; conv => whnf) | (refine RemS.nn (by omega) ?_; conv => whnf) | (refine QuietS.mk (by as_aux_lemma => kernel_rfl) ?_; conv => whnf) | refine RetS.mk (fun w' hS => ?_)))
      exact ⟨by rw [decide_eq_true]; exact ⟨h1, by omega, h3, h4⟩, hS.below⟩
    · (repeat' (first | (refine Sp.mk (fun hs => ?_) (fun hs => ?_) <;> first | (exfalso; omega) | (conv => whnf)) | (refine Ar.i (by omega) ?_; conv => whnf) | (refine NewS.mk (fun _ => ?_); conv => whnf) | (refine QuoS.nn (by omega) ?_; conv => whnf) | (refine RemS.nn (by omega) ?_; conv => whnf) | (refine QuietS.mk (by as_aux_lemma => kernel_rfl) ?_; conv => whnf) | refine RetS.mk (fun w' hS => ?_)))
      exact ⟨by rw [decide_eq_false]; exact fun h => h4 h.2.2.2, hS.below⟩
theorem spec_ValidLine_any {A : Option Addr} {c : Nat} {l : LineD} (w : World) (hL : LineR w A l) :
    Calls Try.prog 31 #[.agg (lineV l A c).toArray] w fun e w' => e = .returned (.bool (decide (okLine l))) ∧ Below w.heap.size w w' := by
  refine enter (C := cxS w []) (okS w []) (St.start w) Try.func31 rfl rfl ?_; conv => whnf
  (repeat' (first | (refine Sp.mk (fun hs => ?_) (fun hs => ?_) <;> first | (exfalso; omega) | (conv => whnf)) | (refine Ar.i (by omega) ?_; conv => whnf) | (refine NewS.mk (fun _ => ?_); conv => whnf) | (refine QuoS.nn (by omega) ?_; conv => whnf) | (refine RemS.nn (by omega) ?_; conv => whnf) | (refine QuietS.mk (by as_aux_lemma => kernel_rfl) ?_; conv => whnf) | refine RetS.mk (fun w' hS => ?_)))
  (first | refine ⟨rfl, CallS.ro (fun w' hS => spec_validLine_any w' (hL.below hS.below)) ?_⟩ | refine ⟨rfl, CallQ.ro (fun w' hS => spec_validLine_any w' (hL.below hS.below)) ?_⟩)
  conv => whnf
  (repeat' (first | (refine Sp.mk (fun hs => ?_) (fun hs => ?_) <;> first | (exfalso; omega) | (conv => whnf)) | (refine Ar.i (by omega) ?_; conv => whnf) | (refine NewS.mk (fun _ => ?_); conv => whnf) | (refine QuoS.nn (by omega) ?_; conv => whnf) | (refine RemS.nn (by omega) ?_; conv => whnf) | (refine QuietS.mk (by as_aux_lemma => kernel_rfl) ?_; conv => whnf) | refine RetS.mk (fun w' hS => ?_)))
  exact ⟨rfl, hS.below⟩

def waitTo (l : LineD) (k : Nat) : List Int := (up l.s k).filter (fun t => decide (t ∉ l.g))
theorem waitTo_succ (l : LineD) (k : Nat) : waitTo l (k + 1) = waitTo l k ++ (if l.s + k ∉ l.g then [l.s + k] else []) := by
  unfold waitTo
  rw [up_snoc, List.filter_append]
  congr 1
  by_cases h : l.s + (k : Int) ∉ l.g <;> simp [h]
theorem waitTo_len (l : LineD) (k : Nat) : (waitTo l k).length ≤ k := by
  unfold waitTo
  have := List.length_filter_le (fun t => decide (t ∉ l.g)) (up l.s k)
  rw [up_length] at this
  exact this
theorem wait_is (l : LineD) : wait l = waitTo l (l.n - l.s).toNat := rfl
end Go.Proofs.Ytmojlnfadjnhgaa
