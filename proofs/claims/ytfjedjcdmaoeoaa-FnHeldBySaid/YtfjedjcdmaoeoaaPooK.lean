/- FnExactCloseIdle; conditions: none. -/
import Derived.Test.YtfjedjcdmaoeoaaPooJ
set_option maxRecDepth 100000
set_option linter.unusedVariables false
set_option linter.unusedSimpArgs false
namespace Go.Proofs.Ytfjedjcdmaoeoaa
open Eng Go Go.RowKit

theorem heldPool_any {p : PoolD} {a : PAd} (k0 : Int) (h0 : 0 ≤ k0 ∧ k0 ≤ 1000) (hle : PoolLe p) (w : World) (r1 : IntsL w a.i p.i.length (up k0 p.i.length)) (r2 : Reads w 2 a.h p.h.length (i64s (up (k0 + p.i.length) (2 * p.h.length)))) (r3 : IntsL w a.w p.w.length (up (k0 + p.i.length + 2 * p.h.length) p.w.length)) :
    Calls Try.prog 42 #[.agg (poolV p a).toArray, .int .i64 k0] w fun e w' => e = .returned (.int .i64 (k0 + p.i.length + 2 * p.h.length + p.w.length)) ∧ Below w.heap.size w w' := by
  have l1 := hle.i
  have l2 := hle.h
  have l3 := hle.w
  refine enter (C := cxS w []) (okS w []) (St.start w) Try.func42 rfl rfl ?_; conv => whnf
  refine NewS.mk (fun g0 => ?_)
  conv => whnf
  (first | refine ⟨rfl, CallS.ro (fun w' hS => laws_heldIntS_any k0 (by omega) w' (r1.below hS.below)) ?_⟩ | refine ⟨rfl, CallQ.ro (fun w' hS => laws_heldIntS_any k0 (by omega) w' (r1.below hS.below)) ?_⟩)
  conv => whnf
  (repeat' (first | (refine Sp.mk (fun hs => ?_) (fun hs => ?_) <;> first | (exfalso; omega) | (conv => whnf)) | (refine Ar.i (by omega) ?_; conv => whnf) | (refine NewS.mk (fun _ => ?_); conv => whnf) | (refine QuoS.nn (by omega) ?_; conv => whnf) | (refine RemS.nn (by omega) ?_; conv => whnf) | (refine QuietS.mk (by as_aux_lemma => kernel_rfl) ?_; conv => whnf) | refine RetS.mk (fun w' hS => ?_)))
  (first | refine ⟨rfl, CallS.ro (fun w' hS => heldHold_any (k0 + p.i.length) (by omega) w' l2 (r2.below hS.below)) ?_⟩ | refine ⟨rfl, CallQ.ro (fun w' hS => heldHold_any (k0 + p.i.length) (by omega) w' l2 (r2.below hS.below)) ?_⟩)
  conv => whnf
  (repeat' (first | (refine Sp.mk (fun hs => ?_) (fun hs => ?_) <;> first | (exfalso; omega) | (conv => whnf)) | (refine Ar.i (by omega) ?_; conv => whnf) | (refine NewS.mk (fun _ => ?_); conv => whnf) | (refine QuoS.nn (by omega) ?_; conv => whnf) | (refine RemS.nn (by omega) ?_; conv => whnf) | (refine QuietS.mk (by as_aux_lemma => kernel_rfl) ?_; conv => whnf) | refine RetS.mk (fun w' hS => ?_)))
  (first | refine ⟨rfl, CallS.ro (fun w' hS => laws_heldIntS_any (k0 + p.i.length + 2 * p.h.length) (by omega) w' (r3.below hS.below)) ?_⟩ | refine ⟨rfl, CallQ.ro (fun w' hS => laws_heldIntS_any (k0 + p.i.length + 2 * p.h.length) (by omega) w' (r3.below hS.below)) ?_⟩)
  conv => whnf
  (repeat' (first | (refine Sp.mk (fun hs => ?_) (fun hs => ?_) <;> first | (exfalso; omega) | (conv => whnf)) | (refine Ar.i (by omega) ?_; conv => whnf) | (refine NewS.mk (fun _ => ?_); conv => whnf) | (refine QuoS.nn (by omega) ?_; conv => whnf) | (refine RemS.nn (by omega) ?_; conv => whnf) | (refine QuietS.mk (by as_aux_lemma => kernel_rfl) ?_; conv => whnf) | refine RetS.mk (fun w' hS => ?_)))
  exact ⟨rfl, hS.below⟩
theorem closeD_le {p : PoolD} {t : Int} (h : p.i.length + p.h.length + p.w.length ≤ 1048576) : (closeD p t).i.length ≤ 1048576 ∧ (closeD p t).h.length ≤ 1048576 ∧ (closeD p t).w.length ≤ 1048576 := by
  unfold closeD
  split
  · simp only [closeL, List.length_drop]; omega
  · simp [zeroP]

end Go.Proofs.Ytfjedjcdmaoeoaa
