/- The exact laws on pools, reading; conditions: none. -/
import Derived.Test.YtipkfcjmephlhaaPooD
set_option maxRecDepth 100000
set_option linter.unusedVariables false
set_option linter.unusedSimpArgs false
namespace Go.Proofs.Ytipkfcjmephlhaa
open Eng Go Go.RowKit

theorem exactValidPool_any (w : World) {p : PoolD} {a : PAd} (hr : Reads w 1 a.i p.i.length (i64s p.i) ∧ Reads w 2 a.h p.h.length (p.h.flatMap holdV) ∧ Reads w 1 a.w p.w.length (i64s p.w)) (hm : p.i.length ≤ maxLen ∧ p.h.length ≤ maxLen ∧ p.w.length ≤ maxLen) :
    Calls Try.prog 3 #[.agg (poolV p a).toArray] w fun e w' => e = .returned (.bool true) ∧ Below w.heap.size w w' := by
  refine enter (C := cxS w []) (okS w []) (St.start w) Try.func3 rfl rfl ?_; conv => whnf
  refine NewS.mk (fun g0 => ?_)
  conv => whnf
  refine ⟨rfl, CallS.ro (fun w hS => szPool_any hm.1 hm.2.1 hm.2.2 w) ?_⟩
  by_cases hb : (1048576 : Int) - p.i.length - p.h.length - p.w.length < 0
  · rw [if_pos hb]
    conv => whnf
    (repeat' (first | (refine Sp.mk (fun hs => ?_) (fun hs => ?_) <;> first | (exfalso; omega) | (conv => whnf)) | (refine Ar.i (by omega) ?_; conv => whnf) | (refine NewS.mk (fun _ => ?_); conv => whnf) | (refine QuoS.nn (by omega) ?_; conv => whnf) | (refine RemS.nn (by omega) ?_; conv => whnf) | refine RetS.mk (fun w' hS => ?_)))
    exact ⟨rfl, hS.below⟩
  rw [if_neg hb]
  have hle : PoolLe p := ⟨by omega, by omega, by omega⟩
  have hP : PoolR w p a := ⟨⟨hr.1, hle.i⟩, ⟨hr.2.1, hle.h⟩, ⟨hr.2.2, hle.w⟩⟩
  conv => whnf
  (repeat' (first | (refine Sp.mk (fun hs => ?_) (fun hs => ?_) <;> first | (exfalso; omega) | (conv => whnf)) | (refine Ar.i (by omega) ?_; conv => whnf) | (refine NewS.mk (fun _ => ?_); conv => whnf) | (refine QuoS.nn (by omega) ?_; conv => whnf) | (refine RemS.nn (by omega) ?_; conv => whnf) | refine RetS.mk (fun w' hS => ?_)))
  refine call_toPool hP (fun y1 hy1 => ?_)
  conv => whnf
  refine ⟨rfl, CallS.ro (fun w hS => spec_ValidPool_any w (St.pool hS hle 0 1 2 rfl rfl rfl) (by omega)) ?_⟩
  conv => whnf
  refine call_toPool hP (fun y2 hy2 => ?_)
  conv => whnf
  refine NewS.mk (fun g1 => ?_)
  conv => whnf
  refine ⟨rfl, CallS.ro (fun w hS => impl_ValidPool_any w (St.pool hS hle 3 4 5 rfl rfl rfl) (by omega)) ?_⟩
  conv => whnf
  generalize decide (okPool p) = b
  cases b
  all_goals
    conv => whnf
    (repeat' (first | (refine Sp.mk (fun hs => ?_) (fun hs => ?_) <;> first | (exfalso; omega) | (conv => whnf)) | (refine Ar.i (by omega) ?_; conv => whnf) | (refine NewS.mk (fun _ => ?_); conv => whnf) | (refine QuoS.nn (by omega) ?_; conv => whnf) | (refine RemS.nn (by omega) ?_; conv => whnf) | refine RetS.mk (fun w' hS => ?_)))
    refine DrawS.all (.first 0 (.first 1 (.one 2 (.one 3 (.first 4 (.done)))))) (by as_aux_lemma => kernel_rfl) (LbTo.self rfl) ?_
    conv => whnf
    refine call_toPool hP (fun y3 hy3 => ?_)
    conv => whnf
    refine StS.mk rfl (RsTo.sub (by simp)) ?_
    conv => whnf
    refine ⟨rfl, CallS.ro (fun w hS => eqPool_any w (St.pool hS hle 3 4 5 rfl rfl rfl) (St.pool hS hle 6 7 8 rfl rfl rfl)) ?_⟩
    conv => whnf
    refine StS.mk rfl (RsTo.sub (by simp)) ?_
    conv => whnf
    (repeat' (first | (refine Sp.mk (fun hs => ?_) (fun hs => ?_) <;> first | (exfalso; omega) | (conv => whnf)) | (refine Ar.i (by omega) ?_; conv => whnf) | (refine NewS.mk (fun _ => ?_); conv => whnf) | (refine QuoS.nn (by omega) ?_; conv => whnf) | (refine RemS.nn (by omega) ?_; conv => whnf) | refine RetS.mk (fun w' hS => ?_)))
    exact ⟨rfl, hS.below⟩
end Go.Proofs.Ytipkfcjmephlhaa
