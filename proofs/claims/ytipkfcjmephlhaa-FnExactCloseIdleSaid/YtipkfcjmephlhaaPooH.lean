/- FnExactHeldBy; conditions: none. -/
import Derived.Test.YtipkfcjmephlhaaPooG
set_option maxRecDepth 100000
set_option linter.unusedVariables false
set_option linter.unusedSimpArgs false
namespace Go.Proofs.Ytipkfcjmephlhaa
open Eng Go Go.RowKit

theorem exactHeldBy_any (w : World) {p : PoolD} {a : PAd} {t : Int} (hr : Reads w 1 a.i p.i.length (i64s p.i) ∧ Reads w 2 a.h p.h.length (p.h.flatMap holdV) ∧ Reads w 1 a.w p.w.length (i64s p.w)) (hm : p.i.length ≤ maxLen ∧ p.h.length ≤ maxLen ∧ p.w.length ≤ maxLen) (_ : I64ok t) :
    Calls Try.prog 4 #[.agg (poolV p a).toArray, .int .i64 t] w fun e w' => e = .returned (.bool true) ∧ Below w.heap.size w w' := by
  refine enter (C := cxS w []) (okS w []) (St.start w) Try.func4 rfl rfl ?_; conv => whnf
  refine NewS.mk (fun g0 => ?_)
  conv => whnf
  refine ⟨rfl, CallS.ro (fun w hS => szPool_any hm.1 hm.2.1 hm.2.2 w) ?_⟩
  by_cases hb : (1048576 : Int) - p.i.length - p.h.length - p.w.length < 0
  · rw [if_pos hb]
    conv => whnf
    (repeat' (first | (refine Sp.mk (fun hs => ?_) (fun hs => ?_) <;> first | (exfalso; omega) | (conv => whnf)) | (refine Ar.i (by omega) ?_; conv => whnf) | (refine NewS.mk (fun _ => ?_); conv => whnf) | (refine QuoS.nn (by omega) ?_; conv => whnf) | (refine RemS.nn (by omega) ?_; conv => whnf) | refine RetS.mk (fun w' hS => ?_)))
    exact ⟨rfl, hS.below⟩
  rw [if_neg hb]
  have hle : PoolLe p := ⟨by omega, by omega, by omega⟩
  have hP : PoolR w p a := ⟨⟨hr.1, hle.i⟩, ⟨hr.2.1, hle.h⟩, ⟨hr.2.2, hle.w⟩⟩
  have hsm : (HeldBy p t).length ≤ 1048576 := by
    have := heldBy_len p.h t
    unfold HeldBy
    split
    · omega
    · simp
  conv => whnf
  (repeat' (first | (refine Sp.mk (fun hs => ?_) (fun hs => ?_) <;> first | (exfalso; omega) | (conv => whnf)) | (refine Ar.i (by omega) ?_; conv => whnf) | (refine NewS.mk (fun _ => ?_); conv => whnf) | (refine QuoS.nn (by omega) ?_; conv => whnf) | (refine RemS.nn (by omega) ?_; conv => whnf) | refine RetS.mk (fun w' hS => ?_)))
  refine call_toPool hP (fun y1 hy1 => ?_)
  conv => whnf
  refine ⟨rfl, CallS.own (fun w hS => sHeldBy_any t w (St.pool hS hle 0 1 2 rfl rfl rfl) (by omega)) (fun z1 hz1 => ?_)⟩
  conv => whnf
  refine call_toPool hP (fun y2 hy2 => ?_)
  conv => whnf
  refine NewS.mk (fun g1 => ?_)
  conv => whnf
  refine ⟨rfl, CallS.own (fun w hS => iHeldBy_any t w (St.pool hS hle 4 5 6 rfl rfl rfl) (by omega)) (fun z2 hz2 => ?_)⟩
  conv => whnf
  refine ⟨rfl, CallS.p (fun w hS => laws_eqIntS_any w (St.intsR hS 7 rfl (by omega)) (St.intsR hS 3 rfl (by omega))) (fun _ => ?_) (fun h => absurd rfl h)⟩
  conv => whnf
  refine DrawS.all (.first 0 (.first 1 (.one 2 (.one 3 (.first 4 (.done)))))) (by as_aux_lemma => kernel_rfl) (LbTo.self rfl) ?_
  conv => whnf
  refine call_toPool hP (fun y3 hy3 => ?_)
  conv => whnf
  refine StS.mk rfl (RsTo.sub (by simp)) ?_
  conv => whnf
  refine ⟨rfl, CallS.ro (fun w hS => eqPool_any w (St.pool hS hle 4 5 6 rfl rfl rfl) (St.pool hS hle 8 9 10 rfl rfl rfl)) ?_⟩
  conv => whnf
  refine StS.mk rfl (RsTo.sub (by simp)) ?_
  conv => whnf
  (repeat' (first | (refine Sp.mk (fun hs => ?_) (fun hs => ?_) <;> first | (exfalso; omega) | (conv => whnf)) | (refine Ar.i (by omega) ?_; conv => whnf) | (refine NewS.mk (fun _ => ?_); conv => whnf) | (refine QuoS.nn (by omega) ?_; conv => whnf) | (refine RemS.nn (by omega) ?_; conv => whnf) | refine RetS.mk (fun w' hS => ?_)))
  refine call_markPool (pre := pRows p y1 ++ [rowOf 3 1 z1.1 (HeldBy p t).length z1.2 (i64s (HeldBy p t))]) (post := [rowOf 3 1 z2.1 (HeldBy p t).length z2.2 (i64s (HeldBy p t))] ++ pRows p y3) (by simp [pRows]) (by omega) hle ?_
  conv => whnf
  (repeat' (first | (refine Sp.mk (fun hs => ?_) (fun hs => ?_) <;> first | (exfalso; omega) | (conv => whnf)) | (refine Ar.i (by omega) ?_; conv => whnf) | (refine NewS.mk (fun _ => ?_); conv => whnf) | (refine QuoS.nn (by omega) ?_; conv => whnf) | (refine RemS.nn (by omega) ?_; conv => whnf) | refine RetS.mk (fun w' hS => ?_)))
  refine ⟨rfl, CallS.p (fun w hS => laws_eqIntS_any w (St.intsR hS 7 rfl (by omega)) (St.intsR hS 3 rfl (by omega))) (fun _ => ?_) (fun h => absurd rfl h)⟩
  conv => whnf
  (repeat' (first | (refine Sp.mk (fun hs => ?_) (fun hs => ?_) <;> first | (exfalso; omega) | (conv => whnf)) | (refine Ar.i (by omega) ?_; conv => whnf) | (refine NewS.mk (fun _ => ?_); conv => whnf) | (refine QuoS.nn (by omega) ?_; conv => whnf) | (refine RemS.nn (by omega) ?_; conv => whnf) | refine RetS.mk (fun w' hS => ?_)))
  refine call_markI 7 rfl (by omega) (by omega) ?_
  conv => whnf
  refine ⟨rfl, CallS.ro (fun w hS => laws_heldIntS_any 1 (by omega) w (St.intsR hS 7 rfl (by omega))) ?_⟩
  conv => whnf
  (repeat' (first | (refine Sp.mk (fun hs => ?_) (fun hs => ?_) <;> first | (exfalso; omega) | (conv => whnf)) | (refine Ar.i (by omega) ?_; conv => whnf) | (refine NewS.mk (fun _ => ?_); conv => whnf) | (refine QuoS.nn (by omega) ?_; conv => whnf) | (refine RemS.nn (by omega) ?_; conv => whnf) | refine RetS.mk (fun w' hS => ?_)))
  refine call_toPool hP (fun y4 hy4 => ?_)
  conv => whnf
  refine ⟨rfl, CallS.own (fun w hS => iHeldBy_any t w (St.pool hS hle 11 12 13 rfl rfl rfl) (by omega)) (fun z3 hz3 => ?_)⟩
  conv => whnf
  refine ⟨rfl, CallS.p (fun w hS => laws_eqIntS_any w (St.intsR hS 14 rfl (by omega)) (St.intsR hS 3 rfl (by omega))) (fun _ => ?_) (fun h => absurd rfl h)⟩
  conv => whnf
  (repeat' (first | (refine Sp.mk (fun hs => ?_) (fun hs => ?_) <;> first | (exfalso; omega) | (conv => whnf)) | (refine Ar.i (by omega) ?_; conv => whnf) | (refine NewS.mk (fun _ => ?_); conv => whnf) | (refine QuoS.nn (by omega) ?_; conv => whnf) | (refine RemS.nn (by omega) ?_; conv => whnf) | refine RetS.mk (fun w' hS => ?_)))
  refine ⟨rfl, CallS.ro (fun w hS => laws_heldIntS_any 1 (by omega) w (St.intsR hS 7 rfl (by omega))) ?_⟩
  conv => whnf
  (repeat' (first | (refine Sp.mk (fun hs => ?_) (fun hs => ?_) <;> first | (exfalso; omega) | (conv => whnf)) | (refine Ar.i (by omega) ?_; conv => whnf) | (refine NewS.mk (fun _ => ?_); conv => whnf) | (refine QuoS.nn (by omega) ?_; conv => whnf) | (refine RemS.nn (by omega) ?_; conv => whnf) | refine RetS.mk (fun w' hS => ?_)))
  exact ⟨rfl, hS.below⟩
end Go.Proofs.Ytipkfcjmephlhaa
