/- FnExactCloseIdle; conditions: none. -/
import Derived.Test.YtipkfcjmephlhaaPooJ
set_option maxRecDepth 100000
set_option linter.unusedVariables false
set_option linter.unusedSimpArgs false
namespace Go.Proofs.Ytipkfcjmephlhaa
open Eng Go Go.RowKit

theorem heldPool_any {p : PoolD} {a : PAd} (k0 : Int) (h0 : 0 ≤ k0 ∧ k0 ≤ 1000) (hle : PoolLe p) (w : World) (r1 : IntsL w a.i p.i.length (up k0 p.i.length)) (r2 : Reads w 2 a.h p.h.length (i64s (up (k0 + p.i.length) (2 * p.h.length)))) (r3 : IntsL w a.w p.w.length (up (k0 + p.i.length + 2 * p.h.length) p.w.length)) :
    Calls Try.prog 19 #[.agg (poolV p a).toArray, .int .i64 k0] w fun e w' => e = .returned (.int .i64 (k0 + p.i.length + 2 * p.h.length + p.w.length)) ∧ Below w.heap.size w w' := by
  have l1 := hle.i
  have l2 := hle.h
  have l3 := hle.w
  refine enter (C := cxS w []) (okS w []) (St.start w) Try.func19 rfl rfl ?_; conv => whnf
  refine NewS.mk (fun g0 => ?_)
  conv => whnf
  (first | refine ⟨rfl, CallS.ro (fun w' hS => laws_heldIntS_any k0 (by omega) w' (r1.below hS.below)) ?_⟩ | refine ⟨rfl, CallQ.ro (fun w' hS => laws_heldIntS_any k0 (by omega) w' (r1.below hS.below)) ?_⟩)
  conv => whnf
  (repeat' (first | (refine Sp.mk (fun hs => ?_) (fun hs => ?_) <;> first | (exfalso; omega) | (conv => whnf)) | (refine Ar.i (by omega) ?_; conv => whnf) | (refine NewS.mk (fun _ => ?_); conv => whnf) | (refine QuoS.nn (by omega) ?_; conv => whnf) | (refine RemS.nn (by omega) ?_; conv => whnf) | (refine QuietS.mk (by as_aux_lemma => kernel_rfl) ?_; conv => whnf) | refine RetS.mk (fun w' hS => ?_)))
  (first | refine ⟨rfl, CallS.ro (fun w' hS => heldHold_any (k0 + p.i.length) (by omega) w' l2 (r2.below hS.below)) ?_⟩ | refine ⟨rfl, CallQ.ro (fun w' hS => heldHold_any (k0 + p.i.length) (by omega) w' l2 (r2.below hS.below)) ?_⟩)
  conv => whnf
  (repeat' (first | (refine Sp.mk (fun hs => ?_) (fun hs => ?_) <;> first | (exfalso; omega) | (conv => whnf)) | (refine Ar.i (by omega) ?_; conv => whnf) | (refine NewS.mk (fun _ => ?_); conv => whnf) | (refine QuoS.nn (by omega) ?_; conv => whnf) | (refine RemS.nn (by omega) ?_; conv => whnf) | (refine QuietS.mk (by as_aux_lemma => kernel_rfl) ?_; conv => whnf) | refine RetS.mk (fun w' hS => ?_)))
  (first | refine ⟨rfl, CallS.ro (fun w' hS => laws_heldIntS_any (k0 + p.i.length + 2 * p.h.length) (by omega) w' (r3.below hS.below)) ?_⟩ | refine ⟨rfl, CallQ.ro (fun w' hS => laws_heldIntS_any (k0 + p.i.length + 2 * p.h.length) (by omega) w' (r3.below hS.below)) ?_⟩)
  conv => whnf
  (repeat' (first | (refine Sp.mk (fun hs => ?_) (fun hs => ?_) <;> first | (exfalso; omega) | (conv => whnf)) | (refine Ar.i (by omega) ?_; conv => whnf) | (refine NewS.mk (fun _ => ?_); conv => whnf) | (refine QuoS.nn (by omega) ?_; conv => whnf) | (refine RemS.nn (by omega) ?_; conv => whnf) | (refine QuietS.mk (by as_aux_lemma => kernel_rfl) ?_; conv => whnf) | refine RetS.mk (fun w' hS => ?_)))
  exact ⟨rfl, hS.below⟩
theorem closeD_le {p : PoolD} {t : Int} (h : p.i.length + p.h.length + p.w.length ≤ 1048576) : (closeD p t).i.length ≤ 1048576 ∧ (closeD p t).h.length ≤ 1048576 ∧ (closeD p t).w.length ≤ 1048576 := by
  unfold closeD
  split
  · simp only [closeL, List.length_drop]; omega
  · simp [zeroP]

theorem exactClose_any (w : World) {p : PoolD} {a : PAd} {t : Int} (hr : Reads w 1 a.i p.i.length (i64s p.i) ∧ Reads w 2 a.h p.h.length (p.h.flatMap holdV) ∧ Reads w 1 a.w p.w.length (i64s p.w)) (hm : p.i.length ≤ maxLen ∧ p.h.length ≤ maxLen ∧ p.w.length ≤ maxLen) (_ : I64ok t) :
    Calls Try.prog 5 #[.agg (poolV p a).toArray, .int .i64 t] w fun e w' => e = .returned (.bool true) ∧ Below w.heap.size w w' := by
  refine enter (C := cxS w []) (okS w []) (St.start w) Try.func5 rfl rfl ?_; conv => whnf
  refine NewS.mk (fun g0 => ?_)
  conv => whnf
  refine ⟨rfl, CallS.ro (fun w hS => szPool_any hm.1 hm.2.1 hm.2.2 w) ?_⟩
  by_cases hb : (1048576 : Int) - p.i.length - p.h.length - p.w.length < 0
  · rw [if_pos hb]
    conv => whnf
    (repeat' (first | (refine Sp.mk (fun hs => ?_) (fun hs => ?_) <;> first | (exfalso; omega) | (conv => whnf)) | (refine Ar.i (by omega) ?_; conv => whnf) | (refine NewS.mk (fun _ => ?_); conv => whnf) | (refine QuoS.nn (by omega) ?_; conv => whnf) | (refine RemS.nn (by omega) ?_; conv => whnf) | refine RetS.mk (fun w' hS => ?_)))
    exact ⟨rfl, hS.below⟩
  rw [if_neg hb]
  have hle : PoolLe p := ⟨by omega, by omega, by omega⟩
  have hP : PoolR w p a := ⟨⟨hr.1, hle.i⟩, ⟨hr.2.1, hle.h⟩, ⟨hr.2.2, hle.w⟩⟩
  have hcl := closeD_le (p := p) (t := t) (by omega)
  have hle2 : PoolLe (closeD p t) := ⟨by omega, by omega, by omega⟩
  conv => whnf
  (repeat' (first | (refine Sp.mk (fun hs => ?_) (fun hs => ?_) <;> first | (exfalso; omega) | (conv => whnf)) | (refine Ar.i (by omega) ?_; conv => whnf) | (refine NewS.mk (fun _ => ?_); conv => whnf) | (refine QuoS.nn (by omega) ?_; conv => whnf) | (refine RemS.nn (by omega) ?_; conv => whnf) | refine RetS.mk (fun w' hS => ?_)))
  refine call_toPool hP (fun y1 hy1 => ?_)
  conv => whnf
  refine ⟨rfl, CallS.own (fun w hS => sClose_any t w (St.pool hS hle 0 1 2 rfl rfl rfl) (by omega) (by omega)) (fun z1 hz1 => ?_)⟩
  conv => whnf
  refine NewS.mk (fun g1 => ?_)
  conv => whnf
  refine call_toPool hP (fun y2 hy2 => ?_)
  conv => whnf
  refine NewS.mk (fun g2 => ?_)
  conv => whnf
  refine ⟨rfl, CallS.own (fun w hS => iClose_any t w (St.pool hS hle 6 7 8 rfl rfl rfl) (by omega)) (fun z2 hz2 => ?_)⟩
  conv => whnf
  refine NewS.mk (fun g3 => ?_)
  conv => whnf
  refine ⟨rfl, CallS.ro (fun w hS => eqPool_any w (St.pool hS hle2 9 10 11 rfl rfl rfl) (St.pool hS hle2 3 4 5 rfl rfl rfl)) ?_⟩
  conv => whnf
  (repeat' (first | (refine Sp.mk (fun hs => ?_) (fun hs => ?_) <;> first | (exfalso; omega) | (conv => whnf)) | (refine Ar.i (by omega) ?_; conv => whnf) | (refine NewS.mk (fun _ => ?_); conv => whnf) | (refine QuoS.nn (by omega) ?_; conv => whnf) | (refine RemS.nn (by omega) ?_; conv => whnf) | refine RetS.mk (fun w' hS => ?_)))
  refine DrawS.all (.first 0 (.first 1 (.one 2 (.one 3 (.first 4 (.done)))))) (by as_aux_lemma => kernel_rfl) (LbTo.self rfl) ?_
  conv => whnf
  refine call_toPool hP (fun y3 hy3 => ?_)
  conv => whnf
  refine StS.mk rfl (RsTo.sub (by simp)) ?_
  conv => whnf
  refine ⟨rfl, CallS.ro (fun w hS => eqPool_any w (St.pool hS hle 6 7 8 rfl rfl rfl) (St.pool hS hle 12 13 14 rfl rfl rfl)) ?_⟩
  conv => whnf
  refine StS.mk rfl (RsTo.sub (by simp)) ?_
  conv => whnf
  (repeat' (first | (refine Sp.mk (fun hs => ?_) (fun hs => ?_) <;> first | (exfalso; omega) | (conv => whnf)) | (refine Ar.i (by omega) ?_; conv => whnf) | (refine NewS.mk (fun _ => ?_); conv => whnf) | (refine QuoS.nn (by omega) ?_; conv => whnf) | (refine RemS.nn (by omega) ?_; conv => whnf) | refine RetS.mk (fun w' hS => ?_)))
  refine call_markPool (pre := pRows p y1 ++ pRows (closeD p t) z1) (post := pRows (closeD p t) z2 ++ pRows p y3) (by simp [pRows]) (by omega) hle ?_
  conv => whnf
  (repeat' (first | (refine Sp.mk (fun hs => ?_) (fun hs => ?_) <;> first | (exfalso; omega) | (conv => whnf)) | (refine Ar.i (by omega) ?_; conv => whnf) | (refine NewS.mk (fun _ => ?_); conv => whnf) | (refine QuoS.nn (by omega) ?_; conv => whnf) | (refine RemS.nn (by omega) ?_; conv => whnf) | refine RetS.mk (fun w' hS => ?_)))
  refine ⟨rfl, CallS.ro (fun w hS => eqPool_any w (St.pool hS hle2 9 10 11 rfl rfl rfl) (St.pool hS hle2 3 4 5 rfl rfl rfl)) ?_⟩
  conv => whnf
  (repeat' (first | (refine Sp.mk (fun hs => ?_) (fun hs => ?_) <;> first | (exfalso; omega) | (conv => whnf)) | (refine Ar.i (by omega) ?_; conv => whnf) | (refine NewS.mk (fun _ => ?_); conv => whnf) | (refine QuoS.nn (by omega) ?_; conv => whnf) | (refine RemS.nn (by omega) ?_; conv => whnf) | refine RetS.mk (fun w' hS => ?_)))
  refine call_markPool (pre := pRows p y1 ++ pRows (closeD p t) z1 ++ mRows p y2 1) (post := pRows p y3) (by simp [pRows, mRows]) (by omega) hle2 ?_
  conv => whnf
  (repeat' (first | (refine Sp.mk (fun hs => ?_) (fun hs => ?_) <;> first | (exfalso; omega) | (conv => whnf)) | (refine Ar.i (by omega) ?_; conv => whnf) | (refine NewS.mk (fun _ => ?_); conv => whnf) | (refine QuoS.nn (by omega) ?_; conv => whnf) | (refine RemS.nn (by omega) ?_; conv => whnf) | refine RetS.mk (fun w' hS => ?_)))
  refine ⟨rfl, CallS.ro (fun w hS => heldPool_any 1 (by omega) hle2 w (St.intsR hS 9 rfl (by omega)) (hS.rowR (List.mem_of_getElem? (i := 10) rfl)) (St.intsR hS 11 rfl (by omega))) ?_⟩
  conv => whnf
  (repeat' (first | (refine Sp.mk (fun hs => ?_) (fun hs => ?_) <;> first | (exfalso; omega) | (conv => whnf)) | (refine Ar.i (by omega) ?_; conv => whnf) | (refine NewS.mk (fun _ => ?_); conv => whnf) | (refine QuoS.nn (by omega) ?_; conv => whnf) | (refine RemS.nn (by omega) ?_; conv => whnf) | refine RetS.mk (fun w' hS => ?_)))
  refine call_toPool hP (fun y4 hy4 => ?_)
  conv => whnf
  refine ⟨rfl, CallS.own (fun w hS => iClose_any t w (St.pool hS hle 15 16 17 rfl rfl rfl) (by omega)) (fun z3 hz3 => ?_)⟩
  conv => whnf
  refine NewS.mk (fun g4 => ?_)
  conv => whnf
  refine ⟨rfl, CallS.ro (fun w hS => eqPool_any w (St.pool hS hle2 18 19 20 rfl rfl rfl) (St.pool hS hle2 3 4 5 rfl rfl rfl)) ?_⟩
  conv => whnf
  (repeat' (first | (refine Sp.mk (fun hs => ?_) (fun hs => ?_) <;> first | (exfalso; omega) | (conv => whnf)) | (refine Ar.i (by omega) ?_; conv => whnf) | (refine NewS.mk (fun _ => ?_); conv => whnf) | (refine QuoS.nn (by omega) ?_; conv => whnf) | (refine RemS.nn (by omega) ?_; conv => whnf) | refine RetS.mk (fun w' hS => ?_)))
  refine ⟨rfl, CallS.ro (fun w hS => heldPool_any 1 (by omega) hle2 w (St.intsR hS 9 rfl (by omega)) (hS.rowR (List.mem_of_getElem? (i := 10) rfl)) (St.intsR hS 11 rfl (by omega))) ?_⟩
  conv => whnf
  (repeat' (first | (refine Sp.mk (fun hs => ?_) (fun hs => ?_) <;> first | (exfalso; omega) | (conv => whnf)) | (refine Ar.i (by omega) ?_; conv => whnf) | (refine NewS.mk (fun _ => ?_); conv => whnf) | (refine QuoS.nn (by omega) ?_; conv => whnf) | (refine RemS.nn (by omega) ?_; conv => whnf) | refine RetS.mk (fun w' hS => ?_)))
  exact ⟨rfl, hS.below⟩
end Go.Proofs.Ytipkfcjmephlhaa
