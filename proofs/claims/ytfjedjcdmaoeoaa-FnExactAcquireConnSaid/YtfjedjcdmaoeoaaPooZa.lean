/- FnExactAcquireConn; conditions: none. -/
import Derived.Test.YtfjedjcdmaoeoaaPooK
import Derived.Test.YtfjedjcdmaoeoaaPooO
import Derived.Test.YtfjedjcdmaoeoaaPooV
set_option maxRecDepth 100000
set_option linter.unusedVariables false
set_option linter.unusedSimpArgs false
namespace Go.Proofs.Ytfjedjcdmaoeoaa
open Eng Go Go.RowKit

theorem exactAcq_any (w : World) {p : PoolD} {a : PAd} {t : Int} (hr : Reads w 1 a.i p.i.length (i64s p.i) ∧ Reads w 2 a.h p.h.length (p.h.flatMap holdV) ∧ Reads w 1 a.w p.w.length (i64s p.w)) (hm : p.i.length ≤ maxLen ∧ p.h.length ≤ maxLen ∧ p.w.length ≤ maxLen) (_ : I64ok t) :
    Calls Try.prog 18 #[.agg (poolV p a).toArray, .int .i64 t] w fun e w' => e = .returned (.bool true) ∧ Below w.heap.size w w' := by
  refine enter (C := cxS w []) (okS w []) (St.start w) Try.func18 rfl rfl ?_; conv => whnf
  refine NewS.mk (fun g0 => ?_)
  conv => whnf
  refine ⟨rfl, CallS.ro (fun w hS => szPool_any hm.1 hm.2.1 hm.2.2 w) ?_⟩
  by_cases hb : (1048576 : Int) - p.i.length - p.h.length - p.w.length < 0
  · rw [if_pos hb]
    conv => whnf
    (repeat' (first | (refine Sp.mk (fun hs => ?_) (fun hs => ?_) <;> first | (exfalso; omega) | (conv => whnf)) | (refine Ar.i (by omega) ?_; conv => whnf) | (refine NewS.mk (fun _ => ?_); conv => whnf) | (refine QuoS.nn (by omega) ?_; conv => whnf) | (refine RemS.nn (by omega) ?_; conv => whnf) | refine RetS.mk (fun w' hS => ?_)))
    exact ⟨rfl, hS.below⟩
  rw [if_neg hb]
  have hle : PoolLe p := ⟨by omega, by omega, by omega⟩
  have hP : PoolR w p a := ⟨⟨hr.1, hle.i⟩, ⟨hr.2.1, hle.h⟩, ⟨hr.2.2, hle.w⟩⟩
  have hs : p.i.length + p.h.length ≤ 2000000 := by omega
  obtain ⟨D, M, b, hD, hsp, him⟩ : ∃ (D : PoolD) (M : Int) (b : Bool), (D.i.length ≤ p.i.length + 1 ∧ D.h.length ≤ p.h.length + 1 ∧ D.w.length ≤ p.w.length + 1) ∧
      (∀ (w : World) (a : PAd), PoolR w p a → capOk p a → Calls Try.prog 34 #[.agg (poolV p a).toArray, .int .i64 t] w fun e w' => ∃ y : PAd, capOk D y ∧ e = .returned (.tuple #[.agg (poolV D y).toArray, .int .i64 M, .bool b]) ∧ Below w.heap.size w w' ∧ Fresh w.heap.size (pRows D y) w') ∧
      (∀ (w : World) (a : PAd), PoolR w p a → capOk p a → Calls Try.prog 33 #[.agg (poolV p a).toArray, .int .i64 t] w fun e w' => ∃ y : PAd, capOk D y ∧ e = .returned (.tuple #[.agg (poolV D y).toArray, .int .i64 M, .bool b]) ∧ Below w.heap.size w w' ∧ Fresh w.heap.size (pRows D y) w') :=
    ⟨acqD p t, acqN p t, acqB p t, ⟨Nat.le_trans acqD_len.1 (Nat.le_succ _), acqD_len.2.1, acqD_len.2.2⟩, fun w a h hc => sAcq_any t w h hc hs, fun w a h hc => iAcq_any t w h hc.1⟩
  have hle2 : PoolLe D := ⟨by omega, by omega, by omega⟩
  have cap : ∀ {y : PAd}, (y.ci = p.i.length ∧ y.ch = p.h.length ∧ y.cw = p.w.length) → capOk p y := fun h => ⟨by omega, by omega, by omega⟩
  cases b
  all_goals
    conv => whnf
    (repeat' (first | (refine Sp.mk (fun hs => ?_) (fun hs => ?_) <;> first | (exfalso; omega) | (conv => whnf)) | (refine Ar.i (by omega) ?_; conv => whnf) | (refine NewS.mk (fun _ => ?_); conv => whnf) | (refine QuoS.nn (by omega) ?_; conv => whnf) | (refine RemS.nn (by omega) ?_; conv => whnf) | refine RetS.mk (fun w' hS => ?_)))
    refine call_toPool hP (fun y1 hy1 => ?_)
    conv => whnf
    refine ⟨rfl, CallS.own (fun w hS => hsp w _ (St.pool hS hle 0 1 2 rfl rfl rfl) (cap hy1)) (fun z1 hz1 => ?_)⟩
    conv => whnf
    refine NewS.mk (fun g1 => ?_)
    conv => whnf
    refine call_toPool hP (fun y2 hy2 => ?_)
    conv => whnf
    refine NewS.mk (fun g2 => ?_)
    conv => whnf
    refine ⟨rfl, CallS.own (fun w hS => him w _ (St.pool hS hle 6 7 8 rfl rfl rfl) (cap hy2)) (fun z2 hz2 => ?_)⟩
    conv => whnf
    refine NewS.mk (fun g3 => ?_)
    conv => whnf
    refine ⟨rfl, CallS.ro (fun w hS => eqPool_any w (St.pool hS hle2 9 10 11 rfl rfl rfl) (St.pool hS hle2 3 4 5 rfl rfl rfl)) ?_⟩
    conv => whnf
    (repeat' (first | (refine Sp.mk (fun hs => ?_) (fun hs => ?_) <;> first | (exfalso; omega) | (conv => whnf)) | (refine Ar.i (by omega) ?_; conv => whnf) | (refine NewS.mk (fun _ => ?_); conv => whnf) | (refine QuoS.nn (by omega) ?_; conv => whnf) | (refine RemS.nn (by omega) ?_; conv => whnf) | refine RetS.mk (fun w' hS => ?_)))
    refine DrawS.all (.first 0 (.first 1 (.one 2 (.one 3 (.first 4 (.done)))))) (by as_aux_lemma => kernel_rfl) (LbTo.self rfl) ?_
    conv => whnf
    refine call_toPool hP (fun y3 hy3 => ?_)
    conv => whnf
    refine StS.mk rfl (RsTo.sub (by simp)) ?_
    conv => whnf
    refine ⟨rfl, CallS.ro (fun w hS => eqPool_any w (St.pool hS hle 6 7 8 rfl rfl rfl) (St.pool hS hle 12 13 14 rfl rfl rfl)) ?_⟩
    conv => whnf
    refine StS.mk rfl (RsTo.sub (by simp)) ?_
    conv => whnf
    (repeat' (first | (refine Sp.mk (fun hs => ?_) (fun hs => ?_) <;> first | (exfalso; omega) | (conv => whnf)) | (refine Ar.i (by omega) ?_; conv => whnf) | (refine NewS.mk (fun _ => ?_); conv => whnf) | (refine QuoS.nn (by omega) ?_; conv => whnf) | (refine RemS.nn (by omega) ?_; conv => whnf) | refine RetS.mk (fun w' hS => ?_)))
    refine call_markPool (pre := pRows p y1 ++ pRows D z1) (post := pRows D z2 ++ pRows p y3) (by simp [pRows]) (by omega) hle ?_
    conv => whnf
    (repeat' (first | (refine Sp.mk (fun hs => ?_) (fun hs => ?_) <;> first | (exfalso; omega) | (conv => whnf)) | (refine Ar.i (by omega) ?_; conv => whnf) | (refine NewS.mk (fun _ => ?_); conv => whnf) | (refine QuoS.nn (by omega) ?_; conv => whnf) | (refine RemS.nn (by omega) ?_; conv => whnf) | refine RetS.mk (fun w' hS => ?_)))
    refine ⟨rfl, CallS.ro (fun w hS => eqPool_any w (St.pool hS hle2 9 10 11 rfl rfl rfl) (St.pool hS hle2 3 4 5 rfl rfl rfl)) ?_⟩
    conv => whnf
    (repeat' (first | (refine Sp.mk (fun hs => ?_) (fun hs => ?_) <;> first | (exfalso; omega) | (conv => whnf)) | (refine Ar.i (by omega) ?_; conv => whnf) | (refine NewS.mk (fun _ => ?_); conv => whnf) | (refine QuoS.nn (by omega) ?_; conv => whnf) | (refine RemS.nn (by omega) ?_; conv => whnf) | refine RetS.mk (fun w' hS => ?_)))
    refine call_markPool (pre := pRows p y1 ++ pRows D z1 ++ mRows p y2 1) (post := pRows p y3) (by simp [pRows, mRows]) (by omega) hle2 ?_
    conv => whnf
    (repeat' (first | (refine Sp.mk (fun hs => ?_) (fun hs => ?_) <;> first | (exfalso; omega) | (conv => whnf)) | (refine Ar.i (by omega) ?_; conv => whnf) | (refine NewS.mk (fun _ => ?_); conv => whnf) | (refine QuoS.nn (by omega) ?_; conv => whnf) | (refine RemS.nn (by omega) ?_; conv => whnf) | refine RetS.mk (fun w' hS => ?_)))
    refine ⟨rfl, CallS.ro (fun w hS => heldPool_any 1 (by omega) hle2 w (St.intsR hS 9 rfl (by omega)) (hS.rowR (List.mem_of_getElem? (i := 10) rfl)) (St.intsR hS 11 rfl (by omega))) ?_⟩
    conv => whnf
    (repeat' (first | (refine Sp.mk (fun hs => ?_) (fun hs => ?_) <;> first | (exfalso; omega) | (conv => whnf)) | (refine Ar.i (by omega) ?_; conv => whnf) | (refine NewS.mk (fun _ => ?_); conv => whnf) | (refine QuoS.nn (by omega) ?_; conv => whnf) | (refine RemS.nn (by omega) ?_; conv => whnf) | refine RetS.mk (fun w' hS => ?_)))
    refine call_toPool hP (fun y4 hy4 => ?_)
    conv => whnf
    refine ⟨rfl, CallS.own (fun w hS => him w _ (St.pool hS hle 15 16 17 rfl rfl rfl) (cap hy4)) (fun z3 hz3 => ?_)⟩
    conv => whnf
    refine NewS.mk (fun g4 => ?_)
    conv => whnf
    refine ⟨rfl, CallS.ro (fun w hS => eqPool_any w (St.pool hS hle2 18 19 20 rfl rfl rfl) (St.pool hS hle2 3 4 5 rfl rfl rfl)) ?_⟩
    conv => whnf
    (repeat' (first | (refine Sp.mk (fun hs => ?_) (fun hs => ?_) <;> first | (exfalso; omega) | (conv => whnf)) | (refine Ar.i (by omega) ?_; conv => whnf) | (refine NewS.mk (fun _ => ?_); conv => whnf) | (refine QuoS.nn (by omega) ?_; conv => whnf) | (refine RemS.nn (by omega) ?_; conv => whnf) | refine RetS.mk (fun w' hS => ?_)))
    refine ⟨rfl, CallS.ro (fun w hS => heldPool_any 1 (by omega) hle2 w (St.intsR hS 9 rfl (by omega)) (hS.rowR (List.mem_of_getElem? (i := 10) rfl)) (St.intsR hS 11 rfl (by omega))) ?_⟩
    conv => whnf
    (repeat' (first | (refine Sp.mk (fun hs => ?_) (fun hs => ?_) <;> first | (exfalso; omega) | (conv => whnf)) | (refine Ar.i (by omega) ?_; conv => whnf) | (refine NewS.mk (fun _ => ?_); conv => whnf) | (refine QuoS.nn (by omega) ?_; conv => whnf) | (refine RemS.nn (by omega) ?_; conv => whnf) | refine RetS.mk (fun w' hS => ?_)))
    exact ⟨rfl, hS.below⟩
end Go.Proofs.Ytfjedjcdmaoeoaa
