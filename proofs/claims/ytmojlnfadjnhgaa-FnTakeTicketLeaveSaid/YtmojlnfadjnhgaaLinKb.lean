/- FnTakeTicketLeave; conditions: none. -/
import Derived.Test.YtmojlnfadjnhgaaLinK
set_option maxRecDepth 100000
set_option linter.unusedVariables false
set_option linter.unusedSimpArgs false
namespace Go.Proofs.Ytmojlnfadjnhgaa
open Eng Go Go.RowKit

theorem lawTakeLeave (w : World) {A : Option Addr} {n c : Nat} {bs : List Int} (hb : Bytes w A n bs) (hn : n ≤ c) :
    Calls Try.prog 3 #[.slice A n c] w fun e w' => e = .returned (.bool true) ∧ Below w.heap.size w w' := by
  refine enter (C := cxS w []) (okS w []) (St.start w) Try.func3 rfl rfl ?_; conv => whnf
  (repeat' (first | (refine Sp.mk (fun hs => ?_) (fun hs => ?_) <;> first | (exfalso; omega) | (conv => whnf)) | (refine Ar.i (by omega) ?_; conv => whnf) | (refine NewS.mk (fun _ => ?_); conv => whnf) | (refine QuoS.nn (by omega) ?_; conv => whnf) | (refine RemS.nn (by omega) ?_; conv => whnf) | (refine QuietS.mk (by as_aux_lemma => kernel_rfl) ?_; conv => whnf) | refine RetS.mk (fun w' hS => ?_)))
  · exact ⟨rfl, hS.below⟩
  refine ⟨rfl, CallS.own (fun w' hS => spec_DrawTakeTicket_any w' ⟨hS.arg hb.1, hb.2⟩ hn) (fun y hy => ?_)⟩
  obtain ⟨A1, c1, l⟩ := y
  obtain ⟨h13, hcap, hs1, hs2⟩ := hy
  dsimp only [LnD.v] at h13 hcap hs1 hs2 ⊢
  conv => whnf
  refine NewS.mk (fun g0 => ?_)
  conv => whnf
  have hsm := take_small l
  refine ⟨rfl, CallS.own (fun w' hS => iTake_any w' (St.line hS 0 rfl (by omega))) (fun y1 hy1 => ?_)⟩
  conv => whnf
  refine NewS.mk (fun g1 => ?_)
  conv => whnf
  refine ⟨rfl, CallS.own (fun w' hS => sTake_any w' (St.line hS 0 rfl (by omega))) (fun y2 hy2 => ?_)⟩
  conv => whnf
  refine NewS.mk (fun g2 => ?_)
  conv => whnf
  refine ⟨rfl, CallS.ro (fun w' hS => laws_equalLine_any w' (St.line hS 1 rfl (by omega)) (St.line hS 2 rfl (by omega))) ?_⟩
  conv => whnf
  cases hd : decide (takeOk l)
  · conv => whnf
    (repeat' (first | (refine Sp.mk (fun hs => ?_) (fun hs => ?_) <;> first | (exfalso; omega) | (conv => whnf)) | (refine Ar.i (by omega) ?_; conv => whnf) | (refine NewS.mk (fun _ => ?_); conv => whnf) | (refine QuoS.nn (by omega) ?_; conv => whnf) | (refine RemS.nn (by omega) ?_; conv => whnf) | (refine QuietS.mk (by as_aux_lemma => kernel_rfl) ?_; conv => whnf) | refine RetS.mk (fun w' hS => ?_)))
    refine ⟨rfl, CallS.ro (fun w' hS => laws_equalLine_any w' (St.line hS 1 rfl (by omega)) (St.line hS 2 rfl (by omega))) ?_⟩
    conv => whnf
    (repeat' (first | (refine Sp.mk (fun hs => ?_) (fun hs => ?_) <;> first | (exfalso; omega) | (conv => whnf)) | (refine Ar.i (by omega) ?_; conv => whnf) | (refine NewS.mk (fun _ => ?_); conv => whnf) | (refine QuoS.nn (by omega) ?_; conv => whnf) | (refine RemS.nn (by omega) ?_; conv => whnf) | (refine QuietS.mk (by as_aux_lemma => kernel_rfl) ?_; conv => whnf) | refine RetS.mk (fun w' hS => ?_)))
    exact ⟨rfl, hS.below⟩
  have hk := of_decide_eq_true hd
  obtain ⟨e1, e2, _⟩ := take_yes hk
  rw [e1] at hy1 hsm ⊢
  rw [e2]
  have hok2 := ok_take hk
  obtain ⟨k1, k2⟩ := law_takeLeave hk
  have k3 := ok_leave k1
  have hl3 := gone_length k3
  have hsm3 := waitL_small l
  conv => whnf
  (repeat' (first | (refine Sp.mk (fun hs => ?_) (fun hs => ?_) <;> first | (exfalso; omega) | (conv => whnf)) | (refine Ar.i (by omega) ?_; conv => whnf) | (refine NewS.mk (fun _ => ?_); conv => whnf) | (refine QuoS.nn (by omega) ?_; conv => whnf) | (refine RemS.nn (by omega) ?_; conv => whnf) | refine RetS.mk (fun w' hS => ?_)))
  refine ⟨rfl, CallS.own (fun w' hS => iLeave_any l.n w' (St.line hS 1 rfl (by omega))) (fun y3 hy3 => ?_)⟩
  unfold leaveR
  rw [leaveD_ok k1] at hy3 ⊢
  rw [decide_eq_true k1]
  conv => whnf
  refine NewS.mk (fun g3 => ?_)
  conv => whnf
  refine DrawS.all (.first 0 (.first 1 (.first 2 (.first 4 (.one 3 (.one 5 (.one 6 (.first 7 (.first 8 (.done)))))))))) (by as_aux_lemma => kernel_rfl) (LbTo.self rfl) ?_
  conv => whnf
  refine ⟨rfl, CallS.ownF (fun w' hS => iWaiting_any w' (St.line hS 3 rfl (by omega))) (fun y4 by4 wy4 hy4 hFy4 => ?_)⟩
  conv => whnf
  refine StS.mk rfl (RsTo.sub (by simp)) ?_
  conv => whnf
  refine ⟨rfl, CallS.ownF (fun w' hS => iWaiting_any w' (St.line hS 0 rfl (by omega))) (fun y5 by5 wy5 hy5 hFy5 => ?_)⟩
  conv => whnf
  refine StS.mk rfl (RsTo.sub (by simp)) ?_
  conv => whnf
  refine ⟨rfl, CallS.pt (by rw [waitL_ok k3, waitL_ok hk.1, k2]) (fun w' hS => laws_equalInts_any w' (St.intsR hS 4 rfl (by rw [waitL_ok k3, k2, ← waitL_ok hk.1]; omega)) (St.intsR hS 5 rfl (by omega))) ?_⟩
  conv => whnf
  refine StS.mk rfl (RsTo.sub (by simp)) ?_
  conv => whnf
  (repeat' (first | (refine Sp.mk (fun hs => ?_) (fun hs => ?_) <;> first | (exfalso; omega) | (conv => whnf)) | (refine Ar.i (by omega) ?_; conv => whnf) | (refine NewS.mk (fun _ => ?_); conv => whnf) | (refine QuoS.nn (by omega) ?_; conv => whnf) | (refine RemS.nn (by omega) ?_; conv => whnf) | refine RetS.mk (fun w' hS => ?_)))
  exact ⟨rfl, hS.below⟩
end Go.Proofs.Ytmojlnfadjnhgaa
