/- The exact laws on lines, writing; conditions: none. -/
import Derived.Test.YtmojlnfadjnhgaaLinH
set_option maxRecDepth 100000
set_option linter.unusedVariables false
set_option linter.unusedSimpArgs false
namespace Go.Proofs.Ytmojlnfadjnhgaa
open Eng Go Go.RowKit

theorem take_small (l : LineD) : (takeD l).g.length ≤ 12 := by
  unfold takeD
  split
  · rename_i h
    exact gone_length (ok_take h)
  · simp [zeroL]
theorem leave_small (l : LineD) (t : Int) : (leaveD l t).g.length ≤ 12 := by
  unfold leaveD
  split
  · rename_i h
    exact gone_length (ok_leave h)
  · simp [zeroL]
theorem call_small (l : LineD) : (callD l).g.length ≤ 12 := by
  unfold callD
  split
  · rename_i h
    obtain ⟨h1, h2⟩ := h
    cases e : wait l with
    | nil => exact absurd e h2
    | cons x r => exact gone_length (call_at h1 e).1
  · simp [zeroL]
theorem waitL_small (l : LineD) : (waitL l).length ≤ 12 := by
  unfold waitL
  split
  · rename_i h
    exact (wait_length h).2
  · simp

theorem exactTake_any (w : World) {A : Option Addr} {c : Nat} {l : LineD} (hr : Reads w 1 A l.g.length (i64s l.g)) (hm : l.g.length ≤ maxLen) :
    Calls Try.prog 9 #[.agg (lineV l A c).toArray] w fun e w' => e = .returned (.bool true) ∧ Below w.heap.size w w' := by
  refine enter (C := cxS w []) (okS w []) (St.start w) Try.func9 rfl rfl ?_; conv => whnf
  refine NewS.mk (fun g0 => ?_)
  conv => whnf
  refine ⟨rfl, CallS.ro (fun w hS => szLine_any hm w) ?_⟩
  by_cases hb : (1048576 : Int) - l.g.length < 0
  · rw [if_pos hb]
    conv => whnf
    (repeat' (first | (refine Sp.mk (fun hs => ?_) (fun hs => ?_) <;> first | (exfalso; omega) | (conv => whnf)) | (refine Ar.i (by omega) ?_; conv => whnf) | (refine NewS.mk (fun _ => ?_); conv => whnf) | (refine QuoS.nn (by omega) ?_; conv => whnf) | (refine RemS.nn (by omega) ?_; conv => whnf) | refine RetS.mk (fun w' hS => ?_)))
    exact ⟨rfl, hS.below⟩
  rw [if_neg hb]
  have hn : l.g.length ≤ 1048576 := by omega
  have hL : LineR w A l := ⟨hr, by omega⟩
  have hd2 := take_small l
  conv => whnf
  (repeat' (first | (refine Sp.mk (fun hs => ?_) (fun hs => ?_) <;> first | (exfalso; omega) | (conv => whnf)) | (refine Ar.i (by omega) ?_; conv => whnf) | (refine NewS.mk (fun _ => ?_); conv => whnf) | (refine QuoS.nn (by omega) ?_; conv => whnf) | (refine RemS.nn (by omega) ?_; conv => whnf) | refine RetS.mk (fun w' hS => ?_)))
  refine call_toLine hL (fun A1 => ?_)
  conv => whnf
  refine ⟨rfl, CallS.own (fun w hS => sTake_any w (St.line hS 0 rfl (by omega))) (fun y1 hy1 => ?_)⟩
  conv => whnf
  refine NewS.mk (fun g1 => ?_)
  conv => whnf
  refine call_toLine hL (fun A2 => ?_)
  conv => whnf
  refine NewS.mk (fun g2 => ?_)
  conv => whnf
  refine ⟨rfl, CallS.own (fun w hS => iTake_any w (St.line hS 2 rfl (by omega))) (fun y2 hy2 => ?_)⟩
  conv => whnf
  refine NewS.mk (fun g3 => ?_)
  conv => whnf
  refine ⟨rfl, CallS.ro (fun w hS => laws_eqLine_any w (St.line hS 3 rfl (by omega)) (St.line hS 1 rfl (by omega))) ?_⟩
  conv => whnf
  cases hd : decide (takeOk l)
  all_goals
    conv => whnf
    (repeat' (first | (refine Sp.mk (fun hs => ?_) (fun hs => ?_) <;> first | (exfalso; omega) | (conv => whnf)) | (refine Ar.i (by omega) ?_; conv => whnf) | (refine NewS.mk (fun _ => ?_); conv => whnf) | (refine QuoS.nn (by omega) ?_; conv => whnf) | (refine RemS.nn (by omega) ?_; conv => whnf) | refine RetS.mk (fun w' hS => ?_)))
    refine DrawS.all (.first 0 (.first 1 (.one 2 (.one 3 (.first 4 (.done)))))) (by as_aux_lemma => kernel_rfl) (LbTo.self rfl) ?_
    conv => whnf
    refine call_toLine hL (fun A3 => ?_)
    conv => whnf
    refine StS.mk rfl (RsTo.sub (by simp)) ?_
    conv => whnf
    refine ⟨rfl, CallS.ro (fun w hS => laws_eqLine_any w (St.line hS 2 rfl (by omega)) (St.line hS 4 rfl (by omega))) ?_⟩
    conv => whnf
    refine StS.mk rfl (RsTo.sub (by simp)) ?_
    conv => whnf
    (repeat' (first | (refine Sp.mk (fun hs => ?_) (fun hs => ?_) <;> first | (exfalso; omega) | (conv => whnf)) | (refine Ar.i (by omega) ?_; conv => whnf) | (refine NewS.mk (fun _ => ?_); conv => whnf) | (refine QuoS.nn (by omega) ?_; conv => whnf) | (refine RemS.nn (by omega) ?_; conv => whnf) | refine RetS.mk (fun w' hS => ?_)))
    refine call_markLine 2 rfl (by omega) (by omega) ?_
    conv => whnf
    (repeat' (first | (refine Sp.mk (fun hs => ?_) (fun hs => ?_) <;> first | (exfalso; omega) | (conv => whnf)) | (refine Ar.i (by omega) ?_; conv => whnf) | (refine NewS.mk (fun _ => ?_); conv => whnf) | (refine QuoS.nn (by omega) ?_; conv => whnf) | (refine RemS.nn (by omega) ?_; conv => whnf) | refine RetS.mk (fun w' hS => ?_)))
    refine ⟨rfl, CallS.ro (fun w hS => laws_eqLine_any w (St.line hS 3 rfl (by omega)) (St.line hS 1 rfl (by omega))) ?_⟩
    conv => whnf
    (repeat' (first | (refine Sp.mk (fun hs => ?_) (fun hs => ?_) <;> first | (exfalso; omega) | (conv => whnf)) | (refine Ar.i (by omega) ?_; conv => whnf) | (refine NewS.mk (fun _ => ?_); conv => whnf) | (refine QuoS.nn (by omega) ?_; conv => whnf) | (refine RemS.nn (by omega) ?_; conv => whnf) | refine RetS.mk (fun w' hS => ?_)))
    refine call_markLine 3 rfl (by omega) (by omega) ?_
    conv => whnf
    (repeat' (first | (refine Sp.mk (fun hs => ?_) (fun hs => ?_) <;> first | (exfalso; omega) | (conv => whnf)) | (refine Ar.i (by omega) ?_; conv => whnf) | (refine NewS.mk (fun _ => ?_); conv => whnf) | (refine QuoS.nn (by omega) ?_; conv => whnf) | (refine RemS.nn (by omega) ?_; conv => whnf) | refine RetS.mk (fun w' hS => ?_)))
    refine ⟨rfl, CallS.ro (fun w hS => heldLine_any 1 (by omega) w (St.intsR hS 3 rfl (by omega))) ?_⟩
    conv => whnf
    (repeat' (first | (refine Sp.mk (fun hs => ?_) (fun hs => ?_) <;> first | (exfalso; omega) | (conv => whnf)) | (refine Ar.i (by omega) ?_; conv => whnf) | (refine NewS.mk (fun _ => ?_); conv => whnf) | (refine QuoS.nn (by omega) ?_; conv => whnf) | (refine RemS.nn (by omega) ?_; conv => whnf) | refine RetS.mk (fun w' hS => ?_)))
    refine call_toLine hL (fun A4 => ?_)
    conv => whnf
    refine ⟨rfl, CallS.own (fun w hS => iTake_any w (St.line hS 5 rfl (by omega))) (fun y3 hy3 => ?_)⟩
    conv => whnf
    refine NewS.mk (fun g4 => ?_)
    conv => whnf
    refine ⟨rfl, CallS.ro (fun w hS => laws_eqLine_any w (St.line hS 6 rfl (by omega)) (St.line hS 1 rfl (by omega))) ?_⟩
    conv => whnf
    rw [hd]
    conv => whnf
    (repeat' (first | (refine Sp.mk (fun hs => ?_) (fun hs => ?_) <;> first | (exfalso; omega) | (conv => whnf)) | (refine Ar.i (by omega) ?_; conv => whnf) | (refine NewS.mk (fun _ => ?_); conv => whnf) | (refine QuoS.nn (by omega) ?_; conv => whnf) | (refine RemS.nn (by omega) ?_; conv => whnf) | refine RetS.mk (fun w' hS => ?_)))
    refine ⟨rfl, CallS.ro (fun w hS => heldLine_any 1 (by omega) w (St.intsR hS 3 rfl (by omega))) ?_⟩
    conv => whnf
    (repeat' (first | (refine Sp.mk (fun hs => ?_) (fun hs => ?_) <;> first | (exfalso; omega) | (conv => whnf)) | (refine Ar.i (by omega) ?_; conv => whnf) | (refine NewS.mk (fun _ => ?_); conv => whnf) | (refine QuoS.nn (by omega) ?_; conv => whnf) | (refine RemS.nn (by omega) ?_; conv => whnf) | refine RetS.mk (fun w' hS => ?_)))
    exact ⟨rfl, hS.below⟩
theorem exactCall_any (w : World) {A : Option Addr} {c : Nat} {l : LineD} (hr : Reads w 1 A l.g.length (i64s l.g)) (hm : l.g.length ≤ maxLen) :
    Calls Try.prog 16 #[.agg (lineV l A c).toArray] w fun e w' => e = .returned (.bool true) ∧ Below w.heap.size w w' := by
  refine enter (C := cxS w []) (okS w []) (St.start w) Try.func16 rfl rfl ?_; conv => whnf
  refine NewS.mk (fun g0 => ?_)
  conv => whnf
  refine ⟨rfl, CallS.ro (fun w hS => szLine_any hm w) ?_⟩
  by_cases hb : (1048576 : Int) - l.g.length < 0
  · rw [if_pos hb]
    conv => whnf
    (repeat' (first | (refine Sp.mk (fun hs => ?_) (fun hs => ?_) <;> first | (exfalso; omega) | (conv => whnf)) | (refine Ar.i (by omega) ?_; conv => whnf) | (refine NewS.mk (fun _ => ?_); conv => whnf) | (refine QuoS.nn (by omega) ?_; conv => whnf) | (refine RemS.nn (by omega) ?_; conv => whnf) | refine RetS.mk (fun w' hS => ?_)))
    exact ⟨rfl, hS.below⟩
  rw [if_neg hb]
  have hn : l.g.length ≤ 1048576 := by omega
  have hL : LineR w A l := ⟨hr, by omega⟩
  have hd2 := call_small l
  conv => whnf
  (repeat' (first | (refine Sp.mk (fun hs => ?_) (fun hs => ?_) <;> first | (exfalso; omega) | (conv => whnf)) | (refine Ar.i (by omega) ?_; conv => whnf) | (refine NewS.mk (fun _ => ?_); conv => whnf) | (refine QuoS.nn (by omega) ?_; conv => whnf) | (refine RemS.nn (by omega) ?_; conv => whnf) | refine RetS.mk (fun w' hS => ?_)))
  refine call_toLine hL (fun A1 => ?_)
  conv => whnf
  refine ⟨rfl, CallS.own (fun w hS => sCall_any w (St.line hS 0 rfl (by omega))) (fun y1 hy1 => ?_)⟩
  conv => whnf
  refine NewS.mk (fun g1 => ?_)
  conv => whnf
  refine call_toLine hL (fun A2 => ?_)
  conv => whnf
  refine NewS.mk (fun g2 => ?_)
  conv => whnf
  refine ⟨rfl, CallS.own (fun w hS => iCall_any w (St.line hS 2 rfl (by omega))) (fun y2 hy2 => ?_)⟩
  conv => whnf
  refine NewS.mk (fun g3 => ?_)
  conv => whnf
  refine ⟨rfl, CallS.ro (fun w hS => laws_eqLine_any w (St.line hS 3 rfl (by omega)) (St.line hS 1 rfl (by omega))) ?_⟩
  conv => whnf
  cases hd : decide (callOk l)
  all_goals
    conv => whnf
    (repeat' (first | (refine Sp.mk (fun hs => ?_) (fun hs => ?_) <;> first | (exfalso; omega) | (conv => whnf)) | (refine Ar.i (by omega) ?_; conv => whnf) | (refine NewS.mk (fun _ => ?_); conv => whnf) | (refine QuoS.nn (by omega) ?_; conv => whnf) | (refine RemS.nn (by omega) ?_; conv => whnf) | refine RetS.mk (fun w' hS => ?_)))
    refine DrawS.all (.first 0 (.first 1 (.one 2 (.one 3 (.first 4 (.done)))))) (by as_aux_lemma => kernel_rfl) (LbTo.self rfl) ?_
    conv => whnf
    refine call_toLine hL (fun A3 => ?_)
    conv => whnf
    refine StS.mk rfl (RsTo.sub (by simp)) ?_
    conv => whnf
    refine ⟨rfl, CallS.ro (fun w hS => laws_eqLine_any w (St.line hS 2 rfl (by omega)) (St.line hS 4 rfl (by omega))) ?_⟩
    conv => whnf
    refine StS.mk rfl (RsTo.sub (by simp)) ?_
    conv => whnf
    (repeat' (first | (refine Sp.mk (fun hs => ?_) (fun hs => ?_) <;> first | (exfalso; omega) | (conv => whnf)) | (refine Ar.i (by omega) ?_; conv => whnf) | (refine NewS.mk (fun _ => ?_); conv => whnf) | (refine QuoS.nn (by omega) ?_; conv => whnf) | (refine RemS.nn (by omega) ?_; conv => whnf) | refine RetS.mk (fun w' hS => ?_)))
    refine call_markLine 2 rfl (by omega) (by omega) ?_
    conv => whnf
    (repeat' (first | (refine Sp.mk (fun hs => ?_) (fun hs => ?_) <;> first | (exfalso; omega) | (conv => whnf)) | (refine Ar.i (by omega) ?_; conv => whnf) | (refine NewS.mk (fun _ => ?_); conv => whnf) | (refine QuoS.nn (by omega) ?_; conv => whnf) | (refine RemS.nn (by omega) ?_; conv => whnf) | refine RetS.mk (fun w' hS => ?_)))
    refine ⟨rfl, CallS.ro (fun w hS => laws_eqLine_any w (St.line hS 3 rfl (by omega)) (St.line hS 1 rfl (by omega))) ?_⟩
    conv => whnf
    (repeat' (first | (refine Sp.mk (fun hs => ?_) (fun hs => ?_) <;> first | (exfalso; omega) | (conv => whnf)) | (refine Ar.i (by omega) ?_; conv => whnf) | (refine NewS.mk (fun _ => ?_); conv => whnf) | (refine QuoS.nn (by omega) ?_; conv => whnf) | (refine RemS.nn (by omega) ?_; conv => whnf) | refine RetS.mk (fun w' hS => ?_)))
    refine call_markLine 3 rfl (by omega) (by omega) ?_
    conv => whnf
    (repeat' (first | (refine Sp.mk (fun hs => ?_) (fun hs => ?_) <;> first | (exfalso; omega) | (conv => whnf)) | (refine Ar.i (by omega) ?_; conv => whnf) | (refine NewS.mk (fun _ => ?_); conv => whnf) | (refine QuoS.nn (by omega) ?_; conv => whnf) | (refine RemS.nn (by omega) ?_; conv => whnf) | refine RetS.mk (fun w' hS => ?_)))
    refine ⟨rfl, CallS.ro (fun w hS => heldLine_any 1 (by omega) w (St.intsR hS 3 rfl (by omega))) ?_⟩
    conv => whnf
    (repeat' (first | (refine Sp.mk (fun hs => ?_) (fun hs => ?_) <;> first | (exfalso; omega) | (conv => whnf)) | (refine Ar.i (by omega) ?_; conv => whnf) | (refine NewS.mk (fun _ => ?_); conv => whnf) | (refine QuoS.nn (by omega) ?_; conv => whnf) | (refine RemS.nn (by omega) ?_; conv => whnf) | refine RetS.mk (fun w' hS => ?_)))
    refine call_toLine hL (fun A4 => ?_)
    conv => whnf
    refine ⟨rfl, CallS.own (fun w hS => iCall_any w (St.line hS 5 rfl (by omega))) (fun y3 hy3 => ?_)⟩
    conv => whnf
    refine NewS.mk (fun g4 => ?_)
    conv => whnf
    refine ⟨rfl, CallS.ro (fun w hS => laws_eqLine_any w (St.line hS 6 rfl (by omega)) (St.line hS 1 rfl (by omega))) ?_⟩
    conv => whnf
    rw [hd]
    conv => whnf
    (repeat' (first | (refine Sp.mk (fun hs => ?_) (fun hs => ?_) <;> first | (exfalso; omega) | (conv => whnf)) | (refine Ar.i (by omega) ?_; conv => whnf) | (refine NewS.mk (fun _ => ?_); conv => whnf) | (refine QuoS.nn (by omega) ?_; conv => whnf) | (refine RemS.nn (by omega) ?_; conv => whnf) | refine RetS.mk (fun w' hS => ?_)))
    refine ⟨rfl, CallS.ro (fun w hS => heldLine_any 1 (by omega) w (St.intsR hS 3 rfl (by omega))) ?_⟩
    conv => whnf
    (repeat' (first | (refine Sp.mk (fun hs => ?_) (fun hs => ?_) <;> first | (exfalso; omega) | (conv => whnf)) | (refine Ar.i (by omega) ?_; conv => whnf) | (refine NewS.mk (fun _ => ?_); conv => whnf) | (refine QuoS.nn (by omega) ?_; conv => whnf) | (refine RemS.nn (by omega) ?_; conv => whnf) | refine RetS.mk (fun w' hS => ?_)))
    exact ⟨rfl, hS.below⟩
theorem exactLeave_any (w : World) {A : Option Addr} {c : Nat} {l : LineD} {t : Int} (hr : Reads w 1 A l.g.length (i64s l.g)) (hm : l.g.length ≤ maxLen) (_ : I64ok t) :
    Calls Try.prog 21 #[.agg (lineV l A c).toArray, .int .i64 t] w fun e w' => e = .returned (.bool true) ∧ Below w.heap.size w w' := by
  refine enter (C := cxS w []) (okS w []) (St.start w) Try.func21 rfl rfl ?_; conv => whnf
  refine NewS.mk (fun g0 => ?_)
  conv => whnf
  refine ⟨rfl, CallS.ro (fun w hS => szLine_any hm w) ?_⟩
  by_cases hb : (1048576 : Int) - l.g.length < 0
  · rw [if_pos hb]
    conv => whnf
    (repeat' (first | (refine Sp.mk (fun hs => ?_) (fun hs => ?_) <;> first | (exfalso; omega) | (conv => whnf)) | (refine Ar.i (by omega) ?_; conv => whnf) | (refine NewS.mk (fun _ => ?_); conv => whnf) | (refine QuoS.nn (by omega) ?_; conv => whnf) | (refine RemS.nn (by omega) ?_; conv => whnf) | refine RetS.mk (fun w' hS => ?_)))
    exact ⟨rfl, hS.below⟩
  rw [if_neg hb]
  have hn : l.g.length ≤ 1048576 := by omega
  have hL : LineR w A l := ⟨hr, by omega⟩
  have hd2 := leave_small l t
  conv => whnf
  (repeat' (first | (refine Sp.mk (fun hs => ?_) (fun hs => ?_) <;> first | (exfalso; omega) | (conv => whnf)) | (refine Ar.i (by omega) ?_; conv => whnf) | (refine NewS.mk (fun _ => ?_); conv => whnf) | (refine QuoS.nn (by omega) ?_; conv => whnf) | (refine RemS.nn (by omega) ?_; conv => whnf) | refine RetS.mk (fun w' hS => ?_)))
  refine call_toLine hL (fun A1 => ?_)
  conv => whnf
  refine ⟨rfl, CallS.own (fun w hS => sLeave_any t w (St.line hS 0 rfl (by omega))) (fun y1 hy1 => ?_)⟩
  conv => whnf
  refine NewS.mk (fun g1 => ?_)
  conv => whnf
  refine call_toLine hL (fun A2 => ?_)
  conv => whnf
  refine NewS.mk (fun g2 => ?_)
  conv => whnf
  refine ⟨rfl, CallS.own (fun w hS => iLeave_any t w (St.line hS 2 rfl (by omega))) (fun y2 hy2 => ?_)⟩
  conv => whnf
  refine NewS.mk (fun g3 => ?_)
  conv => whnf
  refine ⟨rfl, CallS.ro (fun w hS => laws_eqLine_any w (St.line hS 3 rfl (by omega)) (St.line hS 1 rfl (by omega))) ?_⟩
  conv => whnf
  cases hd : decide (leaveOk l t)
  all_goals
    conv => whnf
    (repeat' (first | (refine Sp.mk (fun hs => ?_) (fun hs => ?_) <;> first | (exfalso; omega) | (conv => whnf)) | (refine Ar.i (by omega) ?_; conv => whnf) | (refine NewS.mk (fun _ => ?_); conv => whnf) | (refine QuoS.nn (by omega) ?_; conv => whnf) | (refine RemS.nn (by omega) ?_; conv => whnf) | refine RetS.mk (fun w' hS => ?_)))
    refine DrawS.all (.first 0 (.first 1 (.one 2 (.one 3 (.first 4 (.done)))))) (by as_aux_lemma => kernel_rfl) (LbTo.self rfl) ?_
    conv => whnf
    refine call_toLine hL (fun A3 => ?_)
    conv => whnf
    refine StS.mk rfl (RsTo.sub (by simp)) ?_
    conv => whnf
    refine ⟨rfl, CallS.ro (fun w hS => laws_eqLine_any w (St.line hS 2 rfl (by omega)) (St.line hS 4 rfl (by omega))) ?_⟩
    conv => whnf
    refine StS.mk rfl (RsTo.sub (by simp)) ?_
    conv => whnf
    (repeat' (first | (refine Sp.mk (fun hs => ?_) (fun hs => ?_) <;> first | (exfalso; omega) | (conv => whnf)) | (refine Ar.i (by omega) ?_; conv => whnf) | (refine NewS.mk (fun _ => ?_); conv => whnf) | (refine QuoS.nn (by omega) ?_; conv => whnf) | (refine RemS.nn (by omega) ?_; conv => whnf) | refine RetS.mk (fun w' hS => ?_)))
    refine call_markLine 2 rfl (by omega) (by omega) ?_
    conv => whnf
    (repeat' (first | (refine Sp.mk (fun hs => ?_) (fun hs => ?_) <;> first | (exfalso; omega) | (conv => whnf)) | (refine Ar.i (by omega) ?_; conv => whnf) | (refine NewS.mk (fun _ => ?_); conv => whnf) | (refine QuoS.nn (by omega) ?_; conv => whnf) | (refine RemS.nn (by omega) ?_; conv => whnf) | refine RetS.mk (fun w' hS => ?_)))
    refine ⟨rfl, CallS.ro (fun w hS => laws_eqLine_any w (St.line hS 3 rfl (by omega)) (St.line hS 1 rfl (by omega))) ?_⟩
    conv => whnf
    (repeat' (first | (refine Sp.mk (fun hs => ?_) (fun hs => ?_) <;> first | (exfalso; omega) | (conv => whnf)) | (refine Ar.i (by omega) ?_; conv => whnf) | (refine NewS.mk (fun _ => ?_); conv => whnf) | (refine QuoS.nn (by omega) ?_; conv => whnf) | (refine RemS.nn (by omega) ?_; conv => whnf) | refine RetS.mk (fun w' hS => ?_)))
    refine call_markLine 3 rfl (by omega) (by omega) ?_
    conv => whnf
    (repeat' (first | (refine Sp.mk (fun hs => ?_) (fun hs => ?_) <;> first | (exfalso; omega) | (conv => whnf)) | (refine Ar.i (by omega) ?_; conv => whnf) | (refine NewS.mk (fun _ => ?_); conv => whnf) | (refine QuoS.nn (by omega) ?_; conv => whnf) | (refine RemS.nn (by omega) ?_; conv => whnf) | refine RetS.mk (fun w' hS => ?_)))
    refine ⟨rfl, CallS.ro (fun w hS => heldLine_any 1 (by omega) w (St.intsR hS 3 rfl (by omega))) ?_⟩
    conv => whnf
    (repeat' (first | (refine Sp.mk (fun hs => ?_) (fun hs => ?_) <;> first | (exfalso; omega) | (conv => whnf)) | (refine Ar.i (by omega) ?_; conv => whnf) | (refine NewS.mk (fun _ => ?_); conv => whnf) | (refine QuoS.nn (by omega) ?_; conv => whnf) | (refine RemS.nn (by omega) ?_; conv => whnf) | refine RetS.mk (fun w' hS => ?_)))
    refine call_toLine hL (fun A4 => ?_)
    conv => whnf
    refine ⟨rfl, CallS.own (fun w hS => iLeave_any t w (St.line hS 5 rfl (by omega))) (fun y3 hy3 => ?_)⟩
    conv => whnf
    refine NewS.mk (fun g4 => ?_)
    conv => whnf
    refine ⟨rfl, CallS.ro (fun w hS => laws_eqLine_any w (St.line hS 6 rfl (by omega)) (St.line hS 1 rfl (by omega))) ?_⟩
    conv => whnf
    rw [hd]
    conv => whnf
    (repeat' (first | (refine Sp.mk (fun hs => ?_) (fun hs => ?_) <;> first | (exfalso; omega) | (conv => whnf)) | (refine Ar.i (by omega) ?_; conv => whnf) | (refine NewS.mk (fun _ => ?_); conv => whnf) | (refine QuoS.nn (by omega) ?_; conv => whnf) | (refine RemS.nn (by omega) ?_; conv => whnf) | refine RetS.mk (fun w' hS => ?_)))
    refine ⟨rfl, CallS.ro (fun w hS => heldLine_any 1 (by omega) w (St.intsR hS 3 rfl (by omega))) ?_⟩
    conv => whnf
    (repeat' (first | (refine Sp.mk (fun hs => ?_) (fun hs => ?_) <;> first | (exfalso; omega) | (conv => whnf)) | (refine Ar.i (by omega) ?_; conv => whnf) | (refine NewS.mk (fun _ => ?_); conv => whnf) | (refine QuoS.nn (by omega) ?_; conv => whnf) | (refine RemS.nn (by omega) ?_; conv => whnf) | refine RetS.mk (fun w' hS => ?_)))
    exact ⟨rfl, hS.below⟩
theorem exactWaiting_any (w : World) {A : Option Addr} {c : Nat} {l : LineD} (hr : Reads w 1 A l.g.length (i64s l.g)) (hm : l.g.length ≤ maxLen) :
    Calls Try.prog 10 #[.agg (lineV l A c).toArray] w fun e w' => e = .returned (.bool true) ∧ Below w.heap.size w w' := by
  refine enter (C := cxS w []) (okS w []) (St.start w) Try.func10 rfl rfl ?_; conv => whnf
  refine NewS.mk (fun g0 => ?_)
  conv => whnf
  refine ⟨rfl, CallS.ro (fun w hS => szLine_any hm w) ?_⟩
  by_cases hb : (1048576 : Int) - l.g.length < 0
  · rw [if_pos hb]
    conv => whnf
    (repeat' (first | (refine Sp.mk (fun hs => ?_) (fun hs => ?_) <;> first | (exfalso; omega) | (conv => whnf)) | (refine Ar.i (by omega) ?_; conv => whnf) | (refine NewS.mk (fun _ => ?_); conv => whnf) | (refine QuoS.nn (by omega) ?_; conv => whnf) | (refine RemS.nn (by omega) ?_; conv => whnf) | refine RetS.mk (fun w' hS => ?_)))
    exact ⟨rfl, hS.below⟩
  rw [if_neg hb]
  have hn : l.g.length ≤ 1048576 := by omega
  have hL : LineR w A l := ⟨hr, by omega⟩
  have hd2 := waitL_small l
  conv => whnf
  (repeat' (first | (refine Sp.mk (fun hs => ?_) (fun hs => ?_) <;> first | (exfalso; omega) | (conv => whnf)) | (refine Ar.i (by omega) ?_; conv => whnf) | (refine NewS.mk (fun _ => ?_); conv => whnf) | (refine QuoS.nn (by omega) ?_; conv => whnf) | (refine RemS.nn (by omega) ?_; conv => whnf) | refine RetS.mk (fun w' hS => ?_)))
  refine call_toLine hL (fun A1 => ?_)
  conv => whnf
  refine ⟨rfl, CallS.own (fun w hS => sWaiting_any w (St.line hS 0 rfl (by omega))) (fun y1 hy1 => ?_)⟩
  conv => whnf
  refine call_toLine hL (fun A2 => ?_)
  conv => whnf
  refine NewS.mk (fun g2 => ?_)
  conv => whnf
  refine ⟨rfl, CallS.own (fun w hS => iWaiting_any w (St.line hS 2 rfl (by omega))) (fun y2 hy2 => ?_)⟩
  conv => whnf
  refine ⟨rfl, CallS.p (fun w hS => laws_eqIntS_any w (St.intsR hS 3 rfl (by omega)) (St.intsR hS 1 rfl (by omega))) (fun _ => ?_) (fun h => absurd rfl h)⟩
  conv => whnf
  · skip
    refine DrawS.all (.first 0 (.first 1 (.one 2 (.one 3 (.first 4 (.done)))))) (by as_aux_lemma => kernel_rfl) (LbTo.self rfl) ?_
    conv => whnf
    refine call_toLine hL (fun A3 => ?_)
    conv => whnf
    refine StS.mk rfl (RsTo.sub (by simp)) ?_
    conv => whnf
    refine ⟨rfl, CallS.ro (fun w hS => laws_eqLine_any w (St.line hS 2 rfl (by omega)) (St.line hS 4 rfl (by omega))) ?_⟩
    conv => whnf
    refine StS.mk rfl (RsTo.sub (by simp)) ?_
    conv => whnf
    (repeat' (first | (refine Sp.mk (fun hs => ?_) (fun hs => ?_) <;> first | (exfalso; omega) | (conv => whnf)) | (refine Ar.i (by omega) ?_; conv => whnf) | (refine NewS.mk (fun _ => ?_); conv => whnf) | (refine QuoS.nn (by omega) ?_; conv => whnf) | (refine RemS.nn (by omega) ?_; conv => whnf) | refine RetS.mk (fun w' hS => ?_)))
    refine call_markLine 2 rfl (by omega) (by omega) ?_
    conv => whnf
    (repeat' (first | (refine Sp.mk (fun hs => ?_) (fun hs => ?_) <;> first | (exfalso; omega) | (conv => whnf)) | (refine Ar.i (by omega) ?_; conv => whnf) | (refine NewS.mk (fun _ => ?_); conv => whnf) | (refine QuoS.nn (by omega) ?_; conv => whnf) | (refine RemS.nn (by omega) ?_; conv => whnf) | refine RetS.mk (fun w' hS => ?_)))
    refine ⟨rfl, CallS.p (fun w hS => laws_eqIntS_any w (St.intsR hS 3 rfl (by omega)) (St.intsR hS 1 rfl (by omega))) (fun _ => ?_) (fun h => absurd rfl h)⟩
    conv => whnf
    (repeat' (first | (refine Sp.mk (fun hs => ?_) (fun hs => ?_) <;> first | (exfalso; omega) | (conv => whnf)) | (refine Ar.i (by omega) ?_; conv => whnf) | (refine NewS.mk (fun _ => ?_); conv => whnf) | (refine QuoS.nn (by omega) ?_; conv => whnf) | (refine RemS.nn (by omega) ?_; conv => whnf) | refine RetS.mk (fun w' hS => ?_)))
    refine call_markI 3 rfl (by omega) (by omega) ?_
    conv => whnf
    refine ⟨rfl, CallS.ro (fun w hS => laws_heldIntS_any 1 (by omega) w (St.intsR hS 3 rfl (by omega))) ?_⟩
    conv => whnf
    (repeat' (first | (refine Sp.mk (fun hs => ?_) (fun hs => ?_) <;> first | (exfalso; omega) | (conv => whnf)) | (refine Ar.i (by omega) ?_; conv => whnf) | (refine NewS.mk (fun _ => ?_); conv => whnf) | (refine QuoS.nn (by omega) ?_; conv => whnf) | (refine RemS.nn (by omega) ?_; conv => whnf) | refine RetS.mk (fun w' hS => ?_)))
    refine call_toLine hL (fun A4 => ?_)
    conv => whnf
    refine ⟨rfl, CallS.own (fun w hS => iWaiting_any w (St.line hS 5 rfl (by omega))) (fun y3 hy3 => ?_)⟩
    conv => whnf
    refine ⟨rfl, CallS.p (fun w hS => laws_eqIntS_any w (St.intsR hS 6 rfl (by omega)) (St.intsR hS 1 rfl (by omega))) (fun _ => ?_) (fun h => absurd rfl h)⟩
    conv => whnf
    (repeat' (first | (refine Sp.mk (fun hs => ?_) (fun hs => ?_) <;> first | (exfalso; omega) | (conv => whnf)) | (refine Ar.i (by omega) ?_; conv => whnf) | (refine NewS.mk (fun _ => ?_); conv => whnf) | (refine QuoS.nn (by omega) ?_; conv => whnf) | (refine RemS.nn (by omega) ?_; conv => whnf) | refine RetS.mk (fun w' hS => ?_)))
    refine ⟨rfl, CallS.ro (fun w hS => laws_heldIntS_any 1 (by omega) w (St.intsR hS 3 rfl (by omega))) ?_⟩
    conv => whnf
    (repeat' (first | (refine Sp.mk (fun hs => ?_) (fun hs => ?_) <;> first | (exfalso; omega) | (conv => whnf)) | (refine Ar.i (by omega) ?_; conv => whnf) | (refine NewS.mk (fun _ => ?_); conv => whnf) | (refine QuoS.nn (by omega) ?_; conv => whnf) | (refine RemS.nn (by omega) ?_; conv => whnf) | refine RetS.mk (fun w' hS => ?_)))
    exact ⟨rfl, hS.below⟩
end Go.Proofs.Ytmojlnfadjnhgaa
