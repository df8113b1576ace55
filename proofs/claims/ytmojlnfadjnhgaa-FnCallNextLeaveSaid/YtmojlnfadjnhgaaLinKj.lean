/- FnCallNextLeave; conditions: none. -/
import Derived.Test.YtmojlnfadjnhgaaLinK
set_option maxRecDepth 100000
set_option linter.unusedVariables false
set_option linter.unusedSimpArgs false
namespace Go.Proofs.Ytmojlnfadjnhgaa
open Eng Go Go.RowKit

theorem lawCallLeave (w : World) {A : Option Addr} {n c : Nat} {bs : List Int} (hb : Bytes w A n bs) (hn : n ≤ c) :
    Calls Try.prog 7 #[.slice A n c] w fun e w' => e = .returned (.bool true) ∧ Below w.heap.size w w' := by
  refine enter (C := cxS w []) (okS w []) (St.start w) Try.func7 rfl rfl ?_; conv => whnf
  (repeat' (first | (refine Sp.mk (fun hs => ?_) (fun hs => ?_) <;> first | (exfalso; omega) | (conv => whnf)) | (refine Ar.i (by omega) ?_; conv => whnf) | (refine NewS.mk (fun _ => ?_); conv => whnf) | (refine QuoS.nn (by omega) ?_; conv => whnf) | (refine RemS.nn (by omega) ?_; conv => whnf) | (refine QuietS.mk (by as_aux_lemma => kernel_rfl) ?_; conv => whnf) | refine RetS.mk (fun w' hS => ?_)))
  · exact ⟨rfl, hS.below⟩
  refine ⟨rfl, CallS.own (fun w' hS => spec_DrawCallNext_any w' ⟨hS.arg hb.1, hb.2⟩ hn) (fun y hy => ?_)⟩
  obtain ⟨A1, c1, l⟩ := y
  obtain ⟨h13, hcap, hs1, hs2⟩ := hy
  dsimp only [LnD.v] at h13 hcap hs1 hs2 ⊢
  conv => whnf
  refine NewS.mk (fun g0 => ?_)
  conv => whnf
  have hsm := call_small l
  refine ⟨rfl, CallS.own (fun w' hS => iCall_any w' (St.line hS 0 rfl (by omega))) (fun y1 hy1 => ?_)⟩
  conv => whnf
  refine NewS.mk (fun g1 => ?_)
  conv => whnf
  refine ⟨rfl, CallS.own (fun w' hS => sCall_any w' (St.line hS 0 rfl (by omega))) (fun y2 hy2 => ?_)⟩
  conv => whnf
  refine NewS.mk (fun g2 => ?_)
  conv => whnf
  refine ⟨rfl, CallS.ro (fun w' hS => laws_equalLine_any w' (St.line hS 1 rfl (by omega)) (St.line hS 2 rfl (by omega))) ?_⟩
  conv => whnf
  cases hd : decide (callOk l)
  · conv => whnf
    (repeat' (first | (refine Sp.mk (fun hs => ?_) (fun hs => ?_) <;> first | (exfalso; omega) | (conv => whnf)) | (refine Ar.i (by omega) ?_; conv => whnf) | (refine NewS.mk (fun _ => ?_); conv => whnf) | (refine QuoS.nn (by omega) ?_; conv => whnf) | (refine RemS.nn (by omega) ?_; conv => whnf) | (refine QuietS.mk (by as_aux_lemma => kernel_rfl) ?_; conv => whnf) | refine RetS.mk (fun w' hS => ?_)))
    refine ⟨rfl, CallS.ro (fun w' hS => laws_equalLine_any w' (St.line hS 1 rfl (by omega)) (St.line hS 2 rfl (by omega))) ?_⟩
    conv => whnf
    (repeat' (first | (refine Sp.mk (fun hs => ?_) (fun hs => ?_) <;> first | (exfalso; omega) | (conv => whnf)) | (refine Ar.i (by omega) ?_; conv => whnf) | (refine NewS.mk (fun _ => ?_); conv => whnf) | (refine QuoS.nn (by omega) ?_; conv => whnf) | (refine RemS.nn (by omega) ?_; conv => whnf) | (refine QuietS.mk (by as_aux_lemma => kernel_rfl) ?_; conv => whnf) | refine RetS.mk (fun w' hS => ?_)))
    exact ⟨rfl, hS.below⟩
  have hk := of_decide_eq_true hd
  have hsm3 := waitL_small l
  rw [callD_ok hk] at hy1 hsm ⊢
  rw [callN_ok hk]
  obtain ⟨hok, hne⟩ := hk
  obtain ⟨x, r, hw⟩ : ∃ x r, wait l = x :: r := by
    cases e : wait l with
    | nil => exact absurd e hne
    | cons x r => exact ⟨x, r, rfl⟩
  have hk : callOk l := ⟨hok, hne⟩
  obtain ⟨k1, k2⟩ := call_at hok hw
  have e3 : waitL (callL l) = r := by rw [waitL_ok k1, k2]
  have e4 : waitL l = x :: r := by rw [waitL_ok hok, hw]
  have hx0 : first (wait l) = x := by rw [hw]; rfl
  have hlen : (x :: r).length = r.length + 1 := rfl
  have hxb : 0 ≤ x ∧ x ≤ 1000 := by
    have h1 := hok.1
    have h2 := hok.2.1
    have h3 := mem_wait.1 (show x ∈ wait l by rw [hw]; simp)
    omega
  rw [e4, hlen] at hsm3
  obtain ⟨q1, q2⟩ := law_callLeave hok hw
  have q3 := ok_leave q1
  have hl3 := gone_length q3
  rw [hx0]
  conv => whnf
  (repeat' (first | (refine Sp.mk (fun hs => ?_) (fun hs => ?_) <;> first | (exfalso; omega) | (conv => whnf)) | (refine Ar.i (by omega) ?_; conv => whnf) | (refine NewS.mk (fun _ => ?_); conv => whnf) | (refine QuoS.nn (by omega) ?_; conv => whnf) | (refine RemS.nn (by omega) ?_; conv => whnf) | refine RetS.mk (fun w' hS => ?_)))
  refine ⟨rfl, CallS.ownF (fun w' hS => iWaiting_any w' (St.line hS 0 rfl (by omega))) (fun y3 b3 w3 hy3 hF3 => ?_)⟩
  rw [e4, hlen] at hy3 hF3 ⊢
  obtain ⟨⟨ga, hga⟩⟩ : Nonempty (∃ g, y3.1 = some ⟨g, 0, none⟩) := ⟨row_some hF3 (by omega)⟩
  rw [hga] at hF3 ⊢
  conv => whnf
  refine ⟨rfl, CallS.own (fun w' hS => iLeave_any x w' (St.line hS 0 rfl (by omega))) (fun y5 hy5 => ?_)⟩
  unfold leaveR
  rw [leaveD_ok q1] at hy5 ⊢
  rw [decide_eq_true q1]
  conv => whnf
  refine NewS.mk (fun g3 => ?_)
  conv => whnf
  refine ⟨rfl, CallS.own (fun w' hS => iCall_any w' (St.line hS 4 rfl (by omega))) (fun y6 hy6 => ?_)⟩
  unfold callR
  cases r with
  | nil =>
    have hno : ¬ callOk (leaveL l x) := fun h => h.2 q2
    have hlen0 : ([] : List Int).length = 0 := rfl
    rw [decide_eq_false hno]
    conv => whnf
    refine NewS.mk (fun g4 => ?_)
    conv => whnf
    (repeat' (first | (refine Sp.mk (fun hs => ?_) (fun hs => ?_) <;> first | (exfalso; omega) | (conv => whnf)) | (refine Ar.i (by omega) ?_; conv => whnf) | (refine NewS.mk (fun _ => ?_); conv => whnf) | (refine QuoS.nn (by omega) ?_; conv => whnf) | (refine RemS.nn (by omega) ?_; conv => whnf) | refine RetS.mk (fun w' hS => ?_)))
    exact ⟨rfl, hS.below⟩
  | cons z r2 =>
    have hyes : callOk (leaveL l x) := ⟨q3, by rw [q2]; simp⟩
    have hz : callN (leaveL l x) = z := by rw [callN_ok hyes, q2]; rfl
    rw [decide_eq_true hyes, hz]
    have hlen2 : (z :: r2).length = r2.length + 1 := rfl
    conv => whnf
    refine NewS.mk (fun g4 => ?_)
    conv => whnf
    refine Sp.mk (fun h => absurd h (by rw [hlen2]; omega)) (fun _ => ?_)
    conv => whnf
    refine IdxS.at_ 1 rfl rfl (by rw [hlen2]; omega) ?_
    conv => whnf
    refine LdS.at_ (v := .int .i64 z) (fun w' hS => ?_) ?_
    · obtain ⟨ad', e, hc⟩ := (hS.rowR (List.mem_of_getElem? (i := 3) rfl)).2 (by omega)
      simp only [Option.some.injEq] at e
      subst e
      exact hc 1 _ rfl
    conv => whnf
    (repeat' (first | (refine Sp.mk (fun hs => ?_) (fun hs => ?_) <;> first | (exfalso; omega) | (conv => whnf)) | (refine Ar.i (by omega) ?_; conv => whnf) | (refine NewS.mk (fun _ => ?_); conv => whnf) | (refine QuoS.nn (by omega) ?_; conv => whnf) | (refine RemS.nn (by omega) ?_; conv => whnf) | refine RetS.mk (fun w' hS => ?_)))
    exact ⟨rfl, hS.below⟩
end Go.Proofs.Ytmojlnfadjnhgaa
