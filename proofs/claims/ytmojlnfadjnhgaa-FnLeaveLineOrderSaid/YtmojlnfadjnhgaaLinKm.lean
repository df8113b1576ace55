/- FnLeaveLineOrder; conditions: none. -/
import Derived.Test.YtmojlnfadjnhgaaLinKz
set_option maxRecDepth 100000
set_option linter.unusedVariables false
set_option linter.unusedSimpArgs false
namespace Go.Proofs.Ytmojlnfadjnhgaa
open Eng Go Go.RowKit

set_option maxHeartbeats 1000000 in
theorem lawLeaveOrder (w : World) {A : Option Addr} {n c : Nat} {bs : List Int} (hb : Bytes w A n bs) (hn : n ≤ c) :
    Calls Try.prog 20 #[.slice A n c] w fun e w' => e = .returned (.bool true) ∧ Below w.heap.size w w' := by
  refine enter (C := cxS w []) (okS w []) (St.start w) Try.func20 rfl rfl ?_; conv => whnf
  (repeat' (first | (refine Sp.mk (fun hs => ?_) (fun hs => ?_) <;> first | (exfalso; omega) | (conv => whnf)) | (refine Ar.i (by omega) ?_; conv => whnf) | (refine NewS.mk (fun _ => ?_); conv => whnf) | (refine QuoS.nn (by omega) ?_; conv => whnf) | (refine RemS.nn (by omega) ?_; conv => whnf) | (refine QuietS.mk (by as_aux_lemma => kernel_rfl) ?_; conv => whnf) | refine RetS.mk (fun w' hS => ?_)))
  · exact ⟨rfl, hS.below⟩
  refine ⟨rfl, CallS.own (fun w' hS => drawLeave_any w' ⟨hS.arg hb.1, hb.2⟩ hn) (fun y hy => ?_)⟩
  obtain ⟨⟨A1, c1, l⟩, t⟩ := y
  obtain ⟨h13, hcap, hs1, hs2⟩ := hy
  dsimp only [LnD.v] at h13 hcap hs1 hs2 ⊢
  conv => whnf
  refine NewS.mk (fun g0 => ?_)
  conv => whnf
  have hsm := leave_small l t
  refine ⟨rfl, CallS.own (fun w' hS => iLeave_any t w' (St.line hS 0 rfl (by omega))) (fun y1 hy1 => ?_)⟩
  conv => whnf
  refine NewS.mk (fun g1 => ?_)
  conv => whnf
  refine ⟨rfl, CallS.own (fun w' hS => sLeave_any t w' (St.line hS 0 rfl (by omega))) (fun y2 hy2 => ?_)⟩
  conv => whnf
  refine NewS.mk (fun g2 => ?_)
  conv => whnf
  refine ⟨rfl, CallS.ro (fun w' hS => laws_equalLine_any w' (St.line hS 1 rfl (by omega)) (St.line hS 2 rfl (by omega))) ?_⟩
  conv => whnf
  cases hd : decide (leaveOk l t)
  · conv => whnf
    (repeat' (first | (refine Sp.mk (fun hs => ?_) (fun hs => ?_) <;> first | (exfalso; omega) | (conv => whnf)) | (refine Ar.i (by omega) ?_; conv => whnf) | (refine NewS.mk (fun _ => ?_); conv => whnf) | (refine QuoS.nn (by omega) ?_; conv => whnf) | (refine RemS.nn (by omega) ?_; conv => whnf) | (refine QuietS.mk (by as_aux_lemma => kernel_rfl) ?_; conv => whnf) | refine RetS.mk (fun w' hS => ?_)))
    refine ⟨rfl, CallS.ro (fun w' hS => laws_equalLine_any w' (St.line hS 1 rfl (by omega)) (St.line hS 2 rfl (by omega))) ?_⟩
    conv => whnf
    (repeat' (first | (refine Sp.mk (fun hs => ?_) (fun hs => ?_) <;> first | (exfalso; omega) | (conv => whnf)) | (refine Ar.i (by omega) ?_; conv => whnf) | (refine NewS.mk (fun _ => ?_); conv => whnf) | (refine QuoS.nn (by omega) ?_; conv => whnf) | (refine RemS.nn (by omega) ?_; conv => whnf) | (refine QuietS.mk (by as_aux_lemma => kernel_rfl) ?_; conv => whnf) | refine RetS.mk (fun w' hS => ?_)))
    exact ⟨rfl, hS.below⟩
  have hk := of_decide_eq_true hd
  have hok := ok_leave hk
  rw [leaveD_ok hk] at hy1 hsm ⊢
  generalize hm0 : leaveL l t = m0 at hok hy1 hsm ⊢
  have e3 : waitL m0 = wait m0 := waitL_ok hok
  have hw12 := (wait_length hok).2
  conv => whnf
  (repeat' (first | (refine Sp.mk (fun hs => ?_) (fun hs => ?_) <;> first | (exfalso; omega) | (conv => whnf)) | (refine Ar.i (by omega) ?_; conv => whnf) | (refine NewS.mk (fun _ => ?_); conv => whnf) | (refine QuoS.nn (by omega) ?_; conv => whnf) | (refine RemS.nn (by omega) ?_; conv => whnf) | refine RetS.mk (fun w' hS => ?_)))
  refine ⟨rfl, CallS.ownF (fun w' hS => iWaiting_any w' (St.line hS 1 rfl (by omega))) (fun y3 b3 w3 hy3 hF3 => ?_)⟩
  rw [e3] at hy3 hF3 ⊢
  have hga : 0 < (wait m0).length → ∃ ga, y3.1 = some ⟨ga, 0, none⟩ := fun h => row_some hF3 h
  conv => whnf
  refine LoopS.same (okS w []) [(2, 2), (10, 16), (60, 105)] [10] rfl (fun k : Nat => [I64 k]) (fun k => k ≤ (wait m0).length) (fun k => (wait m0).length - k) 0 (by omega) ⟨rfl, trivial⟩ (LbTo.self rfl) (fun k g hkk => ?_)
  conv => whnf
  refine Sp.mk (fun h => ?_) (fun h => ?_) <;> conv => whnf
  rotate_left
  · (repeat' (first | (refine Sp.mk (fun hs => ?_) (fun hs => ?_) <;> first | (exfalso; omega) | (conv => whnf)) | (refine Ar.i (by omega) ?_; conv => whnf) | (refine NewS.mk (fun _ => ?_); conv => whnf) | (refine QuoS.nn (by omega) ?_; conv => whnf) | (refine RemS.nn (by omega) ?_; conv => whnf) | refine RetS.mk (fun w' hS => ?_)))
    exact ⟨rfl, hS.below⟩
  obtain ⟨ga, hga⟩ := hga (by omega)
  have hkl : k < (wait m0).length := by omega
  obtain ⟨u, hu⟩ : ∃ u, (wait m0)[k]? = some u := ⟨_, List.getElem?_eq_getElem hkl⟩
  have cell : ∀ (w' : World) lb' rs', Eng.St w [] lb' rs' w' → rs'[3]? = some (rowOf 3 1 y3.1 (wait m0).length y3.2 (i64s (wait m0))) → w'.cell? ((⟨ga, 0, none⟩ : Addr).add k) = some (.int .i64 u) := fun w' lb' rs' hS hi => by
    obtain ⟨ad', e, hc⟩ := (hS.rowR (List.mem_of_getElem? hi)).2 (by omega)
    rw [hga] at e
    simp only [Option.some.injEq] at e
    subst e
    have := hc k (.int .i64 u) (by simp [i64s, hu])
    simpa using this
  obtain ⟨q1, q2, q3, q4⟩ := law_leaveOrder (u := u) hk (by rw [hm0]; exact List.mem_of_getElem? hu)
  have hl1 := gone_length (ok_leave q1)
  have hl2 := gone_length (ok_leave q2)
  rw [hm0] at q1 q4 hl1
  generalize hm1 : leaveL l u = m1 at q3 q4 hl2
  generalize hm2 : leaveL m0 u = m2 at q4 hl1
  refine DrawS.all (.first 0 (.first 1 (.first 2 (.first 3 (.first 4 (.alt 5 (.first 6 (.first 7 (.first 8 (.one 9 (.one 10 (.first 11 (.done))))))) (.alt 9 (.one 5 (.first 6 (.first 7 (.first 8 (.one 10 (.first 11 (.done))))))) (.stop)))))))) (by as_aux_lemma => kernel_rfl) (LbTo.self rfl) ?_
  conv => whnf
  repeat' (first | (refine StS.mk rfl (RsTo.sub (by simp)) ?_; conv => whnf) | (refine AltS.mk ?_ ?_ <;> conv => whnf) | exact trivial | (refine NewS.mk (fun g7 => ?_); conv => whnf) | (refine IdxS.at_ k hga rfl hkl ?_; conv => whnf) | (refine LdS.at_ (v := .int .i64 u) (fun w' hS => cell w' _ _ hS rfl) ?_; conv => whnf) | (refine DrawS.all (.first 0 (.first 1 (.first 2 (.first 3 (.first 4 (.alt 5 (.first 6 (.first 7 (.first 8 (.one 9 (.one 10 (.first 11 (.done))))))) (.alt 9 (.one 5 (.first 6 (.first 7 (.first 8 (.one 10 (.first 11 (.done))))))) (.stop)))))))) (by as_aux_lemma => kernel_rfl) (LbTo.self rfl) ?_; conv => whnf) | (have g6 := hy6; refine ⟨rfl, CallS.ro (fun w' hS => laws_equalLine_any w' (St.line hS 4 rfl (by omega)) (St.line hS 6 rfl (by omega))) ?_⟩; conv => whnf) | (have g5 := hy5; refine ⟨rfl, CallS.own (fun w' hS => iLeaveZ_any t w' q3 q4.symm (St.line hS 5 rfl (by omega))) (fun y6 hy6 => ?_)⟩; conv => whnf) | (have g4 := hy4; refine ⟨rfl, CallS.own (fun w' hS => iLeaveZ_any u w' q2 hm1 (St.line hS 0 rfl (by omega))) (fun y5 hy5 => ?_)⟩; conv => whnf) | (refine ⟨rfl, CallS.own (fun w' hS => iLeaveZ_any u w' q1 hm2 (St.line hS 1 rfl (by omega))) (fun y4 hy4 => ?_)⟩; conv => whnf) | (refine Ar.i (by omega) ?_; conv => whnf))
  all_goals exact ⟨k + 1, by omega, by omega, ⟨rfl, trivial⟩, ⟨rfl, (LbTo.self rfl).ok⟩, RsTo.sub (by simp)⟩
end Go.Proofs.Ytmojlnfadjnhgaa
