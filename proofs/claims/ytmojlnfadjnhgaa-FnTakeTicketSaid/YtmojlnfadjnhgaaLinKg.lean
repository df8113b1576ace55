/- FnTakeTicket; conditions: none. -/
import Derived.Test.YtmojlnfadjnhgaaLinK
set_option maxRecDepth 100000
set_option linter.unusedVariables false
set_option linter.unusedSimpArgs false
namespace Go.Proofs.Ytmojlnfadjnhgaa
open Eng Go Go.RowKit

theorem lawTake (w : World) {A : Option Addr} {n c : Nat} {bs : List Int} (hb : Bytes w A n bs) (hn : n ≤ c) :
    Calls Try.prog 15 #[.slice A n c] w fun e w' => e = .returned (.bool true) ∧ Below w.heap.size w w' := by
  refine enter (C := cxS w []) (okS w []) (St.start w) Try.func15 rfl rfl ?_; conv => whnf
  (repeat' (first | (refine Sp.mk (fun hs => ?_) (fun hs => ?_) <;> first | (exfalso; omega) | (conv => whnf)) | (refine Ar.i (by omega) ?_; conv => whnf) | (refine NewS.mk (fun _ => ?_); conv => whnf) | (refine QuoS.nn (by omega) ?_; conv => whnf) | (refine RemS.nn (by omega) ?_; conv => whnf) | (refine QuietS.mk (by as_aux_lemma => kernel_rfl) ?_; conv => whnf) | refine RetS.mk (fun w' hS => ?_)))
  · exact ⟨rfl, hS.below⟩
  refine ⟨rfl, CallS.own (fun w' hS => spec_DrawTakeTicket_any w' ⟨hS.arg hb.1, hb.2⟩ hn) (fun y hy => ?_)⟩
  obtain ⟨A1, c1, l⟩ := y
  obtain ⟨h13, hcap, hs1, hs2⟩ := hy
  dsimp only [LnD.v] at h13 hcap hs1 hs2 ⊢
  conv => whnf
  refine NewS.mk (fun g0 => ?_)
  conv => whnf
  have hsm := take_small l
  refine ⟨rfl, CallS.own (fun w' hS => iTake_any w' (St.line hS 0 rfl (by omega))) (fun y1 hy1 => ?_)⟩
  conv => whnf
  refine NewS.mk (fun g1 => ?_)
  conv => whnf
  refine ⟨rfl, CallS.own (fun w' hS => sTake_any w' (St.line hS 0 rfl (by omega))) (fun y2 hy2 => ?_)⟩
  conv => whnf
  refine NewS.mk (fun g2 => ?_)
  conv => whnf
  refine ⟨rfl, CallS.ro (fun w' hS => laws_equalLine_any w' (St.line hS 1 rfl (by omega)) (St.line hS 2 rfl (by omega))) ?_⟩
  conv => whnf
  cases hd : decide (takeOk l)
  · conv => whnf
    (repeat' (first | (refine Sp.mk (fun hs => ?_) (fun hs => ?_) <;> first | (exfalso; omega) | (conv => whnf)) | (refine Ar.i (by omega) ?_; conv => whnf) | (refine NewS.mk (fun _ => ?_); conv => whnf) | (refine QuoS.nn (by omega) ?_; conv => whnf) | (refine RemS.nn (by omega) ?_; conv => whnf) | (refine QuietS.mk (by as_aux_lemma => kernel_rfl) ?_; conv => whnf) | refine RetS.mk (fun w' hS => ?_)))
    refine ⟨rfl, CallS.ro (fun w' hS => laws_equalLine_any w' (St.line hS 1 rfl (by omega)) (St.line hS 2 rfl (by omega))) ?_⟩
    conv => whnf
    (repeat' (first | (refine Sp.mk (fun hs => ?_) (fun hs => ?_) <;> first | (exfalso; omega) | (conv => whnf)) | (refine Ar.i (by omega) ?_; conv => whnf) | (refine NewS.mk (fun _ => ?_); conv => whnf) | (refine QuoS.nn (by omega) ?_; conv => whnf) | (refine RemS.nn (by omega) ?_; conv => whnf) | (refine QuietS.mk (by as_aux_lemma => kernel_rfl) ?_; conv => whnf) | refine RetS.mk (fun w' hS => ?_)))
    exact ⟨rfl, hS.below⟩
  have hk := of_decide_eq_true hd
  obtain ⟨e1, e2, _⟩ := take_yes hk
  rw [e1] at hy1 hsm ⊢
  rw [e2]
  have hok2 := ok_take hk
  have hw := wait_take hk.1
  have e3 : waitL (takeL l) = wait l ++ [l.n] := by rw [waitL_ok hok2, hw]
  have e4 : waitL l = wait l := waitL_ok hk.1
  have hlen : (wait l ++ [l.n]).length = (wait l).length + 1 := by simp
  have hw12 := (wait_length hk.1).2
  have hx : (wait l ++ [l.n])[(wait l).length]? = some l.n := by simp
  conv => whnf
  (repeat' (first | (refine Sp.mk (fun hs => ?_) (fun hs => ?_) <;> first | (exfalso; omega) | (conv => whnf)) | (refine Ar.i (by omega) ?_; conv => whnf) | (refine NewS.mk (fun _ => ?_); conv => whnf) | (refine QuoS.nn (by omega) ?_; conv => whnf) | (refine RemS.nn (by omega) ?_; conv => whnf) | refine RetS.mk (fun w' hS => ?_)))
  refine ⟨rfl, CallS.ownF (fun w' hS => iWaiting_any w' (St.line hS 1 rfl (by omega))) (fun y3 b3 w3 hy3 hF3 => ?_)⟩
  rw [e3, hlen] at hy3 hF3 ⊢
  obtain ⟨⟨ga, hga⟩⟩ : Nonempty (∃ g, y3.1 = some ⟨g, 0, none⟩) := ⟨row_some hF3 (by omega)⟩
  rw [hga] at hF3 ⊢
  conv => whnf
  refine DrawS.all (.first 0 (.first 1 (.first 2 (.first 3 (.first 4 (.first 5 (.first 6 (.first 7 (.first 8 (.first 9 (.first 10 (.first 11 (.first 12 (.first 13 (.first 14 (.first 15 (.first 16 (.first 17 (.first 18 (.first 19 (.first 20 (.first 21 (.first 22 (.first 23 (.first 24 (.first 25 (.one 26 (.one 27 (.first 28 (.first 29 (.first 30 (.one 31 (.first 32 (.first 33 (.done))))))))))))))))))))))))))))))))))) (by as_aux_lemma => kernel_rfl) (LbTo.self rfl) ?_
  conv => whnf
  refine Sp.mk (fun _ => ?_) (fun h => absurd rfl h)
  conv => whnf
  refine Sp.mk (fun _ => ?_) (fun h => absurd (by omega) h)
  conv => whnf
  refine Ar.i (by omega) ?_
  conv => whnf
  refine IdxS.at_ (wait l).length rfl (by omega) (by omega) ?_
  conv => whnf
  refine LdS.at_ (v := .int .i64 l.n) (fun w' hS => ?_) ?_
  · obtain ⟨ad', e, hc⟩ := (hS.rowR (List.mem_of_getElem? (i := 3) rfl)).2 (by omega)
    simp only [Option.some.injEq] at e
    subst e
    have := hc (wait l).length (.int .i64 l.n) (by simp [i64s])
    simpa using this
  conv => whnf
  refine Sp.mk (fun _ => ?_) (fun h => absurd rfl h)
  conv => whnf
  refine Ar.i (by omega) ?_
  conv => whnf
  refine SlcS.hi (wait l).length (by omega) (by omega) ?_
  conv => whnf
  refine ⟨rfl, CallS.ownF (fun w' hS => iWaiting_any w' (St.line hS 0 rfl (by omega))) (fun y4 b4 w4 hy4 hF4 => ?_)⟩
  rw [e4] at hy4 hF4 ⊢
  conv => whnf
  refine StS.mk rfl (RsTo.sub (by simp)) ?_
  conv => whnf
  refine ⟨rfl, CallS.pt rfl (fun w' hS => laws_equalInts_any w' (by have h := IntsL.take (St.intsR hS (l := wait l ++ [l.n]) 3 rfl (by omega)) (k := (wait l).length) (by omega); rwa [List.take_left] at h) (St.intsR hS 4 rfl (by omega))) ?_⟩
  conv => whnf
  try (refine StS.mk rfl (RsTo.sub (by simp)) ?_; conv => whnf)
  refine ⟨rfl, CallS.pt hok2 (fun w' hS => impl_ValidLine_any w' (St.line hS 1 rfl (by omega))) ?_⟩
  conv => whnf
  try (refine StS.mk rfl (RsTo.sub (by simp)) ?_; conv => whnf)
  (repeat' (first | (refine Sp.mk (fun hs => ?_) (fun hs => ?_) <;> first | (exfalso; omega) | (conv => whnf)) | (refine Ar.i (by omega) ?_; conv => whnf) | (refine NewS.mk (fun _ => ?_); conv => whnf) | (refine QuoS.nn (by omega) ?_; conv => whnf) | (refine RemS.nn (by omega) ?_; conv => whnf) | refine RetS.mk (fun w' hS => ?_)))
  exact ⟨rfl, hS.below⟩
end Go.Proofs.Ytmojlnfadjnhgaa
