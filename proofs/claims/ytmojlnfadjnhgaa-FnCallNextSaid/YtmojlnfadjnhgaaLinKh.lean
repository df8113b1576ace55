/- FnCallNext; conditions: none. -/
import Derived.Test.YtmojlnfadjnhgaaLinK
set_option maxRecDepth 100000
set_option linter.unusedVariables false
set_option linter.unusedSimpArgs false
namespace Go.Proofs.Ytmojlnfadjnhgaa
open Eng Go Go.RowKit

theorem lawCall (w : World) {A : Option Addr} {n c : Nat} {bs : List Int} (hb : Bytes w A n bs) (hn : n ≤ c) :
    Calls Try.prog 18 #[.slice A n c] w fun e w' => e = .returned (.bool true) ∧ Below w.heap.size w w' := by
  refine enter (C := cxS w []) (okS w []) (St.start w) Try.func18 rfl rfl ?_; conv => whnf
  (repeat' (first | (refine Sp.mk (fun hs => ?_) (fun hs => ?_) <;> first | (exfalso; omega) | (conv => whnf)) | (refine Ar.i (by omega) ?_; conv => whnf) | (refine NewS.mk (fun _ => ?_); conv => whnf) | (refine QuoS.nn (by omega) ?_; conv => whnf) | (refine RemS.nn (by omega) ?_; conv => whnf) | (refine QuietS.mk (by as_aux_lemma => kernel_rfl) ?_; conv => whnf) | refine RetS.mk (fun w' hS => ?_)))
  · exact ⟨rfl, hS.below⟩
  refine ⟨rfl, CallS.own (fun w' hS => spec_DrawCallNext_any w' ⟨hS.arg hb.1, hb.2⟩ hn) (fun y hy => ?_)⟩
  obtain ⟨A1, c1, l⟩ := y
  obtain ⟨h13, hcap, hs1, hs2⟩ := hy
  dsimp only [LnD.v] at h13 hcap hs1 hs2 ⊢
  conv => whnf
  refine NewS.mk (fun g0 => ?_)
  conv => whnf
  have hsm := call_small l
  refine ⟨rfl, CallS.own (fun w' hS => iCall_any w' (St.line hS 0 rfl (by omega))) (fun y1 hy1 => ?_)⟩
  conv => whnf
  refine NewS.mk (fun g1 => ?_)
  conv => whnf
  refine ⟨rfl, CallS.own (fun w' hS => sCall_any w' (St.line hS 0 rfl (by omega))) (fun y2 hy2 => ?_)⟩
  conv => whnf
  refine NewS.mk (fun g2 => ?_)
  conv => whnf
  refine ⟨rfl, CallS.ro (fun w' hS => laws_equalLine_any w' (St.line hS 1 rfl (by omega)) (St.line hS 2 rfl (by omega))) ?_⟩
  conv => whnf
  cases hd : decide (callOk l)
  · conv => whnf
    (repeat' (first | (refine Sp.mk (fun hs => ?_) (fun hs => ?_) <;> first | (exfalso; omega) | (conv => whnf)) | (refine Ar.i (by omega) ?_; conv => whnf) | (refine NewS.mk (fun _ => ?_); conv => whnf) | (refine QuoS.nn (by omega) ?_; conv => whnf) | (refine RemS.nn (by omega) ?_; conv => whnf) | (refine QuietS.mk (by as_aux_lemma => kernel_rfl) ?_; conv => whnf) | refine RetS.mk (fun w' hS => ?_)))
    refine ⟨rfl, CallS.ro (fun w' hS => laws_equalLine_any w' (St.line hS 1 rfl (by omega)) (St.line hS 2 rfl (by omega))) ?_⟩
    conv => whnf
    (repeat' (first | (refine Sp.mk (fun hs => ?_) (fun hs => ?_) <;> first | (exfalso; omega) | (conv => whnf)) | (refine Ar.i (by omega) ?_; conv => whnf) | (refine NewS.mk (fun _ => ?_); conv => whnf) | (refine QuoS.nn (by omega) ?_; conv => whnf) | (refine RemS.nn (by omega) ?_; conv => whnf) | (refine QuietS.mk (by as_aux_lemma => kernel_rfl) ?_; conv => whnf) | refine RetS.mk (fun w' hS => ?_)))
    exact ⟨rfl, hS.below⟩
  have hk := of_decide_eq_true hd
  have hsm3 := waitL_small l
  rw [callD_ok hk] at hy1 hsm ⊢
  rw [callN_ok hk]
  obtain ⟨hok, hne⟩ := hk
  obtain ⟨x, r, hw⟩ : ∃ x r, wait l = x :: r := by
    cases e : wait l with
    | nil => exact absurd e hne
    | cons x r => exact ⟨x, r, rfl⟩
  have hk : callOk l := ⟨hok, hne⟩
  obtain ⟨k1, k2⟩ := call_at hok hw
  have e3 : waitL (callL l) = r := by rw [waitL_ok k1, k2]
  have e4 : waitL l = x :: r := by rw [waitL_ok hok, hw]
  have hx0 : first (wait l) = x := by rw [hw]; rfl
  have hlen : (x :: r).length = r.length + 1 := rfl
  have hxb : 0 ≤ x ∧ x ≤ 1000 := by
    have h1 := hok.1
    have h2 := hok.2.1
    have h3 := mem_wait.1 (show x ∈ wait l by rw [hw]; simp)
    omega
  rw [e4, hlen] at hsm3
  rw [hx0]
  conv => whnf
  (repeat' (first | (refine Sp.mk (fun hs => ?_) (fun hs => ?_) <;> first | (exfalso; omega) | (conv => whnf)) | (refine Ar.i (by omega) ?_; conv => whnf) | (refine NewS.mk (fun _ => ?_); conv => whnf) | (refine QuoS.nn (by omega) ?_; conv => whnf) | (refine RemS.nn (by omega) ?_; conv => whnf) | refine RetS.mk (fun w' hS => ?_)))
  refine ⟨rfl, CallS.ownF (fun w' hS => iWaiting_any w' (St.line hS 0 rfl (by omega))) (fun y3 b3 w3 hy3 hF3 => ?_)⟩
  rw [e4, hlen] at hy3 hF3 ⊢
  obtain ⟨⟨ga, hga⟩⟩ : Nonempty (∃ g, y3.1 = some ⟨g, 0, none⟩) := ⟨row_some hF3 (by omega)⟩
  rw [hga] at hF3 ⊢
  conv => whnf
  refine DrawS.all (.first 0 (.first 1 (.first 2 (.first 3 (.first 4 (.first 5 (.first 6 (.first 7 (.first 8 (.first 9 (.first 10 (.first 11 (.first 13 (.first 14 (.one 12 (.one 15 (.first 16 (.first 17 (.first 18 (.first 19 (.first 20 (.first 21 (.first 22 (.first 23 (.first 24 (.first 25 (.one 26 (.first 27 (.first 28 (.done)))))))))))))))))))))))))))))) (by as_aux_lemma => kernel_rfl) (LbTo.self rfl) ?_
  conv => whnf
  refine Sp.mk (fun _ => ?_) (fun h => absurd (by omega) h)
  conv => whnf
  refine IdxS.at_ 0 rfl rfl (by omega) ?_
  conv => whnf
  refine LdS.at_ (v := .int .i64 x) (fun w' hS => ?_) ?_
  · obtain ⟨ad', e, hc⟩ := (hS.rowR (List.mem_of_getElem? (i := 3) rfl)).2 (by omega)
    simp only [Option.some.injEq] at e
    subst e
    exact hc 0 _ rfl
  conv => whnf
  refine Sp.mk (fun _ => ?_) (fun h => absurd rfl h)
  conv => whnf
  refine SlcS.lo 1 rfl (by omega) hy3 ?_
  conv => whnf
  refine ⟨rfl, CallS.ownF (fun w' hS => iWaiting_any w' (St.line hS 1 rfl (by omega))) (fun y4 b4 w4 hy4 hF4 => ?_)⟩
  rw [e3] at hy4 hF4 ⊢
  conv => whnf
  refine StS.mk rfl (RsTo.sub (by simp)) ?_
  conv => whnf
  refine ⟨rfl, CallS.pt rfl (fun w' hS => laws_equalInts_any w' (St.intsR hS 4 rfl (by omega)) (by
    have h3 := (hS.rowR (List.mem_of_getElem? (i := 3) rfl)).cut (l := 1) (hh := r.length + 1) (m := y3.2) (by omega) (Nat.le_refl _) hy3
    have e : ((i64s (x :: r)).drop (1 * 1)).take ((r.length + 1 - 1) * 1) = i64s r := by
      simp only [i64s, List.map_cons, Nat.one_mul, List.drop_succ_cons, List.drop_zero, Nat.add_sub_cancel, Nat.mul_one]
      exact List.take_of_length_le (by simp)
    rw [e] at h3
    exact ⟨h3, by omega⟩)) ?_⟩
  conv => whnf
  try (refine StS.mk rfl (RsTo.sub (by simp)) ?_; conv => whnf)
  refine Ar.i (by omega) ?_
  conv => whnf
  refine Sp.mk (fun _ => ?_) (fun h => absurd (by show first (wait l) + 1 = x + 1; rw [hx0]) h)
  conv => whnf
  refine ⟨rfl, CallS.pt k1 (fun w' hS => impl_ValidLine_any w' (St.line hS 1 rfl (by omega))) ?_⟩
  conv => whnf
  try (refine StS.mk rfl (RsTo.sub (by simp)) ?_; conv => whnf)
  (repeat' (first | (refine Sp.mk (fun hs => ?_) (fun hs => ?_) <;> first | (exfalso; omega) | (conv => whnf)) | (refine Ar.i (by omega) ?_; conv => whnf) | (refine NewS.mk (fun _ => ?_); conv => whnf) | (refine QuoS.nn (by omega) ?_; conv => whnf) | (refine RemS.nn (by omega) ?_; conv => whnf) | refine RetS.mk (fun w' hS => ?_)))
  exact ⟨rfl, hS.below⟩
end Go.Proofs.Ytmojlnfadjnhgaa
