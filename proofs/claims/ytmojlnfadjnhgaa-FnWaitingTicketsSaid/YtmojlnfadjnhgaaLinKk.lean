/- FnWaitingTickets; conditions: none. -/
import Derived.Test.YtmojlnfadjnhgaaLinK
set_option maxRecDepth 100000
set_option linter.unusedVariables false
set_option linter.unusedSimpArgs false
namespace Go.Proofs.Ytmojlnfadjnhgaa
open Eng Go Go.RowKit

theorem lawWaiting (w : World) {A : Option Addr} {n c : Nat} {bs : List Int} (hb : Bytes w A n bs) (hn : n ≤ c) :
    Calls Try.prog 14 #[.slice A n c] w fun e w' => e = .returned (.bool true) ∧ Below w.heap.size w w' := by
  refine enter (C := cxS w []) (okS w []) (St.start w) Try.func14 rfl rfl ?_; conv => whnf
  (repeat' (first | (refine Sp.mk (fun hs => ?_) (fun hs => ?_) <;> first | (exfalso; omega) | (conv => whnf)) | (refine Ar.i (by omega) ?_; conv => whnf) | (refine NewS.mk (fun _ => ?_); conv => whnf) | (refine QuoS.nn (by omega) ?_; conv => whnf) | (refine RemS.nn (by omega) ?_; conv => whnf) | (refine QuietS.mk (by as_aux_lemma => kernel_rfl) ?_; conv => whnf) | refine RetS.mk (fun w' hS => ?_)))
  · exact ⟨rfl, hS.below⟩
  refine ⟨rfl, CallS.own (fun w' hS => spec_DrawWaitingTickets_any w' ⟨hS.arg hb.1, hb.2⟩ hn) (fun y hy => ?_)⟩
  obtain ⟨A1, c1, l⟩ := y
  obtain ⟨h13, hcap, hs1, hs2⟩ := hy
  dsimp only [LnD.v] at h13 hcap hs1 hs2 ⊢
  conv => whnf
  refine NewS.mk (fun g0 => ?_)
  conv => whnf
  have hsm := waitL_small l
  refine ⟨rfl, CallS.ownF (fun w' hS => iWaiting_any w' (St.line hS 0 rfl (by omega))) (fun y1 b1 w1 hy1 hF1 => ?_)⟩
  conv => whnf
  refine ⟨rfl, CallS.own (fun w' hS => sWaiting_any w' (St.line hS 0 rfl (by omega))) (fun y2 hy2 => ?_)⟩
  conv => whnf
  refine ⟨rfl, CallS.pt rfl (fun w' hS => laws_equalInts_any w' (St.intsR hS 1 rfl (by omega)) (St.intsR hS 2 rfl (by omega))) ?_⟩
  conv => whnf
  refine ⟨rfl, CallS.p (fun w' hS => impl_ValidLine_any w' (St.line hS 0 rfl (by omega))) (fun hv => ?_) (fun hv => ?_)⟩ <;> conv => whnf
  rotate_left
  · refine ⟨rfl, CallS.own (fun w' hS => sWaiting_any w' (St.line hS 0 rfl (by omega))) (fun y3 hy3 => ?_)⟩
    conv => whnf
    refine ⟨rfl, CallS.pt rfl (fun w' hS => laws_equalInts_any w' (St.intsR hS 1 rfl (by omega)) (St.intsR hS 3 rfl (by omega))) ?_⟩
    conv => whnf
    (repeat' (first | (refine Sp.mk (fun hs => ?_) (fun hs => ?_) <;> first | (exfalso; omega) | (conv => whnf)) | (refine Ar.i (by omega) ?_; conv => whnf) | (refine NewS.mk (fun _ => ?_); conv => whnf) | (refine QuoS.nn (by omega) ?_; conv => whnf) | (refine RemS.nn (by omega) ?_; conv => whnf) | (refine QuietS.mk (by as_aux_lemma => kernel_rfl) ?_; conv => whnf) | refine RetS.mk (fun w' hS => ?_)))
    exact ⟨rfl, hS.below⟩
  have e1 := waitL_ok hv
  have h2 := hv.1
  have h3 := hv.2.1
  have hasc := asc_wait l
  rw [e1] at hy1 hF1 hsm ⊢
  have hga : 0 < (wait l).length → ∃ ga, y1.1 = some ⟨ga, 0, none⟩ := fun h => row_some hF1 h
  obtain ⟨N, hN⟩ : ∃ N : Nat, l.n = l.s + N := ⟨(l.n - l.s).toNat, by omega⟩
  refine LoopS.same (okS w []) [(2, 2), (5, 5), (30, 43)] [5] rfl (fun k : Nat => [I64 (l.s + k)]) (fun k => k ≤ N) (fun k => N - k) 0 (by omega) ⟨congrArg (fun z => SV.v (Value.int .i64 z)) (show l.s = l.s + ((0 : Nat) : Int) by omega), trivial⟩ (LbTo.self rfl) (fun k g hk => ?_)
  conv => whnf
  refine Sp.mk (fun h => ?_) (fun h => ?_) <;> conv => whnf
  · refine DrawS.all (.first 0 (.first 1 (.first 3 (.first 4 (.first 5 (.one 2 (.one 6 (.first 7 (.done))))))))) (by as_aux_lemma => kernel_rfl) (LbTo.self rfl) ?_
    conv => whnf
    by_cases hm : l.s + (k : Int) ∈ wait l
    · refine ⟨rfl, CallS.pt hm (fun w' hS => laws_isIn_any (l.s + k) w' (St.intsR hS 1 rfl (by omega))) ?_⟩
      conv => whnf
      try (refine StS.mk rfl (RsTo.sub (by simp)) ?_; conv => whnf)
      refine ⟨rfl, CallS.pf (mem_wait.1 hm).2.2 (fun w' hS => laws_isIn_any (l.s + k) w' (St.line hS 0 rfl (by omega))) ?_⟩
      conv => whnf
      try (refine StS.mk rfl (RsTo.sub (by simp)) ?_; conv => whnf)
      refine Ar.i (by omega) ?_
      conv => whnf
      exact ⟨k + 1, by omega, by omega, ⟨congrArg (fun z => SV.v (Value.int .i64 z)) (show l.s + (k : Int) + 1 = l.s + ((k + 1 : Nat) : Int) by omega), trivial⟩, LbTo.self rfl, RsTo.refl _⟩
    · have hm2 : l.s + (k : Int) ∈ l.g := Classical.byContradiction (fun hg => hm (mem_wait.2 ⟨by omega, by omega, hg⟩))
      refine ⟨rfl, CallS.pf hm (fun w' hS => laws_isIn_any (l.s + k) w' (St.intsR hS 1 rfl (by omega))) ?_⟩
      conv => whnf
      try (refine StS.mk rfl (RsTo.sub (by simp)) ?_; conv => whnf)
      refine ⟨rfl, CallS.pt hm2 (fun w' hS => laws_isIn_any (l.s + k) w' (St.line hS 0 rfl (by omega))) ?_⟩
      conv => whnf
      try (refine StS.mk rfl (RsTo.sub (by simp)) ?_; conv => whnf)
      refine Ar.i (by omega) ?_
      conv => whnf
      exact ⟨k + 1, by omega, by omega, ⟨congrArg (fun z => SV.v (Value.int .i64 z)) (show l.s + (k : Int) + 1 = l.s + ((k + 1 : Nat) : Int) by omega), trivial⟩, LbTo.self rfl, RsTo.refl _⟩
  refine LoopS.same (okS w []) [(2, 2), (6, 6), (44, 81)] [6] rfl (fun k : Nat => [I64 k]) (fun k => k ≤ (wait l).length) (fun k => (wait l).length - k) 0 (by omega) ⟨rfl, trivial⟩ (LbTo.self rfl) (fun k g hk => ?_)
  conv => whnf
  refine Sp.mk (fun h => ?_) (fun h => ?_) <;> conv => whnf
  rotate_left
  · (repeat' (first | (refine Sp.mk (fun hs => ?_) (fun hs => ?_) <;> first | (exfalso; omega) | (conv => whnf)) | (refine Ar.i (by omega) ?_; conv => whnf) | (refine NewS.mk (fun _ => ?_); conv => whnf) | (refine QuoS.nn (by omega) ?_; conv => whnf) | (refine RemS.nn (by omega) ?_; conv => whnf) | refine RetS.mk (fun w' hS => ?_)))
    exact ⟨rfl, hS.below⟩
  obtain ⟨ga, hga⟩ := hga (by omega)
  have cell : ∀ (j : Nat) (x : Int), (wait l)[j]? = some x → ∀ (w' : World) lb' rs', Eng.St w [] lb' rs' w' → rs'[1]? = some (rowOf 3 1 y1.1 (wait l).length y1.2 (i64s (wait l))) → w'.cell? ((⟨ga, 0, none⟩ : Addr).add j) = some (.int .i64 x) := fun j x hx w' lb' rs' hS hi => by
    obtain ⟨ad', e, hc⟩ := (hS.rowR (List.mem_of_getElem? hi)).2 (by omega)
    rw [hga] at e
    simp only [Option.some.injEq] at e
    subst e
    have := hc j (.int .i64 x) (by simp [i64s, hx])
    simpa using this
  have hkl : k < (wait l).length := by omega
  obtain ⟨x, hx⟩ : ∃ x, (wait l)[k]? = some x := ⟨_, List.getElem?_eq_getElem hkl⟩
  have hxm := mem_wait.1 (List.mem_of_getElem? hx)
  refine QuietS.mk (by as_aux_lemma => kernel_rfl) ?_
  conv => whnf
  refine IdxS.at_ k hga rfl (by omega) ?_
  conv => whnf
  refine LdS.at_ (v := .int .i64 x) (fun w' hS => cell k x hx w' _ _ hS rfl) ?_
  conv => whnf
  refine Sp.mk (fun h => absurd h (by omega)) (fun _ => ?_)
  conv => whnf
  refine IdxS.at_ k hga rfl (by omega) ?_
  conv => whnf
  refine LdS.at_ (v := .int .i64 x) (fun w' hS => cell k x hx w' _ _ hS rfl) ?_
  conv => whnf
  refine Sp.mk (fun h => absurd h (by omega)) (fun _ => ?_)
  conv => whnf
  refine Sp.mk (fun h0 => ?_) (fun h0 => ?_) <;> conv => whnf
  rotate_left
  · refine Ar.i (by omega) ?_
    conv => whnf
    exact ⟨k + 1, by omega, by omega, ⟨rfl, trivial⟩, LbTo.self rfl, RsTo.refl _⟩
  obtain ⟨j, rfl⟩ : ∃ j, k = j + 1 := ⟨k - 1, by omega⟩
  obtain ⟨x0, hx0⟩ : ∃ x0, (wait l)[j]? = some x0 := ⟨_, List.getElem?_eq_getElem (by omega)⟩
  have hlt : x0 < x := by
    obtain ⟨q1, q2⟩ := List.getElem?_eq_some_iff.1 hx
    obtain ⟨q3, q4⟩ := List.getElem?_eq_some_iff.1 hx0
    rw [← q2, ← q4]
    exact List.pairwise_iff_getElem.1 hasc j (j + 1) q3 q1 (by omega)
  refine IdxS.at_ (j + 1) hga rfl (by omega) ?_
  conv => whnf
  refine LdS.at_ (v := .int .i64 x) (fun w' hS => cell _ x hx w' _ _ hS rfl) ?_
  conv => whnf
  refine Ar.i (by omega) ?_
  conv => whnf
  refine IdxS.at_ j hga (by omega) (by omega) ?_
  conv => whnf
  refine LdS.at_ (v := .int .i64 x0) (fun w' hS => cell j x0 hx0 w' _ _ hS rfl) ?_
  conv => whnf
  refine Sp.mk (fun h => absurd h (by omega)) (fun _ => ?_)
  conv => whnf
  refine Ar.i (by omega) ?_
  conv => whnf
  exact ⟨j + 1 + 1, by omega, by omega, ⟨rfl, trivial⟩, LbTo.self rfl, RsTo.refl _⟩
end Go.Proofs.Ytmojlnfadjnhgaa
