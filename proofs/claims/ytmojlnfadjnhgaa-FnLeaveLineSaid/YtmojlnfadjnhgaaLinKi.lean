/- FnLeaveLine; conditions: none. -/
import Derived.Test.YtmojlnfadjnhgaaLinK
set_option maxRecDepth 100000
set_option linter.unusedVariables false
set_option linter.unusedSimpArgs false
namespace Go.Proofs.Ytmojlnfadjnhgaa
open Eng Go Go.RowKit

def wo (g : List Int) (t : Int) (k : Nat) : List Int := (g.take k).filter (fun x => decide (x ≠ t))
theorem wo_succ {g : List Int} {t x : Int} {k : Nat} (h : g[k]? = some x) : wo g t (k + 1) = wo g t k ++ (if x ≠ t then [x] else []) := by
  unfold wo
  rw [take_snoc h, List.filter_append]
  by_cases hx : x ≠ t
  · rw [if_pos hx, List.filter_cons_of_pos (by simpa using hx)]; rfl
  · rw [if_neg hx, List.filter_cons_of_neg (by simpa using hx)]; rfl
theorem wo_len (g : List Int) (t : Int) (k : Nat) : (wo g t k).length ≤ k := by
  have h1 := List.length_filter_le (fun x => decide (x ≠ t)) (g.take k)
  have h2 := List.length_take_le k g
  unfold wo
  omega
theorem without_any {A : Option Addr} {m c : Nat} {g : List Int} (t : Int) (w : World) (hL : IntsL w A m g) :
    Calls Try.prog 37 #[.slice A m c, .int .i64 t] w fun e w' => ∃ y : Option Addr × Nat, (g.filter (fun x => decide (x ≠ t))).length ≤ y.2 ∧ e = .returned (.slice y.1 (g.filter (fun x => decide (x ≠ t))).length y.2) ∧ Below w.heap.size w w' ∧ Fresh w.heap.size [rowOf 3 1 y.1 (g.filter (fun x => decide (x ≠ t))).length y.2 (i64s (g.filter (fun x => decide (x ≠ t))))] w' := by
  have hm2 := hL.le
  have hml := hL.len
  have hw : g.filter (fun x => decide (x ≠ t)) = wo g t m := by unfold wo; rw [← hml, List.take_length]
  rw [hw]
  refine enter (C := cxS w []) (okS w []) (St.start w) Try.func37 rfl rfl ?_; conv => whnf
  refine NewS.mk (fun g1 => ?_)
  conv => whnf
  refine LoopS.rows (okS w []) [(5, 6), (8, 26)] [5, 6] rfl (fun s : Nat × Option Addr × Nat => [.slice s.2.1 (wo g t s.1).length s.2.2, I64 s.1]) (fun s => [rowOf 3 1 s.2.1 (wo g t s.1).length s.2.2 (i64s (wo g t s.1))])
    (fun s => s.1 ≤ m ∧ (wo g t s.1).length ≤ s.2.2) (fun s => m - s.1) (0, some ⟨g1, 0, none⟩, 0) ⟨by omega, by simp [wo]⟩ ⟨rfl, rfl, trivial⟩ (LbTo.refl_nil _) (RsTo.norm (i := 0) (A := some ⟨g1, 0, none⟩) (n := 0) (c := 0) (xs := []) rfl) (fun s gg ⟨hk, hm⟩ => ?_)
  obtain ⟨k, A1, c1⟩ := s
  dsimp only at hk hm ⊢
  have hlen := wo_len g t k
  conv => whnf
  refine Sp.mk (fun h => ?_) (fun h => ?_) <;> conv => whnf
  · obtain ⟨ad, x, rfl, hx, _, hc⟩ := hL.at_ (k := k) (by omega)
    have hsucc := wo_succ (t := t) hx
    refine IdxS.at_ k rfl rfl (by omega) ?_
    conv => whnf
    refine LdS.at_ (v := .int .i64 x) (fun w' hS => hS.cell0 hc) ?_
    conv => whnf
    refine Sp.mk (fun h3 => ?_) (fun h3 => ?_) <;> conv => whnf
    · rw [if_neg (fun h => h h3), List.append_nil] at hsucc
      (repeat' (first | (refine Sp.mk (fun hs => ?_) (fun hs => ?_) <;> first | (exfalso; omega) | (conv => whnf)) | (refine Ar.i (by omega) ?_; conv => whnf) | (refine NewS.mk (fun _ => ?_); conv => whnf) | (refine QuoS.nn (by omega) ?_; conv => whnf) | (refine RemS.nn (by omega) ?_; conv => whnf) | (refine QuietS.mk (by as_aux_lemma => kernel_rfl) ?_; conv => whnf) | refine RetS.mk (fun w' hS => ?_)))
      refine ⟨(k + 1, A1, c1), ⟨by dsimp only; omega, by dsimp only; rw [hsucc]; exact hm⟩, by dsimp only; omega, ⟨congrArg (fun q : List Int => SV.v (Value.slice A1 q.length c1)) hsucc.symm, rfl, trivial⟩, LbTo.refl_nil _, ?_⟩
      dsimp only
      rw [hsucc]
      exact RsTo.refl _
    · rw [if_pos h3] at hsucc
      have e2 : (wo g t (k + 1)).length = (wo g t k).length + 1 := by rw [hsucc, List.length_append]; rfl
      refine IdxS.at_ k rfl rfl (by omega) ?_
      conv => whnf
      refine LdS.at_ (v := .int .i64 x) (fun w' hS => hS.cell0 hc) ?_
      conv => whnf
      (repeat' (first | (refine Sp.mk (fun hs => ?_) (fun hs => ?_) <;> first | (exfalso; omega) | (conv => whnf)) | (refine Ar.i (by omega) ?_; conv => whnf) | (refine NewS.mk (fun _ => ?_); conv => whnf) | (refine QuoS.nn (by omega) ?_; conv => whnf) | (refine RemS.nn (by omega) ?_; conv => whnf) | refine RetS.mk (fun w' hS => ?_)))
      refine SemS.appG (okS w []) (i := 0) rfl rfl (by decide) rfl (fun w' hS => St.row hS (e := 3) (xs := [.int .i64 x]) (List.mem_of_getElem? (i := 1) rfl)) (by simp [isOne]) (by simp only [maxLen]; omega) (by simp only; omega) (fun A2 c2 hc2 => ?_)
      conv => whnf
      (repeat' (first | (refine Sp.mk (fun hs => ?_) (fun hs => ?_) <;> first | (exfalso; omega) | (conv => whnf)) | (refine Ar.i (by omega) ?_; conv => whnf) | (refine NewS.mk (fun _ => ?_); conv => whnf) | (refine QuoS.nn (by omega) ?_; conv => whnf) | (refine RemS.nn (by omega) ?_; conv => whnf) | (refine QuietS.mk (by as_aux_lemma => kernel_rfl) ?_; conv => whnf) | refine RetS.mk (fun w' hS => ?_)))
      refine ⟨(k + 1, A2, c2), ⟨by dsimp only; omega, by dsimp only; rw [e2]; exact hc2⟩, by dsimp only; omega, ⟨congrArg (fun m => SV.v (Value.slice A2 m c2)) e2.symm, rfl, trivial⟩, LbTo.refl_nil _, ?_⟩
      have e3 : i64s (wo g t (k + 1)) = i64s (wo g t k) ++ [.int .i64 x] := by rw [hsucc, i64s, List.map_append]; rfl
      dsimp only
      rw [e2, e3]
      exact RsTo.sub (List.sublist_append_left [_] [_])
  · have hkN : k = m := by omega
    subst hkN
    (repeat' (first | (refine Sp.mk (fun hs => ?_) (fun hs => ?_) <;> first | (exfalso; omega) | (conv => whnf)) | (refine Ar.i (by omega) ?_; conv => whnf) | (refine NewS.mk (fun _ => ?_); conv => whnf) | (refine QuoS.nn (by omega) ?_; conv => whnf) | (refine RemS.nn (by omega) ?_; conv => whnf) | refine RetS.mk (fun w' hS => ?_)))
    exact ⟨(A1, c1), hm, rfl, hS.below, hS.fresh (List.Sublist.refl _)⟩

theorem lawLeave (w : World) {A : Option Addr} {n c : Nat} {bs : List Int} (hb : Bytes w A n bs) (hn : n ≤ c) :
    Calls Try.prog 5 #[.slice A n c] w fun e w' => e = .returned (.bool true) ∧ Below w.heap.size w w' := by
  refine enter (C := cxS w []) (okS w []) (St.start w) Try.func5 rfl rfl ?_; conv => whnf
  (repeat' (first | (refine Sp.mk (fun hs => ?_) (fun hs => ?_) <;> first | (exfalso; omega) | (conv => whnf)) | (refine Ar.i (by omega) ?_; conv => whnf) | (refine NewS.mk (fun _ => ?_); conv => whnf) | (refine QuoS.nn (by omega) ?_; conv => whnf) | (refine RemS.nn (by omega) ?_; conv => whnf) | (refine QuietS.mk (by as_aux_lemma => kernel_rfl) ?_; conv => whnf) | refine RetS.mk (fun w' hS => ?_)))
  · exact ⟨rfl, hS.below⟩
  refine ⟨rfl, CallS.own (fun w' hS => drawLeave_any w' ⟨hS.arg hb.1, hb.2⟩ hn) (fun y hy => ?_)⟩
  obtain ⟨⟨A1, c1, l⟩, t⟩ := y
  obtain ⟨h13, hcap, hs1, hs2⟩ := hy
  dsimp only [LnD.v] at h13 hcap hs1 hs2 ⊢
  conv => whnf
  refine NewS.mk (fun g0 => ?_)
  conv => whnf
  have hsm := leave_small l t
  refine ⟨rfl, CallS.own (fun w' hS => iLeave_any t w' (St.line hS 0 rfl (by omega))) (fun y1 hy1 => ?_)⟩
  conv => whnf
  refine NewS.mk (fun g1 => ?_)
  conv => whnf
  refine ⟨rfl, CallS.own (fun w' hS => sLeave_any t w' (St.line hS 0 rfl (by omega))) (fun y2 hy2 => ?_)⟩
  conv => whnf
  refine NewS.mk (fun g2 => ?_)
  conv => whnf
  refine ⟨rfl, CallS.ro (fun w' hS => laws_equalLine_any w' (St.line hS 1 rfl (by omega)) (St.line hS 2 rfl (by omega))) ?_⟩
  conv => whnf
  cases hd : decide (leaveOk l t)
  · conv => whnf
    (repeat' (first | (refine Sp.mk (fun hs => ?_) (fun hs => ?_) <;> first | (exfalso; omega) | (conv => whnf)) | (refine Ar.i (by omega) ?_; conv => whnf) | (refine NewS.mk (fun _ => ?_); conv => whnf) | (refine QuoS.nn (by omega) ?_; conv => whnf) | (refine RemS.nn (by omega) ?_; conv => whnf) | (refine QuietS.mk (by as_aux_lemma => kernel_rfl) ?_; conv => whnf) | refine RetS.mk (fun w' hS => ?_)))
    refine ⟨rfl, CallS.ro (fun w' hS => laws_equalLine_any w' (St.line hS 1 rfl (by omega)) (St.line hS 2 rfl (by omega))) ?_⟩
    conv => whnf
    (repeat' (first | (refine Sp.mk (fun hs => ?_) (fun hs => ?_) <;> first | (exfalso; omega) | (conv => whnf)) | (refine Ar.i (by omega) ?_; conv => whnf) | (refine NewS.mk (fun _ => ?_); conv => whnf) | (refine QuoS.nn (by omega) ?_; conv => whnf) | (refine RemS.nn (by omega) ?_; conv => whnf) | (refine QuietS.mk (by as_aux_lemma => kernel_rfl) ?_; conv => whnf) | refine RetS.mk (fun w' hS => ?_)))
    exact ⟨rfl, hS.below⟩
  have hk := of_decide_eq_true hd
  have hok := ok_leave hk
  have hl3 := gone_length hok
  rw [leaveD_ok hk] at hy1 hsm ⊢
  have e3 : waitL (leaveL l t) = (wait l).filter (fun x => decide (x ≠ t)) := by rw [waitL_ok hok, wait_leave hk]
  have e4 : waitL l = wait l := waitL_ok hk.1
  have hw12 := (wait_length hk.1).2
  have hf12 := List.length_filter_le (fun x => decide (x ≠ t)) (wait l)
  conv => whnf
  (repeat' (first | (refine Sp.mk (fun hs => ?_) (fun hs => ?_) <;> first | (exfalso; omega) | (conv => whnf)) | (refine Ar.i (by omega) ?_; conv => whnf) | (refine NewS.mk (fun _ => ?_); conv => whnf) | (refine QuoS.nn (by omega) ?_; conv => whnf) | (refine RemS.nn (by omega) ?_; conv => whnf) | refine RetS.mk (fun w' hS => ?_)))
  refine ⟨rfl, CallS.own (fun w' hS => iLeave_any t w' (St.line hS 1 rfl (by omega))) (fun y3 hy3 => ?_)⟩
  unfold leaveR
  rw [decide_eq_false (law_leaveAgain hk)]
  conv => whnf
  refine NewS.mk (fun g3 => ?_)
  conv => whnf
  refine DrawS.all (.first 0 (.first 2 (.first 4 (.one 1 (.one 3 (.one 5 (.one 6 (.first 7 (.first 8 (.first 9 (.first 10 (.first 11 (.first 12 (.one 13 (.first 14 (.first 15 (.done))))))))))))))))) (by as_aux_lemma => kernel_rfl) (LbTo.self rfl) ?_
  conv => whnf
  refine ⟨rfl, CallS.own (fun w' hS => iWaiting_any w' (St.line hS 1 rfl (by omega))) (fun y4 hy4 => ?_)⟩
  conv => whnf
  refine StS.mk rfl (RsTo.sub (by simp)) ?_
  conv => whnf
  refine ⟨rfl, CallS.own (fun w' hS => iWaiting_any w' (St.line hS 0 rfl (by omega))) (fun y5 hy5 => ?_)⟩
  conv => whnf
  refine StS.mk rfl (RsTo.sub (by simp)) ?_
  conv => whnf
  refine ⟨rfl, CallS.own (fun w' hS => without_any t w' (St.intsR hS (l := waitL l) 5 rfl (by rw [e4]; omega))) (fun y6 hy6 => ?_)⟩
  conv => whnf
  refine StS.mk rfl (RsTo.sub (by simp)) ?_
  conv => whnf
  refine ⟨rfl, CallS.pt (by rw [e3, e4]) (fun w' hS => laws_equalInts_any w' (St.intsR hS 4 rfl (by rw [e3]; omega)) (St.intsR hS 6 rfl (by rw [e4]; omega))) ?_⟩
  conv => whnf
  try (refine StS.mk rfl (RsTo.sub (by simp)) ?_; conv => whnf)
  refine ⟨rfl, CallS.pt hok (fun w' hS => impl_ValidLine_any w' (St.line hS 1 rfl (by omega))) ?_⟩
  conv => whnf
  try (refine StS.mk rfl (RsTo.sub (by simp)) ?_; conv => whnf)
  (repeat' (first | (refine Sp.mk (fun hs => ?_) (fun hs => ?_) <;> first | (exfalso; omega) | (conv => whnf)) | (refine Ar.i (by omega) ?_; conv => whnf) | (refine NewS.mk (fun _ => ?_); conv => whnf) | (refine QuoS.nn (by omega) ?_; conv => whnf) | (refine RemS.nn (by omega) ?_; conv => whnf) | refine RetS.mk (fun w' hS => ?_)))
  exact ⟨rfl, hS.below⟩
end Go.Proofs.Ytmojlnfadjnhgaa
