/- FnCallNextAll; conditions: none. -/
import Derived.Test.YtmojlnfadjnhgaaLinK
set_option maxRecDepth 100000
set_option linter.unusedVariables false
set_option linter.unusedSimpArgs false
namespace Go.Proofs.Ytmojlnfadjnhgaa
open Eng Go Go.RowKit

theorem RsTo.perm {rs rs2 : List Own} (h : rs.Perm rs2) : RsTo rs rs2 := fun w0 S0 lb w s =>
  { s with own := fun o ho => s.own o (h.mem_iff.2 ho), disj := ((List.Perm.append (List.Perm.refl _) (h.filterMap _)).nodup_iff).1 s.disj }

theorem lawCallAll (w : World) {A : Option Addr} {n c : Nat} {bs : List Int} (hb : Bytes w A n bs) (hn : n ≤ c) :
    Calls Try.prog 19 #[.slice A n c] w fun e w' => e = .returned (.bool true) ∧ Below w.heap.size w w' := by
  refine enter (C := cxS w []) (okS w []) (St.start w) Try.func19 rfl rfl ?_; conv => whnf
  (repeat' (first | (refine Sp.mk (fun hs => ?_) (fun hs => ?_) <;> first | (exfalso; omega) | (conv => whnf)) | (refine Ar.i (by omega) ?_; conv => whnf) | (refine NewS.mk (fun _ => ?_); conv => whnf) | (refine QuoS.nn (by omega) ?_; conv => whnf) | (refine RemS.nn (by omega) ?_; conv => whnf) | (refine QuietS.mk (by as_aux_lemma => kernel_rfl) ?_; conv => whnf) | refine RetS.mk (fun w' hS => ?_)))
  · exact ⟨rfl, hS.below⟩
  refine ⟨rfl, CallS.own (fun w' hS => spec_DrawCallNext_any w' ⟨hS.arg hb.1, hb.2⟩ hn) (fun y hy => ?_)⟩
  obtain ⟨A1, c1, l⟩ := y
  obtain ⟨h13, hcap, hs1, hs2⟩ := hy
  dsimp only [LnD.v] at h13 hcap hs1 hs2 ⊢
  conv => whnf
  refine NewS.mk (fun g0 => ?_)
  conv => whnf
  have hsm := call_small l
  refine ⟨rfl, CallS.own (fun w' hS => iCall_any w' (St.line hS 0 rfl (by omega))) (fun y1 hy1 => ?_)⟩
  conv => whnf
  refine NewS.mk (fun g1 => ?_)
  conv => whnf
  refine ⟨rfl, CallS.own (fun w' hS => sCall_any w' (St.line hS 0 rfl (by omega))) (fun y2 hy2 => ?_)⟩
  conv => whnf
  refine NewS.mk (fun g2 => ?_)
  conv => whnf
  refine ⟨rfl, CallS.ro (fun w' hS => laws_equalLine_any w' (St.line hS 1 rfl (by omega)) (St.line hS 2 rfl (by omega))) ?_⟩
  conv => whnf
  cases hd : decide (callOk l)
  · conv => whnf
    (repeat' (first | (refine Sp.mk (fun hs => ?_) (fun hs => ?_) <;> first | (exfalso; omega) | (conv => whnf)) | (refine Ar.i (by omega) ?_; conv => whnf) | (refine NewS.mk (fun _ => ?_); conv => whnf) | (refine QuoS.nn (by omega) ?_; conv => whnf) | (refine RemS.nn (by omega) ?_; conv => whnf) | (refine QuietS.mk (by as_aux_lemma => kernel_rfl) ?_; conv => whnf) | refine RetS.mk (fun w' hS => ?_)))
    refine ⟨rfl, CallS.ro (fun w' hS => laws_equalLine_any w' (St.line hS 1 rfl (by omega)) (St.line hS 2 rfl (by omega))) ?_⟩
    conv => whnf
    (repeat' (first | (refine Sp.mk (fun hs => ?_) (fun hs => ?_) <;> first | (exfalso; omega) | (conv => whnf)) | (refine Ar.i (by omega) ?_; conv => whnf) | (refine NewS.mk (fun _ => ?_); conv => whnf) | (refine QuoS.nn (by omega) ?_; conv => whnf) | (refine RemS.nn (by omega) ?_; conv => whnf) | (refine QuietS.mk (by as_aux_lemma => kernel_rfl) ?_; conv => whnf) | refine RetS.mk (fun w' hS => ?_)))
    exact ⟨rfl, hS.below⟩
  have hk := of_decide_eq_true hd
  have e4 : waitL l = wait l := waitL_ok hk.1
  have hsm3 := (wait_length hk.1).2
  have hpos : 0 < (wait l).length := List.length_pos_iff.2 hk.2
  conv => whnf
  (repeat' (first | (refine Sp.mk (fun hs => ?_) (fun hs => ?_) <;> first | (exfalso; omega) | (conv => whnf)) | (refine Ar.i (by omega) ?_; conv => whnf) | (refine NewS.mk (fun _ => ?_); conv => whnf) | (refine QuoS.nn (by omega) ?_; conv => whnf) | (refine RemS.nn (by omega) ?_; conv => whnf) | refine RetS.mk (fun w' hS => ?_)))
  refine ⟨rfl, CallS.ownF (fun w' hS => iWaiting_any w' (St.line hS 0 rfl (by omega))) (fun y3 b3 w3 hy3 hF3 => ?_)⟩
  rw [e4] at hy3 hF3 ⊢
  obtain ⟨⟨ga, hga⟩⟩ : Nonempty (∃ g, y3.1 = some ⟨g, 0, none⟩) := ⟨row_some hF3 (by omega)⟩
  rw [hga] at hF3 ⊢
  conv => whnf
  refine NewS.mk (fun g3 => ?_)
  conv => whnf
  refine LoopS.rule (okS w []) [(2, 2), (12, 15), (70, 92)] [12] rfl (fun s : Nat × LnD => [I64 s.1]) (fun s => [⟨g0, 25, (lineV l A1 c1).map .v⟩, ⟨g1, 25, (lineV (callD l) y1.1 y1.2).map .v⟩, ⟨g2, 25, (lineV (callD l) y2.1 y2.2).map .v⟩, ⟨g3, 25, (lineV s.2.l s.2.A s.2.c).map .v⟩])
    (fun s => [rowOf 3 1 (some ⟨ga, 0, none⟩) (wait l).length y3.2 (i64s (wait l)), gRow s.2.l s.2.A s.2.c])
    (fun s => s.1 ≤ (wait l).length ∧ okLine s.2.l ∧ wait s.2.l = (wait l).drop s.1) (fun s => (wait l).length - s.1) (0, ⟨A1, c1, l⟩) (fun s => rfl) ⟨by omega, hk.1, rfl⟩ ⟨rfl, trivial⟩ (LbTo.self rfl)
    ((RsTo.sub (List.Sublist.cons_cons _ (List.Sublist.cons _ (List.Sublist.cons _ (List.Sublist.cons_cons _ (List.nil_sublist _)))))).trans (RsTo.perm (List.Perm.swap _ _ _))) (fun s gg ⟨hkk, hok, hw⟩ => ?_)
  obtain ⟨k, ⟨A2, c2, m⟩⟩ := s
  dsimp only at hkk hok hw ⊢
  have hm12 := gone_length hok
  have hms := call_small m
  conv => whnf
  refine Sp.mk (fun h => ?_) (fun h => ?_) <;> conv => whnf
  rotate_left
  · have hno : ¬ callOk m := fun hc => hc.2 (by rw [hw]; exact List.drop_eq_nil_of_le (by omega))
    refine ⟨rfl, CallS.own (fun w' hS => iCall_any w' (St.line hS 1 rfl (by omega))) (fun y4 hy4 => ?_)⟩
    unfold callR
    rw [decide_eq_false hno]
    conv => whnf
    (repeat' (first | (refine Sp.mk (fun hs => ?_) (fun hs => ?_) <;> first | (exfalso; omega) | (conv => whnf)) | (refine Ar.i (by omega) ?_; conv => whnf) | (refine NewS.mk (fun _ => ?_); conv => whnf) | (refine QuoS.nn (by omega) ?_; conv => whnf) | (refine RemS.nn (by omega) ?_; conv => whnf) | refine RetS.mk (fun w' hS => ?_)))
    exact ⟨rfl, hS.below⟩
  have hkl : k < (wait l).length := by omega
  obtain ⟨x, hx⟩ : ∃ x, (wait l)[k]? = some x := ⟨_, List.getElem?_eq_getElem hkl⟩
  have hdrop : (wait l).drop k = x :: (wait l).drop (k + 1) := by
    rw [List.drop_eq_getElem_cons hkl]
    rw [List.getElem?_eq_getElem hkl] at hx
    rw [Option.some.inj hx]
  rw [hdrop] at hw
  have hyes : callOk m := ⟨hok, by rw [hw]; simp⟩
  have hN : callN m = x := by rw [callN_ok hyes, hw]; rfl
  obtain ⟨k1, k2⟩ := call_at hok hw
  refine ⟨rfl, CallS.own (fun w' hS => iCall_any w' (St.line hS 1 rfl (by omega))) (fun y4 hy4 => ?_)⟩
  unfold callR
  rw [callD_ok hyes] at hms hy4 ⊢
  rw [decide_eq_true hyes, hN]
  conv => whnf
  refine NewS.mk (fun g4 => ?_)
  conv => whnf
  refine IdxS.at_ k rfl rfl hkl ?_
  conv => whnf
  refine LdS.at_ (v := .int .i64 x) (fun w' hS => ?_) ?_
  · obtain ⟨ad', e, hc⟩ := (hS.rowR (List.mem_of_getElem? (i := 0) rfl)).2 (by omega)
    simp only [Option.some.injEq] at e
    subst e
    have := hc k (.int .i64 x) (by simp [i64s, hx])
    simpa using this
  conv => whnf
  refine Sp.mk (fun _ => ?_) (fun h => absurd rfl h)
  conv => whnf
  refine Ar.i (by omega) ?_
  conv => whnf
  exact ⟨(k + 1, ⟨y4.1, y4.2, callL m⟩), ⟨by dsimp only; omega, k1, k2⟩, by dsimp only; omega, ⟨rfl, trivial⟩, ⟨rfl, (LbTo.self rfl).ok⟩, RsTo.sub (List.Sublist.cons_cons _ (List.Sublist.cons _ (List.Sublist.refl _)))⟩
end Go.Proofs.Ytmojlnfadjnhgaa
