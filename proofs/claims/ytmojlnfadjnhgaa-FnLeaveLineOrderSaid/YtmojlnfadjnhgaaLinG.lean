/- Tickets called and places in line, of both packages; conditions: none. -/
import Derived.Test.YtmojlnfadjnhgaaLinF
set_option maxRecDepth 100000
set_option linter.unusedVariables false
set_option linter.unusedSimpArgs false
namespace Go.Proofs.Ytmojlnfadjnhgaa
open Eng Go Go.RowKit

def callD (l : LineD) : LineD := if callOk l then callL l else zeroL
def callN (l : LineD) : Int := if callOk l then first (wait l) else -1
def callR (l : LineD) (y : Option Addr × Nat) : Value := .tuple #[.agg (lineV (callD l) y.1 y.2).toArray, .int .i64 (callN l), .bool (decide (callOk l))]
theorem call_no {l : LineD} {w w' : World} (h : ¬ callOk l) (hb : Below w.heap.size w w') : ∃ y : Option Addr × Nat, (callD l).g.length ≤ y.2 ∧ Ending.returned (.tuple #[.agg #[.int .i64 0, .int .i64 0, .slice none 0 0], .int .i64 (-1), .bool false]) = .returned (callR l y) ∧ Below w.heap.size w w' ∧ Fresh w.heap.size [gRow (callD l) y.1 y.2] w' := by
  have e1 : callD l = zeroL := if_neg h
  have e2 : callN l = -1 := if_neg h
  unfold callR
  rw [e1, e2, decide_eq_false h]
  exact ⟨(none, 0), Nat.le_refl _, rfl, hb, Fresh.empty _ _ _ _ _⟩
theorem callNext1_any (x t : Int) (a : Addr) (w : World) (ha : w.cell? a = some (.int .i64 t)) :
    Calls Try.prog 71 #[.int .i64 x, .pointer (some a)] w fun e w' => e = .returned (.bool (decide (x ≤ t))) ∧ Below w.heap.size w w' := by
  refine enter (C := cxS w []) (okS w []) (St.start w) Try.func71 rfl rfl ?_; conv => whnf
  refine LdS.at_ (fun w2 hS => hS.cell0 ha) ?_
  conv => whnf
  (repeat' (first | (refine Sp.mk (fun hs => ?_) (fun hs => ?_) <;> first | (exfalso; omega) | (conv => whnf)) | (refine Ar.i (by omega) ?_; conv => whnf) | (refine NewS.mk (fun _ => ?_); conv => whnf) | (refine QuoS.nn (by omega) ?_; conv => whnf) | (refine RemS.nn (by omega) ?_; conv => whnf) | (refine QuietS.mk (by as_aux_lemma => kernel_rfl) ?_; conv => whnf) | refine RetS.mk (fun w' hS => ?_)))
  · exact ⟨by rw [decide_eq_true (by assumption)], hS.below⟩
  · exact ⟨by rw [decide_eq_false (by assumption)], hS.below⟩
theorem filter_lt (l : List Int) (t : Int) : l.filter (fun x => !decide (x ≤ t)) = l.filter (fun x => decide (t < x)) := by
  congr 1
  funext x
  by_cases h : t < x
  · rw [decide_eq_true h, decide_eq_false (by omega)]; rfl
  · rw [decide_eq_false h, decide_eq_true (by omega)]; rfl

theorem iCall_any {A : Option Addr} {c : Nat} {l : LineD} (w : World) (hL : LineR w A l) :
    Calls Try.prog 40 #[.agg (lineV l A c).toArray] w fun e w' => ∃ y : Option Addr × Nat, (callD l).g.length ≤ y.2 ∧ e = .returned (callR l y) ∧ Below w.heap.size w w' ∧ Fresh w.heap.size [gRow (callD l) y.1 y.2] w' := by
  refine enter (C := cxS w []) (okS w []) (St.start w) Try.func40 rfl rfl ?_; conv => whnf
  refine NewS.mk (fun g0 => ?_)
  conv => whnf
  refine NewS.mk (fun g1 => ?_)
  conv => whnf
  refine ⟨rfl, CallS.p (fun w' hS => impl_ValidLine_any w' (hL.below hS.below)) (fun hok => ?_) (fun hok => ?_)⟩ <;> conv => whnf
  rotate_left
  · (repeat' (first | (refine Sp.mk (fun hs => ?_) (fun hs => ?_) <;> first | (exfalso; omega) | (conv => whnf)) | (refine Ar.i (by omega) ?_; conv => whnf) | (refine NewS.mk (fun _ => ?_); conv => whnf) | (refine QuoS.nn (by omega) ?_; conv => whnf) | (refine RemS.nn (by omega) ?_; conv => whnf) | refine RetS.mk (fun w' hS => ?_)))
    exact call_no (fun h => hok h.1) hS.below
  have hwl := (wait_length hok).2
  have hgl := gone_length hok
  have h1 := hok.1
  have h2 := hok.2.1
  refine ⟨rfl, CallS.own (fun w' hS => wi_any w' (hL.below hS.below) hok) (fun y hy => ?_)⟩
  conv => whnf
  refine Sp.mk (fun h0 => ?_) (fun h0 => ?_) <;> conv => whnf
  · (repeat' (first | (refine Sp.mk (fun hs => ?_) (fun hs => ?_) <;> first | (exfalso; omega) | (conv => whnf)) | (refine Ar.i (by omega) ?_; conv => whnf) | (refine NewS.mk (fun _ => ?_); conv => whnf) | (refine QuoS.nn (by omega) ?_; conv => whnf) | (refine RemS.nn (by omega) ?_; conv => whnf) | refine RetS.mk (fun w' hS => ?_)))
    exact call_no (fun h => h.2 (List.eq_nil_of_length_eq_zero (by omega))) hS.below
  obtain ⟨t, r, hw⟩ : ∃ t r, wait l = t :: r := by
    cases hw : wait l with
    | nil => rw [hw] at h0; exact absurd rfl h0
    | cons t r => exact ⟨t, r, rfl⟩
  have hC : callOk l := ⟨hok, by rw [hw]; simp⟩
  have ht : first (wait l) = t := by rw [hw]; rfl
  have htr := mem_wait.1 (show t ∈ wait l by rw [hw]; simp)
  refine ⟨rfl, CallS.ownF (fun w' hS => wi_any w' (hL.below hS.below) hok) (fun y2 b2 w2 hy2 hF2 => ?_)⟩
  obtain ⟨A2, c2⟩ := y2
  obtain ⟨ga, rfl⟩ := row_some hF2 (by rw [hw]; simp)
  conv => whnf
  refine IdxS.at_ 0 rfl rfl (by rw [hw]; simp) ?_
  conv => whnf
  refine LdS.at_ (v := .int .i64 t) (fun w' hS => ?_) ?_
  · obtain ⟨ad', e, hc⟩ := (hS.rowR (List.mem_of_getElem? (i := 1) rfl)).2 (by rw [hw]; simp)
    simp only [Option.some.injEq] at e
    subst e
    exact hc 0 _ (by rw [hw]; rfl)
  conv => whnf
  refine NewS.mk (fun g2 => ?_)
  conv => whnf
  refine ⟨rfl, CallS.own (fun w' hS => cloneS_int_any w' (hL.below hS.below).rd (i64s_one _) hL.le) (fun y3 hy3 => ?_)⟩
  conv => whnf
  obtain ⟨F, hF⟩ : ∃ F, F = l.g.filter (fun x => !decide (x ≤ t)) := ⟨_, rfl⟩
  have hFl : F.length ≤ l.g.length := by rw [hF]; exact List.length_filter_le _ _
  have hFc : callL l = ⟨t + 1, l.n, F⟩ := by unfold callL; rw [ht, hF, filter_lt]
  refine ⟨rfl, CallS.updR (i := 2) (α := List Value) (r := fun _ => .slice y3.1 F.length y3.2) (φ := fun _ => True) (xs := i64s l.g) (ys := fun tl => i64s F ++ tl) rfl (fun w' hS => by
    rw [hF]
    exact deleteFunc_any (q := fun x => decide (x ≤ t)) w' (by omega) (hS.own _ (List.mem_of_getElem? (i := 2) rfl)).1 ⟨rfl, fun w2 hp x => callNext1_any x t _ w2 (hp.cell (box_cell0 hS 2 rfl rfl) (box_row_ne hS 2 2 rfl rfl))⟩) (fun tl _ => ?_)⟩
  conv => whnf
  have e1 : callD l = ⟨t + 1, l.n, F⟩ := by rw [callD, if_pos hC, hFc]
  have e2 : callN l = t := by rw [callN, if_pos hC, ht]
  have hread : ∀ w', Reads w' 1 y3.1 l.g.length (i64s F ++ tl) → Reads w' 1 y3.1 F.length (i64s F) := fun w' h => by
    have h3 := Reads.pre h hFl
    rw [Nat.mul_one, List.take_append_of_le_length (by rw [i64s_len]; omega), List.take_of_length_le (by rw [i64s_len]; omega)] at h3
    exact h3
  refine DrawS.plan (.first 2 (.first 4 (.alt 0 (.first 1 (.alt 3 (.alt 5 (.first 6 (.alt 7 (.one 8 (.first 9 (.first 10 (.done)))) (.alt 8 (.one 7 (.first 9 (.first 10 (.done)))) (.stop)))) (.alt 7 (.one 5 (.first 6 (.one 8 (.first 9 (.first 10 (.done)))))) (.stop))) (.alt 5 (.alt 3 (.first 6 (.alt 7 (.one 8 (.first 9 (.first 10 (.done)))) (.alt 8 (.one 7 (.first 9 (.first 10 (.done)))) (.stop)))) (.alt 7 (.one 3 (.first 6 (.one 8 (.first 9 (.first 10 (.done)))))) (.stop))) (.alt 7 (.alt 3 (.one 5 (.first 6 (.one 8 (.first 9 (.first 10 (.done)))))) (.alt 5 (.one 3 (.first 6 (.one 8 (.first 9 (.first 10 (.done)))))) (.stop))) (.stop))))) (.alt 3 (.alt 0 (.first 1 (.alt 5 (.first 6 (.alt 7 (.one 8 (.first 9 (.first 10 (.done)))) (.alt 8 (.one 7 (.first 9 (.first 10 (.done)))) (.stop)))) (.alt 7 (.one 5 (.first 6 (.one 8 (.first 9 (.first 10 (.done)))))) (.stop)))) (.alt 5 (.alt 0 (.first 1 (.first 6 (.alt 7 (.one 8 (.first 9 (.first 10 (.done)))) (.alt 8 (.one 7 (.first 9 (.first 10 (.done)))) (.stop))))) (.alt 7 (.one 0 (.first 1 (.first 6 (.one 8 (.first 9 (.first 10 (.done))))))) (.stop))) (.alt 7 (.alt 0 (.first 1 (.one 5 (.first 6 (.one 8 (.first 9 (.first 10 (.done))))))) (.alt 5 (.one 0 (.first 1 (.first 6 (.one 8 (.first 9 (.first 10 (.done))))))) (.stop))) (.stop)))) (.alt 5 (.alt 0 (.first 1 (.alt 3 (.first 6 (.alt 7 (.one 8 (.first 9 (.first 10 (.done)))) (.alt 8 (.one 7 (.first 9 (.first 10 (.done)))) (.stop)))) (.alt 7 (.one 3 (.first 6 (.one 8 (.first 9 (.first 10 (.done)))))) (.stop)))) (.alt 3 (.alt 0 (.first 1 (.first 6 (.alt 7 (.one 8 (.first 9 (.first 10 (.done)))) (.alt 8 (.one 7 (.first 9 (.first 10 (.done)))) (.stop))))) (.alt 7 (.one 0 (.first 1 (.first 6 (.one 8 (.first 9 (.first 10 (.done))))))) (.stop))) (.alt 7 (.alt 0 (.first 1 (.one 3 (.first 6 (.one 8 (.first 9 (.first 10 (.done))))))) (.alt 3 (.one 0 (.first 1 (.first 6 (.one 8 (.first 9 (.first 10 (.done))))))) (.stop))) (.stop)))) (.alt 7 (.alt 0 (.first 1 (.alt 3 (.one 5 (.first 6 (.one 8 (.first 9 (.first 10 (.done)))))) (.alt 5 (.one 3 (.first 6 (.one 8 (.first 9 (.first 10 (.done)))))) (.stop)))) (.alt 3 (.alt 0 (.first 1 (.one 5 (.first 6 (.one 8 (.first 9 (.first 10 (.done))))))) (.alt 5 (.one 0 (.first 1 (.first 6 (.one 8 (.first 9 (.first 10 (.done))))))) (.stop))) (.alt 5 (.alt 0 (.first 1 (.one 3 (.first 6 (.one 8 (.first 9 (.first 10 (.done))))))) (.alt 3 (.one 0 (.first 1 (.first 6 (.one 8 (.first 9 (.first 10 (.done))))))) (.stop))) (.stop)))) (.stop))))))) (by as_aux_lemma => kernel_rfl) [] [] (LbTo.refl_nil _) (RsTo.sub (List.nil_sublist _)) ?_
  conv => whnf
  repeat' (first | (refine StS.mk rfl (RsTo.sub (List.nil_sublist _)) ?_; conv => whnf) | (refine AltS.mk ?_ ?_ <;> conv => whnf) | exact trivial | (refine Ar.i (by omega) ?_; conv => whnf) | (refine ⟨rfl, CallS.own (fun w' hS => clone_int_any w' (hread w' (hS.rowR (List.mem_of_getElem? (i := 2) rfl))) (i64s_one _) (by omega)) (fun A4 _ => ?_)⟩; conv => whnf) | refine RetS.mk (fun w' hS => ?_))
  all_goals
    unfold callR
    rw [e1, e2, decide_eq_true hC]
    exact ⟨(A4, F.length), Nat.le_refl _, rfl, hS.below, hS.fresh (List.Sublist.cons _ (List.Sublist.cons _ (List.Sublist.cons _ (List.Sublist.refl _))))⟩

theorem sCall_any {A : Option Addr} {c : Nat} {l : LineD} (w : World) (hL : LineR w A l) :
    Calls Try.prog 41 #[.agg (lineV l A c).toArray] w fun e w' => ∃ y : Option Addr × Nat, (callD l).g.length ≤ y.2 ∧ e = .returned (callR l y) ∧ Below w.heap.size w w' ∧ Fresh w.heap.size [gRow (callD l) y.1 y.2] w' := by
  refine enter (C := cxS w []) (okS w []) (St.start w) Try.func41 rfl rfl ?_; conv => whnf
  refine NewS.mk (fun g0 => ?_)
  conv => whnf
  refine NewS.mk (fun g1 => ?_)
  conv => whnf
  refine ⟨rfl, CallS.p (fun w' hS => spec_validLine_any w' (hL.below hS.below)) (fun hok => ?_) (fun hok => ?_)⟩ <;> conv => whnf
  rotate_left
  · (repeat' (first | (refine Sp.mk (fun hs => ?_) (fun hs => ?_) <;> first | (exfalso; omega) | (conv => whnf)) | (refine Ar.i (by omega) ?_; conv => whnf) | (refine NewS.mk (fun _ => ?_); conv => whnf) | (refine QuoS.nn (by omega) ?_; conv => whnf) | (refine RemS.nn (by omega) ?_; conv => whnf) | refine RetS.mk (fun w' hS => ?_)))
    exact call_no (fun h => hok h.1) hS.below
  have hwl := (wait_length hok).2
  have hgl := gone_length hok
  have h1 := hok.1
  have h2 := hok.2.1
  refine ⟨rfl, CallS.own (fun w' hS => ws_any w' (hL.below hS.below) hok) (fun y hy => ?_)⟩
  conv => whnf
  refine Sp.mk (fun h0 => ?_) (fun h0 => ?_) <;> conv => whnf
  · (repeat' (first | (refine Sp.mk (fun hs => ?_) (fun hs => ?_) <;> first | (exfalso; omega) | (conv => whnf)) | (refine Ar.i (by omega) ?_; conv => whnf) | (refine NewS.mk (fun _ => ?_); conv => whnf) | (refine QuoS.nn (by omega) ?_; conv => whnf) | (refine RemS.nn (by omega) ?_; conv => whnf) | refine RetS.mk (fun w' hS => ?_)))
    exact call_no (fun h => h.2 (List.eq_nil_of_length_eq_zero (by omega))) hS.below
  obtain ⟨t, r, hw⟩ : ∃ t r, wait l = t :: r := by
    cases hw : wait l with
    | nil => rw [hw] at h0; exact absurd rfl h0
    | cons t r => exact ⟨t, r, rfl⟩
  have hC : callOk l := ⟨hok, by rw [hw]; simp⟩
  have ht : first (wait l) = t := by rw [hw]; rfl
  have htr := mem_wait.1 (show t ∈ wait l by rw [hw]; simp)
  refine ⟨rfl, CallS.ownF (fun w' hS => ws_any w' (hL.below hS.below) hok) (fun y2 b2 w2 hy2 hF2 => ?_)⟩
  obtain ⟨A2, c2⟩ := y2
  obtain ⟨ga, rfl⟩ := row_some hF2 (by rw [hw]; simp)
  conv => whnf
  refine IdxS.at_ 0 rfl rfl (by rw [hw]; simp) ?_
  conv => whnf
  refine LdS.at_ (v := .int .i64 t) (fun w' hS => ?_) ?_
  · obtain ⟨ad', e, hc⟩ := (hS.rowR (List.mem_of_getElem? (i := 1) rfl)).2 (by rw [hw]; simp)
    simp only [Option.some.injEq] at e
    subst e
    exact hc 0 _ (by rw [hw]; rfl)
  conv => whnf
  refine Ar.i (by omega) ?_
  conv => whnf
  refine NewS.mk (fun g3 => ?_)
  conv => whnf
  refine NewS.mk (fun g2 => ?_)
  conv => whnf
  refine LoopS.rule (okS w []) [(7, 7), (28, 51)] [7] rfl (fun s : Nat × Option Addr × Nat => [I64 s.1]) (fun s => [⟨g0, 25, (lineV l A c).map .v⟩, ⟨g1, 25, (lineV zeroL none 0).map .v⟩, ⟨g2, 25, (lineV ⟨t + 1, l.n, (l.g.take s.1).filter (fun x => decide (t < x))⟩ s.2.1 s.2.2).map .v⟩])
    (fun s => [rowOf 3 1 s.2.1 ((l.g.take s.1).filter (fun x => decide (t < x))).length s.2.2 (i64s ((l.g.take s.1).filter (fun x => decide (t < x))))])
    (fun s => s.1 ≤ l.g.length ∧ ((l.g.take s.1).filter (fun x => decide (t < x))).length ≤ s.2.2) (fun s => l.g.length - s.1) (0, some ⟨g3, 0, none⟩, 0) (fun s => rfl) ⟨by omega, Nat.le_refl _⟩ ⟨rfl, trivial⟩
    ⟨rfl, (LbTo.self rfl).ok⟩ ((RsTo.sub (List.Sublist.cons _ (List.Sublist.cons _ (List.Sublist.refl _)))).trans (RsTo.norm (i := 0) (A := some ⟨g3, 0, none⟩) (n := 0) (c := 0) (xs := []) rfl)) (fun s g ⟨hk, hm3⟩ => ?_)
  obtain ⟨k, A1, c1⟩ := s
  dsimp only at hk hm3 ⊢
  have hlen : ((l.g.take k).filter (fun x => decide (t < x))).length ≤ k := Nat.le_trans (List.length_filter_le _ _) (by rw [List.length_take]; omega)
  conv => whnf
  refine Sp.mk (fun h => ?_) (fun h => ?_) <;> conv => whnf
  · have hkl : k < l.g.length := by omega
    obtain ⟨ad, x, rfl, hx, hxm, hc⟩ := hL.at_ (k := k) hkl
    refine IdxS.at_ k rfl rfl hkl ?_
    conv => whnf
    refine LdS.at_ (fun w' hS => hS.cell0 hc) ?_
    conv => whnf
    refine Sp.mk (fun h3 => ?_) (fun h3 => ?_) <;> conv => whnf
    · have hF : (l.g.take (k + 1)).filter (fun x => decide (t < x)) = (l.g.take k).filter (fun x => decide (t < x)) ++ [x] := by rw [take_snoc hx, List.filter_append]; simp [h3]
      refine DrawS.plan (.first 0 (.first 2 (.first 4 (.alt 1 (.one 3 (.first 5 (.one 6 (.one 7 (.one 8 (.first 9 (.one 10 (.done)))))))) (.alt 3 (.first 5 (.alt 1 (.one 6 (.one 7 (.one 8 (.first 9 (.one 10 (.done)))))) (.alt 6 (.alt 1 (.one 7 (.one 8 (.first 9 (.one 10 (.done))))) (.alt 7 (.one 1 (.one 8 (.first 9 (.one 10 (.done))))) (.stop))) (.stop)))) (.stop)))))) (by as_aux_lemma => kernel_rfl) [] [] (LbTo.refl_nil _) (RsTo.sub (List.nil_sublist _)) ?_
      conv => whnf
      repeat' (first | (refine StS.mk rfl (RsTo.sub (List.nil_sublist _)) ?_; conv => whnf) | (refine AltS.mk ?_ ?_ <;> conv => whnf) | exact trivial | (refine IdxS.at_ k rfl rfl hkl ?_; conv => whnf) | (refine LdS.at_ (fun w' hS => hS.cell0 hc) ?_; conv => whnf) | (refine NewS.mk (fun g4 => ?_); conv => whnf) | (refine SemS.appG (okS w []) (i := 0) rfl rfl (by decide) rfl (fun w' hS => St.row hS (e := 3) (xs := [.int .i64 x]) (List.mem_of_getElem? (i := 1) rfl)) (by simp [isOne]) (by simp only [maxLen]; omega) (by dsimp only; omega) (fun A4 c4 hc4 => ?_); conv => whnf) | (refine Ar.i (by omega) ?_; conv => whnf))
      all_goals
        refine ⟨(k + 1, A4, c4), ⟨by dsimp only; omega, by dsimp only; rw [hF, List.length_append]; exact hc4⟩, by dsimp only; omega, ⟨rfl, trivial⟩, ?_, ?_⟩
        · dsimp only [lineV]
          rw [hF, List.length_append]
          exact ⟨rfl, (LbTo.self rfl).ok⟩
        · dsimp only
          rw [hF, ← i64s_snoc, List.length_append]
          exact RsTo.sub (List.sublist_append_left [_] [_])
    · have hF : (l.g.take (k + 1)).filter (fun x => decide (t < x)) = (l.g.take k).filter (fun x => decide (t < x)) := by rw [take_snoc hx, List.filter_append]; simp; omega
      refine Ar.i (by omega) ?_
      conv => whnf
      refine ⟨(k + 1, A1, c1), ⟨by dsimp only; omega, by dsimp only; rw [hF]; exact hm3⟩, by dsimp only; omega, ⟨rfl, trivial⟩, ?_, ?_⟩
      · dsimp only
        rw [hF]
        exact ⟨rfl, (LbTo.self rfl).ok⟩
      · dsimp only
        rw [hF]
        exact RsTo.refl _
  · have hkl : l.g.take k = l.g := List.take_of_length_le (by omega)
    rw [hkl] at hm3 ⊢
    have e1 : callD l = ⟨t + 1, l.n, l.g.filter (fun x => decide (t < x))⟩ := by rw [callD, if_pos hC, callL, ht]
    have e2 : callN l = t := by rw [callN, if_pos hC, ht]
    conv => whnf
    (repeat' (first | (refine Sp.mk (fun hs => ?_) (fun hs => ?_) <;> first | (exfalso; omega) | (conv => whnf)) | (refine Ar.i (by omega) ?_; conv => whnf) | (refine NewS.mk (fun _ => ?_); conv => whnf) | (refine QuoS.nn (by omega) ?_; conv => whnf) | (refine RemS.nn (by omega) ?_; conv => whnf) | refine RetS.mk (fun w' hS => ?_)))
    unfold callR
    rw [e1, e2, decide_eq_true hC]
    exact ⟨(A1, c1), hm3, rfl, hS.below, hS.fresh (List.Sublist.refl _)⟩

/-! ### Places in line -/
theorem iPlace_any {A : Option Addr} {c : Nat} {l : LineD} (t : Int) (w : World) (hL : LineR w A l) :
    Calls Try.prog 43 #[.agg (lineV l A c).toArray, .int .i64 t] w fun e w' => e = .returned (.int .i64 (place l t)) ∧ Below w.heap.size w w' := by
  have hlen : (waitL l).length ≤ 12 := by
    unfold waitL
    split
    · rename_i h; exact (wait_length h).2
    · simp
  have hp : place l t = idxI (waitL l) t 0 := by
    unfold place waitL
    split <;> rfl
  refine enter (C := cxS w []) (okS w []) (St.start w) Try.func43 rfl rfl ?_; conv => whnf
  (repeat' (first | (refine Sp.mk (fun hs => ?_) (fun hs => ?_) <;> first | (exfalso; omega) | (conv => whnf)) | (refine Ar.i (by omega) ?_; conv => whnf) | (refine NewS.mk (fun _ => ?_); conv => whnf) | (refine QuoS.nn (by omega) ?_; conv => whnf) | (refine RemS.nn (by omega) ?_; conv => whnf) | refine RetS.mk (fun w' hS => ?_)))
  refine ⟨rfl, CallS.own (fun w' hS => iWaiting_any w' (hL.below hS.below)) (fun y hy => ?_)⟩
  conv => whnf
  refine ⟨rfl, CallS.ro (fun w' hS => index_any t w' (St.intsR hS 0 rfl (by omega))) ?_⟩
  conv => whnf
  (repeat' (first | (refine Sp.mk (fun hs => ?_) (fun hs => ?_) <;> first | (exfalso; omega) | (conv => whnf)) | (refine Ar.i (by omega) ?_; conv => whnf) | (refine NewS.mk (fun _ => ?_); conv => whnf) | (refine QuoS.nn (by omega) ?_; conv => whnf) | (refine RemS.nn (by omega) ?_; conv => whnf) | refine RetS.mk (fun w' hS => ?_)))
  exact ⟨by rw [hp], hS.below⟩
theorem sPlace_any {A : Option Addr} {c : Nat} {l : LineD} (t : Int) (w : World) (hL : LineR w A l) :
    Calls Try.prog 42 #[.agg (lineV l A c).toArray, .int .i64 t] w fun e w' => e = .returned (.int .i64 (place l t)) ∧ Below w.heap.size w w' := by
  refine enter (C := cxS w []) (okS w []) (St.start w) Try.func42 rfl rfl ?_; conv => whnf
  (repeat' (first | (refine Sp.mk (fun hs => ?_) (fun hs => ?_) <;> first | (exfalso; omega) | (conv => whnf)) | (refine Ar.i (by omega) ?_; conv => whnf) | (refine NewS.mk (fun _ => ?_); conv => whnf) | (refine QuoS.nn (by omega) ?_; conv => whnf) | (refine RemS.nn (by omega) ?_; conv => whnf) | refine RetS.mk (fun w' hS => ?_)))
  refine ⟨rfl, CallS.p (fun w' hS => spec_validLine_any w' (hL.below hS.below)) (fun hok => ?_) (fun hok => ?_)⟩ <;> conv => whnf
  rotate_left
  · (repeat' (first | (refine Sp.mk (fun hs => ?_) (fun hs => ?_) <;> first | (exfalso; omega) | (conv => whnf)) | (refine Ar.i (by omega) ?_; conv => whnf) | (refine NewS.mk (fun _ => ?_); conv => whnf) | (refine QuoS.nn (by omega) ?_; conv => whnf) | (refine RemS.nn (by omega) ?_; conv => whnf) | refine RetS.mk (fun w' hS => ?_)))
    exact ⟨by rw [place, if_neg hok], hS.below⟩
  have hwl := (wait_length hok).2
  have hp : place l t = idxI (wait l) t 0 := if_pos hok
  rw [hp]
  refine ⟨rfl, CallS.own (fun w' hS => ws_any w' (hL.below hS.below) hok) (fun y hy => ?_)⟩
  conv => whnf
  refine ⟨rfl, CallS.p (fun w' hS => spec_isIn_any t w' (St.intsR hS 0 rfl (by omega))) (fun hm => ?_) (fun hm => ?_)⟩ <;> conv => whnf
  rotate_left
  · (repeat' (first | (refine Sp.mk (fun hs => ?_) (fun hs => ?_) <;> first | (exfalso; omega) | (conv => whnf)) | (refine Ar.i (by omega) ?_; conv => whnf) | (refine NewS.mk (fun _ => ?_); conv => whnf) | (refine QuoS.nn (by omega) ?_; conv => whnf) | (refine RemS.nn (by omega) ?_; conv => whnf) | refine RetS.mk (fun w' hS => ?_)))
    exact ⟨by rw [idxI_none hm], hS.below⟩
  obtain ⟨j, hj⟩ := List.getElem?_of_mem hm
  have hjl : j < (wait l).length := (List.getElem?_eq_some_iff.1 hj).1
  have hidx := idxI_at (k := 0) (asc_wait l) hj
  refine ⟨rfl, CallS.ownF (fun w' hS => ws_any w' (hL.below hS.below) hok) (fun y2 b2 w2 hy2 hF2 => ?_)⟩
  obtain ⟨A2, c2⟩ := y2
  obtain ⟨ga, rfl⟩ := row_some hF2 (by omega)
  conv => whnf
  refine LoopS.same (okS w []) [(5, 5), (19, 26)] [5] rfl (fun k : Nat => [I64 k]) (fun k => k ≤ j) (fun k => j - k) 0 (by omega) ⟨rfl, trivial⟩ (LbTo.self rfl) (fun k g hk => ?_)
  obtain ⟨x, hx⟩ : ∃ x, (wait l)[k]? = some x := ⟨_, List.getElem?_eq_getElem (by omega)⟩
  conv => whnf
  refine IdxS.at_ k rfl rfl (by omega) ?_
  conv => whnf
  refine LdS.at_ (v := .int .i64 x) (fun w' hS => ?_) ?_
  · obtain ⟨ad', e, hc⟩ := (hS.rowR (List.mem_of_getElem? (i := 1) rfl)).2 (by omega)
    simp only [Option.some.injEq] at e
    subst e
    exact hc k _ (i64s_get hx)
  conv => whnf
  refine Sp.mk (fun h => ?_) (fun h => ?_) <;> conv => whnf
  · have hkj : k < j := by
      refine Classical.byContradiction fun hn => ?_
      have : k = j := by omega
      rw [this, hj] at hx
      simp only [Option.some.injEq] at hx
      omega
    (repeat' (first | (refine Sp.mk (fun hs => ?_) (fun hs => ?_) <;> first | (exfalso; omega) | (conv => whnf)) | (refine Ar.i (by omega) ?_; conv => whnf) | (refine NewS.mk (fun _ => ?_); conv => whnf) | (refine QuoS.nn (by omega) ?_; conv => whnf) | (refine RemS.nn (by omega) ?_; conv => whnf) | refine RetS.mk (fun w' hS => ?_)))
    exact ⟨k + 1, by omega, by omega, ⟨rfl, trivial⟩, LbTo.self rfl, RsTo.refl _⟩
  · have hkj : k = j := by
      refine Classical.byContradiction fun hn => ?_
      have := (asc_wait l).lt (show k < j by omega) hx hj
      omega
    (repeat' (first | (refine Sp.mk (fun hs => ?_) (fun hs => ?_) <;> first | (exfalso; omega) | (conv => whnf)) | (refine Ar.i (by omega) ?_; conv => whnf) | (refine NewS.mk (fun _ => ?_); conv => whnf) | (refine QuoS.nn (by omega) ?_; conv => whnf) | (refine RemS.nn (by omega) ?_; conv => whnf) | refine RetS.mk (fun w' hS => ?_)))
    exact ⟨by rw [hidx, hkj]; simp, hS.below⟩
end Go.Proofs.Ytmojlnfadjnhgaa
