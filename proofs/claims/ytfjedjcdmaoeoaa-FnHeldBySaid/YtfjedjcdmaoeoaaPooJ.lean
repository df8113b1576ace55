/- CloseIdle, of both packages; conditions: none. -/
import Derived.Test.YtfjedjcdmaoeoaaPooI
set_option maxRecDepth 100000
set_option linter.unusedVariables false
set_option linter.unusedSimpArgs false
namespace Go.Proofs.Ytfjedjcdmaoeoaa
open Eng Go Go.RowKit

theorem sCopy_any {p : PoolD} {a : PAd} (w : World) (hP : PoolR w p a) :
    Calls Try.prog 56 #[.agg (poolV p a).toArray] w fun e w' => ∃ y : PAd, capOk p y ∧ e = .returned (.agg (poolV p y).toArray) ∧ Below w.heap.size w w' ∧ Fresh w.heap.size (pRows p y) w' := by
  have l2 := hP.h.le
  refine enter (C := cxS w []) (okS w []) (St.start w) Try.func56 rfl rfl ?_; conv => whnf
  refine NewS.mk (fun g0 => ?_)
  conv => whnf
  refine NewS.mk (fun g1 => ?_)
  conv => whnf
  refine DrawS.plan (.first 0 (.first 1 (.first 2 (.first 3 (.first 6 (.first 7 (.first 9 (.first 10 (.alt 4 (.one 5 (.one 8 (.one 11 (.first 12 (.one 13 (.done)))))) (.alt 5 (.one 4 (.one 8 (.one 11 (.first 12 (.one 13 (.done)))))) (.stop))))))))))) (by as_aux_lemma => kernel_rfl) [_] _ ⟨rfl, (LbTo.self rfl).ok⟩ (RsTo.refl _) ?_
  conv => whnf
  repeat' (first | (refine StS.mk rfl (RsTo.sub (by simp)) ?_; conv => whnf) | (refine AltS.mk ?_ ?_ <;> conv => whnf) | exact trivial | (refine NewS.mk (fun g7 => ?_); conv => whnf) | (refine SemS.appZ (okS w []) rfl rfl (by decide) (fun w' hS => (hP.h.below hS.below).rd) (holdL_one _) (by simp only [maxLen]; omega) (by simp only; omega) (fun A2 c2 hc2 => ?_); conv => whnf) | (have g2 := hc2; refine ⟨rfl, CallS.own (fun w' hS => spec_copyInts_any w' (hP.w.below hS.below)) (fun y3 hy3 => ?_)⟩; conv => whnf) | (refine ⟨rfl, CallS.own (fun w' hS => spec_copyInts_any w' (hP.i.below hS.below)) (fun y1 hy1 => ?_)⟩; conv => whnf) | refine RetS.mk (fun w' hS => ?_))
  all_goals first
    | exact ⟨⟨y1.1, A2, y3.1, y1.2, c2, y3.2⟩, ⟨hy1, hc2, hy3⟩, rfl, hS.below, hS.fresh (by simp [pRows, iRow, hRow, wRow])⟩
    | exact ⟨⟨y1.1, A2, y3.1, y1.2, c2, y3.2⟩, ⟨hy1, hc2, hy3⟩, rfl, hS.below, hS.fresh (List.Sublist.cons_cons _ (List.Sublist.cons _ (List.Sublist.refl _)))⟩
    | exact ⟨⟨y1.1, A2, y3.1, y1.2, c2, y3.2⟩, ⟨hy1, hc2, hy3⟩, rfl, hS.below, hS.fresh (List.Sublist.cons _ (List.Sublist.refl _))⟩

def zeroP : PoolD := ⟨0, [], [], []⟩
def closeOk (p : PoolD) (t : Int) : Prop := okPool p ∧ 0 ≤ t
instance instDecCloseOk (p : PoolD) (t : Int) : Decidable (closeOk p t) := by unfold closeOk; infer_instance
def closeN (p : PoolD) (t : Int) : Int := if closeOk p t then min t p.i.length else -1
def closeD (p : PoolD) (t : Int) : PoolD := if closeOk p t then closeL p (min t p.i.length).toNat else zeroP
theorem close_no {p : PoolD} {t : Int} {w w' : World} (h : ¬ closeOk p t) (hb : Below w.heap.size w w') : ∃ y : PAd, capOk (closeD p t) y ∧ Ending.returned (.tuple #[.agg #[.int .i64 0, .slice none 0 0, .slice none 0 0, .slice none 0 0], .int .i64 (-1)]) = .returned (.tuple #[.agg (poolV (closeD p t) y).toArray, .int .i64 (closeN p t)]) ∧ Below w.heap.size w w' ∧ Fresh w.heap.size (pRows (closeD p t) y) w' := by
  have e1 : closeD p t = zeroP := if_neg h
  have e2 : closeN p t = -1 := if_neg h
  rw [e1, e2]
  refine ⟨⟨none, none, none, 0, 0, 0⟩, ⟨Nat.le_refl _, Nat.le_refl _, Nat.le_refl _⟩, rfl, hb, ?_⟩
  exact ⟨fun o ho => by
    simp only [pRows, List.mem_cons, List.not_mem_nil, or_false] at ho
    rcases ho with rfl | rfl | rfl
    · exact owns_nil _ _ _ _
    · exact owns_nil _ _ _ _
    · exact owns_nil _ _ _ _, by simp [pRows, iRow, hRow, wRow, rowOf_zero, zeroP, Value.ownBlock]⟩
theorem fresh_perm {b : Nat} {os os' : List Own} {w : World} (h : Fresh b os w) (hp : os.Perm os') : Fresh b os' w := ⟨fun o ho => h.own o (hp.mem_iff.2 ho), ((hp.filterMap _).nodup_iff).1 h.apart⟩
theorem drop_reads {w : World} {A : Option Addr} {l : List Int} {N c : Nat} (h : Reads w 1 A l.length (i64s l)) (hN : N ≤ l.length) (hc : l.length ≤ c) : Reads w 1 (if c = N then A else A.map (·.add (N * 1))) (l.length - N) (i64s (l.drop N)) := by
  have h3 := h.cut (l := N) (hh := l.length) (m := c) hN (Nat.le_refl _) hc
  have e : ((i64s l).drop (N * 1)).take ((l.length - N) * 1) = i64s (l.drop N) := by
    rw [Nat.mul_one, Nat.mul_one, i64s, ← List.map_drop]
    exact List.take_of_length_le (by simp)
  rwa [e] at h3
theorem close_yes {p : PoolD} {t : Int} {N : Nat} (h : closeOk p t) (hN : min t (p.i.length : Int) = N) : closeD p t = closeL p N ∧ closeN p t = N := by
  refine ⟨?_, ?_⟩
  · rw [closeD, if_pos h, hN]; rfl
  · rw [closeN, if_pos h, hN]
theorem iClose_any {p : PoolD} {a : PAd} (t : Int) (w : World) (hP : PoolR w p a) (hci : p.i.length ≤ a.ci) :
    Calls Try.prog 28 #[.agg (poolV p a).toArray, .int .i64 t] w fun e w' => ∃ y : PAd, capOk (closeD p t) y ∧ e = .returned (.tuple #[.agg (poolV (closeD p t) y).toArray, .int .i64 (closeN p t)]) ∧ Below w.heap.size w w' ∧ Fresh w.heap.size (pRows (closeD p t) y) w' := by
  have l1 := hP.i.le
  refine enter (C := cxS w []) (okS w []) (St.start w) Try.func28 rfl rfl ?_; conv => whnf
  refine NewS.mk (fun g0 => ?_)
  conv => whnf
  refine NewS.mk (fun g1 => ?_)
  conv => whnf
  refine ⟨rfl, CallS.p (fun w' hS => impl_ValidPool_any w' (hP.below hS.below) hci) (fun hok => ?_) (fun hok => ?_)⟩ <;> conv => whnf
  rotate_left
  · (repeat' (first | (refine Sp.mk (fun hs => ?_) (fun hs => ?_) <;> first | (exfalso; omega) | (conv => whnf)) | (refine Ar.i (by omega) ?_; conv => whnf) | (refine NewS.mk (fun _ => ?_); conv => whnf) | (refine QuoS.nn (by omega) ?_; conv => whnf) | (refine RemS.nn (by omega) ?_; conv => whnf) | refine RetS.mk (fun w' hS => ?_)))
    exact close_no (fun h => hok h.1) hS.below
  refine Sp.mk (fun h0 => ?_) (fun h0 => ?_) <;> conv => whnf
  · (repeat' (first | (refine Sp.mk (fun hs => ?_) (fun hs => ?_) <;> first | (exfalso; omega) | (conv => whnf)) | (refine Ar.i (by omega) ?_; conv => whnf) | (refine NewS.mk (fun _ => ?_); conv => whnf) | (refine QuoS.nn (by omega) ?_; conv => whnf) | (refine RemS.nn (by omega) ?_; conv => whnf) | refine RetS.mk (fun w' hS => ?_)))
    exact close_no (fun h => by have := h.2; omega) hS.below
  have hk : closeOk p t := ⟨hok, by omega⟩
  refine Sp.mk (fun h1 => ?_) (fun h1 => ?_) <;> conv => whnf
  · skip
    obtain ⟨e1, e2⟩ := close_yes (N := p.i.length) hk (by omega)
    rw [e1, e2]
    have hNl : p.i.length ≤ p.i.length := by omega
    have hdl : (p.i.drop p.i.length).length = p.i.length - p.i.length := List.length_drop
    refine ⟨rfl, CallS.own (fun w' hS => iCopy_any w' (hP.below hS.below)) (fun y1 hy1 => ?_)⟩
    conv => whnf
    refine NewS.mk (fun g2 => ?_)
    conv => whnf
    refine SlcS.lo p.i.length rfl hNl hy1.1 ?_
    conv => whnf
    refine ⟨rfl, CallS.own (fun w' hS => clone_int_any w' (drop_reads (hS.rowR (List.mem_of_getElem? (i := 0) rfl)) hNl hy1.1) (i64s_one _) (by omega)) (fun A4 _ => ?_)⟩
    conv => whnf
    (repeat' (first | (refine Sp.mk (fun hs => ?_) (fun hs => ?_) <;> first | (exfalso; omega) | (conv => whnf)) | (refine Ar.i (by omega) ?_; conv => whnf) | (refine NewS.mk (fun _ => ?_); conv => whnf) | (refine QuoS.nn (by omega) ?_; conv => whnf) | (refine RemS.nn (by omega) ?_; conv => whnf) | refine RetS.mk (fun w' hS => ?_)))
    exact ⟨⟨A4, y1.h, y1.w, p.i.length - p.i.length, y1.ch, y1.cw⟩, ⟨Nat.le_of_eq hdl, hy1.2.1, hy1.2.2⟩, by simp only [poolV, closeL, hdl]; rfl, hS.below, fresh_perm (hS.fresh (os := [hRow p y1, wRow p y1, rowOf 3 1 A4 (p.i.length - p.i.length) (p.i.length - p.i.length) (i64s (p.i.drop p.i.length))]) (List.Sublist.cons _ (List.Sublist.refl _))) (by
      have e : pRows (closeL p p.i.length) ⟨A4, y1.h, y1.w, p.i.length - p.i.length, y1.ch, y1.cw⟩ = [rowOf 3 1 A4 (p.i.length - p.i.length) (p.i.length - p.i.length) (i64s (p.i.drop p.i.length))] ++ [hRow p y1, wRow p y1] := by simp only [pRows, iRow, closeL, hdl]; rfl
      rw [e]
      exact List.perm_append_comm (l₁ := [hRow p y1, wRow p y1]))⟩
  · obtain ⟨T, rfl⟩ := Int.eq_ofNat_of_zero_le hk.2
    obtain ⟨e1, e2⟩ := close_yes (N := T) hk (by omega)
    rw [e1, e2]
    have hNl : T ≤ p.i.length := by omega
    have hdl : (p.i.drop T).length = p.i.length - T := List.length_drop
    refine ⟨rfl, CallS.own (fun w' hS => iCopy_any w' (hP.below hS.below)) (fun y1 hy1 => ?_)⟩
    conv => whnf
    refine NewS.mk (fun g2 => ?_)
    conv => whnf
    refine SlcS.lo T rfl hNl hy1.1 ?_
    conv => whnf
    refine ⟨rfl, CallS.own (fun w' hS => clone_int_any w' (drop_reads (hS.rowR (List.mem_of_getElem? (i := 0) rfl)) hNl hy1.1) (i64s_one _) (by omega)) (fun A4 _ => ?_)⟩
    conv => whnf
    (repeat' (first | (refine Sp.mk (fun hs => ?_) (fun hs => ?_) <;> first | (exfalso; omega) | (conv => whnf)) | (refine Ar.i (by omega) ?_; conv => whnf) | (refine NewS.mk (fun _ => ?_); conv => whnf) | (refine QuoS.nn (by omega) ?_; conv => whnf) | (refine RemS.nn (by omega) ?_; conv => whnf) | refine RetS.mk (fun w' hS => ?_)))
    exact ⟨⟨A4, y1.h, y1.w, p.i.length - T, y1.ch, y1.cw⟩, ⟨Nat.le_of_eq hdl, hy1.2.1, hy1.2.2⟩, by simp only [poolV, closeL, hdl]; rfl, hS.below, fresh_perm (hS.fresh (os := [hRow p y1, wRow p y1, rowOf 3 1 A4 (p.i.length - T) (p.i.length - T) (i64s (p.i.drop T))]) (List.Sublist.cons _ (List.Sublist.refl _))) (by
      have e : pRows (closeL p T) ⟨A4, y1.h, y1.w, p.i.length - T, y1.ch, y1.cw⟩ = [rowOf 3 1 A4 (p.i.length - T) (p.i.length - T) (i64s (p.i.drop T))] ++ [hRow p y1, wRow p y1] := by simp only [pRows, iRow, closeL, hdl]; rfl
      rw [e]
      exact List.perm_append_comm (l₁ := [hRow p y1, wRow p y1]))⟩
theorem sClose_any {p : PoolD} {a : PAd} (t : Int) (w : World) (hP : PoolR w p a) (hci : p.i.length ≤ a.ci) (hs : p.i.length + p.h.length ≤ 2000000) :
    Calls Try.prog 29 #[.agg (poolV p a).toArray, .int .i64 t] w fun e w' => ∃ y : PAd, capOk (closeD p t) y ∧ e = .returned (.tuple #[.agg (poolV (closeD p t) y).toArray, .int .i64 (closeN p t)]) ∧ Below w.heap.size w w' ∧ Fresh w.heap.size (pRows (closeD p t) y) w' := by
  have l1 := hP.i.le
  refine enter (C := cxS w []) (okS w []) (St.start w) Try.func29 rfl rfl ?_; conv => whnf
  refine NewS.mk (fun g0 => ?_)
  conv => whnf
  refine NewS.mk (fun g1 => ?_)
  conv => whnf
  refine ⟨rfl, CallS.p (fun w' hS => spec_validPool_any w' (hP.below hS.below) hs) (fun hok => ?_) (fun hok => ?_)⟩ <;> conv => whnf
  rotate_left
  · (repeat' (first | (refine Sp.mk (fun hs => ?_) (fun hs => ?_) <;> first | (exfalso; omega) | (conv => whnf)) | (refine Ar.i (by omega) ?_; conv => whnf) | (refine NewS.mk (fun _ => ?_); conv => whnf) | (refine QuoS.nn (by omega) ?_; conv => whnf) | (refine RemS.nn (by omega) ?_; conv => whnf) | refine RetS.mk (fun w' hS => ?_)))
    exact close_no (fun h => hok h.1) hS.below
  refine Sp.mk (fun h0 => ?_) (fun h0 => ?_) <;> conv => whnf
  · (repeat' (first | (refine Sp.mk (fun hs => ?_) (fun hs => ?_) <;> first | (exfalso; omega) | (conv => whnf)) | (refine Ar.i (by omega) ?_; conv => whnf) | (refine NewS.mk (fun _ => ?_); conv => whnf) | (refine QuoS.nn (by omega) ?_; conv => whnf) | (refine RemS.nn (by omega) ?_; conv => whnf) | refine RetS.mk (fun w' hS => ?_)))
    exact close_no (fun h => by have := h.2; omega) hS.below
  have hk : closeOk p t := ⟨hok, by omega⟩
  refine Sp.mk (fun h1 => ?_) (fun h1 => ?_) <;> conv => whnf
  · skip
    obtain ⟨e1, e2⟩ := close_yes (N := p.i.length) hk (by omega)
    rw [e1, e2]
    have hNl : p.i.length ≤ p.i.length := by omega
    have hdl : (p.i.drop p.i.length).length = p.i.length - p.i.length := List.length_drop
    refine ⟨rfl, CallS.own (fun w' hS => sCopy_any w' (hP.below hS.below)) (fun y1 hy1 => ?_)⟩
    conv => whnf
    refine NewS.mk (fun g2 => ?_)
    conv => whnf
    refine SlcS.lo p.i.length rfl hNl hci ?_
    conv => whnf
    refine ⟨rfl, CallS.own (fun w' hS => spec_copyInts_any w' ⟨drop_reads (hP.i.below hS.below).rd hNl hci, by omega⟩) (fun y4 hy4 => ?_)⟩
    conv => whnf
    (repeat' (first | (refine Sp.mk (fun hs => ?_) (fun hs => ?_) <;> first | (exfalso; omega) | (conv => whnf)) | (refine Ar.i (by omega) ?_; conv => whnf) | (refine NewS.mk (fun _ => ?_); conv => whnf) | (refine QuoS.nn (by omega) ?_; conv => whnf) | (refine RemS.nn (by omega) ?_; conv => whnf) | refine RetS.mk (fun w' hS => ?_)))
    exact ⟨⟨y4.1, y1.h, y1.w, y4.2, y1.ch, y1.cw⟩, ⟨Nat.le_trans (Nat.le_of_eq hdl) hy4, hy1.2.1, hy1.2.2⟩, by simp only [poolV, closeL, hdl]; rfl, hS.below, fresh_perm (hS.fresh (os := [hRow p y1, wRow p y1, rowOf 3 1 y4.1 (p.i.length - p.i.length) y4.2 (i64s (p.i.drop p.i.length))]) (List.Sublist.cons _ (List.Sublist.refl _))) (by
      have e : pRows (closeL p p.i.length) ⟨y4.1, y1.h, y1.w, y4.2, y1.ch, y1.cw⟩ = [rowOf 3 1 y4.1 (p.i.length - p.i.length) y4.2 (i64s (p.i.drop p.i.length))] ++ [hRow p y1, wRow p y1] := by simp only [pRows, iRow, closeL, hdl]; rfl
      rw [e]
      exact List.perm_append_comm (l₁ := [hRow p y1, wRow p y1]))⟩
  · obtain ⟨T, rfl⟩ := Int.eq_ofNat_of_zero_le hk.2
    obtain ⟨e1, e2⟩ := close_yes (N := T) hk (by omega)
    rw [e1, e2]
    have hNl : T ≤ p.i.length := by omega
    have hdl : (p.i.drop T).length = p.i.length - T := List.length_drop
    refine ⟨rfl, CallS.own (fun w' hS => sCopy_any w' (hP.below hS.below)) (fun y1 hy1 => ?_)⟩
    conv => whnf
    refine NewS.mk (fun g2 => ?_)
    conv => whnf
    refine SlcS.lo T rfl hNl hci ?_
    conv => whnf
    refine ⟨rfl, CallS.own (fun w' hS => spec_copyInts_any w' ⟨drop_reads (hP.i.below hS.below).rd hNl hci, by omega⟩) (fun y4 hy4 => ?_)⟩
    conv => whnf
    (repeat' (first | (refine Sp.mk (fun hs => ?_) (fun hs => ?_) <;> first | (exfalso; omega) | (conv => whnf)) | (refine Ar.i (by omega) ?_; conv => whnf) | (refine NewS.mk (fun _ => ?_); conv => whnf) | (refine QuoS.nn (by omega) ?_; conv => whnf) | (refine RemS.nn (by omega) ?_; conv => whnf) | refine RetS.mk (fun w' hS => ?_)))
    exact ⟨⟨y4.1, y1.h, y1.w, y4.2, y1.ch, y1.cw⟩, ⟨Nat.le_trans (Nat.le_of_eq hdl) hy4, hy1.2.1, hy1.2.2⟩, by simp only [poolV, closeL, hdl]; rfl, hS.below, fresh_perm (hS.fresh (os := [hRow p y1, wRow p y1, rowOf 3 1 y4.1 (p.i.length - T) y4.2 (i64s (p.i.drop T))]) (List.Sublist.cons _ (List.Sublist.refl _))) (by
      have e : pRows (closeL p T) ⟨y4.1, y1.h, y1.w, y4.2, y1.ch, y1.cw⟩ = [rowOf 3 1 y4.1 (p.i.length - T) y4.2 (i64s (p.i.drop T))] ++ [hRow p y1, wRow p y1] := by simp only [pRows, iRow, closeL, hdl]; rfl
      rw [e]
      exact List.perm_append_comm (l₁ := [hRow p y1, wRow p y1]))⟩
end Go.Proofs.Ytfjedjcdmaoeoaa
