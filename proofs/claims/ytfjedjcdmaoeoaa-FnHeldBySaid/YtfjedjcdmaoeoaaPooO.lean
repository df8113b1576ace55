/- spec.AcquireConn; conditions: none. -/
import Derived.Test.YtfjedjcdmaoeoaaPooU
set_option maxRecDepth 100000
set_option linter.unusedVariables false
set_option linter.unusedSimpArgs false
namespace Go.Proofs.Ytfjedjcdmaoeoaa
open Eng Go Go.RowKit

theorem closed_any {p : PoolD} {a : PAd} (w : World) (hok : okPool p) (hP : PoolR w p a) :
    Calls Try.prog 84 #[.agg (poolV p a).toArray] w fun e w' => e = .returned (.int .i64 (closedP p)) ∧ Below w.heap.size w w' := by
  have hm := hok.1
  obtain ⟨M, hM⟩ : ∃ M : Nat, p.m = (M : Int) := ⟨p.m.toNat, by omega⟩
  have e0 : closedP p = clo p.i (hc p.h) ((0 : Nat) : Int) (M - 0) := by rw [closedP, hM]; rfl
  refine enter (C := cxS w []) (okS w []) (St.start w) Try.func84 rfl rfl ?_; conv => whnf
  refine NewS.mk (fun g0 => ?_)
  conv => whnf
  refine LoopS.same (okS w []) [(2, 21)] [3] rfl (fun k : Nat => [I64 k]) (fun k => k ≤ M ∧ closedP p = clo p.i (hc p.h) k (M - k)) (fun k => M - k) 0 ⟨by omega, e0⟩ ⟨rfl, trivial⟩ (LbTo.self rfl) (fun k gg ⟨hk, hI⟩ => ?_)
  conv => whnf
  refine Sp.mk (fun h => ?_) (fun h => ?_) <;> conv => whnf
  · have e1 : M - k = (M - (k + 1)) + 1 := by omega
    rw [e1] at hI
    have e2 : clo p.i (hc p.h) k ((M - (k + 1)) + 1) = if (k : Int) ∉ p.i ∧ (k : Int) ∉ hc p.h then (k : Int) else clo p.i (hc p.h) ((k : Int) + 1) (M - (k + 1)) := rfl
    rw [e2] at hI
    refine ⟨rfl, CallS.p (fun w' hS => spec_isIn_any k w' (hP.i.below hS.below)) (fun h2 => ?_) (fun h2 => ?_)⟩ <;> conv => whnf
    · (repeat' (first | (refine Sp.mk (fun hs => ?_) (fun hs => ?_) <;> first | (exfalso; omega) | (conv => whnf)) | (refine Ar.i (by omega) ?_; conv => whnf) | (refine NewS.mk (fun _ => ?_); conv => whnf) | (refine QuoS.nn (by omega) ?_; conv => whnf) | (refine RemS.nn (by omega) ?_; conv => whnf) | (refine QuietS.mk (by as_aux_lemma => kernel_rfl) ?_; conv => whnf) | refine RetS.mk (fun w' hS => ?_)))
      refine ⟨k + 1, ⟨by omega, by rw [hI, if_neg (fun h => h.1 h2)]; rfl⟩, by omega, ⟨rfl, trivial⟩, LbTo.self rfl, RsTo.refl _⟩
    refine ⟨rfl, CallS.ro (fun w' hS => holder_any k w' (hP.below hS.below)) ?_⟩
    conv => whnf
    refine Sp.mk (fun h3 => ?_) (fun h3 => ?_) <;> conv => whnf
    · (repeat' (first | (refine Sp.mk (fun hs => ?_) (fun hs => ?_) <;> first | (exfalso; omega) | (conv => whnf)) | (refine Ar.i (by omega) ?_; conv => whnf) | (refine NewS.mk (fun _ => ?_); conv => whnf) | (refine QuoS.nn (by omega) ?_; conv => whnf) | (refine RemS.nn (by omega) ?_; conv => whnf) | (refine QuietS.mk (by as_aux_lemma => kernel_rfl) ?_; conv => whnf) | refine RetS.mk (fun w' hS => ?_)))
      exact ⟨by rw [hI, if_pos ⟨h2, fun hh => by have := idxH_nonneg.2 hh; omega⟩], hS.below⟩
    · (repeat' (first | (refine Sp.mk (fun hs => ?_) (fun hs => ?_) <;> first | (exfalso; omega) | (conv => whnf)) | (refine Ar.i (by omega) ?_; conv => whnf) | (refine NewS.mk (fun _ => ?_); conv => whnf) | (refine QuoS.nn (by omega) ?_; conv => whnf) | (refine RemS.nn (by omega) ?_; conv => whnf) | (refine QuietS.mk (by as_aux_lemma => kernel_rfl) ?_; conv => whnf) | refine RetS.mk (fun w' hS => ?_)))
      refine ⟨k + 1, ⟨by omega, by rw [hI, if_neg (fun h => h.2 (idxH_nonneg.1 (by omega)))]; rfl⟩, by omega, ⟨rfl, trivial⟩, LbTo.self rfl, RsTo.refl _⟩
  · (repeat' (first | (refine Sp.mk (fun hs => ?_) (fun hs => ?_) <;> first | (exfalso; omega) | (conv => whnf)) | (refine Ar.i (by omega) ?_; conv => whnf) | (refine NewS.mk (fun _ => ?_); conv => whnf) | (refine QuoS.nn (by omega) ?_; conv => whnf) | (refine RemS.nn (by omega) ?_; conv => whnf) | (refine QuietS.mk (by as_aux_lemma => kernel_rfl) ?_; conv => whnf) | refine RetS.mk (fun w' hS => ?_)))
    have hkM : M - k = 0 := by omega
    rw [hkM] at hI
    exact ⟨by rw [hI]; rfl, hS.below⟩

theorem acquire_any {p : PoolD} {a : PAd} (t : Int) (w : World) (hok : okPool p) (hP : PoolR w p a) (hcp : capOk p a) :
    Calls Try.prog 60 #[.agg (poolV p a).toArray, .int .i64 t] w fun e w' => ∃ y : PAd, capOk (sAcq p t).1 y ∧ e = .returned (.tuple #[.agg (poolV (sAcq p t).1 y).toArray, .int .i64 (sAcq p t).2]) ∧ Below w.heap.size w w' ∧ Fresh w.heap.size (pRows (sAcq p t).1 y) w' := by
  have l1 := hP.i.le
  have l2 := hP.h.le
  have l3 := hP.w.le
  have hm := hok.1
  have hroom := pool_room hok
  have hw12 := hok.2.2.2.2.1
  obtain ⟨c1, c2, c3⟩ := hcp
  refine enter (C := cxS w []) (okS w []) (St.start w) Try.func60 rfl rfl ?_; conv => whnf
  refine NewS.mk (fun g0 => ?_)
  conv => whnf
  refine NewS.mk (fun g1 => ?_)
  conv => whnf
  refine ⟨rfl, CallS.own (fun w' hS => sCopy_any w' (hP.below hS.below)) (fun y1 hy1 => ?_)⟩
  conv => whnf
  refine NewS.mk (fun g2 => ?_)
  conv => whnf
  refine ⟨rfl, CallS.ro (fun w' hS => closed_any w' hok (hP.below hS.below)) ?_⟩
  conv => whnf
  refine Sp.mk (fun hi => ?_) (fun hi => ?_) <;> conv => whnf
  · have hi0 : p.i.length ≠ 0 := by omega
    have e1 : sAcq p t = (withHeld p (p.i.take (p.i.length - 1)) (lastI p.i) t, lastI p.i) := if_pos hi0
    rw [e1]
    obtain ⟨ad, x, ea, hx, hxm, hc0⟩ := hP.i.at_ (k := p.i.length - 1) (by omega)
    have hxr := idle_range hok hxm
    have hlast : lastI p.i = x := by simp [lastI, List.getD, hx]
    rw [hlast]
    dsimp only
    refine Ar.i (by omega) ?_
    conv => whnf
    refine IdxS.at_ (p.i.length - 1) ea (by omega) (by omega) ?_
    conv => whnf
    refine LdS.at_ (v := .int .i64 x) (fun w' hS => hS.cell0 hc0) ?_
    conv => whnf
    refine Ar.i (by omega) ?_
    conv => whnf
    refine SlcS.hi (p.i.length - 1) (by omega) (by omega) ?_
    conv => whnf
    refine ⟨rfl, CallS.own (fun w' hS => spec_copyInts_any w' (IntsL.take (hP.i.below hS.below) (k := p.i.length - 1) (by omega))) (fun y4 hy4 => ?_)⟩
    conv => whnf
    refine Sp.mk (fun h => absurd h (by omega)) (fun _ => ?_)
    conv => whnf
    refine NewS.mk (fun g3 => ?_)
    conv => whnf
    refine SemS.appG (okS w []) (i := 1) rfl rfl (by decide) rfl (fun w' hS => St.row hS (e := 41) (xs := holdV (HoldD.mk x t)) (List.mem_of_getElem? (i := 4) rfl)) (holdV_one _) (by simp only [maxLen]; omega) (by simp only; omega) (fun A5 k5 hk5 => ?_)
    conv => whnf
    (repeat' (first | (refine Sp.mk (fun hs => ?_) (fun hs => ?_) <;> first | (exfalso; omega) | (conv => whnf)) | (refine Ar.i (by omega) ?_; conv => whnf) | (refine NewS.mk (fun _ => ?_); conv => whnf) | (refine QuoS.nn (by omega) ?_; conv => whnf) | (refine RemS.nn (by omega) ?_; conv => whnf) | refine RetS.mk (fun w' hS => ?_)))
    have hlt : (p.i.take (p.i.length - 1)).length = p.i.length - 1 := by rw [List.length_take]; omega
    refine ⟨⟨y4.1, A5, y1.w, y4.2, k5, y1.cw⟩, ⟨by simp only [withHeld]; omega, by simpa [withHeld] using hk5, hy1.2.2⟩, by simp [poolV, withHeld, hlt], hS.below, ?_⟩
    have h3 := hS.fresh (os := [rowOf 41 2 A5 (p.h.length + 1) k5 (p.h.flatMap holdV ++ holdV (HoldD.mk x t)), wRow p y1, rowOf 3 1 y4.1 (p.i.length - 1) y4.2 (i64s (p.i.take (p.i.length - 1)))]) (List.Sublist.cons _ (List.Sublist.cons_cons _ (List.Sublist.cons_cons _ (List.Sublist.cons_cons _ (List.nil_sublist _)))))
    have h4 := fresh_perm h3 (List.perm_append_comm (l₁ := [_, _]) (l₂ := [_]))
    simpa [pRows, iRow, hRow, wRow, withHeld, hlt] using h4
  have hi0 : ¬ p.i.length ≠ 0 := by omega
  have hin : p.i = [] := List.eq_nil_of_length_eq_zero (by omega)
  refine Sp.mk (fun hl => ?_) (fun hl => ?_) <;> conv => whnf
  · have e1 : sAcq p t = (⟨p.m, [], p.h, p.w ++ [t]⟩, -1) := by rw [sAcq, if_neg hi0, if_pos hl]
    rw [e1]
    dsimp only
    refine NewS.mk (fun g3 => ?_)
    conv => whnf
    refine SemS.appG (okS w []) (i := 2) rfl rfl (by decide) rfl (fun w' hS => St.row hS (e := 3) (xs := [.int .i64 t]) (List.mem_of_getElem? (i := 3) rfl)) (by simp [isOne]) (by simp only [maxLen]; omega) (by simp only; omega) (fun A5 k5 hk5 => ?_)
    conv => whnf
    (repeat' (first | (refine Sp.mk (fun hs => ?_) (fun hs => ?_) <;> first | (exfalso; omega) | (conv => whnf)) | (refine Ar.i (by omega) ?_; conv => whnf) | (refine NewS.mk (fun _ => ?_); conv => whnf) | (refine QuoS.nn (by omega) ?_; conv => whnf) | (refine RemS.nn (by omega) ?_; conv => whnf) | refine RetS.mk (fun w' hS => ?_)))
    refine ⟨⟨y1.i, y1.h, A5, y1.ci, y1.ch, k5⟩, ⟨Nat.zero_le _, hy1.2.1, by simpa using hk5⟩, by simp [poolV, hin], hS.below, ?_⟩
    have h3 := hS.fresh (os := [iRow p y1, hRow p y1, rowOf 3 1 A5 (p.w.length + 1) k5 (i64s p.w ++ [.int .i64 t])]) (List.Sublist.cons_cons _ (List.Sublist.cons_cons _ (List.Sublist.cons_cons _ (List.nil_sublist _))))
    simpa [pRows, iRow, hRow, wRow, hin, i64s_app1] using h3
  · have e1 : sAcq p t = (withHeld p [] (closedP p) t, closedP p) := by rw [sAcq, if_neg hi0, if_neg hl]
    rw [e1]
    dsimp only
    refine NewS.mk (fun g3 => ?_)
    conv => whnf
    refine SemS.appG (okS w []) (i := 1) rfl rfl (by decide) rfl (fun w' hS => St.row hS (e := 41) (xs := holdV (HoldD.mk (closedP p) t)) (List.mem_of_getElem? (i := 3) rfl)) (holdV_one _) (by simp only [maxLen]; omega) (by simp only; omega) (fun A5 k5 hk5 => ?_)
    conv => whnf
    (repeat' (first | (refine Sp.mk (fun hs => ?_) (fun hs => ?_) <;> first | (exfalso; omega) | (conv => whnf)) | (refine Ar.i (by omega) ?_; conv => whnf) | (refine NewS.mk (fun _ => ?_); conv => whnf) | (refine QuoS.nn (by omega) ?_; conv => whnf) | (refine RemS.nn (by omega) ?_; conv => whnf) | refine RetS.mk (fun w' hS => ?_)))
    refine ⟨⟨y1.i, A5, y1.w, y1.ci, k5, y1.cw⟩, ⟨Nat.zero_le _, by simpa [withHeld] using hk5, hy1.2.2⟩, by simp [poolV, withHeld, hin], hS.below, ?_⟩
    have h3 := hS.fresh (os := [iRow p y1, rowOf 41 2 A5 (p.h.length + 1) k5 (p.h.flatMap holdV ++ holdV (HoldD.mk (closedP p) t)), wRow p y1]) (List.Sublist.cons_cons _ (List.Sublist.cons_cons _ (List.Sublist.cons_cons _ (List.nil_sublist _))))
    simpa [pRows, iRow, hRow, wRow, withHeld, hin] using h3

theorem sAcq_any {p : PoolD} {a : PAd} (t : Int) (w : World) (hP : PoolR w p a) (hcp : capOk p a) (hs : p.i.length + p.h.length ≤ 2000000) :
    Calls Try.prog 34 #[.agg (poolV p a).toArray, .int .i64 t] w fun e w' => ∃ y : PAd, capOk (acqD p t) y ∧ e = .returned (.tuple #[.agg (poolV (acqD p t) y).toArray, .int .i64 (acqN p t), .bool (acqB p t)]) ∧ Below w.heap.size w w' ∧ Fresh w.heap.size (pRows (acqD p t) y) w' := by
  have l1 := hP.i.le
  have l2 := hP.h.le
  have l3 := hP.w.le
  refine enter (C := cxS w []) (okS w []) (St.start w) Try.func34 rfl rfl ?_; conv => whnf
  refine NewS.mk (fun g0 => ?_)
  conv => whnf
  refine NewS.mk (fun g1 => ?_)
  conv => whnf
  refine ⟨rfl, CallS.p (fun w' hS => spec_validPool_any w' (hP.below hS.below) hs) (fun hok => ?_) (fun hok => ?_)⟩ <;> conv => whnf
  rotate_left
  · (repeat' (first | (refine Sp.mk (fun hs => ?_) (fun hs => ?_) <;> first | (exfalso; omega) | (conv => whnf)) | (refine Ar.i (by omega) ?_; conv => whnf) | (refine NewS.mk (fun _ => ?_); conv => whnf) | (refine QuoS.nn (by omega) ?_; conv => whnf) | (refine RemS.nn (by omega) ?_; conv => whnf) | refine RetS.mk (fun w' hS => ?_)))
    obtain ⟨e1, e2, e3⟩ := acqD_none (acq_no (p := p) (o := t) (fun h => hok h.1))
    rw [e1, e2, e3]
    exact zero_ret hS.below
  refine ⟨rfl, CallS.p (fun w' hS => inRange_any _ _ _ w') (fun hg => ?_) (fun hg => ?_)⟩ <;> conv => whnf
  rotate_left
  · (repeat' (first | (refine Sp.mk (fun hs => ?_) (fun hs => ?_) <;> first | (exfalso; omega) | (conv => whnf)) | (refine Ar.i (by omega) ?_; conv => whnf) | (refine NewS.mk (fun _ => ?_); conv => whnf) | (refine QuoS.nn (by omega) ?_; conv => whnf) | (refine RemS.nn (by omega) ?_; conv => whnf) | refine RetS.mk (fun w' hS => ?_)))
    obtain ⟨e1, e2, e3⟩ := acqD_none (acq_no (p := p) (o := t) (fun h => hg h.2))
    rw [e1, e2, e3]
    exact zero_ret hS.below
  have hlen := sAcq_len (p := p) (o := t)
  have hm := hok.1
  have hroom := pool_room hok
  have hw12 := hok.2.2.2.2.1
  refine ⟨rfl, CallS.own (fun w' hS => acquire_any t w' hok (hP.below hS.below) hcp) (fun y1 hy1 => ?_)⟩
  cases hd : acq p t with
  | none =>
    obtain ⟨e1, e2, e3⟩ := acqD_none hd
    have hno := sAcq_none hok hg hd
    rw [e1, e2, e3]
    generalize sAcq p t = z at hlen hno hy1 ⊢
    conv => whnf
    refine NewS.mk (fun g2 => ?_)
    conv => whnf
    refine ⟨rfl, CallS.pf hno (fun w' hS => spec_validPool_any w' (St.pool hS ⟨by omega, by omega, by omega⟩ 0 1 2 rfl rfl rfl) (by omega)) ?_⟩
    conv => whnf
    (repeat' (first | (refine Sp.mk (fun hs => ?_) (fun hs => ?_) <;> first | (exfalso; omega) | (conv => whnf)) | (refine Ar.i (by omega) ?_; conv => whnf) | (refine NewS.mk (fun _ => ?_); conv => whnf) | (refine QuoS.nn (by omega) ?_; conv => whnf) | (refine RemS.nn (by omega) ?_; conv => whnf) | refine RetS.mk (fun w' hS => ?_)))
    exact zero_ret hS.below
  | some x =>
    obtain ⟨q, c⟩ := x
    obtain ⟨e1, e2, e3⟩ := acqD_some hd
    obtain ⟨e4, hq⟩ := sAcq_some hd
    rw [e1, e2, e3]
    rw [e4] at hlen hy1 ⊢
    dsimp only at hlen hy1 ⊢
    conv => whnf
    refine NewS.mk (fun g2 => ?_)
    conv => whnf
    refine ⟨rfl, CallS.pt hq (fun w' hS => spec_validPool_any w' (St.pool hS ⟨by omega, by omega, by omega⟩ 0 1 2 rfl rfl rfl) (by omega)) ?_⟩
    conv => whnf
    (repeat' (first | (refine Sp.mk (fun hs => ?_) (fun hs => ?_) <;> first | (exfalso; omega) | (conv => whnf)) | (refine Ar.i (by omega) ?_; conv => whnf) | (refine NewS.mk (fun _ => ?_); conv => whnf) | (refine QuoS.nn (by omega) ?_; conv => whnf) | (refine RemS.nn (by omega) ?_; conv => whnf) | refine RetS.mk (fun w' hS => ?_)))
    exact ⟨y1, hy1, rfl, hS.below, hS.fresh (List.Sublist.refl _)⟩
end Go.Proofs.Ytfjedjcdmaoeoaa
