/- impl.AcquireConn; conditions: none. -/
import Derived.Test.YtfjedjcdmaoeoaaPooT
set_option maxRecDepth 100000
set_option linter.unusedVariables false
set_option linter.unusedSimpArgs false
namespace Go.Proofs.Ytfjedjcdmaoeoaa
open Eng Go Go.RowKit

theorem least_step {p : PoolD} {k : Nat} (h : okPool p) (hl : (p.h.length : Int) < p.m) (hk : (k : Int) ≤ leastIn (hc p.h) 0 6) (hm : (k : Int) ∈ hc p.h) : ((k + 1 : Nat) : Int) ≤ leastIn (hc p.h) 0 6 := by
  have := (least_free h hl).2
  by_cases e : (k : Int) = leastIn (hc p.h) 0 6
  · rw [e] at hm; exact absurd hm this
  · omega
theorem least_stop {p : PoolD} {k : Nat} (hk : (k : Int) ≤ leastIn (hc p.h) 0 6) (hm : (k : Int) ∉ hc p.h) : (k : Int) = leastIn (hc p.h) 0 6 := by
  by_cases e : (k : Int) = leastIn (hc p.h) 0 6
  · exact e
  · exact absurd ((leastIn_spec (hc p.h) 6 0).2.2.1 k (by omega) (by omega)) hm

theorem iAcq_any {p : PoolD} {a : PAd} (t : Int) (w : World) (hP : PoolR w p a) (hci : p.i.length ≤ a.ci) :
    Calls Try.prog 33 #[.agg (poolV p a).toArray, .int .i64 t] w fun e w' => ∃ y : PAd, capOk (acqD p t) y ∧ e = .returned (.tuple #[.agg (poolV (acqD p t) y).toArray, .int .i64 (acqN p t), .bool (acqB p t)]) ∧ Below w.heap.size w w' ∧ Fresh w.heap.size (pRows (acqD p t) y) w' := by
  have l1 := hP.i.le
  have l2 := hP.h.le
  have l3 := hP.w.le
  refine enter (C := cxS w []) (okS w []) (St.start w) Try.func33 rfl rfl ?_; conv => whnf
  refine NewS.mk (fun g0 => ?_)
  conv => whnf
  refine NewS.mk (fun g1 => ?_)
  conv => whnf
  refine ⟨rfl, CallS.p (fun w' hS => impl_ValidPool_any w' (hP.below hS.below) hci) (fun hok => ?_) (fun hok => ?_)⟩ <;> conv => whnf
  rotate_left
  · (repeat' (first | (refine Sp.mk (fun hs => ?_) (fun hs => ?_) <;> first | (exfalso; omega) | (conv => whnf)) | (refine Ar.i (by omega) ?_; conv => whnf) | (refine NewS.mk (fun _ => ?_); conv => whnf) | (refine QuoS.nn (by omega) ?_; conv => whnf) | (refine RemS.nn (by omega) ?_; conv => whnf) | refine RetS.mk (fun w' hS => ?_)))
    obtain ⟨e1, e2, e3⟩ := acqD_none (acq_no (p := p) (o := t) (fun h => hok h.1))
    rw [e1, e2, e3]
    exact zero_ret hS.below
  refine ⟨rfl, CallS.p (fun w' hS => isOwner_any _ w') (fun hg => ?_) (fun hg => ?_)⟩ <;> conv => whnf
  rotate_left
  · (repeat' (first | (refine Sp.mk (fun hs => ?_) (fun hs => ?_) <;> first | (exfalso; omega) | (conv => whnf)) | (refine Ar.i (by omega) ?_; conv => whnf) | (refine NewS.mk (fun _ => ?_); conv => whnf) | (refine QuoS.nn (by omega) ?_; conv => whnf) | (refine RemS.nn (by omega) ?_; conv => whnf) | refine RetS.mk (fun w' hS => ?_)))
    obtain ⟨e1, e2, e3⟩ := acqD_none (acq_no (p := p) (o := t) (fun h => hg h.2))
    rw [e1, e2, e3]
    exact zero_ret hS.below
  have hm := hok.1
  have hroom := pool_room hok
  have hw12 := hok.2.2.2.2.1
  refine ⟨rfl, CallS.own (fun w' hS => iCopy_any w' (hP.below hS.below)) (fun y1 hy1 => ?_)⟩
  conv => whnf
  refine NewS.mk (fun g2 => ?_)
  conv => whnf
  refine Sp.mk (fun hi => ?_) (fun hi => ?_) <;> conv => whnf
  · have hi0 : p.i.length ≠ 0 := by omega
    obtain ⟨e1, e2, e3⟩ := acqD_some (acq_idle hok hg hi0)
    rw [e1, e2, e3]
    obtain ⟨ad, x, ea, hx, _, hc0⟩ := hP.i.at_ (k := p.i.length - 1) (by omega)
    have hlast : lastI p.i = x := by simp [lastI, List.getD, hx]
    rw [hlast]
    refine Ar.i (by omega) ?_
    conv => whnf
    refine IdxS.at_ (p.i.length - 1) ea (by omega) (by omega) ?_
    conv => whnf
    refine LdS.at_ (v := .int .i64 x) (fun w' hS => hS.cell0 hc0) ?_
    conv => whnf
    refine Ar.i (by omega) ?_
    conv => whnf
    refine SlcS.hi (p.i.length - 1) (by omega) (by have := hy1.1; omega) ?_
    conv => whnf
    refine ⟨rfl, CallS.own (fun w' hS => clone_int_any w' (IntsL.take (St.intsR hS (l := p.i) 0 rfl l1) (k := p.i.length - 1) (by omega)).rd (i64s_one _) (by omega)) (fun A4 _ => ?_)⟩
    conv => whnf
    refine NewS.mk (fun g3 => ?_)
    conv => whnf
    refine SemS.appG (okS w []) (i := 1) rfl rfl (by decide) rfl (fun w' hS => St.row hS (e := 41) (xs := holdV (HoldD.mk x t)) (List.mem_of_getElem? (i := 4) rfl)) (holdV_one _) (by simp only [maxLen]; omega) (by simp only; omega) (fun A5 k5 hk5 => ?_)
    conv => whnf
    refine ⟨rfl, CallS.own (fun w' hS => clone_impl_Hold_any (xs := (p.h ++ [HoldD.mk x t]).flatMap holdV) w' (by rw [flat_app1]; exact hS.rowR (List.mem_of_getElem? (i := 1) rfl)) (holdL_one _) (by omega)) (fun A6 _ => ?_)⟩
    conv => whnf
    (repeat' (first | (refine Sp.mk (fun hs => ?_) (fun hs => ?_) <;> first | (exfalso; omega) | (conv => whnf)) | (refine Ar.i (by omega) ?_; conv => whnf) | (refine NewS.mk (fun _ => ?_); conv => whnf) | (refine QuoS.nn (by omega) ?_; conv => whnf) | (refine RemS.nn (by omega) ?_; conv => whnf) | refine RetS.mk (fun w' hS => ?_)))
    have hlt : (p.i.take (p.i.length - 1)).length = p.i.length - 1 := by rw [List.length_take]; omega
    refine ⟨⟨A4, A6, y1.w, p.i.length - 1, p.h.length + 1, y1.cw⟩, ⟨by simp only [withHeld]; omega, by simp [withHeld], hy1.2.2⟩, by simp [poolV, withHeld, hlt], hS.below, ?_⟩
    have h3 := hS.fresh (os := [wRow p y1, rowOf 3 1 A4 (p.i.length - 1) (p.i.length - 1) (i64s (p.i.take (p.i.length - 1))), rowOf 41 2 A6 (p.h.length + 1) (p.h.length + 1) ((p.h ++ [HoldD.mk x t]).flatMap holdV)]) (List.Sublist.cons _ (List.Sublist.cons _ (List.Sublist.cons_cons _ (List.Sublist.cons_cons _ (List.Sublist.cons _ (List.Sublist.cons_cons _ (List.nil_sublist _)))))))
    have h4 := fresh_perm h3 (List.perm_append_comm (l₁ := [_]) (l₂ := [_, _]))
    simpa [pRows, iRow, hRow, wRow, withHeld, hlt] using h4
  have hi0 : p.i.length = 0 := by omega
  have hin : p.i = [] := List.eq_nil_of_length_eq_zero hi0
  refine Sp.mk (fun hl => ?_) (fun hl => ?_) <;> conv => whnf
  · obtain ⟨e1, e2, e3⟩ := acqD_some (acq_new hok hg hi0 hl)
    rw [e1, e2, e3]
    refine LoopS.same (okS w []) [(8, 8), (55, 60)] [8] rfl (fun k : Nat => [I64 k]) (fun k => (k : Int) ≤ leastIn (hc p.h) 0 6) (fun k => 6 - k) 0 (least_free hok hl).1.1 ⟨rfl, trivial⟩ (LbTo.self rfl) (fun k gg hk => ?_)
    conv => whnf
    have hL6 := (least_free hok hl).1.2
    refine ⟨rfl, CallS.ro (fun w' hS => held_any k w' (hP.below hS.below)) ?_⟩
    conv => whnf
    refine Sp.mk (fun h2 => ?_) (fun h2 => ?_) <;> conv => whnf
    · have hk2 := least_step hok hl hk (idxH_nonneg.1 h2)
      refine Ar.i (by omega) ?_
      conv => whnf
      exact ⟨k + 1, hk2, by omega, ⟨rfl, trivial⟩, LbTo.self rfl, RsTo.refl _⟩
    have hkL := least_stop hk (fun hm => h2 (idxH_nonneg.2 hm))
    rw [← hkL]
    refine NewS.mk (fun g3 => ?_)
    conv => whnf
    refine SemS.appG (okS w []) (i := 1) rfl rfl (by decide) rfl (fun w' hS => St.row hS (e := 41) (xs := holdV (HoldD.mk k t)) (List.mem_of_getElem? (i := 3) rfl)) (holdV_one _) (by simp only [maxLen]; omega) (by simp only; omega) (fun A5 k5 hk5 => ?_)
    conv => whnf
    refine ⟨rfl, CallS.own (fun w' hS => clone_impl_Hold_any (xs := (p.h ++ [HoldD.mk k t]).flatMap holdV) w' (by rw [flat_app1]; exact hS.rowR (List.mem_of_getElem? (i := 1) rfl)) (holdL_one _) (by omega)) (fun A6 _ => ?_)⟩
    conv => whnf
    (repeat' (first | (refine Sp.mk (fun hs => ?_) (fun hs => ?_) <;> first | (exfalso; omega) | (conv => whnf)) | (refine Ar.i (by omega) ?_; conv => whnf) | (refine NewS.mk (fun _ => ?_); conv => whnf) | (refine QuoS.nn (by omega) ?_; conv => whnf) | (refine RemS.nn (by omega) ?_; conv => whnf) | refine RetS.mk (fun w' hS => ?_)))
    refine ⟨⟨y1.i, A6, y1.w, y1.ci, p.h.length + 1, y1.cw⟩, ⟨Nat.zero_le _, by simp [withHeld], hy1.2.2⟩, by simp [poolV, withHeld, hi0], hS.below, ?_⟩
    have h3 := hS.fresh (os := [iRow p y1, wRow p y1, rowOf 41 2 A6 (p.h.length + 1) (p.h.length + 1) ((p.h ++ [HoldD.mk k t]).flatMap holdV)]) (List.Sublist.cons_cons _ (List.Sublist.cons _ (List.Sublist.cons_cons _ (List.Sublist.cons _ (List.Sublist.cons_cons _ (List.nil_sublist _))))))
    have h4 := fresh_perm h3 (List.Perm.cons _ (List.Perm.swap _ _ _))
    simpa [pRows, iRow, hRow, wRow, withHeld, hin] using h4
  refine Sp.mk (fun hw => ?_) (fun hw => ?_) <;> conv => whnf
  · obtain ⟨e1, e2, e3⟩ := acqD_none (acq_full hok hg hi0 hl (by omega))
    rw [e1, e2, e3]
    (repeat' (first | (refine Sp.mk (fun hs => ?_) (fun hs => ?_) <;> first | (exfalso; omega) | (conv => whnf)) | (refine Ar.i (by omega) ?_; conv => whnf) | (refine NewS.mk (fun _ => ?_); conv => whnf) | (refine QuoS.nn (by omega) ?_; conv => whnf) | (refine RemS.nn (by omega) ?_; conv => whnf) | refine RetS.mk (fun w' hS => ?_)))
    exact zero_ret hS.below
  · obtain ⟨e1, e2, e3⟩ := acqD_some (acq_waits hok hg hi0 hl (by omega))
    rw [e1, e2, e3]
    refine NewS.mk (fun g3 => ?_)
    conv => whnf
    refine SemS.appG (okS w []) (i := 2) rfl rfl (by decide) rfl (fun w' hS => St.row hS (e := 3) (xs := [.int .i64 t]) (List.mem_of_getElem? (i := 3) rfl)) (by simp [isOne]) (by simp only [maxLen]; omega) (by simp only; omega) (fun A5 k5 hk5 => ?_)
    conv => whnf
    refine ⟨rfl, CallS.own (fun w' hS => clone_int_any (xs := i64s (p.w ++ [t])) w' (by rw [i64s_app1]; exact hS.rowR (List.mem_of_getElem? (i := 2) rfl)) (i64s_one _) (by omega)) (fun A6 _ => ?_)⟩
    conv => whnf
    (repeat' (first | (refine Sp.mk (fun hs => ?_) (fun hs => ?_) <;> first | (exfalso; omega) | (conv => whnf)) | (refine Ar.i (by omega) ?_; conv => whnf) | (refine NewS.mk (fun _ => ?_); conv => whnf) | (refine QuoS.nn (by omega) ?_; conv => whnf) | (refine RemS.nn (by omega) ?_; conv => whnf) | refine RetS.mk (fun w' hS => ?_)))
    refine ⟨⟨y1.i, y1.h, A6, y1.ci, y1.ch, p.w.length + 1⟩, ⟨Nat.zero_le _, hy1.2.1, by simp⟩, by simp [poolV, hi0], hS.below, ?_⟩
    have h3 := hS.fresh (os := [iRow p y1, hRow p y1, rowOf 3 1 A6 (p.w.length + 1) (p.w.length + 1) (i64s (p.w ++ [t]))]) (List.Sublist.cons_cons _ (List.Sublist.cons_cons _ (List.Sublist.cons _ (List.Sublist.cons _ (List.Sublist.cons_cons _ (List.nil_sublist _))))))
    simpa [pRows, iRow, hRow, wRow, hin] using h3
end Go.Proofs.Ytfjedjcdmaoeoaa
