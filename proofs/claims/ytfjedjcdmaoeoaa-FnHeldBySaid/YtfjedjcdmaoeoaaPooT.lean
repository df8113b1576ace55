/- impl.ReleaseConn; conditions: none. -/
import Derived.Test.YtfjedjcdmaoeoaaPooS
import Derived.Test.YtfjedjcdmaoeoaaPooR
set_option maxRecDepth 100000
set_option linter.unusedVariables false
set_option linter.unusedSimpArgs false
namespace Go.Proofs.Ytfjedjcdmaoeoaa
open Eng Go Go.RowKit

theorem i64s_app1 (l : List Int) (z : Int) : i64s (l ++ [z]) = i64s l ++ [.int .i64 z] := by simp [i64s]
theorem flat_app1 (l : List HoldD) (x : HoldD) : (l ++ [x]).flatMap holdV = l.flatMap holdV ++ holdV x := by simp
/-- copyOf where the lengths are written otherwise. -/
theorem iCopyE_any {p : PoolD} {a : PAd} {ni nh nw : Nat} (w : World) (hP : PoolR w p a) (h1 : p.i.length = ni) (h2 : p.h.length = nh) (h3 : p.w.length = nw) :
    Calls Try.prog 54 #[.agg #[.int .i64 p.m, .slice a.i ni a.ci, .slice a.h nh a.ch, .slice a.w nw a.cw]] w fun e w' => ∃ y : PAd, capOk p y ∧ e = .returned (.agg (poolV p y).toArray) ∧ Below w.heap.size w w' ∧ Fresh w.heap.size (pRows p y) w' := by
  subst h1 h2 h3
  exact iCopy_any w hP
theorem zero_ret {w w' : World} (hb : Below w.heap.size w w') : ∃ y : PAd, capOk zeroP y ∧ Ending.returned (.tuple #[.agg #[.int .i64 0, .slice none 0 0, .slice none 0 0, .slice none 0 0], .int .i64 (-1), .bool false]) = .returned (.tuple #[.agg (poolV zeroP y).toArray, .int .i64 (-1), .bool false]) ∧ Below w.heap.size w w' ∧ Fresh w.heap.size (pRows zeroP y) w' := by
  refine ⟨⟨none, none, none, 0, 0, 0⟩, ⟨Nat.le_refl _, Nat.le_refl _, Nat.le_refl _⟩, rfl, hb, ?_⟩
  exact ⟨fun o ho => by
    simp only [pRows, List.mem_cons, List.not_mem_nil, or_false] at ho
    rcases ho with rfl | rfl | rfl
    · exact owns_nil _ _ _ _
    · exact owns_nil _ _ _ _
    · exact owns_nil _ _ _ _, by simp [pRows, iRow, hRow, wRow, rowOf_zero, zeroP, Value.ownBlock]⟩

theorem iRel_any {p : PoolD} {a : PAd} (t : Int) (w : World) (hP : PoolR w p a) (hci : p.i.length ≤ a.ci) :
    Calls Try.prog 36 #[.agg (poolV p a).toArray, .int .i64 t] w fun e w' => ∃ y : PAd, capOk (relD p t) y ∧ e = .returned (.tuple #[.agg (poolV (relD p t) y).toArray, .int .i64 (relN p t), .bool (decide (relOk p t))]) ∧ Below w.heap.size w w' ∧ Fresh w.heap.size (pRows (relD p t) y) w' := by
  have l1 := hP.i.le
  have l2 := hP.h.le
  have l3 := hP.w.le
  refine enter (C := cxS w []) (okS w []) (St.start w) Try.func36 rfl rfl ?_; conv => whnf
  refine NewS.mk (fun g0 => ?_)
  conv => whnf
  refine NewS.mk (fun g1 => ?_)
  conv => whnf
  refine ⟨rfl, CallS.ro (fun w' hS => held_any t w' (hP.below hS.below)) ?_⟩
  conv => whnf
  refine ⟨rfl, CallS.p (fun w' hS => impl_ValidPool_any w' (hP.below hS.below) hci) (fun hok => ?_) (fun hok => ?_)⟩ <;> conv => whnf
  rotate_left
  · (repeat' (first | (refine Sp.mk (fun hs => ?_) (fun hs => ?_) <;> first | (exfalso; omega) | (conv => whnf)) | (refine Ar.i (by omega) ?_; conv => whnf) | (refine NewS.mk (fun _ => ?_); conv => whnf) | (refine QuoS.nn (by omega) ?_; conv => whnf) | (refine RemS.nn (by omega) ?_; conv => whnf) | refine RetS.mk (fun w' hS => ?_)))
    obtain ⟨e1, e2, e3⟩ := relD_no (p := p) (c := t) (fun h => hok h.1)
    rw [e1, e2, e3]
    exact zero_ret hS.below
  rcases idxH_spec p.h t 0 with ⟨q1, q2⟩ | ⟨j, x, q1, q2, q3, _⟩
  · rw [q1]
    refine Sp.mk (fun _ => ?_) (fun h => absurd (by omega) h)
    conv => whnf
    (repeat' (first | (refine Sp.mk (fun hs => ?_) (fun hs => ?_) <;> first | (exfalso; omega) | (conv => whnf)) | (refine Ar.i (by omega) ?_; conv => whnf) | (refine NewS.mk (fun _ => ?_); conv => whnf) | (refine QuoS.nn (by omega) ?_; conv => whnf) | (refine RemS.nn (by omega) ?_; conv => whnf) | refine RetS.mk (fun w' hS => ?_)))
    obtain ⟨e1, e2, e3⟩ := relD_no (p := p) (c := t) (fun h => q2 h.2)
    rw [e1, e2, e3]
    exact zero_ret hS.below
  have q1 : idxH p.h t 0 = (j : Int) := by rw [q1]; omega
  have hj : j < p.h.length := (List.getElem?_eq_some_iff.1 q2).1
  have hk : relOk p t := ⟨hok, mem_hc.2 ⟨x, List.mem_of_getElem? q2, q3⟩⟩
  have eH : p.h.eraseIdx j = relH p t := by rw [relH, q1]; rfl
  have hHl := (relH_perm hk.2).2.1
  rw [q1]
  refine Sp.mk (fun h => absurd h (by omega)) (fun _ => ?_)
  conv => whnf
  refine ⟨rfl, CallS.own (fun w' hS => iCopy_any w' (hP.below hS.below)) (fun y1 hy1 => ?_)⟩
  conv => whnf
  refine NewS.mk (fun g2 => ?_)
  conv => whnf
  refine Ar.i (by omega) ?_
  conv => whnf
  refine ⟨rfl, CallS.updS (i := 1) (o := hRow p y1) (o' := rowOf 41 2 y1.h (p.h.length - 1) y1.ch ((p.h.eraseIdx j).flatMap holdV)) rfl (by simp only [hRow, rowOf]; split <;> (cases y1.h <;> rfl)) (fun w' hS => deleteH_any w' l2 hj (hS.own _ (List.mem_of_getElem? (i := 1) rfl)).1) ?_⟩
  rw [eH]
  conv => whnf
  have hHl2 : (relH p t).length = p.h.length - 1 := by omega
  have hroom := pool_room hok
  have hm := hok.1
  refine Sp.mk (fun hw => ?_) (fun hw => ?_) <;> conv => whnf
  · have hw0 : p.w = [] := List.eq_nil_of_length_eq_zero (by omega)
    obtain ⟨e1, e2, e3⟩ := relD_idle hk hw0
    rw [e1, e2, e3]
    refine NewS.mk (fun g3 => ?_)
    conv => whnf
    refine SemS.appG (okS w []) (i := 0) rfl rfl (by decide) rfl (fun w' hS => St.row hS (e := 3) (xs := [.int .i64 t]) (List.mem_of_getElem? (i := 3) rfl)) (by simp [isOne]) (by simp only [maxLen]; omega) (by simp only; omega) (fun A2 c2 hc2 => ?_)
    conv => whnf
    have f1 : iRow ⟨p.m, p.i ++ [t], relH p t, []⟩ ⟨A2, y1.h, y1.w, c2, y1.ch, y1.cw⟩ = rowOf 3 1 A2 (p.i.length + 1) c2 (i64s p.i ++ [.int .i64 t]) := by simp only [iRow, List.length_append, List.length_singleton, i64s_app1]
    have f2 : hRow ⟨p.m, p.i ++ [t], relH p t, []⟩ ⟨A2, y1.h, y1.w, c2, y1.ch, y1.cw⟩ = rowOf 41 2 y1.h (p.h.length - 1) y1.ch ((relH p t).flatMap holdV) := by simp only [hRow, hHl2]
    have f3 : wRow ⟨p.m, p.i ++ [t], relH p t, []⟩ ⟨A2, y1.h, y1.w, c2, y1.ch, y1.cw⟩ = wRow p y1 := by simp only [wRow, hw0]
    refine ⟨rfl, CallS.own (fun w' hS => iCopyE_any (p := ⟨p.m, p.i ++ [t], relH p t, []⟩) (a := ⟨A2, y1.h, y1.w, c2, y1.ch, y1.cw⟩) w' (St.pool hS ⟨by simp only [List.length_append, List.length_singleton]; omega, by dsimp only; omega, by simp⟩ 0 1 2 (by rw [f1]; rfl) (by rw [f2]; rfl) (by rw [f3]; rfl)) (by simp) hHl2 (by simp [hw0])) (fun y4 hy4 => ?_)⟩
    conv => whnf
    (repeat' (first | (refine Sp.mk (fun hs => ?_) (fun hs => ?_) <;> first | (exfalso; omega) | (conv => whnf)) | (refine Ar.i (by omega) ?_; conv => whnf) | (refine NewS.mk (fun _ => ?_); conv => whnf) | (refine QuoS.nn (by omega) ?_; conv => whnf) | (refine RemS.nn (by omega) ?_; conv => whnf) | refine RetS.mk (fun w' hS => ?_)))
    exact ⟨y4, hy4, rfl, hS.below, hS.fresh (by simp)⟩
  · obtain ⟨o, r, hwr⟩ : ∃ o r, p.w = o :: r := by
      cases h : p.w with
      | nil => rw [h] at hw; simp at hw
      | cons o r => exact ⟨o, r, rfl⟩
    obtain ⟨e1, e2, e3⟩ := relD_pass hk hwr
    rw [e1, e2, e3]
    have hwl : p.w.length = r.length + 1 := by rw [hwr]; rfl
    obtain ⟨ad, o', ea, ho', _, hc0⟩ := hP.w.at_ (k := 0) (by omega)
    obtain rfl : o = o' := by rw [hwr] at ho'; simpa using ho'
    refine IdxS.at_ 0 ea rfl (by omega) ?_
    conv => whnf
    refine LdS.at_ (fun w' hS => hS.cell0 hc0) ?_
    conv => whnf
    refine NewS.mk (fun g3 => ?_)
    conv => whnf
    refine SemS.appG (okS w []) (i := 1) rfl rfl (by decide) rfl (fun w' hS => St.row hS (e := 41) (xs := holdV (HoldD.mk t o)) (List.mem_of_getElem? (i := 3) rfl)) (holdV_one _) (by simp only [maxLen]; omega) (by simp only; omega) (fun A2 c2 hc2 => ?_)
    conv => whnf
    refine SlcS.loE 1 rfl (by omega) hy1.2.2 (fun B hB => ?_)
    conv => whnf
    have f1 : iRow ⟨p.m, p.i, relH p t ++ [HoldD.mk t o], r⟩ ⟨y1.i, A2, B, y1.ci, c2, y1.cw - 1⟩ = iRow p y1 := rfl
    have f2 : hRow ⟨p.m, p.i, relH p t ++ [HoldD.mk t o], r⟩ ⟨y1.i, A2, B, y1.ci, c2, y1.cw - 1⟩ = rowOf 41 2 A2 (p.h.length - 1 + 1) c2 ((relH p t).flatMap holdV ++ holdV (HoldD.mk t o)) := by simp only [hRow, List.length_append, List.length_singleton, hHl2, flat_app1]
    refine ⟨rfl, CallS.own (fun w' hS => iCopyE_any (p := ⟨p.m, p.i, relH p t ++ [HoldD.mk t o], r⟩) (a := ⟨y1.i, A2, B, y1.ci, c2, y1.cw - 1⟩) w' ⟨St.intsR (c := y1.ci) hS 0 rfl l1, ⟨hS.rowR (c := c2) (e := 41) (List.mem_of_getElem? (i := 1) (by have f2' := f2; simp only [hRow] at f2'; rw [f2']; rfl)), by simp only [List.length_append, List.length_singleton]; omega⟩, ⟨by
      have h3 := drop_reads (l := p.w) (N := 1) (hS.rowR (List.mem_of_getElem? (i := 2) rfl)) (by omega) hy1.2.2
      rw [← hB, hwr] at h3
      exact h3, by dsimp only; omega⟩⟩ rfl (by simp only [List.length_append, List.length_singleton]; omega) (by dsimp only; omega)) (fun y4 hy4 => ?_)⟩
    conv => whnf
    (repeat' (first | (refine Sp.mk (fun hs => ?_) (fun hs => ?_) <;> first | (exfalso; omega) | (conv => whnf)) | (refine Ar.i (by omega) ?_; conv => whnf) | (refine NewS.mk (fun _ => ?_); conv => whnf) | (refine QuoS.nn (by omega) ?_; conv => whnf) | (refine RemS.nn (by omega) ?_; conv => whnf) | refine RetS.mk (fun w' hS => ?_)))
    exact ⟨y4, hy4, rfl, hS.below, hS.fresh (by simp)⟩
end Go.Proofs.Ytfjedjcdmaoeoaa
