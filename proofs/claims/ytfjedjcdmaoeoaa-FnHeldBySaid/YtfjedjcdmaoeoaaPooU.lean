/- spec.holder, spec.ReleaseConn; conditions: none. -/
import Derived.Test.YtfjedjcdmaoeoaaPooT
set_option maxRecDepth 100000
set_option linter.unusedVariables false
set_option linter.unusedSimpArgs false
namespace Go.Proofs.Ytfjedjcdmaoeoaa
open Eng Go Go.RowKit

theorem holder_any {p : PoolD} {a : PAd} (t : Int) (w : World) (hP : PoolR w p a) :
    Calls Try.prog 62 #[.agg (poolV p a).toArray, .int .i64 t] w fun e w' => e = .returned (.int .i64 (idxH p.h t 0)) ∧ Below w.heap.size w w' := by
  have hl := hP.h.len
  have hn := hP.h.le
  refine enter (C := cxS w []) (okS w []) (St.start w) Try.func62 rfl rfl ?_; conv => whnf
  refine NewS.mk (fun g0 => ?_)
  conv => whnf
  refine LoopS.same (okS w []) [(4, 21)] [5] rfl (fun k : Nat => [I64 k]) (fun k => k ≤ p.h.length ∧ idxH p.h t 0 = idxH (p.h.drop k) t k) (fun k => p.h.length - k) 0 ⟨by omega, rfl⟩ ⟨rfl, trivial⟩ (LbTo.self rfl) (fun k gg ⟨hk, hI⟩ => ?_)
  conv => whnf
  refine Sp.mk (fun h => ?_) (fun h => ?_) <;> conv => whnf
  · obtain ⟨ad, x, e, hx, hm, hc⟩ := hP.h.at_ (k := k) (by omega)
    have hc1 := hc 0 (.int .i64 x.c) rfl
    rw [drop_at hx, idxH] at hI
    refine IdxS.at_ k e rfl (by omega) ?_
    conv => whnf
    refine LdS.at_ (v := .int .i64 x.c) (fun w' hS => hS.cell0 hc1) ?_
    conv => whnf
    refine Sp.mk (fun h2 => ?_) (fun h2 => ?_) <;> conv => whnf
    · (repeat' (first | (refine Sp.mk (fun hs => ?_) (fun hs => ?_) <;> first | (exfalso; omega) | (conv => whnf)) | (refine Ar.i (by omega) ?_; conv => whnf) | (refine NewS.mk (fun _ => ?_); conv => whnf) | (refine QuoS.nn (by omega) ?_; conv => whnf) | (refine RemS.nn (by omega) ?_; conv => whnf) | (refine QuietS.mk (by as_aux_lemma => kernel_rfl) ?_; conv => whnf) | refine RetS.mk (fun w' hS => ?_)))
      exact ⟨by rw [hI, if_pos h2], hS.below⟩
    · (repeat' (first | (refine Sp.mk (fun hs => ?_) (fun hs => ?_) <;> first | (exfalso; omega) | (conv => whnf)) | (refine Ar.i (by omega) ?_; conv => whnf) | (refine NewS.mk (fun _ => ?_); conv => whnf) | (refine QuoS.nn (by omega) ?_; conv => whnf) | (refine RemS.nn (by omega) ?_; conv => whnf) | (refine QuietS.mk (by as_aux_lemma => kernel_rfl) ?_; conv => whnf) | refine RetS.mk (fun w' hS => ?_)))
      exact ⟨k + 1, ⟨by omega, by rw [hI, if_neg h2]⟩, by omega, ⟨rfl, trivial⟩, LbTo.self rfl, RsTo.refl _⟩
  · (repeat' (first | (refine Sp.mk (fun hs => ?_) (fun hs => ?_) <;> first | (exfalso; omega) | (conv => whnf)) | (refine Ar.i (by omega) ?_; conv => whnf) | (refine NewS.mk (fun _ => ?_); conv => whnf) | (refine QuoS.nn (by omega) ?_; conv => whnf) | (refine RemS.nn (by omega) ?_; conv => whnf) | (refine QuietS.mk (by as_aux_lemma => kernel_rfl) ?_; conv => whnf) | refine RetS.mk (fun w' hS => ?_)))
    have hkn : k = p.h.length := by omega
    rw [hkn, List.drop_length] at hI
    exact ⟨by rw [hI]; rfl, hS.below⟩

theorem holds_drop {w : World} {A : Option Addr} {l : List HoldD} {N c : Nat} (h : Holds w A l.length l) (hN : N ≤ l.length) (hc : l.length ≤ c) : Reads w 2 (if c = N then A else A.map (·.add (N * 2))) (l.length - N) ((l.drop N).flatMap holdV) := by
  have h3 := h.rd.cut (l := N) (hh := l.length) (m := c) hN (Nat.le_refl _) hc
  have e : ((l.flatMap holdV).drop (N * 2)).take ((l.length - N) * 2) = (l.drop N).flatMap holdV := by
    rw [flat_drop holdV_len (l := l) (k := N) hN, List.take_of_length_le (by rw [flat_len holdV_len, List.length_drop]; omega)]
  rwa [e] at h3
theorem sRel_any {p : PoolD} {a : PAd} (t : Int) (w : World) (hP : PoolR w p a) (hcp : capOk p a) (hs : p.i.length + p.h.length ≤ 2000000) :
    Calls Try.prog 37 #[.agg (poolV p a).toArray, .int .i64 t] w fun e w' => ∃ y : PAd, capOk (relD p t) y ∧ e = .returned (.tuple #[.agg (poolV (relD p t) y).toArray, .int .i64 (relN p t), .bool (decide (relOk p t))]) ∧ Below w.heap.size w w' ∧ Fresh w.heap.size (pRows (relD p t) y) w' := by
  have l1 := hP.i.le
  have l2 := hP.h.le
  have l3 := hP.w.le
  obtain ⟨c1, c2, c3⟩ := hcp
  refine enter (C := cxS w []) (okS w []) (St.start w) Try.func37 rfl rfl ?_; conv => whnf
  refine NewS.mk (fun g0 => ?_)
  conv => whnf
  refine NewS.mk (fun g1 => ?_)
  conv => whnf
  refine ⟨rfl, CallS.p (fun w' hS => spec_validPool_any w' (hP.below hS.below) hs) (fun hok => ?_) (fun hok => ?_)⟩ <;> conv => whnf
  rotate_left
  · (repeat' (first | (refine Sp.mk (fun hs => ?_) (fun hs => ?_) <;> first | (exfalso; omega) | (conv => whnf)) | (refine Ar.i (by omega) ?_; conv => whnf) | (refine NewS.mk (fun _ => ?_); conv => whnf) | (refine QuoS.nn (by omega) ?_; conv => whnf) | (refine RemS.nn (by omega) ?_; conv => whnf) | refine RetS.mk (fun w' hS => ?_)))
    obtain ⟨e1, e2, e3⟩ := relD_no (p := p) (c := t) (fun h => hok h.1)
    rw [e1, e2, e3]
    exact zero_ret hS.below
  refine ⟨rfl, CallS.ro (fun w' hS => holder_any t w' (hP.below hS.below)) ?_⟩
  rcases idxH_spec p.h t 0 with ⟨q1, q2⟩ | ⟨j, x, q1, q2, q3, _⟩
  · rw [q1]
    conv => whnf
    refine Sp.mk (fun _ => ?_) (fun h => absurd (by omega) h)
    conv => whnf
    (repeat' (first | (refine Sp.mk (fun hs => ?_) (fun hs => ?_) <;> first | (exfalso; omega) | (conv => whnf)) | (refine Ar.i (by omega) ?_; conv => whnf) | (refine NewS.mk (fun _ => ?_); conv => whnf) | (refine QuoS.nn (by omega) ?_; conv => whnf) | (refine RemS.nn (by omega) ?_; conv => whnf) | refine RetS.mk (fun w' hS => ?_)))
    obtain ⟨e1, e2, e3⟩ := relD_no (p := p) (c := t) (fun h => q2 h.2)
    rw [e1, e2, e3]
    exact zero_ret hS.below
  have q1 : idxH p.h t 0 = (j : Int) := by rw [q1]; omega
  have hj : j < p.h.length := (List.getElem?_eq_some_iff.1 q2).1
  have hk : relOk p t := ⟨hok, mem_hc.2 ⟨x, List.mem_of_getElem? q2, q3⟩⟩
  have eH : p.h.take j ++ p.h.drop (j + 1) = relH p t := by rw [relH, q1, List.eraseIdx_eq_take_drop_succ]; rfl
  have eHf : (p.h.take j).flatMap holdV ++ (p.h.drop (j + 1)).flatMap holdV = (relH p t).flatMap holdV := by rw [← List.flatMap_append, eH]
  have hHl := (relH_perm hk.2).2.1
  rw [q1]
  conv => whnf
  refine Sp.mk (fun h => absurd h (by omega)) (fun _ => ?_)
  conv => whnf
  refine ⟨rfl, CallS.ro (fun w' hS => holder_any t w' (hP.below hS.below)) ?_⟩
  rw [q1]
  conv => whnf
  refine ⟨rfl, CallS.own (fun w' hS => sCopy_any w' (hP.below hS.below)) (fun y1 hy1 => ?_)⟩
  conv => whnf
  refine NewS.mk (fun g2 => ?_)
  conv => whnf
  refine NewS.mk (fun g3 => ?_)
  conv => whnf
  refine SlcS.hi j rfl (by omega) ?_
  conv => whnf
  refine SemS.appZ (okS w []) rfl rfl (by decide) (news := (p.h.take j).flatMap holdV) (fun w' hS => by have h3 := Reads.pre (hP.h.below hS.below).rd (k := j) (by omega); rwa [flat_take holdV_len (by omega)] at h3) (holdL_one _) (by simp only [maxLen]; omega) (by simp only; omega) (fun A2 k2 hk2 => ?_)
  conv => whnf
  have hfresh : ∀ {b : Nat} {x z y : Own} {w1 : World}, Fresh b [x, z, y] w1 → Fresh b [x, y, z] w1 := fun h => fresh_perm h (List.Perm.cons _ (List.Perm.swap _ _ _))
  have hjl : j + (p.h.length - (j + 1)) = (relH p t).length := by omega
  refine DrawS.plan (.first 0 (.first 2 (.first 4 (.first 5 (.alt 1 (.one 3 (.first 6 (.one 7 (.first 8 (.one 9 (.done)))))) (.alt 3 (.first 6 (.one 1 (.one 7 (.first 8 (.one 9 (.done)))))) (.stop))))))) (by as_aux_lemma => kernel_rfl) [] [] (LbTo.refl_nil _) (RsTo.sub (List.nil_sublist _)) ?_
  conv => whnf
  repeat' (first | (refine StS.mk rfl (RsTo.sub (List.nil_sublist _)) ?_; conv => whnf) | (refine AltS.mk ?_ ?_ <;> conv => whnf) | exact trivial | (refine Ar.i (by omega) ?_; conv => whnf) | (refine SlcS.loE (j + 1) (by omega) (by omega) c2 (fun B hB => ?_); conv => whnf) | (refine SemS.appG (okS w []) (i := 4) (news := (p.h.drop (j + 1)).flatMap holdV) rfl rfl (by decide) rfl (fun w' hS => by rw [hB]; exact holds_drop (hP.h.below hS.below) (by omega) c2) (holdL_one _) (by simp only [maxLen]; omega) (by simp only; omega) (fun A3 k3 hk3 => ?_); rw [eHf, hjl]; rw [hjl] at hk3; conv => whnf))
  all_goals
    refine Sp.mk (fun hw => ?_) (fun hw => ?_) <;> conv => whnf
    · have hw0 : p.w = [] := List.eq_nil_of_length_eq_zero (by omega)
      obtain ⟨e1, e2, e3⟩ := relD_idle hk hw0
      rw [e1, e2, e3]
      have hroom := pool_room hok
      have hm := hok.1
      refine NewS.mk (fun g4 => ?_)
      conv => whnf
      refine SemS.appG (okS w []) (i := 0) rfl rfl (by decide) rfl (fun w' hS => St.row hS (e := 3) (xs := [.int .i64 t]) (List.mem_of_getElem? (i := 5) rfl)) (by simp [isOne]) (by simp only [maxLen]; omega) (by simp only; omega) (fun A5 k5 hk5 => ?_)
      conv => whnf
      (repeat' (first | (refine Sp.mk (fun hs => ?_) (fun hs => ?_) <;> first | (exfalso; omega) | (conv => whnf)) | (refine Ar.i (by omega) ?_; conv => whnf) | (refine NewS.mk (fun _ => ?_); conv => whnf) | (refine QuoS.nn (by omega) ?_; conv => whnf) | (refine RemS.nn (by omega) ?_; conv => whnf) | refine RetS.mk (fun w' hS => ?_)))
      refine ⟨⟨A5, A3, y1.w, k5, k3, y1.cw⟩, ⟨by simpa using hk5, hk3, by simp⟩, by simp [poolV, hw0], hS.below, ?_⟩
      have h3 := hfresh (hS.fresh (os := [rowOf 3 1 A5 (p.i.length + 1) k5 (i64s p.i ++ [.int .i64 t]), wRow p y1, rowOf 41 2 A3 (relH p t).length k3 ((relH p t).flatMap holdV)]) (List.Sublist.cons_cons _ (List.Sublist.cons _ (List.Sublist.cons_cons _ (List.Sublist.cons _ (List.Sublist.cons_cons _ (List.nil_sublist _)))))))
      simpa [pRows, iRow, hRow, wRow, i64s_app1, hw0] using h3
    · obtain ⟨o, r, hwr⟩ : ∃ o r, p.w = o :: r := by
        cases h : p.w with
        | nil => rw [h] at hw; simp at hw
        | cons o r => exact ⟨o, r, rfl⟩
      obtain ⟨e1, e2, e3⟩ := relD_pass hk hwr
      rw [e1, e2, e3]
      have hwl : p.w.length = r.length + 1 := by rw [hwr]; rfl
      obtain ⟨ad, o', ea, ho', _, hc0⟩ := hP.w.at_ (k := 0) (by omega)
      obtain rfl : o = o' := by rw [hwr] at ho'; simpa using ho'
      refine DrawS.plan (.first 0 (.first 2 (.first 3 (.alt 1 (.one 4 (.first 5 (.one 6 (.first 7 (.one 8 (.one 9 (.first 10 (.one 11 (.done))))))))) (.alt 4 (.first 5 (.alt 1 (.one 6 (.first 7 (.one 8 (.one 9 (.first 10 (.one 11 (.done))))))) (.alt 6 (.first 7 (.alt 1 (.one 8 (.one 9 (.first 10 (.one 11 (.done))))) (.alt 8 (.one 1 (.one 9 (.first 10 (.one 11 (.done))))) (.stop)))) (.stop)))) (.stop)))))) (by as_aux_lemma => kernel_rfl) [] [] (LbTo.refl_nil _) (RsTo.sub (List.nil_sublist _)) ?_
      conv => whnf
      repeat' (first | (refine StS.mk rfl (RsTo.sub (List.nil_sublist _)) ?_; conv => whnf) | (refine AltS.mk ?_ ?_ <;> conv => whnf) | exact trivial | (refine IdxS.at_ 0 ea rfl (by omega) ?_; conv => whnf) | (refine LdS.at_ (fun w' hS => hS.cell0 hc0) ?_; conv => whnf) | (refine NewS.mk (fun g4 => ?_); conv => whnf) | (refine SemS.appG (okS w []) (i := 4) rfl rfl (by decide) rfl (fun w' hS => St.row hS (e := 41) (xs := holdV (HoldD.mk t o)) (List.mem_of_getElem? (i := 5) rfl)) (holdV_one _) (by simp only [maxLen]; omega) (by simp only; omega) (fun A5 k5 hk5 => ?_); conv => whnf))
      all_goals
        refine SlcS.loE 1 rfl (by omega) c3 (fun B2 hB2 => ?_)
        conv => whnf
        refine ⟨rfl, CallS.own (fun w' hS => spec_copyInts_any (l := r) w' ⟨by
          have h3 := drop_reads (l := p.w) (N := 1) (hP.w.below hS.below).rd (by omega) c3
          rw [hwr] at h3
          rw [hB2, hwr]
          exact h3, by omega⟩) (fun y6 hy6 => ?_)⟩
        conv => whnf
        refine DrawS.plan (.first 1 (.alt 0 (.alt 2 (.first 3 (.alt 4 (.one 5 (.first 6 (.first 7 (.done)))) (.alt 5 (.one 4 (.first 6 (.first 7 (.done)))) (.stop)))) (.alt 5 (.one 2 (.first 3 (.one 4 (.first 6 (.first 7 (.done)))))) (.stop))) (.alt 2 (.first 3 (.alt 0 (.alt 4 (.one 5 (.first 6 (.first 7 (.done)))) (.alt 5 (.one 4 (.first 6 (.first 7 (.done)))) (.stop))) (.alt 4 (.one 0 (.one 5 (.first 6 (.first 7 (.done))))) (.stop)))) (.stop)))) (by as_aux_lemma => kernel_rfl) [] [] (LbTo.refl_nil _) (RsTo.sub (List.nil_sublist _)) ?_
        conv => whnf
        repeat' (first | (refine StS.mk rfl (RsTo.sub (List.nil_sublist _)) ?_; conv => whnf) | (refine AltS.mk ?_ ?_ <;> conv => whnf) | exact trivial | (refine IdxS.at_ 0 ea rfl (by omega) ?_; conv => whnf) | (refine LdS.at_ (fun w' hS => hS.cell0 hc0) ?_; conv => whnf) | refine RetS.mk (fun w' hS => ?_))
        all_goals
          refine ⟨⟨y1.i, A5, y6.1, y1.ci, k5, y6.2⟩, ⟨hy1.1, by simpa using hk5, by dsimp only; omega⟩, by simp [poolV, hwl], hS.below, ?_⟩
          have h3 := hS.fresh (os := [iRow p y1, rowOf 41 2 A5 ((relH p t).length + 1) k5 ((relH p t).flatMap holdV ++ holdV (HoldD.mk t o)), rowOf 3 1 y6.1 (p.w.length - 1) y6.2 (i64s r)]) (List.Sublist.cons_cons _ (List.Sublist.cons _ (List.Sublist.cons _ (List.Sublist.cons _ (List.Sublist.cons_cons _ (List.Sublist.cons _ (List.Sublist.cons_cons _ (List.nil_sublist _))))))))
          simpa [pRows, iRow, hRow, wRow, hwl] using h3
end Go.Proofs.Ytfjedjcdmaoeoaa
