/- BusyAt and FreeFor of both packages; conditions: none. -/
import Derived.Test.YtgfblbpiokiagaaLeaE
set_option maxRecDepth 100000
set_option linter.unusedVariables false
set_option linter.unusedSimpArgs false
namespace Go.Proofs.Ytgfblbpiokiagaa
open Eng Go Go.RowKit

theorem busyTo_len (l : List LeaseD) (t : Int) : ∀ k : Nat, (busyTo l t k).length ≤ k
  | 0 => by simp [busyTo]
  | k + 1 => by
    have := busyTo_len l t k
    simp only [busyTo, List.length_append]
    split <;> simp <;> omega
theorem i64s_app (l : List Int) (z : Int) : i64s l ++ [.int .i64 z] = i64s (l ++ [z]) := by simp [i64s]
theorem freeIn_step (l : List LeaseD) (f u : Int) (k m : Nat) (h : k < m) : freeIn l f u k (m - k) = if taken l k f u then freeIn l f u (k + 1) (m - (k + 1)) else k := by
  rw [show m - k = (m - (k + 1)) + 1 by omega, freeIn]

theorem iBusy_any {A : Option Addr} {n c : Nat} {l : List LeaseD} (t : Int) (w : World) (hL : Leases w A n l) (hn : n ≤ c) :
    Calls Try.prog 42 #[.slice A n c, .int .i64 t] w fun e w' => ∃ x : Option Addr × Nat, (BusyAt l t).length ≤ x.2 ∧ e = .returned (.slice x.1 (BusyAt l t).length x.2) ∧ Below w.heap.size w w' ∧ Fresh w.heap.size [rowOf 3 1 x.1 (BusyAt l t).length x.2 (i64s (BusyAt l t))] w' := by
  refine enter (C := cxS w []) (okS w []) (St.start w) Try.func42 rfl rfl ?_; conv => whnf
  refine ⟨rfl, CallS.p (fun w' hS => iValid_any w' (hL.below hS.below) hn) (fun hv => ?_) (fun hv => ?_)⟩ <;> conv => whnf
  rotate_left
  · (repeat' (first | (refine Sp.mk (fun hs => ?_) (fun hs => ?_) <;> first | (exfalso; omega) | (conv => whnf)) | (refine Ar.i (by omega) ?_; conv => whnf) | (refine NewS.mk (fun _ => ?_); conv => whnf) | (refine QuoS.nn (by omega) ?_; conv => whnf) | (refine RemS.nn (by omega) ?_; conv => whnf) | (refine QuietS.mk (by as_aux_lemma => kernel_rfl) ?_; conv => whnf) | refine RetS.mk (fun w' hS => ?_)))
    have e : BusyAt l t = [] := if_neg hv
    rw [e]
    exact ⟨(none, 0), Nat.le_refl _, rfl, hS.below, Fresh.empty _ _ _ _ _⟩
  have e : BusyAt l t = busyTo l t 6 := if_pos hv
  rw [e]
  refine LoopS.rows (okS w []) [(5, 6), (10, 22)] [5, 10] rfl (fun s : Nat × Option Addr × Nat => [.slice s.2.1 (busyTo l t s.1).length s.2.2, I64 s.1]) (fun s => [rowOf 3 1 s.2.1 (busyTo l t s.1).length s.2.2 (i64s (busyTo l t s.1))])
    (fun s => s.1 ≤ 6 ∧ (busyTo l t s.1).length ≤ s.2.2) (fun s => 6 - s.1) (0, none, 0) ⟨by omega, by simp [busyTo]⟩ ⟨rfl, rfl, trivial⟩ (LbTo.refl_nil _) (by simpa [rowOf_zero, busyTo, i64s] using RsTo.nil [] 3 1) (fun s g ⟨hk, hm⟩ => ?_)
  obtain ⟨k, A1, c1⟩ := s
  dsimp only at hk hm ⊢
  have hlen := busyTo_len l t k
  conv => whnf
  refine Sp.mk (fun h => ?_) (fun h => ?_) <;> conv => whnf
  · refine ⟨rfl, CallS.ro (fun w' hS => iownerAt_any _ _ w' (hL.below hS.below)) ?_⟩
    conv => whnf
    refine Sp.mk (fun h2 => ?_) (fun h2 => ?_) <;> conv => whnf
    · have e1 : busyTo l t (k + 1) = busyTo l t k ++ [(k : Int)] := by rw [busyTo, if_pos h2]
      (repeat' (first | (refine Sp.mk (fun hs => ?_) (fun hs => ?_) <;> first | (exfalso; omega) | (conv => whnf)) | (refine Ar.i (by omega) ?_; conv => whnf) | (refine NewS.mk (fun _ => ?_); conv => whnf) | (refine QuoS.nn (by omega) ?_; conv => whnf) | (refine RemS.nn (by omega) ?_; conv => whnf) | refine RetS.mk (fun w' hS => ?_)))
      refine SemS.appR (okS w []) (i := 0) rfl rfl (by decide) rfl (by omega) (fun w' hS => St.row hS (e := 3) (xs := [.int .i64 (k : Int)]) (List.mem_of_getElem? (i := 1) rfl)) (by simp [isOne]) (by simp only [maxLen]; omega) (by simp only; omega) (fun A2 c2 hc2 => ?_)
      conv => whnf
      (repeat' (first | (refine Sp.mk (fun hs => ?_) (fun hs => ?_) <;> first | (exfalso; omega) | (conv => whnf)) | (refine Ar.i (by omega) ?_; conv => whnf) | (refine NewS.mk (fun _ => ?_); conv => whnf) | (refine QuoS.nn (by omega) ?_; conv => whnf) | (refine RemS.nn (by omega) ?_; conv => whnf) | (refine QuietS.mk (by as_aux_lemma => kernel_rfl) ?_; conv => whnf) | refine RetS.mk (fun w' hS => ?_)))
      refine ⟨(k + 1, A2, c2), ⟨by dsimp only; omega, by dsimp only; rw [e1, List.length_append]; exact hc2⟩, by dsimp only; omega, ⟨by dsimp only; rw [e1, List.length_append]; rfl, rfl, trivial⟩, LbTo.refl_nil _, ?_⟩
      dsimp only
      rw [e1, ← i64s_app, List.length_append]
      exact (RsTo.sub (List.sublist_append_left [_] [_])).trans (RsTo.norm (i := 0) rfl)
    · have e1 : busyTo l t (k + 1) = busyTo l t k := by rw [busyTo, if_neg h2, List.append_nil]
      (repeat' (first | (refine Sp.mk (fun hs => ?_) (fun hs => ?_) <;> first | (exfalso; omega) | (conv => whnf)) | (refine Ar.i (by omega) ?_; conv => whnf) | (refine NewS.mk (fun _ => ?_); conv => whnf) | (refine QuoS.nn (by omega) ?_; conv => whnf) | (refine RemS.nn (by omega) ?_; conv => whnf) | (refine QuietS.mk (by as_aux_lemma => kernel_rfl) ?_; conv => whnf) | refine RetS.mk (fun w' hS => ?_)))
      refine ⟨(k + 1, A1, c1), ⟨by dsimp only; omega, by dsimp only; rw [e1]; exact hm⟩, by dsimp only; omega, ⟨by dsimp only; rw [e1]; rfl, rfl, trivial⟩, LbTo.refl_nil _, ?_⟩
      dsimp only
      rw [e1]
      exact RsTo.refl _
  · obtain rfl : k = 6 := by omega
    refine ⟨rfl, CallS.ro (fun w' hS => clip_int_any hm w') ?_⟩
    conv => whnf
    (repeat' (first | (refine Sp.mk (fun hs => ?_) (fun hs => ?_) <;> first | (exfalso; omega) | (conv => whnf)) | (refine Ar.i (by omega) ?_; conv => whnf) | (refine NewS.mk (fun _ => ?_); conv => whnf) | (refine QuoS.nn (by omega) ?_; conv => whnf) | (refine RemS.nn (by omega) ?_; conv => whnf) | (refine QuietS.mk (by as_aux_lemma => kernel_rfl) ?_; conv => whnf) | refine RetS.mk (fun w' hS => ?_)))
    exact ⟨(A1, (busyTo l t 6).length), Nat.le_refl _, rfl, hS.below, (hS.fresh (List.Sublist.refl _)).clipR (Nat.le_refl _) hm⟩

theorem sbusy_any {A : Option Addr} {n c : Nat} {l : List LeaseD} (t : Int) (w : World) (hL : Leases w A n l) (hv : Valid l) :
    Calls Try.prog 70 #[.slice A n c, .int .i64 t] w fun e w' => ∃ x : Option Addr × Nat, (busyTo l t 6).length ≤ x.2 ∧ e = .returned (.slice x.1 (busyTo l t 6).length x.2) ∧ Below w.heap.size w w' ∧ Fresh w.heap.size [rowOf 3 1 x.1 (busyTo l t 6).length x.2 (i64s (busyTo l t 6))] w' := by
  have hl := hL.len
  have hle := hL.le
  have hv2 := hv.2
  refine enter (C := cxS w []) (okS w []) (St.start w) Try.func70 rfl rfl ?_; conv => whnf
  refine NewS.mk (fun g0 => ?_)
  conv => whnf
  refine LoopS.rows (okS w []) [(5, 7), (9, 44)] [5, 6] rfl (fun s : Nat × Option Addr × Nat => [.slice s.2.1 (busyTo l t s.1).length s.2.2, I64 s.1]) (fun s => [rowOf 3 1 s.2.1 (busyTo l t s.1).length s.2.2 (i64s (busyTo l t s.1))])
    (fun s => s.1 ≤ 6 ∧ (busyTo l t s.1).length ≤ s.2.2) (fun s => 6 - s.1) (0, some ⟨g0, 0, none⟩, 0) ⟨by omega, by simp [busyTo]⟩ ⟨rfl, rfl, trivial⟩ (LbTo.refl_nil _) (RsTo.norm (i := 0) (A := some ⟨g0, 0, none⟩) (n := 0) (c := 0) (xs := []) rfl) (fun s g ⟨hk, hm⟩ => ?_)
  obtain ⟨k, A1, c1⟩ := s
  dsimp only at hk hm ⊢
  have hlen := busyTo_len l t k
  conv => whnf
  refine Sp.mk (fun h => ?_) (fun h => ?_) <;> conv => whnf
  · refine LoopS.rows (okS w []) [(5, 5), (7, 7), (13, 44)] [5, 7] rfl (fun s : Nat × Option Addr × Nat => [.slice s.2.1 (busyTo l t k ++ busyOne k t (l.take s.1)).length s.2.2, I64 s.1]) (fun s => [rowOf 3 1 s.2.1 (busyTo l t k ++ busyOne k t (l.take s.1)).length s.2.2 (i64s (busyTo l t k ++ busyOne k t (l.take s.1)))])
      (fun s => s.1 ≤ n ∧ (busyTo l t k ++ busyOne k t (l.take s.1)).length ≤ s.2.2 ∧ (busyOne k t (l.take s.1)).length ≤ s.1) (fun s => n - s.1) (0, A1, c1) ⟨by omega, by simpa [busyOne] using hm, by simp [busyOne]⟩ ⟨by simp [busyOne]; rfl, rfl, trivial⟩ (LbTo.refl_nil _) (by simpa [busyOne] using RsTo.refl _) (fun s g2 ⟨hj, hm2, hm3⟩ => ?_)
    obtain ⟨j, A2, c2⟩ := s
    dsimp only at hj hm2 hm3 ⊢
    conv => whnf
    refine Sp.mk (fun h5 => ?_) (fun h5 => ?_) <;> conv => whnf
    · obtain ⟨ad, x, rfl, hx, hxm, hc⟩ := hL.at_ (k := j) (by omega)
      have hok := okL_bounds (hv.1.1 x hxm)
      have hone := busyOne_at hx (k : Int) t
      have hno : ¬ has x k t → ∃ s' : Nat × Option Addr × Nat, (s'.1 ≤ n ∧ (busyTo l t k ++ busyOne k t (l.take s'.1)).length ≤ s'.2.2 ∧ (busyOne k t (l.take s'.1)).length ≤ s'.1) ∧ n - s'.1 < n - j ∧
          (SV.v (.slice A2 (busyTo l t k ++ busyOne k t (l.take j)).length c2) = SV.v (.slice s'.2.1 (busyTo l t k ++ busyOne k t (l.take s'.1)).length s'.2.2) ∧ s'.1 = j + 1) ∧
          RsTo [rowOf 3 1 A2 (busyTo l t k ++ busyOne k t (l.take j)).length c2 (i64s (busyTo l t k ++ busyOne k t (l.take j)))] [rowOf 3 1 s'.2.1 (busyTo l t k ++ busyOne k t (l.take s'.1)).length s'.2.2 (i64s (busyTo l t k ++ busyOne k t (l.take s'.1)))] := by
        intro hh
        rw [if_neg hh, List.append_nil] at hone
        refine ⟨(j + 1, A2, c2), ⟨by dsimp only; omega, by dsimp only; rw [hone]; exact hm2, by dsimp only; rw [hone]; omega⟩, by dsimp only; omega, ⟨by dsimp only; rw [hone], rfl⟩, ?_⟩
        dsimp only
        rw [hone]
        exact RsTo.refl _
      refine QuietS.mk (by as_aux_lemma => kernel_rfl) ?_
      conv => whnf
      refine IdxS.at_ j rfl rfl (by omega) ?_
      conv => whnf
      refine LdS.at_ (fun w' hS => hS.cell0 (hc 0 _ rfl)) ?_
      conv => whnf
      refine Sp.mk (fun h6 => ?_) (fun h6 => ?_) <;> conv => whnf
      · refine IdxS.at_ j rfl rfl (by omega) ?_
        conv => whnf
        refine LdS.at_ (fun w' hS => hS.cell0 (hc 2 _ rfl)) ?_
        conv => whnf
        refine IdxS.at_ j rfl rfl (by omega) ?_
        conv => whnf
        refine LdS.at_ (fun w' hS => hS.cell0 (hc 3 _ rfl)) ?_
        conv => whnf
        refine Ar.i (by omega) ?_
        conv => whnf
        refine ⟨rfl, CallQ.p (fun w' hS => inRange_any _ _ _ w') (fun h7 => ?_) (fun h7 => ?_)⟩ <;> conv => whnf
        · rw [if_pos (by unfold has; omega)] at hone
          (repeat' (first | (refine Sp.mk (fun hs => ?_) (fun hs => ?_) <;> first | (exfalso; omega) | (conv => whnf)) | (refine Ar.i (by omega) ?_; conv => whnf) | (refine NewS.mk (fun _ => ?_); conv => whnf) | (refine QuoS.nn (by omega) ?_; conv => whnf) | (refine RemS.nn (by omega) ?_; conv => whnf) | refine RetS.mk (fun w' hS => ?_)))
          refine SemS.appR (okS w []) (i := 0) rfl rfl (by decide) rfl (by omega) (fun w' hS => St.row hS (e := 3) (xs := [.int .i64 (k : Int)]) (List.mem_of_getElem? (i := 1) rfl)) (by simp [isOne]) (by simp only [maxLen, List.length_append]; omega) (by simp only [List.length_append]; omega) (fun A3 c3 hc3 => ?_)
          conv => whnf
          (repeat' (first | (refine Sp.mk (fun hs => ?_) (fun hs => ?_) <;> first | (exfalso; omega) | (conv => whnf)) | (refine Ar.i (by omega) ?_; conv => whnf) | (refine NewS.mk (fun _ => ?_); conv => whnf) | (refine QuoS.nn (by omega) ?_; conv => whnf) | (refine RemS.nn (by omega) ?_; conv => whnf) | (refine QuietS.mk (by as_aux_lemma => kernel_rfl) ?_; conv => whnf) | refine RetS.mk (fun w' hS => ?_)))
          have e2 : (busyTo l t k ++ busyOne k t (l.take (j + 1))).length = (busyTo l t k ++ busyOne k t (l.take j)).length + 1 := by rw [hone, ← List.append_assoc, List.length_append]; rfl
          refine ⟨(j + 1, A3, c3), ⟨by dsimp only; omega, by dsimp only; rw [e2]; exact hc3, by dsimp only; rw [hone, List.length_append, List.length_singleton]; omega⟩, by dsimp only; omega, ⟨congrArg (fun m => SV.v (Value.slice A3 m c3)) e2.symm, rfl, trivial⟩, LbTo.refl_nil _, ?_⟩
          dsimp only
          rw [e2, hone, ← List.append_assoc, ← i64s_app]
          exact (RsTo.sub (List.sublist_append_left [_] [_])).trans (RsTo.norm (i := 0) rfl)
        · (repeat' (first | (refine Sp.mk (fun hs => ?_) (fun hs => ?_) <;> first | (exfalso; omega) | (conv => whnf)) | (refine Ar.i (by omega) ?_; conv => whnf) | (refine NewS.mk (fun _ => ?_); conv => whnf) | (refine QuoS.nn (by omega) ?_; conv => whnf) | (refine RemS.nn (by omega) ?_; conv => whnf) | (refine QuietS.mk (by as_aux_lemma => kernel_rfl) ?_; conv => whnf) | refine RetS.mk (fun w' hS => ?_)))
          obtain ⟨s', g1, g2, ⟨g3, g4⟩, g5⟩ := hno (by unfold has; omega)
          exact ⟨s', g1, by omega, ⟨g3, by rw [g4]; rfl, trivial⟩, LbTo.refl_nil _, g5⟩
      · (repeat' (first | (refine Sp.mk (fun hs => ?_) (fun hs => ?_) <;> first | (exfalso; omega) | (conv => whnf)) | (refine Ar.i (by omega) ?_; conv => whnf) | (refine NewS.mk (fun _ => ?_); conv => whnf) | (refine QuoS.nn (by omega) ?_; conv => whnf) | (refine RemS.nn (by omega) ?_; conv => whnf) | (refine QuietS.mk (by as_aux_lemma => kernel_rfl) ?_; conv => whnf) | refine RetS.mk (fun w' hS => ?_)))
        obtain ⟨s', g1, g2, ⟨g3, g4⟩, g5⟩ := hno (fun hh => h6 hh.1)
        exact ⟨s', g1, by omega, ⟨g3, by rw [g4]; rfl, trivial⟩, LbTo.refl_nil _, g5⟩
    · have hjn : j = n := by omega
      have e1 : busyTo l t k ++ busyOne k t (l.take j) = busyTo l t (k + 1) := by rw [hjn, ← hl, List.take_length, busyOne_eq hv.1, busyTo]
      rw [e1] at hm2 ⊢
      (repeat' (first | (refine Sp.mk (fun hs => ?_) (fun hs => ?_) <;> first | (exfalso; omega) | (conv => whnf)) | (refine Ar.i (by omega) ?_; conv => whnf) | (refine NewS.mk (fun _ => ?_); conv => whnf) | (refine QuoS.nn (by omega) ?_; conv => whnf) | (refine RemS.nn (by omega) ?_; conv => whnf) | (refine QuietS.mk (by as_aux_lemma => kernel_rfl) ?_; conv => whnf) | refine RetS.mk (fun w' hS => ?_)))
      exact ⟨(k + 1, A2, c2), ⟨by dsimp only; omega, hm2⟩, by dsimp only; omega, ⟨rfl, rfl, trivial⟩, LbTo.refl_nil _, RsTo.refl _⟩
  · obtain rfl : k = 6 := by omega
    (repeat' (first | (refine Sp.mk (fun hs => ?_) (fun hs => ?_) <;> first | (exfalso; omega) | (conv => whnf)) | (refine Ar.i (by omega) ?_; conv => whnf) | (refine NewS.mk (fun _ => ?_); conv => whnf) | (refine QuoS.nn (by omega) ?_; conv => whnf) | (refine RemS.nn (by omega) ?_; conv => whnf) | (refine QuietS.mk (by as_aux_lemma => kernel_rfl) ?_; conv => whnf) | refine RetS.mk (fun w' hS => ?_)))
    exact ⟨(A1, c1), hm, rfl, hS.below, hS.fresh (List.Sublist.refl _)⟩
theorem sBusy_any {A : Option Addr} {n c : Nat} {l : List LeaseD} (t : Int) (w : World) (hL : Leases w A n l) :
    Calls Try.prog 48 #[.slice A n c, .int .i64 t] w fun e w' => ∃ x : Option Addr × Nat, (BusyAt l t).length ≤ x.2 ∧ e = .returned (.slice x.1 (BusyAt l t).length x.2) ∧ Below w.heap.size w w' ∧ Fresh w.heap.size [rowOf 3 1 x.1 (BusyAt l t).length x.2 (i64s (BusyAt l t))] w' := by
  refine enter (C := cxS w []) (okS w []) (St.start w) Try.func48 rfl rfl ?_; conv => whnf
  refine ⟨rfl, CallS.p (fun w' hS => svalid_any w' (hL.below hS.below)) (fun hv => ?_) (fun hv => ?_)⟩ <;> conv => whnf
  rotate_left
  · (repeat' (first | (refine Sp.mk (fun hs => ?_) (fun hs => ?_) <;> first | (exfalso; omega) | (conv => whnf)) | (refine Ar.i (by omega) ?_; conv => whnf) | (refine NewS.mk (fun _ => ?_); conv => whnf) | (refine QuoS.nn (by omega) ?_; conv => whnf) | (refine RemS.nn (by omega) ?_; conv => whnf) | (refine QuietS.mk (by as_aux_lemma => kernel_rfl) ?_; conv => whnf) | refine RetS.mk (fun w' hS => ?_)))
    have e : BusyAt l t = [] := if_neg hv
    rw [e]
    exact ⟨(none, 0), Nat.le_refl _, rfl, hS.below, Fresh.empty _ _ _ _ _⟩
  have e : BusyAt l t = busyTo l t 6 := if_pos hv
  rw [e]
  refine ⟨rfl, CallS.own (fun w' hS => sbusy_any t w' (hL.below hS.below) hv) (fun x hx => ?_)⟩
  conv => whnf
  (repeat' (first | (refine Sp.mk (fun hs => ?_) (fun hs => ?_) <;> first | (exfalso; omega) | (conv => whnf)) | (refine Ar.i (by omega) ?_; conv => whnf) | (refine NewS.mk (fun _ => ?_); conv => whnf) | (refine QuoS.nn (by omega) ?_; conv => whnf) | (refine RemS.nn (by omega) ?_; conv => whnf) | (refine QuietS.mk (by as_aux_lemma => kernel_rfl) ?_; conv => whnf) | refine RetS.mk (fun w' hS => ?_)))
  exact ⟨x, hx, rfl, hS.below, hS.fresh (List.Sublist.refl _)⟩
end Go.Proofs.Ytgfblbpiokiagaa
