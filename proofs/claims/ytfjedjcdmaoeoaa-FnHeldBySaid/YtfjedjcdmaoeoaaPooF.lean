/- HeldBy, of both packages; conditions: none. -/
import Derived.Test.YtfjedjcdmaoeoaaPooD
set_option maxRecDepth 100000
set_option linter.unusedVariables false
set_option linter.unusedSimpArgs false
namespace Go.Proofs.Ytfjedjcdmaoeoaa
open Eng Go Go.RowKit

theorem hb_succ {h : List HoldD} {t : Int} {x : HoldD} {k : Nat} (hx : h[k]? = some x) : heldBy (h.take (k + 1)) t = heldBy (h.take k) t ++ (if x.o = t then [x.c] else []) := by rw [take_snoc hx, heldBy_snoc]
theorem hb_len (h : List HoldD) (t : Int) (k : Nat) : (heldBy (h.take k) t).length ≤ k := by
  have h1 := heldBy_len (h.take k) t
  have h2 := List.length_take_le k h
  omega
theorem held_no {p : PoolD} {t : Int} {w w' : World} (h : ¬ okPool p) (hb : Below w.heap.size w w') : ∃ y : Option Addr × Nat, (HeldBy p t).length ≤ y.2 ∧ Ending.returned (.slice none 0 0) = .returned (.slice y.1 (HeldBy p t).length y.2) ∧ Below w.heap.size w w' ∧ Fresh w.heap.size [rowOf 3 1 y.1 (HeldBy p t).length y.2 (i64s (HeldBy p t))] w' := by
  have e1 : HeldBy p t = [] := if_neg h
  rw [e1]
  exact ⟨(none, 0), Nat.le_refl _, rfl, hb, Fresh.empty _ _ _ _ _⟩
theorem iHeldBy_any {p : PoolD} {a : PAd} (t : Int) (w : World) (hP : PoolR w p a) (hci : p.i.length ≤ a.ci) :
    Calls Try.prog 23 #[.agg (poolV p a).toArray, .int .i64 t] w fun e w' => ∃ y : Option Addr × Nat, (HeldBy p t).length ≤ y.2 ∧ e = .returned (.slice y.1 (HeldBy p t).length y.2) ∧ Below w.heap.size w w' ∧ Fresh w.heap.size [rowOf 3 1 y.1 (HeldBy p t).length y.2 (i64s (HeldBy p t))] w' := by
  have hhl := hP.h.le
  refine enter (C := cxS w []) (okS w []) (St.start w) Try.func23 rfl rfl ?_; conv => whnf
  refine NewS.mk (fun g0 => ?_)
  conv => whnf
  refine ⟨rfl, CallS.p (fun w' hS => impl_ValidPool_any w' (hP.below hS.below) hci) (fun hok => ?_) (fun hok => ?_)⟩ <;> conv => whnf
  rotate_left
  · (repeat' (first | (refine Sp.mk (fun hs => ?_) (fun hs => ?_) <;> first | (exfalso; omega) | (conv => whnf)) | (refine Ar.i (by omega) ?_; conv => whnf) | (refine NewS.mk (fun _ => ?_); conv => whnf) | (refine QuoS.nn (by omega) ?_; conv => whnf) | (refine RemS.nn (by omega) ?_; conv => whnf) | refine RetS.mk (fun w' hS => ?_)))
    exact held_no hok hS.below
  have e1 : HeldBy p t = heldBy (p.h.take p.h.length) t := by rw [List.take_length]; exact if_pos hok
  rw [e1]
  refine LoopS.rows (okS w []) [(5, 5), (7, 7), (14, 27)] [5, 14] rfl (fun s : Nat × Option Addr × Nat => [.slice s.2.1 (heldBy (p.h.take s.1) t).length s.2.2, I64 s.1]) (fun s => [rowOf 3 1 s.2.1 (heldBy (p.h.take s.1) t).length s.2.2 (i64s (heldBy (p.h.take s.1) t))])
    (fun s => s.1 ≤ p.h.length ∧ (heldBy (p.h.take s.1) t).length ≤ s.2.2) (fun s => p.h.length - s.1) (0, none, 0) ⟨by omega, Nat.le_refl _⟩ ⟨rfl, rfl, trivial⟩ (LbTo.self rfl) (by simpa [rowOf_zero, heldBy, i64s] using RsTo.nil [] 3 1) (fun s g ⟨hk, hm⟩ => ?_)
  obtain ⟨k, A1, c1⟩ := s
  dsimp only at hk hm ⊢
  have hlen := hb_len p.h t k
  conv => whnf
  refine Sp.mk (fun h => ?_) (fun h => ?_) <;> conv => whnf
  · obtain ⟨ad, x, e, hx, hxm, hc0⟩ := hP.h.at_ (k := k) (by omega)
    have hsucc := hb_succ (t := t) hx
    refine IdxS.at_ k e rfl (by omega) ?_
    conv => whnf
    refine LdsS.at_ (vs := holdV x) rfl (fun w' hS i u hu => hS.cell0 (hc0 i u hu)) ?_
    conv => whnf
    refine NewS.mk (fun g3 => ?_)
    conv => whnf
    refine Sp.mk (fun h3 => ?_) (fun h3 => ?_) <;> conv => whnf
    rotate_left
    · rw [if_neg h3, List.append_nil] at hsucc
      (repeat' (first | (refine Sp.mk (fun hs => ?_) (fun hs => ?_) <;> first | (exfalso; omega) | (conv => whnf)) | (refine Ar.i (by omega) ?_; conv => whnf) | (refine NewS.mk (fun _ => ?_); conv => whnf) | (refine QuoS.nn (by omega) ?_; conv => whnf) | (refine RemS.nn (by omega) ?_; conv => whnf) | (refine QuietS.mk (by as_aux_lemma => kernel_rfl) ?_; conv => whnf) | refine RetS.mk (fun w' hS => ?_)))
      refine ⟨(k + 1, A1, c1), ⟨by dsimp only; omega, by dsimp only; rw [hsucc]; exact hm⟩, by dsimp only; omega, ⟨congrArg (fun q : List Int => SV.v (Value.slice A1 q.length c1)) hsucc.symm, rfl, trivial⟩, ⟨rfl, (LbTo.self rfl).ok⟩, ?_⟩
      dsimp only
      rw [hsucc]
      exact RsTo.refl _
    · rw [if_pos h3] at hsucc
      have e2 : (heldBy (p.h.take (k + 1)) t).length = (heldBy (p.h.take k) t).length + 1 := by rw [hsucc, List.length_append]; rfl
      (repeat' (first | (refine Sp.mk (fun hs => ?_) (fun hs => ?_) <;> first | (exfalso; omega) | (conv => whnf)) | (refine Ar.i (by omega) ?_; conv => whnf) | (refine NewS.mk (fun _ => ?_); conv => whnf) | (refine QuoS.nn (by omega) ?_; conv => whnf) | (refine RemS.nn (by omega) ?_; conv => whnf) | refine RetS.mk (fun w' hS => ?_)))
      refine SemS.appG (okS w []) (i := 0) rfl rfl (by decide) rfl (fun w' hS => St.row hS (e := 3) (xs := [.int .i64 x.c]) (List.mem_of_getElem? (i := 1) rfl)) (by simp [isOne]) (by simp only [maxLen]; omega) (by simp only; omega) (fun A2 c2 hc2 => ?_)
      conv => whnf
      (repeat' (first | (refine Sp.mk (fun hs => ?_) (fun hs => ?_) <;> first | (exfalso; omega) | (conv => whnf)) | (refine Ar.i (by omega) ?_; conv => whnf) | (refine NewS.mk (fun _ => ?_); conv => whnf) | (refine QuoS.nn (by omega) ?_; conv => whnf) | (refine RemS.nn (by omega) ?_; conv => whnf) | (refine QuietS.mk (by as_aux_lemma => kernel_rfl) ?_; conv => whnf) | refine RetS.mk (fun w' hS => ?_)))
      refine ⟨(k + 1, A2, c2), ⟨by dsimp only; omega, by dsimp only; rw [e2]; exact hc2⟩, by dsimp only; omega, ⟨congrArg (fun m => SV.v (Value.slice A2 m c2)) e2.symm, rfl, trivial⟩, ⟨rfl, (LbTo.self rfl).ok⟩, ?_⟩
      have e3 : i64s (heldBy (p.h.take (k + 1)) t) = i64s (heldBy (p.h.take k) t) ++ [.int .i64 x.c] := by rw [hsucc, i64s, List.map_append]; rfl
      dsimp only
      rw [e2, e3]
      exact RsTo.sub (List.sublist_append_left [_] [_])
  · have hkN : k = p.h.length := by omega
    subst hkN
    refine ⟨rfl, CallS.ro (fun w' hS => clip_int_any hm w') ?_⟩
    conv => whnf
    (repeat' (first | (refine Sp.mk (fun hs => ?_) (fun hs => ?_) <;> first | (exfalso; omega) | (conv => whnf)) | (refine Ar.i (by omega) ?_; conv => whnf) | (refine NewS.mk (fun _ => ?_); conv => whnf) | (refine QuoS.nn (by omega) ?_; conv => whnf) | (refine RemS.nn (by omega) ?_; conv => whnf) | refine RetS.mk (fun w' hS => ?_)))
    exact ⟨(A1, (heldBy (p.h.take p.h.length) t).length), Nat.le_refl _, rfl, hS.below, (hS.fresh (List.Sublist.refl _)).clipR (Nat.le_refl _) hm⟩
theorem sHeldBy_any {p : PoolD} {a : PAd} (t : Int) (w : World) (hP : PoolR w p a) (hs : p.i.length + p.h.length ≤ 2000000) :
    Calls Try.prog 25 #[.agg (poolV p a).toArray, .int .i64 t] w fun e w' => ∃ y : Option Addr × Nat, (HeldBy p t).length ≤ y.2 ∧ e = .returned (.slice y.1 (HeldBy p t).length y.2) ∧ Below w.heap.size w w' ∧ Fresh w.heap.size [rowOf 3 1 y.1 (HeldBy p t).length y.2 (i64s (HeldBy p t))] w' := by
  have hhl := hP.h.le
  refine enter (C := cxS w []) (okS w []) (St.start w) Try.func25 rfl rfl ?_; conv => whnf
  refine NewS.mk (fun g0 => ?_)
  conv => whnf
  refine NewS.mk (fun g1 => ?_)
  conv => whnf
  refine ⟨rfl, CallS.p (fun w' hS => spec_validPool_any w' (hP.below hS.below) hs) (fun hok => ?_) (fun hok => ?_)⟩ <;> conv => whnf
  rotate_left
  · (repeat' (first | (refine Sp.mk (fun hs => ?_) (fun hs => ?_) <;> first | (exfalso; omega) | (conv => whnf)) | (refine Ar.i (by omega) ?_; conv => whnf) | (refine NewS.mk (fun _ => ?_); conv => whnf) | (refine QuoS.nn (by omega) ?_; conv => whnf) | (refine RemS.nn (by omega) ?_; conv => whnf) | refine RetS.mk (fun w' hS => ?_)))
    exact held_no hok hS.below
  have e1 : HeldBy p t = heldBy (p.h.take p.h.length) t := by rw [List.take_length]; exact if_pos hok
  rw [e1]
  refine LoopS.rows (okS w []) [(5, 6), (11, 34)] [5, 6] rfl (fun s : Nat × Option Addr × Nat => [.slice s.2.1 (heldBy (p.h.take s.1) t).length s.2.2, I64 s.1]) (fun s => [rowOf 3 1 s.2.1 (heldBy (p.h.take s.1) t).length s.2.2 (i64s (heldBy (p.h.take s.1) t))])
    (fun s => s.1 ≤ p.h.length ∧ (heldBy (p.h.take s.1) t).length ≤ s.2.2) (fun s => p.h.length - s.1) (0, some ⟨g1, 0, none⟩, 0) ⟨by omega, by simp [heldBy]⟩ ⟨rfl, rfl, trivial⟩ (LbTo.self rfl) (RsTo.norm (i := 0) (A := some ⟨g1, 0, none⟩) (n := 0) (c := 0) (xs := []) rfl) (fun s g ⟨hk, hm⟩ => ?_)
  obtain ⟨k, A1, c1⟩ := s
  dsimp only at hk hm ⊢
  have hlen := hb_len p.h t k
  conv => whnf
  refine Sp.mk (fun h => ?_) (fun h => ?_) <;> conv => whnf
  · obtain ⟨ad, x, e, hx, hxm, hc0⟩ := hP.h.at_ (k := k) (by omega)
    have hc1 := hc0 0 (.int .i64 x.c) rfl
    have hc2 := hc0 1 (.int .i64 x.o) rfl
    have hsucc := hb_succ (t := t) hx
    refine IdxS.at_ k e rfl (by omega) ?_
    conv => whnf
    refine LdS.at_ (v := .int .i64 x.o) (fun w' hS => hS.cell0 hc2) ?_
    conv => whnf
    refine Sp.mk (fun h3 => ?_) (fun h3 => ?_) <;> conv => whnf
    rotate_left
    · rw [if_neg h3, List.append_nil] at hsucc
      (repeat' (first | (refine Sp.mk (fun hs => ?_) (fun hs => ?_) <;> first | (exfalso; omega) | (conv => whnf)) | (refine Ar.i (by omega) ?_; conv => whnf) | (refine NewS.mk (fun _ => ?_); conv => whnf) | (refine QuoS.nn (by omega) ?_; conv => whnf) | (refine RemS.nn (by omega) ?_; conv => whnf) | (refine QuietS.mk (by as_aux_lemma => kernel_rfl) ?_; conv => whnf) | refine RetS.mk (fun w' hS => ?_)))
      refine ⟨(k + 1, A1, c1), ⟨by dsimp only; omega, by dsimp only; rw [hsucc]; exact hm⟩, by dsimp only; omega, ⟨congrArg (fun q : List Int => SV.v (Value.slice A1 q.length c1)) hsucc.symm, rfl, trivial⟩, LbTo.self rfl, ?_⟩
      dsimp only
      rw [hsucc]
      exact RsTo.refl _
    · rw [if_pos h3] at hsucc
      have e2 : (heldBy (p.h.take (k + 1)) t).length = (heldBy (p.h.take k) t).length + 1 := by rw [hsucc, List.length_append]; rfl
      refine IdxS.at_ k e rfl (by omega) ?_
      conv => whnf
      refine LdS.at_ (v := .int .i64 x.c) (fun w' hS => hS.cell0 hc1) ?_
      conv => whnf
      (repeat' (first | (refine Sp.mk (fun hs => ?_) (fun hs => ?_) <;> first | (exfalso; omega) | (conv => whnf)) | (refine Ar.i (by omega) ?_; conv => whnf) | (refine NewS.mk (fun _ => ?_); conv => whnf) | (refine QuoS.nn (by omega) ?_; conv => whnf) | (refine RemS.nn (by omega) ?_; conv => whnf) | refine RetS.mk (fun w' hS => ?_)))
      refine SemS.appG (okS w []) (i := 0) rfl rfl (by decide) rfl (fun w' hS => St.row hS (e := 3) (xs := [.int .i64 x.c]) (List.mem_of_getElem? (i := 1) rfl)) (by simp [isOne]) (by simp only [maxLen]; omega) (by simp only; omega) (fun A2 c2 hc2 => ?_)
      conv => whnf
      (repeat' (first | (refine Sp.mk (fun hs => ?_) (fun hs => ?_) <;> first | (exfalso; omega) | (conv => whnf)) | (refine Ar.i (by omega) ?_; conv => whnf) | (refine NewS.mk (fun _ => ?_); conv => whnf) | (refine QuoS.nn (by omega) ?_; conv => whnf) | (refine RemS.nn (by omega) ?_; conv => whnf) | (refine QuietS.mk (by as_aux_lemma => kernel_rfl) ?_; conv => whnf) | refine RetS.mk (fun w' hS => ?_)))
      refine ⟨(k + 1, A2, c2), ⟨by dsimp only; omega, by dsimp only; rw [e2]; exact hc2⟩, by dsimp only; omega, ⟨congrArg (fun m => SV.v (Value.slice A2 m c2)) e2.symm, rfl, trivial⟩, LbTo.self rfl, ?_⟩
      have e3 : i64s (heldBy (p.h.take (k + 1)) t) = i64s (heldBy (p.h.take k) t) ++ [.int .i64 x.c] := by rw [hsucc, i64s, List.map_append]; rfl
      dsimp only
      rw [e2, e3]
      exact RsTo.sub (List.sublist_append_left [_] [_])
  · have hkN : k = p.h.length := by omega
    subst hkN
    (repeat' (first | (refine Sp.mk (fun hs => ?_) (fun hs => ?_) <;> first | (exfalso; omega) | (conv => whnf)) | (refine Ar.i (by omega) ?_; conv => whnf) | (refine NewS.mk (fun _ => ?_); conv => whnf) | (refine QuoS.nn (by omega) ?_; conv => whnf) | (refine RemS.nn (by omega) ?_; conv => whnf) | refine RetS.mk (fun w' hS => ?_)))
    exact ⟨(A1, c1), hm, rfl, hS.below, hS.fresh (List.Sublist.refl _)⟩
end Go.Proofs.Ytfjedjcdmaoeoaa
