/- Valid pools, of spec; conditions: none. -/
import Derived.Test.YtfjedjcdmaoeoaaPooB
set_option maxRecDepth 100000
set_option linter.unusedVariables false
set_option linter.unusedSimpArgs false
namespace Go.Proofs.Ytfjedjcdmaoeoaa
open Eng Go Go.RowKit

def seen (p : PoolD) (k : Nat) : List Int := p.i ++ hc (p.h.take k)
theorem seen_len (p : PoolD) {k : Nat} (hk : k ≤ p.h.length) : (seen p k).length = p.i.length + k := by
  rw [seen, List.length_append, hc_len, List.length_take]; omega
theorem seen_succ {p : PoolD} {k : Nat} {x : HoldD} (hx : p.h[k]? = some x) : seen p (k + 1) = seen p k ++ [x.c] := by
  rw [seen, hc_take hx, ← List.append_assoc]; rfl
theorem nodup_pre {p : PoolD} (h : okPool p) (k : Nat) {x : HoldD} (hx : p.h[k]? = some x) (hm : x.c ∈ seen p k) : False := by
  have h2 : (hc p.h)[k]? = some x.c := by simp [hc, hx]
  have h1 := h.2.1
  rcases List.mem_append.1 hm with hm | hm
  · exact idle_held h hm (mem_hc.2 ⟨x, List.mem_of_getElem? hx, rfl⟩)
  · refine nodup_no h2 ?_ (held_nodup h)
    rw [hc, List.map_take] at hm
    exact hm
theorem i64s_snoc (l : List Int) (z : Int) : i64s l ++ [.int .i64 z] = i64s (l ++ [z]) := by simp [i64s]

theorem spec_validPool_any {p : PoolD} {a : PAd} (w : World) (hP : PoolR w p a) (hs : p.i.length + p.h.length ≤ 2000000) :
    Calls Try.prog 50 #[.agg (poolV p a).toArray] w fun e w' => e = .returned (.bool (decide (okPool p))) ∧ Below w.heap.size w w' := by
  have hil := hP.i.le
  have hhl := hP.h.le
  refine enter (C := cxS w []) (okS w []) (St.start w) Try.func50 rfl rfl ?_; conv => whnf
  refine NewS.mk (fun g0 => ?_)
  conv => whnf
  refine NewS.mk (fun g1 => ?_)
  conv => whnf
  refine LoopS.rows (okS w []) [(2, 4), (7, 28)] [3, 4] rfl (fun s : Nat × Option Addr × Nat => [.slice s.2.1 s.1 s.2.2, I64 s.1]) (fun s => [rowOf 3 1 s.2.1 s.1 s.2.2 (i64s (p.i.take s.1))])
    (fun s => s.1 ≤ p.i.length ∧ s.1 ≤ s.2.2 ∧ (p.i.take s.1).Nodup) (fun s => p.i.length - s.1) (0, some ⟨g1, 0, none⟩, 0) ⟨by omega, Nat.le_refl _, by simp⟩ ⟨rfl, rfl, trivial⟩ (LbTo.self rfl) (RsTo.norm (i := 0) (A := some ⟨g1, 0, none⟩) (n := 0) (c := 0) (xs := []) rfl) (fun s g ⟨hk, hm, hI⟩ => ?_)
  obtain ⟨k, A1, c1⟩ := s
  dsimp only at hk hm hI ⊢
  conv => whnf
  refine Sp.mk (fun h => ?_) (fun h => ?_) <;> conv => whnf
  · obtain ⟨ad, x, e, hx, hxm, hc0⟩ := hP.i.at_ (k := k) (by omega)
    refine IdxS.at_ k e rfl (by omega) ?_
    conv => whnf
    refine LdS.at_ (v := .int .i64 x) (fun w' hS => hS.cell0 hc0) ?_
    conv => whnf
    refine ⟨rfl, CallS.p (fun w' hS => spec_isIn_any x w' (St.intsR hS (l := p.i.take k) 0 rfl (by omega))) (fun h2 => ?_) (fun h2 => ?_)⟩ <;> conv => whnf
    · (repeat' (first | (refine Sp.mk (fun hs => ?_) (fun hs => ?_) <;> first | (exfalso; omega) | (conv => whnf)) | (refine Ar.i (by omega) ?_; conv => whnf) | (refine NewS.mk (fun _ => ?_); conv => whnf) | (refine QuoS.nn (by omega) ?_; conv => whnf) | (refine RemS.nn (by omega) ?_; conv => whnf) | (refine QuietS.mk (by as_aux_lemma => kernel_rfl) ?_; conv => whnf) | refine RetS.mk (fun w' hS => ?_)))
      exact ⟨by rw [decide_eq_false (fun h => nodup_no hx h2 (idle_nodup h))], hS.below⟩
    refine IdxS.at_ k e rfl (by omega) ?_
    conv => whnf
    refine LdS.at_ (v := .int .i64 x) (fun w' hS => hS.cell0 hc0) ?_
    conv => whnf
    refine NewS.mk (fun g2 => ?_)
    conv => whnf
    refine SemS.appG (okS w []) (i := 0) rfl rfl (by decide) rfl (fun w' hS => St.row hS (e := 3) (xs := [.int .i64 x]) (List.mem_of_getElem? (i := 1) rfl)) (by simp [isOne]) (by simp only [maxLen]; omega) (by simp only; omega) (fun A2 c2 hc2 => ?_)
    conv => whnf
    refine Ar.i (by omega) ?_
    conv => whnf
    refine ⟨(k + 1, A2, c2), ⟨by dsimp only; omega, hc2, by dsimp only; rw [take_snoc hx]; exact nodup_snoc hI h2⟩, by dsimp only; omega, ⟨rfl, rfl, trivial⟩, LbTo.self rfl, ?_⟩
    dsimp only
    rw [take_snoc hx, ← i64s_snoc]
    exact RsTo.sub (List.sublist_append_left [_] [_])
  have hkn : k = p.i.length := by omega
  subst hkn
  rw [List.take_length] at hI ⊢
  refine LoopS.rows (okS w []) [(2, 3), (5, 5), (29, 62)] [3, 5] rfl (fun s : Nat × Option Addr × Nat => [.slice s.2.1 (p.i.length + s.1) s.2.2, I64 s.1]) (fun s => [rowOf 3 1 s.2.1 (p.i.length + s.1) s.2.2 (i64s (seen p s.1))])
    (fun s => s.1 ≤ p.h.length ∧ p.i.length + s.1 ≤ s.2.2 ∧ (seen p s.1).Nodup ∧ ∀ x ∈ p.h.take s.1, 0 ≤ x.o ∧ x.o ≤ 4) (fun s => p.h.length - s.1) (0, A1, c1) ⟨by omega, hm, by simpa [seen, hc] using hI, by simp⟩ ⟨rfl, rfl, trivial⟩ (LbTo.self rfl) (by simpa [seen, hc] using RsTo.refl _) (fun s g2 ⟨hj, hm2, hJ1, hJ2⟩ => ?_)
  obtain ⟨j, A2, c2⟩ := s
  dsimp only at hj hm2 hJ1 hJ2 ⊢
  have hsl := seen_len p hj
  conv => whnf
  refine Sp.mk (fun h => ?_) (fun h => ?_) <;> conv => whnf
  · obtain ⟨ad, x, e, hx, hxm, hc0⟩ := hP.h.at_ (k := j) (by omega)
    have hc1 := hc0 0 (.int .i64 x.c) rfl
    have hc2 := hc0 1 (.int .i64 x.o) rfl
    refine IdxS.at_ j e rfl (by omega) ?_
    conv => whnf
    refine LdS.at_ (v := .int .i64 x.c) (fun w' hS => hS.cell0 hc1) ?_
    conv => whnf
    refine ⟨rfl, CallS.p (fun w' hS => spec_isIn_any x.c w' (St.intsR hS (l := seen p j) 0 rfl (by omega))) (fun h2 => ?_) (fun h2 => ?_)⟩ <;> conv => whnf
    · (repeat' (first | (refine Sp.mk (fun hs => ?_) (fun hs => ?_) <;> first | (exfalso; omega) | (conv => whnf)) | (refine Ar.i (by omega) ?_; conv => whnf) | (refine NewS.mk (fun _ => ?_); conv => whnf) | (refine QuoS.nn (by omega) ?_; conv => whnf) | (refine RemS.nn (by omega) ?_; conv => whnf) | (refine QuietS.mk (by as_aux_lemma => kernel_rfl) ?_; conv => whnf) | refine RetS.mk (fun w' hS => ?_)))
      exact ⟨by rw [decide_eq_false (fun h => nodup_pre h j hx h2)], hS.below⟩
    refine IdxS.at_ j e rfl (by omega) ?_
    conv => whnf
    refine LdS.at_ (v := .int .i64 x.o) (fun w' hS => hS.cell0 hc2) ?_
    conv => whnf
    refine ⟨rfl, CallS.p (fun w' hS => inRange_any _ _ _ w') (fun h3 => ?_) (fun h3 => ?_)⟩ <;> conv => whnf
    rotate_left
    · (repeat' (first | (refine Sp.mk (fun hs => ?_) (fun hs => ?_) <;> first | (exfalso; omega) | (conv => whnf)) | (refine Ar.i (by omega) ?_; conv => whnf) | (refine NewS.mk (fun _ => ?_); conv => whnf) | (refine QuoS.nn (by omega) ?_; conv => whnf) | (refine RemS.nn (by omega) ?_; conv => whnf) | (refine QuietS.mk (by as_aux_lemma => kernel_rfl) ?_; conv => whnf) | refine RetS.mk (fun w' hS => ?_)))
      exact ⟨by rw [decide_eq_false (fun h => h3 (h.2.2.2.1 x hxm))], hS.below⟩
    refine IdxS.at_ j e rfl (by omega) ?_
    conv => whnf
    refine LdS.at_ (v := .int .i64 x.c) (fun w' hS => hS.cell0 hc1) ?_
    conv => whnf
    refine NewS.mk (fun g2 => ?_)
    conv => whnf
    refine SemS.appG (okS w []) (i := 0) rfl rfl (by decide) rfl (fun w' hS => St.row hS (e := 3) (xs := [.int .i64 x.c]) (List.mem_of_getElem? (i := 1) rfl)) (by simp [isOne]) (by simp only [maxLen]; omega) (by simp only; omega) (fun A3 c3 hc3 => ?_)
    conv => whnf
    refine Ar.i (by omega) ?_
    conv => whnf
    refine ⟨(j + 1, A3, c3), ⟨by dsimp only; omega, by dsimp only; omega, by dsimp only; rw [seen_succ hx]; exact nodup_snoc hJ1 h2, mem_snoc hx hJ2 h3⟩, by dsimp only; omega, ⟨rfl, rfl, trivial⟩, LbTo.self rfl, ?_⟩
    dsimp only
    rw [seen_succ hx, ← i64s_snoc]
    exact RsTo.sub (List.sublist_append_left [_] [_])
  have hjn : j = p.h.length := by omega
  subst hjn
  have e1 : seen p p.h.length = conns p := by rw [seen, List.take_length]; rfl
  rw [List.take_length] at hJ2
  rw [e1] at hJ1 hsl ⊢
  refine ⟨rfl, CallS.p (fun w' hS => inRange_any _ _ _ w') (fun h1 => ?_) (fun h1 => ?_)⟩ <;> conv => whnf
  rotate_left
  · (repeat' (first | (refine Sp.mk (fun hs => ?_) (fun hs => ?_) <;> first | (exfalso; omega) | (conv => whnf)) | (refine Ar.i (by omega) ?_; conv => whnf) | (refine NewS.mk (fun _ => ?_); conv => whnf) | (refine QuoS.nn (by omega) ?_; conv => whnf) | (refine RemS.nn (by omega) ?_; conv => whnf) | (refine QuietS.mk (by as_aux_lemma => kernel_rfl) ?_; conv => whnf) | refine RetS.mk (fun w' hS => ?_)))
    exact ⟨by rw [decide_eq_false (fun h => h1 h.1)], hS.below⟩
  refine Ar.i (by omega) ?_
  conv => whnf
  refine ⟨rfl, CallS.p (fun w' hS => sallIn_any _ _ w' (St.intsR hS (l := conns p) 0 rfl (by omega))) (fun h2 => ?_) (fun h2 => ?_)⟩ <;> conv => whnf
  rotate_left
  · (repeat' (first | (refine Sp.mk (fun hs => ?_) (fun hs => ?_) <;> first | (exfalso; omega) | (conv => whnf)) | (refine Ar.i (by omega) ?_; conv => whnf) | (refine NewS.mk (fun _ => ?_); conv => whnf) | (refine QuoS.nn (by omega) ?_; conv => whnf) | (refine RemS.nn (by omega) ?_; conv => whnf) | (refine QuietS.mk (by as_aux_lemma => kernel_rfl) ?_; conv => whnf) | refine RetS.mk (fun w' hS => ?_)))
    exact ⟨by rw [decide_eq_false (fun h => h2 h.2.2.1)], hS.below⟩
  refine Sp.mk (fun h3 => ?_) (fun h3 => ?_) <;> conv => whnf
  · (repeat' (first | (refine Sp.mk (fun hs => ?_) (fun hs => ?_) <;> first | (exfalso; omega) | (conv => whnf)) | (refine Ar.i (by omega) ?_; conv => whnf) | (refine NewS.mk (fun _ => ?_); conv => whnf) | (refine QuoS.nn (by omega) ?_; conv => whnf) | (refine RemS.nn (by omega) ?_; conv => whnf) | (refine QuietS.mk (by as_aux_lemma => kernel_rfl) ?_; conv => whnf) | refine RetS.mk (fun w' hS => ?_)))
    exact ⟨by rw [decide_eq_false (fun h => by have := h.2.2.2.2.1; omega)], hS.below⟩
  refine ⟨rfl, CallS.p (fun w' hS => sallIn_any _ _ w' (hP.w.below hS.below)) (fun h4 => ?_) (fun h4 => ?_)⟩ <;> conv => whnf
  rotate_left
  · (repeat' (first | (refine Sp.mk (fun hs => ?_) (fun hs => ?_) <;> first | (exfalso; omega) | (conv => whnf)) | (refine Ar.i (by omega) ?_; conv => whnf) | (refine NewS.mk (fun _ => ?_); conv => whnf) | (refine QuoS.nn (by omega) ?_; conv => whnf) | (refine RemS.nn (by omega) ?_; conv => whnf) | (refine QuietS.mk (by as_aux_lemma => kernel_rfl) ?_; conv => whnf) | refine RetS.mk (fun w' hS => ?_)))
    exact ⟨by rw [decide_eq_false (fun h => h4 h.2.2.2.2.2.1)], hS.below⟩
  refine Sp.mk (fun h5 => ?_) (fun h5 => ?_) <;> conv => whnf
  · (repeat' (first | (refine Sp.mk (fun hs => ?_) (fun hs => ?_) <;> first | (exfalso; omega) | (conv => whnf)) | (refine Ar.i (by omega) ?_; conv => whnf) | (refine NewS.mk (fun _ => ?_); conv => whnf) | (refine QuoS.nn (by omega) ?_; conv => whnf) | (refine RemS.nn (by omega) ?_; conv => whnf) | (refine QuietS.mk (by as_aux_lemma => kernel_rfl) ?_; conv => whnf) | refine RetS.mk (fun w' hS => ?_)))
    exact ⟨by rw [decide_eq_true (show okPool p from ⟨h1, hJ1, h2, hJ2, by omega, h4, .inl (by omega)⟩)], hS.below⟩
  refine Sp.mk (fun h6 => ?_) (fun h6 => ?_) <;> conv => whnf
  · (repeat' (first | (refine Sp.mk (fun hs => ?_) (fun hs => ?_) <;> first | (exfalso; omega) | (conv => whnf)) | (refine Ar.i (by omega) ?_; conv => whnf) | (refine NewS.mk (fun _ => ?_); conv => whnf) | (refine QuoS.nn (by omega) ?_; conv => whnf) | (refine RemS.nn (by omega) ?_; conv => whnf) | (refine QuietS.mk (by as_aux_lemma => kernel_rfl) ?_; conv => whnf) | refine RetS.mk (fun w' hS => ?_)))
    exact ⟨by rw [decide_eq_true (show okPool p from ⟨h1, hJ1, h2, hJ2, by omega, h4, .inr h6⟩)], hS.below⟩
  · (repeat' (first | (refine Sp.mk (fun hs => ?_) (fun hs => ?_) <;> first | (exfalso; omega) | (conv => whnf)) | (refine Ar.i (by omega) ?_; conv => whnf) | (refine NewS.mk (fun _ => ?_); conv => whnf) | (refine QuoS.nn (by omega) ?_; conv => whnf) | (refine RemS.nn (by omega) ?_; conv => whnf) | (refine QuietS.mk (by as_aux_lemma => kernel_rfl) ?_; conv => whnf) | refine RetS.mk (fun w' hS => ?_)))
    exact ⟨by rw [decide_eq_false (fun h => by rcases h.2.2.2.2.2.2 with h7 | h7 <;> omega)], hS.below⟩
theorem spec_ValidPool_any {p : PoolD} {a : PAd} (w : World) (hP : PoolR w p a) (hs : p.i.length + p.h.length ≤ 2000000) :
    Calls Try.prog 21 #[.agg (poolV p a).toArray] w fun e w' => e = .returned (.bool (decide (okPool p))) ∧ Below w.heap.size w w' := by
  refine enter (C := cxS w []) (okS w []) (St.start w) Try.func21 rfl rfl ?_; conv => whnf
  (repeat' (first | (refine Sp.mk (fun hs => ?_) (fun hs => ?_) <;> first | (exfalso; omega) | (conv => whnf)) | (refine Ar.i (by omega) ?_; conv => whnf) | (refine NewS.mk (fun _ => ?_); conv => whnf) | (refine QuoS.nn (by omega) ?_; conv => whnf) | (refine RemS.nn (by omega) ?_; conv => whnf) | (refine QuietS.mk (by as_aux_lemma => kernel_rfl) ?_; conv => whnf) | refine RetS.mk (fun w' hS => ?_)))
  refine ⟨rfl, CallS.ro (fun w' hS => spec_validPool_any w' (hP.below hS.below) hs) ?_⟩
  conv => whnf
  (repeat' (first | (refine Sp.mk (fun hs => ?_) (fun hs => ?_) <;> first | (exfalso; omega) | (conv => whnf)) | (refine Ar.i (by omega) ?_; conv => whnf) | (refine NewS.mk (fun _ => ?_); conv => whnf) | (refine QuoS.nn (by omega) ?_; conv => whnf) | (refine RemS.nn (by omega) ?_; conv => whnf) | (refine QuietS.mk (by as_aux_lemma => kernel_rfl) ?_; conv => whnf) | refine RetS.mk (fun w' hS => ?_)))
  exact ⟨rfl, hS.below⟩
end Go.Proofs.Ytfjedjcdmaoeoaa
