/- Waiting tickets and tickets taken, of both packages; conditions: none. -/
import Derived.Test.YtmojlnfadjnhgaaLinB
set_option maxRecDepth 100000
set_option linter.unusedVariables false
set_option linter.unusedSimpArgs false
namespace Go.Proofs.Ytmojlnfadjnhgaa
open Eng Go Go.RowKit

def gRow (l : LineD) (A : Option Addr) (c : Nat) : Own := rowOf 3 1 A l.g.length c (i64s l.g)
theorem St.line {w0 w : World} {S0 : List Nat} {lb : List Box} {rs : List Own} {A : Option Addr} {c : Nat} {l : LineD} (hS : Eng.St w0 S0 lb rs w) (i : Nat) (hi : rs[i]? = some (gRow l A c)) (hl : l.g.length ≤ 2000000) : LineR w A l := ⟨hS.rowR (List.mem_of_getElem? hi), hl⟩
def waitL (l : LineD) : List Int := if okLine l then wait l else []
theorem wi_any {A : Option Addr} {c : Nat} {l : LineD} (w : World) (hL : LineR w A l) (hok : okLine l) :
    Calls Try.prog 59 #[.agg (lineV l A c).toArray] w fun e w' => ∃ y : Option Addr × Nat, (wait l).length ≤ y.2 ∧ e = .returned (.slice y.1 (wait l).length y.2) ∧ Below w.heap.size w w' ∧ Fresh w.heap.size [rowOf 3 1 y.1 (wait l).length y.2 (i64s (wait l))] w' := by
  have h1 := hok.1
  have h2 := hok.2.1
  obtain ⟨N, hN⟩ : ∃ N : Nat, l.n = l.s + N := ⟨(l.n - l.s).toNat, by omega⟩
  have hN2 : (l.n - l.s).toNat = N := by omega
  have hw : wait l = waitTo l N := by rw [wait_is, hN2]
  rw [hw]
  refine enter (C := cxS w []) (okS w []) (St.start w) Try.func59 rfl rfl ?_; conv => whnf
  (repeat' (first | (refine Sp.mk (fun hs => ?_) (fun hs => ?_) <;> first | (exfalso; omega) | (conv => whnf)) | (refine Ar.i (by omega) ?_; conv => whnf) | (refine NewS.mk (fun _ => ?_); conv => whnf) | (refine QuoS.nn (by omega) ?_; conv => whnf) | (refine RemS.nn (by omega) ?_; conv => whnf) | refine RetS.mk (fun w' hS => ?_)))
  refine LoopS.rows (okS w []) [(3, 4), (7, 21)] [3, 4] rfl (fun s : Nat × Option Addr × Nat => [.slice s.2.1 (waitTo l s.1).length s.2.2, I64 (l.s + s.1)]) (fun s => [rowOf 3 1 s.2.1 (waitTo l s.1).length s.2.2 (i64s (waitTo l s.1))])
    (fun s => s.1 ≤ N ∧ (waitTo l s.1).length ≤ s.2.2) (fun s => N - s.1) (0, none, 0) ⟨by omega, Nat.le_refl _⟩ ⟨rfl, congrArg (fun z => SV.v (Value.int .i64 z)) (show l.s = l.s + ((0 : Nat) : Int) by omega), trivial⟩ (LbTo.self rfl) (by simpa [rowOf_zero, waitTo, up, i64s] using RsTo.nil [] 3 1) (fun s g ⟨hk, hm⟩ => ?_)
  obtain ⟨k, A1, c1⟩ := s
  dsimp only at hk hm ⊢
  have hlen := waitTo_len l k
  have hsucc := waitTo_succ l k
  conv => whnf
  refine Sp.mk (fun h => ?_) (fun h => ?_) <;> conv => whnf
  · refine ⟨rfl, CallS.p (fun w' hS => contains_any (l.s + k) w' (hL.below hS.below)) (fun h3 => ?_) (fun h3 => ?_)⟩ <;> conv => whnf
    · rw [if_neg (fun h => h h3), List.append_nil] at hsucc
      (repeat' (first | (refine Sp.mk (fun hs => ?_) (fun hs => ?_) <;> first | (exfalso; omega) | (conv => whnf)) | (refine Ar.i (by omega) ?_; conv => whnf) | (refine NewS.mk (fun _ => ?_); conv => whnf) | (refine QuoS.nn (by omega) ?_; conv => whnf) | (refine RemS.nn (by omega) ?_; conv => whnf) | (refine QuietS.mk (by as_aux_lemma => kernel_rfl) ?_; conv => whnf) | refine RetS.mk (fun w' hS => ?_)))
      refine ⟨(k + 1, A1, c1), ⟨by dsimp only; omega, by dsimp only; rw [hsucc]; exact hm⟩, by dsimp only; omega, ⟨congrArg (fun q : List Int => SV.v (Value.slice A1 q.length c1)) hsucc.symm, congrArg (fun z => SV.v (Value.int .i64 z)) (show l.s + (k : Int) + 1 = l.s + ((k + 1 : Nat) : Int) by omega), trivial⟩, LbTo.self rfl, ?_⟩
      dsimp only
      rw [hsucc]
      exact RsTo.refl _
    · rw [if_pos h3] at hsucc
      have e2 : (waitTo l (k + 1)).length = (waitTo l k).length + 1 := by rw [hsucc, List.length_append]; rfl
      (repeat' (first | (refine Sp.mk (fun hs => ?_) (fun hs => ?_) <;> first | (exfalso; omega) | (conv => whnf)) | (refine Ar.i (by omega) ?_; conv => whnf) | (refine NewS.mk (fun _ => ?_); conv => whnf) | (refine QuoS.nn (by omega) ?_; conv => whnf) | (refine RemS.nn (by omega) ?_; conv => whnf) | refine RetS.mk (fun w' hS => ?_)))
      refine SemS.appG (okS w []) (i := 0) rfl rfl (by decide) rfl (fun w' hS => St.row hS (e := 3) (xs := [.int .i64 (l.s + k)]) (List.mem_of_getElem? (i := 1) rfl)) (by simp [isOne]) (by simp only [maxLen]; omega) (by simp only; omega) (fun A2 c2 hc2 => ?_)
      conv => whnf
      (repeat' (first | (refine Sp.mk (fun hs => ?_) (fun hs => ?_) <;> first | (exfalso; omega) | (conv => whnf)) | (refine Ar.i (by omega) ?_; conv => whnf) | (refine NewS.mk (fun _ => ?_); conv => whnf) | (refine QuoS.nn (by omega) ?_; conv => whnf) | (refine RemS.nn (by omega) ?_; conv => whnf) | (refine QuietS.mk (by as_aux_lemma => kernel_rfl) ?_; conv => whnf) | refine RetS.mk (fun w' hS => ?_)))
      refine ⟨(k + 1, A2, c2), ⟨by dsimp only; omega, by dsimp only; rw [e2]; exact hc2⟩, by dsimp only; omega, ⟨congrArg (fun m => SV.v (Value.slice A2 m c2)) e2.symm, congrArg (fun z => SV.v (Value.int .i64 z)) (show l.s + (k : Int) + 1 = l.s + ((k + 1 : Nat) : Int) by omega), trivial⟩, LbTo.self rfl, ?_⟩
      have e3 : i64s (waitTo l (k + 1)) = i64s (waitTo l k) ++ [.int .i64 (l.s + k)] := by rw [hsucc, i64s, List.map_append]; rfl
      dsimp only
      rw [e2, e3]
      exact RsTo.sub (List.sublist_append_left [_] [_])
  · have hkN : k = N := by omega
    subst hkN
    refine ⟨rfl, CallS.ro (fun w' hS => clip_int_any hm w') ?_⟩
    conv => whnf
    (repeat' (first | (refine Sp.mk (fun hs => ?_) (fun hs => ?_) <;> first | (exfalso; omega) | (conv => whnf)) | (refine Ar.i (by omega) ?_; conv => whnf) | (refine NewS.mk (fun _ => ?_); conv => whnf) | (refine QuoS.nn (by omega) ?_; conv => whnf) | (refine RemS.nn (by omega) ?_; conv => whnf) | refine RetS.mk (fun w' hS => ?_)))
    exact ⟨(A1, (waitTo l k).length), Nat.le_refl _, rfl, hS.below, (hS.fresh (List.Sublist.refl _)).clipR (Nat.le_refl _) hm⟩
theorem ws_any {A : Option Addr} {c : Nat} {l : LineD} (w : World) (hL : LineR w A l) (hok : okLine l) :
    Calls Try.prog 68 #[.agg (lineV l A c).toArray] w fun e w' => ∃ y : Option Addr × Nat, (wait l).length ≤ y.2 ∧ e = .returned (.slice y.1 (wait l).length y.2) ∧ Below w.heap.size w w' ∧ Fresh w.heap.size [rowOf 3 1 y.1 (wait l).length y.2 (i64s (wait l))] w' := by
  have h1 := hok.1
  have h2 := hok.2.1
  obtain ⟨N, hN⟩ : ∃ N : Nat, l.n = l.s + N := ⟨(l.n - l.s).toNat, by omega⟩
  have hN2 : (l.n - l.s).toNat = N := by omega
  have hw : wait l = waitTo l N := by rw [wait_is, hN2]
  rw [hw]
  refine enter (C := cxS w []) (okS w []) (St.start w) Try.func68 rfl rfl ?_; conv => whnf
  refine NewS.mk (fun g0 => ?_)
  conv => whnf
  refine NewS.mk (fun g1 => ?_)
  conv => whnf
  refine LoopS.rows (okS w []) [(3, 4), (8, 22)] [3, 4] rfl (fun s : Nat × Option Addr × Nat => [.slice s.2.1 (waitTo l s.1).length s.2.2, I64 (l.s + s.1)]) (fun s => [rowOf 3 1 s.2.1 (waitTo l s.1).length s.2.2 (i64s (waitTo l s.1))])
    (fun s => s.1 ≤ N ∧ (waitTo l s.1).length ≤ s.2.2) (fun s => N - s.1) (0, some ⟨g1, 0, none⟩, 0) ⟨by omega, Nat.le_refl _⟩ ⟨rfl, congrArg (fun z => SV.v (Value.int .i64 z)) (show l.s = l.s + ((0 : Nat) : Int) by omega), trivial⟩ (LbTo.self rfl) (RsTo.norm (i := 0) (A := some ⟨g1, 0, none⟩) (n := 0) (c := 0) (xs := []) rfl) (fun s g ⟨hk, hm⟩ => ?_)
  obtain ⟨k, A1, c1⟩ := s
  dsimp only at hk hm ⊢
  have hlen := waitTo_len l k
  have hsucc := waitTo_succ l k
  conv => whnf
  refine Sp.mk (fun h => ?_) (fun h => ?_) <;> conv => whnf
  · refine ⟨rfl, CallS.p (fun w' hS => spec_isIn_any (l.s + k) w' (hL.below hS.below)) (fun h3 => ?_) (fun h3 => ?_)⟩ <;> conv => whnf
    · rw [if_neg (fun h => h h3), List.append_nil] at hsucc
      (repeat' (first | (refine Sp.mk (fun hs => ?_) (fun hs => ?_) <;> first | (exfalso; omega) | (conv => whnf)) | (refine Ar.i (by omega) ?_; conv => whnf) | (refine NewS.mk (fun _ => ?_); conv => whnf) | (refine QuoS.nn (by omega) ?_; conv => whnf) | (refine RemS.nn (by omega) ?_; conv => whnf) | (refine QuietS.mk (by as_aux_lemma => kernel_rfl) ?_; conv => whnf) | refine RetS.mk (fun w' hS => ?_)))
      refine ⟨(k + 1, A1, c1), ⟨by dsimp only; omega, by dsimp only; rw [hsucc]; exact hm⟩, by dsimp only; omega, ⟨congrArg (fun q : List Int => SV.v (Value.slice A1 q.length c1)) hsucc.symm, congrArg (fun z => SV.v (Value.int .i64 z)) (show l.s + (k : Int) + 1 = l.s + ((k + 1 : Nat) : Int) by omega), trivial⟩, LbTo.self rfl, ?_⟩
      dsimp only
      rw [hsucc]
      exact RsTo.refl _
    · rw [if_pos h3] at hsucc
      have e2 : (waitTo l (k + 1)).length = (waitTo l k).length + 1 := by rw [hsucc, List.length_append]; rfl
      (repeat' (first | (refine Sp.mk (fun hs => ?_) (fun hs => ?_) <;> first | (exfalso; omega) | (conv => whnf)) | (refine Ar.i (by omega) ?_; conv => whnf) | (refine NewS.mk (fun _ => ?_); conv => whnf) | (refine QuoS.nn (by omega) ?_; conv => whnf) | (refine RemS.nn (by omega) ?_; conv => whnf) | refine RetS.mk (fun w' hS => ?_)))
      refine SemS.appG (okS w []) (i := 0) rfl rfl (by decide) rfl (fun w' hS => St.row hS (e := 3) (xs := [.int .i64 (l.s + k)]) (List.mem_of_getElem? (i := 1) rfl)) (by simp [isOne]) (by simp only [maxLen]; omega) (by simp only; omega) (fun A2 c2 hc2 => ?_)
      conv => whnf
      (repeat' (first | (refine Sp.mk (fun hs => ?_) (fun hs => ?_) <;> first | (exfalso; omega) | (conv => whnf)) | (refine Ar.i (by omega) ?_; conv => whnf) | (refine NewS.mk (fun _ => ?_); conv => whnf) | (refine QuoS.nn (by omega) ?_; conv => whnf) | (refine RemS.nn (by omega) ?_; conv => whnf) | (refine QuietS.mk (by as_aux_lemma => kernel_rfl) ?_; conv => whnf) | refine RetS.mk (fun w' hS => ?_)))
      refine ⟨(k + 1, A2, c2), ⟨by dsimp only; omega, by dsimp only; rw [e2]; exact hc2⟩, by dsimp only; omega, ⟨congrArg (fun m => SV.v (Value.slice A2 m c2)) e2.symm, congrArg (fun z => SV.v (Value.int .i64 z)) (show l.s + (k : Int) + 1 = l.s + ((k + 1 : Nat) : Int) by omega), trivial⟩, LbTo.self rfl, ?_⟩
      have e3 : i64s (waitTo l (k + 1)) = i64s (waitTo l k) ++ [.int .i64 (l.s + k)] := by rw [hsucc, i64s, List.map_append]; rfl
      dsimp only
      rw [e2, e3]
      exact RsTo.sub (List.sublist_append_left [_] [_])
  · have hkN : k = N := by omega
    subst hkN
    (repeat' (first | (refine Sp.mk (fun hs => ?_) (fun hs => ?_) <;> first | (exfalso; omega) | (conv => whnf)) | (refine Ar.i (by omega) ?_; conv => whnf) | (refine NewS.mk (fun _ => ?_); conv => whnf) | (refine QuoS.nn (by omega) ?_; conv => whnf) | (refine RemS.nn (by omega) ?_; conv => whnf) | refine RetS.mk (fun w' hS => ?_)))
    exact ⟨(A1, c1), hm, rfl, hS.below, hS.fresh (List.Sublist.refl _)⟩
theorem iWaiting_any {A : Option Addr} {c : Nat} {l : LineD} (w : World) (hL : LineR w A l) :
    Calls Try.prog 29 #[.agg (lineV l A c).toArray] w fun e w' => ∃ y : Option Addr × Nat, (waitL l).length ≤ y.2 ∧ e = .returned (.slice y.1 (waitL l).length y.2) ∧ Below w.heap.size w w' ∧ Fresh w.heap.size [rowOf 3 1 y.1 (waitL l).length y.2 (i64s (waitL l))] w' := by
  refine enter (C := cxS w []) (okS w []) (St.start w) Try.func29 rfl rfl ?_; conv => whnf
  (repeat' (first | (refine Sp.mk (fun hs => ?_) (fun hs => ?_) <;> first | (exfalso; omega) | (conv => whnf)) | (refine Ar.i (by omega) ?_; conv => whnf) | (refine NewS.mk (fun _ => ?_); conv => whnf) | (refine QuoS.nn (by omega) ?_; conv => whnf) | (refine RemS.nn (by omega) ?_; conv => whnf) | refine RetS.mk (fun w' hS => ?_)))
  refine ⟨rfl, CallS.p (fun w' hS => impl_ValidLine_any w' (hL.below hS.below)) (fun hok => ?_) (fun hok => ?_)⟩ <;> conv => whnf
  · have e : waitL l = wait l := if_pos hok
    rw [e]
    refine ⟨rfl, CallS.own (fun w' hS => wi_any w' (hL.below hS.below) hok) (fun y hy => ?_)⟩
    conv => whnf
    (repeat' (first | (refine Sp.mk (fun hs => ?_) (fun hs => ?_) <;> first | (exfalso; omega) | (conv => whnf)) | (refine Ar.i (by omega) ?_; conv => whnf) | (refine NewS.mk (fun _ => ?_); conv => whnf) | (refine QuoS.nn (by omega) ?_; conv => whnf) | (refine RemS.nn (by omega) ?_; conv => whnf) | refine RetS.mk (fun w' hS => ?_)))
    exact ⟨y, hy, rfl, hS.below, hS.fresh (List.Sublist.refl _)⟩
  · have e : waitL l = [] := if_neg hok
    rw [e]
    (repeat' (first | (refine Sp.mk (fun hs => ?_) (fun hs => ?_) <;> first | (exfalso; omega) | (conv => whnf)) | (refine Ar.i (by omega) ?_; conv => whnf) | (refine NewS.mk (fun _ => ?_); conv => whnf) | (refine QuoS.nn (by omega) ?_; conv => whnf) | (refine RemS.nn (by omega) ?_; conv => whnf) | refine RetS.mk (fun w' hS => ?_)))
    exact ⟨(none, 0), Nat.le_refl _, rfl, hS.below, Fresh.empty _ _ _ _ _⟩
theorem sWaiting_any {A : Option Addr} {c : Nat} {l : LineD} (w : World) (hL : LineR w A l) :
    Calls Try.prog 46 #[.agg (lineV l A c).toArray] w fun e w' => ∃ y : Option Addr × Nat, (waitL l).length ≤ y.2 ∧ e = .returned (.slice y.1 (waitL l).length y.2) ∧ Below w.heap.size w w' ∧ Fresh w.heap.size [rowOf 3 1 y.1 (waitL l).length y.2 (i64s (waitL l))] w' := by
  refine enter (C := cxS w []) (okS w []) (St.start w) Try.func46 rfl rfl ?_; conv => whnf
  (repeat' (first | (refine Sp.mk (fun hs => ?_) (fun hs => ?_) <;> first | (exfalso; omega) | (conv => whnf)) | (refine Ar.i (by omega) ?_; conv => whnf) | (refine NewS.mk (fun _ => ?_); conv => whnf) | (refine QuoS.nn (by omega) ?_; conv => whnf) | (refine RemS.nn (by omega) ?_; conv => whnf) | refine RetS.mk (fun w' hS => ?_)))
  refine ⟨rfl, CallS.p (fun w' hS => spec_validLine_any w' (hL.below hS.below)) (fun hok => ?_) (fun hok => ?_)⟩ <;> conv => whnf
  · have e : waitL l = wait l := if_pos hok
    rw [e]
    refine ⟨rfl, CallS.own (fun w' hS => ws_any w' (hL.below hS.below) hok) (fun y hy => ?_)⟩
    conv => whnf
    (repeat' (first | (refine Sp.mk (fun hs => ?_) (fun hs => ?_) <;> first | (exfalso; omega) | (conv => whnf)) | (refine Ar.i (by omega) ?_; conv => whnf) | (refine NewS.mk (fun _ => ?_); conv => whnf) | (refine QuoS.nn (by omega) ?_; conv => whnf) | (refine RemS.nn (by omega) ?_; conv => whnf) | refine RetS.mk (fun w' hS => ?_)))
    exact ⟨y, hy, rfl, hS.below, hS.fresh (List.Sublist.refl _)⟩
  · have e : waitL l = [] := if_neg hok
    rw [e]
    (repeat' (first | (refine Sp.mk (fun hs => ?_) (fun hs => ?_) <;> first | (exfalso; omega) | (conv => whnf)) | (refine Ar.i (by omega) ?_; conv => whnf) | (refine NewS.mk (fun _ => ?_); conv => whnf) | (refine QuoS.nn (by omega) ?_; conv => whnf) | (refine RemS.nn (by omega) ?_; conv => whnf) | refine RetS.mk (fun w' hS => ?_)))
    exact ⟨(none, 0), Nat.le_refl _, rfl, hS.below, Fresh.empty _ _ _ _ _⟩

/-! ### A ticket taken -/
theorem copyOf_any {A : Option Addr} {c : Nat} {l : LineD} (w : World) (hL : LineR w A l) :
    Calls Try.prog 55 #[.agg (lineV l A c).toArray] w fun e w' => ∃ A' : Option Addr, True ∧ e = .returned (.agg (lineV l A' l.g.length).toArray) ∧ Below w.heap.size w w' ∧ Fresh w.heap.size [gRow l A' l.g.length] w' := by
  refine enter (C := cxS w []) (okS w []) (St.start w) Try.func55 rfl rfl ?_; conv => whnf
  (repeat' (first | (refine Sp.mk (fun hs => ?_) (fun hs => ?_) <;> first | (exfalso; omega) | (conv => whnf)) | (refine Ar.i (by omega) ?_; conv => whnf) | (refine NewS.mk (fun _ => ?_); conv => whnf) | (refine QuoS.nn (by omega) ?_; conv => whnf) | (refine RemS.nn (by omega) ?_; conv => whnf) | refine RetS.mk (fun w' hS => ?_)))
  refine ⟨rfl, CallS.own (fun w' hS => clone_int_any w' (hL.below hS.below).rd (i64s_one _) hL.le) (fun A' _ => ?_)⟩
  conv => whnf
  (repeat' (first | (refine Sp.mk (fun hs => ?_) (fun hs => ?_) <;> first | (exfalso; omega) | (conv => whnf)) | (refine Ar.i (by omega) ?_; conv => whnf) | (refine NewS.mk (fun _ => ?_); conv => whnf) | (refine QuoS.nn (by omega) ?_; conv => whnf) | (refine RemS.nn (by omega) ?_; conv => whnf) | refine RetS.mk (fun w' hS => ?_)))
  exact ⟨A', trivial, rfl, hS.below, hS.fresh (List.Sublist.refl _)⟩
def zeroL : LineD := ⟨0, 0, []⟩
def takeD (l : LineD) : LineD := if takeOk l then takeL l else zeroL
def takeN (l : LineD) : Int := if takeOk l then l.n else -1
theorem take_no {l : LineD} (h : ¬ takeOk l) : takeD l = zeroL ∧ takeN l = -1 ∧ decide (takeOk l) = false := ⟨if_neg h, if_neg h, decide_eq_false h⟩
theorem take_yes {l : LineD} (h : takeOk l) : takeD l = takeL l ∧ takeN l = l.n ∧ decide (takeOk l) = true := ⟨if_pos h, if_pos h, decide_eq_true h⟩
theorem iTake_any {A : Option Addr} {c : Nat} {l : LineD} (w : World) (hL : LineR w A l) :
    Calls Try.prog 24 #[.agg (lineV l A c).toArray] w fun e w' => ∃ y : Option Addr × Nat, (takeD l).g.length ≤ y.2 ∧ e = .returned (.tuple #[.agg (lineV (takeD l) y.1 y.2).toArray, .int .i64 (takeN l), .bool (decide (takeOk l))]) ∧ Below w.heap.size w w' ∧ Fresh w.heap.size [gRow (takeD l) y.1 y.2] w' := by
  have no : ¬ takeOk l → ∀ w' : World, Below w.heap.size w w' → ∃ y : Option Addr × Nat, (takeD l).g.length ≤ y.2 ∧ Ending.returned (.tuple #[.agg #[.int .i64 0, .int .i64 0, .slice none 0 0], .int .i64 (-1), .bool false]) = .returned (.tuple #[.agg (lineV (takeD l) y.1 y.2).toArray, .int .i64 (takeN l), .bool (decide (takeOk l))]) ∧ Below w.heap.size w w' ∧ Fresh w.heap.size [gRow (takeD l) y.1 y.2] w' := fun h w' hb => by
    obtain ⟨e1, e2, e3⟩ := take_no h
    rw [e1, e2, e3]
    exact ⟨(none, 0), Nat.le_refl _, rfl, hb, Fresh.empty _ _ _ _ _⟩
  refine enter (C := cxS w []) (okS w []) (St.start w) Try.func24 rfl rfl ?_; conv => whnf
  (repeat' (first | (refine Sp.mk (fun hs => ?_) (fun hs => ?_) <;> first | (exfalso; omega) | (conv => whnf)) | (refine Ar.i (by omega) ?_; conv => whnf) | (refine NewS.mk (fun _ => ?_); conv => whnf) | (refine QuoS.nn (by omega) ?_; conv => whnf) | (refine RemS.nn (by omega) ?_; conv => whnf) | refine RetS.mk (fun w' hS => ?_)))
  refine ⟨rfl, CallS.p (fun w' hS => impl_ValidLine_any w' (hL.below hS.below)) (fun hok => ?_) (fun hok => ?_)⟩ <;> conv => whnf
  rotate_left
  · (repeat' (first | (refine Sp.mk (fun hs => ?_) (fun hs => ?_) <;> first | (exfalso; omega) | (conv => whnf)) | (refine Ar.i (by omega) ?_; conv => whnf) | (refine NewS.mk (fun _ => ?_); conv => whnf) | (refine QuoS.nn (by omega) ?_; conv => whnf) | (refine RemS.nn (by omega) ?_; conv => whnf) | refine RetS.mk (fun w' hS => ?_)))
    exact no (fun h => hok h.1) _ hS.below
  have h1 := hok.1
  have h2 := hok.2.1
  refine Sp.mk (fun h3 => ?_) (fun h3 => ?_) <;> conv => whnf
  · (repeat' (first | (refine Sp.mk (fun hs => ?_) (fun hs => ?_) <;> first | (exfalso; omega) | (conv => whnf)) | (refine Ar.i (by omega) ?_; conv => whnf) | (refine NewS.mk (fun _ => ?_); conv => whnf) | (refine QuoS.nn (by omega) ?_; conv => whnf) | (refine RemS.nn (by omega) ?_; conv => whnf) | refine RetS.mk (fun w' hS => ?_)))
    exact no (fun h => h.2.1 h3) _ hS.below
  refine Ar.i (by omega) ?_
  conv => whnf
  refine Sp.mk (fun h4 => ?_) (fun h4 => ?_) <;> conv => whnf
  · (repeat' (first | (refine Sp.mk (fun hs => ?_) (fun hs => ?_) <;> first | (exfalso; omega) | (conv => whnf)) | (refine Ar.i (by omega) ?_; conv => whnf) | (refine NewS.mk (fun _ => ?_); conv => whnf) | (refine QuoS.nn (by omega) ?_; conv => whnf) | (refine RemS.nn (by omega) ?_; conv => whnf) | refine RetS.mk (fun w' hS => ?_)))
    exact no (fun h => h.2.2 h4) _ hS.below
  have hT : takeOk l := ⟨hok, h3, h4⟩
  obtain ⟨e1, e2, e3⟩ := take_yes hT
  refine ⟨rfl, CallS.own (fun w' hS => copyOf_any w' (hL.below hS.below)) (fun A' _ => ?_)⟩
  conv => whnf
  (repeat' (first | (refine Sp.mk (fun hs => ?_) (fun hs => ?_) <;> first | (exfalso; omega) | (conv => whnf)) | (refine Ar.i (by omega) ?_; conv => whnf) | (refine NewS.mk (fun _ => ?_); conv => whnf) | (refine QuoS.nn (by omega) ?_; conv => whnf) | (refine RemS.nn (by omega) ?_; conv => whnf) | refine RetS.mk (fun w' hS => ?_)))
  refine DrawS.plan (.first 1 (.alt 0 (.alt 2 (.one 3 (.first 4 (.first 5 (.done)))) (.alt 3 (.one 2 (.first 4 (.first 5 (.done)))) (.stop))) (.alt 2 (.one 0 (.one 3 (.first 4 (.first 5 (.done))))) (.stop)))) (by as_aux_lemma => kernel_rfl) [] [] (LbTo.refl_nil _) (RsTo.sub (List.nil_sublist _)) ?_
  conv => whnf
  repeat' (first | (refine StS.mk rfl (RsTo.sub (List.nil_sublist _)) ?_; conv => whnf) | (refine AltS.mk ?_ ?_ <;> conv => whnf) | exact trivial | refine RetS.mk (fun w' hS => ?_))
  all_goals
    rw [e1, e2, e3]
    exact ⟨(A', l.g.length), Nat.le_refl _, rfl, hS.below, hS.fresh (List.Sublist.refl _)⟩
theorem sTake_any {A : Option Addr} {c : Nat} {l : LineD} (w : World) (hL : LineR w A l) :
    Calls Try.prog 25 #[.agg (lineV l A c).toArray] w fun e w' => ∃ y : Option Addr × Nat, (takeD l).g.length ≤ y.2 ∧ e = .returned (.tuple #[.agg (lineV (takeD l) y.1 y.2).toArray, .int .i64 (takeN l), .bool (decide (takeOk l))]) ∧ Below w.heap.size w w' ∧ Fresh w.heap.size [gRow (takeD l) y.1 y.2] w' := by
  have no : ¬ takeOk l → ∀ w' : World, Below w.heap.size w w' → ∃ y : Option Addr × Nat, (takeD l).g.length ≤ y.2 ∧ Ending.returned (.tuple #[.agg #[.int .i64 0, .int .i64 0, .slice none 0 0], .int .i64 (-1), .bool false]) = .returned (.tuple #[.agg (lineV (takeD l) y.1 y.2).toArray, .int .i64 (takeN l), .bool (decide (takeOk l))]) ∧ Below w.heap.size w w' ∧ Fresh w.heap.size [gRow (takeD l) y.1 y.2] w' := fun h w' hb => by
    obtain ⟨e1, e2, e3⟩ := take_no h
    rw [e1, e2, e3]
    exact ⟨(none, 0), Nat.le_refl _, rfl, hb, Fresh.empty _ _ _ _ _⟩
  refine enter (C := cxS w []) (okS w []) (St.start w) Try.func25 rfl rfl ?_; conv => whnf
  (repeat' (first | (refine Sp.mk (fun hs => ?_) (fun hs => ?_) <;> first | (exfalso; omega) | (conv => whnf)) | (refine Ar.i (by omega) ?_; conv => whnf) | (refine NewS.mk (fun _ => ?_); conv => whnf) | (refine QuoS.nn (by omega) ?_; conv => whnf) | (refine RemS.nn (by omega) ?_; conv => whnf) | refine RetS.mk (fun w' hS => ?_)))
  refine ⟨rfl, CallS.p (fun w' hS => spec_validLine_any w' (hL.below hS.below)) (fun hok => ?_) (fun hok => ?_)⟩ <;> conv => whnf
  rotate_left
  · (repeat' (first | (refine Sp.mk (fun hs => ?_) (fun hs => ?_) <;> first | (exfalso; omega) | (conv => whnf)) | (refine Ar.i (by omega) ?_; conv => whnf) | (refine NewS.mk (fun _ => ?_); conv => whnf) | (refine QuoS.nn (by omega) ?_; conv => whnf) | (refine RemS.nn (by omega) ?_; conv => whnf) | refine RetS.mk (fun w' hS => ?_)))
    exact no (fun h => hok h.1) _ hS.below
  have h1 := hok.1
  have h2 := hok.2.1
  refine Sp.mk (fun h3 => ?_) (fun h3 => ?_) <;> conv => whnf
  · (repeat' (first | (refine Sp.mk (fun hs => ?_) (fun hs => ?_) <;> first | (exfalso; omega) | (conv => whnf)) | (refine Ar.i (by omega) ?_; conv => whnf) | (refine NewS.mk (fun _ => ?_); conv => whnf) | (refine QuoS.nn (by omega) ?_; conv => whnf) | (refine RemS.nn (by omega) ?_; conv => whnf) | refine RetS.mk (fun w' hS => ?_)))
    exact no (fun h => h.2.1 h3) _ hS.below
  refine Ar.i (by omega) ?_
  conv => whnf
  refine Sp.mk (fun h4 => ?_) (fun h4 => ?_) <;> conv => whnf
  · (repeat' (first | (refine Sp.mk (fun hs => ?_) (fun hs => ?_) <;> first | (exfalso; omega) | (conv => whnf)) | (refine Ar.i (by omega) ?_; conv => whnf) | (refine NewS.mk (fun _ => ?_); conv => whnf) | (refine QuoS.nn (by omega) ?_; conv => whnf) | (refine RemS.nn (by omega) ?_; conv => whnf) | refine RetS.mk (fun w' hS => ?_)))
    exact no (fun h => h.2.2 h4) _ hS.below
  have hT : takeOk l := ⟨hok, h3, h4⟩
  obtain ⟨e1, e2, e3⟩ := take_yes hT
  refine DrawS.plan (.first 0 (.first 1 (.first 2 (.first 3 (.first 4 (.first 5 (.first 6 (.first 9 (.first 10 (.one 7 (.first 8 (.one 11 (.first 12 (.first 13 (.done))))))))))))))) (by as_aux_lemma => kernel_rfl) [_] _ ⟨rfl, (LbTo.self rfl).ok⟩ (RsTo.refl _) ?_
  conv => whnf
  (repeat' (first | (refine Sp.mk (fun hs => ?_) (fun hs => ?_) <;> first | (exfalso; omega) | (conv => whnf)) | (refine Ar.i (by omega) ?_; conv => whnf) | (refine NewS.mk (fun _ => ?_); conv => whnf) | (refine QuoS.nn (by omega) ?_; conv => whnf) | (refine RemS.nn (by omega) ?_; conv => whnf) | refine RetS.mk (fun w' hS => ?_)))
  refine ⟨rfl, CallS.own (fun w' hS => spec_copyInts_any w' (hL.below hS.below)) (fun y hy => ?_)⟩
  conv => whnf
  refine StS.mk rfl (RsTo.sub (by simp)) ?_
  conv => whnf
  refine StS.mk rfl (RsTo.sub (by simp)) ?_
  conv => whnf
  (repeat' (first | (refine Sp.mk (fun hs => ?_) (fun hs => ?_) <;> first | (exfalso; omega) | (conv => whnf)) | (refine Ar.i (by omega) ?_; conv => whnf) | (refine NewS.mk (fun _ => ?_); conv => whnf) | (refine QuoS.nn (by omega) ?_; conv => whnf) | (refine RemS.nn (by omega) ?_; conv => whnf) | refine RetS.mk (fun w' hS => ?_)))
  rw [e1, e2, e3]
  exact ⟨y, hy, rfl, hS.below, hS.fresh (List.Sublist.refl _)⟩
end Go.Proofs.Ytmojlnfadjnhgaa
