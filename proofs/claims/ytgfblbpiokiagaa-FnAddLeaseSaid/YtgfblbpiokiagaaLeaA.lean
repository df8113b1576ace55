/- What the small functions on leases compute; conditions: none. -/
import Derived.Test.YtgfblbpiokiagaaLeaP
import Derived.Test.YtgfblbpiokiagaaLift
set_option maxRecDepth 100000
set_option linter.unusedVariables false
set_option linter.unusedSimpArgs false
namespace Go.Proofs.Ytgfblbpiokiagaa
open Eng Go Go.RowKit

def leaseV (x : LeaseD) : List Value := [.int .i64 x.c, .int .i64 x.o, .int .i64 x.f, .int .i64 x.u]
theorem leaseV_len (x : LeaseD) : (leaseV x).length = 4 := rfl
theorem leaseV_one (x : LeaseD) : ∀ u ∈ leaseV x, isOne u = true := by simp [leaseV, isOne]
theorem leaseL_one (l : List LeaseD) : ∀ u ∈ l.flatMap leaseV, isOne u = true := by
  intro u hu
  obtain ⟨x, _, hx⟩ := List.mem_flatMap.1 hu
  exact leaseV_one x u hx
/-- A slice of leases, not too long to be walked. -/
structure Leases (w : World) (A : Option Addr) (n : Nat) (l : List LeaseD) : Prop where
  rd : Reads w 4 A n (l.flatMap leaseV)
  le : n ≤ 2000000
section
variable {w w' : World} {A : Option Addr} {n : Nat} {l : List LeaseD}
theorem Leases.len (h : Leases w A n l) : l.length = n := by have := h.rd.1; rw [flat_len leaseV_len] at this; omega
theorem Leases.at_ (h : Leases w A n l) {k : Nat} (hk : k < n) : ∃ ad x, A = some ad ∧ l[k]? = some x ∧ x ∈ l ∧ ∀ j u, (leaseV x)[j]? = some u → w.cell? ((ad.add (k * 4)).add j) = some u := by
  have hl := h.len
  obtain ⟨ad, e, hc⟩ := h.rd.2 (by omega)
  have hx : l[k]? = some l[k] := List.getElem?_eq_getElem (by omega)
  refine ⟨ad, l[k], e, hx, List.getElem_mem _, fun j u hu => ?_⟩
  have hj : j < 4 := (List.getElem?_eq_some_iff.1 hu).1
  rw [add_add]
  exact hc _ u (by rw [flat_get leaseV_len hx hj]; exact hu)
theorem Leases.below (h : Leases w A n l) (hb : Below w.heap.size w w') : Leases w' A n l := ⟨h.rd.below hb, h.le⟩
theorem Leases.take (h : Leases w A n l) {k : Nat} (hk : k ≤ n) : Leases w A k (l.take k) := by
  have hl := h.len
  have hn := h.le
  refine ⟨⟨by rw [flat_len leaseV_len, List.length_take]; omega, fun h0 => ?_⟩, by omega⟩
  obtain ⟨ad, e, hc⟩ := h.rd.2 (by omega)
  refine ⟨ad, e, fun j u hu => hc j u ?_⟩
  rw [← flat_take leaseV_len (by omega), List.getElem?_take] at hu
  split at hu
  · exact hu
  · simp at hu
end

theorem inRange_any (n lo hi : Int) (w : World) : Calls Try.prog 62 #[.int .i64 n, .int .i64 lo, .int .i64 hi] w fun e w' => e = .returned (.bool (decide (lo ≤ n ∧ n ≤ hi))) ∧ Below w.heap.size w w' := by
  refine enter (C := cxS w []) (okS w []) (St.start w) Try.func62 rfl rfl ?_; conv => whnf
  (repeat' (first | (refine Sp.mk (fun hs => ?_) (fun hs => ?_) <;> first | (exfalso; omega) | (conv => whnf)) | (refine Ar.i (by omega) ?_; conv => whnf) | (refine NewS.mk (fun _ => ?_); conv => whnf) | (refine QuoS.nn (by omega) ?_; conv => whnf) | (refine RemS.nn (by omega) ?_; conv => whnf) | (refine QuietS.mk (by as_aux_lemma => kernel_rfl) ?_; conv => whnf) | refine RetS.mk (fun w' hS => ?_)))
  all_goals exact ⟨by congr 2; simp [*], hS.below⟩
theorem in_any (n lo hi : Int) (w : World) : Calls Try.prog 55 #[.int .i64 n, .int .i64 lo, .int .i64 hi] w fun e w' => e = .returned (.bool (decide (lo ≤ n ∧ n ≤ hi))) ∧ Below w.heap.size w w' := by
  refine enter (C := cxS w []) (okS w []) (St.start w) Try.func55 rfl rfl ?_; conv => whnf
  (repeat' (first | (refine Sp.mk (fun hs => ?_) (fun hs => ?_) <;> first | (exfalso; omega) | (conv => whnf)) | (refine Ar.i (by omega) ?_; conv => whnf) | (refine NewS.mk (fun _ => ?_); conv => whnf) | (refine QuoS.nn (by omega) ?_; conv => whnf) | (refine RemS.nn (by omega) ?_; conv => whnf) | (refine QuietS.mk (by as_aux_lemma => kernel_rfl) ?_; conv => whnf) | refine RetS.mk (fun w' hS => ?_)))
  all_goals exact ⟨by congr 2; simp [*], hS.below⟩
theorem isConn_any (n : Int) (w : World) : Calls Try.prog 53 #[.int .i64 n] w fun e w' => e = .returned (.bool (decide (0 ≤ n ∧ n ≤ 5))) ∧ Below w.heap.size w w' := by
  refine enter (C := cxS w []) (okS w []) (St.start w) Try.func53 rfl rfl ?_; conv => whnf
  refine ⟨rfl, CallS.ro (fun w hS => in_any _ _ _ w) ?_⟩
  conv => whnf
  (repeat' (first | (refine Sp.mk (fun hs => ?_) (fun hs => ?_) <;> first | (exfalso; omega) | (conv => whnf)) | (refine Ar.i (by omega) ?_; conv => whnf) | (refine NewS.mk (fun _ => ?_); conv => whnf) | (refine QuoS.nn (by omega) ?_; conv => whnf) | (refine RemS.nn (by omega) ?_; conv => whnf) | (refine QuietS.mk (by as_aux_lemma => kernel_rfl) ?_; conv => whnf) | refine RetS.mk (fun w' hS => ?_)))
  exact ⟨rfl, hS.below⟩
theorem isOwner_any (n : Int) (w : World) : Calls Try.prog 54 #[.int .i64 n] w fun e w' => e = .returned (.bool (decide (0 ≤ n ∧ n ≤ 4))) ∧ Below w.heap.size w w' := by
  refine enter (C := cxS w []) (okS w []) (St.start w) Try.func54 rfl rfl ?_; conv => whnf
  refine ⟨rfl, CallS.ro (fun w hS => in_any _ _ _ w) ?_⟩
  conv => whnf
  (repeat' (first | (refine Sp.mk (fun hs => ?_) (fun hs => ?_) <;> first | (exfalso; omega) | (conv => whnf)) | (refine Ar.i (by omega) ?_; conv => whnf) | (refine NewS.mk (fun _ => ?_); conv => whnf) | (refine QuoS.nn (by omega) ?_; conv => whnf) | (refine RemS.nn (by omega) ?_; conv => whnf) | (refine QuietS.mk (by as_aux_lemma => kernel_rfl) ?_; conv => whnf) | refine RetS.mk (fun w' hS => ?_)))
  exact ⟨rfl, hS.below⟩
theorem meets_any (x : LeaseD) (f u : Int) (w : World) : Calls Try.prog 58 #[.agg (leaseV x).toArray, .int .i64 f, .int .i64 u] w fun e w' => e = .returned (.bool (decide (x.f < u ∧ f < x.u))) ∧ Below w.heap.size w w' := by
  refine enter (C := cxS w []) (okS w []) (St.start w) Try.func58 rfl rfl ?_; conv => whnf
  (repeat' (first | (refine Sp.mk (fun hs => ?_) (fun hs => ?_) <;> first | (exfalso; omega) | (conv => whnf)) | (refine Ar.i (by omega) ?_; conv => whnf) | (refine NewS.mk (fun _ => ?_); conv => whnf) | (refine QuoS.nn (by omega) ?_; conv => whnf) | (refine RemS.nn (by omega) ?_; conv => whnf) | (refine QuietS.mk (by as_aux_lemma => kernel_rfl) ?_; conv => whnf) | refine RetS.mk (fun w' hS => ?_)))
  all_goals exact ⟨by congr 2; simp [*], hS.below⟩
theorem smeets_any (x y : LeaseD) (w : World) : Calls Try.prog 64 #[.agg (leaseV x).toArray, .agg (leaseV y).toArray] w fun e w' => e = .returned (.bool (decide (x.f < y.u ∧ y.f < x.u))) ∧ Below w.heap.size w w' := by
  refine enter (C := cxS w []) (okS w []) (St.start w) Try.func64 rfl rfl ?_; conv => whnf
  (repeat' (first | (refine Sp.mk (fun hs => ?_) (fun hs => ?_) <;> first | (exfalso; omega) | (conv => whnf)) | (refine Ar.i (by omega) ?_; conv => whnf) | (refine NewS.mk (fun _ => ?_); conv => whnf) | (refine QuoS.nn (by omega) ?_; conv => whnf) | (refine RemS.nn (by omega) ?_; conv => whnf) | (refine QuietS.mk (by as_aux_lemma => kernel_rfl) ?_; conv => whnf) | refine RetS.mk (fun w' hS => ?_)))
  all_goals exact ⟨by congr 2; simp [*], hS.below⟩
theorem validLease_any (x : LeaseD) (w : World) : Calls Try.prog 71 #[.agg (leaseV x).toArray] w fun e w' => e = .returned (.bool (decide (okL x))) ∧ Below w.heap.size w w' := by
  refine enter (C := cxS w []) (okS w []) (St.start w) Try.func71 rfl rfl ?_; conv => whnf
  (repeat' (first | (refine Sp.mk (fun hs => ?_) (fun hs => ?_) <;> first | (exfalso; omega) | (conv => whnf)) | (refine Ar.i (by omega) ?_; conv => whnf) | (refine NewS.mk (fun _ => ?_); conv => whnf) | (refine QuoS.nn (by omega) ?_; conv => whnf) | (refine RemS.nn (by omega) ?_; conv => whnf) | (refine QuietS.mk (by as_aux_lemma => kernel_rfl) ?_; conv => whnf) | refine RetS.mk (fun w' hS => ?_)))
  refine ⟨rfl, CallS.p (fun w hS => inRange_any _ _ _ w) (fun h1 => ?_) (fun h1 => ?_)⟩ <;> conv => whnf
  rotate_left
  · (repeat' (first | (refine Sp.mk (fun hs => ?_) (fun hs => ?_) <;> first | (exfalso; omega) | (conv => whnf)) | (refine Ar.i (by omega) ?_; conv => whnf) | (refine NewS.mk (fun _ => ?_); conv => whnf) | (refine QuoS.nn (by omega) ?_; conv => whnf) | (refine RemS.nn (by omega) ?_; conv => whnf) | (refine QuietS.mk (by as_aux_lemma => kernel_rfl) ?_; conv => whnf) | refine RetS.mk (fun w' hS => ?_)))
    exact ⟨by rw [decide_eq_false]; exact fun h => h1 h.1, hS.below⟩
  refine ⟨rfl, CallS.p (fun w hS => inRange_any _ _ _ w) (fun h2 => ?_) (fun h2 => ?_)⟩ <;> conv => whnf
  rotate_left
  · (repeat' (first | (refine Sp.mk (fun hs => ?_) (fun hs => ?_) <;> first | (exfalso; omega) | (conv => whnf)) | (refine Ar.i (by omega) ?_; conv => whnf) | (refine NewS.mk (fun _ => ?_); conv => whnf) | (refine QuoS.nn (by omega) ?_; conv => whnf) | (refine RemS.nn (by omega) ?_; conv => whnf) | (refine QuietS.mk (by as_aux_lemma => kernel_rfl) ?_; conv => whnf) | refine RetS.mk (fun w' hS => ?_)))
    exact ⟨by rw [decide_eq_false]; exact fun h => h2 h.2.1, hS.below⟩
  refine ⟨rfl, CallS.p (fun w hS => inRange_any _ _ _ w) (fun h3 => ?_) (fun h3 => ?_)⟩ <;> conv => whnf
  rotate_left
  · (repeat' (first | (refine Sp.mk (fun hs => ?_) (fun hs => ?_) <;> first | (exfalso; omega) | (conv => whnf)) | (refine Ar.i (by omega) ?_; conv => whnf) | (refine NewS.mk (fun _ => ?_); conv => whnf) | (refine QuoS.nn (by omega) ?_; conv => whnf) | (refine RemS.nn (by omega) ?_; conv => whnf) | (refine QuietS.mk (by as_aux_lemma => kernel_rfl) ?_; conv => whnf) | refine RetS.mk (fun w' hS => ?_)))
    exact ⟨by rw [decide_eq_false]; exact fun h => h3 h.2.2.1, hS.below⟩
  (repeat' (first | (refine Sp.mk (fun hs => ?_) (fun hs => ?_) <;> first | (exfalso; omega) | (conv => whnf)) | (refine Ar.i (by omega) ?_; conv => whnf) | (refine NewS.mk (fun _ => ?_); conv => whnf) | (refine QuoS.nn (by omega) ?_; conv => whnf) | (refine RemS.nn (by omega) ?_; conv => whnf) | (refine QuietS.mk (by as_aux_lemma => kernel_rfl) ?_; conv => whnf) | refine RetS.mk (fun w' hS => ?_)))
  refine ⟨rfl, CallS.p (fun w hS => inRange_any _ _ _ w) (fun h4 => ?_) (fun h4 => ?_)⟩ <;> conv => whnf
  · (repeat' (first | (refine Sp.mk (fun hs => ?_) (fun hs => ?_) <;> first | (exfalso; omega) | (conv => whnf)) | (refine Ar.i (by omega) ?_; conv => whnf) | (refine NewS.mk (fun _ => ?_); conv => whnf) | (refine QuoS.nn (by omega) ?_; conv => whnf) | (refine RemS.nn (by omega) ?_; conv => whnf) | (refine QuietS.mk (by as_aux_lemma => kernel_rfl) ?_; conv => whnf) | refine RetS.mk (fun w' hS => ?_)))
    exact ⟨by rw [decide_eq_true]; exact ⟨h1, h2, h3, h4⟩, hS.below⟩
  · (repeat' (first | (refine Sp.mk (fun hs => ?_) (fun hs => ?_) <;> first | (exfalso; omega) | (conv => whnf)) | (refine Ar.i (by omega) ?_; conv => whnf) | (refine NewS.mk (fun _ => ?_); conv => whnf) | (refine QuoS.nn (by omega) ?_; conv => whnf) | (refine RemS.nn (by omega) ?_; conv => whnf) | (refine QuietS.mk (by as_aux_lemma => kernel_rfl) ?_; conv => whnf) | refine RetS.mk (fun w' hS => ?_)))
    exact ⟨by rw [decide_eq_false]; exact fun h => h4 h.2.2.2, hS.below⟩

/-! ### slices.IndexFunc and slices.ContainsFunc -/
def idxF (q : LeaseD → Bool) : List LeaseD → Nat → Int
  | [], _ => -1
  | x :: l, k => if q x then k else idxF q l (k + 1)
theorem idxF_any (q : LeaseD → Bool) : ∀ (l : List LeaseD) (k : Nat), (0 ≤ idxF q l k) ↔ l.any q = true
  | [], k => by simp [idxF]
  | x :: l, k => by
    simp only [idxF, List.any_cons, Bool.or_eq_true]
    cases h : q x with
    | true => simp
    | false => simpa using idxF_any q l (k + 1)
/-- A closure that answers of a lease. -/
structure Tells (w : World) (g : Nat) (caps : List Value) (l : List LeaseD) (q : LeaseD → Bool) : Prop where
  mem : memN (cxS w []).F g = true
  run : ∀ w', Below w.heap.size w w' → ∀ x ∈ l, Calls Try.prog g (Value.agg (leaseV x).toArray :: caps).toArray w' fun e w'' => e = .returned (.bool (q x)) ∧ Below w'.heap.size w' w''
theorem indexFunc_any {A : Option Addr} {n c : Nat} {l : List LeaseD} (w : World) (hL : Leases w A n l) {g : Nat} {caps : List Value} {q : LeaseD → Bool} (hT : Tells w g caps l q) :
    Calls Try.prog 72 #[.slice A n c, .func (.func g) #[] caps.toArray] w fun e w' => e = .returned (.int .i64 (idxF q l 0)) ∧ Below w.heap.size w w' := by
  have hl := hL.len
  have hn := hL.le
  refine enter (C := cxS w []) (okS w []) (St.start w) Try.func72 rfl rfl ?_; conv => whnf
  refine LoopS.same (okS w []) [(4, 5), (8, 18)] [8] rfl (fun k : Nat => [I64 k]) (fun k => k ≤ n ∧ idxF q l 0 = idxF q (l.drop k) k) (fun k => n - k) 0 ⟨by omega, rfl⟩ ⟨rfl, trivial⟩ (LbTo.refl_nil _) (fun k g ⟨hk, hI⟩ => ?_)
  conv => whnf
  refine Sp.mk (fun h => ?_) (fun h => ?_) <;> conv => whnf
  · obtain ⟨ad, x, rfl, hx, hm, hc⟩ := hL.at_ (k := k) (by omega)
    refine IdxS.at_ k rfl rfl (by omega) ?_
    conv => whnf
    refine LdsS.at_ (vs := leaseV x) rfl (fun w' hS j u hu => hS.cell0 (hc j u hu)) ?_
    conv => whnf
    rw [drop_at hx, idxF] at hI
    refine ⟨hT.mem, CallS.b (fun w' hS => hT.run w' hS.below x hm) (fun hb => ?_) (fun hb => ?_)⟩ <;> conv => whnf
    · (repeat' (first | (refine Sp.mk (fun hs => ?_) (fun hs => ?_) <;> first | (exfalso; omega) | (conv => whnf)) | (refine Ar.i (by omega) ?_; conv => whnf) | (refine NewS.mk (fun _ => ?_); conv => whnf) | (refine QuoS.nn (by omega) ?_; conv => whnf) | (refine RemS.nn (by omega) ?_; conv => whnf) | (refine QuietS.mk (by as_aux_lemma => kernel_rfl) ?_; conv => whnf) | refine RetS.mk (fun w' hS => ?_)))
      exact ⟨by rw [hI, if_pos hb], hS.below⟩
    · refine Ar.i (by omega) ?_
      conv => whnf
      exact ⟨k + 1, ⟨by omega, by rw [hI, if_neg (by simp [hb])]⟩, by omega, ⟨rfl, trivial⟩, LbTo.refl_nil _, RsTo.refl _⟩
  · (repeat' (first | (refine Sp.mk (fun hs => ?_) (fun hs => ?_) <;> first | (exfalso; omega) | (conv => whnf)) | (refine Ar.i (by omega) ?_; conv => whnf) | (refine NewS.mk (fun _ => ?_); conv => whnf) | (refine QuoS.nn (by omega) ?_; conv => whnf) | (refine RemS.nn (by omega) ?_; conv => whnf) | (refine QuietS.mk (by as_aux_lemma => kernel_rfl) ?_; conv => whnf) | refine RetS.mk (fun w' hS => ?_)))
    have hkn : k = n := by omega
    rw [hkn, ← hl, List.drop_length] at hI
    exact ⟨by rw [hI]; rfl, hS.below⟩
theorem containsFunc_any {A : Option Addr} {n c : Nat} {l : List LeaseD} (w : World) (hL : Leases w A n l) {g : Nat} {caps : List Value} {q : LeaseD → Bool} (hT : Tells w g caps l q) :
    Calls Try.prog 56 #[.slice A n c, .func (.func g) #[] caps.toArray] w fun e w' => e = .returned (.bool (l.any q)) ∧ Below w.heap.size w w' := by
  refine enter (C := cxS w []) (okS w []) (St.start w) Try.func56 rfl rfl ?_; conv => whnf
  refine ⟨rfl, CallS.ro (fun w' hS => indexFunc_any w' (hL.below hS.below) ⟨hT.mem, fun w2 h2 => hT.run w2 (hS.below.trans (h2.mono hS.below.size))⟩) ?_⟩
  conv => whnf
  (repeat' (first | (refine Sp.mk (fun hs => ?_) (fun hs => ?_) <;> first | (exfalso; omega) | (conv => whnf)) | (refine Ar.i (by omega) ?_; conv => whnf) | (refine NewS.mk (fun _ => ?_); conv => whnf) | (refine QuoS.nn (by omega) ?_; conv => whnf) | (refine RemS.nn (by omega) ?_; conv => whnf) | (refine QuietS.mk (by as_aux_lemma => kernel_rfl) ?_; conv => whnf) | refine RetS.mk (fun w' hS => ?_)))
  · exact ⟨by rw [(idxF_any q l 0).1 (by assumption)], hS.below⟩
  · exact ⟨by rw [Bool.eq_false_iff.2 (fun h => (by assumption : ¬ _) ((idxF_any q l 0).2 h))], hS.below⟩
end Go.Proofs.Ytgfblbpiokiagaa
