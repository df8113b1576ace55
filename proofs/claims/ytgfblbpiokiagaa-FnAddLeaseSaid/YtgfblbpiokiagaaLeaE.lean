/- AddLease, BusyAt and FreeFor of both packages; the harness's functions on leases; conditions: none. -/
import Derived.Test.YtgfblbpiokiagaaLeaD
import Derived.Test.YtgfblbpiokiagaaInt
set_option maxRecDepth 100000
set_option linter.unusedVariables false
set_option linter.unusedSimpArgs false
namespace Go.Proofs.Ytgfblbpiokiagaa
open Eng Go Go.RowKit

theorem flat_one (l : List LeaseD) (x : LeaseD) : l.flatMap leaseV ++ leaseV x = (l ++ [x]).flatMap leaseV := by simp
/-- What AddLease hands back. -/
def addR (n : Nat) : Option (Option Addr × Nat) → Value
  | none => .tuple #[.slice none 0 0, .bool false]
  | some y => .tuple #[.slice y.1 (n + 1) y.2, .bool true]
def addP (l : List LeaseD) (x : LeaseD) (n : Nat) : Option (Option Addr × Nat) → Prop
  | none => ¬ addOk l x
  | some y => addOk l x ∧ n + 1 ≤ y.2
def addO (l : List LeaseD) (x : LeaseD) (n : Nat) : Option (Option Addr × Nat) → List Own
  | none => []
  | some y => [rowOf 32 4 y.1 (n + 1) y.2 ((l ++ [x]).flatMap leaseV)]

theorem iAdd_any {A : Option Addr} {n c : Nat} {l : List LeaseD} (x : LeaseD) (w : World) (hL : Leases w A n l) (hn : n ≤ c) (hb : n ≤ 1900000) :
    Calls Try.prog 38 #[.slice A n c, .agg (leaseV x).toArray] w fun e w' => ∃ y, addP l x n y ∧ e = .returned (addR n y) ∧ Below w.heap.size w w' ∧ Fresh w.heap.size (addO l x n y) w' := by
  refine enter (C := cxS w []) (okS w []) (St.start w) Try.func38 rfl rfl ?_; conv => whnf
  (repeat' (first | (refine Sp.mk (fun hs => ?_) (fun hs => ?_) <;> first | (exfalso; omega) | (conv => whnf)) | (refine Ar.i (by omega) ?_; conv => whnf) | (refine NewS.mk (fun _ => ?_); conv => whnf) | (refine QuoS.nn (by omega) ?_; conv => whnf) | (refine RemS.nn (by omega) ?_; conv => whnf) | refine RetS.mk (fun w' hS => ?_)))
  refine DrawS.all (.first 0 (.first 2 (.alt 1 (.one 3 (.one 4 (.first 5 (.done)))) (.alt 3 (.one 1 (.one 4 (.first 5 (.done)))) (.stop))))) (by as_aux_lemma => kernel_rfl) (LbTo.self rfl) ?_
  conv => whnf
  have hout : ∀ (w' : World) (A' : Option Addr), Reads w' 4 A' (n + 1) (l.flatMap leaseV ++ leaseV x) → Leases w' A' (n + 1) (l ++ [x]) := fun w' A' h => ⟨by rwa [flat_one] at h, by omega⟩
  refine AltS.mk ?_ (AltS.mk ?_ trivial) <;> conv => whnf
  · refine ⟨rfl, CallS.own (fun w' hS => clone_impl_Lease_any w' (hS.arg hL.rd) (leaseL_one l) hL.le) (fun A1 _ => ?_)⟩
    conv => whnf
    refine StS.mk rfl (RsTo.sub (by simp)) ?_
    conv => whnf
    (repeat' (first | (refine Sp.mk (fun hs => ?_) (fun hs => ?_) <;> first | (exfalso; omega) | (conv => whnf)) | (refine Ar.i (by omega) ?_; conv => whnf) | (refine NewS.mk (fun _ => ?_); conv => whnf) | (refine QuoS.nn (by omega) ?_; conv => whnf) | (refine RemS.nn (by omega) ?_; conv => whnf) | refine RetS.mk (fun w' hS => ?_)))
    refine StS.mk rfl (RsTo.sub (by simp)) ?_
    conv => whnf
    refine SemS.appR (okS w []) (i := 0) rfl rfl (by decide) rfl (by omega) (fun w' hS => St.row hS (e := 32) (xs := leaseV x) (List.mem_of_getElem? (i := 1) rfl)) (leaseV_one x) (by simp only [maxLen]; omega) (by simp only; omega) (fun A2 c2 hc2 => ?_)
    conv => whnf
    refine StS.mk rfl (RsTo.sub (by simp)) ?_
    conv => whnf
    refine ⟨rfl, CallS.p (fun w' hS => iValid_any w' (hL.below hS.below) hn) (fun hv => ?_) (fun hv => ?_)⟩ <;> conv => whnf
    rotate_left
    · (repeat' (first | (refine Sp.mk (fun hs => ?_) (fun hs => ?_) <;> first | (exfalso; omega) | (conv => whnf)) | (refine Ar.i (by omega) ?_; conv => whnf) | (refine NewS.mk (fun _ => ?_); conv => whnf) | (refine QuoS.nn (by omega) ?_; conv => whnf) | (refine RemS.nn (by omega) ?_; conv => whnf) | (refine QuietS.mk (by as_aux_lemma => kernel_rfl) ?_; conv => whnf) | refine RetS.mk (fun w' hS => ?_)))
      exact ⟨none, fun h => hv h.1, rfl, hS.below, Fresh.nil _ _⟩
    refine ⟨rfl, CallS.p (fun w' hS => iValid_any w' (hout _ _ (hS.row (List.mem_of_getElem? (i := 0) rfl))) hc2) (fun hv2 => ?_) (fun hv2 => ?_)⟩ <;> conv => whnf
    rotate_left
    · (repeat' (first | (refine Sp.mk (fun hs => ?_) (fun hs => ?_) <;> first | (exfalso; omega) | (conv => whnf)) | (refine Ar.i (by omega) ?_; conv => whnf) | (refine NewS.mk (fun _ => ?_); conv => whnf) | (refine QuoS.nn (by omega) ?_; conv => whnf) | (refine RemS.nn (by omega) ?_; conv => whnf) | (refine QuietS.mk (by as_aux_lemma => kernel_rfl) ?_; conv => whnf) | refine RetS.mk (fun w' hS => ?_)))
      exact ⟨none, fun h => hv2 h.2, rfl, hS.below, Fresh.nil _ _⟩
    refine ⟨rfl, CallS.own (fun w' hS => clone_impl_Lease_any w' (hout _ _ (hS.row (List.mem_of_getElem? (i := 0) rfl))).rd (leaseL_one _) (by omega)) (fun A3 _ => ?_)⟩
    conv => whnf
    (repeat' (first | (refine Sp.mk (fun hs => ?_) (fun hs => ?_) <;> first | (exfalso; omega) | (conv => whnf)) | (refine Ar.i (by omega) ?_; conv => whnf) | (refine NewS.mk (fun _ => ?_); conv => whnf) | (refine QuoS.nn (by omega) ?_; conv => whnf) | (refine RemS.nn (by omega) ?_; conv => whnf) | (refine QuietS.mk (by as_aux_lemma => kernel_rfl) ?_; conv => whnf) | refine RetS.mk (fun w' hS => ?_)))
    exact ⟨some (A3, n + 1), ⟨⟨hv, hv2⟩, Nat.le_refl _⟩, rfl, hS.below, hS.fresh (by simp [addO])⟩
  · (repeat' (first | (refine Sp.mk (fun hs => ?_) (fun hs => ?_) <;> first | (exfalso; omega) | (conv => whnf)) | (refine Ar.i (by omega) ?_; conv => whnf) | (refine NewS.mk (fun _ => ?_); conv => whnf) | (refine QuoS.nn (by omega) ?_; conv => whnf) | (refine RemS.nn (by omega) ?_; conv => whnf) | refine RetS.mk (fun w' hS => ?_)))
    refine StS.mk rfl (RsTo.sub (by simp)) ?_
    conv => whnf
    refine ⟨rfl, CallS.own (fun w' hS => clone_impl_Lease_any w' (hS.arg hL.rd) (leaseL_one l) hL.le) (fun A1 _ => ?_)⟩
    conv => whnf
    refine StS.mk rfl (RsTo.sub (by simp)) ?_
    conv => whnf
    refine SemS.appR (okS w []) (i := 1) rfl rfl (by decide) rfl (by omega) (fun w' hS => St.row hS (e := 32) (xs := leaseV x) (List.mem_of_getElem? (i := 0) rfl)) (leaseV_one x) (by simp only [maxLen]; omega) (by simp only; omega) (fun A2 c2 hc2 => ?_)
    conv => whnf
    refine StS.mk rfl (RsTo.sub (by simp)) ?_
    conv => whnf
    refine ⟨rfl, CallS.p (fun w' hS => iValid_any w' (hL.below hS.below) hn) (fun hv => ?_) (fun hv => ?_)⟩ <;> conv => whnf
    rotate_left
    · (repeat' (first | (refine Sp.mk (fun hs => ?_) (fun hs => ?_) <;> first | (exfalso; omega) | (conv => whnf)) | (refine Ar.i (by omega) ?_; conv => whnf) | (refine NewS.mk (fun _ => ?_); conv => whnf) | (refine QuoS.nn (by omega) ?_; conv => whnf) | (refine RemS.nn (by omega) ?_; conv => whnf) | (refine QuietS.mk (by as_aux_lemma => kernel_rfl) ?_; conv => whnf) | refine RetS.mk (fun w' hS => ?_)))
      exact ⟨none, fun h => hv h.1, rfl, hS.below, Fresh.nil _ _⟩
    refine ⟨rfl, CallS.p (fun w' hS => iValid_any w' (hout _ _ (hS.row (List.mem_of_getElem? (i := 1) rfl))) hc2) (fun hv2 => ?_) (fun hv2 => ?_)⟩ <;> conv => whnf
    rotate_left
    · (repeat' (first | (refine Sp.mk (fun hs => ?_) (fun hs => ?_) <;> first | (exfalso; omega) | (conv => whnf)) | (refine Ar.i (by omega) ?_; conv => whnf) | (refine NewS.mk (fun _ => ?_); conv => whnf) | (refine QuoS.nn (by omega) ?_; conv => whnf) | (refine RemS.nn (by omega) ?_; conv => whnf) | (refine QuietS.mk (by as_aux_lemma => kernel_rfl) ?_; conv => whnf) | refine RetS.mk (fun w' hS => ?_)))
      exact ⟨none, fun h => hv2 h.2, rfl, hS.below, Fresh.nil _ _⟩
    refine ⟨rfl, CallS.own (fun w' hS => clone_impl_Lease_any w' (hout _ _ (hS.row (List.mem_of_getElem? (i := 1) rfl))).rd (leaseL_one _) (by omega)) (fun A3 _ => ?_)⟩
    conv => whnf
    (repeat' (first | (refine Sp.mk (fun hs => ?_) (fun hs => ?_) <;> first | (exfalso; omega) | (conv => whnf)) | (refine Ar.i (by omega) ?_; conv => whnf) | (refine NewS.mk (fun _ => ?_); conv => whnf) | (refine QuoS.nn (by omega) ?_; conv => whnf) | (refine RemS.nn (by omega) ?_; conv => whnf) | (refine QuietS.mk (by as_aux_lemma => kernel_rfl) ?_; conv => whnf) | refine RetS.mk (fun w' hS => ?_)))
    exact ⟨some (A3, n + 1), ⟨⟨hv, hv2⟩, Nat.le_refl _⟩, rfl, hS.below, hS.fresh (by simp [addO])⟩

theorem sAdd_any {A : Option Addr} {n c : Nat} {l : List LeaseD} (x : LeaseD) (w : World) (hL : Leases w A n l) (hb : n ≤ 1900000) :
    Calls Try.prog 39 #[.slice A n c, .agg (leaseV x).toArray] w fun e w' => ∃ y, addP l x n y ∧ e = .returned (addR n y) ∧ Below w.heap.size w w' ∧ Fresh w.heap.size (addO l x n y) w' := by
  refine enter (C := cxS w []) (okS w []) (St.start w) Try.func39 rfl rfl ?_; conv => whnf
  (repeat' (first | (refine Sp.mk (fun hs => ?_) (fun hs => ?_) <;> first | (exfalso; omega) | (conv => whnf)) | (refine Ar.i (by omega) ?_; conv => whnf) | (refine NewS.mk (fun _ => ?_); conv => whnf) | (refine QuoS.nn (by omega) ?_; conv => whnf) | (refine RemS.nn (by omega) ?_; conv => whnf) | refine RetS.mk (fun w' hS => ?_)))
  refine DrawS.all (.first 1 (.first 3 (.alt 0 (.alt 2 (.one 4 (.one 5 (.first 6 (.done)))) (.alt 4 (.one 2 (.one 5 (.first 6 (.done)))) (.stop))) (.alt 4 (.one 0 (.one 2 (.one 5 (.first 6 (.done))))) (.stop))))) (by as_aux_lemma => kernel_rfl) (LbTo.self rfl) ?_
  conv => whnf
  have hout : ∀ (w' : World) (A' : Option Addr), Reads w' 4 A' (n + 1) (l.flatMap leaseV ++ leaseV x) → Leases w' A' (n + 1) (l ++ [x]) := fun w' A' h => ⟨by rwa [flat_one] at h, by omega⟩
  refine AltS.mk ?_ (AltS.mk ?_ trivial) <;> conv => whnf
  · (repeat' (first | (refine Sp.mk (fun hs => ?_) (fun hs => ?_) <;> first | (exfalso; omega) | (conv => whnf)) | (refine Ar.i (by omega) ?_; conv => whnf) | (refine NewS.mk (fun _ => ?_); conv => whnf) | (refine QuoS.nn (by omega) ?_; conv => whnf) | (refine RemS.nn (by omega) ?_; conv => whnf) | refine RetS.mk (fun w' hS => ?_)))
    refine StS.mk rfl (RsTo.sub (by simp)) ?_
    conv => whnf
    refine AltS.mk ?_ (AltS.mk ?_ trivial) <;> conv => whnf
    · refine SemS.appZ (okS w []) rfl rfl (by decide) (fun w' hS => hS.arg hL.rd) (leaseL_one l) (by simp only [maxLen]; omega) (by simp only; omega) (fun A1 c1 hc1 => ?_)
      conv => whnf
      refine StS.mk rfl (RsTo.sub (by simp)) ?_
      conv => whnf
      (repeat' (first | (refine Sp.mk (fun hs => ?_) (fun hs => ?_) <;> first | (exfalso; omega) | (conv => whnf)) | (refine Ar.i (by omega) ?_; conv => whnf) | (refine NewS.mk (fun _ => ?_); conv => whnf) | (refine QuoS.nn (by omega) ?_; conv => whnf) | (refine RemS.nn (by omega) ?_; conv => whnf) | refine RetS.mk (fun w' hS => ?_)))
      refine StS.mk rfl (RsTo.sub (by simp)) ?_
      conv => whnf
      refine SemS.appR (okS w []) (i := 1) rfl rfl (by decide) rfl (by omega) (fun w' hS => St.row hS (e := 32) (xs := leaseV x) (List.mem_of_getElem? (i := 2) rfl)) (leaseV_one x) (by simp only [maxLen]; omega) (by simp only; omega) (fun A2 c2 hc2 => ?_)
      conv => whnf
      refine StS.mk rfl (RsTo.sub (by simp)) ?_
      conv => whnf
      refine ⟨rfl, CallS.p (fun w' hS => svalid_any w' (hL.below hS.below)) (fun hv => ?_) (fun hv => ?_)⟩ <;> conv => whnf
      rotate_left
      · (repeat' (first | (refine Sp.mk (fun hs => ?_) (fun hs => ?_) <;> first | (exfalso; omega) | (conv => whnf)) | (refine Ar.i (by omega) ?_; conv => whnf) | (refine NewS.mk (fun _ => ?_); conv => whnf) | (refine QuoS.nn (by omega) ?_; conv => whnf) | (refine RemS.nn (by omega) ?_; conv => whnf) | (refine QuietS.mk (by as_aux_lemma => kernel_rfl) ?_; conv => whnf) | refine RetS.mk (fun w' hS => ?_)))
        exact ⟨none, fun h => hv h.1, rfl, hS.below, Fresh.nil _ _⟩
      refine ⟨rfl, CallS.p (fun w' hS => svalid_any w' (hout _ _ (hS.row (List.mem_of_getElem? (i := 1) rfl)))) (fun hv2 => ?_) (fun hv2 => ?_)⟩ <;> conv => whnf
      rotate_left
      · (repeat' (first | (refine Sp.mk (fun hs => ?_) (fun hs => ?_) <;> first | (exfalso; omega) | (conv => whnf)) | (refine Ar.i (by omega) ?_; conv => whnf) | (refine NewS.mk (fun _ => ?_); conv => whnf) | (refine QuoS.nn (by omega) ?_; conv => whnf) | (refine RemS.nn (by omega) ?_; conv => whnf) | (refine QuietS.mk (by as_aux_lemma => kernel_rfl) ?_; conv => whnf) | refine RetS.mk (fun w' hS => ?_)))
        exact ⟨none, fun h => hv2 h.2, rfl, hS.below, Fresh.nil _ _⟩
      (repeat' (first | (refine Sp.mk (fun hs => ?_) (fun hs => ?_) <;> first | (exfalso; omega) | (conv => whnf)) | (refine Ar.i (by omega) ?_; conv => whnf) | (refine NewS.mk (fun _ => ?_); conv => whnf) | (refine QuoS.nn (by omega) ?_; conv => whnf) | (refine RemS.nn (by omega) ?_; conv => whnf) | (refine QuietS.mk (by as_aux_lemma => kernel_rfl) ?_; conv => whnf) | refine RetS.mk (fun w' hS => ?_)))
      exact ⟨some (A2, c2), ⟨⟨hv, hv2⟩, hc2⟩, rfl, hS.below, Fresh.norm (by have := hS.fresh (os := [⟨32, 4, .slice A2 (n + 1) c2, n + 1, l.flatMap leaseV ++ leaseV x⟩]) (by simp); rwa [flat_one] at this)⟩
    · (repeat' (first | (refine Sp.mk (fun hs => ?_) (fun hs => ?_) <;> first | (exfalso; omega) | (conv => whnf)) | (refine Ar.i (by omega) ?_; conv => whnf) | (refine NewS.mk (fun _ => ?_); conv => whnf) | (refine QuoS.nn (by omega) ?_; conv => whnf) | (refine RemS.nn (by omega) ?_; conv => whnf) | refine RetS.mk (fun w' hS => ?_)))
      refine StS.mk rfl (RsTo.sub (by simp)) ?_
      conv => whnf
      refine SemS.appZ (okS w []) rfl rfl (by decide) (fun w' hS => hS.arg hL.rd) (leaseL_one l) (by simp only [maxLen]; omega) (by simp only; omega) (fun A1 c1 hc1 => ?_)
      conv => whnf
      refine StS.mk rfl (RsTo.sub (by simp)) ?_
      conv => whnf
      refine SemS.appR (okS w []) (i := 2) rfl rfl (by decide) rfl (by omega) (fun w' hS => St.row hS (e := 32) (xs := leaseV x) (List.mem_of_getElem? (i := 1) rfl)) (leaseV_one x) (by simp only [maxLen]; omega) (by simp only; omega) (fun A2 c2 hc2 => ?_)
      conv => whnf
      refine StS.mk rfl (RsTo.sub (by simp)) ?_
      conv => whnf
      refine ⟨rfl, CallS.p (fun w' hS => svalid_any w' (hL.below hS.below)) (fun hv => ?_) (fun hv => ?_)⟩ <;> conv => whnf
      rotate_left
      · (repeat' (first | (refine Sp.mk (fun hs => ?_) (fun hs => ?_) <;> first | (exfalso; omega) | (conv => whnf)) | (refine Ar.i (by omega) ?_; conv => whnf) | (refine NewS.mk (fun _ => ?_); conv => whnf) | (refine QuoS.nn (by omega) ?_; conv => whnf) | (refine RemS.nn (by omega) ?_; conv => whnf) | (refine QuietS.mk (by as_aux_lemma => kernel_rfl) ?_; conv => whnf) | refine RetS.mk (fun w' hS => ?_)))
        exact ⟨none, fun h => hv h.1, rfl, hS.below, Fresh.nil _ _⟩
      refine ⟨rfl, CallS.p (fun w' hS => svalid_any w' (hout _ _ (hS.row (List.mem_of_getElem? (i := 2) rfl)))) (fun hv2 => ?_) (fun hv2 => ?_)⟩ <;> conv => whnf
      rotate_left
      · (repeat' (first | (refine Sp.mk (fun hs => ?_) (fun hs => ?_) <;> first | (exfalso; omega) | (conv => whnf)) | (refine Ar.i (by omega) ?_; conv => whnf) | (refine NewS.mk (fun _ => ?_); conv => whnf) | (refine QuoS.nn (by omega) ?_; conv => whnf) | (refine RemS.nn (by omega) ?_; conv => whnf) | (refine QuietS.mk (by as_aux_lemma => kernel_rfl) ?_; conv => whnf) | refine RetS.mk (fun w' hS => ?_)))
        exact ⟨none, fun h => hv2 h.2, rfl, hS.below, Fresh.nil _ _⟩
      (repeat' (first | (refine Sp.mk (fun hs => ?_) (fun hs => ?_) <;> first | (exfalso; omega) | (conv => whnf)) | (refine Ar.i (by omega) ?_; conv => whnf) | (refine NewS.mk (fun _ => ?_); conv => whnf) | (refine QuoS.nn (by omega) ?_; conv => whnf) | (refine RemS.nn (by omega) ?_; conv => whnf) | (refine QuietS.mk (by as_aux_lemma => kernel_rfl) ?_; conv => whnf) | refine RetS.mk (fun w' hS => ?_)))
      exact ⟨some (A2, c2), ⟨⟨hv, hv2⟩, hc2⟩, rfl, hS.below, Fresh.norm (by have := hS.fresh (os := [⟨32, 4, .slice A2 (n + 1) c2, n + 1, l.flatMap leaseV ++ leaseV x⟩]) (by simp); rwa [flat_one] at this)⟩
  · (repeat' (first | (refine Sp.mk (fun hs => ?_) (fun hs => ?_) <;> first | (exfalso; omega) | (conv => whnf)) | (refine Ar.i (by omega) ?_; conv => whnf) | (refine NewS.mk (fun _ => ?_); conv => whnf) | (refine QuoS.nn (by omega) ?_; conv => whnf) | (refine RemS.nn (by omega) ?_; conv => whnf) | refine RetS.mk (fun w' hS => ?_)))
    refine StS.mk rfl (RsTo.sub (by simp)) ?_
    conv => whnf
    (repeat' (first | (refine Sp.mk (fun hs => ?_) (fun hs => ?_) <;> first | (exfalso; omega) | (conv => whnf)) | (refine Ar.i (by omega) ?_; conv => whnf) | (refine NewS.mk (fun _ => ?_); conv => whnf) | (refine QuoS.nn (by omega) ?_; conv => whnf) | (refine RemS.nn (by omega) ?_; conv => whnf) | refine RetS.mk (fun w' hS => ?_)))
    refine StS.mk rfl (RsTo.sub (by simp)) ?_
    conv => whnf
    refine SemS.appZ (okS w []) rfl rfl (by decide) (fun w' hS => hS.arg hL.rd) (leaseL_one l) (by simp only [maxLen]; omega) (by simp only; omega) (fun A1 c1 hc1 => ?_)
    conv => whnf
    refine StS.mk rfl (RsTo.sub (by simp)) ?_
    conv => whnf
    refine SemS.appR (okS w []) (i := 2) rfl rfl (by decide) rfl (by omega) (fun w' hS => St.row hS (e := 32) (xs := leaseV x) (List.mem_of_getElem? (i := 0) rfl)) (leaseV_one x) (by simp only [maxLen]; omega) (by simp only; omega) (fun A2 c2 hc2 => ?_)
    conv => whnf
    refine StS.mk rfl (RsTo.sub (by simp)) ?_
    conv => whnf
    refine ⟨rfl, CallS.p (fun w' hS => svalid_any w' (hL.below hS.below)) (fun hv => ?_) (fun hv => ?_)⟩ <;> conv => whnf
    rotate_left
    · (repeat' (first | (refine Sp.mk (fun hs => ?_) (fun hs => ?_) <;> first | (exfalso; omega) | (conv => whnf)) | (refine Ar.i (by omega) ?_; conv => whnf) | (refine NewS.mk (fun _ => ?_); conv => whnf) | (refine QuoS.nn (by omega) ?_; conv => whnf) | (refine RemS.nn (by omega) ?_; conv => whnf) | (refine QuietS.mk (by as_aux_lemma => kernel_rfl) ?_; conv => whnf) | refine RetS.mk (fun w' hS => ?_)))
      exact ⟨none, fun h => hv h.1, rfl, hS.below, Fresh.nil _ _⟩
    refine ⟨rfl, CallS.p (fun w' hS => svalid_any w' (hout _ _ (hS.row (List.mem_of_getElem? (i := 2) rfl)))) (fun hv2 => ?_) (fun hv2 => ?_)⟩ <;> conv => whnf
    rotate_left
    · (repeat' (first | (refine Sp.mk (fun hs => ?_) (fun hs => ?_) <;> first | (exfalso; omega) | (conv => whnf)) | (refine Ar.i (by omega) ?_; conv => whnf) | (refine NewS.mk (fun _ => ?_); conv => whnf) | (refine QuoS.nn (by omega) ?_; conv => whnf) | (refine RemS.nn (by omega) ?_; conv => whnf) | (refine QuietS.mk (by as_aux_lemma => kernel_rfl) ?_; conv => whnf) | refine RetS.mk (fun w' hS => ?_)))
      exact ⟨none, fun h => hv2 h.2, rfl, hS.below, Fresh.nil _ _⟩
    (repeat' (first | (refine Sp.mk (fun hs => ?_) (fun hs => ?_) <;> first | (exfalso; omega) | (conv => whnf)) | (refine Ar.i (by omega) ?_; conv => whnf) | (refine NewS.mk (fun _ => ?_); conv => whnf) | (refine QuoS.nn (by omega) ?_; conv => whnf) | (refine RemS.nn (by omega) ?_; conv => whnf) | (refine QuietS.mk (by as_aux_lemma => kernel_rfl) ?_; conv => whnf) | refine RetS.mk (fun w' hS => ?_)))
    exact ⟨some (A2, c2), ⟨⟨hv, hv2⟩, hc2⟩, rfl, hS.below, Fresh.norm (by have := hS.fresh (os := [⟨32, 4, .slice A2 (n + 1) c2, n + 1, l.flatMap leaseV ++ leaseV x⟩]) (by simp); rwa [flat_one] at this)⟩
end Go.Proofs.Ytgfblbpiokiagaa
