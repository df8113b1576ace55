/- AddLease and BusyAt, exact; conditions: none. -/
import Derived.Test.YtgfblbpiokiagaaLeaH
set_option maxRecDepth 100000
set_option linter.unusedVariables false
set_option linter.unusedSimpArgs false
namespace Go.Proofs.Ytgfblbpiokiagaa
open Eng Go Go.RowKit

section
variable {w0 : World} {S0 : List Nat} {lb : List Box} {rs : List Own} {K : SV → List Box → List Own → Prop}
theorem call_mark {A : Option Addr} {n c : Nat} {xs : List Value} {k0 : Int} (i : Nat) (hi : rs[i]? = some (rowOf 32 4 A n c xs)) (h0 : 0 ≤ k0 ∧ k0 ≤ 100000000) (hn : n ≤ 2000000)
    (kk : K (.v (.int .i64 (k0 + 4 * n))) lb (rs.set i (rowOf 32 4 A n c (i64s (up k0 (4 * n)))))) :
    memN (cxS w0 S0).F 44 = true ∧ CallS (cxS w0 S0) lb rs 44 #[.slice A n c, .int .i64 k0] K :=
  ⟨rfl, CallS.updR (α := Unit) (r := fun _ => .int .i64 (k0 + 4 * n)) (φ := fun _ => True) (ys := fun _ => i64s (up k0 (4 * n))) hi (fun w hS => (markLease_any k0 h0 w hn (hS.own _ (List.mem_of_getElem? hi)).1).mono fun e w' ⟨h1, h2, h3⟩ => ⟨(), trivial, h1, h2, h3⟩) (fun _ _ => kk)⟩
theorem call_markI {A : Option Addr} {n c : Nat} {xs : List Value} {k0 : Int} (i : Nat) (hi : rs[i]? = some (rowOf 3 1 A n c xs)) (h0 : 0 ≤ k0 ∧ k0 ≤ 100000000) (hn : n ≤ 2000000)
    (kk : K (.v (.int .i64 (k0 + n))) lb (rs.set i (rowOf 3 1 A n c (i64s (up k0 n))))) :
    memN (cxS w0 S0).F 50 = true ∧ CallS (cxS w0 S0) lb rs 50 #[.slice A n c, .int .i64 k0] K :=
  ⟨rfl, CallS.updR (α := Unit) (r := fun _ => .int .i64 (k0 + n)) (φ := fun _ => True) (ys := fun _ => i64s (up k0 n)) hi (fun w hS => (laws_markIntS_any k0 h0 w hn (hS.own _ (List.mem_of_getElem? hi)).1).mono fun e w' ⟨h1, h2, h3⟩ => ⟨(), trivial, h1, h2, h3⟩) (fun _ _ => kk)⟩
end

theorem exactAdd_any (w : World) {A : Option Addr} {n c : Nat} {l : List LeaseD} (hr : Reads w 4 A n (l.flatMap leaseV)) (hm : n ≤ maxLen) (x : LeaseD) :
    Calls Try.prog 19 #[.slice A n c, .agg (leaseV x).toArray] w fun e w' => e = .returned (.bool true) ∧ Below w.heap.size w w' := by
  refine enter (C := cxS w []) (okS w []) (St.start w) Try.func19 rfl rfl ?_; conv => whnf
  refine NewS.mk (fun g0 => ?_)
  conv => whnf
  refine ⟨rfl, CallS.ro (fun w hS => sz_any 1048576 (by omega) hm w) ?_⟩
  by_cases hb : (1048576 : Int) - n < 0
  · rw [if_pos hb]
    conv => whnf
    (repeat' (first | (refine Sp.mk (fun hs => ?_) (fun hs => ?_) <;> first | (exfalso; omega) | (conv => whnf)) | (refine Ar.i (by omega) ?_; conv => whnf) | (refine NewS.mk (fun _ => ?_); conv => whnf) | (refine QuoS.nn (by omega) ?_; conv => whnf) | (refine RemS.nn (by omega) ?_; conv => whnf) | (refine QuietS.mk (by as_aux_lemma => kernel_rfl) ?_; conv => whnf) | refine RetS.mk (fun w' hS => ?_)))
    exact ⟨rfl, hS.below⟩
  rw [if_neg hb]
  have hn : n ≤ 1048576 := by omega
  have hL : Leases w A n l := ⟨hr, by omega⟩
  have hll := hL.len
  have hlen := addL_len l x
  have hlen2 : (addL l x).length ≤ 2000000 := by omega
  conv => whnf
  (repeat' (first | (refine Sp.mk (fun hs => ?_) (fun hs => ?_) <;> first | (exfalso; omega) | (conv => whnf)) | (refine Ar.i (by omega) ?_; conv => whnf) | (refine NewS.mk (fun _ => ?_); conv => whnf) | (refine QuoS.nn (by omega) ?_; conv => whnf) | (refine RemS.nn (by omega) ?_; conv => whnf) | refine RetS.mk (fun w' hS => ?_)))
  refine DrawS.all (.first 0 (.first 2 (.one 1 (.one 3 (.one 4 (.first 5 (.first 6 (.first 7 (.first 8 (.first 9 (.done))))))))))) (by as_aux_lemma => kernel_rfl) (LbTo.self rfl) ?_
  conv => whnf
  refine call_to hL (fun A1 => ?_)
  conv => whnf
  refine StS.mk rfl (RsTo.sub (by simp)) ?_
  conv => whnf
  refine ⟨rfl, CallS.ro (fun w hS => toLease_any x w) ?_⟩
  conv => whnf
  refine StS.mk rfl (RsTo.sub (by simp)) ?_
  conv => whnf
  refine ⟨rfl, CallS.own (fun w hS => sAdd2_any x w (St.leases hS 0 rfl (by omega)) (by omega)) (fun y1 hy1 => ?_)⟩
  conv => whnf
  refine StS.mk rfl (RsTo.sub (by simp)) ?_
  conv => whnf
  refine call_to hL (fun A2 => ?_)
  conv => whnf
  refine ⟨rfl, CallS.ro (fun w hS => toLease_any x w) ?_⟩
  conv => whnf
  refine ⟨rfl, CallS.own (fun w hS => iAdd2_any x w (St.leases hS 2 rfl (by omega)) (by omega) (Nat.le_refl _)) (fun y2 hy2 => ?_)⟩
  conv => whnf
  refine ⟨rfl, CallS.ro (fun w hS => eqLeases_any w (St.leases hS 3 rfl hlen2) (St.leases hS 1 rfl hlen2)) ?_⟩
  conv => whnf
  cases hd : decide (addOk l x)
  all_goals
    conv => whnf
    refine call_to hL (fun A3 => ?_)
    conv => whnf
    refine ⟨rfl, CallS.ro (fun w hS => eqLeases_any w (St.leases hS 2 rfl (by omega)) (St.leases hS 4 rfl (by omega))) ?_⟩
    conv => whnf
    refine call_mark 2 rfl (by omega) (by omega) ?_
    conv => whnf
    (repeat' (first | (refine Sp.mk (fun hs => ?_) (fun hs => ?_) <;> first | (exfalso; omega) | (conv => whnf)) | (refine Ar.i (by omega) ?_; conv => whnf) | (refine NewS.mk (fun _ => ?_); conv => whnf) | (refine QuoS.nn (by omega) ?_; conv => whnf) | (refine RemS.nn (by omega) ?_; conv => whnf) | (refine QuietS.mk (by as_aux_lemma => kernel_rfl) ?_; conv => whnf) | refine RetS.mk (fun w' hS => ?_)))
    refine ⟨rfl, CallS.ro (fun w hS => eqLeases_any w (St.leases hS 3 rfl hlen2) (St.leases hS 1 rfl hlen2)) ?_⟩
    conv => whnf
    refine call_mark 3 rfl (by omega) hlen2 ?_
    conv => whnf
    refine ⟨rfl, CallS.ro (fun w hS => heldLease_any 1 (by omega) w hlen2 (hS.rowR (List.mem_of_getElem? (i := 3) rfl))) ?_⟩
    conv => whnf
    (repeat' (first | (refine Sp.mk (fun hs => ?_) (fun hs => ?_) <;> first | (exfalso; omega) | (conv => whnf)) | (refine Ar.i (by omega) ?_; conv => whnf) | (refine NewS.mk (fun _ => ?_); conv => whnf) | (refine QuoS.nn (by omega) ?_; conv => whnf) | (refine RemS.nn (by omega) ?_; conv => whnf) | refine RetS.mk (fun w' hS => ?_)))
    refine DrawS.all (.first 0 (.first 2 (.one 1 (.one 3 (.one 4 (.first 5 (.first 6 (.first 7 (.first 8 (.first 9 (.done))))))))))) (by as_aux_lemma => kernel_rfl) (LbTo.self rfl) ?_
    conv => whnf
    refine call_to hL (fun A4 => ?_)
    conv => whnf
    refine StS.mk rfl (RsTo.sub (by simp)) ?_
    conv => whnf
    refine ⟨rfl, CallS.ro (fun w hS => toLease_any x w) ?_⟩
    conv => whnf
    refine StS.mk rfl (RsTo.sub (by simp)) ?_
    conv => whnf
    refine ⟨rfl, CallS.own (fun w hS => iAdd2_any x w (St.leases hS 5 rfl (by omega)) (by omega) (Nat.le_refl _)) (fun y3 hy3 => ?_)⟩
    conv => whnf
    refine StS.mk rfl (RsTo.sub (by simp)) ?_
    conv => whnf
    refine ⟨rfl, CallS.ro (fun w hS => eqLeases_any w (St.leases hS 6 rfl hlen2) (St.leases hS 1 rfl hlen2)) ?_⟩
    conv => whnf
    rw [hd]
    conv => whnf
    refine ⟨rfl, CallS.ro (fun w hS => heldLease_any 1 (by omega) w hlen2 (hS.rowR (List.mem_of_getElem? (i := 3) rfl))) ?_⟩
    conv => whnf
    (repeat' (first | (refine Sp.mk (fun hs => ?_) (fun hs => ?_) <;> first | (exfalso; omega) | (conv => whnf)) | (refine Ar.i (by omega) ?_; conv => whnf) | (refine NewS.mk (fun _ => ?_); conv => whnf) | (refine QuoS.nn (by omega) ?_; conv => whnf) | (refine RemS.nn (by omega) ?_; conv => whnf) | (refine QuietS.mk (by as_aux_lemma => kernel_rfl) ?_; conv => whnf) | refine RetS.mk (fun w' hS => ?_)))
    exact ⟨rfl, hS.below⟩

theorem exactBusy_any (w : World) {A : Option Addr} {n c : Nat} {l : List LeaseD} {t : Int} (hr : Reads w 4 A n (l.flatMap leaseV)) (hm : n ≤ maxLen) (_ : I64ok t) :
    Calls Try.prog 21 #[.slice A n c, .int .i64 t] w fun e w' => e = .returned (.bool true) ∧ Below w.heap.size w w' := by
  refine enter (C := cxS w []) (okS w []) (St.start w) Try.func21 rfl rfl ?_; conv => whnf
  refine ⟨rfl, CallS.ro (fun w hS => sz_any 1048576 (by omega) hm w) ?_⟩
  by_cases hb : (1048576 : Int) - n < 0
  · rw [if_pos hb]
    conv => whnf
    (repeat' (first | (refine Sp.mk (fun hs => ?_) (fun hs => ?_) <;> first | (exfalso; omega) | (conv => whnf)) | (refine Ar.i (by omega) ?_; conv => whnf) | (refine NewS.mk (fun _ => ?_); conv => whnf) | (refine QuoS.nn (by omega) ?_; conv => whnf) | (refine RemS.nn (by omega) ?_; conv => whnf) | (refine QuietS.mk (by as_aux_lemma => kernel_rfl) ?_; conv => whnf) | refine RetS.mk (fun w' hS => ?_)))
    exact ⟨rfl, hS.below⟩
  rw [if_neg hb]
  have hn : n ≤ 1048576 := by omega
  have hL : Leases w A n l := ⟨hr, by omega⟩
  have hll := hL.len
  have hlen2 : (BusyAt l t).length ≤ 2000000 := by
    unfold BusyAt
    split
    · have := busyTo_len l t 6; omega
    · simp
  conv => whnf
  (repeat' (first | (refine Sp.mk (fun hs => ?_) (fun hs => ?_) <;> first | (exfalso; omega) | (conv => whnf)) | (refine Ar.i (by omega) ?_; conv => whnf) | (refine NewS.mk (fun _ => ?_); conv => whnf) | (refine QuoS.nn (by omega) ?_; conv => whnf) | (refine RemS.nn (by omega) ?_; conv => whnf) | (refine QuietS.mk (by as_aux_lemma => kernel_rfl) ?_; conv => whnf) | refine RetS.mk (fun w' hS => ?_)))
  refine call_to hL (fun A1 => ?_)
  conv => whnf
  refine ⟨rfl, CallS.own (fun w hS => sBusy_any t w (St.leases hS 0 rfl (by omega))) (fun y1 hy1 => ?_)⟩
  conv => whnf
  refine call_to hL (fun A2 => ?_)
  conv => whnf
  refine ⟨rfl, CallS.own (fun w hS => iBusy_any t w (St.leases hS 2 rfl (by omega)) (Nat.le_refl _)) (fun y2 hy2 => ?_)⟩
  conv => whnf
  refine ⟨rfl, CallS.p (fun w hS => laws_eqIntS_any w (St.intsR hS 3 rfl hlen2) (St.intsR hS 1 rfl hlen2)) (fun _ => ?_) (fun h => absurd rfl h)⟩
  conv => whnf
  refine call_to hL (fun A3 => ?_)
  conv => whnf
  refine ⟨rfl, CallS.ro (fun w hS => eqLeases_any w (St.leases hS 2 rfl (by omega)) (St.leases hS 4 rfl (by omega))) ?_⟩
  conv => whnf
  refine call_mark 2 rfl (by omega) (by omega) ?_
  conv => whnf
  (repeat' (first | (refine Sp.mk (fun hs => ?_) (fun hs => ?_) <;> first | (exfalso; omega) | (conv => whnf)) | (refine Ar.i (by omega) ?_; conv => whnf) | (refine NewS.mk (fun _ => ?_); conv => whnf) | (refine QuoS.nn (by omega) ?_; conv => whnf) | (refine RemS.nn (by omega) ?_; conv => whnf) | (refine QuietS.mk (by as_aux_lemma => kernel_rfl) ?_; conv => whnf) | refine RetS.mk (fun w' hS => ?_)))
  refine ⟨rfl, CallS.p (fun w hS => laws_eqIntS_any w (St.intsR hS 3 rfl hlen2) (St.intsR hS 1 rfl hlen2)) (fun _ => ?_) (fun h => absurd rfl h)⟩
  conv => whnf
  refine call_markI 3 rfl (by omega) hlen2 ?_
  conv => whnf
  refine ⟨rfl, CallS.ro (fun w hS => laws_heldIntS_any 1 (by omega) w (St.intsR hS 3 rfl hlen2)) ?_⟩
  conv => whnf
  (repeat' (first | (refine Sp.mk (fun hs => ?_) (fun hs => ?_) <;> first | (exfalso; omega) | (conv => whnf)) | (refine Ar.i (by omega) ?_; conv => whnf) | (refine NewS.mk (fun _ => ?_); conv => whnf) | (refine QuoS.nn (by omega) ?_; conv => whnf) | (refine RemS.nn (by omega) ?_; conv => whnf) | (refine QuietS.mk (by as_aux_lemma => kernel_rfl) ?_; conv => whnf) | refine RetS.mk (fun w' hS => ?_)))
  refine call_to hL (fun A4 => ?_)
  conv => whnf
  refine ⟨rfl, CallS.own (fun w hS => iBusy_any t w (St.leases hS 5 rfl (by omega)) (Nat.le_refl _)) (fun y3 hy3 => ?_)⟩
  conv => whnf
  refine ⟨rfl, CallS.p (fun w hS => laws_eqIntS_any w (St.intsR hS 6 rfl hlen2) (St.intsR hS 1 rfl hlen2)) (fun _ => ?_) (fun h => absurd rfl h)⟩
  conv => whnf
  refine ⟨rfl, CallS.ro (fun w hS => laws_heldIntS_any 1 (by omega) w (St.intsR hS 3 rfl hlen2)) ?_⟩
  conv => whnf
  (repeat' (first | (refine Sp.mk (fun hs => ?_) (fun hs => ?_) <;> first | (exfalso; omega) | (conv => whnf)) | (refine Ar.i (by omega) ?_; conv => whnf) | (refine NewS.mk (fun _ => ?_); conv => whnf) | (refine QuoS.nn (by omega) ?_; conv => whnf) | (refine RemS.nn (by omega) ?_; conv => whnf) | (refine QuietS.mk (by as_aux_lemma => kernel_rfl) ?_; conv => whnf) | refine RetS.mk (fun w' hS => ?_)))
  exact ⟨rfl, hS.below⟩
end Go.Proofs.Ytgfblbpiokiagaa
