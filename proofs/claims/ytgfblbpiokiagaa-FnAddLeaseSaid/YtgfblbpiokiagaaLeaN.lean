/- The laws on BusyAt, FreeFor and AddLease; conditions: none. -/
import Derived.Test.YtgfblbpiokiagaaLeaM
set_option maxRecDepth 100000
set_option linter.unusedVariables false
set_option linter.unusedSimpArgs false
namespace Go.Proofs.Ytgfblbpiokiagaa
open Eng Go Go.RowKit

theorem BusyAt_len (l : List LeaseD) (t : Int) : (BusyAt l t).length ≤ 6 := by
  unfold BusyAt
  split
  · exact busyTo_len l t 6
  · simp
theorem leases_nil (w : World) : Leases w none 0 [] := ⟨Reads.nil _ _ _, by omega⟩

theorem lawOAB (w : World) {A : Option Addr} {n c : Nat} {bs : List Int} (hb : Bytes w A n bs) (hn : n ≤ c) :
    Calls Try.prog 17 #[.slice A n c] w fun e w' => e = .returned (.bool true) ∧ Below w.heap.size w w' := by
  refine enter (C := cxS w []) (okS w []) (St.start w) Try.func17 rfl rfl ?_; conv => whnf
  (repeat' (first | (refine Sp.mk (fun hs => ?_) (fun hs => ?_) <;> first | (exfalso; omega) | (conv => whnf)) | (refine Ar.i (by omega) ?_; conv => whnf) | (refine NewS.mk (fun _ => ?_); conv => whnf) | (refine QuoS.nn (by omega) ?_; conv => whnf) | (refine RemS.nn (by omega) ?_; conv => whnf) | (refine QuietS.mk (by as_aux_lemma => kernel_rfl) ?_; conv => whnf) | refine RetS.mk (fun w' hS => ?_)))
  · exact ⟨rfl, hS.below⟩
  refine ⟨rfl, CallS.ownF (fun w' hS => drawOwner_any w' ⟨hS.arg hb.1, hb.2⟩ hn) (fun y b0 w0 hy hF => ?_)⟩
  obtain ⟨⟨A1, c1, l⟩, cn, t⟩ := y
  obtain ⟨⟨h13, hcap⟩, hcn, ht⟩ := hy
  dsimp only [DL.v] at h13 hcap hcn ht hF ⊢
  conv => whnf
  refine ⟨rfl, CallS.ro (fun w' hS => iOwnerAt_any cn t w' (St.dl hS 0 rfl (by omega)) hcap) ?_⟩
  conv => whnf
  refine ⟨rfl, CallS.ro (fun w' hS => sOwnerAt_any cn t w' (St.dl hS 0 rfl (by omega))) ?_⟩
  conv => whnf
  refine Sp.mk (fun _ => ?_) (fun h => absurd rfl h)
  conv => whnf
  refine ⟨rfl, CallS.p (fun w' hS => iValid_any w' (St.dl hS 0 rfl (by omega)) hcap) (fun hv => ?_) (fun hv => ?_)⟩ <;> conv => whnf
  rotate_left
  · refine ⟨rfl, CallS.ro (fun w' hS => sOwnerAt_any cn t w' (St.dl hS 0 rfl (by omega))) ?_⟩
    conv => whnf
    (repeat' (first | (refine Sp.mk (fun hs => ?_) (fun hs => ?_) <;> first | (exfalso; omega) | (conv => whnf)) | (refine Ar.i (by omega) ?_; conv => whnf) | (refine NewS.mk (fun _ => ?_); conv => whnf) | (refine QuoS.nn (by omega) ?_; conv => whnf) | (refine RemS.nn (by omega) ?_; conv => whnf) | (refine QuietS.mk (by as_aux_lemma => kernel_rfl) ?_; conv => whnf) | refine RetS.mk (fun w' hS => ?_)))
    exact ⟨rfl, hS.below⟩
  have hlaw := law_ownerAtBusy hv cn t
  have hlen := BusyAt_len l t
  refine Sp.mk (fun h => ?_) (fun h => ?_) <;> conv => whnf
  · refine ⟨rfl, CallS.own (fun w' hS => iBusy_any t w' (St.dl hS 0 rfl (by omega)) hcap) (fun y2 hy2 => ?_)⟩
    conv => whnf
    refine ⟨rfl, CallS.pt (hlaw.2 h) (fun w' hS => laws_isIn_any cn w' (St.intsR hS 1 rfl (by omega))) ?_⟩
    conv => whnf
    (repeat' (first | (refine Sp.mk (fun hs => ?_) (fun hs => ?_) <;> first | (exfalso; omega) | (conv => whnf)) | (refine Ar.i (by omega) ?_; conv => whnf) | (refine NewS.mk (fun _ => ?_); conv => whnf) | (refine QuoS.nn (by omega) ?_; conv => whnf) | (refine RemS.nn (by omega) ?_; conv => whnf) | (refine QuietS.mk (by as_aux_lemma => kernel_rfl) ?_; conv => whnf) | refine RetS.mk (fun w' hS => ?_)))
    exact ⟨rfl, hS.below⟩
  · refine ⟨rfl, CallS.own (fun w' hS => iBusy_any t w' (St.dl hS 0 rfl (by omega)) hcap) (fun y2 hy2 => ?_)⟩
    conv => whnf
    refine ⟨rfl, CallS.pf (fun hm => h (hlaw.1 hm)) (fun w' hS => laws_isIn_any cn w' (St.intsR hS 1 rfl (by omega))) ?_⟩
    conv => whnf
    (repeat' (first | (refine Sp.mk (fun hs => ?_) (fun hs => ?_) <;> first | (exfalso; omega) | (conv => whnf)) | (refine Ar.i (by omega) ?_; conv => whnf) | (refine NewS.mk (fun _ => ?_); conv => whnf) | (refine QuoS.nn (by omega) ?_; conv => whnf) | (refine RemS.nn (by omega) ?_; conv => whnf) | (refine QuietS.mk (by as_aux_lemma => kernel_rfl) ?_; conv => whnf) | refine RetS.mk (fun w' hS => ?_)))
    exact ⟨rfl, hS.below⟩

theorem lawBAP (w : World) {A : Option Addr} {n c : Nat} {bs : List Int} (hb : Bytes w A n bs) (hn : n ≤ c) :
    Calls Try.prog 20 #[.slice A n c] w fun e w' => e = .returned (.bool true) ∧ Below w.heap.size w w' := by
  refine enter (C := cxS w []) (okS w []) (St.start w) Try.func20 rfl rfl ?_; conv => whnf
  (repeat' (first | (refine Sp.mk (fun hs => ?_) (fun hs => ?_) <;> first | (exfalso; omega) | (conv => whnf)) | (refine Ar.i (by omega) ?_; conv => whnf) | (refine NewS.mk (fun _ => ?_); conv => whnf) | (refine QuoS.nn (by omega) ?_; conv => whnf) | (refine RemS.nn (by omega) ?_; conv => whnf) | (refine QuietS.mk (by as_aux_lemma => kernel_rfl) ?_; conv => whnf) | refine RetS.mk (fun w' hS => ?_)))
  · exact ⟨rfl, hS.below⟩
  refine ⟨rfl, CallS.ownF (fun w' hS => drawBusy_any w' ⟨hS.arg hb.1, hb.2⟩ hn) (fun y b0 w0 hy hF => ?_)⟩
  obtain ⟨⟨A1, c1, l⟩, t⟩ := y
  obtain ⟨⟨h13, hcap⟩, ht⟩ := hy
  dsimp only [DL.v] at h13 hcap ht hF ⊢
  have hlen := BusyAt_len l t
  conv => whnf
  refine ⟨rfl, CallS.own (fun w' hS => iBusy_any t w' (St.dl hS 0 rfl (by omega)) hcap) (fun y2 hy2 => ?_)⟩
  conv => whnf
  refine ⟨rfl, CallS.own (fun w' hS => sBusy_any t w' (St.dl hS 0 rfl (by omega))) (fun y3 hy3 => ?_)⟩
  conv => whnf
  refine ⟨rfl, CallS.pt rfl (fun w' hS => laws_equalInts_any w' (St.intsR hS 1 rfl (by omega)) (St.intsR hS 2 rfl (by omega))) ?_⟩
  conv => whnf
  refine ⟨rfl, CallS.p (fun w' hS => iValid_any w' (St.dl hS 0 rfl (by omega)) hcap) (fun hv => ?_) (fun hv => ?_)⟩ <;> conv => whnf
  rotate_left
  · refine ⟨rfl, CallS.own (fun w' hS => sBusy_any t w' (St.dl hS 0 rfl (by omega))) (fun y4 hy4 => ?_)⟩
    conv => whnf
    refine ⟨rfl, CallS.pt rfl (fun w' hS => laws_equalInts_any w' (St.intsR hS 1 rfl (by omega)) (St.intsR hS 3 rfl (by omega))) ?_⟩
    conv => whnf
    (repeat' (first | (refine Sp.mk (fun hs => ?_) (fun hs => ?_) <;> first | (exfalso; omega) | (conv => whnf)) | (refine Ar.i (by omega) ?_; conv => whnf) | (refine NewS.mk (fun _ => ?_); conv => whnf) | (refine QuoS.nn (by omega) ?_; conv => whnf) | (refine RemS.nn (by omega) ?_; conv => whnf) | (refine QuietS.mk (by as_aux_lemma => kernel_rfl) ?_; conv => whnf) | refine RetS.mk (fun w' hS => ?_)))
    exact ⟨rfl, hS.below⟩
  refine Sp.mk (fun h0 => ?_) (fun h0 => ?_) <;> conv => whnf
  · refine ⟨rfl, CallS.own (fun w' hS => sBusy_any t w' (St.dl hS 0 rfl (by omega))) (fun y4 hy4 => ?_)⟩
    conv => whnf
    refine ⟨rfl, CallS.pt rfl (fun w' hS => laws_equalInts_any w' (St.intsR hS 1 rfl (by omega)) (St.intsR hS 3 rfl (by omega))) ?_⟩
    conv => whnf
    (repeat' (first | (refine Sp.mk (fun hs => ?_) (fun hs => ?_) <;> first | (exfalso; omega) | (conv => whnf)) | (refine Ar.i (by omega) ?_; conv => whnf) | (refine NewS.mk (fun _ => ?_); conv => whnf) | (refine QuoS.nn (by omega) ?_; conv => whnf) | (refine RemS.nn (by omega) ?_; conv => whnf) | (refine QuietS.mk (by as_aux_lemma => kernel_rfl) ?_; conv => whnf) | refine RetS.mk (fun w' hS => ?_)))
    exact ⟨rfl, hS.below⟩
  have hne : l ≠ [] := fun e => h0 (by rw [e]; rfl)
  have hpos : 0 < l.length := List.length_pos_iff.2 hne
  have hpart := law_part hv hne t
  have hlen2 := BusyAt_len (l.take (l.length - 1)) t
  refine Ar.i (by omega) ?_
  conv => whnf
  refine SlcS.hi (l.length - 1) (by omega) (by omega) ?_
  conv => whnf
  refine ⟨rfl, CallS.ownF (fun w' hS => iBusy_any t w' ((St.dl hS 0 rfl (by omega)).take (k := l.length - 1) (by omega)) (by omega)) (fun y5 b5 w5 hy5 hF5 => ?_)⟩
  conv => whnf
  refine LoopS.same (okS w []) [(2, 2), (7, 7), (47, 59)] [7] rfl (fun k : Nat => [I64 k]) (fun k => k ≤ (BusyAt (l.take (l.length - 1)) t).length) (fun k => (BusyAt (l.take (l.length - 1)) t).length - k) 0 (by omega) ⟨rfl, trivial⟩ (LbTo.refl_nil _) (fun k g hk => ?_)
  conv => whnf
  refine Sp.mk (fun h => ?_) (fun h => ?_) <;> conv => whnf
  · obtain ⟨A5, c5⟩ := y5
    obtain ⟨ga, rfl⟩ := row_some hF5 (by omega)
    obtain ⟨z, hz⟩ : ∃ z, (BusyAt (l.take (l.length - 1)) t)[k]? = some z := ⟨_, List.getElem?_eq_getElem (by omega)⟩
    refine IdxS.at_ k rfl rfl (by omega) ?_
    conv => whnf
    refine LdS.at_ (v := .int .i64 z) (fun w' hS => ?_) ?_
    · obtain ⟨ad, z', e, hz', _, hc⟩ := (St.intsR hS 3 rfl (by omega)).at_ (k := k) (by omega)
      simp only [Option.some.injEq] at e
      subst e
      rw [hz] at hz'
      simp only [Option.some.injEq] at hz'
      subst hz'
      exact hc
    conv => whnf
    refine ⟨rfl, CallS.pt (hpart.1 z (List.mem_of_getElem? hz)) (fun w' hS => laws_isIn_any z w' (St.intsR hS 1 rfl (by omega))) ?_⟩
    conv => whnf
    (repeat' (first | (refine Sp.mk (fun hs => ?_) (fun hs => ?_) <;> first | (exfalso; omega) | (conv => whnf)) | (refine Ar.i (by omega) ?_; conv => whnf) | (refine NewS.mk (fun _ => ?_); conv => whnf) | (refine QuoS.nn (by omega) ?_; conv => whnf) | (refine RemS.nn (by omega) ?_; conv => whnf) | (refine QuietS.mk (by as_aux_lemma => kernel_rfl) ?_; conv => whnf) | refine RetS.mk (fun w' hS => ?_)))
    exact ⟨k + 1, by omega, by omega, ⟨rfl, trivial⟩, LbTo.refl_nil _, RsTo.refl _⟩
  · have hp2 := hpart.2
    (repeat' (first | (refine Sp.mk (fun hs => ?_) (fun hs => ?_) <;> first | (exfalso; omega) | (conv => whnf)) | (refine Ar.i (by omega) ?_; conv => whnf) | (refine NewS.mk (fun _ => ?_); conv => whnf) | (refine QuoS.nn (by omega) ?_; conv => whnf) | (refine RemS.nn (by omega) ?_; conv => whnf) | (refine QuietS.mk (by as_aux_lemma => kernel_rfl) ?_; conv => whnf) | refine RetS.mk (fun w' hS => ?_)))
    exact ⟨rfl, hS.below⟩

theorem lawFFN (w : World) {A : Option Addr} {n c : Nat} {bs : List Int} (hb : Bytes w A n bs) (hn : n ≤ c) :
    Calls Try.prog 13 #[.slice A n c] w fun e w' => e = .returned (.bool true) ∧ Below w.heap.size w w' := by
  refine enter (C := cxS w []) (okS w []) (St.start w) Try.func13 rfl rfl ?_; conv => whnf
  (repeat' (first | (refine Sp.mk (fun hs => ?_) (fun hs => ?_) <;> first | (exfalso; omega) | (conv => whnf)) | (refine Ar.i (by omega) ?_; conv => whnf) | (refine NewS.mk (fun _ => ?_); conv => whnf) | (refine QuoS.nn (by omega) ?_; conv => whnf) | (refine RemS.nn (by omega) ?_; conv => whnf) | (refine QuietS.mk (by as_aux_lemma => kernel_rfl) ?_; conv => whnf) | refine RetS.mk (fun w' hS => ?_)))
  · exact ⟨rfl, hS.below⟩
  refine ⟨rfl, CallS.ownF (fun w' hS => drawFree_any w' ⟨hS.arg hb.1, hb.2⟩ hn) (fun y b0 w0 hy hF => ?_)⟩
  obtain ⟨⟨A1, c1, l⟩, m, f, u⟩ := y
  obtain ⟨⟨h13, hcap⟩, hm⟩ := hy
  dsimp only [DL.v] at h13 hcap hm hF ⊢
  conv => whnf
  refine ⟨rfl, CallS.ro (fun w' hS => iFree_any m f u w' (St.dl hS 0 rfl (by omega)) hcap) ?_⟩
  conv => whnf
  refine ⟨rfl, CallS.ro (fun w' hS => sFree_any m f u w' (St.dl hS 0 rfl (by omega))) ?_⟩
  conv => whnf
  refine Sp.mk (fun _ => ?_) (fun h => absurd rfl h)
  conv => whnf
  refine ⟨rfl, CallS.ro (fun w' hS => iFree_any m f u w' (leases_nil w') (Nat.le_refl _)) ?_⟩
  conv => whnf
  refine Sp.mk (fun h0 => ?_) (fun h0 => ?_) <;> conv => whnf
  · refine ⟨rfl, CallS.ro (fun w' hS => sFree_any m f u w' (St.dl hS 0 rfl (by omega))) ?_⟩
    conv => whnf
    (repeat' (first | (refine Sp.mk (fun hs => ?_) (fun hs => ?_) <;> first | (exfalso; omega) | (conv => whnf)) | (refine Ar.i (by omega) ?_; conv => whnf) | (refine NewS.mk (fun _ => ?_); conv => whnf) | (refine QuoS.nn (by omega) ?_; conv => whnf) | (refine RemS.nn (by omega) ?_; conv => whnf) | (refine QuietS.mk (by as_aux_lemma => kernel_rfl) ?_; conv => whnf) | refine RetS.mk (fun w' hS => ?_)))
    exact ⟨rfl, hS.below⟩
  refine Sp.mk (fun h6 => ?_) (fun h6 => ?_) <;> conv => whnf
  · refine ⟨rfl, CallS.ro (fun w' hS => sFree_any m f u w' (St.dl hS 0 rfl (by omega))) ?_⟩
    conv => whnf
    (repeat' (first | (refine Sp.mk (fun hs => ?_) (fun hs => ?_) <;> first | (exfalso; omega) | (conv => whnf)) | (refine Ar.i (by omega) ?_; conv => whnf) | (refine NewS.mk (fun _ => ?_); conv => whnf) | (refine QuoS.nn (by omega) ?_; conv => whnf) | (refine RemS.nn (by omega) ?_; conv => whnf) | (refine QuietS.mk (by as_aux_lemma => kernel_rfl) ?_; conv => whnf) | refine RetS.mk (fun w' hS => ?_)))
    exact ⟨rfl, hS.below⟩
  obtain ⟨hlaw0, hlaw1⟩ := law_freeNone (l := l) h0 h6
  refine Ar.i (by omega) ?_
  conv => whnf
  refine ⟨rfl, CallS.ro (fun w' hS => iFree_any (m + 1) f u w' (St.dl hS 0 rfl (by omega)) hcap) ?_⟩
  conv => whnf
  refine ⟨rfl, CallS.ro (fun w' hS => iFree_any m f u w' (leases_nil w') (Nat.le_refl _)) ?_⟩
  conv => whnf
  refine Sp.mk (fun _ => ?_) (fun h => absurd hlaw0 h)
  conv => whnf
  refine Sp.mk (fun h1 => ?_) (fun h1 => ?_) <;> conv => whnf
  · (repeat' (first | (refine Sp.mk (fun hs => ?_) (fun hs => ?_) <;> first | (exfalso; omega) | (conv => whnf)) | (refine Ar.i (by omega) ?_; conv => whnf) | (refine NewS.mk (fun _ => ?_); conv => whnf) | (refine QuoS.nn (by omega) ?_; conv => whnf) | (refine RemS.nn (by omega) ?_; conv => whnf) | (refine QuietS.mk (by as_aux_lemma => kernel_rfl) ?_; conv => whnf) | refine RetS.mk (fun w' hS => ?_)))
    exact ⟨rfl, hS.below⟩
  · refine Sp.mk (fun _ => ?_) (fun h => absurd (hlaw1.resolve_left h1) h)
    conv => whnf
    (repeat' (first | (refine Sp.mk (fun hs => ?_) (fun hs => ?_) <;> first | (exfalso; omega) | (conv => whnf)) | (refine Ar.i (by omega) ?_; conv => whnf) | (refine NewS.mk (fun _ => ?_); conv => whnf) | (refine QuoS.nn (by omega) ?_; conv => whnf) | (refine RemS.nn (by omega) ?_; conv => whnf) | (refine QuietS.mk (by as_aux_lemma => kernel_rfl) ?_; conv => whnf) | refine RetS.mk (fun w' hS => ?_)))
    exact ⟨rfl, hS.below⟩

theorem lawFF (w : World) {A : Option Addr} {n c : Nat} {bs : List Int} (hb : Bytes w A n bs) (hn : n ≤ c) :
    Calls Try.prog 16 #[.slice A n c] w fun e w' => e = .returned (.bool true) ∧ Below w.heap.size w w' := by
  refine enter (C := cxS w []) (okS w []) (St.start w) Try.func16 rfl rfl ?_; conv => whnf
  (repeat' (first | (refine Sp.mk (fun hs => ?_) (fun hs => ?_) <;> first | (exfalso; omega) | (conv => whnf)) | (refine Ar.i (by omega) ?_; conv => whnf) | (refine NewS.mk (fun _ => ?_); conv => whnf) | (refine QuoS.nn (by omega) ?_; conv => whnf) | (refine RemS.nn (by omega) ?_; conv => whnf) | (refine QuietS.mk (by as_aux_lemma => kernel_rfl) ?_; conv => whnf) | refine RetS.mk (fun w' hS => ?_)))
  · exact ⟨rfl, hS.below⟩
  refine ⟨rfl, CallS.ownF (fun w' hS => drawFree_any w' ⟨hS.arg hb.1, hb.2⟩ hn) (fun y b0 w0 hy hF => ?_)⟩
  obtain ⟨⟨A1, c1, l⟩, m, f, u⟩ := y
  obtain ⟨⟨h13, hcap⟩, hm⟩ := hy
  dsimp only [DL.v] at h13 hcap hm hF ⊢
  conv => whnf
  refine ⟨rfl, CallS.ro (fun w' hS => iFree_any m f u w' (St.dl hS 0 rfl (by omega)) hcap) ?_⟩
  conv => whnf
  refine ⟨rfl, CallS.ro (fun w' hS => sFree_any m f u w' (St.dl hS 0 rfl (by omega))) ?_⟩
  conv => whnf
  refine Sp.mk (fun _ => ?_) (fun h => absurd rfl h)
  conv => whnf
  refine Sp.mk (fun h0 => ?_) (fun h0 => ?_) <;> conv => whnf
  · refine ⟨rfl, CallS.ro (fun w' hS => sFree_any m f u w' (St.dl hS 0 rfl (by omega))) ?_⟩
    conv => whnf
    (repeat' (first | (refine Sp.mk (fun hs => ?_) (fun hs => ?_) <;> first | (exfalso; omega) | (conv => whnf)) | (refine Ar.i (by omega) ?_; conv => whnf) | (refine NewS.mk (fun _ => ?_); conv => whnf) | (refine QuoS.nn (by omega) ?_; conv => whnf) | (refine RemS.nn (by omega) ?_; conv => whnf) | (refine QuietS.mk (by as_aux_lemma => kernel_rfl) ?_; conv => whnf) | refine RetS.mk (fun w' hS => ?_)))
    exact ⟨rfl, hS.below⟩
  refine Sp.mk (fun h1 => ?_) (fun h1 => ?_) <;> conv => whnf
  · refine ⟨rfl, CallS.ro (fun w' hS => sFree_any m f u w' (St.dl hS 0 rfl (by omega))) ?_⟩
    conv => whnf
    (repeat' (first | (refine Sp.mk (fun hs => ?_) (fun hs => ?_) <;> first | (exfalso; omega) | (conv => whnf)) | (refine Ar.i (by omega) ?_; conv => whnf) | (refine NewS.mk (fun _ => ?_); conv => whnf) | (refine QuoS.nn (by omega) ?_; conv => whnf) | (refine RemS.nn (by omega) ?_; conv => whnf) | (refine QuietS.mk (by as_aux_lemma => kernel_rfl) ?_; conv => whnf) | refine RetS.mk (fun w' hS => ?_)))
    exact ⟨rfl, hS.below⟩
  obtain ⟨N, hN⟩ : ∃ N : Nat, FreeFor l m f u = N := ⟨(FreeFor l m f u).toNat, by omega⟩
  obtain ⟨hv, ha, hlt, hlaw⟩ := law_free hN (by omega)
  rw [hN]
  refine LoopS.same (okS w []) [(2, 2), (8, 10), (49, 67)] [8] rfl (fun k : Nat => [I64 k]) (fun k => k ≤ N + 1) (fun k => N + 1 - k) 0 (by omega) ⟨rfl, trivial⟩ (LbTo.refl_nil _) (fun k g hk => ?_)
  conv => whnf
  refine Sp.mk (fun h => ?_) (fun h => ?_) <;> conv => whnf
  · refine ⟨rfl, CallS.own (fun w' hS => iAdd2_any ⟨k, 1, f, u⟩ w' (St.dl hS 0 rfl (by omega)) (by omega) hcap) (fun y2 hy2 => ?_)⟩
    have hk2 := hlaw k (by omega)
    by_cases hkN : k = N
    · have hd : decide (addOk l ⟨k, 1, f, u⟩) = true := decide_eq_true (hk2.2 hkN)
      rw [hd]
      conv => whnf
      refine Sp.mk (fun _ => ?_) (fun h => absurd (by omega) h)
      conv => whnf
      (repeat' (first | (refine Sp.mk (fun hs => ?_) (fun hs => ?_) <;> first | (exfalso; omega) | (conv => whnf)) | (refine Ar.i (by omega) ?_; conv => whnf) | (refine NewS.mk (fun _ => ?_); conv => whnf) | (refine QuoS.nn (by omega) ?_; conv => whnf) | (refine RemS.nn (by omega) ?_; conv => whnf) | (refine QuietS.mk (by as_aux_lemma => kernel_rfl) ?_; conv => whnf) | refine RetS.mk (fun w' hS => ?_)))
      exact ⟨k + 1, by omega, by omega, ⟨rfl, trivial⟩, LbTo.refl_nil _, RsTo.sub (List.sublist_append_left _ _)⟩
    · have hd : decide (addOk l ⟨k, 1, f, u⟩) = false := decide_eq_false (fun h => hkN (hk2.1 h))
      rw [hd]
      conv => whnf
      refine Sp.mk (fun h => absurd h (by omega)) (fun _ => ?_)
      conv => whnf
      (repeat' (first | (refine Sp.mk (fun hs => ?_) (fun hs => ?_) <;> first | (exfalso; omega) | (conv => whnf)) | (refine Ar.i (by omega) ?_; conv => whnf) | (refine NewS.mk (fun _ => ?_); conv => whnf) | (refine QuoS.nn (by omega) ?_; conv => whnf) | (refine RemS.nn (by omega) ?_; conv => whnf) | (refine QuietS.mk (by as_aux_lemma => kernel_rfl) ?_; conv => whnf) | refine RetS.mk (fun w' hS => ?_)))
      exact ⟨k + 1, by omega, by omega, ⟨rfl, trivial⟩, LbTo.refl_nil _, RsTo.sub (List.sublist_append_left _ _)⟩
  · (repeat' (first | (refine Sp.mk (fun hs => ?_) (fun hs => ?_) <;> first | (exfalso; omega) | (conv => whnf)) | (refine Ar.i (by omega) ?_; conv => whnf) | (refine NewS.mk (fun _ => ?_); conv => whnf) | (refine QuoS.nn (by omega) ?_; conv => whnf) | (refine RemS.nn (by omega) ?_; conv => whnf) | (refine QuietS.mk (by as_aux_lemma => kernel_rfl) ?_; conv => whnf) | refine RetS.mk (fun w' hS => ?_)))
    exact ⟨rfl, hS.below⟩
end Go.Proofs.Ytgfblbpiokiagaa
