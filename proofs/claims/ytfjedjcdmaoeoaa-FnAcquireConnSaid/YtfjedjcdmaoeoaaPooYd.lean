/- FnAcquireConn; conditions: none. -/
import Derived.Test.YtfjedjcdmaoeoaaPooX
import Derived.Test.YtfjedjcdmaoeoaaPooW
set_option maxRecDepth 100000
set_option linter.unusedVariables false
set_option linter.unusedSimpArgs false
namespace Go.Proofs.Ytfjedjcdmaoeoaa
open Eng Go Go.RowKit

set_option maxHeartbeats 2000000 in
theorem lawAc (w : World) {A : Option Addr} {n c : Nat} {bs : List Int} (hb : Bytes w A n bs) (hn : n ≤ c) :
    Calls Try.prog 14 #[.slice A n c] w fun e w' => e = .returned (.bool true) ∧ Below w.heap.size w w' := by
  refine enter (C := cxS w []) (okS w []) (St.start w) Try.func14 rfl rfl ?_; conv => whnf
  (repeat' (first | (refine Sp.mk (fun hs => ?_) (fun hs => ?_) <;> first | (exfalso; omega) | (conv => whnf)) | (refine Ar.i (by omega) ?_; conv => whnf) | (refine NewS.mk (fun _ => ?_); conv => whnf) | (refine QuoS.nn (by omega) ?_; conv => whnf) | (refine RemS.nn (by omega) ?_; conv => whnf) | (refine QuietS.mk (by as_aux_lemma => kernel_rfl) ?_; conv => whnf) | refine RetS.mk (fun w' hS => ?_)))
  · exact ⟨rfl, hS.below⟩
  refine ⟨rfl, CallS.own (fun w' hS => draw_spec_DrawAcquireConn_any w' ⟨hS.arg hb.1, hb.2⟩ hn) (fun y hy => ?_)⟩
  obtain ⟨⟨p, a⟩, t⟩ := y
  obtain ⟨hle, hcp, ht⟩ := hy
  dsimp only at hle hcp ht ⊢
  have hl := hle.le
  conv => whnf
  refine NewS.mk (fun g0 => ?_)
  conv => whnf
  rcases hd : acq p t with _ | ⟨q, cn⟩
  · skip
    refine ⟨rfl, CallS.own (fun w' hS => iAcqN_any w' hd (St.pool hS hl 0 1 2 rfl rfl rfl) hcp.1) (fun y1 hy1 => ?_)⟩
    conv => whnf
    refine NewS.mk (fun g1 => ?_)
    conv => whnf
    refine ⟨rfl, CallS.own (fun w' hS => sAcqN_any w' hd (St.pool hS hl 0 1 2 rfl rfl rfl) hcp hle.s) (fun y2 hy2 => ?_)⟩
    conv => whnf
    refine NewS.mk (fun g2 => ?_)
    conv => whnf
    refine ⟨rfl, CallS.ro (fun w' hS => equalPool_any w' (St.pool hS zeroP_le 3 4 5 rfl rfl rfl) (St.pool hS zeroP_le 6 7 8 rfl rfl rfl)) ?_⟩
    conv => whnf
    (repeat' (first | (refine Sp.mk (fun hs => ?_) (fun hs => ?_) <;> first | (exfalso; omega) | (conv => whnf)) | (refine Ar.i (by omega) ?_; conv => whnf) | (refine NewS.mk (fun _ => ?_); conv => whnf) | (refine QuoS.nn (by omega) ?_; conv => whnf) | (refine RemS.nn (by omega) ?_; conv => whnf) | refine RetS.mk (fun w' hS => ?_)))
    refine ⟨rfl, CallS.ro (fun w' hS => equalPool_any w' (St.pool hS zeroP_le 3 4 5 rfl rfl rfl) (St.pool hS zeroP_le 6 7 8 rfl rfl rfl)) ?_⟩
    conv => whnf
    (repeat' (first | (refine Sp.mk (fun hs => ?_) (fun hs => ?_) <;> first | (exfalso; omega) | (conv => whnf)) | (refine Ar.i (by omega) ?_; conv => whnf) | (refine NewS.mk (fun _ => ?_); conv => whnf) | (refine QuoS.nn (by omega) ?_; conv => whnf) | (refine RemS.nn (by omega) ?_; conv => whnf) | refine RetS.mk (fun w' hS => ?_)))
    exact ⟨rfl, hS.below⟩
  have hok := acq_ok hd
  have hq := ok_le hok.2.2
  have hsm := ok_small hok.1
  have hsm2 := ok_small hok.2.2
  by_cases hc0 : 0 ≤ cn
  · obtain ⟨_, _, _, hlt, hw0, hnc, i, hqe, _, _⟩ := acq_held hd hc0
    have hqh : q.h = p.h ++ [⟨cn, t⟩] := by rw [hqe]; rfl
    have hin : cn ∈ heldBy q.h t := by rw [hqh, heldBy_snoc, if_pos rfl]; simp
    have hb2 := heldBy_len q.h t
    refine ⟨rfl, CallS.own (fun w' hS => iAcqS_any w' hd (St.pool hS hl 0 1 2 rfl rfl rfl) hcp.1) (fun y1 hy1 => ?_)⟩
    conv => whnf
    refine NewS.mk (fun g1 => ?_)
    conv => whnf
    refine ⟨rfl, CallS.own (fun w' hS => sAcqS_any w' hd (St.pool hS hl 0 1 2 rfl rfl rfl) hcp hle.s) (fun y2 hy2 => ?_)⟩
    conv => whnf
    refine NewS.mk (fun g2 => ?_)
    conv => whnf
    refine ⟨rfl, CallS.ro (fun w' hS => equalPool_any w' (St.pool hS hq 3 4 5 rfl rfl rfl) (St.pool hS hq 6 7 8 rfl rfl rfl)) ?_⟩
    conv => whnf
    (repeat' (first | (refine Sp.mk (fun hs => ?_) (fun hs => ?_) <;> first | (exfalso; omega) | (conv => whnf)) | (refine Ar.i (by omega) ?_; conv => whnf) | (refine NewS.mk (fun _ => ?_); conv => whnf) | (refine QuoS.nn (by omega) ?_; conv => whnf) | (refine RemS.nn (by omega) ?_; conv => whnf) | refine RetS.mk (fun w' hS => ?_)))
    refine LoopS.same (okS w []) [(2, 2), (11, 11), (65, 77)] [11] rfl (fun k : Nat => [I64 k]) (fun k => k ≤ 5) (fun k => 5 - k) 0 (by omega) ⟨rfl, trivial⟩ (LbTo.self rfl) (fun k gg hk => ?_)
    have hb1 := heldBy_len p.h k
    conv => whnf
    refine Sp.mk (fun h => ?_) (fun h => ?_) <;> conv => whnf
    · refine Sp.mk (fun _ => ?_) (fun h => absurd hc0 h)
      conv => whnf
      refine ⟨rfl, CallS.own (fun w' hS => iHeldS_any w' hok.1 (St.pool hS hl 0 1 2 rfl rfl rfl) hcp.1) (fun y5 hy5 => ?_)⟩
      conv => whnf
      refine ⟨rfl, CallS.pf (fun hm => hnc (held_sub hm)) (fun w' hS => laws_isIn_any cn w' (St.intsR hS (l := heldBy p.h k) 9 rfl (by omega))) ?_⟩
      conv => whnf
      (repeat' (first | (refine Sp.mk (fun hs => ?_) (fun hs => ?_) <;> first | (exfalso; omega) | (conv => whnf)) | (refine Ar.i (by omega) ?_; conv => whnf) | (refine NewS.mk (fun _ => ?_); conv => whnf) | (refine QuoS.nn (by omega) ?_; conv => whnf) | (refine RemS.nn (by omega) ?_; conv => whnf) | refine RetS.mk (fun w' hS => ?_)))
      exact ⟨k + 1, by omega, by omega, ⟨rfl, trivial⟩, LbTo.self rfl, RsTo.sub (List.sublist_append_left _ _)⟩
    · refine ⟨rfl, CallS.pt hok.2.2 (fun w' hS => impl_ValidPool_any w' (St.pool hS hq 3 4 5 rfl rfl rfl) hy1.1) ?_⟩
      conv => whnf
      (repeat' (first | (refine Sp.mk (fun hs => ?_) (fun hs => ?_) <;> first | (exfalso; omega) | (conv => whnf)) | (refine Ar.i (by omega) ?_; conv => whnf) | (refine NewS.mk (fun _ => ?_); conv => whnf) | (refine QuoS.nn (by omega) ?_; conv => whnf) | (refine RemS.nn (by omega) ?_; conv => whnf) | refine RetS.mk (fun w' hS => ?_)))
      refine ⟨rfl, CallS.own (fun w' hS => iHeldS_any w' hok.2.2 (St.pool hS hq 3 4 5 rfl rfl rfl) hy1.1) (fun y5 hy5 => ?_)⟩
      conv => whnf
      refine ⟨rfl, CallS.pt hin (fun w' hS => laws_isIn_any cn w' (St.intsR hS (l := heldBy q.h t) 9 rfl (by omega))) ?_⟩
      conv => whnf
      (repeat' (first | (refine Sp.mk (fun hs => ?_) (fun hs => ?_) <;> first | (exfalso; omega) | (conv => whnf)) | (refine Ar.i (by omega) ?_; conv => whnf) | (refine NewS.mk (fun _ => ?_); conv => whnf) | (refine QuoS.nn (by omega) ?_; conv => whnf) | (refine RemS.nn (by omega) ?_; conv => whnf) | refine RetS.mk (fun w' hS => ?_)))
      exact ⟨rfl, hS.below⟩
  · obtain ⟨_, _, _, hfull, hcn, hin, hqe⟩ := acq_wait hd (by omega)
    refine ⟨rfl, CallS.own (fun w' hS => iAcqS_any w' hd (St.pool hS hl 0 1 2 rfl rfl rfl) hcp.1) (fun y1 hy1 => ?_)⟩
    conv => whnf
    refine NewS.mk (fun g1 => ?_)
    conv => whnf
    refine ⟨rfl, CallS.own (fun w' hS => sAcqS_any w' hd (St.pool hS hl 0 1 2 rfl rfl rfl) hcp hle.s) (fun y2 hy2 => ?_)⟩
    conv => whnf
    refine NewS.mk (fun g2 => ?_)
    conv => whnf
    refine ⟨rfl, CallS.ro (fun w' hS => equalPool_any w' (St.pool hS hq 3 4 5 rfl rfl rfl) (St.pool hS hq 6 7 8 rfl rfl rfl)) ?_⟩
    conv => whnf
    (repeat' (first | (refine Sp.mk (fun hs => ?_) (fun hs => ?_) <;> first | (exfalso; omega) | (conv => whnf)) | (refine Ar.i (by omega) ?_; conv => whnf) | (refine NewS.mk (fun _ => ?_); conv => whnf) | (refine QuoS.nn (by omega) ?_; conv => whnf) | (refine RemS.nn (by omega) ?_; conv => whnf) | refine RetS.mk (fun w' hS => ?_)))
    refine LoopS.same (okS w []) [(2, 2), (11, 11), (65, 77)] [11] rfl (fun k : Nat => [I64 k]) (fun k => k ≤ 5) (fun k => 5 - k) 0 (by omega) ⟨rfl, trivial⟩ (LbTo.self rfl) (fun k gg hk => ?_)
    conv => whnf
    refine Sp.mk (fun h => ?_) (fun h => ?_) <;> conv => whnf
    · (repeat' (first | (refine Sp.mk (fun hs => ?_) (fun hs => ?_) <;> first | (exfalso; omega) | (conv => whnf)) | (refine Ar.i (by omega) ?_; conv => whnf) | (refine NewS.mk (fun _ => ?_); conv => whnf) | (refine QuoS.nn (by omega) ?_; conv => whnf) | (refine RemS.nn (by omega) ?_; conv => whnf) | refine RetS.mk (fun w' hS => ?_)))
      exact ⟨k + 1, by omega, by omega, ⟨rfl, trivial⟩, LbTo.self rfl, RsTo.refl _⟩
    · refine ⟨rfl, CallS.pt hok.2.2 (fun w' hS => impl_ValidPool_any w' (St.pool hS hq 3 4 5 rfl rfl rfl) hy1.1) ?_⟩
      conv => whnf
      (repeat' (first | (refine Sp.mk (fun hs => ?_) (fun hs => ?_) <;> first | (exfalso; omega) | (conv => whnf)) | (refine Ar.i (by omega) ?_; conv => whnf) | (refine NewS.mk (fun _ => ?_); conv => whnf) | (refine QuoS.nn (by omega) ?_; conv => whnf) | (refine RemS.nn (by omega) ?_; conv => whnf) | refine RetS.mk (fun w' hS => ?_)))
      exact ⟨rfl, hS.below⟩
end Go.Proofs.Ytfjedjcdmaoeoaa
