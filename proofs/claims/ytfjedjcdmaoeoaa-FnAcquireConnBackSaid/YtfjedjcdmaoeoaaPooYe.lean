/- FnAcquireConnBack; conditions: none. -/
import Derived.Test.YtfjedjcdmaoeoaaPooX
import Derived.Test.YtfjedjcdmaoeoaaPooW
set_option maxRecDepth 100000
set_option linter.unusedVariables false
set_option linter.unusedSimpArgs false
namespace Go.Proofs.Ytfjedjcdmaoeoaa
open Eng Go Go.RowKit

set_option maxHeartbeats 2000000 in
theorem lawAcBack (w : World) {A : Option Addr} {n c : Nat} {bs : List Int} (hb : Bytes w A n bs) (hn : n ≤ c) :
    Calls Try.prog 16 #[.slice A n c] w fun e w' => e = .returned (.bool true) ∧ Below w.heap.size w w' := by
  refine enter (C := cxS w []) (okS w []) (St.start w) Try.func16 rfl rfl ?_; conv => whnf
  (repeat' (first | (refine Sp.mk (fun hs => ?_) (fun hs => ?_) <;> first | (exfalso; omega) | (conv => whnf)) | (refine Ar.i (by omega) ?_; conv => whnf) | (refine NewS.mk (fun _ => ?_); conv => whnf) | (refine QuoS.nn (by omega) ?_; conv => whnf) | (refine RemS.nn (by omega) ?_; conv => whnf) | (refine QuietS.mk (by as_aux_lemma => kernel_rfl) ?_; conv => whnf) | refine RetS.mk (fun w' hS => ?_)))
  · exact ⟨rfl, hS.below⟩
  refine ⟨rfl, CallS.own (fun w' hS => draw_spec_DrawAcquireConn_any w' ⟨hS.arg hb.1, hb.2⟩ hn) (fun y hy => ?_)⟩
  obtain ⟨⟨p, a⟩, t⟩ := y
  obtain ⟨hle, hcp, ht⟩ := hy
  dsimp only at hle hcp ht ⊢
  have hl := hle.le
  conv => whnf
  refine NewS.mk (fun g0 => ?_)
  conv => whnf
  rcases hd : acq p t with _ | ⟨q, cn⟩
  · skip
    refine ⟨rfl, CallS.own (fun w' hS => iAcqN_any w' hd (St.pool hS hl 0 1 2 rfl rfl rfl) hcp.1) (fun y1 hy1 => ?_)⟩
    conv => whnf
    refine NewS.mk (fun g1 => ?_)
    conv => whnf
    refine ⟨rfl, CallS.own (fun w' hS => sAcqN_any w' hd (St.pool hS hl 0 1 2 rfl rfl rfl) hcp hle.s) (fun y2 hy2 => ?_)⟩
    conv => whnf
    refine NewS.mk (fun g2 => ?_)
    conv => whnf
    refine ⟨rfl, CallS.ro (fun w' hS => equalPool_any w' (St.pool hS zeroP_le 3 4 5 rfl rfl rfl) (St.pool hS zeroP_le 6 7 8 rfl rfl rfl)) ?_⟩
    conv => whnf
    (repeat' (first | (refine Sp.mk (fun hs => ?_) (fun hs => ?_) <;> first | (exfalso; omega) | (conv => whnf)) | (refine Ar.i (by omega) ?_; conv => whnf) | (refine NewS.mk (fun _ => ?_); conv => whnf) | (refine QuoS.nn (by omega) ?_; conv => whnf) | (refine RemS.nn (by omega) ?_; conv => whnf) | refine RetS.mk (fun w' hS => ?_)))
    refine ⟨rfl, CallS.ro (fun w' hS => equalPool_any w' (St.pool hS zeroP_le 3 4 5 rfl rfl rfl) (St.pool hS zeroP_le 6 7 8 rfl rfl rfl)) ?_⟩
    conv => whnf
    (repeat' (first | (refine Sp.mk (fun hs => ?_) (fun hs => ?_) <;> first | (exfalso; omega) | (conv => whnf)) | (refine Ar.i (by omega) ?_; conv => whnf) | (refine NewS.mk (fun _ => ?_); conv => whnf) | (refine QuoS.nn (by omega) ?_; conv => whnf) | (refine RemS.nn (by omega) ?_; conv => whnf) | refine RetS.mk (fun w' hS => ?_)))
    exact ⟨rfl, hS.below⟩
  have hok := acq_ok hd
  have hq := ok_le hok.2.2
  have hsm := ok_small hok.1
  have hsm2 := ok_small hok.2.2
  by_cases hc0 : cn < 0
  · skip
    refine ⟨rfl, CallS.own (fun w' hS => iAcqS_any w' hd (St.pool hS hl 0 1 2 rfl rfl rfl) hcp.1) (fun y1 hy1 => ?_)⟩
    conv => whnf
    refine NewS.mk (fun g1 => ?_)
    conv => whnf
    refine ⟨rfl, CallS.own (fun w' hS => sAcqS_any w' hd (St.pool hS hl 0 1 2 rfl rfl rfl) hcp hle.s) (fun y2 hy2 => ?_)⟩
    conv => whnf
    refine NewS.mk (fun g2 => ?_)
    conv => whnf
    refine ⟨rfl, CallS.ro (fun w' hS => equalPool_any w' (St.pool hS hq 3 4 5 rfl rfl rfl) (St.pool hS hq 6 7 8 rfl rfl rfl)) ?_⟩
    conv => whnf
    (repeat' (first | (refine Sp.mk (fun hs => ?_) (fun hs => ?_) <;> first | (exfalso; omega) | (conv => whnf)) | (refine Ar.i (by omega) ?_; conv => whnf) | (refine NewS.mk (fun _ => ?_); conv => whnf) | (refine QuoS.nn (by omega) ?_; conv => whnf) | (refine RemS.nn (by omega) ?_; conv => whnf) | refine RetS.mk (fun w' hS => ?_)))
    refine ⟨rfl, CallS.ro (fun w' hS => equalPool_any w' (St.pool hS hq 3 4 5 rfl rfl rfl) (St.pool hS hq 6 7 8 rfl rfl rfl)) ?_⟩
    conv => whnf
    (repeat' (first | (refine Sp.mk (fun hs => ?_) (fun hs => ?_) <;> first | (exfalso; omega) | (conv => whnf)) | (refine Ar.i (by omega) ?_; conv => whnf) | (refine NewS.mk (fun _ => ?_); conv => whnf) | (refine QuoS.nn (by omega) ?_; conv => whnf) | (refine RemS.nn (by omega) ?_; conv => whnf) | refine RetS.mk (fun w' hS => ?_)))
    exact ⟨rfl, hS.below⟩
  obtain ⟨hk3, hr2, hri, hrh, hrp⟩ := law_back hd (by omega)
  rcases hr : rel q cn with ⟨B, bn⟩
  rw [hr] at hr2 hri hrh hrp
  dsimp only at hr2 hri hrh hrp
  obtain rfl := hr2
  have hokB := rel_ok hk3 hr
  have hlB := ok_le hokB
  have hsmB := ok_small hokB
  have hBl : B.i.length = q.i.length + 1 := by rw [hri]; simp
  have hx : B.i[q.i.length]? = some cn := by rw [hri]; simp
  have hBh : B.h = p.h := hrh
  by_cases hi : p.i.length = 0
  · skip
    refine ⟨rfl, CallS.own (fun w' hS => iAcqS_any w' hd (St.pool hS hl 0 1 2 rfl rfl rfl) hcp.1) (fun y1 hy1 => ?_)⟩
    conv => whnf
    refine NewS.mk (fun g1 => ?_)
    conv => whnf
    refine ⟨rfl, CallS.own (fun w' hS => sAcqS_any w' hd (St.pool hS hl 0 1 2 rfl rfl rfl) hcp hle.s) (fun y2 hy2 => ?_)⟩
    conv => whnf
    refine NewS.mk (fun g2 => ?_)
    conv => whnf
    refine ⟨rfl, CallS.ro (fun w' hS => equalPool_any w' (St.pool hS hq 3 4 5 rfl rfl rfl) (St.pool hS hq 6 7 8 rfl rfl rfl)) ?_⟩
    conv => whnf
    (repeat' (first | (refine Sp.mk (fun hs => ?_) (fun hs => ?_) <;> first | (exfalso; omega) | (conv => whnf)) | (refine Ar.i (by omega) ?_; conv => whnf) | (refine NewS.mk (fun _ => ?_); conv => whnf) | (refine QuoS.nn (by omega) ?_; conv => whnf) | (refine RemS.nn (by omega) ?_; conv => whnf) | refine RetS.mk (fun w' hS => ?_)))
    refine ⟨rfl, CallS.ownF (fun w' hS => iRelS_any w' hk3 hr (St.pool hS hq 3 4 5 rfl rfl rfl) hy1.1) (fun y3 b3 w3 hy3 hF3 => ?_)⟩
    conv => whnf
    refine NewS.mk (fun g3 => ?_)
    conv => whnf
    obtain ⟨ga, hA⟩ := fresh_some hF3 0 rfl (by omega)
    (repeat' (first | (refine Sp.mk (fun hs => ?_) (fun hs => ?_) <;> first | (exfalso; omega) | (conv => whnf)) | (refine Ar.i (by omega) ?_; conv => whnf) | (refine NewS.mk (fun _ => ?_); conv => whnf) | (refine QuoS.nn (by omega) ?_; conv => whnf) | (refine RemS.nn (by omega) ?_; conv => whnf) | refine RetS.mk (fun w' hS => ?_)))
    refine IdxS.at_ q.i.length hA (by omega) (by omega) ?_
    conv => whnf
    refine LdS.at_ (v := .int .i64 cn) (fun w' hS => ints_at (k := q.i.length) hS 9 rfl hA (by omega) hx) ?_
    conv => whnf
    refine Sp.mk (fun _ => ?_) (fun h => absurd rfl h)
    conv => whnf
    refine ⟨rfl, CallS.ro (fun w' hS => equalHoldsE_any w' hBh (St.holdsR hS 10 rfl (by omega)) (St.holdsR hS 1 rfl (by omega))) ?_⟩
    conv => whnf
    (repeat' (first | (refine Sp.mk (fun hs => ?_) (fun hs => ?_) <;> first | (exfalso; omega) | (conv => whnf)) | (refine Ar.i (by omega) ?_; conv => whnf) | (refine NewS.mk (fun _ => ?_); conv => whnf) | (refine QuoS.nn (by omega) ?_; conv => whnf) | (refine RemS.nn (by omega) ?_; conv => whnf) | refine RetS.mk (fun w' hS => ?_)))
    exact ⟨rfl, hS.below⟩
  · have hBp := hrp hi
    refine ⟨rfl, CallS.own (fun w' hS => iAcqS_any w' hd (St.pool hS hl 0 1 2 rfl rfl rfl) hcp.1) (fun y1 hy1 => ?_)⟩
    conv => whnf
    refine NewS.mk (fun g1 => ?_)
    conv => whnf
    refine ⟨rfl, CallS.own (fun w' hS => sAcqS_any w' hd (St.pool hS hl 0 1 2 rfl rfl rfl) hcp hle.s) (fun y2 hy2 => ?_)⟩
    conv => whnf
    refine NewS.mk (fun g2 => ?_)
    conv => whnf
    refine ⟨rfl, CallS.ro (fun w' hS => equalPool_any w' (St.pool hS hq 3 4 5 rfl rfl rfl) (St.pool hS hq 6 7 8 rfl rfl rfl)) ?_⟩
    conv => whnf
    (repeat' (first | (refine Sp.mk (fun hs => ?_) (fun hs => ?_) <;> first | (exfalso; omega) | (conv => whnf)) | (refine Ar.i (by omega) ?_; conv => whnf) | (refine NewS.mk (fun _ => ?_); conv => whnf) | (refine QuoS.nn (by omega) ?_; conv => whnf) | (refine RemS.nn (by omega) ?_; conv => whnf) | refine RetS.mk (fun w' hS => ?_)))
    refine ⟨rfl, CallS.ownF (fun w' hS => iRelS_any w' hk3 hr (St.pool hS hq 3 4 5 rfl rfl rfl) hy1.1) (fun y3 b3 w3 hy3 hF3 => ?_)⟩
    conv => whnf
    refine NewS.mk (fun g3 => ?_)
    conv => whnf
    obtain ⟨ga, hA⟩ := fresh_some hF3 0 rfl (by omega)
    (repeat' (first | (refine Sp.mk (fun hs => ?_) (fun hs => ?_) <;> first | (exfalso; omega) | (conv => whnf)) | (refine Ar.i (by omega) ?_; conv => whnf) | (refine NewS.mk (fun _ => ?_); conv => whnf) | (refine QuoS.nn (by omega) ?_; conv => whnf) | (refine RemS.nn (by omega) ?_; conv => whnf) | refine RetS.mk (fun w' hS => ?_)))
    refine IdxS.at_ q.i.length hA (by omega) (by omega) ?_
    conv => whnf
    refine LdS.at_ (v := .int .i64 cn) (fun w' hS => ints_at (k := q.i.length) hS 9 rfl hA (by omega) hx) ?_
    conv => whnf
    refine Sp.mk (fun _ => ?_) (fun h => absurd rfl h)
    conv => whnf
    refine ⟨rfl, CallS.ro (fun w' hS => equalHoldsE_any w' hBh (St.holdsR hS 10 rfl (by omega)) (St.holdsR hS 1 rfl (by omega))) ?_⟩
    conv => whnf
    (repeat' (first | (refine Sp.mk (fun hs => ?_) (fun hs => ?_) <;> first | (exfalso; omega) | (conv => whnf)) | (refine Ar.i (by omega) ?_; conv => whnf) | (refine NewS.mk (fun _ => ?_); conv => whnf) | (refine QuoS.nn (by omega) ?_; conv => whnf) | (refine RemS.nn (by omega) ?_; conv => whnf) | refine RetS.mk (fun w' hS => ?_)))
    subst hBp
    refine ⟨rfl, CallS.ro (fun w' hS => equalPool_any w' (St.pool hS hlB 9 10 11 rfl rfl rfl) (St.pool hS hlB 0 1 2 rfl rfl rfl)) ?_⟩
    conv => whnf
    (repeat' (first | (refine Sp.mk (fun hs => ?_) (fun hs => ?_) <;> first | (exfalso; omega) | (conv => whnf)) | (refine Ar.i (by omega) ?_; conv => whnf) | (refine NewS.mk (fun _ => ?_); conv => whnf) | (refine QuoS.nn (by omega) ?_; conv => whnf) | (refine RemS.nn (by omega) ?_; conv => whnf) | refine RetS.mk (fun w' hS => ?_)))
    exact ⟨rfl, hS.below⟩
end Go.Proofs.Ytfjedjcdmaoeoaa
