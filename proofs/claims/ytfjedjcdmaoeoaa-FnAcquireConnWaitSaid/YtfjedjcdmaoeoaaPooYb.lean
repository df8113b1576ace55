/- FnAcquireConnWait; conditions: none. -/
import Derived.Test.YtfjedjcdmaoeoaaPooX
import Derived.Test.YtfjedjcdmaoeoaaPooW
set_option maxRecDepth 100000
set_option linter.unusedVariables false
set_option linter.unusedSimpArgs false
namespace Go.Proofs.Ytfjedjcdmaoeoaa
open Eng Go Go.RowKit

set_option maxHeartbeats 2000000 in
theorem lawAcWait (w : World) {A : Option Addr} {n c : Nat} {bs : List Int} (hb : Bytes w A n bs) (hn : n ≤ c) :
    Calls Try.prog 10 #[.slice A n c] w fun e w' => e = .returned (.bool true) ∧ Below w.heap.size w w' := by
  refine enter (C := cxS w []) (okS w []) (St.start w) Try.func10 rfl rfl ?_; conv => whnf
  (repeat' (first | (refine Sp.mk (fun hs => ?_) (fun hs => ?_) <;> first | (exfalso; omega) | (conv => whnf)) | (refine Ar.i (by omega) ?_; conv => whnf) | (refine NewS.mk (fun _ => ?_); conv => whnf) | (refine QuoS.nn (by omega) ?_; conv => whnf) | (refine RemS.nn (by omega) ?_; conv => whnf) | (refine QuietS.mk (by as_aux_lemma => kernel_rfl) ?_; conv => whnf) | refine RetS.mk (fun w' hS => ?_)))
  · exact ⟨rfl, hS.below⟩
  refine ⟨rfl, CallS.own (fun w' hS => draw_spec_DrawAcquireConn_any w' ⟨hS.arg hb.1, hb.2⟩ hn) (fun y hy => ?_)⟩
  obtain ⟨⟨p, a⟩, t⟩ := y
  obtain ⟨hle, hcp, ht⟩ := hy
  dsimp only at hle hcp ht ⊢
  have hl := hle.le
  conv => whnf
  refine NewS.mk (fun g0 => ?_)
  conv => whnf
  rcases hd : acq p t with _ | ⟨q, cn⟩
  · skip
    refine ⟨rfl, CallS.own (fun w' hS => iAcqN_any w' hd (St.pool hS hl 0 1 2 rfl rfl rfl) hcp.1) (fun y1 hy1 => ?_)⟩
    conv => whnf
    refine NewS.mk (fun g1 => ?_)
    conv => whnf
    refine ⟨rfl, CallS.own (fun w' hS => sAcqN_any w' hd (St.pool hS hl 0 1 2 rfl rfl rfl) hcp hle.s) (fun y2 hy2 => ?_)⟩
    conv => whnf
    refine NewS.mk (fun g2 => ?_)
    conv => whnf
    refine ⟨rfl, CallS.ro (fun w' hS => equalPool_any w' (St.pool hS zeroP_le 3 4 5 rfl rfl rfl) (St.pool hS zeroP_le 6 7 8 rfl rfl rfl)) ?_⟩
    conv => whnf
    (repeat' (first | (refine Sp.mk (fun hs => ?_) (fun hs => ?_) <;> first | (exfalso; omega) | (conv => whnf)) | (refine Ar.i (by omega) ?_; conv => whnf) | (refine NewS.mk (fun _ => ?_); conv => whnf) | (refine QuoS.nn (by omega) ?_; conv => whnf) | (refine RemS.nn (by omega) ?_; conv => whnf) | refine RetS.mk (fun w' hS => ?_)))
    refine ⟨rfl, CallS.ro (fun w' hS => equalPool_any w' (St.pool hS zeroP_le 3 4 5 rfl rfl rfl) (St.pool hS zeroP_le 6 7 8 rfl rfl rfl)) ?_⟩
    conv => whnf
    (repeat' (first | (refine Sp.mk (fun hs => ?_) (fun hs => ?_) <;> first | (exfalso; omega) | (conv => whnf)) | (refine Ar.i (by omega) ?_; conv => whnf) | (refine NewS.mk (fun _ => ?_); conv => whnf) | (refine QuoS.nn (by omega) ?_; conv => whnf) | (refine RemS.nn (by omega) ?_; conv => whnf) | refine RetS.mk (fun w' hS => ?_)))
    exact ⟨rfl, hS.below⟩
  have hok := acq_ok hd
  have hq := ok_le hok.2.2
  have hsm := ok_small hok.1
  have hsm2 := ok_small hok.2.2
  by_cases hc0 : 0 ≤ cn
  · skip
    refine ⟨rfl, CallS.own (fun w' hS => iAcqS_any w' hd (St.pool hS hl 0 1 2 rfl rfl rfl) hcp.1) (fun y1 hy1 => ?_)⟩
    conv => whnf
    refine NewS.mk (fun g1 => ?_)
    conv => whnf
    refine ⟨rfl, CallS.own (fun w' hS => sAcqS_any w' hd (St.pool hS hl 0 1 2 rfl rfl rfl) hcp hle.s) (fun y2 hy2 => ?_)⟩
    conv => whnf
    refine NewS.mk (fun g2 => ?_)
    conv => whnf
    refine ⟨rfl, CallS.ro (fun w' hS => equalPool_any w' (St.pool hS hq 3 4 5 rfl rfl rfl) (St.pool hS hq 6 7 8 rfl rfl rfl)) ?_⟩
    conv => whnf
    (repeat' (first | (refine Sp.mk (fun hs => ?_) (fun hs => ?_) <;> first | (exfalso; omega) | (conv => whnf)) | (refine Ar.i (by omega) ?_; conv => whnf) | (refine NewS.mk (fun _ => ?_); conv => whnf) | (refine QuoS.nn (by omega) ?_; conv => whnf) | (refine RemS.nn (by omega) ?_; conv => whnf) | refine RetS.mk (fun w' hS => ?_)))
    refine ⟨rfl, CallS.ro (fun w' hS => equalPool_any w' (St.pool hS hq 3 4 5 rfl rfl rfl) (St.pool hS hq 6 7 8 rfl rfl rfl)) ?_⟩
    conv => whnf
    (repeat' (first | (refine Sp.mk (fun hs => ?_) (fun hs => ?_) <;> first | (exfalso; omega) | (conv => whnf)) | (refine Ar.i (by omega) ?_; conv => whnf) | (refine NewS.mk (fun _ => ?_); conv => whnf) | (refine QuoS.nn (by omega) ?_; conv => whnf) | (refine RemS.nn (by omega) ?_; conv => whnf) | refine RetS.mk (fun w' hS => ?_)))
    exact ⟨rfl, hS.below⟩
  obtain ⟨_, _, _, hfull, hcn, hin, hqe⟩ := acq_wait hd (by omega)
  have hqw : q.w = p.w ++ [t] := by rw [hqe]
  have hqh : q.h = p.h := by rw [hqe]
  have hqi : q.i = p.i := by rw [hqe, hin]
  have hwl : q.w.length = p.w.length + 1 := by rw [hqw]; simp
  have hx : q.w[p.w.length]? = some t := by rw [hqw]; simp
  refine ⟨rfl, CallS.own (fun w' hS => iAcqS_any w' hd (St.pool hS hl 0 1 2 rfl rfl rfl) hcp.1) (fun y1 hy1 => ?_)⟩
  conv => whnf
  refine NewS.mk (fun g1 => ?_)
  conv => whnf
  refine ⟨rfl, CallS.own (fun w' hS => sAcqS_any w' hd (St.pool hS hl 0 1 2 rfl rfl rfl) hcp hle.s) (fun y2 hy2 => ?_)⟩
  conv => whnf
  refine NewS.mk (fun g2 => ?_)
  conv => whnf
  refine ⟨rfl, CallS.ro (fun w' hS => equalPool_any w' (St.pool hS hq 3 4 5 rfl rfl rfl) (St.pool hS hq 6 7 8 rfl rfl rfl)) ?_⟩
  conv => whnf
  (repeat' (first | (refine Sp.mk (fun hs => ?_) (fun hs => ?_) <;> first | (exfalso; omega) | (conv => whnf)) | (refine Ar.i (by omega) ?_; conv => whnf) | (refine NewS.mk (fun _ => ?_); conv => whnf) | (refine QuoS.nn (by omega) ?_; conv => whnf) | (refine RemS.nn (by omega) ?_; conv => whnf) | refine RetS.mk (fun w' hS => ?_)))
  refine DrawS.know (φ := ∃ ga, y1.w = some ⟨ga, 0, none⟩) (fun w' hS => St.some_ hS 5 rfl (by omega)) (fun ⟨ga, hA⟩ => ?_)
  refine QuietS.mk (by as_aux_lemma => kernel_rfl) ?_
  conv => whnf
  refine Ar.i (by omega) ?_
  conv => whnf
  refine Sp.mk (fun _ => ?_) (fun h => absurd (by omega) h)
  conv => whnf
  refine IdxS.at_ p.w.length hA rfl (by omega) ?_
  conv => whnf
  refine LdS.at_ (v := .int .i64 t) (fun w' hS => ints_at (k := p.w.length) hS 5 rfl hA (by omega) hx) ?_
  conv => whnf
  refine Sp.mk (fun _ => ?_) (fun h => absurd rfl h)
  conv => whnf
  refine SlcS.hi p.w.length rfl (by have := hy1.2.2; omega) ?_
  conv => whnf
  refine ⟨rfl, CallQ.pt (by rw [hqw, List.take_left]) (fun w' hS => laws_equalInts_any w' (IntsL.take (St.intsR hS (l := q.w) 5 rfl (by omega)) (k := p.w.length) (by omega)) (St.intsR hS (l := p.w) 2 rfl (by omega))) ?_⟩
  conv => whnf
  refine ⟨rfl, CallQ.ro (fun w' hS => equalHoldsE_any w' hqh (St.holdsR hS 4 rfl (by omega)) (St.holdsR hS 1 rfl (by omega))) ?_⟩
  conv => whnf
  refine ⟨rfl, CallQ.pt hqi (fun w' hS => laws_equalInts_any w' (St.intsR hS (l := q.i) 3 rfl (by omega)) (St.intsR hS (l := p.i) 0 rfl (by omega))) ?_⟩
  conv => whnf
  (repeat' (first | (refine Sp.mk (fun hs => ?_) (fun hs => ?_) <;> first | (exfalso; omega) | (conv => whnf)) | (refine Ar.i (by omega) ?_; conv => whnf) | (refine NewS.mk (fun _ => ?_); conv => whnf) | (refine QuoS.nn (by omega) ?_; conv => whnf) | (refine RemS.nn (by omega) ?_; conv => whnf) | refine RetS.mk (fun w' hS => ?_)))
  exact ⟨rfl, hS.below⟩
end Go.Proofs.Ytfjedjcdmaoeoaa
