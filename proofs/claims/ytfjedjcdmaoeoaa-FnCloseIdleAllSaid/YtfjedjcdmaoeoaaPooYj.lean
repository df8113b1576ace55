/- FnCloseIdleAll; conditions: none. -/
import Derived.Test.YtfjedjcdmaoeoaaPooX
import Derived.Test.YtfjedjcdmaoeoaaPooW
set_option maxRecDepth 100000
set_option linter.unusedVariables false
set_option linter.unusedSimpArgs false
namespace Go.Proofs.Ytfjedjcdmaoeoaa
open Eng Go Go.RowKit

set_option maxHeartbeats 2000000 in
theorem lawClAll (w : World) {A : Option Addr} {n c : Nat} {bs : List Int} (hb : Bytes w A n bs) (hn : n ≤ c) :
    Calls Try.prog 7 #[.slice A n c] w fun e w' => e = .returned (.bool true) ∧ Below w.heap.size w w' := by
  refine enter (C := cxS w []) (okS w []) (St.start w) Try.func7 rfl rfl ?_; conv => whnf
  (repeat' (first | (refine Sp.mk (fun hs => ?_) (fun hs => ?_) <;> first | (exfalso; omega) | (conv => whnf)) | (refine Ar.i (by omega) ?_; conv => whnf) | (refine NewS.mk (fun _ => ?_); conv => whnf) | (refine QuoS.nn (by omega) ?_; conv => whnf) | (refine RemS.nn (by omega) ?_; conv => whnf) | (refine QuietS.mk (by as_aux_lemma => kernel_rfl) ?_; conv => whnf) | refine RetS.mk (fun w' hS => ?_)))
  · exact ⟨rfl, hS.below⟩
  refine ⟨rfl, CallS.own (fun w' hS => draw_spec_DrawCloseIdle_any w' ⟨hS.arg hb.1, hb.2⟩ hn) (fun y hy => ?_)⟩
  obtain ⟨⟨p, a⟩, t⟩ := y
  obtain ⟨hle, hcp, ht⟩ := hy
  dsimp only at hle hcp ht ⊢
  have hl := hle.le
  conv => whnf
  refine NewS.mk (fun g0 => ?_)
  conv => whnf
  by_cases hk : closeOk p t
  rotate_left
  · skip
    refine ⟨rfl, CallS.own (fun w' hS => iCloseN_any w' hk (St.pool hS hl 0 1 2 rfl rfl rfl) hcp.1) (fun y1 hy1 => ?_)⟩
    conv => whnf
    refine NewS.mk (fun g1 => ?_)
    conv => whnf
    refine ⟨rfl, CallS.own (fun w' hS => sCloseN_any w' hk (St.pool hS hl 0 1 2 rfl rfl rfl) hcp.1 hle.s) (fun y2 hy2 => ?_)⟩
    conv => whnf
    refine NewS.mk (fun g2 => ?_)
    conv => whnf
    refine ⟨rfl, CallS.ro (fun w' hS => equalPool_any w' (St.pool hS zeroP_le 3 4 5 rfl rfl rfl) (St.pool hS zeroP_le 6 7 8 rfl rfl rfl)) ?_⟩
    conv => whnf
    (repeat' (first | (refine Sp.mk (fun hs => ?_) (fun hs => ?_) <;> first | (exfalso; omega) | (conv => whnf)) | (refine Ar.i (by omega) ?_; conv => whnf) | (refine NewS.mk (fun _ => ?_); conv => whnf) | (refine QuoS.nn (by omega) ?_; conv => whnf) | (refine RemS.nn (by omega) ?_; conv => whnf) | refine RetS.mk (fun w' hS => ?_)))
    refine ⟨rfl, CallS.ro (fun w' hS => equalPool_any w' (St.pool hS zeroP_le 3 4 5 rfl rfl rfl) (St.pool hS zeroP_le 6 7 8 rfl rfl rfl)) ?_⟩
    conv => whnf
    (repeat' (first | (refine Sp.mk (fun hs => ?_) (fun hs => ?_) <;> first | (exfalso; omega) | (conv => whnf)) | (refine Ar.i (by omega) ?_; conv => whnf) | (refine NewS.mk (fun _ => ?_); conv => whnf) | (refine QuoS.nn (by omega) ?_; conv => whnf) | (refine RemS.nn (by omega) ?_; conv => whnf) | refine RetS.mk (fun w' hS => ?_)))
    exact ⟨rfl, hS.below⟩
  have ht0 := hk.2
  obtain ⟨N, hN⟩ : ∃ N : Nat, min t (p.i.length : Int) = N := ⟨(min t (p.i.length : Int)).toNat, by omega⟩
  obtain ⟨q, hd⟩ : ∃ q, closeL p N = q := ⟨_, rfl⟩
  have hok : okPool q := by rw [← hd]; exact ok_close hk.1 N
  have hq := ok_le hok
  have hsm := ok_small hk.1
  have hsm2 := ok_small hok
  obtain ⟨z, hz⟩ : ∃ z, closeL p p.i.length = z := ⟨_, rfl⟩
  have hzi : z.i.length = 0 := by rw [← hz]; simp [closeL]
  have hzk : okPool z := by rw [← hz]; exact ok_close hk.1 _
  have hzl := ok_le hzk
  have h0 : closeL p 0 = p := rfl
  have hk1 : closeOk p 1000 := ⟨hk.1, by omega⟩
  have hk0 : closeOk p 0 := ⟨hk.1, by omega⟩
  refine ⟨rfl, CallS.own (fun w' hS => iCloseQ_any w' hk hN hd (St.pool hS hl 0 1 2 rfl rfl rfl) hcp.1) (fun y1 hy1 => ?_)⟩
  conv => whnf
  refine NewS.mk (fun g1 => ?_)
  conv => whnf
  refine ⟨rfl, CallS.own (fun w' hS => sCloseQ_any w' hk hN hd (St.pool hS hl 0 1 2 rfl rfl rfl) hcp.1 hle.s) (fun y2 hy2 => ?_)⟩
  conv => whnf
  refine NewS.mk (fun g2 => ?_)
  conv => whnf
  refine ⟨rfl, CallS.ro (fun w' hS => equalPool_any w' (St.pool hS hq 3 4 5 rfl rfl rfl) (St.pool hS hq 6 7 8 rfl rfl rfl)) ?_⟩
  conv => whnf
  (repeat' (first | (refine Sp.mk (fun hs => ?_) (fun hs => ?_) <;> first | (exfalso; omega) | (conv => whnf)) | (refine Ar.i (by omega) ?_; conv => whnf) | (refine NewS.mk (fun _ => ?_); conv => whnf) | (refine QuoS.nn (by omega) ?_; conv => whnf) | (refine RemS.nn (by omega) ?_; conv => whnf) | refine RetS.mk (fun w' hS => ?_)))
  refine ⟨rfl, CallS.own (fun w' hS => iCloseQ_any (N := p.i.length) w' hk1 (by omega) hz (St.pool hS hl 0 1 2 rfl rfl rfl) hcp.1) (fun y3 hy3 => ?_)⟩
  conv => whnf
  refine NewS.mk (fun g3 => ?_)
  conv => whnf
  refine ⟨rfl, CallS.own (fun w' hS => iCloseQ_any (N := 0) w' hk0 (by omega) h0 (St.pool hS hl 0 1 2 rfl rfl rfl) hcp.1) (fun y4 hy4 => ?_)⟩
  conv => whnf
  refine NewS.mk (fun g4 => ?_)
  conv => whnf
  (repeat' (first | (refine Sp.mk (fun hs => ?_) (fun hs => ?_) <;> first | (exfalso; omega) | (conv => whnf)) | (refine Ar.i (by omega) ?_; conv => whnf) | (refine NewS.mk (fun _ => ?_); conv => whnf) | (refine QuoS.nn (by omega) ?_; conv => whnf) | (refine RemS.nn (by omega) ?_; conv => whnf) | refine RetS.mk (fun w' hS => ?_)))
  refine ⟨rfl, CallS.ro (fun w' hS => equalPool_any w' (St.pool hS hl 12 13 14 rfl rfl rfl) (St.pool hS hl 0 1 2 rfl rfl rfl)) ?_⟩
  conv => whnf
  (repeat' (first | (refine Sp.mk (fun hs => ?_) (fun hs => ?_) <;> first | (exfalso; omega) | (conv => whnf)) | (refine Ar.i (by omega) ?_; conv => whnf) | (refine NewS.mk (fun _ => ?_); conv => whnf) | (refine QuoS.nn (by omega) ?_; conv => whnf) | (refine RemS.nn (by omega) ?_; conv => whnf) | refine RetS.mk (fun w' hS => ?_)))
  exact ⟨rfl, hS.below⟩
end Go.Proofs.Ytfjedjcdmaoeoaa
