/- FnValidPool; conditions: none. -/
import Derived.Test.YtfjedjcdmaoeoaaPooX
import Derived.Test.YtfjedjcdmaoeoaaPooW
set_option maxRecDepth 100000
set_option linter.unusedVariables false
set_option linter.unusedSimpArgs false
namespace Go.Proofs.Ytfjedjcdmaoeoaa
open Eng Go Go.RowKit

set_option maxHeartbeats 2000000 in
theorem lawValid (w : World) {A : Option Addr} {n c : Nat} {bs : List Int} (hb : Bytes w A n bs) (hn : n ≤ c) :
    Calls Try.prog 3 #[.slice A n c] w fun e w' => e = .returned (.bool true) ∧ Below w.heap.size w w' := by
  refine enter (C := cxS w []) (okS w []) (St.start w) Try.func3 rfl rfl ?_; conv => whnf
  (repeat' (first | (refine Sp.mk (fun hs => ?_) (fun hs => ?_) <;> first | (exfalso; omega) | (conv => whnf)) | (refine Ar.i (by omega) ?_; conv => whnf) | (refine NewS.mk (fun _ => ?_); conv => whnf) | (refine QuoS.nn (by omega) ?_; conv => whnf) | (refine RemS.nn (by omega) ?_; conv => whnf) | (refine QuietS.mk (by as_aux_lemma => kernel_rfl) ?_; conv => whnf) | refine RetS.mk (fun w' hS => ?_)))
  · exact ⟨rfl, hS.below⟩
  refine ⟨rfl, CallS.own (fun w' hS => drawValid_any w' ⟨hS.arg hb.1, hb.2⟩ hn) (fun y hy => ?_)⟩
  obtain ⟨p, a⟩ := y
  obtain ⟨hle, hcp⟩ := hy
  dsimp only at hle hcp ⊢
  have hl := hle.le
  conv => whnf
  refine NewS.mk (fun g0 => ?_)
  conv => whnf
  refine ⟨rfl, CallS.p (fun w' hS => impl_ValidPool_any w' (St.pool hS hl 0 1 2 rfl rfl rfl) hcp.1) (fun hok => ?_) (fun hok => ?_)⟩ <;> conv => whnf
  rotate_left
  · skip
    refine ⟨rfl, CallS.pf hok (fun w' hS => spec_ValidPool_any w' (St.pool hS hl 0 1 2 rfl rfl rfl) hle.s) ?_⟩
    conv => whnf
    refine ⟨rfl, CallS.pf hok (fun w' hS => spec_ValidPool_any w' (St.pool hS hl 0 1 2 rfl rfl rfl) hle.s) ?_⟩
    conv => whnf
    (repeat' (first | (refine Sp.mk (fun hs => ?_) (fun hs => ?_) <;> first | (exfalso; omega) | (conv => whnf)) | (refine Ar.i (by omega) ?_; conv => whnf) | (refine NewS.mk (fun _ => ?_); conv => whnf) | (refine QuoS.nn (by omega) ?_; conv => whnf) | (refine RemS.nn (by omega) ?_; conv => whnf) | refine RetS.mk (fun w' hS => ?_)))
    exact ⟨rfl, hS.below⟩
  refine ⟨rfl, CallS.pt hok (fun w' hS => spec_ValidPool_any w' (St.pool hS hl 0 1 2 rfl rfl rfl) hle.s) ?_⟩
  conv => whnf
  refine ⟨rfl, CallS.pt (ok_empty hok) (fun w' hS => impl_ValidPool_any (p := ⟨p.m, [], [], []⟩) (a := ⟨none, none, none, 0, 0, 0⟩) w' ⟨⟨Reads.nil _ _ _, Nat.zero_le _⟩, ⟨Reads.nil _ _ _, Nat.zero_le _⟩, ⟨Reads.nil _ _ _, Nat.zero_le _⟩⟩ (Nat.le_refl _)) ?_⟩
  conv => whnf
  refine ⟨rfl, CallS.pt (ok_noWait hok) (fun w' hS => impl_ValidPool_any (p := ⟨p.m, p.i, p.h, []⟩) (a := ⟨a.i, a.h, none, a.ci, a.ch, 0⟩) w' ⟨St.intsR hS 0 rfl hl.i, St.holdsR hS 1 rfl hl.h, ⟨Reads.nil _ _ _, Nat.zero_le _⟩⟩ hcp.1) ?_⟩
  conv => whnf
  (repeat' (first | (refine Sp.mk (fun hs => ?_) (fun hs => ?_) <;> first | (exfalso; omega) | (conv => whnf)) | (refine Ar.i (by omega) ?_; conv => whnf) | (refine NewS.mk (fun _ => ?_); conv => whnf) | (refine QuoS.nn (by omega) ?_; conv => whnf) | (refine RemS.nn (by omega) ?_; conv => whnf) | refine RetS.mk (fun w' hS => ?_)))
  exact ⟨rfl, hS.below⟩
end Go.Proofs.Ytfjedjcdmaoeoaa
