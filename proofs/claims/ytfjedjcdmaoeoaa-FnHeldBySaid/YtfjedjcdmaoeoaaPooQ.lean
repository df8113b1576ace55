/- Equal pools; conditions: none. -/
import Derived.Test.YtfjedjcdmaoeoaaPooK
set_option maxRecDepth 100000
set_option linter.unusedVariables false
set_option linter.unusedSimpArgs false
namespace Go.Proofs.Ytfjedjcdmaoeoaa
open Eng Go Go.RowKit

theorem equalHolds_any {A B : Option Addr} {n c c' : Nat} {l : List HoldD} (w : World) (hA : Holds w A n l) (hB : Holds w B n l) :
    Calls Try.prog 31 #[.slice A n c, .slice B n c'] w fun e w' => e = .returned (.bool true) ∧ Below w.heap.size w w' := by
  have hl := hA.len
  have hle := hA.le
  refine enter (C := cxS w []) (okS w []) (St.start w) Try.func31 rfl rfl ?_; conv => whnf
  (repeat' (first | (refine Sp.mk (fun hs => ?_) (fun hs => ?_) <;> first | (exfalso; omega) | (conv => whnf)) | (refine Ar.i (by omega) ?_; conv => whnf) | (refine NewS.mk (fun _ => ?_); conv => whnf) | (refine QuoS.nn (by omega) ?_; conv => whnf) | (refine RemS.nn (by omega) ?_; conv => whnf) | (refine QuietS.mk (by as_aux_lemma => kernel_rfl) ?_; conv => whnf) | refine RetS.mk (fun w' hS => ?_)))
  refine LoopS.same (okS w []) [(4, 5), (11, 25)] [5] rfl (fun k : Nat => [I64 k]) (fun k => k ≤ n) (fun k => n - k) 0 (by omega) ⟨rfl, trivial⟩ (LbTo.refl_nil _) (fun k g hk => ?_)
  conv => whnf
  refine Sp.mk (fun h => ?_) (fun h => ?_) <;> conv => whnf
  · obtain ⟨ad, x, rfl, hx, hm, hc⟩ := hA.at_ (k := k) (by omega)
    obtain ⟨bd, y, rfl, hy, _, hd⟩ := hB.at_ (k := k) (by omega)
    obtain rfl : x = y := by rw [hx] at hy; exact Option.some.inj hy
    refine QuietS.mk (by as_aux_lemma => kernel_rfl) ?_
    conv => whnf
    refine IdxS.at_ k rfl rfl (by omega) ?_
    conv => whnf
    refine LdsS.at_ (vs := holdV x) rfl (fun w' hS j u hu => hS.cell0 (hc j u hu)) ?_
    conv => whnf
    refine IdxS.at_ k rfl rfl (by omega) ?_
    conv => whnf
    refine LdsS.at_ (vs := holdV x) rfl (fun w' hS j u hu => hS.cell0 (hd j u hu)) ?_
    conv => whnf
    refine eqS_same (by as_aux_lemma => kernel_rfl) (by as_aux_lemma => kernel_rfl) (by as_aux_lemma => kernel_rfl) [x.c, x.o] (by as_aux_lemma => kernel_rfl) (by as_aux_lemma => kernel_rfl) ?_
    conv => whnf
    (repeat' (first | (refine Sp.mk (fun hs => ?_) (fun hs => ?_) <;> first | (exfalso; omega) | (conv => whnf)) | (refine Ar.i (by omega) ?_; conv => whnf) | (refine NewS.mk (fun _ => ?_); conv => whnf) | (refine QuoS.nn (by omega) ?_; conv => whnf) | (refine RemS.nn (by omega) ?_; conv => whnf) | (refine QuietS.mk (by as_aux_lemma => kernel_rfl) ?_; conv => whnf) | refine RetS.mk (fun w' hS => ?_)))
    exact ⟨k + 1, by omega, by omega, ⟨rfl, trivial⟩, LbTo.refl_nil _, RsTo.refl _⟩
  · (repeat' (first | (refine Sp.mk (fun hs => ?_) (fun hs => ?_) <;> first | (exfalso; omega) | (conv => whnf)) | (refine Ar.i (by omega) ?_; conv => whnf) | (refine NewS.mk (fun _ => ?_); conv => whnf) | (refine QuoS.nn (by omega) ?_; conv => whnf) | (refine RemS.nn (by omega) ?_; conv => whnf) | (refine QuietS.mk (by as_aux_lemma => kernel_rfl) ?_; conv => whnf) | refine RetS.mk (fun w' hS => ?_)))
    exact ⟨rfl, hS.below⟩
theorem equalPool_any {p : PoolD} {a b : PAd} (w : World) (hA : PoolR w p a) (hB : PoolR w p b) :
    Calls Try.prog 30 #[.agg (poolV p a).toArray, .agg (poolV p b).toArray] w fun e w' => e = .returned (.bool true) ∧ Below w.heap.size w w' := by
  refine enter (C := cxS w []) (okS w []) (St.start w) Try.func30 rfl rfl ?_; conv => whnf
  refine NewS.mk (fun g0 => ?_)
  conv => whnf
  refine NewS.mk (fun g1 => ?_)
  conv => whnf
  (repeat' (first | (refine Sp.mk (fun hs => ?_) (fun hs => ?_) <;> first | (exfalso; omega) | (conv => whnf)) | (refine Ar.i (by omega) ?_; conv => whnf) | (refine NewS.mk (fun _ => ?_); conv => whnf) | (refine QuoS.nn (by omega) ?_; conv => whnf) | (refine RemS.nn (by omega) ?_; conv => whnf) | (refine QuietS.mk (by as_aux_lemma => kernel_rfl) ?_; conv => whnf) | refine RetS.mk (fun w' hS => ?_)))
  (first | refine ⟨rfl, CallS.pt (rfl) (fun w' hS => laws_equalInts_any w' (hA.i.below hS.below) (hB.i.below hS.below)) ?_⟩ | refine ⟨rfl, CallQ.pt (rfl) (fun w' hS => laws_equalInts_any w' (hA.i.below hS.below) (hB.i.below hS.below)) ?_⟩)
  conv => whnf
  (first | refine ⟨rfl, CallS.ro (fun w' hS => equalHolds_any w' (hA.h.below hS.below) (hB.h.below hS.below)) ?_⟩ | refine ⟨rfl, CallQ.ro (fun w' hS => equalHolds_any w' (hA.h.below hS.below) (hB.h.below hS.below)) ?_⟩)
  conv => whnf
  (first | refine ⟨rfl, CallS.pt (rfl) (fun w' hS => laws_equalInts_any w' (hA.w.below hS.below) (hB.w.below hS.below)) ?_⟩ | refine ⟨rfl, CallQ.pt (rfl) (fun w' hS => laws_equalInts_any w' (hA.w.below hS.below) (hB.w.below hS.below)) ?_⟩)
  conv => whnf
  (repeat' (first | (refine Sp.mk (fun hs => ?_) (fun hs => ?_) <;> first | (exfalso; omega) | (conv => whnf)) | (refine Ar.i (by omega) ?_; conv => whnf) | (refine NewS.mk (fun _ => ?_); conv => whnf) | (refine QuoS.nn (by omega) ?_; conv => whnf) | (refine RemS.nn (by omega) ?_; conv => whnf) | (refine QuietS.mk (by as_aux_lemma => kernel_rfl) ?_; conv => whnf) | refine RetS.mk (fun w' hS => ?_)))
  exact ⟨rfl, hS.below⟩
end Go.Proofs.Ytfjedjcdmaoeoaa
