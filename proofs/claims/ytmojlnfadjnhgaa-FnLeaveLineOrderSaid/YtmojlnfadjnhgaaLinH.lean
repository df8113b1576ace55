/- The exact laws on lines, reading; conditions: none. -/
import Derived.Test.YtmojlnfadjnhgaaLinC
import Derived.Test.YtmojlnfadjnhgaaLinL
set_option maxRecDepth 100000
set_option linter.unusedVariables false
set_option linter.unusedSimpArgs false
namespace Go.Proofs.Ytmojlnfadjnhgaa
open Eng Go Go.RowKit

theorem call_toLine {w0 : World} {lb : List Box} {rs : List Own} {A : Option Addr} {c : Nat} {l : LineD} {K : SV → List Box → List Own → Prop} (hL : LineR w0 A l)
    (kk : ∀ A', K (.v (.agg (lineV l A' l.g.length).toArray)) lb (rs ++ [gRow l A' l.g.length])) :
    memN (cxS w0 []).F 32 = true ∧ CallS (cxS w0 []) lb rs 32 #[.agg (lineV l A c).toArray] K :=
  ⟨rfl, CallS.own (α := Option Addr) (r := fun A' => .agg (lineV l A' l.g.length).toArray) (φ := fun _ => True) (os := fun A' => [gRow l A' l.g.length]) (fun w hS => toLine_any w (hL.below hS.below)) (fun A' _ => kk A')⟩

theorem exactValidLine_any (w : World) {A : Option Addr} {c : Nat} {l : LineD}  (hr : Reads w 1 A l.g.length (i64s l.g)) (hm : l.g.length ≤ maxLen) :
    Calls Try.prog 4 #[.agg (lineV l A c).toArray] w fun e w' => e = .returned (.bool true) ∧ Below w.heap.size w w' := by
  refine enter (C := cxS w []) (okS w []) (St.start w) Try.func4 rfl rfl ?_; conv => whnf
  refine NewS.mk (fun g0 => ?_)
  conv => whnf
  refine ⟨rfl, CallS.ro (fun w hS => szLine_any hm w) ?_⟩
  by_cases hb : (1048576 : Int) - l.g.length < 0
  · rw [if_pos hb]
    conv => whnf
    (repeat' (first | (refine Sp.mk (fun hs => ?_) (fun hs => ?_) <;> first | (exfalso; omega) | (conv => whnf)) | (refine Ar.i (by omega) ?_; conv => whnf) | (refine NewS.mk (fun _ => ?_); conv => whnf) | (refine QuoS.nn (by omega) ?_; conv => whnf) | (refine RemS.nn (by omega) ?_; conv => whnf) | refine RetS.mk (fun w' hS => ?_)))
    exact ⟨rfl, hS.below⟩
  rw [if_neg hb]
  have hn : l.g.length ≤ 1048576 := by omega
  have hL : LineR w A l := ⟨hr, by omega⟩
  conv => whnf
  (repeat' (first | (refine Sp.mk (fun hs => ?_) (fun hs => ?_) <;> first | (exfalso; omega) | (conv => whnf)) | (refine Ar.i (by omega) ?_; conv => whnf) | (refine NewS.mk (fun _ => ?_); conv => whnf) | (refine QuoS.nn (by omega) ?_; conv => whnf) | (refine RemS.nn (by omega) ?_; conv => whnf) | refine RetS.mk (fun w' hS => ?_)))
  refine call_toLine hL (fun A1 => ?_)
  conv => whnf
  refine ⟨rfl, CallS.ro (fun w hS => spec_ValidLine_any w (St.line hS 0 rfl (by omega))) ?_⟩
  conv => whnf
  refine call_toLine hL (fun A2 => ?_)
  conv => whnf
  refine NewS.mk (fun g1 => ?_)
  conv => whnf
  refine ⟨rfl, CallS.ro (fun w hS => impl_ValidLine_any w (St.line hS 1 rfl (by omega))) ?_⟩
  conv => whnf
  generalize decide (okLine l) = b
  cases b
  all_goals
    conv => whnf
    (repeat' (first | (refine Sp.mk (fun hs => ?_) (fun hs => ?_) <;> first | (exfalso; omega) | (conv => whnf)) | (refine Ar.i (by omega) ?_; conv => whnf) | (refine NewS.mk (fun _ => ?_); conv => whnf) | (refine QuoS.nn (by omega) ?_; conv => whnf) | (refine RemS.nn (by omega) ?_; conv => whnf) | refine RetS.mk (fun w' hS => ?_)))
    refine DrawS.all (.first 0 (.first 1 (.one 2 (.one 3 (.first 4 (.done)))))) (by as_aux_lemma => kernel_rfl) (LbTo.self rfl) ?_
    conv => whnf
    refine call_toLine hL (fun A3 => ?_)
    conv => whnf
    refine StS.mk rfl (RsTo.sub (by simp)) ?_
    conv => whnf
    refine ⟨rfl, CallS.ro (fun w hS => laws_eqLine_any w (St.line hS 1 rfl (by omega)) (St.line hS 2 rfl (by omega))) ?_⟩
    conv => whnf
    refine StS.mk rfl (RsTo.sub (by simp)) ?_
    conv => whnf
    (repeat' (first | (refine Sp.mk (fun hs => ?_) (fun hs => ?_) <;> first | (exfalso; omega) | (conv => whnf)) | (refine Ar.i (by omega) ?_; conv => whnf) | (refine NewS.mk (fun _ => ?_); conv => whnf) | (refine QuoS.nn (by omega) ?_; conv => whnf) | (refine RemS.nn (by omega) ?_; conv => whnf) | refine RetS.mk (fun w' hS => ?_)))
    exact ⟨rfl, hS.below⟩
theorem exactPlace_any (w : World) {A : Option Addr} {c : Nat} {l : LineD} {t : Int}  (hr : Reads w 1 A l.g.length (i64s l.g)) (hm : l.g.length ≤ maxLen) (_ : I64ok t) :
    Calls Try.prog 8 #[.agg (lineV l A c).toArray, .int .i64 t] w fun e w' => e = .returned (.bool true) ∧ Below w.heap.size w w' := by
  refine enter (C := cxS w []) (okS w []) (St.start w) Try.func8 rfl rfl ?_; conv => whnf
  refine NewS.mk (fun g0 => ?_)
  conv => whnf
  refine ⟨rfl, CallS.ro (fun w hS => szLine_any hm w) ?_⟩
  by_cases hb : (1048576 : Int) - l.g.length < 0
  · rw [if_pos hb]
    conv => whnf
    (repeat' (first | (refine Sp.mk (fun hs => ?_) (fun hs => ?_) <;> first | (exfalso; omega) | (conv => whnf)) | (refine Ar.i (by omega) ?_; conv => whnf) | (refine NewS.mk (fun _ => ?_); conv => whnf) | (refine QuoS.nn (by omega) ?_; conv => whnf) | (refine RemS.nn (by omega) ?_; conv => whnf) | refine RetS.mk (fun w' hS => ?_)))
    exact ⟨rfl, hS.below⟩
  rw [if_neg hb]
  have hn : l.g.length ≤ 1048576 := by omega
  have hL : LineR w A l := ⟨hr, by omega⟩
  conv => whnf
  (repeat' (first | (refine Sp.mk (fun hs => ?_) (fun hs => ?_) <;> first | (exfalso; omega) | (conv => whnf)) | (refine Ar.i (by omega) ?_; conv => whnf) | (refine NewS.mk (fun _ => ?_); conv => whnf) | (refine QuoS.nn (by omega) ?_; conv => whnf) | (refine RemS.nn (by omega) ?_; conv => whnf) | refine RetS.mk (fun w' hS => ?_)))
  refine call_toLine hL (fun A1 => ?_)
  conv => whnf
  refine ⟨rfl, CallS.ro (fun w hS => sPlace_any t w (St.line hS 0 rfl (by omega))) ?_⟩
  conv => whnf
  refine call_toLine hL (fun A2 => ?_)
  conv => whnf
  refine NewS.mk (fun g1 => ?_)
  conv => whnf
  refine ⟨rfl, CallS.ro (fun w hS => iPlace_any t w (St.line hS 1 rfl (by omega))) ?_⟩
  conv => whnf
  generalize place l t = z
  all_goals
    conv => whnf
    (repeat' (first | (refine Sp.mk (fun hs => ?_) (fun hs => ?_) <;> first | (exfalso; omega) | (conv => whnf)) | (refine Ar.i (by omega) ?_; conv => whnf) | (refine NewS.mk (fun _ => ?_); conv => whnf) | (refine QuoS.nn (by omega) ?_; conv => whnf) | (refine RemS.nn (by omega) ?_; conv => whnf) | refine RetS.mk (fun w' hS => ?_)))
    refine DrawS.all (.first 0 (.first 1 (.one 2 (.one 3 (.first 4 (.done)))))) (by as_aux_lemma => kernel_rfl) (LbTo.self rfl) ?_
    conv => whnf
    refine call_toLine hL (fun A3 => ?_)
    conv => whnf
    refine StS.mk rfl (RsTo.sub (by simp)) ?_
    conv => whnf
    refine ⟨rfl, CallS.ro (fun w hS => laws_eqLine_any w (St.line hS 1 rfl (by omega)) (St.line hS 2 rfl (by omega))) ?_⟩
    conv => whnf
    refine StS.mk rfl (RsTo.sub (by simp)) ?_
    conv => whnf
    (repeat' (first | (refine Sp.mk (fun hs => ?_) (fun hs => ?_) <;> first | (exfalso; omega) | (conv => whnf)) | (refine Ar.i (by omega) ?_; conv => whnf) | (refine NewS.mk (fun _ => ?_); conv => whnf) | (refine QuoS.nn (by omega) ?_; conv => whnf) | (refine RemS.nn (by omega) ?_; conv => whnf) | refine RetS.mk (fun w' hS => ?_)))
    exact ⟨rfl, hS.below⟩
end Go.Proofs.Ytmojlnfadjnhgaa
