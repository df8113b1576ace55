/- The harness's functions on lines; conditions: none. -/
import Derived.Test.YtmojlnfadjnhgaaLinG
import Derived.Lib.SmallJoins
set_option maxRecDepth 100000
set_option linter.unusedVariables false
set_option linter.unusedSimpArgs false
namespace Go.Proofs.Ytmojlnfadjnhgaa
open Eng Go Go.RowKit

theorem szLine_any {A : Option Addr} {c : Nat} {l : LineD} (hn : l.g.length ≤ maxLen) (w : World) :
    Calls Try.prog 30 #[.agg (lineV l A c).toArray, .int .i64 1048576] w fun e w' => e = .returned (.int .i64 (if (1048576 : Int) - l.g.length < 0 then -1 else 1048576 - l.g.length)) ∧ Below w.heap.size w w' := by
  refine enter (C := cxS w []) (okS w []) (St.start w) Try.func30 rfl rfl ?_; conv => whnf
  refine NewS.mk (fun g0 => ?_)
  conv => whnf
  (first | refine ⟨rfl, CallS.ro (fun w' hS => laws_szIntS_any 1048576 (by omega) hn w') ?_⟩ | refine ⟨rfl, CallQ.ro (fun w' hS => laws_szIntS_any 1048576 (by omega) hn w') ?_⟩)
  by_cases hb : (1048576 : Int) - l.g.length < 0
  · rw [if_pos hb]
    conv => whnf
    (repeat' (first | (refine Sp.mk (fun hs => ?_) (fun hs => ?_) <;> first | (exfalso; omega) | (conv => whnf)) | (refine Ar.i (by omega) ?_; conv => whnf) | (refine NewS.mk (fun _ => ?_); conv => whnf) | (refine QuoS.nn (by omega) ?_; conv => whnf) | (refine RemS.nn (by omega) ?_; conv => whnf) | (refine QuietS.mk (by as_aux_lemma => kernel_rfl) ?_; conv => whnf) | refine RetS.mk (fun w' hS => ?_)))
    exact ⟨rfl, hS.below⟩
  · rw [if_neg hb]
    conv => whnf
    (repeat' (first | (refine Sp.mk (fun hs => ?_) (fun hs => ?_) <;> first | (exfalso; omega) | (conv => whnf)) | (refine Ar.i (by omega) ?_; conv => whnf) | (refine NewS.mk (fun _ => ?_); conv => whnf) | (refine QuoS.nn (by omega) ?_; conv => whnf) | (refine RemS.nn (by omega) ?_; conv => whnf) | (refine QuietS.mk (by as_aux_lemma => kernel_rfl) ?_; conv => whnf) | refine RetS.mk (fun w' hS => ?_)))
    exact ⟨rfl, hS.below⟩
theorem toLine_any {A : Option Addr} {c : Nat} {l : LineD} (w : World) (hL : LineR w A l) :
    Calls Try.prog 32 #[.agg (lineV l A c).toArray] w fun e w' => ∃ A' : Option Addr, True ∧ e = .returned (.agg (lineV l A' l.g.length).toArray) ∧ Below w.heap.size w w' ∧ Fresh w.heap.size [gRow l A' l.g.length] w' := by
  refine enter (C := cxS w []) (okS w []) (St.start w) Try.func32 rfl rfl ?_; conv => whnf
  (repeat' (first | (refine Sp.mk (fun hs => ?_) (fun hs => ?_) <;> first | (exfalso; omega) | (conv => whnf)) | (refine Ar.i (by omega) ?_; conv => whnf) | (refine NewS.mk (fun _ => ?_); conv => whnf) | (refine QuoS.nn (by omega) ?_; conv => whnf) | (refine RemS.nn (by omega) ?_; conv => whnf) | refine RetS.mk (fun w' hS => ?_)))
  refine ⟨rfl, CallS.own (fun w' hS => laws_toIntS_any w' (hL.below hS.below)) (fun A' _ => ?_)⟩
  conv => whnf
  (repeat' (first | (refine Sp.mk (fun hs => ?_) (fun hs => ?_) <;> first | (exfalso; omega) | (conv => whnf)) | (refine Ar.i (by omega) ?_; conv => whnf) | (refine NewS.mk (fun _ => ?_); conv => whnf) | (refine QuoS.nn (by omega) ?_; conv => whnf) | (refine RemS.nn (by omega) ?_; conv => whnf) | refine RetS.mk (fun w' hS => ?_)))
  exact ⟨A', trivial, rfl, hS.below, hS.fresh (List.Sublist.refl _)⟩
theorem laws_eqLine_any {A B : Option Addr} {c c' : Nat} {l : LineD} (w : World) (hA : LineR w A l) (hB : LineR w B l) :
    Calls Try.prog 34 #[.agg (lineV l A c).toArray, .agg (lineV l B c').toArray] w fun e w' => e = .returned (.bool true) ∧ Below w.heap.size w w' := by
  refine enter (C := cxS w []) (okS w []) (St.start w) Try.func34 rfl rfl ?_; conv => whnf
  refine NewS.mk (fun g0 => ?_)
  conv => whnf
  refine NewS.mk (fun g1 => ?_)
  conv => whnf
  (repeat' (first | (refine Sp.mk (fun hs => ?_) (fun hs => ?_) <;> first | (exfalso; omega) | (conv => whnf)) | (refine Ar.i (by omega) ?_; conv => whnf) | (refine NewS.mk (fun _ => ?_); conv => whnf) | (refine QuoS.nn (by omega) ?_; conv => whnf) | (refine RemS.nn (by omega) ?_; conv => whnf) | (refine QuietS.mk (by as_aux_lemma => kernel_rfl) ?_; conv => whnf) | refine RetS.mk (fun w' hS => ?_)))
  (first | refine ⟨rfl, CallS.pt (rfl) (fun w' hS => laws_eqIntS_any w' (hA.below hS.below) (hB.below hS.below)) ?_⟩ | refine ⟨rfl, CallQ.pt (rfl) (fun w' hS => laws_eqIntS_any w' (hA.below hS.below) (hB.below hS.below)) ?_⟩)
  conv => whnf
  (repeat' (first | (refine Sp.mk (fun hs => ?_) (fun hs => ?_) <;> first | (exfalso; omega) | (conv => whnf)) | (refine Ar.i (by omega) ?_; conv => whnf) | (refine NewS.mk (fun _ => ?_); conv => whnf) | (refine QuoS.nn (by omega) ?_; conv => whnf) | (refine RemS.nn (by omega) ?_; conv => whnf) | (refine QuietS.mk (by as_aux_lemma => kernel_rfl) ?_; conv => whnf) | refine RetS.mk (fun w' hS => ?_)))
  exact ⟨rfl, hS.below⟩
theorem laws_equalLine_any {A B : Option Addr} {c c' : Nat} {l : LineD} (w : World) (hA : LineR w A l) (hB : LineR w B l) :
    Calls Try.prog 26 #[.agg (lineV l A c).toArray, .agg (lineV l B c').toArray] w fun e w' => e = .returned (.bool true) ∧ Below w.heap.size w w' := by
  refine enter (C := cxS w []) (okS w []) (St.start w) Try.func26 rfl rfl ?_; conv => whnf
  refine NewS.mk (fun g0 => ?_)
  conv => whnf
  refine NewS.mk (fun g1 => ?_)
  conv => whnf
  (repeat' (first | (refine Sp.mk (fun hs => ?_) (fun hs => ?_) <;> first | (exfalso; omega) | (conv => whnf)) | (refine Ar.i (by omega) ?_; conv => whnf) | (refine NewS.mk (fun _ => ?_); conv => whnf) | (refine QuoS.nn (by omega) ?_; conv => whnf) | (refine RemS.nn (by omega) ?_; conv => whnf) | (refine QuietS.mk (by as_aux_lemma => kernel_rfl) ?_; conv => whnf) | refine RetS.mk (fun w' hS => ?_)))
  (first | refine ⟨rfl, CallS.pt (rfl) (fun w' hS => laws_equalInts_any w' (hA.below hS.below) (hB.below hS.below)) ?_⟩ | refine ⟨rfl, CallQ.pt (rfl) (fun w' hS => laws_equalInts_any w' (hA.below hS.below) (hB.below hS.below)) ?_⟩)
  conv => whnf
  (repeat' (first | (refine Sp.mk (fun hs => ?_) (fun hs => ?_) <;> first | (exfalso; omega) | (conv => whnf)) | (refine Ar.i (by omega) ?_; conv => whnf) | (refine NewS.mk (fun _ => ?_); conv => whnf) | (refine QuoS.nn (by omega) ?_; conv => whnf) | (refine RemS.nn (by omega) ?_; conv => whnf) | (refine QuietS.mk (by as_aux_lemma => kernel_rfl) ?_; conv => whnf) | refine RetS.mk (fun w' hS => ?_)))
  exact ⟨rfl, hS.below⟩
theorem heldLine_any {A : Option Addr} {c : Nat} {s n : Int} {m : Nat} (k0 : Int) (h0 : 0 ≤ k0 ∧ k0 ≤ 100000000) (w : World) (hL : IntsL w A m (up k0 m)) :
    Calls Try.prog 45 #[.agg #[.int .i64 s, .int .i64 n, .slice A m c], .int .i64 k0] w fun e w' => e = .returned (.int .i64 (k0 + m)) ∧ Below w.heap.size w w' := by
  refine enter (C := cxS w []) (okS w []) (St.start w) Try.func45 rfl rfl ?_; conv => whnf
  refine NewS.mk (fun g0 => ?_)
  conv => whnf
  (first | refine ⟨rfl, CallS.ro (fun w' hS => laws_heldIntS_any k0 h0 w' (hL.below hS.below)) ?_⟩ | refine ⟨rfl, CallQ.ro (fun w' hS => laws_heldIntS_any k0 h0 w' (hL.below hS.below)) ?_⟩)
  conv => whnf
  (repeat' (first | (refine Sp.mk (fun hs => ?_) (fun hs => ?_) <;> first | (exfalso; omega) | (conv => whnf)) | (refine Ar.i (by omega) ?_; conv => whnf) | (refine NewS.mk (fun _ => ?_); conv => whnf) | (refine QuoS.nn (by omega) ?_; conv => whnf) | (refine RemS.nn (by omega) ?_; conv => whnf) | (refine QuietS.mk (by as_aux_lemma => kernel_rfl) ?_; conv => whnf) | refine RetS.mk (fun w' hS => ?_)))
  exact ⟨rfl, hS.below⟩
theorem markLine_any {A : Option Addr} {c : Nat} {s n : Int} {m : Nat} {xs : List Value} (k0 : Int) (h0 : 0 ≤ k0 ∧ k0 ≤ 100000000) (w : World) (hm : m ≤ 2000000)
    (ho : owns w 0 3 1 (rowOf 3 1 A m c xs).v m xs) :
    Calls Try.prog 44 #[.agg #[.int .i64 s, .int .i64 n, .slice A m c], .int .i64 k0] w fun e w' => e = .returned (.int .i64 (k0 + m)) ∧ Pres (rowOf 3 1 A m c xs).v.ownBlock.toList w w' ∧ owns w' 0 3 1 (rowOf 3 1 A m c xs).v m (i64s (up k0 m)) := by
  refine enter (C := cxS w (rowOf 3 1 A m c xs).v.ownBlock.toList) (okS w _) (St.startRow (o := rowOf 3 1 A m c xs) ho) Try.func44 rfl rfl ?_
  conv => whnf
  refine NewS.mk (fun g0 => ?_)
  conv => whnf
  refine call_markI 0 rfl h0 hm ?_
  conv => whnf
  (repeat' (first | (refine Sp.mk (fun hs => ?_) (fun hs => ?_) <;> first | (exfalso; omega) | (conv => whnf)) | (refine Ar.i (by omega) ?_; conv => whnf) | (refine NewS.mk (fun _ => ?_); conv => whnf) | (refine QuoS.nn (by omega) ?_; conv => whnf) | (refine RemS.nn (by omega) ?_; conv => whnf) | refine RetS.mk (fun w' hS => ?_)))
  exact ⟨rfl, hS.pres, (hS.own _ (List.mem_singleton.2 rfl)).1⟩
theorem call_markLine {w0 : World} {S0 : List Nat} {lb : List Box} {rs : List Own} {K : SV → List Box → List Own → Prop} {A : Option Addr} {m c : Nat} {s n : Int} {xs : List Value} {k0 : Int} (i : Nat) (hi : rs[i]? = some (rowOf 3 1 A m c xs)) (h0 : 0 ≤ k0 ∧ k0 ≤ 100000000) (hm : m ≤ 2000000)
    (kk : K (.v (.int .i64 (k0 + m))) lb (rs.set i (rowOf 3 1 A m c (i64s (up k0 m))))) :
    memN (cxS w0 S0).F 44 = true ∧ CallS (cxS w0 S0) lb rs 44 #[.agg #[.int .i64 s, .int .i64 n, .slice A m c], .int .i64 k0] K :=
  ⟨rfl, CallS.updR (α := Unit) (r := fun _ => .int .i64 (k0 + m)) (φ := fun _ => True) (ys := fun _ => i64s (up k0 m)) hi (fun w hS => (markLine_any k0 h0 w hm (hS.own _ (List.mem_of_getElem? hi)).1).mono fun e w' ⟨h1, h2, h3⟩ => ⟨(), trivial, h1, h2, h3⟩) (fun _ _ => kk)⟩
end Go.Proofs.Ytmojlnfadjnhgaa
