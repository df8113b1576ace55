/- FnPlaceInLine; conditions: none. -/
import Derived.Test.YtmojlnfadjnhgaaLinK
set_option maxRecDepth 100000
set_option linter.unusedVariables false
set_option linter.unusedSimpArgs false
namespace Go.Proofs.Ytmojlnfadjnhgaa
open Eng Go Go.RowKit

theorem place_at {l : LineD} {t : Int} (h : 0 ≤ place l t) : okLine l ∧ ∃ j : Nat, place l t = j ∧ (wait l)[j]? = some t := by
  by_cases hk : okLine l
  · have e : place l t = idxI (wait l) t 0 := if_pos hk
    rw [e] at h ⊢
    rcases idxI_spec (wait l) t 0 with ⟨h1, _⟩ | ⟨j, h1, h2⟩
    · omega
    · exact ⟨hk, j, by rw [h1]; omega, h2⟩
  · have e : place l t = -1 := if_neg hk
    omega

theorem lawPlace (w : World) {A : Option Addr} {n c : Nat} {bs : List Int} (hb : Bytes w A n bs) (hn : n ≤ c) :
    Calls Try.prog 13 #[.slice A n c] w fun e w' => e = .returned (.bool true) ∧ Below w.heap.size w w' := by
  refine enter (C := cxS w []) (okS w []) (St.start w) Try.func13 rfl rfl ?_; conv => whnf
  (repeat' (first | (refine Sp.mk (fun hs => ?_) (fun hs => ?_) <;> first | (exfalso; omega) | (conv => whnf)) | (refine Ar.i (by omega) ?_; conv => whnf) | (refine NewS.mk (fun _ => ?_); conv => whnf) | (refine QuoS.nn (by omega) ?_; conv => whnf) | (refine RemS.nn (by omega) ?_; conv => whnf) | (refine QuietS.mk (by as_aux_lemma => kernel_rfl) ?_; conv => whnf) | refine RetS.mk (fun w' hS => ?_)))
  · exact ⟨rfl, hS.below⟩
  refine ⟨rfl, CallS.own (fun w' hS => drawPlace_any w' ⟨hS.arg hb.1, hb.2⟩ hn) (fun y hy => ?_)⟩
  obtain ⟨⟨A1, c1, l⟩, t⟩ := y
  obtain ⟨h13, hcap, hs1, hs2⟩ := hy
  dsimp only [LnD.v] at h13 hcap hs1 hs2 ⊢
  conv => whnf
  refine NewS.mk (fun g0 => ?_)
  conv => whnf
  refine ⟨rfl, CallS.ro (fun w' hS => iPlace_any t w' (St.line hS 0 rfl (by omega))) ?_⟩
  conv => whnf
  refine ⟨rfl, CallS.ro (fun w' hS => sPlace_any t w' (St.line hS 0 rfl (by omega))) ?_⟩
  conv => whnf
  refine Sp.mk (fun _ => ?_) (fun h => absurd rfl h)
  conv => whnf
  refine Sp.mk (fun h0 => ?_) (fun h0 => ?_) <;> conv => whnf
  · refine ⟨rfl, CallS.ro (fun w' hS => sPlace_any t w' (St.line hS 0 rfl (by omega))) ?_⟩
    conv => whnf
    (repeat' (first | (refine Sp.mk (fun hs => ?_) (fun hs => ?_) <;> first | (exfalso; omega) | (conv => whnf)) | (refine Ar.i (by omega) ?_; conv => whnf) | (refine NewS.mk (fun _ => ?_); conv => whnf) | (refine QuoS.nn (by omega) ?_; conv => whnf) | (refine RemS.nn (by omega) ?_; conv => whnf) | (refine QuietS.mk (by as_aux_lemma => kernel_rfl) ?_; conv => whnf) | refine RetS.mk (fun w' hS => ?_)))
    exact ⟨rfl, hS.below⟩
  obtain ⟨hok, j, hj, hx⟩ := place_at (l := l) (t := t) (by omega)
  have hjl : j < (wait l).length := (List.getElem?_eq_some_iff.1 hx).1
  have e1 := waitL_ok hok
  have hsm := waitL_small l
  refine ⟨rfl, CallS.ownF (fun w' hS => iWaiting_any w' (St.line hS 0 rfl (by omega))) (fun y1 b1 w1 hy1 hF => ?_)⟩
  rw [e1] at hsm hy1 hF ⊢
  obtain ⟨⟨ga, hga⟩⟩ : Nonempty (∃ g, y1.1 = some ⟨g, 0, none⟩) := ⟨row_some hF (by omega)⟩
  rw [hga] at hF ⊢
  rw [hj]
  conv => whnf
  refine Sp.mk (fun _ => ?_) (fun h => absurd (by omega) h)
  conv => whnf
  refine IdxS.at_ j rfl rfl hjl ?_
  conv => whnf
  refine LdS.at_ (v := .int .i64 t) (fun w' hS => ?_) ?_
  · obtain ⟨ad', e, hc⟩ := (hS.rowR (List.mem_of_getElem? (i := 1) rfl)).2 (by omega)
    simp only [Option.some.injEq] at e
    subst e
    have := hc j (.int .i64 t) (by simp [i64s, hx])
    simpa using this
  conv => whnf
  (repeat' (first | (refine Sp.mk (fun hs => ?_) (fun hs => ?_) <;> first | (exfalso; omega) | (conv => whnf)) | (refine Ar.i (by omega) ?_; conv => whnf) | (refine NewS.mk (fun _ => ?_); conv => whnf) | (refine QuoS.nn (by omega) ?_; conv => whnf) | (refine RemS.nn (by omega) ?_; conv => whnf) | (refine QuietS.mk (by as_aux_lemma => kernel_rfl) ?_; conv => whnf) | refine RetS.mk (fun w' hS => ?_)))
  exact ⟨rfl, hS.below⟩
end Go.Proofs.Ytmojlnfadjnhgaa
