/- FnPlaceInLineLeave; conditions: none. -/
import Derived.Test.YtmojlnfadjnhgaaLinKz
set_option maxRecDepth 100000
set_option linter.unusedVariables false
set_option linter.unusedSimpArgs false
namespace Go.Proofs.Ytmojlnfadjnhgaa
open Eng Go Go.RowKit

theorem lawPlaceLeave (w : World) {A : Option Addr} {n c : Nat} {bs : List Int} (hb : Bytes w A n bs) (hn : n ≤ c) :
    Calls Try.prog 22 #[.slice A n c] w fun e w' => e = .returned (.bool true) ∧ Below w.heap.size w w' := by
  refine enter (C := cxS w []) (okS w []) (St.start w) Try.func22 rfl rfl ?_; conv => whnf
  (repeat' (first | (refine Sp.mk (fun hs => ?_) (fun hs => ?_) <;> first | (exfalso; omega) | (conv => whnf)) | (refine Ar.i (by omega) ?_; conv => whnf) | (refine NewS.mk (fun _ => ?_); conv => whnf) | (refine QuoS.nn (by omega) ?_; conv => whnf) | (refine RemS.nn (by omega) ?_; conv => whnf) | (refine QuietS.mk (by as_aux_lemma => kernel_rfl) ?_; conv => whnf) | refine RetS.mk (fun w' hS => ?_)))
  · exact ⟨rfl, hS.below⟩
  refine ⟨rfl, CallS.own (fun w' hS => drawPlace_any w' ⟨hS.arg hb.1, hb.2⟩ hn) (fun y hy => ?_)⟩
  obtain ⟨⟨A1, c1, l⟩, t⟩ := y
  obtain ⟨h13, hcap, hs1, hs2⟩ := hy
  dsimp only [LnD.v] at h13 hcap hs1 hs2 ⊢
  conv => whnf
  refine NewS.mk (fun g0 => ?_)
  conv => whnf
  refine ⟨rfl, CallS.ro (fun w' hS => iPlace_any t w' (St.line hS 0 rfl (by omega))) ?_⟩
  conv => whnf
  refine ⟨rfl, CallS.ro (fun w' hS => sPlace_any t w' (St.line hS 0 rfl (by omega))) ?_⟩
  conv => whnf
  refine Sp.mk (fun _ => ?_) (fun h => absurd rfl h)
  conv => whnf
  refine Sp.mk (fun h0 => ?_) (fun h0 => ?_) <;> conv => whnf
  · refine ⟨rfl, CallS.ro (fun w' hS => sPlace_any t w' (St.line hS 0 rfl (by omega))) ?_⟩
    conv => whnf
    (repeat' (first | (refine Sp.mk (fun hs => ?_) (fun hs => ?_) <;> first | (exfalso; omega) | (conv => whnf)) | (refine Ar.i (by omega) ?_; conv => whnf) | (refine NewS.mk (fun _ => ?_); conv => whnf) | (refine QuoS.nn (by omega) ?_; conv => whnf) | (refine RemS.nn (by omega) ?_; conv => whnf) | (refine QuietS.mk (by as_aux_lemma => kernel_rfl) ?_; conv => whnf) | refine RetS.mk (fun w' hS => ?_)))
    exact ⟨rfl, hS.below⟩
  have hp : 0 ≤ place l t := by omega
  have hok : okLine l := by
    refine Classical.byContradiction fun hno => ?_
    have e : place l t = -1 := if_neg hno
    omega
  have hb2 : place l t ≤ 1000 := by
    have h1 := (wait_length hok).2
    have e : place l t = idxI (wait l) t 0 := if_pos hok
    rcases idxI_spec (wait l) t 0 with ⟨h2, _⟩ | ⟨j, h2, h3⟩
    · omega
    · have := (List.getElem?_eq_some_iff.1 h3).1
      omega
  have e3 : waitL l = wait l := waitL_ok hok
  have hw12 := (wait_length hok).2
  refine ⟨rfl, CallS.ownF (fun w' hS => iWaiting_any w' (St.line hS 0 rfl (by omega))) (fun y3 b3 w3 hy3 hF3 => ?_)⟩
  rw [e3] at hy3 hF3 ⊢
  have hga : 0 < (wait l).length → ∃ ga, y3.1 = some ⟨ga, 0, none⟩ := fun h => row_some hF3 h
  conv => whnf
  refine LoopS.same (okS w []) [(2, 2), (7, 10), (38, 73)] [7] rfl (fun k : Nat => [I64 k]) (fun k => k ≤ (wait l).length) (fun k => (wait l).length - k) 0 (by omega) ⟨rfl, trivial⟩ (LbTo.self rfl) (fun k g hkk => ?_)
  conv => whnf
  refine Sp.mk (fun h => ?_) (fun h => ?_) <;> conv => whnf
  rotate_left
  · (repeat' (first | (refine Sp.mk (fun hs => ?_) (fun hs => ?_) <;> first | (exfalso; omega) | (conv => whnf)) | (refine Ar.i (by omega) ?_; conv => whnf) | (refine NewS.mk (fun _ => ?_); conv => whnf) | (refine QuoS.nn (by omega) ?_; conv => whnf) | (refine RemS.nn (by omega) ?_; conv => whnf) | refine RetS.mk (fun w' hS => ?_)))
    exact ⟨rfl, hS.below⟩
  obtain ⟨ga, hga⟩ := hga (by omega)
  have hkl : k < (wait l).length := by omega
  obtain ⟨u, hu⟩ : ∃ u, (wait l)[k]? = some u := ⟨_, List.getElem?_eq_getElem hkl⟩
  have cell : ∀ (w' : World) lb' rs', Eng.St w [] lb' rs' w' → rs'[1]? = some (rowOf 3 1 y3.1 (wait l).length y3.2 (i64s (wait l))) → w'.cell? ((⟨ga, 0, none⟩ : Addr).add k) = some (.int .i64 u) := fun w' lb' rs' hS hi => by
    obtain ⟨ad', e, hc⟩ := (hS.rowR (List.mem_of_getElem? hi)).2 (by omega)
    rw [hga] at e
    simp only [Option.some.injEq] at e
    subst e
    have := hc k (.int .i64 u) (by simp [i64s, hu])
    simpa using this
  refine IdxS.at_ k hga rfl hkl ?_
  conv => whnf
  refine LdS.at_ (v := .int .i64 u) (fun w' hS => cell w' _ _ hS rfl) ?_
  conv => whnf
  refine Sp.mk (fun hut => ?_) (fun hut => ?_) <;> conv => whnf
  · refine Ar.i (by omega) ?_
    conv => whnf
    exact ⟨k + 1, by omega, by omega, ⟨rfl, trivial⟩, ⟨rfl, (LbTo.self rfl).ok⟩, RsTo.sub (by simp)⟩
  obtain ⟨q1, q2⟩ := law_placeLeave hp hu hut
  have hl1 := gone_length (ok_leave q1)
  refine DrawS.all (.first 0 (.first 1 (.first 2 (.first 3 (.first 4 (.alt 5 (.first 6 (.first 7 (.first 8 (.one 9 (.one 10 (.first 11 (.done))))))) (.alt 9 (.one 5 (.first 6 (.first 7 (.first 8 (.one 10 (.first 11 (.done))))))) (.stop)))))))) (by as_aux_lemma => kernel_rfl) (LbTo.self rfl) ?_
  conv => whnf
  by_cases hlt : (k : Int) < place l t
  · rw [if_pos hlt] at q2
    repeat' (first | (refine StS.mk rfl (RsTo.sub (by simp)) ?_; conv => whnf) | (refine AltS.mk ?_ ?_ <;> conv => whnf) | exact trivial | (refine NewS.mk (fun g7 => ?_); conv => whnf) | (refine IdxS.at_ k hga rfl hkl ?_; conv => whnf) | (refine LdS.at_ (v := .int .i64 u) (fun w' hS => cell w' _ _ hS rfl) ?_; conv => whnf) | (refine ⟨rfl, CallS.own (fun w' hS => iLeaveZ_any u w' q1 rfl (St.line hS 0 rfl (by omega))) (fun y5 hy5 => ?_)⟩; conv => whnf) | (refine ⟨rfl, CallS.ro (fun w' hS => iPlace_any t w' (St.line hS 2 rfl (by omega))) ?_⟩; conv => whnf) | (refine Sp.mk (fun _ => ?_) (fun h => absurd (by omega) h); conv => whnf) | (refine Sp.mk (fun h => absurd h (by omega)) (fun _ => ?_); conv => whnf) | (refine Ar.i (by omega) ?_; conv => whnf))
    all_goals exact ⟨k + 1, by omega, by omega, ⟨rfl, trivial⟩, ⟨rfl, (LbTo.self rfl).ok⟩, RsTo.sub (by simp)⟩
  · rw [if_neg hlt] at q2
    repeat' (first | (refine StS.mk rfl (RsTo.sub (by simp)) ?_; conv => whnf) | (refine AltS.mk ?_ ?_ <;> conv => whnf) | exact trivial | (refine NewS.mk (fun g7 => ?_); conv => whnf) | (refine IdxS.at_ k hga rfl hkl ?_; conv => whnf) | (refine LdS.at_ (v := .int .i64 u) (fun w' hS => cell w' _ _ hS rfl) ?_; conv => whnf) | (refine ⟨rfl, CallS.own (fun w' hS => iLeaveZ_any u w' q1 rfl (St.line hS 0 rfl (by omega))) (fun y5 hy5 => ?_)⟩; conv => whnf) | (refine ⟨rfl, CallS.ro (fun w' hS => iPlace_any t w' (St.line hS 2 rfl (by omega))) ?_⟩; conv => whnf) | (refine Sp.mk (fun _ => ?_) (fun h => absurd (by omega) h); conv => whnf) | (refine Sp.mk (fun h => absurd h (by omega)) (fun _ => ?_); conv => whnf) | (refine Ar.i (by omega) ?_; conv => whnf))
    all_goals exact ⟨k + 1, by omega, by omega, ⟨rfl, trivial⟩, ⟨rfl, (LbTo.self rfl).ok⟩, RsTo.sub (by simp)⟩
end Go.Proofs.Ytmojlnfadjnhgaa
