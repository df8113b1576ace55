/- FnReleaseConnAll; conditions: none. -/
import Derived.Test.YtfjedjcdmaoeoaaPooX
import Derived.Test.YtfjedjcdmaoeoaaPooW
set_option maxRecDepth 100000
set_option linter.unusedVariables false
set_option linter.unusedSimpArgs false
namespace Go.Proofs.Ytfjedjcdmaoeoaa
open Eng Go Go.RowKit

set_option maxHeartbeats 2000000 in
theorem lawReAll (w : World) {A : Option Addr} {n c : Nat} {bs : List Int} (hb : Bytes w A n bs) (hn : n ≤ c) :
    Calls Try.prog 11 #[.slice A n c] w fun e w' => e = .returned (.bool true) ∧ Below w.heap.size w w' := by
  refine enter (C := cxS w []) (okS w []) (St.start w) Try.func11 rfl rfl ?_; conv => whnf
  (repeat' (first | (refine Sp.mk (fun hs => ?_) (fun hs => ?_) <;> first | (exfalso; omega) | (conv => whnf)) | (refine Ar.i (by omega) ?_; conv => whnf) | (refine NewS.mk (fun _ => ?_); conv => whnf) | (refine QuoS.nn (by omega) ?_; conv => whnf) | (refine RemS.nn (by omega) ?_; conv => whnf) | (refine QuietS.mk (by as_aux_lemma => kernel_rfl) ?_; conv => whnf) | refine RetS.mk (fun w' hS => ?_)))
  · exact ⟨rfl, hS.below⟩
  refine ⟨rfl, CallS.own (fun w' hS => draw_release_any w' ⟨hS.arg hb.1, hb.2⟩ hn) (fun y hy => ?_)⟩
  obtain ⟨⟨p, a⟩, t⟩ := y
  obtain ⟨hle, hcp, ht⟩ := hy
  dsimp only at hle hcp ht ⊢
  have hl := hle.le
  conv => whnf
  refine NewS.mk (fun g0 => ?_)
  conv => whnf
  by_cases hk : relOk p t
  rotate_left
  · skip
    refine ⟨rfl, CallS.own (fun w' hS => iRelN_any w' hk (St.pool hS hl 0 1 2 rfl rfl rfl) hcp.1) (fun y1 hy1 => ?_)⟩
    conv => whnf
    refine NewS.mk (fun g1 => ?_)
    conv => whnf
    refine ⟨rfl, CallS.own (fun w' hS => sRelN_any w' hk (St.pool hS hl 0 1 2 rfl rfl rfl) hcp hle.s) (fun y2 hy2 => ?_)⟩
    conv => whnf
    refine NewS.mk (fun g2 => ?_)
    conv => whnf
    refine ⟨rfl, CallS.ro (fun w' hS => equalPool_any w' (St.pool hS zeroP_le 3 4 5 rfl rfl rfl) (St.pool hS zeroP_le 6 7 8 rfl rfl rfl)) ?_⟩
    conv => whnf
    (repeat' (first | (refine Sp.mk (fun hs => ?_) (fun hs => ?_) <;> first | (exfalso; omega) | (conv => whnf)) | (refine Ar.i (by omega) ?_; conv => whnf) | (refine NewS.mk (fun _ => ?_); conv => whnf) | (refine QuoS.nn (by omega) ?_; conv => whnf) | (refine RemS.nn (by omega) ?_; conv => whnf) | refine RetS.mk (fun w' hS => ?_)))
    refine ⟨rfl, CallS.ro (fun w' hS => equalPool_any w' (St.pool hS zeroP_le 3 4 5 rfl rfl rfl) (St.pool hS zeroP_le 6 7 8 rfl rfl rfl)) ?_⟩
    conv => whnf
    (repeat' (first | (refine Sp.mk (fun hs => ?_) (fun hs => ?_) <;> first | (exfalso; omega) | (conv => whnf)) | (refine Ar.i (by omega) ?_; conv => whnf) | (refine NewS.mk (fun _ => ?_); conv => whnf) | (refine QuoS.nn (by omega) ?_; conv => whnf) | (refine RemS.nn (by omega) ?_; conv => whnf) | refine RetS.mk (fun w' hS => ?_)))
    exact ⟨rfl, hS.below⟩
  rcases hd : rel p t with ⟨q, cn⟩
  have hok := rel_ok hk hd
  have hq := ok_le hok
  have hsm := ok_small hk.1
  have hsm2 := ok_small hok
  have hlen := rel_len hk hd
  refine ⟨rfl, CallS.own (fun w' hS => iRelS_any w' hk hd (St.pool hS hl 0 1 2 rfl rfl rfl) hcp.1) (fun y1 hy1 => ?_)⟩
  conv => whnf
  refine NewS.mk (fun g1 => ?_)
  conv => whnf
  refine ⟨rfl, CallS.own (fun w' hS => sRelS_any w' hk hd (St.pool hS hl 0 1 2 rfl rfl rfl) hcp hle.s) (fun y2 hy2 => ?_)⟩
  conv => whnf
  refine NewS.mk (fun g2 => ?_)
  conv => whnf
  refine ⟨rfl, CallS.ro (fun w' hS => equalPool_any w' (St.pool hS hq 3 4 5 rfl rfl rfl) (St.pool hS hq 6 7 8 rfl rfl rfl)) ?_⟩
  conv => whnf
  (repeat' (first | (refine Sp.mk (fun hs => ?_) (fun hs => ?_) <;> first | (exfalso; omega) | (conv => whnf)) | (refine Ar.i (by omega) ?_; conv => whnf) | (refine NewS.mk (fun _ => ?_); conv => whnf) | (refine QuoS.nn (by omega) ?_; conv => whnf) | (refine RemS.nn (by omega) ?_; conv => whnf) | refine RetS.mk (fun w' hS => ?_)))
  rename_i g3
  refine LoopS.rule (okS w []) [(2, 2), (12, 15), (77, 100)] [12] rfl (fun s : Nat × (PoolD × PAd) => [I64 s.1]) (fun s => [⟨g0, 26, (poolV p a).map .v⟩, ⟨g1, 26, (poolV q y1).map .v⟩, ⟨g2, 26, (poolV q y2).map .v⟩, ⟨g3, 26, (poolV s.2.1 s.2.2).map .v⟩])
    (fun s => pRows s.2.1 s.2.2)
    (fun s => okPool s.2.1 ∧ capOk s.2.1 s.2.2 ∧ s.1 = s.2.1.w.length + s.2.1.h.length ∧ s.2.1.i.length + s.2.1.h.length = p.i.length + p.h.length) (fun s => s.1) (q.w.length + q.h.length, (q, y1)) (fun s => rfl) ⟨hok, hy1, rfl, hlen.2⟩ ⟨congrArg (fun z => SV.v (Value.int .i64 z)) (by dsimp only; omega), trivial⟩ (LbTo.self rfl)
    (RsTo.sub (List.Sublist.cons _ (List.Sublist.cons _ (List.Sublist.cons _ (List.Sublist.cons_cons _ (List.Sublist.cons_cons _ (List.Sublist.cons_cons _ (List.nil_sublist _)))))))) (fun s gg ⟨hv, hcap, hs1, hs2⟩ => ?_)
  obtain ⟨m, N, b⟩ := s
  dsimp only at hv hcap hs1 hs2 ⊢
  have hsN := ok_small hv
  have hlN := ok_le hv
  conv => whnf
  refine Sp.mk (fun h0 => ?_) (fun h0 => ?_) <;> conv => whnf
  rotate_left
  · (repeat' (first | (refine Sp.mk (fun hs => ?_) (fun hs => ?_) <;> first | (exfalso; omega) | (conv => whnf)) | (refine Ar.i (by omega) ?_; conv => whnf) | (refine NewS.mk (fun _ => ?_); conv => whnf) | (refine QuoS.nn (by omega) ?_; conv => whnf) | (refine RemS.nn (by omega) ?_; conv => whnf) | refine RetS.mk (fun w' hS => ?_)))
    exact ⟨rfl, hS.below⟩
  refine Sp.mk (fun h1 => ?_) (fun h1 => ?_) <;> conv => whnf
  rotate_left
  · have hw0 : N.w.length = 0 := by
      have h6 := hv.1
      rcases hv.2.2.2.2.2.2 with h | h
      · exact h
      · omega
    (repeat' (first | (refine Sp.mk (fun hs => ?_) (fun hs => ?_) <;> first | (exfalso; omega) | (conv => whnf)) | (refine Ar.i (by omega) ?_; conv => whnf) | (refine NewS.mk (fun _ => ?_); conv => whnf) | (refine QuoS.nn (by omega) ?_; conv => whnf) | (refine RemS.nn (by omega) ?_; conv => whnf) | refine RetS.mk (fun w' hS => ?_)))
    all_goals exact ⟨rfl, hS.below⟩
  obtain ⟨x, hx⟩ : ∃ x, N.h[0]? = some x := ⟨_, List.getElem?_eq_getElem (by omega)⟩
  have hk2 : relOk N x.c := ⟨hv, mem_hc.2 ⟨x, List.mem_of_getElem? hx, rfl⟩⟩
  rcases hr : rel N x.c with ⟨N2, c2⟩
  have hok2 := rel_ok hk2 hr
  have hl2 := rel_len hk2 hr
  refine DrawS.know (φ := ∃ ga, b.h = some ⟨ga, 0, none⟩) (fun w' hS => St.some_ hS 1 rfl (by omega)) (fun ⟨ga, hA⟩ => ?_)
  refine DrawS.all (.first 0 (.first 1 (.first 2 (.first 3 (.first 4 (.first 5 (.alt 6 (.first 7 (.first 8 (.first 9 (.first 10 (.one 11 (.one 12 (.first 13 (.first 14 (.done))))))))) (.alt 11 (.one 6 (.first 7 (.first 8 (.first 9 (.first 10 (.one 12 (.first 13 (.first 14 (.done))))))))) (.stop))))))))) (by as_aux_lemma => kernel_rfl) (LbTo.self rfl) ?_
  conv => whnf
  repeat' (first | (refine StS.mk rfl (RsTo.sub (List.sublist_append_left _ _)) ?_; conv => whnf) | (refine AltS.mk ?_ ?_ <;> conv => whnf) | exact trivial | (refine NewS.mk (fun g7 => ?_); conv => whnf) | (refine IdxS.at_ 0 hA rfl (by omega) ?_; conv => whnf) | (refine LdS.at_ (v := .int .i64 x.c) (fun w' hS => holds_at (k := 0) hS 1 rfl hA (by omega) (by omega) hx) ?_; conv => whnf) | (refine ⟨rfl, CallS.own (fun w' hS => iRelS_any w' hk2 hr (St.pool hS hlN 0 1 2 rfl rfl rfl) hcap.1) (fun y5 hy5 => ?_)⟩; conv => whnf) | (refine Ar.i (by omega) ?_; conv => whnf))
  all_goals
    exact ⟨(m - 1, (N2, y5)), ⟨hok2, hy5, by dsimp only; omega, by dsimp only; omega⟩, by dsimp only; omega, ⟨congrArg (fun z => SV.v (Value.int .i64 z)) (by dsimp only; omega), trivial⟩, ⟨rfl, (LbTo.self rfl).ok⟩, RsTo.sub (List.sublist_append_right _ _)⟩
end Go.Proofs.Ytfjedjcdmaoeoaa
