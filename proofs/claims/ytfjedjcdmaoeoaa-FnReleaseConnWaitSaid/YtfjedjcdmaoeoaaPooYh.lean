/- FnReleaseConnWait; conditions: none. -/
import Derived.Test.YtfjedjcdmaoeoaaPooX
import Derived.Test.YtfjedjcdmaoeoaaPooW
set_option maxRecDepth 100000
set_option linter.unusedVariables false
set_option linter.unusedSimpArgs false
namespace Go.Proofs.Ytfjedjcdmaoeoaa
open Eng Go Go.RowKit

set_option maxHeartbeats 2000000 in
theorem lawReWait (w : World) {A : Option Addr} {n c : Nat} {bs : List Int} (hb : Bytes w A n bs) (hn : n ≤ c) :
    Calls Try.prog 12 #[.slice A n c] w fun e w' => e = .returned (.bool true) ∧ Below w.heap.size w w' := by
  refine enter (C := cxS w []) (okS w []) (St.start w) Try.func12 rfl rfl ?_; conv => whnf
  (repeat' (first | (refine Sp.mk (fun hs => ?_) (fun hs => ?_) <;> first | (exfalso; omega) | (conv => whnf)) | (refine Ar.i (by omega) ?_; conv => whnf) | (refine NewS.mk (fun _ => ?_); conv => whnf) | (refine QuoS.nn (by omega) ?_; conv => whnf) | (refine RemS.nn (by omega) ?_; conv => whnf) | (refine QuietS.mk (by as_aux_lemma => kernel_rfl) ?_; conv => whnf) | refine RetS.mk (fun w' hS => ?_)))
  · exact ⟨rfl, hS.below⟩
  refine ⟨rfl, CallS.own (fun w' hS => draw_release_any w' ⟨hS.arg hb.1, hb.2⟩ hn) (fun y hy => ?_)⟩
  obtain ⟨⟨p, a⟩, t⟩ := y
  obtain ⟨hle, hcp, ht⟩ := hy
  dsimp only at hle hcp ht ⊢
  have hl := hle.le
  conv => whnf
  refine NewS.mk (fun g0 => ?_)
  conv => whnf
  by_cases hk : relOk p t
  rotate_left
  · skip
    refine ⟨rfl, CallS.own (fun w' hS => iRelN_any w' hk (St.pool hS hl 0 1 2 rfl rfl rfl) hcp.1) (fun y1 hy1 => ?_)⟩
    conv => whnf
    refine NewS.mk (fun g1 => ?_)
    conv => whnf
    refine ⟨rfl, CallS.own (fun w' hS => sRelN_any w' hk (St.pool hS hl 0 1 2 rfl rfl rfl) hcp hle.s) (fun y2 hy2 => ?_)⟩
    conv => whnf
    refine NewS.mk (fun g2 => ?_)
    conv => whnf
    refine ⟨rfl, CallS.ro (fun w' hS => equalPool_any w' (St.pool hS zeroP_le 3 4 5 rfl rfl rfl) (St.pool hS zeroP_le 6 7 8 rfl rfl rfl)) ?_⟩
    conv => whnf
    (repeat' (first | (refine Sp.mk (fun hs => ?_) (fun hs => ?_) <;> first | (exfalso; omega) | (conv => whnf)) | (refine Ar.i (by omega) ?_; conv => whnf) | (refine NewS.mk (fun _ => ?_); conv => whnf) | (refine QuoS.nn (by omega) ?_; conv => whnf) | (refine RemS.nn (by omega) ?_; conv => whnf) | refine RetS.mk (fun w' hS => ?_)))
    refine ⟨rfl, CallS.ro (fun w' hS => equalPool_any w' (St.pool hS zeroP_le 3 4 5 rfl rfl rfl) (St.pool hS zeroP_le 6 7 8 rfl rfl rfl)) ?_⟩
    conv => whnf
    (repeat' (first | (refine Sp.mk (fun hs => ?_) (fun hs => ?_) <;> first | (exfalso; omega) | (conv => whnf)) | (refine Ar.i (by omega) ?_; conv => whnf) | (refine NewS.mk (fun _ => ?_); conv => whnf) | (refine QuoS.nn (by omega) ?_; conv => whnf) | (refine RemS.nn (by omega) ?_; conv => whnf) | refine RetS.mk (fun w' hS => ?_)))
    exact ⟨rfl, hS.below⟩
  rcases hd : rel p t with ⟨q, cn⟩
  have hok := rel_ok hk hd
  have hq := ok_le hok
  have hsm := ok_small hk.1
  have hsm2 := ok_small hok
  refine ⟨rfl, CallS.own (fun w' hS => iRelS_any w' hk hd (St.pool hS hl 0 1 2 rfl rfl rfl) hcp.1) (fun y1 hy1 => ?_)⟩
  conv => whnf
  refine NewS.mk (fun g1 => ?_)
  conv => whnf
  refine ⟨rfl, CallS.own (fun w' hS => sRelS_any w' hk hd (St.pool hS hl 0 1 2 rfl rfl rfl) hcp hle.s) (fun y2 hy2 => ?_)⟩
  conv => whnf
  refine NewS.mk (fun g2 => ?_)
  conv => whnf
  refine ⟨rfl, CallS.ro (fun w' hS => equalPool_any w' (St.pool hS hq 3 4 5 rfl rfl rfl) (St.pool hS hq 6 7 8 rfl rfl rfl)) ?_⟩
  conv => whnf
  (repeat' (first | (refine Sp.mk (fun hs => ?_) (fun hs => ?_) <;> first | (exfalso; omega) | (conv => whnf)) | (refine Ar.i (by omega) ?_; conv => whnf) | (refine NewS.mk (fun _ => ?_); conv => whnf) | (refine QuoS.nn (by omega) ?_; conv => whnf) | (refine RemS.nn (by omega) ?_; conv => whnf) | refine RetS.mk (fun w' hS => ?_)))
  rename_i g3
  refine LoopS.rule (okS w []) [(2, 2), (12, 15), (73, 98)] [12] rfl (fun s : Nat × (PoolD × PAd) × List Own => [I64 s.1]) (fun s => [⟨g0, 26, (poolV p a).map .v⟩, ⟨g1, 26, (poolV q y1).map .v⟩, ⟨g2, 26, (poolV q y2).map .v⟩, ⟨g3, 26, (poolV s.2.1.1 s.2.1.2).map .v⟩])
    (fun s => pRows p a ++ s.2.2)
    (fun s => s.1 ≤ p.w.length ∧ relOk s.2.1.1 t ∧ capOk s.2.1.1 s.2.1.2 ∧ s.2.1.1.w = p.w.drop s.1 ∧ ∀ lb' w', Eng.St w [] lb' (pRows p a ++ s.2.2) w' → PoolR w' s.2.1.1 s.2.1.2) (fun s => p.w.length - s.1) (0, (p, a), []) (fun s => rfl) ⟨Nat.zero_le _, hk, hcp, rfl, fun lb' w' hS => St.pool hS hl 0 1 2 rfl rfl rfl⟩ ⟨rfl, trivial⟩ (LbTo.self rfl)
    (RsTo.sub (List.Sublist.cons_cons _ (List.Sublist.cons_cons _ (List.Sublist.cons_cons _ (List.nil_sublist _))))) (fun s gg ⟨h1, hk2, hcap, hw2, hN⟩ => ?_)
  obtain ⟨k, ⟨N, b⟩, rs'⟩ := s
  dsimp only at h1 hk2 hcap hw2 hN ⊢
  conv => whnf
  refine Sp.mk (fun h0 => ?_) (fun h0 => ?_) <;> conv => whnf
  · obtain ⟨o, ho⟩ : ∃ o, p.w[k]? = some o := ⟨_, List.getElem?_eq_getElem (by omega)⟩
    have hNw : N.w = o :: p.w.drop (k + 1) := by rw [hw2, drop_at ho]
    have hr := rel_pass (t := t) hNw
    obtain ⟨N2, hN2⟩ : ∃ z, z = PoolD.mk N.m N.i (relH N t ++ [⟨t, o⟩]) (p.w.drop (k + 1)) := ⟨_, rfl⟩
    rw [← hN2] at hr
    have hk3 : relOk N2 t := ⟨rel_ok hk2 hr, by rw [hN2]; simp [hc]⟩
    have hN2w : N2.w = p.w.drop (k + 1) := by rw [hN2]
    refine ⟨rfl, CallS.know (φ := ∃ ga, a.w = some ⟨ga, 0, none⟩) (fun w' hS => St.some_ hS 2 rfl (by omega)) (fun ⟨ga, hA⟩ => CallS.own (fun w' hS => iRelS_any w' hk2 hr (hN _ _ hS) hcap.1) (fun y5 hy5 => ?_))⟩
    conv => whnf
    refine NewS.mk (fun g4 => ?_)
    conv => whnf
    refine IdxS.at_ k hA rfl (by omega) ?_
    conv => whnf
    refine LdS.at_ (v := .int .i64 o) (fun w' hS => ints_at (k := k) hS 2 rfl hA (by omega) ho) ?_
    conv => whnf
    refine Sp.mk (fun _ => ?_) (fun h => absurd rfl h)
    conv => whnf
    refine Ar.i (by omega) ?_
    conv => whnf
    exact ⟨(k + 1, (N2, y5), pRows N2 y5), ⟨by dsimp only; omega, hk3, hy5, hN2w, fun lb' w' hS => St.pool hS (ok_le hk3.1) 3 4 5 rfl rfl rfl⟩, by dsimp only; omega, ⟨rfl, trivial⟩, ⟨rfl, (LbTo.self rfl).ok⟩, RsTo.sub (List.Sublist.append (List.sublist_append_left _ _) (List.Sublist.refl _))⟩
  · have hkn : k = p.w.length := by omega
    have hNw : N.w = [] := by rw [hw2, hkn, List.drop_length]
    have hr := rel_idle (t := t) hNw
    refine ⟨rfl, CallS.own (fun w' hS => iRelS_any w' hk2 hr (hN _ _ hS) hcap.1) (fun y5 hy5 => ?_)⟩
    conv => whnf
    (repeat' (first | (refine Sp.mk (fun hs => ?_) (fun hs => ?_) <;> first | (exfalso; omega) | (conv => whnf)) | (refine Ar.i (by omega) ?_; conv => whnf) | (refine NewS.mk (fun _ => ?_); conv => whnf) | (refine QuoS.nn (by omega) ?_; conv => whnf) | (refine RemS.nn (by omega) ?_; conv => whnf) | refine RetS.mk (fun w' hS => ?_)))
    exact ⟨rfl, hS.below⟩
end Go.Proofs.Ytfjedjcdmaoeoaa
