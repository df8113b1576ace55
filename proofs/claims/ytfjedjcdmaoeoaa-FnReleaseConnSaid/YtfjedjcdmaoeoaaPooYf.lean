/- FnReleaseConn; conditions: none. -/
import Derived.Test.YtfjedjcdmaoeoaaPooX
import Derived.Test.YtfjedjcdmaoeoaaPooW
set_option maxRecDepth 100000
set_option linter.unusedVariables false
set_option linter.unusedSimpArgs false
namespace Go.Proofs.Ytfjedjcdmaoeoaa
open Eng Go Go.RowKit

set_option maxHeartbeats 2000000 in
theorem lawRe (w : World) {A : Option Addr} {n c : Nat} {bs : List Int} (hb : Bytes w A n bs) (hn : n ≤ c) :
    Calls Try.prog 15 #[.slice A n c] w fun e w' => e = .returned (.bool true) ∧ Below w.heap.size w w' := by
  refine enter (C := cxS w []) (okS w []) (St.start w) Try.func15 rfl rfl ?_; conv => whnf
  (repeat' (first | (refine Sp.mk (fun hs => ?_) (fun hs => ?_) <;> first | (exfalso; omega) | (conv => whnf)) | (refine Ar.i (by omega) ?_; conv => whnf) | (refine NewS.mk (fun _ => ?_); conv => whnf) | (refine QuoS.nn (by omega) ?_; conv => whnf) | (refine RemS.nn (by omega) ?_; conv => whnf) | (refine QuietS.mk (by as_aux_lemma => kernel_rfl) ?_; conv => whnf) | refine RetS.mk (fun w' hS => ?_)))
  · exact ⟨rfl, hS.below⟩
  refine ⟨rfl, CallS.own (fun w' hS => draw_release_any w' ⟨hS.arg hb.1, hb.2⟩ hn) (fun y hy => ?_)⟩
  obtain ⟨⟨p, a⟩, t⟩ := y
  obtain ⟨hle, hcp, ht⟩ := hy
  dsimp only at hle hcp ht ⊢
  have hl := hle.le
  conv => whnf
  refine NewS.mk (fun g0 => ?_)
  conv => whnf
  by_cases hk : relOk p t
  rotate_left
  · skip
    refine ⟨rfl, CallS.own (fun w' hS => iRelN_any w' hk (St.pool hS hl 0 1 2 rfl rfl rfl) hcp.1) (fun y1 hy1 => ?_)⟩
    conv => whnf
    refine NewS.mk (fun g1 => ?_)
    conv => whnf
    refine ⟨rfl, CallS.own (fun w' hS => sRelN_any w' hk (St.pool hS hl 0 1 2 rfl rfl rfl) hcp hle.s) (fun y2 hy2 => ?_)⟩
    conv => whnf
    refine NewS.mk (fun g2 => ?_)
    conv => whnf
    refine ⟨rfl, CallS.ro (fun w' hS => equalPool_any w' (St.pool hS zeroP_le 3 4 5 rfl rfl rfl) (St.pool hS zeroP_le 6 7 8 rfl rfl rfl)) ?_⟩
    conv => whnf
    (repeat' (first | (refine Sp.mk (fun hs => ?_) (fun hs => ?_) <;> first | (exfalso; omega) | (conv => whnf)) | (refine Ar.i (by omega) ?_; conv => whnf) | (refine NewS.mk (fun _ => ?_); conv => whnf) | (refine QuoS.nn (by omega) ?_; conv => whnf) | (refine RemS.nn (by omega) ?_; conv => whnf) | refine RetS.mk (fun w' hS => ?_)))
    refine ⟨rfl, CallS.ro (fun w' hS => equalPool_any w' (St.pool hS zeroP_le 3 4 5 rfl rfl rfl) (St.pool hS zeroP_le 6 7 8 rfl rfl rfl)) ?_⟩
    conv => whnf
    (repeat' (first | (refine Sp.mk (fun hs => ?_) (fun hs => ?_) <;> first | (exfalso; omega) | (conv => whnf)) | (refine Ar.i (by omega) ?_; conv => whnf) | (refine NewS.mk (fun _ => ?_); conv => whnf) | (refine QuoS.nn (by omega) ?_; conv => whnf) | (refine RemS.nn (by omega) ?_; conv => whnf) | refine RetS.mk (fun w' hS => ?_)))
    exact ⟨rfl, hS.below⟩
  rcases hd : rel p t with ⟨q, cn⟩
  have hok := rel_ok hk hd
  have hq := ok_le hok
  have hsm := ok_small hk.1
  have hsm2 := ok_small hok
  have hlen := rel_len hk hd
  obtain hw | ⟨o, r, hw⟩ := nil_or p.w
  · have hw0 : p.w.length = 0 := by rw [hw]; rfl
    have hd2 := hd
    rw [rel_idle hw] at hd2
    simp only [Prod.mk.injEq] at hd2
    have hcn := hd2.2
    have hqw : q.w.length = 0 := by rw [← hd2.1]; rfl
    have hqi : t ∈ q.i := by rw [← hd2.1]; simp
    refine ⟨rfl, CallS.own (fun w' hS => iRelS_any w' hk hd (St.pool hS hl 0 1 2 rfl rfl rfl) hcp.1) (fun y1 hy1 => ?_)⟩
    conv => whnf
    refine NewS.mk (fun g1 => ?_)
    conv => whnf
    refine ⟨rfl, CallS.own (fun w' hS => sRelS_any w' hk hd (St.pool hS hl 0 1 2 rfl rfl rfl) hcp hle.s) (fun y2 hy2 => ?_)⟩
    conv => whnf
    refine NewS.mk (fun g2 => ?_)
    conv => whnf
    refine ⟨rfl, CallS.ro (fun w' hS => equalPool_any w' (St.pool hS hq 3 4 5 rfl rfl rfl) (St.pool hS hq 6 7 8 rfl rfl rfl)) ?_⟩
    conv => whnf
    (repeat' (first | (refine Sp.mk (fun hs => ?_) (fun hs => ?_) <;> first | (exfalso; omega) | (conv => whnf)) | (refine Ar.i (by omega) ?_; conv => whnf) | (refine NewS.mk (fun _ => ?_); conv => whnf) | (refine QuoS.nn (by omega) ?_; conv => whnf) | (refine RemS.nn (by omega) ?_; conv => whnf) | refine RetS.mk (fun w' hS => ?_)))
    refine ⟨rfl, CallS.pt hqi (fun w' hS => laws_isIn_any t w' (St.intsR hS (l := q.i) 3 rfl (by omega))) ?_⟩
    conv => whnf
    (repeat' (first | (refine Sp.mk (fun hs => ?_) (fun hs => ?_) <;> first | (exfalso; omega) | (conv => whnf)) | (refine Ar.i (by omega) ?_; conv => whnf) | (refine NewS.mk (fun _ => ?_); conv => whnf) | (refine QuoS.nn (by omega) ?_; conv => whnf) | (refine RemS.nn (by omega) ?_; conv => whnf) | refine RetS.mk (fun w' hS => ?_)))
    refine ⟨rfl, CallS.pt hok (fun w' hS => impl_ValidPool_any w' (St.pool hS hq 3 4 5 rfl rfl rfl) hy1.1) ?_⟩
    conv => whnf
    (repeat' (first | (refine Sp.mk (fun hs => ?_) (fun hs => ?_) <;> first | (exfalso; omega) | (conv => whnf)) | (refine Ar.i (by omega) ?_; conv => whnf) | (refine NewS.mk (fun _ => ?_); conv => whnf) | (refine QuoS.nn (by omega) ?_; conv => whnf) | (refine RemS.nn (by omega) ?_; conv => whnf) | refine RetS.mk (fun w' hS => ?_)))
    exact ⟨rfl, hS.below⟩
  · have hw1 : p.w.length = r.length + 1 := by rw [hw]; rfl
    have hd2 := hd
    rw [rel_pass hw] at hd2
    simp only [Prod.mk.injEq] at hd2
    have hcn := hd2.2
    subst hcn
    have hqw : q.w = p.w.drop 1 := by rw [← hd2.1, hw]; rfl
    have hqwl : q.w.length = r.length := by rw [← hd2.1]
    have hin : t ∈ heldBy q.h o := by rw [← hd2.1]; dsimp only; rw [heldBy_snoc, if_pos rfl]; simp
    have hb1 := heldBy_len q.h o
    have hx : p.w[0]? = some o := by rw [hw]; rfl
    refine ⟨rfl, CallS.own (fun w' hS => iRelS_any w' hk hd (St.pool hS hl 0 1 2 rfl rfl rfl) hcp.1) (fun y1 hy1 => ?_)⟩
    conv => whnf
    refine NewS.mk (fun g1 => ?_)
    conv => whnf
    refine ⟨rfl, CallS.own (fun w' hS => sRelS_any w' hk hd (St.pool hS hl 0 1 2 rfl rfl rfl) hcp hle.s) (fun y2 hy2 => ?_)⟩
    conv => whnf
    refine NewS.mk (fun g2 => ?_)
    conv => whnf
    refine ⟨rfl, CallS.ro (fun w' hS => equalPool_any w' (St.pool hS hq 3 4 5 rfl rfl rfl) (St.pool hS hq 6 7 8 rfl rfl rfl)) ?_⟩
    conv => whnf
    (repeat' (first | (refine Sp.mk (fun hs => ?_) (fun hs => ?_) <;> first | (exfalso; omega) | (conv => whnf)) | (refine Ar.i (by omega) ?_; conv => whnf) | (refine NewS.mk (fun _ => ?_); conv => whnf) | (refine QuoS.nn (by omega) ?_; conv => whnf) | (refine RemS.nn (by omega) ?_; conv => whnf) | refine RetS.mk (fun w' hS => ?_)))
    refine DrawS.know (φ := ∃ ga, a.w = some ⟨ga, 0, none⟩) (fun w' hS => St.some_ hS 2 rfl (by omega)) (fun ⟨ga, hA⟩ => ?_)
    refine DrawS.all (.first 0 (.first 1 (.first 2 (.first 3 (.first 4 (.first 5 (.first 6 (.first 7 (.first 8 (.first 9 (.first 10 (.first 11 (.one 12 (.first 13 (.first 14 (.first 15 (.first 16 (.first 18 (.one 17 (.one 19 (.first 20 (.first 21 (.first 22 (.first 23 (.first 24 (.first 25 (.first 26 (.first 27 (.first 28 (.first 29 (.first 30 (.first 31 (.one 32 (.first 33 (.first 34 (.done)))))))))))))))))))))))))))))))))))) (by as_aux_lemma => kernel_rfl) (LbTo.self rfl) ?_
    conv => whnf
    refine IdxS.at_ 0 hA rfl (by omega) ?_
    conv => whnf
    refine LdS.at_ (v := .int .i64 o) (fun w' hS => ints_at (k := 0) hS 2 rfl hA (by omega) hx) ?_
    conv => whnf
    refine Sp.mk (fun _ => ?_) (fun h => absurd rfl h)
    conv => whnf
    refine SlcS.loE 1 rfl (by omega) (by have := hcp.2.2; omega) (fun B hB => ?_)
    conv => whnf
    refine ⟨rfl, CallS.pt hqw (fun w' hS => laws_equalInts_any w' (St.intsR hS (l := q.w) 5 rfl (by omega)) ⟨by rw [hB]; exact drop_reads (hS.rowR (List.mem_of_getElem? (i := 2) rfl)) (by omega) hcp.2.2, by omega⟩) ?_⟩
    conv => whnf
    try (refine StS.mk rfl (RsTo.refl _) ?_; conv => whnf)
    refine ⟨rfl, CallS.own (fun w' hS => iHeldS_any w' hok (St.pool hS hq 3 4 5 rfl rfl rfl) hy1.1) (fun y4 hy4 => ?_)⟩
    conv => whnf
    try (refine StS.mk rfl (RsTo.sub (List.sublist_append_left _ _)) ?_; conv => whnf)
    refine ⟨rfl, CallS.pt hin (fun w' hS => laws_isIn_any t w' (St.intsR hS (l := heldBy q.h o) 9 rfl (by omega))) ?_⟩
    conv => whnf
    try (refine StS.mk rfl (RsTo.sub (List.sublist_append_left _ _)) ?_; conv => whnf)
    refine Sp.mk (fun _ => ?_) (fun h => absurd (by omega) h)
    conv => whnf
    refine ⟨rfl, CallS.pt hok (fun w' hS => impl_ValidPool_any w' (St.pool hS hq 3 4 5 rfl rfl rfl) hy1.1) ?_⟩
    conv => whnf
    try (refine StS.mk rfl (RsTo.sub (List.sublist_append_left _ _)) ?_; conv => whnf)
    (repeat' (first | (refine Sp.mk (fun hs => ?_) (fun hs => ?_) <;> first | (exfalso; omega) | (conv => whnf)) | (refine Ar.i (by omega) ?_; conv => whnf) | (refine NewS.mk (fun _ => ?_); conv => whnf) | (refine QuoS.nn (by omega) ?_; conv => whnf) | (refine RemS.nn (by omega) ?_; conv => whnf) | refine RetS.mk (fun w' hS => ?_)))
    exact ⟨rfl, hS.below⟩
end Go.Proofs.Ytfjedjcdmaoeoaa
