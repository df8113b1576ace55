/- FnValidPoolIdle; conditions: none. -/
import Derived.Test.YtfjedjcdmaoeoaaPooX
import Derived.Test.YtfjedjcdmaoeoaaPooW
set_option maxRecDepth 100000
set_option linter.unusedVariables false
set_option linter.unusedSimpArgs false
namespace Go.Proofs.Ytfjedjcdmaoeoaa
open Eng Go Go.RowKit

set_option maxHeartbeats 2000000 in
theorem lawValidIdle (w : World) {A : Option Addr} {n c : Nat} {bs : List Int} (hb : Bytes w A n bs) (hn : n ≤ c) :
    Calls Try.prog 4 #[.slice A n c] w fun e w' => e = .returned (.bool true) ∧ Below w.heap.size w w' := by
  refine enter (C := cxS w []) (okS w []) (St.start w) Try.func4 rfl rfl ?_; conv => whnf
  (repeat' (first | (refine Sp.mk (fun hs => ?_) (fun hs => ?_) <;> first | (exfalso; omega) | (conv => whnf)) | (refine Ar.i (by omega) ?_; conv => whnf) | (refine NewS.mk (fun _ => ?_); conv => whnf) | (refine QuoS.nn (by omega) ?_; conv => whnf) | (refine RemS.nn (by omega) ?_; conv => whnf) | (refine QuietS.mk (by as_aux_lemma => kernel_rfl) ?_; conv => whnf) | refine RetS.mk (fun w' hS => ?_)))
  · exact ⟨rfl, hS.below⟩
  refine ⟨rfl, CallS.own (fun w' hS => drawValid_any w' ⟨hS.arg hb.1, hb.2⟩ hn) (fun y hy => ?_)⟩
  obtain ⟨p, a⟩ := y
  obtain ⟨hle, hcp⟩ := hy
  dsimp only at hle hcp ⊢
  have hl := hle.le
  conv => whnf
  refine NewS.mk (fun g0 => ?_)
  conv => whnf
  refine ⟨rfl, CallS.p (fun w' hS => impl_ValidPool_any w' (St.pool hS hl 0 1 2 rfl rfl rfl) hcp.1) (fun hok => ?_) (fun hok => ?_)⟩ <;> conv => whnf
  rotate_left
  · skip
    refine ⟨rfl, CallS.pf hok (fun w' hS => spec_ValidPool_any w' (St.pool hS hl 0 1 2 rfl rfl rfl) hle.s) ?_⟩
    conv => whnf
    refine ⟨rfl, CallS.pf hok (fun w' hS => spec_ValidPool_any w' (St.pool hS hl 0 1 2 rfl rfl rfl) hle.s) ?_⟩
    conv => whnf
    (repeat' (first | (refine Sp.mk (fun hs => ?_) (fun hs => ?_) <;> first | (exfalso; omega) | (conv => whnf)) | (refine Ar.i (by omega) ?_; conv => whnf) | (refine NewS.mk (fun _ => ?_); conv => whnf) | (refine QuoS.nn (by omega) ?_; conv => whnf) | (refine RemS.nn (by omega) ?_; conv => whnf) | refine RetS.mk (fun w' hS => ?_)))
    exact ⟨rfl, hS.below⟩
  refine ⟨rfl, CallS.pt hok (fun w' hS => spec_ValidPool_any w' (St.pool hS hl 0 1 2 rfl rfl rfl) hle.s) ?_⟩
  conv => whnf
  have hsm := ok_small hok
  have hiw := law_idleWait hok
  have hrl : p.i.reverse.length = p.i.length := List.length_reverse
  refine NewS.mk (fun g1 => ?_)
  conv => whnf
  refine Ar.i (by omega) ?_
  conv => whnf
  refine LoopS.know (φ := 0 < p.i.length → ∃ ga, a.i = some ⟨ga, 0, none⟩) (fun w' hS h0 => St.some_ hS 0 rfl h0) (fun hA0 => ?_)
  refine LoopS.rows (okS w []) [(5, 6), (31, 42)] [5, 6] rfl (fun s : Nat × Option Addr × Nat => [.slice s.2.1 s.1 s.2.2, I64 ((p.i.length : Int) - 1 - s.1)]) (fun s => pRows p a ++ [rowOf 3 1 s.2.1 s.1 s.2.2 (i64s (p.i.reverse.take s.1))])
    (fun s => s.1 ≤ p.i.length ∧ s.1 ≤ s.2.2) (fun s => p.i.length - s.1) (0, some ⟨g1, 0, none⟩, 0) ⟨Nat.zero_le _, Nat.le_refl _⟩ ⟨rfl, congrArg (fun z => SV.v (Value.int .i64 z)) (by dsimp only; omega), trivial⟩ (LbTo.self rfl) (RsTo.norm (i := 3) (A := some ⟨g1, 0, none⟩) (n := 0) (c := 0) (xs := []) rfl) (fun s gg ⟨hk, hm⟩ => ?_)
  obtain ⟨k, A1, c1⟩ := s
  dsimp only at hk hm ⊢
  conv => whnf
  refine Sp.mk (fun h => ?_) (fun h => ?_) <;> conv => whnf
  · obtain ⟨x, hx⟩ : ∃ x, p.i.reverse[k]? = some x := ⟨_, List.getElem?_eq_getElem (by omega)⟩
    have hx2 : p.i[p.i.length - 1 - k]? = some x := by rw [← hx, List.getElem?_reverse (by omega)]
    obtain ⟨ga, hA⟩ := hA0 (by omega)
    refine IdxS.at_ (p.i.length - 1 - k) hA (by omega) (by omega) ?_
    conv => whnf
    refine LdS.at_ (v := .int .i64 x) (fun w' hS => ints_at (k := p.i.length - 1 - k) hS 0 rfl hA (by omega) hx2) ?_
    conv => whnf
    refine NewS.mk (fun g2 => ?_)
    conv => whnf
    refine SemS.appG (okS w []) (i := 3) rfl rfl (by decide) rfl (fun w' hS => St.row hS (e := 3) (xs := [.int .i64 x]) (List.mem_of_getElem? (i := 4) rfl)) (by simp [isOne]) (by simp only [maxLen]; omega) (by simp only; omega) (fun A2 c2 hc2 => ?_)
    conv => whnf
    refine Ar.i (by omega) ?_
    conv => whnf
    refine ⟨(k + 1, A2, c2), ⟨by dsimp only; omega, hc2⟩, by dsimp only; omega, ⟨rfl, congrArg (fun z => SV.v (Value.int .i64 z)) (by dsimp only; omega), trivial⟩, LbTo.self rfl, ?_⟩
    dsimp only
    rw [take_snoc hx, i64s_app1]
    exact RsTo.sub (List.Sublist.cons_cons _ (List.Sublist.cons_cons _ (List.Sublist.cons_cons _ (List.Sublist.cons_cons _ (List.nil_sublist _)))))
  · have hkn : k = p.i.length := by omega
    have htk : p.i.reverse.take k = p.i.reverse := List.take_of_length_le (by omega)
    rw [htk, hkn]
    have hok2 := ok_perm hok (List.reverse_perm p.i)
    refine ⟨rfl, CallS.pt hok2 (fun w' hS => vpE_any (p := ⟨p.m, p.i.reverse, p.h, p.w⟩) (a := ⟨A1, a.h, a.w, c1, a.ch, a.cw⟩) w' ⟨⟨by rw [hrl]; exact hS.rowR (c := c1) (e := 3) (List.mem_of_getElem? (i := 3) rfl), by rw [hrl]; omega⟩, St.holdsR hS 1 rfl hl.h, St.intsR hS 2 rfl hl.w⟩ hrl rfl rfl (by dsimp only; omega)) ?_⟩
    conv => whnf
    (repeat' (first | (refine Sp.mk (fun hs => ?_) (fun hs => ?_) <;> first | (exfalso; omega) | (conv => whnf)) | (refine Ar.i (by omega) ?_; conv => whnf) | (refine NewS.mk (fun _ => ?_); conv => whnf) | (refine QuoS.nn (by omega) ?_; conv => whnf) | (refine RemS.nn (by omega) ?_; conv => whnf) | refine RetS.mk (fun w' hS => ?_)))
    all_goals exact ⟨rfl, hS.below⟩
end Go.Proofs.Ytfjedjcdmaoeoaa
