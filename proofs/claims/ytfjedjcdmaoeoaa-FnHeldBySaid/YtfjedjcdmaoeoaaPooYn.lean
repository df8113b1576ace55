/- FnHeldBy; conditions: none. -/
import Derived.Test.YtfjedjcdmaoeoaaPooX
import Derived.Test.YtfjedjcdmaoeoaaPooW
set_option maxRecDepth 100000
set_option linter.unusedVariables false
set_option linter.unusedSimpArgs false
namespace Go.Proofs.Ytfjedjcdmaoeoaa
open Eng Go Go.RowKit

set_option maxHeartbeats 2000000 in
theorem lawHeld (w : World) {A : Option Addr} {n c : Nat} {bs : List Int} (hb : Bytes w A n bs) (hn : n ≤ c) :
    Calls Try.prog 5 #[.slice A n c] w fun e w' => e = .returned (.bool true) ∧ Below w.heap.size w w' := by
  refine enter (C := cxS w []) (okS w []) (St.start w) Try.func5 rfl rfl ?_; conv => whnf
  (repeat' (first | (refine Sp.mk (fun hs => ?_) (fun hs => ?_) <;> first | (exfalso; omega) | (conv => whnf)) | (refine Ar.i (by omega) ?_; conv => whnf) | (refine NewS.mk (fun _ => ?_); conv => whnf) | (refine QuoS.nn (by omega) ?_; conv => whnf) | (refine RemS.nn (by omega) ?_; conv => whnf) | (refine QuietS.mk (by as_aux_lemma => kernel_rfl) ?_; conv => whnf) | refine RetS.mk (fun w' hS => ?_)))
  · exact ⟨rfl, hS.below⟩
  refine ⟨rfl, CallS.own (fun w' hS => draw_spec_DrawHeldBy_any w' ⟨hS.arg hb.1, hb.2⟩ hn) (fun y hy => ?_)⟩
  obtain ⟨⟨p, a⟩, t⟩ := y
  obtain ⟨hle, hcp, ht⟩ := hy
  dsimp only at hle hcp ht ⊢
  have hl := hle.le
  conv => whnf
  refine NewS.mk (fun g0 => ?_)
  conv => whnf
  have hb0 := heldBy_len p.h t
  have hHB : (HeldBy p t).length ≤ 7 := by
    have := hle.h
    unfold HeldBy
    split
    · omega
    · simp
  refine ⟨rfl, CallS.own (fun w' hS => iHeldBy_any t w' (St.pool hS hl 0 1 2 rfl rfl rfl) hcp.1) (fun y1 hy1 => ?_)⟩
  conv => whnf
  refine ⟨rfl, CallS.own (fun w' hS => sHeldBy_any t w' (St.pool hS hl 0 1 2 rfl rfl rfl) hle.s) (fun y2 hy2 => ?_)⟩
  conv => whnf
  refine ⟨rfl, CallS.pt rfl (fun w' hS => laws_equalInts_any w' (St.intsR hS (l := HeldBy p t) 3 rfl (by omega)) (St.intsR hS (l := HeldBy p t) 4 rfl (by omega))) ?_⟩
  conv => whnf
  refine ⟨rfl, CallS.p (fun w' hS => impl_ValidPool_any w' (St.pool hS hl 0 1 2 rfl rfl rfl) hcp.1) (fun hok => ?_) (fun hok => ?_)⟩ <;> conv => whnf
  rotate_left
  · refine ⟨rfl, CallS.own (fun w' hS => sHeldBy_any t w' (St.pool hS hl 0 1 2 rfl rfl rfl) hle.s) (fun y3 hy3 => ?_)⟩
    conv => whnf
    refine ⟨rfl, CallS.pt rfl (fun w' hS => laws_equalInts_any w' (St.intsR hS (l := HeldBy p t) 3 rfl (by omega)) (St.intsR hS (l := HeldBy p t) 5 rfl (by omega))) ?_⟩
    conv => whnf
    (repeat' (first | (refine Sp.mk (fun hs => ?_) (fun hs => ?_) <;> first | (exfalso; omega) | (conv => whnf)) | (refine Ar.i (by omega) ?_; conv => whnf) | (refine NewS.mk (fun _ => ?_); conv => whnf) | (refine QuoS.nn (by omega) ?_; conv => whnf) | (refine RemS.nn (by omega) ?_; conv => whnf) | refine RetS.mk (fun w' hS => ?_)))
    exact ⟨rfl, hS.below⟩
  have hsm := ok_small hok
  refine LoopS.same (okS w []) [(2, 2), (6, 9), (37, 60)] [6, 7] rfl (fun k : Nat => [I64 (hsum p.h k), I64 k]) (fun k => k ≤ 5) (fun k => 5 - k) 0 (by omega) ⟨rfl, rfl, trivial⟩ (LbTo.self rfl) (fun k gg hk => ?_)
  conv => whnf
  refine Sp.mk (fun h => ?_) (fun h => ?_) <;> conv => whnf
  rotate_left
  · have hk5 : k = 5 := by omega
    have hsa := hsum_all hok.2.2.2.1
    subst hk5
    (repeat' (first | (refine Sp.mk (fun hs => ?_) (fun hs => ?_) <;> first | (exfalso; omega) | (conv => whnf)) | (refine Ar.i (by omega) ?_; conv => whnf) | (refine NewS.mk (fun _ => ?_); conv => whnf) | (refine QuoS.nn (by omega) ?_; conv => whnf) | (refine RemS.nn (by omega) ?_; conv => whnf) | refine RetS.mk (fun w' hS => ?_)))
    exact ⟨rfl, hS.below⟩
  have hb1 := heldBy_len p.h k
  have hs1 := hsum_le p.h k
  have hs2 : k * p.h.length ≤ 5 * p.h.length := Nat.mul_le_mul_right _ hk
  refine ⟨rfl, CallS.ownF (fun w' hS => iHeldS_any w' hok (St.pool hS hl 0 1 2 rfl rfl rfl) hcp.1) (fun y3 b3 w3 hy3 hF3 => ?_)⟩
  conv => whnf
  refine Ar.i (by omega) ?_
  conv => whnf
  refine LoopS.same (okS w []) [(2, 2), (9, 9), (48, 60)] [9] rfl (fun j : Nat => [I64 j]) (fun j => j ≤ (heldBy p.h k).length) (fun j => (heldBy p.h k).length - j) 0 (Nat.zero_le _) ⟨rfl, trivial⟩ (LbTo.self rfl) (fun j g3 hj => ?_)
  conv => whnf
  refine Sp.mk (fun h3 => ?_) (fun h3 => ?_) <;> conv => whnf
  · obtain ⟨ga, hA⟩ := row_some hF3 (by omega)
    obtain ⟨z, hz⟩ : ∃ z, (heldBy p.h k)[j]? = some z := ⟨_, List.getElem?_eq_getElem (by omega)⟩
    have hno : z ∉ p.i := fun hm => idle_held hok hm (held_sub (List.mem_of_getElem? hz))
    refine QuietS.mk (by as_aux_lemma => kernel_rfl) ?_
    conv => whnf
    refine IdxS.at_ j hA rfl (by omega) ?_
    conv => whnf
    refine LdS.at_ (v := .int .i64 z) (fun w' hS => ints_at (k := j) hS 5 rfl hA (by omega) hz) ?_
    conv => whnf
    refine ⟨rfl, CallQ.pf hno (fun w' hS => laws_isIn_any z w' (St.intsR hS (l := p.i) 0 rfl (by omega))) ?_⟩
    conv => whnf
    (repeat' (first | (refine Sp.mk (fun hs => ?_) (fun hs => ?_) <;> first | (exfalso; omega) | (conv => whnf)) | (refine Ar.i (by omega) ?_; conv => whnf) | (refine NewS.mk (fun _ => ?_); conv => whnf) | (refine QuoS.nn (by omega) ?_; conv => whnf) | (refine RemS.nn (by omega) ?_; conv => whnf) | refine RetS.mk (fun w' hS => ?_)))
    exact ⟨j + 1, by omega, by omega, ⟨rfl, trivial⟩, LbTo.self rfl, RsTo.refl _⟩
  · (repeat' (first | (refine Sp.mk (fun hs => ?_) (fun hs => ?_) <;> first | (exfalso; omega) | (conv => whnf)) | (refine Ar.i (by omega) ?_; conv => whnf) | (refine NewS.mk (fun _ => ?_); conv => whnf) | (refine QuoS.nn (by omega) ?_; conv => whnf) | (refine RemS.nn (by omega) ?_; conv => whnf) | refine RetS.mk (fun w' hS => ?_)))
    exact ⟨k + 1, by omega, by omega, ⟨congrArg (fun z => SV.v (Value.int .i64 z)) (by simp only [hsum]; omega), rfl, trivial⟩, LbTo.self rfl, RsTo.sub (List.sublist_append_left _ _)⟩
end Go.Proofs.Ytfjedjcdmaoeoaa
