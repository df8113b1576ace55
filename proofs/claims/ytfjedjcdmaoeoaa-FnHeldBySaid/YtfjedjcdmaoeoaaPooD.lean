/- The harness's functions on pools; conditions: none. -/
import Derived.Test.YtfjedjcdmaoeoaaPooC
import Derived.Test.YtfjedjcdmaoeoaaPooL
set_option maxRecDepth 100000
set_option linter.unusedVariables false
set_option linter.unusedSimpArgs false
namespace Go.Proofs.Ytfjedjcdmaoeoaa
open Eng Go Go.RowKit

theorem szHolds_any {A : Option Addr} {n c : Nat} (left : Int) (hl : 0 ≤ left ∧ left ≤ 1048576) (hn : n ≤ maxLen) (w : World) :
    Calls Try.prog 64 #[.slice A n c, .int .i64 left] w fun e w' => e = .returned (.int .i64 (if left - n < 0 then -1 else left - n)) ∧ Below w.heap.size w w' := by
  have hn' : n ≤ 9223372036854775807 := by simp only [maxLen] at hn; omega
  refine enter (C := cxS w []) (okS w []) (St.start w) Try.func64 rfl rfl ?_; conv => whnf
  (repeat' (first | (refine Sp.mk (fun hs => ?_) (fun hs => ?_) <;> first | (exfalso; omega) | (conv => whnf)) | (refine Ar.i (by omega) ?_; conv => whnf) | (refine NewS.mk (fun _ => ?_); conv => whnf) | (refine QuoS.nn (by omega) ?_; conv => whnf) | (refine RemS.nn (by omega) ?_; conv => whnf) | (refine QuietS.mk (by as_aux_lemma => kernel_rfl) ?_; conv => whnf) | refine RetS.mk (fun w' hS => ?_)))
  · exact ⟨by rw [if_pos (by assumption)], hS.below⟩
  · exact ⟨by rw [if_neg (by assumption)], hS.below⟩
theorem toHold_any (x : HoldD) (w : World) : Calls Try.prog 85 #[.agg (holdV x).toArray] w fun e w' => e = .returned (.agg (holdV x).toArray) ∧ Below w.heap.size w w' := by
  refine enter (C := cxS w []) (okS w []) (St.start w) Try.func85 rfl rfl ?_; conv => whnf
  (repeat' (first | (refine Sp.mk (fun hs => ?_) (fun hs => ?_) <;> first | (exfalso; omega) | (conv => whnf)) | (refine Ar.i (by omega) ?_; conv => whnf) | (refine NewS.mk (fun _ => ?_); conv => whnf) | (refine QuoS.nn (by omega) ?_; conv => whnf) | (refine RemS.nn (by omega) ?_; conv => whnf) | (refine QuietS.mk (by as_aux_lemma => kernel_rfl) ?_; conv => whnf) | refine RetS.mk (fun w' hS => ?_)))
  exact ⟨rfl, hS.below⟩
theorem toHolds_any {A : Option Addr} {n c : Nat} {l : List HoldD} (w : World) (hL : Holds w A n l) :
    Calls Try.prog 66 #[.slice A n c] w fun e w' => ∃ A' : Option Addr, True ∧ e = .returned (.slice A' n n) ∧ Below w.heap.size w w' ∧ Fresh w.heap.size [rowOf 41 2 A' n n (l.flatMap holdV)] w' := by
  have hl := hL.len
  have hle := hL.le
  refine enter (C := cxS w []) (okS w []) (St.start w) Try.func66 rfl rfl ?_; conv => whnf
  refine SemS.make (okS w []) rfl rfl n rfl rfl (by simp only; omega) (by simp only; omega) (by simp only [maxLen]; omega) (fun g0 zs hz => ?_)
  conv => whnf
  have hz' : zs.length = n * 2 := hz
  refine LoopS.rows (okS w []) [(4, 4), (8, 21)] [4] rfl (fun s : Nat × List Value => [I64 s.1]) (fun s => [⟨41, 2, .slice (some ⟨g0, 0, none⟩) n n, n, (l.take s.1).flatMap holdV ++ s.2⟩]) (fun s => s.1 ≤ n ∧ s.2.length = (n - s.1) * 2) (fun s => n - s.1) (0, zs) ⟨by omega, by simpa using hz'⟩ ⟨rfl, trivial⟩ (LbTo.refl_nil _) (by simpa using RsTo.refl _) (fun s g ⟨hk, hI⟩ => ?_)
  obtain ⟨k, tl⟩ := s
  dsimp only at hk hI ⊢
  conv => whnf
  refine Sp.mk (fun h => ?_) (fun h => ?_) <;> conv => whnf
  · obtain ⟨ad, x, rfl, hx, hm, hc⟩ := hL.at_ (k := k) (by omega)
    refine IdxS.at_ k rfl rfl (by omega) ?_
    conv => whnf
    refine LdsS.at_ (vs := holdV x) rfl (fun w' hS j u hu => hS.cell0 (hc j u hu)) ?_
    conv => whnf
    refine ⟨rfl, CallS.ro (fun w hS => toHold_any x w) ?_⟩
    conv => whnf
    refine IdxS.at_ k rfl rfl (by omega) ?_
    conv => whnf
    have hP : ((l.take k).flatMap holdV).length = k * 2 := flat_take_len holdV_len (by omega)
    have hput : putL ((l.take k).flatMap holdV ++ tl) (k * 2) (holdV x) = (l.take (k + 1)).flatMap holdV ++ tl.drop 2 := by
      have h1 := putL_mid (holdV x) (tl.take 2) ((l.take k).flatMap holdV) (tl.drop 2) (by rw [holdV_len, List.length_take]; omega)
      rw [List.take_append_drop, hP] at h1
      rw [h1, take_snoc hx]
      simp
    refine SemU.agg (okS w []) (i := 0) rfl rfl (k * 2) rfl (vs := holdV x) rfl (by rw [List.length_append, hP, holdV_len]; omega) (holdV_one x) ?_
    conv => whnf
    refine Ar.i (by omega) ?_
    conv => whnf
    refine ⟨(k + 1, tl.drop 2), ⟨by dsimp only; omega, by rw [List.length_drop]; dsimp only; omega⟩, by dsimp only; omega, ⟨rfl, trivial⟩, LbTo.refl_nil _, ?_⟩
    dsimp only [List.set]
    rw [hput]
    exact RsTo.refl _
  · have hkn : k = n := by omega
    have htl : tl = [] := List.eq_nil_of_length_eq_zero (by rw [hI]; omega)
    subst htl
    rw [hkn, ← hl, List.take_length, List.append_nil, hl]
    (repeat' (first | (refine Sp.mk (fun hs => ?_) (fun hs => ?_) <;> first | (exfalso; omega) | (conv => whnf)) | (refine Ar.i (by omega) ?_; conv => whnf) | (refine NewS.mk (fun _ => ?_); conv => whnf) | (refine QuoS.nn (by omega) ?_; conv => whnf) | (refine RemS.nn (by omega) ?_; conv => whnf) | (refine QuietS.mk (by as_aux_lemma => kernel_rfl) ?_; conv => whnf) | refine RetS.mk (fun w' hS => ?_)))
    exact ⟨_, trivial, rfl, hS.below, Fresh.norm (hS.fresh (List.Sublist.refl _))⟩
theorem eqHold_any (x : HoldD) (w : World) : Calls Try.prog 86 #[.agg (holdV x).toArray, .agg (holdV x).toArray] w fun e w' => e = .returned (.bool true) ∧ Below w.heap.size w w' := by
  refine enter (C := cxS w []) (okS w []) (St.start w) Try.func86 rfl rfl ?_; conv => whnf
  (repeat' (first | (refine Sp.mk (fun hs => ?_) (fun hs => ?_) <;> first | (exfalso; omega) | (conv => whnf)) | (refine Ar.i (by omega) ?_; conv => whnf) | (refine NewS.mk (fun _ => ?_); conv => whnf) | (refine QuoS.nn (by omega) ?_; conv => whnf) | (refine RemS.nn (by omega) ?_; conv => whnf) | (refine QuietS.mk (by as_aux_lemma => kernel_rfl) ?_; conv => whnf) | refine RetS.mk (fun w' hS => ?_)))
  exact ⟨rfl, hS.below⟩
theorem eqHolds_any {A B : Option Addr} {n c c' : Nat} {l : List HoldD} (w : World) (hA : Holds w A n l) (hB : Holds w B n l) :
    Calls Try.prog 68 #[.slice A n c, .slice B n c'] w fun e w' => e = .returned (.bool true) ∧ Below w.heap.size w w' := by
  have hl := hA.len
  have hle := hA.le
  refine enter (C := cxS w []) (okS w []) (St.start w) Try.func68 rfl rfl ?_; conv => whnf
  (repeat' (first | (refine Sp.mk (fun hs => ?_) (fun hs => ?_) <;> first | (exfalso; omega) | (conv => whnf)) | (refine Ar.i (by omega) ?_; conv => whnf) | (refine NewS.mk (fun _ => ?_); conv => whnf) | (refine QuoS.nn (by omega) ?_; conv => whnf) | (refine RemS.nn (by omega) ?_; conv => whnf) | (refine QuietS.mk (by as_aux_lemma => kernel_rfl) ?_; conv => whnf) | refine RetS.mk (fun w' hS => ?_)))
  refine LoopS.same (okS w []) [(4, 5), (11, 26)] [5] rfl (fun k : Nat => [I64 k]) (fun k => k ≤ n) (fun k => n - k) 0 (by omega) ⟨rfl, trivial⟩ (LbTo.refl_nil _) (fun k g hk => ?_)
  conv => whnf
  refine Sp.mk (fun h => ?_) (fun h => ?_) <;> conv => whnf
  · obtain ⟨ad, x, rfl, hx, hm, hc⟩ := hA.at_ (k := k) (by omega)
    obtain ⟨bd, y, rfl, hy, _, hd⟩ := hB.at_ (k := k) (by omega)
    obtain rfl : x = y := by rw [hx] at hy; exact Option.some.inj hy
    refine QuietS.mk (by as_aux_lemma => kernel_rfl) ?_
    conv => whnf
    refine IdxS.at_ k rfl rfl (by omega) ?_
    conv => whnf
    refine LdsS.at_ (vs := holdV x) rfl (fun w' hS j u hu => hS.cell0 (hc j u hu)) ?_
    conv => whnf
    refine IdxS.at_ k rfl rfl (by omega) ?_
    conv => whnf
    refine LdsS.at_ (vs := holdV x) rfl (fun w' hS j u hu => hS.cell0 (hd j u hu)) ?_
    conv => whnf
    refine ⟨rfl, CallQ.ro (fun w hS => eqHold_any x w) ?_⟩
    conv => whnf
    refine Ar.i (by omega) ?_
    conv => whnf
    exact ⟨k + 1, by omega, by omega, ⟨rfl, trivial⟩, LbTo.refl_nil _, RsTo.refl _⟩
  · (repeat' (first | (refine Sp.mk (fun hs => ?_) (fun hs => ?_) <;> first | (exfalso; omega) | (conv => whnf)) | (refine Ar.i (by omega) ?_; conv => whnf) | (refine NewS.mk (fun _ => ?_); conv => whnf) | (refine QuoS.nn (by omega) ?_; conv => whnf) | (refine RemS.nn (by omega) ?_; conv => whnf) | (refine QuietS.mk (by as_aux_lemma => kernel_rfl) ?_; conv => whnf) | refine RetS.mk (fun w' hS => ?_)))
    exact ⟨rfl, hS.below⟩


theorem szPool_any {p : PoolD} {a : PAd} (h1 : p.i.length ≤ maxLen) (h2 : p.h.length ≤ maxLen) (h3 : p.w.length ≤ maxLen) (w : World) :
    Calls Try.prog 38 #[.agg (poolV p a).toArray, .int .i64 1048576] w fun e w' => e = .returned (.int .i64 (if (1048576 : Int) - p.i.length - p.h.length - p.w.length < 0 then -1 else 1048576 - p.i.length - p.h.length - p.w.length)) ∧ Below w.heap.size w w' := by
  refine enter (C := cxS w []) (okS w []) (St.start w) Try.func38 rfl rfl ?_; conv => whnf
  refine NewS.mk (fun g0 => ?_)
  conv => whnf
  (first | refine ⟨rfl, CallS.ro (fun w' hS => laws_szIntS_any 1048576 (by omega) h1 w') ?_⟩ | refine ⟨rfl, CallQ.ro (fun w' hS => laws_szIntS_any 1048576 (by omega) h1 w') ?_⟩)
  by_cases b1 : (1048576 : Int) - p.i.length < 0
  · rw [if_pos b1, if_pos (by omega)]
    conv => whnf
    (repeat' (first | (refine Sp.mk (fun hs => ?_) (fun hs => ?_) <;> first | (exfalso; omega) | (conv => whnf)) | (refine Ar.i (by omega) ?_; conv => whnf) | (refine NewS.mk (fun _ => ?_); conv => whnf) | (refine QuoS.nn (by omega) ?_; conv => whnf) | (refine RemS.nn (by omega) ?_; conv => whnf) | (refine QuietS.mk (by as_aux_lemma => kernel_rfl) ?_; conv => whnf) | refine RetS.mk (fun w' hS => ?_)))
    exact ⟨rfl, hS.below⟩
  rw [if_neg b1]
  conv => whnf
  refine Sp.mk (fun h => absurd h b1) (fun _ => ?_)
  conv => whnf
  (first | refine ⟨rfl, CallS.ro (fun w' hS => szHolds_any (1048576 - p.i.length) (by omega) h2 w') ?_⟩ | refine ⟨rfl, CallQ.ro (fun w' hS => szHolds_any (1048576 - p.i.length) (by omega) h2 w') ?_⟩)
  by_cases b2 : (1048576 : Int) - p.i.length - p.h.length < 0
  · rw [if_pos b2, if_pos (by omega)]
    conv => whnf
    (repeat' (first | (refine Sp.mk (fun hs => ?_) (fun hs => ?_) <;> first | (exfalso; omega) | (conv => whnf)) | (refine Ar.i (by omega) ?_; conv => whnf) | (refine NewS.mk (fun _ => ?_); conv => whnf) | (refine QuoS.nn (by omega) ?_; conv => whnf) | (refine RemS.nn (by omega) ?_; conv => whnf) | (refine QuietS.mk (by as_aux_lemma => kernel_rfl) ?_; conv => whnf) | refine RetS.mk (fun w' hS => ?_)))
    exact ⟨rfl, hS.below⟩
  rw [if_neg b2]
  conv => whnf
  refine Sp.mk (fun h => absurd h b2) (fun _ => ?_)
  conv => whnf
  (first | refine ⟨rfl, CallS.ro (fun w' hS => laws_szIntS_any (1048576 - p.i.length - p.h.length) (by omega) h3 w') ?_⟩ | refine ⟨rfl, CallQ.ro (fun w' hS => laws_szIntS_any (1048576 - p.i.length - p.h.length) (by omega) h3 w') ?_⟩)
  by_cases b3 : (1048576 : Int) - p.i.length - p.h.length - p.w.length < 0
  · rw [if_pos b3]
    conv => whnf
    (repeat' (first | (refine Sp.mk (fun hs => ?_) (fun hs => ?_) <;> first | (exfalso; omega) | (conv => whnf)) | (refine Ar.i (by omega) ?_; conv => whnf) | (refine NewS.mk (fun _ => ?_); conv => whnf) | (refine QuoS.nn (by omega) ?_; conv => whnf) | (refine RemS.nn (by omega) ?_; conv => whnf) | (refine QuietS.mk (by as_aux_lemma => kernel_rfl) ?_; conv => whnf) | refine RetS.mk (fun w' hS => ?_)))
    exact ⟨rfl, hS.below⟩
  rw [if_neg b3]
  conv => whnf
  refine Sp.mk (fun h => absurd h b3) (fun _ => ?_)
  conv => whnf
  (repeat' (first | (refine Sp.mk (fun hs => ?_) (fun hs => ?_) <;> first | (exfalso; omega) | (conv => whnf)) | (refine Ar.i (by omega) ?_; conv => whnf) | (refine NewS.mk (fun _ => ?_); conv => whnf) | (refine QuoS.nn (by omega) ?_; conv => whnf) | (refine RemS.nn (by omega) ?_; conv => whnf) | (refine QuietS.mk (by as_aux_lemma => kernel_rfl) ?_; conv => whnf) | refine RetS.mk (fun w' hS => ?_)))
  exact ⟨rfl, hS.below⟩
theorem toPool_any {p : PoolD} {a : PAd} (w : World) (hP : PoolR w p a) :
    Calls Try.prog 39 #[.agg (poolV p a).toArray] w fun e w' => ∃ y : PAd, (y.ci = p.i.length ∧ y.ch = p.h.length ∧ y.cw = p.w.length) ∧ e = .returned (.agg (poolV p y).toArray) ∧ Below w.heap.size w w' ∧ Fresh w.heap.size (pRows p y) w' := by
  refine enter (C := cxS w []) (okS w []) (St.start w) Try.func39 rfl rfl ?_; conv => whnf
  (repeat' (first | (refine Sp.mk (fun hs => ?_) (fun hs => ?_) <;> first | (exfalso; omega) | (conv => whnf)) | (refine Ar.i (by omega) ?_; conv => whnf) | (refine NewS.mk (fun _ => ?_); conv => whnf) | (refine QuoS.nn (by omega) ?_; conv => whnf) | (refine RemS.nn (by omega) ?_; conv => whnf) | refine RetS.mk (fun w' hS => ?_)))
  refine ⟨rfl, CallS.own (fun w' hS => laws_toIntS_any w' (hP.i.below hS.below)) (fun A1 _ => ?_)⟩
  conv => whnf
  refine ⟨rfl, CallS.own (fun w' hS => toHolds_any w' (hP.h.below hS.below)) (fun A2 _ => ?_)⟩
  conv => whnf
  refine ⟨rfl, CallS.own (fun w' hS => laws_toIntS_any w' (hP.w.below hS.below)) (fun A3 _ => ?_)⟩
  conv => whnf
  (repeat' (first | (refine Sp.mk (fun hs => ?_) (fun hs => ?_) <;> first | (exfalso; omega) | (conv => whnf)) | (refine Ar.i (by omega) ?_; conv => whnf) | (refine NewS.mk (fun _ => ?_); conv => whnf) | (refine QuoS.nn (by omega) ?_; conv => whnf) | (refine RemS.nn (by omega) ?_; conv => whnf) | refine RetS.mk (fun w' hS => ?_)))
  exact ⟨⟨A1, A2, A3, p.i.length, p.h.length, p.w.length⟩, ⟨rfl, rfl, rfl⟩, rfl, hS.below, hS.fresh (List.Sublist.refl _)⟩
theorem eqPool_any {p : PoolD} {a b : PAd} (w : World) (hA : PoolR w p a) (hB : PoolR w p b) :
    Calls Try.prog 40 #[.agg (poolV p a).toArray, .agg (poolV p b).toArray] w fun e w' => e = .returned (.bool true) ∧ Below w.heap.size w w' := by
  refine enter (C := cxS w []) (okS w []) (St.start w) Try.func40 rfl rfl ?_; conv => whnf
  refine NewS.mk (fun g0 => ?_)
  conv => whnf
  refine NewS.mk (fun g1 => ?_)
  conv => whnf
  (repeat' (first | (refine Sp.mk (fun hs => ?_) (fun hs => ?_) <;> first | (exfalso; omega) | (conv => whnf)) | (refine Ar.i (by omega) ?_; conv => whnf) | (refine NewS.mk (fun _ => ?_); conv => whnf) | (refine QuoS.nn (by omega) ?_; conv => whnf) | (refine RemS.nn (by omega) ?_; conv => whnf) | (refine QuietS.mk (by as_aux_lemma => kernel_rfl) ?_; conv => whnf) | refine RetS.mk (fun w' hS => ?_)))
  (first | refine ⟨rfl, CallS.pt (rfl) (fun w' hS => laws_eqIntS_any w' (hA.i.below hS.below) (hB.i.below hS.below)) ?_⟩ | refine ⟨rfl, CallQ.pt (rfl) (fun w' hS => laws_eqIntS_any w' (hA.i.below hS.below) (hB.i.below hS.below)) ?_⟩)
  conv => whnf
  refine ⟨rfl, CallS.ro (fun w' hS => eqHolds_any w' (hA.h.below hS.below) (hB.h.below hS.below)) ?_⟩
  conv => whnf
  (first | refine ⟨rfl, CallS.pt (rfl) (fun w' hS => laws_eqIntS_any w' (hA.w.below hS.below) (hB.w.below hS.below)) ?_⟩ | refine ⟨rfl, CallQ.pt (rfl) (fun w' hS => laws_eqIntS_any w' (hA.w.below hS.below) (hB.w.below hS.below)) ?_⟩)
  conv => whnf
  (repeat' (first | (refine Sp.mk (fun hs => ?_) (fun hs => ?_) <;> first | (exfalso; omega) | (conv => whnf)) | (refine Ar.i (by omega) ?_; conv => whnf) | (refine NewS.mk (fun _ => ?_); conv => whnf) | (refine QuoS.nn (by omega) ?_; conv => whnf) | (refine RemS.nn (by omega) ?_; conv => whnf) | (refine QuietS.mk (by as_aux_lemma => kernel_rfl) ?_; conv => whnf) | refine RetS.mk (fun w' hS => ?_)))
  exact ⟨rfl, hS.below⟩
theorem call_toPool {w0 : World} {lb : List Box} {rs : List Own} {p : PoolD} {a : PAd} {K : SV → List Box → List Own → Prop} (hP : PoolR w0 p a)
    (kk : ∀ y : PAd, y.ci = p.i.length ∧ y.ch = p.h.length ∧ y.cw = p.w.length → K (.v (.agg (poolV p y).toArray)) lb (rs ++ pRows p y)) :
    memN (cxS w0 []).F 39 = true ∧ CallS (cxS w0 []) lb rs 39 #[.agg (poolV p a).toArray] K :=
  ⟨rfl, CallS.own (α := PAd) (r := fun y => .agg (poolV p y).toArray) (φ := fun y => y.ci = p.i.length ∧ y.ch = p.h.length ∧ y.cw = p.w.length) (os := fun y => pRows p y) (fun w hS => toPool_any w (hP.below hS.below)) (fun y hy => kk y hy)⟩
end Go.Proofs.Ytfjedjcdmaoeoaa
