/- The harness's functions on leases, and the first exact laws; conditions: none. -/
import Derived.Test.YtgfblbpiokiagaaLeaB
import Derived.Test.YtgfblbpiokiagaaLeaL
set_option maxRecDepth 100000
set_option linter.unusedVariables false
set_option linter.unusedSimpArgs false
namespace Go.Proofs.Ytgfblbpiokiagaa
open Eng Go Go.RowKit

theorem sz_any {A : Option Addr} {n c : Nat} (left : Int) (hl : 0 ≤ left ∧ left ≤ 1048576) (hn : n ≤ maxLen) (w : World) :
    Calls Try.prog 22 #[.slice A n c, .int .i64 left] w fun e w' => e = .returned (.int .i64 (if left - n < 0 then -1 else left - n)) ∧ Below w.heap.size w w' := by
  have hn' : n ≤ 9223372036854775807 := by simp only [maxLen] at hn; omega
  refine enter (C := cxS w []) (okS w []) (St.start w) Try.func22 rfl rfl ?_; conv => whnf
  (repeat' (first | (refine Sp.mk (fun hs => ?_) (fun hs => ?_) <;> first | (exfalso; omega) | (conv => whnf)) | (refine Ar.i (by omega) ?_; conv => whnf) | (refine NewS.mk (fun _ => ?_); conv => whnf) | (refine QuoS.nn (by omega) ?_; conv => whnf) | (refine RemS.nn (by omega) ?_; conv => whnf) | (refine QuietS.mk (by as_aux_lemma => kernel_rfl) ?_; conv => whnf) | refine RetS.mk (fun w' hS => ?_)))
  · exact ⟨by rw [if_pos (by assumption)], hS.below⟩
  · exact ⟨by rw [if_neg (by assumption)], hS.below⟩
theorem toLease_any (x : LeaseD) (w : World) : Calls Try.prog 43 #[.agg (leaseV x).toArray] w fun e w' => e = .returned (.agg (leaseV x).toArray) ∧ Below w.heap.size w w' := by
  refine enter (C := cxS w []) (okS w []) (St.start w) Try.func43 rfl rfl ?_; conv => whnf
  (repeat' (first | (refine Sp.mk (fun hs => ?_) (fun hs => ?_) <;> first | (exfalso; omega) | (conv => whnf)) | (refine Ar.i (by omega) ?_; conv => whnf) | (refine NewS.mk (fun _ => ?_); conv => whnf) | (refine QuoS.nn (by omega) ?_; conv => whnf) | (refine RemS.nn (by omega) ?_; conv => whnf) | (refine QuietS.mk (by as_aux_lemma => kernel_rfl) ?_; conv => whnf) | refine RetS.mk (fun w' hS => ?_)))
  exact ⟨rfl, hS.below⟩
theorem toLeases_any {A : Option Addr} {n c : Nat} {l : List LeaseD} (w : World) (hL : Leases w A n l) :
    Calls Try.prog 24 #[.slice A n c] w fun e w' => ∃ A' : Option Addr, True ∧ e = .returned (.slice A' n n) ∧ Below w.heap.size w w' ∧ Fresh w.heap.size [rowOf 32 4 A' n n (l.flatMap leaseV)] w' := by
  have hl := hL.len
  have hle := hL.le
  refine enter (C := cxS w []) (okS w []) (St.start w) Try.func24 rfl rfl ?_; conv => whnf
  refine SemS.make (okS w []) rfl rfl n rfl rfl (by simp only; omega) (by simp only; omega) (by simp only [maxLen]; omega) (fun g0 zs hz => ?_)
  conv => whnf
  have hz' : zs.length = n * 4 := hz
  refine LoopS.rows (okS w []) [(4, 4), (8, 21)] [4] rfl (fun s : Nat × List Value => [I64 s.1]) (fun s => [⟨32, 4, .slice (some ⟨g0, 0, none⟩) n n, n, (l.take s.1).flatMap leaseV ++ s.2⟩]) (fun s => s.1 ≤ n ∧ s.2.length = (n - s.1) * 4) (fun s => n - s.1) (0, zs) ⟨by omega, by simpa using hz'⟩ ⟨rfl, trivial⟩ (LbTo.refl_nil _) (by simpa using RsTo.refl _) (fun s g ⟨hk, hI⟩ => ?_)
  obtain ⟨k, tl⟩ := s
  dsimp only at hk hI ⊢
  conv => whnf
  refine Sp.mk (fun h => ?_) (fun h => ?_) <;> conv => whnf
  · obtain ⟨ad, x, rfl, hx, hm, hc⟩ := hL.at_ (k := k) (by omega)
    refine IdxS.at_ k rfl rfl (by omega) ?_
    conv => whnf
    refine LdsS.at_ (vs := leaseV x) rfl (fun w' hS j u hu => hS.cell0 (hc j u hu)) ?_
    conv => whnf
    refine ⟨rfl, CallS.ro (fun w hS => toLease_any x w) ?_⟩
    conv => whnf
    refine IdxS.at_ k rfl rfl (by omega) ?_
    conv => whnf
    have hP : ((l.take k).flatMap leaseV).length = k * 4 := flat_take_len leaseV_len (by omega)
    have hput : putL ((l.take k).flatMap leaseV ++ tl) (k * 4) (leaseV x) = (l.take (k + 1)).flatMap leaseV ++ tl.drop 4 := by
      have h1 := putL_mid (leaseV x) (tl.take 4) ((l.take k).flatMap leaseV) (tl.drop 4) (by rw [leaseV_len, List.length_take]; omega)
      rw [List.take_append_drop, hP] at h1
      rw [h1, take_snoc hx]
      simp
    refine SemU.agg (okS w []) (i := 0) rfl rfl (k * 4) rfl (vs := leaseV x) rfl (by rw [List.length_append, hP, leaseV_len]; omega) (leaseV_one x) ?_
    conv => whnf
    refine Ar.i (by omega) ?_
    conv => whnf
    refine ⟨(k + 1, tl.drop 4), ⟨by dsimp only; omega, by rw [List.length_drop]; dsimp only; omega⟩, by dsimp only; omega, ⟨rfl, trivial⟩, LbTo.refl_nil _, ?_⟩
    dsimp only [List.set]
    rw [hput]
    exact RsTo.refl _
  · have hkn : k = n := by omega
    have htl : tl = [] := List.eq_nil_of_length_eq_zero (by rw [hI]; omega)
    subst htl
    rw [hkn, ← hl, List.take_length, List.append_nil, hl]
    (repeat' (first | (refine Sp.mk (fun hs => ?_) (fun hs => ?_) <;> first | (exfalso; omega) | (conv => whnf)) | (refine Ar.i (by omega) ?_; conv => whnf) | (refine NewS.mk (fun _ => ?_); conv => whnf) | (refine QuoS.nn (by omega) ?_; conv => whnf) | (refine RemS.nn (by omega) ?_; conv => whnf) | (refine QuietS.mk (by as_aux_lemma => kernel_rfl) ?_; conv => whnf) | refine RetS.mk (fun w' hS => ?_)))
    exact ⟨_, trivial, rfl, hS.below, Fresh.norm (hS.fresh (List.Sublist.refl _))⟩
theorem eqLease_any (x : LeaseD) (w : World) : Calls Try.prog 59 #[.agg (leaseV x).toArray, .agg (leaseV x).toArray] w fun e w' => e = .returned (.bool true) ∧ Below w.heap.size w w' := by
  refine enter (C := cxS w []) (okS w []) (St.start w) Try.func59 rfl rfl ?_; conv => whnf
  (repeat' (first | (refine Sp.mk (fun hs => ?_) (fun hs => ?_) <;> first | (exfalso; omega) | (conv => whnf)) | (refine Ar.i (by omega) ?_; conv => whnf) | (refine NewS.mk (fun _ => ?_); conv => whnf) | (refine QuoS.nn (by omega) ?_; conv => whnf) | (refine RemS.nn (by omega) ?_; conv => whnf) | (refine QuietS.mk (by as_aux_lemma => kernel_rfl) ?_; conv => whnf) | refine RetS.mk (fun w' hS => ?_)))
  exact ⟨rfl, hS.below⟩
theorem eqLeases_any {A B : Option Addr} {n c c' : Nat} {l : List LeaseD} (w : World) (hA : Leases w A n l) (hB : Leases w B n l) :
    Calls Try.prog 26 #[.slice A n c, .slice B n c'] w fun e w' => e = .returned (.bool true) ∧ Below w.heap.size w w' := by
  have hl := hA.len
  have hle := hA.le
  refine enter (C := cxS w []) (okS w []) (St.start w) Try.func26 rfl rfl ?_; conv => whnf
  (repeat' (first | (refine Sp.mk (fun hs => ?_) (fun hs => ?_) <;> first | (exfalso; omega) | (conv => whnf)) | (refine Ar.i (by omega) ?_; conv => whnf) | (refine NewS.mk (fun _ => ?_); conv => whnf) | (refine QuoS.nn (by omega) ?_; conv => whnf) | (refine RemS.nn (by omega) ?_; conv => whnf) | (refine QuietS.mk (by as_aux_lemma => kernel_rfl) ?_; conv => whnf) | refine RetS.mk (fun w' hS => ?_)))
  refine LoopS.same (okS w []) [(4, 5), (11, 26)] [5] rfl (fun k : Nat => [I64 k]) (fun k => k ≤ n) (fun k => n - k) 0 (by omega) ⟨rfl, trivial⟩ (LbTo.refl_nil _) (fun k g hk => ?_)
  conv => whnf
  refine Sp.mk (fun h => ?_) (fun h => ?_) <;> conv => whnf
  · obtain ⟨ad, x, rfl, hx, hm, hc⟩ := hA.at_ (k := k) (by omega)
    obtain ⟨bd, y, rfl, hy, _, hd⟩ := hB.at_ (k := k) (by omega)
    obtain rfl : x = y := by rw [hx] at hy; exact Option.some.inj hy
    refine QuietS.mk (by as_aux_lemma => kernel_rfl) ?_
    conv => whnf
    refine IdxS.at_ k rfl rfl (by omega) ?_
    conv => whnf
    refine LdsS.at_ (vs := leaseV x) rfl (fun w' hS j u hu => hS.cell0 (hc j u hu)) ?_
    conv => whnf
    refine IdxS.at_ k rfl rfl (by omega) ?_
    conv => whnf
    refine LdsS.at_ (vs := leaseV x) rfl (fun w' hS j u hu => hS.cell0 (hd j u hu)) ?_
    conv => whnf
    refine ⟨rfl, CallQ.ro (fun w hS => eqLease_any x w) ?_⟩
    conv => whnf
    refine Ar.i (by omega) ?_
    conv => whnf
    exact ⟨k + 1, by omega, by omega, ⟨rfl, trivial⟩, LbTo.refl_nil _, RsTo.refl _⟩
  · (repeat' (first | (refine Sp.mk (fun hs => ?_) (fun hs => ?_) <;> first | (exfalso; omega) | (conv => whnf)) | (refine Ar.i (by omega) ?_; conv => whnf) | (refine NewS.mk (fun _ => ?_); conv => whnf) | (refine QuoS.nn (by omega) ?_; conv => whnf) | (refine RemS.nn (by omega) ?_; conv => whnf) | (refine QuietS.mk (by as_aux_lemma => kernel_rfl) ?_; conv => whnf) | refine RetS.mk (fun w' hS => ?_)))
    exact ⟨rfl, hS.below⟩

/-- toLeaseS, as a call. -/
theorem call_to {w0 : World} {lb : List Box} {rs : List Own} {A : Option Addr} {n c : Nat} {l : List LeaseD} {K : SV → List Box → List Own → Prop} (hL : Leases w0 A n l)
    (kk : ∀ A', K (.v (.slice A' n n)) lb (rs ++ [rowOf 32 4 A' n n (l.flatMap leaseV)])) :
    memN (cxS w0 []).F 24 = true ∧ CallS (cxS w0 []) lb rs 24 #[.slice A n c] K :=
  ⟨rfl, CallS.own (α := Option Addr) (r := fun A' => .slice A' n n) (φ := fun _ => True) (os := fun A' => [rowOf 32 4 A' n n (l.flatMap leaseV)]) (fun w hS => toLeases_any w ⟨hS.arg hL.rd, hL.le⟩) (fun A' _ => kk A')⟩
theorem St.leases {w0 w : World} {S0 : List Nat} {lb : List Box} {rs : List Own} {A : Option Addr} {n c : Nat} {l : List LeaseD} (hS : Eng.St w0 S0 lb rs w) (i : Nat) (hi : rs[i]? = some (rowOf 32 4 A n c (l.flatMap leaseV))) (hn : n ≤ 2000000) : Leases w A n l := ⟨hS.rowR (List.mem_of_getElem? hi), hn⟩

theorem exactValid_any (w : World) {A : Option Addr} {n c : Nat} {l : List LeaseD} (hr : Reads w 4 A n (l.flatMap leaseV)) (hm : n ≤ maxLen) :
    Calls Try.prog 3 #[.slice A n c] w fun e w' => e = .returned (.bool true) ∧ Below w.heap.size w w' := by
  refine enter (C := cxS w []) (okS w []) (St.start w) Try.func3 rfl rfl ?_; conv => whnf
  refine ⟨rfl, CallS.ro (fun w hS => sz_any 1048576 (by omega) hm w) ?_⟩
  by_cases hb : (1048576 : Int) - n < 0
  · rw [if_pos hb]
    conv => whnf
    (repeat' (first | (refine Sp.mk (fun hs => ?_) (fun hs => ?_) <;> first | (exfalso; omega) | (conv => whnf)) | (refine Ar.i (by omega) ?_; conv => whnf) | (refine NewS.mk (fun _ => ?_); conv => whnf) | (refine QuoS.nn (by omega) ?_; conv => whnf) | (refine RemS.nn (by omega) ?_; conv => whnf) | (refine QuietS.mk (by as_aux_lemma => kernel_rfl) ?_; conv => whnf) | refine RetS.mk (fun w' hS => ?_)))
    exact ⟨rfl, hS.below⟩
  rw [if_neg hb]
  have hn : n ≤ 1048576 := by omega
  have hL : Leases w A n l := ⟨hr, by omega⟩
  conv => whnf
  (repeat' (first | (refine Sp.mk (fun hs => ?_) (fun hs => ?_) <;> first | (exfalso; omega) | (conv => whnf)) | (refine Ar.i (by omega) ?_; conv => whnf) | (refine NewS.mk (fun _ => ?_); conv => whnf) | (refine QuoS.nn (by omega) ?_; conv => whnf) | (refine RemS.nn (by omega) ?_; conv => whnf) | (refine QuietS.mk (by as_aux_lemma => kernel_rfl) ?_; conv => whnf) | refine RetS.mk (fun w' hS => ?_)))
  refine call_to hL (fun A1 => ?_)
  conv => whnf
  refine ⟨rfl, CallS.ro (fun w hS => sValid_any w (St.leases hS 0 rfl (by omega))) ?_⟩
  conv => whnf
  refine call_to hL (fun A2 => ?_)
  conv => whnf
  refine ⟨rfl, CallS.ro (fun w hS => iValid_any w (St.leases hS 1 rfl (by omega)) (Nat.le_refl _)) ?_⟩
  conv => whnf
  generalize decide (Valid l) = b
  cases b
  all_goals
    conv => whnf
    refine call_to hL (fun A3 => ?_)
    conv => whnf
    refine ⟨rfl, CallS.ro (fun w hS => eqLeases_any w (St.leases hS 1 rfl (by omega)) (St.leases hS 2 rfl (by omega))) ?_⟩
    conv => whnf
    (repeat' (first | (refine Sp.mk (fun hs => ?_) (fun hs => ?_) <;> first | (exfalso; omega) | (conv => whnf)) | (refine Ar.i (by omega) ?_; conv => whnf) | (refine NewS.mk (fun _ => ?_); conv => whnf) | (refine QuoS.nn (by omega) ?_; conv => whnf) | (refine RemS.nn (by omega) ?_; conv => whnf) | (refine QuietS.mk (by as_aux_lemma => kernel_rfl) ?_; conv => whnf) | refine RetS.mk (fun w' hS => ?_)))
    exact ⟨rfl, hS.below⟩
end Go.Proofs.Ytgfblbpiokiagaa
