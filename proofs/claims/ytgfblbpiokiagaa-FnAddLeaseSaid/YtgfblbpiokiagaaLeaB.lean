/- What ValidLeases of both packages compute; conditions: none. -/
import Derived.Test.YtgfblbpiokiagaaLeaA
set_option maxRecDepth 100000
set_option linter.unusedVariables false
set_option linter.unusedSimpArgs false
namespace Go.Proofs.Ytgfblbpiokiagaa
open Eng Go Go.RowKit

theorem box_reads {w0 w : World} {S0 : List Nat} {lb : List Box} {rs : List Own} (hst : Eng.St w0 S0 lb rs w) (i : Nat) {b : Box} (hb : lb[i]? = some b) (vs : List Value) (hv : b.cells = vs.map .v) :
    ∀ j u, vs[j]? = some u → w.cell? ((⟨b.blk, 0, none⟩ : Addr).add j) = some u := by
  intro j u hu
  have h1 := (hst.box i b hb).1
  rw [add_none, Nat.zero_add]
  simp [World.cell?, h1, hv, hu, conc]
theorem cell_below {w w' : World} {a : Addr} {u : Value} (hb : Below w.heap.size w w') (h : w.cell? a = some u) : w'.cell? a = some u := (Pres.of_below hb []).cell h (by simp)

theorem clash1_any (x y : LeaseD) (ad : Addr) (w : World) (hx : ∀ j u, (leaseV x)[j]? = some u → w.cell? (ad.add j) = some u) :
    Calls Try.prog 57 #[.agg (leaseV y).toArray, .pointer (some ad)] w fun e w' => e = .returned (.bool (decide (clash y x))) ∧ Below w.heap.size w w' := by
  refine enter (C := cxS w []) (okS w []) (St.start w) Try.func57 rfl rfl ?_; conv => whnf
  (repeat' (first | (refine LdS.at_ (fun w2 hS => hS.cell0 (hx 0 _ rfl)) ?_; conv => whnf) | (refine LdS.at_ (fun w2 hS => hS.cell0 (hx 1 _ rfl)) ?_; conv => whnf) | (refine LdS.at_ (fun w2 hS => hS.cell0 (hx 2 _ rfl)) ?_; conv => whnf) | (refine LdS.at_ (fun w2 hS => hS.cell0 (hx 3 _ rfl)) ?_; conv => whnf) | (refine Sp.mk (fun hs => ?_) (fun hs => ?_) <;> first | (exfalso; omega) | (conv => whnf)) | (refine Ar.i (by omega) ?_; conv => whnf) | (refine NewS.mk (fun _ => ?_); conv => whnf) | (refine QuoS.nn (by omega) ?_; conv => whnf) | (refine RemS.nn (by omega) ?_; conv => whnf) | (refine QuietS.mk (by as_aux_lemma => kernel_rfl) ?_; conv => whnf) | refine RetS.mk (fun w' hS => ?_)))
  · refine ⟨rfl, CallS.ro (fun w hS => meets_any _ _ _ w) ?_⟩
    conv => whnf
    (repeat' (first | (refine Sp.mk (fun hs => ?_) (fun hs => ?_) <;> first | (exfalso; omega) | (conv => whnf)) | (refine Ar.i (by omega) ?_; conv => whnf) | (refine NewS.mk (fun _ => ?_); conv => whnf) | (refine QuoS.nn (by omega) ?_; conv => whnf) | (refine RemS.nn (by omega) ?_; conv => whnf) | (refine QuietS.mk (by as_aux_lemma => kernel_rfl) ?_; conv => whnf) | refine RetS.mk (fun w' hS => ?_)))
    exact ⟨by congr 2; unfold clash; simp [*], hS.below⟩
  · exact ⟨by congr 2; unfold clash; simp [*], hS.below⟩

theorem iValid_any {A : Option Addr} {n c : Nat} {l : List LeaseD} (w : World) (hL : Leases w A n l) (hn : n ≤ c) :
    Calls Try.prog 25 #[.slice A n c] w fun e w' => e = .returned (.bool (decide (Valid l))) ∧ Below w.heap.size w w' := by
  have hl := hL.len
  have hle := hL.le
  refine enter (C := cxS w []) (okS w []) (St.start w) Try.func25 rfl rfl ?_; conv => whnf
  refine LoopS.same (okS w []) [(2, 4), (7, 44)] [7] rfl (fun k : Nat => [I64 k]) (fun k => k ≤ n ∧ Good (l.take k)) (fun k => n - k) 0 ⟨by omega, by rw [List.take_zero]; exact Good.nil⟩ ⟨rfl, trivial⟩ (LbTo.refl_nil _) (fun k g ⟨hk, hI⟩ => ?_)
  conv => whnf
  refine Sp.mk (fun h => ?_) (fun h => ?_) <;> conv => whnf
  · obtain ⟨ad, x, rfl, hx, hm, hc⟩ := hL.at_ (k := k) (by omega)
    refine IdxS.at_ k rfl rfl (by omega) ?_
    conv => whnf
    refine LdsS.at_ (vs := leaseV x) rfl (fun w' hS j u hu => hS.cell0 (hc j u hu)) ?_
    conv => whnf
    (repeat' (first | (refine Sp.mk (fun hs => ?_) (fun hs => ?_) <;> first | (exfalso; omega) | (conv => whnf)) | (refine Ar.i (by omega) ?_; conv => whnf) | (refine NewS.mk (fun _ => ?_); conv => whnf) | (refine QuoS.nn (by omega) ?_; conv => whnf) | (refine RemS.nn (by omega) ?_; conv => whnf) | (refine QuietS.mk (by as_aux_lemma => kernel_rfl) ?_; conv => whnf) | refine RetS.mk (fun w' hS => ?_)))
    refine ⟨rfl, CallS.p (fun w hS => isConn_any _ w) (fun h1 => ?_) (fun h1 => ?_)⟩ <;> conv => whnf
    rotate_left
    · (repeat' (first | (refine Sp.mk (fun hs => ?_) (fun hs => ?_) <;> first | (exfalso; omega) | (conv => whnf)) | (refine Ar.i (by omega) ?_; conv => whnf) | (refine NewS.mk (fun _ => ?_); conv => whnf) | (refine QuoS.nn (by omega) ?_; conv => whnf) | (refine RemS.nn (by omega) ?_; conv => whnf) | (refine QuietS.mk (by as_aux_lemma => kernel_rfl) ?_; conv => whnf) | refine RetS.mk (fun w' hS => ?_)))
      exact ⟨by rw [decide_eq_false (not_good_at hx (fun h => h1 h.1.1))], hS.below⟩
    refine ⟨rfl, CallS.p (fun w hS => isOwner_any _ w) (fun h2 => ?_) (fun h2 => ?_)⟩ <;> conv => whnf
    rotate_left
    · (repeat' (first | (refine Sp.mk (fun hs => ?_) (fun hs => ?_) <;> first | (exfalso; omega) | (conv => whnf)) | (refine Ar.i (by omega) ?_; conv => whnf) | (refine NewS.mk (fun _ => ?_); conv => whnf) | (refine QuoS.nn (by omega) ?_; conv => whnf) | (refine RemS.nn (by omega) ?_; conv => whnf) | (refine QuietS.mk (by as_aux_lemma => kernel_rfl) ?_; conv => whnf) | refine RetS.mk (fun w' hS => ?_)))
      exact ⟨by rw [decide_eq_false (not_good_at hx (fun h => h2 h.1.2.1))], hS.below⟩
    refine ⟨rfl, CallS.p (fun w hS => in_any _ _ _ w) (fun h3 => ?_) (fun h3 => ?_)⟩ <;> conv => whnf
    rotate_left
    · (repeat' (first | (refine Sp.mk (fun hs => ?_) (fun hs => ?_) <;> first | (exfalso; omega) | (conv => whnf)) | (refine Ar.i (by omega) ?_; conv => whnf) | (refine NewS.mk (fun _ => ?_); conv => whnf) | (refine QuoS.nn (by omega) ?_; conv => whnf) | (refine RemS.nn (by omega) ?_; conv => whnf) | (refine QuietS.mk (by as_aux_lemma => kernel_rfl) ?_; conv => whnf) | refine RetS.mk (fun w' hS => ?_)))
      exact ⟨by rw [decide_eq_false (not_good_at hx (fun h => h3 h.1.2.2.1))], hS.below⟩
    (repeat' (first | (refine Sp.mk (fun hs => ?_) (fun hs => ?_) <;> first | (exfalso; omega) | (conv => whnf)) | (refine Ar.i (by omega) ?_; conv => whnf) | (refine NewS.mk (fun _ => ?_); conv => whnf) | (refine QuoS.nn (by omega) ?_; conv => whnf) | (refine RemS.nn (by omega) ?_; conv => whnf) | (refine QuietS.mk (by as_aux_lemma => kernel_rfl) ?_; conv => whnf) | refine RetS.mk (fun w' hS => ?_)))
    refine ⟨rfl, CallS.p (fun w hS => in_any _ _ _ w) (fun h4 => ?_) (fun h4 => ?_)⟩ <;> conv => whnf
    rotate_left
    · (repeat' (first | (refine Sp.mk (fun hs => ?_) (fun hs => ?_) <;> first | (exfalso; omega) | (conv => whnf)) | (refine Ar.i (by omega) ?_; conv => whnf) | (refine NewS.mk (fun _ => ?_); conv => whnf) | (refine QuoS.nn (by omega) ?_; conv => whnf) | (refine RemS.nn (by omega) ?_; conv => whnf) | (refine QuietS.mk (by as_aux_lemma => kernel_rfl) ?_; conv => whnf) | refine RetS.mk (fun w' hS => ?_)))
      exact ⟨by rw [decide_eq_false (not_good_at hx (fun h => h4 h.1.2.2.2))], hS.below⟩
    refine SlcS.hi k rfl (by omega) ?_
    conv => whnf
    refine ⟨rfl, CallS.b (fun w' hS => containsFunc_any w' ((hL.take hk).below hS.below) (q := fun y => decide (clash y x)) ⟨rfl, fun w2 h2 y hy => clash1_any x y _ w2 (fun j u hu => cell_below h2 (box_reads hS 0 rfl (leaseV x) rfl j u hu))⟩) (fun hb => ?_) (fun hb => ?_)⟩ <;> conv => whnf
    · (repeat' (first | (refine Sp.mk (fun hs => ?_) (fun hs => ?_) <;> first | (exfalso; omega) | (conv => whnf)) | (refine Ar.i (by omega) ?_; conv => whnf) | (refine NewS.mk (fun _ => ?_); conv => whnf) | (refine QuoS.nn (by omega) ?_; conv => whnf) | (refine RemS.nn (by omega) ?_; conv => whnf) | (refine QuietS.mk (by as_aux_lemma => kernel_rfl) ?_; conv => whnf) | refine RetS.mk (fun w' hS => ?_)))
      exact ⟨by
        rw [decide_eq_false (not_good_at hx (fun h => ?_))]
        obtain ⟨y, hy, hc⟩ := List.any_eq_true.1 hb
        exact h.2 y hy (of_decide_eq_true hc), hS.below⟩
    · refine Ar.i (by omega) ?_
      conv => whnf
      refine ⟨k + 1, ⟨by omega, (good_take_succ hx).2 ⟨hI, ⟨h1, h2, h3, h4⟩, fun y hy hcl => ?_⟩⟩, by omega, ⟨rfl, trivial⟩, LbTo.refl_nil _, RsTo.refl _⟩
      have := List.any_eq_false.1 hb y hy
      simp [hcl] at this
  · have hkn : k = n := by omega
    rw [hkn, ← hl, List.take_length] at hI
    (repeat' (first | (refine Sp.mk (fun hs => ?_) (fun hs => ?_) <;> first | (exfalso; omega) | (conv => whnf)) | (refine Ar.i (by omega) ?_; conv => whnf) | (refine NewS.mk (fun _ => ?_); conv => whnf) | (refine QuoS.nn (by omega) ?_; conv => whnf) | (refine RemS.nn (by omega) ?_; conv => whnf) | (refine QuietS.mk (by as_aux_lemma => kernel_rfl) ?_; conv => whnf) | refine RetS.mk (fun w' hS => ?_)))
    · exact ⟨by rw [decide_eq_true]; exact ⟨hI, by omega⟩, hS.below⟩
    · exact ⟨by rw [decide_eq_false]; exact fun h => by have := h.2; omega, hS.below⟩

theorem svalid_any {A : Option Addr} {n c : Nat} {l : List LeaseD} (w : World) (hL : Leases w A n l) :
    Calls Try.prog 52 #[.slice A n c] w fun e w' => e = .returned (.bool (decide (Valid l))) ∧ Below w.heap.size w w' := by
  have hl := hL.len
  have hle := hL.le
  refine enter (C := cxS w []) (okS w []) (St.start w) Try.func52 rfl rfl ?_; conv => whnf
  refine LoopS.same (okS w []) [(2, 43)] [3] rfl (fun k : Nat => [I64 k]) (fun k => k ≤ n ∧ Good (l.take k)) (fun k => n - k) 0 ⟨by omega, by rw [List.take_zero]; exact Good.nil⟩ ⟨rfl, trivial⟩ (LbTo.refl_nil _) (fun k g ⟨hk, hI⟩ => ?_)
  conv => whnf
  refine Sp.mk (fun h => ?_) (fun h => ?_) <;> conv => whnf
  · obtain ⟨ad, x, rfl, hx, hm, hc⟩ := hL.at_ (k := k) (by omega)
    refine IdxS.at_ k rfl rfl (by omega) ?_
    conv => whnf
    refine LdsS.at_ (vs := leaseV x) rfl (fun w' hS j u hu => hS.cell0 (hc j u hu)) ?_
    conv => whnf
    refine ⟨rfl, CallS.p (fun w hS => validLease_any x w) (fun h1 => ?_) (fun h1 => ?_)⟩ <;> conv => whnf
    rotate_left
    · (repeat' (first | (refine Sp.mk (fun hs => ?_) (fun hs => ?_) <;> first | (exfalso; omega) | (conv => whnf)) | (refine Ar.i (by omega) ?_; conv => whnf) | (refine NewS.mk (fun _ => ?_); conv => whnf) | (refine QuoS.nn (by omega) ?_; conv => whnf) | (refine RemS.nn (by omega) ?_; conv => whnf) | (refine QuietS.mk (by as_aux_lemma => kernel_rfl) ?_; conv => whnf) | refine RetS.mk (fun w' hS => ?_)))
      exact ⟨by rw [decide_eq_false (not_good_at hx (fun h => h1 h.1))], hS.below⟩
    refine LoopS.same (okS w []) [(2, 2), (4, 4), (17, 43)] [4] rfl (fun i : Nat => [I64 i]) (fun i => i ≤ k ∧ ∀ y ∈ l.take i, ¬ clash y x) (fun i => k - i) 0 ⟨by omega, by simp⟩ ⟨rfl, trivial⟩ (LbTo.refl_nil _) (fun i g2 ⟨hi, hJ⟩ => ?_)
    conv => whnf
    refine Sp.mk (fun h5 => ?_) (fun h5 => ?_) <;> conv => whnf
    · obtain ⟨ad', y, e', hy, hym, hyc⟩ := hL.at_ (k := i) (by omega)
      simp only [Option.some.injEq] at e'
      subst e'
      have hik : i < k := by omega
      have hyt : y ∈ l.take k := List.mem_of_getElem? (i := i) (by rw [List.getElem?_take, if_pos hik]; exact hy)
      have hnext : ¬ clash y x → ∀ z ∈ l.take (i + 1), ¬ clash z x := fun hn z hz => by
        rw [take_snoc hy, List.mem_append, List.mem_singleton] at hz
        rcases hz with hz | rfl
        · exact hJ z hz
        · exact hn
      refine QuietS.mk (by as_aux_lemma => kernel_rfl) ?_
      conv => whnf
      refine IdxS.at_ i rfl rfl (by omega) ?_
      conv => whnf
      (repeat' (first | (refine LdS.at_ (fun w2 hS => hS.cell0 (hyc 0 _ rfl)) ?_; conv => whnf) | (refine LdS.at_ (fun w2 hS => hS.cell0 (hyc 1 _ rfl)) ?_; conv => whnf) | (refine LdS.at_ (fun w2 hS => hS.cell0 (hyc 2 _ rfl)) ?_; conv => whnf) | (refine LdS.at_ (fun w2 hS => hS.cell0 (hyc 3 _ rfl)) ?_; conv => whnf) | (refine Sp.mk (fun hs => ?_) (fun hs => ?_) <;> first | (exfalso; omega) | (conv => whnf)) | (refine Ar.i (by omega) ?_; conv => whnf) | (refine NewS.mk (fun _ => ?_); conv => whnf) | (refine QuoS.nn (by omega) ?_; conv => whnf) | (refine RemS.nn (by omega) ?_; conv => whnf) | (refine QuietS.mk (by as_aux_lemma => kernel_rfl) ?_; conv => whnf) | refine RetS.mk (fun w' hS => ?_)))
      refine IdxS.at_ k rfl rfl (by omega) ?_
      conv => whnf
      (repeat' (first | (refine LdS.at_ (fun w2 hS => hS.cell0 (hc 0 _ rfl)) ?_; conv => whnf) | (refine LdS.at_ (fun w2 hS => hS.cell0 (hc 1 _ rfl)) ?_; conv => whnf) | (refine LdS.at_ (fun w2 hS => hS.cell0 (hc 2 _ rfl)) ?_; conv => whnf) | (refine LdS.at_ (fun w2 hS => hS.cell0 (hc 3 _ rfl)) ?_; conv => whnf) | (refine Sp.mk (fun hs => ?_) (fun hs => ?_) <;> first | (exfalso; omega) | (conv => whnf)) | (refine Ar.i (by omega) ?_; conv => whnf) | (refine NewS.mk (fun _ => ?_); conv => whnf) | (refine QuoS.nn (by omega) ?_; conv => whnf) | (refine RemS.nn (by omega) ?_; conv => whnf) | (refine QuietS.mk (by as_aux_lemma => kernel_rfl) ?_; conv => whnf) | refine RetS.mk (fun w' hS => ?_)))
      · refine IdxS.at_ i rfl rfl (by omega) ?_
        conv => whnf
        refine LdsS.at_ (vs := leaseV y) rfl (fun w' hS j u hu => hS.cell0 (hyc j u hu)) ?_
        conv => whnf
        refine IdxS.at_ k rfl rfl (by omega) ?_
        conv => whnf
        refine LdsS.at_ (vs := leaseV x) rfl (fun w' hS j u hu => hS.cell0 (hc j u hu)) ?_
        conv => whnf
        refine ⟨rfl, CallQ.p (fun w hS => smeets_any y x w) (fun h6 => ?_) (fun h6 => ?_)⟩ <;> conv => whnf
        · (repeat' (first | (refine Sp.mk (fun hs => ?_) (fun hs => ?_) <;> first | (exfalso; omega) | (conv => whnf)) | (refine Ar.i (by omega) ?_; conv => whnf) | (refine NewS.mk (fun _ => ?_); conv => whnf) | (refine QuoS.nn (by omega) ?_; conv => whnf) | (refine RemS.nn (by omega) ?_; conv => whnf) | (refine QuietS.mk (by as_aux_lemma => kernel_rfl) ?_; conv => whnf) | refine RetS.mk (fun w' hS => ?_)))
          exact ⟨by rw [decide_eq_false (not_good_at hx (fun h => h.2 y hyt ⟨by assumption, h6⟩))], hS.below⟩
        · (repeat' (first | (refine Sp.mk (fun hs => ?_) (fun hs => ?_) <;> first | (exfalso; omega) | (conv => whnf)) | (refine Ar.i (by omega) ?_; conv => whnf) | (refine NewS.mk (fun _ => ?_); conv => whnf) | (refine QuoS.nn (by omega) ?_; conv => whnf) | (refine RemS.nn (by omega) ?_; conv => whnf) | (refine QuietS.mk (by as_aux_lemma => kernel_rfl) ?_; conv => whnf) | refine RetS.mk (fun w' hS => ?_)))
          exact ⟨i + 1, ⟨by omega, hnext (fun h => h6 h.2)⟩, by omega, ⟨rfl, trivial⟩, LbTo.refl_nil _, RsTo.refl _⟩
      · exact ⟨i + 1, ⟨by omega, hnext (fun h => by have := h.1; contradiction)⟩, by omega, ⟨rfl, trivial⟩, LbTo.refl_nil _, RsTo.refl _⟩
    · have hik : i = k := by omega
      rw [hik] at hJ
      (repeat' (first | (refine Sp.mk (fun hs => ?_) (fun hs => ?_) <;> first | (exfalso; omega) | (conv => whnf)) | (refine Ar.i (by omega) ?_; conv => whnf) | (refine NewS.mk (fun _ => ?_); conv => whnf) | (refine QuoS.nn (by omega) ?_; conv => whnf) | (refine RemS.nn (by omega) ?_; conv => whnf) | (refine QuietS.mk (by as_aux_lemma => kernel_rfl) ?_; conv => whnf) | refine RetS.mk (fun w' hS => ?_)))
      exact ⟨k + 1, ⟨by omega, (good_take_succ hx).2 ⟨hI, h1, hJ⟩⟩, by omega, ⟨rfl, trivial⟩, LbTo.refl_nil _, RsTo.refl _⟩
  · have hkn : k = n := by omega
    rw [hkn, ← hl, List.take_length] at hI
    (repeat' (first | (refine Sp.mk (fun hs => ?_) (fun hs => ?_) <;> first | (exfalso; omega) | (conv => whnf)) | (refine Ar.i (by omega) ?_; conv => whnf) | (refine NewS.mk (fun _ => ?_); conv => whnf) | (refine QuoS.nn (by omega) ?_; conv => whnf) | (refine RemS.nn (by omega) ?_; conv => whnf) | (refine QuietS.mk (by as_aux_lemma => kernel_rfl) ?_; conv => whnf) | refine RetS.mk (fun w' hS => ?_)))
    · exact ⟨by rw [decide_eq_true]; exact ⟨hI, by omega⟩, hS.below⟩
    · exact ⟨by rw [decide_eq_false]; exact fun h => by have := h.2; omega, hS.below⟩
theorem sValid_any {A : Option Addr} {n c : Nat} {l : List LeaseD} (w : World) (hL : Leases w A n l) :
    Calls Try.prog 23 #[.slice A n c] w fun e w' => e = .returned (.bool (decide (Valid l))) ∧ Below w.heap.size w w' := by
  refine enter (C := cxS w []) (okS w []) (St.start w) Try.func23 rfl rfl ?_; conv => whnf
  refine ⟨rfl, CallS.ro (fun w hS => svalid_any w (hL.below hS.below)) ?_⟩
  conv => whnf
  (repeat' (first | (refine Sp.mk (fun hs => ?_) (fun hs => ?_) <;> first | (exfalso; omega) | (conv => whnf)) | (refine Ar.i (by omega) ?_; conv => whnf) | (refine NewS.mk (fun _ => ?_); conv => whnf) | (refine QuoS.nn (by omega) ?_; conv => whnf) | (refine RemS.nn (by omega) ?_; conv => whnf) | (refine QuietS.mk (by as_aux_lemma => kernel_rfl) ?_; conv => whnf) | refine RetS.mk (fun w' hS => ?_)))
  exact ⟨rfl, hS.below⟩
end Go.Proofs.Ytgfblbpiokiagaa
