/- LeasedTime and OwnerAt, exact; conditions: none. -/
import Derived.Test.YtgfblbpiokiagaaLeaC
set_option maxRecDepth 100000
set_option linter.unusedVariables false
set_option linter.unusedSimpArgs false
namespace Go.Proofs.Ytgfblbpiokiagaa
open Eng Go Go.RowKit

theorem leased_drop {l : List LeaseD} {k : Nat} {x : LeaseD} (h : l[k]? = some x) (o : Int) : leased (l.drop k) o = (if x.o = o then x.u - x.f else 0) + leased (l.drop (k + 1)) o := by rw [drop_at h]; rfl
theorem okL_bounds {x : LeaseD} (h : okL x) : (0 ≤ x.c ∧ x.c ≤ 5) ∧ (0 ≤ x.o ∧ x.o ≤ 4) ∧ (0 ≤ x.f ∧ x.f ≤ 999) ∧ (x.f + 1 ≤ x.u ∧ x.u ≤ 1000) := h

theorem iLeased_any {A : Option Addr} {n c : Nat} {l : List LeaseD} (o : Int) (w : World) (hL : Leases w A n l) (hn : n ≤ c) :
    Calls Try.prog 29 #[.slice A n c, .int .i64 o] w fun e w' => e = .returned (.int .i64 (LeasedTime l o)) ∧ Below w.heap.size w w' := by
  have hl := hL.len
  have hle := hL.le
  refine enter (C := cxS w []) (okS w []) (St.start w) Try.func29 rfl rfl ?_; conv => whnf
  refine ⟨rfl, CallS.p (fun w hS => iValid_any w (hL.below hS.below) hn) (fun hv => ?_) (fun hv => ?_)⟩ <;> conv => whnf
  · refine LoopS.same (okS w []) [(5, 5), (7, 7), (13, 28)] [5, 13] rfl (fun s : Nat × Int => [I64 s.2, I64 s.1]) (fun s => s.1 ≤ n ∧ (s.2 + leased (l.drop s.1) o = leased l o ∧ 0 ≤ s.2 ∧ s.2 ≤ 1000 * s.1)) (fun s => n - s.1) (0, 0) ⟨by omega, by simp⟩ ⟨rfl, rfl, trivial⟩ (LbTo.refl_nil _) (fun s g ⟨hk, hI⟩ => ?_)
    obtain ⟨k, acc⟩ := s
    dsimp only at hk hI ⊢
    conv => whnf
    refine Sp.mk (fun h => ?_) (fun h => ?_) <;> conv => whnf
    · obtain ⟨ad, x, rfl, hx, hm, hc⟩ := hL.at_ (k := k) (by omega)
      have hok := okL_bounds (hv.1.1 x hm)
      have hd := leased_drop hx o
      refine IdxS.at_ k rfl rfl (by omega) ?_
      conv => whnf
      refine LdsS.at_ (vs := leaseV x) rfl (fun w' hS j u hu => hS.cell0 (hc j u hu)) ?_
      conv => whnf
      refine NewS.mk fun _ => ?_
      conv => whnf
      refine Sp.mk (fun ho => ?_) (fun ho => ?_) <;> conv => whnf
      · rw [if_pos ho] at hd
        (repeat' (first | (refine Sp.mk (fun hs => ?_) (fun hs => ?_) <;> first | (exfalso; omega) | (conv => whnf)) | (refine Ar.i (by omega) ?_; conv => whnf) | (refine NewS.mk (fun _ => ?_); conv => whnf) | (refine QuoS.nn (by omega) ?_; conv => whnf) | (refine RemS.nn (by omega) ?_; conv => whnf) | (refine QuietS.mk (by as_aux_lemma => kernel_rfl) ?_; conv => whnf) | refine RetS.mk (fun w' hS => ?_)))
        exact ⟨(k + 1, acc + (x.u - x.f)), ⟨by dsimp only; omega, by dsimp only; omega⟩, by dsimp only; omega, ⟨rfl, rfl, trivial⟩, LbTo.refl_nil _, RsTo.refl _⟩
      · rw [if_neg ho] at hd
        (repeat' (first | (refine Sp.mk (fun hs => ?_) (fun hs => ?_) <;> first | (exfalso; omega) | (conv => whnf)) | (refine Ar.i (by omega) ?_; conv => whnf) | (refine NewS.mk (fun _ => ?_); conv => whnf) | (refine QuoS.nn (by omega) ?_; conv => whnf) | (refine RemS.nn (by omega) ?_; conv => whnf) | (refine QuietS.mk (by as_aux_lemma => kernel_rfl) ?_; conv => whnf) | refine RetS.mk (fun w' hS => ?_)))
        exact ⟨(k + 1, acc), ⟨by dsimp only; omega, by dsimp only; omega⟩, by dsimp only; omega, ⟨rfl, rfl, trivial⟩, LbTo.refl_nil _, RsTo.refl _⟩
    · (repeat' (first | (refine Sp.mk (fun hs => ?_) (fun hs => ?_) <;> first | (exfalso; omega) | (conv => whnf)) | (refine Ar.i (by omega) ?_; conv => whnf) | (refine NewS.mk (fun _ => ?_); conv => whnf) | (refine QuoS.nn (by omega) ?_; conv => whnf) | (refine RemS.nn (by omega) ?_; conv => whnf) | (refine QuietS.mk (by as_aux_lemma => kernel_rfl) ?_; conv => whnf) | refine RetS.mk (fun w' hS => ?_)))
      refine ⟨?_, hS.below⟩
      have hkn : k = n := by omega
      rw [hkn, ← hl, List.drop_length] at hI
      have := hI.1
      simp only [leased, Int.add_zero] at this
      rw [LeasedTime, if_pos hv, ← this]
  · (repeat' (first | (refine Sp.mk (fun hs => ?_) (fun hs => ?_) <;> first | (exfalso; omega) | (conv => whnf)) | (refine Ar.i (by omega) ?_; conv => whnf) | (refine NewS.mk (fun _ => ?_); conv => whnf) | (refine QuoS.nn (by omega) ?_; conv => whnf) | (refine RemS.nn (by omega) ?_; conv => whnf) | (refine QuietS.mk (by as_aux_lemma => kernel_rfl) ?_; conv => whnf) | refine RetS.mk (fun w' hS => ?_)))
    exact ⟨by rw [LeasedTime, if_neg hv], hS.below⟩

theorem sLeased_any {A : Option Addr} {n c : Nat} {l : List LeaseD} (o : Int) (w : World) (hL : Leases w A n l) :
    Calls Try.prog 28 #[.slice A n c, .int .i64 o] w fun e w' => e = .returned (.int .i64 (LeasedTime l o)) ∧ Below w.heap.size w w' := by
  have hl := hL.len
  have hle := hL.le
  refine enter (C := cxS w []) (okS w []) (St.start w) Try.func28 rfl rfl ?_; conv => whnf
  refine ⟨rfl, CallS.p (fun w hS => svalid_any w (hL.below hS.below)) (fun hv => ?_) (fun hv => ?_)⟩ <;> conv => whnf
  · refine LoopS.same (okS w []) [(5, 6), (10, 35)] [5, 6] rfl (fun s : Nat × Int => [I64 s.2, I64 s.1]) (fun s => s.1 ≤ n ∧ (s.2 + leased (l.drop s.1) o = leased l o ∧ 0 ≤ s.2 ∧ s.2 ≤ 1000 * s.1)) (fun s => n - s.1) (0, 0) ⟨by omega, by simp⟩ ⟨rfl, rfl, trivial⟩ (LbTo.refl_nil _) (fun s g ⟨hk, hI⟩ => ?_)
    obtain ⟨k, acc⟩ := s
    dsimp only at hk hI ⊢
    conv => whnf
    refine Sp.mk (fun h => ?_) (fun h => ?_) <;> conv => whnf
    · obtain ⟨ad, x, rfl, hx, hm, hc⟩ := hL.at_ (k := k) (by omega)
      have hok := okL_bounds (hv.1.1 x hm)
      have hd := leased_drop hx o
      refine IdxS.at_ k rfl rfl (by omega) ?_
      conv => whnf
      refine LdS.at_ (fun w' hS => hS.cell0 (hc 1 _ rfl)) ?_
      conv => whnf
      refine Sp.mk (fun ho => ?_) (fun ho => ?_) <;> conv => whnf
      · rw [if_pos ho] at hd
        refine QuietS.mk (by as_aux_lemma => kernel_rfl) ?_
        conv => whnf
        refine IdxS.at_ k rfl rfl (by omega) ?_
        conv => whnf
        (repeat' (first | (refine LdS.at_ (fun w2 hS => hS.cell0 (hc 0 _ rfl)) ?_; conv => whnf) | (refine LdS.at_ (fun w2 hS => hS.cell0 (hc 1 _ rfl)) ?_; conv => whnf) | (refine LdS.at_ (fun w2 hS => hS.cell0 (hc 2 _ rfl)) ?_; conv => whnf) | (refine LdS.at_ (fun w2 hS => hS.cell0 (hc 3 _ rfl)) ?_; conv => whnf) | (refine Sp.mk (fun hs => ?_) (fun hs => ?_) <;> first | (exfalso; omega) | (conv => whnf)) | (refine Ar.i (by omega) ?_; conv => whnf) | (refine NewS.mk (fun _ => ?_); conv => whnf) | (refine QuoS.nn (by omega) ?_; conv => whnf) | (refine RemS.nn (by omega) ?_; conv => whnf) | (refine QuietS.mk (by as_aux_lemma => kernel_rfl) ?_; conv => whnf) | refine RetS.mk (fun w' hS => ?_)))
        refine IdxS.at_ k rfl rfl (by omega) ?_
        conv => whnf
        (repeat' (first | (refine LdS.at_ (fun w2 hS => hS.cell0 (hc 0 _ rfl)) ?_; conv => whnf) | (refine LdS.at_ (fun w2 hS => hS.cell0 (hc 1 _ rfl)) ?_; conv => whnf) | (refine LdS.at_ (fun w2 hS => hS.cell0 (hc 2 _ rfl)) ?_; conv => whnf) | (refine LdS.at_ (fun w2 hS => hS.cell0 (hc 3 _ rfl)) ?_; conv => whnf) | (refine Sp.mk (fun hs => ?_) (fun hs => ?_) <;> first | (exfalso; omega) | (conv => whnf)) | (refine Ar.i (by omega) ?_; conv => whnf) | (refine NewS.mk (fun _ => ?_); conv => whnf) | (refine QuoS.nn (by omega) ?_; conv => whnf) | (refine RemS.nn (by omega) ?_; conv => whnf) | (refine QuietS.mk (by as_aux_lemma => kernel_rfl) ?_; conv => whnf) | refine RetS.mk (fun w' hS => ?_)))
        exact ⟨(k + 1, acc + x.u - x.f), ⟨by dsimp only; omega, by dsimp only; omega⟩, by dsimp only; omega, ⟨rfl, rfl, trivial⟩, LbTo.refl_nil _, RsTo.refl _⟩
      · rw [if_neg ho] at hd
        (repeat' (first | (refine Sp.mk (fun hs => ?_) (fun hs => ?_) <;> first | (exfalso; omega) | (conv => whnf)) | (refine Ar.i (by omega) ?_; conv => whnf) | (refine NewS.mk (fun _ => ?_); conv => whnf) | (refine QuoS.nn (by omega) ?_; conv => whnf) | (refine RemS.nn (by omega) ?_; conv => whnf) | (refine QuietS.mk (by as_aux_lemma => kernel_rfl) ?_; conv => whnf) | refine RetS.mk (fun w' hS => ?_)))
        exact ⟨(k + 1, acc), ⟨by dsimp only; omega, by dsimp only; omega⟩, by dsimp only; omega, ⟨rfl, rfl, trivial⟩, LbTo.refl_nil _, RsTo.refl _⟩
    · (repeat' (first | (refine Sp.mk (fun hs => ?_) (fun hs => ?_) <;> first | (exfalso; omega) | (conv => whnf)) | (refine Ar.i (by omega) ?_; conv => whnf) | (refine NewS.mk (fun _ => ?_); conv => whnf) | (refine QuoS.nn (by omega) ?_; conv => whnf) | (refine RemS.nn (by omega) ?_; conv => whnf) | (refine QuietS.mk (by as_aux_lemma => kernel_rfl) ?_; conv => whnf) | refine RetS.mk (fun w' hS => ?_)))
      refine ⟨?_, hS.below⟩
      have hkn : k = n := by omega
      rw [hkn, ← hl, List.drop_length] at hI
      have := hI.1
      simp only [leased, Int.add_zero] at this
      rw [LeasedTime, if_pos hv, ← this]
  · (repeat' (first | (refine Sp.mk (fun hs => ?_) (fun hs => ?_) <;> first | (exfalso; omega) | (conv => whnf)) | (refine Ar.i (by omega) ?_; conv => whnf) | (refine NewS.mk (fun _ => ?_); conv => whnf) | (refine QuoS.nn (by omega) ?_; conv => whnf) | (refine RemS.nn (by omega) ?_; conv => whnf) | (refine QuietS.mk (by as_aux_lemma => kernel_rfl) ?_; conv => whnf) | refine RetS.mk (fun w' hS => ?_)))
    exact ⟨by rw [LeasedTime, if_neg hv], hS.below⟩

theorem iownerAt_any {A : Option Addr} {n c : Nat} {l : List LeaseD} (cn t : Int) (w : World) (hL : Leases w A n l) :
    Calls Try.prog 63 #[.slice A n c, .int .i64 cn, .int .i64 t] w fun e w' => e = .returned (.int .i64 (ownerAt l cn t)) ∧ Below w.heap.size w w' := by
  have hl := hL.len
  have hle := hL.le
  refine enter (C := cxS w []) (okS w []) (St.start w) Try.func63 rfl rfl ?_; conv => whnf
  refine LoopS.same (okS w []) [(6, 6), (8, 8), (11, 33)] [11] rfl (fun k : Nat => [I64 k]) (fun k => k ≤ n ∧ ownerAt l cn t = ownerAt (l.drop k) cn t) (fun k => n - k) 0 ⟨by omega, rfl⟩ ⟨rfl, trivial⟩ (LbTo.refl_nil _) (fun k g ⟨hk, hI⟩ => ?_)
  conv => whnf
  refine Sp.mk (fun h => ?_) (fun h => ?_) <;> conv => whnf
  · obtain ⟨ad, x, rfl, hx, hm, hc⟩ := hL.at_ (k := k) (by omega)
    rw [drop_at hx, ownerAt] at hI
    refine IdxS.at_ k rfl rfl (by omega) ?_
    conv => whnf
    refine LdsS.at_ (vs := leaseV x) rfl (fun w' hS j u hu => hS.cell0 (hc j u hu)) ?_
    conv => whnf
    (repeat' (first | (refine Sp.mk (fun hs => ?_) (fun hs => ?_) <;> first | (exfalso; omega) | (conv => whnf)) | (refine Ar.i (by omega) ?_; conv => whnf) | (refine NewS.mk (fun _ => ?_); conv => whnf) | (refine QuoS.nn (by omega) ?_; conv => whnf) | (refine RemS.nn (by omega) ?_; conv => whnf) | (refine QuietS.mk (by as_aux_lemma => kernel_rfl) ?_; conv => whnf) | refine RetS.mk (fun w' hS => ?_)))
    · exact ⟨by rw [hI, if_pos (by unfold has; exact ⟨by assumption, by assumption, by assumption⟩)], hS.below⟩
    all_goals exact ⟨k + 1, ⟨by omega, by rw [hI, if_neg (by unfold has; omega)]⟩, by omega, ⟨rfl, trivial⟩, LbTo.refl_nil _, RsTo.refl _⟩
  · (repeat' (first | (refine Sp.mk (fun hs => ?_) (fun hs => ?_) <;> first | (exfalso; omega) | (conv => whnf)) | (refine Ar.i (by omega) ?_; conv => whnf) | (refine NewS.mk (fun _ => ?_); conv => whnf) | (refine QuoS.nn (by omega) ?_; conv => whnf) | (refine RemS.nn (by omega) ?_; conv => whnf) | (refine QuietS.mk (by as_aux_lemma => kernel_rfl) ?_; conv => whnf) | refine RetS.mk (fun w' hS => ?_)))
    have hkn : k = n := by omega
    rw [hkn, ← hl, List.drop_length] at hI
    exact ⟨by rw [hI]; rfl, hS.below⟩
theorem iOwnerAt_any {A : Option Addr} {n c : Nat} {l : List LeaseD} (cn t : Int) (w : World) (hL : Leases w A n l) (hn : n ≤ c) :
    Calls Try.prog 31 #[.slice A n c, .int .i64 cn, .int .i64 t] w fun e w' => e = .returned (.int .i64 (OwnerAt l cn t)) ∧ Below w.heap.size w w' := by
  refine enter (C := cxS w []) (okS w []) (St.start w) Try.func31 rfl rfl ?_; conv => whnf
  refine ⟨rfl, CallS.p (fun w hS => iValid_any w (hL.below hS.below) hn) (fun hv => ?_) (fun hv => ?_)⟩ <;> conv => whnf
  · refine ⟨rfl, CallS.ro (fun w hS => iownerAt_any cn t w (hL.below hS.below)) ?_⟩
    conv => whnf
    (repeat' (first | (refine Sp.mk (fun hs => ?_) (fun hs => ?_) <;> first | (exfalso; omega) | (conv => whnf)) | (refine Ar.i (by omega) ?_; conv => whnf) | (refine NewS.mk (fun _ => ?_); conv => whnf) | (refine QuoS.nn (by omega) ?_; conv => whnf) | (refine RemS.nn (by omega) ?_; conv => whnf) | (refine QuietS.mk (by as_aux_lemma => kernel_rfl) ?_; conv => whnf) | refine RetS.mk (fun w' hS => ?_)))
    exact ⟨by rw [OwnerAt, if_pos hv], hS.below⟩
  · (repeat' (first | (refine Sp.mk (fun hs => ?_) (fun hs => ?_) <;> first | (exfalso; omega) | (conv => whnf)) | (refine Ar.i (by omega) ?_; conv => whnf) | (refine NewS.mk (fun _ => ?_); conv => whnf) | (refine QuoS.nn (by omega) ?_; conv => whnf) | (refine RemS.nn (by omega) ?_; conv => whnf) | (refine QuietS.mk (by as_aux_lemma => kernel_rfl) ?_; conv => whnf) | refine RetS.mk (fun w' hS => ?_)))
    exact ⟨by rw [OwnerAt, if_neg hv], hS.below⟩
theorem sOwnerAt_any {A : Option Addr} {n c : Nat} {l : List LeaseD} (cn t : Int) (w : World) (hL : Leases w A n l) :
    Calls Try.prog 30 #[.slice A n c, .int .i64 cn, .int .i64 t] w fun e w' => e = .returned (.int .i64 (OwnerAt l cn t)) ∧ Below w.heap.size w w' := by
  have hl := hL.len
  have hle := hL.le
  refine enter (C := cxS w []) (okS w []) (St.start w) Try.func30 rfl rfl ?_; conv => whnf
  refine ⟨rfl, CallS.p (fun w hS => svalid_any w (hL.below hS.below)) (fun hv => ?_) (fun hv => ?_)⟩ <;> conv => whnf
  rotate_left
  · (repeat' (first | (refine Sp.mk (fun hs => ?_) (fun hs => ?_) <;> first | (exfalso; omega) | (conv => whnf)) | (refine Ar.i (by omega) ?_; conv => whnf) | (refine NewS.mk (fun _ => ?_); conv => whnf) | (refine QuoS.nn (by omega) ?_; conv => whnf) | (refine RemS.nn (by omega) ?_; conv => whnf) | (refine QuietS.mk (by as_aux_lemma => kernel_rfl) ?_; conv => whnf) | refine RetS.mk (fun w' hS => ?_)))
    exact ⟨by rw [OwnerAt, if_neg hv], hS.below⟩
  refine LoopS.same (okS w []) [(6, 7), (11, 43)] [7] rfl (fun k : Nat => [I64 k]) (fun k => k ≤ n ∧ ownerAt l cn t = ownerAt (l.drop k) cn t) (fun k => n - k) 0 ⟨by omega, rfl⟩ ⟨rfl, trivial⟩ (LbTo.refl_nil _) (fun k g ⟨hk, hI⟩ => ?_)
  conv => whnf
  refine Sp.mk (fun h => ?_) (fun h => ?_) <;> conv => whnf
  · obtain ⟨ad, x, rfl, hx, hm, hc⟩ := hL.at_ (k := k) (by omega)
    have hok := okL_bounds (hv.1.1 x hm)
    rw [drop_at hx, ownerAt] at hI
    have hno : ¬ has x cn t → ownerAt l cn t = ownerAt (l.drop (k + 1)) cn t := fun hh => by rw [hI, if_neg hh]
    refine QuietS.mk (by as_aux_lemma => kernel_rfl) ?_
    conv => whnf
    refine IdxS.at_ k rfl rfl (by omega) ?_
    conv => whnf
    refine LdS.at_ (fun w' hS => hS.cell0 (hc 0 _ rfl)) ?_
    conv => whnf
    refine Sp.mk (fun h1 => ?_) (fun h1 => ?_) <;> conv => whnf
    · refine IdxS.at_ k rfl rfl (by omega) ?_
      conv => whnf
      (repeat' (first | (refine LdS.at_ (fun w2 hS => hS.cell0 (hc 0 _ rfl)) ?_; conv => whnf) | (refine LdS.at_ (fun w2 hS => hS.cell0 (hc 1 _ rfl)) ?_; conv => whnf) | (refine LdS.at_ (fun w2 hS => hS.cell0 (hc 2 _ rfl)) ?_; conv => whnf) | (refine LdS.at_ (fun w2 hS => hS.cell0 (hc 3 _ rfl)) ?_; conv => whnf) | (refine Sp.mk (fun hs => ?_) (fun hs => ?_) <;> first | (exfalso; omega) | (conv => whnf)) | (refine Ar.i (by omega) ?_; conv => whnf) | (refine NewS.mk (fun _ => ?_); conv => whnf) | (refine QuoS.nn (by omega) ?_; conv => whnf) | (refine RemS.nn (by omega) ?_; conv => whnf) | (refine QuietS.mk (by as_aux_lemma => kernel_rfl) ?_; conv => whnf) | refine RetS.mk (fun w' hS => ?_)))
      refine IdxS.at_ k rfl rfl (by omega) ?_
      conv => whnf
      (repeat' (first | (refine LdS.at_ (fun w2 hS => hS.cell0 (hc 0 _ rfl)) ?_; conv => whnf) | (refine LdS.at_ (fun w2 hS => hS.cell0 (hc 1 _ rfl)) ?_; conv => whnf) | (refine LdS.at_ (fun w2 hS => hS.cell0 (hc 2 _ rfl)) ?_; conv => whnf) | (refine LdS.at_ (fun w2 hS => hS.cell0 (hc 3 _ rfl)) ?_; conv => whnf) | (refine Sp.mk (fun hs => ?_) (fun hs => ?_) <;> first | (exfalso; omega) | (conv => whnf)) | (refine Ar.i (by omega) ?_; conv => whnf) | (refine NewS.mk (fun _ => ?_); conv => whnf) | (refine QuoS.nn (by omega) ?_; conv => whnf) | (refine RemS.nn (by omega) ?_; conv => whnf) | (refine QuietS.mk (by as_aux_lemma => kernel_rfl) ?_; conv => whnf) | refine RetS.mk (fun w' hS => ?_)))
      refine ⟨rfl, CallQ.p (fun w hS => inRange_any _ _ _ w) (fun h2 => ?_) (fun h2 => ?_)⟩ <;> conv => whnf
      · refine IdxS.at_ k rfl rfl (by omega) ?_
        conv => whnf
        (repeat' (first | (refine LdS.at_ (fun w2 hS => hS.cell0 (hc 0 _ rfl)) ?_; conv => whnf) | (refine LdS.at_ (fun w2 hS => hS.cell0 (hc 1 _ rfl)) ?_; conv => whnf) | (refine LdS.at_ (fun w2 hS => hS.cell0 (hc 2 _ rfl)) ?_; conv => whnf) | (refine LdS.at_ (fun w2 hS => hS.cell0 (hc 3 _ rfl)) ?_; conv => whnf) | (refine Sp.mk (fun hs => ?_) (fun hs => ?_) <;> first | (exfalso; omega) | (conv => whnf)) | (refine Ar.i (by omega) ?_; conv => whnf) | (refine NewS.mk (fun _ => ?_); conv => whnf) | (refine QuoS.nn (by omega) ?_; conv => whnf) | (refine RemS.nn (by omega) ?_; conv => whnf) | (refine QuietS.mk (by as_aux_lemma => kernel_rfl) ?_; conv => whnf) | refine RetS.mk (fun w' hS => ?_)))
        exact ⟨by rw [OwnerAt, if_pos hv, hI, if_pos (by unfold has; omega)], hS.below⟩
      · (repeat' (first | (refine Sp.mk (fun hs => ?_) (fun hs => ?_) <;> first | (exfalso; omega) | (conv => whnf)) | (refine Ar.i (by omega) ?_; conv => whnf) | (refine NewS.mk (fun _ => ?_); conv => whnf) | (refine QuoS.nn (by omega) ?_; conv => whnf) | (refine RemS.nn (by omega) ?_; conv => whnf) | (refine QuietS.mk (by as_aux_lemma => kernel_rfl) ?_; conv => whnf) | refine RetS.mk (fun w' hS => ?_)))
        exact ⟨k + 1, ⟨by omega, hno (by unfold has; omega)⟩, by omega, ⟨rfl, trivial⟩, LbTo.refl_nil _, RsTo.refl _⟩
    · (repeat' (first | (refine Sp.mk (fun hs => ?_) (fun hs => ?_) <;> first | (exfalso; omega) | (conv => whnf)) | (refine Ar.i (by omega) ?_; conv => whnf) | (refine NewS.mk (fun _ => ?_); conv => whnf) | (refine QuoS.nn (by omega) ?_; conv => whnf) | (refine RemS.nn (by omega) ?_; conv => whnf) | (refine QuietS.mk (by as_aux_lemma => kernel_rfl) ?_; conv => whnf) | refine RetS.mk (fun w' hS => ?_)))
      exact ⟨k + 1, ⟨by omega, hno (by unfold has; omega)⟩, by omega, ⟨rfl, trivial⟩, LbTo.refl_nil _, RsTo.refl _⟩
  · (repeat' (first | (refine Sp.mk (fun hs => ?_) (fun hs => ?_) <;> first | (exfalso; omega) | (conv => whnf)) | (refine Ar.i (by omega) ?_; conv => whnf) | (refine NewS.mk (fun _ => ?_); conv => whnf) | (refine QuoS.nn (by omega) ?_; conv => whnf) | (refine RemS.nn (by omega) ?_; conv => whnf) | (refine QuietS.mk (by as_aux_lemma => kernel_rfl) ?_; conv => whnf) | refine RetS.mk (fun w' hS => ?_)))
    have hkn : k = n := by omega
    rw [hkn, ← hl, List.drop_length] at hI
    exact ⟨by rw [OwnerAt, if_pos hv, hI]; rfl, hS.below⟩

theorem exactLeased_any (w : World) {A : Option Addr} {n c : Nat} {l : List LeaseD} {o : Int} (hr : Reads w 4 A n (l.flatMap leaseV)) (hm : n ≤ maxLen) (_ : I64ok o) :
    Calls Try.prog 6 #[.slice A n c, .int .i64 o] w fun e w' => e = .returned (.bool true) ∧ Below w.heap.size w w' := by
  refine enter (C := cxS w []) (okS w []) (St.start w) Try.func6 rfl rfl ?_; conv => whnf
  refine ⟨rfl, CallS.ro (fun w hS => sz_any 1048576 (by omega) hm w) ?_⟩
  by_cases hb : (1048576 : Int) - n < 0
  · rw [if_pos hb]
    conv => whnf
    (repeat' (first | (refine Sp.mk (fun hs => ?_) (fun hs => ?_) <;> first | (exfalso; omega) | (conv => whnf)) | (refine Ar.i (by omega) ?_; conv => whnf) | (refine NewS.mk (fun _ => ?_); conv => whnf) | (refine QuoS.nn (by omega) ?_; conv => whnf) | (refine RemS.nn (by omega) ?_; conv => whnf) | (refine QuietS.mk (by as_aux_lemma => kernel_rfl) ?_; conv => whnf) | refine RetS.mk (fun w' hS => ?_)))
    exact ⟨rfl, hS.below⟩
  rw [if_neg hb]
  have hn : n ≤ 1048576 := by omega
  have hL : Leases w A n l := ⟨hr, by omega⟩
  conv => whnf
  (repeat' (first | (refine Sp.mk (fun hs => ?_) (fun hs => ?_) <;> first | (exfalso; omega) | (conv => whnf)) | (refine Ar.i (by omega) ?_; conv => whnf) | (refine NewS.mk (fun _ => ?_); conv => whnf) | (refine QuoS.nn (by omega) ?_; conv => whnf) | (refine RemS.nn (by omega) ?_; conv => whnf) | (refine QuietS.mk (by as_aux_lemma => kernel_rfl) ?_; conv => whnf) | refine RetS.mk (fun w' hS => ?_)))
  refine call_to hL (fun A1 => ?_)
  conv => whnf
  refine ⟨rfl, CallS.ro (fun w hS => sLeased_any o w (St.leases hS 0 rfl (by omega))) ?_⟩
  conv => whnf
  refine call_to hL (fun A2 => ?_)
  conv => whnf
  refine ⟨rfl, CallS.ro (fun w hS => iLeased_any o w (St.leases hS 1 rfl (by omega)) (Nat.le_refl _)) ?_⟩
  conv => whnf
  (repeat' (first | (refine Sp.mk (fun hs => ?_) (fun hs => ?_) <;> first | (exfalso; omega) | (conv => whnf)) | (refine Ar.i (by omega) ?_; conv => whnf) | (refine NewS.mk (fun _ => ?_); conv => whnf) | (refine QuoS.nn (by omega) ?_; conv => whnf) | (refine RemS.nn (by omega) ?_; conv => whnf) | (refine QuietS.mk (by as_aux_lemma => kernel_rfl) ?_; conv => whnf) | refine RetS.mk (fun w' hS => ?_)))
  refine call_to hL (fun A3 => ?_)
  conv => whnf
  refine ⟨rfl, CallS.ro (fun w hS => eqLeases_any w (St.leases hS 1 rfl (by omega)) (St.leases hS 2 rfl (by omega))) ?_⟩
  conv => whnf
  (repeat' (first | (refine Sp.mk (fun hs => ?_) (fun hs => ?_) <;> first | (exfalso; omega) | (conv => whnf)) | (refine Ar.i (by omega) ?_; conv => whnf) | (refine NewS.mk (fun _ => ?_); conv => whnf) | (refine QuoS.nn (by omega) ?_; conv => whnf) | (refine RemS.nn (by omega) ?_; conv => whnf) | (refine QuietS.mk (by as_aux_lemma => kernel_rfl) ?_; conv => whnf) | refine RetS.mk (fun w' hS => ?_)))
  exact ⟨rfl, hS.below⟩
theorem exactOwnerAt_any (w : World) {A : Option Addr} {n c : Nat} {l : List LeaseD} {cn t : Int} (hr : Reads w 4 A n (l.flatMap leaseV)) (hm : n ≤ maxLen) (_ : I64ok cn) (_ : I64ok t) :
    Calls Try.prog 7 #[.slice A n c, .int .i64 cn, .int .i64 t] w fun e w' => e = .returned (.bool true) ∧ Below w.heap.size w w' := by
  refine enter (C := cxS w []) (okS w []) (St.start w) Try.func7 rfl rfl ?_; conv => whnf
  refine ⟨rfl, CallS.ro (fun w hS => sz_any 1048576 (by omega) hm w) ?_⟩
  by_cases hb : (1048576 : Int) - n < 0
  · rw [if_pos hb]
    conv => whnf
    (repeat' (first | (refine Sp.mk (fun hs => ?_) (fun hs => ?_) <;> first | (exfalso; omega) | (conv => whnf)) | (refine Ar.i (by omega) ?_; conv => whnf) | (refine NewS.mk (fun _ => ?_); conv => whnf) | (refine QuoS.nn (by omega) ?_; conv => whnf) | (refine RemS.nn (by omega) ?_; conv => whnf) | (refine QuietS.mk (by as_aux_lemma => kernel_rfl) ?_; conv => whnf) | refine RetS.mk (fun w' hS => ?_)))
    exact ⟨rfl, hS.below⟩
  rw [if_neg hb]
  have hn : n ≤ 1048576 := by omega
  have hL : Leases w A n l := ⟨hr, by omega⟩
  conv => whnf
  (repeat' (first | (refine Sp.mk (fun hs => ?_) (fun hs => ?_) <;> first | (exfalso; omega) | (conv => whnf)) | (refine Ar.i (by omega) ?_; conv => whnf) | (refine NewS.mk (fun _ => ?_); conv => whnf) | (refine QuoS.nn (by omega) ?_; conv => whnf) | (refine RemS.nn (by omega) ?_; conv => whnf) | (refine QuietS.mk (by as_aux_lemma => kernel_rfl) ?_; conv => whnf) | refine RetS.mk (fun w' hS => ?_)))
  refine call_to hL (fun A1 => ?_)
  conv => whnf
  refine ⟨rfl, CallS.ro (fun w hS => sOwnerAt_any cn t w (St.leases hS 0 rfl (by omega))) ?_⟩
  conv => whnf
  refine call_to hL (fun A2 => ?_)
  conv => whnf
  refine ⟨rfl, CallS.ro (fun w hS => iOwnerAt_any cn t w (St.leases hS 1 rfl (by omega)) (Nat.le_refl _)) ?_⟩
  conv => whnf
  (repeat' (first | (refine Sp.mk (fun hs => ?_) (fun hs => ?_) <;> first | (exfalso; omega) | (conv => whnf)) | (refine Ar.i (by omega) ?_; conv => whnf) | (refine NewS.mk (fun _ => ?_); conv => whnf) | (refine QuoS.nn (by omega) ?_; conv => whnf) | (refine RemS.nn (by omega) ?_; conv => whnf) | (refine QuietS.mk (by as_aux_lemma => kernel_rfl) ?_; conv => whnf) | refine RetS.mk (fun w' hS => ?_)))
  refine call_to hL (fun A3 => ?_)
  conv => whnf
  refine ⟨rfl, CallS.ro (fun w hS => eqLeases_any w (St.leases hS 1 rfl (by omega)) (St.leases hS 2 rfl (by omega))) ?_⟩
  conv => whnf
  (repeat' (first | (refine Sp.mk (fun hs => ?_) (fun hs => ?_) <;> first | (exfalso; omega) | (conv => whnf)) | (refine Ar.i (by omega) ?_; conv => whnf) | (refine NewS.mk (fun _ => ?_); conv => whnf) | (refine QuoS.nn (by omega) ?_; conv => whnf) | (refine RemS.nn (by omega) ?_; conv => whnf) | (refine QuietS.mk (by as_aux_lemma => kernel_rfl) ?_; conv => whnf) | refine RetS.mk (fun w' hS => ?_)))
  exact ⟨rfl, hS.below⟩
end Go.Proofs.Ytgfblbpiokiagaa
