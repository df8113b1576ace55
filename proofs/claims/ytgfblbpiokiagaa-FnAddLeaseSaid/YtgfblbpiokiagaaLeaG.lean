/- FreeFor of both packages; conditions: none. -/
import Derived.Test.YtgfblbpiokiagaaLeaF
set_option maxRecDepth 100000
set_option linter.unusedVariables false
set_option linter.unusedSimpArgs false
namespace Go.Proofs.Ytgfblbpiokiagaa
open Eng Go Go.RowKit

theorem box_cell0 {w0 w : World} {S0 : List Nat} {lb : List Box} {rs : List Own} (hst : Eng.St w0 S0 lb rs w) (i : Nat) {b : Box} (hb : lb[i]? = some b) {v : Value} (hv : b.cells = [.v v]) : w.cell? ⟨b.blk, 0, none⟩ = some v := by
  have h := box_reads hst i hb [v] hv 0 v rfl
  rwa [add_none] at h
theorem free_no {l : List LeaseD} {m f u : Int} (h : ¬ (Valid l ∧ freeArgs m f u)) : FreeFor l m f u = -1 := if_neg h

theorem freeFor1_any (x : LeaseD) (a b d : Addr) (cn f u : Int) (w : World) (ha : w.cell? a = some (.int .i64 cn)) (hb : w.cell? b = some (.int .i64 f)) (hd : w.cell? d = some (.int .i64 u)) :
    Calls Try.prog 65 #[.agg (leaseV x).toArray, .pointer (some a), .pointer (some b), .pointer (some d)] w fun e w' => e = .returned (.bool (decide (meets x cn f u))) ∧ Below w.heap.size w w' := by
  refine enter (C := cxS w []) (okS w []) (St.start w) Try.func65 rfl rfl ?_; conv => whnf
  refine NewS.mk (fun g0 => ?_)
  conv => whnf
  refine LdS.at_ (fun w2 hS => hS.cell0 ha) ?_
  conv => whnf
  refine Sp.mk (fun h => ?_) (fun h => ?_) <;> conv => whnf
  · refine LdS.at_ (fun w2 hS => hS.cell0 hb) ?_
    conv => whnf
    refine LdS.at_ (fun w2 hS => hS.cell0 hd) ?_
    conv => whnf
    refine ⟨rfl, CallS.ro (fun w hS => meets_any _ _ _ w) ?_⟩
    conv => whnf
    (repeat' (first | (refine Sp.mk (fun hs => ?_) (fun hs => ?_) <;> first | (exfalso; omega) | (conv => whnf)) | (refine Ar.i (by omega) ?_; conv => whnf) | (refine NewS.mk (fun _ => ?_); conv => whnf) | (refine QuoS.nn (by omega) ?_; conv => whnf) | (refine RemS.nn (by omega) ?_; conv => whnf) | (refine QuietS.mk (by as_aux_lemma => kernel_rfl) ?_; conv => whnf) | refine RetS.mk (fun w' hS => ?_)))
    exact ⟨by congr 2; unfold meets; simp [*], hS.below⟩
  · (repeat' (first | (refine Sp.mk (fun hs => ?_) (fun hs => ?_) <;> first | (exfalso; omega) | (conv => whnf)) | (refine Ar.i (by omega) ?_; conv => whnf) | (refine NewS.mk (fun _ => ?_); conv => whnf) | (refine QuoS.nn (by omega) ?_; conv => whnf) | (refine RemS.nn (by omega) ?_; conv => whnf) | (refine QuietS.mk (by as_aux_lemma => kernel_rfl) ?_; conv => whnf) | refine RetS.mk (fun w' hS => ?_)))
    exact ⟨by congr 2; unfold meets; simp [*], hS.below⟩

theorem iFree_any {A : Option Addr} {n c : Nat} {l : List LeaseD} (m f u : Int) (w : World) (hL : Leases w A n l) (hn : n ≤ c) :
    Calls Try.prog 33 #[.slice A n c, .int .i64 m, .int .i64 f, .int .i64 u] w fun e w' => e = .returned (.int .i64 (FreeFor l m f u)) ∧ Below w.heap.size w w' := by
  refine enter (C := cxS w []) (okS w []) (St.start w) Try.func33 rfl rfl ?_; conv => whnf
  refine NewS.mk (fun g0 => ?_)
  conv => whnf
  refine NewS.mk (fun g1 => ?_)
  conv => whnf
  refine ⟨rfl, CallS.p (fun w' hS => iValid_any w' (hL.below hS.below) hn) (fun hv => ?_) (fun hv => ?_)⟩ <;> conv => whnf
  rotate_left
  · (repeat' (first | (refine Sp.mk (fun hs => ?_) (fun hs => ?_) <;> first | (exfalso; omega) | (conv => whnf)) | (refine Ar.i (by omega) ?_; conv => whnf) | (refine NewS.mk (fun _ => ?_); conv => whnf) | (refine QuoS.nn (by omega) ?_; conv => whnf) | (refine RemS.nn (by omega) ?_; conv => whnf) | (refine QuietS.mk (by as_aux_lemma => kernel_rfl) ?_; conv => whnf) | refine RetS.mk (fun w' hS => ?_)))
    exact ⟨by rw [free_no (fun h => hv h.1)], hS.below⟩
  refine ⟨rfl, CallS.p (fun w' hS => in_any _ _ _ w') (fun h1 => ?_) (fun h1 => ?_)⟩ <;> conv => whnf
  rotate_left
  · (repeat' (first | (refine Sp.mk (fun hs => ?_) (fun hs => ?_) <;> first | (exfalso; omega) | (conv => whnf)) | (refine Ar.i (by omega) ?_; conv => whnf) | (refine NewS.mk (fun _ => ?_); conv => whnf) | (refine QuoS.nn (by omega) ?_; conv => whnf) | (refine RemS.nn (by omega) ?_; conv => whnf) | (refine QuietS.mk (by as_aux_lemma => kernel_rfl) ?_; conv => whnf) | refine RetS.mk (fun w' hS => ?_)))
    exact ⟨by rw [free_no (fun h => h1 h.2.1)], hS.below⟩
  refine ⟨rfl, CallS.p (fun w' hS => in_any _ _ _ w') (fun h2 => ?_) (fun h2 => ?_)⟩ <;> conv => whnf
  rotate_left
  · (repeat' (first | (refine Sp.mk (fun hs => ?_) (fun hs => ?_) <;> first | (exfalso; omega) | (conv => whnf)) | (refine Ar.i (by omega) ?_; conv => whnf) | (refine NewS.mk (fun _ => ?_); conv => whnf) | (refine QuoS.nn (by omega) ?_; conv => whnf) | (refine RemS.nn (by omega) ?_; conv => whnf) | (refine QuietS.mk (by as_aux_lemma => kernel_rfl) ?_; conv => whnf) | refine RetS.mk (fun w' hS => ?_)))
    exact ⟨by rw [free_no (fun h => h2 h.2.2.1)], hS.below⟩
  refine Ar.i (by omega) ?_
  conv => whnf
  refine ⟨rfl, CallS.p (fun w' hS => in_any _ _ _ w') (fun h3 => ?_) (fun h3 => ?_)⟩ <;> conv => whnf
  rotate_left
  · (repeat' (first | (refine Sp.mk (fun hs => ?_) (fun hs => ?_) <;> first | (exfalso; omega) | (conv => whnf)) | (refine Ar.i (by omega) ?_; conv => whnf) | (refine NewS.mk (fun _ => ?_); conv => whnf) | (refine QuoS.nn (by omega) ?_; conv => whnf) | (refine RemS.nn (by omega) ?_; conv => whnf) | (refine QuietS.mk (by as_aux_lemma => kernel_rfl) ?_; conv => whnf) | refine RetS.mk (fun w' hS => ?_)))
    exact ⟨by rw [free_no (fun h => h3 h.2.2.2)], hS.below⟩
  have hF : FreeFor l m f u = freeIn l f u 0 m.toNat := if_pos ⟨hv, h1, h2, h3⟩
  rw [hF]
  obtain ⟨M, rfl⟩ : ∃ M : Nat, m = M := ⟨m.toNat, by omega⟩
  have hM : (M : Int).toNat = M := by omega
  rw [hM]
  refine LoopS.same (okS w []) [(8, 9), (31, 39)] [31] rfl (fun k : Nat => [I64 k]) (fun k => k ≤ M ∧ freeIn l f u 0 M = freeIn l f u k (M - k)) (fun k => M - k) 0 ⟨by omega, rfl⟩ ⟨rfl, trivial⟩ (LbTo.self rfl) (fun k g ⟨hk, hI⟩ => ?_)
  conv => whnf
  refine Sp.mk (fun h => ?_) (fun h => ?_) <;> conv => whnf
  · rw [freeIn_step l f u k M (by omega)] at hI
    refine NewS.mk (fun g2 => ?_)
    conv => whnf
    refine ⟨rfl, CallS.b (fun w' hS => containsFunc_any w' (hL.below hS.below) (q := fun y => decide (meets y k f u)) ⟨rfl, fun w2 h2 y hy => freeFor1_any y _ _ _ _ _ _ w2
      (cell_below h2 (box_cell0 hS 2 rfl rfl)) (cell_below h2 (box_cell0 hS 0 rfl rfl)) (cell_below h2 (box_cell0 hS 1 rfl rfl))⟩) (fun hb => ?_) (fun hb => ?_)⟩ <;> conv => whnf
    · have ht : taken l k f u := by
        obtain ⟨y, hy, hc⟩ := List.any_eq_true.1 hb
        exact ⟨y, hy, of_decide_eq_true hc⟩
      rw [if_pos ht] at hI
      (repeat' (first | (refine Sp.mk (fun hs => ?_) (fun hs => ?_) <;> first | (exfalso; omega) | (conv => whnf)) | (refine Ar.i (by omega) ?_; conv => whnf) | (refine NewS.mk (fun _ => ?_); conv => whnf) | (refine QuoS.nn (by omega) ?_; conv => whnf) | (refine RemS.nn (by omega) ?_; conv => whnf) | (refine QuietS.mk (by as_aux_lemma => kernel_rfl) ?_; conv => whnf) | refine RetS.mk (fun w' hS => ?_)))
      exact ⟨k + 1, ⟨by omega, hI⟩, by omega, ⟨rfl, trivial⟩, ⟨rfl, (LbTo.self rfl).ok⟩, RsTo.refl _⟩
    · have ht : ¬ taken l k f u := fun ⟨y, hy, hc⟩ => by
        have := List.any_eq_false.1 hb y hy
        simp [hc] at this
      rw [if_neg ht] at hI
      (repeat' (first | (refine Sp.mk (fun hs => ?_) (fun hs => ?_) <;> first | (exfalso; omega) | (conv => whnf)) | (refine Ar.i (by omega) ?_; conv => whnf) | (refine NewS.mk (fun _ => ?_); conv => whnf) | (refine QuoS.nn (by omega) ?_; conv => whnf) | (refine RemS.nn (by omega) ?_; conv => whnf) | (refine QuietS.mk (by as_aux_lemma => kernel_rfl) ?_; conv => whnf) | refine RetS.mk (fun w' hS => ?_)))
      exact ⟨by rw [hI], hS.below⟩
  · (repeat' (first | (refine Sp.mk (fun hs => ?_) (fun hs => ?_) <;> first | (exfalso; omega) | (conv => whnf)) | (refine Ar.i (by omega) ?_; conv => whnf) | (refine NewS.mk (fun _ => ?_); conv => whnf) | (refine QuoS.nn (by omega) ?_; conv => whnf) | (refine RemS.nn (by omega) ?_; conv => whnf) | (refine QuietS.mk (by as_aux_lemma => kernel_rfl) ?_; conv => whnf) | refine RetS.mk (fun w' hS => ?_)))
    have hkn : k = M := by omega
    rw [hkn, Nat.sub_self] at hI
    exact ⟨by rw [hI]; rfl, hS.below⟩

theorem sFree_any {A : Option Addr} {n c : Nat} {l : List LeaseD} (m f u : Int) (w : World) (hL : Leases w A n l) :
    Calls Try.prog 32 #[.slice A n c, .int .i64 m, .int .i64 f, .int .i64 u] w fun e w' => e = .returned (.int .i64 (FreeFor l m f u)) ∧ Below w.heap.size w w' := by
  have hl := hL.len
  have hle := hL.le
  refine enter (C := cxS w []) (okS w []) (St.start w) Try.func32 rfl rfl ?_; conv => whnf
  refine ⟨rfl, CallS.p (fun w' hS => svalid_any w' (hL.below hS.below)) (fun hv => ?_) (fun hv => ?_)⟩ <;> conv => whnf
  rotate_left
  · (repeat' (first | (refine Sp.mk (fun hs => ?_) (fun hs => ?_) <;> first | (exfalso; omega) | (conv => whnf)) | (refine Ar.i (by omega) ?_; conv => whnf) | (refine NewS.mk (fun _ => ?_); conv => whnf) | (refine QuoS.nn (by omega) ?_; conv => whnf) | (refine RemS.nn (by omega) ?_; conv => whnf) | (refine QuietS.mk (by as_aux_lemma => kernel_rfl) ?_; conv => whnf) | refine RetS.mk (fun w' hS => ?_)))
    exact ⟨by rw [free_no (fun h => hv h.1)], hS.below⟩
  refine ⟨rfl, CallS.p (fun w' hS => inRange_any _ _ _ w') (fun h1 => ?_) (fun h1 => ?_)⟩ <;> conv => whnf
  rotate_left
  · (repeat' (first | (refine Sp.mk (fun hs => ?_) (fun hs => ?_) <;> first | (exfalso; omega) | (conv => whnf)) | (refine Ar.i (by omega) ?_; conv => whnf) | (refine NewS.mk (fun _ => ?_); conv => whnf) | (refine QuoS.nn (by omega) ?_; conv => whnf) | (refine RemS.nn (by omega) ?_; conv => whnf) | (refine QuietS.mk (by as_aux_lemma => kernel_rfl) ?_; conv => whnf) | refine RetS.mk (fun w' hS => ?_)))
    exact ⟨by rw [free_no (fun h => h1 h.2.1)], hS.below⟩
  refine ⟨rfl, CallS.p (fun w' hS => inRange_any _ _ _ w') (fun h2 => ?_) (fun h2 => ?_)⟩ <;> conv => whnf
  rotate_left
  · (repeat' (first | (refine Sp.mk (fun hs => ?_) (fun hs => ?_) <;> first | (exfalso; omega) | (conv => whnf)) | (refine Ar.i (by omega) ?_; conv => whnf) | (refine NewS.mk (fun _ => ?_); conv => whnf) | (refine QuoS.nn (by omega) ?_; conv => whnf) | (refine RemS.nn (by omega) ?_; conv => whnf) | (refine QuietS.mk (by as_aux_lemma => kernel_rfl) ?_; conv => whnf) | refine RetS.mk (fun w' hS => ?_)))
    exact ⟨by rw [free_no (fun h => h2 h.2.2.1)], hS.below⟩
  refine Ar.i (by omega) ?_
  conv => whnf
  refine ⟨rfl, CallS.p (fun w' hS => inRange_any _ _ _ w') (fun h3 => ?_) (fun h3 => ?_)⟩ <;> conv => whnf
  rotate_left
  · (repeat' (first | (refine Sp.mk (fun hs => ?_) (fun hs => ?_) <;> first | (exfalso; omega) | (conv => whnf)) | (refine Ar.i (by omega) ?_; conv => whnf) | (refine NewS.mk (fun _ => ?_); conv => whnf) | (refine QuoS.nn (by omega) ?_; conv => whnf) | (refine RemS.nn (by omega) ?_; conv => whnf) | (refine QuietS.mk (by as_aux_lemma => kernel_rfl) ?_; conv => whnf) | refine RetS.mk (fun w' hS => ?_)))
    exact ⟨by rw [free_no (fun h => h3 h.2.2.2)], hS.below⟩
  have hF : FreeFor l m f u = freeIn l f u 0 m.toNat := if_pos ⟨hv, h1, h2, h3⟩
  rw [hF]
  obtain ⟨M, rfl⟩ : ∃ M : Nat, m = M := ⟨m.toNat, by omega⟩
  have hM : (M : Int).toNat = M := by omega
  rw [hM]
  refine LoopS.same (okS w []) [(8, 11), (32, 65)] [9] rfl (fun k : Nat => [I64 k]) (fun k => k ≤ M ∧ freeIn l f u 0 M = freeIn l f u k (M - k)) (fun k => M - k) 0 ⟨by omega, rfl⟩ ⟨rfl, trivial⟩ (LbTo.self rfl) (fun k g ⟨hk, hI⟩ => ?_)
  conv => whnf
  refine Sp.mk (fun h => ?_) (fun h => ?_) <;> conv => whnf
  · rw [freeIn_step l f u k M (by omega)] at hI
    refine LoopS.same (okS w []) [(10, 11), (37, 63)] [10, 11] rfl (fun s : Bool × Nat => [.bool s.1, I64 s.2]) (fun s => s.2 ≤ n ∧ (s.1 = true ↔ ∀ y ∈ l.take s.2, ¬ meets y k f u)) (fun s => n - s.2) (true, 0) ⟨by omega, by simp⟩ ⟨rfl, rfl, trivial⟩ (LbTo.self rfl) (fun s g2 ⟨hj, hJ⟩ => ?_)
    obtain ⟨b, j⟩ := s
    dsimp only at hj hJ ⊢
    conv => whnf
    refine Sp.mk (fun h5 => ?_) (fun h5 => ?_) <;> conv => whnf
    · obtain ⟨ad, x, rfl, hx, hxm, hc⟩ := hL.at_ (k := j) (by omega)
      have hnext : (∀ y ∈ l.take (j + 1), ¬ meets y k f u) ↔ (∀ y ∈ l.take j, ¬ meets y k f u) ∧ ¬ meets x k f u := by
        rw [take_snoc hx]
        simp only [List.mem_append, List.mem_singleton]
        constructor
        · exact fun h => ⟨fun y hy => h y (.inl hy), h x (.inr rfl)⟩
        · rintro ⟨h1, h2⟩ y (hy | rfl)
          · exact h1 y hy
          · exact h2
      cases b with
      | false =>
        conv => whnf
        (repeat' (first | (refine Sp.mk (fun hs => ?_) (fun hs => ?_) <;> first | (exfalso; omega) | (conv => whnf)) | (refine Ar.i (by omega) ?_; conv => whnf) | (refine NewS.mk (fun _ => ?_); conv => whnf) | (refine QuoS.nn (by omega) ?_; conv => whnf) | (refine RemS.nn (by omega) ?_; conv => whnf) | (refine QuietS.mk (by as_aux_lemma => kernel_rfl) ?_; conv => whnf) | refine RetS.mk (fun w' hS => ?_)))
        exact ⟨(false, j + 1), ⟨by dsimp only; omega, by dsimp only; rw [hnext, ← hJ]; simp⟩, by dsimp only; omega, ⟨rfl, rfl, trivial⟩, LbTo.self rfl, RsTo.refl _⟩
      | true =>
        have hJ' := hJ.1 rfl
        conv => whnf
        refine IdxS.at_ j rfl rfl (by omega) ?_
        conv => whnf
        refine LdS.at_ (fun w' hS => hS.cell0 (hc 0 _ rfl)) ?_
        conv => whnf
        refine Sp.mk (fun h6 => ?_) (fun h6 => ?_) <;> conv => whnf
        · refine IdxS.at_ j rfl rfl (by omega) ?_
          conv => whnf
          refine LdsS.at_ (vs := leaseV x) rfl (fun w' hS j u hu => hS.cell0 (hc j u hu)) ?_
          conv => whnf
          refine ⟨rfl, CallS.p (fun w' hS => smeets_any x ⟨0, 0, f, u⟩ w') (fun h7 => ?_) (fun h7 => ?_)⟩ <;> conv => whnf
          · (repeat' (first | (refine Sp.mk (fun hs => ?_) (fun hs => ?_) <;> first | (exfalso; omega) | (conv => whnf)) | (refine Ar.i (by omega) ?_; conv => whnf) | (refine NewS.mk (fun _ => ?_); conv => whnf) | (refine QuoS.nn (by omega) ?_; conv => whnf) | (refine RemS.nn (by omega) ?_; conv => whnf) | (refine QuietS.mk (by as_aux_lemma => kernel_rfl) ?_; conv => whnf) | refine RetS.mk (fun w' hS => ?_)))
            exact ⟨(false, j + 1), ⟨by dsimp only; omega, by dsimp only; rw [hnext]; simp only [Bool.false_eq_true, false_iff]; exact fun h => h.2 ⟨h6, h7⟩⟩, by dsimp only; omega, ⟨rfl, rfl, trivial⟩, LbTo.self rfl, RsTo.refl _⟩
          · (repeat' (first | (refine Sp.mk (fun hs => ?_) (fun hs => ?_) <;> first | (exfalso; omega) | (conv => whnf)) | (refine Ar.i (by omega) ?_; conv => whnf) | (refine NewS.mk (fun _ => ?_); conv => whnf) | (refine QuoS.nn (by omega) ?_; conv => whnf) | (refine RemS.nn (by omega) ?_; conv => whnf) | (refine QuietS.mk (by as_aux_lemma => kernel_rfl) ?_; conv => whnf) | refine RetS.mk (fun w' hS => ?_)))
            exact ⟨(true, j + 1), ⟨by dsimp only; omega, by dsimp only; rw [hnext]; simp only [true_iff]; exact ⟨hJ', fun h => h7 h.2⟩⟩, by dsimp only; omega, ⟨rfl, rfl, trivial⟩, LbTo.self rfl, RsTo.refl _⟩
        · (repeat' (first | (refine Sp.mk (fun hs => ?_) (fun hs => ?_) <;> first | (exfalso; omega) | (conv => whnf)) | (refine Ar.i (by omega) ?_; conv => whnf) | (refine NewS.mk (fun _ => ?_); conv => whnf) | (refine QuoS.nn (by omega) ?_; conv => whnf) | (refine RemS.nn (by omega) ?_; conv => whnf) | (refine QuietS.mk (by as_aux_lemma => kernel_rfl) ?_; conv => whnf) | refine RetS.mk (fun w' hS => ?_)))
          exact ⟨(true, j + 1), ⟨by dsimp only; omega, by dsimp only; rw [hnext]; simp only [true_iff]; exact ⟨hJ', fun h => h6 h.1⟩⟩, by dsimp only; omega, ⟨rfl, rfl, trivial⟩, LbTo.self rfl, RsTo.refl _⟩
    · have hjn : l.take j = l := List.take_of_length_le (by omega)
      rw [hjn] at hJ
      cases b with
      | false =>
        have ht : taken l k f u := by
          refine Classical.byContradiction fun hn => ?_
          have := hJ.2 (fun y hy hm => hn ⟨y, hy, hm⟩)
          cases this
        rw [if_pos ht] at hI
        conv => whnf
        (repeat' (first | (refine Sp.mk (fun hs => ?_) (fun hs => ?_) <;> first | (exfalso; omega) | (conv => whnf)) | (refine Ar.i (by omega) ?_; conv => whnf) | (refine NewS.mk (fun _ => ?_); conv => whnf) | (refine QuoS.nn (by omega) ?_; conv => whnf) | (refine RemS.nn (by omega) ?_; conv => whnf) | (refine QuietS.mk (by as_aux_lemma => kernel_rfl) ?_; conv => whnf) | refine RetS.mk (fun w' hS => ?_)))
        exact ⟨k + 1, ⟨by omega, hI⟩, by omega, ⟨rfl, trivial⟩, LbTo.self rfl, RsTo.refl _⟩
      | true =>
        have ht : ¬ taken l k f u := fun ⟨y, hy, hm⟩ => hJ.1 rfl y hy hm
        rw [if_neg ht] at hI
        conv => whnf
        (repeat' (first | (refine Sp.mk (fun hs => ?_) (fun hs => ?_) <;> first | (exfalso; omega) | (conv => whnf)) | (refine Ar.i (by omega) ?_; conv => whnf) | (refine NewS.mk (fun _ => ?_); conv => whnf) | (refine QuoS.nn (by omega) ?_; conv => whnf) | (refine RemS.nn (by omega) ?_; conv => whnf) | (refine QuietS.mk (by as_aux_lemma => kernel_rfl) ?_; conv => whnf) | refine RetS.mk (fun w' hS => ?_)))
        exact ⟨by rw [hI], hS.below⟩
  · (repeat' (first | (refine Sp.mk (fun hs => ?_) (fun hs => ?_) <;> first | (exfalso; omega) | (conv => whnf)) | (refine Ar.i (by omega) ?_; conv => whnf) | (refine NewS.mk (fun _ => ?_); conv => whnf) | (refine QuoS.nn (by omega) ?_; conv => whnf) | (refine RemS.nn (by omega) ?_; conv => whnf) | (refine QuietS.mk (by as_aux_lemma => kernel_rfl) ?_; conv => whnf) | refine RetS.mk (fun w' hS => ?_)))
    have hkn : k = M := by omega
    rw [hkn, Nat.sub_self] at hI
    exact ⟨by rw [hI]; rfl, hS.below⟩
end Go.Proofs.Ytgfblbpiokiagaa
