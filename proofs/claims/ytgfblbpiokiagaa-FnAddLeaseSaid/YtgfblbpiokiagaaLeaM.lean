/- The laws on LeasedTime, OwnerAt, BusyAt and FreeFor; conditions: none. -/
import Derived.Test.YtgfblbpiokiagaaLeaK
set_option maxRecDepth 100000
set_option linter.unusedVariables false
set_option linter.unusedSimpArgs false
namespace Go.Proofs.Ytgfblbpiokiagaa
open Eng Go Go.RowKit

theorem total_snoc (l : List LeaseD) (x : LeaseD) : total (l ++ [x]) = total l + (x.u - x.f) := by
  induction l with
  | nil => simp [total]
  | cons y l ih => simp only [List.cons_append, total, ih]; omega
def subs (l : List LeaseD) : Nat → Int
  | 0 => total l
  | k + 1 => subs l k - leased l k
theorem subs_bound {l : List LeaseD} (h : ∀ x ∈ l, okL x) (hl : l.length ≤ 13) : ∀ k : Nat, -13000 * (k : Int) ≤ subs l k ∧ subs l k ≤ 13000
  | 0 => by have := leased_nonneg h 0; simp only [subs]; omega
  | k + 1 => by
    have h1 := subs_bound h hl k
    have h2 := leased_nonneg h k
    simp only [subs]; omega

theorem lawLT (w : World) {A : Option Addr} {n c : Nat} {bs : List Int} (hb : Bytes w A n bs) (hn : n ≤ c) :
    Calls Try.prog 9 #[.slice A n c] w fun e w' => e = .returned (.bool true) ∧ Below w.heap.size w w' := by
  refine enter (C := cxS w []) (okS w []) (St.start w) Try.func9 rfl rfl ?_; conv => whnf
  (repeat' (first | (refine Sp.mk (fun hs => ?_) (fun hs => ?_) <;> first | (exfalso; omega) | (conv => whnf)) | (refine Ar.i (by omega) ?_; conv => whnf) | (refine NewS.mk (fun _ => ?_); conv => whnf) | (refine QuoS.nn (by omega) ?_; conv => whnf) | (refine RemS.nn (by omega) ?_; conv => whnf) | (refine QuietS.mk (by as_aux_lemma => kernel_rfl) ?_; conv => whnf) | refine RetS.mk (fun w' hS => ?_)))
  · exact ⟨rfl, hS.below⟩
  refine ⟨rfl, CallS.ownF (fun w' hS => drawLeased_any w' ⟨hS.arg hb.1, hb.2⟩ hn) (fun y b0 w0 hy hF => ?_)⟩
  obtain ⟨⟨A1, c1, l⟩, o⟩ := y
  obtain ⟨⟨h13, hcap⟩, ho0, ho1⟩ := hy
  dsimp only [DL.v] at h13 hcap ho0 ho1 hF ⊢
  conv => whnf
  refine ⟨rfl, CallS.ro (fun w' hS => iLeased_any o w' (St.dl hS 0 rfl (by omega)) hcap) ?_⟩
  conv => whnf
  refine ⟨rfl, CallS.ro (fun w' hS => sLeased_any o w' (St.dl hS 0 rfl (by omega))) ?_⟩
  conv => whnf
  refine Sp.mk (fun _ => ?_) (fun h => absurd rfl h)
  conv => whnf
  refine Sp.mk (fun h0 => ?_) (fun h0 => ?_) <;> conv => whnf
  · refine ⟨rfl, CallS.ro (fun w' hS => sLeased_any o w' (St.dl hS 0 rfl (by omega))) ?_⟩
    conv => whnf
    (repeat' (first | (refine Sp.mk (fun hs => ?_) (fun hs => ?_) <;> first | (exfalso; omega) | (conv => whnf)) | (refine Ar.i (by omega) ?_; conv => whnf) | (refine NewS.mk (fun _ => ?_); conv => whnf) | (refine QuoS.nn (by omega) ?_; conv => whnf) | (refine RemS.nn (by omega) ?_; conv => whnf) | (refine QuietS.mk (by as_aux_lemma => kernel_rfl) ?_; conv => whnf) | refine RetS.mk (fun w' hS => ?_)))
    exact ⟨rfl, hS.below⟩
  have hv : Valid l := by
    refine Classical.byContradiction fun hn => h0 ?_
    rw [LeasedTime, if_neg hn]; decide
  have hok := hv.1.1
  refine LoopS.same (okS w []) [(6, 7), (34, 52)] [6, 7] rfl (fun k : Nat => [I64 (total (l.take k)), I64 k]) (fun k => k ≤ l.length) (fun k => l.length - k) 0 (by omega) ⟨rfl, rfl, trivial⟩ (LbTo.refl_nil _) (fun k g hk => ?_)
  have hbk := leased_nonneg (l := l.take k) (fun x hx => hok x (List.mem_of_mem_take hx)) 0
  have hlk : (l.take k).length ≤ 13 := by rw [List.length_take]; omega
  conv => whnf
  refine Sp.mk (fun h => ?_) (fun h => ?_) <;> conv => whnf
  · have hkl : k < l.length := by omega
    obtain ⟨ga, rfl⟩ := row_some hF (by omega : 0 < l.length)
    obtain ⟨x, hx⟩ : ∃ x, l[k]? = some x := ⟨l[k], List.getElem?_eq_getElem hkl⟩
    have hxo := okL_bounds (hok x (List.mem_of_getElem? hx))
    have ht : total (l.take (k + 1)) = total (l.take k) + (x.u - x.f) := by rw [take_snoc hx, total_snoc]
    refine QuietS.mk (by as_aux_lemma => kernel_rfl) ?_
    conv => whnf
    refine IdxS.at_ k rfl rfl hkl ?_
    conv => whnf
    refine LdS.at_ (fun w' hS => (St.dl hS 0 rfl (by omega)).cell hx 3 _ rfl) ?_
    conv => whnf
    refine Ar.i (by omega) ?_
    conv => whnf
    refine IdxS.at_ k rfl rfl hkl ?_
    conv => whnf
    refine LdS.at_ (fun w' hS => (St.dl hS 0 rfl (by omega)).cell hx 2 _ rfl) ?_
    conv => whnf
    (repeat' (first | (refine Sp.mk (fun hs => ?_) (fun hs => ?_) <;> first | (exfalso; omega) | (conv => whnf)) | (refine Ar.i (by omega) ?_; conv => whnf) | (refine NewS.mk (fun _ => ?_); conv => whnf) | (refine QuoS.nn (by omega) ?_; conv => whnf) | (refine RemS.nn (by omega) ?_; conv => whnf) | (refine QuietS.mk (by as_aux_lemma => kernel_rfl) ?_; conv => whnf) | refine RetS.mk (fun w' hS => ?_)))
    exact ⟨k + 1, by omega, by omega, ⟨congrArg (fun z => SV.v (Value.int .i64 z)) (show total (l.take k) + x.u - x.f = total (l.take (k + 1)) by omega), rfl, trivial⟩, LbTo.refl_nil _, RsTo.refl _⟩
  have e1 : l.take k = l := List.take_of_length_le (by omega)
  rw [e1]
  refine LoopS.same (okS w []) [(6, 6), (8, 8), (53, 61)] [6, 8] rfl (fun k : Nat => [I64 (subs l k), I64 k]) (fun k => k ≤ 5) (fun k => 5 - k) 0 (by omega) ⟨rfl, rfl, trivial⟩ (LbTo.refl_nil _) (fun k g hk => ?_)
  have hsb := subs_bound hok h13 k
  have hlb := leased_nonneg hok k
  conv => whnf
  refine Sp.mk (fun h => ?_) (fun h => ?_) <;> conv => whnf
  · refine ⟨rfl, CallS.ro (fun w' hS => iLeased_any k w' (St.dl hS 0 rfl (by omega)) hcap) ?_⟩
    have e2 : LeasedTime l k = leased l k := if_pos hv
    rw [e2]
    conv => whnf
    (repeat' (first | (refine Sp.mk (fun hs => ?_) (fun hs => ?_) <;> first | (exfalso; omega) | (conv => whnf)) | (refine Ar.i (by omega) ?_; conv => whnf) | (refine NewS.mk (fun _ => ?_); conv => whnf) | (refine QuoS.nn (by omega) ?_; conv => whnf) | (refine RemS.nn (by omega) ?_; conv => whnf) | (refine QuietS.mk (by as_aux_lemma => kernel_rfl) ?_; conv => whnf) | refine RetS.mk (fun w' hS => ?_)))
    exact ⟨k + 1, by omega, by omega, ⟨rfl, rfl, trivial⟩, LbTo.refl_nil _, RsTo.refl _⟩
  · have h5 : k = 5 := by omega
    subst h5
    have h6 : subs l 5 = 0 := law_total hok
    (repeat' (first | (refine Sp.mk (fun hs => ?_) (fun hs => ?_) <;> first | (exfalso; omega) | (conv => whnf)) | (refine Ar.i (by omega) ?_; conv => whnf) | (refine NewS.mk (fun _ => ?_); conv => whnf) | (refine QuoS.nn (by omega) ?_; conv => whnf) | (refine RemS.nn (by omega) ?_; conv => whnf) | (refine QuietS.mk (by as_aux_lemma => kernel_rfl) ?_; conv => whnf) | refine RetS.mk (fun w' hS => ?_)))
    exact ⟨rfl, hS.below⟩

theorem lawLTM (w : World) {A : Option Addr} {n c : Nat} {bs : List Int} (hb : Bytes w A n bs) (hn : n ≤ c) :
    Calls Try.prog 10 #[.slice A n c] w fun e w' => e = .returned (.bool true) ∧ Below w.heap.size w w' := by
  refine enter (C := cxS w []) (okS w []) (St.start w) Try.func10 rfl rfl ?_; conv => whnf
  (repeat' (first | (refine Sp.mk (fun hs => ?_) (fun hs => ?_) <;> first | (exfalso; omega) | (conv => whnf)) | (refine Ar.i (by omega) ?_; conv => whnf) | (refine NewS.mk (fun _ => ?_); conv => whnf) | (refine QuoS.nn (by omega) ?_; conv => whnf) | (refine RemS.nn (by omega) ?_; conv => whnf) | (refine QuietS.mk (by as_aux_lemma => kernel_rfl) ?_; conv => whnf) | refine RetS.mk (fun w' hS => ?_)))
  · exact ⟨rfl, hS.below⟩
  refine ⟨rfl, CallS.ownF (fun w' hS => drawLeased_any w' ⟨hS.arg hb.1, hb.2⟩ hn) (fun y b0 w0 hy hF => ?_)⟩
  obtain ⟨⟨A1, c1, l⟩, o⟩ := y
  obtain ⟨⟨h13, hcap⟩, ho0, ho1⟩ := hy
  dsimp only [DL.v] at h13 hcap ho0 ho1 hF ⊢
  conv => whnf
  refine ⟨rfl, CallS.ro (fun w' hS => iLeased_any o w' (St.dl hS 0 rfl (by omega)) hcap) ?_⟩
  conv => whnf
  refine ⟨rfl, CallS.ro (fun w' hS => sLeased_any o w' (St.dl hS 0 rfl (by omega))) ?_⟩
  conv => whnf
  refine Sp.mk (fun _ => ?_) (fun h => absurd rfl h)
  conv => whnf
  refine Sp.mk (fun h0 => ?_) (fun h0 => ?_) <;> conv => whnf
  · refine ⟨rfl, CallS.ro (fun w' hS => sLeased_any o w' (St.dl hS 0 rfl (by omega))) ?_⟩
    conv => whnf
    (repeat' (first | (refine Sp.mk (fun hs => ?_) (fun hs => ?_) <;> first | (exfalso; omega) | (conv => whnf)) | (refine Ar.i (by omega) ?_; conv => whnf) | (refine NewS.mk (fun _ => ?_); conv => whnf) | (refine QuoS.nn (by omega) ?_; conv => whnf) | (refine RemS.nn (by omega) ?_; conv => whnf) | (refine QuietS.mk (by as_aux_lemma => kernel_rfl) ?_; conv => whnf) | refine RetS.mk (fun w' hS => ?_)))
    exact ⟨rfl, hS.below⟩
  have hv : Valid l := by
    refine Classical.byContradiction fun hn => h0 ?_
    rw [LeasedTime, if_neg hn]; decide
  have hok := hv.1.1
  have e2 : LeasedTime l o = leased l o := if_pos hv
  rw [e2]
  have hm := law_most hv.1 o
  have hs := leased_some hok o
  refine LoopS.same (okS w []) [(6, 7), (33, 48)] [6, 7] rfl (fun s : Bool × Nat => [.bool s.1, I64 s.2]) (fun s => s.2 ≤ l.length ∧ (s.1 = true ↔ ∃ x ∈ l.take s.2, x.o = o)) (fun s => l.length - s.2) (false, 0) ⟨by omega, by simp⟩ ⟨rfl, rfl, trivial⟩ (LbTo.refl_nil _) (fun s g ⟨hk, hI⟩ => ?_)
  obtain ⟨b, k⟩ := s
  dsimp only at hk hI ⊢
  conv => whnf
  refine Sp.mk (fun h => ?_) (fun h => ?_) <;> conv => whnf
  · have hkl : k < l.length := by omega
    obtain ⟨ga, rfl⟩ := row_some hF (by omega : 0 < l.length)
    obtain ⟨x, hx⟩ : ∃ x, l[k]? = some x := ⟨l[k], List.getElem?_eq_getElem hkl⟩
    have hnext : (∃ y ∈ l.take (k + 1), y.o = o) ↔ (∃ y ∈ l.take k, y.o = o) ∨ x.o = o := by
      rw [take_snoc hx]
      simp only [List.mem_append, List.mem_singleton]
      constructor
      · rintro ⟨y, hy | rfl, h⟩
        · exact .inl ⟨y, hy, h⟩
        · exact .inr h
      · rintro (⟨y, hy, h⟩ | h)
        · exact ⟨y, .inl hy, h⟩
        · exact ⟨x, .inr rfl, h⟩
    cases b with
    | true =>
      conv => whnf
      (repeat' (first | (refine Sp.mk (fun hs => ?_) (fun hs => ?_) <;> first | (exfalso; omega) | (conv => whnf)) | (refine Ar.i (by omega) ?_; conv => whnf) | (refine NewS.mk (fun _ => ?_); conv => whnf) | (refine QuoS.nn (by omega) ?_; conv => whnf) | (refine RemS.nn (by omega) ?_; conv => whnf) | (refine QuietS.mk (by as_aux_lemma => kernel_rfl) ?_; conv => whnf) | refine RetS.mk (fun w' hS => ?_)))
      exact ⟨(true, k + 1), ⟨by dsimp only; omega, by dsimp only; rw [hnext, ← hI]; simp⟩, by dsimp only; omega, ⟨rfl, rfl, trivial⟩, LbTo.refl_nil _, RsTo.refl _⟩
    | false =>
      conv => whnf
      refine IdxS.at_ k rfl rfl hkl ?_
      conv => whnf
      refine LdS.at_ (fun w' hS => (St.dl hS 0 rfl (by omega)).cell hx 1 _ rfl) ?_
      conv => whnf
      refine Sp.mk (fun h2 => ?_) (fun h2 => ?_) <;> conv => whnf
      · (repeat' (first | (refine Sp.mk (fun hs => ?_) (fun hs => ?_) <;> first | (exfalso; omega) | (conv => whnf)) | (refine Ar.i (by omega) ?_; conv => whnf) | (refine NewS.mk (fun _ => ?_); conv => whnf) | (refine QuoS.nn (by omega) ?_; conv => whnf) | (refine RemS.nn (by omega) ?_; conv => whnf) | (refine QuietS.mk (by as_aux_lemma => kernel_rfl) ?_; conv => whnf) | refine RetS.mk (fun w' hS => ?_)))
        exact ⟨(true, k + 1), ⟨by dsimp only; omega, by dsimp only; rw [hnext]; simp [h2]⟩, by dsimp only; omega, ⟨rfl, rfl, trivial⟩, LbTo.refl_nil _, RsTo.refl _⟩
      · (repeat' (first | (refine Sp.mk (fun hs => ?_) (fun hs => ?_) <;> first | (exfalso; omega) | (conv => whnf)) | (refine Ar.i (by omega) ?_; conv => whnf) | (refine NewS.mk (fun _ => ?_); conv => whnf) | (refine QuoS.nn (by omega) ?_; conv => whnf) | (refine RemS.nn (by omega) ?_; conv => whnf) | (refine QuietS.mk (by as_aux_lemma => kernel_rfl) ?_; conv => whnf) | refine RetS.mk (fun w' hS => ?_)))
        exact ⟨(false, k + 1), ⟨by dsimp only; omega, by dsimp only; rw [hnext, ← hI]; simp [h2]⟩, by dsimp only; omega, ⟨rfl, rfl, trivial⟩, LbTo.refl_nil _, RsTo.refl _⟩
  have e1 : l.take k = l := List.take_of_length_le (by omega)
  rw [e1] at hI
  rw [← hI] at hs
  have hl0 := (leased_nonneg hok o).1
  cases b with
  | true =>
    have hs := hs.2 rfl
    conv => whnf
    (repeat' (first | (refine Sp.mk (fun hs => ?_) (fun hs => ?_) <;> first | (exfalso; omega) | (conv => whnf)) | (refine Ar.i (by omega) ?_; conv => whnf) | (refine NewS.mk (fun _ => ?_); conv => whnf) | (refine QuoS.nn (by omega) ?_; conv => whnf) | (refine RemS.nn (by omega) ?_; conv => whnf) | (refine QuietS.mk (by as_aux_lemma => kernel_rfl) ?_; conv => whnf) | refine RetS.mk (fun w' hS => ?_)))
    exact ⟨rfl, hS.below⟩
  | false =>
    have hs : ¬ 0 < leased l o := fun h => by have := hs.1 h; cases this
    conv => whnf
    (repeat' (first | (refine Sp.mk (fun hs => ?_) (fun hs => ?_) <;> first | (exfalso; omega) | (conv => whnf)) | (refine Ar.i (by omega) ?_; conv => whnf) | (refine NewS.mk (fun _ => ?_); conv => whnf) | (refine QuoS.nn (by omega) ?_; conv => whnf) | (refine RemS.nn (by omega) ?_; conv => whnf) | (refine QuietS.mk (by as_aux_lemma => kernel_rfl) ?_; conv => whnf) | refine RetS.mk (fun w' hS => ?_)))
    exact ⟨rfl, hS.below⟩

theorem lawOA (w : World) {A : Option Addr} {n c : Nat} {bs : List Int} (hb : Bytes w A n bs) (hn : n ≤ c) :
    Calls Try.prog 11 #[.slice A n c] w fun e w' => e = .returned (.bool true) ∧ Below w.heap.size w w' := by
  refine enter (C := cxS w []) (okS w []) (St.start w) Try.func11 rfl rfl ?_; conv => whnf
  (repeat' (first | (refine Sp.mk (fun hs => ?_) (fun hs => ?_) <;> first | (exfalso; omega) | (conv => whnf)) | (refine Ar.i (by omega) ?_; conv => whnf) | (refine NewS.mk (fun _ => ?_); conv => whnf) | (refine QuoS.nn (by omega) ?_; conv => whnf) | (refine RemS.nn (by omega) ?_; conv => whnf) | (refine QuietS.mk (by as_aux_lemma => kernel_rfl) ?_; conv => whnf) | refine RetS.mk (fun w' hS => ?_)))
  · exact ⟨rfl, hS.below⟩
  refine ⟨rfl, CallS.ownF (fun w' hS => drawOwner_any w' ⟨hS.arg hb.1, hb.2⟩ hn) (fun y b0 w0 hy hF => ?_)⟩
  obtain ⟨⟨A1, c1, l⟩, cn, t⟩ := y
  obtain ⟨⟨h13, hcap⟩, hcn, ht⟩ := hy
  dsimp only [DL.v] at h13 hcap hcn ht hF ⊢
  conv => whnf
  refine ⟨rfl, CallS.ro (fun w' hS => iOwnerAt_any cn t w' (St.dl hS 0 rfl (by omega)) hcap) ?_⟩
  conv => whnf
  refine ⟨rfl, CallS.ro (fun w' hS => sOwnerAt_any cn t w' (St.dl hS 0 rfl (by omega))) ?_⟩
  conv => whnf
  refine Sp.mk (fun _ => ?_) (fun h => absurd rfl h)
  conv => whnf
  refine ⟨rfl, CallS.p (fun w' hS => iValid_any w' (St.dl hS 0 rfl (by omega)) hcap) (fun hv => ?_) (fun hv => ?_)⟩ <;> conv => whnf
  rotate_left
  · refine ⟨rfl, CallS.ro (fun w' hS => sOwnerAt_any cn t w' (St.dl hS 0 rfl (by omega))) ?_⟩
    conv => whnf
    (repeat' (first | (refine Sp.mk (fun hs => ?_) (fun hs => ?_) <;> first | (exfalso; omega) | (conv => whnf)) | (refine Ar.i (by omega) ?_; conv => whnf) | (refine NewS.mk (fun _ => ?_); conv => whnf) | (refine QuoS.nn (by omega) ?_; conv => whnf) | (refine RemS.nn (by omega) ?_; conv => whnf) | (refine QuietS.mk (by as_aux_lemma => kernel_rfl) ?_; conv => whnf) | refine RetS.mk (fun w' hS => ?_)))
    exact ⟨rfl, hS.below⟩
  have hok := hv.1.1
  refine LoopS.same (okS w []) [(2, 2), (7, 8), (39, 69)] [7] rfl (fun k : Nat => [I64 k]) (fun k => k ≤ l.length) (fun k => l.length - k) 0 (by omega) ⟨rfl, trivial⟩ (LbTo.refl_nil _) (fun k g hk => ?_)
  conv => whnf
  refine Sp.mk (fun h => ?_) (fun h => ?_) <;> conv => whnf
  · have hkl : k < l.length := by omega
    obtain ⟨ga, rfl⟩ := row_some hF (by omega : 0 < l.length)
    obtain ⟨x, hx⟩ : ∃ x, l[k]? = some x := ⟨l[k], List.getElem?_eq_getElem hkl⟩
    have hxm := List.mem_of_getElem? hx
    have hxo := okL_bounds (hok x hxm)
    have e1 : OwnerAt l x.c x.f = x.o := by rw [OwnerAt, if_pos hv]; exact ownerAt_has hv.1 hxm (by unfold has; omega)
    have e2 : OwnerAt l x.c (x.u - 1) = x.o := by rw [OwnerAt, if_pos hv]; exact ownerAt_has hv.1 hxm (by unfold has; omega)
    refine IdxS.at_ k rfl rfl hkl ?_
    conv => whnf
    refine LdsS.at_ (vs := leaseV x) rfl (fun w' hS => (St.dl hS 0 rfl (by omega)).cell hx) ?_
    conv => whnf
    refine NewS.mk (fun g0 => ?_)
    conv => whnf
    refine QuietS.mk (by as_aux_lemma => kernel_rfl) ?_
    conv => whnf
    refine ⟨rfl, CallQ.ro (fun w' hS => iOwnerAt_any x.c x.f w' (St.dl hS 0 rfl (by omega)) hcap) ?_⟩
    rw [e1]
    conv => whnf
    refine Sp.mk (fun _ => ?_) (fun h => absurd rfl h)
    conv => whnf
    refine Ar.i (by omega) ?_
    conv => whnf
    refine ⟨rfl, CallQ.ro (fun w' hS => iOwnerAt_any x.c (x.u - 1) w' (St.dl hS 0 rfl (by omega)) hcap) ?_⟩
    rw [e2]
    conv => whnf
    refine Sp.mk (fun _ => ?_) (fun h => absurd rfl h)
    conv => whnf
    (repeat' (first | (refine Sp.mk (fun hs => ?_) (fun hs => ?_) <;> first | (exfalso; omega) | (conv => whnf)) | (refine Ar.i (by omega) ?_; conv => whnf) | (refine NewS.mk (fun _ => ?_); conv => whnf) | (refine QuoS.nn (by omega) ?_; conv => whnf) | (refine RemS.nn (by omega) ?_; conv => whnf) | (refine QuietS.mk (by as_aux_lemma => kernel_rfl) ?_; conv => whnf) | refine RetS.mk (fun w' hS => ?_)))
    exact ⟨k + 1, by omega, by omega, ⟨rfl, trivial⟩, LbTo.refl_nil _, RsTo.refl _⟩
  · have hr := ownerAt_range hok cn t
    have e3 : OwnerAt l cn t = ownerAt l cn t := if_pos hv
    (repeat' (first | (refine Sp.mk (fun hs => ?_) (fun hs => ?_) <;> first | (exfalso; omega) | (conv => whnf)) | (refine Ar.i (by omega) ?_; conv => whnf) | (refine NewS.mk (fun _ => ?_); conv => whnf) | (refine QuoS.nn (by omega) ?_; conv => whnf) | (refine RemS.nn (by omega) ?_; conv => whnf) | (refine QuietS.mk (by as_aux_lemma => kernel_rfl) ?_; conv => whnf) | refine RetS.mk (fun w' hS => ?_)))
    exact ⟨rfl, hS.below⟩

theorem lawOAN (w : World) {A : Option Addr} {n c : Nat} {bs : List Int} (hb : Bytes w A n bs) (hn : n ≤ c) :
    Calls Try.prog 12 #[.slice A n c] w fun e w' => e = .returned (.bool true) ∧ Below w.heap.size w w' := by
  refine enter (C := cxS w []) (okS w []) (St.start w) Try.func12 rfl rfl ?_; conv => whnf
  (repeat' (first | (refine Sp.mk (fun hs => ?_) (fun hs => ?_) <;> first | (exfalso; omega) | (conv => whnf)) | (refine Ar.i (by omega) ?_; conv => whnf) | (refine NewS.mk (fun _ => ?_); conv => whnf) | (refine QuoS.nn (by omega) ?_; conv => whnf) | (refine RemS.nn (by omega) ?_; conv => whnf) | (refine QuietS.mk (by as_aux_lemma => kernel_rfl) ?_; conv => whnf) | refine RetS.mk (fun w' hS => ?_)))
  · exact ⟨rfl, hS.below⟩
  refine ⟨rfl, CallS.ownF (fun w' hS => drawOwner_any w' ⟨hS.arg hb.1, hb.2⟩ hn) (fun y b0 w0 hy hF => ?_)⟩
  obtain ⟨⟨A1, c1, l⟩, cn, t⟩ := y
  obtain ⟨⟨h13, hcap⟩, hcn, ht⟩ := hy
  dsimp only [DL.v] at h13 hcap hcn ht hF ⊢
  conv => whnf
  refine ⟨rfl, CallS.ro (fun w' hS => iOwnerAt_any cn t w' (St.dl hS 0 rfl (by omega)) hcap) ?_⟩
  conv => whnf
  refine ⟨rfl, CallS.ro (fun w' hS => sOwnerAt_any cn t w' (St.dl hS 0 rfl (by omega))) ?_⟩
  conv => whnf
  refine Sp.mk (fun _ => ?_) (fun h => absurd rfl h)
  conv => whnf
  refine ⟨rfl, CallS.p (fun w' hS => iValid_any w' (St.dl hS 0 rfl (by omega)) hcap) (fun hv => ?_) (fun hv => ?_)⟩ <;> conv => whnf
  rotate_left
  · refine ⟨rfl, CallS.ro (fun w' hS => sOwnerAt_any cn t w' (St.dl hS 0 rfl (by omega))) ?_⟩
    conv => whnf
    (repeat' (first | (refine Sp.mk (fun hs => ?_) (fun hs => ?_) <;> first | (exfalso; omega) | (conv => whnf)) | (refine Ar.i (by omega) ?_; conv => whnf) | (refine NewS.mk (fun _ => ?_); conv => whnf) | (refine QuoS.nn (by omega) ?_; conv => whnf) | (refine RemS.nn (by omega) ?_; conv => whnf) | (refine QuietS.mk (by as_aux_lemma => kernel_rfl) ?_; conv => whnf) | refine RetS.mk (fun w' hS => ?_)))
    exact ⟨rfl, hS.below⟩
  have hok := hv.1.1
  have e0 : OwnerAt l cn t = ownerAt l cn t := if_pos hv
  rw [e0]
  have hnn := ownerAt_nonneg hv.1 (c := cn) (t := t)
  refine LoopS.same (okS w []) [(7, 8), (39, 72)] [7, 8] rfl (fun s : Bool × Nat => [.bool s.1, I64 s.2]) (fun s => s.2 ≤ l.length ∧ (s.1 = true ↔ ∃ x ∈ l.take s.2, has x cn t)) (fun s => l.length - s.2) (false, 0) ⟨by omega, by simp⟩ ⟨rfl, rfl, trivial⟩ (LbTo.refl_nil _) (fun s g ⟨hk, hI⟩ => ?_)
  obtain ⟨b, k⟩ := s
  dsimp only at hk hI ⊢
  conv => whnf
  refine Sp.mk (fun h => ?_) (fun h => ?_) <;> conv => whnf
  · have hkl : k < l.length := by omega
    obtain ⟨ga, rfl⟩ := row_some hF (by omega : 0 < l.length)
    obtain ⟨x, hx⟩ : ∃ x, l[k]? = some x := ⟨l[k], List.getElem?_eq_getElem hkl⟩
    have hnext : (∃ y ∈ l.take (k + 1), has y cn t) ↔ (∃ y ∈ l.take k, has y cn t) ∨ has x cn t := by
      rw [take_snoc hx]
      simp only [List.mem_append, List.mem_singleton]
      constructor
      · rintro ⟨y, hy | rfl, h⟩
        · exact .inl ⟨y, hy, h⟩
        · exact .inr h
      · rintro (⟨y, hy, h⟩ | h)
        · exact ⟨y, .inl hy, h⟩
        · exact ⟨x, .inr rfl, h⟩
    cases b with
    | true =>
      conv => whnf
      (repeat' (first | (refine Sp.mk (fun hs => ?_) (fun hs => ?_) <;> first | (exfalso; omega) | (conv => whnf)) | (refine Ar.i (by omega) ?_; conv => whnf) | (refine NewS.mk (fun _ => ?_); conv => whnf) | (refine QuoS.nn (by omega) ?_; conv => whnf) | (refine RemS.nn (by omega) ?_; conv => whnf) | (refine QuietS.mk (by as_aux_lemma => kernel_rfl) ?_; conv => whnf) | refine RetS.mk (fun w' hS => ?_)))
      exact ⟨(true, k + 1), ⟨by dsimp only; omega, by dsimp only; rw [hnext, ← hI]; simp⟩, by dsimp only; omega, ⟨rfl, rfl, trivial⟩, LbTo.refl_nil _, RsTo.refl _⟩
    | false =>
      have hno : ¬ has x cn t → ((false = true) ↔ ∃ y ∈ l.take (k + 1), has y cn t) := fun h => by rw [hnext, ← hI]; simp [h]
      conv => whnf
      refine IdxS.at_ k rfl rfl hkl ?_
      conv => whnf
      refine LdS.at_ (fun w' hS => (St.dl hS 0 rfl (by omega)).cell hx 0 _ rfl) ?_
      conv => whnf
      refine Sp.mk (fun h2 => ?_) (fun h2 => ?_) <;> conv => whnf
      rotate_left
      · (repeat' (first | (refine Sp.mk (fun hs => ?_) (fun hs => ?_) <;> first | (exfalso; omega) | (conv => whnf)) | (refine Ar.i (by omega) ?_; conv => whnf) | (refine NewS.mk (fun _ => ?_); conv => whnf) | (refine QuoS.nn (by omega) ?_; conv => whnf) | (refine RemS.nn (by omega) ?_; conv => whnf) | (refine QuietS.mk (by as_aux_lemma => kernel_rfl) ?_; conv => whnf) | refine RetS.mk (fun w' hS => ?_)))
        exact ⟨(false, k + 1), ⟨by dsimp only; omega, hno (fun h => h2 h.1)⟩, by dsimp only; omega, ⟨rfl, rfl, trivial⟩, LbTo.refl_nil _, RsTo.refl _⟩
      refine IdxS.at_ k rfl rfl hkl ?_
      conv => whnf
      refine LdS.at_ (fun w' hS => (St.dl hS 0 rfl (by omega)).cell hx 2 _ rfl) ?_
      conv => whnf
      refine Sp.mk (fun h3 => ?_) (fun h3 => ?_) <;> conv => whnf
      rotate_left
      · (repeat' (first | (refine Sp.mk (fun hs => ?_) (fun hs => ?_) <;> first | (exfalso; omega) | (conv => whnf)) | (refine Ar.i (by omega) ?_; conv => whnf) | (refine NewS.mk (fun _ => ?_); conv => whnf) | (refine QuoS.nn (by omega) ?_; conv => whnf) | (refine RemS.nn (by omega) ?_; conv => whnf) | (refine QuietS.mk (by as_aux_lemma => kernel_rfl) ?_; conv => whnf) | refine RetS.mk (fun w' hS => ?_)))
        exact ⟨(false, k + 1), ⟨by dsimp only; omega, hno (fun h => h3 h.2.1)⟩, by dsimp only; omega, ⟨rfl, rfl, trivial⟩, LbTo.refl_nil _, RsTo.refl _⟩
      refine IdxS.at_ k rfl rfl hkl ?_
      conv => whnf
      refine LdS.at_ (fun w' hS => (St.dl hS 0 rfl (by omega)).cell hx 3 _ rfl) ?_
      conv => whnf
      refine Sp.mk (fun h4 => ?_) (fun h4 => ?_) <;> conv => whnf
      rotate_left
      · (repeat' (first | (refine Sp.mk (fun hs => ?_) (fun hs => ?_) <;> first | (exfalso; omega) | (conv => whnf)) | (refine Ar.i (by omega) ?_; conv => whnf) | (refine NewS.mk (fun _ => ?_); conv => whnf) | (refine QuoS.nn (by omega) ?_; conv => whnf) | (refine RemS.nn (by omega) ?_; conv => whnf) | (refine QuietS.mk (by as_aux_lemma => kernel_rfl) ?_; conv => whnf) | refine RetS.mk (fun w' hS => ?_)))
        exact ⟨(false, k + 1), ⟨by dsimp only; omega, hno (fun h => h4 h.2.2)⟩, by dsimp only; omega, ⟨rfl, rfl, trivial⟩, LbTo.refl_nil _, RsTo.refl _⟩
      (repeat' (first | (refine Sp.mk (fun hs => ?_) (fun hs => ?_) <;> first | (exfalso; omega) | (conv => whnf)) | (refine Ar.i (by omega) ?_; conv => whnf) | (refine NewS.mk (fun _ => ?_); conv => whnf) | (refine QuoS.nn (by omega) ?_; conv => whnf) | (refine RemS.nn (by omega) ?_; conv => whnf) | (refine QuietS.mk (by as_aux_lemma => kernel_rfl) ?_; conv => whnf) | refine RetS.mk (fun w' hS => ?_)))
      exact ⟨(true, k + 1), ⟨by dsimp only; omega, by dsimp only; rw [hnext]; simp only [true_iff]; exact .inr ⟨h2, h3, h4⟩⟩, by dsimp only; omega, ⟨rfl, rfl, trivial⟩, LbTo.refl_nil _, RsTo.refl _⟩
  have e1 : l.take k = l := List.take_of_length_le (by omega)
  rw [e1, ← hnn] at hI
  have hr1 := ownerAt_range hok cn (-1)
  have hr2 := ownerAt_range hok cn 1000
  have f1 : OwnerAt l cn (-1) = ownerAt l cn (-1) := if_pos hv
  have f2 : OwnerAt l cn 1000 = ownerAt l cn 1000 := if_pos hv
  cases b with
  | true =>
    have hI := hI.1 rfl
    conv => whnf
    refine Sp.mk (fun _ => ?_) (fun h => absurd hI h)
    conv => whnf
    refine ⟨rfl, CallS.ro (fun w' hS => iOwnerAt_any cn (-1) w' (St.dl hS 0 rfl (by omega)) hcap) ?_⟩
    conv => whnf
    refine Sp.mk (fun _ => ?_) (fun h => absurd (by omega) h)
    conv => whnf
    refine ⟨rfl, CallS.ro (fun w' hS => iOwnerAt_any cn 1000 w' (St.dl hS 0 rfl (by omega)) hcap) ?_⟩
    conv => whnf
    (repeat' (first | (refine Sp.mk (fun hs => ?_) (fun hs => ?_) <;> first | (exfalso; omega) | (conv => whnf)) | (refine Ar.i (by omega) ?_; conv => whnf) | (refine NewS.mk (fun _ => ?_); conv => whnf) | (refine QuoS.nn (by omega) ?_; conv => whnf) | (refine RemS.nn (by omega) ?_; conv => whnf) | (refine QuietS.mk (by as_aux_lemma => kernel_rfl) ?_; conv => whnf) | refine RetS.mk (fun w' hS => ?_)))
    exact ⟨rfl, hS.below⟩
  | false =>
    have hI : ¬ 0 ≤ ownerAt l cn t := fun h => by have := hI.2 h; cases this
    conv => whnf
    refine Sp.mk (fun h => absurd h hI) (fun _ => ?_)
    conv => whnf
    refine ⟨rfl, CallS.ro (fun w' hS => iOwnerAt_any cn (-1) w' (St.dl hS 0 rfl (by omega)) hcap) ?_⟩
    conv => whnf
    refine Sp.mk (fun _ => ?_) (fun h => absurd (by omega) h)
    conv => whnf
    refine ⟨rfl, CallS.ro (fun w' hS => iOwnerAt_any cn 1000 w' (St.dl hS 0 rfl (by omega)) hcap) ?_⟩
    conv => whnf
    (repeat' (first | (refine Sp.mk (fun hs => ?_) (fun hs => ?_) <;> first | (exfalso; omega) | (conv => whnf)) | (refine Ar.i (by omega) ?_; conv => whnf) | (refine NewS.mk (fun _ => ?_); conv => whnf) | (refine QuoS.nn (by omega) ?_; conv => whnf) | (refine RemS.nn (by omega) ?_; conv => whnf) | (refine QuietS.mk (by as_aux_lemma => kernel_rfl) ?_; conv => whnf) | refine RetS.mk (fun w' hS => ?_)))
    exact ⟨rfl, hS.below⟩
end Go.Proofs.Ytgfblbpiokiagaa
