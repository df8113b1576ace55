/- The laws on ValidLeases and LeasedTime; conditions: none. -/
import Derived.Test.YtgfblbpiokiagaaLeaJ
set_option maxRecDepth 100000
set_option linter.unusedVariables false
set_option linter.unusedSimpArgs false
namespace Go.Proofs.Ytgfblbpiokiagaa
open Eng Go Go.RowKit

theorem St.dl {w0 w : World} {S0 : List Nat} {lb : List Box} {rs : List Own} {A : Option Addr} {c : Nat} {l : List LeaseD} (hS : Eng.St w0 S0 lb rs w) (i : Nat) (hi : rs[i]? = some (leaRow ⟨A, c, l⟩)) (hl : l.length ≤ 2000000) : Leases w A l.length l := ⟨hS.rowR (List.mem_of_getElem? hi), hl⟩
theorem Leases.cut {w : World} {A : Option Addr} {n : Nat} {l : List LeaseD} (h : Leases w A n l) {k c : Nat} (hk : k ≤ n) (hc : n ≤ c) : Leases w (if c = k then A else A.map (·.add (k * 4))) (n - k) (l.drop k) := by
  have hl := h.len
  have h1 := h.rd.cut hk (Nat.le_refl n) hc
  rw [flat_drop leaseV_len (by omega), List.take_of_length_le (by rw [flat_len leaseV_len, List.length_drop]; omega)] at h1
  exact ⟨h1, by have := h.le; omega⟩

theorem CallS.ownF {C : Cx} {lb : List Box} {rs : List Own} {f : Nat} {args : Array Value} {K : SV → List Box → List Own → Prop} {α : Type} {r : α → Value} {φ : α → Prop} {os : α → List Own}
    (hc : ∀ w, C.St lb rs w → Calls C.P f args w fun e w' => ∃ x, φ x ∧ e = .returned (r x) ∧ Below w.heap.size w w' ∧ Fresh w.heap.size (os x) w')
    (k : ∀ x b w', φ x → Fresh b (os x) w' → K (.v (r x)) lb (rs ++ os x)) : CallS C lb rs f args K :=
  ⟨fun w hw => (hc w hw).mono fun e w' ⟨x, hx, he, hb, ho⟩ => ⟨r x, lb, _, he, SameNums.refl _, St.adopts hw hb ho, k x _ _ hx ho⟩⟩
theorem row_some {b : Nat} {w' : World} {e : TypeId} {size n c : Nat} {A : Option Addr} {xs : List Value} (h : Fresh b [rowOf e size A n c xs] w') (h0 : 0 < n) : ∃ g, A = some ⟨g, 0, none⟩ := by
  rcases rowOf_owns (h.own _ (List.mem_singleton.2 rfl)) with ⟨_, h1, _⟩ | ⟨g, h1, _⟩
  · omega
  · exact ⟨g, h1⟩
/-- A lease of a drawn list, read. -/
theorem Leases.cell {w : World} {g n : Nat} {l : List LeaseD} (h : Leases w (some ⟨g, 0, none⟩) n l) {k : Nat} {x : LeaseD} (hx : l[k]? = some x) : ∀ j u, (leaseV x)[j]? = some u → w.cell? (((⟨g, 0, none⟩ : Addr).add (k * 4)).add j) = some u := by
  have hk : k < n := by have := (List.getElem?_eq_some_iff.1 hx).1; have := h.len; omega
  obtain ⟨ad, y, e, hy, _, hc⟩ := h.at_ hk
  simp only [Option.some.injEq] at e
  subst e
  rw [hx] at hy
  simp only [Option.some.injEq] at hy
  subst hy
  exact hc

theorem lawVL (w : World) {A : Option Addr} {n c : Nat} {bs : List Int} (hb : Bytes w A n bs) (hn : n ≤ c) :
    Calls Try.prog 4 #[.slice A n c] w fun e w' => e = .returned (.bool true) ∧ Below w.heap.size w w' := by
  refine enter (C := cxS w []) (okS w []) (St.start w) Try.func4 rfl rfl ?_; conv => whnf
  (repeat' (first | (refine Sp.mk (fun hs => ?_) (fun hs => ?_) <;> first | (exfalso; omega) | (conv => whnf)) | (refine Ar.i (by omega) ?_; conv => whnf) | (refine NewS.mk (fun _ => ?_); conv => whnf) | (refine QuoS.nn (by omega) ?_; conv => whnf) | (refine RemS.nn (by omega) ?_; conv => whnf) | (refine QuietS.mk (by as_aux_lemma => kernel_rfl) ?_; conv => whnf) | refine RetS.mk (fun w' hS => ?_)))
  · exact ⟨rfl, hS.below⟩
  refine ⟨rfl, CallS.ownF (fun w' hS => drawValid_any w' ⟨hS.arg hb.1, hb.2⟩ hn) (fun y b0 w0 hy hF => ?_)⟩
  obtain ⟨A1, c1, l⟩ := y
  obtain ⟨h13, hcap⟩ := hy
  dsimp only [DL.v] at h13 hcap ⊢
  conv => whnf
  refine ⟨rfl, CallS.p (fun w' hS => iValid_any w' (St.dl hS 0 rfl (by omega)) hcap) (fun hv => ?_) (fun hv => ?_)⟩ <;> conv => whnf
  rotate_left
  · refine ⟨rfl, CallS.pf hv (fun w' hS => sValid_any w' (St.dl hS 0 rfl (by omega))) ?_⟩
    conv => whnf
    refine ⟨rfl, CallS.pf hv (fun w' hS => sValid_any w' (St.dl hS 0 rfl (by omega))) ?_⟩
    conv => whnf
    (repeat' (first | (refine Sp.mk (fun hs => ?_) (fun hs => ?_) <;> first | (exfalso; omega) | (conv => whnf)) | (refine Ar.i (by omega) ?_; conv => whnf) | (refine NewS.mk (fun _ => ?_); conv => whnf) | (refine QuoS.nn (by omega) ?_; conv => whnf) | (refine RemS.nn (by omega) ?_; conv => whnf) | (refine QuietS.mk (by as_aux_lemma => kernel_rfl) ?_; conv => whnf) | refine RetS.mk (fun w' hS => ?_)))
    exact ⟨rfl, hS.below⟩
  refine ⟨rfl, CallS.pt hv (fun w' hS => sValid_any w' (St.dl hS 0 rfl (by omega))) ?_⟩
  conv => whnf
  refine Sp.mk (fun h0 => ?_) (fun h0 => ?_) <;> conv => whnf
  · refine ⟨rfl, CallS.pt hv (fun w' hS => sValid_any w' (St.dl hS 0 rfl (by omega))) ?_⟩
    conv => whnf
    (repeat' (first | (refine Sp.mk (fun hs => ?_) (fun hs => ?_) <;> first | (exfalso; omega) | (conv => whnf)) | (refine Ar.i (by omega) ?_; conv => whnf) | (refine NewS.mk (fun _ => ?_); conv => whnf) | (refine QuoS.nn (by omega) ?_; conv => whnf) | (refine RemS.nn (by omega) ?_; conv => whnf) | (refine QuietS.mk (by as_aux_lemma => kernel_rfl) ?_; conv => whnf) | refine RetS.mk (fun w' hS => ?_)))
    exact ⟨rfl, hS.below⟩
  refine RemS.nn (by omega) ?_
  conv => whnf
  obtain ⟨k, hk⟩ : ∃ k, k = n % l.length := ⟨_, rfl⟩
  have hkl : k < l.length := by rw [hk]; exact Nat.mod_lt _ (by omega)
  have e1 : ((n : Int) % (l.length : Int)) = (k : Int) := by rw [hk]; rfl
  rw [e1]
  refine DrawS.all (.first 1 (.first 2 (.first 3 (.first 5 (.first 6 (.first 7 (.first 8 (.one 0 (.one 4 (.one 9 (.one 10 (.first 11 (.first 13 (.first 15 (.first 16 (.first 17 (.first 18 (.alt 12 (.alt 14 (.one 19 (.one 20 (.one 21 (.first 22 (.first 23 (.first 24 (.done))))))) (.alt 19 (.one 14 (.one 20 (.one 21 (.first 22 (.first 23 (.first 24 (.done))))))) (.stop))) (.alt 19 (.one 12 (.one 14 (.one 20 (.one 21 (.first 22 (.first 23 (.first 24 (.done)))))))) (.stop)))))))))))))))))))) (by as_aux_lemma => kernel_rfl) (LbTo.self rfl) ?_
  conv => whnf
  refine SlcS.hi k rfl (by omega) ?_
  conv => whnf
  refine Ar.i (by omega) ?_
  conv => whnf
  refine SlcS.lo (k + 1) rfl (by omega) hcap ?_
  conv => whnf
  refine NewS.mk (fun g0 => ?_)
  conv => whnf
  refine StS.mk rfl (RsTo.sub (by simp)) ?_
  conv => whnf
  refine SemS.appZ (okS w []) rfl rfl (by decide) (fun w' hS => ((St.dl hS 0 rfl (by omega)).take (k := k) (by omega)).rd) (leaseL_one _) (by simp only [maxLen]; omega) (by simp only; omega) (fun A2 c2 hc2 => ?_)
  conv => whnf
  refine StS.mk rfl (RsTo.sub (by simp)) ?_
  conv => whnf
  refine SemS.appG (okS w []) (i := 2) rfl rfl (by decide) rfl (fun w' hS => ((St.dl hS 0 rfl (by omega)).cut (k := k + 1) (by omega) hcap).rd) (leaseL_one _) (by simp only [maxLen]; omega) (by simp only; omega) (fun A3 c3 hc3 => ?_)
  conv => whnf
  refine StS.mk rfl (RsTo.sub (by simp)) ?_
  conv => whnf
  have hout : Valid (l.take k ++ l.drop (k + 1)) := law_leaveOut hv k
  refine ⟨rfl, CallS.pt hout (fun w' hS => iValid_any w' ⟨by have h := hS.rowR (List.mem_of_getElem? (i := 2) rfl); rwa [← List.flatMap_append] at h, by omega⟩ hc3) ?_⟩
  conv => whnf
  refine StS.mk rfl (RsTo.sub (by simp)) ?_
  conv => whnf
  have hx : l[k]? = some l[k] := List.getElem?_eq_getElem hkl
  have hno : ¬ Valid (l ++ [l[k]]) := law_twice (List.getElem_mem hkl)
  obtain ⟨ga, rfl⟩ := row_some hF (by omega : 0 < l.length)
  have hx4 : ∀ u ∈ leaseV l[k], isOne u = true := leaseV_one _
  have hfl : ∀ (w' : World) (A' : Option Addr), Reads w' 4 A' (l.length + 1) (l.flatMap leaseV ++ leaseV l[k]) → Leases w' A' (l.length + 1) (l ++ [l[k]]) := fun w' A' h => ⟨by rwa [flat_one] at h, by omega⟩
  refine IdxS.at_ k rfl rfl hkl ?_
  conv => whnf
  refine LdsS.at_ (vs := leaseV l[k]) rfl (fun w' hS => (St.dl hS 0 rfl (by omega)).cell hx) ?_
  conv => whnf
  refine AltS.mk ?_ (AltS.mk ?_ trivial) <;> conv => whnf
  · refine NewS.mk (fun g1 => ?_)
    conv => whnf
    refine StS.mk rfl (RsTo.sub (by simp)) ?_
    conv => whnf
    refine AltS.mk ?_ (AltS.mk ?_ trivial) <;> conv => whnf
    · refine SemS.appZ (okS w []) rfl rfl (by decide) (fun w' hS => (St.dl hS 0 rfl (by omega)).rd) (leaseL_one _) (by simp only [maxLen]; omega) (by simp only; omega) (fun A4 c4 hc4 => ?_)
      conv => whnf
      refine StS.mk rfl (RsTo.sub (by simp)) ?_
      conv => whnf
      refine NewS.mk (fun g2 => ?_)
      conv => whnf
      refine StS.mk rfl (RsTo.sub (by simp)) ?_
      conv => whnf
      refine SemS.appG (okS w []) (i := 4) rfl rfl (by decide) rfl (fun w' hS => St.row hS (e := 32) (xs := leaseV l[k]) (List.mem_of_getElem? (i := 5) rfl)) hx4 (by simp only [maxLen]; omega) (by simp only; omega) (fun A5 c5 hc5 => ?_)
      conv => whnf
      refine StS.mk rfl (RsTo.sub (by simp)) ?_
      conv => whnf
      refine ⟨rfl, CallS.pf hno (fun w' hS => iValid_any w' (hfl _ _ (hS.rowR (List.mem_of_getElem? (i := 4) rfl))) hc5) ?_⟩
      conv => whnf
      refine StS.mk rfl (RsTo.sub (by simp)) ?_
      conv => whnf
      (repeat' (first | (refine Sp.mk (fun hs => ?_) (fun hs => ?_) <;> first | (exfalso; omega) | (conv => whnf)) | (refine Ar.i (by omega) ?_; conv => whnf) | (refine NewS.mk (fun _ => ?_); conv => whnf) | (refine QuoS.nn (by omega) ?_; conv => whnf) | (refine RemS.nn (by omega) ?_; conv => whnf) | (refine QuietS.mk (by as_aux_lemma => kernel_rfl) ?_; conv => whnf) | refine RetS.mk (fun w' hS => ?_)))
      exact ⟨rfl, hS.below⟩
    · refine NewS.mk (fun g2 => ?_)
      conv => whnf
      refine StS.mk rfl (RsTo.sub (by simp)) ?_
      conv => whnf
      refine SemS.appZ (okS w []) rfl rfl (by decide) (fun w' hS => (St.dl hS 0 rfl (by omega)).rd) (leaseL_one _) (by simp only [maxLen]; omega) (by simp only; omega) (fun A4 c4 hc4 => ?_)
      conv => whnf
      refine StS.mk rfl (RsTo.sub (by simp)) ?_
      conv => whnf
      refine SemS.appG (okS w []) (i := 5) rfl rfl (by decide) rfl (fun w' hS => St.row hS (e := 32) (xs := leaseV l[k]) (List.mem_of_getElem? (i := 4) rfl)) hx4 (by simp only [maxLen]; omega) (by simp only; omega) (fun A5 c5 hc5 => ?_)
      conv => whnf
      refine StS.mk rfl (RsTo.sub (by simp)) ?_
      conv => whnf
      refine ⟨rfl, CallS.pf hno (fun w' hS => iValid_any w' (hfl _ _ (hS.rowR (List.mem_of_getElem? (i := 5) rfl))) hc5) ?_⟩
      conv => whnf
      refine StS.mk rfl (RsTo.sub (by simp)) ?_
      conv => whnf
      (repeat' (first | (refine Sp.mk (fun hs => ?_) (fun hs => ?_) <;> first | (exfalso; omega) | (conv => whnf)) | (refine Ar.i (by omega) ?_; conv => whnf) | (refine NewS.mk (fun _ => ?_); conv => whnf) | (refine QuoS.nn (by omega) ?_; conv => whnf) | (refine RemS.nn (by omega) ?_; conv => whnf) | (refine QuietS.mk (by as_aux_lemma => kernel_rfl) ?_; conv => whnf) | refine RetS.mk (fun w' hS => ?_)))
      exact ⟨rfl, hS.below⟩
  · refine NewS.mk (fun g1 => ?_)
    conv => whnf
    refine StS.mk rfl (RsTo.sub (by simp)) ?_
    conv => whnf
    refine NewS.mk (fun g2 => ?_)
    conv => whnf
    refine StS.mk rfl (RsTo.sub (by simp)) ?_
    conv => whnf
    refine SemS.appZ (okS w []) rfl rfl (by decide) (fun w' hS => (St.dl hS 0 rfl (by omega)).rd) (leaseL_one _) (by simp only [maxLen]; omega) (by simp only; omega) (fun A4 c4 hc4 => ?_)
    conv => whnf
    refine StS.mk rfl (RsTo.sub (by simp)) ?_
    conv => whnf
    refine SemS.appG (okS w []) (i := 5) rfl rfl (by decide) rfl (fun w' hS => St.row hS (e := 32) (xs := leaseV l[k]) (List.mem_of_getElem? (i := 3) rfl)) hx4 (by simp only [maxLen]; omega) (by simp only; omega) (fun A5 c5 hc5 => ?_)
    conv => whnf
    refine StS.mk rfl (RsTo.sub (by simp)) ?_
    conv => whnf
    refine ⟨rfl, CallS.pf hno (fun w' hS => iValid_any w' (hfl _ _ (hS.rowR (List.mem_of_getElem? (i := 5) rfl))) hc5) ?_⟩
    conv => whnf
    refine StS.mk rfl (RsTo.sub (by simp)) ?_
    conv => whnf
    (repeat' (first | (refine Sp.mk (fun hs => ?_) (fun hs => ?_) <;> first | (exfalso; omega) | (conv => whnf)) | (refine Ar.i (by omega) ?_; conv => whnf) | (refine NewS.mk (fun _ => ?_); conv => whnf) | (refine QuoS.nn (by omega) ?_; conv => whnf) | (refine RemS.nn (by omega) ?_; conv => whnf) | (refine QuietS.mk (by as_aux_lemma => kernel_rfl) ?_; conv => whnf) | refine RetS.mk (fun w' hS => ?_)))
    exact ⟨rfl, hS.below⟩

def shortL (x : LeaseD) : LeaseD := ⟨x.c, x.o, x.f, x.f + 1⟩
theorem lawVLS (w : World) {A : Option Addr} {n c : Nat} {bs : List Int} (hb : Bytes w A n bs) (hn : n ≤ c) :
    Calls Try.prog 5 #[.slice A n c] w fun e w' => e = .returned (.bool true) ∧ Below w.heap.size w w' := by
  refine enter (C := cxS w []) (okS w []) (St.start w) Try.func5 rfl rfl ?_; conv => whnf
  (repeat' (first | (refine Sp.mk (fun hs => ?_) (fun hs => ?_) <;> first | (exfalso; omega) | (conv => whnf)) | (refine Ar.i (by omega) ?_; conv => whnf) | (refine NewS.mk (fun _ => ?_); conv => whnf) | (refine QuoS.nn (by omega) ?_; conv => whnf) | (refine RemS.nn (by omega) ?_; conv => whnf) | (refine QuietS.mk (by as_aux_lemma => kernel_rfl) ?_; conv => whnf) | refine RetS.mk (fun w' hS => ?_)))
  · exact ⟨rfl, hS.below⟩
  refine ⟨rfl, CallS.ownF (fun w' hS => drawValid_any w' ⟨hS.arg hb.1, hb.2⟩ hn) (fun y b0 w0 hy hF => ?_)⟩
  obtain ⟨A1, c1, l⟩ := y
  obtain ⟨h13, hcap⟩ := hy
  dsimp only [DL.v] at h13 hcap ⊢
  conv => whnf
  refine ⟨rfl, CallS.p (fun w' hS => iValid_any w' (St.dl hS 0 rfl (by omega)) hcap) (fun hv => ?_) (fun hv => ?_)⟩ <;> conv => whnf
  rotate_left
  · refine ⟨rfl, CallS.pf hv (fun w' hS => sValid_any w' (St.dl hS 0 rfl (by omega))) ?_⟩
    conv => whnf
    refine ⟨rfl, CallS.pf hv (fun w' hS => sValid_any w' (St.dl hS 0 rfl (by omega))) ?_⟩
    conv => whnf
    (repeat' (first | (refine Sp.mk (fun hs => ?_) (fun hs => ?_) <;> first | (exfalso; omega) | (conv => whnf)) | (refine Ar.i (by omega) ?_; conv => whnf) | (refine NewS.mk (fun _ => ?_); conv => whnf) | (refine QuoS.nn (by omega) ?_; conv => whnf) | (refine RemS.nn (by omega) ?_; conv => whnf) | (refine QuietS.mk (by as_aux_lemma => kernel_rfl) ?_; conv => whnf) | refine RetS.mk (fun w' hS => ?_)))
    exact ⟨rfl, hS.below⟩
  refine ⟨rfl, CallS.pt hv (fun w' hS => sValid_any w' (St.dl hS 0 rfl (by omega))) ?_⟩
  conv => whnf
  refine NewS.mk (fun g0 => ?_)
  conv => whnf
  refine LoopS.rows (okS w []) [(5, 6), (27, 57)] [5, 6] rfl (fun s : Nat × Option Addr × Nat => [.slice s.2.1 s.1 s.2.2, I64 s.1]) (fun s => [leaRow ⟨A1, c1, l⟩, rowOf 32 4 s.2.1 s.1 s.2.2 (((l.take s.1).map shortL).flatMap leaseV)])
    (fun s => s.1 ≤ l.length ∧ s.1 ≤ s.2.2) (fun s => l.length - s.1) (0, some ⟨g0, 0, none⟩, 0) ⟨by omega, Nat.le_refl _⟩ ⟨rfl, rfl, trivial⟩ (LbTo.refl_nil _)
    (RsTo.norm (i := 1) (A := some ⟨g0, 0, none⟩) (n := 0) (c := 0) (xs := []) rfl) (fun s g ⟨hk, hm⟩ => ?_)
  obtain ⟨k, A2, c2⟩ := s
  dsimp only at hk hm ⊢
  conv => whnf
  refine Sp.mk (fun h => ?_) (fun h => ?_) <;> conv => whnf
  · have hkl : k < l.length := by omega
    obtain ⟨ga, rfl⟩ := row_some hF (by omega : 0 < l.length)
    obtain ⟨x, hx⟩ : ∃ x, l[k]? = some x := ⟨l[k], List.getElem?_eq_getElem hkl⟩
    have hok := okL_bounds (hv.1.1 x (List.mem_of_getElem? hx))
    refine DrawS.plan (.first 0 (.first 1 (.first 2 (.first 3 (.first 4 (.first 5 (.first 6 (.first 7 (.first 8 (.first 9 (.first 10 (.first 11 (.first 12 (.first 13 (.first 14 (.first 15 (.first 16 (.first 17 (.first 18 (.first 19 (.first 20 (.first 21 (.first 22 (.one 23 (.one 24 (.first 25 (.done))))))))))))))))))))))))))) (by as_aux_lemma => kernel_rfl) [] [leaRow ⟨some ⟨ga, 0, none⟩, c1, l⟩] (LbTo.self rfl) (RsTo.sub (List.Sublist.cons_cons _ (List.nil_sublist _))) ?_
    conv => whnf
    refine IdxS.at_ k rfl rfl hkl ?_
    conv => whnf
    refine LdS.at_ (fun w' hS => (St.dl hS 0 rfl (by omega)).cell hx 0 _ rfl) ?_
    conv => whnf
    refine IdxS.at_ k rfl rfl hkl ?_
    conv => whnf
    refine LdS.at_ (fun w' hS => (St.dl hS 0 rfl (by omega)).cell hx 1 _ rfl) ?_
    conv => whnf
    refine IdxS.at_ k rfl rfl hkl ?_
    conv => whnf
    refine LdS.at_ (fun w' hS => (St.dl hS 0 rfl (by omega)).cell hx 2 _ rfl) ?_
    conv => whnf
    refine IdxS.at_ k rfl rfl hkl ?_
    conv => whnf
    refine LdS.at_ (fun w' hS => (St.dl hS 0 rfl (by omega)).cell hx 2 _ rfl) ?_
    conv => whnf
    refine Ar.i (by omega) ?_
    conv => whnf
    refine NewS.mk (fun g1 => ?_)
    conv => whnf
    refine StS.mk rfl (RsTo.sub (by simp)) ?_
    conv => whnf
    refine SemS.appG (okS w []) (i := 1) rfl rfl (by decide) rfl (fun w' hS => St.row hS (e := 32) (xs := leaseV (shortL x)) (List.mem_of_getElem? (i := 2) rfl)) (leaseV_one _) (by simp only [maxLen]; omega) (by simp only; omega) (fun A3 c3 hc3 => ?_)
    conv => whnf
    refine StS.mk rfl (RsTo.sub (by simp)) ?_
    conv => whnf
    (repeat' (first | (refine Sp.mk (fun hs => ?_) (fun hs => ?_) <;> first | (exfalso; omega) | (conv => whnf)) | (refine Ar.i (by omega) ?_; conv => whnf) | (refine NewS.mk (fun _ => ?_); conv => whnf) | (refine QuoS.nn (by omega) ?_; conv => whnf) | (refine RemS.nn (by omega) ?_; conv => whnf) | (refine QuietS.mk (by as_aux_lemma => kernel_rfl) ?_; conv => whnf) | refine RetS.mk (fun w' hS => ?_)))
    refine ⟨(k + 1, A3, c3), ⟨by dsimp only; omega, by dsimp only; omega⟩, by dsimp only; omega, ⟨rfl, rfl, trivial⟩, LbTo.refl_nil _, ?_⟩
    dsimp only
    rw [take_snoc hx, List.map_append, List.map_singleton, ← flat_one]
    exact RsTo.sub (List.Sublist.cons_cons _ (List.Sublist.cons_cons _ (List.nil_sublist _)))
  · have hkl : l.take k = l := List.take_of_length_le (by omega)
    have hkk : k = l.length := by omega
    rw [hkl]
    refine ⟨rfl, CallS.pt (law_short hv) (fun w' hS => iValid_any w' ⟨hS.rowR (List.mem_of_getElem? (i := 1) rfl), by omega⟩ hm) ?_⟩
    conv => whnf
    (repeat' (first | (refine Sp.mk (fun hs => ?_) (fun hs => ?_) <;> first | (exfalso; omega) | (conv => whnf)) | (refine Ar.i (by omega) ?_; conv => whnf) | (refine NewS.mk (fun _ => ?_); conv => whnf) | (refine QuoS.nn (by omega) ?_; conv => whnf) | (refine RemS.nn (by omega) ?_; conv => whnf) | (refine QuietS.mk (by as_aux_lemma => kernel_rfl) ?_; conv => whnf) | refine RetS.mk (fun w' hS => ?_)))
    exact ⟨rfl, hS.below⟩
end Go.Proofs.Ytgfblbpiokiagaa
