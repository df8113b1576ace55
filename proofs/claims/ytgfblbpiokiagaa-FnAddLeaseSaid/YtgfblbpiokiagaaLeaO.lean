/- The laws on AddLease; conditions: none. -/
import Derived.Test.YtgfblbpiokiagaaLeaN
set_option maxRecDepth 100000
set_option linter.unusedVariables false
set_option linter.unusedSimpArgs false
namespace Go.Proofs.Ytgfblbpiokiagaa
open Eng Go Go.RowKit

theorem St.dlR {w0 w : World} {S0 : List Nat} {lb : List Box} {rs : List Own} {A : Option Addr} {c : Nat} {l : List LeaseD} (hS : Eng.St w0 S0 lb rs w) (i : Nat) (hi : rs[i]? = some (rowOf 32 4 A l.length c (l.flatMap leaseV))) (hl : l.length ≤ 2000000) : Leases w A l.length l := ⟨hS.rowR (List.mem_of_getElem? hi), hl⟩

theorem lawALO (w : World) {A : Option Addr} {n c : Nat} {bs : List Int} (hb : Bytes w A n bs) (hn : n ≤ c) :
    Calls Try.prog 14 #[.slice A n c] w fun e w' => e = .returned (.bool true) ∧ Below w.heap.size w w' := by
  refine enter (C := cxS w []) (okS w []) (St.start w) Try.func14 rfl rfl ?_; conv => whnf
  (repeat' (first | (refine Sp.mk (fun hs => ?_) (fun hs => ?_) <;> first | (exfalso; omega) | (conv => whnf)) | (refine Ar.i (by omega) ?_; conv => whnf) | (refine NewS.mk (fun _ => ?_); conv => whnf) | (refine QuoS.nn (by omega) ?_; conv => whnf) | (refine RemS.nn (by omega) ?_; conv => whnf) | (refine QuietS.mk (by as_aux_lemma => kernel_rfl) ?_; conv => whnf) | refine RetS.mk (fun w' hS => ?_)))
  · exact ⟨rfl, hS.below⟩
  refine ⟨rfl, CallS.ownF (fun w' hS => drawAdd_any w' ⟨hS.arg hb.1, hb.2⟩ hn) (fun y b0 w0 hy hF => ?_)⟩
  obtain ⟨⟨A1, c1, l⟩, x⟩ := y
  obtain ⟨h13, hcap⟩ := hy
  dsimp only [DL.v] at h13 hcap hF ⊢
  have hlen := addL_len l x
  have hlen2 : (addL l x).length ≤ 20 := by omega
  conv => whnf
  refine NewS.mk (fun g0 => ?_)
  conv => whnf
  refine ⟨rfl, CallS.ownF (fun w' hS => iAdd2_any x w' (St.dl hS 0 rfl (by omega)) (by omega) hcap) (fun y2 b2 w2 hy2 hF2 => ?_)⟩
  conv => whnf
  refine ⟨rfl, CallS.own (fun w' hS => sAdd2_any x w' (St.dl hS 0 rfl (by omega)) (by omega)) (fun y3 hy3 => ?_)⟩
  conv => whnf
  refine ⟨rfl, CallS.ro (fun w' hS => equalLeases_any w' (St.dlR hS 1 rfl (by omega)) (St.dlR hS 2 rfl (by omega))) ?_⟩
  conv => whnf
  cases hd : decide (addOk l x)
  · conv => whnf
    refine ⟨rfl, CallS.ro (fun w' hS => equalLeases_any w' (St.dlR hS 1 rfl (by omega)) (St.dlR hS 2 rfl (by omega))) ?_⟩
    conv => whnf
    (repeat' (first | (refine Sp.mk (fun hs => ?_) (fun hs => ?_) <;> first | (exfalso; omega) | (conv => whnf)) | (refine Ar.i (by omega) ?_; conv => whnf) | (refine NewS.mk (fun _ => ?_); conv => whnf) | (refine QuoS.nn (by omega) ?_; conv => whnf) | (refine RemS.nn (by omega) ?_; conv => whnf) | (refine QuietS.mk (by as_aux_lemma => kernel_rfl) ?_; conv => whnf) | refine RetS.mk (fun w' hS => ?_)))
    exact ⟨rfl, hS.below⟩
  have hok := of_decide_eq_true hd
  have e : addL l x = l ++ [x] := if_pos hok
  rw [e] at hy2 hF2 ⊢
  obtain ⟨A2, c2⟩ := y2
  dsimp only at hy2 hF2 ⊢
  have hl2 : (l ++ [x]).length = l.length + 1 := by simp
  have hlaws := law_addOwner hok.2
  conv => whnf
  have hY : ∀ (m : List LeaseD), (addL m ⟨1, 2, 40, 60⟩).length ≤ m.length + 1 := fun m => addL_len m _
  have hY1 := hY l
  have key : decide (addOk (l ++ [x]) ⟨1, 2, 40, 60⟩) = (decide (addOk l ⟨1, 2, 40, 60⟩) && decide (addOk (addL l ⟨1, 2, 40, 60⟩) x)) := by
    have h1 := law_order (y := ⟨1, 2, 40, 60⟩) hok.2
    rw [← Bool.decide_and, decide_eq_decide]
    unfold addOk
    constructor
    · rintro ⟨_, h2⟩
      obtain ⟨h3, h4⟩ := h1.1 h2
      have e4 : addL l ⟨1, 2, 40, 60⟩ = l ++ [⟨1, 2, 40, 60⟩] := if_pos ⟨hok.1, h3⟩
      rw [e4]
      exact ⟨⟨hok.1, h3⟩, h3, h4⟩
    · rintro ⟨h2, h3⟩
      have e4 : addL l ⟨1, 2, 40, 60⟩ = l ++ [⟨1, 2, 40, 60⟩] := if_pos h2
      rw [e4] at h3
      exact ⟨hok.2, h1.2 ⟨h2.2, h3.2⟩⟩
  refine NewS.mk (fun g1 => ?_)
  conv => whnf
  refine ⟨rfl, CallS.own (fun w' hS => iAdd2_any ⟨1, 2, 40, 60⟩ w' (St.dlR hS 1 rfl (by omega)) (by omega) hy2) (fun y4 hy4 => ?_)⟩
  conv => whnf
  refine ⟨rfl, CallS.own (fun w' hS => iAdd2_any ⟨1, 2, 40, 60⟩ w' (St.dl hS 0 rfl (by omega)) (by omega) hcap) (fun y5 hy5 => ?_)⟩
  conv => whnf
  refine ⟨rfl, CallS.own (fun w' hS => iAdd2_any x w' (St.dlR hS 4 rfl (by omega)) (by omega) hy5) (fun y6 hy6 => ?_)⟩
  rw [key]
  cases decide (addOk l ⟨1, 2, 40, 60⟩) <;> cases decide (addOk (addL l ⟨1, 2, 40, 60⟩) x)
  all_goals
    conv => whnf
    (repeat' (first | (refine Sp.mk (fun hs => ?_) (fun hs => ?_) <;> first | (exfalso; omega) | (conv => whnf)) | (refine Ar.i (by omega) ?_; conv => whnf) | (refine NewS.mk (fun _ => ?_); conv => whnf) | (refine QuoS.nn (by omega) ?_; conv => whnf) | (refine RemS.nn (by omega) ?_; conv => whnf) | (refine QuietS.mk (by as_aux_lemma => kernel_rfl) ?_; conv => whnf) | refine RetS.mk (fun w' hS => ?_)))
    exact ⟨rfl, hS.below⟩

theorem lawALT (w : World) {A : Option Addr} {n c : Nat} {bs : List Int} (hb : Bytes w A n bs) (hn : n ≤ c) :
    Calls Try.prog 15 #[.slice A n c] w fun e w' => e = .returned (.bool true) ∧ Below w.heap.size w w' := by
  refine enter (C := cxS w []) (okS w []) (St.start w) Try.func15 rfl rfl ?_; conv => whnf
  (repeat' (first | (refine Sp.mk (fun hs => ?_) (fun hs => ?_) <;> first | (exfalso; omega) | (conv => whnf)) | (refine Ar.i (by omega) ?_; conv => whnf) | (refine NewS.mk (fun _ => ?_); conv => whnf) | (refine QuoS.nn (by omega) ?_; conv => whnf) | (refine RemS.nn (by omega) ?_; conv => whnf) | (refine QuietS.mk (by as_aux_lemma => kernel_rfl) ?_; conv => whnf) | refine RetS.mk (fun w' hS => ?_)))
  · exact ⟨rfl, hS.below⟩
  refine ⟨rfl, CallS.ownF (fun w' hS => drawAdd_any w' ⟨hS.arg hb.1, hb.2⟩ hn) (fun y b0 w0 hy hF => ?_)⟩
  obtain ⟨⟨A1, c1, l⟩, x⟩ := y
  obtain ⟨h13, hcap⟩ := hy
  dsimp only [DL.v] at h13 hcap hF ⊢
  have hlen := addL_len l x
  have hlen2 : (addL l x).length ≤ 20 := by omega
  conv => whnf
  refine NewS.mk (fun g0 => ?_)
  conv => whnf
  refine ⟨rfl, CallS.ownF (fun w' hS => iAdd2_any x w' (St.dl hS 0 rfl (by omega)) (by omega) hcap) (fun y2 b2 w2 hy2 hF2 => ?_)⟩
  conv => whnf
  refine ⟨rfl, CallS.own (fun w' hS => sAdd2_any x w' (St.dl hS 0 rfl (by omega)) (by omega)) (fun y3 hy3 => ?_)⟩
  conv => whnf
  refine ⟨rfl, CallS.ro (fun w' hS => equalLeases_any w' (St.dlR hS 1 rfl (by omega)) (St.dlR hS 2 rfl (by omega))) ?_⟩
  conv => whnf
  cases hd : decide (addOk l x)
  · conv => whnf
    refine ⟨rfl, CallS.ro (fun w' hS => equalLeases_any w' (St.dlR hS 1 rfl (by omega)) (St.dlR hS 2 rfl (by omega))) ?_⟩
    conv => whnf
    (repeat' (first | (refine Sp.mk (fun hs => ?_) (fun hs => ?_) <;> first | (exfalso; omega) | (conv => whnf)) | (refine Ar.i (by omega) ?_; conv => whnf) | (refine NewS.mk (fun _ => ?_); conv => whnf) | (refine QuoS.nn (by omega) ?_; conv => whnf) | (refine RemS.nn (by omega) ?_; conv => whnf) | (refine QuietS.mk (by as_aux_lemma => kernel_rfl) ?_; conv => whnf) | refine RetS.mk (fun w' hS => ?_)))
    exact ⟨rfl, hS.below⟩
  have hok := of_decide_eq_true hd
  have e : addL l x = l ++ [x] := if_pos hok
  rw [e] at hy2 hF2 ⊢
  obtain ⟨A2, c2⟩ := y2
  dsimp only at hy2 hF2 ⊢
  have hl2 : (l ++ [x]).length = l.length + 1 := by simp
  have hlaws := law_addOwner hok.2
  conv => whnf
  have hno : ¬ addOk (l ++ [x]) x := fun h => law_twice (by simp) h.2
  refine ⟨rfl, CallS.own (fun w' hS => iAdd2_any x w' (St.dlR hS 1 rfl (by omega)) (by omega) hy2) (fun y4 hy4 => ?_)⟩
  have hd4 : decide (addOk (l ++ [x]) x) = false := decide_eq_false hno
  rw [hd4]
  have e1 : LeasedTime (l ++ [x]) x.o = leased l x.o + (x.u - x.f) := by rw [LeasedTime, if_pos hok.2, leased_snoc, if_pos rfl]
  have e2 : LeasedTime l x.o = leased l x.o := if_pos hok.1
  have hb1 := leased_nonneg hok.1.1.1 x.o
  have hxo := okL_bounds (hok.2.1.1 x (by simp))
  conv => whnf
  refine QuietS.mk (by as_aux_lemma => kernel_rfl) ?_
  conv => whnf
  refine ⟨rfl, CallQ.ro (fun w' hS => iLeased_any x.o w' (St.dlR hS 1 rfl (by omega)) hy2) ?_⟩
  conv => whnf
  refine ⟨rfl, CallQ.ro (fun w' hS => iLeased_any x.o w' (St.dl hS 0 rfl (by omega)) hcap) ?_⟩
  rw [e1, e2]
  conv => whnf
  (repeat' (first | (refine Sp.mk (fun hs => ?_) (fun hs => ?_) <;> first | (exfalso; omega) | (conv => whnf)) | (refine Ar.i (by omega) ?_; conv => whnf) | (refine NewS.mk (fun _ => ?_); conv => whnf) | (refine QuoS.nn (by omega) ?_; conv => whnf) | (refine RemS.nn (by omega) ?_; conv => whnf) | (refine QuietS.mk (by as_aux_lemma => kernel_rfl) ?_; conv => whnf) | refine RetS.mk (fun w' hS => ?_)))
  exact ⟨rfl, hS.below⟩

theorem lawAL (w : World) {A : Option Addr} {n c : Nat} {bs : List Int} (hb : Bytes w A n bs) (hn : n ≤ c) :
    Calls Try.prog 18 #[.slice A n c] w fun e w' => e = .returned (.bool true) ∧ Below w.heap.size w w' := by
  refine enter (C := cxS w []) (okS w []) (St.start w) Try.func18 rfl rfl ?_; conv => whnf
  (repeat' (first | (refine Sp.mk (fun hs => ?_) (fun hs => ?_) <;> first | (exfalso; omega) | (conv => whnf)) | (refine Ar.i (by omega) ?_; conv => whnf) | (refine NewS.mk (fun _ => ?_); conv => whnf) | (refine QuoS.nn (by omega) ?_; conv => whnf) | (refine RemS.nn (by omega) ?_; conv => whnf) | (refine QuietS.mk (by as_aux_lemma => kernel_rfl) ?_; conv => whnf) | refine RetS.mk (fun w' hS => ?_)))
  · exact ⟨rfl, hS.below⟩
  refine ⟨rfl, CallS.ownF (fun w' hS => drawAdd_any w' ⟨hS.arg hb.1, hb.2⟩ hn) (fun y b0 w0 hy hF => ?_)⟩
  obtain ⟨⟨A1, c1, l⟩, x⟩ := y
  obtain ⟨h13, hcap⟩ := hy
  dsimp only [DL.v] at h13 hcap hF ⊢
  have hlen := addL_len l x
  have hlen2 : (addL l x).length ≤ 20 := by omega
  conv => whnf
  refine NewS.mk (fun g0 => ?_)
  conv => whnf
  refine ⟨rfl, CallS.ownF (fun w' hS => iAdd2_any x w' (St.dl hS 0 rfl (by omega)) (by omega) hcap) (fun y2 b2 w2 hy2 hF2 => ?_)⟩
  conv => whnf
  refine ⟨rfl, CallS.own (fun w' hS => sAdd2_any x w' (St.dl hS 0 rfl (by omega)) (by omega)) (fun y3 hy3 => ?_)⟩
  conv => whnf
  refine ⟨rfl, CallS.ro (fun w' hS => equalLeases_any w' (St.dlR hS 1 rfl (by omega)) (St.dlR hS 2 rfl (by omega))) ?_⟩
  conv => whnf
  cases hd : decide (addOk l x)
  · conv => whnf
    refine ⟨rfl, CallS.ro (fun w' hS => equalLeases_any w' (St.dlR hS 1 rfl (by omega)) (St.dlR hS 2 rfl (by omega))) ?_⟩
    conv => whnf
    (repeat' (first | (refine Sp.mk (fun hs => ?_) (fun hs => ?_) <;> first | (exfalso; omega) | (conv => whnf)) | (refine Ar.i (by omega) ?_; conv => whnf) | (refine NewS.mk (fun _ => ?_); conv => whnf) | (refine QuoS.nn (by omega) ?_; conv => whnf) | (refine RemS.nn (by omega) ?_; conv => whnf) | (refine QuietS.mk (by as_aux_lemma => kernel_rfl) ?_; conv => whnf) | refine RetS.mk (fun w' hS => ?_)))
    exact ⟨rfl, hS.below⟩
  have hok := of_decide_eq_true hd
  have e : addL l x = l ++ [x] := if_pos hok
  rw [e] at hy2 hF2 ⊢
  obtain ⟨A2, c2⟩ := y2
  dsimp only at hy2 hF2 ⊢
  have hl2 : (l ++ [x]).length = l.length + 1 := by simp
  have hlaws := law_addOwner hok.2
  conv => whnf
  refine Sp.mk (fun h => absurd h (by omega)) (fun _ => ?_)
  conv => whnf
  obtain ⟨ga, rfl⟩ := row_some hF2 (by omega)
  have e1 : OwnerAt (l ++ [x]) x.c x.f = x.o := by rw [OwnerAt, if_pos hok.2]; exact hlaws.1
  have e2 : OwnerAt l x.c x.f = -1 := by rw [OwnerAt, if_pos hok.1]; exact hlaws.2
  have htake : (l ++ [x]).take l.length = l := by simp
  have hx : (l ++ [x])[l.length]? = some x := by simp
  refine QuietS.mk (by as_aux_lemma => kernel_rfl) ?_
  conv => whnf
  refine Ar.i (by omega) ?_
  conv => whnf
  refine Sp.mk (fun _ => ?_) (fun h => absurd (by omega) h)
  conv => whnf
  refine SlcS.hi l.length rfl (by omega) ?_
  conv => whnf
  refine ⟨rfl, CallQ.ro (fun w' hS => equalLeases_any w' (by have h := (St.dlR hS 1 rfl (by omega)).take (k := l.length) (by omega); rw [htake] at h; exact h) (St.dl hS 0 rfl (by omega))) ?_⟩
  conv => whnf
  refine IdxS.at_ l.length rfl rfl (by omega) ?_
  conv => whnf
  refine LdsS.at_ (vs := leaseV x) rfl (fun w' hS => (St.dlR hS 1 rfl (by omega)).cell hx) ?_
  conv => whnf
  refine eqS_same (by as_aux_lemma => kernel_rfl) (by as_aux_lemma => kernel_rfl) (by as_aux_lemma => kernel_rfl) [x.c, x.o, x.f, x.u] (by as_aux_lemma => kernel_rfl) (by as_aux_lemma => kernel_rfl) ?_
  conv => whnf
  refine ⟨rfl, CallQ.ro (fun w' hS => iOwnerAt_any x.c x.f w' (St.dlR hS 1 rfl (by omega)) hy2) ?_⟩
  rw [e1]
  conv => whnf
  refine Sp.mk (fun _ => ?_) (fun h => absurd rfl h)
  conv => whnf
  refine ⟨rfl, CallQ.ro (fun w' hS => iOwnerAt_any x.c x.f w' (St.dl hS 0 rfl (by omega)) hcap) ?_⟩
  rw [e2]
  conv => whnf
  (repeat' (first | (refine Sp.mk (fun hs => ?_) (fun hs => ?_) <;> first | (exfalso; omega) | (conv => whnf)) | (refine Ar.i (by omega) ?_; conv => whnf) | (refine NewS.mk (fun _ => ?_); conv => whnf) | (refine QuoS.nn (by omega) ?_; conv => whnf) | (refine RemS.nn (by omega) ?_; conv => whnf) | (refine QuietS.mk (by as_aux_lemma => kernel_rfl) ?_; conv => whnf) | refine RetS.mk (fun w' hS => ?_)))
  exact ⟨rfl, hS.below⟩

end Go.Proofs.Ytgfblbpiokiagaa
