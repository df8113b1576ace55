/- The harness's functions on leases, and the exact laws on AddLease, BusyAt and FreeFor; conditions: none. -/
import Derived.Test.YtgfblbpiokiagaaLeaG
set_option maxRecDepth 100000
set_option linter.unusedVariables false
set_option linter.unusedSimpArgs false
namespace Go.Proofs.Ytgfblbpiokiagaa
open Eng Go Go.RowKit

/-- The leases that AddLease hands back. -/
def addL (l : List LeaseD) (x : LeaseD) : List LeaseD := if addOk l x then l ++ [x] else []
theorem addL_len (l : List LeaseD) (x : LeaseD) : (addL l x).length ≤ l.length + 1 := by
  unfold addL; split <;> simp
theorem add_turn {l : List LeaseD} {x : LeaseD} {n : Nat} (hl : l.length = n) {e : Ending} {w w' : World} (h : ∃ y, addP l x n y ∧ e = .returned (addR n y) ∧ Below w.heap.size w w' ∧ Fresh w.heap.size (addO l x n y) w') :
    ∃ y : Option Addr × Nat, (addL l x).length ≤ y.2 ∧ e = .returned (.tuple #[.slice y.1 (addL l x).length y.2, .bool (decide (addOk l x))]) ∧ Below w.heap.size w w' ∧ Fresh w.heap.size [rowOf 32 4 y.1 (addL l x).length y.2 ((addL l x).flatMap leaseV)] w' := by
  obtain ⟨y, h1, h2, h3, h4⟩ := h
  cases y with
  | none =>
    have e : addL l x = [] := if_neg h1
    rw [e, decide_eq_false h1]
    exact ⟨(none, 0), Nat.le_refl _, h2, h3, Fresh.empty _ _ _ _ _⟩
  | some y =>
    have e : addL l x = l ++ [x] := if_pos h1.1
    have e2 : (l ++ [x]).length = n + 1 := by simp [hl]
    rw [e, decide_eq_true h1.1, e2]
    exact ⟨y, h1.2, h2, h3, h4⟩
theorem iAdd2_any {A : Option Addr} {n c : Nat} {l : List LeaseD} (x : LeaseD) (w : World) (hL : Leases w A n l) (hb : n ≤ 1900000) (hn : n ≤ c) :
    Calls Try.prog 38 #[.slice A n c, .agg (leaseV x).toArray] w fun e w' => ∃ y : Option Addr × Nat, (addL l x).length ≤ y.2 ∧ e = .returned (.tuple #[.slice y.1 (addL l x).length y.2, .bool (decide (addOk l x))]) ∧ Below w.heap.size w w' ∧ Fresh w.heap.size [rowOf 32 4 y.1 (addL l x).length y.2 ((addL l x).flatMap leaseV)] w' :=
  (iAdd_any x w hL hn hb).mono fun e w' h => add_turn hL.len h
theorem sAdd2_any {A : Option Addr} {n c : Nat} {l : List LeaseD} (x : LeaseD) (w : World) (hL : Leases w A n l) (hb : n ≤ 1900000)  :
    Calls Try.prog 39 #[.slice A n c, .agg (leaseV x).toArray] w fun e w' => ∃ y : Option Addr × Nat, (addL l x).length ≤ y.2 ∧ e = .returned (.tuple #[.slice y.1 (addL l x).length y.2, .bool (decide (addOk l x))]) ∧ Below w.heap.size w w' ∧ Fresh w.heap.size [rowOf 32 4 y.1 (addL l x).length y.2 ((addL l x).flatMap leaseV)] w' :=
  (sAdd_any x w hL hb).mono fun e w' h => add_turn hL.len h

theorem equalLeases_any {A B : Option Addr} {n c c' : Nat} {l : List LeaseD} (w : World) (hA : Leases w A n l) (hB : Leases w B n l) :
    Calls Try.prog 40 #[.slice A n c, .slice B n c'] w fun e w' => e = .returned (.bool true) ∧ Below w.heap.size w w' := by
  have hl := hA.len
  have hle := hA.le
  refine enter (C := cxS w []) (okS w []) (St.start w) Try.func40 rfl rfl ?_; conv => whnf
  (repeat' (first | (refine Sp.mk (fun hs => ?_) (fun hs => ?_) <;> first | (exfalso; omega) | (conv => whnf)) | (refine Ar.i (by omega) ?_; conv => whnf) | (refine NewS.mk (fun _ => ?_); conv => whnf) | (refine QuoS.nn (by omega) ?_; conv => whnf) | (refine RemS.nn (by omega) ?_; conv => whnf) | (refine QuietS.mk (by as_aux_lemma => kernel_rfl) ?_; conv => whnf) | refine RetS.mk (fun w' hS => ?_)))
  refine LoopS.same (okS w []) [(4, 5), (11, 25)] [5] rfl (fun k : Nat => [I64 k]) (fun k => k ≤ n) (fun k => n - k) 0 (by omega) ⟨rfl, trivial⟩ (LbTo.refl_nil _) (fun k g hk => ?_)
  conv => whnf
  refine Sp.mk (fun h => ?_) (fun h => ?_) <;> conv => whnf
  · obtain ⟨ad, x, rfl, hx, hm, hc⟩ := hA.at_ (k := k) (by omega)
    obtain ⟨bd, y, rfl, hy, _, hd⟩ := hB.at_ (k := k) (by omega)
    obtain rfl : x = y := by rw [hx] at hy; exact Option.some.inj hy
    refine QuietS.mk (by as_aux_lemma => kernel_rfl) ?_
    conv => whnf
    refine IdxS.at_ k rfl rfl (by omega) ?_
    conv => whnf
    refine LdsS.at_ (vs := leaseV x) rfl (fun w' hS j u hu => hS.cell0 (hc j u hu)) ?_
    conv => whnf
    refine IdxS.at_ k rfl rfl (by omega) ?_
    conv => whnf
    refine LdsS.at_ (vs := leaseV x) rfl (fun w' hS j u hu => hS.cell0 (hd j u hu)) ?_
    conv => whnf
    refine eqS_same (by as_aux_lemma => kernel_rfl) (by as_aux_lemma => kernel_rfl) (by as_aux_lemma => kernel_rfl) [x.c, x.o, x.f, x.u] (by as_aux_lemma => kernel_rfl) (by as_aux_lemma => kernel_rfl) ?_
    conv => whnf
    (repeat' (first | (refine Sp.mk (fun hs => ?_) (fun hs => ?_) <;> first | (exfalso; omega) | (conv => whnf)) | (refine Ar.i (by omega) ?_; conv => whnf) | (refine NewS.mk (fun _ => ?_); conv => whnf) | (refine QuoS.nn (by omega) ?_; conv => whnf) | (refine RemS.nn (by omega) ?_; conv => whnf) | (refine QuietS.mk (by as_aux_lemma => kernel_rfl) ?_; conv => whnf) | refine RetS.mk (fun w' hS => ?_)))
    exact ⟨k + 1, by omega, by omega, ⟨rfl, trivial⟩, LbTo.refl_nil _, RsTo.refl _⟩
  · (repeat' (first | (refine Sp.mk (fun hs => ?_) (fun hs => ?_) <;> first | (exfalso; omega) | (conv => whnf)) | (refine Ar.i (by omega) ?_; conv => whnf) | (refine NewS.mk (fun _ => ?_); conv => whnf) | (refine QuoS.nn (by omega) ?_; conv => whnf) | (refine RemS.nn (by omega) ?_; conv => whnf) | (refine QuietS.mk (by as_aux_lemma => kernel_rfl) ?_; conv => whnf) | refine RetS.mk (fun w' hS => ?_)))
    exact ⟨rfl, hS.below⟩

theorem up4 (k0 : Int) (k : Nat) : i64s (up k0 (4 * (k + 1))) = i64s (up k0 (4 * k)) ++ [.int .i64 (k0 + 4 * k), .int .i64 (k0 + 4 * k + 1), .int .i64 (k0 + 4 * k + 1 + 1), .int .i64 (k0 + 4 * k + 1 + 1 + 1)] := by
  have e0 : k0 + ((4 * k : Nat) : Int) = k0 + 4 * (k : Int) := by omega
  have e1 : k0 + ((4 * k + 1 : Nat) : Int) = k0 + 4 * (k : Int) + 1 := by omega
  have e2 : k0 + ((4 * k + 1 + 1 : Nat) : Int) = k0 + 4 * (k : Int) + 1 + 1 := by omega
  have e3 : k0 + ((4 * k + 1 + 1 + 1 : Nat) : Int) = k0 + 4 * (k : Int) + 1 + 1 + 1 := by omega
  rw [show 4 * (k + 1) = 4 * k + 1 + 1 + 1 + 1 by omega, up_snoc, up_snoc, up_snoc, up_snoc, e0, e1, e2, e3]
  simp [i64s]
theorem markLease_any {A : Option Addr} {n c : Nat} {xs : List Value} (k0 : Int) (h0 : 0 ≤ k0 ∧ k0 ≤ 100000000) (w : World) (hn : n ≤ 2000000)
    (ho : owns w 0 32 4 (rowOf 32 4 A n c xs).v n xs) :
    Calls Try.prog 44 #[.slice A n c, .int .i64 k0] w fun e w' => e = .returned (.int .i64 (k0 + 4 * n)) ∧ Pres (rowOf 32 4 A n c xs).v.ownBlock.toList w w' ∧ owns w' 0 32 4 (rowOf 32 4 A n c xs).v n (i64s (up k0 (4 * n))) := by
  have hlen : xs.length = n * 4 := ho.1
  rcases rowOf_owns (A := A) (n := n) (c := c) (xs := xs) ho with ⟨rfl, rfl, rfl⟩ | ⟨g0, rfl, hc, he, ho'⟩
  · refine enter (C := cxS w []) (okS w []) (St.start w) Try.func44 rfl rfl ?_; conv => whnf
    refine LoopS.same (okS w []) [(1, 1), (5, 39)] [1, 5] rfl (fun k : Nat => [I64 k0, I64 k]) (fun k => k = 0) (fun k => k) 0 rfl ⟨rfl, rfl, trivial⟩ (LbTo.refl_nil _) (fun k g hk => ?_)
    subst hk
    conv => whnf
    (repeat' (first | (refine Sp.mk (fun hs => ?_) (fun hs => ?_) <;> first | (exfalso; omega) | (conv => whnf)) | (refine Ar.i (by omega) ?_; conv => whnf) | (refine NewS.mk (fun _ => ?_); conv => whnf) | (refine QuoS.nn (by omega) ?_; conv => whnf) | (refine RemS.nn (by omega) ?_; conv => whnf) | (refine QuietS.mk (by as_aux_lemma => kernel_rfl) ?_; conv => whnf) | refine RetS.mk (fun w' hS => ?_)))
    refine ⟨by simp, ?_, owns_nil _ _ _ _⟩
    have := hS.pres
    simpa [rowOf_zero, Value.ownBlock] using this
  · rw [he]
    refine enter (C := cxS w [g0]) (okS w [g0]) (St.startRow (o := ⟨32, 4, .slice (some ⟨g0, 0, none⟩) n c, n, xs⟩) ho') Try.func44 rfl rfl ?_
    conv => whnf
    refine LoopS.rows (okS w [g0]) [(1, 1), (5, 39)] [1, 5] rfl (fun s : Nat × List Value => [I64 (k0 + 4 * s.1), I64 s.1]) (fun s => [⟨32, 4, .slice (some ⟨g0, 0, none⟩) n c, n, i64s (up k0 (4 * s.1)) ++ s.2⟩]) (fun s => s.1 ≤ n ∧ s.2.length = (n - s.1) * 4) (fun s => n - s.1) (0, xs) ⟨by omega, by simpa using hlen⟩ ⟨congrArg (fun z => SV.v (Value.int .i64 z)) (show k0 = k0 + 4 * ((0 : Nat) : Int) by simp), rfl, trivial⟩ (LbTo.refl_nil _) (by simpa [up, i64s] using RsTo.refl _) (fun s g ⟨hk, hI⟩ => ?_)
    obtain ⟨k, tl⟩ := s
    dsimp only at hk hI ⊢
    have hP : (i64s (up k0 (4 * k))).length = k * 4 := by rw [i64s_len, up_length]; omega
    conv => whnf
    refine Sp.mk (fun h => ?_) (fun h => ?_) <;> conv => whnf
    · have hlt : k * 4 + 3 < (i64s (up k0 (4 * k)) ++ tl).length := by rw [List.length_append, hP]; omega
      refine IdxS.at_ k rfl rfl (by omega) ?_
      conv => whnf
      refine SemU.own (okS w [g0]) (i := 0) rfl (t := 3) rfl rfl (k * 4 + 0) (add_add _ _ _) (by omega) rfl ?_
      conv => whnf
      (repeat' (first | (refine Sp.mk (fun hs => ?_) (fun hs => ?_) <;> first | (exfalso; omega) | (conv => whnf)) | (refine Ar.i (by omega) ?_; conv => whnf) | (refine NewS.mk (fun _ => ?_); conv => whnf) | (refine QuoS.nn (by omega) ?_; conv => whnf) | (refine RemS.nn (by omega) ?_; conv => whnf) | (refine QuietS.mk (by as_aux_lemma => kernel_rfl) ?_; conv => whnf) | refine RetS.mk (fun w' hS => ?_)))
      refine IdxS.at_ k rfl rfl (by omega) ?_
      conv => whnf
      refine SemU.own (okS w [g0]) (i := 0) rfl (t := 3) rfl rfl (k * 4 + 1) (add_add _ _ _) (by rw [List.length_set]; omega) rfl ?_
      conv => whnf
      (repeat' (first | (refine Sp.mk (fun hs => ?_) (fun hs => ?_) <;> first | (exfalso; omega) | (conv => whnf)) | (refine Ar.i (by omega) ?_; conv => whnf) | (refine NewS.mk (fun _ => ?_); conv => whnf) | (refine QuoS.nn (by omega) ?_; conv => whnf) | (refine RemS.nn (by omega) ?_; conv => whnf) | (refine QuietS.mk (by as_aux_lemma => kernel_rfl) ?_; conv => whnf) | refine RetS.mk (fun w' hS => ?_)))
      refine IdxS.at_ k rfl rfl (by omega) ?_
      conv => whnf
      refine SemU.own (okS w [g0]) (i := 0) rfl (t := 3) rfl rfl (k * 4 + 2) (add_add _ _ _) (by rw [List.length_set, List.length_set]; omega) rfl ?_
      conv => whnf
      (repeat' (first | (refine Sp.mk (fun hs => ?_) (fun hs => ?_) <;> first | (exfalso; omega) | (conv => whnf)) | (refine Ar.i (by omega) ?_; conv => whnf) | (refine NewS.mk (fun _ => ?_); conv => whnf) | (refine QuoS.nn (by omega) ?_; conv => whnf) | (refine RemS.nn (by omega) ?_; conv => whnf) | (refine QuietS.mk (by as_aux_lemma => kernel_rfl) ?_; conv => whnf) | refine RetS.mk (fun w' hS => ?_)))
      refine IdxS.at_ k rfl rfl (by omega) ?_
      conv => whnf
      refine SemU.own (okS w [g0]) (i := 0) rfl (t := 3) rfl rfl (k * 4 + 3) (add_add _ _ _) (by rw [List.length_set, List.length_set, List.length_set]; omega) rfl ?_
      conv => whnf
      (repeat' (first | (refine Sp.mk (fun hs => ?_) (fun hs => ?_) <;> first | (exfalso; omega) | (conv => whnf)) | (refine Ar.i (by omega) ?_; conv => whnf) | (refine NewS.mk (fun _ => ?_); conv => whnf) | (refine QuoS.nn (by omega) ?_; conv => whnf) | (refine RemS.nn (by omega) ?_; conv => whnf) | (refine QuietS.mk (by as_aux_lemma => kernel_rfl) ?_; conv => whnf) | refine RetS.mk (fun w' hS => ?_)))
      refine ⟨(k + 1, tl.drop 4), ⟨by dsimp only; omega, by rw [List.length_drop]; dsimp only; omega⟩, by dsimp only; omega, ⟨congrArg (fun z => SV.v (Value.int .i64 z)) (show k0 + 4 * (k : Int) + 1 + 1 + 1 + 1 = k0 + 4 * ((k + 1 : Nat) : Int) by omega), rfl, trivial⟩, LbTo.refl_nil _, ?_⟩
      dsimp only [List.set]
      rw [set4 _ tl _ hP (by omega), up4]
      exact RsTo.refl _
    · have hkn : k = n := by omega
      have htl : tl = [] := List.eq_nil_of_length_eq_zero (by rw [hI]; omega)
      subst htl
      subst hkn
      (repeat' (first | (refine Sp.mk (fun hs => ?_) (fun hs => ?_) <;> first | (exfalso; omega) | (conv => whnf)) | (refine Ar.i (by omega) ?_; conv => whnf) | (refine NewS.mk (fun _ => ?_); conv => whnf) | (refine QuoS.nn (by omega) ?_; conv => whnf) | (refine RemS.nn (by omega) ?_; conv => whnf) | (refine QuietS.mk (by as_aux_lemma => kernel_rfl) ?_; conv => whnf) | refine RetS.mk (fun w' hS => ?_)))
      refine ⟨rfl, hS.pres, ?_⟩
      have := (hS.own _ (List.mem_singleton.2 rfl)).1
      simpa using this

theorem heldLease_any {A : Option Addr} {n c : Nat} (k0 : Int) (h0 : 0 ≤ k0 ∧ k0 ≤ 100000000) (w : World) (hn : n ≤ 2000000) (hr : Reads w 4 A n (i64s (up k0 (4 * n)))) :
    Calls Try.prog 45 #[.slice A n c, .int .i64 k0] w fun e w' => e = .returned (.int .i64 (k0 + 4 * n)) ∧ Below w.heap.size w w' := by
  refine enter (C := cxS w []) (okS w []) (St.start w) Try.func45 rfl rfl ?_; conv => whnf
  refine LoopS.same (okS w []) [(1, 1), (4, 47)] [1, 5] rfl (fun k : Nat => [I64 (k0 + 4 * k), I64 k]) (fun k => k ≤ n) (fun k => n - k) 0 (by omega) ⟨congrArg (fun z => SV.v (Value.int .i64 z)) (show k0 = k0 + 4 * ((0 : Nat) : Int) by simp), rfl, trivial⟩ (LbTo.refl_nil _) (fun k g hk => ?_)
  conv => whnf
  refine Sp.mk (fun h => ?_) (fun h => ?_) <;> conv => whnf
  · obtain ⟨ad, rfl, hc⟩ := hr.2 (by omega)
    have hcell : ∀ j : Nat, j < 4 → w.cell? ((ad.add (k * 4)).add j) = some (.int .i64 (k0 + 4 * k + j)) := fun j hj => by
      rw [add_add]
      refine hc _ _ ?_
      rw [i64s, List.getElem?_map, up_at (by omega)]
      simp only [Option.map_some, Option.some.injEq, Value.int.injEq, true_and]
      omega
    refine IdxS.at_ k rfl rfl (by omega) ?_
    conv => whnf
    refine LdS.at_ (fun w' hS => hS.cell0 (hcell 0 (by omega))) ?_
    conv => whnf
    refine Sp.mk (fun h2 => ?_) (fun h2 => absurd (by simp; try omega) h2) <;> conv => whnf
    (repeat' (first | (refine Sp.mk (fun hs => ?_) (fun hs => ?_) <;> first | (exfalso; omega) | (conv => whnf)) | (refine Ar.i (by omega) ?_; conv => whnf) | (refine NewS.mk (fun _ => ?_); conv => whnf) | (refine QuoS.nn (by omega) ?_; conv => whnf) | (refine RemS.nn (by omega) ?_; conv => whnf) | (refine QuietS.mk (by as_aux_lemma => kernel_rfl) ?_; conv => whnf) | refine RetS.mk (fun w' hS => ?_)))
    refine IdxS.at_ k rfl rfl (by omega) ?_
    conv => whnf
    refine LdS.at_ (fun w' hS => hS.cell0 (hcell 1 (by omega))) ?_
    conv => whnf
    refine Sp.mk (fun h2 => ?_) (fun h2 => absurd (by simp; try omega) h2) <;> conv => whnf
    (repeat' (first | (refine Sp.mk (fun hs => ?_) (fun hs => ?_) <;> first | (exfalso; omega) | (conv => whnf)) | (refine Ar.i (by omega) ?_; conv => whnf) | (refine NewS.mk (fun _ => ?_); conv => whnf) | (refine QuoS.nn (by omega) ?_; conv => whnf) | (refine RemS.nn (by omega) ?_; conv => whnf) | (refine QuietS.mk (by as_aux_lemma => kernel_rfl) ?_; conv => whnf) | refine RetS.mk (fun w' hS => ?_)))
    refine IdxS.at_ k rfl rfl (by omega) ?_
    conv => whnf
    refine LdS.at_ (fun w' hS => hS.cell0 (hcell 2 (by omega))) ?_
    conv => whnf
    refine Sp.mk (fun h2 => ?_) (fun h2 => absurd (by simp; try omega) h2) <;> conv => whnf
    (repeat' (first | (refine Sp.mk (fun hs => ?_) (fun hs => ?_) <;> first | (exfalso; omega) | (conv => whnf)) | (refine Ar.i (by omega) ?_; conv => whnf) | (refine NewS.mk (fun _ => ?_); conv => whnf) | (refine QuoS.nn (by omega) ?_; conv => whnf) | (refine RemS.nn (by omega) ?_; conv => whnf) | (refine QuietS.mk (by as_aux_lemma => kernel_rfl) ?_; conv => whnf) | refine RetS.mk (fun w' hS => ?_)))
    refine IdxS.at_ k rfl rfl (by omega) ?_
    conv => whnf
    refine LdS.at_ (fun w' hS => hS.cell0 (hcell 3 (by omega))) ?_
    conv => whnf
    refine Sp.mk (fun h2 => ?_) (fun h2 => absurd (by simp; try omega) h2) <;> conv => whnf
    (repeat' (first | (refine Sp.mk (fun hs => ?_) (fun hs => ?_) <;> first | (exfalso; omega) | (conv => whnf)) | (refine Ar.i (by omega) ?_; conv => whnf) | (refine NewS.mk (fun _ => ?_); conv => whnf) | (refine QuoS.nn (by omega) ?_; conv => whnf) | (refine RemS.nn (by omega) ?_; conv => whnf) | (refine QuietS.mk (by as_aux_lemma => kernel_rfl) ?_; conv => whnf) | refine RetS.mk (fun w' hS => ?_)))
    exact ⟨k + 1, by omega, by omega, ⟨congrArg (fun z => SV.v (Value.int .i64 z)) (show k0 + 4 * (k : Int) + 1 + 1 + 1 + 1 = k0 + 4 * ((k + 1 : Nat) : Int) by omega), rfl, trivial⟩, LbTo.refl_nil _, RsTo.refl _⟩
  · (repeat' (first | (refine Sp.mk (fun hs => ?_) (fun hs => ?_) <;> first | (exfalso; omega) | (conv => whnf)) | (refine Ar.i (by omega) ?_; conv => whnf) | (refine NewS.mk (fun _ => ?_); conv => whnf) | (refine QuoS.nn (by omega) ?_; conv => whnf) | (refine RemS.nn (by omega) ?_; conv => whnf) | (refine QuietS.mk (by as_aux_lemma => kernel_rfl) ?_; conv => whnf) | refine RetS.mk (fun w' hS => ?_)))
    have hkn : k = n := by omega
    subst hkn
    exact ⟨rfl, hS.below⟩

theorem exactFreeFor_any (w : World) {A : Option Addr} {n c : Nat} {l : List LeaseD} {m f u : Int} (hr : Reads w 4 A n (l.flatMap leaseV)) (hm : n ≤ maxLen) (_ : I64ok m) (_ : I64ok f) (_ : I64ok u) :
    Calls Try.prog 8 #[.slice A n c, .int .i64 m, .int .i64 f, .int .i64 u] w fun e w' => e = .returned (.bool true) ∧ Below w.heap.size w w' := by
  refine enter (C := cxS w []) (okS w []) (St.start w) Try.func8 rfl rfl ?_; conv => whnf
  refine ⟨rfl, CallS.ro (fun w hS => sz_any 1048576 (by omega) hm w) ?_⟩
  by_cases hb : (1048576 : Int) - n < 0
  · rw [if_pos hb]
    conv => whnf
    (repeat' (first | (refine Sp.mk (fun hs => ?_) (fun hs => ?_) <;> first | (exfalso; omega) | (conv => whnf)) | (refine Ar.i (by omega) ?_; conv => whnf) | (refine NewS.mk (fun _ => ?_); conv => whnf) | (refine QuoS.nn (by omega) ?_; conv => whnf) | (refine RemS.nn (by omega) ?_; conv => whnf) | (refine QuietS.mk (by as_aux_lemma => kernel_rfl) ?_; conv => whnf) | refine RetS.mk (fun w' hS => ?_)))
    exact ⟨rfl, hS.below⟩
  rw [if_neg hb]
  have hn : n ≤ 1048576 := by omega
  have hL : Leases w A n l := ⟨hr, by omega⟩
  conv => whnf
  (repeat' (first | (refine Sp.mk (fun hs => ?_) (fun hs => ?_) <;> first | (exfalso; omega) | (conv => whnf)) | (refine Ar.i (by omega) ?_; conv => whnf) | (refine NewS.mk (fun _ => ?_); conv => whnf) | (refine QuoS.nn (by omega) ?_; conv => whnf) | (refine RemS.nn (by omega) ?_; conv => whnf) | (refine QuietS.mk (by as_aux_lemma => kernel_rfl) ?_; conv => whnf) | refine RetS.mk (fun w' hS => ?_)))
  refine call_to hL (fun A1 => ?_)
  conv => whnf
  refine ⟨rfl, CallS.ro (fun w hS => sFree_any m f u w (St.leases hS 0 rfl (by omega))) ?_⟩
  conv => whnf
  refine call_to hL (fun A2 => ?_)
  conv => whnf
  refine ⟨rfl, CallS.ro (fun w hS => iFree_any m f u w (St.leases hS 1 rfl (by omega)) (Nat.le_refl _)) ?_⟩
  conv => whnf
  (repeat' (first | (refine Sp.mk (fun hs => ?_) (fun hs => ?_) <;> first | (exfalso; omega) | (conv => whnf)) | (refine Ar.i (by omega) ?_; conv => whnf) | (refine NewS.mk (fun _ => ?_); conv => whnf) | (refine QuoS.nn (by omega) ?_; conv => whnf) | (refine RemS.nn (by omega) ?_; conv => whnf) | (refine QuietS.mk (by as_aux_lemma => kernel_rfl) ?_; conv => whnf) | refine RetS.mk (fun w' hS => ?_)))
  refine call_to hL (fun A3 => ?_)
  conv => whnf
  refine ⟨rfl, CallS.ro (fun w hS => eqLeases_any w (St.leases hS 1 rfl (by omega)) (St.leases hS 2 rfl (by omega))) ?_⟩
  conv => whnf
  (repeat' (first | (refine Sp.mk (fun hs => ?_) (fun hs => ?_) <;> first | (exfalso; omega) | (conv => whnf)) | (refine Ar.i (by omega) ?_; conv => whnf) | (refine NewS.mk (fun _ => ?_); conv => whnf) | (refine QuoS.nn (by omega) ?_; conv => whnf) | (refine RemS.nn (by omega) ?_; conv => whnf) | (refine QuietS.mk (by as_aux_lemma => kernel_rfl) ?_; conv => whnf) | refine RetS.mk (fun w' hS => ?_)))
  exact ⟨rfl, hS.below⟩
end Go.Proofs.Ytgfblbpiokiagaa
