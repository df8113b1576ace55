/- The drawing of leases; conditions: none. -/
import Derived.Test.YtgfblbpiokiagaaLeaI
import Derived.Test.YtgfblbpiokiagaaRead
set_option maxRecDepth 100000
set_option linter.unusedVariables false
set_option linter.unusedSimpArgs false
namespace Go.Proofs.Ytgfblbpiokiagaa
open Eng Go Go.RowKit

/-- Rows that a function which may turn its caller's row has made itself. -/
theorem freshS {w0 w : World} {g : Nat} {lb : List Box} {o : Own} {os' os : List Own} (h : Eng.St w0 [g] lb (o :: os') w) (ho : o.v.ownBlock = some g) (hs : os.Sublist os') : Fresh w0.heap.size os w := by
  have hd := h.disj
  rw [List.nodup_append] at hd
  have hd2 := hd.2.1
  simp only [List.filterMap_cons, ho, List.nodup_cons] at hd2
  refine ⟨fun o2 ho2 => ?_, List.Nodup.sublist (List.Sublist.filterMap _ hs) hd2.2⟩
  obtain ⟨h1, h2⟩ := h.own o2 (List.mem_cons_of_mem _ (hs.subset ho2))
  refine ⟨h1.1, ?_⟩
  rcases h1.2 with hn | ⟨g2, cap, cur, hv, _, hr⟩
  · exact .inl hn
  · refine .inr ⟨g2, cap, cur, hv, ?_, hr⟩
    have e2 : o2.v.ownBlock = some g2 := by rw [hv]; rfl
    rcases h2 g2 e2 with h3 | h3
    · exact h3
    · simp only [List.mem_singleton] at h3
      subst h3
      exact absurd (List.mem_filterMap.2 ⟨o2, hs.subset ho2, e2⟩) hd2.1

structure DL where
  A : Option Addr
  c : Nat
  l : List LeaseD
def leaRow (y : DL) : Own := rowOf 32 4 y.A y.l.length y.c (y.l.flatMap leaseV)
def DL.v (y : DL) : Value := .slice y.A y.l.length y.c

theorem someLeases_any {g : Nat} {A : Option Addr} {n c : Nat} {bs : List Int} {p : Nat} (w : World) (h : Rd w g A n c bs p) (hp : p ≤ 1000) :
    Calls Try.prog 73 #[.pointer (some ⟨g, 0, none⟩)] w fun e w' => ∃ y : DL × Nat, (Valid y.1.l ∧ y.1.l.length ≤ y.1.c ∧ y.2 ≤ p + 70) ∧ e = .returned y.1.v ∧ Pres [g] w w' ∧ Rd w' g A n c bs y.2 ∧ Fresh w.heap.size [leaRow y.1] w' := by
  have hB := h.b
  refine enter (C := cxS w [g]) (okS w [g]) h.start Try.func73 rfl rfl ?_
  conv => whnf
  refine NewS.mk (fun g0 => ?_)
  conv => whnf
  refine NewS.mk (fun g1 => ?_)
  conv => whnf
  refine call_one hB 0 2 (by decide) rfl (by omega) rfl (by decide) 0 16 (by repeat (first | exact inB_nil | refine inB_cons (by omega) ?_)) (fun r0 hr0 hr1 => ?_)
  conv => whnf
  obtain ⟨M, rfl⟩ := Int.eq_ofNat_of_zero_le hr0
  refine LoopS.rows (okS w [g]) [(3, 7), (12, 35)] [3, 4] rfl (fun s : Nat × DL × Nat => [s.2.1.v, I64 s.1]) (fun s => [rdOwn g A n c s.2.2, leaRow s.2.1])
    (fun s => Valid s.2.1.l ∧ s.2.1.l.length ≤ s.2.1.c ∧ s.2.2 + 4 * s.1 ≤ p + 70) (fun s => s.1) (M, ⟨some ⟨g0, 0, none⟩, 0, []⟩, p + 1) ⟨Valid.nil, Nat.le_refl _, by dsimp only; omega⟩ ⟨rfl, rfl, trivial⟩ (LbTo.refl_nil _)
    ((RsTo.sub (List.Sublist.cons_cons _ (List.Sublist.cons_cons _ (List.nil_sublist _)))).trans (RsTo.norm (i := 1) (A := some ⟨g0, 0, none⟩) (n := 0) (c := 0) (xs := []) rfl)) (fun s gg ⟨hv, hc, hq⟩ => ?_)
  obtain ⟨m, ⟨A1, c1, l⟩, p1⟩ := s
  dsimp only [DL.v] at hv hc hq ⊢
  have hl12 := hv.2
  conv => whnf
  refine Sp.mk (fun h0 => ?_) (fun h0 => ?_) <;> conv => whnf
  rotate_left
  · (repeat' (first | (refine Sp.mk (fun hs => ?_) (fun hs => ?_) <;> first | (exfalso; omega) | (conv => whnf)) | (refine Ar.i (by omega) ?_; conv => whnf) | (refine NewS.mk (fun _ => ?_); conv => whnf) | (refine QuoS.nn (by omega) ?_; conv => whnf) | (refine RemS.nn (by omega) ?_; conv => whnf) | (refine QuietS.mk (by as_aux_lemma => kernel_rfl) ?_; conv => whnf) | refine RetS.mk (fun w' hS => ?_)))
    exact ⟨(⟨A1, c1, l⟩, p1), ⟨hv, hc, by dsimp only; omega⟩, rfl, hS.pres, hB.rd hS (List.mem_of_getElem? (i := 0) rfl), freshS hS rfl (List.Sublist.refl _)⟩
  obtain ⟨m, rfl⟩ : ∃ m', m = m' + 1 := ⟨m - 1, by omega⟩
  refine call_pick hB 0 rfl (by omega) (fun r1 h1 k1 => ?_)
  have k1 := k1 (by omega)
  conv => whnf
  refine call_pick hB 0 rfl (by omega) (fun r2 h2 k2 => ?_)
  have k2 := k2 (by omega)
  conv => whnf
  refine call_pick hB 0 rfl (by omega) (fun r3 h3 k3 => ?_)
  have k3 := k3 (by omega)
  conv => whnf
  refine Ar.i (by omega) ?_
  conv => whnf
  refine call_pick hB 0 rfl (by omega) (fun r4 h4 k4 => ?_)
  have k4 := k4 (by omega)
  conv => whnf
  refine Ar.i (by omega) ?_
  conv => whnf
  refine ⟨rfl, CallS.own (fun w' hS => sAdd2_any ⟨r2, r3, r1, r1 + 1 + r4⟩ w' (St.leases hS 1 rfl (by omega)) (by omega)) (fun y hy => ?_)⟩
  conv => whnf
  cases hd : decide (addOk l ⟨r2, r3, r1, r1 + 1 + r4⟩)
  · conv => whnf
    (repeat' (first | (refine Sp.mk (fun hs => ?_) (fun hs => ?_) <;> first | (exfalso; omega) | (conv => whnf)) | (refine Ar.i (by omega) ?_; conv => whnf) | (refine NewS.mk (fun _ => ?_); conv => whnf) | (refine QuoS.nn (by omega) ?_; conv => whnf) | (refine RemS.nn (by omega) ?_; conv => whnf) | (refine QuietS.mk (by as_aux_lemma => kernel_rfl) ?_; conv => whnf) | refine RetS.mk (fun w' hS => ?_)))
    exact ⟨(m, ⟨A1, c1, l⟩, p1 + 4), ⟨hv, hc, by dsimp only; omega⟩, by dsimp only; omega, ⟨rfl, congrArg (fun z => SV.v (Value.int .i64 z)) (show ((m + 1 : Nat) : Int) - 1 = (m : Int) by omega), trivial⟩, LbTo.refl_nil _, RsTo.sub (List.Sublist.cons_cons _ (List.Sublist.cons_cons _ (List.nil_sublist _)))⟩
  · have hok := of_decide_eq_true hd
    have e : addL l ⟨r2, r3, r1, r1 + 1 + r4⟩ = l ++ [⟨r2, r3, r1, r1 + 1 + r4⟩] := if_pos hok
    rw [e] at hy ⊢
    conv => whnf
    (repeat' (first | (refine Sp.mk (fun hs => ?_) (fun hs => ?_) <;> first | (exfalso; omega) | (conv => whnf)) | (refine Ar.i (by omega) ?_; conv => whnf) | (refine NewS.mk (fun _ => ?_); conv => whnf) | (refine QuoS.nn (by omega) ?_; conv => whnf) | (refine RemS.nn (by omega) ?_; conv => whnf) | (refine QuietS.mk (by as_aux_lemma => kernel_rfl) ?_; conv => whnf) | refine RetS.mk (fun w' hS => ?_)))
    exact ⟨(m, ⟨y.1, y.2, l ++ [⟨r2, r3, r1, r1 + 1 + r4⟩]⟩, p1 + 4), ⟨hok.2, hy, by dsimp only; omega⟩, by dsimp only; omega, ⟨rfl, congrArg (fun z => SV.v (Value.int .i64 z)) (show ((m + 1 : Nat) : Int) - 1 = (m : Int) by omega), trivial⟩, LbTo.refl_nil _, RsTo.sub (List.Sublist.cons_cons _ (List.Sublist.cons _ (List.Sublist.refl _)))⟩

theorem anyLeases_any {g : Nat} {A : Option Addr} {n c : Nat} {bs : List Int} {p : Nat} (w : World) (h : Rd w g A n c bs p) (hp : p ≤ 1000) :
    Calls Try.prog 60 #[.pointer (some ⟨g, 0, none⟩)] w fun e w' => ∃ y : DL × Nat, (y.1.l.length ≤ 13 ∧ y.1.l.length ≤ y.1.c ∧ y.2 ≤ p + 80) ∧ e = .returned y.1.v ∧ Pres [g] w w' ∧ Rd w' g A n c bs y.2 ∧ Fresh w.heap.size [leaRow y.1] w' := by
  have hB := h.b
  refine enter (C := cxS w [g]) (okS w [g]) h.start Try.func60 rfl rfl ?_
  conv => whnf
  refine call_rd (α := DL × Nat) (r := fun y => y.1.v) (φ := fun y => Valid y.1.l ∧ y.1.l.length ≤ y.1.c ∧ y.2 ≤ p + 70) (q := fun y => y.2) (os := fun y => [leaRow y.1]) hB 0 rfl rfl (fun w' hS hrd => someLeases_any w' hrd hp) (fun y hy => ?_)
  obtain ⟨⟨A1, c1, l⟩, p1⟩ := y
  obtain ⟨hv, hc, hq⟩ := hy
  dsimp only [DL.v] at hv hc hq ⊢
  have hl12 := hv.2
  conv => whnf
  refine call_pick hB 0 rfl (by omega) (fun r1 h1 k1 => ?_)
  conv => whnf
  refine Sp.mk (fun h0 => ?_) (fun h0 => ?_) <;> conv => whnf
  rotate_left
  · (repeat' (first | (refine Sp.mk (fun hs => ?_) (fun hs => ?_) <;> first | (exfalso; omega) | (conv => whnf)) | (refine Ar.i (by omega) ?_; conv => whnf) | (refine NewS.mk (fun _ => ?_); conv => whnf) | (refine QuoS.nn (by omega) ?_; conv => whnf) | (refine RemS.nn (by omega) ?_; conv => whnf) | (refine QuietS.mk (by as_aux_lemma => kernel_rfl) ?_; conv => whnf) | refine RetS.mk (fun w' hS => ?_)))
    exact ⟨(⟨A1, c1, l⟩, p1 + 1), ⟨by dsimp only; omega, hc, by dsimp only; omega⟩, rfl, hS.pres, hB.rd hS (List.mem_of_getElem? (i := 0) rfl), freshS hS rfl (List.Sublist.refl _)⟩
  refine NewS.mk (fun g1 => ?_)
  conv => whnf
  refine call_one hB 0 2 (by decide) rfl (by omega) rfl (by decide) (-1) 6 (by repeat (first | exact inB_nil | refine inB_cons (by omega) ?_)) (fun s1 _ _ => ?_)
  conv => whnf
  refine NewS.mk (fun g2 => ?_)
  conv => whnf
  refine call_one hB 0 3 (by decide) rfl (by omega) rfl (by decide) 0 5 (by repeat (first | exact inB_nil | refine inB_cons (by omega) ?_)) (fun s2 _ _ => ?_)
  conv => whnf
  refine NewS.mk (fun g3 => ?_)
  conv => whnf
  refine call_one hB 0 4 (by decide) rfl (by omega) rfl (by decide) 10 1000 (by repeat (first | exact inB_nil | refine inB_cons (by omega) ?_)) (fun s3 _ _ => ?_)
  conv => whnf
  refine NewS.mk (fun g4 => ?_)
  conv => whnf
  refine call_one hB 0 5 (by decide) rfl (by omega) rfl (by decide) 10 1001 (by repeat (first | exact inB_nil | refine inB_cons (by omega) ?_)) (fun s4 _ _ => ?_)
  conv => whnf
  refine NewS.mk (fun g5 => ?_)
  conv => whnf
  refine SemS.appR (okS w [g]) (i := 1) rfl rfl (by decide) rfl (by omega) (fun w' hS => St.row hS (e := 32) (xs := leaseV ⟨s1, s2, s3, s4⟩) (List.mem_of_getElem? (i := 6) rfl)) (leaseV_one _) (by simp only [maxLen]; omega) (by simp only; omega) (fun A2 c2 hc2 => ?_)
  conv => whnf
  (repeat' (first | (refine Sp.mk (fun hs => ?_) (fun hs => ?_) <;> first | (exfalso; omega) | (conv => whnf)) | (refine Ar.i (by omega) ?_; conv => whnf) | (refine NewS.mk (fun _ => ?_); conv => whnf) | (refine QuoS.nn (by omega) ?_; conv => whnf) | (refine RemS.nn (by omega) ?_; conv => whnf) | (refine QuietS.mk (by as_aux_lemma => kernel_rfl) ?_; conv => whnf) | refine RetS.mk (fun w' hS => ?_)))
  refine ⟨(⟨A2, c2, l ++ [⟨s1, s2, s3, s4⟩]⟩, p1 + 1 + 4), ⟨by simp; omega, by simpa using hc2, by dsimp only; omega⟩, by simp [DL.v], hS.pres, hB.rd hS (List.mem_of_getElem? (i := 0) rfl), ?_⟩
  have := freshS (os := [⟨32, 4, .slice A2 (l.length + 1) c2, l.length + 1, l.flatMap leaseV ++ leaseV ⟨s1, s2, s3, s4⟩⟩]) hS rfl (List.Sublist.cons_cons _ (List.nil_sublist _))
  rw [flat_one] at this
  have h2 := this.norm
  simpa [leaRow] using h2

section
variable {w0 : World} {lb : List Box} {rs : List Own} {g : Nat} {A : Option Addr} {n c : Nat} {bs : List Int} {p : Nat} {K : SV → List Box → List Own → Prop}
theorem call_anyLeases {S0 : List Nat} (hB : RdB w0 S0 g A n bs) (i : Nat) (hi : rs[i]? = some (rdOwn g A n c p)) (hp : p ≤ 1000)
    (kk : ∀ (y : DL) (q : Nat), y.l.length ≤ 13 → y.l.length ≤ y.c → q ≤ p + 80 → K (.v y.v) lb (rs.set i (rdOwn g A n c q) ++ [leaRow y])) :
    memN (cxS w0 S0).F 60 = true ∧ CallS (cxS w0 S0) lb rs 60 #[.pointer (some ⟨g, 0, none⟩)] K :=
  call_rd (α := DL × Nat) (r := fun y => y.1.v) (φ := fun y => y.1.l.length ≤ 13 ∧ y.1.l.length ≤ y.1.c ∧ y.2 ≤ p + 80) (q := fun y => y.2) (os := fun y => [leaRow y.1]) hB i hi rfl (fun w' hS hrd => anyLeases_any w' hrd hp) (fun y hy => kk y.1 y.2 hy.1 hy.2.1 hy.2.2)
end

def okDL (y : DL) : Prop := y.l.length ≤ 13 ∧ y.l.length ≤ y.c
theorem drawValid_any {A : Option Addr} {n c : Nat} {bs : List Int} (w : World) (hb : Bytes w A n bs) (hn : n ≤ c) :
    Calls Try.prog 27 #[.slice A n c] w fun e w' => ∃ y : DL, okDL y ∧ e = .returned y.v ∧ Below w.heap.size w w' ∧ Fresh w.heap.size [leaRow y] w' := by
  refine enter (C := cxS w []) (okS w []) (St.start w) Try.func27 rfl rfl ?_; conv => whnf
  refine call_newReader hb hn (fun g c' hB => ?_)
  conv => whnf
  refine call_anyLeases hB 0 rfl (by omega) (fun y q h1 h2 h3 => ?_)
  conv => whnf
  (repeat' (first | (refine Sp.mk (fun hs => ?_) (fun hs => ?_) <;> first | (exfalso; omega) | (conv => whnf)) | (refine Ar.i (by omega) ?_; conv => whnf) | (refine NewS.mk (fun _ => ?_); conv => whnf) | (refine QuoS.nn (by omega) ?_; conv => whnf) | (refine RemS.nn (by omega) ?_; conv => whnf) | (refine QuietS.mk (by as_aux_lemma => kernel_rfl) ?_; conv => whnf) | refine RetS.mk (fun w' hS => ?_)))
  exact ⟨y, ⟨h1, h2⟩, rfl, hS.below, hS.fresh (List.Sublist.cons _ (List.Sublist.refl _))⟩
theorem drawLeased_any {A : Option Addr} {n c : Nat} {bs : List Int} (w : World) (hb : Bytes w A n bs) (hn : n ≤ c) :
    Calls Try.prog 34 #[.slice A n c] w fun e w' => ∃ y : DL × Int, (okDL y.1 ∧ 0 ≤ y.2 ∧ y.2 < 6) ∧ e = .returned (.tuple #[y.1.v, .int .i64 y.2]) ∧ Below w.heap.size w w' ∧ Fresh w.heap.size [leaRow y.1] w' := by
  refine enter (C := cxS w []) (okS w []) (St.start w) Try.func34 rfl rfl ?_; conv => whnf
  refine call_newReader hb hn (fun g c' hB => ?_)
  conv => whnf
  refine call_anyLeases hB 0 rfl (by omega) (fun y q h1 h2 h3 => ?_)
  conv => whnf
  refine call_pick hB 0 rfl (by omega) (fun r h4 h5 => ?_)
  conv => whnf
  (repeat' (first | (refine Sp.mk (fun hs => ?_) (fun hs => ?_) <;> first | (exfalso; omega) | (conv => whnf)) | (refine Ar.i (by omega) ?_; conv => whnf) | (refine NewS.mk (fun _ => ?_); conv => whnf) | (refine QuoS.nn (by omega) ?_; conv => whnf) | (refine RemS.nn (by omega) ?_; conv => whnf) | (refine QuietS.mk (by as_aux_lemma => kernel_rfl) ?_; conv => whnf) | refine RetS.mk (fun w' hS => ?_)))
  exact ⟨(y, r), ⟨⟨h1, h2⟩, h4, h5 (by omega)⟩, rfl, hS.below, hS.fresh (List.Sublist.cons _ (List.Sublist.refl _))⟩
theorem drawOwner_any {A : Option Addr} {n c : Nat} {bs : List Int} (w : World) (hb : Bytes w A n bs) (hn : n ≤ c) :
    Calls Try.prog 35 #[.slice A n c] w fun e w' => ∃ y : DL × Int × Int, (okDL y.1 ∧ (0 ≤ y.2.1 ∧ y.2.1 < 5) ∧ (-1 ≤ y.2.2 ∧ y.2.2 ≤ 1000)) ∧ e = .returned (.tuple #[y.1.v, .int .i64 y.2.1, .int .i64 y.2.2]) ∧ Below w.heap.size w w' ∧ Fresh w.heap.size [leaRow y.1] w' := by
  refine enter (C := cxS w []) (okS w []) (St.start w) Try.func35 rfl rfl ?_; conv => whnf
  refine call_newReader hb hn (fun g c' hB => ?_)
  conv => whnf
  refine call_anyLeases hB 0 rfl (by omega) (fun y q h1 h2 h3 => ?_)
  conv => whnf
  refine call_pick hB 0 rfl (by omega) (fun r h4 h5 => ?_)
  have h5 := h5 (by omega)
  conv => whnf
  refine call_pick hB 0 rfl (by omega) (fun r2 h6 h7 => ?_)
  have h7 := h7 (by omega)
  conv => whnf
  refine call_pick hB 0 rfl (by omega) (fun r3 h8 h9 => ?_)
  have h9 := h9 (by omega)
  conv => whnf
  refine NewS.mk (fun g1 => ?_)
  conv => whnf
  refine call_one hB 0 2 (by decide) rfl (by omega) rfl (by decide) (-1) 1000 (by repeat (first | exact inB_nil | refine inB_cons (by omega) ?_)) (fun s1 ha hb => ?_)
  conv => whnf
  (repeat' (first | (refine Sp.mk (fun hs => ?_) (fun hs => ?_) <;> first | (exfalso; omega) | (conv => whnf)) | (refine Ar.i (by omega) ?_; conv => whnf) | (refine NewS.mk (fun _ => ?_); conv => whnf) | (refine QuoS.nn (by omega) ?_; conv => whnf) | (refine RemS.nn (by omega) ?_; conv => whnf) | (refine QuietS.mk (by as_aux_lemma => kernel_rfl) ?_; conv => whnf) | refine RetS.mk (fun w' hS => ?_)))
  exact ⟨(y, r, s1), ⟨⟨h1, h2⟩, ⟨h4, h5⟩, ha, hb⟩, rfl, hS.below, hS.fresh (List.Sublist.cons _ (List.Sublist.cons_cons _ (List.nil_sublist _)))⟩
theorem drawBusy_any {A : Option Addr} {n c : Nat} {bs : List Int} (w : World) (hb : Bytes w A n bs) (hn : n ≤ c) :
    Calls Try.prog 46 #[.slice A n c] w fun e w' => ∃ y : DL × Int, (okDL y.1 ∧ (-1 ≤ y.2 ∧ y.2 ≤ 1000)) ∧ e = .returned (.tuple #[y.1.v, .int .i64 y.2]) ∧ Below w.heap.size w w' ∧ Fresh w.heap.size [leaRow y.1] w' := by
  refine enter (C := cxS w []) (okS w []) (St.start w) Try.func46 rfl rfl ?_; conv => whnf
  refine ⟨rfl, CallS.own (fun w' hS => drawOwner_any w' ⟨hS.arg hb.1, hb.2⟩ hn) (fun y hy => ?_)⟩
  conv => whnf
  (repeat' (first | (refine Sp.mk (fun hs => ?_) (fun hs => ?_) <;> first | (exfalso; omega) | (conv => whnf)) | (refine Ar.i (by omega) ?_; conv => whnf) | (refine NewS.mk (fun _ => ?_); conv => whnf) | (refine QuoS.nn (by omega) ?_; conv => whnf) | (refine RemS.nn (by omega) ?_; conv => whnf) | (refine QuietS.mk (by as_aux_lemma => kernel_rfl) ?_; conv => whnf) | refine RetS.mk (fun w' hS => ?_)))
  exact ⟨(y.1, y.2.2), ⟨hy.1, hy.2.2⟩, rfl, hS.below, hS.fresh (List.Sublist.refl _)⟩
theorem drawFree_any {A : Option Addr} {n c : Nat} {bs : List Int} (w : World) (hb : Bytes w A n bs) (hn : n ≤ c) :
    Calls Try.prog 36 #[.slice A n c] w fun e w' => ∃ y : DL × Int × Int × Int, (okDL y.1 ∧ (0 ≤ y.2.1 ∧ y.2.1 ≤ 7)) ∧ e = .returned (.tuple #[y.1.v, .int .i64 y.2.1, .int .i64 y.2.2.1, .int .i64 y.2.2.2]) ∧ Below w.heap.size w w' ∧ Fresh w.heap.size [leaRow y.1] w' := by
  refine enter (C := cxS w []) (okS w []) (St.start w) Try.func36 rfl rfl ?_; conv => whnf
  refine call_newReader hb hn (fun g c' hB => ?_)
  conv => whnf
  refine call_anyLeases hB 0 rfl (by omega) (fun y q h1 h2 h3 => ?_)
  conv => whnf
  refine NewS.mk (fun g1 => ?_)
  conv => whnf
  refine call_one hB 0 2 (by decide) rfl (by omega) rfl (by decide) 0 7 (by repeat (first | exact inB_nil | refine inB_cons (by omega) ?_)) (fun m hm0 hm1 => ?_)
  conv => whnf
  refine call_pick hB 0 rfl (by omega) (fun r h4 h5 => ?_)
  have h5 := h5 (by omega)
  conv => whnf
  refine call_pick hB 0 rfl (by omega) (fun r2 h6 h7 => ?_)
  have h7 := h7 (by omega)
  conv => whnf
  refine NewS.mk (fun g2 => ?_)
  conv => whnf
  refine call_one hB 0 3 (by decide) rfl (by omega) rfl (by decide) (-1) 1000 (by repeat (first | exact inB_nil | refine inB_cons (by omega) ?_)) (fun f hf0 hf1 => ?_)
  conv => whnf
  refine NewS.mk (fun g3 => ?_)
  conv => whnf
  refine call_one hB 0 4 (by decide) rfl (by omega) rfl (by decide) 0 1000 (by repeat (first | exact inB_nil | refine inB_cons (by omega) ?_)) (fun d hd0 hd1 => ?_)
  conv => whnf
  (repeat' (first | (refine Sp.mk (fun hs => ?_) (fun hs => ?_) <;> first | (exfalso; omega) | (conv => whnf)) | (refine Ar.i (by omega) ?_; conv => whnf) | (refine NewS.mk (fun _ => ?_); conv => whnf) | (refine QuoS.nn (by omega) ?_; conv => whnf) | (refine RemS.nn (by omega) ?_; conv => whnf) | (refine QuietS.mk (by as_aux_lemma => kernel_rfl) ?_; conv => whnf) | refine RetS.mk (fun w' hS => ?_)))
  exact ⟨(y, m, f, f + d), ⟨⟨h1, h2⟩, hm0, hm1⟩, rfl, hS.below, hS.fresh (List.Sublist.cons _ (List.Sublist.cons_cons _ (List.nil_sublist _)))⟩
theorem drawAdd_any {A : Option Addr} {n c : Nat} {bs : List Int} (w : World) (hb : Bytes w A n bs) (hn : n ≤ c) :
    Calls Try.prog 37 #[.slice A n c] w fun e w' => ∃ y : DL × LeaseD, okDL y.1 ∧ e = .returned (.tuple #[y.1.v, .agg (leaseV y.2).toArray]) ∧ Below w.heap.size w w' ∧ Fresh w.heap.size [leaRow y.1] w' := by
  refine enter (C := cxS w []) (okS w []) (St.start w) Try.func37 rfl rfl ?_; conv => whnf
  refine NewS.mk (fun g0 => ?_)
  conv => whnf
  refine call_newReader hb hn (fun g c' hB => ?_)
  conv => whnf
  refine call_anyLeases hB 0 rfl (by omega) (fun y q h1 h2 h3 => ?_)
  conv => whnf
  refine call_pick hB 0 rfl (by omega) (fun r h4 h5 => ?_)
  have h5 := h5 (by omega)
  conv => whnf
  refine call_pick hB 0 rfl (by omega) (fun r2 h6 h7 => ?_)
  have h7 := h7 (by omega)
  conv => whnf
  refine call_pick hB 0 rfl (by omega) (fun r3 h8 h9 => ?_)
  have h9 := h9 (by omega)
  conv => whnf
  refine Ar.i (by omega) ?_
  conv => whnf
  refine call_pick hB 0 rfl (by omega) (fun r4 ha hb => ?_)
  have hb := hb (by omega)
  conv => whnf
  refine Ar.i (by omega) ?_
  conv => whnf
  refine NewS.mk (fun g1 => ?_)
  conv => whnf
  refine call_pick hB 0 rfl (by omega) (fun r5 _ _ => ?_)
  conv => whnf
  refine Sp.mk (fun h0 => ?_) (fun h0 => ?_) <;> conv => whnf
  · refine NewS.mk (fun g2 => ?_)
    conv => whnf
    refine call_one hB 0 2 (by decide) rfl (by omega) rfl (by decide) 0 1001 (by repeat (first | exact inB_nil | refine inB_cons (by omega) ?_)) (fun u _ _ => ?_)
    conv => whnf
    refine DrawS.plan (.first 0 (.first 2 (.one 1 (.one 3 (.done))))) (by as_aux_lemma => kernel_rfl) [] [] (LbTo.refl_nil _) (RsTo.sub (List.nil_sublist _)) ?_
    conv => whnf
    refine StS.mk rfl (RsTo.sub (List.nil_sublist _)) ?_
    conv => whnf
    refine StS.mk rfl (RsTo.sub (List.nil_sublist _)) ?_
    conv => whnf
    (repeat' (first | (refine Sp.mk (fun hs => ?_) (fun hs => ?_) <;> first | (exfalso; omega) | (conv => whnf)) | (refine Ar.i (by omega) ?_; conv => whnf) | (refine NewS.mk (fun _ => ?_); conv => whnf) | (refine QuoS.nn (by omega) ?_; conv => whnf) | (refine RemS.nn (by omega) ?_; conv => whnf) | refine RetS.mk (fun w' hS => ?_)))
    exact ⟨(y, ⟨r2, r3, r, u⟩), ⟨h1, h2⟩, rfl, hS.below, hS.fresh (List.Sublist.cons _ (List.Sublist.cons_cons _ (List.nil_sublist _)))⟩
  · refine DrawS.plan (.first 0 (.first 2 (.one 1 (.one 3 (.done))))) (by as_aux_lemma => kernel_rfl) [] [] (LbTo.refl_nil _) (RsTo.sub (List.nil_sublist _)) ?_
    conv => whnf
    refine StS.mk rfl (RsTo.sub (List.nil_sublist _)) ?_
    conv => whnf
    refine StS.mk rfl (RsTo.sub (List.nil_sublist _)) ?_
    conv => whnf
    (repeat' (first | (refine Sp.mk (fun hs => ?_) (fun hs => ?_) <;> first | (exfalso; omega) | (conv => whnf)) | (refine Ar.i (by omega) ?_; conv => whnf) | (refine NewS.mk (fun _ => ?_); conv => whnf) | (refine QuoS.nn (by omega) ?_; conv => whnf) | (refine RemS.nn (by omega) ?_; conv => whnf) | refine RetS.mk (fun w' hS => ?_)))
    exact ⟨(y, ⟨r2, r3, r, r + 1 + r4⟩), ⟨h1, h2⟩, rfl, hS.below, hS.fresh (List.Sublist.cons _ (List.Sublist.refl _))⟩
end Go.Proofs.Ytgfblbpiokiagaa
