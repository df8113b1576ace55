/- The drawing of lines; conditions: none. -/
import Derived.Test.YtmojlnfadjnhgaaLinI
import Derived.Test.YtmojlnfadjnhgaaRead
set_option maxRecDepth 100000
set_option linter.unusedVariables false
set_option linter.unusedSimpArgs false
namespace Go.Proofs.Ytmojlnfadjnhgaa
open Eng Go Go.RowKit

/-- Rows that a function which may turn its caller's row has made itself. -/
theorem freshS {w0 w : World} {g : Nat} {lb : List Box} {o : Own} {os' os : List Own} (h : Eng.St w0 [g] lb (o :: os') w) (ho : o.v.ownBlock = some g) (hs : os.Sublist os') : Fresh w0.heap.size os w := by
  have hd := h.disj
  rw [List.nodup_append] at hd
  have hd2 := hd.2.1
  simp only [List.filterMap_cons, ho, List.nodup_cons] at hd2
  refine ⟨fun o2 ho2 => ?_, List.Nodup.sublist (List.Sublist.filterMap _ hs) hd2.2⟩
  obtain ⟨h1, h2⟩ := h.own o2 (List.mem_cons_of_mem _ (hs.subset ho2))
  refine ⟨h1.1, ?_⟩
  rcases h1.2 with hn | ⟨g2, cap, cur, hv, _, hr⟩
  · exact .inl hn
  · refine .inr ⟨g2, cap, cur, hv, ?_, hr⟩
    have e2 : o2.v.ownBlock = some g2 := by rw [hv]; rfl
    rcases h2 g2 e2 with h3 | h3
    · exact h3
    · simp only [List.mem_singleton] at h3
      subst h3
      exact absurd (List.mem_filterMap.2 ⟨o2, hs.subset ho2, e2⟩) hd2.1

structure LnD where
  A : Option Addr
  c : Nat
  l : LineD
def LnD.v (y : LnD) : Value := .agg (lineV y.l y.A y.c).toArray
def LnD.row (y : LnD) : Own := gRow y.l y.A y.c
def okLn (y : LnD) : Prop := y.l.g.length ≤ 13 ∧ y.l.g.length ≤ y.c ∧ -1 ≤ y.l.s ∧ y.l.s ≤ 1001

theorem snoc_row (s n : Int) (g : List Int) (r : Int) (A : Option Addr) (c : Nat) : LnD.row ⟨A, c, ⟨s, n, g ++ [r]⟩⟩ = rowOf 3 1 A (g.length + 1) c (i64s g ++ [.int .i64 r]) := by simp [LnD.row, gRow, i64s]
theorem snoc_v (s n : Int) (g : List Int) (r : Int) (A : Option Addr) (c : Nat) : LnD.v ⟨A, c, ⟨s, n, g ++ [r]⟩⟩ = .agg #[.int .i64 s, .int .i64 n, .slice A (g.length + 1) c] := by simp [LnD.v, lineV]
theorem sLeave2_any {A : Option Addr} {c : Nat} {l : LineD} (t : Int) (w : World) (hL : LineR w A l) :
    Calls Try.prog 36 #[.agg (lineV l A c).toArray, .int .i64 t] w fun e w' => ∃ y : LnD × Bool, (y.1.l.g.length ≤ y.1.c ∧ (y.2 = true → okLine y.1.l)) ∧ e = .returned (.tuple #[y.1.v, .bool y.2]) ∧ Below w.heap.size w w' ∧ Fresh w.heap.size [y.1.row] w' :=
  (sLeave_any t w hL).mono fun e w' ⟨y, h1, h2, h3, h4⟩ => ⟨(⟨y.1, y.2, leaveD l t⟩, decide (leaveOk l t)), ⟨h1, fun h => by
    have h := of_decide_eq_true h
    have e : leaveD l t = leaveL l t := if_pos h
    dsimp only
    rw [e]
    exact ok_leave h⟩, h2, h3, h4⟩

set_option maxHeartbeats 1000000 in
theorem anyLine_any {g : Nat} {A : Option Addr} {n c : Nat} {bs : List Int} {p : Nat} (w : World) (h : Rd w g A n c bs p) (hp : p ≤ 1000) :
    Calls Try.prog 53 #[.pointer (some ⟨g, 0, none⟩)] w fun e w' => ∃ y : LnD × Nat, (okLn y.1 ∧ y.2 ≤ p + 40) ∧ e = .returned y.1.v ∧ Pres [g] w w' ∧ Rd w' g A n c bs y.2 ∧ Fresh w.heap.size [y.1.row] w' := by
  have hB := h.b
  refine enter (C := cxS w [g]) (okS w [g]) h.start Try.func53 rfl rfl ?_
  conv => whnf
  refine NewS.mk (fun g0 => ?_)
  conv => whnf
  refine NewS.mk (fun g1 => ?_)
  conv => whnf
  refine call_one hB 0 1 (by decide) rfl (by omega) rfl (by decide) 0 990 (by repeat (first | exact inB_nil | refine inB_cons (by omega) ?_)) (fun s0 hs0 hs1 => ?_)
  conv => whnf
  refine NewS.mk (fun g2 => ?_)
  conv => whnf
  refine NewS.mk (fun g3 => ?_)
  conv => whnf
  refine NewS.mk (fun g4 => ?_)
  conv => whnf
  refine call_one hB 0 3 (by decide) rfl (by omega) rfl (by decide) 0 12 (by repeat (first | exact inB_nil | refine inB_cons (by omega) ?_)) (fun r0 hr0 hr1 => ?_)
  conv => whnf
  obtain ⟨M, rfl⟩ := Int.eq_ofNat_of_zero_le hr0
  refine LoopS.rule (okS w [g]) [(4, 9), (21, 47)] [4] rfl (fun s : Nat × LnD × Nat => [I64 s.1]) (fun s => [⟨g0, 25, (lineV zeroL none 0).map .v⟩, ⟨g3, 25, (lineV s.2.1.l s.2.1.A s.2.1.c).map .v⟩])
    (fun s => [rdOwn g A n c s.2.2, gRow s.2.1.l s.2.1.A s.2.1.c])
    (fun s => okLine s.2.1.l ∧ s.2.1.l.g.length ≤ s.2.1.c ∧ s.2.2 + 2 * s.1 ≤ p + 26 ∧ s.1 ≤ 12) (fun s => s.1) (M, ⟨some ⟨g2, 0, none⟩, 0, ⟨s0, s0, []⟩⟩, p + 2) (fun s => rfl) ⟨⟨by dsimp only; omega, by dsimp only; omega, List.Pairwise.nil, by simp⟩, Nat.le_refl _, by dsimp only; omega, by dsimp only; omega⟩ ⟨rfl, trivial⟩ (LbTo.self rfl)
    ((RsTo.sub (List.Sublist.cons_cons _ (List.Sublist.cons _ (List.Sublist.cons_cons _ (List.nil_sublist _))))).trans (RsTo.norm (i := 1) (A := some ⟨g2, 0, none⟩) (n := 0) (c := 0) (xs := []) rfl)) (fun s gg ⟨hv, hc, hq, hm⟩ => ?_)
  obtain ⟨m, ⟨A1, c1, l⟩, p1⟩ := s
  dsimp only at hv hc hq hm ⊢
  have hl12 := gone_length hv
  conv => whnf
  refine Sp.mk (fun h0 => ?_) (fun h0 => ?_) <;> conv => whnf
  rotate_left
  · refine call_pick hB 0 rfl (by omega) (fun r1 h1 k1 => ?_)
    conv => whnf
    refine Sp.mk (fun h2 => ?_) (fun h2 => ?_) <;> conv => whnf
    · have hv1 := hv.1
      refine DrawS.plan (.first 0 (.first 2 (.alt 1 (.one 3 (.one 4 (.first 5 (.first 6 (.one 7 (.done)))))) (.alt 3 (.alt 1 (.one 4 (.first 5 (.first 6 (.one 7 (.done))))) (.alt 4 (.one 1 (.first 5 (.first 6 (.one 7 (.done))))) (.stop))) (.stop))))) (by as_aux_lemma => kernel_rfl) [] [] (LbTo.refl_nil _) (RsTo.sub (List.nil_sublist _)) ?_
      conv => whnf
      repeat' (first | (refine StS.mk rfl (RsTo.sub (List.nil_sublist _)) ?_; conv => whnf) | (refine AltS.mk ?_ ?_ <;> conv => whnf) | exact trivial | (refine NewS.mk (fun g7 => ?_); conv => whnf) | (refine call_one hB 0 2 (by decide) rfl (by omega) rfl (by decide) (-1) 13 (by repeat (first | exact inB_nil | refine inB_cons (by omega) ?_)) (fun u hu0 hu1 => ?_); conv => whnf) | (refine Ar.i (by omega) ?_; conv => whnf))
      all_goals
       (repeat' (first | (refine Sp.mk (fun hs => ?_) (fun hs => ?_) <;> first | (exfalso; omega) | (conv => whnf)) | (refine Ar.i (by omega) ?_; conv => whnf) | (refine NewS.mk (fun _ => ?_); conv => whnf) | (refine QuoS.nn (by omega) ?_; conv => whnf) | (refine RemS.nn (by omega) ?_; conv => whnf) | (refine QuietS.mk (by as_aux_lemma => kernel_rfl) ?_; conv => whnf) | refine RetS.mk (fun w' hS => ?_)))
       exact ⟨(⟨A1, c1, ⟨l.s, l.s + u, l.g⟩⟩, p1 + 2), ⟨⟨by dsimp only; omega, hc, by dsimp only; omega, by dsimp only; omega⟩, by dsimp only; omega⟩, rfl, hS.pres, hB.rd hS (List.mem_of_getElem? (i := 0) rfl), freshS hS rfl (List.Sublist.cons_cons _ (List.nil_sublist _))⟩
    refine Sp.mk (fun h3 => ?_) (fun h3 => ?_) <;> conv => whnf
    · have hv1 := hv.1
      have hv2 := hv.2.1
      refine DrawS.plan (.first 0 (.first 3 (.first 4 (.first 6 (.alt 1 (.alt 2 (.alt 5 (.one 7 (.one 8 (.one 9 (.one 10 (.one 11 (.first 12 (.one 13 (.done)))))))) (.alt 7 (.one 5 (.one 8 (.one 9 (.one 10 (.one 11 (.first 12 (.one 13 (.done)))))))) (.stop))) (.alt 5 (.alt 2 (.one 7 (.one 8 (.one 9 (.one 10 (.one 11 (.first 12 (.one 13 (.done)))))))) (.alt 7 (.alt 2 (.one 8 (.one 9 (.one 10 (.one 11 (.first 12 (.one 13 (.done))))))) (.alt 8 (.one 2 (.one 9 (.one 10 (.one 11 (.first 12 (.one 13 (.done))))))) (.stop))) (.stop))) (.alt 7 (.alt 2 (.one 5 (.one 8 (.one 9 (.one 10 (.one 11 (.first 12 (.one 13 (.done)))))))) (.alt 5 (.alt 2 (.one 8 (.one 9 (.one 10 (.one 11 (.first 12 (.one 13 (.done))))))) (.alt 8 (.one 2 (.one 9 (.one 10 (.one 11 (.first 12 (.one 13 (.done))))))) (.stop))) (.stop))) (.stop)))) (.alt 5 (.alt 1 (.alt 2 (.one 7 (.one 8 (.one 9 (.one 10 (.one 11 (.first 12 (.one 13 (.done)))))))) (.alt 7 (.alt 2 (.one 8 (.one 9 (.one 10 (.one 11 (.first 12 (.one 13 (.done))))))) (.alt 8 (.one 2 (.one 9 (.one 10 (.one 11 (.first 12 (.one 13 (.done))))))) (.stop))) (.stop))) (.alt 7 (.alt 1 (.alt 2 (.one 8 (.one 9 (.one 10 (.one 11 (.first 12 (.one 13 (.done))))))) (.alt 8 (.one 2 (.one 9 (.one 10 (.one 11 (.first 12 (.one 13 (.done))))))) (.stop))) (.alt 8 (.one 1 (.one 2 (.one 9 (.one 10 (.one 11 (.first 12 (.one 13 (.done)))))))) (.stop))) (.stop))) (.alt 7 (.alt 1 (.alt 2 (.one 5 (.one 8 (.one 9 (.one 10 (.one 11 (.first 12 (.one 13 (.done)))))))) (.alt 5 (.alt 2 (.one 8 (.one 9 (.one 10 (.one 11 (.first 12 (.one 13 (.done))))))) (.alt 8 (.one 2 (.one 9 (.one 10 (.one 11 (.first 12 (.one 13 (.done))))))) (.stop))) (.stop))) (.alt 5 (.alt 1 (.alt 2 (.one 8 (.one 9 (.one 10 (.one 11 (.first 12 (.one 13 (.done))))))) (.alt 8 (.one 2 (.one 9 (.one 10 (.one 11 (.first 12 (.one 13 (.done))))))) (.stop))) (.alt 8 (.one 1 (.one 2 (.one 9 (.one 10 (.one 11 (.first 12 (.one 13 (.done)))))))) (.stop))) (.stop))) (.stop)))))))) (by as_aux_lemma => kernel_rfl) [] [] (LbTo.refl_nil _) (RsTo.sub (List.nil_sublist _)) ?_
      conv => whnf
      repeat' (first | (refine StS.mk rfl (RsTo.sub (List.nil_sublist _)) ?_; conv => whnf) | (refine AltS.mk ?_ ?_ <;> conv => whnf) | exact trivial | (refine ⟨rfl, CallS.own (fun w' hS => spec_copyInts_any w' (St.line hS 1 rfl (by omega))) (fun y hy => ?_)⟩; conv => whnf) | (refine NewS.mk (fun g7 => ?_); conv => whnf) | (refine call_one hB 0 2 (by decide) rfl (by omega) rfl (by decide) (-1) 1000 (by repeat (first | exact inB_nil | refine inB_cons (by omega) ?_)) (fun u hu0 hu1 => ?_); conv => whnf) | (refine call_one hB 0 3 (by decide) rfl (by omega) rfl (by decide) (-1) 1000 (by repeat (first | exact inB_nil | refine inB_cons (by omega) ?_)) (fun u hu0 hu1 => ?_); conv => whnf) | (refine SemS.appG (okS w [g]) (i := 2) rfl rfl (by decide) rfl (fun w' hS => St.row hS (e := 3) (xs := [.int .i64 u]) (List.mem_of_getElem? (i := 4) rfl)) (by simp [isOne]) (by simp only [maxLen]; omega) (by dsimp only; omega) (fun A4 c4 hc4 => ?_); conv => whnf) | (refine SemS.appG (okS w [g]) (i := 3) rfl rfl (by decide) rfl (fun w' hS => St.row hS (e := 3) (xs := [.int .i64 u]) (List.mem_of_getElem? (i := 4) rfl)) (by simp [isOne]) (by simp only [maxLen]; omega) (by dsimp only; omega) (fun A4 c4 hc4 => ?_); conv => whnf) | (refine SemS.appG (okS w [g]) (i := 4) rfl rfl (by decide) rfl (fun w' hS => St.row hS (e := 3) (xs := [.int .i64 u]) (List.mem_of_getElem? (i := 3) rfl)) (by simp [isOne]) (by simp only [maxLen]; omega) (by dsimp only; omega) (fun A4 c4 hc4 => ?_); conv => whnf))
      all_goals
        (repeat' (first | (refine Sp.mk (fun hs => ?_) (fun hs => ?_) <;> first | (exfalso; omega) | (conv => whnf)) | (refine Ar.i (by omega) ?_; conv => whnf) | (refine NewS.mk (fun _ => ?_); conv => whnf) | (refine QuoS.nn (by omega) ?_; conv => whnf) | (refine RemS.nn (by omega) ?_; conv => whnf) | (refine QuietS.mk (by as_aux_lemma => kernel_rfl) ?_; conv => whnf) | refine RetS.mk (fun w' hS => ?_)))
        refine ⟨(⟨A4, c4, ⟨l.s, l.n, l.g ++ [u]⟩⟩, p1 + 2), ⟨⟨by rw [List.length_append]; simp only [List.length_singleton]; omega, by simpa using hc4, by dsimp only; omega, by dsimp only; omega⟩, by dsimp only; omega⟩, by rw [snoc_v], hS.pres, hB.rd hS (List.mem_of_getElem? (i := 0) rfl), ?_⟩
        rw [snoc_row]
        first | exact freshS hS rfl (List.Sublist.cons _ (List.Sublist.cons_cons _ (List.nil_sublist _))) | exact freshS hS rfl (List.Sublist.cons _ (List.Sublist.cons _ (List.Sublist.cons_cons _ (List.nil_sublist _)))) | exact freshS hS rfl (List.Sublist.cons _ (List.Sublist.cons _ (List.Sublist.cons _ (List.Sublist.cons_cons _ (List.nil_sublist _)))))
    refine Sp.mk (fun h4 => ?_) (fun h4 => ?_) <;> conv => whnf
    · refine NewS.mk (fun g5 => ?_)
      conv => whnf
      refine call_one hB 0 2 (by decide) rfl (by omega) rfl (by decide) (-1) 1001 (by repeat (first | exact inB_nil | refine inB_cons (by omega) ?_)) (fun u hu0 hu1 => ?_)
      conv => whnf
      (repeat' (first | (refine Sp.mk (fun hs => ?_) (fun hs => ?_) <;> first | (exfalso; omega) | (conv => whnf)) | (refine Ar.i (by omega) ?_; conv => whnf) | (refine NewS.mk (fun _ => ?_); conv => whnf) | (refine QuoS.nn (by omega) ?_; conv => whnf) | (refine RemS.nn (by omega) ?_; conv => whnf) | (refine QuietS.mk (by as_aux_lemma => kernel_rfl) ?_; conv => whnf) | refine RetS.mk (fun w' hS => ?_)))
      exact ⟨(⟨A1, c1, ⟨u, l.n, l.g⟩⟩, p1 + 2), ⟨⟨by dsimp only; omega, hc, hu0, hu1⟩, by dsimp only; omega⟩, rfl, hS.pres, hB.rd hS (List.mem_of_getElem? (i := 0) rfl), freshS hS rfl (List.Sublist.cons_cons _ (List.nil_sublist _))⟩
    (repeat' (first | (refine Sp.mk (fun hs => ?_) (fun hs => ?_) <;> first | (exfalso; omega) | (conv => whnf)) | (refine Ar.i (by omega) ?_; conv => whnf) | (refine NewS.mk (fun _ => ?_); conv => whnf) | (refine QuoS.nn (by omega) ?_; conv => whnf) | (refine RemS.nn (by omega) ?_; conv => whnf) | (refine QuietS.mk (by as_aux_lemma => kernel_rfl) ?_; conv => whnf) | refine RetS.mk (fun w' hS => ?_)))
    exact ⟨(⟨A1, c1, l⟩, p1 + 1), ⟨⟨by dsimp only; omega, hc, by have := hv.1; dsimp only; omega, by have := hv.1; dsimp only; omega⟩, by dsimp only; omega⟩, rfl, hS.pres, hB.rd hS (List.mem_of_getElem? (i := 0) rfl), freshS hS rfl (List.Sublist.cons_cons _ (List.nil_sublist _))⟩
  obtain ⟨m, rfl⟩ : ∃ m', m = m' + 1 := ⟨m - 1, by omega⟩
  have hn1 : ((m + 1 : Nat) : Int) - 1 = (m : Int) := by omega
  refine ⟨rfl, CallS.own (fun w' hS => sTake_any w' (St.line hS 1 rfl (by omega))) (fun y hy => ?_)⟩
  conv => whnf
  refine NewS.mk (fun g5 => ?_)
  conv => whnf
  cases hd : decide (takeOk l)
  · conv => whnf
    refine call_pick hB 0 rfl (by omega) (fun r2 hr2 kr2 => ?_)
    conv => whnf
    refine Sp.mk (fun h2 => ?_) (fun h2 => ?_) <;> conv => whnf
    rotate_left
    · (repeat' (first | (refine Sp.mk (fun hs => ?_) (fun hs => ?_) <;> first | (exfalso; omega) | (conv => whnf)) | (refine Ar.i (by omega) ?_; conv => whnf) | (refine NewS.mk (fun _ => ?_); conv => whnf) | (refine QuoS.nn (by omega) ?_; conv => whnf) | (refine RemS.nn (by omega) ?_; conv => whnf) | (refine QuietS.mk (by as_aux_lemma => kernel_rfl) ?_; conv => whnf) | refine RetS.mk (fun w' hS => ?_)))
      exact ⟨(m, ⟨A1, c1, l⟩, p1 + 1), ⟨hv, hc, by dsimp only; omega, by dsimp only; omega⟩, by dsimp only; omega, ⟨congrArg (fun z => SV.v (Value.int .i64 z)) hn1, trivial⟩, ⟨rfl, (LbTo.self rfl).ok⟩, RsTo.sub (List.Sublist.cons_cons _ (List.Sublist.cons_cons _ (List.nil_sublist _)))⟩
    refine DrawS.plan (.first 0 (.first 1 (.first 2 (.first 3 (.alt 4 (.first 5 (.alt 6 (.first 7 (.first 8 (.first 9 (.one 10 (.one 11 (.first 12 (.done))))))) (.alt 10 (.one 6 (.first 7 (.first 8 (.first 9 (.one 11 (.first 12 (.done))))))) (.stop)))) (.alt 10 (.one 4 (.first 5 (.one 6 (.first 7 (.first 8 (.first 9 (.one 11 (.first 12 (.done))))))))) (.stop))))))) (by as_aux_lemma => kernel_rfl) _ [] (LbTo.self rfl) (RsTo.sub (List.nil_sublist _)) ?_
    have hv3 := (hv).1
    conv => whnf
    repeat' (first | (refine StS.mk rfl (RsTo.sub (List.nil_sublist _)) ?_; conv => whnf) | (refine AltS.mk ?_ ?_ <;> conv => whnf) | exact trivial | (refine NewS.mk (fun g7 => ?_); conv => whnf) | (refine call_pick hB 0 rfl (by omega) (fun r3 hr3 kr3 => ?_); replace kr3 := kr3 (by omega); conv => whnf) | (refine Ar.i (by first | omega | (dsimp only [takeL] at hv3 ⊢; omega)) ?_; conv => whnf) | (refine ⟨rfl, CallS.own (fun w' hS => sLeave2_any _ w' (St.line hS 1 rfl (by first | omega | (dsimp only [takeL]; omega)))) (fun y3 hy3 => ?_)⟩; obtain ⟨⟨A9, c9, l9⟩, b9⟩ := y3; obtain ⟨hy4, hy5⟩ := hy3; dsimp only [LnD.v, LnD.row] at hy4 hy5 ⊢; cases b9 <;> conv => whnf))
    all_goals first
      | exact ⟨(m, ⟨A1, c1, l⟩, p1 + 2), ⟨hv, hc, by dsimp only; omega, by dsimp only; omega⟩, by dsimp only; omega, ⟨congrArg (fun z => SV.v (Value.int .i64 z)) hn1, trivial⟩, ⟨rfl, (LbTo.self rfl).ok⟩, RsTo.sub (List.Sublist.cons_cons _ (List.Sublist.cons_cons _ (List.nil_sublist _)))⟩
      | exact ⟨(m, ⟨A9, c9, l9⟩, p1 + 2), ⟨hy5 rfl, hy4, by dsimp only; omega, by dsimp only; omega⟩, by dsimp only; omega, ⟨congrArg (fun z => SV.v (Value.int .i64 z)) hn1, trivial⟩, ⟨rfl, (LbTo.self rfl).ok⟩, RsTo.sub (List.Sublist.cons_cons _ (List.Sublist.cons _ (List.Sublist.cons _ (List.Sublist.cons_cons _ (List.nil_sublist _)))))⟩
  · have hok := of_decide_eq_true hd
    have e : takeD l = takeL l := if_pos hok
    rw [e] at hy ⊢
    have hv2 := ok_take hok
    conv => whnf
    refine call_pick hB 0 rfl (by omega) (fun r2 hr2 kr2 => ?_)
    conv => whnf
    refine Sp.mk (fun h2 => ?_) (fun h2 => ?_) <;> conv => whnf
    rotate_left
    · (repeat' (first | (refine Sp.mk (fun hs => ?_) (fun hs => ?_) <;> first | (exfalso; omega) | (conv => whnf)) | (refine Ar.i (by omega) ?_; conv => whnf) | (refine NewS.mk (fun _ => ?_); conv => whnf) | (refine QuoS.nn (by omega) ?_; conv => whnf) | (refine RemS.nn (by omega) ?_; conv => whnf) | (refine QuietS.mk (by as_aux_lemma => kernel_rfl) ?_; conv => whnf) | refine RetS.mk (fun w' hS => ?_)))
      exact ⟨(m, ⟨y.1, y.2, (takeL l)⟩, p1 + 1), ⟨hv2, hy, by dsimp only; omega, by dsimp only; omega⟩, by dsimp only; omega, ⟨congrArg (fun z => SV.v (Value.int .i64 z)) hn1, trivial⟩, ⟨rfl, (LbTo.self rfl).ok⟩, RsTo.sub (List.Sublist.cons_cons _ (List.Sublist.cons _ (List.Sublist.cons_cons _ (List.nil_sublist _))))⟩
    refine DrawS.plan (.first 0 (.first 1 (.first 2 (.first 3 (.alt 4 (.first 5 (.alt 6 (.first 7 (.first 8 (.first 9 (.one 10 (.one 11 (.first 12 (.done))))))) (.alt 10 (.one 6 (.first 7 (.first 8 (.first 9 (.one 11 (.first 12 (.done))))))) (.stop)))) (.alt 10 (.one 4 (.first 5 (.one 6 (.first 7 (.first 8 (.first 9 (.one 11 (.first 12 (.done))))))))) (.stop))))))) (by as_aux_lemma => kernel_rfl) _ [] (LbTo.self rfl) (RsTo.sub (List.nil_sublist _)) ?_
    have hv3 := (hv2).1
    conv => whnf
    repeat' (first | (refine StS.mk rfl (RsTo.sub (List.nil_sublist _)) ?_; conv => whnf) | (refine AltS.mk ?_ ?_ <;> conv => whnf) | exact trivial | (refine NewS.mk (fun g7 => ?_); conv => whnf) | (refine call_pick hB 0 rfl (by omega) (fun r3 hr3 kr3 => ?_); replace kr3 := kr3 (by omega); conv => whnf) | (refine Ar.i (by first | omega | (dsimp only [takeL] at hv3 ⊢; omega)) ?_; conv => whnf) | (refine ⟨rfl, CallS.own (fun w' hS => sLeave2_any _ w' (St.line hS 2 rfl (by first | omega | (dsimp only [takeL]; omega)))) (fun y3 hy3 => ?_)⟩; obtain ⟨⟨A9, c9, l9⟩, b9⟩ := y3; obtain ⟨hy4, hy5⟩ := hy3; dsimp only [LnD.v, LnD.row] at hy4 hy5 ⊢; cases b9 <;> conv => whnf))
    all_goals first
      | exact ⟨(m, ⟨y.1, y.2, (takeL l)⟩, p1 + 2), ⟨hv2, hy, by dsimp only; omega, by dsimp only; omega⟩, by dsimp only; omega, ⟨congrArg (fun z => SV.v (Value.int .i64 z)) hn1, trivial⟩, ⟨rfl, (LbTo.self rfl).ok⟩, RsTo.sub (List.Sublist.cons_cons _ (List.Sublist.cons _ (List.Sublist.cons_cons _ (List.nil_sublist _))))⟩
      | exact ⟨(m, ⟨A9, c9, l9⟩, p1 + 2), ⟨hy5 rfl, hy4, by dsimp only; omega, by dsimp only; omega⟩, by dsimp only; omega, ⟨congrArg (fun z => SV.v (Value.int .i64 z)) hn1, trivial⟩, ⟨rfl, (LbTo.self rfl).ok⟩, RsTo.sub (List.Sublist.cons_cons _ (List.Sublist.cons _ (List.Sublist.cons _ (List.Sublist.cons_cons _ (List.nil_sublist _)))))⟩

section
variable {w0 : World} {lb : List Box} {rs : List Own} {g : Nat} {A : Option Addr} {n c : Nat} {bs : List Int} {p : Nat} {K : SV → List Box → List Own → Prop}
theorem call_anyLine {S0 : List Nat} (hB : RdB w0 S0 g A n bs) (i : Nat) (hi : rs[i]? = some (rdOwn g A n c p)) (hp : p ≤ 1000)
    (kk : ∀ (y : LnD) (q : Nat), okLn y → q ≤ p + 40 → K (.v y.v) lb (rs.set i (rdOwn g A n c q) ++ [y.row])) :
    memN (cxS w0 S0).F 53 = true ∧ CallS (cxS w0 S0) lb rs 53 #[.pointer (some ⟨g, 0, none⟩)] K :=
  call_rd (α := LnD × Nat) (r := fun y => y.1.v) (φ := fun y => okLn y.1 ∧ y.2 ≤ p + 40) (q := fun y => y.2) (os := fun y => [y.1.row]) hB i hi rfl (fun w' hS hrd => anyLine_any w' hrd hp) (fun y hy => kk y.1 y.2 hy.1 hy.2)
end
theorem spec_DrawValidLine_any {A : Option Addr} {n c : Nat} {bs : List Int} (w : World) (hb : Bytes w A n bs) (hn : n ≤ c) :
    Calls Try.prog 38 #[.slice A n c] w fun e w' => ∃ y : LnD, okLn y ∧ e = .returned y.v ∧ Below w.heap.size w w' ∧ Fresh w.heap.size [y.row] w' := by
  refine enter (C := cxS w []) (okS w []) (St.start w) Try.func38 rfl rfl ?_; conv => whnf
  refine NewS.mk (fun g0 => ?_)
  conv => whnf
  refine call_newReader hb hn (fun g c' hB => ?_)
  conv => whnf
  refine call_anyLine hB 0 rfl (by omega) (fun y q h1 h2 => ?_)
  conv => whnf
  (repeat' (first | (refine Sp.mk (fun hs => ?_) (fun hs => ?_) <;> first | (exfalso; omega) | (conv => whnf)) | (refine Ar.i (by omega) ?_; conv => whnf) | (refine NewS.mk (fun _ => ?_); conv => whnf) | (refine QuoS.nn (by omega) ?_; conv => whnf) | (refine RemS.nn (by omega) ?_; conv => whnf) | (refine QuietS.mk (by as_aux_lemma => kernel_rfl) ?_; conv => whnf) | refine RetS.mk (fun w' hS => ?_)))
  exact ⟨y, h1, rfl, hS.below, hS.fresh (List.Sublist.cons _ (List.Sublist.refl _))⟩
theorem spec_DrawTakeTicket_any {A : Option Addr} {n c : Nat} {bs : List Int} (w : World) (hb : Bytes w A n bs) (hn : n ≤ c) :
    Calls Try.prog 23 #[.slice A n c] w fun e w' => ∃ y : LnD, okLn y ∧ e = .returned y.v ∧ Below w.heap.size w w' ∧ Fresh w.heap.size [y.row] w' := by
  refine enter (C := cxS w []) (okS w []) (St.start w) Try.func23 rfl rfl ?_; conv => whnf
  refine NewS.mk (fun g0 => ?_)
  conv => whnf
  refine call_newReader hb hn (fun g c' hB => ?_)
  conv => whnf
  refine call_anyLine hB 0 rfl (by omega) (fun y q h1 h2 => ?_)
  conv => whnf
  (repeat' (first | (refine Sp.mk (fun hs => ?_) (fun hs => ?_) <;> first | (exfalso; omega) | (conv => whnf)) | (refine Ar.i (by omega) ?_; conv => whnf) | (refine NewS.mk (fun _ => ?_); conv => whnf) | (refine QuoS.nn (by omega) ?_; conv => whnf) | (refine RemS.nn (by omega) ?_; conv => whnf) | (refine QuietS.mk (by as_aux_lemma => kernel_rfl) ?_; conv => whnf) | refine RetS.mk (fun w' hS => ?_)))
  exact ⟨y, h1, rfl, hS.below, hS.fresh (List.Sublist.cons _ (List.Sublist.refl _))⟩
theorem spec_DrawWaitingTickets_any {A : Option Addr} {n c : Nat} {bs : List Int} (w : World) (hb : Bytes w A n bs) (hn : n ≤ c) :
    Calls Try.prog 50 #[.slice A n c] w fun e w' => ∃ y : LnD, okLn y ∧ e = .returned y.v ∧ Below w.heap.size w w' ∧ Fresh w.heap.size [y.row] w' := by
  refine enter (C := cxS w []) (okS w []) (St.start w) Try.func50 rfl rfl ?_; conv => whnf
  refine NewS.mk (fun g0 => ?_)
  conv => whnf
  refine call_newReader hb hn (fun g c' hB => ?_)
  conv => whnf
  refine call_anyLine hB 0 rfl (by omega) (fun y q h1 h2 => ?_)
  conv => whnf
  (repeat' (first | (refine Sp.mk (fun hs => ?_) (fun hs => ?_) <;> first | (exfalso; omega) | (conv => whnf)) | (refine Ar.i (by omega) ?_; conv => whnf) | (refine NewS.mk (fun _ => ?_); conv => whnf) | (refine QuoS.nn (by omega) ?_; conv => whnf) | (refine RemS.nn (by omega) ?_; conv => whnf) | (refine QuietS.mk (by as_aux_lemma => kernel_rfl) ?_; conv => whnf) | refine RetS.mk (fun w' hS => ?_)))
  exact ⟨y, h1, rfl, hS.below, hS.fresh (List.Sublist.cons _ (List.Sublist.refl _))⟩
theorem spec_DrawCallNext_any {A : Option Addr} {n c : Nat} {bs : List Int} (w : World) (hb : Bytes w A n bs) (hn : n ≤ c) :
    Calls Try.prog 39 #[.slice A n c] w fun e w' => ∃ y : LnD, okLn y ∧ e = .returned y.v ∧ Below w.heap.size w w' ∧ Fresh w.heap.size [y.row] w' := by
  refine enter (C := cxS w []) (okS w []) (St.start w) Try.func39 rfl rfl ?_; conv => whnf
  refine NewS.mk (fun g0 => ?_)
  conv => whnf
  refine call_newReader hb hn (fun g c' hB => ?_)
  conv => whnf
  refine call_anyLine hB 0 rfl (by omega) (fun y q h1 h2 => ?_)
  conv => whnf
  (repeat' (first | (refine Sp.mk (fun hs => ?_) (fun hs => ?_) <;> first | (exfalso; omega) | (conv => whnf)) | (refine Ar.i (by omega) ?_; conv => whnf) | (refine NewS.mk (fun _ => ?_); conv => whnf) | (refine QuoS.nn (by omega) ?_; conv => whnf) | (refine RemS.nn (by omega) ?_; conv => whnf) | (refine QuietS.mk (by as_aux_lemma => kernel_rfl) ?_; conv => whnf) | refine RetS.mk (fun w' hS => ?_)))
  exact ⟨y, h1, rfl, hS.below, hS.fresh (List.Sublist.cons _ (List.Sublist.refl _))⟩
theorem drawLeave_any {A : Option Addr} {n c : Nat} {bs : List Int} (w : World) (hb : Bytes w A n bs) (hn : n ≤ c) :
    Calls Try.prog 35 #[.slice A n c] w fun e w' => ∃ y : LnD × Int, okLn y.1 ∧ e = .returned (.tuple #[y.1.v, .int .i64 y.2]) ∧ Below w.heap.size w w' ∧ Fresh w.heap.size [y.1.row] w' := by
  refine enter (C := cxS w []) (okS w []) (St.start w) Try.func35 rfl rfl ?_; conv => whnf
  refine NewS.mk (fun g0 => ?_)
  conv => whnf
  refine call_newReader hb hn (fun g c' hB => ?_)
  conv => whnf
  refine call_anyLine hB 0 rfl (by omega) (fun y q h1 h2 => ?_)
  have h3 := h1.2.2
  conv => whnf
  refine NewS.mk (fun g1 => ?_)
  conv => whnf
  refine DrawS.plan (.first 1 (.first 3 (.alt 0 (.alt 2 (.one 4 (.one 5 (.first 6 (.one 7 (.first 8 (.done)))))) (.alt 4 (.alt 2 (.one 5 (.first 6 (.one 7 (.first 8 (.done))))) (.alt 5 (.alt 2 (.first 6 (.one 7 (.first 8 (.done)))) (.alt 7 (.one 2 (.first 6 (.first 8 (.done)))) (.stop))) (.stop))) (.stop))) (.alt 2 (.alt 0 (.one 4 (.one 5 (.first 6 (.one 7 (.first 8 (.done)))))) (.alt 4 (.alt 0 (.one 5 (.first 6 (.one 7 (.first 8 (.done))))) (.alt 5 (.first 6 (.one 0 (.one 7 (.first 8 (.done))))) (.stop))) (.stop))) (.alt 4 (.alt 0 (.alt 2 (.one 5 (.first 6 (.one 7 (.first 8 (.done))))) (.alt 5 (.alt 2 (.first 6 (.one 7 (.first 8 (.done)))) (.alt 7 (.one 2 (.first 6 (.first 8 (.done)))) (.stop))) (.stop))) (.alt 2 (.alt 0 (.one 5 (.first 6 (.one 7 (.first 8 (.done))))) (.alt 5 (.first 6 (.one 0 (.one 7 (.first 8 (.done))))) (.stop))) (.alt 5 (.alt 0 (.alt 2 (.first 6 (.one 7 (.first 8 (.done)))) (.alt 7 (.one 2 (.first 6 (.first 8 (.done)))) (.stop))) (.alt 2 (.first 6 (.one 0 (.one 7 (.first 8 (.done))))) (.stop))) (.stop)))) (.stop)))))) (by as_aux_lemma => kernel_rfl) [] [] (LbTo.refl_nil _) (RsTo.sub (List.nil_sublist _)) ?_
  conv => whnf
  repeat' (first | (refine StS.mk rfl (RsTo.sub (List.nil_sublist _)) ?_; conv => whnf) | (refine AltS.mk ?_ ?_ <;> conv => whnf) | exact trivial | (refine NewS.mk (fun g7 => ?_); conv => whnf) | (refine call_one hB 0 2 (by decide) rfl (by omega) rfl (by decide) (-1) 12 (by repeat (first | exact inB_nil | refine inB_cons (by omega) ?_)) (fun u hu0 hu1 => ?_); conv => whnf) | (refine Ar.i (by omega) ?_; conv => whnf))
  all_goals
   (repeat' (first | (refine Sp.mk (fun hs => ?_) (fun hs => ?_) <;> first | (exfalso; omega) | (conv => whnf)) | (refine Ar.i (by omega) ?_; conv => whnf) | (refine NewS.mk (fun _ => ?_); conv => whnf) | (refine QuoS.nn (by omega) ?_; conv => whnf) | (refine RemS.nn (by omega) ?_; conv => whnf) | refine RetS.mk (fun w' hS => ?_)))
   exact ⟨(y, _), h1, rfl, hS.below, hS.fresh (List.Sublist.cons _ (List.Sublist.cons_cons _ (List.nil_sublist _)))⟩
theorem drawPlace_any {A : Option Addr} {n c : Nat} {bs : List Int} (w : World) (hb : Bytes w A n bs) (hn : n ≤ c) :
    Calls Try.prog 51 #[.slice A n c] w fun e w' => ∃ y : LnD × Int, okLn y.1 ∧ e = .returned (.tuple #[y.1.v, .int .i64 y.2]) ∧ Below w.heap.size w w' ∧ Fresh w.heap.size [y.1.row] w' := by
  refine enter (C := cxS w []) (okS w []) (St.start w) Try.func51 rfl rfl ?_; conv => whnf
  refine NewS.mk (fun g0 => ?_)
  conv => whnf
  refine ⟨rfl, CallS.own (fun w' hS => drawLeave_any w' ⟨hS.arg hb.1, hb.2⟩ hn) (fun y hy => ?_)⟩
  conv => whnf
  (repeat' (first | (refine Sp.mk (fun hs => ?_) (fun hs => ?_) <;> first | (exfalso; omega) | (conv => whnf)) | (refine Ar.i (by omega) ?_; conv => whnf) | (refine NewS.mk (fun _ => ?_); conv => whnf) | (refine QuoS.nn (by omega) ?_; conv => whnf) | (refine RemS.nn (by omega) ?_; conv => whnf) | (refine QuietS.mk (by as_aux_lemma => kernel_rfl) ?_; conv => whnf) | refine RetS.mk (fun w' hS => ?_)))
  exact ⟨y, hy, rfl, hS.below, hS.fresh (List.Sublist.refl _)⟩
end Go.Proofs.Ytmojlnfadjnhgaa
