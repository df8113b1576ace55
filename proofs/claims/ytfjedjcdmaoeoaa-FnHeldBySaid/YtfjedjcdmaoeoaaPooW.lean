/- The drawing of pools; conditions: none. -/
import Derived.Test.YtfjedjcdmaoeoaaPooO
import Derived.Test.YtfjedjcdmaoeoaaRead
set_option maxRecDepth 100000
set_option linter.unusedVariables false
set_option linter.unusedSimpArgs false
namespace Go.Proofs.Ytfjedjcdmaoeoaa
open Eng Go Go.RowKit

/-- Rows that a function which may turn its caller's row has made itself. -/
theorem freshS {w0 w : World} {g : Nat} {lb : List Box} {o : Own} {os' os : List Own} (h : Eng.St w0 [g] lb (o :: os') w) (ho : o.v.ownBlock = some g) (hs : os.Sublist os') : Fresh w0.heap.size os w := by
  have hd := h.disj
  rw [List.nodup_append] at hd
  have hd2 := hd.2.1
  simp only [List.filterMap_cons, ho, List.nodup_cons] at hd2
  refine ⟨fun o2 ho2 => ?_, List.Nodup.sublist (List.Sublist.filterMap _ hs) hd2.2⟩
  obtain ⟨h1, h2⟩ := h.own o2 (List.mem_cons_of_mem _ (hs.subset ho2))
  refine ⟨h1.1, ?_⟩
  rcases h1.2 with hn | ⟨g2, cap, cur, hv, _, hr⟩
  · exact .inl hn
  · refine .inr ⟨g2, cap, cur, hv, ?_, hr⟩
    have e2 : o2.v.ownBlock = some g2 := by rw [hv]; rfl
    rcases h2 g2 e2 with h3 | h3
    · exact h3
    · simp only [List.mem_singleton] at h3
      subst h3
      exact absurd (List.mem_filterMap.2 ⟨o2, hs.subset ho2, e2⟩) hd2.1
theorem held_at {w0 w' : World} {S0 : List Nat} {lb : List Box} {rs : List Own} {ad : Addr} {n c k : Nat} {l : List HoldD} {x : HoldD} (hS : Eng.St w0 S0 lb rs w') (i : Nat) (hi : rs[i]? = some (rowOf 41 2 (some ad) n c (l.flatMap holdV))) (hn : n ≤ 2000000) (hk : k < n) (hx : l[k]? = some x) :
    w'.cell? ((ad.add (k * 2)).add 0) = some (.int .i64 x.c) := by
  have hH : Holds w' (some ad) n l := ⟨hS.rowR (List.mem_of_getElem? hi), hn⟩
  obtain ⟨ad', x', e, hx', _, hc⟩ := hH.at_ hk
  simp only [Option.some.injEq] at e
  subst e
  rw [hx] at hx'
  simp only [Option.some.injEq] at hx'
  subst hx'
  exact hc 0 _ rfl
theorem sAcq2_any {p : PoolD} {a : PAd} (t : Int) (w : World) (hP : PoolR w p a) (hcp : capOk p a) (hs : p.i.length + p.h.length ≤ 2000000) :
    Calls Try.prog 34 #[.agg (poolV p a).toArray, .int .i64 t] w fun e w' => ∃ y : (PoolD × PAd) × (Int × Bool), (capOk y.1.1 y.1.2 ∧ (y.2.2 = true → okPool y.1.1)) ∧ e = .returned (.tuple #[.agg (poolV y.1.1 y.1.2).toArray, .int .i64 y.2.1, .bool y.2.2]) ∧ Below w.heap.size w w' ∧ Fresh w.heap.size (pRows y.1.1 y.1.2) w' :=
  (sAcq_any t w hP hcp hs).mono fun e w' ⟨y, h1, h2, h3, h4⟩ => ⟨((acqD p t, y), (acqN p t, acqB p t)), ⟨h1, fun hb => by
    dsimp only at hb ⊢
    cases hd : acq p t with
    | none => rw [(acqD_none hd).2.2] at hb; cases hb
    | some x => obtain ⟨q, c⟩ := x; rw [(acqD_some hd).1]; exact (sAcq_some hd).2⟩, h2, h3, h4⟩
theorem sRel2_any {p : PoolD} {a : PAd} (t : Int) (w : World) (hP : PoolR w p a) (hcp : capOk p a) (hs : p.i.length + p.h.length ≤ 2000000) :
    Calls Try.prog 37 #[.agg (poolV p a).toArray, .int .i64 t] w fun e w' => ∃ y : (PoolD × PAd) × (Int × Bool), (capOk y.1.1 y.1.2 ∧ (y.2.2 = true → okPool y.1.1)) ∧ e = .returned (.tuple #[.agg (poolV y.1.1 y.1.2).toArray, .int .i64 y.2.1, .bool y.2.2]) ∧ Below w.heap.size w w' ∧ Fresh w.heap.size (pRows y.1.1 y.1.2) w' :=
  (sRel_any t w hP hcp hs).mono fun e w' ⟨y, h1, h2, h3, h4⟩ => ⟨((relD p t, y), (relN p t, decide (relOk p t))), ⟨h1, fun hb => by
    have hk := of_decide_eq_true hb
    dsimp only
    rw [relD, if_pos hk]
    exact ok_rel hk⟩, h2, h3, h4⟩

theorem somePool_any {g : Nat} {A : Option Addr} {n c : Nat} {bs : List Int} {p : Nat} (w : World) (h : Rd w g A n c bs p) (hp : p ≤ 1000) :
    Calls Try.prog 73 #[.pointer (some ⟨g, 0, none⟩)] w fun e w' => ∃ y : (PoolD × PAd) × Nat, (okPool y.1.1 ∧ capOk y.1.1 y.1.2 ∧ y.2 ≤ p + 50) ∧ e = .returned (.agg (poolV y.1.1 y.1.2).toArray) ∧ Pres [g] w w' ∧ Rd w' g A n c bs y.2 ∧ Fresh w.heap.size (pRows y.1.1 y.1.2) w' := by
  have hB := h.b
  refine enter (C := cxS w [g]) (okS w [g]) h.start Try.func73 rfl rfl ?_
  conv => whnf
  refine NewS.mk (fun g0 => ?_)
  conv => whnf
  refine NewS.mk (fun g1 => ?_)
  conv => whnf
  refine call_one hB 0 1 (by decide) rfl (by omega) rfl (by decide) 1 6 (by repeat (first | exact inB_nil | refine inB_cons (by omega) ?_)) (fun m0 hm0 hm1 => ?_)
  conv => whnf
  refine NewS.mk (fun g2 => ?_)
  conv => whnf
  refine NewS.mk (fun g3 => ?_)
  conv => whnf
  refine NewS.mk (fun g4 => ?_)
  conv => whnf
  refine NewS.mk (fun g5 => ?_)
  conv => whnf
  refine NewS.mk (fun g6 => ?_)
  conv => whnf
  refine call_one hB 0 5 (by decide) rfl (by omega) rfl (by decide) 0 20 (by repeat (first | exact inB_nil | refine inB_cons (by omega) ?_)) (fun r0 hr0 hr1 => ?_)
  conv => whnf
  obtain ⟨M, rfl⟩ := Int.eq_ofNat_of_zero_le hr0
  refine LoopS.rule (okS w [g]) [(4, 10), (21, 61)] [4] rfl (fun s : Nat × (PoolD × PAd) × Nat => [I64 s.1]) (fun s => [⟨g0, 26, (poolV zeroP ⟨none, none, none, 0, 0, 0⟩).map .v⟩, ⟨g5, 26, (poolV s.2.1.1 s.2.1.2).map .v⟩])
    (fun s => rdOwn g A n c s.2.2 :: pRows s.2.1.1 s.2.1.2)
    (fun s => okPool s.2.1.1 ∧ capOk s.2.1.1 s.2.1.2 ∧ s.2.2 + 2 * s.1 ≤ p + 42 ∧ s.1 ≤ 20) (fun s => s.1) (M, (⟨m0, [], [], []⟩, ⟨some ⟨g2, 0, none⟩, some ⟨g3, 0, none⟩, some ⟨g4, 0, none⟩, 0, 0, 0⟩), p + 2) (fun s => rfl) ⟨⟨by dsimp only; omega, by simp [conns, hc], by simp [conns, hc], by simp, by simp, by simp, .inl rfl⟩, ⟨Nat.le_refl _, Nat.le_refl _, Nat.le_refl _⟩, by dsimp only; omega, by dsimp only; omega⟩ ⟨rfl, trivial⟩ (LbTo.self rfl)
    (((((RsTo.sub (List.Sublist.cons_cons _ (List.Sublist.cons _ (List.Sublist.cons_cons _ (List.Sublist.cons_cons _ (List.Sublist.cons_cons _ (List.nil_sublist _))))))).trans (RsTo.norm (i := 1) (A := some ⟨g2, 0, none⟩) (n := 0) (c := 0) (xs := []) rfl)).trans (RsTo.norm (i := 2) (A := some ⟨g3, 0, none⟩) (n := 0) (c := 0) (xs := []) rfl)).trans (RsTo.norm (i := 3) (A := some ⟨g4, 0, none⟩) (n := 0) (c := 0) (xs := []) rfl))) (fun s gg ⟨hv, hcp, hq, hm⟩ => ?_)
  obtain ⟨m, ⟨P, a⟩, p1⟩ := s
  dsimp only at hv hcp hq hm ⊢
  have hroom := pool_room hv
  have hmm := hv.1
  have hw12 := hv.2.2.2.2.1
  have hle : PoolLe P := ⟨by omega, by omega, by omega⟩
  conv => whnf
  refine Sp.mk (fun h0 => ?_) (fun h0 => ?_) <;> conv => whnf
  rotate_left
  · (repeat' (first | (refine Sp.mk (fun hs => ?_) (fun hs => ?_) <;> first | (exfalso; omega) | (conv => whnf)) | (refine Ar.i (by omega) ?_; conv => whnf) | (refine NewS.mk (fun _ => ?_); conv => whnf) | (refine QuoS.nn (by omega) ?_; conv => whnf) | (refine RemS.nn (by omega) ?_; conv => whnf) | refine RetS.mk (fun w' hS => ?_)))
    exact ⟨((P, a), p1), ⟨hv, hcp, by dsimp only; omega⟩, rfl, hS.pres, hB.rd hS (List.mem_of_getElem? (i := 0) rfl), freshS hS rfl (List.Sublist.refl _)⟩
  obtain ⟨m, rfl⟩ : ∃ m', m = m' + 1 := ⟨m - 1, by omega⟩
  have hn1 : ((m + 1 : Nat) : Int) - 1 = (m : Int) := by omega
  refine call_pick hB 0 rfl (by omega) (fun r1 h1 k1 => ?_)
  conv => whnf
  refine Sp.mk (fun h2 => ?_) (fun h2 => ?_) <;> conv => whnf
  · skip
    refine DrawS.plan (.first 0 (.first 1 (.alt 2 (.alt 3 (.first 4 (.first 5 (.first 6 (.first 7 (.one 8 (.one 9 (.first 10 (.first 11 (.done))))))))) (.alt 8 (.one 3 (.first 4 (.first 5 (.first 6 (.first 7 (.one 9 (.first 10 (.first 11 (.done))))))))) (.stop))) (.alt 8 (.one 2 (.one 3 (.first 4 (.first 5 (.first 6 (.first 7 (.one 9 (.first 10 (.first 11 (.done)))))))))) (.stop))))) (by as_aux_lemma => kernel_rfl) _ [] (LbTo.self rfl) (RsTo.sub (List.nil_sublist _)) ?_
    conv => whnf
    repeat' (first | (refine StS.mk rfl (RsTo.sub (List.nil_sublist _)) ?_; conv => whnf) | (refine AltS.mk ?_ ?_ <;> conv => whnf) | exact trivial | (refine NewS.mk (fun g7 => ?_); conv => whnf) | (refine Ar.i (by omega) ?_; conv => whnf) | (refine call_pick hB 0 rfl (by omega) (fun r3 hr3 kr3 => ?_); conv => whnf) | (refine ⟨rfl, CallS.own (fun w' hS => sAcq2_any _ w' (St.pool hS hle 1 2 3 rfl rfl rfl) hcp (by omega)) (fun y3 hy3 => ?_)⟩; obtain ⟨⟨P9, a9⟩, c9, b9⟩ := y3; obtain ⟨hy4, hy5⟩ := hy3; dsimp only at hy4 hy5 ⊢; cases b9 <;> conv => whnf))
    all_goals first
      | exact ⟨(m, (P, a), p1 + 2), ⟨hv, hcp, by dsimp only; omega, by dsimp only; omega⟩, by dsimp only; omega, ⟨congrArg (fun z => SV.v (Value.int .i64 z)) hn1, trivial⟩, ⟨rfl, (LbTo.self rfl).ok⟩, RsTo.sub (List.Sublist.cons_cons _ (List.Sublist.cons_cons _ (List.Sublist.cons_cons _ (List.Sublist.cons_cons _ (List.nil_sublist _)))))⟩
      | exact ⟨(m, (P9, a9), p1 + 2), ⟨hy5 rfl, hy4, by dsimp only; omega, by dsimp only; omega⟩, by dsimp only; omega, ⟨congrArg (fun z => SV.v (Value.int .i64 z)) hn1, trivial⟩, ⟨rfl, (LbTo.self rfl).ok⟩, RsTo.sub (List.Sublist.cons_cons _ (List.Sublist.cons _ (List.Sublist.cons _ (List.Sublist.cons _ (List.Sublist.cons_cons _ (List.Sublist.cons_cons _ (List.Sublist.cons_cons _ (List.nil_sublist _))))))))⟩
  refine Sp.mk (fun h3 => ?_) (fun h3 => ?_) <;> conv => whnf
  · skip
    refine DrawS.plan (.first 0 (.first 1 (.alt 2 (.alt 3 (.first 4 (.first 5 (.first 6 (.first 7 (.one 8 (.one 9 (.first 10 (.first 11 (.done))))))))) (.alt 8 (.one 3 (.first 4 (.first 5 (.first 6 (.first 7 (.one 9 (.first 10 (.first 11 (.done))))))))) (.stop))) (.alt 8 (.one 2 (.one 3 (.first 4 (.first 5 (.first 6 (.first 7 (.one 9 (.first 10 (.first 11 (.done)))))))))) (.stop))))) (by as_aux_lemma => kernel_rfl) _ [] (LbTo.self rfl) (RsTo.sub (List.nil_sublist _)) ?_
    conv => whnf
    repeat' (first | (refine StS.mk rfl (RsTo.sub (List.nil_sublist _)) ?_; conv => whnf) | (refine AltS.mk ?_ ?_ <;> conv => whnf) | exact trivial | (refine NewS.mk (fun g7 => ?_); conv => whnf) | (refine Ar.i (by omega) ?_; conv => whnf) | (refine call_pick hB 0 rfl (by omega) (fun r3 hr3 kr3 => ?_); conv => whnf) | (refine ⟨rfl, CallS.own (fun w' hS => sAcq2_any _ w' (St.pool hS hle 1 2 3 rfl rfl rfl) hcp (by omega)) (fun y3 hy3 => ?_)⟩; obtain ⟨⟨P9, a9⟩, c9, b9⟩ := y3; obtain ⟨hy4, hy5⟩ := hy3; dsimp only at hy4 hy5 ⊢; cases b9 <;> conv => whnf))
    all_goals first
      | exact ⟨(m, (P, a), p1 + 2), ⟨hv, hcp, by dsimp only; omega, by dsimp only; omega⟩, by dsimp only; omega, ⟨congrArg (fun z => SV.v (Value.int .i64 z)) hn1, trivial⟩, ⟨rfl, (LbTo.self rfl).ok⟩, RsTo.sub (List.Sublist.cons_cons _ (List.Sublist.cons_cons _ (List.Sublist.cons_cons _ (List.Sublist.cons_cons _ (List.nil_sublist _)))))⟩
      | exact ⟨(m, (P9, a9), p1 + 2), ⟨hy5 rfl, hy4, by dsimp only; omega, by dsimp only; omega⟩, by dsimp only; omega, ⟨congrArg (fun z => SV.v (Value.int .i64 z)) hn1, trivial⟩, ⟨rfl, (LbTo.self rfl).ok⟩, RsTo.sub (List.Sublist.cons_cons _ (List.Sublist.cons _ (List.Sublist.cons _ (List.Sublist.cons _ (List.Sublist.cons_cons _ (List.Sublist.cons_cons _ (List.Sublist.cons_cons _ (List.nil_sublist _))))))))⟩
  · skip
    obtain ⟨A1, A2, A3, c1, c2, c3⟩ := a
    refine DrawS.know (φ := ∃ ga, A2 = some ⟨ga, 0, none⟩) (fun w' hS => St.some_ hS 2 rfl (by omega)) (fun ⟨ga, hA⟩ => ?_)
    subst hA
    refine DrawS.plan (.first 0 (.first 1 (.first 2 (.first 3 (.first 4 (.first 5 (.first 6 (.alt 7 (.first 8 (.first 9 (.first 10 (.alt 11 (.first 12 (.first 13 (.first 14 (.first 15 (.one 16 (.one 17 (.first 18 (.first 19 (.done))))))))) (.alt 16 (.one 11 (.first 12 (.first 13 (.first 14 (.first 15 (.one 17 (.first 18 (.first 19 (.done))))))))) (.stop)))))) (.alt 16 (.one 7 (.first 8 (.first 9 (.first 10 (.one 11 (.first 12 (.first 13 (.first 14 (.first 15 (.one 17 (.first 18 (.first 19 (.done))))))))))))) (.stop)))))))))) (by as_aux_lemma => kernel_rfl) _ (pRows P ⟨A1, some ⟨ga, 0, none⟩, A3, c1, c2, c3⟩) (LbTo.self rfl) (RsTo.sub (List.sublist_cons_self _ _)) ?_
    conv => whnf
    repeat' (first | (refine StS.mk rfl (RsTo.sub (List.Sublist.cons _ (List.Sublist.cons_cons _ (List.Sublist.cons_cons _ (List.Sublist.cons_cons _ (List.nil_sublist _)))))) ?_; conv => whnf) | (refine AltS.mk ?_ ?_ <;> conv => whnf) | exact trivial | (refine NewS.mk (fun g7 => ?_); conv => whnf) | (refine Ar.i (by omega) ?_; conv => whnf) | (refine call_pick hB 0 rfl (by omega) (fun r3 hr3 kr3 => ?_); obtain ⟨k3, rfl⟩ := Int.eq_ofNat_of_zero_le hr3; replace kr3 := kr3 (by omega); obtain ⟨x3, hx3⟩ : ∃ x, P.h[k3]? = some x := ⟨_, List.getElem?_eq_getElem (by omega)⟩; conv => whnf) | (have g3 := hx3; refine IdxS.at_ k3 rfl rfl (by omega) ?_; conv => whnf) | (have g3 := hx3; refine LdS.at_ (v := .int .i64 x3.c) (fun w' hS => held_at hS 1 rfl (by omega) (by omega) hx3) ?_; conv => whnf) | (refine ⟨rfl, CallS.own (fun w' hS => sRel2_any _ w' (St.pool hS hle 1 2 3 rfl rfl rfl) hcp (by omega)) (fun y3 hy3 => ?_)⟩; obtain ⟨⟨P9, a9⟩, c9, b9⟩ := y3; obtain ⟨hy4, hy5⟩ := hy3; dsimp only at hy4 hy5 ⊢; cases b9 <;> conv => whnf))
    all_goals first
      | exact ⟨(m, (P, ⟨A1, some ⟨ga, 0, none⟩, A3, c1, c2, c3⟩), p1 + 2), ⟨hv, hcp, by dsimp only; omega, by dsimp only; omega⟩, by dsimp only; omega, ⟨congrArg (fun z => SV.v (Value.int .i64 z)) hn1, trivial⟩, ⟨rfl, (LbTo.self rfl).ok⟩, RsTo.sub (List.Sublist.cons_cons _ (List.Sublist.cons_cons _ (List.Sublist.cons_cons _ (List.Sublist.cons_cons _ (List.nil_sublist _)))))⟩
      | exact ⟨(m, (P9, a9), p1 + 2), ⟨hy5 rfl, hy4, by dsimp only; omega, by dsimp only; omega⟩, by dsimp only; omega, ⟨congrArg (fun z => SV.v (Value.int .i64 z)) hn1, trivial⟩, ⟨rfl, (LbTo.self rfl).ok⟩, RsTo.sub (List.Sublist.cons_cons _ (List.Sublist.cons _ (List.Sublist.cons _ (List.Sublist.cons _ (List.Sublist.cons_cons _ (List.Sublist.cons_cons _ (List.Sublist.cons_cons _ (List.nil_sublist _))))))))⟩

structure okAny (p : PoolD) : Prop where
  i : p.i.length ≤ 7
  h : p.h.length ≤ 7
  w : p.w.length ≤ 13
theorem okAny.le {p : PoolD} (h : okAny p) : PoolLe p := by have h1 := h.i; have h2 := h.h; have h3 := h.w; exact ⟨by omega, by omega, by omega⟩
theorem okAny.s {p : PoolD} (h : okAny p) : p.i.length + p.h.length ≤ 2000000 := by have h1 := h.i; have h2 := h.h; omega
theorem okAny_of {p : PoolD} (h : okPool p) : okAny p := by
  have h1 := pool_room h
  have h2 := h.1
  have h3 := h.2.2.2.2.1
  exact ⟨by omega, by omega, by omega⟩
section
variable {w0 : World} {lb : List Box} {rs : List Own} {g : Nat} {A : Option Addr} {n c : Nat} {bs : List Int} {p : Nat} {K : SV → List Box → List Own → Prop}
theorem call_somePool {S0 : List Nat} (hB : RdB w0 S0 g A n bs) (i : Nat) (hi : rs[i]? = some (rdOwn g A n c p)) (hp : p ≤ 1000)
    (kk : ∀ (y : PoolD × PAd) (q : Nat), okPool y.1 → capOk y.1 y.2 → q ≤ p + 50 → K (.v (.agg (poolV y.1 y.2).toArray)) lb (rs.set i (rdOwn g A n c q) ++ pRows y.1 y.2)) :
    memN (cxS w0 S0).F 73 = true ∧ CallS (cxS w0 S0) lb rs 73 #[.pointer (some ⟨g, 0, none⟩)] K :=
  call_rd (α := (PoolD × PAd) × Nat) (r := fun y => .agg (poolV y.1.1 y.1.2).toArray) (φ := fun y => okPool y.1.1 ∧ capOk y.1.1 y.1.2 ∧ y.2 ≤ p + 50) (q := fun y => y.2) (os := fun y => pRows y.1.1 y.1.2) hB i hi rfl (fun w' hS hrd => somePool_any w' hrd hp) (fun y hy => kk y.1 y.2 hy.1 hy.2.1 hy.2.2)
end
theorem anyPool_any {g : Nat} {A : Option Addr} {n c : Nat} {bs : List Int} {p : Nat} (w : World) (h : Rd w g A n c bs p) (hp : p ≤ 1000) :
    Calls Try.prog 43 #[.pointer (some ⟨g, 0, none⟩)] w fun e w' => ∃ y : (PoolD × PAd) × Nat, (okAny y.1.1 ∧ capOk y.1.1 y.1.2 ∧ y.2 ≤ p + 60) ∧ e = .returned (.agg (poolV y.1.1 y.1.2).toArray) ∧ Pres [g] w w' ∧ Rd w' g A n c bs y.2 ∧ Fresh w.heap.size (pRows y.1.1 y.1.2) w' := by
  have hB := h.b
  refine enter (C := cxS w [g]) (okS w [g]) h.start Try.func43 rfl rfl ?_
  conv => whnf
  refine NewS.mk (fun g0 => ?_)
  conv => whnf
  refine call_somePool hB 0 rfl (by omega) (fun y q hv hcp hq => ?_)
  obtain ⟨P, a⟩ := y
  dsimp only at hv hcp ⊢
  have ha := okAny_of hv
  have hroom := pool_room hv
  have hmm := hv.1
  have hw12 := hv.2.2.2.2.1
  have hle : PoolLe P := ha.le
  conv => whnf
  refine NewS.mk (fun g1 => ?_)
  conv => whnf
  refine call_pick hB 0 rfl (by omega) (fun r1 h1 k1 => ?_)
  conv => whnf
  refine Sp.mk (fun h2 => ?_) (fun h2 => ?_) <;> conv => whnf
  · refine NewS.mk (fun g2 => ?_)
    conv => whnf
    refine call_one hB 0 4 (by decide) rfl (by omega) rfl (by decide) 0 7 (by repeat (first | exact inB_nil | refine inB_cons (by omega) ?_)) (fun u hu0 hu1 => ?_)
    conv => whnf
    (repeat' (first | (refine Sp.mk (fun hs => ?_) (fun hs => ?_) <;> first | (exfalso; omega) | (conv => whnf)) | (refine Ar.i (by omega) ?_; conv => whnf) | (refine NewS.mk (fun _ => ?_); conv => whnf) | (refine QuoS.nn (by omega) ?_; conv => whnf) | (refine RemS.nn (by omega) ?_; conv => whnf) | refine RetS.mk (fun w' hS => ?_)))
    exact ⟨((⟨u, P.i, P.h, P.w⟩, a), q + 2), ⟨⟨ha.i, ha.h, ha.w⟩, hcp, by dsimp only; omega⟩, rfl, hS.pres, hB.rd hS (List.mem_of_getElem? (i := 0) rfl), freshS hS rfl (List.Sublist.cons_cons _ (List.Sublist.cons_cons _ (List.Sublist.cons_cons _ (List.nil_sublist _))))⟩
  refine Sp.mk (fun h3 => ?_) (fun h3 => ?_) <;> conv => whnf
  · refine ⟨rfl, CallS.own (fun w' hS => spec_copyInts_any w' (St.intsR hS (l := P.i) 1 rfl hle.i)) (fun y3 hy3 => ?_)⟩
    conv => whnf
    refine NewS.mk (fun g2 => ?_)
    conv => whnf
    refine call_one hB 0 5 (by decide) rfl (by omega) rfl (by decide) (-1) 5 (by repeat (first | exact inB_nil | refine inB_cons (by omega) ?_)) (fun u hu0 hu1 => ?_)
    conv => whnf
    refine NewS.mk (fun g3 => ?_)
    conv => whnf
    refine SemS.appG (okS w [g]) (i := 4) rfl rfl (by decide) rfl (fun w' hS => St.row hS (e := 3) (xs := [.int .i64 u]) (List.mem_of_getElem? (i := 6) rfl)) (by simp [isOne]) (by simp only [maxLen]; omega) (by dsimp only; omega) (fun A4 c4 hc4 => ?_)
    conv => whnf
    (repeat' (first | (refine Sp.mk (fun hs => ?_) (fun hs => ?_) <;> first | (exfalso; omega) | (conv => whnf)) | (refine Ar.i (by omega) ?_; conv => whnf) | (refine NewS.mk (fun _ => ?_); conv => whnf) | (refine QuoS.nn (by omega) ?_; conv => whnf) | (refine RemS.nn (by omega) ?_; conv => whnf) | refine RetS.mk (fun w' hS => ?_)))
    refine ⟨((⟨P.m, P.i ++ [u], P.h, P.w⟩, ⟨A4, a.h, a.w, c4, a.ch, a.cw⟩), q + 2), ⟨⟨by simp; omega, ha.h, ha.w⟩, ⟨by simpa using hc4, hcp.2.1, hcp.2.2⟩, by dsimp only; omega⟩, by simp [poolV], hS.pres, hB.rd hS (List.mem_of_getElem? (i := 0) rfl), ?_⟩
    have h4 := freshS (os := [hRow P a, wRow P a, rowOf 3 1 A4 (P.i.length + 1) c4 (i64s P.i ++ [.int .i64 u])]) hS rfl (List.Sublist.cons _ (List.Sublist.cons_cons _ (List.Sublist.cons_cons _ (List.Sublist.cons_cons _ (List.nil_sublist _)))))
    have h5 := fresh_perm h4 (List.perm_append_comm (l₁ := [_, _]) (l₂ := [_]))
    simpa [pRows, iRow, hRow, wRow, i64s_app1] using h5
  refine Sp.mk (fun h4 => ?_) (fun h4 => ?_) <;> conv => whnf
  · refine ⟨rfl, CallS.own (fun w' hS => spec_copyInts_any w' (St.intsR hS (l := P.w) 3 rfl hle.w)) (fun y3 hy3 => ?_)⟩
    conv => whnf
    refine NewS.mk (fun g2 => ?_)
    conv => whnf
    refine call_one hB 0 5 (by decide) rfl (by omega) rfl (by decide) (-1) 5 (by repeat (first | exact inB_nil | refine inB_cons (by omega) ?_)) (fun u hu0 hu1 => ?_)
    conv => whnf
    refine NewS.mk (fun g3 => ?_)
    conv => whnf
    refine SemS.appG (okS w [g]) (i := 4) rfl rfl (by decide) rfl (fun w' hS => St.row hS (e := 3) (xs := [.int .i64 u]) (List.mem_of_getElem? (i := 6) rfl)) (by simp [isOne]) (by simp only [maxLen]; omega) (by dsimp only; omega) (fun A4 c4 hc4 => ?_)
    conv => whnf
    (repeat' (first | (refine Sp.mk (fun hs => ?_) (fun hs => ?_) <;> first | (exfalso; omega) | (conv => whnf)) | (refine Ar.i (by omega) ?_; conv => whnf) | (refine NewS.mk (fun _ => ?_); conv => whnf) | (refine QuoS.nn (by omega) ?_; conv => whnf) | (refine RemS.nn (by omega) ?_; conv => whnf) | refine RetS.mk (fun w' hS => ?_)))
    refine ⟨((⟨P.m, P.i, P.h, P.w ++ [u]⟩, ⟨a.i, a.h, A4, a.ci, a.ch, c4⟩), q + 2), ⟨⟨ha.i, ha.h, by simp; omega⟩, ⟨hcp.1, hcp.2.1, by simpa using hc4⟩, by dsimp only; omega⟩, by simp [poolV], hS.pres, hB.rd hS (List.mem_of_getElem? (i := 0) rfl), ?_⟩
    have h4 := freshS (os := [iRow P a, hRow P a, rowOf 3 1 A4 (P.w.length + 1) c4 (i64s P.w ++ [.int .i64 u])]) hS rfl (List.Sublist.cons_cons _ (List.Sublist.cons_cons _ (List.Sublist.cons _ (List.Sublist.cons_cons _ (List.nil_sublist _)))))
    simpa [pRows, iRow, hRow, wRow, i64s_app1] using h4
  refine Sp.mk (fun h5 => ?_) (fun h5 => ?_) <;> conv => whnf
  · refine NewS.mk (fun g2 => ?_)
    conv => whnf
    refine SemS.appZ (okS w [g]) rfl rfl (by decide) (news := P.h.flatMap holdV) (fun w' hS => hS.rowR (List.mem_of_getElem? (i := 2) rfl)) (holdL_one _) (by simp only [maxLen]; omega) (by dsimp only; omega) (fun A3 c3 hc3 => ?_)
    conv => whnf
    refine NewS.mk (fun g3 => ?_)
    conv => whnf
    refine call_one hB 0 6 (by decide) rfl (by omega) rfl (by decide) 0 5 (by repeat (first | exact inB_nil | refine inB_cons (by omega) ?_)) (fun u hu0 hu1 => ?_)
    conv => whnf
    refine NewS.mk (fun g4 => ?_)
    conv => whnf
    refine call_one hB 0 7 (by decide) rfl (by omega) rfl (by decide) 0 5 (by repeat (first | exact inB_nil | refine inB_cons (by omega) ?_)) (fun v hv0 hv1 => ?_)
    conv => whnf
    refine NewS.mk (fun g5 => ?_)
    conv => whnf
    refine SemS.appG (okS w [g]) (i := 5) rfl rfl (by decide) rfl (fun w' hS => St.row hS (e := 41) (xs := holdV (HoldD.mk u v)) (List.mem_of_getElem? (i := 8) rfl)) (holdV_one _) (by simp only [maxLen]; omega) (by dsimp only; omega) (fun A4 c4 hc4 => ?_)
    conv => whnf
    (repeat' (first | (refine Sp.mk (fun hs => ?_) (fun hs => ?_) <;> first | (exfalso; omega) | (conv => whnf)) | (refine Ar.i (by omega) ?_; conv => whnf) | (refine NewS.mk (fun _ => ?_); conv => whnf) | (refine QuoS.nn (by omega) ?_; conv => whnf) | (refine RemS.nn (by omega) ?_; conv => whnf) | refine RetS.mk (fun w' hS => ?_)))
    refine ⟨((⟨P.m, P.i, P.h ++ [HoldD.mk u v], P.w⟩, ⟨a.i, A4, a.w, a.ci, c4, a.cw⟩), q + 3), ⟨⟨ha.i, by simp; omega, ha.w⟩, ⟨hcp.1, by simpa using hc4, hcp.2.2⟩, by dsimp only; omega⟩, by simp [poolV], hS.pres, hB.rd hS (List.mem_of_getElem? (i := 0) rfl), ?_⟩
    have h4 := freshS (os := [iRow P a, wRow P a, rowOf 41 2 A4 (P.h.length + 1) c4 (P.h.flatMap holdV ++ holdV (HoldD.mk u v))]) hS rfl (List.Sublist.cons_cons _ (List.Sublist.cons _ (List.Sublist.cons_cons _ (List.Sublist.cons _ (List.Sublist.cons_cons _ (List.nil_sublist _))))))
    have h5 := fresh_perm h4 (List.Perm.cons _ (List.Perm.swap _ _ _))
    simpa [pRows, iRow, hRow, wRow] using h5
  (repeat' (first | (refine Sp.mk (fun hs => ?_) (fun hs => ?_) <;> first | (exfalso; omega) | (conv => whnf)) | (refine Ar.i (by omega) ?_; conv => whnf) | (refine NewS.mk (fun _ => ?_); conv => whnf) | (refine QuoS.nn (by omega) ?_; conv => whnf) | (refine RemS.nn (by omega) ?_; conv => whnf) | refine RetS.mk (fun w' hS => ?_)))
  exact ⟨((P, a), q + 1), ⟨ha, hcp, by dsimp only; omega⟩, rfl, hS.pres, hB.rd hS (List.mem_of_getElem? (i := 0) rfl), freshS hS rfl (List.Sublist.refl _)⟩

section
variable {w0 : World} {lb : List Box} {rs : List Own} {g : Nat} {A : Option Addr} {n c : Nat} {bs : List Int} {p : Nat} {K : SV → List Box → List Own → Prop}
theorem call_anyPool {S0 : List Nat} (hB : RdB w0 S0 g A n bs) (i : Nat) (hi : rs[i]? = some (rdOwn g A n c p)) (hp : p ≤ 1000)
    (kk : ∀ (y : PoolD × PAd) (q : Nat), okAny y.1 → capOk y.1 y.2 → q ≤ p + 60 → K (.v (.agg (poolV y.1 y.2).toArray)) lb (rs.set i (rdOwn g A n c q) ++ pRows y.1 y.2)) :
    memN (cxS w0 S0).F 43 = true ∧ CallS (cxS w0 S0) lb rs 43 #[.pointer (some ⟨g, 0, none⟩)] K :=
  call_rd (α := (PoolD × PAd) × Nat) (r := fun y => .agg (poolV y.1.1 y.1.2).toArray) (φ := fun y => okAny y.1.1 ∧ capOk y.1.1 y.1.2 ∧ y.2 ≤ p + 60) (q := fun y => y.2) (os := fun y => pRows y.1.1 y.1.2) hB i hi rfl (fun w' hS hrd => anyPool_any w' hrd hp) (fun y hy => kk y.1 y.2 hy.1 hy.2.1 hy.2.2)
end
theorem drawValid_any {A : Option Addr} {n c : Nat} {bs : List Int} (w : World) (hb : Bytes w A n bs) (hn : n ≤ c) :
    Calls Try.prog 19 #[.slice A n c] w fun e w' => ∃ y : PoolD × PAd, (okAny y.1 ∧ capOk y.1 y.2) ∧ e = .returned (.agg (poolV y.1 y.2).toArray) ∧ Below w.heap.size w w' ∧ Fresh w.heap.size (pRows y.1 y.2) w' := by
  refine enter (C := cxS w []) (okS w []) (St.start w) Try.func19 rfl rfl ?_; conv => whnf
  refine NewS.mk (fun g0 => ?_)
  conv => whnf
  refine call_newReader hb hn (fun g c' hB => ?_)
  conv => whnf
  refine call_anyPool hB 0 rfl (by omega) (fun y q h1 h2 h3 => ?_)
  conv => whnf
  (repeat' (first | (refine Sp.mk (fun hs => ?_) (fun hs => ?_) <;> first | (exfalso; omega) | (conv => whnf)) | (refine Ar.i (by omega) ?_; conv => whnf) | (refine NewS.mk (fun _ => ?_); conv => whnf) | (refine QuoS.nn (by omega) ?_; conv => whnf) | (refine RemS.nn (by omega) ?_; conv => whnf) | refine RetS.mk (fun w' hS => ?_)))
  exact ⟨y, ⟨h1, h2⟩, rfl, hS.below, hS.fresh (List.Sublist.cons _ (List.Sublist.refl _))⟩
theorem draw_spec_DrawAcquireConn_any {A : Option Addr} {n c : Nat} {bs : List Int} (w : World) (hb : Bytes w A n bs) (hn : n ≤ c) :
    Calls Try.prog 32 #[.slice A n c] w fun e w' => ∃ y : (PoolD × PAd) × Int, (okAny y.1.1 ∧ capOk y.1.1 y.1.2 ∧ (-1 ≤ y.2 ∧ y.2 ≤ 100)) ∧ e = .returned (.tuple #[.agg (poolV y.1.1 y.1.2).toArray, .int .i64 y.2]) ∧ Below w.heap.size w w' ∧ Fresh w.heap.size (pRows y.1.1 y.1.2) w' := by
  refine enter (C := cxS w []) (okS w []) (St.start w) Try.func32 rfl rfl ?_; conv => whnf
  refine NewS.mk (fun g0 => ?_)
  conv => whnf
  refine call_newReader hb hn (fun g c' hB => ?_)
  conv => whnf
  refine call_anyPool hB 0 rfl (by omega) (fun y q h1 h2 h3 => ?_)
  conv => whnf
  refine NewS.mk (fun g1 => ?_)
  conv => whnf
  refine DrawS.plan (.first 1 (.alt 0 (.one 2 (.one 3 (.one 4 (.first 5 (.done))))) (.alt 2 (.alt 0 (.one 3 (.one 4 (.first 5 (.done)))) (.alt 3 (.one 0 (.one 4 (.first 5 (.done)))) (.stop))) (.stop)))) (by as_aux_lemma => kernel_rfl) [] [] (LbTo.refl_nil _) (RsTo.sub (List.nil_sublist _)) ?_
  conv => whnf
  repeat' (first | (refine StS.mk rfl (RsTo.sub (List.nil_sublist _)) ?_; conv => whnf) | (refine AltS.mk ?_ ?_ <;> conv => whnf) | exact trivial | (refine NewS.mk (fun g7 => ?_); conv => whnf) | (refine call_one hB 0 4 (by decide) rfl (by omega) rfl (by decide) (-1) 5 (by repeat (first | exact inB_nil | refine inB_cons (by omega) ?_)) (fun u hu0 hu1 => ?_); conv => whnf) | refine RetS.mk (fun w' hS => ?_))
  all_goals
    exact ⟨(y, _), ⟨h1, h2, by dsimp only; omega⟩, rfl, hS.below, hS.fresh (List.Sublist.cons _ (List.Sublist.cons_cons _ (List.Sublist.cons_cons _ (List.Sublist.cons_cons _ (List.nil_sublist _)))))⟩
theorem draw_spec_DrawCloseIdle_any {A : Option Addr} {n c : Nat} {bs : List Int} (w : World) (hb : Bytes w A n bs) (hn : n ≤ c) :
    Calls Try.prog 27 #[.slice A n c] w fun e w' => ∃ y : (PoolD × PAd) × Int, (okAny y.1.1 ∧ capOk y.1.1 y.1.2 ∧ (-1 ≤ y.2 ∧ y.2 ≤ 100)) ∧ e = .returned (.tuple #[.agg (poolV y.1.1 y.1.2).toArray, .int .i64 y.2]) ∧ Below w.heap.size w w' ∧ Fresh w.heap.size (pRows y.1.1 y.1.2) w' := by
  refine enter (C := cxS w []) (okS w []) (St.start w) Try.func27 rfl rfl ?_; conv => whnf
  refine NewS.mk (fun g0 => ?_)
  conv => whnf
  refine call_newReader hb hn (fun g c' hB => ?_)
  conv => whnf
  refine call_anyPool hB 0 rfl (by omega) (fun y q h1 h2 h3 => ?_)
  conv => whnf
  refine NewS.mk (fun g1 => ?_)
  conv => whnf
  refine DrawS.plan (.first 1 (.alt 0 (.one 2 (.one 3 (.one 4 (.first 5 (.done))))) (.alt 2 (.alt 0 (.one 3 (.one 4 (.first 5 (.done)))) (.alt 3 (.one 0 (.one 4 (.first 5 (.done)))) (.stop))) (.stop)))) (by as_aux_lemma => kernel_rfl) [] [] (LbTo.refl_nil _) (RsTo.sub (List.nil_sublist _)) ?_
  conv => whnf
  repeat' (first | (refine StS.mk rfl (RsTo.sub (List.nil_sublist _)) ?_; conv => whnf) | (refine AltS.mk ?_ ?_ <;> conv => whnf) | exact trivial | (refine NewS.mk (fun g7 => ?_); conv => whnf) | (refine call_one hB 0 4 (by decide) rfl (by omega) rfl (by decide) (-1) 100 (by repeat (first | exact inB_nil | refine inB_cons (by omega) ?_)) (fun u hu0 hu1 => ?_); conv => whnf) | refine RetS.mk (fun w' hS => ?_))
  all_goals
    exact ⟨(y, _), ⟨h1, h2, by dsimp only; omega⟩, rfl, hS.below, hS.fresh (List.Sublist.cons _ (List.Sublist.cons_cons _ (List.Sublist.cons_cons _ (List.Sublist.cons_cons _ (List.nil_sublist _)))))⟩
theorem draw_spec_DrawHeldBy_any {A : Option Addr} {n c : Nat} {bs : List Int} (w : World) (hb : Bytes w A n bs) (hn : n ≤ c) :
    Calls Try.prog 22 #[.slice A n c] w fun e w' => ∃ y : (PoolD × PAd) × Int, (okAny y.1.1 ∧ capOk y.1.1 y.1.2 ∧ (-1 ≤ y.2 ∧ y.2 ≤ 100)) ∧ e = .returned (.tuple #[.agg (poolV y.1.1 y.1.2).toArray, .int .i64 y.2]) ∧ Below w.heap.size w w' ∧ Fresh w.heap.size (pRows y.1.1 y.1.2) w' := by
  refine enter (C := cxS w []) (okS w []) (St.start w) Try.func22 rfl rfl ?_; conv => whnf
  refine NewS.mk (fun g0 => ?_)
  conv => whnf
  refine call_newReader hb hn (fun g c' hB => ?_)
  conv => whnf
  refine call_anyPool hB 0 rfl (by omega) (fun y q h1 h2 h3 => ?_)
  conv => whnf
  refine NewS.mk (fun g1 => ?_)
  conv => whnf
  refine DrawS.plan (.first 1 (.alt 0 (.one 2 (.one 3 (.first 4 (.done)))) (.alt 2 (.one 0 (.one 3 (.first 4 (.done)))) (.stop)))) (by as_aux_lemma => kernel_rfl) [] [] (LbTo.refl_nil _) (RsTo.sub (List.nil_sublist _)) ?_
  conv => whnf
  repeat' (first | (refine StS.mk rfl (RsTo.sub (List.nil_sublist _)) ?_; conv => whnf) | (refine AltS.mk ?_ ?_ <;> conv => whnf) | exact trivial | (refine NewS.mk (fun g7 => ?_); conv => whnf) | (refine call_pick hB 0 rfl (by omega) (fun u hu0 hu1 => ?_); replace hu1 := hu1 (by omega); conv => whnf) | refine RetS.mk (fun w' hS => ?_))
  all_goals
    exact ⟨(y, _), ⟨h1, h2, by dsimp only; omega⟩, rfl, hS.below, hS.fresh (List.Sublist.cons _ (List.Sublist.cons_cons _ (List.Sublist.cons_cons _ (List.Sublist.cons_cons _ (List.nil_sublist _)))))⟩
theorem draw_release_any {A : Option Addr} {n c : Nat} {bs : List Int} (w : World) (hb : Bytes w A n bs) (hn : n ≤ c) :
    Calls Try.prog 35 #[.slice A n c] w fun e w' => ∃ y : (PoolD × PAd) × Int, (okAny y.1.1 ∧ capOk y.1.1 y.1.2 ∧ True) ∧ e = .returned (.tuple #[.agg (poolV y.1.1 y.1.2).toArray, .int .i64 y.2]) ∧ Below w.heap.size w w' ∧ Fresh w.heap.size (pRows y.1.1 y.1.2) w' := by
  refine enter (C := cxS w []) (okS w []) (St.start w) Try.func35 rfl rfl ?_; conv => whnf
  refine NewS.mk (fun g0 => ?_)
  conv => whnf
  refine call_newReader hb hn (fun g c' hB => ?_)
  conv => whnf
  refine call_anyPool hB 0 rfl (by omega) (fun y q h1 h2 h3 => ?_)
  obtain ⟨P, a⟩ := y
  have l2 := h1.h
  dsimp only at h1 h2 l2 ⊢
  conv => whnf
  refine NewS.mk (fun g1 => ?_)
  conv => whnf
  refine Sp.mk (fun h0 => ?_) (fun h0 => ?_) <;> conv => whnf
  · refine call_pick hB 0 rfl (by omega) (fun r1 hr1 kr1 => ?_)
    conv => whnf
    refine Sp.mk (fun h4 => ?_) (fun h4 => ?_) <;> conv => whnf
    · obtain ⟨A1, A2, A3, c1, c2, c3⟩ := a
      refine DrawS.know (φ := ∃ ga, A2 = some ⟨ga, 0, none⟩) (fun w' hS => St.some_ hS 2 rfl (by omega)) (fun ⟨ga, hA⟩ => ?_)
      subst hA
      refine DrawS.plan (.first 1 (.first 3 (.first 4 (.alt 0 (.alt 2 (.one 5 (.first 6 (.one 7 (.first 8 (.first 9 (.alt 10 (.one 11 (.first 12 (.done))) (.alt 11 (.one 10 (.first 12 (.done))) (.stop)))))))) (.alt 5 (.first 6 (.alt 2 (.one 7 (.first 8 (.first 9 (.alt 10 (.one 11 (.first 12 (.done))) (.alt 11 (.one 10 (.first 12 (.done))) (.stop)))))) (.alt 7 (.alt 2 (.first 8 (.first 9 (.alt 10 (.one 11 (.first 12 (.done))) (.alt 11 (.one 10 (.first 12 (.done))) (.stop))))) (.alt 11 (.one 2 (.first 8 (.first 9 (.one 10 (.first 12 (.done)))))) (.stop))) (.stop)))) (.stop))) (.alt 2 (.alt 0 (.one 5 (.first 6 (.one 7 (.first 8 (.first 9 (.alt 10 (.one 11 (.first 12 (.done))) (.alt 11 (.one 10 (.first 12 (.done))) (.stop)))))))) (.alt 5 (.first 6 (.alt 0 (.one 7 (.first 8 (.first 9 (.alt 10 (.one 11 (.first 12 (.done))) (.alt 11 (.one 10 (.first 12 (.done))) (.stop)))))) (.alt 7 (.first 8 (.first 9 (.alt 0 (.alt 10 (.one 11 (.first 12 (.done))) (.alt 11 (.one 10 (.first 12 (.done))) (.stop))) (.alt 10 (.one 0 (.one 11 (.first 12 (.done)))) (.stop))))) (.stop)))) (.stop))) (.alt 5 (.first 6 (.alt 0 (.alt 2 (.one 7 (.first 8 (.first 9 (.alt 10 (.one 11 (.first 12 (.done))) (.alt 11 (.one 10 (.first 12 (.done))) (.stop)))))) (.alt 7 (.alt 2 (.first 8 (.first 9 (.alt 10 (.one 11 (.first 12 (.done))) (.alt 11 (.one 10 (.first 12 (.done))) (.stop))))) (.alt 11 (.one 2 (.first 8 (.first 9 (.one 10 (.first 12 (.done)))))) (.stop))) (.stop))) (.alt 2 (.alt 0 (.one 7 (.first 8 (.first 9 (.alt 10 (.one 11 (.first 12 (.done))) (.alt 11 (.one 10 (.first 12 (.done))) (.stop)))))) (.alt 7 (.first 8 (.first 9 (.alt 0 (.alt 10 (.one 11 (.first 12 (.done))) (.alt 11 (.one 10 (.first 12 (.done))) (.stop))) (.alt 10 (.one 0 (.one 11 (.first 12 (.done)))) (.stop))))) (.stop))) (.alt 7 (.alt 0 (.alt 2 (.first 8 (.first 9 (.alt 10 (.one 11 (.first 12 (.done))) (.alt 11 (.one 10 (.first 12 (.done))) (.stop))))) (.alt 11 (.one 2 (.first 8 (.first 9 (.one 10 (.first 12 (.done)))))) (.stop))) (.alt 2 (.first 8 (.first 9 (.alt 0 (.alt 10 (.one 11 (.first 12 (.done))) (.alt 11 (.one 10 (.first 12 (.done))) (.stop))) (.alt 10 (.one 0 (.one 11 (.first 12 (.done)))) (.stop))))) (.stop))) (.stop))))) (.stop))))))) (by as_aux_lemma => kernel_rfl) [] [] (LbTo.refl_nil _) (RsTo.sub (List.nil_sublist _)) ?_
      conv => whnf
      repeat' (first | (refine StS.mk rfl (RsTo.sub (List.nil_sublist _)) ?_; conv => whnf) | (refine AltS.mk ?_ ?_ <;> conv => whnf) | exact trivial | (refine NewS.mk (fun g7 => ?_); conv => whnf) | (refine call_pick hB 0 rfl (by omega) (fun r3 hr3 kr3 => ?_); obtain ⟨k3, rfl⟩ := Int.eq_ofNat_of_zero_le hr3; replace kr3 := kr3 (by omega); obtain ⟨x3, hx3⟩ : ∃ x, P.h[k3]? = some x := ⟨_, List.getElem?_eq_getElem (by omega)⟩; conv => whnf) | (have g3 := hx3; refine IdxS.at_ k3 rfl rfl (by omega) ?_; conv => whnf) | (have g3 := hx3; refine LdS.at_ (v := .int .i64 x3.c) (fun w' hS => held_at hS 2 rfl (by omega) (by omega) hx3) ?_; conv => whnf) | refine RetS.mk (fun w' hS => ?_))
      all_goals
        exact ⟨((P, ⟨A1, some ⟨ga, 0, none⟩, A3, c1, c2, c3⟩), _), ⟨h1, h2, trivial⟩, rfl, hS.below, hS.fresh (List.Sublist.cons _ (List.Sublist.refl _))⟩
    refine DrawS.plan (.first 1 (.alt 0 (.one 2 (.first 3 (.one 4 (.first 5 (.done))))) (.alt 2 (.first 3 (.one 0 (.one 4 (.first 5 (.done))))) (.stop)))) (by as_aux_lemma => kernel_rfl) [] [] (LbTo.refl_nil _) (RsTo.sub (List.nil_sublist _)) ?_
    conv => whnf
    repeat' (first | (refine StS.mk rfl (RsTo.sub (List.nil_sublist _)) ?_; conv => whnf) | (refine AltS.mk ?_ ?_ <;> conv => whnf) | exact trivial | (refine Ar.i (by omega) ?_; conv => whnf) | (refine call_pick hB 0 rfl (by omega) (fun r3 hr3 kr3 => ?_); replace kr3 := kr3 (by omega); conv => whnf) | refine RetS.mk (fun w' hS => ?_))
    all_goals
      exact ⟨((P, a), _), ⟨h1, h2, trivial⟩, rfl, hS.below, hS.fresh (List.Sublist.cons _ (List.Sublist.refl _))⟩
  refine DrawS.plan (.first 1 (.alt 0 (.one 2 (.first 3 (.one 4 (.first 5 (.done))))) (.alt 2 (.first 3 (.one 0 (.one 4 (.first 5 (.done))))) (.stop)))) (by as_aux_lemma => kernel_rfl) [] [] (LbTo.refl_nil _) (RsTo.sub (List.nil_sublist _)) ?_
  conv => whnf
  repeat' (first | (refine StS.mk rfl (RsTo.sub (List.nil_sublist _)) ?_; conv => whnf) | (refine AltS.mk ?_ ?_ <;> conv => whnf) | exact trivial | (refine Ar.i (by omega) ?_; conv => whnf) | (refine call_pick hB 0 rfl (by omega) (fun r3 hr3 kr3 => ?_); replace kr3 := kr3 (by omega); conv => whnf) | refine RetS.mk (fun w' hS => ?_))
  all_goals
    exact ⟨((P, a), _), ⟨h1, h2, trivial⟩, rfl, hS.below, hS.fresh (List.Sublist.cons _ (List.Sublist.refl _))⟩
end Go.Proofs.Ytfjedjcdmaoeoaa
