/- Marks on pools; conditions: none. -/
import Derived.Test.YtfjedjcdmaoeoaaPooF
set_option maxRecDepth 100000
set_option linter.unusedVariables false
set_option linter.unusedSimpArgs false
namespace Go.Proofs.Ytfjedjcdmaoeoaa
open Eng Go Go.RowKit

section
variable {w w' : World} {lb : List Box} {rs : List Own}
theorem St.startRows {os : List Own} (h : ∀ o ∈ os, owns w 0 o.e o.size o.v o.n o.xs) (hd : (os.filterMap (·.v.ownBlock)).Nodup) : Eng.St w (os.filterMap (·.v.ownBlock)) [] os w :=
  ⟨rfl, rfl, rfl, Nat.le_refl _, fun _ _ _ => rfl, fun i b hb => by simp at hb, fun o ho => ⟨h o ho, fun g hg => .inr (List.mem_filterMap.2 ⟨o, ho, hg⟩)⟩, by simpa using hd⟩
theorem St.updMid {w0 : World} {S0 : List Nat} {pre os os' post : List Own} (hS : Eng.St w0 S0 lb (pre ++ os ++ post) w) {S : List Nat} (hb : os'.filterMap (·.v.ownBlock) = os.filterMap (·.v.ownBlock)) (hSb : ∀ g ∈ S, g ∈ os.filterMap (·.v.ownBlock)) (hp : Pres S w w')
    (ho' : ∀ o ∈ os', owns w' 0 o.e o.size o.v o.n o.xs) : Eng.St w0 S0 lb (pre ++ os' ++ post) w' := by
  have hd := hS.disj
  have hfm : (pre ++ os' ++ post).filterMap (·.v.ownBlock) = (pre ++ os ++ post).filterMap (·.v.ownBlock) := by simp only [List.filterMap_append, hb]
  have hall : ∀ g ∈ S, g ∈ (pre ++ os ++ post).filterMap (·.v.ownBlock) := fun g hg => by
    rw [List.filterMap_append, List.filterMap_append]
    exact List.mem_append_left _ (List.mem_append_right _ (hSb g hg))
  have hnotS : ∀ g ∈ S, g ∉ lb.map (·.blk) := by
    intro g hg hm
    rw [List.nodup_append] at hd
    exact hd.2.2 g hm g (hall g hg) rfl
  have other : ∀ o2, o2 ∈ pre ∨ o2 ∈ post → owns w' 0 o2.e o2.size o2.v o2.n o2.xs ∧ (∀ g, o2.v.ownBlock = some g → w0.heap.size ≤ g ∨ g ∈ S0) := by
    intro o2 h2
    obtain ⟨h1, h3⟩ := hS.own o2 (by rcases h2 with h | h <;> simp [h])
    refine ⟨⟨h1.1, ?_⟩, h3⟩
    rcases h1.2 with hn | ⟨g, cap, cur, hv2, hb2, hg2, hr2⟩
    · exact .inl hn
    · refine .inr ⟨g, cap, cur, hv2, hb2, ?_, hr2⟩
      rw [hp.block g (heap_lt hg2) (fun hs => ?_)]
      · exact hg2
      · have e2 : o2.v.ownBlock = some g := by rw [hv2]; rfl
        rw [List.nodup_append] at hd
        have hnd := hd.2.1
        rw [List.filterMap_append, List.filterMap_append, List.nodup_append, List.nodup_append] at hnd
        rcases h2 with h | h
        · exact hnd.1.2.2 g (List.mem_filterMap.2 ⟨o2, h, e2⟩) g (hSb g hs) rfl
        · exact hnd.2.2 g (List.mem_append_right _ (hSb g hs)) g (List.mem_filterMap.2 ⟨o2, h, e2⟩) rfl
  refine ⟨hp.os.trans hS.os, hp.tape.trans hS.tape, hp.output.trans hS.output, Nat.le_trans hS.size hp.size, fun k hk hn => ?_, fun j b hb => ?_, fun o2 ho2 => ?_, by rw [hfm]; exact hd⟩
  · rw [hp.block k (Nat.lt_of_lt_of_le hk hS.size) (fun hs => ?_), hS.old k hk hn]
    obtain ⟨o, hom, hob⟩ := List.mem_filterMap.1 (hall k hs)
    rcases (hS.own o hom).2 k hob with h | h
    · omega
    · exact hn h
  · obtain ⟨h1, h2, h3⟩ := hS.box j b hb
    refine ⟨?_, h2, h3⟩
    rw [hp.block _ (heap_lt h1) (fun hs => hnotS _ hs (List.mem_map.2 ⟨b, List.mem_of_getElem? hb, rfl⟩))]
    exact h1
  · simp only [List.mem_append] at ho2
    rcases ho2 with (h | h) | h
    · exact other o2 (.inl h)
    · refine ⟨ho' o2 h, fun g hg => ?_⟩
      have hm : g ∈ os'.filterMap (·.v.ownBlock) := List.mem_filterMap.2 ⟨o2, h, hg⟩
      rw [hb] at hm
      obtain ⟨o, ho, hob⟩ := List.mem_filterMap.1 hm
      exact (hS.own o (by simp [ho])).2 g hob
    · exact other o2 (.inr h)
theorem CallS.updMid {C : Cx} {f : Nat} {args : Array Value} {K : SV → List Box → List Own → Prop} {r : Value} {pre os os' post : List Own} (hrs : rs = pre ++ os ++ post) (hb : os'.filterMap (·.v.ownBlock) = os.filterMap (·.v.ownBlock))
    (hc : ∀ w, C.St lb rs w → Calls C.P f args w fun e w' => e = .returned r ∧ Pres (os.filterMap (·.v.ownBlock)) w w' ∧ ∀ o ∈ os', owns w' 0 o.e o.size o.v o.n o.xs)
    (k : K (.v r) lb (pre ++ os' ++ post)) : CallS C lb rs f args K := by
  subst hrs
  exact ⟨fun w hw => (hc w hw).mono fun e w' ⟨he, hp, ho⟩ => ⟨r, lb, _, he, SameNums.refl _, St.updMid hw hb (fun g hg => hg) hp ho, k⟩⟩
end

theorem set2H (P tl : List Value) (m : Nat) (hP : P.length = m) (h2 : 2 ≤ tl.length) {u v : Value} : ((P ++ tl).set (m + 0) u).set (m + 1) v = P ++ [u, v] ++ tl.drop 2 := by
  subst hP
  match tl, h2 with
  | a :: b :: tl, _ => simp [List.set_append_right]
theorem up2 (k0 : Int) (k : Nat) : i64s (up k0 (2 * (k + 1))) = i64s (up k0 (2 * k)) ++ [.int .i64 (k0 + 2 * k), .int .i64 (k0 + 2 * k + 1)] := by
  have e0 : k0 + ((2 * k : Nat) : Int) = k0 + 2 * (k : Int) := by omega
  have e1 : k0 + ((2 * k + 1 : Nat) : Int) = k0 + 2 * (k : Int) + 1 := by omega
  rw [show 2 * (k + 1) = 2 * k + 1 + 1 by omega, up_snoc, up_snoc, e0, e1]
  simp [i64s]
theorem markHold_any {A : Option Addr} {n c : Nat} {xs : List Value} (k0 : Int) (h0 : 0 ≤ k0 ∧ k0 ≤ 100000000) (w : World) (hn : n ≤ 2000000)
    (ho : owns w 0 41 2 (rowOf 41 2 A n c xs).v n xs) :
    Calls Try.prog 70 #[.slice A n c, .int .i64 k0] w fun e w' => e = .returned (.int .i64 (k0 + 2 * n)) ∧ Pres (rowOf 41 2 A n c xs).v.ownBlock.toList w w' ∧ owns w' 0 41 2 (rowOf 41 2 A n c xs).v n (i64s (up k0 (2 * n))) := by
  have hlen : xs.length = n * 2 := ho.1
  rcases rowOf_owns (A := A) (n := n) (c := c) (xs := xs) ho with ⟨rfl, rfl, rfl⟩ | ⟨g0, rfl, hc, he, ho'⟩
  · refine enter (C := cxS w []) (okS w []) (St.start w) Try.func70 rfl rfl ?_; conv => whnf
    refine LoopS.same (okS w []) [(1, 1), (5, 25)] [1, 5] rfl (fun k : Nat => [I64 k0, I64 k]) (fun k => k = 0) (fun k => k) 0 rfl ⟨rfl, rfl, trivial⟩ (LbTo.refl_nil _) (fun k g hk => ?_)
    subst hk
    conv => whnf
    (repeat' (first | (refine Sp.mk (fun hs => ?_) (fun hs => ?_) <;> first | (exfalso; omega) | (conv => whnf)) | (refine Ar.i (by omega) ?_; conv => whnf) | (refine NewS.mk (fun _ => ?_); conv => whnf) | (refine QuoS.nn (by omega) ?_; conv => whnf) | (refine RemS.nn (by omega) ?_; conv => whnf) | (refine QuietS.mk (by as_aux_lemma => kernel_rfl) ?_; conv => whnf) | refine RetS.mk (fun w' hS => ?_)))
    refine ⟨by simp, ?_, owns_nil _ _ _ _⟩
    have := hS.pres
    simpa [rowOf_zero, Value.ownBlock] using this
  · rw [he]
    refine enter (C := cxS w [g0]) (okS w [g0]) (St.startRow (o := ⟨41, 2, .slice (some ⟨g0, 0, none⟩) n c, n, xs⟩) ho') Try.func70 rfl rfl ?_
    conv => whnf
    refine LoopS.rows (okS w [g0]) [(1, 1), (5, 25)] [1, 5] rfl (fun s : Nat × List Value => [I64 (k0 + 2 * s.1), I64 s.1]) (fun s => [⟨41, 2, .slice (some ⟨g0, 0, none⟩) n c, n, i64s (up k0 (2 * s.1)) ++ s.2⟩]) (fun s => s.1 ≤ n ∧ s.2.length = (n - s.1) * 2) (fun s => n - s.1) (0, xs) ⟨by omega, by simpa using hlen⟩ ⟨congrArg (fun z => SV.v (Value.int .i64 z)) (show k0 = k0 + 2 * ((0 : Nat) : Int) by simp), rfl, trivial⟩ (LbTo.refl_nil _) (by simpa [up, i64s] using RsTo.refl _) (fun s g ⟨hk, hI⟩ => ?_)
    obtain ⟨k, tl⟩ := s
    dsimp only at hk hI ⊢
    have hP : (i64s (up k0 (2 * k))).length = k * 2 := by rw [i64s_len, up_length]; omega
    conv => whnf
    refine Sp.mk (fun h => ?_) (fun h => ?_) <;> conv => whnf
    · have hlt : k * 2 + 1 < (i64s (up k0 (2 * k)) ++ tl).length := by rw [List.length_append, hP]; omega
      refine IdxS.at_ k rfl rfl (by omega) ?_
      conv => whnf
      refine SemU.own (okS w [g0]) (i := 0) rfl (t := 3) rfl rfl (k * 2 + 0) (add_add _ _ _) (by omega) rfl ?_
      conv => whnf
      (repeat' (first | (refine Sp.mk (fun hs => ?_) (fun hs => ?_) <;> first | (exfalso; omega) | (conv => whnf)) | (refine Ar.i (by omega) ?_; conv => whnf) | (refine NewS.mk (fun _ => ?_); conv => whnf) | (refine QuoS.nn (by omega) ?_; conv => whnf) | (refine RemS.nn (by omega) ?_; conv => whnf) | (refine QuietS.mk (by as_aux_lemma => kernel_rfl) ?_; conv => whnf) | refine RetS.mk (fun w' hS => ?_)))
      refine IdxS.at_ k rfl rfl (by omega) ?_
      conv => whnf
      refine SemU.own (okS w [g0]) (i := 0) rfl (t := 3) rfl rfl (k * 2 + 1) (add_add _ _ _) (by rw [List.length_set]; omega) rfl ?_
      conv => whnf
      (repeat' (first | (refine Sp.mk (fun hs => ?_) (fun hs => ?_) <;> first | (exfalso; omega) | (conv => whnf)) | (refine Ar.i (by omega) ?_; conv => whnf) | (refine NewS.mk (fun _ => ?_); conv => whnf) | (refine QuoS.nn (by omega) ?_; conv => whnf) | (refine RemS.nn (by omega) ?_; conv => whnf) | (refine QuietS.mk (by as_aux_lemma => kernel_rfl) ?_; conv => whnf) | refine RetS.mk (fun w' hS => ?_)))
      refine ⟨(k + 1, tl.drop 2), ⟨by dsimp only; omega, by rw [List.length_drop]; dsimp only; omega⟩, by dsimp only; omega, ⟨congrArg (fun z => SV.v (Value.int .i64 z)) (show k0 + 2 * (k : Int) + 1 + 1 = k0 + 2 * ((k + 1 : Nat) : Int) by omega), rfl, trivial⟩, LbTo.refl_nil _, ?_⟩
      dsimp only [List.set]
      rw [set2H _ tl _ hP (by omega), up2]
      exact RsTo.refl _
    · have hkn : k = n := by omega
      have htl : tl = [] := List.eq_nil_of_length_eq_zero (by rw [hI]; omega)
      subst htl
      subst hkn
      (repeat' (first | (refine Sp.mk (fun hs => ?_) (fun hs => ?_) <;> first | (exfalso; omega) | (conv => whnf)) | (refine Ar.i (by omega) ?_; conv => whnf) | (refine NewS.mk (fun _ => ?_); conv => whnf) | (refine QuoS.nn (by omega) ?_; conv => whnf) | (refine RemS.nn (by omega) ?_; conv => whnf) | (refine QuietS.mk (by as_aux_lemma => kernel_rfl) ?_; conv => whnf) | refine RetS.mk (fun w' hS => ?_)))
      refine ⟨rfl, hS.pres, ?_⟩
      have := (hS.own _ (List.mem_singleton.2 rfl)).1
      simpa using this

theorem heldHold_any {A : Option Addr} {n c : Nat} (k0 : Int) (h0 : 0 ≤ k0 ∧ k0 ≤ 100000000) (w : World) (hn : n ≤ 2000000) (hr : Reads w 2 A n (i64s (up k0 (2 * n)))) :
    Calls Try.prog 72 #[.slice A n c, .int .i64 k0] w fun e w' => e = .returned (.int .i64 (k0 + 2 * n)) ∧ Below w.heap.size w w' := by
  refine enter (C := cxS w []) (okS w []) (St.start w) Try.func72 rfl rfl ?_; conv => whnf
  refine LoopS.same (okS w []) [(1, 1), (4, 29)] [1, 5] rfl (fun k : Nat => [I64 (k0 + 2 * k), I64 k]) (fun k => k ≤ n) (fun k => n - k) 0 (by omega) ⟨congrArg (fun z => SV.v (Value.int .i64 z)) (show k0 = k0 + 2 * ((0 : Nat) : Int) by simp), rfl, trivial⟩ (LbTo.refl_nil _) (fun k g hk => ?_)
  conv => whnf
  refine Sp.mk (fun h => ?_) (fun h => ?_) <;> conv => whnf
  · obtain ⟨ad, rfl, hc⟩ := hr.2 (by omega)
    have hcell : ∀ j : Nat, j < 2 → w.cell? ((ad.add (k * 2)).add j) = some (.int .i64 (k0 + 2 * k + j)) := fun j hj => by
      rw [add_add]
      refine hc _ _ ?_
      rw [i64s, List.getElem?_map, up_at (by omega)]
      simp only [Option.map_some, Option.some.injEq, Value.int.injEq, true_and]
      omega
    refine IdxS.at_ k rfl rfl (by omega) ?_
    conv => whnf
    refine LdS.at_ (fun w' hS => hS.cell0 (hcell 0 (by omega))) ?_
    conv => whnf
    refine Sp.mk (fun h2 => ?_) (fun h2 => absurd (by simp; try omega) h2) <;> conv => whnf
    (repeat' (first | (refine Sp.mk (fun hs => ?_) (fun hs => ?_) <;> first | (exfalso; omega) | (conv => whnf)) | (refine Ar.i (by omega) ?_; conv => whnf) | (refine NewS.mk (fun _ => ?_); conv => whnf) | (refine QuoS.nn (by omega) ?_; conv => whnf) | (refine RemS.nn (by omega) ?_; conv => whnf) | (refine QuietS.mk (by as_aux_lemma => kernel_rfl) ?_; conv => whnf) | refine RetS.mk (fun w' hS => ?_)))
    refine IdxS.at_ k rfl rfl (by omega) ?_
    conv => whnf
    refine LdS.at_ (fun w' hS => hS.cell0 (hcell 1 (by omega))) ?_
    conv => whnf
    refine Sp.mk (fun h2 => ?_) (fun h2 => absurd (by simp; try omega) h2) <;> conv => whnf
    (repeat' (first | (refine Sp.mk (fun hs => ?_) (fun hs => ?_) <;> first | (exfalso; omega) | (conv => whnf)) | (refine Ar.i (by omega) ?_; conv => whnf) | (refine NewS.mk (fun _ => ?_); conv => whnf) | (refine QuoS.nn (by omega) ?_; conv => whnf) | (refine RemS.nn (by omega) ?_; conv => whnf) | (refine QuietS.mk (by as_aux_lemma => kernel_rfl) ?_; conv => whnf) | refine RetS.mk (fun w' hS => ?_)))
    exact ⟨k + 1, by omega, by omega, ⟨congrArg (fun z => SV.v (Value.int .i64 z)) (show k0 + 2 * (k : Int) + 1 + 1 = k0 + 2 * ((k + 1 : Nat) : Int) by omega), rfl, trivial⟩, LbTo.refl_nil _, RsTo.refl _⟩
  · (repeat' (first | (refine Sp.mk (fun hs => ?_) (fun hs => ?_) <;> first | (exfalso; omega) | (conv => whnf)) | (refine Ar.i (by omega) ?_; conv => whnf) | (refine NewS.mk (fun _ => ?_); conv => whnf) | (refine QuoS.nn (by omega) ?_; conv => whnf) | (refine RemS.nn (by omega) ?_; conv => whnf) | (refine QuietS.mk (by as_aux_lemma => kernel_rfl) ?_; conv => whnf) | refine RetS.mk (fun w' hS => ?_)))
    have hkn : k = n := by omega
    subst hkn
    exact ⟨rfl, hS.below⟩


theorem call_markH {w0 : World} {S0 : List Nat} {lb : List Box} {rs : List Own} {K : SV → List Box → List Own → Prop} {A : Option Addr} {n c : Nat} {xs : List Value} {k0 : Int} (i : Nat) (hi : rs[i]? = some (rowOf 41 2 A n c xs)) (h0 : 0 ≤ k0 ∧ k0 ≤ 100000000) (hn : n ≤ 2000000)
    (kk : K (.v (.int .i64 (k0 + 2 * n))) lb (rs.set i (rowOf 41 2 A n c (i64s (up k0 (2 * n)))))) :
    memN (cxS w0 S0).F 70 = true ∧ CallS (cxS w0 S0) lb rs 70 #[.slice A n c, .int .i64 k0] K :=
  ⟨rfl, CallS.updR (α := Unit) (r := fun _ => .int .i64 (k0 + 2 * n)) (φ := fun _ => True) (ys := fun _ => i64s (up k0 (2 * n))) hi (fun w hS => (markHold_any k0 h0 w hn (hS.own _ (List.mem_of_getElem? hi)).1).mono fun e w' ⟨h1, h2, h3⟩ => ⟨(), trivial, h1, h2, h3⟩) (fun _ _ => kk)⟩
def mRows (p : PoolD) (a : PAd) (k0 : Int) : List Own := [rowOf 3 1 a.i p.i.length a.ci (i64s (up k0 p.i.length)), rowOf 41 2 a.h p.h.length a.ch (i64s (up (k0 + p.i.length) (2 * p.h.length))), rowOf 3 1 a.w p.w.length a.cw (i64s (up (k0 + p.i.length + 2 * p.h.length) p.w.length))]
theorem markPool_any {p : PoolD} {a : PAd} (k0 : Int) (h0 : 0 ≤ k0 ∧ k0 ≤ 1000) (hle : PoolLe p) (w : World) (ho : ∀ o ∈ pRows p a, owns w 0 o.e o.size o.v o.n o.xs) (hd : ((pRows p a).filterMap (·.v.ownBlock)).Nodup) :
    Calls Try.prog 41 #[.agg (poolV p a).toArray, .int .i64 k0] w fun e w' => e = .returned (.int .i64 (k0 + p.i.length + 2 * p.h.length + p.w.length)) ∧ Pres ((pRows p a).filterMap (·.v.ownBlock)) w w' ∧ ∀ o ∈ mRows p a k0, owns w' 0 o.e o.size o.v o.n o.xs := by
  have l1 := hle.i
  have l2 := hle.h
  have l3 := hle.w
  refine enter (C := cxS w ((pRows p a).filterMap (·.v.ownBlock))) (okS w _) (St.startRows ho hd) Try.func41 rfl rfl ?_
  conv => whnf
  refine NewS.mk (fun g0 => ?_)
  conv => whnf
  refine call_markI 0 rfl (by omega) l1 ?_
  conv => whnf
  refine call_markH 1 rfl (by omega) l2 ?_
  conv => whnf
  refine call_markI 2 rfl (by omega) l3 ?_
  conv => whnf
  (repeat' (first | (refine Sp.mk (fun hs => ?_) (fun hs => ?_) <;> first | (exfalso; omega) | (conv => whnf)) | (refine Ar.i (by omega) ?_; conv => whnf) | (refine NewS.mk (fun _ => ?_); conv => whnf) | (refine QuoS.nn (by omega) ?_; conv => whnf) | (refine RemS.nn (by omega) ?_; conv => whnf) | refine RetS.mk (fun w' hS => ?_)))
  exact ⟨rfl, hS.pres, fun o hoo => (hS.own o hoo).1⟩
theorem call_markPool {w0 : World} {S0 : List Nat} {lb : List Box} {rs pre post : List Own} {K : SV → List Box → List Own → Prop} {p : PoolD} {a : PAd} {k0 : Int} (hrs : rs = pre ++ pRows p a ++ post) (h0 : 0 ≤ k0 ∧ k0 ≤ 1000) (hle : PoolLe p)
    (kk : K (.v (.int .i64 (k0 + p.i.length + 2 * p.h.length + p.w.length))) lb (pre ++ mRows p a k0 ++ post)) :
    memN (cxS w0 S0).F 41 = true ∧ CallS (cxS w0 S0) lb rs 41 #[.agg (poolV p a).toArray, .int .i64 k0] K :=
  ⟨rfl, CallS.updMid (os := pRows p a) (os' := mRows p a k0) hrs rfl (fun w hS => markPool_any (a := a) k0 h0 hle w (fun o ho => (hS.own o (by rw [hrs]; simp [ho])).1) (by
    have hd := hS.disj
    rw [hrs, List.nodup_append, List.filterMap_append, List.filterMap_append, List.nodup_append, List.nodup_append] at hd
    exact hd.2.1.1.2.1)) kk⟩
end Go.Proofs.Ytfjedjcdmaoeoaa
