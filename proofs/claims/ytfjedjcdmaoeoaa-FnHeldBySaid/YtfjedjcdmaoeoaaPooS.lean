/- slices.Delete of one held connection; conditions: none. -/
import Derived.Test.YtfjedjcdmaoeoaaPooI
import Derived.ArgAppend
set_option maxRecDepth 100000
set_option linter.unusedVariables false
set_option linter.unusedSimpArgs false
namespace Go.Proofs.Ytfjedjcdmaoeoaa
open Eng Go Go.RowKit

section
variable {w : World} {base : Nat} {e : TypeId} {size n c k : Nat} {A : Option Addr} {xs : List Value}
/-- A first part of a row, with the row's capacity. -/
theorem owns_shrink (h : owns w base e size (.slice A n c) n xs) (hc : c ≠ 0) (hk : k ≤ n) : owns w base e size (.slice A k c) k (xs.take (k * size)) := by
  refine ⟨by rw [List.length_take, h.1]; exact Nat.min_eq_left (Nat.mul_le_mul_right _ hk), ?_⟩
  rcases h.2 with ⟨h', h0⟩ | ⟨g, cap, cur, hv, hb, hg, hnc, hcm, hcs, ht⟩
  · simp only [Value.slice.injEq] at h'; omega
  · simp only [Value.slice.injEq, true_and] at hv
    obtain ⟨rfl, rfl⟩ := hv
    refine .inr ⟨g, c, cur, rfl, hb, hg, by omega, hcm, hcs, ?_⟩
    rw [← ht, List.take_take, Nat.min_eq_left (Nat.mul_le_mul_right _ hk)]
end
section
variable {C : Cx} {lb : List Box} {rs : List Own} {f : Nat} {args : Array Value}
/-- A callee that turns one row, its length too. -/
theorem CallS.updS {K : SV → List Box → List Own → Prop} {r : Value} {o o' : Own} {i : Nat} (hi : rs[i]? = some o) (hv : o'.v.ownBlock = o.v.ownBlock)
    (hc : ∀ w, C.St lb rs w → Calls C.P f args w fun e w' => e = .returned r ∧ Pres o.v.ownBlock.toList w w' ∧ owns w' 0 o'.e o'.size o'.v o'.n o'.xs)
    (k : K (.v r) lb (rs.set i o')) : CallS C lb rs f args K :=
  ⟨fun w hw => (hc w hw).mono fun e w' ⟨he, hp, ho⟩ => ⟨r, lb, _, he, SameNums.refl _, St.upd hw hi hv (S := o.v.ownBlock.toList) (fun g hg => by simpa using hg) hp ho, k⟩⟩
theorem SlcS.lhm {A : Option Addr} {n c size : Nat} {i j z : Int} {K : SV → Prop} (l h m : Nat) (hl : i = (l : Int)) (hh : j = (h : Int)) (hm : z = (m : Int)) (h1 : l ≤ h) (h2 : h ≤ m) (h3 : m ≤ c)
    (k : ∀ B, K (.v (.slice B (h - l) (m - l)))) : SlcS A n c size (some i) (some j) (some z) K := ⟨l, h, m, hl, hh, hm, h1, h2, h3, k _⟩
theorem SlcS.loE {A : Option Addr} {n c size : Nat} {i : Int} {K : SV → Prop} (l : Nat) (hl : i = (l : Int)) (hn : l ≤ n) (hc : n ≤ c)
    (k : ∀ B, B = (if c = l then A else A.map (·.add (l * size))) → K (.v (.slice B (n - l) (c - l)))) : SlcS A n c size (some i) none none K := SlcS.lo l hl hn hc (k _ rfl)
theorem SlcS.lohiS {ad : Addr} {n c size : Nat} {i j : Int} {K : SV → Prop} (l h : Nat) (hl : i = (l : Int)) (hh : j = (h : Int)) (h1 : l ≤ h) (hc : h ≤ c) (hlc : l < c) (k : K (.v (.slice (some (ad.add (l * size))) (h - l) (c - l)))) : SlcS (some ad) n c size (some i) (some j) none K :=
  SlcS.lohi l h hl hh h1 hc (by rw [if_neg (by omega)]; exact k)

/-- append in place: a part of anything onto a first part of a row, not beyond the row's end. -/
theorem SemS.appIn (hC : C.Ok) {i : Nat} {t ty e : TypeId} {ti : TI} {z1 z2 : Nat} {z3 : List Value} (hT : C.T.get t = some ⟨.slice e, z1, z2, z3⟩) (hTe : C.T.get e = some ti)
    {g n c q m d : Nat} {B : Option Addr} {xs news : List Value} (hB : ∃ ad, B = some ad) (hi : rs[i]? = some ⟨e, ti.size, .slice (some ⟨g, 0, none⟩) n c, n, xs⟩) (hr : ∀ w, C.St lb rs w → Reads w ti.size B m news) (h1 : ∀ u ∈ news, isOne u = true) (hq : q + m ≤ n) (hnc : n ≤ c) {K : SV → List Own → Prop}
    (k : K (.v (.slice (some ⟨g, 0, none⟩) (q + m) c)) (rs.set i ⟨e, ti.size, .slice (some ⟨g, 0, none⟩) n c, n, putL xs (q * ti.size) news⟩)) : SemS C lb rs (Builtin.append_ #[t, t] ty #[.slice (some ⟨g, 0, none⟩) q c, .slice B m d]) K := by
  obtain ⟨ad, rfl⟩ := hB
  refine ⟨fun w hw => ?_⟩
  obtain ⟨_, dd, _, _, hu, hd, _⟩ := (hC.tab.get hT).out
  simp only [TD.is] at hd
  subst hd
  obtain ⟨i', d', z, hinfo, hu', hd', hs, hby, hz, hzc, hzl⟩ := (hC.tab.get hTe).out
  have how := (hw.own _ (List.mem_of_getElem? hi)).1
  have hlen : xs.length = n * ti.size := how.1
  have hR := hr w hw
  have hl : news.length = m * ti.size := hR.1
  have hfit : q * ti.size + m * ti.size ≤ n * ti.size := by rw [← Nat.add_mul]; exact Nat.mul_le_mul_right _ hq
  have hcell : ∀ j, j < news.length → (w.cell? ⟨g, q * ti.size + j, none⟩).isSome = true := by
    intro j hj
    have hjn : q * ti.size + j < xs.length := by omega
    have := how.cells (g := g) rfl (q * ti.size + j) xs[q * ti.size + j] (List.getElem?_eq_getElem hjn)
    rw [add_none, Nat.zero_add] at this
    rw [this]; rfl
  have hnews : ∀ j u, news[j]? = some u → w.cell? (ad.add j) = some u := fun j u hju => by
    have hj := (List.getElem?_eq_some_iff.1 hju).1
    have hm : 0 < m := by
      rcases Nat.eq_zero_or_pos m with h0 | h0
      · rw [h0] at hl; omega
      · exact h0
    obtain ⟨ad', e', hc⟩ := hR.2 hm
    simp only [Option.some.injEq] at e'
    subst e'
    exact hc j u hju
  have hrun := run_append_room_cells (P := C.P) w t ty e i' hu hinfo g 0 q c ad m d news (by rw [hs]; exact hl) hnews (fun u hu => by rw [← isOne_one]; exact h1 u hu) (by omega)
    (fun j hj => by rw [hs, Nat.zero_add]; exact hcell j hj) (fun j _ => how.frozenAt _)
  rw [hs, Nat.zero_add] at hrun
  exact ⟨_, _, _, hrun, St.upd hw hi (o' := ⟨e, ti.size, .slice (some ⟨g, 0, none⟩) n c, n, putL xs (q * ti.size) news⟩) (S := [g]) rfl (by simp [Value.ownBlock]) (pres_setCells g _ _ w) (how.storedL _ xs _ w), k⟩
end

theorem zero_hold : ∀ w : World, (zeroValue 41).run Try.prog w = .ok (.agg #[.int .i64 0, .int .i64 0]) w := by
  have h : (Try.prog.info? 41).map (·.zero) = some (some (.agg #[.int .i64 0, .int .i64 0])) := by as_aux_lemma => kernel_rfl
  intro w
  cases hi : Try.prog.info? 41 with
  | none => rw [hi] at h; simp at h
  | some i => rw [hi] at h; simp at h; simp [zeroValue, typeInfo, hi, h]
theorem putL_take : ∀ (vs xs : List Value) (j : Nat), (putL xs j vs).take j = xs.take j
  | [], xs, j => rfl
  | v :: vs, xs, j => by
    have h := putL_take vs (xs.set j v) (j + 1)
    have h2 := congrArg (List.take j) h
    rw [List.take_take, List.take_take, Nat.min_eq_left (by omega)] at h2
    rw [putL, h2, List.take_set_of_le (Nat.le_refl _)]
theorem SemS.clearH {w0 : World} {S0 : List Nat} {lb : List Box} {rs : List Own} {i g n c lo m d : Nat} {ty : TypeId} {xs : List Value} {K : SV → List Own → Prop} (hi : rs[i]? = some ⟨41, 2, .slice (some ⟨g, 0, none⟩) n c, n, xs⟩) (hm : 0 < m) (hlm : lo + m * 2 ≤ n * 2)
    (k : ∀ zs : List Value, K (.v (.tuple #[])) (rs.set i ⟨41, 2, .slice (some ⟨g, 0, none⟩) n c, n, putL xs lo zs⟩)) :
    SemS (cxS w0 S0) lb rs (Builtin.clear_ #[24] ty #[.slice (some ((⟨g, 0, none⟩ : Addr).add lo)) m d]) K := by
  refine ⟨fun w hw => ?_⟩
  have how := (hw.own _ (List.mem_of_getElem? hi)).1
  have hlen : xs.length = n * 2 := how.1
  obtain ⟨zs, hzs⟩ : ∃ zs, zs = (Builtin.zeroCells #[.int .i64 0, .int .i64 0] m).toList := ⟨_, rfl⟩
  have hzl : zs.length = m * 2 := by rw [hzs]; simp [Builtin.zeroCells]
  have hz1 : ∀ v ∈ zs, v.oneCell' = true := by
    intro v hv
    rw [hzs] at hv
    simp only [Builtin.zeroCells, Array.toList_map, List.mem_map] at hv
    obtain ⟨q, _, rfl⟩ := hv
    have : q % 2 = 0 ∨ q % 2 = 1 := by omega
    rcases this with h | h
    · simp [h, Value.oneCell']
    · simp [h, Value.oneCell']
  have hc : ∀ j, j < zs.length → (w.cell? ⟨g, lo + 0 + j, none⟩).isSome = true := by
    intro j hj
    have hjn : lo + j < xs.length := by omega
    have := how.cells (g := g) rfl (lo + j) xs[lo + j] (List.getElem?_eq_getElem hjn)
    rw [add_none, Nat.zero_add] at this
    rw [Nat.add_zero, this]; rfl
  have hst := run_storeCells_cells (P := Try.prog) g lo zs 0 w hc (fun j _ => by rw [Nat.add_zero]; exact how.frozenAt (lo + j)) hz1
  rw [Nat.add_zero] at hst
  obtain ⟨m, rfl⟩ : ∃ m', m = m' + 1 := ⟨m - 1, by omega⟩
  have hrun : (Builtin.clear_ #[24] ty #[.slice (some ⟨g, lo, none⟩) (m + 1) d]).run Try.prog w = .ok (.tuple #[]) (w.setCells g lo zs) := by
    have hcells : (Value.agg #[.int .i64 0, .int .i64 0]).cells = #[.int .i64 0, .int .i64 0] := rfl
    simp only [Builtin.clear_]
    simp [run_underlying Try.underlying24, zero_hold, hcells, ← hzs, hst]
  rw [add_none, Nat.zero_add]
  exact ⟨_, _, _, hrun, St.upd hw hi (o' := ⟨41, 2, .slice (some ⟨g, 0, none⟩) n c, n, putL xs lo zs⟩) (S := [g]) rfl (by simp [Value.ownBlock]) (pres_setCells g _ lo w) (how.storedL _ xs lo w), k zs⟩

/-- The cells behind the deletion. -/
theorem del_cells {l : List HoldD} {j : Nat} (hj : j < l.length) (zs : List Value) :
    (putL (putL (l.flatMap holdV) (j * 2) ((l.drop (j + 1)).flatMap holdV)) ((l.length - 1) * 2) zs).take ((l.length - 1) * 2) = (l.eraseIdx j).flatMap holdV := by
  rw [putL_take, List.eraseIdx_eq_take_drop_succ, List.flatMap_append]
  have hP : ((l.take j).flatMap holdV).length = j * 2 := flat_take_len holdV_len (by omega)
  have hV : ((l.drop (j + 1)).flatMap holdV).length = (l.length - (j + 1)) * 2 := by rw [flat_len holdV_len, List.length_drop]
  have hD : ((l.drop j).flatMap holdV).length = (l.length - j) * 2 := by rw [flat_len holdV_len, List.length_drop]
  have e : l.flatMap holdV = (l.take j).flatMap holdV ++ (((l.drop j).flatMap holdV).take ((l.length - (j + 1)) * 2) ++ ((l.drop j).flatMap holdV).drop ((l.length - (j + 1)) * 2)) := by
    rw [List.take_append_drop, ← List.flatMap_append, List.take_append_drop]
  have h1 := putL_mid ((l.drop (j + 1)).flatMap holdV) (((l.drop j).flatMap holdV).take ((l.length - (j + 1)) * 2)) ((l.take j).flatMap holdV) (((l.drop j).flatMap holdV).drop ((l.length - (j + 1)) * 2)) (by rw [List.length_take, hV, hD]; omega)
  rw [← e, hP] at h1
  rw [h1, ← List.append_assoc, List.take_append_of_le_length (by rw [List.length_append, hP, hV]; omega), List.take_of_length_le (by rw [List.length_append, hP, hV]; omega)]

theorem deleteH_any {A : Option Addr} {n c : Nat} {l : List HoldD} {j : Nat} (w : World) (hn : n ≤ 2000000) (hj : j < n)
    (ho : owns w 0 41 2 (rowOf 41 2 A n c (l.flatMap holdV)).v n (l.flatMap holdV)) :
    Calls Try.prog 61 #[.slice A n c, .int .i64 (j : Int), .int .i64 ((j : Int) + 1)] w fun e w' => e = .returned (.slice A (n - 1) c) ∧ Pres (rowOf 41 2 A n c (l.flatMap holdV)).v.ownBlock.toList w w' ∧ owns w' 0 41 2 (rowOf 41 2 A (n - 1) c ((l.eraseIdx j).flatMap holdV)).v (n - 1) ((l.eraseIdx j).flatMap holdV) := by
  have hlen : l.length = n := by have := ho.1; rw [flat_len holdV_len] at this; omega
  rcases rowOf_owns (A := A) (n := n) (c := c) (xs := l.flatMap holdV) ho with ⟨_, h0, _⟩ | ⟨g0, rfl, hc, he, ho'⟩
  · omega
  rw [he, rowOf_some hc]
  have hcap := ho'.le_cap
  refine enter (C := cxS w [g0]) (okS w [g0]) (St.startRow (o := ⟨41, 2, .slice (some ⟨g0, 0, none⟩) n c, n, l.flatMap holdV⟩) ho') Try.func61 rfl rfl ?_
  conv => whnf
  refine SlcS.lhm j (j + 1) n rfl (by omega) rfl (by omega) (by omega) hcap (fun _ => ?_)
  conv => whnf
  refine Sp.mk (fun h => absurd h (by omega)) (fun _ => ?_)
  conv => whnf
  refine DrawS.plan (.first 0 (.first 1 (.first 2 (.first 3 (.first 4 (.first 5 (.one 6 (.first 7 (.done))))))))) (by as_aux_lemma => kernel_rfl) [] [] (LbTo.refl_nil _) (RsTo.sub (List.nil_sublist _)) ?_
  conv => whnf
  refine SlcS.hi j rfl (by omega) ?_
  conv => whnf
  refine SlcS.loE (j + 1) (by omega) (by omega) hcap (fun B hB => ?_)
  conv => whnf
  refine SemS.appIn (okS w [g0]) (i := 0) (n := n) (q := j) (m := n - (j + 1)) (news := (l.drop (j + 1)).flatMap holdV) rfl rfl (by rw [hB]; split <;> exact ⟨_, rfl⟩) rfl (fun w' hw => ?_) (holdL_one _) (by omega) hcap ?_
  · have h3 := (hw.row (List.mem_of_getElem? (i := 0) rfl)).cut (l := j + 1) (hh := n) (m := c) (by omega) (Nat.le_refl _) hcap
    have e : ((l.flatMap holdV).drop ((j + 1) * 2)).take ((n - (j + 1)) * 2) = (l.drop (j + 1)).flatMap holdV := by
      rw [flat_drop holdV_len (l := l) (k := j + 1) (by omega), List.take_of_length_le (by rw [flat_len holdV_len, List.length_drop]; omega)]
    rw [e] at h3
    rw [hB]
    exact h3
  have e1 : j + (n - (j + 1)) = n - 1 := by omega
  rw [e1]
  conv => whnf
  refine StS.mk rfl (RsTo.sub (List.nil_sublist _)) ?_
  conv => whnf
  refine SlcS.lohiS (n - 1) n rfl rfl (by omega) hcap (by omega) ?_
  conv => whnf
  refine SemS.clearH (i := 0) (n := n) (c := c) (lo := (n - 1) * 2) (m := n - (n - 1)) rfl (by omega) (by omega) (fun zs => ?_)
  conv => whnf
  (repeat' (first | (refine Sp.mk (fun hs => ?_) (fun hs => ?_) <;> first | (exfalso; omega) | (conv => whnf)) | (refine Ar.i (by omega) ?_; conv => whnf) | (refine NewS.mk (fun _ => ?_); conv => whnf) | (refine QuoS.nn (by omega) ?_; conv => whnf) | (refine RemS.nn (by omega) ?_; conv => whnf) | refine RetS.mk (fun w' hS => ?_)))
  refine ⟨rfl, hS.pres, ?_⟩
  have how := owns_shrink (hS.own _ (List.mem_singleton.2 rfl)).1 hc (k := n - 1) (by omega)
  have e2 := del_cells (l := l) (j := j) (by omega) zs
  rw [hlen] at e2
  dsimp only at how
  rw [← e2]
  exact how
end Go.Proofs.Ytfjedjcdmaoeoaa
