/- Rows put otherwise, rows that may be empty, stores of structs; conditions: none. -/
import Derived.Test.YtfjedjcdmaoeoaaUse
set_option linter.unusedVariables false
set_option linter.unusedSimpArgs false
namespace Go.Proofs.Ytfjedjcdmaoeoaa.Eng
open Go Go.RowKit

section
variable {C : Cx} {lb : List Box} {rs : List Own} {f : Nat} {args : Array Value} {K : SV → List Box → List Own → Prop} {w w' : World}

/-! ### A row put otherwise -/
theorem St.reput {w0 : World} {S0 : List Nat} (h : Eng.St w0 S0 lb rs w) {i : Nat} {o o' : Own} (hi : rs[i]? = some o) (ho : owns w 0 o'.e o'.size o'.v o'.n o'.xs)
    (hb : o'.v.ownBlock = none ∨ o'.v.ownBlock = o.v.ownBlock) : Eng.St w0 S0 lb (rs.set i o') w := by
  refine ⟨h.os, h.tape, h.output, h.size, h.old, h.box, fun o2 ho2 => ?_, ?_⟩
  · rcases List.mem_or_eq_of_mem_set ho2 with hm | rfl
    · exact h.own o2 hm
    · refine ⟨ho, fun g hg => ?_⟩
      rcases hb with hb | hb
      · rw [hb] at hg; cases hg
      · exact (h.own o (List.mem_of_getElem? hi)).2 g (by rw [← hb]; exact hg)
  · refine List.Nodup.sublist (List.Sublist.append (List.Sublist.refl _) ?_) h.disj
    have key : ∀ (l : List Own) (i : Nat), l[i]? = some o → ((l.set i o').filterMap (·.v.ownBlock)).Sublist (l.filterMap (·.v.ownBlock)) := by
      intro l
      induction l with
      | nil => intro i h; simp at h
      | cons x l ih =>
        intro i h
        cases i with
        | zero =>
          simp at h
          subst h
          simp only [List.set_cons_zero, List.filterMap_cons]
          rcases hb with hb | hb
          · simp only [hb]
            split
            · exact List.Sublist.refl _
            · exact List.sublist_cons_self _ _
          · rw [hb]; exact List.Sublist.refl _
        | succ i =>
          simp at h
          simp only [List.set_cons_succ, List.filterMap_cons]
          split
          · exact ih i h
          · exact (ih i h).cons_cons _
    exact key rs i hi
theorem RsTo.at_ {i : Nat} {o o' : Own} (hi : rs[i]? = some o) (ho : ∀ w : World, owns w 0 o.e o.size o.v o.n o.xs → owns w 0 o'.e o'.size o'.v o'.n o'.xs)
    (hb : o'.v.ownBlock = none ∨ o'.v.ownBlock = o.v.ownBlock) : RsTo rs (rs.set i o') := fun w0 S0 lb w h => h.reput hi (ho w (h.own o (List.mem_of_getElem? hi)).1) hb

/-- A row, or an empty slice without room (whose address is of no account). -/
def rowOf (e : TypeId) (size : Nat) (A : Option Addr) (n c : Nat) (xs : List Value) : Own := ⟨e, size, if c = 0 then .slice none 0 0 else .slice A n c, n, xs⟩
theorem rowOf_some {e : TypeId} {size n c : Nat} {A : Option Addr} {xs : List Value} (h : c ≠ 0) : rowOf e size A n c xs = ⟨e, size, .slice A n c, n, xs⟩ := by simp [rowOf, h]
theorem rowOf_zero {e : TypeId} {size n : Nat} {A : Option Addr} {xs : List Value} : rowOf e size A n 0 xs = ⟨e, size, .slice none 0 0, n, xs⟩ := by simp [rowOf]
section
variable {base : Nat} {e : TypeId} {size n c : Nat} {A : Option Addr} {xs : List Value}
theorem owns.le_cap (h : owns w base e size (.slice A n c) n xs) : n ≤ c := by
  rcases h.2 with ⟨_, h0⟩ | ⟨g, cap, cur, hv, _, _, hnc, _⟩
  · omega
  · simp only [Value.slice.injEq] at hv; omega
theorem owns.norm (h : owns w base e size (.slice A n c) n xs) : owns w base e size (if c = 0 then .slice none 0 0 else .slice A n c) n xs := by
  split
  · rename_i hc
    have := h.le_cap
    exact ⟨h.1, .inl ⟨rfl, by omega⟩⟩
  · exact h
theorem RsTo.norm {i : Nat} (hi : rs[i]? = some ⟨e, size, .slice A n c, n, xs⟩) : RsTo rs (rs.set i (rowOf e size A n c xs)) :=
  RsTo.at_ hi (fun w h => h.norm) (by simp only [rowOf]; split; · exact .inl rfl
                                      · exact .inr rfl)
theorem RsTo.clip {i m : Nat} (hi : rs[i]? = some ⟨e, size, .slice A n c, n, xs⟩) (h1 : n ≤ m) (h2 : m ≤ c) : RsTo rs (rs.set i (rowOf e size A n m xs)) :=
  RsTo.at_ hi (fun w h => (h.clip h1 h2).norm) (by
    simp only [rowOf]; split
    · exact .inl rfl
    · exact .inr (by cases A <;> rfl))
theorem nodup_one (o : Own) : ([o].filterMap (·.v.ownBlock)).Nodup := by cases h : o.v.ownBlock <;> simp [h]
theorem Fresh.one {o : Own} (h : owns w base o.e o.size o.v o.n o.xs) : Fresh base [o] w := ⟨fun o' ho => by simp at ho; subst ho; exact h, nodup_one o⟩
theorem Fresh.norm (h : Fresh base [⟨e, size, .slice A n c, n, xs⟩] w) : Fresh base [rowOf e size A n c xs] w := Fresh.one (h.own ⟨e, size, .slice A n c, n, xs⟩ (List.mem_singleton.2 rfl)).norm
theorem Fresh.clip {m : Nat} (h : Fresh base [⟨e, size, .slice A n c, n, xs⟩] w) (h1 : n ≤ m) (h2 : m ≤ c) : Fresh base [rowOf e size A n m xs] w := Fresh.one ((h.own ⟨e, size, .slice A n c, n, xs⟩ (List.mem_singleton.2 rfl)).clip h1 h2).norm
theorem Fresh.empty (base : Nat) (w : World) (e : TypeId) (size : Nat) (A : Option Addr) : Fresh base [rowOf e size A 0 0 []] w := Fresh.one (by rw [rowOf_zero]; exact owns_nil _ _ _ _)
theorem reads_of_row (h : owns w base (rowOf e size A n c xs).e (rowOf e size A n c xs).size (rowOf e size A n c xs).v (rowOf e size A n c xs).n (rowOf e size A n c xs).xs) : Reads w size A n xs := by
  dsimp only [rowOf] at h
  split at h
  · rcases h.2 with ⟨_, h0⟩ | ⟨g, cap, cur, hv, _⟩
    · subst h0
      have h1 := h.1
      simp at h1
      subst h1
      exact Reads.nil _ _ _
    · simp at hv
  · exact reads_of_own h
theorem St.rowR {w0 : World} {S0 : List Nat} (hS : Eng.St w0 S0 lb rs w) (ho : rowOf e size A n c xs ∈ rs) : Reads w size A n xs := reads_of_row (hS.own _ ho).1
theorem St.rowR_zero {w0 : World} {S0 : List Nat} (hS : Eng.St w0 S0 lb rs w) (ho : rowOf e size A n 0 xs ∈ rs) : n = 0 ∧ xs = [] := by
  have h := (hS.own _ ho).1
  rw [rowOf_zero] at h
  rcases h.2 with ⟨_, h0⟩ | ⟨g, cap, cur, hv, _⟩
  · refine ⟨h0, List.eq_nil_of_length_eq_zero ?_⟩
    have := h.1
    dsimp only at this h0
    rw [h0] at this
    simpa using this
  · simp at hv
end

/-! ### append onto such a row -/
theorem run_append_zero {P : Program} (t ty e : TypeId) {ti : TI} (ht : P.underlying t = some (.slice e)) (hi : TiOk P e ti) (A B : Option Addr) (m c : Nat) (news : List Value) (hr : Reads w ti.size B m news) (h0 : 0 < m)
    (h63 : m ≤ maxLen) (hby : m * ti.bytes ≤ 140737488355328) :
    (Builtin.append_ #[t, t] ty #[.slice A 0 0, .slice B m c]).run P w = (Builtin.append_ #[t, t] ty #[.slice none 0 0, .slice B m c]).run P w := by
  cases A with
  | none => rfl
  | some ad =>
    obtain ⟨i, d, z, hinfo, hu, hd, hs, hby', hz, hzc, hzl⟩ := hi.out
    obtain ⟨ad2, rfl, hc⟩ := hr.2 h0
    have hl' : news.length = m * i.size := by rw [hs]; exact hr.1
    have h63' : m ≤ 9223372036854775807 := by simp only [maxLen] at h63; omega
    rw [run_append_nil (P := P) w t ty e i z ht hinfo hz ad2 m c news hl' hc h0 (by omega) (by rw [hby']; omega)]
    have h := run_append_grow (P := P) w t ty e i z ht hinfo hz ad 0 0 [] (by simp) (by simp) ad2 m c news hl' hc (by omega) (by omega) (by rw [hby']; exact growslice_fits (by omega) (by simpa using hby))
    simpa using h

section
variable {t ty e : TypeId} {ti : TI} {z1 z2 : Nat} {z3 : List Value} {A B : Option Addr} {n c m d : Nat} {xs news : List Value} {K : SV → List Own → Prop}
/-- append onto a row, or onto an empty slice without room. -/
theorem SemS.appR (hC : C.Ok) {i : Nat} (hT : C.T.get t = some ⟨.slice e, z1, z2, z3⟩) (hTe : C.T.get e = some ti) (hsz : 0 < ti.size)
    (hi : rs[i]? = some (rowOf e ti.size A n c xs)) (hm : 0 < m)
    (hr : ∀ w, C.St lb rs w → Reads w ti.size B m news) (h1 : ∀ u ∈ news, isOne u = true) (h63 : n + m ≤ maxLen) (hby : (n + m) * ti.bytes ≤ 140737488355328)
    (k : ∀ A' c', n + m ≤ c' → K (.v (.slice A' (n + m) c')) (rs.set i ⟨e, ti.size, .slice A' (n + m) c', n + m, xs ++ news⟩)) : SemS C lb rs (Builtin.append_ #[t, t] ty #[.slice A n c, .slice B m d]) K := by
  by_cases hc : c = 0
  · subst hc
    refine ⟨fun w hw => ?_⟩
    obtain ⟨rfl, rfl⟩ := hw.rowR_zero (List.mem_of_getElem? hi)
    rw [rowOf_zero] at hi
    have h := SemS.app (C := C) (lb := lb) (rs := rs) (K := K) (ty := ty) hC hT hTe hsz (A := none) (n := 0) (c := 0) (xs := []) (B := B) (m := m) (d := d) (news := news) hi hr h1 h63 hby k
    obtain ⟨v, w', rs', h2, h3, h4⟩ := h.out w hw
    obtain ⟨_, dd, _, _, hu, hd, _⟩ := (hC.tab.get hT).out
    simp only [TD.is] at hd
    subst hd
    exact ⟨v, w', rs', by rw [run_append_zero t ty e hu (hC.tab.get hTe) A B m d news (hr w hw) hm (by omega) (by simpa using hby)]; exact h2, h3, h4⟩
  · rw [rowOf_some hc] at hi
    exact SemS.app hC hT hTe hsz hi hr h1 h63 hby k
/-- append onto an empty slice without room. -/
theorem SemS.appZ (hC : C.Ok) (hT : C.T.get t = some ⟨.slice e, z1, z2, z3⟩) (hTe : C.T.get e = some ti) (hsz : 0 < ti.size)
    (hr : ∀ w, C.St lb rs w → Reads w ti.size B m news) (h1 : ∀ u ∈ news, isOne u = true) (h63 : m ≤ maxLen) (hby : m * ti.bytes ≤ 140737488355328)
    (k : ∀ A' c', m ≤ c' → K (.v (.slice A' m c')) (rs ++ [rowOf e ti.size A' m c' news])) : SemS C lb rs (Builtin.append_ #[t, t] ty #[.slice A 0 0, .slice B m d]) K := by
  refine ⟨fun w hw => ?_⟩
  obtain ⟨_, dd, _, _, hu, hd, _⟩ := (hC.tab.get hT).out
  simp only [TD.is] at hd
  subst hd
  by_cases hm : m = 0
  · subst hm
    have hn : news = [] := List.eq_nil_of_length_eq_zero (by simpa using (hr w hw).1)
    subst hn
    refine ⟨.slice A 0 0, w, rs ++ [rowOf e ti.size A 0 0 []], ?_, by rw [rowOf_zero]; exact RsTo.nil _ _ _ _ _ _ _ hw, k A 0 (Nat.le_refl _)⟩
    have hsz' := run_sizeOf (hC.tab.get hTe) w
    have hf : ∀ (A : Option Addr), (Builtin.firstCells ti.size 0 (.slice A 0 d)).run C.P w = .ok #[] w := by
      intro A
      cases A <;> simp [Builtin.firstCells, loadCells, loadCellsFrom]
    cases A with
    | none => simp [Builtin.append_, run_underlying hu, hsz', Builtin.lenOf, hf]
    | some ad => simp [Builtin.append_, run_underlying hu, hsz', Builtin.lenOf, hf, storeCells]
  · have h := SemS.app0 (C := C) (lb := lb) (rs := rs) (ty := ty) hC hT hTe hsz (B := B) (m := m) (d := d) (news := news) hr h1 h63 hby (K := fun s rs' => ∃ A' c', s = .v (.slice A' m c') ∧ rs' = rs ++ [⟨e, ti.size, .slice A' m c', m, news⟩]) (fun A' c' _ => ⟨A', c', rfl, rfl⟩)
    obtain ⟨v, w', rs', h2, h3, A', c', h4, rfl⟩ := h.out w hw
    simp only [SV.v.injEq] at h4
    subst h4
    have hat : (rs ++ [(⟨e, ti.size, .slice A' m c', m, news⟩ : Own)])[rs.length]? = some ⟨e, ti.size, .slice A' m c', m, news⟩ := by simp
    have hcap := ((h3.own _ (List.mem_of_getElem? hat)).1).le_cap
    have h5 := RsTo.norm hat _ _ _ _ h3
    rw [List.set_append_right _ _ (Nat.le_refl _)] at h5
    simp only [Nat.sub_self, List.set_cons_zero] at h5
    exact ⟨_, w', _, by rw [run_append_zero t ty e hu (hC.tab.get hTe) A B m d news (hr w hw) (by omega) h63 hby]; exact h2, h5, k A' c' hcap⟩
end

/-! ### Stores of structs -/
def putL : List Value → Nat → List Value → List Value
  | xs, _, [] => xs
  | xs, j, v :: r => putL (xs.set j v) (j + 1) r
theorem putL_length : ∀ (vs xs : List Value) (j : Nat), (putL xs j vs).length = xs.length
  | [], _, _ => rfl
  | v :: vs, xs, j => by rw [putL, putL_length vs]; simp
theorem owns.storedL {base : Nat} {e : TypeId} {size n g c : Nat} : ∀ (vs xs : List Value) (j : Nat) (w : World), owns w base e size (.slice (some ⟨g, 0, none⟩) n c) n xs →
    owns (w.setCells g j vs) base e size (.slice (some ⟨g, 0, none⟩) n c) n (putL xs j vs)
  | [], _, _, _, h => h
  | v :: vs, xs, j, w, h => owns.storedL vs (xs.set j v) (j + 1) (w.setCell ⟨g, j, none⟩ v) (h.stored j v)
theorem pres_setCells (g : Nat) : ∀ (vs : List Value) (j : Nat) (w : World), Pres [g] w (w.setCells g j vs)
  | [], _, w => ⟨rfl, rfl, rfl, Nat.le_refl _, fun _ _ _ => rfl⟩
  | v :: vs, j, w => (pres_setCell w g j v).trans (pres_setCells g vs (j + 1) (w.setCell ⟨g, j, none⟩ v))

theorem run_storeAgg {P : Program} {t : TypeId} {ti : TI} (h : TiOk P t ti) {vs : List Value} (hs : ti.size = vs.length) (g j : Nat) (h1 : ∀ u ∈ vs, isOne u = true)
    (hc : ∀ k, k < vs.length → (w.cell? ⟨g, j + k, none⟩).isSome = true) (hf : ∀ k, k < vs.length → w.frozen? ⟨g, j + k, none⟩ = false) :
    (storeVar t ⟨g, j, none⟩ (.agg vs.toArray)).run P w = .ok () (w.setCells g j vs) := by
  have h2 := run_sizeOf h w
  have hst := run_storeCells_cells (P := P) g j vs 0 w (by simpa using hc) (by simpa using hf) (fun u hu => by rw [← isOne_one]; exact h1 u hu)
  simp only [Nat.add_zero] at hst
  simp [storeVar, Value.cells, h2, hs, hst]

theorem SemU.agg (hC : C.Ok) {i : Nat} {e : TypeId} {size n c g : Nat} {xs : List Value} (hi : rs[i]? = some ⟨e, size, .slice (some ⟨g, 0, none⟩) n c, n, xs⟩) {t : TypeId} {ti : TI} (hT : C.T.get t = some ti)
    {ad : Addr} (j : Nat) (had : ad = (⟨g, 0, none⟩ : Addr).add j) {vs : List Value} (hs : ti.size = vs.length) (hj : j + vs.length ≤ xs.length) (h1 : ∀ u ∈ vs, isOne u = true) {K : List Own → Prop}
    (k : K (rs.set i ⟨e, size, .slice (some ⟨g, 0, none⟩) n c, n, putL xs j vs⟩)) : SemU C lb rs (storeVar t ad (.agg vs.toArray)) K := by
  refine ⟨fun w hw => ?_⟩
  have how := (hw.own _ (List.mem_of_getElem? hi)).1
  have e1 : ad = ⟨g, j, none⟩ := by rw [had, add_none, Nat.zero_add]
  subst e1
  have hc : ∀ k, k < vs.length → (w.cell? ⟨g, j + k, none⟩).isSome = true := by
    intro k hk
    have hjk : j + k < xs.length := by omega
    have := how.cells (g := g) rfl (j + k) xs[j + k] (List.getElem?_eq_getElem hjk)
    rw [add_none, Nat.zero_add] at this
    rw [this]; rfl
  exact ⟨_, _, run_storeAgg (hC.tab.get hT) hs g j h1 hc (fun k _ => how.frozenAt (j + k)), St.upd hw hi (o' := ⟨e, size, .slice (some ⟨g, 0, none⟩) n c, n, putL xs j vs⟩) (S := [g]) rfl (by simp [Value.ownBlock]) (pres_setCells g vs j w) (how.storedL vs xs j w), k⟩

/-- A callee that turns one row, which may be empty without room. -/
theorem CallS.updR {α : Type} {r : α → Value} {φ : α → Prop} {e : TypeId} {size n c i : Nat} {A : Option Addr} {xs : List Value} {ys : α → List Value} (hi : rs[i]? = some (rowOf e size A n c xs))
    (hc : ∀ w, C.St lb rs w → Calls C.P f args w fun en w' => ∃ x, φ x ∧ en = .returned (r x) ∧ Pres (rowOf e size A n c xs).v.ownBlock.toList w w' ∧ owns w' 0 e size (rowOf e size A n c xs).v n (ys x))
    (k : ∀ x, φ x → K (.v (r x)) lb (rs.set i (rowOf e size A n c (ys x)))) : CallS C lb rs f args K :=
  ⟨fun w hw => (hc w hw).mono fun en w' ⟨x, hx, he, hp, ho⟩ => ⟨r x, lb, _, he, SameNums.refl _,
    St.upd hw hi (o' := rowOf e size A n c (ys x)) rfl (S := (rowOf e size A n c xs).v.ownBlock.toList) (fun g hg => by simpa using hg) hp ho, k x hx⟩⟩
end

/-! ### Loops that leave boxes and rows as they were -/
theorem LoopS.same {C : Cx} {n : Nat} {lb : List Box} {rs : List Own} {env : Env} (hC : C.Ok) {b : Code} {Q : Post} (D : List (Nat × Nat)) (slots : List Nat) (hD : loopOk b D slots = true)
    {σ : Type} (vals : σ → List Value) (I : σ → Prop) (μ : σ → Nat) (s0 : σ) (h0 : I s0) (hst0 : AllSt (zipV slots (vals s0)) env) (hlb0 : LbTo lb lb)
    (round : ∀ s g, I s → xc C n b (havoc env D g (zipV slots (vals s))) lb rs (seqQ (fun env' lb' rs' => ∃ s', I s' ∧ μ s' < μ s ∧ AllSt (zipV slots (vals s')) env' ∧ LbTo lb' lb ∧ RsTo rs' rs) Q)) :
    LoopS C n b env lb rs Q :=
  LoopS.rule hC D slots hD vals (fun _ => lb) (fun _ => rs) I μ s0 (fun _ => rfl) h0 hst0 hlb0 (RsTo.refl _) round
/-- The same where the rows turn. -/
theorem LoopS.rows {C : Cx} {n : Nat} {lb : List Box} {rs : List Own} {env : Env} (hC : C.Ok) {b : Code} {Q : Post} (D : List (Nat × Nat)) (slots : List Nat) (hD : loopOk b D slots = true)
    {σ : Type} (vals : σ → List Value) (rss : σ → List Own) (I : σ → Prop) (μ : σ → Nat) (s0 : σ) (h0 : I s0) (hst0 : AllSt (zipV slots (vals s0)) env) (hlb0 : LbTo lb lb) (hrs0 : RsTo rs (rss s0))
    (round : ∀ s g, I s → xc C n b (havoc env D g (zipV slots (vals s))) lb (rss s) (seqQ (fun env' lb' rs' => ∃ s', I s' ∧ μ s' < μ s ∧ AllSt (zipV slots (vals s')) env' ∧ LbTo lb' lb ∧ RsTo rs' (rss s')) Q)) :
    LoopS C n b env lb rs Q :=
  LoopS.rule hC D slots hD vals (fun _ => lb) rss I μ s0 (fun _ => rfl) h0 hst0 hlb0 hrs0 round

/-! ### Lists of structs as cells -/
section
variable {α : Type} {f : α → List Value} {s : Nat}
theorem flat_len (hs : ∀ x, (f x).length = s) : ∀ (l : List α), (l.flatMap f).length = l.length * s
  | [] => by simp
  | a :: l => by rw [List.flatMap_cons, List.length_append, hs, flat_len hs l, List.length_cons, Nat.succ_mul]; omega
theorem flat_split {l : List α} {k : Nat} {x : α} (h : l[k]? = some x) : l.flatMap f = (l.take k).flatMap f ++ (f x ++ (l.drop (k + 1)).flatMap f) := by
  obtain ⟨hk, hx⟩ := List.getElem?_eq_some_iff.1 h
  conv => lhs; rw [← List.take_append_drop k l, List.drop_eq_getElem_cons hk, hx]
  simp
theorem flat_take_len (hs : ∀ x, (f x).length = s) {l : List α} {k : Nat} (h : k ≤ l.length) : ((l.take k).flatMap f).length = k * s := by rw [flat_len hs, List.length_take, Nat.min_eq_left h]
theorem flat_get (hs : ∀ x, (f x).length = s) {l : List α} {k : Nat} {x : α} (h : l[k]? = some x) {j : Nat} (hj : j < s) : (l.flatMap f)[k * s + j]? = (f x)[j]? := by
  have hk : k < l.length := (List.getElem?_eq_some_iff.1 h).1
  rw [flat_split h, List.getElem?_append_right (by rw [flat_take_len hs (by omega)]; omega), flat_take_len hs (by omega), show k * s + j - k * s = j by omega, List.getElem?_append_left (by rw [hs]; exact hj)]
theorem flat_take (hs : ∀ x, (f x).length = s) {l : List α} {k : Nat} (h : k ≤ l.length) : (l.flatMap f).take (k * s) = (l.take k).flatMap f := by
  conv => lhs; rw [← List.take_append_drop k l]
  rw [List.flatMap_append, List.take_append_of_le_length (by rw [flat_take_len hs h]; exact Nat.le_refl _), List.take_of_length_le (by rw [flat_take_len hs h]; exact Nat.le_refl _)]
theorem flat_drop (hs : ∀ x, (f x).length = s) {l : List α} {k : Nat} (h : k ≤ l.length) : (l.flatMap f).drop (k * s) = (l.drop k).flatMap f := by
  conv => lhs; rw [← List.take_append_drop k l]
  rw [List.flatMap_append, List.drop_append_of_le_length (by rw [flat_take_len hs h]; exact Nat.le_refl _), List.drop_of_length_le (by rw [flat_take_len hs h]; exact Nat.le_refl _), List.nil_append]
theorem set_flat {l : List α} {k : Nat} {x y : α} (h : l[k]? = some x) : (l.set k y).flatMap f = (l.take k).flatMap f ++ (f y ++ (l.drop (k + 1)).flatMap f) := by
  have hk : k < l.length := (List.getElem?_eq_some_iff.1 h).1
  rw [List.set_eq_take_append_cons_drop, if_pos hk]
  simp
theorem flat_set (hs : ∀ x, (f x).length = s) {l : List α} {k : Nat} {x y : α} (h : l[k]? = some x) {j : Nat} (hj : j < s) {u : Value} (hy : f y = (f x).set j u) : (l.flatMap f).set (k * s + j) u = (l.set k y).flatMap f := by
  have hk : k < l.length := (List.getElem?_eq_some_iff.1 h).1
  rw [set_flat h, flat_split h, List.set_append_right _ _ (by rw [flat_take_len hs (by omega)]; omega), flat_take_len hs (by omega), show k * s + j - k * s = j by omega, List.set_append_left _ _ (by rw [hs]; exact hj), hy]
theorem putL_mid : ∀ (vs xs p r : List Value), xs.length = vs.length → putL (p ++ (xs ++ r)) p.length vs = p ++ (vs ++ r)
  | [], [], p, r, _ => rfl
  | [], a :: xs, p, r, h => by simp at h
  | v :: vs, [], p, r, h => by simp at h
  | v :: vs, a :: xs, p, r, h => by
    have h1 : (p ++ (a :: xs ++ r)).set p.length v = (p ++ [v]) ++ (xs ++ r) := by simp [List.set_append_right]
    have h2 := putL_mid vs xs (p ++ [v]) r (by simpa using h)
    rw [List.length_append, List.length_singleton] at h2
    rw [putL, h1, h2]
    simp
theorem flat_put (hs : ∀ x, (f x).length = s) {l : List α} {k : Nat} {x : α} (y : α) (h : l[k]? = some x) : putL (l.flatMap f) (k * s) (f y) = (l.set k y).flatMap f := by
  have hk : k < l.length := (List.getElem?_eq_some_iff.1 h).1
  have h1 := putL_mid (f y) (f x) ((l.take k).flatMap f) ((l.drop (k + 1)).flatMap f) (by rw [hs, hs])
  rw [flat_take_len hs (by omega)] at h1
  rw [set_flat h, flat_split h, h1]
end
theorem take_snoc {α : Type} {l : List α} {k : Nat} {x : α} (h : l[k]? = some x) : l.take (k + 1) = l.take k ++ [x] := by rw [List.take_add_one, h]; rfl
theorem drop_at {α : Type} {l : List α} {k : Nat} {x : α} (h : l[k]? = some x) : l.drop k = x :: l.drop (k + 1) := by
  obtain ⟨hk, hx⟩ := List.getElem?_eq_some_iff.1 h
  rw [List.drop_eq_getElem_cons hk, hx]

/-! ### Clipped rows, callees that turn one row -/
section
variable {C : Cx} {lb : List Box} {rs : List Own} {w w' : World} {base : Nat} {e : TypeId} {size n c m : Nat} {A : Option Addr} {xs : List Value}
theorem rowOf_owns (h : owns w base (rowOf e size A n c xs).e (rowOf e size A n c xs).size (rowOf e size A n c xs).v (rowOf e size A n c xs).n (rowOf e size A n c xs).xs) :
    (c = 0 ∧ n = 0 ∧ xs = []) ∨ (∃ g, A = some ⟨g, 0, none⟩ ∧ c ≠ 0 ∧ rowOf e size A n c xs = ⟨e, size, .slice (some ⟨g, 0, none⟩) n c, n, xs⟩ ∧ owns w base e size (.slice (some ⟨g, 0, none⟩) n c) n xs) := by
  by_cases hc : c = 0
  · subst hc
    rw [rowOf_zero] at h
    rcases h.2 with ⟨_, h0⟩ | ⟨g, cap, cur, hv, _⟩
    · refine .inl ⟨rfl, h0, List.eq_nil_of_length_eq_zero ?_⟩
      have := h.1
      dsimp only at this h0
      rw [h0] at this
      simpa using this
    · simp at hv
  · rw [rowOf_some hc] at h ⊢
    have h' := h
    rcases h.2 with ⟨hv, h0⟩ | ⟨g, cap, cur, hv, _⟩
    · simp only [Value.slice.injEq] at hv; omega
    · simp only [Value.slice.injEq, true_and] at hv
      obtain ⟨rfl, rfl⟩ := hv
      exact .inr ⟨g, rfl, hc, rfl, h'⟩
theorem owns.clipR (h : owns w base (rowOf e size A n c xs).e (rowOf e size A n c xs).size (rowOf e size A n c xs).v (rowOf e size A n c xs).n (rowOf e size A n c xs).xs) (h1 : n ≤ m) (h2 : m ≤ c) :
    owns w base (rowOf e size A n m xs).e (rowOf e size A n m xs).size (rowOf e size A n m xs).v (rowOf e size A n m xs).n (rowOf e size A n m xs).xs := by
  rcases rowOf_owns h with ⟨rfl, rfl, rfl⟩ | ⟨g, rfl, hc, he, h3⟩
  · obtain rfl : m = 0 := by omega
    exact h
  · exact (h3.clip h1 h2).norm
theorem Fresh.clipR (h : Fresh base [rowOf e size A n c xs] w) (h1 : n ≤ m) (h2 : m ≤ c) : Fresh base [rowOf e size A n m xs] w := Fresh.one ((h.own _ (List.mem_singleton.2 rfl)).clipR h1 h2)
theorem RsTo.clipR {i : Nat} (hi : rs[i]? = some (rowOf e size A n c xs)) (h1 : n ≤ m) (h2 : m ≤ c) : RsTo rs (rs.set i (rowOf e size A n m xs)) :=
  RsTo.at_ hi (fun w h => h.clipR h1 h2) (by
    simp only [rowOf]
    by_cases hm : m = 0
    · simp [hm, Value.ownBlock]
    · have hc : c ≠ 0 := by omega
      simp only [hm, hc, if_false]
      exact .inr (by cases A <;> rfl))
def isV : SV → Bool
  | .v _ => true
  | _ => false
def allV (lb : List Box) : Bool := lb.all fun b => b.cells.all isV
theorem LbTo.self {lb : List Box} (h : allV lb = true) : LbTo lb lb := by
  refine ⟨(List.take_length).symm, fun b hb c hc => ?_⟩
  have h1 := List.all_eq_true.1 (List.all_eq_true.1 h b hb) c hc
  cases c with
  | v x => trivial
  | box i o => simp [isV] at h1
  | fn f cs => simp [isV] at h1
/-- The state that a callee begins in that may turn one row. -/
theorem St.startRow {o : Own} (h : owns w 0 o.e o.size o.v o.n o.xs) : Eng.St w o.v.ownBlock.toList [] [o] w :=
  ⟨rfl, rfl, rfl, Nat.le_refl _, fun _ _ _ => rfl, fun i b hb => by simp at hb, fun o' ho => by
    simp at ho
    subst ho
    exact ⟨h, fun g hg => .inr (by simpa using hg)⟩, by simpa using nodup_one o⟩
theorem set_mid {α : Type} (p : List α) (t : List α) (u : α) (h : 0 < t.length) : (p ++ t).set p.length u = (p ++ [u]) ++ t.drop 1 := by
  cases t with
  | nil => simp at h
  | cons a t => simp [List.set_append_right]
end

section
variable {C : Cx} {lb : List Box} {rs : List Own} {f : Nat} {args : Array Value} {w w' : World}
theorem CallS.pt {K : SV → List Box → List Own → Prop} {p : Prop} [Decidable p] (hp : p) (hc : ∀ w, C.St lb rs w → Calls C.P f args w fun e w' => e = .returned (.bool (decide p)) ∧ Below w.heap.size w w') (k : K (.v (.bool true)) lb rs) : CallS C lb rs f args K :=
  CallS.p hc (fun _ => k) (fun h => absurd hp h)
theorem CallS.pf {K : SV → List Box → List Own → Prop} {p : Prop} [Decidable p] (hp : ¬ p) (hc : ∀ w, C.St lb rs w → Calls C.P f args w fun e w' => e = .returned (.bool (decide p)) ∧ Below w.heap.size w w') (k : K (.v (.bool false)) lb rs) : CallS C lb rs f args K :=
  CallS.p hc (fun h => absurd h hp) (fun _ => k)
theorem CallQ.pt {K : SV → Prop} {p : Prop} [Decidable p] (hp : p) (hc : ∀ w, C.St lb rs w → Calls C.P f args w fun e w' => e = .returned (.bool (decide p)) ∧ Below w.heap.size w w') (k : K (.v (.bool true))) : CallQ C lb rs f args K :=
  CallQ.p hc (fun _ => k) (fun h => absurd hp h)
theorem CallQ.pf {K : SV → Prop} {p : Prop} [Decidable p] (hp : ¬ p) (hc : ∀ w, C.St lb rs w → Calls C.P f args w fun e w' => e = .returned (.bool (decide p)) ∧ Below w.heap.size w w') (k : K (.v (.bool false))) : CallQ C lb rs f args K :=
  CallQ.p hc (fun h => absurd h hp) (fun _ => k)

/-- append of any slice onto a row, or onto an empty slice without room. -/
theorem SemS.appG {t ty e : TypeId} {ti : TI} {z1 z2 : Nat} {z3 : List Value} {A B : Option Addr} {n c m d : Nat} {xs news : List Value} {K : SV → List Own → Prop} (hC : C.Ok) {i : Nat} (hT : C.T.get t = some ⟨.slice e, z1, z2, z3⟩) (hTe : C.T.get e = some ti) (hsz : 0 < ti.size)
    (hi : rs[i]? = some (rowOf e ti.size A n c xs))
    (hr : ∀ w, C.St lb rs w → Reads w ti.size B m news) (h1 : ∀ u ∈ news, isOne u = true) (h63 : n + m ≤ maxLen) (hby : (n + m) * ti.bytes ≤ 140737488355328)
    (k : ∀ A' c', n + m ≤ c' → K (.v (.slice A' (n + m) c')) (rs.set i (rowOf e ti.size A' (n + m) c' (xs ++ news)))) : SemS C lb rs (Builtin.append_ #[t, t] ty #[.slice A n c, .slice B m d]) K := by
  have hir : i < rs.length := (List.getElem?_eq_some_iff.1 hi).1
  have fin : SemS C lb rs (Builtin.append_ #[t, t] ty #[.slice A n c, .slice B m d]) (fun s rs' => ∃ A' c', n + m ≤ c' ∧ s = .v (.slice A' (n + m) c') ∧ rs' = rs.set i ⟨e, ti.size, .slice A' (n + m) c', n + m, xs ++ news⟩) →
      SemS C lb rs (Builtin.append_ #[t, t] ty #[.slice A n c, .slice B m d]) K := by
    intro h
    refine ⟨fun w hw => ?_⟩
    obtain ⟨v, w', rs', h2, h3, A', c', hc', h4, rfl⟩ := h.out w hw
    simp only [SV.v.injEq] at h4
    subst h4
    have hat : (rs.set i (⟨e, ti.size, .slice A' (n + m) c', n + m, xs ++ news⟩ : Own))[i]? = some ⟨e, ti.size, .slice A' (n + m) c', n + m, xs ++ news⟩ := by simp [hir]
    have h5 := RsTo.norm hat _ _ _ _ h3
    rw [List.set_set] at h5
    exact ⟨_, w', _, h2, h5, k A' c' hc'⟩
  by_cases hc : c = 0
  · subst hc
    by_cases hm : m = 0
    · subst hm
      refine ⟨fun w hw => ?_⟩
      obtain ⟨rfl, rfl⟩ := hw.rowR_zero (List.mem_of_getElem? hi)
      have hn : news = [] := List.eq_nil_of_length_eq_zero (by simpa using (hr w hw).1)
      subst hn
      obtain ⟨_, dd, _, _, hu, hd, _⟩ := (hC.tab.get hT).out
      simp only [TD.is] at hd
      subst hd
      have hsz' := run_sizeOf (hC.tab.get hTe) w
      have hf : ∀ (A : Option Addr), (Builtin.firstCells ti.size 0 (.slice A 0 d)).run C.P w = .ok #[] w := by
        intro A
        cases A <;> simp [Builtin.firstCells, loadCells, loadCellsFrom]
      refine ⟨.slice A 0 0, w, _, ?_, ?_, k A 0 (Nat.le_refl _)⟩
      · cases A with
        | none => simp [Builtin.append_, run_underlying hu, hsz', Builtin.lenOf, hf]
        | some ad => simp [Builtin.append_, run_underlying hu, hsz', Builtin.lenOf, hf, storeCells]
      · have e1 : rs.set i (rowOf e ti.size A (0 + 0) 0 ([] ++ [])) = rs := by
          obtain ⟨h, hx⟩ := List.getElem?_eq_some_iff.1 hi
          have : rowOf e ti.size A (0 + 0) 0 ([] ++ []) = rs[i] := hx.symm
          rw [this, List.set_getElem_self]
        rw [e1]
        exact hw
    · exact fin (SemS.appR hC hT hTe hsz hi (by omega) hr h1 h63 hby (fun A' c' hc' => ⟨A', c', hc', rfl, rfl⟩))
  · rw [rowOf_some hc] at hi
    exact fin (SemS.app hC hT hTe hsz hi hr h1 h63 hby (fun A' c' hc' => ⟨A', c', hc', rfl, rfl⟩))
end
end Go.Proofs.Ytfjedjcdmaoeoaa.Eng
