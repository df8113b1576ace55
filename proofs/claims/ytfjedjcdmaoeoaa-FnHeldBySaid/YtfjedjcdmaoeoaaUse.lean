/- Words for whoever runs a function: rows of one's own, appends, callees that write; conditions: none. -/
import Derived.Test.YtfjedjcdmaoeoaaEng
import Derived.Maps.AppendAt
set_option linter.unusedVariables false
set_option linter.unusedSimpArgs false
namespace Go.Proofs.Ytfjedjcdmaoeoaa.Eng
open Go Go.RowKit

section
variable {C : Cx} {lb : List Box} {rs : List Own} {f : Nat} {args : Array Value} {K : SV → List Box → List Own → Prop} {w w' : World}

theorem IdxS.at_ {A : Option Addr} {n size : Nat} {i : Int} {K : SV → Prop} {ad : Addr} (m : Nat) (hA : A = some ad) (hi : i = (m : Int)) (hm : m < n)
    (k : K (.v (.pointer (some (ad.add (bif Nat.beq size 1 then m else m * size)))))) : IdxS A n i size K := ⟨ad, m, hA, hi, hm, k⟩
theorem LdS.at_ {K : SV → Prop} {a : Addr} {v : Value} (h : ∀ w, C.St lb rs w → w.cell? a = some v) (k : K (.v v)) : LdS C lb rs a K := ⟨v, h, k⟩
theorem LdsS.at_ {K : SV → Prop} {a : Addr} {n : Nat} {vs : List Value} (hl : vs.length = n) (h : ∀ w, C.St lb rs w → ∀ j u, vs[j]? = some u → w.cell? (a.add j) = some u) (k : K (.v (.agg vs.toArray))) : LdsS C lb rs a n K := ⟨vs, hl, h, k⟩

theorem map_add_zero (A : Option Addr) (z : Nat) : A.map (·.add (0 * z)) = A := by cases A <;> simp [Addr.add]
theorem SlcS.hi {A : Option Addr} {n c size : Nat} {i : Int} {K : SV → Prop} (h : Nat) (hi : i = (h : Int)) (hc : h ≤ c) (k : K (.v (.slice A h c))) : SlcS A n c size none (some i) none K :=
  ⟨0, h, c, rfl, hi, rfl, Nat.zero_le _, hc, Nat.le_refl _, by
    have e : (if c = 0 then A else A.map (·.add (0 * size))) = A := by rw [map_add_zero]; split <;> rfl
    rw [e]; exact k⟩
theorem SlcS.lo {A : Option Addr} {n c size : Nat} {i : Int} {K : SV → Prop} (l : Nat) (hl : i = (l : Int)) (hn : l ≤ n) (hc : n ≤ c) (k : K (.v (.slice (if c = l then A else A.map (·.add (l * size))) (n - l) (c - l)))) : SlcS A n c size (some i) none none K :=
  ⟨l, n, c, hl, rfl, rfl, hn, hc, Nat.le_refl _, k⟩
theorem SlcS.lohi {A : Option Addr} {n c size : Nat} {i j : Int} {K : SV → Prop} (l h : Nat) (hl : i = (l : Int)) (hh : j = (h : Int)) (h1 : l ≤ h) (hc : h ≤ c) (k : K (.v (.slice (if c = l then A else A.map (·.add (l * size))) (h - l) (c - l)))) : SlcS A n c size (some i) (some j) none K :=
  ⟨l, h, c, hl, hh, rfl, h1, hc, Nat.le_refl _, k⟩
theorem SlcS.hm {A : Option Addr} {n c size : Nat} {i j : Int} {K : SV → Prop} (h m : Nat) (hh : i = (h : Int)) (hm : j = (m : Int)) (h1 : h ≤ m) (hc : m ≤ c) (k : K (.v (.slice A h m))) : SlcS A n c size none (some i) (some j) K :=
  ⟨0, h, m, rfl, hh, hm, Nat.zero_le _, h1, hc, by
    have e : (if m = 0 then A else A.map (·.add (0 * size))) = A := by rw [map_add_zero]; split <;> rfl
    rw [e]; exact k⟩

/-- The xor of two small numbers is a small number. -/
theorem Ar.xor {a b : Int} {K : Int → Prop} (ha : 0 ≤ a ∧ a < 4611686018427387904) (hb : 0 ≤ b ∧ b < 4611686018427387904) (k : ∀ r, 0 ≤ r → r < 4611686018427387904 → K r) :
    Ar .i64 (BitVec.ofInt 64 a ^^^ BitVec.ofInt 64 b).toNat K := by
  have ea : (BitVec.ofInt 64 a).toNat = a.toNat := by rw [BitVec.toNat_ofInt]; omega
  have eb : (BitVec.ofInt 64 b).toNat = b.toNat := by rw [BitVec.toNat_ofInt]; omega
  have hx : (BitVec.ofInt 64 a ^^^ BitVec.ofInt 64 b).toNat = a.toNat ^^^ b.toNat := by rw [BitVec.toNat_xor, ea, eb]
  have hlt : a.toNat ^^^ b.toNat < 2 ^ 62 := Nat.xor_lt_two_pow (by omega) (by omega)
  rw [hx]
  exact Ar.i (by omega) (k _ (by omega) (by omega))

theorem St.ownCell {w0 : World} {S0 : List Nat} (hS : Eng.St w0 S0 lb rs w) {e : TypeId} {size n c g : Nat} {xs : List Value} (ho : (⟨e, size, .slice (some ⟨g, 0, none⟩) n c, n, xs⟩ : Own) ∈ rs) {j : Nat} {u : Value} (hj : xs[j]? = some u) :
    w.cell? ((⟨g, 0, none⟩ : Addr).add j) = some u := ((hS.own _ ho).1).cells (g := g) rfl j u hj

/-- One row is turned (by a store, or by a callee), the rest stands. -/
theorem St.upd {w0 : World} {S0 : List Nat} (hS : Eng.St w0 S0 lb rs w) {i : Nat} {o o' : Own} (hi : rs[i]? = some o) {S : List Nat} (hv : o'.v.ownBlock = o.v.ownBlock) (hSb : ∀ g ∈ S, o.v.ownBlock = some g) (hp : Pres S w w')
    (ho' : owns w' 0 o'.e o'.size o'.v o'.n o'.xs) : Eng.St w0 S0 lb (rs.set i o') w' := by
  have hio : i < rs.length := (List.getElem?_eq_some_iff.1 hi).1
  have hom : o ∈ rs := List.mem_of_getElem? hi
  have hd := hS.disj
  have hfm : (rs.set i o').filterMap (·.v.ownBlock) = rs.filterMap (·.v.ownBlock) := by
    have : ∀ (l : List Own) (i : Nat), l[i]? = some o → (l.set i o').filterMap (·.v.ownBlock) = l.filterMap (·.v.ownBlock) := by
      intro l
      induction l with
      | nil => intro i h; simp at h
      | cons x l ih =>
        intro i h
        cases i with
        | zero => simp at h; subst h; simp [List.filterMap_cons, hv]
        | succ i => simp at h; simp only [List.set_cons_succ, List.filterMap_cons]; rw [ih i h]
    exact this rs i hi
  have hnotS : ∀ g ∈ S, g ∉ lb.map (·.blk) := by
    intro g hg hm
    rw [List.nodup_append] at hd
    exact hd.2.2 g hm g (List.mem_filterMap.2 ⟨o, hom, hSb g hg⟩) rfl
  refine ⟨hp.os.trans hS.os, hp.tape.trans hS.tape, hp.output.trans hS.output, Nat.le_trans hS.size hp.size, fun k hk hn => ?_, fun j b hb => ?_, fun o2 ho2 => ?_, by rw [hfm]; exact hd⟩
  · rw [hp.block k (Nat.lt_of_lt_of_le hk hS.size) (fun hs => ?_), hS.old k hk hn]
    rcases (hS.own o hom).2 k (hSb k hs) with h | h
    · omega
    · exact hn h
  · obtain ⟨h1, h2, h3⟩ := hS.box j b hb
    refine ⟨?_, h2, h3⟩
    rw [hp.block _ (heap_lt h1) (fun hs => hnotS _ hs (List.mem_map.2 ⟨b, List.mem_of_getElem? hb, rfl⟩))]
    exact h1
  · rcases List.mem_or_eq_of_mem_set ho2 with hm | rfl
    · -- another row, or the same one at another place (then it has no block, or the list would not be without doubles)
      obtain ⟨j, hj⟩ := List.getElem?_of_mem ho2
      rw [List.getElem?_set] at hj
      split at hj
      · rename_i hij
        simp [hij ▸ hio] at hj
        subst hj
        exact ⟨ho', fun g hg => (hS.own o hom).2 g (by rw [← hv]; exact hg)⟩
      · rename_i hij
        obtain ⟨h1, h2⟩ := hS.own o2 (List.mem_of_getElem? hj)
        refine ⟨⟨h1.1, ?_⟩, h2⟩
        rcases h1.2 with hn | ⟨g, cap, cur, hv2, hb2, hg2, hr2⟩
        · exact .inl hn
        · refine .inr ⟨g, cap, cur, hv2, hb2, ?_, hr2⟩
          rw [hp.block g (heap_lt hg2) (fun hs => ?_)]
          · exact hg2
          · have e1 := hSb g hs
            have e2 : o2.v.ownBlock = some g := by rw [hv2]; rfl
            rw [List.nodup_append] at hd
            have hnd := hd.2.1
            -- two places of one block
            have key : ∀ (l : List Own) (i j : Nat), (l.filterMap (·.v.ownBlock)).Nodup → l[i]? = some o → l[j]? = some o2 → i = j := by
              intro l
              induction l with
              | nil => intro i j _ h; simp at h
              | cons x l ih =>
                intro i j hn hi hj
                cases i with
                | zero =>
                  simp at hi
                  subst hi
                  cases j with
                  | zero => rfl
                  | succ j =>
                    simp at hj
                    simp only [List.filterMap_cons, e1, List.nodup_cons] at hn
                    exact absurd (List.mem_filterMap.2 ⟨o2, List.mem_of_getElem? hj, e2⟩) hn.1
                | succ i =>
                  simp at hi
                  cases j with
                  | zero =>
                    simp at hj
                    subst hj
                    simp only [List.filterMap_cons, e2, List.nodup_cons] at hn
                    exact absurd (List.mem_filterMap.2 ⟨o, List.mem_of_getElem? hi, e1⟩) hn.1
                  | succ j =>
                    simp at hj
                    have hn' : (l.filterMap (·.v.ownBlock)).Nodup := by
                      simp only [List.filterMap_cons] at hn
                      split at hn
                      · exact hn
                      · exact (List.nodup_cons.1 hn).2
                    rw [ih i j hn' hi hj]
            exact hij (key rs i j hnd hi hj)
    · exact ⟨ho', fun g hg => (hS.own o hom).2 g (by rw [← hv]; exact hg)⟩

/-- Two rows lie in two blocks. -/
theorem St.rows_ne {w0 : World} {S0 : List Nat} (hS : Eng.St w0 S0 lb rs w) {i j : Nat} {o1 o2 : Own} (hi : rs[i]? = some o1) (hj : rs[j]? = some o2) (hij : i ≠ j) {g1 g2 : Nat} (e1 : o1.v.ownBlock = some g1) (e2 : o2.v.ownBlock = some g2) : g1 ≠ g2 := by
  rintro rfl
  have hd := hS.disj
  rw [List.nodup_append] at hd
  have key : ∀ (l : List Own) (i j : Nat), (l.filterMap (·.v.ownBlock)).Nodup → l[i]? = some o1 → l[j]? = some o2 → i = j := by
    intro l
    induction l with
    | nil => intro i j _ h; simp at h
    | cons x l ih =>
      intro i j hn hi hj
      have hn' : (l.filterMap (·.v.ownBlock)).Nodup := by
        simp only [List.filterMap_cons] at hn
        split at hn
        · exact hn
        · exact (List.nodup_cons.1 hn).2
      cases i with
      | zero =>
        simp at hi
        subst hi
        cases j with
        | zero => rfl
        | succ j =>
          simp at hj
          simp only [List.filterMap_cons, e1, List.nodup_cons] at hn
          exact absurd (List.mem_filterMap.2 ⟨o2, List.mem_of_getElem? hj, e2⟩) hn.1
      | succ i =>
        simp at hi
        cases j with
        | zero =>
          simp at hj
          subst hj
          simp only [List.filterMap_cons, e2, List.nodup_cons] at hn
          exact absurd (List.mem_filterMap.2 ⟨o1, List.mem_of_getElem? hi, e1⟩) hn.1
        | succ j =>
          simp at hj
          rw [ih i j hn' hi hj]
  exact hij (key rs i j hd.2.1 hi hj)

theorem pres_setCell (w : World) (g j : Nat) (u : Value) : Pres [g] w (w.setCell ⟨g, j, none⟩ u) :=
  ⟨rfl, rfl, rfl, by simp, fun k _ hk => heap_setCell_other w ⟨g, j, none⟩ k u (fun e => hk (by simp [e]))⟩

theorem run_storeOne {P : Program} {t : TypeId} {ti : TI} (h : TiOk P t ti) (hs : ti.size = 1) {ad : Addr} {u v : Value} (hu : isOne u = true) (hc : w.cell? ad = some v) (hf : w.frozen? ad = false) :
    (storeVar t ad u).run P w = .ok () (w.setCell ad u) := by
  have h1 := run_sizeOf h w
  have h0 : ad.add 0 = ad := by simp [Addr.add]
  have hst := run_store P w ad u .plain (by rw [← isOne_one]; exact hu)
  rw [hc] at hst
  simp only [hf, Bool.false_eq_true, if_false] at hst
  simp [storeVar, isOne_cells hu, h1, hs, storeCells, h0, hst]

/-- A store into a row of one's own (or a borrowed one). -/
theorem SemU.own (hC : C.Ok) {i : Nat} {e : TypeId} {size n c g : Nat} {xs : List Value} (hi : rs[i]? = some ⟨e, size, .slice (some ⟨g, 0, none⟩) n c, n, xs⟩) {t : TypeId} {ti : TI} (hT : C.T.get t = some ti) (hs : ti.size = 1)
    {ad : Addr} (j : Nat) (had : ad = (⟨g, 0, none⟩ : Addr).add j) (hj : j < xs.length) {u : Value} (hu : isOne u = true) {K : List Own → Prop}
    (k : K (rs.set i ⟨e, size, .slice (some ⟨g, 0, none⟩) n c, n, xs.set j u⟩)) : SemU C lb rs (storeVar t ad u) K := by
  refine ⟨fun w hw => ?_⟩
  have how := (hw.own _ (List.mem_of_getElem? hi)).1
  have e1 : ad = ⟨g, j, none⟩ := by rw [had, add_none, Nat.zero_add]
  subst e1
  have hc : w.cell? ⟨g, j, none⟩ = some xs[j] := by
    have := how.cells (g := g) rfl j xs[j] (List.getElem?_eq_getElem hj)
    rwa [add_none, Nat.zero_add] at this
  have hf := how.frozenAt j
  refine ⟨_, _, run_storeOne (hC.tab.get hT) hs hu hc hf, ?_, k⟩
  exact St.upd hw hi (o' := ⟨e, size, .slice (some ⟨g, 0, none⟩) n c, n, xs.set j u⟩) (S := [g]) rfl (by simp [Value.ownBlock]) (pres_setCell w g j u) (how.stored j u)

/-- A callee that turns one row. -/
theorem CallS.upd {α : Type} {r : α → Value} {φ : α → Prop} {o : Own} {o' : α → Own} {i g : Nat} (hi : rs[i]? = some o) (hg : o.v.ownBlock = some g) (hv : ∀ x, (o' x).v = o.v)
    (hc : ∀ w, C.St lb rs w → Calls C.P f args w fun e w' => ∃ x, φ x ∧ e = .returned (r x) ∧ Pres [g] w w' ∧ owns w' 0 (o' x).e (o' x).size (o' x).v (o' x).n (o' x).xs)
    (k : ∀ x, φ x → K (.v (r x)) lb (rs.set i (o' x))) : CallS C lb rs f args K :=
  ⟨fun w hw => (hc w hw).mono fun e w' ⟨x, hx, he, hp, ho⟩ => ⟨r x, lb, _, he, SameNums.refl _, St.upd hw hi (by rw [hv]) (S := [g]) (by simp [hg]) hp ho, k x hx⟩⟩

/-- Rows that a callee has made, one apart from the other. -/
structure Fresh (base : Nat) (os : List Own) (w : World) : Prop where
  own : ∀ o ∈ os, owns w base o.e o.size o.v o.n o.xs
  apart : (os.filterMap (·.v.ownBlock)).Nodup

theorem St.adopts {w0 : World} {S0 : List Nat} (h : Eng.St w0 S0 lb rs w) (hb : Below w.heap.size w w') {os : List Own} (ho : Fresh w.heap.size os w') : Eng.St w0 S0 lb (rs ++ os) w' := by
  have h' := h.call hb
  have hbl := blks_lt h
  refine ⟨h'.os, h'.tape, h'.output, h'.size, h'.old, h'.box, fun o hm => ?_, ?_⟩
  · rw [List.mem_append] at hm
    rcases hm with hm | hm
    · exact h'.own o hm
    · have h1 := ho.own o hm
      refine ⟨⟨h1.1, ?_⟩, fun g hg => .inl (Nat.le_trans h.size (h1.lt g hg).1)⟩
      rcases h1.2 with hn | ⟨g, cap, cur, hv, _, hr⟩
      · exact .inl hn
      · exact .inr ⟨g, cap, cur, hv, Nat.zero_le _, hr⟩
  · rw [List.filterMap_append, ← List.append_assoc, List.nodup_append]
    refine ⟨h.disj, ho.apart, fun g hg g' hg' e => ?_⟩
    have h1 := hbl g hg
    rw [List.mem_filterMap] at hg'
    obtain ⟨o, hm, hg'⟩ := hg'
    have := ((ho.own o hm).lt g' hg').1
    omega
theorem CallS.own {α : Type} {r : α → Value} {φ : α → Prop} {os : α → List Own} (hc : ∀ w, C.St lb rs w → Calls C.P f args w fun e w' => ∃ x, φ x ∧ e = .returned (r x) ∧ Below w.heap.size w w' ∧ Fresh w.heap.size (os x) w')
    (k : ∀ x, φ x → K (.v (r x)) lb (rs ++ os x)) : CallS C lb rs f args K :=
  ⟨fun w hw => (hc w hw).mono fun e w' ⟨x, hx, he, hb, ho⟩ => ⟨r x, lb, _, he, SameNums.refl _, St.adopts hw hb ho, k x hx⟩⟩
/-- More rows, all of them beyond what is known. -/
theorem St.more {w0 : World} {S0 : List Nat} {B : Nat} (h : Eng.St w0 S0 lb rs w) (hB : w0.heap.size ≤ B) (hbl : ∀ g ∈ lb.map (·.blk) ++ rs.filterMap (·.v.ownBlock), g < B) {os : List Own} (ho : Fresh B os w) : Eng.St w0 S0 lb (rs ++ os) w := by
  refine ⟨h.os, h.tape, h.output, h.size, h.old, h.box, fun o hm => ?_, ?_⟩
  · rw [List.mem_append] at hm
    rcases hm with hm | hm
    · exact h.own o hm
    · have h1 := ho.own o hm
      refine ⟨⟨h1.1, ?_⟩, fun g hg => .inl (Nat.le_trans hB (h1.lt g hg).1)⟩
      rcases h1.2 with hn | ⟨g, cap, cur, hv, _, hr⟩
      · exact .inl hn
      · exact .inr ⟨g, cap, cur, hv, Nat.zero_le _, hr⟩
  · rw [List.filterMap_append, ← List.append_assoc, List.nodup_append]
    refine ⟨h.disj, ho.apart, fun g hg g' hg' e => ?_⟩
    have h1 := hbl g hg
    rw [List.mem_filterMap] at hg'
    obtain ⟨o, hm, hg'⟩ := hg'
    have := ((ho.own o hm).lt g' hg').1
    omega
theorem filterMap_set {o o' : Own} (hv : o'.v.ownBlock = o.v.ownBlock) : ∀ (l : List Own) (i : Nat), l[i]? = some o → (l.set i o').filterMap (·.v.ownBlock) = l.filterMap (·.v.ownBlock) := by
  intro l
  induction l with
  | nil => intro i h; simp at h
  | cons x l ih =>
    intro i h
    cases i with
    | zero => simp at h; subst h; simp [List.filterMap_cons, hv]
    | succ i => simp at h; simp only [List.set_cons_succ, List.filterMap_cons]; rw [ih i h]
/-- A callee that turns one row and makes others. -/
theorem CallS.updOwn {α : Type} {r : α → Value} {φ : α → Prop} {o : Own} {o' : α → Own} {os : α → List Own} {i g : Nat} (hi : rs[i]? = some o) (hg : o.v.ownBlock = some g) (hv : ∀ x, (o' x).v = o.v)
    (hc : ∀ w, C.St lb rs w → Calls C.P f args w fun e w' => ∃ x, φ x ∧ e = .returned (r x) ∧ Pres [g] w w' ∧ owns w' 0 (o' x).e (o' x).size (o' x).v (o' x).n (o' x).xs ∧ Fresh w.heap.size (os x) w')
    (k : ∀ x, φ x → K (.v (r x)) lb (rs.set i (o' x) ++ os x)) : CallS C lb rs f args K :=
  ⟨fun w hw => (hc w hw).mono fun e w' ⟨x, hx, he, hp, ho, hf⟩ => ⟨r x, lb, _, he, SameNums.refl _,
    St.more (St.upd hw hi (by rw [hv]) (S := [g]) (by simp [hg]) hp ho) hw.size (by rw [filterMap_set (by rw [hv]) rs i hi]; exact blks_lt hw) hf, k x hx⟩⟩
theorem Fresh.nil (base : Nat) (w : World) : Fresh base [] w := ⟨by simp, by simp⟩

/-- At the end: rows made by the function itself are fresh. -/
theorem St.fresh {w0 : World} {os : List Own} (h : Eng.St w0 [] lb rs w) (hs : os.Sublist rs) : Fresh w0.heap.size os w := by
  refine ⟨fun o ho => ?_, ?_⟩
  · obtain ⟨h1, h2⟩ := h.own o (hs.subset ho)
    refine ⟨h1.1, ?_⟩
    rcases h1.2 with hn | ⟨g, cap, cur, hv, _, hr⟩
    · exact .inl hn
    · refine .inr ⟨g, cap, cur, hv, ?_, hr⟩
      rcases h2 g (by rw [hv]; rfl) with h3 | h3
      · exact h3
      · simp at h3
  · have hd := h.disj
    rw [List.nodup_append] at hd
    exact List.Nodup.sublist (List.Sublist.filterMap _ hs) hd.2.1

/-! ### append -/
theorem run_append_any {P : Program} (t ty e : TypeId) {ti : TI} (ht : P.underlying t = some (.slice e)) (hi : TiOk P e ti) (hsz : 0 < ti.size)
    (v : Value) (n : Nat) (xs : List Value) (hown : owns w 0 e ti.size v n xs) (A : Option Addr) (m c : Nat) (news : List Value) (hr : Reads w ti.size A m news) (h1 : ∀ u ∈ news, isOne u = true)
    (h63 : n + m ≤ maxLen) (hbytes : (n + m) * ti.bytes ≤ 140737488355328) :
    ∃ v' w', (Builtin.append_ #[t, t] ty #[v, .slice A m c]).run P w = .ok v' w' ∧ owns w' 0 e ti.size v' (n + m) (xs ++ news) ∧ w.grownBy w' v.ownBlock ∧ (v'.ownBlock = v.ownBlock ∨ v'.ownBlock = some w.heap.size) := by
  obtain ⟨i, d, z, hinfo, hu, hd, hs, hby, hz, hzc, hzl⟩ := hi.out
  have hsz' := run_sizeOf hi w
  have hzs : z.cells.size = i.size := by rw [← Array.length_toList, hzc, hzl, hs]
  have hsmall : n + m ≤ 9223372036854775807 := by simp only [maxLen] at h63; omega
  have hlen : (xs ++ news).length = (n + m) * ti.size := by rw [List.length_append, hown.1, hr.1, Nat.add_mul]
  have h1' : ∀ u ∈ news, u.oneCell' = true := fun u hu => by rw [← isOne_one]; exact h1 u hu
  by_cases hm0 : m = 0
  · -- nothing to append
    subst hm0
    have hn : news = [] := List.eq_nil_of_length_eq_zero (by simpa using hr.1)
    subst hn
    refine ⟨v, w, ?_, by simpa using hown, ⟨rfl, rfl, rfl, Nat.le_refl _, fun _ _ _ => rfl⟩, .inl rfl⟩
    have hf : ∀ (A : Option Addr), (Builtin.firstCells ti.size 0 (.slice A 0 c)).run P w = .ok #[] w := by
      intro A
      cases A <;> simp [Builtin.firstCells, loadCells, loadCellsFrom]
    rcases hown.2 with ⟨rfl, rfl⟩ | ⟨g, cap, cur, rfl, _, _, hnc, _⟩
    · simp [Builtin.append_, run_underlying ht, hsz', Builtin.lenOf, hf]
    · simp [Builtin.append_, run_underlying ht, hsz', Builtin.lenOf, hf, hnc, storeCells]
  · obtain ⟨ad, rfl, hc⟩ := hr.2 (by omega)
    have grown : ∀ (old : Nat), old < n + m → ∀ (row : Option Nat),
        owns (w.drew.alloc (.cells (xs.toArray ++ news.toArray ++ Builtin.zeroCells z.cells (grownCap w (n + m) old e - (n + m))) e)) 0 e ti.size
          (.slice (some ⟨w.heap.size, 0, none⟩) (n + m) (grownCap w (n + m) old e)) (n + m) (xs ++ news) ∧
        w.grownBy (w.drew.alloc (.cells (xs.toArray ++ news.toArray ++ Builtin.zeroCells z.cells (grownCap w (n + m) old e - (n + m))) e)) row := by
      intro old ho row
      have hge := grownCap_ge w (n + m) old e
      have hcm : grownCap w (n + m) old e ≤ maxLen := grownCap_le_maxLen w (n + m) old e h63
      refine ⟨⟨hlen, .inr ⟨w.heap.size, _, _, rfl, Nat.zero_le _, heap_alloc_new w.drew _, hge, hcm, ?_, ?_⟩⟩, ⟨rfl, rfl, rfl, by simp, fun k hk _ => heap_alloc_old w.drew _ hk⟩⟩
      · simp only [Array.size_append, List.size_toArray, size_zeroCells, hzs, hown.1, hr.1, hs, ← Nat.add_mul]
        rw [show n + m + (grownCap w (n + m) old e - (n + m)) = grownCap w (n + m) old e by omega]
        exact Nat.le_refl _
      · simp only [Array.toList_append, List.append_assoc]
        rw [← List.append_assoc, ← hlen]
        exact List.take_left
    have hl' : news.length = m * i.size := by rw [hs]; exact hr.1
    rcases hown.2 with ⟨rfl, rfl⟩ | ⟨g, cap, cur, rfl, hbg, hg, hnc, hcm, hcs, htake⟩
    · have hx : xs = [] := List.eq_nil_of_length_eq_zero (by simpa using hown.1)
      subst hx
      have hrun := run_append_nil (P := P) w t ty e i z ht hinfo hz ad m c news hl' hc (by omega) (by omega) (by rw [hby]; have hb := hbytes; simp only [Nat.zero_add] at hb; omega)
      have hgr := grown 0 (by omega) (Value.ownBlock (.slice none 0 0))
      simp only [Nat.zero_add, List.nil_append, Array.empty_append] at hgr ⊢
      exact ⟨_, _, hrun, hgr.1, hgr.2, .inr rfl⟩
    · by_cases hroom : n + m ≤ cap
      · have hfit : n * ti.size + news.length ≤ cur.size := by
          rw [hr.1, ← Nat.add_mul]
          exact Nat.le_trans (Nat.mul_le_mul_right _ hroom) hcs
        have hrun := run_append_room (P := P) w t ty e i ht hinfo g n cap cur hg ad m c news hl' hc h1' hroom (by rw [hs]; exact hfit)
        rw [hs] at hrun
        refine ⟨_, _, hrun, ⟨hlen, .inr ⟨g, cap, _, rfl, hbg, setRow_heap w g cur _ e _ hg, hroom, hcm, ?_, ?_⟩⟩, ⟨rfl, rfl, rfl, by simp, fun k _ hk => setRow_other w g k _ (fun e => hk (by simp [Value.ownBlock, e]))⟩, .inl rfl⟩
        · simp only [List.size_toArray, List.length_append, List.length_take, List.length_drop, Array.length_toList]
          omega
        · rw [htake, ← hlen]
          exact List.take_left
      · have holds : ∀ j u, xs[j]? = some u → w.cell? ((⟨g, 0, none⟩ : Addr).add j) = some u := hown.cells (g := g) rfl
        have hrun := run_append_grow (P := P) w t ty e i z ht hinfo hz ⟨g, 0, none⟩ n cap xs (by rw [hs]; exact hown.1) holds ad m c news hl' hc (by omega) (by omega) (by rw [hby]; exact growslice_fits (by omega) hbytes)
        have hgr := grown cap (by omega) (Value.ownBlock (.slice (some ⟨g, 0, none⟩) n cap))
        exact ⟨_, _, hrun, hgr.1, hgr.2, .inr rfl⟩

theorem own_form {base : Nat} {e : TypeId} {size n : Nat} {v : Value} {xs : List Value} (h : owns w base e size v n xs) : ∃ A c, v = .slice A n c := by
  rcases h.2 with ⟨rfl, rfl⟩ | ⟨g, cap, cur, rfl, _⟩
  · exact ⟨none, 0, rfl⟩
  · exact ⟨_, cap, rfl⟩

/-- A row replaced by a grown one. -/
theorem St.regrow {w0 : World} {S0 : List Nat} (hS : Eng.St w0 S0 lb rs w) {i : Nat} {o o' : Own} (hi : rs[i]? = some o) (hg : w.grownBy w' o.v.ownBlock)
    (ho' : owns w' 0 o'.e o'.size o'.v o'.n o'.xs) (hat : o'.v.ownBlock = o.v.ownBlock ∨ o'.v.ownBlock = some w.heap.size) : Eng.St w0 S0 lb (rs.set i o') w' := by
  have hp : ∃ S, Pres S w w' ∧ ∀ g ∈ S, o.v.ownBlock = some g := by
    cases hb : o.v.ownBlock with
    | none => exact ⟨[], ⟨hg.os, hg.tape, hg.output, hg.size, fun k hk _ => hg.block k hk (by rw [hb]; simp)⟩, by simp⟩
    | some g => exact ⟨[g], ⟨hg.os, hg.tape, hg.output, hg.size, fun k hk hn => hg.block k hk (by rw [hb]; simpa using hn)⟩, by simp⟩
  obtain ⟨S, hp, hSb⟩ := hp
  rcases hat with hat | hat
  · exact St.upd hS hi hat hSb hp ho'
  · -- a new block: the old row is dropped, the new one taken in at its place
    have hd := hS.disj
    have hbl := blks_lt hS
    have hom : o ∈ rs := List.mem_of_getElem? hi
    have hio : i < rs.length := (List.getElem?_eq_some_iff.1 hi).1
    have hsub : ∀ g, g ∈ (rs.set i o').filterMap (·.v.ownBlock) → g = w.heap.size ∨ g ∈ rs.filterMap (·.v.ownBlock) := by
      intro g hgm
      rw [List.mem_filterMap] at hgm
      obtain ⟨x, hx, hxg⟩ := hgm
      rcases List.mem_or_eq_of_mem_set hx with hm | rfl
      · exact .inr (List.mem_filterMap.2 ⟨x, hm, hxg⟩)
      · rw [hat] at hxg; simp at hxg; exact .inl hxg.symm
    have hsz := hS.size
    rw [List.nodup_append] at hd
    obtain ⟨d1, d2, d3⟩ := hd
    have key : ∀ (l : List Own) (i : Nat), (l.filterMap (·.v.ownBlock)).Nodup → (∀ g ∈ l.filterMap (·.v.ownBlock), g < w.heap.size) → ((l.set i o').filterMap (·.v.ownBlock)).Nodup := by
      intro l
      induction l with
      | nil => intro i hn _; simp
      | cons x l ih =>
        intro i hn hlt
        cases i with
        | zero =>
          simp only [List.set_cons_zero, List.filterMap_cons, hat, List.nodup_cons]
          have hl : (l.filterMap (·.v.ownBlock)).Nodup := by
            simp only [List.filterMap_cons] at hn
            split at hn
            · exact hn
            · exact (List.nodup_cons.1 hn).2
          refine ⟨fun hm => ?_, hl⟩
          have : w.heap.size < w.heap.size := hlt _ (by
            rw [List.mem_filterMap] at hm ⊢
            obtain ⟨y, hy, hyg⟩ := hm
            exact ⟨y, List.mem_cons_of_mem _ hy, hyg⟩)
          omega
        | succ i =>
          have hl : (l.filterMap (·.v.ownBlock)).Nodup := by
            simp only [List.filterMap_cons] at hn
            split at hn
            · exact hn
            · exact (List.nodup_cons.1 hn).2
          have hlt' : ∀ g ∈ l.filterMap (·.v.ownBlock), g < w.heap.size := fun g hg => hlt g (by
            rw [List.mem_filterMap] at hg ⊢
            obtain ⟨y, hy, hyg⟩ := hg
            exact ⟨y, List.mem_cons_of_mem _ hy, hyg⟩)
          have ih' := ih i hl hlt'
          simp only [List.set_cons_succ, List.filterMap_cons]
          split
          · exact ih'
          · rename_i g hxg
            rw [List.nodup_cons]
            refine ⟨fun hm => ?_, ih'⟩
            rw [List.mem_filterMap] at hm
            obtain ⟨y, hy, hyg⟩ := hm
            rcases List.mem_or_eq_of_mem_set hy with hm | rfl
            · simp only [List.filterMap_cons, hxg, List.nodup_cons] at hn
              exact hn.1 (List.mem_filterMap.2 ⟨y, hm, hyg⟩)
            · rw [hat] at hyg
              simp at hyg
              have := hlt g (List.mem_filterMap.2 ⟨x, by simp, hxg⟩)
              omega
    have hlt : ∀ g ∈ rs.filterMap (·.v.ownBlock), g < w.heap.size := fun g hg => hbl g (List.mem_append_right _ hg)
    refine ⟨hp.os.trans hS.os, hp.tape.trans hS.tape, hp.output.trans hS.output, Nat.le_trans hS.size hp.size, fun k hk hn => ?_, fun j b hb => ?_, fun o2 ho2 => ?_, ?_⟩
    · rw [hp.block k (Nat.lt_of_lt_of_le hk hS.size) (fun hs => ?_), hS.old k hk hn]
      rcases (hS.own o hom).2 k (hSb k hs) with h | h
      · omega
      · exact hn h
    · obtain ⟨h1, h2, h3⟩ := hS.box j b hb
      refine ⟨?_, h2, h3⟩
      rw [hp.block _ (heap_lt h1) (fun hs => ?_)]
      · exact h1
      · exact d3 b.blk (List.mem_map.2 ⟨b, List.mem_of_getElem? hb, rfl⟩) b.blk (List.mem_filterMap.2 ⟨o, hom, hSb _ hs⟩) rfl
    · obtain ⟨j, hj⟩ := List.getElem?_of_mem ho2
      rw [List.getElem?_set] at hj
      split at hj
      · rename_i hij
        simp [hij ▸ hio] at hj
        subst hj
        exact ⟨ho', fun g hg => .inl (by rw [hat] at hg; simp at hg; omega)⟩
      · rename_i hij
        obtain ⟨h1, h2⟩ := hS.own o2 (List.mem_of_getElem? hj)
        refine ⟨⟨h1.1, ?_⟩, h2⟩
        rcases h1.2 with hn | ⟨g, cap, cur, hv2, hb2, hg2, hr2⟩
        · exact .inl hn
        · refine .inr ⟨g, cap, cur, hv2, hb2, ?_, hr2⟩
          rw [hp.block g (heap_lt hg2) (fun hs => ?_)]
          · exact hg2
          · have e1 := hSb g hs
            have e2 : o2.v.ownBlock = some g := by rw [hv2]; rfl
            have key2 : ∀ (l : List Own) (i j : Nat), (l.filterMap (·.v.ownBlock)).Nodup → l[i]? = some o → l[j]? = some o2 → i = j := by
              intro l
              induction l with
              | nil => intro i j _ h; simp at h
              | cons x l ih =>
                intro i j hn hi hj
                cases i with
                | zero =>
                  simp at hi
                  subst hi
                  cases j with
                  | zero => rfl
                  | succ j =>
                    simp at hj
                    simp only [List.filterMap_cons, e1, List.nodup_cons] at hn
                    exact absurd (List.mem_filterMap.2 ⟨o2, List.mem_of_getElem? hj, e2⟩) hn.1
                | succ i =>
                  simp at hi
                  cases j with
                  | zero =>
                    simp at hj
                    subst hj
                    simp only [List.filterMap_cons, e2, List.nodup_cons] at hn
                    exact absurd (List.mem_filterMap.2 ⟨o, List.mem_of_getElem? hi, e1⟩) hn.1
                  | succ j =>
                    simp at hj
                    have hn' : (l.filterMap (·.v.ownBlock)).Nodup := by
                      simp only [List.filterMap_cons] at hn
                      split at hn
                      · exact hn
                      · exact (List.nodup_cons.1 hn).2
                    rw [ih i j hn' hi hj]
            exact hij (key2 rs i j d2 hi hj)
    · rw [List.nodup_append]
      refine ⟨d1, key rs i d2 hlt, fun x hx y hy e => ?_⟩
      rcases hsub y hy with h1 | h1
      · have := hbl x (List.mem_append_left _ hx)
        omega
      · exact d3 x hx y h1 e

/-- append onto row number i. -/
theorem SemS.app (hC : C.Ok) {i : Nat} {t ty e : TypeId} {ti : TI} {z1 z2 : Nat} {z3 : List Value} (hT : C.T.get t = some ⟨.slice e, z1, z2, z3⟩) (hTe : C.T.get e = some ti) (hsz : 0 < ti.size)
    {A B : Option Addr} {n c m d : Nat} {xs news : List Value} (hi : rs[i]? = some ⟨e, ti.size, .slice A n c, n, xs⟩)
    (hr : ∀ w, C.St lb rs w → Reads w ti.size B m news) (h1 : ∀ u ∈ news, isOne u = true) (h63 : n + m ≤ maxLen) (hby : (n + m) * ti.bytes ≤ 140737488355328) {K : SV → List Own → Prop}
    (k : ∀ A' c', n + m ≤ c' → K (.v (.slice A' (n + m) c')) (rs.set i ⟨e, ti.size, .slice A' (n + m) c', n + m, xs ++ news⟩)) : SemS C lb rs (Builtin.append_ #[t, t] ty #[.slice A n c, .slice B m d]) K := by
  refine ⟨fun w hw => ?_⟩
  obtain ⟨_, dd, _, _, hu, hd, _⟩ := (hC.tab.get hT).out
  simp only [TD.is] at hd
  subst hd
  have how := (hw.own _ (List.mem_of_getElem? hi)).1
  obtain ⟨v', w', hrun, h2, h3, h4⟩ := run_append_any t ty e hu (hC.tab.get hTe) hsz _ n xs how B m d news (hr w hw) h1 h63 hby
  obtain ⟨A', c', rfl⟩ := own_form h2
  exact ⟨_, w', _, hrun, St.regrow hw hi h3 h2 h4, k A' c' (by
    rcases h2.2 with ⟨hv, h0⟩ | ⟨g, cap, cur, hv, _, _, hnc, _⟩
    · omega
    · simp only [Value.slice.injEq] at hv; omega)⟩
/-- append onto a nil slice that is in no row yet. -/
theorem SemS.app0 (hC : C.Ok) {t ty e : TypeId} {ti : TI} {z1 z2 : Nat} {z3 : List Value} (hT : C.T.get t = some ⟨.slice e, z1, z2, z3⟩) (hTe : C.T.get e = some ti) (hsz : 0 < ti.size)
    {B : Option Addr} {m d : Nat} {news : List Value}
    (hr : ∀ w, C.St lb rs w → Reads w ti.size B m news) (h1 : ∀ u ∈ news, isOne u = true) (h63 : m ≤ maxLen) (hby : m * ti.bytes ≤ 140737488355328) {K : SV → List Own → Prop}
    (k : ∀ A' c', m ≤ c' → K (.v (.slice A' m c')) (rs ++ [⟨e, ti.size, .slice A' m c', m, news⟩])) : SemS C lb rs (Builtin.append_ #[t, t] ty #[.slice none 0 0, .slice B m d]) K := by
  have h := SemS.app (C := C) (lb := lb) (rs := rs ++ [⟨e, ti.size, .slice none 0 0, 0, []⟩]) hC (i := rs.length) (ty := ty) hT hTe hsz (A := none) (n := 0) (c := 0) (xs := []) (B := B) (m := m) (d := d) (news := news) (by simp)
    (fun w hw => hr w (RsTo.sub (List.sublist_append_left _ _) _ _ _ _ hw)) h1 (by omega) (by simpa using hby) (K := K)
    (fun A' c' hc => by
      have := k A' c' (by omega)
      simp only [Nat.zero_add, List.nil_append]
      rw [List.set_append_right _ _ (Nat.le_refl _)]
      simpa using this)
  exact ⟨fun w hw => h.out w (RsTo.nil rs e ti.size _ _ _ _ hw)⟩

/-- make([]T, n). -/
theorem SemS.make (hC : C.Ok) {t e : TypeId} {ti : TI} {z1 z2 : Nat} {z3 : List Value} (hT : C.T.get t = some ⟨.slice e, z1, z2, z3⟩) (hTe : C.T.get e = some ti)
    {a b : Int} (n : Nat) (ha : a = (n : Int)) (hb : b = (n : Int)) (hsm : n * ti.size ≤ 16777216) (hby : ti.bytes * n ≤ 281474976710656) (h63 : n ≤ maxLen) {K : SV → List Own → Prop}
    (k : ∀ (g : Nat) (zs : List Value), zs.length = n * ti.size → K (.v (.slice (some ⟨g, 0, none⟩) n n)) (rs ++ [⟨e, ti.size, .slice (some ⟨g, 0, none⟩) n n, n, zs⟩])) : SemS C lb rs (Instr.makeSlice t (.int .i64 a) (.int .i64 b)) K := by
  refine ⟨fun w hw => ?_⟩
  subst ha hb
  obtain ⟨_, dd, _, _, hu, hd, _⟩ := (hC.tab.get hT).out
  simp only [TD.is] at hd
  subst hd
  obtain ⟨i, d, z, hinfo, _, _, hs, hbb, hz, hzc, hzl⟩ := (hC.tab.get hTe).out
  have h63' : (n : Int) ≤ 9223372036854775807 := by
    have h := h63
    simp only [maxLen] at h
    omega
  have hrun := run_makeSlice (P := C.P) w t e i z hu hinfo hz .i64 .i64 (n : Int) (n : Int) (by omega) (Int.le_refl _) (by rw [hs, Int.toNat_natCast]; exact hsm) (by rw [hbb, ← Int.natCast_mul]; omega) h63'
  rw [Int.toNat_natCast, hs] at hrun
  have hb := below_alloc w (.cells (madeCells z.cells (n * ti.size)) e)
  have ho := owns_lit (base := w.heap.size) (e := e) (size := ti.size) w (madeCells z.cells (n * ti.size)) n (Nat.le_refl _) h63 (by rw [size_madeCells])
  exact ⟨_, _, _, hrun, hw.adopt (o := ⟨e, ti.size, .slice (some ⟨w.heap.size, 0, none⟩) n n, n, _⟩) hb ho (Nat.le_refl _), k _ _ ho.1⟩
end
end Go.Proofs.Ytfjedjcdmaoeoaa.Eng
