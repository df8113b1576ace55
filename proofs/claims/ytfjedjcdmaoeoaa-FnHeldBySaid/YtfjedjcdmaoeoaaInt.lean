/- What the small functions on slices of ints compute; conditions: none. -/
import Derived.Test.YtfjedjcdmaoeoaaRow
import Derived.Test.YtfjedjcdmaoeoaaLift
set_option maxRecDepth 100000
set_option linter.unusedVariables false
set_option linter.unusedSimpArgs false
namespace Go.Proofs.Ytfjedjcdmaoeoaa
open Eng Go Go.RowKit

def up : Int → Nat → List Int
  | _, 0 => []
  | s, k + 1 => s :: up (s + 1) k
theorem up_length : ∀ (k : Nat) (s : Int), (up s k).length = k
  | 0, s => rfl
  | k + 1, s => by simp [up, up_length k]
theorem up_snoc : ∀ (k : Nat) (s : Int), up s (k + 1) = up s k ++ [s + k]
  | 0, s => by simp [up]
  | k + 1, s => by
    have h := up_snoc k (s + 1)
    rw [up, h, up, List.cons_append]
    congr 3
    omega
theorem up_get : ∀ {k : Nat} {s : Int} {j : Nat} {z : Int}, (up s k)[j]? = some z → z = s + j
  | 0, s, j, z, h => by simp [up] at h
  | k + 1, s, 0, z, h => by simp [up] at h; omega
  | k + 1, s, j + 1, z, h => by
    simp only [up, List.getElem?_cons_succ] at h
    have := up_get h
    omega
theorem up_at {k : Nat} {s : Int} {j : Nat} (h : j < k) : (up s k)[j]? = some (s + j) := by
  have h1 := List.getElem?_eq_getElem (l := up s k) (i := j) (by rw [up_length]; exact h)
  rw [h1, up_get h1]

def i64s (l : List Int) : List Value := l.map I64
theorem i64s_one (l : List Int) : ∀ u ∈ i64s l, isOne u = true := by
  intro u hu
  obtain ⟨z, _, rfl⟩ := List.mem_map.1 hu
  rfl
theorem i64s_len (l : List Int) : (i64s l).length = l.length := List.length_map ..
/-- A slice of ints, not too long to be walked. -/
structure IntsL (w : World) (A : Option Addr) (n : Nat) (l : List Int) : Prop where
  rd : Reads w 1 A n (i64s l)
  le : n ≤ 2000000
section
variable {w w' : World} {A : Option Addr} {n : Nat} {l : List Int}
theorem IntsL.len (h : IntsL w A n l) : l.length = n := by have := h.rd.1; rw [i64s_len] at this; omega
theorem IntsL.at_ (h : IntsL w A n l) {k : Nat} (hk : k < n) : ∃ ad z, A = some ad ∧ l[k]? = some z ∧ z ∈ l ∧ w.cell? (ad.add k) = some (.int .i64 z) := by
  have hl := h.len
  obtain ⟨ad, e, hc⟩ := h.rd.2 (by omega)
  have hx : l[k]? = some l[k] := List.getElem?_eq_getElem (by omega)
  exact ⟨ad, l[k], e, hx, List.getElem_mem _, hc k _ (by simp [i64s, hx])⟩
theorem IntsL.below (h : IntsL w A n l) (hb : Below w.heap.size w w') : IntsL w' A n l := ⟨h.rd.below hb, h.le⟩
theorem IntsL.take (h : IntsL w A n l) {k : Nat} (hk : k ≤ n) : IntsL w A k (l.take k) := by
  have hl := h.len
  have hn := h.le
  refine ⟨⟨by rw [i64s_len, List.length_take]; omega, fun h0 => ?_⟩, by omega⟩
  obtain ⟨ad, e, hc⟩ := h.rd.2 (by omega)
  refine ⟨ad, e, fun j u hu => hc j u ?_⟩
  rw [i64s, List.map_take, List.getElem?_take] at hu
  split at hu
  · exact hu
  · simp at hu
theorem St.intsR {w0 : World} {S0 : List Nat} {lb : List Box} {rs : List Own} {c : Nat} (hS : Eng.St w0 S0 lb rs w) (i : Nat) (hi : rs[i]? = some (rowOf 3 1 A n c (i64s l))) (hn : n ≤ 2000000) : IntsL w A n l := ⟨hS.rowR (List.mem_of_getElem? hi), hn⟩
theorem St.ints {w0 : World} {S0 : List Nat} {lb : List Box} {rs : List Own} {c : Nat} (hS : Eng.St w0 S0 lb rs w) (i : Nat) (hi : rs[i]? = some ⟨3, 1, .slice A n c, n, i64s l⟩) (hn : n ≤ 2000000) : IntsL w A n l := ⟨hS.row (List.mem_of_getElem? hi), hn⟩
end

/-! ### Structs of ints compared -/
def okF (it : TypeId) : List Field → Nat → Bool
  | [], _ => true
  | f :: r, k => (f.name != "_") && Nat.beq f.type it && Nat.beq f.offset k && okF it r (k + 1)
theorem run_eqFields {P : Program} {it : TypeId} {ti : TI} (hti : TiOk P it ti) (hag : ti.d.agg = false) (hu : P.underlying it = some (.int .i64)) (d : Nat) (w : World) (us vs : List Int) (hl : vs.length = us.length) :
    ∀ (fs : List Field) (k : Nat), okF it fs k = true → fs.length + k = us.length → (Op.eqFields (d + 1) (i64s us).toArray (i64s vs).toArray fs).run P w = .ok (decide (us.drop k = vs.drop k)) w
  | [], k, _, h => by
    have e1 : us.drop k = [] := List.drop_eq_nil_of_le (by simp at h; omega)
    have e2 : vs.drop k = [] := List.drop_eq_nil_of_le (by simp at h; omega)
    simp [Op.eqFields, e1, e2]
  | f :: r, k, ho, h => by
    simp only [okF, Bool.and_eq_true, bne_iff_ne] at ho
    obtain ⟨⟨⟨h1, h2⟩, h3⟩, h4⟩ := ho
    have h2 := Nat.eq_of_beq_eq_true h2
    have h3 := Nat.eq_of_beq_eq_true h3
    simp only [List.length_cons] at h
    have hk : k < us.length := by omega
    have hk' : k < vs.length := by omega
    have hp : ∀ (l : List Int) (hk : k < l.length), (part it (i64s l).toArray k).run P w = .ok (.int .i64 l[k]) w := by
      intro l hk
      have hc : (i64s l).toArray[k]? = some (.int .i64 l[k]) := by simp [i64s, hk]
      simp [part, run_isAgg hti, hag, hc]
    have ih := run_eqFields hti hag hu d w us vs hl r (k + 1) h4 (by omega)
    have e1 : us.drop k = us[k] :: us.drop (k + 1) := List.drop_eq_getElem_cons hk
    have e2 : vs.drop k = vs[k] :: vs.drop (k + 1) := List.drop_eq_getElem_cons hk'
    simp only [Op.eqFields, h1, h2, h3, ne_eq, not_false_eq_true, if_true, Sem.run_bind, hp us hk, hp vs hk', Result.andThen_ok, run_equalIn_int w d it .i64 .i64 _ _ hu, Sem.run_ite, e1, e2, List.cons.injEq]
    by_cases he : us[k] = vs[k]
    · rw [ih]; simp [he]
    · simp [he]
theorem eqS_ints {w0 : World} {S0 : List Nat} {t : TypeId} (h1 : Try.prog.underlying t = some (.struct (Try.prog.fieldsOf t))) (h2 : Try.prog.stoodInHeld t = false) (h3 : Try.prog.eqGuardType Try.prog.depth t = false) (us vs : List Int)
    (h4 : okF 3 (Try.prog.fieldsOf t).toList 0 = true) (h5 : (Try.prog.fieldsOf t).toList.length = us.length) (h6 : vs.length = us.length) {neg : Bool} {K : SV → Prop}
    (k : K (.v (.bool (if neg then !decide (us = vs) else decide (us = vs))))) : EqS (cxS w0 S0) t (i64s us).toArray (i64s vs).toArray neg K := by
  refine ⟨decide (us = vs), fun w => ?_, h3, k⟩
  have hti := (okS w0 S0).tab.get (t := 3) rfl
  have h := run_eqFields hti rfl Try.underlying3 9998 w us vs h6 (Try.prog.fieldsOf t).toList 0 h4 (by omega)
  rw [List.drop_zero, List.drop_zero] at h
  exact (run_equalIn_struct (P := Try.prog) w 9999 t _ _ h1 h2).trans h

theorem eqS_same {w0 : World} {S0 : List Nat} {t : TypeId} (h1 : Try.prog.underlying t = some (.struct (Try.prog.fieldsOf t))) (h2 : Try.prog.stoodInHeld t = false) (h3 : Try.prog.eqGuardType Try.prog.depth t = false) (us : List Int)
    (h4 : okF 3 (Try.prog.fieldsOf t).toList 0 = true) (h5 : (Try.prog.fieldsOf t).toList.length = us.length) {neg : Bool} {K : SV → Prop}
    (k : K (.v (.bool (!neg)))) : EqS (cxS w0 S0) t (i64s us).toArray (i64s us).toArray neg K := by
  refine eqS_ints h1 h2 h3 us us h4 h5 rfl ?_
  rw [decide_eq_true rfl]
  cases neg <;> exact k
theorem set4 (P tl : List Value) (m : Nat) (hP : P.length = m) (h : 4 ≤ tl.length) (a b c d : Value) : ((((P ++ tl).set (m + 0) a).set (m + 1) b).set (m + 2) c).set (m + 3) d = (P ++ [a, b, c, d]) ++ tl.drop 4 := by
  subst hP
  match tl, h with
  | x :: y :: z :: v :: r, _ => simp [List.set_append_right]
theorem set2 (P tl : List Value) (m : Nat) (hP : P.length = m) (h : 2 ≤ tl.length) (a b : Value) : (((P ++ tl).set (m + 0) a).set (m + 1) b) = (P ++ [a, b]) ++ tl.drop 2 := by
  subst hP
  match tl, h with
  | x :: y :: r, _ => simp [List.set_append_right]

theorem laws_isIn_any {A : Option Addr} {n c : Nat} {l : List Int} (z : Int) (w : World) (hL : IntsL w A n l) :
    Calls Try.prog 26 #[.slice A n c, .int .i64 z] w fun e w' => e = .returned (.bool (decide (z ∈ l))) ∧ Below w.heap.size w w' := by
  have hl := hL.len
  have hle := hL.le
  refine enter (C := cxS w []) (okS w []) (St.start w) Try.func26 rfl rfl ?_; conv => whnf
  refine LoopS.same (okS w []) [(4, 17)] [5] rfl (fun k : Nat => [I64 k]) (fun k => k ≤ n ∧ z ∉ l.take k) (fun k => n - k) 0 ⟨by omega, by simp⟩ ⟨rfl, trivial⟩ (LbTo.refl_nil _) (fun k g ⟨hk, hI⟩ => ?_)
  conv => whnf
  refine Sp.mk (fun h => ?_) (fun h => ?_) <;> conv => whnf
  · obtain ⟨ad, x, rfl, hx, hm, hc⟩ := hL.at_ (k := k) (by omega)
    refine IdxS.at_ k rfl rfl (by omega) ?_
    conv => whnf
    refine LdS.at_ (fun w' hS => hS.cell0 hc) ?_
    conv => whnf
    refine Sp.mk (fun h2 => ?_) (fun h2 => ?_) <;> conv => whnf
    · (repeat' (first | (refine Sp.mk (fun hs => ?_) (fun hs => ?_) <;> first | (exfalso; omega) | (conv => whnf)) | (refine Ar.i (by omega) ?_; conv => whnf) | (refine NewS.mk (fun _ => ?_); conv => whnf) | (refine QuoS.nn (by omega) ?_; conv => whnf) | (refine RemS.nn (by omega) ?_; conv => whnf) | (refine QuietS.mk (by as_aux_lemma => kernel_rfl) ?_; conv => whnf) | refine RetS.mk (fun w' hS => ?_)))
      exact ⟨by rw [decide_eq_true (h2 ▸ hm)], hS.below⟩
    · (repeat' (first | (refine Sp.mk (fun hs => ?_) (fun hs => ?_) <;> first | (exfalso; omega) | (conv => whnf)) | (refine Ar.i (by omega) ?_; conv => whnf) | (refine NewS.mk (fun _ => ?_); conv => whnf) | (refine QuoS.nn (by omega) ?_; conv => whnf) | (refine RemS.nn (by omega) ?_; conv => whnf) | (refine QuietS.mk (by as_aux_lemma => kernel_rfl) ?_; conv => whnf) | refine RetS.mk (fun w' hS => ?_)))
      refine ⟨k + 1, ⟨by omega, ?_⟩, by omega, ⟨rfl, trivial⟩, LbTo.refl_nil _, RsTo.refl _⟩
      rw [take_snoc hx, List.mem_append, List.mem_singleton]
      exact fun h => h.elim hI (fun e => h2 e.symm)
  · (repeat' (first | (refine Sp.mk (fun hs => ?_) (fun hs => ?_) <;> first | (exfalso; omega) | (conv => whnf)) | (refine Ar.i (by omega) ?_; conv => whnf) | (refine NewS.mk (fun _ => ?_); conv => whnf) | (refine QuoS.nn (by omega) ?_; conv => whnf) | (refine RemS.nn (by omega) ?_; conv => whnf) | (refine QuietS.mk (by as_aux_lemma => kernel_rfl) ?_; conv => whnf) | refine RetS.mk (fun w' hS => ?_)))
    have hkn : k = n := by omega
    rw [hkn, ← hl, List.take_length] at hI
    exact ⟨by rw [decide_eq_false hI], hS.below⟩
theorem spec_isIn_any {A : Option Addr} {n c : Nat} {l : List Int} (z : Int) (w : World) (hL : IntsL w A n l) :
    Calls Try.prog 79 #[.slice A n c, .int .i64 z] w fun e w' => e = .returned (.bool (decide (z ∈ l))) ∧ Below w.heap.size w w' := by
  have hl := hL.len
  have hle := hL.le
  refine enter (C := cxS w []) (okS w []) (St.start w) Try.func79 rfl rfl ?_; conv => whnf
  refine LoopS.same (okS w []) [(4, 17)] [5] rfl (fun k : Nat => [I64 k]) (fun k => k ≤ n ∧ z ∉ l.take k) (fun k => n - k) 0 ⟨by omega, by simp⟩ ⟨rfl, trivial⟩ (LbTo.refl_nil _) (fun k g ⟨hk, hI⟩ => ?_)
  conv => whnf
  refine Sp.mk (fun h => ?_) (fun h => ?_) <;> conv => whnf
  · obtain ⟨ad, x, rfl, hx, hm, hc⟩ := hL.at_ (k := k) (by omega)
    refine IdxS.at_ k rfl rfl (by omega) ?_
    conv => whnf
    refine LdS.at_ (fun w' hS => hS.cell0 hc) ?_
    conv => whnf
    refine Sp.mk (fun h2 => ?_) (fun h2 => ?_) <;> conv => whnf
    · (repeat' (first | (refine Sp.mk (fun hs => ?_) (fun hs => ?_) <;> first | (exfalso; omega) | (conv => whnf)) | (refine Ar.i (by omega) ?_; conv => whnf) | (refine NewS.mk (fun _ => ?_); conv => whnf) | (refine QuoS.nn (by omega) ?_; conv => whnf) | (refine RemS.nn (by omega) ?_; conv => whnf) | (refine QuietS.mk (by as_aux_lemma => kernel_rfl) ?_; conv => whnf) | refine RetS.mk (fun w' hS => ?_)))
      exact ⟨by rw [decide_eq_true (h2 ▸ hm)], hS.below⟩
    · (repeat' (first | (refine Sp.mk (fun hs => ?_) (fun hs => ?_) <;> first | (exfalso; omega) | (conv => whnf)) | (refine Ar.i (by omega) ?_; conv => whnf) | (refine NewS.mk (fun _ => ?_); conv => whnf) | (refine QuoS.nn (by omega) ?_; conv => whnf) | (refine RemS.nn (by omega) ?_; conv => whnf) | (refine QuietS.mk (by as_aux_lemma => kernel_rfl) ?_; conv => whnf) | refine RetS.mk (fun w' hS => ?_)))
      refine ⟨k + 1, ⟨by omega, ?_⟩, by omega, ⟨rfl, trivial⟩, LbTo.refl_nil _, RsTo.refl _⟩
      rw [take_snoc hx, List.mem_append, List.mem_singleton]
      exact fun h => h.elim hI (fun e => h2 e.symm)
  · (repeat' (first | (refine Sp.mk (fun hs => ?_) (fun hs => ?_) <;> first | (exfalso; omega) | (conv => whnf)) | (refine Ar.i (by omega) ?_; conv => whnf) | (refine NewS.mk (fun _ => ?_); conv => whnf) | (refine QuoS.nn (by omega) ?_; conv => whnf) | (refine RemS.nn (by omega) ?_; conv => whnf) | (refine QuietS.mk (by as_aux_lemma => kernel_rfl) ?_; conv => whnf) | refine RetS.mk (fun w' hS => ?_)))
    have hkn : k = n := by omega
    rw [hkn, ← hl, List.take_length] at hI
    exact ⟨by rw [decide_eq_false hI], hS.below⟩

theorem laws_equalInts_any {A B : Option Addr} {n m c c' : Nat} {l1 l2 : List Int} (w : World) (hA : IntsL w A n l1) (hB : IntsL w B m l2) :
    Calls Try.prog 24 #[.slice A n c, .slice B m c'] w fun e w' => e = .returned (.bool (decide (l1 = l2))) ∧ Below w.heap.size w w' := by
  have hl1 := hA.len
  have hl2 := hB.len
  have hle := hA.le
  refine enter (C := cxS w []) (okS w []) (St.start w) Try.func24 rfl rfl ?_; conv => whnf
  refine Sp.mk (fun h0 => ?_) (fun h0 => ?_) <;> conv => whnf
  rotate_left
  · (repeat' (first | (refine Sp.mk (fun hs => ?_) (fun hs => ?_) <;> first | (exfalso; omega) | (conv => whnf)) | (refine Ar.i (by omega) ?_; conv => whnf) | (refine NewS.mk (fun _ => ?_); conv => whnf) | (refine QuoS.nn (by omega) ?_; conv => whnf) | (refine RemS.nn (by omega) ?_; conv => whnf) | (refine QuietS.mk (by as_aux_lemma => kernel_rfl) ?_; conv => whnf) | refine RetS.mk (fun w' hS => ?_)))
    refine ⟨by rw [decide_eq_false]; intro e; rw [e] at hl1; omega, hS.below⟩
  obtain rfl : n = m := by omega
  refine LoopS.same (okS w []) [(4, 5), (11, 25)] [5] rfl (fun k : Nat => [I64 k]) (fun k => k ≤ n ∧ l1.take k = l2.take k) (fun k => n - k) 0 ⟨by omega, by simp⟩ ⟨rfl, trivial⟩ (LbTo.refl_nil _) (fun k g ⟨hk, hI⟩ => ?_)
  conv => whnf
  refine Sp.mk (fun h => ?_) (fun h => ?_) <;> conv => whnf
  · obtain ⟨ad, x, rfl, hx, hm, hc⟩ := hA.at_ (k := k) (by omega)
    obtain ⟨bd, y, rfl, hy, _, hd⟩ := hB.at_ (k := k) (by omega)
    refine QuietS.mk (by as_aux_lemma => kernel_rfl) ?_
    conv => whnf
    refine IdxS.at_ k rfl rfl (by omega) ?_
    conv => whnf
    refine LdS.at_ (fun w' hS => hS.cell0 hc) ?_
    conv => whnf
    refine IdxS.at_ k rfl rfl (by omega) ?_
    conv => whnf
    refine LdS.at_ (fun w' hS => hS.cell0 hd) ?_
    conv => whnf
    refine Sp.mk (fun h2 => ?_) (fun h2 => ?_) <;> conv => whnf
    · (repeat' (first | (refine Sp.mk (fun hs => ?_) (fun hs => ?_) <;> first | (exfalso; omega) | (conv => whnf)) | (refine Ar.i (by omega) ?_; conv => whnf) | (refine NewS.mk (fun _ => ?_); conv => whnf) | (refine QuoS.nn (by omega) ?_; conv => whnf) | (refine RemS.nn (by omega) ?_; conv => whnf) | (refine QuietS.mk (by as_aux_lemma => kernel_rfl) ?_; conv => whnf) | refine RetS.mk (fun w' hS => ?_)))
      exact ⟨k + 1, ⟨by omega, by rw [take_snoc hx, take_snoc hy, hI, h2]⟩, by omega, ⟨rfl, trivial⟩, LbTo.refl_nil _, RsTo.refl _⟩
    · (repeat' (first | (refine Sp.mk (fun hs => ?_) (fun hs => ?_) <;> first | (exfalso; omega) | (conv => whnf)) | (refine Ar.i (by omega) ?_; conv => whnf) | (refine NewS.mk (fun _ => ?_); conv => whnf) | (refine QuoS.nn (by omega) ?_; conv => whnf) | (refine RemS.nn (by omega) ?_; conv => whnf) | (refine QuietS.mk (by as_aux_lemma => kernel_rfl) ?_; conv => whnf) | refine RetS.mk (fun w' hS => ?_)))
      refine ⟨by rw [decide_eq_false]; intro e; rw [e, hy] at hx; exact h2 (Option.some.inj hx).symm, hS.below⟩
  · (repeat' (first | (refine Sp.mk (fun hs => ?_) (fun hs => ?_) <;> first | (exfalso; omega) | (conv => whnf)) | (refine Ar.i (by omega) ?_; conv => whnf) | (refine NewS.mk (fun _ => ?_); conv => whnf) | (refine QuoS.nn (by omega) ?_; conv => whnf) | (refine RemS.nn (by omega) ?_; conv => whnf) | (refine QuietS.mk (by as_aux_lemma => kernel_rfl) ?_; conv => whnf) | refine RetS.mk (fun w' hS => ?_)))
    have hkn : k = n := by omega
    have e1 : l1.take k = l1 := List.take_of_length_le (by omega)
    have e2 : l2.take k = l2 := List.take_of_length_le (by omega)
    rw [e1, e2] at hI
    exact ⟨by rw [decide_eq_true hI], hS.below⟩
theorem laws_eqIntS_any {A B : Option Addr} {n m c c' : Nat} {l1 l2 : List Int} (w : World) (hA : IntsL w A n l1) (hB : IntsL w B m l2) :
    Calls Try.prog 67 #[.slice A n c, .slice B m c'] w fun e w' => e = .returned (.bool (decide (l1 = l2))) ∧ Below w.heap.size w w' := by
  have hl1 := hA.len
  have hl2 := hB.len
  have hle := hA.le
  refine enter (C := cxS w []) (okS w []) (St.start w) Try.func67 rfl rfl ?_; conv => whnf
  refine Sp.mk (fun h0 => ?_) (fun h0 => ?_) <;> conv => whnf
  rotate_left
  · (repeat' (first | (refine Sp.mk (fun hs => ?_) (fun hs => ?_) <;> first | (exfalso; omega) | (conv => whnf)) | (refine Ar.i (by omega) ?_; conv => whnf) | (refine NewS.mk (fun _ => ?_); conv => whnf) | (refine QuoS.nn (by omega) ?_; conv => whnf) | (refine RemS.nn (by omega) ?_; conv => whnf) | (refine QuietS.mk (by as_aux_lemma => kernel_rfl) ?_; conv => whnf) | refine RetS.mk (fun w' hS => ?_)))
    refine ⟨by rw [decide_eq_false]; intro e; rw [e] at hl1; omega, hS.below⟩
  obtain rfl : n = m := by omega
  refine LoopS.same (okS w []) [(4, 5), (11, 25)] [5] rfl (fun k : Nat => [I64 k]) (fun k => k ≤ n ∧ l1.take k = l2.take k) (fun k => n - k) 0 ⟨by omega, by simp⟩ ⟨rfl, trivial⟩ (LbTo.refl_nil _) (fun k g ⟨hk, hI⟩ => ?_)
  conv => whnf
  refine Sp.mk (fun h => ?_) (fun h => ?_) <;> conv => whnf
  · obtain ⟨ad, x, rfl, hx, hm, hc⟩ := hA.at_ (k := k) (by omega)
    obtain ⟨bd, y, rfl, hy, _, hd⟩ := hB.at_ (k := k) (by omega)
    refine QuietS.mk (by as_aux_lemma => kernel_rfl) ?_
    conv => whnf
    refine IdxS.at_ k rfl rfl (by omega) ?_
    conv => whnf
    refine LdS.at_ (fun w' hS => hS.cell0 hc) ?_
    conv => whnf
    refine IdxS.at_ k rfl rfl (by omega) ?_
    conv => whnf
    refine LdS.at_ (fun w' hS => hS.cell0 hd) ?_
    conv => whnf
    refine Sp.mk (fun h2 => ?_) (fun h2 => ?_) <;> conv => whnf
    · (repeat' (first | (refine Sp.mk (fun hs => ?_) (fun hs => ?_) <;> first | (exfalso; omega) | (conv => whnf)) | (refine Ar.i (by omega) ?_; conv => whnf) | (refine NewS.mk (fun _ => ?_); conv => whnf) | (refine QuoS.nn (by omega) ?_; conv => whnf) | (refine RemS.nn (by omega) ?_; conv => whnf) | (refine QuietS.mk (by as_aux_lemma => kernel_rfl) ?_; conv => whnf) | refine RetS.mk (fun w' hS => ?_)))
      exact ⟨k + 1, ⟨by omega, by rw [take_snoc hx, take_snoc hy, hI, h2]⟩, by omega, ⟨rfl, trivial⟩, LbTo.refl_nil _, RsTo.refl _⟩
    · (repeat' (first | (refine Sp.mk (fun hs => ?_) (fun hs => ?_) <;> first | (exfalso; omega) | (conv => whnf)) | (refine Ar.i (by omega) ?_; conv => whnf) | (refine NewS.mk (fun _ => ?_); conv => whnf) | (refine QuoS.nn (by omega) ?_; conv => whnf) | (refine RemS.nn (by omega) ?_; conv => whnf) | (refine QuietS.mk (by as_aux_lemma => kernel_rfl) ?_; conv => whnf) | refine RetS.mk (fun w' hS => ?_)))
      refine ⟨by rw [decide_eq_false]; intro e; rw [e, hy] at hx; exact h2 (Option.some.inj hx).symm, hS.below⟩
  · (repeat' (first | (refine Sp.mk (fun hs => ?_) (fun hs => ?_) <;> first | (exfalso; omega) | (conv => whnf)) | (refine Ar.i (by omega) ?_; conv => whnf) | (refine NewS.mk (fun _ => ?_); conv => whnf) | (refine QuoS.nn (by omega) ?_; conv => whnf) | (refine RemS.nn (by omega) ?_; conv => whnf) | (refine QuietS.mk (by as_aux_lemma => kernel_rfl) ?_; conv => whnf) | refine RetS.mk (fun w' hS => ?_)))
    have hkn : k = n := by omega
    have e1 : l1.take k = l1 := List.take_of_length_le (by omega)
    have e2 : l2.take k = l2 := List.take_of_length_le (by omega)
    rw [e1, e2] at hI
    exact ⟨by rw [decide_eq_true hI], hS.below⟩

theorem laws_markIntS_any {A : Option Addr} {n c : Nat} {xs : List Value} (k0 : Int) (h0 : 0 ≤ k0 ∧ k0 ≤ 100000000) (w : World) (hn : n ≤ 2000000)
    (ho : owns w 0 3 1 (rowOf 3 1 A n c xs).v n xs) :
    Calls Try.prog 69 #[.slice A n c, .int .i64 k0] w fun e w' => e = .returned (.int .i64 (k0 + n)) ∧ Pres (rowOf 3 1 A n c xs).v.ownBlock.toList w w' ∧ owns w' 0 3 1 (rowOf 3 1 A n c xs).v n (i64s (up k0 n)) := by
  have hlen : xs.length = n * 1 := ho.1
  rcases rowOf_owns (A := A) (n := n) (c := c) (xs := xs) ho with ⟨rfl, rfl, rfl⟩ | ⟨g0, rfl, hc, he, ho'⟩
  · refine enter (C := cxS w []) (okS w []) (St.start w) Try.func69 rfl rfl ?_; conv => whnf
    refine LoopS.same (okS w []) [(1, 1), (5, 17)] [1, 5] rfl (fun k : Nat => [I64 k0, I64 k]) (fun k => k = 0) (fun k => k) 0 rfl ⟨rfl, rfl, trivial⟩ (LbTo.refl_nil _) (fun k g hk => ?_)
    subst hk
    conv => whnf
    (repeat' (first | (refine Sp.mk (fun hs => ?_) (fun hs => ?_) <;> first | (exfalso; omega) | (conv => whnf)) | (refine Ar.i (by omega) ?_; conv => whnf) | (refine NewS.mk (fun _ => ?_); conv => whnf) | (refine QuoS.nn (by omega) ?_; conv => whnf) | (refine RemS.nn (by omega) ?_; conv => whnf) | (refine QuietS.mk (by as_aux_lemma => kernel_rfl) ?_; conv => whnf) | refine RetS.mk (fun w' hS => ?_)))
    refine ⟨by simp, ?_, owns_nil _ _ _ _⟩
    have := hS.pres
    simpa [rowOf_zero, Value.ownBlock] using this
  · rw [he]
    refine enter (C := cxS w [g0]) (okS w [g0]) (St.startRow (o := ⟨3, 1, .slice (some ⟨g0, 0, none⟩) n c, n, xs⟩) ho') Try.func69 rfl rfl ?_
    conv => whnf
    refine LoopS.rows (okS w [g0]) [(1, 1), (5, 17)] [1, 5] rfl (fun s : Nat × List Value => [I64 (k0 + s.1), I64 s.1]) (fun s => [⟨3, 1, .slice (some ⟨g0, 0, none⟩) n c, n, i64s (up k0 s.1) ++ s.2⟩]) (fun s => s.1 ≤ n ∧ s.2.length = n - s.1) (fun s => n - s.1) (0, xs) ⟨by omega, by simpa using hlen⟩ ⟨congrArg (fun z => SV.v (Value.int .i64 z)) (show k0 = k0 + ((0 : Nat) : Int) by simp), rfl, trivial⟩ (LbTo.refl_nil _) (by simpa [up, i64s] using RsTo.refl _) (fun s g ⟨hk, hI⟩ => ?_)
    obtain ⟨k, tl⟩ := s
    dsimp only at hk hI ⊢
    have hP : (i64s (up k0 k)).length = k := by rw [i64s_len, up_length]
    conv => whnf
    refine Sp.mk (fun h => ?_) (fun h => ?_) <;> conv => whnf
    · refine IdxS.at_ k rfl rfl (by omega) ?_
      conv => whnf
      refine SemU.own (okS w [g0]) (i := 0) rfl (t := 3) rfl rfl k rfl (by rw [List.length_append, hP]; omega) rfl ?_
      conv => whnf
      (repeat' (first | (refine Sp.mk (fun hs => ?_) (fun hs => ?_) <;> first | (exfalso; omega) | (conv => whnf)) | (refine Ar.i (by omega) ?_; conv => whnf) | (refine NewS.mk (fun _ => ?_); conv => whnf) | (refine QuoS.nn (by omega) ?_; conv => whnf) | (refine RemS.nn (by omega) ?_; conv => whnf) | (refine QuietS.mk (by as_aux_lemma => kernel_rfl) ?_; conv => whnf) | refine RetS.mk (fun w' hS => ?_)))
      refine ⟨(k + 1, tl.drop 1), ⟨by dsimp only; omega, by rw [List.length_drop]; dsimp only; omega⟩, by dsimp only; omega, ⟨congrArg (fun z => SV.v (Value.int .i64 z)) (show k0 + (k : Int) + 1 = k0 + ((k + 1 : Nat) : Int) by omega), rfl, trivial⟩, LbTo.refl_nil _, ?_⟩
      have h1 := set_mid (i64s (up k0 k)) tl (.int .i64 (k0 + k)) (by omega)
      rw [hP] at h1
      have h2 : i64s (up k0 (k + 1)) = i64s (up k0 k) ++ [.int .i64 (k0 + k)] := by rw [up_snoc, i64s, List.map_append]; rfl
      dsimp only [List.set]
      rw [h1, ← h2]
      exact RsTo.refl _
    · have hkn : k = n := by omega
      have htl : tl = [] := List.eq_nil_of_length_eq_zero (by rw [hI]; omega)
      subst htl
      subst hkn
      (repeat' (first | (refine Sp.mk (fun hs => ?_) (fun hs => ?_) <;> first | (exfalso; omega) | (conv => whnf)) | (refine Ar.i (by omega) ?_; conv => whnf) | (refine NewS.mk (fun _ => ?_); conv => whnf) | (refine QuoS.nn (by omega) ?_; conv => whnf) | (refine RemS.nn (by omega) ?_; conv => whnf) | (refine QuietS.mk (by as_aux_lemma => kernel_rfl) ?_; conv => whnf) | refine RetS.mk (fun w' hS => ?_)))
      refine ⟨rfl, hS.pres, ?_⟩
      have := (hS.own _ (List.mem_singleton.2 rfl)).1
      simpa using this

theorem laws_heldIntS_any {A : Option Addr} {n c : Nat} (k0 : Int) (h0 : 0 ≤ k0 ∧ k0 ≤ 100000000) (w : World) (hL : IntsL w A n (up k0 n)) :
    Calls Try.prog 71 #[.slice A n c, .int .i64 k0] w fun e w' => e = .returned (.int .i64 (k0 + n)) ∧ Below w.heap.size w w' := by
  have hle := hL.le
  refine enter (C := cxS w []) (okS w []) (St.start w) Try.func71 rfl rfl ?_; conv => whnf
  refine LoopS.same (okS w []) [(1, 1), (4, 19)] [1, 5] rfl (fun k : Nat => [I64 (k0 + k), I64 k]) (fun k => k ≤ n) (fun k => n - k) 0 (by omega) ⟨congrArg (fun z => SV.v (Value.int .i64 z)) (show k0 = k0 + ((0 : Nat) : Int) by simp), rfl, trivial⟩ (LbTo.refl_nil _) (fun k g hk => ?_)
  conv => whnf
  refine Sp.mk (fun h => ?_) (fun h => ?_) <;> conv => whnf
  · obtain ⟨ad, x, rfl, hx, hm, hc⟩ := hL.at_ (k := k) (by omega)
    have hxk := up_get hx
    refine IdxS.at_ k rfl rfl (by omega) ?_
    conv => whnf
    refine LdS.at_ (fun w' hS => hS.cell0 hc) ?_
    conv => whnf
    refine Sp.mk (fun h2 => ?_) (fun h2 => absurd hxk h2) <;> conv => whnf
    (repeat' (first | (refine Sp.mk (fun hs => ?_) (fun hs => ?_) <;> first | (exfalso; omega) | (conv => whnf)) | (refine Ar.i (by omega) ?_; conv => whnf) | (refine NewS.mk (fun _ => ?_); conv => whnf) | (refine QuoS.nn (by omega) ?_; conv => whnf) | (refine RemS.nn (by omega) ?_; conv => whnf) | (refine QuietS.mk (by as_aux_lemma => kernel_rfl) ?_; conv => whnf) | refine RetS.mk (fun w' hS => ?_)))
    exact ⟨k + 1, by omega, by omega, ⟨congrArg (fun z => SV.v (Value.int .i64 z)) (show k0 + (k : Int) + 1 = k0 + ((k + 1 : Nat) : Int) by omega), rfl, trivial⟩, LbTo.refl_nil _, RsTo.refl _⟩
  · (repeat' (first | (refine Sp.mk (fun hs => ?_) (fun hs => ?_) <;> first | (exfalso; omega) | (conv => whnf)) | (refine Ar.i (by omega) ?_; conv => whnf) | (refine NewS.mk (fun _ => ?_); conv => whnf) | (refine QuoS.nn (by omega) ?_; conv => whnf) | (refine RemS.nn (by omega) ?_; conv => whnf) | (refine QuietS.mk (by as_aux_lemma => kernel_rfl) ?_; conv => whnf) | refine RetS.mk (fun w' hS => ?_)))
    have hkn : k = n := by omega
    subst hkn
    exact ⟨rfl, hS.below⟩

theorem clip_int_any {A : Option Addr} {n c : Nat} (h : n ≤ c) (w : World) : Calls Try.prog 52 #[.slice A n c] w fun e w' => e = .returned (.slice A n n) ∧ Below w.heap.size w w' := by
  refine enter (C := cxS w []) (okS w []) (St.start w) Try.func52 rfl rfl ?_; conv => whnf
  refine SlcS.hm n n rfl rfl (Nat.le_refl _) h ?_
  conv => whnf
  (repeat' (first | (refine Sp.mk (fun hs => ?_) (fun hs => ?_) <;> first | (exfalso; omega) | (conv => whnf)) | (refine Ar.i (by omega) ?_; conv => whnf) | (refine NewS.mk (fun _ => ?_); conv => whnf) | (refine QuoS.nn (by omega) ?_; conv => whnf) | (refine RemS.nn (by omega) ?_; conv => whnf) | (refine QuietS.mk (by as_aux_lemma => kernel_rfl) ?_; conv => whnf) | refine RetS.mk (fun w' hS => ?_)))
  exact ⟨rfl, hS.below⟩
theorem clip_impl_Hold_any {A : Option Addr} {n c : Nat} (h : n ≤ c) (w : World) : Calls Try.prog 82 #[.slice A n c] w fun e w' => e = .returned (.slice A n n) ∧ Below w.heap.size w w' := by
  refine enter (C := cxS w []) (okS w []) (St.start w) Try.func82 rfl rfl ?_; conv => whnf
  refine SlcS.hm n n rfl rfl (Nat.le_refl _) h ?_
  conv => whnf
  (repeat' (first | (refine Sp.mk (fun hs => ?_) (fun hs => ?_) <;> first | (exfalso; omega) | (conv => whnf)) | (refine Ar.i (by omega) ?_; conv => whnf) | (refine NewS.mk (fun _ => ?_); conv => whnf) | (refine QuoS.nn (by omega) ?_; conv => whnf) | (refine RemS.nn (by omega) ?_; conv => whnf) | (refine QuietS.mk (by as_aux_lemma => kernel_rfl) ?_; conv => whnf) | refine RetS.mk (fun w' hS => ?_)))
  exact ⟨rfl, hS.below⟩
theorem cloneS_int_any {A : Option Addr} {n c : Nat} {xs : List Value} (w : World) (hr : Reads w 1 A n xs) (h1 : ∀ u ∈ xs, isOne u = true) (hn : n ≤ 2000000) :
    Calls Try.prog 81 #[.slice A n c] w fun e w' => ∃ x : Option Addr × Nat, n ≤ x.2 ∧ e = .returned (.slice x.1 n x.2) ∧ Below w.heap.size w w' ∧ Fresh w.heap.size [rowOf 3 1 x.1 n x.2 xs] w' := by
  refine enter (C := cxS w []) (okS w []) (St.start w) Try.func81 rfl rfl ?_; conv => whnf
  refine NilS.mk (fun hA => ?_) (fun ad hA => ?_) <;> conv => whnf
  · have h0 : n = 0 := by
      rcases Nat.eq_zero_or_pos n with h | h
      · exact h
      · obtain ⟨ad, e, _⟩ := hr.2 h
        rw [hA] at e; cases e
    subst h0
    obtain rfl : xs = [] := List.eq_nil_of_length_eq_zero (by simpa using hr.1)
    (repeat' (first | (refine Sp.mk (fun hs => ?_) (fun hs => ?_) <;> first | (exfalso; omega) | (conv => whnf)) | (refine Ar.i (by omega) ?_; conv => whnf) | (refine NewS.mk (fun _ => ?_); conv => whnf) | (refine QuoS.nn (by omega) ?_; conv => whnf) | (refine RemS.nn (by omega) ?_; conv => whnf) | (refine QuietS.mk (by as_aux_lemma => kernel_rfl) ?_; conv => whnf) | refine RetS.mk (fun w' hS => ?_)))
    exact ⟨(none, 0), Nat.le_refl _, rfl, hS.below, Fresh.empty _ _ _ _ _⟩
  · (repeat' (first | (refine Sp.mk (fun hs => ?_) (fun hs => ?_) <;> first | (exfalso; omega) | (conv => whnf)) | (refine Ar.i (by omega) ?_; conv => whnf) | (refine NewS.mk (fun _ => ?_); conv => whnf) | (refine QuoS.nn (by omega) ?_; conv => whnf) | (refine RemS.nn (by omega) ?_; conv => whnf) | (refine QuietS.mk (by as_aux_lemma => kernel_rfl) ?_; conv => whnf) | refine RetS.mk (fun w' hS => ?_)))
    refine SemS.appZ (okS w []) rfl rfl (by decide) (fun w' hS => hS.arg hr) h1 (by simp only [maxLen]; omega) (by simp only; omega) (fun A' c' hc => ?_)
    conv => whnf
    (repeat' (first | (refine Sp.mk (fun hs => ?_) (fun hs => ?_) <;> first | (exfalso; omega) | (conv => whnf)) | (refine Ar.i (by omega) ?_; conv => whnf) | (refine NewS.mk (fun _ => ?_); conv => whnf) | (refine QuoS.nn (by omega) ?_; conv => whnf) | (refine RemS.nn (by omega) ?_; conv => whnf) | (refine QuietS.mk (by as_aux_lemma => kernel_rfl) ?_; conv => whnf) | refine RetS.mk (fun w' hS => ?_)))
    exact ⟨(A', c'), hc, rfl, hS.below, hS.fresh (by simp)⟩
theorem cloneS_impl_Hold_any {A : Option Addr} {n c : Nat} {xs : List Value} (w : World) (hr : Reads w 2 A n xs) (h1 : ∀ u ∈ xs, isOne u = true) (hn : n ≤ 2000000) :
    Calls Try.prog 83 #[.slice A n c] w fun e w' => ∃ x : Option Addr × Nat, n ≤ x.2 ∧ e = .returned (.slice x.1 n x.2) ∧ Below w.heap.size w w' ∧ Fresh w.heap.size [rowOf 41 2 x.1 n x.2 xs] w' := by
  refine enter (C := cxS w []) (okS w []) (St.start w) Try.func83 rfl rfl ?_; conv => whnf
  refine NilS.mk (fun hA => ?_) (fun ad hA => ?_) <;> conv => whnf
  · have h0 : n = 0 := by
      rcases Nat.eq_zero_or_pos n with h | h
      · exact h
      · obtain ⟨ad, e, _⟩ := hr.2 h
        rw [hA] at e; cases e
    subst h0
    obtain rfl : xs = [] := List.eq_nil_of_length_eq_zero (by simpa using hr.1)
    (repeat' (first | (refine Sp.mk (fun hs => ?_) (fun hs => ?_) <;> first | (exfalso; omega) | (conv => whnf)) | (refine Ar.i (by omega) ?_; conv => whnf) | (refine NewS.mk (fun _ => ?_); conv => whnf) | (refine QuoS.nn (by omega) ?_; conv => whnf) | (refine RemS.nn (by omega) ?_; conv => whnf) | (refine QuietS.mk (by as_aux_lemma => kernel_rfl) ?_; conv => whnf) | refine RetS.mk (fun w' hS => ?_)))
    exact ⟨(none, 0), Nat.le_refl _, rfl, hS.below, Fresh.empty _ _ _ _ _⟩
  · (repeat' (first | (refine Sp.mk (fun hs => ?_) (fun hs => ?_) <;> first | (exfalso; omega) | (conv => whnf)) | (refine Ar.i (by omega) ?_; conv => whnf) | (refine NewS.mk (fun _ => ?_); conv => whnf) | (refine QuoS.nn (by omega) ?_; conv => whnf) | (refine RemS.nn (by omega) ?_; conv => whnf) | (refine QuietS.mk (by as_aux_lemma => kernel_rfl) ?_; conv => whnf) | refine RetS.mk (fun w' hS => ?_)))
    refine SemS.appZ (okS w []) rfl rfl (by decide) (fun w' hS => hS.arg hr) h1 (by simp only [maxLen]; omega) (by simp only; omega) (fun A' c' hc => ?_)
    conv => whnf
    (repeat' (first | (refine Sp.mk (fun hs => ?_) (fun hs => ?_) <;> first | (exfalso; omega) | (conv => whnf)) | (refine Ar.i (by omega) ?_; conv => whnf) | (refine NewS.mk (fun _ => ?_); conv => whnf) | (refine QuoS.nn (by omega) ?_; conv => whnf) | (refine RemS.nn (by omega) ?_; conv => whnf) | (refine QuietS.mk (by as_aux_lemma => kernel_rfl) ?_; conv => whnf) | refine RetS.mk (fun w' hS => ?_)))
    exact ⟨(A', c'), hc, rfl, hS.below, hS.fresh (by simp)⟩
theorem clone_int_any {A : Option Addr} {n c : Nat} {xs : List Value} (w : World) (hr : Reads w 1 A n xs) (h1 : ∀ u ∈ xs, isOne u = true) (hn : n ≤ 2000000) :
    Calls Try.prog 55 #[.slice A n c] w fun e w' => ∃ A' : Option Addr, True ∧ e = .returned (.slice A' n n) ∧ Below w.heap.size w w' ∧ Fresh w.heap.size [rowOf 3 1 A' n n xs] w' := by
  refine enter (C := cxS w []) (okS w []) (St.start w) Try.func55 rfl rfl ?_; conv => whnf
  refine ⟨rfl, CallS.own (fun w' hS => cloneS_int_any w' (hS.arg hr) h1 hn) (fun x hx => ?_)⟩
  conv => whnf
  refine ⟨rfl, CallS.ro (fun w' hS => clip_int_any hx w') ?_⟩
  conv => whnf
  (repeat' (first | (refine Sp.mk (fun hs => ?_) (fun hs => ?_) <;> first | (exfalso; omega) | (conv => whnf)) | (refine Ar.i (by omega) ?_; conv => whnf) | (refine NewS.mk (fun _ => ?_); conv => whnf) | (refine QuoS.nn (by omega) ?_; conv => whnf) | (refine RemS.nn (by omega) ?_; conv => whnf) | (refine QuietS.mk (by as_aux_lemma => kernel_rfl) ?_; conv => whnf) | refine RetS.mk (fun w' hS => ?_)))
  exact ⟨x.1, trivial, rfl, hS.below, (hS.fresh (List.Sublist.refl _)).clipR (Nat.le_refl _) hx⟩
theorem clone_impl_Hold_any {A : Option Addr} {n c : Nat} {xs : List Value} (w : World) (hr : Reads w 2 A n xs) (h1 : ∀ u ∈ xs, isOne u = true) (hn : n ≤ 2000000) :
    Calls Try.prog 58 #[.slice A n c] w fun e w' => ∃ A' : Option Addr, True ∧ e = .returned (.slice A' n n) ∧ Below w.heap.size w w' ∧ Fresh w.heap.size [rowOf 41 2 A' n n xs] w' := by
  refine enter (C := cxS w []) (okS w []) (St.start w) Try.func58 rfl rfl ?_; conv => whnf
  refine ⟨rfl, CallS.own (fun w' hS => cloneS_impl_Hold_any w' (hS.arg hr) h1 hn) (fun x hx => ?_)⟩
  conv => whnf
  refine ⟨rfl, CallS.ro (fun w' hS => clip_impl_Hold_any hx w') ?_⟩
  conv => whnf
  (repeat' (first | (refine Sp.mk (fun hs => ?_) (fun hs => ?_) <;> first | (exfalso; omega) | (conv => whnf)) | (refine Ar.i (by omega) ?_; conv => whnf) | (refine NewS.mk (fun _ => ?_); conv => whnf) | (refine QuoS.nn (by omega) ?_; conv => whnf) | (refine RemS.nn (by omega) ?_; conv => whnf) | (refine QuietS.mk (by as_aux_lemma => kernel_rfl) ?_; conv => whnf) | refine RetS.mk (fun w' hS => ?_)))
  exact ⟨x.1, trivial, rfl, hS.below, (hS.fresh (List.Sublist.refl _)).clipR (Nat.le_refl _) hx⟩

theorem laws_szIntS_any {A : Option Addr} {n c : Nat} (left : Int) (hl : 0 ≤ left ∧ left ≤ 1048576) (hn : n ≤ maxLen) (w : World) :
    Calls Try.prog 63 #[.slice A n c, .int .i64 left] w fun e w' => e = .returned (.int .i64 (if left - n < 0 then -1 else left - n)) ∧ Below w.heap.size w w' := by
  have hn' : n ≤ 9223372036854775807 := by simp only [maxLen] at hn; omega
  refine enter (C := cxS w []) (okS w []) (St.start w) Try.func63 rfl rfl ?_; conv => whnf
  (repeat' (first | (refine Sp.mk (fun hs => ?_) (fun hs => ?_) <;> first | (exfalso; omega) | (conv => whnf)) | (refine Ar.i (by omega) ?_; conv => whnf) | (refine NewS.mk (fun _ => ?_); conv => whnf) | (refine QuoS.nn (by omega) ?_; conv => whnf) | (refine RemS.nn (by omega) ?_; conv => whnf) | (refine QuietS.mk (by as_aux_lemma => kernel_rfl) ?_; conv => whnf) | refine RetS.mk (fun w' hS => ?_)))
  · exact ⟨by rw [if_pos (by assumption)], hS.below⟩
  · exact ⟨by rw [if_neg (by assumption)], hS.below⟩
theorem laws_toIntS_any {A : Option Addr} {n c : Nat} {l : List Int} (w : World) (hL : IntsL w A n l) :
    Calls Try.prog 65 #[.slice A n c] w fun e w' => ∃ A' : Option Addr, True ∧ e = .returned (.slice A' n n) ∧ Below w.heap.size w w' ∧ Fresh w.heap.size [rowOf 3 1 A' n n (i64s l)] w' := by
  have hl := hL.len
  have hle := hL.le
  refine enter (C := cxS w []) (okS w []) (St.start w) Try.func65 rfl rfl ?_; conv => whnf
  refine SemS.make (okS w []) rfl rfl n rfl rfl (by simp only; omega) (by simp only; omega) (by simp only [maxLen]; omega) (fun g0 zs hz => ?_)
  conv => whnf
  have hz' : zs.length = n * 1 := hz
  refine LoopS.rows (okS w []) [(4, 4), (8, 20)] [4] rfl (fun s : Nat × List Value => [I64 s.1]) (fun s => [⟨3, 1, .slice (some ⟨g0, 0, none⟩) n n, n, i64s (l.take s.1) ++ s.2⟩]) (fun s => s.1 ≤ n ∧ s.2.length = n - s.1) (fun s => n - s.1) (0, zs) ⟨by omega, by simpa using hz'⟩ ⟨rfl, trivial⟩ (LbTo.refl_nil _) (by simpa [i64s] using RsTo.refl _) (fun s g ⟨hk, hI⟩ => ?_)
  obtain ⟨k, tl⟩ := s
  dsimp only at hk hI ⊢
  have hP : (i64s (l.take k)).length = k := by rw [i64s_len, List.length_take]; omega
  conv => whnf
  refine Sp.mk (fun h => ?_) (fun h => ?_) <;> conv => whnf
  · obtain ⟨ad, x, rfl, hx, hm, hc⟩ := hL.at_ (k := k) (by omega)
    (repeat' (first | (refine IdxS.at_ k rfl rfl (by omega) ?_; conv => whnf) | (refine LdS.at_ (fun w' hS => hS.cell0 hc) ?_; conv => whnf) | (refine Sp.mk (fun hs => ?_) (fun hs => ?_) <;> first | (exfalso; omega) | (conv => whnf)) | (refine Ar.i (by omega) ?_; conv => whnf) | (refine NewS.mk (fun _ => ?_); conv => whnf) | (refine QuoS.nn (by omega) ?_; conv => whnf) | (refine RemS.nn (by omega) ?_; conv => whnf) | (refine QuietS.mk (by as_aux_lemma => kernel_rfl) ?_; conv => whnf) | refine RetS.mk (fun w' hS => ?_)))
    refine SemU.own (okS w []) (i := 0) rfl (t := 3) rfl rfl k rfl (by rw [List.length_append, hP]; omega) rfl ?_
    conv => whnf
    (repeat' (first | (refine Sp.mk (fun hs => ?_) (fun hs => ?_) <;> first | (exfalso; omega) | (conv => whnf)) | (refine Ar.i (by omega) ?_; conv => whnf) | (refine NewS.mk (fun _ => ?_); conv => whnf) | (refine QuoS.nn (by omega) ?_; conv => whnf) | (refine RemS.nn (by omega) ?_; conv => whnf) | (refine QuietS.mk (by as_aux_lemma => kernel_rfl) ?_; conv => whnf) | refine RetS.mk (fun w' hS => ?_)))
    refine ⟨(k + 1, tl.drop 1), ⟨by dsimp only; omega, by rw [List.length_drop]; dsimp only; omega⟩, by dsimp only; omega, ⟨rfl, trivial⟩, LbTo.refl_nil _, ?_⟩
    have h1 := set_mid (i64s (l.take k)) tl (.int .i64 x) (by omega)
    rw [hP] at h1
    have h2 : i64s (l.take (k + 1)) = i64s (l.take k) ++ [.int .i64 x] := by rw [take_snoc hx, i64s, List.map_append]; rfl
    dsimp only [List.set]
    rw [h1, ← h2]
    exact RsTo.refl _
  · have hkn : k = n := by omega
    have htl : tl = [] := List.eq_nil_of_length_eq_zero (by rw [hI]; omega)
    subst htl
    rw [hkn, ← hl, List.take_length, List.append_nil, hl]
    (repeat' (first | (refine Sp.mk (fun hs => ?_) (fun hs => ?_) <;> first | (exfalso; omega) | (conv => whnf)) | (refine Ar.i (by omega) ?_; conv => whnf) | (refine NewS.mk (fun _ => ?_); conv => whnf) | (refine QuoS.nn (by omega) ?_; conv => whnf) | (refine RemS.nn (by omega) ?_; conv => whnf) | (refine QuietS.mk (by as_aux_lemma => kernel_rfl) ?_; conv => whnf) | refine RetS.mk (fun w' hS => ?_)))
    exact ⟨_, trivial, rfl, hS.below, Fresh.norm (hS.fresh (List.Sublist.refl _))⟩
theorem spec_copyInts_any {A : Option Addr} {n c : Nat} {l : List Int} (w : World) (hL : IntsL w A n l) :
    Calls Try.prog 57 #[.slice A n c] w fun e w' => ∃ x : Option Addr × Nat, n ≤ x.2 ∧ e = .returned (.slice x.1 n x.2) ∧ Below w.heap.size w w' ∧ Fresh w.heap.size [rowOf 3 1 x.1 n x.2 (i64s l)] w' := by
  have hle := hL.le
  refine enter (C := cxS w []) (okS w []) (St.start w) Try.func57 rfl rfl ?_; conv => whnf
  (repeat' (first | (refine Sp.mk (fun hs => ?_) (fun hs => ?_) <;> first | (exfalso; omega) | (conv => whnf)) | (refine Ar.i (by omega) ?_; conv => whnf) | (refine NewS.mk (fun _ => ?_); conv => whnf) | (refine QuoS.nn (by omega) ?_; conv => whnf) | (refine RemS.nn (by omega) ?_; conv => whnf) | (refine QuietS.mk (by as_aux_lemma => kernel_rfl) ?_; conv => whnf) | refine RetS.mk (fun w' hS => ?_)))
  refine SemS.appZ (okS w []) rfl rfl (by decide) (fun w' hS => hS.arg hL.rd) (i64s_one l) (by simp only [maxLen]; omega) (by simp only; omega) (fun A' c' hc => ?_)
  conv => whnf
  (repeat' (first | (refine Sp.mk (fun hs => ?_) (fun hs => ?_) <;> first | (exfalso; omega) | (conv => whnf)) | (refine Ar.i (by omega) ?_; conv => whnf) | (refine NewS.mk (fun _ => ?_); conv => whnf) | (refine QuoS.nn (by omega) ?_; conv => whnf) | (refine RemS.nn (by omega) ?_; conv => whnf) | (refine QuietS.mk (by as_aux_lemma => kernel_rfl) ?_; conv => whnf) | refine RetS.mk (fun w' hS => ?_)))
  exact ⟨(A', c'), hc, rfl, hS.below, hS.fresh (by simp)⟩
theorem call_markI {w0 : World} {S0 : List Nat} {lb : List Box} {rs : List Own} {K : SV → List Box → List Own → Prop} {A : Option Addr} {n c : Nat} {xs : List Value} {k0 : Int} (i : Nat) (hi : rs[i]? = some (rowOf 3 1 A n c xs)) (h0 : 0 ≤ k0 ∧ k0 ≤ 100000000) (hn : n ≤ 2000000)
    (kk : K (.v (.int .i64 (k0 + n))) lb (rs.set i (rowOf 3 1 A n c (i64s (up k0 n))))) :
    memN (cxS w0 S0).F 69 = true ∧ CallS (cxS w0 S0) lb rs 69 #[.slice A n c, .int .i64 k0] K :=
  ⟨rfl, CallS.updR (α := Unit) (r := fun _ => .int .i64 (k0 + n)) (φ := fun _ => True) (ys := fun _ => i64s (up k0 n)) hi (fun w hS => (laws_markIntS_any k0 h0 w hn (hS.own _ (List.mem_of_getElem? hi)).1).mono fun e w' ⟨h1, h2, h3⟩ => ⟨(), trivial, h1, h2, h3⟩) (fun _ _ => kk)⟩
end Go.Proofs.Ytfjedjcdmaoeoaa
