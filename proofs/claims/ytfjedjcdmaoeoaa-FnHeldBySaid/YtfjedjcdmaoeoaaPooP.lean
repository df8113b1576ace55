/- Plain laws on pools, with no program in sight; conditions: none. -/
import Derived.Test.YtfjedjcdmaoeoaaInt
set_option linter.unusedVariables false
set_option linter.unusedSimpArgs false
namespace Go.Proofs.Ytfjedjcdmaoeoaa
open Eng Go Go.RowKit

structure HoldD where
  c : Int
  o : Int
structure PoolD where
  m : Int
  i : List Int
  h : List HoldD
  w : List Int
def hc (h : List HoldD) : List Int := h.map (·.c)
def conns (p : PoolD) : List Int := p.i ++ hc p.h
def okPool (p : PoolD) : Prop := (1 ≤ p.m ∧ p.m ≤ 6) ∧ (conns p).Nodup ∧ (∀ x ∈ conns p, 0 ≤ x ∧ x ≤ p.m - 1) ∧ (∀ x ∈ p.h, 0 ≤ x.o ∧ x.o ≤ 4) ∧ p.w.length ≤ 12 ∧ (∀ x ∈ p.w, 0 ≤ x ∧ x ≤ 4) ∧ (p.w.length = 0 ∨ (p.h.length : Int) = p.m)
instance instDecOkPool (p : PoolD) : Decidable (okPool p) := by unfold okPool List.Nodup; infer_instance
theorem hc_len (h : List HoldD) : (hc h).length = h.length := List.length_map ..
theorem hc_app (a b : List HoldD) : hc (a ++ b) = hc a ++ hc b := List.map_append ..
theorem mem_hc {h : List HoldD} {x : Int} : x ∈ hc h ↔ ∃ y ∈ h, y.c = x := by simp [hc]

/-! ### Numbers in a range, each once -/
theorem pigeon : ∀ (M : Nat) (l : List Int), l.Nodup → (∀ x ∈ l, 0 ≤ x ∧ x < M) → l.length ≤ M ∧ (l.length = M → ∀ c : Int, 0 ≤ c → c < M → c ∈ l) ∧ ((∀ c : Int, 0 ≤ c → c < M → c ∈ l) → M ≤ l.length)
  | 0, l, hn, h => by
    cases l with
    | nil => exact ⟨Nat.le_refl _, fun _ c h1 h2 => by omega, fun _ => Nat.le_refl _⟩
    | cons x l => have := h x (by simp); omega
  | M + 1, l, hn, h => by
    by_cases hm : (M : Int) ∈ l
    · have hn' := hn.erase (M : Int)
      have hl := List.length_erase_of_mem hm
      have hpos : 0 < l.length := List.length_pos_of_mem hm
      obtain ⟨h1, h2, h3⟩ := pigeon M (l.erase (M : Int)) hn' (fun x hx => by
        have hx' := (List.Nodup.mem_erase_iff hn).1 hx
        have := h x hx'.2
        have := hx'.1
        omega)
      refine ⟨by omega, fun e c hc1 hc2 => ?_, fun hall => ?_⟩
      · by_cases hcM : c = M
        · rw [hcM]; exact hm
        · exact List.mem_of_mem_erase (h2 (by omega) c hc1 (by omega))
      · have := h3 (fun c hc1 hc2 => (List.Nodup.mem_erase_iff hn).2 ⟨by omega, hall c hc1 (by omega)⟩)
        omega
    · obtain ⟨h1, h2, h3⟩ := pigeon M l hn (fun x hx => by
        have := h x hx
        have : x ≠ M := fun e => hm (e ▸ hx)
        omega)
      exact ⟨by omega, fun e => by omega, fun hall => absurd (hall M (by omega) (by omega)) hm⟩
theorem pool_room {p : PoolD} (h : okPool p) : (p.i.length : Int) + p.h.length ≤ p.m := by
  obtain ⟨hm, hn, hr, _⟩ := h
  have h1 := (pigeon p.m.toNat (conns p) hn (fun x hx => by have := hr x hx; omega)).1
  have h2 : (conns p).length = p.i.length + p.h.length := by rw [conns, List.length_append, hc_len]
  omega
theorem held_nodup {p : PoolD} (h : okPool p) : (hc p.h).Nodup := (List.nodup_append.1 h.2.1).2.1
theorem idle_nodup {p : PoolD} (h : okPool p) : p.i.Nodup := (List.nodup_append.1 h.2.1).1
theorem idle_held {p : PoolD} (h : okPool p) {x : Int} (hi : x ∈ p.i) : x ∉ hc p.h := fun hh => (List.nodup_append.1 h.2.1).2.2 x hi x hh rfl
theorem idle_range {p : PoolD} (h : okPool p) {x : Int} (hi : x ∈ p.i) : 0 ≤ x ∧ x ≤ p.m - 1 := h.2.2.1 x (List.mem_append_left _ hi)
theorem held_range {p : PoolD} (h : okPool p) {x : Int} (hi : x ∈ hc p.h) : 0 ≤ x ∧ x ≤ p.m - 1 := h.2.2.1 x (List.mem_append_right _ hi)

/-! ### The place of a held connection -/
def idxH : List HoldD → Int → Nat → Int
  | [], _, _ => -1
  | x :: l, c, k => if x.c = c then k else idxH l c (k + 1)
theorem idxH_spec : ∀ (l : List HoldD) (c : Int) (k : Nat), (idxH l c k = -1 ∧ c ∉ hc l) ∨ ∃ (j : Nat) (x : HoldD), idxH l c k = (k + j : Nat) ∧ l[j]? = some x ∧ x.c = c ∧ c ∉ hc (l.take j)
  | [], c, k => .inl ⟨rfl, by simp [hc]⟩
  | x :: l, c, k => by
    by_cases e : x.c = c
    · exact .inr ⟨0, x, by rw [idxH, if_pos e]; simp, by simp, e, by simp [hc]⟩
    · rw [idxH, if_neg e]
      rcases idxH_spec l c (k + 1) with ⟨h1, h2⟩ | ⟨j, y, h1, h2, h3, h4⟩
      · refine .inl ⟨h1, fun hm => ?_⟩
        simp only [hc, List.map_cons, List.mem_cons] at hm
        rcases hm with hm | hm
        · exact e hm.symm
        · exact h2 hm
      · refine .inr ⟨j + 1, y, by rw [h1]; omega, by simpa using h2, h3, fun hm => ?_⟩
        simp only [hc, List.take_succ_cons, List.map_cons, List.mem_cons] at hm
        rcases hm with hm | hm
        · exact e hm.symm
        · exact h4 hm
theorem idxH_nonneg {l : List HoldD} {c : Int} : 0 ≤ idxH l c 0 ↔ c ∈ hc l := by
  rcases idxH_spec l c 0 with ⟨h1, h2⟩ | ⟨j, x, h1, h2, h3, _⟩
  · rw [h1]; exact ⟨fun h => by omega, fun h => absurd h h2⟩
  · rw [h1]; exact ⟨fun _ => mem_hc.2 ⟨x, List.mem_of_getElem? h2, h3⟩, fun _ => by omega⟩
theorem idxH_nodup {l : List HoldD} (h : (hc l).Nodup) {j : Nat} {x : HoldD} (hj : l[j]? = some x) : idxH l x.c 0 = j := by
  rcases idxH_spec l x.c 0 with ⟨_, h2⟩ | ⟨i, y, h1, h2, h3, _⟩
  · exact absurd (mem_hc.2 ⟨x, List.mem_of_getElem? hj, rfl⟩) h2
  · rw [h1]
    have e : i = j := by
      refine nodup_idx h (i := i) (j := j) (x := x.c) ?_ ?_
      · simp [hc, h2, h3]
      · simp [hc, hj]
    rw [e]; simp
theorem idxH_new {l : List HoldD} {x : HoldD} (h : x.c ∉ hc l) : idxH (l ++ [x]) x.c 0 = l.length := by
  have key : ∀ (l : List HoldD) (k : Nat), x.c ∉ hc l → idxH (l ++ [x]) x.c k = (k + l.length : Nat) := by
    intro l
    induction l with
    | nil => intro k _; simp [idxH]
    | cons y l ih =>
      intro k hm
      simp only [hc, List.map_cons, List.mem_cons, not_or] at hm
      rw [List.cons_append, idxH, if_neg (fun e => hm.1 e.symm), ih (k + 1) hm.2]
      simp only [List.length_cons]; omega
  have := key l 0 h
  simpa using this

/-! ### A connection asked for -/
def leastIn (hs : List Int) : Int → Nat → Int
  | s, 0 => s
  | s, k + 1 => if s ∈ hs then leastIn hs (s + 1) k else s
theorem leastIn_spec (hs : List Int) : ∀ (k : Nat) (s : Int), s ≤ leastIn hs s k ∧ leastIn hs s k ≤ s + k ∧ (∀ x, s ≤ x → x < leastIn hs s k → x ∈ hs) ∧ (leastIn hs s k < s + k → leastIn hs s k ∉ hs)
  | 0, s => ⟨Int.le_refl _, by simp [leastIn], fun x h1 h2 => by simp only [leastIn] at h2; omega, fun h => by simp only [leastIn] at h; omega⟩
  | k + 1, s => by
    by_cases hm : s ∈ hs
    · have e : leastIn hs s (k + 1) = leastIn hs (s + 1) k := if_pos hm
      obtain ⟨h1, h2, h3, h4⟩ := leastIn_spec hs k (s + 1)
      rw [e]
      refine ⟨by omega, by omega, fun x hx1 hx2 => ?_, fun h => h4 (by omega)⟩
      by_cases ex : x = s
      · rw [ex]; exact hm
      · exact h3 x (by omega) hx2
    · have e : leastIn hs s (k + 1) = s := if_neg hm
      rw [e]
      exact ⟨Int.le_refl _, by omega, fun x h1 h2 => by omega, fun _ => hm⟩
theorem least_free {p : PoolD} (h : okPool p) (hi : (p.h.length : Int) < p.m) : (0 ≤ leastIn (hc p.h) 0 6 ∧ leastIn (hc p.h) 0 6 ≤ p.m - 1) ∧ leastIn (hc p.h) 0 6 ∉ hc p.h := by
  obtain ⟨h1, h2, h3, h4⟩ := leastIn_spec (hc p.h) 6 0
  have hm := h.1
  have hp := (pigeon p.m.toNat (hc p.h) (held_nodup h) (fun x hx => by have := held_range h hx; omega)).2.2
  have hlt : leastIn (hc p.h) 0 6 < p.m := by
    refine Classical.byContradiction fun hn => ?_
    have := hp (fun c hc1 hc2 => h3 c hc1 (by omega))
    rw [hc_len] at this
    omega
  exact ⟨⟨h1, by omega⟩, h4 (by omega)⟩
def gives (o : Int) : Prop := 0 ≤ o ∧ o ≤ 4
instance instDecGives (o : Int) : Decidable (gives o) := by unfold gives; infer_instance
def lastI (l : List Int) : Int := l.getD (l.length - 1) (-1)
def withHeld (p : PoolD) (i : List Int) (c o : Int) : PoolD := ⟨p.m, i, p.h ++ [⟨c, o⟩], p.w⟩
def acq (p : PoolD) (o : Int) : Option (PoolD × Int) :=
  if okPool p ∧ gives o then
    if p.i.length ≠ 0 then some (withHeld p (p.i.take (p.i.length - 1)) (lastI p.i) o, lastI p.i)
    else if (p.h.length : Int) < p.m then some (withHeld p [] (leastIn (hc p.h) 0 6) o, leastIn (hc p.h) 0 6)
    else if p.w.length = 12 then none else some (⟨p.m, [], p.h, p.w ++ [o]⟩, -1)
  else none
theorem take_last {l : List Int} (h : l.length ≠ 0) : l.take (l.length - 1) ++ [lastI l] = l := by
  have hx : l[l.length - 1]? = some l[l.length - 1] := List.getElem?_eq_getElem (by omega)
  have h1 := take_snoc hx
  rw [show l.length - 1 + 1 = l.length by omega, List.take_length] at h1
  have e : lastI l = l[l.length - 1] := by simp [lastI, List.getD, hx]
  rw [e]; exact h1.symm
theorem lastI_mem {l : List Int} (h : l.length ≠ 0) : lastI l ∈ l := by
  have h1 := take_last h
  have h2 : lastI l ∈ l.take (l.length - 1) ++ [lastI l] := List.mem_append_right _ (List.mem_singleton.2 rfl)
  rwa [h1] at h2
theorem ok_withHeld {p : PoolD} {i : List Int} {c o : Int} (h : okPool p) (ho : gives o) (hw : p.w.length = 0) (hn : (i ++ [c] ++ hc p.h).Nodup) (hr : ∀ x ∈ i ++ [c], 0 ≤ x ∧ x ≤ p.m - 1) : okPool (withHeld p i c o) := by
  have hperm : (conns (withHeld p i c o)).Perm (i ++ [c] ++ hc p.h) := by
    simp only [conns, withHeld, hc_app]
    rw [List.append_assoc]
    refine List.Perm.append_left _ ?_
    exact List.perm_append_comm
  refine ⟨h.1, hperm.nodup_iff.2 hn, fun x hx => ?_, fun x hx => ?_, by simp [withHeld, hw], fun x hx => h.2.2.2.2.2.1 x hx, .inl hw⟩
  · have hx' := hperm.mem_iff.1 hx
    rw [List.mem_append] at hx'
    rcases hx' with hx' | hx'
    · exact hr x hx'
    · exact held_range h hx'
  · simp only [withHeld, List.mem_append, List.mem_singleton] at hx
    rcases hx with hx | rfl
    · exact h.2.2.2.1 x hx
    · exact ho
/-- Who waits: only if all are held. -/
theorem no_wait {p : PoolD} (h : okPool p) (hl : (p.h.length : Int) < p.m) : p.w.length = 0 := by
  rcases h.2.2.2.2.2.2 with h1 | h1
  · exact h1
  · omega
theorem idle_room {p : PoolD} (h : okPool p) (hi : p.i.length ≠ 0) : (p.h.length : Int) < p.m := by have := pool_room h; omega
theorem acq_held {p : PoolD} {o : Int} {q : PoolD} {c : Int} (ha : acq p o = some (q, c)) (hc0 : 0 ≤ c) : okPool p ∧ gives o ∧ okPool q ∧ (p.h.length : Int) < p.m ∧ p.w.length = 0 ∧ c ∉ hc p.h ∧ ∃ i, q = withHeld p i c o ∧ (p.i.length ≠ 0 → i = p.i.take (p.i.length - 1) ∧ c = lastI p.i) ∧ (p.i.length = 0 → i = []) := by
  unfold acq at ha
  split at ha
  · rename_i h
    obtain ⟨h, ho⟩ := h
    split at ha
    · rename_i hi
      simp only [Option.some.injEq, Prod.mk.injEq] at ha
      obtain ⟨rfl, rfl⟩ := ha
      have hl := idle_room h hi
      have hw := no_wait h hl
      have e := take_last hi
      refine ⟨h, ho, ok_withHeld h ho hw (by rw [e]; exact h.2.1) (fun x hx => idle_range h (by rwa [e] at hx)), hl, hw, idle_held h (lastI_mem hi), _, rfl, fun _ => ⟨rfl, rfl⟩, fun h0 => absurd h0 hi⟩
    · rename_i hi
      have hi : p.i.length = 0 := by omega
      split at ha
      · rename_i hl
        simp only [Option.some.injEq, Prod.mk.injEq] at ha
        obtain ⟨rfl, rfl⟩ := ha
        have hw := no_wait h hl
        obtain ⟨h1, h2⟩ := least_free h hl
        refine ⟨h, ho, ok_withHeld h ho hw ?_ (fun x hx => by simp at hx; subst hx; exact h1), hl, hw, h2, [], rfl, fun h0 => absurd hi h0, fun _ => rfl⟩
        simp only [List.nil_append, List.singleton_append, List.nodup_cons]
        exact ⟨h2, held_nodup h⟩
      · split at ha
        · cases ha
        · simp only [Option.some.injEq, Prod.mk.injEq] at ha
          omega
  · cases ha
theorem acq_wait {p : PoolD} {o : Int} {q : PoolD} {c : Int} (ha : acq p o = some (q, c)) (hc0 : c < 0) : okPool p ∧ gives o ∧ okPool q ∧ (p.h.length : Int) = p.m ∧ c = -1 ∧ p.i = [] ∧ q = ⟨p.m, [], p.h, p.w ++ [o]⟩ := by
  unfold acq at ha
  split at ha
  · rename_i h
    obtain ⟨h, ho⟩ := h
    have hroom := pool_room h
    split at ha
    · rename_i hi
      simp only [Option.some.injEq, Prod.mk.injEq] at ha
      have := idle_range h (lastI_mem hi)
      omega
    · rename_i hi
      have hi : p.i = [] := List.eq_nil_of_length_eq_zero (by omega)
      split at ha
      · rename_i hl
        simp only [Option.some.injEq, Prod.mk.injEq] at ha
        have := (least_free h hl).1
        omega
      · rename_i hl
        split at ha
        · cases ha
        · rename_i hw
          simp only [Option.some.injEq, Prod.mk.injEq] at ha
          obtain ⟨rfl, rfl⟩ := ha
          have hw12 := h.2.2.2.2.1
          refine ⟨h, ho, ⟨h.1, ?_, fun x hx => ?_, h.2.2.2.1, by simp; omega, fun x hx => ?_, .inr (by dsimp only; omega)⟩, by omega, rfl, hi, rfl⟩
          · have := h.2.1
            rw [conns, hi] at this
            exact this
          · refine h.2.2.1 x ?_
            rw [conns, hi]
            exact hx
          · simp only [List.mem_append, List.mem_singleton] at hx
            rcases hx with hx | rfl
            · exact h.2.2.2.2.2.1 x hx
            · exact ho
  · cases ha
theorem acq_range {p : PoolD} {o : Int} {q : PoolD} {c : Int} (ha : acq p o = some (q, c)) : c = -1 ∨ (0 ≤ c ∧ c ≤ 5) := by
  by_cases hc0 : 0 ≤ c
  · obtain ⟨h1, _, h3, _, _, _, i, rfl, _, _⟩ := acq_held ha hc0
    have := held_range h3 (x := c) (by simp [withHeld, hc])
    have := h1.1
    simp only [withHeld] at *
    omega
  · exact .inl (acq_wait ha (by omega)).2.2.2.2.1

/-! ### A connection given back -/
def relOk (p : PoolD) (c : Int) : Prop := okPool p ∧ c ∈ hc p.h
instance instDecRelOk (p : PoolD) (c : Int) : Decidable (relOk p c) := by unfold relOk; infer_instance
def relH (p : PoolD) (c : Int) : List HoldD := p.h.eraseIdx (idxH p.h c 0).toNat
def rel (p : PoolD) (c : Int) : PoolD × Int :=
  match p.w with
  | [] => (⟨p.m, p.i ++ [c], relH p c, []⟩, -1)
  | o :: r => (⟨p.m, p.i, relH p c ++ [⟨c, o⟩], r⟩, o)
theorem relH_perm {p : PoolD} {c : Int} (h : c ∈ hc p.h) : (hc p.h).Perm (c :: hc (relH p c)) ∧ (relH p c).length + 1 = p.h.length ∧ ∀ x ∈ relH p c, x ∈ p.h := by
  rcases idxH_spec p.h c 0 with ⟨_, h2⟩ | ⟨j, x, h1, h2, h3, _⟩
  · exact absurd h h2
  · have hj : j < p.h.length := (List.getElem?_eq_some_iff.1 h2).1
    have e : (idxH p.h c 0).toNat = j := by rw [h1]; omega
    have e2 : relH p c = p.h.take j ++ p.h.drop (j + 1) := by rw [relH, e, List.eraseIdx_eq_take_drop_succ]
    have e3 : p.h = p.h.take j ++ x :: p.h.drop (j + 1) := by rw [← drop_at h2, List.take_append_drop]
    refine ⟨?_, ?_, fun y hy => ?_⟩
    · rw [e2]
      conv => lhs; rw [e3]
      simp only [hc, List.map_append, List.map_cons, h3]
      exact List.perm_middle
    · rw [e2, List.length_append, List.length_take, List.length_drop]; omega
    · rw [e2] at hy
      rcases List.mem_append.1 hy with hy | hy
      · exact List.mem_of_mem_take hy
      · exact List.mem_of_mem_drop hy
theorem ok_rel {p : PoolD} {c : Int} (h : relOk p c) : okPool (rel p c).1 := by
  obtain ⟨h, hcm⟩ := h
  obtain ⟨hp, hlen, hsub⟩ := relH_perm hcm
  have hcr := held_range h hcm
  have hroom := pool_room h
  unfold rel
  split
  · rename_i hw
    have hperm : (conns ⟨p.m, p.i ++ [c], relH p c, []⟩).Perm (conns p) := by
      simp only [conns]
      rw [List.append_assoc]
      exact List.Perm.append_left _ hp.symm
    exact ⟨h.1, hperm.nodup_iff.2 h.2.1, fun x hx => h.2.2.1 x (hperm.mem_iff.1 hx), fun x hx => h.2.2.2.1 x (hsub x hx), by simp, by simp, .inl rfl⟩
  · rename_i o r hw
    have hperm : (conns ⟨p.m, p.i, relH p c ++ [⟨c, o⟩], r⟩).Perm (conns p) := by
      simp only [conns, hc_app]
      refine List.Perm.append_left _ (List.Perm.trans ?_ hp.symm)
      exact List.perm_append_comm
    have ho : 0 ≤ o ∧ o ≤ 4 := h.2.2.2.2.2.1 o (by rw [hw]; simp)
    have hw12 := h.2.2.2.2.1
    have hfull : (p.h.length : Int) = p.m := by
      rcases h.2.2.2.2.2.2 with h1 | h1
      · rw [hw] at h1; simp at h1
      · exact h1
    refine ⟨h.1, hperm.nodup_iff.2 h.2.1, fun x hx => h.2.2.1 x (hperm.mem_iff.1 hx), fun x hx => ?_, by rw [hw] at hw12; simp at hw12 ⊢; omega, fun x hx => h.2.2.2.2.2.1 x (by rw [hw]; simp [hx]), .inr (by simp; omega)⟩
    simp only [List.mem_append, List.mem_singleton] at hx
    rcases hx with hx | rfl
    · exact h.2.2.2.1 x (hsub x hx)
    · exact ho
theorem law_back {p : PoolD} {o : Int} {q : PoolD} {c : Int} (ha : acq p o = some (q, c)) (hc0 : 0 ≤ c) : relOk q c ∧ (rel q c).2 = -1 ∧ (rel q c).1.i = q.i ++ [c] ∧ (rel q c).1.h = p.h ∧ (p.i.length ≠ 0 → (rel q c).1 = p) := by
  obtain ⟨h1, h2, h3, h4, h5, h6, i, rfl, h8, h9⟩ := acq_held ha hc0
  have hm : c ∈ hc (withHeld p i c o).h := by simp [withHeld, hc]
  have hw : (withHeld p i c o).w = [] := List.eq_nil_of_length_eq_zero h5
  have hidx : idxH (withHeld p i c o).h c 0 = p.h.length := idxH_new (x := ⟨c, o⟩) h6
  have hrel : relH (withHeld p i c o) c = p.h := by
    rw [relH, hidx]
    simp only [withHeld, Int.toNat_natCast]
    rw [List.eraseIdx_append_of_length_le (Nat.le_refl _)]
    simp
  have e : rel (withHeld p i c o) c = (⟨p.m, i ++ [c], p.h, []⟩, -1) := by
    unfold rel
    rw [hw, hrel]
    rfl
  rw [e]
  refine ⟨⟨h3, hm⟩, rfl, rfl, rfl, fun hi => ?_⟩
  obtain ⟨rfl, rfl⟩ := h8 hi
  have hw' : p.w = [] := List.eq_nil_of_length_eq_zero h5
  dsimp only
  rw [take_last hi, ← hw']

/-! ### Connections held by an owner -/
def heldBy (h : List HoldD) (o : Int) : List Int := match h with
  | [] => []
  | x :: h => (if x.o = o then [x.c] else []) ++ heldBy h o
def HeldBy (p : PoolD) (o : Int) : List Int := if okPool p then heldBy p.h o else []
theorem heldBy_snoc (h : List HoldD) (x : HoldD) (o : Int) : heldBy (h ++ [x]) o = heldBy h o ++ (if x.o = o then [x.c] else []) := by
  induction h with
  | nil => simp [heldBy]
  | cons y h ih => simp only [List.cons_append, heldBy, ih, List.append_assoc]
theorem mem_heldBy {h : List HoldD} {o c : Int} : c ∈ heldBy h o ↔ ∃ x ∈ h, x.o = o ∧ x.c = c := by
  induction h with
  | nil => simp [heldBy]
  | cons y h ih =>
    simp only [heldBy, List.mem_append, ih, List.mem_cons]
    constructor
    · rintro (h1 | ⟨x, h1, h2⟩)
      · split at h1
        · rename_i he
          simp at h1
          exact ⟨y, .inl rfl, he, h1.symm⟩
        · simp at h1
      · exact ⟨x, .inr h1, h2⟩
    · rintro ⟨x, rfl | h1, h2, h3⟩
      · exact .inl (by rw [if_pos h2]; simp [h3])
      · exact .inr ⟨x, h1, h2, h3⟩
theorem heldBy_len (h : List HoldD) (o : Int) : (heldBy h o).length ≤ h.length := by
  induction h with
  | nil => simp [heldBy]
  | cons y h ih =>
    simp only [heldBy, List.length_append, List.length_cons]
    split <;> simp <;> omega
theorem law_heldBy {h : List HoldD} (ho : ∀ x ∈ h, 0 ≤ x.o ∧ x.o ≤ 4) : (heldBy h 0).length + (heldBy h 1).length + (heldBy h 2).length + (heldBy h 3).length + (heldBy h 4).length = h.length := by
  induction h with
  | nil => rfl
  | cons x h ih =>
    have h1 := ih (fun y hy => ho y (List.mem_cons_of_mem _ hy))
    have h2 := ho x (by simp)
    simp only [heldBy, List.length_append, List.length_cons]
    have h3 : x.o = 0 ∨ x.o = 1 ∨ x.o = 2 ∨ x.o = 3 ∨ x.o = 4 := by omega
    rcases h3 with h3 | h3 | h3 | h3 | h3 <;> simp [h3] <;> omega

/-! ### Idle connections closed, parts of a pool -/
def closeL (p : PoolD) (n : Nat) : PoolD := ⟨p.m, p.i.drop n, p.h, p.w⟩
theorem ok_sub {p : PoolD} (h : okPool p) {i : List Int} (hs : i.Sublist p.i) : okPool ⟨p.m, i, p.h, p.w⟩ :=
  ⟨h.1, List.Nodup.sublist (List.Sublist.append hs (List.Sublist.refl _)) h.2.1, fun x hx => h.2.2.1 x ((List.Sublist.append hs (List.Sublist.refl _)).subset hx), h.2.2.2⟩
theorem ok_close {p : PoolD} (h : okPool p) (n : Nat) : okPool (closeL p n) := ok_sub h (List.drop_sublist _ _)
theorem ok_empty {p : PoolD} (h : okPool p) : okPool ⟨p.m, [], [], []⟩ := ⟨h.1, by simp [conns, hc], by simp [conns, hc], by simp, by simp, by simp, .inl rfl⟩
theorem ok_noWait {p : PoolD} (h : okPool p) : okPool ⟨p.m, p.i, p.h, []⟩ := ⟨h.1, h.2.1, h.2.2.1, h.2.2.2.1, by simp, by simp, .inl rfl⟩
theorem ok_perm {p : PoolD} (h : okPool p) {i : List Int} (hp : i.Perm p.i) : okPool ⟨p.m, i, p.h, p.w⟩ := by
  have hperm : (conns ⟨p.m, i, p.h, p.w⟩).Perm (conns p) := List.Perm.append_right _ hp
  exact ⟨h.1, hperm.nodup_iff.2 h.2.1, fun x hx => h.2.2.1 x (hperm.mem_iff.1 hx), h.2.2.2⟩
theorem law_idleWait {p : PoolD} (h : okPool p) : p.w.length = 0 ∨ p.i.length = 0 := by
  rcases h.2.2.2.2.2.2 with h1 | h1
  · exact .inl h1
  · have := pool_room h
    exact .inr (by omega)
end Go.Proofs.Ytfjedjcdmaoeoaa
