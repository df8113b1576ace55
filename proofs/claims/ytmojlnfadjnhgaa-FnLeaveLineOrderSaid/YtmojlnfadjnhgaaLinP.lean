/- Plain laws on lines of tickets, with no program in sight; conditions: none. -/
import Derived.Test.YtmojlnfadjnhgaaInt
set_option linter.unusedVariables false
set_option linter.unusedSimpArgs false
namespace Go.Proofs.Ytmojlnfadjnhgaa
open Eng Go Go.RowKit

structure LineD where
  s : Int
  n : Int
  g : List Int
def Asc (l : List Int) : Prop := l.Pairwise (· < ·)
instance instDecAsc (l : List Int) : Decidable (Asc l) := by unfold Asc; infer_instance
def okLine (l : LineD) : Prop := (0 ≤ l.s ∧ l.s ≤ 1000) ∧ (l.s ≤ l.n ∧ l.n ≤ 1000 ∧ l.n ≤ l.s + 12) ∧ Asc l.g ∧ ∀ x ∈ l.g, l.s ≤ x ∧ x ≤ l.n - 1
instance instDecOkLine (l : LineD) : Decidable (okLine l) := by unfold okLine; infer_instance

theorem mem_up {x : Int} : ∀ {k : Nat} {s : Int}, x ∈ up s k ↔ s ≤ x ∧ x < s + k
  | 0, s => by simp [up]
  | k + 1, s => by
    simp only [up, List.mem_cons, mem_up (k := k)]
    omega
theorem asc_up : ∀ (k : Nat) (s : Int), Asc (up s k)
  | 0, s => List.Pairwise.nil
  | k + 1, s => by
    refine List.pairwise_cons.2 ⟨fun x hx => ?_, asc_up k (s + 1)⟩
    have := mem_up.1 hx
    omega
theorem Asc.filter {l : List Int} (h : Asc l) (p : Int → Bool) : Asc (l.filter p) := List.Pairwise.filter _ h
theorem asc_ext : ∀ {l m : List Int}, Asc l → Asc m → (∀ x, x ∈ l ↔ x ∈ m) → l = m
  | [], m, _, _, h => by
    cases m with
    | nil => rfl
    | cons b m => have := (h b).2 (by simp); simp at this
  | a :: l, [], _, _, h => by have := (h a).1 (by simp); simp at this
  | a :: l, b :: m, hl, hm, h => by
    obtain ⟨l1, l2⟩ := List.pairwise_cons.1 hl
    obtain ⟨m1, m2⟩ := List.pairwise_cons.1 hm
    have ha := (h a).1 (by simp)
    have hb := (h b).2 (by simp)
    have e : a = b := by
      rcases List.mem_cons.1 ha with e | ha
      · exact e
      · rcases List.mem_cons.1 hb with e | hb
        · exact e.symm
        · have := m1 a ha
          have := l1 b hb
          omega
    subst e
    rw [asc_ext l2 m2 fun x => ?_]
    constructor
    · intro hx
      rcases List.mem_cons.1 ((h x).1 (List.mem_cons_of_mem _ hx)) with e | hx'
      · have := l1 x hx; omega
      · exact hx'
    · intro hx
      rcases List.mem_cons.1 ((h x).2 (List.mem_cons_of_mem _ hx)) with e | hx'
      · have := m1 x hx; omega
      · exact hx'
theorem Asc.head_lt {x : Int} {l : List Int} (h : Asc (x :: l)) : ∀ y ∈ l, x < y := (List.pairwise_cons.1 h).1
theorem Asc.tail {x : Int} {l : List Int} (h : Asc (x :: l)) : Asc l := (List.pairwise_cons.1 h).2
theorem Asc.snoc {x : Int} {l : List Int} (h : Asc l) (hx : ∀ y ∈ l, y < x) : Asc (l ++ [x]) := by
  refine List.pairwise_append.2 ⟨h, List.pairwise_singleton _ _, fun y hy z hz => ?_⟩
  rw [List.mem_singleton.1 hz]
  exact hx y hy
theorem filter_split (p : Int → Bool) : ∀ l : List Int, (l.filter p).length + (l.filter (fun x => !p x)).length = l.length
  | [] => rfl
  | x :: l => by
    have h := filter_split p l
    cases hp : p x <;> simp [List.filter_cons, hp] <;> omega

def wait (l : LineD) : List Int := (up l.s (l.n - l.s).toNat).filter (fun t => decide (t ∉ l.g))
theorem mem_wait {l : LineD} {t : Int} : t ∈ wait l ↔ l.s ≤ t ∧ t < l.n ∧ t ∉ l.g := by
  unfold wait
  rw [List.mem_filter, mem_up, decide_eq_true_eq]
  constructor
  · rintro ⟨h1, h2⟩; exact ⟨h1.1, by omega, h2⟩
  · rintro ⟨h1, h2, h3⟩; exact ⟨⟨h1, by omega⟩, h3⟩
theorem asc_wait (l : LineD) : Asc (wait l) := (asc_up _ _).filter _
theorem wait_length {l : LineD} (h : okLine l) : ((wait l).length : Int) = l.n - l.s - l.g.length ∧ (wait l).length ≤ 12 := by
  have h1 := filter_split (fun t => decide (t ∉ l.g)) (up l.s (l.n - l.s).toNat)
  have h2 : (up l.s (l.n - l.s).toNat).filter (fun x => !(decide (x ∉ l.g))) = l.g := by
    refine asc_ext ((asc_up _ _).filter _) h.2.2.1 fun x => ?_
    rw [List.mem_filter, mem_up]
    simp only [Bool.not_eq_true', decide_eq_false_iff_not, Classical.not_not]
    constructor
    · exact fun hx => hx.2
    · intro hx
      have := h.2.2.2 x hx
      exact ⟨by omega, hx⟩
  rw [h2, up_length] at h1
  have e : wait l = (up l.s (l.n - l.s).toNat).filter (fun t => decide (t ∉ l.g)) := rfl
  rw [← e] at h1
  have h3 := h.2.1
  omega
theorem gone_length {l : LineD} (h : okLine l) : l.g.length ≤ 12 := by
  have := (wait_length h).1
  have h3 := h.2.1
  omega

/-! ### A ticket taken -/
def takeOk (l : LineD) : Prop := okLine l ∧ ¬ l.n = 1000 ∧ ¬ l.n = l.s + 12
instance instDecTakeOk (l : LineD) : Decidable (takeOk l) := by unfold takeOk; infer_instance
def takeL (l : LineD) : LineD := ⟨l.s, l.n + 1, l.g⟩
theorem ok_take {l : LineD} (h : takeOk l) : okLine (takeL l) := by
  obtain ⟨⟨h1, h2, h3, h4⟩, h5, h6⟩ := h
  exact ⟨h1, by simp only [takeL]; omega, h3, fun x hx => by have := h4 x hx; simp only [takeL]; omega⟩
theorem wait_take {l : LineD} (h : okLine l) : wait (takeL l) = wait l ++ [l.n] := by
  refine asc_ext (asc_wait _) ((asc_wait l).snoc fun y hy => (mem_wait.1 hy).2.1) fun x => ?_
  rw [List.mem_append, List.mem_singleton, mem_wait, mem_wait]
  simp only [takeL]
  have h2 := h.2.1
  constructor
  · rintro ⟨h3, h4, h5⟩
    by_cases hx : x = l.n
    · exact .inr hx
    · exact .inl ⟨h3, by omega, h5⟩
  · rintro (⟨h3, h4, h5⟩ | rfl)
    · exact ⟨h3, by omega, h5⟩
    · refine ⟨h2.1, by omega, fun hm => ?_⟩
      have := h.2.2.2 _ hm
      omega

/-! ### A ticket that leaves -/
def strip : Int → List Int → Int × List Int
  | s, [] => (s, [])
  | s, x :: g => if x = s then strip (s + 1) g else (s, x :: g)
def gone2 (l : LineD) (t : Int) : List Int := (up l.s (l.n - l.s).toNat).filter (fun x => decide (x = t ∨ x ∈ l.g))
def leaveOk (l : LineD) (t : Int) : Prop := okLine l ∧ t ∈ wait l
instance instDecLeaveOk (l : LineD) (t : Int) : Decidable (leaveOk l t) := by unfold leaveOk; infer_instance
def leaveL (l : LineD) (t : Int) : LineD := ⟨(strip l.s (gone2 l t)).1, l.n, (strip l.s (gone2 l t)).2⟩
theorem mem_gone2 {l : LineD} {t x : Int} : x ∈ gone2 l t ↔ l.s ≤ x ∧ x < l.n ∧ (x = t ∨ x ∈ l.g) := by
  unfold gone2
  rw [List.mem_filter, mem_up, decide_eq_true_eq]
  constructor
  · rintro ⟨h1, h2⟩; exact ⟨h1.1, by omega, h2⟩
  · rintro ⟨h1, h2, h3⟩; exact ⟨⟨h1, by omega⟩, h3⟩
theorem asc_gone2 (l : LineD) (t : Int) : Asc (gone2 l t) := (asc_up _ _).filter _
theorem strip_spec : ∀ (g : List Int) (s : Int), Asc g → (∀ x ∈ g, s ≤ x) →
    s ≤ (strip s g).1 ∧ Asc (strip s g).2 ∧ (∀ x ∈ (strip s g).2, (strip s g).1 < x ∧ x ∈ g) ∧ (∀ x ∈ g, x ∈ (strip s g).2 ∨ x < (strip s g).1) ∧ (∀ x, s ≤ x → x < (strip s g).1 → x ∈ g)
  | [], s, _, _ => ⟨Int.le_refl _, List.Pairwise.nil, by simp [strip], by simp, fun x h1 h2 => by simp only [strip] at h2; omega⟩
  | y :: g, s, h, hs => by
    have hy := hs y (by simp)
    have hlt := h.head_lt
    by_cases e : y = s
    · subst e
      have e2 : strip y (y :: g) = strip (y + 1) g := by rw [strip, if_pos rfl]
      obtain ⟨h1, h2, h3, h4, h5⟩ := strip_spec g (y + 1) h.tail (fun x hx => by have := hlt x hx; omega)
      rw [e2]
      refine ⟨by omega, h2, fun x hx => ⟨(h3 x hx).1, List.mem_cons_of_mem _ (h3 x hx).2⟩, fun x hx => ?_, fun x hx1 hx2 => ?_⟩
      · rcases List.mem_cons.1 hx with rfl | hx
        · exact .inr (by omega)
        · exact h4 x hx
      · by_cases ex : x = y
        · rw [ex]; simp
        · exact List.mem_cons_of_mem _ (h5 x (by omega) hx2)
    · have e2 : strip s (y :: g) = (s, y :: g) := by rw [strip, if_neg e]
      rw [e2]
      refine ⟨Int.le_refl _, h, fun x hx => ⟨?_, hx⟩, fun x hx => .inl hx, fun x h1 h2 => by simp only at h2; omega⟩
      rcases List.mem_cons.1 hx with rfl | hx
      · simp only; omega
      · have := hlt x hx; simp only; omega
def Norm (l : LineD) : Prop := l.s ∉ l.g
theorem leave_spec {l : LineD} {t : Int} (h : leaveOk l t) : okLine (leaveL l t) ∧ Norm (leaveL l t) ∧ (∀ x, x ∈ wait (leaveL l t) ↔ x ∈ wait l ∧ x ≠ t) := by
  obtain ⟨⟨h1, h2, h3, h4⟩, h5⟩ := h
  have ht := mem_wait.1 h5
  obtain ⟨p1, p2, p3, p4, p5⟩ := strip_spec (gone2 l t) l.s (asc_gone2 l t) (fun x hx => (mem_gone2.1 hx).1)
  have hs : (leaveL l t).s = (strip l.s (gone2 l t)).1 := rfl
  have hg : (leaveL l t).g = (strip l.s (gone2 l t)).2 := rfl
  have hn : (leaveL l t).n = l.n := rfl
  have hle : (leaveL l t).s ≤ l.n := by
    rw [hs]
    by_cases he : (strip l.s (gone2 l t)).1 = l.s
    · omega
    · have := (mem_gone2.1 (p5 ((strip l.s (gone2 l t)).1 - 1) (by omega) (by omega))).2.1
      omega
  rw [← hs] at p1 p3 p4 p5
  rw [← hg] at p2 p3 p4
  refine ⟨⟨by omega, by rw [hn]; omega, p2, fun x hx => ?_⟩, fun hm => ?_, fun x => ?_⟩
  · have := (p3 x hx).1
    have := (mem_gone2.1 (p3 x hx).2).2.1
    rw [hn]; omega
  · have := (p3 _ hm).1
    omega
  · rw [mem_wait, mem_wait, hn]
    constructor
    · rintro ⟨q1, q2, q3⟩
      have q4 : x ∉ gone2 l t := fun hm => by
        rcases p4 x hm with h | h
        · exact q3 h
        · omega
      rw [mem_gone2] at q4
      refine ⟨⟨by omega, q2, fun hm => q4 ⟨by omega, q2, .inr hm⟩⟩, fun e => q4 ⟨by omega, q2, .inl e⟩⟩
    · rintro ⟨⟨q1, q2, q3⟩, q4⟩
      have q5 : x ∉ gone2 l t := fun hm => by
        rcases (mem_gone2.1 hm).2.2 with h | h
        · exact q4 h
        · exact q3 h
      refine ⟨?_, q2, fun hm => q5 (p3 x hm).2⟩
      refine Classical.byContradiction fun hlt => q5 (p5 x q1 (by omega))
theorem ok_leave {l : LineD} {t : Int} (h : leaveOk l t) : okLine (leaveL l t) := (leave_spec h).1
theorem wait_leave {l : LineD} {t : Int} (h : leaveOk l t) : wait (leaveL l t) = (wait l).filter (fun x => decide (x ≠ t)) := by
  refine asc_ext (asc_wait _) ((asc_wait l).filter _) fun x => ?_
  rw [(leave_spec h).2.2, List.mem_filter, decide_eq_true_eq]
theorem norm_ext {a b : LineD} (ha : okLine a) (hb : okLine b) (na : Norm a) (nb : Norm b) (hn : a.n = b.n) (hw : ∀ x, x ∈ wait a ↔ x ∈ wait b) : a = b := by
  have key : ∀ {a b : LineD}, okLine a → okLine b → Norm a → a.n = b.n → (∀ x, x ∈ wait a ↔ x ∈ wait b) → b.s ≤ a.s := by
    intro a b ha hb na hn hw
    have h1 := ha.2.1
    have h2 := hb.2.1
    by_cases he : a.s < a.n
    · exact (mem_wait.1 ((hw a.s).1 (mem_wait.2 ⟨Int.le_refl _, he, na⟩))).1
    · omega
  have h1 := key ha hb na hn hw
  have h2 := key hb ha nb hn.symm (fun x => (hw x).symm)
  have hs : a.s = b.s := by omega
  have hg : a.g = b.g := by
    refine asc_ext ha.2.2.1 hb.2.2.1 fun x => ?_
    have hx := hw x
    rw [mem_wait, mem_wait, hs, hn] at hx
    constructor
    · intro hm
      have := ha.2.2.2 x hm
      refine Classical.byContradiction fun hnm => ?_
      exact (hx.2 ⟨by omega, by omega, hnm⟩).2.2 hm
    · intro hm
      have := hb.2.2.2 x hm
      refine Classical.byContradiction fun hnm => ?_
      exact (hx.1 ⟨by omega, by omega, hnm⟩).2.2 hm
  cases a; cases b
  simp_all
theorem law_leaveOrder {l : LineD} {t u : Int} (ht : leaveOk l t) (hu : u ∈ wait (leaveL l t)) : leaveOk (leaveL l t) u ∧ leaveOk l u ∧ leaveOk (leaveL l u) t ∧ leaveL (leaveL l t) u = leaveL (leaveL l u) t := by
  have h1 := ((leave_spec ht).2.2 u).1 hu
  have h2 : leaveOk (leaveL l t) u := ⟨ok_leave ht, hu⟩
  have h3 : leaveOk l u := ⟨ht.1, h1.1⟩
  have h4 : leaveOk (leaveL l u) t := ⟨ok_leave h3, ((leave_spec h3).2.2 t).2 ⟨ht.2, fun e => h1.2 e.symm⟩⟩
  refine ⟨h2, h3, h4, norm_ext (ok_leave h2) (ok_leave h4) (leave_spec h2).2.1 (leave_spec h4).2.1 rfl fun x => ?_⟩
  rw [(leave_spec h2).2.2, (leave_spec h4).2.2, (leave_spec ht).2.2, (leave_spec h3).2.2]
  constructor
  · rintro ⟨⟨a, b⟩, c⟩; exact ⟨⟨a, c⟩, b⟩
  · rintro ⟨⟨a, b⟩, c⟩; exact ⟨⟨a, c⟩, b⟩
theorem law_leaveAgain {l : LineD} {t : Int} (h : leaveOk l t) : ¬ leaveOk (leaveL l t) t := fun h2 => (((leave_spec h).2.2 t).1 h2.2).2 rfl
theorem law_takeLeave {l : LineD} (h : takeOk l) : leaveOk (takeL l) l.n ∧ wait (leaveL (takeL l) l.n) = wait l := by
  have h1 : leaveOk (takeL l) l.n := ⟨ok_take h, by rw [wait_take h.1]; simp⟩
  refine ⟨h1, asc_ext (asc_wait _) (asc_wait _) fun x => ?_⟩
  rw [(leave_spec h1).2.2, wait_take h.1, List.mem_append, List.mem_singleton]
  constructor
  · rintro ⟨hx | hx, hne⟩
    · exact hx
    · exact absurd hx hne
  · intro hx
    exact ⟨.inl hx, fun e => by have := (mem_wait.1 hx).2.1; omega⟩

/-! ### A ticket called -/
def callOk (l : LineD) : Prop := okLine l ∧ wait l ≠ []
instance instDecCallOk (l : LineD) : Decidable (callOk l) := by unfold callOk; infer_instance
def first (l : List Int) : Int := match l with | [] => -1 | x :: _ => x
def callL (l : LineD) : LineD := ⟨first (wait l) + 1, l.n, l.g.filter (fun x => decide (first (wait l) < x))⟩
theorem call_at {l : LineD} {t : Int} {r : List Int} (h : okLine l) (hw : wait l = t :: r) : okLine (callL l) ∧ wait (callL l) = r := by
  have ht := mem_wait.1 (show t ∈ wait l by rw [hw]; simp)
  have hf : first (wait l) = t := by rw [hw]; rfl
  have hasc : Asc (t :: r) := by rw [← hw]; exact asc_wait l
  obtain ⟨h1, h2, h3, h4⟩ := h
  refine ⟨⟨by simp only [callL, hf]; omega, by simp only [callL, hf]; omega, h3.filter _, fun x hx => ?_⟩, asc_ext (asc_wait _) hasc.tail fun x => ?_⟩
  · simp only [callL, hf, List.mem_filter, decide_eq_true_eq] at hx ⊢
    have := h4 x hx.1
    omega
  · have hx : x ∈ wait l ↔ x = t ∨ x ∈ r := by rw [hw]; simp
    rw [mem_wait] at hx ⊢
    simp only [callL, hf, List.mem_filter, decide_eq_true_eq]
    constructor
    · rintro ⟨q1, q2, q3⟩
      rcases hx.1 ⟨by omega, q2, fun hm => q3 ⟨hm, by omega⟩⟩ with e | hm
      · omega
      · exact hm
    · intro hm
      have h5 := hasc.head_lt x hm
      have h6 := hx.2 (.inr hm)
      exact ⟨by omega, h6.2.1, fun hq => h6.2.2 hq.1⟩
theorem law_callLeave {l : LineD} {t : Int} {r : List Int} (h : okLine l) (hw : wait l = t :: r) : leaveOk l t ∧ wait (leaveL l t) = r := by
  have h1 : leaveOk l t := ⟨h, by rw [hw]; simp⟩
  have hasc : Asc (t :: r) := by rw [← hw]; exact asc_wait l
  refine ⟨h1, asc_ext (asc_wait _) hasc.tail fun x => ?_⟩
  rw [(leave_spec h1).2.2, hw, List.mem_cons]
  constructor
  · rintro ⟨hx | hx, hne⟩
    · exact absurd hx hne
    · exact hx
  · intro hx
    exact ⟨.inr hx, fun e => by have := hasc.head_lt x hx; omega⟩

/-! ### The place of a ticket -/
def idxI : List Int → Int → Nat → Int
  | [], _, _ => -1
  | x :: l, t, k => if x = t then k else idxI l t (k + 1)
def place (l : LineD) (t : Int) : Int := if okLine l then idxI (wait l) t 0 else -1
theorem idxI_spec : ∀ (l : List Int) (t : Int) (k : Nat), (idxI l t k = -1 ∧ t ∉ l) ∨ ∃ j : Nat, idxI l t k = (k + j : Nat) ∧ l[j]? = some t
  | [], t, k => .inl ⟨rfl, by simp⟩
  | x :: l, t, k => by
    by_cases e : x = t
    · exact .inr ⟨0, by rw [idxI, if_pos e]; simp, by simp [e]⟩
    · rw [idxI, if_neg e]
      rcases idxI_spec l t (k + 1) with ⟨h1, h2⟩ | ⟨j, h1, h2⟩
      · exact .inl ⟨h1, by simp only [List.mem_cons, not_or]; exact ⟨fun h => e h.symm, h2⟩⟩
      · exact .inr ⟨j + 1, by rw [h1]; omega, by simpa using h2⟩
theorem idxI_at : ∀ {l : List Int} (_ : Asc l) {t : Int} {j k : Nat}, l[j]? = some t → idxI l t k = (k + j : Nat)
  | x :: l, h, t, 0, k, hj => by
    simp at hj
    rw [idxI, if_pos hj]; rfl
  | x :: l, h, t, j + 1, k, hj => by
    simp only [List.getElem?_cons_succ] at hj
    have hx := h.head_lt t (List.mem_of_getElem? hj)
    rw [idxI, if_neg (by omega), idxI_at h.tail hj]
    omega
theorem idxI_none {l : List Int} {t : Int} {k : Nat} (h : t ∉ l) : idxI l t k = -1 := by
  rcases idxI_spec l t k with ⟨h1, _⟩ | ⟨j, _, h2⟩
  · exact h1
  · exact absurd (List.mem_of_getElem? h2) h
theorem law_placeCall {l : LineD} {t : Int} (hp : 0 ≤ place l t) : okLine l ∧ ∃ x r, wait l = x :: r ∧ place (callL l) t = place l t - 1 ∧ (place l t = 0 ↔ x = t) := by
  unfold place at hp
  split at hp
  · rename_i hok
    refine ⟨hok, ?_⟩
    cases hw : wait l with
    | nil => rw [hw] at hp; simp [idxI] at hp
    | cons x r =>
      obtain ⟨h1, h2⟩ := call_at hok hw
      have hasc : Asc (x :: r) := by rw [← hw]; exact asc_wait l
      refine ⟨x, r, rfl, ?_⟩
      rw [hw] at hp
      rw [place, if_pos h1, h2, place, if_pos hok, hw]
      rcases idxI_spec (x :: r) t 0 with ⟨h3, _⟩ | ⟨j, h3, h4⟩
      · omega
      · rw [h3]
        cases j with
        | zero =>
          simp at h4
          subst h4
          rw [idxI_none (fun hm => by have := hasc.head_lt x hm; omega)]
          simp
        | succ j =>
          simp only [List.getElem?_cons_succ] at h4
          rw [idxI_at hasc.tail h4]
          have := hasc.head_lt t (List.mem_of_getElem? h4)
          omega
  · omega
theorem filter_at {l : List Int} (h : Asc l) {i j : Nat} {y t : Int} (hi : l[i]? = some y) (hj : l[j]? = some t) (hne : y ≠ t) : (l.filter (fun x => decide (x ≠ y)))[if i < j then j - 1 else j]? = some t := by
  induction l generalizing i j with
  | nil => simp at hi
  | cons x l ih =>
    have hlt := h.head_lt
    have same : ∀ (m : List Int), (∀ z ∈ m, z ≠ y) → m.filter (fun x => decide (x ≠ y)) = m := fun m hm => List.filter_eq_self.2 fun z hz => decide_eq_true (hm z hz)
    cases i with
    | zero =>
      simp at hi
      subst hi
      rw [List.filter_cons, if_neg (by simp), same l (fun z hz => by have := hlt z hz; omega)]
      cases j with
      | zero => simp at hj; exact absurd hj hne
      | succ j => simpa using hj
    | succ i =>
      simp only [List.getElem?_cons_succ] at hi
      have hxy : x ≠ y := by have := hlt y (List.mem_of_getElem? hi); omega
      rw [List.filter_cons, if_pos (by simpa using hxy)]
      cases j with
      | zero => simpa using hj
      | succ j =>
        simp only [List.getElem?_cons_succ] at hj
        have h1 := ih h.tail hi hj
        by_cases hij : i < j
        · rw [if_pos hij] at h1
          rw [if_pos (by omega)]
          obtain ⟨q, rfl⟩ : ∃ q, j = q + 1 := ⟨j - 1, by omega⟩
          simpa using h1
        · rw [if_neg hij] at h1
          rw [if_neg (by omega)]
          simpa using h1
theorem law_placeLeave {l : LineD} {t y : Int} {i : Nat} (hp : 0 ≤ place l t) (hi : (wait l)[i]? = some y) (hne : y ≠ t) : leaveOk l y ∧ place (leaveL l y) t = (if (i : Int) < place l t then place l t - 1 else place l t) := by
  unfold place at hp
  split at hp
  · rename_i hok
    have h1 : leaveOk l y := ⟨hok, List.mem_of_getElem? hi⟩
    refine ⟨h1, ?_⟩
    rw [place, if_pos (ok_leave h1), wait_leave h1, place, if_pos hok]
    rcases idxI_spec (wait l) t 0 with ⟨h3, _⟩ | ⟨j, h3, h4⟩
    · omega
    · have h5 := filter_at (asc_wait l) hi h4 hne
      have h6 := idxI_at (k := 0) ((asc_wait l).filter _) h5
      rw [h6, h3]
      split <;> split <;> omega
  · omega
end Go.Proofs.Ytmojlnfadjnhgaa
