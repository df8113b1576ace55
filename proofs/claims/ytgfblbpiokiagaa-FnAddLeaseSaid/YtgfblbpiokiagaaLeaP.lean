/- Plain laws on leases, with no program in sight; conditions: none. -/
import Derived.Test.YtgfblbpiokiagaaRow
set_option linter.unusedVariables false
set_option linter.unusedSimpArgs false
namespace Go.Proofs.Ytgfblbpiokiagaa
open Eng Go Go.RowKit

structure LeaseD where
  c : Int
  o : Int
  f : Int
  u : Int
def okL (x : LeaseD) : Prop := (0 ≤ x.c ∧ x.c ≤ 5) ∧ (0 ≤ x.o ∧ x.o ≤ 4) ∧ (0 ≤ x.f ∧ x.f ≤ 999) ∧ (x.f + 1 ≤ x.u ∧ x.u ≤ 1000)
/-- Two leases of one connection with a time in common. -/
def clash (y x : LeaseD) : Prop := y.c = x.c ∧ y.f < x.u ∧ x.f < y.u
/-- The lease is one of this connection and has this time. -/
def has (x : LeaseD) (c t : Int) : Prop := x.c = c ∧ x.f ≤ t ∧ t < x.u
/-- The lease is one of this connection and has a time from f on, less than u. -/
def meets (y : LeaseD) (c f u : Int) : Prop := y.c = c ∧ y.f < u ∧ f < y.u
def Good (l : List LeaseD) : Prop := (∀ x ∈ l, okL x) ∧ l.Pairwise (fun y x => ¬ clash y x)
def Valid (l : List LeaseD) : Prop := Good l ∧ l.length ≤ 12
instance instDecOkL (x : LeaseD) : Decidable (okL x) := by unfold okL; infer_instance
instance instDecClash (y x : LeaseD) : Decidable (clash y x) := by unfold clash; infer_instance
instance instDecHas (x : LeaseD) (c t : Int) : Decidable (has x c t) := by unfold has; infer_instance
instance instDecMeets (y : LeaseD) (c f u : Int) : Decidable (meets y c f u) := by unfold meets; infer_instance
instance instDecGood (l : List LeaseD) : Decidable (Good l) := by unfold Good; infer_instance
instance instDecValid (l : List LeaseD) : Decidable (Valid l) := by unfold Valid; infer_instance

theorem Good.nil : Good [] := ⟨by simp, List.Pairwise.nil⟩
theorem Valid.nil : Valid [] := ⟨Good.nil, by simp⟩
theorem good_snoc {l : List LeaseD} {x : LeaseD} : Good (l ++ [x]) ↔ Good l ∧ okL x ∧ ∀ y ∈ l, ¬ clash y x := by
  unfold Good
  rw [List.pairwise_append]
  simp only [List.mem_append, List.mem_singleton]
  constructor
  · rintro ⟨h1, h2, h3, h4⟩
    exact ⟨⟨fun y hy => h1 y (.inl hy), h2⟩, h1 x (.inr rfl), fun y hy => h4 y hy x rfl⟩
  · rintro ⟨⟨h1, h2⟩, h3, h4⟩
    refine ⟨fun y hy => ?_, h2, List.pairwise_singleton _ _, fun y hy z hz => ?_⟩
    · rcases hy with hy | rfl
      · exact h1 y hy
      · exact h3
    · subst hz; exact h4 y hy
theorem Good.sub {l m : List LeaseD} (h : Good l) (hs : m.Sublist l) : Good m := ⟨fun x hx => h.1 x (hs.subset hx), h.2.sublist hs⟩
theorem Valid.sub {l m : List LeaseD} (h : Valid l) (hs : m.Sublist l) : Valid m := ⟨h.1.sub hs, Nat.le_trans hs.length_le h.2⟩
theorem good_take_succ {l : List LeaseD} {k : Nat} {x : LeaseD} (h : l[k]? = some x) : Good (l.take (k + 1)) ↔ Good (l.take k) ∧ okL x ∧ ∀ y ∈ l.take k, ¬ clash y x := by rw [take_snoc h, good_snoc]
theorem not_good_at {l : List LeaseD} {k : Nat} {x : LeaseD} (h : l[k]? = some x) (hn : ¬ (okL x ∧ ∀ y ∈ l.take k, ¬ clash y x)) : ¬ Valid l := fun hv =>
  hn ((good_take_succ h).1 (hv.1.sub (List.take_sublist _ _))).2
theorem clash_symm {x y : LeaseD} : clash x y ↔ clash y x := by unfold clash; omega
theorem clash_self {x : LeaseD} (h : okL x) : clash x x := by unfold okL at h; unfold clash; omega
theorem has_clash {x y : LeaseD} {c t : Int} (h : has x c t) (h' : has y c t) : clash x y := by unfold has at h h'; unfold clash; omega

/-! ### What the functions return -/
def ownerAt : List LeaseD → Int → Int → Int
  | [], _, _ => -1
  | x :: l, c, t => if has x c t then x.o else ownerAt l c t
def OwnerAt (l : List LeaseD) (c t : Int) : Int := if Valid l then ownerAt l c t else -1
def leased : List LeaseD → Int → Int
  | [], _ => 0
  | x :: l, o => (if x.o = o then x.u - x.f else 0) + leased l o
def LeasedTime (l : List LeaseD) (o : Int) : Int := if Valid l then leased l o else -1
def busyTo (l : List LeaseD) (t : Int) : Nat → List Int
  | 0 => []
  | k + 1 => busyTo l t k ++ (if 0 ≤ ownerAt l k t then [(k : Int)] else [])
def BusyAt (l : List LeaseD) (t : Int) : List Int := if Valid l then busyTo l t 6 else []
def taken (l : List LeaseD) (c f u : Int) : Prop := ∃ y ∈ l, meets y c f u
instance instDecTaken (l : List LeaseD) (c f u : Int) : Decidable (taken l c f u) := by unfold taken; infer_instance
def freeIn (l : List LeaseD) (f u : Int) : Nat → Nat → Int
  | _, 0 => -1
  | k, m + 1 => if taken l k f u then freeIn l f u (k + 1) m else k
def freeArgs (m f u : Int) : Prop := (1 ≤ m ∧ m ≤ 6) ∧ (0 ≤ f ∧ f ≤ 999) ∧ (f + 1 ≤ u ∧ u ≤ 1000)
instance instDecFreeArgs (m f u : Int) : Decidable (freeArgs m f u) := by unfold freeArgs; infer_instance
def FreeFor (l : List LeaseD) (m f u : Int) : Int := if Valid l ∧ freeArgs m f u then freeIn l f u 0 m.toNat else -1
def addOk (l : List LeaseD) (x : LeaseD) : Prop := Valid l ∧ Valid (l ++ [x])
instance instDecAddOk (l : List LeaseD) (x : LeaseD) : Decidable (addOk l x) := by unfold addOk; infer_instance


/-! ### Laws -/
theorem ownerAt_has {l : List LeaseD} (hg : Good l) {x : LeaseD} (hx : x ∈ l) {c t : Int} (h : has x c t) : ownerAt l c t = x.o := by
  induction l with
  | nil => simp at hx
  | cons y l ih =>
    have hp := List.pairwise_cons.1 hg.2
    simp only [ownerAt]
    rcases List.mem_cons.1 hx with rfl | hm
    · rw [if_pos h]
    · rw [if_neg (fun hy => hp.1 x hm (has_clash hy h))]
      exact ih ⟨fun z hz => hg.1 z (List.mem_cons_of_mem _ hz), hp.2⟩ hm
theorem ownerAt_none {l : List LeaseD} {c t : Int} (h : ∀ x ∈ l, ¬ has x c t) : ownerAt l c t = -1 := by
  induction l with
  | nil => rfl
  | cons y l ih => simp only [ownerAt]; rw [if_neg (h y (by simp))]; exact ih (fun x hx => h x (List.mem_cons_of_mem _ hx))
theorem ownerAt_range {l : List LeaseD} (hg : ∀ x ∈ l, okL x) (c t : Int) : ownerAt l c t = -1 ∨ (0 ≤ ownerAt l c t ∧ ownerAt l c t ≤ 4 ∧ 0 ≤ c ∧ c ≤ 5 ∧ 0 ≤ t ∧ t < 1000) := by
  induction l with
  | nil => exact .inl rfl
  | cons y l ih =>
    simp only [ownerAt]
    split
    · rename_i h
      have := hg y (by simp)
      unfold okL at this
      unfold has at h
      omega
    · exact ih (fun x hx => hg x (List.mem_cons_of_mem _ hx))
theorem ownerAt_nonneg {l : List LeaseD} (hg : Good l) {c t : Int} : 0 ≤ ownerAt l c t ↔ ∃ x ∈ l, has x c t := by
  constructor
  · intro h
    refine Classical.byContradiction fun hn => ?_
    have := ownerAt_none (l := l) (c := c) (t := t) (fun x hx hh => hn ⟨x, hx, hh⟩)
    omega
  · rintro ⟨x, hx, h⟩
    rw [ownerAt_has hg hx h]
    have := hg.1 x hx
    unfold okL at this
    omega

theorem mem_busyTo {l : List LeaseD} {t : Int} : ∀ {k : Nat} {c : Int}, c ∈ busyTo l t k ↔ (0 ≤ c ∧ c < k) ∧ 0 ≤ ownerAt l c t
  | 0, c => by simp [busyTo]; omega
  | k + 1, c => by
    simp only [busyTo, List.mem_append, mem_busyTo (k := k)]
    by_cases h : 0 ≤ ownerAt l k t
    · rw [if_pos h, List.mem_singleton]
      constructor
      · rintro (⟨h1, h2⟩ | rfl)
        · exact ⟨by omega, h2⟩
        · exact ⟨by omega, h⟩
      · rintro ⟨h1, h2⟩
        by_cases hc : c = (k : Int)
        · exact .inr hc
        · exact .inl ⟨by omega, h2⟩
    · rw [if_neg h]
      constructor
      · rintro (⟨h1, h2⟩ | h1)
        · exact ⟨by omega, h2⟩
        · simp at h1
      · rintro ⟨h1, h2⟩
        by_cases hc : c = (k : Int)
        · subst hc; exact absurd h2 h
        · exact .inl ⟨by omega, h2⟩
theorem law_ownerAtBusy {l : List LeaseD} (hv : Valid l) (c t : Int) : c ∈ BusyAt l t ↔ 0 ≤ OwnerAt l c t := by
  rw [BusyAt, OwnerAt, if_pos hv, if_pos hv, mem_busyTo]
  have := ownerAt_range hv.1.1 c t
  omega

theorem law_leaveOut {l : List LeaseD} (hv : Valid l) (k : Nat) : Valid (l.take k ++ l.drop (k + 1)) := by
  refine hv.sub ?_
  have h : (l.take k ++ l.drop (k + 1)).Sublist (l.take k ++ l.drop k) := List.Sublist.append (List.Sublist.refl _) (by rw [← List.drop_drop (i := 1) (j := k)]; exact List.drop_sublist _ _)
  rwa [List.take_append_drop] at h
theorem law_twice {l : List LeaseD} {x : LeaseD} (hx : x ∈ l) : ¬ Valid (l ++ [x]) := fun h => by
  have h1 := good_snoc.1 h.1
  exact h1.2.2 x hx (clash_self h1.2.1)

theorem law_short {l : List LeaseD} (hv : Valid l) : Valid (l.map fun x => ⟨x.c, x.o, x.f, x.f + 1⟩) := by
  refine ⟨⟨fun x hx => ?_, ?_⟩, by simpa using hv.2⟩
  · obtain ⟨y, hy, rfl⟩ := List.mem_map.1 hx
    have := hv.1.1 y hy
    unfold okL at this ⊢
    dsimp only
    omega
  · rw [List.pairwise_map]
    refine List.Pairwise.imp_of_mem (fun {a b} ha hb hab h => hab ?_) hv.1.2
    have h1 := hv.1.1 a ha
    have h2 := hv.1.1 b hb
    unfold okL at h1 h2
    unfold clash at h ⊢
    dsimp only at h
    omega

theorem law_order {l : List LeaseD} {x y : LeaseD} (hxv : Valid (l ++ [x])) : Valid (l ++ [x] ++ [y]) ↔ Valid (l ++ [y]) ∧ Valid (l ++ [y] ++ [x]) := by
  unfold Valid at *
  simp only [List.length_append, List.length_singleton, good_snoc, List.mem_append, List.mem_singleton] at *
  obtain ⟨⟨h1, h2, h3⟩, h4⟩ := hxv
  constructor
  · rintro ⟨⟨_, h5, h6⟩, h7⟩
    refine ⟨⟨⟨h1, h5, fun z hz => h6 z (.inl hz)⟩, by omega⟩, ⟨⟨⟨h1, h5, fun z hz => h6 z (.inl hz)⟩, h2, ?_⟩, by omega⟩⟩
    rintro z (hz | rfl)
    · exact h3 z hz
    · exact fun h => h6 x (.inr rfl) (clash_symm.1 h)
  · rintro ⟨⟨⟨_, h5, h6⟩, _⟩, ⟨⟨_, _, h8⟩, h7⟩⟩
    refine ⟨⟨⟨h1, h2, h3⟩, h5, ?_⟩, by omega⟩
    rintro z (hz | rfl)
    · exact h6 z hz
    · exact fun h => h8 y (.inr rfl) (clash_symm.1 h)

theorem ownerAt_append {l : List LeaseD} {x : LeaseD} {c t : Int} : ownerAt (l ++ [x]) c t = if ∃ y ∈ l, has y c t then ownerAt l c t else (if has x c t then x.o else -1) := by
  induction l with
  | nil => simp [ownerAt]
  | cons y l ih =>
    simp only [List.cons_append, ownerAt]
    by_cases h : has y c t
    · rw [if_pos h, if_pos ⟨y, by simp, h⟩, if_pos h]
    · rw [if_neg h, if_neg h, ih]
      congr 1
      simp [h]
theorem law_addOwner {l : List LeaseD} {x : LeaseD} (hv : Valid (l ++ [x])) : ownerAt (l ++ [x]) x.c x.f = x.o ∧ ownerAt l x.c x.f = -1 := by
  have h1 := good_snoc.1 hv.1
  have hx : has x x.c x.f := by have := h1.2.1; unfold okL at this; unfold has; omega
  exact ⟨ownerAt_has hv.1 (by simp) hx, ownerAt_none fun y hy h => h1.2.2 y hy (has_clash h hx)⟩

theorem leased_snoc (l : List LeaseD) (x : LeaseD) (o : Int) : leased (l ++ [x]) o = leased l o + (if x.o = o then x.u - x.f else 0) := by
  induction l with
  | nil => simp [leased]
  | cons y l ih => simp only [List.cons_append, leased, ih]; omega
def total : List LeaseD → Int
  | [] => 0
  | x :: l => (x.u - x.f) + total l
theorem law_total {l : List LeaseD} (h : ∀ x ∈ l, okL x) : total l - leased l 0 - leased l 1 - leased l 2 - leased l 3 - leased l 4 = 0 := by
  induction l with
  | nil => rfl
  | cons x l ih =>
    have h1 := ih (fun y hy => h y (List.mem_cons_of_mem _ hy))
    have h2 := h x (by simp)
    unfold okL at h2
    simp only [total, leased]
    have h3 : x.o = 0 ∨ x.o = 1 ∨ x.o = 2 ∨ x.o = 3 ∨ x.o = 4 := by omega
    rcases h3 with h3 | h3 | h3 | h3 | h3 <;> simp [h3] <;> omega
theorem leased_nonneg {l : List LeaseD} (h : ∀ x ∈ l, okL x) (o : Int) : 0 ≤ leased l o ∧ leased l o ≤ total l ∧ total l ≤ 1000 * l.length := by
  induction l with
  | nil => simp [leased, total]
  | cons x l ih =>
    have h1 := ih (fun y hy => h y (List.mem_cons_of_mem _ hy))
    have h2 := h x (by simp)
    unfold okL at h2
    simp only [total, leased, List.length_cons]
    split <;> omega
theorem leased_some {l : List LeaseD} (h : ∀ x ∈ l, okL x) (o : Int) : 0 < leased l o ↔ ∃ x ∈ l, x.o = o := by
  induction l with
  | nil => simp [leased]
  | cons x l ih =>
    have h0 : ∀ y ∈ l, okL y := fun y hy => h y (List.mem_cons_of_mem _ hy)
    have h1 := ih h0
    have h2 := h x (by simp)
    have h3 := leased_nonneg h0 o
    unfold okL at h2
    simp only [leased, List.mem_cons, exists_eq_or_imp]
    split
    · rename_i he
      simp only [he, true_or, iff_true]
      omega
    · rename_i he
      simp only [he, false_or, ← h1]
      omega

/-! The times of one connection lie apart: 6 connections have at most 1000 times each -/
def sumT (g : Nat → Nat) : Nat → Nat
  | 0 => 0
  | k + 1 => sumT g k + g k
theorem sumT_add (g h : Nat → Nat) : ∀ k, sumT (fun t => g t + h t) k = sumT g k + sumT h k
  | 0 => rfl
  | k + 1 => by simp only [sumT, sumT_add g h k]; omega
theorem sumT_le {g : Nat → Nat} {b : Nat} (h : ∀ t, g t ≤ b) : ∀ k, sumT g k ≤ b * k
  | 0 => by simp [sumT]
  | k + 1 => by
    have := sumT_le h k
    have := h k
    simp only [sumT, Nat.mul_succ]
    omega
theorem sumT_between (a b : Nat) : ∀ k, b ≤ k → a ≤ b → sumT (fun t => if a ≤ t ∧ t < b then 1 else 0) k = b - a := by
  have key : ∀ k, sumT (fun t => if a ≤ t ∧ t < b then 1 else 0) k = (min k b) - a := by
    intro k
    induction k with
    | zero => simp [sumT]
    | succ k ih =>
      simp only [sumT, ih]
      split <;> omega
  intro k hk hab
  rw [key k, Nat.min_eq_right hk]
/-- How many leases have a time. -/
def many : List LeaseD → Nat → Nat
  | [], _ => 0
  | x :: l, t => (if x.f.toNat ≤ t ∧ t < x.u.toNat then 1 else 0) + many l t
theorem total_sum {l : List LeaseD} (h : ∀ x ∈ l, okL x) : total l = (sumT (many l) 1000 : Nat) := by
  induction l with
  | nil =>
    have : ∀ k, sumT (many []) k = 0 := by
      intro k
      induction k with
      | zero => rfl
      | succ k ih =>
        show sumT (many []) k + many [] k = 0
        rw [ih]; rfl
    rw [this]
    rfl
  | cons x l ih =>
    have h1 := ih (fun y hy => h y (List.mem_cons_of_mem _ hy))
    have h2 := h x (by simp)
    unfold okL at h2
    have h3 := sumT_add (fun t => if x.f.toNat ≤ t ∧ t < x.u.toNat then 1 else 0) (many l) 1000
    have h4 := sumT_between x.f.toNat x.u.toNat 1000 (by omega) (by omega)
    have h5 : sumT (many (x :: l)) 1000 = sumT (fun t => (if x.f.toNat ≤ t ∧ t < x.u.toNat then 1 else 0) + many l t) 1000 := rfl
    rw [h4] at h3
    simp only [total, h1]
    rw [h5, h3]
    omega
/-- How many leases of connections below k have a time. -/
def manyOf (l : List LeaseD) (c : Int) (t : Nat) : Nat := match l with
  | [] => 0
  | x :: l => (if has x c t then 1 else 0) + manyOf l c t
theorem many_split {l : List LeaseD} (h : ∀ x ∈ l, okL x) (t : Nat) : many l t = manyOf l 0 t + manyOf l 1 t + manyOf l 2 t + manyOf l 3 t + manyOf l 4 t + manyOf l 5 t := by
  induction l with
  | nil => rfl
  | cons x l ih =>
    have h1 := ih (fun y hy => h y (List.mem_cons_of_mem _ hy))
    have h2 := h x (by simp)
    unfold okL at h2
    simp only [many, manyOf, has]
    have h3 : x.c = 0 ∨ x.c = 1 ∨ x.c = 2 ∨ x.c = 3 ∨ x.c = 4 ∨ x.c = 5 := by omega
    have h4 : (x.f.toNat ≤ t ∧ t < x.u.toNat) ↔ (x.f ≤ (t : Int) ∧ (t : Int) < x.u) := by omega
    simp only [h4]
    rcases h3 with h3 | h3 | h3 | h3 | h3 | h3 <;> simp [h3] <;> omega
theorem manyOf_le {l : List LeaseD} (hg : l.Pairwise (fun y x => ¬ clash y x)) (c : Int) (t : Nat) : manyOf l c t ≤ 1 := by
  have key : ∀ (l : List LeaseD), (∀ y ∈ l, ¬ has y c t) → manyOf l c t = 0 := by
    intro l
    induction l with
    | nil => intro _; rfl
    | cons y l ih =>
      intro h
      simp only [manyOf]
      rw [if_neg (h y (by simp)), ih (fun z hz => h z (List.mem_cons_of_mem _ hz))]
  induction l with
  | nil => simp [manyOf]
  | cons x l ih =>
    have hp := List.pairwise_cons.1 hg
    simp only [manyOf]
    split
    · rename_i hx
      rw [key l (fun y hy hyh => hp.1 y hy (has_clash hx hyh))]
      exact Nat.le_refl _
    · have := ih hp.2
      omega
theorem law_most {l : List LeaseD} (hg : Good l) (o : Int) : leased l o ≤ 6000 := by
  have h1 := leased_nonneg hg.1 o
  have h2 := total_sum hg.1
  have h3 := sumT_le (g := many l) (b := 6) (fun t => by
    rw [many_split hg.1]
    have a0 := manyOf_le hg.2 0 t
    have a1 := manyOf_le hg.2 1 t
    have a2 := manyOf_le hg.2 2 t
    have a3 := manyOf_le hg.2 3 t
    have a4 := manyOf_le hg.2 4 t
    have a5 := manyOf_le hg.2 5 t
    omega) 1000
  omega

/-! Free connections -/
theorem freeIn_spec (l : List LeaseD) (f u : Int) : ∀ (m k : Nat), (freeIn l f u k m = -1 ∧ ∀ j, k ≤ j → j < k + m → taken l j f u) ∨
    (∃ j : Nat, freeIn l f u k m = j ∧ k ≤ j ∧ j < k + m ∧ ¬ taken l j f u ∧ ∀ i, k ≤ i → i < j → taken l i f u)
  | 0, k => .inl ⟨rfl, fun j h1 h2 => by omega⟩
  | m + 1, k => by
    simp only [freeIn]
    split
    · rename_i ht
      rcases freeIn_spec l f u m (k + 1) with ⟨h1, h2⟩ | ⟨j, h1, h2, h3, h4, h5⟩
      · refine .inl ⟨h1, fun j hj1 hj2 => ?_⟩
        by_cases hjk : j = k
        · rw [hjk]; exact ht
        · exact h2 j (by omega) (by omega)
      · refine .inr ⟨j, h1, by omega, by omega, h4, fun i hi1 hi2 => ?_⟩
        by_cases hik : i = k
        · rw [hik]; exact ht
        · exact h5 i (by omega) (by omega)
    · rename_i ht
      exact .inr ⟨k, rfl, Nat.le_refl _, by omega, ht, fun i h1 h2 => by omega⟩
theorem freeIn_more (l : List LeaseD) (f u : Int) : ∀ (m k : Nat), freeIn l f u k m = -1 ∨ freeIn l f u k (m + 1) = freeIn l f u k m
  | 0, k => .inl rfl
  | m + 1, k => by
    rcases freeIn_more l f u m (k + 1) with h | h
    · by_cases ht : taken l k f u
      · exact .inl (by rw [freeIn, if_pos ht]; exact h)
      · exact .inr (by rw [freeIn, if_neg ht, freeIn, if_neg ht])
    · by_cases ht : taken l k f u
      · exact .inr (by rw [freeIn, if_pos ht, h, freeIn, if_pos ht])
      · exact .inr (by rw [freeIn, if_neg ht, freeIn, if_neg ht])
theorem law_free {l : List LeaseD} {m f u : Int} {n : Nat} (h : FreeFor l m f u = n) (hl : l.length < 12) : Valid l ∧ freeArgs m f u ∧ (n : Int) < m ∧ ∀ c : Nat, c ≤ n → (addOk l ⟨c, 1, f, u⟩ ↔ c = n) := by
  unfold FreeFor at h
  split at h
  · rename_i hv
    obtain ⟨hv, ha⟩ := hv
    rcases freeIn_spec l f u m.toNat 0 with ⟨h1, _⟩ | ⟨j, h1, h2, h3, h4, h5⟩
    · omega
    · have hj : j = n := by omega
      subst hj
      have ha' := ha
      unfold freeArgs at ha'
      refine ⟨hv, ha, by omega, fun c hc => ⟨fun hok => ?_, fun e => ?_⟩⟩
      · refine Classical.byContradiction fun hne => ?_
        obtain ⟨y, hy, hm⟩ := h5 c (Nat.zero_le _) (by omega)
        exact (good_snoc.1 hok.2.1).2.2 y hy hm
      · subst e
        refine ⟨hv, good_snoc.2 ⟨hv.1, ?_, fun y hy hcl => h4 ⟨y, hy, hcl⟩⟩, by simp; omega⟩
        unfold okL
        dsimp only
        omega
  · omega
theorem law_freeNone {l : List LeaseD} {m f u : Int} (h0 : ¬ FreeFor [] m f u < 0) (hm : ¬ m = 6) : FreeFor [] m f u = 0 ∧ (FreeFor l m f u = -1 ∨ FreeFor l (m + 1) f u = FreeFor l m f u) := by
  unfold FreeFor at h0 ⊢
  by_cases ha : freeArgs m f u
  · have ha' := ha
    unfold freeArgs at ha'
    have ha1 : freeArgs (m + 1) f u := by unfold freeArgs; omega
    have e1 : (m + 1).toNat = m.toNat + 1 := by omega
    refine ⟨?_, ?_⟩
    · rw [if_pos ⟨Valid.nil, ha⟩]
      rcases freeIn_spec [] f u m.toNat 0 with ⟨_, h2⟩ | ⟨j, h1, h2, h3, h4, h5⟩
      · obtain ⟨y, hy, _⟩ := h2 0 (Nat.le_refl _) (by omega)
        simp at hy
      · cases j with
        | zero => rw [h1]; rfl
        | succ j =>
          obtain ⟨y, hy, _⟩ := h5 0 (Nat.le_refl _) (by omega)
          simp at hy
    · by_cases hv : Valid l
      · rw [if_pos ⟨hv, ha⟩, if_pos ⟨hv, ha1⟩, e1]
        exact freeIn_more l f u m.toNat 0
      · exact .inl (if_neg (fun h => hv h.1))
  · rw [if_neg (fun h => ha h.2)] at h0
    omega

/-! Busy connections of a part -/
theorem busyTo_part {l : List LeaseD} {x : LeaseD} (hg : Good (l ++ [x])) (t : Int) : ∀ k : Nat, (∀ c ∈ busyTo l t k, c ∈ busyTo (l ++ [x]) t k) ∧ (busyTo (l ++ [x]) t k).length ≤ (busyTo l t k).length + (if x.c < k then 1 else 0)
  | 0 => by simp [busyTo]
  | k + 1 => by
    have hgl := (good_snoc.1 hg).1
    have hxok := (good_snoc.1 hg).2.1
    unfold okL at hxok
    obtain ⟨h1, h2⟩ := busyTo_part hg t k
    have h3 : 0 ≤ ownerAt (l ++ [x]) k t ↔ 0 ≤ ownerAt l k t ∨ has x k t := by
      rw [ownerAt_nonneg hg, ownerAt_nonneg hgl]
      constructor
      · rintro ⟨y, hy, hh⟩
        rcases List.mem_append.1 hy with hy | hy
        · exact .inl ⟨y, hy, hh⟩
        · rw [List.mem_singleton.1 hy] at hh; exact .inr hh
      · rintro (⟨y, hy, hh⟩ | hh)
        · exact ⟨y, List.mem_append_left _ hy, hh⟩
        · exact ⟨x, by simp, hh⟩
    refine ⟨fun c hc => ?_, ?_⟩
    · rw [mem_busyTo] at hc ⊢
      refine ⟨hc.1, ?_⟩
      rw [ownerAt_nonneg hgl] at hc
      rw [ownerAt_nonneg hg]
      obtain ⟨_, y, hy, hh⟩ := hc
      exact ⟨y, List.mem_append_left _ hy, hh⟩
    · simp only [busyTo, List.length_append]
      by_cases hk : 0 ≤ ownerAt l k t
      · rw [if_pos hk, if_pos (h3.2 (.inl hk))]
        simp only [List.length_singleton]
        split at h2 <;> split <;> omega
      · rw [if_neg hk]
        by_cases hx : has x k t
        · rw [if_pos (h3.2 (.inr hx))]
          unfold has at hx
          simp only [List.length_singleton, List.length_nil]
          split at h2 <;> split <;> omega
        · rw [if_neg (fun h => (h3.1 h).elim hk hx)]
          simp only [List.length_nil]
          split at h2 <;> split <;> omega
theorem law_part {l : List LeaseD} (hv : Valid l) (hl : l ≠ []) (t : Int) : (∀ c ∈ BusyAt (l.take (l.length - 1)) t, c ∈ BusyAt l t) ∧ (BusyAt l t).length ≤ (BusyAt (l.take (l.length - 1)) t).length + 1 := by
  have h0 : 0 < l.length := List.length_pos_iff.2 hl
  have hx : l[l.length - 1]? = some l[l.length - 1] := List.getElem?_eq_getElem (by omega)
  have e : l = l.take (l.length - 1) ++ [l[l.length - 1]] := by
    have h1 := take_snoc hx
    rw [show l.length - 1 + 1 = l.length by omega, List.take_length] at h1
    exact h1
  have hv' : Valid (l.take (l.length - 1)) := hv.sub (List.take_sublist _ _)
  rw [BusyAt, BusyAt, if_pos hv, if_pos hv']
  have hg : Good (l.take (l.length - 1) ++ [l[l.length - 1]]) := by rw [← e]; exact hv.1
  have h1 := busyTo_part hg t 6
  rw [← e] at h1
  refine ⟨h1.1, ?_⟩
  have := h1.2
  split at this <;> omega

/-! What the reference's BusyAt makes -/
/-- For one connection: one entry for each of its leases that have the time. -/
def busyOne (c t : Int) : List LeaseD → List Int
  | [] => []
  | x :: l => (if has x c t then [c] else []) ++ busyOne c t l
theorem busyOne_eq {l : List LeaseD} (hg : Good l) (c t : Int) : busyOne c t l = if 0 ≤ ownerAt l c t then [c] else [] := by
  have key : ∀ (l : List LeaseD), (∀ y ∈ l, ¬ has y c t) → busyOne c t l = [] := by
    intro l
    induction l with
    | nil => intro _; rfl
    | cons y l ih => intro h; simp only [busyOne]; rw [if_neg (h y (by simp)), ih (fun z hz => h z (List.mem_cons_of_mem _ hz))]; rfl
  induction l with
  | nil => rfl
  | cons x l ih =>
    have hp := List.pairwise_cons.1 hg.2
    have hgl : Good l := ⟨fun z hz => hg.1 z (List.mem_cons_of_mem _ hz), hp.2⟩
    have hxo := hg.1 x (by simp)
    unfold okL at hxo
    simp only [busyOne]
    by_cases hx : has x c t
    · have e1 : ownerAt (x :: l) c t = x.o := if_pos hx
      rw [if_pos hx, e1, if_pos (by omega), key l (fun y hy hyh => hp.1 y hy (has_clash hx hyh))]
      rfl
    · have e1 : ownerAt (x :: l) c t = ownerAt l c t := if_neg hx
      rw [if_neg hx, e1, ih hgl]
      rfl
theorem busyOne_at {l : List LeaseD} {k : Nat} {x : LeaseD} (h : l[k]? = some x) (c t : Int) : busyOne c t (l.take (k + 1)) = busyOne c t (l.take k) ++ (if has x c t then [c] else []) := by
  rw [take_snoc h]
  have key : ∀ (m : List LeaseD), busyOne c t (m ++ [x]) = busyOne c t m ++ (if has x c t then [c] else []) := by
    intro m
    induction m with
    | nil => simp [busyOne]
    | cons y m ih => simp only [List.cons_append, busyOne, ih, List.append_assoc]
  exact key _
end Go.Proofs.Ytgfblbpiokiagaa
