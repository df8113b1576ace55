/- slices.Sort of few numbers, slices.DeleteFunc; conditions: none. -/
import Derived.Test.YtmojlnfadjnhgaaLinA
set_option maxRecDepth 100000
set_option linter.unusedVariables false
set_option linter.unusedSimpArgs false
namespace Go.Proofs.Ytmojlnfadjnhgaa
open Eng Go Go.RowKit

/-! ### Sorting by insertion, in plain lists -/
theorem swap_perm : ∀ {l : List Int} {j : Nat} {a b : Int}, l[j]? = some a → l[j + 1]? = some b → ((l.set (j + 1) a).set j b).Perm l
  | [], j, a, b, h, _ => by simp at h
  | x :: l, 0, a, b, h, h2 => by
    cases l with
    | nil => simp at h2
    | cons y l =>
      simp at h h2
      subst h h2
      exact List.Perm.swap _ _ _
  | x :: l, j + 1, a, b, h, h2 => by
    simp only [List.getElem?_cons_succ] at h h2
    simp only [List.set_cons_succ]
    exact (swap_perm h h2).cons x
/-- In order up to number i, but for what stands at j. -/
def Srt (l : List Int) (i j : Nat) : Prop := ∀ p q a b, p < q → q ≤ i → q ≠ j → l[p]? = some a → l[q]? = some b → a ≤ b
theorem srt_step {l : List Int} {i j : Nat} {a b : Int} (h : Srt l i (j + 1)) (hj : j + 1 ≤ i) (ha : l[j]? = some a) (hb : l[j + 1]? = some b) (hlt : b < a) : Srt ((l.set (j + 1) a).set j b) i j := by
  have hl1 : j + 1 < l.length := (List.getElem?_eq_some_iff.1 hb).1
  have get : ∀ p, ((l.set (j + 1) a).set j b)[p]? = if p = j then some b else if p = j + 1 then some a else l[p]? := by
    intro p
    by_cases e1 : p = j
    · subst e1
      rw [if_pos rfl, List.getElem?_set, if_pos rfl, if_pos (by rw [List.length_set]; omega)]
    · rw [if_neg e1, List.getElem?_set, if_neg (fun e => e1 e.symm), List.getElem?_set]
      by_cases e2 : p = j + 1
      · subst e2
        rw [if_pos rfl, if_pos hl1, if_pos rfl]
      · rw [if_neg (fun e => e2 e.symm), if_neg e2]
  intro p q x y hpq hqi hqj hx hy
  rw [get] at hx hy
  rw [if_neg hqj] at hy
  by_cases e2 : q = j + 1
  · rw [if_pos e2] at hy
    simp only [Option.some.injEq] at hy
    subst hy
    by_cases e1 : p = j
    · rw [if_pos e1] at hx
      simp only [Option.some.injEq] at hx
      omega
    · rw [if_neg e1, if_neg (by omega)] at hx
      exact h p j x _ (by omega) (by omega) (by omega) hx ha
  · rw [if_neg e2] at hy
    by_cases e1 : p = j
    · rw [if_pos e1] at hx
      simp only [Option.some.injEq] at hx
      subst hx
      exact h (j + 1) q _ y (by omega) hqi e2 hb hy
    · rw [if_neg e1] at hx
      by_cases e3 : p = j + 1
      · rw [if_pos e3] at hx
        simp only [Option.some.injEq] at hx
        subst hx
        exact h j q _ y (by omega) hqi e2 ha hy
      · rw [if_neg e3] at hx
        exact h p q x y hpq hqi e2 hx hy
theorem srt_done {l : List Int} {i j : Nat} (h : Srt l i j) (hd : j = 0 ∨ ∃ a b, l[j - 1]? = some a ∧ l[j]? = some b ∧ a ≤ b) : Srt l i (i + 1) := by
  intro p q x y hpq hqi _ hx hy
  by_cases e : q = j
  · subst e
    rcases hd with hd | ⟨a, b, ha, hb, hab⟩
    · omega
    · rw [hb] at hy
      simp only [Option.some.injEq] at hy
      subst hy
      by_cases e1 : p = q - 1
      · subst e1
        rw [ha] at hx
        simp only [Option.some.injEq] at hx
        omega
      · have := h p (q - 1) x a (by omega) (by omega) (by omega) hx ha
        omega
  · exact h p q x y hpq hqi e hx hy
theorem srt_all {l : List Int} {i : Nat} (h : Srt l i (i + 1)) (hi : l.length ≤ i + 1) : l.Pairwise (· ≤ ·) := by
  rw [List.pairwise_iff_getElem]
  intro p q hp hq hpq
  exact h p q _ _ hpq (by omega) (by omega) (List.getElem?_eq_getElem hp) (List.getElem?_eq_getElem hq)
theorem i64s_set (l : List Int) (j : Nat) (z : Int) : (i64s l).set j (.int .i64 z) = i64s (l.set j z) := by simp [i64s, List.map_set]
theorem i64s_get {l : List Int} {j : Nat} {z : Int} (h : l[j]? = some z) : (i64s l)[j]? = some (.int .i64 z) := by simp [i64s, h]

/-- Numbers in order, each once: ascending. -/
theorem asc_of_sorted {l : List Int} (h : l.Pairwise (· ≤ ·)) (hn : l.Nodup) : Asc l := by
  have h2 : l.Pairwise (fun a b => a ≤ b ∧ a ≠ b) := h.and hn
  exact h2.imp (fun {a b} h => by omega)

theorem isNaN_any (x : Int) (w : World) : Calls Try.prog 100 #[.int .i64 x] w fun e w' => e = .returned (.bool false) ∧ Below w.heap.size w w' := by
  refine enter (C := cxS w []) (okS w []) (St.start w) Try.func100 rfl rfl ?_; conv => whnf
  refine Sp.mk (fun _ => ?_) (fun h => absurd rfl h)
  conv => whnf
  (repeat' (first | (refine Sp.mk (fun hs => ?_) (fun hs => ?_) <;> first | (exfalso; omega) | (conv => whnf)) | (refine Ar.i (by omega) ?_; conv => whnf) | (refine NewS.mk (fun _ => ?_); conv => whnf) | (refine QuoS.nn (by omega) ?_; conv => whnf) | (refine RemS.nn (by omega) ?_; conv => whnf) | (refine QuietS.mk (by as_aux_lemma => kernel_rfl) ?_; conv => whnf) | refine RetS.mk (fun w' hS => ?_)))
  exact ⟨rfl, hS.below⟩
theorem less_any (x y : Int) (w : World) : Calls Try.prog 90 #[.int .i64 x, .int .i64 y] w fun e w' => e = .returned (.bool (decide (x < y))) ∧ Below w.heap.size w w' := by
  refine enter (C := cxS w []) (okS w []) (St.start w) Try.func90 rfl rfl ?_; conv => whnf
  refine ⟨rfl, CallS.ro (fun w' hS => isNaN_any _ w') ?_⟩
  conv => whnf
  (repeat' (first | (refine Sp.mk (fun hs => ?_) (fun hs => ?_) <;> first | (exfalso; omega) | (conv => whnf)) | (refine Ar.i (by omega) ?_; conv => whnf) | (refine NewS.mk (fun _ => ?_); conv => whnf) | (refine QuoS.nn (by omega) ?_; conv => whnf) | (refine RemS.nn (by omega) ?_; conv => whnf) | (refine QuietS.mk (by as_aux_lemma => kernel_rfl) ?_; conv => whnf) | refine RetS.mk (fun w' hS => ?_)))
  · exact ⟨by rw [decide_eq_true (by assumption)], hS.below⟩
  · exact ⟨by rw [decide_eq_false (by assumption)], hS.below⟩

theorem insertion_any {A : Option Addr} {n c : Nat} {xs : List Int} (w : World) (hn : n ≤ 1000)
    (ho : owns w 0 3 1 (rowOf 3 1 A n c (i64s xs)).v n (i64s xs)) :
    Calls Try.prog 84 #[.slice A n c, .int .i64 0, .int .i64 n] w fun e w' => ∃ ys : List Int, (ys.Perm xs ∧ ys.Pairwise (· ≤ ·)) ∧ e = .returned (.tuple #[]) ∧ Pres (rowOf 3 1 A n c (i64s xs)).v.ownBlock.toList w w' ∧ owns w' 0 3 1 (rowOf 3 1 A n c (i64s xs)).v n (i64s ys) := by
  have hlen : xs.length = n := by have := ho.1; rw [i64s_len] at this; omega
  rcases rowOf_owns (A := A) (n := n) (c := c) (xs := i64s xs) ho with ⟨rfl, rfl, h0⟩ | ⟨g0, rfl, hc, he, ho'⟩
  · have hx : xs = [] := List.eq_nil_of_length_eq_zero hlen
    subst hx
    refine enter (C := cxS w []) (okS w []) (St.start w) Try.func84 rfl rfl ?_; conv => whnf
    (repeat' (first | (refine Sp.mk (fun hs => ?_) (fun hs => ?_) <;> first | (exfalso; omega) | (conv => whnf)) | (refine Ar.i (by omega) ?_; conv => whnf) | (refine NewS.mk (fun _ => ?_); conv => whnf) | (refine QuoS.nn (by omega) ?_; conv => whnf) | (refine RemS.nn (by omega) ?_; conv => whnf) | (refine QuietS.mk (by as_aux_lemma => kernel_rfl) ?_; conv => whnf) | refine RetS.mk (fun w' hS => ?_)))
    refine LoopS.same (okS w []) [(6, 7), (10, 48)] [6] rfl (fun k : Nat => [I64 1]) (fun k => k = 0) (fun k => k) 0 rfl ⟨rfl, trivial⟩ (LbTo.refl_nil _) (fun k g hk => ?_)
    subst hk
    conv => whnf
    (repeat' (first | (refine Sp.mk (fun hs => ?_) (fun hs => ?_) <;> first | (exfalso; omega) | (conv => whnf)) | (refine Ar.i (by omega) ?_; conv => whnf) | (refine NewS.mk (fun _ => ?_); conv => whnf) | (refine QuoS.nn (by omega) ?_; conv => whnf) | (refine RemS.nn (by omega) ?_; conv => whnf) | (refine QuietS.mk (by as_aux_lemma => kernel_rfl) ?_; conv => whnf) | refine RetS.mk (fun w' hS => ?_)))
    refine ⟨[], ⟨List.Perm.refl _, List.Pairwise.nil⟩, rfl, ?_, owns_nil _ _ _ _⟩
    have := hS.pres
    simpa [rowOf_zero, Value.ownBlock] using this
  · rw [he]
    refine enter (C := cxS w [g0]) (okS w [g0]) (St.startRow (o := ⟨3, 1, .slice (some ⟨g0, 0, none⟩) n c, n, i64s xs⟩) ho') Try.func84 rfl rfl ?_
    conv => whnf
    (repeat' (first | (refine Sp.mk (fun hs => ?_) (fun hs => ?_) <;> first | (exfalso; omega) | (conv => whnf)) | (refine Ar.i (by omega) ?_; conv => whnf) | (refine NewS.mk (fun _ => ?_); conv => whnf) | (refine QuoS.nn (by omega) ?_; conv => whnf) | (refine RemS.nn (by omega) ?_; conv => whnf) | (refine QuietS.mk (by as_aux_lemma => kernel_rfl) ?_; conv => whnf) | refine RetS.mk (fun w' hS => ?_)))
    refine LoopS.rows (okS w [g0]) [(6, 7), (10, 48)] [6] rfl (fun s : Nat × List Int => [I64 ((s.1 : Int) + 1)]) (fun s => [⟨3, 1, .slice (some ⟨g0, 0, none⟩) n c, n, i64s s.2⟩]) (fun s => s.1 ≤ n ∧ s.2.Perm xs ∧ Srt s.2 s.1 (s.1 + 1)) (fun s => n - s.1) (0, xs)
      ⟨by omega, List.Perm.refl _, fun p q a b h1 h2 _ _ _ => by dsimp only at h2; omega⟩ ⟨rfl, trivial⟩ (LbTo.refl_nil _) (RsTo.refl _) (fun s g ⟨hk, hp, hs⟩ => ?_)
    obtain ⟨k, zs⟩ := s
    dsimp only at hk hp hs ⊢
    have hzl : zs.length = n := by rw [hp.length_eq]; exact hlen
    conv => whnf
    refine Sp.mk (fun h => ?_) (fun h => ?_) <;> conv => whnf
    rotate_left
    · (repeat' (first | (refine Sp.mk (fun hs => ?_) (fun hs => ?_) <;> first | (exfalso; omega) | (conv => whnf)) | (refine Ar.i (by omega) ?_; conv => whnf) | (refine NewS.mk (fun _ => ?_); conv => whnf) | (refine QuoS.nn (by omega) ?_; conv => whnf) | (refine RemS.nn (by omega) ?_; conv => whnf) | (refine QuietS.mk (by as_aux_lemma => kernel_rfl) ?_; conv => whnf) | refine RetS.mk (fun w' hS => ?_)))
      refine ⟨zs, ⟨hp, srt_all hs (by omega)⟩, rfl, hS.pres, ?_⟩
      exact (hS.own _ (List.mem_singleton.2 rfl)).1
    refine LoopS.rows (okS w [g0]) [(7, 7), (16, 48)] [7] rfl (fun s : Nat × List Int => [I64 s.1]) (fun s => [⟨3, 1, .slice (some ⟨g0, 0, none⟩) n c, n, i64s s.2⟩]) (fun s => s.1 ≤ k + 1 ∧ s.2.Perm xs ∧ Srt s.2 (k + 1) s.1) (fun s => s.1) (k + 1, zs)
      ⟨Nat.le_refl _, hp, fun p q a b h1 h2 h3 h4 h5 => hs p q a b h1 (by dsimp only at h2 h3; omega) (by dsimp only at h2 h3; omega) h4 h5⟩ ⟨rfl, trivial⟩ (LbTo.refl_nil _) (RsTo.refl _) (fun s g2 ⟨hj, hp2, hs2⟩ => ?_)
    obtain ⟨j, ys⟩ := s
    dsimp only at hj hp2 hs2 ⊢
    have hyl : ys.length = n := by rw [hp2.length_eq]; exact hlen
    have fin : Srt ys (k + 1) (k + 1 + 1) → ∃ s' : Nat × List Int, (s'.1 ≤ n ∧ s'.2.Perm xs ∧ Srt s'.2 s'.1 (s'.1 + 1)) ∧ n - s'.1 < n - k ∧ s' = (k + 1, ys) := fun hd => ⟨(k + 1, ys), ⟨by dsimp only; omega, hp2, hd⟩, by dsimp only; omega, rfl⟩
    refine QuietS.mk (by as_aux_lemma => kernel_rfl) ?_
    conv => whnf
    refine Sp.mk (fun h1 => ?_) (fun h1 => ?_) <;> conv => whnf
    rotate_left
    · (repeat' (first | (refine Sp.mk (fun hs => ?_) (fun hs => ?_) <;> first | (exfalso; omega) | (conv => whnf)) | (refine Ar.i (by omega) ?_; conv => whnf) | (refine NewS.mk (fun _ => ?_); conv => whnf) | (refine QuoS.nn (by omega) ?_; conv => whnf) | (refine RemS.nn (by omega) ?_; conv => whnf) | (refine QuietS.mk (by as_aux_lemma => kernel_rfl) ?_; conv => whnf) | refine RetS.mk (fun w' hS => ?_)))
      obtain ⟨s', f1, f2, rfl⟩ := fin (srt_done hs2 (.inl (by omega)))
      exact ⟨_, f1, f2, ⟨congrArg (fun z => SV.v (Value.int .i64 z)) (show (k : Int) + 1 + 1 = ((k + 1 : Nat) : Int) + 1 by omega), trivial⟩, LbTo.refl_nil _, RsTo.refl _⟩
    obtain ⟨j, rfl⟩ : ∃ j', j = j' + 1 := ⟨j - 1, by omega⟩
    obtain ⟨a, ha⟩ : ∃ a, ys[j]? = some a := ⟨ys[j], List.getElem?_eq_getElem (by omega)⟩
    obtain ⟨b, hb⟩ : ∃ b, ys[j + 1]? = some b := ⟨ys[j + 1], List.getElem?_eq_getElem (by omega)⟩
    have la : ∀ w', Eng.St w [g0] [] [⟨3, 1, .slice (some ⟨g0, 0, none⟩) n c, n, i64s ys⟩] w' → w'.cell? ((⟨g0, 0, none⟩ : Addr).add j) = some (.int .i64 a) := fun w' hS => St.ownCell hS (List.mem_singleton.2 rfl) (i64s_get ha)
    have lb' : ∀ w', Eng.St w [g0] [] [⟨3, 1, .slice (some ⟨g0, 0, none⟩) n c, n, i64s ys⟩] w' → w'.cell? ((⟨g0, 0, none⟩ : Addr).add (j + 1)) = some (.int .i64 b) := fun w' hS => St.ownCell hS (List.mem_singleton.2 rfl) (i64s_get hb)
    (repeat' (first | (refine IdxS.at_ (j + 1) rfl (by omega) (by omega) ?_; conv => whnf) | (refine IdxS.at_ j rfl (by omega) (by omega) ?_; conv => whnf) | (refine LdS.at_ lb' ?_; conv => whnf) | (refine LdS.at_ la ?_; conv => whnf) | (refine Sp.mk (fun hs => ?_) (fun hs => ?_) <;> first | (exfalso; omega) | (conv => whnf)) | (refine Ar.i (by omega) ?_; conv => whnf) | (refine NewS.mk (fun _ => ?_); conv => whnf) | (refine QuoS.nn (by omega) ?_; conv => whnf) | (refine RemS.nn (by omega) ?_; conv => whnf) | (refine QuietS.mk (by as_aux_lemma => kernel_rfl) ?_; conv => whnf) | refine RetS.mk (fun w' hS => ?_)))
    refine ⟨rfl, CallQ.p (fun w' hS => less_any b a w') (fun hlt => ?_) (fun hlt => ?_)⟩ <;> conv => whnf
    rotate_left
    · (repeat' (first | (refine Sp.mk (fun hs => ?_) (fun hs => ?_) <;> first | (exfalso; omega) | (conv => whnf)) | (refine Ar.i (by omega) ?_; conv => whnf) | (refine NewS.mk (fun _ => ?_); conv => whnf) | (refine QuoS.nn (by omega) ?_; conv => whnf) | (refine RemS.nn (by omega) ?_; conv => whnf) | (refine QuietS.mk (by as_aux_lemma => kernel_rfl) ?_; conv => whnf) | refine RetS.mk (fun w' hS => ?_)))
      obtain ⟨s', f1, f2, rfl⟩ := fin (srt_done hs2 (.inr ⟨a, b, ha, hb, by omega⟩))
      exact ⟨_, f1, f2, ⟨congrArg (fun z => SV.v (Value.int .i64 z)) (show (k : Int) + 1 + 1 = ((k + 1 : Nat) : Int) + 1 by omega), trivial⟩, LbTo.refl_nil _, RsTo.refl _⟩
    refine DrawS.plan (.first 0 (.first 1 (.first 2 (.first 3 (.first 4 (.first 5 (.first 6 (.first 7 (.first 8 (.first 10 (.first 11 (.first 12 (.alt 9 (.one 13 (.first 14 (.one 15 (.first 16 (.one 17 (.done)))))) (.alt 13 (.one 9 (.first 14 (.one 15 (.first 16 (.one 17 (.done)))))) (.stop))))))))))))))) (by as_aux_lemma => kernel_rfl) [] [] (LbTo.refl_nil _) (RsTo.sub (List.nil_sublist _)) ?_
    conv => whnf
    (repeat' (first | (refine IdxS.at_ (j + 1) rfl (by omega) (by omega) ?_; conv => whnf) | (refine IdxS.at_ j rfl (by omega) (by omega) ?_; conv => whnf) | (refine Sp.mk (fun hs => ?_) (fun hs => ?_) <;> first | (exfalso; omega) | (conv => whnf)) | (refine Ar.i (by omega) ?_; conv => whnf) | (refine NewS.mk (fun _ => ?_); conv => whnf) | (refine QuoS.nn (by omega) ?_; conv => whnf) | (refine RemS.nn (by omega) ?_; conv => whnf) | (refine QuietS.mk (by as_aux_lemma => kernel_rfl) ?_; conv => whnf) | refine RetS.mk (fun w' hS => ?_)))
    refine AltS.mk ?_ (AltS.mk ?_ trivial) <;> conv => whnf
    all_goals
      (repeat' (first | (refine LdS.at_ lb' ?_; conv => whnf) | (refine LdS.at_ la ?_; conv => whnf) | (refine StS.mk rfl (RsTo.sub (List.nil_sublist _)) ?_; conv => whnf) | (refine IdxS.at_ (j + 1) rfl (by omega) (by omega) ?_; conv => whnf) | (refine IdxS.at_ j rfl (by omega) (by omega) ?_; conv => whnf) | (refine Sp.mk (fun hs => ?_) (fun hs => ?_) <;> first | (exfalso; omega) | (conv => whnf)) | (refine Ar.i (by omega) ?_; conv => whnf) | (refine NewS.mk (fun _ => ?_); conv => whnf) | (refine QuoS.nn (by omega) ?_; conv => whnf) | (refine RemS.nn (by omega) ?_; conv => whnf) | (refine QuietS.mk (by as_aux_lemma => kernel_rfl) ?_; conv => whnf) | refine RetS.mk (fun w' hS => ?_)))
      refine SemU.own (okS w [g0]) (i := 0) rfl (t := 3) rfl rfl (j + 1) rfl (by rw [i64s_len]; omega) rfl ?_
      conv => whnf
      (repeat' (first | (refine StS.mk rfl (RsTo.sub (List.nil_sublist _)) ?_; conv => whnf) | (refine IdxS.at_ (j + 1) rfl (by omega) (by omega) ?_; conv => whnf) | (refine IdxS.at_ j rfl (by omega) (by omega) ?_; conv => whnf) | (refine Sp.mk (fun hs => ?_) (fun hs => ?_) <;> first | (exfalso; omega) | (conv => whnf)) | (refine Ar.i (by omega) ?_; conv => whnf) | (refine NewS.mk (fun _ => ?_); conv => whnf) | (refine QuoS.nn (by omega) ?_; conv => whnf) | (refine RemS.nn (by omega) ?_; conv => whnf) | (refine QuietS.mk (by as_aux_lemma => kernel_rfl) ?_; conv => whnf) | refine RetS.mk (fun w' hS => ?_)))
      refine SemU.own (okS w [g0]) (i := 0) rfl (t := 3) rfl rfl j rfl (by rw [List.length_set, i64s_len]; omega) rfl ?_
      conv => whnf
      (repeat' (first | (refine StS.mk rfl (RsTo.sub (List.nil_sublist _)) ?_; conv => whnf) | (refine Sp.mk (fun hs => ?_) (fun hs => ?_) <;> first | (exfalso; omega) | (conv => whnf)) | (refine Ar.i (by omega) ?_; conv => whnf) | (refine NewS.mk (fun _ => ?_); conv => whnf) | (refine QuoS.nn (by omega) ?_; conv => whnf) | (refine RemS.nn (by omega) ?_; conv => whnf) | (refine QuietS.mk (by as_aux_lemma => kernel_rfl) ?_; conv => whnf) | refine RetS.mk (fun w' hS => ?_)))
      refine ⟨(j, (ys.set (j + 1) a).set j b), ⟨by dsimp only; omega, (swap_perm ha hb).trans hp2, srt_step hs2 (by omega) ha hb hlt⟩, by dsimp only; omega, ⟨congrArg (fun z => SV.v (Value.int .i64 z)) (show ((j + 1 : Nat) : Int) - 1 = (j : Int) by omega), trivial⟩, LbTo.refl_nil _, ?_⟩
      dsimp only [List.set]
      rw [i64s_set, i64s_set]
      exact RsTo.refl _

/-! ### bits.Len, slices.Sort -/
theorem StrS.at_ {s : ByteArray} {i : Int} {K : SV → Prop} (m : Nat) (hi : i = (m : Int)) (hs : Nat.ble 256 s.size = true) (hm : m < 256) (k : ∀ b : UInt8, K (.v (.int .u8 (b.toNat : Int)))) : StrS s i K := by
  have h1 : m < s.size := by have := Nat.le_of_ble_eq_true hs; omega
  exact ⟨m, s[m], hi, getElem?_pos s m h1, k _⟩
theorem len64_any (n : Nat) (hn : n ≤ 200) (w : World) : Calls Try.prog 94 #[.int .u64 n] w fun e w' => ∃ r : Int, (0 ≤ r ∧ r ≤ 300) ∧ e = .returned (.int .i64 r) ∧ Below w.heap.size w w' := by
  refine enter (C := cxS w []) (okS w []) (St.start w) Try.func94 rfl rfl ?_; conv => whnf
  (repeat' (first | (refine Sp.mk (fun hs => ?_) (fun hs => ?_) <;> first | (exfalso; omega) | (conv => whnf)) | (refine Ar.i (by omega) ?_; conv => whnf) | (refine NewS.mk (fun _ => ?_); conv => whnf) | (refine QuoS.nn (by omega) ?_; conv => whnf) | (refine RemS.nn (by omega) ?_; conv => whnf) | (refine QuietS.mk (by as_aux_lemma => kernel_rfl) ?_; conv => whnf) | refine RetS.mk (fun w' hS => ?_)))
  refine ⟨n, IntWalk.u8_in n (by omega), ?_⟩
  conv => whnf
  refine StrS.at_ n rfl (by as_aux_lemma => kernel_rfl) (by omega) (fun b => ?_)
  have hb := b.toNat_lt
  conv => whnf
  (repeat' (first | (refine Sp.mk (fun hs => ?_) (fun hs => ?_) <;> first | (exfalso; omega) | (conv => whnf)) | (refine Ar.i (by omega) ?_; conv => whnf) | (refine NewS.mk (fun _ => ?_); conv => whnf) | (refine QuoS.nn (by omega) ?_; conv => whnf) | (refine RemS.nn (by omega) ?_; conv => whnf) | (refine QuietS.mk (by as_aux_lemma => kernel_rfl) ?_; conv => whnf) | refine RetS.mk (fun w' hS => ?_)))
  exact ⟨_, by omega, rfl, hS.below⟩
theorem len_any (n : Nat) (hn : n ≤ 200) (w : World) : Calls Try.prog 80 #[.int .u64 n] w fun e w' => ∃ r : Int, (0 ≤ r ∧ r ≤ 300) ∧ e = .returned (.int .i64 r) ∧ Below w.heap.size w w' := by
  refine enter (C := cxS w []) (okS w []) (St.start w) Try.func80 rfl rfl ?_; conv => whnf
  refine ⟨rfl, CallS.ex (α := Int) (r := fun r => .int .i64 r) (φ := fun r => 0 ≤ r ∧ r ≤ 300) (fun w' hS => len64_any n hn w') (fun r hr => ?_)⟩
  conv => whnf
  (repeat' (first | (refine Sp.mk (fun hs => ?_) (fun hs => ?_) <;> first | (exfalso; omega) | (conv => whnf)) | (refine Ar.i (by omega) ?_; conv => whnf) | (refine NewS.mk (fun _ => ?_); conv => whnf) | (refine QuoS.nn (by omega) ?_; conv => whnf) | (refine RemS.nn (by omega) ?_; conv => whnf) | (refine QuietS.mk (by as_aux_lemma => kernel_rfl) ?_; conv => whnf) | refine RetS.mk (fun w' hS => ?_)))
  exact ⟨r, hr, rfl, hS.below⟩
theorem pdq_any {A : Option Addr} {n c : Nat} {xs : List Int} (lim : Int) (w : World) (hn : n ≤ 12)
    (ho : owns w 0 3 1 (rowOf 3 1 A n c (i64s xs)).v n (i64s xs)) :
    Calls Try.prog 79 #[.slice A n c, .int .i64 0, .int .i64 n, .int .i64 lim] w fun e w' => ∃ ys : List Int, (ys.Perm xs ∧ ys.Pairwise (· ≤ ·)) ∧ e = .returned (.tuple #[]) ∧ Pres (rowOf 3 1 A n c (i64s xs)).v.ownBlock.toList w w' ∧ owns w' 0 3 1 (rowOf 3 1 A n c (i64s xs)).v n (i64s ys) := by
  refine enter (C := cxS w (rowOf 3 1 A n c (i64s xs)).v.ownBlock.toList) (okS w _) (St.startRow (o := rowOf 3 1 A n c (i64s xs)) ho) Try.func79 rfl rfl ?_
  conv => whnf
  refine LoopS.same (okS w _) [(1, 3), (8, 133)] [1, 2] rfl (fun k : Nat => [I64 0, I64 n]) (fun k => k = 0) (fun k => k) 0 rfl ⟨rfl, rfl, trivial⟩ (LbTo.refl_nil _) (fun k g hk => ?_)
  conv => whnf
  refine Ar.i (by omega) ?_
  conv => whnf
  refine Sp.mk (fun h => ?_) (fun h => absurd (by omega) h)
  conv => whnf
  refine ⟨rfl, CallS.updR (i := 0) (α := List Int) (r := fun _ => .tuple #[]) (φ := fun ys => ys.Perm xs ∧ ys.Pairwise (· ≤ ·)) (ys := fun ys => i64s ys) rfl (fun w' hS => insertion_any w' (by omega) (hS.own _ (List.mem_singleton.2 rfl)).1) (fun ys hys => ?_)⟩
  conv => whnf
  (repeat' (first | (refine Sp.mk (fun hs => ?_) (fun hs => ?_) <;> first | (exfalso; omega) | (conv => whnf)) | (refine Ar.i (by omega) ?_; conv => whnf) | (refine NewS.mk (fun _ => ?_); conv => whnf) | (refine QuoS.nn (by omega) ?_; conv => whnf) | (refine RemS.nn (by omega) ?_; conv => whnf) | refine RetS.mk (fun w' hS => ?_)))
  exact ⟨ys, hys, rfl, hS.pres, (hS.own _ (List.mem_singleton.2 rfl)).1⟩
theorem sort_any {A : Option Addr} {n c : Nat} {xs : List Int} (w : World) (hn : n ≤ 12)
    (ho : owns w 0 3 1 (rowOf 3 1 A n c (i64s xs)).v n (i64s xs)) :
    Calls Try.prog 60 #[.slice A n c] w fun e w' => ∃ ys : List Int, (ys.Perm xs ∧ ys.Pairwise (· ≤ ·)) ∧ e = .returned (.tuple #[]) ∧ Pres (rowOf 3 1 A n c (i64s xs)).v.ownBlock.toList w w' ∧ owns w' 0 3 1 (rowOf 3 1 A n c (i64s xs)).v n (i64s ys) := by
  refine enter (C := cxS w (rowOf 3 1 A n c (i64s xs)).v.ownBlock.toList) (okS w _) (St.startRow (o := rowOf 3 1 A n c (i64s xs)) ho) Try.func60 rfl rfl ?_
  conv => whnf
  refine ⟨n, IntWalk.u64_in n (by omega), ?_⟩
  conv => whnf
  refine ⟨rfl, CallS.ex (α := Int) (r := fun r => .int .i64 r) (φ := fun r => 0 ≤ r ∧ r ≤ 300) (fun w' hS => len_any n (by omega) w') (fun r hr => ?_)⟩
  conv => whnf
  refine ⟨rfl, CallS.updR (i := 0) (α := List Int) (r := fun _ => .tuple #[]) (φ := fun ys => ys.Perm xs ∧ ys.Pairwise (· ≤ ·)) (ys := fun ys => i64s ys) rfl (fun w' hS => pdq_any r w' hn (hS.own _ (List.mem_singleton.2 rfl)).1) (fun ys hys => ?_)⟩
  conv => whnf
  (repeat' (first | (refine Sp.mk (fun hs => ?_) (fun hs => ?_) <;> first | (exfalso; omega) | (conv => whnf)) | (refine Ar.i (by omega) ?_; conv => whnf) | (refine NewS.mk (fun _ => ?_); conv => whnf) | (refine QuoS.nn (by omega) ?_; conv => whnf) | (refine RemS.nn (by omega) ?_; conv => whnf) | refine RetS.mk (fun w' hS => ?_)))
  exact ⟨ys, hys, rfl, hS.pres, (hS.own _ (List.mem_singleton.2 rfl)).1⟩

/-! ### slices.DeleteFunc -/
theorem SlcS.loS {ad : Addr} {n c size : Nat} {i : Int} {K : SV → Prop} (l : Nat) (hl : i = (l : Int)) (hn : l ≤ n) (hc : n ≤ c) (hlc : l < c) (k : K (.v (.slice (some (ad.add (l * size))) (n - l) (c - l)))) : SlcS (some ad) n c size (some i) none none K :=
  SlcS.lo l hl hn hc (by rw [if_neg (by omega)]; exact k)
theorem zero_int : ∀ w : World, (zeroValue 3).run Try.prog w = .ok (.int .i64 0) w := by
  have h : (Try.prog.info? 3).map (·.zero) = some (some (.int .i64 0)) := by as_aux_lemma => kernel_rfl
  intro w
  cases hi : Try.prog.info? 3 with
  | none => rw [hi] at h; simp at h
  | some i => rw [hi] at h; simp at h; simp [zeroValue, typeInfo, hi, h]
theorem putL_take : ∀ (vs xs : List Value) (j : Nat), (putL xs j vs).take j = xs.take j
  | [], xs, j => rfl
  | v :: vs, xs, j => by
    have h := putL_take vs (xs.set j v) (j + 1)
    have h2 := congrArg (List.take j) h
    rw [List.take_take, List.take_take, Nat.min_eq_left (by omega)] at h2
    rw [putL, h2, List.take_set_of_le (Nat.le_refl _)]
theorem SemS.clearI {w0 : World} {S0 : List Nat} {lb : List Box} {rs : List Own} {i g n c lo m d : Nat} {ty : TypeId} {xs : List Value} {K : SV → List Own → Prop} (hi : rs[i]? = some ⟨3, 1, .slice (some ⟨g, 0, none⟩) n c, n, xs⟩) (hm : 0 < m) (hlm : lo + m ≤ n)
    (k : K (.v (.tuple #[])) (rs.set i ⟨3, 1, .slice (some ⟨g, 0, none⟩) n c, n, putL xs lo (List.replicate m (.int .i64 0))⟩)) :
    SemS (cxS w0 S0) lb rs (Builtin.clear_ #[23] ty #[.slice (some ((⟨g, 0, none⟩ : Addr).add lo)) m d]) K := by
  refine ⟨fun w hw => ?_⟩
  have how := (hw.own _ (List.mem_of_getElem? hi)).1
  have hlen : xs.length = n * 1 := how.1
  have hc : ∀ j, j < m → (w.cell? ⟨g, lo + j, none⟩).isSome = true := by
    intro j hj
    have hjn : lo + j < xs.length := by omega
    have := how.cells (g := g) rfl (lo + j) xs[lo + j] (List.getElem?_eq_getElem hjn)
    rw [add_none, Nat.zero_add] at this
    rw [this]; rfl
  have hrun := Lib.run_clear_slice (P := Try.prog) w 23 3 ty (.int .i64 0) Try.underlying23 zero_int rfl rfl g lo m d hm hc (fun j _ => how.frozenAt (lo + j))
  rw [add_none, Nat.zero_add]
  exact ⟨_, _, _, hrun, St.upd hw hi (o' := ⟨3, 1, .slice (some ⟨g, 0, none⟩) n c, n, putL xs lo (List.replicate m (.int .i64 0))⟩) (S := [g]) rfl (by simp [Value.ownBlock]) (pres_setCells g _ lo w) (how.storedL _ xs lo w), k⟩
end Go.Proofs.Ytmojlnfadjnhgaa
