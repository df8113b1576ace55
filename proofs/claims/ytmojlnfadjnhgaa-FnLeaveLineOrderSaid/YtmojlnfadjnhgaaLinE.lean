/- Tickets that leave, of both packages; conditions: none. -/
import Derived.Test.YtmojlnfadjnhgaaLinD
set_option maxRecDepth 100000
set_option linter.unusedVariables false
set_option linter.unusedSimpArgs false
namespace Go.Proofs.Ytmojlnfadjnhgaa
open Eng Go Go.RowKit

theorem i64s_snoc (l : List Int) (z : Int) : i64s l ++ [.int .i64 z] = i64s (l ++ [z]) := by simp [i64s]
theorem sorted_gone2 {l : LineD} {t : Int} (h : leaveOk l t) {ys : List Int} (hp : ys.Perm (l.g ++ [t])) (hs : ys.Pairwise (· ≤ ·)) : ys = gone2 l t := by
  have ht := mem_wait.1 h.2
  have hn : (l.g ++ [t]).Nodup := by
    rw [List.nodup_append]
    refine ⟨h.1.2.2.1.imp (fun {a b} h => by omega), by simp, fun x hx y hy e => ?_⟩
    simp only [List.mem_singleton] at hy
    subst hy; subst e
    exact ht.2.2 hx
  refine asc_ext (asc_of_sorted hs (hp.nodup_iff.2 hn)) (asc_gone2 l t) fun x => ?_
  rw [hp.mem_iff, mem_gone2, List.mem_append, List.mem_singleton]
  constructor
  · rintro (hx | rfl)
    · have := h.1.2.2.2 x hx
      exact ⟨by omega, by omega, .inr hx⟩
    · exact ⟨ht.1, ht.2.1, .inl rfl⟩
  · rintro ⟨_, _, rfl | hx⟩
    · exact .inr rfl
    · exact .inl hx
theorem gone_room {l : LineD} {t : Int} (h : leaveOk l t) : l.g.length + 1 ≤ 12 := by
  have h1 := (wait_length h.1).1
  have h2 := List.length_pos_of_mem h.2
  have h3 := h.1.2.1
  omega
def leaveD (l : LineD) (t : Int) : LineD := if leaveOk l t then leaveL l t else zeroL
def leaveR (l : LineD) (t : Int) (y : Option Addr × Nat) : Value := .tuple #[.agg (lineV (leaveD l t) y.1 y.2).toArray, .bool (decide (leaveOk l t))]
theorem leave_no {l : LineD} {t : Int} {w w' : World} (h : ¬ leaveOk l t) (hb : Below w.heap.size w w') : ∃ y : Option Addr × Nat, (leaveD l t).g.length ≤ y.2 ∧ Ending.returned (.tuple #[.agg #[.int .i64 0, .int .i64 0, .slice none 0 0], .bool false]) = .returned (leaveR l t y) ∧ Below w.heap.size w w' ∧ Fresh w.heap.size [gRow (leaveD l t) y.1 y.2] w' := by
  have e1 : leaveD l t = zeroL := if_neg h
  unfold leaveR
  rw [e1, decide_eq_false h]
  exact ⟨(none, 0), Nat.le_refl _, rfl, hb, Fresh.empty _ _ _ _ _⟩

theorem iLeave_any {A : Option Addr} {c : Nat} {l : LineD} (t : Int) (w : World) (hL : LineR w A l) :
    Calls Try.prog 27 #[.agg (lineV l A c).toArray, .int .i64 t] w fun e w' => ∃ y : Option Addr × Nat, (leaveD l t).g.length ≤ y.2 ∧ e = .returned (leaveR l t y) ∧ Below w.heap.size w w' ∧ Fresh w.heap.size [gRow (leaveD l t) y.1 y.2] w' := by
  refine enter (C := cxS w []) (okS w []) (St.start w) Try.func27 rfl rfl ?_; conv => whnf
  refine NewS.mk (fun g0 => ?_)
  conv => whnf
  refine NewS.mk (fun g1 => ?_)
  conv => whnf
  refine ⟨rfl, CallS.p (fun w' hS => impl_ValidLine_any w' (hL.below hS.below)) (fun hok => ?_) (fun hok => ?_)⟩ <;> conv => whnf
  rotate_left
  · (repeat' (first | (refine Sp.mk (fun hs => ?_) (fun hs => ?_) <;> first | (exfalso; omega) | (conv => whnf)) | (refine Ar.i (by omega) ?_; conv => whnf) | (refine NewS.mk (fun _ => ?_); conv => whnf) | (refine QuoS.nn (by omega) ?_; conv => whnf) | (refine RemS.nn (by omega) ?_; conv => whnf) | refine RetS.mk (fun w' hS => ?_)))
    exact leave_no (fun h => hok h.1) hS.below
  have hwl := (wait_length hok).2
  have h1 := hok.1
  have h2 := hok.2.1
  refine ⟨rfl, CallS.own (fun w' hS => wi_any w' (hL.below hS.below) hok) (fun y hy => ?_)⟩
  conv => whnf
  refine ⟨rfl, CallS.p (fun w' hS => contains_any t w' (St.intsR hS 0 rfl (by omega))) (fun hm => ?_) (fun hm => ?_)⟩ <;> conv => whnf
  rotate_left
  · (repeat' (first | (refine Sp.mk (fun hs => ?_) (fun hs => ?_) <;> first | (exfalso; omega) | (conv => whnf)) | (refine Ar.i (by omega) ?_; conv => whnf) | (refine NewS.mk (fun _ => ?_); conv => whnf) | (refine QuoS.nn (by omega) ?_; conv => whnf) | (refine RemS.nn (by omega) ?_; conv => whnf) | refine RetS.mk (fun w' hS => ?_)))
    exact leave_no (fun h => hm h.2) hS.below
  have hT : leaveOk l t := ⟨hok, hm⟩
  have hroom := gone_room hT
  refine ⟨rfl, CallS.own (fun w' hS => copyOf_any w' (hL.below hS.below)) (fun A' _ => ?_)⟩
  conv => whnf
  refine NewS.mk (fun g2 => ?_)
  conv => whnf
  refine NewS.mk (fun g3 => ?_)
  conv => whnf
  refine SemS.appG (okS w []) (i := 1) rfl rfl (by decide) rfl (fun w' hS => St.row hS (e := 3) (xs := [.int .i64 t]) (List.mem_of_getElem? (i := 2) rfl)) (by simp [isOne]) (by simp only [maxLen]; omega) (by simp only; omega) (fun A2 c2 hc2 => ?_)
  conv => whnf
  refine ⟨rfl, CallS.updR (i := 1) (α := List Int) (xs := i64s (l.g ++ [t])) (r := fun _ => .tuple #[]) (φ := fun ys => ys.Perm (l.g ++ [t]) ∧ ys.Pairwise (· ≤ ·)) (ys := fun ys => i64s ys) (by rw [← i64s_snoc]; rfl) (fun w' hS => sort_any (xs := l.g ++ [t]) w' hroom (by rw [← i64s_snoc]; exact (hS.own _ (List.mem_of_getElem? (i := 1) rfl)).1)) (fun ys hys => ?_)⟩
  obtain rfl := sorted_gone2 hT hys.1 hys.2
  have hgl : (gone2 l t).length = l.g.length + 1 := by rw [hys.1.length_eq]; simp
  conv => whnf
  refine LoopS.know (φ := ∃ ga, A2 = some ⟨ga, 0, none⟩) (fun w' hS => St.some_ hS 1 rfl (by omega)) (fun ⟨ga, hA⟩ => ?_)
  subst hA
  refine LoopS.rule (okS w []) [(29, 49)] [] rfl (fun s : Int × Option Addr × Nat × List Int => []) (fun s => [⟨g0, 25, (lineV l A c).map .v⟩, ⟨g1, 25, (lineV zeroL none 0).map .v⟩, ⟨g2, 25, (lineV ⟨s.1, l.n, s.2.2.2⟩ s.2.1 s.2.2.1).map .v⟩])
    (fun s => [rowOf 3 1 y.1 (wait l).length y.2 (i64s (wait l)), rowOf 3 1 (some ⟨ga, 0, none⟩) (l.g.length + 1) c2 (i64s (gone2 l t))])
    (fun s => strip l.s (gone2 l t) = strip s.1 s.2.2.2 ∧ s.2.2.2.length ≤ s.2.2.1 ∧ (∀ w', Reads w' 1 (some ⟨ga, 0, none⟩) (l.g.length + 1) (i64s (gone2 l t)) → Reads w' 1 s.2.1 s.2.2.2.length (i64s s.2.2.2)) ∧ (0 < s.2.2.2.length → ∃ ad, s.2.1 = some ad) ∧ (0 ≤ s.1 ∧ s.1 + s.2.2.2.length ≤ 1100))
    (fun s => s.2.2.2.length) (l.s, some ⟨ga, 0, none⟩, c2, gone2 l t) (fun s => rfl) ⟨rfl, by dsimp only; omega, fun w' h => by rw [hgl]; exact h, fun _ => ⟨_, rfl⟩, by dsimp only; omega⟩ trivial
    ?_ (RsTo.sub (by simp)) (fun s g ⟨hI1, hI2, hI3, hI4, hI5⟩ => ?_)
  · dsimp only
    rw [← hgl]
    exact ⟨rfl, (LbTo.self rfl).ok⟩
  obtain ⟨s', A3, c3, g'⟩ := s
  dsimp only at hI1 hI2 hI3 hI4 hI5 ⊢
  refine QuietS.mk (by as_aux_lemma => kernel_rfl) ?_
  cases g' with
  | nil =>
    have hstrip : strip s' [] = (s', []) := rfl
    conv => whnf
    refine Sp.mk (fun h => absurd h (by simp)) (fun _ => ?_)
    conv => whnf
    refine ⟨rfl, CallS.own (fun w' hS => copyOf_any (l := ⟨s', l.n, []⟩) w' ⟨hI3 w' (hS.rowR (List.mem_of_getElem? (i := 1) rfl)), by dsimp only; omega⟩) (fun A4 _ => ?_)⟩
    conv => whnf
    (repeat' (first | (refine Sp.mk (fun hs => ?_) (fun hs => ?_) <;> first | (exfalso; omega) | (conv => whnf)) | (refine Ar.i (by omega) ?_; conv => whnf) | (refine NewS.mk (fun _ => ?_); conv => whnf) | (refine QuoS.nn (by omega) ?_; conv => whnf) | (refine RemS.nn (by omega) ?_; conv => whnf) | refine RetS.mk (fun w' hS => ?_)))
    have e1 : leaveD l t = ⟨s', l.n, []⟩ := by rw [leaveD, if_pos hT, leaveL, hI1, hstrip]
    unfold leaveR
    rw [e1, decide_eq_true hT]
    exact ⟨(A4, ([] : List Int).length), Nat.le_refl _, rfl, hS.below, hS.fresh (List.Sublist.cons _ (List.Sublist.cons _ (List.Sublist.refl _)))⟩
  | cons x r =>
    have hlen : (x :: r).length = r.length + 1 := rfl
    obtain ⟨ad, rfl⟩ := hI4 (by simp)
    conv => whnf
    refine Sp.mk (fun _ => ?_) (fun h => absurd (by rw [hlen]; omega) h)
    conv => whnf
    refine IdxS.at_ 0 rfl rfl (by simp) ?_
    conv => whnf
    refine LdS.at_ (v := .int .i64 x) (fun w' hS => ?_) ?_
    · obtain ⟨ad', e, hc⟩ := (hI3 w' (hS.rowR (List.mem_of_getElem? (i := 1) rfl))).2 (by simp)
      simp only [Option.some.injEq] at e
      subst e
      exact hc 0 _ rfl
    conv => whnf
    refine Sp.mk (fun h => ?_) (fun h => ?_) <;> conv => whnf
    rotate_left
    · have hstrip : strip s' (x :: r) = (s', x :: r) := by rw [strip, if_neg h]
      refine ⟨rfl, CallS.own (fun w' hS => copyOf_any (l := ⟨s', l.n, x :: r⟩) w' ⟨hI3 w' (hS.rowR (List.mem_of_getElem? (i := 1) rfl)), by dsimp only; omega⟩) (fun A4 _ => ?_)⟩
      conv => whnf
      (repeat' (first | (refine Sp.mk (fun hs => ?_) (fun hs => ?_) <;> first | (exfalso; omega) | (conv => whnf)) | (refine Ar.i (by omega) ?_; conv => whnf) | (refine NewS.mk (fun _ => ?_); conv => whnf) | (refine QuoS.nn (by omega) ?_; conv => whnf) | (refine RemS.nn (by omega) ?_; conv => whnf) | refine RetS.mk (fun w' hS => ?_)))
      have e1 : leaveD l t = ⟨s', l.n, x :: r⟩ := by rw [leaveD, if_pos hT, leaveL, hI1, hstrip]
      unfold leaveR
      rw [e1, decide_eq_true hT]
      exact ⟨(A4, (x :: r : List Int).length), Nat.le_refl _, rfl, hS.below, hS.fresh (List.Sublist.cons _ (List.Sublist.cons _ (List.Sublist.refl _)))⟩
    refine SlcS.lo 1 rfl (by simp) hI2 ?_
    conv => whnf
    rw [hlen] at hI2 hI5
    refine Ar.i (by dsimp only; omega) ?_
    conv => whnf
    refine ⟨(s' + 1, (if c3 = 1 then some ad else (some ad).map (·.add (1 * 1))), c3 - 1, r), ⟨by rw [hI1, strip, if_pos h], by dsimp only; omega, fun w' h => ?_, fun h0 => ?_, by dsimp only; omega⟩, by simp, trivial, ⟨rfl, (LbTo.self rfl).ok⟩, RsTo.refl _⟩
    · have h3 := (hI3 w' h).cut (l := 1) (hh := r.length + 1) (m := c3) (by omega) (Nat.le_refl _) hI2
      have e : ((i64s (x :: r)).drop (1 * 1)).take ((r.length + 1 - 1) * 1) = i64s r := by
        simp only [i64s, List.map_cons, Nat.one_mul, List.drop_succ_cons, List.drop_zero, Nat.add_sub_cancel, Nat.mul_one]
        exact List.take_of_length_le (by simp)
      rw [e] at h3
      exact h3
    · dsimp only at h0
      exact ⟨ad.add (1 * 1), by dsimp only; rw [if_neg (by omega)]; rfl⟩

def goneTo (l : LineD) (t : Int) (k : Nat) : List Int := (up l.s k).filter (fun x => decide (x = t ∨ x ∈ l.g))
theorem goneTo_succ (l : LineD) (t : Int) (k : Nat) : goneTo l t (k + 1) = goneTo l t k ++ (if l.s + k = t ∨ l.s + k ∈ l.g then [l.s + k] else []) := by
  unfold goneTo
  rw [up_snoc, List.filter_append]
  congr 1
  by_cases h : l.s + (k : Int) = t ∨ l.s + (k : Int) ∈ l.g <;> simp [h]
theorem goneTo_len (l : LineD) (t : Int) (k : Nat) : (goneTo l t k).length ≤ k := by
  unfold goneTo
  have := List.length_filter_le (fun x => decide (x = t ∨ x ∈ l.g)) (up l.s k)
  rw [up_length] at this
  exact this
theorem sLeave_any {A : Option Addr} {c : Nat} {l : LineD} (t : Int) (w : World) (hL : LineR w A l) :
    Calls Try.prog 36 #[.agg (lineV l A c).toArray, .int .i64 t] w fun e w' => ∃ y : Option Addr × Nat, (leaveD l t).g.length ≤ y.2 ∧ e = .returned (leaveR l t y) ∧ Below w.heap.size w w' ∧ Fresh w.heap.size [gRow (leaveD l t) y.1 y.2] w' := by
  refine enter (C := cxS w []) (okS w []) (St.start w) Try.func36 rfl rfl ?_; conv => whnf
  refine NewS.mk (fun g0 => ?_)
  conv => whnf
  refine NewS.mk (fun g1 => ?_)
  conv => whnf
  refine ⟨rfl, CallS.p (fun w' hS => spec_validLine_any w' (hL.below hS.below)) (fun hok => ?_) (fun hok => ?_)⟩ <;> conv => whnf
  rotate_left
  · (repeat' (first | (refine Sp.mk (fun hs => ?_) (fun hs => ?_) <;> first | (exfalso; omega) | (conv => whnf)) | (refine Ar.i (by omega) ?_; conv => whnf) | (refine NewS.mk (fun _ => ?_); conv => whnf) | (refine QuoS.nn (by omega) ?_; conv => whnf) | (refine RemS.nn (by omega) ?_; conv => whnf) | refine RetS.mk (fun w' hS => ?_)))
    exact leave_no (fun h => hok h.1) hS.below
  have hwl := (wait_length hok).2
  have h1 := hok.1
  have h2 := hok.2.1
  refine ⟨rfl, CallS.own (fun w' hS => ws_any w' (hL.below hS.below) hok) (fun y hy => ?_)⟩
  conv => whnf
  refine ⟨rfl, CallS.p (fun w' hS => spec_isIn_any t w' (St.intsR hS 0 rfl (by omega))) (fun hm => ?_) (fun hm => ?_)⟩ <;> conv => whnf
  rotate_left
  · (repeat' (first | (refine Sp.mk (fun hs => ?_) (fun hs => ?_) <;> first | (exfalso; omega) | (conv => whnf)) | (refine Ar.i (by omega) ?_; conv => whnf) | (refine NewS.mk (fun _ => ?_); conv => whnf) | (refine QuoS.nn (by omega) ?_; conv => whnf) | (refine RemS.nn (by omega) ?_; conv => whnf) | refine RetS.mk (fun w' hS => ?_)))
    exact leave_no (fun h => hm h.2) hS.below
  have hT : leaveOk l t := ⟨hok, hm⟩
  obtain ⟨N, hN⟩ : ∃ N : Nat, l.n = l.s + N := ⟨(l.n - l.s).toNat, by omega⟩
  have hN2 : (l.n - l.s).toNat = N := by omega
  have hg2 : gone2 l t = goneTo l t N := by rw [← hN2]; rfl
  refine NewS.mk (fun g3 => ?_)
  conv => whnf
  refine NewS.mk (fun g2 => ?_)
  conv => whnf
  refine LoopS.rule (okS w []) [(7, 7), (27, 47)] [7] rfl (fun s : Nat × Option Addr × Nat => [I64 (l.s + s.1)]) (fun s => [⟨g0, 25, (lineV l A c).map .v⟩, ⟨g1, 25, (lineV zeroL none 0).map .v⟩, ⟨g2, 25, (lineV ⟨l.s, l.n, goneTo l t s.1⟩ s.2.1 s.2.2).map .v⟩])
    (fun s => [rowOf 3 1 s.2.1 (goneTo l t s.1).length s.2.2 (i64s (goneTo l t s.1))])
    (fun s => s.1 ≤ N ∧ (goneTo l t s.1).length ≤ s.2.2) (fun s => N - s.1) (0, some ⟨g3, 0, none⟩, 0) (fun s => rfl) ⟨by omega, Nat.le_refl _⟩ ⟨congrArg (fun z => SV.v (Value.int .i64 z)) (show l.s = l.s + ((0 : Nat) : Int) by omega), trivial⟩
    ⟨rfl, (LbTo.self rfl).ok⟩ ((RsTo.sub (List.Sublist.cons _ (List.Sublist.refl _))).trans (RsTo.norm (i := 0) (A := some ⟨g3, 0, none⟩) (n := 0) (c := 0) (xs := []) rfl)) (fun s g ⟨hk, hm3⟩ => ?_)
  obtain ⟨k, A1, c1⟩ := s
  dsimp only at hk hm3 ⊢
  have hlen := goneTo_len l t k
  have hsucc := goneTo_succ l t k
  conv => whnf
  refine Sp.mk (fun h => ?_) (fun h => ?_) <;> conv => whnf
  · have hkN : k < N := by omega
    refine Sp.mk (fun h3 => ?_) (fun h3 => ?_) <;> conv => whnf
    · rw [if_pos (.inl h3)] at hsucc
      have e2 : (goneTo l t (k + 1)).length = (goneTo l t k).length + 1 := by rw [hsucc, List.length_append]; rfl
      have e3 : i64s (goneTo l t (k + 1)) = i64s (goneTo l t k) ++ [.int .i64 (l.s + k)] := by rw [hsucc, i64s, List.map_append]; rfl
      refine NewS.mk (fun g4 => ?_)
      conv => whnf
      refine SemS.appG (okS w []) (i := 0) rfl rfl (by decide) rfl (fun w' hS => St.row hS (e := 3) (xs := [.int .i64 (l.s + k)]) (List.mem_of_getElem? (i := 1) rfl)) (by simp [isOne]) (by simp only [maxLen]; omega) (by dsimp only; omega) (fun A2 c2 hc2 => ?_)
      conv => whnf
      refine Ar.i (by omega) ?_
      conv => whnf
      refine ⟨(k + 1, A2, c2), ⟨by dsimp only; omega, by dsimp only; rw [e2]; exact hc2⟩, by dsimp only; omega, ⟨congrArg (fun z => SV.v (Value.int .i64 z)) (show l.s + (k : Int) + 1 = l.s + ((k + 1 : Nat) : Int) by omega), trivial⟩, ?_, ?_⟩
      · dsimp only [lineV]
        rw [e2]
        exact ⟨rfl, (LbTo.self rfl).ok⟩
      · dsimp only
        rw [e2, e3]
        exact RsTo.sub (List.sublist_append_left [_] [_])
    · refine ⟨rfl, CallS.p (fun w' hS => spec_isIn_any (l.s + k) w' (hL.below hS.below)) (fun h4 => ?_) (fun h4 => ?_)⟩ <;> conv => whnf
      · rw [if_pos (.inr h4)] at hsucc
        have e2 : (goneTo l t (k + 1)).length = (goneTo l t k).length + 1 := by rw [hsucc, List.length_append]; rfl
        have e3 : i64s (goneTo l t (k + 1)) = i64s (goneTo l t k) ++ [.int .i64 (l.s + k)] := by rw [hsucc, i64s, List.map_append]; rfl
        refine NewS.mk (fun g4 => ?_)
        conv => whnf
        refine SemS.appG (okS w []) (i := 0) rfl rfl (by decide) rfl (fun w' hS => St.row hS (e := 3) (xs := [.int .i64 (l.s + k)]) (List.mem_of_getElem? (i := 1) rfl)) (by simp [isOne]) (by simp only [maxLen]; omega) (by dsimp only; omega) (fun A2 c2 hc2 => ?_)
        conv => whnf
        refine Ar.i (by omega) ?_
        conv => whnf
        refine ⟨(k + 1, A2, c2), ⟨by dsimp only; omega, by dsimp only; rw [e2]; exact hc2⟩, by dsimp only; omega, ⟨congrArg (fun z => SV.v (Value.int .i64 z)) (show l.s + (k : Int) + 1 = l.s + ((k + 1 : Nat) : Int) by omega), trivial⟩, ?_, ?_⟩
        · dsimp only [lineV]
          rw [e2]
          exact ⟨rfl, (LbTo.self rfl).ok⟩
        · dsimp only
          rw [e2, e3]
          exact RsTo.sub (List.sublist_append_left [_] [_])
      · rw [if_neg (fun h => h.elim h3 h4), List.append_nil] at hsucc
        refine Ar.i (by omega) ?_
        conv => whnf
        refine ⟨(k + 1, A1, c1), ⟨by dsimp only; omega, by dsimp only; rw [hsucc]; exact hm3⟩, by dsimp only; omega, ⟨congrArg (fun z => SV.v (Value.int .i64 z)) (show l.s + (k : Int) + 1 = l.s + ((k + 1 : Nat) : Int) by omega), trivial⟩, ?_, ?_⟩
        · dsimp only
          rw [hsucc]
          exact ⟨rfl, (LbTo.self rfl).ok⟩
        · dsimp only
          rw [hsucc]
          exact RsTo.refl _
  have hkN : k = N := by omega
  subst hkN
  rw [← hg2] at hm3 ⊢
  have hglen : (gone2 l t).length ≤ k := by rw [hg2]; exact hlen
  refine LoopS.know (φ := 0 < (gone2 l t).length → ∃ ga, A1 = some ⟨ga, 0, none⟩) (fun w' hS => fun h0 => St.some_ hS 0 rfl h0) (fun hA => ?_)
  refine LoopS.rule (okS w []) [(48, 69)] [] rfl (fun s : Int × Option Addr × Nat × List Int => []) (fun s => [⟨g0, 25, (lineV l A c).map .v⟩, ⟨g1, 25, (lineV zeroL none 0).map .v⟩, ⟨g2, 25, (lineV ⟨s.1, l.n, s.2.2.2⟩ s.2.1 s.2.2.1).map .v⟩])
    (fun s => [rowOf 3 1 s.2.1 s.2.2.2.length s.2.2.1 (i64s s.2.2.2)])
    (fun s => strip l.s (gone2 l t) = strip s.1 s.2.2.2 ∧ s.2.2.2.length ≤ s.2.2.1 ∧ (0 < s.2.2.2.length → ∃ ga, s.2.1 = some ⟨ga, 0, none⟩) ∧ (0 ≤ s.1 ∧ s.1 + s.2.2.2.length ≤ 1100))
    (fun s => s.2.2.2.length) (l.s, A1, c1, gone2 l t) (fun s => rfl) ⟨rfl, hm3, hA, by dsimp only; omega⟩ trivial ⟨rfl, (LbTo.self rfl).ok⟩ (RsTo.refl _) (fun s g ⟨hI1, hI2, hI4, hI5⟩ => ?_)
  obtain ⟨s', A3, c3, g'⟩ := s
  dsimp only at hI1 hI2 hI4 hI5 ⊢
  refine QuietS.mk (by as_aux_lemma => kernel_rfl) ?_
  cases g' with
  | nil =>
    have hstrip : strip s' [] = (s', []) := rfl
    conv => whnf
    refine Sp.mk (fun h => absurd h (by simp)) (fun _ => ?_)
    conv => whnf
    have e1 : leaveD l t = ⟨s', l.n, []⟩ := by rw [leaveD, if_pos hT, leaveL, hI1, hstrip]
    (repeat' (first | (refine Sp.mk (fun hs => ?_) (fun hs => ?_) <;> first | (exfalso; omega) | (conv => whnf)) | (refine Ar.i (by omega) ?_; conv => whnf) | (refine NewS.mk (fun _ => ?_); conv => whnf) | (refine QuoS.nn (by omega) ?_; conv => whnf) | (refine RemS.nn (by omega) ?_; conv => whnf) | refine RetS.mk (fun w' hS => ?_)))
    unfold leaveR
    rw [e1, decide_eq_true hT]
    exact ⟨(A3, c3), hI2, rfl, hS.below, hS.fresh (List.Sublist.refl _)⟩
  | cons x r =>
    have hlen2 : (x :: r).length = r.length + 1 := rfl
    obtain ⟨ga, rfl⟩ := hI4 (by simp)
    conv => whnf
    refine Sp.mk (fun _ => ?_) (fun h => absurd (by rw [hlen2]; omega) h)
    conv => whnf
    refine IdxS.at_ 0 rfl rfl (by simp) ?_
    conv => whnf
    refine LdS.at_ (v := .int .i64 x) (fun w' hS => ?_) ?_
    · obtain ⟨ad', e, hc⟩ := (hS.rowR (List.mem_of_getElem? (i := 0) rfl)).2 (by simp)
      simp only [Option.some.injEq] at e
      subst e
      exact hc 0 _ rfl
    conv => whnf
    refine Sp.mk (fun h => ?_) (fun h => ?_) <;> conv => whnf
    rotate_left
    · have hstrip : strip s' (x :: r) = (s', x :: r) := by rw [strip, if_neg h]
      have e1 : leaveD l t = ⟨s', l.n, x :: r⟩ := by rw [leaveD, if_pos hT, leaveL, hI1, hstrip]
      (repeat' (first | (refine Sp.mk (fun hs => ?_) (fun hs => ?_) <;> first | (exfalso; omega) | (conv => whnf)) | (refine Ar.i (by omega) ?_; conv => whnf) | (refine NewS.mk (fun _ => ?_); conv => whnf) | (refine QuoS.nn (by omega) ?_; conv => whnf) | (refine RemS.nn (by omega) ?_; conv => whnf) | refine RetS.mk (fun w' hS => ?_)))
      unfold leaveR
      rw [e1, decide_eq_true hT]
      exact ⟨(some ⟨ga, 0, none⟩, c3), hI2, rfl, hS.below, hS.fresh (List.Sublist.refl _)⟩
    refine Ar.i (by dsimp only; rw [hlen2] at hI5; omega) ?_
    conv => whnf
    refine SlcS.lo 1 rfl (by simp) hI2 ?_
    conv => whnf
    rw [hlen2] at hI2 hI5
    have hcut : ∀ w', Reads w' 1 (some ⟨ga, 0, none⟩) (r.length + 1) (i64s (x :: r)) → IntsL w' (if c3 = 1 then some ⟨ga, 0, none⟩ else (some (⟨ga, 0, none⟩ : Addr)).map (·.add (1 * 1))) r.length r := fun w' h => by
      have h3 := h.cut (l := 1) (hh := r.length + 1) (m := c3) (by omega) (Nat.le_refl _) hI2
      have e : ((i64s (x :: r)).drop (1 * 1)).take ((r.length + 1 - 1) * 1) = i64s r := by
        simp only [i64s, List.map_cons, Nat.one_mul, List.drop_succ_cons, List.drop_zero, Nat.add_sub_cancel, Nat.mul_one]
        exact List.take_of_length_le (by simp)
      rw [e] at h3
      exact ⟨h3, by omega⟩
    refine ⟨rfl, CallS.ownF (fun w' hS => spec_copyInts_any w' (hcut w' (hS.rowR (List.mem_of_getElem? (i := 0) rfl)))) (fun y3 b3 w3 hy3 hF3 => ?_)⟩
    conv => whnf
    exact ⟨(s' + 1, y3.1, y3.2, r), ⟨by rw [hI1, strip, if_pos h], hy3, fun h0 => row_some hF3 h0, by dsimp only; omega⟩, by simp, trivial, ⟨rfl, (LbTo.self rfl).ok⟩, RsTo.sub (List.Sublist.cons _ (List.Sublist.refl _))⟩
end Go.Proofs.Ytmojlnfadjnhgaa
