/- Contracts where the answer is known; conditions: none. -/
import Derived.Test.YtfjedjcdmaoeoaaPooQ
import Derived.Test.YtfjedjcdmaoeoaaPooO
import Derived.Test.YtfjedjcdmaoeoaaPooV
set_option maxRecDepth 100000
set_option linter.unusedVariables false
set_option linter.unusedSimpArgs false
namespace Go.Proofs.Ytfjedjcdmaoeoaa
open Eng Go Go.RowKit

theorem iAcqS_any {p q : PoolD} {a : PAd} {t c : Int} (w : World) (h : acq p t = some (q, c)) (hP : PoolR w p a) (hci : p.i.length ≤ a.ci) :
    Calls Try.prog 33 #[.agg (poolV p a).toArray, .int .i64 t] w fun e w' => ∃ y : PAd, capOk q y ∧ e = .returned (.tuple #[.agg (poolV q y).toArray, .int .i64 c, .bool true]) ∧ Below w.heap.size w w' ∧ Fresh w.heap.size (pRows q y) w' := by
  have h1 := iAcq_any t w hP hci
  obtain ⟨e1, e2, e3⟩ := acqD_some h
  rw [e1, e2, e3] at h1
  exact h1
theorem iAcqN_any {p : PoolD} {a : PAd} {t : Int} (w : World) (h : acq p t = none) (hP : PoolR w p a) (hci : p.i.length ≤ a.ci) :
    Calls Try.prog 33 #[.agg (poolV p a).toArray, .int .i64 t] w fun e w' => ∃ y : PAd, capOk zeroP y ∧ e = .returned (.tuple #[.agg (poolV zeroP y).toArray, .int .i64 (-1), .bool false]) ∧ Below w.heap.size w w' ∧ Fresh w.heap.size (pRows zeroP y) w' := by
  have h1 := iAcq_any t w hP hci
  obtain ⟨e1, e2, e3⟩ := acqD_none h
  rw [e1, e2, e3] at h1
  exact h1
theorem sAcqS_any {p q : PoolD} {a : PAd} {t c : Int} (w : World) (h : acq p t = some (q, c)) (hP : PoolR w p a) (hcp : capOk p a) (hs : p.i.length + p.h.length ≤ 2000000) :
    Calls Try.prog 34 #[.agg (poolV p a).toArray, .int .i64 t] w fun e w' => ∃ y : PAd, capOk q y ∧ e = .returned (.tuple #[.agg (poolV q y).toArray, .int .i64 c, .bool true]) ∧ Below w.heap.size w w' ∧ Fresh w.heap.size (pRows q y) w' := by
  have h1 := sAcq_any t w hP hcp hs
  obtain ⟨e1, e2, e3⟩ := acqD_some h
  rw [e1, e2, e3] at h1
  exact h1
theorem sAcqN_any {p : PoolD} {a : PAd} {t : Int} (w : World) (h : acq p t = none) (hP : PoolR w p a) (hcp : capOk p a) (hs : p.i.length + p.h.length ≤ 2000000) :
    Calls Try.prog 34 #[.agg (poolV p a).toArray, .int .i64 t] w fun e w' => ∃ y : PAd, capOk zeroP y ∧ e = .returned (.tuple #[.agg (poolV zeroP y).toArray, .int .i64 (-1), .bool false]) ∧ Below w.heap.size w w' ∧ Fresh w.heap.size (pRows zeroP y) w' := by
  have h1 := sAcq_any t w hP hcp hs
  obtain ⟨e1, e2, e3⟩ := acqD_none h
  rw [e1, e2, e3] at h1
  exact h1
theorem iRelS_any {p q : PoolD} {a : PAd} {t c : Int} (w : World) (hk : relOk p t) (h : rel p t = (q, c)) (hP : PoolR w p a) (hci : p.i.length ≤ a.ci) :
    Calls Try.prog 36 #[.agg (poolV p a).toArray, .int .i64 t] w fun e w' => ∃ y : PAd, capOk q y ∧ e = .returned (.tuple #[.agg (poolV q y).toArray, .int .i64 c, .bool true]) ∧ Below w.heap.size w w' ∧ Fresh w.heap.size (pRows q y) w' := by
  have h1 := iRel_any t w hP hci
  rw [relD, if_pos hk, relN, if_pos hk, decide_eq_true hk, h] at h1
  exact h1
theorem iRelN_any {p : PoolD} {a : PAd} {t : Int} (w : World) (hk : ¬ relOk p t) (hP : PoolR w p a) (hci : p.i.length ≤ a.ci) :
    Calls Try.prog 36 #[.agg (poolV p a).toArray, .int .i64 t] w fun e w' => ∃ y : PAd, capOk zeroP y ∧ e = .returned (.tuple #[.agg (poolV zeroP y).toArray, .int .i64 (-1), .bool false]) ∧ Below w.heap.size w w' ∧ Fresh w.heap.size (pRows zeroP y) w' := by
  have h1 := iRel_any t w hP hci
  rw [relD, if_neg hk, relN, if_neg hk, decide_eq_false hk] at h1
  exact h1
theorem sRelS_any {p q : PoolD} {a : PAd} {t c : Int} (w : World) (hk : relOk p t) (h : rel p t = (q, c)) (hP : PoolR w p a) (hcp : capOk p a) (hs : p.i.length + p.h.length ≤ 2000000) :
    Calls Try.prog 37 #[.agg (poolV p a).toArray, .int .i64 t] w fun e w' => ∃ y : PAd, capOk q y ∧ e = .returned (.tuple #[.agg (poolV q y).toArray, .int .i64 c, .bool true]) ∧ Below w.heap.size w w' ∧ Fresh w.heap.size (pRows q y) w' := by
  have h1 := sRel_any t w hP hcp hs
  rw [relD, if_pos hk, relN, if_pos hk, decide_eq_true hk, h] at h1
  exact h1
theorem sRelN_any {p : PoolD} {a : PAd} {t : Int} (w : World) (hk : ¬ relOk p t) (hP : PoolR w p a) (hcp : capOk p a) (hs : p.i.length + p.h.length ≤ 2000000) :
    Calls Try.prog 37 #[.agg (poolV p a).toArray, .int .i64 t] w fun e w' => ∃ y : PAd, capOk zeroP y ∧ e = .returned (.tuple #[.agg (poolV zeroP y).toArray, .int .i64 (-1), .bool false]) ∧ Below w.heap.size w w' ∧ Fresh w.heap.size (pRows zeroP y) w' := by
  have h1 := sRel_any t w hP hcp hs
  rw [relD, if_neg hk, relN, if_neg hk, decide_eq_false hk] at h1
  exact h1
theorem iCloseS_any {p : PoolD} {a : PAd} {t : Int} {N : Nat} (w : World) (hk : closeOk p t) (hN : min t (p.i.length : Int) = N) (hP : PoolR w p a) (hci : p.i.length ≤ a.ci) :
    Calls Try.prog 28 #[.agg (poolV p a).toArray, .int .i64 t] w fun e w' => ∃ y : PAd, capOk (closeL p N) y ∧ e = .returned (.tuple #[.agg (poolV (closeL p N) y).toArray, .int .i64 N]) ∧ Below w.heap.size w w' ∧ Fresh w.heap.size (pRows (closeL p N) y) w' := by
  have h1 := iClose_any t w hP hci
  obtain ⟨e1, e2⟩ := close_yes hk hN
  rw [e1, e2] at h1
  exact h1
theorem iCloseN_any {p : PoolD} {a : PAd} {t : Int} (w : World) (hk : ¬ closeOk p t) (hP : PoolR w p a) (hci : p.i.length ≤ a.ci) :
    Calls Try.prog 28 #[.agg (poolV p a).toArray, .int .i64 t] w fun e w' => ∃ y : PAd, capOk zeroP y ∧ e = .returned (.tuple #[.agg (poolV zeroP y).toArray, .int .i64 (-1)]) ∧ Below w.heap.size w w' ∧ Fresh w.heap.size (pRows zeroP y) w' := by
  have h1 := iClose_any t w hP hci
  rw [closeD, if_neg hk, closeN, if_neg hk] at h1
  exact h1
theorem sCloseS_any {p : PoolD} {a : PAd} {t : Int} {N : Nat} (w : World) (hk : closeOk p t) (hN : min t (p.i.length : Int) = N) (hP : PoolR w p a) (hci : p.i.length ≤ a.ci) (hs : p.i.length + p.h.length ≤ 2000000) :
    Calls Try.prog 29 #[.agg (poolV p a).toArray, .int .i64 t] w fun e w' => ∃ y : PAd, capOk (closeL p N) y ∧ e = .returned (.tuple #[.agg (poolV (closeL p N) y).toArray, .int .i64 N]) ∧ Below w.heap.size w w' ∧ Fresh w.heap.size (pRows (closeL p N) y) w' := by
  have h1 := sClose_any t w hP hci hs
  obtain ⟨e1, e2⟩ := close_yes hk hN
  rw [e1, e2] at h1
  exact h1
theorem sCloseN_any {p : PoolD} {a : PAd} {t : Int} (w : World) (hk : ¬ closeOk p t) (hP : PoolR w p a) (hci : p.i.length ≤ a.ci) (hs : p.i.length + p.h.length ≤ 2000000) :
    Calls Try.prog 29 #[.agg (poolV p a).toArray, .int .i64 t] w fun e w' => ∃ y : PAd, capOk zeroP y ∧ e = .returned (.tuple #[.agg (poolV zeroP y).toArray, .int .i64 (-1)]) ∧ Below w.heap.size w w' ∧ Fresh w.heap.size (pRows zeroP y) w' := by
  have h1 := sClose_any t w hP hci hs
  rw [closeD, if_neg hk, closeN, if_neg hk] at h1
  exact h1
theorem iHeldS_any {p : PoolD} {a : PAd} {t : Int} (w : World) (hok : okPool p) (hP : PoolR w p a) (hci : p.i.length ≤ a.ci) :
    Calls Try.prog 23 #[.agg (poolV p a).toArray, .int .i64 t] w fun e w' => ∃ y : Option Addr × Nat, (heldBy p.h t).length ≤ y.2 ∧ e = .returned (.slice y.1 (heldBy p.h t).length y.2) ∧ Below w.heap.size w w' ∧ Fresh w.heap.size [rowOf 3 1 y.1 (heldBy p.h t).length y.2 (i64s (heldBy p.h t))] w' := by
  have h1 := iHeldBy_any t w hP hci
  have e : HeldBy p t = heldBy p.h t := if_pos hok
  rw [e] at h1
  exact h1

/-! ### Plain facts for the laws -/
theorem acq_ok {p q : PoolD} {t c : Int} (h : acq p t = some (q, c)) : okPool p ∧ gives t ∧ okPool q := by
  by_cases hc : 0 ≤ c
  · obtain ⟨h1, h2, h3, _⟩ := acq_held h hc
    exact ⟨h1, h2, h3⟩
  · obtain ⟨h1, h2, h3, _⟩ := acq_wait h (by omega)
    exact ⟨h1, h2, h3⟩
theorem acq_open {p q : PoolD} {t c : Int} (h : acq p t = some (q, c)) : (p.i.length ≠ 0 → c = lastI p.i ∧ q.i = p.i.take (p.i.length - 1)) ∧ (p.i.length = 0 → q.i = []) := by
  by_cases hc : 0 ≤ c
  · obtain ⟨_, _, _, _, _, _, i, rfl, h8, h9⟩ := acq_held h hc
    exact ⟨fun hi => ⟨(h8 hi).2, (h8 hi).1⟩, fun hi => h9 hi⟩
  · obtain ⟨_, _, _, _, _, h6, rfl⟩ := acq_wait h (by omega)
    exact ⟨fun hi => absurd (by rw [h6]; rfl) hi, fun _ => rfl⟩
theorem ok_small {p : PoolD} (h : okPool p) : p.i.length + p.h.length ≤ 6 ∧ p.w.length ≤ 12 := by
  have h1 := pool_room h
  have h2 := h.1
  have h3 := h.2.2.2.2.1
  omega
theorem rel_ok {p q : PoolD} {t c : Int} (hk : relOk p t) (h : rel p t = (q, c)) : okPool q := by have := ok_rel hk; rw [h] at this; exact this
theorem zeroP_le : PoolLe zeroP := ⟨by simp [zeroP], by simp [zeroP], by simp [zeroP]⟩
theorem ok_le {p : PoolD} (h : okPool p) : PoolLe p := by have := ok_small h; exact ⟨by omega, by omega, by omega⟩

/-! ### Words for the laws -/
theorem ints_at {w0 w' : World} {S0 : List Nat} {lb : List Box} {rs : List Own} {A : Option Addr} {ad : Addr} {n c k : Nat} {l : List Int} {x : Int} (hS : Eng.St w0 S0 lb rs w') (i : Nat) (hi : rs[i]? = some (rowOf 3 1 A n c (i64s l))) (hA : A = some ad) (hk : k < n) (hx : l[k]? = some x) :
    w'.cell? (ad.add k) = some (.int .i64 x) := by
  obtain ⟨ad', e, hc⟩ := (hS.rowR (List.mem_of_getElem? hi)).2 (by omega)
  rw [hA] at e
  simp only [Option.some.injEq] at e
  subst e
  exact hc k _ (by simp [i64s, hx])
theorem holds_at {w0 w' : World} {S0 : List Nat} {lb : List Box} {rs : List Own} {A : Option Addr} {ad : Addr} {n c k : Nat} {l : List HoldD} {x : HoldD} (hS : Eng.St w0 S0 lb rs w') (i : Nat) (hi : rs[i]? = some (rowOf 41 2 A n c (l.flatMap holdV))) (hA : A = some ad) (hn : n ≤ 2000000) (hk : k < n) (hx : l[k]? = some x) :
    w'.cell? ((ad.add (k * 2)).add 0) = some (.int .i64 x.c) := by
  subst hA
  have hH : Holds w' (some ad) n l := ⟨hS.rowR (List.mem_of_getElem? hi), hn⟩
  obtain ⟨ad', x', e, hx', _, hc⟩ := hH.at_ hk
  simp only [Option.some.injEq] at e
  subst e
  rw [hx] at hx'
  simp only [Option.some.injEq] at hx'
  subst hx'
  exact hc 0 _ rfl
theorem equalHoldsE_any {A B : Option Addr} {n m c c' : Nat} {l1 l2 : List HoldD} (w : World) (e : l1 = l2) (hA : Holds w A n l1) (hB : Holds w B m l2) :
    Calls Try.prog 31 #[.slice A n c, .slice B m c'] w fun e w' => e = .returned (.bool true) ∧ Below w.heap.size w w' := by
  subst e
  have h1 := hA.len
  have h2 := hB.len
  obtain rfl : n = m := by omega
  exact equalHolds_any w hA hB
theorem St.holdsR {w0 w : World} {S0 : List Nat} {lb : List Box} {rs : List Own} {A : Option Addr} {n c : Nat} {l : List HoldD} (hS : Eng.St w0 S0 lb rs w) (i : Nat) (hi : rs[i]? = some (rowOf 41 2 A n c (l.flatMap holdV))) (hn : n ≤ 2000000) : Holds w A n l := ⟨hS.rowR (List.mem_of_getElem? hi), hn⟩
theorem fresh_some {b : Nat} {os : List Own} {w' : World} {e : TypeId} {size n c : Nat} {A : Option Addr} {xs : List Value} (h : Fresh b os w') (i : Nat) (hi : os[i]? = some (rowOf e size A n c xs)) (h0 : 0 < n) : ∃ g, A = some ⟨g, 0, none⟩ := by
  rcases rowOf_owns (h.own _ (List.mem_of_getElem? hi)) with ⟨_, h1, _⟩ | ⟨g, h1, _⟩
  · omega
  · exact ⟨g, h1⟩
theorem iCloseQ_any {p q : PoolD} {a : PAd} {t : Int} {N : Nat} (w : World) (hk : closeOk p t) (hN : min t (p.i.length : Int) = N) (hq : closeL p N = q) (hP : PoolR w p a) (hci : p.i.length ≤ a.ci) :
    Calls Try.prog 28 #[.agg (poolV p a).toArray, .int .i64 t] w fun e w' => ∃ y : PAd, capOk q y ∧ e = .returned (.tuple #[.agg (poolV q y).toArray, .int .i64 N]) ∧ Below w.heap.size w w' ∧ Fresh w.heap.size (pRows q y) w' := by
  subst hq
  exact iCloseS_any w hk hN hP hci
theorem sCloseQ_any {p q : PoolD} {a : PAd} {t : Int} {N : Nat} (w : World) (hk : closeOk p t) (hN : min t (p.i.length : Int) = N) (hq : closeL p N = q) (hP : PoolR w p a) (hci : p.i.length ≤ a.ci) (hs : p.i.length + p.h.length ≤ 2000000) :
    Calls Try.prog 29 #[.agg (poolV p a).toArray, .int .i64 t] w fun e w' => ∃ y : PAd, capOk q y ∧ e = .returned (.tuple #[.agg (poolV q y).toArray, .int .i64 N]) ∧ Below w.heap.size w w' ∧ Fresh w.heap.size (pRows q y) w' := by
  subst hq
  exact sCloseS_any w hk hN hP hci hs
theorem rel_len {p q : PoolD} {t c : Int} (hk : relOk p t) (h : rel p t = (q, c)) : q.w.length + q.h.length + 1 = p.w.length + p.h.length ∧ q.i.length + q.h.length = p.i.length + p.h.length := by
  have h1 := (relH_perm hk.2).2.1
  unfold rel at h
  split at h
  · rename_i hw
    simp only [Prod.mk.injEq] at h
    obtain ⟨rfl, _⟩ := h
    rw [hw]
    refine ⟨?_, ?_⟩ <;> simp <;> omega
  · rename_i o r hw
    simp only [Prod.mk.injEq] at h
    obtain ⟨rfl, _⟩ := h
    rw [hw]
    refine ⟨?_, ?_⟩ <;> simp <;> omega
theorem rel_idle {p : PoolD} {t : Int} (hw : p.w = []) : rel p t = (⟨p.m, p.i ++ [t], relH p t, []⟩, -1) := by
  rw [rel]; split
  · rfl
  · rename_i h2; rw [hw] at h2; simp at h2
theorem rel_pass {p : PoolD} {t o : Int} {r : List Int} (hw : p.w = o :: r) : rel p t = (⟨p.m, p.i, relH p t ++ [⟨t, o⟩], r⟩, o) := by
  rw [rel]; split
  · rename_i h2; rw [hw] at h2; simp at h2
  · rename_i h2; rw [hw] at h2; simp only [List.cons.injEq] at h2; obtain ⟨rfl, rfl⟩ := h2; rfl
theorem last_at {l : List Int} (h : l.length ≠ 0) : l[l.length - 1]? = some (lastI l) := by
  have hx : l[l.length - 1]? = some l[l.length - 1] := List.getElem?_eq_getElem (by omega)
  simp [lastI, List.getD, hx]
theorem held_sub {h : List HoldD} {o c : Int} (hm : c ∈ heldBy h o) : c ∈ hc h := by
  obtain ⟨x, h1, _, h3⟩ := mem_heldBy.1 hm
  exact mem_hc.2 ⟨x, h1, h3⟩
/-- ValidPool where the lengths are written otherwise. -/
theorem vpE_any {p : PoolD} {a : PAd} {ni nh nw : Nat} (w : World) (hP : PoolR w p a) (h1 : p.i.length = ni) (h2 : p.h.length = nh) (h3 : p.w.length = nw) (hci : p.i.length ≤ a.ci) :
    Calls Try.prog 20 #[.agg #[.int .i64 p.m, .slice a.i ni a.ci, .slice a.h nh a.ch, .slice a.w nw a.cw]] w fun e w' => e = .returned (.bool (decide (okPool p))) ∧ Below w.heap.size w w' := by
  subst h1 h2 h3
  exact impl_ValidPool_any w hP hci
theorem nil_or (l : List Int) : l = [] ∨ ∃ o r, l = o :: r := by
  cases l with
  | nil => exact .inl rfl
  | cons o r => exact .inr ⟨o, r, rfl⟩
def hsum (h : List HoldD) : Nat → Nat
  | 0 => 0
  | k + 1 => hsum h k + (heldBy h k).length
theorem hsum_le (h : List HoldD) : ∀ k, hsum h k ≤ k * h.length
  | 0 => Nat.zero_le _
  | k + 1 => by
    have h1 := hsum_le h k
    have h2 := heldBy_len h k
    rw [hsum, Nat.succ_mul]
    omega
theorem hsum_all {h : List HoldD} (ho : ∀ x ∈ h, 0 ≤ x.o ∧ x.o ≤ 4) : hsum h 5 = h.length := by
  have := law_heldBy ho
  simp only [hsum]
  simpa using this
end Go.Proofs.Ytfjedjcdmaoeoaa
