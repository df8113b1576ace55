/- The small functions on pools: ranges, lists, held connections; conditions: none. -/
import Derived.Test.YtfjedjcdmaoeoaaPooP
import Derived.Test.YtfjedjcdmaoeoaaLift
set_option maxRecDepth 100000
set_option linter.unusedVariables false
set_option linter.unusedSimpArgs false
namespace Go.Proofs.Ytfjedjcdmaoeoaa
open Eng Go Go.RowKit

theorem box_cell0 {w0 w : World} {S0 : List Nat} {lb : List Box} {rs : List Own} (hst : Eng.St w0 S0 lb rs w) (i : Nat) {b : Box} (hb : lb[i]? = some b) {v : Value} (hv : b.cells = [.v v]) : w.cell? ⟨b.blk, 0, none⟩ = some v := by
  have h1 := (hst.box i b hb).1
  simp [World.cell?, h1, hv, conc]
theorem cell_below {w w' : World} {a : Addr} {u : Value} (hb : Below w.heap.size w w') (h : w.cell? a = some u) : w'.cell? a = some u := (Pres.of_below hb []).cell h (by simp)

section
variable {C : Cx} {n : Nat} {lb : List Box} {rs : List Own} {f : Nat} {args : Array Value}
/-- What any state at this place shows. -/
theorem CallS.know {K : SV → List Box → List Own → Prop} {φ : Prop} (h : ∀ w, C.St lb rs w → φ) (k : φ → CallS C lb rs f args K) : CallS C lb rs f args K := ⟨fun w hw => (k (h w hw)).out w hw⟩
theorem SemS.know {e : Sem Value} {K : SV → List Own → Prop} {φ : Prop} (h : ∀ w, C.St lb rs w → φ) (k : φ → SemS C lb rs e K) : SemS C lb rs e K := ⟨fun w hw => (k (h w hw)).out w hw⟩
theorem LoopS.know {b : Code} {env : Env} {Q : Post} {φ : Prop} (h : ∀ w, C.St lb rs w → φ) (k : φ → LoopS C n b env lb rs Q) : LoopS C n b env lb rs Q := ⟨fun a w hag hst => (k (h w hst)).out a w hag hst⟩
theorem DrawS.know {ops : Array Oper} {env : Env} {Q : Env → List Box → List Own → Prop} {φ : Prop} (h : ∀ w, C.St lb rs w → φ) (k : φ → DrawS C n ops env lb rs Q) : DrawS C n ops env lb rs Q := ⟨fun hC id a w hag hst => (k (h w hst)).out hC id a w hag hst⟩
theorem St.some_ {w0 w : World} {S0 : List Nat} (hS : Eng.St w0 S0 lb rs w) {e : TypeId} {size m c : Nat} {A : Option Addr} {xs : List Value} (i : Nat) (hi : rs[i]? = some (rowOf e size A m c xs)) (h0 : 0 < m) : ∃ g, A = some ⟨g, 0, none⟩ := by
  rcases rowOf_owns (hS.own _ (List.mem_of_getElem? hi)).1 with ⟨_, h1, _⟩ | ⟨g, h1, _⟩
  · omega
  · exact ⟨g, h1⟩
theorem CallS.ownF {K : SV → List Box → List Own → Prop} {α : Type} {r : α → Value} {φ : α → Prop} {os : α → List Own}
    (hc : ∀ w, C.St lb rs w → Calls C.P f args w fun e w' => ∃ x, φ x ∧ e = .returned (r x) ∧ Below w.heap.size w w' ∧ Fresh w.heap.size (os x) w')
    (k : ∀ x b w', φ x → Fresh b (os x) w' → K (.v (r x)) lb (rs ++ os x)) : CallS C lb rs f args K :=
  ⟨fun w hw => (hc w hw).mono fun e w' ⟨x, hx, he, hb, ho⟩ => ⟨r x, lb, _, he, SameNums.refl _, St.adopts hw hb ho, k x _ _ hx ho⟩⟩
theorem row_some {b : Nat} {w' : World} {e : TypeId} {size n c : Nat} {A : Option Addr} {xs : List Value} (h : Fresh b [rowOf e size A n c xs] w') (h0 : 0 < n) : ∃ g, A = some ⟨g, 0, none⟩ := by
  rcases rowOf_owns (h.own _ (List.mem_singleton.2 rfl)) with ⟨_, h1, _⟩ | ⟨g, h1, _⟩
  · omega
  · exact ⟨g, h1⟩
theorem Reads.pre {w : World} {size n : Nat} {A : Option Addr} {xs : List Value} (h : Reads w size A n xs) {k : Nat} (hk : k ≤ n) : Reads w size A k (xs.take (k * size)) := by
  have hle : k * size ≤ n * size := Nat.mul_le_mul_right _ hk
  refine ⟨by rw [List.length_take, h.1]; omega, fun h0 => ?_⟩
  obtain ⟨ad, e, hc⟩ := h.2 (by omega)
  refine ⟨ad, e, fun j u hu => hc j u ?_⟩
  rw [List.getElem?_take] at hu
  split at hu
  · exact hu
  · simp at hu
end

def holdV (x : HoldD) : List Value := [.int .i64 x.c, .int .i64 x.o]
theorem holdV_len (x : HoldD) : (holdV x).length = 2 := rfl
theorem holdV_one (x : HoldD) : ∀ u ∈ holdV x, isOne u = true := by simp [holdV, isOne]
theorem holdL_one (l : List HoldD) : ∀ u ∈ l.flatMap holdV, isOne u = true := by
  intro u hu
  obtain ⟨x, _, hx⟩ := List.mem_flatMap.1 hu
  exact holdV_one x u hx
/-- A slice of held connections, not too long to be walked. -/
structure Holds (w : World) (A : Option Addr) (n : Nat) (l : List HoldD) : Prop where
  rd : Reads w 2 A n (l.flatMap holdV)
  le : n ≤ 2000000
section
variable {w w' : World} {A : Option Addr} {n : Nat} {l : List HoldD}
theorem Holds.len (h : Holds w A n l) : l.length = n := by have := h.rd.1; rw [flat_len holdV_len] at this; omega
theorem Holds.at_ (h : Holds w A n l) {k : Nat} (hk : k < n) : ∃ ad x, A = some ad ∧ l[k]? = some x ∧ x ∈ l ∧ ∀ j u, (holdV x)[j]? = some u → w.cell? ((ad.add (k * 2)).add j) = some u := by
  have hl := h.len
  obtain ⟨ad, e, hc⟩ := h.rd.2 (by omega)
  have hx : l[k]? = some l[k] := List.getElem?_eq_getElem (by omega)
  refine ⟨ad, l[k], e, hx, List.getElem_mem _, fun j u hu => ?_⟩
  have hj : j < 2 := (List.getElem?_eq_some_iff.1 hu).1
  rw [add_add]
  exact hc _ u (by rw [flat_get holdV_len hx hj]; exact hu)
theorem Holds.below (h : Holds w A n l) (hb : Below w.heap.size w w') : Holds w' A n l := ⟨h.rd.below hb, h.le⟩
end
structure PAd where
  i : Option Addr
  h : Option Addr
  w : Option Addr
  ci : Nat
  ch : Nat
  cw : Nat
def poolV (p : PoolD) (a : PAd) : List Value := [.int .i64 p.m, .slice a.i p.i.length a.ci, .slice a.h p.h.length a.ch, .slice a.w p.w.length a.cw]
structure PoolR (w : World) (p : PoolD) (a : PAd) : Prop where
  i : IntsL w a.i p.i.length p.i
  h : Holds w a.h p.h.length p.h
  w : IntsL w a.w p.w.length p.w
theorem PoolR.below {w w' : World} {p : PoolD} {a : PAd} (h : PoolR w p a) (hb : Below w.heap.size w w') : PoolR w' p a := ⟨h.i.below hb, h.h.below hb, h.w.below hb⟩
def iRow (p : PoolD) (a : PAd) : Own := rowOf 3 1 a.i p.i.length a.ci (i64s p.i)
def hRow (p : PoolD) (a : PAd) : Own := rowOf 41 2 a.h p.h.length a.ch (p.h.flatMap holdV)
def wRow (p : PoolD) (a : PAd) : Own := rowOf 3 1 a.w p.w.length a.cw (i64s p.w)
def pRows (p : PoolD) (a : PAd) : List Own := [iRow p a, hRow p a, wRow p a]
structure PoolLe (p : PoolD) : Prop where
  i : p.i.length ≤ 2000000
  h : p.h.length ≤ 2000000
  w : p.w.length ≤ 2000000
theorem St.pool {w0 w : World} {S0 : List Nat} {lb : List Box} {rs : List Own} {p : PoolD} {a : PAd} (hS : Eng.St w0 S0 lb rs w) (hl : PoolLe p) (i j k : Nat) (hi : rs[i]? = some (iRow p a)) (hj : rs[j]? = some (hRow p a)) (hk : rs[k]? = some (wRow p a)) : PoolR w p a :=
  ⟨⟨hS.rowR (List.mem_of_getElem? hi), hl.i⟩, ⟨hS.rowR (List.mem_of_getElem? hj), hl.h⟩, ⟨hS.rowR (List.mem_of_getElem? hk), hl.w⟩⟩

def idxI : List Int → Int → Nat → Int
  | [], _, _ => -1
  | x :: l, t, k => if x = t then k else idxI l t (k + 1)
theorem inRange_any (n lo hi : Int) (w : World) : Calls Try.prog 59 #[.int .i64 n, .int .i64 lo, .int .i64 hi] w fun e w' => e = .returned (.bool (decide (lo ≤ n ∧ n ≤ hi))) ∧ Below w.heap.size w w' := by
  refine enter (C := cxS w []) (okS w []) (St.start w) Try.func59 rfl rfl ?_; conv => whnf
  (repeat' (first | (refine Sp.mk (fun hs => ?_) (fun hs => ?_) <;> first | (exfalso; omega) | (conv => whnf)) | (refine Ar.i (by omega) ?_; conv => whnf) | (refine NewS.mk (fun _ => ?_); conv => whnf) | (refine QuoS.nn (by omega) ?_; conv => whnf) | (refine RemS.nn (by omega) ?_; conv => whnf) | (refine QuietS.mk (by as_aux_lemma => kernel_rfl) ?_; conv => whnf) | refine RetS.mk (fun w' hS => ?_)))
  all_goals exact ⟨by congr 2; simp [*], hS.below⟩
theorem in_any (n lo hi : Int) (w : World) : Calls Try.prog 45 #[.int .i64 n, .int .i64 lo, .int .i64 hi] w fun e w' => e = .returned (.bool (decide (lo ≤ n ∧ n ≤ hi))) ∧ Below w.heap.size w w' := by
  refine enter (C := cxS w []) (okS w []) (St.start w) Try.func45 rfl rfl ?_; conv => whnf
  (repeat' (first | (refine Sp.mk (fun hs => ?_) (fun hs => ?_) <;> first | (exfalso; omega) | (conv => whnf)) | (refine Ar.i (by omega) ?_; conv => whnf) | (refine NewS.mk (fun _ => ?_); conv => whnf) | (refine QuoS.nn (by omega) ?_; conv => whnf) | (refine RemS.nn (by omega) ?_; conv => whnf) | (refine QuietS.mk (by as_aux_lemma => kernel_rfl) ?_; conv => whnf) | refine RetS.mk (fun w' hS => ?_)))
  all_goals exact ⟨by congr 2; simp [*], hS.below⟩

theorem sallIn_any {A : Option Addr} {n c : Nat} {l : List Int} (lo hi : Int) (w : World) (hL : IntsL w A n l) :
    Calls Try.prog 80 #[.slice A n c, .int .i64 lo, .int .i64 hi] w fun e w' => e = .returned (.bool (decide (∀ x ∈ l, lo ≤ x ∧ x ≤ hi))) ∧ Below w.heap.size w w' := by
  have hl := hL.len
  have hle := hL.le
  refine enter (C := cxS w []) (okS w []) (St.start w) Try.func80 rfl rfl ?_; conv => whnf
  refine LoopS.same (okS w []) [(6, 21)] [7] rfl (fun k : Nat => [I64 k]) (fun k => k ≤ n ∧ ∀ x ∈ l.take k, lo ≤ x ∧ x ≤ hi) (fun k => n - k) 0 ⟨by omega, by simp⟩ ⟨rfl, trivial⟩ (LbTo.refl_nil _) (fun k g ⟨hk, hI⟩ => ?_)
  conv => whnf
  refine Sp.mk (fun h => ?_) (fun h => ?_) <;> conv => whnf
  · obtain ⟨ad, x, rfl, hx, hm, hc⟩ := hL.at_ (k := k) (by omega)
    refine IdxS.at_ k rfl rfl (by omega) ?_
    conv => whnf
    refine LdS.at_ (fun w' hS => hS.cell0 hc) ?_
    conv => whnf
    refine ⟨rfl, CallS.p (fun w' hS => inRange_any _ _ _ w') (fun h2 => ?_) (fun h2 => ?_)⟩ <;> conv => whnf
    · (repeat' (first | (refine Sp.mk (fun hs => ?_) (fun hs => ?_) <;> first | (exfalso; omega) | (conv => whnf)) | (refine Ar.i (by omega) ?_; conv => whnf) | (refine NewS.mk (fun _ => ?_); conv => whnf) | (refine QuoS.nn (by omega) ?_; conv => whnf) | (refine RemS.nn (by omega) ?_; conv => whnf) | (refine QuietS.mk (by as_aux_lemma => kernel_rfl) ?_; conv => whnf) | refine RetS.mk (fun w' hS => ?_)))
      refine ⟨k + 1, ⟨by omega, fun y hy => ?_⟩, by omega, ⟨rfl, trivial⟩, LbTo.refl_nil _, RsTo.refl _⟩
      rw [take_snoc hx, List.mem_append, List.mem_singleton] at hy
      rcases hy with hy | rfl
      · exact hI y hy
      · exact h2
    · (repeat' (first | (refine Sp.mk (fun hs => ?_) (fun hs => ?_) <;> first | (exfalso; omega) | (conv => whnf)) | (refine Ar.i (by omega) ?_; conv => whnf) | (refine NewS.mk (fun _ => ?_); conv => whnf) | (refine QuoS.nn (by omega) ?_; conv => whnf) | (refine RemS.nn (by omega) ?_; conv => whnf) | (refine QuietS.mk (by as_aux_lemma => kernel_rfl) ?_; conv => whnf) | refine RetS.mk (fun w' hS => ?_)))
      exact ⟨by rw [decide_eq_false]; exact fun h => h2 (h x hm), hS.below⟩
  · (repeat' (first | (refine Sp.mk (fun hs => ?_) (fun hs => ?_) <;> first | (exfalso; omega) | (conv => whnf)) | (refine Ar.i (by omega) ?_; conv => whnf) | (refine NewS.mk (fun _ => ?_); conv => whnf) | (refine QuoS.nn (by omega) ?_; conv => whnf) | (refine RemS.nn (by omega) ?_; conv => whnf) | (refine QuietS.mk (by as_aux_lemma => kernel_rfl) ?_; conv => whnf) | refine RetS.mk (fun w' hS => ?_)))
    have e1 : l.take k = l := List.take_of_length_le (by omega)
    rw [e1] at hI
    exact ⟨by rw [decide_eq_true hI], hS.below⟩

/-! ### slices.Index, slices.Contains -/
theorem idxI_in : ∀ (l : List Int) (t : Int) (k : Nat), (0 ≤ idxI l t k) ↔ t ∈ l
  | [], t, k => by simp [idxI]
  | x :: l, t, k => by
    simp only [idxI, List.mem_cons]
    split
    · rename_i e; simp [e]
    · rename_i e
      rw [idxI_in l t (k + 1)]
      constructor
      · exact .inr
      · exact fun h => h.resolve_left (fun e' => e e'.symm)
theorem index_any {A : Option Addr} {n c : Nat} {l : List Int} (t : Int) (w : World) (hL : IntsL w A n l) :
    Calls Try.prog 74 #[.slice A n c, .int .i64 t] w fun e w' => e = .returned (.int .i64 (idxI l t 0)) ∧ Below w.heap.size w w' := by
  have hl := hL.len
  have hle := hL.le
  refine enter (C := cxS w []) (okS w []) (St.start w) Try.func74 rfl rfl ?_; conv => whnf
  refine LoopS.same (okS w []) [(4, 5), (8, 18)] [8] rfl (fun k : Nat => [I64 k]) (fun k => k ≤ n ∧ idxI l t 0 = idxI (l.drop k) t k) (fun k => n - k) 0 ⟨by omega, rfl⟩ ⟨rfl, trivial⟩ (LbTo.refl_nil _) (fun k g ⟨hk, hI⟩ => ?_)
  conv => whnf
  refine Sp.mk (fun h => ?_) (fun h => ?_) <;> conv => whnf
  · obtain ⟨ad, x, rfl, hx, hm, hc⟩ := hL.at_ (k := k) (by omega)
    rw [drop_at hx, idxI] at hI
    refine IdxS.at_ k rfl rfl (by omega) ?_
    conv => whnf
    refine LdS.at_ (fun w' hS => hS.cell0 hc) ?_
    conv => whnf
    refine Sp.mk (fun h2 => ?_) (fun h2 => ?_) <;> conv => whnf
    · (repeat' (first | (refine Sp.mk (fun hs => ?_) (fun hs => ?_) <;> first | (exfalso; omega) | (conv => whnf)) | (refine Ar.i (by omega) ?_; conv => whnf) | (refine NewS.mk (fun _ => ?_); conv => whnf) | (refine QuoS.nn (by omega) ?_; conv => whnf) | (refine RemS.nn (by omega) ?_; conv => whnf) | (refine QuietS.mk (by as_aux_lemma => kernel_rfl) ?_; conv => whnf) | refine RetS.mk (fun w' hS => ?_)))
      exact ⟨by rw [hI, if_pos h2.symm], hS.below⟩
    · (repeat' (first | (refine Sp.mk (fun hs => ?_) (fun hs => ?_) <;> first | (exfalso; omega) | (conv => whnf)) | (refine Ar.i (by omega) ?_; conv => whnf) | (refine NewS.mk (fun _ => ?_); conv => whnf) | (refine QuoS.nn (by omega) ?_; conv => whnf) | (refine RemS.nn (by omega) ?_; conv => whnf) | (refine QuietS.mk (by as_aux_lemma => kernel_rfl) ?_; conv => whnf) | refine RetS.mk (fun w' hS => ?_)))
      exact ⟨k + 1, ⟨by omega, by rw [hI, if_neg (fun e => h2 e.symm)]⟩, by omega, ⟨rfl, trivial⟩, LbTo.refl_nil _, RsTo.refl _⟩
  · (repeat' (first | (refine Sp.mk (fun hs => ?_) (fun hs => ?_) <;> first | (exfalso; omega) | (conv => whnf)) | (refine Ar.i (by omega) ?_; conv => whnf) | (refine NewS.mk (fun _ => ?_); conv => whnf) | (refine QuoS.nn (by omega) ?_; conv => whnf) | (refine RemS.nn (by omega) ?_; conv => whnf) | (refine QuietS.mk (by as_aux_lemma => kernel_rfl) ?_; conv => whnf) | refine RetS.mk (fun w' hS => ?_)))
    have hkn : k = n := by omega
    rw [hkn, ← hl, List.drop_length] at hI
    exact ⟨by rw [hI]; rfl, hS.below⟩
theorem contains_any {A : Option Addr} {n c : Nat} {l : List Int} (t : Int) (w : World) (hL : IntsL w A n l) :
    Calls Try.prog 46 #[.slice A n c, .int .i64 t] w fun e w' => e = .returned (.bool (decide (t ∈ l))) ∧ Below w.heap.size w w' := by
  refine enter (C := cxS w []) (okS w []) (St.start w) Try.func46 rfl rfl ?_; conv => whnf
  refine ⟨rfl, CallS.ro (fun w' hS => index_any t w' (hL.below hS.below)) ?_⟩
  conv => whnf
  refine Sp.mk (fun h => ?_) (fun h => ?_) <;> conv => whnf
  · (repeat' (first | (refine Sp.mk (fun hs => ?_) (fun hs => ?_) <;> first | (exfalso; omega) | (conv => whnf)) | (refine Ar.i (by omega) ?_; conv => whnf) | (refine NewS.mk (fun _ => ?_); conv => whnf) | (refine QuoS.nn (by omega) ?_; conv => whnf) | (refine RemS.nn (by omega) ?_; conv => whnf) | (refine QuietS.mk (by as_aux_lemma => kernel_rfl) ?_; conv => whnf) | refine RetS.mk (fun w' hS => ?_)))
    exact ⟨by rw [decide_eq_true ((idxI_in l t 0).1 h)], hS.below⟩
  · (repeat' (first | (refine Sp.mk (fun hs => ?_) (fun hs => ?_) <;> first | (exfalso; omega) | (conv => whnf)) | (refine Ar.i (by omega) ?_; conv => whnf) | (refine NewS.mk (fun _ => ?_); conv => whnf) | (refine QuoS.nn (by omega) ?_; conv => whnf) | (refine RemS.nn (by omega) ?_; conv => whnf) | (refine QuietS.mk (by as_aux_lemma => kernel_rfl) ?_; conv => whnf) | refine RetS.mk (fun w' hS => ?_)))
    exact ⟨by rw [decide_eq_false (fun hm => h ((idxI_in l t 0).2 hm))], hS.below⟩

/-! ### slices.IndexFunc, slices.ContainsFunc -/
def idxF (q : Int → Bool) : List Int → Nat → Int
  | [], _ => -1
  | x :: l, k => if q x then k else idxF q l (k + 1)
theorem idxF_any (q : Int → Bool) : ∀ (l : List Int) (k : Nat), (0 ≤ idxF q l k) ↔ l.any q = true
  | [], k => by simp [idxF]
  | x :: l, k => by
    simp only [idxF, List.any_cons, Bool.or_eq_true]
    cases h : q x with
    | true => simp
    | false => simpa using idxF_any q l (k + 1)
theorem idxF_spec (q : Int → Bool) : ∀ (l : List Int) (k : Nat), (idxF q l k = -1 ∧ l.any q = false) ∨ ∃ (j : Nat) (x : Int), idxF q l k = (k + j : Nat) ∧ l[j]? = some x ∧ q x = true ∧ (l.take j).any q = false
  | [], k => .inl ⟨rfl, rfl⟩
  | x :: l, k => by
    cases h : q x with
    | true => exact .inr ⟨0, x, by simp [idxF, h], rfl, h, rfl⟩
    | false =>
      rcases idxF_spec q l (k + 1) with ⟨h1, h2⟩ | ⟨j, y, h1, h2, h3, h4⟩
      · exact .inl ⟨by simp [idxF, h, h1], by simp [h, h2]⟩
      · exact .inr ⟨j + 1, y, by simp only [idxF, h]; rw [if_neg (by simp), h1]; omega, by simpa using h2, h3, by simp [h, h4]⟩
/-- A closure that answers of a number. -/
structure Tells (w : World) (g : Nat) (caps : List Value) (q : Int → Bool) : Prop where
  mem : memN (cxS w []).F g = true
  run : ∀ w', Below w.heap.size w w' → ∀ x, Calls Try.prog g (Value.int .i64 x :: caps).toArray w' fun e w'' => e = .returned (.bool (q x)) ∧ Below w'.heap.size w' w''
theorem Tells.below {w w' : World} {g : Nat} {caps : List Value} {q : Int → Bool} (h : Tells w g caps q) (hb : Below w.heap.size w w') : Tells w' g caps q := ⟨h.mem, fun w2 h2 => h.run w2 (hb.trans (h2.mono hb.size))⟩
theorem indexFunc_any {A : Option Addr} {n c : Nat} {l : List Int} (w : World) (hL : IntsL w A n l) {g : Nat} {caps : List Value} {q : Int → Bool} (hT : Tells w g caps q) :
    Calls Try.prog 87 #[.slice A n c, .func (.func g) #[] caps.toArray] w fun e w' => e = .returned (.int .i64 (idxF q l 0)) ∧ Below w.heap.size w w' := by
  have hl := hL.len
  have hn := hL.le
  refine enter (C := cxS w []) (okS w []) (St.start w) Try.func87 rfl rfl ?_; conv => whnf
  refine LoopS.same (okS w []) [(4, 5), (8, 18)] [8] rfl (fun k : Nat => [I64 k]) (fun k => k ≤ n ∧ idxF q l 0 = idxF q (l.drop k) k) (fun k => n - k) 0 ⟨by omega, rfl⟩ ⟨rfl, trivial⟩ (LbTo.refl_nil _) (fun k gg ⟨hk, hI⟩ => ?_)
  conv => whnf
  refine Sp.mk (fun h => ?_) (fun h => ?_) <;> conv => whnf
  · obtain ⟨ad, x, rfl, hx, hm, hc⟩ := hL.at_ (k := k) (by omega)
    rw [drop_at hx, idxF] at hI
    refine IdxS.at_ k rfl rfl (by omega) ?_
    conv => whnf
    refine LdS.at_ (fun w' hS => hS.cell0 hc) ?_
    conv => whnf
    refine ⟨hT.mem, CallS.b (fun w' hS => hT.run w' hS.below x) (fun hb => ?_) (fun hb => ?_)⟩ <;> conv => whnf
    · (repeat' (first | (refine Sp.mk (fun hs => ?_) (fun hs => ?_) <;> first | (exfalso; omega) | (conv => whnf)) | (refine Ar.i (by omega) ?_; conv => whnf) | (refine NewS.mk (fun _ => ?_); conv => whnf) | (refine QuoS.nn (by omega) ?_; conv => whnf) | (refine RemS.nn (by omega) ?_; conv => whnf) | (refine QuietS.mk (by as_aux_lemma => kernel_rfl) ?_; conv => whnf) | refine RetS.mk (fun w' hS => ?_)))
      exact ⟨by rw [hI, if_pos hb], hS.below⟩
    · (repeat' (first | (refine Sp.mk (fun hs => ?_) (fun hs => ?_) <;> first | (exfalso; omega) | (conv => whnf)) | (refine Ar.i (by omega) ?_; conv => whnf) | (refine NewS.mk (fun _ => ?_); conv => whnf) | (refine QuoS.nn (by omega) ?_; conv => whnf) | (refine RemS.nn (by omega) ?_; conv => whnf) | (refine QuietS.mk (by as_aux_lemma => kernel_rfl) ?_; conv => whnf) | refine RetS.mk (fun w' hS => ?_)))
      exact ⟨k + 1, ⟨by omega, by rw [hI, if_neg (by simp [hb])]⟩, by omega, ⟨rfl, trivial⟩, LbTo.refl_nil _, RsTo.refl _⟩
  · (repeat' (first | (refine Sp.mk (fun hs => ?_) (fun hs => ?_) <;> first | (exfalso; omega) | (conv => whnf)) | (refine Ar.i (by omega) ?_; conv => whnf) | (refine NewS.mk (fun _ => ?_); conv => whnf) | (refine QuoS.nn (by omega) ?_; conv => whnf) | (refine RemS.nn (by omega) ?_; conv => whnf) | (refine QuietS.mk (by as_aux_lemma => kernel_rfl) ?_; conv => whnf) | refine RetS.mk (fun w' hS => ?_)))
    have hkn : k = n := by omega
    rw [hkn, ← hl, List.drop_length] at hI
    exact ⟨by rw [hI]; rfl, hS.below⟩
theorem containsFunc_any {A : Option Addr} {n c : Nat} {l : List Int} (w : World) (hL : IntsL w A n l) {g : Nat} {caps : List Value} {q : Int → Bool} (hT : Tells w g caps q) :
    Calls Try.prog 77 #[.slice A n c, .func (.func g) #[] caps.toArray] w fun e w' => e = .returned (.bool (l.any q)) ∧ Below w.heap.size w w' := by
  refine enter (C := cxS w []) (okS w []) (St.start w) Try.func77 rfl rfl ?_; conv => whnf
  refine ⟨rfl, CallS.ro (fun w' hS => indexFunc_any w' (hL.below hS.below) (hT.below hS.below)) ?_⟩
  conv => whnf
  refine Sp.mk (fun h => ?_) (fun h => ?_) <;> conv => whnf
  · (repeat' (first | (refine Sp.mk (fun hs => ?_) (fun hs => ?_) <;> first | (exfalso; omega) | (conv => whnf)) | (refine Ar.i (by omega) ?_; conv => whnf) | (refine NewS.mk (fun _ => ?_); conv => whnf) | (refine QuoS.nn (by omega) ?_; conv => whnf) | (refine RemS.nn (by omega) ?_; conv => whnf) | (refine QuietS.mk (by as_aux_lemma => kernel_rfl) ?_; conv => whnf) | refine RetS.mk (fun w' hS => ?_)))
    exact ⟨by rw [(idxF_any q l 0).1 h], hS.below⟩
  · (repeat' (first | (refine Sp.mk (fun hs => ?_) (fun hs => ?_) <;> first | (exfalso; omega) | (conv => whnf)) | (refine Ar.i (by omega) ?_; conv => whnf) | (refine NewS.mk (fun _ => ?_); conv => whnf) | (refine QuoS.nn (by omega) ?_; conv => whnf) | (refine RemS.nn (by omega) ?_; conv => whnf) | (refine QuietS.mk (by as_aux_lemma => kernel_rfl) ?_; conv => whnf) | refine RetS.mk (fun w' hS => ?_)))
    exact ⟨by rw [Bool.eq_false_iff.2 (fun hh => h ((idxF_any q l 0).2 hh))], hS.below⟩

theorem allIn1_any (x lo hi : Int) (a b : Addr) (w : World) (ha : w.cell? a = some (.int .i64 lo)) (hb : w.cell? b = some (.int .i64 hi)) :
    Calls Try.prog 78 #[.int .i64 x, .pointer (some a), .pointer (some b)] w fun e w' => e = .returned (.bool (!decide (lo ≤ x ∧ x ≤ hi))) ∧ Below w.heap.size w w' := by
  refine enter (C := cxS w []) (okS w []) (St.start w) Try.func78 rfl rfl ?_; conv => whnf
  refine LdS.at_ (fun w2 hS => hS.cell0 ha) ?_
  conv => whnf
  refine LdS.at_ (fun w2 hS => hS.cell0 hb) ?_
  conv => whnf
  refine ⟨rfl, CallS.ro (fun w hS => in_any _ _ _ w) ?_⟩
  conv => whnf
  (repeat' (first | (refine Sp.mk (fun hs => ?_) (fun hs => ?_) <;> first | (exfalso; omega) | (conv => whnf)) | (refine Ar.i (by omega) ?_; conv => whnf) | (refine NewS.mk (fun _ => ?_); conv => whnf) | (refine QuoS.nn (by omega) ?_; conv => whnf) | (refine RemS.nn (by omega) ?_; conv => whnf) | (refine QuietS.mk (by as_aux_lemma => kernel_rfl) ?_; conv => whnf) | refine RetS.mk (fun w' hS => ?_)))
  exact ⟨rfl, hS.below⟩
theorem iallIn_any {A : Option Addr} {n c : Nat} {l : List Int} (lo hi : Int) (w : World) (hL : IntsL w A n l) :
    Calls Try.prog 49 #[.slice A n c, .int .i64 lo, .int .i64 hi] w fun e w' => e = .returned (.bool (decide (∀ x ∈ l, lo ≤ x ∧ x ≤ hi))) ∧ Below w.heap.size w w' := by
  refine enter (C := cxS w []) (okS w []) (St.start w) Try.func49 rfl rfl ?_; conv => whnf
  refine NewS.mk (fun g0 => ?_)
  conv => whnf
  refine NewS.mk (fun g1 => ?_)
  conv => whnf
  refine ⟨rfl, CallS.ro (fun w' hS => containsFunc_any w' (hL.below hS.below) (q := fun x => !decide (lo ≤ x ∧ x ≤ hi)) ⟨rfl, fun w2 h2 x => allIn1_any x lo hi _ _ w2 (cell_below h2 (box_cell0 hS 0 rfl rfl)) (cell_below h2 (box_cell0 hS 1 rfl rfl))⟩) ?_⟩
  conv => whnf
  (repeat' (first | (refine Sp.mk (fun hs => ?_) (fun hs => ?_) <;> first | (exfalso; omega) | (conv => whnf)) | (refine Ar.i (by omega) ?_; conv => whnf) | (refine NewS.mk (fun _ => ?_); conv => whnf) | (refine QuoS.nn (by omega) ?_; conv => whnf) | (refine RemS.nn (by omega) ?_; conv => whnf) | (refine QuietS.mk (by as_aux_lemma => kernel_rfl) ?_; conv => whnf) | refine RetS.mk (fun w' hS => ?_)))
  refine ⟨?_, hS.below⟩
  congr 2
  rw [Bool.eq_iff_iff]
  simp
theorem isOwner_any (n : Int) (w : World) : Calls Try.prog 48 #[.int .i64 n] w fun e w' => e = .returned (.bool (decide (0 ≤ n ∧ n ≤ 4))) ∧ Below w.heap.size w w' := by
  refine enter (C := cxS w []) (okS w []) (St.start w) Try.func48 rfl rfl ?_; conv => whnf
  refine ⟨rfl, CallS.ro (fun w hS => in_any _ _ _ w) ?_⟩
  conv => whnf
  (repeat' (first | (refine Sp.mk (fun hs => ?_) (fun hs => ?_) <;> first | (exfalso; omega) | (conv => whnf)) | (refine Ar.i (by omega) ?_; conv => whnf) | (refine NewS.mk (fun _ => ?_); conv => whnf) | (refine QuoS.nn (by omega) ?_; conv => whnf) | (refine RemS.nn (by omega) ?_; conv => whnf) | (refine QuietS.mk (by as_aux_lemma => kernel_rfl) ?_; conv => whnf) | refine RetS.mk (fun w' hS => ?_)))
  exact ⟨rfl, hS.below⟩
/-! ### The place of a held connection -/
structure TellsH (w : World) (g : Nat) (caps : List Value) (t : Int) : Prop where
  mem : memN (cxS w []).F g = true
  run : ∀ w', Below w.heap.size w w' → ∀ x : HoldD, Calls Try.prog g (Value.agg (holdV x).toArray :: caps).toArray w' fun e w'' => e = .returned (.bool (decide (x.c = t))) ∧ Below w'.heap.size w' w''
theorem TellsH.below {w w' : World} {g : Nat} {caps : List Value} {t : Int} (h : TellsH w g caps t) (hb : Below w.heap.size w w') : TellsH w' g caps t := ⟨h.mem, fun w2 h2 => h.run w2 (hb.trans (h2.mono hb.size))⟩
theorem indexFuncH_any {A : Option Addr} {n c : Nat} {l : List HoldD} (w : World) (hL : Holds w A n l) {g : Nat} {caps : List Value} {t : Int} (hT : TellsH w g caps t) :
    Calls Try.prog 75 #[.slice A n c, .func (.func g) #[] caps.toArray] w fun e w' => e = .returned (.int .i64 (idxH l t 0)) ∧ Below w.heap.size w w' := by
  have hl := hL.len
  have hn := hL.le
  refine enter (C := cxS w []) (okS w []) (St.start w) Try.func75 rfl rfl ?_; conv => whnf
  refine LoopS.same (okS w []) [(4, 5), (8, 18)] [8] rfl (fun k : Nat => [I64 k]) (fun k => k ≤ n ∧ idxH l t 0 = idxH (l.drop k) t k) (fun k => n - k) 0 ⟨by omega, rfl⟩ ⟨rfl, trivial⟩ (LbTo.refl_nil _) (fun k gg ⟨hk, hI⟩ => ?_)
  conv => whnf
  refine Sp.mk (fun h => ?_) (fun h => ?_) <;> conv => whnf
  · obtain ⟨ad, x, rfl, hx, hm, hc⟩ := hL.at_ (k := k) (by omega)
    rw [drop_at hx, idxH] at hI
    refine IdxS.at_ k rfl rfl (by omega) ?_
    conv => whnf
    refine LdsS.at_ (vs := holdV x) rfl (fun w' hS j u hu => hS.cell0 (hc j u hu)) ?_
    conv => whnf
    refine ⟨hT.mem, CallS.p (fun w' hS => hT.run w' hS.below x) (fun hb => ?_) (fun hb => ?_)⟩ <;> conv => whnf
    · (repeat' (first | (refine Sp.mk (fun hs => ?_) (fun hs => ?_) <;> first | (exfalso; omega) | (conv => whnf)) | (refine Ar.i (by omega) ?_; conv => whnf) | (refine NewS.mk (fun _ => ?_); conv => whnf) | (refine QuoS.nn (by omega) ?_; conv => whnf) | (refine RemS.nn (by omega) ?_; conv => whnf) | (refine QuietS.mk (by as_aux_lemma => kernel_rfl) ?_; conv => whnf) | refine RetS.mk (fun w' hS => ?_)))
      exact ⟨by rw [hI, if_pos hb], hS.below⟩
    · (repeat' (first | (refine Sp.mk (fun hs => ?_) (fun hs => ?_) <;> first | (exfalso; omega) | (conv => whnf)) | (refine Ar.i (by omega) ?_; conv => whnf) | (refine NewS.mk (fun _ => ?_); conv => whnf) | (refine QuoS.nn (by omega) ?_; conv => whnf) | (refine RemS.nn (by omega) ?_; conv => whnf) | (refine QuietS.mk (by as_aux_lemma => kernel_rfl) ?_; conv => whnf) | refine RetS.mk (fun w' hS => ?_)))
      exact ⟨k + 1, ⟨by omega, by rw [hI, if_neg hb]⟩, by omega, ⟨rfl, trivial⟩, LbTo.refl_nil _, RsTo.refl _⟩
  · (repeat' (first | (refine Sp.mk (fun hs => ?_) (fun hs => ?_) <;> first | (exfalso; omega) | (conv => whnf)) | (refine Ar.i (by omega) ?_; conv => whnf) | (refine NewS.mk (fun _ => ?_); conv => whnf) | (refine QuoS.nn (by omega) ?_; conv => whnf) | (refine RemS.nn (by omega) ?_; conv => whnf) | (refine QuietS.mk (by as_aux_lemma => kernel_rfl) ?_; conv => whnf) | refine RetS.mk (fun w' hS => ?_)))
    have hkn : k = n := by omega
    rw [hkn, ← hl, List.drop_length] at hI
    exact ⟨by rw [hI]; rfl, hS.below⟩
theorem held1_any (x : HoldD) (t : Int) (a : Addr) (w : World) (ha : w.cell? a = some (.int .i64 t)) :
    Calls Try.prog 76 #[.agg (holdV x).toArray, .pointer (some a)] w fun e w' => e = .returned (.bool (decide (x.c = t))) ∧ Below w.heap.size w w' := by
  refine enter (C := cxS w []) (okS w []) (St.start w) Try.func76 rfl rfl ?_; conv => whnf
  (repeat' (first | (refine LdS.at_ (fun w2 hS => hS.cell0 ha) ?_; conv => whnf) | (refine Sp.mk (fun hs => ?_) (fun hs => ?_) <;> first | (exfalso; omega) | (conv => whnf)) | (refine Ar.i (by omega) ?_; conv => whnf) | (refine NewS.mk (fun _ => ?_); conv => whnf) | (refine QuoS.nn (by omega) ?_; conv => whnf) | (refine RemS.nn (by omega) ?_; conv => whnf) | (refine QuietS.mk (by as_aux_lemma => kernel_rfl) ?_; conv => whnf) | refine RetS.mk (fun w' hS => ?_)))
  all_goals exact ⟨by congr 2; simp [*], hS.below⟩
theorem held_any {p : PoolD} {a : PAd} (t : Int) (w : World) (hP : PoolR w p a) :
    Calls Try.prog 47 #[.agg (poolV p a).toArray, .int .i64 t] w fun e w' => e = .returned (.int .i64 (idxH p.h t 0)) ∧ Below w.heap.size w w' := by
  refine enter (C := cxS w []) (okS w []) (St.start w) Try.func47 rfl rfl ?_; conv => whnf
  (repeat' (first | (refine Sp.mk (fun hs => ?_) (fun hs => ?_) <;> first | (exfalso; omega) | (conv => whnf)) | (refine Ar.i (by omega) ?_; conv => whnf) | (refine NewS.mk (fun _ => ?_); conv => whnf) | (refine QuoS.nn (by omega) ?_; conv => whnf) | (refine RemS.nn (by omega) ?_; conv => whnf) | refine RetS.mk (fun w' hS => ?_)))
  refine ⟨rfl, CallS.ro (fun w' hS => indexFuncH_any w' (hP.h.below hS.below) ⟨rfl, fun w2 h2 x => held1_any x t _ w2 (cell_below h2 (box_cell0 hS 1 rfl rfl))⟩) ?_⟩
  conv => whnf
  (repeat' (first | (refine Sp.mk (fun hs => ?_) (fun hs => ?_) <;> first | (exfalso; omega) | (conv => whnf)) | (refine Ar.i (by omega) ?_; conv => whnf) | (refine NewS.mk (fun _ => ?_); conv => whnf) | (refine QuoS.nn (by omega) ?_; conv => whnf) | (refine RemS.nn (by omega) ?_; conv => whnf) | (refine QuietS.mk (by as_aux_lemma => kernel_rfl) ?_; conv => whnf) | refine RetS.mk (fun w' hS => ?_)))
  exact ⟨rfl, hS.below⟩
end Go.Proofs.Ytfjedjcdmaoeoaa
