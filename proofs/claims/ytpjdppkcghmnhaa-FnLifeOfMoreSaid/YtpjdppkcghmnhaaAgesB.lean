/- The laws on ages; conditions: none. -/
import Derived.Test.YtpjdppkcghmnhaaAgesA
import Derived.Test.YtpjdppkcghmnhaaRead
set_option maxRecDepth 100000
set_option linter.unusedVariables false
set_option linter.unusedSimpArgs false
namespace Go.Proofs.Ytpjdppkcghmnhaa
open Eng Go Go.RowKit

/-- someSpan: some number. -/
theorem someSpan_any {g : Nat} {A : Option Addr} {n c : Nat} {bs : List Int} {p : Nat} (w : World) (h : Rd w g A n c bs p) (hp : p ≤ 1000000) :
    Calls Try.prog 18 #[.pointer (some ⟨g, 0, none⟩)] w fun e w' => ∃ r : Int, (0 ≤ r ∧ r ≤ 1001) ∧ e = .returned (.int .i64 r) ∧ Pres [g] w w' ∧ Rd w' g A n c bs (p + 1) ∧ Fresh w.heap.size [] w' := by
  refine enter (C := cxS w [g]) (okS w [g]) h.start Try.func18 rfl rfl ?_
  conv => whnf
  refine NewS.mk fun _ => ?_
  conv => whnf
  refine call_one h.b 0 1 (by decide) rfl hp rfl (by decide) 0 1001 (by repeat (first | exact inB_nil | refine inB_cons (by omega) ?_)) (fun r h0 h1 => ?_)
  conv => whnf
  (repeat' (first | (refine Sp.mk (fun hs => ?_) (fun hs => ?_) <;> first | (exfalso; omega) | (conv => whnf)) | (refine Ar.i (by omega) ?_; conv => whnf) | (refine NewS.mk (fun _ => ?_); conv => whnf) | (refine QuoS.nn (by omega) ?_; conv => whnf) | (refine RemS.nn (by omega) ?_; conv => whnf) | (refine QuietS.mk (by as_aux_lemma => kernel_rfl) ?_; conv => whnf) | refine RetS.mk (fun w' hS => ?_)))
  exact ⟨r, ⟨h0, h1⟩, rfl, hS.pres, h.b.rd hS (by simp), Fresh.nil _ _⟩

theorem drawLifeOf_any {A : Option Addr} {n c : Nat} {bs : List Int} (w : World) (hb : Bytes w A n bs) (hn : n ≤ c) :
    Calls Try.prog 9 #[.slice A n c] w fun e w' => ∃ x : Int × Int, ((-1 ≤ x.1 ∧ x.1 ≤ 10) ∧ (0 ≤ x.2 ∧ x.2 ≤ 1001)) ∧ e = .returned (.tuple #[.int .i64 x.1, .int .i64 x.2]) ∧ Below w.heap.size w w' := by
  refine enter (C := cxS w []) (okS w []) (St.start w) Try.func9 rfl rfl ?_; conv => whnf
  refine call_newReader hb hn (fun g c' hB => ?_)
  conv => whnf
  refine call_pick hB 0 rfl (by omega) (fun r1 h1 h1' => ?_)
  conv => whnf
  (repeat' (first | (refine Sp.mk (fun hs => ?_) (fun hs => ?_) <;> first | (exfalso; omega) | (conv => whnf)) | (refine Ar.i (by omega) ?_; conv => whnf) | (refine NewS.mk (fun _ => ?_); conv => whnf) | (refine QuoS.nn (by omega) ?_; conv => whnf) | (refine RemS.nn (by omega) ?_; conv => whnf) | (refine QuietS.mk (by as_aux_lemma => kernel_rfl) ?_; conv => whnf) | refine RetS.mk (fun w' hS => ?_)))
  refine call_rd hB 0 (α := Int) (r := fun r => .int .i64 r) (φ := fun r => 0 ≤ r ∧ r ≤ 1001) (q := fun _ => 2) (os := fun _ => []) rfl rfl (fun w' _ h => someSpan_any w' h (by omega)) (fun r2 hr2 => ?_)
  conv => whnf
  refine call_pick hB 0 rfl (by omega) (fun r3 h3 h3' => ?_)
  conv => whnf
  (repeat' (first | (refine Sp.mk (fun hs => ?_) (fun hs => ?_) <;> first | (exfalso; omega) | (conv => whnf)) | (refine Ar.i (by omega) ?_; conv => whnf) | (refine NewS.mk (fun _ => ?_); conv => whnf) | (refine QuoS.nn (by omega) ?_; conv => whnf) | (refine RemS.nn (by omega) ?_; conv => whnf) | (refine QuietS.mk (by as_aux_lemma => kernel_rfl) ?_; conv => whnf) | refine RetS.mk (fun w' hS => ?_)))
  refine call_one hB 0 1 (by decide) rfl (by omega) rfl (by decide) 0 1001 (by repeat (first | exact inB_nil | refine inB_cons (by omega) ?_)) (fun r h4 h4' => ?_)
  conv => whnf
  (repeat' (first | (refine Sp.mk (fun hs => ?_) (fun hs => ?_) <;> first | (exfalso; omega) | (conv => whnf)) | (refine Ar.i (by omega) ?_; conv => whnf) | (refine NewS.mk (fun _ => ?_); conv => whnf) | (refine QuoS.nn (by omega) ?_; conv => whnf) | (refine RemS.nn (by omega) ?_; conv => whnf) | (refine QuietS.mk (by as_aux_lemma => kernel_rfl) ?_; conv => whnf) | refine RetS.mk (fun w' hS => ?_)))
  exact ⟨(r1 - 1, r), ⟨by omega, by omega⟩, rfl, hS.below⟩

/-! The plain laws -/
theorem life_law (c l : Int) (hc : 0 ≤ c ∧ c ≤ 5) (hl : 1 ≤ l ∧ l ≤ 1000) : 1 ≤ life c l ∧ life c l ≤ l ∧ 4 * l ≤ 5 * life c l ∧ life 0 l = l ∧ (life c (l + 1) = life c l ∨ life c (l + 1) = life c l + 1) := by
  have h6 : c = 0 ∨ c = 1 ∨ c = 2 ∨ c = 3 ∨ c = 4 ∨ c = 5 := by omega
  rcases h6 with rfl | rfl | rfl | rfl | rfl | rfl <;> simp [life] <;> omega
theorem LifeOf_in {c l : Int} (h : (0 ≤ c ∧ c ≤ 5) ∧ (1 ≤ l ∧ l ≤ 1000)) : LifeOf c l = life c l := if_pos h
theorem LifeOf_out {c l : Int} (h : ¬ ((0 ≤ c ∧ c ≤ 5) ∧ (1 ≤ l ∧ l ≤ 1000))) : LifeOf c l = -1 := if_neg h

theorem lifeOf_law (w : World) {A : Option Addr} {n c : Nat} {bs : List Int} (hb : Bytes w A n bs) (hn : n ≤ c) :
    Calls Try.prog 5 #[.slice A n c] w fun e w' => e = .returned (.bool true) ∧ Below w.heap.size w w' := by
  refine enter (C := cxS w []) (okS w []) (St.start w) Try.func5 rfl rfl ?_; conv => whnf
  (repeat' (first | (refine Sp.mk (fun hs => ?_) (fun hs => ?_) <;> first | (exfalso; omega) | (conv => whnf)) | (refine Ar.i (by omega) ?_; conv => whnf) | (refine NewS.mk (fun _ => ?_); conv => whnf) | (refine QuoS.nn (by omega) ?_; conv => whnf) | (refine RemS.nn (by omega) ?_; conv => whnf) | (refine QuietS.mk (by as_aux_lemma => kernel_rfl) ?_; conv => whnf) | refine RetS.mk (fun w' hS => ?_)))
  · exact ⟨rfl, hS.below⟩
  refine ⟨rfl, CallS.ex (α := Int × Int) (r := fun x => .tuple #[.int .i64 x.1, .int .i64 x.2]) (φ := fun x => (-1 ≤ x.1 ∧ x.1 ≤ 10) ∧ (0 ≤ x.2 ∧ x.2 ≤ 1001)) (fun w' hS => drawLifeOf_any w' ⟨hS.arg hb.1, hb.2⟩ hn) (fun x hx => ?_)⟩
  obtain ⟨conn, l⟩ := x
  dsimp only at hx ⊢
  conv => whnf
  refine ⟨rfl, CallS.ro (fun w hS => iLifeOf_any _ _ w) ?_⟩
  conv => whnf
  refine ⟨rfl, CallS.ro (fun w hS => sLifeOf_any _ _ w) ?_⟩
  conv => whnf
  refine Sp.mk (fun _ => ?_) (fun h => (h rfl).elim)
  conv => whnf
  by_cases hv : (0 ≤ conn ∧ conn ≤ 5) ∧ (1 ≤ l ∧ l ≤ 1000)
  · have h1 := life_law conn l hv.1 hv.2
    have h2 : LifeOf conn l = life conn l := LifeOf_in hv
    have h3 : LifeOf 0 l = life 0 l := LifeOf_in ⟨by omega, hv.2⟩
    (repeat' (first | (refine Sp.mk (fun hs => ?_) (fun hs => ?_) <;> first | (exfalso; omega) | (conv => whnf)) | (refine Ar.i (by omega) ?_; conv => whnf) | (refine NewS.mk (fun _ => ?_); conv => whnf) | (refine QuoS.nn (by omega) ?_; conv => whnf) | (refine RemS.nn (by omega) ?_; conv => whnf) | (refine QuietS.mk (by as_aux_lemma => kernel_rfl) ?_; conv => whnf) | refine RetS.mk (fun w' hS => ?_)))
    refine ⟨rfl, CallS.ro (fun w hS => iLifeOf_any _ _ w) ?_⟩
    conv => whnf
    (repeat' (first | (refine Sp.mk (fun hs => ?_) (fun hs => ?_) <;> first | (exfalso; omega) | (conv => whnf)) | (refine Ar.i (by omega) ?_; conv => whnf) | (refine NewS.mk (fun _ => ?_); conv => whnf) | (refine QuoS.nn (by omega) ?_; conv => whnf) | (refine RemS.nn (by omega) ?_; conv => whnf) | (refine QuietS.mk (by as_aux_lemma => kernel_rfl) ?_; conv => whnf) | refine RetS.mk (fun w' hS => ?_)))
    exact ⟨rfl, hS.below⟩
  · have h2 : LifeOf conn l = -1 := LifeOf_out hv
    (repeat' (first | (refine Sp.mk (fun hs => ?_) (fun hs => ?_) <;> first | (exfalso; omega) | (conv => whnf)) | (refine Ar.i (by omega) ?_; conv => whnf) | (refine NewS.mk (fun _ => ?_); conv => whnf) | (refine QuoS.nn (by omega) ?_; conv => whnf) | (refine RemS.nn (by omega) ?_; conv => whnf) | (refine QuietS.mk (by as_aux_lemma => kernel_rfl) ?_; conv => whnf) | refine RetS.mk (fun w' hS => ?_)))
    refine ⟨rfl, CallS.ro (fun w hS => sLifeOf_any _ _ w) ?_⟩
    conv => whnf
    (repeat' (first | (refine Sp.mk (fun hs => ?_) (fun hs => ?_) <;> first | (exfalso; omega) | (conv => whnf)) | (refine Ar.i (by omega) ?_; conv => whnf) | (refine NewS.mk (fun _ => ?_); conv => whnf) | (refine QuoS.nn (by omega) ?_; conv => whnf) | (refine RemS.nn (by omega) ?_; conv => whnf) | (refine QuietS.mk (by as_aux_lemma => kernel_rfl) ?_; conv => whnf) | refine RetS.mk (fun w' hS => ?_)))
    exact ⟨rfl, hS.below⟩

theorem lifeOfMore_law (w : World) {A : Option Addr} {n c : Nat} {bs : List Int} (hb : Bytes w A n bs) (hn : n ≤ c) :
    Calls Try.prog 6 #[.slice A n c] w fun e w' => e = .returned (.bool true) ∧ Below w.heap.size w w' := by
  refine enter (C := cxS w []) (okS w []) (St.start w) Try.func6 rfl rfl ?_; conv => whnf
  (repeat' (first | (refine Sp.mk (fun hs => ?_) (fun hs => ?_) <;> first | (exfalso; omega) | (conv => whnf)) | (refine Ar.i (by omega) ?_; conv => whnf) | (refine NewS.mk (fun _ => ?_); conv => whnf) | (refine QuoS.nn (by omega) ?_; conv => whnf) | (refine RemS.nn (by omega) ?_; conv => whnf) | (refine QuietS.mk (by as_aux_lemma => kernel_rfl) ?_; conv => whnf) | refine RetS.mk (fun w' hS => ?_)))
  · exact ⟨rfl, hS.below⟩
  refine ⟨rfl, CallS.ex (α := Int × Int) (r := fun x => .tuple #[.int .i64 x.1, .int .i64 x.2]) (φ := fun x => (-1 ≤ x.1 ∧ x.1 ≤ 10) ∧ (0 ≤ x.2 ∧ x.2 ≤ 1001)) (fun w' hS => drawLifeOf_any w' ⟨hS.arg hb.1, hb.2⟩ hn) (fun x hx => ?_)⟩
  obtain ⟨conn, l⟩ := x
  dsimp only at hx ⊢
  conv => whnf
  refine ⟨rfl, CallS.ro (fun w hS => iLifeOf_any _ _ w) ?_⟩
  conv => whnf
  refine ⟨rfl, CallS.ro (fun w hS => sLifeOf_any _ _ w) ?_⟩
  conv => whnf
  refine Sp.mk (fun _ => ?_) (fun h => (h rfl).elim)
  conv => whnf
  by_cases hv : (0 ≤ conn ∧ conn ≤ 5) ∧ (1 ≤ l ∧ l ≤ 1000)
  · have h1 := life_law conn l hv.1 hv.2
    have h2 : LifeOf conn l = life conn l := LifeOf_in hv
    by_cases hm : l = 1000
    · (repeat' (first | (refine Sp.mk (fun hs => ?_) (fun hs => ?_) <;> first | (exfalso; omega) | (conv => whnf)) | (refine Ar.i (by omega) ?_; conv => whnf) | (refine NewS.mk (fun _ => ?_); conv => whnf) | (refine QuoS.nn (by omega) ?_; conv => whnf) | (refine RemS.nn (by omega) ?_; conv => whnf) | (refine QuietS.mk (by as_aux_lemma => kernel_rfl) ?_; conv => whnf) | refine RetS.mk (fun w' hS => ?_)))
      refine ⟨rfl, CallS.ro (fun w hS => sLifeOf_any _ _ w) ?_⟩
      conv => whnf
      (repeat' (first | (refine Sp.mk (fun hs => ?_) (fun hs => ?_) <;> first | (exfalso; omega) | (conv => whnf)) | (refine Ar.i (by omega) ?_; conv => whnf) | (refine NewS.mk (fun _ => ?_); conv => whnf) | (refine QuoS.nn (by omega) ?_; conv => whnf) | (refine RemS.nn (by omega) ?_; conv => whnf) | (refine QuietS.mk (by as_aux_lemma => kernel_rfl) ?_; conv => whnf) | refine RetS.mk (fun w' hS => ?_)))
      exact ⟨rfl, hS.below⟩
    · have h3 : LifeOf conn (l + 1) = life conn (l + 1) := LifeOf_in ⟨hv.1, by omega⟩
      (repeat' (first | (refine Sp.mk (fun hs => ?_) (fun hs => ?_) <;> first | (exfalso; omega) | (conv => whnf)) | (refine Ar.i (by omega) ?_; conv => whnf) | (refine NewS.mk (fun _ => ?_); conv => whnf) | (refine QuoS.nn (by omega) ?_; conv => whnf) | (refine RemS.nn (by omega) ?_; conv => whnf) | (refine QuietS.mk (by as_aux_lemma => kernel_rfl) ?_; conv => whnf) | refine RetS.mk (fun w' hS => ?_)))
      refine ⟨rfl, CallS.ro (fun w hS => iLifeOf_any _ _ w) ?_⟩
      conv => whnf
      (repeat' (first | (refine Sp.mk (fun hs => ?_) (fun hs => ?_) <;> first | (exfalso; omega) | (conv => whnf)) | (refine Ar.i (by omega) ?_; conv => whnf) | (refine NewS.mk (fun _ => ?_); conv => whnf) | (refine QuoS.nn (by omega) ?_; conv => whnf) | (refine RemS.nn (by omega) ?_; conv => whnf) | (refine QuietS.mk (by as_aux_lemma => kernel_rfl) ?_; conv => whnf) | refine RetS.mk (fun w' hS => ?_)))
      all_goals exact ⟨rfl, hS.below⟩
  · have h2 : LifeOf conn l = -1 := LifeOf_out hv
    (repeat' (first | (refine Sp.mk (fun hs => ?_) (fun hs => ?_) <;> first | (exfalso; omega) | (conv => whnf)) | (refine Ar.i (by omega) ?_; conv => whnf) | (refine NewS.mk (fun _ => ?_); conv => whnf) | (refine QuoS.nn (by omega) ?_; conv => whnf) | (refine RemS.nn (by omega) ?_; conv => whnf) | (refine QuietS.mk (by as_aux_lemma => kernel_rfl) ?_; conv => whnf) | refine RetS.mk (fun w' hS => ?_)))
    all_goals
      refine ⟨rfl, CallS.ro (fun w hS => sLifeOf_any _ _ w) ?_⟩
      conv => whnf
      (repeat' (first | (refine Sp.mk (fun hs => ?_) (fun hs => ?_) <;> first | (exfalso; omega) | (conv => whnf)) | (refine Ar.i (by omega) ?_; conv => whnf) | (refine NewS.mk (fun _ => ?_); conv => whnf) | (refine QuoS.nn (by omega) ?_; conv => whnf) | (refine RemS.nn (by omega) ?_; conv => whnf) | (refine QuietS.mk (by as_aux_lemma => kernel_rfl) ?_; conv => whnf) | refine RetS.mk (fun w' hS => ?_)))
      exact ⟨rfl, hS.below⟩
end Go.Proofs.Ytpjdppkcghmnhaa
