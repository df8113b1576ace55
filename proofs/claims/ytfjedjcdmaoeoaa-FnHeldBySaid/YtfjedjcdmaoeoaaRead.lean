/- The drawing of numbers: newReader, pick, one; conditions: none. -/
import Derived.Test.YtfjedjcdmaoeoaaLift
set_option maxRecDepth 100000
set_option linter.unusedVariables false
set_option linter.unusedSimpArgs false
namespace Go.Proofs.Ytfjedjcdmaoeoaa
open Eng Go Go.RowKit

/-- The reader's own cells, as a row. -/
def rdOwn (g : Nat) (A : Option Addr) (n c p : Nat) : Own := ⟨67, 2, .slice (some ⟨g, 0, none⟩) 1 1, 1, [.slice A n c, .int .i64 (p : Int)]⟩
/-- A reader behind a pointer. -/
structure Rd (w : World) (g : Nat) (A : Option Addr) (n c : Nat) (bs : List Int) (p : Nat) : Prop where
  own : owns w 0 (rdOwn g A n c p).e (rdOwn g A n c p).size (rdOwn g A n c p).v (rdOwn g A n c p).n (rdOwn g A n c p).xs
  bytes : Bytes w A n bs
  ne : 0 < n → ∀ ad, A = some ad → ad.block ≠ g
  le : n ≤ 2000

theorem Rd.start {w : World} {g : Nat} {A : Option Addr} {n c : Nat} {bs : List Int} {p : Nat} (h : Rd w g A n c bs p) : Eng.St w [g] [] [rdOwn g A n c p] w :=
  ⟨rfl, rfl, rfl, Nat.le_refl _, fun _ _ _ => rfl, fun i b hb => by simp at hb, fun o ho => by
    simp at ho
    subst ho
    exact ⟨h.own, fun g' hg => .inr (by simp [rdOwn, Value.ownBlock] at hg; simp [hg])⟩, by simp [rdOwn, Value.ownBlock]⟩
theorem Rd.lt {w : World} {g : Nat} {A : Option Addr} {n c : Nat} {bs : List Int} {p : Nat} (h : Rd w g A n c bs p) : g < w.heap.size := (h.own.lt g rfl).2

theorem Bytes.cut {w : World} {A : Option Addr} {n : Nat} {bs : List Int} (h : Bytes w A n bs) : Bytes w A (min n 2000) (bs.take 2000) := by
  have hl : bs.length = n := by have := h.1.1; simpa using this
  refine ⟨⟨by simp; omega, fun h0 => ?_⟩, fun b hb => h.2 b (List.mem_of_mem_take hb)⟩
  obtain ⟨ad, e, hc⟩ := h.1.2 (by omega)
  refine ⟨ad, e, fun j u hu => hc j u ?_⟩
  rw [List.map_take, List.getElem?_take] at hu
  split at hu
  · exact hu
  · simp at hu
theorem Bytes.lt {w : World} {A : Option Addr} {n : Nat} {bs : List Int} (h : Bytes w A n bs) (h0 : 0 < n) {ad : Addr} (hA : A = some ad) : ad.block < w.heap.size := by
  obtain ⟨ad', e, hc⟩ := h.1.2 h0
  rw [hA] at e
  simp only [Option.some.injEq] at e
  subst e
  have hl : bs.length = n := by have := h.1.1; simpa using this
  have hc0 := hc 0 _ (List.getElem?_eq_getElem (by simp; omega))
  have hlt := World.block_lt_of_cell? w _ hc0
  rwa [add_block] at hlt

theorem newReader_any {A : Option Addr} {n c : Nat} {bs : List Int} (w : World) (hb : Bytes w A n bs) (hn : n ≤ c) :
    Calls Try.prog 44 #[.slice A n c] w fun e w' => ∃ g c' : Nat, Rd w' g A (min n 2000) c' (bs.take 2000) 0 ∧ w.heap.size ≤ g ∧ e = .returned (.pointer (some ⟨g, 0, none⟩)) ∧ Below w.heap.size w w' := by
  have fin : ∀ (g m c' : Nat) (w' : World), m = min n 2000 → Eng.St w [] [⟨g, 67, [.v (.slice A m c'), .v (.int .i64 0)]⟩] [] w' →
      ∃ g' c' : Nat, Rd w' g' A (min n 2000) c' (bs.take 2000) 0 ∧ w.heap.size ≤ g' ∧ Ending.returned (.pointer (some ⟨g, 0, none⟩)) = .returned (.pointer (some ⟨g', 0, none⟩)) ∧ Below w.heap.size w w' := by
    intro g m c' w' hm hS
    subst hm
    have hb' := hb.cut
    obtain ⟨h1, h2, _⟩ := hS.box 0 _ rfl
    refine ⟨g, c', ⟨⟨by simp [rdOwn], .inr ⟨g, 1, _, rfl, Nat.zero_le _, h1, Nat.le_refl _, by simp [maxLen], by simp [rdOwn], by simp [rdOwn, conc]⟩⟩, ⟨hb'.1.below hS.below, hb'.2⟩, fun hm0 ad hA => ?_, by omega⟩, h2, rfl, hS.below⟩
    have h3 := hb'.lt hm0 hA
    have h2' : w.heap.size ≤ g := h2
    omega
  refine enter (C := cxS w []) (okS w []) (St.start w) Try.func44 rfl rfl ?_; conv => whnf
  (repeat' (first | (refine Sp.mk (fun hs => ?_) (fun hs => ?_) <;> first | (exfalso; omega) | (conv => whnf)) | (refine Ar.i (by omega) ?_; conv => whnf) | (refine NewS.mk (fun _ => ?_); conv => whnf) | (refine QuoS.nn (by omega) ?_; conv => whnf) | (refine RemS.nn (by omega) ?_; conv => whnf) | (refine QuietS.mk (by as_aux_lemma => kernel_rfl) ?_; conv => whnf) | refine RetS.mk (fun w' hS => ?_)))
  rotate_left
  · exact fin _ n c _ (by omega) hS
  · refine SlcS.hi 2000 rfl (by omega) ?_
    conv => whnf
    (repeat' (first | (refine Sp.mk (fun hs => ?_) (fun hs => ?_) <;> first | (exfalso; omega) | (conv => whnf)) | (refine Ar.i (by omega) ?_; conv => whnf) | (refine NewS.mk (fun _ => ?_); conv => whnf) | (refine QuoS.nn (by omega) ?_; conv => whnf) | (refine RemS.nn (by omega) ?_; conv => whnf) | (refine QuietS.mk (by as_aux_lemma => kernel_rfl) ?_; conv => whnf) | refine RetS.mk (fun w' hS => ?_)))
    exact fin _ 2000 c _ (by omega) hS

theorem Bytes.at_ {w : World} {A : Option Addr} {n : Nat} {bs : List Int} (h : Bytes w A n bs) {k : Nat} (hk : k < n) : ∃ ad b, A = some ad ∧ w.cell? (ad.add k) = some (.int .u8 b) ∧ 0 ≤ b ∧ b ≤ 255 := by
  obtain ⟨ad, e, hc⟩ := h.1.2 (by omega)
  have hl : bs.length = n := by have := h.1.1; simpa using this
  have hk' : k < bs.length := by omega
  exact ⟨ad, bs[k], e, hc k _ (by simp [hk']), h.2 _ (List.getElem_mem hk')⟩

theorem pick_any {g : Nat} {A : Option Addr} {n c : Nat} {bs : List Int} {p : Nat} (w : World) (h : Rd w g A n c bs p) (hp : p ≤ 1000000) (k : Int) :
    Calls Try.prog 51 #[.pointer (some ⟨g, 0, none⟩), .int .i64 k] w fun e w' => ∃ r : Int, (0 ≤ r ∧ (1 ≤ k → r < k)) ∧ e = .returned (.int .i64 r) ∧ Pres [g] w w' ∧ Rd w' g A n c bs (p + 1) := by
  have fin : ∀ (r : Int) (w' : World), 0 ≤ r → (1 ≤ k → r < k) → Eng.St w [g] [] [rdOwn g A n c (p + 1)] w' → ∃ r' : Int, (0 ≤ r' ∧ (1 ≤ k → r' < k)) ∧ Ending.returned (.int .i64 r) = .returned (.int .i64 r') ∧ Pres [g] w w' ∧ Rd w' g A n c bs (p + 1) :=
    fun r w' h0 h1 hS => ⟨r, ⟨h0, h1⟩, rfl, hS.pres, (hS.own _ (by simp)).1, ⟨hS.argS h.bytes.1 (fun h0 ad hA => by simpa using h.ne h0 ad hA), h.bytes.2⟩, h.ne, h.le⟩
  have hcell : ∀ {a : Addr} {u : Value}, w.cell? a = some u → a.block ≠ g → ∀ p' w', Eng.St w [g] [] [rdOwn g A n c p'] w' → w'.cell? a = some u := fun hc hne p' w' hS => hS.pres.cell hc (by simpa using hne)
  have l0 : ∀ p' w', Eng.St w [g] [] [rdOwn g A n c p'] w' → w'.cell? ((⟨g, 0, none⟩ : Addr).add 0) = some (.slice A n c) := fun p' w' hS => St.ownCell hS (List.mem_singleton.2 rfl) (j := 0) rfl
  have l1 : ∀ p' w', Eng.St w [g] [] [rdOwn g A n c p'] w' → w'.cell? ((⟨g, 0, none⟩ : Addr).add 1) = some (.int .i64 (p' : Int)) := fun p' w' hS => St.ownCell hS (List.mem_singleton.2 rfl) (j := 1) rfl
  have hle := h.le
  refine enter (C := cxS w [g]) (okS w [g]) h.start Try.func51 rfl rfl ?_
  conv => whnf
  refine LdS.at_ (l1 p) ?_
  conv => whnf
  refine Ar.i (by omega) ?_
  conv => whnf
  refine SemU.own (okS w [g]) (i := 0) rfl (t := 3) rfl rfl 1 rfl (by simp) rfl ?_
  conv => whnf
  (repeat' (first | (refine LdS.at_ (l0 (p + 1)) ?_; conv => whnf) | (refine LdS.at_ (l1 (p + 1)) ?_; conv => whnf) | (refine Sp.mk (fun hs => ?_) (fun hs => ?_) <;> first | (exfalso; omega) | (conv => whnf)) | (refine Ar.i (by omega) ?_; conv => whnf) | (refine NewS.mk (fun _ => ?_); conv => whnf) | (refine QuoS.nn (by omega) ?_; conv => whnf) | (refine RemS.nn (by omega) ?_; conv => whnf) | (refine QuietS.mk (by as_aux_lemma => kernel_rfl) ?_; conv => whnf) | refine RetS.mk (fun w' hS => ?_)))
  · exact fin 0 _ (by omega) (by omega) hS
  · exact fin 0 _ (by omega) (by omega) hS
  · obtain ⟨ad, b, rfl, hc, hb0, hb1⟩ := h.bytes.at_ (k := p) (by omega)
    have hne : (ad.add p).block ≠ g := by rw [add_block]; exact h.ne (by omega) ad rfl
    refine IdxS.at_ p rfl (by omega) (by omega) ?_
    conv => whnf
    refine LdS.at_ (hcell hc hne (p + 1)) ?_
    conv => whnf
    (repeat' (first | (refine Sp.mk (fun hs => ?_) (fun hs => ?_) <;> first | (exfalso; omega) | (conv => whnf)) | (refine Ar.i (by omega) ?_; conv => whnf) | (refine NewS.mk (fun _ => ?_); conv => whnf) | (refine QuoS.nn (by omega) ?_; conv => whnf) | (refine RemS.nn (by omega) ?_; conv => whnf) | (refine QuietS.mk (by as_aux_lemma => kernel_rfl) ?_; conv => whnf) | refine RetS.mk (fun w' hS => ?_)))
    exact fin _ _ (Int.emod_nonneg _ (by omega)) (fun h => Int.emod_lt_of_pos _ (by omega)) hS
  · have hn0 : 0 < n := by omega
    obtain ⟨ad, b, rfl, hc, hb0, hb1⟩ := h.bytes.at_ (k := p % n) (Nat.mod_lt _ hn0)
    obtain ⟨ad', b', e', hc', hb0', hb1'⟩ := h.bytes.at_ (k := (p * 7 + 3) % n) (Nat.mod_lt _ hn0)
    simp only [Option.some.injEq] at e'
    subst e'
    have hne : ∀ j, (ad.add j).block ≠ g := fun j => by rw [add_block]; exact h.ne (by omega) ad rfl
    have e1 : ((↑(p + 1) : Int) - 1) = (p : Int) := by omega
    have hq : 0 ≤ ((↑(p + 1) : Int) - 1) / (n : Int) ∧ ((↑(p + 1) : Int) - 1) / (n : Int) ≤ 1000000 := by
      rw [e1]
      refine ⟨Int.ediv_nonneg (by omega) (by omega), ?_⟩
      have := Int.ediv_le_self (n : Int) (show (0 : Int) ≤ p by omega)
      omega
    refine IdxS.at_ (p % n) rfl (by rw [e1]; rfl) (Nat.mod_lt _ hn0) ?_
    conv => whnf
    refine LdS.at_ (hcell hc (hne _) (p + 1)) ?_
    conv => whnf
    (repeat' (first | (refine LdS.at_ (l0 (p + 1)) ?_; conv => whnf) | (refine LdS.at_ (l1 (p + 1)) ?_; conv => whnf) | (refine Sp.mk (fun hs => ?_) (fun hs => ?_) <;> first | (exfalso; omega) | (conv => whnf)) | (refine Ar.i (by omega) ?_; conv => whnf) | (refine NewS.mk (fun _ => ?_); conv => whnf) | (refine QuoS.nn (by omega) ?_; conv => whnf) | (refine RemS.nn (by omega) ?_; conv => whnf) | (refine QuietS.mk (by as_aux_lemma => kernel_rfl) ?_; conv => whnf) | refine RetS.mk (fun w' hS => ?_)))
    refine IdxS.at_ ((p * 7 + 3) % n) rfl (by rw [e1]; rfl) (Nat.mod_lt _ hn0) ?_
    conv => whnf
    refine LdS.at_ (hcell hc' (hne _) (p + 1)) ?_
    conv => whnf
    (repeat' (first | (refine LdS.at_ (l0 (p + 1)) ?_; conv => whnf) | (refine LdS.at_ (l1 (p + 1)) ?_; conv => whnf) | (refine Sp.mk (fun hs => ?_) (fun hs => ?_) <;> first | (exfalso; omega) | (conv => whnf)) | (refine Ar.i (by omega) ?_; conv => whnf) | (refine NewS.mk (fun _ => ?_); conv => whnf) | (refine QuoS.nn (by omega) ?_; conv => whnf) | (refine RemS.nn (by omega) ?_; conv => whnf) | (refine QuietS.mk (by as_aux_lemma => kernel_rfl) ?_; conv => whnf) | refine RetS.mk (fun w' hS => ?_)))
    refine Ar.xor (by omega) (by omega) (fun r hr0 hr1 => ?_)
    conv => whnf
    (repeat' (first | (refine Sp.mk (fun hs => ?_) (fun hs => ?_) <;> first | (exfalso; omega) | (conv => whnf)) | (refine Ar.i (by omega) ?_; conv => whnf) | (refine NewS.mk (fun _ => ?_); conv => whnf) | (refine QuoS.nn (by omega) ?_; conv => whnf) | (refine RemS.nn (by omega) ?_; conv => whnf) | (refine QuietS.mk (by as_aux_lemma => kernel_rfl) ?_; conv => whnf) | refine RetS.mk (fun w' hS => ?_)))
    exact fin _ _ (Int.emod_nonneg _ (by omega)) (fun h => Int.emod_lt_of_pos _ (by omega)) hS

/-- A value that is an int between two bounds. -/
def InB (lo hi : Int) (u : Value) : Prop := ∃ z : Int, u = .int .i64 z ∧ lo ≤ z ∧ z ≤ hi
theorem one_any {g : Nat} {A : Option Addr} {n c : Nat} {bs : List Int} {p : Nat} (w : World) (h : Rd w g A n c bs p) (hp : p ≤ 1000000) {B : Option Addr} {m d : Nat} {xs : List Value} (lo hi : Int) (hz : Reads w 1 B m xs) (hm : 0 < m) (hb : ∀ u ∈ xs, InB lo hi u)
    (hg : ∀ ad, B = some ad → ad.block ≠ g) :
    Calls Try.prog 53 #[.pointer (some ⟨g, 0, none⟩), .slice B m d] w fun e w' => ∃ r : Int, (lo ≤ r ∧ r ≤ hi) ∧ e = .returned (.int .i64 r) ∧ Pres [g] w w' ∧ Rd w' g A n c bs (p + 1) := by
  refine enter (C := cxS w [g]) (okS w [g]) h.start Try.func53 rfl rfl ?_
  conv => whnf
  have hrd : ∀ w', Eng.St w [g] [] [rdOwn g A n c p] w' → Rd w' g A n c bs p := fun w' hS => ⟨(hS.own _ (by simp)).1, ⟨hS.argS h.bytes.1 (fun h0 ad hA => by simpa using h.ne h0 ad hA), h.bytes.2⟩, h.ne, h.le⟩
  refine ⟨rfl, CallS.upd (i := 0) (α := Int) (r := fun r => .int .i64 r) (φ := fun r => 0 ≤ r ∧ (1 ≤ (m : Int) → r < m)) (o := rdOwn g A n c p) (o' := fun _ => rdOwn g A n c (p + 1)) rfl rfl (fun _ => rfl) (fun w' hS => (pick_any w' (hrd w' hS) hp (m : Int)).mono ?_) (fun r hr => ?_)⟩
  · rintro e w2 ⟨r, h1, h2, h3, h4⟩
    exact ⟨r, h1, h2, h3, h4.own⟩
  conv => whnf
  obtain ⟨j, rfl⟩ := Int.eq_ofNat_of_zero_le hr.1
  have hj : j < m := by have := hr.2 (by omega); omega
  obtain ⟨ad, rfl, hc⟩ := hz.2 hm
  have hj' : j < xs.length := by rw [hz.1]; omega
  obtain ⟨z, hz1, hz2⟩ := hb _ (List.getElem_mem hj')
  have hc' := hc j _ (List.getElem?_eq_getElem hj')
  rw [hz1] at hc'
  refine IdxS.at_ j rfl rfl hj ?_
  conv => whnf
  refine LdS.at_ (fun w' hS => hS.pres.cell hc' (by rw [add_block]; simpa using hg ad rfl)) ?_
  conv => whnf
  (repeat' (first | (refine Sp.mk (fun hs => ?_) (fun hs => ?_) <;> first | (exfalso; omega) | (conv => whnf)) | (refine Ar.i (by omega) ?_; conv => whnf) | (refine NewS.mk (fun _ => ?_); conv => whnf) | (refine QuoS.nn (by omega) ?_; conv => whnf) | (refine RemS.nn (by omega) ?_; conv => whnf) | (refine QuietS.mk (by as_aux_lemma => kernel_rfl) ?_; conv => whnf) | refine RetS.mk (fun w' hS => ?_)))
  exact ⟨z, hz2, rfl, hS.pres, (hS.own _ (by simp)).1, ⟨hS.argS h.bytes.1 (fun h0 ad hA => by simpa using h.ne h0 ad hA), h.bytes.2⟩, h.ne, h.le⟩

/-- What a function that draws knows of the reader's bytes. -/
structure RdB (w0 : World) (S0 : List Nat) (g : Nat) (A : Option Addr) (n : Nat) (bs : List Int) : Prop where
  bytes : Bytes w0 A n bs
  ne : 0 < n → ∀ ad, A = some ad → ad.block ∉ S0 ∧ ad.block ≠ g
  le : n ≤ 2000
theorem Rd.b {w : World} {g : Nat} {A : Option Addr} {n c : Nat} {bs : List Int} {p : Nat} (h : Rd w g A n c bs p) : RdB w [g] g A n bs := ⟨h.bytes, fun h0 ad hA => ⟨by simpa using h.ne h0 ad hA, h.ne h0 ad hA⟩, h.le⟩

section
variable {w0 w : World} {S0 : List Nat} {lb : List Box} {rs : List Own} {g : Nat} {A : Option Addr} {n c : Nat} {bs : List Int} {p : Nat}
theorem RdB.rd (hB : RdB w0 S0 g A n bs) (hS : Eng.St w0 S0 lb rs w) (ho : rdOwn g A n c p ∈ rs) : Rd w g A n c bs p :=
  ⟨(hS.own _ ho).1, ⟨hS.argS hB.bytes.1 (fun h0 ad hA => (hB.ne h0 ad hA).1), hB.bytes.2⟩, fun h0 ad hA => (hB.ne h0 ad hA).2, hB.le⟩

theorem call_newReader {K : SV → List Box → List Own → Prop} (hb : Bytes w0 A n bs) (hn : n ≤ c)
    (kk : ∀ g c' : Nat, RdB w0 [] g A (min n 2000) (bs.take 2000) → K (.v (.pointer (some ⟨g, 0, none⟩))) lb (rs ++ [rdOwn g A (min n 2000) c' 0])) :
    memN (cxS w0 []).F 44 = true ∧ CallS (cxS w0 []) lb rs 44 #[.slice A n c] K := by
  refine ⟨rfl, CallS.own (α := Nat × Nat) (r := fun x => .pointer (some ⟨x.1, 0, none⟩)) (φ := fun x => w0.heap.size ≤ x.1) (os := fun x => [rdOwn x.1 A (min n 2000) x.2 0])
    (fun w hS => (newReader_any w ⟨hS.arg hb.1, hb.2⟩ hn).mono ?_) (fun x hx => kk x.1 x.2 ⟨hb.cut, fun h0 ad hA => ⟨by simp, ?_⟩, by omega⟩)⟩
  · rintro e w' ⟨g, c', h1, h2, h3, h4⟩
    refine ⟨(g, c'), Nat.le_trans hS.size h2, h3, h4, ⟨fun o ho => ?_, by simp [rdOwn, Value.ownBlock]⟩⟩
    simp at ho
    subst ho
    have how := h1.own
    refine ⟨how.1, ?_⟩
    rcases how.2 with ⟨hv, _⟩ | ⟨g', cap, cur, hv, _, hr⟩
    · simp [rdOwn] at hv
    · refine .inr ⟨g', cap, cur, hv, ?_, hr⟩
      simp [rdOwn] at hv
      omega
  · have := hb.cut.lt h0 hA
    omega

/-- A callee that draws. -/
theorem call_rd {K : SV → List Box → List Own → Prop} {f : Nat} {args : Array Value} {α : Type} {r : α → Value} {φ : α → Prop} {q : α → Nat} {os : α → List Own} (hB : RdB w0 S0 g A n bs) (i : Nat) (hi : rs[i]? = some (rdOwn g A n c p)) (hm : memN (cxS w0 S0).F f = true)
    (hc : ∀ w, Eng.St w0 S0 lb rs w → Rd w g A n c bs p → Calls Try.prog f args w fun e w' => ∃ x, φ x ∧ e = .returned (r x) ∧ Pres [g] w w' ∧ Rd w' g A n c bs (q x) ∧ Fresh w.heap.size (os x) w')
    (kk : ∀ x, φ x → K (.v (r x)) lb (rs.set i (rdOwn g A n c (q x)) ++ os x)) : memN (cxS w0 S0).F f = true ∧ CallS (cxS w0 S0) lb rs f args K := by
  refine ⟨hm, CallS.updOwn (i := i) (α := α) (r := r) (φ := φ) (o := rdOwn g A n c p) (o' := fun x => rdOwn g A n c (q x)) (os := os) hi rfl (fun _ => rfl) (fun w' hS => (hc w' hS (hB.rd hS (List.mem_of_getElem? hi))).mono ?_) kk⟩
  rintro e w2 ⟨x, h1, h2, h3, h4, h5⟩
  exact ⟨x, h1, h2, h3, h4.own, h5⟩

theorem call_pick {K : SV → List Box → List Own → Prop} {k : Int} (hB : RdB w0 S0 g A n bs) (i : Nat) (hi : rs[i]? = some (rdOwn g A n c p)) (hp : p ≤ 1000000)
    (kk : ∀ r : Int, 0 ≤ r → (1 ≤ k → r < k) → K (.v (.int .i64 r)) lb (rs.set i (rdOwn g A n c (p + 1)))) :
    memN (cxS w0 S0).F 51 = true ∧ CallS (cxS w0 S0) lb rs 51 #[.pointer (some ⟨g, 0, none⟩), .int .i64 k] K := by
  refine ⟨rfl, CallS.upd (i := i) (α := Int) (r := fun r => .int .i64 r) (φ := fun r => 0 ≤ r ∧ (1 ≤ k → r < k)) (o := rdOwn g A n c p) (o' := fun _ => rdOwn g A n c (p + 1)) hi rfl (fun _ => rfl) (fun w' hS => (pick_any w' (hB.rd hS (List.mem_of_getElem? hi)) hp k).mono ?_) (fun r hr => kk r hr.1 hr.2)⟩
  rintro e w2 ⟨r, h1, h2, h3, h4⟩
  exact ⟨r, h1, h2, h3, h4.own⟩
theorem call_one {K : SV → List Box → List Own → Prop} {B : Option Addr} {m d : Nat} {xs : List Value} {E : TypeId} (hB : RdB w0 S0 g A n bs) (i j : Nat) (hij : i ≠ j) (hi : rs[i]? = some (rdOwn g A n c p)) (hp : p ≤ 1000000)
    (hj : rs[j]? = some ⟨E, 1, .slice B m d, m, xs⟩) (hm : 0 < m) (lo hh : Int) (hb : ∀ u ∈ xs, InB lo hh u)
    (kk : ∀ r : Int, lo ≤ r → r ≤ hh → K (.v (.int .i64 r)) lb (rs.set i (rdOwn g A n c (p + 1)))) :
    memN (cxS w0 S0).F 53 = true ∧ CallS (cxS w0 S0) lb rs 53 #[.pointer (some ⟨g, 0, none⟩), .slice B m d] K := by
  refine ⟨rfl, CallS.upd (i := i) (α := Int) (r := fun r => .int .i64 r) (φ := fun r => lo ≤ r ∧ r ≤ hh) (o := rdOwn g A n c p) (o' := fun _ => rdOwn g A n c (p + 1)) hi rfl (fun _ => rfl) (fun w' hS => (one_any w' (hB.rd hS (List.mem_of_getElem? hi)) hp lo hh (hS.row (List.mem_of_getElem? hj)) hm hb (fun ad hA => ?_)).mono ?_) (fun r hr => kk r hr.1 hr.2)⟩
  · subst hA
    exact (hS.rows_ne hi hj hij (g1 := g) (g2 := ad.block) rfl rfl).symm
  · rintro e w2 ⟨r, h1, h2, h3, h4⟩
    exact ⟨r, h1, h2, h3, h4.own⟩
end
theorem inB_nil {lo hi : Int} : ∀ u ∈ ([] : List Value), InB lo hi u := by simp
theorem inB_cons {lo hi z : Int} {l : List Value} (h : lo ≤ z ∧ z ≤ hi) (hl : ∀ u ∈ l, InB lo hi u) : ∀ u ∈ (Value.int .i64 z :: l), InB lo hi u := by
  intro u hu
  simp only [List.mem_cons] at hu
  rcases hu with rfl | hu
  · exact ⟨z, rfl, h⟩
  · exact hl u hu
end Go.Proofs.Ytfjedjcdmaoeoaa
