/- slices.DeleteFunc, tickets called, places in line, of both packages; conditions: none. -/
import Derived.Test.YtmojlnfadjnhgaaLinE
set_option maxRecDepth 100000
set_option linter.unusedVariables false
set_option linter.unusedSimpArgs false
namespace Go.Proofs.Ytmojlnfadjnhgaa
open Eng Go Go.RowKit

/-- A closure that answers of a number, whatever becomes of these blocks. -/
structure TellsP (w : World) (S : List Nat) (g : Nat) (caps : List Value) (q : Int → Bool) : Prop where
  mem : memN (cxS w []).F g = true
  run : ∀ w', Pres S w w' → ∀ x, Calls Try.prog g (Value.int .i64 x :: caps).toArray w' fun e w'' => e = .returned (.bool (q x)) ∧ Below w'.heap.size w' w''
theorem filter_none {q : Int → Bool} : ∀ {l : List Int}, l.any q = false → l.filter (fun x => !q x) = l
  | [], _ => rfl
  | x :: l, h => by
    simp only [List.any_cons, Bool.or_eq_false_iff] at h
    rw [List.filter_cons, if_pos (by simp [h.1]), filter_none h.2]
theorem i64s_append (a b : List Int) : i64s (a ++ b) = i64s a ++ i64s b := List.map_append ..
theorem box_row_ne {w0 w : World} {S0 : List Nat} {lb : List Box} {rs : List Own} (hS : Eng.St w0 S0 lb rs w) (i j : Nat) {b : Box} (hb : lb[i]? = some b) {o : Own} (ho : rs[j]? = some o) : b.blk ∉ o.v.ownBlock.toList := by
  intro hm
  have hd := hS.disj
  rw [List.nodup_append] at hd
  have h1 : o.v.ownBlock = some b.blk := by simpa using hm
  exact hd.2.2 b.blk (List.mem_map.2 ⟨b, List.mem_of_getElem? hb, rfl⟩) b.blk (List.mem_filterMap.2 ⟨o, List.mem_of_getElem? ho, h1⟩) rfl

theorem deleteFunc_any {A : Option Addr} {n c : Nat} {l : List Int} (w : World) (hn : n ≤ 1000) {g : Nat} {caps : List Value} {q : Int → Bool}
    (ho : owns w 0 3 1 (rowOf 3 1 A n c (i64s l)).v n (i64s l)) (hT : TellsP w (rowOf 3 1 A n c (i64s l)).v.ownBlock.toList g caps q) :
    Calls Try.prog 69 #[.slice A n c, .func (.func g) #[] caps.toArray] w fun e w' => ∃ tl : List Value, True ∧ e = .returned (.slice A (l.filter (fun x => !q x)).length c) ∧ Pres (rowOf 3 1 A n c (i64s l)).v.ownBlock.toList w w' ∧ owns w' 0 3 1 (rowOf 3 1 A n c (i64s l)).v n (i64s (l.filter (fun x => !q x)) ++ tl) := by
  have hlen : l.length = n := by have := ho.1; rw [i64s_len] at this; omega
  rcases rowOf_owns (A := A) (n := n) (c := c) (xs := i64s l) ho with ⟨rfl, rfl, h0⟩ | ⟨g0, rfl, hc, he, ho'⟩
  · have hx : l = [] := List.eq_nil_of_length_eq_zero hlen
    subst hx
    rw [rowOf_zero] at hT ⊢
    refine enter (C := cxS w []) (okS w []) (St.start w) Try.func69 rfl rfl ?_; conv => whnf
    refine ⟨rfl, CallS.ro (fun w' hS => indexFunc_any (l := []) w' ⟨Reads.nil _ _ _, by omega⟩ ⟨hT.mem, fun w2 h2 x => hT.run w2 ((Pres.of_below hS.below _).trans (Pres.of_below h2 _)) x⟩) ?_⟩
    conv => whnf
    refine Sp.mk (fun _ => ?_) (fun h => absurd rfl h)
    conv => whnf
    (repeat' (first | (refine Sp.mk (fun hs => ?_) (fun hs => ?_) <;> first | (exfalso; omega) | (conv => whnf)) | (refine Ar.i (by omega) ?_; conv => whnf) | (refine NewS.mk (fun _ => ?_); conv => whnf) | (refine QuoS.nn (by omega) ?_; conv => whnf) | (refine RemS.nn (by omega) ?_; conv => whnf) | refine RetS.mk (fun w' hS => ?_)))
    exact ⟨[], trivial, rfl, Pres.of_below hS.below _, owns_nil _ _ _ _⟩
  · rw [he] at hT ⊢
    have hcap := ho'.le_cap
    refine enter (C := cxS w [g0]) (okS w [g0]) (St.startRow (o := ⟨3, 1, .slice (some ⟨g0, 0, none⟩) n c, n, i64s l⟩) ho') Try.func69 rfl rfl ?_
    conv => whnf
    refine ⟨rfl, CallS.ro (fun w' hS => indexFunc_any w' (St.ints hS 0 rfl (by omega)) ⟨hT.mem, fun w2 h2 x => hT.run w2 (hS.pres.trans (Pres.of_below h2 _)) x⟩) ?_⟩
    conv => whnf
    rcases idxF_spec q l 0 with ⟨e1, e2⟩ | ⟨j0, x0, e1, e2, e3, e4⟩
    · rw [e1]
      refine Sp.mk (fun _ => ?_) (fun h => absurd rfl h)
      conv => whnf
      (repeat' (first | (refine Sp.mk (fun hs => ?_) (fun hs => ?_) <;> first | (exfalso; omega) | (conv => whnf)) | (refine Ar.i (by omega) ?_; conv => whnf) | (refine NewS.mk (fun _ => ?_); conv => whnf) | (refine QuoS.nn (by omega) ?_; conv => whnf) | (refine RemS.nn (by omega) ?_; conv => whnf) | refine RetS.mk (fun w' hS => ?_)))
      rw [filter_none e2, hlen]
      exact ⟨[], trivial, rfl, hS.pres, by rw [List.append_nil]; exact (hS.own _ (List.mem_singleton.2 rfl)).1⟩
    · rw [e1]
      have hj0 : j0 < l.length := (List.getElem?_eq_some_iff.1 e2).1
      refine Sp.mk (fun h => absurd h (by omega)) (fun _ => ?_)
      conv => whnf
      refine Ar.i (by omega) ?_
      conv => whnf
      have hF0 : (l.take (j0 + 1)).filter (fun x => !q x) = l.take j0 := by
        rw [take_snoc e2, List.filter_append, filter_none e4]
        simp [e3]
      refine LoopS.rows (okS w [g0]) [(5, 7), (16, 35)] [5, 6] rfl (fun s : Nat × List Value => [I64 ((l.take s.1).filter (fun x => !q x)).length, I64 s.1]) (fun s => [⟨3, 1, .slice (some ⟨g0, 0, none⟩) n c, n, i64s ((l.take s.1).filter (fun x => !q x)) ++ (s.2 ++ i64s (l.drop s.1))⟩])
        (fun s => s.1 ≤ n ∧ ((l.take s.1).filter (fun x => !q x)).length + s.2.length = s.1 ∧ 0 < s.2.length) (fun s => n - s.1) (j0 + 1, [.int .i64 x0]) ⟨by omega, by dsimp only; rw [hF0, List.length_take]; simp; omega, by simp⟩
        ⟨congrArg (fun z => SV.v (Value.int .i64 z)) (by rw [hF0, List.length_take]; omega), congrArg (fun z => SV.v (Value.int .i64 z)) (by omega), trivial⟩ (LbTo.refl_nil _) ?_ (fun s gg ⟨hj, hI, hpos⟩ => ?_)
      · dsimp only
        have e5 : i64s ((l.take (j0 + 1)).filter (fun x => !q x)) ++ ([.int .i64 x0] ++ i64s (l.drop (j0 + 1))) = i64s l := by
          rw [hF0]
          have : [Value.int .i64 x0] ++ i64s (l.drop (j0 + 1)) = i64s (l.drop j0) := by rw [drop_at e2]; rfl
          rw [this, ← i64s_append, List.take_append_drop]
        rw [e5]
        exact RsTo.refl _
      obtain ⟨j, junk⟩ := s
      dsimp only at hj hI hpos ⊢
      conv => whnf
      refine Sp.mk (fun h => ?_) (fun h => ?_) <;> conv => whnf
      · obtain ⟨x, hx⟩ : ∃ x, l[j]? = some x := ⟨l[j], List.getElem?_eq_getElem (by omega)⟩
        have hD : i64s (l.drop j) = .int .i64 x :: i64s (l.drop (j + 1)) := by rw [drop_at hx]; rfl
        refine IdxS.at_ j rfl rfl (by omega) ?_
        conv => whnf
        refine LdS.at_ (v := .int .i64 x) (fun w' hS => St.ownCell hS (List.mem_singleton.2 rfl) (j := j) ?_) ?_
        · rw [hD, ← List.append_assoc, List.getElem?_append_right (by rw [List.length_append, i64s_len]; omega)]
          rw [List.length_append, i64s_len, hI]
          simp
        conv => whnf
        refine ⟨hT.mem, CallS.b (fun w' hS => hT.run w' hS.pres x) (fun hb => ?_) (fun hb => ?_)⟩ <;> conv => whnf
        · have hF : (l.take (j + 1)).filter (fun x => !q x) = (l.take j).filter (fun x => !q x) := by rw [take_snoc hx, List.filter_append]; simp [hb]
          (repeat' (first | (refine Sp.mk (fun hs => ?_) (fun hs => ?_) <;> first | (exfalso; omega) | (conv => whnf)) | (refine Ar.i (by omega) ?_; conv => whnf) | (refine NewS.mk (fun _ => ?_); conv => whnf) | (refine QuoS.nn (by omega) ?_; conv => whnf) | (refine RemS.nn (by omega) ?_; conv => whnf) | refine RetS.mk (fun w' hS => ?_)))
          refine ⟨(j + 1, junk ++ [.int .i64 x]), ⟨by dsimp only; omega, by dsimp only; rw [hF, List.length_append]; simp; omega, by simp⟩, by dsimp only; omega, ⟨congrArg (fun q : List Int => SV.v (Value.int .i64 (q.length : Int))) hF.symm, rfl, trivial⟩, LbTo.refl_nil _, ?_⟩
          dsimp only
          rw [hF, hD]
          simp only [List.append_assoc, List.singleton_append]
          exact RsTo.refl _
        · have hF : (l.take (j + 1)).filter (fun x => !q x) = (l.take j).filter (fun x => !q x) ++ [x] := by rw [take_snoc hx, List.filter_append]; simp [hb]
          obtain ⟨F, hFd⟩ : ∃ F, F = (l.take j).filter (fun x => !q x) := ⟨_, rfl⟩
          rw [← hFd] at hI hF ⊢
          refine IdxS.at_ F.length rfl rfl (by omega) ?_
          conv => whnf
          refine SemU.own (okS w [g0]) (i := 0) rfl (t := 3) rfl rfl F.length rfl (by rw [List.length_append, i64s_len, List.length_append]; omega) rfl ?_
          conv => whnf
          refine Ar.i (by omega) ?_
          conv => whnf
          refine Ar.i (by omega) ?_
          conv => whnf
          refine ⟨(j + 1, junk.drop 1 ++ [.int .i64 x]), ⟨by dsimp only; omega, by dsimp only; rw [hF, List.length_append, List.length_append, List.length_drop]; simp; omega, by simp⟩, by dsimp only; omega, ⟨congrArg (fun z => SV.v (Value.int .i64 z)) (by rw [hF, List.length_append]; simp), rfl, trivial⟩, LbTo.refl_nil _, ?_⟩
          have h1 := set_mid (i64s F) (junk ++ i64s (l.drop j)) (.int .i64 x) (by rw [List.length_append]; omega)
          rw [i64s_len] at h1
          dsimp only [List.set]
          rw [h1, hF, hD, List.drop_append_of_le_length (by omega), i64s_append]
          simp only [List.append_assoc, List.singleton_append, i64s, List.map_cons, List.map_nil]
          exact RsTo.refl _
      · have hjn : j = n := by omega
        subst hjn
        have hFl : l.take j = l := List.take_of_length_le (by omega)
        have hdr : l.drop j = [] := List.drop_eq_nil_of_le (by omega)
        rw [hFl] at hI ⊢
        rw [hdr]
        obtain ⟨F, hFd⟩ : ∃ F, F = l.filter (fun x => !q x) := ⟨_, rfl⟩
        rw [← hFd] at hI ⊢
        refine SlcS.loS F.length rfl (by omega) hcap (by omega) ?_
        conv => whnf
        refine SemS.clearI (i := 0) (n := j) (c := c) (lo := F.length * 1) (m := j - F.length) rfl (by omega) (by omega) ?_
        conv => whnf
        refine SlcS.hi F.length rfl (by omega) ?_
        conv => whnf
        (repeat' (first | (refine Sp.mk (fun hs => ?_) (fun hs => ?_) <;> first | (exfalso; omega) | (conv => whnf)) | (refine Ar.i (by omega) ?_; conv => whnf) | (refine NewS.mk (fun _ => ?_); conv => whnf) | (refine QuoS.nn (by omega) ?_; conv => whnf) | (refine RemS.nn (by omega) ?_; conv => whnf) | refine RetS.mk (fun w' hS => ?_)))
        have how := (hS.own _ (List.mem_singleton.2 rfl)).1
        dsimp only at how
        obtain ⟨zs, hzs⟩ : ∃ zs, zs = putL (i64s F ++ (junk ++ i64s [])) (F.length * 1) (List.replicate (j - F.length) (Value.int .i64 0)) := ⟨_, rfl⟩
        have e6 : zs = i64s F ++ zs.drop F.length := by
          have h1 : zs.take F.length = i64s F := by
            have h2 := putL_take (List.replicate (j - F.length) (Value.int .i64 0)) (i64s F ++ (junk ++ i64s [])) (F.length * 1)
            rw [Nat.mul_one] at h2
            rw [hzs, Nat.mul_one, h2]
            rw [List.take_append_of_le_length (by rw [i64s_len]; omega), List.take_of_length_le (by rw [i64s_len]; omega)]
          rw [← h1, List.take_append_drop]
        refine ⟨zs.drop F.length, trivial, rfl, hS.pres, ?_⟩
        rw [← e6, hzs]
        exact how
end Go.Proofs.Ytmojlnfadjnhgaa
