/- Copies of pools, of both packages; conditions: none. -/
import Derived.Test.YtfjedjcdmaoeoaaPooG
set_option maxRecDepth 100000
set_option linter.unusedVariables false
set_option linter.unusedSimpArgs false
namespace Go.Proofs.Ytfjedjcdmaoeoaa
open Eng Go Go.RowKit

def capOk (p : PoolD) (y : PAd) : Prop := p.i.length ≤ y.ci ∧ p.h.length ≤ y.ch ∧ p.w.length ≤ y.cw
theorem iCopy_any {p : PoolD} {a : PAd} (w : World) (hP : PoolR w p a) :
    Calls Try.prog 54 #[.agg (poolV p a).toArray] w fun e w' => ∃ y : PAd, capOk p y ∧ e = .returned (.agg (poolV p y).toArray) ∧ Below w.heap.size w w' ∧ Fresh w.heap.size (pRows p y) w' := by
  refine enter (C := cxS w []) (okS w []) (St.start w) Try.func54 rfl rfl ?_; conv => whnf
  refine NewS.mk (fun g0 => ?_)
  conv => whnf
  refine NewS.mk (fun g1 => ?_)
  conv => whnf
  refine DrawS.plan (.first 0 (.first 3 (.first 6 (.alt 1 (.alt 2 (.alt 4 (.alt 5 (.one 7 (.first 9 (.one 8 (.one 10 (.first 11 (.one 12 (.first 13 (.one 14 (.done))))))))) (.alt 7 (.first 9 (.one 5 (.one 8 (.one 10 (.first 11 (.one 12 (.first 13 (.one 14 (.done))))))))) (.stop))) (.alt 7 (.one 4 (.first 9 (.one 5 (.one 8 (.one 10 (.first 11 (.one 12 (.first 13 (.one 14 (.done)))))))))) (.stop))) (.alt 4 (.alt 2 (.alt 5 (.one 7 (.first 9 (.one 8 (.one 10 (.first 11 (.one 12 (.first 13 (.one 14 (.done))))))))) (.alt 7 (.first 9 (.one 5 (.one 8 (.one 10 (.first 11 (.one 12 (.first 13 (.one 14 (.done))))))))) (.stop))) (.alt 7 (.one 2 (.first 9 (.one 5 (.one 8 (.one 10 (.first 11 (.one 12 (.first 13 (.one 14 (.done)))))))))) (.stop))) (.alt 7 (.alt 2 (.one 4 (.first 9 (.one 5 (.one 8 (.one 10 (.first 11 (.one 12 (.first 13 (.one 14 (.done)))))))))) (.alt 4 (.one 2 (.first 9 (.one 5 (.one 8 (.one 10 (.first 11 (.one 12 (.first 13 (.one 14 (.done)))))))))) (.stop))) (.stop)))) (.alt 4 (.alt 1 (.alt 2 (.alt 5 (.one 7 (.first 9 (.one 8 (.one 10 (.first 11 (.one 12 (.first 13 (.one 14 (.done))))))))) (.alt 7 (.first 9 (.one 5 (.one 8 (.one 10 (.first 11 (.one 12 (.first 13 (.one 14 (.done))))))))) (.stop))) (.alt 7 (.one 2 (.first 9 (.one 5 (.one 8 (.one 10 (.first 11 (.one 12 (.first 13 (.one 14 (.done)))))))))) (.stop))) (.alt 7 (.one 1 (.one 2 (.first 9 (.one 5 (.one 8 (.one 10 (.first 11 (.one 12 (.first 13 (.one 14 (.done))))))))))) (.stop))) (.alt 7 (.alt 1 (.alt 2 (.one 4 (.first 9 (.one 5 (.one 8 (.one 10 (.first 11 (.one 12 (.first 13 (.one 14 (.done)))))))))) (.alt 4 (.one 2 (.first 9 (.one 5 (.one 8 (.one 10 (.first 11 (.one 12 (.first 13 (.one 14 (.done)))))))))) (.stop))) (.alt 4 (.one 1 (.one 2 (.first 9 (.one 5 (.one 8 (.one 10 (.first 11 (.one 12 (.first 13 (.one 14 (.done))))))))))) (.stop))) (.stop))))))) (by as_aux_lemma => kernel_rfl) [] [] (LbTo.refl_nil _) (RsTo.sub (List.nil_sublist _)) ?_
  conv => whnf
  repeat' (first | (refine StS.mk rfl (RsTo.sub (List.nil_sublist _)) ?_; conv => whnf) | (refine AltS.mk ?_ ?_ <;> conv => whnf) | exact trivial | (have g2 := hA2; refine ⟨rfl, CallS.own (fun w' hS => clone_int_any w' (hP.w.below hS.below).rd (i64s_one _) hP.w.le) (fun A3 hA3 => ?_)⟩; conv => whnf) | (have g2 := hA1; refine ⟨rfl, CallS.own (fun w' hS => clone_impl_Hold_any w' (hP.h.below hS.below).rd (holdL_one _) hP.h.le) (fun A2 hA2 => ?_)⟩; conv => whnf) | (refine ⟨rfl, CallS.own (fun w' hS => clone_int_any w' (hP.i.below hS.below).rd (i64s_one _) hP.i.le) (fun A1 hA1 => ?_)⟩; conv => whnf) | refine RetS.mk (fun w' hS => ?_))
  all_goals exact ⟨⟨A1, A2, A3, p.i.length, p.h.length, p.w.length⟩, ⟨Nat.le_refl _, Nat.le_refl _, Nat.le_refl _⟩, rfl, hS.below, hS.fresh (List.Sublist.refl _)⟩
end Go.Proofs.Ytfjedjcdmaoeoaa
