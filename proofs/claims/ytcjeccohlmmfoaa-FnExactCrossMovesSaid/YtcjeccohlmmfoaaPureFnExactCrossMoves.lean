/- For every list of numbers the program's CrossMoves answers what the reference's answers, and leaves its argument as it was. Under no condition. -/
import Derived.Test.YtcjeccohlmmfoaaFF3
import Derived.Test.YtcjeccohlmmfoaaFFLibCross
import Derived.Test.YtcjeccohlmmfoaaFFLibHelp
namespace Go.Proofs.Ytcjeccohlmmfoaa.Pure
open Go.RowKit Go.Proofs.Ytcjeccohlmmfoaa.F Go.Proofs.YtcjeccohlmmfoaaW.PrintWords Go.Proofs.YtcjeccohlmmfoaaW.PrintLast Go.Proofs.YtcjeccohlmmfoaaW.PrintMore
theorem FnExactCrossMoves : laws_FnExactCrossMoves.Pure := by
  intro l hl hl8 hwf
  have hm : l.length ≤ 9223372036854775807 := by unfold maxLen at hl; omega
  have hm2 : l.length ≤ 35184372088832 := by omega
  refine Ev.rounds (?_ : Ev (fun k => laws_FnExactCrossMoves.f k l) true)
  unfold laws_FnExactCrossMoves.f
  by_cases h : (l.length : Int) > 1048576
  · exact Ev.congr (fun k => by rw [if_pos h]) (Ev.now _)
  · refine Ev.congr (fun k => by rw [if_neg h]) ?_
    refine Ev.bind (toInt64S_ev l hm2) (Ev.bind (specCross_ev l hm) (Ev.bind (toInt64S_ev l hm2) (Ev.bind (implCross_ev l hm) ?_)))
    refine Ev.congr (fun k => by rw [if_pos rfl]) (Ev.step (fun k => by simp only [laws_FnExactCrossMoves.j0]; rw [if_neg (by simp)]) ?_)
    exact Ev.bind (toInt64S_ev l hm2) (Ev.bind (eqInt64S_self l hm) (Ev.congr (fun k => by rw [if_pos rfl]) (Ev.now _)))

end Go.Proofs.Ytcjeccohlmmfoaa.Pure
