/- For every net, and whatever is none, the program's IsNet answers what the reference's answers, and leaves its argument as it was. Under no condition. -/
import Derived.Test.YtcjeccohlmmfoaaKFnExactIsNet2
namespace Go.Proofs.Ytcjeccohlmmfoaa.Pure
open Go.RowKit Go.Proofs.Ytcjeccohlmmfoaa.F Go.Proofs.YtcjeccohlmmfoaaW.PrintWords Go.Proofs.YtcjeccohlmmfoaaW.PrintLast Go.Proofs.YtcjeccohlmmfoaaW.PrintMore
theorem FnExactIsNet : laws_FnExactIsNet.Pure := by
  intro p l hp hl
  refine Ev.rounds (?_ : Ev (fun k => laws_FnExactIsNet.f k p l) true)
  unfold laws_FnExactIsNet.f
  obtain ⟨v, hv, h⟩ := szNet_ev p l hl
  refine Ev.bind hv ?_
  rcases h with rfl | ⟨h0, h1, h2⟩
  · exact Ev.congr (fun k => by rw [if_pos (by omega)]) (Ev.now _)
  · refine Ev.congr (fun k => by rw [if_neg (by omega)]) ?_
    refine Ev.bind (toNet_ev p l h1 h2) (Ev.bind (specIsNet_ev p l (by omega)) (Ev.bind (toNet_ev p l h1 h2) ?_))
    unfold impl_IsNet.f
    refine Ev.congr (fun k => by rw [Option.bind_some, if_neg (by simp)]) ?_
    refine Ev.bind (toNet_ev p l h1 h2) ?_
    refine Ev.bind (eqNet_self p l h1 h2) ?_
    exact Ev.congr (f := fun _ => some true) (fun k => by rw [if_pos rfl]) (Ev.now _)

end Go.Proofs.Ytcjeccohlmmfoaa.Pure
