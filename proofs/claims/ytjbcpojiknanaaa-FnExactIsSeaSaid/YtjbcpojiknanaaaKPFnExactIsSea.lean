/- For every sea, and whatever is none, the program's IsSea answers what the reference's answers, and leaves its argument as it was. Under no condition. -/
import Derived.Test.YtjbcpojiknanaaaKFnExactIsSea2
namespace Go.Proofs.Ytjbcpojiknanaaa.Pure
open Go.RowKit Go.Proofs.Ytjbcpojiknanaaa.F Go.Proofs.YtjbcpojiknanaaaW.PrintWords Go.Proofs.YtjbcpojiknanaaaW.PrintLast Go.Proofs.YtjbcpojiknanaaaW.PrintMore
theorem FnExactIsSea : laws_FnExactIsSea.Pure := by
  intro w h l _ _ hl
  refine Ev.rounds (?_ : Ev (fun k => laws_FnExactIsSea.f k w h l) true)
  unfold laws_FnExactIsSea.f
  obtain ⟨v, hv, hh⟩ := szSea_ev w h l hl.1
  rw [hv]
  rcases hh with rfl | ⟨h0, h1⟩
  · exact Ev.now _
  · refine Ev.congr (fun k => by rw [Option.bind_some, if_neg (by omega)]) ?_
    refine Ev.bind (toSea_ev w h l h1) ?_
    refine Ev.bind (a := seaV w h l) ?_ (Ev.bind (toSea_ev w h l h1) (Ev.bind (implIsSea_ev w h l (by omega)) ?_))
    · unfold spec_IsSea.f
      exact Ev.bind (l09Is_ev w h l (by omega)) (Ev.now _)
    · refine Ev.congr (fun k => by rw [if_neg (by simp)]) ?_
      refine Ev.bind (toSea_ev w h l h1) (Ev.bind (eqSea_self w h l h1) ?_)
      exact Ev.congr (f := fun _ => some true) (fun k => by rw [if_pos rfl]) (Ev.now _)

end Go.Proofs.Ytjbcpojiknanaaa.Pure
