
import Derived.Test.YtiancdhpdjmacaaKFnExactCountFleets4
namespace Go.Proofs.Ytiancdhpdjmacaa.Pure
open Go.RowKit Go.Proofs.Ytiancdhpdjmacaa.F Go.Proofs.YtiancdhpdjmacaaW.PrintWords Go.Proofs.YtiancdhpdjmacaaW.PrintLast Go.Proofs.YtiancdhpdjmacaaW.PrintMore
theorem countFleets_both (w h : Int) (l : List Int) (hl : l.length ≤ 1048576) : ∃ r : Int × Int, Ev (fun k => spec_CountFleets.f k w h l) r ∧ Ev (fun k => impl_CountFleets.f k w h l) r := by
  have e1 := l09Is_ev w h l (by omega)
  have e2 := implIsSea_ev w h l (by omega)
  unfold spec_CountFleets.f impl_CountFleets.f
  cases hs : seaV w h l with
  | false =>
    rw [hs] at e1 e2
    exact ⟨(0, 1), Ev.bind e1 (Ev.congr (fun k => by rw [if_neg (by simp)]) (Ev.now _)), Ev.bind e2 (Ev.congr (fun k => by rw [if_neg (by simp)]) (Ev.now _))⟩
  | true =>
    rw [hs] at e1 e2
    exact ⟨(((fleetsOf w h l).length : Int), 0), Ev.bind e1 (Ev.congr (fun k => by rw [if_pos rfl, if_pos rfl, goFleets_none hs]) (Ev.now _)), Ev.bind e2 (Ev.congr (fun k => by rw [if_pos rfl, if_pos rfl]) (Ev.now _))⟩
/- For every sea, and whatever is none, the program's CountFleets answers what the reference's answers, and leaves its argument as it was. Under no condition. -/
theorem FnExactCountFleets : laws_FnExactCountFleets.Pure := by
  intro w h l _ _ hl
  refine Ev.rounds (?_ : Ev (fun k => laws_FnExactCountFleets.f k w h l) true)
  unfold laws_FnExactCountFleets.f
  obtain ⟨v, hv, hh⟩ := szSea_ev w h l hl.1
  rw [hv]
  rcases hh with rfl | ⟨h0, h1⟩
  · exact Ev.now _
  refine Ev.congr (fun k => by rw [Option.bind_some, if_neg (by omega)]) ?_
  obtain ⟨⟨b, c⟩, es, ei⟩ := countFleets_both w h l h1
  have hT := toSea_ev w h l h1
  have hc : (c != c) = false := by simp
  refine Ev.bind hT (Ev.bind es (Ev.bind hT (Ev.bind ei (Ev.congr (f := fun k => laws_FnExactCountFleets.j0 k false w h l w h l) (fun k => by simp only [hc, if_true]) ?_))))
  refine Ev.step (f := fun k => (laws_toSea.f k w h l).bind fun bt448 => ((laws_eqSea.f k w h l bt448.1 bt448.2.1 bt448.2.2).bind fun t453 => (if t453 = true then (some true) else (some false)))) (fun k => ?_) ?_
  · simp only [laws_FnExactCountFleets.j0]; rw [if_neg (by simp)]
  · refine Ev.bind hT (Ev.bind (eqSea_self w h l h1) ?_)
    exact Ev.congr (f := fun _ => some true) (fun k => by rw [if_pos rfl]) (Ev.now _)

end Go.Proofs.Ytiancdhpdjmacaa.Pure
