/- For every net and every text, the program's StateOver answers what the reference's answers, and leaves its arguments as they were. Under no condition. -/
import Derived.Test.YtcjeccohlmmfoaaDoorKFnExactStateOver3
namespace Go.Proofs.YtcjeccohlmmfoaaDoor.Pure
open Go.RowKit Go.Proofs.YtcjeccohlmmfoaaDoor.F Go.Proofs.YtcjeccohlmmfoaaDoorW.PrintWords Go.Proofs.YtcjeccohlmmfoaaDoorW.PrintLast Go.Proofs.YtcjeccohlmmfoaaDoorW.PrintMore
def stateOverV (p : Int) (l : List (List Int)) (s : ByteArray) : Int × Int := if stCode p l s = 0 then (ovV l s, 0) else (0, stCode p l s)
theorem implOver_ev (p : Int) (l : List (List Int)) (s : ByteArray) (hs : s.size ≤ 9223372036854775807) : Ev (fun k => impl_StateOver.f k p l s) (stateOverV p l s) := by
  unfold impl_StateOver.f stateOverV
  refine Ev.bind (implCode_ev p l s hs) ?_
  by_cases h : stCode p l s = 0
  · obtain ⟨h1, h2⟩ := stCode_zero h
    have ho : impl_Net_over.f p l s = some (ovV l s) := by unfold impl_Net_over.f; rw [if_pos ⟨h1, ((stOk_iff l s).1 h2).1⟩]
    simp only [h, if_true, ho, Option.bind_some]
    exact Ev.now _
  · simp only [h, if_false]
    exact Ev.now _
theorem specOverT_ev (p : Int) (l : List (List Int)) (s : ByteArray) (hl : l.length ≤ 9223372036854775807) : Ev (fun k => spec_StateOver.f k p l s) (stateOverV p l s) := by
  unfold spec_StateOver.f stateOverV
  refine Ev.bind (specCode_ev p l s hl) ?_
  by_cases h : stCode p l s = 0
  · obtain ⟨h1, h2⟩ := stCode_zero h
    rw [if_pos h]
    have hst := specSets_ev p l s (netEdges h1).1.1
    rw [if_pos h2] at hst
    refine Ev.congr (f := fun k => (spec_l10Sets.f k p l s).bind fun bt143 => ((spec_l10Over.f k p l bt143.1 bt143.2.1).bind fun t146 => (some (t146, (0 : Int))))) (fun k => by simp [h]) (Ev.bind hst (Ev.bind (specOver_ev p l (netEdges h1).1 s ((stOk_iff l s).1 h2).1) (f := fun _ t => some (t, (0 : Int))) (Ev.now _)))
  · simp only [h, if_false]
    exact Ev.now _
theorem FnExactStateOver : laws_FnExactStateOver.Pure := by
  intro p l s hp hl hs
  refine Ev.rounds (?_ : Ev (fun k => laws_FnExactStateOver.f k p l s) true)
  unfold laws_FnExactStateOver.f
  by_cases hs2 : (s.size : Int) > 1048576
  · exact Ev.congr (f := fun _ => some true) (fun k => by rw [if_pos hs2]) (Ev.now _)
  refine Ev.congr (fun k => by rw [if_neg hs2]) ?_
  obtain ⟨v, hv, h⟩ := szNet_ev p l hl
  refine Ev.bind hv ?_
  rcases h with rfl | ⟨h0, h1, h2⟩
  · exact Ev.congr (fun k => by rw [if_pos (by omega)]) (Ev.now _)
  refine Ev.congr (fun k => by rw [if_neg (by omega)]) ?_
  refine Ev.bind (toNet_ev p l h1 h2) (Ev.bind (specOverT_ev p l s (by omega)) (Ev.bind (toNet_ev p l h1 h2) (Ev.bind (implOver_ev p l s (by omega)) ?_)))
  generalize stateOverV p l s = r
  obtain ⟨a, c⟩ := r
  have hc : (c != c) = false := by simp
  refine Ev.congr (f := fun k => laws_FnExactStateOver.j0 k false p l p l) (fun k => by simp only [if_true, hc]) ?_
  refine Ev.step (f := fun k => (laws_toNet.f k p l).bind fun bt401 => ((laws_eqNet.f k p l bt401.1 bt401.2).bind fun t405 => (if t405 = true then (some true) else (some false)))) (fun k => ?_) ?_
  · simp only [laws_FnExactStateOver.j0]; rw [if_neg (by simp)]
  · refine Ev.bind (toNet_ev p l h1 h2) (Ev.bind (eqNet_self p l h1 h2) ?_)
    exact Ev.congr (f := fun _ => some true) (fun k => by rw [if_pos rfl]) (Ev.now _)

end Go.Proofs.YtcjeccohlmmfoaaDoor.Pure
