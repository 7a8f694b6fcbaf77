/- For every net, the program's FirstDouble answers what the reference's answers, in memory of its own, and leaves its argument as it was. Under no condition. -/
import Derived.Test.YtcjeccohlmmfoaaKFnExactFirstDouble5
namespace Go.Proofs.Ytcjeccohlmmfoaa.Pure
open Go.RowKit Go.Proofs.Ytcjeccohlmmfoaa.F Go.Proofs.YtcjeccohlmmfoaaW.PrintWords Go.Proofs.YtcjeccohlmmfoaaW.PrintLast Go.Proofs.YtcjeccohlmmfoaaW.PrintMore
theorem FnExactFirstDouble : laws_FnExactFirstDouble.Pure := by
  intro p l hp hl
  refine Ev.rounds (?_ : Ev (fun k => laws_FnExactFirstDouble.f k p l) true)
  unfold laws_FnExactFirstDouble.f
  obtain ⟨v, hv, h⟩ := szNet_ev p l hl
  refine Ev.bind hv ?_
  rcases h with rfl | ⟨h0, h1, h2⟩
  · exact Ev.congr (f := fun _ => some true) (fun k => by rw [if_pos (by omega)]) (Ev.now _)
  refine Ev.congr (fun k => by rw [if_neg (by omega)]) ?_
  obtain ⟨⟨x, c⟩, hx, es, ei⟩ := first_both p l (by omega)
  have hx : x.length ≤ 4611686018427387000 := hx
  have hT := toNet_ev p l h1 h2
  have hq := eqInt64S_self x (by omega)
  have hc : (c != c) = false := by simp
  refine Ev.bind hT (Ev.bind es (Ev.bind hT (Ev.bind ei (Ev.bind hq (Ev.congr (f := fun k => laws_FnExactFirstDouble.j0 k x c x c false p l p l) (fun k => by rw [if_pos rfl]; simp only [hc]) ?_)))))
  have hj2 : Ev (fun k => laws_FnExactFirstDouble.j2 k (countUp 1 x.length) (1 + x.length) false) true := by
    refine Ev.step (f := fun k => (laws_heldInt64S.f k (countUp 1 x.length) 1).bind fun t354 => (if t354 < 0 then (some false) else (if t354 = 1 + x.length then (some true) else (some false)))) (fun k => ?_) ?_
    · simp only [laws_FnExactFirstDouble.j2]; rw [if_neg (by simp)]
    · refine Ev.bind (held_ev 1 (by omega) x.length (by omega)) ?_
      exact Ev.congr (f := fun _ => some true) (fun k => by rw [if_neg (by omega), if_pos rfl]) (Ev.now _)
  have hj1 : Ev (fun k => laws_FnExactFirstDouble.j1 k x c x false p l) true := by
    refine Ev.step (f := fun k => (laws_markInt64S.f k x 1).bind fun bt342 => ((laws_heldInt64S.f k bt342.2 1).bind fun t344 => (if t344 < 0 then (some false) else (if t344 = bt342.1 then ((laws_toNet.f k p l).bind fun bt345 => ((impl_FirstDouble.f k bt345.1 bt345.2).bind fun bt349 => ((laws_eqInt64S.f k bt349.1 x).bind fun t353 => (if t353 = true then (laws_FnExactFirstDouble.j2 k bt342.2 bt342.1 (bt349.2 != c)) else (laws_FnExactFirstDouble.j2 k bt342.2 bt342.1 true))))) else (some false))))) (fun k => ?_) ?_
    · simp only [laws_FnExactFirstDouble.j1]; rw [if_neg (by simp)]
    · refine Ev.bind (mark_ev 1 (by omega) x (by omega)) (Ev.bind (held_ev 1 (by omega) x.length (by omega)) (Ev.congr (fun k => by rw [if_neg (by omega), if_pos rfl]) (Ev.bind hT (Ev.bind ei (Ev.bind hq ?_)))))
      exact Ev.congr (fun k => by rw [if_pos rfl]; simp only [hc]) hj2
  refine Ev.step (f := fun k => (laws_toNet.f k p l).bind fun bt334 => ((laws_eqNet.f k p l bt334.1 bt334.2).bind fun t338 => (if t338 = true then ((laws_markNet.f k p l 1).bind fun bt339 => (if bt339.1 < 0 then (laws_FnExactFirstDouble.j1 k x c x true p l) else ((laws_eqInt64S.f k x x).bind fun t341 => (if t341 = true then (laws_FnExactFirstDouble.j1 k x c x (c != c) p l) else (laws_FnExactFirstDouble.j1 k x c x true p l))))) else (some false)))) (fun k => ?_) ?_
  · simp only [laws_FnExactFirstDouble.j0]; rw [if_neg (by simp)]
  · have hs := sumLen_nonneg l
    have hsl := sumLen_bound l h2
    have hM : Ev (fun k => laws_markNet.f k p l 1) (1 + sumLen l, countUpSS 1 l) := markSS_ev 1 (by omega) l (by omega) (by omega)
    refine Ev.bind hT (Ev.bind (eqNet_self p l h1 h2) (Ev.congr (fun k => by rw [if_pos rfl]) (Ev.bind hM ?_)))
    refine Ev.congr (fun k => by rw [if_neg (by omega)]) (Ev.bind hq ?_)
    exact Ev.congr (fun k => by rw [if_pos rfl]; simp only [hc]) hj1

end Go.Proofs.Ytcjeccohlmmfoaa.Pure
