
import Derived.Test.YtiancdhpdjmacaaKFnExactPlacementsOf3
namespace Go.Proofs.Ytiancdhpdjmacaa.Pure
open Go.RowKit Go.Proofs.Ytiancdhpdjmacaa.F Go.Proofs.YtiancdhpdjmacaaW.PrintWords Go.Proofs.YtiancdhpdjmacaaW.PrintLast Go.Proofs.YtiancdhpdjmacaaW.PrintMore
theorem placesOf_both (w h : Int) (l : List Int) (n : Int) (hl : l.length ≤ 1048576) : ∃ r : List Int × Int, r.1.length ≤ 100 ∧ Ev (fun k => spec_PlacementsOf.f k w h l n) r ∧ Ev (fun k => impl_PlacementsOf.f k w h l n) r := by
  have e1 := l09Is_ev w h l (by omega)
  have e2 := implIsSea_ev w h l (by omega)
  unfold spec_PlacementsOf.f impl_PlacementsOf.f
  have e3 := first_ev (seaV w h l) (inW n 1 5)
  cases hs : seaV w h l with
  | false =>
    rw [hs] at e1 e2 e3
    refine ⟨([], 1), by simp, Ev.bind e1 (Ev.congr (fun k => by rw [if_neg (by simp)]) (Ev.now _)), Ev.bind e2 ?_⟩
    refine Ev.congr (fun k => by rw [within_inW, Option.bind_some]) (Ev.bind e3 ?_)
    exact Ev.congr (f := fun _ => some ([], 1)) (fun k => by simp) (Ev.now _)
  | true =>
    rw [hs] at e1 e2 e3
    cases hn : inW n 1 5 with
    | false =>
      rw [hn] at e3
      refine ⟨([], 2), by simp, Ev.bind e1 (Ev.congr (fun k => by rw [if_pos rfl, in_inW, hn, Option.bind_some, if_neg (by simp)]) (Ev.now _)), Ev.bind e2 ?_⟩
      refine Ev.congr (fun k => by rw [within_inW, Option.bind_some, hn]) (Ev.bind e3 ?_)
      exact Ev.congr (f := fun _ => some ([], 2)) (fun k => by simp) (Ev.now _)
    | true =>
      rw [hn] at e3
      obtain ⟨⟨wn, rfl, hw1, hw5⟩, ⟨hn', rfl, hh1, hh5⟩, _⟩ := seaV_nat hs
      obtain ⟨m, rfl, hm1, hm5⟩ := inW_five hn
      refine ⟨(placesOf wn hn' m, 0), placesOf_len hw5 hh5, Ev.bind e1 (Ev.congr (fun k => by rw [if_pos rfl, in_inW, hn, Option.bind_some, if_pos rfl]) (Ev.bind (specPlacements_ev ⟨hw1, hw5⟩ hh5 ⟨hm1, hm5⟩ l) (Ev.now _))), Ev.bind e2 ?_⟩
      refine Ev.congr (fun k => by rw [within_inW, Option.bind_some, hn]) (Ev.bind e3 ?_)
      have hp : impl_Sea_placements.f (wn : Int) (hn' : Int) l (m : Int) = some (placesOf wn hn' m) := by
        unfold impl_Sea_placements.f
        rw [if_pos ⟨inW_of hw1 hw5, inW_of hh1 hh5, inW_of hm1 hm5⟩]
        simp only [Int.toNat_natCast]
      exact Ev.congr (f := fun _ => some (placesOf wn hn' m, 0)) (fun k => by rw [if_pos (by simp), hp]; rfl) (Ev.now _)
/- For every sea and every length, and whatever is none, the program's PlacementsOf answers what the reference's answers, in memory of its own, and leaves its argument as it was. Under no condition. -/
theorem FnExactPlacementsOf : laws_FnExactPlacementsOf.Pure := by
  intro w h l n _ _ hl _
  refine Ev.rounds (?_ : Ev (fun k => laws_FnExactPlacementsOf.f k w h l n) true)
  unfold laws_FnExactPlacementsOf.f
  obtain ⟨v, hv, hh⟩ := szSea_ev w h l hl.1
  rw [hv]
  rcases hh with rfl | ⟨h0, h1⟩
  · exact Ev.now _
  refine Ev.congr (fun k => by rw [Option.bind_some, if_neg (by omega)]) ?_
  obtain ⟨⟨x, c⟩, hx, es, ei⟩ := placesOf_both w h l n h1
  have hx : x.length ≤ 100 := hx
  have hT := toSea_ev w h l h1
  have hq := eqInt64S_self x (by omega)
  have hc : (c != c) = false := by simp
  have hHx := held_ev 1 (by omega) x.length (by omega)
  have hMx := mark_ev 1 (by omega) x (by omega)
  refine Ev.bind hT (Ev.bind es (Ev.bind hT (Ev.bind ei (Ev.bind hq (Ev.congr (f := fun k => laws_FnExactPlacementsOf.j0 k n x c x c false w h l w h l) (fun k => by rw [if_pos rfl]; simp only [hc]) ?_)))))
  have hj2 : Ev (fun k => laws_FnExactPlacementsOf.j2 k (countUp 1 x.length) (1 + x.length) false) true := by
    refine Ev.step (f := fun k => (laws_heldInt64S.f k (countUp 1 x.length) 1).bind fun t392 => (if t392 < 0 then (some false) else (if t392 = 1 + x.length then (some true) else (some false)))) (fun k => ?_) ?_
    · simp only [laws_FnExactPlacementsOf.j2]; rw [if_neg (by simp)]
    · refine Ev.bind hHx ?_
      exact Ev.congr (f := fun _ => some true) (fun k => by rw [if_neg (by omega), if_pos rfl]) (Ev.now _)
  have hj1 : Ev (fun k => laws_FnExactPlacementsOf.j1 k n x c x false w h l) true := by
    refine Ev.step (f := fun k => (laws_markInt64S.f k x 1).bind fun bt379 => ((laws_heldInt64S.f k bt379.2 1).bind fun t381 => (if t381 < 0 then (some false) else (if t381 = bt379.1 then ((laws_toSea.f k w h l).bind fun bt382 => ((impl_PlacementsOf.f k bt382.1 bt382.2.1 bt382.2.2 n).bind fun bt387 => ((laws_eqInt64S.f k bt387.1 x).bind fun t391 => (if t391 = true then (laws_FnExactPlacementsOf.j2 k bt379.2 bt379.1 (bt387.2 != c)) else (laws_FnExactPlacementsOf.j2 k bt379.2 bt379.1 true))))) else (some false))))) (fun k => ?_) ?_
    · simp only [laws_FnExactPlacementsOf.j1]; rw [if_neg (by simp)]
    · refine Ev.bind hMx (Ev.bind hHx (Ev.congr (fun k => by rw [if_neg (by omega), if_pos rfl]) (Ev.bind hT (Ev.bind ei (Ev.bind hq ?_)))))
      exact Ev.congr (fun k => by rw [if_pos rfl]; simp only [hc]) hj2
  refine Ev.step (f := fun k => (laws_toSea.f k w h l).bind fun bt370 => ((laws_eqSea.f k w h l bt370.1 bt370.2.1 bt370.2.2).bind fun t375 => (if t375 = true then ((laws_markSea.f k w h l 1).bind fun bt376 => (if bt376.1 < 0 then (laws_FnExactPlacementsOf.j1 k n x c x true w h l) else ((laws_eqInt64S.f k x x).bind fun t378 => (if t378 = true then (laws_FnExactPlacementsOf.j1 k n x c x (c != c) w h l) else (laws_FnExactPlacementsOf.j1 k n x c x true w h l))))) else (some false)))) (fun k => ?_) ?_
  · simp only [laws_FnExactPlacementsOf.j0]; rw [if_neg (by simp)]
  · refine Ev.bind hT (Ev.bind (eqSea_self w h l h1) (Ev.congr (fun k => by rw [if_pos rfl]) (Ev.bind (markSea_ev w h l h1) ?_)))
    refine Ev.congr (fun k => by rw [if_neg (by omega)]) (Ev.bind hq ?_)
    exact Ev.congr (fun k => by rw [if_pos rfl]; simp only [hc]) hj1

end Go.Proofs.Ytiancdhpdjmacaa.Pure
