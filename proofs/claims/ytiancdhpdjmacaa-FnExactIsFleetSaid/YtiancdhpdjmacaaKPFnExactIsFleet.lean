
import Derived.Test.YtiancdhpdjmacaaKFnExactIsFleet5
namespace Go.Proofs.Ytiancdhpdjmacaa.Pure
open Go.RowKit Go.Proofs.Ytiancdhpdjmacaa.F Go.Proofs.YtiancdhpdjmacaaW.PrintWords Go.Proofs.YtiancdhpdjmacaaW.PrintLast Go.Proofs.YtiancdhpdjmacaaW.PrintMore
theorem isFleet_both (w h : Int) (l fl : List Int) (hl : l.length ≤ 1048576) : ∃ r : Bool × Int, Ev (fun k => spec_IsFleet.f k w h l fl) r ∧ Ev (fun k => impl_IsFleet.f k w h l fl) r := by
  have e1 := l09Is_ev w h l (by omega)
  have e2 := implIsSea_ev w h l (by omega)
  unfold spec_IsFleet.f impl_IsFleet.f
  cases hs : seaV w h l with
  | false =>
    rw [hs] at e1 e2
    exact ⟨(false, 1), Ev.bind e1 (Ev.congr (fun k => by rw [if_neg (by simp)]) (Ev.now _)), Ev.bind e2 (Ev.congr (fun k => by rw [if_neg (by simp)]) (Ev.now _))⟩
  | true =>
    rw [hs] at e1 e2
    obtain ⟨⟨wn, rfl, hw1, hw5⟩, ⟨hn', rfl, hh1, hh5⟩, _, h3⟩ := seaV_nat hs
    have hsh : shipsFrom l 0 l.length = true := by
      unfold seaV at hs
      simp only [Bool.and_eq_true] at hs
      exact hs.2
    have hin := fun j hj => ships_in l.length 0 (by omega) hsh j (Nat.zero_le _) hj
    refine ⟨(fleetV wn hn' l fl, 0), Ev.bind e1 (Ev.congr (fun k => by rw [if_pos rfl]) (Ev.bind (specFleet_ev ⟨hw1, hw5⟩ ⟨hh1, hh5⟩ l fl h3 hin) (Ev.now _))), Ev.bind e2 (Ev.congr (fun k => by rw [if_pos rfl]) (Ev.bind (implFleet_ev ⟨hw1, hw5⟩ ⟨hh1, hh5⟩ l fl h3 hin) (Ev.now _)))⟩
/- For every sea and every list of numbers, and whatever is none, the program's IsFleet answers what the reference's answers, and leaves its arguments as they were. Under no condition. -/
theorem FnExactIsFleet : laws_FnExactIsFleet.Pure := by
  intro w h l fl _ _ hl hf
  refine Ev.rounds (?_ : Ev (fun k => laws_FnExactIsFleet.f k w h l fl) true)
  unfold laws_FnExactIsFleet.f
  by_cases hbig : (fl.length : Int) > 1048576
  · exact Ev.congr (f := fun _ => some true) (fun k => by rw [if_pos hbig]) (Ev.now _)
  refine Ev.congr (fun k => by rw [if_neg hbig]) ?_
  obtain ⟨v, hv, hh⟩ := szSea_ev w h l hl.1
  rw [hv]
  rcases hh with rfl | ⟨h0, h1⟩
  · exact Ev.now _
  refine Ev.congr (fun k => by rw [Option.bind_some, if_neg (by omega)]) ?_
  obtain ⟨⟨b, c⟩, es, ei⟩ := isFleet_both w h l fl h1
  have hT := toSea_ev w h l h1
  have hF := toInt64S_ev fl (by omega)
  have hb : (b != b) = false := by simp
  have hc : (c != c) = false := by simp
  refine Ev.bind hT (Ev.bind hF (Ev.bind es (Ev.bind hT (Ev.bind hF (Ev.bind ei (Ev.congr (f := fun k => laws_FnExactIsFleet.j0 k fl fl false w h l w h l) (fun k => by simp only [hb, hc]; rw [if_neg (by simp)]) ?_))))))
  refine Ev.step (f := fun k => (laws_toSea.f k w h l).bind fun bt448 => ((laws_eqSea.f k w h l bt448.1 bt448.2.1 bt448.2.2).bind fun t453 => (if t453 = true then ((laws_toInt64S.f k fl).bind fun t454 => ((laws_eqInt64S.f k fl t454).bind fun t457 => (if t457 = true then (some true) else (some false)))) else (some false)))) (fun k => ?_) ?_
  · simp only [laws_FnExactIsFleet.j0]; rw [if_neg (by simp)]
  · refine Ev.bind hT (Ev.bind (eqSea_self w h l h1) (Ev.congr (fun k => by rw [if_pos rfl]) (Ev.bind hF (Ev.bind (eqInt64S_self fl (by omega)) ?_))))
    exact Ev.congr (f := fun _ => some true) (fun k => by rw [if_pos rfl]) (Ev.now _)

end Go.Proofs.Ytiancdhpdjmacaa.Pure
