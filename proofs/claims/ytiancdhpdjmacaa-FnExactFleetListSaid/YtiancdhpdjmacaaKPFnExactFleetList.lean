
import Derived.Test.YtiancdhpdjmacaaKFnExactFleetList4
namespace Go.Proofs.Ytiancdhpdjmacaa.Pure
open Go.RowKit Go.Proofs.Ytiancdhpdjmacaa.F Go.Proofs.YtiancdhpdjmacaaW.PrintWords Go.Proofs.YtiancdhpdjmacaaW.PrintLast Go.Proofs.YtiancdhpdjmacaaW.PrintMore
theorem fleetList_both (w h : Int) (l : List Int) (hl : l.length ≤ 1048576) : ∃ r : List (List Int) × Int, (r.1.length ≤ 300 ∧ ∀ z ∈ r.1, z.length ≤ 1000) ∧ Ev (fun k => spec_FleetList.f k w h l) r ∧ Ev (fun k => impl_FleetList.f k w h l) r := by
  have e1 := l09Is_ev w h l (by omega)
  have e2 := implIsSea_ev w h l (by omega)
  unfold spec_FleetList.f impl_FleetList.f
  cases hs : seaV w h l with
  | false =>
    rw [hs] at e1 e2
    have ec : Ev (fun k => impl_CountFleets.f k w h l) (0, 1) := by
      unfold impl_CountFleets.f
      exact Ev.bind e2 (Ev.congr (fun k => by rw [if_neg (by simp)]) (Ev.now _))
    exact ⟨([], 1), ⟨Nat.zero_le _, fun z hz => by cases hz⟩, Ev.bind e1 (Ev.congr (fun k => by rw [if_neg (by simp)]) (Ev.now _)), Ev.bind ec (Ev.congr (f := fun _ => some ([], 1)) (fun k => by rw [if_neg (by simp)]) (Ev.now _))⟩
  | true =>
    have hm := goFleets_most hs
    have hz : ∀ z ∈ fleetsOf w h l, z.length ≤ 1000 := by
      obtain ⟨⟨wn, rfl, hw1, hw5⟩, ⟨hn', rfl, hh1, hh5⟩, _, h3⟩ := seaV_nat hs
      intro z hz
      unfold fleetsOf at hz
      simp only [Int.toNat_natCast] at hz
      have := (fleets_in l.length [] InPl.nil (by simp) z hz).2
      omega
    rw [hs] at e1 e2
    have ec : Ev (fun k => impl_CountFleets.f k w h l) (((fleetsOf w h l).length : Int), 0) := by
      unfold impl_CountFleets.f
      exact Ev.bind e2 (Ev.congr (fun k => by rw [if_pos rfl, if_pos hs]) (Ev.now _))
    by_cases hn : (fleetsOf w h l).length ≤ 300
    · have hg := hm.1 hn
      refine ⟨(fleetsOf w h l, 0), ⟨hn, hz⟩, Ev.bind e1 (Ev.congr (f := fun _ => some (fleetsOf w h l, 0)) (fun k => ?_) (Ev.now _)), Ev.bind ec (Ev.congr (f := fun _ => some (fleetsOf w h l, 0)) (fun k => ?_) (Ev.now _))⟩
      · rw [if_pos rfl, if_pos rfl, hg, if_neg (by omega)]
      · rw [if_pos rfl, if_neg (by simp only []; omega), if_pos rfl]
    · have hg := hm.2 hn
      refine ⟨([], 3), ⟨Nat.zero_le _, fun z hz => by cases hz⟩, Ev.bind e1 (Ev.congr (f := fun _ => some ([], 3)) (fun k => ?_) (Ev.now _)), Ev.bind ec (Ev.congr (f := fun _ => some ([], 3)) (fun k => ?_) (Ev.now _))⟩
      · rw [if_pos rfl, if_pos rfl, if_pos hg]
      · rw [if_pos rfl, if_pos (by simp only []; omega)]
/- For every sea, and whatever is none, the program's FleetList answers what the reference's answers, in memory of its own, and leaves its argument as it was. Under no condition. -/
theorem FnExactFleetList : laws_FnExactFleetList.Pure := by
  intro w h l _ _ hl
  refine Ev.rounds (?_ : Ev (fun k => laws_FnExactFleetList.f k w h l) true)
  unfold laws_FnExactFleetList.f
  obtain ⟨v, hv, hh⟩ := szSea_ev w h l hl.1
  rw [hv]
  rcases hh with rfl | ⟨h0, h1⟩
  · exact Ev.now _
  refine Ev.congr (fun k => by rw [Option.bind_some, if_neg (by omega)]) ?_
  obtain ⟨⟨x, c⟩, hx, es, ei⟩ := fleetList_both w h l h1
  have hx2 : ∀ z ∈ x, z.length ≤ 1000 := hx.2
  have hx : x.length ≤ 300 := hx.1
  have hT := toSea_ev w h l h1
  have hq := eqInt64SS_self x (by omega) (fun z hz => by have := hx2 z hz; omega)
  have hc : (c != c) = false := by simp
  have hs0 := sumLen_nonneg x
  have hs1 := sumLen_bound x (fun z hz => by have := hx2 z hz; omega)
  have hMS := markSS_ev 1 (by omega) x (by omega) (by omega)
  have hHS := heldSS_ev 1 (by omega) x (by omega) (by omega)
  generalize countUpSS 1 x = y at hMS hHS
  have htot : 0 ≤ 1 + sumLen x := by omega
  generalize 1 + sumLen x = tot at hMS hHS htot
  refine Ev.bind hT (Ev.bind es (Ev.bind hT (Ev.bind ei (Ev.bind hq (Ev.congr (f := fun k => laws_FnExactFleetList.j0 k x c x c false w h l w h l) (fun k => by rw [if_pos rfl]; simp only [hc]) ?_)))))
  have hj2 : Ev (fun k => laws_FnExactFleetList.j2 k y tot false) true := by
    refine Ev.step (f := fun k => (laws_heldInt64SS.f k y 1).bind fun t => (if t < 0 then (some false) else (if t = tot then (some true) else (some false)))) (fun k => ?_) ?_
    · simp only [laws_FnExactFleetList.j2]; rw [if_neg (by simp)]
    · refine Ev.bind hHS ?_
      exact Ev.congr (f := fun _ => some true) (fun k => by rw [if_neg (by omega), if_pos rfl]) (Ev.now _)
  have hj1 : Ev (fun k => laws_FnExactFleetList.j1 k x c x false w h l) true := by
    refine Ev.step (f := fun k => (laws_markInt64SS.f k x 1).bind fun bt224 => ((laws_heldInt64SS.f k bt224.2 1).bind fun t226 => (if t226 < 0 then (some false) else (if t226 = bt224.1 then ((laws_toSea.f k w h l).bind fun bt227 => ((impl_FleetList.f k bt227.1 bt227.2.1 bt227.2.2).bind fun bt231 => ((laws_eqInt64SS.f k bt231.1 x).bind fun t235 => (if t235 = true then (laws_FnExactFleetList.j2 k bt224.2 bt224.1 (bt231.2 != c)) else (laws_FnExactFleetList.j2 k bt224.2 bt224.1 true))))) else (some false))))) (fun k => ?_) ?_
    · simp only [laws_FnExactFleetList.j1]; rw [if_neg (by simp)]
    · refine Ev.bind hMS (Ev.bind hHS (Ev.congr (fun k => by rw [if_neg (by omega), if_pos rfl]) (Ev.bind hT (Ev.bind ei (Ev.bind hq ?_)))))
      exact Ev.congr (fun k => by rw [if_pos rfl]; simp only [hc]) hj2
  refine Ev.step (f := fun k => (laws_toSea.f k w h l).bind fun bt216 => ((laws_eqSea.f k w h l bt216.1 bt216.2.1 bt216.2.2).bind fun t220 => (if t220 = true then ((laws_markSea.f k w h l 1).bind fun bt221 => (if bt221.1 < 0 then (laws_FnExactFleetList.j1 k x c x true w h l) else ((laws_eqInt64SS.f k x x).bind fun t223 => (if t223 = true then (laws_FnExactFleetList.j1 k x c x (c != c) w h l) else (laws_FnExactFleetList.j1 k x c x true w h l))))) else (some false)))) (fun k => ?_) ?_
  · simp only [laws_FnExactFleetList.j0]; rw [if_neg (by simp)]
  · refine Ev.bind hT (Ev.bind (eqSea_self w h l h1) ?_)
    refine Ev.congr (fun k => by rw [if_pos rfl]) ?_
    refine Ev.bind (markSea_ev w h l h1) ?_
    refine Ev.congr (fun k => by rw [if_neg (by omega)]) (Ev.bind hq ?_)
    exact Ev.congr (fun k => by rw [if_pos rfl]; simp only [hc]) hj1

end Go.Proofs.Ytiancdhpdjmacaa.Pure
