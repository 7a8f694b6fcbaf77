
import Derived.Test.YtiancdhpdjmacaaKFnExactCellsOfFleet5
namespace Go.Proofs.Ytiancdhpdjmacaa.Pure
open Go.RowKit Go.Proofs.Ytiancdhpdjmacaa.F Go.Proofs.YtiancdhpdjmacaaW.PrintWords Go.Proofs.YtiancdhpdjmacaaW.PrintLast Go.Proofs.YtiancdhpdjmacaaW.PrintMore
theorem cellsOf_both (w h : Int) (l fl : List Int) (hl : l.length ≤ 1048576) : ∃ r : List Int × Int, r.1.length ≤ 100 ∧ Ev (fun k => spec_CellsOfFleet.f k w h l fl) r ∧ Ev (fun k => impl_CellsOfFleet.f k w h l fl) r := by
  have e1 := specCode_ev w h l fl hl
  have e2 := implCode_ev w h l fl hl
  unfold spec_CellsOfFleet.f impl_CellsOfFleet.f
  by_cases h0 : codeV w h l fl = 0
  · obtain ⟨wn, hn, rfl, rfl, hw1, hw5, hh1, hh5, h3, hfl, hnum⟩ := code_zero h0
    rw [h0] at e1 e2
    have hN := place_small_ hw5 hh5
    obtain ⟨N, hNe⟩ : ∃ N, wn * hn = N := ⟨_, rfl⟩
    rw [hNe] at hN hnum
    have hwm : wrap64 ((wn : Int) * (hn : Int)) = (N : Int) := wrap_mul hNe (by omega)
    obtain ⟨M, hM, hMb⟩ := orAll_nat hN fl 0 (Nat.two_pow_pos N) hnum
    have hM' : orAll fl = (M : Int) := hM
    have e3 := specSet_ev fl (by omega)
    have e4 := implWhole_ev fl (by omega)
    rw [hM'] at e3 e4
    have e5 := specCells_ev (M : Int)
    have hcut : chosenTo (bitIn (M : Int)) 25 = chosenTo (bitIn (M : Int)) N := chosen_cut _ N 25 hN (fun c h1 h2 => bitIn_high hMb hN h1 (by omega))
    have hlen := chosenTo_le (bitIn (M : Int)) N
    rw [hcut] at e5
    refine ⟨(chosenTo (bitIn (M : Int)) N, 0), Nat.le_trans hlen (by omega), Ev.bind e1 (Ev.congr (fun k => by rw [if_pos rfl]) (Ev.bind e3 (Ev.bind e5 (Ev.now (chosenTo (bitIn (M : Int)) N, (0 : Int)))))), Ev.bind e2 (Ev.congr (fun k => by rw [if_pos rfl]) (Ev.bind e4 ?_))⟩
    refine Ev.congr (f := fun _ => some (chosenTo (bitIn (M : Int)) N, 0)) (fun k => ?_) (Ev.now _)
    have c1 : (N : Int) ≤ 1000 := by omega
    rw [hwm, if_pos c1, Int.toNat_natCast]
  · exact ⟨([], codeV w h l fl), by simp, Ev.bind e1 (Ev.congr (fun k => by rw [if_neg h0]) (Ev.now _)), Ev.bind e2 (Ev.congr (fun k => by rw [if_neg h0]) (Ev.now _))⟩
/- For every sea and every list of numbers, and whatever is none, the program's CellsOfFleet answers what the reference's answers, in memory of its own, and leaves its arguments as they were. Under no condition. -/
theorem FnExactCellsOfFleet : laws_FnExactCellsOfFleet.Pure := by
  intro w h l fl _ _ hl hf
  refine Ev.rounds (?_ : Ev (fun k => laws_FnExactCellsOfFleet.f k w h l fl) true)
  unfold laws_FnExactCellsOfFleet.f
  by_cases hbig : (fl.length : Int) > 1048576
  · exact Ev.congr (f := fun _ => some true) (fun k => by rw [if_pos hbig]) (Ev.now _)
  refine Ev.congr (fun k => by rw [if_neg hbig]) ?_
  obtain ⟨v, hv, hh⟩ := szSea_ev w h l hl.1
  rw [hv]
  rcases hh with rfl | ⟨h0, h1⟩
  · exact Ev.now _
  refine Ev.congr (fun k => by rw [Option.bind_some, if_neg (by omega)]) ?_
  obtain ⟨⟨x, c⟩, hx, es, ei⟩ := cellsOf_both w h l fl h1
  have hx : x.length ≤ 100 := hx
  have hT := toSea_ev w h l h1
  have hF := toInt64S_ev fl (by omega)
  have hq := eqInt64S_self x (by omega)
  have hqf := eqInt64S_self fl (by omega)
  have hc : (c != c) = false := by simp
  have hHx := held_ev 1 (by omega) x.length (by omega)
  have hMx := mark_ev 1 (by omega) x (by omega)
  have hMf := mark_ev (1 + l.length) (by omega) fl (by omega)
  refine Ev.bind hT (Ev.bind hF (Ev.bind es (Ev.bind hT (Ev.bind hF (Ev.bind ei (Ev.bind hq (Ev.congr (f := fun k => laws_FnExactCellsOfFleet.j0 k fl x c fl x c false w h l w h l) (fun k => by rw [if_pos rfl]; simp only [hc]) ?_)))))))
  have hj2 : Ev (fun k => laws_FnExactCellsOfFleet.j2 k (countUp 1 x.length) (1 + x.length) false) true := by
    refine Ev.step (f := fun k => (laws_heldInt64S.f k (countUp 1 x.length) 1).bind fun t641 => (if t641 < 0 then (some false) else (if t641 = 1 + x.length then (some true) else (some false)))) (fun k => ?_) ?_
    · simp only [laws_FnExactCellsOfFleet.j2]; rw [if_neg (by simp)]
    · refine Ev.bind hHx ?_
      exact Ev.congr (f := fun _ => some true) (fun k => by rw [if_neg (by omega), if_pos rfl]) (Ev.now _)
  have hj1 : Ev (fun k => laws_FnExactCellsOfFleet.j1 k fl x c x false w h l) true := by
    refine Ev.step (f := fun k => (laws_markInt64S.f k x 1).bind fun bt625 => ((laws_heldInt64S.f k bt625.2 1).bind fun t627 => (if t627 < 0 then (some false) else (if t627 = bt625.1 then ((laws_toSea.f k w h l).bind fun bt628 => ((laws_toInt64S.f k fl).bind fun t633 => ((impl_CellsOfFleet.f k bt628.1 bt628.2.1 bt628.2.2 t633).bind fun bt636 => ((laws_eqInt64S.f k bt636.1 x).bind fun t640 => (if t640 = true then (laws_FnExactCellsOfFleet.j2 k bt625.2 bt625.1 (bt636.2 != c)) else (laws_FnExactCellsOfFleet.j2 k bt625.2 bt625.1 true)))))) else (some false))))) (fun k => ?_) ?_
    · simp only [laws_FnExactCellsOfFleet.j1]; rw [if_neg (by simp)]
    · refine Ev.bind hMx (Ev.bind hHx (Ev.congr (fun k => by rw [if_neg (by omega), if_pos rfl]) (Ev.bind hT (Ev.bind hF (Ev.bind ei (Ev.bind hq ?_))))))
      exact Ev.congr (fun k => by rw [if_pos rfl]; simp only [hc]) hj2
  refine Ev.step (f := fun k => (laws_toSea.f k w h l).bind fun bt610 => ((laws_eqSea.f k w h l bt610.1 bt610.2.1 bt610.2.2).bind fun t615 => (if t615 = true then ((laws_toInt64S.f k fl).bind fun t616 => ((laws_eqInt64S.f k fl t616).bind fun t619 => (if t619 = true then ((laws_markSea.f k w h l 1).bind fun bt620 => ((laws_markInt64S.f k fl bt620.1).bind fun bt622 => (if bt622.1 < 0 then (laws_FnExactCellsOfFleet.j1 k fl x c x true w h l) else ((laws_eqInt64S.f k x x).bind fun t624 => (if t624 = true then (laws_FnExactCellsOfFleet.j1 k fl x c x (c != c) w h l) else (laws_FnExactCellsOfFleet.j1 k fl x c x true w h l)))))) else (some false)))) else (some false)))) (fun k => ?_) ?_
  · simp only [laws_FnExactCellsOfFleet.j0]; rw [if_neg (by simp)]
  · refine Ev.bind hT (Ev.bind (eqSea_self w h l h1) ?_)
    refine Ev.congr (fun k => by rw [if_pos rfl]) ?_
    refine Ev.bind hF (Ev.bind hqf ?_)
    refine Ev.congr (fun k => by rw [if_pos rfl]) ?_
    refine Ev.bind (markSea_ev w h l h1) (Ev.bind hMf ?_)
    refine Ev.congr (fun k => by rw [if_neg (by omega)]) (Ev.bind hq ?_)
    exact Ev.congr (fun k => by rw [if_pos rfl]; simp only [hc]) hj1

end Go.Proofs.Ytiancdhpdjmacaa.Pure
