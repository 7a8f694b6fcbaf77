
import Derived.Test.YtiancdhpdjmacaaKFnExactAnswersOf6
namespace Go.Proofs.Ytiancdhpdjmacaa.Pure
open Go.RowKit Go.Proofs.Ytiancdhpdjmacaa.F Go.Proofs.YtiancdhpdjmacaaW.PrintWords Go.Proofs.YtiancdhpdjmacaaW.PrintLast Go.Proofs.YtiancdhpdjmacaaW.PrintMore
theorem answersOf_both (w h : Int) (l fl cells : List Int) (hl : l.length ≤ 1048576) (hcl : cells.length ≤ 1048576) : ∃ r : List Int × Int, r.1.length ≤ 1048576 ∧ Ev (fun k => spec_AnswersOf.f k w h l fl cells) r ∧ Ev (fun k => impl_AnswersOf.f k w h l fl cells) r := by
  have e1 := specCode_ev w h l fl hl
  have e2 := implCode2_ev w h l fl cells hl hcl
  unfold spec_AnswersOf.f impl_AnswersOf.f
  unfold code2V at e2
  by_cases h0 : codeV w h l fl = 0
  · rw [if_pos h0] at e2
    obtain ⟨wn, hn, rfl, rfl, hw1, hw5, hh1, hh5, h3, hfl, hnum⟩ := code_zero h0
    rw [h0] at e1
    obtain ⟨N, hNe⟩ : ∃ N, wn * hn = N := ⟨_, rfl⟩
    have hN : N ≤ 25 := by rw [← hNe]; exact place_small_ hw5 hh5
    have e3 := specDiff_ev hNe hN l cells hcl
    have hcv : cellsV (wn : Int) (hn : Int) cells = diffL N 0 cells := by
      unfold cellsV
      rw [diff_rising, wrap_mul hNe (by omega), show wrap64 ((N : Int) - 1) = (N : Int) - 1 by unfold wrap64; omega]
    rw [hcv] at e2
    cases hd : diffL N 0 cells with
    | false =>
      rw [hd] at e2 e3
      rw [if_neg (by simp)] at e2
      exact ⟨([], 2), by simp, Ev.bind e1 (Ev.congr (fun k => by rw [if_pos rfl]) (Ev.bind e3 (Ev.congr (f := fun _ => some ([], 2)) (fun k => by rw [if_neg (by simp)]) (Ev.now _)))), Ev.bind e2 (Ev.congr (f := fun _ => some ([], 2)) (fun k => by rw [if_neg (by decide)]) (Ev.now _))⟩
    | true =>
      rw [hd] at e2 e3
      rw [if_pos rfl] at e2
      have hin := ((diffL_iff N cells 0).1 hd).1
      have hsc : SeaCells cells := fun x hx => by have := hin x hx; omega
      have hnf : NumFleet fl := fun x hx => by
        obtain ⟨m, e, hm⟩ := hnum x hx
        rw [hNe] at hm
        exact ⟨m, e, Nat.lt_of_lt_of_le hm (Nat.le_trans (Nat.pow_le_pow_right (by omega) hN) (by simp))⟩
      have e4 := specAnsL_ev hnf (by omega) hsc hcl cells.length 0 0 [] (by omega) rfl
      have e5 := implAnsL_ev hnf (by omega) hsc hcl cells.length 0 0 [] (by omega) rfl
      have hlen := ansTo_len fl cells cells.length 0 0 []
      refine ⟨(ansTo fl cells 0 cells.length 0 [], 0), by show (ansTo fl cells 0 cells.length 0 []).length ≤ _; rw [hlen]; simpa using hcl, Ev.bind e1 (Ev.congr (fun k => by rw [if_pos rfl]) (Ev.bind e3 (Ev.congr (fun k => by rw [if_pos rfl]; rfl) e4))), Ev.bind e2 (Ev.congr (fun k => by rw [if_pos rfl]; rfl) e5)⟩
  · rw [if_neg h0] at e2
    exact ⟨([], codeV w h l fl), by simp, Ev.bind e1 (Ev.congr (fun k => by rw [if_neg h0]) (Ev.now _)), Ev.bind e2 (Ev.congr (fun k => by rw [if_neg h0]) (Ev.now _))⟩
/- For every sea, every list of numbers and every list of cells, and whatever is none, the program's AnswersOf answers what the reference's answers, in memory of its own, and leaves its arguments as they were. Under no condition. -/
theorem FnExactAnswersOf : laws_FnExactAnswersOf.Pure := by
  intro w h l fl cs _ _ hl hf hcs
  refine Ev.rounds (?_ : Ev (fun k => laws_FnExactAnswersOf.f k w h l fl cs) true)
  unfold laws_FnExactAnswersOf.f
  by_cases hbig : (fl.length : Int) > 1048576
  · exact Ev.congr (f := fun _ => some true) (fun k => by rw [if_pos hbig]) (Ev.now _)
  refine Ev.congr (fun k => by rw [if_neg hbig]) ?_
  by_cases hbig2 : (cs.length : Int) > 1048576
  · exact Ev.congr (f := fun _ => some true) (fun k => by rw [if_pos hbig2]) (Ev.now _)
  refine Ev.congr (fun k => by rw [if_neg hbig2]) ?_
  obtain ⟨v, hv, hh⟩ := szSea_ev w h l hl.1
  rw [hv]
  rcases hh with rfl | ⟨h0, h1⟩
  · exact Ev.now _
  refine Ev.congr (fun k => by rw [Option.bind_some, if_neg (by omega)]) ?_
  obtain ⟨⟨x, c⟩, hx, es, ei⟩ := answersOf_both w h l fl cs h1 (by omega)
  have hx : x.length ≤ 1048576 := hx
  have hT := toSea_ev w h l h1
  have hF := toInt64S_ev fl (by omega)
  have hC := toInt64S_ev cs (by omega)
  have hq := eqInt64S_self x (by omega)
  have hqf := eqInt64S_self fl (by omega)
  have hqc := eqInt64S_self cs (by omega)
  have hc : (c != c) = false := by simp
  have hHx := held_ev 1 (by omega) x.length (by omega)
  have hMx := mark_ev 1 (by omega) x (by omega)
  have hMf := mark_ev (1 + l.length) (by omega) fl (by omega)
  have hMc := mark_ev (1 + l.length + fl.length) (by omega) cs (by omega)
  have hj2 : Ev (fun k => laws_FnExactAnswersOf.j2 k (countUp 1 x.length) (1 + x.length) false) true := by
    refine Ev.step (f := fun k => (laws_heldInt64S.f k (countUp 1 x.length) 1).bind fun t745 => (if t745 < 0 then (some false) else (if t745 = 1 + x.length then (some true) else (some false)))) (fun k => ?_) ?_
    · simp only [laws_FnExactAnswersOf.j2]; rw [if_neg (by simp)]
    · refine Ev.bind hHx ?_
      exact Ev.congr (f := fun _ => some true) (fun k => by rw [if_neg (by omega), if_pos rfl]) (Ev.now _)
  have hj1 : Ev (fun k => laws_FnExactAnswersOf.j1 k fl cs x c x false w h l) true := by
    refine Ev.step (f := fun k => (laws_markInt64S.f k x 1).bind fun bt726 => ((laws_heldInt64S.f k bt726.2 1).bind fun t728 => (if t728 < 0 then (some false) else (if t728 = bt726.1 then ((laws_toSea.f k w h l).bind fun bt729 => ((laws_toInt64S.f k fl).bind fun t734 => ((laws_toInt64S.f k cs).bind fun t737 => ((impl_AnswersOf.f k bt729.1 bt729.2.1 bt729.2.2 t734 t737).bind fun bt740 => ((laws_eqInt64S.f k bt740.1 x).bind fun t744 => (if t744 = true then (laws_FnExactAnswersOf.j2 k bt726.2 bt726.1 (bt740.2 != c)) else (laws_FnExactAnswersOf.j2 k bt726.2 bt726.1 true))))))) else (some false))))) (fun k => ?_) ?_
    · simp only [laws_FnExactAnswersOf.j1]; rw [if_neg (by simp)]
    · refine Ev.bind hMx (Ev.bind hHx ?_)
      refine Ev.congr (fun k => by rw [if_neg (by omega), if_pos rfl]) ?_
      refine Ev.bind hT (Ev.bind hF (Ev.bind hC (Ev.bind ei (Ev.bind hq ?_))))
      exact Ev.congr (fun k => by rw [if_pos rfl]; simp only [hc]) hj2
  refine Ev.bind hT (Ev.bind hF (Ev.bind hC (Ev.bind es (Ev.bind hT (Ev.bind hF (Ev.bind hC (Ev.bind ei (Ev.bind hq ?_))))))))
  refine Ev.congr (f := fun k => laws_FnExactAnswersOf.j0 k fl cs x c fl cs x c false w h l w h l) (fun k => by rw [if_pos rfl]; simp only [hc]) ?_
  refine Ev.step (f := fun k => (laws_toSea.f k w h l).bind fun bt705 => ((laws_eqSea.f k w h l bt705.1 bt705.2.1 bt705.2.2).bind fun t710 => (if t710 = true then ((laws_toInt64S.f k fl).bind fun t711 => ((laws_eqInt64S.f k fl t711).bind fun t714 => (if t714 = true then ((laws_toInt64S.f k cs).bind fun t715 => ((laws_eqInt64S.f k cs t715).bind fun t718 => (if t718 = true then ((laws_markSea.f k w h l 1).bind fun bt719 => ((laws_markInt64S.f k fl bt719.1).bind fun bt721 => ((laws_markInt64S.f k cs bt721.1).bind fun bt723 => (if bt723.1 < 0 then (laws_FnExactAnswersOf.j1 k fl cs x c x true w h l) else ((laws_eqInt64S.f k x x).bind fun t725 => (if t725 = true then (laws_FnExactAnswersOf.j1 k fl cs x c x (c != c) w h l) else (laws_FnExactAnswersOf.j1 k fl cs x c x true w h l))))))) else (some false)))) else (some false)))) else (some false)))) (fun k => ?_) ?_
  · simp only [laws_FnExactAnswersOf.j0]; rw [if_neg (by simp)]
  · refine Ev.bind hT (Ev.bind (eqSea_self w h l h1) ?_)
    refine Ev.congr (fun k => by rw [if_pos rfl]) ?_
    refine Ev.bind hF (Ev.bind hqf ?_)
    refine Ev.congr (fun k => by rw [if_pos rfl]) ?_
    refine Ev.bind hC (Ev.bind hqc ?_)
    refine Ev.congr (fun k => by rw [if_pos rfl]) ?_
    refine Ev.bind (markSea_ev w h l h1) (Ev.bind hMf (Ev.bind hMc ?_))
    refine Ev.congr (fun k => by rw [if_neg (by omega)]) (Ev.bind hq ?_)
    exact Ev.congr (fun k => by rw [if_pos rfl]; simp only [hc]) hj1

end Go.Proofs.Ytiancdhpdjmacaa.Pure
