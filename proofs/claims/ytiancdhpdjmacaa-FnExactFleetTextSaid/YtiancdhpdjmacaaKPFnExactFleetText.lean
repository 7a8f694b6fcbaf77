
import Derived.Test.YtiancdhpdjmacaaKFnExactFleetText5
namespace Go.Proofs.Ytiancdhpdjmacaa.Pure
open Go.RowKit Go.Proofs.Ytiancdhpdjmacaa.F Go.Proofs.YtiancdhpdjmacaaW.PrintWords Go.Proofs.YtiancdhpdjmacaaW.PrintLast Go.Proofs.YtiancdhpdjmacaaW.PrintMore
theorem fleetText_both (w h : Int) (l fl : List Int) (hl : l.length ≤ 1048576) : ∃ r : ByteArray × Int, Ev (fun k => spec_FleetText.f k w h l fl) r ∧ Ev (fun k => impl_FleetText.f k w h l fl) r := by
  have e1 := specCode_ev w h l fl hl
  have i1 := implCode_ev w h l fl hl
  unfold spec_FleetText.f impl_FleetText.f
  by_cases hz : codeV w h l fl = 0
  · have hs : seaV w h l = true := by
      unfold codeV at hz
      by_cases hs : seaV w h l = true
      · exact hs
      · rw [if_neg hs] at hz; cases hz
    have hv : fleetV w.toNat h.toNat l fl = true := by
      unfold codeV at hz
      rw [if_pos hs] at hz
      by_cases hv : fleetV w.toNat h.toNat l fl = true
      · exact hv
      · rw [if_neg hv] at hz; cases hz
    obtain ⟨wn, hn, rfl, rfl, hw1, hw5, hh1, hh5, hl3, hfl, hnum⟩ := code_zero hz
    simp only [Int.toNat_natCast] at hv ⊢
    have h25 : 2 ^ (wn * hn) ≤ 33554432 := Nat.le_trans (Nat.pow_le_pow_right (by omega) (place_small_ hw5 hh5)) (by simp)
    have hnum2 : ∀ x ∈ fl, ∃ m : Nat, x = (m : Int) ∧ m < 33554432 := fun x hx => by
      obtain ⟨m, e, hm⟩ := hnum x hx
      exact ⟨m, e, Nat.lt_of_lt_of_le hm h25⟩
    have et := text_ev ⟨hw1, hw5⟩ ⟨hh1, hh5⟩ hv hnum2 (by omega)
    rw [← textV_eq (by omega) (by omega) fl] at et
    rw [hz] at e1 i1
    refine ⟨(textV wn hn fl, 0), Ev.bind e1 (Ev.congr (fun k => by rw [if_pos rfl]) (Ev.bind et (Ev.now _))), Ev.bind i1 (Ev.congr (f := fun _ => some (textV wn hn fl, 0)) (fun k => ?_) (Ev.now _))⟩
    rw [if_pos rfl, if_pos ⟨hs, by omega⟩]
  · exact ⟨((⟨#[]⟩ : ByteArray), codeV w h l fl), Ev.bind e1 (Ev.congr (fun k => by rw [if_neg hz]) (Ev.now _)), Ev.bind i1 (Ev.congr (fun k => by rw [if_neg hz]) (Ev.now _))⟩
/- For every sea and every list of numbers, and whatever is none, the program's FleetText answers what the reference's answers, and leaves its arguments as they were. Under no condition. -/
theorem FnExactFleetText : laws_FnExactFleetText.Pure := by
  intro w h l fl _ _ hl hf
  refine Ev.rounds (?_ : Ev (fun k => laws_FnExactFleetText.f k w h l fl) true)
  unfold laws_FnExactFleetText.f
  by_cases hbig : (fl.length : Int) > 1048576
  · exact Ev.congr (f := fun _ => some true) (fun k => by rw [if_pos hbig]) (Ev.now _)
  refine Ev.congr (fun k => by rw [if_neg hbig]) ?_
  obtain ⟨v, hv, hh⟩ := szSea_ev w h l hl.1
  rw [hv]
  rcases hh with rfl | ⟨h0, h1⟩
  · exact Ev.now _
  refine Ev.congr (fun k => by rw [Option.bind_some, if_neg (by omega)]) ?_
  obtain ⟨⟨b, c⟩, es, ei⟩ := fleetText_both w h l fl h1
  have hT := toSea_ev w h l h1
  have hF := toInt64S_ev fl (by omega)
  have hc : (c != c) = false := by simp
  refine Ev.bind hT (Ev.bind hF (Ev.bind es (Ev.bind hT (Ev.bind hF (Ev.bind ei (Ev.congr (f := fun k => laws_FnExactFleetText.j0 k fl fl false w h l w h l) (fun k => by simp only [hc, if_true]) ?_))))))
  refine Ev.step (f := fun k => (laws_toSea.f k w h l).bind fun bt448 => ((laws_eqSea.f k w h l bt448.1 bt448.2.1 bt448.2.2).bind fun t453 => (if t453 = true then ((laws_toInt64S.f k fl).bind fun t454 => ((laws_eqInt64S.f k fl t454).bind fun t457 => (if t457 = true then (some true) else (some false)))) else (some false)))) (fun k => ?_) ?_
  · simp only [laws_FnExactFleetText.j0]; rw [if_neg (by simp)]
  · refine Ev.bind hT (Ev.bind (eqSea_self w h l h1) (Ev.congr (fun k => by rw [if_pos rfl]) (Ev.bind hF (Ev.bind (eqInt64S_self fl (by omega)) ?_))))
    exact Ev.congr (f := fun _ => some true) (fun k => by rw [if_pos rfl]) (Ev.now _)

end Go.Proofs.Ytiancdhpdjmacaa.Pure
