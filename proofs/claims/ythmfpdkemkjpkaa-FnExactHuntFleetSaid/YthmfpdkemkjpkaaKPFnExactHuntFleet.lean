
import Derived.Test.YthmfpdkemkjpkaaKFnExactHuntFleet8
namespace Go.Proofs.Ythmfpdkemkjpkaa.Pure
open Go.RowKit Go.Proofs.Ythmfpdkemkjpkaa.F Go.Proofs.YthmfpdkemkjpkaaW.PrintWords Go.Proofs.YthmfpdkemkjpkaaW.PrintLast Go.Proofs.YthmfpdkemkjpkaaW.PrintMore
theorem specHunt_step (k : Nat) (fl out : List Int) (S : List S45) (set w h : Int) (l : List Int) : spec_HuntFleet.l0 (k + 1) fl out S set w h l = (spec_l09Set.f k fl).bind fun t222 => (if (Go.bits .andNot .i64 t222 set) = 0 then (some (out, 0)) else ((spec_l09Best.f k w h l S).bind fun t223 => (if 0 ≤ (IntKind.u64.wrap (t223)) then ((spec_l09Answer.f k fl t223 (Go.bits .or .i64 set (shl .i64 1 (IntKind.u64.wrap (t223))))).bind fun t224 => (if S.length < 8796093022208 then (if out.length < 17592186044416 then (spec_HuntFleet.l0 k fl (out ++ [t223]) (S ++ [(⟨t223, t224⟩ : S45)]) (Go.bits .or .i64 set (shl .i64 1 (IntKind.u64.wrap (t223)))) w h l) else (none)) else (none))) else (none)))) := rfl
theorem implHunt_step (k : Nat) (fl out : List Int) (S : List S45) (set w h : Int) (l : List Int) : impl_HuntFleet.l0 (k + 1) fl out S set w h l = (impl_whole.f k fl).bind fun t431 => (if (Go.bits .andNot .i64 t431 set) = 0 then (some (out, 0)) else ((impl_Sea_best.f w h l S).bind fun t432 => (if out.length < 17592186044416 then ((impl_answer.f k fl set t432).bind fun t436 => (if S.length < 8796093022208 then (if 0 ≤ t432 then (impl_HuntFleet.l0 k fl (out ++ [t432]) (S ++ [(⟨t432, t436⟩ : S45)]) (Go.bits .or .i64 set (shl .i64 1 t432)) w h l) else (none)) else (none))) else (none)))) := by simp only [impl_HuntFleet.l0]
theorem hunt_both (w h : Int) (l fl : List Int) (hl : l.length ≤ 1048576) : ∃ r : List Int × Int, r.1.length ≤ 100 ∧ Ev (fun k => spec_HuntFleet.f k w h l fl) r ∧ Ev (fun k => impl_HuntFleet.f k w h l fl) r := by
  have e1 := specCode_ev w h l fl hl
  have i1 := implCode_ev w h l fl hl
  unfold spec_HuntFleet.f impl_HuntFleet.f
  by_cases hz : codeV w h l fl = 0
  · have hs : seaV w h l = true := by
      unfold codeV at hz
      by_cases hs : seaV w h l = true
      · exact hs
      · rw [if_neg hs] at hz; cases hz
    have hv : fleetV w.toNat h.toNat l fl = true := by
      unfold codeV at hz
      rw [if_pos hs] at hz
      by_cases hv : fleetV w.toNat h.toNat l fl = true
      · exact hv
      · rw [if_neg hv] at hz; cases hz
    have hfl : fl ∈ fleetsOf w h l := fleet_listed hv
    have eL := implList_ev hs hl
    have hm := goFleets_most hs
    have hgo : spec_l09Go.f w h l [] 0 [] 301 = some (goFleets w h l [] 301) := by
      unfold spec_l09Go.f
      rw [if_pos ⟨⟨rfl, rfl, by omega⟩, hs, rfl, by simp⟩]
    have hcz := code_zero hz
    rw [hz] at e1 i1
    by_cases hn : (fleetsOf w h l).length ≤ 300
    · rw [if_pos hn] at eL
      obtain ⟨wn, hn', ew, eh, hw1, hw5, hh1, hh5, hl3, hfll, hnum⟩ := hcz
      have eN : w.toNat * h.toNat = wn * hn' := by rw [ew, eh]; simp only [Int.toNat_natCast]
      have hN : w.toNat * h.toNat ≤ 25 := by rw [eN]; exact place_small_ hw5 hh5
      rw [← eN] at hnum
      have hnf : NumFleet fl := fun x hx => by
        obtain ⟨m, e, hm⟩ := hnum x hx
        exact ⟨m, e, Nat.lt_of_lt_of_le hm (Nat.le_trans (Nat.pow_le_pow_right (by omega) hN) (by simp))⟩
      obtain ⟨V, hV, hVb⟩ := orAll_nat hN fl 0 (Nat.two_pow_pos _) hnum
      have hV' : orAll fl = (V : Int) := hV
      have e3 := specSet_ev fl (by omega)
      have e4 := implWhole_ev fl (by omega)
      rw [hV'] at e3 e4
      have hflen : fl.length ≤ 1000 := by omega
      have hends := hunt_ends hs hfl hVb hN (fun k S set out => spec_HuntFleet.l0 k fl out S set w h l) (fun k S set out => impl_HuntFleet.l0 k fl out S set w h l)
        (fun S set out h0 => Ev.step (fun k => specHunt_step k fl out S set w h l) (Ev.bind e3 (Ev.congr (f := fun _ => some (out, 0)) (fun k => by rw [if_pos h0]) (Ev.now _))))
        (fun S set out h0 => Ev.step (fun k => implHunt_step k fl out S set w h l) (Ev.bind e4 (Ev.congr (f := fun _ => some (out, 0)) (fun k => by rw [if_pos h0]) (Ev.now _))))
        (fun S set out c r hSl hol h0 hc eb hor er => by
          have hu := u64_nat c (by omega)
          have ea := specAns_ev hnf hflen c hc ((set ||| 2 ^ c : Nat) : Int)
          refine Ev.step (fun k => specHunt_step k fl out S set w h l) (Ev.bind e3 ?_)
          refine Ev.congr (fun k => by rw [if_neg h0]) (Ev.bind eb ?_)
          refine Ev.congr (fun k => by rw [hu, if_pos (by omega), hor]) (Ev.bind ea ?_)
          exact Ev.congr (fun k => by rw [if_pos (by omega), if_pos (by omega)]) er)
        (fun S set out c r hSl hol h0 hc ib hor er => by
          have ea := implAns_ev hnf hflen c hc (set : Int)
          rw [hor] at ea
          refine Ev.step (fun k => implHunt_step k fl out S set w h l) (Ev.bind e4 ?_)
          refine Ev.congr (fun k => by rw [if_neg h0, ib, Option.bind_some, if_pos (by omega)]) (Ev.bind ea ?_)
          exact Ev.congr (fun k => by rw [if_pos (by omega), if_pos (by omega), hor]) er)
        _ 0 [] [] (Nat.le_refl _) (shots_none _) rfl rfl (by have := leftOf_le (w.toNat * h.toNat) 0; simp only [List.length_nil]; omega) rfl
      obtain ⟨o, ho, es, ei⟩ := hends
      have es : Ev (fun k => spec_HuntFleet.l0 k fl [] [] 0 w h l) (o, 0) := es
      have ei : Ev (fun k => impl_HuntFleet.l0 k fl [] [] 0 w h l) (o, 0) := ei
      refine ⟨(o, 0), by show o.length ≤ 100; omega, Ev.bind e1 (Ev.congr (fun k => by rw [if_pos rfl, hgo, Option.bind_some, hm.1 hn, if_neg (by omega)]) es), Ev.bind i1 (Ev.congr (fun k => by rw [if_pos rfl]) (Ev.bind eL ?_))⟩
      exact Ev.step (fun k => by rw [impl_HuntFleet.j0, if_pos rfl]) ei
    · rw [if_neg hn] at eL
      have h3 := hm.2 hn
      refine ⟨([], 3), by simp, Ev.bind e1 (Ev.congr (f := fun _ => some ([], 3)) (fun k => by rw [if_pos rfl, hgo, Option.bind_some, if_pos (by omega)]) (Ev.now _)), Ev.bind i1 (Ev.congr (fun k => by rw [if_pos rfl]) (Ev.bind eL ?_))⟩
      exact Ev.step (f := fun _ => some ([], 3)) (fun k => by rw [impl_HuntFleet.j0, if_neg (by omega)]) (Ev.now _)
  · refine ⟨([], codeV w h l fl), by simp, Ev.bind e1 (Ev.congr (fun k => by rw [if_neg hz]) (Ev.now _)), Ev.bind i1 (Ev.congr (fun k => by rw [if_neg hz]) ?_)⟩
    exact Ev.step (f := fun _ => some ([], codeV w h l fl)) (fun k => by rw [impl_HuntFleet.j0, if_neg hz]) (Ev.now _)
/- For every sea and every list of numbers, and whatever is none, the program's HuntFleet answers what the reference's answers, in memory of its own, and leaves its arguments as they were. Under no condition. -/
theorem FnExactHuntFleet : laws_FnExactHuntFleet.Pure := by
  intro w h l fl _ _ hl hf
  refine Ev.rounds (?_ : Ev (fun k => laws_FnExactHuntFleet.f k w h l fl) true)
  unfold laws_FnExactHuntFleet.f
  by_cases hbig : (fl.length : Int) > 1048576
  · exact Ev.congr (f := fun _ => some true) (fun k => by rw [if_pos hbig]) (Ev.now _)
  refine Ev.congr (fun k => by rw [if_neg hbig]) ?_
  obtain ⟨v, hv, hh⟩ := szSea_ev w h l hl.1
  rw [hv]
  rcases hh with rfl | ⟨h0, h1⟩
  · exact Ev.now _
  refine Ev.congr (fun k => by rw [Option.bind_some, if_neg (by omega)]) ?_
  obtain ⟨⟨x, c⟩, hx, es, ei⟩ := hunt_both w h l fl h1
  have hx : x.length ≤ 100 := hx
  have hT := toSea_ev w h l h1
  have hF := toInt64S_ev fl (by omega)
  have hq := eqInt64S_self x (by omega)
  have hqf := eqInt64S_self fl (by omega)
  have hc : (c != c) = false := by simp
  have hHx := held_ev 1 (by omega) x.length (by omega)
  have hMx := mark_ev 1 (by omega) x (by omega)
  have hMf := mark_ev (1 + l.length) (by omega) fl (by omega)
  refine Ev.bind hT (Ev.bind hF (Ev.bind es (Ev.bind hT (Ev.bind hF (Ev.bind ei (Ev.bind hq (Ev.congr (f := fun k => laws_FnExactHuntFleet.j0 k fl x c fl x c false w h l w h l) (fun k => by rw [if_pos rfl]; simp only [hc]) ?_)))))))
  have hj2 : Ev (fun k => laws_FnExactHuntFleet.j2 k (countUp 1 x.length) (1 + x.length) false) true := by
    refine Ev.step (f := fun k => (laws_heldInt64S.f k (countUp 1 x.length) 1).bind fun t641 => (if t641 < 0 then (some false) else (if t641 = 1 + x.length then (some true) else (some false)))) (fun k => ?_) ?_
    · simp only [laws_FnExactHuntFleet.j2]; rw [if_neg (by simp)]
    · refine Ev.bind hHx ?_
      exact Ev.congr (f := fun _ => some true) (fun k => by rw [if_neg (by omega), if_pos rfl]) (Ev.now _)
  have hj1 : Ev (fun k => laws_FnExactHuntFleet.j1 k fl x c x false w h l) true := by
    refine Ev.step (f := fun k => (laws_markInt64S.f k x 1).bind fun bt625 => ((laws_heldInt64S.f k bt625.2 1).bind fun t627 => (if t627 < 0 then (some false) else (if t627 = bt625.1 then ((laws_toSea.f k w h l).bind fun bt628 => ((laws_toInt64S.f k fl).bind fun t633 => ((impl_HuntFleet.f k bt628.1 bt628.2.1 bt628.2.2 t633).bind fun bt636 => ((laws_eqInt64S.f k bt636.1 x).bind fun t640 => (if t640 = true then (laws_FnExactHuntFleet.j2 k bt625.2 bt625.1 (bt636.2 != c)) else (laws_FnExactHuntFleet.j2 k bt625.2 bt625.1 true)))))) else (some false))))) (fun k => ?_) ?_
    · simp only [laws_FnExactHuntFleet.j1]; rw [if_neg (by simp)]
    · refine Ev.bind hMx (Ev.bind hHx (Ev.congr (fun k => by rw [if_neg (by omega), if_pos rfl]) (Ev.bind hT (Ev.bind hF (Ev.bind ei (Ev.bind hq ?_))))))
      exact Ev.congr (fun k => by rw [if_pos rfl]; simp only [hc]) hj2
  refine Ev.step (f := fun k => (laws_toSea.f k w h l).bind fun bt610 => ((laws_eqSea.f k w h l bt610.1 bt610.2.1 bt610.2.2).bind fun t615 => (if t615 = true then ((laws_toInt64S.f k fl).bind fun t616 => ((laws_eqInt64S.f k fl t616).bind fun t619 => (if t619 = true then ((laws_markSea.f k w h l 1).bind fun bt620 => ((laws_markInt64S.f k fl bt620.1).bind fun bt622 => (if bt622.1 < 0 then (laws_FnExactHuntFleet.j1 k fl x c x true w h l) else ((laws_eqInt64S.f k x x).bind fun t624 => (if t624 = true then (laws_FnExactHuntFleet.j1 k fl x c x (c != c) w h l) else (laws_FnExactHuntFleet.j1 k fl x c x true w h l)))))) else (some false)))) else (some false)))) (fun k => ?_) ?_
  · simp only [laws_FnExactHuntFleet.j0]; rw [if_neg (by simp)]
  · refine Ev.bind hT (Ev.bind (eqSea_self w h l h1) ?_)
    refine Ev.congr (fun k => by rw [if_pos rfl]) ?_
    refine Ev.bind hF (Ev.bind hqf ?_)
    refine Ev.congr (fun k => by rw [if_pos rfl]) ?_
    refine Ev.bind (markSea_ev w h l h1) (Ev.bind hMf ?_)
    refine Ev.congr (fun k => by rw [if_neg (by omega)]) (Ev.bind hq ?_)
    exact Ev.congr (fun k => by rw [if_pos rfl]; simp only [hc]) hj1

end Go.Proofs.Ythmfpdkemkjpkaa.Pure
