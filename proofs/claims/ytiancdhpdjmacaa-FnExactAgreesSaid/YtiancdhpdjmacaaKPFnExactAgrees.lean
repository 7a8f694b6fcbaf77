
import Derived.Test.YtiancdhpdjmacaaKFnExactAgrees5
namespace Go.Proofs.Ytiancdhpdjmacaa.Pure
open Go.RowKit Go.Proofs.Ytiancdhpdjmacaa.F Go.Proofs.YtiancdhpdjmacaaW.PrintWords Go.Proofs.YtiancdhpdjmacaaW.PrintLast Go.Proofs.YtiancdhpdjmacaaW.PrintMore
theorem agrees_both (w h : Int) (l fl : List Int) (T : List S93) (hl : l.length ≤ 1048576) (hT : T.length ≤ 1048576) : ∃ r : Bool × Int, Ev (fun k => spec_Agrees.f k w h l fl T) r ∧ Ev (fun k => impl_Agrees.f k w h l fl T) r := by
  have e1 := specCode_ev w h l fl hl
  have i1 := implIsSea_ev w h l (by omega)
  have s1 := l09Is_ev w h l (by omega)
  unfold spec_Agrees.f impl_Agrees.f
  cases hs : seaV w h l with
  | false =>
    have h1 : codeV w h l fl = 1 := by unfold codeV; rw [hs, if_neg (by simp)]
    rw [h1] at e1
    rw [hs] at i1
    exact ⟨(false, 1), Ev.bind e1 (Ev.congr (f := fun _ => some (false, 1)) (fun k => by rw [if_neg (by decide)]) (Ev.now _)), Ev.bind i1 (Ev.congr (f := fun _ => some (false, 1)) (fun k => by rw [if_neg (by simp)]) (Ev.now _))⟩
  | true =>
    obtain ⟨⟨wn, rfl, hw1, hw5⟩, ⟨hn', rfl, hh1, hh5⟩, _, h3⟩ := seaV_nat hs
    have i2 := implFleet_ev ⟨hw1, hw5⟩ ⟨hh1, hh5⟩ l fl h3 (sea_ships hs)
    have hcode : codeV (wn : Int) (hn' : Int) l fl = if fleetV wn hn' l fl = true then 0 else 2 := by
      unfold codeV
      rw [hs, if_pos rfl]
      simp only [Int.toNat_natCast]
    rw [hs] at i1 s1
    cases hf : fleetV wn hn' l fl with
    | false =>
      rw [hf, if_neg (by simp)] at hcode
      rw [hcode] at e1
      rw [hf] at i2
      exact ⟨(false, 2), Ev.bind e1 (Ev.congr (f := fun _ => some (false, 2)) (fun k => by rw [if_neg (by decide)]) (Ev.now _)), Ev.bind i1 (Ev.congr (fun k => by rw [if_pos rfl]) (Ev.bind i2 (Ev.congr (f := fun _ => some (false, 2)) (fun k => by rw [if_neg (by simp)]) (Ev.now _))))⟩
    | true =>
      rw [hf, if_pos rfl] at hcode
      obtain ⟨wn2, hn2, ew, eh, _, _, _, _, _, hfl, hnum⟩ := code_zero hcode
      have ew' : wn2 = wn := by omega
      have eh' : hn2 = hn' := by omega
      subst ew' eh'
      rw [hcode] at e1
      rw [hf] at i2
      obtain ⟨N, hNe⟩ : ∃ N, wn2 * hn2 = N := ⟨_, rfl⟩
      have hN : N ≤ 25 := by rw [← hNe]; exact place_small_ hw5 hh5
      have e3 := specShots_ev hNe hN l T hT
      have i3 := implShots_ev hNe hN l T hT
      have e4 : Ev (fun k => spec_l09Shots.f k (wn2 : Int) (hn2 : Int) l T) (if shotsOk N T = true then 0 else 2) := by
        unfold spec_l09Shots.f
        exact Ev.bind s1 (Ev.congr (fun k => by rw [if_pos rfl]) e3)
      cases hsh : shotsOk N T with
      | false =>
        rw [hsh] at e4 i3
        rw [if_neg (by simp)] at e4
        exact ⟨(false, 2), Ev.bind e1 (Ev.congr (fun k => by rw [if_pos rfl]) (Ev.bind e4 (Ev.congr (f := fun _ => some (false, 2)) (fun k => by rw [if_neg (by decide)]) (Ev.now _)))), Ev.bind i1 (Ev.congr (fun k => by rw [if_pos rfl]) (Ev.bind i2 (Ev.congr (fun k => by rw [if_pos rfl]) (Ev.bind i3 (Ev.congr (f := fun _ => some (false, 2)) (fun k => by rw [if_neg (by simp)]) (Ev.now _))))))⟩
      | true =>
        rw [hsh] at e4 i3
        rw [if_pos rfl] at e4
        have hdl : diffL N 0 (T.map fun x => x.f0) = true := by
          unfold shotsOk at hsh
          simp only [Bool.and_eq_true] at hsh
          exact hsh.2
        have hin := ((diffL_iff N _ 0).1 hdl).1
        have hsc : SeaCells (T.map fun x => x.f0) := fun x hx => by have := hin x hx; omega
        have hnf : NumFleet fl := fun x hx => by
          obtain ⟨m, e, hm⟩ := hnum x hx
          rw [hNe] at hm
          exact ⟨m, e, Nat.lt_of_lt_of_le hm (Nat.le_trans (Nat.pow_le_pow_right (by omega) hN) (by simp))⟩
        have e5 := specAgrees_ev hnf (by omega) T hT hsc
        have i5 := implAgrees_ev hnf (by omega) T hT hsc
        exact ⟨(agFrom fl 0 T, 0), Ev.bind e1 (Ev.congr (fun k => by rw [if_pos rfl]) (Ev.bind e4 (Ev.congr (fun k => by rw [if_pos rfl]) (Ev.bind e5 (Ev.now (agFrom fl 0 T, (0 : Int))))))), Ev.bind i1 (Ev.congr (fun k => by rw [if_pos rfl]) (Ev.bind i2 (Ev.congr (fun k => by rw [if_pos rfl]) (Ev.bind i3 (Ev.congr (fun k => by rw [if_pos rfl]) (Ev.bind i5 (Ev.now (agFrom fl 0 T, (0 : Int)))))))))⟩
theorem szSea_ev2 (w h : Int) (l : List Int) (hl : l.length ≤ maxLen) : ∃ v, laws_szSea.f w h l 1048576 = some v ∧ (v = -1 ∨ 0 ≤ v ∧ v ≤ 1048576 ∧ l.length ≤ 1048576) := by
  unfold laws_szSea.f
  rw [szInt64S_val l 1048576 hl (by omega) (by omega), Option.bind_some]
  by_cases h : (1048576 : Int) < l.length
  · rw [if_pos h]; exact ⟨-1, rfl, .inl rfl⟩
  · rw [if_neg h, if_neg (by omega)]; exact ⟨_, rfl, .inr ⟨by omega, by omega, by omega⟩⟩
/- For every sea, every list of numbers and every list of shots, and whatever is none, the program's Agrees answers what the reference's answers, and leaves its arguments as they were. Under no condition. -/
theorem FnExactAgrees : laws_FnExactAgrees.Pure := by
  intro w h l fl sh _ _ hl hf hsh
  refine Ev.rounds (?_ : Ev (fun k => laws_FnExactAgrees.f k w h l fl sh) true)
  unfold laws_FnExactAgrees.f
  by_cases hbig : (fl.length : Int) > 1048576
  · exact Ev.congr (f := fun _ => some true) (fun k => by rw [if_pos hbig]) (Ev.now _)
  refine Ev.congr (fun k => by rw [if_neg hbig]) ?_
  obtain ⟨v, hv, hh⟩ := szSea_ev2 w h l hl.1
  rw [hv]
  rcases hh with rfl | ⟨h0, h00, h1⟩
  · exact Ev.now _
  refine Ev.congr (fun k => by rw [Option.bind_some, if_neg (by omega)]) ?_
  have hml : sh.length ≤ maxLen := hsh.1
  have hmx : maxLen ≤ 9223372036854775807 := by simp [maxLen]
  have hww : wrap64 (v - (sh.length : Int)) = v - (sh.length : Int) := by unfold wrap64; omega
  unfold laws_szShotS.f
  by_cases hbig2 : wrap64 (v - (sh.length : Int)) < 0
  · refine Ev.congr (f := fun _ => some true) (fun k => ?_) (Ev.now _)
    rw [if_pos hbig2, Option.bind_some, if_pos (by omega)]
  have hsl : sh.length ≤ 1048576 := by omega
  refine Ev.congr (fun k => by rw [if_neg hbig2, Option.bind_some, if_neg hbig2]) ?_
  clear hww hbig2
  have hml2 : (sh.map shotOf).length ≤ 1048576 := by rw [List.length_map]; exact hsl
  obtain ⟨⟨b, c⟩, es, ei⟩ := agrees_both w h l fl (sh.map shotOf) h1 hml2
  have hT := toSea_ev w h l h1
  have hF := toInt64S_ev fl (by omega)
  have hS := toShotS_ev sh hsl
  have hqf := eqInt64S_self fl (by omega)
  have hqs := eqShotS_self (sh.map shotOf) hml2
  generalize sh.map shotOf = T at es ei hS hqs hml2
  have hb : (b != b) = false := by simp
  have hc : (c != c) = false := by simp
  refine Ev.bind hT (Ev.bind hF (Ev.bind hS (Ev.bind es (Ev.bind hT (Ev.bind hF (Ev.bind hS (Ev.bind ei ?_)))))))
  refine Ev.congr (f := fun k => laws_FnExactAgrees.j0 k fl sh fl T false w h l w h l) (fun k => by simp only [hb, hc]; rw [if_neg (by simp)]) ?_
  refine Ev.step (f := fun k => (laws_toSea.f k w h l).bind fun bt861 => ((laws_eqSea.f k w h l bt861.1 bt861.2.1 bt861.2.2).bind fun t866 => (if t866 = true then ((laws_toInt64S.f k fl).bind fun t867 => ((laws_eqInt64S.f k fl t867).bind fun t870 => (if t870 = true then ((laws_toShotS.f k sh).bind fun t871 => ((laws_eqShotS.f k T t871).bind fun t874 => (if t874 = true then (some true) else (some false)))) else (some false)))) else (some false)))) (fun k => ?_) ?_
  · simp only [laws_FnExactAgrees.j0]; rw [if_neg (by simp)]
  · refine Ev.bind hT (Ev.bind (eqSea_self w h l h1) ?_)
    refine Ev.congr (fun k => by rw [if_pos rfl]) ?_
    refine Ev.bind hF (Ev.bind hqf ?_)
    refine Ev.congr (fun k => by rw [if_pos rfl]) ?_
    refine Ev.bind hS (Ev.bind hqs ?_)
    exact Ev.congr (f := fun _ => some true) (fun k => by rw [if_pos rfl]) (Ev.now _)

end Go.Proofs.Ytiancdhpdjmacaa.Pure
