
import Derived.Test.YtiancdhpdjmacaaKFnExactBestCell6
namespace Go.Proofs.Ytiancdhpdjmacaa.Pure
open Go.RowKit Go.Proofs.Ytiancdhpdjmacaa.F Go.Proofs.YtiancdhpdjmacaaW.PrintWords Go.Proofs.YtiancdhpdjmacaaW.PrintLast Go.Proofs.YtiancdhpdjmacaaW.PrintMore
theorem bestCell_both (w h : Int) (l : List Int) (T : List S93) (hl : l.length ≤ 1048576) (hT : T.length ≤ 1048576) : ∃ r : Int × Int, Ev (fun k => spec_BestCell.f k w h l T) r ∧ Ev (fun k => impl_BestCell.f k w h l T) r := by
  have e1 := specShotsCode_ev w h l T hl hT
  have i1 := implShotsCode_ev w h l T hl hT
  unfold spec_BestCell.f impl_BestCell.f
  by_cases hz : shotsV w h l T = 0
  · obtain ⟨hs, hok, hi⟩ := shotsV_zero hz
    rw [hz] at e1 i1
    have hbi : impl_Sea_best.f w h l T = (impl_Sea_shares.f w h l T).bind fun s => some (bestV s.2 (openV (w.toNat * h.toNat) T fun _ => decide (s.1 > 0))) := rfl
    have hbs : ∀ k, spec_l09Best.f k w h l T = (spec_l09Shares.f w h l T).bind fun s => (spec_l09Open.f w h l T).bind fun o => spec_l09Best.l0 k s.1 s.2 o (-1) 0 := fun _ => rfl
    have hsh : impl_Sea_shares.f w h l T = some (((agreeing (fleetsOf w h l) T).length : Int), sharesV (w.toNat * h.toNat) (agreeing (fleetsOf w h l) T)) := by
      unfold impl_Sea_shares.f
      rw [if_pos ⟨hs, hi, hT⟩]
    have hss : spec_l09Shares.f w h l T = some (sharesV (w.toNat * h.toNat) (agreeing (fleetsOf w h l) T), ((agreeing (fleetsOf w h l) T).length : Int)) := by
      unfold spec_l09Shares.f
      rw [if_pos ⟨hs, hi, hT⟩]
    have hop : spec_l09Open.f w h l T = some (openB (w.toNat * h.toNat) T) := by
      unfold spec_l09Open.f
      rw [if_pos ⟨hs, shotsOk_below hs hok, hT⟩]
    have hN : w.toNat * h.toNat ≤ 25 := by
      obtain ⟨⟨wn, rfl, hw1, hw5⟩, ⟨hn', rfl, hh1, hh5⟩, _, h3⟩ := seaV_nat hs
      simp only [Int.toNat_natCast]
      exact place_small_ hw5 hh5
    have hll := sharesV_len (w.toNat * h.toNat) (agreeing (fleetsOf w h l) T)
    generalize w.toNat * h.toNat = N at *
    generalize sharesV N (agreeing (fleetsOf w h l) T) = list at *
    generalize ((agreeing (fleetsOf w h l) T).length : Int) = tot at *
    rw [hsh, Option.bind_some] at hbi
    have eb := best_ev hN list hll T tot
    have es : Ev (fun k => spec_l09Best.f k w h l T) (bestV list (openV N T fun _ => decide (tot > 0))) := Ev.congr (fun k => by rw [hbs k, hss, Option.bind_some, hop, Option.bind_some]) eb
    generalize bestV list (openV N T fun _ => decide (tot > 0)) = b at *
    by_cases hb : b < 0
    · exact ⟨(0, 4), Ev.bind e1 (Ev.congr (fun k => by rw [if_pos rfl]) (Ev.bind es (Ev.congr (f := fun _ => some (0, 4)) (fun k => by rw [if_pos hb]) (Ev.now _)))), Ev.bind i1 (Ev.congr (f := fun _ => some (0, 4)) (fun k => by rw [if_pos rfl, hbi, Option.bind_some, if_pos hb]) (Ev.now _))⟩
    · exact ⟨(b, 0), Ev.bind e1 (Ev.congr (fun k => by rw [if_pos rfl]) (Ev.bind es (Ev.congr (f := fun _ => some (b, 0)) (fun k => by rw [if_neg hb]) (Ev.now _)))), Ev.bind i1 (Ev.congr (f := fun _ => some (b, 0)) (fun k => by rw [if_pos rfl, hbi, Option.bind_some, if_neg hb]) (Ev.now _))⟩
  · exact ⟨(0, shotsV w h l T), Ev.bind e1 (Ev.congr (fun k => by rw [if_neg hz]) (Ev.now _)), Ev.bind i1 (Ev.congr (fun k => by rw [if_neg hz]) (Ev.now _))⟩
theorem szSea_ev2 (w h : Int) (l : List Int) (hl : l.length ≤ maxLen) : ∃ v, laws_szSea.f w h l 1048576 = some v ∧ (v = -1 ∨ 0 ≤ v ∧ v ≤ 1048576 ∧ l.length ≤ 1048576) := by
  unfold laws_szSea.f
  rw [szInt64S_val l 1048576 hl (by omega) (by omega), Option.bind_some]
  by_cases h : (1048576 : Int) < l.length
  · rw [if_pos h]; exact ⟨-1, rfl, .inl rfl⟩
  · rw [if_neg h, if_neg (by omega)]; exact ⟨_, rfl, .inr ⟨by omega, by omega, by omega⟩⟩
/- For every sea and every list of shots, and whatever is none, the program's BestCell answers what the reference's answers, and leaves its arguments as they were. Under no condition. -/
theorem FnExactBestCell : laws_FnExactBestCell.Pure := by
  intro w h l sh _ _ hl hsh
  refine Ev.rounds (?_ : Ev (fun k => laws_FnExactBestCell.f k w h l sh) true)
  unfold laws_FnExactBestCell.f
  obtain ⟨v, hv, hh⟩ := szSea_ev2 w h l hl.1
  rw [hv]
  rcases hh with rfl | ⟨h0, h00, h1⟩
  · exact Ev.now _
  refine Ev.congr (fun k => by rw [Option.bind_some, if_neg (by omega)]) ?_
  have hml : sh.length ≤ maxLen := hsh.1
  have hmx : maxLen ≤ 9223372036854775807 := by simp [maxLen]
  have hww : wrap64 (v - (sh.length : Int)) = v - (sh.length : Int) := by unfold wrap64; omega
  unfold laws_szShotS.f
  by_cases hbig2 : wrap64 (v - (sh.length : Int)) < 0
  · refine Ev.congr (f := fun _ => some true) (fun k => ?_) (Ev.now _)
    rw [if_pos hbig2, Option.bind_some, if_pos (by omega)]
  have hsl : sh.length ≤ 1048576 := by omega
  refine Ev.congr (fun k => by rw [if_neg hbig2, Option.bind_some, if_neg hbig2]) ?_
  clear hww hbig2
  have hml2 : (sh.map shotOf).length ≤ 1048576 := by rw [List.length_map]; exact hsl
  obtain ⟨⟨b, c⟩, es, ei⟩ := bestCell_both w h l (sh.map shotOf) h1 hml2
  have hT := toSea_ev w h l h1
  have hS := toShotS_ev sh hsl
  have hqs := eqShotS_self (sh.map shotOf) hml2
  generalize sh.map shotOf = T at es ei hS hqs hml2
  have hc : (c != c) = false := by simp
  refine Ev.bind hT (Ev.bind hS (Ev.bind es (Ev.bind hT (Ev.bind hS (Ev.bind ei ?_)))))
  refine Ev.congr (f := fun k => laws_FnExactBestCell.j0 k sh T false w h l w h l) (fun k => by simp only [hc, if_true]) ?_
  refine Ev.step (f := fun k => (laws_toSea.f k w h l).bind fun bt861 => ((laws_eqSea.f k w h l bt861.1 bt861.2.1 bt861.2.2).bind fun t866 => (if t866 = true then ((laws_toShotS.f k sh).bind fun t871 => ((laws_eqShotS.f k T t871).bind fun t874 => (if t874 = true then (some true) else (some false)))) else (some false)))) (fun k => ?_) ?_
  · simp only [laws_FnExactBestCell.j0]; rw [if_neg (by simp)]
  · refine Ev.bind hT (Ev.bind (eqSea_self w h l h1) ?_)
    refine Ev.congr (fun k => by rw [if_pos rfl]) ?_
    refine Ev.bind hS (Ev.bind hqs ?_)
    exact Ev.congr (f := fun _ => some true) (fun k => by rw [if_pos rfl]) (Ev.now _)

end Go.Proofs.Ytiancdhpdjmacaa.Pure
