
import Derived.Test.YtiancdhpdjmacaaKFnExactCountAgreeing5
namespace Go.Proofs.Ytiancdhpdjmacaa.Pure
open Go.RowKit Go.Proofs.Ytiancdhpdjmacaa.F Go.Proofs.YtiancdhpdjmacaaW.PrintWords Go.Proofs.YtiancdhpdjmacaaW.PrintLast Go.Proofs.YtiancdhpdjmacaaW.PrintMore
theorem countAgreeing_both (w h : Int) (l : List Int) (T : List S93) (hl : l.length ≤ 1048576) (hT : T.length ≤ 1048576) : ∃ r : Int × Int, Ev (fun k => spec_CountAgreeing.f k w h l T) r ∧ Ev (fun k => impl_CountAgreeing.f k w h l T) r := by
  have e1 := specShotsCode_ev w h l T hl hT
  have i1 := implShotsCode_ev w h l T hl hT
  unfold spec_CountAgreeing.f impl_CountAgreeing.f
  by_cases hz : shotsV w h l T = 0
  · obtain ⟨hs, _, hi⟩ := shotsV_zero hz
    rw [hz] at e1 i1
    have hsh : impl_Sea_shares.f w h l T = some (((agreeing (fleetsOf w h l) T).length : Int), sharesV (w.toNat * h.toNat) (agreeing (fleetsOf w h l) T)) := by
      unfold impl_Sea_shares.f
      rw [if_pos ⟨hs, hi, hT⟩]
    refine ⟨(((agreeing (fleetsOf w h l) T).length : Int), 0), Ev.bind e1 (Ev.congr (f := fun _ => some (((agreeing (fleetsOf w h l) T).length : Int), 0)) (fun k => ?_) (Ev.now _)), Ev.bind i1 (Ev.congr (fun k => by rw [if_pos rfl, hsh, Option.bind_some]) (Ev.now _))⟩
    rw [if_pos rfl, if_pos ⟨hs, hi, hT⟩, goFleets_all hs T]
    rfl
  · exact ⟨(0, shotsV w h l T), Ev.bind e1 (Ev.congr (fun k => by rw [if_neg hz]) (Ev.now _)), Ev.bind i1 (Ev.congr (fun k => by rw [if_neg hz]) (Ev.now _))⟩
theorem szSea_ev2 (w h : Int) (l : List Int) (hl : l.length ≤ maxLen) : ∃ v, laws_szSea.f w h l 1048576 = some v ∧ (v = -1 ∨ 0 ≤ v ∧ v ≤ 1048576 ∧ l.length ≤ 1048576) := by
  unfold laws_szSea.f
  rw [szInt64S_val l 1048576 hl (by omega) (by omega), Option.bind_some]
  by_cases h : (1048576 : Int) < l.length
  · rw [if_pos h]; exact ⟨-1, rfl, .inl rfl⟩
  · rw [if_neg h, if_neg (by omega)]; exact ⟨_, rfl, .inr ⟨by omega, by omega, by omega⟩⟩
/- For every sea and every list of shots, and whatever is none, the program's CountAgreeing answers what the reference's answers, and leaves its arguments as they were. Under no condition. -/
theorem FnExactCountAgreeing : laws_FnExactCountAgreeing.Pure := by
  intro w h l sh _ _ hl hsh
  refine Ev.rounds (?_ : Ev (fun k => laws_FnExactCountAgreeing.f k w h l sh) true)
  unfold laws_FnExactCountAgreeing.f
  obtain ⟨v, hv, hh⟩ := szSea_ev2 w h l hl.1
  rw [hv]
  rcases hh with rfl | ⟨h0, h00, h1⟩
  · exact Ev.now _
  refine Ev.congr (fun k => by rw [Option.bind_some, if_neg (by omega)]) ?_
  have hml : sh.length ≤ maxLen := hsh.1
  have hmx : maxLen ≤ 9223372036854775807 := by simp [maxLen]
  have hww : wrap64 (v - (sh.length : Int)) = v - (sh.length : Int) := by unfold wrap64; omega
  unfold laws_szShotS.f
  by_cases hbig2 : wrap64 (v - (sh.length : Int)) < 0
  · refine Ev.congr (f := fun _ => some true) (fun k => ?_) (Ev.now _)
    rw [if_pos hbig2, Option.bind_some, if_pos (by omega)]
  have hsl : sh.length ≤ 1048576 := by omega
  refine Ev.congr (fun k => by rw [if_neg hbig2, Option.bind_some, if_neg hbig2]) ?_
  clear hww hbig2
  have hml2 : (sh.map shotOf).length ≤ 1048576 := by rw [List.length_map]; exact hsl
  obtain ⟨⟨b, c⟩, es, ei⟩ := countAgreeing_both w h l (sh.map shotOf) h1 hml2
  have hT := toSea_ev w h l h1
  have hS := toShotS_ev sh hsl
  have hqs := eqShotS_self (sh.map shotOf) hml2
  generalize sh.map shotOf = T at es ei hS hqs hml2
  have hc : (c != c) = false := by simp
  refine Ev.bind hT (Ev.bind hS (Ev.bind es (Ev.bind hT (Ev.bind hS (Ev.bind ei ?_)))))
  refine Ev.congr (f := fun k => laws_FnExactCountAgreeing.j0 k sh T false w h l w h l) (fun k => by simp only [hc, if_true]) ?_
  refine Ev.step (f := fun k => (laws_toSea.f k w h l).bind fun bt861 => ((laws_eqSea.f k w h l bt861.1 bt861.2.1 bt861.2.2).bind fun t866 => (if t866 = true then ((laws_toShotS.f k sh).bind fun t871 => ((laws_eqShotS.f k T t871).bind fun t874 => (if t874 = true then (some true) else (some false)))) else (some false)))) (fun k => ?_) ?_
  · simp only [laws_FnExactCountAgreeing.j0]; rw [if_neg (by simp)]
  · refine Ev.bind hT (Ev.bind (eqSea_self w h l h1) ?_)
    refine Ev.congr (fun k => by rw [if_pos rfl]) ?_
    refine Ev.bind hS (Ev.bind hqs ?_)
    exact Ev.congr (f := fun _ => some true) (fun k => by rw [if_pos rfl]) (Ev.now _)

end Go.Proofs.Ytiancdhpdjmacaa.Pure
