
import Derived.Test.YtiancdhpdjmacaaKFnExactSharesOf6
namespace Go.Proofs.Ytiancdhpdjmacaa.Pure
open Go.RowKit Go.Proofs.Ytiancdhpdjmacaa.F Go.Proofs.YtiancdhpdjmacaaW.PrintWords Go.Proofs.YtiancdhpdjmacaaW.PrintLast Go.Proofs.YtiancdhpdjmacaaW.PrintMore
theorem sharesOf_both (w h : Int) (l : List Int) (T : List S93) (hl : l.length ≤ 1048576) (hT : T.length ≤ 1048576) : ∃ r : List Int × Int, r.1.length ≤ 25 ∧ Ev (fun k => spec_SharesOf.f k w h l T) r ∧ Ev (fun k => impl_SharesOf.f k w h l T) r := by
  have e1 := specShotsCode_ev w h l T hl hT
  have i1 := implShotsCode_ev w h l T hl hT
  unfold spec_SharesOf.f impl_SharesOf.f
  by_cases hz : shotsV w h l T = 0
  · obtain ⟨hs, _, hi⟩ := shotsV_zero hz
    rw [hz] at e1 i1
    have hsh : impl_Sea_shares.f w h l T = some (((agreeing (fleetsOf w h l) T).length : Int), sharesV (w.toNat * h.toNat) (agreeing (fleetsOf w h l) T)) := by
      unfold impl_Sea_shares.f
      rw [if_pos ⟨hs, hi, hT⟩]
    have hss : spec_l09Shares.f w h l T = some (sharesV (w.toNat * h.toNat) (agreeing (fleetsOf w h l) T), ((agreeing (fleetsOf w h l) T).length : Int)) := by
      unfold spec_l09Shares.f
      rw [if_pos ⟨hs, hi, hT⟩]
    have hlen : (sharesV (w.toNat * h.toNat) (agreeing (fleetsOf w h l) T)).length ≤ 25 := by
      obtain ⟨⟨wn, rfl, hw1, hw5⟩, ⟨hn', rfl, hh1, hh5⟩, _, h3⟩ := seaV_nat hs
      rw [sharesV_len]
      simp only [Int.toNat_natCast]
      exact place_small_ hw5 hh5
    exact ⟨(sharesV (w.toNat * h.toNat) (agreeing (fleetsOf w h l) T), 0), hlen, Ev.bind e1 (Ev.congr (fun k => by rw [if_pos rfl, hss, Option.bind_some]) (Ev.now _)), Ev.bind i1 (Ev.congr (fun k => by rw [if_pos rfl, hsh, Option.bind_some]) (Ev.now _))⟩
  · exact ⟨([], shotsV w h l T), Nat.zero_le _, Ev.bind e1 (Ev.congr (fun k => by rw [if_neg hz]) (Ev.now _)), Ev.bind i1 (Ev.congr (fun k => by rw [if_neg hz]) (Ev.now _))⟩
theorem szSea_ev2 (w h : Int) (l : List Int) (hl : l.length ≤ maxLen) : ∃ v, laws_szSea.f w h l 1048576 = some v ∧ (v = -1 ∨ 0 ≤ v ∧ v ≤ 1048576 ∧ l.length ≤ 1048576) := by
  unfold laws_szSea.f
  rw [szInt64S_val l 1048576 hl (by omega) (by omega), Option.bind_some]
  by_cases h : (1048576 : Int) < l.length
  · rw [if_pos h]; exact ⟨-1, rfl, .inl rfl⟩
  · rw [if_neg h, if_neg (by omega)]; exact ⟨_, rfl, .inr ⟨by omega, by omega, by omega⟩⟩
/- For every sea and every list of shots, and whatever is none, the program's SharesOf answers what the reference's answers, in memory of its own, and leaves its arguments as they were. Under no condition. -/
theorem FnExactSharesOf : laws_FnExactSharesOf.Pure := by
  intro w h l sh _ _ hl hsh
  refine Ev.rounds (?_ : Ev (fun k => laws_FnExactSharesOf.f k w h l sh) true)
  unfold laws_FnExactSharesOf.f
  obtain ⟨v, hv, hh⟩ := szSea_ev2 w h l hl.1
  rw [hv]
  rcases hh with rfl | ⟨h0, h00, h1⟩
  · exact Ev.now _
  refine Ev.congr (fun k => by rw [Option.bind_some, if_neg (by omega)]) ?_
  have hml : sh.length ≤ maxLen := hsh.1
  have hmx : maxLen ≤ 9223372036854775807 := by simp [maxLen]
  have hww : wrap64 (v - (sh.length : Int)) = v - (sh.length : Int) := by unfold wrap64; omega
  unfold laws_szShotS.f
  by_cases hbig2 : wrap64 (v - (sh.length : Int)) < 0
  · refine Ev.congr (f := fun _ => some true) (fun k => ?_) (Ev.now _)
    rw [if_pos hbig2, Option.bind_some, if_pos (by omega)]
  have hsl : sh.length ≤ 1048576 := by omega
  refine Ev.congr (fun k => by rw [if_neg hbig2, Option.bind_some, if_neg hbig2]) ?_
  clear hww hbig2
  have hml2 : (sh.map shotOf).length ≤ 1048576 := by rw [List.length_map]; exact hsl
  obtain ⟨⟨x, c⟩, hx, es, ei⟩ := sharesOf_both w h l (sh.map shotOf) h1 hml2
  have hx : x.length ≤ 25 := hx
  have hT := toSea_ev w h l h1
  have hS := toShotS_ev sh hsl
  have hqs := eqShotS_self (sh.map shotOf) hml2
  generalize sh.map shotOf = T at es ei hS hqs hml2
  have hq := eqInt64S_self x (by omega)
  have hc : (c != c) = false := by simp
  have hHx := held_ev 1 (by omega) x.length (by omega)
  have hMx := mark_ev 1 (by omega) x (by omega)
  obtain ⟨mr, hMT, hmr⟩ := markShotS_ev T hml2 (1 + l.length) (by omega) (by omega)
  refine Ev.bind hT (Ev.bind hS (Ev.bind es (Ev.bind hT (Ev.bind hS (Ev.bind ei (Ev.bind hq (Ev.congr (f := fun k => laws_FnExactSharesOf.j0 k sh x c T x c false w h l w h l) (fun k => by rw [if_pos rfl]; simp only [hc]) ?_)))))))
  have hj2 : Ev (fun k => laws_FnExactSharesOf.j2 k (countUp 1 x.length) (1 + x.length) false) true := by
    refine Ev.step (f := fun k => (laws_heldInt64S.f k (countUp 1 x.length) 1).bind fun t392 => (if t392 < 0 then (some false) else (if t392 = 1 + x.length then (some true) else (some false)))) (fun k => ?_) ?_
    · simp only [laws_FnExactSharesOf.j2]; rw [if_neg (by simp)]
    · refine Ev.bind hHx ?_
      exact Ev.congr (f := fun _ => some true) (fun k => by rw [if_neg (by omega), if_pos rfl]) (Ev.now _)
  have hj1 : Ev (fun k => laws_FnExactSharesOf.j1 k sh x c x false w h l) true := by
    refine Ev.step (f := fun k => (laws_markInt64S.f k x 1).bind fun bt379 => ((laws_heldInt64S.f k bt379.2 1).bind fun t381 => (if t381 < 0 then (some false) else (if t381 = bt379.1 then ((laws_toSea.f k w h l).bind fun bt382 => ((laws_toShotS.f k sh).bind fun t930 => ((impl_SharesOf.f k bt382.1 bt382.2.1 bt382.2.2 t930).bind fun bt387 => ((laws_eqInt64S.f k bt387.1 x).bind fun t391 => (if t391 = true then (laws_FnExactSharesOf.j2 k bt379.2 bt379.1 (bt387.2 != c)) else (laws_FnExactSharesOf.j2 k bt379.2 bt379.1 true)))))) else (some false))))) (fun k => ?_) ?_
    · simp only [laws_FnExactSharesOf.j1]; rw [if_neg (by simp)]
    · refine Ev.bind hMx (Ev.bind hHx (Ev.congr (fun k => by rw [if_neg (by omega), if_pos rfl]) (Ev.bind hT (Ev.bind hS (Ev.bind ei (Ev.bind hq ?_))))))
      exact Ev.congr (fun k => by rw [if_pos rfl]; simp only [hc]) hj2
  refine Ev.step (f := fun k => (laws_toSea.f k w h l).bind fun bt370 => ((laws_eqSea.f k w h l bt370.1 bt370.2.1 bt370.2.2).bind fun t375 => (if t375 = true then ((laws_toShotS.f k sh).bind fun t913 => ((laws_eqShotS.f k T t913).bind fun t916 => (if t916 = true then ((laws_markSea.f k w h l 1).bind fun bt376 => ((laws_markShotS.f k T bt376.1).bind fun bt919 => (if bt919.1 < 0 then (laws_FnExactSharesOf.j1 k sh x c x true w h l) else ((laws_eqInt64S.f k x x).bind fun t378 => (if t378 = true then (laws_FnExactSharesOf.j1 k sh x c x (c != c) w h l) else (laws_FnExactSharesOf.j1 k sh x c x true w h l)))))) else (some false)))) else (some false)))) (fun k => ?_) ?_
  · simp only [laws_FnExactSharesOf.j0]; rw [if_neg (by simp)]
  · refine Ev.bind hT (Ev.bind (eqSea_self w h l h1) ?_)
    refine Ev.congr (fun k => by rw [if_pos rfl]) ?_
    refine Ev.bind hS (Ev.bind hqs ?_)
    refine Ev.congr (fun k => by rw [if_pos rfl]) ?_
    refine Ev.bind (markSea_ev w h l h1) ?_
    refine Ev.bind hMT ?_
    refine Ev.congr (fun k => by rw [if_neg (by omega)]) ?_
    refine Ev.bind hq ?_
    exact Ev.congr (fun k => by rw [if_pos rfl]; simp only [hc]) hj1

end Go.Proofs.Ytiancdhpdjmacaa.Pure
