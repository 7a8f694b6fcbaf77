
import Derived.Test.YtiancdhpdjmacaaKFnExactCertainCells7
namespace Go.Proofs.Ytiancdhpdjmacaa.Pure
open Go.RowKit Go.Proofs.Ytiancdhpdjmacaa.F Go.Proofs.YtiancdhpdjmacaaW.PrintWords Go.Proofs.YtiancdhpdjmacaaW.PrintLast Go.Proofs.YtiancdhpdjmacaaW.PrintMore
theorem certainCells_both (w h : Int) (l : List Int) (T : List S93) (hl : l.length ≤ 1048576) (hT : T.length ≤ 1048576) : ∃ r : List Int × List Int × Int, r.1.length ≤ 25 ∧ r.2.1.length ≤ 25 ∧ Ev (fun k => spec_CertainCells.f k w h l T) r ∧ Ev (fun k => impl_CertainCells.f k w h l T) r := by
  have e1 := specShotsCode_ev w h l T hl hT
  have i1 := implShotsCode_ev w h l T hl hT
  unfold spec_CertainCells.f impl_CertainCells.f
  by_cases hz : shotsV w h l T = 0
  · obtain ⟨hs, hok, hi⟩ := shotsV_zero hz
    rw [hz] at e1 i1
    have hsh : impl_Sea_shares.f w h l T = some (((agreeing (fleetsOf w h l) T).length : Int), sharesV (w.toNat * h.toNat) (agreeing (fleetsOf w h l) T)) := by
      unfold impl_Sea_shares.f
      rw [if_pos ⟨hs, hi, hT⟩]
    have hss : spec_l09Shares.f w h l T = some (sharesV (w.toNat * h.toNat) (agreeing (fleetsOf w h l) T), ((agreeing (fleetsOf w h l) T).length : Int)) := by
      unfold spec_l09Shares.f
      rw [if_pos ⟨hs, hi, hT⟩]
    have hop : spec_l09Open.f w h l T = some (openB (w.toNat * h.toNat) T) := by
      unfold spec_l09Open.f
      rw [if_pos ⟨hs, shotsOk_below hs hok, hT⟩]
    have hN : w.toNat * h.toNat ≤ 25 := by
      obtain ⟨⟨wn, rfl, hw1, hw5⟩, ⟨hn', rfl, hh1, hh5⟩, _, h3⟩ := seaV_nat hs
      simp only [Int.toNat_natCast]
      exact place_small_ hw5 hh5
    have hll := sharesV_len (w.toNat * h.toNat) (agreeing (fleetsOf w h l) T)
    generalize w.toNat * h.toNat = N at *
    generalize sharesV N (agreeing (fleetsOf w h l) T) = list at *
    generalize ((agreeing (fleetsOf w h l) T).length : Int) = tot at *
    by_cases ht : tot = 0
    · exact ⟨([], [], 4), Nat.zero_le _, Nat.zero_le _, Ev.bind e1 (Ev.congr (f := fun _ => some ([], [], 4)) (fun k => by rw [if_pos rfl, hss, Option.bind_some, if_pos ht]) (Ev.now _)), Ev.bind i1 (Ev.congr (f := fun _ => some ([], [], 4)) (fun k => by rw [if_pos rfl, hsh, Option.bind_some, if_pos ht]) (Ev.now _))⟩
    · have ec := certain_ev hN list hll T tot ht
      refine ⟨(openV N T (fun c => rd list c == tot), openV N T (fun c => rd list c == 0), 0), Nat.le_trans (openV_len _ _ _) hN, Nat.le_trans (openV_len _ _ _) hN, Ev.bind e1 (Ev.congr (fun k => by rw [if_pos rfl, hss, Option.bind_some, if_neg ht, hop, Option.bind_some]) ec), Ev.bind i1 (Ev.congr (f := fun _ => some (openV N T (fun c => rd list c == tot), openV N T (fun c => rd list c == 0), 0)) (fun k => by rw [if_pos rfl, hsh, Option.bind_some, if_neg ht]) (Ev.now _))⟩
  · exact ⟨([], [], shotsV w h l T), Nat.zero_le _, Nat.zero_le _, Ev.bind e1 (Ev.congr (fun k => by rw [if_neg hz]) (Ev.now _)), Ev.bind i1 (Ev.congr (fun k => by rw [if_neg hz]) (Ev.now _))⟩
theorem szSea_ev2 (w h : Int) (l : List Int) (hl : l.length ≤ maxLen) : ∃ v, laws_szSea.f w h l 1048576 = some v ∧ (v = -1 ∨ 0 ≤ v ∧ v ≤ 1048576 ∧ l.length ≤ 1048576) := by
  unfold laws_szSea.f
  rw [szInt64S_val l 1048576 hl (by omega) (by omega), Option.bind_some]
  by_cases h : (1048576 : Int) < l.length
  · rw [if_pos h]; exact ⟨-1, rfl, .inl rfl⟩
  · rw [if_neg h, if_neg (by omega)]; exact ⟨_, rfl, .inr ⟨by omega, by omega, by omega⟩⟩
/- For every sea and every list of shots, and whatever is none, the program's CertainCells answers what the reference's answers, in memory of its own, and leaves its arguments as they were. Under no condition. -/
theorem FnExactCertainCells : laws_FnExactCertainCells.Pure := by
  intro w h l sh _ _ hl hsh
  refine Ev.rounds (?_ : Ev (fun k => laws_FnExactCertainCells.f k w h l sh) true)
  unfold laws_FnExactCertainCells.f
  obtain ⟨v, hv, hh⟩ := szSea_ev2 w h l hl.1
  rw [hv]
  rcases hh with rfl | ⟨h0, h00, h1⟩
  · exact Ev.now _
  refine Ev.congr (fun k => by rw [Option.bind_some, if_neg (by omega)]) ?_
  have hml : sh.length ≤ maxLen := hsh.1
  have hmx : maxLen ≤ 9223372036854775807 := by simp [maxLen]
  have hww : wrap64 (v - (sh.length : Int)) = v - (sh.length : Int) := by unfold wrap64; omega
  unfold laws_szShotS.f
  by_cases hbig2 : wrap64 (v - (sh.length : Int)) < 0
  · refine Ev.congr (f := fun _ => some true) (fun k => ?_) (Ev.now _)
    rw [if_pos hbig2, Option.bind_some, if_pos (by omega)]
  have hsl : sh.length ≤ 1048576 := by omega
  refine Ev.congr (fun k => by rw [if_neg hbig2, Option.bind_some, if_neg hbig2]) ?_
  clear hww hbig2
  have hml2 : (sh.map shotOf).length ≤ 1048576 := by rw [List.length_map]; exact hsl
  obtain ⟨⟨x, y, c⟩, hx, hy, es, ei⟩ := certainCells_both w h l (sh.map shotOf) h1 hml2
  have hx : x.length ≤ 25 := hx
  have hy : y.length ≤ 25 := hy
  have hT := toSea_ev w h l h1
  have hS := toShotS_ev sh hsl
  have hqs := eqShotS_self (sh.map shotOf) hml2
  generalize sh.map shotOf = T at es ei hS hqs hml2
  have hqx := eqInt64S_self x (by omega)
  have hqy := eqInt64S_self y (by omega)
  have hc : (c != c) = false := by simp
  have hHx := held_ev 1 (by omega) x.length (by omega)
  have hHy := held_ev (1 + x.length) (by omega) y.length (by omega)
  have hMx := mark_ev 1 (by omega) x (by omega)
  have hMy := mark_ev (1 + x.length) (by omega) y (by omega)
  obtain ⟨mr, hMT, hmr⟩ := markShotS_ev T hml2 (1 + l.length) (by omega) (by omega)
  refine Ev.bind hT (Ev.bind hS (Ev.bind es (Ev.bind hT (Ev.bind hS (Ev.bind ei (Ev.bind hqx ?_))))))
  refine Ev.congr (fun k => by rw [if_pos rfl]) (Ev.bind hqy ?_)
  refine Ev.congr (f := fun k => laws_FnExactCertainCells.j0 k sh x y c T x y c false w h l w h l) (fun k => by rw [if_pos rfl]; simp only [hc]) ?_
  have hj2 : Ev (fun k => laws_FnExactCertainCells.j2 k (countUp 1 x.length) (countUp (1 + x.length) y.length) (1 + x.length + y.length) false) true := by
    refine Ev.step (f := fun k => (laws_heldInt64S.f k (countUp 1 x.length) 1).bind fun t1115 => (if t1115 < 0 then (some false) else ((laws_heldInt64S.f k (countUp (1 + x.length) y.length) t1115).bind fun t1116 => (if t1116 < 0 then (some false) else (if t1116 = 1 + x.length + y.length then (some true) else (some false)))))) (fun k => ?_) ?_
    · simp only [laws_FnExactCertainCells.j2]; rw [if_neg (by simp)]
    · refine Ev.bind hHx ?_
      refine Ev.congr (fun k => by rw [if_neg (by omega)]) (Ev.bind hHy ?_)
      exact Ev.congr (f := fun _ => some true) (fun k => by rw [if_neg (by omega), if_pos rfl]) (Ev.now _)
  have hj1 : Ev (fun k => laws_FnExactCertainCells.j1 k sh x y c x y false w h l) true := by
    refine Ev.step (f := fun k => (laws_markInt64S.f k x 1).bind fun bt1092 => ((laws_markInt64S.f k y bt1092.1).bind fun bt1094 => ((laws_heldInt64S.f k bt1092.2 1).bind fun t1096 => (if t1096 < 0 then (some false) else ((laws_heldInt64S.f k bt1094.2 t1096).bind fun t1097 => (if t1097 < 0 then (some false) else (if t1097 = bt1094.1 then ((laws_toSea.f k w h l).bind fun bt1098 => ((laws_toShotS.f k sh).bind fun t1103 => ((impl_CertainCells.f k bt1098.1 bt1098.2.1 bt1098.2.2 t1103).bind fun bt1106 => ((laws_eqInt64S.f k bt1106.1 x).bind fun t1113 => (if t1113 = true then ((laws_eqInt64S.f k bt1106.2.1 y).bind fun t1114 => (if t1114 = true then (laws_FnExactCertainCells.j2 k bt1092.2 bt1094.2 bt1094.1 (bt1106.2.2 != c)) else (laws_FnExactCertainCells.j2 k bt1092.2 bt1094.2 bt1094.1 true))) else (laws_FnExactCertainCells.j2 k bt1092.2 bt1094.2 bt1094.1 true)))))) else (some false)))))))) (fun k => ?_) ?_
    · simp only [laws_FnExactCertainCells.j1]; rw [if_neg (by simp)]
    · refine Ev.bind hMx (Ev.bind hMy (Ev.bind hHx ?_))
      refine Ev.congr (fun k => by rw [if_neg (by omega)]) (Ev.bind hHy ?_)
      refine Ev.congr (fun k => by rw [if_neg (by omega), if_pos rfl]) (Ev.bind hT (Ev.bind hS (Ev.bind ei (Ev.bind hqx ?_))))
      refine Ev.congr (fun k => by rw [if_pos rfl]) (Ev.bind hqy ?_)
      exact Ev.congr (fun k => by rw [if_pos rfl]; simp only [hc]) hj2
  refine Ev.step (f := fun k => (laws_toSea.f k w h l).bind fun bt1076 => ((laws_eqSea.f k w h l bt1076.1 bt1076.2.1 bt1076.2.2).bind fun t1081 => (if t1081 = true then ((laws_toShotS.f k sh).bind fun t1082 => ((laws_eqShotS.f k T t1082).bind fun t1085 => (if t1085 = true then ((laws_markSea.f k w h l 1).bind fun bt1086 => ((laws_markShotS.f k T bt1086.1).bind fun bt1088 => (if bt1088.1 < 0 then (laws_FnExactCertainCells.j1 k sh x y c x y true w h l) else ((laws_eqInt64S.f k x x).bind fun t1090 => (if t1090 = true then ((laws_eqInt64S.f k y y).bind fun t1091 => (if t1091 = true then (laws_FnExactCertainCells.j1 k sh x y c x y (c != c) w h l) else (laws_FnExactCertainCells.j1 k sh x y c x y true w h l))) else (laws_FnExactCertainCells.j1 k sh x y c x y true w h l)))))) else (some false)))) else (some false)))) (fun k => ?_) ?_
  · simp only [laws_FnExactCertainCells.j0]; rw [if_neg (by simp)]
  · refine Ev.bind hT (Ev.bind (eqSea_self w h l h1) ?_)
    refine Ev.congr (fun k => by rw [if_pos rfl]) ?_
    refine Ev.bind hS (Ev.bind hqs ?_)
    refine Ev.congr (fun k => by rw [if_pos rfl]) ?_
    refine Ev.bind (markSea_ev w h l h1) ?_
    refine Ev.bind hMT ?_
    refine Ev.congr (fun k => by rw [if_neg (by omega)]) ?_
    refine Ev.bind hqx ?_
    refine Ev.congr (fun k => by rw [if_pos rfl]) ?_
    refine Ev.bind hqy ?_
    exact Ev.congr (fun k => by rw [if_pos rfl]; simp only [hc]) hj1

end Go.Proofs.Ytiancdhpdjmacaa.Pure
