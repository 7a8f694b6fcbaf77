
import Derived.Test.YtbmiojnkfgcfoaaKFnExactDeadCells6
namespace Go.Proofs.Ytbmiojnkfgcfoaa.Pure
open Go.RowKit Go.Proofs.Ytbmiojnkfgcfoaa.F Go.Proofs.YtbmiojnkfgcfoaaW.PrintWords Go.Proofs.YtbmiojnkfgcfoaaW.PrintLast Go.Proofs.YtbmiojnkfgcfoaaW.PrintMore
theorem own_dead (x : List Int) (h : x.length ≤ 64) : spec_l01Own.f x = some x := by
  unfold spec_l01Own.f
  simp only [Option.bind_some, List.nil_append]
  rw [if_pos (by simp; omega)]
theorem dead_both (p : Int) (l : List Int) (hl : l.length ≤ 1048576) : ∃ r : List Int × Int, r.1.length ≤ 1000 ∧ Ev (fun k => spec_DeadCells.f k p l) r ∧ Ev (fun k => impl_DeadCells.f k p l) r := by
  have e1 := l06Is_ev p l (by omega)
  have hcells : impl_Hex_cells.f p l 0 = some (emptyL l) := by
    unfold impl_Hex_cells.f
    rw [if_pos (by omega)]
    rfl
  have hcount : (emptyL l).length = l.count 0 := chosenTo_all l 0
  have hi0 : ∀ k, impl_DeadCells.f k p l = (impl_first.f k [⟨isHexV p l, 1⟩, ⟨decide (((emptyL l).length : Int) ≤ 9), 3⟩]).bind fun t => if t = 0 then impl_DeadCells.l0 k (emptyL l) [] (shl .i64 1 ((emptyL l).length : Int)) 0 p l else some ([], t) := fun k => by
    unfold impl_DeadCells.f
    rw [hcells]
    rfl
  have e2 := firstDead_ev (isHexV p l) (decide (((emptyL l).length : Int) ≤ 9))
  unfold spec_DeadCells.f
  by_cases hv : isHexV p l = true
  · obtain ⟨n, rfl, h1, h8, hln⟩ := hex_natJ hv
    have h64 := hex_small hv
    have em := l06Mover_ev hv
    rw [hv] at e1 e2
    by_cases hm : (emptyL l).length ≤ 9
    · obtain ⟨J, hJ⟩ := joiner_fun
      obtain ⟨hE, hE0⟩ := chosen_pair (fun c => rd l c == 0) l.length
      have hE1 : (emptyL l).Pairwise (· < ·) := hE
      have hE0' : ∀ x ∈ emptyL l, 0 ≤ x ∧ x < (l.length : Int) := fun x hx => ⟨(hE0 x hx).1, (hE0 x hx).2.1⟩
      have ee := specEmpty_ev (n : Int) l h64 hm
      have HSH := Aside0.mk (shl_nat (emptyL l).length (by omega))
      have js : ∀ c : Nat, c < 2 ^ (emptyL l).length → Ev (fun k => spec_l06Joiner.f k n (fillTo (emptyL l) c l (emptyL l).length)) (J n (fillTo (emptyL l) c l (emptyL l).length)) := fun c _ => (hJ n _ (fillTo_hex hv _ c _)).2.2
      have ji : ∀ c : Nat, c < 2 ^ (emptyL l).length → Ev (fun k => impl_Hex_joiner.f k n (fillTo (emptyL l) c l (emptyL l).length)) (J n (fillTo (emptyL l) c l (emptyL l).length)) := fun c _ => (hJ n _ (fillTo_hex hv _ c _)).2.1
      have s := specDead_l0 (n := n) hE1 hE0' hm h64 (fun c => J n (fillTo (emptyL l) c l (emptyL l).length)) js own_dead (emptyL l).length 0 (by omega)
      have i := implDead_l0 (n := n) hE1 hE0' hm h64 (fun c => J n (fillTo (emptyL l) c l (emptyL l).length)) ji (by unfold slices_Clone_int64_int64.f; rw [if_pos (by omega)]) (2 ^ (emptyL l).length) 0 [] (by omega) rfl (fun c h => by omega)
      have hlen := deadTo_len (emptyL l) (DeadAll (fun c => J n (fillTo (emptyL l) c l (emptyL l).length)) (emptyL l).length) (emptyL l).length
      rw [decide_eq_true (show ((emptyL l).length : Int) ≤ 9 by omega)] at e2
      rw [if_pos rfl, if_pos rfl] at e2
      refine ⟨_, ?_, Ev.bind e1 (Ev.congr (fun k => by rw [if_pos rfl]) (Ev.bind em (Ev.congr (fun k => by rw [if_neg (by omega)]) (Ev.bind ee s)))), Ev.congr (fun k => hi0 k) ?_⟩
      · show (deadTo _ _ _).length ≤ 1000
        omega
      · rw [hv, decide_eq_true (show ((emptyL l).length : Int) ≤ 9 by omega)]
        refine Ev.bind e2 (Ev.congr (f := fun k => impl_DeadCells.l0 k (emptyL l) [] ((2 ^ (emptyL l).length : Nat) : Int) 0 n l) (fun k => by rw [if_pos rfl, HSH.out]) i)
    · rw [decide_eq_false (show ¬ ((emptyL l).length : Int) ≤ 9 by omega)] at e2
      rw [if_pos rfl, if_neg (by simp)] at e2
      refine ⟨([], 3), by simp, Ev.bind e1 (Ev.congr (fun k => by rw [if_pos rfl]) (Ev.bind em (Ev.congr (f := fun _ => some (([] : List Int), 3)) (fun k => by rw [if_pos (by omega)]) (Ev.now _)))), Ev.congr (fun k => hi0 k) ?_⟩
      rw [hv, decide_eq_false (show ¬ ((emptyL l).length : Int) ≤ 9 by omega)]
      exact Ev.bind e2 (Ev.congr (f := fun _ => some (([] : List Int), 3)) (fun k => by rw [if_neg (by omega)]) (Ev.now _))
  · have hv' : isHexV p l = false := by simpa using hv
    rw [hv'] at e1 e2
    rw [if_neg (by simp)] at e2
    refine ⟨([], 1), by simp, Ev.bind e1 (Ev.congr (f := fun _ => some (([] : List Int), 1)) (fun k => by rw [if_neg (by simp)]) (Ev.now _)), Ev.congr (fun k => hi0 k) ?_⟩
    rw [hv']
    exact Ev.bind e2 (Ev.congr (f := fun _ => some (([] : List Int), 1)) (fun k => by rw [if_neg (by omega)]) (Ev.now _))
/- For every board, and whatever is none, the program's DeadCells answers what the reference's answers, in memory of its own, and leaves its argument as it was. Under no condition. -/
theorem FnExactDeadCells : laws_FnExactDeadCells.Pure := by
  intro p l hp hl
  refine Ev.rounds (?_ : Ev (fun k => laws_FnExactDeadCells.f k p l) true)
  unfold laws_FnExactDeadCells.f
  obtain ⟨v, hv, h⟩ := szHex_ev p l hl.1
  rw [hv]
  rcases h with rfl | ⟨h0, h1⟩
  · exact Ev.now _
  refine Ev.congr (fun k => by rw [Option.bind_some, if_neg (by omega)]) ?_
  obtain ⟨⟨x, c⟩, hx, es, ei⟩ := dead_both p l h1
  have hx : x.length ≤ 1000 := hx
  have hT := toHex_ev p l h1
  have hq := eqInt64S_self x (by omega)
  have hc : (c != c) = false := by simp
  have hHx := held_ev 1 (by omega) x.length (by omega)
  have hMx := mark_ev 1 (by omega) x (by omega)
  have hMH : Ev (fun k => laws_markHex.f k p l 1) (1 + l.length, countUp 1 l.length) := by
    unfold laws_markHex.f
    exact Ev.bind (mark_ev 1 (by omega) l (by omega)) (Ev.now _)
  refine Ev.bind hT (Ev.bind es (Ev.bind hT (Ev.bind ei (Ev.bind hq (Ev.congr (f := fun k => laws_FnExactDeadCells.j0 k x c x c false p l p l) (fun k => by rw [if_pos rfl]; simp only [hc]) ?_)))))
  have hj2 : Ev (fun k => laws_FnExactDeadCells.j2 k (countUp 1 x.length) (1 + x.length) false) true := by
    refine Ev.step (f := fun k => (laws_heldInt64S.f k (countUp 1 x.length) 1).bind fun t => (if t < 0 then (some false) else (if t = 1 + x.length then (some true) else (some false)))) (fun k => ?_) ?_
    · simp only [laws_FnExactDeadCells.j2]; rw [if_neg (by simp)]
    · refine Ev.bind hHx ?_
      exact Ev.congr (f := fun _ => some true) (fun k => by rw [if_neg (by omega), if_pos rfl]) (Ev.now _)
  have hj1 : Ev (fun k => laws_FnExactDeadCells.j1 k x c x false p l) true := by
    refine Ev.step (f := fun k => (laws_markInt64S.f k x 1).bind fun bt301 => ((laws_heldInt64S.f k bt301.2 1).bind fun t303 => (if t303 < 0 then (some false) else (if t303 = bt301.1 then ((laws_toHex.f k p l).bind fun bt304 => ((impl_DeadCells.f k bt304.1 bt304.2).bind fun bt308 => ((laws_eqInt64S.f k bt308.1 x).bind fun t312 => (if t312 = true then (laws_FnExactDeadCells.j2 k bt301.2 bt301.1 (bt308.2 != c)) else (laws_FnExactDeadCells.j2 k bt301.2 bt301.1 true))))) else (some false))))) (fun k => ?_) ?_
    · simp only [laws_FnExactDeadCells.j1]; rw [if_neg (by simp)]
    · refine Ev.bind hMx (Ev.bind hHx (Ev.congr (fun k => by rw [if_neg (by omega), if_pos rfl]) (Ev.bind hT (Ev.bind ei (Ev.bind hq ?_)))))
      exact Ev.congr (fun k => by rw [if_pos rfl]; simp only [hc]) hj2
  refine Ev.step (f := fun k => (laws_toHex.f k p l).bind fun bt293 => ((laws_eqHex.f k p l bt293.1 bt293.2).bind fun t297 => (if t297 = true then ((laws_markHex.f k p l 1).bind fun bt298 => (if bt298.1 < 0 then (laws_FnExactDeadCells.j1 k x c x true p l) else ((laws_eqInt64S.f k x x).bind fun t300 => (if t300 = true then (laws_FnExactDeadCells.j1 k x c x (c != c) p l) else (laws_FnExactDeadCells.j1 k x c x true p l))))) else (some false)))) (fun k => ?_) ?_
  · simp only [laws_FnExactDeadCells.j0]; rw [if_neg (by simp)]
  · refine Ev.bind hT (Ev.bind (eqHex_self p l h1) ?_)
    refine Ev.congr (fun k => by rw [if_pos rfl]) ?_
    refine Ev.bind hMH ?_
    refine Ev.congr (fun k => by rw [if_neg (by omega)]) (Ev.bind hq ?_)
    exact Ev.congr (fun k => by rw [if_pos rfl]; simp only [hc]) hj1

end Go.Proofs.Ytbmiojnkfgcfoaa.Pure
