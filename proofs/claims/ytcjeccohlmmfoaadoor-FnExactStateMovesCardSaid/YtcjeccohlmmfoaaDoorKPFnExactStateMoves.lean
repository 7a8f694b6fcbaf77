/- For every net, every text and both players, the program's StateMoves answers what the reference's answers, leaves its arguments as they were and returns memory of its own. Under no condition. -/
import Derived.Test.YtcjeccohlmmfoaaDoorKFnExactStateMoves5
namespace Go.Proofs.YtcjeccohlmmfoaaDoor.Pure
open Go.RowKit Go.Proofs.YtcjeccohlmmfoaaDoor.F Go.Proofs.YtcjeccohlmmfoaaDoorW.PrintWords Go.Proofs.YtcjeccohlmmfoaaDoorW.PrintLast Go.Proofs.YtcjeccohlmmfoaaDoorW.PrintMore
def stateMovesV (p : Int) (l : List (List Int)) (s : ByteArray) (b : Bool) : List Int × Int := if stCode p l s = 0 then (movesV l s b, 0) else ([], stCode p l s)
theorem implStMoves_ev (p : Int) (l : List (List Int)) (s : ByteArray) (b : Bool) (hs : s.size ≤ 9223372036854775807) : Ev (fun k => impl_StateMoves.f k p l s b) (stateMovesV p l s b) := by
  unfold impl_StateMoves.f stateMovesV
  refine Ev.bind (implCode_ev p l s hs) ?_
  by_cases h : stCode p l s = 0
  · obtain ⟨h1, h2⟩ := stCode_zero h
    have ho : isNetV p l = true ∧ s.size = l.length := ⟨h1, ((stOk_iff l s).1 h2).1⟩
    exact Ev.congr (f := fun _ => some (bestV l s b, 0)) (fun k => by rw [if_pos h, if_pos ho]) (Ev.congr (fun k => by rw [if_pos h]; rfl) (Ev.now _))
  · exact Ev.congr (f := fun _ => some ([], stCode p l s)) (fun k => by rw [if_neg h]) (Ev.congr (fun k => by rw [if_neg h]) (Ev.now _))
theorem mover_val (b : Bool) : spec_l10Mover.f b = some (ownV b) := by cases b <;> rfl
theorem specStMoves_ev (p : Int) (l : List (List Int)) (s : ByteArray) (b : Bool) (hl : l.length ≤ 9223372036854775807) : Ev (fun k => spec_StateMoves.f k p l s b) (stateMovesV p l s b) := by
  unfold spec_StateMoves.f stateMovesV
  refine Ev.bind (specCode_ev p l s hl) ?_
  by_cases h : stCode p l s = 0
  · obtain ⟨h1, h2⟩ := stCode_zero h
    have hn := (netEdges h1).1
    have hst := specSets_ev p l s hn.1
    rw [if_pos h2] at hst
    obtain ⟨hsz, hv⟩ := (stOk_iff l s).1 h2
    obtain ⟨k1, e1⟩ := specMoves_ev p l hn s b hsz hv
    rw [if_pos h]
    refine Ev.congr (f := fun k => (spec_l10Sets.f k p l s).bind fun bt236 => ((spec_l10Moves.f k p l bt236.1 bt236.2.1 (ownV b) (List.replicate (2 * (2 ^ l.length * 2 ^ l.length)) 0)).bind fun bt243 => (some (bt243.1, (0 : Int))))) (fun k => by simp only [h, if_true, mover_val, known_val p l hn.1, Option.bind_some]) (Ev.bind hst (Ev.bind e1 (f := fun _ t => some (t.1, (0 : Int))) (Ev.now _)))
  · rw [if_neg h]
    exact Ev.congr (f := fun _ => some ([], stCode p l s)) (fun k => by rw [if_neg h]) (Ev.now _)
theorem moves_short (p : Int) (l : List (List Int)) (s : ByteArray) (b : Bool) (hs : s.size ≤ 1048576) : (stateMovesV p l s b).1.length ≤ 1048576 := by
  unfold stateMovesV movesV
  split
  · dsimp only
    split
    · have h1 := List.length_filter_le (fun k => netWin l (afterV s k b) (!b) == ownV b) (freeV s)
      have h2 := chosenTo_le (fun k => bt s k == 46) s.size
      unfold freeV at h1 ⊢
      omega
    · exact Nat.zero_le _
  · exact Nat.zero_le _
theorem FnExactStateMoves : laws_FnExactStateMoves.Pure := by
  intro p l s b hp hl hs
  refine Ev.rounds (?_ : Ev (fun k => laws_FnExactStateMoves.f k p l s b) true)
  unfold laws_FnExactStateMoves.f
  by_cases hs2 : (s.size : Int) > 1048576
  · exact Ev.congr (f := fun _ => some true) (fun k => by rw [if_pos hs2]) (Ev.now _)
  refine Ev.congr (fun k => by rw [if_neg hs2]) ?_
  obtain ⟨v, hv, h⟩ := szNet_ev p l hl
  refine Ev.bind hv ?_
  rcases h with rfl | ⟨h0, h1, h2⟩
  · exact Ev.congr (f := fun _ => some true) (fun k => by rw [if_pos (by omega)]) (Ev.now _)
  refine Ev.congr (fun k => by rw [if_neg (by omega)]) ?_
  have ei := implStMoves_ev p l s b (by omega)
  have es := specStMoves_ev p l s b (by omega)
  have hx := moves_short p l s b (by omega)
  generalize stateMovesV p l s b = r at ei es hx
  obtain ⟨x, c⟩ := r
  have hx : x.length ≤ 1048576 := hx
  have hT := toNet_ev p l h1 h2
  have hq := eqInt64S_self x (by omega)
  have hc : (c != c) = false := by simp
  refine Ev.bind hT (Ev.bind es (Ev.bind hT (Ev.bind ei (Ev.bind hq (Ev.congr (f := fun k => laws_FnExactStateMoves.j0 k s b x c x c false p l p l) (fun k => by rw [if_pos rfl]; simp only [hc]) ?_)))))
  have hj2 : Ev (fun k => laws_FnExactStateMoves.j2 k (countUp 1 x.length) (1 + x.length) false) true := by
    refine Ev.step (f := fun k => (laws_heldInt64S.f k (countUp 1 x.length) 1).bind fun t354 => (if t354 < 0 then (some false) else (if t354 = 1 + x.length then (some true) else (some false)))) (fun k => ?_) ?_
    · simp only [laws_FnExactStateMoves.j2]; rw [if_neg (by simp)]
    · refine Ev.bind (held_ev 1 (by omega) x.length (by omega)) ?_
      exact Ev.congr (f := fun _ => some true) (fun k => by rw [if_neg (by omega), if_pos rfl]) (Ev.now _)
  have hj1 : Ev (fun k => laws_FnExactStateMoves.j1 k s b x c x false p l) true := by
    refine Ev.step (f := fun k => (laws_markInt64S.f k x 1).bind fun bt342 => ((laws_heldInt64S.f k bt342.2 1).bind fun t344 => (if t344 < 0 then (some false) else (if t344 = bt342.1 then ((laws_toNet.f k p l).bind fun bt345 => ((impl_StateMoves.f k bt345.1 bt345.2 s b).bind fun bt349 => ((laws_eqInt64S.f k bt349.1 x).bind fun t353 => (if t353 = true then (laws_FnExactStateMoves.j2 k bt342.2 bt342.1 (bt349.2 != c)) else (laws_FnExactStateMoves.j2 k bt342.2 bt342.1 true))))) else (some false))))) (fun k => ?_) ?_
    · simp only [laws_FnExactStateMoves.j1]; rw [if_neg (by simp)]
    · refine Ev.bind (mark_ev 1 (by omega) x (by omega)) (Ev.bind (held_ev 1 (by omega) x.length (by omega)) (Ev.congr (fun k => by rw [if_neg (by omega), if_pos rfl]) (Ev.bind hT (Ev.bind ei (Ev.bind hq ?_)))))
      exact Ev.congr (fun k => by rw [if_pos rfl]; simp only [hc]) hj2
  refine Ev.step (f := fun k => (laws_toNet.f k p l).bind fun bt334 => ((laws_eqNet.f k p l bt334.1 bt334.2).bind fun t338 => (if t338 = true then ((laws_markNet.f k p l 1).bind fun bt339 => (if bt339.1 < 0 then (laws_FnExactStateMoves.j1 k s b x c x true p l) else ((laws_eqInt64S.f k x x).bind fun t341 => (if t341 = true then (laws_FnExactStateMoves.j1 k s b x c x (c != c) p l) else (laws_FnExactStateMoves.j1 k s b x c x true p l))))) else (some false)))) (fun k => ?_) ?_
  · simp only [laws_FnExactStateMoves.j0]; rw [if_neg (by simp)]
  · have hs := sumLen_nonneg l
    have hsl := sumLen_bound l h2
    have hM : Ev (fun k => laws_markNet.f k p l 1) (1 + sumLen l, countUpSS 1 l) := markSS_ev 1 (by omega) l (by omega) (by omega)
    refine Ev.bind hT (Ev.bind (eqNet_self p l h1 h2) (Ev.congr (fun k => by rw [if_pos rfl]) (Ev.bind hM ?_)))
    refine Ev.congr (fun k => by rw [if_neg (by omega)]) (Ev.bind hq ?_)
    exact Ev.congr (fun k => by rw [if_pos rfl]; simp only [hc]) hj1

end Go.Proofs.YtcjeccohlmmfoaaDoor.Pure
