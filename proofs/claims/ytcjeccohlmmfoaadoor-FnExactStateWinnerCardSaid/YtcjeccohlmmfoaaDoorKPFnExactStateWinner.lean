/- For every net, every text and both players, the program's StateWinner answers what the reference's answers, and leaves its arguments as they were. Under no condition. -/
import Derived.Test.YtcjeccohlmmfoaaDoorKFnExactStateWinner5
namespace Go.Proofs.YtcjeccohlmmfoaaDoor.Pure
open Go.RowKit Go.Proofs.YtcjeccohlmmfoaaDoor.F Go.Proofs.YtcjeccohlmmfoaaDoorW.PrintWords Go.Proofs.YtcjeccohlmmfoaaDoorW.PrintLast Go.Proofs.YtcjeccohlmmfoaaDoorW.PrintMore
def stateWinV (p : Int) (l : List (List Int)) (s : ByteArray) (b : Bool) : Int × Int := if stCode p l s = 0 then (netWin l s b, 0) else (0, stCode p l s)
theorem implStWin_ev (p : Int) (l : List (List Int)) (s : ByteArray) (b : Bool) (hs : s.size ≤ 9223372036854775807) : Ev (fun k => impl_StateWinner.f k p l s b) (stateWinV p l s b) := by
  unfold impl_StateWinner.f stateWinV
  refine Ev.bind (implCode_ev p l s hs) ?_
  by_cases h : stCode p l s = 0
  · obtain ⟨h1, h2⟩ := stCode_zero h
    have ho : isNetV p l = true ∧ s.size = l.length := ⟨h1, ((stOk_iff l s).1 h2).1⟩
    exact Ev.congr (f := fun _ => some (netWin l s b, 0)) (fun k => by rw [if_pos h, if_pos ho]) (Ev.congr (fun k => by rw [if_pos h]) (Ev.now _))
  · exact Ev.congr (f := fun _ => some (0, stCode p l s)) (fun k => by rw [if_neg h]) (Ev.congr (fun k => by rw [if_neg h]) (Ev.now _))
theorem mover_val (b : Bool) : spec_l10Mover.f b = some (ownV b) := by cases b <;> rfl
theorem specStWin_ev (p : Int) (l : List (List Int)) (s : ByteArray) (b : Bool) (hl : l.length ≤ 9223372036854775807) : Ev (fun k => spec_StateWinner.f k p l s b) (stateWinV p l s b) := by
  unfold spec_StateWinner.f stateWinV
  refine Ev.bind (specCode_ev p l s hl) ?_
  by_cases h : stCode p l s = 0
  · obtain ⟨h1, h2⟩ := stCode_zero h
    have hn := (netEdges h1).1
    have hst := specSets_ev p l s hn.1
    rw [if_pos h2] at hst
    obtain ⟨hsz, hv⟩ := (stOk_iff l s).1 h2
    have hd : (freeV s).length < 11 := by
      have := chosenTo_le (fun k => bt s k == 46) s.size
      have := hn.1
      unfold freeV
      omega
    obtain ⟨k1, e1, _, _⟩ := specWin_ev p l hn 11 s b _ hd hsz hv (KOk_zero l _) (List.length_replicate ..)
    rw [if_pos h]
    refine Ev.congr (f := fun k => (spec_l10Sets.f k p l s).bind fun bt236 => ((spec_l10Winner.f k p l bt236.1 bt236.2.1 (ownV b) (List.replicate (2 * (2 ^ l.length * 2 ^ l.length)) 0)).bind fun bt243 => (some (bt243.1, (0 : Int))))) (fun k => by simp only [h, if_true, mover_val, known_val p l hn.1, Option.bind_some]) (Ev.bind hst (Ev.bind e1 (f := fun _ t => some (t.1, (0 : Int))) (Ev.now _)))
  · rw [if_neg h]
    exact Ev.congr (f := fun _ => some (0, stCode p l s)) (fun k => by rw [if_neg h]) (Ev.now _)
theorem FnExactStateWinner : laws_FnExactStateWinner.Pure := by
  intro p l s b hp hl hs
  refine Ev.rounds (?_ : Ev (fun k => laws_FnExactStateWinner.f k p l s b) true)
  unfold laws_FnExactStateWinner.f
  by_cases hs2 : (s.size : Int) > 1048576
  · exact Ev.congr (f := fun _ => some true) (fun k => by rw [if_pos hs2]) (Ev.now _)
  refine Ev.congr (fun k => by rw [if_neg hs2]) ?_
  obtain ⟨v, hv, h⟩ := szNet_ev p l hl
  refine Ev.bind hv ?_
  rcases h with rfl | ⟨h0, h1, h2⟩
  · exact Ev.congr (fun k => by rw [if_pos (by omega)]) (Ev.now _)
  refine Ev.congr (fun k => by rw [if_neg (by omega)]) ?_
  refine Ev.bind (toNet_ev p l h1 h2) (Ev.bind (specStWin_ev p l s b (by omega)) (Ev.bind (toNet_ev p l h1 h2) (Ev.bind (implStWin_ev p l s b (by omega)) ?_)))
  generalize stateWinV p l s b = r
  obtain ⟨a, c⟩ := r
  have hc : (c != c) = false := by simp
  refine Ev.congr (f := fun k => laws_FnExactStateWinner.j0 k false p l p l) (fun k => by simp only [if_true, hc]) ?_
  refine Ev.step (f := fun k => (laws_toNet.f k p l).bind fun bt262 => ((laws_eqNet.f k p l bt262.1 bt262.2).bind fun t266 => (if t266 = true then (some true) else (some false)))) (fun k => ?_) ?_
  · simp only [laws_FnExactStateWinner.j0]; rw [if_neg (by simp)]
  · refine Ev.bind (toNet_ev p l h1 h2) (Ev.bind (eqNet_self p l h1 h2) ?_)
    exact Ev.congr (f := fun _ => some true) (fun k => by rw [if_pos rfl]) (Ev.now _)

end Go.Proofs.YtcjeccohlmmfoaaDoor.Pure
