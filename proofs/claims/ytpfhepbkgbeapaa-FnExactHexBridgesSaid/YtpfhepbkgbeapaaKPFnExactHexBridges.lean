/- For every board and every player, and whatever is none, the program's HexBridges answers what the reference's answers, in memory of its own, and leaves its argument as it was. Under no condition. -/
import Derived.Test.YtpfhepbkgbeapaaKFnExactHexBridges4
namespace Go.Proofs.Ytpfhepbkgbeapaa.Pure
open Go.RowKit Go.Proofs.Ytpfhepbkgbeapaa.F Go.Proofs.YtpfhepbkgbeapaaW.PrintWords Go.Proofs.YtpfhepbkgbeapaaW.PrintLast Go.Proofs.YtpfhepbkgbeapaaW.PrintMore
theorem FnExactHexBridges : laws_FnExactHexBridges.Pure := by
  intro p l pl hp hl _
  refine Ev.rounds (?_ : Ev (fun k => laws_FnExactHexBridges.f k p l pl) true)
  unfold laws_FnExactHexBridges.f
  obtain ⟨v, hv, h⟩ := szHex_ev p l hl.1
  rw [hv]
  rcases h with rfl | ⟨h0, h1⟩
  · exact Ev.now _
  refine Ev.congr (fun k => by rw [Option.bind_some, if_neg (by omega)]) ?_
  have es := specBridges_ev p l pl (by omega)
  have ei := implBridges_ev p l pl
  have hsm := bridgesV_small p l pl
  generalize bridgesV p l pl = r at es ei hsm
  obtain ⟨x, c⟩ := r
  have hx2 : ∀ z ∈ x, z.length = 2 := hsm.1
  have hx : x.length ≤ 5000 := hsm.2
  have hT := toHex_ev p l h1
  have hq := eqInt64SS_self x (by omega) (fun z hz => by have := hx2 z hz; omega)
  have hc : (c != c) = false := by simp
  have hs0 := sumLen_nonneg x
  have hs1 := sumLen_bound x (fun z hz => by have := hx2 z hz; omega)
  have hMS := markSS_ev 1 (by omega) x (by omega) (by omega)
  have hHS := heldSS_ev 1 (by omega) x (by omega) (by omega)
  generalize countUpSS 1 x = y at hMS hHS
  have htot : 0 ≤ 1 + sumLen x := by omega
  generalize 1 + sumLen x = tot at hMS hHS htot
  have hMH : Ev (fun k => laws_markHex.f k p l 1) (1 + l.length, countUp 1 l.length) := by
    unfold laws_markHex.f
    exact Ev.bind (mark_ev 1 (by omega) l (by omega)) (Ev.now _)
  refine Ev.bind hT (Ev.bind es (Ev.bind hT (Ev.bind ei (Ev.bind hq (Ev.congr (f := fun k => laws_FnExactHexBridges.j0 k pl x c x c false p l p l) (fun k => by rw [if_pos rfl]; simp only [hc]) ?_)))))
  have hj2 : Ev (fun k => laws_FnExactHexBridges.j2 k y tot false) true := by
    refine Ev.step (f := fun k => (laws_heldInt64SS.f k y 1).bind fun t => (if t < 0 then (some false) else (if t = tot then (some true) else (some false)))) (fun k => ?_) ?_
    · simp only [laws_FnExactHexBridges.j2]; rw [if_neg (by simp)]
    · refine Ev.bind hHS ?_
      exact Ev.congr (f := fun _ => some true) (fun k => by rw [if_neg (by omega), if_pos rfl]) (Ev.now _)
  have hj1 : Ev (fun k => laws_FnExactHexBridges.j1 k pl x c x false p l) true := by
    refine Ev.step (f := fun k => (laws_markInt64SS.f k x 1).bind fun bt224 => ((laws_heldInt64SS.f k bt224.2 1).bind fun t226 => (if t226 < 0 then (some false) else (if t226 = bt224.1 then ((laws_toHex.f k p l).bind fun bt227 => ((impl_HexBridges.f k bt227.1 bt227.2 pl).bind fun bt231 => ((laws_eqInt64SS.f k bt231.1 x).bind fun t235 => (if t235 = true then (laws_FnExactHexBridges.j2 k bt224.2 bt224.1 (bt231.2 != c)) else (laws_FnExactHexBridges.j2 k bt224.2 bt224.1 true))))) else (some false))))) (fun k => ?_) ?_
    · simp only [laws_FnExactHexBridges.j1]; rw [if_neg (by simp)]
    · refine Ev.bind hMS (Ev.bind hHS (Ev.congr (fun k => by rw [if_neg (by omega), if_pos rfl]) (Ev.bind hT (Ev.bind ei (Ev.bind hq ?_)))))
      exact Ev.congr (fun k => by rw [if_pos rfl]; simp only [hc]) hj2
  refine Ev.step (f := fun k => (laws_toHex.f k p l).bind fun bt216 => ((laws_eqHex.f k p l bt216.1 bt216.2).bind fun t220 => (if t220 = true then ((laws_markHex.f k p l 1).bind fun bt221 => (if bt221.1 < 0 then (laws_FnExactHexBridges.j1 k pl x c x true p l) else ((laws_eqInt64SS.f k x x).bind fun t223 => (if t223 = true then (laws_FnExactHexBridges.j1 k pl x c x (c != c) p l) else (laws_FnExactHexBridges.j1 k pl x c x true p l))))) else (some false)))) (fun k => ?_) ?_
  · simp only [laws_FnExactHexBridges.j0]; rw [if_neg (by simp)]
  · refine Ev.bind hT (Ev.bind (eqHex_self p l h1) (Ev.congr (fun k => by rw [if_pos rfl]) (Ev.bind hMH ?_)))
    refine Ev.congr (fun k => by rw [if_neg (by omega)]) (Ev.bind hq ?_)
    exact Ev.congr (fun k => by rw [if_pos rfl]; simp only [hc]) hj1

end Go.Proofs.Ytpfhepbkgbeapaa.Pure
