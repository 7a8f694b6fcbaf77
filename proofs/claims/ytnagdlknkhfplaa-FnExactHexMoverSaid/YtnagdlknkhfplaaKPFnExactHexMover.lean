/- For every board, and whatever is none, the program's HexMover answers what the reference's answers, and leaves its argument as it was. Under no condition. -/
import Derived.Test.YtnagdlknkhfplaaKFnExactHexMover2
namespace Go.Proofs.Ytnagdlknkhfplaa.Pure
open Go.RowKit Go.Proofs.Ytnagdlknkhfplaa.F Go.Proofs.YtnagdlknkhfplaaW.PrintWords Go.Proofs.YtnagdlknkhfplaaW.PrintLast Go.Proofs.YtnagdlknkhfplaaW.PrintMore
theorem FnExactHexMover : laws_FnExactHexMover.Pure := by
  intro p l hp hl
  refine Ev.rounds (?_ : Ev (fun k => laws_FnExactHexMover.f k p l) true)
  unfold laws_FnExactHexMover.f
  obtain ⟨v, hv, h⟩ := szHex_ev p l hl.1
  rw [hv]
  rcases h with rfl | ⟨h0, h1⟩
  · exact Ev.now _
  · refine Ev.congr (fun k => by rw [Option.bind_some, if_neg (by omega)]) ?_
    refine Ev.bind (toHex_ev p l h1) (Ev.bind (specHexMover_ev p l (by omega)) (Ev.bind (toHex_ev p l h1) ?_))
    refine Ev.congr (f := fun k => laws_FnExactHexMover.j0 k false p l p l) (fun k => ?_) ?_
    · show (impl_HexMover.f p l).bind _ = _
      rw [implHexMover, Option.bind_some, if_pos rfl]
      simp
    · refine Ev.step (f := fun k => (laws_toHex.f k p l).bind fun bt165 => ((laws_eqHex.f k p l bt165.1 bt165.2).bind fun t169 => (if t169 = true then (some true) else (some false)))) (fun k => ?_) ?_
      · simp only [laws_FnExactHexMover.j0]; rw [if_neg (by simp)]
      · refine Ev.bind (toHex_ev p l h1) ?_
        refine Ev.bind (eqHex_self p l h1) ?_
        exact Ev.congr (f := fun _ => some true) (fun k => by rw [if_pos rfl]) (Ev.now _)

end Go.Proofs.Ytnagdlknkhfplaa.Pure
