
import Derived.Test.YtpfhepbkgbeapaaKFnExactIsDesk6
namespace Go.Proofs.Ytpfhepbkgbeapaa.Pure
open Go.RowKit Go.Proofs.Ytpfhepbkgbeapaa.F Go.Proofs.YtpfhepbkgbeapaaW.PrintWords Go.Proofs.YtpfhepbkgbeapaaW.PrintLast Go.Proofs.YtpfhepbkgbeapaaW.PrintMore
-- needs: LibDeg LibEnd LibHelpSSS
/-- The verifier's size of a desk. -/
theorem szDesk_ev (p : Int) (l1 : List (List (List Int))) (l2 l3 : List Int) (q : Int) (l5 : List Int) (h1 : l1.length ≤ maxLen) (h1x : ∀ x ∈ l1, x.length ≤ maxLen ∧ ∀ y ∈ x, y.length ≤ maxLen) (h2 : l2.length ≤ maxLen) (h3 : l3.length ≤ maxLen) (h5 : l5.length ≤ maxLen) :
    ∃ v, Ev (fun k => laws_szDesk.f k p l1 l2 l3 q l5 1048576) v ∧ (v < 0 ∨ 0 ≤ v ∧ l1.length ≤ 1048576 ∧ l1.flatten.length ≤ 1048576 ∧ (∀ x ∈ l1, x.length ≤ 1048576 ∧ ∀ y ∈ x, y.length ≤ 1048576) ∧ l2.length ≤ 1048576 ∧ l3.length ≤ 1048576 ∧ l5.length ≤ 1048576) := by
  obtain ⟨v, hv, h⟩ := szInt64SSS_ev l1 h1 h1x 1048576 (by omega) (by omega)
  have hs : Ev (fun k => laws_szSprouts.f k p l1 1048576) v := by
    unfold laws_szSprouts.f
    refine Ev.bind hv ?_
    rcases h with rfl | ⟨g0, _⟩
    · exact Ev.congr (fun k => by rw [if_pos (by omega)]) (Ev.now _)
    · exact Ev.congr (fun k => by rw [if_neg (by omega)]) (Ev.now _)
  rcases h with rfl | ⟨g0, g1, g2, g3, g4⟩
  · refine ⟨-1, ?_, .inl (by omega)⟩
    unfold laws_szDesk.f
    exact Ev.bind hs (Ev.congr (fun k => by rw [if_pos (by omega)]) (Ev.now _))
  · have e2 := szInt64S_val l2 v h2 g0 (by omega)
    by_cases c2 : v < l2.length
    · refine ⟨-1, ?_, .inl (by omega)⟩
      unfold laws_szDesk.f
      refine Ev.bind hs (Ev.congr (f := fun _ => some (-1)) (fun k => ?_) (Ev.now _))
      unfold laws_szEnding.f
      rw [if_neg (by omega), e2, if_pos c2, Option.bind_some, if_pos (by omega), Option.bind_some, if_pos (by omega)]
    · have e3 := szInt64S_val l3 (v - l2.length) h3 (by omega) (by omega)
      by_cases c3 : v - l2.length < l3.length
      · refine ⟨-1, ?_, .inl (by omega)⟩
        unfold laws_szDesk.f
        refine Ev.bind hs (Ev.congr (f := fun _ => some (-1)) (fun k => ?_) (Ev.now _))
        unfold laws_szEnding.f
        rw [if_neg (by omega), e2, if_neg c2, Option.bind_some, if_neg (by omega), e3, if_pos c3, Option.bind_some, if_pos (by omega), Option.bind_some, if_pos (by omega)]
      · have e5 := szInt64S_val l5 (v - l2.length - l3.length) h5 (by omega) (by omega)
        have ee : laws_szEnding.f l2 l3 v = some (v - l2.length - l3.length) := by
          unfold laws_szEnding.f
          rw [e2, if_neg c2, Option.bind_some, if_neg (by omega), e3, if_neg c3, Option.bind_some, if_neg (by omega)]
        by_cases c5 : v - l2.length - l3.length < l5.length
        · refine ⟨-1, ?_, .inl (by omega)⟩
          unfold laws_szDesk.f
          refine Ev.bind hs (Ev.congr (f := fun _ => some (-1)) (fun k => ?_) (Ev.now _))
          rw [if_neg (by omega), ee, Option.bind_some, if_neg (by omega)]
          unfold laws_szHex.f
          rw [e5, if_pos c5, Option.bind_some, if_pos (by omega), Option.bind_some, if_pos (by omega)]
        · refine ⟨v - l2.length - l3.length - l5.length, ?_, .inr ⟨by omega, by omega, by omega, fun x hm => ⟨by have := (g4 x hm).1; omega, fun y hy => by have := (g4 x hm).2 y hy; omega⟩, by omega, by omega, by omega⟩⟩
          unfold laws_szDesk.f
          refine Ev.bind hs (Ev.congr (f := fun _ => some (v - l2.length - l3.length - l5.length)) (fun k => ?_) (Ev.now _))
          rw [if_neg (by omega), ee, Option.bind_some, if_neg (by omega)]
          unfold laws_szHex.f
          rw [e5, if_neg c5, Option.bind_some, if_neg (by omega), Option.bind_some, if_neg (by omega)]
/-- For every desk the program's IsDesk answers what the reference's answers, and leaves its argument as it was. No condition is asked. -/
theorem FnExactIsDesk : laws_FnExactIsDesk.Pure := by
  intro p l1 l2 l3 q l5 _ h1 h2 h3 _ h5
  refine Ev.rounds (?_ : Ev (fun k => laws_FnExactIsDesk.f k p l1 l2 l3 q l5) true)
  unfold laws_FnExactIsDesk.f
  obtain ⟨v, hv, h⟩ := szDesk_ev p l1 l2 l3 q l5 h1.1 (fun x hx => ⟨(h1.2 x hx).1, fun y hy => ((h1.2 x hx).2 y hy).1⟩) h2.1 h3.1 h5.1
  refine Ev.bind hv ?_
  rcases h with h | ⟨h0, b1, bf, bx, b2, b3, b5⟩
  · exact Ev.congr (fun k => by rw [if_pos h]) (Ev.now _)
  · have ht : Ev (fun k => laws_toDesk.f k p l1 l2 l3 q l5) (p, l1, l2, l3, q, l5) := by
      unfold laws_toDesk.f laws_toSprouts.f laws_toEnding.f
      refine Ev.bind (Ev.bind (toInt64SSS_ev l1 b1 bx) (Ev.now _)) ?_
      refine Ev.bind (Ev.bind (toInt64S_ev l2 (by omega)) (Ev.bind (toInt64S_ev l3 (by omega)) (Ev.now _))) ?_
      exact Ev.bind (toHex_ev q l5 b5) (Ev.now _)
    have hs : Ev (fun k => spec_IsDesk.f k p l1 l2 l3 q l5) ((degV p l1).2 && (endingV l2 l3 && isHexV q l5)) := by
      unfold spec_IsDesk.f spec_l02Is.f
      refine Ev.bind (Ev.bind (specDegrees_ev p l1 b1 bx) (Ev.now _)) ?_
      cases e : (degV p l1).2 with
      | false => exact Ev.congr (fun k => by rw [if_neg (by simp)]; simp) (Ev.now _)
      | true =>
        rw [Bool.true_and]
        refine Ev.congr (fun k => by rw [if_pos rfl]) (Ev.bind (specEnding_ev l2 l3 b2 b3) ?_)
        cases e2 : endingV l2 l3 with
        | false => exact Ev.congr (fun k => by rw [if_neg (by simp)]; simp) (Ev.now _)
        | true => exact Ev.congr (fun k => by rw [if_pos rfl]) (Ev.bind (l06Is_ev q l5 (by omega)) (Ev.now _))
    have hi : Ev (fun k => impl_IsDesk.f k p l1 l2 l3 q l5) ((degV p l1).2 && (endingV l2 l3 && isHexV q l5)) := by
      unfold impl_IsDesk.f impl_IsSprouts.f
      refine Ev.bind (Ev.bind (implDegrees_ev p l1 bf bx) (Ev.now _)) ?_
      cases e : (degV p l1).2 with
      | false => exact Ev.congr (fun k => by rw [if_neg (by simp)]; simp) (Ev.now _)
      | true =>
        rw [Bool.true_and]
        refine Ev.congr (fun k => by rw [if_pos rfl]) (Ev.bind (implEnding_ev l2 l3 b2 b3) ?_)
        cases e2 : endingV l2 l3 with
        | false => exact Ev.congr (fun k => by rw [if_neg (by simp)]; simp) (Ev.now _)
        | true => exact Ev.congr (f := fun _ => some (true && isHexV q l5)) (fun k => by rw [if_pos rfl]; rfl) (Ev.now _)
    have he : Ev (fun k => laws_eqDesk.f k p l1 l2 l3 q l5 p l1 l2 l3 q l5) true := by
      unfold laws_eqDesk.f laws_eqSprouts.f laws_eqEnding.f
      refine Ev.bind (a := true) (Ev.congr (fun k => by rw [if_pos rfl]) (Ev.bind (eqInt64SSS_self l1 b1 bx) (Ev.congr (fun k => by rw [if_pos rfl]) (Ev.now _)))) ?_
      refine Ev.congr (fun k => by rw [if_pos rfl]) ?_
      refine Ev.bind (a := true) (Ev.bind (eqInt64S_self l2 (by omega)) (Ev.congr (fun k => by rw [if_pos rfl]) (Ev.bind (eqInt64S_self l3 (by omega)) (Ev.congr (fun k => by rw [if_pos rfl]) (Ev.now _))))) ?_
      refine Ev.congr (fun k => by rw [if_pos rfl]) ?_
      exact Ev.bind (eqHex_self q l5 b5) (Ev.congr (fun k => by rw [if_pos rfl]) (Ev.now _))
    refine Ev.congr (fun k => by rw [if_neg (by omega)]) ?_
    refine Ev.bind ht (Ev.bind hs (Ev.bind ht (Ev.bind hi ?_)))
    refine Ev.congr (fun k => by rw [if_neg (by simp)]) ?_
    refine Ev.bind ht (Ev.bind he ?_)
    exact Ev.congr (fun k => by rw [if_pos rfl]) (Ev.now _)

end Go.Proofs.Ytpfhepbkgbeapaa.Pure
