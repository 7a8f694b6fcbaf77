/- For every net and every list, the program's AreDoublyJoined answers what the reference's answers, and leaves its arguments as they were. Under no condition. -/
import Derived.Test.YtcjeccohlmmfoaaKFnExactAreDoublyJoined4
namespace Go.Proofs.Ytcjeccohlmmfoaa.Pure
open Go.RowKit Go.Proofs.Ytcjeccohlmmfoaa.F Go.Proofs.YtcjeccohlmmfoaaW.PrintWords Go.Proofs.YtcjeccohlmmfoaaW.PrintLast Go.Proofs.YtcjeccohlmmfoaaW.PrintMore
def joinedV (p : Int) (l : List (List Int)) (x : List Int) (b : Bool) : Bool × Int := if isNetV p l = true then (if risingFrom 0 (wrap64 (p - 1)) none x = true then (if ptsSet 0 x = 0 then (false, 2) else (b, 0)) else (false, 2)) else (false, 1)
theorem first_ev (a b : Bool) : Ev (fun k => impl_first.f k [⟨a, 1⟩, ⟨b, 2⟩]) (if a = true then (if b = true then 0 else 2) else 1) := by
  refine ⟨4, fun k hk => ?_⟩
  obtain ⟨k', rfl⟩ : ∃ k', k = k' + 4 := ⟨k - 4, by omega⟩
  have w1 : wrap64 1 = 1 := by unfold wrap64; omega
  have w2 : wrap64 2 = 2 := by unfold wrap64; omega
  have r0 : ∀ u v : S62, rd_T62 [u, v] 0 = u := fun _ _ => rfl
  have r1 : ∀ u v : S62, rd_T62 [u, v] 1 = v := fun _ _ => rfl
  cases a <;> cases b <;> simp [impl_first.f, impl_first.l0, w1, w2, r0, r1]
theorem specJoined_ev (p : Int) (l : List (List Int)) (x : List Int) (hl : l.length ≤ 9223372036854775807) (hx : x.length ≤ 9223372036854775807) (b : Bool) (hb : isNetV p l = true → (∀ y ∈ x, 0 ≤ y ∧ y < 8) → ptsSet 0 x ≠ 0 → Ev (fun k => spec_l10Double.f k p l (ptsSet 0 x : Nat)) b) :
    Ev (fun k => spec_AreDoublyJoined.f k p l x) (joinedV p l x b) := by
  unfold spec_AreDoublyJoined.f joinedV
  refine Ev.bind (l10Is_ev p l hl) ?_
  by_cases h : isNetV p l = true
  · rw [if_pos h]
    obtain ⟨_, h2, h8⟩ := netEdges h
    have := spec_or p ⟨h2, h8⟩ l x hx b (hb h) x.length 0 0 (by omega) (by omega) rfl (by simp)
    exact Ev.congr (fun k => by rw [if_pos h]; rfl) this
  · rw [if_neg h]
    exact Ev.congr (f := fun _ => some _) (fun k => by rw [if_neg h]) (Ev.now _)
theorem implJoined_ev (p : Int) (l : List (List Int)) (x : List Int) (hx : x.length ≤ 9223372036854775807) (b : Bool) (hb : isNetV p l = true → (∀ y ∈ x, 0 ≤ y ∧ y < 8) → ptsSet 0 x ≠ 0 → Ev (fun k => impl_Net_areDouble.f k p l (ptsSet 0 x : Nat)) b) :
    Ev (fun k => impl_AreDoublyJoined.f k p l x) (joinedV p l x b) := by
  have hj : ∀ c : Bool, (c = true → x ≠ [] ∧ risingFrom 0 (wrap64 (p - 1)) none x = true) → (c = false → x = [] ∨ risingFrom 0 (wrap64 (p - 1)) none x = false) → Ev (fun k => impl_AreDoublyJoined.j0 k x c p l) (joinedV p l x b) := by
    intro c h1 h2
    refine Ev.step (f := fun k => (impl_first.f k [⟨isNetV p l, 1⟩, ⟨c, 2⟩]).bind fun t249 => (if t249 = 0 then (impl_AreDoublyJoined.l0 k 0 x (x.length : Int) 0 p l) else (some (false, t249)))) (fun k => ?_) (Ev.bind (first_ev _ _) ?_)
    · simp only [impl_AreDoublyJoined.j0]
      unfold impl_IsNet.f
      rfl
    · unfold joinedV
      by_cases h : isNetV p l = true
      · rw [if_pos h, if_pos h]
        cases c with
        | true =>
          obtain ⟨ha, hb2⟩ := h1 rfl
          rw [if_pos hb2]
          obtain ⟨_, hp2, hp8⟩ := netEdges h
          have ep : wrap64 (p - 1) = p - 1 := by unfold wrap64; omega
          have hin : ∀ y ∈ x, 0 ≤ y ∧ y < 8 := fun y hy => by
            have := rising_in _ _ x none hb2 y hy
            unfold inW at this
            simp only [Bool.and_eq_true, decide_eq_true_eq] at this
            omega
          cases x with
          | nil => exact absurd rfl ha
          | cons y r =>
            have h0 := ptsSet_pos y r
            rw [if_neg h0]
            have := impl_or p l (y :: r) hx hin b (hb h hin h0) (y :: r).length 0 0 (by omega) (by omega) rfl
            exact Ev.congr (fun k => by rw [if_pos rfl, if_pos rfl]; rfl) this
        | false =>
          have e : (if risingFrom 0 (wrap64 (p - 1)) none x = true then (if ptsSet 0 x = 0 then (false, (2 : Int)) else (b, 0)) else (false, 2)) = (false, 2) := by
            rcases h2 rfl with e | e
            · subst e; simp [ptsSet]
            · rw [e]; rfl
          rw [e]
          exact Ev.congr (f := fun _ => some _) (fun k => by rw [if_neg (by simp), if_neg (by simp)]) (Ev.now _)
      · rw [if_neg h, if_neg h]
        exact Ev.congr (f := fun _ => some _) (fun k => by rw [if_neg (by simp)]) (Ev.now _)
  unfold impl_AreDoublyJoined.f
  by_cases h : (x.length : Int) > 0
  · refine Ev.congr (fun k => by rw [if_pos h]) (Ev.bind (rising_ev x 0 (wrap64 (p - 1)) hx) (hj _ (fun hr => ⟨fun e => by subst e; simp at h, hr⟩) (fun hr => .inr hr)))
  · refine Ev.congr (fun k => by rw [if_neg h]) (hj false (fun e => by simp at e) (fun _ => .inl (by cases x with
      | nil => rfl
      | cons a r => simp at h)))
theorem FnExactAreDoublyJoined : laws_FnExactAreDoublyJoined.Pure := by
  intro p l x hp hl hx
  refine Ev.rounds (?_ : Ev (fun k => laws_FnExactAreDoublyJoined.f k p l x) true)
  unfold laws_FnExactAreDoublyJoined.f
  by_cases hx2 : (x.length : Int) > 1048576
  · exact Ev.congr (f := fun _ => some true) (fun k => by rw [if_pos hx2]) (Ev.now _)
  refine Ev.congr (fun k => by rw [if_neg hx2]) ?_
  obtain ⟨v, hv, h⟩ := szNet_ev p l hl
  refine Ev.bind hv ?_
  rcases h with rfl | ⟨h0, h1, h2⟩
  · exact Ev.congr (fun k => by rw [if_pos (by omega)]) (Ev.now _)
  refine Ev.congr (fun k => by rw [if_neg (by omega)]) ?_
  obtain ⟨b, hbs, hbi⟩ : ∃ b, (isNetV p l = true → (∀ y ∈ x, 0 ≤ y ∧ y < 8) → ptsSet 0 x ≠ 0 → Ev (fun k => spec_l10Double.f k p l (ptsSet 0 x : Nat)) b) ∧ (isNetV p l = true → (∀ y ∈ x, 0 ≤ y ∧ y < 8) → ptsSet 0 x ≠ 0 → Ev (fun k => impl_Net_areDouble.f k p l (ptsSet 0 x : Nat)) b) := by
    by_cases hc : isNetV p l = true ∧ (∀ y ∈ x, 0 ≤ y ∧ y < 8) ∧ ptsSet 0 x ≠ 0
    · obtain ⟨b, e1, e2⟩ := double_ev p l (netEdges hc.1).1 (ptsSet 0 x) (ptsSet_lt x 0 (by omega) hc.2.1) hc.2.2
      exact ⟨b, fun _ _ _ => e1, fun _ _ _ => e2⟩
    · exact ⟨true, fun a b c => absurd ⟨a, b, c⟩ hc, fun a b c => absurd ⟨a, b, c⟩ hc⟩
  refine Ev.bind (toNet_ev p l h1 h2) (Ev.bind (toInt64S_ev x (by omega)) (Ev.bind (specJoined_ev p l x (by omega) (by omega) b hbs) (Ev.bind (toNet_ev p l h1 h2) (Ev.bind (toInt64S_ev x (by omega)) (Ev.bind (implJoined_ev p l x (by omega) b hbi) ?_)))))
  refine Ev.congr (f := fun k => laws_FnExactAreDoublyJoined.j0 k x x false p l p l) (fun k => by simp) ?_
  refine Ev.step (f := fun k => (laws_toNet.f k p l).bind fun bt273 => ((laws_eqNet.f k p l bt273.1 bt273.2).bind fun t277 => (if t277 = true then ((laws_toInt64S.f k x).bind fun t278 => ((laws_eqInt64S.f k x t278).bind fun t281 => (if t281 = true then (some true) else (some false)))) else (some false)))) (fun k => ?_) ?_
  · simp only [laws_FnExactAreDoublyJoined.j0]; rw [if_neg (by simp)]
  · refine Ev.bind (toNet_ev p l h1 h2) (Ev.bind (eqNet_self p l h1 h2) (Ev.congr (fun k => by rw [if_pos rfl]) (Ev.bind (toInt64S_ev x (by omega)) (Ev.bind (eqInt64S_self x (by omega)) ?_))))
    exact Ev.congr (f := fun _ => some true) (fun k => by rw [if_pos rfl]) (Ev.now _)

end Go.Proofs.Ytcjeccohlmmfoaa.Pure
