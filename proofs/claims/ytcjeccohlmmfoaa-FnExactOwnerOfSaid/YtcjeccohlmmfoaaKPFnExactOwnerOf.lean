/- For every net, and whatever is none, the program's OwnerOf answers what the reference's answers, and leaves its argument as it was. Under no condition. -/
import Derived.Test.YtcjeccohlmmfoaaKFnExactOwnerOf5
namespace Go.Proofs.Ytcjeccohlmmfoaa.Pure
open Go.RowKit Go.Proofs.Ytcjeccohlmmfoaa.F Go.Proofs.YtcjeccohlmmfoaaW.PrintWords Go.Proofs.YtcjeccohlmmfoaaW.PrintLast Go.Proofs.YtcjeccohlmmfoaaW.PrintMore
theorem repeatL_dots : ∀ n, Lib.repeatL [46] n = List.replicate n 46
  | 0 => rfl
  | n + 1 => by rw [Lib.repeatL, repeatL_dots n, List.replicate_succ]; rfl
theorem dots_bt (n i : Nat) (h : i < n) : bt (dotsV n) (i : Int) = 46 := by
  rw [bt_data _ i (by rw [dotsV_size]; exact h)]
  have e : (dotsV n).data.toList = List.replicate n 46 := by
    show (Lib.repeatL [46] n).toArray.toList = _
    rw [repeatL_dots]
  have : (dotsV n).data.toList[i]'(by rw [e]; simpa using h) = 46 := by
    simp only [e, List.getElem_replicate]
  rw [this]; rfl
theorem dots_valid (n : Nat) : ValidS (dotsV n) := fun i hi => .inl (dots_bt n i (by rw [dotsV_size] at hi; exact hi))
theorem bitsN_zero (n : Nat) (p : Nat → Bool) (h : ∀ i, i < n → p i = false) : bitsN p n = 0 := by
  apply Nat.eq_of_testBit_eq
  intro j
  rw [bitsN_bit]
  by_cases hj : j < n
  · simp [h j hj]
  · simp [hj]
theorem dots_kept (n : Nat) : keptS (dotsV n) = 0 := bitsN_zero _ _ fun i hi => by
  rw [dots_bt n i (by rw [dotsV_size] at hi; exact hi)]; rfl
theorem dots_out (n : Nat) : outS (dotsV n) = 0 := bitsN_zero _ _ fun i hi => by
  rw [dots_bt n i (by rw [dotsV_size] at hi; exact hi)]; rfl
theorem known_val (p : Int) (l : List (List Int)) (hl : l.length ≤ 10) : spec_l10Known.f p l = some (List.replicate (2 * (2 ^ l.length * 2 ^ l.length)) 0) := by
  have hw : IntKind.u64.wrap (wrap64 (2 * (l.length : Int))) = ((2 * l.length : Nat) : Int) := by
    have e : wrap64 (2 * (l.length : Int)) = ((2 * l.length : Nat) : Int) := by unfold wrap64; omega
    rw [e, u64_nat _ (by omega)]
  have h2 : 2 ^ l.length ≤ 1024 := Nat.pow_le_pow_right (by omega) hl
  have hm : 2 ^ l.length * 2 ^ l.length ≤ 1024 * 1024 := Nat.mul_le_mul h2 h2
  have hs : shl .i64 2 ((2 * l.length : Nat) : Int) = ((2 * (2 ^ l.length * 2 ^ l.length) : Nat) : Int) := by
    unfold shl
    have e : min (((2 * l.length : Nat) : Int).toNat) IntKind.i64.bits = 2 * l.length := by
      have : IntKind.i64.bits = 64 := rfl
      omega
    rw [e]
    have e2 : (2 : Int) * 2 ^ (2 * l.length) = ((2 * (2 ^ l.length * 2 ^ l.length) : Nat) : Int) := by
      rw [← Nat.pow_add, ← Nat.two_mul]; push_cast; rfl
    rw [e2, i64_nat _ (by omega)]
  unfold spec_l10Known.f
  rw [hw, hs, if_pos (by omega), if_pos (by omega), if_pos (by omega), Int.toNat_natCast]
theorem KOk_zero (l : List (List Int)) (n : Nat) : KOk l (List.replicate n 0) := fun s b _ _ => .inl (by
  rw [List.getD_eq_getElem?_getD, List.getElem?_replicate]; split <;> rfl)
theorem specOwner_ev (p : Int) (l : List (List Int)) (hx : l.length ≤ 9223372036854775807) : Ev (fun k => spec_OwnerOf.f k p l) (if isNetV p l = true then (ownerV l, 0) else (0, 1)) := by
  unfold spec_OwnerOf.f
  refine Ev.bind (l10Is_ev p l hx) ?_
  by_cases h : isNetV p l = true
  · have hl := (netEdges h).1
    have hsz := dotsV_size l.length
    have hd : (freeV (dotsV l.length)).length < 11 := by
      have := chosenTo_le (fun k => bt (dotsV l.length) k == 46) (dotsV l.length).size
      have := hl.1
      unfold freeV
      omega
    obtain ⟨k1, e1, g1, n1⟩ := specWin_ev p l hl 11 (dotsV l.length) true _ hd hsz (dots_valid _) (KOk_zero l _) (List.length_replicate ..)
    obtain ⟨k2, e2, g2, n2⟩ := specWin_ev p l hl 11 (dotsV l.length) false k1 hd hsz (dots_valid _) g1 (n1.trans (List.length_replicate ..))
    rw [dots_kept, dots_out] at e1 e2
    rw [if_pos h]
    refine Ev.congr (f := fun k => (spec_l10Winner.f k p l ((0 : Nat) : Int) ((0 : Nat) : Int) (ownV true) (List.replicate (2 * (2 ^ l.length * 2 ^ l.length)) 0)).bind fun bt377 => (spec_l10Winner.f k p l ((0 : Nat) : Int) ((0 : Nat) : Int) (ownV false) bt377.2).bind fun bt379 => if bt377.1 = bt379.1 then some (bt377.1, 0) else some (0, 0)) (fun k => by rw [if_pos h, known_val p l hl.1, Option.bind_some]; rfl) (Ev.bind e1 (Ev.bind e2 ?_))
    have hfm := win_first hl (dotsV l.length) hsz (dots_valid _)
    have r1 := netWin_range l (dotsV l.length) true
    have r2 := netWin_range l (dotsV l.length) false
    have q1 := netWin_pos l (dotsV l.length) true
    have q2 := netWin_pos l (dotsV l.length) false
    unfold ownerV
    generalize netWin l (dotsV l.length) true = a at *
    generalize netWin l (dotsV l.length) false = b at *
    by_cases hb : b = 1
    · have ha := hfm hb
      subst hb ha
      exact Ev.congr (f := fun _ => some (1, 0)) (fun k => by simp) (Ev.now _)
    · rw [if_neg hb]
      by_cases ha : a = 2
      · subst ha
        have hb2 : b = 2 := by omega
        subst hb2
        exact Ev.congr (f := fun _ => some (2, 0)) (fun k => by simp) (Ev.now _)
      · rw [if_neg ha]
        have hne : ¬ a = b := by omega
        exact Ev.congr (f := fun _ => some (0, 0)) (fun k => by simp [hne]) (Ev.now _)
  · rw [if_neg h]
    exact Ev.congr (f := fun _ => some (0, 1)) (fun k => by rw [if_neg h]) (Ev.now _)
theorem FnExactOwnerOf : laws_FnExactOwnerOf.Pure := by
  intro p l hp hl
  refine Ev.rounds (?_ : Ev (fun k => laws_FnExactOwnerOf.f k p l) true)
  unfold laws_FnExactOwnerOf.f
  obtain ⟨v, hv, h⟩ := szNet_ev p l hl
  refine Ev.bind hv ?_
  rcases h with rfl | ⟨h0, h1, h2⟩
  · exact Ev.congr (fun k => by rw [if_pos (by omega)]) (Ev.now _)
  refine Ev.congr (fun k => by rw [if_neg (by omega)]) ?_
  refine Ev.bind (toNet_ev p l h1 h2) (Ev.bind (specOwner_ev p l (by omega)) (Ev.bind (toNet_ev p l h1 h2) ?_))
  have hi : impl_OwnerOf.f p l = some (if isNetV p l = true then (ownerV l, 0) else (0, 1)) := by
    unfold impl_OwnerOf.f; split <;> rfl
  generalize (if isNetV p l = true then (ownerV l, (0 : Int)) else (0, 1)) = r at hi
  obtain ⟨a, c⟩ := r
  have hc : (c != c) = false := by simp
  refine Ev.congr (f := fun k => laws_FnExactOwnerOf.j0 k false p l p l) (fun k => by simp only [hi, Option.bind_some, if_true, hc]) ?_
  refine Ev.step (f := fun k => (laws_toNet.f k p l).bind fun bt401 => ((laws_eqNet.f k p l bt401.1 bt401.2).bind fun t405 => (if t405 = true then (some true) else (some false)))) (fun k => ?_) ?_
  · simp only [laws_FnExactOwnerOf.j0]; rw [if_neg (by simp)]
  · refine Ev.bind (toNet_ev p l h1 h2) (Ev.bind (eqNet_self p l h1 h2) ?_)
    exact Ev.congr (f := fun _ => some true) (fun k => by rw [if_pos rfl]) (Ev.now _)

end Go.Proofs.Ytcjeccohlmmfoaa.Pure
