-- written by the session's program xp.py over the kit's print program, and by hand; texts joined by pack.py
import Derived.Test.YtiancdhpdjmacaaKFnExactAnswersOf5
namespace Go.Proofs.Ytiancdhpdjmacaa.F
open Go.RowKit Go.Proofs.YtiancdhpdjmacaaW.PrintWords Go.Proofs.YtiancdhpdjmacaaW.PrintLast Go.Proofs.YtiancdhpdjmacaaW.PrintMore
attribute [local go_sem] max2_int min2_int max_two min_two max_three min_three max_four min_four   -- for this text's walks alone
set_option linter.unusedVariables false
set_option linter.unusedSimpArgs false

-- Fleets: the program's and the reference's judgement are one.
theorem and_or_zero (m a b : Nat) : m &&& (a ||| b) = 0 ↔ m &&& a = 0 ∧ m &&& b = 0 := by
  rw [Nat.and_or_distrib_left]
  exact Nat.or_eq_zero_iff
theorem pow25_le : 33554432 ≤ 9223372036854775808 := by simp
/-- A ship's place among the fleet's numbers. -/
def numAt (fl : List Int) (j : Nat) : Nat := (rd fl (j : Int)).toNat
/-- What has been used by the first ships. -/
def UsedBy (fl : List Int) (i used : Nat) : Prop := used < 33554432 ∧ (∀ j, j < i → ∃ m : Nat, rd fl (j : Int) = (m : Int) ∧ 0 < m ∧ m < 33554432) ∧ ∀ m, m &&& used = 0 ↔ ∀ j, j < i → m &&& numAt fl j = 0
theorem used_zero (fl : List Int) : UsedBy fl 0 0 := ⟨by simp, fun j h => absurd h (Nat.not_lt_zero _), fun m => ⟨fun _ j h => absurd h (Nat.not_lt_zero _), fun _ => Nat.and_zero m⟩⟩
theorem used_step {fl : List Int} {i used m : Nat} (h : UsedBy fl i used) (hm : rd fl (i : Int) = (m : Int)) (h0 : 0 < m) (h1 : m < 33554432) : UsedBy fl (i + 1) (used ||| m) := by
  obtain ⟨h2, h3, h4⟩ := h
  refine ⟨Nat.or_lt_two_pow (n := 25) h2 h1, fun j hj => ?_, fun q => ?_⟩
  · by_cases e : j = i
    · subst e; exact ⟨m, hm, h0, h1⟩
    · exact h3 j (by omega)
  · rw [and_or_zero, h4]
    constructor
    · rintro ⟨ha, hb⟩ j hj
      by_cases e : j = i
      · subst e; unfold numAt; rw [hm, Int.toNat_natCast]; exact hb
      · exact ha j (by omega)
    · intro ha
      refine ⟨fun j hj => ha j (by omega), ?_⟩
      have := ha i (by omega)
      unfold numAt at this
      rw [hm, Int.toNat_natCast] at this
      exact this
theorem rd_take {l : List Int} {i j : Nat} (h : j < i) : rd (l.take i) (j : Int) = rd l (j : Int) := by
  rw [rd_nat, rd_nat, List.getD_eq_getElem?_getD, List.getD_eq_getElem?_getD, List.getElem?_take, if_pos h]
/-- The reference's test of the next ship. -/
def nextOk (ships fl : List Int) (i : Nat) (used : Nat) : Bool := decide (numAt fl i &&& used = 0) && !(decide (0 < i) && (decide (rd ships (i : Int) = rd ships ((i : Int) - 1)) && decide (rd fl (i : Int) < rd fl ((i : Int) - 1))))
theorem next_goes {ships fl : List Int} {i used : Nat} (hu : UsedBy fl i used) (hi : i < fl.length) {m : Nat} (hm : rd fl (i : Int) = (m : Int)) (h0 : 0 < m) (h1 : m < 33554432) : goesV ships (fl.take i) (rd fl (i : Int)) = nextOk ships fl i used := by
  obtain ⟨hu0, hu1, hu2⟩ := hu
  have hnm : numAt fl i = m := by unfold numAt; rw [hm, Int.toNat_natCast]
  have hlen : (fl.take i).length = i := by rw [List.length_take]; omega
  have hany : ((fl.take i).any fun x => Go.bits .and .i64 x (m : Int) != 0) = !decide (m &&& used = 0) := by
    by_cases hz : m &&& used = 0
    · rw [decide_eq_true hz]
      simp only [Bool.not_true]
      rw [List.any_eq_false]
      intro x hx
      obtain ⟨j, hj, rfl⟩ := List.mem_iff_getElem.1 hx
      rw [hlen] at hj
      obtain ⟨mj, e1, e2, e3⟩ := hu1 j hj
      have hz2 := (hu2 m).1 hz j hj
      unfold numAt at hz2
      rw [e1, Int.toNat_natCast] at hz2
      have e4 : (fl.take i)[j]'(by rw [hlen]; exact hj) = (mj : Int) := by
        rw [← rd_get, rd_take hj, e1]
      rw [e4, bits_and_nat _ _ (Nat.lt_of_lt_of_le e3 pow25_le) (Nat.lt_of_lt_of_le h1 pow25_le), Nat.and_comm, hz2]
      simp
    · rw [decide_eq_false hz]
      simp only [Bool.not_false]
      have hz2 := mt (hu2 m).2 hz
      have : ∃ j, j < i ∧ ¬ (m &&& numAt fl j = 0) := by
        apply Classical.byContradiction
        intro hc
        exact hz2 (fun j hj => Classical.byContradiction fun h => hc ⟨j, hj, h⟩)
      obtain ⟨j, hj, hne⟩ := this
      obtain ⟨mj, e1, e2, e3⟩ := hu1 j hj
      unfold numAt at hne
      rw [e1, Int.toNat_natCast] at hne
      rw [List.any_eq_true]
      refine ⟨(mj : Int), ?_, ?_⟩
      · have e4 : (fl.take i)[j]'(by rw [hlen]; exact hj) = (mj : Int) := by
          rw [← rd_get, rd_take hj, e1]
        rw [← e4]
        exact List.getElem_mem _
      · rw [bits_and_nat _ _ (Nat.lt_of_lt_of_le e3 pow25_le) (Nat.lt_of_lt_of_le h1 pow25_le), Nat.and_comm]
        simp only [bne_iff_ne, ne_eq]
        omega
  unfold goesV nextOk goesStop
  rw [hm, hany, hlen, hnm, Bool.not_not]
  by_cases hz : m &&& used = 0
  · rw [decide_eq_true hz, Bool.and_true, Bool.true_and]
    by_cases hi0 : 0 < i
    · obtain ⟨p, rfl⟩ : ∃ p, i = p + 1 := ⟨i - 1, by omega⟩
      have ep : (((p + 1 : Nat) : Int) - 1) = (p : Int) := by omega
      rw [ep, rd_take (Nat.lt_succ_self p)]
      obtain ⟨mp, e1, e2, e3⟩ := hu1 p (Nat.lt_succ_self p)
      have hz2 := (hu2 m).1 hz p (Nat.lt_succ_self p)
      unfold numAt at hz2
      rw [e1, Int.toNat_natCast] at hz2
      have hne : m ≠ mp := by
        intro e
        rw [← e, Nat.and_self] at hz2
        omega
      rw [e1]
      have : decide ((m : Int) ≤ (mp : Int)) = decide ((m : Int) < (mp : Int)) := decide_eq_decide.2 (by omega)
      rw [this]
    · rw [decide_eq_false hi0]; rfl
  · rw [decide_eq_false hz, Bool.and_false, Bool.false_and]
/-- The judgement from a ship on. -/
def fleetFrom (W H : Nat) (ships fl : List Int) : Nat → Nat → Bool
  | _, 0 => true
  | i, d + 1 => (placesOf W H (rd ships (i : Int)).toNat).contains (rd fl (i : Int)) && goesV ships (fl.take i) (rd fl (i : Int)) && fleetFrom W H ships fl (i + 1) d
def fleetV (W H : Nat) (ships fl : List Int) : Bool := decide (fl.length = ships.length) && fleetFrom W H ships fl 0 fl.length
theorem ships_in {l : List Int} : ∀ (d i : Nat), i + d = l.length → shipsFrom l i d = true → ∀ j, i ≤ j → j < l.length → inW (rd l (j : Int)) 1 5 = true
  | 0, i, hd, _, j, h1, h2 => by omega
  | d + 1, i, hd, h, j, h1, h2 => by
    unfold shipsFrom at h
    simp only [Bool.and_eq_true] at h
    by_cases e : j = i
    · subst e; exact h.1.1
    · exact ships_in d (i + 1) (by omega) h.2 j (by omega) h2
theorem fleet_impl_l0 {W H : Nat} (hW : 1 ≤ W ∧ W ≤ 5) (hH : 1 ≤ H ∧ H ≤ 5) (ships fl : List Int) (hl : fl.length = ships.length) (h3 : ships.length ≤ 3) (hs : ∀ j : Nat, j < ships.length → inW (rd ships (j : Int)) 1 5 = true) :
    ∀ (d i : Nat), i + d = fl.length → Ev (fun k => impl_Sea_isFleet.l0 k fl fl fl.length i W H ships) (fleetFrom W H ships fl i d) := by
  intro d
  induction d with
  | zero =>
    intro i hi
    refine Ev.step (f := fun _ => some true) (fun k => ?_) (Ev.now _)
    simp only [impl_Sea_isFleet.l0]
    rw [if_neg (by omega)]
  | succ d ih =>
    intro i hi
    have hil : i < fl.length := by omega
    have hib : i ≤ 1000 := by omega
    obtain ⟨n, hn, hn1, hn5⟩ := inW_five (hs i (by omega))
    have hp : impl_Sea_placements.f (W : Int) (H : Int) ships (rd ships (i : Int)) = some (placesOf W H n) := by
      unfold impl_Sea_placements.f
      rw [hn, if_pos ⟨inW_of hW.1 hW.2, inW_of hH.1 hH.2, inW_of hn1 hn5⟩]
      simp only [Int.toNat_natCast]
    have hg : impl_Sea_goesOn.f (W : Int) (H : Int) ships (fl.take i) (rd fl (i : Int)) = some (goesV ships (fl.take i) (rd fl (i : Int))) := by
      unfold impl_Sea_goesOn.f
      rw [if_pos ⟨by rw [List.length_take]; omega, by omega⟩]
    have hc := contains_ev (placesOf W H n) (rd fl (i : Int)) (by have := placesOf_len (n := n) hW.2 hH.2; omega)
    have c1 : (i : Int) < (fl.length : Int) := by omega
    have c2 : (0 : Int) ≤ (i : Int) := by omega
    have c3 : (i : Int) < (ships.length : Int) := by omega
    have c4 : (i : Int) ≤ (fl.length : Int) := by omega
    have ih1 := ih (i + 1) (by omega)
    have hw := wrap_one hib
    have hu : fleetFrom W H ships fl i (d + 1) = ((placesOf W H n).contains (rd fl (i : Int)) && goesV ships (fl.take i) (rd fl (i : Int)) && fleetFrom W H ships fl (i + 1) d) := by
      show ((placesOf W H (rd ships (i : Int)).toNat).contains (rd fl (i : Int)) && goesV ships (fl.take i) (rd fl (i : Int)) && fleetFrom W H ships fl (i + 1) d) = _
      rw [hn, Int.toNat_natCast]
    rw [hu]
    refine Ev.step (f := fun k => (slices_Contains_int64_int64.f k (placesOf W H n) (rd fl (i : Int))).bind fun t419 => (if t419 = true then (if goesV ships (fl.take i) (rd fl (i : Int)) = true then (impl_Sea_isFleet.l0 k fl fl fl.length ((i + 1 : Nat) : Int) W H ships) else (some false)) else (some false))) (fun k => ?_) ?_
    · simp only [impl_Sea_isFleet.l0]
      rw [if_pos c1, if_pos c2, if_pos c1, if_pos c3, hp, Option.bind_some, if_pos c4, Int.toNat_natCast, hg, hw]
      simp only [Option.bind_some]
    · refine Ev.bind hc ?_
      cases (placesOf W H n).contains (rd fl (i : Int)) with
      | false => exact Ev.congr (f := fun _ => some false) (fun k => by rw [if_neg (by simp)]) (Ev.now _)
      | true =>
        cases goesV ships (fl.take i) (rd fl (i : Int)) with
        | false => exact Ev.congr (f := fun _ => some false) (fun k => by rw [if_pos rfl, if_neg (by simp)]) (Ev.now _)
        | true => exact Ev.congr (fun k => by rw [if_pos rfl, if_pos rfl]) ih1
theorem implFleet_ev {W H : Nat} (hW : 1 ≤ W ∧ W ≤ 5) (hH : 1 ≤ H ∧ H ≤ 5) (ships fl : List Int) (h3 : ships.length ≤ 3) (hs : ∀ j : Nat, j < ships.length → inW (rd ships (j : Int)) 1 5 = true) : Ev (fun k => impl_Sea_isFleet.f k W H ships fl) (fleetV W H ships fl) := by
  unfold impl_Sea_isFleet.f fleetV
  by_cases hl : fl.length = ships.length
  · rw [decide_eq_true hl, Bool.true_and]
    exact Ev.congr (fun k => by rw [if_pos (by omega)]; rfl) (fleet_impl_l0 hW hH ships fl hl h3 hs fl.length 0 (by omega))
  · rw [decide_eq_false hl]
    exact Ev.congr (f := fun _ => some false) (fun k => by rw [if_neg (by omega)]) (Ev.now _)
/-- The reference's search for the ship in the list. -/
theorem fleet_l1 {W H : Nat} (ships fl P : List Int) (hP : P.length ≤ 1000) (used i : Nat) (hi : i < fl.length) (v : Bool)
    (hyes : Ev (fun k => spec_l09Fleet.l1 k fl used i true P (P.length : Nat) W H ships) v) (hno : v = false ∨ P.contains (rd fl (i : Int)) = true) :
    ∀ (d j : Nat) (b : Bool), j + d = P.length → (b = true ∨ (P.drop j).contains (rd fl (i : Int)) = P.contains (rd fl (i : Int))) → Ev (fun k => spec_l09Fleet.l1 k fl used i b P j W H ships) v := by
  intro d
  induction d with
  | zero =>
    intro j b hj hb
    have e : j = P.length := by omega
    subst e
    cases b with
    | true => exact hyes
    | false =>
      rcases hb with hb | hb
      · cases hb
      · rw [List.drop_length] at hb
        have hv : v = false := by
          rcases hno with h | h
          · exact h
          · rw [h] at hb; cases hb
        subst hv
        refine Ev.step (f := fun _ => some false) (fun k => ?_) (Ev.now _)
        simp only [spec_l09Fleet.l1]
        rw [if_neg (by omega)]
        simp
  | succ d ih =>
    intro j b hj hb
    have hjl : j < P.length := by omega
    have c1 : (j : Int) < (P.length : Int) := by omega
    have c2 : (0 : Int) ≤ (j : Int) := by omega
    have c3 : (0 : Int) ≤ (i : Int) := by omega
    have c4 : (i : Int) < (fl.length : Int) := by omega
    have hjb : j ≤ 1000 := by omega
    have hrd : rd P (j : Int) = P[j] := rd_get P j hjl
    have ih1 := fun b => ih (j + 1) b (by omega)
    have hw := wrap_one hjb
    cases b with
    | true =>
      refine Ev.step (fun k => ?_) (ih1 true (.inl rfl))
      simp only [spec_l09Fleet.l1]
      rw [if_pos c1, if_pos trivial, hw]
    | false =>
      rcases hb with hb | hb
      · cases hb
      rw [List.drop_eq_getElem_cons hjl] at hb
      refine Ev.step (fun k => ?_) (ih1 (P[j] == rd fl (i : Int)) ?_)
      · simp only [spec_l09Fleet.l1]
        rw [if_pos c1, if_neg (by simp), if_pos c2, if_pos c3, if_pos c4, hw, hrd]
      · by_cases e : P[j] = rd fl (i : Int)
        · exact .inl (beq_iff_eq.2 e)
        · right
          rw [← hb]
          have : (rd fl (i : Int) == P[j]) = false := beq_eq_false_iff_ne.2 (fun h => e h.symm)
          simp only [List.contains_cons, this, Bool.false_or]
theorem fleet_spec_l0 {W H : Nat} (hW : 1 ≤ W ∧ W ≤ 5) (hH : 1 ≤ H ∧ H ≤ 5) (ships fl : List Int) (hl : fl.length = ships.length) (h3 : ships.length ≤ 3) (hs : ∀ j : Nat, j < ships.length → inW (rd ships (j : Int)) 1 5 = true) :
    ∀ (d i used : Nat), i + d = fl.length → UsedBy fl i used → Ev (fun k => spec_l09Fleet.l0 k fl used i W H ships) (fleetFrom W H ships fl i d) := by
  intro d
  induction d with
  | zero =>
    intro i used hi _
    refine Ev.step (f := fun _ => some true) (fun k => ?_) (Ev.now _)
    simp only [spec_l09Fleet.l0]
    rw [if_neg (by omega)]
  | succ d ih =>
    intro i used hi hu
    have hil : i < fl.length := by omega
    have hib : i ≤ 1000 := by omega
    obtain ⟨n, hn, hn1, hn5⟩ := inW_five (hs i (by omega))
    have hPe := specPlacements_ev hW hH.2 ⟨hn1, hn5⟩ ships
    have hPl : (placesOf W H n).length ≤ 1000 := by have := placesOf_len (n := n) hW.2 hH.2; omega
    have hPn := placesOf_num hW.1 hW.2 hH.2 hn1
    have hfr : fleetFrom W H ships fl i (d + 1) = ((placesOf W H n).contains (rd fl (i : Int)) && goesV ships (fl.take i) (rd fl (i : Int)) && fleetFrom W H ships fl (i + 1) d) := by
      show ((placesOf W H (rd ships (i : Int)).toNat).contains (rd fl (i : Int)) && goesV ships (fl.take i) (rd fl (i : Int)) && fleetFrom W H ships fl (i + 1) d) = _
      rw [hn, Int.toNat_natCast]
    rw [hfr]
    generalize placesOf W H n = P at hPe hPl hPn hfr ⊢
    have c1 : (i : Int) < (fl.length : Int) := by omega
    have c2 : (0 : Int) ≤ (i : Int) := by omega
    have c3 : (i : Int) < (ships.length : Int) := by omega
    have hw := Aside0.mk (wrap_one hib)
    refine Ev.step (f := fun k => (spec_l09Placements.f k W H ships (rd ships (i : Int))).bind fun t395 => (spec_l09Fleet.l1 k fl used i false t395 0 W H ships)) (fun k => ?_) ?_
    · simp only [spec_l09Fleet.l0]
      rw [if_pos c1, if_pos c2, if_pos c3]
    rw [hn]
    refine Ev.bind hPe ?_
    cases hcon : P.contains (rd fl (i : Int)) with
    | false =>
      rw [Bool.false_and, Bool.false_and]
      have key : ∀ (d j : Nat), j + d = P.length → (P.drop j).contains (rd fl (i : Int)) = false → Ev (fun k => spec_l09Fleet.l1 k fl used i false P j W H ships) false := by
        intro d
        induction d with
        | zero =>
          intro j hj _
          refine Ev.step (f := fun _ => some false) (fun k => ?_) (Ev.now _)
          simp only [spec_l09Fleet.l1]
          rw [if_neg (by omega)]
          simp
        | succ d ihd =>
          intro j hj hb
          have hjl : j < P.length := by omega
          have d1 : (j : Int) < (P.length : Int) := by omega
          have d2 : (0 : Int) ≤ (j : Int) := by omega
          have hjb : j ≤ 1000 := by omega
          have hrd : rd P (j : Int) = P[j] := rd_get P j hjl
          rw [List.drop_eq_getElem_cons hjl, List.contains_cons, Bool.or_eq_false_iff] at hb
          have ih1 := ihd (j + 1) (by omega) hb.2
          have hne : (P[j] == rd fl (i : Int)) = false := beq_eq_false_iff_ne.2 (fun h => beq_eq_false_iff_ne.1 hb.1 h.symm)
          have hw2 := wrap_one hjb
          refine Ev.step (fun k => ?_) ih1
          simp only [spec_l09Fleet.l1]
          rw [if_pos d1, if_neg (by simp), if_pos d2, if_pos c2, if_pos c1, hw2, hrd, hne]
      exact key P.length 0 (by omega) hcon
    | true =>
      rw [Bool.true_and]
      obtain ⟨m, hm, h0, h1⟩ := hPn _ (List.contains_iff_mem.1 hcon)
      have hgo := next_goes (ships := ships) hu hil hm h0 h1
      rw [hgo]
      have ih1 := ih (i + 1) (used ||| m) (by omega) (used_step hu hm h0 h1)
      have hnm : numAt fl i = m := by unfold numAt; rw [hm, Int.toNat_natCast]
      have hbu := bits_and_nat m used (Nat.lt_of_lt_of_le h1 pow25_le) (Nat.lt_of_lt_of_le hu.1 pow25_le)
      have hbo := bits_or_nat used m (Nat.lt_of_lt_of_le hu.1 pow25_le) (Nat.lt_of_lt_of_le h1 pow25_le)
      refine fleet_l1 ships fl P hPl used i hil _ ?_ (.inr hcon) P.length 0 false (by omega) (.inr (by rw [List.drop_zero]))
      have cP : ¬ ((P.length : Nat) : Int) < (P.length : Int) := by omega
      unfold nextOk
      rw [hnm]
      by_cases hz : m &&& used = 0
      · rw [decide_eq_true hz, Bool.true_and]
        by_cases hi0 : 0 < i
        · rw [decide_eq_true hi0, Bool.true_and]
          obtain ⟨p, hp⟩ : ∃ p, i = p + 1 := ⟨i - 1, by omega⟩
          have ep : ((i : Int) - 1) = (p : Int) := by omega
          have e0 : (i : Int) > 0 := by omega
          have e1 : (0 : Int) ≤ (p : Int) := by omega
          have e2 : (p : Int) < (ships.length : Int) := by omega
          have e3 : (p : Int) < (fl.length : Int) := by omega
          have hwp := wrap_num (n := p) (by omega)
          rw [ep]
          by_cases hse : rd ships (i : Int) = rd ships (p : Int)
          · rw [decide_eq_true hse, Bool.true_and]
            by_cases hlt : rd fl (i : Int) < rd fl (p : Int)
            · rw [decide_eq_true hlt]
              refine Ev.step (f := fun _ => some false) (fun k => ?_) (Ev.now _)
              simp only [spec_l09Fleet.l1]
              rw [if_neg cP, if_pos trivial, if_pos c2, if_pos c1, hm, hbu, hz, if_pos (by simp), if_pos e0, if_pos c3, ep, hwp, if_pos e1, if_pos e2, if_pos hse, if_pos e3, if_pos (by rw [← hm]; exact hlt)]
            · rw [decide_eq_false hlt, Bool.not_false, Bool.true_and]
              refine Ev.step (fun k => ?_) ih1
              simp only [spec_l09Fleet.l1]
              rw [if_neg cP, if_pos trivial, if_pos c2, if_pos c1, hm, hbu, hz, if_pos (by simp), if_pos e0, if_pos c3, ep, hwp, if_pos e1, if_pos e2, if_pos hse, if_pos e3, if_neg (by rw [← hm]; exact hlt), hbo, hw.out]
          · rw [decide_eq_false hse, Bool.false_and, Bool.not_false, Bool.true_and]
            refine Ev.step (fun k => ?_) ih1
            simp only [spec_l09Fleet.l1]
            rw [if_neg cP, if_pos trivial, if_pos c2, if_pos c1, hm, hbu, hz, if_pos (by simp), if_pos e0, if_pos c3, ep, hwp, if_pos e1, if_pos e2, if_neg hse, hbo, hw.out]
        · rw [decide_eq_false hi0, Bool.false_and, Bool.not_false, Bool.true_and]
          have e0 : ¬ (i : Int) > 0 := by omega
          refine Ev.step (fun k => ?_) ih1
          simp only [spec_l09Fleet.l1]
          rw [if_neg cP, if_pos trivial, if_pos c2, if_pos c1, hm, hbu, hz, if_pos (by simp), if_neg e0, hbo, hw.out]
      · rw [decide_eq_false hz, Bool.false_and, Bool.false_and]
        refine Ev.step (f := fun _ => some false) (fun k => ?_) (Ev.now _)
        simp only [spec_l09Fleet.l1]
        rw [if_neg cP, if_pos trivial, if_pos c2, if_pos c1, hm, hbu, if_neg (by omega)]
theorem specFleet_ev {W H : Nat} (hW : 1 ≤ W ∧ W ≤ 5) (hH : 1 ≤ H ∧ H ≤ 5) (ships fl : List Int) (h3 : ships.length ≤ 3) (hs : ∀ j : Nat, j < ships.length → inW (rd ships (j : Int)) 1 5 = true) : Ev (fun k => spec_l09Fleet.f k W H ships fl) (fleetV W H ships fl) := by
  unfold spec_l09Fleet.f fleetV
  by_cases hl : fl.length = ships.length
  · rw [decide_eq_true hl, Bool.true_and]
    exact Ev.congr (fun k => by rw [if_pos (by omega)]; rfl) (fleet_spec_l0 hW hH ships fl hl h3 hs fl.length 0 0 (by omega) (used_zero fl))
  · rw [decide_eq_false hl]
    exact Ev.congr (f := fun _ => some false) (fun k => by rw [if_neg (by omega)]) (Ev.now _)
theorem placeAt_bound {w h n c : Nat} (hw : 1 ≤ w) (hc : c < w * h) : ∀ z ∈ placeAt w h n c, ∃ m : Nat, z = (m : Int) ∧ m < 2 ^ (w * h) := by
  intro z hz
  unfold placeAt at hz
  have hdm := Nat.div_add_mod c w
  have hml := Nat.mod_lt c (show 0 < w by omega)
  have hdh : c / w < h := Nat.div_lt_of_lt_mul hc
  generalize c / w = y at *
  generalize c % w = x at *
  have hwy : w * (y + 1) ≤ w * h := Nat.mul_le_mul_left w hdh
  rw [Nat.mul_add, Nat.mul_one] at hwy
  rcases List.mem_append.1 hz with hz | hz
  · split at hz
    · rw [List.mem_singleton] at hz
      subst hz
      refine ⟨_, rfl, rowN_lt c 1 n (w * h) fun i hi => ?_⟩
      omega
    · cases hz
  · split at hz
    · rw [List.mem_singleton] at hz
      subst hz
      refine ⟨_, rfl, rowN_lt c w n (w * h) fun i hi => ?_⟩
      rename_i hyn
      have h1 : w * (y + i + 1) ≤ w * h := Nat.mul_le_mul_left w (by omega)
      rw [Nat.mul_add, Nat.mul_add, Nat.mul_one, Nat.mul_comm w i] at h1
      omega
    · cases hz
theorem placeTo_bound {w h n : Nat} (hw : 1 ≤ w) : ∀ k, k ≤ w * h → ∀ z ∈ placeTo w h n k, ∃ m : Nat, z = (m : Int) ∧ m < 2 ^ (w * h)
  | 0, _, z, hz => by cases hz
  | k + 1, hk, z, hz => by
    rcases List.mem_append.1 hz with hz | hz
    · exact placeTo_bound hw k (by omega) z hz
    · exact placeAt_bound hw (by omega) z hz
theorem placesOf_bound {w h n : Nat} (hw : 1 ≤ w) (hw5 : w ≤ 5) (hh : h ≤ 5) (hn : 1 ≤ n) : ∀ z ∈ placesOf w h n, ∃ m : Nat, z = (m : Int) ∧ m < 2 ^ (w * h) :=
  fun z hz => placeTo_bound hw _ (Nat.le_refl _) z (((placesOf_asc hw hw5 hh hn).2 z).1 hz)
-- Answers of a fleet to shots.
def ansFrom (fl : List Int) (c set : Int) : Nat → Nat → Int
  | _, 0 => 0
  | i, d + 1 => if Go.bits .and .i64 (shr .i64 (rd fl (i : Int)) c) 1 = 1 then (if Go.bits .andNot .i64 (rd fl (i : Int)) set = 0 then 2 else 1) else ansFrom fl c set (i + 1) d
def NumFleet (fl : List Int) : Prop := ∀ x ∈ fl, ∃ m : Nat, x = (m : Int) ∧ m < 33554432
theorem and_dich {fl : List Int} (hf : NumFleet fl) (q i : Nat) (hq : q < 25) (hi : i < fl.length) : Go.bits .and .i64 (shr .i64 (rd fl (i : Int)) (q : Int)) 1 = 1 ∨ Go.bits .and .i64 (shr .i64 (rd fl (i : Int)) (q : Int)) 1 = 0 := by
  obtain ⟨m, e, hm⟩ := hf _ (List.getElem_mem hi)
  rw [rd_get fl i hi, e, bit_nat m q (Nat.lt_of_lt_of_le hm pow25_le) (by omega)]
  split
  · exact .inl rfl
  · exact .inr rfl
theorem specAns_ev {fl : List Int} (hf : NumFleet fl) (hl : fl.length ≤ 1000) (q : Nat) (hq : q < 25) (set : Int) : Ev (fun k => spec_l09Answer.f k fl (q : Int) set) (ansFrom fl (q : Int) set 0 fl.length) := by
  unfold spec_l09Answer.f
  have hu := u64_nat q (by omega)
  have c3 : (0 : Int) ≤ (q : Int) := by omega
  have key : ∀ (d i : Nat), i + d = fl.length → Ev (fun k => spec_l09Answer.l0 k fl (q : Int) set i) (ansFrom fl (q : Int) set i d) := by
    intro d
    induction d with
    | zero =>
      intro i hi
      refine Ev.step (f := fun _ => some 0) (fun k => ?_) (Ev.now _)
      simp only [spec_l09Answer.l0]
      rw [if_neg (by omega)]
    | succ d ih =>
      intro i hi
      have c1 : (i : Int) < (fl.length : Int) := by omega
      have c2 : (0 : Int) ≤ (i : Int) := by omega
      have hw := Aside0.mk (wrap_one (a := i) (by omega))
      have ih1 := ih (i + 1) (by omega)
      rcases and_dich hf q i hq (by omega) with hb | hb
      · have he : ansFrom fl (q : Int) set i (d + 1) = if Go.bits .andNot .i64 (rd fl (i : Int)) set = 0 then 2 else 1 := by unfold ansFrom; rw [if_pos hb]
        rw [he]
        refine Ev.step (f := fun _ => some (if Go.bits .andNot .i64 (rd fl (i : Int)) set = 0 then 2 else 1)) (fun k => ?_) (Ev.now _)
        simp only [spec_l09Answer.l0]
        rw [if_pos c1, if_pos c2, hu, if_pos c3, hb, if_neg (by decide)]
        split <;> rfl
      · have he : ansFrom fl (q : Int) set i (d + 1) = ansFrom fl (q : Int) set (i + 1) d := by show (if _ then _ else _) = _; rw [if_neg (by rw [hb]; decide)]
        rw [he]
        refine Ev.step (fun k => ?_) ih1
        simp only [spec_l09Answer.l0]
        rw [if_pos c1, if_pos c2, hu, if_pos c3, hb, if_pos rfl, hw.out]
  exact key fl.length 0 (by omega)
theorem implAns_ev {fl : List Int} (hf : NumFleet fl) (hl : fl.length ≤ 1000) (q : Nat) (hq : q < 25) (shot : Int) : Ev (fun k => impl_answer.f k fl shot (q : Int)) (ansFrom fl (q : Int) (Go.bits .or .i64 shot (shl .i64 1 (q : Int))) 0 fl.length) := by
  unfold impl_answer.f
  have c3 : (0 : Int) ≤ (q : Int) := by omega
  have key : ∀ (d i : Nat), i + d = fl.length → Ev (fun k => impl_answer.l0 k shot (q : Int) fl fl.length i) (ansFrom fl (q : Int) (Go.bits .or .i64 shot (shl .i64 1 (q : Int))) i d) := by
    intro d
    induction d with
    | zero =>
      intro i hi
      refine Ev.step (f := fun _ => some 0) (fun k => ?_) (Ev.now _)
      simp only [impl_answer.l0]
      rw [if_neg (by omega)]
    | succ d ih =>
      intro i hi
      have c1 : (i : Int) < (fl.length : Int) := by omega
      have c2 : (0 : Int) ≤ (i : Int) := by omega
      have hw := Aside0.mk (wrap_one (a := i) (by omega))
      have ih1 := ih (i + 1) (by omega)
      have w2 : wrap64 (1 + 1) = 2 := wrap_small (z := 2) (by omega) (by omega)
      have w1 : wrap64 (1 + 0) = 1 := wrap_small (z := 1) (by omega) (by omega)
      rcases and_dich hf q i hq (by omega) with hb | hb
      · have he : ansFrom fl (q : Int) (Go.bits .or .i64 shot (shl .i64 1 (q : Int))) i (d + 1) = if Go.bits .andNot .i64 (rd fl (i : Int)) (Go.bits .or .i64 shot (shl .i64 1 (q : Int))) = 0 then 2 else 1 := by show (if _ then _ else _) = _; rw [if_pos hb]
        rw [he]
        refine Ev.step (f := fun _ => some (if Go.bits .andNot .i64 (rd fl (i : Int)) (Go.bits .or .i64 shot (shl .i64 1 (q : Int))) = 0 then 2 else 1)) (fun k => ?_) (Ev.now _)
        simp only [impl_answer.l0]
        rw [if_pos c1, if_pos c2, if_pos c1, if_pos c3, hb, if_pos rfl]
        by_cases hz : Go.bits .andNot .i64 (rd fl (i : Int)) (Go.bits .or .i64 shot (shl .i64 1 (q : Int))) = 0
        · rw [if_pos hz, beq_iff_eq.2 hz]
          unfold impl_bit.f
          rw [if_pos rfl, Option.bind_some, w2]
        · rw [if_neg hz, beq_eq_false_iff_ne.2 hz]
          unfold impl_bit.f
          rw [if_neg (by simp), Option.bind_some, w1]
      · have he : ansFrom fl (q : Int) (Go.bits .or .i64 shot (shl .i64 1 (q : Int))) i (d + 1) = ansFrom fl (q : Int) (Go.bits .or .i64 shot (shl .i64 1 (q : Int))) (i + 1) d := by show (if _ then _ else _) = _; rw [if_neg (by rw [hb]; decide)]
        rw [he]
        refine Ev.step (fun k => ?_) ih1
        simp only [impl_answer.l0]
        rw [if_pos c1, if_pos c2, if_pos c1, if_pos c3, hb, if_neg (by decide), hw.out]
  exact key fl.length 0 (by omega)
/-- All answers. -/
def ansTo (fl cells : List Int) : Nat → Nat → Int → List Int → List Int
  | _, 0, _, out => out
  | i, d + 1, set, out => ansTo fl cells (i + 1) d (Go.bits .or .i64 set (shl .i64 1 (rd cells (i : Int)))) (out ++ [ansFrom fl (rd cells (i : Int)) (Go.bits .or .i64 set (shl .i64 1 (rd cells (i : Int)))) 0 fl.length])
theorem ansTo_len (fl cells : List Int) : ∀ (d i : Nat) (set : Int) (out : List Int), (ansTo fl cells i d set out).length = out.length + d
  | 0, _, _, out => rfl
  | d + 1, i, set, out => by
    show (ansTo fl cells (i + 1) d _ _).length = _
    rw [ansTo_len fl cells d]; simp; omega
def SeaCells (cells : List Int) : Prop := ∀ x ∈ cells, 0 ≤ x ∧ x ≤ 24
theorem specAnsL_ev {fl cells : List Int} (hf : NumFleet fl) (hl : fl.length ≤ 1000) (hc : SeaCells cells) (hcl : cells.length ≤ 1048576) : ∀ (d i : Nat) (set : Int) (out : List Int), i + d = cells.length → out.length = i → Ev (fun k => spec_AnswersOf.l0 k fl cells out set i) (ansTo fl cells i d set out, 0) := by
  intro d
  induction d with
  | zero =>
    intro i set out hi _
    refine Ev.step (f := fun _ => some (out, 0)) (fun k => ?_) (Ev.now _)
    simp only [spec_AnswersOf.l0]
    rw [if_neg (by omega)]
  | succ d ih =>
    intro i set out hi ho
    have hil : i < cells.length := by omega
    have c1 : (i : Int) < (cells.length : Int) := by omega
    have c2 : (0 : Int) ≤ (i : Int) := by omega
    have hol : out.length < 17592186044416 := by omega
    have hx := hc _ (List.getElem_mem hil)
    have hrd := rd_get cells i hil
    rw [← hrd] at hx
    obtain ⟨q, hq, hq25⟩ : ∃ q : Nat, rd cells (i : Int) = (q : Int) ∧ q < 25 := ⟨(rd cells (i : Int)).toNat, by omega, by omega⟩
    have hu := u64_nat q (by omega)
    have c3 : (0 : Int) ≤ (q : Int) := by omega
    have hwi := Aside0.mk (show wrap64 ((i : Int) + 1) = ((i + 1 : Nat) : Int) by rw [show (i : Int) + 1 = ((i + 1 : Nat) : Int) by omega]; exact wrap_num (by omega))
    show Ev _ (ansTo fl cells (i + 1) d (Go.bits .or .i64 set (shl .i64 1 (rd cells (i : Int)))) (out ++ [ansFrom fl (rd cells (i : Int)) (Go.bits .or .i64 set (shl .i64 1 (rd cells (i : Int)))) 0 fl.length]), 0)
    have ih1 := ih (i + 1) (Go.bits .or .i64 set (shl .i64 1 (rd cells (i : Int)))) (out ++ [ansFrom fl (rd cells (i : Int)) (Go.bits .or .i64 set (shl .i64 1 (rd cells (i : Int)))) 0 fl.length]) (by omega) (by simp [ho])
    rw [hq] at ih1 ⊢
    refine Ev.step (f := fun k => (spec_l09Answer.f k fl (q : Int) (Go.bits .or .i64 set (shl .i64 1 (q : Int)))).bind fun t655 => spec_AnswersOf.l0 k fl cells (out ++ [t655]) (Go.bits .or .i64 set (shl .i64 1 (q : Int))) ((i + 1 : Nat) : Int)) (fun k => ?_) (Ev.bind (specAns_ev hf hl q hq25 _) ih1)
    simp only [spec_AnswersOf.l0]
    rw [if_pos c1, if_pos c2, hq, hu, if_pos c3, hwi.out]
    simp only [if_pos hol]
theorem implAnsL_ev {fl cells : List Int} (hf : NumFleet fl) (hl : fl.length ≤ 1000) (hc : SeaCells cells) (hcl : cells.length ≤ 1048576) : ∀ (d i : Nat) (set : Int) (out : List Int), i + d = cells.length → out.length = i → Ev (fun k => impl_AnswersOf.l0 k fl out set cells cells.length i) (ansTo fl cells i d set out, 0) := by
  intro d
  induction d with
  | zero =>
    intro i set out hi _
    refine Ev.step (f := fun _ => some (out, 0)) (fun k => ?_) (Ev.now _)
    simp only [impl_AnswersOf.l0]
    rw [if_neg (by omega)]
  | succ d ih =>
    intro i set out hi ho
    have hil : i < cells.length := by omega
    have c1 : (i : Int) < (cells.length : Int) := by omega
    have c2 : (0 : Int) ≤ (i : Int) := by omega
    have hol : out.length < 17592186044416 := by omega
    have hx := hc _ (List.getElem_mem hil)
    have hrd := rd_get cells i hil
    rw [← hrd] at hx
    obtain ⟨q, hq, hq25⟩ : ∃ q : Nat, rd cells (i : Int) = (q : Int) ∧ q < 25 := ⟨(rd cells (i : Int)).toNat, by omega, by omega⟩
    have c3 : (0 : Int) ≤ (q : Int) := by omega
    have hwi := Aside0.mk (show wrap64 ((i : Int) + 1) = ((i + 1 : Nat) : Int) by rw [show (i : Int) + 1 = ((i + 1 : Nat) : Int) by omega]; exact wrap_num (by omega))
    show Ev _ (ansTo fl cells (i + 1) d (Go.bits .or .i64 set (shl .i64 1 (rd cells (i : Int)))) (out ++ [ansFrom fl (rd cells (i : Int)) (Go.bits .or .i64 set (shl .i64 1 (rd cells (i : Int)))) 0 fl.length]), 0)
    have ih1 := ih (i + 1) (Go.bits .or .i64 set (shl .i64 1 (rd cells (i : Int)))) (out ++ [ansFrom fl (rd cells (i : Int)) (Go.bits .or .i64 set (shl .i64 1 (rd cells (i : Int)))) 0 fl.length]) (by omega) (by simp [ho])
    rw [hq] at ih1 ⊢
    refine Ev.step (f := fun k => (impl_answer.f k fl set (q : Int)).bind fun t667 => impl_AnswersOf.l0 k fl (out ++ [t667]) (Go.bits .or .i64 set (shl .i64 1 (q : Int))) cells cells.length ((i + 1 : Nat) : Int)) (fun k => ?_) (Ev.bind (implAns_ev hf hl q hq25 set) ih1)
    simp only [impl_AnswersOf.l0]
    rw [if_pos c1, if_pos c2, if_pos c1, hq, hwi.out]
    simp only [if_pos hol, if_pos c3]
-- The codes of a sea, a fleet and no cells.
theorem first_one (b : Bool) : Ev (fun k => impl_first.f k [⟨b, 2⟩]) (if b = true then 0 else 2) := by
  refine ⟨4, fun k hk => ?_⟩
  obtain ⟨k', rfl⟩ : ∃ k', k = k' + 4 := ⟨k - 4, by omega⟩
  have w1 : wrap64 1 = 1 := by unfold wrap64; omega
  have r0 : ∀ u : S70, rd_T70 [u] 0 = u := fun _ => rfl
  cases b <;> simp [impl_first.f, impl_first.l0, w1, r0]
/-- The code of a sea and a fleet. -/
def codeV (w h : Int) (l fl : List Int) : Int := if seaV w h l = true then (if fleetV w.toNat h.toNat l fl = true then 0 else 2) else 1
theorem sea_ships {w h : Int} {l : List Int} (hs : seaV w h l = true) : ∀ j : Nat, j < l.length → inW (rd l (j : Int)) 1 5 = true := by
  have hsh : shipsFrom l 0 l.length = true := by
    unfold seaV at hs
    simp only [Bool.and_eq_true] at hs
    exact hs.2
  exact fun j hj => ships_in l.length 0 (by omega) hsh j (Nat.zero_le _) hj
theorem specCode_ev (w h : Int) (l fl : List Int) (hl : l.length ≤ 1048576) : Ev (fun k => spec_l09Code.f k w h l fl) (codeV w h l fl) := by
  have e1 := l09Is_ev w h l (by omega)
  unfold spec_l09Code.f codeV
  cases hs : seaV w h l with
  | false =>
    rw [hs] at e1
    rw [if_neg (by simp)]
    exact Ev.bind e1 (Ev.congr (fun k => by rw [if_neg (by simp)]) (Ev.now _))
  | true =>
    rw [hs] at e1
    obtain ⟨⟨wn, rfl, hw1, hw5⟩, ⟨hn', rfl, hh1, hh5⟩, _, h3⟩ := seaV_nat hs
    have e2 := specFleet_ev ⟨hw1, hw5⟩ ⟨hh1, hh5⟩ l fl h3 (sea_ships hs)
    simp only [Int.toNat_natCast]
    rw [if_pos trivial]
    refine Ev.bind e1 (Ev.congr (fun k => by rw [if_pos rfl]) (Ev.bind e2 ?_))
    by_cases hfv : fleetV wn hn' l fl = true
    · simp only [hfv, if_true]; exact Ev.now _
    · simp only [hfv, if_false, Bool.false_eq_true]; exact Ev.now _
/-- The code of a sea, a fleet and cells. -/
def cellsV (w h : Int) (cells : List Int) : Bool := rising (cells.mergeSort fun x y => decide (x ≤ y)) 0 (wrap64 (wrap64 (w * h) - 1))
def code2V (w h : Int) (l fl cells : List Int) : Int := if codeV w h l fl = 0 then (if cellsV w h cells = true then 0 else 2) else codeV w h l fl
theorem implCode2_ev (w h : Int) (l fl cells : List Int) (hl : l.length ≤ 1048576) (hcl : cells.length ≤ 1048576) : Ev (fun k => impl_fleetCode.f k w h l fl cells) (code2V w h l fl cells) := by
  have e1 := implIsSea_ev w h l (by omega)
  unfold impl_fleetCode.f code2V codeV
  cases hs : seaV w h l with
  | false =>
    rw [hs] at e1
    rw [if_neg (by simp), if_neg (by simp)]
    exact Ev.bind e1 (Ev.congr (fun k => by rw [if_neg (by simp)]) (Ev.now _))
  | true =>
    rw [hs] at e1
    obtain ⟨⟨wn, rfl, hw1, hw5⟩, ⟨hn', rfl, hh1, hh5⟩, _, h3⟩ := seaV_nat hs
    have e2 := implFleet_ev ⟨hw1, hw5⟩ ⟨hh1, hh5⟩ l fl h3 (sea_ships hs)
    have hc : impl_Sea_areCells.f (wn : Int) (hn' : Int) l cells = some (cellsV wn hn' cells) := by
      unfold impl_Sea_areCells.f
      rw [if_pos hcl]; rfl
    have e3 := first_one (cellsV wn hn' cells)
    have e4 := first_one false
    simp only [Int.toNat_natCast]
    refine Ev.bind e1 (Ev.congr (fun k => by rw [if_pos rfl]) (Ev.bind e2 ?_))
    by_cases hfv : fleetV wn hn' l fl = true
    · simp only [hfv, if_true]
      exact Ev.congr (fun k => by rw [hc, Option.bind_some]) (Ev.bind e3 (Ev.now _))
    · simp only [hfv, if_true, if_false, Bool.false_eq_true]
      exact Ev.bind e4 (Ev.now _)
/-- What a fleet is made of. -/
theorem fleet_mem {W H : Nat} {ships fl : List Int} : ∀ (d i : Nat), i + d = fl.length → fleetFrom W H ships fl i d = true → ∀ j, i ≤ j → j < fl.length → rd fl (j : Int) ∈ placesOf W H (rd ships (j : Int)).toNat
  | 0, i, hd, _, j, h1, h2 => by omega
  | d + 1, i, hd, h, j, h1, h2 => by
    unfold fleetFrom at h
    simp only [Bool.and_eq_true] at h
    by_cases e : j = i
    · subst e; exact List.contains_iff_mem.1 h.1.1
    · exact fleet_mem d (i + 1) (by omega) h.2 j (by omega) h2
theorem code_zero {w h : Int} {l fl : List Int} (h0 : codeV w h l fl = 0) : ∃ wn hn : Nat, w = wn ∧ h = hn ∧ 1 ≤ wn ∧ wn ≤ 5 ∧ 1 ≤ hn ∧ hn ≤ 5 ∧ l.length ≤ 3 ∧ fl.length = l.length ∧ ∀ x ∈ fl, ∃ m : Nat, x = (m : Int) ∧ m < 2 ^ (wn * hn) := by
  unfold codeV at h0
  by_cases hs : seaV w h l = true
  · rw [if_pos hs] at h0
    obtain ⟨⟨wn, rfl, hw1, hw5⟩, ⟨hn', rfl, hh1, hh5⟩, _, h3⟩ := seaV_nat hs
    simp only [Int.toNat_natCast] at h0
    by_cases hf : fleetV wn hn' l fl = true
    · unfold fleetV at hf
      simp only [Bool.and_eq_true, decide_eq_true_eq] at hf
      refine ⟨wn, hn', rfl, rfl, hw1, hw5, hh1, hh5, h3, hf.1, fun x hx => ?_⟩
      obtain ⟨j, hj, rfl⟩ := List.mem_iff_getElem.1 hx
      have hm := fleet_mem fl.length 0 (by omega) hf.2 j (Nat.zero_le _) hj
      obtain ⟨n, hn, hn1, hn5⟩ := inW_five (sea_ships hs j (by omega))
      rw [hn, Int.toNat_natCast, rd_get _ _ hj] at hm
      exact placesOf_bound hw1 hw5 hh5 hn1 _ hm
    · rw [if_neg hf] at h0; omega
  · rw [if_neg hs] at h0; omega
-- Different cells of a sea: the program sorts them, the reference keeps a set.
def fromOk (a : Int) : Option Int → Bool
  | none => true
  | some q => !decide (a ≤ q)
theorem risingFrom_cons (lo hi a : Int) (r : List Int) (p : Option Int) : risingFrom lo hi p (a :: r) = (inW a lo hi && fromOk a p && risingFrom lo hi (some a) r) := by
  cases p <;> simp [risingFrom, fromOk]
theorem risingFrom_iff (lo hi : Int) : ∀ (l : List Int) (p : Option Int), risingFrom lo hi p l = true ↔ (∀ x ∈ l, lo ≤ x ∧ x ≤ hi) ∧ l.Pairwise (· < ·) ∧ ∀ q, p = some q → ∀ x ∈ l.head?, q < x := by
  intro l
  induction l with
  | nil => intro p; simp [risingFrom]
  | cons a r ih =>
    intro p
    rw [risingFrom_cons]
    have hw : inW a lo hi = true ↔ lo ≤ a ∧ a ≤ hi := by unfold inW; simp
    rw [Bool.and_eq_true, Bool.and_eq_true, hw, ih]
    constructor
    · rintro ⟨⟨h1, h2⟩, h3, h4, h5⟩
      have hall : ∀ x ∈ r, a < x := by
        cases r with
        | nil => intro x hx; cases hx
        | cons b t =>
          have hab : a < b := h5 a rfl b (by simp)
          intro x hx
          rcases List.mem_cons.1 hx with rfl | hx
          · exact hab
          · have := (List.pairwise_cons.1 h4).1 x hx
            omega
      refine ⟨fun x hx => ?_, List.pairwise_cons.2 ⟨hall, h4⟩, fun q hq x hx => ?_⟩
      · rcases List.mem_cons.1 hx with rfl | hx
        · exact h1
        · exact h3 x hx
      · subst hq
        simp at hx
        subst hx
        simpa [fromOk] using h2
    · rintro ⟨h1, h2, h3⟩
      refine ⟨⟨h1 a (List.mem_cons_self ..), ?_⟩, fun x hx => h1 x (List.mem_cons_of_mem _ hx), (List.pairwise_cons.1 h2).2, fun q hq x hx => ?_⟩
      · cases p with
        | none => rfl
        | some q => have := h3 q rfl a (by simp); simpa [fromOk] using this
      · cases hq
        exact (List.pairwise_cons.1 h2).1 x (List.mem_of_mem_head? hx)
theorem rising_sorted (l : List Int) (lo hi : Int) : rising (l.mergeSort fun x y => decide (x ≤ y)) lo hi = true ↔ (∀ x ∈ l, lo ≤ x ∧ x ≤ hi) ∧ l.Nodup := by
  have hp : (l.mergeSort fun x y => decide (x ≤ y)).Perm l := List.mergeSort_perm _ _
  have hs : (l.mergeSort fun x y => decide (x ≤ y)).Pairwise (fun a b => decide (a ≤ b) = true) := List.pairwise_mergeSort (fun a b c h1 h2 => by simp at *; omega) (fun a b => by simp; omega) l
  unfold rising
  rw [risingFrom_iff]
  generalize l.mergeSort (fun x y => decide (x ≤ y)) = z at hp hs
  constructor
  · rintro ⟨h1, h2, _⟩
    exact ⟨fun x hx => h1 x (hp.mem_iff.2 hx), hp.nodup_iff.1 (h2.imp fun h => by omega)⟩
  · rintro ⟨h1, h2⟩
    refine ⟨fun x hx => h1 x (hp.mem_iff.1 hx), ?_, fun q hq => by cases hq⟩
    have hn := hp.nodup_iff.2 h2
    exact (hs.and hn).imp fun ⟨ha, hb⟩ => by
      have := of_decide_eq_true ha
      omega
/-- The reference's test. -/
def diffL (N : Nat) : Nat → List Int → Bool
  | _, [] => true
  | s, x :: r => inW x 0 ((N : Int) - 1) && (!(s.testBit x.toNat) && diffL N (s ||| 2 ^ x.toNat) r)
theorem diffL_iff (N : Nat) : ∀ (l : List Int) (s : Nat), diffL N s l = true ↔ (∀ x ∈ l, 0 ≤ x ∧ x ≤ (N : Int) - 1) ∧ l.Nodup ∧ ∀ x ∈ l, s.testBit x.toNat = false := by
  intro l
  induction l with
  | nil => intro s; simp [diffL]
  | cons a r ih =>
    intro s
    have hw : inW a 0 ((N : Int) - 1) = true ↔ 0 ≤ a ∧ a ≤ (N : Int) - 1 := by unfold inW; simp
    unfold diffL
    rw [Bool.and_eq_true, Bool.and_eq_true, hw, ih, Bool.not_eq_true']
    have hbit : ∀ x : Int, (s ||| 2 ^ a.toNat).testBit x.toNat = false ↔ s.testBit x.toNat = false ∧ ¬ a.toNat = x.toNat := by
      intro x
      rw [Nat.testBit_or, Bool.or_eq_false_iff, Nat.testBit_two_pow]
      simp
    constructor
    · rintro ⟨h1, h2, h3, h4, h5⟩
      refine ⟨fun x hx => ?_, List.nodup_cons.2 ⟨fun hm => ?_, h4⟩, fun x hx => ?_⟩
      · rcases List.mem_cons.1 hx with rfl | hx
        · exact h1
        · exact h3 x hx
      · exact ((hbit a).1 (h5 a hm)).2 rfl
      · rcases List.mem_cons.1 hx with rfl | hx
        · exact h2
        · exact ((hbit x).1 (h5 x hx)).1
    · rintro ⟨h1, h2, h3⟩
      have h2' := List.nodup_cons.1 h2
      have ha := h1 a (List.mem_cons_self ..)
      refine ⟨ha, h3 a (List.mem_cons_self ..), fun x hx => h1 x (List.mem_cons_of_mem _ hx), h2'.2, fun x hx => (hbit x).2 ⟨h3 x (List.mem_cons_of_mem _ hx), fun e => h2'.1 ?_⟩⟩
      have hx' := h1 x (List.mem_cons_of_mem _ hx)
      have : a = x := by omega
      rw [this]; exact hx
theorem diff_rising (N : Nat) (l : List Int) : diffL N 0 l = rising (l.mergeSort fun x y => decide (x ≤ y)) 0 ((N : Int) - 1) := by
  have h1 := diffL_iff N l 0
  have h2 := rising_sorted l 0 ((N : Int) - 1)
  rw [Bool.eq_iff_iff, h1, h2]
  constructor
  · rintro ⟨a, b, _⟩; exact ⟨a, b⟩
  · rintro ⟨a, b⟩; exact ⟨a, b, fun x _ => Nat.zero_testBit _⟩
theorem specDiff_ev {W H N : Nat} (hN : W * H = N) (hN25 : N ≤ 25) (ships l : List Int) (hl : l.length ≤ 1048576) : Ev (fun k => spec_l09Different.f k W H ships l) (diffL N 0 l) := by
  unfold spec_l09Different.f
  have hw : wrap64 (wrap64 ((W : Int) * (H : Int)) - 1) = (N : Int) - 1 := by
    rw [wrap_mul hN (by omega)]
    exact wrap_small (by omega) (by omega)
  have key : ∀ (d i s : Nat), i + d = l.length → s < 33554432 → Ev (fun k => spec_l09Different.l0 k l (s : Int) i W H ships) (diffL N s (l.drop i)) := by
    intro d
    induction d with
    | zero =>
      intro i s hi _
      rw [List.drop_eq_nil_of_le (by omega)]
      refine Ev.step (f := fun _ => some true) (fun k => ?_) (Ev.now _)
      simp only [spec_l09Different.l0]
      rw [if_neg (by omega)]
    | succ d ih =>
      intro i s hi hs
      have hil : i < l.length := by omega
      have c1 : (i : Int) < (l.length : Int) := by omega
      have c2 : (0 : Int) ≤ (i : Int) := by omega
      have hrd := rd_get l i hil
      have hwi := Aside0.mk (show wrap64 ((i : Int) + 1) = ((i + 1 : Nat) : Int) by rw [show (i : Int) + 1 = ((i + 1 : Nat) : Int) by omega]; exact wrap_num (by omega))
      rw [List.drop_eq_getElem_cons hil]
      generalize l[i] = x at hrd
      unfold diffL
      cases hx : inW x 0 ((N : Int) - 1) with
      | false =>
        rw [Bool.false_and]
        refine Ev.step (f := fun _ => some false) (fun k => ?_) (Ev.now _)
        simp only [spec_l09Different.l0]
        rw [if_pos c1, if_pos c2, in_inW, hw, hrd, hx, Option.bind_some, if_neg (by simp)]
      | true =>
        rw [Bool.true_and]
        obtain ⟨q, rfl, hq⟩ : ∃ q : Nat, x = (q : Int) ∧ q < N := by
          unfold inW at hx
          simp only [Bool.and_eq_true, decide_eq_true_eq] at hx
          exact ⟨x.toNat, by omega, by omega⟩
        rw [Int.toNat_natCast]
        have hu := u64_nat q (by omega)
        have c3 : (0 : Int) ≤ (q : Int) := by omega
        have hb := bit_nat s q (Nat.lt_of_lt_of_le hs pow25_le) (by omega)
        have hsh := shl_nat q (by omega)
        have hpq : 2 ^ q < 33554432 := Nat.lt_of_lt_of_le (Nat.pow_lt_pow_right (by omega) (show q < 25 by omega)) (by simp)
        have hor := bits_or_nat s (2 ^ q) (Nat.lt_of_lt_of_le hs pow25_le) (Nat.lt_of_lt_of_le hpq pow25_le)
        cases ht : s.testBit q with
        | true =>
          rw [ht, if_pos rfl] at hb
          refine Ev.step (f := fun _ => some false) (fun k => ?_) (Ev.now _)
          simp only [spec_l09Different.l0]
          rw [if_pos c1, if_pos c2, in_inW, hw, hrd, hx, Option.bind_some, if_pos rfl, hu, if_pos c3, hb, if_pos rfl]
        | false =>
          rw [ht, if_neg (by simp)] at hb
          rw [Bool.not_false, Bool.true_and]
          refine Ev.step (fun k => ?_) (ih (i + 1) (s ||| 2 ^ q) (by omega) (Nat.or_lt_two_pow (n := 25) hs hpq))
          simp only [spec_l09Different.l0]
          rw [if_pos c1, if_pos c2, in_inW, hw, hrd, hx, Option.bind_some, if_pos rfl, hu, if_pos c3, hb, if_neg (by decide), hsh, hor, hwi.out]
  have := key l.length 0 0 (by omega) (by omega)
  rw [List.drop_zero] at this
  exact this
/-- The one pure statement of laws_FnExactAnswersOf. -/
def laws_FnExactAnswersOf.Pure : Prop := ∀ (a0_0 : Int) (a0_1 : Int) (l0_2 : List Int) (l1 : List Int) (l2 : List Int), (Lit.int .i64 a0_0).wf = true → (Lit.int .i64 a0_1).wf = true → (l0_2.length ≤ maxLen ∧ ∀ y6_ ∈ l0_2, (Lit.int .i64 y6_).wf = true) → (l1.length ≤ maxLen ∧ ∀ y7_ ∈ l1, (Lit.int .i64 y7_).wf = true) → (l2.length ≤ maxLen ∧ ∀ y8_ ∈ l2, (Lit.int .i64 y8_).wf = true) → ∃ k, laws_FnExactAnswersOf.f k a0_0 a0_1 l0_2 l1 l2 = some true
/-- A type's readings as data are values of a kind: what an argument of that type is, whatever it holds. -/
def Rdb {α : Type} (P : Program) (t : TypeId) (d : Kd α) (wf : α → Prop) : Prop :=
  ∀ (H : Type) (enc : TypeId × Value → H) (w : World) (base : Nat) (spare : Nat → Bool) (held : Bool) (fuel : Nat) (cs : List Value) (x : DataW H × List MemPlace),
    DataW.trod enc P w base spare held fuel t cs = some x → ∃ a : α, d.K w a cs ∧ wf a
theorem Rdb.int {P : Program} {t : TypeId} {k : IntKind} (ht : P.underlying t = some (.int k)) : Rdb P t (Kd.int k) (fun n => (Lit.int k n).wf = true) := by
  intro H enc w base spare held fuel cs x h
  obtain ⟨n, rfl, _, hw⟩ := DataW.trod_int ht h
  exact ⟨n, rfl, hw⟩
theorem Rdb.bool {P : Program} {t : TypeId} (ht : P.underlying t = some .bool) : Rdb P t Kd.bool (fun _ => True) := by
  intro H enc w base spare held fuel cs x h
  obtain ⟨n, rfl, _⟩ := DataW.trod_bool ht h
  exact ⟨n, rfl, trivial⟩
theorem Rdb.string {P : Program} {t : TypeId} (ht : P.underlying t = some .string) : Rdb P t Kd.string (fun s => s.size ≤ maxLen) := by
  intro H enc w base spare held fuel cs x h
  obtain ⟨s, rfl, _, hs⟩ := DataW.trod_string ht h
  exact ⟨s, rfl, hs⟩
theorem list_choose {α β : Type} {R : Nat → α → β → Prop} : ∀ (n : Nat) (xs : List α), xs.length = n → (∀ i x, xs[i]? = some x → ∃ y, R i x y) → ∃ ys : List β, ys.length = n ∧ ∀ i x y, xs[i]? = some x → ys[i]? = some y → R i x y := by
  intro n xs
  induction xs generalizing n R with
  | nil =>
    intro hl _
    exact ⟨[], by simpa using hl, by intro i x y h; simp at h⟩
  | cons x xs ih =>
    intro hl h
    obtain ⟨y, hy⟩ := h 0 x rfl
    obtain ⟨ys, h1, h2⟩ := ih (R := fun i a b => R (i + 1) a b) (n - 1) (by simp at hl; omega) (fun i a hi => h (i + 1) a (by simpa using hi))
    refine ⟨y :: ys, by simp at hl ⊢; omega, fun i a b ha hb => ?_⟩
    cases i with
    | zero =>
      simp at ha hb
      subst ha hb
      exact hy
    | succ i => exact h2 i a b (by simpa using ha) (by simpa using hb)
theorem Rdb.slice {α : Type} {P : Program} {t e : TypeId} {d : Kd α} {wf : α → Prop} (ht : P.underlying t = some (.slice e)) (hc : P.cellsOf e = d.sz) (h1 : 0 < d.sz) (r : Rdb P e d wf) :
    Rdb P t (Kd.slice e d) (fun l => l.length ≤ maxLen ∧ ∀ x ∈ l, wf x) := by
  intro H enc w base spare held fuel cs x h
  rcases DataW.trod_slice ht h with ⟨rfl, _⟩ | ⟨a, len, cap, elems, rest, n, _, rfl, _, hb, hl, hm, hlen, hel, _, _⟩
  · exact ⟨[], ⟨none, 0, rfl, by simp, Kd.C_nil _ _⟩, by simp, by simp⟩
  · have each : ∀ i (y : DataW H × List MemPlace), elems[i]? = some y → ∃ b : α, ∃ c, w.cells? base (a.add (i * P.cellsOf e)) (P.cellsOf e) = some c ∧ d.K w b c ∧ wf b := by
      intro i y hy
      have hi : i < len := by have := (List.getElem?_eq_some_iff.1 hy).1; omega
      have h2 := hel i hi
      rw [hy, Option.bind_eq_some_iff] at h2
      obtain ⟨c, hcs, htr⟩ := h2
      obtain ⟨b, hK, hw⟩ := r H enc w base spare held n c y htr
      exact ⟨b, c, hcs, hK, hw⟩
    obtain ⟨xs, hx1, hx2⟩ := list_choose (R := fun i _ (b : α) => ∃ c, w.cells? base (a.add (i * P.cellsOf e)) (P.cellsOf e) = some c ∧ d.K w b c ∧ wf b) len elems hlen each
    have get : ∀ i b, xs[i]? = some b → ∃ c, w.cells? base (a.add (i * P.cellsOf e)) (P.cellsOf e) = some c ∧ d.K w b c ∧ wf b := by
      intro i b hb'
      have hi : i < elems.length := by have := (List.getElem?_eq_some_iff.1 hb').1; omega
      exact hx2 i _ b (List.getElem?_eq_getElem hi) hb'
    refine ⟨xs, ⟨some a, cap, by rw [hx1], by omega, ?_⟩, by omega, fun b hb' => ?_⟩
    · refine ⟨rfl, by rw [hx1]; unfold maxLen at hm; omega, fun hp => ⟨a, rfl, fun j b hj => ?_⟩⟩
      obtain ⟨c, hcs, hK, _⟩ := get j b hj
      obtain ⟨_, hcl, hcell⟩ := World.cells?_some hcs
      refine ⟨c, by rw [hcl, hc], hK, fun i u hu => ?_⟩
      have hi : i < P.cellsOf e := by have := (List.getElem?_eq_some_iff.1 hu).1; omega
      have := hcell i hi
      rw [hu] at this
      rw [Addr.add_add] at this
      rw [← hc]
      exact this
    · obtain ⟨i, hi⟩ := List.mem_iff_getElem?.1 hb'
      obtain ⟨_, _, _, hw⟩ := get i b hi
      exact hw
theorem Rdb.struct3 {α β γ : Type} {P : Program} {t : TypeId} {f0 f1 f2 : Field} {d0 : Kd α} {d1 : Kd β} {d2 : Kd γ} {w0 : α → Prop} {w1 : β → Prop} {w2 : γ → Prop} (ht : P.underlying t = some (.struct #[f0, f1, f2])) (o0 : f0.offset = 0) (o1 : f1.offset = P.cellsOf f0.type)
    (o2 : f2.offset = P.cellsOf f0.type + P.cellsOf f1.type) (cT : P.cellsOf t = P.cellsOf f0.type + P.cellsOf f1.type + P.cellsOf f2.type)
    (r0 : Rdb P f0.type d0 w0) (r1 : Rdb P f1.type d1 w1) (r2 : Rdb P f2.type d2 w2) : Rdb P t (Kd.pair d0 (Kd.pair d1 d2)) (fun x => w0 x.1 ∧ w1 x.2.1 ∧ w2 x.2.2) := by
  intro H enc w base spare held fuel cs x h
  obtain ⟨xs, n, _, _, hl, hxl, hf⟩ := DataW.trod_struct ht h
  match xs, hxl with
  | [y0, y1, y2], _ =>
    have h0 : DataW.trod enc P w base spare held n f0.type ((cs.drop f0.offset).take (P.cellsOf f0.type)) = some y0 := by simpa using hf 0 f0 rfl
    have h1 : DataW.trod enc P w base spare held n f1.type ((cs.drop f1.offset).take (P.cellsOf f1.type)) = some y1 := by simpa using hf 1 f1 rfl
    have h2 : DataW.trod enc P w base spare held n f2.type ((cs.drop f2.offset).take (P.cellsOf f2.type)) = some y2 := by simpa using hf 2 f2 rfl
    rw [o0, List.drop_zero] at h0
    rw [o1] at h1
    rw [o2, List.take_of_length_le (by rw [List.length_drop, hl, cT]; omega)] at h2
    obtain ⟨a, hK0, hw0⟩ := r0 H enc w base spare held n _ y0 h0
    obtain ⟨b, hK1, hw1⟩ := r1 H enc w base spare held n _ y1 h1
    obtain ⟨c, hK2, hw2⟩ := r2 H enc w base spare held n _ y2 h2
    refine ⟨(a, b, c), ⟨_, _, (List.take_append_drop (P.cellsOf f0.type) cs).symm, hK0, _, _, ?_, hK1, hK2⟩, hw0, hw1, hw2⟩
    rw [← List.drop_drop, List.take_append_drop]
theorem Rdb.iso {α β : Type} {P : Program} {t : TypeId} {d : Kd α} {wf : α → Prop} (r : Rdb P t d wf) (f : β → α) (g : α → β) (hfg : ∀ a, f (g a) = a) : Rdb P t (Kd.iso d f) (fun b => wf (f b)) := by
  intro H enc w base spare held fuel cs x h
  obtain ⟨a, hK, hw⟩ := r H enc w base spare held fuel cs x h
  exact ⟨g a, by show d.K w (f (g a)) cs; rw [hfg]; exact hK, by show wf (f (g a)); rw [hfg]; exact hw⟩
theorem Rdb.of {α : Type} {P : Program} {t : TypeId} {d : Kd α} {wf : α → Prop} (r : Rdb P t d wf) {H : Type} {enc : TypeId × Value → H} {w : World} {base : Nat} {spare : Nat → Bool} {held : Bool} {v : Value} {x : DataW H} {ps : List MemPlace}
    (h : DataW.Trod enc P w base spare held t v x ps) : ∃ a : α, d.K w a v.cells.toList ∧ wf a := by
  obtain ⟨fuel, hf⟩ := h
  exact r H enc w base spare held fuel _ _ hf

end Go.Proofs.Ytiancdhpdjmacaa.F
