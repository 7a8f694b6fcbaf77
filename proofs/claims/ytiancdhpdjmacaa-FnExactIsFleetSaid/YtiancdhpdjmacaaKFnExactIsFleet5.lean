-- written by the session's program xp.py over the kit's print program, and by hand; texts joined by pack.py
import Derived.Test.YtiancdhpdjmacaaKFnExactIsFleet4
namespace Go.Proofs.Ytiancdhpdjmacaa.F
open Go.RowKit Go.Proofs.YtiancdhpdjmacaaW.PrintWords Go.Proofs.YtiancdhpdjmacaaW.PrintLast Go.Proofs.YtiancdhpdjmacaaW.PrintMore
attribute [local go_sem] max2_int min2_int max_two min_two max_three min_three max_four min_four   -- for this text's walks alone
set_option linter.unusedVariables false
set_option linter.unusedSimpArgs false

-- What the verifier writes into results, and finds there again.
def countUp : Int → Nat → List Int
  | _, 0 => []
  | m, n + 1 => m :: countUp (m + 1) n
theorem countUp_len : ∀ (n : Nat) (m : Int), (countUp m n).length = n
  | 0, _ => rfl
  | n + 1, m => by simp [countUp, countUp_len n]
theorem countUp_get : ∀ (n : Nat) (m : Int) (i : Nat) (h : i < (countUp m n).length), (countUp m n)[i] = m + i
  | 0, m, i, h => by simp [countUp] at h
  | n + 1, m, 0, h => by simp [countUp]
  | n + 1, m, i + 1, h => by
    have := countUp_get n (m + 1) i (by simpa [countUp] using h)
    simp only [countUp, List.getElem_cons_succ]
    rw [this]; omega
theorem mark_l0 (m0 : Int) (h0 : 0 ≤ m0) : ∀ (d i : Nat) (x : List Int), i + d = x.length → m0 + x.length ≤ 4611686018427387904 → (∀ (j : Nat) (hj : j < x.length), j < i → x[j] = m0 + j) →
    Ev (fun k => laws_markInt64S.l0 k x (m0 + i) i) (m0 + x.length, countUp m0 x.length) := by
  intro d
  induction d with
  | zero =>
    intro i x hi hb hx
    have e : x = countUp m0 x.length := by
      apply List.ext_getElem
      · rw [countUp_len]
      · intro j h1 h2
        rw [hx j h1 (by omega), countUp_get]
    refine Ev.step (f := fun _ => some (m0 + x.length, countUp m0 x.length)) (fun k => ?_) (Ev.now _)
    simp only [laws_markInt64S.l0]
    rw [if_neg (by omega), ← e]
    have : i = x.length := by omega
    rw [this]
  | succ d ih =>
    intro i x hi hb hx
    have hlt : i < x.length := by omega
    have := ih (i + 1) (x.set i (m0 + i)) (by simp; omega) (by simpa using hb) (fun j hj hji => by
      rw [List.getElem_set]
      split
      · rename_i e; rw [e]
      · rename_i e; exact hx j (by simpa using hj) (by omega))
    rw [List.length_set] at this
    refine Ev.step (fun k => ?_) this
    have w1 : wrap64 (m0 + i + 1) = m0 + ((i + 1 : Nat) : Int) := by unfold wrap64; omega
    have w2 : wrap64 ((i : Int) + 1) = ((i + 1 : Nat) : Int) := by unfold wrap64; omega
    simp only [laws_markInt64S.l0]
    rw [if_pos (by omega), if_pos (by omega), w1, w2, Int.toNat_natCast]
theorem mark_ev (m : Int) (h0 : 0 ≤ m) (x : List Int) (hb : m + x.length ≤ 4611686018427387904) : Ev (fun k => laws_markInt64S.f k x m) (m + x.length, countUp m x.length) := by
  have := mark_l0 m h0 x.length 0 x (by omega) hb (fun j _ h => by omega)
  refine Ev.congr (fun k => ?_) this
  unfold laws_markInt64S.f
  simp
theorem held_l0 (m0 : Int) (h0 : 0 ≤ m0) (x : List Int) (hb : m0 + x.length ≤ 4611686018427387904) (hx : ∀ (j : Nat) (hj : j < x.length), x[j] = m0 + j) : ∀ (d i : Nat), i + d = x.length →
    Ev (fun k => laws_heldInt64S.l0 k x (m0 + i) i) (m0 + x.length) := by
  intro d
  induction d with
  | zero =>
    intro i hi
    refine Ev.step (f := fun _ => some (m0 + x.length)) (fun k => ?_) (Ev.now _)
    simp only [laws_heldInt64S.l0]
    rw [if_neg (by omega)]
    have : i = x.length := by omega
    rw [this]
  | succ d ih =>
    intro i hi
    have hlt : i < x.length := by omega
    refine Ev.step (fun k => ?_) (ih (i + 1) (by omega))
    have w1 : wrap64 (m0 + i + 1) = m0 + ((i + 1 : Nat) : Int) := by unfold wrap64; omega
    have w2 : wrap64 ((i : Int) + 1) = ((i + 1 : Nat) : Int) := by unfold wrap64; omega
    simp only [laws_heldInt64S.l0]
    rw [if_pos (by omega), if_pos (by omega), rd_get x i hlt, hx i hlt, if_pos rfl, w1, w2]
theorem held_ev (m : Int) (h0 : 0 ≤ m) (n : Nat) (hb : m + n ≤ 4611686018427387904) : Ev (fun k => laws_heldInt64S.f k (countUp m n) m) (m + n) := by
  have := held_l0 m h0 (countUp m n) (by rw [countUp_len]; exact hb) (fun j hj => countUp_get n m j hj) n 0 (by rw [countUp_len]; omega)
  rw [countUp_len] at this
  refine Ev.congr (fun k => ?_) this
  unfold laws_heldInt64S.f
  simp
-- The verifier's marks over a sea.
theorem markSea_ev (w h : Int) (l : List Int) (hl : l.length ≤ 1048576) : Ev (fun k => laws_markSea.f k w h l 1) (1 + l.length, countUp 1 l.length) := by
  unfold laws_markSea.f
  exact Ev.bind (mark_ev 1 (by omega) l (by omega)) (Ev.now _)
theorem seaV_nat {w h : Int} {l : List Int} (hs : seaV w h l = true) : (∃ wn : Nat, w = wn ∧ 1 ≤ wn ∧ wn ≤ 5) ∧ (∃ hn : Nat, h = hn ∧ 1 ≤ hn ∧ hn ≤ 5) ∧ 1 ≤ l.length ∧ l.length ≤ 3 := by
  unfold seaV at hs
  simp only [Bool.and_eq_true] at hs
  obtain ⟨⟨⟨h1, h2⟩, h3⟩, _⟩ := hs
  unfold inW at h1 h2 h3
  simp only [Bool.and_eq_true, decide_eq_true_eq] at h1 h2 h3
  exact ⟨⟨w.toNat, by omega, by omega, by omega⟩, ⟨h.toNat, by omega, by omega, by omega⟩, by omega, by omega⟩
theorem inW_five {a : Int} (h : inW a 1 5 = true) : ∃ n : Nat, a = (n : Int) ∧ 1 ≤ n ∧ n ≤ 5 := by
  unfold inW at h
  simp only [Bool.and_eq_true, decide_eq_true_eq] at h
  exact ⟨a.toNat, by omega, by omega, by omega⟩
theorem inW_of {n : Nat} (h1 : 1 ≤ n) (h5 : n ≤ 5) : inW (n : Int) 1 5 = true := by
  unfold inW
  rw [decide_eq_true (by omega), decide_eq_true (by omega)]; rfl
theorem placesOf_len {w h n : Nat} (hw : w ≤ 5) (hh : h ≤ 5) : (placesOf w h n).length ≤ 100 := by
  unfold placesOf ascOf
  refine Nat.le_trans (Go.Lib.compact_length_le _) ?_
  rw [List.length_mergeSort]
  have h1 := placeTo_len w h n (w * h)
  have h2 := place_small_ hw hh
  omega
-- Fleets: the program's and the reference's judgement are one.
theorem and_or_zero (m a b : Nat) : m &&& (a ||| b) = 0 ↔ m &&& a = 0 ∧ m &&& b = 0 := by
  rw [Nat.and_or_distrib_left]
  exact Nat.or_eq_zero_iff
theorem pow25_le : 33554432 ≤ 9223372036854775808 := by simp
/-- A ship's place among the fleet's numbers. -/
def numAt (fl : List Int) (j : Nat) : Nat := (rd fl (j : Int)).toNat
/-- What has been used by the first ships. -/
def UsedBy (fl : List Int) (i used : Nat) : Prop := used < 33554432 ∧ (∀ j, j < i → ∃ m : Nat, rd fl (j : Int) = (m : Int) ∧ 0 < m ∧ m < 33554432) ∧ ∀ m, m &&& used = 0 ↔ ∀ j, j < i → m &&& numAt fl j = 0
theorem used_zero (fl : List Int) : UsedBy fl 0 0 := ⟨by simp, fun j h => absurd h (Nat.not_lt_zero _), fun m => ⟨fun _ j h => absurd h (Nat.not_lt_zero _), fun _ => Nat.and_zero m⟩⟩
theorem used_step {fl : List Int} {i used m : Nat} (h : UsedBy fl i used) (hm : rd fl (i : Int) = (m : Int)) (h0 : 0 < m) (h1 : m < 33554432) : UsedBy fl (i + 1) (used ||| m) := by
  obtain ⟨h2, h3, h4⟩ := h
  refine ⟨Nat.or_lt_two_pow (n := 25) h2 h1, fun j hj => ?_, fun q => ?_⟩
  · by_cases e : j = i
    · subst e; exact ⟨m, hm, h0, h1⟩
    · exact h3 j (by omega)
  · rw [and_or_zero, h4]
    constructor
    · rintro ⟨ha, hb⟩ j hj
      by_cases e : j = i
      · subst e; unfold numAt; rw [hm, Int.toNat_natCast]; exact hb
      · exact ha j (by omega)
    · intro ha
      refine ⟨fun j hj => ha j (by omega), ?_⟩
      have := ha i (by omega)
      unfold numAt at this
      rw [hm, Int.toNat_natCast] at this
      exact this
theorem rd_take {l : List Int} {i j : Nat} (h : j < i) : rd (l.take i) (j : Int) = rd l (j : Int) := by
  rw [rd_nat, rd_nat, List.getD_eq_getElem?_getD, List.getD_eq_getElem?_getD, List.getElem?_take, if_pos h]
/-- The reference's test of the next ship. -/
def nextOk (ships fl : List Int) (i : Nat) (used : Nat) : Bool := decide (numAt fl i &&& used = 0) && !(decide (0 < i) && (decide (rd ships (i : Int) = rd ships ((i : Int) - 1)) && decide (rd fl (i : Int) < rd fl ((i : Int) - 1))))
theorem next_goes {ships fl : List Int} {i used : Nat} (hu : UsedBy fl i used) (hi : i < fl.length) {m : Nat} (hm : rd fl (i : Int) = (m : Int)) (h0 : 0 < m) (h1 : m < 33554432) : goesV ships (fl.take i) (rd fl (i : Int)) = nextOk ships fl i used := by
  obtain ⟨hu0, hu1, hu2⟩ := hu
  have hnm : numAt fl i = m := by unfold numAt; rw [hm, Int.toNat_natCast]
  have hlen : (fl.take i).length = i := by rw [List.length_take]; omega
  have hany : ((fl.take i).any fun x => Go.bits .and .i64 x (m : Int) != 0) = !decide (m &&& used = 0) := by
    by_cases hz : m &&& used = 0
    · rw [decide_eq_true hz]
      simp only [Bool.not_true]
      rw [List.any_eq_false]
      intro x hx
      obtain ⟨j, hj, rfl⟩ := List.mem_iff_getElem.1 hx
      rw [hlen] at hj
      obtain ⟨mj, e1, e2, e3⟩ := hu1 j hj
      have hz2 := (hu2 m).1 hz j hj
      unfold numAt at hz2
      rw [e1, Int.toNat_natCast] at hz2
      have e4 : (fl.take i)[j]'(by rw [hlen]; exact hj) = (mj : Int) := by
        rw [← rd_get, rd_take hj, e1]
      rw [e4, bits_and_nat _ _ (Nat.lt_of_lt_of_le e3 pow25_le) (Nat.lt_of_lt_of_le h1 pow25_le), Nat.and_comm, hz2]
      simp
    · rw [decide_eq_false hz]
      simp only [Bool.not_false]
      have hz2 := mt (hu2 m).2 hz
      have : ∃ j, j < i ∧ ¬ (m &&& numAt fl j = 0) := by
        apply Classical.byContradiction
        intro hc
        exact hz2 (fun j hj => Classical.byContradiction fun h => hc ⟨j, hj, h⟩)
      obtain ⟨j, hj, hne⟩ := this
      obtain ⟨mj, e1, e2, e3⟩ := hu1 j hj
      unfold numAt at hne
      rw [e1, Int.toNat_natCast] at hne
      rw [List.any_eq_true]
      refine ⟨(mj : Int), ?_, ?_⟩
      · have e4 : (fl.take i)[j]'(by rw [hlen]; exact hj) = (mj : Int) := by
          rw [← rd_get, rd_take hj, e1]
        rw [← e4]
        exact List.getElem_mem _
      · rw [bits_and_nat _ _ (Nat.lt_of_lt_of_le e3 pow25_le) (Nat.lt_of_lt_of_le h1 pow25_le), Nat.and_comm]
        simp only [bne_iff_ne, ne_eq]
        omega
  unfold goesV nextOk goesStop
  rw [hm, hany, hlen, hnm, Bool.not_not]
  by_cases hz : m &&& used = 0
  · rw [decide_eq_true hz, Bool.and_true, Bool.true_and]
    by_cases hi0 : 0 < i
    · obtain ⟨p, rfl⟩ : ∃ p, i = p + 1 := ⟨i - 1, by omega⟩
      have ep : (((p + 1 : Nat) : Int) - 1) = (p : Int) := by omega
      rw [ep, rd_take (Nat.lt_succ_self p)]
      obtain ⟨mp, e1, e2, e3⟩ := hu1 p (Nat.lt_succ_self p)
      have hz2 := (hu2 m).1 hz p (Nat.lt_succ_self p)
      unfold numAt at hz2
      rw [e1, Int.toNat_natCast] at hz2
      have hne : m ≠ mp := by
        intro e
        rw [← e, Nat.and_self] at hz2
        omega
      rw [e1]
      have : decide ((m : Int) ≤ (mp : Int)) = decide ((m : Int) < (mp : Int)) := decide_eq_decide.2 (by omega)
      rw [this]
    · rw [decide_eq_false hi0]; rfl
  · rw [decide_eq_false hz, Bool.and_false, Bool.false_and]
/-- The judgement from a ship on. -/
def fleetFrom (W H : Nat) (ships fl : List Int) : Nat → Nat → Bool
  | _, 0 => true
  | i, d + 1 => (placesOf W H (rd ships (i : Int)).toNat).contains (rd fl (i : Int)) && goesV ships (fl.take i) (rd fl (i : Int)) && fleetFrom W H ships fl (i + 1) d
def fleetV (W H : Nat) (ships fl : List Int) : Bool := decide (fl.length = ships.length) && fleetFrom W H ships fl 0 fl.length
theorem ships_in {l : List Int} : ∀ (d i : Nat), i + d = l.length → shipsFrom l i d = true → ∀ j, i ≤ j → j < l.length → inW (rd l (j : Int)) 1 5 = true
  | 0, i, hd, _, j, h1, h2 => by omega
  | d + 1, i, hd, h, j, h1, h2 => by
    unfold shipsFrom at h
    simp only [Bool.and_eq_true] at h
    by_cases e : j = i
    · subst e; exact h.1.1
    · exact ships_in d (i + 1) (by omega) h.2 j (by omega) h2
theorem fleet_impl_l0 {W H : Nat} (hW : 1 ≤ W ∧ W ≤ 5) (hH : 1 ≤ H ∧ H ≤ 5) (ships fl : List Int) (hl : fl.length = ships.length) (h3 : ships.length ≤ 3) (hs : ∀ j : Nat, j < ships.length → inW (rd ships (j : Int)) 1 5 = true) :
    ∀ (d i : Nat), i + d = fl.length → Ev (fun k => impl_Sea_isFleet.l0 k fl fl fl.length i W H ships) (fleetFrom W H ships fl i d) := by
  intro d
  induction d with
  | zero =>
    intro i hi
    refine Ev.step (f := fun _ => some true) (fun k => ?_) (Ev.now _)
    simp only [impl_Sea_isFleet.l0]
    rw [if_neg (by omega)]
  | succ d ih =>
    intro i hi
    have hil : i < fl.length := by omega
    have hib : i ≤ 1000 := by omega
    obtain ⟨n, hn, hn1, hn5⟩ := inW_five (hs i (by omega))
    have hp : impl_Sea_placements.f (W : Int) (H : Int) ships (rd ships (i : Int)) = some (placesOf W H n) := by
      unfold impl_Sea_placements.f
      rw [hn, if_pos ⟨inW_of hW.1 hW.2, inW_of hH.1 hH.2, inW_of hn1 hn5⟩]
      simp only [Int.toNat_natCast]
    have hg : impl_Sea_goesOn.f (W : Int) (H : Int) ships (fl.take i) (rd fl (i : Int)) = some (goesV ships (fl.take i) (rd fl (i : Int))) := by
      unfold impl_Sea_goesOn.f
      rw [if_pos ⟨by rw [List.length_take]; omega, by omega⟩]
    have hc := contains_ev (placesOf W H n) (rd fl (i : Int)) (by have := placesOf_len (n := n) hW.2 hH.2; omega)
    have c1 : (i : Int) < (fl.length : Int) := by omega
    have c2 : (0 : Int) ≤ (i : Int) := by omega
    have c3 : (i : Int) < (ships.length : Int) := by omega
    have c4 : (i : Int) ≤ (fl.length : Int) := by omega
    have ih1 := ih (i + 1) (by omega)
    have hw := wrap_one hib
    have hu : fleetFrom W H ships fl i (d + 1) = ((placesOf W H n).contains (rd fl (i : Int)) && goesV ships (fl.take i) (rd fl (i : Int)) && fleetFrom W H ships fl (i + 1) d) := by
      show ((placesOf W H (rd ships (i : Int)).toNat).contains (rd fl (i : Int)) && goesV ships (fl.take i) (rd fl (i : Int)) && fleetFrom W H ships fl (i + 1) d) = _
      rw [hn, Int.toNat_natCast]
    rw [hu]
    refine Ev.step (f := fun k => (slices_Contains_int64_int64.f k (placesOf W H n) (rd fl (i : Int))).bind fun t419 => (if t419 = true then (if goesV ships (fl.take i) (rd fl (i : Int)) = true then (impl_Sea_isFleet.l0 k fl fl fl.length ((i + 1 : Nat) : Int) W H ships) else (some false)) else (some false))) (fun k => ?_) ?_
    · simp only [impl_Sea_isFleet.l0]
      rw [if_pos c1, if_pos c2, if_pos c1, if_pos c3, hp, Option.bind_some, if_pos c4, Int.toNat_natCast, hg, hw]
      simp only [Option.bind_some]
    · refine Ev.bind hc ?_
      cases (placesOf W H n).contains (rd fl (i : Int)) with
      | false => exact Ev.congr (f := fun _ => some false) (fun k => by rw [if_neg (by simp)]) (Ev.now _)
      | true =>
        cases goesV ships (fl.take i) (rd fl (i : Int)) with
        | false => exact Ev.congr (f := fun _ => some false) (fun k => by rw [if_pos rfl, if_neg (by simp)]) (Ev.now _)
        | true => exact Ev.congr (fun k => by rw [if_pos rfl, if_pos rfl]) ih1
theorem implFleet_ev {W H : Nat} (hW : 1 ≤ W ∧ W ≤ 5) (hH : 1 ≤ H ∧ H ≤ 5) (ships fl : List Int) (h3 : ships.length ≤ 3) (hs : ∀ j : Nat, j < ships.length → inW (rd ships (j : Int)) 1 5 = true) : Ev (fun k => impl_Sea_isFleet.f k W H ships fl) (fleetV W H ships fl) := by
  unfold impl_Sea_isFleet.f fleetV
  by_cases hl : fl.length = ships.length
  · rw [decide_eq_true hl, Bool.true_and]
    exact Ev.congr (fun k => by rw [if_pos (by omega)]; rfl) (fleet_impl_l0 hW hH ships fl hl h3 hs fl.length 0 (by omega))
  · rw [decide_eq_false hl]
    exact Ev.congr (f := fun _ => some false) (fun k => by rw [if_neg (by omega)]) (Ev.now _)
/-- The reference's search for the ship in the list. -/
theorem fleet_l1 {W H : Nat} (ships fl P : List Int) (hP : P.length ≤ 1000) (used i : Nat) (hi : i < fl.length) (v : Bool)
    (hyes : Ev (fun k => spec_l09Fleet.l1 k fl used i true P (P.length : Nat) W H ships) v) (hno : v = false ∨ P.contains (rd fl (i : Int)) = true) :
    ∀ (d j : Nat) (b : Bool), j + d = P.length → (b = true ∨ (P.drop j).contains (rd fl (i : Int)) = P.contains (rd fl (i : Int))) → Ev (fun k => spec_l09Fleet.l1 k fl used i b P j W H ships) v := by
  intro d
  induction d with
  | zero =>
    intro j b hj hb
    have e : j = P.length := by omega
    subst e
    cases b with
    | true => exact hyes
    | false =>
      rcases hb with hb | hb
      · cases hb
      · rw [List.drop_length] at hb
        have hv : v = false := by
          rcases hno with h | h
          · exact h
          · rw [h] at hb; cases hb
        subst hv
        refine Ev.step (f := fun _ => some false) (fun k => ?_) (Ev.now _)
        simp only [spec_l09Fleet.l1]
        rw [if_neg (by omega)]
        simp
  | succ d ih =>
    intro j b hj hb
    have hjl : j < P.length := by omega
    have c1 : (j : Int) < (P.length : Int) := by omega
    have c2 : (0 : Int) ≤ (j : Int) := by omega
    have c3 : (0 : Int) ≤ (i : Int) := by omega
    have c4 : (i : Int) < (fl.length : Int) := by omega
    have hjb : j ≤ 1000 := by omega
    have hrd : rd P (j : Int) = P[j] := rd_get P j hjl
    have ih1 := fun b => ih (j + 1) b (by omega)
    have hw := wrap_one hjb
    cases b with
    | true =>
      refine Ev.step (fun k => ?_) (ih1 true (.inl rfl))
      simp only [spec_l09Fleet.l1]
      rw [if_pos c1, if_pos trivial, hw]
    | false =>
      rcases hb with hb | hb
      · cases hb
      rw [List.drop_eq_getElem_cons hjl] at hb
      refine Ev.step (fun k => ?_) (ih1 (P[j] == rd fl (i : Int)) ?_)
      · simp only [spec_l09Fleet.l1]
        rw [if_pos c1, if_neg (by simp), if_pos c2, if_pos c3, if_pos c4, hw, hrd]
      · by_cases e : P[j] = rd fl (i : Int)
        · exact .inl (beq_iff_eq.2 e)
        · right
          rw [← hb]
          have : (rd fl (i : Int) == P[j]) = false := beq_eq_false_iff_ne.2 (fun h => e h.symm)
          simp only [List.contains_cons, this, Bool.false_or]
theorem fleet_spec_l0 {W H : Nat} (hW : 1 ≤ W ∧ W ≤ 5) (hH : 1 ≤ H ∧ H ≤ 5) (ships fl : List Int) (hl : fl.length = ships.length) (h3 : ships.length ≤ 3) (hs : ∀ j : Nat, j < ships.length → inW (rd ships (j : Int)) 1 5 = true) :
    ∀ (d i used : Nat), i + d = fl.length → UsedBy fl i used → Ev (fun k => spec_l09Fleet.l0 k fl used i W H ships) (fleetFrom W H ships fl i d) := by
  intro d
  induction d with
  | zero =>
    intro i used hi _
    refine Ev.step (f := fun _ => some true) (fun k => ?_) (Ev.now _)
    simp only [spec_l09Fleet.l0]
    rw [if_neg (by omega)]
  | succ d ih =>
    intro i used hi hu
    have hil : i < fl.length := by omega
    have hib : i ≤ 1000 := by omega
    obtain ⟨n, hn, hn1, hn5⟩ := inW_five (hs i (by omega))
    have hPe := specPlacements_ev hW hH.2 ⟨hn1, hn5⟩ ships
    have hPl : (placesOf W H n).length ≤ 1000 := by have := placesOf_len (n := n) hW.2 hH.2; omega
    have hPn := placesOf_num hW.1 hW.2 hH.2 hn1
    have hfr : fleetFrom W H ships fl i (d + 1) = ((placesOf W H n).contains (rd fl (i : Int)) && goesV ships (fl.take i) (rd fl (i : Int)) && fleetFrom W H ships fl (i + 1) d) := by
      show ((placesOf W H (rd ships (i : Int)).toNat).contains (rd fl (i : Int)) && goesV ships (fl.take i) (rd fl (i : Int)) && fleetFrom W H ships fl (i + 1) d) = _
      rw [hn, Int.toNat_natCast]
    rw [hfr]
    generalize placesOf W H n = P at hPe hPl hPn hfr ⊢
    have c1 : (i : Int) < (fl.length : Int) := by omega
    have c2 : (0 : Int) ≤ (i : Int) := by omega
    have c3 : (i : Int) < (ships.length : Int) := by omega
    have hw := Aside0.mk (wrap_one hib)
    refine Ev.step (f := fun k => (spec_l09Placements.f k W H ships (rd ships (i : Int))).bind fun t395 => (spec_l09Fleet.l1 k fl used i false t395 0 W H ships)) (fun k => ?_) ?_
    · simp only [spec_l09Fleet.l0]
      rw [if_pos c1, if_pos c2, if_pos c3]
    rw [hn]
    refine Ev.bind hPe ?_
    cases hcon : P.contains (rd fl (i : Int)) with
    | false =>
      rw [Bool.false_and, Bool.false_and]
      have key : ∀ (d j : Nat), j + d = P.length → (P.drop j).contains (rd fl (i : Int)) = false → Ev (fun k => spec_l09Fleet.l1 k fl used i false P j W H ships) false := by
        intro d
        induction d with
        | zero =>
          intro j hj _
          refine Ev.step (f := fun _ => some false) (fun k => ?_) (Ev.now _)
          simp only [spec_l09Fleet.l1]
          rw [if_neg (by omega)]
          simp
        | succ d ihd =>
          intro j hj hb
          have hjl : j < P.length := by omega
          have d1 : (j : Int) < (P.length : Int) := by omega
          have d2 : (0 : Int) ≤ (j : Int) := by omega
          have hjb : j ≤ 1000 := by omega
          have hrd : rd P (j : Int) = P[j] := rd_get P j hjl
          rw [List.drop_eq_getElem_cons hjl, List.contains_cons, Bool.or_eq_false_iff] at hb
          have ih1 := ihd (j + 1) (by omega) hb.2
          have hne : (P[j] == rd fl (i : Int)) = false := beq_eq_false_iff_ne.2 (fun h => beq_eq_false_iff_ne.1 hb.1 h.symm)
          have hw2 := wrap_one hjb
          refine Ev.step (fun k => ?_) ih1
          simp only [spec_l09Fleet.l1]
          rw [if_pos d1, if_neg (by simp), if_pos d2, if_pos c2, if_pos c1, hw2, hrd, hne]
      exact key P.length 0 (by omega) hcon
    | true =>
      rw [Bool.true_and]
      obtain ⟨m, hm, h0, h1⟩ := hPn _ (List.contains_iff_mem.1 hcon)
      have hgo := next_goes (ships := ships) hu hil hm h0 h1
      rw [hgo]
      have ih1 := ih (i + 1) (used ||| m) (by omega) (used_step hu hm h0 h1)
      have hnm : numAt fl i = m := by unfold numAt; rw [hm, Int.toNat_natCast]
      have hbu := bits_and_nat m used (Nat.lt_of_lt_of_le h1 pow25_le) (Nat.lt_of_lt_of_le hu.1 pow25_le)
      have hbo := bits_or_nat used m (Nat.lt_of_lt_of_le hu.1 pow25_le) (Nat.lt_of_lt_of_le h1 pow25_le)
      refine fleet_l1 ships fl P hPl used i hil _ ?_ (.inr hcon) P.length 0 false (by omega) (.inr (by rw [List.drop_zero]))
      have cP : ¬ ((P.length : Nat) : Int) < (P.length : Int) := by omega
      unfold nextOk
      rw [hnm]
      by_cases hz : m &&& used = 0
      · rw [decide_eq_true hz, Bool.true_and]
        by_cases hi0 : 0 < i
        · rw [decide_eq_true hi0, Bool.true_and]
          obtain ⟨p, hp⟩ : ∃ p, i = p + 1 := ⟨i - 1, by omega⟩
          have ep : ((i : Int) - 1) = (p : Int) := by omega
          have e0 : (i : Int) > 0 := by omega
          have e1 : (0 : Int) ≤ (p : Int) := by omega
          have e2 : (p : Int) < (ships.length : Int) := by omega
          have e3 : (p : Int) < (fl.length : Int) := by omega
          have hwp := wrap_num (n := p) (by omega)
          rw [ep]
          by_cases hse : rd ships (i : Int) = rd ships (p : Int)
          · rw [decide_eq_true hse, Bool.true_and]
            by_cases hlt : rd fl (i : Int) < rd fl (p : Int)
            · rw [decide_eq_true hlt]
              refine Ev.step (f := fun _ => some false) (fun k => ?_) (Ev.now _)
              simp only [spec_l09Fleet.l1]
              rw [if_neg cP, if_pos trivial, if_pos c2, if_pos c1, hm, hbu, hz, if_pos (by simp), if_pos e0, if_pos c3, ep, hwp, if_pos e1, if_pos e2, if_pos hse, if_pos e3, if_pos (by rw [← hm]; exact hlt)]
            · rw [decide_eq_false hlt, Bool.not_false, Bool.true_and]
              refine Ev.step (fun k => ?_) ih1
              simp only [spec_l09Fleet.l1]
              rw [if_neg cP, if_pos trivial, if_pos c2, if_pos c1, hm, hbu, hz, if_pos (by simp), if_pos e0, if_pos c3, ep, hwp, if_pos e1, if_pos e2, if_pos hse, if_pos e3, if_neg (by rw [← hm]; exact hlt), hbo, hw.out]
          · rw [decide_eq_false hse, Bool.false_and, Bool.not_false, Bool.true_and]
            refine Ev.step (fun k => ?_) ih1
            simp only [spec_l09Fleet.l1]
            rw [if_neg cP, if_pos trivial, if_pos c2, if_pos c1, hm, hbu, hz, if_pos (by simp), if_pos e0, if_pos c3, ep, hwp, if_pos e1, if_pos e2, if_neg hse, hbo, hw.out]
        · rw [decide_eq_false hi0, Bool.false_and, Bool.not_false, Bool.true_and]
          have e0 : ¬ (i : Int) > 0 := by omega
          refine Ev.step (fun k => ?_) ih1
          simp only [spec_l09Fleet.l1]
          rw [if_neg cP, if_pos trivial, if_pos c2, if_pos c1, hm, hbu, hz, if_pos (by simp), if_neg e0, hbo, hw.out]
      · rw [decide_eq_false hz, Bool.false_and, Bool.false_and]
        refine Ev.step (f := fun _ => some false) (fun k => ?_) (Ev.now _)
        simp only [spec_l09Fleet.l1]
        rw [if_neg cP, if_pos trivial, if_pos c2, if_pos c1, hm, hbu, if_neg (by omega)]
theorem specFleet_ev {W H : Nat} (hW : 1 ≤ W ∧ W ≤ 5) (hH : 1 ≤ H ∧ H ≤ 5) (ships fl : List Int) (h3 : ships.length ≤ 3) (hs : ∀ j : Nat, j < ships.length → inW (rd ships (j : Int)) 1 5 = true) : Ev (fun k => spec_l09Fleet.f k W H ships fl) (fleetV W H ships fl) := by
  unfold spec_l09Fleet.f fleetV
  by_cases hl : fl.length = ships.length
  · rw [decide_eq_true hl, Bool.true_and]
    exact Ev.congr (fun k => by rw [if_pos (by omega)]; rfl) (fleet_spec_l0 hW hH ships fl hl h3 hs fl.length 0 0 (by omega) (used_zero fl))
  · rw [decide_eq_false hl]
    exact Ev.congr (f := fun _ => some false) (fun k => by rw [if_neg (by omega)]) (Ev.now _)
/-- The one pure statement of laws_FnExactIsFleet. -/
def laws_FnExactIsFleet.Pure : Prop := ∀ (a0_0 : Int) (a0_1 : Int) (l0_2 : List Int) (l1 : List Int), (Lit.int .i64 a0_0).wf = true → (Lit.int .i64 a0_1).wf = true → (l0_2.length ≤ maxLen ∧ ∀ y2_ ∈ l0_2, (Lit.int .i64 y2_).wf = true) → (l1.length ≤ maxLen ∧ ∀ y3_ ∈ l1, (Lit.int .i64 y3_).wf = true) → ∃ k, laws_FnExactIsFleet.f k a0_0 a0_1 l0_2 l1 = some true
/-- A type's readings as data are values of a kind: what an argument of that type is, whatever it holds. -/
def Rdb {α : Type} (P : Program) (t : TypeId) (d : Kd α) (wf : α → Prop) : Prop :=
  ∀ (H : Type) (enc : TypeId × Value → H) (w : World) (base : Nat) (spare : Nat → Bool) (held : Bool) (fuel : Nat) (cs : List Value) (x : DataW H × List MemPlace),
    DataW.trod enc P w base spare held fuel t cs = some x → ∃ a : α, d.K w a cs ∧ wf a
theorem Rdb.int {P : Program} {t : TypeId} {k : IntKind} (ht : P.underlying t = some (.int k)) : Rdb P t (Kd.int k) (fun n => (Lit.int k n).wf = true) := by
  intro H enc w base spare held fuel cs x h
  obtain ⟨n, rfl, _, hw⟩ := DataW.trod_int ht h
  exact ⟨n, rfl, hw⟩
theorem Rdb.bool {P : Program} {t : TypeId} (ht : P.underlying t = some .bool) : Rdb P t Kd.bool (fun _ => True) := by
  intro H enc w base spare held fuel cs x h
  obtain ⟨n, rfl, _⟩ := DataW.trod_bool ht h
  exact ⟨n, rfl, trivial⟩
theorem Rdb.string {P : Program} {t : TypeId} (ht : P.underlying t = some .string) : Rdb P t Kd.string (fun s => s.size ≤ maxLen) := by
  intro H enc w base spare held fuel cs x h
  obtain ⟨s, rfl, _, hs⟩ := DataW.trod_string ht h
  exact ⟨s, rfl, hs⟩
theorem list_choose {α β : Type} {R : Nat → α → β → Prop} : ∀ (n : Nat) (xs : List α), xs.length = n → (∀ i x, xs[i]? = some x → ∃ y, R i x y) → ∃ ys : List β, ys.length = n ∧ ∀ i x y, xs[i]? = some x → ys[i]? = some y → R i x y := by
  intro n xs
  induction xs generalizing n R with
  | nil =>
    intro hl _
    exact ⟨[], by simpa using hl, by intro i x y h; simp at h⟩
  | cons x xs ih =>
    intro hl h
    obtain ⟨y, hy⟩ := h 0 x rfl
    obtain ⟨ys, h1, h2⟩ := ih (R := fun i a b => R (i + 1) a b) (n - 1) (by simp at hl; omega) (fun i a hi => h (i + 1) a (by simpa using hi))
    refine ⟨y :: ys, by simp at hl ⊢; omega, fun i a b ha hb => ?_⟩
    cases i with
    | zero =>
      simp at ha hb
      subst ha hb
      exact hy
    | succ i => exact h2 i a b (by simpa using ha) (by simpa using hb)
theorem Rdb.slice {α : Type} {P : Program} {t e : TypeId} {d : Kd α} {wf : α → Prop} (ht : P.underlying t = some (.slice e)) (hc : P.cellsOf e = d.sz) (h1 : 0 < d.sz) (r : Rdb P e d wf) :
    Rdb P t (Kd.slice e d) (fun l => l.length ≤ maxLen ∧ ∀ x ∈ l, wf x) := by
  intro H enc w base spare held fuel cs x h
  rcases DataW.trod_slice ht h with ⟨rfl, _⟩ | ⟨a, len, cap, elems, rest, n, _, rfl, _, hb, hl, hm, hlen, hel, _, _⟩
  · exact ⟨[], ⟨none, 0, rfl, by simp, Kd.C_nil _ _⟩, by simp, by simp⟩
  · have each : ∀ i (y : DataW H × List MemPlace), elems[i]? = some y → ∃ b : α, ∃ c, w.cells? base (a.add (i * P.cellsOf e)) (P.cellsOf e) = some c ∧ d.K w b c ∧ wf b := by
      intro i y hy
      have hi : i < len := by have := (List.getElem?_eq_some_iff.1 hy).1; omega
      have h2 := hel i hi
      rw [hy, Option.bind_eq_some_iff] at h2
      obtain ⟨c, hcs, htr⟩ := h2
      obtain ⟨b, hK, hw⟩ := r H enc w base spare held n c y htr
      exact ⟨b, c, hcs, hK, hw⟩
    obtain ⟨xs, hx1, hx2⟩ := list_choose (R := fun i _ (b : α) => ∃ c, w.cells? base (a.add (i * P.cellsOf e)) (P.cellsOf e) = some c ∧ d.K w b c ∧ wf b) len elems hlen each
    have get : ∀ i b, xs[i]? = some b → ∃ c, w.cells? base (a.add (i * P.cellsOf e)) (P.cellsOf e) = some c ∧ d.K w b c ∧ wf b := by
      intro i b hb'
      have hi : i < elems.length := by have := (List.getElem?_eq_some_iff.1 hb').1; omega
      exact hx2 i _ b (List.getElem?_eq_getElem hi) hb'
    refine ⟨xs, ⟨some a, cap, by rw [hx1], by omega, ?_⟩, by omega, fun b hb' => ?_⟩
    · refine ⟨rfl, by rw [hx1]; unfold maxLen at hm; omega, fun hp => ⟨a, rfl, fun j b hj => ?_⟩⟩
      obtain ⟨c, hcs, hK, _⟩ := get j b hj
      obtain ⟨_, hcl, hcell⟩ := World.cells?_some hcs
      refine ⟨c, by rw [hcl, hc], hK, fun i u hu => ?_⟩
      have hi : i < P.cellsOf e := by have := (List.getElem?_eq_some_iff.1 hu).1; omega
      have := hcell i hi
      rw [hu] at this
      rw [Addr.add_add] at this
      rw [← hc]
      exact this
    · obtain ⟨i, hi⟩ := List.mem_iff_getElem?.1 hb'
      obtain ⟨_, _, _, hw⟩ := get i b hi
      exact hw
theorem take_all {α : Type} {cs : List α} {n : Nat} (h : cs.length = n) : cs.take n = cs := by rw [← h, List.take_length]
theorem Rdb.struct1 {α : Type} {P : Program} {t : TypeId} {f0 : Field} {d0 : Kd α} {w0 : α → Prop} (ht : P.underlying t = some (.struct #[f0])) (o0 : f0.offset = 0) (c0 : P.cellsOf f0.type = P.cellsOf t) (r0 : Rdb P f0.type d0 w0) : Rdb P t d0 w0 := by
  intro H enc w base spare held fuel cs x h
  obtain ⟨y0, n, _, hl, h0⟩ := ChangeShapes.trod_struct1 ht h
  rw [o0, List.drop_zero, c0, take_all hl] at h0
  exact r0 H enc w base spare held n cs y0 h0
theorem Rdb.struct2 {α β : Type} {P : Program} {t : TypeId} {f0 f1 : Field} {d0 : Kd α} {d1 : Kd β} {w0 : α → Prop} {w1 : β → Prop} (ht : P.underlying t = some (.struct #[f0, f1])) (o0 : f0.offset = 0) (o1 : f1.offset = P.cellsOf f0.type) (cT : P.cellsOf t = P.cellsOf f0.type + P.cellsOf f1.type)
    (r0 : Rdb P f0.type d0 w0) (r1 : Rdb P f1.type d1 w1) : Rdb P t (Kd.pair d0 d1) (fun x => w0 x.1 ∧ w1 x.2) := by
  intro H enc w base spare held fuel cs x h
  obtain ⟨y0, y1, n, _, hl, h0, h1⟩ := ChangeShapes.trod_struct2 ht h
  rw [o0, List.drop_zero] at h0
  rw [o1, List.take_of_length_le (by rw [List.length_drop, hl, cT]; omega)] at h1
  obtain ⟨a, hK0, hw0⟩ := r0 H enc w base spare held n _ y0 h0
  obtain ⟨b, hK1, hw1⟩ := r1 H enc w base spare held n _ y1 h1
  exact ⟨(a, b), ⟨_, _, (List.take_append_drop _ _).symm, hK0, hK1⟩, hw0, hw1⟩
theorem Rdb.struct3 {α β γ : Type} {P : Program} {t : TypeId} {f0 f1 f2 : Field} {d0 : Kd α} {d1 : Kd β} {d2 : Kd γ} {w0 : α → Prop} {w1 : β → Prop} {w2 : γ → Prop} (ht : P.underlying t = some (.struct #[f0, f1, f2])) (o0 : f0.offset = 0) (o1 : f1.offset = P.cellsOf f0.type)
    (o2 : f2.offset = P.cellsOf f0.type + P.cellsOf f1.type) (cT : P.cellsOf t = P.cellsOf f0.type + P.cellsOf f1.type + P.cellsOf f2.type)
    (r0 : Rdb P f0.type d0 w0) (r1 : Rdb P f1.type d1 w1) (r2 : Rdb P f2.type d2 w2) : Rdb P t (Kd.pair d0 (Kd.pair d1 d2)) (fun x => w0 x.1 ∧ w1 x.2.1 ∧ w2 x.2.2) := by
  intro H enc w base spare held fuel cs x h
  obtain ⟨xs, n, _, _, hl, hxl, hf⟩ := DataW.trod_struct ht h
  match xs, hxl with
  | [y0, y1, y2], _ =>
    have h0 : DataW.trod enc P w base spare held n f0.type ((cs.drop f0.offset).take (P.cellsOf f0.type)) = some y0 := by simpa using hf 0 f0 rfl
    have h1 : DataW.trod enc P w base spare held n f1.type ((cs.drop f1.offset).take (P.cellsOf f1.type)) = some y1 := by simpa using hf 1 f1 rfl
    have h2 : DataW.trod enc P w base spare held n f2.type ((cs.drop f2.offset).take (P.cellsOf f2.type)) = some y2 := by simpa using hf 2 f2 rfl
    rw [o0, List.drop_zero] at h0
    rw [o1] at h1
    rw [o2, List.take_of_length_le (by rw [List.length_drop, hl, cT]; omega)] at h2
    obtain ⟨a, hK0, hw0⟩ := r0 H enc w base spare held n _ y0 h0
    obtain ⟨b, hK1, hw1⟩ := r1 H enc w base spare held n _ y1 h1
    obtain ⟨c, hK2, hw2⟩ := r2 H enc w base spare held n _ y2 h2
    refine ⟨(a, b, c), ⟨_, _, (List.take_append_drop (P.cellsOf f0.type) cs).symm, hK0, _, _, ?_, hK1, hK2⟩, hw0, hw1, hw2⟩
    rw [← List.drop_drop, List.take_append_drop]
theorem Rdb.iso {α β : Type} {P : Program} {t : TypeId} {d : Kd α} {wf : α → Prop} (r : Rdb P t d wf) (f : β → α) (g : α → β) (hfg : ∀ a, f (g a) = a) : Rdb P t (Kd.iso d f) (fun b => wf (f b)) := by
  intro H enc w base spare held fuel cs x h
  obtain ⟨a, hK, hw⟩ := r H enc w base spare held fuel cs x h
  exact ⟨g a, by show d.K w (f (g a)) cs; rw [hfg]; exact hK, by show wf (f (g a)); rw [hfg]; exact hw⟩
theorem Rdb.of {α : Type} {P : Program} {t : TypeId} {d : Kd α} {wf : α → Prop} (r : Rdb P t d wf) {H : Type} {enc : TypeId × Value → H} {w : World} {base : Nat} {spare : Nat → Bool} {held : Bool} {v : Value} {x : DataW H} {ps : List MemPlace}
    (h : DataW.Trod enc P w base spare held t v x ps) : ∃ a : α, d.K w a v.cells.toList ∧ wf a := by
  obtain ⟨fuel, hf⟩ := h
  exact r H enc w base spare held fuel _ _ hf

end Go.Proofs.Ytiancdhpdjmacaa.F
