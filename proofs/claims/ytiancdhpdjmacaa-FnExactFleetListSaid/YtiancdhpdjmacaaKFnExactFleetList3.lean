-- written by the session's program xp.py over the kit's print program, and by hand; texts joined by pack.py
import Derived.Test.YtiancdhpdjmacaaKFnExactFleetList2
namespace Go.Proofs.Ytiancdhpdjmacaa.F
open Go.RowKit Go.Proofs.YtiancdhpdjmacaaW.PrintWords Go.Proofs.YtiancdhpdjmacaaW.PrintLast Go.Proofs.YtiancdhpdjmacaaW.PrintMore
attribute [local go_sem] max2_int min2_int max_two min_two max_three min_three max_four min_four   -- for this text's walks alone
set_option linter.unusedVariables false
set_option linter.unusedSimpArgs false

-- What the verifier writes into results, and finds there again.
def countUp : Int → Nat → List Int
  | _, 0 => []
  | m, n + 1 => m :: countUp (m + 1) n
theorem countUp_len : ∀ (n : Nat) (m : Int), (countUp m n).length = n
  | 0, _ => rfl
  | n + 1, m => by simp [countUp, countUp_len n]
theorem countUp_get : ∀ (n : Nat) (m : Int) (i : Nat) (h : i < (countUp m n).length), (countUp m n)[i] = m + i
  | 0, m, i, h => by simp [countUp] at h
  | n + 1, m, 0, h => by simp [countUp]
  | n + 1, m, i + 1, h => by
    have := countUp_get n (m + 1) i (by simpa [countUp] using h)
    simp only [countUp, List.getElem_cons_succ]
    rw [this]; omega
theorem mark_l0 (m0 : Int) (h0 : 0 ≤ m0) : ∀ (d i : Nat) (x : List Int), i + d = x.length → m0 + x.length ≤ 4611686018427387904 → (∀ (j : Nat) (hj : j < x.length), j < i → x[j] = m0 + j) →
    Ev (fun k => laws_markInt64S.l0 k x (m0 + i) i) (m0 + x.length, countUp m0 x.length) := by
  intro d
  induction d with
  | zero =>
    intro i x hi hb hx
    have e : x = countUp m0 x.length := by
      apply List.ext_getElem
      · rw [countUp_len]
      · intro j h1 h2
        rw [hx j h1 (by omega), countUp_get]
    refine Ev.step (f := fun _ => some (m0 + x.length, countUp m0 x.length)) (fun k => ?_) (Ev.now _)
    simp only [laws_markInt64S.l0]
    rw [if_neg (by omega), ← e]
    have : i = x.length := by omega
    rw [this]
  | succ d ih =>
    intro i x hi hb hx
    have hlt : i < x.length := by omega
    have := ih (i + 1) (x.set i (m0 + i)) (by simp; omega) (by simpa using hb) (fun j hj hji => by
      rw [List.getElem_set]
      split
      · rename_i e; rw [e]
      · rename_i e; exact hx j (by simpa using hj) (by omega))
    rw [List.length_set] at this
    refine Ev.step (fun k => ?_) this
    have w1 : wrap64 (m0 + i + 1) = m0 + ((i + 1 : Nat) : Int) := by unfold wrap64; omega
    have w2 : wrap64 ((i : Int) + 1) = ((i + 1 : Nat) : Int) := by unfold wrap64; omega
    simp only [laws_markInt64S.l0]
    rw [if_pos (by omega), if_pos (by omega), w1, w2, Int.toNat_natCast]
theorem mark_ev (m : Int) (h0 : 0 ≤ m) (x : List Int) (hb : m + x.length ≤ 4611686018427387904) : Ev (fun k => laws_markInt64S.f k x m) (m + x.length, countUp m x.length) := by
  have := mark_l0 m h0 x.length 0 x (by omega) hb (fun j _ h => by omega)
  refine Ev.congr (fun k => ?_) this
  unfold laws_markInt64S.f
  simp
theorem held_l0 (m0 : Int) (h0 : 0 ≤ m0) (x : List Int) (hb : m0 + x.length ≤ 4611686018427387904) (hx : ∀ (j : Nat) (hj : j < x.length), x[j] = m0 + j) : ∀ (d i : Nat), i + d = x.length →
    Ev (fun k => laws_heldInt64S.l0 k x (m0 + i) i) (m0 + x.length) := by
  intro d
  induction d with
  | zero =>
    intro i hi
    refine Ev.step (f := fun _ => some (m0 + x.length)) (fun k => ?_) (Ev.now _)
    simp only [laws_heldInt64S.l0]
    rw [if_neg (by omega)]
    have : i = x.length := by omega
    rw [this]
  | succ d ih =>
    intro i hi
    have hlt : i < x.length := by omega
    refine Ev.step (fun k => ?_) (ih (i + 1) (by omega))
    have w1 : wrap64 (m0 + i + 1) = m0 + ((i + 1 : Nat) : Int) := by unfold wrap64; omega
    have w2 : wrap64 ((i : Int) + 1) = ((i + 1 : Nat) : Int) := by unfold wrap64; omega
    simp only [laws_heldInt64S.l0]
    rw [if_pos (by omega), if_pos (by omega), rd_get x i hlt, hx i hlt, if_pos rfl, w1, w2]
theorem held_ev (m : Int) (h0 : 0 ≤ m) (n : Nat) (hb : m + n ≤ 4611686018427387904) : Ev (fun k => laws_heldInt64S.f k (countUp m n) m) (m + n) := by
  have := held_l0 m h0 (countUp m n) (by rw [countUp_len]; exact hb) (fun j hj => countUp_get n m j hj) n 0 (by rw [countUp_len]; omega)
  rw [countUp_len] at this
  refine Ev.congr (fun k => ?_) this
  unfold laws_heldInt64S.f
  simp
-- The verifier's marks over a sea.
theorem markSea_ev (w h : Int) (l : List Int) (hl : l.length ≤ 1048576) : Ev (fun k => laws_markSea.f k w h l 1) (1 + l.length, countUp 1 l.length) := by
  unfold laws_markSea.f
  exact Ev.bind (mark_ev 1 (by omega) l (by omega)) (Ev.now _)
theorem seaV_nat {w h : Int} {l : List Int} (hs : seaV w h l = true) : (∃ wn : Nat, w = wn ∧ 1 ≤ wn ∧ wn ≤ 5) ∧ (∃ hn : Nat, h = hn ∧ 1 ≤ hn ∧ hn ≤ 5) ∧ 1 ≤ l.length ∧ l.length ≤ 3 := by
  unfold seaV at hs
  simp only [Bool.and_eq_true] at hs
  obtain ⟨⟨⟨h1, h2⟩, h3⟩, _⟩ := hs
  unfold inW at h1 h2 h3
  simp only [Bool.and_eq_true, decide_eq_true_eq] at h1 h2 h3
  exact ⟨⟨w.toNat, by omega, by omega, by omega⟩, ⟨h.toNat, by omega, by omega, by omega⟩, by omega, by omega⟩
theorem inW_five {a : Int} (h : inW a 1 5 = true) : ∃ n : Nat, a = (n : Int) ∧ 1 ≤ n ∧ n ≤ 5 := by
  unfold inW at h
  simp only [Bool.and_eq_true, decide_eq_true_eq] at h
  exact ⟨a.toNat, by omega, by omega, by omega⟩
theorem placesOf_len {w h n : Nat} (hw : w ≤ 5) (hh : h ≤ 5) : (placesOf w h n).length ≤ 100 := by
  unfold placesOf ascOf
  refine Nat.le_trans (Go.Lib.compact_length_le _) ?_
  rw [List.length_mergeSort]
  have h1 := placeTo_len w h n (w * h)
  have h2 := place_small_ hw hh
  omega
-- Fleets: the program's and the reference's judgement are one.
theorem and_or_zero (m a b : Nat) : m &&& (a ||| b) = 0 ↔ m &&& a = 0 ∧ m &&& b = 0 := by
  rw [Nat.and_or_distrib_left]
  exact Nat.or_eq_zero_iff
theorem pow25_le : 33554432 ≤ 9223372036854775808 := by simp
/-- A ship's place among the fleet's numbers. -/
def numAt (fl : List Int) (j : Nat) : Nat := (rd fl (j : Int)).toNat
/-- What has been used by the first ships. -/
def UsedBy (fl : List Int) (i used : Nat) : Prop := used < 33554432 ∧ (∀ j, j < i → ∃ m : Nat, rd fl (j : Int) = (m : Int) ∧ 0 < m ∧ m < 33554432) ∧ ∀ m, m &&& used = 0 ↔ ∀ j, j < i → m &&& numAt fl j = 0
theorem used_zero (fl : List Int) : UsedBy fl 0 0 := ⟨by simp, fun j h => absurd h (Nat.not_lt_zero _), fun m => ⟨fun _ j h => absurd h (Nat.not_lt_zero _), fun _ => Nat.and_zero m⟩⟩
theorem used_step {fl : List Int} {i used m : Nat} (h : UsedBy fl i used) (hm : rd fl (i : Int) = (m : Int)) (h0 : 0 < m) (h1 : m < 33554432) : UsedBy fl (i + 1) (used ||| m) := by
  obtain ⟨h2, h3, h4⟩ := h
  refine ⟨Nat.or_lt_two_pow (n := 25) h2 h1, fun j hj => ?_, fun q => ?_⟩
  · by_cases e : j = i
    · subst e; exact ⟨m, hm, h0, h1⟩
    · exact h3 j (by omega)
  · rw [and_or_zero, h4]
    constructor
    · rintro ⟨ha, hb⟩ j hj
      by_cases e : j = i
      · subst e; unfold numAt; rw [hm, Int.toNat_natCast]; exact hb
      · exact ha j (by omega)
    · intro ha
      refine ⟨fun j hj => ha j (by omega), ?_⟩
      have := ha i (by omega)
      unfold numAt at this
      rw [hm, Int.toNat_natCast] at this
      exact this
theorem rd_take {l : List Int} {i j : Nat} (h : j < i) : rd (l.take i) (j : Int) = rd l (j : Int) := by
  rw [rd_nat, rd_nat, List.getD_eq_getElem?_getD, List.getD_eq_getElem?_getD, List.getElem?_take, if_pos h]
/-- The reference's test of the next ship. -/
def nextOk (ships fl : List Int) (i : Nat) (used : Nat) : Bool := decide (numAt fl i &&& used = 0) && !(decide (0 < i) && (decide (rd ships (i : Int) = rd ships ((i : Int) - 1)) && decide (rd fl (i : Int) < rd fl ((i : Int) - 1))))
theorem next_goes {ships fl : List Int} {i used : Nat} (hu : UsedBy fl i used) (hi : i < fl.length) {m : Nat} (hm : rd fl (i : Int) = (m : Int)) (h0 : 0 < m) (h1 : m < 33554432) : goesV ships (fl.take i) (rd fl (i : Int)) = nextOk ships fl i used := by
  obtain ⟨hu0, hu1, hu2⟩ := hu
  have hnm : numAt fl i = m := by unfold numAt; rw [hm, Int.toNat_natCast]
  have hlen : (fl.take i).length = i := by rw [List.length_take]; omega
  have hany : ((fl.take i).any fun x => Go.bits .and .i64 x (m : Int) != 0) = !decide (m &&& used = 0) := by
    by_cases hz : m &&& used = 0
    · rw [decide_eq_true hz]
      simp only [Bool.not_true]
      rw [List.any_eq_false]
      intro x hx
      obtain ⟨j, hj, rfl⟩ := List.mem_iff_getElem.1 hx
      rw [hlen] at hj
      obtain ⟨mj, e1, e2, e3⟩ := hu1 j hj
      have hz2 := (hu2 m).1 hz j hj
      unfold numAt at hz2
      rw [e1, Int.toNat_natCast] at hz2
      have e4 : (fl.take i)[j]'(by rw [hlen]; exact hj) = (mj : Int) := by
        rw [← rd_get, rd_take hj, e1]
      rw [e4, bits_and_nat _ _ (Nat.lt_of_lt_of_le e3 pow25_le) (Nat.lt_of_lt_of_le h1 pow25_le), Nat.and_comm, hz2]
      simp
    · rw [decide_eq_false hz]
      simp only [Bool.not_false]
      have hz2 := mt (hu2 m).2 hz
      have : ∃ j, j < i ∧ ¬ (m &&& numAt fl j = 0) := by
        apply Classical.byContradiction
        intro hc
        exact hz2 (fun j hj => Classical.byContradiction fun h => hc ⟨j, hj, h⟩)
      obtain ⟨j, hj, hne⟩ := this
      obtain ⟨mj, e1, e2, e3⟩ := hu1 j hj
      unfold numAt at hne
      rw [e1, Int.toNat_natCast] at hne
      rw [List.any_eq_true]
      refine ⟨(mj : Int), ?_, ?_⟩
      · have e4 : (fl.take i)[j]'(by rw [hlen]; exact hj) = (mj : Int) := by
          rw [← rd_get, rd_take hj, e1]
        rw [← e4]
        exact List.getElem_mem _
      · rw [bits_and_nat _ _ (Nat.lt_of_lt_of_le e3 pow25_le) (Nat.lt_of_lt_of_le h1 pow25_le), Nat.and_comm]
        simp only [bne_iff_ne, ne_eq]
        omega
  unfold goesV nextOk goesStop
  rw [hm, hany, hlen, hnm, Bool.not_not]
  by_cases hz : m &&& used = 0
  · rw [decide_eq_true hz, Bool.and_true, Bool.true_and]
    by_cases hi0 : 0 < i
    · obtain ⟨p, rfl⟩ : ∃ p, i = p + 1 := ⟨i - 1, by omega⟩
      have ep : (((p + 1 : Nat) : Int) - 1) = (p : Int) := by omega
      rw [ep, rd_take (Nat.lt_succ_self p)]
      obtain ⟨mp, e1, e2, e3⟩ := hu1 p (Nat.lt_succ_self p)
      have hz2 := (hu2 m).1 hz p (Nat.lt_succ_self p)
      unfold numAt at hz2
      rw [e1, Int.toNat_natCast] at hz2
      have hne : m ≠ mp := by
        intro e
        rw [← e, Nat.and_self] at hz2
        omega
      rw [e1]
      have : decide ((m : Int) ≤ (mp : Int)) = decide ((m : Int) < (mp : Int)) := decide_eq_decide.2 (by omega)
      rw [this]
    · rw [decide_eq_false hi0]; rfl
  · rw [decide_eq_false hz, Bool.and_false, Bool.false_and]
theorem ships_in {l : List Int} : ∀ (d i : Nat), i + d = l.length → shipsFrom l i d = true → ∀ j, i ≤ j → j < l.length → inW (rd l (j : Int)) 1 5 = true
  | 0, i, hd, _, j, h1, h2 => by omega
  | d + 1, i, hd, h, j, h1, h2 => by
    unfold shipsFrom at h
    simp only [Bool.and_eq_true] at h
    by_cases e : j = i
    · subst e; exact h.1.1
    · exact ships_in d (i + 1) (by omega) h.2 j (by omega) h2
theorem sea_ships {w h : Int} {l : List Int} (hs : seaV w h l = true) : ∀ j : Nat, j < l.length → inW (rd l (j : Int)) 1 5 = true := by
  have hsh : shipsFrom l 0 l.length = true := by
    unfold seaV at hs
    simp only [Bool.and_eq_true] at hs
    exact hs.2
  exact fun j hj => ships_in l.length 0 (by omega) hsh j (Nat.zero_le _) hj
/-! ### impl_CountFleets: function 28 -/
-- EXTERNAL: by hand
-- impl_IsSea impl_Sea_eachFleet
-- EachOk seaV_nat sea_ships
def fleetsOf (w h : Int) (l : List Int) : List (List Int) := fleetsFrom w.toNat h.toNat l l.length []
def impl_CountFleets.f (k : Nat) (a0_0 a0_1 : Int) (l0_2 : List Int) : Option (Int × Int) := (impl_IsSea.f k a0_0 a0_1 l0_2).bind fun b => if b = true then (if seaV a0_0 a0_1 l0_2 = true then some (((fleetsOf a0_0 a0_1 l0_2).length : Int), 0) else none) else some (0, 1)
theorem flat_le {α β : Type} (F : α → List β) (n : Nat) : ∀ P : List α, (∀ x ∈ P, (F x).length ≤ n) → (P.flatMap F).length ≤ P.length * n
  | [], _ => by simp
  | x :: P, h => by
    rw [List.flatMap_cons, List.length_append, List.length_cons, Nat.succ_mul]
    have h1 := h x (List.mem_cons_self ..)
    have h2 := flat_le F n P (fun y hy => h y (List.mem_cons_of_mem _ hy))
    omega
theorem fleets_len (W0 H0 : Nat) (ships : List Int) (hpl : ∀ j, (placeOf W0 H0 ships j).length ≤ 100) : ∀ (d : Nat) (list : List Int), (fleetsFrom W0 H0 ships d list).length ≤ 100 ^ d
  | 0, _ => by simp [fleetsFrom]
  | d + 1, list => by
    show ((placeOf W0 H0 ships list.length).flatMap _).length ≤ _
    refine Nat.le_trans (flat_le _ (100 ^ d) _ (fun x _ => ?_)) ?_
    · split
      · exact fleets_len W0 H0 ships hpl d _
      · simp
    · rw [Nat.pow_succ, Nat.mul_comm]
      exact Nat.mul_le_mul_left _ (hpl _)
/-- The counting function. -/
def CountI (gb : Nat) (i : Nat) (M : Nat → Prop) (W : World) : Prop := M = (fun k => k = gb) ∧ W.heap[gb]? = some (.cells #[.int .i64 (i : Int)] 2 (0, 0))
set_option maxHeartbeats 2000000 in
theorem count_call (gb i c n : Nat) (A : Option Addr) (W : World) (hi : i < 9223372036854775000) (h : W.heap[gb]? = some (.cells #[.int .i64 (i : Int)] 2 (0, 0))) :
    Calls Try.prog 66 #[.slice A n c, .pointer (some ⟨gb, 0, none⟩)] W fun e w' => e = .returned (.tuple #[]) ∧ w'.heap[gb]? = some (.cells #[.int .i64 ((i + 1 : Nat) : Int)] 2 (0, 0)) ∧ ∃ v, w' = W.setCell ⟨gb, 0, none⟩ v := by
  have hc := (blk_cell h 0).trans rfl
  have hfz := blk_frozen h 0
  have hw : wrap64 ((i : Int) + 1) = ((i + 1 : Nat) : Int) := by rw [show (i : Int) + 1 = ((i + 1 : Nat) : Int) by omega]; unfold wrap64; omega
  obtain ⟨z, hz⟩ : ∃ z : Int, ((i + 1 : Nat) : Int) = z := ⟨_, rfl⟩
  rw [hz] at hw ⊢
  clear hz
  have HX := Aside0.mk h
  clear h hi
  go_enter Try.func66, Try.ntmps66
  go_wp2_with (first | ((with_reducible refine gate_store (t := 2) (p := 1) rfl ?_); refine store_event (t := 2) (p := 1) (v := .tmp 4) (w1 := (W.setCell ⟨gb, 0, none⟩ (.int .i64 z))) ?hg ?ho ?hn ?hr ?_; (case ho => rfl); (case hg => rfl); (case hn => rfl); (case hr => first | (go_simp; done) | (go_simp; rfl)); intro w5 hw5; have HW5 := Aside0.mk hw5; clear hw5))
  go_end0
  exact ⟨rfl, by rw [HW5.out]; exact blk_put HX.out 0 _ rfl, _, HW5.out⟩
theorem count_ok (gb : Nat) (fleets : List (List Int)) (hf : fleets.length ≤ 1000000) : EachOk 0 66 #[.pointer (some ⟨gb, 0, none⟩)] fleets (CountI gb) where
  stay := fun i M W W' h hb => ⟨h.1, blk_below h.2 hb⟩
  own := fun i M W h k hk => by rw [h.1] at hk; subst hk; exact blk_lt h.2
  call := fun i M W A c list h hl _ _ _ => by
    have hi := (List.getElem?_eq_some_iff.1 hl).1
    refine (count_call gb i c list.length A W (by omega) h.2).mono ?_
    rintro e w' ⟨rfl, h1, v, rfl⟩
    refine ⟨rfl, M, ⟨h.1, h1⟩, rfl, rfl, rfl, by simp [World.setCell], fun k hk hm => Below.heap_setCell W ⟨gb, 0, none⟩ v k (by rw [h.1] at hm; exact hm), fun _ hk => .inl hk⟩
theorem placeOf_len {W0 H0 : Nat} (hw : W0 ≤ 5) (hh : H0 ≤ 5) (ships : List Int) (j : Nat) : (placeOf W0 H0 ships j).length ≤ 100 := placesOf_len hw hh
theorem count_each (W0 H0 : Nat) (ships : List Int) (A2 : Option Addr) (c2 gb : Nat) (hw : 1 ≤ W0 ∧ W0 ≤ 5) (hh : 1 ≤ H0 ∧ H0 ≤ 5) (hsz : 1 ≤ ships.length ∧ ships.length ≤ 3) (hsin : ∀ j : Nat, j < ships.length → inW (rd ships (j : Int)) 1 5 = true) (hsc : ships.length ≤ c2)
    (w W : World) (hB : Below w.heap.size w W) (hR : Kd.C (Kd.int .i64) w A2 ships.length ships) (hY : W.heap[gb]? = some (.cells #[.int .i64 0] 2 (0, 0))) (hg : w.heap.size ≤ gb) (hcl : ∀ a, A2 = some a → 0 < ships.length → a.block < gb) :
    Calls Try.prog 65 #[.agg #[.int .i64 (W0 : Int), .int .i64 (H0 : Int), .slice A2 ships.length c2], .func (.func 66) #[] #[.pointer (some ⟨gb, 0, none⟩)]] W fun e w' => e = .returned (.tuple #[]) ∧ w'.heap[gb]? = some (.cells #[.int .i64 ((fleetsFrom W0 H0 ships ships.length []).length : Int)] 2 (0, 0)) ∧ Below w.heap.size w w' := by
  have eg66 : ∀ args w, (callFunc 66 args).run Try.prog w = .ok (.enter 66 args) w := enters_of Try.func66 (by kernel_rfl) rfl
  have hpl := placeOf_len (W0 := W0) (H0 := H0) hw.2 hh.2 ships
  have hlen := fleets_len W0 H0 ships hpl ships.length []
  have h3 : 100 ^ ships.length ≤ 100 ^ 3 := Nat.pow_le_pow_right (by omega) hsz.2
  have hfl : (fleetsFrom W0 H0 ships ships.length []).length ≤ 1000000 := Nat.le_trans hlen (Nat.le_trans h3 (by simp))
  have hgW : gb < W.heap.size := blk_lt hY
  have hclr : Clear (fun k => k = gb) W A2 ships := ⟨Kd.C_below hR hB, fun h0 a ha => by
    have := hcl a ha h0
    exact ⟨by omega, fun e => by omega⟩⟩
  refine (impl_Sea_eachFleet.does W0 H0 ships A2 c2 66 #[.pointer (some ⟨gb, 0, none⟩)] (CountI gb) 0 eg66 (count_ok gb _ hfl) hw hh hsz hsin hsc hpl W (Nat.zero_le _) (fun k => k = gb) ⟨rfl, hY⟩ hclr).mono ?_
  rintro e w' ⟨rfl, M', hi, hf⟩
  refine ⟨rfl, hi.2, hf.1.trans hB.os, hf.2.1.trans hB.tape, hf.2.2.1.trans hB.output, Nat.le_trans hB.size hf.2.2.2.1, fun k hk => ?_⟩
  rw [hf.2.2.2.2.1 k (Nat.lt_of_lt_of_le hk hB.size) (by omega)]
  exact hB.block k hk
set_option maxHeartbeats 4000000 in
set_option maxRecDepth 100000 in
theorem impl_CountFleets.calls (k : Nat) (a0_0 a0_1 : Int) (A0_2 : Option Addr) (c0_2 : Nat) (l0_2 : List Int) (r1 r2 : Int) (w : World) (hr0_2 : Kd.C (Kd.int .i64) w A0_2 l0_2.length l0_2) (hc0_2 : l0_2.length ≤ c0_2) (h : impl_CountFleets.f k a0_0 a0_1 l0_2 = some (r1, r2)) :
    Calls Try.prog 28 #[.agg #[.int .i64 a0_0, .int .i64 a0_1, .slice A0_2 l0_2.length c0_2]] w fun e w' => e = .returned (.tuple #[.int .i64 r1, .int .i64 r2]) ∧ Below w.heap.size w w' := by
  unfold impl_CountFleets.f at h
  obtain ⟨b, hb0, h⟩ := Option.bind_eq_some_iff.1 h
  have HIS := Aside0.mk hb0
  have HB := Aside0.mk (Below.refl w.heap.size w)
  have HR := Aside0.mk hr0_2
  have HRw := Aside0.mk hr0_2
  have HC := Aside0.mk hc0_2
  have hu28 := Try.underlying28
  clear hr0_2 hc0_2 hb0
  cases b with
  | false =>
    rw [if_neg (by simp)] at h
    simp only [Option.some.injEq, Prod.mk.injEq] at h
    obtain ⟨rfl, rfl⟩ := h
    go_enter Try.func28, Try.ntmps28
    go_wp2_with (first | ((with_reducible refine gate_dst (N := 1) rfl ?_); refine box_event ?hg (N := 1) ?hd (cs := #[.int .i64 a0_0, .int .i64 a0_1, .slice A0_2 l0_2.length c0_2]) (t := 28) ?hr ?_; (case hd => rfl); (case hg => rfl); (case hr => first | (go_simp; done) | (go_simp; rfl)); intro g1 hg1 w1 hbox hb; have HX := Aside0.mk hbox; have HG1 := Aside0.mk (show w.heap.size ≤ g1 by omega); have n2_ := Aside0.mk (below_step HB.out hb); have n3_ := Aside0.mk (Kd.C_below HR.out hb); clear hbox hb hg1 HB HR; have HB := n2_; have HR := n3_; clear n2_ n3_; have hs0 := (blk_cell HX.out 0).trans rfl; have hs1 := (blk_cell HX.out 1).trans rfl; have hs2 := (blk_cell HX.out 2).trans rfl) | (go_at_call 59; refine (impl_IsSea.calls k a0_0 a0_1 A0_2 c0_2 l0_2 _ _ HR.out HC.out HIS.out).mono ?_; rintro e w3 ⟨rfl, hb⟩; (try clear hs0); (try clear hs1); (try clear hs2); have n1_ := Aside0.mk (blk_below HX.out hb); have n2_ := Aside0.mk (below_step HB.out hb); have n3_ := Aside0.mk (Kd.C_below HR.out hb); clear hb HX HB HR; have HX := n1_; have HB := n2_; have HR := n3_; clear n1_ n2_ n3_; have hs0 := (blk_cell HX.out 0).trans rfl; have hs1 := (blk_cell HX.out 1).trans rfl; have hs2 := (blk_cell HX.out 2).trans rfl))
    go_ret2
    exact ⟨rfl, HB.out⟩
  | true =>
    rw [if_pos rfl] at h
    split at h
    case isFalse => cases h
    rename_i hs
    simp only [Option.some.injEq, Prod.mk.injEq] at h
    obtain ⟨rfl, rfl⟩ := h
    obtain ⟨⟨W0, rfl, hw1, hw5⟩, ⟨H0, rfl, hh1, hh5⟩, hs1, hs3⟩ := seaV_nat hs
    have HW := Aside0.mk (And.intro hw1 hw5)
    have HH := Aside0.mk (And.intro hh1 hh5)
    have HSz := Aside0.mk (And.intro hs1 hs3)
    have HSI := Aside0.mk (sea_ships hs)
    unfold fleetsOf
    simp only [Int.toNat_natCast]
    obtain ⟨cn, hcn⟩ : ∃ cn : Int, ((fleetsFrom W0 H0 l0_2 l0_2.length []).length : Int) = cn := ⟨_, rfl⟩
    rw [hcn]
    have HCN := Aside0.mk hcn
    clear hs hw1 hw5 hh1 hh5 hs1 hs3 hcn
    go_enter Try.func28, Try.ntmps28
    go_wp2_with (first | ((with_reducible refine gate_dst (N := 1) rfl ?_); refine box_event ?hg (N := 1) ?hd (cs := #[.int .i64 (W0 : Int), .int .i64 (H0 : Int), .slice A0_2 l0_2.length c0_2]) (t := 28) ?hr ?_; (case hd => rfl); (case hg => rfl); (case hr => first | (go_simp; done) | (go_simp; rfl)); intro g1 hg1 w1 hbox hb; have HX := Aside0.mk hbox; have HG1 := Aside0.mk (show w.heap.size ≤ g1 by omega); have n2_ := Aside0.mk (below_step HB.out hb); have n3_ := Aside0.mk (Kd.C_below HR.out hb); clear hbox hb hg1 HB HR; have HB := n2_; have HR := n3_; clear n2_ n3_; have hs0 := (blk_cell HX.out 0).trans rfl; have hs1 := (blk_cell HX.out 1).trans rfl; have hs2 := (blk_cell HX.out 2).trans rfl) | (go_at_call 59; refine (impl_IsSea.calls k (W0 : Int) (H0 : Int) A0_2 c0_2 l0_2 _ _ HR.out HC.out HIS.out).mono ?_; rintro e w3 ⟨rfl, hb⟩; (try clear hs0); (try clear hs1); (try clear hs2); have n1_ := Aside0.mk (blk_below HX.out hb); have n2_ := Aside0.mk (below_step HB.out hb); have n3_ := Aside0.mk (Kd.C_below HR.out hb); clear hb HX HB HR; have HX := n1_; have HB := n2_; have HR := n3_; clear n1_ n2_ n3_; have hs0 := (blk_cell HX.out 0).trans rfl; have hs1 := (blk_cell HX.out 1).trans rfl; have hs2 := (blk_cell HX.out 2).trans rfl) | ((with_reducible refine gate_dst (N := 4) rfl ?_); refine box_event ?hg (N := 4) ?hd (cs := #[.int .i64 0]) (t := 2) ?hr ?_; (case hd => rfl); (case hg => rfl); (case hr => first | (go_simp; done) | (go_simp; rfl)); intro g4 hg4 w4 hbox hb; have HY := Aside0.mk hbox; have HG4 := Aside0.mk (show w.heap.size ≤ g4 ∧ g1 ≠ g4 by have := below_size HB.out; have := blk_lt HX.out; omega); have HCL4 := Aside0.mk (show ∀ a, A0_2 = some a → 0 < l0_2.length → a.block < g4 by intro a ha h0; subst ha; obtain ⟨b, e, hcb⟩ := Kd.at_int HR.out 0 (by omega) (by omega); injection e with e; subst e; have := World.block_lt_of_cell? _ _ hcb; rw [add_block] at this; omega); (try clear hs0); (try clear hs1); (try clear hs2); have n1_ := Aside0.mk (blk_below HX.out hb); have n2_ := Aside0.mk (below_step HB.out hb); have n3_ := Aside0.mk (Kd.C_below HR.out hb); clear hb HX HB HR; have HX := n1_; have HB := n2_; have HR := n3_; clear n1_ n2_ n3_; have hs0 := (blk_cell HX.out 0).trans rfl; have hs1 := (blk_cell HX.out 1).trans rfl; have hs2 := (blk_cell HX.out 2).trans rfl; have hz4 : w4.cell? ⟨g4, 0, none⟩ = some (.int .i64 0) := (blk_cell HY.out 0).trans rfl; have hfz4 := blk_frozen HY.out 0; clear hg4 hbox) | ((with_reducible refine gate_store (t := 2) (p := 4) rfl ?_); refine store_event (t := 2) (p := 4) (v := .const (.int .i64 0)) (w1 := (w4.setCell ⟨g4, 0, none⟩ (.int .i64 0))) ?hg ?ho ?hn ?hr ?_; (case ho => rfl); (case hg => rfl); (case hn => rfl); (case hr => first | (go_simp; done) | (go_simp; rfl)); intro w5 hw5; have t1_ := blk_far (p := ⟨g4, 0, none⟩) HX.out HG4.out.2 (.int .i64 0); have t4_ := blk_put HY.out 0 (.int .i64 0) rfl; have tB_ : Below w.heap.size w (w4.setCell ⟨g4, 0, none⟩ (.int .i64 0)) := below_set HB.out HG4.out.1; rw [← hw5] at t1_ t4_ tB_; clear hz4 hfz4; (try clear hs0); (try clear hs1); (try clear hs2); clear HX HY HB; have HX := Aside0.mk t1_; have HY := Aside0.mk t4_; have HB := Aside0.mk tB_; clear hw5 t1_ t4_ tB_; have hs0 := (blk_cell HX.out 0).trans rfl; have hs1 := (blk_cell HX.out 1).trans rfl; have hs2 := (blk_cell HX.out 2).trans rfl) | (go_at_call 65; refine (count_each W0 H0 l0_2 A0_2 c0_2 g4 HW.out HH.out HSz.out HSI.out HC.out w _ HB.out HRw.out HY.out HG4.out.1 HCL4.out).mono ?_; rintro e w6 ⟨rfl, hy, hb⟩; rw [HCN.out] at hy; have HY6 := Aside0.mk hy; have HB6 := Aside0.mk hb; clear hy hb; (try clear hs0); (try clear hs1); (try clear hs2); have hn4 := (blk_cell HY6.out 0).trans rfl))
    go_ret2
    exact ⟨by first | rfl | rw [← HCN.out], HB6.out⟩
/-! ### spec_l09Answer: function 77 -/
def spec_l09Answer.l0 : Nat → List Int → Int → Int → Int → Option (Int)
 | 0, _, _, _, _ => none
 | k + 1, x0, x1, x2, x7 => if x7 < (x0.length : Int) then (if 0 ≤ x7 then (if 0 ≤ (IntKind.u64.wrap (x1)) then (if (Go.bits .and .i64 (shr .i64 (rd x0 x7) (IntKind.u64.wrap (x1))) 1) = 0 then (spec_l09Answer.l0 k x0 x1 x2 (wrap64 (x7 + 1))) else (if (Go.bits .andNot .i64 (rd x0 x7) x2) = 0 then (some 2) else (some 1))) else (none)) else (none)) else (some 0)
def spec_l09Answer.f (k : Nat) (l0 : List Int) (a1 : Int) (a2 : Int) : Option (Int) := spec_l09Answer.l0 k l0 a1 a2 0
set_option maxHeartbeats 8000000 in
set_option maxRecDepth 100000 in
theorem spec_l09Answer.calls (k : Nat) (A0 : Option Addr) (c0 : Nat) (l0 : List Int) (a1 : Int) (a2 : Int) (r : Int) (w : World) (hr0 : Kd.C (Kd.int .i64) w A0 l0.length l0) (hc0 : l0.length ≤ c0) (h : spec_l09Answer.f k l0 a1 a2 = some r) :
  Calls Try.prog 77 #[.slice A0 l0.length c0, .int .i64 a1, .int .i64 a2] w fun e w' => e = .returned (.int .i64 r) ∧ Drawn0 w w' := by
 have HR0 := Aside0.mk hr0
 have HC0 := Aside0.mk hc0
 clear hr0 hc0
 have H : (spec_l09Answer.l0 k l0 a1 a2 0) = some r := h
 clear h
 have H' := Aside0.mk H
 clear H
 go_enter Try.func77, Try.ntmps77
 go_wp2
 go_loopg [7] k (fun kq v7 w' => ∃ (x7_1 : Int), v7 = .int .i64 x7_1 ∧ Aside0 (spec_l09Answer.l0 kq l0 a1 a2 x7_1 = some r) ∧ Aside0 (kq ≤ k) ∧ Drawn0 w w')
 case atStart => exact ⟨(0), (by first | rfl | (simp; done) | (simp [*]; done)), H', ⟨Nat.le_refl _⟩, by repeat (first | exact Drawn0.refl _ | apply Drawn0.step)⟩
 case round =>
  clear H'
  (try clear p2)
  obtain ⟨x7_1, rfl, HA, HK1, ⟨m1, rfl⟩⟩ := hrel
  cases gk with
  | zero => exact absurd HA.out (by simp [spec_l09Answer.l0])
  | succ k1 =>
   have H := HA.out
   clear HA
   simp only [spec_l09Answer.l0] at H
   by_cases c4 : x7_1 < (l0.length : Int)
   ·rw [if_pos c4] at H
    have c4b0 : decide (x7_1 < (l0.length : Int)) = true := decide_eq_true c4
    clear c4
    by_cases c5 : 0 ≤ x7_1
    ·rw [if_pos c5] at H
     have c5b0 : decide (0 ≤ x7_1) = true := decide_eq_true c5
     clear c5
     obtain ⟨ji6, hji6⟩ : ∃ j_ : Int, (IntKind.u64.wrap (a1)) = j_ := ⟨_, rfl⟩
     replace H : (if 0 ≤ (ji6) then (if (Go.bits .and .i64 (shr .i64 (rd l0 x7_1) (ji6)) 1) = 0 then (spec_l09Answer.l0 k1 l0 a1 a2 (wrap64 (x7_1 + 1))) else (if (Go.bits .andNot .i64 (rd l0 x7_1) a2) = 0 then (some 2) else (some 1))) else (none)) = some r := by first | (rw [hji6] at H; exact H) | (simp only [hji6] at H ⊢; exact H)
     by_cases c7 : 0 ≤ (ji6)
     ·rw [if_pos c7] at H
      have c7b0 := eq_true c7
      have c7b1 : decide (0 ≤ (ji6)) = true := decide_eq_true c7
      clear c7
      obtain ⟨ji8, hji8⟩ : ∃ j_ : Int, (shr .i64 (rd l0 x7_1) (ji6)) = j_ := ⟨_, rfl⟩
      replace H : (if (Go.bits .and .i64 (ji8) 1) = 0 then (spec_l09Answer.l0 k1 l0 a1 a2 (wrap64 (x7_1 + 1))) else (if (Go.bits .andNot .i64 (rd l0 x7_1) a2) = 0 then (some 2) else (some 1))) = some r := by first | (rw [hji8] at H; exact H) | (simp only [hji8] at H ⊢; exact H)
      have hji8_ : ((rd l0 x7_1) / 2 ^ min (ji6).toNat 64) = ji8 := hji8
      have hji8z : (ji6) ≤ 64 → ((rd l0 x7_1) / 2 ^ (ji6).toNat) = ji8 := shr_small hji8
      by_cases c9 : (Go.bits .and .i64 (ji8) 1) = 0
      ·rw [if_pos c9] at H
       have c9b0 : ((Go.bits .and .i64 (ji8) 1) == 0) = true := beq_iff_eq.mpr c9
       have c9b1 : ((Go.bits .and .i64 (ji8) 1) != 0) = false := bne_eq_false_iff_eq.mpr c9
       clear c9
       have H' := Aside0.mk H
       clear H
       have p458 : 0 ≤ (x7_1 : Int) := oda
       have q458 : x7_1 < (l0.length : Int) := oda
       obtain ⟨ad458, e458, hx458_0⟩ := Kd.at_int HR0.out x7_1 p458 q458
       cases e458
       replace p458 := eq_true p458
       replace q458 := eq_true q458
       go_wp2
       go_roundg k1
       case measure => have := HK1.out; omega
       case rel => exact ⟨(wrap64 (x7_1 + 1)), (by first | rfl | (simp; done) | (simp [*]; done)), H', ⟨by have := HK1.out; omega⟩, by repeat (first | exact Drawn0.refl _ | apply Drawn0.step)⟩
      ·rw [if_neg c9] at H
       have c9b0 : ((Go.bits .and .i64 (ji8) 1) == 0) = false := beq_eq_false_iff_ne.mpr c9
       have c9b1 : ((Go.bits .and .i64 (ji8) 1) != 0) = true := bne_iff_ne.mpr c9
       by_cases c10 : (Go.bits .andNot .i64 (rd l0 x7_1) a2) = 0
       ·rw [if_pos c10] at H
        have c10b0 : ((Go.bits .andNot .i64 (rd l0 x7_1) a2) == 0) = true := beq_iff_eq.mpr c10
        have c10b1 : ((Go.bits .andNot .i64 (rd l0 x7_1) a2) != 0) = false := bne_eq_false_iff_eq.mpr c10
        clear c10
        obtain rfl := Option.some.inj H
        have p458 : 0 ≤ (x7_1 : Int) := oda
        have q458 : x7_1 < (l0.length : Int) := oda
        obtain ⟨ad458, e458, hx458_0⟩ := Kd.at_int HR0.out x7_1 p458 q458
        cases e458
        replace p458 := eq_true p458
        replace q458 := eq_true q458
        have p459 : 0 ≤ (x7_1 : Int) := oda
        have q459 : x7_1 < (l0.length : Int) := oda
        obtain ⟨ad459, e459, hx459_0⟩ := Kd.at_int HR0.out x7_1 p459 q459
        obtain rfl : ad458 = ad459 := (by injection e459)
        replace p459 := eq_true p459
        replace q459 := eq_true q459
        go_wp2
        go_ret
        exact ⟨by first | rfl | (simp; done) | (simp only [← hji6, ← hji8] <;> (first | rfl | simp)) | (simp [*]; done), by repeat (first | exact Drawn0.refl _ | apply Drawn0.step)⟩
       ·rw [if_neg c10] at H
        have c10b0 : ((Go.bits .andNot .i64 (rd l0 x7_1) a2) == 0) = false := beq_eq_false_iff_ne.mpr c10
        have c10b1 : ((Go.bits .andNot .i64 (rd l0 x7_1) a2) != 0) = true := bne_iff_ne.mpr c10
        obtain rfl := Option.some.inj H
        have p458 : 0 ≤ (x7_1 : Int) := oda
        have q458 : x7_1 < (l0.length : Int) := oda
        obtain ⟨ad458, e458, hx458_0⟩ := Kd.at_int HR0.out x7_1 p458 q458
        cases e458
        replace p458 := eq_true p458
        replace q458 := eq_true q458
        have p459 : 0 ≤ (x7_1 : Int) := oda
        have q459 : x7_1 < (l0.length : Int) := oda
        obtain ⟨ad459, e459, hx459_0⟩ := Kd.at_int HR0.out x7_1 p459 q459
        obtain rfl : ad458 = ad459 := (by injection e459)
        replace p459 := eq_true p459
        replace q459 := eq_true q459
        go_wp2
        go_ret
        exact ⟨by first | rfl | (simp; done) | (simp only [← hji6, ← hji8] <;> (first | rfl | simp)) | (simp [*]; done), by repeat (first | exact Drawn0.refl _ | apply Drawn0.step)⟩
     ·rw [if_neg c7] at H
      exact absurd H (by simp)
    ·rw [if_neg c5] at H
     exact absurd H (by simp)
   ·rw [if_neg c4] at H
    have c4b0 : decide (x7_1 < (l0.length : Int)) = false := decide_eq_false c4
    clear c4
    obtain rfl := Option.some.inj H
    go_wp2
    go_ret
    exact ⟨by first | rfl | (simp; done) | (simp [*]; done), by repeat (first | exact Drawn0.refl _ | apply Drawn0.step)⟩
/-! ### spec_l09Agrees: function 84 -/
def spec_l09Agrees.l0 : Nat → List Int → List (S93) → Int → Int → Option (Bool)
 | 0, _, _, _, _ => none
 | k + 1, x0, x1, x5, x6 => if x6 < (x1.length : Int) then (if 0 ≤ x6 then (if 0 ≤ (IntKind.u64.wrap ((rd_T93 x1 x6).f0)) then ((spec_l09Answer.f k x0 ((rd_T93 x1 x6).f0) (Go.bits .or .i64 x5 (shl .i64 1 (IntKind.u64.wrap ((rd_T93 x1 x6).f0))))).bind fun t462 => (if t462 = ((rd_T93 x1 x6).f1) then (spec_l09Agrees.l0 k x0 x1 (Go.bits .or .i64 x5 (shl .i64 1 (IntKind.u64.wrap ((rd_T93 x1 x6).f0)))) (wrap64 (x6 + 1))) else (some false))) else (none)) else (none)) else (some true)
def spec_l09Agrees.f (k : Nat) (l0 : List Int) (l1 : List (S93)) : Option (Bool) := spec_l09Agrees.l0 k l0 l1 0 0
set_option maxHeartbeats 8000000 in
set_option maxRecDepth 100000 in
theorem spec_l09Agrees.calls (k : Nat) (A0 : Option Addr) (c0 : Nat) (l0 : List Int) (A1 : Option Addr) (c1 : Nat) (l1 : List (S93)) (r : Bool) (w : World) (hr0 : Kd.C (Kd.int .i64) w A0 l0.length l0) (hc0 : l0.length ≤ c0) (hr1 : Kd.C k93 w A1 l1.length l1) (hc1 : l1.length ≤ c1) (h : spec_l09Agrees.f k l0 l1 = some r) :
  Calls Try.prog 84 #[.slice A0 l0.length c0, .slice A1 l1.length c1] w fun e w' => e = .returned (.bool r) ∧ Drawn0 w w' := by
 have HR0 := Aside0.mk hr0
 have HC0 := Aside0.mk hc0
 clear hr0 hc0
 have HR1 := Aside0.mk hr1
 have HC1 := Aside0.mk hc1
 clear hr1 hc1
 have H : (spec_l09Agrees.l0 k l0 l1 0 0) = some r := h
 clear h
 have H' := Aside0.mk H
 clear H
 go_enter Try.func84, Try.ntmps84
 go_wp2
 repeat (go_quiet (fail); try go_wp2)
 go_loopg [5, 6] k (fun kq v5 v6 w' => ∃ (x5_1 : Int) (x6_1 : Int), v5 = .int .i64 x5_1 ∧ v6 = .int .i64 x6_1 ∧ Aside0 (spec_l09Agrees.l0 kq l0 l1 x5_1 x6_1 = some r) ∧ Aside0 (kq ≤ k) ∧ Drawn0 w w')
 case atStart => exact ⟨(0), (0), (by first | rfl | (simp; done) | (simp [*]; done)), (by first | rfl | (simp; done) | (simp [*]; done)), H', ⟨Nat.le_refl _⟩, by repeat (first | exact Drawn0.refl _ | apply Drawn0.step)⟩
 case round =>
  clear H'
  (try clear c1); (try clear p2)
  obtain ⟨x5_1, x6_1, rfl, rfl, HA, HK1, ⟨m1, rfl⟩⟩ := hrel
  cases gk with
  | zero => exact absurd HA.out (by simp [spec_l09Agrees.l0])
  | succ k1 =>
   have H := HA.out
   clear HA
   simp only [spec_l09Agrees.l0] at H
   by_cases c3 : x6_1 < (l1.length : Int)
   ·rw [if_pos c3] at H
    have c3b0 : decide (x6_1 < (l1.length : Int)) = true := decide_eq_true c3
    clear c3
    by_cases c4 : 0 ≤ x6_1
    ·rw [if_pos c4] at H
     have c4b0 : decide (0 ≤ x6_1) = true := decide_eq_true c4
     clear c4
     obtain ⟨ji5, hji5⟩ : ∃ j_ : Int, (IntKind.u64.wrap ((rd_T93 l1 x6_1).f0)) = j_ := ⟨_, rfl⟩
     replace H : (if 0 ≤ (ji5) then ((spec_l09Answer.f k1 l0 ((rd_T93 l1 x6_1).f0) (Go.bits .or .i64 x5_1 (shl .i64 1 (ji5)))).bind fun t462 => (if t462 = ((rd_T93 l1 x6_1).f1) then (spec_l09Agrees.l0 k1 l0 l1 (Go.bits .or .i64 x5_1 (shl .i64 1 (ji5))) (wrap64 (x6_1 + 1))) else (some false))) else (none)) = some r := by first | (rw [hji5] at H; exact H) | (simp only [hji5] at H ⊢; exact H)
     by_cases c6 : 0 ≤ (ji5)
     ·rw [if_pos c6] at H
      have c6b0 := eq_true c6
      have c6b1 : decide (0 ≤ (ji5)) = true := decide_eq_true c6
      clear c6
      obtain ⟨ji7, hji7⟩ : ∃ j_ : Int, (shl .i64 1 (ji5)) = j_ := ⟨_, rfl⟩
      replace H : ((spec_l09Answer.f k1 l0 ((rd_T93 l1 x6_1).f0) (Go.bits .or .i64 x5_1 (ji7))).bind fun t462 => (if t462 = ((rd_T93 l1 x6_1).f1) then (spec_l09Agrees.l0 k1 l0 l1 (Go.bits .or .i64 x5_1 (ji7)) (wrap64 (x6_1 + 1))) else (some false))) = some r := by first | (rw [hji7] at H; exact H) | (simp only [hji7] at H ⊢; exact H)
      have hji7_ : (IntKind.i64.wrap (1 * 2 ^ min (ji5).toNat 64)) = ji7 := hji7
      have hji7z : (ji5) ≤ 64 → (IntKind.i64.wrap (1 * 2 ^ (ji5).toNat)) = ji7 := shl_small hji7
      have hji7u : (IntKind.i64.wrap (2 ^ min (ji5).toNat 64)) = ji7 := by have h_ := hji7_; rw [Int.one_mul] at h_; exact h_
      have hji7v : (ji5) ≤ 64 → (IntKind.i64.wrap (2 ^ (ji5).toNat)) = ji7 := fun hle_ => by have h_ := hji7z hle_; rw [Int.one_mul] at h_; exact h_
      have hji7y : (wrap64 (1 * 2 ^ min (ji5).toNat 64)) = ji7 := (i64_w _).symm.trans hji7_
      have hji7x : (ji5) ≤ 64 → (wrap64 (1 * 2 ^ (ji5).toNat)) = ji7 := fun h_ => (i64_w _).symm.trans (hji7z h_)
      replace H := Option.bind_eq_some_iff.mp H
      obtain ⟨t462, A80, H⟩ := H
      replace H : (if t462 = ((rd_T93 l1 x6_1).f1) then (spec_l09Agrees.l0 k1 l0 l1 (Go.bits .or .i64 x5_1 (ji7)) (wrap64 (x6_1 + 1))) else (some false)) = some r := H
      have A8 := Aside0.mk A80
      clear A80
      by_cases c9 : t462 = ((rd_T93 l1 x6_1).f1)
      ·rw [if_pos c9] at H
       have c9b0 : (t462 == ((rd_T93 l1 x6_1).f1)) = true := beq_iff_eq.mpr c9
       have c9b1 : (t462 != ((rd_T93 l1 x6_1).f1)) = false := bne_eq_false_iff_eq.mpr c9
       clear c9
       have H' := Aside0.mk H
       clear H
       have p460 : 0 ≤ (x6_1 : Int) := oda
       have q460 : x6_1 < (l1.length : Int) := oda
       obtain ⟨ad460, e460, hx460_0, hx460_1⟩ := at_T93 HR1.out x6_1 p460 q460
       cases e460
       replace p460 := eq_true p460
       replace q460 := eq_true q460
       have p461 : 0 ≤ (x6_1 : Int) := oda
       have q461 : x6_1 < (l1.length : Int) := oda
       obtain ⟨ad461, e461, hx461_0, hx461_1⟩ := at_T93 HR1.out x6_1 p461 q461
       obtain rfl : ad460 = ad461 := (by injection e461)
       replace p461 := eq_true p461
       replace q461 := eq_true q461
       (try (have p463 : 0 ≤ (x6_1 : Int) := oda; have q463 : x6_1 < (l1.length : Int) := oda; obtain ⟨ad463, e463, hx463_0, hx463_1⟩ := at_T93 HR1.out x6_1 p463 q463; obtain rfl : ad460 = ad463 := (by injection e463); replace p463 := eq_true p463; replace q463 := eq_true q463))
       go_wp2_with (first | (go_at_call 77; (with_reducible refine (spec_l09Answer.calls k1 _ _ l0 ((rd_T93 l1 x6_1).f0) (Go.bits .or .i64 x5_1 (ji7)) t462 _ ?side1 ?side2 A8.out).mono ?_); (case side1 => repeat (first | exact HR0.out | (with_reducible refine Kd.C_alloc ?_ _) | (with_reducible refine Kd.C_drewN ?_ _) | (with_reducible refine Kd.C_drew ?_))); (case side2 => exact HC0.out); rintro e w' ⟨rfl, ⟨nd, rfl⟩⟩; (try first | exact ⟨rfl, _, World.drewN_drewN _ _ _⟩ | exact ⟨rfl, _, Eq.trans (World.drewN_drewN _ _ _) (congrArg (World.drewN _) (Nat.add_assoc _ _ _))⟩); have p463 : 0 ≤ (x6_1 : Int) := oda; have q463 : x6_1 < (l1.length : Int) := oda; obtain ⟨ad463, e463, hx463_0, hx463_1⟩ := at_T93 HR1.out x6_1 p463 q463; obtain rfl : ad460 = ad463 := (by injection e463); replace p463 := eq_true p463; replace q463 := eq_true q463))
       repeat (go_quiet (first | (go_at_call 77; (with_reducible refine (spec_l09Answer.calls k1 _ _ l0 ((rd_T93 l1 x6_1).f0) (Go.bits .or .i64 x5_1 (ji7)) t462 _ ?side1 ?side2 A8.out).mono ?_); (case side1 => repeat (first | exact HR0.out | (with_reducible refine Kd.C_alloc ?_ _) | (with_reducible refine Kd.C_drewN ?_ _) | (with_reducible refine Kd.C_drew ?_))); (case side2 => exact HC0.out); rintro e w' ⟨rfl, ⟨nd, rfl⟩⟩; (try first | exact ⟨rfl, _, World.drewN_drewN _ _ _⟩ | exact ⟨rfl, _, Eq.trans (World.drewN_drewN _ _ _) (congrArg (World.drewN _) (Nat.add_assoc _ _ _))⟩))); try go_wp2_with (first | (go_at_call 77; (with_reducible refine (spec_l09Answer.calls k1 _ _ l0 ((rd_T93 l1 x6_1).f0) (Go.bits .or .i64 x5_1 (ji7)) t462 _ ?side1 ?side2 A8.out).mono ?_); (case side1 => repeat (first | exact HR0.out | (with_reducible refine Kd.C_alloc ?_ _) | (with_reducible refine Kd.C_drewN ?_ _) | (with_reducible refine Kd.C_drew ?_))); (case side2 => exact HC0.out); rintro e w' ⟨rfl, ⟨nd, rfl⟩⟩; (try first | exact ⟨rfl, _, World.drewN_drewN _ _ _⟩ | exact ⟨rfl, _, Eq.trans (World.drewN_drewN _ _ _) (congrArg (World.drewN _) (Nat.add_assoc _ _ _))⟩); have p463 : 0 ≤ (x6_1 : Int) := oda; have q463 : x6_1 < (l1.length : Int) := oda; obtain ⟨ad463, e463, hx463_0, hx463_1⟩ := at_T93 HR1.out x6_1 p463 q463; obtain rfl : ad460 = ad463 := (by injection e463); replace p463 := eq_true p463; replace q463 := eq_true q463)))
       go_roundg k1
       case measure => have := HK1.out; omega
       case rel => exact ⟨(Go.bits .or .i64 x5_1 (ji7)), (wrap64 (x6_1 + 1)), (by first | rfl | (simp; done) | (simp only [← hji7] <;> (first | rfl | simp)) | (simp [*]; done)), (by first | rfl | (simp; done) | (simp [*]; done)), H', ⟨by have := HK1.out; omega⟩, by repeat (first | exact Drawn0.refl _ | apply Drawn0.step)⟩
      ·rw [if_neg c9] at H
       have c9b0 : (t462 == ((rd_T93 l1 x6_1).f1)) = false := beq_eq_false_iff_ne.mpr c9
       have c9b1 : (t462 != ((rd_T93 l1 x6_1).f1)) = true := bne_iff_ne.mpr c9
       obtain rfl := Option.some.inj H
       have p460 : 0 ≤ (x6_1 : Int) := oda
       have q460 : x6_1 < (l1.length : Int) := oda
       obtain ⟨ad460, e460, hx460_0, hx460_1⟩ := at_T93 HR1.out x6_1 p460 q460
       cases e460
       replace p460 := eq_true p460
       replace q460 := eq_true q460
       have p461 : 0 ≤ (x6_1 : Int) := oda
       have q461 : x6_1 < (l1.length : Int) := oda
       obtain ⟨ad461, e461, hx461_0, hx461_1⟩ := at_T93 HR1.out x6_1 p461 q461
       obtain rfl : ad460 = ad461 := (by injection e461)
       replace p461 := eq_true p461
       replace q461 := eq_true q461
       (try (have p463 : 0 ≤ (x6_1 : Int) := oda; have q463 : x6_1 < (l1.length : Int) := oda; obtain ⟨ad463, e463, hx463_0, hx463_1⟩ := at_T93 HR1.out x6_1 p463 q463; obtain rfl : ad460 = ad463 := (by injection e463); replace p463 := eq_true p463; replace q463 := eq_true q463))
       go_wp2_with (first | (go_at_call 77; (with_reducible refine (spec_l09Answer.calls k1 _ _ l0 ((rd_T93 l1 x6_1).f0) (Go.bits .or .i64 x5_1 (ji7)) t462 _ ?side1 ?side2 A8.out).mono ?_); (case side1 => repeat (first | exact HR0.out | (with_reducible refine Kd.C_alloc ?_ _) | (with_reducible refine Kd.C_drewN ?_ _) | (with_reducible refine Kd.C_drew ?_))); (case side2 => exact HC0.out); rintro e w' ⟨rfl, ⟨nd, rfl⟩⟩; (try first | exact ⟨rfl, _, World.drewN_drewN _ _ _⟩ | exact ⟨rfl, _, Eq.trans (World.drewN_drewN _ _ _) (congrArg (World.drewN _) (Nat.add_assoc _ _ _))⟩); have p463 : 0 ≤ (x6_1 : Int) := oda; have q463 : x6_1 < (l1.length : Int) := oda; obtain ⟨ad463, e463, hx463_0, hx463_1⟩ := at_T93 HR1.out x6_1 p463 q463; obtain rfl : ad460 = ad463 := (by injection e463); replace p463 := eq_true p463; replace q463 := eq_true q463))
       repeat (go_quiet (first | (go_at_call 77; (with_reducible refine (spec_l09Answer.calls k1 _ _ l0 ((rd_T93 l1 x6_1).f0) (Go.bits .or .i64 x5_1 (ji7)) t462 _ ?side1 ?side2 A8.out).mono ?_); (case side1 => repeat (first | exact HR0.out | (with_reducible refine Kd.C_alloc ?_ _) | (with_reducible refine Kd.C_drewN ?_ _) | (with_reducible refine Kd.C_drew ?_))); (case side2 => exact HC0.out); rintro e w' ⟨rfl, ⟨nd, rfl⟩⟩; (try first | exact ⟨rfl, _, World.drewN_drewN _ _ _⟩ | exact ⟨rfl, _, Eq.trans (World.drewN_drewN _ _ _) (congrArg (World.drewN _) (Nat.add_assoc _ _ _))⟩))); try go_wp2_with (first | (go_at_call 77; (with_reducible refine (spec_l09Answer.calls k1 _ _ l0 ((rd_T93 l1 x6_1).f0) (Go.bits .or .i64 x5_1 (ji7)) t462 _ ?side1 ?side2 A8.out).mono ?_); (case side1 => repeat (first | exact HR0.out | (with_reducible refine Kd.C_alloc ?_ _) | (with_reducible refine Kd.C_drewN ?_ _) | (with_reducible refine Kd.C_drew ?_))); (case side2 => exact HC0.out); rintro e w' ⟨rfl, ⟨nd, rfl⟩⟩; (try first | exact ⟨rfl, _, World.drewN_drewN _ _ _⟩ | exact ⟨rfl, _, Eq.trans (World.drewN_drewN _ _ _) (congrArg (World.drewN _) (Nat.add_assoc _ _ _))⟩); have p463 : 0 ≤ (x6_1 : Int) := oda; have q463 : x6_1 < (l1.length : Int) := oda; obtain ⟨ad463, e463, hx463_0, hx463_1⟩ := at_T93 HR1.out x6_1 p463 q463; obtain rfl : ad460 = ad463 := (by injection e463); replace p463 := eq_true p463; replace q463 := eq_true q463)))
       go_ret
       exact ⟨by first | rfl | (simp; done) | (simp only [← hji5, ← hji7] <;> (first | rfl | simp)) | (simp [*]; done), by repeat (first | exact Drawn0.refl _ | apply Drawn0.step)⟩
     ·rw [if_neg c6] at H
      exact absurd H (by simp)
    ·rw [if_neg c4] at H
     exact absurd H (by simp)
   ·rw [if_neg c3] at H
    have c3b0 : decide (x6_1 < (l1.length : Int)) = false := decide_eq_false c3
    clear c3
    obtain rfl := Option.some.inj H
    go_wp2
    repeat (go_quiet (fail); try go_wp2)
    go_ret
    exact ⟨by first | rfl | (simp; done) | (simp [*]; done), by repeat (first | exact Drawn0.refl _ | apply Drawn0.step)⟩





/-! ### impl_bit: function 108 -/
def impl_bit.f (a0 : Bool) : Option (Int) := if a0 = true then (some 1) else (some 0)
set_option maxHeartbeats 8000000 in
set_option maxRecDepth 100000 in
theorem impl_bit.calls (a0 : Bool) (r : Int) (w : World) (h : impl_bit.f a0 = some r) :
  Calls Try.prog 108 #[.bool a0] w fun e w' => e = .returned (.int .i64 r) ∧ Drawn0 w w' := by
 have H : (if a0 = true then (some 1) else (some 0)) = some r := h
 clear h
 by_cases c2 : a0 = true
 ·subst c2
  have H1 : (some 1) = some r := by rw [if_pos rfl] at H; exact H
  clear H
  have H := H1
  clear H1
  obtain rfl := Option.some.inj H
  go_enter Try.func108, Try.ntmps108
  go_wp2
  go_ret
  exact ⟨by first | rfl | (simp; done) | (simp [*]; done), by repeat (first | exact Drawn0.refl _ | apply Drawn0.step)⟩
 ·replace c2 := Bool.eq_false_iff.mpr c2
  subst c2
  have H1 : (some 0) = some r := by rw [if_neg (show ¬ (false = true) by decide)] at H; exact H
  clear H
  have H := H1
  clear H1
  obtain rfl := Option.some.inj H
  go_enter Try.func108, Try.ntmps108
  go_wp2
  go_ret
  exact ⟨by first | rfl | (simp; done) | (simp [*]; done), by repeat (first | exact Drawn0.refl _ | apply Drawn0.step)⟩
/-! ### impl_answer: function 78 -/
def impl_answer.l0 : Nat → Int → Int → List Int → Int → Int → Option (Int)
 | 0, _, _, _, _, _ => none
 | k + 1, x1, x2, x9, x10, x11 => if x11 < x10 then (if 0 ≤ x11 then (if x11 < (x9.length : Int) then (if 0 ≤ x2 then (if (Go.bits .and .i64 (shr .i64 (rd x9 x11) x2) 1) = 1 then ((impl_bit.f ((Go.bits .andNot .i64 (rd x9 x11) (Go.bits .or .i64 x1 (shl .i64 1 x2))) == 0)).bind fun t647 => (some (wrap64 (1 + t647)))) else (impl_answer.l0 k x1 x2 x9 x10 (wrap64 (x11 + 1)))) else (none)) else (none)) else (none)) else (some 0)
def impl_answer.f (k : Nat) (l0 : List Int) (a1 : Int) (a2 : Int) : Option (Int) := impl_answer.l0 k a1 a2 l0 (l0.length : Int) 0
set_option maxHeartbeats 8000000 in
set_option maxRecDepth 100000 in
theorem impl_answer.calls (k : Nat) (A0 : Option Addr) (c0 : Nat) (l0 : List Int) (a1 : Int) (a2 : Int) (r : Int) (w : World) (hr0 : Kd.C (Kd.int .i64) w A0 l0.length l0) (hc0 : l0.length ≤ c0) (h : impl_answer.f k l0 a1 a2 = some r) :
  Calls Try.prog 78 #[.slice A0 l0.length c0, .int .i64 a1, .int .i64 a2] w fun e w' => e = .returned (.int .i64 r) ∧ Drawn0 w w' := by
 have HR0 := Aside0.mk hr0
 have HC0 := Aside0.mk hc0
 clear hr0 hc0
 have H : (impl_answer.l0 k a1 a2 l0 (l0.length : Int) 0) = some r := h
 clear h
 have H' := Aside0.mk H
 clear H
 go_enter Try.func78, Try.ntmps78
 go_wp2
 go_loopg [11] k (fun kq v11 w' => ∃ (x11_1 : Int), v11 = .int .i64 x11_1 ∧ Aside0 (impl_answer.l0 kq a1 a2 l0 (l0.length : Int) x11_1 = some r) ∧ Aside0 (kq ≤ k) ∧ Drawn0 w w')
 case atStart => exact ⟨(0), (by first | rfl | (simp; done) | (simp [*]; done)), H', ⟨Nat.le_refl _⟩, by repeat (first | exact Drawn0.refl _ | apply Drawn0.step)⟩
 case round =>
  clear H'
  (try clear p2)
  obtain ⟨x11_1, rfl, HA, HK1, ⟨m1, rfl⟩⟩ := hrel
  cases gk with
  | zero => exact absurd HA.out (by simp [impl_answer.l0])
  | succ k1 =>
   have H := HA.out
   clear HA
   simp only [impl_answer.l0] at H
   by_cases c4 : x11_1 < (l0.length : Int)
   ·rw [if_pos c4] at H
    have c4b0 : decide (x11_1 < (l0.length : Int)) = true := decide_eq_true c4
    clear c4
    by_cases c5 : 0 ≤ x11_1
    ·rw [if_pos c5] at H
     have c5b0 : decide (0 ≤ x11_1) = true := decide_eq_true c5
     clear c5
     by_cases c6 : x11_1 < (l0.length : Int)
     ·rw [if_pos c6] at H
      have c6b0 : decide (x11_1 < (l0.length : Int)) = true := decide_eq_true c6
      clear c6
      by_cases c7 : 0 ≤ a2
      ·rw [if_pos c7] at H
       have c7b0 := eq_true c7
       have c7b1 : decide (0 ≤ a2) = true := decide_eq_true c7
       clear c7
       obtain ⟨ji8, hji8⟩ : ∃ j_ : Int, (shr .i64 (rd l0 x11_1) a2) = j_ := ⟨_, rfl⟩
       replace H : (if (Go.bits .and .i64 (ji8) 1) = 1 then ((impl_bit.f ((Go.bits .andNot .i64 (rd l0 x11_1) (Go.bits .or .i64 a1 (shl .i64 1 a2))) == 0)).bind fun t647 => (some (wrap64 (1 + t647)))) else (impl_answer.l0 k1 a1 a2 l0 (l0.length : Int) (wrap64 (x11_1 + 1)))) = some r := by first | (rw [hji8] at H; exact H) | (simp only [hji8] at H ⊢; exact H)
       have hji8_ : ((rd l0 x11_1) / 2 ^ min a2.toNat 64) = ji8 := hji8
       have hji8z : a2 ≤ 64 → ((rd l0 x11_1) / 2 ^ a2.toNat) = ji8 := shr_small hji8
       by_cases c9 : (Go.bits .and .i64 (ji8) 1) = 1
       ·rw [if_pos c9] at H
        have c9b0 : ((Go.bits .and .i64 (ji8) 1) == 1) = true := beq_iff_eq.mpr c9
        have c9b1 : ((Go.bits .and .i64 (ji8) 1) != 1) = false := bne_eq_false_iff_eq.mpr c9
        clear c9
        have c10b0 := eq_true (oda : 0 ≤ a2)
        obtain ⟨ji11, hji11⟩ : ∃ j_ : Int, (shl .i64 1 a2) = j_ := ⟨_, rfl⟩
        replace H : ((impl_bit.f ((Go.bits .andNot .i64 (rd l0 x11_1) (Go.bits .or .i64 a1 (ji11))) == 0)).bind fun t647 => (some (wrap64 (1 + t647)))) = some r := by first | (rw [hji11] at H; exact H) | (simp only [hji11] at H ⊢; exact H)
        have hji11_ : (IntKind.i64.wrap (1 * 2 ^ min a2.toNat 64)) = ji11 := hji11
        have hji11z : a2 ≤ 64 → (IntKind.i64.wrap (1 * 2 ^ a2.toNat)) = ji11 := shl_small hji11
        have hji11u : (IntKind.i64.wrap (2 ^ min a2.toNat 64)) = ji11 := by have h_ := hji11_; rw [Int.one_mul] at h_; exact h_
        have hji11v : a2 ≤ 64 → (IntKind.i64.wrap (2 ^ a2.toNat)) = ji11 := fun hle_ => by have h_ := hji11z hle_; rw [Int.one_mul] at h_; exact h_
        have hji11y : (wrap64 (1 * 2 ^ min a2.toNat 64)) = ji11 := (i64_w _).symm.trans hji11_
        have hji11x : a2 ≤ 64 → (wrap64 (1 * 2 ^ a2.toNat)) = ji11 := fun h_ => (i64_w _).symm.trans (hji11z h_)
        replace H := Option.bind_eq_some_iff.mp H
        obtain ⟨t647, A120, H⟩ := H
        replace H : (some (wrap64 (1 + t647))) = some r := H
        have A12 := Aside0.mk A120
        clear A120
        obtain rfl := Option.some.inj H
        have p646 : 0 ≤ (x11_1 : Int) := oda
        have q646 : x11_1 < (l0.length : Int) := oda
        obtain ⟨ad646, e646, hx646_0⟩ := Kd.at_int HR0.out x11_1 p646 q646
        cases e646
        replace p646 := eq_true p646
        replace q646 := eq_true q646
        go_wp2_with (first | ((with_reducible refine gate_callee (f := 108) rfl ?_); refine goesL_ (some 27) rfl rfl Try.func108 (by kernel_rfl) rfl #[.bool ((Go.bits .andNot .i64 (rd l0 x11_1) (Go.bits .or .i64 a1 (ji11))) == 0)] rfl (by (try simp only [List.map_toArray, List.map_cons, List.map_nil]); first | done | (simp only [hji11]; rfl) | rfl | (simp only [List.length_drop, List.length_take]; rfl)) ?_; (with_reducible refine (impl_bit.calls ((Go.bits .andNot .i64 (rd l0 x11_1) (Go.bits .or .i64 a1 (ji11))) == 0) t647 _ A12.out).mono ?_); rintro e w' ⟨rfl, ⟨nd, rfl⟩⟩; refine ⟨_, rfl, ?_⟩))
        go_ret
        exact ⟨by first | rfl | (simp; done) | (simp only [← hji8, ← hji11] <;> (first | rfl | simp)) | (simp [*]; done), by repeat (first | exact Drawn0.refl _ | apply Drawn0.step)⟩
       ·rw [if_neg c9] at H
        have c9b0 : ((Go.bits .and .i64 (ji8) 1) == 1) = false := beq_eq_false_iff_ne.mpr c9
        have c9b1 : ((Go.bits .and .i64 (ji8) 1) != 1) = true := bne_iff_ne.mpr c9
        have H' := Aside0.mk H
        clear H
        have p646 : 0 ≤ (x11_1 : Int) := oda
        have q646 : x11_1 < (l0.length : Int) := oda
        obtain ⟨ad646, e646, hx646_0⟩ := Kd.at_int HR0.out x11_1 p646 q646
        cases e646
        replace p646 := eq_true p646
        replace q646 := eq_true q646
        go_wp2
        go_roundg k1
        case measure => have := HK1.out; omega
        case rel => exact ⟨(wrap64 (x11_1 + 1)), (by first | rfl | (simp; done) | (simp [*]; done)), H', ⟨by have := HK1.out; omega⟩, by repeat (first | exact Drawn0.refl _ | apply Drawn0.step)⟩
      ·rw [if_neg c7] at H
       exact absurd H (by simp)
     ·rw [if_neg c6] at H
      exact absurd H (by simp)
    ·rw [if_neg c5] at H
     exact absurd H (by simp)
   ·rw [if_neg c4] at H
    have c4b0 : decide (x11_1 < (l0.length : Int)) = false := decide_eq_false c4
    clear c4
    obtain rfl := Option.some.inj H
    go_wp2
    go_ret
    exact ⟨by first | rfl | (simp; done) | (simp [*]; done), by repeat (first | exact Drawn0.refl _ | apply Drawn0.step)⟩


/-! ### impl_agrees: function 87 -/
def impl_agrees.l0 : Nat → List Int → Int → List (S93) → Int → Int → Option (Bool)
 | 0, _, _, _, _, _ => none
 | k + 1, x0, x5, x8, x9, x10 => if x10 < x9 then (if 0 ≤ x10 then (if x10 < (x8.length : Int) then ((impl_answer.f k x0 x5 ((rd_T93 x8 x10).f0)).bind fun t807 => (if t807 = ((rd_T93 x8 x10).f1) then (if 0 ≤ ((rd_T93 x8 x10).f0) then (impl_agrees.l0 k x0 (Go.bits .or .i64 x5 (shl .i64 1 ((rd_T93 x8 x10).f0))) x8 x9 (wrap64 (x10 + 1))) else (none)) else (some false))) else (none)) else (none)) else (some true)
def impl_agrees.f (k : Nat) (l0 : List Int) (l1 : List (S93)) : Option (Bool) := impl_agrees.l0 k l0 0 l1 (l1.length : Int) 0
set_option maxHeartbeats 8000000 in
set_option maxRecDepth 100000 in
theorem impl_agrees.calls (k : Nat) (A0 : Option Addr) (c0 : Nat) (l0 : List Int) (A1 : Option Addr) (c1 : Nat) (l1 : List (S93)) (r : Bool) (w : World) (hr0 : Kd.C (Kd.int .i64) w A0 l0.length l0) (hc0 : l0.length ≤ c0) (hr1 : Kd.C k93 w A1 l1.length l1) (hc1 : l1.length ≤ c1) (h : impl_agrees.f k l0 l1 = some r) :
  Calls Try.prog 87 #[.slice A0 l0.length c0, .slice A1 l1.length c1] w fun e w' => e = .returned (.bool r) ∧ Below w.heap.size w w' := by
 have hu93 := Try.underlying93
 have HR0 := Aside0.mk hr0
 have HC0 := Aside0.mk hc0
 clear hr0 hc0
 have HR1 := Aside0.mk hr1
 have HC1 := Aside0.mk hc1
 clear hr1 hc1
 have HB := Aside0.mk (Below.refl w.heap.size w)
 have H : (impl_agrees.l0 k l0 0 l1 (l1.length : Int) 0) = some r := h
 clear h
 have H' := Aside0.mk H
 clear H
 go_enter Try.func87, Try.ntmps87
 go_wp2
 repeat (go_quiet (fail); try go_wp2)
 go_loopg [5, 10] k (fun kq v5 v10 w' => ∃ (x5_1 : Int) (x10_1 : Int), v5 = .int .i64 x5_1 ∧ v10 = .int .i64 x10_1 ∧ Aside0 (impl_agrees.l0 kq l0 x5_1 l1 (l1.length : Int) x10_1 = some r) ∧ Aside0 (kq ≤ k) ∧ Aside0 (Below w.heap.size w w'))
 case atStart => exact ⟨(0), (0), (by first | rfl | (simp; done) | (simp [*]; done)), (by first | rfl | (simp; done) | (simp [*]; done)), H', ⟨Nat.le_refl _⟩, ⟨by repeat (first | (with_reducible first | exact HB.out | apply below_alloc | apply pw_below_drewN | apply below_drew1) | exact HB.out)⟩⟩
 case round =>
  clear H'
  (try clear c1); (try clear p2)
  obtain ⟨x5_1, x10_1, rfl, rfl, HA, HK1, HB⟩ := hrel
  cases gk with
  | zero => exact absurd HA.out (by simp [impl_agrees.l0])
  | succ k1 =>
   have H := HA.out
   clear HA
   simp only [impl_agrees.l0] at H
   by_cases c3 : x10_1 < (l1.length : Int)
   ·rw [if_pos c3] at H
    have c3b0 : decide (x10_1 < (l1.length : Int)) = true := decide_eq_true c3
    clear c3
    by_cases c4 : 0 ≤ x10_1
    ·rw [if_pos c4] at H
     have c4b0 : decide (0 ≤ x10_1) = true := decide_eq_true c4
     clear c4
     by_cases c5 : x10_1 < (l1.length : Int)
     ·rw [if_pos c5] at H
      have c5b0 : decide (x10_1 < (l1.length : Int)) = true := decide_eq_true c5
      clear c5
      replace H := Option.bind_eq_some_iff.mp H
      obtain ⟨t807, A60, H⟩ := H
      replace H : (if t807 = ((rd_T93 l1 x10_1).f1) then (if 0 ≤ ((rd_T93 l1 x10_1).f0) then (impl_agrees.l0 k1 l0 (Go.bits .or .i64 x5_1 (shl .i64 1 ((rd_T93 l1 x10_1).f0))) l1 (l1.length : Int) (wrap64 (x10_1 + 1))) else (none)) else (some false)) = some r := H
      have A6 := Aside0.mk A60
      clear A60
      by_cases c7 : t807 = ((rd_T93 l1 x10_1).f1)
      ·rw [if_pos c7] at H
       have c7b0 : (t807 == ((rd_T93 l1 x10_1).f1)) = true := beq_iff_eq.mpr c7
       have c7b1 : (t807 != ((rd_T93 l1 x10_1).f1)) = false := bne_eq_false_iff_eq.mpr c7
       clear c7
       by_cases c8 : 0 ≤ ((rd_T93 l1 x10_1).f0)
       ·rw [if_pos c8] at H
        have c8b0 := eq_true c8
        have c8b1 : decide (0 ≤ ((rd_T93 l1 x10_1).f0)) = true := decide_eq_true c8
        clear c8
        obtain ⟨ji9, hji9⟩ : ∃ j_ : Int, (shl .i64 1 ((rd_T93 l1 x10_1).f0)) = j_ := ⟨_, rfl⟩
        replace H : (impl_agrees.l0 k1 l0 (Go.bits .or .i64 x5_1 (ji9)) l1 (l1.length : Int) (wrap64 (x10_1 + 1))) = some r := by first | (rw [hji9] at H; exact H) | (simp only [hji9] at H ⊢; exact H)
        (try rw [hji9] at A6)
        have hji9_ : (IntKind.i64.wrap (1 * 2 ^ min ((rd_T93 l1 x10_1).f0).toNat 64)) = ji9 := hji9
        have hji9z : ((rd_T93 l1 x10_1).f0) ≤ 64 → (IntKind.i64.wrap (1 * 2 ^ ((rd_T93 l1 x10_1).f0).toNat)) = ji9 := shl_small hji9
        have hji9u : (IntKind.i64.wrap (2 ^ min ((rd_T93 l1 x10_1).f0).toNat 64)) = ji9 := by have h_ := hji9_; rw [Int.one_mul] at h_; exact h_
        have hji9v : ((rd_T93 l1 x10_1).f0) ≤ 64 → (IntKind.i64.wrap (2 ^ ((rd_T93 l1 x10_1).f0).toNat)) = ji9 := fun hle_ => by have h_ := hji9z hle_; rw [Int.one_mul] at h_; exact h_
        have hji9y : (wrap64 (1 * 2 ^ min ((rd_T93 l1 x10_1).f0).toNat 64)) = ji9 := (i64_w _).symm.trans hji9_
        have hji9x : ((rd_T93 l1 x10_1).f0) ≤ 64 → (wrap64 (1 * 2 ^ ((rd_T93 l1 x10_1).f0).toNat)) = ji9 := fun h_ => (i64_w _).symm.trans (hji9z h_)
        have H' := Aside0.mk H
        clear H
        have p805 : 0 ≤ (x10_1 : Int) := oda
        have q805 : x10_1 < (l1.length : Int) := oda
        obtain ⟨ad805, e805, hx805_0, hx805_1⟩ := at_T93 HR1.out x10_1 p805 q805
        cases e805
        replace hx805_0 := (HB.out.cell (World.block_lt_of_cell? w _ hx805_0)).trans hx805_0
        replace hx805_1 := (HB.out.cell (World.block_lt_of_cell? w _ hx805_1)).trans hx805_1
        replace p805 := eq_true p805
        replace q805 := eq_true q805
        go_wp2_with (first | ((with_reducible refine gate_dst (N := 7) rfl ?_); refine box_event ?hg (N := 7) ?hd (cs := #[.int .i64 0, .int .i64 0]) (t := 93) ?hr ?_; (case hd => rfl); (case hg => rfl); (case hr => first | (go_simp; done) | (go_simp; rfl)); intro gb806 hg w10 hbox hb; have n0_ := Aside0.mk (below_step hb_ hb); have n1_ := Aside0.mk (hbox); have n2_ := Aside0.mk ((by rw [hg]; exact (below_size hb_) : w.heap.size ≤ gb806)); have n3_ := Aside0.mk ((by rw [hg]; exact (below_size hb_) : w.heap.size ≤ gb806)); clear HB; have HB := n0_; have BK806 := n1_; have GW806 := n2_; have GE806 := n3_; clear n0_ n1_ n2_ n3_; clear hb hbox hg; have hcz11_0 : w10.cell? ⟨gb806, 0, none⟩ = some (.int .i64 0) := (blk_cell BK806.out 0).trans rfl; have hcz11_1 : w10.cell? ⟨gb806, 1, none⟩ = some (.int .i64 0) := (blk_cell BK806.out 1).trans rfl; have hfz11_0 := blk_frozen BK806.out 0; have hfz11_1 := blk_frozen BK806.out 1) | (go_at_call 78; (with_reducible refine (impl_answer.calls k1 _ _ l0 x5_1 ((rd_T93 l1 x10_1).f0) t807 _ ?side1 ?side2 A6.out).mono ?_); (case side1 => exact Kd.C_below HR0.out (by repeat (first | (with_reducible first | exact HB.out | apply below_alloc | apply pw_below_drewN | apply below_drew1 | refine below_set ?_ GE806.out) | exact HB.out))); (case side2 => exact HC0.out); rintro e w' ⟨rfl, ⟨nd, rfl⟩⟩; (try first | exact ⟨rfl, _, World.drewN_drewN _ _ _⟩ | exact ⟨rfl, _, Eq.trans (World.drewN_drewN _ _ _) (congrArg (World.drewN _) (Nat.add_assoc _ _ _))⟩)))
        repeat (go_quiet (first | ((with_reducible refine gate_dst (N := 7) rfl ?_); refine box_event ?hg (N := 7) ?hd (cs := #[.int .i64 0, .int .i64 0]) (t := 93) ?hr ?_; (case hd => rfl); (case hg => rfl); (case hr => first | (go_simp; done) | (go_simp; rfl)); intro gb806 hg w10 hbox hb; have n0_ := Aside0.mk (below_step hb_ hb); have n1_ := Aside0.mk (hbox); have n2_ := Aside0.mk ((by rw [hg]; exact (below_size hb_) : w.heap.size ≤ gb806)); have n3_ := Aside0.mk ((by rw [hg]; exact (below_size hb_) : w.heap.size ≤ gb806)); clear HB; have HB := n0_; have BK806 := n1_; have GW806 := n2_; have GE806 := n3_; clear n0_ n1_ n2_ n3_; clear hb hbox hg; have hcz11_0 : w10.cell? ⟨gb806, 0, none⟩ = some (.int .i64 0) := (blk_cell BK806.out 0).trans rfl; have hcz11_1 : w10.cell? ⟨gb806, 1, none⟩ = some (.int .i64 0) := (blk_cell BK806.out 1).trans rfl; have hfz11_0 := blk_frozen BK806.out 0; have hfz11_1 := blk_frozen BK806.out 1) | (go_at_call 78; (with_reducible refine (impl_answer.calls k1 _ _ l0 x5_1 ((rd_T93 l1 x10_1).f0) t807 _ ?side1 ?side2 A6.out).mono ?_); (case side1 => exact Kd.C_below HR0.out (by repeat (first | (with_reducible first | exact HB.out | apply below_alloc | apply pw_below_drewN | apply below_drew1 | refine below_set ?_ GE806.out) | exact HB.out))); (case side2 => exact HC0.out); rintro e w' ⟨rfl, ⟨nd, rfl⟩⟩; (try first | exact ⟨rfl, _, World.drewN_drewN _ _ _⟩ | exact ⟨rfl, _, Eq.trans (World.drewN_drewN _ _ _) (congrArg (World.drewN _) (Nat.add_assoc _ _ _))⟩))); try go_wp2_with (first | ((with_reducible refine gate_dst (N := 7) rfl ?_); refine box_event ?hg (N := 7) ?hd (cs := #[.int .i64 0, .int .i64 0]) (t := 93) ?hr ?_; (case hd => rfl); (case hg => rfl); (case hr => first | (go_simp; done) | (go_simp; rfl)); intro gb806 hg w10 hbox hb; have n0_ := Aside0.mk (below_step hb_ hb); have n1_ := Aside0.mk (hbox); have n2_ := Aside0.mk ((by rw [hg]; exact (below_size hb_) : w.heap.size ≤ gb806)); have n3_ := Aside0.mk ((by rw [hg]; exact (below_size hb_) : w.heap.size ≤ gb806)); clear HB; have HB := n0_; have BK806 := n1_; have GW806 := n2_; have GE806 := n3_; clear n0_ n1_ n2_ n3_; clear hb hbox hg; have hcz11_0 : w10.cell? ⟨gb806, 0, none⟩ = some (.int .i64 0) := (blk_cell BK806.out 0).trans rfl; have hcz11_1 : w10.cell? ⟨gb806, 1, none⟩ = some (.int .i64 0) := (blk_cell BK806.out 1).trans rfl; have hfz11_0 := blk_frozen BK806.out 0; have hfz11_1 := blk_frozen BK806.out 1) | (go_at_call 78; (with_reducible refine (impl_answer.calls k1 _ _ l0 x5_1 ((rd_T93 l1 x10_1).f0) t807 _ ?side1 ?side2 A6.out).mono ?_); (case side1 => exact Kd.C_below HR0.out (by repeat (first | (with_reducible first | exact HB.out | apply below_alloc | apply pw_below_drewN | apply below_drew1 | refine below_set ?_ GE806.out) | exact HB.out))); (case side2 => exact HC0.out); rintro e w' ⟨rfl, ⟨nd, rfl⟩⟩; (try first | exact ⟨rfl, _, World.drewN_drewN _ _ _⟩ | exact ⟨rfl, _, Eq.trans (World.drewN_drewN _ _ _) (congrArg (World.drewN _) (Nat.add_assoc _ _ _))⟩))))
        go_roundg k1
        case measure => have := HK1.out; omega
        case rel => exact ⟨(Go.bits .or .i64 x5_1 (ji9)), (wrap64 (x10_1 + 1)), (by first | rfl | (simp; done) | (simp only [← hji9] <;> (first | rfl | simp)) | (simp [*]; done)), (by first | rfl | (simp; done) | (simp [*]; done)), H', ⟨by have := HK1.out; omega⟩, ⟨by repeat (first | (with_reducible first | exact HB.out | apply below_alloc | apply pw_below_drewN | apply below_drew1 | refine below_set ?_ GE806.out) | exact HB.out)⟩⟩
       ·rw [if_neg c8] at H
        exact absurd H (by simp)
      ·rw [if_neg c7] at H
       have c7b0 : (t807 == ((rd_T93 l1 x10_1).f1)) = false := beq_eq_false_iff_ne.mpr c7
       have c7b1 : (t807 != ((rd_T93 l1 x10_1).f1)) = true := bne_iff_ne.mpr c7
       obtain rfl := Option.some.inj H
       have p805 : 0 ≤ (x10_1 : Int) := oda
       have q805 : x10_1 < (l1.length : Int) := oda
       obtain ⟨ad805, e805, hx805_0, hx805_1⟩ := at_T93 HR1.out x10_1 p805 q805
       cases e805
       replace hx805_0 := (HB.out.cell (World.block_lt_of_cell? w _ hx805_0)).trans hx805_0
       replace hx805_1 := (HB.out.cell (World.block_lt_of_cell? w _ hx805_1)).trans hx805_1
       replace p805 := eq_true p805
       replace q805 := eq_true q805
       go_wp2_with (first | ((with_reducible refine gate_dst (N := 7) rfl ?_); refine box_event ?hg (N := 7) ?hd (cs := #[.int .i64 0, .int .i64 0]) (t := 93) ?hr ?_; (case hd => rfl); (case hg => rfl); (case hr => first | (go_simp; done) | (go_simp; rfl)); intro gb806 hg w12 hbox hb; have n0_ := Aside0.mk (below_step hb_ hb); have n1_ := Aside0.mk (hbox); have n2_ := Aside0.mk ((by rw [hg]; exact (below_size hb_) : w.heap.size ≤ gb806)); have n3_ := Aside0.mk ((by rw [hg]; exact (below_size hb_) : w.heap.size ≤ gb806)); clear HB; have HB := n0_; have BK806 := n1_; have GW806 := n2_; have GE806 := n3_; clear n0_ n1_ n2_ n3_; clear hb hbox hg; have hcz13_0 : w12.cell? ⟨gb806, 0, none⟩ = some (.int .i64 0) := (blk_cell BK806.out 0).trans rfl; have hcz13_1 : w12.cell? ⟨gb806, 1, none⟩ = some (.int .i64 0) := (blk_cell BK806.out 1).trans rfl; have hfz13_0 := blk_frozen BK806.out 0; have hfz13_1 := blk_frozen BK806.out 1) | (go_at_call 78; (with_reducible refine (impl_answer.calls k1 _ _ l0 x5_1 ((rd_T93 l1 x10_1).f0) t807 _ ?side1 ?side2 A6.out).mono ?_); (case side1 => exact Kd.C_below HR0.out (by repeat (first | (with_reducible first | exact HB.out | apply below_alloc | apply pw_below_drewN | apply below_drew1 | refine below_set ?_ GE806.out) | exact HB.out))); (case side2 => exact HC0.out); rintro e w' ⟨rfl, ⟨nd, rfl⟩⟩; (try first | exact ⟨rfl, _, World.drewN_drewN _ _ _⟩ | exact ⟨rfl, _, Eq.trans (World.drewN_drewN _ _ _) (congrArg (World.drewN _) (Nat.add_assoc _ _ _))⟩)))
       repeat (go_quiet (first | ((with_reducible refine gate_dst (N := 7) rfl ?_); refine box_event ?hg (N := 7) ?hd (cs := #[.int .i64 0, .int .i64 0]) (t := 93) ?hr ?_; (case hd => rfl); (case hg => rfl); (case hr => first | (go_simp; done) | (go_simp; rfl)); intro gb806 hg w12 hbox hb; have n0_ := Aside0.mk (below_step hb_ hb); have n1_ := Aside0.mk (hbox); have n2_ := Aside0.mk ((by rw [hg]; exact (below_size hb_) : w.heap.size ≤ gb806)); have n3_ := Aside0.mk ((by rw [hg]; exact (below_size hb_) : w.heap.size ≤ gb806)); clear HB; have HB := n0_; have BK806 := n1_; have GW806 := n2_; have GE806 := n3_; clear n0_ n1_ n2_ n3_; clear hb hbox hg; have hcz13_0 : w12.cell? ⟨gb806, 0, none⟩ = some (.int .i64 0) := (blk_cell BK806.out 0).trans rfl; have hcz13_1 : w12.cell? ⟨gb806, 1, none⟩ = some (.int .i64 0) := (blk_cell BK806.out 1).trans rfl; have hfz13_0 := blk_frozen BK806.out 0; have hfz13_1 := blk_frozen BK806.out 1) | (go_at_call 78; (with_reducible refine (impl_answer.calls k1 _ _ l0 x5_1 ((rd_T93 l1 x10_1).f0) t807 _ ?side1 ?side2 A6.out).mono ?_); (case side1 => exact Kd.C_below HR0.out (by repeat (first | (with_reducible first | exact HB.out | apply below_alloc | apply pw_below_drewN | apply below_drew1 | refine below_set ?_ GE806.out) | exact HB.out))); (case side2 => exact HC0.out); rintro e w' ⟨rfl, ⟨nd, rfl⟩⟩; (try first | exact ⟨rfl, _, World.drewN_drewN _ _ _⟩ | exact ⟨rfl, _, Eq.trans (World.drewN_drewN _ _ _) (congrArg (World.drewN _) (Nat.add_assoc _ _ _))⟩))); try go_wp2_with (first | ((with_reducible refine gate_dst (N := 7) rfl ?_); refine box_event ?hg (N := 7) ?hd (cs := #[.int .i64 0, .int .i64 0]) (t := 93) ?hr ?_; (case hd => rfl); (case hg => rfl); (case hr => first | (go_simp; done) | (go_simp; rfl)); intro gb806 hg w12 hbox hb; have n0_ := Aside0.mk (below_step hb_ hb); have n1_ := Aside0.mk (hbox); have n2_ := Aside0.mk ((by rw [hg]; exact (below_size hb_) : w.heap.size ≤ gb806)); have n3_ := Aside0.mk ((by rw [hg]; exact (below_size hb_) : w.heap.size ≤ gb806)); clear HB; have HB := n0_; have BK806 := n1_; have GW806 := n2_; have GE806 := n3_; clear n0_ n1_ n2_ n3_; clear hb hbox hg; have hcz13_0 : w12.cell? ⟨gb806, 0, none⟩ = some (.int .i64 0) := (blk_cell BK806.out 0).trans rfl; have hcz13_1 : w12.cell? ⟨gb806, 1, none⟩ = some (.int .i64 0) := (blk_cell BK806.out 1).trans rfl; have hfz13_0 := blk_frozen BK806.out 0; have hfz13_1 := blk_frozen BK806.out 1) | (go_at_call 78; (with_reducible refine (impl_answer.calls k1 _ _ l0 x5_1 ((rd_T93 l1 x10_1).f0) t807 _ ?side1 ?side2 A6.out).mono ?_); (case side1 => exact Kd.C_below HR0.out (by repeat (first | (with_reducible first | exact HB.out | apply below_alloc | apply pw_below_drewN | apply below_drew1 | refine below_set ?_ GE806.out) | exact HB.out))); (case side2 => exact HC0.out); rintro e w' ⟨rfl, ⟨nd, rfl⟩⟩; (try first | exact ⟨rfl, _, World.drewN_drewN _ _ _⟩ | exact ⟨rfl, _, Eq.trans (World.drewN_drewN _ _ _) (congrArg (World.drewN _) (Nat.add_assoc _ _ _))⟩))))
       go_ret
       exact ⟨by first | rfl | (simp [errW_none, errW_some] <;> rfl) | (simp [*, errW_none, errW_some] <;> rfl), by repeat (first | (with_reducible first | exact HB.out | apply below_alloc | apply pw_below_drewN | apply below_drew1 | refine below_set ?_ GE806.out) | exact HB.out)⟩
     ·rw [if_neg c5] at H
      exact absurd H (by simp)
    ·rw [if_neg c4] at H
     exact absurd H (by simp)
   ·rw [if_neg c3] at H
    have c3b0 : decide (x10_1 < (l1.length : Int)) = false := decide_eq_false c3
    clear c3
    obtain rfl := Option.some.inj H
    go_wp2
    repeat (go_quiet (fail); try go_wp2)
    go_ret
    exact ⟨by first | rfl | (simp [errW_none, errW_some] <;> rfl) | (simp [*, errW_none, errW_some] <;> rfl), by repeat (first | (with_reducible first | exact HB.out | apply below_alloc | apply pw_below_drewN | apply below_drew1) | exact HB.out)⟩


-- Answers of a fleet to shots.
def ansFrom (fl : List Int) (c set : Int) : Nat → Nat → Int
  | _, 0 => 0
  | i, d + 1 => if Go.bits .and .i64 (shr .i64 (rd fl (i : Int)) c) 1 = 1 then (if Go.bits .andNot .i64 (rd fl (i : Int)) set = 0 then 2 else 1) else ansFrom fl c set (i + 1) d
def NumFleet (fl : List Int) : Prop := ∀ x ∈ fl, ∃ m : Nat, x = (m : Int) ∧ m < 33554432
theorem and_dich {fl : List Int} (hf : NumFleet fl) (q i : Nat) (hq : q < 25) (hi : i < fl.length) : Go.bits .and .i64 (shr .i64 (rd fl (i : Int)) (q : Int)) 1 = 1 ∨ Go.bits .and .i64 (shr .i64 (rd fl (i : Int)) (q : Int)) 1 = 0 := by
  obtain ⟨m, e, hm⟩ := hf _ (List.getElem_mem hi)
  rw [rd_get fl i hi, e, bit_nat m q (Nat.lt_of_lt_of_le hm pow25_le) (by omega)]
  split
  · exact .inl rfl
  · exact .inr rfl
theorem specAns_ev {fl : List Int} (hf : NumFleet fl) (hl : fl.length ≤ 1000) (q : Nat) (hq : q < 25) (set : Int) : Ev (fun k => spec_l09Answer.f k fl (q : Int) set) (ansFrom fl (q : Int) set 0 fl.length) := by
  unfold spec_l09Answer.f
  have hu := u64_nat q (by omega)
  have c3 : (0 : Int) ≤ (q : Int) := by omega
  have key : ∀ (d i : Nat), i + d = fl.length → Ev (fun k => spec_l09Answer.l0 k fl (q : Int) set i) (ansFrom fl (q : Int) set i d) := by
    intro d
    induction d with
    | zero =>
      intro i hi
      refine Ev.step (f := fun _ => some 0) (fun k => ?_) (Ev.now _)
      simp only [spec_l09Answer.l0]
      rw [if_neg (by omega)]
    | succ d ih =>
      intro i hi
      have c1 : (i : Int) < (fl.length : Int) := by omega
      have c2 : (0 : Int) ≤ (i : Int) := by omega
      have hw := Aside0.mk (wrap_one (a := i) (by omega))
      have ih1 := ih (i + 1) (by omega)
      rcases and_dich hf q i hq (by omega) with hb | hb
      · have he : ansFrom fl (q : Int) set i (d + 1) = if Go.bits .andNot .i64 (rd fl (i : Int)) set = 0 then 2 else 1 := by unfold ansFrom; rw [if_pos hb]
        rw [he]
        refine Ev.step (f := fun _ => some (if Go.bits .andNot .i64 (rd fl (i : Int)) set = 0 then 2 else 1)) (fun k => ?_) (Ev.now _)
        simp only [spec_l09Answer.l0]
        rw [if_pos c1, if_pos c2, hu, if_pos c3, hb, if_neg (by decide)]
        split <;> rfl
      · have he : ansFrom fl (q : Int) set i (d + 1) = ansFrom fl (q : Int) set (i + 1) d := by show (if _ then _ else _) = _; rw [if_neg (by rw [hb]; decide)]
        rw [he]
        refine Ev.step (fun k => ?_) ih1
        simp only [spec_l09Answer.l0]
        rw [if_pos c1, if_pos c2, hu, if_pos c3, hb, if_pos rfl, hw.out]
  exact key fl.length 0 (by omega)
def SeaCells (cells : List Int) : Prop := ∀ x ∈ cells, 0 ≤ x ∧ x ≤ 24

-- Shots: copies, right shots, agreement. (for 43)
theorem rd93_get (l : List S93) (i : Nat) (h : i < l.length) : rd_T93 l (i : Int) = l[i] := by
  show l.getD (i : Int).toNat _ = _
  rw [Int.toNat_natCast, List.getD_eq_getElem?_getD, List.getElem?_eq_getElem h]; rfl
theorem wrap_nat1 {i n : Nat} (h : i < n) (hn : n ≤ 1048576) : wrap64 ((i : Int) + 1) = ((i + 1 : Nat) : Int) := by
  rw [show (i : Int) + 1 = ((i + 1 : Nat) : Int) by omega]; exact wrap_num (by omega)
/-- Whether a fleet agrees with shots. -/
def agFrom (fl : List Int) : Int → List S93 → Bool
  | _, [] => true
  | set, x :: r => decide (ansFrom fl x.f0 (Go.bits .or .i64 set (shl .i64 1 x.f0)) 0 fl.length = x.f1) && agFrom fl (Go.bits .or .i64 set (shl .i64 1 x.f0)) r
theorem specAgrees_ev {fl : List Int} (hf : NumFleet fl) (hl : fl.length ≤ 1000) (T : List S93) (hT : T.length ≤ 1048576) (hc : SeaCells (T.map fun x => x.f0)) : Ev (fun k => spec_l09Agrees.f k fl T) (agFrom fl 0 T) := by
  unfold spec_l09Agrees.f
  have key : ∀ (d i : Nat) (set : Int), i + d = T.length → Ev (fun k => spec_l09Agrees.l0 k fl T set i) (agFrom fl set (T.drop i)) := by
    intro d
    induction d with
    | zero =>
      intro i set hi
      rw [List.drop_eq_nil_of_le (by omega)]
      refine Ev.step (f := fun _ => some true) (fun k => ?_) (Ev.now _)
      simp only [spec_l09Agrees.l0]
      rw [if_neg (by omega)]
    | succ d ih =>
      intro i set hi
      have hlt : i < T.length := by omega
      have c1 : (i : Int) < (T.length : Int) := by omega
      have c2 : (0 : Int) ≤ (i : Int) := by omega
      have hw := wrap_nat1 hlt hT
      have hrd := rd93_get T i hlt
      have hx := hc T[i].f0 (List.mem_map.2 ⟨T[i], List.getElem_mem _, rfl⟩)
      obtain ⟨q, hq, hq25⟩ : ∃ q : Nat, T[i].f0 = (q : Int) ∧ q < 25 := ⟨T[i].f0.toNat, by omega, by omega⟩
      have hu := u64_nat q (by omega)
      have c3 : (0 : Int) ≤ (q : Int) := by omega
      rw [List.drop_eq_getElem_cons hlt]
      unfold agFrom
      rw [hq]
      have ih1 := ih (i + 1) (Go.bits .or .i64 set (shl .i64 1 (q : Int))) (by omega)
      have ha := specAns_ev hf hl q hq25 (Go.bits .or .i64 set (shl .i64 1 (q : Int)))
      refine Ev.step (f := fun k => (spec_l09Answer.f k fl (q : Int) (Go.bits .or .i64 set (shl .i64 1 (q : Int)))).bind fun t462 => (if t462 = T[i].f1 then (spec_l09Agrees.l0 k fl T (Go.bits .or .i64 set (shl .i64 1 (q : Int))) ((i + 1 : Nat) : Int)) else (some false))) (fun k => ?_) (Ev.bind ha ?_)
      · simp only [spec_l09Agrees.l0]
        rw [if_pos c1, if_pos c2, hrd, hq, hu, if_pos c3, hw]
      · by_cases he : ansFrom fl (q : Int) (Go.bits .or .i64 set (shl .i64 1 (q : Int))) 0 fl.length = T[i].f1
        · rw [decide_eq_true he, Bool.true_and]
          exact Ev.congr (fun k => by rw [if_pos he]) ih1
        · rw [decide_eq_false he, Bool.false_and]
          exact Ev.congr (f := fun _ => some false) (fun k => by rw [if_neg he]) (Ev.now _)
  have := key T.length 0 0 (by omega)
  rw [List.drop_zero] at this
  exact this
-- The reference's list of fleets, as a plain function. (for 64)
/-- The reference's test of the next ship: the list so far, the cells used. -/
def goOk (ships list : List Int) (own used : Int) : Bool := decide (Go.bits .and .i64 own used = 0) && !(decide (0 < list.length) && (decide (rd ships (list.length : Int) = rd ships ((list.length : Int) - 1)) && decide (own < rd list ((list.length : Int) - 1))))
def goStep (most : Int) (ok : Int → Bool) (F : Int → Int → List (List Int)) (out : List (List Int)) (own : Int) : List (List Int) :=
  if most < 0 ∨ (out.length : Int) < most then (if ok own = true then out ++ F own (if most < 0 then most else most - (out.length : Int)) else out) else out
def goV (W H : Nat) (ships : List Int) (T : List S93) : Nat → List Int → Int → Int → List (List Int)
  | 0, list, _, _ => if agFrom list 0 T = true then [list] else []
  | d + 1, list, used, most => (placeOf W H ships list.length).foldl (goStep most (fun own => goOk ships list own used) (fun own rest => goV W H ships T d (list ++ [own]) (Go.bits .or .i64 used own) rest)) []
theorem foldl_all (ok : Int → Bool) (F : Int → Int → List (List Int)) (most : Int) (hm : most < 0) : ∀ (P : List Int) (out : List (List Int)), P.foldl (goStep most ok F) out = out ++ P.flatMap fun own => if ok own = true then F own most else []
  | [], out => by simp
  | x :: P, out => by
    rw [List.foldl_cons, foldl_all ok F most hm P, List.flatMap_cons]
    unfold goStep
    rw [if_pos (.inl hm), if_pos hm]
    split <;> simp
theorem flat_congr {α β : Type} (F G : α → List β) : ∀ P : List α, (∀ x ∈ P, F x = G x) → P.flatMap F = P.flatMap G
  | [], _ => rfl
  | x :: P, h => by
    rw [List.flatMap_cons, List.flatMap_cons, h x (List.mem_cons_self ..), flat_congr F G P (fun y hy => h y (List.mem_cons_of_mem _ hy))]
/-- With no bound all fleets come that agree. -/
theorem goV_all {W H : Nat} (hW : 1 ≤ W ∧ W ≤ 5) (hH : 1 ≤ H ∧ H ≤ 5) (ships : List Int) (hs : ∀ j : Nat, j < ships.length → inW (rd ships (j : Int)) 1 5 = true) (T : List S93) (most : Int) (hm : most < 0) :
    ∀ (d : Nat) (list : List Int) (used : Nat), list.length + d = ships.length → UsedBy list list.length used → goV W H ships T d list (used : Int) most = (fleetsFrom W H ships d list).filter fun fl => agFrom fl 0 T
  | 0, list, used, _, _ => by
    unfold goV fleetsFrom
    by_cases h : agFrom list 0 T = true <;> simp [h]
  | d + 1, list, used, hd, hu => by
    unfold goV fleetsFrom
    rw [foldl_all _ _ most hm, List.nil_append, List.filter_flatMap]
    have hP : ∀ own ∈ placeOf W H ships list.length, ∃ m : Nat, own = (m : Int) ∧ 0 < m ∧ m < 33554432 := by
      obtain ⟨n, hn, hn1, hn5⟩ := inW_five (hs list.length (by omega))
      unfold placeOf
      rw [hn, Int.toNat_natCast]
      exact placesOf_num hW.1 hW.2 hH.2 hn1
    have key : ∀ own ∈ placeOf W H ships list.length, (if goOk ships list own (used : Int) = true then goV W H ships T d (list ++ [own]) (Go.bits .or .i64 (used : Int) own) most else []) = (if goesV ships list own = true then fleetsFrom W H ships d (list ++ [own]) else []).filter fun fl => agFrom fl 0 T := by
      intro own ho
      obtain ⟨m, rfl, h0, h1⟩ := hP own ho
      have hlen : list.length < (list ++ [(m : Int)]).length := by simp
      have hrd : rd (list ++ [(m : Int)]) (list.length : Int) = (m : Int) := by rw [rd_get _ _ hlen]; simp
      have hpre : ∀ j : Nat, j < list.length → rd (list ++ [(m : Int)]) (j : Int) = rd list (j : Int) := fun j hj => by
        rw [rd_get _ _ (by simp; omega), rd_get _ _ hj, List.getElem_append_left hj]
      have hu' : UsedBy (list ++ [(m : Int)]) list.length used := by
        obtain ⟨u1, u2, u3⟩ := hu
        refine ⟨u1, fun j hj => by rw [hpre j hj]; exact u2 j hj, fun q => ?_⟩
        rw [u3]
        constructor
        · intro h j hj; unfold numAt; rw [hpre j hj]; exact h j hj
        · intro h j hj; have := h j hj; unfold numAt at this; rw [hpre j hj] at this; exact this
      have hgo := next_goes (ships := ships) hu' hlen hrd h0 h1
      rw [hrd, List.take_left' rfl] at hgo
      have hok : goOk ships list (m : Int) (used : Int) = goesV ships list (m : Int) := by
        rw [hgo]
        unfold goOk nextOk
        have hna : numAt (list ++ [(m : Int)]) list.length = m := by unfold numAt; rw [hrd, Int.toNat_natCast]
        rw [hna, hrd, bits_and_nat m used (Nat.lt_of_lt_of_le h1 pow25_le) (Nat.lt_of_lt_of_le hu.1 pow25_le)]
        have hz : decide (((m &&& used : Nat) : Int) = 0) = decide (m &&& used = 0) := decide_eq_decide.2 (by omega)
        rw [hz]
        by_cases hl : 0 < list.length
        · obtain ⟨p, hp⟩ : ∃ p, list.length = p + 1 := ⟨list.length - 1, by omega⟩
          have e : (list.length : Int) - 1 = (p : Int) := by omega
          rw [e, hpre p (by omega)]
        · rw [decide_eq_false hl]; rfl
      rw [hok]
      by_cases hg : goesV ships list (m : Int) = true
      · rw [if_pos hg, if_pos hg, bits_or_nat used m (Nat.lt_of_lt_of_le hu.1 pow25_le) (Nat.lt_of_lt_of_le h1 pow25_le)]
        refine goV_all hW hH ships hs T most hm d (list ++ [(m : Int)]) (used ||| m) (by simp; omega) ?_
        rw [show (list ++ [(m : Int)]).length = list.length + 1 by simp]
        exact used_step hu' hrd h0 h1
      · rw [if_neg hg, if_neg hg]; rfl
    exact flat_congr _ _ _ key

/-- Every ship of the list lies where its placements say. -/
def InPl (W H : Nat) (ships list : List Int) : Prop := ∀ (j : Nat) (h : j < list.length), list[j] ∈ placeOf W H ships j
theorem InPl.nil {W H : Nat} {ships : List Int} : InPl W H ships [] := fun j h => absurd h (by simp)
theorem InPl.snoc {W H : Nat} {ships list : List Int} {own : Int} (h : InPl W H ships list) (ho : own ∈ placeOf W H ships list.length) : InPl W H ships (list ++ [own]) := fun j hj => by
  rw [List.length_append, List.length_singleton] at hj
  by_cases hl : j < list.length
  · rw [List.getElem_append_left hl]; exact h j hl
  · have e : j = list.length := by omega
    subst e
    rw [List.getElem_append_right (Nat.le_refl _)]
    simpa using ho
theorem step_len (most : Int) (ok : Int → Bool) (F : Int → Int → List (List Int)) (n : Nat) (hF : ∀ own rest, (F own rest).length ≤ n) (out : List (List Int)) (own : Int) : (goStep most ok F out own).length ≤ out.length + n := by
  unfold goStep
  split
  · split
    · rw [List.length_append]; have := hF own (if most < 0 then most else most - (out.length : Int)); omega
    · omega
  · omega
theorem fold_len (most : Int) (ok : Int → Bool) (F : Int → Int → List (List Int)) (n : Nat) (hF : ∀ own rest, (F own rest).length ≤ n) : ∀ (P : List Int) (out : List (List Int)), (P.foldl (goStep most ok F) out).length ≤ out.length + P.length * n
  | [], out => by simp
  | x :: P, out => by
    rw [List.foldl_cons, List.length_cons, Nat.succ_mul]
    have h1 := fold_len most ok F n hF P (goStep most ok F out x)
    have h2 := step_len most ok F n hF out x
    omega
theorem goV_len (W H : Nat) (ships : List Int) (T : List S93) (hpl : ∀ j, (placeOf W H ships j).length ≤ 100) : ∀ (d : Nat) (list : List Int) (used most : Int), (goV W H ships T d list used most).length ≤ 100 ^ d
  | 0, list, used, most => by unfold goV; split <;> simp
  | d + 1, list, used, most => by
    unfold goV
    refine Nat.le_trans (fold_len most _ _ (100 ^ d) (fun own rest => goV_len W H ships T hpl d _ _ _) _ _) ?_
    have := Nat.mul_le_mul_right (100 ^ d) (hpl list.length)
    rw [Nat.pow_succ, Nat.mul_comm (100 ^ d)]
    simp only [List.length_nil]
    omega
theorem fold_stuck (most : Int) (ok : Int → Bool) (F : Int → Int → List (List Int)) (hm : ¬ most < 0) : ∀ (P : List Int) (out : List (List Int)), most ≤ (out.length : Int) → P.foldl (goStep most ok F) out = out
  | [], out, _ => rfl
  | x :: P, out, h => by
    have e : goStep most ok F out x = out := by unfold goStep; rw [if_neg (by omega)]
    rw [List.foldl_cons, e]
    exact fold_stuck most ok F hm P out h
/-- What the reference's loop has behind its rounds. -/
theorem go_rows (most : Int) (ok : Int → Bool) (F : Int → Int → List (List Int)) (n : Nat) (hF : ∀ own rest, (F own rest).length ≤ n) (P : List Int) : ∃ O : Nat → List (List Int), O 0 = [] ∧ (∀ (j : Nat) (h : j < P.length), O (j + 1) = goStep most ok F (O j) P[j]) ∧ P.foldl (goStep most ok F) [] = O P.length ∧ (∀ j, j ≤ P.length → ¬ most < 0 → most ≤ ((O j).length : Int) → O P.length = O j) ∧ ∀ j, j ≤ P.length → (O j).length ≤ P.length * n := by
  refine ⟨fun j => (P.take j).foldl (goStep most ok F) [], rfl, fun j h => ?_, by show _ = (P.take P.length).foldl _ []; rw [List.take_length], fun j hj hm hl => ?_, fun j hj => ?_⟩
  · show (P.take (j + 1)).foldl _ [] = _
    rw [List.take_succ_eq_append_getElem h, List.foldl_append]
    rfl
  · show (P.take P.length).foldl _ [] = (P.take j).foldl _ []
    rw [List.take_length]
    conv => lhs; rw [← List.take_append_drop j P]
    rw [List.foldl_append]
    exact fold_stuck most ok F hm _ _ hl
  · refine Nat.le_trans (fold_len most ok F n hF (P.take j) []) ?_
    have h1 : (P.take j).length ≤ P.length := by rw [List.length_take]; omega
    have := Nat.mul_le_mul_right n h1
    simp only [List.length_nil]
    omega
/-- The ways the test of the next ship can go. -/
theorem goOk_cases (ships list : List Int) (own used : Int) : (Go.bits .and .i64 own used ≠ 0 ∧ goOk ships list own used = false) ∨ (Go.bits .and .i64 own used = 0 ∧ list.length = 0 ∧ goOk ships list own used = true) ∨ ∃ m : Nat, list.length = m + 1 ∧ Go.bits .and .i64 own used = 0 ∧
    ((rd ships (list.length : Int) ≠ rd ships (m : Int) ∧ goOk ships list own used = true) ∨ (rd ships (list.length : Int) = rd ships (m : Int) ∧ own < rd list (m : Int) ∧ goOk ships list own used = false) ∨ (rd ships (list.length : Int) = rd ships (m : Int) ∧ ¬ own < rd list (m : Int) ∧ goOk ships list own used = true)) := by
  unfold goOk
  by_cases hb : Go.bits .and .i64 own used = 0
  · rw [decide_eq_true hb, Bool.true_and]
    by_cases hl : 0 < list.length
    · obtain ⟨m, hm⟩ : ∃ m, list.length = m + 1 := ⟨list.length - 1, by omega⟩
      have e : (list.length : Int) - 1 = (m : Int) := by omega
      refine .inr (.inr ⟨m, hm, hb, ?_⟩)
      rw [decide_eq_true hl, Bool.true_and, e]
      by_cases h1 : rd ships (list.length : Int) = rd ships (m : Int)
      · rw [decide_eq_true h1, Bool.true_and]
        by_cases h2 : own < rd list (m : Int)
        · exact .inr (.inl ⟨h1, h2, by rw [decide_eq_true h2]; rfl⟩)
        · exact .inr (.inr ⟨h1, h2, by rw [decide_eq_false h2]; rfl⟩)
      · exact .inl ⟨h1, by rw [decide_eq_false h1]; rfl⟩
    · exact .inr (.inl ⟨hb, by omega, by rw [decide_eq_false hl]; rfl⟩)
  · exact .inl ⟨hb, by rw [decide_eq_false hb]; rfl⟩
/-! ### spec_l09Go: function 64 -/
-- EXTERNAL: by hand
-- spec_l09Agrees spec_l09Placements spec_l01Own
-- goV goV_all
set_option maxHeartbeats 8000000 in
set_option maxRecDepth 100000 in
theorem spec_l09Go.ends (W0 H0 : Nat) (ships : List Int) (A2 : Option Addr) (c2 : Nat) (A3 : Option Addr) (c3 : Nat) (T : List S93) (used most : Int) (list : List Int) (A : Option Addr) (c : Nat) (okL : Nat → Prop) (ka : Nat) (w : World) (hd : list.length = ships.length) (hF : Kd.F (Kd.int .i64) w okL A list.length list) (hc : list.length ≤ c) (hT : Kd.C k93 w A3 T.length T) (hTc : T.length ≤ c3)
    (hag : spec_l09Agrees.f ka list T = some (agFrom list 0 T)) :
    Calls Try.prog 64 #[.agg #[.int .i64 (W0 : Int), .int .i64 (H0 : Int), .slice A2 ships.length c2], .slice A list.length c, .int .i64 used, .slice A3 T.length c3, .int .i64 most] w fun e w' => ∃ v, e = .returned v ∧ Kd.N (Kd.slice 2 (Kd.int .i64)) 22 w' w.heap.size (fun k => okL k ∨ w.heap.size ≤ k) v (goV W0 H0 ships T 0 list used most) ∧ Below w.heap.size w w' := by
  have HB := Aside0.mk (Below.refl w.heap.size w)
  have HF := Aside0.mk hF
  have HLc := Aside0.mk hc
  have HT := Aside0.mk hT
  have HTc := Aside0.mk hTc
  have HAg := Aside0.mk hag
  have hu28 := Try.underlying28
  have heq : ((list.length : Int) == (ships.length : Int)) = true := beq_iff_eq.mpr (by omega)
  have heqn : (list.length == ships.length) = true := beq_iff_eq.mpr (by omega)
  clear hF hc hT hTc hag hd
  unfold goV
  cases hb0 : agFrom list 0 T with
  | true =>
    rw [hb0] at HAg
    rw [if_pos rfl]
    clear hb0
    go_enter Try.func64, Try.ntmps64
    go_wp2_with (first | ((with_reducible refine gate_dst (N := 5) rfl ?_); refine box_event ?hg (N := 5) ?hd (cs := #[.int .i64 (W0 : Int), .int .i64 (H0 : Int), .slice A2 ships.length c2]) (t := 28) ?hr ?_; (case hd => rfl); (case hg => rfl); (case hr => first | (go_simp; done) | (go_simp; rfl)); intro g5 hg5 w1 hbox hb; have HX := Aside0.mk hbox; have HG5 := Aside0.mk (show w.heap.size ≤ g5 by omega); have n1_ := Aside0.mk (Kd.F_below HF.out hb); have n2_ := Aside0.mk (below_step HB.out hb); clear hbox hb hg5 HB HF; have HB := n2_; have HF := n1_; clear n1_ n2_; have hs0 := (blk_cell HX.out 0).trans rfl; have hs1 := (blk_cell HX.out 1).trans rfl; have hs2 := (blk_cell HX.out 2).trans rfl) | (go_at_call 84; refine (spec_l09Agrees.calls ka A c list A3 c3 T _ _ (Kd.F_now HF.out) HLc.out (Kd.C_below HT.out HB.out) HTc.out HAg.out).mono ?_; rintro e w2 ⟨rfl, hd⟩; have hb := hd.below; clear hd; (try clear hs0); (try clear hs1); (try clear hs2); have n0_ := Aside0.mk (blk_below HX.out hb); have n1_ := Aside0.mk (Kd.F_below HF.out hb); have n2_ := Aside0.mk (below_step HB.out hb); clear hb HX HB HF; have HX := n0_; have HB := n2_; have HF := n1_; clear n0_ n1_ n2_; have hs0 := (blk_cell HX.out 0).trans rfl; have hs1 := (blk_cell HX.out 1).trans rfl; have hs2 := (blk_cell HX.out 2).trans rfl) | ((with_reducible refine gate_dst (N := 26) rfl ?_); refine Kd.N_lit (Kd.slice 2 (Kd.int .i64)) (w0 := w) w.heap.size 22 ?hg (N' := 26) ?hd (xs := ([list] : List (List Int))) (inner := [.slice A list.length c]) (ok := fun k => okL k ∨ w.heap.size ≤ k) (okp := okL) ?hr ?hp (fun _ hk => .inl hk) (.inr (below_size HB.out)) HB.out (below_size HB.out) (by simp) ?_; (case hd => rfl); (case hg => rfl); (case hr => first | (go_simp; done) | (go_simp; rfl)); (case hp => exact Reps.one (Kd.FK_slice_mk HLc.out HF.out) (Reps.none _ _)); intro v26 w3 ho hb hg_ hnew_; clear hg_ hnew_; have HN := Aside0.mk ho; have HB3 := Aside0.mk hb; clear ho hb))
    go_ret
    exact ⟨_, rfl, HN.out, HB3.out⟩
  | false =>
    rw [hb0] at HAg
    rw [if_neg (by simp)]
    clear hb0
    go_enter Try.func64, Try.ntmps64
    go_wp2_with (first | ((with_reducible refine gate_dst (N := 5) rfl ?_); refine box_event ?hg (N := 5) ?hd (cs := #[.int .i64 (W0 : Int), .int .i64 (H0 : Int), .slice A2 ships.length c2]) (t := 28) ?hr ?_; (case hd => rfl); (case hg => rfl); (case hr => first | (go_simp; done) | (go_simp; rfl)); intro g5 hg5 w1 hbox hb; have HX := Aside0.mk hbox; have HG5 := Aside0.mk (show w.heap.size ≤ g5 by omega); have n1_ := Aside0.mk (Kd.F_below HF.out hb); have n2_ := Aside0.mk (below_step HB.out hb); clear hbox hb hg5 HB HF; have HB := n2_; have HF := n1_; clear n1_ n2_; have hs0 := (blk_cell HX.out 0).trans rfl; have hs1 := (blk_cell HX.out 1).trans rfl; have hs2 := (blk_cell HX.out 2).trans rfl) | (go_at_call 84; refine (spec_l09Agrees.calls ka A c list A3 c3 T _ _ (Kd.F_now HF.out) HLc.out (Kd.C_below HT.out HB.out) HTc.out HAg.out).mono ?_; rintro e w2 ⟨rfl, hd⟩; have hb := hd.below; clear hd; (try clear hs0); (try clear hs1); (try clear hs2); have n0_ := Aside0.mk (blk_below HX.out hb); have n1_ := Aside0.mk (Kd.F_below HF.out hb); have n2_ := Aside0.mk (below_step HB.out hb); clear hb HX HB HF; have HX := n0_; have HB := n2_; have HF := n1_; clear n0_ n1_ n2_; have hs0 := (blk_cell HX.out 0).trans rfl; have hs1 := (blk_cell HX.out 1).trans rfl; have hs2 := (blk_cell HX.out 2).trans rfl) | ((with_reducible refine gate_dst (N := 27) rfl ?_); refine Kd.N_lit (Kd.slice 2 (Kd.int .i64)) (w0 := w) w.heap.size 22 ?hg (N' := 27) ?hd (xs := ([] : List (List Int))) (inner := []) (ok := fun k => okL k ∨ w.heap.size ≤ k) (okp := okL) ?hr ?hp (fun _ hk => .inl hk) (.inr (below_size HB.out)) HB.out (below_size HB.out) (by simp) ?_; (case hd => rfl); (case hg => rfl); (case hr => first | (go_simp; done) | (go_simp; rfl)); (case hp => exact Reps.none _ _); intro v26 w3 ho hb hg_ hnew_; clear hg_ hnew_; have HN := Aside0.mk ho; have HB3 := Aside0.mk hb; clear ho hb))
    go_ret
    exact ⟨_, rfl, HN.out, HB3.out⟩

def spec_l09Go.T6 : Bool × List (List Nat × List Nat) := (true, [([], []), ([], []), ([1], [1]), ([], []), ([2, 3], [2, 3]), ([4], [4]), ([0, 5], [0, 5]), ([6, 6, 0, 1, 2, 3, 4, 5, 6], [6])])
def spec_l09Go.B6 : List Nat := [0, 0, 2, 0, 14, 30, 63, 127]
theorem spec_l09Go.tab6 : rtab .any (opsOf Try.f64 6) = spec_l09Go.T6 := by kernel_rfl
theorem spec_l09Go.bits6 : waitsOk spec_l09Go.T6.2 spec_l09Go.B6 = true := by kernel_rfl
def spec_l09Go.T14 : Bool × List (List Nat × List Nat) := (true, [([], []), ([], []), ([], []), ([2], [2]), ([], []), ([], []), ([4, 5], [4, 5]), ([6], [6]), ([7], [7]), ([3, 8, 3], [3, 8]), ([], []), ([], []), ([], []), ([11, 12], [11, 12]), ([13], [13]), ([10, 14], [10, 14]), ([], []), ([], []), ([1, 9, 15, 16, 17, 9], [1, 9, 15, 16, 17]), ([0, 18, 18], [0, 18]), ([19, 19, 0, 1, 2, 3, 4, 5, 6, 7, 8, 9, 10, 11, 12, 13, 14, 15, 16, 17, 18, 19], [0, 19])])
def spec_l09Go.B14 : List Nat := [0, 0, 0, 4, 0, 0, 48, 112, 240, 508, 0, 0, 0, 6144, 14336, 31744, 0, 0, 262142, 524287, 1048575]
theorem spec_l09Go.tab14 : rtab .any (opsOf Try.f64 14) = spec_l09Go.T14 := by kernel_rfl
theorem spec_l09Go.bits14 : waitsOk spec_l09Go.T14.2 spec_l09Go.B14 = true := by kernel_rfl

set_option maxHeartbeats 16000000 in
set_option maxRecDepth 100000 in
theorem spec_l09Go.does (W0 H0 : Nat) (ships : List Int) (A2 : Option Addr) (c2 : Nat) (A3 : Option Addr) (c3 : Nat) (T : List S93) (hw : W0 ≤ 5) (hh : H0 ≤ 5) (hs3 : ships.length ≤ 3) (hsc : ships.length ≤ c2) (hTc : T.length ≤ c3)
    (hpf : ∀ j : Nat, j < ships.length → ∃ kp, spec_l09Placements.f kp (W0 : Int) (H0 : Int) ships (rd ships (j : Int)) = some (placeOf W0 H0 ships j))
    (hag : ∀ list : List Int, list.length = ships.length → InPl W0 H0 ships list → ∃ ka, spec_l09Agrees.f ka list T = some (agFrom list 0 T)) :
    ∀ (d : Nat) (list : List Int) (used most : Int) (A : Option Addr) (c : Nat) (okL : Nat → Prop) (w : World), list.length + d = ships.length → InPl W0 H0 ships list → most < 9223372036854775808 → Kd.F (Kd.int .i64) w okL A list.length list → list.length ≤ c → Kd.C k93 w A3 T.length T → Kd.C (Kd.int .i64) w A2 ships.length ships →
    Calls Try.prog 64 #[.agg #[.int .i64 (W0 : Int), .int .i64 (H0 : Int), .slice A2 ships.length c2], .slice A list.length c, .int .i64 used, .slice A3 T.length c3, .int .i64 most] w fun e w' => ∃ v, e = .returned v ∧ Kd.N (Kd.slice 2 (Kd.int .i64)) 22 w' w.heap.size (fun k => okL k ∨ w.heap.size ≤ k) v (goV W0 H0 ships T d list used most) ∧ Below w.heap.size w w' := by
  have HPF := Aside0.mk hpf
  have HAG := Aside0.mk hag
  have HS3 := Aside0.mk hs3
  have HS2 := Aside0.mk hsc
  have HTc := Aside0.mk hTc
  have HPl : Aside0 (∀ j : Nat, (placeOf W0 H0 ships j).length ≤ 100) := ⟨fun j => placesOf_len hw hh⟩
  clear hpf hag hs3 hsc hTc hw hh
  have hu28 := Try.underlying28
  intro d
  induction d with
  | zero =>
    intro list used most A c okL w hd hin hm hF hc hT hS
    obtain ⟨ka, hka⟩ := HAG.out list (by omega) hin
    exact spec_l09Go.ends W0 H0 ships A2 c2 A3 c3 T used most list A c okL ka w (by omega) hF hc hT HTc.out hka
  | succ d ih =>
    intro list used most A c okL w hd hin hm hF hc hT hS
    obtain ⟨ad2, rfl, hsc⟩ := Kd.at_int hS (list.length : Int) (by omega) (by omega)
    rw [Int.toNat_natCast] at hsc
    have HIH := Aside0.mk ih
    have HF := Aside0.mk hF
    have HT := Aside0.mk hT
    have HSh := Aside0.mk hS
    have HLc := Aside0.mk hc
    have HD := Aside0.mk hd
    have HIn0 := Aside0.mk hin
    have HMo := Aside0.mk hm
    obtain ⟨kp, HPf0⟩ := HPF.out list.length (by omega)
    obtain ⟨sh, hsh⟩ : ∃ sh, rd ships (list.length : Int) = sh := ⟨_, rfl⟩
    rw [hsh] at hsc HPf0
    obtain ⟨P, hP⟩ : ∃ P, placeOf W0 H0 ships list.length = P := ⟨_, rfl⟩
    have hPl : P.length ≤ 100 := by rw [← hP]; exact HPl.out _
    rw [hP] at HPf0
    have HPL := Aside0.mk hPl
    have HPf := Aside0.mk HPf0
    have HPm := Aside0.mk (fun (x : Int) (hx : x ∈ P) => show x ∈ placeOf W0 H0 ships list.length by rw [hP]; exact hx)
    obtain ⟨O, hO0, hOs, hOe, hOk, hOl⟩ := go_rows most (fun own => goOk ships list own used) (fun own rest => goV W0 H0 ships T d (list ++ [own]) (Go.bits .or .i64 used own) rest) (100 ^ d) (fun own rest => goV_len W0 H0 ships T HPl.out d _ _ _) P
    have hgoal : goV W0 H0 ships T (d + 1) list used most = O P.length := by rw [← hOe, ← hP]; rfl
    rw [hgoal]
    have HOl : Aside0 (∀ j, j ≤ P.length → (O j).length ≤ 1000000) := ⟨fun j hj => Nat.le_trans (hOl j hj) (Nat.le_trans (Nat.mul_le_mul hPl (Nat.pow_le_pow_right (by omega) (show d ≤ 2 by have := HS3.out; omega))) (by omega))⟩
    have HFl := Aside0.mk (fun own rest => Nat.le_trans (goV_len W0 H0 ships T HPl.out d (list ++ [own]) (Go.bits .or .i64 used own) rest) (Nat.le_trans (Nat.pow_le_pow_right (by omega) (show d ≤ 2 by have := HS3.out; omega)) (show 100 ^ 2 ≤ 10000 by omega)))
    have HO0 := Aside0.mk hO0
    have HOS := Aside0.mk hOs
    have HOK := Aside0.mk hOk
    have HOwn := Aside0.mk (own_val list (by have := HS3.out; omega))
    have HRoom := Aside0.mk (show (list.length + 1) * 8 ≤ 140737488355328 by have := HS3.out; omega)
    have HSc := Aside0.mk hsc
    have hne : ((list.length : Int) == (ships.length : Int)) = false := beq_eq_false_iff_ne.mpr (by omega)
    have hnen : (list.length == ships.length) = false := beq_eq_false_iff_ne.mpr (by omega)
    have qa := eq_true (show (list.length : Int) < (ships.length : Int) by omega)
    have qb := eq_true (show list.length < ships.length by omega)
    have qc := eq_true (show (0 : Int) ≤ (list.length : Int) by omega)
    have HSH := Aside0.mk hsh
    clear hO0 hOs hOe hOk hOl hgoal hP hPl HPf0 hsc hF hc hT hS hd hin hm ih hsh
    go_enter Try.func64, Try.ntmps64
    go_wp2_with (first | ((with_reducible refine gate_dst (N := 5) rfl ?_); refine box_event ?hg (N := 5) ?hd (cs := #[.int .i64 (W0 : Int), .int .i64 (H0 : Int), .slice (some ad2) ships.length c2]) (t := 28) ?hr ?_; (case hd => rfl); (case hg => rfl); (case hr => first | (go_simp; done) | (go_simp; rfl)); intro g5 hg5 w1 hbox hb; have HX := Aside0.mk hbox; have HB := Aside0.mk hb; clear hbox hb hg5; have hs0 := (blk_cell HX.out 0).trans rfl; have hs1 := (blk_cell HX.out 1).trans rfl; have hs2 := (blk_cell HX.out 2).trans rfl) | ((with_reducible refine gate_dst (N := 30) rfl ?_); refine Kd.N_lit (Kd.slice 2 (Kd.int .i64)) (w0 := w1) w1.heap.size 22 ?hg (N' := 30) ?hd (xs := ([] : List (List Int))) (inner := []) (ok := fun k => okL k ∨ w.heap.size ≤ k) (okp := fun _ => False) ?hr ?hp (fun _ hk => hk.elim) (.inr (below_size HB.out)) (Below.refl _ _) (Nat.le_refl _) (by simp) ?_; (case hd => rfl); (case hg => rfl); (case hr => first | (go_simp; done) | (go_simp; rfl)); (case hp => exact Reps.none _ _); intro v30 w3 ho hb hg_ hnew_; clear hg_ hnew_; obtain ⟨A30, c30, e30⟩ := Kd.N_slice ho; subst e30; rw [show (([] : List (List Int)).length) = 0 from rfl] at ho; (try clear hs0); (try clear hs1); (try clear hs2); have HN := Aside0.mk (Kd.N_lower ho (below_size HB.out)); have n1_ := Aside0.mk (blk_below HX.out hb); have n2_ := Aside0.mk (below_step HB.out hb); clear HX HB ho hb; have HX := n1_; have HB := n2_; clear n1_ n2_; have hs0 := (blk_cell HX.out 0).trans rfl; have hs1 := (blk_cell HX.out 1).trans rfl; have hs2 := (blk_cell HX.out 2).trans rfl))
    have HXd := Aside0.mk (blk_drew HX.out)
    have HNd := Aside0.mk (Kd.N_drew HN.out)
    have HBd := Aside0.mk (below_drew1 HB.out)
    have hsd := (HBd.out.cell (World.block_lt_of_cell? _ _ HSc.out)).trans HSc.out
    clear HX HN HB hs0 hs1 hs2
    refine start_ (n := 8) (S := fun w' => w'.cell? ⟨g5, 0, none⟩ = some (.int .i64 (W0 : Int)) ∧ w'.cell? ⟨g5, 1, none⟩ = some (.int .i64 (H0 : Int)) ∧ w'.cell? ⟨g5, 2, none⟩ = some (.slice (some ad2) ships.length c2) ∧ w'.cell? (ad2.add list.length) = some (.int .i64 sh)) (ds := []) #[false, false, false, false, false, false, false, false] (by kernel_rfl) rfl rfl ⟨(blk_cell HXd.out 0).trans rfl, (blk_cell HXd.out 1).trans rfl, (blk_cell HXd.out 2).trans rfl, hsd⟩ (fun hHeld => ?_)
    refine with_tabW spec_l09Go.tab6 spec_l09Go.bits6 (fun HT_ HW_ => ?_)
    generalize hq_ : w3.drew = wd_ at HXd HNd HBd hsd hHeld ⊢
    clear hq_
    refine pure_ (i := 1) (N := some 32) (v := ?_) (a' := ?_) (flg_ 8 2) rfl rfl (any_of HT_.out (by kernel_rfl)) (fun _ _ _ h => h) (Or.inl ⟨by rfl, ?_⟩) ?_ ?_
    rotate_left
    · intro w'
      go_simp
      with_reducible rfl
    rotate_left
    · simp only [Act.put, sz_, s0_, s1_, i64_w, i32_w]
      rfl
    refine pure_ (i := 3) (N := some 34) (v := ?_) (a' := ?_) (flg_ 8 10) rfl rfl (any_of HT_.out (by kernel_rfl)) (fun _ _ _ h => h) (Or.inl ⟨by rfl, ?_⟩) ?_ ?_
    rotate_left
    · intro w'
      go_simp
      with_reducible rfl
    rotate_left
    · simp only [Act.put, sz_, s0_, s1_, i64_w, i32_w]
      rfl
    refine take_ (i := 0) (N := some 31) (v := ?_) (a' := ?_) (flg_ 8 11) rfl rfl (take_ofW HT_.out HW_.out (by kernel_rfl)) (fun _ _ _ h => h) (Or.inl ⟨by rfl, ?_⟩) hHeld ?_ ?_
    rotate_left
    · rintro w' ⟨s0_, s1_, s2_, s3_⟩
      go_simp
      with_reducible rfl
    rotate_left
    · simp only [Act.put, sz_, s0_, s1_, i64_w, i32_w]
      rfl
    refine take_ (i := 2) (N := some 33) (v := ?_) (a' := ?_) (flg_ 8 15) rfl rfl (take_ofW HT_.out HW_.out (by kernel_rfl)) (fun _ _ _ h => h) (Or.inl ⟨by rfl, ?_⟩) hHeld ?_ ?_
    rotate_left
    · rintro w' ⟨s0_, s1_, s2_, s3_⟩
      go_simp
      with_reducible rfl
    rotate_left
    · simp only [Act.put, sz_, s0_, s1_, i64_w, i32_w]
      rfl
    refine pure_ (i := 4) (N := some 35) (v := ?_) (a' := ?_) (flg_ 8 31) rfl rfl (any_of HT_.out (by kernel_rfl)) (fun _ _ _ h => h) (Or.inl ⟨by rfl, ?_⟩) ?_ ?_
    rotate_left
    · intro w'
      go_simp
      with_reducible rfl
    rotate_left
    · simp only [Act.put, sz_, s0_, s1_, i64_w, i32_w]
      rfl
    refine take_ (i := 5) (N := some 36) (v := ?_) (a' := ?_) (flg_ 8 63) rfl rfl (take_ofW HT_.out HW_.out (by kernel_rfl)) (fun _ _ _ h => h) (Or.inl ⟨by rfl, ?_⟩) hHeld ?_ ?_
    rotate_left
    · rintro w' ⟨s0_, s1_, s2_, s3_⟩
      go_simp
      with_reducible rfl
    rotate_left
    · simp only [Act.put, sz_, s0_, s1_, i64_w, i32_w]
      rfl
    refine one_ (i := 6) (N := some 37) (flg_ 8 127) rfl rfl (one_of HT_.out (by kernel_rfl)) (by decide) (fun K hK => ?_)
    refine goes_ Try.func57 (by kernel_rfl) rfl #[.agg #[.int .i64 (W0 : Int), .int .i64 (H0 : Int), .slice (some ad2) ships.length c2], .int .i64 sh] (by rfl) rfl rfl (by (try simp only [List.map_toArray, List.map_cons, List.map_nil]); first | done | rfl) ?_
    refine (spec_l09Placements.calls kp (W0 : Int) (H0 : Int) (some ad2) c2 ships sh P _ (Kd.C_below HSh.out HBd.out) HS2.out HPf.out).mono ?_
    rintro e w5 ⟨v37, rfl, ho, hb⟩
    refine ⟨_, rfl, ?_⟩
    obtain ⟨A13, c13, e13⟩ := Kd.R_slice ho
    subst e13
    have HP := Aside0.mk (Kd.R_lower ho (below_size HBd.out))
    have HX := Aside0.mk (blk_below HXd.out hb)
    have HN := Aside0.mk (Kd.N_below HNd.out hb)
    have hsd2 := (hb.cell (World.block_lt_of_cell? _ _ hsd)).trans hsd
    have HB := Aside0.mk (below_step HBd.out hb)
    clear ho hb HXd HNd HBd hsd
    refine hK.out _ _ ⟨(blk_cell HX.out 0).trans rfl, (blk_cell HX.out 1).trans rfl, (blk_cell HX.out 2).trans rfl, hsd2⟩ (fun hHeld => ?_)
    clear hK K hsd2
    refine norm_ (a' := ?_) ?_ ?_
    rotate_left
    · show Act.put _ (some 37) _ = _
      simp only [Act.put, sz_, s0_, s1_, i64_w, i32_w]
      rfl
    refine pure_ (i := 7) (N := some 13) (v := ?_) (a' := ?_) (flg_ 8 255) rfl rfl (any_of HT_.out (by kernel_rfl)) (fun _ _ _ h => h) (Or.inl ⟨by rfl, ?_⟩) ?_ ?_
    rotate_left
    · intro w'
      go_simp
      with_reducible rfl
    rotate_left
    · simp only [Act.put, sz_, s0_, s1_, i64_w, i32_w]
      rfl
    refine done_ (done_of HT_.out (by kernel_rfl)) ?_
    (try go_wp2_with fail)
    go_loopg [12, 14] P.length (fun gg s12 s14 wr => ∃ (j : Nat) (A12 : Option Addr) (c12 : Nat), j ≤ P.length ∧ P.length - j ≤ gg ∧ s12 = .slice A12 (O j).length c12 ∧ s14 = .int .i64 j ∧ Aside0 (Kd.N (Kd.slice 2 (Kd.int .i64)) 22 wr w.heap.size (fun k => okL k ∨ w.heap.size ≤ k) (.slice A12 (O j).length c12) (O j)) ∧ Aside0 (Kd.R (Kd.int .i64) 2 wr w.heap.size (fun _ => True) (.slice A13 P.length c13) P) ∧ Aside0 (wr.heap[g5]? = some (.cells #[.int .i64 (W0 : Int), .int .i64 (H0 : Int), .slice (some ad2) ships.length c2] 28 (0, 0))) ∧ Aside0 (Below w.heap.size w wr))
    case atStart => exact ⟨0, A30, c30, Nat.zero_le _, by omega, by rw [HO0.out]; rfl, rfl, ⟨by rw [HO0.out]; exact HN.out⟩, HP, HX, HB⟩
    case round =>
      clear HX HN HB HP
      obtain ⟨j, A12, c12, hj, hgj, rfl, rfl, HN, HP, HX, HB⟩ := hrel
      have hs0 := (blk_cell HX.out 0).trans rfl
      have hs1 := (blk_cell HX.out 1).trans rfl
      have hs2 := (blk_cell HX.out 2).trans rfl
      by_cases hlt : j < P.length
      · obtain ⟨adj, eqj, hxj⟩ := Kd.at_int (Kd.R_reads' HP.out).2.2 (j : Int) (by omega) (by omega)
        subst eqj
        rw [Int.toNat_natCast] at hxj
        obtain ⟨own, hown0⟩ : ∃ own, rd P (j : Int) = own := ⟨_, rfl⟩
        have hown : P[j] = own := by rw [← hown0, rd_get P j hlt]
        rw [hown0] at hxj
        have HRd := Aside0.mk hown0
        obtain ⟨ol, hol⟩ : ∃ ol, O j = ol := ⟨_, rfl⟩
        have HOlen := Aside0.mk (show ol.length ≤ 1000000 by rw [← hol]; exact HOl.out j hj)
        rw [hol] at HN ⊢
        have q1 := decide_eq_true (show (j : Int) < (P.length : Int) by omega)
        have q2 := decide_eq_true hlt
        have q3 := eq_true (show (j : Int) < (P.length : Int) by omega)
        have q4 := eq_true (show (0 : Int) ≤ (j : Int) by omega)
        have q5 := eq_true hlt
        have HJ0 := Aside0.mk (show (0 : Int) ≤ (j : Int) by omega)
        have HJ1 := Aside0.mk (show (j : Int) < (P.length : Int) by omega)
        have HJm := Aside0.mk (show P.length - (j + 1) < gk by omega)
        have HJr := Aside0.mk (show j + 1 ≤ P.length by omega)
        have HJs := Aside0.mk (show wrap64 ((j : Int) + 1) = ((j + 1 : Nat) : Int) from wrap_one (a := j) (by have := HPL.out; omega))
        have HLen := Aside0.mk (show (list ++ [own]).length + d = ships.length by have := HD.out; simp; omega)
        have HIn := Aside0.mk (HIn0.out.snoc (HPm.out own (by rw [← hown]; exact List.getElem_mem hlt)))
        clear hown0
        by_cases hneg : most < 0
        · 
          have HOs0 := HOS.out j hlt
          rw [hown, hol] at HOs0
          unfold goStep at HOs0
          rw [if_pos (.inl hneg)] at HOs0
          rw [if_pos hneg] at HOs0
          obtain ⟨rest, hrest⟩ : ∃ rest, most = rest := ⟨_, rfl⟩
          rw [hrest] at HOs0
          have HRest := Aside0.mk (show rest < 9223372036854775808 by have := HMo.out; omega)
          obtain ⟨fls, hfls⟩ : ∃ fls, goV W0 H0 ships T d (list ++ [own]) (Go.bits .or .i64 used own) rest = fls := ⟨_, rfl⟩
          have HFlen := HFl.out own rest
          rw [hfls] at HFlen
          have HFv := Aside0.mk hfls
          simp only [hfls] at HOs0
          have HCap := Aside0.mk (show (ol.length + fls.length) * 24 ≤ 140737488355328 by have := HOlen.out; omega)
          have hr2 := hrest.symm
          clear hrest
          subst hr2
          have m1 := decide_eq_true hneg
          have m2 := eq_true hneg
          have m3 := decide_eq_false (show ¬ (0 : Int) ≤ rest by omega)
          have m4 := decide_eq_false (show ¬ rest ≥ (0 : Int) by omega)
          clear hfls HFlen hown hlt hj hgj hneg
          rcases goOk_cases ships list own used with ⟨hbz, hok⟩ | ⟨hbz, hl0, hok⟩ | ⟨m, hm, hbz, ⟨h1, hok⟩ | ⟨h1, h2, hok⟩ | ⟨h1, h2, hok⟩⟩
          case inl =>
            rw [if_neg (by rw [hok]; simp)] at HOs0
            have HOs := Aside0.mk HOs0
            clear HOs0 hok
            have b1 : (Go.bits .and .i64 own used != 0) = true := bne_iff_ne.mpr hbz
            have b2 : (Go.bits .and .i64 own used == 0) = false := beq_eq_false_iff_ne.mpr hbz
            go_wp2_with fail
            go_quiet (fail)
            go_wp2_with fail
            have hbq := pw_below_drewN (Below.refl wr.heap.size wr) nq
            go_roundg (P.length - (j + 1))
            case measure => exact HJm.out
            case rel => exact ⟨j + 1, A12, c12, HJr.out, Nat.le_refl _, by rw [HOs.out], (by first | rfl | exact congrArg (Value.int .i64) HJs.out), ⟨by rw [HOs.out]; exact Kd.N_below HN.out hbq⟩, ⟨Kd.R_below HP.out hbq⟩, ⟨blk_below HX.out hbq⟩, ⟨below_step HB.out hbq⟩⟩
          case inr.inr.inr.inl =>
            rw [if_neg (by rw [hok]; simp)] at HOs0
            have HOs := Aside0.mk HOs0
            clear HOs0 hok
            have b1 : (Go.bits .and .i64 own used != 0) = false := by rw [hbz]; rfl
            have b2 : (Go.bits .and .i64 own used == 0) = true := by rw [hbz]; rfl
            obtain ⟨adL, eL, k3⟩ := Kd.at_int (Kd.C_below (Kd.F_now HF.out) HB.out) (m : Int) (by omega) (by omega)
            subst eL
            obtain ⟨ad21, e21, k1⟩ := Kd.at_int (Kd.C_below HSh.out HB.out) (list.length : Int) (by omega) (by have := HD.out; omega)
            obtain ⟨ad22, e22, k2⟩ := Kd.at_int (Kd.C_below HSh.out HB.out) (m : Int) (by omega) (by have := HD.out; omega)
            injection e21 with e21
            injection e22 with e22
            subst e21 e22
            rw [Int.toNat_natCast] at k1 k2 k3
            rw [HSH.out] at k1 h1
            have h0 := decide_eq_true (show (0 : Int) < (list.length : Int) by omega)
            have h0n := decide_eq_true (show 0 < list.length by omega)
            have w1_ := eq_true (show (m : Int) < (ships.length : Int) by have := HD.out; omega)
            have w2_ := eq_true (show m < ships.length by have := HD.out; omega)
            have w3_ := eq_true (show (m : Int) < (list.length : Int) by omega)
            have w4_ := eq_true (show m < list.length by omega)
            have w5_ := eq_true (show (0 : Int) ≤ (m : Int) by omega)
            have hn1 : wrap64 ((list.length : Int) - 1) = (m : Int) := by have := HS3.out; have := HD.out; unfold wrap64; omega
            clear hm
            generalize rd ships (m : Int) = s2 at *
            generalize rd list (m : Int) = lx at *
            subst h1
            have h1b := beq_self_eq_true sh
            have h2b := decide_eq_true h2
            have h2c := eq_true h2
            go_wp2_with fail
            go_quiet (fail)
            go_wp2_with fail
            have hbq := pw_below_drewN (Below.refl wr.heap.size wr) nq
            go_roundg (P.length - (j + 1))
            case measure => exact HJm.out
            case rel => exact ⟨j + 1, A12, c12, HJr.out, Nat.le_refl _, by rw [HOs.out], (by first | rfl | exact congrArg (Value.int .i64) HJs.out), ⟨by rw [HOs.out]; exact Kd.N_below HN.out hbq⟩, ⟨Kd.R_below HP.out hbq⟩, ⟨blk_below HX.out hbq⟩, ⟨below_step HB.out hbq⟩⟩
          case' inr.inl =>
            rw [if_pos hok] at HOs0
            have HOs := Aside0.mk HOs0
            clear HOs0 hok
            have b1 : (Go.bits .and .i64 own used != 0) = false := by rw [hbz]; rfl
            have b2 : (Go.bits .and .i64 own used == 0) = true := by rw [hbz]; rfl
            have h0 := decide_eq_false (show ¬ (0 : Int) < (list.length : Int) by omega)
            have h0n := decide_eq_false (show ¬ 0 < list.length by omega)
            clear hl0
            go_wp2_with fail
            go_quiet (fail)
            go_wp2_with fail
          case' inr.inr.inl =>
            rw [if_pos hok] at HOs0
            have HOs := Aside0.mk HOs0
            clear HOs0 hok
            have b1 : (Go.bits .and .i64 own used != 0) = false := by rw [hbz]; rfl
            have b2 : (Go.bits .and .i64 own used == 0) = true := by rw [hbz]; rfl
            obtain ⟨adL, eL, k3⟩ := Kd.at_int (Kd.C_below (Kd.F_now HF.out) HB.out) (m : Int) (by omega) (by omega)
            subst eL
            obtain ⟨ad21, e21, k1⟩ := Kd.at_int (Kd.C_below HSh.out HB.out) (list.length : Int) (by omega) (by have := HD.out; omega)
            obtain ⟨ad22, e22, k2⟩ := Kd.at_int (Kd.C_below HSh.out HB.out) (m : Int) (by omega) (by have := HD.out; omega)
            injection e21 with e21
            injection e22 with e22
            subst e21 e22
            rw [Int.toNat_natCast] at k1 k2 k3
            rw [HSH.out] at k1 h1
            have h0 := decide_eq_true (show (0 : Int) < (list.length : Int) by omega)
            have h0n := decide_eq_true (show 0 < list.length by omega)
            have w1_ := eq_true (show (m : Int) < (ships.length : Int) by have := HD.out; omega)
            have w2_ := eq_true (show m < ships.length by have := HD.out; omega)
            have w3_ := eq_true (show (m : Int) < (list.length : Int) by omega)
            have w4_ := eq_true (show m < list.length by omega)
            have w5_ := eq_true (show (0 : Int) ≤ (m : Int) by omega)
            have hn1 : wrap64 ((list.length : Int) - 1) = (m : Int) := by have := HS3.out; have := HD.out; unfold wrap64; omega
            clear hm
            generalize rd ships (m : Int) = s2 at *
            generalize rd list (m : Int) = lx at *
            have h1b : (sh == s2) = false := beq_eq_false_iff_ne.mpr h1
            go_wp2_with fail
            go_quiet (fail)
            go_wp2_with fail
            clear h1 h1b
          case' inr.inr.inr.inr =>
            rw [if_pos hok] at HOs0
            have HOs := Aside0.mk HOs0
            clear HOs0 hok
            have b1 : (Go.bits .and .i64 own used != 0) = false := by rw [hbz]; rfl
            have b2 : (Go.bits .and .i64 own used == 0) = true := by rw [hbz]; rfl
            obtain ⟨adL, eL, k3⟩ := Kd.at_int (Kd.C_below (Kd.F_now HF.out) HB.out) (m : Int) (by omega) (by omega)
            subst eL
            obtain ⟨ad21, e21, k1⟩ := Kd.at_int (Kd.C_below HSh.out HB.out) (list.length : Int) (by omega) (by have := HD.out; omega)
            obtain ⟨ad22, e22, k2⟩ := Kd.at_int (Kd.C_below HSh.out HB.out) (m : Int) (by omega) (by have := HD.out; omega)
            injection e21 with e21
            injection e22 with e22
            subst e21 e22
            rw [Int.toNat_natCast] at k1 k2 k3
            rw [HSH.out] at k1 h1
            have h0 := decide_eq_true (show (0 : Int) < (list.length : Int) by omega)
            have h0n := decide_eq_true (show 0 < list.length by omega)
            have w1_ := eq_true (show (m : Int) < (ships.length : Int) by have := HD.out; omega)
            have w2_ := eq_true (show m < ships.length by have := HD.out; omega)
            have w3_ := eq_true (show (m : Int) < (list.length : Int) by omega)
            have w4_ := eq_true (show m < list.length by omega)
            have w5_ := eq_true (show (0 : Int) ≤ (m : Int) by omega)
            have hn1 : wrap64 ((list.length : Int) - 1) = (m : Int) := by have := HS3.out; have := HD.out; unfold wrap64; omega
            clear hm
            generalize rd ships (m : Int) = s2 at *
            generalize rd list (m : Int) = lx at *
            subst h1
            have h1b := beq_self_eq_true sh
            have h2b := decide_eq_false h2
            have h2c := eq_false h2
            go_wp2_with fail
            go_quiet (fail)
            go_wp2_with fail
            clear h1b h2 h2b h2c
          all_goals
            (try clear b1 b2)
            (try clear h0 h0n)
            (try clear hn1)
            have hbq := below_drew1 (pw_below_drewN (Below.refl wr.heap.size wr) nq)
            have HXd := Aside0.mk (blk_below HX.out hbq)
            have HNd := Aside0.mk (Kd.N_below HN.out hbq)
            have HBd := Aside0.mk (below_step HB.out hbq)
            have HPd := Aside0.mk (Kd.R_below HP.out hbq)
            have hjd := (hbq.cell (World.block_lt_of_cell? _ _ hxj)).trans hxj
            clear hbq hxj
            (try clear k1)
            (try clear k2)
            (try clear k3)
            clear HX HN HB HP hs0 hs1 hs2
            refine start_ (n := 21) (S := fun w' => w'.cell? ⟨g5, 0, none⟩ = some (.int .i64 (W0 : Int)) ∧ w'.cell? ⟨g5, 1, none⟩ = some (.int .i64 (H0 : Int)) ∧ w'.cell? ⟨g5, 2, none⟩ = some (.slice (some ad2) ships.length c2) ∧ w'.cell? (adj.add j) = some (.int .i64 own)) (ds := []) #[false, false, false, false, false, false, false, false, false, false, false, false, false, false, false, false, false, false, false, false, false] (by kernel_rfl) rfl rfl ⟨(blk_cell HXd.out 0).trans rfl, (blk_cell HXd.out 1).trans rfl, (blk_cell HXd.out 2).trans rfl, hjd⟩ (fun hHeld => ?_)
            refine with_tabW spec_l09Go.tab14 spec_l09Go.bits14 (fun HT_ HW_ => ?_)
            generalize hq_ : (wr.drewN nq).drew = wd_ at HXd HNd HBd HPd hjd hHeld ⊢
            clear hq_
            have HBr := Aside0.mk (Below.refl wd_.heap.size wd_)
            refine pure_ (i := 0) (N := some 98) (v := ?_) (a' := ?_) (flg_ 21 1) rfl rfl (any_of HT_.out (by kernel_rfl)) (fun _ _ _ h => h) (Or.inl ⟨by rfl, ?_⟩) ?_ ?_
            rotate_left
            · intro w'
              go_simp
              with_reducible rfl
            rotate_left
            · simp only [Act.put, sz_, s0_, s1_, i64_w, i32_w]
              rfl
            refine pure_ (i := 2) (N := some 100) (v := ?_) (a' := ?_) (flg_ 21 5) rfl rfl (any_of HT_.out (by kernel_rfl)) (fun _ _ _ h => h) (Or.inl ⟨by rfl, ?_⟩) ?_ ?_
            rotate_left
            · intro w'
              go_simp
              with_reducible rfl
            rotate_left
            · simp only [Act.put, sz_, s0_, s1_, i64_w, i32_w]
              rfl
            refine pure_ (i := 4) (N := some 102) (v := ?_) (a' := ?_) (flg_ 21 21) rfl rfl (any_of HT_.out (by kernel_rfl)) (fun _ _ _ h => h) (Or.inl ⟨by rfl, ?_⟩) ?_ ?_
            rotate_left
            · intro w'
              go_simp
              with_reducible rfl
            rotate_left
            · simp only [Act.put, sz_, s0_, s1_, i64_w, i32_w]
              rfl
            refine pure_ (i := 5) (N := some 103) (v := ?_) (a' := ?_) (flg_ 21 53) rfl rfl (any_of HT_.out (by kernel_rfl)) (fun _ _ _ h => h) (Or.inl ⟨by rfl, ?_⟩) ?_ ?_
            rotate_left
            · intro w'
              go_simp
              with_reducible rfl
            rotate_left
            · simp only [Act.put, sz_, s0_, s1_, i64_w, i32_w]
              rfl
            refine pure_ (i := 10) (N := some 108) (v := ?_) (a' := ?_) (flg_ 21 1077) rfl rfl (any_of HT_.out (by kernel_rfl)) (fun _ _ _ h => h) (Or.inl ⟨by rfl, ?_⟩) ?_ ?_
            rotate_left
            · intro w'
              go_simp
              with_reducible rfl
            rotate_left
            · simp only [Act.put, sz_, s0_, s1_, i64_w, i32_w]
              rfl
            refine pure_ (i := 11) (N := some 109) (v := ?_) (a' := ?_) (flg_ 21 3125) rfl rfl (any_of HT_.out (by kernel_rfl)) (fun _ _ _ h => h) (Or.inl ⟨by rfl, ?_⟩) ?_ ?_
            rotate_left
            · intro w'
              go_simp
              with_reducible rfl
            rotate_left
            · simp only [Act.put, sz_, s0_, s1_, i64_w, i32_w]
              rfl
            refine pure_ (i := 12) (N := some 110) (v := ?_) (a' := ?_) (flg_ 21 7221) rfl rfl (any_of HT_.out (by kernel_rfl)) (fun _ _ _ h => h) (Or.inl ⟨by rfl, ?_⟩) ?_ ?_
            rotate_left
            · intro w'
              go_simp
              with_reducible rfl
            rotate_left
            · simp only [Act.put, sz_, s0_, s1_, i64_w, i32_w]
              rfl
            refine pure_ (i := 16) (N := some 114) (v := ?_) (a' := ?_) (flg_ 21 72757) rfl rfl (any_of HT_.out (by kernel_rfl)) (fun _ _ _ h => h) (Or.inl ⟨by rfl, ?_⟩) ?_ ?_
            rotate_left
            · intro w'
              go_simp
              with_reducible rfl
            rotate_left
            · simp only [Act.put, sz_, s0_, s1_, i64_w, i32_w]
              rfl
            refine pure_ (i := 17) (N := some 115) (v := ?_) (a' := ?_) (flg_ 21 203829) rfl rfl (any_of HT_.out (by kernel_rfl)) (fun _ _ _ h => h) (Or.inl ⟨by rfl, ?_⟩) ?_ ?_
            rotate_left
            · intro w'
              go_simp
              with_reducible rfl
            rotate_left
            · simp only [Act.put, sz_, s0_, s1_, i64_w, i32_w]
              rfl
            refine take_ (i := 1) (N := some 99) (v := ?_) (a' := ?_) (flg_ 21 203831) rfl rfl (take_ofW HT_.out HW_.out (by kernel_rfl)) (fun _ _ _ h => h) (Or.inl ⟨by rfl, ?_⟩) hHeld ?_ ?_
            rotate_left
            · rintro w' ⟨s0_, s1_, s2_, s3_⟩
              go_simp
              with_reducible rfl
            rotate_left
            · simp only [Act.put, sz_, s0_, s1_, i64_w, i32_w]
              rfl
            refine pure_ (i := 6) (N := some 104) (v := ?_) (a' := ?_) (flg_ 21 203895) rfl rfl (any_of HT_.out (by kernel_rfl)) (fun _ _ _ h => h) (Or.inl ⟨by rfl, ?_⟩) ?_ ?_
            rotate_left
            · intro w'
              go_simp
              with_reducible rfl
            rotate_left
            · simp only [Act.put, sz_, s0_, s1_, i64_w, i32_w]
              rfl
            refine take_ (i := 7) (N := some 105) (v := ?_) (a' := ?_) (flg_ 21 204023) rfl rfl (take_ofW HT_.out HW_.out (by kernel_rfl)) (fun _ _ _ h => h) (Or.inl ⟨by rfl, ?_⟩) hHeld ?_ ?_
            rotate_left
            · rintro w' ⟨s0_, s1_, s2_, s3_⟩
              go_simp
              with_reducible rfl
            rotate_left
            · simp only [Act.put, sz_, s0_, s1_, i64_w, i32_w]
              rfl
            refine pure_ (i := 13) (N := some 111) (v := ?_) (a' := ?_) (flg_ 21 212215) rfl rfl (any_of HT_.out (by kernel_rfl)) (fun _ _ _ h => h) (Or.inl ⟨by rfl, ?_⟩) ?_ ?_
            rotate_left
            · intro w'
              go_simp
              with_reducible rfl
            rotate_left
            · simp only [Act.put, sz_, s0_, s1_, i64_w, i32_w]
              rfl
            refine take_ (i := 14) (N := some 112) (v := ?_) (a' := ?_) (flg_ 21 228599) rfl rfl (take_ofW HT_.out HW_.out (by kernel_rfl)) (fun _ _ _ h => h) (Or.inl ⟨by rfl, ?_⟩) hHeld ?_ ?_
            rotate_left
            · rintro w' ⟨s0_, s1_, s2_, s3_⟩
              go_simp
              with_reducible rfl
            rotate_left
            · simp only [Act.put, sz_, s0_, s1_, i64_w, i32_w]
              rfl
            refine pure_ (i := 15) (N := some 113) (v := ?_) (a' := ?_) (flg_ 21 261367) rfl rfl (any_of HT_.out (by kernel_rfl)) (fun _ _ _ h => h) (Or.inl ⟨by rfl, ?_⟩) ?_ ?_
            rotate_left
            · intro w'
              go_simp
              with_reducible rfl
            rotate_left
            · simp only [Act.put, sz_, s0_, s1_, i64_w, i32_w]
              rfl
            refine two_ (i := 3) (j := 8) (Ni := some 101) (Nj := some 106) (flg_ 21 261375) (flg_ 21 261623) rfl rfl rfl rfl (two_of HT_.out (by kernel_rfl)) (by decide) (by decide) (fun K hK => ?_) (fun K hK => ?_)
            focus
              refine goes_ Try.func104 (by kernel_rfl) rfl #[.slice _ list.length c] (by rfl) rfl rfl (by (try simp only [List.map_toArray, List.map_cons, List.map_nil]); first | done | rfl) ?_
              refine (spec_l01Own.calls _ c list list _ (Kd.C_below (Kd.C_below (Kd.F_now HF.out) HBd.out) HBr.out) HLc.out HOwn.out).mono ?_
              rintro e wk_ ⟨v101, rfl, ho, hb⟩
              refine ⟨_, rfl, ?_⟩
              have HV := Aside0.mk (Kd.R_lower ho (below_size HBr.out))
              clear ho
              have nB_ := Aside0.mk (below_step HBr.out hb)
              clear hb HBr
              have HBr := nB_
              clear nB_
              refine hK.out _ _ ⟨(blk_cell (blk_below HXd.out HBr.out) 0).trans rfl, (blk_cell (blk_below HXd.out HBr.out) 1).trans rfl, (blk_cell (blk_below HXd.out HBr.out) 2).trans rfl, (HBr.out.cell (World.block_lt_of_cell? _ _ hjd)).trans hjd⟩ (fun hHeld => ?_)
              clear hK K
              refine norm_ (a' := ?_) ?_ ?_
              rotate_left
              · show Act.put _ (some 101) _ = _
                simp only [Act.put, sz_, s0_, s1_, i64_w, i32_w]
                rfl
              refine one_ (i := 8) (N := some 106) (flg_ 21 261631) rfl rfl (one_of HT_.out (by kernel_rfl)) (by decide) (fun K hK => ?_)
              refine Kd.R_lit_step (Kd.int .i64) _ 2 ?hg (N := 106) ?hd (xs := ([own] : List Int)) (inner := [.int .i64 own]) (ok := fun _ => True) (okp := fun _ => True) ?hr ?hp (fun _ hk => hk) trivial (Below.refl _ _) (Nat.le_refl _) (by simp) ?_; (case hd => rfl); (case hg => rfl); (case hr => first | (go_simp; done) | (go_simp; rfl)); (case hp => exact (Reps.one (show Kd.M (Kd.int .i64) _ _ _ own [.int .i64 own] from rfl) (Reps.none _ _)))
              intro v106 wl_ ho hb hg_ hnew_
              clear hg_ hnew_
              have HY := Aside0.mk (Kd.R_lower ho (below_size HBr.out))
              clear ho
              have nB_ := Aside0.mk (below_step HBr.out hb)
              have nHV_ := Aside0.mk (Kd.R_below HV.out hb)
              clear hb HBr HV
              have HBr := nB_
              have HV := nHV_
              clear nB_ nHV_
              refine hK.out _ _ ⟨(blk_cell (blk_below HXd.out HBr.out) 0).trans rfl, (blk_cell (blk_below HXd.out HBr.out) 1).trans rfl, (blk_cell (blk_below HXd.out HBr.out) 2).trans rfl, (HBr.out.cell (World.block_lt_of_cell? _ _ hjd)).trans hjd⟩ (fun hHeld => ?_)
              clear hK K
              refine norm_ (a' := ?_) ?_ ?_
              rotate_left
              · show Act.put _ (some 106) _ = _
                simp only [Act.put, sz_, s0_, s1_, i64_w, i32_w]
                rfl
            rotate_left
            focus
              refine Kd.R_lit_step (Kd.int .i64) _ 2 ?hg (N := 106) ?hd (xs := ([own] : List Int)) (inner := [.int .i64 own]) (ok := fun _ => True) (okp := fun _ => True) ?hr ?hp (fun _ hk => hk) trivial (Below.refl _ _) (Nat.le_refl _) (by simp) ?_; (case hd => rfl); (case hg => rfl); (case hr => first | (go_simp; done) | (go_simp; rfl)); (case hp => exact (Reps.one (show Kd.M (Kd.int .i64) _ _ _ own [.int .i64 own] from rfl) (Reps.none _ _)))
              intro v106 wl_ ho hb hg_ hnew_
              clear hg_ hnew_
              have HY := Aside0.mk (Kd.R_lower ho (below_size HBr.out))
              clear ho
              have nB_ := Aside0.mk (below_step HBr.out hb)
              clear hb HBr
              have HBr := nB_
              clear nB_
              refine hK.out _ _ ⟨(blk_cell (blk_below HXd.out HBr.out) 0).trans rfl, (blk_cell (blk_below HXd.out HBr.out) 1).trans rfl, (blk_cell (blk_below HXd.out HBr.out) 2).trans rfl, (HBr.out.cell (World.block_lt_of_cell? _ _ hjd)).trans hjd⟩ (fun hHeld => ?_)
              clear hK K
              refine norm_ (a' := ?_) ?_ ?_
              rotate_left
              · show Act.put _ (some 106) _ = _
                simp only [Act.put, sz_, s0_, s1_, i64_w, i32_w]
                rfl
              refine one_ (i := 3) (N := some 101) (flg_ 21 261631) rfl rfl (one_of HT_.out (by kernel_rfl)) (by decide) (fun K hK => ?_)
              refine goes_ Try.func104 (by kernel_rfl) rfl #[.slice _ list.length c] (by rfl) rfl rfl (by (try simp only [List.map_toArray, List.map_cons, List.map_nil]); first | done | rfl) ?_
              refine (spec_l01Own.calls _ c list list _ (Kd.C_below (Kd.C_below (Kd.F_now HF.out) HBd.out) HBr.out) HLc.out HOwn.out).mono ?_
              rintro e wk_ ⟨v101, rfl, ho, hb⟩
              refine ⟨_, rfl, ?_⟩
              have HV := Aside0.mk (Kd.R_lower ho (below_size HBr.out))
              clear ho
              have nB_ := Aside0.mk (below_step HBr.out hb)
              have nHY_ := Aside0.mk (Kd.R_below HY.out hb)
              clear hb HBr HY
              have HBr := nB_
              have HY := nHY_
              clear nB_ nHY_
              refine hK.out _ _ ⟨(blk_cell (blk_below HXd.out HBr.out) 0).trans rfl, (blk_cell (blk_below HXd.out HBr.out) 1).trans rfl, (blk_cell (blk_below HXd.out HBr.out) 2).trans rfl, (HBr.out.cell (World.block_lt_of_cell? _ _ hjd)).trans hjd⟩ (fun hHeld => ?_)
              clear hK K
              refine norm_ (a' := ?_) ?_ ?_
              rotate_left
              · show Act.put _ (some 101) _ = _
                simp only [Act.put, sz_, s0_, s1_, i64_w, i32_w]
                rfl
            all_goals
              obtain ⟨A106, c106, e106⟩ := Kd.R_slice HY.out
              subst e106
              refine one_ (i := 9) (N := some 107) (flg_ 21 262143) rfl rfl (one_of HT_.out (by kernel_rfl)) (by decide) (fun K hK => ?_)
              refine Kd.R_append_rows_step (Kd.int .i64) (w0 := wd_) wd_.heap.size (by rfl) (.tmp 101) (.tmp 106) 22 2 (.int .i64 0) 8 rfl Try.underlying22 info2 rfl (by decide) (by omega) v101 list [own] _ _ _ (fun _ => True) (fun _ => False) rfl rfl HV.out (Kd.R_reads' HY.out).2.2 (fun _ _ h => h) (fun _ h => h.elim) (fun _ _ => trivial) HBr.out (below_size HBr.out) HRoom.out ?_
              intro v107 wp_ ho hb hg hat
              have HA := Aside0.mk ho
              have nB_ := Aside0.mk hb
              clear ho hb hg hat HBr HV HY
              have HBr := nB_
              clear nB_
              obtain ⟨A107, c107, e107⟩ := Kd.R_slice HA.out
              subst e107
              refine hK.out _ _ ⟨(blk_cell (blk_below HXd.out HBr.out) 0).trans rfl, (blk_cell (blk_below HXd.out HBr.out) 1).trans rfl, (blk_cell (blk_below HXd.out HBr.out) 2).trans rfl, (HBr.out.cell (World.block_lt_of_cell? _ _ hjd)).trans hjd⟩ (fun hHeld => ?_)
              clear hK K
              refine norm_ (a' := ?_) ?_ ?_
              rotate_left
              · show Act.put _ (some 107) _ = _
                simp only [Act.put, sz_, s0_, s1_, i64_w, i32_w]
                rfl
              refine one_ (i := 18) (N := some 116) (flg_ 21 524287) rfl rfl (one_of HT_.out (by kernel_rfl)) (by decide) (fun K hK => ?_)
              refine goes_ Try.func64 (by kernel_rfl) rfl #[.agg #[.int .i64 (W0 : Int), .int .i64 (H0 : Int), .slice (some ad2) ships.length c2], .slice A107 (list ++ [own]).length c107, .int .i64 (Go.bits .or .i64 used own), .slice A3 T.length c3, .int .i64 rest] (by rfl) rfl rfl (by (try simp only [List.map_toArray, List.map_cons, List.map_nil]); first | done | rfl) ?_
              refine (HIH.out (list ++ [own]) (Go.bits .or .i64 used own) rest A107 c107 (fun k => wd_.heap.size ≤ k) wp_ HLen.out HIn.out HRest.out (Kd.F_mono (Kd.R_F (Kd.R_tight rfl HA.out)) (fun k hk => Kd.R_base HA.out k hk.symm)) (Kd.R_reads' HA.out).2.1 (Kd.C_below (Kd.C_below HT.out HBd.out) HBr.out) (Kd.C_below (Kd.C_below HSh.out HBd.out) HBr.out)).mono ?_
              rintro e wf_ ⟨v116, rfl, ho, hb⟩
              refine ⟨_, rfl, ?_⟩
              obtain ⟨A116, c116, e116⟩ := Kd.N_slice ho
              subst e116
              rw [HFv.out] at ho
              have HR := Aside0.mk (Kd.N_F (Kd.N_mono (ok' := fun k => wd_.heap.size ≤ k) ho (fun k hk => hk.elim id (fun h => Nat.le_trans (below_size HBr.out) h))))
              have nB_ := Aside0.mk (below_step HBr.out hb)
              clear ho hb HBr HA
              have HBr := nB_
              clear nB_
              refine hK.out _ _ ⟨(blk_cell (blk_below HXd.out HBr.out) 0).trans rfl, (blk_cell (blk_below HXd.out HBr.out) 1).trans rfl, (blk_cell (blk_below HXd.out HBr.out) 2).trans rfl, (HBr.out.cell (World.block_lt_of_cell? _ _ hjd)).trans hjd⟩ (fun hHeld => ?_)
              clear hK K
              refine norm_ (a' := ?_) ?_ ?_
              rotate_left
              · show Act.put _ (some 116) _ = _
                simp only [Act.put, sz_, s0_, s1_, i64_w, i32_w]
                rfl
              refine one_ (i := 19) (N := some 117) (flg_ 21 1048575) rfl rfl (one_of HT_.out (by kernel_rfl)) (by decide) (fun K hK => ?_)
              refine Kd.N_append_rows_step (Kd.slice 2 (Kd.int .i64)) (w0 := w) w.heap.size (by rfl) (.tmp 98) (.tmp 116) 42 22 (.slice none 0 0) 24 rfl Try.underlying42 info22 rfl (by decide) (by omega) (.slice A12 ol.length c12) ol fls A116 fls.length c116 (fun k => okL k ∨ w.heap.size ≤ k) (fun k => wd_.heap.size ≤ k) (by rfl) (by first | rfl | (rw [← HFv.out]; rfl)) (Kd.N_below HNd.out HBr.out) HR.out (fun k hk => ⟨.inr (Nat.le_trans (below_size HBd.out) hk), fun e_ => by have := Kd.N_lt HNd.out k e_.symm; omega⟩) (fun k hk => .inr (Nat.le_trans (Nat.le_trans (below_size HBd.out) (below_size HBr.out)) hk)) (below_step HBd.out HBr.out) (Nat.le_trans (below_size HBd.out) (below_size HBr.out)) HCap.out ?_
              intro v117 wg_ ho hb hg hat
              obtain ⟨A117, c117, e117⟩ := Kd.N_slice ho
              subst e117
              have HX := Aside0.mk ((hg.block _ (blk_lt (blk_below HXd.out HBr.out)) (Kd.N_ne (Kd.N_below HNd.out HBr.out) (blk_below HXd.out HBr.out) (by decide))).trans (blk_below HXd.out HBr.out))
              have HP := Aside0.mk (Kd.R_over' (e' := 22) (Kd.R_below HPd.out HBr.out) (Kd.N_typed (Kd.N_below HNd.out HBr.out)) (by decide) hg)
              have HN := Aside0.mk ho
              have HB := Aside0.mk hb
              clear ho hb hg hat HBr HR HXd HNd HBd HPd hjd
              obtain ⟨adk, ek, hxk⟩ := Kd.at_int (Kd.R_reads' HP.out).2.2 (j : Int) HJ0.out HJ1.out
              cases ek
              rw [Int.toNat_natCast, HRd.out] at hxk
              refine hK.out _ _ ⟨(blk_cell HX.out 0).trans rfl, (blk_cell HX.out 1).trans rfl, (blk_cell HX.out 2).trans rfl, hxk⟩ (fun hHeld => ?_)
              clear hK K hxk
              refine norm_ (a' := ?_) ?_ ?_
              rotate_left
              · show Act.put _ (some 117) _ = _
                simp only [Act.put, sz_, s0_, s1_, i64_w, i32_w]
                rfl
              refine pure_ (i := 20) (N := some 12) (v := ?_) (a' := ?_) (flg_ 21 2097151) rfl rfl (any_of HT_.out (by kernel_rfl)) (fun _ _ _ h => h) (Or.inl ⟨by rfl, ?_⟩) ?_ ?_
              rotate_left
              · intro w'
                go_simp
                with_reducible rfl
              rotate_left
              · simp only [Act.put, sz_, s0_, s1_, i64_w, i32_w]
                rfl
              refine done_ (done_of HT_.out (by kernel_rfl)) ?_
              go_wp2_with fail
              go_roundg (P.length - (j + 1))
              case measure => exact HJm.out
              case rel => exact ⟨j + 1, A117, c117, HJr.out, Nat.le_refl _, by rw [HOs.out, List.length_append], (by first | rfl | exact congrArg (Value.int .i64) HJs.out), ⟨by rw [HOs.out]; exact HN.out⟩, HP, HX, HB⟩
        · by_cases hml : (ol.length : Int) < most
          · 
            have HOs0 := HOS.out j hlt
            rw [hown, hol] at HOs0
            unfold goStep at HOs0
            rw [if_pos (.inr hml)] at HOs0
            rw [if_neg hneg] at HOs0
            obtain ⟨rest, hrest⟩ : ∃ rest, most - (ol.length : Int) = rest := ⟨_, rfl⟩
            rw [hrest] at HOs0
            have HRest := Aside0.mk (show rest < 9223372036854775808 by have := HMo.out; omega)
            obtain ⟨fls, hfls⟩ : ∃ fls, goV W0 H0 ships T d (list ++ [own]) (Go.bits .or .i64 used own) rest = fls := ⟨_, rfl⟩
            have HFlen := HFl.out own rest
            rw [hfls] at HFlen
            have HFv := Aside0.mk hfls
            simp only [hfls] at HOs0
            have HCap := Aside0.mk (show (ol.length + fls.length) * 24 ≤ 140737488355328 by have := HOlen.out; omega)
            have m1 := decide_eq_false hneg
            have m2 := eq_false hneg
            have m3 := decide_eq_true (show (0 : Int) ≤ most by omega)
            have m4 := decide_eq_true (show most ≥ (0 : Int) by omega)
            have m5 := decide_eq_true hml
            have m6 := eq_true hml
            have m7 : wrap64 (most - (ol.length : Int)) = rest := by rw [← hrest]; have := HMo.out; have := HOlen.out; unfold wrap64; omega
            clear hfls HFlen hown hlt hj hgj hml hrest hneg
            rcases goOk_cases ships list own used with ⟨hbz, hok⟩ | ⟨hbz, hl0, hok⟩ | ⟨m, hm, hbz, ⟨h1, hok⟩ | ⟨h1, h2, hok⟩ | ⟨h1, h2, hok⟩⟩
            case inl =>
              rw [if_neg (by rw [hok]; simp)] at HOs0
              have HOs := Aside0.mk HOs0
              clear HOs0 hok
              have b1 : (Go.bits .and .i64 own used != 0) = true := bne_iff_ne.mpr hbz
              have b2 : (Go.bits .and .i64 own used == 0) = false := beq_eq_false_iff_ne.mpr hbz
              go_wp2_with fail
              go_quiet (fail)
              go_wp2_with fail
              have hbq := pw_below_drewN (Below.refl wr.heap.size wr) nq
              go_roundg (P.length - (j + 1))
              case measure => exact HJm.out
              case rel => exact ⟨j + 1, A12, c12, HJr.out, Nat.le_refl _, by rw [HOs.out], (by first | rfl | exact congrArg (Value.int .i64) HJs.out), ⟨by rw [HOs.out]; exact Kd.N_below HN.out hbq⟩, ⟨Kd.R_below HP.out hbq⟩, ⟨blk_below HX.out hbq⟩, ⟨below_step HB.out hbq⟩⟩
            case inr.inr.inr.inl =>
              rw [if_neg (by rw [hok]; simp)] at HOs0
              have HOs := Aside0.mk HOs0
              clear HOs0 hok
              have b1 : (Go.bits .and .i64 own used != 0) = false := by rw [hbz]; rfl
              have b2 : (Go.bits .and .i64 own used == 0) = true := by rw [hbz]; rfl
              obtain ⟨adL, eL, k3⟩ := Kd.at_int (Kd.C_below (Kd.F_now HF.out) HB.out) (m : Int) (by omega) (by omega)
              subst eL
              obtain ⟨ad21, e21, k1⟩ := Kd.at_int (Kd.C_below HSh.out HB.out) (list.length : Int) (by omega) (by have := HD.out; omega)
              obtain ⟨ad22, e22, k2⟩ := Kd.at_int (Kd.C_below HSh.out HB.out) (m : Int) (by omega) (by have := HD.out; omega)
              injection e21 with e21
              injection e22 with e22
              subst e21 e22
              rw [Int.toNat_natCast] at k1 k2 k3
              rw [HSH.out] at k1 h1
              have h0 := decide_eq_true (show (0 : Int) < (list.length : Int) by omega)
              have h0n := decide_eq_true (show 0 < list.length by omega)
              have w1_ := eq_true (show (m : Int) < (ships.length : Int) by have := HD.out; omega)
              have w2_ := eq_true (show m < ships.length by have := HD.out; omega)
              have w3_ := eq_true (show (m : Int) < (list.length : Int) by omega)
              have w4_ := eq_true (show m < list.length by omega)
              have w5_ := eq_true (show (0 : Int) ≤ (m : Int) by omega)
              have hn1 : wrap64 ((list.length : Int) - 1) = (m : Int) := by have := HS3.out; have := HD.out; unfold wrap64; omega
              clear hm
              generalize rd ships (m : Int) = s2 at *
              generalize rd list (m : Int) = lx at *
              subst h1
              have h1b := beq_self_eq_true sh
              have h2b := decide_eq_true h2
              have h2c := eq_true h2
              go_wp2_with fail
              go_quiet (fail)
              go_wp2_with fail
              have hbq := pw_below_drewN (Below.refl wr.heap.size wr) nq
              go_roundg (P.length - (j + 1))
              case measure => exact HJm.out
              case rel => exact ⟨j + 1, A12, c12, HJr.out, Nat.le_refl _, by rw [HOs.out], (by first | rfl | exact congrArg (Value.int .i64) HJs.out), ⟨by rw [HOs.out]; exact Kd.N_below HN.out hbq⟩, ⟨Kd.R_below HP.out hbq⟩, ⟨blk_below HX.out hbq⟩, ⟨below_step HB.out hbq⟩⟩
            case' inr.inl =>
              rw [if_pos hok] at HOs0
              have HOs := Aside0.mk HOs0
              clear HOs0 hok
              have b1 : (Go.bits .and .i64 own used != 0) = false := by rw [hbz]; rfl
              have b2 : (Go.bits .and .i64 own used == 0) = true := by rw [hbz]; rfl
              have h0 := decide_eq_false (show ¬ (0 : Int) < (list.length : Int) by omega)
              have h0n := decide_eq_false (show ¬ 0 < list.length by omega)
              clear hl0
              go_wp2_with fail
              go_quiet (fail)
              go_wp2_with fail
            case' inr.inr.inl =>
              rw [if_pos hok] at HOs0
              have HOs := Aside0.mk HOs0
              clear HOs0 hok
              have b1 : (Go.bits .and .i64 own used != 0) = false := by rw [hbz]; rfl
              have b2 : (Go.bits .and .i64 own used == 0) = true := by rw [hbz]; rfl
              obtain ⟨adL, eL, k3⟩ := Kd.at_int (Kd.C_below (Kd.F_now HF.out) HB.out) (m : Int) (by omega) (by omega)
              subst eL
              obtain ⟨ad21, e21, k1⟩ := Kd.at_int (Kd.C_below HSh.out HB.out) (list.length : Int) (by omega) (by have := HD.out; omega)
              obtain ⟨ad22, e22, k2⟩ := Kd.at_int (Kd.C_below HSh.out HB.out) (m : Int) (by omega) (by have := HD.out; omega)
              injection e21 with e21
              injection e22 with e22
              subst e21 e22
              rw [Int.toNat_natCast] at k1 k2 k3
              rw [HSH.out] at k1 h1
              have h0 := decide_eq_true (show (0 : Int) < (list.length : Int) by omega)
              have h0n := decide_eq_true (show 0 < list.length by omega)
              have w1_ := eq_true (show (m : Int) < (ships.length : Int) by have := HD.out; omega)
              have w2_ := eq_true (show m < ships.length by have := HD.out; omega)
              have w3_ := eq_true (show (m : Int) < (list.length : Int) by omega)
              have w4_ := eq_true (show m < list.length by omega)
              have w5_ := eq_true (show (0 : Int) ≤ (m : Int) by omega)
              have hn1 : wrap64 ((list.length : Int) - 1) = (m : Int) := by have := HS3.out; have := HD.out; unfold wrap64; omega
              clear hm
              generalize rd ships (m : Int) = s2 at *
              generalize rd list (m : Int) = lx at *
              have h1b : (sh == s2) = false := beq_eq_false_iff_ne.mpr h1
              go_wp2_with fail
              go_quiet (fail)
              go_wp2_with fail
              clear h1 h1b
            case' inr.inr.inr.inr =>
              rw [if_pos hok] at HOs0
              have HOs := Aside0.mk HOs0
              clear HOs0 hok
              have b1 : (Go.bits .and .i64 own used != 0) = false := by rw [hbz]; rfl
              have b2 : (Go.bits .and .i64 own used == 0) = true := by rw [hbz]; rfl
              obtain ⟨adL, eL, k3⟩ := Kd.at_int (Kd.C_below (Kd.F_now HF.out) HB.out) (m : Int) (by omega) (by omega)
              subst eL
              obtain ⟨ad21, e21, k1⟩ := Kd.at_int (Kd.C_below HSh.out HB.out) (list.length : Int) (by omega) (by have := HD.out; omega)
              obtain ⟨ad22, e22, k2⟩ := Kd.at_int (Kd.C_below HSh.out HB.out) (m : Int) (by omega) (by have := HD.out; omega)
              injection e21 with e21
              injection e22 with e22
              subst e21 e22
              rw [Int.toNat_natCast] at k1 k2 k3
              rw [HSH.out] at k1 h1
              have h0 := decide_eq_true (show (0 : Int) < (list.length : Int) by omega)
              have h0n := decide_eq_true (show 0 < list.length by omega)
              have w1_ := eq_true (show (m : Int) < (ships.length : Int) by have := HD.out; omega)
              have w2_ := eq_true (show m < ships.length by have := HD.out; omega)
              have w3_ := eq_true (show (m : Int) < (list.length : Int) by omega)
              have w4_ := eq_true (show m < list.length by omega)
              have w5_ := eq_true (show (0 : Int) ≤ (m : Int) by omega)
              have hn1 : wrap64 ((list.length : Int) - 1) = (m : Int) := by have := HS3.out; have := HD.out; unfold wrap64; omega
              clear hm
              generalize rd ships (m : Int) = s2 at *
              generalize rd list (m : Int) = lx at *
              subst h1
              have h1b := beq_self_eq_true sh
              have h2b := decide_eq_false h2
              have h2c := eq_false h2
              go_wp2_with fail
              go_quiet (fail)
              go_wp2_with fail
              clear h1b h2 h2b h2c
            all_goals
              (try clear b1 b2)
              (try clear h0 h0n)
              (try clear hn1)
              have hbq := below_drew1 (pw_below_drewN (Below.refl wr.heap.size wr) nq)
              have HXd := Aside0.mk (blk_below HX.out hbq)
              have HNd := Aside0.mk (Kd.N_below HN.out hbq)
              have HBd := Aside0.mk (below_step HB.out hbq)
              have HPd := Aside0.mk (Kd.R_below HP.out hbq)
              have hjd := (hbq.cell (World.block_lt_of_cell? _ _ hxj)).trans hxj
              clear hbq hxj
              (try clear k1)
              (try clear k2)
              (try clear k3)
              clear HX HN HB HP hs0 hs1 hs2
              refine start_ (n := 21) (S := fun w' => w'.cell? ⟨g5, 0, none⟩ = some (.int .i64 (W0 : Int)) ∧ w'.cell? ⟨g5, 1, none⟩ = some (.int .i64 (H0 : Int)) ∧ w'.cell? ⟨g5, 2, none⟩ = some (.slice (some ad2) ships.length c2) ∧ w'.cell? (adj.add j) = some (.int .i64 own)) (ds := []) #[false, false, false, false, false, false, false, false, false, false, false, false, false, false, false, false, false, false, false, false, false] (by kernel_rfl) rfl rfl ⟨(blk_cell HXd.out 0).trans rfl, (blk_cell HXd.out 1).trans rfl, (blk_cell HXd.out 2).trans rfl, hjd⟩ (fun hHeld => ?_)
              refine with_tabW spec_l09Go.tab14 spec_l09Go.bits14 (fun HT_ HW_ => ?_)
              generalize hq_ : (wr.drewN nq).drew = wd_ at HXd HNd HBd HPd hjd hHeld ⊢
              clear hq_
              have HBr := Aside0.mk (Below.refl wd_.heap.size wd_)
              refine pure_ (i := 0) (N := some 98) (v := ?_) (a' := ?_) (flg_ 21 1) rfl rfl (any_of HT_.out (by kernel_rfl)) (fun _ _ _ h => h) (Or.inl ⟨by rfl, ?_⟩) ?_ ?_
              rotate_left
              · intro w'
                go_simp
                with_reducible rfl
              rotate_left
              · simp only [Act.put, sz_, s0_, s1_, i64_w, i32_w]
                rfl
              refine pure_ (i := 2) (N := some 100) (v := ?_) (a' := ?_) (flg_ 21 5) rfl rfl (any_of HT_.out (by kernel_rfl)) (fun _ _ _ h => h) (Or.inl ⟨by rfl, ?_⟩) ?_ ?_
              rotate_left
              · intro w'
                go_simp
                with_reducible rfl
              rotate_left
              · simp only [Act.put, sz_, s0_, s1_, i64_w, i32_w]
                rfl
              refine pure_ (i := 4) (N := some 102) (v := ?_) (a' := ?_) (flg_ 21 21) rfl rfl (any_of HT_.out (by kernel_rfl)) (fun _ _ _ h => h) (Or.inl ⟨by rfl, ?_⟩) ?_ ?_
              rotate_left
              · intro w'
                go_simp
                with_reducible rfl
              rotate_left
              · simp only [Act.put, sz_, s0_, s1_, i64_w, i32_w]
                rfl
              refine pure_ (i := 5) (N := some 103) (v := ?_) (a' := ?_) (flg_ 21 53) rfl rfl (any_of HT_.out (by kernel_rfl)) (fun _ _ _ h => h) (Or.inl ⟨by rfl, ?_⟩) ?_ ?_
              rotate_left
              · intro w'
                go_simp
                with_reducible rfl
              rotate_left
              · simp only [Act.put, sz_, s0_, s1_, i64_w, i32_w]
                rfl
              refine pure_ (i := 10) (N := some 108) (v := ?_) (a' := ?_) (flg_ 21 1077) rfl rfl (any_of HT_.out (by kernel_rfl)) (fun _ _ _ h => h) (Or.inl ⟨by rfl, ?_⟩) ?_ ?_
              rotate_left
              · intro w'
                go_simp
                with_reducible rfl
              rotate_left
              · simp only [Act.put, sz_, s0_, s1_, i64_w, i32_w]
                rfl
              refine pure_ (i := 11) (N := some 109) (v := ?_) (a' := ?_) (flg_ 21 3125) rfl rfl (any_of HT_.out (by kernel_rfl)) (fun _ _ _ h => h) (Or.inl ⟨by rfl, ?_⟩) ?_ ?_
              rotate_left
              · intro w'
                go_simp
                with_reducible rfl
              rotate_left
              · simp only [Act.put, sz_, s0_, s1_, i64_w, i32_w]
                rfl
              refine pure_ (i := 12) (N := some 110) (v := ?_) (a' := ?_) (flg_ 21 7221) rfl rfl (any_of HT_.out (by kernel_rfl)) (fun _ _ _ h => h) (Or.inl ⟨by rfl, ?_⟩) ?_ ?_
              rotate_left
              · intro w'
                go_simp
                with_reducible rfl
              rotate_left
              · simp only [Act.put, sz_, s0_, s1_, i64_w, i32_w]
                rfl
              refine pure_ (i := 16) (N := some 114) (v := ?_) (a' := ?_) (flg_ 21 72757) rfl rfl (any_of HT_.out (by kernel_rfl)) (fun _ _ _ h => h) (Or.inl ⟨by rfl, ?_⟩) ?_ ?_
              rotate_left
              · intro w'
                go_simp
                with_reducible rfl
              rotate_left
              · simp only [Act.put, sz_, s0_, s1_, i64_w, i32_w]
                rfl
              refine pure_ (i := 17) (N := some 115) (v := ?_) (a' := ?_) (flg_ 21 203829) rfl rfl (any_of HT_.out (by kernel_rfl)) (fun _ _ _ h => h) (Or.inl ⟨by rfl, ?_⟩) ?_ ?_
              rotate_left
              · intro w'
                go_simp
                with_reducible rfl
              rotate_left
              · simp only [Act.put, sz_, s0_, s1_, i64_w, i32_w]
                rfl
              refine take_ (i := 1) (N := some 99) (v := ?_) (a' := ?_) (flg_ 21 203831) rfl rfl (take_ofW HT_.out HW_.out (by kernel_rfl)) (fun _ _ _ h => h) (Or.inl ⟨by rfl, ?_⟩) hHeld ?_ ?_
              rotate_left
              · rintro w' ⟨s0_, s1_, s2_, s3_⟩
                go_simp
                with_reducible rfl
              rotate_left
              · simp only [Act.put, sz_, s0_, s1_, i64_w, i32_w]
                rfl
              refine pure_ (i := 6) (N := some 104) (v := ?_) (a' := ?_) (flg_ 21 203895) rfl rfl (any_of HT_.out (by kernel_rfl)) (fun _ _ _ h => h) (Or.inl ⟨by rfl, ?_⟩) ?_ ?_
              rotate_left
              · intro w'
                go_simp
                with_reducible rfl
              rotate_left
              · simp only [Act.put, sz_, s0_, s1_, i64_w, i32_w]
                rfl
              refine take_ (i := 7) (N := some 105) (v := ?_) (a' := ?_) (flg_ 21 204023) rfl rfl (take_ofW HT_.out HW_.out (by kernel_rfl)) (fun _ _ _ h => h) (Or.inl ⟨by rfl, ?_⟩) hHeld ?_ ?_
              rotate_left
              · rintro w' ⟨s0_, s1_, s2_, s3_⟩
                go_simp
                with_reducible rfl
              rotate_left
              · simp only [Act.put, sz_, s0_, s1_, i64_w, i32_w]
                rfl
              refine pure_ (i := 13) (N := some 111) (v := ?_) (a' := ?_) (flg_ 21 212215) rfl rfl (any_of HT_.out (by kernel_rfl)) (fun _ _ _ h => h) (Or.inl ⟨by rfl, ?_⟩) ?_ ?_
              rotate_left
              · intro w'
                go_simp
                with_reducible rfl
              rotate_left
              · simp only [Act.put, sz_, s0_, s1_, i64_w, i32_w]
                rfl
              refine take_ (i := 14) (N := some 112) (v := ?_) (a' := ?_) (flg_ 21 228599) rfl rfl (take_ofW HT_.out HW_.out (by kernel_rfl)) (fun _ _ _ h => h) (Or.inl ⟨by rfl, ?_⟩) hHeld ?_ ?_
              rotate_left
              · rintro w' ⟨s0_, s1_, s2_, s3_⟩
                go_simp
                with_reducible rfl
              rotate_left
              · simp only [Act.put, sz_, s0_, s1_, i64_w, i32_w]
                rfl
              refine pure_ (i := 15) (N := some 113) (v := ?_) (a' := ?_) (flg_ 21 261367) rfl rfl (any_of HT_.out (by kernel_rfl)) (fun _ _ _ h => h) (Or.inl ⟨by rfl, ?_⟩) ?_ ?_
              rotate_left
              · intro w'
                go_simp
                with_reducible rfl
              rotate_left
              · simp only [Act.put, sz_, s0_, s1_, i64_w, i32_w]
                rfl
              refine two_ (i := 3) (j := 8) (Ni := some 101) (Nj := some 106) (flg_ 21 261375) (flg_ 21 261623) rfl rfl rfl rfl (two_of HT_.out (by kernel_rfl)) (by decide) (by decide) (fun K hK => ?_) (fun K hK => ?_)
              focus
                refine goes_ Try.func104 (by kernel_rfl) rfl #[.slice _ list.length c] (by rfl) rfl rfl (by (try simp only [List.map_toArray, List.map_cons, List.map_nil]); first | done | rfl) ?_
                refine (spec_l01Own.calls _ c list list _ (Kd.C_below (Kd.C_below (Kd.F_now HF.out) HBd.out) HBr.out) HLc.out HOwn.out).mono ?_
                rintro e wk_ ⟨v101, rfl, ho, hb⟩
                refine ⟨_, rfl, ?_⟩
                have HV := Aside0.mk (Kd.R_lower ho (below_size HBr.out))
                clear ho
                have nB_ := Aside0.mk (below_step HBr.out hb)
                clear hb HBr
                have HBr := nB_
                clear nB_
                refine hK.out _ _ ⟨(blk_cell (blk_below HXd.out HBr.out) 0).trans rfl, (blk_cell (blk_below HXd.out HBr.out) 1).trans rfl, (blk_cell (blk_below HXd.out HBr.out) 2).trans rfl, (HBr.out.cell (World.block_lt_of_cell? _ _ hjd)).trans hjd⟩ (fun hHeld => ?_)
                clear hK K
                refine norm_ (a' := ?_) ?_ ?_
                rotate_left
                · show Act.put _ (some 101) _ = _
                  simp only [Act.put, sz_, s0_, s1_, i64_w, i32_w]
                  rfl
                refine one_ (i := 8) (N := some 106) (flg_ 21 261631) rfl rfl (one_of HT_.out (by kernel_rfl)) (by decide) (fun K hK => ?_)
                refine Kd.R_lit_step (Kd.int .i64) _ 2 ?hg (N := 106) ?hd (xs := ([own] : List Int)) (inner := [.int .i64 own]) (ok := fun _ => True) (okp := fun _ => True) ?hr ?hp (fun _ hk => hk) trivial (Below.refl _ _) (Nat.le_refl _) (by simp) ?_; (case hd => rfl); (case hg => rfl); (case hr => first | (go_simp; done) | (go_simp; rfl)); (case hp => exact (Reps.one (show Kd.M (Kd.int .i64) _ _ _ own [.int .i64 own] from rfl) (Reps.none _ _)))
                intro v106 wl_ ho hb hg_ hnew_
                clear hg_ hnew_
                have HY := Aside0.mk (Kd.R_lower ho (below_size HBr.out))
                clear ho
                have nB_ := Aside0.mk (below_step HBr.out hb)
                have nHV_ := Aside0.mk (Kd.R_below HV.out hb)
                clear hb HBr HV
                have HBr := nB_
                have HV := nHV_
                clear nB_ nHV_
                refine hK.out _ _ ⟨(blk_cell (blk_below HXd.out HBr.out) 0).trans rfl, (blk_cell (blk_below HXd.out HBr.out) 1).trans rfl, (blk_cell (blk_below HXd.out HBr.out) 2).trans rfl, (HBr.out.cell (World.block_lt_of_cell? _ _ hjd)).trans hjd⟩ (fun hHeld => ?_)
                clear hK K
                refine norm_ (a' := ?_) ?_ ?_
                rotate_left
                · show Act.put _ (some 106) _ = _
                  simp only [Act.put, sz_, s0_, s1_, i64_w, i32_w]
                  rfl
              rotate_left
              focus
                refine Kd.R_lit_step (Kd.int .i64) _ 2 ?hg (N := 106) ?hd (xs := ([own] : List Int)) (inner := [.int .i64 own]) (ok := fun _ => True) (okp := fun _ => True) ?hr ?hp (fun _ hk => hk) trivial (Below.refl _ _) (Nat.le_refl _) (by simp) ?_; (case hd => rfl); (case hg => rfl); (case hr => first | (go_simp; done) | (go_simp; rfl)); (case hp => exact (Reps.one (show Kd.M (Kd.int .i64) _ _ _ own [.int .i64 own] from rfl) (Reps.none _ _)))
                intro v106 wl_ ho hb hg_ hnew_
                clear hg_ hnew_
                have HY := Aside0.mk (Kd.R_lower ho (below_size HBr.out))
                clear ho
                have nB_ := Aside0.mk (below_step HBr.out hb)
                clear hb HBr
                have HBr := nB_
                clear nB_
                refine hK.out _ _ ⟨(blk_cell (blk_below HXd.out HBr.out) 0).trans rfl, (blk_cell (blk_below HXd.out HBr.out) 1).trans rfl, (blk_cell (blk_below HXd.out HBr.out) 2).trans rfl, (HBr.out.cell (World.block_lt_of_cell? _ _ hjd)).trans hjd⟩ (fun hHeld => ?_)
                clear hK K
                refine norm_ (a' := ?_) ?_ ?_
                rotate_left
                · show Act.put _ (some 106) _ = _
                  simp only [Act.put, sz_, s0_, s1_, i64_w, i32_w]
                  rfl
                refine one_ (i := 3) (N := some 101) (flg_ 21 261631) rfl rfl (one_of HT_.out (by kernel_rfl)) (by decide) (fun K hK => ?_)
                refine goes_ Try.func104 (by kernel_rfl) rfl #[.slice _ list.length c] (by rfl) rfl rfl (by (try simp only [List.map_toArray, List.map_cons, List.map_nil]); first | done | rfl) ?_
                refine (spec_l01Own.calls _ c list list _ (Kd.C_below (Kd.C_below (Kd.F_now HF.out) HBd.out) HBr.out) HLc.out HOwn.out).mono ?_
                rintro e wk_ ⟨v101, rfl, ho, hb⟩
                refine ⟨_, rfl, ?_⟩
                have HV := Aside0.mk (Kd.R_lower ho (below_size HBr.out))
                clear ho
                have nB_ := Aside0.mk (below_step HBr.out hb)
                have nHY_ := Aside0.mk (Kd.R_below HY.out hb)
                clear hb HBr HY
                have HBr := nB_
                have HY := nHY_
                clear nB_ nHY_
                refine hK.out _ _ ⟨(blk_cell (blk_below HXd.out HBr.out) 0).trans rfl, (blk_cell (blk_below HXd.out HBr.out) 1).trans rfl, (blk_cell (blk_below HXd.out HBr.out) 2).trans rfl, (HBr.out.cell (World.block_lt_of_cell? _ _ hjd)).trans hjd⟩ (fun hHeld => ?_)
                clear hK K
                refine norm_ (a' := ?_) ?_ ?_
                rotate_left
                · show Act.put _ (some 101) _ = _
                  simp only [Act.put, sz_, s0_, s1_, i64_w, i32_w]
                  rfl
              all_goals
                obtain ⟨A106, c106, e106⟩ := Kd.R_slice HY.out
                subst e106
                refine one_ (i := 9) (N := some 107) (flg_ 21 262143) rfl rfl (one_of HT_.out (by kernel_rfl)) (by decide) (fun K hK => ?_)
                refine Kd.R_append_rows_step (Kd.int .i64) (w0 := wd_) wd_.heap.size (by rfl) (.tmp 101) (.tmp 106) 22 2 (.int .i64 0) 8 rfl Try.underlying22 info2 rfl (by decide) (by omega) v101 list [own] _ _ _ (fun _ => True) (fun _ => False) rfl rfl HV.out (Kd.R_reads' HY.out).2.2 (fun _ _ h => h) (fun _ h => h.elim) (fun _ _ => trivial) HBr.out (below_size HBr.out) HRoom.out ?_
                intro v107 wp_ ho hb hg hat
                have HA := Aside0.mk ho
                have nB_ := Aside0.mk hb
                clear ho hb hg hat HBr HV HY
                have HBr := nB_
                clear nB_
                obtain ⟨A107, c107, e107⟩ := Kd.R_slice HA.out
                subst e107
                refine hK.out _ _ ⟨(blk_cell (blk_below HXd.out HBr.out) 0).trans rfl, (blk_cell (blk_below HXd.out HBr.out) 1).trans rfl, (blk_cell (blk_below HXd.out HBr.out) 2).trans rfl, (HBr.out.cell (World.block_lt_of_cell? _ _ hjd)).trans hjd⟩ (fun hHeld => ?_)
                clear hK K
                refine norm_ (a' := ?_) ?_ ?_
                rotate_left
                · show Act.put _ (some 107) _ = _
                  simp only [Act.put, sz_, s0_, s1_, i64_w, i32_w]
                  rfl
                refine one_ (i := 18) (N := some 116) (flg_ 21 524287) rfl rfl (one_of HT_.out (by kernel_rfl)) (by decide) (fun K hK => ?_)
                refine goes_ Try.func64 (by kernel_rfl) rfl #[.agg #[.int .i64 (W0 : Int), .int .i64 (H0 : Int), .slice (some ad2) ships.length c2], .slice A107 (list ++ [own]).length c107, .int .i64 (Go.bits .or .i64 used own), .slice A3 T.length c3, .int .i64 rest] (by rfl) rfl rfl (by (try simp only [List.map_toArray, List.map_cons, List.map_nil]); first | done | rfl) ?_
                refine (HIH.out (list ++ [own]) (Go.bits .or .i64 used own) rest A107 c107 (fun k => wd_.heap.size ≤ k) wp_ HLen.out HIn.out HRest.out (Kd.F_mono (Kd.R_F (Kd.R_tight rfl HA.out)) (fun k hk => Kd.R_base HA.out k hk.symm)) (Kd.R_reads' HA.out).2.1 (Kd.C_below (Kd.C_below HT.out HBd.out) HBr.out) (Kd.C_below (Kd.C_below HSh.out HBd.out) HBr.out)).mono ?_
                rintro e wf_ ⟨v116, rfl, ho, hb⟩
                refine ⟨_, rfl, ?_⟩
                obtain ⟨A116, c116, e116⟩ := Kd.N_slice ho
                subst e116
                rw [HFv.out] at ho
                have HR := Aside0.mk (Kd.N_F (Kd.N_mono (ok' := fun k => wd_.heap.size ≤ k) ho (fun k hk => hk.elim id (fun h => Nat.le_trans (below_size HBr.out) h))))
                have nB_ := Aside0.mk (below_step HBr.out hb)
                clear ho hb HBr HA
                have HBr := nB_
                clear nB_
                refine hK.out _ _ ⟨(blk_cell (blk_below HXd.out HBr.out) 0).trans rfl, (blk_cell (blk_below HXd.out HBr.out) 1).trans rfl, (blk_cell (blk_below HXd.out HBr.out) 2).trans rfl, (HBr.out.cell (World.block_lt_of_cell? _ _ hjd)).trans hjd⟩ (fun hHeld => ?_)
                clear hK K
                refine norm_ (a' := ?_) ?_ ?_
                rotate_left
                · show Act.put _ (some 116) _ = _
                  simp only [Act.put, sz_, s0_, s1_, i64_w, i32_w]
                  rfl
                refine one_ (i := 19) (N := some 117) (flg_ 21 1048575) rfl rfl (one_of HT_.out (by kernel_rfl)) (by decide) (fun K hK => ?_)
                refine Kd.N_append_rows_step (Kd.slice 2 (Kd.int .i64)) (w0 := w) w.heap.size (by rfl) (.tmp 98) (.tmp 116) 42 22 (.slice none 0 0) 24 rfl Try.underlying42 info22 rfl (by decide) (by omega) (.slice A12 ol.length c12) ol fls A116 fls.length c116 (fun k => okL k ∨ w.heap.size ≤ k) (fun k => wd_.heap.size ≤ k) (by rfl) (by first | rfl | (rw [← HFv.out]; rfl)) (Kd.N_below HNd.out HBr.out) HR.out (fun k hk => ⟨.inr (Nat.le_trans (below_size HBd.out) hk), fun e_ => by have := Kd.N_lt HNd.out k e_.symm; omega⟩) (fun k hk => .inr (Nat.le_trans (Nat.le_trans (below_size HBd.out) (below_size HBr.out)) hk)) (below_step HBd.out HBr.out) (Nat.le_trans (below_size HBd.out) (below_size HBr.out)) HCap.out ?_
                intro v117 wg_ ho hb hg hat
                obtain ⟨A117, c117, e117⟩ := Kd.N_slice ho
                subst e117
                have HX := Aside0.mk ((hg.block _ (blk_lt (blk_below HXd.out HBr.out)) (Kd.N_ne (Kd.N_below HNd.out HBr.out) (blk_below HXd.out HBr.out) (by decide))).trans (blk_below HXd.out HBr.out))
                have HP := Aside0.mk (Kd.R_over' (e' := 22) (Kd.R_below HPd.out HBr.out) (Kd.N_typed (Kd.N_below HNd.out HBr.out)) (by decide) hg)
                have HN := Aside0.mk ho
                have HB := Aside0.mk hb
                clear ho hb hg hat HBr HR HXd HNd HBd HPd hjd
                obtain ⟨adk, ek, hxk⟩ := Kd.at_int (Kd.R_reads' HP.out).2.2 (j : Int) HJ0.out HJ1.out
                cases ek
                rw [Int.toNat_natCast, HRd.out] at hxk
                refine hK.out _ _ ⟨(blk_cell HX.out 0).trans rfl, (blk_cell HX.out 1).trans rfl, (blk_cell HX.out 2).trans rfl, hxk⟩ (fun hHeld => ?_)
                clear hK K hxk
                refine norm_ (a' := ?_) ?_ ?_
                rotate_left
                · show Act.put _ (some 117) _ = _
                  simp only [Act.put, sz_, s0_, s1_, i64_w, i32_w]
                  rfl
                refine pure_ (i := 20) (N := some 12) (v := ?_) (a' := ?_) (flg_ 21 2097151) rfl rfl (any_of HT_.out (by kernel_rfl)) (fun _ _ _ h => h) (Or.inl ⟨by rfl, ?_⟩) ?_ ?_
                rotate_left
                · intro w'
                  go_simp
                  with_reducible rfl
                rotate_left
                · simp only [Act.put, sz_, s0_, s1_, i64_w, i32_w]
                  rfl
                refine done_ (done_of HT_.out (by kernel_rfl)) ?_
                go_wp2_with fail
                go_roundg (P.length - (j + 1))
                case measure => exact HJm.out
                case rel => exact ⟨j + 1, A117, c117, HJr.out, Nat.le_refl _, by rw [HOs.out, List.length_append], (by first | rfl | exact congrArg (Value.int .i64) HJs.out), ⟨by rw [HOs.out]; exact HN.out⟩, HP, HX, HB⟩
          · have HE := Aside0.mk (show O P.length = ol by rw [← hol]; exact HOK.out j hj (by omega) (by rw [hol]; omega))
            have m1 := decide_eq_false hneg
            have m2 := eq_false hneg
            have m5 := decide_eq_false hml
            have m6 := eq_false hml
            go_wp2_with fail
            go_ret
            exact ⟨_, rfl, by rw [HE.out]; exact HN.out, HB.out⟩
      · have hje : j = P.length := by omega
        subst hje
        have q1 := decide_eq_false (show ¬ (P.length : Int) < (P.length : Int) by omega)
        go_wp2_with fail
        go_ret
        exact ⟨_, rfl, HN.out, HB.out⟩
/-! ### impl_whole: function 75 -/
def impl_whole.l0 : Nat → Int → List Int → Int → Int → Option (Int)
 | 0, _, _, _, _ => none
 | k + 1, x3, x6, x7, x8 => if x8 < x7 then (if 0 ≤ x8 then (if x8 < (x6.length : Int) then (impl_whole.l0 k (Go.bits .or .i64 x3 (rd x6 x8)) x6 x7 (wrap64 (x8 + 1))) else (none)) else (none)) else (some x3)
def impl_whole.f (k : Nat) (l0 : List Int) : Option (Int) := impl_whole.l0 k 0 l0 (l0.length : Int) 0
set_option maxHeartbeats 8000000 in
set_option maxRecDepth 100000 in
theorem impl_whole.calls (k : Nat) (A0 : Option Addr) (c0 : Nat) (l0 : List Int) (r : Int) (w : World) (hr0 : Kd.C (Kd.int .i64) w A0 l0.length l0) (hc0 : l0.length ≤ c0) (h : impl_whole.f k l0 = some r) :
  Calls Try.prog 75 #[.slice A0 l0.length c0] w fun e w' => e = .returned (.int .i64 r) ∧ Drawn0 w w' := by
 have HR0 := Aside0.mk hr0
 have HC0 := Aside0.mk hc0
 clear hr0 hc0
 have H : (impl_whole.l0 k 0 l0 (l0.length : Int) 0) = some r := h
 clear h
 have H' := Aside0.mk H
 clear H
 go_enter Try.func75, Try.ntmps75
 go_wp2
 go_loopg [3, 8] k (fun kq v3 v8 w' => ∃ (x3_1 : Int) (x8_1 : Int), v3 = .int .i64 x3_1 ∧ v8 = .int .i64 x8_1 ∧ Aside0 (impl_whole.l0 kq x3_1 l0 (l0.length : Int) x8_1 = some r) ∧ Aside0 (kq ≤ k) ∧ Drawn0 w w')
 case atStart => exact ⟨(0), (0), (by first | rfl | (simp; done) | (simp [*]; done)), (by first | rfl | (simp; done) | (simp [*]; done)), H', ⟨Nat.le_refl _⟩, by repeat (first | exact Drawn0.refl _ | apply Drawn0.step)⟩
 case round =>
  clear H'
  obtain ⟨x3_1, x8_1, rfl, rfl, HA, HK1, ⟨m1, rfl⟩⟩ := hrel
  cases gk with
  | zero => exact absurd HA.out (by simp [impl_whole.l0])
  | succ k1 =>
   have H := HA.out
   clear HA
   simp only [impl_whole.l0] at H
   by_cases c2 : x8_1 < (l0.length : Int)
   ·rw [if_pos c2] at H
    have c2b0 : decide (x8_1 < (l0.length : Int)) = true := decide_eq_true c2
    clear c2
    by_cases c3 : 0 ≤ x8_1
    ·rw [if_pos c3] at H
     have c3b0 : decide (0 ≤ x8_1) = true := decide_eq_true c3
     clear c3
     by_cases c4 : x8_1 < (l0.length : Int)
     ·rw [if_pos c4] at H
      have c4b0 : decide (x8_1 < (l0.length : Int)) = true := decide_eq_true c4
      clear c4
      have H' := Aside0.mk H
      clear H
      have p568 : 0 ≤ (x8_1 : Int) := oda
      have q568 : x8_1 < (l0.length : Int) := oda
      obtain ⟨ad568, e568, hx568_0⟩ := Kd.at_int HR0.out x8_1 p568 q568
      cases e568
      replace p568 := eq_true p568
      replace q568 := eq_true q568
      go_wp2
      go_roundg k1
      case measure => have := HK1.out; omega
      case rel => exact ⟨(Go.bits .or .i64 x3_1 (rd l0 x8_1)), (wrap64 (x8_1 + 1)), (by first | rfl | (simp; done) | (simp [*]; done)), (by first | rfl | (simp; done) | (simp [*]; done)), H', ⟨by have := HK1.out; omega⟩, by repeat (first | exact Drawn0.refl _ | apply Drawn0.step)⟩
     ·rw [if_neg c4] at H
      exact absurd H (by simp)
    ·rw [if_neg c3] at H
     exact absurd H (by simp)
   ·rw [if_neg c2] at H
    have c2b0 : decide (x8_1 < (l0.length : Int)) = false := decide_eq_false c2
    clear c2
    obtain rfl := Option.some.inj H
    go_wp2
    go_ret
    exact ⟨by first | rfl | (simp; done) | (simp [*]; done), by repeat (first | exact Drawn0.refl _ | apply Drawn0.step)⟩
/-! ### impl_CellsOfFleet: function 35 -/
-- EXTERNAL: by hand
-- impl_chosen impl_Sea_cells impl_fleetCode impl_whole
def bitIn (V c : Int) : Bool := Go.bits .and .i64 (shr .i64 V c) 1 == 1


-- The set of a fleet's cells.
def orAll (l : List Int) : Int := l.foldl (fun a x => Go.bits .or .i64 a x) 0
-- Shares: how many of the fleets have a cell. (for 75)
-- orAll bitIn chosen_iff
def shareAt (done : List (List Int)) (c : Nat) : Int := ((done.filter fun fl => bitIn (orAll fl) (c : Int)).length : Int)
def sharesV (N : Nat) (done : List (List Int)) : List Int := (List.range N).map (shareAt done)
/-- The row while a fleet is added: the cells before j have it. -/
def shareRow (N : Nat) (done : List (List Int)) (fl : List Int) (j : Nat) : List Int := (List.range N).map fun c => if c < j then shareAt (done ++ [fl]) c else shareAt done c
theorem shareAt_bound (done : List (List Int)) (c : Nat) : 0 ≤ shareAt done c ∧ shareAt done c ≤ (done.length : Int) := by
  unfold shareAt
  have := List.length_filter_le (fun fl => bitIn (orAll fl) (c : Int)) done
  omega
theorem shareAt_snoc (done : List (List Int)) (fl : List Int) (c : Nat) : shareAt (done ++ [fl]) c = shareAt done c + if bitIn (orAll fl) (c : Int) = true then 1 else 0 := by
  unfold shareAt
  rw [List.filter_append, List.length_append]
  by_cases h : bitIn (orAll fl) (c : Int) = true
  · rw [if_pos h]; simp [h]
  · rw [if_neg h]; simp [h]
theorem shareRow_len (N : Nat) (done : List (List Int)) (fl : List Int) (j : Nat) : (shareRow N done fl j).length = N := by simp [shareRow]
theorem shareRow_zero (N : Nat) (done : List (List Int)) (fl : List Int) : shareRow N done fl 0 = sharesV N done := by
  unfold shareRow sharesV
  exact List.map_congr_left (fun c _ => by rw [if_neg (by omega)])
theorem shareRow_all (N : Nat) (done : List (List Int)) (fl : List Int) : shareRow N done fl N = sharesV N (done ++ [fl]) := by
  unfold shareRow sharesV
  exact List.map_congr_left (fun c h => by rw [if_pos (List.mem_range.1 h)])
theorem shareRow_rd {N : Nat} (done : List (List Int)) (fl : List Int) {j : Nat} (h : j < N) : rd (shareRow N done fl j) (j : Int) = shareAt done j := by
  rw [rd_get _ _ (by rw [shareRow_len]; exact h)]
  simp [shareRow]
theorem shareRow_set {N : Nat} (done : List (List Int)) (fl : List Int) {j : Nat} (h : j < N) : (shareRow N done fl j).set j (shareAt (done ++ [fl]) j) = shareRow N done fl (j + 1) := by
  refine List.ext_getElem (by simp [shareRow]) (fun i h1 h2 => ?_)
  rw [List.getElem_set]
  by_cases e : j = i
  · subst e
    simp [shareRow]
  · rw [if_neg e]
    simp only [shareRow, List.getElem_map, List.getElem_range]
    by_cases h3 : i < j
    · rw [if_pos h3, if_pos (by omega)]
    · rw [if_neg h3, if_neg (by omega)]
-- (impl.Sea).shares$1, by hand. (for 112)
-- impl_agrees impl_whole
-- Frame Clear EachOk shareRow agFrom orAll
theorem Frame.set {M : Nat → Prop} {W : World} {p : Addr} (v : Value) (h : M p.block) : Frame M M W (W.setCell p v) := ⟨rfl, rfl, rfl, by simp [World.setCell], fun k _ hm => Below.heap_setCell W p v k (fun e => hm (e ▸ h)), fun _ hk => .inl hk⟩
structure ShNe (w00 : World) (g3 ga gb go : Nat) : Prop where
  a3 : g3 ≠ ga
  ab : gb ≠ ga
  ao : ga ≠ go
  o3 : g3 ≠ go
  ob : gb ≠ go
  za : w00.heap.size ≤ ga
  zo : w00.heap.size ≤ go
/-- What the function that adds a fleet holds while it runs. -/
structure ShEnv (w00 : World) (g3 ga gb go co : Nat) (A3 : Option Addr) (c3 : Nat) (T : List S93) (N : Nat) (A : Option Addr) (list : List Int) (cnt : Int) (row : List Int) (W0 W : World) : Prop where
  below : Below w00.heap.size w00 W
  b3 : W.heap[g3]? = some (.cells #[.slice A3 T.length c3] 55 (0, 0))
  bb : W.heap[gb]? = some (.cells #[.slice (some ⟨go, 0, none⟩) N co] 22 (0, 0))
  ba : W.heap[ga]? = some (.cells #[.int .i64 cnt] 2 (0, 0))
  row : Kd.R (Kd.int .i64) 2 W w00.heap.size (fun k => k = go) (.slice (some ⟨go, 0, none⟩) N co) row
  cl : Clear (fun k => k = ga ∨ k = go) W A list
  fr : Frame (fun k => k = ga ∨ k = go) (fun k => k = ga ∨ k = go) W0 W
theorem ShEnv.stay {w00 : World} {g3 ga gb go co : Nat} {A3 : Option Addr} {c3 : Nat} {T : List S93} {N : Nat} {A : Option Addr} {list : List Int} {cnt : Int} {row : List Int} {W0 W W' : World} (h : ShEnv w00 g3 ga gb go co A3 c3 T N A list cnt row W0 W) (hb : Below W.heap.size W W') : ShEnv w00 g3 ga gb go co A3 c3 T N A list cnt row W0 W' :=
  ⟨below_step h.below hb, blk_below h.b3 hb, blk_below h.bb hb, blk_below h.ba hb, Kd.R_below h.row hb, h.cl.frame (Frame.below hb), h.fr.trans (Frame.below hb)⟩
theorem ShEnv.setA {w00 : World} {g3 ga gb go co : Nat} {A3 : Option Addr} {c3 : Nat} {T : List S93} {N : Nat} {A : Option Addr} {list : List Int} {cnt : Int} {row : List Int} {W0 W : World} (h : ShEnv w00 g3 ga gb go co A3 c3 T N A list cnt row W0 W) (hn : ShNe w00 g3 ga gb go) (z : Int) : ShEnv w00 g3 ga gb go co A3 c3 T N A list z row W0 (W.setCell ⟨ga, 0, none⟩ (.int .i64 z)) :=
  have hf := Frame.set (M := fun k => k = ga ∨ k = go) (W := W) (p := ⟨ga, 0, none⟩) (.int .i64 z) (.inl rfl)
  ⟨below_set h.below hn.za, blk_far (p := ⟨ga, 0, none⟩) h.b3 hn.a3 _, blk_far (p := ⟨ga, 0, none⟩) h.bb hn.ab _, blk_put h.ba 0 _ rfl, Kd.R_far (p := ⟨ga, 0, none⟩) h.row (fun k hk => by subst hk; exact fun e => hn.ao e.symm) _, h.cl.frame hf, h.fr.trans hf⟩
theorem ShEnv.setRow {w00 : World} {g3 ga gb go co : Nat} {A3 : Option Addr} {c3 : Nat} {T : List S93} {N : Nat} {A : Option Addr} {list : List Int} {cnt : Int} {row : List Int} {W0 W : World} (h : ShEnv w00 g3 ga gb go co A3 c3 T N A list cnt row W0 W) (hn : ShNe w00 g3 ga gb go) {j : Nat} {z : Int} (_hj : j < N) : ShEnv w00 g3 ga gb go co A3 c3 T N A list cnt (row.set j z) W0 (W.setCell ⟨go, j, none⟩ (.int .i64 z)) := by
  have hf := Frame.set (M := fun k => k = ga ∨ k = go) (W := W) (p := ⟨go, j, none⟩) (.int .i64 z) (.inr rfl)
  have hr := Kd.R_putn h.row (j : Int) z
  rw [Int.toNat_natCast] at hr
  exact ⟨below_set h.below hn.zo, blk_far (p := ⟨go, j, none⟩) h.b3 hn.o3 _, blk_far (p := ⟨go, j, none⟩) h.bb hn.ob _, blk_far (p := ⟨go, j, none⟩) h.ba hn.ao _, hr, h.cl.frame hf, h.fr.trans hf⟩
theorem ShEnv.rowblk {w00 : World} {g3 ga gb go co : Nat} {A3 : Option Addr} {c3 : Nat} {T : List S93} {N : Nat} {A : Option Addr} {list : List Int} {cnt : Int} {row : List Int} {W0 W : World} (h : ShEnv w00 g3 ga gb go co A3 c3 T N A list cnt row W0 W) (hp : 0 < N) : ∃ cells, W.heap[go]? = some (.cells cells 2 (0, 0)) := by
  have e := (Kd.R_reads' h.row).1
  obtain ⟨g, cap, e2, _, _, cells, hc⟩ := Kd.R_form h.row (by omega)
  injection e2 with e3
  injection e3 with e3
  injection e3 with e3
  subst e3
  exact ⟨cells, hc⟩
def impl_Sea_shares_1.T5 : Bool × List (List Nat × List Nat) := (true, [([], []), ([], []), ([0, 1], [0, 1]), ([2], [2]), ([], []), ([4], [4]), ([], []), ([5, 6], [5, 6]), ([7], [7]), ([3, 8], [3, 8]), ([0, 1, 0, 1, 2, 3, 4, 5, 6, 7, 8, 9], [0, 1]), ([10, 9, 5, 0, 1, 2, 3, 4, 5, 6, 7, 8, 9], [9, 10])])
def impl_Sea_shares_1.B5 : List Nat := [0, 0, 3, 7, 0, 16, 0, 112, 240, 511, 1023, 2047]
theorem impl_Sea_shares_1.tab5 : rtab .any (opsOf Try.f112 5) = impl_Sea_shares_1.T5 := by kernel_rfl
theorem impl_Sea_shares_1.bits5 : waitsOk impl_Sea_shares_1.T5.2 impl_Sea_shares_1.B5 = true := by kernel_rfl

set_option maxHeartbeats 8000000 in
set_option maxRecDepth 100000 in
theorem impl_Sea_shares_1.does (w00 : World) (g3 ga gb go co : Nat) (A3 : Option Addr) (c3 : Nat) (T : List S93) (N : Nat) (A : Option Addr) (list : List Int) (c : Nat) (done : List (List Int)) (W : World) (ka kw : Nat) (hne : ShNe w00 g3 ga gb go) (hT : Kd.C k93 w00 A3 T.length T) (hTc : T.length ≤ c3) (hlc : list.length ≤ c) (hN : 0 < N ∧ N ≤ 25) (hd : done.length ≤ 1000000)
    (hag : impl_agrees.f ka list T = some (agFrom list 0 T)) (hwh : impl_whole.f kw list = some (orAll list)) (hbit : ∀ j : Nat, j < N → Go.bits .and .i64 (shr .i64 (orAll list) (j : Int)) 1 = if bitIn (orAll list) (j : Int) = true then 1 else 0) (h : ShEnv w00 g3 ga gb go co A3 c3 T N A list (done.length : Int) (sharesV N done) W W) :
    Calls Try.prog 112 #[.slice A list.length c, .pointer (some ⟨g3, 0, none⟩), .pointer (some ⟨ga, 0, none⟩), .pointer (some ⟨gb, 0, none⟩)] W fun e w' => e = .returned (.tuple #[]) ∧ ShEnv w00 g3 ga gb go co A3 c3 T N A list ((if agFrom list 0 T = true then done ++ [list] else done).length : Int) (sharesV N (if agFrom list 0 T = true then done ++ [list] else done)) W w' := by
  have HNe := Aside0.mk hne
  have HT := Aside0.mk hT
  have HTc := Aside0.mk hTc
  have HLc := Aside0.mk hlc
  have HE := Aside0.mk h
  clear hne hT hTc hlc h
  cases hg0 : agFrom list 0 T with
  | false =>
    rw [hg0] at hag
    rw [if_neg (by simp)]
    have HAg := Aside0.mk hag
    clear hag hwh hbit hg0 hN hd
    have h3_ := (blk_cell HE.out.b3 0).trans rfl
    have ha_ := (blk_cell HE.out.ba 0).trans rfl
    have hb_ := (blk_cell HE.out.bb 0).trans rfl
    go_enter Try.func112, Try.ntmps112
    go_wp2_with (first | (go_at_call 87; refine (impl_agrees.calls ka A c list A3 c3 T _ _ HE.out.cl.1 HLc.out (Kd.C_below HT.out HE.out.below) HTc.out HAg.out).mono ?_; rintro e w1 ⟨rfl, hb⟩; (try clear h3_); (try clear ha_); (try clear hb_); (try clear hfa); have n_ := Aside0.mk (HE.out.stay hb); clear HE hb; have HE := n_; clear n_; have h3_ := (blk_cell HE.out.b3 0).trans rfl; have ha_ := (blk_cell HE.out.ba 0).trans rfl; have hb_ := (blk_cell HE.out.bb 0).trans rfl; have hfa := blk_frozen HE.out.ba 0))
    refine bodyPost_ret (results_none rfl _ _ _) rfl ?_
    exact ⟨rfl, HE.out⟩
  | true =>
    rw [hg0] at hag
    rw [if_pos rfl]
    have HAg := Aside0.mk hag
    obtain ⟨V, hV⟩ : ∃ V, orAll list = V := ⟨_, rfl⟩
    have HVs := Aside0.mk (fun (j : Nat) (_ : j < N) => show shareAt (done ++ [list]) j = shareAt done j + if bitIn V (j : Int) = true then 1 else 0 by rw [shareAt_snoc, hV])
    rw [hV] at hwh hbit
    have HWh := Aside0.mk hwh
    have HBit := Aside0.mk hbit
    have HNp := Aside0.mk hN.1
    have HN25 := Aside0.mk hN.2
    have HD := Aside0.mk hd
    obtain ⟨z, hz⟩ : ∃ z : Int, ((done ++ [list]).length : Int) = z := ⟨_, rfl⟩
    have hw : wrap64 ((done.length : Int) + 1) = z := by rw [← hz, List.length_append, List.length_singleton]; unfold wrap64; omega
    rw [hz]
    clear hag hwh hbit hg0 hV hN hd hz
    have h3_ := (blk_cell HE.out.b3 0).trans rfl
    have ha_ := (blk_cell HE.out.ba 0).trans rfl
    have hb_ := (blk_cell HE.out.bb 0).trans rfl
    go_enter Try.func112, Try.ntmps112
    go_wp2_with (first | (go_at_call 87; refine (impl_agrees.calls ka A c list A3 c3 T _ _ HE.out.cl.1 HLc.out (Kd.C_below HT.out HE.out.below) HTc.out HAg.out).mono ?_; rintro e w1 ⟨rfl, hb⟩; (try clear h3_); (try clear ha_); (try clear hb_); (try clear hfa); have n_ := Aside0.mk (HE.out.stay hb); clear HE hb; have HE := n_; clear n_; have h3_ := (blk_cell HE.out.b3 0).trans rfl; have ha_ := (blk_cell HE.out.ba 0).trans rfl; have hb_ := (blk_cell HE.out.bb 0).trans rfl; have hfa := blk_frozen HE.out.ba 0) | ((with_reducible refine gate_store (t := 2) (p := 2) rfl ?_); refine store_event (t := 2) (p := 2) (v := .tmp 11) (w1 := (w1.setCell ⟨ga, 0, none⟩ (.int .i64 z))) ?hg ?ho ?hn ?hr ?_; (case ho => rfl); (case hg => rfl); (case hn => rfl); (case hr => first | (go_simp; done) | (go_simp; rfl)); intro w5 hw5; (try clear h3_); (try clear ha_); (try clear hb_); (try clear hfa); have n_ := HE.out.setA HNe.out z; rw [← hw5] at n_; clear HE hw5; have HE := Aside0.mk n_; clear n_; have h3_ := (blk_cell HE.out.b3 0).trans rfl; have ha_ := (blk_cell HE.out.ba 0).trans rfl; have hb_ := (blk_cell HE.out.bb 0).trans rfl))
    clear hw
    (try clear h3_)
    (try clear ha_)
    (try clear hb_)
    (try clear hfa)
    go_loopg [14] N (fun gg s14 wr => ∃ j : Nat, j ≤ N ∧ N - j ≤ gg ∧ s14 = .int .i64 j ∧ Aside0 (ShEnv w00 g3 ga gb go co A3 c3 T N A list z (shareRow N done list j) W wr))
    case atStart => exact ⟨0, Nat.zero_le _, Nat.le_refl _, rfl, ⟨by rw [shareRow_zero]; exact HE.out⟩⟩
    case round =>
      clear HE
      obtain ⟨j, hj, hgj, rfl, HE⟩ := hrel
      by_cases hlt : j < N
      · obtain ⟨adj, eqj, hxj⟩ := Kd.at_int (Kd.R_reads' HE.out.row).2.2 (j : Int) (by omega) (by rw [shareRow_len]; omega)
        injection eqj with eqj
        subst eqj
        rw [Int.toNat_natCast, shareRow_rd _ _ hlt, add_at, Nat.zero_add] at hxj
        have hsb := shareAt_bound done j
        have HJm := Aside0.mk (show N - (j + 1) < gk by omega)
        have HJr := Aside0.mk (show j + 1 ≤ N by omega)
        have HJlt := Aside0.mk hlt
        have HJs := Aside0.mk (show wrap64 ((j : Int) + 1) = ((j + 1 : Nat) : Int) from wrap_one (a := j) (by have := HN25.out; omega))
        obtain ⟨sv, hsv⟩ : ∃ sv, shareAt done j = sv := ⟨_, rfl⟩
        have hs2 := HVs.out j hlt
        rw [hsv] at hxj hsb hs2
        have hbt := HBit.out j hlt
        obtain ⟨bt, hbt2⟩ : ∃ bt : Int, (if bitIn V (j : Int) = true then (1 : Int) else 0) = bt := ⟨_, rfl⟩
        rw [hbt2] at hbt hs2
        have hb01 : 0 ≤ bt ∧ bt ≤ 1 := by rw [← hbt2]; split <;> omega
        obtain ⟨sz, hsz⟩ : ∃ sz, shareAt (done ++ [list]) j = sz := ⟨_, rfl⟩
        have hwz : wrap64 (sv + bt) = sz := by rw [← hsz, hs2]; have := HD.out; unfold wrap64; omega
        have hbt3 : Go.bits .and .i64 (V / 2 ^ (min j 64)) 1 = bt := hbt
        have HSv := Aside0.mk (show (shareRow N done list j).set j sz = shareRow N done list (j + 1) by rw [← hsz]; exact shareRow_set done list hlt)
        have q1 := decide_eq_true (show (j : Int) < (N : Int) by omega)
        have q2 := decide_eq_true hlt
        have q3 := eq_true (show (j : Int) < (N : Int) by omega)
        have q4 := eq_true (show (0 : Int) ≤ (j : Int) by omega)
        have q5 := eq_true hlt
        have q6 := eq_false (show ¬ (j : Int) < 0 by omega)
        have q7 := decide_eq_false (show ¬ (j : Int) < 0 by omega)
        clear hsb hs2 hbt2 hb01 hsz hsv hj hgj hlt
        have h3_ := (blk_cell HE.out.b3 0).trans rfl
        have ha_ := (blk_cell HE.out.ba 0).trans rfl
        have hb_ := (blk_cell HE.out.bb 0).trans rfl
        go_wp2_with fail
        refine start_ (n := 12) (S := fun w' => w'.cell? ⟨gb, 0, none⟩ = some (.slice (some ⟨go, 0, none⟩) N co) ∧ w'.cell? ⟨go, j, none⟩ = some (.int .i64 sv)) (ds := [11]) #[false, false, false, false, false, false, false, false, false, false, false, false] (by kernel_rfl) rfl rfl ⟨(blk_cell (blk_drew HE.out.bb) 0).trans rfl, ((below_drew1 (Below.refl wr.heap.size wr)).cell (World.block_lt_of_cell? _ _ hxj)).trans hxj⟩ (fun hHeld => ?_)
        refine with_tabW impl_Sea_shares_1.tab5 impl_Sea_shares_1.bits5 (fun HT_ HW_ => ?_)
        have HEd := Aside0.mk (HE.out.stay (below_drew1 (Below.refl wr.heap.size wr)))
        have hxd := ((below_drew1 (Below.refl wr.heap.size wr)).cell (World.block_lt_of_cell? _ _ hxj)).trans hxj
        clear HE hxj h3_ ha_ hb_
        generalize hq_ : wr.drew = wd_ at HEd hxd hHeld ⊢
        clear hq_
        refine take_ (i := 0) (N := some 17) (v := ?_) (a' := ?_) (flg_ 12 1) rfl rfl (take_ofW HT_.out HW_.out (by kernel_rfl)) (fun _ _ _ h => h) (Or.inl ⟨by rfl, ?_⟩) hHeld ?_ ?_
        rotate_left
        · rintro w' ⟨s0_, s1_⟩
          go_simp
          with_reducible rfl
        rotate_left
        · simp only [Act.put, sz_, s0_, s1_, i64_w, i32_w]
          rfl
        refine pure_ (i := 1) (N := some 18) (v := ?_) (a' := ?_) (flg_ 12 3) rfl rfl (any_of HT_.out (by kernel_rfl)) (fun _ _ _ h => h) (Or.inl ⟨by rfl, ?_⟩) ?_ ?_
        rotate_left
        · intro w'
          go_simp
          with_reducible rfl
        rotate_left
        · simp only [Act.put, sz_, s0_, s1_, i64_w, i32_w]
          rfl
        refine pure_ (i := 2) (N := some 19) (v := ?_) (a' := ?_) (flg_ 12 7) rfl rfl (any_of HT_.out (by kernel_rfl)) (fun _ _ _ h => h) (Or.inl ⟨by rfl, ?_⟩) ?_ ?_
        rotate_left
        · intro w'
          go_simp
          with_reducible rfl
        rotate_left
        · simp only [Act.put, sz_, s0_, s1_, i64_w, i32_w]
          rfl
        refine take_ (i := 3) (N := some 20) (v := ?_) (a' := ?_) (flg_ 12 15) rfl rfl (take_ofW HT_.out HW_.out (by kernel_rfl)) (fun _ _ _ h => h) (Or.inl ⟨by rfl, ?_⟩) hHeld ?_ ?_
        rotate_left
        · rintro w' ⟨s0_, s1_⟩
          go_simp
          with_reducible rfl
        rotate_left
        · simp only [Act.put, sz_, s0_, s1_, i64_w, i32_w]
          rfl
        refine pure_ (i := 4) (N := some 21) (v := ?_) (a' := ?_) (flg_ 12 31) rfl rfl (any_of HT_.out (by kernel_rfl)) (fun _ _ _ h => h) (Or.inl ⟨by rfl, ?_⟩) ?_ ?_
        rotate_left
        · intro w'
          go_simp
          with_reducible rfl
        rotate_left
        · simp only [Act.put, sz_, s0_, s1_, i64_w, i32_w]
          rfl
        refine pure_ (i := 6) (N := some 23) (v := ?_) (a' := ?_) (flg_ 12 95) rfl rfl (any_of HT_.out (by kernel_rfl)) (fun _ _ _ h => h) (Or.inl ⟨by rfl, ?_⟩) ?_ ?_
        rotate_left
        · intro w'
          go_simp
          with_reducible rfl
        rotate_left
        · simp only [Act.put, sz_, s0_, s1_, i64_w, i32_w]
          rfl
        refine one_ (i := 5) (N := some 22) (flg_ 12 127) rfl rfl (one_of HT_.out (by kernel_rfl)) (by decide) (fun K hK => ?_)
        refine goes_ Try.func75 (by kernel_rfl) rfl #[.slice A list.length c] (by rfl) rfl rfl (by (try simp only [List.map_toArray, List.map_cons, List.map_nil]); first | done | rfl) ?_
        refine (impl_whole.calls kw A c list V wd_ HEd.out.cl.1 HLc.out HWh.out).mono ?_
        rintro e w6 ⟨rfl, hd⟩
        have hb := hd.below
        clear hd
        refine ⟨_, rfl, ?_⟩
        have HE := Aside0.mk (HEd.out.stay hb)
        have hx6 := (hb.cell (World.block_lt_of_cell? _ _ hxd)).trans hxd
        clear HEd hb hxd
        refine hK.out _ _ ⟨(blk_cell HE.out.bb 0).trans rfl, hx6⟩ (fun hHeld => ?_)
        clear hK K
        refine norm_ (a' := ?_) ?_ ?_
        rotate_left
        · show Act.put _ (some 22) _ = _
          simp only [Act.put, sz_, s0_, s1_, i64_w, i32_w]
          rfl
        refine pure_ (i := 7) (N := some 24) (v := ?_) (a' := ?_) (flg_ 12 255) rfl rfl (any_of HT_.out (by kernel_rfl)) (fun _ _ _ h => h) (Or.inl ⟨by rfl, ?_⟩) ?_ ?_
        rotate_left
        · intro w'
          go_simp
          with_reducible rfl
        rotate_left
        · simp only [Act.put, sz_, s0_, s1_, i64_w, i32_w]
          rfl
        refine pure_ (i := 8) (N := some 25) (v := ?_) (a' := ?_) (flg_ 12 511) rfl rfl (any_of HT_.out (by kernel_rfl)) (fun _ _ _ h => h) (Or.inl ⟨by rfl, ?_⟩) ?_ ?_
        rotate_left
        · intro w'
          go_simp
          with_reducible rfl
        rotate_left
        · simp only [Act.put, sz_, s0_, s1_, i64_w, i32_w]
          rfl
        refine pure_ (i := 9) (N := some 26) (v := ?_) (a' := ?_) (flg_ 12 1023) rfl rfl (any_of HT_.out (by kernel_rfl)) (fun _ _ _ h => h) (Or.inl ⟨by rfl, ?_⟩) ?_ ?_
        rotate_left
        · intro w'
          go_simp
          with_reducible rfl
        rotate_left
        · simp only [Act.put, sz_, s0_, s1_, i64_w, i32_w]
          rfl
        refine pure_ (i := 10) (N := some 27) (v := ?_) (a' := ?_) (flg_ 12 2047) rfl rfl (any_of HT_.out (by kernel_rfl)) (fun _ _ _ h => h) (Or.inl ⟨by rfl, ?_⟩) ?_ ?_
        rotate_left
        · intro w'
          go_simp
          with_reducible rfl
        rotate_left
        · simp only [Act.put, sz_, s0_, s1_, i64_w, i32_w]
          rfl
        refine last_ (i := 11) (N := none) (flg_ 12 4095) rfl rfl (one_of HT_.out (by kernel_rfl)) (by decide) (fun K hK => ?_)
        obtain ⟨rc_, hrb⟩ := HE.out.rowblk HNp.out
        have hfR := blk_frozen hrb j
        refine skip_ (w1 := w6.setCell ⟨go, j, none⟩ (.int .i64 sz)) (by rfl) rfl ?_ ?_
        · go_simp
          (try rw [hbt3, hwz])
          (try rfl)
        refine hK.out _ _ ?_
        clear hK K hfR hrb hx6 hHeld
        have n_ := HE.out.setRow (z := sz) HNe.out HJlt.out
        rw [HSv.out] at n_
        clear HE
        have HE := Aside0.mk n_
        clear n_
        generalize w6.setCell ⟨go, j, none⟩ (.int .i64 sz) = w7 at HE ⊢
        refine done_ (done_of HT_.out (by kernel_rfl)) ?_
        go_wp2_with fail
        go_roundg (N - (j + 1))
        case measure => exact HJm.out
        case rel => exact ⟨j + 1, HJr.out, Nat.le_refl _, (by first | rfl | exact congrArg (Value.int .i64) HJs.out), HE⟩
      · have hje : j = N := by omega
        subst hje
        have q1 := decide_eq_false (show ¬ (j : Int) < (j : Int) by omega)
        go_wp2_with fail
        go_end0
        exact ⟨rfl, by have := HE.out; rwa [shareRow_all] at this⟩
theorem fleets_in {W H : Nat} {ships : List Int} : ∀ (d : Nat) (list : List Int), InPl W H ships list → list.length + d = ships.length → ∀ fl ∈ fleetsFrom W H ships d list, InPl W H ships fl ∧ fl.length = ships.length
  | 0, list, hin, hd, fl, hfl => by
    have e : fl = list := by simpa [fleetsFrom] using hfl
    subst e
    exact ⟨hin, by omega⟩
  | d + 1, list, hin, hd, fl, hfl => by
    unfold fleetsFrom at hfl
    obtain ⟨own, ho, h2⟩ := List.mem_flatMap.1 hfl
    by_cases hg : goesV ships list own = true
    · rw [if_pos hg] at h2
      exact fleets_in d (list ++ [own]) (hin.snoc ho) (by simp; omega) fl h2
    · rw [if_neg hg] at h2
      cases h2
/-- What lies there behind i fleets. -/
structure ShI (w00 : World) (g3 ga gb go co : Nat) (A3 : Option Addr) (c3 : Nat) (T : List S93) (N : Nat) (done : List (List Int)) (W : World) : Prop where
  below : Below w00.heap.size w00 W
  b3 : W.heap[g3]? = some (.cells #[.slice A3 T.length c3] 55 (0, 0))
  bb : W.heap[gb]? = some (.cells #[.slice (some ⟨go, 0, none⟩) N co] 22 (0, 0))
  ba : W.heap[ga]? = some (.cells #[.int .i64 (done.length : Int)] 2 (0, 0))
  row : Kd.R (Kd.int .i64) 2 W w00.heap.size (fun k => k = go) (.slice (some ⟨go, 0, none⟩) N co) (sharesV N done)
/-- What a fleet that agrees adds. -/
structure FleetNum (N : Nat) (fl : List Int) : Prop where
  len : fl.length ≤ 1000
  all : ∃ V : Nat, orAll fl = (V : Int) ∧ V < 2 ^ N

-- With no bound the reference's fleets are all that agree: the value that the contracts name. (for 64)
-- goV_all fleetsOf
def goFleets (w h : Int) (l : List Int) (T : List S93) (most : Int) : List (List Int) := goV w.toNat h.toNat l T l.length [] 0 most
theorem goFleets_all {w h : Int} {l : List Int} (hs : seaV w h l = true) (T : List S93) : goFleets w h l T (-1) = (fleetsOf w h l).filter fun fl => agFrom fl 0 T := by
  obtain ⟨⟨W0, rfl, hw1, hw5⟩, ⟨H0, rfl, hh1, hh5⟩, _, _⟩ := seaV_nat hs
  unfold goFleets fleetsOf
  simp only [Int.toNat_natCast]
  exact goV_all ⟨hw1, hw5⟩ ⟨hh1, hh5⟩ l (sea_ships hs) T (-1) (by omega) l.length [] 0 (by simp) (used_zero [])
theorem goFleets_none {w h : Int} {l : List Int} (hs : seaV w h l = true) : goFleets w h l [] (-1) = fleetsOf w h l := by
  rw [goFleets_all hs]
  exact List.filter_eq_self.2 (fun _ _ => rfl)
-- What the reference's list of fleets needs of the functions that it calls. (for 64)
-- specPlacements_ev specAgrees_ev goV
theorem go_env {W0 H0 : Nat} (hW : 1 ≤ W0 ∧ W0 ≤ 5) (hH : 1 ≤ H0 ∧ H0 ≤ 5) (ships : List Int) (hs3 : ships.length ≤ 3) (hin : ∀ j : Nat, j < ships.length → inW (rd ships (j : Int)) 1 5 = true) (T : List S93) (hT : T.length ≤ 1048576) (hc : SeaCells (T.map fun x => x.f0)) :
    (∀ j : Nat, j < ships.length → ∃ kp, spec_l09Placements.f kp (W0 : Int) (H0 : Int) ships (rd ships (j : Int)) = some (placeOf W0 H0 ships j)) ∧ ∀ list : List Int, list.length = ships.length → InPl W0 H0 ships list → ∃ ka, spec_l09Agrees.f ka list T = some (agFrom list 0 T) := by
  refine ⟨fun j hj => ?_, fun list hl hi => ?_⟩
  · obtain ⟨n, hn, h1, h5⟩ := inW_five (hin j hj)
    obtain ⟨K, hK⟩ := specPlacements_ev hW hH.2 ⟨h1, h5⟩ ships
    exact ⟨K, by rw [hn]; unfold placeOf; rw [hn, Int.toNat_natCast]; exact hK K (Nat.le_refl _)⟩
  · have hN : NumFleet list := fun x hx => by
      obtain ⟨j, hj, rfl⟩ := List.mem_iff_getElem.1 hx
      obtain ⟨n, hn, h1, h5⟩ := inW_five (hin j (by omega))
      have := hi j hj
      unfold placeOf at this
      rw [hn, Int.toNat_natCast] at this
      obtain ⟨m, e, _, h⟩ := placesOf_num hW.1 hW.2 hH.2 h1 _ this
      exact ⟨m, e, h⟩
    obtain ⟨K, hK⟩ := specAgrees_ev hN (by omega) T hT hc
    exact ⟨K, hK K (Nat.le_refl _)⟩
theorem fnil_ (w : World) (ok : Nat → Prop) (A : Option Addr) : Kd.F (Kd.int .i64) w ok A 0 [] := fun _ _ => ⟨rfl, Nat.zero_le _, fun hp => absurd hp (by simp)⟩

end Go.Proofs.Ytiancdhpdjmacaa.F
