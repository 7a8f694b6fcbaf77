-- written by the session's program xp.py over the kit's print program, and by hand; texts joined by pack.py
import Derived.Test.YtiancdhpdjmacaaKFnExactFleetText4
namespace Go.Proofs.Ytiancdhpdjmacaa.F
open Go.RowKit Go.Proofs.YtiancdhpdjmacaaW.PrintWords Go.Proofs.YtiancdhpdjmacaaW.PrintLast Go.Proofs.YtiancdhpdjmacaaW.PrintMore
attribute [local go_sem] max2_int min2_int max_two min_two max_three min_three max_four min_four   -- for this text's walks alone
set_option linter.unusedVariables false
set_option linter.unusedSimpArgs false

-- Placements: the reference's list is the ascending list of all placements.
theorem asc_raise : ∀ (l : List Int) (lo lo' : Int), Asc lo l → (∀ z ∈ l, lo' ≤ z) → Asc lo' l
  | [], _, _, _, _ => trivial
  | a :: _, _, _, h, hz => ⟨hz a (List.mem_cons_self ..), h.2⟩
theorem asc_insert : ∀ (l1 l2 : List Int) (lo x : Int), Asc lo (l1 ++ l2) → (∀ z ∈ l1, z < x) → (∀ z ∈ l2, x < z) → lo ≤ x → Asc lo (l1 ++ [x] ++ l2)
  | [], l2, lo, x, h, _, h2, hx => ⟨hx, asc_raise l2 lo (x + 1) h (fun z hz => by have := h2 z hz; omega)⟩
  | a :: r, l2, lo, x, h, h1, h2, hx => ⟨h.1, asc_insert r l2 (a + 1) x h.2 (fun z hz => h1 z (List.mem_cons_of_mem _ hz)) h2 (by have := h1 a (List.mem_cons_self ..); omega)⟩
theorem asc_lt : ∀ (l : List Int) (lo : Int), Asc lo l → ∀ (i j : Nat) (hi : i < l.length) (hj : j < l.length), i < j → l[i] < l[j]
  | a :: r, lo, h, i, j + 1, hi, hj, hij => by
    cases i with
    | zero =>
      have := asc_le r (a + 1) h.2 (r[j]'(by simpa using hj)) (List.getElem_mem _)
      simp only [List.getElem_cons_zero, List.getElem_cons_succ]
      omega
    | succ i =>
      simp only [List.getElem_cons_succ]
      exact asc_lt r (a + 1) h.2 i j (by simpa using hi) (by simpa using hj) (by omega)
theorem own_val (l : List Int) (h : l.length ≤ 1000000) : spec_l01Own.f l = some l := by
  unfold spec_l01Own.f
  simp only [Option.bind_some, List.nil_append]
  rw [if_pos (by simp; omega)]
/-- The reference's insertion: one number more, still ascending. -/
def PutOf (lo : Int) (l : List Int) (x : Int) (r : List Int) : Prop := Asc lo r ∧ r.length ≤ l.length + 1 ∧ ∀ z, z ∈ r ↔ z ∈ l ∨ z = x
theorem put_mid (lo : Int) (l : List Int) (x : Int) (n : Nat) (h : Asc lo l) (hx : lo ≤ x) (hn : n ≤ l.length) (h1 : ∀ i (hi : i < l.length), i < n → l[i] < x) (h2 : ∀ i (hi : i < l.length), n ≤ i → x < l[i]) : PutOf lo l x (l.take n ++ [x] ++ l.drop n) := by
  refine ⟨asc_insert _ _ _ _ (by rw [List.take_append_drop]; exact h) (fun z hz => ?_) (fun z hz => ?_) hx, by simp; omega, fun z => ?_⟩
  · obtain ⟨i, hi, rfl⟩ := List.mem_iff_getElem.1 hz
    rw [List.getElem_take]
    rw [List.length_take] at hi
    exact h1 i (by omega) (by omega)
  · obtain ⟨i, hi, rfl⟩ := List.mem_iff_getElem.1 hz
    rw [List.getElem_drop]
    rw [List.length_drop] at hi
    exact h2 (n + i) (by omega) (by omega)
  · have := List.take_append_drop n l
    constructor
    · intro hz
      rcases List.mem_append.1 hz with hz | hz
      · rcases List.mem_append.1 hz with hz | hz
        · exact .inl (List.mem_of_mem_take hz)
        · exact .inr (List.mem_singleton.1 hz)
      · exact .inl (List.mem_of_mem_drop hz)
    · rintro (hz | rfl)
      · rw [← this] at hz
        rcases List.mem_append.1 hz with hz | hz
        · exact List.mem_append_left _ (List.mem_append_left _ hz)
        · exact List.mem_append_right _ hz
      · exact List.mem_append_left _ (List.mem_append_right _ (List.mem_singleton.2 rfl))
theorem put_l0 (lo : Int) (l : List Int) (x : Int) (h : Asc lo l) (hx : lo ≤ x) (hl : l.length ≤ 100000) : ∀ n, n ≤ l.length → (∀ i (hi : i < l.length), n ≤ i → x < l[i]) →
    ∃ r, Ev (fun k => spec_l01Put.l0 k l x (n : Int)) r ∧ PutOf lo l x r := by
  intro n
  induction n with
  | zero =>
    intro _ h2
    refine ⟨_, ?_, put_mid lo l x 0 h hx (by omega) (fun i _ hi => by omega) h2⟩
    refine Ev.step (f := fun _ => some _) (fun k => ?_) (Ev.now _)
    simp only [spec_l01Put.l0]
    rw [if_neg (by omega), if_pos (by omega), if_pos (by omega), own_val _ (by rw [List.length_take]; omega)]
    simp only [Option.bind_some]
    rw [if_pos (by simp), if_pos (by simp; omega)]
    rfl
  | succ m ih =>
    intro hm h2
    have hml : m < l.length := by omega
    have hw : wrap64 (((m + 1 : Nat) : Int) - 1) = (m : Int) := by unfold wrap64; omega
    have hrd : rd l (m : Int) = l[m] := rd_get l m hml
    by_cases hgt : l[m] > x
    · obtain ⟨r, h3, h4⟩ := ih (by omega) (fun i hi hmi => by
        by_cases e : i = m
        · subst e; exact hgt
        · exact h2 i hi (by omega))
      refine ⟨r, Ev.step (fun k => ?_) h3, h4⟩
      simp only [spec_l01Put.l0]
      rw [if_pos (by omega), hw, if_pos (by omega), if_pos (by omega), hrd, if_pos hgt]
    · by_cases he : l[m] = x
      · refine ⟨l, ?_, h, by omega, fun z => ⟨.inl, ?_⟩⟩
        · refine Ev.step (f := fun _ => some l) (fun k => ?_) (Ev.now _)
          simp only [spec_l01Put.l0]
          rw [if_pos (by omega), hw, if_pos (by omega), if_pos (by omega), hrd, if_neg hgt, if_pos he]
        · rintro (hz | rfl)
          · exact hz
          · rw [← he]; exact List.getElem_mem _
      · refine ⟨_, ?_, put_mid lo l x (m + 1) h hx (by omega) (fun i hi him => ?_) h2⟩
        · refine Ev.step (f := fun _ => some _) (fun k => ?_) (Ev.now _)
          simp only [spec_l01Put.l0]
          rw [if_pos (by omega), hw, if_pos (by omega), if_pos (by omega), hrd, if_neg hgt, if_neg he, if_pos (by omega), if_pos (by omega), Int.toNat_natCast, own_val _ (by rw [List.length_take]; omega)]
          simp only [Option.bind_some]
          rw [if_pos (by simp; omega), if_pos (by simp; omega)]
        · by_cases e : i = m
          · subst e; omega
          · have := asc_lt l lo h i m hi hml (by omega)
            omega
theorem put_ev (lo : Int) (l : List Int) (x : Int) (h : Asc lo l) (hx : lo ≤ x) (hl : l.length ≤ 100000) : ∃ r, Ev (fun k => spec_l01Put.f k l x) r ∧ PutOf lo l x r := by
  unfold spec_l01Put.f
  exact put_l0 lo l x h hx hl l.length (Nat.le_refl _) (fun i hi h1 => by omega)
/-- The reference's bits of a row and of a column. -/
theorem place_l2 {W H n y x : Nat} (hW : 1 ≤ W ∧ W ≤ 5) (hH : H ≤ 5) (hn : 1 ≤ n ∧ n ≤ 5) (hy : y < H) (hx : x < W) (xs ships : List Int) (v : List Int)
    (hfin : Ev (fun k => if (wrap64 ((x : Int) + (n : Int))) ≤ (W : Int) then ((spec_l01Put.f k xs ((rowN (W * y + x) 1 n : Nat) : Int)).bind fun t157 => (if (wrap64 ((y : Int) + (n : Int))) ≤ (H : Int) then ((spec_l01Put.f k t157 ((rowN (W * y + x) W n : Nat) : Int)).bind fun t160 => (spec_l09Placements.l1 k n t160 y (wrap64 ((x : Int) + 1)) W H ships)) else (spec_l09Placements.l1 k n t157 y (wrap64 ((x : Int) + 1)) W H ships))) else (if (wrap64 ((y : Int) + (n : Int))) ≤ (H : Int) then ((spec_l01Put.f k xs ((rowN (W * y + x) W n : Nat) : Int)).bind fun t163 => (spec_l09Placements.l1 k n t163 y (wrap64 ((x : Int) + 1)) W H ships)) else (spec_l09Placements.l1 k n xs y (wrap64 ((x : Int) + 1)) W H ships))) v) :
    ∀ d i : Nat, i + d = n → Ev (fun k => spec_l09Placements.l2 k n xs y x ((rowN (W * y + x) 1 i : Nat) : Int) ((rowN (W * y + x) W i : Nat) : Int) i W H ships) v := by
  intro d
  induction d with
  | zero =>
    intro i hi
    have e : i = n := by omega
    subst e
    refine Ev.step (fun k => ?_) hfin
    simp only [spec_l09Placements.l2]
    rw [if_neg (by omega)]
  | succ d ih =>
    intro i hi
    have hWy : W * y ≤ 5 * 4 := Nat.mul_le_mul hW.2 (by omega)
    have hiW : i * W ≤ 4 * 5 := Nat.mul_le_mul (by omega) hW.2
    obtain ⟨p, hp⟩ : ∃ p, W * y = p := ⟨_, rfl⟩
    obtain ⟨q, hq⟩ : ∃ q, i * W = q := ⟨_, rfl⟩
    have hpb : p ≤ 20 := by omega
    have hqb : q ≤ 20 := by omega
    have hxb : x ≤ 5 := by omega
    have hyb : y ≤ 5 := by omega
    have hib : i ≤ 5 := by omega
    have hin : (i : Int) < (n : Int) := by omega
    have b0 : p + x ≤ 1000 := by omega
    have b1 : p + q ≤ 1000 := by omega
    have b2 : y + i ≤ 1000 := by omega
    have b3 : p + x + i ≤ 1000 := by omega
    have b4 : p ≤ 1000 := by omega
    have b5 : x ≤ 1000 := by omega
    have b6 : i ≤ 1000 := by omega
    have b7 : y ≤ 1000 := by omega
    have u1 := u64_nat (p + x + i) (by omega)
    have u2 := u64_nat (p + x + q) (by omega)
    have s1 := shl_nat (p + x + i) (by omega)
    have s2 := shl_nat (p + x + q) (by omega)
    have b60 : ∀ a, a < 60 → 2 ^ a < 9223372036854775808 := fun a ha => Nat.lt_of_lt_of_le (Nat.pow_lt_pow_right (by omega) ha) pow60_le
    have r1 : rowN (p + x) 1 i < 9223372036854775808 := Nat.lt_of_lt_of_le (rowN_lt (p + x) 1 i 60 (fun a ha => by omega)) pow60_le
    have r2 : rowN (p + x) W i < 9223372036854775808 := Nat.lt_of_lt_of_le (rowN_lt (p + x) W i 60 (fun a ha => by
      have : a * W ≤ 4 * 5 := Nat.mul_le_mul (by omega) hW.2
      omega)) pow60_le
    have o1 : Go.bits .or .i64 ((rowN (p + x) 1 i : Nat) : Int) ((2 ^ (p + x + i) : Nat) : Int) = ((rowN (p + x) 1 (i + 1) : Nat) : Int) := by
      rw [bits_or_nat _ _ r1 (b60 _ (by omega))]
      show _ = ((rowN (p + x) 1 i ||| 2 ^ (p + x + i * 1) : Nat) : Int)
      rw [Nat.mul_one]
    have o2 : Go.bits .or .i64 ((rowN (p + x) W i : Nat) : Int) ((2 ^ (p + x + q) : Nat) : Int) = ((rowN (p + x) W (i + 1) : Nat) : Int) := by
      rw [bits_or_nat _ _ r2 (b60 _ (by omega))]
      show _ = ((rowN (p + x) W i ||| 2 ^ (p + x + i * W) : Nat) : Int)
      rw [hq]
    have ih1 := ih (i + 1) (by omega)
    rw [hp] at ih1 ⊢
    have ex : p + q + x = p + x + q := by omega
    have hyw : y * W = p := (Nat.mul_comm y W).trans hp
    have e1 : wrap64 ((y : Int) * (W : Int)) = (p : Int) := wrap_mul hyw b4
    have e2 : wrap64 (wrap64 ((p : Int) + (x : Int)) + (i : Int)) = ((p + x + i : Nat) : Int) := by rw [wrap_add b4 b5]; exact wrap_add b0 b6
    have e3 : wrap64 ((y : Int) + (i : Int)) = ((y + i : Nat) : Int) := wrap_add b7 b6
    have e4 : wrap64 (((y + i : Nat) : Int) * (W : Int)) = ((p + q : Nat) : Int) := wrap_mul (by rw [Nat.add_mul, Nat.mul_comm y W, hp, hq]) b1
    have e5 : wrap64 (((p + q : Nat) : Int) + (x : Int)) = ((p + x + q : Nat) : Int) := by rw [← ex]; exact wrap_add b1 b5
    have e6 : wrap64 ((i : Int) + 1) = ((i + 1 : Nat) : Int) := wrap_one b6
    refine Ev.step (fun k => ?_) ih1
    simp only [spec_l09Placements.l2]
    rw [if_pos hin, e1, e2, e3, e4, e5, u1, u2, if_pos (Int.natCast_nonneg _), if_pos (Int.natCast_nonneg _), s1, s2, o1, o2, e6]
/-- What has been found when all cells before a cell have been looked at. -/
def PlInv (W H n c : Nat) (xs : List Int) : Prop := Asc 0 xs ∧ xs.length ≤ 2 * c ∧ ∀ z, z ∈ xs ↔ z ∈ placeTo W H n c
theorem pl_done {W H n : Nat} {xs : List Int} (hW : 1 ≤ W ∧ W ≤ 5) (hH : H ≤ 5) (hn : 1 ≤ n) (h : PlInv W H n (W * H) xs) : xs = placesOf W H n := by
  have hp := placesOf_asc hW.1 hW.2 hH hn
  exact asc_ext _ _ 0 h.1 hp.1 (fun z => by rw [h.2.2, hp.2])
theorem place_l1 {W H n y : Nat} (hW : 1 ≤ W ∧ W ≤ 5) (hH : H ≤ 5) (hn : 1 ≤ n ∧ n ≤ 5) (hy : y < H) (ships : List Int)
    (hnext : ∀ xs, PlInv W H n (W * (y + 1)) xs → Ev (fun k => spec_l09Placements.l0 k n xs ((y + 1 : Nat) : Int) W H ships) (placesOf W H n)) :
    ∀ (d x : Nat) (xs : List Int), x + d = W → PlInv W H n (W * y + x) xs → Ev (fun k => spec_l09Placements.l1 k n xs y x W H ships) (placesOf W H n) := by
  intro d
  induction d with
  | zero =>
    intro x xs hx hI
    have e : x = W := by omega
    subst e
    have := hnext xs (by rw [Nat.mul_add, Nat.mul_one]; exact hI)
    refine Ev.step (fun k => ?_) this
    simp only [spec_l09Placements.l1]
    rw [if_neg (by omega), wrap_one (a := y) (by omega)]
  | succ d ih =>
    intro x xs hx hI
    have hxW : x < W := by omega
    have hc : W * y + x < W * H := by
      have : W * (y + 1) ≤ W * H := Nat.mul_le_mul_left W hy
      rw [Nat.mul_add, Nat.mul_one] at this
      omega
    have hcs : W * H ≤ 25 := place_small_ hW.2 hH
    have hmod : (W * y + x) % W = x := by rw [Nat.mul_add_mod, Nat.mod_eq_of_lt hxW]
    have hdiv : (W * y + x) / W = y := by rw [Nat.mul_add_div (by omega), Nat.div_eq_of_lt hxW, Nat.add_zero]
    have hat : ∀ z, z ∈ placeTo W H n (W * y + x + 1) ↔ z ∈ placeTo W H n (W * y + x) ∨ ((x + n ≤ W ∧ z = ((rowN (W * y + x) 1 n : Nat) : Int)) ∨ (y + n ≤ H ∧ z = ((rowN (W * y + x) W n : Nat) : Int))) := by
      intro z
      show z ∈ placeTo W H n (W * y + x) ++ placeAt W H n (W * y + x) ↔ _
      rw [List.mem_append]
      unfold placeAt
      rw [hmod, hdiv, List.mem_append]
      by_cases h1 : x + n ≤ W <;> by_cases h2 : y + n ≤ H <;> simp [h1, h2]
    obtain ⟨hA, hL, hM⟩ := hI
    have bx : x ≤ 1000 := by omega
    have by_ : y ≤ 1000 := by omega
    have bn : n ≤ 1000 := by omega
    have hw1 := Aside0.mk (wrap_add bx bn)
    have hw2 := Aside0.mk (wrap_add by_ bn)
    have hw3 := Aside0.mk (wrap_one bx)
    have z0 : ∀ a b m : Nat, (0 : Int) ≤ ((rowN a b m : Nat) : Int) := fun _ _ _ => Int.natCast_nonneg _
    have hnxt : ∀ ys, PlInv W H n (W * y + x + 1) ys → Ev (fun k => spec_l09Placements.l1 k n ys y (wrap64 ((x : Int) + 1)) W H ships) (placesOf W H n) := fun ys h => by
      rw [hw3.out]; exact ih (x + 1) ys (by omega) h
    refine Ev.step (fun k => ?_) (place_l2 hW hH hn hy hxW xs ships (placesOf W H n) ?_ n 0 (by omega))
    · simp only [spec_l09Placements.l1]
      rw [if_pos (by omega)]
      rfl
    · rw [hw1.out, hw2.out]
      by_cases h1 : x + n ≤ W
      · obtain ⟨r1, p1, p1a, p1l, p1m⟩ := put_ev 0 xs _ hA (z0 (W * y + x) 1 n) (by omega)
        by_cases h2 : y + n ≤ H
        · obtain ⟨r2, p2, p2a, p2l, p2m⟩ := put_ev 0 r1 _ p1a (z0 (W * y + x) W n) (by omega)
          refine Ev.congr (fun k => by rw [if_pos (by omega)]) (Ev.bind p1 (Ev.congr (fun k => by rw [if_pos (by omega)]) (Ev.bind p2 (hnxt r2 ⟨p2a, by omega, fun z => ?_⟩))))
          rw [p2m, p1m, hM, hat]; simp [h1, h2, or_assoc]
        · refine Ev.congr (fun k => by rw [if_pos (by omega)]) (Ev.bind p1 (Ev.congr (fun k => by rw [if_neg (by omega)]) (hnxt r1 ⟨p1a, by omega, fun z => ?_⟩)))
          rw [p1m, hM, hat]; simp [h1, h2]
      · by_cases h2 : y + n ≤ H
        · obtain ⟨r2, p2, p2a, p2l, p2m⟩ := put_ev 0 xs _ hA (z0 (W * y + x) W n) (by omega)
          refine Ev.congr (fun k => by rw [if_neg (by omega), if_pos (by omega)]) (Ev.bind p2 (hnxt r2 ⟨p2a, by omega, fun z => ?_⟩))
          rw [p2m, hM, hat]; simp [h1, h2]
        · refine Ev.congr (fun k => by rw [if_neg (by omega), if_neg (by omega)]) (hnxt xs ⟨hA, by omega, fun z => ?_⟩)
          rw [hM, hat]; simp [h1, h2]
theorem place_l0 {W H n : Nat} (hW : 1 ≤ W ∧ W ≤ 5) (hH : H ≤ 5) (hn : 1 ≤ n ∧ n ≤ 5) (ships : List Int) :
    ∀ (d y : Nat) (xs : List Int), y + d = H → PlInv W H n (W * y) xs → Ev (fun k => spec_l09Placements.l0 k n xs y W H ships) (placesOf W H n) := by
  intro d
  induction d with
  | zero =>
    intro y xs hy hI
    have e : y = H := by omega
    subst e
    obtain rfl := pl_done hW hH hn.1 hI
    refine Ev.step (f := fun _ => some (placesOf W y n)) (fun k => ?_) (Ev.now _)
    simp only [spec_l09Placements.l0]
    rw [if_neg (by omega)]
  | succ d ih =>
    intro y xs hy hI
    refine Ev.step (fun k => ?_) (place_l1 hW hH hn (by omega) ships (fun ys h => ih (y + 1) ys (by omega) h) W 0 xs (by omega) (by rw [Nat.add_zero]; exact hI))
    simp only [spec_l09Placements.l0]
    rw [if_pos (by omega)]
    rfl
theorem specPlacements_ev {W H n : Nat} (hW : 1 ≤ W ∧ W ≤ 5) (hH : H ≤ 5) (hn : 1 ≤ n ∧ n ≤ 5) (ships : List Int) : Ev (fun k => spec_l09Placements.f k W H ships n) (placesOf W H n) := by
  unfold spec_l09Placements.f
  exact place_l0 hW hH hn ships H 0 [] (by omega) ⟨trivial, by simp, fun z => by simp [placeTo]⟩
-- Fleets: the program's and the reference's judgement are one.
theorem and_or_zero (m a b : Nat) : m &&& (a ||| b) = 0 ↔ m &&& a = 0 ∧ m &&& b = 0 := by
  rw [Nat.and_or_distrib_left]
  exact Nat.or_eq_zero_iff
theorem pow25_le : 33554432 ≤ 9223372036854775808 := by simp
/-- A ship's place among the fleet's numbers. -/
def numAt (fl : List Int) (j : Nat) : Nat := (rd fl (j : Int)).toNat
/-- What has been used by the first ships. -/
def UsedBy (fl : List Int) (i used : Nat) : Prop := used < 33554432 ∧ (∀ j, j < i → ∃ m : Nat, rd fl (j : Int) = (m : Int) ∧ 0 < m ∧ m < 33554432) ∧ ∀ m, m &&& used = 0 ↔ ∀ j, j < i → m &&& numAt fl j = 0
theorem used_zero (fl : List Int) : UsedBy fl 0 0 := ⟨by simp, fun j h => absurd h (Nat.not_lt_zero _), fun m => ⟨fun _ j h => absurd h (Nat.not_lt_zero _), fun _ => Nat.and_zero m⟩⟩
theorem used_step {fl : List Int} {i used m : Nat} (h : UsedBy fl i used) (hm : rd fl (i : Int) = (m : Int)) (h0 : 0 < m) (h1 : m < 33554432) : UsedBy fl (i + 1) (used ||| m) := by
  obtain ⟨h2, h3, h4⟩ := h
  refine ⟨Nat.or_lt_two_pow (n := 25) h2 h1, fun j hj => ?_, fun q => ?_⟩
  · by_cases e : j = i
    · subst e; exact ⟨m, hm, h0, h1⟩
    · exact h3 j (by omega)
  · rw [and_or_zero, h4]
    constructor
    · rintro ⟨ha, hb⟩ j hj
      by_cases e : j = i
      · subst e; unfold numAt; rw [hm, Int.toNat_natCast]; exact hb
      · exact ha j (by omega)
    · intro ha
      refine ⟨fun j hj => ha j (by omega), ?_⟩
      have := ha i (by omega)
      unfold numAt at this
      rw [hm, Int.toNat_natCast] at this
      exact this
theorem rd_take {l : List Int} {i j : Nat} (h : j < i) : rd (l.take i) (j : Int) = rd l (j : Int) := by
  rw [rd_nat, rd_nat, List.getD_eq_getElem?_getD, List.getD_eq_getElem?_getD, List.getElem?_take, if_pos h]
/-- The reference's test of the next ship. -/
def nextOk (ships fl : List Int) (i : Nat) (used : Nat) : Bool := decide (numAt fl i &&& used = 0) && !(decide (0 < i) && (decide (rd ships (i : Int) = rd ships ((i : Int) - 1)) && decide (rd fl (i : Int) < rd fl ((i : Int) - 1))))
theorem next_goes {ships fl : List Int} {i used : Nat} (hu : UsedBy fl i used) (hi : i < fl.length) {m : Nat} (hm : rd fl (i : Int) = (m : Int)) (h0 : 0 < m) (h1 : m < 33554432) : goesV ships (fl.take i) (rd fl (i : Int)) = nextOk ships fl i used := by
  obtain ⟨hu0, hu1, hu2⟩ := hu
  have hnm : numAt fl i = m := by unfold numAt; rw [hm, Int.toNat_natCast]
  have hlen : (fl.take i).length = i := by rw [List.length_take]; omega
  have hany : ((fl.take i).any fun x => Go.bits .and .i64 x (m : Int) != 0) = !decide (m &&& used = 0) := by
    by_cases hz : m &&& used = 0
    · rw [decide_eq_true hz]
      simp only [Bool.not_true]
      rw [List.any_eq_false]
      intro x hx
      obtain ⟨j, hj, rfl⟩ := List.mem_iff_getElem.1 hx
      rw [hlen] at hj
      obtain ⟨mj, e1, e2, e3⟩ := hu1 j hj
      have hz2 := (hu2 m).1 hz j hj
      unfold numAt at hz2
      rw [e1, Int.toNat_natCast] at hz2
      have e4 : (fl.take i)[j]'(by rw [hlen]; exact hj) = (mj : Int) := by
        rw [← rd_get, rd_take hj, e1]
      rw [e4, bits_and_nat _ _ (Nat.lt_of_lt_of_le e3 pow25_le) (Nat.lt_of_lt_of_le h1 pow25_le), Nat.and_comm, hz2]
      simp
    · rw [decide_eq_false hz]
      simp only [Bool.not_false]
      have hz2 := mt (hu2 m).2 hz
      have : ∃ j, j < i ∧ ¬ (m &&& numAt fl j = 0) := by
        apply Classical.byContradiction
        intro hc
        exact hz2 (fun j hj => Classical.byContradiction fun h => hc ⟨j, hj, h⟩)
      obtain ⟨j, hj, hne⟩ := this
      obtain ⟨mj, e1, e2, e3⟩ := hu1 j hj
      unfold numAt at hne
      rw [e1, Int.toNat_natCast] at hne
      rw [List.any_eq_true]
      refine ⟨(mj : Int), ?_, ?_⟩
      · have e4 : (fl.take i)[j]'(by rw [hlen]; exact hj) = (mj : Int) := by
          rw [← rd_get, rd_take hj, e1]
        rw [← e4]
        exact List.getElem_mem _
      · rw [bits_and_nat _ _ (Nat.lt_of_lt_of_le e3 pow25_le) (Nat.lt_of_lt_of_le h1 pow25_le), Nat.and_comm]
        simp only [bne_iff_ne, ne_eq]
        omega
  unfold goesV nextOk goesStop
  rw [hm, hany, hlen, hnm, Bool.not_not]
  by_cases hz : m &&& used = 0
  · rw [decide_eq_true hz, Bool.and_true, Bool.true_and]
    by_cases hi0 : 0 < i
    · obtain ⟨p, rfl⟩ : ∃ p, i = p + 1 := ⟨i - 1, by omega⟩
      have ep : (((p + 1 : Nat) : Int) - 1) = (p : Int) := by omega
      rw [ep, rd_take (Nat.lt_succ_self p)]
      obtain ⟨mp, e1, e2, e3⟩ := hu1 p (Nat.lt_succ_self p)
      have hz2 := (hu2 m).1 hz p (Nat.lt_succ_self p)
      unfold numAt at hz2
      rw [e1, Int.toNat_natCast] at hz2
      have hne : m ≠ mp := by
        intro e
        rw [← e, Nat.and_self] at hz2
        omega
      rw [e1]
      have : decide ((m : Int) ≤ (mp : Int)) = decide ((m : Int) < (mp : Int)) := decide_eq_decide.2 (by omega)
      rw [this]
    · rw [decide_eq_false hi0]; rfl
  · rw [decide_eq_false hz, Bool.and_false, Bool.false_and]
/-- The judgement from a ship on. -/
def fleetFrom (W H : Nat) (ships fl : List Int) : Nat → Nat → Bool
  | _, 0 => true
  | i, d + 1 => (placesOf W H (rd ships (i : Int)).toNat).contains (rd fl (i : Int)) && goesV ships (fl.take i) (rd fl (i : Int)) && fleetFrom W H ships fl (i + 1) d
def fleetV (W H : Nat) (ships fl : List Int) : Bool := decide (fl.length = ships.length) && fleetFrom W H ships fl 0 fl.length
theorem ships_in {l : List Int} : ∀ (d i : Nat), i + d = l.length → shipsFrom l i d = true → ∀ j, i ≤ j → j < l.length → inW (rd l (j : Int)) 1 5 = true
  | 0, i, hd, _, j, h1, h2 => by omega
  | d + 1, i, hd, h, j, h1, h2 => by
    unfold shipsFrom at h
    simp only [Bool.and_eq_true] at h
    by_cases e : j = i
    · subst e; exact h.1.1
    · exact ships_in d (i + 1) (by omega) h.2 j (by omega) h2
theorem fleet_impl_l0 {W H : Nat} (hW : 1 ≤ W ∧ W ≤ 5) (hH : 1 ≤ H ∧ H ≤ 5) (ships fl : List Int) (hl : fl.length = ships.length) (h3 : ships.length ≤ 3) (hs : ∀ j : Nat, j < ships.length → inW (rd ships (j : Int)) 1 5 = true) :
    ∀ (d i : Nat), i + d = fl.length → Ev (fun k => impl_Sea_isFleet.l0 k fl fl fl.length i W H ships) (fleetFrom W H ships fl i d) := by
  intro d
  induction d with
  | zero =>
    intro i hi
    refine Ev.step (f := fun _ => some true) (fun k => ?_) (Ev.now _)
    simp only [impl_Sea_isFleet.l0]
    rw [if_neg (by omega)]
  | succ d ih =>
    intro i hi
    have hil : i < fl.length := by omega
    have hib : i ≤ 1000 := by omega
    obtain ⟨n, hn, hn1, hn5⟩ := inW_five (hs i (by omega))
    have hp : impl_Sea_placements.f (W : Int) (H : Int) ships (rd ships (i : Int)) = some (placesOf W H n) := by
      unfold impl_Sea_placements.f
      rw [hn, if_pos ⟨inW_of hW.1 hW.2, inW_of hH.1 hH.2, inW_of hn1 hn5⟩]
      simp only [Int.toNat_natCast]
    have hg : impl_Sea_goesOn.f (W : Int) (H : Int) ships (fl.take i) (rd fl (i : Int)) = some (goesV ships (fl.take i) (rd fl (i : Int))) := by
      unfold impl_Sea_goesOn.f
      rw [if_pos ⟨by rw [List.length_take]; omega, by omega⟩]
    have hc := contains_ev (placesOf W H n) (rd fl (i : Int)) (by have := placesOf_len (n := n) hW.2 hH.2; omega)
    have c1 : (i : Int) < (fl.length : Int) := by omega
    have c2 : (0 : Int) ≤ (i : Int) := by omega
    have c3 : (i : Int) < (ships.length : Int) := by omega
    have c4 : (i : Int) ≤ (fl.length : Int) := by omega
    have ih1 := ih (i + 1) (by omega)
    have hw := wrap_one hib
    have hu : fleetFrom W H ships fl i (d + 1) = ((placesOf W H n).contains (rd fl (i : Int)) && goesV ships (fl.take i) (rd fl (i : Int)) && fleetFrom W H ships fl (i + 1) d) := by
      show ((placesOf W H (rd ships (i : Int)).toNat).contains (rd fl (i : Int)) && goesV ships (fl.take i) (rd fl (i : Int)) && fleetFrom W H ships fl (i + 1) d) = _
      rw [hn, Int.toNat_natCast]
    rw [hu]
    refine Ev.step (f := fun k => (slices_Contains_int64_int64.f k (placesOf W H n) (rd fl (i : Int))).bind fun t419 => (if t419 = true then (if goesV ships (fl.take i) (rd fl (i : Int)) = true then (impl_Sea_isFleet.l0 k fl fl fl.length ((i + 1 : Nat) : Int) W H ships) else (some false)) else (some false))) (fun k => ?_) ?_
    · simp only [impl_Sea_isFleet.l0]
      rw [if_pos c1, if_pos c2, if_pos c1, if_pos c3, hp, Option.bind_some, if_pos c4, Int.toNat_natCast, hg, hw]
      simp only [Option.bind_some]
    · refine Ev.bind hc ?_
      cases (placesOf W H n).contains (rd fl (i : Int)) with
      | false => exact Ev.congr (f := fun _ => some false) (fun k => by rw [if_neg (by simp)]) (Ev.now _)
      | true =>
        cases goesV ships (fl.take i) (rd fl (i : Int)) with
        | false => exact Ev.congr (f := fun _ => some false) (fun k => by rw [if_pos rfl, if_neg (by simp)]) (Ev.now _)
        | true => exact Ev.congr (fun k => by rw [if_pos rfl, if_pos rfl]) ih1
theorem implFleet_ev {W H : Nat} (hW : 1 ≤ W ∧ W ≤ 5) (hH : 1 ≤ H ∧ H ≤ 5) (ships fl : List Int) (h3 : ships.length ≤ 3) (hs : ∀ j : Nat, j < ships.length → inW (rd ships (j : Int)) 1 5 = true) : Ev (fun k => impl_Sea_isFleet.f k W H ships fl) (fleetV W H ships fl) := by
  unfold impl_Sea_isFleet.f fleetV
  by_cases hl : fl.length = ships.length
  · rw [decide_eq_true hl, Bool.true_and]
    exact Ev.congr (fun k => by rw [if_pos (by omega)]; rfl) (fleet_impl_l0 hW hH ships fl hl h3 hs fl.length 0 (by omega))
  · rw [decide_eq_false hl]
    exact Ev.congr (f := fun _ => some false) (fun k => by rw [if_neg (by omega)]) (Ev.now _)
/-- The reference's search for the ship in the list. -/
theorem fleet_l1 {W H : Nat} (ships fl P : List Int) (hP : P.length ≤ 1000) (used i : Nat) (hi : i < fl.length) (v : Bool)
    (hyes : Ev (fun k => spec_l09Fleet.l1 k fl used i true P (P.length : Nat) W H ships) v) (hno : v = false ∨ P.contains (rd fl (i : Int)) = true) :
    ∀ (d j : Nat) (b : Bool), j + d = P.length → (b = true ∨ (P.drop j).contains (rd fl (i : Int)) = P.contains (rd fl (i : Int))) → Ev (fun k => spec_l09Fleet.l1 k fl used i b P j W H ships) v := by
  intro d
  induction d with
  | zero =>
    intro j b hj hb
    have e : j = P.length := by omega
    subst e
    cases b with
    | true => exact hyes
    | false =>
      rcases hb with hb | hb
      · cases hb
      · rw [List.drop_length] at hb
        have hv : v = false := by
          rcases hno with h | h
          · exact h
          · rw [h] at hb; cases hb
        subst hv
        refine Ev.step (f := fun _ => some false) (fun k => ?_) (Ev.now _)
        simp only [spec_l09Fleet.l1]
        rw [if_neg (by omega)]
        simp
  | succ d ih =>
    intro j b hj hb
    have hjl : j < P.length := by omega
    have c1 : (j : Int) < (P.length : Int) := by omega
    have c2 : (0 : Int) ≤ (j : Int) := by omega
    have c3 : (0 : Int) ≤ (i : Int) := by omega
    have c4 : (i : Int) < (fl.length : Int) := by omega
    have hjb : j ≤ 1000 := by omega
    have hrd : rd P (j : Int) = P[j] := rd_get P j hjl
    have ih1 := fun b => ih (j + 1) b (by omega)
    have hw := wrap_one hjb
    cases b with
    | true =>
      refine Ev.step (fun k => ?_) (ih1 true (.inl rfl))
      simp only [spec_l09Fleet.l1]
      rw [if_pos c1, if_pos trivial, hw]
    | false =>
      rcases hb with hb | hb
      · cases hb
      rw [List.drop_eq_getElem_cons hjl] at hb
      refine Ev.step (fun k => ?_) (ih1 (P[j] == rd fl (i : Int)) ?_)
      · simp only [spec_l09Fleet.l1]
        rw [if_pos c1, if_neg (by simp), if_pos c2, if_pos c3, if_pos c4, hw, hrd]
      · by_cases e : P[j] = rd fl (i : Int)
        · exact .inl (beq_iff_eq.2 e)
        · right
          rw [← hb]
          have : (rd fl (i : Int) == P[j]) = false := beq_eq_false_iff_ne.2 (fun h => e h.symm)
          simp only [List.contains_cons, this, Bool.false_or]
theorem fleet_spec_l0 {W H : Nat} (hW : 1 ≤ W ∧ W ≤ 5) (hH : 1 ≤ H ∧ H ≤ 5) (ships fl : List Int) (hl : fl.length = ships.length) (h3 : ships.length ≤ 3) (hs : ∀ j : Nat, j < ships.length → inW (rd ships (j : Int)) 1 5 = true) :
    ∀ (d i used : Nat), i + d = fl.length → UsedBy fl i used → Ev (fun k => spec_l09Fleet.l0 k fl used i W H ships) (fleetFrom W H ships fl i d) := by
  intro d
  induction d with
  | zero =>
    intro i used hi _
    refine Ev.step (f := fun _ => some true) (fun k => ?_) (Ev.now _)
    simp only [spec_l09Fleet.l0]
    rw [if_neg (by omega)]
  | succ d ih =>
    intro i used hi hu
    have hil : i < fl.length := by omega
    have hib : i ≤ 1000 := by omega
    obtain ⟨n, hn, hn1, hn5⟩ := inW_five (hs i (by omega))
    have hPe := specPlacements_ev hW hH.2 ⟨hn1, hn5⟩ ships
    have hPl : (placesOf W H n).length ≤ 1000 := by have := placesOf_len (n := n) hW.2 hH.2; omega
    have hPn := placesOf_num hW.1 hW.2 hH.2 hn1
    have hfr : fleetFrom W H ships fl i (d + 1) = ((placesOf W H n).contains (rd fl (i : Int)) && goesV ships (fl.take i) (rd fl (i : Int)) && fleetFrom W H ships fl (i + 1) d) := by
      show ((placesOf W H (rd ships (i : Int)).toNat).contains (rd fl (i : Int)) && goesV ships (fl.take i) (rd fl (i : Int)) && fleetFrom W H ships fl (i + 1) d) = _
      rw [hn, Int.toNat_natCast]
    rw [hfr]
    generalize placesOf W H n = P at hPe hPl hPn hfr ⊢
    have c1 : (i : Int) < (fl.length : Int) := by omega
    have c2 : (0 : Int) ≤ (i : Int) := by omega
    have c3 : (i : Int) < (ships.length : Int) := by omega
    have hw := Aside0.mk (wrap_one hib)
    refine Ev.step (f := fun k => (spec_l09Placements.f k W H ships (rd ships (i : Int))).bind fun t395 => (spec_l09Fleet.l1 k fl used i false t395 0 W H ships)) (fun k => ?_) ?_
    · simp only [spec_l09Fleet.l0]
      rw [if_pos c1, if_pos c2, if_pos c3]
    rw [hn]
    refine Ev.bind hPe ?_
    cases hcon : P.contains (rd fl (i : Int)) with
    | false =>
      rw [Bool.false_and, Bool.false_and]
      have key : ∀ (d j : Nat), j + d = P.length → (P.drop j).contains (rd fl (i : Int)) = false → Ev (fun k => spec_l09Fleet.l1 k fl used i false P j W H ships) false := by
        intro d
        induction d with
        | zero =>
          intro j hj _
          refine Ev.step (f := fun _ => some false) (fun k => ?_) (Ev.now _)
          simp only [spec_l09Fleet.l1]
          rw [if_neg (by omega)]
          simp
        | succ d ihd =>
          intro j hj hb
          have hjl : j < P.length := by omega
          have d1 : (j : Int) < (P.length : Int) := by omega
          have d2 : (0 : Int) ≤ (j : Int) := by omega
          have hjb : j ≤ 1000 := by omega
          have hrd : rd P (j : Int) = P[j] := rd_get P j hjl
          rw [List.drop_eq_getElem_cons hjl, List.contains_cons, Bool.or_eq_false_iff] at hb
          have ih1 := ihd (j + 1) (by omega) hb.2
          have hne : (P[j] == rd fl (i : Int)) = false := beq_eq_false_iff_ne.2 (fun h => beq_eq_false_iff_ne.1 hb.1 h.symm)
          have hw2 := wrap_one hjb
          refine Ev.step (fun k => ?_) ih1
          simp only [spec_l09Fleet.l1]
          rw [if_pos d1, if_neg (by simp), if_pos d2, if_pos c2, if_pos c1, hw2, hrd, hne]
      exact key P.length 0 (by omega) hcon
    | true =>
      rw [Bool.true_and]
      obtain ⟨m, hm, h0, h1⟩ := hPn _ (List.contains_iff_mem.1 hcon)
      have hgo := next_goes (ships := ships) hu hil hm h0 h1
      rw [hgo]
      have ih1 := ih (i + 1) (used ||| m) (by omega) (used_step hu hm h0 h1)
      have hnm : numAt fl i = m := by unfold numAt; rw [hm, Int.toNat_natCast]
      have hbu := bits_and_nat m used (Nat.lt_of_lt_of_le h1 pow25_le) (Nat.lt_of_lt_of_le hu.1 pow25_le)
      have hbo := bits_or_nat used m (Nat.lt_of_lt_of_le hu.1 pow25_le) (Nat.lt_of_lt_of_le h1 pow25_le)
      refine fleet_l1 ships fl P hPl used i hil _ ?_ (.inr hcon) P.length 0 false (by omega) (.inr (by rw [List.drop_zero]))
      have cP : ¬ ((P.length : Nat) : Int) < (P.length : Int) := by omega
      unfold nextOk
      rw [hnm]
      by_cases hz : m &&& used = 0
      · rw [decide_eq_true hz, Bool.true_and]
        by_cases hi0 : 0 < i
        · rw [decide_eq_true hi0, Bool.true_and]
          obtain ⟨p, hp⟩ : ∃ p, i = p + 1 := ⟨i - 1, by omega⟩
          have ep : ((i : Int) - 1) = (p : Int) := by omega
          have e0 : (i : Int) > 0 := by omega
          have e1 : (0 : Int) ≤ (p : Int) := by omega
          have e2 : (p : Int) < (ships.length : Int) := by omega
          have e3 : (p : Int) < (fl.length : Int) := by omega
          have hwp := wrap_num (n := p) (by omega)
          rw [ep]
          by_cases hse : rd ships (i : Int) = rd ships (p : Int)
          · rw [decide_eq_true hse, Bool.true_and]
            by_cases hlt : rd fl (i : Int) < rd fl (p : Int)
            · rw [decide_eq_true hlt]
              refine Ev.step (f := fun _ => some false) (fun k => ?_) (Ev.now _)
              simp only [spec_l09Fleet.l1]
              rw [if_neg cP, if_pos trivial, if_pos c2, if_pos c1, hm, hbu, hz, if_pos (by simp), if_pos e0, if_pos c3, ep, hwp, if_pos e1, if_pos e2, if_pos hse, if_pos e3, if_pos (by rw [← hm]; exact hlt)]
            · rw [decide_eq_false hlt, Bool.not_false, Bool.true_and]
              refine Ev.step (fun k => ?_) ih1
              simp only [spec_l09Fleet.l1]
              rw [if_neg cP, if_pos trivial, if_pos c2, if_pos c1, hm, hbu, hz, if_pos (by simp), if_pos e0, if_pos c3, ep, hwp, if_pos e1, if_pos e2, if_pos hse, if_pos e3, if_neg (by rw [← hm]; exact hlt), hbo, hw.out]
          · rw [decide_eq_false hse, Bool.false_and, Bool.not_false, Bool.true_and]
            refine Ev.step (fun k => ?_) ih1
            simp only [spec_l09Fleet.l1]
            rw [if_neg cP, if_pos trivial, if_pos c2, if_pos c1, hm, hbu, hz, if_pos (by simp), if_pos e0, if_pos c3, ep, hwp, if_pos e1, if_pos e2, if_neg hse, hbo, hw.out]
        · rw [decide_eq_false hi0, Bool.false_and, Bool.not_false, Bool.true_and]
          have e0 : ¬ (i : Int) > 0 := by omega
          refine Ev.step (fun k => ?_) ih1
          simp only [spec_l09Fleet.l1]
          rw [if_neg cP, if_pos trivial, if_pos c2, if_pos c1, hm, hbu, hz, if_pos (by simp), if_neg e0, hbo, hw.out]
      · rw [decide_eq_false hz, Bool.false_and, Bool.false_and]
        refine Ev.step (f := fun _ => some false) (fun k => ?_) (Ev.now _)
        simp only [spec_l09Fleet.l1]
        rw [if_neg cP, if_pos trivial, if_pos c2, if_pos c1, hm, hbu, if_neg (by omega)]
theorem specFleet_ev {W H : Nat} (hW : 1 ≤ W ∧ W ≤ 5) (hH : 1 ≤ H ∧ H ≤ 5) (ships fl : List Int) (h3 : ships.length ≤ 3) (hs : ∀ j : Nat, j < ships.length → inW (rd ships (j : Int)) 1 5 = true) : Ev (fun k => spec_l09Fleet.f k W H ships fl) (fleetV W H ships fl) := by
  unfold spec_l09Fleet.f fleetV
  by_cases hl : fl.length = ships.length
  · rw [decide_eq_true hl, Bool.true_and]
    exact Ev.congr (fun k => by rw [if_pos (by omega)]; rfl) (fleet_spec_l0 hW hH ships fl hl h3 hs fl.length 0 0 (by omega) (used_zero fl))
  · rw [decide_eq_false hl]
    exact Ev.congr (f := fun _ => some false) (fun k => by rw [if_neg (by omega)]) (Ev.now _)
theorem placeAt_bound {w h n c : Nat} (hw : 1 ≤ w) (hc : c < w * h) : ∀ z ∈ placeAt w h n c, ∃ m : Nat, z = (m : Int) ∧ m < 2 ^ (w * h) := by
  intro z hz
  unfold placeAt at hz
  have hdm := Nat.div_add_mod c w
  have hml := Nat.mod_lt c (show 0 < w by omega)
  have hdh : c / w < h := Nat.div_lt_of_lt_mul hc
  generalize c / w = y at *
  generalize c % w = x at *
  have hwy : w * (y + 1) ≤ w * h := Nat.mul_le_mul_left w hdh
  rw [Nat.mul_add, Nat.mul_one] at hwy
  rcases List.mem_append.1 hz with hz | hz
  · split at hz
    · rw [List.mem_singleton] at hz
      subst hz
      refine ⟨_, rfl, rowN_lt c 1 n (w * h) fun i hi => ?_⟩
      omega
    · cases hz
  · split at hz
    · rw [List.mem_singleton] at hz
      subst hz
      refine ⟨_, rfl, rowN_lt c w n (w * h) fun i hi => ?_⟩
      rename_i hyn
      have h1 : w * (y + i + 1) ≤ w * h := Nat.mul_le_mul_left w (by omega)
      rw [Nat.mul_add, Nat.mul_add, Nat.mul_one, Nat.mul_comm w i] at h1
      omega
    · cases hz
theorem placeTo_bound {w h n : Nat} (hw : 1 ≤ w) : ∀ k, k ≤ w * h → ∀ z ∈ placeTo w h n k, ∃ m : Nat, z = (m : Int) ∧ m < 2 ^ (w * h)
  | 0, _, z, hz => by cases hz
  | k + 1, hk, z, hz => by
    rcases List.mem_append.1 hz with hz | hz
    · exact placeTo_bound hw k (by omega) z hz
    · exact placeAt_bound hw (by omega) z hz
theorem placesOf_bound {w h n : Nat} (hw : 1 ≤ w) (hw5 : w ≤ 5) (hh : h ≤ 5) (hn : 1 ≤ n) : ∀ z ∈ placesOf w h n, ∃ m : Nat, z = (m : Int) ∧ m < 2 ^ (w * h) :=
  fun z hz => placeTo_bound hw _ (Nat.le_refl _) z (((placesOf_asc hw hw5 hh hn).2 z).1 hz)
-- The codes of a sea, a fleet and no cells.
theorem first_one (b : Bool) : Ev (fun k => impl_first.f k [⟨b, 2⟩]) (if b = true then 0 else 2) := by
  refine ⟨4, fun k hk => ?_⟩
  obtain ⟨k', rfl⟩ : ∃ k', k = k' + 4 := ⟨k - 4, by omega⟩
  have w1 : wrap64 1 = 1 := by unfold wrap64; omega
  have r0 : ∀ u : S70, rd_T70 [u] 0 = u := fun _ => rfl
  cases b <;> simp [impl_first.f, impl_first.l0, w1, r0]
/-- The code of a sea and a fleet. -/
def codeV (w h : Int) (l fl : List Int) : Int := if seaV w h l = true then (if fleetV w.toNat h.toNat l fl = true then 0 else 2) else 1
theorem sea_ships {w h : Int} {l : List Int} (hs : seaV w h l = true) : ∀ j : Nat, j < l.length → inW (rd l (j : Int)) 1 5 = true := by
  have hsh : shipsFrom l 0 l.length = true := by
    unfold seaV at hs
    simp only [Bool.and_eq_true] at hs
    exact hs.2
  exact fun j hj => ships_in l.length 0 (by omega) hsh j (Nat.zero_le _) hj
theorem specCode_ev (w h : Int) (l fl : List Int) (hl : l.length ≤ 1048576) : Ev (fun k => spec_l09Code.f k w h l fl) (codeV w h l fl) := by
  have e1 := l09Is_ev w h l (by omega)
  unfold spec_l09Code.f codeV
  cases hs : seaV w h l with
  | false =>
    rw [hs] at e1
    rw [if_neg (by simp)]
    exact Ev.bind e1 (Ev.congr (fun k => by rw [if_neg (by simp)]) (Ev.now _))
  | true =>
    rw [hs] at e1
    obtain ⟨⟨wn, rfl, hw1, hw5⟩, ⟨hn', rfl, hh1, hh5⟩, _, h3⟩ := seaV_nat hs
    have e2 := specFleet_ev ⟨hw1, hw5⟩ ⟨hh1, hh5⟩ l fl h3 (sea_ships hs)
    simp only [Int.toNat_natCast]
    rw [if_pos trivial]
    refine Ev.bind e1 (Ev.congr (fun k => by rw [if_pos rfl]) (Ev.bind e2 ?_))
    by_cases hfv : fleetV wn hn' l fl = true
    · simp only [hfv, if_true]; exact Ev.now _
    · simp only [hfv, if_false, Bool.false_eq_true]; exact Ev.now _
theorem implCode_ev (w h : Int) (l fl : List Int) (hl : l.length ≤ 1048576) : Ev (fun k => impl_fleetCode.f k w h l fl []) (codeV w h l fl) := by
  have e1 := implIsSea_ev w h l (by omega)
  unfold impl_fleetCode.f codeV
  cases hs : seaV w h l with
  | false =>
    rw [hs] at e1
    rw [if_neg (by simp)]
    exact Ev.bind e1 (Ev.congr (fun k => by rw [if_neg (by simp)]) (Ev.now _))
  | true =>
    rw [hs] at e1
    obtain ⟨⟨wn, rfl, hw1, hw5⟩, ⟨hn', rfl, hh1, hh5⟩, _, h3⟩ := seaV_nat hs
    have e2 := implFleet_ev ⟨hw1, hw5⟩ ⟨hh1, hh5⟩ l fl h3 (sea_ships hs)
    have hc : impl_Sea_areCells.f (wn : Int) (hn' : Int) l [] = some true := by
      unfold impl_Sea_areCells.f
      rw [if_pos (by simp), List.mergeSort_nil]; rfl
    have e3 := first_one true
    have e4 := first_one false
    simp only [Int.toNat_natCast]
    rw [if_pos trivial]
    refine Ev.bind e1 (Ev.congr (fun k => by rw [if_pos rfl]) (Ev.bind e2 ?_))
    by_cases hfv : fleetV wn hn' l fl = true
    · rw [if_pos hfv]; exact Ev.congr (fun k => by rw [if_pos hfv, hc, Option.bind_some]) (Ev.bind e3 (Ev.now _))
    · rw [if_neg hfv]; exact Ev.congr (fun k => by rw [if_neg hfv]) (Ev.bind e4 (Ev.now _))
/-- What a fleet is made of. -/
theorem fleet_mem {W H : Nat} {ships fl : List Int} : ∀ (d i : Nat), i + d = fl.length → fleetFrom W H ships fl i d = true → ∀ j, i ≤ j → j < fl.length → rd fl (j : Int) ∈ placesOf W H (rd ships (j : Int)).toNat
  | 0, i, hd, _, j, h1, h2 => by omega
  | d + 1, i, hd, h, j, h1, h2 => by
    unfold fleetFrom at h
    simp only [Bool.and_eq_true] at h
    by_cases e : j = i
    · subst e; exact List.contains_iff_mem.1 h.1.1
    · exact fleet_mem d (i + 1) (by omega) h.2 j (by omega) h2
theorem code_zero {w h : Int} {l fl : List Int} (h0 : codeV w h l fl = 0) : ∃ wn hn : Nat, w = wn ∧ h = hn ∧ 1 ≤ wn ∧ wn ≤ 5 ∧ 1 ≤ hn ∧ hn ≤ 5 ∧ l.length ≤ 3 ∧ fl.length = l.length ∧ ∀ x ∈ fl, ∃ m : Nat, x = (m : Int) ∧ m < 2 ^ (wn * hn) := by
  unfold codeV at h0
  by_cases hs : seaV w h l = true
  · rw [if_pos hs] at h0
    obtain ⟨⟨wn, rfl, hw1, hw5⟩, ⟨hn', rfl, hh1, hh5⟩, _, h3⟩ := seaV_nat hs
    simp only [Int.toNat_natCast] at h0
    by_cases hf : fleetV wn hn' l fl = true
    · unfold fleetV at hf
      simp only [Bool.and_eq_true, decide_eq_true_eq] at hf
      refine ⟨wn, hn', rfl, rfl, hw1, hw5, hh1, hh5, h3, hf.1, fun x hx => ?_⟩
      obtain ⟨j, hj, rfl⟩ := List.mem_iff_getElem.1 hx
      have hm := fleet_mem fl.length 0 (by omega) hf.2 j (Nat.zero_le _) hj
      obtain ⟨n, hn, hn1, hn5⟩ := inW_five (sea_ships hs j (by omega))
      rw [hn, Int.toNat_natCast, rd_get _ _ hj] at hm
      exact placesOf_bound hw1 hw5 hh5 hn1 _ hm
    · rw [if_neg hf] at h0; omega
  · rw [if_neg hs] at h0; omega
-- The text of a fleet: the reference's is the program's. (for 79 39)
-- cellSg rowTo rowsTo textV idxK bitIn fleetV bit_nat bits_and_nat u64_nat wrap_one pow25_le
theorem fleet_from_at {W H : Nat} {ships fl : List Int} : ∀ (d i : Nat), i + d = fl.length → fleetFrom W H ships fl i d = true → ∀ j, i ≤ j → j < fl.length → goesV ships (fl.take j) (rd fl (j : Int)) = true
  | 0, i, hd, _, j, h1, h2 => by omega
  | d + 1, i, hd, h, j, h1, h2 => by
    unfold fleetFrom at h
    simp only [Bool.and_eq_true] at h
    by_cases e : j = i
    · subst e; exact h.1.2
    · exact fleet_from_at d (i + 1) (by omega) h.2 j (by omega) h2
theorem fleet_apart {W H : Nat} {ships fl : List Int} (hv : fleetV W H ships fl = true) (hnum : ∀ x ∈ fl, ∃ m : Nat, x = (m : Int) ∧ m < 33554432) {i j c : Nat} (hij : i < j) (hj : j < fl.length) (hc : c ≤ 24) (hb : bitIn (fl[i]'(by omega)) (c : Int) = true) : bitIn fl[j] (c : Int) = false := by
  unfold fleetV at hv
  simp only [Bool.and_eq_true] at hv
  have hg := fleet_from_at fl.length 0 (by omega) hv.2 j (by omega) hj
  rw [rd_get fl j hj] at hg
  unfold goesV at hg
  simp only [Bool.and_eq_true] at hg
  have h2 := hg.2
  obtain ⟨a, ea, ha⟩ := hnum _ (List.getElem_mem (show i < fl.length by omega))
  obtain ⟨b, eb, hb2⟩ := hnum _ (List.getElem_mem hj)
  rw [ea] at hb
  rw [eb] at h2 ⊢
  have hz : Go.bits .and .i64 (a : Int) (b : Int) = 0 := by
    have h3 : ((fl.take j).any fun x => Go.bits .and .i64 x (b : Int) != 0) = false := by simpa using h2
    have h4 := List.any_eq_false.1 h3 (a : Int) (by rw [← ea]; exact List.mem_iff_getElem.2 ⟨i, by rw [List.length_take]; omega, by rw [List.getElem_take]⟩)
    simpa using h4
  rw [bits_and_nat a b (Nat.lt_of_lt_of_le ha pow25_le) (Nat.lt_of_lt_of_le hb2 pow25_le)] at hz
  have hz2 : a &&& b = 0 := by omega
  unfold bitIn at hb ⊢
  rw [bit_nat a c (Nat.lt_of_lt_of_le ha pow25_le) (by omega)] at hb
  rw [bit_nat b c (Nat.lt_of_lt_of_le hb2 pow25_le) (by omega)]
  have hta : a.testBit c = true := by
    by_cases h : a.testBit c = true
    · exact h
    · rw [if_neg h] at hb; simp at hb
  have htb : b.testBit c = false := by
    have := congrArg (fun z => Nat.testBit z c) hz2
    simp only [Nat.testBit_and, hta, Bool.true_and, Nat.zero_testBit] at this
    exact this
  rw [htb]; rfl
theorem idx_spec (p : Int → Bool) : ∀ (l : List Int) (i : Nat), (idxK p l i = -1 ∧ ∀ q (h : q < l.length), p l[q] = false) ∨ ∃ (j : Nat) (h : j < l.length), idxK p l i = ((i + j : Nat) : Int) ∧ p l[j] = true
  | [], i => .inl ⟨rfl, fun q h => absurd h (by simp)⟩
  | x :: r, i => by
    unfold idxK
    cases h : p x with
    | true => exact .inr ⟨0, by simp, by simp, by simpa using h⟩
    | false =>
      rcases idx_spec p r (i + 1) with ⟨h1, h2⟩ | ⟨j, hj, h1, h2⟩
      · refine .inl ⟨by simpa using h1, fun q hq => ?_⟩
        cases q with
        | zero => simpa using h
        | succ q => simpa using h2 q (by simpa using hq)
      · refine .inr ⟨j + 1, by simpa using hj, ?_, by simpa using h2⟩
        rw [if_neg (by simp), h1]
        congr 1
        omega
/-- A cell's sign, as the reference's loop finds it. -/
theorem text_sign {W H : Nat} {ships fl : List Int} (hv : fleetV W H ships fl = true) (hnum : ∀ x ∈ fl, ∃ m : Nat, x = (m : Int) ∧ m < 33554432) (hl : fl.length ≤ 3) {c : Nat} (hc : c ≤ 24) (T : ByteArray) (hT : T.size ≤ 1000) (a0 a1 : Int) (v : ByteArray)
    (hfin : Ev (fun k => spec_l09Text.l0 k fl (T ++ strOfNums [cellSg fl c]) ((c + 1 : Nat) : Int) a0 a1 ships) v) : Ev (fun k => spec_l09Text.l1 k fl T (c : Int) (⟨#[46]⟩ : ByteArray) 0 a0 a1 ships) v := by
  obtain ⟨ix, hix⟩ : ∃ ix, idxK (fun own => bitIn own (c : Int)) fl 0 = ix := ⟨_, rfl⟩
  have hsg : cellSg fl c = ([46, 97, 98, 99] : List Int).getD (ix + 1).toNat 46 := by unfold cellSg; rw [hix]
  have huniq : ∀ q (h : q < fl.length), bitIn fl[q] (c : Int) = decide (ix = (q : Int)) := by
    intro q hq
    rcases idx_spec (fun own => bitIn own (c : Int)) fl 0 with ⟨h1, h2⟩ | ⟨j, hj, h1, h2⟩
    · rw [h2 q hq, decide_eq_false (by rw [← hix, h1]; omega)]
    · have e : ix = (j : Int) := by rw [← hix, h1, Nat.zero_add]
      rw [e]
      by_cases hq2 : q = j
      · subst hq2
        rw [decide_eq_true rfl]
        exact h2
      · rw [decide_eq_false (by omega)]
        rcases Nat.lt_or_gt_of_ne hq2 with h | h
        · cases hb : bitIn fl[q] (c : Int) with
          | false => rfl
          | true =>
            have h3 := fleet_apart hv hnum h hj hc hb
            have h4 : bitIn fl[j] (c : Int) = true := h2
            rw [h3] at h4
            cases h4
        · exact fleet_apart hv hnum h hq hc h2
  have hixr : ix = -1 ∨ ∃ j : Nat, ix = (j : Int) ∧ j < fl.length := by
    rcases idx_spec (fun own => bitIn own (c : Int)) fl 0 with ⟨h1, _⟩ | ⟨j, hj, h1, _⟩
    · exact .inl (by rw [← hix, h1])
    · exact .inr ⟨j, by rw [← hix, h1, Nat.zero_add], hj⟩
  clear hix
  have hu := u64_nat c (by omega)
  have hw := wrap_one (a := c) (by omega)
  have key : ∀ (d i : Nat), i + d = fl.length → Ev (fun k => spec_l09Text.l1 k fl T (c : Int) (if 0 ≤ ix ∧ ix < (i : Int) then strOfNums [97 + ix] else (⟨#[46]⟩ : ByteArray)) i a0 a1 ships) v := by
    intro d
    induction d with
    | zero =>
      intro i hi
      have hs : (if 0 ≤ ix ∧ ix < (i : Int) then strOfNums [97 + ix] else (⟨#[46]⟩ : ByteArray)) = strOfNums [cellSg fl c] := by
        rw [hsg]
        rcases hixr with h | ⟨j, h, hj⟩
        · rw [if_neg (by omega), h]; rfl
        · rw [if_pos (by omega), h]
          have : j = 0 ∨ j = 1 ∨ j = 2 := by omega
          rcases this with h | h | h <;> subst h <;> rfl
      rw [hs]
      refine Ev.step (fun k => ?_) hfin
      simp only [spec_l09Text.l1]
      have hz : (strOfNums [cellSg fl c]).size = 1 := rfl
      rw [if_neg (by omega), if_pos (by rw [hz]; omega), hw]
    | succ d ih =>
      intro i hi
      have hlt : i < fl.length := by omega
      have ih1 := ih (i + 1) (by omega)
      have hw2 := wrap_one (a := i) (by omega)
      have hb := huniq i hlt
      unfold bitIn at hb
      refine Ev.step (fun k => ?_) ih1
      simp only [spec_l09Text.l1]
      rw [if_pos (show (i : Int) < (fl.length : Int) by omega), if_pos (by omega), hu, if_pos (by omega), rd_get fl i hlt, hw2]
      by_cases h : ix = (i : Int)
      · rw [decide_eq_true h] at hb
        rw [if_pos (beq_iff_eq.1 hb), if_pos (show 0 ≤ ix ∧ ix < ((i + 1 : Nat) : Int) by omega), h]
        have : i = 0 ∨ i = 1 ∨ i = 2 := by omega
        have he : (wrap64 (97 + (i : Int))) % 256 = 97 + (i : Int) := by have w97 := wrap_add (a := 97) (b := i) (by omega) (by omega); rw [show ((97 : Nat) : Int) = 97 from rfl] at w97; rw [w97]; clear w97; omega
        rw [he]
      · rw [decide_eq_false h] at hb
        rw [if_neg (beq_eq_false_iff_ne.1 hb)]
        congr 1
        by_cases h2 : 0 ≤ ix ∧ ix < (i : Int)
        · rw [if_pos h2, if_pos (by omega)]
        · rw [if_neg h2, if_neg (by omega)]
  have := key fl.length 0 (by omega)
  rwa [if_neg (by omega)] at this
def cellB (fl : List Int) (W c : Nat) : List UInt8 := (if 0 < c ∧ c % W = 0 then [47] else []) ++ [UInt8.ofNat (cellSg fl c).toNat]
def textTo (fl : List Int) (W c : Nat) : List UInt8 := (List.range c).flatMap (cellB fl W)
theorem textTo_succ (fl : List Int) (W c : Nat) : textTo fl W (c + 1) = textTo fl W c ++ cellB fl W c := by simp [textTo, List.range_succ]
theorem textTo_len (fl : List Int) (W : Nat) : ∀ c, (textTo fl W c).length ≤ 2 * c
  | 0 => by simp [textTo]
  | c + 1 => by
    have := textTo_len fl W c
    rw [textTo_succ, List.length_append]
    unfold cellB
    split <;> simp <;> omega
theorem ba_app (a b : List UInt8) : ((⟨a.toArray⟩ : ByteArray) ++ (⟨b.toArray⟩ : ByteArray)) = ⟨(a ++ b).toArray⟩ := by
  apply ByteArray.ext
  simp
theorem text_ev {W H : Nat} (hW : 1 ≤ W ∧ W ≤ 5) (hH : 1 ≤ H ∧ H ≤ 5) {ships fl : List Int} (hv : fleetV W H ships fl = true) (hnum : ∀ x ∈ fl, ∃ m : Nat, x = (m : Int) ∧ m < 33554432) (hl : fl.length ≤ 3) : Ev (fun k => spec_l09Text.f k (W : Int) (H : Int) ships fl) (⟨(textTo fl W (W * H)).toArray⟩ : ByteArray) := by
  unfold spec_l09Text.f
  obtain ⟨N, hN⟩ : ∃ N, W * H = N := ⟨_, rfl⟩
  have hN25 : N ≤ 25 := by rw [← hN]; exact Nat.mul_le_mul hW.2 hH.2
  have hwn := Aside0.mk (wrap_mul hN (by omega))
  rw [hN]
  have key : ∀ (d c : Nat), c + d = N → Ev (fun k => spec_l09Text.l0 k fl (⟨(textTo fl W c).toArray⟩ : ByteArray) c W H ships) (⟨(textTo fl W N).toArray⟩ : ByteArray) := by
    intro d
    induction d with
    | zero =>
      intro c hc
      have e : c = N := by omega
      subst e
      refine Ev.step (f := fun _ => some _) (fun k => ?_) (Ev.now _)
      simp only [spec_l09Text.l0]
      rw [hwn.out, if_neg (by omega)]
    | succ d ih =>
      intro c hc
      have ih1 := ih (c + 1) (by omega)
      have hsz := textTo_len fl W c
      have hs : strOfNums [cellSg fl c] = (⟨[UInt8.ofNat (cellSg fl c).toNat].toArray⟩ : ByteArray) := rfl
      rw [textTo_succ] at ih1
      unfold cellB at ih1
      by_cases hs1 : 0 < c ∧ c % W = 0
      · rw [if_pos hs1, ← List.append_assoc, ← ba_app, ← hs] at ih1
        have hsz2 : (⟨(textTo fl W c ++ [47]).toArray⟩ : ByteArray).size ≤ 1000 := by
          show (textTo fl W c ++ [47]).toArray.size ≤ 1000
          simp; omega
        have e2 := text_sign hv hnum hl (by omega) _ hsz2 (W : Int) (H : Int) _ ih1
        have hsz3 : (⟨(textTo fl W c).toArray⟩ : ByteArray).size = (textTo fl W c).length := rfl
        have hap : ((⟨(textTo fl W c).toArray⟩ : ByteArray) ++ (⟨#[47]⟩ : ByteArray)) = ⟨(textTo fl W c ++ [47]).toArray⟩ := ba_app _ [47]
        refine Ev.step (f := fun k => spec_l09Text.j1 k fl (⟨(textTo fl W c).toArray⟩ : ByteArray) c true W H ships) (fun k => ?_) (Ev.step (f := fun k => spec_l09Text.j2 k fl (⟨(textTo fl W c ++ [47]).toArray⟩ : ByteArray) c W H ships) (fun k => ?_) (Ev.step (fun k => ?_) e2))
        · simp only [spec_l09Text.l0]
          have ht : Int.tmod (c : Int) (W : Int) = ((c % W : Nat) : Int) := rfl
          rw [hwn.out, if_pos (by omega), if_pos (by omega), if_neg (by omega), ht, hs1.2]
          rfl
        · simp only [spec_l09Text.j1]
          rw [if_pos trivial, if_pos (by omega), hap]
        · simp only [spec_l09Text.j2]
      · rw [if_neg hs1, List.nil_append, ← ba_app, ← hs] at ih1
        have hsz2 : (⟨(textTo fl W c).toArray⟩ : ByteArray).size ≤ 1000 := by
          show (textTo fl W c).toArray.size ≤ 1000
          simp; omega
        have e2 := text_sign hv hnum hl (by omega) _ hsz2 (W : Int) (H : Int) _ ih1
        refine Ev.step (f := fun k => spec_l09Text.j1 k fl (⟨(textTo fl W c).toArray⟩ : ByteArray) c false W H ships) (fun k => ?_) (Ev.step (f := fun k => spec_l09Text.j2 k fl (⟨(textTo fl W c).toArray⟩ : ByteArray) c W H ships) (fun k => ?_) (Ev.step (fun k => ?_) e2))
        · simp only [spec_l09Text.l0]
          rw [hwn.out, if_pos (by omega)]
          by_cases h0 : (c : Int) > 0
          · have ht : Int.tmod (c : Int) (W : Int) = ((c % W : Nat) : Int) := rfl
            have hne : ¬ c % W = 0 := fun h => hs1 ⟨by omega, h⟩
            rw [if_pos h0, if_neg (by omega), ht, show (((c % W : Nat) : Int) == 0) = false from beq_eq_false_iff_ne.mpr (by omega)]
          · rw [if_neg h0]
        · simp only [spec_l09Text.j1]
          rw [if_neg (by simp)]
        · simp only [spec_l09Text.j2]
  exact key N 0 (by omega)
/-- Joined rows are the cells one by one. -/
theorem row_cells (fl : List Int) {W y : Nat} (hW : 0 < W) : ∀ x, x ≤ W → 0 < x → (List.range x).flatMap (fun i => cellB fl W (y * W + i)) = (if 0 < y then [47] else []) ++ (strOfNums (rowTo fl W y x)).data.toList := by
  intro x
  induction x with
  | zero => intro _ h; omega
  | succ x ih =>
    intro hx _
    rw [List.range_succ, List.flatMap_append, rowTo_succ]
    have hd : (strOfNums (rowTo fl W y x ++ [cellSg fl (y * W + x)])).data.toList = (strOfNums (rowTo fl W y x)).data.toList ++ [UInt8.ofNat (cellSg fl (y * W + x)).toNat] := by simp [strOfNums]
    rw [hd]
    by_cases h0 : x = 0
    · subst h0
      have he : (List.range 0).flatMap (fun i => cellB fl W (y * W + i)) = [] := rfl
      have hr : (strOfNums (rowTo fl W y 0)).data.toList = [] := rfl
      rw [he, hr, List.nil_append, List.nil_append, List.flatMap_singleton, Nat.add_zero]
      unfold cellB
      by_cases hy : 0 < y
      · rw [if_pos hy, if_pos ⟨Nat.mul_pos hy hW, Nat.mul_mod_left y W⟩]
      · have : y = 0 := by omega
        subst this
        rw [if_neg hy, if_neg (by simp)]
    · rw [ih (by omega) (by omega), List.flatMap_singleton, List.append_assoc]
      congr 1
      congr 1
      unfold cellB
      have hm : (y * W + x) % W = x := by rw [Nat.mul_comm, Nat.mul_add_mod]; exact Nat.mod_eq_of_lt (by omega)
      rw [if_neg (by rw [hm]; omega)]
      rfl
theorem join_snoc (sep : List UInt8) : ∀ (xs : List (List UInt8)) (z : List UInt8), xs ≠ [] → Lib.join (xs ++ [z]) sep = Lib.join xs sep ++ (sep ++ z)
  | [], _, h => absurd rfl h
  | [a], z, _ => by simp [Lib.join, List.intercalate, List.intersperse]
  | a :: b :: r, z, _ => by
    have ih := join_snoc sep (b :: r) z (by simp)
    have e : ∀ q : List (List UInt8), Lib.join (a :: b :: q) sep = a ++ (sep ++ Lib.join (b :: q) sep) := fun q => by simp [Lib.join, List.intercalate, List.intersperse]
    rw [List.cons_append, List.cons_append, e, e, ← List.cons_append, ih]
    simp [List.append_assoc]
theorem join_text (fl : List Int) {W : Nat} (hW : 0 < W) : ∀ y, 0 < y → Lib.join ((rowsTo fl W y).map (·.data.toList)) [47] = textTo fl W (y * W) := by
  intro y
  induction y with
  | zero => intro h; omega
  | succ y ih =>
    intro _
    have hc := row_cells fl (y := y) hW W (Nat.le_refl _) hW
    have ht : textTo fl W ((y + 1) * W) = textTo fl W (y * W) ++ (List.range W).flatMap (fun i => cellB fl W (y * W + i)) := by
      unfold textTo
      rw [Nat.succ_mul, List.range_add, List.flatMap_append, List.flatMap_map]
    rw [ht, hc, rowsTo_succ, List.map_append, List.map_cons, List.map_nil]
    by_cases h0 : y = 0
    · subst h0
      have e1 : rowsTo fl W 0 = [] := rfl
      have e2 : textTo fl W (0 * W) = [] := by rw [Nat.zero_mul]; rfl
      rw [e1, e2, if_neg (by omega)]
      simp [Lib.join, List.intercalate, List.intersperse]
    · rw [join_snoc _ _ _ (by
        intro h
        have := congrArg List.length h
        rw [List.length_map, rowsTo_len] at this
        exact h0 (by simpa using this)), ih (by omega), if_pos (by omega)]
theorem textV_eq {W H : Nat} (hW : 0 < W) (hH : 0 < H) (fl : List Int) : textV W H fl = ⟨(textTo fl W (W * H)).toArray⟩ := by
  unfold textV
  rw [join_text fl hW H hH, Nat.mul_comm]
/-- The one pure statement of laws_FnExactFleetText. -/
def laws_FnExactFleetText.Pure : Prop := ∀ (a0_0 : Int) (a0_1 : Int) (l0_2 : List Int) (l1 : List Int), (Lit.int .i64 a0_0).wf = true → (Lit.int .i64 a0_1).wf = true → (l0_2.length ≤ maxLen ∧ ∀ y11_ ∈ l0_2, (Lit.int .i64 y11_).wf = true) → (l1.length ≤ maxLen ∧ ∀ y12_ ∈ l1, (Lit.int .i64 y12_).wf = true) → ∃ k, laws_FnExactFleetText.f k a0_0 a0_1 l0_2 l1 = some true
/-- A type's readings as data are values of a kind: what an argument of that type is, whatever it holds. -/
def Rdb {α : Type} (P : Program) (t : TypeId) (d : Kd α) (wf : α → Prop) : Prop :=
  ∀ (H : Type) (enc : TypeId × Value → H) (w : World) (base : Nat) (spare : Nat → Bool) (held : Bool) (fuel : Nat) (cs : List Value) (x : DataW H × List MemPlace),
    DataW.trod enc P w base spare held fuel t cs = some x → ∃ a : α, d.K w a cs ∧ wf a
theorem Rdb.int {P : Program} {t : TypeId} {k : IntKind} (ht : P.underlying t = some (.int k)) : Rdb P t (Kd.int k) (fun n => (Lit.int k n).wf = true) := by
  intro H enc w base spare held fuel cs x h
  obtain ⟨n, rfl, _, hw⟩ := DataW.trod_int ht h
  exact ⟨n, rfl, hw⟩
theorem Rdb.bool {P : Program} {t : TypeId} (ht : P.underlying t = some .bool) : Rdb P t Kd.bool (fun _ => True) := by
  intro H enc w base spare held fuel cs x h
  obtain ⟨n, rfl, _⟩ := DataW.trod_bool ht h
  exact ⟨n, rfl, trivial⟩
theorem Rdb.string {P : Program} {t : TypeId} (ht : P.underlying t = some .string) : Rdb P t Kd.string (fun s => s.size ≤ maxLen) := by
  intro H enc w base spare held fuel cs x h
  obtain ⟨s, rfl, _, hs⟩ := DataW.trod_string ht h
  exact ⟨s, rfl, hs⟩
theorem list_choose {α β : Type} {R : Nat → α → β → Prop} : ∀ (n : Nat) (xs : List α), xs.length = n → (∀ i x, xs[i]? = some x → ∃ y, R i x y) → ∃ ys : List β, ys.length = n ∧ ∀ i x y, xs[i]? = some x → ys[i]? = some y → R i x y := by
  intro n xs
  induction xs generalizing n R with
  | nil =>
    intro hl _
    exact ⟨[], by simpa using hl, by intro i x y h; simp at h⟩
  | cons x xs ih =>
    intro hl h
    obtain ⟨y, hy⟩ := h 0 x rfl
    obtain ⟨ys, h1, h2⟩ := ih (R := fun i a b => R (i + 1) a b) (n - 1) (by simp at hl; omega) (fun i a hi => h (i + 1) a (by simpa using hi))
    refine ⟨y :: ys, by simp at hl ⊢; omega, fun i a b ha hb => ?_⟩
    cases i with
    | zero =>
      simp at ha hb
      subst ha hb
      exact hy
    | succ i => exact h2 i a b (by simpa using ha) (by simpa using hb)
theorem Rdb.slice {α : Type} {P : Program} {t e : TypeId} {d : Kd α} {wf : α → Prop} (ht : P.underlying t = some (.slice e)) (hc : P.cellsOf e = d.sz) (h1 : 0 < d.sz) (r : Rdb P e d wf) :
    Rdb P t (Kd.slice e d) (fun l => l.length ≤ maxLen ∧ ∀ x ∈ l, wf x) := by
  intro H enc w base spare held fuel cs x h
  rcases DataW.trod_slice ht h with ⟨rfl, _⟩ | ⟨a, len, cap, elems, rest, n, _, rfl, _, hb, hl, hm, hlen, hel, _, _⟩
  · exact ⟨[], ⟨none, 0, rfl, by simp, Kd.C_nil _ _⟩, by simp, by simp⟩
  · have each : ∀ i (y : DataW H × List MemPlace), elems[i]? = some y → ∃ b : α, ∃ c, w.cells? base (a.add (i * P.cellsOf e)) (P.cellsOf e) = some c ∧ d.K w b c ∧ wf b := by
      intro i y hy
      have hi : i < len := by have := (List.getElem?_eq_some_iff.1 hy).1; omega
      have h2 := hel i hi
      rw [hy, Option.bind_eq_some_iff] at h2
      obtain ⟨c, hcs, htr⟩ := h2
      obtain ⟨b, hK, hw⟩ := r H enc w base spare held n c y htr
      exact ⟨b, c, hcs, hK, hw⟩
    obtain ⟨xs, hx1, hx2⟩ := list_choose (R := fun i _ (b : α) => ∃ c, w.cells? base (a.add (i * P.cellsOf e)) (P.cellsOf e) = some c ∧ d.K w b c ∧ wf b) len elems hlen each
    have get : ∀ i b, xs[i]? = some b → ∃ c, w.cells? base (a.add (i * P.cellsOf e)) (P.cellsOf e) = some c ∧ d.K w b c ∧ wf b := by
      intro i b hb'
      have hi : i < elems.length := by have := (List.getElem?_eq_some_iff.1 hb').1; omega
      exact hx2 i _ b (List.getElem?_eq_getElem hi) hb'
    refine ⟨xs, ⟨some a, cap, by rw [hx1], by omega, ?_⟩, by omega, fun b hb' => ?_⟩
    · refine ⟨rfl, by rw [hx1]; unfold maxLen at hm; omega, fun hp => ⟨a, rfl, fun j b hj => ?_⟩⟩
      obtain ⟨c, hcs, hK, _⟩ := get j b hj
      obtain ⟨_, hcl, hcell⟩ := World.cells?_some hcs
      refine ⟨c, by rw [hcl, hc], hK, fun i u hu => ?_⟩
      have hi : i < P.cellsOf e := by have := (List.getElem?_eq_some_iff.1 hu).1; omega
      have := hcell i hi
      rw [hu] at this
      rw [Addr.add_add] at this
      rw [← hc]
      exact this
    · obtain ⟨i, hi⟩ := List.mem_iff_getElem?.1 hb'
      obtain ⟨_, _, _, hw⟩ := get i b hi
      exact hw
theorem Rdb.struct3 {α β γ : Type} {P : Program} {t : TypeId} {f0 f1 f2 : Field} {d0 : Kd α} {d1 : Kd β} {d2 : Kd γ} {w0 : α → Prop} {w1 : β → Prop} {w2 : γ → Prop} (ht : P.underlying t = some (.struct #[f0, f1, f2])) (o0 : f0.offset = 0) (o1 : f1.offset = P.cellsOf f0.type)
    (o2 : f2.offset = P.cellsOf f0.type + P.cellsOf f1.type) (cT : P.cellsOf t = P.cellsOf f0.type + P.cellsOf f1.type + P.cellsOf f2.type)
    (r0 : Rdb P f0.type d0 w0) (r1 : Rdb P f1.type d1 w1) (r2 : Rdb P f2.type d2 w2) : Rdb P t (Kd.pair d0 (Kd.pair d1 d2)) (fun x => w0 x.1 ∧ w1 x.2.1 ∧ w2 x.2.2) := by
  intro H enc w base spare held fuel cs x h
  obtain ⟨xs, n, _, _, hl, hxl, hf⟩ := DataW.trod_struct ht h
  match xs, hxl with
  | [y0, y1, y2], _ =>
    have h0 : DataW.trod enc P w base spare held n f0.type ((cs.drop f0.offset).take (P.cellsOf f0.type)) = some y0 := by simpa using hf 0 f0 rfl
    have h1 : DataW.trod enc P w base spare held n f1.type ((cs.drop f1.offset).take (P.cellsOf f1.type)) = some y1 := by simpa using hf 1 f1 rfl
    have h2 : DataW.trod enc P w base spare held n f2.type ((cs.drop f2.offset).take (P.cellsOf f2.type)) = some y2 := by simpa using hf 2 f2 rfl
    rw [o0, List.drop_zero] at h0
    rw [o1] at h1
    rw [o2, List.take_of_length_le (by rw [List.length_drop, hl, cT]; omega)] at h2
    obtain ⟨a, hK0, hw0⟩ := r0 H enc w base spare held n _ y0 h0
    obtain ⟨b, hK1, hw1⟩ := r1 H enc w base spare held n _ y1 h1
    obtain ⟨c, hK2, hw2⟩ := r2 H enc w base spare held n _ y2 h2
    refine ⟨(a, b, c), ⟨_, _, (List.take_append_drop (P.cellsOf f0.type) cs).symm, hK0, _, _, ?_, hK1, hK2⟩, hw0, hw1, hw2⟩
    rw [← List.drop_drop, List.take_append_drop]
theorem Rdb.iso {α β : Type} {P : Program} {t : TypeId} {d : Kd α} {wf : α → Prop} (r : Rdb P t d wf) (f : β → α) (g : α → β) (hfg : ∀ a, f (g a) = a) : Rdb P t (Kd.iso d f) (fun b => wf (f b)) := by
  intro H enc w base spare held fuel cs x h
  obtain ⟨a, hK, hw⟩ := r H enc w base spare held fuel cs x h
  exact ⟨g a, by show d.K w (f (g a)) cs; rw [hfg]; exact hK, by show wf (f (g a)); rw [hfg]; exact hw⟩
theorem Rdb.of {α : Type} {P : Program} {t : TypeId} {d : Kd α} {wf : α → Prop} (r : Rdb P t d wf) {H : Type} {enc : TypeId × Value → H} {w : World} {base : Nat} {spare : Nat → Bool} {held : Bool} {v : Value} {x : DataW H} {ps : List MemPlace}
    (h : DataW.Trod enc P w base spare held t v x ps) : ∃ a : α, d.K w a v.cells.toList ∧ wf a := by
  obtain ⟨fuel, hf⟩ := h
  exact r H enc w base spare held fuel _ _ hf

end Go.Proofs.Ytiancdhpdjmacaa.F
