-- written by the session's program xp.py over the kit's print program, and by hand; texts joined by pack.py
import Derived.Test.YtcjeccohlmmfoaaDoorKFnExactPlayState2
namespace Go.Proofs.YtcjeccohlmmfoaaDoor.F
open Go.RowKit Go.Proofs.YtcjeccohlmmfoaaDoorW.PrintWords Go.Proofs.YtcjeccohlmmfoaaDoorW.PrintLast Go.Proofs.YtcjeccohlmmfoaaDoorW.PrintMore
attribute [local go_sem] max2_int min2_int max_two min_two max_three min_three max_four min_four   -- for this text's walks alone
set_option linter.unusedVariables false
set_option linter.unusedSimpArgs false

-- What the program's 'reached' and the reference's 'l10Reached' compute: the least set of points that holds one point and is closed under the accepted edges.
def NetEdges (l : List (List Int)) : Prop := l.length ≤ 10 ∧ ∀ e ∈ l, ∃ a b : Nat, e = [(a : Int), (b : Int)] ∧ a < 8 ∧ b < 8
def ea (l : List (List Int)) (i : Nat) : Nat := (rd (rd_L1 l i) 0).toNat
def eb (l : List (List Int)) (i : Nat) : Nat := (rd (rd_L1 l i) 1).toNat
theorem edge_at {l : List (List Int)} (h : NetEdges l) {i : Nat} (hi : i < l.length) : rd_L1 l i = [(ea l i : Int), (eb l i : Int)] ∧ ea l i < 8 ∧ eb l i < 8 := by
  have e : rd_L1 l (i : Int) = l[i] := by
    show l.getD ((i : Int)).toNat [] = l[i]
    rw [Int.toNat_natCast, List.getD_eq_getElem?_getD, List.getElem?_eq_getElem hi]; rfl
  obtain ⟨a, b, hab, ha, hb⟩ := h.2 l[i] (List.getElem_mem hi)
  unfold ea eb
  rw [e, hab]
  have h0 : rd [(a : Int), (b : Int)] 0 = (a : Int) := rfl
  have h1 : rd [(a : Int), (b : Int)] 1 = (b : Int) := rfl
  rw [h0, h1, Int.toNat_natCast, Int.toNat_natCast]
  exact ⟨rfl, ha, hb⟩
def ClosedUnder (A : Nat → Bool) (l : List (List Int)) (m : Nat) : Prop := ∀ i, i < l.length → A i = true → m.testBit (ea l i) = m.testBit (eb l i)
def Under (A : Nat → Bool) (l : List (List Int)) (f m : Nat) : Prop := ∀ M : Nat, M.testBit f = true → ClosedUnder A l M → ∀ x, m.testBit x = true → M.testBit x = true
def LeastSet (A : Nat → Bool) (l : List (List Int)) (f c : Nat) : Prop := c < 256 ∧ c.testBit f = true ∧ ClosedUnder A l c ∧ Under A l f c
theorem LeastSet.eq {A : Nat → Bool} {l : List (List Int)} {f c d : Nat} (h : LeastSet A l f c) (k : LeastSet A l f d) : c = d := by
  apply Nat.eq_of_testBit_eq
  intro x
  rw [Bool.eq_iff_iff]
  exact ⟨h.2.2.2 d k.2.1 k.2.2.1 x, k.2.2.2 c h.2.1 h.2.2.1 x⟩
theorem LeastSet.congr {A B : Nat → Bool} {l : List (List Int)} {f c : Nat} (h : LeastSet A l f c) (e : ∀ i, i < l.length → A i = B i) : LeastSet B l f c := by
  refine ⟨h.1, h.2.1, fun i hi hb => h.2.2.1 i hi (by rw [e i hi]; exact hb), fun M h1 h2 => h.2.2.2 M h1 (fun i hi ha => h2 i hi (by rw [← e i hi]; exact ha))⟩
theorem two_lt {a : Nat} (h : a < 8) : 2 ^ a < 256 := by
  have : 2 ^ a < 2 ^ 8 := Nat.pow_lt_pow_right (by omega) h
  omega
theorem or_lt {m a : Nat} (hm : m < 256) (ha : a < 256) : m ||| a < 256 := by
  have := Nat.or_lt_two_pow (n := 8) (x := m) (y := a) (by omega) (by omega)
  omega
theorem bit_or2 (m a b x : Nat) : ((m ||| 2 ^ a) ||| 2 ^ b).testBit x = (m.testBit x || decide (a = x) || decide (b = x)) := by
  rw [Nat.testBit_or, Nat.testBit_or, Nat.testBit_two_pow, Nat.testBit_two_pow]
theorem under_or {A : Nat → Bool} {l : List (List Int)} {f m i : Nat} (h : Under A l f m) (hi : i < l.length) (hA : A i = true) (hm : m.testBit (ea l i) = true ∨ m.testBit (eb l i) = true) : Under A l f ((m ||| 2 ^ ea l i) ||| 2 ^ eb l i) := by
  intro M hM hC x hx
  rw [bit_or2] at hx
  have hc := hC i hi hA
  have hu := h M hM hC
  simp only [Bool.or_eq_true, decide_eq_true_eq] at hx
  rcases hx with (hx | rfl) | rfl
  · exact hu x hx
  · rcases hm with hm | hm
    · exact hu _ hm
    · rw [hc]; exact hu _ hm
  · rcases hm with hm | hm
    · rw [← hc]; exact hu _ hm
    · exact hu _ hm
theorem or2_le (m a b : Nat) : m ≤ (m ||| 2 ^ a) ||| 2 ^ b := Nat.le_trans Nat.left_le_or Nat.left_le_or
theorem or2_ne {m a b : Nat} (h : m.testBit a ≠ m.testBit b) : m < (m ||| 2 ^ a) ||| 2 ^ b := by
  refine Nat.lt_of_le_of_ne (or2_le m a b) fun e => h ?_
  have h1 := bit_or2 m a b a
  have h2 := bit_or2 m a b b
  rw [← e] at h1 h2
  rw [h1, h2]; simp
theorem bit_mono_or (m a b f : Nat) (h : m.testBit f = true) : ((m ||| 2 ^ a) ||| 2 ^ b).testBit f = true := by rw [bit_or2, h]; rfl
theorem stepS (p : Int) (l : List (List Int)) (s m' a b i : Nat) (more : Bool) (k : Nat) (hs : s < 4611686018427387904) (hm' : m' < 256) (ha : a < 8) (hb : b < 8) (hlt : i < l.length) (hlen : l.length ≤ 10) (he : rd_L1 l i = [(a : Int), (b : Int)]) :
    spec_l10Reached.l1 (k + 1) s m' more i p l = if s.testBit i = true then (if m'.testBit a = m'.testBit b then spec_l10Reached.l1 k s m' more ((i + 1 : Nat) : Int) p l else spec_l10Reached.l1 k s (((m' ||| 2 ^ a) ||| 2 ^ b : Nat) : Int) true ((i + 1 : Nat) : Int) p l) else spec_l10Reached.l1 k s m' more ((i + 1 : Nat) : Int) p l := by
  have t1 := two_lt ha
  have t2 := two_lt hb
  have t3 := or_lt hm' t1
  have wn : wrap64 ((i : Int) + 1) = ((i + 1 : Nat) : Int) := by unfold wrap64; omega
  have r0 : rd [(a : Int), (b : Int)] 0 = (a : Int) := rfl
  have r1 : rd [(a : Int), (b : Int)] 1 = (b : Int) := rfl
  have b0 := bit_nat s i (by omega) (by omega)
  have b1 := bit_nat m' a (by omega) (by omega)
  have b2 := bit_nat m' b (by omega) (by omega)
  have s1 := shl_nat a (by omega)
  have s2 := shl_nat b (by omega)
  have o1 := bits_or_nat m' (2 ^ a) (by omega) (by omega)
  have o2 := bits_or_nat (m' ||| 2 ^ a) (2 ^ b) (by omega) (by omega)
  have u0 := u64_nat a (by omega)
  have u1 := u64_nat b (by omega)
  have u2 := u64_nat i (by omega)
  have n0 : (0 : Int) ≤ (a : Int) := by omega
  have n1 : (0 : Int) ≤ (b : Int) := by omega
  have n2 : (0 : Int) ≤ (i : Int) := by omega
  have n3 : (i : Int) < (l.length : Int) := by omega
  have l0 : (0 : Int) < (([(a : Int), (b : Int)] : List Int).length : Int) := by simp
  have l1 : (1 : Int) < (([(a : Int), (b : Int)] : List Int).length : Int) := by simp
  generalize (2 ^ a : Nat) = pa at *
  generalize (2 ^ b : Nat) = pb at *
  simp only [spec_l10Reached.l1]
  rw [if_pos n3, if_pos n2, he, if_pos l0, r0, u0, if_pos n0, if_pos l1]
  rw [r1, u1, if_pos n1, u2, if_pos n2]
  rw [b0, b1, b2, s1, s2, o1, o2, wn]
  cases s.testBit i <;> cases m'.testBit a <;> cases m'.testBit b <;> simp
theorem reachS_out (p : Int) (l : List (List Int)) (hl : NetEdges l) (s f : Nat) (hs : s < 4611686018427387904) : ∀ (n m : Nat), 256 - m ≤ n → m.testBit f = true → Under (fun i => s.testBit i) l f m → m < 256 →
    ∃ c : Nat, Ev (fun k => spec_l10Reached.l0 k s m true p l) (c : Int) ∧ LeastSet (fun i => s.testBit i) l f c := by
  intro n
  induction n with
  | zero => intro m h _ _ h2; omega
  | succ n ih =>
    intro m hn hf hu hm
    have pass : ∀ (d i : Nat), i + d = l.length → ∀ (m' : Nat) (more : Bool), m'.testBit f = true → Under (fun i => s.testBit i) l f m' → m' < 256 → (more = false → m' = m ∧ ∀ j, j < i → s.testBit j = true → m.testBit (ea l j) = m.testBit (eb l j)) → (more = true → m < m') →
        ∃ c : Nat, Ev (fun k => spec_l10Reached.l1 k s m' more i p l) (c : Int) ∧ LeastSet (fun i => s.testBit i) l f c := by
      intro d
      induction d with
      | zero =>
        intro i hi m' more hf' hu' hm' h0 h1
        have st : ∀ k, spec_l10Reached.l1 (k + 1) s m' more i p l = spec_l10Reached.l0 k s m' more p l := fun k => by
          simp only [spec_l10Reached.l1]; rw [if_neg (by omega)]
        cases more with
        | false =>
          obtain ⟨rfl, hc⟩ := h0 rfl
          refine ⟨m', Ev.step st (Ev.step (f := fun _ => some _) (fun k => ?_) (Ev.now _)), hm', hf', fun j hj ha => hc j (by omega) ha, hu'⟩
          simp only [spec_l10Reached.l0]; rw [if_neg (by simp)]
        | true =>
          have hlt := h1 rfl
          obtain ⟨c, hc, hL⟩ := ih m' (by omega) hf' hu' hm'
          exact ⟨c, Ev.step st hc, hL⟩
      | succ d ihd =>
        intro i hi m' more hf' hu' hm' h0 h1
        have hlt : i < l.length := by omega
        obtain ⟨he, ha, hb⟩ := edge_at hl hlt
        have step := fun k => stepS p l s m' (ea l i) (eb l i) i more k hs hm' ha hb hlt hl.1 he
        by_cases hA : s.testBit i = true
        · by_cases hq : m'.testBit (ea l i) = m'.testBit (eb l i)
          · obtain ⟨c, hc, hL⟩ := ihd (i + 1) (by omega) m' more hf' hu' hm' (fun hm0 => ⟨(h0 hm0).1, fun j hj hsj => by
              by_cases hji : j < i
              · exact (h0 hm0).2 j hji hsj
              · obtain rfl : j = i := by omega
                rw [← (h0 hm0).1]; exact hq⟩) h1
            exact ⟨c, Ev.step (fun k => by rw [step k, if_pos hA, if_pos hq]) hc, hL⟩
          · have hor : m'.testBit (ea l i) = true ∨ m'.testBit (eb l i) = true := by
              cases h3 : m'.testBit (ea l i) <;> cases h4 : m'.testBit (eb l i) <;> simp_all
            have hne := or2_ne hq
            have hle : m ≤ m' := by
              cases more with
              | false => rw [(h0 rfl).1]; exact Nat.le_refl _
              | true => exact Nat.le_of_lt (h1 rfl)
            obtain ⟨c, hc, hL⟩ := ihd (i + 1) (by omega) _ true (bit_mono_or m' (ea l i) (eb l i) f hf') (under_or hu' hlt hA hor) (or_lt (or_lt hm' (two_lt ha)) (two_lt hb)) (fun h => by simp at h) (fun _ => by omega)
            exact ⟨c, Ev.step (fun k => by rw [step k, if_pos hA, if_neg hq]) hc, hL⟩
        · obtain ⟨c, hc, hL⟩ := ihd (i + 1) (by omega) m' more hf' hu' hm' (fun hm0 => ⟨(h0 hm0).1, fun j hj hsj => by
              by_cases hji : j < i
              · exact (h0 hm0).2 j hji hsj
              · obtain rfl : j = i := by omega
                exact absurd hsj hA⟩) h1
          exact ⟨c, Ev.step (fun k => by rw [step k, if_neg hA]) hc, hL⟩
    obtain ⟨c, hc, hL⟩ := pass l.length 0 (by omega) m false hf hu hm (fun _ => ⟨rfl, fun j hj => by omega⟩) (fun h => by simp at h)
    refine ⟨c, Ev.step (fun k => ?_) hc, hL⟩
    simp only [spec_l10Reached.l0]; rw [if_pos trivial]; rfl
-- The program's 'reached' computes the least closed set.
theorem and_own (m a b : Nat) : m &&& (2 ^ a ||| 2 ^ b) = 0 ↔ (m.testBit a = false ∧ m.testBit b = false) := by
  constructor
  · intro h
    have h1 : (m &&& (2 ^ a ||| 2 ^ b)).testBit a = false := by rw [h]; simp
    have h2 : (m &&& (2 ^ a ||| 2 ^ b)).testBit b = false := by rw [h]; simp
    rw [Nat.testBit_and, Nat.testBit_or, Nat.testBit_two_pow, Nat.testBit_two_pow] at h1 h2
    constructor
    · simpa using h1
    · simpa using h2
  · rintro ⟨h1, h2⟩
    apply Nat.eq_of_testBit_eq
    intro x
    rw [Nat.testBit_and, Nat.testBit_or, Nat.testBit_two_pow, Nat.testBit_two_pow, Nat.zero_testBit]
    by_cases ha : a = x
    · subst ha; simp [h1]
    · by_cases hb : b = x
      · subst hb; simp [h2]
      · simp [ha, hb]
theorem stepI (acc : Int → Bool) (l : List (List Int)) (m m' a b i k : Nat) (hm' : m' < 256) (ha : a < 8) (hb : b < 8) (hlt : i < l.length) (he : rd_L1 l i = [(a : Int), (b : Int)]) :
    impl_Net_reached.l1 (k + 1) acc l m m' i = if acc (i : Int) = true then (if m'.testBit a = false ∧ m'.testBit b = false then impl_Net_reached.l1 k acc l m m' (i + 1) else impl_Net_reached.l1 k acc l m (((m' ||| 2 ^ a) ||| 2 ^ b : Nat) : Int) (i + 1)) else impl_Net_reached.l1 k acc l m m' (i + 1) := by
  have hao := and_own m' a b
  have t1 := two_lt ha
  have t2 := two_lt hb
  have t3 := or_lt t1 t2
  have r0 : rd [(a : Int), (b : Int)] 0 = (a : Int) := rfl
  have r1 : rd [(a : Int), (b : Int)] 1 = (b : Int) := rfl
  have s1 := shl_nat a (by omega)
  have s2 := shl_nat b (by omega)
  have asc := Nat.or_assoc m' (2 ^ a) (2 ^ b)
  generalize (2 ^ a : Nat) = pa at *
  generalize (2 ^ b : Nat) = pb at *
  have o1 := bits_or_nat pa pb (by omega) (by omega)
  have o2 := bits_or_nat m' (pa ||| pb) (by omega) (by omega)
  have o3 := bits_and_nat m' (pa ||| pb) (by omega) (by omega)
  rw [asc]
  simp only [impl_Net_reached.l1]
  unfold netOwn
  rw [if_pos hlt, he, r0, r1, s1, s2, o1, o2, o3]
  have e : (((m' &&& (pa ||| pb) : Nat) : Int) = 0) = (m'.testBit a = false ∧ m'.testBit b = false) := by
    rw [← hao]; exact propext (by omega)
  simp only [e]
theorem reachI_out (acc : Int → Bool) (l : List (List Int)) (hl : NetEdges l) (f : Nat) : ∀ (n m : Nat), 256 - m ≤ n → m.testBit f = true → Under (fun i => acc (i : Int)) l f m → m < 256 →
    ∃ c : Nat, Ev (fun k => impl_Net_reached.l1 k acc l m m 0) (c : Int) ∧ LeastSet (fun i => acc (i : Int)) l f c := by
  intro n
  induction n with
  | zero => intro m h _ _ h2; omega
  | succ n ih =>
    intro m hn hf hu hm
    have pass : ∀ (d i : Nat), i + d = l.length → ∀ (m' : Nat), m'.testBit f = true → Under (fun i => acc (i : Int)) l f m' → m' < 256 → m ≤ m' → (m' = m → ∀ j : Nat, j < i → acc (j : Int) = true → m.testBit (ea l j) = m.testBit (eb l j)) →
        ∃ c : Nat, Ev (fun k => impl_Net_reached.l1 k acc l m m' i) (c : Int) ∧ LeastSet (fun i => acc (i : Int)) l f c := by
      intro d
      induction d with
      | zero =>
        intro i hi m' hf' hu' hm' hle h0
        have st : ∀ k, impl_Net_reached.l1 (k + 1) acc l m m' i = impl_Net_reached.l0 k acc l m m' := fun k => by
          simp only [impl_Net_reached.l1]; rw [if_neg (by omega)]
        by_cases e : m' = m
        · have hc := h0 e
          subst e
          refine ⟨m', Ev.step st (Ev.step (f := fun _ => some _) (fun k => ?_) (Ev.now _)), hm', hf', fun j hj ha => hc j (by omega) ha, hu'⟩
          simp only [impl_Net_reached.l0]; rw [if_pos trivial]
        · obtain ⟨c, hc, hL⟩ := ih m' (by omega) hf' hu' hm'
          refine ⟨c, Ev.step st (Ev.step (fun k => ?_) hc), hL⟩
          simp only [impl_Net_reached.l0]; rw [if_neg (by omega)]
      | succ d ihd =>
        intro i hi m' hf' hu' hm' hle h0
        have hlt : i < l.length := by omega
        obtain ⟨he, ha, hb⟩ := edge_at hl hlt
        have step := fun k => stepI acc l m m' (ea l i) (eb l i) i k hm' ha hb hlt he
        by_cases hA : acc (i : Int) = true
        · by_cases hq : m'.testBit (ea l i) = false ∧ m'.testBit (eb l i) = false
          · obtain ⟨c, hc, hL⟩ := ihd (i + 1) (by omega) m' hf' hu' hm' hle (fun hm0 j hj hsj => by
              by_cases hji : j < i
              · exact h0 hm0 j hji hsj
              · obtain rfl : j = i := by omega
                rw [← hm0, hq.1, hq.2])
            exact ⟨c, Ev.step (fun k => by rw [step k, if_pos hA, if_pos hq]) hc, hL⟩
          · have hor : m'.testBit (ea l i) = true ∨ m'.testBit (eb l i) = true := by
              cases h3 : m'.testBit (ea l i) <;> cases h4 : m'.testBit (eb l i) <;> simp_all
            have hge := or2_le m' (ea l i) (eb l i)
            obtain ⟨c, hc, hL⟩ := ihd (i + 1) (by omega) ((m' ||| 2 ^ ea l i) ||| 2 ^ eb l i) (bit_mono_or m' (ea l i) (eb l i) f hf') (under_or hu' hlt hA hor) (or_lt (or_lt hm' (two_lt ha)) (two_lt hb)) (by omega) (fun hm0 j hj hsj => by
              have e : m' = m := by omega
              by_cases hji : j < i
              · exact h0 e j hji hsj
              · obtain rfl : j = i := by omega
                have h1 := bit_or2 m' (ea l j) (eb l j) (ea l j)
                have h2 := bit_or2 m' (ea l j) (eb l j) (eb l j)
                rw [hm0] at h1 h2
                rw [h1, h2]; simp)
            exact ⟨c, Ev.step (fun k => by rw [step k, if_pos hA, if_neg hq]) hc, hL⟩
        · obtain ⟨c, hc, hL⟩ := ihd (i + 1) (by omega) m' hf' hu' hm' hle (fun hm0 j hj hsj => by
              by_cases hji : j < i
              · exact h0 hm0 j hji hsj
              · obtain rfl : j = i := by omega
                exact absurd hsj hA)
          exact ⟨c, Ev.step (fun k => by rw [step k, if_neg hA]) hc, hL⟩
    obtain ⟨c, hc, hL⟩ := pass l.length 0 (by omega) m hf hu hm (Nat.le_refl _) (fun _ j hj => by omega)
    exact ⟨c, hc, hL⟩
theorem under_one (A : Nat → Bool) (l : List (List Int)) (f : Nat) : Under A l f (2 ^ f) := by
  intro M hM _ x hx
  rw [Nat.testBit_two_pow] at hx
  simp only [decide_eq_true_eq] at hx
  rw [← hx]; exact hM
theorem reachI_ev (acc : Int → Bool) (l : List (List Int)) (hl : NetEdges l) (f : Nat) (hf : f < 8) :
    ∃ c : Nat, Ev (fun k => impl_Net_reached.l0 k acc l 0 (shl .i64 1 (f : Int))) (c : Int) ∧ LeastSet (fun i => acc (i : Int)) l f c := by
  rw [shl_nat f (by omega)]
  have h2 := two_lt hf
  have hp : 0 < 2 ^ f := Nat.two_pow_pos f
  obtain ⟨c, hc, hL⟩ := reachI_out acc l hl f 256 (2 ^ f) (by omega) (by simp) (under_one _ l f) h2
  refine ⟨c, Ev.step (fun k => ?_) hc, hL⟩
  generalize (2 ^ f : Nat) = pf at *
  simp only [impl_Net_reached.l0]; rw [if_neg (by omega)]
theorem reachS_ev (p : Int) (l : List (List Int)) (hl : NetEdges l) (s f : Nat) (hs : s < 4611686018427387904) (hf : f < 8) :
    ∃ c : Nat, Ev (fun k => spec_l10Reached.f k p l s f) (c : Int) ∧ LeastSet (fun i => s.testBit i) l f c := by
  have h2 := two_lt hf
  obtain ⟨c, hc, hL⟩ := reachS_out p l hl s f hs 256 (2 ^ f) (Nat.sub_le _ _) (by simp) (under_one _ l f) h2
  refine ⟨c, Ev.congr (fun k => ?_) hc, hL⟩
  unfold spec_l10Reached.f
  rw [u64_nat f (by omega), if_pos (by omega), shl_nat f (by omega)]
-- needs: 61 (who wins a state, in plain words)
/-- A set that holds a point and is closed under the accepted edges. -/
def goodSet (A : Nat → Bool) (l : List (List Int)) (f M : Nat) : Bool := M.testBit f && (List.range l.length).all fun i => !A i || (M.testBit (ea l i) == M.testBit (eb l i))
theorem goodSet_iff (A : Nat → Bool) (l : List (List Int)) (f M : Nat) : goodSet A l f M = true ↔ (M.testBit f = true ∧ ClosedUnder A l M) := by
  unfold goodSet ClosedUnder
  rw [Bool.and_eq_true, List.all_eq_true]
  refine and_congr_right fun _ => ⟨fun h i hi hA => ?_, fun h i hi => ?_⟩
  · have := h i (List.mem_range.2 hi)
    rw [hA] at this
    simpa using this
  · cases hA : A i
    · rfl
    · simpa using h i (List.mem_range.1 hi) hA
/-- The least closed set: what all closed sets share. -/
def reachN (A : Nat → Bool) (l : List (List Int)) (f : Nat) : Nat := (List.range 256).foldl (fun acc M => if goodSet A l f M = true then acc &&& M else acc) 255
theorem fold_and_bit (g : Nat → Bool) (x : Nat) : ∀ (L : List Nat) (acc : Nat), (L.foldl (fun acc M => if g M = true then acc &&& M else acc) acc).testBit x = (acc.testBit x && L.all fun M => !g M || M.testBit x)
  | [], acc => by simp
  | M :: L, acc => by
    rw [List.foldl_cons, fold_and_bit g x L, List.all_cons]
    by_cases h : g M = true
    · rw [if_pos h, Nat.testBit_and, h]; simp [Bool.and_assoc]
    · rw [if_neg h, Bool.eq_false_iff.2 h]; simp
theorem reachN_eq {A : Nat → Bool} {l : List (List Int)} {f c : Nat} (h : LeastSet A l f c) : reachN A l f = c := by
  obtain ⟨h1, h2, h3, h4⟩ := h
  apply Nat.eq_of_testBit_eq
  intro x
  unfold reachN
  rw [fold_and_bit]
  cases hx : c.testBit x with
  | true =>
    have hx8 : x < 8 := by
      rcases Nat.lt_or_ge x 8 with h | h
      · exact h
      · have : c < 2 ^ x := Nat.lt_of_lt_of_le h1 (Nat.pow_le_pow_right (by omega) h : 2 ^ 8 ≤ 2 ^ x)
        rw [Nat.testBit_lt_two_pow this] at hx
        cases hx
    have e : (255 : Nat).testBit x = true := by
      have : x = 0 ∨ x = 1 ∨ x = 2 ∨ x = 3 ∨ x = 4 ∨ x = 5 ∨ x = 6 ∨ x = 7 := by omega
      rcases this with rfl | rfl | rfl | rfl | rfl | rfl | rfl | rfl <;> decide
    rw [e, Bool.true_and, List.all_eq_true]
    intro M hM
    cases hg : goodSet A l f M with
    | false => rfl
    | true =>
      obtain ⟨g1, g2⟩ := (goodSet_iff A l f M).1 hg
      simp [h4 M g1 g2 x hx]
  | false =>
    rw [Bool.and_eq_false_iff]
    right
    rw [List.all_eq_false]
    refine ⟨c, List.mem_range.2 h1, ?_⟩
    rw [(goodSet_iff A l f c).2 ⟨h2, h3⟩, hx]; simp
theorem reachN_is {l : List (List Int)} (hl : NetEdges l) (A : Nat → Bool) (f : Nat) (hf : f < 8) : LeastSet A l f (reachN A l f) := by
  have h : ∃ c, LeastSet A l f c := by
    obtain ⟨c, _, hc⟩ := reachI_ev (fun x => A x.toNat) l hl f hf
    exact ⟨c, hc.congr (fun i _ => by simp)⟩
  obtain ⟨c, hc⟩ := h
  rw [reachN_eq hc]; exact hc
theorem reachN_of {l : List (List Int)} (hl : NetEdges l) {A : Nat → Bool} {f c : Nat} (hf : f < 8) (h : LeastSet A l f c) : c = reachN A l f := h.eq (reachN_is hl A f hf)
theorem reachI_N (acc : Int → Bool) (l : List (List Int)) (hl : NetEdges l) (f : Nat) (hf : f < 8) :
    Ev (fun k => impl_Net_reached.l0 k acc l 0 (shl .i64 1 (f : Int))) (reachN (fun i => acc (i : Int)) l f : Int) := by
  obtain ⟨c, hc, hL⟩ := reachI_ev acc l hl f hf
  rw [← reachN_of hl hf hL]
  exact hc
/-- Who has won a state: 1 short, 2 cut, 0 none. -/
def ovV (l : List (List Int)) (s : ByteArray) : Int :=
  if (reachN (fun i => bt s (i : Int) == 115) l 0).testBit 1 = true then 1 else if (reachN (fun i => bt s (i : Int) != 99) l 0).testBit 1 = true then 0 else 2
def signV (b : Bool) : ByteArray := if b then ⟨#[115]⟩ else ⟨#[99]⟩
def afterV (s : ByteArray) (k : Int) (b : Bool) : ByteArray := s.extract 0 k.toNat ++ signV b ++ s.extract (k + 1).toNat s.size
def freeV (s : ByteArray) : List Int := chosenTo (fun k => bt s k == 46) s.size
def ownV (b : Bool) : Int := if b then 1 else 2
def netWinN (l : List (List Int)) : Nat → ByteArray → Bool → Int
  | 0, _, _ => 0
  | n + 1, s, b => if ovV l s = 0 then (if (freeV s).any (fun k => netWinN l n (afterV s k b) (!b) == ownV b) = true then ownV b else 3 - ownV b) else ovV l s
theorem mem_chosenTo {p : Int → Bool} : ∀ {n : Nat} {x : Int}, x ∈ chosenTo p n ↔ (0 ≤ x ∧ x < (n : Int) ∧ p x = true)
  | 0, x => by simp [chosenTo]; omega
  | n + 1, x => by
    have ih := mem_chosenTo (p := p) (n := n) (x := x)
    show x ∈ (if p n then chosenTo p n ++ [(n : Int)] else chosenTo p n) ↔ _
    by_cases h : p n = true
    · rw [if_pos h, List.mem_append, ih, List.mem_singleton]
      constructor
      · rintro (⟨h0, h1, h2⟩ | rfl)
        · exact ⟨h0, by omega, h2⟩
        · exact ⟨by omega, by omega, h⟩
      · rintro ⟨h0, h1, h2⟩
        by_cases e : x = n
        · exact .inr e
        · exact .inl ⟨h0, by omega, h2⟩
    · rw [if_neg h, ih]
      constructor
      · rintro ⟨h0, h1, h2⟩; exact ⟨h0, by omega, h2⟩
      · rintro ⟨h0, h1, h2⟩
        refine ⟨h0, ?_, h2⟩
        by_cases e : x = n
        · subst e; exact absurd h2 h
        · omega
theorem bt_get (s : ByteArray) (i : Nat) (h : i < s.size) : bt s (i : Int) = ((s[i]'h).toNat : Int) := by
  unfold bt
  rw [dif_pos (by simpa using h)]
  simp
theorem signV_size (b : Bool) : (signV b).size = 1 := by cases b <;> rfl
theorem afterV_size (s : ByteArray) (k : Nat) (b : Bool) (h : k < s.size) : (afterV s k b).size = s.size := by
  unfold afterV
  rw [ByteArray.size_append, ByteArray.size_append, ByteArray.size_extract, ByteArray.size_extract, signV_size]
  omega
theorem bt_data (s : ByteArray) (i : Nat) (h : i < s.size) : bt s (i : Int) = ((s.data.toList[i]'(by simpa using h)).toNat : Int) := by
  rw [bt_get s i h]; rfl
theorem afterV_list (s : ByteArray) (k : Nat) (b : Bool) : (afterV s k b).data.toList = s.data.toList.take k ++ (signV b).data.toList ++ s.data.toList.drop (k + 1) := by
  unfold afterV
  have e : ((k : Int) + 1).toNat = k + 1 := by omega
  rw [e, Int.toNat_natCast]
  simp [ByteArray.data_append, ByteArray.data_extract, Array.toList_extract, List.extract]
  rw [List.take_of_length_le (by simp)]
theorem afterV_bt (s : ByteArray) (k : Nat) (b : Bool) (h : k < s.size) (i : Nat) (hi : i < s.size) : bt (afterV s k b) (i : Int) = if i = k then (if b then 115 else 99) else bt s (i : Int) := by
  have hs := afterV_size s k b h
  have hl := afterV_list s k b
  have hsz : s.data.toList.length = s.size := by simp
  rw [bt_data _ i (by omega), bt_data s i hi]
  have hg : (signV b).data.toList = [if b then 115 else 99] := by cases b <;> rfl
  rw [hg] at hl
  have hget : (afterV s k b).data.toList[i]'(by have : (afterV s k b).data.toList.length = (afterV s k b).size := by simp
                                                omega) = (s.data.toList.take k ++ [if b then 115 else 99] ++ s.data.toList.drop (k + 1))[i]'(by rw [← hl]; have : (afterV s k b).data.toList.length = (afterV s k b).size := by simp
                                                                                                                                                omega) := by
    congr 1
  rw [hget]
  by_cases e : i = k
  · subst e
    rw [if_pos rfl, List.getElem_append_left (by simp; omega), List.getElem_append_right (by simp; omega)]
    cases b <;> simp
  · rw [if_neg e]
    rcases Nat.lt_or_ge i k with hlt | hge
    · rw [List.getElem_append_left (by simp; omega), List.getElem_append_left (by simp; omega), List.getElem_take]
    · rw [List.getElem_append_right (by simp; omega), List.getElem_drop]
      have e2 : k + 1 + (i - (s.data.toList.take k ++ [if b = true then 115 else 99]).length) = i := by
        rw [List.length_append, List.length_take, List.length_singleton, hsz]; omega
      simp only [e2]
theorem chosenTo_congr {p q : Int → Bool} : ∀ {n : Nat}, (∀ i : Nat, i < n → p i = q i) → chosenTo p n = chosenTo q n
  | 0, _ => rfl
  | n + 1, h => by
    show (if p n then chosenTo p n ++ [(n : Int)] else chosenTo p n) = (if q n then chosenTo q n ++ [(n : Int)] else chosenTo q n)
    rw [chosenTo_congr (fun i hi => h i (by omega)), h n (by omega)]
theorem chosenTo_less {p q : Int → Bool} (k : Nat) (hpk : p k = true) (hqk : q k = false) : ∀ {n : Nat}, (∀ i : Nat, i < n → i ≠ k → q i = p i) → k < n → (chosenTo q n).length < (chosenTo p n).length
  | 0, _, h => by omega
  | n + 1, he, h => by
    show (if q n then chosenTo q n ++ [(n : Int)] else chosenTo q n).length < (if p n then chosenTo p n ++ [(n : Int)] else chosenTo p n).length
    by_cases e : k = n
    · subst e
      rw [if_pos hpk, hqk, if_neg (by simp), chosenTo_congr (p := q) (q := p) (fun i hi => he i (by omega) (by omega))]
      simp
    · have ih := chosenTo_less k hpk hqk (n := n) (fun i hi hk => he i (by omega) hk) (by omega)
      rw [he n (by omega) (by omega)]
      by_cases c : p n = true
      · rw [if_pos c, if_pos c]; simpa using ih
      · rw [if_neg c, if_neg c]; exact ih
/-- A move fills an open edge. -/
theorem free_less (s : ByteArray) (k : Int) (b : Bool) (hk : k ∈ freeV s) : (freeV (afterV s k b)).length < (freeV s).length := by
  obtain ⟨h0, h1, h2⟩ := mem_chosenTo.1 hk
  obtain ⟨j, rfl⟩ : ∃ j : Nat, k = (j : Int) := ⟨k.toNat, by omega⟩
  have hj : j < s.size := by omega
  unfold freeV
  rw [afterV_size s j b hj]
  refine chosenTo_less (p := fun k => bt s k == 46) (q := fun k => bt (afterV s j b) k == 46) j h2 ?_ ?_ hj
  · show (bt (afterV s j b) (j : Int) == 46) = false
    rw [afterV_bt s j b hj j hj, if_pos rfl]; cases b <;> rfl
  · intro i hi hne
    show (bt (afterV s j b) (i : Int) == 46) = (bt s (i : Int) == 46)
    rw [afterV_bt s j b hj i hi, if_neg hne]
theorem any_congr_mem {α : Type} {l : List α} {p q : α → Bool} (h : ∀ x ∈ l, p x = q x) : l.any p = l.any q := by
  induction l with
  | nil => rfl
  | cons a l ih =>
    rw [List.any_cons, List.any_cons, h a (by simp), ih (fun x hx => h x (by simp [hx]))]
theorem netWinN_more (l : List (List Int)) : ∀ (n m : Nat) (s : ByteArray) (b : Bool), (freeV s).length < n → (freeV s).length < m → netWinN l n s b = netWinN l m s b
  | 0, _, _, _, h, _ => by omega
  | _, 0, _, _, _, h => by omega
  | n + 1, m + 1, s, b, h1, h2 => by
    unfold netWinN
    have e : (freeV s).any (fun k => netWinN l n (afterV s k b) (!b) == ownV b) = (freeV s).any (fun k => netWinN l m (afterV s k b) (!b) == ownV b) :=
      any_congr_mem fun k hk => by
        have := free_less s k b hk
        rw [netWinN_more l n m _ _ (by omega) (by omega)]
    rw [e]
def netWin (l : List (List Int)) (s : ByteArray) (b : Bool) : Int := netWinN l ((freeV s).length + 1) s b
/-- The winner, by what follows. -/
theorem netWin_eq (l : List (List Int)) (s : ByteArray) (b : Bool) : netWin l s b = if ovV l s = 0 then (if (freeV s).any (fun k => netWin l (afterV s k b) (!b) == ownV b) = true then ownV b else 3 - ownV b) else ovV l s := by
  show netWinN l ((freeV s).length + 1) s b = _
  rw [netWinN]
  have e : (freeV s).any (fun k => netWinN l (freeV s).length (afterV s k b) (!b) == ownV b) = (freeV s).any (fun k => netWin l (afterV s k b) (!b) == ownV b) :=
    any_congr_mem fun k hk => by
      have := free_less s k b hk
      rw [netWinN_more l _ ((freeV (afterV s k b)).length + 1) _ _ this (by omega)]; rfl
  rw [e]
theorem ovV_range (l : List (List Int)) (s : ByteArray) : 0 ≤ ovV l s ∧ ovV l s ≤ 2 := by
  unfold ovV
  split
  · omega
  · split <;> omega
theorem ownV_range (b : Bool) : 1 ≤ ownV b ∧ ownV b ≤ 2 := by cases b <;> decide
theorem netWin_range (l : List (List Int)) (s : ByteArray) (b : Bool) : 0 ≤ netWin l s b ∧ netWin l s b ≤ 2 := by
  have := ovV_range l s
  have := ownV_range b
  rw [netWin_eq]; split
  · split <;> omega
  · omega
theorem net_edges_ok {l : List (List Int)} (h : NetEdges l) : ∀ e ∈ l, e.length = 2 ∧ 0 ≤ rd e 0 ∧ 0 ≤ rd e 1 := by
  intro e he
  obtain ⟨a, b, rfl, _, _⟩ := h.2 e he
  exact ⟨rfl, by show (0 : Int) ≤ (a : Int); omega, by show (0 : Int) ≤ (b : Int); omega⟩
/-! ### spec_PlayState: function 18 -/
-- EXTERNAL: by hand
-- spec_l10Code spec_l10Sets spec_l10Over spec_l10Mover spec_l10Known spec_l10Moves impl_Net_winners
/-- A text's bytes in a block that bears a conversion's mark. -/
def TxtAt (gt m : Nat) (s : ByteArray) (W : World) : Prop := ∃ C : Array Value, W.heap[gt]? = some (.cells C 5 (m, m + 1)) ∧ C.size = m ∧ s.size ≤ m ∧ ∀ j : Nat, j < s.size → C[j]? = some (.int .u8 (bt s (j : Int)))
theorem TxtAt.lt {gt m : Nat} {s : ByteArray} {W : World} (h : TxtAt gt m s W) : gt < W.heap.size := by obtain ⟨C, h1, _⟩ := h; exact blk_lt h1
theorem TxtAt.below {gt m : Nat} {s : ByteArray} {W W' : World} (h : TxtAt gt m s W) (hb : Below W.heap.size W W') : TxtAt gt m s W' := by obtain ⟨C, h1, h2⟩ := h; exact ⟨C, blk_below h1 hb, h2⟩
theorem TxtAt.kept {gt m : Nat} {s : ByteArray} {W W' : World} {S : Nat → Prop} (h : TxtAt gt m s W) (hk : Kept W W' S) (hn : ¬ S gt) : TxtAt gt m s W' := by obtain ⟨C, h1, h2⟩ := h; exact ⟨C, blk_kept h1 hk hn, h2⟩
theorem TxtAt.cell {gt m : Nat} {s : ByteArray} {W : World} (h : TxtAt gt m s W) (j : Nat) (hj : j < s.size) : W.cell? ⟨gt, j, none⟩ = some (.int .u8 (bt s (j : Int))) := by
  obtain ⟨C, h1, h2, h3, h4⟩ := h
  exact (cell_of_row W gt j C _ _ h1).trans (h4 j hj)
theorem TxtAt.frozen {gt m : Nat} {s : ByteArray} {W : World} (h : TxtAt gt m s W) (j : Nat) (hj : j < s.size) : W.frozen? ⟨gt, j, none⟩ = false := by
  obtain ⟨C, h1, h2, h3, h4⟩ := h
  simp [World.frozen?, h1]; omega
theorem TxtAt.set {gt m : Nat} {s : ByteArray} {W : World} (h : TxtAt gt m s W) (j : Nat) (hj : j < s.size) (b : Bool) : TxtAt gt m (afterV s j b) (W.setCell ⟨gt, j, none⟩ (.int .u8 (if b then 115 else 99))) := by
  obtain ⟨C, h1, h2, h3, h4⟩ := h
  have hsz := afterV_size s j b hj
  refine ⟨C.setIfInBounds j (.int .u8 (if b then 115 else 99)), ?_, by simp [h2], by omega, fun i hi => ?_⟩
  · have hlt := blk_lt h1
    simp only [World.setCell]
    rw [Array.getElem?_modify, if_pos rfl, h1]
    rfl
  · rw [afterV_bt s j b hj i (by omega), Array.getElem?_setIfInBounds]
    by_cases e : j = i
    · subst e; rw [if_pos rfl, if_pos (by omega), if_pos rfl]
    · rw [if_neg e, if_neg (fun x => e x.symm)]; exact h4 i (by omega)
theorem TxtAt.new (W : World) (s : ByteArray) : TxtAt W.heap.size (Lib.bytesCells W 5 s).size s (Lib.bytesWorld W 5 s) := by
  refine ⟨Lib.bytesCells W 5 s, Lib.bytesWorld_at_new W 5 s, rfl, by simp [Lib.bytesCells], fun j hj => ?_⟩
  have h1 := Lib.bytesWorld_cell W 5 s j hj
  have h2 := cell_of_row (Lib.bytesWorld W 5 s) W.heap.size j _ _ _ (Lib.bytesWorld_at_new W 5 s)
  rw [h2] at h1
  rw [h1]
  have h' : j < s.data.toList.length := by rw [data_length]; exact hj
  congr 2
  rw [bt_data s j hj, List.getD_eq_getElem?_getD, List.getElem?_eq_getElem h']; rfl
theorem TxtAt.str {gt m : Nat} {s : ByteArray} {W : World} (h : TxtAt gt m s W) (n c : Nat) (hn : s.size = n) : (convert 44 9 (.slice (some ⟨gt, 0, none⟩) n c)).run Tryd.prog W = .ok (.string s) W := by
  subst hn
  have h1 := run_convert_bytes_back (P := Tryd.prog) W 44 9 5 ⟨gt, 0, none⟩ c s.data.toList Tryd.underlying44 Tryd.underlying5 Tryd.underlying9 (fun j hj => by
    have hj' : j < s.size := by rw [data_length] at hj; exact hj
    rw [add_plain, h.cell j hj', bt_data s j hj'])
  rw [data_length] at h1
  exact h1
theorem R_ok_ {α : Type} {d : Kd α} {e base : Nat} {ok : Nat → Prop} {W : World} {v : Value} {xs : List α} (h : d.R e W base ok v xs) : ∀ k, v.ownBlock = some k → ok k := h.1
theorem R_gt_ {α : Type} {d : Kd α} {e base g : Nat} {W : World} {v : Value} {xs : List α} (h : d.R e W base (fun k_ => k_ ≠ g) v xs) : ¬ (some g = v.ownBlock) := fun x => h.1 g x.symm rfl
section
variable {P : Program} {ops : Array Oper} {o : Oper} {a : Act} {W : World} {Q : Exit → Act → World → Prop} {K : Act → World → Prop}
theorem upd_step (hw : Region.wanted o (yielded ops a.tmps) = true) {N : Option Tmp} (hN : o.dst = N) (v : Value) (W1 : World) (hrun : (execOp a.eval o).run P W = .ok (.value v) W1) (h : K (a.put N v) W1) : if Region.wanted o (yielded ops a.tmps) = true then Oper.wp P o a W K Q else K (a.put N undef) W := by
  rw [if_pos hw]
  unfold Oper.wp
  rw [hrun]
  subst hN
  exact h
end
def spec_PlayState.dot (s : ByteArray) : Nat → Int → Option Int
  | 0, _ => none
  | k + 1, e => if (0 ≤ e ∧ e < (s.size : Int)) ∧ s.size ≤ 4611686018427387904 then (if bt s e = 46 then some e else spec_PlayState.dot s k (e + 1)) else none
def spec_PlayState.l0 (p : Int) (l : List (List Int)) : Nat → ByteArray → Bool → List Int → Option ByteArray
  | 0, _, _, _ => none
  | k + 1, s, b, kn => (spec_l10Sets.f k p l s).bind fun t => (spec_l10Over.f k p l t.1 t.2.1).bind fun o => if o > 0 then some s else (spec_l10Moves.f k p l t.1 t.2.1 (ownV b) kn).bind fun m => (if m.1 = [] then spec_PlayState.dot s k 0 else some (rd m.1 0)).bind fun e => if 0 ≤ e ∧ e < (s.size : Int) then spec_PlayState.l0 p l k (afterV s e b) (!b) m.2 else none
def spec_PlayState.f (k : Nat) (a0_0 : Int) (l0_1 : List (List Int)) (a1 : ByteArray) (a2 : Bool) : Option (ByteArray × Int) := (spec_l10Code.f k a0_0 l0_1 a1).bind fun c => if c = 0 then (spec_l10Known.f a0_0 l0_1).bind fun kn => (spec_PlayState.l0 a0_0 l0_1 k a1 a2 kn).bind fun r => some (r, 0) else some (⟨#[]⟩, c)
def spec_PlayState.T4 : Bool × List (List Nat × List Nat) := (true, [([], []), ([0], [0]), ([], []), ([2, 1], [2]), ([], []), ([4], [4]), ([1, 3, 0, 1], [1]), ([3, 6, 0, 1, 2, 3, 6], [3]), ([5, 7, 0, 1, 2, 3, 4, 5, 6, 7], [5])])
def spec_PlayState.B4 : List Nat := [0, 1, 0, 7, 0, 16, 15, 79, 255]
theorem spec_PlayState.tab4 : rtab .any (opsOf Tryd.f18 4) = spec_PlayState.T4 := by kernel_rfl
theorem spec_PlayState.bits4 : waitsOk spec_PlayState.T4.2 spec_PlayState.B4 = true := by kernel_rfl
set_option maxHeartbeats 8000000 in
set_option maxRecDepth 100000 in
theorem spec_PlayState.calls (k : Nat) (a0_0 : Int) (A0_1 : Option Addr) (c0_1 : Nat) (l0_1 : List (List Int)) (a1 : ByteArray) (a2 : Bool) (r1 : ByteArray) (r2 : Int) (w : World) (hr0_1 : Kd.C (Kd.slice 2 (Kd.int .i64)) w A0_1 l0_1.length l0_1) (hc0_1 : l0_1.length ≤ c0_1) (h : spec_PlayState.f k a0_0 l0_1 a1 a2 = some (r1, r2)) :
    Calls Tryd.prog 18 #[.agg #[.int .i64 a0_0, .slice A0_1 l0_1.length c0_1], .string a1, .bool a2] w fun e w' => e = .returned (.tuple #[.string r1, .int .i64 r2]) ∧ Below w.heap.size w w' := by
  unfold spec_PlayState.f at h
  obtain ⟨code, hcd, h⟩ := Option.bind_eq_some_iff.1 h
  have HCD := Aside0.mk hcd
  have HB := Aside0.mk (Below.refl w.heap.size w)
  have HR := Aside0.mk hr0_1
  have HC0 := Aside0.mk hc0_1
  have hu := Tryd.underlying28
  clear hcd hr0_1 hc0_1
  by_cases hc0 : code = 0
  case neg =>
    rw [if_neg hc0] at h
    simp only [Option.some.injEq, Prod.mk.injEq] at h
    obtain ⟨rfl, rfl⟩ := h
    have hcz : (code != 0) = true := bne_iff_ne.mpr hc0
    clear hc0
    go_enter Tryd.func18, Tryd.ntmps18
    go_wp2_with (first | ((with_reducible refine gate_dst (N := 3) rfl ?_); refine box_event ?hg (N := 3) ?hd (cs := #[.int .i64 a0_0, .slice A0_1 l0_1.length c0_1]) (t := 28) ?hr ?_; (case hd => rfl); (case hg => rfl); (case hr => first | (go_simp; done) | (go_simp; rfl)); intro g3 hg_ w_ hbox hb; have HX3 := Aside0.mk hbox; have HG3 := Aside0.mk (show w.heap.size ≤ g3 by have := below_size HB.out; omega); clear hbox hg_; have nHB_ := Aside0.mk (below_step HB.out hb); clear HB hb; have HB := nHB_; clear nHB_; have hc30 := (blk_cell HX3.out 0).trans rfl; have hc31 := (blk_cell HX3.out 1).trans rfl) | (go_at_call 31; refine (spec_l10Code.calls k a0_0 A0_1 c0_1 l0_1 a1 code _ (Kd.C_below HR.out HB.out) HC0.out HCD.out).mono ?_; rintro e w_ ⟨rfl, hb⟩; (try clear hc30); (try clear hc31); have nHB_ := Aside0.mk (below_step HB.out hb); have nHX3_ := Aside0.mk (blk_below HX3.out hb); clear HB HX3 hb; have HB := nHB_; have HX3 := nHX3_; clear nHB_ nHX3_; have hc30 := (blk_cell HX3.out 0).trans rfl; have hc31 := (blk_cell HX3.out 1).trans rfl))
    go_ret2
    exact ⟨rfl, HB.out⟩
  rw [if_pos hc0] at h
  have hcz : (code != 0) = false := bne_eq_false_iff_eq.mpr hc0
  obtain ⟨kn0, hkn, h⟩ := Option.bind_eq_some_iff.1 h
  obtain ⟨r, hl0, h⟩ := Option.bind_eq_some_iff.1 h
  simp only [Option.some.injEq, Prod.mk.injEq] at h
  obtain ⟨rfl, rfl⟩ := h
  have HKN0 := Aside0.mk hkn
  have HL0 := Aside0.mk hl0
  have HMV := Aside0.mk (show spec_l10Mover.f a2 = some (ownV a2) by cases a2 <;> rfl)
  clear hkn hl0 hc0
  go_enter Tryd.func18, Tryd.ntmps18
  go_wp2_with (first | ((with_reducible refine gate_dst (N := 3) rfl ?_); refine box_event ?hg (N := 3) ?hd (cs := #[.int .i64 a0_0, .slice A0_1 l0_1.length c0_1]) (t := 28) ?hr ?_; (case hd => rfl); (case hg => rfl); (case hr => first | (go_simp; done) | (go_simp; rfl)); intro g3 hg_ w_ hbox hb; have HX3 := Aside0.mk hbox; have HG3 := Aside0.mk (show w.heap.size ≤ g3 by have := below_size HB.out; omega); clear hbox hg_; have nHB_ := Aside0.mk (below_step HB.out hb); clear HB hb; have HB := nHB_; clear nHB_; have hc30 := (blk_cell HX3.out 0).trans rfl; have hc31 := (blk_cell HX3.out 1).trans rfl) | (go_at_call 31; refine (spec_l10Code.calls k a0_0 A0_1 c0_1 l0_1 a1 code _ (Kd.C_below HR.out HB.out) HC0.out HCD.out).mono ?_; rintro e w_ ⟨rfl, hb⟩; (try clear hc30); (try clear hc31); have nHB_ := Aside0.mk (below_step HB.out hb); have nHX3_ := Aside0.mk (blk_below HX3.out hb); clear HB HX3 hb; have HB := nHB_; have HX3 := nHX3_; clear nHB_ nHX3_; have hc30 := (blk_cell HX3.out 0).trans rfl; have hc31 := (blk_cell HX3.out 1).trans rfl))
  have n1_ := Aside0.mk (blk_drew HX3.out)
  have nb_ := Aside0.mk (below_drew1 HB.out)
  clear HX3 HB hc30 hc31
  refine start_ (n := 9) (S := fun w' => w'.cell? ⟨g3, 0, none⟩ = some (.int .i64 a0_0) ∧ w'.cell? ⟨g3, 1, none⟩ = some (.slice A0_1 l0_1.length c0_1)) (ds := []) #[false, false, false, false, false, false, false, false, false] (by kernel_rfl) rfl rfl ⟨(blk_cell n1_.out 0).trans rfl, (blk_cell n1_.out 1).trans rfl⟩ (fun hHeld => ?_)
  refine with_tabW spec_PlayState.tab4 spec_PlayState.bits4 (fun HT_ HW_ => ?_)
  generalize hq_ : w_.drew = wd_ at n1_ nb_ hHeld ⊢
  clear hq_
  have HRd := Aside0.mk (Kd.C_below HR.out nb_.out)
  refine pure_ (i := 0) (N := some 23) (v := ?_) (a' := ?_) #[true, false, false, false, false, false, false, false, false] rfl rfl (any_of HT_.out (by kernel_rfl)) (fun _ _ _ h => h) (Or.inl ⟨by rfl, ?_⟩) ?_ ?_
  rotate_left
  · intro w'
    go_simp
    with_reducible rfl
  rotate_left
  · simp only [Act.put, List.setIfInBounds_toArray, List.set_cons_zero, List.set_cons_succ, i64_w, i32_w]
    rfl
  refine take_ (i := 2) (N := some 25) (v := ?_) (a' := ?_) #[true, false, true, false, false, false, false, false, false] rfl rfl (take_ofW HT_.out HW_.out (by kernel_rfl)) (fun _ _ _ h => h) (Or.inl ⟨by rfl, ?_⟩) hHeld ?_ ?_
  rotate_left
  · rintro w' ⟨s0_, s1_⟩
    go_simp
    with_reducible rfl
  rotate_left
  · simp only [Act.put, List.setIfInBounds_toArray, List.set_cons_zero, List.set_cons_succ, i64_w, i32_w]
    rfl
  refine pure_ (i := 4) (N := some 27) (v := ?_) (a' := ?_) #[true, false, true, false, true, false, false, false, false] rfl rfl (any_of HT_.out (by kernel_rfl)) (fun _ _ _ h => h) (Or.inl ⟨by rfl, ?_⟩) ?_ ?_
  rotate_left
  · intro w'
    go_simp
    with_reducible rfl
  rotate_left
  · simp only [Act.put, List.setIfInBounds_toArray, List.set_cons_zero, List.set_cons_succ, i64_w, i32_w]
    rfl
  refine join_ (σ := Value × Nat × Nat × Nat) 1 #[true, true, true, true, true, true, true, true, false] (fun s_ => [(24, .int .i64 (ownV a2)), (26, s_.1), (9, .int .i64 (ownV a2)), (10, s_.1), (28, .slice (some ⟨s_.2.1, 0, none⟩) a1.size s_.2.2.1)]) (fun s_ w' => Below wd_.heap.size wd_ w' ∧ Kd.R (Kd.int .i64) 2 w' wd_.heap.size (fun k_ => k_ ≠ s_.2.1) s_.1 kn0 ∧ TxtAt s_.2.1 s_.2.2.2 a1 w' ∧ wd_.heap.size ≤ s_.2.1) ?hc (fun HJ_ => ?ho)
  case ho =>
    have HXr := n1_
    have HBr := Aside0.mk (Below.refl wd_.heap.size wd_)
    refine two_ (i := 1) (j := 5) (Ni := some 24) (Nj := some 28) #[true, true, true, false, true, false, false, false, false] #[true, false, true, false, true, true, false, false, false] rfl rfl rfl rfl (two_of HT_.out (by kernel_rfl)) (by decide) (by decide) (fun K hK => ?_) (fun K hK => ?_)
    · refine goes_ Tryd.func39 (by kernel_rfl) rfl #[.bool a2] (by rfl) rfl rfl (by (try simp only [List.map_toArray, List.map_cons, List.map_nil]); first | done | rfl) ?_
      refine (spec_l10Mover.calls a2 (ownV a2) _ HMV.out).mono ?_
      rintro e wa_ ⟨rfl, hd_⟩
      refine ⟨_, rfl, ?_⟩
      have hb := hd_.below
      clear hd_
      have nX_ := Aside0.mk (blk_below HXr.out hb); have nB_ := Aside0.mk (below_step HBr.out hb); clear HXr HBr hb; have HXr := nX_; have HBr := nB_; clear nX_ nB_
      refine hK.out _ _ ⟨(blk_cell HXr.out 0).trans rfl, (blk_cell HXr.out 1).trans rfl⟩ (fun hHeld => ?_)
      clear hK K
      refine norm_ (a' := ?_) ?_ ?_
      rotate_left
      · show Act.put _ (some 24) _ = _
        simp only [Act.put, List.setIfInBounds_toArray, List.set_cons_zero, List.set_cons_succ, i64_w, i32_w]
        rfl
      refine two_ (i := 3) (j := 5) (Ni := some 26) (Nj := some 28) #[true, true, true, true, true, false, false, false, false] #[true, true, true, false, true, true, false, false, false] rfl rfl rfl rfl (two_of HT_.out (by kernel_rfl)) (by decide) (by decide) (fun K hK => ?_) (fun K hK => ?_)
      · refine goes_ Tryd.func40 (by kernel_rfl) rfl #[.agg #[.int .i64 a0_0, .slice A0_1 l0_1.length c0_1]] (by rfl) rfl rfl (by (try simp only [List.map_toArray, List.map_cons, List.map_nil]); first | done | rfl) ?_
        refine (spec_l10Known.calls a0_0 A0_1 c0_1 l0_1 kn0 _ (Kd.C_below HRd.out HBr.out) HC0.out HKN0.out).mono ?_
        rintro e wk_ ⟨v26, rfl, ho, hb⟩
        refine ⟨_, rfl, ?_⟩
        have hK0_ := Aside0.mk (Kd.R_lower ho (HBr.out.size))
        clear ho
        have nX_ := Aside0.mk (blk_below HXr.out hb); have nB_ := Aside0.mk (below_step HBr.out hb); clear HXr HBr hb; have HXr := nX_; have HBr := nB_; clear nX_ nB_
        have HKr := hK0_
        clear hK0_
        refine hK.out _ _ ⟨(blk_cell HXr.out 0).trans rfl, (blk_cell HXr.out 1).trans rfl⟩ (fun hHeld => ?_)
        clear hK K
        refine norm_ (a' := ?_) ?_ ?_
        rotate_left
        · show Act.put _ (some 26) _ = _
          simp only [Act.put, List.setIfInBounds_toArray, List.set_cons_zero, List.set_cons_succ, i64_w, i32_w]
          rfl
        refine pure_ (i := 6) (N := some 9) (v := ?_) (a' := ?_) #[true, true, true, true, true, false, true, false, false] rfl rfl (any_of HT_.out (by kernel_rfl)) (fun _ _ _ h => h) (Or.inl ⟨by rfl, ?_⟩) ?_ ?_
        rotate_left
        · intro w'
          go_simp
          with_reducible rfl
        rotate_left
        · simp only [Act.put, List.setIfInBounds_toArray, List.set_cons_zero, List.set_cons_succ, i64_w, i32_w]
          rfl
        refine pure_ (i := 7) (N := some 10) (v := ?_) (a' := ?_) #[true, true, true, true, true, false, true, true, false] rfl rfl (any_of HT_.out (by kernel_rfl)) (fun _ _ _ h => h) (Or.inl ⟨by rfl, ?_⟩) ?_ ?_
        rotate_left
        · intro w'
          go_simp
          with_reducible rfl
        rotate_left
        · simp only [Act.put, List.setIfInBounds_toArray, List.set_cons_zero, List.set_cons_succ, i64_w, i32_w]
          rfl
        refine one_ (i := 5) (N := some 28) #[true, true, true, true, true, true, true, true, false] rfl rfl (one_of HT_.out (by kernel_rfl)) (by decide) (fun K hK => ?_)
        obtain ⟨wv_, hwv_⟩ : ∃ wv_, wv_ = wk_ := ⟨_, rfl⟩
        rw [← hwv_] at HXr HBr hHeld HKr ⊢
        clear hwv_
        have kb := fun W => print_bytes (P := Tryd.prog) 9 44 5 Tryd.underlying9 Tryd.underlying44 Tryd.underlying5 a1 W
        refine upd_step (by rfl) (N := some 28) rfl (.slice (some ⟨wv_.heap.size, 0, none⟩) a1.size (grownCap wv_ a1.size 0 5)) (Lib.bytesWorld wv_ 5 a1) (by first | (go_simp; done) | (go_simp; rfl) | (simp only [execOp]; go_simp; rfl)) ?_
        have hb : Below wv_.heap.size wv_ (Lib.bytesWorld wv_ 5 a1) := bytes_below (Below.refl _ _) (Nat.le_refl _) 5 a1
        obtain ⟨gq, hgq⟩ : ∃ gq, gq = wv_.heap.size := ⟨_, rfl⟩
        have hT0_ := Aside0.mk (show TxtAt gq (Lib.bytesCells wv_ 5 a1).size a1 (Lib.bytesWorld wv_ 5 a1) by rw [hgq]; exact TxtAt.new wv_ a1)
        have HGq := Aside0.mk (show wd_.heap.size ≤ gq by rw [hgq]; exact HBr.out.size)
        have hK1_ := Aside0.mk (Kd.R_mono (ok' := fun k_ => k_ ≠ gq) (Kd.R_tight rfl HKr.out) (fun k_ hk_ => by have := Kd.R_lt HKr.out k_ hk_.symm; omega))
        clear HKr
        have HKr := hK1_
        clear hK1_
        rw [← hgq]
        clear hgq
        have nX_ := Aside0.mk (blk_below HXr.out hb); have nB_ := Aside0.mk (below_step HBr.out hb); have nK_ := Aside0.mk (Kd.R_below HKr.out hb); clear HXr HBr hb HKr; have HXr := nX_; have HBr := nB_; have HKr := nK_; clear nX_ nB_ nK_
        have HTr := hT0_
        clear hT0_
        generalize Lib.bytesWorld wv_ 5 a1 = wt_ at HXr HBr HTr HKr ⊢
        generalize hm_ : (Lib.bytesCells wv_ 5 a1).size = mq at HTr
        generalize hcq_ : grownCap wv_ a1.size 0 5 = cq
        clear hm_ hcq_
        refine hK.out _ _ ⟨(blk_cell HXr.out 0).trans rfl, (blk_cell HXr.out 1).trans rfl⟩ (fun hHeld => ?_)
        clear hK K
        refine norm_ (a' := ?_) ?_ ?_
        rotate_left
        · show Act.put _ (some 28) _ = _
          simp only [Act.put, List.setIfInBounds_toArray, List.set_cons_zero, List.set_cons_succ, i64_w, i32_w]
          rfl
        refine norm_ (a' := _) ?_ (HJ_ (v26, gq, cq, mq) _ ⟨HBr.out, HKr.out, HTr.out, HGq.out⟩)
        simp only [putAll, Act.put, List.setIfInBounds_toArray, List.set_cons_zero, List.set_cons_succ]
      · obtain ⟨wv_, hwv_⟩ : ∃ wv_, wv_ = wa_ := ⟨_, rfl⟩
        rw [← hwv_] at HXr HBr hHeld ⊢
        clear hwv_
        have kb := fun W => print_bytes (P := Tryd.prog) 9 44 5 Tryd.underlying9 Tryd.underlying44 Tryd.underlying5 a1 W
        refine upd_step (by rfl) (N := some 28) rfl (.slice (some ⟨wv_.heap.size, 0, none⟩) a1.size (grownCap wv_ a1.size 0 5)) (Lib.bytesWorld wv_ 5 a1) (by first | (go_simp; done) | (go_simp; rfl) | (simp only [execOp]; go_simp; rfl)) ?_
        have hb : Below wv_.heap.size wv_ (Lib.bytesWorld wv_ 5 a1) := bytes_below (Below.refl _ _) (Nat.le_refl _) 5 a1
        obtain ⟨gq, hgq⟩ : ∃ gq, gq = wv_.heap.size := ⟨_, rfl⟩
        have hT0_ := Aside0.mk (show TxtAt gq (Lib.bytesCells wv_ 5 a1).size a1 (Lib.bytesWorld wv_ 5 a1) by rw [hgq]; exact TxtAt.new wv_ a1)
        have HGq := Aside0.mk (show wd_.heap.size ≤ gq by rw [hgq]; exact HBr.out.size)
        rw [← hgq]
        clear hgq
        have nX_ := Aside0.mk (blk_below HXr.out hb); have nB_ := Aside0.mk (below_step HBr.out hb); clear HXr HBr hb; have HXr := nX_; have HBr := nB_; clear nX_ nB_
        have HTr := hT0_
        clear hT0_
        generalize Lib.bytesWorld wv_ 5 a1 = wt_ at HXr HBr HTr ⊢
        generalize hm_ : (Lib.bytesCells wv_ 5 a1).size = mq at HTr
        generalize hcq_ : grownCap wv_ a1.size 0 5 = cq
        clear hm_ hcq_
        refine hK.out _ _ ⟨(blk_cell HXr.out 0).trans rfl, (blk_cell HXr.out 1).trans rfl⟩ (fun hHeld => ?_)
        clear hK K
        refine norm_ (a' := ?_) ?_ ?_
        rotate_left
        · show Act.put _ (some 28) _ = _
          simp only [Act.put, List.setIfInBounds_toArray, List.set_cons_zero, List.set_cons_succ, i64_w, i32_w]
          rfl
        refine one_ (i := 3) (N := some 26) #[true, true, true, true, true, true, false, false, false] rfl rfl (one_of HT_.out (by kernel_rfl)) (by decide) (fun K hK => ?_)
        refine goes_ Tryd.func40 (by kernel_rfl) rfl #[.agg #[.int .i64 a0_0, .slice A0_1 l0_1.length c0_1]] (by rfl) rfl rfl (by (try simp only [List.map_toArray, List.map_cons, List.map_nil]); first | done | rfl) ?_
        refine (spec_l10Known.calls a0_0 A0_1 c0_1 l0_1 kn0 _ (Kd.C_below HRd.out HBr.out) HC0.out HKN0.out).mono ?_
        rintro e wk_ ⟨v26, rfl, ho, hb⟩
        refine ⟨_, rfl, ?_⟩
        have hK0_ := Aside0.mk (Kd.R_lower (Kd.R_mono (ok' := fun k_ => k_ ≠ gq) (Kd.R_bound ho) (fun k_ hk_ => by have := hk_.2.1; have := HTr.out.lt; omega)) (HBr.out.size))
        clear ho
        have nX_ := Aside0.mk (blk_below HXr.out hb); have nB_ := Aside0.mk (below_step HBr.out hb); have nT_ := Aside0.mk (HTr.out.below hb); clear HXr HBr hb HTr; have HXr := nX_; have HBr := nB_; have HTr := nT_; clear nX_ nB_ nT_
        have HKr := hK0_
        clear hK0_
        refine hK.out _ _ ⟨(blk_cell HXr.out 0).trans rfl, (blk_cell HXr.out 1).trans rfl⟩ (fun hHeld => ?_)
        clear hK K
        refine norm_ (a' := ?_) ?_ ?_
        rotate_left
        · show Act.put _ (some 26) _ = _
          simp only [Act.put, List.setIfInBounds_toArray, List.set_cons_zero, List.set_cons_succ, i64_w, i32_w]
          rfl
        refine pure_ (i := 6) (N := some 9) (v := ?_) (a' := ?_) #[true, true, true, true, true, true, true, false, false] rfl rfl (any_of HT_.out (by kernel_rfl)) (fun _ _ _ h => h) (Or.inl ⟨by rfl, ?_⟩) ?_ ?_
        rotate_left
        · intro w'
          go_simp
          with_reducible rfl
        rotate_left
        · simp only [Act.put, List.setIfInBounds_toArray, List.set_cons_zero, List.set_cons_succ, i64_w, i32_w]
          rfl
        refine pure_ (i := 7) (N := some 10) (v := ?_) (a' := ?_) #[true, true, true, true, true, true, true, true, false] rfl rfl (any_of HT_.out (by kernel_rfl)) (fun _ _ _ h => h) (Or.inl ⟨by rfl, ?_⟩) ?_ ?_
        rotate_left
        · intro w'
          go_simp
          with_reducible rfl
        rotate_left
        · simp only [Act.put, List.setIfInBounds_toArray, List.set_cons_zero, List.set_cons_succ, i64_w, i32_w]
          rfl
        refine norm_ (a' := _) ?_ (HJ_ (v26, gq, cq, mq) _ ⟨HBr.out, HKr.out, HTr.out, HGq.out⟩)
        simp only [putAll, Act.put, List.setIfInBounds_toArray, List.set_cons_zero, List.set_cons_succ]
    · have kb := fun W => print_bytes (P := Tryd.prog) 9 44 5 Tryd.underlying9 Tryd.underlying44 Tryd.underlying5 a1 W
      refine upd_step (by rfl) (N := some 28) rfl (.slice (some ⟨wd_.heap.size, 0, none⟩) a1.size (grownCap wd_ a1.size 0 5)) (Lib.bytesWorld wd_ 5 a1) (by first | (go_simp; done) | (go_simp; rfl) | (simp only [execOp]; go_simp; rfl)) ?_
      have hb : Below wd_.heap.size wd_ (Lib.bytesWorld wd_ 5 a1) := bytes_below (Below.refl _ _) (Nat.le_refl _) 5 a1
      obtain ⟨gq, hgq⟩ : ∃ gq, gq = wd_.heap.size := ⟨_, rfl⟩
      have hT0_ := Aside0.mk (show TxtAt gq (Lib.bytesCells wd_ 5 a1).size a1 (Lib.bytesWorld wd_ 5 a1) by rw [hgq]; exact TxtAt.new wd_ a1)
      have HGq := Aside0.mk (show wd_.heap.size ≤ gq by rw [hgq]; exact HBr.out.size)
      rw [← hgq]
      clear hgq
      have nX_ := Aside0.mk (blk_below HXr.out hb); have nB_ := Aside0.mk (below_step HBr.out hb); clear HXr HBr hb; have HXr := nX_; have HBr := nB_; clear nX_ nB_
      have HTr := hT0_
      clear hT0_
      generalize Lib.bytesWorld wd_ 5 a1 = wt_ at HXr HBr HTr ⊢
      generalize hm_ : (Lib.bytesCells wd_ 5 a1).size = mq at HTr
      generalize hcq_ : grownCap wd_ a1.size 0 5 = cq
      clear hm_ hcq_
      refine hK.out _ _ ⟨(blk_cell HXr.out 0).trans rfl, (blk_cell HXr.out 1).trans rfl⟩ (fun hHeld => ?_)
      clear hK K
      refine norm_ (a' := ?_) ?_ ?_
      rotate_left
      · show Act.put _ (some 28) _ = _
        simp only [Act.put, List.setIfInBounds_toArray, List.set_cons_zero, List.set_cons_succ, i64_w, i32_w]
        rfl
      refine one_ (i := 1) (N := some 24) #[true, true, true, false, true, true, false, false, false] rfl rfl (one_of HT_.out (by kernel_rfl)) (by decide) (fun K hK => ?_)
      refine goes_ Tryd.func39 (by kernel_rfl) rfl #[.bool a2] (by rfl) rfl rfl (by (try simp only [List.map_toArray, List.map_cons, List.map_nil]); first | done | rfl) ?_
      refine (spec_l10Mover.calls a2 (ownV a2) _ HMV.out).mono ?_
      rintro e wa_ ⟨rfl, hd_⟩
      refine ⟨_, rfl, ?_⟩
      have hb := hd_.below
      clear hd_
      have nX_ := Aside0.mk (blk_below HXr.out hb); have nB_ := Aside0.mk (below_step HBr.out hb); have nT_ := Aside0.mk (HTr.out.below hb); clear HXr HBr hb HTr; have HXr := nX_; have HBr := nB_; have HTr := nT_; clear nX_ nB_ nT_
      refine hK.out _ _ ⟨(blk_cell HXr.out 0).trans rfl, (blk_cell HXr.out 1).trans rfl⟩ (fun hHeld => ?_)
      clear hK K
      refine norm_ (a' := ?_) ?_ ?_
      rotate_left
      · show Act.put _ (some 24) _ = _
        simp only [Act.put, List.setIfInBounds_toArray, List.set_cons_zero, List.set_cons_succ, i64_w, i32_w]
        rfl
      refine one_ (i := 3) (N := some 26) #[true, true, true, true, true, true, false, false, false] rfl rfl (one_of HT_.out (by kernel_rfl)) (by decide) (fun K hK => ?_)
      refine goes_ Tryd.func40 (by kernel_rfl) rfl #[.agg #[.int .i64 a0_0, .slice A0_1 l0_1.length c0_1]] (by rfl) rfl rfl (by (try simp only [List.map_toArray, List.map_cons, List.map_nil]); first | done | rfl) ?_
      refine (spec_l10Known.calls a0_0 A0_1 c0_1 l0_1 kn0 _ (Kd.C_below HRd.out HBr.out) HC0.out HKN0.out).mono ?_
      rintro e wk_ ⟨v26, rfl, ho, hb⟩
      refine ⟨_, rfl, ?_⟩
      have hK0_ := Aside0.mk (Kd.R_lower (Kd.R_mono (ok' := fun k_ => k_ ≠ gq) (Kd.R_bound ho) (fun k_ hk_ => by have := hk_.2.1; have := HTr.out.lt; omega)) (HBr.out.size))
      clear ho
      have nX_ := Aside0.mk (blk_below HXr.out hb); have nB_ := Aside0.mk (below_step HBr.out hb); have nT_ := Aside0.mk (HTr.out.below hb); clear HXr HBr hb HTr; have HXr := nX_; have HBr := nB_; have HTr := nT_; clear nX_ nB_ nT_
      have HKr := hK0_
      clear hK0_
      refine hK.out _ _ ⟨(blk_cell HXr.out 0).trans rfl, (blk_cell HXr.out 1).trans rfl⟩ (fun hHeld => ?_)
      clear hK K
      refine norm_ (a' := ?_) ?_ ?_
      rotate_left
      · show Act.put _ (some 26) _ = _
        simp only [Act.put, List.setIfInBounds_toArray, List.set_cons_zero, List.set_cons_succ, i64_w, i32_w]
        rfl
      refine pure_ (i := 6) (N := some 9) (v := ?_) (a' := ?_) #[true, true, true, true, true, true, true, false, false] rfl rfl (any_of HT_.out (by kernel_rfl)) (fun _ _ _ h => h) (Or.inl ⟨by rfl, ?_⟩) ?_ ?_
      rotate_left
      · intro w'
        go_simp
        with_reducible rfl
      rotate_left
      · simp only [Act.put, List.setIfInBounds_toArray, List.set_cons_zero, List.set_cons_succ, i64_w, i32_w]
        rfl
      refine pure_ (i := 7) (N := some 10) (v := ?_) (a' := ?_) #[true, true, true, true, true, true, true, true, false] rfl rfl (any_of HT_.out (by kernel_rfl)) (fun _ _ _ h => h) (Or.inl ⟨by rfl, ?_⟩) ?_ ?_
      rotate_left
      · intro w'
        go_simp
        with_reducible rfl
      rotate_left
      · simp only [Act.put, List.setIfInBounds_toArray, List.set_cons_zero, List.set_cons_succ, i64_w, i32_w]
        rfl
      refine norm_ (a' := _) ?_ (HJ_ (v26, gq, cq, mq) _ ⟨HBr.out, HKr.out, HTr.out, HGq.out⟩)
      simp only [putAll, Act.put, List.setIfInBounds_toArray, List.set_cons_zero, List.set_cons_succ]
  case hc =>
    rintro ⟨v26, gt, cp, m⟩ w5_ ⟨hbd_, hkn_, htx_, hgt_⟩
    have HBD := Aside0.mk hbd_
    have HKN := Aside0.mk hkn_
    have HTX := Aside0.mk htx_
    have HGT := Aside0.mk hgt_
    clear hbd_ hkn_ htx_ hgt_
    obtain ⟨A26, c26, e26⟩ := Kd.R_slice HKN.out
    subst e26
    refine norm_ (a' := ?_) ?_ ?_
    rotate_left
    · simp only [putAll, Act.put, List.setIfInBounds_toArray, List.set_cons_zero, List.set_cons_succ]
      rfl
    refine pure_ (i := 8) (N := some 11) (v := ?_) (a' := ?_) #[true, true, true, true, true, true, true, true, true] rfl rfl (any_of HT_.out (by kernel_rfl)) (fun _ _ _ h => h) (Or.inl ⟨by rfl, ?_⟩) ?_ ?_
    rotate_left
    · intro w'
      go_simp
      with_reducible rfl
    rotate_left
    · simp only [Act.put, List.setIfInBounds_toArray, List.set_cons_zero, List.set_cons_succ, i64_w, i32_w]
      rfl
    refine done_ (done_of HT_.out (by kernel_rfl)) ?_
    go_wp2_with fail
    have HX3d := n1_
    have HBw := nb_
    clear n1_ nb_ HMV HKN0 HCD
    go_loopg [9] k (fun kq s9 wr => ∃ (s : ByteArray) (b : Bool) (kn : List Int), s9 = .int .i64 (ownV b) ∧ Aside0 (spec_PlayState.l0 a0_0 l0_1 kq s b kn = some r) ∧ Aside0 (kq ≤ k) ∧ Aside0 (s.size = a1.size) ∧ Aside0 (TxtAt gt m s wr) ∧ Aside0 (Kd.R (Kd.int .i64) 2 wr wd_.heap.size (fun k_ => k_ ≠ gt) (Value.slice A26 kn0.length c26) kn) ∧ Aside0 (Below wd_.heap.size wd_ wr))
    case atStart => exact ⟨a1, a2, kn0, rfl, HL0, ⟨Nat.le_refl _⟩, ⟨rfl⟩, HTX, HKN, HBD⟩
    case round =>
      clear HL0 HTX HKN HBD
      obtain ⟨s, b, kn, h9, HA, HK, HSZ, HTX, HKN, HBD⟩ := hrel
      cases gk with
      | zero => exact absurd HA.out (by simp [spec_PlayState.l0])
      | succ k1 =>
        have H := HA.out
        clear HA
        rw [spec_PlayState.l0] at H
        obtain ⟨⟨k2, o2, f2⟩, hse, H⟩ := Option.bind_eq_some_iff.1 H
        obtain ⟨ov, hov, H⟩ := Option.bind_eq_some_iff.1 H
        dsimp only at hov H
        have HSE := Aside0.mk hse
        have HOV := Aside0.mk hov
        clear hse hov
        have kcv := HTX.out.str a1.size cp HSZ.out
        have hc30 := (blk_cell (blk_below HX3d.out HBD.out) 0).trans rfl
        have hc31 := (blk_cell (blk_below HX3d.out HBD.out) 1).trans rfl
        by_cases h1 : ov > 0
        · rw [if_pos h1] at H
          have hr : r = s := (Option.some.inj H).symm
          have c1 : decide (0 < ov) = true := decide_eq_true h1
          clear H h1
          subst h9
          go_wp2_with (first | (go_at_call 32; refine (spec_l10Sets.calls k1 a0_0 A0_1 c0_1 l0_1 s k2 o2 f2 _ (Kd.C_below HRd.out HBD.out) HC0.out HSE.out).mono ?_; rintro e w_ ⟨rfl, hb⟩; (try clear hc30); (try clear hc31); (try clear kcv); have nB_ := Aside0.mk (below_step HBD.out hb); have nT_ := Aside0.mk (HTX.out.below hb); have nK_ := Aside0.mk (Kd.R_below HKN.out hb); clear HBD HTX HKN hb; have HBD := nB_; have HTX := nT_; have HKN := nK_; clear nB_ nT_ nK_; have kcv := HTX.out.str a1.size cp HSZ.out; have hc30 := (blk_cell (blk_below HX3d.out HBD.out) 0).trans rfl; have hc31 := (blk_cell (blk_below HX3d.out HBD.out) 1).trans rfl) | (go_at_call 33; refine (spec_l10Over.calls k1 a0_0 A0_1 c0_1 l0_1 k2 o2 ov _ (Kd.C_below HRd.out HBD.out) HC0.out HOV.out).mono ?_; rintro e w_ ⟨rfl, hb⟩; (try clear hc30); (try clear hc31); (try clear kcv); have nB_ := Aside0.mk (below_step HBD.out hb); have nT_ := Aside0.mk (HTX.out.below hb); have nK_ := Aside0.mk (Kd.R_below HKN.out hb); clear HBD HTX HKN hb; have HBD := nB_; have HTX := nT_; have HKN := nK_; clear nB_ nT_ nK_; have kcv := HTX.out.str a1.size cp HSZ.out; have hc30 := (blk_cell (blk_below HX3d.out HBD.out) 0).trans rfl; have hc31 := (blk_cell (blk_below HX3d.out HBD.out) 1).trans rfl))
          go_ret2
          exact ⟨by rw [hr]; rfl, below_step HBw.out HBD.out⟩
        · rw [if_neg h1] at H
          have c1 : decide (0 < ov) = false := decide_eq_false h1
          obtain ⟨⟨m1, m2⟩, hmo, H⟩ := Option.bind_eq_some_iff.1 H
          obtain ⟨e, hed, H⟩ := Option.bind_eq_some_iff.1 H
          dsimp only at hed H
          by_cases h2 : 0 ≤ e ∧ e < (s.size : Int)
          case neg => rw [if_neg h2] at H; cases H
          rw [if_pos h2] at H
          have HA := Aside0.mk H
          have HMO := Aside0.mk hmo
          obtain ⟨j, rfl⟩ : ∃ j : Nat, e = (j : Int) := ⟨e.toNat, by omega⟩
          have HJ := Aside0.mk (show j < s.size by omega)
          clear H hmo h1 h2
          by_cases h3 : m1 = []
          · rw [if_pos h3] at hed
            have HED := Aside0.mk hed
            clear hed
            subst h3
            cases b with
            | true =>
              have eo : ownV true = 1 := rfl
              have w1_ : wrap64 (1 - 1) = 0 := by unfold wrap64; omega
              have w2_ : wrap64 (3 - 1) = 2 := by unfold wrap64; omega
              have w3_ : IntKind.i64.wrap (1 - 1) = 0 := (i64_w _).trans w1_
              have w4_ : IntKind.i64.wrap (3 - 1) = 2 := (i64_w _).trans w2_
              rw [eo] at h9 HMO
              subst h9
              clear eo
              go_wp2_with (first | (go_at_call 32; refine (spec_l10Sets.calls k1 a0_0 A0_1 c0_1 l0_1 s k2 o2 f2 _ (Kd.C_below HRd.out HBD.out) HC0.out HSE.out).mono ?_; rintro e w_ ⟨rfl, hb⟩; (try clear hc30); (try clear hc31); (try clear kcv); have nB_ := Aside0.mk (below_step HBD.out hb); have nT_ := Aside0.mk (HTX.out.below hb); have nK_ := Aside0.mk (Kd.R_below HKN.out hb); clear HBD HTX HKN hb; have HBD := nB_; have HTX := nT_; have HKN := nK_; clear nB_ nT_ nK_; have kcv := HTX.out.str a1.size cp HSZ.out; have hc30 := (blk_cell (blk_below HX3d.out HBD.out) 0).trans rfl; have hc31 := (blk_cell (blk_below HX3d.out HBD.out) 1).trans rfl) | (go_at_call 33; refine (spec_l10Over.calls k1 a0_0 A0_1 c0_1 l0_1 k2 o2 ov _ (Kd.C_below HRd.out HBD.out) HC0.out HOV.out).mono ?_; rintro e w_ ⟨rfl, hb⟩; (try clear hc30); (try clear hc31); (try clear kcv); have nB_ := Aside0.mk (below_step HBD.out hb); have nT_ := Aside0.mk (HTX.out.below hb); have nK_ := Aside0.mk (Kd.R_below HKN.out hb); clear HBD HTX HKN hb; have HBD := nB_; have HTX := nT_; have HKN := nK_; clear nB_ nT_ nK_; have kcv := HTX.out.str a1.size cp HSZ.out; have hc30 := (blk_cell (blk_below HX3d.out HBD.out) 0).trans rfl; have hc31 := (blk_cell (blk_below HX3d.out HBD.out) 1).trans rfl) | (go_at_call 43; with_reducible refine (spec_l10Moves.calls k1 a0_0 A0_1 c0_1 l0_1 k2 o2 _ (fun k_ => some k_ = (Value.slice A26 kn0.length c26).ownBlock) (Value.slice A26 kn0.length c26) kn _ m2 wd_ _ ?side1 ?side2 ?side3 ?side4 HMO.out).mono ?_; (case side1 => exact HBD.out); (case side2 => exact Kd.C_kept_came (Kd.heap_slice 2 (Kd.heap_int .i64)) HRd.out HBD.out (fun k_ hs_ => Kd.R_base HKN.out k_ hs_.symm)); (case side3 => exact HC0.out); (case side4 => exact Kd.R_tight rfl HKN.out); rintro e wm_ ⟨v49, rfl, ho, hy, hb, hkp⟩; (try clear hc30); (try clear hc31); (try clear kcv); have nT_ := Aside0.mk (HTX.out.kept hkp (R_gt_ HKN.out)); have nK_ := Aside0.mk (Kd.R_reok rfl hy (R_ok_ HKN.out)); have nB_ := Aside0.mk hb; clear HTX HKN HBD hb hkp hy; have HTX := nT_; have HKN := nK_; have HBD := nB_; clear nT_ nK_ nB_; obtain ⟨A49, c49, e49⟩ := Kd.R_slice ho; subst e49; clear ho))
              (try clear hc30)
              (try clear hc31)
              go_loopg [15] k1 (fun kq s15 wr => ∃ i : Nat, s15 = .int .i64 i ∧ Aside0 (spec_PlayState.dot s kq i = some (j : Int)) ∧ Aside0 (kq ≤ k1) ∧ Aside0 (wr = wm_))
              case atStart => exact ⟨0, rfl, HED, ⟨Nat.le_refl _⟩, ⟨rfl⟩⟩
              case round =>
                clear HED
                obtain ⟨i, rfl, HD, HKK, HW⟩ := hrel
                have hwe := HW.out
                clear HW
                subst hwe
                cases gk with
                | zero => exact absurd HD.out (by simp [spec_PlayState.dot])
                | succ k9 =>
                  have H := HD.out
                  clear HD
                  rw [spec_PlayState.dot] at H
                  by_cases h4 : (0 ≤ (i : Int) ∧ (i : Int) < (s.size : Int)) ∧ s.size ≤ 4611686018427387904
                  case neg => rw [if_neg h4] at H; cases H
                  rw [if_pos h4] at H
                  have hil : i < s.size := by omega
                  have hce := HTX.out.cell i hil
                  have qa := eq_true (show (0 : Int) ≤ (i : Int) by omega)
                  have qb := eq_true (show (i : Int) < (a1.size : Int) by have := HSZ.out; omega)
                  have qc := eq_true (show i < a1.size by have := HSZ.out; omega)
                  by_cases h5 : bt s (i : Int) = 46
                  · rw [if_pos h5] at H
                    have hij : i = j := by have := Option.some.inj H; omega
                    subst hij
                    have c5 : (bt s (i : Int) != 46) = false := bne_eq_false_iff_eq.mpr h5
                    clear H h4 h5 hil
                    go_wp2_with (first | ((with_reducible refine gate_store (t := 5) (p := 68) rfl ?_); have hfz := HTX.out.frozen i HJ.out; refine store_event (t := 5) (p := 68) (v := .tmp 67) (w1 := wr.setCell ⟨gt, i, none⟩ (.int .u8 (if true then 115 else 99))) ?hg ?ho ?hn ?hr ?_; (case ho => rfl); (case hg => rfl); (case hn => rfl); (case hr => first | (go_simp; done) | (go_simp; rfl)); intro w2_ hw_; have nT_ := Aside0.mk (HTX.out.set i HJ.out true); have nK_ := Aside0.mk (Kd.R_far (p := ⟨gt, i, none⟩) HKN.out (fun _ hk => hk) (.int .u8 (if true then 115 else 99))); have nB_ := Aside0.mk (below_set (j := i) (v := .int .u8 (if true then 115 else 99)) HBD.out HGT.out); rw [← hw_] at nT_ nK_ nB_; clear hw_ HTX HKN HBD; have HTX := nT_; have HKN := nK_; have HBD := nB_; clear nT_ nK_ nB_))
                    go_roundg k1
                    case measure => have := HK.out; omega
                    case rel => exact ⟨afterV s i true, !true, m2, by first | rfl | go_num, HA, ⟨by have := HK.out; omega⟩, ⟨by rw [afterV_size s i true HJ.out]; exact HSZ.out⟩, HTX, HKN, HBD⟩
                  · rw [if_neg h5] at H
                    have c5 : (bt s (i : Int) != 46) = true := bne_iff_ne.mpr h5
                    have wi : wrap64 ((i : Int) + 1) = ((i + 1 : Nat) : Int) := by
                      unfold wrap64; omega
                    have HD := Aside0.mk (show spec_PlayState.dot s k9 ((i + 1 : Nat) : Int) = some (j : Int) from H)
                    clear H h4 h5 hil
                    go_wp2_with fail
                    go_roundg k9
                    case measure => have := HKK.out; omega
                    case rel => exact ⟨i + 1, by first | rfl | (rw [← wi]; go_num) | go_num, HD, ⟨by have := HKK.out; omega⟩, ⟨rfl⟩⟩
            | false =>
              have eo : ownV false = 2 := rfl
              have w1_ : wrap64 (2 - 1) = 1 := by unfold wrap64; omega
              have w2_ : wrap64 (3 - 2) = 1 := by unfold wrap64; omega
              have w3_ : IntKind.i64.wrap (2 - 1) = 1 := (i64_w _).trans w1_
              have w4_ : IntKind.i64.wrap (3 - 2) = 1 := (i64_w _).trans w2_
              rw [eo] at h9 HMO
              subst h9
              clear eo
              go_wp2_with (first | (go_at_call 32; refine (spec_l10Sets.calls k1 a0_0 A0_1 c0_1 l0_1 s k2 o2 f2 _ (Kd.C_below HRd.out HBD.out) HC0.out HSE.out).mono ?_; rintro e w_ ⟨rfl, hb⟩; (try clear hc30); (try clear hc31); (try clear kcv); have nB_ := Aside0.mk (below_step HBD.out hb); have nT_ := Aside0.mk (HTX.out.below hb); have nK_ := Aside0.mk (Kd.R_below HKN.out hb); clear HBD HTX HKN hb; have HBD := nB_; have HTX := nT_; have HKN := nK_; clear nB_ nT_ nK_; have kcv := HTX.out.str a1.size cp HSZ.out; have hc30 := (blk_cell (blk_below HX3d.out HBD.out) 0).trans rfl; have hc31 := (blk_cell (blk_below HX3d.out HBD.out) 1).trans rfl) | (go_at_call 33; refine (spec_l10Over.calls k1 a0_0 A0_1 c0_1 l0_1 k2 o2 ov _ (Kd.C_below HRd.out HBD.out) HC0.out HOV.out).mono ?_; rintro e w_ ⟨rfl, hb⟩; (try clear hc30); (try clear hc31); (try clear kcv); have nB_ := Aside0.mk (below_step HBD.out hb); have nT_ := Aside0.mk (HTX.out.below hb); have nK_ := Aside0.mk (Kd.R_below HKN.out hb); clear HBD HTX HKN hb; have HBD := nB_; have HTX := nT_; have HKN := nK_; clear nB_ nT_ nK_; have kcv := HTX.out.str a1.size cp HSZ.out; have hc30 := (blk_cell (blk_below HX3d.out HBD.out) 0).trans rfl; have hc31 := (blk_cell (blk_below HX3d.out HBD.out) 1).trans rfl) | (go_at_call 43; with_reducible refine (spec_l10Moves.calls k1 a0_0 A0_1 c0_1 l0_1 k2 o2 _ (fun k_ => some k_ = (Value.slice A26 kn0.length c26).ownBlock) (Value.slice A26 kn0.length c26) kn _ m2 wd_ _ ?side1 ?side2 ?side3 ?side4 HMO.out).mono ?_; (case side1 => exact HBD.out); (case side2 => exact Kd.C_kept_came (Kd.heap_slice 2 (Kd.heap_int .i64)) HRd.out HBD.out (fun k_ hs_ => Kd.R_base HKN.out k_ hs_.symm)); (case side3 => exact HC0.out); (case side4 => exact Kd.R_tight rfl HKN.out); rintro e wm_ ⟨v49, rfl, ho, hy, hb, hkp⟩; (try clear hc30); (try clear hc31); (try clear kcv); have nT_ := Aside0.mk (HTX.out.kept hkp (R_gt_ HKN.out)); have nK_ := Aside0.mk (Kd.R_reok rfl hy (R_ok_ HKN.out)); have nB_ := Aside0.mk hb; clear HTX HKN HBD hb hkp hy; have HTX := nT_; have HKN := nK_; have HBD := nB_; clear nT_ nK_ nB_; obtain ⟨A49, c49, e49⟩ := Kd.R_slice ho; subst e49; clear ho))
              (try clear hc30)
              (try clear hc31)
              go_loopg [15] k1 (fun kq s15 wr => ∃ i : Nat, s15 = .int .i64 i ∧ Aside0 (spec_PlayState.dot s kq i = some (j : Int)) ∧ Aside0 (kq ≤ k1) ∧ Aside0 (wr = wm_))
              case atStart => exact ⟨0, rfl, HED, ⟨Nat.le_refl _⟩, ⟨rfl⟩⟩
              case round =>
                clear HED
                obtain ⟨i, rfl, HD, HKK, HW⟩ := hrel
                have hwe := HW.out
                clear HW
                subst hwe
                cases gk with
                | zero => exact absurd HD.out (by simp [spec_PlayState.dot])
                | succ k9 =>
                  have H := HD.out
                  clear HD
                  rw [spec_PlayState.dot] at H
                  by_cases h4 : (0 ≤ (i : Int) ∧ (i : Int) < (s.size : Int)) ∧ s.size ≤ 4611686018427387904
                  case neg => rw [if_neg h4] at H; cases H
                  rw [if_pos h4] at H
                  have hil : i < s.size := by omega
                  have hce := HTX.out.cell i hil
                  have qa := eq_true (show (0 : Int) ≤ (i : Int) by omega)
                  have qb := eq_true (show (i : Int) < (a1.size : Int) by have := HSZ.out; omega)
                  have qc := eq_true (show i < a1.size by have := HSZ.out; omega)
                  by_cases h5 : bt s (i : Int) = 46
                  · rw [if_pos h5] at H
                    have hij : i = j := by have := Option.some.inj H; omega
                    subst hij
                    have c5 : (bt s (i : Int) != 46) = false := bne_eq_false_iff_eq.mpr h5
                    clear H h4 h5 hil
                    go_wp2_with (first | ((with_reducible refine gate_store (t := 5) (p := 68) rfl ?_); have hfz := HTX.out.frozen i HJ.out; refine store_event (t := 5) (p := 68) (v := .tmp 67) (w1 := wr.setCell ⟨gt, i, none⟩ (.int .u8 (if false then 115 else 99))) ?hg ?ho ?hn ?hr ?_; (case ho => rfl); (case hg => rfl); (case hn => rfl); (case hr => first | (go_simp; done) | (go_simp; rfl)); intro w2_ hw_; have nT_ := Aside0.mk (HTX.out.set i HJ.out false); have nK_ := Aside0.mk (Kd.R_far (p := ⟨gt, i, none⟩) HKN.out (fun _ hk => hk) (.int .u8 (if false then 115 else 99))); have nB_ := Aside0.mk (below_set (j := i) (v := .int .u8 (if false then 115 else 99)) HBD.out HGT.out); rw [← hw_] at nT_ nK_ nB_; clear hw_ HTX HKN HBD; have HTX := nT_; have HKN := nK_; have HBD := nB_; clear nT_ nK_ nB_))
                    go_roundg k1
                    case measure => have := HK.out; omega
                    case rel => exact ⟨afterV s i false, !false, m2, by first | rfl | go_num, HA, ⟨by have := HK.out; omega⟩, ⟨by rw [afterV_size s i false HJ.out]; exact HSZ.out⟩, HTX, HKN, HBD⟩
                  · rw [if_neg h5] at H
                    have c5 : (bt s (i : Int) != 46) = true := bne_iff_ne.mpr h5
                    have wi : wrap64 ((i : Int) + 1) = ((i + 1 : Nat) : Int) := by
                      unfold wrap64; omega
                    have HD := Aside0.mk (show spec_PlayState.dot s k9 ((i + 1 : Nat) : Int) = some (j : Int) from H)
                    clear H h4 h5 hil
                    go_wp2_with fail
                    go_roundg k9
                    case measure => have := HKK.out; omega
                    case rel => exact ⟨i + 1, by first | rfl | (rw [← wi]; go_num) | go_num, HD, ⟨by have := HKK.out; omega⟩, ⟨rfl⟩⟩
          · rw [if_neg h3] at hed
            have hrd : rd m1 0 = (j : Int) := Option.some.inj hed
            have HLN := Aside0.mk (List.length_pos_iff.2 h3)
            clear hed h3
            cases b with
            | true =>
              have eo : ownV true = 1 := rfl
              have w1_ : wrap64 (1 - 1) = 0 := by unfold wrap64; omega
              have w2_ : wrap64 (3 - 1) = 2 := by unfold wrap64; omega
              have w3_ : IntKind.i64.wrap (1 - 1) = 0 := (i64_w _).trans w1_
              have w4_ : IntKind.i64.wrap (3 - 1) = 2 := (i64_w _).trans w2_
              rw [eo] at h9 HMO
              subst h9
              clear eo
              go_wp2_with (first | (go_at_call 32; refine (spec_l10Sets.calls k1 a0_0 A0_1 c0_1 l0_1 s k2 o2 f2 _ (Kd.C_below HRd.out HBD.out) HC0.out HSE.out).mono ?_; rintro e w_ ⟨rfl, hb⟩; (try clear hc30); (try clear hc31); (try clear kcv); have nB_ := Aside0.mk (below_step HBD.out hb); have nT_ := Aside0.mk (HTX.out.below hb); have nK_ := Aside0.mk (Kd.R_below HKN.out hb); clear HBD HTX HKN hb; have HBD := nB_; have HTX := nT_; have HKN := nK_; clear nB_ nT_ nK_; have kcv := HTX.out.str a1.size cp HSZ.out; have hc30 := (blk_cell (blk_below HX3d.out HBD.out) 0).trans rfl; have hc31 := (blk_cell (blk_below HX3d.out HBD.out) 1).trans rfl) | (go_at_call 33; refine (spec_l10Over.calls k1 a0_0 A0_1 c0_1 l0_1 k2 o2 ov _ (Kd.C_below HRd.out HBD.out) HC0.out HOV.out).mono ?_; rintro e w_ ⟨rfl, hb⟩; (try clear hc30); (try clear hc31); (try clear kcv); have nB_ := Aside0.mk (below_step HBD.out hb); have nT_ := Aside0.mk (HTX.out.below hb); have nK_ := Aside0.mk (Kd.R_below HKN.out hb); clear HBD HTX HKN hb; have HBD := nB_; have HTX := nT_; have HKN := nK_; clear nB_ nT_ nK_; have kcv := HTX.out.str a1.size cp HSZ.out; have hc30 := (blk_cell (blk_below HX3d.out HBD.out) 0).trans rfl; have hc31 := (blk_cell (blk_below HX3d.out HBD.out) 1).trans rfl) | (go_at_call 43; with_reducible refine (spec_l10Moves.calls k1 a0_0 A0_1 c0_1 l0_1 k2 o2 _ (fun k_ => some k_ = (Value.slice A26 kn0.length c26).ownBlock) (Value.slice A26 kn0.length c26) kn _ m2 wd_ _ ?side1 ?side2 ?side3 ?side4 HMO.out).mono ?_; (case side1 => exact HBD.out); (case side2 => exact Kd.C_kept_came (Kd.heap_slice 2 (Kd.heap_int .i64)) HRd.out HBD.out (fun k_ hs_ => Kd.R_base HKN.out k_ hs_.symm)); (case side3 => exact HC0.out); (case side4 => exact Kd.R_tight rfl HKN.out); rintro e wm_ ⟨v49, rfl, ho, hy, hb, hkp⟩; (try clear hc30); (try clear hc31); (try clear kcv); have nT_ := Aside0.mk (HTX.out.kept hkp (R_gt_ HKN.out)); have nK_ := Aside0.mk (Kd.R_reok rfl hy (R_ok_ HKN.out)); have nB_ := Aside0.mk hb; clear HTX HKN HBD hb hkp hy; have HTX := nT_; have HKN := nK_; have HBD := nB_; clear nT_ nK_ nB_; obtain ⟨A49, c49, e49⟩ := Kd.R_slice ho; subst e49; have qi := (show (0 : Int) < (m1.length : Int) by have := HLN.out; omega); obtain ⟨ad49, e49, hx49⟩ := Kd.at_int (Kd.R_reads' ho).2.2 0 (by omega) qi; cases e49; (try rw [show ((0 : Int)).toNat = 0 from rfl] at hx49); (try rw [Addr.add_zero'] at hx49); rw [hrd] at hx49; have qj := eq_true HLN.out; have qd : decide ((0 : Int) < (m1.length : Int)) = true := decide_eq_true qi; replace qi := eq_true qi; clear ho hrd; have hce := HTX.out.cell j HJ.out; have hfz := HTX.out.frozen j HJ.out; have qa := eq_true (show (0 : Int) ≤ (j : Int) by omega); have qb := eq_true (show (j : Int) < (a1.size : Int) by have := HSZ.out; have := HJ.out; omega); have qc := eq_true (show j < a1.size by have := HSZ.out; have := HJ.out; omega)) | ((with_reducible refine gate_store (t := 5) (p := 68) rfl ?_); have hfz := HTX.out.frozen j HJ.out; refine store_event (t := 5) (p := 68) (v := .tmp 67) (w1 := wm_.setCell ⟨gt, j, none⟩ (.int .u8 (if true then 115 else 99))) ?hg ?ho ?hn ?hr ?_; (case ho => rfl); (case hg => rfl); (case hn => rfl); (case hr => first | (go_simp; done) | (go_simp; rfl)); intro w2_ hw_; have nT_ := Aside0.mk (HTX.out.set j HJ.out true); have nK_ := Aside0.mk (Kd.R_far (p := ⟨gt, j, none⟩) HKN.out (fun _ hk => hk) (.int .u8 (if true then 115 else 99))); have nB_ := Aside0.mk (below_set (j := j) (v := .int .u8 (if true then 115 else 99)) HBD.out HGT.out); rw [← hw_] at nT_ nK_ nB_; clear hw_ HTX HKN HBD; have HTX := nT_; have HKN := nK_; have HBD := nB_; clear nT_ nK_ nB_))
              go_roundg k1
              case measure => have := HK.out; omega
              case rel => exact ⟨afterV s j true, !true, m2, by first | rfl | go_num, HA, ⟨by have := HK.out; omega⟩, ⟨by rw [afterV_size s j true HJ.out]; exact HSZ.out⟩, HTX, HKN, HBD⟩
            | false =>
              have eo : ownV false = 2 := rfl
              have w1_ : wrap64 (2 - 1) = 1 := by unfold wrap64; omega
              have w2_ : wrap64 (3 - 2) = 1 := by unfold wrap64; omega
              have w3_ : IntKind.i64.wrap (2 - 1) = 1 := (i64_w _).trans w1_
              have w4_ : IntKind.i64.wrap (3 - 2) = 1 := (i64_w _).trans w2_
              rw [eo] at h9 HMO
              subst h9
              clear eo
              go_wp2_with (first | (go_at_call 32; refine (spec_l10Sets.calls k1 a0_0 A0_1 c0_1 l0_1 s k2 o2 f2 _ (Kd.C_below HRd.out HBD.out) HC0.out HSE.out).mono ?_; rintro e w_ ⟨rfl, hb⟩; (try clear hc30); (try clear hc31); (try clear kcv); have nB_ := Aside0.mk (below_step HBD.out hb); have nT_ := Aside0.mk (HTX.out.below hb); have nK_ := Aside0.mk (Kd.R_below HKN.out hb); clear HBD HTX HKN hb; have HBD := nB_; have HTX := nT_; have HKN := nK_; clear nB_ nT_ nK_; have kcv := HTX.out.str a1.size cp HSZ.out; have hc30 := (blk_cell (blk_below HX3d.out HBD.out) 0).trans rfl; have hc31 := (blk_cell (blk_below HX3d.out HBD.out) 1).trans rfl) | (go_at_call 33; refine (spec_l10Over.calls k1 a0_0 A0_1 c0_1 l0_1 k2 o2 ov _ (Kd.C_below HRd.out HBD.out) HC0.out HOV.out).mono ?_; rintro e w_ ⟨rfl, hb⟩; (try clear hc30); (try clear hc31); (try clear kcv); have nB_ := Aside0.mk (below_step HBD.out hb); have nT_ := Aside0.mk (HTX.out.below hb); have nK_ := Aside0.mk (Kd.R_below HKN.out hb); clear HBD HTX HKN hb; have HBD := nB_; have HTX := nT_; have HKN := nK_; clear nB_ nT_ nK_; have kcv := HTX.out.str a1.size cp HSZ.out; have hc30 := (blk_cell (blk_below HX3d.out HBD.out) 0).trans rfl; have hc31 := (blk_cell (blk_below HX3d.out HBD.out) 1).trans rfl) | (go_at_call 43; with_reducible refine (spec_l10Moves.calls k1 a0_0 A0_1 c0_1 l0_1 k2 o2 _ (fun k_ => some k_ = (Value.slice A26 kn0.length c26).ownBlock) (Value.slice A26 kn0.length c26) kn _ m2 wd_ _ ?side1 ?side2 ?side3 ?side4 HMO.out).mono ?_; (case side1 => exact HBD.out); (case side2 => exact Kd.C_kept_came (Kd.heap_slice 2 (Kd.heap_int .i64)) HRd.out HBD.out (fun k_ hs_ => Kd.R_base HKN.out k_ hs_.symm)); (case side3 => exact HC0.out); (case side4 => exact Kd.R_tight rfl HKN.out); rintro e wm_ ⟨v49, rfl, ho, hy, hb, hkp⟩; (try clear hc30); (try clear hc31); (try clear kcv); have nT_ := Aside0.mk (HTX.out.kept hkp (R_gt_ HKN.out)); have nK_ := Aside0.mk (Kd.R_reok rfl hy (R_ok_ HKN.out)); have nB_ := Aside0.mk hb; clear HTX HKN HBD hb hkp hy; have HTX := nT_; have HKN := nK_; have HBD := nB_; clear nT_ nK_ nB_; obtain ⟨A49, c49, e49⟩ := Kd.R_slice ho; subst e49; have qi := (show (0 : Int) < (m1.length : Int) by have := HLN.out; omega); obtain ⟨ad49, e49, hx49⟩ := Kd.at_int (Kd.R_reads' ho).2.2 0 (by omega) qi; cases e49; (try rw [show ((0 : Int)).toNat = 0 from rfl] at hx49); (try rw [Addr.add_zero'] at hx49); rw [hrd] at hx49; have qj := eq_true HLN.out; have qd : decide ((0 : Int) < (m1.length : Int)) = true := decide_eq_true qi; replace qi := eq_true qi; clear ho hrd; have hce := HTX.out.cell j HJ.out; have hfz := HTX.out.frozen j HJ.out; have qa := eq_true (show (0 : Int) ≤ (j : Int) by omega); have qb := eq_true (show (j : Int) < (a1.size : Int) by have := HSZ.out; have := HJ.out; omega); have qc := eq_true (show j < a1.size by have := HSZ.out; have := HJ.out; omega)) | ((with_reducible refine gate_store (t := 5) (p := 68) rfl ?_); have hfz := HTX.out.frozen j HJ.out; refine store_event (t := 5) (p := 68) (v := .tmp 67) (w1 := wm_.setCell ⟨gt, j, none⟩ (.int .u8 (if false then 115 else 99))) ?hg ?ho ?hn ?hr ?_; (case ho => rfl); (case hg => rfl); (case hn => rfl); (case hr => first | (go_simp; done) | (go_simp; rfl)); intro w2_ hw_; have nT_ := Aside0.mk (HTX.out.set j HJ.out false); have nK_ := Aside0.mk (Kd.R_far (p := ⟨gt, j, none⟩) HKN.out (fun _ hk => hk) (.int .u8 (if false then 115 else 99))); have nB_ := Aside0.mk (below_set (j := j) (v := .int .u8 (if false then 115 else 99)) HBD.out HGT.out); rw [← hw_] at nT_ nK_ nB_; clear hw_ HTX HKN HBD; have HTX := nT_; have HKN := nK_; have HBD := nB_; clear nT_ nK_ nB_))
              go_roundg k1
              case measure => have := HK.out; omega
              case rel => exact ⟨afterV s j false, !false, m2, by first | rfl | go_num, HA, ⟨by have := HK.out; omega⟩, ⟨by rw [afterV_size s j false HJ.out]; exact HSZ.out⟩, HTX, HKN, HBD⟩
/-! ### impl_first: function 44 -/
def impl_first.l0 : Nat → List (S71) → Int → Int → Option (Int)
 | 0, _, _, _ => none
 | k + 1, x5, x6, x7 => if x7 < x6 then (if 0 ≤ x7 then (if x7 < (x5.length : Int) then (if ((rd_T71 x5 x7).f0 = true) then (impl_first.l0 k x5 x6 (wrap64 (x7 + 1))) else (some ((rd_T71 x5 x7).f1))) else (none)) else (none)) else (some 0)
def impl_first.f (k : Nat) (l0 : List (S71)) : Option (Int) := impl_first.l0 k l0 (l0.length : Int) 0
set_option maxHeartbeats 8000000 in
set_option maxRecDepth 100000 in
theorem impl_first.calls (k : Nat) (A0 : Option Addr) (c0 : Nat) (l0 : List (S71)) (r : Int) (w : World) (hr0 : Kd.C k71 w A0 l0.length l0) (hc0 : l0.length ≤ c0) (h : impl_first.f k l0 = some r) :
  Calls Tryd.prog 44 #[.slice A0 l0.length c0] w fun e w' => e = .returned (.int .i64 r) ∧ Below w.heap.size w w' := by
 have hu71 := Tryd.underlying71
 have HR0 := Aside0.mk hr0
 have HC0 := Aside0.mk hc0
 clear hr0 hc0
 have HB := Aside0.mk (Below.refl w.heap.size w)
 have H : (impl_first.l0 k l0 (l0.length : Int) 0) = some r := h
 clear h
 have H' := Aside0.mk H
 clear H
 go_enter Tryd.func44, Tryd.ntmps44
 go_wp2
 go_loopg [7] k (fun kq v7 w' => ∃ (x7_1 : Int), v7 = .int .i64 x7_1 ∧ Aside0 (impl_first.l0 kq l0 (l0.length : Int) x7_1 = some r) ∧ Aside0 (kq ≤ k) ∧ Aside0 (Below w.heap.size w w'))
 case atStart => exact ⟨(0), (by first | rfl | (simp; done) | (simp [*]; done)), H', ⟨Nat.le_refl _⟩, ⟨by repeat (first | (with_reducible first | exact HB.out | apply below_alloc | apply pw_below_drewN | apply below_drew1) | exact HB.out)⟩⟩
 case round =>
  clear H'
  obtain ⟨x7_1, rfl, HA, HK1, HB⟩ := hrel
  cases gk with
  | zero => exact absurd HA.out (by simp [impl_first.l0])
  | succ k1 =>
   have H := HA.out
   clear HA
   simp only [impl_first.l0] at H
   by_cases c2 : x7_1 < (l0.length : Int)
   ·rw [if_pos c2] at H
    have c2b0 : decide (x7_1 < (l0.length : Int)) = true := decide_eq_true c2
    clear c2
    by_cases c3 : 0 ≤ x7_1
    ·rw [if_pos c3] at H
     have c3b0 : decide (0 ≤ x7_1) = true := decide_eq_true c3
     clear c3
     by_cases c4 : x7_1 < (l0.length : Int)
     ·rw [if_pos c4] at H
      have c4b0 : decide (x7_1 < (l0.length : Int)) = true := decide_eq_true c4
      clear c4
      obtain ⟨bq5, hbq5⟩ : ∃ b_ : Bool, b_ = ((rd_T71 l0 x7_1).f0) := ⟨_, rfl⟩
      replace H : (if (bq5 = true) then (impl_first.l0 k1 l0 (l0.length : Int) (wrap64 (x7_1 + 1))) else (some ((rd_T71 l0 x7_1).f1))) = some r := by rw [← hbq5] at H; exact H
      have Nbq5 := Aside0.mk hbq5
      clear hbq5
      by_cases c6 : (bq5 = true)
      ·subst c6
       have H1 : (impl_first.l0 k1 l0 (l0.length : Int) (wrap64 (x7_1 + 1))) = some r := by rw [if_pos rfl] at H; exact H
       clear H
       have H := H1
       clear H1
       have H' := Aside0.mk H
       clear H
       have p166 : 0 ≤ (x7_1 : Int) := oda
       have q166 : x7_1 < (l0.length : Int) := oda
       obtain ⟨ad166, e166, hx166_0, hx166_1⟩ := at_T71 HR0.out x7_1 p166 q166
       (try rw [← Nbq5.out] at hx166_0)
       cases e166
       replace hx166_0 := (HB.out.cell (World.block_lt_of_cell? w _ hx166_0)).trans hx166_0
       replace hx166_1 := (HB.out.cell (World.block_lt_of_cell? w _ hx166_1)).trans hx166_1
       replace p166 := eq_true p166
       replace q166 := eq_true q166
       go_wp2_with (first | ((with_reducible refine gate_dst (N := 4) rfl ?_); refine box_event ?hg (N := 4) ?hd (cs := #[.bool false, .int .i64 0]) (t := 71) ?hr ?_; (case hd => rfl); (case hg => rfl); (case hr => first | (go_simp; done) | (go_simp; rfl)); intro gb167 hg w7 hbox hb; have n0_ := Aside0.mk (below_step hb_ hb); have n1_ := Aside0.mk (hbox); have n2_ := Aside0.mk ((by rw [hg]; exact (below_size hb_) : w.heap.size ≤ gb167)); have n3_ := Aside0.mk ((by rw [hg]; exact (below_size hb_) : w.heap.size ≤ gb167)); clear HB; have HB := n0_; have BK167 := n1_; have GW167 := n2_; have GE167 := n3_; clear n0_ n1_ n2_ n3_; clear hb hbox hg; have hcz8_0 : w7.cell? ⟨gb167, 0, none⟩ = some (.bool false) := (blk_cell BK167.out 0).trans rfl; have hcz8_1 : w7.cell? ⟨gb167, 1, none⟩ = some (.int .i64 0) := (blk_cell BK167.out 1).trans rfl; have hfz8_0 := blk_frozen BK167.out 0; have hfz8_1 := blk_frozen BK167.out 1))
       go_roundg k1
       case measure => have := HK1.out; omega
       case rel => exact ⟨(wrap64 (x7_1 + 1)), (by first | rfl | (simp; done) | (simp [*]; done)), H', ⟨by have := HK1.out; omega⟩, ⟨by repeat (first | (with_reducible first | exact HB.out | apply below_alloc | apply pw_below_drewN | apply below_drew1 | refine below_set ?_ GE167.out) | exact HB.out)⟩⟩
      ·replace c6 := Bool.eq_false_iff.mpr c6
       subst c6
       have H1 : (some ((rd_T71 l0 x7_1).f1)) = some r := by rw [if_neg (show ¬ (false = true) by decide)] at H; exact H
       clear H
       have H := H1
       clear H1
       obtain rfl := Option.some.inj H
       have p166 : 0 ≤ (x7_1 : Int) := oda
       have q166 : x7_1 < (l0.length : Int) := oda
       obtain ⟨ad166, e166, hx166_0, hx166_1⟩ := at_T71 HR0.out x7_1 p166 q166
       (try rw [← Nbq5.out] at hx166_0)
       cases e166
       replace hx166_0 := (HB.out.cell (World.block_lt_of_cell? w _ hx166_0)).trans hx166_0
       replace hx166_1 := (HB.out.cell (World.block_lt_of_cell? w _ hx166_1)).trans hx166_1
       replace p166 := eq_true p166
       replace q166 := eq_true q166
       go_wp2_with (first | ((with_reducible refine gate_dst (N := 4) rfl ?_); refine box_event ?hg (N := 4) ?hd (cs := #[.bool false, .int .i64 0]) (t := 71) ?hr ?_; (case hd => rfl); (case hg => rfl); (case hr => first | (go_simp; done) | (go_simp; rfl)); intro gb167 hg w9 hbox hb; have n0_ := Aside0.mk (below_step hb_ hb); have n1_ := Aside0.mk (hbox); have n2_ := Aside0.mk ((by rw [hg]; exact (below_size hb_) : w.heap.size ≤ gb167)); have n3_ := Aside0.mk ((by rw [hg]; exact (below_size hb_) : w.heap.size ≤ gb167)); clear HB; have HB := n0_; have BK167 := n1_; have GW167 := n2_; have GE167 := n3_; clear n0_ n1_ n2_ n3_; clear hb hbox hg; have hcz10_0 : w9.cell? ⟨gb167, 0, none⟩ = some (.bool false) := (blk_cell BK167.out 0).trans rfl; have hcz10_1 : w9.cell? ⟨gb167, 1, none⟩ = some (.int .i64 0) := (blk_cell BK167.out 1).trans rfl; have hfz10_0 := blk_frozen BK167.out 0; have hfz10_1 := blk_frozen BK167.out 1))
       go_ret
       exact ⟨by first | rfl | (simp [errW_none, errW_some] <;> rfl) | (simp [*, errW_none, errW_some] <;> rfl), by repeat (first | (with_reducible first | exact HB.out | apply below_alloc | apply pw_below_drewN | apply below_drew1 | refine below_set ?_ GE167.out) | exact HB.out)⟩
     ·rw [if_neg c4] at H
      exact absurd H (by simp)
    ·rw [if_neg c3] at H
     exact absurd H (by simp)
   ·rw [if_neg c2] at H
    have c2b0 : decide (x7_1 < (l0.length : Int)) = false := decide_eq_false c2
    clear c2
    obtain rfl := Option.some.inj H
    go_wp2
    go_ret
    exact ⟨by first | rfl | (simp [errW_none, errW_some] <;> rfl) | (simp [*, errW_none, errW_some] <;> rfl), by repeat (first | (with_reducible first | exact HB.out | apply below_alloc | apply pw_below_drewN | apply below_drew1) | exact HB.out)⟩
def Tryd.lays160_ren : Go.Shelf.Ren := ⟨fun | 160 => 59 | 232 => 77 | 231 => 76 | 227 => 78 | 234 => 80 | 233 => 79 | 236 => 82 | 235 => 81 | 228 => 91 | 271 => 94 | 151 => 93 | 197 => 92 | 120 => 99 | 152 => 98 | 260 => 97 | 137 => 101 | 119 => 102 | 224 => 103 | 225 => 104 | 217 => 105 | 266 => 106 | n => n, fun | 9 => 9 | 4 => 4 | 3 => 3 | 5 => 5 | 117 => 102 | 116 => 101 | 0 => 0 | 124 => 105 | 21 => 21 | 105 => 115 | 46 => 81 | 119 => 121 | 139 => 124 | 138 => 123 | n => n, fun | 3 => 0 | 4 => 1 | n => n⟩
theorem Tryd.lays160 : Go.Proofs.Lays.n160 Tryd.prog Tryd.lays160_ren := {
  mixed := by kernel_rfl
  f119 := Tryd.func102.trans (congrArg some (by kernel_rfl))
  f120 := Tryd.func99.trans (congrArg some (by kernel_rfl))
  f137 := Tryd.func101.trans (congrArg some (by kernel_rfl))
  f151 := Tryd.func93.trans (congrArg some (by kernel_rfl))
  f152 := Tryd.func98.trans (congrArg some (by kernel_rfl))
  f160 := Tryd.func59.trans (congrArg some (by kernel_rfl))
  f197 := Tryd.func92.trans (congrArg some (by kernel_rfl))
  f217 := Tryd.func105.trans (congrArg some (by kernel_rfl))
  f224 := Tryd.func103.trans (congrArg some (by kernel_rfl))
  f225 := Tryd.func104.trans (congrArg some (by kernel_rfl))
  f227 := Tryd.func78.trans (congrArg some (by kernel_rfl))
  f228 := Tryd.func91.trans (congrArg some (by kernel_rfl))
  f231 := Tryd.func76.trans (congrArg some (by kernel_rfl))
  f232 := Tryd.func77.trans (congrArg some (by kernel_rfl))
  f233 := Tryd.func79.trans (congrArg some (by kernel_rfl))
  f234 := Tryd.func80.trans (congrArg some (by kernel_rfl))
  f235 := Tryd.func81.trans (congrArg some (by kernel_rfl))
  f236 := Tryd.func82.trans (congrArg some (by kernel_rfl))
  f260 := Tryd.func97.trans (congrArg some (by kernel_rfl))
  f266 := Tryd.func106.trans (congrArg some (by kernel_rfl))
  f271 := Tryd.func94.trans (congrArg some (by kernel_rfl))
  t0 := Tryd.underlying0
  a0 := Tryd.isAgg0
  z0 := Tryd.sizeOf0
  v0 := Tryd.zeroValue0
  t3 := Tryd.underlying3
  a3 := Tryd.isAgg3
  z3 := Tryd.sizeOf3
  v3 := Tryd.zeroValue3
  t4 := Tryd.underlying4
  a4 := Tryd.isAgg4
  z4 := Tryd.sizeOf4
  v4 := Tryd.zeroValue4
  t5 := Tryd.underlying5
  a5 := Tryd.isAgg5
  z5 := Tryd.sizeOf5
  v5 := Tryd.zeroValue5
  t9 := Tryd.underlying9
  a9 := Tryd.isAgg9
  z9 := Tryd.sizeOf9
  v9 := Tryd.zeroValue9
  t21 := Tryd.underlying21
  a21 := Tryd.isAgg21
  z21 := Tryd.sizeOf21
  v21 := Tryd.zeroValue21
  t46 := Tryd.underlying81
  a46 := Tryd.isAgg81
  z46 := Tryd.sizeOf81
  v46 := Tryd.zeroValue81
  t105 := Tryd.underlying115
  a105 := Tryd.isAgg115
  z105 := Tryd.sizeOf115
  v105 := Tryd.zeroValue115
  t116 := Tryd.underlying101
  a116 := Tryd.isAgg101
  z116 := Tryd.sizeOf101
  t117 := Tryd.underlying102
  a117 := Tryd.isAgg102
  z117 := Tryd.sizeOf102
  v117 := Tryd.zeroValue102
  t119 := Tryd.underlying121
  a119 := Tryd.isAgg121
  z119 := Tryd.sizeOf121
  t124 := Tryd.underlying105
  a124 := Tryd.isAgg105
  z124 := Tryd.sizeOf105
  v124 := Tryd.zeroValue105
  t138 := Tryd.underlying123
  a138 := Tryd.isAgg123
  z138 := Tryd.sizeOf123
  v138 := Tryd.zeroValue123
  t139 := Tryd.underlying124
  a139 := Tryd.isAgg124
  z139 := Tryd.sizeOf124
  v139 := Tryd.zeroValue124
  g3 := by kernel_rfl
  g4 := by kernel_rfl }
/-! ### strings_Trim: function 59 -/
-- EXTERNAL: by hand
def trimV (s c : ByteArray) : ByteArray := ⟨(Lib.trimS s.data.toList c.data.toList).toArray⟩
def strings_Trim.f (a0 : ByteArray) (a1 : ByteArray) : Option ByteArray := if a0.size ≤ 9223372036854775807 ∧ a1.size < 4294967281 ∧ (a1.data.toList.all fun b => decide (b.toNat < 128)) = true then some (trimV a0 a1) else none
theorem strings_Trim.calls (a0 : ByteArray) (a1 : ByteArray) (r : ByteArray) (w : World) (h : strings_Trim.f a0 a1 = some r) :
    Calls Tryd.prog 59 #[.string a0, .string a1] w fun e w' => e = .returned (.string r) ∧ Below w.heap.size w w' := by
  unfold strings_Trim.f at h
  by_cases hc : a0.size ≤ 9223372036854775807 ∧ a1.size < 4294967281 ∧ (a1.data.toList.all fun b => decide (b.toNat < 128)) = true
  · rw [if_pos hc] at h
    obtain rfl := Option.some.inj h
    have hcon := Any.strings_Trim_laid Tryd.lays160 (by kernel_rfl) a0 a1 w hc.1 hc.2.1 (fun j b hj => by
      have := List.all_eq_true.1 hc.2.2 b (List.mem_of_getElem? hj)
      simpa using this)
    exact hcon
  · rw [if_neg hc] at h; cases h
/-! ### slices_IndexFunc_int64_int64_95: function 95 -/
-- EXTERNAL: by hand
set_option maxHeartbeats 4000000 in
set_option maxRecDepth 100000 in
theorem slices_IndexFunc_int64_int64_95.calls (g : Nat) (lb : Array Value) (q : (List Int) → Prop) (p : (List Int) → Bool) (eg : ∀ args w, (callFunc g args).run Tryd.prog w = .ok (.enter g args) w)
    (A0 : Option Addr) (c0 : Nat) (l0 : List (List Int)) (w : World) (hp : PredK Tryd.prog g lb (Kd.slice 2 (Kd.int .i64)) q p w) (hq : ∀ x ∈ l0, q x) (hr0 : Kd.C (Kd.slice 2 (Kd.int .i64)) w A0 l0.length l0) (hm : l0.length ≤ 9223372036854775807) :
    Calls Tryd.prog 95 #[.slice A0 l0.length c0, .func (.func g) #[] lb] w fun e w' => e = .returned (.int .i64 (idxK p l0 0)) ∧ Below w.heap.size w w' := by
  have HP := Aside0.mk hp
  have HR := Aside0.mk hr0
  have HQ := Aside0.mk hq
  clear hp hr0 hq
  go_enter Tryd.func95, Tryd.ntmps95
  go_wp2
  go_loopg [5, 8] l0.length (fun gg _ s8 wr => ∃ kk : Nat, kk ≤ l0.length ∧ l0.length - kk ≤ gg ∧ s8 = .int .i64 kk ∧ Aside0 (idxK p (l0.drop kk) kk = idxK p l0 0) ∧ Aside0 (Below w.heap.size w wr))
  case atStart => exact ⟨0, Nat.zero_le _, by omega, rfl, ⟨rfl⟩, ⟨Below.refl _ _⟩⟩
  case round =>
    obtain ⟨kk, hkk, hg, rfl, A, HB⟩ := hrel
    by_cases hlt : kk < l0.length
    · have hltz : (kk : Int) < (l0.length : Int) := by omega
      obtain ⟨ad, v, rfl, hcell, hK⟩ := Kd.C_one rfl (Kd.C_below HR.out HB.out) kk hlt rfl
      have hcall := HP.out wr _ v (HQ.out _ (List.getElem_mem hlt)) hK HB.out
      have HK1 := (Kd.slice 2 (Kd.int .i64)).K_one hK v (by simp)
      have E := Aside0.mk (idxK_drop p l0 kk hlt)
      generalize p l0[kk] = b at hcall E
      clear hK
      cases b with
      | true =>
        go_wp2_with (go_at_fn g; refine hcall.mono ?_; rintro e w' ⟨rfl, hb⟩)
        go_ret
        refine ⟨?_, below_then HB.out HB.out.size hb⟩
        rw [← A.out, E.out]; rfl
      | false =>
        go_wp2_with (go_at_fn g; refine hcall.mono ?_; rintro e w' ⟨rfl, hb⟩)
        go_roundg (l0.length - (kk + 1))
        case measure => omega
        case rel => exact ⟨kk + 1, by omega, by omega, by go_num, ⟨by rw [← A.out, E.out]; rfl⟩, ⟨below_then HB.out HB.out.size hb⟩⟩
    · have hltz : ¬ (kk : Int) < (l0.length : Int) := by omega
      have : kk = l0.length := by omega
      subst this
      go_wp2
      go_ret
      refine ⟨?_, HB.out⟩
      rw [← A.out]; simp [idxK]/-! ### slices_ContainsFunc_int64_int64_83: function 83 -/
-- EXTERNAL: by hand
set_option maxHeartbeats 1000000 in
theorem slices_ContainsFunc_int64_int64_83.calls (g : Nat) (lb : Array Value) (q : (List Int) → Prop) (p : (List Int) → Bool) (eg : ∀ args w, (callFunc g args).run Tryd.prog w = .ok (.enter g args) w)
    (A0 : Option Addr) (c0 : Nat) (l0 : List (List Int)) (w : World) (hp : PredK Tryd.prog g lb (Kd.slice 2 (Kd.int .i64)) q p w) (hq : ∀ x ∈ l0, q x) (hr0 : Kd.C (Kd.slice 2 (Kd.int .i64)) w A0 l0.length l0) (hm : l0.length ≤ 9223372036854775807) :
    Calls Tryd.prog 83 #[.slice A0 l0.length c0, .func (.func g) #[] lb] w fun e w' => e = .returned (.bool (l0.any p)) ∧ Below w.heap.size w w' := by
  rw [← idxK_any]
  have HI := slices_IndexFunc_int64_int64_95.calls g lb q p eg A0 c0 l0 w hp hq hr0 hm
  clear hp hq hr0
  generalize idxK p l0 0 = r at HI ⊢
  go_enter Tryd.func83, Tryd.ntmps83
  go_wp2_with (go_at_call 95; refine HI.mono ?_; rintro e w' ⟨rfl, hb⟩)
  go_ret
  exact ⟨rfl, hb⟩/-! ### cmp_isNaN_int64: function 100 -/
def cmp_isNaN_int64.f (a0 : Int) : Option (Bool) := some (a0 != a0)
set_option maxHeartbeats 8000000 in
set_option maxRecDepth 100000 in
theorem cmp_isNaN_int64.calls (a0 : Int) (r : Bool) (w : World) (h : cmp_isNaN_int64.f a0 = some r) :
  Calls Tryd.prog 100 #[.int .i64 a0] w fun e w' => e = .returned (.bool r) ∧ Drawn0 w w' := by
 have H : (some (a0 != a0)) = some r := h
 clear h
 obtain rfl := Option.some.inj H
 go_enter Tryd.func100, Tryd.ntmps100
 go_wp2
 go_ret
 exact ⟨by first | rfl | (simp; done) | (simp [*]; done), by repeat (first | exact Drawn0.refl _ | apply Drawn0.step)⟩
/-! ### cmp_Compare_int64: function 96 -/
def cmp_Compare_int64.f (a0 : Int) (a1 : Int) : Option (Int) := (cmp_isNaN_int64.f a0).bind fun t172 => ((cmp_isNaN_int64.f a1).bind fun t173 => (if t172 = true then (if t173 = true then (some 0) else (some (-1))) else (if t173 = true then (some 1) else (if a0 < a1 then (some (-1)) else (if a0 > a1 then (some 1) else (some 0))))))
set_option maxHeartbeats 8000000 in
set_option maxRecDepth 100000 in
theorem cmp_Compare_int64.calls (a0 : Int) (a1 : Int) (r : Int) (w : World) (h : cmp_Compare_int64.f a0 a1 = some r) :
  Calls Tryd.prog 96 #[.int .i64 a0, .int .i64 a1] w fun e w' => e = .returned (.int .i64 r) ∧ Drawn0 w w' := by
 have H : ((cmp_isNaN_int64.f a0).bind fun t172 => ((cmp_isNaN_int64.f a1).bind fun t173 => (if t172 = true then (if t173 = true then (some 0) else (some (-1))) else (if t173 = true then (some 1) else (if a0 < a1 then (some (-1)) else (if a0 > a1 then (some 1) else (some 0))))))) = some r := h
 clear h
 replace H := Option.bind_eq_some_iff.mp H
 obtain ⟨t172, A30, H⟩ := H
 replace H : ((cmp_isNaN_int64.f a1).bind fun t173 => (if t172 = true then (if t173 = true then (some 0) else (some (-1))) else (if t173 = true then (some 1) else (if a0 < a1 then (some (-1)) else (if a0 > a1 then (some 1) else (some 0)))))) = some r := H
 have A3 := Aside0.mk A30
 clear A30
 replace H := Option.bind_eq_some_iff.mp H
 obtain ⟨t173, A40, H⟩ := H
 replace H : (if t172 = true then (if t173 = true then (some 0) else (some (-1))) else (if t173 = true then (some 1) else (if a0 < a1 then (some (-1)) else (if a0 > a1 then (some 1) else (some 0))))) = some r := H
 have A4 := Aside0.mk A40
 clear A40
 by_cases c5 : t172 = true
 ·subst c5
  have H1 : (if t173 = true then (some 0) else (some (-1))) = some r := by rw [if_pos rfl] at H; exact H
  clear H
  have H := H1
  clear H1
  by_cases c6 : t173 = true
  ·subst c6
   have H1 : (some 0) = some r := by rw [if_pos rfl] at H; exact H
   clear H
   have H := H1
   clear H1
   obtain rfl := Option.some.inj H
   go_enter Tryd.func96, Tryd.ntmps96
   go_wp2_with (first | ((with_reducible refine gate_callee (f := 100) rfl ?_); refine goesA_ (some 8) rfl rfl Tryd.func100 (by kernel_rfl) rfl #[.int .i64 a0] rfl ?_; (with_reducible refine (cmp_isNaN_int64.calls a0 true _ A3.out).mono ?_); rintro e w' ⟨rfl, ⟨nd, rfl⟩⟩; refine ⟨_, rfl, ?_⟩) | ((with_reducible refine gate_callee (f := 100) rfl ?_); refine goesA_ (some 10) rfl rfl Tryd.func100 (by kernel_rfl) rfl #[.int .i64 a1] rfl ?_; (with_reducible refine (cmp_isNaN_int64.calls a1 true _ A4.out).mono ?_); rintro e w' ⟨rfl, ⟨nd, rfl⟩⟩; refine ⟨_, rfl, ?_⟩))
   go_ret
   exact ⟨by first | rfl | (simp; done) | (simp [*]; done), by repeat (first | exact Drawn0.refl _ | apply Drawn0.step)⟩
  ·replace c6 := Bool.eq_false_iff.mpr c6
   subst c6
   have H1 : (some (-1)) = some r := by rw [if_neg (show ¬ (false = true) by decide)] at H; exact H
   clear H
   have H := H1
   clear H1
   obtain rfl := Option.some.inj H
   go_enter Tryd.func96, Tryd.ntmps96
   go_wp2_with (first | ((with_reducible refine gate_callee (f := 100) rfl ?_); refine goesA_ (some 8) rfl rfl Tryd.func100 (by kernel_rfl) rfl #[.int .i64 a0] rfl ?_; (with_reducible refine (cmp_isNaN_int64.calls a0 true _ A3.out).mono ?_); rintro e w' ⟨rfl, ⟨nd, rfl⟩⟩; refine ⟨_, rfl, ?_⟩) | ((with_reducible refine gate_callee (f := 100) rfl ?_); refine goesA_ (some 10) rfl rfl Tryd.func100 (by kernel_rfl) rfl #[.int .i64 a1] rfl ?_; (with_reducible refine (cmp_isNaN_int64.calls a1 false _ A4.out).mono ?_); rintro e w' ⟨rfl, ⟨nd, rfl⟩⟩; refine ⟨_, rfl, ?_⟩))
   go_ret
   exact ⟨by first | rfl | (simp; done) | (simp [*]; done), by repeat (first | exact Drawn0.refl _ | apply Drawn0.step)⟩
 ·replace c5 := Bool.eq_false_iff.mpr c5
  subst c5
  have H1 : (if t173 = true then (some 1) else (if a0 < a1 then (some (-1)) else (if a0 > a1 then (some 1) else (some 0)))) = some r := by rw [if_neg (show ¬ (false = true) by decide)] at H; exact H
  clear H
  have H := H1
  clear H1
  by_cases c7 : t173 = true
  ·subst c7
   have H1 : (some 1) = some r := by rw [if_pos rfl] at H; exact H
   clear H
   have H := H1
   clear H1
   obtain rfl := Option.some.inj H
   go_enter Tryd.func96, Tryd.ntmps96
   go_wp2_with (first | ((with_reducible refine gate_callee (f := 100) rfl ?_); refine goesA_ (some 8) rfl rfl Tryd.func100 (by kernel_rfl) rfl #[.int .i64 a0] rfl ?_; (with_reducible refine (cmp_isNaN_int64.calls a0 false _ A3.out).mono ?_); rintro e w' ⟨rfl, ⟨nd, rfl⟩⟩; refine ⟨_, rfl, ?_⟩) | ((with_reducible refine gate_callee (f := 100) rfl ?_); refine goesA_ (some 10) rfl rfl Tryd.func100 (by kernel_rfl) rfl #[.int .i64 a1] rfl ?_; (with_reducible refine (cmp_isNaN_int64.calls a1 true _ A4.out).mono ?_); rintro e w' ⟨rfl, ⟨nd, rfl⟩⟩; refine ⟨_, rfl, ?_⟩))
   go_ret
   exact ⟨by first | rfl | (simp; done) | (simp [*]; done), by repeat (first | exact Drawn0.refl _ | apply Drawn0.step)⟩
  ·replace c7 := Bool.eq_false_iff.mpr c7
   subst c7
   have H1 : (if a0 < a1 then (some (-1)) else (if a0 > a1 then (some 1) else (some 0))) = some r := by rw [if_neg (show ¬ (false = true) by decide)] at H; exact H
   clear H
   have H := H1
   clear H1
   by_cases c8 : a0 < a1
   ·rw [if_pos c8] at H
    have c8b0 : decide (a0 < a1) = true := decide_eq_true c8
    clear c8
    obtain rfl := Option.some.inj H
    go_enter Tryd.func96, Tryd.ntmps96
    go_wp2_with (first | ((with_reducible refine gate_callee (f := 100) rfl ?_); refine goesA_ (some 8) rfl rfl Tryd.func100 (by kernel_rfl) rfl #[.int .i64 a0] rfl ?_; (with_reducible refine (cmp_isNaN_int64.calls a0 false _ A3.out).mono ?_); rintro e w' ⟨rfl, ⟨nd, rfl⟩⟩; refine ⟨_, rfl, ?_⟩) | ((with_reducible refine gate_callee (f := 100) rfl ?_); refine goesA_ (some 10) rfl rfl Tryd.func100 (by kernel_rfl) rfl #[.int .i64 a1] rfl ?_; (with_reducible refine (cmp_isNaN_int64.calls a1 false _ A4.out).mono ?_); rintro e w' ⟨rfl, ⟨nd, rfl⟩⟩; refine ⟨_, rfl, ?_⟩))
    go_ret
    exact ⟨by first | rfl | (simp; done) | (simp [*]; done), by repeat (first | exact Drawn0.refl _ | apply Drawn0.step)⟩
   ·rw [if_neg c8] at H
    have c8b0 : decide (a0 < a1) = false := decide_eq_false c8
    clear c8
    by_cases c9 : a0 > a1
    ·rw [if_pos c9] at H
     have c9b0 : decide (a1 < a0) = true := decide_eq_true c9
     clear c9
     obtain rfl := Option.some.inj H
     go_enter Tryd.func96, Tryd.ntmps96
     go_wp2_with (first | ((with_reducible refine gate_callee (f := 100) rfl ?_); refine goesA_ (some 8) rfl rfl Tryd.func100 (by kernel_rfl) rfl #[.int .i64 a0] rfl ?_; (with_reducible refine (cmp_isNaN_int64.calls a0 false _ A3.out).mono ?_); rintro e w' ⟨rfl, ⟨nd, rfl⟩⟩; refine ⟨_, rfl, ?_⟩) | ((with_reducible refine gate_callee (f := 100) rfl ?_); refine goesA_ (some 10) rfl rfl Tryd.func100 (by kernel_rfl) rfl #[.int .i64 a1] rfl ?_; (with_reducible refine (cmp_isNaN_int64.calls a1 false _ A4.out).mono ?_); rintro e w' ⟨rfl, ⟨nd, rfl⟩⟩; refine ⟨_, rfl, ?_⟩))
     go_ret
     exact ⟨by first | rfl | (simp; done) | (simp [*]; done), by repeat (first | exact Drawn0.refl _ | apply Drawn0.step)⟩
    ·rw [if_neg c9] at H
     have c9b0 : decide (a1 < a0) = false := decide_eq_false c9
     clear c9
     obtain rfl := Option.some.inj H
     go_enter Tryd.func96, Tryd.ntmps96
     go_wp2_with (first | ((with_reducible refine gate_callee (f := 100) rfl ?_); refine goesA_ (some 8) rfl rfl Tryd.func100 (by kernel_rfl) rfl #[.int .i64 a0] rfl ?_; (with_reducible refine (cmp_isNaN_int64.calls a0 false _ A3.out).mono ?_); rintro e w' ⟨rfl, ⟨nd, rfl⟩⟩; refine ⟨_, rfl, ?_⟩) | ((with_reducible refine gate_callee (f := 100) rfl ?_); refine goesA_ (some 10) rfl rfl Tryd.func100 (by kernel_rfl) rfl #[.int .i64 a1] rfl ?_; (with_reducible refine (cmp_isNaN_int64.calls a1 false _ A4.out).mono ?_); rintro e w' ⟨rfl, ⟨nd, rfl⟩⟩; refine ⟨_, rfl, ?_⟩))
     go_ret
     exact ⟨by first | rfl | (simp; done) | (simp [*]; done), by repeat (first | exact Drawn0.refl _ | apply Drawn0.step)⟩
/-! ### slices_Compare_int64_int64: function 87 -/
def slices_Compare_int64_int64.l0 : Nat → List Int → List Int → List Int → Int → Int → Option (Int)
 | 0, _, _, _, _, _ => none
 | k + 1, x0, x1, x9, x10, x11 => if x11 < x10 then (if 0 ≤ x11 then (if x11 < (x9.length : Int) then (if x11 ≥ (x1.length : Int) then (some 1) else (if x11 < (x1.length : Int) then ((cmp_Compare_int64.f (rd x9 x11) (rd x1 x11)).bind fun t176 => (if t176 = 0 then (slices_Compare_int64_int64.l0 k x0 x1 x9 x10 (wrap64 (x11 + 1))) else (some t176))) else (none))) else (none)) else (none)) else (if (x0.length : Int) < (x1.length : Int) then (some (-1)) else (some 0))
def slices_Compare_int64_int64.f (k : Nat) (l0 : List Int) (l1 : List Int) : Option (Int) := slices_Compare_int64_int64.l0 k l0 l1 l0 (l0.length : Int) 0
set_option maxHeartbeats 8000000 in
set_option maxRecDepth 100000 in
theorem slices_Compare_int64_int64.calls (k : Nat) (A0 : Option Addr) (c0 : Nat) (l0 : List Int) (A1 : Option Addr) (c1 : Nat) (l1 : List Int) (r : Int) (w : World) (hr0 : Kd.C (Kd.int .i64) w A0 l0.length l0) (hc0 : l0.length ≤ c0) (hr1 : Kd.C (Kd.int .i64) w A1 l1.length l1) (hc1 : l1.length ≤ c1) (h : slices_Compare_int64_int64.f k l0 l1 = some r) :
  Calls Tryd.prog 87 #[.slice A0 l0.length c0, .slice A1 l1.length c1] w fun e w' => e = .returned (.int .i64 r) ∧ Drawn0 w w' := by
 have HR0 := Aside0.mk hr0
 have HC0 := Aside0.mk hc0
 clear hr0 hc0
 have HR1 := Aside0.mk hr1
 have HC1 := Aside0.mk hc1
 clear hr1 hc1
 have H : (slices_Compare_int64_int64.l0 k l0 l1 l0 (l0.length : Int) 0) = some r := h
 clear h
 have H' := Aside0.mk H
 clear H
 go_enter Tryd.func87, Tryd.ntmps87
 go_wp2
 go_loopg [11] k (fun kq v11 w' => ∃ (x11_1 : Int), v11 = .int .i64 x11_1 ∧ Aside0 (slices_Compare_int64_int64.l0 kq l0 l1 l0 (l0.length : Int) x11_1 = some r) ∧ Aside0 (kq ≤ k) ∧ Drawn0 w w')
 case atStart => exact ⟨(0), (by first | rfl | (simp; done) | (simp [*]; done)), H', ⟨Nat.le_refl _⟩, by repeat (first | exact Drawn0.refl _ | apply Drawn0.step)⟩
 case round =>
  clear H'
  (try clear c1); (try clear p2)
  obtain ⟨x11_1, rfl, HA, HK1, ⟨m1, rfl⟩⟩ := hrel
  cases gk with
  | zero => exact absurd HA.out (by simp [slices_Compare_int64_int64.l0])
  | succ k1 =>
   have H := HA.out
   clear HA
   simp only [slices_Compare_int64_int64.l0] at H
   by_cases c3 : x11_1 < (l0.length : Int)
   ·rw [if_pos c3] at H
    have c3b0 : decide (x11_1 < (l0.length : Int)) = true := decide_eq_true c3
    clear c3
    by_cases c4 : 0 ≤ x11_1
    ·rw [if_pos c4] at H
     have c4b0 : decide (0 ≤ x11_1) = true := decide_eq_true c4
     clear c4
     by_cases c5 : x11_1 < (l0.length : Int)
     ·rw [if_pos c5] at H
      have c5b0 : decide (x11_1 < (l0.length : Int)) = true := decide_eq_true c5
      clear c5
      by_cases c6 : x11_1 ≥ (l1.length : Int)
      ·rw [if_pos c6] at H
       have c6b0 : decide ((l1.length : Int) ≤ x11_1) = true := decide_eq_true c6
       clear c6
       obtain rfl := Option.some.inj H
       have p174 : 0 ≤ (x11_1 : Int) := oda
       have q174 : x11_1 < (l0.length : Int) := oda
       obtain ⟨ad174, e174, hx174_0⟩ := Kd.at_int HR0.out x11_1 p174 q174
       cases e174
       replace p174 := eq_true p174
       replace q174 := eq_true q174
       go_wp2
       go_ret
       exact ⟨by first | rfl | (simp; done) | (simp [*]; done), by repeat (first | exact Drawn0.refl _ | apply Drawn0.step)⟩
      ·rw [if_neg c6] at H
       have c6b0 : decide ((l1.length : Int) ≤ x11_1) = false := decide_eq_false c6
       clear c6
       by_cases c7 : x11_1 < (l1.length : Int)
       ·rw [if_pos c7] at H
        have c7b0 : decide (x11_1 < (l1.length : Int)) = true := decide_eq_true c7
        clear c7
        replace H := Option.bind_eq_some_iff.mp H
        obtain ⟨t176, A80, H⟩ := H
        replace H : (if t176 = 0 then (slices_Compare_int64_int64.l0 k1 l0 l1 l0 (l0.length : Int) (wrap64 (x11_1 + 1))) else (some t176)) = some r := H
        have A8 := Aside0.mk A80
        clear A80
        by_cases c9 : t176 = 0
        ·rw [if_pos c9] at H
         have c9b0 : (t176 == 0) = true := beq_iff_eq.mpr c9
         have c9b1 : (t176 != 0) = false := bne_eq_false_iff_eq.mpr c9
         clear c9
         have H' := Aside0.mk H
         clear H
         have p174 : 0 ≤ (x11_1 : Int) := oda
         have q174 : x11_1 < (l0.length : Int) := oda
         obtain ⟨ad174, e174, hx174_0⟩ := Kd.at_int HR0.out x11_1 p174 q174
         cases e174
         replace p174 := eq_true p174
         replace q174 := eq_true q174
         have p175 : 0 ≤ (x11_1 : Int) := oda
         have q175 : x11_1 < (l1.length : Int) := oda
         obtain ⟨ad175, e175, hx175_0⟩ := Kd.at_int HR1.out x11_1 p175 q175
         cases e175
         replace p175 := eq_true p175
         replace q175 := eq_true q175
         go_wp2_with (first | ((with_reducible refine gate_callee (f := 96) rfl ?_); refine goesA_ (some 26) rfl rfl Tryd.func96 (by kernel_rfl) rfl #[.int .i64 (rd l0 x11_1), .int .i64 (rd l1 x11_1)] rfl ?_; (with_reducible refine (cmp_Compare_int64.calls (rd l0 x11_1) (rd l1 x11_1) t176 _ A8.out).mono ?_); rintro e w' ⟨rfl, ⟨nd, rfl⟩⟩; refine ⟨_, rfl, ?_⟩))
         go_roundg k1
         case measure => have := HK1.out; omega
         case rel => exact ⟨(wrap64 (x11_1 + 1)), (by first | rfl | (simp; done) | (simp [*]; done)), H', ⟨by have := HK1.out; omega⟩, by repeat (first | exact Drawn0.refl _ | apply Drawn0.step)⟩
        ·rw [if_neg c9] at H
         have c9b0 : (t176 == 0) = false := beq_eq_false_iff_ne.mpr c9
         have c9b1 : (t176 != 0) = true := bne_iff_ne.mpr c9
         obtain rfl := Option.some.inj H
         have p174 : 0 ≤ (x11_1 : Int) := oda
         have q174 : x11_1 < (l0.length : Int) := oda
         obtain ⟨ad174, e174, hx174_0⟩ := Kd.at_int HR0.out x11_1 p174 q174
         cases e174
         replace p174 := eq_true p174
         replace q174 := eq_true q174
         have p175 : 0 ≤ (x11_1 : Int) := oda
         have q175 : x11_1 < (l1.length : Int) := oda
         obtain ⟨ad175, e175, hx175_0⟩ := Kd.at_int HR1.out x11_1 p175 q175
         cases e175
         replace p175 := eq_true p175
         replace q175 := eq_true q175
         go_wp2_with (first | ((with_reducible refine gate_callee (f := 96) rfl ?_); refine goesA_ (some 26) rfl rfl Tryd.func96 (by kernel_rfl) rfl #[.int .i64 (rd l0 x11_1), .int .i64 (rd l1 x11_1)] rfl ?_; (with_reducible refine (cmp_Compare_int64.calls (rd l0 x11_1) (rd l1 x11_1) t176 _ A8.out).mono ?_); rintro e w' ⟨rfl, ⟨nd, rfl⟩⟩; refine ⟨_, rfl, ?_⟩))
         go_ret
         exact ⟨by first | rfl | (simp; done) | (simp [*]; done), by repeat (first | exact Drawn0.refl _ | apply Drawn0.step)⟩
       ·rw [if_neg c7] at H
        exact absurd H (by simp)
     ·rw [if_neg c5] at H
      exact absurd H (by simp)
    ·rw [if_neg c4] at H
     exact absurd H (by simp)
   ·rw [if_neg c3] at H
    have c3b0 : decide (x11_1 < (l0.length : Int)) = false := decide_eq_false c3
    clear c3
    by_cases c10 : (l0.length : Int) < (l1.length : Int)
    ·rw [if_pos c10] at H
     have c10b0 : decide ((l0.length : Int) < (l1.length : Int)) = true := decide_eq_true c10
     have c10b1 : decide (l0.length < l1.length) = true := decide_eq_true (Int.ofNat_lt.mp c10)
     clear c10
     obtain rfl := Option.some.inj H
     go_wp2
     go_ret
     exact ⟨by first | rfl | (simp; done) | (simp [*]; done), by repeat (first | exact Drawn0.refl _ | apply Drawn0.step)⟩
    ·rw [if_neg c10] at H
     have c10b0 : decide ((l0.length : Int) < (l1.length : Int)) = false := decide_eq_false c10
     have c10b1 : decide (l0.length < l1.length) = false := decide_eq_false (fun h => c10 (Int.ofNat_lt.mpr h))
     clear c10
     obtain rfl := Option.some.inj H
     go_wp2
     go_ret
     exact ⟨by first | rfl | (simp; done) | (simp [*]; done), by repeat (first | exact Drawn0.refl _ | apply Drawn0.step)⟩
/-- Plain facts on the verifier's helpers: copies are copies, and a list is equal to itself. -/
theorem wrap_next {i : Nat} {n : Nat} (h : i < n) (hn : n ≤ 9223372036854775807) : wrap64 ((i : Int) + 1) = ((i + 1 : Nat) : Int) := by
  unfold wrap64; omega
theorem rd_nat (l : List Int) (i : Nat) : rd l (i : Int) = l.getD i 0 := rfl
theorem rd_get (l : List Int) (i : Nat) (h : i < l.length) : rd l (i : Int) = l[i] := by
  rw [rd_nat, List.getD_eq_getElem?_getD, List.getElem?_eq_getElem h]; rfl
theorem take_set_next {α : Type} (x y : List α) (i : Nat) (h : i < x.length) (hl : y.length = x.length) (ht : y.take i = x.take i) : (y.set i x[i]).take (i + 1) = x.take (i + 1) := by
  rw [List.take_succ_eq_append_getElem h, List.take_succ_eq_append_getElem (by simpa [hl] using h)]
  congr 1
  · rw [List.take_set_of_le (Nat.le_refl i)]; exact ht
  · simp
theorem toInt64S_l0 (x : List Int) (hx : x.length ≤ 35184372088832) : ∀ (d i : Nat) (y : List Int), i + d = x.length → y.length = x.length → y.take i = x.take i → Ev (fun k => laws_toInt64S.l0 k x y i) x := by
  intro d
  induction d with
  | zero =>
    intro i y hi hl ht
    refine Ev.step (f := fun _ => some x) (fun k => ?_) (Ev.now _)
    simp only [laws_toInt64S.l0]
    rw [if_neg (by omega)]
    have : i = x.length := by omega
    rw [this, List.take_of_length_le (by omega), List.take_of_length_le (by omega)] at ht
    rw [ht]
  | succ d ih =>
    intro i y hi hl ht
    have hlt : i < x.length := by omega
    refine Ev.step (f := fun k => laws_toInt64S.l0 k x (y.set i x[i]) ((i + 1 : Nat) : Int)) (fun k => ?_) (ih (i + 1) _ (by omega) (by simpa using hl) (take_set_next x y i hlt hl ht))
    simp only [laws_toInt64S.l0]
    rw [if_pos (by omega), if_pos (by omega), if_pos (by omega), wrap_next hlt (by omega), rd_get x i hlt, Int.toNat_natCast]
theorem toInt64S_ev (x : List Int) (hx : x.length ≤ 35184372088832) : Ev (fun k => laws_toInt64S.f k x) x := by
  refine Ev.congr (f := fun k => laws_toInt64S.l0 k x (List.replicate x.length 0) ((0 : Nat) : Int)) (fun k => ?_) (toInt64S_l0 x hx x.length 0 _ (by omega) (by simp) (by simp))
  unfold laws_toInt64S.f
  rw [if_pos (by omega), if_pos (by omega), Int.toNat_natCast]; rfl
theorem eqInt64S_l0 (x y : List Int) (hl : x.length = y.length) (hx : x.length ≤ 9223372036854775807) : ∀ (d i : Nat), i + d = x.length → x.take i = y.take i → Ev (fun k => laws_eqInt64S.l0 k x y i) (decide (x = y)) := by
  intro d
  induction d with
  | zero =>
    intro i hi ht
    refine Ev.step (f := fun _ => some (decide (x = y))) (fun k => ?_) (Ev.now _)
    simp only [laws_eqInt64S.l0]
    rw [if_neg (by omega)]
    have : i = x.length := by omega
    rw [this, List.take_of_length_le (by omega), List.take_of_length_le (by omega)] at ht
    simp [ht]
  | succ d ih =>
    intro i hi ht
    have hlt : i < x.length := by omega
    by_cases he : x[i] = y[i]
    · refine Ev.step (f := fun k => laws_eqInt64S.l0 k x y ((i + 1 : Nat) : Int)) (fun k => ?_) (ih (i + 1) (by omega) ?_)
      · simp only [laws_eqInt64S.l0]
        rw [if_pos (by omega), if_pos (by omega), if_pos (by omega), wrap_next hlt (by omega), rd_get x i hlt, rd_get y i (by omega), if_pos he]
      · rw [List.take_succ_eq_append_getElem hlt, List.take_succ_eq_append_getElem (by omega), ht, he]
    · refine Ev.step (f := fun _ => some (decide (x = y))) (fun k => ?_) (Ev.now _)
      simp only [laws_eqInt64S.l0]
      rw [if_pos (by omega), if_pos (by omega), if_pos (by omega), rd_get x i hlt, rd_get y i (by omega), if_neg he]
      have : x ≠ y := fun h => he (by subst h; rfl)
      simp [this]
theorem eqInt64S_ev (x y : List Int) (hx : x.length ≤ 9223372036854775807) : Ev (fun k => laws_eqInt64S.f k x y) (decide (x = y)) := by
  by_cases h : x.length = y.length
  · refine Ev.congr (f := fun k => laws_eqInt64S.l0 k x y ((0 : Nat) : Int)) (fun k => ?_) (eqInt64S_l0 x y h hx x.length 0 (by omega) (by simp))
    unfold laws_eqInt64S.f
    rw [if_pos (by omega)]; rfl
  · refine Ev.congr (f := fun _ => some (decide (x = y))) (fun k => ?_) (Ev.now _)
    unfold laws_eqInt64S.f
    rw [if_neg (by omega)]
    have : x ≠ y := fun e => h (by rw [e])
    simp [this]/-- slices.Compare of numbers, as a plain function, and what the machine does. -/
def cmpL : List Int → List Int → Int
  | [], [] => 0
  | [], _ :: _ => -1
  | _ :: _, [] => 1
  | a :: x, b :: y => if a < b then -1 else if b < a then 1 else cmpL x y
theorem cmp1_f (a b : Int) : cmp_Compare_int64.f a b = some (if a < b then -1 else if b < a then 1 else 0) := by
  unfold cmp_Compare_int64.f cmp_isNaN_int64.f
  by_cases h1 : a < b
  · simp [h1]
  · by_cases h2 : b < a <;> simp [h1, h2]
theorem compare_l0 (x y : List Int) (hx : x.length ≤ 9223372036854775807) : ∀ (d i : Nat), i + d = x.length → i ≤ y.length → Ev (fun k => slices_Compare_int64_int64.l0 k x y x (x.length : Int) i) (cmpL (x.drop i) (y.drop i)) := by
  intro d
  induction d with
  | zero =>
    intro i hi hy
    refine Ev.step (f := fun _ => some _) (fun k => ?_) (Ev.now _)
    simp only [slices_Compare_int64_int64.l0]
    rw [if_neg (by omega), List.drop_of_length_le (l := x) (by omega)]
    by_cases h : i < y.length
    · rw [if_pos (by omega), List.drop_eq_getElem_cons h]; rfl
    · rw [if_neg (by omega), List.drop_of_length_le (by omega)]; rfl
  | succ d ih =>
    intro i hi hy
    have hlt : i < x.length := by omega
    by_cases h : i < y.length
    · have e1 : x.drop i = x[i] :: x.drop (i + 1) := List.drop_eq_getElem_cons hlt
      have e2 : y.drop i = y[i] :: y.drop (i + 1) := List.drop_eq_getElem_cons h
      rw [e1, e2]
      by_cases c1 : x[i] < y[i]
      · refine Ev.step (f := fun _ => some _) (fun k => ?_) (Ev.now _)
        simp only [slices_Compare_int64_int64.l0, cmpL]
        rw [if_pos (by omega), if_pos (by omega), if_pos (by omega), if_neg (by omega), if_pos (by omega), rd_get x i hlt, rd_get y i h, cmp1_f, if_pos c1, if_pos c1]; rfl
      · by_cases c2 : y[i] < x[i]
        · refine Ev.step (f := fun _ => some _) (fun k => ?_) (Ev.now _)
          simp only [slices_Compare_int64_int64.l0, cmpL]
          rw [if_pos (by omega), if_pos (by omega), if_pos (by omega), if_neg (by omega), if_pos (by omega), rd_get x i hlt, rd_get y i h, cmp1_f, if_neg c1, if_pos c2, if_neg c1, if_pos c2]; rfl
        · simp only [cmpL]
          rw [if_neg c1, if_neg c2]
          refine Ev.step (fun k => ?_) (ih (i + 1) (by omega) (by omega))
          simp only [slices_Compare_int64_int64.l0]
          rw [if_pos (by omega), if_pos (by omega), if_pos (by omega), if_neg (by omega), if_pos (by omega), rd_get x i hlt, rd_get y i h, cmp1_f, if_neg c1, if_neg c2, wrap_next hlt (by omega)]; rfl
    · refine Ev.step (f := fun _ => some _) (fun k => ?_) (Ev.now _)
      simp only [slices_Compare_int64_int64.l0]
      rw [if_pos (by omega), if_pos (by omega), if_pos (by omega), if_pos (by omega), List.drop_eq_getElem_cons hlt, List.drop_of_length_le (l := y) (by omega)]; rfl
theorem compare_tot (x y : List Int) (hx : x.length ≤ 9223372036854775807) : ∃ k, slices_Compare_int64_int64.f k x y = some (cmpL x y) := by
  have := (compare_l0 x y hx x.length 0 (by omega) (by omega)).rounds
  simpa [slices_Compare_int64_int64.f] using this
theorem compare_run (A0 : Option Addr) (c0 : Nat) (x : List Int) (A1 : Option Addr) (c1 : Nat) (y : List Int) (w : World) (hr0 : Kd.C (Kd.int .i64) w A0 x.length x) (hc0 : x.length ≤ c0) (hr1 : Kd.C (Kd.int .i64) w A1 y.length y) (hc1 : y.length ≤ c1) :
    Calls Tryd.prog 87 #[.slice A0 x.length c0, .slice A1 y.length c1] w fun e w' => e = .returned (.int .i64 (cmpL x y)) ∧ Drawn0 w w' := by
  obtain ⟨k, hk⟩ := compare_tot x y hr0.2.1
  exact slices_Compare_int64_int64.calls k A0 c0 x A1 c1 y _ w hr0 hc0 hr1 hc1 hk
/-! ### slices_IsSortedFunc_int64_int64: function 86 -/
-- EXTERNAL: by hand
-- slices_Compare_int64_int64
def sortedBy (c : List Int → List Int → Int) : List (List Int) → Bool
  | [] => true
  | [_] => true
  | a :: b :: r => !decide (c b a < 0) && sortedBy c (b :: r)
theorem sortedBy_get (c : List Int → List Int → Int) : ∀ (l : List (List Int)), sortedBy c l = true ↔ ∀ i x y, l[i]? = some x → l[i + 1]? = some y → ¬ c y x < 0
  | [] => by simp [sortedBy]
  | [_] => by
    simp only [sortedBy, true_iff]
    intro i x y h1 h2
    cases i <;> simp at h2
  | a :: b :: r => by
    have ih := sortedBy_get c (b :: r)
    simp only [sortedBy, Bool.and_eq_true, ih, Bool.not_eq_true', decide_eq_false_iff_not]
    constructor
    · rintro ⟨h1, h2⟩ i x y hx hy
      cases i with
      | zero =>
        simp only [List.getElem?_cons_zero, Option.some.injEq, List.getElem?_cons_succ] at hx hy
        subst hx hy
        exact h1
      | succ i => exact h2 i x y (by simpa using hx) (by simpa using hy)
    · intro h
      exact ⟨h 0 a b (by simp) (by simp), fun i x y hx hy => h (i + 1) x y (by simpa using hx) (by simpa using hy)⟩
set_option maxHeartbeats 4000000 in
set_option maxRecDepth 100000 in
theorem slices_IsSortedFunc_int64_int64.calls (A0 : Option Addr) (c0 : Nat) (l0 : List (List Int)) (w : World) (hr0 : Kd.C (Kd.slice 2 (Kd.int .i64)) w A0 l0.length l0) (hc0 : l0.length ≤ c0) :
    Calls Tryd.prog 86 #[.slice A0 l0.length c0, .func (.func 87) #[] #[]] w fun e w' => e = .returned (.bool (sortedBy cmpL l0)) ∧ Drawn0 w w' := by
  have eg : ∀ args w, (callFunc 87 args).run Tryd.prog w = .ok (.enter 87 args) w := enters_of Tryd.func87 (by kernel_rfl) rfl
  have HR := Aside0.mk hr0
  have hm := hr0.2.1
  clear hr0
  go_enter Tryd.func86, Tryd.ntmps86
  go_wp2_with fail
  go_loopg [5] l0.length (fun gg s5 wr => ∃ (i : Int), s5 = .int .i64 i ∧ -1 ≤ i ∧ i < l0.length ∧ i < gg + 0 ∧ Aside0 (∀ (j : Nat) (x y : List Int), i < (j : Int) + 1 → l0[j]? = some x → l0[j + 1]? = some y → ¬ cmpL y x < 0) ∧ Drawn0 w wr)
  case atStart =>
    refine ⟨(l0.length : Int) - 1, by go_num, by omega, by omega, by omega, ⟨fun j x y hj hx hy => ?_⟩, Drawn0.refl _⟩
    have := (List.getElem?_eq_some_iff.1 hy).1
    omega
  case round =>
    obtain ⟨i, rfl, h1, h2, h3, HA, ⟨m, rfl⟩⟩ := hrel
    by_cases hp : 0 < i
    · obtain ⟨n, hn1⟩ : ∃ n : Nat, i.toNat = n + 1 := ⟨i.toNat - 1, by omega⟩
      have hn : n + 1 < l0.length := by omega
      have en : (i - 1).toNat = n := by omega
      obtain ⟨ad, v1, rfl, hx1, hK1⟩ := Kd.C_one rfl HR.out (n + 1) hn rfl
      obtain ⟨ad', v0, hA, hx0, hK0⟩ := Kd.C_one rfl HR.out n (by omega) rfl
      cases hA
      obtain ⟨A1, k1, e1, hl1, hC1⟩ := hK1
      obtain ⟨A2, k2, e2, hl2, hC2⟩ := hK0
      simp only [List.cons.injEq, and_true] at e1 e2
      subst e1 e2
      have HX := Aside0.mk (List.getElem?_eq_getElem (show n < l0.length by omega))
      have HY := Aside0.mk (List.getElem?_eq_getElem hn)
      generalize l0[n] = x at *
      generalize l0[n + 1] = y at *
      have HC1 := Aside0.mk hC1
      have HC2 := Aside0.mk hC2
      have hcall := fun W hb => compare_run A1 k1 y A2 k2 x W (Kd.C_below HC1.out hb) hl1 (Kd.C_below HC2.out hb) hl2
      clear hC1 hC2
      have hn1' : i = (n : Int) + 1 := by omega
      rw [← hn1] at hx1
      rw [← en] at hx0
      have HN := Aside0.mk hn1'
      have hpb : decide (0 < i) = true := decide_eq_true hp
      have hi1 : 0 ≤ i := by omega
      obtain ⟨i1, e1⟩ : ∃ i1, i - 1 = i1 := ⟨_, rfl⟩
      have hi3 : IntKind.i64.wrap (i - 1) = i1 := by rw [IntKind.wrap_i64]; omega
      have hi4 : 0 ≤ i1 := by omega
      have hi5 : i1 < (l0.length : Int) := by omega
      rw [e1] at hx0
      have HE := Aside0.mk e1
      clear hn1 en hn1' hn e1
      by_cases hc : cmpL y x < 0
      · have HV := Aside0.mk (show sortedBy cmpL l0 = false from by
          rw [Bool.eq_false_iff]
          intro h
          exact (sortedBy_get cmpL l0).1 h n x y HX.out HY.out hc)
        have hcb : decide (cmpL y x < 0) = true := decide_eq_true hc
        go_wp2_with fail
        go_quiet ((go_at_call 87; refine (hcall _ (Drawn0.below ((Drawn0.refl w).step _))).mono ?_; rintro e w' ⟨rfl, ⟨nd, rfl⟩⟩; (try first | exact ⟨rfl, _, World.drewN_drewN _ _ _⟩ | exact ⟨rfl, _, Eq.trans (World.drewN_drewN _ _ _) (congrArg (World.drewN _) (Nat.add_assoc _ _ _))⟩)))
        go_wp2_with fail
        go_ret
        exact ⟨by rw [HV.out]; rfl, by repeat (first | exact Drawn0.refl _ | apply Drawn0.step)⟩
      · have hcb : decide (cmpL y x < 0) = false := decide_eq_false hc
        go_wp2_with fail
        go_quiet ((go_at_call 87; refine (hcall _ (Drawn0.below ((Drawn0.refl w).step _))).mono ?_; rintro e w' ⟨rfl, ⟨nd, rfl⟩⟩; (try first | exact ⟨rfl, _, World.drewN_drewN _ _ _⟩ | exact ⟨rfl, _, Eq.trans (World.drewN_drewN _ _ _) (congrArg (World.drewN _) (Nat.add_assoc _ _ _))⟩)))
        go_wp2_with fail
        have hn1' := HN.out
        have e1 := HE.out
        go_roundg (n + 1)
        case measure => omega
        case rel =>
          refine ⟨i1, rfl, by omega, by omega, by omega, ⟨fun j x' y' hj hx' hy' => ?_⟩, by repeat (first | exact Drawn0.refl _ | apply Drawn0.step)⟩
          by_cases e : j = n
          · subst e
            rw [HX.out] at hx'
            rw [HY.out] at hy'
            cases hx'; cases hy'
            exact hc
          · exact HA.out j x' y' (by omega) hx' hy'
    · have HV := Aside0.mk (show sortedBy cmpL l0 = true from (sortedBy_get cmpL l0).2 (fun j x y hx hy => HA.out j x y (by omega) hx hy))
      have hpb : decide (0 < i) = false := decide_eq_false hp
      go_wp2_with fail
      go_ret
      exact ⟨by rw [HV.out]; rfl, by repeat (first | exact Drawn0.refl _ | apply Drawn0.step)⟩
/-! ### impl_within: function 45 -/
def impl_within.f (a0 : Int) (a1 : Int) (a2 : Int) : Option (Bool) := if a1 ≤ a0 then (some (decide (a0 ≤ a2))) else (some false)
set_option maxHeartbeats 8000000 in
set_option maxRecDepth 100000 in
theorem impl_within.calls (a0 : Int) (a1 : Int) (a2 : Int) (r : Bool) (w : World) (h : impl_within.f a0 a1 a2 = some r) :
  Calls Tryd.prog 45 #[.int .i64 a0, .int .i64 a1, .int .i64 a2] w fun e w' => e = .returned (.bool r) ∧ Drawn0 w w' := by
 have H : (if a1 ≤ a0 then (some (decide (a0 ≤ a2))) else (some false)) = some r := h
 clear h
 by_cases c4 : a1 ≤ a0
 ·rw [if_pos c4] at H
  have c4b0 : decide (a1 ≤ a0) = true := decide_eq_true c4
  clear c4
  obtain rfl := Option.some.inj H
  go_enter Tryd.func45, Tryd.ntmps45
  go_wp2
  go_ret
  exact ⟨by first | rfl | (simp; done) | (simp [*]; done), by repeat (first | exact Drawn0.refl _ | apply Drawn0.step)⟩
 ·rw [if_neg c4] at H
  have c4b0 : decide (a1 ≤ a0) = false := decide_eq_false c4
  clear c4
  obtain rfl := Option.some.inj H
  go_enter Tryd.func45, Tryd.ntmps45
  go_wp2
  go_ret
  exact ⟨by first | rfl | (simp; done) | (simp [*]; done), by repeat (first | exact Drawn0.refl _ | apply Drawn0.step)⟩
/-- 'within', as a plain function, and what the machine does. -/
def inW (n a b : Int) : Bool := decide (a ≤ n) && decide (n ≤ b)
theorem within_inW (n a b : Int) : impl_within.f n a b = some (inW n a b) := by
  unfold impl_within.f inW
  by_cases h : a ≤ n <;> simp [h]
theorem within_run (n a b : Int) (w : World) : Calls Tryd.prog 45 #[.int .i64 n, .int .i64 a, .int .i64 b] w fun e w' => e = .returned (.bool (inW n a b)) ∧ Drawn0 w w' :=
  impl_within.calls n a b _ w (within_inW n a b)
/-! ### impl_isRising: function 85 -/
def impl_isRising.l0 : Nat → List Int → Int → Int → List Int → Int → Int → Option (Bool)
 | 0, _, _, _, _, _, _ => none
 | k + 1, x0, x1, x2, x9, x10, x11 => if x11 < x10 then (if 0 ≤ x11 then (if x11 < (x9.length : Int) then ((impl_within.f (rd x9 x11) x1 x2).bind fun t170 => (if t170 = true then (if x11 > 0 then (if 0 ≤ (wrap64 (x11 - 1)) then (if (wrap64 (x11 - 1)) < (x0.length : Int) then (if (rd x9 x11) ≤ (rd x0 (wrap64 (x11 - 1))) then (some false) else (impl_isRising.l0 k x0 x1 x2 x9 x10 (wrap64 (x11 + 1)))) else (none)) else (none)) else (impl_isRising.l0 k x0 x1 x2 x9 x10 (wrap64 (x11 + 1)))) else (some false))) else (none)) else (none)) else (some true)
def impl_isRising.f (k : Nat) (l0 : List Int) (a1 : Int) (a2 : Int) : Option (Bool) := impl_isRising.l0 k l0 a1 a2 l0 (l0.length : Int) 0
set_option maxHeartbeats 8000000 in
set_option maxRecDepth 100000 in
theorem impl_isRising.calls (k : Nat) (A0 : Option Addr) (c0 : Nat) (l0 : List Int) (a1 : Int) (a2 : Int) (r : Bool) (w : World) (hr0 : Kd.C (Kd.int .i64) w A0 l0.length l0) (hc0 : l0.length ≤ c0) (h : impl_isRising.f k l0 a1 a2 = some r) :
  Calls Tryd.prog 85 #[.slice A0 l0.length c0, .int .i64 a1, .int .i64 a2] w fun e w' => e = .returned (.bool r) ∧ Drawn0 w w' := by
 have HR0 := Aside0.mk hr0
 have HC0 := Aside0.mk hc0
 clear hr0 hc0
 have H : (impl_isRising.l0 k l0 a1 a2 l0 (l0.length : Int) 0) = some r := h
 clear h
 have H' := Aside0.mk H
 clear H
 go_enter Tryd.func85, Tryd.ntmps85
 go_wp2
 go_loopg [11] k (fun kq v11 w' => ∃ (x11_1 : Int), v11 = .int .i64 x11_1 ∧ Aside0 (impl_isRising.l0 kq l0 a1 a2 l0 (l0.length : Int) x11_1 = some r) ∧ Aside0 (kq ≤ k) ∧ Drawn0 w w')
 case atStart => exact ⟨(0), (by first | rfl | (simp; done) | (simp [*]; done)), H', ⟨Nat.le_refl _⟩, by repeat (first | exact Drawn0.refl _ | apply Drawn0.step)⟩
 case round =>
  clear H'
  (try clear p2)
  obtain ⟨x11_1, rfl, HA, HK1, ⟨m1, rfl⟩⟩ := hrel
  cases gk with
  | zero => exact absurd HA.out (by simp [impl_isRising.l0])
  | succ k1 =>
   have H := HA.out
   clear HA
   simp only [impl_isRising.l0] at H
   by_cases c4 : x11_1 < (l0.length : Int)
   ·rw [if_pos c4] at H
    have c4b0 : decide (x11_1 < (l0.length : Int)) = true := decide_eq_true c4
    clear c4
    by_cases c5 : 0 ≤ x11_1
    ·rw [if_pos c5] at H
     have c5b0 : decide (0 ≤ x11_1) = true := decide_eq_true c5
     clear c5
     by_cases c6 : x11_1 < (l0.length : Int)
     ·rw [if_pos c6] at H
      have c6b0 : decide (x11_1 < (l0.length : Int)) = true := decide_eq_true c6
      clear c6
      replace H := Option.bind_eq_some_iff.mp H
      obtain ⟨t170, A70, H⟩ := H
      replace H : (if t170 = true then (if x11_1 > 0 then (if 0 ≤ (wrap64 (x11_1 - 1)) then (if (wrap64 (x11_1 - 1)) < (l0.length : Int) then (if (rd l0 x11_1) ≤ (rd l0 (wrap64 (x11_1 - 1))) then (some false) else (impl_isRising.l0 k1 l0 a1 a2 l0 (l0.length : Int) (wrap64 (x11_1 + 1)))) else (none)) else (none)) else (impl_isRising.l0 k1 l0 a1 a2 l0 (l0.length : Int) (wrap64 (x11_1 + 1)))) else (some false)) = some r := H
      have A7 := Aside0.mk A70
      clear A70
      by_cases c8 : t170 = true
      ·subst c8
       have H1 : (if x11_1 > 0 then (if 0 ≤ (wrap64 (x11_1 - 1)) then (if (wrap64 (x11_1 - 1)) < (l0.length : Int) then (if (rd l0 x11_1) ≤ (rd l0 (wrap64 (x11_1 - 1))) then (some false) else (impl_isRising.l0 k1 l0 a1 a2 l0 (l0.length : Int) (wrap64 (x11_1 + 1)))) else (none)) else (none)) else (impl_isRising.l0 k1 l0 a1 a2 l0 (l0.length : Int) (wrap64 (x11_1 + 1)))) = some r := by rw [if_pos rfl] at H; exact H
       clear H
       have H := H1
       clear H1
       by_cases c9 : x11_1 > 0
       ·rw [if_pos c9] at H
        have c9b0 : decide (0 < x11_1) = true := decide_eq_true c9
        clear c9
        obtain ⟨ji10, hji10⟩ : ∃ j_ : Int, (wrap64 (x11_1 - 1)) = j_ := ⟨_, rfl⟩
        replace H : (if 0 ≤ (ji10) then (if (ji10) < (l0.length : Int) then (if (rd l0 x11_1) ≤ (rd l0 (ji10)) then (some false) else (impl_isRising.l0 k1 l0 a1 a2 l0 (l0.length : Int) (wrap64 (x11_1 + 1)))) else (none)) else (none)) = some r := by first | (rw [hji10] at H; exact H) | (simp only [hji10] at H ⊢; exact H)
        (try rw [hji10] at A7)
        have hji10w : (IntKind.i64.wrap (x11_1 - 1)) = ji10 := (i64_w _).trans hji10
        by_cases c11 : 0 ≤ (ji10)
        ·rw [if_pos c11] at H
         have c11b0 : decide (0 ≤ (ji10)) = true := decide_eq_true c11
         clear c11
         by_cases c12 : (ji10) < (l0.length : Int)
         ·rw [if_pos c12] at H
          have c12b0 : decide ((ji10) < (l0.length : Int)) = true := decide_eq_true c12
          clear c12
          by_cases c13 : (rd l0 x11_1) ≤ (rd l0 (ji10))
          ·rw [if_pos c13] at H
           have c13b0 : decide ((rd l0 x11_1) ≤ (rd l0 (ji10))) = true := decide_eq_true c13
           clear c13
           obtain rfl := Option.some.inj H
           have p169 : 0 ≤ (x11_1 : Int) := oda
           have q169 : x11_1 < (l0.length : Int) := oda
           obtain ⟨ad169, e169, hx169_0⟩ := Kd.at_int HR0.out x11_1 p169 q169
           cases e169
           replace p169 := eq_true p169
           replace q169 := eq_true q169
           go_wp2_with (first | ((with_reducible refine gate_callee (f := 45) rfl ?_); refine goesA_ (some 19) rfl rfl Tryd.func45 (by kernel_rfl) rfl #[.int .i64 (rd l0 x11_1), .int .i64 a1, .int .i64 a2] rfl ?_; (with_reducible refine (impl_within.calls (rd l0 x11_1) a1 a2 true _ A7.out).mono ?_); rintro e w' ⟨rfl, ⟨nd, rfl⟩⟩; refine ⟨_, rfl, ?_⟩; have p171 : 0 ≤ ((ji10) : Int) := oda; have q171 : (ji10) < (l0.length : Int) := oda; obtain ⟨ad171, e171, hx171_0⟩ := Kd.at_int HR0.out (ji10) p171 q171; obtain rfl : ad169 = ad171 := (by injection e171); replace p171 := eq_true p171; replace q171 := eq_true q171))
           go_ret
           exact ⟨by first | rfl | (simp; done) | (simp only [← hji10] <;> (first | rfl | simp)) | (simp [*]; done), by repeat (first | exact Drawn0.refl _ | apply Drawn0.step)⟩
          ·rw [if_neg c13] at H
           have c13b0 : decide ((rd l0 x11_1) ≤ (rd l0 (ji10))) = false := decide_eq_false c13
           clear c13
           have H' := Aside0.mk H
           clear H
           have p169 : 0 ≤ (x11_1 : Int) := oda
           have q169 : x11_1 < (l0.length : Int) := oda
           obtain ⟨ad169, e169, hx169_0⟩ := Kd.at_int HR0.out x11_1 p169 q169
           cases e169
           replace p169 := eq_true p169
           replace q169 := eq_true q169
           go_wp2_with (first | ((with_reducible refine gate_callee (f := 45) rfl ?_); refine goesA_ (some 19) rfl rfl Tryd.func45 (by kernel_rfl) rfl #[.int .i64 (rd l0 x11_1), .int .i64 a1, .int .i64 a2] rfl ?_; (with_reducible refine (impl_within.calls (rd l0 x11_1) a1 a2 true _ A7.out).mono ?_); rintro e w' ⟨rfl, ⟨nd, rfl⟩⟩; refine ⟨_, rfl, ?_⟩; have p171 : 0 ≤ ((ji10) : Int) := oda; have q171 : (ji10) < (l0.length : Int) := oda; obtain ⟨ad171, e171, hx171_0⟩ := Kd.at_int HR0.out (ji10) p171 q171; obtain rfl : ad169 = ad171 := (by injection e171); replace p171 := eq_true p171; replace q171 := eq_true q171))
           go_roundg k1
           case measure => have := HK1.out; omega
           case rel => exact ⟨(wrap64 (x11_1 + 1)), (by first | rfl | (simp; done) | (simp [*]; done)), H', ⟨by have := HK1.out; omega⟩, by repeat (first | exact Drawn0.refl _ | apply Drawn0.step)⟩
         ·rw [if_neg c12] at H
          exact absurd H (by simp)
        ·rw [if_neg c11] at H
         exact absurd H (by simp)
       ·rw [if_neg c9] at H
        have c9b0 : decide (0 < x11_1) = false := decide_eq_false c9
        clear c9
        have H' := Aside0.mk H
        clear H
        have p169 : 0 ≤ (x11_1 : Int) := oda
        have q169 : x11_1 < (l0.length : Int) := oda
        obtain ⟨ad169, e169, hx169_0⟩ := Kd.at_int HR0.out x11_1 p169 q169
        cases e169
        replace p169 := eq_true p169
        replace q169 := eq_true q169
        go_wp2_with (first | ((with_reducible refine gate_callee (f := 45) rfl ?_); refine goesA_ (some 19) rfl rfl Tryd.func45 (by kernel_rfl) rfl #[.int .i64 (rd l0 x11_1), .int .i64 a1, .int .i64 a2] rfl ?_; (with_reducible refine (impl_within.calls (rd l0 x11_1) a1 a2 true _ A7.out).mono ?_); rintro e w' ⟨rfl, ⟨nd, rfl⟩⟩; refine ⟨_, rfl, ?_⟩))
        go_roundg k1
        case measure => have := HK1.out; omega
        case rel => exact ⟨(wrap64 (x11_1 + 1)), (by first | rfl | (simp; done) | (simp [*]; done)), H', ⟨by have := HK1.out; omega⟩, by repeat (first | exact Drawn0.refl _ | apply Drawn0.step)⟩
      ·replace c8 := Bool.eq_false_iff.mpr c8
       subst c8
       have H1 : (some false) = some r := by rw [if_neg (show ¬ (false = true) by decide)] at H; exact H
       clear H
       have H := H1
       clear H1
       obtain rfl := Option.some.inj H
       have p169 : 0 ≤ (x11_1 : Int) := oda
       have q169 : x11_1 < (l0.length : Int) := oda
       obtain ⟨ad169, e169, hx169_0⟩ := Kd.at_int HR0.out x11_1 p169 q169
       cases e169
       replace p169 := eq_true p169
       replace q169 := eq_true q169
       go_wp2_with (first | ((with_reducible refine gate_callee (f := 45) rfl ?_); refine goesA_ (some 19) rfl rfl Tryd.func45 (by kernel_rfl) rfl #[.int .i64 (rd l0 x11_1), .int .i64 a1, .int .i64 a2] rfl ?_; (with_reducible refine (impl_within.calls (rd l0 x11_1) a1 a2 false _ A7.out).mono ?_); rintro e w' ⟨rfl, ⟨nd, rfl⟩⟩; refine ⟨_, rfl, ?_⟩))
       go_ret
       exact ⟨by first | rfl | (simp; done) | (simp [*]; done), by repeat (first | exact Drawn0.refl _ | apply Drawn0.step)⟩
     ·rw [if_neg c6] at H
      exact absurd H (by simp)
    ·rw [if_neg c5] at H
     exact absurd H (by simp)
   ·rw [if_neg c4] at H
    have c4b0 : decide (x11_1 < (l0.length : Int)) = false := decide_eq_false c4
    clear c4
    obtain rfl := Option.some.inj H
    go_wp2
    go_ret
    exact ⟨by first | rfl | (simp; done) | (simp [*]; done), by repeat (first | exact Drawn0.refl _ | apply Drawn0.step)⟩
/-- isRising as a plain function, and what the machine does. -/
def risingFrom (lo hi : Int) : Option Int → List Int → Bool
  | _, [] => true
  | none, x :: r => inW x lo hi && risingFrom lo hi (some x) r
  | some p, x :: r => inW x lo hi && !decide (x ≤ p) && risingFrom lo hi (some x) r
def rising (l : List Int) (lo hi : Int) : Bool := risingFrom lo hi none l
def lastOf (x : List Int) (i : Nat) : Option Int := if i = 0 then none else some (x.getD (i - 1) 0)
theorem rising_l0 (x : List Int) (lo ub : Int) (hx : x.length ≤ 9223372036854775807) : ∀ (d i : Nat), i + d = x.length → Ev (fun k => impl_isRising.l0 k x lo ub x (x.length : Int) i) (risingFrom lo ub (lastOf x i) (x.drop i)) := by
  intro d
  induction d with
  | zero =>
    intro i hi
    refine Ev.step (f := fun _ => some _) (fun k => ?_) (Ev.now _)
    simp only [impl_isRising.l0]
    rw [if_neg (by omega), List.drop_of_length_le (l := x) (by omega)]
    cases lastOf x i <;> rfl
  | succ d ih =>
    intro i hi
    have hlt : i < x.length := by omega
    have e1 : x.drop i = x[i] :: x.drop (i + 1) := List.drop_eq_getElem_cons hlt
    have el : lastOf x (i + 1) = some x[i] := by
      unfold lastOf
      rw [if_neg (by omega), Nat.add_sub_cancel, List.getD_eq_getElem?_getD, List.getElem?_eq_getElem hlt]; rfl
    have ih1 := ih (i + 1) (by omega)
    rw [el] at ih1
    rw [e1]
    by_cases hw : inW x[i] lo ub = true
    · by_cases h0 : i = 0
      · subst h0
        have er : risingFrom lo ub (lastOf x 0) (x[0] :: x.drop 1) = risingFrom lo ub (some x[0]) (x.drop 1) := by
          show (inW x[0] lo ub && _) = _
          rw [hw]; rfl
        rw [er]
        refine Ev.step (fun k => ?_) ih1
        simp only [impl_isRising.l0]
        rw [if_pos (by omega), if_pos (by omega), if_pos (by omega), rd_get x 0 hlt, within_inW, hw, Option.bind_some, if_pos rfl, if_neg (by omega), wrap_next hlt (by omega)]
      · have hp : i - 1 < x.length := by omega
        have el0 : lastOf x i = some x[i - 1] := by
          unfold lastOf
          rw [if_neg h0, List.getD_eq_getElem?_getD, List.getElem?_eq_getElem hp]; rfl
        have ew : wrap64 ((i : Int) - 1) = ((i - 1 : Nat) : Int) := by unfold wrap64; omega
        rw [el0]
        by_cases hc : x[i] ≤ x[i - 1]
        · have er : risingFrom lo ub (some x[i - 1]) (x[i] :: x.drop (i + 1)) = false := by
            show (inW x[i] lo ub && _ && _) = _
            simp [hc]
          rw [er]
          refine Ev.step (f := fun _ => some _) (fun k => ?_) (Ev.now _)
          simp only [impl_isRising.l0]
          rw [if_pos (by omega), if_pos (by omega), if_pos (by omega), rd_get x i hlt, within_inW, hw, Option.bind_some, if_pos rfl, if_pos (by omega), ew, if_pos (by omega), if_pos (by omega), rd_get x (i - 1) hp, if_pos hc]
        · have er : risingFrom lo ub (some x[i - 1]) (x[i] :: x.drop (i + 1)) = risingFrom lo ub (some x[i]) (x.drop (i + 1)) := by
            show (inW x[i] lo ub && _ && _) = _
            simp [hc, hw]
          rw [er]
          refine Ev.step (fun k => ?_) ih1
          simp only [impl_isRising.l0]
          rw [if_pos (by omega), if_pos (by omega), if_pos (by omega), rd_get x i hlt, within_inW, hw, Option.bind_some, if_pos rfl, if_pos (by omega), ew, if_pos (by omega), if_pos (by omega), rd_get x (i - 1) hp, if_neg hc, wrap_next hlt (by omega)]
    · have er : risingFrom lo ub (lastOf x i) (x[i] :: x.drop (i + 1)) = false := by
        cases lastOf x i <;> simp [risingFrom, hw]
      rw [er]
      refine Ev.step (f := fun _ => some _) (fun k => ?_) (Ev.now _)
      simp only [impl_isRising.l0]
      rw [if_pos (by omega), if_pos (by omega), if_pos (by omega), rd_get x i hlt, within_inW, Option.bind_some, if_neg (by simpa using hw)]
theorem rising_ev (x : List Int) (lo hi : Int) (hx : x.length ≤ 9223372036854775807) : Ev (fun k => impl_isRising.f k x lo hi) (rising x lo hi) := by
  have := rising_l0 x lo hi hx x.length 0 (by omega)
  simpa [impl_isRising.f, rising, lastOf] using this
theorem rising_run (A0 : Option Addr) (c0 : Nat) (l0 : List Int) (lo hi : Int) (w : World) (hr0 : Kd.C (Kd.int .i64) w A0 l0.length l0) (hc0 : l0.length ≤ c0) :
    Calls Tryd.prog 85 #[.slice A0 l0.length c0, .int .i64 lo, .int .i64 hi] w fun e w' => e = .returned (.bool (rising l0 lo hi)) ∧ Drawn0 w w' := by
  obtain ⟨k, hk⟩ := (rising_ev l0 lo hi hr0.2.1).rounds
  exact impl_isRising.calls k A0 c0 l0 lo hi _ w hr0 hc0 hk
/-- What a net is, as a plain function. -/
def edgeBad (p : Int) (e : List Int) : Bool := !decide (e.length = 2) || !rising e 0 (wrap64 (p - 1))
/-! ### impl_IsNet: function 60 -/
-- EXTERNAL: by hand
-- impl_isRising slices_Compare_int64_int64 slices_IsSortedFunc_int64_int64
def isNetV (p : Int) (l : List (List Int)) : Bool := inW p 2 8 && !decide ((l.length : Int) > 10) && !l.any (edgeBad p) && sortedBy cmpL l
def impl_IsNet.f (a0_0 : Int) (l0_1 : List (List Int)) : Option Bool := some (isNetV a0_0 l0_1)
set_option maxHeartbeats 4000000 in
set_option maxRecDepth 100000 in
theorem isNetPred (B : Nat) (p : Int) (s : Value) (w : World) (hbox : w.heap[B]? = some (.cells #[.int .i64 p, s] 28 (0, 0))) :
    PredK Tryd.prog 84 #[.pointer (some ⟨B, 0, none⟩)] (Kd.slice 2 (Kd.int .i64)) (fun _ => True) (edgeBad p) w := by
  intro W x v _ hK hb
  obtain ⟨A, c, hv, hl, hC⟩ := hK
  simp only [List.cons.injEq, and_true] at hv
  subst hv
  show Calls Tryd.prog 84 #[.slice A x.length c, .pointer (some ⟨B, 0, none⟩)] W _
  have hc0 : W.cell? ⟨B, 0, none⟩ = some (.int .i64 p) := (blk_cell (blk_below hbox hb) 0).trans rfl
  have HR := fun W' hb' => rising_run A c x 0 (wrap64 (p - 1)) W' (Kd.C_below hC hb') hl
  clear hC hbox hb
  unfold edgeBad
  have hu := Tryd.underlying28
  by_cases h2 : x.length = 2
  · have hb2 : (x.length : Int) = 2 := by omega
    have hne : ((x.length : Int) != 2) = false := bne_eq_false_iff_eq.mpr hb2
    have hne2 : (x.length == 2) = true := beq_iff_eq.mpr h2
    have HD := Aside0.mk (decide_eq_true h2)
    have HB := Aside0.mk (Below.refl W.heap.size W)
    clear h2 hb2
    generalize rising x 0 (wrap64 (p - 1)) = b at HR ⊢
    go_enter Tryd.func84, Tryd.ntmps84
    go_wp2_with fail
    refine (HR _ HB.out).mono ?_; rintro e w1 ⟨rfl, hd⟩; have HB1 := Aside0.mk (below_step HB.out hd.below); clear hd
    go_wp2_with fail
    go_ret
    exact ⟨by rw [HD.out]; rfl, HB1.out⟩
  · have hb2 : ¬ (x.length : Int) = 2 := by omega
    have hne : ((x.length : Int) != 2) = true := bne_iff_ne.mpr hb2
    have hne2 : (x.length == 2) = false := beq_eq_false_iff_ne.mpr h2
    have HD := Aside0.mk (decide_eq_false h2)
    clear h2 hb2 HR
    generalize rising x 0 (wrap64 (p - 1)) = b
    go_enter Tryd.func84, Tryd.ntmps84
    go_wp2_with fail
    go_ret
    exact ⟨by rw [HD.out]; rfl, Below.refl _ _⟩
set_option maxHeartbeats 4000000 in
set_option maxRecDepth 100000 in
theorem impl_IsNet.calls (a0_0 : Int) (A0_1 : Option Addr) (c0_1 : Nat) (l0_1 : List (List Int)) (r : Bool) (w : World) (hr0_1 : Kd.C (Kd.slice 2 (Kd.int .i64)) w A0_1 l0_1.length l0_1) (hc0_1 : l0_1.length ≤ c0_1) (h : impl_IsNet.f a0_0 l0_1 = some r) :
    Calls Tryd.prog 60 #[.agg #[.int .i64 a0_0, .slice A0_1 l0_1.length c0_1]] w fun e w' => e = .returned (.bool r) ∧ Below w.heap.size w w' := by
  have eg : ∀ args w, (callFunc 84 args).run Tryd.prog w = .ok (.enter 84 args) w := enters_of Tryd.func84 (by kernel_rfl) rfl
  obtain rfl := Option.some.inj h
  clear h
  have HR := Aside0.mk hr0_1
  have hm := hr0_1.2.1
  clear hr0_1
  have hu := Tryd.underlying28
  have HI := fun W hb => slices_IsSortedFunc_int64_int64.calls A0_1 c0_1 l0_1 W (Kd.C_below HR.out hb) hc0_1
  have HC := fun (g : Nat) W (hbox : W.heap[g]? = some (.cells #[.int .i64 a0_0, .slice A0_1 l0_1.length c0_1] 28 (0, 0))) hb => slices_ContainsFunc_int64_int64_83.calls 84 #[.pointer (some ⟨g, 0, none⟩)] (fun _ => True) (edgeBad a0_0) eg A0_1 c0_1 l0_1 W (isNetPred g a0_0 _ W hbox) (fun _ _ => trivial) (Kd.C_below HR.out hb) hm
  have HB0 := Aside0.mk (Below.refl w.heap.size w)
  unfold isNetV
  generalize hb1 : inW a0_0 2 8 = b1 at *
  generalize hb3 : l0_1.any (edgeBad a0_0) = b3 at *
  generalize hb4 : sortedBy cmpL l0_1 = b4 at *
  have HW := Aside0.mk hb1
  clear hb1 hb3 hb4
  cases b1 with
  | false =>
    clear HI HC
    go_enter Tryd.func60, Tryd.ntmps60
    go_wp2_with (first | ((with_reducible refine gate_dst (N := 1) rfl ?_); refine box_event ?hg (N := 1) ?hd (cs := #[.int .i64 a0_0, .slice A0_1 l0_1.length c0_1]) (t := 28) ?hr ?_; (case hd => rfl); (case hg => rfl); (case hr => first | (go_simp; done) | (go_simp; rfl)); intro gb hgb w1 hbox hb; have HB1 := Aside0.mk (below_step HB0.out hb); have hc0 := (blk_cell hbox 0).trans rfl; have hc1 := (blk_cell hbox 1).trans rfl; have HX := Aside0.mk hbox; clear hb hbox hgb))
    refine (within_run _ _ _ _).mono ?_; rintro e w2 ⟨rfl, hd⟩; have HB2 := Aside0.mk (below_step HB1.out hd.below); clear hd
    rw [HW.out]
    go_wp2_with fail
    go_ret
    exact ⟨rfl, HB2.out⟩
  | true =>
    by_cases h10 : (l0_1.length : Int) > 10
    · have h10b : decide ((10 : Int) < (l0_1.length : Int)) = true := decide_eq_true h10
      have h10c : decide (10 < l0_1.length) = true := decide_eq_true (by omega)
      have HT := Aside0.mk (decide_eq_true h10)
      clear HI HC h10
      go_enter Tryd.func60, Tryd.ntmps60
      go_wp2_with (first | ((with_reducible refine gate_dst (N := 1) rfl ?_); refine box_event ?hg (N := 1) ?hd (cs := #[.int .i64 a0_0, .slice A0_1 l0_1.length c0_1]) (t := 28) ?hr ?_; (case hd => rfl); (case hg => rfl); (case hr => first | (go_simp; done) | (go_simp; rfl)); intro gb hgb w1 hbox hb; have HB1 := Aside0.mk (below_step HB0.out hb); have hc0 : w1.cell? ⟨gb, 0, none⟩ = some (.int .i64 a0_0) := (blk_cell hbox 0).trans rfl; have hc1 : w1.cell? ⟨gb, 1, none⟩ = some (.slice A0_1 l0_1.length c0_1) := (blk_cell hbox 1).trans rfl; have HX := Aside0.mk hbox; clear hb hbox hgb))
      refine (within_run _ _ _ _).mono ?_; rintro e w2 ⟨rfl, hd⟩; have HBd := Aside0.mk hd.below; have HB2 := Aside0.mk (below_step HB1.out hd.below); clear hd
      have hc2 : w2.cell? ⟨gb, 1, none⟩ = some (.slice A0_1 l0_1.length c0_1) := (HBd.out.cell (World.block_lt_of_cell? w1 _ hc1)).trans hc1; have HX2 := Aside0.mk (blk_below HX.out HBd.out)
      rw [HW.out]
      go_wp2_with fail
      go_ret
      exact ⟨by rw [HT.out]; rfl, HB2.out⟩
    · have h10b : decide ((10 : Int) < (l0_1.length : Int)) = false := decide_eq_false h10
      have h10c : decide (10 < l0_1.length) = false := decide_eq_false (by omega)
      have HT := Aside0.mk (decide_eq_false h10)
      clear h10
      cases b3 with
      | true =>
        clear HI
        go_enter Tryd.func60, Tryd.ntmps60
        go_wp2_with (first | ((with_reducible refine gate_dst (N := 1) rfl ?_); refine box_event ?hg (N := 1) ?hd (cs := #[.int .i64 a0_0, .slice A0_1 l0_1.length c0_1]) (t := 28) ?hr ?_; (case hd => rfl); (case hg => rfl); (case hr => first | (go_simp; done) | (go_simp; rfl)); intro gb hgb w1 hbox hb; have HB1 := Aside0.mk (below_step HB0.out hb); have hc0 : w1.cell? ⟨gb, 0, none⟩ = some (.int .i64 a0_0) := (blk_cell hbox 0).trans rfl; have hc1 : w1.cell? ⟨gb, 1, none⟩ = some (.slice A0_1 l0_1.length c0_1) := (blk_cell hbox 1).trans rfl; have HX := Aside0.mk hbox; clear hb hbox hgb))
        refine (within_run _ _ _ _).mono ?_; rintro e w2 ⟨rfl, hd⟩; have HBd := Aside0.mk hd.below; have HB2 := Aside0.mk (below_step HB1.out hd.below); clear hd
        have hc2 : w2.cell? ⟨gb, 1, none⟩ = some (.slice A0_1 l0_1.length c0_1) := (HBd.out.cell (World.block_lt_of_cell? w1 _ hc1)).trans hc1; have HX2 := Aside0.mk (blk_below HX.out HBd.out)
        rw [HW.out]
        go_wp2_with fail
        refine (HC gb _ HX2.out HB2.out).mono ?_; rintro e w3 ⟨rfl, hd⟩; have HB3 := Aside0.mk (below_step HB2.out hd); clear hd
        go_wp2_with fail
        go_ret
        exact ⟨by rw [HT.out]; rfl, HB3.out⟩
      | false =>
        go_enter Tryd.func60, Tryd.ntmps60
        go_wp2_with (first | ((with_reducible refine gate_dst (N := 1) rfl ?_); refine box_event ?hg (N := 1) ?hd (cs := #[.int .i64 a0_0, .slice A0_1 l0_1.length c0_1]) (t := 28) ?hr ?_; (case hd => rfl); (case hg => rfl); (case hr => first | (go_simp; done) | (go_simp; rfl)); intro gb hgb w1 hbox hb; have HB1 := Aside0.mk (below_step HB0.out hb); have hc0 : w1.cell? ⟨gb, 0, none⟩ = some (.int .i64 a0_0) := (blk_cell hbox 0).trans rfl; have hc1 : w1.cell? ⟨gb, 1, none⟩ = some (.slice A0_1 l0_1.length c0_1) := (blk_cell hbox 1).trans rfl; have HX := Aside0.mk hbox; clear hb hbox hgb))
        refine (within_run _ _ _ _).mono ?_; rintro e w2 ⟨rfl, hd⟩; have HBd := Aside0.mk hd.below; have HB2 := Aside0.mk (below_step HB1.out hd.below); clear hd
        have hc2 : w2.cell? ⟨gb, 1, none⟩ = some (.slice A0_1 l0_1.length c0_1) := (HBd.out.cell (World.block_lt_of_cell? w1 _ hc1)).trans hc1; have HX2 := Aside0.mk (blk_below HX.out HBd.out)
        rw [HW.out]
        go_wp2_with fail
        refine (HC gb _ HX2.out HB2.out).mono ?_; rintro e w3 ⟨rfl, hd⟩; have HB3 := Aside0.mk (below_step HB2.out hd)
        have hc3 : w3.cell? ⟨gb, 1, none⟩ = some (.slice A0_1 l0_1.length c0_1) := (hd.cell (World.block_lt_of_cell? w2 _ hc2)).trans hc2
        clear hd
        go_wp2_with fail
        refine (HI _ HB3.out).mono ?_; rintro e w4 ⟨rfl, hd⟩; have HB4 := Aside0.mk (below_step HB3.out hd.below); clear hd
        go_wp2_with fail
        go_ret
        exact ⟨by rw [HT.out]; cases b4 <;> rfl, HB4.out⟩
/-! ### impl_stateOfCode: function 35 -/
def impl_stateOfCode.f (k : Nat) (a0_0 : Int) (l0_1 : List (List Int)) (a1 : ByteArray) : Option (Int) := if (a1.size : Int) = (l0_1.length : Int) then ((strings_Trim.f a1 (⟨#[46, 115, 99]⟩ : ByteArray)).bind fun t178 => ((impl_IsNet.f a0_0 l0_1).bind fun t179 => ((impl_first.f k (([(⟨t179, 1⟩ : S71), (⟨(t178.toList == ([] : List UInt8)), 2⟩ : S71)] : List (S71)))).bind fun t183 => (some t183)))) else ((impl_IsNet.f a0_0 l0_1).bind fun t184 => ((impl_first.f k (([(⟨t184, 1⟩ : S71), (⟨false, 2⟩ : S71)] : List (S71)))).bind fun t188 => (some t188)))
set_option maxHeartbeats 8000000 in
set_option maxRecDepth 100000 in
theorem impl_stateOfCode.calls (k : Nat) (a0_0 : Int) (A0_1 : Option Addr) (c0_1 : Nat) (l0_1 : List (List Int)) (a1 : ByteArray) (r : Int) (w : World) (hr0_1 : Kd.C (Kd.slice 2 (Kd.int .i64)) w A0_1 l0_1.length l0_1) (hc0_1 : l0_1.length ≤ c0_1) (h : impl_stateOfCode.f k a0_0 l0_1 a1 = some r) :
  Calls Tryd.prog 35 #[.agg #[.int .i64 a0_0, .slice A0_1 l0_1.length c0_1], .string a1] w fun e w' => e = .returned (.int .i64 r) ∧ Below w.heap.size w w' := by
 have hu28 := Tryd.underlying28
 have hu71 := Tryd.underlying71
 have HR0_1 := Aside0.mk hr0_1
 have HC0_1 := Aside0.mk hc0_1
 clear hr0_1 hc0_1
 have HB := Aside0.mk (Below.refl w.heap.size w)
 have H : (if (a1.size : Int) = (l0_1.length : Int) then ((strings_Trim.f a1 (⟨#[46, 115, 99]⟩ : ByteArray)).bind fun t178 => ((impl_IsNet.f a0_0 l0_1).bind fun t179 => ((impl_first.f k (([(⟨t179, 1⟩ : S71), (⟨(t178.toList == ([] : List UInt8)), 2⟩ : S71)] : List (S71)))).bind fun t183 => (some t183)))) else ((impl_IsNet.f a0_0 l0_1).bind fun t184 => ((impl_first.f k (([(⟨t184, 1⟩ : S71), (⟨false, 2⟩ : S71)] : List (S71)))).bind fun t188 => (some t188)))) = some r := h
 clear h
 by_cases c3 : (a1.size : Int) = (l0_1.length : Int)
 ·rw [if_pos c3] at H
  have c3b0 : ((a1.size : Int) == (l0_1.length : Int)) = true := beq_iff_eq.mpr c3
  have c3b1 : ((a1.size : Int) != (l0_1.length : Int)) = false := bne_eq_false_iff_eq.mpr c3
  have c3b2 : (a1.size == l0_1.length) = true := by first | simpa using c3 | (simp at c3 ⊢; omega)
  clear c3
  replace H := Option.bind_eq_some_iff.mp H
  obtain ⟨t178, A40, H⟩ := H
  replace H : ((impl_IsNet.f a0_0 l0_1).bind fun t179 => ((impl_first.f k (([(⟨t179, 1⟩ : S71), (⟨(t178.toList == ([] : List UInt8)), 2⟩ : S71)] : List (S71)))).bind fun t183 => (some t183))) = some r := H
  have A4 := Aside0.mk A40
  clear A40
  replace H := Option.bind_eq_some_iff.mp H
  obtain ⟨t179, A50, H⟩ := H
  replace H : ((impl_first.f k (([(⟨t179, 1⟩ : S71), (⟨(t178.toList == ([] : List UInt8)), 2⟩ : S71)] : List (S71)))).bind fun t183 => (some t183)) = some r := H
  have A5 := Aside0.mk A50
  clear A50
  obtain ⟨y180, hy180⟩ : ∃ y_ : List (S71), y_ = (([(⟨t179, 1⟩ : S71), (⟨(t178.toList == ([] : List UInt8)), 2⟩ : S71)] : List (S71))) := ⟨_, rfl⟩
  replace H : ((impl_first.f k y180).bind fun t183 => (some t183)) = some r := by first | (rw [hy180]; with_reducible exact H) | (have H2_ := (Option.bind_some _ _).symm.trans H; rw [hy180]; with_reducible exact H2_) | (have H2_ := (Option.bind_some _ _).symm.trans H; with_reducible exact H2_) | with_reducible exact H | (rw [hy180]; exact H) | exact H
  have Ny180 := Aside0.mk hy180
  clear hy180
  replace H := Option.bind_eq_some_iff.mp H
  obtain ⟨t183, A60, H⟩ := H
  replace H : (some t183) = some r := H
  have A6 := Aside0.mk A60
  clear A60
  obtain rfl := Option.some.inj H
  go_enter Tryd.func35, Tryd.ntmps35
  go_wp2_with (first | ((with_reducible refine gate_dst (N := 2) rfl ?_); refine box_event ?hg (N := 2) ?hd (cs := #[.int .i64 a0_0, .slice A0_1 l0_1.length c0_1]) (t := 28) ?hr ?_; (case hd => rfl); (case hg => rfl); (case hr => first | (go_simp; done) | (go_simp; rfl)); intro gb177 hg w7 hbox hb; have n0_ := Aside0.mk (below_step hb_ hb); have n1_ := Aside0.mk (hbox); have n2_ := Aside0.mk ((by rw [hg]; exact (below_size hb_) : w.heap.size ≤ gb177)); have n3_ := Aside0.mk ((by rw [hg]; exact (below_size hb_) : w.heap.size ≤ gb177)); clear HB; have HB := n0_; have BK177 := n1_; have GW177 := n2_; have GE177 := n3_; clear n0_ n1_ n2_ n3_; clear hb hbox hg; have hcz8_0 : w7.cell? ⟨gb177, 0, none⟩ = some (.int .i64 a0_0) := (blk_cell BK177.out 0).trans rfl; have hcz8_1 : w7.cell? ⟨gb177, 1, none⟩ = some (.slice A0_1 l0_1.length c0_1) := (blk_cell BK177.out 1).trans rfl; have hfz8_0 := blk_frozen BK177.out 0; have hfz8_1 := blk_frozen BK177.out 1) | (go_at_call 59; (with_reducible refine (strings_Trim.calls a1 (⟨#[46, 115, 99]⟩ : ByteArray) t178 _ A4.out).mono ?_); rintro e w9 ⟨rfl, hb⟩; have n0_ := Aside0.mk (blk_below (g := gb177) (o := .cells #[.int .i64 a0_0, .slice A0_1 l0_1.length c0_1] 28 (0, 0)) (by (with_reducible repeat (first | refine blk_drewN ?_ _ | refine blk_drew ?_ | refine blk_alloc ?_ _)); exact BK177.out) hb); have n1_ := Aside0.mk (below_step (by repeat (first | (with_reducible first | exact HB.out | apply below_alloc | apply pw_below_drewN | apply below_drew1 | refine below_set ?_ GE177.out) | exact HB.out)) hb); clear BK177; clear HB; have BK177 := n0_; have HB := n1_; clear n0_ n1_; (try clear hb); (try clear hb2); (try clear hk); (try clear hi); have hcz10_0 : w9.cell? ⟨gb177, 0, none⟩ = some (.int .i64 a0_0) := (blk_cell BK177.out 0).trans rfl; have hcz10_1 : w9.cell? ⟨gb177, 1, none⟩ = some (.slice A0_1 l0_1.length c0_1) := (blk_cell BK177.out 1).trans rfl; have hfz10_0 := blk_frozen BK177.out 0; have hfz10_1 := blk_frozen BK177.out 1) | ((with_reducible refine gate_callee (f := 60) rfl ?_); refine goesA_ (some 18) rfl rfl Tryd.func60 (by kernel_rfl) rfl #[.agg #[.int .i64 a0_0, .slice A0_1 l0_1.length c0_1]] rfl ?_; (with_reducible refine (impl_IsNet.calls a0_0 _ _ l0_1 t179 _ ?side1 ?side2 A5.out).mono ?_); (case side1 => repeat (first | exact (Kd.C_below HR0_1.out HB.out) | (with_reducible refine Kd.C_alloc ?_ _) | (with_reducible refine Kd.C_drewN ?_ _) | (with_reducible refine Kd.C_drew ?_))); (case side2 => exact HC0_1.out); rintro e w11 ⟨rfl, hb⟩; refine ⟨_, rfl, ?_⟩; have n0_ := Aside0.mk (blk_below (g := gb177) (o := .cells #[.int .i64 a0_0, .slice A0_1 l0_1.length c0_1] 28 (0, 0)) (by (with_reducible repeat (first | refine blk_drewN ?_ _ | refine blk_drew ?_ | refine blk_alloc ?_ _)); exact BK177.out) hb); have n1_ := Aside0.mk (below_step (by repeat (first | (with_reducible first | exact HB.out | apply below_alloc | apply pw_below_drewN | apply below_drew1 | refine below_set ?_ GE177.out) | exact HB.out)) hb); clear BK177; clear HB; have BK177 := n0_; have HB := n1_; clear n0_ n1_; (try clear hb); (try clear hb2); (try clear hk); (try clear hi)) | ((with_reducible refine gate_dst (N := 22) rfl ?_); refine Kd.R_lit k71 _ 71 ?hg (N := 22) ?hd (xs := ([(⟨t179, 1⟩ : S71), (⟨(t178.toList == ([] : List UInt8)), 2⟩ : S71)] : List (S71))) (inner := [.bool t179, .int .i64 1, .bool (t178.toList == ([] : List UInt8)), .int .i64 2]) (ok := fun _ => True) (okp := fun _ => True) ?hr ?hp (fun _ hk => hk) trivial (Below.refl _ _) (Nat.le_refl _) (by simp) ?_; (case hd => rfl); (case hg => rfl); (case hr => first | (go_simp; done) | (go_simp; rfl)); (case hp => exact (Reps.c2 (show Kd.M k71 _ _ _ (⟨t179, 1⟩ : S71) [.bool t179, .int .i64 1] from (k71_mkM _ _ _ (⟨t179, 1⟩ : S71) )) (Reps.c2 (show Kd.M k71 _ _ _ (⟨(t178.toList == ([] : List UInt8)), 2⟩ : S71) [.bool (t178.toList == ([] : List UInt8)), .int .i64 2] from (k71_mkM _ _ _ (⟨(t178.toList == ([] : List UInt8)), 2⟩ : S71) )) (Reps.none _ _)))); intro v181 w12 ho13 hb hg_ hnew_; clear hg_ hnew_; (first | rw [← Ny180.out] at ho13 | (simp only [Int.reduceToNat] at ho13; rw [← Ny180.out] at ho13)); have n0_ := Aside0.mk (Kd.R_lower ho13 (below_size (by repeat (first | (with_reducible first | exact HB.out | apply below_alloc | apply pw_below_drewN | apply below_drew1 | refine below_set ?_ GE177.out) | exact HB.out)))); have n1_ := Aside0.mk (blk_below (g := gb177) (o := .cells #[.int .i64 a0_0, .slice A0_1 l0_1.length c0_1] 28 (0, 0)) (by (with_reducible repeat (first | refine blk_drewN ?_ _ | refine blk_drew ?_ | refine blk_alloc ?_ _)); exact BK177.out) hb); have n2_ := Aside0.mk (below_step (by repeat (first | (with_reducible first | exact HB.out | apply below_alloc | apply pw_below_drewN | apply below_drew1 | refine below_set ?_ GE177.out) | exact HB.out)) hb); clear BK177; clear HB; have HO182 := n0_; have BK177 := n1_; have HB := n2_; clear n0_ n1_ n2_; clear hb ho13; obtain ⟨Ao14, co14, eo14⟩ := Kd.R_slice HO182.out; subst eo14) | ((with_reducible refine gate_callee (f := 44) rfl ?_); refine goesA_ (some 23) rfl rfl Tryd.func44 (by kernel_rfl) rfl #[.slice Ao14 y180.length co14] rfl ?_; (with_reducible refine (impl_first.calls k _ _ y180 t183 _ ?side1 ?side2 A6.out).mono ?_); (case side1 => repeat (first | exact (Kd.R_reads' HO182.out).2.2 | (with_reducible refine Kd.C_alloc ?_ _) | (with_reducible refine Kd.C_drewN ?_ _) | (with_reducible refine Kd.C_drew ?_))); (case side2 => exact (Kd.R_reads' HO182.out).2.1); rintro e w15 ⟨rfl, hb⟩; refine ⟨_, rfl, ?_⟩; have n0_ := Aside0.mk (Kd.R_below (by (with_reducible repeat (first | apply Kd.R_alloc | apply Kd.R_drewN | apply Kd.R_drew)); exact HO182.out) hb); have n1_ := Aside0.mk (blk_below (g := gb177) (o := .cells #[.int .i64 a0_0, .slice A0_1 l0_1.length c0_1] 28 (0, 0)) (by (with_reducible repeat (first | refine blk_drewN ?_ _ | refine blk_drew ?_ | refine blk_alloc ?_ _)); exact BK177.out) hb); have n2_ := Aside0.mk (below_step (by repeat (first | (with_reducible first | exact HB.out | apply below_alloc | apply pw_below_drewN | apply below_drew1 | refine below_set ?_ GE177.out) | exact HB.out)) hb); clear HO182; clear BK177; clear HB; have HO182 := n0_; have BK177 := n1_; have HB := n2_; clear n0_ n1_ n2_; (try clear hb); (try clear hb2); (try clear hk); (try clear hi)))
  go_ret
  exact ⟨by first | rfl | (simp [errW_none, errW_some] <;> rfl) | (simp [*, errW_none, errW_some] <;> rfl), by repeat (first | (with_reducible first | exact HB.out | apply below_alloc | apply pw_below_drewN | apply below_drew1 | refine below_set ?_ GE177.out) | exact HB.out)⟩
 ·rw [if_neg c3] at H
  have c3b0 : ((a1.size : Int) == (l0_1.length : Int)) = false := beq_eq_false_iff_ne.mpr c3
  have c3b1 : ((a1.size : Int) != (l0_1.length : Int)) = true := bne_iff_ne.mpr c3
  have c3b2 : (a1.size == l0_1.length) = false := by first | simpa using c3 | (simp at c3 ⊢; omega)
  replace H := Option.bind_eq_some_iff.mp H
  obtain ⟨t184, A160, H⟩ := H
  replace H : ((impl_first.f k (([(⟨t184, 1⟩ : S71), (⟨false, 2⟩ : S71)] : List (S71)))).bind fun t188 => (some t188)) = some r := H
  have A16 := Aside0.mk A160
  clear A160
  obtain ⟨y185, hy185⟩ : ∃ y_ : List (S71), y_ = (([(⟨t184, 1⟩ : S71), (⟨false, 2⟩ : S71)] : List (S71))) := ⟨_, rfl⟩
  replace H : ((impl_first.f k y185).bind fun t188 => (some t188)) = some r := by first | (rw [hy185]; with_reducible exact H) | (have H2_ := (Option.bind_some _ _).symm.trans H; rw [hy185]; with_reducible exact H2_) | (have H2_ := (Option.bind_some _ _).symm.trans H; with_reducible exact H2_) | with_reducible exact H | (rw [hy185]; exact H) | exact H
  have Ny185 := Aside0.mk hy185
  clear hy185
  replace H := Option.bind_eq_some_iff.mp H
  obtain ⟨t188, A170, H⟩ := H
  replace H : (some t188) = some r := H
  have A17 := Aside0.mk A170
  clear A170
  obtain rfl := Option.some.inj H
  go_enter Tryd.func35, Tryd.ntmps35
  go_wp2_with (first | ((with_reducible refine gate_dst (N := 2) rfl ?_); refine box_event ?hg (N := 2) ?hd (cs := #[.int .i64 a0_0, .slice A0_1 l0_1.length c0_1]) (t := 28) ?hr ?_; (case hd => rfl); (case hg => rfl); (case hr => first | (go_simp; done) | (go_simp; rfl)); intro gb177 hg w18 hbox hb; have n0_ := Aside0.mk (below_step hb_ hb); have n1_ := Aside0.mk (hbox); have n2_ := Aside0.mk ((by rw [hg]; exact (below_size hb_) : w.heap.size ≤ gb177)); have n3_ := Aside0.mk ((by rw [hg]; exact (below_size hb_) : w.heap.size ≤ gb177)); clear HB; have HB := n0_; have BK177 := n1_; have GW177 := n2_; have GE177 := n3_; clear n0_ n1_ n2_ n3_; clear hb hbox hg; have hcz19_0 : w18.cell? ⟨gb177, 0, none⟩ = some (.int .i64 a0_0) := (blk_cell BK177.out 0).trans rfl; have hcz19_1 : w18.cell? ⟨gb177, 1, none⟩ = some (.slice A0_1 l0_1.length c0_1) := (blk_cell BK177.out 1).trans rfl; have hfz19_0 := blk_frozen BK177.out 0; have hfz19_1 := blk_frozen BK177.out 1) | ((with_reducible refine gate_callee (f := 60) rfl ?_); refine goesA_ (some 18) rfl rfl Tryd.func60 (by kernel_rfl) rfl #[.agg #[.int .i64 a0_0, .slice A0_1 l0_1.length c0_1]] rfl ?_; (with_reducible refine (impl_IsNet.calls a0_0 _ _ l0_1 t184 _ ?side1 ?side2 A16.out).mono ?_); (case side1 => repeat (first | exact (Kd.C_below HR0_1.out HB.out) | (with_reducible refine Kd.C_alloc ?_ _) | (with_reducible refine Kd.C_drewN ?_ _) | (with_reducible refine Kd.C_drew ?_))); (case side2 => exact HC0_1.out); rintro e w20 ⟨rfl, hb⟩; refine ⟨_, rfl, ?_⟩; have n0_ := Aside0.mk (blk_below (g := gb177) (o := .cells #[.int .i64 a0_0, .slice A0_1 l0_1.length c0_1] 28 (0, 0)) (by (with_reducible repeat (first | refine blk_drewN ?_ _ | refine blk_drew ?_ | refine blk_alloc ?_ _)); exact BK177.out) hb); have n1_ := Aside0.mk (below_step (by repeat (first | (with_reducible first | exact HB.out | apply below_alloc | apply pw_below_drewN | apply below_drew1 | refine below_set ?_ GE177.out) | exact HB.out)) hb); clear BK177; clear HB; have BK177 := n0_; have HB := n1_; clear n0_ n1_; (try clear hb); (try clear hb2); (try clear hk); (try clear hi)) | ((with_reducible refine gate_dst (N := 22) rfl ?_); refine Kd.R_lit k71 _ 71 ?hg (N := 22) ?hd (xs := ([(⟨t184, 1⟩ : S71), (⟨false, 2⟩ : S71)] : List (S71))) (inner := [.bool t184, .int .i64 1, .bool false, .int .i64 2]) (ok := fun _ => True) (okp := fun _ => True) ?hr ?hp (fun _ hk => hk) trivial (Below.refl _ _) (Nat.le_refl _) (by simp) ?_; (case hd => rfl); (case hg => rfl); (case hr => first | (go_simp; done) | (go_simp; rfl)); (case hp => exact (Reps.c2 (show Kd.M k71 _ _ _ (⟨t184, 1⟩ : S71) [.bool t184, .int .i64 1] from (k71_mkM _ _ _ (⟨t184, 1⟩ : S71) )) (Reps.c2 (show Kd.M k71 _ _ _ (⟨false, 2⟩ : S71) [.bool false, .int .i64 2] from (k71_mkM _ _ _ (⟨false, 2⟩ : S71) )) (Reps.none _ _)))); intro v186 w21 ho22 hb hg_ hnew_; clear hg_ hnew_; (first | rw [← Ny185.out] at ho22 | (simp only [Int.reduceToNat] at ho22; rw [← Ny185.out] at ho22)); have n0_ := Aside0.mk (Kd.R_lower ho22 (below_size (by repeat (first | (with_reducible first | exact HB.out | apply below_alloc | apply pw_below_drewN | apply below_drew1 | refine below_set ?_ GE177.out) | exact HB.out)))); have n1_ := Aside0.mk (blk_below (g := gb177) (o := .cells #[.int .i64 a0_0, .slice A0_1 l0_1.length c0_1] 28 (0, 0)) (by (with_reducible repeat (first | refine blk_drewN ?_ _ | refine blk_drew ?_ | refine blk_alloc ?_ _)); exact BK177.out) hb); have n2_ := Aside0.mk (below_step (by repeat (first | (with_reducible first | exact HB.out | apply below_alloc | apply pw_below_drewN | apply below_drew1 | refine below_set ?_ GE177.out) | exact HB.out)) hb); clear BK177; clear HB; have HO187 := n0_; have BK177 := n1_; have HB := n2_; clear n0_ n1_ n2_; clear hb ho22; obtain ⟨Ao23, co23, eo23⟩ := Kd.R_slice HO187.out; subst eo23) | ((with_reducible refine gate_callee (f := 44) rfl ?_); refine goesA_ (some 23) rfl rfl Tryd.func44 (by kernel_rfl) rfl #[.slice Ao23 y185.length co23] rfl ?_; (with_reducible refine (impl_first.calls k _ _ y185 t188 _ ?side1 ?side2 A17.out).mono ?_); (case side1 => repeat (first | exact (Kd.R_reads' HO187.out).2.2 | (with_reducible refine Kd.C_alloc ?_ _) | (with_reducible refine Kd.C_drewN ?_ _) | (with_reducible refine Kd.C_drew ?_))); (case side2 => exact (Kd.R_reads' HO187.out).2.1); rintro e w24 ⟨rfl, hb⟩; refine ⟨_, rfl, ?_⟩; have n0_ := Aside0.mk (Kd.R_below (by (with_reducible repeat (first | apply Kd.R_alloc | apply Kd.R_drewN | apply Kd.R_drew)); exact HO187.out) hb); have n1_ := Aside0.mk (blk_below (g := gb177) (o := .cells #[.int .i64 a0_0, .slice A0_1 l0_1.length c0_1] 28 (0, 0)) (by (with_reducible repeat (first | refine blk_drewN ?_ _ | refine blk_drew ?_ | refine blk_alloc ?_ _)); exact BK177.out) hb); have n2_ := Aside0.mk (below_step (by repeat (first | (with_reducible first | exact HB.out | apply below_alloc | apply pw_below_drewN | apply below_drew1 | refine below_set ?_ GE177.out) | exact HB.out)) hb); clear HO187; clear BK177; clear HB; have HO187 := n0_; have BK177 := n1_; have HB := n2_; clear n0_ n1_ n2_; (try clear hb); (try clear hb2); (try clear hk); (try clear hi)))
  go_ret
  exact ⟨by first | rfl | (simp [errW_none, errW_some] <;> rfl) | (simp [*, errW_none, errW_some] <;> rfl), by repeat (first | (with_reducible first | exact HB.out | apply below_alloc | apply pw_below_drewN | apply below_drew1 | refine below_set ?_ GE177.out) | exact HB.out)⟩
/-! ### laws_szInt64S: function 55 -/
def laws_szInt64S.f (l0 : List Int) (a1 : Int) : Option (Int) := if (wrap64 (a1 - (l0.length : Int))) < 0 then (some (-1)) else (some (wrap64 (a1 - (l0.length : Int))))
set_option maxHeartbeats 8000000 in
set_option maxRecDepth 100000 in
theorem laws_szInt64S.calls (A0 : Option Addr) (c0 : Nat) (l0 : List Int) (a1 : Int) (r : Int) (w : World) (hr0 : Kd.C (Kd.int .i64) w A0 l0.length l0) (hc0 : l0.length ≤ c0) (h : laws_szInt64S.f l0 a1 = some r) :
  Calls Tryd.prog 55 #[.slice A0 l0.length c0, .int .i64 a1] w fun e w' => e = .returned (.int .i64 r) ∧ Drawn0 w w' := by
 have HR0 := Aside0.mk hr0
 have HC0 := Aside0.mk hc0
 clear hr0 hc0
 have H : (if (wrap64 (a1 - (l0.length : Int))) < 0 then (some (-1)) else (some (wrap64 (a1 - (l0.length : Int))))) = some r := h
 clear h
 by_cases c3 : (wrap64 (a1 - (l0.length : Int))) < 0
 ·rw [if_pos c3] at H
  have c3b0 : decide ((wrap64 (a1 - (l0.length : Int))) < 0) = true := decide_eq_true c3
  clear c3
  obtain rfl := Option.some.inj H
  go_enter Tryd.func55, Tryd.ntmps55
  go_wp2
  go_ret
  exact ⟨by first | rfl | (simp; done) | (simp [*]; done), by repeat (first | exact Drawn0.refl _ | apply Drawn0.step)⟩
 ·rw [if_neg c3] at H
  have c3b0 : decide ((wrap64 (a1 - (l0.length : Int))) < 0) = false := decide_eq_false c3
  clear c3
  obtain rfl := Option.some.inj H
  go_enter Tryd.func55, Tryd.ntmps55
  go_wp2
  go_ret
  exact ⟨by first | rfl | (simp; done) | (simp [*]; done), by repeat (first | exact Drawn0.refl _ | apply Drawn0.step)⟩
/-! ### laws_szInt64SS: function 30 -/
def laws_szInt64SS.l0 : Nat → List (List Int) → Int → Int → Option (Int)
 | 0, _, _, _ => none
 | k + 1, x0, x1, x5 => if x5 < (x0.length : Int) then (if 0 ≤ x5 then ((laws_szInt64S.f (rd_L1 x0 x5) x1).bind fun t102 => (if t102 < 0 then (some (-1)) else (laws_szInt64SS.l0 k x0 t102 (wrap64 (x5 + 1))))) else (none)) else (some x1)
def laws_szInt64SS.f (k : Nat) (l0 : List (List Int)) (a1 : Int) : Option (Int) := if (wrap64 (a1 - (l0.length : Int))) < 0 then (some (-1)) else (laws_szInt64SS.l0 k l0 (wrap64 (a1 - (l0.length : Int))) 0)
set_option maxHeartbeats 8000000 in
set_option maxRecDepth 100000 in
theorem laws_szInt64SS.calls (k : Nat) (A0 : Option Addr) (c0 : Nat) (l0 : List (List Int)) (a1 : Int) (r : Int) (w : World) (hr0 : Kd.C (Kd.slice 2 (Kd.int .i64)) w A0 l0.length l0) (hc0 : l0.length ≤ c0) (h : laws_szInt64SS.f k l0 a1 = some r) :
  Calls Tryd.prog 30 #[.slice A0 l0.length c0, .int .i64 a1] w fun e w' => e = .returned (.int .i64 r) ∧ Drawn0 w w' := by
 have HR0 := Aside0.mk hr0
 have HC0 := Aside0.mk hc0
 clear hr0 hc0
 have H : (if (wrap64 (a1 - (l0.length : Int))) < 0 then (some (-1)) else (laws_szInt64SS.l0 k l0 (wrap64 (a1 - (l0.length : Int))) 0)) = some r := h
 clear h
 by_cases c3 : (wrap64 (a1 - (l0.length : Int))) < 0
 ·rw [if_pos c3] at H
  have c3b0 : decide ((wrap64 (a1 - (l0.length : Int))) < 0) = true := decide_eq_true c3
  clear c3
  obtain rfl := Option.some.inj H
  go_enter Tryd.func30, Tryd.ntmps30
  go_wp2
  go_ret
  exact ⟨by first | rfl | (simp; done) | (simp [*]; done), by repeat (first | exact Drawn0.refl _ | apply Drawn0.step)⟩
 ·rw [if_neg c3] at H
  have c3b0 : decide ((wrap64 (a1 - (l0.length : Int))) < 0) = false := decide_eq_false c3
  clear c3
  have H' := Aside0.mk H
  clear H
  go_enter Tryd.func30, Tryd.ntmps30
  go_wp2
  go_loopg [1, 5] k (fun kq v1 v5 w' => ∃ (x1_1 : Int) (x5_1 : Int), v1 = .int .i64 x1_1 ∧ v5 = .int .i64 x5_1 ∧ Aside0 (laws_szInt64SS.l0 kq l0 x1_1 x5_1 = some r) ∧ Aside0 (kq ≤ k) ∧ Drawn0 w w')
  case atStart => exact ⟨(wrap64 (a1 - (l0.length : Int))), (0), (by first | rfl | (simp; done) | (simp [*]; done)), (by first | rfl | (simp; done) | (simp [*]; done)), H', ⟨Nat.le_refl _⟩, by repeat (first | exact Drawn0.refl _ | apply Drawn0.step)⟩
  case round =>
   clear H'
   (try clear p2); (try clear c3); (try clear c3b0)
   obtain ⟨x1_1, x5_1, rfl, rfl, HA, HK1, ⟨m1, rfl⟩⟩ := hrel
   cases gk with
   | zero => exact absurd HA.out (by simp [laws_szInt64SS.l0])
   | succ k1 =>
    have H := HA.out
    clear HA
    simp only [laws_szInt64SS.l0] at H
    by_cases c4 : x5_1 < (l0.length : Int)
    ·rw [if_pos c4] at H
     have c4b0 : decide (x5_1 < (l0.length : Int)) = true := decide_eq_true c4
     clear c4
     by_cases c5 : 0 ≤ x5_1
     ·rw [if_pos c5] at H
      have c5b0 : decide (0 ≤ x5_1) = true := decide_eq_true c5
      clear c5
      replace H := Option.bind_eq_some_iff.mp H
      obtain ⟨t102, A60, H⟩ := H
      replace H : (if t102 < 0 then (some (-1)) else (laws_szInt64SS.l0 k1 l0 t102 (wrap64 (x5_1 + 1)))) = some r := H
      have A6 := Aside0.mk A60
      clear A60
      by_cases c7 : t102 < 0
      ·rw [if_pos c7] at H
       have c7b0 : decide (t102 < 0) = true := decide_eq_true c7
       clear c7
       obtain rfl := Option.some.inj H
       have p101 : 0 ≤ (x5_1 : Int) := oda
       have q101 : x5_1 < (l0.length : Int) := oda
       obtain ⟨ad101, A101_0, c101_0, e101, hx101_0, hl101_0, hi101_0⟩ := at_L1 HR0.out x5_1 p101 q101
       cases e101
       have HR101_0 := Aside0.mk hi101_0
       have HC101_0 := Aside0.mk hl101_0
       clear hi101_0 hl101_0
       replace p101 := eq_true p101
       replace q101 := eq_true q101
       go_wp2_with (first | ((with_reducible refine gate_callee (f := 55) rfl ?_); refine goesA_ (some 23) rfl rfl Tryd.func55 (by kernel_rfl) rfl #[.slice A101_0 (rd_L1 l0 x5_1).length c101_0, .int .i64 x1_1] rfl ?_; (with_reducible refine (laws_szInt64S.calls _ _ (rd_L1 l0 x5_1) x1_1 t102 _ ?side1 ?side2 A6.out).mono ?_); (case side1 => repeat (first | exact HR101_0.out | (with_reducible refine Kd.C_alloc ?_ _) | (with_reducible refine Kd.C_drewN ?_ _) | (with_reducible refine Kd.C_drew ?_))); (case side2 => exact HC101_0.out); rintro e w' ⟨rfl, ⟨nd, rfl⟩⟩; refine ⟨_, rfl, ?_⟩))
       go_ret
       exact ⟨by first | rfl | (simp; done) | (simp [*]; done), by repeat (first | exact Drawn0.refl _ | apply Drawn0.step)⟩
      ·rw [if_neg c7] at H
       have c7b0 : decide (t102 < 0) = false := decide_eq_false c7
       clear c7
       have H' := Aside0.mk H
       clear H
       have p101 : 0 ≤ (x5_1 : Int) := oda
       have q101 : x5_1 < (l0.length : Int) := oda
       obtain ⟨ad101, A101_0, c101_0, e101, hx101_0, hl101_0, hi101_0⟩ := at_L1 HR0.out x5_1 p101 q101
       cases e101
       have HR101_0 := Aside0.mk hi101_0
       have HC101_0 := Aside0.mk hl101_0
       clear hi101_0 hl101_0
       replace p101 := eq_true p101
       replace q101 := eq_true q101
       go_wp2_with (first | ((with_reducible refine gate_callee (f := 55) rfl ?_); refine goesA_ (some 23) rfl rfl Tryd.func55 (by kernel_rfl) rfl #[.slice A101_0 (rd_L1 l0 x5_1).length c101_0, .int .i64 x1_1] rfl ?_; (with_reducible refine (laws_szInt64S.calls _ _ (rd_L1 l0 x5_1) x1_1 t102 _ ?side1 ?side2 A6.out).mono ?_); (case side1 => repeat (first | exact HR101_0.out | (with_reducible refine Kd.C_alloc ?_ _) | (with_reducible refine Kd.C_drewN ?_ _) | (with_reducible refine Kd.C_drew ?_))); (case side2 => exact HC101_0.out); rintro e w' ⟨rfl, ⟨nd, rfl⟩⟩; refine ⟨_, rfl, ?_⟩))
       go_roundg k1
       case measure => have := HK1.out; omega
       case rel => exact ⟨(t102), (wrap64 (x5_1 + 1)), (by first | rfl | (simp; done) | (simp [*]; done)), (by first | rfl | (simp; done) | (simp [*]; done)), H', ⟨by have := HK1.out; omega⟩, by repeat (first | exact Drawn0.refl _ | apply Drawn0.step)⟩
     ·rw [if_neg c5] at H
      exact absurd H (by simp)
    ·rw [if_neg c4] at H
     have c4b0 : decide (x5_1 < (l0.length : Int)) = false := decide_eq_false c4
     clear c4
     obtain rfl := Option.some.inj H
     go_wp2
     go_ret
     exact ⟨by first | rfl | (simp; done) | (simp [*]; done), by repeat (first | exact Drawn0.refl _ | apply Drawn0.step)⟩
/-! ### laws_szNet: function 9 -/
def laws_szNet.f (k : Nat) (a0_0 : Int) (l0_1 : List (List Int)) (a1 : Int) : Option (Int) := (laws_szInt64SS.f k l0_1 a1).bind fun t104 => (if t104 < 0 then (some (-1)) else (some t104))
set_option maxHeartbeats 8000000 in
set_option maxRecDepth 100000 in
theorem laws_szNet.calls (k : Nat) (a0_0 : Int) (A0_1 : Option Addr) (c0_1 : Nat) (l0_1 : List (List Int)) (a1 : Int) (r : Int) (w : World) (hr0_1 : Kd.C (Kd.slice 2 (Kd.int .i64)) w A0_1 l0_1.length l0_1) (hc0_1 : l0_1.length ≤ c0_1) (h : laws_szNet.f k a0_0 l0_1 a1 = some r) :
  Calls Tryd.prog 9 #[.agg #[.int .i64 a0_0, .slice A0_1 l0_1.length c0_1], .int .i64 a1] w fun e w' => e = .returned (.int .i64 r) ∧ Below w.heap.size w w' := by
 have hu24 := Tryd.underlying24
 have HR0_1 := Aside0.mk hr0_1
 have HC0_1 := Aside0.mk hc0_1
 clear hr0_1 hc0_1
 have HB := Aside0.mk (Below.refl w.heap.size w)
 have H : ((laws_szInt64SS.f k l0_1 a1).bind fun t104 => (if t104 < 0 then (some (-1)) else (some t104))) = some r := h
 clear h
 replace H := Option.bind_eq_some_iff.mp H
 obtain ⟨t104, A30, H⟩ := H
 replace H : (if t104 < 0 then (some (-1)) else (some t104)) = some r := H
 have A3 := Aside0.mk A30
 clear A30
 by_cases c4 : t104 < 0
 ·rw [if_pos c4] at H
  have c4b0 : decide (t104 < 0) = true := decide_eq_true c4
  clear c4
  obtain rfl := Option.some.inj H
  go_enter Tryd.func9, Tryd.ntmps9
  go_wp2_with (first | ((with_reducible refine gate_dst (N := 2) rfl ?_); refine box_event ?hg (N := 2) ?hd (cs := #[.int .i64 a0_0, .slice A0_1 l0_1.length c0_1]) (t := 24) ?hr ?_; (case hd => rfl); (case hg => rfl); (case hr => first | (go_simp; done) | (go_simp; rfl)); intro gb103 hg w5 hbox hb; have n0_ := Aside0.mk (below_step hb_ hb); have n1_ := Aside0.mk (hbox); have n2_ := Aside0.mk ((by rw [hg]; exact (below_size hb_) : w.heap.size ≤ gb103)); have n3_ := Aside0.mk ((by rw [hg]; exact (below_size hb_) : w.heap.size ≤ gb103)); clear HB; have HB := n0_; have BK103 := n1_; have GW103 := n2_; have GE103 := n3_; clear n0_ n1_ n2_ n3_; clear hb hbox hg; have hcz6_0 : w5.cell? ⟨gb103, 0, none⟩ = some (.int .i64 a0_0) := (blk_cell BK103.out 0).trans rfl; have hcz6_1 : w5.cell? ⟨gb103, 1, none⟩ = some (.slice A0_1 l0_1.length c0_1) := (blk_cell BK103.out 1).trans rfl; have hfz6_0 := blk_frozen BK103.out 0; have hfz6_1 := blk_frozen BK103.out 1) | ((with_reducible refine gate_callee (f := 30) rfl ?_); refine goesA_ (some 8) rfl rfl Tryd.func30 (by kernel_rfl) rfl #[.slice A0_1 l0_1.length c0_1, .int .i64 a1] rfl ?_; (with_reducible refine (laws_szInt64SS.calls k _ _ l0_1 a1 t104 _ ?side1 ?side2 A3.out).mono ?_); (case side1 => repeat (first | exact (Kd.C_below HR0_1.out HB.out) | (with_reducible refine Kd.C_alloc ?_ _) | (with_reducible refine Kd.C_drewN ?_ _) | (with_reducible refine Kd.C_drew ?_))); (case side2 => exact HC0_1.out); rintro e w' ⟨rfl, ⟨nd, rfl⟩⟩; refine ⟨_, rfl, ?_⟩))
  go_ret
  exact ⟨by first | rfl | (simp [errW_none, errW_some] <;> rfl) | (simp [*, errW_none, errW_some] <;> rfl), by repeat (first | (with_reducible first | exact HB.out | apply below_alloc | apply pw_below_drewN | apply below_drew1 | refine below_set ?_ GE103.out) | exact HB.out)⟩
 ·rw [if_neg c4] at H
  have c4b0 : decide (t104 < 0) = false := decide_eq_false c4
  clear c4
  obtain rfl := Option.some.inj H
  go_enter Tryd.func9, Tryd.ntmps9
  go_wp2_with (first | ((with_reducible refine gate_dst (N := 2) rfl ?_); refine box_event ?hg (N := 2) ?hd (cs := #[.int .i64 a0_0, .slice A0_1 l0_1.length c0_1]) (t := 24) ?hr ?_; (case hd => rfl); (case hg => rfl); (case hr => first | (go_simp; done) | (go_simp; rfl)); intro gb103 hg w7 hbox hb; have n0_ := Aside0.mk (below_step hb_ hb); have n1_ := Aside0.mk (hbox); have n2_ := Aside0.mk ((by rw [hg]; exact (below_size hb_) : w.heap.size ≤ gb103)); have n3_ := Aside0.mk ((by rw [hg]; exact (below_size hb_) : w.heap.size ≤ gb103)); clear HB; have HB := n0_; have BK103 := n1_; have GW103 := n2_; have GE103 := n3_; clear n0_ n1_ n2_ n3_; clear hb hbox hg; have hcz8_0 : w7.cell? ⟨gb103, 0, none⟩ = some (.int .i64 a0_0) := (blk_cell BK103.out 0).trans rfl; have hcz8_1 : w7.cell? ⟨gb103, 1, none⟩ = some (.slice A0_1 l0_1.length c0_1) := (blk_cell BK103.out 1).trans rfl; have hfz8_0 := blk_frozen BK103.out 0; have hfz8_1 := blk_frozen BK103.out 1) | ((with_reducible refine gate_callee (f := 30) rfl ?_); refine goesA_ (some 8) rfl rfl Tryd.func30 (by kernel_rfl) rfl #[.slice A0_1 l0_1.length c0_1, .int .i64 a1] rfl ?_; (with_reducible refine (laws_szInt64SS.calls k _ _ l0_1 a1 t104 _ ?side1 ?side2 A3.out).mono ?_); (case side1 => repeat (first | exact (Kd.C_below HR0_1.out HB.out) | (with_reducible refine Kd.C_alloc ?_ _) | (with_reducible refine Kd.C_drewN ?_ _) | (with_reducible refine Kd.C_drew ?_))); (case side2 => exact HC0_1.out); rintro e w' ⟨rfl, ⟨nd, rfl⟩⟩; refine ⟨_, rfl, ?_⟩))
  go_ret
  exact ⟨by first | rfl | (simp [errW_none, errW_some] <;> rfl) | (simp [*, errW_none, errW_some] <;> rfl), by repeat (first | (with_reducible first | exact HB.out | apply below_alloc | apply pw_below_drewN | apply below_drew1 | refine below_set ?_ GE103.out) | exact HB.out)⟩
/-- The verifier's count of a list. -/
theorem szInt64S_val (l : List Int) (a : Int) (hl : l.length ≤ maxLen) (h0 : 0 ≤ a) (h1 : a ≤ 1048576) : laws_szInt64S.f l a = some (if a < l.length then -1 else a - l.length) := by
  unfold maxLen at hl
  have e : wrap64 (a - (l.length : Int)) = a - l.length := by unfold wrap64; omega
  unfold laws_szInt64S.f
  rw [e]
  by_cases h : a < l.length
  · rw [if_pos h, if_pos (by omega)]
  · rw [if_neg h, if_neg (by omega)]
/-- The verifier's helpers on lists of lists: sizes, copies, equality. -/
theorem rdL_get (l : List (List Int)) (i : Nat) (h : i < l.length) : rd_L1 l (i : Int) = l[i] := by
  show l.getD ((i : Int)).toNat [] = l[i]
  rw [Int.toNat_natCast, List.getD_eq_getElem?_getD, List.getElem?_eq_getElem h]; rfl
def sumLen : List (List Int) → Int
  | [] => 0
  | x :: r => x.length + sumLen r
theorem sumLen_nonneg : ∀ l : List (List Int), 0 ≤ sumLen l
  | [] => by simp [sumLen]
  | x :: r => by have := sumLen_nonneg r; unfold sumLen; omega
theorem sumLen_mem : ∀ (l : List (List Int)) (x : List Int), x ∈ l → (x.length : Int) ≤ sumLen l
  | [], x, h => by simp at h
  | y :: r, x, h => by
    have h0 := sumLen_nonneg r
    unfold sumLen
    rcases List.mem_cons.1 h with rfl | h
    · omega
    · have := sumLen_mem r x h; omega
theorem szInt64SS_l0 (l : List (List Int)) (hl : l.length ≤ maxLen) (hx : ∀ x ∈ l, x.length ≤ maxLen) : ∀ (d i : Nat) (a : Int), i + d = l.length → 0 ≤ a → a ≤ 1048576 → Ev (fun k => laws_szInt64SS.l0 k l a i) (if a < sumLen (l.drop i) then -1 else a - sumLen (l.drop i)) := by
  intro d
  induction d with
  | zero =>
    intro i a hi h0 h1
    refine Ev.step (f := fun _ => some _) (fun k => ?_) (Ev.now _)
    simp only [laws_szInt64SS.l0]
    rw [if_neg (by omega), List.drop_of_length_le (by omega), sumLen, if_neg (by omega)]
    congr 1; omega
  | succ d ih =>
    intro i a hi h0 h1
    have hlt : i < l.length := by omega
    have hn := sumLen_nonneg (l.drop (i + 1))
    rw [List.drop_eq_getElem_cons hlt, sumLen]
    have hxl := hx _ (List.getElem_mem hlt)
    by_cases h : a < l[i].length
    · refine Ev.step (f := fun _ => some _) (fun k => ?_) (Ev.now _)
      simp only [laws_szInt64SS.l0]
      rw [if_pos (by omega), if_pos (by omega), rdL_get l i hlt, szInt64S_val _ a hxl h0 h1, if_pos h, Option.bind_some, if_pos (by omega), if_pos (by omega)]
    · have := ih (i + 1) (a - l[i].length) (by omega) (by omega) (by omega)
      have e : (if a - (l[i].length : Int) < sumLen (l.drop (i + 1)) then (-1 : Int) else a - (l[i].length : Int) - sumLen (l.drop (i + 1))) = if a < (l[i].length : Int) + sumLen (l.drop (i + 1)) then -1 else a - ((l[i].length : Int) + sumLen (l.drop (i + 1))) := by
        by_cases h2 : a < (l[i].length : Int) + sumLen (l.drop (i + 1))
        · rw [if_pos h2, if_pos (by omega)]
        · rw [if_neg h2, if_neg (by omega)]; omega
      rw [e] at this
      refine Ev.step (fun k => ?_) this
      simp only [laws_szInt64SS.l0]
      rw [if_pos (by omega), if_pos (by omega), rdL_get l i hlt, szInt64S_val _ a hxl h0 h1, if_neg h, Option.bind_some, if_neg (by omega), wrap_next hlt (by unfold maxLen at hl; omega)]
/-- The size that is left: -1, or the lists are short. -/
theorem szInt64SS_ev (l : List (List Int)) (hl : l.length ≤ maxLen) (hx : ∀ x ∈ l, x.length ≤ maxLen) (a : Int) (h0 : 0 ≤ a) (h1 : a ≤ 1048576) :
    ∃ v, Ev (fun k => laws_szInt64SS.f k l a) v ∧ (v = -1 ∨ 0 ≤ v ∧ v ≤ a ∧ (l.length : Int) ≤ a ∧ (∀ x ∈ l, (x.length : Int) ≤ a) ∧ v = a - l.length - sumLen l) := by
  have e : wrap64 (a - (l.length : Int)) = a - l.length := by unfold maxLen at hl; unfold wrap64; omega
  by_cases h : a < l.length
  · exact ⟨-1, Ev.congr (fun k => by unfold laws_szInt64SS.f; rw [e, if_pos (by omega)]) (Ev.now _), .inl rfl⟩
  · have := szInt64SS_l0 l hl hx l.length 0 (a - l.length) (by omega) (by omega) (by omega)
    rw [List.drop_zero] at this
    refine ⟨_, Ev.congr (fun k => ?_) this, ?_⟩
    · unfold laws_szInt64SS.f; rw [e, if_neg (by omega)]; rfl
    · have hn := sumLen_nonneg l
      by_cases h2 : a - (l.length : Int) < sumLen l
      · left; rw [if_pos h2]
      · right
        rw [if_neg h2]
        refine ⟨by omega, by omega, by omega, fun x hm => ?_, rfl⟩
        have := sumLen_mem l x hm
        omega
theorem toInt64SS_l0 (l : List (List Int)) (hl : l.length ≤ 1048576) (hx : ∀ x ∈ l, x.length ≤ 1048576) : ∀ (d i : Nat) (y : List (List Int)), i + d = l.length → y.length = l.length → y.take i = l.take i → Ev (fun k => laws_toInt64SS.l0 k l y i) l := by
  intro d
  induction d with
  | zero =>
    intro i y hi hyl ht
    refine Ev.step (f := fun _ => some l) (fun k => ?_) (Ev.now _)
    simp only [laws_toInt64SS.l0]
    rw [if_neg (by omega)]
    have : i = l.length := by omega
    rw [this, List.take_of_length_le (by omega), List.take_of_length_le (by omega)] at ht
    rw [ht]
  | succ d ih =>
    intro i y hi hyl ht
    have hlt : i < l.length := by omega
    have hb := hx _ (List.getElem_mem hlt)
    refine Ev.step (f := fun k => (laws_toInt64S.f k l[i]).bind fun t => laws_toInt64SS.l0 k l (y.set i t) ((i + 1 : Nat) : Int)) (fun k => ?_) (Ev.bind (toInt64S_ev l[i] (by omega)) (ih (i + 1) _ (by omega) (by simpa using hyl) (take_set_next l y i hlt hyl ht)))
    simp only [laws_toInt64SS.l0]
    rw [if_pos (by omega), if_pos (by omega), rdL_get l i hlt, wrap_next hlt (by omega), Int.toNat_natCast]
    refine congrArg _ (funext fun t => ?_)
    rw [if_pos (by omega)]
theorem toInt64SS_ev (l : List (List Int)) (hl : l.length ≤ 1048576) (hx : ∀ x ∈ l, x.length ≤ 1048576) : Ev (fun k => laws_toInt64SS.f k l) l := by
  refine Ev.congr (f := fun k => laws_toInt64SS.l0 k l (List.replicate l.length []) ((0 : Nat) : Int)) (fun k => ?_) (toInt64SS_l0 l hl hx l.length 0 _ (by omega) (by simp) (by simp))
  unfold laws_toInt64SS.f
  rw [if_pos (by omega), if_pos (by omega), Int.toNat_natCast]; rfl
theorem eqInt64SS_l0 (x y : List (List Int)) (hl : x.length = y.length) (hx : x.length ≤ 9223372036854775807) (hb : ∀ z ∈ x, z.length ≤ 9223372036854775807) : ∀ (d i : Nat), i + d = x.length → x.take i = y.take i → Ev (fun k => laws_eqInt64SS.l0 k x y i) (decide (x = y)) := by
  intro d
  induction d with
  | zero =>
    intro i hi ht
    refine Ev.step (f := fun _ => some (decide (x = y))) (fun k => ?_) (Ev.now _)
    simp only [laws_eqInt64SS.l0]
    rw [if_neg (by omega)]
    have : i = x.length := by omega
    rw [this, List.take_of_length_le (by omega), List.take_of_length_le (by omega)] at ht
    simp [ht]
  | succ d ih =>
    intro i hi ht
    have hlt : i < x.length := by omega
    have hz := eqInt64S_ev x[i] (y[i]'(by omega)) (hb _ (List.getElem_mem hlt))
    by_cases he : x[i] = y[i]'(by omega)
    · rw [decide_eq_true he] at hz
      refine Ev.step (f := fun k => (laws_eqInt64S.f k x[i] (y[i]'(by omega))).bind fun t => if t = true then laws_eqInt64SS.l0 k x y ((i + 1 : Nat) : Int) else some false) (fun k => ?_) (Ev.bind hz (Ev.congr (fun k => by rw [if_pos rfl]) (ih (i + 1) (by omega) ?_)))
      · simp only [laws_eqInt64SS.l0]
        rw [if_pos (by omega), if_pos (by omega), if_pos (by omega), wrap_next hlt (by omega), rdL_get x i hlt, rdL_get y i (by omega)]
      · rw [List.take_succ_eq_append_getElem hlt, List.take_succ_eq_append_getElem (by omega), ht, he]
    · rw [decide_eq_false he] at hz
      have hne : x ≠ y := fun h => he (by subst h; rfl)
      rw [decide_eq_false hne]
      refine Ev.step (f := fun k => (laws_eqInt64S.f k x[i] (y[i]'(by omega))).bind fun t => if t = true then laws_eqInt64SS.l0 k x y ((i + 1 : Nat) : Int) else some false) (fun k => ?_) (Ev.bind hz (Ev.congr (fun k => by rw [if_neg (by simp)]) (Ev.now _)))
      simp only [laws_eqInt64SS.l0]
      rw [if_pos (by omega), if_pos (by omega), if_pos (by omega), wrap_next hlt (by omega), rdL_get x i hlt, rdL_get y i (by omega)]
theorem eqInt64SS_ev (x y : List (List Int)) (hx : x.length ≤ 9223372036854775807) (hb : ∀ z ∈ x, z.length ≤ 9223372036854775807) : Ev (fun k => laws_eqInt64SS.f k x y) (decide (x = y)) := by
  by_cases h : x.length = y.length
  · refine Ev.congr (f := fun k => laws_eqInt64SS.l0 k x y ((0 : Nat) : Int)) (fun k => ?_) (eqInt64SS_l0 x y h hx hb x.length 0 (by omega) (by simp))
    unfold laws_eqInt64SS.f
    rw [if_pos (by omega)]; rfl
  · refine Ev.congr (f := fun _ => some (decide (x = y))) (fun k => ?_) (Ev.now _)
    unfold laws_eqInt64SS.f
    rw [if_neg (by omega)]
    have : x ≠ y := fun e => h (by rw [e])
    simp [this]
theorem eqInt64SS_self (x : List (List Int)) (hx : x.length ≤ 9223372036854775807) (hb : ∀ z ∈ x, z.length ≤ 9223372036854775807) : Ev (fun k => laws_eqInt64SS.f k x x) true := by
  have := eqInt64SS_ev x x hx hb
  simpa using this
/-- The reference's 'in' is the program's 'within'. -/
theorem in_inW (n a b : Int) : spec_l01In.f n a b = some (inW n a b) := by
  unfold spec_l01In.f inW
  by_cases h : a ≤ n <;> simp [h]

end Go.Proofs.YtcjeccohlmmfoaaDoor.F
