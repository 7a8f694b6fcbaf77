-- written by the session's program xp.py over the kit's print program
import Derived.Test.YtcjeccohlmmfoaaF0
import Derived.Test.YtcjeccohlmmfoaaFF10
import Derived.Test.YtcjeccohlmmfoaaFF12
import Derived.Test.YtcjeccohlmmfoaaFF14
import Derived.Test.YtcjeccohlmmfoaaFF15
import Derived.Test.YtcjeccohlmmfoaaFF33
import Derived.Test.YtcjeccohlmmfoaaFF34
import Derived.Test.YtcjeccohlmmfoaaFF39
import Derived.Test.YtcjeccohlmmfoaaFF49
import Derived.Test.YtcjeccohlmmfoaaFFLibHelp
namespace Go.Proofs.Ytcjeccohlmmfoaa.F
open Go.RowKit Go.Proofs.YtcjeccohlmmfoaaW.PrintWords Go.Proofs.YtcjeccohlmmfoaaW.PrintLast Go.Proofs.YtcjeccohlmmfoaaW.PrintMore
attribute [local go_sem] max2_int min2_int max_two min_two max_three min_three max_four min_four   -- for this text's walks alone
set_option linter.unusedVariables false
set_option linter.unusedSimpArgs false

/-- The reference's arms are the program's list of numbers in their bounds, and the sums are one. -/
theorem in_inW (n a b : Int) : spec_l01In.f n a b = some (inW n a b) := by
  unfold spec_l01In.f inW
  by_cases h : a ≤ n <;> simp [h]
def wsum : List Int → Int → Int
  | [], a => a
  | x :: r, a => wsum r (wrap64 (a + x))
theorem wrap_id {a : Int} (h1 : -9223372036854775808 ≤ a) (h2 : a ≤ 9223372036854775807) : wrap64 a = a := by unfold wrap64; omega
theorem wsum_sum : ∀ (l : List Int) (a : Int), (∀ x ∈ l, inW x 1 1000 = true) → -1000 ≤ a → a + 1000 * l.length ≤ 1000000000 → wsum l a = a + l.sum
  | [], a, _, _, _ => by simp [wsum]
  | x :: r, a, h, h1, h2 => by
    have hx := h x (by simp)
    simp only [inW, Bool.and_eq_true, decide_eq_true_eq] at hx
    simp only [List.length_cons] at h2
    unfold wsum
    rw [wrap_id (by omega) (by omega), wsum_sum r (a + x) (fun y hy => h y (by simp [hy])) (by omega) (by omega)]
    simp; omega
theorem sum_bound : ∀ (l : List Int), (∀ x ∈ l, inW x 1 1000 = true) → 0 ≤ l.sum ∧ l.sum ≤ 1000 * l.length
  | [], _ => by simp
  | x :: r, h => by
    have hx := h x (by simp)
    simp only [inW, Bool.and_eq_true, decide_eq_true_eq] at hx
    have := sum_bound r (fun y hy => h y (by simp [hy]))
    simp only [List.sum_cons, List.length_cons]; omega
theorem arms_l0 (x : List Int) (hx : x.length ≤ 9223372036854775807) : ∀ (d i : Nat), i + d = x.length → (∀ y ∈ x.take i, inW y 1 1000 = true) → Ev (fun k => spec_l10Arms.l0 k x i) (if x.any (fun n => !inW n 1 1000) = true then 2 else 0) := by
  intro d
  induction d with
  | zero =>
    intro i hi ht
    refine Ev.step (f := fun _ => some _) (fun k => ?_) (Ev.now _)
    simp only [spec_l10Arms.l0]
    rw [if_neg (by omega)]
    rw [List.take_of_length_le (by omega)] at ht
    rw [if_neg]
    simpa using ht
  | succ d ih =>
    intro i hi ht
    have hlt : i < x.length := by omega
    by_cases he : inW x[i] 1 1000 = true
    · refine Ev.step (f := fun k => spec_l10Arms.l0 k x ((i + 1 : Nat) : Int)) (fun k => ?_) (ih (i + 1) (by omega) ?_)
      · simp only [spec_l10Arms.l0]
        rw [if_pos (by omega), if_pos (by omega), wrap_next hlt (by omega), rd_get x i hlt, in_inW, he]; rfl
      · rw [List.take_succ_eq_append_getElem hlt]
        intro y hy
        rcases List.mem_append.1 hy with h | h
        · exact ht y h
        · rw [List.mem_singleton.1 h]; exact he
    · refine Ev.step (f := fun _ => some _) (fun k => ?_) (Ev.now _)
      simp only [spec_l10Arms.l0]
      rw [if_pos (by omega), if_pos (by omega), rd_get x i hlt, in_inW]
      have h2 : (x.any fun n => !inW n 1 1000) = true := List.any_eq_true.2 ⟨x[i], List.getElem_mem hlt, by simpa using he⟩
      rw [if_pos h2]
      simp [he]
theorem arms_ev (x : List Int) (hx : x.length ≤ 9223372036854775807) : Ev (fun k => spec_l10Arms.f k x) (if inW x.length 1 100 = true then (if x.any (fun n => !inW n 1 1000) = true then 2 else 0) else 2) := by
  by_cases h1 : (x.length : Int) < 1
  · refine Ev.congr (f := fun k => spec_l10Arms.j0 k x true) (fun k => ?_) (Ev.step (f := fun _ => some _) (fun k => ?_) (Ev.now _))
    · unfold spec_l10Arms.f; rw [if_pos h1]
    · simp only [spec_l10Arms.j0]
      rw [if_pos trivial, if_neg]
      unfold inW; simp; omega
  · by_cases h2 : (x.length : Int) > 100
    · refine Ev.congr (f := fun k => spec_l10Arms.j0 k x true) (fun k => ?_) (Ev.step (f := fun _ => some _) (fun k => ?_) (Ev.now _))
      · unfold spec_l10Arms.f; rw [if_neg h1, decide_eq_true h2]
      · simp only [spec_l10Arms.j0]
        rw [if_pos trivial, if_neg]
        unfold inW; simp; omega
    · have h3 : inW x.length 1 100 = true := by unfold inW; simp; omega
      rw [if_pos h3]
      refine Ev.congr (f := fun k => spec_l10Arms.j0 k x false) (fun k => ?_) (Ev.step (fun k => ?_) (arms_l0 x hx x.length 0 (by omega) (by simp)))
      · unfold spec_l10Arms.f; rw [if_neg h1, decide_eq_false h2]
      · simp only [spec_l10Arms.j0]
        rw [if_neg (by simp)]; rfl
theorem crosses_l0 (x : List Int) (hx : x.length ≤ 9223372036854775807) : ∀ (d i : Nat) (a : Int), i + d = x.length → Ev (fun k => spec_l10Crosses.l0 k x a i) (wsum (x.drop i) a) := by
  intro d
  induction d with
  | zero =>
    intro i a hi
    refine Ev.step (f := fun _ => some _) (fun k => ?_) (Ev.now _)
    simp only [spec_l10Crosses.l0]
    rw [if_neg (by omega), List.drop_of_length_le (by omega)]; rfl
  | succ d ih =>
    intro i a hi
    have hlt : i < x.length := by omega
    rw [List.drop_eq_getElem_cons hlt]
    refine Ev.step (fun k => ?_) (ih (i + 1) (wrap64 (a + x[i])) (by omega))
    simp only [spec_l10Crosses.l0]
    rw [if_pos (by omega), if_pos (by omega), wrap_next hlt (by omega), rd_get x i hlt]
theorem sum_l0 (x : List Int) (hx : x.length ≤ 9223372036854775807) : ∀ (d i : Nat) (a : Int), i + d = x.length → Ev (fun k => impl_sum.l0 k a x (x.length : Int) i) (wsum (x.drop i) a) := by
  intro d
  induction d with
  | zero =>
    intro i a hi
    refine Ev.step (f := fun _ => some _) (fun k => ?_) (Ev.now _)
    simp only [impl_sum.l0]
    rw [if_neg (by omega), List.drop_of_length_le (by omega)]; rfl
  | succ d ih =>
    intro i a hi
    have hlt : i < x.length := by omega
    rw [List.drop_eq_getElem_cons hlt]
    refine Ev.step (fun k => ?_) (ih (i + 1) (wrap64 (a + x[i])) (by omega))
    simp only [impl_sum.l0]
    rw [if_pos (by omega), if_pos (by omega), if_pos (by omega), wrap_next hlt (by omega), rd_get x i hlt]
/-- What both come to. -/
def crossV (x : List Int) : Int × Int := if inW x.length 1 100 = true then (if x.any (fun n => !inW n 1 1000) = true then (0, 2) else (x.sum + x.length - 2, 0)) else (0, 2)
theorem specCross_ev (x : List Int) (hx : x.length ≤ 9223372036854775807) : Ev (fun k => spec_CrossMoves.f k x) (crossV x) := by
  unfold spec_CrossMoves.f crossV
  refine Ev.bind (arms_ev x hx) ?_
  by_cases h1 : inW x.length 1 100 = true
  · rw [if_pos h1, if_pos h1]
    by_cases h2 : (x.any fun n => !inW n 1 1000) = true
    · rw [if_pos h2, if_pos h2]
      exact Ev.congr (f := fun _ => some (0, 2)) (fun k => by rw [if_neg (by omega)]) (Ev.now _)
    · rw [if_neg h2, if_neg h2]
      have h3 : ∀ y ∈ x, inW y 1 1000 = true := by simpa using h2
      simp only [inW, Bool.and_eq_true, decide_eq_true_eq] at h1
      refine Ev.congr (f := fun k => (spec_l10Crosses.f k x).bind fun t => some (t, 0)) (fun k => by rw [if_pos rfl]) ?_
      unfold spec_l10Crosses.f
      refine Ev.bind (crosses_l0 x hx x.length 0 _ (by omega)) ?_
      rw [wrap_id (by omega) (by omega), List.drop_zero, wsum_sum x _ h3 (by omega) (by omega)]
      refine Ev.congr (f := fun _ => some (x.sum + x.length - 2, 0)) (fun k => ?_) (Ev.now _)
      congr 2; omega
  · rw [if_neg h1, if_neg h1]
    exact Ev.congr (f := fun _ => some (0, 2)) (fun k => by rw [if_neg (by omega)]) (Ev.now _)
theorem implCross_ev (x : List Int) (hx : x.length ≤ 9223372036854775807) : Ev (fun k => impl_CrossMoves.f k x) (crossV x) := by
  unfold impl_CrossMoves.f crossV
  by_cases h1 : inW x.length 1 100 = true
  · rw [if_pos h1]
    by_cases h2 : (x.any fun n => !inW n 1 1000) = true
    · rw [if_pos h2]
      exact Ev.congr (fun k => by rw [if_pos h1, if_pos h2]) (Ev.now _)
    · rw [if_neg h2]
      have h3 : ∀ y ∈ x, inW y 1 1000 = true := by simpa using h2
      have hs := sum_bound x h3
      refine Ev.congr (fun k => by rw [if_pos h1, if_neg h2]) ?_
      simp only [inW, Bool.and_eq_true, decide_eq_true_eq] at h1
      unfold impl_sum.f
      refine Ev.bind (sum_l0 x hx x.length 0 _ (by omega)) ?_
      rw [List.drop_zero, wsum_sum x _ h3 (by omega) (by omega), wrap_id (a := 0 + x.sum + (x.length : Int)) (by omega) (by omega), wrap_id (by omega) (by omega)]
      refine Ev.congr (f := fun _ => some (x.sum + x.length - 2, 0)) (fun k => ?_) (Ev.now _)
      congr 2; omega
  · rw [if_neg h1]
    exact Ev.congr (fun k => by rw [if_neg h1]) (Ev.now _)
def winV (x : List Int) : Int × Int := if (crossV x).2 = 0 then (wrap64 (1 - (Int.tmod (crossV x).1 2)), 0) else (0, (crossV x).2)
theorem implWinner_ev (x : List Int) (hx : x.length ≤ 9223372036854775807) : Ev (fun k => impl_CrossWinner.f k x) (winV x) := by
  unfold impl_CrossWinner.f winV
  refine Ev.bind (implCross_ev x hx) (Ev.congr (f := fun _ => some _) (fun k => ?_) (Ev.now _))
  by_cases h : (crossV x).2 = 0
  · rw [if_pos h, if_pos h]
  · rw [if_neg h, if_neg h]
theorem specWinner_ev (x : List Int) (hx : x.length ≤ 9223372036854775807) : Ev (fun k => spec_CrossWinner.f k x) (winV x) := by
  unfold spec_CrossWinner.f winV crossV
  refine Ev.bind (arms_ev x hx) ?_
  by_cases h1 : inW x.length 1 100 = true
  · simp only [if_pos h1]
    by_cases h2 : (x.any fun n => !inW n 1 1000) = true
    · simp only [if_pos h2]
      exact Ev.congr (f := fun _ => some (0, 2)) (fun k => by rw [if_neg (by omega)]) (Ev.now _)
    · simp only [if_neg h2]
      have h3 : ∀ y ∈ x, inW y 1 1000 = true := by simpa using h2
      simp only [inW, Bool.and_eq_true, decide_eq_true_eq] at h1
      refine Ev.congr (f := fun k => (spec_l10Crosses.f k x).bind fun t => some (wrap64 (1 - (Int.tmod t 2)), 0)) (fun k => by simp) ?_
      unfold spec_l10Crosses.f
      refine Ev.bind (crosses_l0 x hx x.length 0 _ (by omega)) ?_
      rw [wrap_id (a := (x.length : Int) - 2) (by omega) (by omega), List.drop_zero, wsum_sum x _ h3 (by omega) (by omega), if_pos trivial]
      refine Ev.congr (f := fun _ => some _) (fun k => ?_) (Ev.now _)
      rw [show (x.length : Int) - 2 + x.sum = x.sum + x.length - 2 by omega]
  · simp only [if_neg h1]
    exact Ev.congr (f := fun _ => some (0, 2)) (fun k => by rw [if_neg (by omega)]) (Ev.now _)

end Go.Proofs.Ytcjeccohlmmfoaa.F
