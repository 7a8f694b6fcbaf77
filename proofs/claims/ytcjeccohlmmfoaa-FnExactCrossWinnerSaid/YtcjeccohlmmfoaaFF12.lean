-- written by the session's program xp.py over the kit's print program
import Derived.Test.YtcjeccohlmmfoaaF0
import Derived.Test.YtcjeccohlmmfoaaFF35
import Derived.Test.YtcjeccohlmmfoaaFF36
import Derived.Test.YtcjeccohlmmfoaaFF37
import Derived.Test.YtcjeccohlmmfoaaFF39
import Derived.Test.YtcjeccohlmmfoaaFFLibPred
namespace Go.Proofs.Ytcjeccohlmmfoaa.F
open Go.RowKit Go.Proofs.YtcjeccohlmmfoaaW.PrintWords Go.Proofs.YtcjeccohlmmfoaaW.PrintLast Go.Proofs.YtcjeccohlmmfoaaW.PrintMore
attribute [local go_sem] max2_int min2_int max_two min_two max_three min_three max_four min_four   -- for this text's walks alone
set_option linter.unusedVariables false
set_option linter.unusedSimpArgs false

/-! ### impl_CrossMoves: function 12 -/
def inW (n a b : Int) : Bool := decide (a ≤ n) && decide (n ≤ b)
def impl_CrossMoves.f (k : Nat) (l0 : List Int) : Option (Int × Int) :=
  if inW l0.length 1 100 = true then (if l0.any (fun n => !inW n 1 1000) = true then some (0, 2) else (impl_sum.f k l0).bind fun t => some (wrap64 (wrap64 (t + l0.length) - 2), 0)) else some (0, 2)
theorem impl_CrossMoves.mono : ∀ a0 k, LeO (impl_CrossMoves.f k a0) (impl_CrossMoves.f (k + 1) a0) := by
  intro a0 k
  unfold impl_CrossMoves.f
  repeat' first
      | (with_reducible exact LeO.refl _)
      | (with_reducible exact impl_sum.mono _ _)
      | (with_reducible refine LeO.ite ?_ ?_)
      | (with_reducible refine LeO.bind ?_ (fun _ => ?_))
theorem within_inW (n a b : Int) : impl_within.f n a b = some (inW n a b) := by
  unfold impl_within.f inW
  by_cases h : a ≤ n <;> simp [h]
theorem within_run (n a b : Int) (w : World) : Calls Try.prog 35 #[.int .i64 n, .int .i64 a, .int .i64 b] w fun e w' => e = .returned (.bool (inW n a b)) ∧ Drawn0 w w' :=
  impl_within.calls n a b _ w (within_inW n a b)
theorem size_run (A0 : Option Addr) (c0 : Nat) (l0 : List Int) (w : World) (hr0 : Kd.C (Kd.int .i64) w A0 l0.length l0) (hc0 : l0.length ≤ c0) :
    Calls Try.prog 36 #[.slice A0 l0.length c0] w fun e w' => e = .returned (.int .i64 l0.length) ∧ Drawn0 w w' := impl_size_int64.calls A0 c0 l0 _ w hr0 hc0 rfl
theorem crossPred (w : World) : PredK Try.prog 38 #[] (Kd.int .i64) (fun _ => True) (fun n => !inW n 1 1000) w := by
  intro W x v _ hK _
  obtain rfl : v = .int .i64 x := by simpa [Kd.int, Kd.scalar] using hK
  show Calls Try.prog 38 #[.int .i64 x] W _
  clear hK
  go_enter Try.func38, Try.ntmps38
  go_wp2_with (go_at_call 35; refine (within_run _ _ _ _).mono ?_; rintro e w' ⟨rfl, hd⟩)
  go_ret
  exact ⟨rfl, hd.below⟩
set_option maxHeartbeats 4000000 in
set_option maxRecDepth 100000 in
theorem impl_CrossMoves.calls (k : Nat) (A0 : Option Addr) (c0 : Nat) (l0 : List Int) (r1 r2 : Int) (w : World) (hr0 : Kd.C (Kd.int .i64) w A0 l0.length l0) (hc0 : l0.length ≤ c0) (h : impl_CrossMoves.f k l0 = some (r1, r2)) :
    Calls Try.prog 12 #[.slice A0 l0.length c0] w fun e w' => e = .returned (.tuple #[.int .i64 r1, .int .i64 r2]) ∧ Below w.heap.size w w' := by
  have eg : ∀ args w, (callFunc 38 args).run Try.prog w = .ok (.enter 38 args) w := enters_of Try.func38 (by kernel_rfl) rfl
  have HR := Aside0.mk hr0
  have hm := hr0.2.1
  clear hr0
  have H : (if inW l0.length 1 100 = true then (if l0.any (fun n => !inW n 1 1000) = true then some (0, 2) else (impl_sum.f k l0).bind fun t => some (wrap64 (wrap64 (t + l0.length) - 2), 0)) else some (0, 2)) = some (r1, r2) := h
  clear h
  have HS := fun W hb => size_run A0 c0 l0 W (Kd.C_below HR.out hb) hc0
  have HC := fun W hb => slices_ContainsFunc_int64_int64_37.calls 38 #[] (fun _ => True) (fun n => !inW n 1 1000) eg A0 c0 l0 W (crossPred W) (fun _ _ => trivial) (Kd.C_below HR.out hb) hm
  have HSm := fun t hs W hb => impl_sum.calls k A0 c0 l0 t W (Kd.C_below HR.out hb) hc0 hs
  have HB0 := Aside0.mk (Below.refl w.heap.size w)
  generalize hb1 : inW l0.length 1 100 = b1 at *
  have HW := Aside0.mk hb1
  clear hb1
  cases b1 with
  | false =>
    simp only [Bool.false_eq_true, if_false, Option.some.injEq, Prod.mk.injEq] at H
    obtain ⟨rfl, rfl⟩ := H
    go_enter Try.func12, Try.ntmps12
    go_wp2_with fail
    refine (HS _ HB0.out).mono ?_; rintro e w1 ⟨rfl, hd⟩; have HB1 := Aside0.mk (below_step HB0.out hd.below); clear hd
    go_wp2_with fail
    refine (within_run _ _ _ _).mono ?_; rintro e w2 ⟨rfl, hd⟩; have HB2 := Aside0.mk (below_step HB1.out hd.below); clear hd
    rw [HW.out]
    go_wp2_with fail
    go_ret2
    exact ⟨rfl, HB2.out⟩
  | true =>
    simp only [if_true] at H
    generalize hb2 : (l0.any fun n => !inW n 1 1000) = b2 at *
    cases b2 with
    | true =>
      simp only [if_true, Option.some.injEq, Prod.mk.injEq] at H
      obtain ⟨rfl, rfl⟩ := H
      go_enter Try.func12, Try.ntmps12
      go_wp2_with fail
      refine (HS _ HB0.out).mono ?_; rintro e w1 ⟨rfl, hd⟩; have HB1 := Aside0.mk (below_step HB0.out hd.below); clear hd
      go_wp2_with fail
      refine (within_run _ _ _ _).mono ?_; rintro e w2 ⟨rfl, hd⟩; have HB2 := Aside0.mk (below_step HB1.out hd.below); clear hd
      rw [HW.out]
      go_wp2_with fail
      refine (HC _ HB2.out).mono ?_; rintro e w3 ⟨rfl, hd⟩; have HB3 := Aside0.mk (below_step HB2.out hd); clear hd
      go_wp2_with fail
      go_ret2
      exact ⟨rfl, HB3.out⟩
    | false =>
      simp only [Bool.false_eq_true, if_false] at H
      obtain ⟨t, ht, H⟩ := Option.bind_eq_some_iff.1 H
      simp only [Option.some.injEq, Prod.mk.injEq] at H
      obtain ⟨rfl, rfl⟩ := H
      replace HSm := HSm t ht
      clear ht
      go_enter Try.func12, Try.ntmps12
      go_wp2_with fail
      refine (HS _ HB0.out).mono ?_; rintro e w1 ⟨rfl, hd⟩; have HB1 := Aside0.mk (below_step HB0.out hd.below); clear hd
      go_wp2_with fail
      refine (within_run _ _ _ _).mono ?_; rintro e w2 ⟨rfl, hd⟩; have HB2 := Aside0.mk (below_step HB1.out hd.below); clear hd
      rw [HW.out]
      go_wp2_with fail
      refine (HC _ HB2.out).mono ?_; rintro e w3 ⟨rfl, hd⟩; have HB3 := Aside0.mk (below_step HB2.out hd); clear hd
      go_wp2_with fail
      refine (HSm _ HB3.out).mono ?_; rintro e w4 ⟨rfl, hd⟩; have HB4 := Aside0.mk (below_step HB3.out hd.below); clear hd
      go_wp2_with fail
      refine (HS _ HB4.out).mono ?_; rintro e w5 ⟨rfl, hd⟩; have HB5 := Aside0.mk (below_step HB4.out hd.below); clear hd
      go_wp2_with fail
      go_ret2
      exact ⟨rfl, HB5.out⟩

end Go.Proofs.Ytcjeccohlmmfoaa.F
