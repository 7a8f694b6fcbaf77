-- written by the session's program xp.py over the kit's print program, and by hand; texts joined by pack.py
import Derived.Test.YtpfhepbkgbeapaaKFnExactIsDesk5
namespace Go.Proofs.Ytpfhepbkgbeapaa.F
open Go.RowKit Go.Proofs.YtpfhepbkgbeapaaW.PrintWords Go.Proofs.YtpfhepbkgbeapaaW.PrintLast Go.Proofs.YtpfhepbkgbeapaaW.PrintMore
attribute [local go_sem] max2_int min2_int max_two min_two max_three min_three max_four min_four   -- for this text's walks alone
set_option linter.unusedVariables false
set_option linter.unusedSimpArgs false

/-! ### laws_FnExactIsDesk: function 6 -/
def laws_FnExactIsDesk.f (k : Nat) (a0_0 : Int) (l0_1 : List (List (List Int))) (l0_2 : List Int) (l0_3 : List Int) (a0_4 : Int) (l0_5 : List Int) : Option (Bool) := (laws_szDesk.f k a0_0 l0_1 l0_2 l0_3 a0_4 l0_5 1048576).bind fun t588 => (if t588 < 0 then (some true) else ((laws_toDesk.f k a0_0 l0_1 l0_2 l0_3 a0_4 l0_5).bind fun bt589 => ((spec_IsDesk.f k bt589.1 bt589.2.1 bt589.2.2.1 bt589.2.2.2.1 bt589.2.2.2.2.1 bt589.2.2.2.2.2).bind fun t603 => ((laws_toDesk.f k a0_0 l0_1 l0_2 l0_3 a0_4 l0_5).bind fun bt604 => ((impl_IsDesk.f k bt604.1 bt604.2.1 bt604.2.2.1 bt604.2.2.2.1 bt604.2.2.2.2.1 bt604.2.2.2.2.2).bind fun t619 => (if (t619 != t603) = true then (some false) else ((laws_toDesk.f k a0_0 l0_1 l0_2 l0_3 a0_4 l0_5).bind fun bt620 => ((laws_eqDesk.f k bt604.1 bt604.2.1 bt604.2.2.1 bt604.2.2.2.1 bt604.2.2.2.2.1 bt604.2.2.2.2.2 bt620.1 bt620.2.1 bt620.2.2.1 bt620.2.2.2.1 bt620.2.2.2.2.1 bt620.2.2.2.2.2).bind fun t634 => (if t634 = true then (some true) else (some false))))))))))
theorem laws_FnExactIsDesk.mono : ∀ a0 a1 a2 a3 a4 a5 k, LeO (laws_FnExactIsDesk.f k a0 a1 a2 a3 a4 a5) (laws_FnExactIsDesk.f (k + 1) a0 a1 a2 a3 a4 a5) := by
 intro a0 a1 a2 a3 a4 a5 k
 unfold laws_FnExactIsDesk.f
 repeat' first
   | (with_reducible exact impl_IsDesk.mono _ _ _ _ _ _ _)
   | (with_reducible exact laws_eqDesk.mono _ _ _ _ _ _ _ _ _ _ _ _ _)
   | (with_reducible exact laws_szDesk.mono _ _ _ _ _ _ _ _)
   | (with_reducible exact laws_toDesk.mono _ _ _ _ _ _ _)
   | (with_reducible exact spec_IsDesk.mono _ _ _ _ _ _ _)
   | (with_reducible exact LeO.refl _)
   | (with_reducible exact LeO.none _)
   | (with_reducible refine LeO.ite ?_ ?_)
   | (with_reducible refine LeO.bind ?_ (fun _ => ?_))
   | exact impl_IsDesk.mono _ _ _ _ _ _ _
   | exact laws_eqDesk.mono _ _ _ _ _ _ _ _ _ _ _ _ _
   | exact laws_szDesk.mono _ _ _ _ _ _ _ _
   | exact laws_toDesk.mono _ _ _ _ _ _ _
   | exact spec_IsDesk.mono _ _ _ _ _ _ _
   | exact LeO.none _
   | refine LeO.ite ?_ ?_
   | refine LeO.bind ?_ (fun _ => ?_)
set_option maxHeartbeats 8000000 in
set_option maxRecDepth 100000 in
theorem laws_FnExactIsDesk.calls (k : Nat) (a0_0 : Int) (A0_1 : Option Addr) (c0_1 : Nat) (l0_1 : List (List (List Int))) (A0_2 : Option Addr) (c0_2 : Nat) (l0_2 : List Int) (A0_3 : Option Addr) (c0_3 : Nat) (l0_3 : List Int) (a0_4 : Int) (A0_5 : Option Addr) (c0_5 : Nat) (l0_5 : List Int) (r : Bool) (w : World) (hr0_1 : Kd.C (Kd.slice 22 (Kd.slice 2 (Kd.int .i64))) w A0_1 l0_1.length l0_1) (hc0_1 : l0_1.length ≤ c0_1) (hr0_2 : Kd.C (Kd.int .i64) w A0_2 l0_2.length l0_2) (hc0_2 : l0_2.length ≤ c0_2) (hr0_3 : Kd.C (Kd.int .i64) w A0_3 l0_3.length l0_3) (hc0_3 : l0_3.length ≤ c0_3) (hr0_5 : Kd.C (Kd.int .i64) w A0_5 l0_5.length l0_5) (hc0_5 : l0_5.length ≤ c0_5) (h : laws_FnExactIsDesk.f k a0_0 l0_1 l0_2 l0_3 a0_4 l0_5 = some true) :
  Calls Try.prog 6 #[.agg #[.int .i64 a0_0, .slice A0_1 l0_1.length c0_1, .slice A0_2 l0_2.length c0_2, .slice A0_3 l0_3.length c0_3, .int .i64 a0_4, .slice A0_5 l0_5.length c0_5]] w fun e w' => e = .returned (.bool true) ∧ Below w.heap.size w w' := by
 have hu55 := Try.underlying55
 have hu47 := Try.underlying47
 have HR0_1 := Aside0.mk hr0_1
 have HC0_1 := Aside0.mk hc0_1
 clear hr0_1 hc0_1
 have HR0_2 := Aside0.mk hr0_2
 have HC0_2 := Aside0.mk hc0_2
 clear hr0_2 hc0_2
 have HR0_3 := Aside0.mk hr0_3
 have HC0_3 := Aside0.mk hc0_3
 clear hr0_3 hc0_3
 have HR0_5 := Aside0.mk hr0_5
 have HC0_5 := Aside0.mk hc0_5
 clear hr0_5 hc0_5
 have HB := Aside0.mk (Below.refl w.heap.size w)
 have H : ((laws_szDesk.f k a0_0 l0_1 l0_2 l0_3 a0_4 l0_5 1048576).bind fun t588 => (if t588 < 0 then (some true) else ((laws_toDesk.f k a0_0 l0_1 l0_2 l0_3 a0_4 l0_5).bind fun bt589 => ((spec_IsDesk.f k bt589.1 bt589.2.1 bt589.2.2.1 bt589.2.2.2.1 bt589.2.2.2.2.1 bt589.2.2.2.2.2).bind fun t603 => ((laws_toDesk.f k a0_0 l0_1 l0_2 l0_3 a0_4 l0_5).bind fun bt604 => ((impl_IsDesk.f k bt604.1 bt604.2.1 bt604.2.2.1 bt604.2.2.2.1 bt604.2.2.2.2.1 bt604.2.2.2.2.2).bind fun t619 => (if (t619 != t603) = true then (some false) else ((laws_toDesk.f k a0_0 l0_1 l0_2 l0_3 a0_4 l0_5).bind fun bt620 => ((laws_eqDesk.f k bt604.1 bt604.2.1 bt604.2.2.1 bt604.2.2.2.1 bt604.2.2.2.2.1 bt604.2.2.2.2.2 bt620.1 bt620.2.1 bt620.2.2.1 bt620.2.2.2.1 bt620.2.2.2.2.1 bt620.2.2.2.2.2).bind fun t634 => (if t634 = true then (some true) else (some false))))))))))) = some true := h
 clear h
 replace H := Option.bind_eq_some_iff.mp H
 obtain ⟨t588, A20, H⟩ := H
 replace H : (if t588 < 0 then (some true) else ((laws_toDesk.f k a0_0 l0_1 l0_2 l0_3 a0_4 l0_5).bind fun bt589 => ((spec_IsDesk.f k bt589.1 bt589.2.1 bt589.2.2.1 bt589.2.2.2.1 bt589.2.2.2.2.1 bt589.2.2.2.2.2).bind fun t603 => ((laws_toDesk.f k a0_0 l0_1 l0_2 l0_3 a0_4 l0_5).bind fun bt604 => ((impl_IsDesk.f k bt604.1 bt604.2.1 bt604.2.2.1 bt604.2.2.2.1 bt604.2.2.2.2.1 bt604.2.2.2.2.2).bind fun t619 => (if (t619 != t603) = true then (some false) else ((laws_toDesk.f k a0_0 l0_1 l0_2 l0_3 a0_4 l0_5).bind fun bt620 => ((laws_eqDesk.f k bt604.1 bt604.2.1 bt604.2.2.1 bt604.2.2.2.1 bt604.2.2.2.2.1 bt604.2.2.2.2.2 bt620.1 bt620.2.1 bt620.2.2.1 bt620.2.2.2.1 bt620.2.2.2.2.1 bt620.2.2.2.2.2).bind fun t634 => (if t634 = true then (some true) else (some false)))))))))) = some true := H
 have A2 := Aside0.mk A20
 clear A20
 by_cases c3 : t588 < 0
 ·rw [if_pos c3] at H
  have c3b0 : decide (t588 < 0) = true := decide_eq_true c3
  clear c3
  clear H
  go_enter Try.func6, Try.ntmps6
  go_wp2_with (first | ((with_reducible refine gate_dst (N := 1) rfl ?_); refine box_event ?hg (N := 1) ?hd (cs := #[.int .i64 a0_0, .slice A0_1 l0_1.length c0_1, .slice A0_2 l0_2.length c0_2, .slice A0_3 l0_3.length c0_3, .int .i64 a0_4, .slice A0_5 l0_5.length c0_5]) (t := 55) ?hr ?_; (case hd => rfl); (case hg => rfl); (case hr => first | (go_simp; done) | (go_simp; rfl)); intro gb587 hg w4 hbox hb; have n0_ := Aside0.mk (below_step hb_ hb); have n1_ := Aside0.mk (hbox); have n2_ := Aside0.mk ((by rw [hg]; exact (below_size hb_) : w.heap.size ≤ gb587)); have n3_ := Aside0.mk ((by rw [hg]; exact (below_size hb_) : w.heap.size ≤ gb587)); clear HB; have HB := n0_; have BK587 := n1_; have GW587 := n2_; have GE587 := n3_; clear n0_ n1_ n2_ n3_; clear hb hbox hg; have hcz5_0 : w4.cell? ⟨gb587, 0, none⟩ = some (.int .i64 a0_0) := (blk_cell BK587.out 0).trans rfl; have hcz5_1 : w4.cell? ⟨gb587, 1, none⟩ = some (.slice A0_1 l0_1.length c0_1) := (blk_cell BK587.out 1).trans rfl; have hcz5_2 : w4.cell? ⟨gb587, 2, none⟩ = some (.slice A0_2 l0_2.length c0_2) := (blk_cell BK587.out 2).trans rfl; have hcz5_3 : w4.cell? ⟨gb587, 3, none⟩ = some (.slice A0_3 l0_3.length c0_3) := (blk_cell BK587.out 3).trans rfl; have hcz5_4 : w4.cell? ⟨gb587, 4, none⟩ = some (.int .i64 a0_4) := (blk_cell BK587.out 4).trans rfl; have hcz5_5 : w4.cell? ⟨gb587, 5, none⟩ = some (.slice A0_5 l0_5.length c0_5) := (blk_cell BK587.out 5).trans rfl; have hfz5_0 := blk_frozen BK587.out 0; have hfz5_1 := blk_frozen BK587.out 1; have hfz5_2 := blk_frozen BK587.out 2; have hfz5_3 := blk_frozen BK587.out 3; have hfz5_4 := blk_frozen BK587.out 4; have hfz5_5 := blk_frozen BK587.out 5) | ((with_reducible refine gate_callee (f := 27) rfl ?_); refine goesA_ (some 9) rfl rfl Try.func27 (by kernel_rfl) rfl #[.agg #[.int .i64 a0_0, .slice A0_1 l0_1.length c0_1, .slice A0_2 l0_2.length c0_2, .slice A0_3 l0_3.length c0_3, .int .i64 a0_4, .slice A0_5 l0_5.length c0_5], .int .i64 1048576] rfl ?_; (with_reducible refine (laws_szDesk.calls k a0_0 _ _ l0_1 _ _ l0_2 _ _ l0_3 a0_4 _ _ l0_5 1048576 t588 _ ?side1 ?side2 ?side3 ?side4 ?side5 ?side6 ?side7 ?side8 A2.out).mono ?_); (case side1 => repeat (first | exact (Kd.C_below HR0_1.out HB.out) | (with_reducible refine Kd.C_alloc ?_ _) | (with_reducible refine Kd.C_drewN ?_ _) | (with_reducible refine Kd.C_drew ?_))); (case side2 => exact HC0_1.out); (case side3 => repeat (first | exact (Kd.C_below HR0_2.out HB.out) | (with_reducible refine Kd.C_alloc ?_ _) | (with_reducible refine Kd.C_drewN ?_ _) | (with_reducible refine Kd.C_drew ?_))); (case side4 => exact HC0_2.out); (case side5 => repeat (first | exact (Kd.C_below HR0_3.out HB.out) | (with_reducible refine Kd.C_alloc ?_ _) | (with_reducible refine Kd.C_drewN ?_ _) | (with_reducible refine Kd.C_drew ?_))); (case side6 => exact HC0_3.out); (case side7 => repeat (first | exact (Kd.C_below HR0_5.out HB.out) | (with_reducible refine Kd.C_alloc ?_ _) | (with_reducible refine Kd.C_drewN ?_ _) | (with_reducible refine Kd.C_drew ?_))); (case side8 => exact HC0_5.out); rintro e w6 ⟨rfl, hb⟩; refine ⟨_, rfl, ?_⟩; have n0_ := Aside0.mk (blk_below (g := gb587) (o := .cells #[.int .i64 a0_0, .slice A0_1 l0_1.length c0_1, .slice A0_2 l0_2.length c0_2, .slice A0_3 l0_3.length c0_3, .int .i64 a0_4, .slice A0_5 l0_5.length c0_5] 55 (0, 0)) (by (with_reducible repeat (first | refine blk_drewN ?_ _ | refine blk_drew ?_ | refine blk_alloc ?_ _)); exact BK587.out) hb); have n1_ := Aside0.mk (below_step (by repeat (first | (with_reducible first | exact HB.out | apply below_alloc | apply pw_below_drewN | apply below_drew1 | refine below_set ?_ GE587.out) | exact HB.out)) hb); clear BK587; clear HB; have BK587 := n0_; have HB := n1_; clear n0_ n1_; (try clear hb); (try clear hb2); (try clear hk); (try clear hi)))
  go_ret
  exact ⟨by first | rfl | (simp [errW_none, errW_some] <;> rfl) | (simp [*, errW_none, errW_some] <;> rfl), by repeat (first | (with_reducible first | exact HB.out | apply below_alloc | apply pw_below_drewN | apply below_drew1 | refine below_set ?_ GE587.out) | exact HB.out)⟩
 ·rw [if_neg c3] at H
  have c3b0 : decide (t588 < 0) = false := decide_eq_false c3
  clear c3
  replace H := Option.bind_eq_some_iff.mp H
  obtain ⟨⟨t589, t590, t593, t596, t599, t600⟩, A70, H⟩ := H
  replace H : ((spec_IsDesk.f k t589 t590 t593 t596 t599 t600).bind fun t603 => ((laws_toDesk.f k a0_0 l0_1 l0_2 l0_3 a0_4 l0_5).bind fun bt604 => ((impl_IsDesk.f k bt604.1 bt604.2.1 bt604.2.2.1 bt604.2.2.2.1 bt604.2.2.2.2.1 bt604.2.2.2.2.2).bind fun t619 => (if (t619 != t603) = true then (some false) else ((laws_toDesk.f k a0_0 l0_1 l0_2 l0_3 a0_4 l0_5).bind fun bt620 => ((laws_eqDesk.f k bt604.1 bt604.2.1 bt604.2.2.1 bt604.2.2.2.1 bt604.2.2.2.2.1 bt604.2.2.2.2.2 bt620.1 bt620.2.1 bt620.2.2.1 bt620.2.2.2.1 bt620.2.2.2.2.1 bt620.2.2.2.2.2).bind fun t634 => (if t634 = true then (some true) else (some false)))))))) = some true := H
  have A7 := Aside0.mk A70
  clear A70
  replace H := Option.bind_eq_some_iff.mp H
  obtain ⟨t603, A80, H⟩ := H
  replace H : ((laws_toDesk.f k a0_0 l0_1 l0_2 l0_3 a0_4 l0_5).bind fun bt604 => ((impl_IsDesk.f k bt604.1 bt604.2.1 bt604.2.2.1 bt604.2.2.2.1 bt604.2.2.2.2.1 bt604.2.2.2.2.2).bind fun t619 => (if (t619 != t603) = true then (some false) else ((laws_toDesk.f k a0_0 l0_1 l0_2 l0_3 a0_4 l0_5).bind fun bt620 => ((laws_eqDesk.f k bt604.1 bt604.2.1 bt604.2.2.1 bt604.2.2.2.1 bt604.2.2.2.2.1 bt604.2.2.2.2.2 bt620.1 bt620.2.1 bt620.2.2.1 bt620.2.2.2.1 bt620.2.2.2.2.1 bt620.2.2.2.2.2).bind fun t634 => (if t634 = true then (some true) else (some false))))))) = some true := H
  have A8 := Aside0.mk A80
  clear A80
  replace H := Option.bind_eq_some_iff.mp H
  obtain ⟨⟨t604, t605, t608, t611, t614, t615⟩, A90, H⟩ := H
  replace H : ((impl_IsDesk.f k t604 t605 t608 t611 t614 t615).bind fun t619 => (if (t619 != t603) = true then (some false) else ((laws_toDesk.f k a0_0 l0_1 l0_2 l0_3 a0_4 l0_5).bind fun bt620 => ((laws_eqDesk.f k t604 t605 t608 t611 t614 t615 bt620.1 bt620.2.1 bt620.2.2.1 bt620.2.2.2.1 bt620.2.2.2.2.1 bt620.2.2.2.2.2).bind fun t634 => (if t634 = true then (some true) else (some false)))))) = some true := H
  have A9 := Aside0.mk A90
  clear A90
  replace H := Option.bind_eq_some_iff.mp H
  obtain ⟨t619, A100, H⟩ := H
  replace H : (if (t619 != t603) = true then (some false) else ((laws_toDesk.f k a0_0 l0_1 l0_2 l0_3 a0_4 l0_5).bind fun bt620 => ((laws_eqDesk.f k t604 t605 t608 t611 t614 t615 bt620.1 bt620.2.1 bt620.2.2.1 bt620.2.2.2.1 bt620.2.2.2.2.1 bt620.2.2.2.2.2).bind fun t634 => (if t634 = true then (some true) else (some false))))) = some true := H
  have A10 := Aside0.mk A100
  clear A100
  by_cases c11 : (t619 != t603) = true
  ·rw [if_pos c11] at H
   have c11b0 : (t619 != t603) = true := c11
   (try (have c11b1 : decide (t619 = t603) = false := by simpa using c11))
   (try (have c11b2 : (t619 == t603) = false := by simpa using c11))
   (try (have c11b3 : ¬ (t619 = t603) := by simpa using c11))
   clear c11
   exact absurd H (by simp)
  ·rw [if_neg c11] at H
   have c11b0 : (t619 != t603) = false := by simpa using c11
   (try (have c11b1 : decide (t619 = t603) = true := by simpa using c11))
   (try (have c11b2 : (t619 == t603) = true := by simpa using c11))
   clear c11
   replace H := Option.bind_eq_some_iff.mp H
   obtain ⟨⟨t620, t621, t624, t627, t630, t631⟩, A320, H⟩ := H
   replace H : ((laws_eqDesk.f k t604 t605 t608 t611 t614 t615 t620 t621 t624 t627 t630 t631).bind fun t634 => (if t634 = true then (some true) else (some false))) = some true := H
   have A32 := Aside0.mk A320
   clear A320
   replace H := Option.bind_eq_some_iff.mp H
   obtain ⟨t634, A330, H⟩ := H
   replace H : (if t634 = true then (some true) else (some false)) = some true := H
   have A33 := Aside0.mk A330
   clear A330
   by_cases c34 : t634 = true
   ·subst c34
    have H1 : (some true) = some true := rfl
    clear H
    have H := H1
    clear H1
    clear H
    go_enter Try.func6, Try.ntmps6
    try go_wp2_with (first | ((with_reducible refine gate_dst (N := 1) rfl ?_); refine box_event ?hg (N := 1) ?hd (cs := #[.int .i64 a0_0, .slice A0_1 l0_1.length c0_1, .slice A0_2 l0_2.length c0_2, .slice A0_3 l0_3.length c0_3, .int .i64 a0_4, .slice A0_5 l0_5.length c0_5]) (t := 55) ?hr ?_; (case hd => rfl); (case hg => rfl); (case hr => first | (go_simp; done) | (go_simp; rfl)); intro gb587 hg w35 hbox hb; have n0_ := Aside0.mk (below_step hb_ hb); have n1_ := Aside0.mk (hbox); have n2_ := Aside0.mk ((by rw [hg]; exact (below_size hb_) : w.heap.size ≤ gb587)); have n3_ := Aside0.mk ((by rw [hg]; exact (below_size hb_) : w.heap.size ≤ gb587)); clear HB; have HB := n0_; have BK587 := n1_; have GW587 := n2_; have GE587 := n3_; clear n0_ n1_ n2_ n3_; clear hb hbox hg; have hcz36_0 : w35.cell? ⟨gb587, 0, none⟩ = some (.int .i64 a0_0) := (blk_cell BK587.out 0).trans rfl; have hcz36_1 : w35.cell? ⟨gb587, 1, none⟩ = some (.slice A0_1 l0_1.length c0_1) := (blk_cell BK587.out 1).trans rfl; have hcz36_2 : w35.cell? ⟨gb587, 2, none⟩ = some (.slice A0_2 l0_2.length c0_2) := (blk_cell BK587.out 2).trans rfl; have hcz36_3 : w35.cell? ⟨gb587, 3, none⟩ = some (.slice A0_3 l0_3.length c0_3) := (blk_cell BK587.out 3).trans rfl; have hcz36_4 : w35.cell? ⟨gb587, 4, none⟩ = some (.int .i64 a0_4) := (blk_cell BK587.out 4).trans rfl; have hcz36_5 : w35.cell? ⟨gb587, 5, none⟩ = some (.slice A0_5 l0_5.length c0_5) := (blk_cell BK587.out 5).trans rfl; have hfz36_0 := blk_frozen BK587.out 0; have hfz36_1 := blk_frozen BK587.out 1; have hfz36_2 := blk_frozen BK587.out 2; have hfz36_3 := blk_frozen BK587.out 3; have hfz36_4 := blk_frozen BK587.out 4; have hfz36_5 := blk_frozen BK587.out 5) | ((with_reducible refine gate_callee (f := 27) rfl ?_); refine goesA_ (some 9) rfl rfl Try.func27 (by kernel_rfl) rfl #[.agg #[.int .i64 a0_0, .slice A0_1 l0_1.length c0_1, .slice A0_2 l0_2.length c0_2, .slice A0_3 l0_3.length c0_3, .int .i64 a0_4, .slice A0_5 l0_5.length c0_5], .int .i64 1048576] rfl ?_; (with_reducible refine (laws_szDesk.calls k a0_0 _ _ l0_1 _ _ l0_2 _ _ l0_3 a0_4 _ _ l0_5 1048576 t588 _ ?side1 ?side2 ?side3 ?side4 ?side5 ?side6 ?side7 ?side8 A2.out).mono ?_); (case side1 => repeat (first | exact (Kd.C_below HR0_1.out HB.out) | (with_reducible refine Kd.C_alloc ?_ _) | (with_reducible refine Kd.C_drewN ?_ _) | (with_reducible refine Kd.C_drew ?_))); (case side2 => exact HC0_1.out); (case side3 => repeat (first | exact (Kd.C_below HR0_2.out HB.out) | (with_reducible refine Kd.C_alloc ?_ _) | (with_reducible refine Kd.C_drewN ?_ _) | (with_reducible refine Kd.C_drew ?_))); (case side4 => exact HC0_2.out); (case side5 => repeat (first | exact (Kd.C_below HR0_3.out HB.out) | (with_reducible refine Kd.C_alloc ?_ _) | (with_reducible refine Kd.C_drewN ?_ _) | (with_reducible refine Kd.C_drew ?_))); (case side6 => exact HC0_3.out); (case side7 => repeat (first | exact (Kd.C_below HR0_5.out HB.out) | (with_reducible refine Kd.C_alloc ?_ _) | (with_reducible refine Kd.C_drewN ?_ _) | (with_reducible refine Kd.C_drew ?_))); (case side8 => exact HC0_5.out); rintro e w37 ⟨rfl, hb⟩; refine ⟨_, rfl, ?_⟩; have n0_ := Aside0.mk (blk_below (g := gb587) (o := .cells #[.int .i64 a0_0, .slice A0_1 l0_1.length c0_1, .slice A0_2 l0_2.length c0_2, .slice A0_3 l0_3.length c0_3, .int .i64 a0_4, .slice A0_5 l0_5.length c0_5] 55 (0, 0)) (by (with_reducible repeat (first | refine blk_drewN ?_ _ | refine blk_drew ?_ | refine blk_alloc ?_ _)); exact BK587.out) hb); have n1_ := Aside0.mk (below_step (by repeat (first | (with_reducible first | exact HB.out | apply below_alloc | apply pw_below_drewN | apply below_drew1 | refine below_set ?_ GE587.out) | exact HB.out)) hb); clear BK587; clear HB; have BK587 := n0_; have HB := n1_; clear n0_ n1_; (try clear hb); (try clear hb2); (try clear hk); (try clear hi); have hcz38_0 : w37.cell? ⟨gb587, 0, none⟩ = some (.int .i64 a0_0) := (blk_cell BK587.out 0).trans rfl; have hcz38_1 : w37.cell? ⟨gb587, 1, none⟩ = some (.slice A0_1 l0_1.length c0_1) := (blk_cell BK587.out 1).trans rfl; have hcz38_2 : w37.cell? ⟨gb587, 2, none⟩ = some (.slice A0_2 l0_2.length c0_2) := (blk_cell BK587.out 2).trans rfl; have hcz38_3 : w37.cell? ⟨gb587, 3, none⟩ = some (.slice A0_3 l0_3.length c0_3) := (blk_cell BK587.out 3).trans rfl; have hcz38_4 : w37.cell? ⟨gb587, 4, none⟩ = some (.int .i64 a0_4) := (blk_cell BK587.out 4).trans rfl; have hcz38_5 : w37.cell? ⟨gb587, 5, none⟩ = some (.slice A0_5 l0_5.length c0_5) := (blk_cell BK587.out 5).trans rfl; have hfz38_0 := blk_frozen BK587.out 0; have hfz38_1 := blk_frozen BK587.out 1; have hfz38_2 := blk_frozen BK587.out 2; have hfz38_3 := blk_frozen BK587.out 3; have hfz38_4 := blk_frozen BK587.out 4; have hfz38_5 := blk_frozen BK587.out 5) | ((with_reducible refine gate_callee (f := 29) rfl ?_); refine goesA_ (some 13) rfl rfl Try.func29 (by kernel_rfl) rfl #[.agg #[.int .i64 a0_0, .slice A0_1 l0_1.length c0_1, .slice A0_2 l0_2.length c0_2, .slice A0_3 l0_3.length c0_3, .int .i64 a0_4, .slice A0_5 l0_5.length c0_5]] rfl ?_; (with_reducible refine (laws_toDesk.calls k a0_0 _ _ l0_1 _ _ l0_2 _ _ l0_3 a0_4 _ _ l0_5 t589 t590 t593 t596 t599 t600 _ ?side1 ?side2 ?side3 ?side4 ?side5 ?side6 ?side7 ?side8 A7.out).mono ?_); (case side1 => repeat (first | exact (Kd.C_below HR0_1.out HB.out) | (with_reducible refine Kd.C_alloc ?_ _) | (with_reducible refine Kd.C_drewN ?_ _) | (with_reducible refine Kd.C_drew ?_))); (case side2 => exact HC0_1.out); (case side3 => repeat (first | exact (Kd.C_below HR0_2.out HB.out) | (with_reducible refine Kd.C_alloc ?_ _) | (with_reducible refine Kd.C_drewN ?_ _) | (with_reducible refine Kd.C_drew ?_))); (case side4 => exact HC0_2.out); (case side5 => repeat (first | exact (Kd.C_below HR0_3.out HB.out) | (with_reducible refine Kd.C_alloc ?_ _) | (with_reducible refine Kd.C_drewN ?_ _) | (with_reducible refine Kd.C_drew ?_))); (case side6 => exact HC0_3.out); (case side7 => repeat (first | exact (Kd.C_below HR0_5.out HB.out) | (with_reducible refine Kd.C_alloc ?_ _) | (with_reducible refine Kd.C_drewN ?_ _) | (with_reducible refine Kd.C_drew ?_))); (case side8 => exact HC0_5.out); rintro e w39 ⟨v591, v594, v597, v601, rfl, ho0, ho1, ho2, ho3, hb⟩; refine ⟨_, rfl, ?_⟩; have n0_ := Aside0.mk (Kd.R_lower ho0 (below_size (by repeat (first | (with_reducible first | exact HB.out | apply below_alloc | apply pw_below_drewN | apply below_drew1 | refine below_set ?_ GE587.out) | exact HB.out)))); have n1_ := Aside0.mk (Kd.R_lower ho1 (below_size (by repeat (first | (with_reducible first | exact HB.out | apply below_alloc | apply pw_below_drewN | apply below_drew1 | refine below_set ?_ GE587.out) | exact HB.out)))); have n2_ := Aside0.mk (Kd.R_lower ho2 (below_size (by repeat (first | (with_reducible first | exact HB.out | apply below_alloc | apply pw_below_drewN | apply below_drew1 | refine below_set ?_ GE587.out) | exact HB.out)))); have n3_ := Aside0.mk (Kd.R_lower ho3 (below_size (by repeat (first | (with_reducible first | exact HB.out | apply below_alloc | apply pw_below_drewN | apply below_drew1 | refine below_set ?_ GE587.out) | exact HB.out)))); have n4_ := Aside0.mk (blk_below (g := gb587) (o := .cells #[.int .i64 a0_0, .slice A0_1 l0_1.length c0_1, .slice A0_2 l0_2.length c0_2, .slice A0_3 l0_3.length c0_3, .int .i64 a0_4, .slice A0_5 l0_5.length c0_5] 55 (0, 0)) (by (with_reducible repeat (first | refine blk_drewN ?_ _ | refine blk_drew ?_ | refine blk_alloc ?_ _)); exact BK587.out) hb); have n5_ := Aside0.mk (below_step (by repeat (first | (with_reducible first | exact HB.out | apply below_alloc | apply pw_below_drewN | apply below_drew1 | refine below_set ?_ GE587.out) | exact HB.out)) hb); clear BK587; clear HB; have HO592 := n0_; have HO595 := n1_; have HO598 := n2_; have HO602 := n3_; have BK587 := n4_; have HB := n5_; clear n0_ n1_ n2_ n3_ n4_ n5_; (try clear hb); (try clear hb2); (try clear hk); (try clear hi); (try clear ho0); (try clear ho1); (try clear ho2); (try clear ho3); obtain ⟨Ao40, co40, eo40⟩ := Kd.R_slice HO592.out; subst eo40; obtain ⟨Ao41, co41, eo41⟩ := Kd.R_slice HO595.out; subst eo41; obtain ⟨Ao42, co42, eo42⟩ := Kd.R_slice HO598.out; subst eo42; obtain ⟨Ao43, co43, eo43⟩ := Kd.R_slice HO602.out; subst eo43) | ((with_reducible refine gate_callee (f := 28) rfl ?_); refine goesA_ (some 14) rfl rfl Try.func28 (by kernel_rfl) rfl #[.agg #[.int .i64 t589, .slice Ao40 t590.length co40, .slice Ao41 t593.length co41, .slice Ao42 t596.length co42, .int .i64 t599, .slice Ao43 t600.length co43]] rfl ?_; (with_reducible refine (spec_IsDesk.calls k t589 _ _ t590 _ _ t593 _ _ t596 t599 _ _ t600 t603 _ ?side1 ?side2 ?side3 ?side4 ?side5 ?side6 ?side7 ?side8 A8.out).mono ?_); (case side1 => repeat (first | exact (Kd.R_reads' HO592.out).2.2 | (with_reducible refine Kd.C_alloc ?_ _) | (with_reducible refine Kd.C_drewN ?_ _) | (with_reducible refine Kd.C_drew ?_))); (case side2 => exact (Kd.R_reads' HO592.out).2.1); (case side3 => repeat (first | exact (Kd.R_reads' HO595.out).2.2 | (with_reducible refine Kd.C_alloc ?_ _) | (with_reducible refine Kd.C_drewN ?_ _) | (with_reducible refine Kd.C_drew ?_))); (case side4 => exact (Kd.R_reads' HO595.out).2.1); (case side5 => repeat (first | exact (Kd.R_reads' HO598.out).2.2 | (with_reducible refine Kd.C_alloc ?_ _) | (with_reducible refine Kd.C_drewN ?_ _) | (with_reducible refine Kd.C_drew ?_))); (case side6 => exact (Kd.R_reads' HO598.out).2.1); (case side7 => repeat (first | exact (Kd.R_reads' HO602.out).2.2 | (with_reducible refine Kd.C_alloc ?_ _) | (with_reducible refine Kd.C_drewN ?_ _) | (with_reducible refine Kd.C_drew ?_))); (case side8 => exact (Kd.R_reads' HO602.out).2.1); rintro e w44 ⟨rfl, hb⟩; refine ⟨_, rfl, ?_⟩; have n0_ := Aside0.mk (Kd.R_below (by (with_reducible repeat (first | apply Kd.R_alloc | apply Kd.R_drewN | apply Kd.R_drew)); exact HO592.out) hb); have n1_ := Aside0.mk (Kd.R_below (by (with_reducible repeat (first | apply Kd.R_alloc | apply Kd.R_drewN | apply Kd.R_drew)); exact HO595.out) hb); have n2_ := Aside0.mk (Kd.R_below (by (with_reducible repeat (first | apply Kd.R_alloc | apply Kd.R_drewN | apply Kd.R_drew)); exact HO598.out) hb); have n3_ := Aside0.mk (Kd.R_below (by (with_reducible repeat (first | apply Kd.R_alloc | apply Kd.R_drewN | apply Kd.R_drew)); exact HO602.out) hb); have n4_ := Aside0.mk (blk_below (g := gb587) (o := .cells #[.int .i64 a0_0, .slice A0_1 l0_1.length c0_1, .slice A0_2 l0_2.length c0_2, .slice A0_3 l0_3.length c0_3, .int .i64 a0_4, .slice A0_5 l0_5.length c0_5] 55 (0, 0)) (by (with_reducible repeat (first | refine blk_drewN ?_ _ | refine blk_drew ?_ | refine blk_alloc ?_ _)); exact BK587.out) hb); have n5_ := Aside0.mk (below_step (by repeat (first | (with_reducible first | exact HB.out | apply below_alloc | apply pw_below_drewN | apply below_drew1 | refine below_set ?_ GE587.out) | exact HB.out)) hb); clear HO592; clear HO595; clear HO598; clear HO602; clear BK587; clear HB; have HO592 := n0_; have HO595 := n1_; have HO598 := n2_; have HO602 := n3_; have BK587 := n4_; have HB := n5_; clear n0_ n1_ n2_ n3_ n4_ n5_; (try clear hb); (try clear hb2); (try clear hk); (try clear hi); have hcz45_0 : w44.cell? ⟨gb587, 0, none⟩ = some (.int .i64 a0_0) := (blk_cell BK587.out 0).trans rfl; have hcz45_1 : w44.cell? ⟨gb587, 1, none⟩ = some (.slice A0_1 l0_1.length c0_1) := (blk_cell BK587.out 1).trans rfl; have hcz45_2 : w44.cell? ⟨gb587, 2, none⟩ = some (.slice A0_2 l0_2.length c0_2) := (blk_cell BK587.out 2).trans rfl; have hcz45_3 : w44.cell? ⟨gb587, 3, none⟩ = some (.slice A0_3 l0_3.length c0_3) := (blk_cell BK587.out 3).trans rfl; have hcz45_4 : w44.cell? ⟨gb587, 4, none⟩ = some (.int .i64 a0_4) := (blk_cell BK587.out 4).trans rfl; have hcz45_5 : w44.cell? ⟨gb587, 5, none⟩ = some (.slice A0_5 l0_5.length c0_5) := (blk_cell BK587.out 5).trans rfl; have hfz45_0 := blk_frozen BK587.out 0; have hfz45_1 := blk_frozen BK587.out 1; have hfz45_2 := blk_frozen BK587.out 2; have hfz45_3 := blk_frozen BK587.out 3; have hfz45_4 := blk_frozen BK587.out 4; have hfz45_5 := blk_frozen BK587.out 5) | ((with_reducible refine gate_callee (f := 29) rfl ?_); refine goesA_ (some 16) rfl rfl Try.func29 (by kernel_rfl) rfl #[.agg #[.int .i64 a0_0, .slice A0_1 l0_1.length c0_1, .slice A0_2 l0_2.length c0_2, .slice A0_3 l0_3.length c0_3, .int .i64 a0_4, .slice A0_5 l0_5.length c0_5]] rfl ?_; (with_reducible refine (laws_toDesk.calls k a0_0 _ _ l0_1 _ _ l0_2 _ _ l0_3 a0_4 _ _ l0_5 t604 t605 t608 t611 t614 t615 _ ?side1 ?side2 ?side3 ?side4 ?side5 ?side6 ?side7 ?side8 A9.out).mono ?_); (case side1 => repeat (first | exact (Kd.C_below HR0_1.out HB.out) | (with_reducible refine Kd.C_alloc ?_ _) | (with_reducible refine Kd.C_drewN ?_ _) | (with_reducible refine Kd.C_drew ?_))); (case side2 => exact HC0_1.out); (case side3 => repeat (first | exact (Kd.C_below HR0_2.out HB.out) | (with_reducible refine Kd.C_alloc ?_ _) | (with_reducible refine Kd.C_drewN ?_ _) | (with_reducible refine Kd.C_drew ?_))); (case side4 => exact HC0_2.out); (case side5 => repeat (first | exact (Kd.C_below HR0_3.out HB.out) | (with_reducible refine Kd.C_alloc ?_ _) | (with_reducible refine Kd.C_drewN ?_ _) | (with_reducible refine Kd.C_drew ?_))); (case side6 => exact HC0_3.out); (case side7 => repeat (first | exact (Kd.C_below HR0_5.out HB.out) | (with_reducible refine Kd.C_alloc ?_ _) | (with_reducible refine Kd.C_drewN ?_ _) | (with_reducible refine Kd.C_drew ?_))); (case side8 => exact HC0_5.out); rintro e w46 ⟨v606, v609, v612, v616, rfl, ho0, ho1, ho2, ho3, hb⟩; refine ⟨_, rfl, ?_⟩; have n0_ := Aside0.mk (Kd.R_mono (Kd.R_told (Kd.R_told (Kd.R_told (Kd.R_told (Kd.R_old (by (with_reducible repeat (first | apply Kd.R_alloc | apply Kd.R_drewN | apply Kd.R_drew)); exact HO592.out) hb) (Kd.R_base ho0)) (Kd.R_base ho1)) (Kd.R_base ho2)) (Kd.R_base ho3)) (fun _ h_ => h_.1)); have n1_ := Aside0.mk (Kd.R_mono (Kd.R_told (Kd.R_told (Kd.R_told (Kd.R_old (by (with_reducible repeat (first | apply Kd.R_alloc | apply Kd.R_drewN | apply Kd.R_drew)); exact HO595.out) hb) (Kd.R_base ho1)) (Kd.R_base ho2)) (Kd.R_base ho3)) (fun _ h_ => h_.1)); have n2_ := Aside0.mk (Kd.R_mono (Kd.R_told (Kd.R_told (Kd.R_told (Kd.R_old (by (with_reducible repeat (first | apply Kd.R_alloc | apply Kd.R_drewN | apply Kd.R_drew)); exact HO598.out) hb) (Kd.R_base ho1)) (Kd.R_base ho2)) (Kd.R_base ho3)) (fun _ h_ => h_.1)); have n3_ := Aside0.mk (Kd.R_mono (Kd.R_told (Kd.R_told (Kd.R_told (Kd.R_old (by (with_reducible repeat (first | apply Kd.R_alloc | apply Kd.R_drewN | apply Kd.R_drew)); exact HO602.out) hb) (Kd.R_base ho1)) (Kd.R_base ho2)) (Kd.R_base ho3)) (fun _ h_ => h_.1)); have n4_ := Aside0.mk (Kd.R_lower (Kd.R_new' (Kd.R_new' (Kd.R_new' (Kd.R_new' ho0 (Kd.R_lt (by (with_reducible repeat (first | apply Kd.R_alloc | apply Kd.R_drewN | apply Kd.R_drew)); exact HO592.out))) (Kd.R_lt (by (with_reducible repeat (first | apply Kd.R_alloc | apply Kd.R_drewN | apply Kd.R_drew)); exact HO595.out))) (Kd.R_lt (by (with_reducible repeat (first | apply Kd.R_alloc | apply Kd.R_drewN | apply Kd.R_drew)); exact HO598.out))) (Kd.R_lt (by (with_reducible repeat (first | apply Kd.R_alloc | apply Kd.R_drewN | apply Kd.R_drew)); exact HO602.out))) (below_size (by repeat (first | (with_reducible first | exact HB.out | apply below_alloc | apply pw_below_drewN | apply below_drew1 | refine below_set ?_ GE587.out) | exact HB.out)))); have n5_ := Aside0.mk (Kd.R_lower (Kd.R_new' (Kd.R_new' (Kd.R_new' ho1 (Kd.R_lt (by (with_reducible repeat (first | apply Kd.R_alloc | apply Kd.R_drewN | apply Kd.R_drew)); exact HO595.out))) (Kd.R_lt (by (with_reducible repeat (first | apply Kd.R_alloc | apply Kd.R_drewN | apply Kd.R_drew)); exact HO598.out))) (Kd.R_lt (by (with_reducible repeat (first | apply Kd.R_alloc | apply Kd.R_drewN | apply Kd.R_drew)); exact HO602.out))) (below_size (by repeat (first | (with_reducible first | exact HB.out | apply below_alloc | apply pw_below_drewN | apply below_drew1 | refine below_set ?_ GE587.out) | exact HB.out)))); have n6_ := Aside0.mk (Kd.R_lower (Kd.R_new' (Kd.R_new' (Kd.R_new' ho2 (Kd.R_lt (by (with_reducible repeat (first | apply Kd.R_alloc | apply Kd.R_drewN | apply Kd.R_drew)); exact HO595.out))) (Kd.R_lt (by (with_reducible repeat (first | apply Kd.R_alloc | apply Kd.R_drewN | apply Kd.R_drew)); exact HO598.out))) (Kd.R_lt (by (with_reducible repeat (first | apply Kd.R_alloc | apply Kd.R_drewN | apply Kd.R_drew)); exact HO602.out))) (below_size (by repeat (first | (with_reducible first | exact HB.out | apply below_alloc | apply pw_below_drewN | apply below_drew1 | refine below_set ?_ GE587.out) | exact HB.out)))); have n7_ := Aside0.mk (Kd.R_lower (Kd.R_new' (Kd.R_new' (Kd.R_new' ho3 (Kd.R_lt (by (with_reducible repeat (first | apply Kd.R_alloc | apply Kd.R_drewN | apply Kd.R_drew)); exact HO595.out))) (Kd.R_lt (by (with_reducible repeat (first | apply Kd.R_alloc | apply Kd.R_drewN | apply Kd.R_drew)); exact HO598.out))) (Kd.R_lt (by (with_reducible repeat (first | apply Kd.R_alloc | apply Kd.R_drewN | apply Kd.R_drew)); exact HO602.out))) (below_size (by repeat (first | (with_reducible first | exact HB.out | apply below_alloc | apply pw_below_drewN | apply below_drew1 | refine below_set ?_ GE587.out) | exact HB.out)))); have n8_ := Aside0.mk (blk_below (g := gb587) (o := .cells #[.int .i64 a0_0, .slice A0_1 l0_1.length c0_1, .slice A0_2 l0_2.length c0_2, .slice A0_3 l0_3.length c0_3, .int .i64 a0_4, .slice A0_5 l0_5.length c0_5] 55 (0, 0)) (by (with_reducible repeat (first | refine blk_drewN ?_ _ | refine blk_drew ?_ | refine blk_alloc ?_ _)); exact BK587.out) hb); have n9_ := Aside0.mk (below_step (by repeat (first | (with_reducible first | exact HB.out | apply below_alloc | apply pw_below_drewN | apply below_drew1 | refine below_set ?_ GE587.out) | exact HB.out)) hb); clear HO592; clear HO595; clear HO598; clear HO602; clear BK587; clear HB; have HO592 := n0_; have HO595 := n1_; have HO598 := n2_; have HO602 := n3_; have HO607 := n4_; have HO610 := n5_; have HO613 := n6_; have HO617 := n7_; have BK587 := n8_; have HB := n9_; clear n0_ n1_ n2_ n3_ n4_ n5_ n6_ n7_ n8_ n9_; (try clear hb); (try clear hb2); (try clear hk); (try clear hi); (try clear ho0); (try clear ho1); (try clear ho2); (try clear ho3)) | ((with_reducible refine gate_dst (N := 5) rfl ?_); refine box_event ?hg (N := 5) ?hd (cs := #[.int .i64 0, .slice none 0 0, .slice none 0 0, .slice none 0 0, .int .i64 0, .slice none 0 0]) (t := 47) ?hr ?_; (case hd => rfl); (case hg => rfl); (case hr => first | (go_simp; done) | (go_simp; rfl)); intro gb618 hg w47 hbox hb; have n0_ := Aside0.mk (Kd.R_below (by (with_reducible repeat (first | apply Kd.R_alloc | apply Kd.R_drewN | apply Kd.R_drew)); exact HO592.out) hb); have n1_ := Aside0.mk (Kd.R_below (by (with_reducible repeat (first | apply Kd.R_alloc | apply Kd.R_drewN | apply Kd.R_drew)); exact HO595.out) hb); have n2_ := Aside0.mk (Kd.R_below (by (with_reducible repeat (first | apply Kd.R_alloc | apply Kd.R_drewN | apply Kd.R_drew)); exact HO598.out) hb); have n3_ := Aside0.mk (Kd.R_below (by (with_reducible repeat (first | apply Kd.R_alloc | apply Kd.R_drewN | apply Kd.R_drew)); exact HO602.out) hb); have n4_ := Aside0.mk (Kd.R_below (by (with_reducible repeat (first | apply Kd.R_alloc | apply Kd.R_drewN | apply Kd.R_drew)); exact HO607.out) hb); have n5_ := Aside0.mk (Kd.R_below (by (with_reducible repeat (first | apply Kd.R_alloc | apply Kd.R_drewN | apply Kd.R_drew)); exact HO610.out) hb); have n6_ := Aside0.mk (Kd.R_below (by (with_reducible repeat (first | apply Kd.R_alloc | apply Kd.R_drewN | apply Kd.R_drew)); exact HO613.out) hb); have n7_ := Aside0.mk (Kd.R_below (by (with_reducible repeat (first | apply Kd.R_alloc | apply Kd.R_drewN | apply Kd.R_drew)); exact HO617.out) hb); have n8_ := Aside0.mk (blk_below (g := gb587) (o := .cells #[.int .i64 a0_0, .slice A0_1 l0_1.length c0_1, .slice A0_2 l0_2.length c0_2, .slice A0_3 l0_3.length c0_3, .int .i64 a0_4, .slice A0_5 l0_5.length c0_5] 55 (0, 0)) (by (with_reducible repeat (first | refine blk_drewN ?_ _ | refine blk_drew ?_ | refine blk_alloc ?_ _)); exact BK587.out) hb); have n9_ := Aside0.mk (below_step (by repeat (first | (with_reducible first | exact HB.out | apply below_alloc | apply pw_below_drewN | apply below_drew1 | refine below_set ?_ GE587.out) | exact HB.out)) hb); have n10_ := Aside0.mk (hbox); have n11_ := Aside0.mk ((by rw [hg]; exact (below_size (by repeat (first | (with_reducible first | exact HB.out | apply below_alloc | apply pw_below_drewN | apply below_drew1 | refine below_set ?_ GE587.out) | exact HB.out))) : w.heap.size ≤ gb618)); have n12_ := Aside0.mk ((by rw [hg]; exact (below_size (by repeat (first | (with_reducible first | exact HB.out | apply below_alloc | apply pw_below_drewN | apply below_drew1 | refine below_set ?_ GE587.out) | exact HB.out))) : w.heap.size ≤ gb618)); have n13_ := Aside0.mk ((by rw [hg]; exact Nat.ne_of_lt (blk_lt (g := gb587) (o := .cells #[.int .i64 a0_0, .slice A0_1 l0_1.length c0_1, .slice A0_2 l0_2.length c0_2, .slice A0_3 l0_3.length c0_3, .int .i64 a0_4, .slice A0_5 l0_5.length c0_5] 55 (0, 0)) (by (with_reducible repeat (first | refine blk_drewN ?_ _ | refine blk_drew ?_ | refine blk_alloc ?_ _)); exact BK587.out)) : gb587 ≠ gb618)); have n14_ := Aside0.mk ((by rw [hg]; exact Nat.ne_of_gt (blk_lt (g := gb587) (o := .cells #[.int .i64 a0_0, .slice A0_1 l0_1.length c0_1, .slice A0_2 l0_2.length c0_2, .slice A0_3 l0_3.length c0_3, .int .i64 a0_4, .slice A0_5 l0_5.length c0_5] 55 (0, 0)) (by (with_reducible repeat (first | refine blk_drewN ?_ _ | refine blk_drew ?_ | refine blk_alloc ?_ _)); exact BK587.out)) : gb618 ≠ gb587)); clear HO592; clear HO595; clear HO598; clear HO602; clear HO607; clear HO610; clear HO613; clear HO617; clear BK587; clear HB; have HO592 := n0_; have HO595 := n1_; have HO598 := n2_; have HO602 := n3_; have HO607 := n4_; have HO610 := n5_; have HO613 := n6_; have HO617 := n7_; have BK587 := n8_; have HB := n9_; have BK618 := n10_; have GW618 := n11_; have GE618 := n12_; have NB587_618 := n13_; have NB618_587 := n14_; clear n0_ n1_ n2_ n3_ n4_ n5_ n6_ n7_ n8_ n9_ n10_ n11_ n12_ n13_ n14_; clear hb hbox hg; have hnb48 := NB618_587.out; have hnc48 := NB587_618.out; have hcz49_0 : w47.cell? ⟨gb618, 0, none⟩ = some (.int .i64 0) := (blk_cell BK618.out 0).trans rfl; have hcz49_1 : w47.cell? ⟨gb618, 1, none⟩ = some (.slice none 0 0) := (blk_cell BK618.out 1).trans rfl; have hcz49_2 : w47.cell? ⟨gb618, 2, none⟩ = some (.slice none 0 0) := (blk_cell BK618.out 2).trans rfl; have hcz49_3 : w47.cell? ⟨gb618, 3, none⟩ = some (.slice none 0 0) := (blk_cell BK618.out 3).trans rfl; have hcz49_4 : w47.cell? ⟨gb618, 4, none⟩ = some (.int .i64 0) := (blk_cell BK618.out 4).trans rfl; have hcz49_5 : w47.cell? ⟨gb618, 5, none⟩ = some (.slice none 0 0) := (blk_cell BK618.out 5).trans rfl; have hfz49_0 := blk_frozen BK618.out 0; have hfz49_1 := blk_frozen BK618.out 1; have hfz49_2 := blk_frozen BK618.out 2; have hfz49_3 := blk_frozen BK618.out 3; have hfz49_4 := blk_frozen BK618.out 4; have hfz49_5 := blk_frozen BK618.out 5; obtain ⟨Ao50, co50, eo50⟩ := Kd.R_slice HO607.out; subst eo50; obtain ⟨Ao51, co51, eo51⟩ := Kd.R_slice HO610.out; subst eo51; obtain ⟨Ao52, co52, eo52⟩ := Kd.R_slice HO613.out; subst eo52; obtain ⟨Ao53, co53, eo53⟩ := Kd.R_slice HO617.out; subst eo53) | ((with_reducible refine gate_callee (f := 30) rfl ?_); refine goesA_ (some 18) rfl rfl Try.func30 (by kernel_rfl) rfl #[.agg #[.int .i64 t604, .slice Ao50 t605.length co50, .slice Ao51 t608.length co51, .slice Ao52 t611.length co52, .int .i64 t614, .slice Ao53 t615.length co53]] rfl ?_; (with_reducible refine (impl_IsDesk.calls k t604 _ _ t605 _ _ t608 _ _ t611 t614 _ _ t615 t619 _ ?side1 ?side2 ?side3 ?side4 ?side5 ?side6 ?side7 ?side8 A10.out).mono ?_); (case side1 => refine (Kd.R_reads' (e := 26) (base := w.heap.size) (ok := fun k_ => (((((some k_ ≠ (.slice Ao51 t608.length co51 : Value).ownBlock ∧ (some k_ ≠ (.slice Ao52 t611.length co52 : Value).ownBlock ∧ some k_ ≠ (.slice Ao53 t615.length co53 : Value).ownBlock)) ∧ some k_ ≠ (.slice Ao40 t590.length co40 : Value).ownBlock) ∧ some k_ ≠ (.slice Ao41 t593.length co41 : Value).ownBlock) ∧ some k_ ≠ (.slice Ao42 t596.length co42 : Value).ownBlock) ∧ some k_ ≠ (.slice Ao43 t600.length co43 : Value).ownBlock)) (n := t605.length) (c := co50) ?_).2.2; exact (by (with_reducible repeat (first | apply Kd.R_alloc | apply Kd.R_drewN | apply Kd.R_drew)); exact (Kd.R_mono (Kd.R_far (p := ⟨gb618, 5, none⟩) (Kd.R_far (p := ⟨gb618, 4, none⟩) (Kd.R_far (p := ⟨gb618, 3, none⟩) (Kd.R_far (p := ⟨gb618, 2, none⟩) (Kd.R_far (p := ⟨gb618, 1, none⟩) (Kd.R_far (p := ⟨gb618, 0, none⟩) (Kd.R_types HO607.out BK618.out (by decide)) (fun _ hk => hk.2) (.int .i64 t604)) (fun _ hk => hk.2) (.slice Ao50 t605.length co50)) (fun _ hk => hk.2) (.slice Ao51 t608.length co51)) (fun _ hk => hk.2) (.slice Ao52 t611.length co52)) (fun _ hk => hk.2) (.int .i64 t614)) (fun _ hk => hk.2) (.slice Ao53 t615.length co53)) (fun _ h_ => h_.1)))); (case side2 => exact (Kd.R_reads' HO607.out).2.1); (case side3 => refine (Kd.R_reads' (e := 2) (base := w.heap.size) (ok := fun k_ => ((((some k_ ≠ (.slice Ao52 t611.length co52 : Value).ownBlock ∧ some k_ ≠ (.slice Ao53 t615.length co53 : Value).ownBlock) ∧ some k_ ≠ (.slice Ao41 t593.length co41 : Value).ownBlock) ∧ some k_ ≠ (.slice Ao42 t596.length co42 : Value).ownBlock) ∧ some k_ ≠ (.slice Ao43 t600.length co43 : Value).ownBlock)) (n := t608.length) (c := co51) ?_).2.2; exact (by (with_reducible repeat (first | apply Kd.R_alloc | apply Kd.R_drewN | apply Kd.R_drew)); exact (Kd.R_mono (Kd.R_far (p := ⟨gb618, 5, none⟩) (Kd.R_far (p := ⟨gb618, 4, none⟩) (Kd.R_far (p := ⟨gb618, 3, none⟩) (Kd.R_far (p := ⟨gb618, 2, none⟩) (Kd.R_far (p := ⟨gb618, 1, none⟩) (Kd.R_far (p := ⟨gb618, 0, none⟩) (Kd.R_types HO610.out BK618.out (by decide)) (fun _ hk => hk.2) (.int .i64 t604)) (fun _ hk => hk.2) (.slice Ao50 t605.length co50)) (fun _ hk => hk.2) (.slice Ao51 t608.length co51)) (fun _ hk => hk.2) (.slice Ao52 t611.length co52)) (fun _ hk => hk.2) (.int .i64 t614)) (fun _ hk => hk.2) (.slice Ao53 t615.length co53)) (fun _ h_ => h_.1)))); (case side4 => exact (Kd.R_reads' HO610.out).2.1); (case side5 => refine (Kd.R_reads' (e := 2) (base := w.heap.size) (ok := fun k_ => ((((some k_ ≠ (.slice Ao51 t608.length co51 : Value).ownBlock ∧ some k_ ≠ (.slice Ao53 t615.length co53 : Value).ownBlock) ∧ some k_ ≠ (.slice Ao41 t593.length co41 : Value).ownBlock) ∧ some k_ ≠ (.slice Ao42 t596.length co42 : Value).ownBlock) ∧ some k_ ≠ (.slice Ao43 t600.length co43 : Value).ownBlock)) (n := t611.length) (c := co52) ?_).2.2; exact (by (with_reducible repeat (first | apply Kd.R_alloc | apply Kd.R_drewN | apply Kd.R_drew)); exact (Kd.R_mono (Kd.R_far (p := ⟨gb618, 5, none⟩) (Kd.R_far (p := ⟨gb618, 4, none⟩) (Kd.R_far (p := ⟨gb618, 3, none⟩) (Kd.R_far (p := ⟨gb618, 2, none⟩) (Kd.R_far (p := ⟨gb618, 1, none⟩) (Kd.R_far (p := ⟨gb618, 0, none⟩) (Kd.R_types HO613.out BK618.out (by decide)) (fun _ hk => hk.2) (.int .i64 t604)) (fun _ hk => hk.2) (.slice Ao50 t605.length co50)) (fun _ hk => hk.2) (.slice Ao51 t608.length co51)) (fun _ hk => hk.2) (.slice Ao52 t611.length co52)) (fun _ hk => hk.2) (.int .i64 t614)) (fun _ hk => hk.2) (.slice Ao53 t615.length co53)) (fun _ h_ => h_.1)))); (case side6 => exact (Kd.R_reads' HO613.out).2.1); (case side7 => refine (Kd.R_reads' (e := 2) (base := w.heap.size) (ok := fun k_ => ((((some k_ ≠ (.slice Ao51 t608.length co51 : Value).ownBlock ∧ some k_ ≠ (.slice Ao52 t611.length co52 : Value).ownBlock) ∧ some k_ ≠ (.slice Ao41 t593.length co41 : Value).ownBlock) ∧ some k_ ≠ (.slice Ao42 t596.length co42 : Value).ownBlock) ∧ some k_ ≠ (.slice Ao43 t600.length co43 : Value).ownBlock)) (n := t615.length) (c := co53) ?_).2.2; exact (by (with_reducible repeat (first | apply Kd.R_alloc | apply Kd.R_drewN | apply Kd.R_drew)); exact (Kd.R_mono (Kd.R_far (p := ⟨gb618, 5, none⟩) (Kd.R_far (p := ⟨gb618, 4, none⟩) (Kd.R_far (p := ⟨gb618, 3, none⟩) (Kd.R_far (p := ⟨gb618, 2, none⟩) (Kd.R_far (p := ⟨gb618, 1, none⟩) (Kd.R_far (p := ⟨gb618, 0, none⟩) (Kd.R_types HO617.out BK618.out (by decide)) (fun _ hk => hk.2) (.int .i64 t604)) (fun _ hk => hk.2) (.slice Ao50 t605.length co50)) (fun _ hk => hk.2) (.slice Ao51 t608.length co51)) (fun _ hk => hk.2) (.slice Ao52 t611.length co52)) (fun _ hk => hk.2) (.int .i64 t614)) (fun _ hk => hk.2) (.slice Ao53 t615.length co53)) (fun _ h_ => h_.1)))); (case side8 => exact (Kd.R_reads' HO617.out).2.1); rintro e w54 ⟨rfl, hb⟩; refine ⟨_, rfl, ?_⟩; have n0_ := Aside0.mk (Kd.R_below (by (with_reducible repeat (first | apply Kd.R_alloc | apply Kd.R_drewN | apply Kd.R_drew)); exact (Kd.R_mono (Kd.R_far (p := ⟨gb618, 5, none⟩) (Kd.R_far (p := ⟨gb618, 4, none⟩) (Kd.R_far (p := ⟨gb618, 3, none⟩) (Kd.R_far (p := ⟨gb618, 2, none⟩) (Kd.R_far (p := ⟨gb618, 1, none⟩) (Kd.R_far (p := ⟨gb618, 0, none⟩) (Kd.R_types HO592.out BK618.out (by decide)) (fun _ hk => hk.2) (.int .i64 t604)) (fun _ hk => hk.2) (.slice Ao50 t605.length co50)) (fun _ hk => hk.2) (.slice Ao51 t608.length co51)) (fun _ hk => hk.2) (.slice Ao52 t611.length co52)) (fun _ hk => hk.2) (.int .i64 t614)) (fun _ hk => hk.2) (.slice Ao53 t615.length co53)) (fun _ h_ => h_.1))) hb); have n1_ := Aside0.mk (Kd.R_below (by (with_reducible repeat (first | apply Kd.R_alloc | apply Kd.R_drewN | apply Kd.R_drew)); exact (Kd.R_mono (Kd.R_far (p := ⟨gb618, 5, none⟩) (Kd.R_far (p := ⟨gb618, 4, none⟩) (Kd.R_far (p := ⟨gb618, 3, none⟩) (Kd.R_far (p := ⟨gb618, 2, none⟩) (Kd.R_far (p := ⟨gb618, 1, none⟩) (Kd.R_far (p := ⟨gb618, 0, none⟩) (Kd.R_types HO595.out BK618.out (by decide)) (fun _ hk => hk.2) (.int .i64 t604)) (fun _ hk => hk.2) (.slice Ao50 t605.length co50)) (fun _ hk => hk.2) (.slice Ao51 t608.length co51)) (fun _ hk => hk.2) (.slice Ao52 t611.length co52)) (fun _ hk => hk.2) (.int .i64 t614)) (fun _ hk => hk.2) (.slice Ao53 t615.length co53)) (fun _ h_ => h_.1))) hb); have n2_ := Aside0.mk (Kd.R_below (by (with_reducible repeat (first | apply Kd.R_alloc | apply Kd.R_drewN | apply Kd.R_drew)); exact (Kd.R_mono (Kd.R_far (p := ⟨gb618, 5, none⟩) (Kd.R_far (p := ⟨gb618, 4, none⟩) (Kd.R_far (p := ⟨gb618, 3, none⟩) (Kd.R_far (p := ⟨gb618, 2, none⟩) (Kd.R_far (p := ⟨gb618, 1, none⟩) (Kd.R_far (p := ⟨gb618, 0, none⟩) (Kd.R_types HO598.out BK618.out (by decide)) (fun _ hk => hk.2) (.int .i64 t604)) (fun _ hk => hk.2) (.slice Ao50 t605.length co50)) (fun _ hk => hk.2) (.slice Ao51 t608.length co51)) (fun _ hk => hk.2) (.slice Ao52 t611.length co52)) (fun _ hk => hk.2) (.int .i64 t614)) (fun _ hk => hk.2) (.slice Ao53 t615.length co53)) (fun _ h_ => h_.1))) hb); have n3_ := Aside0.mk (Kd.R_below (by (with_reducible repeat (first | apply Kd.R_alloc | apply Kd.R_drewN | apply Kd.R_drew)); exact (Kd.R_mono (Kd.R_far (p := ⟨gb618, 5, none⟩) (Kd.R_far (p := ⟨gb618, 4, none⟩) (Kd.R_far (p := ⟨gb618, 3, none⟩) (Kd.R_far (p := ⟨gb618, 2, none⟩) (Kd.R_far (p := ⟨gb618, 1, none⟩) (Kd.R_far (p := ⟨gb618, 0, none⟩) (Kd.R_types HO602.out BK618.out (by decide)) (fun _ hk => hk.2) (.int .i64 t604)) (fun _ hk => hk.2) (.slice Ao50 t605.length co50)) (fun _ hk => hk.2) (.slice Ao51 t608.length co51)) (fun _ hk => hk.2) (.slice Ao52 t611.length co52)) (fun _ hk => hk.2) (.int .i64 t614)) (fun _ hk => hk.2) (.slice Ao53 t615.length co53)) (fun _ h_ => h_.1))) hb); have n4_ := Aside0.mk (Kd.R_below (by (with_reducible repeat (first | apply Kd.R_alloc | apply Kd.R_drewN | apply Kd.R_drew)); exact (Kd.R_mono (Kd.R_far (p := ⟨gb618, 5, none⟩) (Kd.R_far (p := ⟨gb618, 4, none⟩) (Kd.R_far (p := ⟨gb618, 3, none⟩) (Kd.R_far (p := ⟨gb618, 2, none⟩) (Kd.R_far (p := ⟨gb618, 1, none⟩) (Kd.R_far (p := ⟨gb618, 0, none⟩) (Kd.R_types HO607.out BK618.out (by decide)) (fun _ hk => hk.2) (.int .i64 t604)) (fun _ hk => hk.2) (.slice Ao50 t605.length co50)) (fun _ hk => hk.2) (.slice Ao51 t608.length co51)) (fun _ hk => hk.2) (.slice Ao52 t611.length co52)) (fun _ hk => hk.2) (.int .i64 t614)) (fun _ hk => hk.2) (.slice Ao53 t615.length co53)) (fun _ h_ => h_.1))) hb); have n5_ := Aside0.mk (Kd.R_below (by (with_reducible repeat (first | apply Kd.R_alloc | apply Kd.R_drewN | apply Kd.R_drew)); exact (Kd.R_mono (Kd.R_far (p := ⟨gb618, 5, none⟩) (Kd.R_far (p := ⟨gb618, 4, none⟩) (Kd.R_far (p := ⟨gb618, 3, none⟩) (Kd.R_far (p := ⟨gb618, 2, none⟩) (Kd.R_far (p := ⟨gb618, 1, none⟩) (Kd.R_far (p := ⟨gb618, 0, none⟩) (Kd.R_types HO610.out BK618.out (by decide)) (fun _ hk => hk.2) (.int .i64 t604)) (fun _ hk => hk.2) (.slice Ao50 t605.length co50)) (fun _ hk => hk.2) (.slice Ao51 t608.length co51)) (fun _ hk => hk.2) (.slice Ao52 t611.length co52)) (fun _ hk => hk.2) (.int .i64 t614)) (fun _ hk => hk.2) (.slice Ao53 t615.length co53)) (fun _ h_ => h_.1))) hb); have n6_ := Aside0.mk (Kd.R_below (by (with_reducible repeat (first | apply Kd.R_alloc | apply Kd.R_drewN | apply Kd.R_drew)); exact (Kd.R_mono (Kd.R_far (p := ⟨gb618, 5, none⟩) (Kd.R_far (p := ⟨gb618, 4, none⟩) (Kd.R_far (p := ⟨gb618, 3, none⟩) (Kd.R_far (p := ⟨gb618, 2, none⟩) (Kd.R_far (p := ⟨gb618, 1, none⟩) (Kd.R_far (p := ⟨gb618, 0, none⟩) (Kd.R_types HO613.out BK618.out (by decide)) (fun _ hk => hk.2) (.int .i64 t604)) (fun _ hk => hk.2) (.slice Ao50 t605.length co50)) (fun _ hk => hk.2) (.slice Ao51 t608.length co51)) (fun _ hk => hk.2) (.slice Ao52 t611.length co52)) (fun _ hk => hk.2) (.int .i64 t614)) (fun _ hk => hk.2) (.slice Ao53 t615.length co53)) (fun _ h_ => h_.1))) hb); have n7_ := Aside0.mk (Kd.R_below (by (with_reducible repeat (first | apply Kd.R_alloc | apply Kd.R_drewN | apply Kd.R_drew)); exact (Kd.R_mono (Kd.R_far (p := ⟨gb618, 5, none⟩) (Kd.R_far (p := ⟨gb618, 4, none⟩) (Kd.R_far (p := ⟨gb618, 3, none⟩) (Kd.R_far (p := ⟨gb618, 2, none⟩) (Kd.R_far (p := ⟨gb618, 1, none⟩) (Kd.R_far (p := ⟨gb618, 0, none⟩) (Kd.R_types HO617.out BK618.out (by decide)) (fun _ hk => hk.2) (.int .i64 t604)) (fun _ hk => hk.2) (.slice Ao50 t605.length co50)) (fun _ hk => hk.2) (.slice Ao51 t608.length co51)) (fun _ hk => hk.2) (.slice Ao52 t611.length co52)) (fun _ hk => hk.2) (.int .i64 t614)) (fun _ hk => hk.2) (.slice Ao53 t615.length co53)) (fun _ h_ => h_.1))) hb); have n8_ := Aside0.mk (blk_below (g := gb587) (o := .cells #[.int .i64 a0_0, .slice A0_1 l0_1.length c0_1, .slice A0_2 l0_2.length c0_2, .slice A0_3 l0_3.length c0_3, .int .i64 a0_4, .slice A0_5 l0_5.length c0_5] 55 (0, 0)) (by (with_reducible repeat (first | refine blk_drewN ?_ _ | refine blk_drew ?_ | refine blk_alloc ?_ _)); refine blk_far ?_ NB587_618.out _; (with_reducible repeat (first | refine blk_drewN ?_ _ | refine blk_drew ?_ | refine blk_alloc ?_ _)); refine blk_far ?_ NB587_618.out _; (with_reducible repeat (first | refine blk_drewN ?_ _ | refine blk_drew ?_ | refine blk_alloc ?_ _)); refine blk_far ?_ NB587_618.out _; (with_reducible repeat (first | refine blk_drewN ?_ _ | refine blk_drew ?_ | refine blk_alloc ?_ _)); refine blk_far ?_ NB587_618.out _; (with_reducible repeat (first | refine blk_drewN ?_ _ | refine blk_drew ?_ | refine blk_alloc ?_ _)); refine blk_far ?_ NB587_618.out _; (with_reducible repeat (first | refine blk_drewN ?_ _ | refine blk_drew ?_ | refine blk_alloc ?_ _)); refine blk_far ?_ NB587_618.out _; (with_reducible repeat (first | refine blk_drewN ?_ _ | refine blk_drew ?_ | refine blk_alloc ?_ _)); exact BK587.out) hb); have n9_ := Aside0.mk (blk_below (g := gb618) (o := .cells #[.int .i64 t604, .slice Ao50 t605.length co50, .slice Ao51 t608.length co51, .slice Ao52 t611.length co52, .int .i64 t614, .slice Ao53 t615.length co53] 47 (0, 0)) (by (with_reducible repeat (first | refine blk_drewN ?_ _ | refine blk_drew ?_ | refine blk_alloc ?_ _)); refine blk_put (cs := #[.int .i64 t604, .slice Ao50 t605.length co50, .slice Ao51 t608.length co51, .slice Ao52 t611.length co52, .int .i64 t614, .slice none 0 0]) ?_ 5 _ rfl; (with_reducible repeat (first | refine blk_drewN ?_ _ | refine blk_drew ?_ | refine blk_alloc ?_ _)); refine blk_put (cs := #[.int .i64 t604, .slice Ao50 t605.length co50, .slice Ao51 t608.length co51, .slice Ao52 t611.length co52, .int .i64 0, .slice none 0 0]) ?_ 4 _ rfl; (with_reducible repeat (first | refine blk_drewN ?_ _ | refine blk_drew ?_ | refine blk_alloc ?_ _)); refine blk_put (cs := #[.int .i64 t604, .slice Ao50 t605.length co50, .slice Ao51 t608.length co51, .slice none 0 0, .int .i64 0, .slice none 0 0]) ?_ 3 _ rfl; (with_reducible repeat (first | refine blk_drewN ?_ _ | refine blk_drew ?_ | refine blk_alloc ?_ _)); refine blk_put (cs := #[.int .i64 t604, .slice Ao50 t605.length co50, .slice none 0 0, .slice none 0 0, .int .i64 0, .slice none 0 0]) ?_ 2 _ rfl; (with_reducible repeat (first | refine blk_drewN ?_ _ | refine blk_drew ?_ | refine blk_alloc ?_ _)); refine blk_put (cs := #[.int .i64 t604, .slice none 0 0, .slice none 0 0, .slice none 0 0, .int .i64 0, .slice none 0 0]) ?_ 1 _ rfl; (with_reducible repeat (first | refine blk_drewN ?_ _ | refine blk_drew ?_ | refine blk_alloc ?_ _)); refine blk_put (cs := #[.int .i64 0, .slice none 0 0, .slice none 0 0, .slice none 0 0, .int .i64 0, .slice none 0 0]) ?_ 0 _ rfl; (with_reducible repeat (first | refine blk_drewN ?_ _ | refine blk_drew ?_ | refine blk_alloc ?_ _)); exact BK618.out) hb); have n10_ := Aside0.mk (below_step (by repeat (first | (with_reducible first | exact HB.out | apply below_alloc | apply pw_below_drewN | apply below_drew1 | refine below_set ?_ GE587.out | refine below_set ?_ GE618.out) | exact HB.out)) hb); clear HO592; clear HO595; clear HO598; clear HO602; clear HO607; clear HO610; clear HO613; clear HO617; clear BK587; clear BK618; clear HB; have HO592 := n0_; have HO595 := n1_; have HO598 := n2_; have HO602 := n3_; have HO607 := n4_; have HO610 := n5_; have HO613 := n6_; have HO617 := n7_; have BK587 := n8_; have BK618 := n9_; have HB := n10_; clear n0_ n1_ n2_ n3_ n4_ n5_ n6_ n7_ n8_ n9_ n10_; (try clear hb); (try clear hb2); (try clear hk); (try clear hi)))
    have n0_ := Aside0.mk (Kd.R_drew HO592.out)
    have n1_ := Aside0.mk (Kd.R_drew HO595.out)
    have n2_ := Aside0.mk (Kd.R_drew HO598.out)
    have n3_ := Aside0.mk (Kd.R_drew HO602.out)
    have n4_ := Aside0.mk (Kd.R_drew HO607.out)
    have n5_ := Aside0.mk (Kd.R_drew HO610.out)
    have n6_ := Aside0.mk (Kd.R_drew HO613.out)
    have n7_ := Aside0.mk (Kd.R_drew HO617.out)
    have n8_ := Aside0.mk (blk_drew BK587.out)
    have n9_ := Aside0.mk (blk_drew BK618.out)
    have n10_ := Aside0.mk (below_drew1 HB.out)
    clear HO592
    clear HO595
    clear HO598
    clear HO602
    clear HO607
    clear HO610
    clear HO613
    clear HO617
    clear BK587
    clear BK618
    clear HB
    have HO592 := n0_
    have HO595 := n1_
    have HO598 := n2_
    have HO602 := n3_
    have HO607 := n4_
    have HO610 := n5_
    have HO613 := n6_
    have HO617 := n7_
    have BK587 := n8_
    have BK618 := n9_
    have HB := n10_
    clear n0_ n1_ n2_ n3_ n4_ n5_ n6_ n7_ n8_ n9_ n10_
    refine start_ (n := 5) (S := fun w' => w'.cell? ⟨gb618, 0, none⟩ = some (.int .i64 t604) ∧ w'.cell? ⟨gb618, 1, none⟩ = some (.slice Ao50 t605.length co50) ∧ w'.cell? ⟨gb618, 2, none⟩ = some (.slice Ao51 t608.length co51) ∧ w'.cell? ⟨gb618, 3, none⟩ = some (.slice Ao52 t611.length co52) ∧ w'.cell? ⟨gb618, 4, none⟩ = some (.int .i64 t614) ∧ w'.cell? ⟨gb618, 5, none⟩ = some (.slice Ao53 t615.length co53) ∧ w'.cell? ⟨gb587, 0, none⟩ = some (.int .i64 a0_0) ∧ w'.cell? ⟨gb587, 1, none⟩ = some (.slice A0_1 l0_1.length c0_1) ∧ w'.cell? ⟨gb587, 2, none⟩ = some (.slice A0_2 l0_2.length c0_2) ∧ w'.cell? ⟨gb587, 3, none⟩ = some (.slice A0_3 l0_3.length c0_3) ∧ w'.cell? ⟨gb587, 4, none⟩ = some (.int .i64 a0_4) ∧ w'.cell? ⟨gb587, 5, none⟩ = some (.slice A0_5 l0_5.length c0_5)) (ds := []) #[false, false, false, false, false] (by kernel_rfl) rfl rfl ⟨(blk_cell BK618.out 0).trans rfl, (blk_cell BK618.out 1).trans rfl, (blk_cell BK618.out 2).trans rfl, (blk_cell BK618.out 3).trans rfl, (blk_cell BK618.out 4).trans rfl, (blk_cell BK618.out 5).trans rfl, (blk_cell BK587.out 0).trans rfl, (blk_cell BK587.out 1).trans rfl, (blk_cell BK587.out 2).trans rfl, (blk_cell BK587.out 3).trans rfl, (blk_cell BK587.out 4).trans rfl, (blk_cell BK587.out 5).trans rfl⟩ (fun hHeld => ?_)
    generalize w54.drew = w55 at HO592 HO595 HO598 HO602 HO607 HO610 HO613 HO617 BK587 BK618 HB hHeld ⊢
    refine take_ (i := 0) (N := some 22) (v := ?_) (a' := ?_) #[true, false, false, false, false] rfl rfl (by kernel_rfl) (fun _ _ _ h => h) (Or.inl ⟨by rfl, ?_⟩) hHeld ?_ ?_
    rotate_left; (· (rintro w' ⟨s0, s1, s2, s3, s4, s5, s6, s7, s8, s9, s10, s11⟩; go_simp; with_reducible rfl)); rotate_left; (· (simp only [Act.put, List.setIfInBounds_toArray, List.set_cons_zero, List.set_cons_succ, i64_w, i32_w]; rfl))
    refine take_ (i := 1) (N := some 23) (v := ?_) (a' := ?_) #[true, true, false, false, false] rfl rfl (by kernel_rfl) (fun _ _ _ h => h) (Or.inl ⟨by rfl, ?_⟩) hHeld ?_ ?_
    rotate_left; (· (rintro w' ⟨s0, s1, s2, s3, s4, s5, s6, s7, s8, s9, s10, s11⟩; go_simp; with_reducible rfl)); rotate_left; (· (simp only [Act.put, List.setIfInBounds_toArray, List.set_cons_zero, List.set_cons_succ, i64_w, i32_w]; rfl))
    refine one_ (i := 2) (N := some 24) #[true, true, true, false, false] rfl rfl (by kernel_rfl) (by decide) (fun K hK => ?_)
    refine goes_ Try.func29 (by kernel_rfl) rfl #[.agg #[.int .i64 a0_0, .slice A0_1 l0_1.length c0_1, .slice A0_2 l0_2.length c0_2, .slice A0_3 l0_3.length c0_3, .int .i64 a0_4, .slice A0_5 l0_5.length c0_5]] (by rfl) rfl rfl (by (try simp only [List.map_toArray, List.map_cons, List.map_nil]); first | done | rfl | (simp only [List.length_drop, List.length_take]; rfl)) ?_
    with_reducible refine (laws_toDesk.calls k a0_0 _ _ l0_1 _ _ l0_2 _ _ l0_3 a0_4 _ _ l0_5 t620 t621 t624 t627 t630 t631 _ ?side1 ?side2 ?side3 ?side4 ?side5 ?side6 ?side7 ?side8 A32.out).mono ?_
    (case side1 => repeat (first | exact (Kd.C_below HR0_1.out HB.out) | (with_reducible refine Kd.C_alloc ?_ _) | (with_reducible refine Kd.C_drewN ?_ _) | (with_reducible refine Kd.C_drew ?_)))
    (case side2 => exact HC0_1.out)
    (case side3 => repeat (first | exact (Kd.C_below HR0_2.out HB.out) | (with_reducible refine Kd.C_alloc ?_ _) | (with_reducible refine Kd.C_drewN ?_ _) | (with_reducible refine Kd.C_drew ?_)))
    (case side4 => exact HC0_2.out)
    (case side5 => repeat (first | exact (Kd.C_below HR0_3.out HB.out) | (with_reducible refine Kd.C_alloc ?_ _) | (with_reducible refine Kd.C_drewN ?_ _) | (with_reducible refine Kd.C_drew ?_)))
    (case side6 => exact HC0_3.out)
    (case side7 => repeat (first | exact (Kd.C_below HR0_5.out HB.out) | (with_reducible refine Kd.C_alloc ?_ _) | (with_reducible refine Kd.C_drewN ?_ _) | (with_reducible refine Kd.C_drew ?_)))
    (case side8 => exact HC0_5.out)
    rintro e w56 ⟨v622, v625, v628, v632, rfl, ho0, ho1, ho2, ho3, hb⟩
    refine ⟨_, rfl, ?_⟩
    have n0_ := Aside0.mk (Kd.R_mono (Kd.R_told (Kd.R_told (Kd.R_told (Kd.R_told (Kd.R_old (by (with_reducible repeat (first | apply Kd.R_alloc | apply Kd.R_drewN | apply Kd.R_drew)); exact HO592.out) hb) (Kd.R_base ho0)) (Kd.R_base ho1)) (Kd.R_base ho2)) (Kd.R_base ho3)) (fun _ h_ => h_.1))
    have n1_ := Aside0.mk (Kd.R_mono (Kd.R_told (Kd.R_told (Kd.R_told (Kd.R_old (by (with_reducible repeat (first | apply Kd.R_alloc | apply Kd.R_drewN | apply Kd.R_drew)); exact HO595.out) hb) (Kd.R_base ho1)) (Kd.R_base ho2)) (Kd.R_base ho3)) (fun _ h_ => h_.1))
    have n2_ := Aside0.mk (Kd.R_mono (Kd.R_told (Kd.R_told (Kd.R_told (Kd.R_old (by (with_reducible repeat (first | apply Kd.R_alloc | apply Kd.R_drewN | apply Kd.R_drew)); exact HO598.out) hb) (Kd.R_base ho1)) (Kd.R_base ho2)) (Kd.R_base ho3)) (fun _ h_ => h_.1))
    have n3_ := Aside0.mk (Kd.R_mono (Kd.R_told (Kd.R_told (Kd.R_told (Kd.R_old (by (with_reducible repeat (first | apply Kd.R_alloc | apply Kd.R_drewN | apply Kd.R_drew)); exact HO602.out) hb) (Kd.R_base ho1)) (Kd.R_base ho2)) (Kd.R_base ho3)) (fun _ h_ => h_.1))
    have n4_ := Aside0.mk (Kd.R_mono (Kd.R_told (Kd.R_told (Kd.R_told (Kd.R_told (Kd.R_old (by (with_reducible repeat (first | apply Kd.R_alloc | apply Kd.R_drewN | apply Kd.R_drew)); exact HO607.out) hb) (Kd.R_base ho0)) (Kd.R_base ho1)) (Kd.R_base ho2)) (Kd.R_base ho3)) (fun _ h_ => h_.1))
    have n5_ := Aside0.mk (Kd.R_mono (Kd.R_told (Kd.R_told (Kd.R_told (Kd.R_old (by (with_reducible repeat (first | apply Kd.R_alloc | apply Kd.R_drewN | apply Kd.R_drew)); exact HO610.out) hb) (Kd.R_base ho1)) (Kd.R_base ho2)) (Kd.R_base ho3)) (fun _ h_ => h_.1))
    have n6_ := Aside0.mk (Kd.R_mono (Kd.R_told (Kd.R_told (Kd.R_told (Kd.R_old (by (with_reducible repeat (first | apply Kd.R_alloc | apply Kd.R_drewN | apply Kd.R_drew)); exact HO613.out) hb) (Kd.R_base ho1)) (Kd.R_base ho2)) (Kd.R_base ho3)) (fun _ h_ => h_.1))
    have n7_ := Aside0.mk (Kd.R_mono (Kd.R_told (Kd.R_told (Kd.R_told (Kd.R_old (by (with_reducible repeat (first | apply Kd.R_alloc | apply Kd.R_drewN | apply Kd.R_drew)); exact HO617.out) hb) (Kd.R_base ho1)) (Kd.R_base ho2)) (Kd.R_base ho3)) (fun _ h_ => h_.1))
    have n8_ := Aside0.mk (Kd.R_lower (Kd.R_new' (Kd.R_new' (Kd.R_new' (Kd.R_new' (Kd.R_new' (Kd.R_new' (Kd.R_new' (Kd.R_new' ho0 (Kd.R_lt (by (with_reducible repeat (first | apply Kd.R_alloc | apply Kd.R_drewN | apply Kd.R_drew)); exact HO592.out))) (Kd.R_lt (by (with_reducible repeat (first | apply Kd.R_alloc | apply Kd.R_drewN | apply Kd.R_drew)); exact HO595.out))) (Kd.R_lt (by (with_reducible repeat (first | apply Kd.R_alloc | apply Kd.R_drewN | apply Kd.R_drew)); exact HO598.out))) (Kd.R_lt (by (with_reducible repeat (first | apply Kd.R_alloc | apply Kd.R_drewN | apply Kd.R_drew)); exact HO602.out))) (Kd.R_lt (by (with_reducible repeat (first | apply Kd.R_alloc | apply Kd.R_drewN | apply Kd.R_drew)); exact HO607.out))) (Kd.R_lt (by (with_reducible repeat (first | apply Kd.R_alloc | apply Kd.R_drewN | apply Kd.R_drew)); exact HO610.out))) (Kd.R_lt (by (with_reducible repeat (first | apply Kd.R_alloc | apply Kd.R_drewN | apply Kd.R_drew)); exact HO613.out))) (Kd.R_lt (by (with_reducible repeat (first | apply Kd.R_alloc | apply Kd.R_drewN | apply Kd.R_drew)); exact HO617.out))) (below_size (by repeat (first | (with_reducible first | exact HB.out | apply below_alloc | apply pw_below_drewN | apply below_drew1 | refine below_set ?_ GE587.out | refine below_set ?_ GE618.out) | exact HB.out))))
    have n9_ := Aside0.mk (Kd.R_lower (Kd.R_new' (Kd.R_new' (Kd.R_new' (Kd.R_new' (Kd.R_new' (Kd.R_new' ho1 (Kd.R_lt (by (with_reducible repeat (first | apply Kd.R_alloc | apply Kd.R_drewN | apply Kd.R_drew)); exact HO595.out))) (Kd.R_lt (by (with_reducible repeat (first | apply Kd.R_alloc | apply Kd.R_drewN | apply Kd.R_drew)); exact HO598.out))) (Kd.R_lt (by (with_reducible repeat (first | apply Kd.R_alloc | apply Kd.R_drewN | apply Kd.R_drew)); exact HO602.out))) (Kd.R_lt (by (with_reducible repeat (first | apply Kd.R_alloc | apply Kd.R_drewN | apply Kd.R_drew)); exact HO610.out))) (Kd.R_lt (by (with_reducible repeat (first | apply Kd.R_alloc | apply Kd.R_drewN | apply Kd.R_drew)); exact HO613.out))) (Kd.R_lt (by (with_reducible repeat (first | apply Kd.R_alloc | apply Kd.R_drewN | apply Kd.R_drew)); exact HO617.out))) (below_size (by repeat (first | (with_reducible first | exact HB.out | apply below_alloc | apply pw_below_drewN | apply below_drew1 | refine below_set ?_ GE587.out | refine below_set ?_ GE618.out) | exact HB.out))))
    have n10_ := Aside0.mk (Kd.R_lower (Kd.R_new' (Kd.R_new' (Kd.R_new' (Kd.R_new' (Kd.R_new' (Kd.R_new' ho2 (Kd.R_lt (by (with_reducible repeat (first | apply Kd.R_alloc | apply Kd.R_drewN | apply Kd.R_drew)); exact HO595.out))) (Kd.R_lt (by (with_reducible repeat (first | apply Kd.R_alloc | apply Kd.R_drewN | apply Kd.R_drew)); exact HO598.out))) (Kd.R_lt (by (with_reducible repeat (first | apply Kd.R_alloc | apply Kd.R_drewN | apply Kd.R_drew)); exact HO602.out))) (Kd.R_lt (by (with_reducible repeat (first | apply Kd.R_alloc | apply Kd.R_drewN | apply Kd.R_drew)); exact HO610.out))) (Kd.R_lt (by (with_reducible repeat (first | apply Kd.R_alloc | apply Kd.R_drewN | apply Kd.R_drew)); exact HO613.out))) (Kd.R_lt (by (with_reducible repeat (first | apply Kd.R_alloc | apply Kd.R_drewN | apply Kd.R_drew)); exact HO617.out))) (below_size (by repeat (first | (with_reducible first | exact HB.out | apply below_alloc | apply pw_below_drewN | apply below_drew1 | refine below_set ?_ GE587.out | refine below_set ?_ GE618.out) | exact HB.out))))
    have n11_ := Aside0.mk (Kd.R_lower (Kd.R_new' (Kd.R_new' (Kd.R_new' (Kd.R_new' (Kd.R_new' (Kd.R_new' ho3 (Kd.R_lt (by (with_reducible repeat (first | apply Kd.R_alloc | apply Kd.R_drewN | apply Kd.R_drew)); exact HO595.out))) (Kd.R_lt (by (with_reducible repeat (first | apply Kd.R_alloc | apply Kd.R_drewN | apply Kd.R_drew)); exact HO598.out))) (Kd.R_lt (by (with_reducible repeat (first | apply Kd.R_alloc | apply Kd.R_drewN | apply Kd.R_drew)); exact HO602.out))) (Kd.R_lt (by (with_reducible repeat (first | apply Kd.R_alloc | apply Kd.R_drewN | apply Kd.R_drew)); exact HO610.out))) (Kd.R_lt (by (with_reducible repeat (first | apply Kd.R_alloc | apply Kd.R_drewN | apply Kd.R_drew)); exact HO613.out))) (Kd.R_lt (by (with_reducible repeat (first | apply Kd.R_alloc | apply Kd.R_drewN | apply Kd.R_drew)); exact HO617.out))) (below_size (by repeat (first | (with_reducible first | exact HB.out | apply below_alloc | apply pw_below_drewN | apply below_drew1 | refine below_set ?_ GE587.out | refine below_set ?_ GE618.out) | exact HB.out))))
    have n12_ := Aside0.mk (blk_below (g := gb587) (o := .cells #[.int .i64 a0_0, .slice A0_1 l0_1.length c0_1, .slice A0_2 l0_2.length c0_2, .slice A0_3 l0_3.length c0_3, .int .i64 a0_4, .slice A0_5 l0_5.length c0_5] 55 (0, 0)) (by (with_reducible repeat (first | refine blk_drewN ?_ _ | refine blk_drew ?_ | refine blk_alloc ?_ _)); exact BK587.out) hb)
    have n13_ := Aside0.mk (blk_below (g := gb618) (o := .cells #[.int .i64 t604, .slice Ao50 t605.length co50, .slice Ao51 t608.length co51, .slice Ao52 t611.length co52, .int .i64 t614, .slice Ao53 t615.length co53] 47 (0, 0)) (by (with_reducible repeat (first | refine blk_drewN ?_ _ | refine blk_drew ?_ | refine blk_alloc ?_ _)); exact BK618.out) hb)
    have n14_ := Aside0.mk (below_step (by repeat (first | (with_reducible first | exact HB.out | apply below_alloc | apply pw_below_drewN | apply below_drew1 | refine below_set ?_ GE587.out | refine below_set ?_ GE618.out) | exact HB.out)) hb)
    clear HO592
    clear HO595
    clear HO598
    clear HO602
    clear HO607
    clear HO610
    clear HO613
    clear HO617
    clear BK587
    clear BK618
    clear HB
    have HO592 := n0_
    have HO595 := n1_
    have HO598 := n2_
    have HO602 := n3_
    have HO607 := n4_
    have HO610 := n5_
    have HO613 := n6_
    have HO617 := n7_
    have HO623 := n8_
    have HO626 := n9_
    have HO629 := n10_
    have HO633 := n11_
    have BK587 := n12_
    have BK618 := n13_
    have HB := n14_
    clear n0_ n1_ n2_ n3_ n4_ n5_ n6_ n7_ n8_ n9_ n10_ n11_ n12_ n13_ n14_
    (try clear hb)
    (try clear hb2)
    (try clear hk)
    (try clear hi)
    (try clear ho0)
    (try clear ho1)
    (try clear ho2)
    (try clear ho3)
    obtain ⟨Ao57, co57, eo57⟩ := Kd.R_slice HO623.out
    (first | subst eo57 | (injection eo57 with f1_ f2_ f3_; have f4_ := f1_.symm; have f5_ := f3_.symm; clear f1_ f2_ f3_; subst f4_; subst f5_))
    obtain ⟨Ao58, co58, eo58⟩ := Kd.R_slice HO626.out
    (first | subst eo58 | (injection eo58 with f1_ f2_ f3_; have f4_ := f1_.symm; have f5_ := f3_.symm; clear f1_ f2_ f3_; subst f4_; subst f5_))
    obtain ⟨Ao59, co59, eo59⟩ := Kd.R_slice HO629.out
    (first | subst eo59 | (injection eo59 with f1_ f2_ f3_; have f4_ := f1_.symm; have f5_ := f3_.symm; clear f1_ f2_ f3_; subst f4_; subst f5_))
    obtain ⟨Ao60, co60, eo60⟩ := Kd.R_slice HO633.out
    (first | subst eo60 | (injection eo60 with f1_ f2_ f3_; have f4_ := f1_.symm; have f5_ := f3_.symm; clear f1_ f2_ f3_; subst f4_; subst f5_))
    refine hK.out _ _ ⟨(blk_cell BK618.out 0).trans rfl, (blk_cell BK618.out 1).trans rfl, (blk_cell BK618.out 2).trans rfl, (blk_cell BK618.out 3).trans rfl, (blk_cell BK618.out 4).trans rfl, (blk_cell BK618.out 5).trans rfl, (blk_cell BK587.out 0).trans rfl, (blk_cell BK587.out 1).trans rfl, (blk_cell BK587.out 2).trans rfl, (blk_cell BK587.out 3).trans rfl, (blk_cell BK587.out 4).trans rfl, (blk_cell BK587.out 5).trans rfl⟩ (fun hHeld => ?_)
    clear hK K
    refine norm_ (a' := ?_) ?_ ?_
    rotate_left
    ·show Act.put _ (some 24) _ = _
     simp only [Act.put, List.setIfInBounds_toArray, List.set_cons_zero, List.set_cons_succ, i64_w, i32_w]
     rfl
    refine one_ (i := 3) (N := some 25) #[true, true, true, true, false] rfl rfl (by kernel_rfl) (by decide) (fun K hK => ?_)
    refine goes_ Try.func24 (by kernel_rfl) rfl #[.agg #[.int .i64 t604, .slice Ao50 t605.length co50, .slice Ao51 t608.length co51, .slice Ao52 t611.length co52, .int .i64 t614, .slice Ao53 t615.length co53], .agg #[.int .i64 t620, .slice Ao57 t621.length co57, .slice Ao58 t624.length co58, .slice Ao59 t627.length co59, .int .i64 t630, .slice Ao60 t631.length co60]] (by rfl) rfl rfl (by (try simp only [List.map_toArray, List.map_cons, List.map_nil]); first | done | rfl | (simp only [List.length_drop, List.length_take]; rfl)) ?_
    with_reducible refine (laws_eqDesk.calls k t604 _ _ t605 _ _ t608 _ _ t611 t614 _ _ t615 t620 _ _ t621 _ _ t624 _ _ t627 t630 _ _ t631 true _ ?side1 ?side2 ?side3 ?side4 ?side5 ?side6 ?side7 ?side8 ?side9 ?side10 ?side11 ?side12 ?side13 ?side14 ?side15 ?side16 A33.out).mono ?_
    (case side1 => repeat (first | exact (Kd.R_reads' HO607.out).2.2 | (with_reducible refine Kd.C_alloc ?_ _) | (with_reducible refine Kd.C_drewN ?_ _) | (with_reducible refine Kd.C_drew ?_)))
    (case side2 => exact (Kd.R_reads' HO607.out).2.1)
    (case side3 => repeat (first | exact (Kd.R_reads' HO610.out).2.2 | (with_reducible refine Kd.C_alloc ?_ _) | (with_reducible refine Kd.C_drewN ?_ _) | (with_reducible refine Kd.C_drew ?_)))
    (case side4 => exact (Kd.R_reads' HO610.out).2.1)
    (case side5 => repeat (first | exact (Kd.R_reads' HO613.out).2.2 | (with_reducible refine Kd.C_alloc ?_ _) | (with_reducible refine Kd.C_drewN ?_ _) | (with_reducible refine Kd.C_drew ?_)))
    (case side6 => exact (Kd.R_reads' HO613.out).2.1)
    (case side7 => repeat (first | exact (Kd.R_reads' HO617.out).2.2 | (with_reducible refine Kd.C_alloc ?_ _) | (with_reducible refine Kd.C_drewN ?_ _) | (with_reducible refine Kd.C_drew ?_)))
    (case side8 => exact (Kd.R_reads' HO617.out).2.1)
    (case side9 => repeat (first | exact (Kd.R_reads' HO623.out).2.2 | (with_reducible refine Kd.C_alloc ?_ _) | (with_reducible refine Kd.C_drewN ?_ _) | (with_reducible refine Kd.C_drew ?_)))
    (case side10 => exact (Kd.R_reads' HO623.out).2.1)
    (case side11 => repeat (first | exact (Kd.R_reads' HO626.out).2.2 | (with_reducible refine Kd.C_alloc ?_ _) | (with_reducible refine Kd.C_drewN ?_ _) | (with_reducible refine Kd.C_drew ?_)))
    (case side12 => exact (Kd.R_reads' HO626.out).2.1)
    (case side13 => repeat (first | exact (Kd.R_reads' HO629.out).2.2 | (with_reducible refine Kd.C_alloc ?_ _) | (with_reducible refine Kd.C_drewN ?_ _) | (with_reducible refine Kd.C_drew ?_)))
    (case side14 => exact (Kd.R_reads' HO629.out).2.1)
    (case side15 => repeat (first | exact (Kd.R_reads' HO633.out).2.2 | (with_reducible refine Kd.C_alloc ?_ _) | (with_reducible refine Kd.C_drewN ?_ _) | (with_reducible refine Kd.C_drew ?_)))
    (case side16 => exact (Kd.R_reads' HO633.out).2.1)
    rintro e w61 ⟨rfl, hb⟩
    refine ⟨_, rfl, ?_⟩
    have n0_ := Aside0.mk (Kd.R_below (by (with_reducible repeat (first | apply Kd.R_alloc | apply Kd.R_drewN | apply Kd.R_drew)); exact HO592.out) hb)
    have n1_ := Aside0.mk (Kd.R_below (by (with_reducible repeat (first | apply Kd.R_alloc | apply Kd.R_drewN | apply Kd.R_drew)); exact HO595.out) hb)
    have n2_ := Aside0.mk (Kd.R_below (by (with_reducible repeat (first | apply Kd.R_alloc | apply Kd.R_drewN | apply Kd.R_drew)); exact HO598.out) hb)
    have n3_ := Aside0.mk (Kd.R_below (by (with_reducible repeat (first | apply Kd.R_alloc | apply Kd.R_drewN | apply Kd.R_drew)); exact HO602.out) hb)
    have n4_ := Aside0.mk (Kd.R_below (by (with_reducible repeat (first | apply Kd.R_alloc | apply Kd.R_drewN | apply Kd.R_drew)); exact HO607.out) hb)
    have n5_ := Aside0.mk (Kd.R_below (by (with_reducible repeat (first | apply Kd.R_alloc | apply Kd.R_drewN | apply Kd.R_drew)); exact HO610.out) hb)
    have n6_ := Aside0.mk (Kd.R_below (by (with_reducible repeat (first | apply Kd.R_alloc | apply Kd.R_drewN | apply Kd.R_drew)); exact HO613.out) hb)
    have n7_ := Aside0.mk (Kd.R_below (by (with_reducible repeat (first | apply Kd.R_alloc | apply Kd.R_drewN | apply Kd.R_drew)); exact HO617.out) hb)
    have n8_ := Aside0.mk (Kd.R_below (by (with_reducible repeat (first | apply Kd.R_alloc | apply Kd.R_drewN | apply Kd.R_drew)); exact HO623.out) hb)
    have n9_ := Aside0.mk (Kd.R_below (by (with_reducible repeat (first | apply Kd.R_alloc | apply Kd.R_drewN | apply Kd.R_drew)); exact HO626.out) hb)
    have n10_ := Aside0.mk (Kd.R_below (by (with_reducible repeat (first | apply Kd.R_alloc | apply Kd.R_drewN | apply Kd.R_drew)); exact HO629.out) hb)
    have n11_ := Aside0.mk (Kd.R_below (by (with_reducible repeat (first | apply Kd.R_alloc | apply Kd.R_drewN | apply Kd.R_drew)); exact HO633.out) hb)
    have n12_ := Aside0.mk (blk_below (g := gb587) (o := .cells #[.int .i64 a0_0, .slice A0_1 l0_1.length c0_1, .slice A0_2 l0_2.length c0_2, .slice A0_3 l0_3.length c0_3, .int .i64 a0_4, .slice A0_5 l0_5.length c0_5] 55 (0, 0)) (by (with_reducible repeat (first | refine blk_drewN ?_ _ | refine blk_drew ?_ | refine blk_alloc ?_ _)); exact BK587.out) hb)
    have n13_ := Aside0.mk (blk_below (g := gb618) (o := .cells #[.int .i64 t604, .slice Ao50 t605.length co50, .slice Ao51 t608.length co51, .slice Ao52 t611.length co52, .int .i64 t614, .slice Ao53 t615.length co53] 47 (0, 0)) (by (with_reducible repeat (first | refine blk_drewN ?_ _ | refine blk_drew ?_ | refine blk_alloc ?_ _)); exact BK618.out) hb)
    have n14_ := Aside0.mk (below_step (by repeat (first | (with_reducible first | exact HB.out | apply below_alloc | apply pw_below_drewN | apply below_drew1 | refine below_set ?_ GE587.out | refine below_set ?_ GE618.out) | exact HB.out)) hb)
    clear HO592
    clear HO595
    clear HO598
    clear HO602
    clear HO607
    clear HO610
    clear HO613
    clear HO617
    clear HO623
    clear HO626
    clear HO629
    clear HO633
    clear BK587
    clear BK618
    clear HB
    have HO592 := n0_
    have HO595 := n1_
    have HO598 := n2_
    have HO602 := n3_
    have HO607 := n4_
    have HO610 := n5_
    have HO613 := n6_
    have HO617 := n7_
    have HO623 := n8_
    have HO626 := n9_
    have HO629 := n10_
    have HO633 := n11_
    have BK587 := n12_
    have BK618 := n13_
    have HB := n14_
    clear n0_ n1_ n2_ n3_ n4_ n5_ n6_ n7_ n8_ n9_ n10_ n11_ n12_ n13_ n14_
    (try clear hb)
    (try clear hb2)
    (try clear hk)
    (try clear hi)
    refine hK.out _ _ ⟨(blk_cell BK618.out 0).trans rfl, (blk_cell BK618.out 1).trans rfl, (blk_cell BK618.out 2).trans rfl, (blk_cell BK618.out 3).trans rfl, (blk_cell BK618.out 4).trans rfl, (blk_cell BK618.out 5).trans rfl, (blk_cell BK587.out 0).trans rfl, (blk_cell BK587.out 1).trans rfl, (blk_cell BK587.out 2).trans rfl, (blk_cell BK587.out 3).trans rfl, (blk_cell BK587.out 4).trans rfl, (blk_cell BK587.out 5).trans rfl⟩ (fun hHeld => ?_)
    clear hK K
    refine norm_ (a' := ?_) ?_ ?_
    rotate_left
    ·show Act.put _ (some 25) _ = _
     simp only [Act.put, List.setIfInBounds_toArray, List.set_cons_zero, List.set_cons_succ, i64_w, i32_w]
     rfl
    refine pure_ (i := 4) (N := some 26) (v := ?_) (a' := ?_) #[true, true, true, true, true] rfl rfl (by kernel_rfl) (fun _ _ _ h => h) (Or.inl ⟨by rfl, ?_⟩) ?_ ?_
    rotate_left; (· (intro w'; go_simp; with_reducible rfl)); rotate_left; (· (simp only [Act.put, List.setIfInBounds_toArray, List.set_cons_zero, List.set_cons_succ, i64_w, i32_w]; rfl))
    refine done_ (by kernel_rfl) ?_
    try go_wp2
    go_ret
    exact ⟨by first | rfl | (simp [errW_none, errW_some] <;> rfl) | (simp [*, errW_none, errW_some] <;> rfl), by repeat (first | (with_reducible first | exact HB.out | apply below_alloc | apply pw_below_drewN | apply below_drew1 | refine below_set ?_ GE587.out | refine below_set ?_ GE618.out) | exact HB.out)⟩
   ·replace c34 := Bool.eq_false_iff.mpr c34
    subst c34
    have H1 : (some false) = some true := by rw [if_neg (show ¬ (false = true) by decide)] at H; exact H
    clear H
    have H := H1
    clear H1
    exact absurd H (by simp)
/-- Plain facts on the verifier's helpers: copies are copies, and a list is equal to itself. -/
theorem wrap_next {i : Nat} {n : Nat} (h : i < n) (hn : n ≤ 9223372036854775807) : wrap64 ((i : Int) + 1) = ((i + 1 : Nat) : Int) := by
  unfold wrap64; omega
theorem rd_nat (l : List Int) (i : Nat) : rd l (i : Int) = l.getD i 0 := rfl
theorem rd_get (l : List Int) (i : Nat) (h : i < l.length) : rd l (i : Int) = l[i] := by
  rw [rd_nat, List.getD_eq_getElem?_getD, List.getElem?_eq_getElem h]; rfl
theorem take_set_next {α : Type} (x y : List α) (i : Nat) (h : i < x.length) (hl : y.length = x.length) (ht : y.take i = x.take i) : (y.set i x[i]).take (i + 1) = x.take (i + 1) := by
  rw [List.take_succ_eq_append_getElem h, List.take_succ_eq_append_getElem (by simpa [hl] using h)]
  congr 1
  · rw [List.take_set_of_le (Nat.le_refl i)]; exact ht
  · simp
theorem toInt64S_l0 (x : List Int) (hx : x.length ≤ 35184372088832) : ∀ (d i : Nat) (y : List Int), i + d = x.length → y.length = x.length → y.take i = x.take i → Ev (fun k => laws_toInt64S.l0 k x y i) x := by
  intro d
  induction d with
  | zero =>
    intro i y hi hl ht
    refine Ev.step (f := fun _ => some x) (fun k => ?_) (Ev.now _)
    simp only [laws_toInt64S.l0]
    rw [if_neg (by omega)]
    have : i = x.length := by omega
    rw [this, List.take_of_length_le (by omega), List.take_of_length_le (by omega)] at ht
    rw [ht]
  | succ d ih =>
    intro i y hi hl ht
    have hlt : i < x.length := by omega
    refine Ev.step (f := fun k => laws_toInt64S.l0 k x (y.set i x[i]) ((i + 1 : Nat) : Int)) (fun k => ?_) (ih (i + 1) _ (by omega) (by simpa using hl) (take_set_next x y i hlt hl ht))
    simp only [laws_toInt64S.l0]
    rw [if_pos (by omega), if_pos (by omega), if_pos (by omega), wrap_next hlt (by omega), rd_get x i hlt, Int.toNat_natCast]
theorem toInt64S_ev (x : List Int) (hx : x.length ≤ 35184372088832) : Ev (fun k => laws_toInt64S.f k x) x := by
  refine Ev.congr (f := fun k => laws_toInt64S.l0 k x (List.replicate x.length 0) ((0 : Nat) : Int)) (fun k => ?_) (toInt64S_l0 x hx x.length 0 _ (by omega) (by simp) (by simp))
  unfold laws_toInt64S.f
  rw [if_pos (by omega), if_pos (by omega), Int.toNat_natCast]; rfl
theorem eqInt64S_l0 (x y : List Int) (hl : x.length = y.length) (hx : x.length ≤ 9223372036854775807) : ∀ (d i : Nat), i + d = x.length → x.take i = y.take i → Ev (fun k => laws_eqInt64S.l0 k x y i) (decide (x = y)) := by
  intro d
  induction d with
  | zero =>
    intro i hi ht
    refine Ev.step (f := fun _ => some (decide (x = y))) (fun k => ?_) (Ev.now _)
    simp only [laws_eqInt64S.l0]
    rw [if_neg (by omega)]
    have : i = x.length := by omega
    rw [this, List.take_of_length_le (by omega), List.take_of_length_le (by omega)] at ht
    simp [ht]
  | succ d ih =>
    intro i hi ht
    have hlt : i < x.length := by omega
    by_cases he : x[i] = y[i]
    · refine Ev.step (f := fun k => laws_eqInt64S.l0 k x y ((i + 1 : Nat) : Int)) (fun k => ?_) (ih (i + 1) (by omega) ?_)
      · simp only [laws_eqInt64S.l0]
        rw [if_pos (by omega), if_pos (by omega), if_pos (by omega), wrap_next hlt (by omega), rd_get x i hlt, rd_get y i (by omega), if_pos he]
      · rw [List.take_succ_eq_append_getElem hlt, List.take_succ_eq_append_getElem (by omega), ht, he]
    · refine Ev.step (f := fun _ => some (decide (x = y))) (fun k => ?_) (Ev.now _)
      simp only [laws_eqInt64S.l0]
      rw [if_pos (by omega), if_pos (by omega), if_pos (by omega), rd_get x i hlt, rd_get y i (by omega), if_neg he]
      have : x ≠ y := fun h => he (by subst h; rfl)
      simp [this]
theorem eqInt64S_ev (x y : List Int) (hx : x.length ≤ 9223372036854775807) : Ev (fun k => laws_eqInt64S.f k x y) (decide (x = y)) := by
  by_cases h : x.length = y.length
  · refine Ev.congr (f := fun k => laws_eqInt64S.l0 k x y ((0 : Nat) : Int)) (fun k => ?_) (eqInt64S_l0 x y h hx x.length 0 (by omega) (by simp))
    unfold laws_eqInt64S.f
    rw [if_pos (by omega)]; rfl
  · refine Ev.congr (f := fun _ => some (decide (x = y))) (fun k => ?_) (Ev.now _)
    unfold laws_eqInt64S.f
    rw [if_neg (by omega)]
    have : x ≠ y := fun e => h (by rw [e])
    simp [this]
theorem eqInt64S_self (x : List Int) (hx : x.length ≤ 9223372036854775807) : Ev (fun k => laws_eqInt64S.f k x x) true := by
  have := eqInt64S_ev x x hx
  simpa using this
/-- The verifier's count of a list. -/
theorem szInt64S_val (l : List Int) (a : Int) (hl : l.length ≤ maxLen) (h0 : 0 ≤ a) (h1 : a ≤ 1048576) : laws_szInt64S.f l a = some (if a < l.length then -1 else a - l.length) := by
  unfold maxLen at hl
  have e : wrap64 (a - (l.length : Int)) = a - l.length := by unfold wrap64; omega
  unfold laws_szInt64S.f
  rw [e]
  by_cases h : a < l.length
  · rw [if_pos h, if_pos (by omega)]
  · rw [if_neg h, if_neg (by omega)]
/-- The verifier's helpers on lists of lists: sizes, copies, equality. -/
theorem rdL_get (l : List (List Int)) (i : Nat) (h : i < l.length) : rd_L1 l (i : Int) = l[i] := by
  show l.getD ((i : Int)).toNat [] = l[i]
  rw [Int.toNat_natCast, List.getD_eq_getElem?_getD, List.getElem?_eq_getElem h]; rfl
def sumLen : List (List Int) → Int
  | [] => 0
  | x :: r => x.length + sumLen r
theorem sumLen_nonneg : ∀ l : List (List Int), 0 ≤ sumLen l
  | [] => by simp [sumLen]
  | x :: r => by have := sumLen_nonneg r; unfold sumLen; omega
theorem sumLen_mem : ∀ (l : List (List Int)) (x : List Int), x ∈ l → (x.length : Int) ≤ sumLen l
  | [], x, h => by simp at h
  | y :: r, x, h => by
    have h0 := sumLen_nonneg r
    unfold sumLen
    rcases List.mem_cons.1 h with rfl | h
    · omega
    · have := sumLen_mem r x h; omega
theorem szInt64SS_l0 (l : List (List Int)) (hl : l.length ≤ maxLen) (hx : ∀ x ∈ l, x.length ≤ maxLen) : ∀ (d i : Nat) (a : Int), i + d = l.length → 0 ≤ a → a ≤ 1048576 → Ev (fun k => laws_szInt64SS.l0 k l a i) (if a < sumLen (l.drop i) then -1 else a - sumLen (l.drop i)) := by
  intro d
  induction d with
  | zero =>
    intro i a hi h0 h1
    refine Ev.step (f := fun _ => some _) (fun k => ?_) (Ev.now _)
    simp only [laws_szInt64SS.l0]
    rw [if_neg (by omega), List.drop_of_length_le (by omega), sumLen, if_neg (by omega)]
    congr 1; omega
  | succ d ih =>
    intro i a hi h0 h1
    have hlt : i < l.length := by omega
    have hn := sumLen_nonneg (l.drop (i + 1))
    rw [List.drop_eq_getElem_cons hlt, sumLen]
    have hxl := hx _ (List.getElem_mem hlt)
    by_cases h : a < l[i].length
    · refine Ev.step (f := fun _ => some _) (fun k => ?_) (Ev.now _)
      simp only [laws_szInt64SS.l0]
      rw [if_pos (by omega), if_pos (by omega), rdL_get l i hlt, szInt64S_val _ a hxl h0 h1, if_pos h, Option.bind_some, if_pos (by omega), if_pos (by omega)]
    · have := ih (i + 1) (a - l[i].length) (by omega) (by omega) (by omega)
      have e : (if a - (l[i].length : Int) < sumLen (l.drop (i + 1)) then (-1 : Int) else a - (l[i].length : Int) - sumLen (l.drop (i + 1))) = if a < (l[i].length : Int) + sumLen (l.drop (i + 1)) then -1 else a - ((l[i].length : Int) + sumLen (l.drop (i + 1))) := by
        by_cases h2 : a < (l[i].length : Int) + sumLen (l.drop (i + 1))
        · rw [if_pos h2, if_pos (by omega)]
        · rw [if_neg h2, if_neg (by omega)]; omega
      rw [e] at this
      refine Ev.step (fun k => ?_) this
      simp only [laws_szInt64SS.l0]
      rw [if_pos (by omega), if_pos (by omega), rdL_get l i hlt, szInt64S_val _ a hxl h0 h1, if_neg h, Option.bind_some, if_neg (by omega), wrap_next hlt (by unfold maxLen at hl; omega)]
/-- The size that is left: -1, or the lists are short. -/
theorem szInt64SS_ev (l : List (List Int)) (hl : l.length ≤ maxLen) (hx : ∀ x ∈ l, x.length ≤ maxLen) (a : Int) (h0 : 0 ≤ a) (h1 : a ≤ 1048576) :
    ∃ v, Ev (fun k => laws_szInt64SS.f k l a) v ∧ (v = -1 ∨ 0 ≤ v ∧ v ≤ a ∧ (l.length : Int) ≤ a ∧ (∀ x ∈ l, (x.length : Int) ≤ a) ∧ v = a - l.length - sumLen l) := by
  have e : wrap64 (a - (l.length : Int)) = a - l.length := by unfold maxLen at hl; unfold wrap64; omega
  by_cases h : a < l.length
  · exact ⟨-1, Ev.congr (fun k => by unfold laws_szInt64SS.f; rw [e, if_pos (by omega)]) (Ev.now _), .inl rfl⟩
  · have := szInt64SS_l0 l hl hx l.length 0 (a - l.length) (by omega) (by omega) (by omega)
    rw [List.drop_zero] at this
    refine ⟨_, Ev.congr (fun k => ?_) this, ?_⟩
    · unfold laws_szInt64SS.f; rw [e, if_neg (by omega)]; rfl
    · have hn := sumLen_nonneg l
      by_cases h2 : a - (l.length : Int) < sumLen l
      · left; rw [if_pos h2]
      · right
        rw [if_neg h2]
        refine ⟨by omega, by omega, by omega, fun x hm => ?_, rfl⟩
        have := sumLen_mem l x hm
        omega
theorem toInt64SS_l0 (l : List (List Int)) (hl : l.length ≤ 1048576) (hx : ∀ x ∈ l, x.length ≤ 1048576) : ∀ (d i : Nat) (y : List (List Int)), i + d = l.length → y.length = l.length → y.take i = l.take i → Ev (fun k => laws_toInt64SS.l0 k l y i) l := by
  intro d
  induction d with
  | zero =>
    intro i y hi hyl ht
    refine Ev.step (f := fun _ => some l) (fun k => ?_) (Ev.now _)
    simp only [laws_toInt64SS.l0]
    rw [if_neg (by omega)]
    have : i = l.length := by omega
    rw [this, List.take_of_length_le (by omega), List.take_of_length_le (by omega)] at ht
    rw [ht]
  | succ d ih =>
    intro i y hi hyl ht
    have hlt : i < l.length := by omega
    have hb := hx _ (List.getElem_mem hlt)
    refine Ev.step (f := fun k => (laws_toInt64S.f k l[i]).bind fun t => laws_toInt64SS.l0 k l (y.set i t) ((i + 1 : Nat) : Int)) (fun k => ?_) (Ev.bind (toInt64S_ev l[i] (by omega)) (ih (i + 1) _ (by omega) (by simpa using hyl) (take_set_next l y i hlt hyl ht)))
    simp only [laws_toInt64SS.l0]
    rw [if_pos (by omega), if_pos (by omega), rdL_get l i hlt, wrap_next hlt (by omega), Int.toNat_natCast]
    refine congrArg _ (funext fun t => ?_)
    rw [if_pos (by omega)]
theorem toInt64SS_ev (l : List (List Int)) (hl : l.length ≤ 1048576) (hx : ∀ x ∈ l, x.length ≤ 1048576) : Ev (fun k => laws_toInt64SS.f k l) l := by
  refine Ev.congr (f := fun k => laws_toInt64SS.l0 k l (List.replicate l.length []) ((0 : Nat) : Int)) (fun k => ?_) (toInt64SS_l0 l hl hx l.length 0 _ (by omega) (by simp) (by simp))
  unfold laws_toInt64SS.f
  rw [if_pos (by omega), if_pos (by omega), Int.toNat_natCast]; rfl
theorem eqInt64SS_l0 (x y : List (List Int)) (hl : x.length = y.length) (hx : x.length ≤ 9223372036854775807) (hb : ∀ z ∈ x, z.length ≤ 9223372036854775807) : ∀ (d i : Nat), i + d = x.length → x.take i = y.take i → Ev (fun k => laws_eqInt64SS.l0 k x y i) (decide (x = y)) := by
  intro d
  induction d with
  | zero =>
    intro i hi ht
    refine Ev.step (f := fun _ => some (decide (x = y))) (fun k => ?_) (Ev.now _)
    simp only [laws_eqInt64SS.l0]
    rw [if_neg (by omega)]
    have : i = x.length := by omega
    rw [this, List.take_of_length_le (by omega), List.take_of_length_le (by omega)] at ht
    simp [ht]
  | succ d ih =>
    intro i hi ht
    have hlt : i < x.length := by omega
    have hz := eqInt64S_ev x[i] (y[i]'(by omega)) (hb _ (List.getElem_mem hlt))
    by_cases he : x[i] = y[i]'(by omega)
    · rw [decide_eq_true he] at hz
      refine Ev.step (f := fun k => (laws_eqInt64S.f k x[i] (y[i]'(by omega))).bind fun t => if t = true then laws_eqInt64SS.l0 k x y ((i + 1 : Nat) : Int) else some false) (fun k => ?_) (Ev.bind hz (Ev.congr (fun k => by rw [if_pos rfl]) (ih (i + 1) (by omega) ?_)))
      · simp only [laws_eqInt64SS.l0]
        rw [if_pos (by omega), if_pos (by omega), if_pos (by omega), wrap_next hlt (by omega), rdL_get x i hlt, rdL_get y i (by omega)]
      · rw [List.take_succ_eq_append_getElem hlt, List.take_succ_eq_append_getElem (by omega), ht, he]
    · rw [decide_eq_false he] at hz
      have hne : x ≠ y := fun h => he (by subst h; rfl)
      rw [decide_eq_false hne]
      refine Ev.step (f := fun k => (laws_eqInt64S.f k x[i] (y[i]'(by omega))).bind fun t => if t = true then laws_eqInt64SS.l0 k x y ((i + 1 : Nat) : Int) else some false) (fun k => ?_) (Ev.bind hz (Ev.congr (fun k => by rw [if_neg (by simp)]) (Ev.now _)))
      simp only [laws_eqInt64SS.l0]
      rw [if_pos (by omega), if_pos (by omega), if_pos (by omega), wrap_next hlt (by omega), rdL_get x i hlt, rdL_get y i (by omega)]
theorem eqInt64SS_ev (x y : List (List Int)) (hx : x.length ≤ 9223372036854775807) (hb : ∀ z ∈ x, z.length ≤ 9223372036854775807) : Ev (fun k => laws_eqInt64SS.f k x y) (decide (x = y)) := by
  by_cases h : x.length = y.length
  · refine Ev.congr (f := fun k => laws_eqInt64SS.l0 k x y ((0 : Nat) : Int)) (fun k => ?_) (eqInt64SS_l0 x y h hx hb x.length 0 (by omega) (by simp))
    unfold laws_eqInt64SS.f
    rw [if_pos (by omega)]; rfl
  · refine Ev.congr (f := fun _ => some (decide (x = y))) (fun k => ?_) (Ev.now _)
    unfold laws_eqInt64SS.f
    rw [if_neg (by omega)]
    have : x ≠ y := fun e => h (by rw [e])
    simp [this]
theorem eqInt64SS_self (x : List (List Int)) (hx : x.length ≤ 9223372036854775807) (hb : ∀ z ∈ x, z.length ≤ 9223372036854775807) : Ev (fun k => laws_eqInt64SS.f k x x) true := by
  have := eqInt64SS_ev x x hx hb
  simpa using this
/-- The verifier's helpers on lists of lists of lists: sizes, copies, equality. -/
theorem rdLL_get (l : List (List (List Int))) (i : Nat) (h : i < l.length) : rd_L5 l (i : Int) = l[i] := by
  show l.getD ((i : Int)).toNat [] = l[i]
  rw [Int.toNat_natCast, List.getD_eq_getElem?_getD, List.getElem?_eq_getElem h]; rfl
theorem szInt64SSS_l0 (l : List (List (List Int))) (hl : l.length ≤ maxLen) (hx : ∀ x ∈ l, x.length ≤ maxLen ∧ ∀ y ∈ x, y.length ≤ maxLen) : ∀ (d i : Nat) (a : Int), i + d = l.length → 0 ≤ a → a ≤ 1048576 →
    ∃ v, Ev (fun k => laws_szInt64SSS.l0 k l a i) v ∧ (v = -1 ∨ 0 ≤ v ∧ v ≤ a ∧ ((l.drop i).flatten.length : Int) ≤ a - v ∧ ∀ x ∈ l.drop i, (x.length : Int) ≤ a ∧ ∀ y ∈ x, (y.length : Int) ≤ a) := by
  intro d
  induction d with
  | zero =>
    intro i a hi h0 h1
    refine ⟨a, Ev.step (f := fun _ => some a) (fun k => ?_) (Ev.now _), .inr ⟨h0, Int.le_refl _, ?_, ?_⟩⟩
    · simp only [laws_szInt64SSS.l0]
      rw [if_neg (by omega)]
    · rw [List.drop_of_length_le (by omega)]; simp
    · rw [List.drop_of_length_le (by omega)]; simp
  | succ d ih =>
    intro i a hi h0 h1
    have hlt : i < l.length := by omega
    have hxl := hx _ (List.getElem_mem hlt)
    obtain ⟨v1, hv1, h⟩ := szInt64SS_ev l[i] hxl.1 hxl.2 a h0 h1
    have hst : ∀ k, laws_szInt64SSS.l0 (k + 1) l a (i : Int) = (laws_szInt64SS.f k l[i] a).bind fun t => if t < 0 then some (-1) else laws_szInt64SSS.l0 k l t ((i + 1 : Nat) : Int) := fun k => by
      simp only [laws_szInt64SSS.l0]
      rw [if_pos (by omega), if_pos (by omega), rdLL_get l i hlt, wrap_next hlt (by unfold maxLen at hl; omega)]
    rcases h with rfl | ⟨g0, g1, g2, g3, g4⟩
    · exact ⟨-1, Ev.step hst (Ev.bind hv1 (Ev.congr (fun k => by rw [if_pos (by omega)]) (Ev.now _))), .inl rfl⟩
    · obtain ⟨v, hv, h⟩ := ih (i + 1) v1 (by omega) g0 (by omega)
      refine ⟨v, Ev.step hst (Ev.bind hv1 (Ev.congr (fun k => by rw [if_neg (by omega)]) hv)), ?_⟩
      rcases h with rfl | ⟨e0, e1, e2, e3⟩
      · exact .inl rfl
      · refine .inr ⟨e0, by omega, ?_, ?_⟩
        · rw [List.drop_eq_getElem_cons hlt, List.flatten_cons, List.length_append]
          have := sumLen_nonneg l[i]
          omega
        · rw [List.drop_eq_getElem_cons hlt]
          intro x hm
          rcases List.mem_cons.1 hm with rfl | hm
          · exact ⟨g2, g3⟩
          · exact ⟨by have := (e3 x hm).1; omega, fun y hy => by have := (e3 x hm).2 y hy; omega⟩
theorem szInt64SSS_ev (l : List (List (List Int))) (hl : l.length ≤ maxLen) (hx : ∀ x ∈ l, x.length ≤ maxLen ∧ ∀ y ∈ x, y.length ≤ maxLen) (a : Int) (h0 : 0 ≤ a) (h1 : a ≤ 1048576) :
    ∃ v, Ev (fun k => laws_szInt64SSS.f k l a) v ∧ (v = -1 ∨ 0 ≤ v ∧ v ≤ a ∧ (l.length : Int) ≤ a ∧ (l.flatten.length : Int) ≤ a ∧ ∀ x ∈ l, (x.length : Int) ≤ a ∧ ∀ y ∈ x, (y.length : Int) ≤ a) := by
  have e : wrap64 (a - (l.length : Int)) = a - l.length := by unfold maxLen at hl; unfold wrap64; omega
  by_cases h : a < l.length
  · exact ⟨-1, Ev.congr (fun k => by unfold laws_szInt64SSS.f; rw [e, if_pos (by omega)]) (Ev.now _), .inl rfl⟩
  · obtain ⟨v, hv, h2⟩ := szInt64SSS_l0 l hl hx l.length 0 (a - l.length) (by omega) (by omega) (by omega)
    refine ⟨v, Ev.congr (fun k => ?_) hv, ?_⟩
    · unfold laws_szInt64SSS.f; rw [e, if_neg (by omega)]; rfl
    · rw [List.drop_zero] at h2
      rcases h2 with rfl | ⟨e0, e1, e2, e3⟩
      · exact .inl rfl
      · exact .inr ⟨e0, by omega, by omega, by omega, fun x hm => ⟨by have := (e3 x hm).1; omega, fun y hy => by have := (e3 x hm).2 y hy; omega⟩⟩
theorem toInt64SSS_l0 (l : List (List (List Int))) (hl : l.length ≤ 1048576) (hx : ∀ x ∈ l, x.length ≤ 1048576 ∧ ∀ y ∈ x, y.length ≤ 1048576) : ∀ (d i : Nat) (y : List (List (List Int))), i + d = l.length → y.length = l.length → y.take i = l.take i → Ev (fun k => laws_toInt64SSS.l0 k l y i) l := by
  intro d
  induction d with
  | zero =>
    intro i y hi hyl ht
    refine Ev.step (f := fun _ => some l) (fun k => ?_) (Ev.now _)
    simp only [laws_toInt64SSS.l0]
    rw [if_neg (by omega)]
    have : i = l.length := by omega
    rw [this, List.take_of_length_le (by omega), List.take_of_length_le (by omega)] at ht
    rw [ht]
  | succ d ih =>
    intro i y hi hyl ht
    have hlt : i < l.length := by omega
    have hb := hx _ (List.getElem_mem hlt)
    refine Ev.step (f := fun k => (laws_toInt64SS.f k l[i]).bind fun t => laws_toInt64SSS.l0 k l (y.set i t) ((i + 1 : Nat) : Int)) (fun k => ?_) (Ev.bind (toInt64SS_ev l[i] hb.1 hb.2) (ih (i + 1) _ (by omega) (by simpa using hyl) (take_set_next l y i hlt hyl ht)))
    simp only [laws_toInt64SSS.l0]
    rw [if_pos (by omega), if_pos (by omega), rdLL_get l i hlt, wrap_next hlt (by omega), Int.toNat_natCast]
    refine congrArg _ (funext fun t => ?_)
    rw [if_pos (by omega)]
theorem toInt64SSS_ev (l : List (List (List Int))) (hl : l.length ≤ 1048576) (hx : ∀ x ∈ l, x.length ≤ 1048576 ∧ ∀ y ∈ x, y.length ≤ 1048576) : Ev (fun k => laws_toInt64SSS.f k l) l := by
  refine Ev.congr (f := fun k => laws_toInt64SSS.l0 k l (List.replicate l.length []) ((0 : Nat) : Int)) (fun k => ?_) (toInt64SSS_l0 l hl hx l.length 0 _ (by omega) (by simp) (by simp))
  unfold laws_toInt64SSS.f
  rw [if_pos (by omega), if_pos (by omega), Int.toNat_natCast]; rfl
theorem eqInt64SSS_l0 (x : List (List (List Int))) (hx : x.length ≤ 1048576) (hb : ∀ z ∈ x, z.length ≤ 1048576 ∧ ∀ y ∈ z, y.length ≤ 1048576) : ∀ (d i : Nat), i + d = x.length → Ev (fun k => laws_eqInt64SSS.l0 k x x i) true := by
  intro d
  induction d with
  | zero =>
    intro i hi
    refine Ev.step (f := fun _ => some true) (fun k => ?_) (Ev.now _)
    simp only [laws_eqInt64SSS.l0]
    rw [if_neg (by omega)]
  | succ d ih =>
    intro i hi
    have hlt : i < x.length := by omega
    have hz := hb _ (List.getElem_mem hlt)
    refine Ev.step (f := fun k => (laws_eqInt64SS.f k x[i] x[i]).bind fun t => if t = true then laws_eqInt64SSS.l0 k x x ((i + 1 : Nat) : Int) else some false) (fun k => ?_) (Ev.bind (eqInt64SS_self x[i] (by omega) (fun y hy => by have := hz.2 y hy; omega)) (Ev.congr (fun k => by rw [if_pos rfl]) (ih (i + 1) (by omega))))
    simp only [laws_eqInt64SSS.l0]
    rw [if_pos (by omega), if_pos (by omega), if_pos (by omega), wrap_next hlt (by omega), rdLL_get x i hlt]
theorem eqInt64SSS_self (x : List (List (List Int))) (hx : x.length ≤ 1048576) (hb : ∀ z ∈ x, z.length ≤ 1048576 ∧ ∀ y ∈ z, y.length ≤ 1048576) : Ev (fun k => laws_eqInt64SSS.f k x x) true := by
  refine Ev.congr (f := fun k => laws_eqInt64SSS.l0 k x x ((0 : Nat) : Int)) (fun k => ?_) (eqInt64SSS_l0 x hx hb x.length 0 (by omega))
  unfold laws_eqInt64SSS.f
  rw [if_pos rfl]; rfl
/-- The reference's 'in' is the program's 'within'. -/
theorem in_inW (n a b : Int) : spec_l01In.f n a b = some (inW n a b) := by
  unfold spec_l01In.f inW
  by_cases h : a ≤ n <;> simp [h]
-- needs: 56 (boards, in plain words)
theorem inW_bool (n a b : Int) : inW n a b = true ↔ a ≤ n ∧ n ≤ b := by simp [inW]
theorem inW_false {n a b : Int} (h : ¬ (a ≤ n ∧ n ≤ b)) : inW n a b = false := by
  cases e : inW n a b
  · rfl
  · exact absurd ((inW_bool n a b).1 e) h
theorem l06Is_l0 (p : Int) (l : List Int) (hl : l.length ≤ 9223372036854775807) : ∀ (d i : Nat), i + d = l.length → Ev (fun k => spec_l06Is.l0 k i p l) (!(l.drop i).any (fun c => !inW c 0 2)) := by
  intro d
  induction d with
  | zero =>
    intro i hi
    refine Ev.step (f := fun _ => some _) (fun k => ?_) (Ev.now _)
    simp only [spec_l06Is.l0]
    rw [if_neg (by omega), List.drop_eq_nil_of_le (by omega)]; rfl
  | succ d ih =>
    intro i hi
    have hlt : i < l.length := by omega
    rw [List.drop_eq_getElem_cons hlt, List.any_cons]
    by_cases he : inW l[i] 0 2 = true
    · rw [he]
      simp only [Bool.not_true, Bool.false_or]
      refine Ev.step (f := fun k => spec_l06Is.l0 k ((i + 1 : Nat) : Int) p l) (fun k => ?_) (ih (i + 1) (by omega))
      simp only [spec_l06Is.l0]
      rw [if_pos (by omega), if_pos (by omega), wrap_next hlt hl, rd_get l i hlt, in_inW, he]; rfl
    · refine Ev.step (f := fun _ => some _) (fun k => ?_) (Ev.now _)
      simp only [spec_l06Is.l0]
      rw [if_pos (by omega), if_pos (by omega), rd_get l i hlt, in_inW]
      simp [he]
theorem l06Is_ev (p : Int) (l : List Int) (hl : l.length ≤ 9223372036854775807) : Ev (fun k => spec_l06Is.f k p l) (isHexV p l) := by
  unfold spec_l06Is.f isHexV
  rw [in_inW]
  have hj : Ev (fun k => spec_l06Is.j0 k true p l) false := Ev.step (f := fun _ => some false) (fun k => by simp only [spec_l06Is.j0]; rw [if_pos trivial]) (Ev.now _)
  by_cases h1 : inW p 1 8 = true
  · rw [h1]
    by_cases h2 : (l.length : Int) = wrap64 (p * p)
    · have h3 : ((l.length : Int) == wrap64 (p * p)) = true := by simpa using h2
      have h4 : ((l.length : Int) != wrap64 (p * p)) = false := by simpa using h2
      rw [h3, h4]
      have := l06Is_l0 p l hl l.length 0 (by omega)
      rw [List.drop_zero] at this
      refine Ev.congr (f := fun k => spec_l06Is.j0 k false p l) (fun k => by rw [Option.bind_some, if_pos rfl]) (Ev.step (fun k => ?_) this)
      simp only [spec_l06Is.j0]
      rw [if_neg (by simp)]; rfl
    · have h3 : ((l.length : Int) == wrap64 (p * p)) = false := by simpa using h2
      have h4 : ((l.length : Int) != wrap64 (p * p)) = true := by simpa using h2
      rw [h3, h4]
      exact Ev.congr (fun k => by rw [Option.bind_some, if_pos rfl]) hj
  · have h1' : inW p 1 8 = false := by simpa using h1
    rw [h1']
    exact Ev.congr (fun k => by rw [Option.bind_some, if_neg (by simp)]) hj
theorem isHexV_cells {p : Int} {l : List Int} (h : isHexV p l = true) : 1 ≤ p ∧ p ≤ 8 ∧ (l.length : Int) = p * p ∧ ∀ x ∈ l, x = 0 ∨ x = 1 ∨ x = 2 := by
  unfold isHexV at h
  simp only [Bool.and_eq_true, beq_iff_eq, Bool.not_eq_true', List.any_eq_false, Bool.not_eq_true, Bool.not_eq_false'] at h
  obtain ⟨⟨h1, h2⟩, h3⟩ := h
  obtain ⟨ha, hb⟩ := (inW_bool _ _ _).1 h1
  have : p * p = 1 ∨ p * p = 4 ∨ p * p = 9 ∨ p * p = 16 ∨ p * p = 25 ∨ p * p = 36 ∨ p * p = 49 ∨ p * p = 64 := by
    have : p = 1 ∨ p = 2 ∨ p = 3 ∨ p = 4 ∨ p = 5 ∨ p = 6 ∨ p = 7 ∨ p = 8 := by omega
    rcases this with rfl | rfl | rfl | rfl | rfl | rfl | rfl | rfl <;> simp
  refine ⟨ha, hb, ?_, fun x hx => ?_⟩
  · rw [h2]; unfold wrap64; omega
  · have := (inW_bool _ _ _).1 (by simpa using h3 x hx)
    omega
theorem hex_small {p : Int} {l : List Int} (h : isHexV p l = true) : l.length ≤ 64 := by
  obtain ⟨h1, h2, h3, _⟩ := isHexV_cells h
  have : p = 1 ∨ p = 2 ∨ p = 3 ∨ p = 4 ∨ p = 5 ∨ p = 6 ∨ p = 7 ∨ p = 8 := by omega
  rcases this with rfl | rfl | rfl | rfl | rfl | rfl | rfl | rfl <;> omega
/-- The mover of a board by the numbers of cells, 0 for none. -/
theorem szHex_ev (p : Int) (l : List Int) (hl : l.length ≤ maxLen) : ∃ v, laws_szHex.f p l 1048576 = some v ∧ (v = -1 ∨ 0 ≤ v ∧ l.length ≤ 1048576) := by
  unfold laws_szHex.f
  rw [szInt64S_val l 1048576 hl (by omega) (by omega), Option.bind_some]
  by_cases h : (1048576 : Int) < l.length
  · rw [if_pos h]; exact ⟨-1, rfl, .inl rfl⟩
  · rw [if_neg h, if_neg (by omega)]; exact ⟨_, rfl, .inr ⟨by omega, by omega⟩⟩
theorem toHex_ev (p : Int) (l : List Int) (hl : l.length ≤ 1048576) : Ev (fun k => laws_toHex.f k p l) (p, l) := by
  unfold laws_toHex.f
  exact Ev.bind (toInt64S_ev l (by omega)) (Ev.now _)
theorem eqHex_self (p : Int) (l : List Int) (hl : l.length ≤ 1048576) : Ev (fun k => laws_eqHex.f k p l p l) true := by
  unfold laws_eqHex.f
  refine Ev.congr (fun k => by rw [if_pos rfl]) (Ev.bind (eqInt64S_self l (by omega)) (Ev.congr (fun k => by rw [if_pos rfl]) (Ev.now _)))
-- needs: 74 97 (degrees, in plain words)
def degIn (n : Int) (len : Int) : List Int → List Int → List Bool → Option (List Int × List Bool)
  | [], c, a => some (c, a)
  | s :: r, c, a => if inW s 0 (n - 1) = true then degIn n len r (c.set s.toNat (wrap64 (rd c s + 1))) (a.set s.toNat (rdOf false a s || len == 1)) else none
def degRows (n : Int) : List (List Int) → List Int → List Bool → Option (List Int × List Bool)
  | [], c, a => some (c, a)
  | b :: r, c, a => if b.length = 0 then none else (degIn n b.length b c a).bind fun p => degRows n r p.1 p.2
def degLast (al : List Bool) : Nat → Nat → List Int → Option (List Int)
  | 0, _, c => some c
  | d + 1, i, c => if inW (rd c i) 1 3 = true ∧ ¬ (rdOf false al i = true ∧ rd c i > 1) then degLast al d (i + 1) (if rdOf false al i = true then c.set i 0 else c) else none
def degFin (o : Option (List Int × List Bool)) : List Int × Bool :=
  match o.bind fun p => degLast p.2 p.1.length 0 p.1 with
  | some c => (c, true)
  | none => ([], false)
def degV (n : Int) (l : List (List (List Int))) : List Int × Bool :=
  if inW n 1 20 = true ∧ l.length ≠ 0 then degFin (degRows n l.flatten (List.replicate n.toNat 0) (List.replicate n.toNat false)) else ([], false)
theorem wrap_pred {n : Int} (h : 1 ≤ n) (h2 : n ≤ 20) : wrap64 (n - 1) = n - 1 := by unfold wrap64; omega
theorem within_val (n a b : Int) : impl_within.f n a b = some (inW n a b) := within_inW n a b
theorem degIn_len {n len : Int} : ∀ (r : List Int) (c : List Int) (a : List Bool) (c' : List Int) (a' : List Bool), degIn n len r c a = some (c', a') → c'.length = c.length ∧ a'.length = a.length
  | [], c, a, c', a', h => by
    simp only [degIn, Option.some.injEq, Prod.mk.injEq] at h
    rw [← h.1, ← h.2]; exact ⟨rfl, rfl⟩
  | s :: r, c, a, c', a', h => by
    simp only [degIn] at h
    split at h
    · have := degIn_len r _ _ _ _ h
      simpa using this
    · cases h
/-- The last pass, the reference's. -/
theorem spec_l3 (al : List Bool) : ∀ (d i : Nat) (c : List Int), i + d = c.length → c.length = al.length → c.length ≤ 20 → Ev (fun k => spec_l02Degrees.l3 k c al i) (match degLast al d i c with | some c' => (c', true) | none => ([], false)) := by
  intro d
  induction d with
  | zero =>
    intro i c hi hl h20
    refine Ev.step (f := fun _ => some (c, true)) (fun k => ?_) (Ev.now _)
    simp only [spec_l02Degrees.l3]
    rw [if_neg (by omega)]
  | succ d ih =>
    intro i c hi hl h20
    have hlt : i < c.length := by omega
    have hbad : Ev (fun k => spec_l02Degrees.j5 k c al i true) (([] : List Int), false) := Ev.step (f := fun _ => some (([] : List Int), false)) (fun k => by simp only [spec_l02Degrees.j5]; rw [if_pos trivial]) (Ev.now _)
    have hgood : Ev (fun k => spec_l02Degrees.j5 k c al i false) (match degLast al d (i + 1) (if rdOf false al i = true then c.set i 0 else c) with | some c' => (c', true) | none => ([], false)) := by
      by_cases ha : rdOf false al (i : Int) = true
      · have := ih (i + 1) (c.set i 0) (by rw [List.length_set]; omega) (by rw [List.length_set]; exact hl) (by rw [List.length_set]; exact h20)
        rw [if_pos ha]
        refine Ev.step (fun k => ?_) this
        simp only [spec_l02Degrees.j5]
        rw [if_neg (by simp), if_pos (by omega), if_pos (by omega), if_pos ha, if_pos (by omega), Int.toNat_natCast, wrap_next hlt (by omega)]
      · have := ih (i + 1) c (by omega) hl h20
        rw [if_neg ha]
        refine Ev.step (fun k => ?_) this
        simp only [spec_l02Degrees.j5]
        rw [if_neg (by simp), if_pos (by omega), if_pos (by omega), if_neg ha, wrap_next hlt (by omega)]
    by_cases h1 : rd c (i : Int) < 1
    · have hn : ¬ (inW (rd c (i : Int)) 1 3 = true ∧ ¬ (rdOf false al (i : Int) = true ∧ rd c (i : Int) > 1)) := fun h => by have := (inW_bool _ _ _).1 h.1; omega
      simp only [degLast]
      rw [if_neg hn]
      refine Ev.step (fun k => ?_) hbad
      simp only [spec_l02Degrees.l3]
      rw [if_pos (by omega), if_pos (by omega), if_pos h1]
    · by_cases h3 : rd c (i : Int) > 3
      · have hn : ¬ (inW (rd c (i : Int)) 1 3 = true ∧ ¬ (rdOf false al (i : Int) = true ∧ rd c (i : Int) > 1)) := fun h => by have := (inW_bool _ _ _).1 h.1; omega
        simp only [degLast]
        rw [if_neg hn]
        refine Ev.step (fun k => ?_) hbad
        simp only [spec_l02Degrees.l3]
        rw [if_pos (by omega), if_pos (by omega), if_neg h1, if_pos h3]
      · have hw : inW (rd c (i : Int)) 1 3 = true := (inW_bool _ _ _).2 (by omega)
        by_cases ha : rdOf false al (i : Int) = true
        · by_cases hg : rd c (i : Int) > 1
          · simp only [degLast]
            rw [if_neg (fun h => h.2 ⟨ha, hg⟩)]
            refine Ev.step (fun k => ?_) hbad
            simp only [spec_l02Degrees.l3]
            rw [if_pos (by omega), if_pos (by omega), if_neg h1, if_neg h3, if_pos (by omega), if_pos ha, decide_eq_true hg]
          · simp only [degLast]
            rw [if_pos ⟨hw, fun h => hg h.2⟩]
            refine Ev.step (fun k => ?_) hgood
            simp only [spec_l02Degrees.l3]
            rw [if_pos (by omega), if_pos (by omega), if_neg h1, if_neg h3, if_pos (by omega), if_pos ha, decide_eq_false hg]
        · simp only [degLast]
          rw [if_pos ⟨hw, fun h => ha h.1⟩]
          refine Ev.step (fun k => ?_) hgood
          simp only [spec_l02Degrees.l3]
          rw [if_pos (by omega), if_pos (by omega), if_neg h1, if_neg h3, if_pos (by omega), if_neg ha]
/-- The last pass, the program's. -/
theorem impl_l2 (al : List Bool) : ∀ (d i : Nat) (c : List Int), i + d = c.length → c.length = al.length → c.length ≤ 20 → Ev (fun k => impl_Sprouts_degrees.l2 k c al (al.length : Int) i) (match degLast al d i c with | some c' => (c', true) | none => ([], false)) := by
  intro d
  induction d with
  | zero =>
    intro i c hi hl h20
    refine Ev.step (f := fun _ => some (c, true)) (fun k => ?_) (Ev.now _)
    simp only [impl_Sprouts_degrees.l2]
    rw [if_neg (by omega)]
  | succ d ih =>
    intro i c hi hl h20
    have hlt : i < c.length := by omega
    have hbad : Ev (fun k => impl_Sprouts_degrees.j4 k c al i (al.length : Int) i true) (([] : List Int), false) := Ev.step (f := fun _ => some (([] : List Int), false)) (fun k => by simp only [impl_Sprouts_degrees.j4]; rw [if_pos trivial]) (Ev.now _)
    have hgood : Ev (fun k => impl_Sprouts_degrees.j4 k c al i (al.length : Int) i false) (match degLast al d (i + 1) (if rdOf false al i = true then c.set i 0 else c) with | some c' => (c', true) | none => ([], false)) := by
      by_cases ha : rdOf false al (i : Int) = true
      · have := ih (i + 1) (c.set i 0) (by rw [List.length_set]; omega) (by rw [List.length_set]; exact hl) (by rw [List.length_set]; exact h20)
        rw [if_pos ha]
        refine Ev.step (fun k => ?_) this
        simp only [impl_Sprouts_degrees.j4]
        rw [if_neg (by simp), if_pos (by omega), if_pos (by omega), if_pos ha, if_pos (by omega), Int.toNat_natCast, wrap_next hlt (by omega)]
      · have := ih (i + 1) c (by omega) hl h20
        rw [if_neg ha]
        refine Ev.step (fun k => ?_) this
        simp only [impl_Sprouts_degrees.j4]
        rw [if_neg (by simp), if_pos (by omega), if_pos (by omega), if_neg ha, wrap_next hlt (by omega)]
    cases hw : inW (rd c (i : Int)) 1 3 with
    | false =>
      simp only [degLast]
      rw [if_neg (fun h => by rw [hw] at h; cases h.1)]
      refine Ev.step (fun k => ?_) hbad
      simp only [impl_Sprouts_degrees.l2]
      rw [if_pos (by omega), if_pos (by omega), if_pos (by omega), within_val, hw, Option.bind_some, if_neg (by simp)]
    | true =>
      by_cases ha : rdOf false al (i : Int) = true
      · by_cases hg : rd c (i : Int) > 1
        · simp only [degLast]
          rw [if_neg (fun h => h.2 ⟨ha, hg⟩)]
          refine Ev.step (fun k => ?_) hbad
          simp only [impl_Sprouts_degrees.l2]
          rw [if_pos (by omega), if_pos (by omega), if_pos (by omega), within_val, hw, Option.bind_some, if_pos rfl, if_pos (by omega), if_pos ha, decide_eq_true hg]
        · simp only [degLast]
          rw [if_pos ⟨hw, fun h => hg h.2⟩]
          refine Ev.step (fun k => ?_) hgood
          simp only [impl_Sprouts_degrees.l2]
          rw [if_pos (by omega), if_pos (by omega), if_pos (by omega), within_val, hw, Option.bind_some, if_pos rfl, if_pos (by omega), if_pos ha, decide_eq_false hg]
      · simp only [degLast]
        rw [if_pos ⟨hw, fun h => ha h.1⟩]
        refine Ev.step (fun k => ?_) hgood
        simp only [impl_Sprouts_degrees.l2]
        rw [if_pos (by omega), if_pos (by omega), if_pos (by omega), within_val, hw, Option.bind_some, if_pos rfl, if_pos (by omega), if_neg ha]
/-- One row, the reference's. -/
theorem spec_l2 {n : Int} (h1 : 1 ≤ n) (h2 : n ≤ 20) (l : List (List (List Int))) (r b : Int) (row : List Int) (hr : row.length ≤ 1048576) (R : List Int × Bool) : ∀ (d j : Nat) (c : List Int) (a : List Bool), j + d = row.length → c.length = n.toNat → a.length = n.toNat →
    (∀ c' a', degIn n row.length (row.drop j) c a = some (c', a') → c'.length = n.toNat → a'.length = n.toNat → Ev (fun k => spec_l02Degrees.l1 k c' a' r (wrap64 (b + 1)) n l) R) → (degIn n row.length (row.drop j) c a = none → R = ([], false)) → Ev (fun k => spec_l02Degrees.l2 k c a r b row j n l) R := by
  intro d
  induction d with
  | zero =>
    intro j c a hj hc ha hs _
    rw [List.drop_of_length_le (by omega)] at hs
    refine Ev.step (fun k => ?_) (hs c a rfl hc ha)
    simp only [spec_l02Degrees.l2]
    rw [if_neg (by omega)]
  | succ d ih =>
    intro j c a hj hc ha hs hf
    have hlt : j < row.length := by omega
    rw [List.drop_eq_getElem_cons hlt] at hs hf
    simp only [degIn] at hs hf
    have hw := wrap_pred h1 h2
    by_cases hi : inW row[j] 0 (n - 1) = true
    · rw [if_pos hi] at hs hf
      have hb := (inW_bool _ _ _).1 hi
      have := ih (j + 1) _ _ (by omega) (by rw [List.length_set]; exact hc) (by rw [List.length_set]; exact ha) hs hf
      refine Ev.step (fun k => ?_) this
      simp only [spec_l02Degrees.l2]
      rw [if_pos (by omega), if_pos (by omega), rd_get row j hlt, in_inW, hw, hi, Option.bind_some, if_pos rfl, if_pos (by omega), if_pos (by omega), Option.bind_some, if_pos (by omega), wrap_next hlt (by omega)]
      by_cases hal : rdOf false a row[j] = true
      · rw [if_pos hal, hal, Bool.true_or]
      · rw [if_neg hal, Bool.eq_false_iff.2 hal, Bool.false_or]
    · rw [if_neg hi] at hf
      rw [hf rfl]
      refine Ev.step (f := fun _ => some (([] : List Int), false)) (fun k => ?_) (Ev.now _)
      simp only [spec_l02Degrees.l2]
      rw [if_pos (by omega), if_pos (by omega), rd_get row j hlt, in_inW, hw, Bool.eq_false_iff.2 hi, Option.bind_some, if_neg (by simp)]
/-- One row, the program's. -/
theorem impl_l1 {n : Int} (h1 : 1 ≤ n) (h2 : n ≤ 20) (l : List (List (List Int))) (X : List (List Int)) (m i : Int) (row : List Int) (hr : row.length ≤ 1048576) (R : List Int × Bool) : ∀ (d j : Nat) (c : List Int) (a : List Bool), j + d = row.length → c.length = n.toNat → a.length = n.toNat →
    (∀ c' a', degIn n row.length (row.drop j) c a = some (c', a') → c'.length = n.toNat → a'.length = n.toNat → Ev (fun k => if (row.length : Int) = 0 then some (([] : List Int), false) else impl_Sprouts_degrees.l0 k c' a' X m (wrap64 (i + 1)) n l) R) → (degIn n row.length (row.drop j) c a = none → R = ([], false)) → Ev (fun k => impl_Sprouts_degrees.l1 k c a X m i row row.length j n l) R := by
  intro d
  induction d with
  | zero =>
    intro j c a hj hc ha hs _
    rw [List.drop_of_length_le (by omega)] at hs
    refine Ev.step (fun k => ?_) (hs c a rfl hc ha)
    simp only [impl_Sprouts_degrees.l1]
    rw [if_neg (by omega)]
  | succ d ih =>
    intro j c a hj hc ha hs hf
    have hlt : j < row.length := by omega
    rw [List.drop_eq_getElem_cons hlt] at hs hf
    simp only [degIn] at hs hf
    have hw := wrap_pred h1 h2
    by_cases hi : inW row[j] 0 (n - 1) = true
    · rw [if_pos hi] at hs hf
      have hb := (inW_bool _ _ _).1 hi
      have := ih (j + 1) _ _ (by omega) (by rw [List.length_set]; exact hc) (by rw [List.length_set]; exact ha) hs hf
      refine Ev.step (fun k => ?_) this
      simp only [impl_Sprouts_degrees.l1]
      rw [if_pos (by omega), if_pos (by omega), if_pos (by omega), rd_get row j hlt, within_val, hw, hi, Option.bind_some, if_pos rfl, if_pos (by omega), if_pos (by omega), Option.bind_some, if_pos (by omega), wrap_next hlt (by omega)]
      by_cases hal : rdOf false a row[j] = true
      · rw [if_pos hal, hal, Bool.true_or]
      · rw [if_neg hal, Bool.eq_false_iff.2 hal, Bool.false_or]
    · rw [if_neg hi] at hf
      rw [hf rfl]
      refine Ev.step (f := fun _ => some (([] : List Int), false)) (fun k => ?_) (Ev.now _)
      simp only [impl_Sprouts_degrees.l1]
      rw [if_pos (by omega), if_pos (by omega), if_pos (by omega), rd_get row j hlt, within_val, hw, Bool.eq_false_iff.2 hi, Option.bind_some, if_neg (by simp)]
theorem degFin_some {n : Int} (h2 : n ≤ 20) (c : List Int) (a : List Bool) (hc : c.length = n.toNat) (ha : a.length = n.toNat) : degFin (some (c, a)) = match degLast a c.length 0 c with | some c' => (c', true) | none => ([], false) := rfl
/-- All rows, the program's. -/
theorem impl_l0 {n : Int} (h1 : 1 ≤ n) (h2 : n ≤ 20) (l : List (List (List Int))) (X : List (List Int)) (hX : X.length ≤ 1048576) (hx : ∀ y ∈ X, y.length ≤ 1048576) : ∀ (d i : Nat) (c : List Int) (a : List Bool), i + d = X.length → c.length = n.toNat → a.length = n.toNat →
    Ev (fun k => impl_Sprouts_degrees.l0 k c a X (X.length : Int) i n l) (degFin (degRows n (X.drop i) c a)) := by
  intro d
  induction d with
  | zero =>
    intro i c a hi hc ha
    rw [List.drop_of_length_le (by omega)]
    have := impl_l2 a c.length 0 c (by omega) (by omega) (by omega)
    refine Ev.step (fun k => ?_) this
    simp only [impl_Sprouts_degrees.l0]
    rw [if_neg (by omega), hc, ha]; rfl
  | succ d ih =>
    intro i c a hi hc ha
    have hlt : i < X.length := by omega
    rw [List.drop_eq_getElem_cons hlt]
    simp only [degRows]
    have hm := hx _ (List.getElem_mem hlt)
    refine Ev.step (f := fun k => impl_Sprouts_degrees.l1 k c a X (X.length : Int) i X[i] (X[i].length : Int) ((0 : Nat) : Int) n l) (fun k => ?_) (impl_l1 h1 h2 l X X.length i X[i] hm _ X[i].length 0 c a (by omega) hc ha (fun c' a' hd hc' ha' => ?_) (fun hd => ?_))
    · simp only [impl_Sprouts_degrees.l0]
      rw [if_pos (by omega), if_pos (by omega), if_pos (by omega), rdL_get X i hlt]; rfl
    · rw [List.drop_zero] at hd
      by_cases h0 : X[i].length = 0
      · rw [if_pos h0]
        refine Ev.congr (f := fun _ => some (([] : List Int), false)) (fun k => by rw [if_pos (by omega)]) (Ev.now _)
      · rw [if_neg h0, hd, Option.bind_some, wrap_next hlt (by omega)]
        refine Ev.congr (fun k => by rw [if_neg (by omega)]) (ih (i + 1) c' a' (by omega) hc' ha')
    · rw [List.drop_zero] at hd
      by_cases h0 : X[i].length = 0
      · rw [if_pos h0]; rfl
      · rw [if_neg h0, hd]; rfl
/-- The rows of one region, the reference's. -/
theorem spec_l1 {n : Int} (h1 : 1 ≤ n) (h2 : n ≤ 20) (l : List (List (List Int))) (hl : l.length ≤ 1048576) (hx : ∀ x ∈ l, x.length ≤ 1048576 ∧ ∀ y ∈ x, y.length ≤ 1048576) (r : Nat) (hr : r < l.length)
    (hnext : ∀ (c : List Int) (a : List Bool), c.length = n.toNat → a.length = n.toNat → Ev (fun k => spec_l02Degrees.l0 k c a ((r + 1 : Nat) : Int) n l) (degFin (degRows n (l.drop (r + 1)).flatten c a))) : ∀ (d b : Nat) (c : List Int) (a : List Bool), b + d = l[r].length → c.length = n.toNat → a.length = n.toNat →
    Ev (fun k => spec_l02Degrees.l1 k c a r b n l) (degFin (degRows n (l[r].drop b ++ (l.drop (r + 1)).flatten) c a)) := by
  have hxr := hx _ (List.getElem_mem hr)
  intro d
  induction d with
  | zero =>
    intro b c a hb hc ha
    rw [List.drop_of_length_le (by omega), List.nil_append]
    refine Ev.step (fun k => ?_) (hnext c a hc ha)
    simp only [spec_l02Degrees.l1]
    rw [if_pos (by omega), if_pos (by omega), rdLL_get l r hr, if_neg (by omega), wrap_next hr (by omega)]
  | succ d ih =>
    intro b c a hb hc ha
    have hlt : b < l[r].length := by omega
    rw [List.drop_eq_getElem_cons hlt, List.cons_append]
    simp only [degRows]
    have hm := hxr.2 _ (List.getElem_mem hlt)
    by_cases h0 : l[r][b].length = 0
    · rw [if_pos h0]
      refine Ev.step (f := fun _ => some (([] : List Int), false)) (fun k => ?_) (Ev.now _)
      simp only [spec_l02Degrees.l1]
      rw [if_pos (by omega), if_pos (by omega), rdLL_get l r hr, if_pos (by omega), if_pos (by omega), rdL_get _ b hlt, if_pos (by omega)]
    · rw [if_neg h0]
      refine Ev.step (f := fun k => spec_l02Degrees.l2 k c a r b l[r][b] ((0 : Nat) : Int) n l) (fun k => ?_) (spec_l2 h1 h2 l r b l[r][b] hm _ l[r][b].length 0 c a (by omega) hc ha (fun c' a' hd hc' ha' => ?_) (fun hd => ?_))
      · simp only [spec_l02Degrees.l1]
        rw [if_pos (by omega), if_pos (by omega), rdLL_get l r hr, if_pos (by omega), if_pos (by omega), rdL_get _ b hlt, if_neg (by omega)]; rfl
      · rw [List.drop_zero] at hd
        rw [hd, Option.bind_some, wrap_next hlt (by omega)]
        exact ih (b + 1) c' a' (by omega) hc' ha'
      · rw [List.drop_zero] at hd
        rw [hd]; rfl
theorem spec_l0 {n : Int} (h1 : 1 ≤ n) (h2 : n ≤ 20) (l : List (List (List Int))) (hl : l.length ≤ 1048576) (hx : ∀ x ∈ l, x.length ≤ 1048576 ∧ ∀ y ∈ x, y.length ≤ 1048576) : ∀ (d r : Nat) (c : List Int) (a : List Bool), r + d = l.length → c.length = n.toNat → a.length = n.toNat →
    Ev (fun k => spec_l02Degrees.l0 k c a r n l) (degFin (degRows n (l.drop r).flatten c a)) := by
  intro d
  induction d with
  | zero =>
    intro r c a hr hc ha
    rw [List.drop_of_length_le (by omega)]
    have := spec_l3 a c.length 0 c (by omega) (by omega) (by omega)
    refine Ev.step (fun k => ?_) this
    simp only [spec_l02Degrees.l0]
    rw [if_neg (by omega)]; rfl
  | succ d ih =>
    intro r c a hr hc ha
    have hlt : r < l.length := by omega
    rw [List.drop_eq_getElem_cons hlt, List.flatten_cons]
    have := spec_l1 h1 h2 l hl hx r hlt (fun c a hc ha => ih (r + 1) c a (by omega) hc ha) l[r].length 0 c a (by omega) hc ha
    rw [List.drop_zero] at this
    refine Ev.step (fun k => ?_) this
    simp only [spec_l02Degrees.l0]
    rw [if_pos (by omega)]; rfl
theorem specDegrees_ev (n : Int) (l : List (List (List Int))) (hl : l.length ≤ 1048576) (hx : ∀ x ∈ l, x.length ≤ 1048576 ∧ ∀ y ∈ x, y.length ≤ 1048576) : Ev (fun k => spec_l02Degrees.f k n l) (degV n l) := by
  unfold degV
  by_cases hn : inW n 1 20 = true
  · have hb := (inW_bool _ _ _).1 hn
    by_cases h0 : l.length = 0
    · rw [if_neg (fun h => h.2 h0)]
      refine Ev.congr (f := fun k => spec_l02Degrees.j0 k true n l) (fun k => ?_) (Ev.step (f := fun _ => some (([] : List Int), false)) (fun k => by simp only [spec_l02Degrees.j0]; rw [if_pos trivial]) (Ev.now _))
      unfold spec_l02Degrees.f
      rw [in_inW, hn, Option.bind_some, if_pos rfl, decide_eq_true (by omega)]
    · rw [if_pos ⟨hn, h0⟩]
      refine Ev.congr (f := fun k => spec_l02Degrees.j0 k false n l) (fun k => ?_) (Ev.step (fun k => ?_) (spec_l0 hb.1 hb.2 l hl hx l.length 0 _ _ (by omega) (List.length_replicate) (List.length_replicate)))
      · unfold spec_l02Degrees.f
        rw [in_inW, hn, Option.bind_some, if_pos rfl, decide_eq_false (by omega)]
      · simp only [spec_l02Degrees.j0]
        rw [if_neg (by simp), if_pos (by omega), if_pos (by omega), if_pos (by omega)]; rfl
  · rw [if_neg (fun h => hn h.1)]
    refine Ev.congr (f := fun k => spec_l02Degrees.j0 k true n l) (fun k => ?_) (Ev.step (f := fun _ => some (([] : List Int), false)) (fun k => by simp only [spec_l02Degrees.j0]; rw [if_pos trivial]) (Ev.now _))
    unfold spec_l02Degrees.f
    rw [in_inW, Bool.eq_false_iff.2 hn, Option.bind_some, if_neg (by simp)]
theorem flat_mem {l : List (List (List Int))} (hx : ∀ x ∈ l, x.length ≤ 1048576 ∧ ∀ y ∈ x, y.length ≤ 1048576) : ∀ y ∈ l.flatten, y.length ≤ 1048576 := fun y hy => by
  obtain ⟨x, hm, hy⟩ := List.mem_flatten.1 hy
  exact (hx x hm).2 y hy
theorem implDegrees_ev (n : Int) (l : List (List (List Int))) (hf : l.flatten.length ≤ 1048576) (hx : ∀ x ∈ l, x.length ≤ 1048576 ∧ ∀ y ∈ x, y.length ≤ 1048576) : Ev (fun k => impl_Sprouts_degrees.f k n l) (degV n l) := by
  unfold degV
  by_cases hn : inW n 1 20 = true
  · have hb := (inW_bool _ _ _).1 hn
    by_cases h0 : l.length = 0
    · rw [if_neg (fun h => h.2 h0)]
      refine Ev.congr (f := fun k => impl_Sprouts_degrees.j0 k true n l) (fun k => ?_) (Ev.step (f := fun _ => some (([] : List Int), false)) (fun k => by simp only [impl_Sprouts_degrees.j0]; rw [if_pos trivial]) (Ev.now _))
      unfold impl_Sprouts_degrees.f
      rw [within_val, hn, Option.bind_some, if_pos rfl, h0]; rfl
    · rw [if_pos ⟨hn, h0⟩]
      have h00 : ((l.length : Int) == 0) = false := beq_eq_false_iff_ne.2 (by omega)
      refine Ev.congr (f := fun k => impl_Sprouts_degrees.j0 k false n l) (fun k => ?_) (Ev.step (fun k => ?_) (impl_l0 hb.1 hb.2 l l.flatten hf (flat_mem hx) l.flatten.length 0 _ _ (by omega) (List.length_replicate) (List.length_replicate)))
      · unfold impl_Sprouts_degrees.f
        rw [within_val, hn, Option.bind_some, if_pos rfl, h00]
      · simp only [impl_Sprouts_degrees.j0]
        rw [if_neg (by simp), if_pos (by omega), if_pos (by omega), if_pos (by omega)]
        unfold slices_Concat_int64_int64_112.f
        rw [if_pos (by omega), Option.bind_some]; rfl
  · rw [if_neg (fun h => hn h.1)]
    refine Ev.congr (f := fun k => impl_Sprouts_degrees.j0 k true n l) (fun k => ?_) (Ev.step (f := fun _ => some (([] : List Int), false)) (fun k => by simp only [impl_Sprouts_degrees.j0]; rw [if_pos trivial]) (Ev.now _))
    unfold impl_Sprouts_degrees.f
    rw [within_val, Bool.eq_false_iff.2 hn, Option.bind_some, if_neg (by simp)]
-- needs: 71 98 68 (endings, in plain words)
/-- Ascending, from the end. -/
def upTo (l : List Int) : Nat → Bool
  | 0 => true
  | i + 1 => upTo l i && (i == 0 || decide (rd l ((i - 1 : Nat) : Int) ≤ rd l (i : Int)))
theorem upTo_all (l : List Int) : ∀ m, upTo l m = true ↔ ∀ i, 0 < i → i < m → rd l ((i - 1 : Nat) : Int) ≤ rd l (i : Int)
  | 0 => by simp [upTo]
  | m + 1 => by
    simp only [upTo, Bool.and_eq_true, Bool.or_eq_true, beq_iff_eq, decide_eq_true_eq]
    rw [upTo_all l m]
    constructor
    · rintro ⟨h1, h2⟩ i h0 hi
      rcases Nat.lt_or_ge i m with h | h
      · exact h1 i h0 h
      · obtain rfl : i = m := by omega
        rcases h2 with h2 | h2
        · omega
        · exact h2
    · intro h
      refine ⟨fun i h0 hi => h i h0 (by omega), ?_⟩
      rcases Nat.eq_zero_or_pos m with h0 | h0
      · exact .inl h0
      · exact .inr (h m h0 (by omega))
def sizesV (l : List Int) (n : Int) : Bool := upTo l l.length && !l.any (fun c => !inW c n 30)
theorem less_val (a b : Int) : cmp_Less_int64.f a b = some (decide (a < b)) := by
  unfold cmp_Less_int64.f cmp_isNaN_int64.f
  rw [Option.bind_some, if_neg (by simp)]
theorem sorted_l0 (l : List Int) (hl : l.length ≤ 1048576) : ∀ (i : Nat), i < l.length → (∀ j, i < j → j < l.length → rd l ((j - 1 : Nat) : Int) ≤ rd l (j : Int)) → Ev (fun k => slices_IsSorted_int64_int64.l0 k l i) (upTo l l.length) := by
  intro i
  induction i with
  | zero =>
    intro hi h
    refine Ev.step (f := fun _ => some _) (fun k => ?_) (Ev.now _)
    simp only [slices_IsSorted_int64_int64.l0]
    rw [if_neg (by omega), (upTo_all l l.length).2 h]
  | succ i ih =>
    intro hi h
    have hw : wrap64 (((i + 1 : Nat) : Int) - 1) = (i : Int) := by unfold wrap64; omega
    by_cases hc : rd l ((i + 1 : Nat) : Int) < rd l (i : Int)
    · have hn : upTo l l.length = false := by
        cases e : upTo l l.length
        · rfl
        · have := (upTo_all l l.length).1 e (i + 1) (by omega) hi
          rw [Nat.add_sub_cancel] at this
          omega
      rw [hn]
      refine Ev.step (f := fun _ => some false) (fun k => ?_) (Ev.now _)
      simp only [slices_IsSorted_int64_int64.l0]
      rw [if_pos (by omega), if_pos (by omega), if_pos (by omega), hw, if_pos (by omega), if_pos (by omega), less_val, Option.bind_some, decide_eq_true hc, if_pos rfl]
    · have := ih (by omega) (fun j h0 hj => by
        rcases Nat.lt_or_ge (i + 1) j with h2 | h2
        · exact h j h2 hj
        · obtain rfl : j = i + 1 := by omega
          rw [Nat.add_sub_cancel]; omega)
      refine Ev.step (fun k => ?_) this
      simp only [slices_IsSorted_int64_int64.l0]
      rw [if_pos (by omega), if_pos (by omega), if_pos (by omega), hw, if_pos (by omega), if_pos (by omega), less_val, Option.bind_some, decide_eq_false hc, if_neg (by simp)]
theorem sorted_ev (l : List Int) (hl : l.length ≤ 1048576) : Ev (fun k => slices_IsSorted_int64_int64.f k l) (upTo l l.length) := by
  unfold slices_IsSorted_int64_int64.f
  rcases Nat.eq_zero_or_pos l.length with h0 | h0
  · rw [h0]
    refine Ev.step (f := fun _ => some true) (fun k => ?_) (Ev.now _)
    simp only [slices_IsSorted_int64_int64.l0]
    rw [if_neg (by unfold wrap64; omega)]
  · have e : wrap64 ((l.length : Int) - 1) = ((l.length - 1 : Nat) : Int) := by unfold wrap64; omega
    rw [e]
    exact sorted_l0 l hl (l.length - 1) (by omega) (fun j h1 h2 => by omega)
theorem sizes_ev (l : List Int) (n : Int) (hl : l.length ≤ 1048576) : Ev (fun k => impl_areSizes.f k l n) (sizesV l n) := by
  unfold impl_areSizes.f
  exact Ev.bind (sorted_ev l hl) (Ev.now _)
theorem ascends_l0 (l : List Int) (n : Int) (hl : l.length ≤ 1048576) : ∀ (d i : Nat), i + d = l.length → upTo l i = true → (∀ c ∈ l.take i, inW c n 30 = true) → Ev (fun k => spec_l04Ascends.l0 k l n i) (sizesV l n) := by
  intro d
  induction d with
  | zero =>
    intro i hi hu ht
    obtain rfl : i = l.length := by omega
    rw [List.take_length] at ht
    have hn : (l.any fun c => !inW c n 30) = false := by
      rw [List.any_eq_false]
      intro c hc
      rw [ht c hc]; simp
    refine Ev.step (f := fun _ => some true) (fun k => ?_) (Ev.congr (fun _ => by unfold sizesV; rw [hu, hn]; rfl) (Ev.now _))
    simp only [spec_l04Ascends.l0]
    rw [if_neg (by omega)]
  | succ d ih =>
    intro i hi hu ht
    have hlt : i < l.length := by omega
    by_cases hw : inW l[i] n 30 = true
    · have ht2 : ∀ c ∈ l.take (i + 1), inW c n 30 = true := fun c hc => by
        rw [List.take_succ_eq_append_getElem hlt] at hc
        rcases List.mem_append.1 hc with h | h
        · exact ht c h
        · rw [List.mem_singleton.1 h]; exact hw
      rcases Nat.eq_zero_or_pos i with h0 | h0
      · subst h0
        refine Ev.step (fun k => ?_) (ih 1 (by omega) (by simp [upTo]) ht2)
        simp only [spec_l04Ascends.l0]
        rw [if_pos (by omega), if_pos (by omega), rd_get l 0 hlt, in_inW, hw, Option.bind_some, if_pos rfl, if_neg (by omega), wrap_next hlt (by omega)]
      · have e : wrap64 ((i : Int) - 1) = ((i - 1 : Nat) : Int) := by unfold wrap64; omega
        by_cases hc : rd l ((i - 1 : Nat) : Int) > rd l (i : Int)
        · have hn : upTo l l.length = false := by
            cases e2 : upTo l l.length
            · rfl
            · have := (upTo_all l l.length).1 e2 i h0 hlt
              omega
          refine Ev.step (f := fun _ => some false) (fun k => ?_) (Ev.congr (fun _ => by unfold sizesV; rw [hn]; rfl) (Ev.now _))
          simp only [spec_l04Ascends.l0]
          rw [e, if_pos (by omega), if_pos (by omega), if_pos hc, rd_get l i hlt, in_inW, hw, Option.bind_some, if_pos rfl, if_pos (by omega), if_pos (by omega), if_pos (by omega)]
        · have hu2 : upTo l (i + 1) = true := by
            simp only [upTo, hu, Bool.true_and, Bool.or_eq_true, decide_eq_true_eq]
            exact .inr (by omega)
          refine Ev.step (fun k => ?_) (ih (i + 1) (by omega) hu2 ht2)
          simp only [spec_l04Ascends.l0]
          rw [e, if_pos (by omega), if_pos (by omega), if_neg hc, rd_get l i hlt, in_inW, hw, Option.bind_some, if_pos rfl, if_pos (by omega), if_pos (by omega), if_pos (by omega), wrap_next hlt (by omega)]
    · have hn : (l.any fun c => !inW c n 30) = true := List.any_eq_true.2 ⟨l[i], List.getElem_mem hlt, by rw [Bool.eq_false_iff.2 hw]; rfl⟩
      refine Ev.step (f := fun _ => some false) (fun k => ?_) (Ev.congr (fun _ => by unfold sizesV; rw [hn]; simp) (Ev.now _))
      simp only [spec_l04Ascends.l0]
      rw [if_pos (by omega), if_pos (by omega), rd_get l i hlt, in_inW, Bool.eq_false_iff.2 hw, Option.bind_some, if_neg (by simp)]
theorem ascends_ev (l : List Int) (n : Int) (hl : l.length ≤ 1048576) : Ev (fun k => spec_l04Ascends.f k l n) (sizesV l n) := by
  unfold spec_l04Ascends.f
  exact ascends_l0 l n hl l.length 0 (by omega) rfl (by simp)
def endingV (a b : List Int) : Bool := sizesV a 1 && sizesV b 4 && decide (wrap64 ((a.length : Int) + (b.length : Int)) ≤ 8)
theorem specEnding_ev (a b : List Int) (ha : a.length ≤ 1048576) (hb : b.length ≤ 1048576) : Ev (fun k => spec_l04Is.f k a b) (endingV a b) := by
  unfold endingV
  by_cases h : wrap64 ((a.length : Int) + (b.length : Int)) ≤ 8
  · rw [decide_eq_true h, Bool.and_true]
    refine Ev.congr (f := fun k => (spec_l04Ascends.f k a 1).bind fun t => if t = true then (spec_l04Ascends.f k b 4).bind fun t2 => some t2 else some false) (fun k => by unfold spec_l04Is.f; rw [if_pos h]) (Ev.bind (ascends_ev a 1 ha) ?_)
    cases e : sizesV a 1 with
    | true => exact Ev.congr (fun k => by rw [if_pos rfl]) (Ev.bind (ascends_ev b 4 hb) (Ev.congr (fun k => by rw [Bool.true_and]) (Ev.now _)))
    | false => exact Ev.congr (fun k => by rw [if_neg (by simp)]; simp) (Ev.now _)
  · rw [decide_eq_false h, Bool.and_false]
    exact Ev.congr (fun k => by unfold spec_l04Is.f; rw [if_neg h]) (Ev.now _)
theorem implEnding_ev (a b : List Int) (ha : a.length ≤ 1048576) (hb : b.length ≤ 1048576) : Ev (fun k => impl_IsEnding.f k a b) (endingV a b) := by
  unfold endingV impl_IsEnding.f
  refine Ev.bind (sizes_ev a 1 ha) ?_
  cases e : sizesV a 1 with
  | true =>
    refine Ev.congr (fun k => by rw [if_pos rfl]) (Ev.bind (sizes_ev b 4 hb) ?_)
    cases e2 : sizesV b 4 with
    | true => exact Ev.congr (fun k => by rw [if_pos rfl, Bool.true_and, Bool.true_and]) (Ev.now _)
    | false => exact Ev.congr (fun k => by rw [if_neg (by simp)]; simp) (Ev.now _)
  | false => exact Ev.congr (fun k => by rw [if_neg (by simp)]; simp) (Ev.now _)
/-- The one pure statement of laws_FnExactIsDesk. -/
def laws_FnExactIsDesk.Pure : Prop := ∀ (a0_0 : Int) (l0_1 : List (List (List Int))) (l0_2 : List Int) (l0_3 : List Int) (a0_4 : Int) (l0_5 : List Int), (Lit.int .i64 a0_0).wf = true → (l0_1.length ≤ maxLen ∧ ∀ y2_ ∈ l0_1, (y2_.length ≤ maxLen ∧ ∀ y3_ ∈ y2_, (y3_.length ≤ maxLen ∧ ∀ y4_ ∈ y3_, (Lit.int .i64 y4_).wf = true))) → (l0_2.length ≤ maxLen ∧ ∀ y5_ ∈ l0_2, (Lit.int .i64 y5_).wf = true) → (l0_3.length ≤ maxLen ∧ ∀ y6_ ∈ l0_3, (Lit.int .i64 y6_).wf = true) → (Lit.int .i64 a0_4).wf = true → (l0_5.length ≤ maxLen ∧ ∀ y7_ ∈ l0_5, (Lit.int .i64 y7_).wf = true) → ∃ k, laws_FnExactIsDesk.f k a0_0 l0_1 l0_2 l0_3 a0_4 l0_5 = some true
/-- A type's readings as data are values of a kind: what an argument of that type is, whatever it holds. -/
def Rdb {α : Type} (P : Program) (t : TypeId) (d : Kd α) (wf : α → Prop) : Prop :=
  ∀ (H : Type) (enc : TypeId × Value → H) (w : World) (base : Nat) (spare : Nat → Bool) (held : Bool) (fuel : Nat) (cs : List Value) (x : DataW H × List MemPlace),
    DataW.trod enc P w base spare held fuel t cs = some x → ∃ a : α, d.K w a cs ∧ wf a
theorem Rdb.int {P : Program} {t : TypeId} {k : IntKind} (ht : P.underlying t = some (.int k)) : Rdb P t (Kd.int k) (fun n => (Lit.int k n).wf = true) := by
  intro H enc w base spare held fuel cs x h
  obtain ⟨n, rfl, _, hw⟩ := DataW.trod_int ht h
  exact ⟨n, rfl, hw⟩
theorem Rdb.bool {P : Program} {t : TypeId} (ht : P.underlying t = some .bool) : Rdb P t Kd.bool (fun _ => True) := by
  intro H enc w base spare held fuel cs x h
  obtain ⟨n, rfl, _⟩ := DataW.trod_bool ht h
  exact ⟨n, rfl, trivial⟩
theorem Rdb.string {P : Program} {t : TypeId} (ht : P.underlying t = some .string) : Rdb P t Kd.string (fun s => s.size ≤ maxLen) := by
  intro H enc w base spare held fuel cs x h
  obtain ⟨s, rfl, _, hs⟩ := DataW.trod_string ht h
  exact ⟨s, rfl, hs⟩
theorem list_choose {α β : Type} {R : Nat → α → β → Prop} : ∀ (n : Nat) (xs : List α), xs.length = n → (∀ i x, xs[i]? = some x → ∃ y, R i x y) → ∃ ys : List β, ys.length = n ∧ ∀ i x y, xs[i]? = some x → ys[i]? = some y → R i x y := by
  intro n xs
  induction xs generalizing n R with
  | nil =>
    intro hl _
    exact ⟨[], by simpa using hl, by intro i x y h; simp at h⟩
  | cons x xs ih =>
    intro hl h
    obtain ⟨y, hy⟩ := h 0 x rfl
    obtain ⟨ys, h1, h2⟩ := ih (R := fun i a b => R (i + 1) a b) (n - 1) (by simp at hl; omega) (fun i a hi => h (i + 1) a (by simpa using hi))
    refine ⟨y :: ys, by simp at hl ⊢; omega, fun i a b ha hb => ?_⟩
    cases i with
    | zero =>
      simp at ha hb
      subst ha hb
      exact hy
    | succ i => exact h2 i a b (by simpa using ha) (by simpa using hb)
theorem Rdb.slice {α : Type} {P : Program} {t e : TypeId} {d : Kd α} {wf : α → Prop} (ht : P.underlying t = some (.slice e)) (hc : P.cellsOf e = d.sz) (h1 : 0 < d.sz) (r : Rdb P e d wf) :
    Rdb P t (Kd.slice e d) (fun l => l.length ≤ maxLen ∧ ∀ x ∈ l, wf x) := by
  intro H enc w base spare held fuel cs x h
  rcases DataW.trod_slice ht h with ⟨rfl, _⟩ | ⟨a, len, cap, elems, rest, n, _, rfl, _, hb, hl, hm, hlen, hel, _, _⟩
  · exact ⟨[], ⟨none, 0, rfl, by simp, Kd.C_nil _ _⟩, by simp, by simp⟩
  · have each : ∀ i (y : DataW H × List MemPlace), elems[i]? = some y → ∃ b : α, ∃ c, w.cells? base (a.add (i * P.cellsOf e)) (P.cellsOf e) = some c ∧ d.K w b c ∧ wf b := by
      intro i y hy
      have hi : i < len := by have := (List.getElem?_eq_some_iff.1 hy).1; omega
      have h2 := hel i hi
      rw [hy, Option.bind_eq_some_iff] at h2
      obtain ⟨c, hcs, htr⟩ := h2
      obtain ⟨b, hK, hw⟩ := r H enc w base spare held n c y htr
      exact ⟨b, c, hcs, hK, hw⟩
    obtain ⟨xs, hx1, hx2⟩ := list_choose (R := fun i _ (b : α) => ∃ c, w.cells? base (a.add (i * P.cellsOf e)) (P.cellsOf e) = some c ∧ d.K w b c ∧ wf b) len elems hlen each
    have get : ∀ i b, xs[i]? = some b → ∃ c, w.cells? base (a.add (i * P.cellsOf e)) (P.cellsOf e) = some c ∧ d.K w b c ∧ wf b := by
      intro i b hb'
      have hi : i < elems.length := by have := (List.getElem?_eq_some_iff.1 hb').1; omega
      exact hx2 i _ b (List.getElem?_eq_getElem hi) hb'
    refine ⟨xs, ⟨some a, cap, by rw [hx1], by omega, ?_⟩, by omega, fun b hb' => ?_⟩
    · refine ⟨rfl, by rw [hx1]; unfold maxLen at hm; omega, fun hp => ⟨a, rfl, fun j b hj => ?_⟩⟩
      obtain ⟨c, hcs, hK, _⟩ := get j b hj
      obtain ⟨_, hcl, hcell⟩ := World.cells?_some hcs
      refine ⟨c, by rw [hcl, hc], hK, fun i u hu => ?_⟩
      have hi : i < P.cellsOf e := by have := (List.getElem?_eq_some_iff.1 hu).1; omega
      have := hcell i hi
      rw [hu] at this
      rw [Addr.add_add] at this
      rw [← hc]
      exact this
    · obtain ⟨i, hi⟩ := List.mem_iff_getElem?.1 hb'
      obtain ⟨_, _, _, hw⟩ := get i b hi
      exact hw
theorem take_all {α : Type} {cs : List α} {n : Nat} (h : cs.length = n) : cs.take n = cs := by rw [← h, List.take_length]
theorem Rdb.struct1 {α : Type} {P : Program} {t : TypeId} {f0 : Field} {d0 : Kd α} {w0 : α → Prop} (ht : P.underlying t = some (.struct #[f0])) (o0 : f0.offset = 0) (c0 : P.cellsOf f0.type = P.cellsOf t) (r0 : Rdb P f0.type d0 w0) : Rdb P t d0 w0 := by
  intro H enc w base spare held fuel cs x h
  obtain ⟨y0, n, _, hl, h0⟩ := ChangeShapes.trod_struct1 ht h
  rw [o0, List.drop_zero, c0, take_all hl] at h0
  exact r0 H enc w base spare held n cs y0 h0
theorem Rdb.struct2 {α β : Type} {P : Program} {t : TypeId} {f0 f1 : Field} {d0 : Kd α} {d1 : Kd β} {w0 : α → Prop} {w1 : β → Prop} (ht : P.underlying t = some (.struct #[f0, f1])) (o0 : f0.offset = 0) (o1 : f1.offset = P.cellsOf f0.type) (cT : P.cellsOf t = P.cellsOf f0.type + P.cellsOf f1.type)
    (r0 : Rdb P f0.type d0 w0) (r1 : Rdb P f1.type d1 w1) : Rdb P t (Kd.pair d0 d1) (fun x => w0 x.1 ∧ w1 x.2) := by
  intro H enc w base spare held fuel cs x h
  obtain ⟨y0, y1, n, _, hl, h0, h1⟩ := ChangeShapes.trod_struct2 ht h
  rw [o0, List.drop_zero] at h0
  rw [o1, List.take_of_length_le (by rw [List.length_drop, hl, cT]; omega)] at h1
  obtain ⟨a, hK0, hw0⟩ := r0 H enc w base spare held n _ y0 h0
  obtain ⟨b, hK1, hw1⟩ := r1 H enc w base spare held n _ y1 h1
  exact ⟨(a, b), ⟨_, _, (List.take_append_drop _ _).symm, hK0, hK1⟩, hw0, hw1⟩
theorem Rdb.struct3 {α β γ : Type} {P : Program} {t : TypeId} {f0 f1 f2 : Field} {d0 : Kd α} {d1 : Kd β} {d2 : Kd γ} {w0 : α → Prop} {w1 : β → Prop} {w2 : γ → Prop} (ht : P.underlying t = some (.struct #[f0, f1, f2])) (o0 : f0.offset = 0) (o1 : f1.offset = P.cellsOf f0.type)
    (o2 : f2.offset = P.cellsOf f0.type + P.cellsOf f1.type) (cT : P.cellsOf t = P.cellsOf f0.type + P.cellsOf f1.type + P.cellsOf f2.type)
    (r0 : Rdb P f0.type d0 w0) (r1 : Rdb P f1.type d1 w1) (r2 : Rdb P f2.type d2 w2) : Rdb P t (Kd.pair d0 (Kd.pair d1 d2)) (fun x => w0 x.1 ∧ w1 x.2.1 ∧ w2 x.2.2) := by
  intro H enc w base spare held fuel cs x h
  obtain ⟨xs, n, _, _, hl, hxl, hf⟩ := DataW.trod_struct ht h
  match xs, hxl with
  | [y0, y1, y2], _ =>
    have h0 : DataW.trod enc P w base spare held n f0.type ((cs.drop f0.offset).take (P.cellsOf f0.type)) = some y0 := by simpa using hf 0 f0 rfl
    have h1 : DataW.trod enc P w base spare held n f1.type ((cs.drop f1.offset).take (P.cellsOf f1.type)) = some y1 := by simpa using hf 1 f1 rfl
    have h2 : DataW.trod enc P w base spare held n f2.type ((cs.drop f2.offset).take (P.cellsOf f2.type)) = some y2 := by simpa using hf 2 f2 rfl
    rw [o0, List.drop_zero] at h0
    rw [o1] at h1
    rw [o2, List.take_of_length_le (by rw [List.length_drop, hl, cT]; omega)] at h2
    obtain ⟨a, hK0, hw0⟩ := r0 H enc w base spare held n _ y0 h0
    obtain ⟨b, hK1, hw1⟩ := r1 H enc w base spare held n _ y1 h1
    obtain ⟨c, hK2, hw2⟩ := r2 H enc w base spare held n _ y2 h2
    refine ⟨(a, b, c), ⟨_, _, (List.take_append_drop (P.cellsOf f0.type) cs).symm, hK0, _, _, ?_, hK1, hK2⟩, hw0, hw1, hw2⟩
    rw [← List.drop_drop, List.take_append_drop]
theorem Rdb.iso {α β : Type} {P : Program} {t : TypeId} {d : Kd α} {wf : α → Prop} (r : Rdb P t d wf) (f : β → α) (g : α → β) (hfg : ∀ a, f (g a) = a) : Rdb P t (Kd.iso d f) (fun b => wf (f b)) := by
  intro H enc w base spare held fuel cs x h
  obtain ⟨a, hK, hw⟩ := r H enc w base spare held fuel cs x h
  exact ⟨g a, by show d.K w (f (g a)) cs; rw [hfg]; exact hK, by show wf (f (g a)); rw [hfg]; exact hw⟩
theorem Rdb.of {α : Type} {P : Program} {t : TypeId} {d : Kd α} {wf : α → Prop} (r : Rdb P t d wf) {H : Type} {enc : TypeId × Value → H} {w : World} {base : Nat} {spare : Nat → Bool} {held : Bool} {v : Value} {x : DataW H} {ps : List MemPlace}
    (h : DataW.Trod enc P w base spare held t v x ps) : ∃ a : α, d.K w a v.cells.toList ∧ wf a := by
  obtain ⟨fuel, hf⟩ := h
  exact r H enc w base spare held fuel _ _ hf

end Go.Proofs.Ytpfhepbkgbeapaa.F
