-- written by the session's program xp.py over the kit's print program, and by hand; texts joined by pack.py
import Derived.Test.YtcjeccohlmmfoaaDoorKFnExactStateMoves4
namespace Go.Proofs.YtcjeccohlmmfoaaDoor.F
open Go.RowKit Go.Proofs.YtcjeccohlmmfoaaDoorW.PrintWords Go.Proofs.YtcjeccohlmmfoaaDoorW.PrintLast Go.Proofs.YtcjeccohlmmfoaaDoorW.PrintMore
attribute [local go_sem] max2_int min2_int max_two min_two max_three min_three max_four min_four   -- for this text's walks alone
set_option linter.unusedVariables false
set_option linter.unusedSimpArgs false

/-! ### laws_FnExactStateMoves: function 7 -/
mutual
def laws_FnExactStateMoves.j0 : Nat → ByteArray → Bool → List Int → Int → List Int → Int → Bool → Int → List (List Int) → Int → List (List Int) → Option (Bool)
 | 0, _, _, _, _, _, _, _, _, _, _, _ => none
 | k + 1, x1, x2, x8, x9, x11, x12, x51, x347000, x347001, x361000, x361001 => if x51 = true then (some false) else ((laws_toNet.f k x347000 x347001).bind fun bt366 => ((laws_eqNet.f k x361000 x361001 bt366.1 bt366.2).bind fun t370 => (if t370 = true then ((laws_markNet.f k x361000 x361001 1).bind fun bt371 => (if bt371.1 < 0 then (laws_FnExactStateMoves.j1 k x1 x2 x8 x9 x11 true x347000 x347001) else ((laws_eqInt64S.f k x11 x8).bind fun t373 => (if t373 = true then (laws_FnExactStateMoves.j1 k x1 x2 x8 x9 x11 (x12 != x9) x347000 x347001) else (laws_FnExactStateMoves.j1 k x1 x2 x8 x9 x11 true x347000 x347001))))) else (some false))))
def laws_FnExactStateMoves.j1 : Nat → ByteArray → Bool → List Int → Int → List Int → Bool → Int → List (List Int) → Option (Bool)
 | 0, _, _, _, _, _, _, _, _ => none
 | k + 1, x1, x2, x8, x9, x11, x72, x347000, x347001 => if x72 = true then (some false) else ((laws_markInt64S.f k x11 1).bind fun bt374 => ((laws_heldInt64S.f k bt374.2 1).bind fun t376 => (if t376 < 0 then (some false) else (if t376 = bt374.1 then ((laws_toNet.f k x347000 x347001).bind fun bt377 => ((impl_StateMoves.f k bt377.1 bt377.2 x1 x2).bind fun bt381 => ((laws_eqInt64S.f k bt381.1 x8).bind fun t385 => (if t385 = true then (laws_FnExactStateMoves.j2 k bt374.2 bt374.1 (bt381.2 != x9)) else (laws_FnExactStateMoves.j2 k bt374.2 bt374.1 true))))) else (some false)))))
def laws_FnExactStateMoves.j2 : Nat → List Int → Int → Bool → Option (Bool)
 | 0, _, _, _ => none
 | k + 1, x11, x14, x100 => if x100 = true then (some false) else ((laws_heldInt64S.f k x11 1).bind fun t386 => (if t386 < 0 then (some false) else (if t386 = x14 then (some true) else (some false))))
end
def laws_FnExactStateMoves.f (k : Nat) (a0_0 : Int) (l0_1 : List (List Int)) (a1 : ByteArray) (a2 : Bool) : Option (Bool) := if (a1.size : Int) > 1048576 then (some true) else ((laws_szNet.f k a0_0 l0_1 1048576).bind fun t347 => (if t347 < 0 then (some true) else ((laws_toNet.f k a0_0 l0_1).bind fun bt348 => ((spec_StateMoves.f k bt348.1 bt348.2 a1 a2).bind fun bt352 => ((laws_toNet.f k a0_0 l0_1).bind fun bt356 => ((impl_StateMoves.f k bt356.1 bt356.2 a1 a2).bind fun bt361 => ((laws_eqInt64S.f k bt361.1 bt352.1).bind fun t365 => (if t365 = true then (laws_FnExactStateMoves.j0 k a1 a2 bt352.1 bt352.2 bt361.1 bt361.2 (bt361.2 != bt352.2) a0_0 l0_1 bt356.1 bt356.2) else (laws_FnExactStateMoves.j0 k a1 a2 bt352.1 bt352.2 bt361.1 bt361.2 true a0_0 l0_1 bt356.1 bt356.2)))))))))
set_option maxHeartbeats 8000000 in
set_option maxRecDepth 100000 in
theorem laws_FnExactStateMoves.calls (k : Nat) (a0_0 : Int) (A0_1 : Option Addr) (c0_1 : Nat) (l0_1 : List (List Int)) (a1 : ByteArray) (a2 : Bool) (r : Bool) (w : World) (hr0_1 : Kd.C (Kd.slice 2 (Kd.int .i64)) w A0_1 l0_1.length l0_1) (hc0_1 : l0_1.length ≤ c0_1) (h : laws_FnExactStateMoves.f k a0_0 l0_1 a1 a2 = some true) :
  Calls Tryd.prog 7 #[.agg #[.int .i64 a0_0, .slice A0_1 l0_1.length c0_1], .string a1, .bool a2] w fun e w' => e = .returned (.bool true) ∧ Below w.heap.size w w' := by
 have hu24 := Tryd.underlying24
 have hu28 := Tryd.underlying28
 have HR0_1 := Aside0.mk hr0_1
 have HC0_1 := Aside0.mk hc0_1
 clear hr0_1 hc0_1
 have HB := Aside0.mk (Below.refl w.heap.size w)
 have H : (if (a1.size : Int) > 1048576 then (some true) else ((laws_szNet.f k a0_0 l0_1 1048576).bind fun t347 => (if t347 < 0 then (some true) else ((laws_toNet.f k a0_0 l0_1).bind fun bt348 => ((spec_StateMoves.f k bt348.1 bt348.2 a1 a2).bind fun bt352 => ((laws_toNet.f k a0_0 l0_1).bind fun bt356 => ((impl_StateMoves.f k bt356.1 bt356.2 a1 a2).bind fun bt361 => ((laws_eqInt64S.f k bt361.1 bt352.1).bind fun t365 => (if t365 = true then (laws_FnExactStateMoves.j0 k a1 a2 bt352.1 bt352.2 bt361.1 bt361.2 (bt361.2 != bt352.2) a0_0 l0_1 bt356.1 bt356.2) else (laws_FnExactStateMoves.j0 k a1 a2 bt352.1 bt352.2 bt361.1 bt361.2 true a0_0 l0_1 bt356.1 bt356.2)))))))))) = some true := h
 clear h
 by_cases c4 : (a1.size : Int) > 1048576
 ·rw [if_pos c4] at H
  have c4b0 : decide (1048576 < (a1.size : Int)) = true := decide_eq_true c4
  have c4b1 : decide (1048576 < a1.size) = true := decide_eq_true (by omega)
  clear c4
  clear H
  go_enter Tryd.func7, Tryd.ntmps7
  go_wp2_with (first | ((with_reducible refine gate_dst (N := 3) rfl ?_); refine box_event ?hg (N := 3) ?hd (cs := #[.int .i64 a0_0, .slice A0_1 l0_1.length c0_1]) (t := 24) ?hr ?_; (case hd => rfl); (case hg => rfl); (case hr => first | (go_simp; done) | (go_simp; rfl)); intro gb346 hg w5 hbox hb; have n0_ := Aside0.mk (below_step hb_ hb); have n1_ := Aside0.mk (hbox); have n2_ := Aside0.mk ((by rw [hg]; exact (below_size hb_) : w.heap.size ≤ gb346)); have n3_ := Aside0.mk ((by rw [hg]; exact (below_size hb_) : w.heap.size ≤ gb346)); clear HB; have HB := n0_; have BK346 := n1_; have GW346 := n2_; have GE346 := n3_; clear n0_ n1_ n2_ n3_; clear hb hbox hg))
  go_ret
  exact ⟨by first | rfl | (simp [errW_none, errW_some] <;> rfl) | (simp [*, errW_none, errW_some] <;> rfl), by repeat (first | (with_reducible first | exact HB.out | apply below_alloc | apply pw_below_drewN | apply below_drew1 | refine below_set ?_ GE346.out) | exact HB.out)⟩
 ·rw [if_neg c4] at H
  have c4b0 : decide (1048576 < (a1.size : Int)) = false := decide_eq_false c4
  have c4b1 : decide (1048576 < a1.size) = false := decide_eq_false (by omega)
  clear c4
  replace H := Option.bind_eq_some_iff.mp H
  obtain ⟨t347, A60, H⟩ := H
  replace H : (if t347 < 0 then (some true) else ((laws_toNet.f k a0_0 l0_1).bind fun bt348 => ((spec_StateMoves.f k bt348.1 bt348.2 a1 a2).bind fun bt352 => ((laws_toNet.f k a0_0 l0_1).bind fun bt356 => ((impl_StateMoves.f k bt356.1 bt356.2 a1 a2).bind fun bt361 => ((laws_eqInt64S.f k bt361.1 bt352.1).bind fun t365 => (if t365 = true then (laws_FnExactStateMoves.j0 k a1 a2 bt352.1 bt352.2 bt361.1 bt361.2 (bt361.2 != bt352.2) a0_0 l0_1 bt356.1 bt356.2) else (laws_FnExactStateMoves.j0 k a1 a2 bt352.1 bt352.2 bt361.1 bt361.2 true a0_0 l0_1 bt356.1 bt356.2)))))))) = some true := H
  have A6 := Aside0.mk A60
  clear A60
  by_cases c7 : t347 < 0
  ·rw [if_pos c7] at H
   have c7b0 : decide (t347 < 0) = true := decide_eq_true c7
   clear c7
   clear H
   go_enter Tryd.func7, Tryd.ntmps7
   go_wp2_with (first | ((with_reducible refine gate_dst (N := 3) rfl ?_); refine box_event ?hg (N := 3) ?hd (cs := #[.int .i64 a0_0, .slice A0_1 l0_1.length c0_1]) (t := 24) ?hr ?_; (case hd => rfl); (case hg => rfl); (case hr => first | (go_simp; done) | (go_simp; rfl)); intro gb346 hg w8 hbox hb; have n0_ := Aside0.mk (below_step hb_ hb); have n1_ := Aside0.mk (hbox); have n2_ := Aside0.mk ((by rw [hg]; exact (below_size hb_) : w.heap.size ≤ gb346)); have n3_ := Aside0.mk ((by rw [hg]; exact (below_size hb_) : w.heap.size ≤ gb346)); clear HB; have HB := n0_; have BK346 := n1_; have GW346 := n2_; have GE346 := n3_; clear n0_ n1_ n2_ n3_; clear hb hbox hg; have hcz9_0 : w8.cell? ⟨gb346, 0, none⟩ = some (.int .i64 a0_0) := (blk_cell BK346.out 0).trans rfl; have hcz9_1 : w8.cell? ⟨gb346, 1, none⟩ = some (.slice A0_1 l0_1.length c0_1) := (blk_cell BK346.out 1).trans rfl; have hfz9_0 := blk_frozen BK346.out 0; have hfz9_1 := blk_frozen BK346.out 1) | ((with_reducible refine gate_callee (f := 9) rfl ?_); refine goesA_ (some 23) rfl rfl Tryd.func9 (by kernel_rfl) rfl #[.agg #[.int .i64 a0_0, .slice A0_1 l0_1.length c0_1], .int .i64 1048576] rfl ?_; (with_reducible refine (laws_szNet.calls k a0_0 _ _ l0_1 1048576 t347 _ ?side1 ?side2 A6.out).mono ?_); (case side1 => repeat (first | exact (Kd.C_below HR0_1.out HB.out) | (with_reducible refine Kd.C_alloc ?_ _) | (with_reducible refine Kd.C_drewN ?_ _) | (with_reducible refine Kd.C_drew ?_))); (case side2 => exact HC0_1.out); rintro e w10 ⟨rfl, hb⟩; refine ⟨_, rfl, ?_⟩; have n0_ := Aside0.mk (blk_below (g := gb346) (o := .cells #[.int .i64 a0_0, .slice A0_1 l0_1.length c0_1] 24 (0, 0)) (by (with_reducible repeat (first | refine blk_drewN ?_ _ | refine blk_drew ?_ | refine blk_alloc ?_ _)); exact BK346.out) hb); have n1_ := Aside0.mk (below_step (by repeat (first | (with_reducible first | exact HB.out | apply below_alloc | apply pw_below_drewN | apply below_drew1 | refine below_set ?_ GE346.out) | exact HB.out)) hb); clear BK346; clear HB; have BK346 := n0_; have HB := n1_; clear n0_ n1_; (try clear hb); (try clear hb2); (try clear hk); (try clear hi)))
   go_ret
   exact ⟨by first | rfl | (simp [errW_none, errW_some] <;> rfl) | (simp [*, errW_none, errW_some] <;> rfl), by repeat (first | (with_reducible first | exact HB.out | apply below_alloc | apply pw_below_drewN | apply below_drew1 | refine below_set ?_ GE346.out) | exact HB.out)⟩
  ·rw [if_neg c7] at H
   have c7b0 : decide (t347 < 0) = false := decide_eq_false c7
   clear c7
   replace H := Option.bind_eq_some_iff.mp H
   obtain ⟨⟨t348, t349⟩, A110, H⟩ := H
   replace H : ((spec_StateMoves.f k t348 t349 a1 a2).bind fun bt352 => ((laws_toNet.f k a0_0 l0_1).bind fun bt356 => ((impl_StateMoves.f k bt356.1 bt356.2 a1 a2).bind fun bt361 => ((laws_eqInt64S.f k bt361.1 bt352.1).bind fun t365 => (if t365 = true then (laws_FnExactStateMoves.j0 k a1 a2 bt352.1 bt352.2 bt361.1 bt361.2 (bt361.2 != bt352.2) a0_0 l0_1 bt356.1 bt356.2) else (laws_FnExactStateMoves.j0 k a1 a2 bt352.1 bt352.2 bt361.1 bt361.2 true a0_0 l0_1 bt356.1 bt356.2)))))) = some true := H
   have A11 := Aside0.mk A110
   clear A110
   replace H := Option.bind_eq_some_iff.mp H
   obtain ⟨⟨t352, t355⟩, A120, H⟩ := H
   replace H : ((laws_toNet.f k a0_0 l0_1).bind fun bt356 => ((impl_StateMoves.f k bt356.1 bt356.2 a1 a2).bind fun bt361 => ((laws_eqInt64S.f k bt361.1 t352).bind fun t365 => (if t365 = true then (laws_FnExactStateMoves.j0 k a1 a2 t352 t355 bt361.1 bt361.2 (bt361.2 != t355) a0_0 l0_1 bt356.1 bt356.2) else (laws_FnExactStateMoves.j0 k a1 a2 t352 t355 bt361.1 bt361.2 true a0_0 l0_1 bt356.1 bt356.2))))) = some true := H
   have A12 := Aside0.mk A120
   clear A120
   replace H := Option.bind_eq_some_iff.mp H
   obtain ⟨⟨t356, t357⟩, A130, H⟩ := H
   replace H : ((impl_StateMoves.f k t356 t357 a1 a2).bind fun bt361 => ((laws_eqInt64S.f k bt361.1 t352).bind fun t365 => (if t365 = true then (laws_FnExactStateMoves.j0 k a1 a2 t352 t355 bt361.1 bt361.2 (bt361.2 != t355) a0_0 l0_1 t356 t357) else (laws_FnExactStateMoves.j0 k a1 a2 t352 t355 bt361.1 bt361.2 true a0_0 l0_1 t356 t357)))) = some true := H
   have A13 := Aside0.mk A130
   clear A130
   replace H := Option.bind_eq_some_iff.mp H
   obtain ⟨⟨t361, t364⟩, A140, H⟩ := H
   replace H : ((laws_eqInt64S.f k t361 t352).bind fun t365 => (if t365 = true then (laws_FnExactStateMoves.j0 k a1 a2 t352 t355 t361 t364 (t364 != t355) a0_0 l0_1 t356 t357) else (laws_FnExactStateMoves.j0 k a1 a2 t352 t355 t361 t364 true a0_0 l0_1 t356 t357))) = some true := H
   have A14 := Aside0.mk A140
   clear A140
   have HC15 := Aside0.mk H
   clear H
   go_enter Tryd.func7, Tryd.ntmps7
   go_upto_region 10 with (first | ((with_reducible refine gate_dst (N := 3) rfl ?_); refine box_event ?hg (N := 3) ?hd (cs := #[.int .i64 a0_0, .slice A0_1 l0_1.length c0_1]) (t := 24) ?hr ?_; (case hd => rfl); (case hg => rfl); (case hr => first | (go_simp; done) | (go_simp; rfl)); intro gb346 hg w16 hbox hb; have n0_ := Aside0.mk (below_step hb_ hb); have n1_ := Aside0.mk (hbox); have n2_ := Aside0.mk ((by rw [hg]; exact (below_size hb_) : w.heap.size ≤ gb346)); have n3_ := Aside0.mk ((by rw [hg]; exact (below_size hb_) : w.heap.size ≤ gb346)); clear HB; have HB := n0_; have BK346 := n1_; have GW346 := n2_; have GE346 := n3_; clear n0_ n1_ n2_ n3_; clear hb hbox hg; have hcz17_0 : w16.cell? ⟨gb346, 0, none⟩ = some (.int .i64 a0_0) := (blk_cell BK346.out 0).trans rfl; have hcz17_1 : w16.cell? ⟨gb346, 1, none⟩ = some (.slice A0_1 l0_1.length c0_1) := (blk_cell BK346.out 1).trans rfl; have hfz17_0 := blk_frozen BK346.out 0; have hfz17_1 := blk_frozen BK346.out 1) | ((with_reducible refine gate_callee (f := 9) rfl ?_); refine goesA_ (some 23) rfl rfl Tryd.func9 (by kernel_rfl) rfl #[.agg #[.int .i64 a0_0, .slice A0_1 l0_1.length c0_1], .int .i64 1048576] rfl ?_; (with_reducible refine (laws_szNet.calls k a0_0 _ _ l0_1 1048576 t347 _ ?side1 ?side2 A6.out).mono ?_); (case side1 => repeat (first | exact (Kd.C_below HR0_1.out HB.out) | (with_reducible refine Kd.C_alloc ?_ _) | (with_reducible refine Kd.C_drewN ?_ _) | (with_reducible refine Kd.C_drew ?_))); (case side2 => exact HC0_1.out); rintro e w18 ⟨rfl, hb⟩; refine ⟨_, rfl, ?_⟩; have n0_ := Aside0.mk (blk_below (g := gb346) (o := .cells #[.int .i64 a0_0, .slice A0_1 l0_1.length c0_1] 24 (0, 0)) (by (with_reducible repeat (first | refine blk_drewN ?_ _ | refine blk_drew ?_ | refine blk_alloc ?_ _)); exact BK346.out) hb); have n1_ := Aside0.mk (below_step (by repeat (first | (with_reducible first | exact HB.out | apply below_alloc | apply pw_below_drewN | apply below_drew1 | refine below_set ?_ GE346.out) | exact HB.out)) hb); clear BK346; clear HB; have BK346 := n0_; have HB := n1_; clear n0_ n1_; (try clear hb); (try clear hb2); (try clear hk); (try clear hi); have hcz19_0 : w18.cell? ⟨gb346, 0, none⟩ = some (.int .i64 a0_0) := (blk_cell BK346.out 0).trans rfl; have hcz19_1 : w18.cell? ⟨gb346, 1, none⟩ = some (.slice A0_1 l0_1.length c0_1) := (blk_cell BK346.out 1).trans rfl; have hfz19_0 := blk_frozen BK346.out 0; have hfz19_1 := blk_frozen BK346.out 1) | ((with_reducible refine gate_callee (f := 11) rfl ?_); refine goesA_ (some 28) rfl rfl Tryd.func11 (by kernel_rfl) rfl #[.agg #[.int .i64 a0_0, .slice A0_1 l0_1.length c0_1]] rfl ?_; (with_reducible refine (laws_toNet.calls k a0_0 _ _ l0_1 t348 t349 _ ?side1 ?side2 A11.out).mono ?_); (case side1 => repeat (first | exact (Kd.C_below HR0_1.out HB.out) | (with_reducible refine Kd.C_alloc ?_ _) | (with_reducible refine Kd.C_drewN ?_ _) | (with_reducible refine Kd.C_drew ?_))); (case side2 => exact HC0_1.out); rintro e w20 ⟨v350, rfl, ho0, hb⟩; refine ⟨_, rfl, ?_⟩; have n0_ := Aside0.mk (Kd.S_lower ho0 (below_size (by repeat (first | (with_reducible first | exact HB.out | apply below_alloc | apply pw_below_drewN | apply below_drew1 | refine below_set ?_ GE346.out) | exact HB.out)))); have n1_ := Aside0.mk (blk_below (g := gb346) (o := .cells #[.int .i64 a0_0, .slice A0_1 l0_1.length c0_1] 24 (0, 0)) (by (with_reducible repeat (first | refine blk_drewN ?_ _ | refine blk_drew ?_ | refine blk_alloc ?_ _)); exact BK346.out) hb); have n2_ := Aside0.mk (below_step (by repeat (first | (with_reducible first | exact HB.out | apply below_alloc | apply pw_below_drewN | apply below_drew1 | refine below_set ?_ GE346.out) | exact HB.out)) hb); clear BK346; clear HB; have HO351 := n0_; have BK346 := n1_; have HB := n2_; clear n0_ n1_ n2_; (try clear hb); (try clear hb2); (try clear hk); (try clear hi); (try clear ho0); obtain ⟨Ao21, co21, eo21⟩ := Kd.S_slice HO351.out; subst eo21) | ((with_reducible refine gate_callee (f := 20) rfl ?_); refine goesA_ (some 31) rfl rfl Tryd.func20 (by kernel_rfl) rfl #[.agg #[.int .i64 t348, .slice Ao21 t349.length co21], .string a1, .bool a2] rfl ?_; (with_reducible refine (spec_StateMoves.calls k t348 _ _ t349 a1 a2 t352 t355 _ ?side1 ?side2 A12.out).mono ?_); (case side1 => repeat (first | exact (Kd.S_reads' HO351.out).2.2 | (with_reducible refine Kd.C_alloc ?_ _) | (with_reducible refine Kd.C_drewN ?_ _) | (with_reducible refine Kd.C_drew ?_))); (case side2 => exact (Kd.S_reads' HO351.out).2.1); rintro e w22 ⟨v353, rfl, ho0, hb⟩; refine ⟨_, rfl, ?_⟩; have n0_ := Aside0.mk (Kd.S_elder' (by (with_reducible repeat (first | apply Kd.S_alloc | apply Kd.S_drewN | apply Kd.S_drew)); exact HO351.out) (Kd.R_base ho0) hb); have n1_ := Aside0.mk (Kd.R_lower ho0 (below_size (by repeat (first | (with_reducible first | exact HB.out | apply below_alloc | apply pw_below_drewN | apply below_drew1 | refine below_set ?_ GE346.out) | exact HB.out)))); have n2_ := Aside0.mk (blk_below (g := gb346) (o := .cells #[.int .i64 a0_0, .slice A0_1 l0_1.length c0_1] 24 (0, 0)) (by (with_reducible repeat (first | refine blk_drewN ?_ _ | refine blk_drew ?_ | refine blk_alloc ?_ _)); exact BK346.out) hb); have n3_ := Aside0.mk (below_step (by repeat (first | (with_reducible first | exact HB.out | apply below_alloc | apply pw_below_drewN | apply below_drew1 | refine below_set ?_ GE346.out) | exact HB.out)) hb); clear HO351; clear BK346; clear HB; have HO351 := n0_; have HO354 := n1_; have BK346 := n2_; have HB := n3_; clear n0_ n1_ n2_ n3_; (try clear hb); (try clear hb2); (try clear hk); (try clear hi); (try clear ho0); have hcz23_0 : w22.cell? ⟨gb346, 0, none⟩ = some (.int .i64 a0_0) := (blk_cell BK346.out 0).trans rfl; have hcz23_1 : w22.cell? ⟨gb346, 1, none⟩ = some (.slice A0_1 l0_1.length c0_1) := (blk_cell BK346.out 1).trans rfl; have hfz23_0 := blk_frozen BK346.out 0; have hfz23_1 := blk_frozen BK346.out 1) | ((with_reducible refine gate_callee (f := 11) rfl ?_); refine goesA_ (some 35) rfl rfl Tryd.func11 (by kernel_rfl) rfl #[.agg #[.int .i64 a0_0, .slice A0_1 l0_1.length c0_1]] rfl ?_; (with_reducible refine (laws_toNet.calls k a0_0 _ _ l0_1 t356 t357 _ ?side1 ?side2 A13.out).mono ?_); (case side1 => repeat (first | exact (Kd.C_below HR0_1.out HB.out) | (with_reducible refine Kd.C_alloc ?_ _) | (with_reducible refine Kd.C_drewN ?_ _) | (with_reducible refine Kd.C_drew ?_))); (case side2 => exact HC0_1.out); rintro e w24 ⟨v358, rfl, ho0, hb⟩; refine ⟨_, rfl, ?_⟩; obtain ⟨nq25, hi⟩ := nq_of hb; have n0_ := Aside0.mk (Kd.S_elder' (S_ltN (by (with_reducible repeat (first | apply Kd.S_alloc | apply Kd.S_drewN | apply Kd.S_drew)); exact HO351.out) hi) (Kd.S_base ho0) hb); have n1_ := Aside0.mk (Kd.R_below (by (with_reducible repeat (first | apply Kd.R_alloc | apply Kd.R_drewN | apply Kd.R_drew)); exact HO354.out) hb); have n2_ := Aside0.mk (Kd.S_lower (Kd.S_new' (Kd.S_new' (S_geN ho0 hi) (Kd.S_lt (by (with_reducible repeat (first | apply Kd.S_alloc | apply Kd.S_drewN | apply Kd.S_drew)); exact HO351.out))) (Kd.R_lt (by (with_reducible repeat (first | apply Kd.R_alloc | apply Kd.R_drewN | apply Kd.R_drew)); exact HO354.out))) (below_size (by repeat (first | (with_reducible first | exact HB.out | apply below_alloc | apply pw_below_drewN | apply below_drew1 | refine below_set ?_ GE346.out) | exact HB.out)))); have n3_ := Aside0.mk (blk_below (g := gb346) (o := .cells #[.int .i64 a0_0, .slice A0_1 l0_1.length c0_1] 24 (0, 0)) (by (with_reducible repeat (first | refine blk_drewN ?_ _ | refine blk_drew ?_ | refine blk_alloc ?_ _)); exact BK346.out) hb); have n4_ := Aside0.mk (below_step (by repeat (first | (with_reducible first | exact HB.out | apply below_alloc | apply pw_below_drewN | apply below_drew1 | refine below_set ?_ GE346.out) | exact HB.out)) hb); clear HO351; clear HO354; clear BK346; clear HB; have HO351 := n0_; have HO354 := n1_; have HO359 := n2_; have BK346 := n3_; have HB := n4_; clear n0_ n1_ n2_ n3_ n4_; (try clear hb); (try clear hb2); (try clear hk); (try clear hi); (try clear ho0)) | ((with_reducible refine gate_dst (N := 10) rfl ?_); refine box_event ?hg (N := 10) ?hd (cs := #[.int .i64 0, .slice none 0 0]) (t := 28) ?hr ?_; (case hd => rfl); (case hg => rfl); (case hr => first | (go_simp; done) | (go_simp; rfl)); intro gb360 hg w26 hbox hb; have n0_ := Aside0.mk (Kd.S_below (by (with_reducible repeat (first | apply Kd.S_alloc | apply Kd.S_drewN | apply Kd.S_drew)); exact HO351.out) hb); have n1_ := Aside0.mk (Kd.R_below (by (with_reducible repeat (first | apply Kd.R_alloc | apply Kd.R_drewN | apply Kd.R_drew)); exact HO354.out) hb); have n2_ := Aside0.mk (Kd.S_below (by (with_reducible repeat (first | apply Kd.S_alloc | apply Kd.S_drewN | apply Kd.S_drew)); exact HO359.out) hb); have n3_ := Aside0.mk (blk_below (g := gb346) (o := .cells #[.int .i64 a0_0, .slice A0_1 l0_1.length c0_1] 24 (0, 0)) (by (with_reducible repeat (first | refine blk_drewN ?_ _ | refine blk_drew ?_ | refine blk_alloc ?_ _)); exact BK346.out) hb); have n4_ := Aside0.mk (below_step (by repeat (first | (with_reducible first | exact HB.out | apply below_alloc | apply pw_below_drewN | apply below_drew1 | refine below_set ?_ GE346.out) | exact HB.out)) hb); have n5_ := Aside0.mk (hbox); have n6_ := Aside0.mk ((by rw [hg]; exact (below_size (by repeat (first | (with_reducible first | exact HB.out | apply below_alloc | apply pw_below_drewN | apply below_drew1 | refine below_set ?_ GE346.out) | exact HB.out))) : w.heap.size ≤ gb360)); have n7_ := Aside0.mk ((by rw [hg]; exact (below_size (by repeat (first | (with_reducible first | exact HB.out | apply below_alloc | apply pw_below_drewN | apply below_drew1 | refine below_set ?_ GE346.out) | exact HB.out))) : w.heap.size ≤ gb360)); have n8_ := Aside0.mk ((by rw [hg]; exact Nat.ne_of_lt (blk_lt (g := gb346) (o := .cells #[.int .i64 a0_0, .slice A0_1 l0_1.length c0_1] 24 (0, 0)) (by (with_reducible repeat (first | refine blk_drewN ?_ _ | refine blk_drew ?_ | refine blk_alloc ?_ _)); exact BK346.out)) : gb346 ≠ gb360)); have n9_ := Aside0.mk ((by rw [hg]; exact Nat.ne_of_gt (blk_lt (g := gb346) (o := .cells #[.int .i64 a0_0, .slice A0_1 l0_1.length c0_1] 24 (0, 0)) (by (with_reducible repeat (first | refine blk_drewN ?_ _ | refine blk_drew ?_ | refine blk_alloc ?_ _)); exact BK346.out)) : gb360 ≠ gb346)); clear HO351; clear HO354; clear HO359; clear BK346; clear HB; have HO351 := n0_; have HO354 := n1_; have HO359 := n2_; have BK346 := n3_; have HB := n4_; have BK360 := n5_; have GW360 := n6_; have GE360 := n7_; have NB346_360 := n8_; have NB360_346 := n9_; clear n0_ n1_ n2_ n3_ n4_ n5_ n6_ n7_ n8_ n9_; clear hb hbox hg; have hnb27 := NB360_346.out; have hnc27 := NB346_360.out; have hcz28_0 : w26.cell? ⟨gb360, 0, none⟩ = some (.int .i64 0) := (blk_cell BK360.out 0).trans rfl; have hcz28_1 : w26.cell? ⟨gb360, 1, none⟩ = some (.slice none 0 0) := (blk_cell BK360.out 1).trans rfl; have hfz28_0 := blk_frozen BK360.out 0; have hfz28_1 := blk_frozen BK360.out 1; obtain ⟨Ao29, co29, eo29⟩ := Kd.S_slice HO359.out; subst eo29) | ((with_reducible refine gate_callee (f := 21) rfl ?_); refine goesA_ (some 40) rfl rfl Tryd.func21 (by kernel_rfl) rfl #[.agg #[.int .i64 t356, .slice Ao29 t357.length co29], .string a1, .bool a2] rfl ?_; (with_reducible refine (impl_StateMoves.calls k t356 _ _ t357 a1 a2 t361 t364 _ ?side1 ?side2 A14.out).mono ?_); (case side1 => refine (Kd.S_reads' (e := 38) (base := w.heap.size) (ok := fun k_ => (((True ∧ nq25 ≤ k_) ∧ some k_ ≠ (.slice Ao21 t349.length co21 : Value).ownBlock) ∧ some k_ ≠ (v353 : Value).ownBlock)) (n := t357.length) (c := co29) ?_).2.2; exact (by (with_reducible repeat (first | apply Kd.S_alloc | apply Kd.S_drewN | apply Kd.S_drew)); exact (Kd.S_mono (Kd.S_far (p := ⟨gb360, 1, none⟩) (Kd.S_far (p := ⟨gb360, 0, none⟩) (Kd.S_types HO359.out BK360.out (by decide)) (fun _ hk => hk.2) (.int .i64 t356)) (fun _ hk => hk.2) (.slice Ao29 t357.length co29)) (fun _ h_ => h_.1)))); (case side2 => exact (Kd.S_reads' HO359.out).2.1); rintro e w30 ⟨v362, rfl, ho0, hb⟩; refine ⟨_, rfl, ?_⟩; have n0_ := Aside0.mk (Kd.S_elder' (by (with_reducible repeat (first | apply Kd.S_alloc | apply Kd.S_drewN | apply Kd.S_drew)); exact (Kd.S_mono (Kd.S_far (p := ⟨gb360, 1, none⟩) (Kd.S_far (p := ⟨gb360, 0, none⟩) (Kd.S_types HO351.out BK360.out (by decide)) (fun _ hk => hk.2) (.int .i64 t356)) (fun _ hk => hk.2) (.slice Ao29 t357.length co29)) (fun _ h_ => h_.1))) (Kd.R_base ho0) hb); have n1_ := Aside0.mk (Kd.R_elder' (by (with_reducible repeat (first | apply Kd.R_alloc | apply Kd.R_drewN | apply Kd.R_drew)); exact (Kd.R_mono (Kd.R_far (p := ⟨gb360, 1, none⟩) (Kd.R_far (p := ⟨gb360, 0, none⟩) (Kd.R_types HO354.out BK360.out (by decide)) (fun _ hk => hk.2) (.int .i64 t356)) (fun _ hk => hk.2) (.slice Ao29 t357.length co29)) (fun _ h_ => h_.1))) (Kd.R_base ho0) hb); have n2_ := Aside0.mk (Kd.S_elder' (by (with_reducible repeat (first | apply Kd.S_alloc | apply Kd.S_drewN | apply Kd.S_drew)); exact (Kd.S_mono (Kd.S_far (p := ⟨gb360, 1, none⟩) (Kd.S_far (p := ⟨gb360, 0, none⟩) (Kd.S_types HO359.out BK360.out (by decide)) (fun _ hk => hk.2) (.int .i64 t356)) (fun _ hk => hk.2) (.slice Ao29 t357.length co29)) (fun _ h_ => h_.1))) (Kd.R_base ho0) hb); have n3_ := Aside0.mk (Kd.R_lower (Kd.R_new' ho0 (Kd.R_lt (by (with_reducible repeat (first | apply Kd.R_alloc | apply Kd.R_drewN | apply Kd.R_drew)); exact (Kd.R_mono (Kd.R_far (p := ⟨gb360, 1, none⟩) (Kd.R_far (p := ⟨gb360, 0, none⟩) (Kd.R_types HO354.out BK360.out (by decide)) (fun _ hk => hk.2) (.int .i64 t356)) (fun _ hk => hk.2) (.slice Ao29 t357.length co29)) (fun _ h_ => h_.1))))) (below_size (by repeat (first | (with_reducible first | exact HB.out | apply below_alloc | apply pw_below_drewN | apply below_drew1 | refine below_set ?_ GE346.out | refine below_set ?_ GE360.out) | exact HB.out)))); have n4_ := Aside0.mk (blk_below (g := gb346) (o := .cells #[.int .i64 a0_0, .slice A0_1 l0_1.length c0_1] 24 (0, 0)) (by (with_reducible repeat (first | refine blk_drewN ?_ _ | refine blk_drew ?_ | refine blk_alloc ?_ _)); refine blk_far ?_ NB346_360.out _; (with_reducible repeat (first | refine blk_drewN ?_ _ | refine blk_drew ?_ | refine blk_alloc ?_ _)); refine blk_far ?_ NB346_360.out _; (with_reducible repeat (first | refine blk_drewN ?_ _ | refine blk_drew ?_ | refine blk_alloc ?_ _)); exact BK346.out) hb); have n5_ := Aside0.mk (blk_below (g := gb360) (o := .cells #[.int .i64 t356, .slice Ao29 t357.length co29] 28 (0, 0)) (by (with_reducible repeat (first | refine blk_drewN ?_ _ | refine blk_drew ?_ | refine blk_alloc ?_ _)); refine blk_put (cs := #[.int .i64 t356, .slice none 0 0]) ?_ 1 _ rfl; (with_reducible repeat (first | refine blk_drewN ?_ _ | refine blk_drew ?_ | refine blk_alloc ?_ _)); refine blk_put (cs := #[.int .i64 0, .slice none 0 0]) ?_ 0 _ rfl; (with_reducible repeat (first | refine blk_drewN ?_ _ | refine blk_drew ?_ | refine blk_alloc ?_ _)); exact BK360.out) hb); have n6_ := Aside0.mk (below_step (by repeat (first | (with_reducible first | exact HB.out | apply below_alloc | apply pw_below_drewN | apply below_drew1 | refine below_set ?_ GE346.out | refine below_set ?_ GE360.out) | exact HB.out)) hb); clear HO351; clear HO354; clear HO359; clear BK346; clear BK360; clear HB; have HO351 := n0_; have HO354 := n1_; have HO359 := n2_; have HO363 := n3_; have BK346 := n4_; have BK360 := n5_; have HB := n6_; clear n0_ n1_ n2_ n3_ n4_ n5_ n6_; (try clear hb); (try clear hb2); (try clear hk); (try clear hi); (try clear ho0)))
   (try simp only [Act.put, List.setIfInBounds_toArray, List.set_cons_zero, List.set_cons_succ])
   go_cut [51] (fun v51 wc => ∃ (kq : Nat) (x51_14 : Bool), v51 = .bool x51_14 ∧ Aside0 (laws_FnExactStateMoves.j0 kq a1 a2 t352 t355 t361 t364 x51_14 a0_0 l0_1 t356 t357 = some true) ∧ Aside0 (kq ≤ k) ∧ Aside0 (Kd.R (Kd.int .i64) 2 wc w.heap.size (fun k_ => some k_ ≠ (v362 : Value).ownBlock) v353 t352) ∧ Aside0 (Kd.R (Kd.int .i64) 2 wc w.heap.size (fun k_ => some k_ ≠ (v353 : Value).ownBlock) v362 t361) ∧ Aside0 (Kd.S (Kd.slice 2 (Kd.int .i64)) 38 wc w.heap.size (fun k_ => some k_ ≠ (v353 : Value).ownBlock ∧ some k_ ≠ (v362 : Value).ownBlock ∧ nq25 ≤ k_) (.slice Ao29 t357.length co29) t357) ∧ Aside0 (wc.heap[gb346]? = some (.cells #[.int .i64 a0_0, (.slice A0_1 l0_1.length c0_1)] 24 (0, 0))) ∧ Aside0 (wc.heap[gb360]? = some (.cells #[.int .i64 t356, (.slice Ao29 t357.length co29)] 28 (0, 0))) ∧ Aside0 (Below w.heap.size w wc))
   case first =>
    have H := HC15.out
    clear HC15
    replace H := Option.bind_eq_some_iff.mp H
    obtain ⟨t365, A310, H⟩ := H
    replace H : (if t365 = true then (laws_FnExactStateMoves.j0 k a1 a2 t352 t355 t361 t364 (t364 != t355) a0_0 l0_1 t356 t357) else (laws_FnExactStateMoves.j0 k a1 a2 t352 t355 t361 t364 true a0_0 l0_1 t356 t357)) = some true := H
    have A31 := Aside0.mk A310
    clear A310
    by_cases c32 : t365 = true
    ·subst c32
     have H1 : (laws_FnExactStateMoves.j0 k a1 a2 t352 t355 t361 t364 (t364 != t355) a0_0 l0_1 t356 t357) = some true := by rw [if_pos rfl] at H; exact H
     clear H
     have H := H1
     clear H1
     have H' := Aside0.mk H
     clear H
     obtain ⟨Ao33, co33, eo33⟩ := Kd.R_slice HO363.out
     subst eo33
     obtain ⟨Ao34, co34, eo34⟩ := Kd.R_slice HO354.out
     subst eo34
     go_wp2_with (first | ((with_reducible refine gate_callee (f := 22) rfl ?_); refine goesA_ (some 45) rfl rfl Tryd.func22 (by kernel_rfl) rfl #[.slice Ao33 t361.length co33, .slice Ao34 t352.length co34] rfl ?_; (with_reducible refine (laws_eqInt64S.calls k _ _ t361 _ _ t352 true _ ?side1 ?side2 ?side3 ?side4 A31.out).mono ?_); (case side1 => repeat (first | exact (Kd.R_reads' HO363.out).2.2 | (with_reducible refine Kd.C_alloc ?_ _) | (with_reducible refine Kd.C_drewN ?_ _) | (with_reducible refine Kd.C_drew ?_))); (case side2 => exact (Kd.R_reads' HO363.out).2.1); (case side3 => repeat (first | exact (Kd.R_reads' HO354.out).2.2 | (with_reducible refine Kd.C_alloc ?_ _) | (with_reducible refine Kd.C_drewN ?_ _) | (with_reducible refine Kd.C_drew ?_))); (case side4 => exact (Kd.R_reads' HO354.out).2.1); rintro e w' ⟨rfl, ⟨nd, rfl⟩⟩; refine ⟨_, rfl, ?_⟩))
     go_meet
     case rel => exact ⟨_, ((t364 != t355)), (by first | rfl | (simp; done) | (simp [*]; done)), H', ⟨by first | omega | exact Nat.le_refl _⟩, ⟨by (with_reducible repeat (first | apply Kd.R_alloc | apply Kd.R_drewN | apply Kd.R_drew)); exact Kd.R_mono HO354.out (fun _ hk => hk.2)⟩, ⟨by (with_reducible repeat (first | apply Kd.R_alloc | apply Kd.R_drewN | apply Kd.R_drew)); exact Kd.R_mono HO363.out (fun _ hk => hk.2)⟩, ⟨by (with_reducible repeat (first | apply Kd.S_alloc | apply Kd.S_drewN | apply Kd.S_drew)); exact Kd.S_mono HO359.out (fun _ hk => ⟨hk.1.2, ⟨hk.2, hk.1.1.1.2⟩⟩)⟩, ⟨by (with_reducible repeat (first | refine blk_drewN ?_ _ | refine blk_drew ?_ | refine blk_alloc ?_ _)); exact BK346.out⟩, ⟨by (with_reducible repeat (first | refine blk_drewN ?_ _ | refine blk_drew ?_ | refine blk_alloc ?_ _)); exact BK360.out⟩, ⟨by repeat (first | (with_reducible first | exact HB.out | apply below_alloc | apply pw_below_drewN | apply below_drew1 | refine below_set ?_ GE346.out | refine below_set ?_ GE360.out) | exact HB.out)⟩⟩
    ·replace c32 := Bool.eq_false_iff.mpr c32
     subst c32
     have H1 : (laws_FnExactStateMoves.j0 k a1 a2 t352 t355 t361 t364 true a0_0 l0_1 t356 t357) = some true := by rw [if_neg (show ¬ (false = true) by decide)] at H; exact H
     clear H
     have H := H1
     clear H1
     have H' := Aside0.mk H
     clear H
     obtain ⟨Ao35, co35, eo35⟩ := Kd.R_slice HO363.out
     subst eo35
     obtain ⟨Ao36, co36, eo36⟩ := Kd.R_slice HO354.out
     subst eo36
     go_wp2_with (first | ((with_reducible refine gate_callee (f := 22) rfl ?_); refine goesA_ (some 45) rfl rfl Tryd.func22 (by kernel_rfl) rfl #[.slice Ao35 t361.length co35, .slice Ao36 t352.length co36] rfl ?_; (with_reducible refine (laws_eqInt64S.calls k _ _ t361 _ _ t352 false _ ?side1 ?side2 ?side3 ?side4 A31.out).mono ?_); (case side1 => repeat (first | exact (Kd.R_reads' HO363.out).2.2 | (with_reducible refine Kd.C_alloc ?_ _) | (with_reducible refine Kd.C_drewN ?_ _) | (with_reducible refine Kd.C_drew ?_))); (case side2 => exact (Kd.R_reads' HO363.out).2.1); (case side3 => repeat (first | exact (Kd.R_reads' HO354.out).2.2 | (with_reducible refine Kd.C_alloc ?_ _) | (with_reducible refine Kd.C_drewN ?_ _) | (with_reducible refine Kd.C_drew ?_))); (case side4 => exact (Kd.R_reads' HO354.out).2.1); rintro e w' ⟨rfl, ⟨nd, rfl⟩⟩; refine ⟨_, rfl, ?_⟩))
     go_meet
     case rel => exact ⟨_, (true), (by first | rfl | (simp; done) | (simp [*]; done)), H', ⟨by first | omega | exact Nat.le_refl _⟩, ⟨by (with_reducible repeat (first | apply Kd.R_alloc | apply Kd.R_drewN | apply Kd.R_drew)); exact Kd.R_mono HO354.out (fun _ hk => hk.2)⟩, ⟨by (with_reducible repeat (first | apply Kd.R_alloc | apply Kd.R_drewN | apply Kd.R_drew)); exact Kd.R_mono HO363.out (fun _ hk => hk.2)⟩, ⟨by (with_reducible repeat (first | apply Kd.S_alloc | apply Kd.S_drewN | apply Kd.S_drew)); exact Kd.S_mono HO359.out (fun _ hk => ⟨hk.1.2, ⟨hk.2, hk.1.1.1.2⟩⟩)⟩, ⟨by (with_reducible repeat (first | refine blk_drewN ?_ _ | refine blk_drew ?_ | refine blk_alloc ?_ _)); exact BK346.out⟩, ⟨by (with_reducible repeat (first | refine blk_drewN ?_ _ | refine blk_drew ?_ | refine blk_alloc ?_ _)); exact BK360.out⟩, ⟨by repeat (first | (with_reducible first | exact HB.out | apply below_alloc | apply pw_below_drewN | apply below_drew1 | refine below_set ?_ GE346.out | refine below_set ?_ GE360.out) | exact HB.out)⟩⟩
   case rest =>
    clear HC15
    (try clear c1); (try clear c2); (try clear p2); (try clear q2); (try clear c3); (try clear c4); (try clear c4b0); (try clear c4b1); (try clear c7); (try clear c7b0); (try clear c9); (try clear c11); (try clear c20); (try clear c21); (try clear c22); (try clear q25); (try clear c27); (try clear c32); (try clear hcz17_0); (try clear hcz17_1); (try clear hcz19_0); (try clear hcz19_1); (try clear hcz23_0); (try clear hcz23_1); (try clear hcz28_0); (try clear hcz28_1); (try clear hcz9_0); (try clear hcz9_1); (try clear hfz17_0); (try clear hfz17_1); (try clear hfz19_0); (try clear hfz19_1); (try clear hfz23_0); (try clear hfz23_1); (try clear hfz28_0); (try clear hfz28_1); (try clear hfz9_0); (try clear hfz9_1)
    obtain ⟨kq, x51_14, rfl, HA, HJ14, HO_8, HO_11, HO_361001, BK346, BK360, HB⟩ := hcut
    cases kq with
    | zero => exact absurd HA.out (by simp [laws_FnExactStateMoves.j0])
    | succ kj14 =>
     have H := HA.out
     clear HA
     simp only [laws_FnExactStateMoves.j0] at H
     by_cases c37 : x51_14 = true
     ·subst c37
      have H1 : (some false) = some true := by rw [if_pos rfl] at H; exact H
      clear H
      have H := H1
      clear H1
      exact absurd H (by simp)
     ·replace c37 := Bool.eq_false_iff.mpr c37
      subst c37
      have H1 : ((laws_toNet.f kj14 a0_0 l0_1).bind fun bt366 => ((laws_eqNet.f kj14 t356 t357 bt366.1 bt366.2).bind fun t370 => (if t370 = true then ((laws_markNet.f kj14 t356 t357 1).bind fun bt371 => (if bt371.1 < 0 then (laws_FnExactStateMoves.j1 kj14 a1 a2 t352 t355 t361 true a0_0 l0_1) else ((laws_eqInt64S.f kj14 t361 t352).bind fun t373 => (if t373 = true then (laws_FnExactStateMoves.j1 kj14 a1 a2 t352 t355 t361 (t364 != t355) a0_0 l0_1) else (laws_FnExactStateMoves.j1 kj14 a1 a2 t352 t355 t361 true a0_0 l0_1))))) else (some false)))) = some true := by rw [if_neg (show ¬ (false = true) by decide)] at H; exact H
      clear H
      have H := H1
      clear H1
      replace H := Option.bind_eq_some_iff.mp H
      obtain ⟨⟨t366, t367⟩, A380, H⟩ := H
      replace H : ((laws_eqNet.f kj14 t356 t357 t366 t367).bind fun t370 => (if t370 = true then ((laws_markNet.f kj14 t356 t357 1).bind fun bt371 => (if bt371.1 < 0 then (laws_FnExactStateMoves.j1 kj14 a1 a2 t352 t355 t361 true a0_0 l0_1) else ((laws_eqInt64S.f kj14 t361 t352).bind fun t373 => (if t373 = true then (laws_FnExactStateMoves.j1 kj14 a1 a2 t352 t355 t361 (t364 != t355) a0_0 l0_1) else (laws_FnExactStateMoves.j1 kj14 a1 a2 t352 t355 t361 true a0_0 l0_1))))) else (some false))) = some true := H
      have A38 := Aside0.mk A380
      clear A380
      replace H := Option.bind_eq_some_iff.mp H
      obtain ⟨t370, A390, H⟩ := H
      replace H : (if t370 = true then ((laws_markNet.f kj14 t356 t357 1).bind fun bt371 => (if bt371.1 < 0 then (laws_FnExactStateMoves.j1 kj14 a1 a2 t352 t355 t361 true a0_0 l0_1) else ((laws_eqInt64S.f kj14 t361 t352).bind fun t373 => (if t373 = true then (laws_FnExactStateMoves.j1 kj14 a1 a2 t352 t355 t361 (t364 != t355) a0_0 l0_1) else (laws_FnExactStateMoves.j1 kj14 a1 a2 t352 t355 t361 true a0_0 l0_1))))) else (some false)) = some true := H
      have A39 := Aside0.mk A390
      clear A390
      by_cases c40 : t370 = true
      ·subst c40
       have H1 : ((laws_markNet.f kj14 t356 t357 1).bind fun bt371 => (if bt371.1 < 0 then (laws_FnExactStateMoves.j1 kj14 a1 a2 t352 t355 t361 true a0_0 l0_1) else ((laws_eqInt64S.f kj14 t361 t352).bind fun t373 => (if t373 = true then (laws_FnExactStateMoves.j1 kj14 a1 a2 t352 t355 t361 (t364 != t355) a0_0 l0_1) else (laws_FnExactStateMoves.j1 kj14 a1 a2 t352 t355 t361 true a0_0 l0_1))))) = some true := by rw [if_pos rfl] at H; exact H
       clear H
       have H := H1
       clear H1
       replace H := Option.bind_eq_some_iff.mp H
       obtain ⟨⟨t371, t372⟩, A410, H⟩ := H
       replace H : (if t371 < 0 then (laws_FnExactStateMoves.j1 kj14 a1 a2 t352 t355 t361 true a0_0 l0_1) else ((laws_eqInt64S.f kj14 t361 t352).bind fun t373 => (if t373 = true then (laws_FnExactStateMoves.j1 kj14 a1 a2 t352 t355 t361 (t364 != t355) a0_0 l0_1) else (laws_FnExactStateMoves.j1 kj14 a1 a2 t352 t355 t361 true a0_0 l0_1)))) = some true := H
       have A41 := Aside0.mk A410
       clear A410
       have HC42 := Aside0.mk H
       clear H
       try go_wp2
       have n0_ := Aside0.mk (Kd.R_drew HO_8.out)
       have n1_ := Aside0.mk (Kd.R_drew HO_11.out)
       have n2_ := Aside0.mk (Kd.S_drew HO_361001.out)
       have n3_ := Aside0.mk (blk_drew BK346.out)
       have n4_ := Aside0.mk (blk_drew BK360.out)
       have n5_ := Aside0.mk (below_drew1 HB.out)
       clear HO_8
       clear HO_11
       clear HO_361001
       clear BK346
       clear BK360
       clear HB
       have HO_8 := n0_
       have HO_11 := n1_
       have HO_361001 := n2_
       have BK346 := n3_
       have BK360 := n4_
       have HB := n5_
       clear n0_ n1_ n2_ n3_ n4_ n5_
       refine start_ (n := 5) (S := fun w' => w'.cell? ⟨gb360, 0, none⟩ = some (.int .i64 t356) ∧ w'.cell? ⟨gb360, 1, none⟩ = some (.slice Ao29 t357.length co29) ∧ w'.cell? ⟨gb346, 0, none⟩ = some (.int .i64 a0_0) ∧ w'.cell? ⟨gb346, 1, none⟩ = some (.slice A0_1 l0_1.length c0_1)) (ds := []) #[false, false, false, false, false] (by kernel_rfl) rfl rfl ⟨(blk_cell BK360.out 0).trans rfl, (blk_cell BK360.out 1).trans rfl, (blk_cell BK346.out 0).trans rfl, (blk_cell BK346.out 1).trans rfl⟩ (fun hHeld => ?_)
       generalize wc.drew = w43 at HO_8 HO_11 HO_361001 BK346 BK360 HB hHeld ⊢
       refine take_ (i := 0) (N := some 52) (v := ?_) (a' := ?_) #[true, false, false, false, false] rfl rfl (by kernel_rfl) (fun _ _ _ h => h) (Or.inl ⟨by rfl, ?_⟩) hHeld ?_ ?_
       rotate_left; (· (rintro w' ⟨s0, s1, s2, s3⟩; go_simp; with_reducible rfl)); rotate_left; (· (simp only [Act.put, List.setIfInBounds_toArray, List.set_cons_zero, List.set_cons_succ, i64_w, i32_w]; rfl))
       refine take_ (i := 1) (N := some 53) (v := ?_) (a' := ?_) #[true, true, false, false, false] rfl rfl (by kernel_rfl) (fun _ _ _ h => h) (Or.inl ⟨by rfl, ?_⟩) hHeld ?_ ?_
       rotate_left; (· (rintro w' ⟨s0, s1, s2, s3⟩; go_simp; with_reducible rfl)); rotate_left; (· (simp only [Act.put, List.setIfInBounds_toArray, List.set_cons_zero, List.set_cons_succ, i64_w, i32_w]; rfl))
       refine one_ (i := 2) (N := some 54) #[true, true, true, false, false] rfl rfl (by kernel_rfl) (by decide) (fun K hK => ?_)
       refine goes_ Tryd.func11 (by kernel_rfl) rfl #[.agg #[.int .i64 a0_0, .slice A0_1 l0_1.length c0_1]] (by rfl) rfl rfl (by (try simp only [List.map_toArray, List.map_cons, List.map_nil]); first | done | rfl | (simp only [List.length_drop, List.length_take]; rfl)) ?_
       with_reducible refine (laws_toNet.calls kj14 a0_0 _ _ l0_1 t366 t367 _ ?side1 ?side2 A38.out).mono ?_
       (case side1 => repeat (first | exact (Kd.C_below HR0_1.out HB.out) | (with_reducible refine Kd.C_alloc ?_ _) | (with_reducible refine Kd.C_drewN ?_ _) | (with_reducible refine Kd.C_drew ?_)))
       (case side2 => exact HC0_1.out)
       rintro e w44 ⟨v368, rfl, ho0, hb⟩
       refine ⟨_, rfl, ?_⟩
       have n0_ := Aside0.mk (Kd.R_below (by (with_reducible repeat (first | apply Kd.R_alloc | apply Kd.R_drewN | apply Kd.R_drew)); exact HO_8.out) hb)
       have n1_ := Aside0.mk (Kd.R_below (by (with_reducible repeat (first | apply Kd.R_alloc | apply Kd.R_drewN | apply Kd.R_drew)); exact HO_11.out) hb)
       have n2_ := Aside0.mk (Kd.S_elder' (by (with_reducible repeat (first | apply Kd.S_alloc | apply Kd.S_drewN | apply Kd.S_drew)); exact HO_361001.out) (Kd.S_base ho0) hb)
       have n3_ := Aside0.mk (Kd.S_lower (Kd.S_new' (Kd.S_new' (Kd.S_new' ho0 (Kd.R_lt (by (with_reducible repeat (first | apply Kd.R_alloc | apply Kd.R_drewN | apply Kd.R_drew)); exact HO_8.out))) (Kd.R_lt (by (with_reducible repeat (first | apply Kd.R_alloc | apply Kd.R_drewN | apply Kd.R_drew)); exact HO_11.out))) (Kd.S_lt (by (with_reducible repeat (first | apply Kd.S_alloc | apply Kd.S_drewN | apply Kd.S_drew)); exact HO_361001.out))) (below_size (by repeat (first | (with_reducible first | exact HB.out | apply below_alloc | apply pw_below_drewN | apply below_drew1 | refine below_set ?_ GE346.out | refine below_set ?_ GE360.out) | exact HB.out))))
       have n4_ := Aside0.mk (blk_below (g := gb346) (o := .cells #[.int .i64 a0_0, .slice A0_1 l0_1.length c0_1] 24 (0, 0)) (by (with_reducible repeat (first | refine blk_drewN ?_ _ | refine blk_drew ?_ | refine blk_alloc ?_ _)); exact BK346.out) hb)
       have n5_ := Aside0.mk (blk_below (g := gb360) (o := .cells #[.int .i64 t356, .slice Ao29 t357.length co29] 28 (0, 0)) (by (with_reducible repeat (first | refine blk_drewN ?_ _ | refine blk_drew ?_ | refine blk_alloc ?_ _)); exact BK360.out) hb)
       have n6_ := Aside0.mk (below_step (by repeat (first | (with_reducible first | exact HB.out | apply below_alloc | apply pw_below_drewN | apply below_drew1 | refine below_set ?_ GE346.out | refine below_set ?_ GE360.out) | exact HB.out)) hb)
       clear HO_8
       clear HO_11
       clear HO_361001
       clear BK346
       clear BK360
       clear HB
       have HO_8 := n0_
       have HO_11 := n1_
       have HO_361001 := n2_
       have HO369 := n3_
       have BK346 := n4_
       have BK360 := n5_
       have HB := n6_
       clear n0_ n1_ n2_ n3_ n4_ n5_ n6_
       (try clear hb)
       (try clear hb2)
       (try clear hk)
       (try clear hi)
       (try clear ho0)
       obtain ⟨Ao45, co45, eo45⟩ := Kd.S_slice HO369.out
       (first | subst eo45 | (injection eo45 with f1_ f2_ f3_; have f4_ := f1_.symm; have f5_ := f3_.symm; clear f1_ f2_ f3_; subst f4_; subst f5_))
       refine hK.out _ _ ⟨(blk_cell BK360.out 0).trans rfl, (blk_cell BK360.out 1).trans rfl, (blk_cell BK346.out 0).trans rfl, (blk_cell BK346.out 1).trans rfl⟩ (fun hHeld => ?_)
       clear hK K
       refine norm_ (a' := ?_) ?_ ?_
       rotate_left
       ·show Act.put _ (some 54) _ = _
        simp only [Act.put, List.setIfInBounds_toArray, List.set_cons_zero, List.set_cons_succ, i64_w, i32_w]
        rfl
       refine one_ (i := 3) (N := some 55) #[true, true, true, true, false] rfl rfl (by kernel_rfl) (by decide) (fun K hK => ?_)
       refine goes_ Tryd.func13 (by kernel_rfl) rfl #[.agg #[.int .i64 t356, .slice Ao29 t357.length co29], .agg #[.int .i64 t366, .slice Ao45 t367.length co45]] (by rfl) rfl rfl (by (try simp only [List.map_toArray, List.map_cons, List.map_nil]); first | done | rfl | (simp only [List.length_drop, List.length_take]; rfl)) ?_
       with_reducible refine (laws_eqNet.calls kj14 t356 _ _ t357 t366 _ _ t367 true _ ?side1 ?side2 ?side3 ?side4 A39.out).mono ?_
       (case side1 => repeat (first | exact (Kd.S_reads' HO_361001.out).2.2 | (with_reducible refine Kd.C_alloc ?_ _) | (with_reducible refine Kd.C_drewN ?_ _) | (with_reducible refine Kd.C_drew ?_)))
       (case side2 => exact (Kd.S_reads' HO_361001.out).2.1)
       (case side3 => repeat (first | exact (Kd.S_reads' HO369.out).2.2 | (with_reducible refine Kd.C_alloc ?_ _) | (with_reducible refine Kd.C_drewN ?_ _) | (with_reducible refine Kd.C_drew ?_)))
       (case side4 => exact (Kd.S_reads' HO369.out).2.1)
       rintro e w46 ⟨rfl, hb⟩
       refine ⟨_, rfl, ?_⟩
       have n0_ := Aside0.mk (Kd.R_below (by (with_reducible repeat (first | apply Kd.R_alloc | apply Kd.R_drewN | apply Kd.R_drew)); exact HO_8.out) hb)
       have n1_ := Aside0.mk (Kd.R_below (by (with_reducible repeat (first | apply Kd.R_alloc | apply Kd.R_drewN | apply Kd.R_drew)); exact HO_11.out) hb)
       have n2_ := Aside0.mk (Kd.S_below (by (with_reducible repeat (first | apply Kd.S_alloc | apply Kd.S_drewN | apply Kd.S_drew)); exact HO_361001.out) hb)
       have n3_ := Aside0.mk (Kd.S_below (by (with_reducible repeat (first | apply Kd.S_alloc | apply Kd.S_drewN | apply Kd.S_drew)); exact HO369.out) hb)
       have n4_ := Aside0.mk (blk_below (g := gb346) (o := .cells #[.int .i64 a0_0, .slice A0_1 l0_1.length c0_1] 24 (0, 0)) (by (with_reducible repeat (first | refine blk_drewN ?_ _ | refine blk_drew ?_ | refine blk_alloc ?_ _)); exact BK346.out) hb)
       have n5_ := Aside0.mk (blk_below (g := gb360) (o := .cells #[.int .i64 t356, .slice Ao29 t357.length co29] 28 (0, 0)) (by (with_reducible repeat (first | refine blk_drewN ?_ _ | refine blk_drew ?_ | refine blk_alloc ?_ _)); exact BK360.out) hb)
       have n6_ := Aside0.mk (below_step (by repeat (first | (with_reducible first | exact HB.out | apply below_alloc | apply pw_below_drewN | apply below_drew1 | refine below_set ?_ GE346.out | refine below_set ?_ GE360.out) | exact HB.out)) hb)
       clear HO_8
       clear HO_11
       clear HO_361001
       clear HO369
       clear BK346
       clear BK360
       clear HB
       have HO_8 := n0_
       have HO_11 := n1_
       have HO_361001 := n2_
       have HO369 := n3_
       have BK346 := n4_
       have BK360 := n5_
       have HB := n6_
       clear n0_ n1_ n2_ n3_ n4_ n5_ n6_
       (try clear hb)
       (try clear hb2)
       (try clear hk)
       (try clear hi)
       refine hK.out _ _ ⟨(blk_cell BK360.out 0).trans rfl, (blk_cell BK360.out 1).trans rfl, (blk_cell BK346.out 0).trans rfl, (blk_cell BK346.out 1).trans rfl⟩ (fun hHeld => ?_)
       clear hK K
       refine norm_ (a' := ?_) ?_ ?_
       rotate_left
       ·show Act.put _ (some 55) _ = _
        simp only [Act.put, List.setIfInBounds_toArray, List.set_cons_zero, List.set_cons_succ, i64_w, i32_w]
        rfl
       refine pure_ (i := 4) (N := some 56) (v := ?_) (a' := ?_) #[true, true, true, true, true] rfl rfl (by kernel_rfl) (fun _ _ _ h => h) (Or.inl ⟨by rfl, ?_⟩) ?_ ?_
       rotate_left; (· (intro w'; go_simp; with_reducible rfl)); rotate_left; (· (simp only [Act.put, List.setIfInBounds_toArray, List.set_cons_zero, List.set_cons_succ, i64_w, i32_w]; rfl))
       refine done_ (by kernel_rfl) ?_
       have hnb47 := NB360_346.out
       have hnc47 := NB346_360.out
       have hcz48_0 : w46.cell? ⟨gb360, 0, none⟩ = some (.int .i64 t356) := (blk_cell BK360.out 0).trans rfl
       have hcz48_1 : w46.cell? ⟨gb360, 1, none⟩ = some (.slice Ao29 t357.length co29) := (blk_cell BK360.out 1).trans rfl
       have hfz48_0 := blk_frozen BK360.out 0
       have hfz48_1 := blk_frozen BK360.out 1
       go_upto_region 16 with (first | ((with_reducible refine gate_callee (f := 23) rfl ?_); refine goesA_ (some 59) rfl rfl Tryd.func23 (by kernel_rfl) rfl #[.agg #[.int .i64 t356, .slice Ao29 t357.length co29], .int .i64 1] rfl ?_; (with_reducible refine (laws_markNet.calls kj14 t356 (fun k_ => ownS (Kd.slice 2 (Kd.int .i64)) 38 w46 (fun k_ => ((some k_ ≠ (v353 : Value).ownBlock ∧ (some k_ ≠ (v362 : Value).ownBlock ∧ nq25 ≤ k_)) ∧ some k_ ≠ (.slice Ao45 t367.length co45 : Value).ownBlock)) k_) (.slice Ao29 t357.length co29) t357 1 t371 t372 w _ ?side1 ?side2 A41.out).mono ?_); (case side1 => repeat (first | (with_reducible first | exact HB.out | apply below_alloc | apply pw_below_drewN | apply below_drew1 | refine below_set ?_ GE346.out | refine below_set ?_ GE360.out) | exact HB.out)); (case side2 => exact S_ownS (HO_361001.out)); rintro e w49 ⟨rfl, hy0, hb, hkp⟩; refine ⟨_, rfl, ?_⟩; have n0_ := Aside0.mk (Kd.R_mono (ok' := fun k_ => some k_ ≠ (v362 : Value).ownBlock) (Kd.R_keptB ((Kd.R_mono (ok' := fun k_ => some k_ ≠ (v362 : Value).ownBlock ∧ ¬ ownS (Kd.slice 2 (Kd.int .i64)) 38 w46 (fun k_ => ((some k_ ≠ (v353 : Value).ownBlock ∧ (some k_ ≠ (v362 : Value).ownBlock ∧ nq25 ≤ k_)) ∧ some k_ ≠ (.slice Ao45 t367.length co45 : Value).ownBlock)) k_) (Kd.R_tight2 rfl HO_8.out) (fun k_ hk => ⟨hk.2, fun hp_ => (hp_.1.1.1) hk.1⟩))) hkp (fun k_ hk_ hs_ => (hk_.2) hs_)) (fun k_ hk_ => hk_.1.1)); have n1_ := Aside0.mk (Kd.R_mono (ok' := fun k_ => some k_ ≠ (v353 : Value).ownBlock) (Kd.R_keptB ((Kd.R_mono (ok' := fun k_ => some k_ ≠ (v353 : Value).ownBlock ∧ ¬ ownS (Kd.slice 2 (Kd.int .i64)) 38 w46 (fun k_ => ((some k_ ≠ (v353 : Value).ownBlock ∧ (some k_ ≠ (v362 : Value).ownBlock ∧ nq25 ≤ k_)) ∧ some k_ ≠ (.slice Ao45 t367.length co45 : Value).ownBlock)) k_) (Kd.R_tight2 rfl HO_11.out) (fun k_ hk => ⟨hk.2, fun hp_ => (hp_.1.1.2.1) hk.1⟩))) hkp (fun k_ hk_ hs_ => (hk_.2) hs_)) (fun k_ hk_ => hk_.1.1)); have n2_ := Aside0.mk (Kd.S_mono hy0 (fun _ h_ => h_.1)); have n3_ := Aside0.mk (blk_kept (by (with_reducible repeat (first | refine blk_drewN ?_ _ | refine blk_drew ?_ | refine blk_alloc ?_ _)); exact BK346.out) hkp (fun hs_ => (fun e_ => ownS_not e_ BK346.out (by decide)) hs_)); have n4_ := Aside0.mk (blk_kept (by (with_reducible repeat (first | refine blk_drewN ?_ _ | refine blk_drew ?_ | refine blk_alloc ?_ _)); exact BK360.out) hkp (fun hs_ => (fun e_ => ownS_not e_ BK360.out (by decide)) hs_)); have n5_ := Aside0.mk (hb); clear HO_8; clear HO_11; clear HO_361001; clear BK346; clear BK360; clear HB; clear HO369; have HO_8 := n0_; have HO_11 := n1_; have HO_361001 := n2_; have BK346 := n3_; have BK360 := n4_; have HB := n5_; clear n0_ n1_ n2_ n3_ n4_ n5_; (try clear hb); (try clear hkp); (try clear hy0)))
       (try simp only [Act.put, List.setIfInBounds_toArray, List.set_cons_zero, List.set_cons_succ])
       go_cut [72] (fun v72 wc => ∃ (kq : Nat) (x72_41 : Bool), v72 = .bool x72_41 ∧ Aside0 (laws_FnExactStateMoves.j1 kq a1 a2 t352 t355 t361 x72_41 a0_0 l0_1 = some true) ∧ Aside0 (kq ≤ kj14) ∧ Aside0 (Kd.R (Kd.int .i64) 2 wc w.heap.size (fun k_ => some k_ ≠ (v362 : Value).ownBlock) v353 t352) ∧ Aside0 (Kd.R (Kd.int .i64) 2 wc w.heap.size (fun k_ => some k_ ≠ (v353 : Value).ownBlock) v362 t361) ∧ Aside0 (Kd.S (Kd.slice 2 (Kd.int .i64)) 38 wc w.heap.size (fun k_ => some k_ ≠ (v353 : Value).ownBlock ∧ some k_ ≠ (v362 : Value).ownBlock ∧ nq25 ≤ k_) (.slice Ao29 t357.length co29) t372) ∧ Aside0 (wc.heap[gb346]? = some (.cells #[.int .i64 a0_0, (.slice A0_1 l0_1.length c0_1)] 24 (0, 0))) ∧ Aside0 (wc.heap[gb360]? = some (.cells #[.int .i64 t356, (.slice Ao29 t357.length co29)] 28 (0, 0))) ∧ Aside0 (Below w.heap.size w wc))
       case first =>
        have H := HC42.out
        clear HC42
        by_cases c50 : t371 < 0
        ·rw [if_pos c50] at H
         have c50b0 : decide (t371 < 0) = true := decide_eq_true c50
         clear c50
         (first | rw [c50b0] | (simp only [i64_w, i32_w]; rw [c50b0]) | skip)
         have H' := Aside0.mk H
         clear H
         go_wp2
         go_meet
         case rel => exact ⟨_, (true), (by first | rfl | (simp; done) | (simp [*]; done)), H', ⟨by have := HJ14.out; first | omega | exact Nat.le_refl _⟩, ⟨by (with_reducible repeat (first | apply Kd.R_alloc | apply Kd.R_drewN | apply Kd.R_drew)); exact HO_8.out⟩, ⟨by (with_reducible repeat (first | apply Kd.R_alloc | apply Kd.R_drewN | apply Kd.R_drew)); exact HO_11.out⟩, ⟨by (with_reducible repeat (first | apply Kd.S_alloc | apply Kd.S_drewN | apply Kd.S_drew)); exact Kd.S_mono HO_361001.out (fun _ hk => ⟨hk.1.1, ⟨hk.1.2.1, hk.1.2.2⟩⟩)⟩, ⟨by (with_reducible repeat (first | refine blk_drewN ?_ _ | refine blk_drew ?_ | refine blk_alloc ?_ _)); exact BK346.out⟩, ⟨by (with_reducible repeat (first | refine blk_drewN ?_ _ | refine blk_drew ?_ | refine blk_alloc ?_ _)); exact BK360.out⟩, ⟨by repeat (first | (with_reducible first | exact HB.out | apply below_alloc | apply pw_below_drewN | apply below_drew1 | refine below_set ?_ GE346.out | refine below_set ?_ GE360.out) | exact HB.out)⟩⟩
        ·rw [if_neg c50] at H
         have c50b0 : decide (t371 < 0) = false := decide_eq_false c50
         clear c50
         (first | rw [c50b0] | (simp only [i64_w, i32_w]; rw [c50b0]) | skip)
         replace H := Option.bind_eq_some_iff.mp H
         obtain ⟨t373, A510, H⟩ := H
         replace H : (if t373 = true then (laws_FnExactStateMoves.j1 kj14 a1 a2 t352 t355 t361 (t364 != t355) a0_0 l0_1) else (laws_FnExactStateMoves.j1 kj14 a1 a2 t352 t355 t361 true a0_0 l0_1)) = some true := H
         have A51 := Aside0.mk A510
         clear A510
         by_cases c52 : t373 = true
         ·subst c52
          have H1 : (laws_FnExactStateMoves.j1 kj14 a1 a2 t352 t355 t361 (t364 != t355) a0_0 l0_1) = some true := by rw [if_pos rfl] at H; exact H
          clear H
          have H := H1
          clear H1
          have H' := Aside0.mk H
          clear H
          obtain ⟨Ao53, co53, eo53⟩ := Kd.R_slice HO_11.out
          subst eo53
          obtain ⟨Ao54, co54, eo54⟩ := Kd.R_slice HO_8.out
          subst eo54
          go_wp2_with (first | (go_at_call 22; (with_reducible refine (laws_eqInt64S.calls kj14 _ _ t361 _ _ t352 true _ ?side1 ?side2 ?side3 ?side4 A51.out).mono ?_); (case side1 => repeat (first | exact (Kd.R_reads' HO_11.out).2.2 | (with_reducible refine Kd.C_alloc ?_ _) | (with_reducible refine Kd.C_drewN ?_ _) | (with_reducible refine Kd.C_drew ?_))); (case side2 => exact (Kd.R_reads' HO_11.out).2.1); (case side3 => repeat (first | exact (Kd.R_reads' HO_8.out).2.2 | (with_reducible refine Kd.C_alloc ?_ _) | (with_reducible refine Kd.C_drewN ?_ _) | (with_reducible refine Kd.C_drew ?_))); (case side4 => exact (Kd.R_reads' HO_8.out).2.1); rintro e w' ⟨rfl, ⟨nd, rfl⟩⟩))
          go_meet
          case rel => exact ⟨_, ((t364 != t355)), (by first | rfl | (simp; done) | (simp [*]; done)), H', ⟨by have := HJ14.out; first | omega | exact Nat.le_refl _⟩, ⟨by (with_reducible repeat (first | apply Kd.R_alloc | apply Kd.R_drewN | apply Kd.R_drew)); exact HO_8.out⟩, ⟨by (with_reducible repeat (first | apply Kd.R_alloc | apply Kd.R_drewN | apply Kd.R_drew)); exact HO_11.out⟩, ⟨by (with_reducible repeat (first | apply Kd.S_alloc | apply Kd.S_drewN | apply Kd.S_drew)); exact Kd.S_mono HO_361001.out (fun _ hk => ⟨hk.1.1, ⟨hk.1.2.1, hk.1.2.2⟩⟩)⟩, ⟨by (with_reducible repeat (first | refine blk_drewN ?_ _ | refine blk_drew ?_ | refine blk_alloc ?_ _)); exact BK346.out⟩, ⟨by (with_reducible repeat (first | refine blk_drewN ?_ _ | refine blk_drew ?_ | refine blk_alloc ?_ _)); exact BK360.out⟩, ⟨by repeat (first | (with_reducible first | exact HB.out | apply below_alloc | apply pw_below_drewN | apply below_drew1 | refine below_set ?_ GE346.out | refine below_set ?_ GE360.out) | exact HB.out)⟩⟩
         ·replace c52 := Bool.eq_false_iff.mpr c52
          subst c52
          have H1 : (laws_FnExactStateMoves.j1 kj14 a1 a2 t352 t355 t361 true a0_0 l0_1) = some true := by rw [if_neg (show ¬ (false = true) by decide)] at H; exact H
          clear H
          have H := H1
          clear H1
          have H' := Aside0.mk H
          clear H
          obtain ⟨Ao55, co55, eo55⟩ := Kd.R_slice HO_11.out
          subst eo55
          obtain ⟨Ao56, co56, eo56⟩ := Kd.R_slice HO_8.out
          subst eo56
          go_wp2_with (first | (go_at_call 22; (with_reducible refine (laws_eqInt64S.calls kj14 _ _ t361 _ _ t352 false _ ?side1 ?side2 ?side3 ?side4 A51.out).mono ?_); (case side1 => repeat (first | exact (Kd.R_reads' HO_11.out).2.2 | (with_reducible refine Kd.C_alloc ?_ _) | (with_reducible refine Kd.C_drewN ?_ _) | (with_reducible refine Kd.C_drew ?_))); (case side2 => exact (Kd.R_reads' HO_11.out).2.1); (case side3 => repeat (first | exact (Kd.R_reads' HO_8.out).2.2 | (with_reducible refine Kd.C_alloc ?_ _) | (with_reducible refine Kd.C_drewN ?_ _) | (with_reducible refine Kd.C_drew ?_))); (case side4 => exact (Kd.R_reads' HO_8.out).2.1); rintro e w' ⟨rfl, ⟨nd, rfl⟩⟩))
          go_meet
          case rel => exact ⟨_, (true), (by first | rfl | (simp; done) | (simp [*]; done)), H', ⟨by have := HJ14.out; first | omega | exact Nat.le_refl _⟩, ⟨by (with_reducible repeat (first | apply Kd.R_alloc | apply Kd.R_drewN | apply Kd.R_drew)); exact HO_8.out⟩, ⟨by (with_reducible repeat (first | apply Kd.R_alloc | apply Kd.R_drewN | apply Kd.R_drew)); exact HO_11.out⟩, ⟨by (with_reducible repeat (first | apply Kd.S_alloc | apply Kd.S_drewN | apply Kd.S_drew)); exact Kd.S_mono HO_361001.out (fun _ hk => ⟨hk.1.1, ⟨hk.1.2.1, hk.1.2.2⟩⟩)⟩, ⟨by (with_reducible repeat (first | refine blk_drewN ?_ _ | refine blk_drew ?_ | refine blk_alloc ?_ _)); exact BK346.out⟩, ⟨by (with_reducible repeat (first | refine blk_drewN ?_ _ | refine blk_drew ?_ | refine blk_alloc ?_ _)); exact BK360.out⟩, ⟨by repeat (first | (with_reducible first | exact HB.out | apply below_alloc | apply pw_below_drewN | apply below_drew1 | refine below_set ?_ GE346.out | refine below_set ?_ GE360.out) | exact HB.out)⟩⟩
       case rest =>
        clear HC42
        (try clear c1); (try clear c2); (try clear p2); (try clear q2); (try clear c3); (try clear c4); (try clear c4b0); (try clear c4b1); (try clear c5); (try clear c7); (try clear c7b0); (try clear c9); (try clear c11); (try clear c13); (try clear c20); (try clear c21); (try clear c22); (try clear c23); (try clear q25); (try clear c27); (try clear c32); (try clear c37); (try clear c40); (try clear c47); (try clear c50); (try clear c50b0); (try clear c52); (try clear hcz17_0); (try clear hcz17_1); (try clear hcz19_0); (try clear hcz19_1); (try clear hcz23_0); (try clear hcz23_1); (try clear hcz28_0); (try clear hcz28_1); (try clear hcz48_0); (try clear hcz48_1); (try clear hcz9_0); (try clear hcz9_1); (try clear hfz17_0); (try clear hfz17_1); (try clear hfz19_0); (try clear hfz19_1); (try clear hfz23_0); (try clear hfz23_1); (try clear hfz28_0); (try clear hfz28_1); (try clear hfz48_0); (try clear hfz48_1); (try clear hfz9_0); (try clear hfz9_1); (try clear p2); (try clear q2); (try clear q25)
        obtain ⟨kq, x72_41, rfl, HA, HJ41, HO_8, HO_11, HO_361001, BK346, BK360, HB⟩ := hcut
        have hl361001_41 := (Kd.S_reads' HO_361001.out).1
        rw [hl361001_41] at HO_361001
        (try simp only [hl361001_41])
        (try simp only [hl361001_41] at BK346)
        (try simp only [hl361001_41] at BK360)
        (try simp only [hl361001_41] at HO_8)
        (try simp only [hl361001_41] at HO_11)
        cases kq with
        | zero => exact absurd HA.out (by simp [laws_FnExactStateMoves.j1])
        | succ kj41 =>
         have H := HA.out
         clear HA
         simp only [laws_FnExactStateMoves.j1] at H
         by_cases c57 : x72_41 = true
         ·subst c57
          have H1 : (some false) = some true := by rw [if_pos rfl] at H; exact H
          clear H
          have H := H1
          clear H1
          exact absurd H (by simp)
         ·replace c57 := Bool.eq_false_iff.mpr c57
          subst c57
          have H1 : ((laws_markInt64S.f kj41 t361 1).bind fun bt374 => ((laws_heldInt64S.f kj41 bt374.2 1).bind fun t376 => (if t376 < 0 then (some false) else (if t376 = bt374.1 then ((laws_toNet.f kj41 a0_0 l0_1).bind fun bt377 => ((impl_StateMoves.f kj41 bt377.1 bt377.2 a1 a2).bind fun bt381 => ((laws_eqInt64S.f kj41 bt381.1 t352).bind fun t385 => (if t385 = true then (laws_FnExactStateMoves.j2 kj41 bt374.2 bt374.1 (bt381.2 != t355)) else (laws_FnExactStateMoves.j2 kj41 bt374.2 bt374.1 true))))) else (some false))))) = some true := by rw [if_neg (show ¬ (false = true) by decide)] at H; exact H
          clear H
          have H := H1
          clear H1
          replace H := Option.bind_eq_some_iff.mp H
          obtain ⟨⟨t374, t375⟩, A580, H⟩ := H
          replace H : ((laws_heldInt64S.f kj41 t375 1).bind fun t376 => (if t376 < 0 then (some false) else (if t376 = t374 then ((laws_toNet.f kj41 a0_0 l0_1).bind fun bt377 => ((impl_StateMoves.f kj41 bt377.1 bt377.2 a1 a2).bind fun bt381 => ((laws_eqInt64S.f kj41 bt381.1 t352).bind fun t385 => (if t385 = true then (laws_FnExactStateMoves.j2 kj41 t375 t374 (bt381.2 != t355)) else (laws_FnExactStateMoves.j2 kj41 t375 t374 true))))) else (some false)))) = some true := H
          have A58 := Aside0.mk A580
          clear A580
          replace H := Option.bind_eq_some_iff.mp H
          obtain ⟨t376, A590, H⟩ := H
          replace H : (if t376 < 0 then (some false) else (if t376 = t374 then ((laws_toNet.f kj41 a0_0 l0_1).bind fun bt377 => ((impl_StateMoves.f kj41 bt377.1 bt377.2 a1 a2).bind fun bt381 => ((laws_eqInt64S.f kj41 bt381.1 t352).bind fun t385 => (if t385 = true then (laws_FnExactStateMoves.j2 kj41 t375 t374 (bt381.2 != t355)) else (laws_FnExactStateMoves.j2 kj41 t375 t374 true))))) else (some false))) = some true := H
          have A59 := Aside0.mk A590
          clear A590
          by_cases c60 : t376 < 0
          ·rw [if_pos c60] at H
           have c60b0 : decide (t376 < 0) = true := decide_eq_true c60
           clear c60
           exact absurd H (by simp)
          ·rw [if_neg c60] at H
           have c60b0 : decide (t376 < 0) = false := decide_eq_false c60
           clear c60
           by_cases c63 : t376 = t374
           ·rw [if_pos c63] at H
            have c63b0 : (t376 == t374) = true := beq_iff_eq.mpr c63
            have c63b1 : (t376 != t374) = false := bne_eq_false_iff_eq.mpr c63
            clear c63
            replace H := Option.bind_eq_some_iff.mp H
            obtain ⟨⟨t377, t378⟩, A640, H⟩ := H
            replace H : ((impl_StateMoves.f kj41 t377 t378 a1 a2).bind fun bt381 => ((laws_eqInt64S.f kj41 bt381.1 t352).bind fun t385 => (if t385 = true then (laws_FnExactStateMoves.j2 kj41 t375 t374 (bt381.2 != t355)) else (laws_FnExactStateMoves.j2 kj41 t375 t374 true)))) = some true := H
            have A64 := Aside0.mk A640
            clear A640
            replace H := Option.bind_eq_some_iff.mp H
            obtain ⟨⟨t381, t384⟩, A650, H⟩ := H
            replace H : ((laws_eqInt64S.f kj41 t381 t352).bind fun t385 => (if t385 = true then (laws_FnExactStateMoves.j2 kj41 t375 t374 (t384 != t355)) else (laws_FnExactStateMoves.j2 kj41 t375 t374 true))) = some true := H
            have A65 := Aside0.mk A650
            clear A650
            have HC66 := Aside0.mk H
            clear H
            obtain ⟨Ao67, co67, eo67⟩ := Kd.R_slice HO_11.out
            subst eo67
            go_upto_region 27 with (first | ((with_reducible refine gate_callee (f := 24) rfl ?_); refine goesA_ (some 75) rfl rfl Tryd.func24 (by kernel_rfl) rfl #[.slice Ao67 t361.length co67, .int .i64 1] rfl ?_; (with_reducible refine (laws_markInt64S.calls kj41 (fun k_ => some k_ = (.slice Ao67 t361.length co67 : Value).ownBlock) (.slice Ao67 t361.length co67) t361 1 t374 t375 w _ ?side1 ?side2 A58.out).mono ?_); (case side1 => repeat (first | (with_reducible first | exact HB.out | apply below_alloc | apply pw_below_drewN | apply below_drew1 | refine below_set ?_ GE346.out | refine below_set ?_ GE360.out) | exact HB.out)); (case side2 => exact Kd.R_tight rfl HO_11.out); rintro e w68 ⟨rfl, hy0, hb, hkp⟩; refine ⟨_, rfl, ?_⟩; have n0_ := Aside0.mk (Kd.R_mono (ok' := fun k_ => some k_ ≠ (.slice Ao67 t361.length co67 : Value).ownBlock) (Kd.R_keptB (HO_8.out) hkp (fun k_ hk_ hs_ => (hk_) hs_)) (fun k_ hk_ => hk_.1)); have n1_ := Aside0.mk (Kd.R_reok rfl hy0 (fun k_ e_ => HO_11.out.1 k_ e_)); have n2_ := Aside0.mk (Kd.S_mono (ok' := fun k_ => some k_ ≠ (v353 : Value).ownBlock ∧ some k_ ≠ (.slice Ao67 t361.length co67 : Value).ownBlock ∧ nq25 ≤ k_) (Kd.S_keptB (HO_361001.out) hkp (fun k_ hk_ hs_ => (hk_.2.1) hs_)) (fun k_ hk_ => ⟨hk_.1.1, hk_.1.2.1, hk_.1.2.2⟩)); have n3_ := Aside0.mk (blk_kept (by (with_reducible repeat (first | refine blk_drewN ?_ _ | refine blk_drew ?_ | refine blk_alloc ?_ _)); exact BK346.out) hkp (fun hs_ => (fun e_ => (Kd.R_ne HO_11.out BK346.out (by decide)) e_) hs_)); have n4_ := Aside0.mk (blk_kept (by (with_reducible repeat (first | refine blk_drewN ?_ _ | refine blk_drew ?_ | refine blk_alloc ?_ _)); exact BK360.out) hkp (fun hs_ => (fun e_ => (Kd.R_ne HO_11.out BK360.out (by decide)) e_) hs_)); have n5_ := Aside0.mk (hb); clear HO_8; clear HO_11; clear HO_361001; clear BK346; clear BK360; clear HB; have HO_8 := n0_; have HO_11 := n1_; have HO_361001 := n2_; have BK346 := n3_; have BK360 := n4_; have HB := n5_; clear n0_ n1_ n2_ n3_ n4_ n5_; (try clear hb); (try clear hkp); (try clear hy0)) | ((with_reducible refine gate_callee (f := 25) rfl ?_); refine goesL_ (some 78) rfl rfl Tryd.func25 (by kernel_rfl) rfl #[.slice Ao67 t375.length co67, .int .i64 1] rfl (by (try simp only [List.map_toArray, List.map_cons, List.map_nil]); first | done | (rw [show t375.length = t361.length from (Kd.R_reads' HO_11.out).1.symm] <;> rfl) | rfl | (simp only [List.length_drop, List.length_take]; rfl)) ?_; (with_reducible refine (laws_heldInt64S.calls kj41 _ _ t375 1 t376 _ ?side1 ?side2 A59.out).mono ?_); (case side1 => repeat (first | exact (Kd.R_reads' HO_11.out).2.2 | (with_reducible refine Kd.C_alloc ?_ _) | (with_reducible refine Kd.C_drewN ?_ _) | (with_reducible refine Kd.C_drew ?_))); (case side2 => rw [show t375.length = t361.length from (Kd.R_reads' HO_11.out).1.symm]; exact (Kd.R_reads' HO_11.out).2.1); rintro e w' ⟨rfl, ⟨nd, rfl⟩⟩; refine ⟨_, rfl, ?_⟩; have hnb69 := NB346_360.out; have hnc69 := NB360_346.out; have hcz70_0 : w68.cell? ⟨gb346, 0, none⟩ = some (.int .i64 a0_0) := (blk_cell BK346.out 0).trans rfl; have hcz70_1 : w68.cell? ⟨gb346, 1, none⟩ = some (.slice A0_1 l0_1.length c0_1) := (blk_cell BK346.out 1).trans rfl; have hfz70_0 := blk_frozen BK346.out 0; have hfz70_1 := blk_frozen BK346.out 1) | ((with_reducible refine gate_callee (f := 11) rfl ?_); refine goesA_ (some 86) rfl rfl Tryd.func11 (by kernel_rfl) rfl #[.agg #[.int .i64 a0_0, .slice A0_1 l0_1.length c0_1]] rfl ?_; (with_reducible refine (laws_toNet.calls kj41 a0_0 _ _ l0_1 t377 t378 _ ?side1 ?side2 A64.out).mono ?_); (case side1 => repeat (first | exact (Kd.C_below HR0_1.out (by repeat (first | (with_reducible first | exact HB.out | apply below_alloc | apply pw_below_drewN | apply below_drew1 | refine below_set ?_ GE346.out | refine below_set ?_ GE360.out) | exact HB.out))) | (with_reducible refine Kd.C_alloc ?_ _) | (with_reducible refine Kd.C_drewN ?_ _) | (with_reducible refine Kd.C_drew ?_))); (case side2 => exact HC0_1.out); rintro e w71 ⟨v379, rfl, ho0, hb⟩; refine ⟨_, rfl, ?_⟩; obtain ⟨nq72, hi⟩ := nq_of hb; have n0_ := Aside0.mk (Kd.R_below (by (with_reducible repeat (first | apply Kd.R_alloc | apply Kd.R_drewN | apply Kd.R_drew)); exact HO_8.out) hb); have n1_ := Aside0.mk (Kd.R_below (by (with_reducible repeat (first | apply Kd.R_alloc | apply Kd.R_drewN | apply Kd.R_drew)); exact HO_11.out) hb); have n2_ := Aside0.mk (Kd.S_elder' (S_ltN (by (with_reducible repeat (first | apply Kd.S_alloc | apply Kd.S_drewN | apply Kd.S_drew)); exact HO_361001.out) hi) (Kd.S_base ho0) hb); have n3_ := Aside0.mk (Kd.S_lower (Kd.S_new' (Kd.S_new' (Kd.S_new' (S_geN ho0 hi) (Kd.R_lt (by (with_reducible repeat (first | apply Kd.R_alloc | apply Kd.R_drewN | apply Kd.R_drew)); exact HO_8.out))) (Kd.R_lt (by (with_reducible repeat (first | apply Kd.R_alloc | apply Kd.R_drewN | apply Kd.R_drew)); exact HO_11.out))) (Kd.S_lt (by (with_reducible repeat (first | apply Kd.S_alloc | apply Kd.S_drewN | apply Kd.S_drew)); exact HO_361001.out))) (below_size (by repeat (first | (with_reducible first | exact HB.out | apply below_alloc | apply pw_below_drewN | apply below_drew1 | refine below_set ?_ GE346.out | refine below_set ?_ GE360.out) | exact HB.out)))); have n4_ := Aside0.mk (blk_below (g := gb346) (o := .cells #[.int .i64 a0_0, .slice A0_1 l0_1.length c0_1] 24 (0, 0)) (by (with_reducible repeat (first | refine blk_drewN ?_ _ | refine blk_drew ?_ | refine blk_alloc ?_ _)); exact BK346.out) hb); have n5_ := Aside0.mk (blk_below (g := gb360) (o := .cells #[.int .i64 t356, .slice Ao29 t372.length co29] 28 (0, 0)) (by (with_reducible repeat (first | refine blk_drewN ?_ _ | refine blk_drew ?_ | refine blk_alloc ?_ _)); exact BK360.out) hb); have n6_ := Aside0.mk (below_step (by repeat (first | (with_reducible first | exact HB.out | apply below_alloc | apply pw_below_drewN | apply below_drew1 | refine below_set ?_ GE346.out | refine below_set ?_ GE360.out) | exact HB.out)) hb); clear HO_8; clear HO_11; clear HO_361001; clear BK346; clear BK360; clear HB; have HO_8 := n0_; have HO_11 := n1_; have HO_361001 := n2_; have HO380 := n3_; have BK346 := n4_; have BK360 := n5_; have HB := n6_; clear n0_ n1_ n2_ n3_ n4_ n5_ n6_; (try clear hb); (try clear hb2); (try clear hk); (try clear hi); (try clear ho0); obtain ⟨Ao73, co73, eo73⟩ := Kd.S_slice HO380.out; subst eo73) | ((with_reducible refine gate_callee (f := 21) rfl ?_); refine goesA_ (some 89) rfl rfl Tryd.func21 (by kernel_rfl) rfl #[.agg #[.int .i64 t377, .slice Ao73 t378.length co73], .string a1, .bool a2] rfl ?_; (with_reducible refine (impl_StateMoves.calls kj41 t377 _ _ t378 a1 a2 t381 t384 _ ?side1 ?side2 A65.out).mono ?_); (case side1 => repeat (first | exact (Kd.S_reads' HO380.out).2.2 | (with_reducible refine Kd.C_alloc ?_ _) | (with_reducible refine Kd.C_drewN ?_ _) | (with_reducible refine Kd.C_drew ?_))); (case side2 => exact (Kd.S_reads' HO380.out).2.1); rintro e w74 ⟨v382, rfl, ho0, hb⟩; refine ⟨_, rfl, ?_⟩; have n0_ := Aside0.mk (Kd.R_elder' (by (with_reducible repeat (first | apply Kd.R_alloc | apply Kd.R_drewN | apply Kd.R_drew)); exact HO_8.out) (Kd.R_base ho0) hb); have n1_ := Aside0.mk (Kd.R_elder' (by (with_reducible repeat (first | apply Kd.R_alloc | apply Kd.R_drewN | apply Kd.R_drew)); exact HO_11.out) (Kd.R_base ho0) hb); have n2_ := Aside0.mk (Kd.S_elder' (by (with_reducible repeat (first | apply Kd.S_alloc | apply Kd.S_drewN | apply Kd.S_drew)); exact HO_361001.out) (Kd.R_base ho0) hb); have n3_ := Aside0.mk (Kd.S_elder' (by (with_reducible repeat (first | apply Kd.S_alloc | apply Kd.S_drewN | apply Kd.S_drew)); exact HO380.out) (Kd.R_base ho0) hb); have n4_ := Aside0.mk (Kd.R_lower (Kd.R_new' (Kd.R_new' ho0 (Kd.R_lt (by (with_reducible repeat (first | apply Kd.R_alloc | apply Kd.R_drewN | apply Kd.R_drew)); exact HO_8.out))) (Kd.R_lt (by (with_reducible repeat (first | apply Kd.R_alloc | apply Kd.R_drewN | apply Kd.R_drew)); exact HO_11.out))) (below_size (by repeat (first | (with_reducible first | exact HB.out | apply below_alloc | apply pw_below_drewN | apply below_drew1 | refine below_set ?_ GE346.out | refine below_set ?_ GE360.out) | exact HB.out)))); have n5_ := Aside0.mk (blk_below (g := gb346) (o := .cells #[.int .i64 a0_0, .slice A0_1 l0_1.length c0_1] 24 (0, 0)) (by (with_reducible repeat (first | refine blk_drewN ?_ _ | refine blk_drew ?_ | refine blk_alloc ?_ _)); exact BK346.out) hb); have n6_ := Aside0.mk (blk_below (g := gb360) (o := .cells #[.int .i64 t356, .slice Ao29 t372.length co29] 28 (0, 0)) (by (with_reducible repeat (first | refine blk_drewN ?_ _ | refine blk_drew ?_ | refine blk_alloc ?_ _)); exact BK360.out) hb); have n7_ := Aside0.mk (below_step (by repeat (first | (with_reducible first | exact HB.out | apply below_alloc | apply pw_below_drewN | apply below_drew1 | refine below_set ?_ GE346.out | refine below_set ?_ GE360.out) | exact HB.out)) hb); clear HO_8; clear HO_11; clear HO_361001; clear HO380; clear BK346; clear BK360; clear HB; have HO_8 := n0_; have HO_11 := n1_; have HO_361001 := n2_; have HO380 := n3_; have HO383 := n4_; have BK346 := n5_; have BK360 := n6_; have HB := n7_; clear n0_ n1_ n2_ n3_ n4_ n5_ n6_ n7_; (try clear hb); (try clear hb2); (try clear hk); (try clear hi); (try clear ho0)))
            (try simp only [Act.put, List.setIfInBounds_toArray, List.set_cons_zero, List.set_cons_succ])
            go_cut [100] (fun v100 wc => ∃ (kq : Nat) (x100_65 : Bool), v100 = .bool x100_65 ∧ Aside0 (laws_FnExactStateMoves.j2 kq t375 t374 x100_65 = some true) ∧ Aside0 (kq ≤ kj41) ∧ Aside0 (Kd.R (Kd.int .i64) 2 wc w.heap.size (fun _ => True) (.slice Ao67 t361.length co67) t375) ∧ Aside0 (Kd.S (Kd.slice 2 (Kd.int .i64)) 38 wc w.heap.size (fun k_ => some k_ ≠ ((.slice Ao67 t361.length co67) : Value).ownBlock ∧ nq25 ≤ k_ ∧ k_ < nq72) (.slice Ao29 t372.length co29) t372) ∧ Aside0 (wc.heap[gb346]? = some (.cells #[.int .i64 a0_0, (.slice A0_1 l0_1.length c0_1)] 24 (0, 0))) ∧ Aside0 (wc.heap[gb360]? = some (.cells #[.int .i64 t356, (.slice Ao29 t372.length co29)] 28 (0, 0))) ∧ Aside0 (Below w.heap.size w wc))
            case first =>
             have H := HC66.out
             clear HC66
             replace H := Option.bind_eq_some_iff.mp H
             obtain ⟨t385, A750, H⟩ := H
             replace H : (if t385 = true then (laws_FnExactStateMoves.j2 kj41 t375 t374 (t384 != t355)) else (laws_FnExactStateMoves.j2 kj41 t375 t374 true)) = some true := H
             have A75 := Aside0.mk A750
             clear A750
             by_cases c76 : t385 = true
             ·subst c76
              have H1 : (laws_FnExactStateMoves.j2 kj41 t375 t374 (t384 != t355)) = some true := by rw [if_pos rfl] at H; exact H
              clear H
              have H := H1
              clear H1
              have H' := Aside0.mk H
              clear H
              obtain ⟨Ao77, co77, eo77⟩ := Kd.R_slice HO383.out
              subst eo77
              obtain ⟨Ao78, co78, eo78⟩ := Kd.R_slice HO_8.out
              subst eo78
              go_wp2_with (first | ((with_reducible refine gate_callee (f := 22) rfl ?_); refine goesA_ (some 94) rfl rfl Tryd.func22 (by kernel_rfl) rfl #[.slice Ao77 t381.length co77, .slice Ao78 t352.length co78] rfl ?_; (with_reducible refine (laws_eqInt64S.calls kj41 _ _ t381 _ _ t352 true _ ?side1 ?side2 ?side3 ?side4 A75.out).mono ?_); (case side1 => repeat (first | exact (Kd.R_reads' HO383.out).2.2 | (with_reducible refine Kd.C_alloc ?_ _) | (with_reducible refine Kd.C_drewN ?_ _) | (with_reducible refine Kd.C_drew ?_))); (case side2 => exact (Kd.R_reads' HO383.out).2.1); (case side3 => repeat (first | exact (Kd.R_reads' HO_8.out).2.2 | (with_reducible refine Kd.C_alloc ?_ _) | (with_reducible refine Kd.C_drewN ?_ _) | (with_reducible refine Kd.C_drew ?_))); (case side4 => exact (Kd.R_reads' HO_8.out).2.1); rintro e w' ⟨rfl, ⟨nd, rfl⟩⟩; refine ⟨_, rfl, ?_⟩))
              go_meet
              case rel => exact ⟨_, ((t384 != t355)), (by first | rfl | (simp; done) | (simp [*]; done)), H', ⟨by have := HJ14.out; have := HJ41.out; first | omega | exact Nat.le_refl _⟩, ⟨by (try simp only [hl361001_41]); (with_reducible repeat (first | apply Kd.R_alloc | apply Kd.R_drewN | apply Kd.R_drew)); exact Kd.R_mono HO_11.out (fun _ hk => trivial)⟩, ⟨by (try simp only [hl361001_41]); (with_reducible repeat (first | apply Kd.S_alloc | apply Kd.S_drewN | apply Kd.S_drew)); exact Kd.S_mono HO_361001.out (fun _ hk => ⟨hk.1.1.1.2.1, ⟨hk.1.1.1.2.2, hk.1.1.2⟩⟩)⟩, ⟨by (try simp only [hl361001_41]); (with_reducible repeat (first | refine blk_drewN ?_ _ | refine blk_drew ?_ | refine blk_alloc ?_ _)); exact BK346.out⟩, ⟨by (try simp only [hl361001_41]); (with_reducible repeat (first | refine blk_drewN ?_ _ | refine blk_drew ?_ | refine blk_alloc ?_ _)); exact BK360.out⟩, ⟨by repeat (first | (with_reducible first | exact HB.out | apply below_alloc | apply pw_below_drewN | apply below_drew1 | refine below_set ?_ GE346.out | refine below_set ?_ GE360.out) | exact HB.out)⟩⟩
             ·replace c76 := Bool.eq_false_iff.mpr c76
              subst c76
              have H1 : (laws_FnExactStateMoves.j2 kj41 t375 t374 true) = some true := by rw [if_neg (show ¬ (false = true) by decide)] at H; exact H
              clear H
              have H := H1
              clear H1
              have H' := Aside0.mk H
              clear H
              obtain ⟨Ao79, co79, eo79⟩ := Kd.R_slice HO383.out
              subst eo79
              obtain ⟨Ao80, co80, eo80⟩ := Kd.R_slice HO_8.out
              subst eo80
              go_wp2_with (first | ((with_reducible refine gate_callee (f := 22) rfl ?_); refine goesA_ (some 94) rfl rfl Tryd.func22 (by kernel_rfl) rfl #[.slice Ao79 t381.length co79, .slice Ao80 t352.length co80] rfl ?_; (with_reducible refine (laws_eqInt64S.calls kj41 _ _ t381 _ _ t352 false _ ?side1 ?side2 ?side3 ?side4 A75.out).mono ?_); (case side1 => repeat (first | exact (Kd.R_reads' HO383.out).2.2 | (with_reducible refine Kd.C_alloc ?_ _) | (with_reducible refine Kd.C_drewN ?_ _) | (with_reducible refine Kd.C_drew ?_))); (case side2 => exact (Kd.R_reads' HO383.out).2.1); (case side3 => repeat (first | exact (Kd.R_reads' HO_8.out).2.2 | (with_reducible refine Kd.C_alloc ?_ _) | (with_reducible refine Kd.C_drewN ?_ _) | (with_reducible refine Kd.C_drew ?_))); (case side4 => exact (Kd.R_reads' HO_8.out).2.1); rintro e w' ⟨rfl, ⟨nd, rfl⟩⟩; refine ⟨_, rfl, ?_⟩))
              go_meet
              case rel => exact ⟨_, (true), (by first | rfl | (simp; done) | (simp [*]; done)), H', ⟨by have := HJ14.out; have := HJ41.out; first | omega | exact Nat.le_refl _⟩, ⟨by (try simp only [hl361001_41]); (with_reducible repeat (first | apply Kd.R_alloc | apply Kd.R_drewN | apply Kd.R_drew)); exact Kd.R_mono HO_11.out (fun _ hk => trivial)⟩, ⟨by (try simp only [hl361001_41]); (with_reducible repeat (first | apply Kd.S_alloc | apply Kd.S_drewN | apply Kd.S_drew)); exact Kd.S_mono HO_361001.out (fun _ hk => ⟨hk.1.1.1.2.1, ⟨hk.1.1.1.2.2, hk.1.1.2⟩⟩)⟩, ⟨by (try simp only [hl361001_41]); (with_reducible repeat (first | refine blk_drewN ?_ _ | refine blk_drew ?_ | refine blk_alloc ?_ _)); exact BK346.out⟩, ⟨by (try simp only [hl361001_41]); (with_reducible repeat (first | refine blk_drewN ?_ _ | refine blk_drew ?_ | refine blk_alloc ?_ _)); exact BK360.out⟩, ⟨by repeat (first | (with_reducible first | exact HB.out | apply below_alloc | apply pw_below_drewN | apply below_drew1 | refine below_set ?_ GE346.out | refine below_set ?_ GE360.out) | exact HB.out)⟩⟩
            case rest =>
             clear HC66
             (try clear c1); (try clear c2); (try clear p2); (try clear q2); (try clear c3); (try clear c4); (try clear c4b0); (try clear c4b1); (try clear c5); (try clear c6); (try clear c7); (try clear c7b0); (try clear q7); (try clear c9); (try clear c11); (try clear c13); (try clear c20); (try clear c21); (try clear c22); (try clear c23); (try clear c24); (try clear c25); (try clear q25); (try clear c27); (try clear c32); (try clear c37); (try clear c40); (try clear c47); (try clear c50); (try clear c50b0); (try clear c52); (try clear c57); (try clear c60); (try clear c60b0); (try clear c63); (try clear c63b0); (try clear c63b1); (try clear c69); (try clear q72); (try clear c76); (try clear hcz17_0); (try clear hcz17_1); (try clear hcz19_0); (try clear hcz19_1); (try clear hcz23_0); (try clear hcz23_1); (try clear hcz28_0); (try clear hcz28_1); (try clear hcz48_0); (try clear hcz48_1); (try clear hcz70_0); (try clear hcz70_1); (try clear hcz9_0); (try clear hcz9_1); (try clear hfz17_0); (try clear hfz17_1); (try clear hfz19_0); (try clear hfz19_1); (try clear hfz23_0); (try clear hfz23_1); (try clear hfz28_0); (try clear hfz28_1); (try clear hfz48_0); (try clear hfz48_1); (try clear hfz70_0); (try clear hfz70_1); (try clear hfz9_0); (try clear hfz9_1); (try clear p2); (try clear q2); (try clear q25)
             obtain ⟨kq, x100_65, rfl, HA, HJ65, HO_11, HO_361001, BK346, BK360, HB⟩ := hcut
             have hl11_65 := (Kd.R_reads' HO_11.out).1
             rw [hl11_65] at HO_11
             (try simp only [hl11_65])
             (try simp only [hl11_65] at BK346)
             (try simp only [hl11_65] at BK360)
             (try simp only [hl11_65] at HO_361001)
             cases kq with
             | zero => exact absurd HA.out (by simp [laws_FnExactStateMoves.j2])
             | succ kj65 =>
              have H := HA.out
              clear HA
              simp only [laws_FnExactStateMoves.j2] at H
              by_cases c81 : x100_65 = true
              ·subst c81
               have H1 : (some false) = some true := by rw [if_pos rfl] at H; exact H
               clear H
               have H := H1
               clear H1
               exact absurd H (by simp)
              ·replace c81 := Bool.eq_false_iff.mpr c81
               subst c81
               have H1 : ((laws_heldInt64S.f kj65 t375 1).bind fun t386 => (if t386 < 0 then (some false) else (if t386 = t374 then (some true) else (some false)))) = some true := by rw [if_neg (show ¬ (false = true) by decide)] at H; exact H
               clear H
               have H := H1
               clear H1
               replace H := Option.bind_eq_some_iff.mp H
               obtain ⟨t386, A820, H⟩ := H
               replace H : (if t386 < 0 then (some false) else (if t386 = t374 then (some true) else (some false))) = some true := H
               have A82 := Aside0.mk A820
               clear A820
               by_cases c83 : t386 < 0
               ·rw [if_pos c83] at H
                have c83b0 : decide (t386 < 0) = true := decide_eq_true c83
                clear c83
                exact absurd H (by simp)
               ·rw [if_neg c83] at H
                have c83b0 : decide (t386 < 0) = false := decide_eq_false c83
                clear c83
                by_cases c84 : t386 = t374
                ·rw [if_pos c84] at H
                 have c84b0 : (t386 == t374) = true := beq_iff_eq.mpr c84
                 have c84b1 : (t386 != t374) = false := bne_eq_false_iff_eq.mpr c84
                 clear c84
                 clear H
                 go_wp2_with (first | ((with_reducible refine gate_callee (f := 25) rfl ?_); refine goesA_ (some 103) rfl rfl Tryd.func25 (by kernel_rfl) rfl #[.slice Ao67 t375.length co67, .int .i64 1] rfl ?_; (with_reducible refine (laws_heldInt64S.calls kj65 _ _ t375 1 t386 _ ?side1 ?side2 A82.out).mono ?_); (case side1 => repeat (first | exact (Kd.R_reads' HO_11.out).2.2 | (with_reducible refine Kd.C_alloc ?_ _) | (with_reducible refine Kd.C_drewN ?_ _) | (with_reducible refine Kd.C_drew ?_))); (case side2 => exact (Kd.R_reads' HO_11.out).2.1); rintro e w' ⟨rfl, ⟨nd, rfl⟩⟩; refine ⟨_, rfl, ?_⟩))
                 go_ret
                 exact ⟨by first | rfl | (simp [errW_none, errW_some] <;> rfl) | (simp [*, errW_none, errW_some] <;> rfl), by repeat (first | (with_reducible first | exact HB.out | apply below_alloc | apply pw_below_drewN | apply below_drew1 | refine below_set ?_ GE346.out | refine below_set ?_ GE360.out) | exact HB.out)⟩
                ·rw [if_neg c84] at H
                 have c84b0 : (t386 == t374) = false := beq_eq_false_iff_ne.mpr c84
                 have c84b1 : (t386 != t374) = true := bne_iff_ne.mpr c84
                 exact absurd H (by simp)
           ·rw [if_neg c63] at H
            have c63b0 : (t376 == t374) = false := beq_eq_false_iff_ne.mpr c63
            have c63b1 : (t376 != t374) = true := bne_iff_ne.mpr c63
            exact absurd H (by simp)
      ·replace c40 := Bool.eq_false_iff.mpr c40
       subst c40
       have H1 : (some false) = some true := by rw [if_neg (show ¬ (false = true) by decide)] at H; exact H
       clear H
       have H := H1
       clear H1
       exact absurd H (by simp)
-- What the verifier writes into results, and finds there again.
def countUp : Int → Nat → List Int
  | _, 0 => []
  | m, n + 1 => m :: countUp (m + 1) n
theorem countUp_len : ∀ (n : Nat) (m : Int), (countUp m n).length = n
  | 0, _ => rfl
  | n + 1, m => by simp [countUp, countUp_len n]
theorem countUp_get : ∀ (n : Nat) (m : Int) (i : Nat) (h : i < (countUp m n).length), (countUp m n)[i] = m + i
  | 0, m, i, h => by simp [countUp] at h
  | n + 1, m, 0, h => by simp [countUp]
  | n + 1, m, i + 1, h => by
    have := countUp_get n (m + 1) i (by simpa [countUp] using h)
    simp only [countUp, List.getElem_cons_succ]
    rw [this]; omega
theorem mark_l0 (m0 : Int) (h0 : 0 ≤ m0) : ∀ (d i : Nat) (x : List Int), i + d = x.length → m0 + x.length ≤ 4611686018427387904 → (∀ (j : Nat) (hj : j < x.length), j < i → x[j] = m0 + j) →
    Ev (fun k => laws_markInt64S.l0 k x (m0 + i) i) (m0 + x.length, countUp m0 x.length) := by
  intro d
  induction d with
  | zero =>
    intro i x hi hb hx
    have e : x = countUp m0 x.length := by
      apply List.ext_getElem
      · rw [countUp_len]
      · intro j h1 h2
        rw [hx j h1 (by omega), countUp_get]
    refine Ev.step (f := fun _ => some (m0 + x.length, countUp m0 x.length)) (fun k => ?_) (Ev.now _)
    simp only [laws_markInt64S.l0]
    rw [if_neg (by omega), ← e]
    have : i = x.length := by omega
    rw [this]
  | succ d ih =>
    intro i x hi hb hx
    have hlt : i < x.length := by omega
    have := ih (i + 1) (x.set i (m0 + i)) (by simp; omega) (by simpa using hb) (fun j hj hji => by
      rw [List.getElem_set]
      split
      · rename_i e; rw [e]
      · rename_i e; exact hx j (by simpa using hj) (by omega))
    rw [List.length_set] at this
    refine Ev.step (fun k => ?_) this
    have w1 : wrap64 (m0 + i + 1) = m0 + ((i + 1 : Nat) : Int) := by unfold wrap64; omega
    have w2 : wrap64 ((i : Int) + 1) = ((i + 1 : Nat) : Int) := by unfold wrap64; omega
    simp only [laws_markInt64S.l0]
    rw [if_pos (by omega), if_pos (by omega), w1, w2, Int.toNat_natCast]
theorem mark_ev (m : Int) (h0 : 0 ≤ m) (x : List Int) (hb : m + x.length ≤ 4611686018427387904) : Ev (fun k => laws_markInt64S.f k x m) (m + x.length, countUp m x.length) := by
  have := mark_l0 m h0 x.length 0 x (by omega) hb (fun j _ h => by omega)
  refine Ev.congr (fun k => ?_) this
  unfold laws_markInt64S.f
  simp
theorem held_l0 (m0 : Int) (h0 : 0 ≤ m0) (x : List Int) (hb : m0 + x.length ≤ 4611686018427387904) (hx : ∀ (j : Nat) (hj : j < x.length), x[j] = m0 + j) : ∀ (d i : Nat), i + d = x.length →
    Ev (fun k => laws_heldInt64S.l0 k x (m0 + i) i) (m0 + x.length) := by
  intro d
  induction d with
  | zero =>
    intro i hi
    refine Ev.step (f := fun _ => some (m0 + x.length)) (fun k => ?_) (Ev.now _)
    simp only [laws_heldInt64S.l0]
    rw [if_neg (by omega)]
    have : i = x.length := by omega
    rw [this]
  | succ d ih =>
    intro i hi
    have hlt : i < x.length := by omega
    refine Ev.step (fun k => ?_) (ih (i + 1) (by omega))
    have w1 : wrap64 (m0 + i + 1) = m0 + ((i + 1 : Nat) : Int) := by unfold wrap64; omega
    have w2 : wrap64 ((i : Int) + 1) = ((i + 1 : Nat) : Int) := by unfold wrap64; omega
    simp only [laws_heldInt64S.l0]
    rw [if_pos (by omega), if_pos (by omega), rd_get x i hlt, hx i hlt, if_pos rfl, w1, w2]
theorem held_ev (m : Int) (h0 : 0 ≤ m) (n : Nat) (hb : m + n ≤ 4611686018427387904) : Ev (fun k => laws_heldInt64S.f k (countUp m n) m) (m + n) := by
  have := held_l0 m h0 (countUp m n) (by rw [countUp_len]; exact hb) (fun j hj => countUp_get n m j hj) n 0 (by rw [countUp_len]; omega)
  rw [countUp_len] at this
  refine Ev.congr (fun k => ?_) this
  unfold laws_heldInt64S.f
  simp
-- The same, for rows of rows.
def countUpSS : Int → List (List Int) → List (List Int)
  | _, [] => []
  | m, x :: r => countUp m x.length :: countUpSS (m + x.length) r
theorem markSS_l0 (tot : Int) (hb : tot ≤ 4611686018427387904) : ∀ (r pre : List (List Int)) (m : Int), 0 ≤ m → m + sumLen r = tot → (pre ++ r).length ≤ 4611686018427387904 →
    Ev (fun k => laws_markInt64SS.l0 k (pre ++ r) m (pre.length : Nat)) (tot, pre ++ countUpSS m r) := by
  intro r
  induction r with
  | nil =>
    intro pre m h0 ht hl
    refine Ev.step (f := fun _ => some (tot, pre ++ [])) (fun k => ?_) (Ev.now _)
    simp only [laws_markInt64SS.l0]
    have e : m = tot := by simpa [sumLen] using ht
    rw [if_neg (by simp), e]
  | cons x r ih =>
    intro pre m h0 ht hl
    have hs : sumLen (x :: r) = x.length + sumLen r := rfl
    have hn := sumLen_nonneg r
    have hm := mark_ev m h0 x (by omega)
    have := ih (pre ++ [countUp m x.length]) (m + x.length) (by omega) (by omega) (by simpa using hl)
    have e1 : pre ++ [countUp m x.length] ++ r = (pre ++ x :: r).set pre.length (countUp m x.length) := by simp
    have e2 : pre ++ [countUp m x.length] ++ countUpSS (m + x.length) r = pre ++ countUpSS m (x :: r) := by simp [countUpSS]
    rw [e1, e2] at this
    have hlen : (pre ++ x :: r).length = pre.length + r.length + 1 := by simp; omega
    have w2 : wrap64 ((pre.length : Int) + 1) = (((pre ++ [countUp m x.length]).length : Nat) : Int) := by rw [List.length_append]; unfold wrap64; simp; omega
    refine Ev.step (f := fun k => (laws_markInt64S.f k x m).bind fun r_ => laws_markInt64SS.l0 k ((pre ++ x :: r).set pre.length r_.2) r_.1 (((pre ++ [countUp m x.length]).length : Nat) : Int)) (fun k => ?_) (Ev.bind hm this)
    simp only [laws_markInt64SS.l0]
    rw [if_pos (by omega), if_pos (by omega), Int.toNat_natCast, w2]
    have : (pre ++ x :: r).getD pre.length [] = x := by simp
    rw [this]
theorem markSS_ev (m : Int) (h0 : 0 ≤ m) (l : List (List Int)) (hb : m + sumLen l ≤ 4611686018427387904) (hl : l.length ≤ 4611686018427387904) : Ev (fun k => laws_markInt64SS.f k l m) (m + sumLen l, countUpSS m l) := by
  have := markSS_l0 (m + sumLen l) hb l [] m h0 rfl (by simpa using hl)
  exact this
theorem sumLen_bound : ∀ (l : List (List Int)), (∀ x ∈ l, x.length ≤ 1048576) → sumLen l ≤ l.length * 1048576
  | [], _ => by simp [sumLen]
  | x :: r, h => by
    have h1 := h x (by simp)
    have h2 := sumLen_bound r (fun y hy => h y (List.mem_cons_of_mem _ hy))
    have hs : sumLen (x :: r) = x.length + sumLen r := rfl
    rw [hs, List.length_cons]
    omega
-- needs: 61 (short never minds a better state, nor to move)
def ValidS (s : ByteArray) : Prop := ∀ i : Nat, i < s.size → bt s (i : Int) = 46 ∨ bt s (i : Int) = 115 ∨ bt s (i : Int) = 99
def LeS (s t : ByteArray) : Prop := s.size = t.size ∧ ∀ i : Nat, i < s.size → (bt s (i : Int) = 115 → bt t (i : Int) = 115) ∧ (bt t (i : Int) = 99 → bt s (i : Int) = 99)
theorem LeS.refl (s : ByteArray) : LeS s s := ⟨rfl, fun _ _ => ⟨id, id⟩⟩
theorem LeS.trans {s t u : ByteArray} (h : LeS s t) (k : LeS t u) : LeS s u :=
  ⟨h.1.trans k.1, fun i hi => ⟨fun e => (k.2 i (by have := h.1; omega)).1 ((h.2 i hi).1 e), fun e => (h.2 i hi).2 ((k.2 i (by have := h.1; omega)).2 e)⟩⟩
theorem mem_freeV {s : ByteArray} {x : Int} : x ∈ freeV s ↔ ∃ j : Nat, x = (j : Int) ∧ j < s.size ∧ bt s (j : Int) = 46 := by
  unfold freeV
  rw [mem_chosenTo]
  constructor
  · rintro ⟨h0, h1, h2⟩
    refine ⟨x.toNat, by omega, by omega, ?_⟩
    have e : ((x.toNat : Nat) : Int) = x := by omega
    rw [e]; exact beq_iff_eq.1 h2
  · rintro ⟨j, rfl, hj, h⟩
    exact ⟨by omega, by omega, beq_iff_eq.2 h⟩
theorem validS_after {s : ByteArray} (h : ValidS s) (j : Nat) (b : Bool) (hj : j < s.size) : ValidS (afterV s j b) := by
  intro i hi
  rw [afterV_size s j b hj] at hi
  rw [afterV_bt s j b hj i hi]
  split
  · cases b <;> simp
  · exact h i hi-- The reference's winner: sets by bits, what is known by numbers.
def bitsN (p : Nat → Bool) : Nat → Nat
  | 0 => 0
  | i + 1 => if p i = true then bitsN p i ||| 2 ^ i else bitsN p i
theorem bitsN_bit (p : Nat → Bool) : ∀ n j, (bitsN p n).testBit j = (decide (j < n) && p j)
  | 0, j => by simp [bitsN]
  | n + 1, j => by
    have ih := bitsN_bit p n j
    unfold bitsN
    by_cases h : p n = true
    · rw [if_pos h, Nat.testBit_or, ih, Nat.testBit_two_pow]
      by_cases e : n = j
      · subst e; simp [h]
      · by_cases hlt : j < n
        · simp [hlt, e, Nat.lt_succ_of_lt hlt]
        · have : ¬ j < n + 1 := by omega
          simp [hlt, e, this]
    · rw [if_neg h, ih]
      by_cases e : n = j
      · subst e; simp [h]
      · by_cases hlt : j < n
        · simp [hlt, Nat.lt_succ_of_lt hlt]
        · have : ¬ j < n + 1 := by omega
          simp [hlt, this]
theorem bitsN_lt (p : Nat → Bool) : ∀ n, bitsN p n < 2 ^ n
  | 0 => by simp [bitsN]
  | n + 1 => by
    have ih := bitsN_lt p n
    have e : 2 ^ (n + 1) = 2 ^ n * 2 := Nat.pow_succ 2 n
    unfold bitsN
    split
    · exact Nat.or_lt_two_pow (by omega) (by rw [e]; have := Nat.two_pow_pos n; omega)
    · omega
def keptS (s : ByteArray) : Nat := bitsN (fun i => bt s (i : Int) == 115) s.size
def outS (s : ByteArray) : Nat := bitsN (fun i => bt s (i : Int) == 99) s.size
def numS (s : ByteArray) (b : Bool) : Nat := (keptS s * 2 ^ s.size + outS s) * 2 + (if b then 0 else 1)
theorem keptS_after (s : ByteArray) (j : Nat) (b : Bool) (hj : j < s.size) (hf : bt s (j : Int) = 46) : keptS (afterV s j b) = if b then keptS s ||| 2 ^ j else keptS s := by
  unfold keptS
  rw [afterV_size s j b hj]
  apply Nat.eq_of_testBit_eq
  intro x
  rw [bitsN_bit]
  cases b with
  | true =>
    rw [if_pos rfl, Nat.testBit_or, bitsN_bit, Nat.testBit_two_pow]
    by_cases hx : x < s.size
    · rw [afterV_bt s j true hj x hx]
      by_cases e : x = j
      · subst e; simp [hx]
      · rw [if_neg e]; simp [hx, Ne.symm e]
    · have : j ≠ x := by omega
      simp [hx, this]
  | false =>
    rw [if_neg (by simp), bitsN_bit]
    by_cases hx : x < s.size
    · rw [afterV_bt s j false hj x hx]
      by_cases e : x = j
      · subst e; simp [hx, hf]
      · rw [if_neg e]
    · simp [hx]
theorem outS_after (s : ByteArray) (j : Nat) (b : Bool) (hj : j < s.size) (hf : bt s (j : Int) = 46) : outS (afterV s j b) = if b then outS s else outS s ||| 2 ^ j := by
  unfold outS
  rw [afterV_size s j b hj]
  apply Nat.eq_of_testBit_eq
  intro x
  rw [bitsN_bit]
  cases b with
  | false =>
    rw [if_neg (by simp), Nat.testBit_or, bitsN_bit, Nat.testBit_two_pow]
    by_cases hx : x < s.size
    · rw [afterV_bt s j false hj x hx]
      by_cases e : x = j
      · subst e; simp [hx]
      · rw [if_neg e]; simp [hx, Ne.symm e]
    · have : j ≠ x := by omega
      simp [hx, this]
  | true =>
    rw [if_pos rfl, bitsN_bit]
    by_cases hx : x < s.size
    · rw [afterV_bt s j true hj x hx]
      by_cases e : x = j
      · subst e; simp [hx, hf]
      · rw [if_neg e]
    · simp [hx]
theorem state_ext {s t : ByteArray} (hs : s.size = t.size) (h : ∀ i : Nat, i < s.size → bt s (i : Int) = bt t (i : Int)) : s = t := by
  apply ByteArray.ext
  apply Array.ext
  · simpa using hs
  · intro i h1 h2
    have h1' : i < s.size := by simpa using h1
    have h2' : i < t.size := by simpa using h2
    have e := h i h1'
    rw [bt_get s i h1', bt_get t i h2'] at e
    have e2 : (s[i]'h1').toNat = (t[i]'h2').toNat := by omega
    exact UInt8.toNat_inj.1 e2
theorem numS_inj {s t : ByteArray} {b c : Bool} (hs : s.size = t.size) (hvs : ValidS s) (hvt : ValidS t) (h : numS s b = numS t c) : s = t ∧ b = c := by
  unfold numS at h
  have hb : b = c := by cases b <;> cases c <;> simp at h <;> first | rfl | omega
  subst hb
  have hx : keptS s * 2 ^ s.size + outS s = keptS t * 2 ^ t.size + outS t := by omega
  have o1 := bitsN_lt (fun i => bt s (i : Int) == 99) s.size
  have o2 := bitsN_lt (fun i => bt t (i : Int) == 99) t.size
  have hp : 0 < 2 ^ s.size := Nat.two_pow_pos _
  have ho : outS s = outS t := by
    have e1 : (keptS s * 2 ^ s.size + outS s) % 2 ^ s.size = outS s := by rw [Nat.mul_comm, Nat.mul_add_mod]; exact Nat.mod_eq_of_lt o1
    have e2 : (keptS t * 2 ^ t.size + outS t) % 2 ^ t.size = outS t := by rw [Nat.mul_comm, Nat.mul_add_mod]; exact Nat.mod_eq_of_lt o2
    rw [← e1, ← e2, hx, hs]
  have hk : keptS s = keptS t := by
    rw [ho, ← hs] at hx
    exact Nat.eq_of_mul_eq_mul_right hp (by omega)
  refine ⟨state_ext hs fun i hi => ?_, rfl⟩
  have k1 := congrArg (fun m => Nat.testBit m i) hk
  have k2 := congrArg (fun m => Nat.testBit m i) ho
  simp only [keptS, outS, bitsN_bit, hi, show i < t.size from by omega, decide_true, Bool.true_and] at k1 k2
  rcases hvs i hi with e | e | e <;> rcases hvt i (by omega) with f | f | f <;> rw [e, f] at k1 k2 ⊢ <;> simp at k1 k2
theorem bitN_and (m : Nat) (hm : m < 9223372036854775808) : (Go.bits .and .i64 ((m : Int) / 2) 1 = 1) ↔ m.testBit 1 = true := by
  have e : ((m : Int) / 2) = shr .i64 (m : Int) ((1 : Nat) : Int) := by simp [shr, IntKind.bits]
  rw [e, bit_nat m 1 hm (by omega)]
  split <;> simp_all
theorem specOver_ev (p : Int) (l : List (List Int)) (hl : NetEdges l) (s : ByteArray) (hs : s.size = l.length) : Ev (fun k => spec_l10Over.f k p l (keptS s : Nat) (outS s : Nat)) (ovV l s) := by
  have hn := hl.1
  have two : ∀ n, n ≤ 10 → 2 ^ n ≤ 1024 := fun n h => Nat.pow_le_pow_right (by omega) h
  have hk : keptS s < 1024 := Nat.lt_of_lt_of_le (bitsN_lt _ _) (two _ (by omega))
  have ho : outS s < 1024 := Nat.lt_of_lt_of_le (bitsN_lt _ _) (two _ (by omega))
  have hw : IntKind.u64.wrap ((l.length : Nat) : Int) = (l.length : Int) := u64_nat _ (by omega)
  obtain ⟨c1, e1, L1⟩ := reachS_ev p l hl (keptS s) 0 (by omega) (by omega)
  have h2 := two l.length hn
  have hpos := Nat.two_pow_pos l.length
  have eall : Go.bits .andNot .i64 (wrap64 ((shl .i64 1 (l.length : Int)) - 1)) ((outS s : Nat) : Int) = ((butNat (2 ^ l.length - 1) (outS s) : Nat) : Int) := by
    rw [shl_nat _ (by omega)]
    have : wrap64 (((2 ^ l.length : Nat) : Int) - 1) = ((2 ^ l.length - 1 : Nat) : Int) := by
      generalize 2 ^ l.length = z at *
      unfold wrap64; omega
    rw [this, bits_but_nat _ _ (by omega) (by omega)]
  have hbut := butNat_lt (2 ^ l.length - 1) (outS s) (by omega) (by omega)
  obtain ⟨c2, e2, L2⟩ := reachS_ev p l hl (butNat (2 ^ l.length - 1) (outS s)) 0 (by omega) (by omega)
  have r1 : c1 = reachN (fun i => bt s (i : Int) == 115) l 0 := reachN_of hl (by omega) (L1.congr fun i hi => by
    simp only [keptS, bitsN_bit, show i < s.size from by omega, decide_true, Bool.true_and])
  have r2 : c2 = reachN (fun i => bt s (i : Int) != 99) l 0 := reachN_of hl (by omega) (L2.congr fun i hi => by
    show (butNat (2 ^ l.length - 1) (outS s)).testBit i = _
    rw [butNat_bit _ _ _ (by omega) (by omega), Nat.testBit_two_pow_sub_one]
    simp only [outS, bitsN_bit, hi, show i < s.size from by omega, decide_true, Bool.true_and]
    rfl)
  unfold spec_l10Over.f
  rw [hw]
  refine Ev.congr (fun k => by rw [if_pos (by omega)]) (Ev.bind (by simpa using e1) ?_)
  have hov : ovV l s = (if c1.testBit 1 = true then 1 else if c2.testBit 1 = true then 0 else 2) := by unfold ovV; rw [r1, r2]
  rw [hov]
  by_cases d1 : c1.testBit 1 = true
  · simp only [d1, if_true]
    exact Ev.congr (f := fun _ => some 1) (fun k => by rw [if_pos ((bitN_and c1 (by have := L1.1; omega)).2 d1)]) (Ev.now _)
  · simp only [d1, if_false]
    refine Ev.congr (fun k => by rw [if_neg (fun h => d1 ((bitN_and c1 (by have := L1.1; omega)).1 h))]) ?_
    rw [eall]
    refine Ev.bind (by simpa using e2) ?_
    have hz : (Go.bits .and .i64 ((c2 : Int) / 2) 1 = 0) ↔ ¬ c2.testBit 1 = true := by
      have e : ((c2 : Int) / 2) = shr .i64 (c2 : Int) ((1 : Nat) : Int) := by simp [shr, IntKind.bits]
      rw [e, bit_nat c2 1 (by have := L2.1; omega) (by omega)]
      split <;> simp_all
    by_cases d2 : c2.testBit 1 = true
    · exact Ev.congr (f := fun _ => some 0) (fun k => by rw [if_neg (fun h => hz.1 h d2)]) (Ev.congr (fun k => by simp [d2]) (Ev.now _))
    · exact Ev.congr (f := fun _ => some 2) (fun k => by rw [if_pos (hz.2 d2)]) (Ev.congr (fun k => by simp [d2]) (Ev.now _))
-- The reference's winner is the winner.
def KOk (l : List (List Int)) (known : List Int) : Prop := ∀ s b, s.size = l.length → ValidS s → known.getD (numS s b) 0 = 0 ∨ known.getD (numS s b) 0 = netWin l s b
theorem getD_set_sameI (l : List Int) (i : Nat) (a : Int) (h : i < l.length) : (l.set i a).getD i 0 = a := by
  rw [List.getD_eq_getElem?_getD, List.getElem?_set_self (by simpa using h)]; rfl
theorem getD_set_neI (l : List Int) (i j : Nat) (a : Int) (h : i ≠ j) : (l.set i a).getD j 0 = l.getD j 0 := by
  rw [List.getD_eq_getElem?_getD, List.getD_eq_getElem?_getD, List.getElem?_set_ne h]
theorem KOk.put {l : List (List Int)} {known : List Int} (h : KOk l known) {s : ByteArray} {b : Bool} (hs : s.size = l.length) (hv : ValidS s) : KOk l (known.set (numS s b) (netWin l s b)) := by
  intro t c ht hvt
  by_cases e : numS s b = numS t c
  · obtain ⟨rfl, rfl⟩ := numS_inj (hs.trans ht.symm) hv hvt e
    by_cases hl : numS s b < known.length
    · exact .inr (getD_set_sameI _ _ _ hl)
    · rw [List.set_eq_of_length_le (by omega)]; exact h s b hs hv
  · rw [getD_set_neI _ _ _ _ e]; exact h t c ht hvt
theorem numS_lt (s : ByteArray) (b : Bool) : numS s b < 2 * (2 ^ s.size * 2 ^ s.size) := by
  have h1 : keptS s < 2 ^ s.size := bitsN_lt _ _
  have h2 : outS s < 2 ^ s.size := bitsN_lt _ _
  unfold numS
  generalize keptS s = K at *
  generalize outS s = O at *
  generalize 2 ^ s.size = B at *
  have : (K + 1) * B ≤ B * B := Nat.mul_le_mul_right B h1
  have e : (K + 1) * B = K * B + B := Nat.succ_mul K B
  split <;> omega
theorem shlN (K n : Nat) (hn : n ≤ 10) (hK : K < 1024) : shl .i64 (K : Int) (n : Int) = ((K * 2 ^ n : Nat) : Int) := by
  have h2 : 2 ^ n ≤ 1024 := Nat.pow_le_pow_right (by omega) hn
  have hm : K * 2 ^ n ≤ 1024 * 1024 := Nat.mul_le_mul (by omega) h2
  unfold shl
  have e : min ((n : Int).toNat) IntKind.i64.bits = n := by
    have : IntKind.i64.bits = 64 := rfl
    omega
  rw [e]
  have e2 : (K : Int) * 2 ^ n = ((K * 2 ^ n : Nat) : Int) := by push_cast; rfl
  rw [e2, i64_nat _ (by omega)]
theorem num_val (s : ByteArray) (b : Bool) (hs : s.size ≤ 10) : wrap64 ((wrap64 ((wrap64 ((Go.bits .or .i64 (shl .i64 ((keptS s : Nat) : Int) (s.size : Int)) ((outS s : Nat) : Int)) * 2)) + ownV b)) - 1) = (numS s b : Int) := by
  have h2 : 2 ^ s.size ≤ 1024 := Nat.pow_le_pow_right (by omega) hs
  have h1 : keptS s < 2 ^ s.size := bitsN_lt _ _
  have h3 : outS s < 2 ^ s.size := bitsN_lt _ _
  have hm : keptS s * 2 ^ s.size ≤ 1024 * 1024 := Nat.mul_le_mul (by omega) h2
  rw [shlN _ _ hs (by omega), bits_or_nat _ _ (by omega) (by omega)]
  have e : keptS s * 2 ^ s.size ||| outS s = keptS s * 2 ^ s.size + outS s := by
    rw [Nat.mul_comm]; exact (Nat.two_pow_add_eq_or_of_lt h3 _).symm
  rw [e]
  unfold numS
  generalize keptS s * 2 ^ s.size = X at *
  generalize outS s = O at *
  cases b
  · show wrap64 (wrap64 (wrap64 (((X + O : Nat) : Int) * 2) + 2) - 1) = _
    unfold wrap64; simp; omega
  · show wrap64 (wrap64 (wrap64 (((X + O : Nat) : Int) * 2) + 1) - 1) = _
    unfold wrap64; simp; omega
theorem win_yes {l : List (List Int)} {s : ByteArray} {b : Bool} (h0 : ovV l s = 0) {j : Nat} (hj : j < s.size) (hf : bt s (j : Int) = 46) (h : netWin l (afterV s j b) (!b) = ownV b) : netWin l s b = ownV b := by
  rw [netWin_eq, if_pos h0, if_pos]
  exact List.any_eq_true.2 ⟨(j : Int), mem_freeV.2 ⟨j, rfl, hj, hf⟩, beq_iff_eq.2 h⟩
theorem win_no {l : List (List Int)} {s : ByteArray} {b : Bool} (h0 : ovV l s = 0) (h : ∀ j : Nat, j < s.size → bt s (j : Int) = 46 → netWin l (afterV s j b) (!b) ≠ ownV b) : netWin l s b = 3 - ownV b := by
  rw [netWin_eq, if_pos h0, if_neg]
  intro ha
  obtain ⟨x, hx, hw⟩ := List.any_eq_true.1 ha
  obtain ⟨j, rfl, hj, hf⟩ := mem_freeV.1 hx
  exact h j hj hf (beq_iff_eq.1 hw)
theorem specWin_ev (p : Int) (l : List (List Int)) (hl : NetEdges l) : ∀ (d : Nat) (s : ByteArray) (b : Bool) (known : List Int), (freeV s).length < d → s.size = l.length → ValidS s → KOk l known → known.length = 2 * (2 ^ l.length * 2 ^ l.length) →
    ∃ known' : List Int, Ev (fun k => spec_l10Winner.f k p l (keptS s : Nat) (outS s : Nat) (ownV b) known) (netWin l s b, known') ∧ KOk l known' ∧ known'.length = known.length := by
  intro d
  induction d with
  | zero => intro s b known hd; omega
  | succ d ih =>
    intro s b known hd hs hv hk hlen
    have hn := hl.1
    have hu : IntKind.u64.wrap ((l.length : Nat) : Int) = (s.size : Int) := by rw [u64_nat _ (by omega), hs]
    have hnum := num_val s b (by omega)
    have hlt := numS_lt s b
    rw [hs] at hlt
    have hor := ownV_range b
    have hK : keptS s < 1024 := Nat.lt_of_lt_of_le (bitsN_lt _ _) (Nat.pow_le_pow_right (by omega) (by omega : s.size ≤ 10))
    have hO : outS s < 1024 := Nat.lt_of_lt_of_le (bitsN_lt _ _) (Nat.pow_le_pow_right (by omega) (by omega : s.size ≤ 10))
    by_cases hp : known.getD (numS s b) 0 > 0
    · refine ⟨known, ?_, hk, rfl⟩
      have e : known.getD (numS s b) 0 = netWin l s b := by
        rcases hk s b hs hv with e | e
        · omega
        · exact e
      refine Ev.step (f := fun _ => some (netWin l s b, known)) (fun k => ?_) (Ev.now _)
      simp only [spec_l10Winner.f]
      rw [hu, hnum, if_pos (by omega), if_pos (by omega), if_pos (by rw [hlen]; omega), rd_nat, if_pos hp, e]
    · have loop : ovV l s = 0 → ∀ (e i : Nat) (w : Int) (kn : List Int), i + e = s.size → KOk l kn → kn.length = known.length → ((w = ownV b ∧ netWin l s b = ownV b) ∨ (w = 3 - ownV b ∧ ∀ j : Nat, j < i → bt s (j : Int) = 46 → netWin l (afterV s j b) (!b) ≠ ownV b)) →
          ∃ kn' : List Int, Ev (fun k => spec_l10Winner.l0 k (keptS s : Nat) (outS s : Nat) (ownV b) kn (s.size : Int) (numS s b : Int) w (i : Int) p l) (netWin l s b, kn') ∧ KOk l kn' ∧ kn'.length = known.length := by
        intro h0 e
        have fin : ∀ (kn : List Int) (i : Nat), KOk l kn → kn.length = known.length → ∀ w : Int, w = netWin l s b → Ev (fun k => spec_l10Winner.j1 k (keptS s : Nat) (outS s : Nat) (ownV b) kn (s.size : Int) (numS s b : Int) w (i : Int) false p l) (netWin l s b, kn.set (numS s b) (netWin l s b)) ∧ KOk l (kn.set (numS s b) (netWin l s b)) ∧ (kn.set (numS s b) (netWin l s b)).length = known.length := by
          intro kn i hkn hkl w hw
          refine ⟨Ev.step (f := fun _ => some (netWin l s b, kn.set (numS s b) (netWin l s b))) (fun k => ?_) (Ev.now _), hkn.put hs hv, by simpa using hkl⟩
          simp only [spec_l10Winner.j1]
          rw [if_neg (by simp), if_pos (by omega), if_pos (by rw [hkl, hlen]; omega), hw, Int.toNat_natCast]
        induction e with
        | zero =>
          intro i w kn hi hkn hkl hw
          have ew : w = netWin l s b := by
            rcases hw with ⟨rfl, h⟩ | ⟨rfl, h⟩
            · exact h.symm
            · exact (win_no h0 fun j hj hf => h j (by omega) hf).symm
          obtain ⟨f1, f2, f3⟩ := fin kn i hkn hkl w ew
          refine ⟨_, Ev.step (fun k => ?_) f1, f2, f3⟩
          simp only [spec_l10Winner.l0]
          rw [if_neg (by omega)]
        | succ e ihe =>
          intro i w kn hi hkn hkl hw
          have hlt2 : i < s.size := by omega
          rcases hw with ⟨rfl, h⟩ | ⟨rfl, h⟩
          · obtain ⟨f1, f2, f3⟩ := fin kn i hkn hkl _ h.symm
            refine ⟨_, Ev.step (fun k => ?_) f1, f2, f3⟩
            simp only [spec_l10Winner.l0]
            rw [if_pos (by omega)]
            have : (ownV b != ownV b) = false := by simp
            rw [this]
          · have hne : (3 - ownV b != ownV b) = true := bne_iff_ne.2 (by omega)
            have hui : IntKind.u64.wrap ((i : Int) + 1) = ((i + 1 : Nat) : Int) := by
              have := u64_nat (i + 1) (by omega)
              rw [← this]; rfl
            have hbit : Go.bits .and .i64 (shr .i64 (Go.bits .or .i64 ((keptS s : Nat) : Int) ((outS s : Nat) : Int)) (i : Int)) 1 = if bt s (i : Int) = 46 then 0 else 1 := by
              rw [bits_or_nat _ _ (by omega) (by omega)]
              have hor2 : keptS s ||| outS s < 1024 := Nat.or_lt_two_pow (n := 10) hK hO
              rw [bit_nat _ _ (by omega) (by omega), Nat.testBit_or]
              simp only [keptS, outS, bitsN_bit, hlt2, decide_true, Bool.true_and]
              rcases hv i hlt2 with f | f | f <;> rw [f] <;> simp
            have hsh : shl .i64 1 (i : Int) = ((2 ^ i : Nat) : Int) := shl_nat i (by omega)
            have h2i : 2 ^ i ≤ 1024 := Nat.pow_le_pow_right (by omega) (by omega : i ≤ 10)
            by_cases hf : bt s (i : Int) = 46
            · rw [if_pos hf] at hbit
              have hfl := free_less s (i : Int) b (mem_freeV.2 ⟨i, rfl, hlt2, hf⟩)
              obtain ⟨kn1, e1, k1, l1⟩ := ih (afterV s i b) (!b) kn (by omega) ((afterV_size s i b hlt2).trans hs) (validS_after hv i b hlt2) hkn (hkl.trans hlen)
              rw [keptS_after s i b hlt2 hf, outS_after s i b hlt2 hf] at e1
              have more : ∀ (w2 : Int), (w2 = if netWin l (afterV s i b) (!b) = ownV b then ownV b else 3 - ownV b) → ∃ kn' : List Int, Ev (fun k => spec_l10Winner.l0 k (keptS s : Nat) (outS s : Nat) (ownV b) kn1 (s.size : Int) (numS s b : Int) w2 ((i + 1 : Nat) : Int) p l) (netWin l s b, kn') ∧ KOk l kn' ∧ kn'.length = known.length := by
                intro w2 hw2
                refine ihe (i + 1) w2 kn1 (by omega) k1 (l1.trans hkl) ?_
                by_cases hw3 : netWin l (afterV s i b) (!b) = ownV b
                · rw [if_pos hw3] at hw2
                  exact .inl ⟨hw2, win_yes h0 hlt2 hf hw3⟩
                · rw [if_neg hw3] at hw2
                  refine .inr ⟨hw2, fun j hj hfj => ?_⟩
                  by_cases ej : j = i
                  · subst ej; exact hw3
                  · exact h j (by omega) hfj
              obtain ⟨kn2, e2, k2, l2⟩ := more _ rfl
              refine ⟨kn2, ?_, k2, l2⟩
              refine Ev.step (f := fun k => spec_l10Winner.j1 k (keptS s : Nat) (outS s : Nat) (ownV b) kn (s.size : Int) (numS s b : Int) (3 - ownV b) (i : Int) true p l) (fun k => ?_) ?_
              · simp only [spec_l10Winner.l0]
                rw [if_pos (by omega), hne]
              cases b with
              | true =>
                have ho1 : ownV true = 1 := rfl
                have ho2 : ownV (!true) = 2 := rfl
                rw [ho1] at e2 ⊢
                rw [ho1] at hor
                rw [ho2] at e1
                simp only [if_true] at e1
                refine Ev.step (f := fun k => (spec_l10Winner.f k p l (Go.bits .or .i64 ((keptS s : Nat) : Int) (shl .i64 1 (i : Int))) ((outS s : Nat) : Int) 2 kn).bind fun bt367 => (if bt367.1 = 1 then (spec_l10Winner.l0 k (keptS s : Nat) (outS s : Nat) 1 bt367.2 (s.size : Int) (numS s true : Int) 1 ((i + 1 : Nat) : Int) p l) else (spec_l10Winner.l0 k (keptS s : Nat) (outS s : Nat) 1 bt367.2 (s.size : Int) (numS s true : Int) (3 - 1) ((i + 1 : Nat) : Int) p l))) (fun k => ?_) ?_
                · simp only [spec_l10Winner.j1, if_true]
                  rw [if_pos (by omega), hbit, if_neg (by omega), hui]
                · rw [hsh, bits_or_nat _ _ (by omega) (by omega)]
                  refine Ev.bind e1 ?_
                  by_cases hw3 : netWin l (afterV s i true) (!true) = 1
                  · rw [if_pos hw3] at e2
                    exact Ev.congr (fun k => by simp only [hw3, if_true]) e2
                  · rw [if_neg hw3] at e2
                    exact Ev.congr (fun k => by simp only [hw3, if_false]) e2
              | false =>
                have ho1 : ownV false = 2 := rfl
                have ho2 : ownV (!false) = 1 := rfl
                rw [ho1] at e2 ⊢
                rw [ho1] at hor
                rw [ho2] at e1
                simp only [Bool.false_eq_true, if_false] at e1
                refine Ev.step (f := fun k => (spec_l10Winner.f k p l ((keptS s : Nat) : Int) (Go.bits .or .i64 ((outS s : Nat) : Int) (shl .i64 1 (i : Int))) 1 kn).bind fun bt369 => (if bt369.1 = 2 then (spec_l10Winner.l0 k (keptS s : Nat) (outS s : Nat) 2 bt369.2 (s.size : Int) (numS s false : Int) 2 ((i + 1 : Nat) : Int) p l) else (spec_l10Winner.l0 k (keptS s : Nat) (outS s : Nat) 2 bt369.2 (s.size : Int) (numS s false : Int) (3 - 2) ((i + 1 : Nat) : Int) p l))) (fun k => ?_) ?_
                · simp only [spec_l10Winner.j1, if_true]
                  rw [if_pos (by omega), hbit, if_neg (by omega), if_neg (by omega), hui]
                · rw [hsh, bits_or_nat _ _ (by omega) (by omega)]
                  refine Ev.bind e1 ?_
                  by_cases hw3 : netWin l (afterV s i false) (!false) = 2
                  · rw [if_pos hw3] at e2
                    exact Ev.congr (fun k => by simp only [hw3, if_true]) e2
                  · rw [if_neg hw3] at e2
                    exact Ev.congr (fun k => by simp only [hw3, if_false]) e2
            · rw [if_neg hf] at hbit
              obtain ⟨kn2, e2, k2, l2⟩ := ihe (i + 1) (3 - ownV b) kn (by omega) hkn hkl (.inr ⟨rfl, fun j hj hfj => by
                by_cases ej : j = i
                · subst ej; exact absurd hfj hf
                · exact h j (by omega) hfj⟩)
              refine ⟨kn2, ?_, k2, l2⟩
              refine Ev.step (f := fun k => spec_l10Winner.j1 k (keptS s : Nat) (outS s : Nat) (ownV b) kn (s.size : Int) (numS s b : Int) (3 - ownV b) (i : Int) true p l) (fun k => ?_) (Ev.step (fun k => ?_) e2)
              · simp only [spec_l10Winner.l0]
                rw [if_pos (by omega), hne]
              · simp only [spec_l10Winner.j1, if_true]
                rw [if_pos (by omega), hbit, if_pos rfl, hui]
      have head : ∀ (F : Nat → Option (Int × List Int)) (r : Int × List Int), Ev F r → (∀ k, F k = (spec_l10Over.f k p l (keptS s : Nat) (outS s : Nat)).bind fun t365 => (if t365 = 0 then (spec_l10Winner.l0 k (keptS s : Nat) (outS s : Nat) (ownV b) known (s.size : Int) (numS s b : Int) (3 - ownV b) ((0 : Nat) : Int) p l) else (some (t365, (known.set (numS s b) t365))))) → Ev (fun k => spec_l10Winner.f k p l (keptS s : Nat) (outS s : Nat) (ownV b) known) r := by
        intro F r hF hE
        refine Ev.step (f := F) (fun k => ?_) hF
        rw [hE]
        have hw3 : wrap64 (3 - ownV b) = 3 - ownV b := by unfold wrap64; omega
        simp only [spec_l10Winner.f]
        rw [hu, hnum, if_pos (by omega), if_pos (by omega), if_pos (by rw [hlen]; omega), rd_nat, if_neg hp, hw3, Int.toNat_natCast]
        rfl
      by_cases h0 : ovV l s = 0
      · obtain ⟨kn, e1, k1, l1⟩ := loop h0 s.size 0 (3 - ownV b) known (by omega) hk rfl (.inr ⟨rfl, fun j hj => by omega⟩)
        refine ⟨kn, ?_, k1, l1⟩
        refine head _ _ (Ev.bind (specOver_ev p l hl s hs) (f := fun k t365 => if t365 = 0 then (spec_l10Winner.l0 k (keptS s : Nat) (outS s : Nat) (ownV b) known (s.size : Int) (numS s b : Int) (3 - ownV b) ((0 : Nat) : Int) p l) else (some (t365, (known.set (numS s b) t365)))) ?_) (fun k => rfl)
        exact Ev.congr (fun k => by rw [if_pos h0]) e1
      · have ew : netWin l s b = ovV l s := by rw [netWin_eq, if_neg h0]
        refine ⟨known.set (numS s b) (netWin l s b), ?_, hk.put hs hv, by simp⟩
        refine head _ _ (Ev.bind (specOver_ev p l hl s hs) (f := fun k t365 => if t365 = 0 then (spec_l10Winner.l0 k (keptS s : Nat) (outS s : Nat) (ownV b) known (s.size : Int) (numS s b : Int) (3 - ownV b) ((0 : Nat) : Int) p l) else (some (t365, (known.set (numS s b) t365)))) ?_) (fun k => rfl)
        exact Ev.congr (f := fun _ => some (netWin l s b, known.set (numS s b) (netWin l s b))) (fun k => by rw [if_neg h0, ew]) (Ev.now _)
-- needs: 40 (room for what is known of a net)
theorem known_val (p : Int) (l : List (List Int)) (hl : l.length ≤ 10) : spec_l10Known.f p l = some (List.replicate (2 * (2 ^ l.length * 2 ^ l.length)) 0) := by
  have hw : IntKind.u64.wrap (wrap64 (2 * (l.length : Int))) = ((2 * l.length : Nat) : Int) := by
    have e : wrap64 (2 * (l.length : Int)) = ((2 * l.length : Nat) : Int) := by unfold wrap64; omega
    rw [e, u64_nat _ (by omega)]
  have h2 : 2 ^ l.length ≤ 1024 := Nat.pow_le_pow_right (by omega) hl
  have hm : 2 ^ l.length * 2 ^ l.length ≤ 1024 * 1024 := Nat.mul_le_mul h2 h2
  have hs : shl .i64 2 ((2 * l.length : Nat) : Int) = ((2 * (2 ^ l.length * 2 ^ l.length) : Nat) : Int) := by
    unfold shl
    have e : min (((2 * l.length : Nat) : Int).toNat) IntKind.i64.bits = 2 * l.length := by
      have : IntKind.i64.bits = 64 := rfl
      omega
    rw [e]
    have e2 : (2 : Int) * 2 ^ (2 * l.length) = ((2 * (2 ^ l.length * 2 ^ l.length) : Nat) : Int) := by
      rw [← Nat.pow_add, ← Nat.two_mul]; push_cast; rfl
    rw [e2, i64_nat _ (by omega)]
  unfold spec_l10Known.f
  rw [hw, hs, if_pos (by omega), if_pos (by omega), if_pos (by omega), Int.toNat_natCast]
theorem KOk_zero (l : List (List Int)) (n : Nat) : KOk l (List.replicate n 0) := fun s b _ _ => .inl (by
  rw [List.getD_eq_getElem?_getD, List.getElem?_replicate]; split <;> rfl)
-- needs: 43 (the reference's moves are the moves)
def movesP (l : List (List Int)) (s : ByteArray) (b : Bool) (k : Int) : Bool := netWin l (afterV s k b) (!b) == ownV b
theorem chosenTo_succ (p : Int → Bool) (k : Nat) : chosenTo p (k + 1) = if p (k : Int) then chosenTo p k ++ [(k : Int)] else chosenTo p k := rfl
set_option maxHeartbeats 4000000 in
theorem specMovesL_ev (p : Int) (l : List (List Int)) (hl : NetEdges l) (s : ByteArray) (b : Bool) (hs : s.size = l.length) (hv : ValidS s) (N : Nat) (hN : N = 2 * (2 ^ l.length * 2 ^ l.length)) : ∀ (e i : Nat) (kn : List Int), i + e = s.size → KOk l kn → kn.length = N →
    ∃ kn' : List Int, Ev (fun k => spec_l10Moves.l0 k (keptS s : Nat) (outS s : Nat) (ownV b) kn ((chosenTo (fun k => bt s k == 46) i).filter (movesP l s b)) (i : Int) p l) ((freeV s).filter (movesP l s b), kn') := by
  have hn := hl.1
  have HN := Aside0.mk hN
  clear hN
  have hK : keptS s < 1024 := Nat.lt_of_lt_of_le (bitsN_lt _ _) (Nat.pow_le_pow_right (by omega) (by omega : s.size ≤ 10))
  have hO : outS s < 1024 := Nat.lt_of_lt_of_le (bitsN_lt _ _) (Nat.pow_le_pow_right (by omega) (by omega : s.size ≤ 10))
  intro e
  induction e with
  | zero =>
    intro i kn hi hkn hkl
    obtain rfl : i = s.size := by omega
    refine ⟨kn, Ev.step (f := fun _ => some ((freeV s).filter (movesP l s b), kn)) (fun k => ?_) (Ev.now _)⟩
    simp only [spec_l10Moves.l0]
    rw [if_neg (by omega)]; rfl
  | succ e ih =>
    intro i kn hi hkn hkl
    have hlt2 : i < s.size := by omega
    have hui : IntKind.u64.wrap (i : Int) = (i : Int) := u64_nat i (by omega)
    have hw : wrap64 ((i : Int) + 1) = ((i + 1 : Nat) : Int) := by unfold wrap64; omega
    have hbit : Go.bits .and .i64 (shr .i64 (Go.bits .or .i64 ((keptS s : Nat) : Int) ((outS s : Nat) : Int)) (i : Int)) 1 = if bt s (i : Int) = 46 then 0 else 1 := by
      rw [bits_or_nat _ _ (by omega) (by omega)]
      have hor2 : keptS s ||| outS s < 1024 := Nat.or_lt_two_pow (n := 10) hK hO
      rw [bit_nat _ _ (by omega) (by omega), Nat.testBit_or]
      simp only [keptS, outS, bitsN_bit, hlt2, decide_true, Bool.true_and]
      rcases hv i hlt2 with f | f | f <;> rw [f] <;> simp
    have hsh : shl .i64 1 (i : Int) = ((2 ^ i : Nat) : Int) := shl_nat i (by omega)
    have h2i : 2 ^ i ≤ 1024 := Nat.pow_le_pow_right (by omega) (by omega : i ≤ 10)
    have hlen : ((chosenTo (fun k => bt s k == 46) i).filter (movesP l s b)).length < 17592186044416 := by
      have h1 := List.length_filter_le (movesP l s b) (chosenTo (fun k => bt s k == 46) i)
      have h2 := chosenTo_le (fun k => bt s k == 46) i
      omega
    by_cases hf : bt s (i : Int) = 46
    · rw [if_pos hf] at hbit
      have hfl := chosenTo_le (fun k => bt (afterV s i b) k == 46) (afterV s i b).size
      have hsz := (afterV_size s i b hlt2).trans hs
      obtain ⟨kn1, e1, k1, l1⟩ := specWin_ev p l hl 11 (afterV s i b) (!b) kn (by unfold freeV; omega) hsz (validS_after hv i b hlt2) hkn (hkl.trans HN.out)
      rw [keptS_after s i b hlt2 hf, outS_after s i b hlt2 hf] at e1
      obtain ⟨kn2, e2⟩ := ih (i + 1) kn1 (by omega) k1 (l1.trans hkl)
      have hcs : (chosenTo (fun k => bt s k == 46) (i + 1)).filter (movesP l s b) = if movesP l s b (i : Int) = true then (chosenTo (fun k => bt s k == 46) i).filter (movesP l s b) ++ [(i : Int)] else (chosenTo (fun k => bt s k == 46) i).filter (movesP l s b) := by
        rw [chosenTo_succ, if_pos (beq_iff_eq.2 hf), List.filter_append, List.filter_cons, List.filter_nil]
        cases movesP l s b (i : Int) <;> simp
      rw [hcs] at e2
      refine ⟨kn2, ?_⟩
      have hmp : movesP l s b (i : Int) = true ↔ netWin l (afterV s i b) (!b) = ownV b := beq_iff_eq
      cases b with
      | true =>
        have ho1 : ownV true = 1 := rfl
        have ho2 : ownV (!true) = 2 := rfl
        rw [ho1] at e2 hmp ⊢
        rw [ho2] at e1
        simp only [if_true] at e1
        refine Ev.step (f := fun k => (spec_l10Winner.f k p l (Go.bits .or .i64 ((keptS s : Nat) : Int) (shl .i64 1 (i : Int))) ((outS s : Nat) : Int) 2 kn).bind fun bt272 => (if bt272.1 = 1 then (if ((chosenTo (fun k => bt s k == 46) i).filter (movesP l s true)).length < 17592186044416 then (spec_l10Moves.l0 k (keptS s : Nat) (outS s : Nat) 1 bt272.2 ((chosenTo (fun k => bt s k == 46) i).filter (movesP l s true) ++ [(i : Int)]) ((i + 1 : Nat) : Int) p l) else none) else (spec_l10Moves.l0 k (keptS s : Nat) (outS s : Nat) 1 bt272.2 ((chosenTo (fun k => bt s k == 46) i).filter (movesP l s true)) ((i + 1 : Nat) : Int) p l))) (fun k => ?_) ?_
        · simp only [spec_l10Moves.l0, hui, hw]
          rw [if_pos (by omega), if_pos (by omega), hbit, if_neg (by omega), if_pos trivial]
        · rw [hsh, bits_or_nat _ _ (by omega) (by omega)]
          refine Ev.bind e1 ?_
          by_cases hw3 : netWin l (afterV s i true) (!true) = 1
          · rw [if_pos (hmp.2 hw3)] at e2
            exact Ev.congr (fun k => by simp only [hw3, if_true]; rw [if_pos hlen]) e2
          · rw [if_neg (fun h => hw3 (hmp.1 h))] at e2
            exact Ev.congr (fun k => by simp only [hw3, if_false]) e2
      | false =>
        have ho1 : ownV false = 2 := rfl
        have ho2 : ownV (!false) = 1 := rfl
        rw [ho1] at e2 hmp ⊢
        rw [ho2] at e1
        simp only [Bool.false_eq_true, if_false] at e1
        refine Ev.step (f := fun k => (spec_l10Winner.f k p l ((keptS s : Nat) : Int) (Go.bits .or .i64 ((outS s : Nat) : Int) (shl .i64 1 (i : Int))) 1 kn).bind fun bt272 => (if bt272.1 = 2 then (if ((chosenTo (fun k => bt s k == 46) i).filter (movesP l s false)).length < 17592186044416 then (spec_l10Moves.l0 k (keptS s : Nat) (outS s : Nat) 2 bt272.2 ((chosenTo (fun k => bt s k == 46) i).filter (movesP l s false) ++ [(i : Int)]) ((i + 1 : Nat) : Int) p l) else none) else (spec_l10Moves.l0 k (keptS s : Nat) (outS s : Nat) 2 bt272.2 ((chosenTo (fun k => bt s k == 46) i).filter (movesP l s false)) ((i + 1 : Nat) : Int) p l))) (fun k => ?_) ?_
        · simp only [spec_l10Moves.l0, hui, hw]
          rw [if_pos (by omega), if_pos (by omega), hbit, if_neg (by omega), if_neg (by omega)]
        · rw [hsh, bits_or_nat _ _ (by omega) (by omega)]
          refine Ev.bind e1 ?_
          by_cases hw3 : netWin l (afterV s i false) (!false) = 2
          · rw [if_pos (hmp.2 hw3)] at e2
            exact Ev.congr (fun k => by simp only [hw3, if_true]; rw [if_pos hlen]) e2
          · rw [if_neg (fun h => hw3 (hmp.1 h))] at e2
            exact Ev.congr (fun k => by simp only [hw3, if_false]) e2
    · rw [if_neg hf] at hbit
      obtain ⟨kn2, e2⟩ := ih (i + 1) kn (by omega) hkn hkl
      have hcs : chosenTo (fun k => bt s k == 46) (i + 1) = chosenTo (fun k => bt s k == 46) i := by
        rw [chosenTo_succ, if_neg (fun h => hf (beq_iff_eq.1 h))]
      rw [hcs] at e2
      refine ⟨kn2, Ev.step (fun k => ?_) e2⟩
      simp only [spec_l10Moves.l0, hui, hw]
      rw [if_pos (by omega), if_pos (by omega), hbit, if_pos rfl]
def movesV (l : List (List Int)) (s : ByteArray) (b : Bool) : List Int := if ovV l s = 0 then (freeV s).filter (fun k => netWin l (afterV s k b) (!b) == ownV b) else []
theorem specMoves_ev (p : Int) (l : List (List Int)) (hl : NetEdges l) (s : ByteArray) (b : Bool) (hs : s.size = l.length) (hv : ValidS s) : ∃ kn' : List Int, Ev (fun k => spec_l10Moves.f k p l (keptS s : Nat) (outS s : Nat) (ownV b) (List.replicate (2 * (2 ^ l.length * 2 ^ l.length)) 0)) (movesV l s b, kn') := by
  obtain ⟨kn, hkn⟩ := specMovesL_ev p l hl s b hs hv _ rfl s.size 0 _ (by omega) (KOk_zero l _) (List.length_replicate ..)
  have hov : ∀ (h : ¬ ovV l s = 0), ovV l s > 0 := by intro h; have := ovV_range l s; omega
  unfold movesV
  by_cases h0 : ovV l s = 0
  · refine ⟨kn, ?_⟩
    refine Ev.congr (f := fun k => (spec_l10Over.f k p l (keptS s : Nat) (outS s : Nat)).bind fun t271 => (if t271 > 0 then (some ([], List.replicate (2 * (2 ^ l.length * 2 ^ l.length)) 0)) else (spec_l10Moves.l0 k (keptS s : Nat) (outS s : Nat) (ownV b) (List.replicate (2 * (2 ^ l.length * 2 ^ l.length)) 0) [] 0 p l))) (fun k => by unfold spec_l10Moves.f; rfl) (Ev.bind (specOver_ev p l hl s hs) (f := fun k t271 => (if t271 > 0 then (some ([], List.replicate (2 * (2 ^ l.length * 2 ^ l.length)) 0)) else (spec_l10Moves.l0 k (keptS s : Nat) (outS s : Nat) (ownV b) (List.replicate (2 * (2 ^ l.length * 2 ^ l.length)) 0) [] 0 p l))) ?_)
    refine Ev.congr (fun k => by rw [if_neg (by omega)]) ?_
    rw [if_pos h0]
    exact hkn
  · refine ⟨List.replicate (2 * (2 ^ l.length * 2 ^ l.length)) 0, ?_⟩
    refine Ev.congr (f := fun k => (spec_l10Over.f k p l (keptS s : Nat) (outS s : Nat)).bind fun t271 => (if t271 > 0 then (some ([], List.replicate (2 * (2 ^ l.length * 2 ^ l.length)) 0)) else (spec_l10Moves.l0 k (keptS s : Nat) (outS s : Nat) (ownV b) (List.replicate (2 * (2 ^ l.length * 2 ^ l.length)) 0) [] 0 p l))) (fun k => by unfold spec_l10Moves.f; rfl) (Ev.bind (specOver_ev p l hl s hs) (f := fun k t271 => (if t271 > 0 then (some ([], List.replicate (2 * (2 ^ l.length * 2 ^ l.length)) 0)) else (spec_l10Moves.l0 k (keptS s : Nat) (outS s : Nat) (ownV b) (List.replicate (2 * (2 ^ l.length * 2 ^ l.length)) 0) [] 0 p l))) ?_)
    rw [if_neg h0]
    exact Ev.congr (f := fun _ => some ([], List.replicate (2 * (2 ^ l.length * 2 ^ l.length)) 0)) (fun k => by rw [if_pos (hov h0)]) (Ev.now _)
-- 'first' of two checks.
theorem first_ev (a b : Bool) : Ev (fun k => impl_first.f k [⟨a, 1⟩, ⟨b, 2⟩]) (if a = true then (if b = true then 0 else 2) else 1) := by
  refine ⟨4, fun k hk => ?_⟩
  obtain ⟨k', rfl⟩ : ∃ k', k = k' + 4 := ⟨k - 4, by omega⟩
  have w1 : wrap64 1 = 1 := by unfold wrap64; omega
  have w2 : wrap64 2 = 2 := by unfold wrap64; omega
  have r0 : ∀ u v : S71, rd_T71 [u, v] 0 = u := fun _ _ => rfl
  have r1 : ∀ u v : S71, rd_T71 [u, v] 1 = v := fun _ _ => rfl
  cases a <;> cases b <;> simp [impl_first.f, impl_first.l0, w1, w2, r0, r1]
-- needs: 35 (the codes of a net and a state)
def charOk (b : UInt8) : Bool := b == 46 || b == 115 || b == 99
def stOk (l : List (List Int)) (s : ByteArray) : Bool := decide (s.size = l.length) && s.data.toList.all charOk
def stCode (p : Int) (l : List (List Int)) (s : ByteArray) : Int := if isNetV p l = true then (if stOk l s = true then 0 else 2) else 1
theorem dropWhile_nil {α : Type} (p : α → Bool) : ∀ (l : List α), l.dropWhile p = [] ↔ l.all p = true
  | [] => by simp
  | a :: l => by
    rw [List.dropWhile_cons, List.all_cons]
    cases h : p a
    · simp
    · simpa using dropWhile_nil p l
theorem all_dropWhile {α : Type} (p : α → Bool) : ∀ (l : List α), (l.dropWhile p).all p = true → l.all p = true
  | [], h => h
  | a :: l, h => by
    rw [List.dropWhile_cons] at h
    cases hp : p a
    · rw [hp] at h; simpa using h
    · rw [hp, if_pos rfl] at h
      rw [List.all_cons, hp, all_dropWhile p l h]; rfl
theorem trimS_nil (l cs : List UInt8) : Lib.trimS l cs = [] ↔ l.all (cs.contains ·) = true := by
  unfold Lib.trimS Lib.trimLeftS Lib.trimRightS
  rw [dropWhile_nil, List.all_reverse]
  constructor
  · intro h
    have := all_dropWhile _ _ h
    rwa [List.all_reverse] at this
  · intro h
    have h2 : l.reverse.all (cs.contains ·) = true := by rwa [List.all_reverse]
    rw [(dropWhile_nil _ _).2 h2]; rfl
theorem trim_ok (s : ByteArray) (hs : s.size ≤ 9223372036854775807) : ∃ t, strings_Trim.f s (⟨#[46, 115, 99]⟩ : ByteArray) = some t ∧ (t.toList == ([] : List UInt8)) = s.data.toList.all charOk := by
  refine ⟨trimV s ⟨#[46, 115, 99]⟩, ?_, ?_⟩
  · unfold strings_Trim.f
    rw [if_pos ⟨hs, by decide, by decide⟩]
  · have e : (trimV s ⟨#[46, 115, 99]⟩).toList = Lib.trimS s.data.toList [46, 115, 99] := by
      unfold trimV
      rw [Go.ByteArray.toList_eq]
    have ec : (fun b : UInt8 => ([46, 115, 99] : List UInt8).contains b) = charOk := by
      funext b; rw [Bool.eq_iff_iff]; simp [charOk, or_assoc]
    rw [e, Bool.eq_iff_iff, beq_iff_eq, trimS_nil, ec]
theorem implCode_ev (p : Int) (l : List (List Int)) (s : ByteArray) (hs : s.size ≤ 9223372036854775807) : Ev (fun k => impl_stateOfCode.f k p l s) (stCode p l s) := by
  have hf := fun b => first_ev (isNetV p l) b
  have hi : ∀ x y, impl_IsNet.f x y = some (isNetV x y) := fun _ _ => rfl
  unfold impl_stateOfCode.f stCode stOk
  by_cases h : s.size = l.length
  · obtain ⟨t, ht, hb⟩ := trim_ok s hs
    refine Ev.congr (f := fun k => impl_first.f k [⟨isNetV p l, 1⟩, ⟨s.data.toList.all charOk, 2⟩]) (fun k => ?_) ?_
    · rw [if_pos (by omega), ht]
      simp only [Option.bind_some, hi, hb]
      cases impl_first.f k [⟨isNetV p l, 1⟩, ⟨s.data.toList.all charOk, 2⟩] <;> rfl
    · rw [decide_eq_true h, Bool.true_and]; exact hf _
  · refine Ev.congr (f := fun k => impl_first.f k [⟨isNetV p l, 1⟩, ⟨false, 2⟩]) (fun k => ?_) ?_
    · rw [if_neg (by omega)]
      simp only [Option.bind_some, hi]
      cases impl_first.f k [⟨isNetV p l, 1⟩, ⟨false, 2⟩] <;> rfl
    · rw [decide_eq_false h, Bool.false_and]; exact hf false
theorem char_bt (s : ByteArray) (i : Nat) (h : i < s.size) : charOk (s.data.toList[i]'(by simpa using h)) = true ↔ (bt s (i : Int) = 46 ∨ bt s (i : Int) = 115 ∨ bt s (i : Int) = 99) := by
  rw [bt_data s i h]
  generalize s.data.toList[i]'(by simpa using h) = b
  have e : ∀ c : Nat, c < 256 → (((b.toNat : Int) = (c : Int)) ↔ b = UInt8.ofNat c) := fun c hc => by
    constructor
    · intro h
      apply UInt8.toNat_inj.1
      rw [UInt8.toNat_ofNat']
      omega
    · rintro rfl
      rw [UInt8.toNat_ofNat']
      omega
  unfold charOk
  rw [Bool.or_eq_true, Bool.or_eq_true, beq_iff_eq, beq_iff_eq, beq_iff_eq]
  have h1 := e 46 (by omega)
  have h2 := e 115 (by omega)
  have h3 := e 99 (by omega)
  constructor
  · rintro ((h | h) | h)
    · exact .inl (h1.2 h)
    · exact .inr (.inl (h2.2 h))
    · exact .inr (.inr (h3.2 h))
  · rintro (h | h | h)
    · exact .inl (.inl (h1.1 h))
    · exact .inl (.inr (h2.1 h))
    · exact .inr (h3.1 h)
theorem stOk_iff (l : List (List Int)) (s : ByteArray) : stOk l s = true ↔ (s.size = l.length ∧ ValidS s) := by
  unfold stOk
  rw [Bool.and_eq_true, decide_eq_true_iff, List.all_eq_true]
  refine and_congr_right fun _ => ⟨fun h i hi => ?_, fun h b hb => ?_⟩
  · exact (char_bt s i hi).1 (h _ (List.getElem_mem _))
  · obtain ⟨i, hi, rfl⟩ := List.getElem_of_mem hb
    have hi' : i < s.size := by simpa using hi
    exact (char_bt s i hi').2 (h i hi')
/-- The sets of a state, walked up to i. -/
theorem setsL_ev (s : ByteArray) (hn : s.size ≤ 10) : ∀ (d i : Nat), i + d = s.size → (∀ j : Nat, j < i → bt s (j : Int) = 46 ∨ bt s (j : Int) = 115 ∨ bt s (j : Int) = 99) →
    Ev (fun k => spec_l10Sets.l0 k s (bitsN (fun j => bt s (j : Int) == 115) i : Nat) (bitsN (fun j => bt s (j : Int) == 99) i : Nat) (i : Int)) (if s.data.toList.all charOk = true then ((keptS s : Int), (outS s : Int), true) else (0, 0, false)) := by
  intro d
  induction d with
  | zero =>
    intro i hi hv
    obtain rfl : i = s.size := by omega
    have ha : s.data.toList.all charOk = true := List.all_eq_true.2 fun b hb => by
      obtain ⟨j, hj, rfl⟩ := List.getElem_of_mem hb
      have hj' : j < s.size := by simpa using hj
      exact (char_bt s j hj').2 (hv j hj')
    refine Ev.step (f := fun _ => some ((keptS s : Int), (outS s : Int), true)) (fun k => ?_) (Ev.congr (fun k => by rw [if_pos ha]) (Ev.now _))
    simp only [spec_l10Sets.l0]
    rw [if_neg (by omega)]; rfl
  | succ d ih =>
    intro i hi hv
    have hlt : i < s.size := by omega
    have hu : IntKind.u64.wrap (i : Int) = (i : Int) := u64_nat i (by omega)
    have hw : wrap64 ((i : Int) + 1) = ((i + 1 : Nat) : Int) := by unfold wrap64; omega
    have hsh : shl .i64 1 (i : Int) = ((2 ^ i : Nat) : Int) := shl_nat i (by omega)
    have h2i : 2 ^ i ≤ 1024 := Nat.pow_le_pow_right (by omega) (by omega : i ≤ 10)
    have k1 : bitsN (fun j => bt s (j : Int) == 115) i < 1024 := Nat.lt_of_lt_of_le (bitsN_lt _ _) h2i
    have k2 : bitsN (fun j => bt s (j : Int) == 99) i < 1024 := Nat.lt_of_lt_of_le (bitsN_lt _ _) h2i
    by_cases h1 : bt s (i : Int) = 115
    · have := ih (i + 1) (by omega) (fun j hj => by
        by_cases e : j = i
        · subst e; exact .inr (.inl h1)
        · exact hv j (by omega))
      rw [show bitsN (fun j => bt s (j : Int) == 115) (i + 1) = bitsN (fun j => bt s (j : Int) == 115) i ||| 2 ^ i from by rw [bitsN, if_pos (by rw [h1]; rfl)], show bitsN (fun j => bt s (j : Int) == 99) (i + 1) = bitsN (fun j => bt s (j : Int) == 99) i from by rw [bitsN, if_neg (by rw [h1]; decide)]] at this
      refine Ev.step (fun k => ?_) this
      simp only [spec_l10Sets.l0]
      rw [if_pos (by omega), if_pos (by omega), if_pos h1, hu, if_pos (by omega), hsh, bits_or_nat _ _ (by omega) (by omega), hw]
    · by_cases h2 : bt s (i : Int) = 99
      · have := ih (i + 1) (by omega) (fun j hj => by
          by_cases e : j = i
          · subst e; exact .inr (.inr h2)
          · exact hv j (by omega))
        rw [show bitsN (fun j => bt s (j : Int) == 115) (i + 1) = bitsN (fun j => bt s (j : Int) == 115) i from by rw [bitsN, if_neg (by rw [h2]; decide)], show bitsN (fun j => bt s (j : Int) == 99) (i + 1) = bitsN (fun j => bt s (j : Int) == 99) i ||| 2 ^ i from by rw [bitsN, if_pos (by rw [h2]; rfl)]] at this
        refine Ev.step (fun k => ?_) this
        simp only [spec_l10Sets.l0]
        rw [if_pos (by omega), if_pos (by omega), if_neg h1, if_pos h2, hu, if_pos (by omega), hsh, bits_or_nat _ _ (by omega) (by omega), hw]
      · by_cases h3 : bt s (i : Int) = 46
        · have := ih (i + 1) (by omega) (fun j hj => by
            by_cases e : j = i
            · subst e; exact .inl h3
            · exact hv j (by omega))
          rw [show bitsN (fun j => bt s (j : Int) == 115) (i + 1) = bitsN (fun j => bt s (j : Int) == 115) i from by rw [bitsN, if_neg (by rw [h3]; decide)], show bitsN (fun j => bt s (j : Int) == 99) (i + 1) = bitsN (fun j => bt s (j : Int) == 99) i from by rw [bitsN, if_neg (by rw [h3]; decide)]] at this
          refine Ev.step (fun k => ?_) this
          simp only [spec_l10Sets.l0]
          rw [if_pos (by omega), if_pos (by omega), if_neg h1, if_neg h2, if_pos h3, hw]
        · have hna : ¬ s.data.toList.all charOk = true := fun ha => by
            have := (char_bt s i hlt).1 (List.all_eq_true.1 ha _ (List.getElem_mem _))
            omega
          refine Ev.step (f := fun _ => some (0, 0, false)) (fun k => ?_) (Ev.congr (fun k => by rw [if_neg hna]) (Ev.now _))
          simp only [spec_l10Sets.l0]
          rw [if_pos (by omega), if_pos (by omega), if_neg h1, if_neg h2, if_neg h3]
theorem specSets_ev (p : Int) (l : List (List Int)) (s : ByteArray) (hl : l.length ≤ 10) : Ev (fun k => spec_l10Sets.f k p l s) (if stOk l s = true then ((keptS s : Int), (outS s : Int), true) else (0, 0, false)) := by
  unfold spec_l10Sets.f stOk
  by_cases h : s.size = l.length
  · have := setsL_ev s (by omega) s.size 0 (by omega) (fun j hj => by omega)
    refine Ev.congr (fun k => by rw [if_pos (by omega)]) (Ev.congr (fun k => rfl) ?_)
    rw [decide_eq_true h, Bool.true_and]
    exact this
  · rw [decide_eq_false h, Bool.false_and, if_neg (by simp)]
    exact Ev.congr (f := fun _ => some (0, 0, false)) (fun k => by rw [if_neg (by omega)]) (Ev.now _)
theorem specCode_ev (p : Int) (l : List (List Int)) (s : ByteArray) (hl : l.length ≤ 9223372036854775807) : Ev (fun k => spec_l10Code.f k p l s) (stCode p l s) := by
  unfold spec_l10Code.f stCode
  refine Ev.bind (l10Is_ev p l hl) ?_
  by_cases h : isNetV p l = true
  · rw [if_pos h]
    refine Ev.congr (fun k => by rw [if_pos h]) (Ev.bind (specSets_ev p l s (netEdges h).1.1) ?_)
    by_cases h2 : stOk l s = true
    · exact Ev.congr (f := fun _ => some 0) (fun k => by simp [h2]) (Ev.congr (fun k => by rw [if_pos h2]) (Ev.now _))
    · exact Ev.congr (f := fun _ => some 2) (fun k => by simp [h2]) (Ev.congr (fun k => by rw [if_neg h2]) (Ev.now _))
  · rw [if_neg h]
    exact Ev.congr (f := fun _ => some 1) (fun k => by rw [if_neg h]) (Ev.now _)
theorem stCode_zero {p : Int} {l : List (List Int)} {s : ByteArray} (h : stCode p l s = 0) : isNetV p l = true ∧ stOk l s = true := by
  unfold stCode at h
  by_cases h1 : isNetV p l = true
  · rw [if_pos h1] at h
    by_cases h2 : stOk l s = true
    · exact ⟨h1, h2⟩
    · rw [if_neg h2] at h; omega
  · rw [if_neg h1] at h; omega
/-- The one pure statement of laws_FnExactStateMoves. -/
def laws_FnExactStateMoves.Pure : Prop := ∀ (a0_0 : Int) (l0_1 : List (List Int)) (a1 : ByteArray) (a2 : Bool), (Lit.int .i64 a0_0).wf = true → (l0_1.length ≤ maxLen ∧ ∀ y7_ ∈ l0_1, (y7_.length ≤ maxLen ∧ ∀ y8_ ∈ y7_, (Lit.int .i64 y8_).wf = true)) → a1.size ≤ maxLen → ∃ k, laws_FnExactStateMoves.f k a0_0 l0_1 a1 a2 = some true
/-- A type's readings as data are values of a kind: what an argument of that type is, whatever it holds. -/
def Rdb {α : Type} (P : Program) (t : TypeId) (d : Kd α) (wf : α → Prop) : Prop :=
  ∀ (H : Type) (enc : TypeId × Value → H) (w : World) (base : Nat) (spare : Nat → Bool) (held : Bool) (fuel : Nat) (cs : List Value) (x : DataW H × List MemPlace),
    DataW.trod enc P w base spare held fuel t cs = some x → ∃ a : α, d.K w a cs ∧ wf a
theorem Rdb.int {P : Program} {t : TypeId} {k : IntKind} (ht : P.underlying t = some (.int k)) : Rdb P t (Kd.int k) (fun n => (Lit.int k n).wf = true) := by
  intro H enc w base spare held fuel cs x h
  obtain ⟨n, rfl, _, hw⟩ := DataW.trod_int ht h
  exact ⟨n, rfl, hw⟩
theorem Rdb.bool {P : Program} {t : TypeId} (ht : P.underlying t = some .bool) : Rdb P t Kd.bool (fun _ => True) := by
  intro H enc w base spare held fuel cs x h
  obtain ⟨n, rfl, _⟩ := DataW.trod_bool ht h
  exact ⟨n, rfl, trivial⟩
theorem Rdb.string {P : Program} {t : TypeId} (ht : P.underlying t = some .string) : Rdb P t Kd.string (fun s => s.size ≤ maxLen) := by
  intro H enc w base spare held fuel cs x h
  obtain ⟨s, rfl, _, hs⟩ := DataW.trod_string ht h
  exact ⟨s, rfl, hs⟩
theorem list_choose {α β : Type} {R : Nat → α → β → Prop} : ∀ (n : Nat) (xs : List α), xs.length = n → (∀ i x, xs[i]? = some x → ∃ y, R i x y) → ∃ ys : List β, ys.length = n ∧ ∀ i x y, xs[i]? = some x → ys[i]? = some y → R i x y := by
  intro n xs
  induction xs generalizing n R with
  | nil =>
    intro hl _
    exact ⟨[], by simpa using hl, by intro i x y h; simp at h⟩
  | cons x xs ih =>
    intro hl h
    obtain ⟨y, hy⟩ := h 0 x rfl
    obtain ⟨ys, h1, h2⟩ := ih (R := fun i a b => R (i + 1) a b) (n - 1) (by simp at hl; omega) (fun i a hi => h (i + 1) a (by simpa using hi))
    refine ⟨y :: ys, by simp at hl ⊢; omega, fun i a b ha hb => ?_⟩
    cases i with
    | zero =>
      simp at ha hb
      subst ha hb
      exact hy
    | succ i => exact h2 i a b (by simpa using ha) (by simpa using hb)
theorem Rdb.slice {α : Type} {P : Program} {t e : TypeId} {d : Kd α} {wf : α → Prop} (ht : P.underlying t = some (.slice e)) (hc : P.cellsOf e = d.sz) (h1 : 0 < d.sz) (r : Rdb P e d wf) :
    Rdb P t (Kd.slice e d) (fun l => l.length ≤ maxLen ∧ ∀ x ∈ l, wf x) := by
  intro H enc w base spare held fuel cs x h
  rcases DataW.trod_slice ht h with ⟨rfl, _⟩ | ⟨a, len, cap, elems, rest, n, _, rfl, _, hb, hl, hm, hlen, hel, _, _⟩
  · exact ⟨[], ⟨none, 0, rfl, by simp, Kd.C_nil _ _⟩, by simp, by simp⟩
  · have each : ∀ i (y : DataW H × List MemPlace), elems[i]? = some y → ∃ b : α, ∃ c, w.cells? base (a.add (i * P.cellsOf e)) (P.cellsOf e) = some c ∧ d.K w b c ∧ wf b := by
      intro i y hy
      have hi : i < len := by have := (List.getElem?_eq_some_iff.1 hy).1; omega
      have h2 := hel i hi
      rw [hy, Option.bind_eq_some_iff] at h2
      obtain ⟨c, hcs, htr⟩ := h2
      obtain ⟨b, hK, hw⟩ := r H enc w base spare held n c y htr
      exact ⟨b, c, hcs, hK, hw⟩
    obtain ⟨xs, hx1, hx2⟩ := list_choose (R := fun i _ (b : α) => ∃ c, w.cells? base (a.add (i * P.cellsOf e)) (P.cellsOf e) = some c ∧ d.K w b c ∧ wf b) len elems hlen each
    have get : ∀ i b, xs[i]? = some b → ∃ c, w.cells? base (a.add (i * P.cellsOf e)) (P.cellsOf e) = some c ∧ d.K w b c ∧ wf b := by
      intro i b hb'
      have hi : i < elems.length := by have := (List.getElem?_eq_some_iff.1 hb').1; omega
      exact hx2 i _ b (List.getElem?_eq_getElem hi) hb'
    refine ⟨xs, ⟨some a, cap, by rw [hx1], by omega, ?_⟩, by omega, fun b hb' => ?_⟩
    · refine ⟨rfl, by rw [hx1]; unfold maxLen at hm; omega, fun hp => ⟨a, rfl, fun j b hj => ?_⟩⟩
      obtain ⟨c, hcs, hK, _⟩ := get j b hj
      obtain ⟨_, hcl, hcell⟩ := World.cells?_some hcs
      refine ⟨c, by rw [hcl, hc], hK, fun i u hu => ?_⟩
      have hi : i < P.cellsOf e := by have := (List.getElem?_eq_some_iff.1 hu).1; omega
      have := hcell i hi
      rw [hu] at this
      rw [Addr.add_add] at this
      rw [← hc]
      exact this
    · obtain ⟨i, hi⟩ := List.mem_iff_getElem?.1 hb'
      obtain ⟨_, _, _, hw⟩ := get i b hi
      exact hw
theorem Rdb.struct2 {α β : Type} {P : Program} {t : TypeId} {f0 f1 : Field} {d0 : Kd α} {d1 : Kd β} {w0 : α → Prop} {w1 : β → Prop} (ht : P.underlying t = some (.struct #[f0, f1])) (o0 : f0.offset = 0) (o1 : f1.offset = P.cellsOf f0.type) (cT : P.cellsOf t = P.cellsOf f0.type + P.cellsOf f1.type)
    (r0 : Rdb P f0.type d0 w0) (r1 : Rdb P f1.type d1 w1) : Rdb P t (Kd.pair d0 d1) (fun x => w0 x.1 ∧ w1 x.2) := by
  intro H enc w base spare held fuel cs x h
  obtain ⟨y0, y1, n, _, hl, h0, h1⟩ := ChangeShapes.trod_struct2 ht h
  rw [o0, List.drop_zero] at h0
  rw [o1, List.take_of_length_le (by rw [List.length_drop, hl, cT]; omega)] at h1
  obtain ⟨a, hK0, hw0⟩ := r0 H enc w base spare held n _ y0 h0
  obtain ⟨b, hK1, hw1⟩ := r1 H enc w base spare held n _ y1 h1
  exact ⟨(a, b), ⟨_, _, (List.take_append_drop _ _).symm, hK0, hK1⟩, hw0, hw1⟩
theorem Rdb.iso {α β : Type} {P : Program} {t : TypeId} {d : Kd α} {wf : α → Prop} (r : Rdb P t d wf) (f : β → α) (g : α → β) (hfg : ∀ a, f (g a) = a) : Rdb P t (Kd.iso d f) (fun b => wf (f b)) := by
  intro H enc w base spare held fuel cs x h
  obtain ⟨a, hK, hw⟩ := r H enc w base spare held fuel cs x h
  exact ⟨g a, by show d.K w (f (g a)) cs; rw [hfg]; exact hK, by show wf (f (g a)); rw [hfg]; exact hw⟩
theorem Rdb.of {α : Type} {P : Program} {t : TypeId} {d : Kd α} {wf : α → Prop} (r : Rdb P t d wf) {H : Type} {enc : TypeId × Value → H} {w : World} {base : Nat} {spare : Nat → Bool} {held : Bool} {v : Value} {x : DataW H} {ps : List MemPlace}
    (h : DataW.Trod enc P w base spare held t v x ps) : ∃ a : α, d.K w a v.cells.toList ∧ wf a := by
  obtain ⟨fuel, hf⟩ := h
  exact r H enc w base spare held fuel _ _ hf

end Go.Proofs.YtcjeccohlmmfoaaDoor.F
