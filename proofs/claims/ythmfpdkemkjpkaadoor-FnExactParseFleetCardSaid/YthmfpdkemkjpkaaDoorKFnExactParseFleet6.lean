-- written by the session's program xp.py over the kit's print program, and by hand; texts joined by pack.py
import Derived.Test.YthmfpdkemkjpkaaDoorKFnExactParseFleet5
namespace Go.Proofs.YthmfpdkemkjpkaaDoor.F
open Go.RowKit Go.Proofs.YthmfpdkemkjpkaaDoorW.PrintWords Go.Proofs.YthmfpdkemkjpkaaDoorW.PrintLast Go.Proofs.YthmfpdkemkjpkaaDoorW.PrintMore
attribute [local go_sem] max2_int min2_int max_two min_two max_three min_three max_four min_four   -- for this text's walks alone
set_option linter.unusedVariables false
set_option linter.unusedSimpArgs false

/-! ### laws_FnExactParseFleet: function 3 -/
mutual
def laws_FnExactParseFleet.j0 : Nat → ByteArray → List Int → Int → List Int → Int → Bool → Int → Int → List Int → Int → Int → List Int → Option (Bool)
 | 0, _, _, _, _, _, _, _, _, _, _, _, _ => none
 | k + 1, x1, x6, x7, x9, x10, x47, x410000, x410001, x410002, x426000, x426001, x426002 => if x47 = true then (some false) else ((laws_toSea.f k x410000 x410001 x410002).bind fun bt431 => ((laws_eqSea.f k x426000 x426001 x426002 bt431.1 bt431.2.1 bt431.2.2).bind fun t436 => (if t436 = true then ((laws_markSea.f k x426000 x426001 x426002 1).bind fun bt437 => (if bt437.1 < 0 then (laws_FnExactParseFleet.j1 k x1 x6 x7 x9 true x410000 x410001 x410002) else ((laws_eqInt64S.f k x9 x6).bind fun t439 => (if t439 = true then (laws_FnExactParseFleet.j1 k x1 x6 x7 x9 (x10 != x7) x410000 x410001 x410002) else (laws_FnExactParseFleet.j1 k x1 x6 x7 x9 true x410000 x410001 x410002))))) else (some false))))
def laws_FnExactParseFleet.j1 : Nat → ByteArray → List Int → Int → List Int → Bool → Int → Int → List Int → Option (Bool)
 | 0, _, _, _, _, _, _, _, _ => none
 | k + 1, x1, x6, x7, x9, x68, x410000, x410001, x410002 => if x68 = true then (some false) else ((laws_markInt64S.f k x9 1).bind fun bt440 => ((laws_heldInt64S.f k bt440.2 1).bind fun t442 => (if t442 < 0 then (some false) else (if t442 = bt440.1 then ((laws_toSea.f k x410000 x410001 x410002).bind fun bt443 => ((impl_ParseFleet.f k bt443.1 bt443.2.1 bt443.2.2 x1).bind fun bt448 => ((laws_eqInt64S.f k bt448.1 x6).bind fun t452 => (if t452 = true then (laws_FnExactParseFleet.j2 k bt440.2 bt440.1 (bt448.2 != x7)) else (laws_FnExactParseFleet.j2 k bt440.2 bt440.1 true))))) else (some false)))))
def laws_FnExactParseFleet.j2 : Nat → List Int → Int → Bool → Option (Bool)
 | 0, _, _, _ => none
 | k + 1, x9, x12, x95 => if x95 = true then (some false) else ((laws_heldInt64S.f k x9 1).bind fun t453 => (if t453 < 0 then (some false) else (if t453 = x12 then (some true) else (some false))))
end
def laws_FnExactParseFleet.f (k : Nat) (a0_0 : Int) (a0_1 : Int) (l0_2 : List Int) (a1 : ByteArray) : Option (Bool) := if (a1.size : Int) > 1048576 then (some true) else ((laws_szSea.f a0_0 a0_1 l0_2 1048576).bind fun t410 => (if t410 < 0 then (some true) else ((laws_toSea.f k a0_0 a0_1 l0_2).bind fun bt411 => ((spec_ParseFleet.f k bt411.1 bt411.2.1 bt411.2.2 a1).bind fun bt416 => ((laws_toSea.f k a0_0 a0_1 l0_2).bind fun bt420 => ((impl_ParseFleet.f k bt420.1 bt420.2.1 bt420.2.2 a1).bind fun bt426 => ((laws_eqInt64S.f k bt426.1 bt416.1).bind fun t430 => (if t430 = true then (laws_FnExactParseFleet.j0 k a1 bt416.1 bt416.2 bt426.1 bt426.2 (bt426.2 != bt416.2) a0_0 a0_1 l0_2 bt420.1 bt420.2.1 bt420.2.2) else (laws_FnExactParseFleet.j0 k a1 bt416.1 bt416.2 bt426.1 bt426.2 true a0_0 a0_1 l0_2 bt420.1 bt420.2.1 bt420.2.2)))))))))
set_option maxHeartbeats 8000000 in
set_option maxRecDepth 100000 in
theorem laws_FnExactParseFleet.calls (k : Nat) (a0_0 : Int) (a0_1 : Int) (A0_2 : Option Addr) (c0_2 : Nat) (l0_2 : List Int) (a1 : ByteArray) (r : Bool) (w : World) (hr0_2 : Kd.C (Kd.int .i64) w A0_2 l0_2.length l0_2) (hc0_2 : l0_2.length ≤ c0_2) (h : laws_FnExactParseFleet.f k a0_0 a0_1 l0_2 a1 = some true) :
  Calls Tryd.prog 3 #[.agg #[.int .i64 a0_0, .int .i64 a0_1, .slice A0_2 l0_2.length c0_2], .string a1] w fun e w' => e = .returned (.bool true) ∧ Below w.heap.size w w' := by
 have hu24 := Tryd.underlying24
 have hu28 := Tryd.underlying28
 have HR0_2 := Aside0.mk hr0_2
 have HC0_2 := Aside0.mk hc0_2
 clear hr0_2 hc0_2
 have HB := Aside0.mk (Below.refl w.heap.size w)
 have H : (if (a1.size : Int) > 1048576 then (some true) else ((laws_szSea.f a0_0 a0_1 l0_2 1048576).bind fun t410 => (if t410 < 0 then (some true) else ((laws_toSea.f k a0_0 a0_1 l0_2).bind fun bt411 => ((spec_ParseFleet.f k bt411.1 bt411.2.1 bt411.2.2 a1).bind fun bt416 => ((laws_toSea.f k a0_0 a0_1 l0_2).bind fun bt420 => ((impl_ParseFleet.f k bt420.1 bt420.2.1 bt420.2.2 a1).bind fun bt426 => ((laws_eqInt64S.f k bt426.1 bt416.1).bind fun t430 => (if t430 = true then (laws_FnExactParseFleet.j0 k a1 bt416.1 bt416.2 bt426.1 bt426.2 (bt426.2 != bt416.2) a0_0 a0_1 l0_2 bt420.1 bt420.2.1 bt420.2.2) else (laws_FnExactParseFleet.j0 k a1 bt416.1 bt416.2 bt426.1 bt426.2 true a0_0 a0_1 l0_2 bt420.1 bt420.2.1 bt420.2.2)))))))))) = some true := h
 clear h
 by_cases c3 : (a1.size : Int) > 1048576
 ·rw [if_pos c3] at H
  have c3b0 : decide (1048576 < (a1.size : Int)) = true := decide_eq_true c3
  have c3b1 : decide (1048576 < a1.size) = true := decide_eq_true (by omega)
  clear c3
  clear H
  go_enter Tryd.func3, Tryd.ntmps3
  go_wp2_with (first | ((with_reducible refine gate_dst (N := 2) rfl ?_); refine box_event ?hg (N := 2) ?hd (cs := #[.int .i64 a0_0, .int .i64 a0_1, .slice A0_2 l0_2.length c0_2]) (t := 24) ?hr ?_; (case hd => rfl); (case hg => rfl); (case hr => first | (go_simp; done) | (go_simp; rfl)); intro gb409 hg w4 hbox hb; have n0_ := Aside0.mk (below_step hb_ hb); have n1_ := Aside0.mk (hbox); have n2_ := Aside0.mk ((by rw [hg]; exact (below_size hb_) : w.heap.size ≤ gb409)); have n3_ := Aside0.mk ((by rw [hg]; exact (below_size hb_) : w.heap.size ≤ gb409)); clear HB; have HB := n0_; have BK409 := n1_; have GW409 := n2_; have GE409 := n3_; clear n0_ n1_ n2_ n3_; clear hb hbox hg))
  go_ret
  exact ⟨by first | rfl | (simp [errW_none, errW_some] <;> rfl) | (simp [*, errW_none, errW_some] <;> rfl), by repeat (first | (with_reducible first | exact HB.out | apply below_alloc | apply pw_below_drewN | apply below_drew1 | refine below_set ?_ GE409.out) | exact HB.out)⟩
 ·rw [if_neg c3] at H
  have c3b0 : decide (1048576 < (a1.size : Int)) = false := decide_eq_false c3
  have c3b1 : decide (1048576 < a1.size) = false := decide_eq_false (by omega)
  clear c3
  replace H := Option.bind_eq_some_iff.mp H
  obtain ⟨t410, A50, H⟩ := H
  replace H : (if t410 < 0 then (some true) else ((laws_toSea.f k a0_0 a0_1 l0_2).bind fun bt411 => ((spec_ParseFleet.f k bt411.1 bt411.2.1 bt411.2.2 a1).bind fun bt416 => ((laws_toSea.f k a0_0 a0_1 l0_2).bind fun bt420 => ((impl_ParseFleet.f k bt420.1 bt420.2.1 bt420.2.2 a1).bind fun bt426 => ((laws_eqInt64S.f k bt426.1 bt416.1).bind fun t430 => (if t430 = true then (laws_FnExactParseFleet.j0 k a1 bt416.1 bt416.2 bt426.1 bt426.2 (bt426.2 != bt416.2) a0_0 a0_1 l0_2 bt420.1 bt420.2.1 bt420.2.2) else (laws_FnExactParseFleet.j0 k a1 bt416.1 bt416.2 bt426.1 bt426.2 true a0_0 a0_1 l0_2 bt420.1 bt420.2.1 bt420.2.2)))))))) = some true := H
  have A5 := Aside0.mk A50
  clear A50
  by_cases c6 : t410 < 0
  ·rw [if_pos c6] at H
   have c6b0 : decide (t410 < 0) = true := decide_eq_true c6
   clear c6
   clear H
   go_enter Tryd.func3, Tryd.ntmps3
   go_wp2_with (first | ((with_reducible refine gate_dst (N := 2) rfl ?_); refine box_event ?hg (N := 2) ?hd (cs := #[.int .i64 a0_0, .int .i64 a0_1, .slice A0_2 l0_2.length c0_2]) (t := 24) ?hr ?_; (case hd => rfl); (case hg => rfl); (case hr => first | (go_simp; done) | (go_simp; rfl)); intro gb409 hg w7 hbox hb; have n0_ := Aside0.mk (below_step hb_ hb); have n1_ := Aside0.mk (hbox); have n2_ := Aside0.mk ((by rw [hg]; exact (below_size hb_) : w.heap.size ≤ gb409)); have n3_ := Aside0.mk ((by rw [hg]; exact (below_size hb_) : w.heap.size ≤ gb409)); clear HB; have HB := n0_; have BK409 := n1_; have GW409 := n2_; have GE409 := n3_; clear n0_ n1_ n2_ n3_; clear hb hbox hg; have hcz8_0 : w7.cell? ⟨gb409, 0, none⟩ = some (.int .i64 a0_0) := (blk_cell BK409.out 0).trans rfl; have hcz8_1 : w7.cell? ⟨gb409, 1, none⟩ = some (.int .i64 a0_1) := (blk_cell BK409.out 1).trans rfl; have hcz8_2 : w7.cell? ⟨gb409, 2, none⟩ = some (.slice A0_2 l0_2.length c0_2) := (blk_cell BK409.out 2).trans rfl; have hfz8_0 := blk_frozen BK409.out 0; have hfz8_1 := blk_frozen BK409.out 1; have hfz8_2 := blk_frozen BK409.out 2) | ((with_reducible refine gate_callee (f := 4) rfl ?_); refine goesA_ (some 21) rfl rfl Tryd.func4 (by kernel_rfl) rfl #[.agg #[.int .i64 a0_0, .int .i64 a0_1, .slice A0_2 l0_2.length c0_2], .int .i64 1048576] rfl ?_; (with_reducible refine (laws_szSea.calls a0_0 a0_1 _ _ l0_2 1048576 t410 _ ?side1 ?side2 A5.out).mono ?_); (case side1 => repeat (first | exact (Kd.C_below HR0_2.out HB.out) | (with_reducible refine Kd.C_alloc ?_ _) | (with_reducible refine Kd.C_drewN ?_ _) | (with_reducible refine Kd.C_drew ?_))); (case side2 => exact HC0_2.out); rintro e w9 ⟨rfl, hb⟩; refine ⟨_, rfl, ?_⟩; have n0_ := Aside0.mk (blk_below (g := gb409) (o := .cells #[.int .i64 a0_0, .int .i64 a0_1, .slice A0_2 l0_2.length c0_2] 24 (0, 0)) (by (with_reducible repeat (first | refine blk_drewN ?_ _ | refine blk_drew ?_ | refine blk_alloc ?_ _)); exact BK409.out) hb); have n1_ := Aside0.mk (below_step (by repeat (first | (with_reducible first | exact HB.out | apply below_alloc | apply pw_below_drewN | apply below_drew1 | refine below_set ?_ GE409.out) | exact HB.out)) hb); clear BK409; clear HB; have BK409 := n0_; have HB := n1_; clear n0_ n1_; (try clear hb); (try clear hb2); (try clear hk); (try clear hi)))
   go_ret
   exact ⟨by first | rfl | (simp [errW_none, errW_some] <;> rfl) | (simp [*, errW_none, errW_some] <;> rfl), by repeat (first | (with_reducible first | exact HB.out | apply below_alloc | apply pw_below_drewN | apply below_drew1 | refine below_set ?_ GE409.out) | exact HB.out)⟩
  ·rw [if_neg c6] at H
   have c6b0 : decide (t410 < 0) = false := decide_eq_false c6
   clear c6
   replace H := Option.bind_eq_some_iff.mp H
   obtain ⟨⟨t411, t412, t413⟩, A100, H⟩ := H
   replace H : ((spec_ParseFleet.f k t411 t412 t413 a1).bind fun bt416 => ((laws_toSea.f k a0_0 a0_1 l0_2).bind fun bt420 => ((impl_ParseFleet.f k bt420.1 bt420.2.1 bt420.2.2 a1).bind fun bt426 => ((laws_eqInt64S.f k bt426.1 bt416.1).bind fun t430 => (if t430 = true then (laws_FnExactParseFleet.j0 k a1 bt416.1 bt416.2 bt426.1 bt426.2 (bt426.2 != bt416.2) a0_0 a0_1 l0_2 bt420.1 bt420.2.1 bt420.2.2) else (laws_FnExactParseFleet.j0 k a1 bt416.1 bt416.2 bt426.1 bt426.2 true a0_0 a0_1 l0_2 bt420.1 bt420.2.1 bt420.2.2)))))) = some true := H
   have A10 := Aside0.mk A100
   clear A100
   replace H := Option.bind_eq_some_iff.mp H
   obtain ⟨⟨t416, t419⟩, A110, H⟩ := H
   replace H : ((laws_toSea.f k a0_0 a0_1 l0_2).bind fun bt420 => ((impl_ParseFleet.f k bt420.1 bt420.2.1 bt420.2.2 a1).bind fun bt426 => ((laws_eqInt64S.f k bt426.1 t416).bind fun t430 => (if t430 = true then (laws_FnExactParseFleet.j0 k a1 t416 t419 bt426.1 bt426.2 (bt426.2 != t419) a0_0 a0_1 l0_2 bt420.1 bt420.2.1 bt420.2.2) else (laws_FnExactParseFleet.j0 k a1 t416 t419 bt426.1 bt426.2 true a0_0 a0_1 l0_2 bt420.1 bt420.2.1 bt420.2.2))))) = some true := H
   have A11 := Aside0.mk A110
   clear A110
   replace H := Option.bind_eq_some_iff.mp H
   obtain ⟨⟨t420, t421, t422⟩, A120, H⟩ := H
   replace H : ((impl_ParseFleet.f k t420 t421 t422 a1).bind fun bt426 => ((laws_eqInt64S.f k bt426.1 t416).bind fun t430 => (if t430 = true then (laws_FnExactParseFleet.j0 k a1 t416 t419 bt426.1 bt426.2 (bt426.2 != t419) a0_0 a0_1 l0_2 t420 t421 t422) else (laws_FnExactParseFleet.j0 k a1 t416 t419 bt426.1 bt426.2 true a0_0 a0_1 l0_2 t420 t421 t422)))) = some true := H
   have A12 := Aside0.mk A120
   clear A120
   replace H := Option.bind_eq_some_iff.mp H
   obtain ⟨⟨t426, t429⟩, A130, H⟩ := H
   replace H : ((laws_eqInt64S.f k t426 t416).bind fun t430 => (if t430 = true then (laws_FnExactParseFleet.j0 k a1 t416 t419 t426 t429 (t429 != t419) a0_0 a0_1 l0_2 t420 t421 t422) else (laws_FnExactParseFleet.j0 k a1 t416 t419 t426 t429 true a0_0 a0_1 l0_2 t420 t421 t422))) = some true := H
   have A13 := Aside0.mk A130
   clear A130
   have HC14 := Aside0.mk H
   clear H
   go_enter Tryd.func3, Tryd.ntmps3
   go_upto_region 10 with (first | ((with_reducible refine gate_dst (N := 2) rfl ?_); refine box_event ?hg (N := 2) ?hd (cs := #[.int .i64 a0_0, .int .i64 a0_1, .slice A0_2 l0_2.length c0_2]) (t := 24) ?hr ?_; (case hd => rfl); (case hg => rfl); (case hr => first | (go_simp; done) | (go_simp; rfl)); intro gb409 hg w15 hbox hb; have n0_ := Aside0.mk (below_step hb_ hb); have n1_ := Aside0.mk (hbox); have n2_ := Aside0.mk ((by rw [hg]; exact (below_size hb_) : w.heap.size ≤ gb409)); have n3_ := Aside0.mk ((by rw [hg]; exact (below_size hb_) : w.heap.size ≤ gb409)); clear HB; have HB := n0_; have BK409 := n1_; have GW409 := n2_; have GE409 := n3_; clear n0_ n1_ n2_ n3_; clear hb hbox hg; have hcz16_0 : w15.cell? ⟨gb409, 0, none⟩ = some (.int .i64 a0_0) := (blk_cell BK409.out 0).trans rfl; have hcz16_1 : w15.cell? ⟨gb409, 1, none⟩ = some (.int .i64 a0_1) := (blk_cell BK409.out 1).trans rfl; have hcz16_2 : w15.cell? ⟨gb409, 2, none⟩ = some (.slice A0_2 l0_2.length c0_2) := (blk_cell BK409.out 2).trans rfl; have hfz16_0 := blk_frozen BK409.out 0; have hfz16_1 := blk_frozen BK409.out 1; have hfz16_2 := blk_frozen BK409.out 2) | ((with_reducible refine gate_callee (f := 4) rfl ?_); refine goesA_ (some 21) rfl rfl Tryd.func4 (by kernel_rfl) rfl #[.agg #[.int .i64 a0_0, .int .i64 a0_1, .slice A0_2 l0_2.length c0_2], .int .i64 1048576] rfl ?_; (with_reducible refine (laws_szSea.calls a0_0 a0_1 _ _ l0_2 1048576 t410 _ ?side1 ?side2 A5.out).mono ?_); (case side1 => repeat (first | exact (Kd.C_below HR0_2.out HB.out) | (with_reducible refine Kd.C_alloc ?_ _) | (with_reducible refine Kd.C_drewN ?_ _) | (with_reducible refine Kd.C_drew ?_))); (case side2 => exact HC0_2.out); rintro e w17 ⟨rfl, hb⟩; refine ⟨_, rfl, ?_⟩; have n0_ := Aside0.mk (blk_below (g := gb409) (o := .cells #[.int .i64 a0_0, .int .i64 a0_1, .slice A0_2 l0_2.length c0_2] 24 (0, 0)) (by (with_reducible repeat (first | refine blk_drewN ?_ _ | refine blk_drew ?_ | refine blk_alloc ?_ _)); exact BK409.out) hb); have n1_ := Aside0.mk (below_step (by repeat (first | (with_reducible first | exact HB.out | apply below_alloc | apply pw_below_drewN | apply below_drew1 | refine below_set ?_ GE409.out) | exact HB.out)) hb); clear BK409; clear HB; have BK409 := n0_; have HB := n1_; clear n0_ n1_; (try clear hb); (try clear hb2); (try clear hk); (try clear hi); have hcz18_0 : w17.cell? ⟨gb409, 0, none⟩ = some (.int .i64 a0_0) := (blk_cell BK409.out 0).trans rfl; have hcz18_1 : w17.cell? ⟨gb409, 1, none⟩ = some (.int .i64 a0_1) := (blk_cell BK409.out 1).trans rfl; have hcz18_2 : w17.cell? ⟨gb409, 2, none⟩ = some (.slice A0_2 l0_2.length c0_2) := (blk_cell BK409.out 2).trans rfl; have hfz18_0 := blk_frozen BK409.out 0; have hfz18_1 := blk_frozen BK409.out 1; have hfz18_2 := blk_frozen BK409.out 2) | ((with_reducible refine gate_callee (f := 6) rfl ?_); refine goesA_ (some 26) rfl rfl Tryd.func6 (by kernel_rfl) rfl #[.agg #[.int .i64 a0_0, .int .i64 a0_1, .slice A0_2 l0_2.length c0_2]] rfl ?_; (with_reducible refine (laws_toSea.calls k a0_0 a0_1 _ _ l0_2 t411 t412 t413 _ ?side1 ?side2 A10.out).mono ?_); (case side1 => repeat (first | exact (Kd.C_below HR0_2.out HB.out) | (with_reducible refine Kd.C_alloc ?_ _) | (with_reducible refine Kd.C_drewN ?_ _) | (with_reducible refine Kd.C_drew ?_))); (case side2 => exact HC0_2.out); rintro e w19 ⟨v414, rfl, ho0, hb⟩; refine ⟨_, rfl, ?_⟩; have n0_ := Aside0.mk (Kd.R_lower ho0 (below_size (by repeat (first | (with_reducible first | exact HB.out | apply below_alloc | apply pw_below_drewN | apply below_drew1 | refine below_set ?_ GE409.out) | exact HB.out)))); have n1_ := Aside0.mk (blk_below (g := gb409) (o := .cells #[.int .i64 a0_0, .int .i64 a0_1, .slice A0_2 l0_2.length c0_2] 24 (0, 0)) (by (with_reducible repeat (first | refine blk_drewN ?_ _ | refine blk_drew ?_ | refine blk_alloc ?_ _)); exact BK409.out) hb); have n2_ := Aside0.mk (below_step (by repeat (first | (with_reducible first | exact HB.out | apply below_alloc | apply pw_below_drewN | apply below_drew1 | refine below_set ?_ GE409.out) | exact HB.out)) hb); clear BK409; clear HB; have HO415 := n0_; have BK409 := n1_; have HB := n2_; clear n0_ n1_ n2_; (try clear hb); (try clear hb2); (try clear hk); (try clear hi); (try clear ho0); obtain ⟨Ao20, co20, eo20⟩ := Kd.R_slice HO415.out; subst eo20) | ((with_reducible refine gate_callee (f := 5) rfl ?_); refine goesA_ (some 28) rfl rfl Tryd.func5 (by kernel_rfl) rfl #[.agg #[.int .i64 t411, .int .i64 t412, .slice Ao20 t413.length co20], .string a1] rfl ?_; (with_reducible refine (spec_ParseFleet.calls k t411 t412 _ _ t413 a1 t416 t419 _ ?side1 ?side2 A11.out).mono ?_); (case side1 => repeat (first | exact (Kd.R_reads' HO415.out).2.2 | (with_reducible refine Kd.C_alloc ?_ _) | (with_reducible refine Kd.C_drewN ?_ _) | (with_reducible refine Kd.C_drew ?_))); (case side2 => exact (Kd.R_reads' HO415.out).2.1); rintro e w21 ⟨v417, rfl, ho0, hb⟩; refine ⟨_, rfl, ?_⟩; have n0_ := Aside0.mk (Kd.R_elder' (by (with_reducible repeat (first | apply Kd.R_alloc | apply Kd.R_drewN | apply Kd.R_drew)); exact HO415.out) (Kd.R_base ho0) hb); have n1_ := Aside0.mk (Kd.R_lower (Kd.R_new' ho0 (Kd.R_lt (by (with_reducible repeat (first | apply Kd.R_alloc | apply Kd.R_drewN | apply Kd.R_drew)); exact HO415.out))) (below_size (by repeat (first | (with_reducible first | exact HB.out | apply below_alloc | apply pw_below_drewN | apply below_drew1 | refine below_set ?_ GE409.out) | exact HB.out)))); have n2_ := Aside0.mk (blk_below (g := gb409) (o := .cells #[.int .i64 a0_0, .int .i64 a0_1, .slice A0_2 l0_2.length c0_2] 24 (0, 0)) (by (with_reducible repeat (first | refine blk_drewN ?_ _ | refine blk_drew ?_ | refine blk_alloc ?_ _)); exact BK409.out) hb); have n3_ := Aside0.mk (below_step (by repeat (first | (with_reducible first | exact HB.out | apply below_alloc | apply pw_below_drewN | apply below_drew1 | refine below_set ?_ GE409.out) | exact HB.out)) hb); clear HO415; clear BK409; clear HB; have HO415 := n0_; have HO418 := n1_; have BK409 := n2_; have HB := n3_; clear n0_ n1_ n2_ n3_; (try clear hb); (try clear hb2); (try clear hk); (try clear hi); (try clear ho0); have hcz22_0 : w21.cell? ⟨gb409, 0, none⟩ = some (.int .i64 a0_0) := (blk_cell BK409.out 0).trans rfl; have hcz22_1 : w21.cell? ⟨gb409, 1, none⟩ = some (.int .i64 a0_1) := (blk_cell BK409.out 1).trans rfl; have hcz22_2 : w21.cell? ⟨gb409, 2, none⟩ = some (.slice A0_2 l0_2.length c0_2) := (blk_cell BK409.out 2).trans rfl; have hfz22_0 := blk_frozen BK409.out 0; have hfz22_1 := blk_frozen BK409.out 1; have hfz22_2 := blk_frozen BK409.out 2) | ((with_reducible refine gate_callee (f := 6) rfl ?_); refine goesA_ (some 32) rfl rfl Tryd.func6 (by kernel_rfl) rfl #[.agg #[.int .i64 a0_0, .int .i64 a0_1, .slice A0_2 l0_2.length c0_2]] rfl ?_; (with_reducible refine (laws_toSea.calls k a0_0 a0_1 _ _ l0_2 t420 t421 t422 _ ?side1 ?side2 A12.out).mono ?_); (case side1 => repeat (first | exact (Kd.C_below HR0_2.out HB.out) | (with_reducible refine Kd.C_alloc ?_ _) | (with_reducible refine Kd.C_drewN ?_ _) | (with_reducible refine Kd.C_drew ?_))); (case side2 => exact HC0_2.out); rintro e w23 ⟨v423, rfl, ho0, hb⟩; refine ⟨_, rfl, ?_⟩; have n0_ := Aside0.mk (Kd.R_elder' (by (with_reducible repeat (first | apply Kd.R_alloc | apply Kd.R_drewN | apply Kd.R_drew)); exact HO415.out) (Kd.R_base ho0) hb); have n1_ := Aside0.mk (Kd.R_elder' (by (with_reducible repeat (first | apply Kd.R_alloc | apply Kd.R_drewN | apply Kd.R_drew)); exact HO418.out) (Kd.R_base ho0) hb); have n2_ := Aside0.mk (Kd.R_lower (Kd.R_new' (Kd.R_new' ho0 (Kd.R_lt (by (with_reducible repeat (first | apply Kd.R_alloc | apply Kd.R_drewN | apply Kd.R_drew)); exact HO415.out))) (Kd.R_lt (by (with_reducible repeat (first | apply Kd.R_alloc | apply Kd.R_drewN | apply Kd.R_drew)); exact HO418.out))) (below_size (by repeat (first | (with_reducible first | exact HB.out | apply below_alloc | apply pw_below_drewN | apply below_drew1 | refine below_set ?_ GE409.out) | exact HB.out)))); have n3_ := Aside0.mk (blk_below (g := gb409) (o := .cells #[.int .i64 a0_0, .int .i64 a0_1, .slice A0_2 l0_2.length c0_2] 24 (0, 0)) (by (with_reducible repeat (first | refine blk_drewN ?_ _ | refine blk_drew ?_ | refine blk_alloc ?_ _)); exact BK409.out) hb); have n4_ := Aside0.mk (below_step (by repeat (first | (with_reducible first | exact HB.out | apply below_alloc | apply pw_below_drewN | apply below_drew1 | refine below_set ?_ GE409.out) | exact HB.out)) hb); clear HO415; clear HO418; clear BK409; clear HB; have HO415 := n0_; have HO418 := n1_; have HO424 := n2_; have BK409 := n3_; have HB := n4_; clear n0_ n1_ n2_ n3_ n4_; (try clear hb); (try clear hb2); (try clear hk); (try clear hi); (try clear ho0)) | ((with_reducible refine gate_dst (N := 8) rfl ?_); refine box_event ?hg (N := 8) ?hd (cs := #[.int .i64 0, .int .i64 0, .slice none 0 0]) (t := 28) ?hr ?_; (case hd => rfl); (case hg => rfl); (case hr => first | (go_simp; done) | (go_simp; rfl)); intro gb425 hg w24 hbox hb; have n0_ := Aside0.mk (Kd.R_below (by (with_reducible repeat (first | apply Kd.R_alloc | apply Kd.R_drewN | apply Kd.R_drew)); exact HO415.out) hb); have n1_ := Aside0.mk (Kd.R_below (by (with_reducible repeat (first | apply Kd.R_alloc | apply Kd.R_drewN | apply Kd.R_drew)); exact HO418.out) hb); have n2_ := Aside0.mk (Kd.R_below (by (with_reducible repeat (first | apply Kd.R_alloc | apply Kd.R_drewN | apply Kd.R_drew)); exact HO424.out) hb); have n3_ := Aside0.mk (blk_below (g := gb409) (o := .cells #[.int .i64 a0_0, .int .i64 a0_1, .slice A0_2 l0_2.length c0_2] 24 (0, 0)) (by (with_reducible repeat (first | refine blk_drewN ?_ _ | refine blk_drew ?_ | refine blk_alloc ?_ _)); exact BK409.out) hb); have n4_ := Aside0.mk (below_step (by repeat (first | (with_reducible first | exact HB.out | apply below_alloc | apply pw_below_drewN | apply below_drew1 | refine below_set ?_ GE409.out) | exact HB.out)) hb); have n5_ := Aside0.mk (hbox); have n6_ := Aside0.mk ((by rw [hg]; exact (below_size (by repeat (first | (with_reducible first | exact HB.out | apply below_alloc | apply pw_below_drewN | apply below_drew1 | refine below_set ?_ GE409.out) | exact HB.out))) : w.heap.size ≤ gb425)); have n7_ := Aside0.mk ((by rw [hg]; exact (below_size (by repeat (first | (with_reducible first | exact HB.out | apply below_alloc | apply pw_below_drewN | apply below_drew1 | refine below_set ?_ GE409.out) | exact HB.out))) : w.heap.size ≤ gb425)); have n8_ := Aside0.mk ((by rw [hg]; exact Nat.ne_of_lt (blk_lt (g := gb409) (o := .cells #[.int .i64 a0_0, .int .i64 a0_1, .slice A0_2 l0_2.length c0_2] 24 (0, 0)) (by (with_reducible repeat (first | refine blk_drewN ?_ _ | refine blk_drew ?_ | refine blk_alloc ?_ _)); exact BK409.out)) : gb409 ≠ gb425)); have n9_ := Aside0.mk ((by rw [hg]; exact Nat.ne_of_gt (blk_lt (g := gb409) (o := .cells #[.int .i64 a0_0, .int .i64 a0_1, .slice A0_2 l0_2.length c0_2] 24 (0, 0)) (by (with_reducible repeat (first | refine blk_drewN ?_ _ | refine blk_drew ?_ | refine blk_alloc ?_ _)); exact BK409.out)) : gb425 ≠ gb409)); clear HO415; clear HO418; clear HO424; clear BK409; clear HB; have HO415 := n0_; have HO418 := n1_; have HO424 := n2_; have BK409 := n3_; have HB := n4_; have BK425 := n5_; have GW425 := n6_; have GE425 := n7_; have NB409_425 := n8_; have NB425_409 := n9_; clear n0_ n1_ n2_ n3_ n4_ n5_ n6_ n7_ n8_ n9_; clear hb hbox hg; have hnb25 := NB425_409.out; have hnc25 := NB409_425.out; have hcz26_0 : w24.cell? ⟨gb425, 0, none⟩ = some (.int .i64 0) := (blk_cell BK425.out 0).trans rfl; have hcz26_1 : w24.cell? ⟨gb425, 1, none⟩ = some (.int .i64 0) := (blk_cell BK425.out 1).trans rfl; have hcz26_2 : w24.cell? ⟨gb425, 2, none⟩ = some (.slice none 0 0) := (blk_cell BK425.out 2).trans rfl; have hfz26_0 := blk_frozen BK425.out 0; have hfz26_1 := blk_frozen BK425.out 1; have hfz26_2 := blk_frozen BK425.out 2; obtain ⟨Ao27, co27, eo27⟩ := Kd.R_slice HO424.out; subst eo27) | ((with_reducible refine gate_callee (f := 7) rfl ?_); refine goesA_ (some 36) rfl rfl Tryd.func7 (by kernel_rfl) rfl #[.agg #[.int .i64 t420, .int .i64 t421, .slice Ao27 t422.length co27], .string a1] rfl ?_; (with_reducible refine (impl_ParseFleet.calls k t420 t421 _ _ t422 a1 t426 t429 _ ?side1 ?side2 A13.out).mono ?_); (case side1 => refine (Kd.R_reads' (e := 2) (base := w.heap.size) (ok := fun k_ => ((True ∧ some k_ ≠ (.slice Ao20 t413.length co20 : Value).ownBlock) ∧ some k_ ≠ (v417 : Value).ownBlock)) (n := t422.length) (c := co27) ?_).2.2; exact (by (with_reducible repeat (first | apply Kd.R_alloc | apply Kd.R_drewN | apply Kd.R_drew)); exact (Kd.R_mono (Kd.R_far (p := ⟨gb425, 2, none⟩) (Kd.R_far (p := ⟨gb425, 1, none⟩) (Kd.R_far (p := ⟨gb425, 0, none⟩) (Kd.R_types HO424.out BK425.out (by decide)) (fun _ hk => hk.2) (.int .i64 t420)) (fun _ hk => hk.2) (.int .i64 t421)) (fun _ hk => hk.2) (.slice Ao27 t422.length co27)) (fun _ h_ => h_.1)))); (case side2 => exact (Kd.R_reads' HO424.out).2.1); rintro e w28 ⟨v427, rfl, ho0, hb⟩; refine ⟨_, rfl, ?_⟩; have n0_ := Aside0.mk (Kd.R_elder' (by (with_reducible repeat (first | apply Kd.R_alloc | apply Kd.R_drewN | apply Kd.R_drew)); exact (Kd.R_mono (Kd.R_far (p := ⟨gb425, 2, none⟩) (Kd.R_far (p := ⟨gb425, 1, none⟩) (Kd.R_far (p := ⟨gb425, 0, none⟩) (Kd.R_types HO415.out BK425.out (by decide)) (fun _ hk => hk.2) (.int .i64 t420)) (fun _ hk => hk.2) (.int .i64 t421)) (fun _ hk => hk.2) (.slice Ao27 t422.length co27)) (fun _ h_ => h_.1))) (Kd.R_base ho0) hb); have n1_ := Aside0.mk (Kd.R_elder' (by (with_reducible repeat (first | apply Kd.R_alloc | apply Kd.R_drewN | apply Kd.R_drew)); exact (Kd.R_mono (Kd.R_far (p := ⟨gb425, 2, none⟩) (Kd.R_far (p := ⟨gb425, 1, none⟩) (Kd.R_far (p := ⟨gb425, 0, none⟩) (Kd.R_types HO418.out BK425.out (by decide)) (fun _ hk => hk.2) (.int .i64 t420)) (fun _ hk => hk.2) (.int .i64 t421)) (fun _ hk => hk.2) (.slice Ao27 t422.length co27)) (fun _ h_ => h_.1))) (Kd.R_base ho0) hb); have n2_ := Aside0.mk (Kd.R_elder' (by (with_reducible repeat (first | apply Kd.R_alloc | apply Kd.R_drewN | apply Kd.R_drew)); exact (Kd.R_mono (Kd.R_far (p := ⟨gb425, 2, none⟩) (Kd.R_far (p := ⟨gb425, 1, none⟩) (Kd.R_far (p := ⟨gb425, 0, none⟩) (Kd.R_types HO424.out BK425.out (by decide)) (fun _ hk => hk.2) (.int .i64 t420)) (fun _ hk => hk.2) (.int .i64 t421)) (fun _ hk => hk.2) (.slice Ao27 t422.length co27)) (fun _ h_ => h_.1))) (Kd.R_base ho0) hb); have n3_ := Aside0.mk (Kd.R_lower (Kd.R_new' (Kd.R_new' (Kd.R_new' ho0 (Kd.R_lt (by (with_reducible repeat (first | apply Kd.R_alloc | apply Kd.R_drewN | apply Kd.R_drew)); exact (Kd.R_mono (Kd.R_far (p := ⟨gb425, 2, none⟩) (Kd.R_far (p := ⟨gb425, 1, none⟩) (Kd.R_far (p := ⟨gb425, 0, none⟩) (Kd.R_types HO415.out BK425.out (by decide)) (fun _ hk => hk.2) (.int .i64 t420)) (fun _ hk => hk.2) (.int .i64 t421)) (fun _ hk => hk.2) (.slice Ao27 t422.length co27)) (fun _ h_ => h_.1))))) (Kd.R_lt (by (with_reducible repeat (first | apply Kd.R_alloc | apply Kd.R_drewN | apply Kd.R_drew)); exact (Kd.R_mono (Kd.R_far (p := ⟨gb425, 2, none⟩) (Kd.R_far (p := ⟨gb425, 1, none⟩) (Kd.R_far (p := ⟨gb425, 0, none⟩) (Kd.R_types HO418.out BK425.out (by decide)) (fun _ hk => hk.2) (.int .i64 t420)) (fun _ hk => hk.2) (.int .i64 t421)) (fun _ hk => hk.2) (.slice Ao27 t422.length co27)) (fun _ h_ => h_.1))))) (Kd.R_lt (by (with_reducible repeat (first | apply Kd.R_alloc | apply Kd.R_drewN | apply Kd.R_drew)); exact (Kd.R_mono (Kd.R_far (p := ⟨gb425, 2, none⟩) (Kd.R_far (p := ⟨gb425, 1, none⟩) (Kd.R_far (p := ⟨gb425, 0, none⟩) (Kd.R_types HO424.out BK425.out (by decide)) (fun _ hk => hk.2) (.int .i64 t420)) (fun _ hk => hk.2) (.int .i64 t421)) (fun _ hk => hk.2) (.slice Ao27 t422.length co27)) (fun _ h_ => h_.1))))) (below_size (by repeat (first | (with_reducible first | exact HB.out | apply below_alloc | apply pw_below_drewN | apply below_drew1 | refine below_set ?_ GE409.out | refine below_set ?_ GE425.out) | exact HB.out)))); have n4_ := Aside0.mk (blk_below (g := gb409) (o := .cells #[.int .i64 a0_0, .int .i64 a0_1, .slice A0_2 l0_2.length c0_2] 24 (0, 0)) (by (with_reducible repeat (first | refine blk_drewN ?_ _ | refine blk_drew ?_ | refine blk_alloc ?_ _)); refine blk_far ?_ NB409_425.out _; (with_reducible repeat (first | refine blk_drewN ?_ _ | refine blk_drew ?_ | refine blk_alloc ?_ _)); refine blk_far ?_ NB409_425.out _; (with_reducible repeat (first | refine blk_drewN ?_ _ | refine blk_drew ?_ | refine blk_alloc ?_ _)); refine blk_far ?_ NB409_425.out _; (with_reducible repeat (first | refine blk_drewN ?_ _ | refine blk_drew ?_ | refine blk_alloc ?_ _)); exact BK409.out) hb); have n5_ := Aside0.mk (blk_below (g := gb425) (o := .cells #[.int .i64 t420, .int .i64 t421, .slice Ao27 t422.length co27] 28 (0, 0)) (by (with_reducible repeat (first | refine blk_drewN ?_ _ | refine blk_drew ?_ | refine blk_alloc ?_ _)); refine blk_put (cs := #[.int .i64 t420, .int .i64 t421, .slice none 0 0]) ?_ 2 _ rfl; (with_reducible repeat (first | refine blk_drewN ?_ _ | refine blk_drew ?_ | refine blk_alloc ?_ _)); refine blk_put (cs := #[.int .i64 t420, .int .i64 0, .slice none 0 0]) ?_ 1 _ rfl; (with_reducible repeat (first | refine blk_drewN ?_ _ | refine blk_drew ?_ | refine blk_alloc ?_ _)); refine blk_put (cs := #[.int .i64 0, .int .i64 0, .slice none 0 0]) ?_ 0 _ rfl; (with_reducible repeat (first | refine blk_drewN ?_ _ | refine blk_drew ?_ | refine blk_alloc ?_ _)); exact BK425.out) hb); have n6_ := Aside0.mk (below_step (by repeat (first | (with_reducible first | exact HB.out | apply below_alloc | apply pw_below_drewN | apply below_drew1 | refine below_set ?_ GE409.out | refine below_set ?_ GE425.out) | exact HB.out)) hb); clear HO415; clear HO418; clear HO424; clear BK409; clear BK425; clear HB; have HO415 := n0_; have HO418 := n1_; have HO424 := n2_; have HO428 := n3_; have BK409 := n4_; have BK425 := n5_; have HB := n6_; clear n0_ n1_ n2_ n3_ n4_ n5_ n6_; (try clear hb); (try clear hb2); (try clear hk); (try clear hi); (try clear ho0)))
   (try simp only [Act.put, List.setIfInBounds_toArray, List.set_cons_zero, List.set_cons_succ])
   go_cut [47] (fun v47 wc => ∃ (kq : Nat) (x47_13 : Bool), v47 = .bool x47_13 ∧ Aside0 (laws_FnExactParseFleet.j0 kq a1 t416 t419 t426 t429 x47_13 a0_0 a0_1 l0_2 t420 t421 t422 = some true) ∧ Aside0 (kq ≤ k) ∧ Aside0 (Kd.R (Kd.int .i64) 2 wc w.heap.size (fun k_ => some k_ ≠ (v427 : Value).ownBlock ∧ some k_ ≠ ((.slice Ao27 t422.length co27) : Value).ownBlock) v417 t416) ∧ Aside0 (Kd.R (Kd.int .i64) 2 wc w.heap.size (fun k_ => some k_ ≠ (v417 : Value).ownBlock ∧ some k_ ≠ ((.slice Ao27 t422.length co27) : Value).ownBlock) v427 t426) ∧ Aside0 (Kd.R (Kd.int .i64) 2 wc w.heap.size (fun k_ => some k_ ≠ (v417 : Value).ownBlock ∧ some k_ ≠ (v427 : Value).ownBlock) (.slice Ao27 t422.length co27) t422) ∧ Aside0 (wc.heap[gb409]? = some (.cells #[.int .i64 a0_0, .int .i64 a0_1, (.slice A0_2 l0_2.length c0_2)] 24 (0, 0))) ∧ Aside0 (wc.heap[gb425]? = some (.cells #[.int .i64 t420, .int .i64 t421, (.slice Ao27 t422.length co27)] 28 (0, 0))) ∧ Aside0 (Below w.heap.size w wc))
   case first =>
    have H := HC14.out
    clear HC14
    replace H := Option.bind_eq_some_iff.mp H
    obtain ⟨t430, A290, H⟩ := H
    replace H : (if t430 = true then (laws_FnExactParseFleet.j0 k a1 t416 t419 t426 t429 (t429 != t419) a0_0 a0_1 l0_2 t420 t421 t422) else (laws_FnExactParseFleet.j0 k a1 t416 t419 t426 t429 true a0_0 a0_1 l0_2 t420 t421 t422)) = some true := H
    have A29 := Aside0.mk A290
    clear A290
    by_cases c30 : t430 = true
    ·subst c30
     have H1 : (laws_FnExactParseFleet.j0 k a1 t416 t419 t426 t429 (t429 != t419) a0_0 a0_1 l0_2 t420 t421 t422) = some true := by rw [if_pos rfl] at H; exact H
     clear H
     have H := H1
     clear H1
     have H' := Aside0.mk H
     clear H
     obtain ⟨Ao31, co31, eo31⟩ := Kd.R_slice HO428.out
     subst eo31
     obtain ⟨Ao32, co32, eo32⟩ := Kd.R_slice HO418.out
     subst eo32
     go_wp2_with (first | ((with_reducible refine gate_callee (f := 8) rfl ?_); refine goesA_ (some 41) rfl rfl Tryd.func8 (by kernel_rfl) rfl #[.slice Ao31 t426.length co31, .slice Ao32 t416.length co32] rfl ?_; (with_reducible refine (laws_eqInt64S.calls k _ _ t426 _ _ t416 true _ ?side1 ?side2 ?side3 ?side4 A29.out).mono ?_); (case side1 => repeat (first | exact (Kd.R_reads' HO428.out).2.2 | (with_reducible refine Kd.C_alloc ?_ _) | (with_reducible refine Kd.C_drewN ?_ _) | (with_reducible refine Kd.C_drew ?_))); (case side2 => exact (Kd.R_reads' HO428.out).2.1); (case side3 => repeat (first | exact (Kd.R_reads' HO418.out).2.2 | (with_reducible refine Kd.C_alloc ?_ _) | (with_reducible refine Kd.C_drewN ?_ _) | (with_reducible refine Kd.C_drew ?_))); (case side4 => exact (Kd.R_reads' HO418.out).2.1); rintro e w' ⟨rfl, ⟨nd, rfl⟩⟩; refine ⟨_, rfl, ?_⟩))
     go_meet
     case rel => exact ⟨_, ((t429 != t419)), (by first | rfl | (simp; done) | (simp [*]; done)), H', ⟨by first | omega | exact Nat.le_refl _⟩, ⟨by (with_reducible repeat (first | apply Kd.R_alloc | apply Kd.R_drewN | apply Kd.R_drew)); exact Kd.R_mono HO418.out (fun _ hk => ⟨hk.2, hk.1.2⟩)⟩, ⟨by (with_reducible repeat (first | apply Kd.R_alloc | apply Kd.R_drewN | apply Kd.R_drew)); exact Kd.R_mono HO428.out (fun _ hk => ⟨hk.1.2, hk.2⟩)⟩, ⟨by (with_reducible repeat (first | apply Kd.R_alloc | apply Kd.R_drewN | apply Kd.R_drew)); exact Kd.R_mono HO424.out (fun _ hk => ⟨hk.1.2, hk.2⟩)⟩, ⟨by (with_reducible repeat (first | refine blk_drewN ?_ _ | refine blk_drew ?_ | refine blk_alloc ?_ _)); exact BK409.out⟩, ⟨by (with_reducible repeat (first | refine blk_drewN ?_ _ | refine blk_drew ?_ | refine blk_alloc ?_ _)); exact BK425.out⟩, ⟨by repeat (first | (with_reducible first | exact HB.out | apply below_alloc | apply pw_below_drewN | apply below_drew1 | refine below_set ?_ GE409.out | refine below_set ?_ GE425.out) | exact HB.out)⟩⟩
    ·replace c30 := Bool.eq_false_iff.mpr c30
     subst c30
     have H1 : (laws_FnExactParseFleet.j0 k a1 t416 t419 t426 t429 true a0_0 a0_1 l0_2 t420 t421 t422) = some true := by rw [if_neg (show ¬ (false = true) by decide)] at H; exact H
     clear H
     have H := H1
     clear H1
     have H' := Aside0.mk H
     clear H
     obtain ⟨Ao33, co33, eo33⟩ := Kd.R_slice HO428.out
     subst eo33
     obtain ⟨Ao34, co34, eo34⟩ := Kd.R_slice HO418.out
     subst eo34
     go_wp2_with (first | ((with_reducible refine gate_callee (f := 8) rfl ?_); refine goesA_ (some 41) rfl rfl Tryd.func8 (by kernel_rfl) rfl #[.slice Ao33 t426.length co33, .slice Ao34 t416.length co34] rfl ?_; (with_reducible refine (laws_eqInt64S.calls k _ _ t426 _ _ t416 false _ ?side1 ?side2 ?side3 ?side4 A29.out).mono ?_); (case side1 => repeat (first | exact (Kd.R_reads' HO428.out).2.2 | (with_reducible refine Kd.C_alloc ?_ _) | (with_reducible refine Kd.C_drewN ?_ _) | (with_reducible refine Kd.C_drew ?_))); (case side2 => exact (Kd.R_reads' HO428.out).2.1); (case side3 => repeat (first | exact (Kd.R_reads' HO418.out).2.2 | (with_reducible refine Kd.C_alloc ?_ _) | (with_reducible refine Kd.C_drewN ?_ _) | (with_reducible refine Kd.C_drew ?_))); (case side4 => exact (Kd.R_reads' HO418.out).2.1); rintro e w' ⟨rfl, ⟨nd, rfl⟩⟩; refine ⟨_, rfl, ?_⟩))
     go_meet
     case rel => exact ⟨_, (true), (by first | rfl | (simp; done) | (simp [*]; done)), H', ⟨by first | omega | exact Nat.le_refl _⟩, ⟨by (with_reducible repeat (first | apply Kd.R_alloc | apply Kd.R_drewN | apply Kd.R_drew)); exact Kd.R_mono HO418.out (fun _ hk => ⟨hk.2, hk.1.2⟩)⟩, ⟨by (with_reducible repeat (first | apply Kd.R_alloc | apply Kd.R_drewN | apply Kd.R_drew)); exact Kd.R_mono HO428.out (fun _ hk => ⟨hk.1.2, hk.2⟩)⟩, ⟨by (with_reducible repeat (first | apply Kd.R_alloc | apply Kd.R_drewN | apply Kd.R_drew)); exact Kd.R_mono HO424.out (fun _ hk => ⟨hk.1.2, hk.2⟩)⟩, ⟨by (with_reducible repeat (first | refine blk_drewN ?_ _ | refine blk_drew ?_ | refine blk_alloc ?_ _)); exact BK409.out⟩, ⟨by (with_reducible repeat (first | refine blk_drewN ?_ _ | refine blk_drew ?_ | refine blk_alloc ?_ _)); exact BK425.out⟩, ⟨by repeat (first | (with_reducible first | exact HB.out | apply below_alloc | apply pw_below_drewN | apply below_drew1 | refine below_set ?_ GE409.out | refine below_set ?_ GE425.out) | exact HB.out)⟩⟩
   case rest =>
    clear HC14
    (try clear c2); (try clear p2); (try clear c3); (try clear c3b0); (try clear c3b1); (try clear c4); (try clear c5); (try clear c6); (try clear c6b0); (try clear c7); (try clear c8); (try clear c25); (try clear c30); (try clear hcz16_0); (try clear hcz16_1); (try clear hcz16_2); (try clear hcz18_0); (try clear hcz18_1); (try clear hcz18_2); (try clear hcz22_0); (try clear hcz22_1); (try clear hcz22_2); (try clear hcz26_0); (try clear hcz26_1); (try clear hcz26_2); (try clear hcz8_0); (try clear hcz8_1); (try clear hcz8_2); (try clear hfz16_0); (try clear hfz16_1); (try clear hfz16_2); (try clear hfz18_0); (try clear hfz18_1); (try clear hfz18_2); (try clear hfz22_0); (try clear hfz22_1); (try clear hfz22_2); (try clear hfz26_0); (try clear hfz26_1); (try clear hfz26_2); (try clear hfz8_0); (try clear hfz8_1); (try clear hfz8_2)
    obtain ⟨kq, x47_13, rfl, HA, HJ13, HO_6, HO_9, HO_426002, BK409, BK425, HB⟩ := hcut
    cases kq with
    | zero => exact absurd HA.out (by simp [laws_FnExactParseFleet.j0])
    | succ kj13 =>
     have H := HA.out
     clear HA
     simp only [laws_FnExactParseFleet.j0] at H
     by_cases c35 : x47_13 = true
     ·subst c35
      have H1 : (some false) = some true := by rw [if_pos rfl] at H; exact H
      clear H
      have H := H1
      clear H1
      exact absurd H (by simp)
     ·replace c35 := Bool.eq_false_iff.mpr c35
      subst c35
      have H1 : ((laws_toSea.f kj13 a0_0 a0_1 l0_2).bind fun bt431 => ((laws_eqSea.f kj13 t420 t421 t422 bt431.1 bt431.2.1 bt431.2.2).bind fun t436 => (if t436 = true then ((laws_markSea.f kj13 t420 t421 t422 1).bind fun bt437 => (if bt437.1 < 0 then (laws_FnExactParseFleet.j1 kj13 a1 t416 t419 t426 true a0_0 a0_1 l0_2) else ((laws_eqInt64S.f kj13 t426 t416).bind fun t439 => (if t439 = true then (laws_FnExactParseFleet.j1 kj13 a1 t416 t419 t426 (t429 != t419) a0_0 a0_1 l0_2) else (laws_FnExactParseFleet.j1 kj13 a1 t416 t419 t426 true a0_0 a0_1 l0_2))))) else (some false)))) = some true := by rw [if_neg (show ¬ (false = true) by decide)] at H; exact H
      clear H
      have H := H1
      clear H1
      replace H := Option.bind_eq_some_iff.mp H
      obtain ⟨⟨t431, t432, t433⟩, A360, H⟩ := H
      replace H : ((laws_eqSea.f kj13 t420 t421 t422 t431 t432 t433).bind fun t436 => (if t436 = true then ((laws_markSea.f kj13 t420 t421 t422 1).bind fun bt437 => (if bt437.1 < 0 then (laws_FnExactParseFleet.j1 kj13 a1 t416 t419 t426 true a0_0 a0_1 l0_2) else ((laws_eqInt64S.f kj13 t426 t416).bind fun t439 => (if t439 = true then (laws_FnExactParseFleet.j1 kj13 a1 t416 t419 t426 (t429 != t419) a0_0 a0_1 l0_2) else (laws_FnExactParseFleet.j1 kj13 a1 t416 t419 t426 true a0_0 a0_1 l0_2))))) else (some false))) = some true := H
      have A36 := Aside0.mk A360
      clear A360
      replace H := Option.bind_eq_some_iff.mp H
      obtain ⟨t436, A370, H⟩ := H
      replace H : (if t436 = true then ((laws_markSea.f kj13 t420 t421 t422 1).bind fun bt437 => (if bt437.1 < 0 then (laws_FnExactParseFleet.j1 kj13 a1 t416 t419 t426 true a0_0 a0_1 l0_2) else ((laws_eqInt64S.f kj13 t426 t416).bind fun t439 => (if t439 = true then (laws_FnExactParseFleet.j1 kj13 a1 t416 t419 t426 (t429 != t419) a0_0 a0_1 l0_2) else (laws_FnExactParseFleet.j1 kj13 a1 t416 t419 t426 true a0_0 a0_1 l0_2))))) else (some false)) = some true := H
      have A37 := Aside0.mk A370
      clear A370
      by_cases c38 : t436 = true
      ·subst c38
       have H1 : ((laws_markSea.f kj13 t420 t421 t422 1).bind fun bt437 => (if bt437.1 < 0 then (laws_FnExactParseFleet.j1 kj13 a1 t416 t419 t426 true a0_0 a0_1 l0_2) else ((laws_eqInt64S.f kj13 t426 t416).bind fun t439 => (if t439 = true then (laws_FnExactParseFleet.j1 kj13 a1 t416 t419 t426 (t429 != t419) a0_0 a0_1 l0_2) else (laws_FnExactParseFleet.j1 kj13 a1 t416 t419 t426 true a0_0 a0_1 l0_2))))) = some true := by rw [if_pos rfl] at H; exact H
       clear H
       have H := H1
       clear H1
       replace H := Option.bind_eq_some_iff.mp H
       obtain ⟨⟨t437, t438⟩, A390, H⟩ := H
       replace H : (if t437 < 0 then (laws_FnExactParseFleet.j1 kj13 a1 t416 t419 t426 true a0_0 a0_1 l0_2) else ((laws_eqInt64S.f kj13 t426 t416).bind fun t439 => (if t439 = true then (laws_FnExactParseFleet.j1 kj13 a1 t416 t419 t426 (t429 != t419) a0_0 a0_1 l0_2) else (laws_FnExactParseFleet.j1 kj13 a1 t416 t419 t426 true a0_0 a0_1 l0_2)))) = some true := H
       have A39 := Aside0.mk A390
       clear A390
       have HC40 := Aside0.mk H
       clear H
       try go_wp2
       have n0_ := Aside0.mk (Kd.R_drew HO_6.out)
       have n1_ := Aside0.mk (Kd.R_drew HO_9.out)
       have n2_ := Aside0.mk (Kd.R_drew HO_426002.out)
       have n3_ := Aside0.mk (blk_drew BK409.out)
       have n4_ := Aside0.mk (blk_drew BK425.out)
       have n5_ := Aside0.mk (below_drew1 HB.out)
       clear HO_6
       clear HO_9
       clear HO_426002
       clear BK409
       clear BK425
       clear HB
       have HO_6 := n0_
       have HO_9 := n1_
       have HO_426002 := n2_
       have BK409 := n3_
       have BK425 := n4_
       have HB := n5_
       clear n0_ n1_ n2_ n3_ n4_ n5_
       refine start_ (n := 5) (S := fun w' => w'.cell? ⟨gb425, 0, none⟩ = some (.int .i64 t420) ∧ w'.cell? ⟨gb425, 1, none⟩ = some (.int .i64 t421) ∧ w'.cell? ⟨gb425, 2, none⟩ = some (.slice Ao27 t422.length co27) ∧ w'.cell? ⟨gb409, 0, none⟩ = some (.int .i64 a0_0) ∧ w'.cell? ⟨gb409, 1, none⟩ = some (.int .i64 a0_1) ∧ w'.cell? ⟨gb409, 2, none⟩ = some (.slice A0_2 l0_2.length c0_2)) (ds := []) #[false, false, false, false, false] (by kernel_rfl) rfl rfl ⟨(blk_cell BK425.out 0).trans rfl, (blk_cell BK425.out 1).trans rfl, (blk_cell BK425.out 2).trans rfl, (blk_cell BK409.out 0).trans rfl, (blk_cell BK409.out 1).trans rfl, (blk_cell BK409.out 2).trans rfl⟩ (fun hHeld => ?_)
       generalize wc.drew = w41 at HO_6 HO_9 HO_426002 BK409 BK425 HB hHeld ⊢
       refine take_ (i := 0) (N := some 48) (v := ?_) (a' := ?_) #[true, false, false, false, false] rfl rfl (by kernel_rfl) (fun _ _ _ h => h) (Or.inl ⟨by rfl, ?_⟩) hHeld ?_ ?_
       rotate_left; (· (rintro w' ⟨s0, s1, s2, s3, s4, s5⟩; go_simp; with_reducible rfl)); rotate_left; (· (simp only [Act.put, sz_, s0_, s1_, i64_w, i32_w]; rfl))
       refine take_ (i := 1) (N := some 49) (v := ?_) (a' := ?_) #[true, true, false, false, false] rfl rfl (by kernel_rfl) (fun _ _ _ h => h) (Or.inl ⟨by rfl, ?_⟩) hHeld ?_ ?_
       rotate_left; (· (rintro w' ⟨s0, s1, s2, s3, s4, s5⟩; go_simp; with_reducible rfl)); rotate_left; (· (simp only [Act.put, sz_, s0_, s1_, i64_w, i32_w]; rfl))
       refine one_ (i := 2) (N := some 50) #[true, true, true, false, false] rfl rfl (by kernel_rfl) (by decide) (fun K hK => ?_)
       refine goes_ Tryd.func6 (by kernel_rfl) rfl #[.agg #[.int .i64 a0_0, .int .i64 a0_1, .slice A0_2 l0_2.length c0_2]] (by rfl) rfl rfl (by (try simp only [List.map_toArray, List.map_cons, List.map_nil]); first | done | rfl | (simp only [List.length_drop, List.length_take]; rfl)) ?_
       with_reducible refine (laws_toSea.calls kj13 a0_0 a0_1 _ _ l0_2 t431 t432 t433 _ ?side1 ?side2 A36.out).mono ?_
       (case side1 => repeat (first | exact (Kd.C_below HR0_2.out HB.out) | (with_reducible refine Kd.C_alloc ?_ _) | (with_reducible refine Kd.C_drewN ?_ _) | (with_reducible refine Kd.C_drew ?_)))
       (case side2 => exact HC0_2.out)
       rintro e w42 ⟨v434, rfl, ho0, hb⟩
       refine ⟨_, rfl, ?_⟩
       have n0_ := Aside0.mk (Kd.R_elder' (by (with_reducible repeat (first | apply Kd.R_alloc | apply Kd.R_drewN | apply Kd.R_drew)); exact HO_6.out) (Kd.R_base ho0) hb)
       have n1_ := Aside0.mk (Kd.R_elder' (by (with_reducible repeat (first | apply Kd.R_alloc | apply Kd.R_drewN | apply Kd.R_drew)); exact HO_9.out) (Kd.R_base ho0) hb)
       have n2_ := Aside0.mk (Kd.R_elder' (by (with_reducible repeat (first | apply Kd.R_alloc | apply Kd.R_drewN | apply Kd.R_drew)); exact HO_426002.out) (Kd.R_base ho0) hb)
       have n3_ := Aside0.mk (Kd.R_lower (Kd.R_new' (Kd.R_new' (Kd.R_new' ho0 (Kd.R_lt (by (with_reducible repeat (first | apply Kd.R_alloc | apply Kd.R_drewN | apply Kd.R_drew)); exact HO_6.out))) (Kd.R_lt (by (with_reducible repeat (first | apply Kd.R_alloc | apply Kd.R_drewN | apply Kd.R_drew)); exact HO_9.out))) (Kd.R_lt (by (with_reducible repeat (first | apply Kd.R_alloc | apply Kd.R_drewN | apply Kd.R_drew)); exact HO_426002.out))) (below_size (by repeat (first | (with_reducible first | exact HB.out | apply below_alloc | apply pw_below_drewN | apply below_drew1 | refine below_set ?_ GE409.out | refine below_set ?_ GE425.out) | exact HB.out))))
       have n4_ := Aside0.mk (blk_below (g := gb409) (o := .cells #[.int .i64 a0_0, .int .i64 a0_1, .slice A0_2 l0_2.length c0_2] 24 (0, 0)) (by (with_reducible repeat (first | refine blk_drewN ?_ _ | refine blk_drew ?_ | refine blk_alloc ?_ _)); exact BK409.out) hb)
       have n5_ := Aside0.mk (blk_below (g := gb425) (o := .cells #[.int .i64 t420, .int .i64 t421, .slice Ao27 t422.length co27] 28 (0, 0)) (by (with_reducible repeat (first | refine blk_drewN ?_ _ | refine blk_drew ?_ | refine blk_alloc ?_ _)); exact BK425.out) hb)
       have n6_ := Aside0.mk (below_step (by repeat (first | (with_reducible first | exact HB.out | apply below_alloc | apply pw_below_drewN | apply below_drew1 | refine below_set ?_ GE409.out | refine below_set ?_ GE425.out) | exact HB.out)) hb)
       clear HO_6
       clear HO_9
       clear HO_426002
       clear BK409
       clear BK425
       clear HB
       have HO_6 := n0_
       have HO_9 := n1_
       have HO_426002 := n2_
       have HO435 := n3_
       have BK409 := n4_
       have BK425 := n5_
       have HB := n6_
       clear n0_ n1_ n2_ n3_ n4_ n5_ n6_
       (try clear hb)
       (try clear hb2)
       (try clear hk)
       (try clear hi)
       (try clear ho0)
       obtain ⟨Ao43, co43, eo43⟩ := Kd.R_slice HO435.out
       (first | subst eo43 | (injection eo43 with f1_ f2_ f3_; have f4_ := f1_.symm; have f5_ := f3_.symm; clear f1_ f2_ f3_; subst f4_; subst f5_))
       refine hK.out _ _ ⟨(blk_cell BK425.out 0).trans rfl, (blk_cell BK425.out 1).trans rfl, (blk_cell BK425.out 2).trans rfl, (blk_cell BK409.out 0).trans rfl, (blk_cell BK409.out 1).trans rfl, (blk_cell BK409.out 2).trans rfl⟩ (fun hHeld => ?_)
       clear hK K
       refine norm_ (a' := ?_) ?_ ?_
       rotate_left
       ·show Act.put _ (some 50) _ = _
        simp only [Act.put, sz_, s0_, s1_, i64_w, i32_w]
        rfl
       refine one_ (i := 3) (N := some 51) #[true, true, true, true, false] rfl rfl (by kernel_rfl) (by decide) (fun K hK => ?_)
       refine goes_ Tryd.func9 (by kernel_rfl) rfl #[.agg #[.int .i64 t420, .int .i64 t421, .slice Ao27 t422.length co27], .agg #[.int .i64 t431, .int .i64 t432, .slice Ao43 t433.length co43]] (by rfl) rfl rfl (by (try simp only [List.map_toArray, List.map_cons, List.map_nil]); first | done | rfl | (simp only [List.length_drop, List.length_take]; rfl)) ?_
       with_reducible refine (laws_eqSea.calls kj13 t420 t421 _ _ t422 t431 t432 _ _ t433 true _ ?side1 ?side2 ?side3 ?side4 A37.out).mono ?_
       (case side1 => repeat (first | exact (Kd.R_reads' HO_426002.out).2.2 | (with_reducible refine Kd.C_alloc ?_ _) | (with_reducible refine Kd.C_drewN ?_ _) | (with_reducible refine Kd.C_drew ?_)))
       (case side2 => exact (Kd.R_reads' HO_426002.out).2.1)
       (case side3 => repeat (first | exact (Kd.R_reads' HO435.out).2.2 | (with_reducible refine Kd.C_alloc ?_ _) | (with_reducible refine Kd.C_drewN ?_ _) | (with_reducible refine Kd.C_drew ?_)))
       (case side4 => exact (Kd.R_reads' HO435.out).2.1)
       rintro e w44 ⟨rfl, hb⟩
       refine ⟨_, rfl, ?_⟩
       have n0_ := Aside0.mk (Kd.R_below (by (with_reducible repeat (first | apply Kd.R_alloc | apply Kd.R_drewN | apply Kd.R_drew)); exact HO_6.out) hb)
       have n1_ := Aside0.mk (Kd.R_below (by (with_reducible repeat (first | apply Kd.R_alloc | apply Kd.R_drewN | apply Kd.R_drew)); exact HO_9.out) hb)
       have n2_ := Aside0.mk (Kd.R_below (by (with_reducible repeat (first | apply Kd.R_alloc | apply Kd.R_drewN | apply Kd.R_drew)); exact HO_426002.out) hb)
       have n3_ := Aside0.mk (Kd.R_below (by (with_reducible repeat (first | apply Kd.R_alloc | apply Kd.R_drewN | apply Kd.R_drew)); exact HO435.out) hb)
       have n4_ := Aside0.mk (blk_below (g := gb409) (o := .cells #[.int .i64 a0_0, .int .i64 a0_1, .slice A0_2 l0_2.length c0_2] 24 (0, 0)) (by (with_reducible repeat (first | refine blk_drewN ?_ _ | refine blk_drew ?_ | refine blk_alloc ?_ _)); exact BK409.out) hb)
       have n5_ := Aside0.mk (blk_below (g := gb425) (o := .cells #[.int .i64 t420, .int .i64 t421, .slice Ao27 t422.length co27] 28 (0, 0)) (by (with_reducible repeat (first | refine blk_drewN ?_ _ | refine blk_drew ?_ | refine blk_alloc ?_ _)); exact BK425.out) hb)
       have n6_ := Aside0.mk (below_step (by repeat (first | (with_reducible first | exact HB.out | apply below_alloc | apply pw_below_drewN | apply below_drew1 | refine below_set ?_ GE409.out | refine below_set ?_ GE425.out) | exact HB.out)) hb)
       clear HO_6
       clear HO_9
       clear HO_426002
       clear HO435
       clear BK409
       clear BK425
       clear HB
       have HO_6 := n0_
       have HO_9 := n1_
       have HO_426002 := n2_
       have HO435 := n3_
       have BK409 := n4_
       have BK425 := n5_
       have HB := n6_
       clear n0_ n1_ n2_ n3_ n4_ n5_ n6_
       (try clear hb)
       (try clear hb2)
       (try clear hk)
       (try clear hi)
       refine hK.out _ _ ⟨(blk_cell BK425.out 0).trans rfl, (blk_cell BK425.out 1).trans rfl, (blk_cell BK425.out 2).trans rfl, (blk_cell BK409.out 0).trans rfl, (blk_cell BK409.out 1).trans rfl, (blk_cell BK409.out 2).trans rfl⟩ (fun hHeld => ?_)
       clear hK K
       refine norm_ (a' := ?_) ?_ ?_
       rotate_left
       ·show Act.put _ (some 51) _ = _
        simp only [Act.put, sz_, s0_, s1_, i64_w, i32_w]
        rfl
       refine pure_ (i := 4) (N := some 52) (v := ?_) (a' := ?_) #[true, true, true, true, true] rfl rfl (by kernel_rfl) (fun _ _ _ h => h) (Or.inl ⟨by rfl, ?_⟩) ?_ ?_
       rotate_left; (· (intro w'; go_simp; with_reducible rfl)); rotate_left; (· (simp only [Act.put, sz_, s0_, s1_, i64_w, i32_w]; rfl))
       refine done_ (by kernel_rfl) ?_
       have hnb45 := NB425_409.out
       have hnc45 := NB409_425.out
       have hcz46_0 : w44.cell? ⟨gb425, 0, none⟩ = some (.int .i64 t420) := (blk_cell BK425.out 0).trans rfl
       have hcz46_1 : w44.cell? ⟨gb425, 1, none⟩ = some (.int .i64 t421) := (blk_cell BK425.out 1).trans rfl
       have hcz46_2 : w44.cell? ⟨gb425, 2, none⟩ = some (.slice Ao27 t422.length co27) := (blk_cell BK425.out 2).trans rfl
       have hfz46_0 := blk_frozen BK425.out 0
       have hfz46_1 := blk_frozen BK425.out 1
       have hfz46_2 := blk_frozen BK425.out 2
       go_upto_region 16 with (first | ((with_reducible refine gate_callee (f := 10) rfl ?_); refine goesA_ (some 55) rfl rfl Tryd.func10 (by kernel_rfl) rfl #[.agg #[.int .i64 t420, .int .i64 t421, .slice Ao27 t422.length co27], .int .i64 1] rfl ?_; (with_reducible refine (laws_markSea.calls kj13 t420 t421 (fun k_ => some k_ = (.slice Ao27 t422.length co27 : Value).ownBlock) (.slice Ao27 t422.length co27) t422 1 t437 t438 w _ ?side1 ?side2 A39.out).mono ?_); (case side1 => repeat (first | (with_reducible first | exact HB.out | apply below_alloc | apply pw_below_drewN | apply below_drew1 | refine below_set ?_ GE409.out | refine below_set ?_ GE425.out) | exact HB.out)); (case side2 => exact Kd.R_tight rfl HO_426002.out); rintro e w47 ⟨rfl, hy0, hb, hkp⟩; refine ⟨_, rfl, ?_⟩; have n0_ := Aside0.mk (Kd.R_mono (ok' := fun k_ => some k_ ≠ (v427 : Value).ownBlock ∧ some k_ ≠ (.slice Ao27 t422.length co27 : Value).ownBlock ∧ some k_ ≠ (.slice Ao43 t433.length co43 : Value).ownBlock) (Kd.R_keptB (HO_6.out) hkp (fun k_ hk_ hs_ => (hk_.1.2) hs_)) (fun k_ hk_ => ⟨hk_.1.1.1, hk_.1.1.2, hk_.1.2⟩)); have n1_ := Aside0.mk (Kd.R_mono (ok' := fun k_ => some k_ ≠ (v417 : Value).ownBlock ∧ some k_ ≠ (.slice Ao27 t422.length co27 : Value).ownBlock ∧ some k_ ≠ (.slice Ao43 t433.length co43 : Value).ownBlock) (Kd.R_keptB (HO_9.out) hkp (fun k_ hk_ hs_ => (hk_.1.2) hs_)) (fun k_ hk_ => ⟨hk_.1.1.1, hk_.1.1.2, hk_.1.2⟩)); have n2_ := Aside0.mk (Kd.R_reok rfl hy0 (fun k_ e_ => HO_426002.out.1 k_ e_)); have n3_ := Aside0.mk (blk_kept (by (with_reducible repeat (first | refine blk_drewN ?_ _ | refine blk_drew ?_ | refine blk_alloc ?_ _)); exact BK409.out) hkp (fun hs_ => (fun e_ => (Kd.R_ne HO_426002.out BK409.out (by decide)) e_) hs_)); have n4_ := Aside0.mk (blk_kept (by (with_reducible repeat (first | refine blk_drewN ?_ _ | refine blk_drew ?_ | refine blk_alloc ?_ _)); exact BK425.out) hkp (fun hs_ => (fun e_ => (Kd.R_ne HO_426002.out BK425.out (by decide)) e_) hs_)); have n5_ := Aside0.mk (Kd.R_mono (ok' := fun k_ => some k_ ≠ (v417 : Value).ownBlock ∧ some k_ ≠ (v427 : Value).ownBlock ∧ some k_ ≠ (.slice Ao27 t422.length co27 : Value).ownBlock) (Kd.R_keptB (HO435.out) hkp (fun k_ hk_ hs_ => (hk_.2) hs_)) (fun k_ hk_ => ⟨hk_.1.1.1.2, hk_.1.1.2, hk_.1.2⟩)); have n6_ := Aside0.mk (hb); clear HO_6; clear HO_9; clear HO_426002; clear BK409; clear BK425; clear HO435; clear HB; have HO_6 := n0_; have HO_9 := n1_; have HO_426002 := n2_; have BK409 := n3_; have BK425 := n4_; have HO435 := n5_; have HB := n6_; clear n0_ n1_ n2_ n3_ n4_ n5_ n6_; (try clear hb); (try clear hkp); (try clear hy0)))
       (try simp only [Act.put, List.setIfInBounds_toArray, List.set_cons_zero, List.set_cons_succ])
       go_cut [68] (fun v68 wc => ∃ (kq : Nat) (x68_39 : Bool), v68 = .bool x68_39 ∧ Aside0 (laws_FnExactParseFleet.j1 kq a1 t416 t419 t426 x68_39 a0_0 a0_1 l0_2 = some true) ∧ Aside0 (kq ≤ kj13) ∧ Aside0 (Kd.R (Kd.int .i64) 2 wc w.heap.size (fun k_ => some k_ ≠ (v427 : Value).ownBlock ∧ some k_ ≠ ((.slice Ao27 t422.length co27) : Value).ownBlock) v417 t416) ∧ Aside0 (Kd.R (Kd.int .i64) 2 wc w.heap.size (fun k_ => some k_ ≠ (v417 : Value).ownBlock ∧ some k_ ≠ ((.slice Ao27 t422.length co27) : Value).ownBlock) v427 t426) ∧ Aside0 (Kd.R (Kd.int .i64) 2 wc w.heap.size (fun k_ => some k_ ≠ (v417 : Value).ownBlock ∧ some k_ ≠ (v427 : Value).ownBlock) (.slice Ao27 t422.length co27) t438) ∧ Aside0 (wc.heap[gb409]? = some (.cells #[.int .i64 a0_0, .int .i64 a0_1, (.slice A0_2 l0_2.length c0_2)] 24 (0, 0))) ∧ Aside0 (wc.heap[gb425]? = some (.cells #[.int .i64 t420, .int .i64 t421, (.slice Ao27 t422.length co27)] 28 (0, 0))) ∧ Aside0 (Below w.heap.size w wc))
       case first =>
        have H := HC40.out
        clear HC40
        by_cases c48 : t437 < 0
        ·rw [if_pos c48] at H
         have c48b0 : decide (t437 < 0) = true := decide_eq_true c48
         clear c48
         (first | rw [c48b0] | (simp only [i64_w, i32_w]; rw [c48b0]) | skip)
         have H' := Aside0.mk H
         clear H
         go_wp2
         go_meet
         case rel => exact ⟨_, (true), (by first | rfl | (simp; done) | (simp [*]; done)), H', ⟨by have := HJ13.out; first | omega | exact Nat.le_refl _⟩, ⟨by (with_reducible repeat (first | apply Kd.R_alloc | apply Kd.R_drewN | apply Kd.R_drew)); exact Kd.R_mono HO_6.out (fun _ hk => ⟨hk.1, hk.2.1⟩)⟩, ⟨by (with_reducible repeat (first | apply Kd.R_alloc | apply Kd.R_drewN | apply Kd.R_drew)); exact Kd.R_mono HO_9.out (fun _ hk => ⟨hk.1, hk.2.1⟩)⟩, ⟨by (with_reducible repeat (first | apply Kd.R_alloc | apply Kd.R_drewN | apply Kd.R_drew)); exact Kd.R_mono HO_426002.out (fun _ hk => ⟨hk.1.1, hk.1.2⟩)⟩, ⟨by (with_reducible repeat (first | refine blk_drewN ?_ _ | refine blk_drew ?_ | refine blk_alloc ?_ _)); exact BK409.out⟩, ⟨by (with_reducible repeat (first | refine blk_drewN ?_ _ | refine blk_drew ?_ | refine blk_alloc ?_ _)); exact BK425.out⟩, ⟨by repeat (first | (with_reducible first | exact HB.out | apply below_alloc | apply pw_below_drewN | apply below_drew1 | refine below_set ?_ GE409.out | refine below_set ?_ GE425.out) | exact HB.out)⟩⟩
        ·rw [if_neg c48] at H
         have c48b0 : decide (t437 < 0) = false := decide_eq_false c48
         clear c48
         (first | rw [c48b0] | (simp only [i64_w, i32_w]; rw [c48b0]) | skip)
         replace H := Option.bind_eq_some_iff.mp H
         obtain ⟨t439, A490, H⟩ := H
         replace H : (if t439 = true then (laws_FnExactParseFleet.j1 kj13 a1 t416 t419 t426 (t429 != t419) a0_0 a0_1 l0_2) else (laws_FnExactParseFleet.j1 kj13 a1 t416 t419 t426 true a0_0 a0_1 l0_2)) = some true := H
         have A49 := Aside0.mk A490
         clear A490
         by_cases c50 : t439 = true
         ·subst c50
          have H1 : (laws_FnExactParseFleet.j1 kj13 a1 t416 t419 t426 (t429 != t419) a0_0 a0_1 l0_2) = some true := by rw [if_pos rfl] at H; exact H
          clear H
          have H := H1
          clear H1
          have H' := Aside0.mk H
          clear H
          obtain ⟨Ao51, co51, eo51⟩ := Kd.R_slice HO_9.out
          subst eo51
          obtain ⟨Ao52, co52, eo52⟩ := Kd.R_slice HO_6.out
          subst eo52
          go_wp2_with (first | (go_at_call 8; (with_reducible refine (laws_eqInt64S.calls kj13 _ _ t426 _ _ t416 true _ ?side1 ?side2 ?side3 ?side4 A49.out).mono ?_); (case side1 => repeat (first | exact (Kd.R_reads' HO_9.out).2.2 | (with_reducible refine Kd.C_alloc ?_ _) | (with_reducible refine Kd.C_drewN ?_ _) | (with_reducible refine Kd.C_drew ?_))); (case side2 => exact (Kd.R_reads' HO_9.out).2.1); (case side3 => repeat (first | exact (Kd.R_reads' HO_6.out).2.2 | (with_reducible refine Kd.C_alloc ?_ _) | (with_reducible refine Kd.C_drewN ?_ _) | (with_reducible refine Kd.C_drew ?_))); (case side4 => exact (Kd.R_reads' HO_6.out).2.1); rintro e w' ⟨rfl, ⟨nd, rfl⟩⟩))
          go_meet
          case rel => exact ⟨_, ((t429 != t419)), (by first | rfl | (simp; done) | (simp [*]; done)), H', ⟨by have := HJ13.out; first | omega | exact Nat.le_refl _⟩, ⟨by (with_reducible repeat (first | apply Kd.R_alloc | apply Kd.R_drewN | apply Kd.R_drew)); exact Kd.R_mono HO_6.out (fun _ hk => ⟨hk.1, hk.2.1⟩)⟩, ⟨by (with_reducible repeat (first | apply Kd.R_alloc | apply Kd.R_drewN | apply Kd.R_drew)); exact Kd.R_mono HO_9.out (fun _ hk => ⟨hk.1, hk.2.1⟩)⟩, ⟨by (with_reducible repeat (first | apply Kd.R_alloc | apply Kd.R_drewN | apply Kd.R_drew)); exact Kd.R_mono HO_426002.out (fun _ hk => ⟨hk.1.1, hk.1.2⟩)⟩, ⟨by (with_reducible repeat (first | refine blk_drewN ?_ _ | refine blk_drew ?_ | refine blk_alloc ?_ _)); exact BK409.out⟩, ⟨by (with_reducible repeat (first | refine blk_drewN ?_ _ | refine blk_drew ?_ | refine blk_alloc ?_ _)); exact BK425.out⟩, ⟨by repeat (first | (with_reducible first | exact HB.out | apply below_alloc | apply pw_below_drewN | apply below_drew1 | refine below_set ?_ GE409.out | refine below_set ?_ GE425.out) | exact HB.out)⟩⟩
         ·replace c50 := Bool.eq_false_iff.mpr c50
          subst c50
          have H1 : (laws_FnExactParseFleet.j1 kj13 a1 t416 t419 t426 true a0_0 a0_1 l0_2) = some true := by rw [if_neg (show ¬ (false = true) by decide)] at H; exact H
          clear H
          have H := H1
          clear H1
          have H' := Aside0.mk H
          clear H
          obtain ⟨Ao53, co53, eo53⟩ := Kd.R_slice HO_9.out
          subst eo53
          obtain ⟨Ao54, co54, eo54⟩ := Kd.R_slice HO_6.out
          subst eo54
          go_wp2_with (first | (go_at_call 8; (with_reducible refine (laws_eqInt64S.calls kj13 _ _ t426 _ _ t416 false _ ?side1 ?side2 ?side3 ?side4 A49.out).mono ?_); (case side1 => repeat (first | exact (Kd.R_reads' HO_9.out).2.2 | (with_reducible refine Kd.C_alloc ?_ _) | (with_reducible refine Kd.C_drewN ?_ _) | (with_reducible refine Kd.C_drew ?_))); (case side2 => exact (Kd.R_reads' HO_9.out).2.1); (case side3 => repeat (first | exact (Kd.R_reads' HO_6.out).2.2 | (with_reducible refine Kd.C_alloc ?_ _) | (with_reducible refine Kd.C_drewN ?_ _) | (with_reducible refine Kd.C_drew ?_))); (case side4 => exact (Kd.R_reads' HO_6.out).2.1); rintro e w' ⟨rfl, ⟨nd, rfl⟩⟩))
          go_meet
          case rel => exact ⟨_, (true), (by first | rfl | (simp; done) | (simp [*]; done)), H', ⟨by have := HJ13.out; first | omega | exact Nat.le_refl _⟩, ⟨by (with_reducible repeat (first | apply Kd.R_alloc | apply Kd.R_drewN | apply Kd.R_drew)); exact Kd.R_mono HO_6.out (fun _ hk => ⟨hk.1, hk.2.1⟩)⟩, ⟨by (with_reducible repeat (first | apply Kd.R_alloc | apply Kd.R_drewN | apply Kd.R_drew)); exact Kd.R_mono HO_9.out (fun _ hk => ⟨hk.1, hk.2.1⟩)⟩, ⟨by (with_reducible repeat (first | apply Kd.R_alloc | apply Kd.R_drewN | apply Kd.R_drew)); exact Kd.R_mono HO_426002.out (fun _ hk => ⟨hk.1.1, hk.1.2⟩)⟩, ⟨by (with_reducible repeat (first | refine blk_drewN ?_ _ | refine blk_drew ?_ | refine blk_alloc ?_ _)); exact BK409.out⟩, ⟨by (with_reducible repeat (first | refine blk_drewN ?_ _ | refine blk_drew ?_ | refine blk_alloc ?_ _)); exact BK425.out⟩, ⟨by repeat (first | (with_reducible first | exact HB.out | apply below_alloc | apply pw_below_drewN | apply below_drew1 | refine below_set ?_ GE409.out | refine below_set ?_ GE425.out) | exact HB.out)⟩⟩
       case rest =>
        clear HC40
        (try clear c1); (try clear c2); (try clear p2); (try clear c3); (try clear c3b0); (try clear c3b1); (try clear c4); (try clear c5); (try clear c6); (try clear c6b0); (try clear c7); (try clear c8); (try clear c9); (try clear c10); (try clear c25); (try clear c30); (try clear c35); (try clear c38); (try clear c45); (try clear c48); (try clear c48b0); (try clear c50); (try clear hcz16_0); (try clear hcz16_1); (try clear hcz16_2); (try clear hcz18_0); (try clear hcz18_1); (try clear hcz18_2); (try clear hcz22_0); (try clear hcz22_1); (try clear hcz22_2); (try clear hcz26_0); (try clear hcz26_1); (try clear hcz26_2); (try clear hcz46_0); (try clear hcz46_1); (try clear hcz46_2); (try clear hcz8_0); (try clear hcz8_1); (try clear hcz8_2); (try clear hfz16_0); (try clear hfz16_1); (try clear hfz16_2); (try clear hfz18_0); (try clear hfz18_1); (try clear hfz18_2); (try clear hfz22_0); (try clear hfz22_1); (try clear hfz22_2); (try clear hfz26_0); (try clear hfz26_1); (try clear hfz26_2); (try clear hfz46_0); (try clear hfz46_1); (try clear hfz46_2); (try clear hfz8_0); (try clear hfz8_1); (try clear hfz8_2); (try clear p2)
        obtain ⟨kq, x68_39, rfl, HA, HJ39, HO_6, HO_9, HO_426002, BK409, BK425, HB⟩ := hcut
        have hl426002_39 := (Kd.R_reads' HO_426002.out).1
        rw [hl426002_39] at HO_426002
        (try simp only [hl426002_39])
        (try simp only [hl426002_39] at BK409)
        (try simp only [hl426002_39] at BK425)
        (try simp only [hl426002_39] at HO_6)
        (try simp only [hl426002_39] at HO_9)
        cases kq with
        | zero => exact absurd HA.out (by simp [laws_FnExactParseFleet.j1])
        | succ kj39 =>
         have H := HA.out
         clear HA
         simp only [laws_FnExactParseFleet.j1] at H
         by_cases c55 : x68_39 = true
         ·subst c55
          have H1 : (some false) = some true := by rw [if_pos rfl] at H; exact H
          clear H
          have H := H1
          clear H1
          exact absurd H (by simp)
         ·replace c55 := Bool.eq_false_iff.mpr c55
          subst c55
          have H1 : ((laws_markInt64S.f kj39 t426 1).bind fun bt440 => ((laws_heldInt64S.f kj39 bt440.2 1).bind fun t442 => (if t442 < 0 then (some false) else (if t442 = bt440.1 then ((laws_toSea.f kj39 a0_0 a0_1 l0_2).bind fun bt443 => ((impl_ParseFleet.f kj39 bt443.1 bt443.2.1 bt443.2.2 a1).bind fun bt448 => ((laws_eqInt64S.f kj39 bt448.1 t416).bind fun t452 => (if t452 = true then (laws_FnExactParseFleet.j2 kj39 bt440.2 bt440.1 (bt448.2 != t419)) else (laws_FnExactParseFleet.j2 kj39 bt440.2 bt440.1 true))))) else (some false))))) = some true := by rw [if_neg (show ¬ (false = true) by decide)] at H; exact H
          clear H
          have H := H1
          clear H1
          replace H := Option.bind_eq_some_iff.mp H
          obtain ⟨⟨t440, t441⟩, A560, H⟩ := H
          replace H : ((laws_heldInt64S.f kj39 t441 1).bind fun t442 => (if t442 < 0 then (some false) else (if t442 = t440 then ((laws_toSea.f kj39 a0_0 a0_1 l0_2).bind fun bt443 => ((impl_ParseFleet.f kj39 bt443.1 bt443.2.1 bt443.2.2 a1).bind fun bt448 => ((laws_eqInt64S.f kj39 bt448.1 t416).bind fun t452 => (if t452 = true then (laws_FnExactParseFleet.j2 kj39 t441 t440 (bt448.2 != t419)) else (laws_FnExactParseFleet.j2 kj39 t441 t440 true))))) else (some false)))) = some true := H
          have A56 := Aside0.mk A560
          clear A560
          replace H := Option.bind_eq_some_iff.mp H
          obtain ⟨t442, A570, H⟩ := H
          replace H : (if t442 < 0 then (some false) else (if t442 = t440 then ((laws_toSea.f kj39 a0_0 a0_1 l0_2).bind fun bt443 => ((impl_ParseFleet.f kj39 bt443.1 bt443.2.1 bt443.2.2 a1).bind fun bt448 => ((laws_eqInt64S.f kj39 bt448.1 t416).bind fun t452 => (if t452 = true then (laws_FnExactParseFleet.j2 kj39 t441 t440 (bt448.2 != t419)) else (laws_FnExactParseFleet.j2 kj39 t441 t440 true))))) else (some false))) = some true := H
          have A57 := Aside0.mk A570
          clear A570
          by_cases c58 : t442 < 0
          ·rw [if_pos c58] at H
           have c58b0 : decide (t442 < 0) = true := decide_eq_true c58
           clear c58
           exact absurd H (by simp)
          ·rw [if_neg c58] at H
           have c58b0 : decide (t442 < 0) = false := decide_eq_false c58
           clear c58
           by_cases c61 : t442 = t440
           ·rw [if_pos c61] at H
            have c61b0 : (t442 == t440) = true := beq_iff_eq.mpr c61
            have c61b1 : (t442 != t440) = false := bne_eq_false_iff_eq.mpr c61
            clear c61
            replace H := Option.bind_eq_some_iff.mp H
            obtain ⟨⟨t443, t444, t445⟩, A620, H⟩ := H
            replace H : ((impl_ParseFleet.f kj39 t443 t444 t445 a1).bind fun bt448 => ((laws_eqInt64S.f kj39 bt448.1 t416).bind fun t452 => (if t452 = true then (laws_FnExactParseFleet.j2 kj39 t441 t440 (bt448.2 != t419)) else (laws_FnExactParseFleet.j2 kj39 t441 t440 true)))) = some true := H
            have A62 := Aside0.mk A620
            clear A620
            replace H := Option.bind_eq_some_iff.mp H
            obtain ⟨⟨t448, t451⟩, A630, H⟩ := H
            replace H : ((laws_eqInt64S.f kj39 t448 t416).bind fun t452 => (if t452 = true then (laws_FnExactParseFleet.j2 kj39 t441 t440 (t451 != t419)) else (laws_FnExactParseFleet.j2 kj39 t441 t440 true))) = some true := H
            have A63 := Aside0.mk A630
            clear A630
            have HC64 := Aside0.mk H
            clear H
            obtain ⟨Ao65, co65, eo65⟩ := Kd.R_slice HO_9.out
            subst eo65
            go_upto_region 27 with (first | ((with_reducible refine gate_callee (f := 11) rfl ?_); refine goesA_ (some 71) rfl rfl Tryd.func11 (by kernel_rfl) rfl #[.slice Ao65 t426.length co65, .int .i64 1] rfl ?_; (with_reducible refine (laws_markInt64S.calls kj39 (fun k_ => some k_ = (.slice Ao65 t426.length co65 : Value).ownBlock) (.slice Ao65 t426.length co65) t426 1 t440 t441 w _ ?side1 ?side2 A56.out).mono ?_); (case side1 => repeat (first | (with_reducible first | exact HB.out | apply below_alloc | apply pw_below_drewN | apply below_drew1 | refine below_set ?_ GE409.out | refine below_set ?_ GE425.out) | exact HB.out)); (case side2 => exact Kd.R_tight rfl HO_9.out); rintro e w66 ⟨rfl, hy0, hb, hkp⟩; refine ⟨_, rfl, ?_⟩; have n0_ := Aside0.mk (Kd.R_mono (ok' := fun k_ => some k_ ≠ (.slice Ao65 t426.length co65 : Value).ownBlock ∧ some k_ ≠ (.slice Ao27 t438.length co27 : Value).ownBlock) (Kd.R_keptB (HO_6.out) hkp (fun k_ hk_ hs_ => (hk_.1) hs_)) (fun k_ hk_ => ⟨hk_.1.1, hk_.1.2⟩)); have n1_ := Aside0.mk (Kd.R_reok rfl hy0 (fun k_ e_ => HO_9.out.1 k_ e_)); have n2_ := Aside0.mk (Kd.R_mono (ok' := fun k_ => some k_ ≠ (v417 : Value).ownBlock ∧ some k_ ≠ (.slice Ao65 t426.length co65 : Value).ownBlock) (Kd.R_keptB (HO_426002.out) hkp (fun k_ hk_ hs_ => (hk_.2) hs_)) (fun k_ hk_ => ⟨hk_.1.1, hk_.1.2⟩)); have n3_ := Aside0.mk (blk_kept (by (with_reducible repeat (first | refine blk_drewN ?_ _ | refine blk_drew ?_ | refine blk_alloc ?_ _)); exact BK409.out) hkp (fun hs_ => (fun e_ => (Kd.R_ne HO_9.out BK409.out (by decide)) e_) hs_)); have n4_ := Aside0.mk (blk_kept (by (with_reducible repeat (first | refine blk_drewN ?_ _ | refine blk_drew ?_ | refine blk_alloc ?_ _)); exact BK425.out) hkp (fun hs_ => (fun e_ => (Kd.R_ne HO_9.out BK425.out (by decide)) e_) hs_)); have n5_ := Aside0.mk (hb); clear HO_6; clear HO_9; clear HO_426002; clear BK409; clear BK425; clear HB; have HO_6 := n0_; have HO_9 := n1_; have HO_426002 := n2_; have BK409 := n3_; have BK425 := n4_; have HB := n5_; clear n0_ n1_ n2_ n3_ n4_ n5_; (try clear hb); (try clear hkp); (try clear hy0)) | ((with_reducible refine gate_callee (f := 12) rfl ?_); refine goesL_ (some 74) rfl rfl Tryd.func12 (by kernel_rfl) rfl #[.slice Ao65 t441.length co65, .int .i64 1] rfl (by (try simp only [List.map_toArray, List.map_cons, List.map_nil]); first | done | (rw [show t441.length = t426.length from (Kd.R_reads' HO_9.out).1.symm] <;> rfl) | rfl | (simp only [List.length_drop, List.length_take]; rfl)) ?_; (with_reducible refine (laws_heldInt64S.calls kj39 _ _ t441 1 t442 _ ?side1 ?side2 A57.out).mono ?_); (case side1 => repeat (first | exact (Kd.R_reads' HO_9.out).2.2 | (with_reducible refine Kd.C_alloc ?_ _) | (with_reducible refine Kd.C_drewN ?_ _) | (with_reducible refine Kd.C_drew ?_))); (case side2 => rw [show t441.length = t426.length from (Kd.R_reads' HO_9.out).1.symm]; exact (Kd.R_reads' HO_9.out).2.1); rintro e w' ⟨rfl, ⟨nd, rfl⟩⟩; refine ⟨_, rfl, ?_⟩; have hnb67 := NB409_425.out; have hnc67 := NB425_409.out; have hcz68_0 : w66.cell? ⟨gb409, 0, none⟩ = some (.int .i64 a0_0) := (blk_cell BK409.out 0).trans rfl; have hcz68_1 : w66.cell? ⟨gb409, 1, none⟩ = some (.int .i64 a0_1) := (blk_cell BK409.out 1).trans rfl; have hcz68_2 : w66.cell? ⟨gb409, 2, none⟩ = some (.slice A0_2 l0_2.length c0_2) := (blk_cell BK409.out 2).trans rfl; have hfz68_0 := blk_frozen BK409.out 0; have hfz68_1 := blk_frozen BK409.out 1; have hfz68_2 := blk_frozen BK409.out 2) | ((with_reducible refine gate_callee (f := 6) rfl ?_); refine goesA_ (some 82) rfl rfl Tryd.func6 (by kernel_rfl) rfl #[.agg #[.int .i64 a0_0, .int .i64 a0_1, .slice A0_2 l0_2.length c0_2]] rfl ?_; (with_reducible refine (laws_toSea.calls kj39 a0_0 a0_1 _ _ l0_2 t443 t444 t445 _ ?side1 ?side2 A62.out).mono ?_); (case side1 => repeat (first | exact (Kd.C_below HR0_2.out (by repeat (first | (with_reducible first | exact HB.out | apply below_alloc | apply pw_below_drewN | apply below_drew1 | refine below_set ?_ GE409.out | refine below_set ?_ GE425.out) | exact HB.out))) | (with_reducible refine Kd.C_alloc ?_ _) | (with_reducible refine Kd.C_drewN ?_ _) | (with_reducible refine Kd.C_drew ?_))); (case side2 => exact HC0_2.out); rintro e w69 ⟨v446, rfl, ho0, hb⟩; refine ⟨_, rfl, ?_⟩; have n0_ := Aside0.mk (Kd.R_elder' (by (with_reducible repeat (first | apply Kd.R_alloc | apply Kd.R_drewN | apply Kd.R_drew)); exact HO_6.out) (Kd.R_base ho0) hb); have n1_ := Aside0.mk (Kd.R_elder' (by (with_reducible repeat (first | apply Kd.R_alloc | apply Kd.R_drewN | apply Kd.R_drew)); exact HO_9.out) (Kd.R_base ho0) hb); have n2_ := Aside0.mk (Kd.R_elder' (by (with_reducible repeat (first | apply Kd.R_alloc | apply Kd.R_drewN | apply Kd.R_drew)); exact HO_426002.out) (Kd.R_base ho0) hb); have n3_ := Aside0.mk (Kd.R_lower (Kd.R_new' (Kd.R_new' (Kd.R_new' ho0 (Kd.R_lt (by (with_reducible repeat (first | apply Kd.R_alloc | apply Kd.R_drewN | apply Kd.R_drew)); exact HO_6.out))) (Kd.R_lt (by (with_reducible repeat (first | apply Kd.R_alloc | apply Kd.R_drewN | apply Kd.R_drew)); exact HO_9.out))) (Kd.R_lt (by (with_reducible repeat (first | apply Kd.R_alloc | apply Kd.R_drewN | apply Kd.R_drew)); exact HO_426002.out))) (below_size (by repeat (first | (with_reducible first | exact HB.out | apply below_alloc | apply pw_below_drewN | apply below_drew1 | refine below_set ?_ GE409.out | refine below_set ?_ GE425.out) | exact HB.out)))); have n4_ := Aside0.mk (blk_below (g := gb409) (o := .cells #[.int .i64 a0_0, .int .i64 a0_1, .slice A0_2 l0_2.length c0_2] 24 (0, 0)) (by (with_reducible repeat (first | refine blk_drewN ?_ _ | refine blk_drew ?_ | refine blk_alloc ?_ _)); exact BK409.out) hb); have n5_ := Aside0.mk (blk_below (g := gb425) (o := .cells #[.int .i64 t420, .int .i64 t421, .slice Ao27 t438.length co27] 28 (0, 0)) (by (with_reducible repeat (first | refine blk_drewN ?_ _ | refine blk_drew ?_ | refine blk_alloc ?_ _)); exact BK425.out) hb); have n6_ := Aside0.mk (below_step (by repeat (first | (with_reducible first | exact HB.out | apply below_alloc | apply pw_below_drewN | apply below_drew1 | refine below_set ?_ GE409.out | refine below_set ?_ GE425.out) | exact HB.out)) hb); clear HO_6; clear HO_9; clear HO_426002; clear BK409; clear BK425; clear HB; have HO_6 := n0_; have HO_9 := n1_; have HO_426002 := n2_; have HO447 := n3_; have BK409 := n4_; have BK425 := n5_; have HB := n6_; clear n0_ n1_ n2_ n3_ n4_ n5_ n6_; (try clear hb); (try clear hb2); (try clear hk); (try clear hi); (try clear ho0); obtain ⟨Ao70, co70, eo70⟩ := Kd.R_slice HO447.out; subst eo70) | ((with_reducible refine gate_callee (f := 7) rfl ?_); refine goesA_ (some 84) rfl rfl Tryd.func7 (by kernel_rfl) rfl #[.agg #[.int .i64 t443, .int .i64 t444, .slice Ao70 t445.length co70], .string a1] rfl ?_; (with_reducible refine (impl_ParseFleet.calls kj39 t443 t444 _ _ t445 a1 t448 t451 _ ?side1 ?side2 A63.out).mono ?_); (case side1 => repeat (first | exact (Kd.R_reads' HO447.out).2.2 | (with_reducible refine Kd.C_alloc ?_ _) | (with_reducible refine Kd.C_drewN ?_ _) | (with_reducible refine Kd.C_drew ?_))); (case side2 => exact (Kd.R_reads' HO447.out).2.1); rintro e w71 ⟨v449, rfl, ho0, hb⟩; refine ⟨_, rfl, ?_⟩; have n0_ := Aside0.mk (Kd.R_elder' (by (with_reducible repeat (first | apply Kd.R_alloc | apply Kd.R_drewN | apply Kd.R_drew)); exact HO_6.out) (Kd.R_base ho0) hb); have n1_ := Aside0.mk (Kd.R_elder' (by (with_reducible repeat (first | apply Kd.R_alloc | apply Kd.R_drewN | apply Kd.R_drew)); exact HO_9.out) (Kd.R_base ho0) hb); have n2_ := Aside0.mk (Kd.R_elder' (by (with_reducible repeat (first | apply Kd.R_alloc | apply Kd.R_drewN | apply Kd.R_drew)); exact HO_426002.out) (Kd.R_base ho0) hb); have n3_ := Aside0.mk (Kd.R_elder' (by (with_reducible repeat (first | apply Kd.R_alloc | apply Kd.R_drewN | apply Kd.R_drew)); exact HO447.out) (Kd.R_base ho0) hb); have n4_ := Aside0.mk (Kd.R_lower (Kd.R_new' (Kd.R_new' (Kd.R_new' (Kd.R_new' ho0 (Kd.R_lt (by (with_reducible repeat (first | apply Kd.R_alloc | apply Kd.R_drewN | apply Kd.R_drew)); exact HO_6.out))) (Kd.R_lt (by (with_reducible repeat (first | apply Kd.R_alloc | apply Kd.R_drewN | apply Kd.R_drew)); exact HO_9.out))) (Kd.R_lt (by (with_reducible repeat (first | apply Kd.R_alloc | apply Kd.R_drewN | apply Kd.R_drew)); exact HO_426002.out))) (Kd.R_lt (by (with_reducible repeat (first | apply Kd.R_alloc | apply Kd.R_drewN | apply Kd.R_drew)); exact HO447.out))) (below_size (by repeat (first | (with_reducible first | exact HB.out | apply below_alloc | apply pw_below_drewN | apply below_drew1 | refine below_set ?_ GE409.out | refine below_set ?_ GE425.out) | exact HB.out)))); have n5_ := Aside0.mk (blk_below (g := gb409) (o := .cells #[.int .i64 a0_0, .int .i64 a0_1, .slice A0_2 l0_2.length c0_2] 24 (0, 0)) (by (with_reducible repeat (first | refine blk_drewN ?_ _ | refine blk_drew ?_ | refine blk_alloc ?_ _)); exact BK409.out) hb); have n6_ := Aside0.mk (blk_below (g := gb425) (o := .cells #[.int .i64 t420, .int .i64 t421, .slice Ao27 t438.length co27] 28 (0, 0)) (by (with_reducible repeat (first | refine blk_drewN ?_ _ | refine blk_drew ?_ | refine blk_alloc ?_ _)); exact BK425.out) hb); have n7_ := Aside0.mk (below_step (by repeat (first | (with_reducible first | exact HB.out | apply below_alloc | apply pw_below_drewN | apply below_drew1 | refine below_set ?_ GE409.out | refine below_set ?_ GE425.out) | exact HB.out)) hb); clear HO_6; clear HO_9; clear HO_426002; clear HO447; clear BK409; clear BK425; clear HB; have HO_6 := n0_; have HO_9 := n1_; have HO_426002 := n2_; have HO447 := n3_; have HO450 := n4_; have BK409 := n5_; have BK425 := n6_; have HB := n7_; clear n0_ n1_ n2_ n3_ n4_ n5_ n6_ n7_; (try clear hb); (try clear hb2); (try clear hk); (try clear hi); (try clear ho0)))
            (try simp only [Act.put, List.setIfInBounds_toArray, List.set_cons_zero, List.set_cons_succ])
            go_cut [95] (fun v95 wc => ∃ (kq : Nat) (x95_63 : Bool), v95 = .bool x95_63 ∧ Aside0 (laws_FnExactParseFleet.j2 kq t441 t440 x95_63 = some true) ∧ Aside0 (kq ≤ kj39) ∧ Aside0 (Kd.R (Kd.int .i64) 2 wc w.heap.size (fun k_ => some k_ ≠ ((.slice Ao27 t438.length co27) : Value).ownBlock) (.slice Ao65 t426.length co65) t441) ∧ Aside0 (Kd.R (Kd.int .i64) 2 wc w.heap.size (fun k_ => some k_ ≠ ((.slice Ao65 t426.length co65) : Value).ownBlock) (.slice Ao27 t438.length co27) t438) ∧ Aside0 (wc.heap[gb409]? = some (.cells #[.int .i64 a0_0, .int .i64 a0_1, (.slice A0_2 l0_2.length c0_2)] 24 (0, 0))) ∧ Aside0 (wc.heap[gb425]? = some (.cells #[.int .i64 t420, .int .i64 t421, (.slice Ao27 t438.length co27)] 28 (0, 0))) ∧ Aside0 (Below w.heap.size w wc))
            case first =>
             have H := HC64.out
             clear HC64
             replace H := Option.bind_eq_some_iff.mp H
             obtain ⟨t452, A720, H⟩ := H
             replace H : (if t452 = true then (laws_FnExactParseFleet.j2 kj39 t441 t440 (t451 != t419)) else (laws_FnExactParseFleet.j2 kj39 t441 t440 true)) = some true := H
             have A72 := Aside0.mk A720
             clear A720
             by_cases c73 : t452 = true
             ·subst c73
              have H1 : (laws_FnExactParseFleet.j2 kj39 t441 t440 (t451 != t419)) = some true := by rw [if_pos rfl] at H; exact H
              clear H
              have H := H1
              clear H1
              have H' := Aside0.mk H
              clear H
              obtain ⟨Ao74, co74, eo74⟩ := Kd.R_slice HO450.out
              subst eo74
              obtain ⟨Ao75, co75, eo75⟩ := Kd.R_slice HO_6.out
              subst eo75
              go_wp2_with (first | ((with_reducible refine gate_callee (f := 8) rfl ?_); refine goesA_ (some 89) rfl rfl Tryd.func8 (by kernel_rfl) rfl #[.slice Ao74 t448.length co74, .slice Ao75 t416.length co75] rfl ?_; (with_reducible refine (laws_eqInt64S.calls kj39 _ _ t448 _ _ t416 true _ ?side1 ?side2 ?side3 ?side4 A72.out).mono ?_); (case side1 => repeat (first | exact (Kd.R_reads' HO450.out).2.2 | (with_reducible refine Kd.C_alloc ?_ _) | (with_reducible refine Kd.C_drewN ?_ _) | (with_reducible refine Kd.C_drew ?_))); (case side2 => exact (Kd.R_reads' HO450.out).2.1); (case side3 => repeat (first | exact (Kd.R_reads' HO_6.out).2.2 | (with_reducible refine Kd.C_alloc ?_ _) | (with_reducible refine Kd.C_drewN ?_ _) | (with_reducible refine Kd.C_drew ?_))); (case side4 => exact (Kd.R_reads' HO_6.out).2.1); rintro e w' ⟨rfl, ⟨nd, rfl⟩⟩; refine ⟨_, rfl, ?_⟩))
              go_meet
              case rel => exact ⟨_, ((t451 != t419)), (by first | rfl | (simp; done) | (simp [*]; done)), H', ⟨by have := HJ13.out; have := HJ39.out; first | omega | exact Nat.le_refl _⟩, ⟨by (try simp only [hl426002_39]); (with_reducible repeat (first | apply Kd.R_alloc | apply Kd.R_drewN | apply Kd.R_drew)); exact Kd.R_mono HO_9.out (fun _ hk => hk.1.1.2)⟩, ⟨by (try simp only [hl426002_39]); (with_reducible repeat (first | apply Kd.R_alloc | apply Kd.R_drewN | apply Kd.R_drew)); exact Kd.R_mono HO_426002.out (fun _ hk => hk.1.1.2)⟩, ⟨by (try simp only [hl426002_39]); (with_reducible repeat (first | refine blk_drewN ?_ _ | refine blk_drew ?_ | refine blk_alloc ?_ _)); exact BK409.out⟩, ⟨by (try simp only [hl426002_39]); (with_reducible repeat (first | refine blk_drewN ?_ _ | refine blk_drew ?_ | refine blk_alloc ?_ _)); exact BK425.out⟩, ⟨by repeat (first | (with_reducible first | exact HB.out | apply below_alloc | apply pw_below_drewN | apply below_drew1 | refine below_set ?_ GE409.out | refine below_set ?_ GE425.out) | exact HB.out)⟩⟩
             ·replace c73 := Bool.eq_false_iff.mpr c73
              subst c73
              have H1 : (laws_FnExactParseFleet.j2 kj39 t441 t440 true) = some true := by rw [if_neg (show ¬ (false = true) by decide)] at H; exact H
              clear H
              have H := H1
              clear H1
              have H' := Aside0.mk H
              clear H
              obtain ⟨Ao76, co76, eo76⟩ := Kd.R_slice HO450.out
              subst eo76
              obtain ⟨Ao77, co77, eo77⟩ := Kd.R_slice HO_6.out
              subst eo77
              go_wp2_with (first | ((with_reducible refine gate_callee (f := 8) rfl ?_); refine goesA_ (some 89) rfl rfl Tryd.func8 (by kernel_rfl) rfl #[.slice Ao76 t448.length co76, .slice Ao77 t416.length co77] rfl ?_; (with_reducible refine (laws_eqInt64S.calls kj39 _ _ t448 _ _ t416 false _ ?side1 ?side2 ?side3 ?side4 A72.out).mono ?_); (case side1 => repeat (first | exact (Kd.R_reads' HO450.out).2.2 | (with_reducible refine Kd.C_alloc ?_ _) | (with_reducible refine Kd.C_drewN ?_ _) | (with_reducible refine Kd.C_drew ?_))); (case side2 => exact (Kd.R_reads' HO450.out).2.1); (case side3 => repeat (first | exact (Kd.R_reads' HO_6.out).2.2 | (with_reducible refine Kd.C_alloc ?_ _) | (with_reducible refine Kd.C_drewN ?_ _) | (with_reducible refine Kd.C_drew ?_))); (case side4 => exact (Kd.R_reads' HO_6.out).2.1); rintro e w' ⟨rfl, ⟨nd, rfl⟩⟩; refine ⟨_, rfl, ?_⟩))
              go_meet
              case rel => exact ⟨_, (true), (by first | rfl | (simp; done) | (simp [*]; done)), H', ⟨by have := HJ13.out; have := HJ39.out; first | omega | exact Nat.le_refl _⟩, ⟨by (try simp only [hl426002_39]); (with_reducible repeat (first | apply Kd.R_alloc | apply Kd.R_drewN | apply Kd.R_drew)); exact Kd.R_mono HO_9.out (fun _ hk => hk.1.1.2)⟩, ⟨by (try simp only [hl426002_39]); (with_reducible repeat (first | apply Kd.R_alloc | apply Kd.R_drewN | apply Kd.R_drew)); exact Kd.R_mono HO_426002.out (fun _ hk => hk.1.1.2)⟩, ⟨by (try simp only [hl426002_39]); (with_reducible repeat (first | refine blk_drewN ?_ _ | refine blk_drew ?_ | refine blk_alloc ?_ _)); exact BK409.out⟩, ⟨by (try simp only [hl426002_39]); (with_reducible repeat (first | refine blk_drewN ?_ _ | refine blk_drew ?_ | refine blk_alloc ?_ _)); exact BK425.out⟩, ⟨by repeat (first | (with_reducible first | exact HB.out | apply below_alloc | apply pw_below_drewN | apply below_drew1 | refine below_set ?_ GE409.out | refine below_set ?_ GE425.out) | exact HB.out)⟩⟩
            case rest =>
             clear HC64
             (try clear c1); (try clear c2); (try clear p2); (try clear c3); (try clear c3b0); (try clear c3b1); (try clear c4); (try clear c5); (try clear c6); (try clear c6b0); (try clear c7); (try clear c8); (try clear c9); (try clear c10); (try clear c11); (try clear c12); (try clear c25); (try clear c30); (try clear c35); (try clear c38); (try clear c45); (try clear c48); (try clear c48b0); (try clear c50); (try clear c55); (try clear c58); (try clear c58b0); (try clear c61); (try clear c61b0); (try clear c61b1); (try clear c67); (try clear c73); (try clear hcz16_0); (try clear hcz16_1); (try clear hcz16_2); (try clear hcz18_0); (try clear hcz18_1); (try clear hcz18_2); (try clear hcz22_0); (try clear hcz22_1); (try clear hcz22_2); (try clear hcz26_0); (try clear hcz26_1); (try clear hcz26_2); (try clear hcz46_0); (try clear hcz46_1); (try clear hcz46_2); (try clear hcz68_0); (try clear hcz68_1); (try clear hcz68_2); (try clear hcz8_0); (try clear hcz8_1); (try clear hcz8_2); (try clear hfz16_0); (try clear hfz16_1); (try clear hfz16_2); (try clear hfz18_0); (try clear hfz18_1); (try clear hfz18_2); (try clear hfz22_0); (try clear hfz22_1); (try clear hfz22_2); (try clear hfz26_0); (try clear hfz26_1); (try clear hfz26_2); (try clear hfz46_0); (try clear hfz46_1); (try clear hfz46_2); (try clear hfz68_0); (try clear hfz68_1); (try clear hfz68_2); (try clear hfz8_0); (try clear hfz8_1); (try clear hfz8_2); (try clear p2)
             obtain ⟨kq, x95_63, rfl, HA, HJ63, HO_9, HO_426002, BK409, BK425, HB⟩ := hcut
             have hl9_63 := (Kd.R_reads' HO_9.out).1
             rw [hl9_63] at HO_9
             (try simp only [hl9_63])
             (try simp only [hl9_63] at BK409)
             (try simp only [hl9_63] at BK425)
             (try simp only [hl9_63] at HO_426002)
             cases kq with
             | zero => exact absurd HA.out (by simp [laws_FnExactParseFleet.j2])
             | succ kj63 =>
              have H := HA.out
              clear HA
              simp only [laws_FnExactParseFleet.j2] at H
              by_cases c78 : x95_63 = true
              ·subst c78
               have H1 : (some false) = some true := by rw [if_pos rfl] at H; exact H
               clear H
               have H := H1
               clear H1
               exact absurd H (by simp)
              ·replace c78 := Bool.eq_false_iff.mpr c78
               subst c78
               have H1 : ((laws_heldInt64S.f kj63 t441 1).bind fun t453 => (if t453 < 0 then (some false) else (if t453 = t440 then (some true) else (some false)))) = some true := by rw [if_neg (show ¬ (false = true) by decide)] at H; exact H
               clear H
               have H := H1
               clear H1
               replace H := Option.bind_eq_some_iff.mp H
               obtain ⟨t453, A790, H⟩ := H
               replace H : (if t453 < 0 then (some false) else (if t453 = t440 then (some true) else (some false))) = some true := H
               have A79 := Aside0.mk A790
               clear A790
               by_cases c80 : t453 < 0
               ·rw [if_pos c80] at H
                have c80b0 : decide (t453 < 0) = true := decide_eq_true c80
                clear c80
                exact absurd H (by simp)
               ·rw [if_neg c80] at H
                have c80b0 : decide (t453 < 0) = false := decide_eq_false c80
                clear c80
                by_cases c81 : t453 = t440
                ·rw [if_pos c81] at H
                 have c81b0 : (t453 == t440) = true := beq_iff_eq.mpr c81
                 have c81b1 : (t453 != t440) = false := bne_eq_false_iff_eq.mpr c81
                 clear c81
                 clear H
                 go_wp2_with (first | ((with_reducible refine gate_callee (f := 12) rfl ?_); refine goesA_ (some 98) rfl rfl Tryd.func12 (by kernel_rfl) rfl #[.slice Ao65 t441.length co65, .int .i64 1] rfl ?_; (with_reducible refine (laws_heldInt64S.calls kj63 _ _ t441 1 t453 _ ?side1 ?side2 A79.out).mono ?_); (case side1 => repeat (first | exact (Kd.R_reads' HO_9.out).2.2 | (with_reducible refine Kd.C_alloc ?_ _) | (with_reducible refine Kd.C_drewN ?_ _) | (with_reducible refine Kd.C_drew ?_))); (case side2 => exact (Kd.R_reads' HO_9.out).2.1); rintro e w' ⟨rfl, ⟨nd, rfl⟩⟩; refine ⟨_, rfl, ?_⟩))
                 go_ret
                 exact ⟨by first | rfl | (simp [errW_none, errW_some] <;> rfl) | (simp [*, errW_none, errW_some] <;> rfl), by repeat (first | (with_reducible first | exact HB.out | apply below_alloc | apply pw_below_drewN | apply below_drew1 | refine below_set ?_ GE409.out | refine below_set ?_ GE425.out) | exact HB.out)⟩
                ·rw [if_neg c81] at H
                 have c81b0 : (t453 == t440) = false := beq_eq_false_iff_ne.mpr c81
                 have c81b1 : (t453 != t440) = true := bne_iff_ne.mpr c81
                 exact absurd H (by simp)
           ·rw [if_neg c61] at H
            have c61b0 : (t442 == t440) = false := beq_eq_false_iff_ne.mpr c61
            have c61b1 : (t442 != t440) = true := bne_iff_ne.mpr c61
            exact absurd H (by simp)
      ·replace c38 := Bool.eq_false_iff.mpr c38
       subst c38
       have H1 : (some false) = some true := by rw [if_neg (show ¬ (false = true) by decide)] at H; exact H
       clear H
       have H := H1
       clear H1
       exact absurd H (by simp)
-- The codes of a sea, a fleet and no cells.
theorem first_one (b : Bool) : Ev (fun k => impl_first.f k [⟨b, 2⟩]) (if b = true then 0 else 2) := by
  refine ⟨4, fun k hk => ?_⟩
  obtain ⟨k', rfl⟩ : ∃ k', k = k' + 4 := ⟨k - 4, by omega⟩
  have w1 : wrap64 1 = 1 := by unfold wrap64; omega
  have r0 : ∀ u : S71, rd_T71 [u] 0 = u := fun _ => rfl
  cases b <;> simp [impl_first.f, impl_first.l0, w1, r0]
/-- The code of a sea and a fleet. -/
def codeV (w h : Int) (l fl : List Int) : Int := if seaV w h l = true then (if fleetV w.toNat h.toNat l fl = true then 0 else 2) else 1
theorem sea_ships {w h : Int} {l : List Int} (hs : seaV w h l = true) : ∀ j : Nat, j < l.length → inW (rd l (j : Int)) 1 5 = true := by
  have hsh : shipsFrom l 0 l.length = true := by
    unfold seaV at hs
    simp only [Bool.and_eq_true] at hs
    exact hs.2
  exact fun j hj => ships_in l.length 0 (by omega) hsh j (Nat.zero_le _) hj
theorem implCode_ev (w h : Int) (l fl : List Int) (hl : l.length ≤ 1048576) : Ev (fun k => impl_fleetCode.f k w h l fl []) (codeV w h l fl) := by
  have e1 := implIsSea_ev w h l (by omega)
  unfold impl_fleetCode.f codeV
  cases hs : seaV w h l with
  | false =>
    rw [hs] at e1
    rw [if_neg (by simp)]
    exact Ev.bind e1 (Ev.congr (fun k => by rw [if_neg (by simp)]) (Ev.now _))
  | true =>
    rw [hs] at e1
    obtain ⟨⟨wn, rfl, hw1, hw5⟩, ⟨hn', rfl, hh1, hh5⟩, _, h3⟩ := seaV_nat hs
    have e2 := implFleet_ev ⟨hw1, hw5⟩ ⟨hh1, hh5⟩ l fl h3 (sea_ships hs)
    have hc : impl_Sea_areCells.f (wn : Int) (hn' : Int) l [] = some true := by
      unfold impl_Sea_areCells.f
      rw [if_pos (by simp), List.mergeSort_nil]; rfl
    have e3 := first_one true
    have e4 := first_one false
    simp only [Int.toNat_natCast]
    rw [if_pos trivial]
    refine Ev.bind e1 (Ev.congr (fun k => by rw [if_pos rfl]) (Ev.bind e2 ?_))
    by_cases hfv : fleetV wn hn' l fl = true
    · rw [if_pos hfv]; exact Ev.congr (fun k => by rw [if_pos hfv, hc, Option.bind_some]) (Ev.bind e3 (Ev.now _))
    · rw [if_neg hfv]; exact Ev.congr (fun k => by rw [if_neg hfv]) (Ev.bind e4 (Ev.now _))
/-- What a fleet is made of. -/
theorem fleet_mem {W H : Nat} {ships fl : List Int} : ∀ (d i : Nat), i + d = fl.length → fleetFrom W H ships fl i d = true → ∀ j, i ≤ j → j < fl.length → rd fl (j : Int) ∈ placesOf W H (rd ships (j : Int)).toNat
  | 0, i, hd, _, j, h1, h2 => by omega
  | d + 1, i, hd, h, j, h1, h2 => by
    unfold fleetFrom at h
    simp only [Bool.and_eq_true] at h
    by_cases e : j = i
    · subst e; exact List.contains_iff_mem.1 h.1.1
    · exact fleet_mem d (i + 1) (by omega) h.2 j (by omega) h2
theorem code_zero {w h : Int} {l fl : List Int} (h0 : codeV w h l fl = 0) : ∃ wn hn : Nat, w = wn ∧ h = hn ∧ 1 ≤ wn ∧ wn ≤ 5 ∧ 1 ≤ hn ∧ hn ≤ 5 ∧ l.length ≤ 3 ∧ fl.length = l.length ∧ ∀ x ∈ fl, ∃ m : Nat, x = (m : Int) ∧ m < 2 ^ (wn * hn) := by
  unfold codeV at h0
  by_cases hs : seaV w h l = true
  · rw [if_pos hs] at h0
    obtain ⟨⟨wn, rfl, hw1, hw5⟩, ⟨hn', rfl, hh1, hh5⟩, _, h3⟩ := seaV_nat hs
    simp only [Int.toNat_natCast] at h0
    by_cases hf : fleetV wn hn' l fl = true
    · unfold fleetV at hf
      simp only [Bool.and_eq_true, decide_eq_true_eq] at hf
      refine ⟨wn, hn', rfl, rfl, hw1, hw5, hh1, hh5, h3, hf.1, fun x hx => ?_⟩
      obtain ⟨j, hj, rfl⟩ := List.mem_iff_getElem.1 hx
      have hm := fleet_mem fl.length 0 (by omega) hf.2 j (Nat.zero_le _) hj
      obtain ⟨n, hn, hn1, hn5⟩ := inW_five (sea_ships hs j (by omega))
      rw [hn, Int.toNat_natCast, rd_get _ _ hj] at hm
      exact placesOf_bound hw1 hw5 hh5 hn1 _ hm
    · rw [if_neg hf] at h0; omega
  · rw [if_neg hs] at h0; omega
-- The reference's split of a text, plain. (for 21)
def splitL : List UInt8 → List UInt8 → List (List UInt8)
  | [], cur => [cur]
  | b :: r, cur => if b = 47 then cur :: splitL r [] else splitL r (cur ++ [b])
theorem bt_dat (s : ByteArray) (i : Nat) (h : i < s.size) : bt s (i : Int) = ((s.data.toList[i]'(by rw [← Lib.size_eq]; exact h)).toNat : Int) := by
  unfold bt
  simp only [Int.toNat_natCast]
  rw [dif_pos h]
  simp [ByteArray.getElem_eq_getElem_data]
theorem split_ev (s : ByteArray) (hs : s.size ≤ 1048576) : Ev (fun k => spec_l01Split.f k s 47) ((splitL s.data.toList []).map fun l => (⟨l.toArray⟩ : ByteArray)) := by
  unfold spec_l01Split.f
  have hL : s.data.toList.length = s.size := (Lib.size_eq s).symm
  have w1 : ∀ a : Nat, a ≤ 1048576 → wrap64 ((a : Int) + 1) = ((a + 1 : Nat) : Int) := fun a ha => by unfold wrap64; omega
  have key : ∀ (d i st : Nat) (out : List ByteArray), i + d = s.size → st ≤ i → out.length ≤ i → Ev (fun k => spec_l01Split.l0 k s 47 out st i) (out ++ (splitL (s.data.toList.drop i) ((s.data.toList.drop st).take (i - st))).map fun l => (⟨l.toArray⟩ : ByteArray)) := by
    intro d
    induction d with
    | zero =>
      intro i st out hi hst ho
      have hdr : s.data.toList.drop i = [] := List.drop_eq_nil_of_le (by omega)
      have hx : (⟨((s.data.toList.drop st).take (i - st)).toArray⟩ : ByteArray) = s.extract st s.size := by
        have e : (s.extract st s.size).data.toList = (s.data.toList.drop st).take (i - st) := by rw [Lib.extract_data, show s.size - st = i - st by omega]
        rw [← e, Array.toArray_toList]
      rw [hdr]
      show Ev _ (out ++ [(⟨((s.data.toList.drop st).take (i - st)).toArray⟩ : ByteArray)])
      rw [hx]
      refine Ev.step (f := fun _ => some (out ++ [s.extract st s.size])) (fun k => ?_) (Ev.now _)
      simp only [spec_l01Split.l0]
      rw [if_neg (by omega), if_pos (by omega), if_pos (by omega), if_pos (by omega), Int.toNat_natCast]
    | succ d ih =>
      intro i st out hi hst ho
      have hlt : i < s.data.toList.length := by omega
      have hb := bt_dat s i (by omega)
      rw [List.drop_eq_getElem_cons hlt]
      generalize hbv : s.data.toList[i] = b at hb
      have hiff : (bt s (i : Int) = 47) ↔ b = 47 := by
        rw [hb]
        constructor
        · intro h
          exact UInt8.toNat_inj.1 (by have : b.toNat = 47 := by omega
                                      exact this)
        · rintro rfl; rfl
      by_cases h : b = 47
      · have hx : (⟨((s.data.toList.drop st).take (i - st)).toArray⟩ : ByteArray) = s.extract st i := by
          have e : (s.extract st i).data.toList = (s.data.toList.drop st).take (i - st) := Lib.extract_data s st i
          rw [← e, Array.toArray_toList]
        have e := ih (i + 1) (i + 1) (out ++ [s.extract st i]) (by omega) (Nat.le_refl _) (by rw [List.length_append, List.length_singleton]; omega)
        rw [Nat.sub_self, List.take_zero] at e
        unfold splitL
        rw [if_pos h, List.map_cons, hx]
        rw [List.append_assoc] at e
        refine Ev.step (fun k => ?_) e
        simp only [spec_l01Split.l0]
        rw [if_pos (by omega), if_pos (by omega), if_pos (hiff.2 h), if_pos (by omega), if_pos (by omega), if_pos (by omega), if_pos (by omega), w1 i (by omega), Int.toNat_natCast, Int.toNat_natCast]
      · have e := ih (i + 1) st out (by omega) (by omega) (by omega)
        unfold splitL
        rw [if_neg h]
        have ht : (s.data.toList.drop st).take (i - st) ++ [b] = (s.data.toList.drop st).take (i + 1 - st) := by
          rw [show i + 1 - st = (i - st) + 1 by omega, List.take_succ_eq_append_getElem (by rw [List.length_drop]; omega)]
          congr 2
          rw [List.getElem_drop, ← hbv]
          congr 1
          omega
        rw [ht]
        refine Ev.step (fun k => ?_) e
        simp only [spec_l01Split.l0]
        rw [if_pos (by omega), if_pos (by omega), if_neg (fun hh => h (hiff.1 hh)), w1 i (by omega)]
  have := key s.size 0 0 [] (by omega) (Nat.le_refl _) (Nat.le_refl _)
  simpa using this
theorem splitL_none : ∀ (a cur : List UInt8), (∀ x ∈ a, x ≠ 47) → splitL a cur = [cur ++ a]
  | [], cur, _ => by simp [splitL]
  | b :: r, cur, h => by
    unfold splitL
    rw [if_neg (h b (List.mem_cons_self ..)), splitL_none r (cur ++ [b]) (fun x hx => h x (List.mem_cons_of_mem _ hx))]
    simp
theorem splitL_app : ∀ (a b cur : List UInt8), (∀ x ∈ a, x ≠ 47) → splitL (a ++ 47 :: b) cur = (cur ++ a) :: splitL b []
  | [], b, cur, _ => by
    show splitL (47 :: b) cur = _
    rw [List.append_nil]
    conv => lhs; unfold splitL
    rw [if_pos rfl]
  | x :: r, b, cur, h => by
    show splitL (x :: (r ++ 47 :: b)) cur = _
    conv => lhs; unfold splitL
    rw [if_neg (h x (List.mem_cons_self ..)), splitL_app r b (cur ++ [x]) (fun y hy => h y (List.mem_cons_of_mem _ hy))]
    simp
theorem splitL_join : ∀ xs : List (List UInt8), xs ≠ [] → (∀ a ∈ xs, ∀ x ∈ a, x ≠ 47) → splitL (Lib.join xs [47]) [] = xs
  | [], h, _ => absurd rfl h
  | [a], _, h => by
    have e : Lib.join [a] [47] = a := by simp [Lib.join]
    rw [e, splitL_none a [] (h a (List.mem_cons_self ..))]
    rfl
  | a :: b :: r, _, h => by
    have e : Lib.join (a :: b :: r) [47] = a ++ 47 :: Lib.join (b :: r) [47] := by simp [Lib.join, List.intercalate, List.intersperse]
    rw [e, splitL_app a _ [] (h a (List.mem_cons_self ..)), splitL_join (b :: r) (by simp) (fun y hy => h y (List.mem_cons_of_mem _ hy))]
    rfl
-- The reference's reading of a fleet's text, plain. (for 15)
-- wrap_byte wrap_byte0 fleetV textV rowsTo rowTo cellSg sgB cutTo step_cut readStep splitL split_ev splitL_join specFleet_ev text_ev textV_eq bt_dat wrap_mul wrap_add wrap_one u64_nat cutTo_all codeV sea_ships seaV_nat
def readByte (b : UInt8) (c : Nat) (out : List Int) : List Int :=
  if 0 ≤ (b.toNat : Int) - 97 ∧ (b.toNat : Int) - 97 < (out.length : Int) then out.set ((b.toNat : Int) - 97).toNat (Go.bits .or .i64 (rd out ((b.toNat : Int) - 97)) (shl .i64 1 (c : Int))) else out
theorem readByte_len (b : UInt8) (c : Nat) (out : List Int) : (readByte b c out).length = out.length := by
  unfold readByte
  split <;> simp
theorem read_byte {W H : Nat} {ships fl : List Int} (hv : fleetV W H ships fl = true) (hnum : ∀ x ∈ fl, ∃ m : Nat, x = (m : Int) ∧ m < 33554432) (hl : fl.length ≤ 3) {c : Nat} (hc : c < 25) : readByte (sgB fl c) c (cutTo fl c) = cutTo fl (c + 1) := by
  have h := step_cut hv hnum hl hc (Nat.le_refl 25)
  have hg : ((List.range 25).map (sgB fl)).getD c 0 = sgB fl c := by
    rw [List.getD_eq_getElem?_getD, List.getElem?_eq_getElem (by simpa using hc)]
    simp
  unfold readStep at h
  rw [hg] at h
  rw [← h]
  unfold readByte
  by_cases h1 : 0 ≤ ((sgB fl c).toNat : Int) - 97 ∧ ((sgB fl c).toNat : Int) - 97 < ((cutTo fl c).length : Int)
  · rw [if_pos h1, if_pos ⟨h1.1, h1.2, hc⟩]
  · rw [if_neg h1, if_neg (fun h => h1 ⟨h.1, h.2.1⟩)]
/-- A right fleet with a text. -/
def Right (W H : Nat) (l : List Int) (txt : ByteArray) (fl : List Int) : Prop := fleetV W H l fl = true ∧ textV W H fl = txt
def ReadOk (W H : Nat) (l : List Int) (txt : ByteArray) (c : Nat) (out : List Int) (r : List Int × Bool) : Prop :=
  (r.2 = true → Right W H l txt r.1) ∧ ∀ fl, Right W H l txt fl → out = cutTo fl c → r = (fl, true)
theorem right_num {W H : Nat} {l fl : List Int} (hs : seaV (W : Int) (H : Int) l = true) (hv : fleetV W H l fl = true) : fl.length = l.length ∧ (∀ x ∈ fl, ∃ m : Nat, x = (m : Int) ∧ m < 2 ^ (W * H)) ∧ ∀ x ∈ fl, ∃ m : Nat, x = (m : Int) ∧ m < 33554432 := by
  have hz : codeV (W : Int) (H : Int) l fl = 0 := by
    unfold codeV
    rw [if_pos hs, Int.toNat_natCast, Int.toNat_natCast, if_pos hv]
  obtain ⟨wn, hn, e1, e2, hw1, hw5, hh1, hh5, _, hfl, hnum⟩ := code_zero hz
  have e1 : W = wn := by omega
  have e2 : H = hn := by omega
  subst e1
  subst e2
  refine ⟨hfl, hnum, fun x hx => ?_⟩
  obtain ⟨m, e, hm⟩ := hnum x hx
  have h25 : W * H ≤ 25 := Nat.mul_le_mul hw5 hh5
  exact ⟨m, e, Nat.lt_of_lt_of_le hm (Nat.le_trans (Nat.pow_le_pow_right (by omega) h25) (by simp))⟩
theorem right_rows {W H : Nat} {fl : List Int} (hH : 1 ≤ H) : (splitL (textV W H fl).data.toList []).map (fun l => (⟨l.toArray⟩ : ByteArray)) = rowsTo fl W H := by
  have e : (textV W H fl).data.toList = Lib.join ((rowsTo fl W H).map (·.data.toList)) [47] := by simp [textV]
  rw [e, splitL_join _ (by
    intro h
    have := congrArg List.length h
    rw [List.length_map, rowsTo_len] at this
    simp at this
    omega) (by
    intro a ha x hx
    obtain ⟨r, hr, rfl⟩ := List.mem_map.1 ha
    obtain ⟨j, _, rfl⟩ := List.mem_map.1 hr
    simp only [strOfNums, rowTo] at hx
    simp only [List.map_map, List.mem_map] at hx
    obtain ⟨i, _, rfl⟩ := hx
    have h := sgB_ne fl (j * W + i)
    intro h2
    rw [show sgB fl (j * W + i) = 47 from h2] at h
    exact absurd h (by decide))]
  rw [List.map_map]
  refine (List.map_congr_left (fun x _ => ?_)).trans (List.map_id _)
  apply ByteArray.ext
  simp
theorem row_byte {W H : Nat} {fl : List Int} {y x : Nat} (hy : y < H) (hx : x < W) : bt (rdOf ByteArray.empty (rowsTo fl W H) (y : Int)) (x : Int) = ((sgB fl (y * W + x)).toNat : Int) := by
  have e : rdOf ByteArray.empty (rowsTo fl W H) (y : Int) = strOfNums (rowTo fl W y W) := by
    unfold rdOf rowsTo
    rw [Int.toNat_natCast, List.getD_eq_getElem?_getD, List.getElem?_eq_getElem (by simpa using hy)]
    simp
  have hz : (strOfNums (rowTo fl W y W)).data.toList = (rowTo fl W y W).map fun z => UInt8.ofNat z.toNat := by simp [strOfNums]
  have hsz : x < (strOfNums (rowTo fl W y W)).size := by
    rw [Lib.size_eq, hz, List.length_map, rowTo_len]
    exact hx
  rw [e, bt_dat _ x hsz]
  have : (strOfNums (rowTo fl W y W)).data.toList[x]'(by rw [← Lib.size_eq]; exact hsz) = sgB fl (y * W + x) := by
    rw [List.getElem_of_eq hz]
    simp only [List.getElem_map, rowTo, List.getElem_range]
    rfl
  rw [this]
set_option maxHeartbeats 1000000 in
theorem read_l1 {W H y : Nat} (hW : 1 ≤ W ∧ W ≤ 5) (hH : H ≤ 5) (hy : y < H) {l : List Int} (hl : l.length ≤ 3) (hs : seaV (W : Int) (H : Int) l = true) (txt : ByteArray) (rows : List ByteArray) (hrows : rows.length = H) (hrow : (rdOf ByteArray.empty rows (y : Int)).size = W)
    (hg : ∀ fl, Right W H l txt fl → rows = rowsTo fl W H)
    (hnext : ∀ out : List Int, out.length = l.length → ∃ r, Ev (fun k => spec_l09Read.l0 k txt rows out ((y + 1 : Nat) : Int) W H l) r ∧ ReadOk W H l txt ((y + 1) * W) out r) :
    ∀ (d x : Nat), x + d = W → ∀ out : List Int, out.length = l.length → ∃ r, Ev (fun k => spec_l09Read.l1 k txt rows out y x W H l) r ∧ ReadOk W H l txt (y * W + x) out r := by
  intro d
  induction d with
  | zero =>
    intro x hx out ho
    obtain rfl : x = W := by omega
    obtain ⟨r, h1, h2⟩ := hnext out ho
    refine ⟨r, Ev.step (fun k => ?_) h1, by rwa [Nat.succ_mul] at h2⟩
    simp only [spec_l09Read.l1]
    rw [if_neg (by omega), wrap_one (by omega)]
  | succ d ih =>
    intro x hx out ho
    have hxW : x < W := by omega
    have hc25 : y * W + x < 25 := by
      have : (y + 1) * W ≤ 5 * 5 := Nat.mul_le_mul (by omega) hW.2
      rw [Nat.succ_mul] at this
      omega
    have hdat : x < (rdOf ByteArray.empty rows (y : Int)).data.toList.length := by rw [← Lib.size_eq, hrow]; exact hxW
    have hbt := bt_dat (rdOf ByteArray.empty rows (y : Int)) x (by rw [hrow]; exact hxW)
    obtain ⟨b, hb⟩ : ∃ b, (rdOf ByteArray.empty rows (y : Int)).data.toList[x]'hdat = b := ⟨_, rfl⟩
    rw [hb] at hbt
    obtain ⟨r, h1, h2⟩ := ih (x + 1) (by omega) (readByte b (y * W + x) out) (by rw [readByte_len, ho])
    refine ⟨r, Ev.step (fun k => ?_) h1, h2.1, fun fl hf ho2 => h2.2 fl hf ?_⟩
    · simp only [spec_l09Read.l1]
      have hb255 := b.toNat_lt
      have b1 : y * W ≤ 1000 := by omega
      have b2 : x ≤ 1000 := by omega
      have b3 : y * W + x < 9223372036854775808 := by omega
      have wb2 : wrap64 ((b.toNat : Int) - 97) = (b.toNat : Int) - 97 := wrap_byte b
      have wb1 : wrap64 (bt (rdOf ByteArray.empty rows (y : Int)) (x : Int)) = (b.toNat : Int) := by rw [hbt]; exact wrap_byte0 b
      have wm := wrap_mul (rfl : y * W = y * W) b1
      have wa := wrap_add b1 b2
      have wo := wrap_one b2
      have hu := u64_nat (y * W + x) b3
      rw [wb1, wb2, wm, wa, wo, hu]
      clear wb1 wb2 wm wa wo hu
      rw [if_pos (by omega), if_pos (by omega), if_pos (by rw [hrows]; omega), if_pos (by omega), if_pos (by rw [hrow]; omega)]
      unfold readByte
      by_cases c1 : 0 ≤ (b.toNat : Int) - 97
      · by_cases c2 : (b.toNat : Int) - 97 < (out.length : Int)
        · rw [if_pos (show (b.toNat : Int) - 97 ≥ 0 from c1), if_pos c2, if_pos c1, if_pos (by omega), if_pos ⟨c1, c2⟩]
        · rw [if_pos (show (b.toNat : Int) - 97 ≥ 0 from c1), if_neg c2, if_neg (fun h => c2 h.2)]
      · rw [if_neg (show ¬ (b.toNat : Int) - 97 ≥ 0 from c1), if_neg (fun h => c1 h.1)]
    · obtain ⟨hfl, _, hnum⟩ := right_num hs hf.1
      have hr := hg fl hf
      have hb2 := row_byte (fl := fl) hy hxW
      rw [← hr, hbt] at hb2
      have hb3 : b = sgB fl (y * W + x) := UInt8.toNat_inj.1 (by omega)
      rw [hb3, ho2]
      exact read_byte hf.1 hnum (by omega) hc25
set_option maxHeartbeats 1000000 in
theorem read_l0 {W H : Nat} (hW : 1 ≤ W ∧ W ≤ 5) (hH : 1 ≤ H ∧ H ≤ 5) {l : List Int} (hl : l.length ≤ 3) (hs : seaV (W : Int) (H : Int) l = true) (txt : ByteArray) (rows : List ByteArray) (hrows : rows.length = H)
    (hg : ∀ fl, Right W H l txt fl → rows = rowsTo fl W H) :
    ∀ (d y : Nat), y + d = H → ∀ out : List Int, out.length = l.length → ∃ r, Ev (fun k => spec_l09Read.l0 k txt rows out y W H l) r ∧ ReadOk W H l txt (y * W) out r := by
  intro d
  induction d with
  | zero =>
    intro y hy out ho
    obtain rfl : y = H := by omega
    have e1 := specFleet_ev hW hH l out hl (sea_ships hs)
    by_cases hv : fleetV W y l out = true
    · obtain ⟨hfl, _, hnum⟩ := right_num hs hv
      have e2 := text_ev hW hH hv hnum (by omega)
      rw [← textV_eq (by omega) (by omega)] at e2
      rw [hv] at e1
      refine ⟨(out, (textV W y out).toList == txt.toList), Ev.step (f := fun k => (spec_l09Fleet.f k W y l out).bind fun t => if t = true then ((spec_l09Text.f k W y l out).bind fun t2 => some (out, (t2.toList == txt.toList))) else some (out, false)) (fun k => ?_) (Ev.bind e1 (Ev.congr (fun k => by rw [if_pos rfl]) (Ev.bind e2 (Ev.now _)))), fun h => ⟨hv, ?_⟩, fun fl hf h2 => ?_⟩
      · simp only [spec_l09Read.l0]
        rw [if_neg (by omega)]
      · have h3 : (textV W y out).toList = txt.toList := by simpa using h
        exact ByteArray.ext (by rw [← Array.toList_inj, ← ByteArray.toList_eq, ← ByteArray.toList_eq]; exact h3)
      · obtain ⟨hfl2, hnum2, _⟩ := right_num hs hf.1
        rw [Nat.mul_comm, cutTo_all hnum2] at h2
        subst h2
        rw [hf.2]
        simp
    · have hv' : fleetV W y l out = false := by simpa using hv
      rw [hv'] at e1
      refine ⟨(out, false), Ev.step (f := fun k => (spec_l09Fleet.f k W y l out).bind fun t => if t = true then ((spec_l09Text.f k W y l out).bind fun t2 => some (out, (t2.toList == txt.toList))) else some (out, false)) (fun k => ?_) (Ev.bind e1 (Ev.congr (f := fun _ => some (out, false)) (fun k => by rw [if_neg (by simp)]) (Ev.now _))), fun h => by simp at h, fun fl hf h2 => ?_⟩
      · simp only [spec_l09Read.l0]
        rw [if_neg (by omega)]
      · obtain ⟨hfl2, hnum2, _⟩ := right_num hs hf.1
        rw [Nat.mul_comm, cutTo_all hnum2] at h2
        subst h2
        exact absurd hf.1 hv
  | succ d ih =>
    intro y hy out ho
    have hyH : y < H := by omega
    by_cases hrow : (rdOf ByteArray.empty rows (y : Int)).size = W
    · obtain ⟨r, h1, h2⟩ := read_l1 hW hH.2 hyH hl hs txt rows hrows hrow hg (fun o => ih (y + 1) (by omega) o) W 0 (by omega) out ho
      refine ⟨r, Ev.step (fun k => ?_) h1, h2⟩
      simp only [spec_l09Read.l0]
      rw [if_pos (by omega), if_pos (by omega), if_pos (by rw [hrows]; omega), if_pos (by rw [hrow])]
      rfl
    · refine ⟨([], false), Ev.step (f := fun _ => some (([] : List Int), false)) (fun k => ?_) (Ev.now _), fun h => by simp at h, fun fl hf _ => ?_⟩
      · simp only [spec_l09Read.l0]
        rw [if_pos (by omega), if_pos (by omega), if_pos (by rw [hrows]; omega), if_neg (by omega)]
      · refine absurd ?_ hrow
        rw [hg fl hf]
        unfold rdOf rowsTo
        rw [Int.toNat_natCast, List.getD_eq_getElem?_getD, List.getElem?_eq_getElem (by simpa using hyH)]
        simp only [List.getElem_map, Option.getD_some, Lib.size_eq]
        simp [strOfNums, rowTo_len]
theorem read_ev {W H : Nat} (hW : 1 ≤ W ∧ W ≤ 5) (hH : 1 ≤ H ∧ H ≤ 5) {l : List Int} (hl : l.length ≤ 3) (hs : seaV (W : Int) (H : Int) l = true) (txt : ByteArray) (ht : txt.size ≤ 1048576) :
    ∃ r, Ev (fun k => spec_l09Read.f k W H l txt) r ∧ (r.2 = true → Right W H l txt r.1) ∧ ∀ fl, Right W H l txt fl → r = (fl, true) := by
  have e1 := split_ev txt ht
  have hg : ∀ fl, Right W H l txt fl → (splitL txt.data.toList []).map (fun l => (⟨l.toArray⟩ : ByteArray)) = rowsTo fl W H := fun fl hf => by
    rw [← hf.2]
    exact right_rows hH.1
  generalize (splitL txt.data.toList []).map (fun l => (⟨l.toArray⟩ : ByteArray)) = rows at e1 hg
  unfold spec_l09Read.f
  by_cases hrows : rows.length = H
  · obtain ⟨r, h1, h2, h3⟩ := read_l0 hW hH hl hs txt rows hrows hg H 0 (by omega) (List.replicate l.length 0) (by simp)
    refine ⟨r, Ev.bind e1 (Ev.congr (fun k => ?_) h1), h2, fun fl hf => h3 fl hf ?_⟩
    · rw [if_pos (by omega), if_pos (by omega), if_pos (by omega), Int.toNat_natCast]
      rfl
    · rw [Nat.zero_mul, cutTo_zero, (right_num hs hf.1).1]
  · refine ⟨([], false), Ev.bind e1 (Ev.congr (f := fun _ => some (([] : List Int), false)) (fun k => ?_) (Ev.now _)), fun h => by simp at h, fun fl hf => absurd ?_ hrows⟩
    · rw [if_pos (by omega), if_pos (by omega), if_neg (by omega)]
    · rw [hg fl hf, rowsTo_len]
/-- The one pure statement of laws_FnExactParseFleet. -/
def laws_FnExactParseFleet.Pure : Prop := ∀ (a0_0 : Int) (a0_1 : Int) (l0_2 : List Int) (a1 : ByteArray), (Lit.int .i64 a0_0).wf = true → (Lit.int .i64 a0_1).wf = true → (l0_2.length ≤ maxLen ∧ ∀ y1_ ∈ l0_2, (Lit.int .i64 y1_).wf = true) → a1.size ≤ maxLen → ∃ k, laws_FnExactParseFleet.f k a0_0 a0_1 l0_2 a1 = some true
/-- A type's readings as data are values of a kind: what an argument of that type is, whatever it holds. -/
def Rdb {α : Type} (P : Program) (t : TypeId) (d : Kd α) (wf : α → Prop) : Prop :=
  ∀ (H : Type) (enc : TypeId × Value → H) (w : World) (base : Nat) (spare : Nat → Bool) (held : Bool) (fuel : Nat) (cs : List Value) (x : DataW H × List MemPlace),
    DataW.trod enc P w base spare held fuel t cs = some x → ∃ a : α, d.K w a cs ∧ wf a
theorem Rdb.int {P : Program} {t : TypeId} {k : IntKind} (ht : P.underlying t = some (.int k)) : Rdb P t (Kd.int k) (fun n => (Lit.int k n).wf = true) := by
  intro H enc w base spare held fuel cs x h
  obtain ⟨n, rfl, _, hw⟩ := DataW.trod_int ht h
  exact ⟨n, rfl, hw⟩
theorem Rdb.bool {P : Program} {t : TypeId} (ht : P.underlying t = some .bool) : Rdb P t Kd.bool (fun _ => True) := by
  intro H enc w base spare held fuel cs x h
  obtain ⟨n, rfl, _⟩ := DataW.trod_bool ht h
  exact ⟨n, rfl, trivial⟩
theorem Rdb.string {P : Program} {t : TypeId} (ht : P.underlying t = some .string) : Rdb P t Kd.string (fun s => s.size ≤ maxLen) := by
  intro H enc w base spare held fuel cs x h
  obtain ⟨s, rfl, _, hs⟩ := DataW.trod_string ht h
  exact ⟨s, rfl, hs⟩
theorem list_choose {α β : Type} {R : Nat → α → β → Prop} : ∀ (n : Nat) (xs : List α), xs.length = n → (∀ i x, xs[i]? = some x → ∃ y, R i x y) → ∃ ys : List β, ys.length = n ∧ ∀ i x y, xs[i]? = some x → ys[i]? = some y → R i x y := by
  intro n xs
  induction xs generalizing n R with
  | nil =>
    intro hl _
    exact ⟨[], by simpa using hl, by intro i x y h; simp at h⟩
  | cons x xs ih =>
    intro hl h
    obtain ⟨y, hy⟩ := h 0 x rfl
    obtain ⟨ys, h1, h2⟩ := ih (R := fun i a b => R (i + 1) a b) (n - 1) (by simp at hl; omega) (fun i a hi => h (i + 1) a (by simpa using hi))
    refine ⟨y :: ys, by simp at hl ⊢; omega, fun i a b ha hb => ?_⟩
    cases i with
    | zero =>
      simp at ha hb
      subst ha hb
      exact hy
    | succ i => exact h2 i a b (by simpa using ha) (by simpa using hb)
theorem Rdb.slice {α : Type} {P : Program} {t e : TypeId} {d : Kd α} {wf : α → Prop} (ht : P.underlying t = some (.slice e)) (hc : P.cellsOf e = d.sz) (h1 : 0 < d.sz) (r : Rdb P e d wf) :
    Rdb P t (Kd.slice e d) (fun l => l.length ≤ maxLen ∧ ∀ x ∈ l, wf x) := by
  intro H enc w base spare held fuel cs x h
  rcases DataW.trod_slice ht h with ⟨rfl, _⟩ | ⟨a, len, cap, elems, rest, n, _, rfl, _, hb, hl, hm, hlen, hel, _, _⟩
  · exact ⟨[], ⟨none, 0, rfl, by simp, Kd.C_nil _ _⟩, by simp, by simp⟩
  · have each : ∀ i (y : DataW H × List MemPlace), elems[i]? = some y → ∃ b : α, ∃ c, w.cells? base (a.add (i * P.cellsOf e)) (P.cellsOf e) = some c ∧ d.K w b c ∧ wf b := by
      intro i y hy
      have hi : i < len := by have := (List.getElem?_eq_some_iff.1 hy).1; omega
      have h2 := hel i hi
      rw [hy, Option.bind_eq_some_iff] at h2
      obtain ⟨c, hcs, htr⟩ := h2
      obtain ⟨b, hK, hw⟩ := r H enc w base spare held n c y htr
      exact ⟨b, c, hcs, hK, hw⟩
    obtain ⟨xs, hx1, hx2⟩ := list_choose (R := fun i _ (b : α) => ∃ c, w.cells? base (a.add (i * P.cellsOf e)) (P.cellsOf e) = some c ∧ d.K w b c ∧ wf b) len elems hlen each
    have get : ∀ i b, xs[i]? = some b → ∃ c, w.cells? base (a.add (i * P.cellsOf e)) (P.cellsOf e) = some c ∧ d.K w b c ∧ wf b := by
      intro i b hb'
      have hi : i < elems.length := by have := (List.getElem?_eq_some_iff.1 hb').1; omega
      exact hx2 i _ b (List.getElem?_eq_getElem hi) hb'
    refine ⟨xs, ⟨some a, cap, by rw [hx1], by omega, ?_⟩, by omega, fun b hb' => ?_⟩
    · refine ⟨rfl, by rw [hx1]; unfold maxLen at hm; omega, fun hp => ⟨a, rfl, fun j b hj => ?_⟩⟩
      obtain ⟨c, hcs, hK, _⟩ := get j b hj
      obtain ⟨_, hcl, hcell⟩ := World.cells?_some hcs
      refine ⟨c, by rw [hcl, hc], hK, fun i u hu => ?_⟩
      have hi : i < P.cellsOf e := by have := (List.getElem?_eq_some_iff.1 hu).1; omega
      have := hcell i hi
      rw [hu] at this
      rw [Addr.add_add] at this
      rw [← hc]
      exact this
    · obtain ⟨i, hi⟩ := List.mem_iff_getElem?.1 hb'
      obtain ⟨_, _, _, hw⟩ := get i b hi
      exact hw
theorem Rdb.struct3 {α β γ : Type} {P : Program} {t : TypeId} {f0 f1 f2 : Field} {d0 : Kd α} {d1 : Kd β} {d2 : Kd γ} {w0 : α → Prop} {w1 : β → Prop} {w2 : γ → Prop} (ht : P.underlying t = some (.struct #[f0, f1, f2])) (o0 : f0.offset = 0) (o1 : f1.offset = P.cellsOf f0.type)
    (o2 : f2.offset = P.cellsOf f0.type + P.cellsOf f1.type) (cT : P.cellsOf t = P.cellsOf f0.type + P.cellsOf f1.type + P.cellsOf f2.type)
    (r0 : Rdb P f0.type d0 w0) (r1 : Rdb P f1.type d1 w1) (r2 : Rdb P f2.type d2 w2) : Rdb P t (Kd.pair d0 (Kd.pair d1 d2)) (fun x => w0 x.1 ∧ w1 x.2.1 ∧ w2 x.2.2) := by
  intro H enc w base spare held fuel cs x h
  obtain ⟨xs, n, _, _, hl, hxl, hf⟩ := DataW.trod_struct ht h
  match xs, hxl with
  | [y0, y1, y2], _ =>
    have h0 : DataW.trod enc P w base spare held n f0.type ((cs.drop f0.offset).take (P.cellsOf f0.type)) = some y0 := by simpa using hf 0 f0 rfl
    have h1 : DataW.trod enc P w base spare held n f1.type ((cs.drop f1.offset).take (P.cellsOf f1.type)) = some y1 := by simpa using hf 1 f1 rfl
    have h2 : DataW.trod enc P w base spare held n f2.type ((cs.drop f2.offset).take (P.cellsOf f2.type)) = some y2 := by simpa using hf 2 f2 rfl
    rw [o0, List.drop_zero] at h0
    rw [o1] at h1
    rw [o2, List.take_of_length_le (by rw [List.length_drop, hl, cT]; omega)] at h2
    obtain ⟨a, hK0, hw0⟩ := r0 H enc w base spare held n _ y0 h0
    obtain ⟨b, hK1, hw1⟩ := r1 H enc w base spare held n _ y1 h1
    obtain ⟨c, hK2, hw2⟩ := r2 H enc w base spare held n _ y2 h2
    refine ⟨(a, b, c), ⟨_, _, (List.take_append_drop (P.cellsOf f0.type) cs).symm, hK0, _, _, ?_, hK1, hK2⟩, hw0, hw1, hw2⟩
    rw [← List.drop_drop, List.take_append_drop]
theorem Rdb.iso {α β : Type} {P : Program} {t : TypeId} {d : Kd α} {wf : α → Prop} (r : Rdb P t d wf) (f : β → α) (g : α → β) (hfg : ∀ a, f (g a) = a) : Rdb P t (Kd.iso d f) (fun b => wf (f b)) := by
  intro H enc w base spare held fuel cs x h
  obtain ⟨a, hK, hw⟩ := r H enc w base spare held fuel cs x h
  exact ⟨g a, by show d.K w (f (g a)) cs; rw [hfg]; exact hK, by show wf (f (g a)); rw [hfg]; exact hw⟩
theorem Rdb.of {α : Type} {P : Program} {t : TypeId} {d : Kd α} {wf : α → Prop} (r : Rdb P t d wf) {H : Type} {enc : TypeId × Value → H} {w : World} {base : Nat} {spare : Nat → Bool} {held : Bool} {v : Value} {x : DataW H} {ps : List MemPlace}
    (h : DataW.Trod enc P w base spare held t v x ps) : ∃ a : α, d.K w a v.cells.toList ∧ wf a := by
  obtain ⟨fuel, hf⟩ := h
  exact r H enc w base spare held fuel _ _ hf

end Go.Proofs.YthmfpdkemkjpkaaDoor.F
