-- written by the session's program xp.py over the kit's print program, and by hand; texts joined by pack.py
import Derived.Test.YtbmiojnkfgcfoaaKFnExactDeadCells4
namespace Go.Proofs.Ytbmiojnkfgcfoaa.F
open Go.RowKit Go.Proofs.YtbmiojnkfgcfoaaW.PrintWords Go.Proofs.YtbmiojnkfgcfoaaW.PrintLast Go.Proofs.YtbmiojnkfgcfoaaW.PrintMore
attribute [local go_sem] max2_int min2_int max_two min_two max_three min_three max_four min_four   -- for this text's walks alone
set_option linter.unusedVariables false
set_option linter.unusedSimpArgs false

/-! ### laws_FnExactDeadCells: function 3 -/
mutual
def laws_FnExactDeadCells.j0 : Nat → List Int → Int → List Int → Int → Bool → Int → List Int → Int → List Int → Option (Bool)
 | 0, _, _, _, _, _, _, _, _, _ => none
 | k + 1, x4, x5, x7, x8, x40, x274000, x274001, x288000, x288001 => if x40 = true then (some false) else ((laws_toHex.f k x274000 x274001).bind fun bt293 => ((laws_eqHex.f k x288000 x288001 bt293.1 bt293.2).bind fun t297 => (if t297 = true then ((laws_markHex.f k x288000 x288001 1).bind fun bt298 => (if bt298.1 < 0 then (laws_FnExactDeadCells.j1 k x4 x5 x7 true x274000 x274001) else ((laws_eqInt64S.f k x7 x4).bind fun t300 => (if t300 = true then (laws_FnExactDeadCells.j1 k x4 x5 x7 (x8 != x5) x274000 x274001) else (laws_FnExactDeadCells.j1 k x4 x5 x7 true x274000 x274001))))) else (some false))))
def laws_FnExactDeadCells.j1 : Nat → List Int → Int → List Int → Bool → Int → List Int → Option (Bool)
 | 0, _, _, _, _, _, _ => none
 | k + 1, x4, x5, x7, x61, x274000, x274001 => if x61 = true then (some false) else ((laws_markInt64S.f k x7 1).bind fun bt301 => ((laws_heldInt64S.f k bt301.2 1).bind fun t303 => (if t303 < 0 then (some false) else (if t303 = bt301.1 then ((laws_toHex.f k x274000 x274001).bind fun bt304 => ((impl_DeadCells.f k bt304.1 bt304.2).bind fun bt308 => ((laws_eqInt64S.f k bt308.1 x4).bind fun t312 => (if t312 = true then (laws_FnExactDeadCells.j2 k bt301.2 bt301.1 (bt308.2 != x5)) else (laws_FnExactDeadCells.j2 k bt301.2 bt301.1 true))))) else (some false)))))
def laws_FnExactDeadCells.j2 : Nat → List Int → Int → Bool → Option (Bool)
 | 0, _, _, _ => none
 | k + 1, x7, x10, x87 => if x87 = true then (some false) else ((laws_heldInt64S.f k x7 1).bind fun t313 => (if t313 < 0 then (some false) else (if t313 = x10 then (some true) else (some false))))
end
def laws_FnExactDeadCells.f (k : Nat) (a0_0 : Int) (l0_1 : List Int) : Option (Bool) := (laws_szHex.f a0_0 l0_1 1048576).bind fun t274 => (if t274 < 0 then (some true) else ((laws_toHex.f k a0_0 l0_1).bind fun bt275 => ((spec_DeadCells.f k bt275.1 bt275.2).bind fun bt279 => ((laws_toHex.f k a0_0 l0_1).bind fun bt283 => ((impl_DeadCells.f k bt283.1 bt283.2).bind fun bt288 => ((laws_eqInt64S.f k bt288.1 bt279.1).bind fun t292 => (if t292 = true then (laws_FnExactDeadCells.j0 k bt279.1 bt279.2 bt288.1 bt288.2 (bt288.2 != bt279.2) a0_0 l0_1 bt283.1 bt283.2) else (laws_FnExactDeadCells.j0 k bt279.1 bt279.2 bt288.1 bt288.2 true a0_0 l0_1 bt283.1 bt283.2))))))))
set_option maxHeartbeats 8000000 in
set_option maxRecDepth 100000 in
theorem laws_FnExactDeadCells.calls (k : Nat) (a0_0 : Int) (A0_1 : Option Addr) (c0_1 : Nat) (l0_1 : List Int) (r : Bool) (w : World) (hr0_1 : Kd.C (Kd.int .i64) w A0_1 l0_1.length l0_1) (hc0_1 : l0_1.length ≤ c0_1) (h : laws_FnExactDeadCells.f k a0_0 l0_1 = some true) :
  Calls Try.prog 3 #[.agg #[.int .i64 a0_0, .slice A0_1 l0_1.length c0_1]] w fun e w' => e = .returned (.bool true) ∧ Below w.heap.size w w' := by
 have hu24 := Try.underlying24
 have hu28 := Try.underlying28
 have HR0_1 := Aside0.mk hr0_1
 have HC0_1 := Aside0.mk hc0_1
 clear hr0_1 hc0_1
 have HB := Aside0.mk (Below.refl w.heap.size w)
 have H : ((laws_szHex.f a0_0 l0_1 1048576).bind fun t274 => (if t274 < 0 then (some true) else ((laws_toHex.f k a0_0 l0_1).bind fun bt275 => ((spec_DeadCells.f k bt275.1 bt275.2).bind fun bt279 => ((laws_toHex.f k a0_0 l0_1).bind fun bt283 => ((impl_DeadCells.f k bt283.1 bt283.2).bind fun bt288 => ((laws_eqInt64S.f k bt288.1 bt279.1).bind fun t292 => (if t292 = true then (laws_FnExactDeadCells.j0 k bt279.1 bt279.2 bt288.1 bt288.2 (bt288.2 != bt279.2) a0_0 l0_1 bt283.1 bt283.2) else (laws_FnExactDeadCells.j0 k bt279.1 bt279.2 bt288.1 bt288.2 true a0_0 l0_1 bt283.1 bt283.2))))))))) = some true := h
 clear h
 replace H := Option.bind_eq_some_iff.mp H
 obtain ⟨t274, A20, H⟩ := H
 replace H : (if t274 < 0 then (some true) else ((laws_toHex.f k a0_0 l0_1).bind fun bt275 => ((spec_DeadCells.f k bt275.1 bt275.2).bind fun bt279 => ((laws_toHex.f k a0_0 l0_1).bind fun bt283 => ((impl_DeadCells.f k bt283.1 bt283.2).bind fun bt288 => ((laws_eqInt64S.f k bt288.1 bt279.1).bind fun t292 => (if t292 = true then (laws_FnExactDeadCells.j0 k bt279.1 bt279.2 bt288.1 bt288.2 (bt288.2 != bt279.2) a0_0 l0_1 bt283.1 bt283.2) else (laws_FnExactDeadCells.j0 k bt279.1 bt279.2 bt288.1 bt288.2 true a0_0 l0_1 bt283.1 bt283.2)))))))) = some true := H
 have A2 := Aside0.mk A20
 clear A20
 by_cases c3 : t274 < 0
 ·rw [if_pos c3] at H
  have c3b0 : decide (t274 < 0) = true := decide_eq_true c3
  clear c3
  clear H
  go_enter Try.func3, Try.ntmps3
  go_wp2_with (first | ((with_reducible refine gate_dst (N := 1) rfl ?_); refine box_event ?hg (N := 1) ?hd (cs := #[.int .i64 a0_0, .slice A0_1 l0_1.length c0_1]) (t := 24) ?hr ?_; (case hd => rfl); (case hg => rfl); (case hr => first | (go_simp; done) | (go_simp; rfl)); intro gb273 hg w4 hbox hb; have n0_ := Aside0.mk (below_step hb_ hb); have n1_ := Aside0.mk (hbox); have n2_ := Aside0.mk ((by rw [hg]; exact (below_size hb_) : w.heap.size ≤ gb273)); have n3_ := Aside0.mk ((by rw [hg]; exact (below_size hb_) : w.heap.size ≤ gb273)); clear HB; have HB := n0_; have BK273 := n1_; have GW273 := n2_; have GE273 := n3_; clear n0_ n1_ n2_ n3_; clear hb hbox hg; have hcz5_0 : w4.cell? ⟨gb273, 0, none⟩ = some (.int .i64 a0_0) := (blk_cell BK273.out 0).trans rfl; have hcz5_1 : w4.cell? ⟨gb273, 1, none⟩ = some (.slice A0_1 l0_1.length c0_1) := (blk_cell BK273.out 1).trans rfl; have hfz5_0 := blk_frozen BK273.out 0; have hfz5_1 := blk_frozen BK273.out 1) | ((with_reducible refine gate_callee (f := 7) rfl ?_); refine goesA_ (some 16) rfl rfl Try.func7 (by kernel_rfl) rfl #[.agg #[.int .i64 a0_0, .slice A0_1 l0_1.length c0_1], .int .i64 1048576] rfl ?_; (with_reducible refine (laws_szHex.calls a0_0 _ _ l0_1 1048576 t274 _ ?side1 ?side2 A2.out).mono ?_); (case side1 => repeat (first | exact (Kd.C_below HR0_1.out HB.out) | (with_reducible refine Kd.C_alloc ?_ _) | (with_reducible refine Kd.C_drewN ?_ _) | (with_reducible refine Kd.C_drew ?_))); (case side2 => exact HC0_1.out); rintro e w6 ⟨rfl, hb⟩; refine ⟨_, rfl, ?_⟩; have n0_ := Aside0.mk (blk_below (g := gb273) (o := .cells #[.int .i64 a0_0, .slice A0_1 l0_1.length c0_1] 24 (0, 0)) (by (with_reducible repeat (first | refine blk_drewN ?_ _ | refine blk_drew ?_ | refine blk_alloc ?_ _)); exact BK273.out) hb); have n1_ := Aside0.mk (below_step (by repeat (first | (with_reducible first | exact HB.out | apply below_alloc | apply pw_below_drewN | apply below_drew1 | refine below_set ?_ GE273.out) | exact HB.out)) hb); clear BK273; clear HB; have BK273 := n0_; have HB := n1_; clear n0_ n1_; (try clear hb); (try clear hb2); (try clear hk); (try clear hi)))
  go_ret
  exact ⟨by first | rfl | (simp [errW_none, errW_some] <;> rfl) | (simp [*, errW_none, errW_some] <;> rfl), by repeat (first | (with_reducible first | exact HB.out | apply below_alloc | apply pw_below_drewN | apply below_drew1 | refine below_set ?_ GE273.out) | exact HB.out)⟩
 ·rw [if_neg c3] at H
  have c3b0 : decide (t274 < 0) = false := decide_eq_false c3
  clear c3
  replace H := Option.bind_eq_some_iff.mp H
  obtain ⟨⟨t275, t276⟩, A70, H⟩ := H
  replace H : ((spec_DeadCells.f k t275 t276).bind fun bt279 => ((laws_toHex.f k a0_0 l0_1).bind fun bt283 => ((impl_DeadCells.f k bt283.1 bt283.2).bind fun bt288 => ((laws_eqInt64S.f k bt288.1 bt279.1).bind fun t292 => (if t292 = true then (laws_FnExactDeadCells.j0 k bt279.1 bt279.2 bt288.1 bt288.2 (bt288.2 != bt279.2) a0_0 l0_1 bt283.1 bt283.2) else (laws_FnExactDeadCells.j0 k bt279.1 bt279.2 bt288.1 bt288.2 true a0_0 l0_1 bt283.1 bt283.2)))))) = some true := H
  have A7 := Aside0.mk A70
  clear A70
  replace H := Option.bind_eq_some_iff.mp H
  obtain ⟨⟨t279, t282⟩, A80, H⟩ := H
  replace H : ((laws_toHex.f k a0_0 l0_1).bind fun bt283 => ((impl_DeadCells.f k bt283.1 bt283.2).bind fun bt288 => ((laws_eqInt64S.f k bt288.1 t279).bind fun t292 => (if t292 = true then (laws_FnExactDeadCells.j0 k t279 t282 bt288.1 bt288.2 (bt288.2 != t282) a0_0 l0_1 bt283.1 bt283.2) else (laws_FnExactDeadCells.j0 k t279 t282 bt288.1 bt288.2 true a0_0 l0_1 bt283.1 bt283.2))))) = some true := H
  have A8 := Aside0.mk A80
  clear A80
  replace H := Option.bind_eq_some_iff.mp H
  obtain ⟨⟨t283, t284⟩, A90, H⟩ := H
  replace H : ((impl_DeadCells.f k t283 t284).bind fun bt288 => ((laws_eqInt64S.f k bt288.1 t279).bind fun t292 => (if t292 = true then (laws_FnExactDeadCells.j0 k t279 t282 bt288.1 bt288.2 (bt288.2 != t282) a0_0 l0_1 t283 t284) else (laws_FnExactDeadCells.j0 k t279 t282 bt288.1 bt288.2 true a0_0 l0_1 t283 t284)))) = some true := H
  have A9 := Aside0.mk A90
  clear A90
  replace H := Option.bind_eq_some_iff.mp H
  obtain ⟨⟨t288, t291⟩, A100, H⟩ := H
  replace H : ((laws_eqInt64S.f k t288 t279).bind fun t292 => (if t292 = true then (laws_FnExactDeadCells.j0 k t279 t282 t288 t291 (t291 != t282) a0_0 l0_1 t283 t284) else (laws_FnExactDeadCells.j0 k t279 t282 t288 t291 true a0_0 l0_1 t283 t284))) = some true := H
  have A10 := Aside0.mk A100
  clear A100
  have HC11 := Aside0.mk H
  clear H
  go_enter Try.func3, Try.ntmps3
  go_upto_region 8 with (first | ((with_reducible refine gate_dst (N := 1) rfl ?_); refine box_event ?hg (N := 1) ?hd (cs := #[.int .i64 a0_0, .slice A0_1 l0_1.length c0_1]) (t := 24) ?hr ?_; (case hd => rfl); (case hg => rfl); (case hr => first | (go_simp; done) | (go_simp; rfl)); intro gb273 hg w12 hbox hb; have n0_ := Aside0.mk (below_step hb_ hb); have n1_ := Aside0.mk (hbox); have n2_ := Aside0.mk ((by rw [hg]; exact (below_size hb_) : w.heap.size ≤ gb273)); have n3_ := Aside0.mk ((by rw [hg]; exact (below_size hb_) : w.heap.size ≤ gb273)); clear HB; have HB := n0_; have BK273 := n1_; have GW273 := n2_; have GE273 := n3_; clear n0_ n1_ n2_ n3_; clear hb hbox hg; have hcz13_0 : w12.cell? ⟨gb273, 0, none⟩ = some (.int .i64 a0_0) := (blk_cell BK273.out 0).trans rfl; have hcz13_1 : w12.cell? ⟨gb273, 1, none⟩ = some (.slice A0_1 l0_1.length c0_1) := (blk_cell BK273.out 1).trans rfl; have hfz13_0 := blk_frozen BK273.out 0; have hfz13_1 := blk_frozen BK273.out 1) | ((with_reducible refine gate_callee (f := 7) rfl ?_); refine goesA_ (some 16) rfl rfl Try.func7 (by kernel_rfl) rfl #[.agg #[.int .i64 a0_0, .slice A0_1 l0_1.length c0_1], .int .i64 1048576] rfl ?_; (with_reducible refine (laws_szHex.calls a0_0 _ _ l0_1 1048576 t274 _ ?side1 ?side2 A2.out).mono ?_); (case side1 => repeat (first | exact (Kd.C_below HR0_1.out HB.out) | (with_reducible refine Kd.C_alloc ?_ _) | (with_reducible refine Kd.C_drewN ?_ _) | (with_reducible refine Kd.C_drew ?_))); (case side2 => exact HC0_1.out); rintro e w14 ⟨rfl, hb⟩; refine ⟨_, rfl, ?_⟩; have n0_ := Aside0.mk (blk_below (g := gb273) (o := .cells #[.int .i64 a0_0, .slice A0_1 l0_1.length c0_1] 24 (0, 0)) (by (with_reducible repeat (first | refine blk_drewN ?_ _ | refine blk_drew ?_ | refine blk_alloc ?_ _)); exact BK273.out) hb); have n1_ := Aside0.mk (below_step (by repeat (first | (with_reducible first | exact HB.out | apply below_alloc | apply pw_below_drewN | apply below_drew1 | refine below_set ?_ GE273.out) | exact HB.out)) hb); clear BK273; clear HB; have BK273 := n0_; have HB := n1_; clear n0_ n1_; (try clear hb); (try clear hb2); (try clear hk); (try clear hi); have hcz15_0 : w14.cell? ⟨gb273, 0, none⟩ = some (.int .i64 a0_0) := (blk_cell BK273.out 0).trans rfl; have hcz15_1 : w14.cell? ⟨gb273, 1, none⟩ = some (.slice A0_1 l0_1.length c0_1) := (blk_cell BK273.out 1).trans rfl; have hfz15_0 := blk_frozen BK273.out 0; have hfz15_1 := blk_frozen BK273.out 1) | ((with_reducible refine gate_callee (f := 9) rfl ?_); refine goesA_ (some 21) rfl rfl Try.func9 (by kernel_rfl) rfl #[.agg #[.int .i64 a0_0, .slice A0_1 l0_1.length c0_1]] rfl ?_; (with_reducible refine (laws_toHex.calls k a0_0 _ _ l0_1 t275 t276 _ ?side1 ?side2 A7.out).mono ?_); (case side1 => repeat (first | exact (Kd.C_below HR0_1.out HB.out) | (with_reducible refine Kd.C_alloc ?_ _) | (with_reducible refine Kd.C_drewN ?_ _) | (with_reducible refine Kd.C_drew ?_))); (case side2 => exact HC0_1.out); rintro e w16 ⟨v277, rfl, ho0, hb⟩; refine ⟨_, rfl, ?_⟩; have n0_ := Aside0.mk (Kd.R_lower ho0 (below_size (by repeat (first | (with_reducible first | exact HB.out | apply below_alloc | apply pw_below_drewN | apply below_drew1 | refine below_set ?_ GE273.out) | exact HB.out)))); have n1_ := Aside0.mk (blk_below (g := gb273) (o := .cells #[.int .i64 a0_0, .slice A0_1 l0_1.length c0_1] 24 (0, 0)) (by (with_reducible repeat (first | refine blk_drewN ?_ _ | refine blk_drew ?_ | refine blk_alloc ?_ _)); exact BK273.out) hb); have n2_ := Aside0.mk (below_step (by repeat (first | (with_reducible first | exact HB.out | apply below_alloc | apply pw_below_drewN | apply below_drew1 | refine below_set ?_ GE273.out) | exact HB.out)) hb); clear BK273; clear HB; have HO278 := n0_; have BK273 := n1_; have HB := n2_; clear n0_ n1_ n2_; (try clear hb); (try clear hb2); (try clear hk); (try clear hi); (try clear ho0); obtain ⟨Ao17, co17, eo17⟩ := Kd.R_slice HO278.out; subst eo17) | ((with_reducible refine gate_callee (f := 8) rfl ?_); refine goesA_ (some 22) rfl rfl Try.func8 (by kernel_rfl) rfl #[.agg #[.int .i64 t275, .slice Ao17 t276.length co17]] rfl ?_; (with_reducible refine (spec_DeadCells.calls k t275 _ _ t276 t279 t282 _ ?side1 ?side2 A8.out).mono ?_); (case side1 => repeat (first | exact (Kd.R_reads' HO278.out).2.2 | (with_reducible refine Kd.C_alloc ?_ _) | (with_reducible refine Kd.C_drewN ?_ _) | (with_reducible refine Kd.C_drew ?_))); (case side2 => exact (Kd.R_reads' HO278.out).2.1); rintro e w18 ⟨v280, rfl, ho0, hb⟩; refine ⟨_, rfl, ?_⟩; have n0_ := Aside0.mk (Kd.R_elder' (by (with_reducible repeat (first | apply Kd.R_alloc | apply Kd.R_drewN | apply Kd.R_drew)); exact HO278.out) (Kd.R_base ho0) hb); have n1_ := Aside0.mk (Kd.R_lower (Kd.R_new' ho0 (Kd.R_lt (by (with_reducible repeat (first | apply Kd.R_alloc | apply Kd.R_drewN | apply Kd.R_drew)); exact HO278.out))) (below_size (by repeat (first | (with_reducible first | exact HB.out | apply below_alloc | apply pw_below_drewN | apply below_drew1 | refine below_set ?_ GE273.out) | exact HB.out)))); have n2_ := Aside0.mk (blk_below (g := gb273) (o := .cells #[.int .i64 a0_0, .slice A0_1 l0_1.length c0_1] 24 (0, 0)) (by (with_reducible repeat (first | refine blk_drewN ?_ _ | refine blk_drew ?_ | refine blk_alloc ?_ _)); exact BK273.out) hb); have n3_ := Aside0.mk (below_step (by repeat (first | (with_reducible first | exact HB.out | apply below_alloc | apply pw_below_drewN | apply below_drew1 | refine below_set ?_ GE273.out) | exact HB.out)) hb); clear HO278; clear BK273; clear HB; have HO278 := n0_; have HO281 := n1_; have BK273 := n2_; have HB := n3_; clear n0_ n1_ n2_ n3_; (try clear hb); (try clear hb2); (try clear hk); (try clear hi); (try clear ho0); have hcz19_0 : w18.cell? ⟨gb273, 0, none⟩ = some (.int .i64 a0_0) := (blk_cell BK273.out 0).trans rfl; have hcz19_1 : w18.cell? ⟨gb273, 1, none⟩ = some (.slice A0_1 l0_1.length c0_1) := (blk_cell BK273.out 1).trans rfl; have hfz19_0 := blk_frozen BK273.out 0; have hfz19_1 := blk_frozen BK273.out 1) | ((with_reducible refine gate_callee (f := 9) rfl ?_); refine goesA_ (some 26) rfl rfl Try.func9 (by kernel_rfl) rfl #[.agg #[.int .i64 a0_0, .slice A0_1 l0_1.length c0_1]] rfl ?_; (with_reducible refine (laws_toHex.calls k a0_0 _ _ l0_1 t283 t284 _ ?side1 ?side2 A9.out).mono ?_); (case side1 => repeat (first | exact (Kd.C_below HR0_1.out HB.out) | (with_reducible refine Kd.C_alloc ?_ _) | (with_reducible refine Kd.C_drewN ?_ _) | (with_reducible refine Kd.C_drew ?_))); (case side2 => exact HC0_1.out); rintro e w20 ⟨v285, rfl, ho0, hb⟩; refine ⟨_, rfl, ?_⟩; have n0_ := Aside0.mk (Kd.R_elder' (by (with_reducible repeat (first | apply Kd.R_alloc | apply Kd.R_drewN | apply Kd.R_drew)); exact HO278.out) (Kd.R_base ho0) hb); have n1_ := Aside0.mk (Kd.R_elder' (by (with_reducible repeat (first | apply Kd.R_alloc | apply Kd.R_drewN | apply Kd.R_drew)); exact HO281.out) (Kd.R_base ho0) hb); have n2_ := Aside0.mk (Kd.R_lower (Kd.R_new' (Kd.R_new' ho0 (Kd.R_lt (by (with_reducible repeat (first | apply Kd.R_alloc | apply Kd.R_drewN | apply Kd.R_drew)); exact HO278.out))) (Kd.R_lt (by (with_reducible repeat (first | apply Kd.R_alloc | apply Kd.R_drewN | apply Kd.R_drew)); exact HO281.out))) (below_size (by repeat (first | (with_reducible first | exact HB.out | apply below_alloc | apply pw_below_drewN | apply below_drew1 | refine below_set ?_ GE273.out) | exact HB.out)))); have n3_ := Aside0.mk (blk_below (g := gb273) (o := .cells #[.int .i64 a0_0, .slice A0_1 l0_1.length c0_1] 24 (0, 0)) (by (with_reducible repeat (first | refine blk_drewN ?_ _ | refine blk_drew ?_ | refine blk_alloc ?_ _)); exact BK273.out) hb); have n4_ := Aside0.mk (below_step (by repeat (first | (with_reducible first | exact HB.out | apply below_alloc | apply pw_below_drewN | apply below_drew1 | refine below_set ?_ GE273.out) | exact HB.out)) hb); clear HO278; clear HO281; clear BK273; clear HB; have HO278 := n0_; have HO281 := n1_; have HO286 := n2_; have BK273 := n3_; have HB := n4_; clear n0_ n1_ n2_ n3_ n4_; (try clear hb); (try clear hb2); (try clear hk); (try clear hi); (try clear ho0)) | ((with_reducible refine gate_dst (N := 6) rfl ?_); refine box_event ?hg (N := 6) ?hd (cs := #[.int .i64 0, .slice none 0 0]) (t := 28) ?hr ?_; (case hd => rfl); (case hg => rfl); (case hr => first | (go_simp; done) | (go_simp; rfl)); intro gb287 hg w21 hbox hb; have n0_ := Aside0.mk (Kd.R_below (by (with_reducible repeat (first | apply Kd.R_alloc | apply Kd.R_drewN | apply Kd.R_drew)); exact HO278.out) hb); have n1_ := Aside0.mk (Kd.R_below (by (with_reducible repeat (first | apply Kd.R_alloc | apply Kd.R_drewN | apply Kd.R_drew)); exact HO281.out) hb); have n2_ := Aside0.mk (Kd.R_below (by (with_reducible repeat (first | apply Kd.R_alloc | apply Kd.R_drewN | apply Kd.R_drew)); exact HO286.out) hb); have n3_ := Aside0.mk (blk_below (g := gb273) (o := .cells #[.int .i64 a0_0, .slice A0_1 l0_1.length c0_1] 24 (0, 0)) (by (with_reducible repeat (first | refine blk_drewN ?_ _ | refine blk_drew ?_ | refine blk_alloc ?_ _)); exact BK273.out) hb); have n4_ := Aside0.mk (below_step (by repeat (first | (with_reducible first | exact HB.out | apply below_alloc | apply pw_below_drewN | apply below_drew1 | refine below_set ?_ GE273.out) | exact HB.out)) hb); have n5_ := Aside0.mk (hbox); have n6_ := Aside0.mk ((by rw [hg]; exact (below_size (by repeat (first | (with_reducible first | exact HB.out | apply below_alloc | apply pw_below_drewN | apply below_drew1 | refine below_set ?_ GE273.out) | exact HB.out))) : w.heap.size ≤ gb287)); have n7_ := Aside0.mk ((by rw [hg]; exact (below_size (by repeat (first | (with_reducible first | exact HB.out | apply below_alloc | apply pw_below_drewN | apply below_drew1 | refine below_set ?_ GE273.out) | exact HB.out))) : w.heap.size ≤ gb287)); have n8_ := Aside0.mk ((by rw [hg]; exact Nat.ne_of_lt (blk_lt (g := gb273) (o := .cells #[.int .i64 a0_0, .slice A0_1 l0_1.length c0_1] 24 (0, 0)) (by (with_reducible repeat (first | refine blk_drewN ?_ _ | refine blk_drew ?_ | refine blk_alloc ?_ _)); exact BK273.out)) : gb273 ≠ gb287)); have n9_ := Aside0.mk ((by rw [hg]; exact Nat.ne_of_gt (blk_lt (g := gb273) (o := .cells #[.int .i64 a0_0, .slice A0_1 l0_1.length c0_1] 24 (0, 0)) (by (with_reducible repeat (first | refine blk_drewN ?_ _ | refine blk_drew ?_ | refine blk_alloc ?_ _)); exact BK273.out)) : gb287 ≠ gb273)); clear HO278; clear HO281; clear HO286; clear BK273; clear HB; have HO278 := n0_; have HO281 := n1_; have HO286 := n2_; have BK273 := n3_; have HB := n4_; have BK287 := n5_; have GW287 := n6_; have GE287 := n7_; have NB273_287 := n8_; have NB287_273 := n9_; clear n0_ n1_ n2_ n3_ n4_ n5_ n6_ n7_ n8_ n9_; clear hb hbox hg; have hnb22 := NB287_273.out; have hnc22 := NB273_287.out; have hcz23_0 : w21.cell? ⟨gb287, 0, none⟩ = some (.int .i64 0) := (blk_cell BK287.out 0).trans rfl; have hcz23_1 : w21.cell? ⟨gb287, 1, none⟩ = some (.slice none 0 0) := (blk_cell BK287.out 1).trans rfl; have hfz23_0 := blk_frozen BK287.out 0; have hfz23_1 := blk_frozen BK287.out 1; obtain ⟨Ao24, co24, eo24⟩ := Kd.R_slice HO286.out; subst eo24) | ((with_reducible refine gate_callee (f := 10) rfl ?_); refine goesA_ (some 29) rfl rfl Try.func10 (by kernel_rfl) rfl #[.agg #[.int .i64 t283, .slice Ao24 t284.length co24]] rfl ?_; (with_reducible refine (impl_DeadCells.calls k t283 _ _ t284 t288 t291 _ ?side1 ?side2 A10.out).mono ?_); (case side1 => refine (Kd.R_reads' (e := 2) (base := w.heap.size) (ok := fun k_ => ((True ∧ some k_ ≠ (.slice Ao17 t276.length co17 : Value).ownBlock) ∧ some k_ ≠ (v280 : Value).ownBlock)) (n := t284.length) (c := co24) ?_).2.2; exact (by (with_reducible repeat (first | apply Kd.R_alloc | apply Kd.R_drewN | apply Kd.R_drew)); exact (Kd.R_mono (Kd.R_far (p := ⟨gb287, 1, none⟩) (Kd.R_far (p := ⟨gb287, 0, none⟩) (Kd.R_types HO286.out BK287.out (by decide)) (fun _ hk => hk.2) (.int .i64 t283)) (fun _ hk => hk.2) (.slice Ao24 t284.length co24)) (fun _ h_ => h_.1)))); (case side2 => exact (Kd.R_reads' HO286.out).2.1); rintro e w25 ⟨v289, rfl, ho0, hb⟩; refine ⟨_, rfl, ?_⟩; have n0_ := Aside0.mk (Kd.R_elder' (by (with_reducible repeat (first | apply Kd.R_alloc | apply Kd.R_drewN | apply Kd.R_drew)); exact (Kd.R_mono (Kd.R_far (p := ⟨gb287, 1, none⟩) (Kd.R_far (p := ⟨gb287, 0, none⟩) (Kd.R_types HO278.out BK287.out (by decide)) (fun _ hk => hk.2) (.int .i64 t283)) (fun _ hk => hk.2) (.slice Ao24 t284.length co24)) (fun _ h_ => h_.1))) (Kd.R_base ho0) hb); have n1_ := Aside0.mk (Kd.R_elder' (by (with_reducible repeat (first | apply Kd.R_alloc | apply Kd.R_drewN | apply Kd.R_drew)); exact (Kd.R_mono (Kd.R_far (p := ⟨gb287, 1, none⟩) (Kd.R_far (p := ⟨gb287, 0, none⟩) (Kd.R_types HO281.out BK287.out (by decide)) (fun _ hk => hk.2) (.int .i64 t283)) (fun _ hk => hk.2) (.slice Ao24 t284.length co24)) (fun _ h_ => h_.1))) (Kd.R_base ho0) hb); have n2_ := Aside0.mk (Kd.R_elder' (by (with_reducible repeat (first | apply Kd.R_alloc | apply Kd.R_drewN | apply Kd.R_drew)); exact (Kd.R_mono (Kd.R_far (p := ⟨gb287, 1, none⟩) (Kd.R_far (p := ⟨gb287, 0, none⟩) (Kd.R_types HO286.out BK287.out (by decide)) (fun _ hk => hk.2) (.int .i64 t283)) (fun _ hk => hk.2) (.slice Ao24 t284.length co24)) (fun _ h_ => h_.1))) (Kd.R_base ho0) hb); have n3_ := Aside0.mk (Kd.R_lower (Kd.R_new' (Kd.R_new' (Kd.R_new' ho0 (Kd.R_lt (by (with_reducible repeat (first | apply Kd.R_alloc | apply Kd.R_drewN | apply Kd.R_drew)); exact (Kd.R_mono (Kd.R_far (p := ⟨gb287, 1, none⟩) (Kd.R_far (p := ⟨gb287, 0, none⟩) (Kd.R_types HO278.out BK287.out (by decide)) (fun _ hk => hk.2) (.int .i64 t283)) (fun _ hk => hk.2) (.slice Ao24 t284.length co24)) (fun _ h_ => h_.1))))) (Kd.R_lt (by (with_reducible repeat (first | apply Kd.R_alloc | apply Kd.R_drewN | apply Kd.R_drew)); exact (Kd.R_mono (Kd.R_far (p := ⟨gb287, 1, none⟩) (Kd.R_far (p := ⟨gb287, 0, none⟩) (Kd.R_types HO281.out BK287.out (by decide)) (fun _ hk => hk.2) (.int .i64 t283)) (fun _ hk => hk.2) (.slice Ao24 t284.length co24)) (fun _ h_ => h_.1))))) (Kd.R_lt (by (with_reducible repeat (first | apply Kd.R_alloc | apply Kd.R_drewN | apply Kd.R_drew)); exact (Kd.R_mono (Kd.R_far (p := ⟨gb287, 1, none⟩) (Kd.R_far (p := ⟨gb287, 0, none⟩) (Kd.R_types HO286.out BK287.out (by decide)) (fun _ hk => hk.2) (.int .i64 t283)) (fun _ hk => hk.2) (.slice Ao24 t284.length co24)) (fun _ h_ => h_.1))))) (below_size (by repeat (first | (with_reducible first | exact HB.out | apply below_alloc | apply pw_below_drewN | apply below_drew1 | refine below_set ?_ GE273.out | refine below_set ?_ GE287.out) | exact HB.out)))); have n4_ := Aside0.mk (blk_below (g := gb273) (o := .cells #[.int .i64 a0_0, .slice A0_1 l0_1.length c0_1] 24 (0, 0)) (by (with_reducible repeat (first | refine blk_drewN ?_ _ | refine blk_drew ?_ | refine blk_alloc ?_ _)); refine blk_far ?_ NB273_287.out _; (with_reducible repeat (first | refine blk_drewN ?_ _ | refine blk_drew ?_ | refine blk_alloc ?_ _)); refine blk_far ?_ NB273_287.out _; (with_reducible repeat (first | refine blk_drewN ?_ _ | refine blk_drew ?_ | refine blk_alloc ?_ _)); exact BK273.out) hb); have n5_ := Aside0.mk (blk_below (g := gb287) (o := .cells #[.int .i64 t283, .slice Ao24 t284.length co24] 28 (0, 0)) (by (with_reducible repeat (first | refine blk_drewN ?_ _ | refine blk_drew ?_ | refine blk_alloc ?_ _)); refine blk_put (cs := #[.int .i64 t283, .slice none 0 0]) ?_ 1 _ rfl; (with_reducible repeat (first | refine blk_drewN ?_ _ | refine blk_drew ?_ | refine blk_alloc ?_ _)); refine blk_put (cs := #[.int .i64 0, .slice none 0 0]) ?_ 0 _ rfl; (with_reducible repeat (first | refine blk_drewN ?_ _ | refine blk_drew ?_ | refine blk_alloc ?_ _)); exact BK287.out) hb); have n6_ := Aside0.mk (below_step (by repeat (first | (with_reducible first | exact HB.out | apply below_alloc | apply pw_below_drewN | apply below_drew1 | refine below_set ?_ GE273.out | refine below_set ?_ GE287.out) | exact HB.out)) hb); clear HO278; clear HO281; clear HO286; clear BK273; clear BK287; clear HB; have HO278 := n0_; have HO281 := n1_; have HO286 := n2_; have HO290 := n3_; have BK273 := n4_; have BK287 := n5_; have HB := n6_; clear n0_ n1_ n2_ n3_ n4_ n5_ n6_; (try clear hb); (try clear hb2); (try clear hk); (try clear hi); (try clear ho0)))
  (try simp only [Act.put, List.setIfInBounds_toArray, List.set_cons_zero, List.set_cons_succ])
  go_cut [40] (fun v40 wc => ∃ (kq : Nat) (x40_10 : Bool), v40 = .bool x40_10 ∧ Aside0 (laws_FnExactDeadCells.j0 kq t279 t282 t288 t291 x40_10 a0_0 l0_1 t283 t284 = some true) ∧ Aside0 (kq ≤ k) ∧ Aside0 (Kd.R (Kd.int .i64) 2 wc w.heap.size (fun k_ => some k_ ≠ (v289 : Value).ownBlock ∧ some k_ ≠ ((.slice Ao24 t284.length co24) : Value).ownBlock) v280 t279) ∧ Aside0 (Kd.R (Kd.int .i64) 2 wc w.heap.size (fun k_ => some k_ ≠ (v280 : Value).ownBlock ∧ some k_ ≠ ((.slice Ao24 t284.length co24) : Value).ownBlock) v289 t288) ∧ Aside0 (Kd.R (Kd.int .i64) 2 wc w.heap.size (fun k_ => some k_ ≠ (v280 : Value).ownBlock ∧ some k_ ≠ (v289 : Value).ownBlock) (.slice Ao24 t284.length co24) t284) ∧ Aside0 (wc.heap[gb273]? = some (.cells #[.int .i64 a0_0, (.slice A0_1 l0_1.length c0_1)] 24 (0, 0))) ∧ Aside0 (wc.heap[gb287]? = some (.cells #[.int .i64 t283, (.slice Ao24 t284.length co24)] 28 (0, 0))) ∧ Aside0 (Below w.heap.size w wc))
  case first =>
   have H := HC11.out
   clear HC11
   replace H := Option.bind_eq_some_iff.mp H
   obtain ⟨t292, A260, H⟩ := H
   replace H : (if t292 = true then (laws_FnExactDeadCells.j0 k t279 t282 t288 t291 (t291 != t282) a0_0 l0_1 t283 t284) else (laws_FnExactDeadCells.j0 k t279 t282 t288 t291 true a0_0 l0_1 t283 t284)) = some true := H
   have A26 := Aside0.mk A260
   clear A260
   by_cases c27 : t292 = true
   ·subst c27
    have H1 : (laws_FnExactDeadCells.j0 k t279 t282 t288 t291 (t291 != t282) a0_0 l0_1 t283 t284) = some true := by rw [if_pos rfl] at H; exact H
    clear H
    have H := H1
    clear H1
    have H' := Aside0.mk H
    clear H
    obtain ⟨Ao28, co28, eo28⟩ := Kd.R_slice HO290.out
    subst eo28
    obtain ⟨Ao29, co29, eo29⟩ := Kd.R_slice HO281.out
    subst eo29
    go_wp2_with (first | ((with_reducible refine gate_callee (f := 11) rfl ?_); refine goesA_ (some 34) rfl rfl Try.func11 (by kernel_rfl) rfl #[.slice Ao28 t288.length co28, .slice Ao29 t279.length co29] rfl ?_; (with_reducible refine (laws_eqInt64S.calls k _ _ t288 _ _ t279 true _ ?side1 ?side2 ?side3 ?side4 A26.out).mono ?_); (case side1 => repeat (first | exact (Kd.R_reads' HO290.out).2.2 | (with_reducible refine Kd.C_alloc ?_ _) | (with_reducible refine Kd.C_drewN ?_ _) | (with_reducible refine Kd.C_drew ?_))); (case side2 => exact (Kd.R_reads' HO290.out).2.1); (case side3 => repeat (first | exact (Kd.R_reads' HO281.out).2.2 | (with_reducible refine Kd.C_alloc ?_ _) | (with_reducible refine Kd.C_drewN ?_ _) | (with_reducible refine Kd.C_drew ?_))); (case side4 => exact (Kd.R_reads' HO281.out).2.1); rintro e w' ⟨rfl, ⟨nd, rfl⟩⟩; refine ⟨_, rfl, ?_⟩))
    go_meet
    case rel => exact ⟨_, ((t291 != t282)), (by first | rfl | (simp; done) | (simp [*]; done)), H', ⟨by first | omega | exact Nat.le_refl _⟩, ⟨by (with_reducible repeat (first | apply Kd.R_alloc | apply Kd.R_drewN | apply Kd.R_drew)); exact Kd.R_mono HO281.out (fun _ hk => ⟨hk.2, hk.1.2⟩)⟩, ⟨by (with_reducible repeat (first | apply Kd.R_alloc | apply Kd.R_drewN | apply Kd.R_drew)); exact Kd.R_mono HO290.out (fun _ hk => ⟨hk.1.2, hk.2⟩)⟩, ⟨by (with_reducible repeat (first | apply Kd.R_alloc | apply Kd.R_drewN | apply Kd.R_drew)); exact Kd.R_mono HO286.out (fun _ hk => ⟨hk.1.2, hk.2⟩)⟩, ⟨by (with_reducible repeat (first | refine blk_drewN ?_ _ | refine blk_drew ?_ | refine blk_alloc ?_ _)); exact BK273.out⟩, ⟨by (with_reducible repeat (first | refine blk_drewN ?_ _ | refine blk_drew ?_ | refine blk_alloc ?_ _)); exact BK287.out⟩, ⟨by repeat (first | (with_reducible first | exact HB.out | apply below_alloc | apply pw_below_drewN | apply below_drew1 | refine below_set ?_ GE273.out | refine below_set ?_ GE287.out) | exact HB.out)⟩⟩
   ·replace c27 := Bool.eq_false_iff.mpr c27
    subst c27
    have H1 : (laws_FnExactDeadCells.j0 k t279 t282 t288 t291 true a0_0 l0_1 t283 t284) = some true := by rw [if_neg (show ¬ (false = true) by decide)] at H; exact H
    clear H
    have H := H1
    clear H1
    have H' := Aside0.mk H
    clear H
    obtain ⟨Ao30, co30, eo30⟩ := Kd.R_slice HO290.out
    subst eo30
    obtain ⟨Ao31, co31, eo31⟩ := Kd.R_slice HO281.out
    subst eo31
    go_wp2_with (first | ((with_reducible refine gate_callee (f := 11) rfl ?_); refine goesA_ (some 34) rfl rfl Try.func11 (by kernel_rfl) rfl #[.slice Ao30 t288.length co30, .slice Ao31 t279.length co31] rfl ?_; (with_reducible refine (laws_eqInt64S.calls k _ _ t288 _ _ t279 false _ ?side1 ?side2 ?side3 ?side4 A26.out).mono ?_); (case side1 => repeat (first | exact (Kd.R_reads' HO290.out).2.2 | (with_reducible refine Kd.C_alloc ?_ _) | (with_reducible refine Kd.C_drewN ?_ _) | (with_reducible refine Kd.C_drew ?_))); (case side2 => exact (Kd.R_reads' HO290.out).2.1); (case side3 => repeat (first | exact (Kd.R_reads' HO281.out).2.2 | (with_reducible refine Kd.C_alloc ?_ _) | (with_reducible refine Kd.C_drewN ?_ _) | (with_reducible refine Kd.C_drew ?_))); (case side4 => exact (Kd.R_reads' HO281.out).2.1); rintro e w' ⟨rfl, ⟨nd, rfl⟩⟩; refine ⟨_, rfl, ?_⟩))
    go_meet
    case rel => exact ⟨_, (true), (by first | rfl | (simp; done) | (simp [*]; done)), H', ⟨by first | omega | exact Nat.le_refl _⟩, ⟨by (with_reducible repeat (first | apply Kd.R_alloc | apply Kd.R_drewN | apply Kd.R_drew)); exact Kd.R_mono HO281.out (fun _ hk => ⟨hk.2, hk.1.2⟩)⟩, ⟨by (with_reducible repeat (first | apply Kd.R_alloc | apply Kd.R_drewN | apply Kd.R_drew)); exact Kd.R_mono HO290.out (fun _ hk => ⟨hk.1.2, hk.2⟩)⟩, ⟨by (with_reducible repeat (first | apply Kd.R_alloc | apply Kd.R_drewN | apply Kd.R_drew)); exact Kd.R_mono HO286.out (fun _ hk => ⟨hk.1.2, hk.2⟩)⟩, ⟨by (with_reducible repeat (first | refine blk_drewN ?_ _ | refine blk_drew ?_ | refine blk_alloc ?_ _)); exact BK273.out⟩, ⟨by (with_reducible repeat (first | refine blk_drewN ?_ _ | refine blk_drew ?_ | refine blk_alloc ?_ _)); exact BK287.out⟩, ⟨by repeat (first | (with_reducible first | exact HB.out | apply below_alloc | apply pw_below_drewN | apply below_drew1 | refine below_set ?_ GE273.out | refine below_set ?_ GE287.out) | exact HB.out)⟩⟩
  case rest =>
   clear HC11
   (try clear c1); (try clear c2); (try clear p2); (try clear c3); (try clear c3b0); (try clear c7); (try clear c8); (try clear c9); (try clear c10); (try clear c11); (try clear c22); (try clear c27); (try clear hcz13_0); (try clear hcz13_1); (try clear hcz15_0); (try clear hcz15_1); (try clear hcz19_0); (try clear hcz19_1); (try clear hcz23_0); (try clear hcz23_1); (try clear hcz5_0); (try clear hcz5_1); (try clear hfz13_0); (try clear hfz13_1); (try clear hfz15_0); (try clear hfz15_1); (try clear hfz19_0); (try clear hfz19_1); (try clear hfz23_0); (try clear hfz23_1); (try clear hfz5_0); (try clear hfz5_1)
   obtain ⟨kq, x40_10, rfl, HA, HJ10, HO_4, HO_7, HO_288001, BK273, BK287, HB⟩ := hcut
   cases kq with
   | zero => exact absurd HA.out (by simp [laws_FnExactDeadCells.j0])
   | succ kj10 =>
    have H := HA.out
    clear HA
    simp only [laws_FnExactDeadCells.j0] at H
    by_cases c32 : x40_10 = true
    ·subst c32
     have H1 : (some false) = some true := by rw [if_pos rfl] at H; exact H
     clear H
     have H := H1
     clear H1
     exact absurd H (by simp)
    ·replace c32 := Bool.eq_false_iff.mpr c32
     subst c32
     have H1 : ((laws_toHex.f kj10 a0_0 l0_1).bind fun bt293 => ((laws_eqHex.f kj10 t283 t284 bt293.1 bt293.2).bind fun t297 => (if t297 = true then ((laws_markHex.f kj10 t283 t284 1).bind fun bt298 => (if bt298.1 < 0 then (laws_FnExactDeadCells.j1 kj10 t279 t282 t288 true a0_0 l0_1) else ((laws_eqInt64S.f kj10 t288 t279).bind fun t300 => (if t300 = true then (laws_FnExactDeadCells.j1 kj10 t279 t282 t288 (t291 != t282) a0_0 l0_1) else (laws_FnExactDeadCells.j1 kj10 t279 t282 t288 true a0_0 l0_1))))) else (some false)))) = some true := by rw [if_neg (show ¬ (false = true) by decide)] at H; exact H
     clear H
     have H := H1
     clear H1
     replace H := Option.bind_eq_some_iff.mp H
     obtain ⟨⟨t293, t294⟩, A330, H⟩ := H
     replace H : ((laws_eqHex.f kj10 t283 t284 t293 t294).bind fun t297 => (if t297 = true then ((laws_markHex.f kj10 t283 t284 1).bind fun bt298 => (if bt298.1 < 0 then (laws_FnExactDeadCells.j1 kj10 t279 t282 t288 true a0_0 l0_1) else ((laws_eqInt64S.f kj10 t288 t279).bind fun t300 => (if t300 = true then (laws_FnExactDeadCells.j1 kj10 t279 t282 t288 (t291 != t282) a0_0 l0_1) else (laws_FnExactDeadCells.j1 kj10 t279 t282 t288 true a0_0 l0_1))))) else (some false))) = some true := H
     have A33 := Aside0.mk A330
     clear A330
     replace H := Option.bind_eq_some_iff.mp H
     obtain ⟨t297, A340, H⟩ := H
     replace H : (if t297 = true then ((laws_markHex.f kj10 t283 t284 1).bind fun bt298 => (if bt298.1 < 0 then (laws_FnExactDeadCells.j1 kj10 t279 t282 t288 true a0_0 l0_1) else ((laws_eqInt64S.f kj10 t288 t279).bind fun t300 => (if t300 = true then (laws_FnExactDeadCells.j1 kj10 t279 t282 t288 (t291 != t282) a0_0 l0_1) else (laws_FnExactDeadCells.j1 kj10 t279 t282 t288 true a0_0 l0_1))))) else (some false)) = some true := H
     have A34 := Aside0.mk A340
     clear A340
     by_cases c35 : t297 = true
     ·subst c35
      have H1 : ((laws_markHex.f kj10 t283 t284 1).bind fun bt298 => (if bt298.1 < 0 then (laws_FnExactDeadCells.j1 kj10 t279 t282 t288 true a0_0 l0_1) else ((laws_eqInt64S.f kj10 t288 t279).bind fun t300 => (if t300 = true then (laws_FnExactDeadCells.j1 kj10 t279 t282 t288 (t291 != t282) a0_0 l0_1) else (laws_FnExactDeadCells.j1 kj10 t279 t282 t288 true a0_0 l0_1))))) = some true := by rw [if_pos rfl] at H; exact H
      clear H
      have H := H1
      clear H1
      replace H := Option.bind_eq_some_iff.mp H
      obtain ⟨⟨t298, t299⟩, A360, H⟩ := H
      replace H : (if t298 < 0 then (laws_FnExactDeadCells.j1 kj10 t279 t282 t288 true a0_0 l0_1) else ((laws_eqInt64S.f kj10 t288 t279).bind fun t300 => (if t300 = true then (laws_FnExactDeadCells.j1 kj10 t279 t282 t288 (t291 != t282) a0_0 l0_1) else (laws_FnExactDeadCells.j1 kj10 t279 t282 t288 true a0_0 l0_1)))) = some true := H
      have A36 := Aside0.mk A360
      clear A360
      have HC37 := Aside0.mk H
      clear H
      try go_wp2
      have n0_ := Aside0.mk (Kd.R_drew HO_4.out)
      have n1_ := Aside0.mk (Kd.R_drew HO_7.out)
      have n2_ := Aside0.mk (Kd.R_drew HO_288001.out)
      have n3_ := Aside0.mk (blk_drew BK273.out)
      have n4_ := Aside0.mk (blk_drew BK287.out)
      have n5_ := Aside0.mk (below_drew1 HB.out)
      clear HO_4
      clear HO_7
      clear HO_288001
      clear BK273
      clear BK287
      clear HB
      have HO_4 := n0_
      have HO_7 := n1_
      have HO_288001 := n2_
      have BK273 := n3_
      have BK287 := n4_
      have HB := n5_
      clear n0_ n1_ n2_ n3_ n4_ n5_
      refine start_ (n := 5) (S := fun w' => w'.cell? ⟨gb287, 0, none⟩ = some (.int .i64 t283) ∧ w'.cell? ⟨gb287, 1, none⟩ = some (.slice Ao24 t284.length co24) ∧ w'.cell? ⟨gb273, 0, none⟩ = some (.int .i64 a0_0) ∧ w'.cell? ⟨gb273, 1, none⟩ = some (.slice A0_1 l0_1.length c0_1)) (ds := []) #[false, false, false, false, false] (by kernel_rfl) rfl rfl ⟨(blk_cell BK287.out 0).trans rfl, (blk_cell BK287.out 1).trans rfl, (blk_cell BK273.out 0).trans rfl, (blk_cell BK273.out 1).trans rfl⟩ (fun hHeld => ?_)
      generalize wc.drew = w38 at HO_4 HO_7 HO_288001 BK273 BK287 HB hHeld ⊢
      refine take_ (i := 0) (N := some 41) (v := ?_) (a' := ?_) #[true, false, false, false, false] rfl rfl (by kernel_rfl) (fun _ _ _ h => h) (Or.inl ⟨by rfl, ?_⟩) hHeld ?_ ?_
      rotate_left; (· (rintro w' ⟨s0, s1, s2, s3⟩; go_simp; with_reducible rfl)); rotate_left; (· (simp only [Act.put, sz_, s0_, s1_, i64_w, i32_w]; rfl))
      refine take_ (i := 1) (N := some 42) (v := ?_) (a' := ?_) #[true, true, false, false, false] rfl rfl (by kernel_rfl) (fun _ _ _ h => h) (Or.inl ⟨by rfl, ?_⟩) hHeld ?_ ?_
      rotate_left; (· (rintro w' ⟨s0, s1, s2, s3⟩; go_simp; with_reducible rfl)); rotate_left; (· (simp only [Act.put, sz_, s0_, s1_, i64_w, i32_w]; rfl))
      refine one_ (i := 2) (N := some 43) #[true, true, true, false, false] rfl rfl (by kernel_rfl) (by decide) (fun K hK => ?_)
      refine goes_ Try.func9 (by kernel_rfl) rfl #[.agg #[.int .i64 a0_0, .slice A0_1 l0_1.length c0_1]] (by rfl) rfl rfl (by (try simp only [List.map_toArray, List.map_cons, List.map_nil]); first | done | rfl | (simp only [List.length_drop, List.length_take]; rfl)) ?_
      with_reducible refine (laws_toHex.calls kj10 a0_0 _ _ l0_1 t293 t294 _ ?side1 ?side2 A33.out).mono ?_
      (case side1 => repeat (first | exact (Kd.C_below HR0_1.out HB.out) | (with_reducible refine Kd.C_alloc ?_ _) | (with_reducible refine Kd.C_drewN ?_ _) | (with_reducible refine Kd.C_drew ?_)))
      (case side2 => exact HC0_1.out)
      rintro e w39 ⟨v295, rfl, ho0, hb⟩
      refine ⟨_, rfl, ?_⟩
      have n0_ := Aside0.mk (Kd.R_elder' (by (with_reducible repeat (first | apply Kd.R_alloc | apply Kd.R_drewN | apply Kd.R_drew)); exact HO_4.out) (Kd.R_base ho0) hb)
      have n1_ := Aside0.mk (Kd.R_elder' (by (with_reducible repeat (first | apply Kd.R_alloc | apply Kd.R_drewN | apply Kd.R_drew)); exact HO_7.out) (Kd.R_base ho0) hb)
      have n2_ := Aside0.mk (Kd.R_elder' (by (with_reducible repeat (first | apply Kd.R_alloc | apply Kd.R_drewN | apply Kd.R_drew)); exact HO_288001.out) (Kd.R_base ho0) hb)
      have n3_ := Aside0.mk (Kd.R_lower (Kd.R_new' (Kd.R_new' (Kd.R_new' ho0 (Kd.R_lt (by (with_reducible repeat (first | apply Kd.R_alloc | apply Kd.R_drewN | apply Kd.R_drew)); exact HO_4.out))) (Kd.R_lt (by (with_reducible repeat (first | apply Kd.R_alloc | apply Kd.R_drewN | apply Kd.R_drew)); exact HO_7.out))) (Kd.R_lt (by (with_reducible repeat (first | apply Kd.R_alloc | apply Kd.R_drewN | apply Kd.R_drew)); exact HO_288001.out))) (below_size (by repeat (first | (with_reducible first | exact HB.out | apply below_alloc | apply pw_below_drewN | apply below_drew1 | refine below_set ?_ GE273.out | refine below_set ?_ GE287.out) | exact HB.out))))
      have n4_ := Aside0.mk (blk_below (g := gb273) (o := .cells #[.int .i64 a0_0, .slice A0_1 l0_1.length c0_1] 24 (0, 0)) (by (with_reducible repeat (first | refine blk_drewN ?_ _ | refine blk_drew ?_ | refine blk_alloc ?_ _)); exact BK273.out) hb)
      have n5_ := Aside0.mk (blk_below (g := gb287) (o := .cells #[.int .i64 t283, .slice Ao24 t284.length co24] 28 (0, 0)) (by (with_reducible repeat (first | refine blk_drewN ?_ _ | refine blk_drew ?_ | refine blk_alloc ?_ _)); exact BK287.out) hb)
      have n6_ := Aside0.mk (below_step (by repeat (first | (with_reducible first | exact HB.out | apply below_alloc | apply pw_below_drewN | apply below_drew1 | refine below_set ?_ GE273.out | refine below_set ?_ GE287.out) | exact HB.out)) hb)
      clear HO_4
      clear HO_7
      clear HO_288001
      clear BK273
      clear BK287
      clear HB
      have HO_4 := n0_
      have HO_7 := n1_
      have HO_288001 := n2_
      have HO296 := n3_
      have BK273 := n4_
      have BK287 := n5_
      have HB := n6_
      clear n0_ n1_ n2_ n3_ n4_ n5_ n6_
      (try clear hb)
      (try clear hb2)
      (try clear hk)
      (try clear hi)
      (try clear ho0)
      obtain ⟨Ao40, co40, eo40⟩ := Kd.R_slice HO296.out
      (first | subst eo40 | (injection eo40 with f1_ f2_ f3_; have f4_ := f1_.symm; have f5_ := f3_.symm; clear f1_ f2_ f3_; subst f4_; subst f5_))
      refine hK.out _ _ ⟨(blk_cell BK287.out 0).trans rfl, (blk_cell BK287.out 1).trans rfl, (blk_cell BK273.out 0).trans rfl, (blk_cell BK273.out 1).trans rfl⟩ (fun hHeld => ?_)
      clear hK K
      refine norm_ (a' := ?_) ?_ ?_
      rotate_left
      ·show Act.put _ (some 43) _ = _
       simp only [Act.put, sz_, s0_, s1_, i64_w, i32_w]
       rfl
      refine one_ (i := 3) (N := some 44) #[true, true, true, true, false] rfl rfl (by kernel_rfl) (by decide) (fun K hK => ?_)
      refine goes_ Try.func12 (by kernel_rfl) rfl #[.agg #[.int .i64 t283, .slice Ao24 t284.length co24], .agg #[.int .i64 t293, .slice Ao40 t294.length co40]] (by rfl) rfl rfl (by (try simp only [List.map_toArray, List.map_cons, List.map_nil]); first | done | rfl | (simp only [List.length_drop, List.length_take]; rfl)) ?_
      with_reducible refine (laws_eqHex.calls kj10 t283 _ _ t284 t293 _ _ t294 true _ ?side1 ?side2 ?side3 ?side4 A34.out).mono ?_
      (case side1 => repeat (first | exact (Kd.R_reads' HO_288001.out).2.2 | (with_reducible refine Kd.C_alloc ?_ _) | (with_reducible refine Kd.C_drewN ?_ _) | (with_reducible refine Kd.C_drew ?_)))
      (case side2 => exact (Kd.R_reads' HO_288001.out).2.1)
      (case side3 => repeat (first | exact (Kd.R_reads' HO296.out).2.2 | (with_reducible refine Kd.C_alloc ?_ _) | (with_reducible refine Kd.C_drewN ?_ _) | (with_reducible refine Kd.C_drew ?_)))
      (case side4 => exact (Kd.R_reads' HO296.out).2.1)
      rintro e w41 ⟨rfl, hb⟩
      refine ⟨_, rfl, ?_⟩
      have n0_ := Aside0.mk (Kd.R_below (by (with_reducible repeat (first | apply Kd.R_alloc | apply Kd.R_drewN | apply Kd.R_drew)); exact HO_4.out) hb)
      have n1_ := Aside0.mk (Kd.R_below (by (with_reducible repeat (first | apply Kd.R_alloc | apply Kd.R_drewN | apply Kd.R_drew)); exact HO_7.out) hb)
      have n2_ := Aside0.mk (Kd.R_below (by (with_reducible repeat (first | apply Kd.R_alloc | apply Kd.R_drewN | apply Kd.R_drew)); exact HO_288001.out) hb)
      have n3_ := Aside0.mk (Kd.R_below (by (with_reducible repeat (first | apply Kd.R_alloc | apply Kd.R_drewN | apply Kd.R_drew)); exact HO296.out) hb)
      have n4_ := Aside0.mk (blk_below (g := gb273) (o := .cells #[.int .i64 a0_0, .slice A0_1 l0_1.length c0_1] 24 (0, 0)) (by (with_reducible repeat (first | refine blk_drewN ?_ _ | refine blk_drew ?_ | refine blk_alloc ?_ _)); exact BK273.out) hb)
      have n5_ := Aside0.mk (blk_below (g := gb287) (o := .cells #[.int .i64 t283, .slice Ao24 t284.length co24] 28 (0, 0)) (by (with_reducible repeat (first | refine blk_drewN ?_ _ | refine blk_drew ?_ | refine blk_alloc ?_ _)); exact BK287.out) hb)
      have n6_ := Aside0.mk (below_step (by repeat (first | (with_reducible first | exact HB.out | apply below_alloc | apply pw_below_drewN | apply below_drew1 | refine below_set ?_ GE273.out | refine below_set ?_ GE287.out) | exact HB.out)) hb)
      clear HO_4
      clear HO_7
      clear HO_288001
      clear HO296
      clear BK273
      clear BK287
      clear HB
      have HO_4 := n0_
      have HO_7 := n1_
      have HO_288001 := n2_
      have HO296 := n3_
      have BK273 := n4_
      have BK287 := n5_
      have HB := n6_
      clear n0_ n1_ n2_ n3_ n4_ n5_ n6_
      (try clear hb)
      (try clear hb2)
      (try clear hk)
      (try clear hi)
      refine hK.out _ _ ⟨(blk_cell BK287.out 0).trans rfl, (blk_cell BK287.out 1).trans rfl, (blk_cell BK273.out 0).trans rfl, (blk_cell BK273.out 1).trans rfl⟩ (fun hHeld => ?_)
      clear hK K
      refine norm_ (a' := ?_) ?_ ?_
      rotate_left
      ·show Act.put _ (some 44) _ = _
       simp only [Act.put, sz_, s0_, s1_, i64_w, i32_w]
       rfl
      refine pure_ (i := 4) (N := some 45) (v := ?_) (a' := ?_) #[true, true, true, true, true] rfl rfl (by kernel_rfl) (fun _ _ _ h => h) (Or.inl ⟨by rfl, ?_⟩) ?_ ?_
      rotate_left; (· (intro w'; go_simp; with_reducible rfl)); rotate_left; (· (simp only [Act.put, sz_, s0_, s1_, i64_w, i32_w]; rfl))
      refine done_ (by kernel_rfl) ?_
      have hnb42 := NB287_273.out
      have hnc42 := NB273_287.out
      have hcz43_0 : w41.cell? ⟨gb287, 0, none⟩ = some (.int .i64 t283) := (blk_cell BK287.out 0).trans rfl
      have hcz43_1 : w41.cell? ⟨gb287, 1, none⟩ = some (.slice Ao24 t284.length co24) := (blk_cell BK287.out 1).trans rfl
      have hfz43_0 := blk_frozen BK287.out 0
      have hfz43_1 := blk_frozen BK287.out 1
      go_upto_region 14 with (first | ((with_reducible refine gate_callee (f := 13) rfl ?_); refine goesA_ (some 48) rfl rfl Try.func13 (by kernel_rfl) rfl #[.agg #[.int .i64 t283, .slice Ao24 t284.length co24], .int .i64 1] rfl ?_; (with_reducible refine (laws_markHex.calls kj10 t283 (fun k_ => some k_ = (.slice Ao24 t284.length co24 : Value).ownBlock) (.slice Ao24 t284.length co24) t284 1 t298 t299 w _ ?side1 ?side2 A36.out).mono ?_); (case side1 => repeat (first | (with_reducible first | exact HB.out | apply below_alloc | apply pw_below_drewN | apply below_drew1 | refine below_set ?_ GE273.out | refine below_set ?_ GE287.out) | exact HB.out)); (case side2 => exact Kd.R_tight rfl HO_288001.out); rintro e w44 ⟨rfl, hy0, hb, hkp⟩; refine ⟨_, rfl, ?_⟩; have n0_ := Aside0.mk (Kd.R_mono (ok' := fun k_ => some k_ ≠ (v289 : Value).ownBlock ∧ some k_ ≠ (.slice Ao24 t284.length co24 : Value).ownBlock ∧ some k_ ≠ (.slice Ao40 t294.length co40 : Value).ownBlock) (Kd.R_keptB (HO_4.out) hkp (fun k_ hk_ hs_ => (hk_.1.2) hs_)) (fun k_ hk_ => ⟨hk_.1.1.1, hk_.1.1.2, hk_.1.2⟩)); have n1_ := Aside0.mk (Kd.R_mono (ok' := fun k_ => some k_ ≠ (v280 : Value).ownBlock ∧ some k_ ≠ (.slice Ao24 t284.length co24 : Value).ownBlock ∧ some k_ ≠ (.slice Ao40 t294.length co40 : Value).ownBlock) (Kd.R_keptB (HO_7.out) hkp (fun k_ hk_ hs_ => (hk_.1.2) hs_)) (fun k_ hk_ => ⟨hk_.1.1.1, hk_.1.1.2, hk_.1.2⟩)); have n2_ := Aside0.mk (Kd.R_reok rfl hy0 (fun k_ e_ => HO_288001.out.1 k_ e_)); have n3_ := Aside0.mk (blk_kept (by (with_reducible repeat (first | refine blk_drewN ?_ _ | refine blk_drew ?_ | refine blk_alloc ?_ _)); exact BK273.out) hkp (fun hs_ => (fun e_ => (Kd.R_ne HO_288001.out BK273.out (by decide)) e_) hs_)); have n4_ := Aside0.mk (blk_kept (by (with_reducible repeat (first | refine blk_drewN ?_ _ | refine blk_drew ?_ | refine blk_alloc ?_ _)); exact BK287.out) hkp (fun hs_ => (fun e_ => (Kd.R_ne HO_288001.out BK287.out (by decide)) e_) hs_)); have n5_ := Aside0.mk (Kd.R_mono (ok' := fun k_ => some k_ ≠ (v280 : Value).ownBlock ∧ some k_ ≠ (v289 : Value).ownBlock ∧ some k_ ≠ (.slice Ao24 t284.length co24 : Value).ownBlock) (Kd.R_keptB (HO296.out) hkp (fun k_ hk_ hs_ => (hk_.2) hs_)) (fun k_ hk_ => ⟨hk_.1.1.1.2, hk_.1.1.2, hk_.1.2⟩)); have n6_ := Aside0.mk (hb); clear HO_4; clear HO_7; clear HO_288001; clear BK273; clear BK287; clear HO296; clear HB; have HO_4 := n0_; have HO_7 := n1_; have HO_288001 := n2_; have BK273 := n3_; have BK287 := n4_; have HO296 := n5_; have HB := n6_; clear n0_ n1_ n2_ n3_ n4_ n5_ n6_; (try clear hb); (try clear hkp); (try clear hy0)))
      (try simp only [Act.put, List.setIfInBounds_toArray, List.set_cons_zero, List.set_cons_succ])
      go_cut [61] (fun v61 wc => ∃ (kq : Nat) (x61_36 : Bool), v61 = .bool x61_36 ∧ Aside0 (laws_FnExactDeadCells.j1 kq t279 t282 t288 x61_36 a0_0 l0_1 = some true) ∧ Aside0 (kq ≤ kj10) ∧ Aside0 (Kd.R (Kd.int .i64) 2 wc w.heap.size (fun k_ => some k_ ≠ (v289 : Value).ownBlock ∧ some k_ ≠ ((.slice Ao24 t284.length co24) : Value).ownBlock) v280 t279) ∧ Aside0 (Kd.R (Kd.int .i64) 2 wc w.heap.size (fun k_ => some k_ ≠ (v280 : Value).ownBlock ∧ some k_ ≠ ((.slice Ao24 t284.length co24) : Value).ownBlock) v289 t288) ∧ Aside0 (Kd.R (Kd.int .i64) 2 wc w.heap.size (fun k_ => some k_ ≠ (v280 : Value).ownBlock ∧ some k_ ≠ (v289 : Value).ownBlock) (.slice Ao24 t284.length co24) t299) ∧ Aside0 (wc.heap[gb273]? = some (.cells #[.int .i64 a0_0, (.slice A0_1 l0_1.length c0_1)] 24 (0, 0))) ∧ Aside0 (wc.heap[gb287]? = some (.cells #[.int .i64 t283, (.slice Ao24 t284.length co24)] 28 (0, 0))) ∧ Aside0 (Below w.heap.size w wc))
      case first =>
       have H := HC37.out
       clear HC37
       by_cases c45 : t298 < 0
       ·rw [if_pos c45] at H
        have c45b0 : decide (t298 < 0) = true := decide_eq_true c45
        clear c45
        (first | rw [c45b0] | (simp only [i64_w, i32_w]; rw [c45b0]) | skip)
        have H' := Aside0.mk H
        clear H
        go_wp2
        go_meet
        case rel => exact ⟨_, (true), (by first | rfl | (simp; done) | (simp [*]; done)), H', ⟨by have := HJ10.out; first | omega | exact Nat.le_refl _⟩, ⟨by (with_reducible repeat (first | apply Kd.R_alloc | apply Kd.R_drewN | apply Kd.R_drew)); exact Kd.R_mono HO_4.out (fun _ hk => ⟨hk.1, hk.2.1⟩)⟩, ⟨by (with_reducible repeat (first | apply Kd.R_alloc | apply Kd.R_drewN | apply Kd.R_drew)); exact Kd.R_mono HO_7.out (fun _ hk => ⟨hk.1, hk.2.1⟩)⟩, ⟨by (with_reducible repeat (first | apply Kd.R_alloc | apply Kd.R_drewN | apply Kd.R_drew)); exact Kd.R_mono HO_288001.out (fun _ hk => ⟨hk.1.1, hk.1.2⟩)⟩, ⟨by (with_reducible repeat (first | refine blk_drewN ?_ _ | refine blk_drew ?_ | refine blk_alloc ?_ _)); exact BK273.out⟩, ⟨by (with_reducible repeat (first | refine blk_drewN ?_ _ | refine blk_drew ?_ | refine blk_alloc ?_ _)); exact BK287.out⟩, ⟨by repeat (first | (with_reducible first | exact HB.out | apply below_alloc | apply pw_below_drewN | apply below_drew1 | refine below_set ?_ GE273.out | refine below_set ?_ GE287.out) | exact HB.out)⟩⟩
       ·rw [if_neg c45] at H
        have c45b0 : decide (t298 < 0) = false := decide_eq_false c45
        clear c45
        (first | rw [c45b0] | (simp only [i64_w, i32_w]; rw [c45b0]) | skip)
        replace H := Option.bind_eq_some_iff.mp H
        obtain ⟨t300, A460, H⟩ := H
        replace H : (if t300 = true then (laws_FnExactDeadCells.j1 kj10 t279 t282 t288 (t291 != t282) a0_0 l0_1) else (laws_FnExactDeadCells.j1 kj10 t279 t282 t288 true a0_0 l0_1)) = some true := H
        have A46 := Aside0.mk A460
        clear A460
        by_cases c47 : t300 = true
        ·subst c47
         have H1 : (laws_FnExactDeadCells.j1 kj10 t279 t282 t288 (t291 != t282) a0_0 l0_1) = some true := by rw [if_pos rfl] at H; exact H
         clear H
         have H := H1
         clear H1
         have H' := Aside0.mk H
         clear H
         obtain ⟨Ao48, co48, eo48⟩ := Kd.R_slice HO_7.out
         subst eo48
         obtain ⟨Ao49, co49, eo49⟩ := Kd.R_slice HO_4.out
         subst eo49
         go_wp2_with (first | (go_at_call 11; (with_reducible refine (laws_eqInt64S.calls kj10 _ _ t288 _ _ t279 true _ ?side1 ?side2 ?side3 ?side4 A46.out).mono ?_); (case side1 => repeat (first | exact (Kd.R_reads' HO_7.out).2.2 | (with_reducible refine Kd.C_alloc ?_ _) | (with_reducible refine Kd.C_drewN ?_ _) | (with_reducible refine Kd.C_drew ?_))); (case side2 => exact (Kd.R_reads' HO_7.out).2.1); (case side3 => repeat (first | exact (Kd.R_reads' HO_4.out).2.2 | (with_reducible refine Kd.C_alloc ?_ _) | (with_reducible refine Kd.C_drewN ?_ _) | (with_reducible refine Kd.C_drew ?_))); (case side4 => exact (Kd.R_reads' HO_4.out).2.1); rintro e w' ⟨rfl, ⟨nd, rfl⟩⟩))
         go_meet
         case rel => exact ⟨_, ((t291 != t282)), (by first | rfl | (simp; done) | (simp [*]; done)), H', ⟨by have := HJ10.out; first | omega | exact Nat.le_refl _⟩, ⟨by (with_reducible repeat (first | apply Kd.R_alloc | apply Kd.R_drewN | apply Kd.R_drew)); exact Kd.R_mono HO_4.out (fun _ hk => ⟨hk.1, hk.2.1⟩)⟩, ⟨by (with_reducible repeat (first | apply Kd.R_alloc | apply Kd.R_drewN | apply Kd.R_drew)); exact Kd.R_mono HO_7.out (fun _ hk => ⟨hk.1, hk.2.1⟩)⟩, ⟨by (with_reducible repeat (first | apply Kd.R_alloc | apply Kd.R_drewN | apply Kd.R_drew)); exact Kd.R_mono HO_288001.out (fun _ hk => ⟨hk.1.1, hk.1.2⟩)⟩, ⟨by (with_reducible repeat (first | refine blk_drewN ?_ _ | refine blk_drew ?_ | refine blk_alloc ?_ _)); exact BK273.out⟩, ⟨by (with_reducible repeat (first | refine blk_drewN ?_ _ | refine blk_drew ?_ | refine blk_alloc ?_ _)); exact BK287.out⟩, ⟨by repeat (first | (with_reducible first | exact HB.out | apply below_alloc | apply pw_below_drewN | apply below_drew1 | refine below_set ?_ GE273.out | refine below_set ?_ GE287.out) | exact HB.out)⟩⟩
        ·replace c47 := Bool.eq_false_iff.mpr c47
         subst c47
         have H1 : (laws_FnExactDeadCells.j1 kj10 t279 t282 t288 true a0_0 l0_1) = some true := by rw [if_neg (show ¬ (false = true) by decide)] at H; exact H
         clear H
         have H := H1
         clear H1
         have H' := Aside0.mk H
         clear H
         obtain ⟨Ao50, co50, eo50⟩ := Kd.R_slice HO_7.out
         subst eo50
         obtain ⟨Ao51, co51, eo51⟩ := Kd.R_slice HO_4.out
         subst eo51
         go_wp2_with (first | (go_at_call 11; (with_reducible refine (laws_eqInt64S.calls kj10 _ _ t288 _ _ t279 false _ ?side1 ?side2 ?side3 ?side4 A46.out).mono ?_); (case side1 => repeat (first | exact (Kd.R_reads' HO_7.out).2.2 | (with_reducible refine Kd.C_alloc ?_ _) | (with_reducible refine Kd.C_drewN ?_ _) | (with_reducible refine Kd.C_drew ?_))); (case side2 => exact (Kd.R_reads' HO_7.out).2.1); (case side3 => repeat (first | exact (Kd.R_reads' HO_4.out).2.2 | (with_reducible refine Kd.C_alloc ?_ _) | (with_reducible refine Kd.C_drewN ?_ _) | (with_reducible refine Kd.C_drew ?_))); (case side4 => exact (Kd.R_reads' HO_4.out).2.1); rintro e w' ⟨rfl, ⟨nd, rfl⟩⟩))
         go_meet
         case rel => exact ⟨_, (true), (by first | rfl | (simp; done) | (simp [*]; done)), H', ⟨by have := HJ10.out; first | omega | exact Nat.le_refl _⟩, ⟨by (with_reducible repeat (first | apply Kd.R_alloc | apply Kd.R_drewN | apply Kd.R_drew)); exact Kd.R_mono HO_4.out (fun _ hk => ⟨hk.1, hk.2.1⟩)⟩, ⟨by (with_reducible repeat (first | apply Kd.R_alloc | apply Kd.R_drewN | apply Kd.R_drew)); exact Kd.R_mono HO_7.out (fun _ hk => ⟨hk.1, hk.2.1⟩)⟩, ⟨by (with_reducible repeat (first | apply Kd.R_alloc | apply Kd.R_drewN | apply Kd.R_drew)); exact Kd.R_mono HO_288001.out (fun _ hk => ⟨hk.1.1, hk.1.2⟩)⟩, ⟨by (with_reducible repeat (first | refine blk_drewN ?_ _ | refine blk_drew ?_ | refine blk_alloc ?_ _)); exact BK273.out⟩, ⟨by (with_reducible repeat (first | refine blk_drewN ?_ _ | refine blk_drew ?_ | refine blk_alloc ?_ _)); exact BK287.out⟩, ⟨by repeat (first | (with_reducible first | exact HB.out | apply below_alloc | apply pw_below_drewN | apply below_drew1 | refine below_set ?_ GE273.out | refine below_set ?_ GE287.out) | exact HB.out)⟩⟩
      case rest =>
       clear HC37
       (try clear c1); (try clear c2); (try clear p2); (try clear c3); (try clear c3b0); (try clear c4); (try clear c7); (try clear c8); (try clear c9); (try clear c10); (try clear c11); (try clear c12); (try clear c13); (try clear c22); (try clear c27); (try clear c32); (try clear c35); (try clear c42); (try clear c45); (try clear c45b0); (try clear c47); (try clear hcz13_0); (try clear hcz13_1); (try clear hcz15_0); (try clear hcz15_1); (try clear hcz19_0); (try clear hcz19_1); (try clear hcz23_0); (try clear hcz23_1); (try clear hcz43_0); (try clear hcz43_1); (try clear hcz5_0); (try clear hcz5_1); (try clear hfz13_0); (try clear hfz13_1); (try clear hfz15_0); (try clear hfz15_1); (try clear hfz19_0); (try clear hfz19_1); (try clear hfz23_0); (try clear hfz23_1); (try clear hfz43_0); (try clear hfz43_1); (try clear hfz5_0); (try clear hfz5_1); (try clear p2)
       obtain ⟨kq, x61_36, rfl, HA, HJ36, HO_4, HO_7, HO_288001, BK273, BK287, HB⟩ := hcut
       have hl288001_36 := (Kd.R_reads' HO_288001.out).1
       rw [hl288001_36] at HO_288001
       (try simp only [hl288001_36])
       (try simp only [hl288001_36] at BK273)
       (try simp only [hl288001_36] at BK287)
       (try simp only [hl288001_36] at HO_4)
       (try simp only [hl288001_36] at HO_7)
       cases kq with
       | zero => exact absurd HA.out (by simp [laws_FnExactDeadCells.j1])
       | succ kj36 =>
        have H := HA.out
        clear HA
        simp only [laws_FnExactDeadCells.j1] at H
        by_cases c52 : x61_36 = true
        ·subst c52
         have H1 : (some false) = some true := by rw [if_pos rfl] at H; exact H
         clear H
         have H := H1
         clear H1
         exact absurd H (by simp)
        ·replace c52 := Bool.eq_false_iff.mpr c52
         subst c52
         have H1 : ((laws_markInt64S.f kj36 t288 1).bind fun bt301 => ((laws_heldInt64S.f kj36 bt301.2 1).bind fun t303 => (if t303 < 0 then (some false) else (if t303 = bt301.1 then ((laws_toHex.f kj36 a0_0 l0_1).bind fun bt304 => ((impl_DeadCells.f kj36 bt304.1 bt304.2).bind fun bt308 => ((laws_eqInt64S.f kj36 bt308.1 t279).bind fun t312 => (if t312 = true then (laws_FnExactDeadCells.j2 kj36 bt301.2 bt301.1 (bt308.2 != t282)) else (laws_FnExactDeadCells.j2 kj36 bt301.2 bt301.1 true))))) else (some false))))) = some true := by rw [if_neg (show ¬ (false = true) by decide)] at H; exact H
         clear H
         have H := H1
         clear H1
         replace H := Option.bind_eq_some_iff.mp H
         obtain ⟨⟨t301, t302⟩, A530, H⟩ := H
         replace H : ((laws_heldInt64S.f kj36 t302 1).bind fun t303 => (if t303 < 0 then (some false) else (if t303 = t301 then ((laws_toHex.f kj36 a0_0 l0_1).bind fun bt304 => ((impl_DeadCells.f kj36 bt304.1 bt304.2).bind fun bt308 => ((laws_eqInt64S.f kj36 bt308.1 t279).bind fun t312 => (if t312 = true then (laws_FnExactDeadCells.j2 kj36 t302 t301 (bt308.2 != t282)) else (laws_FnExactDeadCells.j2 kj36 t302 t301 true))))) else (some false)))) = some true := H
         have A53 := Aside0.mk A530
         clear A530
         replace H := Option.bind_eq_some_iff.mp H
         obtain ⟨t303, A540, H⟩ := H
         replace H : (if t303 < 0 then (some false) else (if t303 = t301 then ((laws_toHex.f kj36 a0_0 l0_1).bind fun bt304 => ((impl_DeadCells.f kj36 bt304.1 bt304.2).bind fun bt308 => ((laws_eqInt64S.f kj36 bt308.1 t279).bind fun t312 => (if t312 = true then (laws_FnExactDeadCells.j2 kj36 t302 t301 (bt308.2 != t282)) else (laws_FnExactDeadCells.j2 kj36 t302 t301 true))))) else (some false))) = some true := H
         have A54 := Aside0.mk A540
         clear A540
         by_cases c55 : t303 < 0
         ·rw [if_pos c55] at H
          have c55b0 : decide (t303 < 0) = true := decide_eq_true c55
          clear c55
          exact absurd H (by simp)
         ·rw [if_neg c55] at H
          have c55b0 : decide (t303 < 0) = false := decide_eq_false c55
          clear c55
          by_cases c58 : t303 = t301
          ·rw [if_pos c58] at H
           have c58b0 : (t303 == t301) = true := beq_iff_eq.mpr c58
           have c58b1 : (t303 != t301) = false := bne_eq_false_iff_eq.mpr c58
           clear c58
           replace H := Option.bind_eq_some_iff.mp H
           obtain ⟨⟨t304, t305⟩, A590, H⟩ := H
           replace H : ((impl_DeadCells.f kj36 t304 t305).bind fun bt308 => ((laws_eqInt64S.f kj36 bt308.1 t279).bind fun t312 => (if t312 = true then (laws_FnExactDeadCells.j2 kj36 t302 t301 (bt308.2 != t282)) else (laws_FnExactDeadCells.j2 kj36 t302 t301 true)))) = some true := H
           have A59 := Aside0.mk A590
           clear A590
           replace H := Option.bind_eq_some_iff.mp H
           obtain ⟨⟨t308, t311⟩, A600, H⟩ := H
           replace H : ((laws_eqInt64S.f kj36 t308 t279).bind fun t312 => (if t312 = true then (laws_FnExactDeadCells.j2 kj36 t302 t301 (t311 != t282)) else (laws_FnExactDeadCells.j2 kj36 t302 t301 true))) = some true := H
           have A60 := Aside0.mk A600
           clear A600
           have HC61 := Aside0.mk H
           clear H
           obtain ⟨Ao62, co62, eo62⟩ := Kd.R_slice HO_7.out
           subst eo62
           go_upto_region 25 with (first | ((with_reducible refine gate_callee (f := 14) rfl ?_); refine goesA_ (some 64) rfl rfl Try.func14 (by kernel_rfl) rfl #[.slice Ao62 t288.length co62, .int .i64 1] rfl ?_; (with_reducible refine (laws_markInt64S.calls kj36 (fun k_ => some k_ = (.slice Ao62 t288.length co62 : Value).ownBlock) (.slice Ao62 t288.length co62) t288 1 t301 t302 w _ ?side1 ?side2 A53.out).mono ?_); (case side1 => repeat (first | (with_reducible first | exact HB.out | apply below_alloc | apply pw_below_drewN | apply below_drew1 | refine below_set ?_ GE273.out | refine below_set ?_ GE287.out) | exact HB.out)); (case side2 => exact Kd.R_tight rfl HO_7.out); rintro e w63 ⟨rfl, hy0, hb, hkp⟩; refine ⟨_, rfl, ?_⟩; have n0_ := Aside0.mk (Kd.R_mono (ok' := fun k_ => some k_ ≠ (.slice Ao62 t288.length co62 : Value).ownBlock ∧ some k_ ≠ (.slice Ao24 t299.length co24 : Value).ownBlock) (Kd.R_keptB (HO_4.out) hkp (fun k_ hk_ hs_ => (hk_.1) hs_)) (fun k_ hk_ => ⟨hk_.1.1, hk_.1.2⟩)); have n1_ := Aside0.mk (Kd.R_reok rfl hy0 (fun k_ e_ => HO_7.out.1 k_ e_)); have n2_ := Aside0.mk (Kd.R_mono (ok' := fun k_ => some k_ ≠ (v280 : Value).ownBlock ∧ some k_ ≠ (.slice Ao62 t288.length co62 : Value).ownBlock) (Kd.R_keptB (HO_288001.out) hkp (fun k_ hk_ hs_ => (hk_.2) hs_)) (fun k_ hk_ => ⟨hk_.1.1, hk_.1.2⟩)); have n3_ := Aside0.mk (blk_kept (by (with_reducible repeat (first | refine blk_drewN ?_ _ | refine blk_drew ?_ | refine blk_alloc ?_ _)); exact BK273.out) hkp (fun hs_ => (fun e_ => (Kd.R_ne HO_7.out BK273.out (by decide)) e_) hs_)); have n4_ := Aside0.mk (blk_kept (by (with_reducible repeat (first | refine blk_drewN ?_ _ | refine blk_drew ?_ | refine blk_alloc ?_ _)); exact BK287.out) hkp (fun hs_ => (fun e_ => (Kd.R_ne HO_7.out BK287.out (by decide)) e_) hs_)); have n5_ := Aside0.mk (hb); clear HO_4; clear HO_7; clear HO_288001; clear BK273; clear BK287; clear HB; have HO_4 := n0_; have HO_7 := n1_; have HO_288001 := n2_; have BK273 := n3_; have BK287 := n4_; have HB := n5_; clear n0_ n1_ n2_ n3_ n4_ n5_; (try clear hb); (try clear hkp); (try clear hy0)) | ((with_reducible refine gate_callee (f := 15) rfl ?_); refine goesL_ (some 67) rfl rfl Try.func15 (by kernel_rfl) rfl #[.slice Ao62 t302.length co62, .int .i64 1] rfl (by (try simp only [List.map_toArray, List.map_cons, List.map_nil]); first | done | (rw [show t302.length = t288.length from (Kd.R_reads' HO_7.out).1.symm] <;> rfl) | rfl | (simp only [List.length_drop, List.length_take]; rfl)) ?_; (with_reducible refine (laws_heldInt64S.calls kj36 _ _ t302 1 t303 _ ?side1 ?side2 A54.out).mono ?_); (case side1 => repeat (first | exact (Kd.R_reads' HO_7.out).2.2 | (with_reducible refine Kd.C_alloc ?_ _) | (with_reducible refine Kd.C_drewN ?_ _) | (with_reducible refine Kd.C_drew ?_))); (case side2 => rw [show t302.length = t288.length from (Kd.R_reads' HO_7.out).1.symm]; exact (Kd.R_reads' HO_7.out).2.1); rintro e w' ⟨rfl, ⟨nd, rfl⟩⟩; refine ⟨_, rfl, ?_⟩; have hnb64 := NB273_287.out; have hnc64 := NB287_273.out; have hcz65_0 : w63.cell? ⟨gb273, 0, none⟩ = some (.int .i64 a0_0) := (blk_cell BK273.out 0).trans rfl; have hcz65_1 : w63.cell? ⟨gb273, 1, none⟩ = some (.slice A0_1 l0_1.length c0_1) := (blk_cell BK273.out 1).trans rfl; have hfz65_0 := blk_frozen BK273.out 0; have hfz65_1 := blk_frozen BK273.out 1) | ((with_reducible refine gate_callee (f := 9) rfl ?_); refine goesA_ (some 75) rfl rfl Try.func9 (by kernel_rfl) rfl #[.agg #[.int .i64 a0_0, .slice A0_1 l0_1.length c0_1]] rfl ?_; (with_reducible refine (laws_toHex.calls kj36 a0_0 _ _ l0_1 t304 t305 _ ?side1 ?side2 A59.out).mono ?_); (case side1 => repeat (first | exact (Kd.C_below HR0_1.out (by repeat (first | (with_reducible first | exact HB.out | apply below_alloc | apply pw_below_drewN | apply below_drew1 | refine below_set ?_ GE273.out | refine below_set ?_ GE287.out) | exact HB.out))) | (with_reducible refine Kd.C_alloc ?_ _) | (with_reducible refine Kd.C_drewN ?_ _) | (with_reducible refine Kd.C_drew ?_))); (case side2 => exact HC0_1.out); rintro e w66 ⟨v306, rfl, ho0, hb⟩; refine ⟨_, rfl, ?_⟩; have n0_ := Aside0.mk (Kd.R_elder' (by (with_reducible repeat (first | apply Kd.R_alloc | apply Kd.R_drewN | apply Kd.R_drew)); exact HO_4.out) (Kd.R_base ho0) hb); have n1_ := Aside0.mk (Kd.R_elder' (by (with_reducible repeat (first | apply Kd.R_alloc | apply Kd.R_drewN | apply Kd.R_drew)); exact HO_7.out) (Kd.R_base ho0) hb); have n2_ := Aside0.mk (Kd.R_elder' (by (with_reducible repeat (first | apply Kd.R_alloc | apply Kd.R_drewN | apply Kd.R_drew)); exact HO_288001.out) (Kd.R_base ho0) hb); have n3_ := Aside0.mk (Kd.R_lower (Kd.R_new' (Kd.R_new' (Kd.R_new' ho0 (Kd.R_lt (by (with_reducible repeat (first | apply Kd.R_alloc | apply Kd.R_drewN | apply Kd.R_drew)); exact HO_4.out))) (Kd.R_lt (by (with_reducible repeat (first | apply Kd.R_alloc | apply Kd.R_drewN | apply Kd.R_drew)); exact HO_7.out))) (Kd.R_lt (by (with_reducible repeat (first | apply Kd.R_alloc | apply Kd.R_drewN | apply Kd.R_drew)); exact HO_288001.out))) (below_size (by repeat (first | (with_reducible first | exact HB.out | apply below_alloc | apply pw_below_drewN | apply below_drew1 | refine below_set ?_ GE273.out | refine below_set ?_ GE287.out) | exact HB.out)))); have n4_ := Aside0.mk (blk_below (g := gb273) (o := .cells #[.int .i64 a0_0, .slice A0_1 l0_1.length c0_1] 24 (0, 0)) (by (with_reducible repeat (first | refine blk_drewN ?_ _ | refine blk_drew ?_ | refine blk_alloc ?_ _)); exact BK273.out) hb); have n5_ := Aside0.mk (blk_below (g := gb287) (o := .cells #[.int .i64 t283, .slice Ao24 t299.length co24] 28 (0, 0)) (by (with_reducible repeat (first | refine blk_drewN ?_ _ | refine blk_drew ?_ | refine blk_alloc ?_ _)); exact BK287.out) hb); have n6_ := Aside0.mk (below_step (by repeat (first | (with_reducible first | exact HB.out | apply below_alloc | apply pw_below_drewN | apply below_drew1 | refine below_set ?_ GE273.out | refine below_set ?_ GE287.out) | exact HB.out)) hb); clear HO_4; clear HO_7; clear HO_288001; clear BK273; clear BK287; clear HB; have HO_4 := n0_; have HO_7 := n1_; have HO_288001 := n2_; have HO307 := n3_; have BK273 := n4_; have BK287 := n5_; have HB := n6_; clear n0_ n1_ n2_ n3_ n4_ n5_ n6_; (try clear hb); (try clear hb2); (try clear hk); (try clear hi); (try clear ho0); obtain ⟨Ao67, co67, eo67⟩ := Kd.R_slice HO307.out; subst eo67) | ((with_reducible refine gate_callee (f := 10) rfl ?_); refine goesA_ (some 76) rfl rfl Try.func10 (by kernel_rfl) rfl #[.agg #[.int .i64 t304, .slice Ao67 t305.length co67]] rfl ?_; (with_reducible refine (impl_DeadCells.calls kj36 t304 _ _ t305 t308 t311 _ ?side1 ?side2 A60.out).mono ?_); (case side1 => repeat (first | exact (Kd.R_reads' HO307.out).2.2 | (with_reducible refine Kd.C_alloc ?_ _) | (with_reducible refine Kd.C_drewN ?_ _) | (with_reducible refine Kd.C_drew ?_))); (case side2 => exact (Kd.R_reads' HO307.out).2.1); rintro e w68 ⟨v309, rfl, ho0, hb⟩; refine ⟨_, rfl, ?_⟩; have n0_ := Aside0.mk (Kd.R_elder' (by (with_reducible repeat (first | apply Kd.R_alloc | apply Kd.R_drewN | apply Kd.R_drew)); exact HO_4.out) (Kd.R_base ho0) hb); have n1_ := Aside0.mk (Kd.R_elder' (by (with_reducible repeat (first | apply Kd.R_alloc | apply Kd.R_drewN | apply Kd.R_drew)); exact HO_7.out) (Kd.R_base ho0) hb); have n2_ := Aside0.mk (Kd.R_elder' (by (with_reducible repeat (first | apply Kd.R_alloc | apply Kd.R_drewN | apply Kd.R_drew)); exact HO_288001.out) (Kd.R_base ho0) hb); have n3_ := Aside0.mk (Kd.R_elder' (by (with_reducible repeat (first | apply Kd.R_alloc | apply Kd.R_drewN | apply Kd.R_drew)); exact HO307.out) (Kd.R_base ho0) hb); have n4_ := Aside0.mk (Kd.R_lower (Kd.R_new' (Kd.R_new' (Kd.R_new' (Kd.R_new' ho0 (Kd.R_lt (by (with_reducible repeat (first | apply Kd.R_alloc | apply Kd.R_drewN | apply Kd.R_drew)); exact HO_4.out))) (Kd.R_lt (by (with_reducible repeat (first | apply Kd.R_alloc | apply Kd.R_drewN | apply Kd.R_drew)); exact HO_7.out))) (Kd.R_lt (by (with_reducible repeat (first | apply Kd.R_alloc | apply Kd.R_drewN | apply Kd.R_drew)); exact HO_288001.out))) (Kd.R_lt (by (with_reducible repeat (first | apply Kd.R_alloc | apply Kd.R_drewN | apply Kd.R_drew)); exact HO307.out))) (below_size (by repeat (first | (with_reducible first | exact HB.out | apply below_alloc | apply pw_below_drewN | apply below_drew1 | refine below_set ?_ GE273.out | refine below_set ?_ GE287.out) | exact HB.out)))); have n5_ := Aside0.mk (blk_below (g := gb273) (o := .cells #[.int .i64 a0_0, .slice A0_1 l0_1.length c0_1] 24 (0, 0)) (by (with_reducible repeat (first | refine blk_drewN ?_ _ | refine blk_drew ?_ | refine blk_alloc ?_ _)); exact BK273.out) hb); have n6_ := Aside0.mk (blk_below (g := gb287) (o := .cells #[.int .i64 t283, .slice Ao24 t299.length co24] 28 (0, 0)) (by (with_reducible repeat (first | refine blk_drewN ?_ _ | refine blk_drew ?_ | refine blk_alloc ?_ _)); exact BK287.out) hb); have n7_ := Aside0.mk (below_step (by repeat (first | (with_reducible first | exact HB.out | apply below_alloc | apply pw_below_drewN | apply below_drew1 | refine below_set ?_ GE273.out | refine below_set ?_ GE287.out) | exact HB.out)) hb); clear HO_4; clear HO_7; clear HO_288001; clear HO307; clear BK273; clear BK287; clear HB; have HO_4 := n0_; have HO_7 := n1_; have HO_288001 := n2_; have HO307 := n3_; have HO310 := n4_; have BK273 := n5_; have BK287 := n6_; have HB := n7_; clear n0_ n1_ n2_ n3_ n4_ n5_ n6_ n7_; (try clear hb); (try clear hb2); (try clear hk); (try clear hi); (try clear ho0)))
           (try simp only [Act.put, List.setIfInBounds_toArray, List.set_cons_zero, List.set_cons_succ])
           go_cut [87] (fun v87 wc => ∃ (kq : Nat) (x87_60 : Bool), v87 = .bool x87_60 ∧ Aside0 (laws_FnExactDeadCells.j2 kq t302 t301 x87_60 = some true) ∧ Aside0 (kq ≤ kj36) ∧ Aside0 (Kd.R (Kd.int .i64) 2 wc w.heap.size (fun k_ => some k_ ≠ ((.slice Ao24 t299.length co24) : Value).ownBlock) (.slice Ao62 t288.length co62) t302) ∧ Aside0 (Kd.R (Kd.int .i64) 2 wc w.heap.size (fun k_ => some k_ ≠ ((.slice Ao62 t288.length co62) : Value).ownBlock) (.slice Ao24 t299.length co24) t299) ∧ Aside0 (wc.heap[gb273]? = some (.cells #[.int .i64 a0_0, (.slice A0_1 l0_1.length c0_1)] 24 (0, 0))) ∧ Aside0 (wc.heap[gb287]? = some (.cells #[.int .i64 t283, (.slice Ao24 t299.length co24)] 28 (0, 0))) ∧ Aside0 (Below w.heap.size w wc))
           case first =>
            have H := HC61.out
            clear HC61
            replace H := Option.bind_eq_some_iff.mp H
            obtain ⟨t312, A690, H⟩ := H
            replace H : (if t312 = true then (laws_FnExactDeadCells.j2 kj36 t302 t301 (t311 != t282)) else (laws_FnExactDeadCells.j2 kj36 t302 t301 true)) = some true := H
            have A69 := Aside0.mk A690
            clear A690
            by_cases c70 : t312 = true
            ·subst c70
             have H1 : (laws_FnExactDeadCells.j2 kj36 t302 t301 (t311 != t282)) = some true := by rw [if_pos rfl] at H; exact H
             clear H
             have H := H1
             clear H1
             have H' := Aside0.mk H
             clear H
             obtain ⟨Ao71, co71, eo71⟩ := Kd.R_slice HO310.out
             subst eo71
             obtain ⟨Ao72, co72, eo72⟩ := Kd.R_slice HO_4.out
             subst eo72
             go_wp2_with (first | ((with_reducible refine gate_callee (f := 11) rfl ?_); refine goesA_ (some 81) rfl rfl Try.func11 (by kernel_rfl) rfl #[.slice Ao71 t308.length co71, .slice Ao72 t279.length co72] rfl ?_; (with_reducible refine (laws_eqInt64S.calls kj36 _ _ t308 _ _ t279 true _ ?side1 ?side2 ?side3 ?side4 A69.out).mono ?_); (case side1 => repeat (first | exact (Kd.R_reads' HO310.out).2.2 | (with_reducible refine Kd.C_alloc ?_ _) | (with_reducible refine Kd.C_drewN ?_ _) | (with_reducible refine Kd.C_drew ?_))); (case side2 => exact (Kd.R_reads' HO310.out).2.1); (case side3 => repeat (first | exact (Kd.R_reads' HO_4.out).2.2 | (with_reducible refine Kd.C_alloc ?_ _) | (with_reducible refine Kd.C_drewN ?_ _) | (with_reducible refine Kd.C_drew ?_))); (case side4 => exact (Kd.R_reads' HO_4.out).2.1); rintro e w' ⟨rfl, ⟨nd, rfl⟩⟩; refine ⟨_, rfl, ?_⟩))
             go_meet
             case rel => exact ⟨_, ((t311 != t282)), (by first | rfl | (simp; done) | (simp [*]; done)), H', ⟨by have := HJ10.out; have := HJ36.out; first | omega | exact Nat.le_refl _⟩, ⟨by (try simp only [hl288001_36]); (with_reducible repeat (first | apply Kd.R_alloc | apply Kd.R_drewN | apply Kd.R_drew)); exact Kd.R_mono HO_7.out (fun _ hk => hk.1.1.2)⟩, ⟨by (try simp only [hl288001_36]); (with_reducible repeat (first | apply Kd.R_alloc | apply Kd.R_drewN | apply Kd.R_drew)); exact Kd.R_mono HO_288001.out (fun _ hk => hk.1.1.2)⟩, ⟨by (try simp only [hl288001_36]); (with_reducible repeat (first | refine blk_drewN ?_ _ | refine blk_drew ?_ | refine blk_alloc ?_ _)); exact BK273.out⟩, ⟨by (try simp only [hl288001_36]); (with_reducible repeat (first | refine blk_drewN ?_ _ | refine blk_drew ?_ | refine blk_alloc ?_ _)); exact BK287.out⟩, ⟨by repeat (first | (with_reducible first | exact HB.out | apply below_alloc | apply pw_below_drewN | apply below_drew1 | refine below_set ?_ GE273.out | refine below_set ?_ GE287.out) | exact HB.out)⟩⟩
            ·replace c70 := Bool.eq_false_iff.mpr c70
             subst c70
             have H1 : (laws_FnExactDeadCells.j2 kj36 t302 t301 true) = some true := by rw [if_neg (show ¬ (false = true) by decide)] at H; exact H
             clear H
             have H := H1
             clear H1
             have H' := Aside0.mk H
             clear H
             obtain ⟨Ao73, co73, eo73⟩ := Kd.R_slice HO310.out
             subst eo73
             obtain ⟨Ao74, co74, eo74⟩ := Kd.R_slice HO_4.out
             subst eo74
             go_wp2_with (first | ((with_reducible refine gate_callee (f := 11) rfl ?_); refine goesA_ (some 81) rfl rfl Try.func11 (by kernel_rfl) rfl #[.slice Ao73 t308.length co73, .slice Ao74 t279.length co74] rfl ?_; (with_reducible refine (laws_eqInt64S.calls kj36 _ _ t308 _ _ t279 false _ ?side1 ?side2 ?side3 ?side4 A69.out).mono ?_); (case side1 => repeat (first | exact (Kd.R_reads' HO310.out).2.2 | (with_reducible refine Kd.C_alloc ?_ _) | (with_reducible refine Kd.C_drewN ?_ _) | (with_reducible refine Kd.C_drew ?_))); (case side2 => exact (Kd.R_reads' HO310.out).2.1); (case side3 => repeat (first | exact (Kd.R_reads' HO_4.out).2.2 | (with_reducible refine Kd.C_alloc ?_ _) | (with_reducible refine Kd.C_drewN ?_ _) | (with_reducible refine Kd.C_drew ?_))); (case side4 => exact (Kd.R_reads' HO_4.out).2.1); rintro e w' ⟨rfl, ⟨nd, rfl⟩⟩; refine ⟨_, rfl, ?_⟩))
             go_meet
             case rel => exact ⟨_, (true), (by first | rfl | (simp; done) | (simp [*]; done)), H', ⟨by have := HJ10.out; have := HJ36.out; first | omega | exact Nat.le_refl _⟩, ⟨by (try simp only [hl288001_36]); (with_reducible repeat (first | apply Kd.R_alloc | apply Kd.R_drewN | apply Kd.R_drew)); exact Kd.R_mono HO_7.out (fun _ hk => hk.1.1.2)⟩, ⟨by (try simp only [hl288001_36]); (with_reducible repeat (first | apply Kd.R_alloc | apply Kd.R_drewN | apply Kd.R_drew)); exact Kd.R_mono HO_288001.out (fun _ hk => hk.1.1.2)⟩, ⟨by (try simp only [hl288001_36]); (with_reducible repeat (first | refine blk_drewN ?_ _ | refine blk_drew ?_ | refine blk_alloc ?_ _)); exact BK273.out⟩, ⟨by (try simp only [hl288001_36]); (with_reducible repeat (first | refine blk_drewN ?_ _ | refine blk_drew ?_ | refine blk_alloc ?_ _)); exact BK287.out⟩, ⟨by repeat (first | (with_reducible first | exact HB.out | apply below_alloc | apply pw_below_drewN | apply below_drew1 | refine below_set ?_ GE273.out | refine below_set ?_ GE287.out) | exact HB.out)⟩⟩
           case rest =>
            clear HC61
            (try clear c1); (try clear c2); (try clear p2); (try clear c3); (try clear c3b0); (try clear c4); (try clear c5); (try clear c6); (try clear c7); (try clear c8); (try clear c9); (try clear c10); (try clear c11); (try clear c12); (try clear c13); (try clear c14); (try clear c15); (try clear c22); (try clear c27); (try clear c32); (try clear c35); (try clear c42); (try clear c45); (try clear c45b0); (try clear c47); (try clear c52); (try clear c55); (try clear c55b0); (try clear c58); (try clear c58b0); (try clear c58b1); (try clear c64); (try clear c70); (try clear hcz13_0); (try clear hcz13_1); (try clear hcz15_0); (try clear hcz15_1); (try clear hcz19_0); (try clear hcz19_1); (try clear hcz23_0); (try clear hcz23_1); (try clear hcz43_0); (try clear hcz43_1); (try clear hcz5_0); (try clear hcz5_1); (try clear hcz65_0); (try clear hcz65_1); (try clear hfz13_0); (try clear hfz13_1); (try clear hfz15_0); (try clear hfz15_1); (try clear hfz19_0); (try clear hfz19_1); (try clear hfz23_0); (try clear hfz23_1); (try clear hfz43_0); (try clear hfz43_1); (try clear hfz5_0); (try clear hfz5_1); (try clear hfz65_0); (try clear hfz65_1); (try clear p2)
            obtain ⟨kq, x87_60, rfl, HA, HJ60, HO_7, HO_288001, BK273, BK287, HB⟩ := hcut
            have hl7_60 := (Kd.R_reads' HO_7.out).1
            rw [hl7_60] at HO_7
            (try simp only [hl7_60])
            (try simp only [hl7_60] at BK273)
            (try simp only [hl7_60] at BK287)
            (try simp only [hl7_60] at HO_288001)
            cases kq with
            | zero => exact absurd HA.out (by simp [laws_FnExactDeadCells.j2])
            | succ kj60 =>
             have H := HA.out
             clear HA
             simp only [laws_FnExactDeadCells.j2] at H
             by_cases c75 : x87_60 = true
             ·subst c75
              have H1 : (some false) = some true := by rw [if_pos rfl] at H; exact H
              clear H
              have H := H1
              clear H1
              exact absurd H (by simp)
             ·replace c75 := Bool.eq_false_iff.mpr c75
              subst c75
              have H1 : ((laws_heldInt64S.f kj60 t302 1).bind fun t313 => (if t313 < 0 then (some false) else (if t313 = t301 then (some true) else (some false)))) = some true := by rw [if_neg (show ¬ (false = true) by decide)] at H; exact H
              clear H
              have H := H1
              clear H1
              replace H := Option.bind_eq_some_iff.mp H
              obtain ⟨t313, A760, H⟩ := H
              replace H : (if t313 < 0 then (some false) else (if t313 = t301 then (some true) else (some false))) = some true := H
              have A76 := Aside0.mk A760
              clear A760
              by_cases c77 : t313 < 0
              ·rw [if_pos c77] at H
               have c77b0 : decide (t313 < 0) = true := decide_eq_true c77
               clear c77
               exact absurd H (by simp)
              ·rw [if_neg c77] at H
               have c77b0 : decide (t313 < 0) = false := decide_eq_false c77
               clear c77
               by_cases c78 : t313 = t301
               ·rw [if_pos c78] at H
                have c78b0 : (t313 == t301) = true := beq_iff_eq.mpr c78
                have c78b1 : (t313 != t301) = false := bne_eq_false_iff_eq.mpr c78
                clear c78
                clear H
                go_wp2_with (first | ((with_reducible refine gate_callee (f := 15) rfl ?_); refine goesA_ (some 90) rfl rfl Try.func15 (by kernel_rfl) rfl #[.slice Ao62 t302.length co62, .int .i64 1] rfl ?_; (with_reducible refine (laws_heldInt64S.calls kj60 _ _ t302 1 t313 _ ?side1 ?side2 A76.out).mono ?_); (case side1 => repeat (first | exact (Kd.R_reads' HO_7.out).2.2 | (with_reducible refine Kd.C_alloc ?_ _) | (with_reducible refine Kd.C_drewN ?_ _) | (with_reducible refine Kd.C_drew ?_))); (case side2 => exact (Kd.R_reads' HO_7.out).2.1); rintro e w' ⟨rfl, ⟨nd, rfl⟩⟩; refine ⟨_, rfl, ?_⟩))
                go_ret
                exact ⟨by first | rfl | (simp [errW_none, errW_some] <;> rfl) | (simp [*, errW_none, errW_some] <;> rfl), by repeat (first | (with_reducible first | exact HB.out | apply below_alloc | apply pw_below_drewN | apply below_drew1 | refine below_set ?_ GE273.out | refine below_set ?_ GE287.out) | exact HB.out)⟩
               ·rw [if_neg c78] at H
                have c78b0 : (t313 == t301) = false := beq_eq_false_iff_ne.mpr c78
                have c78b1 : (t313 != t301) = true := bne_iff_ne.mpr c78
                exact absurd H (by simp)
          ·rw [if_neg c58] at H
           have c58b0 : (t303 == t301) = false := beq_eq_false_iff_ne.mpr c58
           have c58b1 : (t303 != t301) = true := bne_iff_ne.mpr c58
           exact absurd H (by simp)
     ·replace c35 := Bool.eq_false_iff.mpr c35
      subst c35
      have H1 : (some false) = some true := by rw [if_neg (show ¬ (false = true) by decide)] at H; exact H
      clear H
      have H := H1
      clear H1
      exact absurd H (by simp)
-- Bits of whole numbers that are not less than 0.
theorem bitv_nat (a : Nat) (ha : a < 9223372036854775808) : (BitVec.ofInt 64 (a : Int)).toNat = a := by
  rw [BitVec.ofInt_natCast, BitVec.toNat_ofNat]; exact Nat.mod_eq_of_lt (by omega)
theorem i64_nat (n : Nat) (h : n < 9223372036854775808) : IntKind.i64.wrap (n : Int) = (n : Int) := by
  rw [i64_w]; unfold wrap64; omega
theorem bits_and_nat (a b : Nat) (ha : a < 9223372036854775808) (hb : b < 9223372036854775808) : Go.bits .and .i64 (a : Int) (b : Int) = ((a &&& b : Nat) : Int) := by
  have hx : a &&& b < 2 ^ 63 := Nat.and_lt_two_pow _ (by omega)
  show IntKind.i64.wrap ((BitVec.ofInt 64 (a : Int) &&& BitVec.ofInt 64 (b : Int)).toNat : Int) = _
  rw [BitVec.toNat_and, bitv_nat a ha, bitv_nat b hb, i64_nat _ (by omega)]
theorem shl_nat (i : Nat) (h : i < 63) : shl .i64 1 (i : Int) = ((2 ^ i : Nat) : Int) := by
  unfold shl
  have h1 : min ((i : Int)).toNat IntKind.i64.bits = i := by rw [Int.toNat_natCast]; show min i 64 = i; omega
  rw [h1, Int.one_mul]
  have h2 : (2 : Nat) ^ i < 9223372036854775808 := by
    have : (2 : Nat) ^ i < 2 ^ 63 := Nat.pow_lt_pow_right (by omega) h
    omega
  have h3 : ((2 : Int) ^ i) = ((2 ^ i : Nat) : Int) := by simp
  rw [h3, i64_nat _ h2]
theorem shr_nat (m i : Nat) (h : i ≤ 64) : shr .i64 (m : Int) (i : Int) = ((m >>> i : Nat) : Int) := by
  unfold shr
  have h1 : min ((i : Int)).toNat IntKind.i64.bits = i := by rw [Int.toNat_natCast]; show min i 64 = i; omega
  rw [h1, Nat.shiftRight_eq_div_pow]
  simp
/-- One bit read. -/
theorem bit_nat (m i : Nat) (hm : m < 9223372036854775808) (h : i ≤ 64) : Go.bits .and .i64 (shr .i64 (m : Int) (i : Int)) 1 = if m.testBit i = true then 1 else 0 := by
  rw [shr_nat m i h]
  have hs : m >>> i ≤ m := Nat.shiftRight_le m i
  have := bits_and_nat (m >>> i) 1 (by omega) (by omega)
  rw [show ((1 : Int)) = ((1 : Nat) : Int) from rfl, this]
  unfold Nat.testBit
  rw [Nat.and_comm 1]
  rw [Nat.and_one_is_mod]
  rcases Nat.mod_two_eq_zero_or_one (m >>> i) with e | e <;> rw [e] <;> simp
theorem u64_nat (i : Nat) (h : i < 9223372036854775808) : IntKind.u64.wrap (i : Int) = (i : Int) := by
  show (i : Int) % 18446744073709551616 = i
  omega
-- The theorem of Hex: of two colours on a full board just one joins its sides (by the reduction of triangles).
/-- A cell (a, b) is in the small triangle whose top is (r, c). -/
def InT (a b r c : Nat) : Prop := (a = r ∧ b = c) ∨ (a = r + 1 ∧ b = c) ∨ (a = r + 1 ∧ b = c + 1)
/-- Two cells are in one small triangle of a triangle of side n. -/
def EdgeT (n a b a' b' : Nat) : Prop := ∃ r c, c ≤ r ∧ r + 1 < n ∧ InT a b r c ∧ InT a' b' r c
inductive ConT (n : Nat) (f : Nat → Nat → Bool) (k : Bool) (a b : Nat) : Nat → Nat → Prop
  | refl : b ≤ a → a < n → f a b = k → ConT n f k a b a b
  | step {a' b' a'' b'' : Nat} : ConT n f k a b a' b' → EdgeT n a' b' a'' b'' → f a'' b'' = k → ConT n f k a b a'' b''
theorem EdgeT.symm {n a b a' b' : Nat} : EdgeT n a b a' b' → EdgeT n a' b' a b := fun ⟨r, c, h1, h2, h3, h4⟩ => ⟨r, c, h1, h2, h4, h3⟩
theorem EdgeT.bound {n a b a' b' : Nat} : EdgeT n a b a' b' → b' ≤ a' ∧ a' < n := fun ⟨r, c, h1, h2, h3, h4⟩ => by unfold InT at h4; omega
theorem ConT.last {n : Nat} {f : Nat → Nat → Bool} {k : Bool} {a b a' b' : Nat} : ConT n f k a b a' b' → b' ≤ a' ∧ a' < n ∧ f a' b' = k
  | .refl h1 h2 h3 => ⟨h1, h2, h3⟩
  | .step _ he hf => ⟨he.bound.1, he.bound.2, hf⟩
theorem ConT.first {n : Nat} {f : Nat → Nat → Bool} {k : Bool} {a b a' b' : Nat} (h : ConT n f k a b a' b') : b ≤ a ∧ a < n ∧ f a b = k := by
  induction h with
  | refl h1 h2 h3 => exact ⟨h1, h2, h3⟩
  | step _ _ _ ih => exact ih
theorem ConT.trans {n : Nat} {f : Nat → Nat → Bool} {k : Bool} {a b a' b' a'' b'' : Nat} (h : ConT n f k a b a' b') (h' : ConT n f k a' b' a'' b'') : ConT n f k a b a'' b'' := by
  induction h' with
  | refl _ _ _ => exact h
  | step _ he hf ih => exact .step ih he hf
theorem ConT.symm {n : Nat} {f : Nat → Nat → Bool} {k : Bool} {a b a' b' : Nat} (h : ConT n f k a b a' b') : ConT n f k a' b' a b := by
  induction h with
  | refl h1 h2 h3 => exact .refl h1 h2 h3
  | step hc he hf ih =>
    have hl := hc.last
    exact ConT.trans (.step (.refl he.bound.1 he.bound.2 hf) he.symm hl.2.2) ih
/-- The majority of a small triangle. -/
def redT (f : Nat → Nat → Bool) (r c : Nat) : Bool := (f r c && f (r + 1) c) || (f r c && f (r + 1) (c + 1)) || (f (r + 1) c && f (r + 1) (c + 1))
def HasY (n : Nat) (f : Nat → Nat → Bool) (k : Bool) : Prop := ∃ a1 a2 b2 a3 b3, ConT n f k a1 0 a2 b2 ∧ a2 = b2 ∧ ConT n f k a1 0 a3 b3 ∧ a3 + 1 = n
theorem red_two {f : Nat → Nat → Bool} {k : Bool} {a b a' b' r c : Nat} (h1 : InT a b r c) (h2 : InT a' b' r c) (hne : ¬ (a = a' ∧ b = b')) (f1 : f a b = k) (f2 : f a' b' = k) : redT f r c = k := by
  unfold InT at h1 h2
  unfold redT
  rcases h1 with ⟨rfl, rfl⟩ | ⟨rfl, rfl⟩ | ⟨rfl, rfl⟩ <;> rcases h2 with ⟨rfl, rfl⟩ | ⟨rfl, rfl⟩ | ⟨rfl, rfl⟩ <;> first | (exact absurd ⟨rfl, rfl⟩ hne) | (rw [f1, f2]; cases k <;> simp)
theorem edge_share {n a b r c r' c' : Nat} (h1 : InT a b r c) (h2 : InT a b r' c') (g1 : c ≤ r) (g2 : c' ≤ r') (g3 : r < n) (g4 : r' < n) : (r = r' ∧ c = c') ∨ EdgeT n r c r' c' := by
  unfold InT at h1 h2
  by_cases he : r = r' ∧ c = c'
  · exact .inl he
  refine .inr ?_
  by_cases hr : r = r'
  · by_cases hc : c < c'
    · exact ⟨r - 1, c, by omega, by omega, by unfold InT; omega, by unfold InT; omega⟩
    · exact ⟨r - 1, c', by omega, by omega, by unfold InT; omega, by unfold InT; omega⟩
  · by_cases hlt : r < r'
    · exact ⟨r, c, by omega, by omega, by unfold InT; omega, by unfold InT; omega⟩
    · exact ⟨r', c', by omega, by omega, by unfold InT; omega, by unfold InT; omega⟩
theorem proj_con {n : Nat} {f : Nat → Nat → Bool} {k : Bool} {a b a' b' : Nat} (h : ConT (n + 1) f k a b a' b') : ∀ r c r' c', InT a b r c → c ≤ r → r < n → redT f r c = k → InT a' b' r' c' → c' ≤ r' → r' < n → redT f r' c' = k → ConT n (redT f) k r c r' c' := by
  induction h with
  | refl _ _ _ =>
    intro r c r' c' h1 g1 g2 e1 h2 g3 g4 e2
    rcases edge_share (n := n) h1 h2 g1 g3 g2 g4 with ⟨rfl, rfl⟩ | he
    · exact .refl g1 g2 e1
    · exact .step (.refl g1 g2 e1) he e2
  | @step a1 b1 a2 b2 hc he hf ih =>
    intro r c r' c' h1 g1 g2 e1 h2 g3 g4 e2
    by_cases hq : a1 = a2 ∧ b1 = b2
    · obtain ⟨rfl, rfl⟩ := hq
      exact ih r c r' c' h1 g1 g2 e1 h2 g3 g4 e2
    · obtain ⟨rs, cs, k1, k2, k3, k4⟩ := he
      have e3 := red_two k3 k4 hq hc.last.2.2 hf
      have := ih r c rs cs h1 g1 g2 e1 k3 k1 (by omega) e3
      rcases edge_share (n := n) k4 h2 k1 g3 (by omega) g4 with ⟨rfl, rfl⟩ | he2
      · exact this
      · exact .step this he2 e2
theorem proj_some {n : Nat} {f : Nat → Nat → Bool} {k : Bool} {a b a' b' : Nat} (h : ConT (n + 1) f k a b a' b') : ¬ (a = a' ∧ b = b') → ∃ r c, InT a b r c ∧ c ≤ r ∧ r < n ∧ redT f r c = k := by
  induction h with
  | refl => exact fun h => absurd ⟨rfl, rfl⟩ h
  | @step a1 b1 a2 b2 hc he hf ih =>
    intro hne
    by_cases hq : a = a1 ∧ b = b1
    · obtain ⟨rfl, rfl⟩ := hq
      obtain ⟨rs, cs, k1, k2, k3, k4⟩ := he
      exact ⟨rs, cs, k3, k1, by omega, red_two k3 k4 hne hc.last.2.2 hf⟩
    · exact ih hq
theorem proj_Y {n : Nat} (hn : 1 ≤ n) {f : Nat → Nat → Bool} {k : Bool} : HasY (n + 1) f k → HasY n (redT f) k := by
  rintro ⟨a1, a2, b2, a3, b3, h12, h2, h13, h3⟩
  have h23 := h12.symm.trans h13
  have t1 : ∃ r c, InT a1 0 r c ∧ c ≤ r ∧ r < n ∧ redT f r c = k := by
    by_cases h : a1 = a2 ∧ 0 = b2
    · exact proj_some h13 (by omega)
    · exact proj_some h12 h
  have t2 : ∃ r c, InT a2 b2 r c ∧ c ≤ r ∧ r < n ∧ redT f r c = k := by
    by_cases h : a2 = a1 ∧ b2 = 0
    · exact proj_some h23 (by omega)
    · exact proj_some h12.symm h
  have t3 : ∃ r c, InT a3 b3 r c ∧ c ≤ r ∧ r < n ∧ redT f r c = k := by
    by_cases h : a3 = a1 ∧ b3 = 0
    · exact proj_some h23.symm (by omega)
    · exact proj_some h13.symm h
  obtain ⟨r1, c1, i1, q1, l1, e1⟩ := t1
  obtain ⟨r2, c2, i2, q2, l2, e2⟩ := t2
  obtain ⟨r3, c3, i3, q3, l3, e3⟩ := t3
  have hc1 : c1 = 0 := by unfold InT at i1; omega
  subst hc1
  exact ⟨r1, r2, c2, r3, c3, proj_con h12 _ _ _ _ i1 q1 l1 e1 i2 q2 l2 e2, by unfold InT at i2; omega, proj_con h13 _ _ _ _ i1 q1 l1 e1 i3 q3 l3 e3, by unfold InT at i3; omega⟩
theorem red_cases {f : Nat → Nat → Bool} {k : Bool} {r c : Nat} (h : redT f r c = k) : (f r c = k ∧ f (r + 1) c = k) ∨ (f r c = k ∧ f (r + 1) (c + 1) = k) ∨ (f (r + 1) c = k ∧ f (r + 1) (c + 1) = k) := by
  unfold redT at h
  revert h
  generalize f r c = x
  generalize f (r + 1) c = y
  generalize f (r + 1) (c + 1) = z
  revert x y z k
  decide
theorem link_lt {n : Nat} {f : Nat → Nat → Bool} {k : Bool} {r c r' c' : Nat} (hs : (r' = r + 1 ∧ c' = c) ∨ (r' = r + 1 ∧ c' = c + 1) ∨ (r' = r ∧ c' = c + 1 ∧ 1 ≤ r)) (g1 : c ≤ r) (g2 : c' ≤ r') (g3 : r < n) (g4 : r' < n) (e1 : redT f r c = k) (e2 : redT f r' c' = k) : ∃ p q p' q', InT p q r c ∧ f p q = k ∧ InT p' q' r' c' ∧ f p' q' = k ∧ EdgeT (n + 1) p q p' q' := by
  have d1 := red_cases e1
  have d2 := red_cases e2
  rcases hs with ⟨rfl, rfl⟩ | ⟨rfl, rfl⟩ | ⟨rfl, rfl, h1⟩
  · by_cases hk : f (r + 1) c' = k
    · exact ⟨r + 1, c', r + 1, c', by unfold InT; omega, hk, by unfold InT; omega, hk, r, c', g1, by omega, by unfold InT; omega, by unfold InT; omega⟩
    · simp only [hk, and_false, false_and, or_false, false_or] at d1 d2
      exact ⟨r + 1, c' + 1, r + 1 + 1, c' + 1, by unfold InT; omega, d1.2, by unfold InT; omega, d2.2, r + 1, c' + 1, by omega, by omega, by unfold InT; omega, by unfold InT; omega⟩
  · by_cases hk : f (r + 1) (c + 1) = k
    · exact ⟨r + 1, c + 1, r + 1, c + 1, by unfold InT; omega, hk, by unfold InT; omega, hk, r, c, g1, by omega, by unfold InT; omega, by unfold InT; omega⟩
    · simp only [hk, and_false, false_and, or_false, false_or] at d1 d2
      exact ⟨r + 1, c, r + 1 + 1, c + 1, by unfold InT; omega, d1.2, by unfold InT; omega, d2.1, r + 1, c, by omega, by omega, by unfold InT; omega, by unfold InT; omega⟩
  · by_cases hk : f (r' + 1) (c + 1) = k
    · exact ⟨r' + 1, c + 1, r' + 1, c + 1, by unfold InT; omega, hk, by unfold InT; omega, hk, r', c, g1, by omega, by unfold InT; omega, by unfold InT; omega⟩
    · simp only [hk, and_false, false_and, or_false, false_or] at d1 d2
      exact ⟨r', c, r', c + 1, by unfold InT; omega, d1.1, by unfold InT; omega, d2.1, r' - 1, c, by omega, by omega, by unfold InT; omega, by unfold InT; omega⟩
theorem red_some {f : Nat → Nat → Bool} {k : Bool} {r c : Nat} (h : redT f r c = k) : ∃ p q, InT p q r c ∧ f p q = k := by
  rcases red_cases h with ⟨h, _⟩ | ⟨h, _⟩ | ⟨h, _⟩
  · exact ⟨r, c, by unfold InT; omega, h⟩
  · exact ⟨r, c, by unfold InT; omega, h⟩
  · exact ⟨r + 1, c, by unfold InT; omega, h⟩
theorem link {n : Nat} {f : Nat → Nat → Bool} {k : Bool} {r c r' c' : Nat} (he : EdgeT n r c r' c') (e1 : redT f r c = k) (e2 : redT f r' c' = k) : ∃ p q p' q', InT p q r c ∧ f p q = k ∧ InT p' q' r' c' ∧ f p' q' = k ∧ EdgeT (n + 1) p q p' q' := by
  have b2 := he.bound
  have b1 := he.symm.bound
  obtain ⟨s, t, k1, k2, k3, k4⟩ := he
  by_cases hq : r = r' ∧ c = c'
  · obtain ⟨rfl, rfl⟩ := hq
    obtain ⟨p, q, hi, hf⟩ := red_some e1
    exact ⟨p, q, p, q, hi, hf, hi, hf, r, c, by omega, by omega, hi, hi⟩
  · by_cases hlt : (r' = r + 1 ∧ c' = c) ∨ (r' = r + 1 ∧ c' = c + 1) ∨ (r' = r ∧ c' = c + 1 ∧ 1 ≤ r)
    · exact link_lt hlt b1.1 b2.1 b1.2 b2.2 e1 e2
    · obtain ⟨p, q, p', q', h1, h2, h3, h4, h5⟩ := link_lt (n := n) (r := r') (c := c') (r' := r) (c' := c) (by unfold InT at k3 k4; omega) b2.1 b1.1 b2.2 b1.2 e2 e1
      exact ⟨p', q', p, q, h3, h4, h1, h2, h5.symm⟩
theorem lift_con {n : Nat} {f : Nat → Nat → Bool} {k : Bool} {r c r' c' : Nat} (h : ConT n (redT f) k r c r' c') : ∀ a b a' b', InT a b r c → f a b = k → InT a' b' r' c' → f a' b' = k → ConT (n + 1) f k a b a' b' := by
  induction h with
  | refl g1 g2 e1 =>
    intro a b a' b' i1 f1 i2 f2
    exact .step (.refl (by unfold InT at i1; omega) (by unfold InT at i1; omega) f1) ⟨r, c, g1, by omega, i1, i2⟩ f2
  | @step r1 c1 r2 c2 hc he hf ih =>
    intro a b a' b' i1 f1 i2 f2
    obtain ⟨p, q, p', q', j1, j2, j3, j4, j5⟩ := link he hc.last.2.2 hf
    have hb := he.bound
    exact .step (.step (ih a b p q i1 f1 j1 j2) j5 j4) ⟨r2, c2, hb.1, by omega, j3, i2⟩ f2
theorem lift_Y {n : Nat} {f : Nat → Nat → Bool} {k : Bool} : HasY n (redT f) k → HasY (n + 1) f k := by
  rintro ⟨r1, r2, c2, r3, c3, h12, h2, h13, h3⟩
  subst h2
  have d1 := red_cases h12.first.2.2
  have d2 := red_cases h12.last.2.2
  have d3 := red_cases h13.last.2.2
  have t1 : ∃ a, InT a 0 r1 0 ∧ f a 0 = k := by
    by_cases h : f r1 0 = k
    · exact ⟨r1, by unfold InT; omega, h⟩
    · simp only [h, and_false, false_and, or_false, false_or] at d1
      exact ⟨r1 + 1, by unfold InT; omega, d1.1⟩
  have t2 : ∃ a, InT a a r2 r2 ∧ f a a = k := by
    by_cases h : f r2 r2 = k
    · exact ⟨r2, by unfold InT; omega, h⟩
    · simp only [h, and_false, false_and, or_false, false_or] at d2
      exact ⟨r2 + 1, by unfold InT; omega, d2.2⟩
  have t3 : ∃ b, InT (r3 + 1) b r3 c3 ∧ f (r3 + 1) b = k := by
    by_cases h : f (r3 + 1) c3 = k
    · exact ⟨c3, by unfold InT; omega, h⟩
    · simp only [h, and_false, false_and, or_false, false_or] at d3
      exact ⟨c3 + 1, by unfold InT; omega, d3.2⟩
  obtain ⟨a1, i1, f1⟩ := t1
  obtain ⟨a2, i2, f2⟩ := t2
  obtain ⟨b3, i3, f3⟩ := t3
  exact ⟨a1, a2, a2, r3 + 1, b3, lift_con h12 _ _ _ _ i1 f1 i2 f2, rfl, lift_con h13 _ _ _ _ i1 f1 i3 f3, by omega⟩
/-- Just one colour has a Y. -/
theorem one_Y : ∀ (n : Nat), 1 ≤ n → ∀ (f : Nat → Nat → Bool), ∃ k, HasY n f k ∧ ¬ HasY n f (!k)
  | 0, h, _ => by omega
  | 1, _, f => by
    refine ⟨f 0 0, ⟨0, 0, 0, 0, 0, .refl (Nat.le_refl _) (by omega) rfl, rfl, .refl (Nat.le_refl _) (by omega) rfl, rfl⟩, ?_⟩
    rintro ⟨a1, a2, b2, a3, b3, h12, _, _, _⟩
    have h := h12.first
    have : a1 = 0 := by omega
    subst this
    exact absurd h.2.2 (by cases f 0 0 <;> decide)
  | n + 2, _, f => by
    obtain ⟨k, h1, h2⟩ := one_Y (n + 1) (by omega) (redT f)
    exact ⟨k, lift_Y h1, fun h => h2 (proj_Y (by omega) h)⟩
-- The board of Hex in a triangle: just one player joins on a full board. ConT HasY one_Y EdgeT InT
def HAdj (r c r' c' : Nat) : Prop := (r' = r + 1 ∧ c' = c) ∨ (r = r' + 1 ∧ c' = c) ∨ (r' = r ∧ c' = c + 1) ∨ (r' = r ∧ c = c' + 1) ∨ (r = r' + 1 ∧ c' = c + 1) ∨ (r' = r + 1 ∧ c = c' + 1)
inductive HCon (n : Nat) (g : Nat → Nat → Bool) (k : Bool) (a b : Nat) : Nat → Nat → Prop
  | refl : a < n → b < n → g a b = k → HCon n g k a b a b
  | step {a' b' a'' b'' : Nat} : HCon n g k a b a' b' → HAdj a' b' a'' b'' → a'' < n → b'' < n → g a'' b'' = k → HCon n g k a b a'' b''
/-- The first player (true) joins row 0 and row n - 1, the second one (false) column 0 and column n - 1. -/
def HJoin (n : Nat) (g : Nat → Nat → Bool) : Bool → Prop
  | true => ∃ c r c', HCon n g true 0 c r c' ∧ r + 1 = n
  | false => ∃ r r' c', HCon n g false r 0 r' c' ∧ c' + 1 = n
theorem HCon.last {n : Nat} {g : Nat → Nat → Bool} {k : Bool} {a b a' b' : Nat} : HCon n g k a b a' b' → a' < n ∧ b' < n ∧ g a' b' = k
  | .refl h1 h2 h3 => ⟨h1, h2, h3⟩
  | .step _ _ h1 h2 h3 => ⟨h1, h2, h3⟩
def colY (n : Nat) (g : Nat → Nat → Bool) (R C : Nat) : Bool := if n ≤ C then false else if n ≤ R - C then true else g (R - C) C
theorem colY_in {n : Nat} {g : Nat → Nat → Bool} {a b : Nat} (ha : a < n) (hb : b < n) : colY n g (a + b) b = g a b := by
  unfold colY
  rw [if_neg (by omega), if_neg (by omega), Nat.add_sub_cancel]
theorem into_Y {n : Nat} {g : Nat → Nat → Bool} {k : Bool} {a b a' b' : Nat} (h : HCon n g k a b a' b') : ConT (2 * n - 1) (colY n g) k (a + b) b (a' + b') b' := by
  induction h with
  | refl h1 h2 h3 => exact .refl (by omega) (by omega) (by rw [colY_in h1 h2, h3])
  | @step a1 b1 a2 b2 hc he h1 h2 h3 ih =>
    have hl := hc.last
    refine .step ih ?_ (by rw [colY_in h1 h2, h3])
    unfold HAdj at he
    rcases he with ⟨rfl, rfl⟩ | ⟨rfl, rfl⟩ | ⟨rfl, rfl⟩ | ⟨rfl, rfl⟩ | ⟨rfl, rfl⟩ | ⟨rfl, rfl⟩
    · exact ⟨a1 + b2, b2, by omega, by omega, by unfold InT; omega, by unfold InT; omega⟩
    · exact ⟨a2 + b2, b2, by omega, by omega, by unfold InT; omega, by unfold InT; omega⟩
    · exact ⟨a2 + b1, b1, by omega, by omega, by unfold InT; omega, by unfold InT; omega⟩
    · exact ⟨a2 + b2, b2, by omega, by omega, by unfold InT; omega, by unfold InT; omega⟩
    · exact ⟨a2 + b1, b1, by omega, by omega, by unfold InT; omega, by unfold InT; omega⟩
    · exact ⟨a1 + b2, b2, by omega, by omega, by unfold InT; omega, by unfold InT; omega⟩
theorem go_down {N : Nat} {f : Nat → Nat → Bool} {k : Bool} {x y R C : Nat} (h : ConT N f k x y R C) : ∀ j, R + j < N → (∀ i, i ≤ j → f (R + i) C = k) → ConT N f k x y (R + j) C
  | 0, _, _ => h
  | j + 1, hj, hf => .step (go_down h j (by omega) (fun i hi => hf i (by omega))) ⟨R + j, C, by have := h.last; omega, by omega, by unfold InT; omega, by unfold InT; omega⟩ (hf (j + 1) (Nat.le_refl _))
theorem go_right {N : Nat} {f : Nat → Nat → Bool} {k : Bool} {x y R C : Nat} (h : ConT N f k x y R C) : ∀ j, C + j ≤ R → (∀ i, i ≤ j → f R (C + i) = k) → ConT N f k x y R (C + j)
  | 0, _, _ => h
  | j + 1, hj, hf => .step (go_right h j (by omega) (fun i hi => hf i (by omega))) ⟨R - 1, C + j, by omega, by have := h.last; omega, by unfold InT; omega, by unfold InT; omega⟩ (hf (j + 1) (Nat.le_refl _))
theorem go_left {N : Nat} {f : Nat → Nat → Bool} {k : Bool} {x y R C : Nat} (h : ConT N f k x y R C) : ∀ j, j ≤ C → (∀ i, i ≤ j → f R (C - i) = k) → ConT N f k x y R (C - j)
  | 0, _, _ => h
  | j + 1, hj, hf => .step (go_left h j (by omega) (fun i hi => hf i (by omega))) ⟨R - 1, C - (j + 1), by have := h.last; omega, by have := h.last; omega, by unfold InT; have := h.last; omega, by unfold InT; have := h.last; omega⟩ (hf (j + 1) (Nat.le_refl _))
theorem join_Y1 {n : Nat} (hn : 1 ≤ n) {g : Nat → Nat → Bool} (h : HJoin n g true) : HasY (2 * n - 1) (colY n g) true := by
  obtain ⟨c, r, c', h, hr⟩ := h
  have hy := into_Y h
  have hl := h.last
  have hb : ∀ R C, C < n → n ≤ R - C → colY n g R C = true := fun R C h1 h2 => by unfold colY; rw [if_neg (by omega), if_pos h2]
  have hc0 : colY n g (r + c') c' = true := by rw [colY_in hl.1 hl.2.1]; exact hl.2.2
  have e1 : ConT (2 * n - 1) (colY n g) true (0 + c) c (r + c') 0 := by
    have := go_left hy c' (Nat.le_refl _) (fun i hi => by
      by_cases h0 : i = 0
      · rw [h0, Nat.sub_zero]; exact hc0
      · exact hb _ _ (by omega) (by omega))
    rwa [Nat.sub_self] at this
  have e2 : ConT (2 * n - 1) (colY n g) true (0 + c) c (2 * n - 2) c' := by
    have := go_down hy (2 * n - 2 - (r + c')) (by omega) (fun i hi => by
      by_cases h0 : i = 0
      · rw [h0, Nat.add_zero]; exact hc0
      · exact hb _ _ (by omega) (by omega))
    rwa [show r + c' + (2 * n - 2 - (r + c')) = 2 * n - 2 by omega] at this
  exact ⟨r + c', 0 + c, c, 2 * n - 2, c', e1.symm, by omega, e1.symm.trans e2, by omega⟩
theorem join_Y2 {n : Nat} (hn : 1 ≤ n) {g : Nat → Nat → Bool} (h : HJoin n g false) : HasY (2 * n - 1) (colY n g) false := by
  obtain ⟨r, r', c', h, hc⟩ := h
  have hy := into_Y h
  have hl := h.last
  have hb : ∀ R C, n ≤ C → colY n g R C = false := fun R C h1 => by unfold colY; rw [if_pos h1]
  have hc0 : colY n g (r' + c') c' = false := by rw [colY_in hl.1 hl.2.1]; exact hl.2.2
  have e1 : ConT (2 * n - 1) (colY n g) false (r + 0) 0 (r' + c') (r' + c') := by
    have := go_right hy r' (by omega) (fun i hi => by
      by_cases h0 : i = 0
      · rw [h0, Nat.add_zero]; exact hc0
      · exact hb _ _ (by omega))
    rwa [Nat.add_comm c' r'] at this
  have e2 : ∃ q, ConT (2 * n - 1) (colY n g) false (r + 0) 0 (2 * n - 2) q := by
    by_cases hq : r' + 1 = n
    · exact ⟨c', by rwa [show r' + c' = 2 * n - 2 by omega] at hy⟩
    · have h1 : ConT (2 * n - 1) (colY n g) false (r + 0) 0 (r' + c' + 1) (c' + 1) := .step hy ⟨r' + c', c', by omega, by omega, by unfold InT; omega, by unfold InT; omega⟩ (hb _ _ (by omega))
      have := go_down h1 (2 * n - 2 - (r' + c' + 1)) (by omega) (fun i hi => hb _ _ (by omega))
      exact ⟨c' + 1, by rwa [show r' + c' + 1 + (2 * n - 2 - (r' + c' + 1)) = 2 * n - 2 by omega] at this⟩
  obtain ⟨q, e2⟩ := e2
  exact ⟨r + 0, r' + c', r' + c', 2 * n - 2, q, e1, rfl, e2, by omega⟩
theorem from_edge {n R C R' C' : Nat} (he : EdgeT (2 * n - 1) R C R' C') : (R' - C' = R - C ∧ C' = C) ∨ HAdj (R - C) C (R' - C') C' := by
  obtain ⟨s, t, h1, h2, h3, h4⟩ := he
  unfold InT at h3 h4
  unfold HAdj
  generalize hx : R - C = x
  generalize hy : R' - C' = y
  rcases h3 with h3 | h3 | h3 <;> rcases h4 with h4 | h4 | h4 <;> first | exact .inl ⟨by omega, by omega⟩ | exact .inr (.inl ⟨by omega, by omega⟩) | exact .inr (.inr (.inl ⟨by omega, by omega⟩)) | exact .inr (.inr (.inr (.inl ⟨by omega, by omega⟩))) | exact .inr (.inr (.inr (.inr (.inl ⟨by omega, by omega⟩)))) | exact .inr (.inr (.inr (.inr (.inr (.inl ⟨by omega, by omega⟩))))) | exact .inr (.inr (.inr (.inr (.inr (.inr (⟨by omega, by omega⟩))))))
theorem from_Y1 {n : Nat} {g : Nat → Nat → Bool} {c0 R C : Nat} (hc : c0 < n) (h : ConT (2 * n - 1) (colY n g) true c0 c0 R C) : (R - C < n ∧ C < n ∧ HCon n g true 0 c0 (R - C) C) ∨ HJoin n g true := by
  induction h with
  | refl h1 h2 h3 =>
    refine .inl ⟨by omega, hc, ?_⟩
    rw [Nat.sub_self]
    refine .refl (by omega) hc ?_
    have e := colY_in (g := g) (show 0 < n by omega) hc
    rw [Nat.zero_add] at e
    rw [← e]; exact h3
  | @step R1 C1 R2 C2 hcon he hf ih =>
    rcases ih with ⟨q1, q2, q3⟩ | ih
    · have hb := he.bound
      have h1 : C2 < n := by
        by_cases h : C2 < n
        · exact h
        · unfold colY at hf; rw [if_pos (by omega)] at hf; cases hf
      by_cases h2 : R2 - C2 < n
      · refine .inl ⟨h2, h1, ?_⟩
        have e := colY_in (g := g) h2 h1
        rw [show R2 - C2 + C2 = R2 by omega, hf] at e
        rcases from_edge he with ⟨e1, e2⟩ | ha
        · rw [e1, e2]; exact q3
        · exact .step q3 ha h2 h1 e.symm
      · refine .inr ⟨c0, R1 - C1, C1, q3, ?_⟩
        obtain ⟨s, t, k1, k2, k3, k4⟩ := he
        unfold InT at k3 k4
        omega
    · exact .inr ih
theorem from_Y2 {n : Nat} {g : Nat → Nat → Bool} {r0 R C : Nat} (hc : r0 < n) (h : ConT (2 * n - 1) (colY n g) false r0 0 R C) : (R - C < n ∧ C < n ∧ HCon n g false r0 0 (R - C) C) ∨ HJoin n g false := by
  induction h with
  | refl h1 h2 h3 =>
    refine .inl ⟨by omega, by omega, ?_⟩
    rw [Nat.sub_zero]
    refine .refl hc (by omega) ?_
    have e := colY_in (g := g) hc (show 0 < n by omega)
    rw [Nat.add_zero] at e
    rw [← e]; exact h3
  | @step R1 C1 R2 C2 hcon he hf ih =>
    rcases ih with ⟨q1, q2, q3⟩ | ih
    · have hb := he.bound
      by_cases h1 : C2 < n
      · have h2 : R2 - C2 < n := by
          by_cases h : R2 - C2 < n
          · exact h
          · unfold colY at hf; rw [if_neg (by omega), if_pos (by omega)] at hf; cases hf
        refine .inl ⟨h2, h1, ?_⟩
        have e := colY_in (g := g) h2 h1
        rw [show R2 - C2 + C2 = R2 by omega, hf] at e
        rcases from_edge he with ⟨e1, e2⟩ | ha
        · rw [e1, e2]; exact q3
        · exact .step q3 ha h2 h1 e.symm
      · refine .inr ⟨r0, R1 - C1, C1, q3, ?_⟩
        obtain ⟨s, t, k1, k2, k3, k4⟩ := he
        unfold InT at k3 k4
        omega
    · exact .inr ih
theorem Y_join {n : Nat} (hn : 1 ≤ n) {g : Nat → Nat → Bool} : ∀ k, HasY (2 * n - 1) (colY n g) k → HJoin n g k
  | true, ⟨a1, a2, b2, a3, b3, h12, h2, h13, h3⟩ => by
    subst h2
    have hl := h12.last
    have hlt : a2 < n := by
      by_cases h : a2 < n
      · exact h
      · have := hl.2.2; unfold colY at this; rw [if_pos (by omega)] at this; cases this
    rcases from_Y1 hlt (h12.symm.trans h13) with ⟨q1, q2, q3⟩ | h
    · exact ⟨a2, _, _, q3, by omega⟩
    · exact h
  | false, ⟨a1, a2, b2, a3, b3, h12, h2, h13, h3⟩ => by
    have hl := h12.first
    have hlt : a1 < n := by
      by_cases h : a1 < n
      · exact h
      · have := hl.2.2; unfold colY at this; rw [if_neg (by omega), if_pos (by omega)] at this; cases this
    rcases from_Y2 hlt h13 with ⟨q1, q2, q3⟩ | h
    · exact ⟨a1, _, _, q3, by have := h13.last; omega⟩
    · exact h
/-- On a full board just one player joins. -/
theorem one_joins {n : Nat} (hn : 1 ≤ n) (g : Nat → Nat → Bool) : ∃ k, HJoin n g k ∧ ¬ HJoin n g (!k) := by
  obtain ⟨k, h1, h2⟩ := one_Y (2 * n - 1) (by omega) (colY n g)
  refine ⟨k, Y_join hn k h1, fun h => h2 ?_⟩
  cases k with
  | true => exact join_Y2 hn h
  | false => exact join_Y1 hn h
-- How far a player's sides are, plain: what the program's rounds come to. costV_small farInit farStep farRound farLoop betterV costV openV lineV IsBest needBest needBest_is count_set getD_set_same getD_set_ne nearV farInit_len farStep_len farRound_len (for 77 82)
/-- A way from the first line to a cell, and the empty cells on it. -/
inductive Cst (s : Int) (l : List Int) (p : Int) : Nat → Int → Prop
  | start (x : Nat) : x < l.length → lineV s p (x : Int) = 0 → openV l p (x : Int) = true → Cst s l p x (costV l (x : Int))
  | step {x y : Nat} {c : Int} : Cst s l p x c → (y : Int) ∈ nearV s (x : Int) → y < l.length → openV l p (y : Int) = true → Cst s l p y (c + costV l (y : Int))
theorem cst_pos {s : Int} {l : List Int} {p : Int} {x : Nat} {c : Int} (h : Cst s l p x c) : 0 ≤ c ∧ x < l.length := by
  induction h with
  | start x h1 _ _ => exact ⟨(costV_small l _).1, h1⟩
  | @step x y c hc hn hy ho ih => exact ⟨by have := ih.1; have := (costV_small l (y : Int)).1; omega, hy⟩
def cntF (far : List (Option Int)) : Nat := (far.filter Option.isSome).length
def msrF : List (Option Int) → Nat
  | [] => 0
  | none :: r => 66 + msrF r
  | some c :: r => c.toNat + msrF r
theorem msr_set : ∀ (far : List (Option Int)) (i : Nat) (c : Int), i < far.length → (∀ m, far.getD i none = some m → 0 ≤ c ∧ c < m) → (far.getD i none = none → c ≤ 65) → msrF (far.set i (some c)) < msrF far
  | [], i, c, h, _, _ => by simp at h
  | a :: r, 0, c, _, h1, h2 => by
    cases a with
    | none =>
      have := h2 rfl
      simp only [List.set_cons_zero, msrF]
      omega
    | some m =>
      have := h1 m rfl
      simp only [List.set_cons_zero, msrF]
      omega
  | a :: r, i + 1, c, h, h1, h2 => by
    have e : (a :: r).getD (i + 1) none = r.getD i none := by simp [List.getD_eq_getElem?_getD]
    rw [e] at h1 h2
    have ih := msr_set r i c (by simpa using h) h1 h2
    cases a with
    | none => simp only [List.set_cons_succ, msrF]; omega
    | some m => simp only [List.set_cons_succ, msrF]; omega
/-- What is told of far cells is so, and the first line is told of. -/
def FarOk (s : Int) (l : List Int) (p : Int) (far : List (Option Int)) : Prop :=
  far.length = l.length ∧ (∀ (x : Nat) (c : Int), far.getD x none = some c → Cst s l p x c ∧ c ≤ (cntF far : Int)) ∧ ∀ x : Nat, x < l.length → lineV s p (x : Int) = 0 → openV l p (x : Int) = true → ∃ c, far.getD x none = some c ∧ c ≤ costV l (x : Int)
theorem cnt_pos {far : List (Option Int)} {x : Nat} {c : Int} (h : far.getD x none = some c) : 1 ≤ cntF far := by
  unfold cntF
  have hx : x < far.length := by
    by_cases hx : x < far.length
    · exact hx
    · rw [List.getD_eq_getElem?_getD, List.getElem?_eq_none (by omega)] at h; cases h
  rw [List.getD_eq_getElem?_getD, List.getElem?_eq_getElem hx] at h
  have hm : far[x] ∈ far.filter Option.isSome := List.mem_filter.2 ⟨List.getElem_mem hx, by rw [show far[x] = some c from h]; rfl⟩
  exact List.length_pos_of_mem hm
theorem far_start {s : Int} {l : List Int} {p : Int} : FarOk s l p (farInit s l p l.length) := by
  have hg : ∀ x : Nat, x < l.length → (farInit s l p l.length).getD x none = if ((lineV s p (x : Int) == 0) && openV l p (x : Int)) = true then some (costV l (x : Int)) else none := fun x hx => by
    rw [List.getD_eq_getElem?_getD, List.getElem?_eq_getElem (by rw [farInit_len]; exact hx)]
    simp [farInit, hx]
  refine ⟨farInit_len _ _ _ _, fun x c h => ?_, fun x hx h1 h2 => ⟨costV l (x : Int), ?_, Int.le_refl _⟩⟩
  · have hx : x < l.length := by
      by_cases hx : x < l.length
      · exact hx
      · rw [List.getD_eq_getElem?_getD, List.getElem?_eq_none (by rw [farInit_len]; omega)] at h; cases h
    have hc := cnt_pos h
    rw [hg x hx] at h
    by_cases hh : ((lineV s p (x : Int) == 0) && openV l p (x : Int)) = true
    · rw [if_pos hh] at h
      injection h with h
      subst h
      simp only [Bool.and_eq_true, beq_iff_eq] at hh
      have := costV_small l (x : Int)
      exact ⟨.start x hx hh.1 hh.2, by omega⟩
    · rw [if_neg hh] at h; cases h
  · rw [hg x hx, if_pos (by rw [h1, h2]; rfl)]
theorem far_put {s : Int} {l : List Int} {p : Int} (h64 : l.length ≤ 64) {far : List (Option Int)} (hf : FarOk s l p far) {y : Nat} {n : Int} (hy : y < l.length) (hn : n ≤ (cntF far : Int)) (hn0 : 0 ≤ n) (hc : Cst s l p y (n + costV l (y : Int))) (hb : match far.getD y none with | none => True | some m => n + costV l (y : Int) < m) :
    FarOk s l p (far.set y (some (n + costV l (y : Int)))) ∧ cntF far ≤ cntF (far.set y (some (n + costV l (y : Int)))) ∧ msrF (far.set y (some (n + costV l (y : Int)))) < msrF far := by
  obtain ⟨h1, h2, h3⟩ := hf
  have hcs := costV_small l (y : Int)
  have hyf : y < far.length := by omega
  have hcnt := count_set far y (n + costV l (y : Int)) hyf
  have hle : cntF far ≤ l.length := by rw [← h1]; exact List.length_filter_le _ _
  have hcge : cntF far ≤ cntF (far.set y (some (n + costV l (y : Int)))) := by
    unfold cntF
    rw [hcnt]
    split <;> omega
  have hnew : n + costV l (y : Int) ≤ (cntF (far.set y (some (n + costV l (y : Int)))) : Int) := by
    cases hg : far.getD y none with
    | none =>
      rw [hg] at hcnt
      unfold cntF at hn ⊢
      rw [hcnt, if_neg (by simp)]
      omega
    | some m =>
      rw [hg] at hb
      have := (h2 y m hg).2
      have hb : n + costV l (y : Int) < m := hb
      omega
  refine ⟨⟨by rw [List.length_set]; exact h1, fun x c h => ?_, fun x hx q1 q2 => ?_⟩, hcge, ?_⟩
  · by_cases e : y = x
    · subst e
      rw [getD_set_same _ _ _ _ hyf] at h
      injection h with h
      subst h
      exact ⟨hc, hnew⟩
    · rw [getD_set_ne _ _ _ _ _ e] at h
      obtain ⟨a, b⟩ := h2 x c h
      exact ⟨a, by omega⟩
  · obtain ⟨c, a, b⟩ := h3 x hx q1 q2
    by_cases e : y = x
    · subst e
      rw [a] at hb
      have hb : n + costV l (y : Int) < c := hb
      exact ⟨_, getD_set_same _ _ _ _ hyf, by omega⟩
    · exact ⟨c, by rw [getD_set_ne _ _ _ _ _ e]; exact a, b⟩
  · refine msr_set far y _ hyf (fun m hm => ?_) (fun _ => by omega)
    rw [hm] at hb
    exact ⟨by omega, hb⟩
theorem better_is {l : List Int} {p n : Int} {far : List (Option Int)} {y : Nat} (hn0 : 0 ≤ n) (hn : n ≤ 64) : betterV l p n far (y : Int) = true ↔ openV l p (y : Int) = true ∧ match far.getD y none with | none => True | some m => n + costV l (y : Int) < m := by
  have hcs := costV_small l (y : Int)
  have hw : wrap64 (n + costV l (y : Int)) = n + costV l (y : Int) := by unfold wrap64; omega
  unfold betterV
  rw [hw, Int.toNat_natCast, Bool.and_eq_true]
  cases far.getD y none with
  | none => simp
  | some m => simp
theorem farStep_ok {s : Int} {l : List Int} {p : Int} (h64 : l.length ≤ 64) {x : Nat} {n : Int} (hx : Cst s l p x n) : ∀ (r : List Int) (far : List (Option Int)) (ch : Bool), (∀ z ∈ r, z ∈ nearV s (x : Int) ∧ ∃ y : Nat, z = (y : Int) ∧ y < l.length) → FarOk s l p far → n ≤ (cntF far : Int) →
    FarOk s l p (farStep l p n r far ch).1 ∧ cntF far ≤ cntF (farStep l p n r far ch).1 ∧ msrF (farStep l p n r far ch).1 ≤ msrF far ∧ ((farStep l p n r far ch).2 = true → ch = true ∨ msrF (farStep l p n r far ch).1 < msrF far) ∧ ((farStep l p n r far ch).2 = false → ch = false ∧ (farStep l p n r far ch).1 = far ∧ ∀ z ∈ r, betterV l p n far z = false)
  | [], far, ch, _, hf, _ => ⟨hf, Nat.le_refl _, Nat.le_refl _, fun h => .inl h, fun h => ⟨h, rfl, fun z hz => absurd hz (by simp)⟩⟩
  | z :: r, far, ch, hr, hf, hn => by
    have hle : cntF far ≤ l.length := by rw [← hf.1]; exact List.length_filter_le _ _
    obtain ⟨hzn, y, rfl, hy⟩ := hr z (List.mem_cons_self ..)
    have hn0 := (cst_pos hx).1
    have hcs := costV_small l (y : Int)
    unfold farStep
    by_cases hb : betterV l p n far (y : Int) = true
    · rw [if_pos hb]
      obtain ⟨b1, b2⟩ := (better_is hn0 (by omega)).1 hb
      have hw : wrap64 (n + costV l (y : Int)) = n + costV l (y : Int) := by unfold wrap64; omega
      rw [hw, Int.toNat_natCast]
      obtain ⟨p1, p2, p3⟩ := far_put h64 hf hy hn hn0 (.step hx hzn hy b1) b2
      obtain ⟨q1, q2, q3, q4, q5⟩ := farStep_ok h64 hx r _ true (fun z hz => hr z (List.mem_cons_of_mem _ hz)) p1 (by omega)
      exact ⟨q1, by omega, by omega, fun _ => .inr (by omega), fun h => absurd (q5 h).1 (by simp)⟩
    · rw [if_neg hb]
      obtain ⟨q1, q2, q3, q4, q5⟩ := farStep_ok h64 hx r far ch (fun z hz => hr z (List.mem_cons_of_mem _ hz)) hf hn
      refine ⟨q1, q2, q3, q4, fun h => ?_⟩
      obtain ⟨a, b, c⟩ := q5 h
      refine ⟨a, b, fun z hz => ?_⟩
      rcases List.mem_cons.1 hz with rfl | hz
      · simpa using hb
      · exact c z hz
def NearIn (s : Int) (l : List Int) : Prop := ∀ x : Nat, x < l.length → ∀ z ∈ nearV s (x : Int), ∃ y : Nat, z = (y : Int) ∧ y < l.length
theorem farRound_ok {s : Int} {l : List Int} {p : Int} (h64 : l.length ≤ 64) (hnear : NearIn s l) : ∀ (d c : Nat) (far : List (Option Int)) (ch : Bool), c + d = l.length → FarOk s l p far →
    FarOk s l p (farRound s l p d c far ch).1 ∧ cntF far ≤ cntF (farRound s l p d c far ch).1 ∧ msrF (farRound s l p d c far ch).1 ≤ msrF far ∧ ((farRound s l p d c far ch).2 = true → ch = true ∨ msrF (farRound s l p d c far ch).1 < msrF far) ∧ ((farRound s l p d c far ch).2 = false → ch = false ∧ (farRound s l p d c far ch).1 = far ∧ ∀ x : Nat, c ≤ x → x < l.length → ∀ n, far.getD x none = some n → ∀ z ∈ nearV s (x : Int), betterV l p n far z = false)
  | 0, c, far, ch, hc, hf => ⟨hf, Nat.le_refl _, Nat.le_refl _, fun h => .inl h, fun h => ⟨h, rfl, fun x h1 h2 => by omega⟩⟩
  | d + 1, c, far, ch, hc, hf => by
    unfold farRound
    cases hg : far.getD c none with
    | none =>
      obtain ⟨q1, q2, q3, q4, q5⟩ := farRound_ok h64 hnear d (c + 1) far ch (by omega) hf
      refine ⟨q1, q2, q3, q4, fun h => ?_⟩
      obtain ⟨a, b, e⟩ := q5 h
      refine ⟨a, b, fun x h1 h2 n hn z hz => ?_⟩
      by_cases hx : x = c
      · subst hx; rw [hg] at hn; cases hn
      · exact e x (by omega) h2 n hn z hz
    | some n =>
      obtain ⟨hx, hn⟩ := hf.2.1 c n hg
      obtain ⟨p1, p2, p3, p4, p5⟩ := farStep_ok h64 hx (nearV s (c : Int)) far ch (fun z hz => ⟨hz, hnear c (by omega) z hz⟩) hf hn
      obtain ⟨q1, q2, q3, q4, q5⟩ := farRound_ok h64 hnear d (c + 1) (farStep l p n (nearV s (c : Int)) far ch).1 (farStep l p n (nearV s (c : Int)) far ch).2 (by omega) p1
      dsimp only
      refine ⟨q1, by omega, by omega, fun h => ?_, fun h => ?_⟩
      · rcases q4 h with h | h
        · rcases p4 h with h | h
          · exact .inl h
          · exact .inr (by omega)
        · exact .inr (by omega)
      · obtain ⟨a, b, e⟩ := q5 h
        obtain ⟨a2, b2, e2⟩ := p5 a
        refine ⟨a2, b.trans b2, fun x h1 h2 m hm z hz => ?_⟩
        by_cases hxc : x = c
        · subst hxc
          rw [hg] at hm
          injection hm with hm
          subst hm
          exact e2 z hz
        · have := e x (by omega) h2 m (by rw [b2]; exact hm) z hz
          rwa [b2] at this
/-- Nothing gets nearer any more. -/
def FarFix (s : Int) (l : List Int) (p : Int) (far : List (Option Int)) : Prop := ∀ x : Nat, x < l.length → ∀ n, far.getD x none = some n → ∀ z ∈ nearV s (x : Int), betterV l p n far z = false
theorem farLoop_end {s : Int} {l : List Int} {p : Int} (h64 : l.length ≤ 64) (hnear : NearIn s l) : ∀ (M : Nat) (far : List (Option Int)), msrF far ≤ M → FarOk s l p far → ∃ farE, FarOk s l p farE ∧ FarFix s l p farE ∧ Ev (fun k => farLoop s l p k true far) farE := by
  intro M
  induction M with
  | zero =>
    intro far hm hf
    obtain ⟨q1, q2, q3, q4, q5⟩ := farRound_ok h64 hnear l.length 0 far false (by omega) hf
    cases hch : (farRound s l p l.length 0 far false).2 with
    | true =>
      rcases q4 hch with h | h
      · cases h
      · omega
    | false =>
      obtain ⟨_, b, e⟩ := q5 hch
      refine ⟨far, hf, fun x hx => e x (by omega) hx, Ev.step (f := fun k => farLoop s l p k false far) (fun k => ?_) (Ev.step (f := fun _ => some far) (fun k => ?_) (Ev.now _))⟩
      · rw [farLoop, if_pos rfl, hch, b]
      · rw [farLoop, if_neg (by simp)]
  | succ M ih =>
    intro far hm hf
    obtain ⟨q1, q2, q3, q4, q5⟩ := farRound_ok h64 hnear l.length 0 far false (by omega) hf
    cases hch : (farRound s l p l.length 0 far false).2 with
    | true =>
      rcases q4 hch with h | h
      · cases h
      · obtain ⟨farE, e1, e2, e3⟩ := ih _ (by omega) q1
        refine ⟨farE, e1, e2, Ev.step (fun k => ?_) e3⟩
        rw [farLoop, if_pos rfl, hch]
    | false =>
      obtain ⟨_, b, e⟩ := q5 hch
      refine ⟨far, hf, fun x hx => e x (by omega) hx, Ev.step (f := fun k => farLoop s l p k false far) (fun k => ?_) (Ev.step (f := fun _ => some far) (fun k => ?_) (Ev.now _))⟩
      · rw [farLoop, if_pos rfl, hch, b]
      · rw [farLoop, if_neg (by simp)]
theorem far_all {s : Int} {l : List Int} {p : Int} (h64 : l.length ≤ 64) {far : List (Option Int)} (hf : FarOk s l p far) (hx : FarFix s l p far) {x : Nat} {c : Int} (h : Cst s l p x c) : ∃ c', far.getD x none = some c' ∧ c' ≤ c := by
  have hle : cntF far ≤ l.length := by rw [← hf.1]; exact List.length_filter_le _ _
  induction h with
  | start x h1 h2 h3 => exact hf.2.2 x h1 h2 h3
  | @step x y c hc hn hy ho ih =>
    obtain ⟨c', e, hc'⟩ := ih
    have hb := hx x (cst_pos hc).2 c' e (y : Int) hn
    obtain ⟨hcst, hcn⟩ := hf.2.1 x c' e
    have hc0 := (cst_pos hcst).1
    cases hg : far.getD y none with
    | none =>
      have := (better_is (l := l) (p := p) (far := far) (y := y) hc0 (by omega)).2 ⟨ho, by rw [hg]; trivial⟩
      rw [this] at hb; cases hb
    | some m =>
      refine ⟨m, rfl, ?_⟩
      by_cases hlt : c' + costV l (y : Int) < m
      · have := (better_is (l := l) (p := p) (far := far) (y := y) hc0 (by omega)).2 ⟨ho, by rw [hg]; exact hlt⟩
        rw [this] at hb; cases hb
      · omega
/-- The least number of empty cells that a player has to get, -1 for none. -/
def LeastC (s : Int) (l : List Int) (p v : Int) : Prop :=
  (v = -1 ∧ ∀ (x : Nat) (c : Int), Cst s l p x c → lineV s p (x : Int) ≠ s - 1) ∨ (0 ≤ v ∧ (∃ x : Nat, Cst s l p x v ∧ lineV s p (x : Int) = s - 1) ∧ ∀ (x : Nat) (c : Int), Cst s l p x c → lineV s p (x : Int) = s - 1 → v ≤ c)
theorem LeastC.unique {s : Int} {l : List Int} {p v v' : Int} (h : LeastC s l p v) (h' : LeastC s l p v') : v = v' := by
  rcases h with ⟨rfl, h⟩ | ⟨h0, ⟨x, hx, hl⟩, hm⟩
  · rcases h' with ⟨rfl, _⟩ | ⟨_, ⟨x', hx', hl'⟩, _⟩
    · rfl
    · exact absurd hl' (h x' _ hx')
  · rcases h' with ⟨rfl, h'⟩ | ⟨h0', ⟨x', hx', hl'⟩, hm'⟩
    · exact absurd hl (h' x _ hx)
    · have := hm x' _ hx' hl'
      have := hm' x _ hx hl
      omega
theorem best_least {s : Int} {l : List Int} {p : Int} (h64 : l.length ≤ 64) {far : List (Option Int)} (hf : FarOk s l p far) (hx : FarFix s l p far) : LeastC s l p (needBest s p far 0 (-1)) := by
  have hpos : ∀ o ∈ far, ∀ c, o = some c → 0 ≤ c := fun o ho c hc => by
    obtain ⟨i, hi, rfl⟩ := List.mem_iff_getElem.1 ho
    have := hf.2.1 i c (by rw [List.getD_eq_getElem?_getD, List.getElem?_eq_getElem hi]; exact hc)
    exact (cst_pos this.1).1
  have h0 : IsBest s p far.length far (fun y => decide (y < ((0 : Nat) : Int))) (-1) := .inl ⟨rfl, fun x c h1 _ hg _ => by simp at hg; omega⟩
  have hb := needBest_is s p far hpos far 0 (-1) rfl (Nat.zero_le _) h0
  rcases hb with ⟨e, h⟩ | ⟨hv, ⟨x, h1, h2, _, h3, h4⟩, hm⟩
  · refine .inl ⟨e, fun x c hc hl => ?_⟩
    obtain ⟨c', hg, _⟩ := far_all h64 hf hx hc
    exact h (x : Int) c' (by omega) (by have := (cst_pos hc).2; have := hf.1; omega) rfl (by rw [Int.toNat_natCast]; exact hg) hl
  · refine .inr ⟨hv, ⟨x.toNat, (hf.2.1 _ _ h3).1, by rw [Int.toNat_of_nonneg h1]; exact h4⟩, fun y c hc hl => ?_⟩
    obtain ⟨c', hg, hle⟩ := far_all h64 hf hx hc
    have := hm (y : Int) c' (by omega) (by have := (cst_pos hc).2; have := hf.1; omega) rfl (by rw [Int.toNat_natCast]; exact hg) hl
    omega
-- Who joins on a board of Hex, as a way from side to side. HAdj HCon HJoin one_joins nearV nearTo nearOk nearOne nearDirs (for 77)
/-- Player p joins (1: row 0 to the last row, 2: column 0 to the last column). -/
def ownC (n : Nat) (l : List Int) (p : Int) (r c : Nat) : Bool := rd l ((r * n + c : Nat) : Int) == p
def JoinP (n : Nat) (l : List Int) (p : Int) : Prop :=
  if p = 1 then ∃ c r c', HCon n (ownC n l p) true 0 c r c' ∧ r + 1 = n else ∃ r r' c', HCon n (ownC n l p) true r 0 r' c' ∧ c' + 1 = n
/-- The board's cells, told by their rows and columns. -/
theorem cell_split {n i : Nat} (h : i < n * n) : i / n < n ∧ i % n < n ∧ i / n * n + i % n = i := by
  have hn : 0 < n := by
    rcases Nat.eq_zero_or_pos n with h0 | h0
    · subst h0; simp at h
    · exact h0
  exact ⟨Nat.div_lt_of_lt_mul h, Nat.mod_lt _ hn, by rw [Nat.mul_comm]; exact Nat.div_add_mod i n⟩
theorem near_val : ∀ (n : Fin 9) (r c : Fin 8), ∀ e ∈ nearDirs, r.val < n.val → c.val < n.val → nearOk n.val r.val c.val e = decide (0 ≤ (r.val : Int) + e.1 ∧ (r.val : Int) + e.1 < n.val ∧ 0 ≤ (c.val : Int) + e.2 ∧ (c.val : Int) + e.2 < n.val) ∧ nearOne n.val r.val c.val e = ((r.val : Int) + e.1) * n.val + ((c.val : Int) + e.2) := by
  decide +kernel
theorem near_mem {n r c r' c' : Nat} (h8 : n ≤ 8) (hr : r < n) (hc : c < n) (hr' : r' < n) (hc' : c' < n) : ((r' * n + c' : Nat) : Int) ∈ nearV n ((r * n + c : Nat) : Int) ↔ HAdj r c r' c' := by
  have hv := near_val ⟨n, by omega⟩ ⟨r, by omega⟩ ⟨c, by omega⟩
  have hd : wrap64 (Int.tdiv ((r * n + c : Nat) : Int) (n : Int)) = (r : Int) := by
    have e : Int.tdiv ((r * n + c : Nat) : Int) (n : Int) = ((r * n + c) / n : Nat) := rfl
    rw [e, Nat.mul_comm, Nat.mul_add_div (by omega), Nat.div_eq_of_lt hc, Nat.add_zero]
    unfold wrap64
    omega
  have hm : Int.tmod ((r * n + c : Nat) : Int) (n : Int) = (c : Int) := by
    have e : Int.tmod ((r * n + c : Nat) : Int) (n : Int) = ((r * n + c) % n : Nat) := rfl
    rw [e, Nat.mul_comm, Nat.mul_add_mod, Nat.mod_eq_of_lt hc]
  unfold nearV nearTo
  rw [hd, hm]
  clear hd hm
  simp only [List.mem_map, List.mem_filter]
  have key : ∀ e ∈ nearDirs, (nearOk n r c e = true ∧ nearOne n r c e = ((r' * n + c' : Nat) : Int)) ↔ ((r' : Int) = r + e.1 ∧ (c' : Int) = c + e.2) := fun e he => by
    obtain ⟨h1, h2⟩ := hv e he hr hc
    simp only at h1 h2
    rw [h1, h2, decide_eq_true_iff]
    constructor
    · rintro ⟨⟨a1, a2, a3, a4⟩, a5⟩
      obtain ⟨x, hx⟩ : ∃ x : Nat, (r : Int) + e.1 = x := ⟨((r : Int) + e.1).toNat, by omega⟩
      obtain ⟨y, hy⟩ : ∃ y : Nat, (c : Int) + e.2 = y := ⟨((c : Int) + e.2).toNat, by omega⟩
      rw [hx, hy] at a5
      rw [hx, hy]
      have a6 : x * n + y = r' * n + c' := by
        have : ((x * n + y : Nat) : Int) = ((r' * n + c' : Nat) : Int) := by rw [← a5, Int.natCast_add, Int.natCast_mul]
        omega
      have hy' : y < n := by omega
      have e1 : (x * n + y) / n = x := by rw [Nat.mul_comm, Nat.mul_add_div (by omega), Nat.div_eq_of_lt hy', Nat.add_zero]
      have e2 : (r' * n + c') / n = r' := by rw [Nat.mul_comm, Nat.mul_add_div (by omega), Nat.div_eq_of_lt hc', Nat.add_zero]
      have e3 : x = r' := by rw [← e1, ← e2, a6]
      subst e3
      omega
    · rintro ⟨a1, a2⟩
      rw [← a1, ← a2]
      refine ⟨by omega, ?_⟩
      rw [Int.natCast_add, Int.natCast_mul]
  constructor
  · rintro ⟨e, ⟨he, ho⟩, hq⟩
    have := (key e he).1 ⟨ho, hq⟩
    unfold nearDirs at he
    simp only [List.mem_cons, List.not_mem_nil, or_false] at he
    unfold HAdj
    rcases he with rfl | rfl | rfl | rfl | rfl | rfl <;> simp only at this <;> omega
  · intro h
    have hx : ∃ e ∈ nearDirs, (r' : Int) = r + e.1 ∧ (c' : Int) = c + e.2 := by
      unfold HAdj at h
      rcases h with h | h | h | h | h | h
      · exact ⟨(1, 0), by decide, by simp only; omega, by simp only; omega⟩
      · exact ⟨(-1, 0), by decide, by simp only; omega, by simp only; omega⟩
      · exact ⟨(0, 1), by decide, by simp only; omega, by simp only; omega⟩
      · exact ⟨(0, -1), by decide, by simp only; omega, by simp only; omega⟩
      · exact ⟨(-1, 1), by decide, by simp only; omega, by simp only; omega⟩
      · exact ⟨(1, -1), by decide, by simp only; omega, by simp only; omega⟩
    obtain ⟨e, he, hq⟩ := hx
    obtain ⟨h1, h2⟩ := (key e he).2 hq
    exact ⟨e, ⟨he, h1⟩, h2⟩
-- No empty cell is needed just where the player joins. Cst LeastC costV openV lineV JoinP HCon HAdj ownC near_mem cell_split FarOk far_start farLoop_end best_least NearIn nearV_ok isHexV_cells hex_small needBest farLoop farInit (for 77 82)
theorem line_val1 {n x : Nat} (hx : x < n * n) (h8 : n ≤ 8) (p : Int) : lineV (n : Int) p (x : Int) = if p = 1 then ((x / n : Nat) : Int) else ((x % n : Nat) : Int) := by
  unfold lineV
  have e : Int.tdiv (x : Int) (n : Int) = ((x / n : Nat) : Int) := rfl
  have e2 : Int.tmod (x : Int) (n : Int) = ((x % n : Nat) : Int) := rfl
  rw [e, e2]
  have hd := (cell_split hx).1
  by_cases hp : p = 1
  · rw [if_pos hp, if_pos hp]
    clear e e2
    generalize x / n = q at hd ⊢
    unfold wrap64
    omega
  · rw [if_neg hp, if_neg hp]
theorem cell_val {n r c : Nat} (hr : r < n) (hc : c < n) : (r * n + c) / n = r ∧ (r * n + c) % n = c ∧ r * n + c < n * n := by
  refine ⟨by rw [Nat.mul_comm, Nat.mul_add_div (by omega), Nat.div_eq_of_lt hc, Nat.add_zero], by rw [Nat.mul_comm, Nat.mul_add_mod, Nat.mod_eq_of_lt hc], ?_⟩
  have h1 : (r + 1) * n ≤ n * n := Nat.mul_le_mul_right n (by omega)
  rw [Nat.succ_mul] at h1
  omega
theorem cost_zero {l : List Int} {p : Int} {y : Int} (hp : p ≠ 0) (ho : openV l p y = true) (hc : costV l y = 0) : rd l y = p := by
  unfold costV at hc
  unfold openV at ho
  split at hc
  · cases hc
  · rename_i h
    simp only [Bool.or_eq_true, beq_iff_eq] at ho
    rcases ho with h2 | h2
    · exact absurd h2 h
    · exact h2
theorem own_cost {l : List Int} {p : Int} {y : Int} (hp : p ≠ 0) (h : rd l y = p) : openV l p y = true ∧ costV l y = 0 := by
  unfold openV costV
  rw [h, if_neg hp]
  simp
theorem cst_con {n : Nat} (h8 : n ≤ 8) {l : List Int} (hl : l.length = n * n) {p : Int} (hp : p ≠ 0) {x : Nat} {c : Int} (h : Cst (n : Int) l p x c) : c = 0 → ∃ r0 c0, (if p = 1 then r0 = 0 else c0 = 0) ∧ HCon n (ownC n l p) true r0 c0 (x / n) (x % n) := by
  have own : ∀ y : Nat, y < n * n → rd l (y : Int) = p → ownC n l p (y / n) (y % n) = true := fun y hy h => by
    unfold ownC
    rw [(cell_split hy).2.2, h]
    exact beq_self_eq_true p
  induction h with
  | start x hx hz ho =>
    intro hc
    have hx' : x < n * n := by omega
    have ho2 := own x hx' (cost_zero hp ho hc)
    obtain ⟨h1, h2, _⟩ := cell_split hx'
    rw [line_val1 hx' h8] at hz
    refine ⟨x / n, x % n, ?_, .refl h1 h2 ho2⟩
    by_cases hp1 : p = 1
    · rw [if_pos hp1] at hz ⊢; omega
    · rw [if_neg hp1] at hz ⊢; omega
  | @step x y c hcs hn hy ho ih =>
    intro hc
    have hcp := (cst_pos hcs).1
    have hyc := (costV_small l (y : Int)).1
    obtain ⟨r0, c0, h0, hcon⟩ := ih (by omega)
    have hx' : x < n * n := by have := (cst_pos hcs).2; omega
    have hy' : y < n * n := by omega
    obtain ⟨a1, a2, a3⟩ := cell_split hx'
    obtain ⟨b1, b2, b3⟩ := cell_split hy'
    have ha := near_mem (n := n) h8 a1 a2 b1 b2
    rw [a3, b3] at ha
    exact ⟨r0, c0, h0, .step hcon (ha.1 hn) b1 b2 (own y hy' (cost_zero hp ho (by omega)))⟩
theorem con_cst {n : Nat} (h8 : n ≤ 8) {l : List Int} (hl : l.length = n * n) {p : Int} (hp : p ≠ 0) {a b r c : Nat} (h0 : if p = 1 then a = 0 else b = 0) (h : HCon n (ownC n l p) true a b r c) : Cst (n : Int) l p (r * n + c) 0 := by
  have own : ∀ r c, ownC n l p r c = true → rd l ((r * n + c : Nat) : Int) = p := fun r c h => by
    unfold ownC at h
    exact beq_iff_eq.1 h
  induction h with
  | refl h1 h2 h3 =>
    obtain ⟨v1, v2, v3⟩ := cell_val h1 h2
    obtain ⟨o1, o2⟩ := own_cost hp (own _ _ h3)
    have := Cst.start (s := (n : Int)) (p := p) (l := l) (a * n + b) (by omega) (by
      rw [line_val1 v3 h8, v1, v2]
      by_cases hp1 : p = 1
      · rw [if_pos hp1] at h0 ⊢; omega
      · rw [if_neg hp1] at h0 ⊢; omega) o1
    rwa [o2] at this
  | @step r1 c1 r2 c2 hc ha h1 h2 h3 ih =>
    obtain ⟨v1, v2, v3⟩ := cell_val h1 h2
    obtain ⟨o1, o2⟩ := own_cost hp (own _ _ h3)
    have hl2 := hc.last
    have := Cst.step ih ((near_mem h8 hl2.1 hl2.2.1 h1 h2).2 ha) (by omega) o1
    rwa [o2] at this
theorem join_least {n : Nat} (h1 : 1 ≤ n) (h8 : n ≤ 8) {l : List Int} (hl : l.length = n * n) {p : Int} (hp : p ≠ 0) (hj : JoinP n l p) : LeastC (n : Int) l p 0 := by
  have hex : ∃ x : Nat, Cst (n : Int) l p x 0 ∧ lineV (n : Int) p (x : Int) = n - 1 := by
    unfold JoinP at hj
    by_cases hp1 : p = 1
    · rw [if_pos hp1] at hj
      obtain ⟨c, r, c', hcon, hr⟩ := hj
      have hl2 := hcon.last
      obtain ⟨v1, v2, v3⟩ := cell_val hl2.1 hl2.2.1
      exact ⟨r * n + c', con_cst h8 hl hp (by rw [if_pos hp1]) hcon, by rw [line_val1 v3 h8, if_pos hp1, v1]; omega⟩
    · rw [if_neg hp1] at hj
      obtain ⟨r, r', c', hcon, hr⟩ := hj
      have hl2 := hcon.last
      obtain ⟨v1, v2, v3⟩ := cell_val hl2.1 hl2.2.1
      exact ⟨r' * n + c', con_cst h8 hl hp (by rw [if_neg hp1]) hcon, by rw [line_val1 v3 h8, if_neg hp1, v2]; omega⟩
  exact .inr ⟨Int.le_refl _, hex, fun y c hy _ => (cst_pos hy).1⟩
theorem least_join {n : Nat} (h1 : 1 ≤ n) (h8 : n ≤ 8) {l : List Int} (hl : l.length = n * n) {p v : Int} (hp : p ≠ 0) (hv : LeastC (n : Int) l p v) : v = 0 ↔ JoinP n l p := by
  constructor
  · rintro rfl
    rcases hv with ⟨h, _⟩ | ⟨_, ⟨x, hx, hlx⟩, _⟩
    · cases h
    · obtain ⟨r0, c0, h0, hcon⟩ := cst_con h8 hl hp hx rfl
      have hx' : x < n * n := by have := (cst_pos hx).2; omega
      rw [line_val1 hx' h8] at hlx
      unfold JoinP
      by_cases hp1 : p = 1
      · rw [if_pos hp1] at h0 hlx ⊢
        subst h0
        exact ⟨c0, _, _, hcon, by omega⟩
      · rw [if_neg hp1] at h0 hlx ⊢
        subst h0
        exact ⟨r0, _, _, hcon, by omega⟩
  · exact fun hj => hv.unique (join_least h1 h8 hl hp hj)
-- The reference's search for a joined side, plain. Cst LeastC costV openV lineV JoinP near_mem line_val1 cost_zero own_cost least_join cst_pos (for 77)
def trueN : List Bool → Nat
  | [] => 0
  | true :: r => trueN r + 1
  | false :: r => trueN r
theorem trueN_le : ∀ l : List Bool, trueN l ≤ l.length
  | [] => Nat.le_refl _
  | true :: r => by have := trueN_le r; simp only [trueN, List.length_cons]; omega
  | false :: r => by have := trueN_le r; simp only [trueN, List.length_cons]; omega
theorem trueN_set : ∀ (l : List Bool) (i : Nat), i < l.length → l.getD i false = false → trueN (l.set i true) = trueN l + 1
  | [], i, h, _ => by simp at h
  | b :: r, 0, _, h => by
    have : b = false := by simpa [List.getD_eq_getElem?_getD] using h
    subst this
    simp [trueN]
  | b :: r, i + 1, h, h2 => by
    have e : (b :: r).getD (i + 1) false = r.getD i false := by simp [List.getD_eq_getElem?_getD]
    rw [e] at h2
    have := trueN_set r i (by simpa using h) h2
    cases b <;> simp only [List.set_cons_succ, trueN] <;> omega
theorem getDb_same (l : List Bool) (i : Nat) (h : i < l.length) : (l.set i true).getD i false = true := by
  rw [List.getD_eq_getElem?_getD, List.getElem?_set_self (by simpa using h)]; rfl
theorem getDb_ne (l : List Bool) (i j : Nat) (h : i ≠ j) : (l.set i true).getD j false = l.getD j false := by
  rw [List.getD_eq_getElem?_getD, List.getD_eq_getElem?_getD, List.getElem?_set_ne h]
theorem trueN_rep : ∀ n, trueN (List.replicate n false) = 0
  | 0 => rfl
  | n + 1 => trueN_rep n
/-- What is met is in the queue, and reached. -/
def BInv (n : Nat) (l : List Int) (p : Int) (met : List Bool) (q : List Int) : Prop :=
  met.length = n * n ∧ q.length = trueN met ∧ (∀ x ∈ q, ∃ i : Nat, x = (i : Int) ∧ i < n * n ∧ Cst (n : Int) l p i 0) ∧ ∀ i : Nat, met.getD i false = true → (i : Int) ∈ q
theorem BInv.len {n : Nat} {l : List Int} {p : Int} {met : List Bool} {q : List Int} (h : BInv n l p met q) : q.length ≤ n * n := by
  rw [h.2.1, ← h.1]; exact trueN_le _
theorem BInv.empty (n : Nat) (l : List Int) (p : Int) : BInv n l p (List.replicate (n * n) false) [] := by
  refine ⟨by simp, by rw [trueN_rep]; rfl, fun x hx => absurd hx (by simp), fun i hi => ?_⟩
  rw [List.getD_eq_getElem?_getD, List.getElem?_replicate] at hi
  split at hi <;> simp at hi
theorem BInv.put {n : Nat} {l : List Int} {p : Int} {met : List Bool} {q : List Int} (h : BInv n l p met q) {y : Nat} (hy : y < n * n) (hm : met.getD y false = false) (hc : Cst (n : Int) l p y 0) : BInv n l p (met.set y true) (q ++ [(y : Int)]) := by
  obtain ⟨h1, h2, h3, h4⟩ := h
  refine ⟨by rw [List.length_set]; exact h1, by rw [List.length_append, h2, trueN_set _ _ (by omega) hm]; rfl, fun x hx => ?_, fun i hi => ?_⟩
  · rcases List.mem_append.1 hx with hx | hx
    · exact h3 x hx
    · rw [List.mem_singleton] at hx
      exact ⟨y, hx, hy, hc⟩
  · by_cases e : y = i
    · subst e; exact List.mem_append_right _ (List.mem_singleton.2 rfl)
    · rw [getDb_ne _ _ _ e] at hi
      exact List.mem_append_left _ (h4 i hi)
/-- A round over the neighbours. -/
def bfsNear (l : List Int) (p : Int) : List Int → List Bool → List Int → List Bool × List Int
  | [], met, q => (met, q)
  | z :: r, met, q => if met.getD z.toNat false = false ∧ rd l z = p then bfsNear l p r (met.set z.toNat true) (q ++ [z]) else bfsNear l p r met q
theorem bfsNear_ok {n : Nat} {l : List Int} (hl : l.length = n * n) {p : Int} (hp : p ≠ 0) {x : Nat} (hx : Cst (n : Int) l p x 0) : ∀ (r : List Int) (met : List Bool) (q : List Int), (∀ z ∈ r, z ∈ nearV (n : Int) (x : Int) ∧ ∃ y : Nat, z = (y : Int) ∧ y < n * n) → BInv n l p met q →
    BInv n l p (bfsNear l p r met q).1 (bfsNear l p r met q).2 ∧ (∃ t, (bfsNear l p r met q).2 = q ++ t) ∧ (∀ i, met.getD i false = true → (bfsNear l p r met q).1.getD i false = true) ∧ ∀ z ∈ r, rd l z = p → (bfsNear l p r met q).1.getD z.toNat false = true
  | [], met, q, _, h => ⟨h, ⟨[], by simp [bfsNear]⟩, fun i hi => hi, fun z hz => absurd hz (by simp)⟩
  | z :: r, met, q, hr, h => by
    obtain ⟨hzn, y, rfl, hy⟩ := hr z (List.mem_cons_self ..)
    have hr2 : ∀ z ∈ r, z ∈ nearV (n : Int) (x : Int) ∧ ∃ y : Nat, z = (y : Int) ∧ y < n * n := fun z hz => hr z (List.mem_cons_of_mem _ hz)
    unfold bfsNear
    rw [Int.toNat_natCast]
    by_cases hc : met.getD y false = false ∧ rd l (y : Int) = p
    · rw [if_pos hc]
      obtain ⟨o1, o2⟩ := own_cost hp hc.2
      have hcy := Cst.step hx hzn (by omega) o1
      rw [o2] at hcy
      obtain ⟨a, ⟨t, b⟩, c, d⟩ := bfsNear_ok hl hp hx r _ _ hr2 (h.put hy hc.1 hcy)
      refine ⟨a, ⟨(y : Int) :: t, by rw [b]; simp⟩, fun i hi => c i ?_, fun w hw hwp => ?_⟩
      · by_cases e : y = i
        · subst e; exact getDb_same _ _ (by rw [h.1]; exact hy)
        · rw [getDb_ne _ _ _ e]; exact hi
      · rcases List.mem_cons.1 hw with rfl | hw
        · rw [Int.toNat_natCast]
          exact c y (getDb_same _ _ (by rw [h.1]; exact hy))
        · exact d w hw hwp
    · rw [if_neg hc]
      obtain ⟨a, b, c, d⟩ := bfsNear_ok hl hp hx r met q hr2 h
      refine ⟨a, b, c, fun w hw hwp => ?_⟩
      rcases List.mem_cons.1 hw with rfl | hw
      · rw [Int.toNat_natCast]
        refine c y ?_
        cases hm : met.getD y false with
        | true => rfl
        | false => exact absurd ⟨hm, hwp⟩ hc
      · exact d w hw hwp
/-- What has been looked at. -/
def BDone (n : Nat) (l : List Int) (p : Int) (met : List Bool) (q : List Int) (at_ : Nat) : Prop :=
  at_ ≤ q.length ∧ ∀ j (hj : j < q.length), j < at_ → lineV (n : Int) p q[j] ≠ (n : Int) - 1 ∧ ∀ z ∈ nearV (n : Int) q[j], rd l z = p → met.getD z.toNat false = true
theorem bfs_none {n : Nat} (h1 : 1 ≤ n) (h8 : n ≤ 8) {l : List Int} (hl : l.length = n * n) {p : Int} (hp : p ≠ 0) {met : List Bool} {q : List Int} (hb : BInv n l p met q) (hd : BDone n l p met q q.length) (hs : ∀ x : Nat, x < n * n → lineV (n : Int) p (x : Int) = 0 → rd l (x : Int) = p → met.getD x false = true) : ¬ JoinP n l p := by
  have all : ∀ (x : Nat) (c : Int), Cst (n : Int) l p x c → c = 0 → met.getD x false = true := fun x c h => by
    induction h with
    | start x hx hz ho => exact fun hc => hs x (by omega) hz (cost_zero hp ho hc)
    | @step x y c hcs hn hy ho ih =>
      intro hc
      have := (cst_pos hcs).1
      have := (costV_small l (y : Int)).1
      have hm := hb.2.2.2 x (ih (by omega))
      obtain ⟨j, hj, e⟩ := List.mem_iff_getElem.1 hm
      have := (hd.2 j hj hj).2 (y : Int) (by rw [e]; exact hn) (cost_zero hp ho (by omega))
      rwa [Int.toNat_natCast] at this
  intro hj
  rcases join_least h1 h8 hl hp hj with ⟨h, _⟩ | ⟨_, ⟨x, hx, hlx⟩, _⟩
  · cases h
  · have hm := hb.2.2.2 x (all x 0 hx rfl)
    obtain ⟨j, hj, e⟩ := List.mem_iff_getElem.1 hm
    have := (hd.2 j hj hj).1
    rw [e] at this
    exact this hlx
theorem bfs_some {n : Nat} (h1 : 1 ≤ n) (h8 : n ≤ 8) {l : List Int} (hl : l.length = n * n) {p : Int} (hp : p ≠ 0) {met : List Bool} {q : List Int} (hb : BInv n l p met q) {x : Int} (hx : x ∈ q) (hlx : lineV (n : Int) p x = (n : Int) - 1) : JoinP n l p := by
  obtain ⟨i, rfl, _, hc⟩ := hb.2.2.1 x hx
  refine (least_join h1 h8 hl hp (v := 0) (.inr ⟨Int.le_refl _, ⟨i, hc, hlx⟩, fun y c hy _ => (cst_pos hy).1⟩)).1 rfl
-- Who joins, on both sides. LeastC JoinP Cst least_join best_least farLoop_end far_start FarOk NearIn BInv BDone bfsNear bfsNear_ok bfs_none bfs_some isHexV_cells hex_small nearV_ok near_mem line_val1 specNear_ev rd_get own_cost getDb_same getDb_ne cell_val (for 82 55 97 51)
theorem wrap_numJ {n : Nat} (h : n < 9223372036854775808) : wrap64 (n : Int) = (n : Int) := by unfold wrap64; omega
theorem hex_natJ {p : Int} {l : List Int} (h : isHexV p l = true) : ∃ n : Nat, p = n ∧ 1 ≤ n ∧ n ≤ 8 ∧ l.length = n * n := by
  obtain ⟨h1, h8, hl, _⟩ := isHexV_cells h
  refine ⟨p.toNat, by omega, by omega, by omega, ?_⟩
  have e : p = ((p.toNat : Nat) : Int) := by omega
  rw [e] at hl
  rw [← Int.natCast_mul] at hl
  exact Int.ofNat.inj hl
theorem wrap_subJ {n : Nat} (h1 : 1 ≤ n) (h8 : n ≤ 8) : wrap64 ((n : Int) - 1) = (n : Int) - 1 := by unfold wrap64; omega
theorem near_all {n : Nat} {l : List Int} (h1 : 1 ≤ n) (h8 : n ≤ 8) (hl : l.length = n * n) : NearIn (n : Int) l := fun x hx z hz => by
  have := (nearV_ok h1 h8 (show x < n * n by omega)).2 z hz
  exact ⟨z.toNat, by omega, by omega⟩
theorem need_ev {n : Nat} {l : List Int} (hv : isHexV (n : Int) l = true) (h1 : 1 ≤ n) (h8 : n ≤ 8) (hl : l.length = n * n) (p : Int) : ∃ v, LeastC (n : Int) l p v ∧ -1 ≤ v ∧ v ≤ 64 ∧ Ev (fun k => impl_Hex_need.f k n l p) v := by
  have h64 : l.length ≤ 64 := by rw [hl]; exact Nat.mul_le_mul h8 h8
  obtain ⟨far, hf, hx, he⟩ := farLoop_end (s := (n : Int)) (l := l) (p := p) h64 (near_all h1 h8 hl) _ _ (Nat.le_refl _) far_start
  have hle : cntF far ≤ l.length := by rw [← hf.1]; exact List.length_filter_le _ _
  have hpos : ∀ o ∈ far, ∀ c, o = some c → 0 ≤ c ∧ c ≤ 4611686018427387904 := fun o ho c hc => by
    obtain ⟨i, hi, rfl⟩ := List.mem_iff_getElem.1 ho
    have := hf.2.1 i c (by rw [List.getD_eq_getElem?_getD, List.getElem?_eq_getElem hi]; exact hc)
    exact ⟨(cst_pos this.1).1, by omega⟩
  have hb := best_least h64 hf hx
  refine ⟨_, hb, ?_, ?_, ?_⟩
  · rcases hb with ⟨h, _⟩ | ⟨h, _⟩ <;> omega
  · rcases hb with ⟨h, _⟩ | ⟨h, ⟨x, hc, hlx⟩, hm⟩
    · omega
    · obtain ⟨c', hg, hc'⟩ := far_all h64 hf hx hc
      have := hm x c' (hf.2.1 x c' hg).1 hlx
      have := (hf.2.1 x c' hg).2
      omega
  · unfold impl_Hex_need.f
    refine Ev.congr (fun k => by rw [if_pos hv]) (Ev.bind he (Ev.congr (f := fun _ => some (needBest (n : Int) p far 0 (-1))) (fun k => by rw [if_pos hpos]) (Ev.now _)))
/-- j is who joins (0: none). -/
def IsJ (n : Nat) (l : List Int) (j : Int) : Prop := (j = 1 ∧ JoinP n l 1) ∨ (j = 2 ∧ ¬ JoinP n l 1 ∧ JoinP n l 2) ∨ (j = 0 ∧ ¬ JoinP n l 1 ∧ ¬ JoinP n l 2)
theorem IsJ.unique {n : Nat} {l : List Int} {j j' : Int} (h : IsJ n l j) (h' : IsJ n l j') : j = j' := by
  rcases h with ⟨rfl, h⟩ | ⟨rfl, h, g⟩ | ⟨rfl, h, g⟩ <;> rcases h' with ⟨rfl, h'⟩ | ⟨rfl, h', g'⟩ | ⟨rfl, h', g'⟩ <;> first | rfl | exact absurd h h' | exact absurd h' h | exact absurd g g' | exact absurd g' g
theorem implJoiner_ev {n : Nat} {l : List Int} (hv : isHexV (n : Int) l = true) (h1 : 1 ≤ n) (h8 : n ≤ 8) (hl : l.length = n * n) : ∃ j, IsJ n l j ∧ Ev (fun k => impl_Hex_joiner.f k n l) j := by
  obtain ⟨v1, c1, _, _, e1⟩ := need_ev hv h1 h8 hl 1
  obtain ⟨v2, c2, _, _, e2⟩ := need_ev hv h1 h8 hl 2
  have j1 := least_join h1 h8 hl (by decide) c1
  have j2 := least_join h1 h8 hl (by decide) c2
  unfold impl_Hex_joiner.f
  have w1 : wrap64 (0 + 1) = 1 := by unfold wrap64; omega
  have w2 : wrap64 (1 + 1) = 2 := by unfold wrap64; omega
  have r0 : rd [1, 2] 0 = 1 := rfl
  have r1 : rd [1, 2] 1 = 2 := rfl
  have first : ∀ v, Ev (fun k => impl_Hex_joiner.l0 k [1, 2] 2 1 n l) v → v1 ≠ 0 → Ev (fun k => impl_Hex_joiner.l0 k [1, 2] 2 0 n l) v := fun v hv hne => by
    refine Ev.step (f := fun k => (impl_Hex_need.f k n l 1).bind fun t => if t = 0 then some 1 else impl_Hex_joiner.l0 k [1, 2] 2 1 n l) (fun k => ?_) (Ev.bind e1 (Ev.congr (fun k => by rw [if_neg hne]) hv))
    simp only [impl_Hex_joiner.l0]
    rw [if_pos (by decide), if_pos (by decide), if_pos (by decide), r0, w1]
  by_cases z1 : v1 = 0
  · refine ⟨1, .inl ⟨rfl, j1.1 z1⟩, ?_⟩
    show Ev (fun k => impl_Hex_joiner.l0 k [1, 2] 2 0 n l) 1
    refine Ev.step (f := fun k => (impl_Hex_need.f k n l 1).bind fun t => if t = 0 then some 1 else impl_Hex_joiner.l0 k [1, 2] 2 1 n l) (fun k => ?_) (Ev.bind e1 (Ev.congr (f := fun _ => some 1) (fun k => by rw [if_pos z1]) (Ev.now _)))
    simp only [impl_Hex_joiner.l0]
    rw [if_pos (by decide), if_pos (by decide), if_pos (by decide), r0, w1]
  · have n1 : ¬ JoinP n l 1 := fun h => z1 (j1.2 h)
    by_cases z2 : v2 = 0
    · refine ⟨2, .inr (.inl ⟨rfl, n1, j2.1 z2⟩), first 2 ?_ z1⟩
      refine Ev.step (f := fun k => (impl_Hex_need.f k n l 2).bind fun t => if t = 0 then some 2 else impl_Hex_joiner.l0 k [1, 2] 2 2 n l) (fun k => ?_) (Ev.bind e2 (Ev.congr (f := fun _ => some 2) (fun k => by rw [if_pos z2]) (Ev.now _)))
      simp only [impl_Hex_joiner.l0]
      rw [if_pos (by decide), if_pos (by decide), if_pos (by decide), r1, w2]
    · refine ⟨0, .inr (.inr ⟨rfl, n1, fun h => z2 (j2.2 h)⟩), first 0 ?_ z1⟩
      refine Ev.step (f := fun k => (impl_Hex_need.f k n l 2).bind fun t => if t = 0 then some 2 else impl_Hex_joiner.l0 k [1, 2] 2 2 n l) (fun k => ?_) (Ev.bind e2 (Ev.congr (fun k => by rw [if_neg z2]) (Ev.step (f := fun _ => some 0) (fun k => ?_) (Ev.now _))))
      · simp only [impl_Hex_joiner.l0]
        rw [if_pos (by decide), if_pos (by decide), if_pos (by decide), r1, w2]
      · simp only [impl_Hex_joiner.l0]
        rw [if_neg (by decide)]
theorem joins_l2 {n : Nat} {l : List Int} {N : Nat} (hN : n * n = N) (hl : l.length = N) {p : Int} {a : Int} (ys : List Int) (hy : ∀ z ∈ ys, ∃ y : Nat, z = (y : Int) ∧ y < N) (hys : ys.length ≤ 100) (v : Bool) : ∀ (d j : Nat) (met : List Bool) (q : List Int), j + d = ys.length → met.length = N → q.length + d ≤ 1000 →
    Ev (fun k => spec_l06Joins.l1 k n l p (bfsNear l p (ys.drop j) met q).1 (bfsNear l p (ys.drop j) met q).2 (wrap64 (a + 1))) v → Ev (fun k => spec_l06Joins.l2 k n l p met q a ys j) v := by
  intro d
  induction d with
  | zero =>
    intro j met q hj hm hq h
    rw [List.drop_eq_nil_of_le (by omega)] at h
    refine Ev.step (fun k => ?_) h
    simp only [spec_l06Joins.l2, bfsNear]
    rw [if_neg (by omega)]
  | succ d ih =>
    intro j met q hj hm hq h
    have hlt : j < ys.length := by omega
    rw [List.drop_eq_getElem_cons hlt] at h
    obtain ⟨y, hye, hyl⟩ := hy ys[j] (List.getElem_mem hlt)
    have hr : rd ys (j : Int) = (y : Int) := by rw [rd_get ys j hlt, hye]
    rw [hye] at h
    have W1 := Aside0.mk (show wrap64 ((j : Int) + 1) = ((j + 1 : Nat) : Int) from wrap_next hlt (by omega))
    have hrd : rdOf false met (y : Int) = met.getD y false := by unfold rdOf; rw [Int.toNat_natCast]
    unfold bfsNear at h
    rw [Int.toNat_natCast] at h
    by_cases hc : met.getD y false = false ∧ rd l (y : Int) = p
    · rw [if_pos hc] at h
      have h' := ih (j + 1) (met.set y true) (q ++ [(y : Int)]) (by omega) (by rw [List.length_set]; exact hm) (by rw [List.length_append, List.length_singleton]; omega) h
      refine Ev.step (fun k => ?_) h'
      simp only [spec_l06Joins.l2]
      rw [if_pos (by omega), if_pos (by omega), hr, if_pos (by omega), if_pos (by omega), hrd, hc.1, if_neg (by simp), if_pos (by omega), if_pos hc.2, if_pos (by omega), W1.out, Int.toNat_natCast]
    · rw [if_neg hc] at h
      have h' := ih (j + 1) met q (by omega) hm (by omega) h
      refine Ev.step (fun k => ?_) h'
      simp only [spec_l06Joins.l2]
      rw [if_pos (by omega), if_pos (by omega), hr, if_pos (by omega), if_pos (by omega), hrd, W1.out]
      cases hmy : met.getD y false with
      | true => rw [if_pos rfl]
      | false => rw [if_neg (by simp), if_pos (by omega), if_neg (fun h => hc ⟨hmy, h⟩)]
/-- What the reference's test of the last line says. -/
theorem joins_l1 {n : Nat} {l : List Int} (h1 : 1 ≤ n) (h8 : n ≤ 8) (hl : l.length = n * n) {p : Int} (hp : p = 1 ∨ p = 2) : ∀ (d a : Nat) (met : List Bool) (q : List Int), a + d = n * n → BInv n l p met q → BDone n l p met q a → (∀ x : Nat, x < n * n → lineV (n : Int) p (x : Int) = 0 → rd l (x : Int) = p → met.getD x false = true) →
    ∃ b, (b = true ↔ JoinP n l p) ∧ Ev (fun k => spec_l06Joins.l1 k n l p met q a) b := by
  have hp0 : p ≠ 0 := by omega
  have h64 : n * n ≤ 64 := Nat.mul_le_mul h8 h8
  intro d
  induction d with
  | zero =>
    intro a met q ha hb hd hs
    have hq := hb.len
    have e : a = q.length := by have := hd.1; omega
    subst e
    refine ⟨false, ⟨fun h => by simp at h, fun h => absurd h (bfs_none h1 h8 hl hp0 hb hd hs)⟩, Ev.step (f := fun _ => some false) (fun k => ?_) (Ev.now _)⟩
    simp only [spec_l06Joins.l1]
    rw [if_neg (by omega)]
  | succ d ih =>
    intro a met q ha hb hd hs
    have hq := hb.len
    by_cases hlt : a < q.length
    · obtain ⟨x, hxe, hxl, hxc⟩ := hb.2.2.1 q[a] (List.getElem_mem hlt)
      have hr : rd q (a : Int) = (x : Int) := by rw [rd_get q a hlt, hxe]
      have HWN := Aside0.mk (show wrap64 ((n : Int) - 1) = (n : Int) - 1 from wrap_subJ h1 h8)
      have HLV := Aside0.mk (show lineV (n : Int) p (x : Int) = if p = 1 then wrap64 (Int.tdiv (x : Int) (n : Int)) else Int.tmod (x : Int) (n : Int) from rfl)
      have W1 := Aside0.mk (show wrap64 ((a : Int) + 1) = ((a + 1 : Nat) : Int) from wrap_next hlt (by omega))
      have hstep : ∀ b, Ev (fun k => spec_l06Joins.j2 k n l p met q a (x : Int) (decide (lineV (n : Int) p (x : Int) = (n : Int) - 1))) b → Ev (fun k => spec_l06Joins.l1 k n l p met q a) b := fun b h => by
        refine Ev.step (fun k => ?_) h
        simp only [spec_l06Joins.l1]
        rw [if_pos (by omega), if_pos (by omega), hr, HWN.out, HLV.out]
        rcases hp with rfl | rfl
        · rw [if_pos rfl, if_neg (by omega), if_pos rfl]
          by_cases hz : wrap64 (Int.tdiv (x : Int) (n : Int)) = (n : Int) - 1
          · rw [if_pos hz, decide_eq_true hz]
          · rw [if_neg hz, if_neg (by omega), decide_eq_false hz]
        · rw [if_neg (by omega), if_pos rfl, if_neg (by omega), if_neg (by omega)]
          rfl
      by_cases hlast : lineV (n : Int) p (x : Int) = (n : Int) - 1
      · refine ⟨true, ⟨fun _ => bfs_some h1 h8 hl hp0 hb (List.getElem_mem hlt) (by rw [hxe]; exact hlast), fun _ => rfl⟩, hstep true ?_⟩
        refine Ev.step (f := fun _ => some true) (fun k => ?_) (Ev.now _)
        simp only [spec_l06Joins.j2]
        rw [decide_eq_true hlast, if_pos rfl]
      · have hnear := near_all h1 h8 hl x (by omega)
        have hnear2 : ∀ z ∈ nearV (n : Int) (x : Int), ∃ y : Nat, z = (y : Int) ∧ y < n * n := fun z hz => by
          obtain ⟨y, e, hy⟩ := hnear z hz
          exact ⟨y, e, by omega⟩
        obtain ⟨B, ⟨t, hq2⟩, hmono, hall⟩ := bfsNear_ok hl hp0 hxc (nearV (n : Int) (x : Int)) met q (fun z hz => ⟨hz, hnear2 z hz⟩) hb
        have hd2 : BDone n l p (bfsNear l p (nearV (n : Int) (x : Int)) met q).1 (bfsNear l p (nearV (n : Int) (x : Int)) met q).2 (a + 1) := by
          refine ⟨by rw [hq2, List.length_append]; omega, fun j hj hja => ?_⟩
          have hje : (bfsNear l p (nearV (n : Int) (x : Int)) met q).2[j] = q[j]'(by omega) := by
            have : (bfsNear l p (nearV (n : Int) (x : Int)) met q).2[j]? = (q ++ t)[j]? := by rw [hq2]
            rw [List.getElem?_eq_getElem hj, List.getElem?_append_left (by omega), List.getElem?_eq_getElem (by omega)] at this
            exact Option.some.inj this
          rw [hje]
          by_cases e : j = a
          · subst e
            rw [hxe]
            exact ⟨hlast, hall⟩
          · obtain ⟨g1, g2⟩ := hd.2 j (by omega) (by omega)
            exact ⟨g1, fun z hz hzp => hmono _ (g2 z hz hzp)⟩
        obtain ⟨b, hb1, hb2⟩ := ih (a + 1) _ _ (by omega) B hd2 (fun y h1 h2 h3 => hmono y (hs y h1 h2 h3))
        refine ⟨b, hb1, hstep b ?_⟩
        have hne : Ev (fun k => spec_l06Near.f k (n : Int) (x : Int)) (nearV (n : Int) (x : Int)) := specNear_ev h1 h8 hxl
        have hlen : (nearV (n : Int) (x : Int)).length ≤ 6 := nearTo_le _ _ _ _
        have h2 := joins_l2 (a := (a : Int)) rfl hl (nearV (n : Int) (x : Int)) hnear2 (by omega) b (nearV (n : Int) (x : Int)).length 0 met q (by omega) hb.1 (by omega) (by rw [List.drop_zero, W1.out]; exact hb2)
        refine Ev.step (f := fun k => (spec_l06Near.f k n (x : Int)).bind fun t => spec_l06Joins.l2 k n l p met q a t 0) (fun k => ?_) (Ev.bind hne h2)
        simp only [spec_l06Joins.j2]
        rw [decide_eq_false hlast, if_neg (by simp)]
    · have e : a = q.length := by have := hd.1; omega
      subst e
      refine ⟨false, ⟨fun h => by simp at h, fun h => absurd h (bfs_none h1 h8 hl hp0 hb hd hs)⟩, Ev.step (f := fun _ => some false) (fun k => ?_) (Ev.now _)⟩
      simp only [spec_l06Joins.l1]
      rw [if_neg (by omega)]
def stC (n : Nat) (p : Int) (i : Nat) : Nat := if p = 2 then n * i else i
theorem joins_l0 {n : Nat} {l : List Int} (h1 : 1 ≤ n) (h8 : n ≤ 8) (hl : l.length = n * n) {p : Int} (hp : p = 1 ∨ p = 2) : ∀ (d i : Nat) (met : List Bool) (q : List Int), i + d = n → BInv n l p met q → (∀ y : Nat, met.getD y false = true → ∃ j, j < i ∧ y = stC n p j) → (∀ j, j < i → rd l ((stC n p j : Nat) : Int) = p → met.getD (stC n p j) false = true) →
    ∃ b, (b = true ↔ JoinP n l p) ∧ Ev (fun k => spec_l06Joins.l0 k n l p met q i) b := by
  have hp0 : p ≠ 0 := by omega
  have h64 : n * n ≤ 64 := Nat.mul_le_mul h8 h8
  have hst : ∀ j, j < n → stC n p j < n * n ∧ lineV (n : Int) p ((stC n p j : Nat) : Int) = 0 := fun j hj => by
    have hm : n * (j + 1) ≤ n * n := Nat.mul_le_mul_left n (by omega)
    rw [Nat.mul_succ] at hm
    unfold stC
    rcases hp with rfl | rfl
    · rw [if_neg (by omega)]
      have hj2 : j < n * n := by have : n * 1 ≤ n * n := Nat.mul_le_mul_left n h1; omega
      refine ⟨hj2, ?_⟩
      rw [line_val1 hj2 h8, if_pos rfl, Nat.div_eq_of_lt hj]
      rfl
    · rw [if_pos rfl]
      have hj2 : n * j < n * n := by omega
      refine ⟨hj2, ?_⟩
      rw [line_val1 hj2 h8, if_neg (by omega), Nat.mul_mod_right]
      rfl
  have hinj : ∀ i j, stC n p i = stC n p j → i = j := fun i j h => by
    unfold stC at h
    split at h
    · exact Nat.eq_of_mul_eq_mul_left h1 h
    · exact h
  intro d
  induction d with
  | zero =>
    intro i met q hi hb hmet hs
    have e : i = n := by omega
    subst e
    have hstart : ∀ x : Nat, x < i * i → lineV (i : Int) p (x : Int) = 0 → rd l (x : Int) = p → met.getD x false = true := fun x hx hlx hrx => by
      obtain ⟨c1, c2, c3⟩ := cell_split hx
      rw [line_val1 hx h8] at hlx
      rcases hp with rfl | rfl
      · rw [if_pos rfl] at hlx
        have e0 : x / i = 0 := by omega
        have e1 : x % i = x := by rw [e0] at c3; omega
        have := hs x (by omega)
        unfold stC at this
        rw [if_neg (by omega)] at this
        exact this hrx
      · rw [if_neg (by omega)] at hlx
        have e0 : x % i = 0 := by omega
        have := hs (x / i) c1
        unfold stC at this
        rw [if_pos rfl, show i * (x / i) = x by rw [Nat.mul_comm]; omega] at this
        exact this hrx
    obtain ⟨b, b1, b2⟩ := joins_l1 h1 h8 hl hp (i * i) 0 met q (by omega) hb ⟨Nat.zero_le _, fun j _ hj => by omega⟩ hstart
    refine ⟨b, b1, Ev.step (fun k => ?_) b2⟩
    simp only [spec_l06Joins.l0]
    rw [if_neg (by omega)]
    rfl
  | succ d ih =>
    intro i met q hi hb hmet hs
    have hin : i < n := by omega
    obtain ⟨s1, s2⟩ := hst i hin
    have W1 := Aside0.mk (show wrap64 ((i : Int) + 1) = ((i + 1 : Nat) : Int) from wrap_next hin (by omega))
    have hq := hb.len
    by_cases hr : rd l ((stC n p i : Nat) : Int) = p
    · have hnm : met.getD (stC n p i) false = false := by
        cases hm : met.getD (stC n p i) false with
        | false => rfl
        | true =>
          obtain ⟨j, hj, e⟩ := hmet _ hm
          have := hinj _ _ e
          omega
      obtain ⟨o1, o2⟩ := own_cost hp0 hr
      have hc := Cst.start (s := (n : Int)) (p := p) (l := l) (stC n p i) (by omega) s2 o1
      rw [o2] at hc
      obtain ⟨b, b1, b2⟩ := ih (i + 1) _ _ (by omega) (hb.put s1 hnm hc) (fun y hy => by
        by_cases e : stC n p i = y
        · exact ⟨i, by omega, e.symm⟩
        · rw [getDb_ne _ _ _ e] at hy
          obtain ⟨j, hj, e2⟩ := hmet y hy
          exact ⟨j, by omega, e2⟩) (fun j hj hrj => by
        by_cases e : stC n p i = stC n p j
        · rw [← e]; exact getDb_same _ _ (by rw [hb.1]; exact s1)
        · rw [getDb_ne _ _ _ e]
          exact hs j (by
            by_cases h : j = i
            · subst h; exact absurd rfl e
            · omega) hrj)
      refine ⟨b, b1, Ev.step (fun k => ?_) b2⟩
      simp only [spec_l06Joins.l0]
      have hml : met.length = n * n := hb.1
      rcases hp with rfl | rfl
      · have hsi : stC n 1 i = i := by unfold stC; rw [if_neg (by omega)]
        rw [hsi] at hr s1 ⊢
        rw [if_pos (by omega), if_neg (by omega), if_pos (by omega), if_pos (by omega), if_pos hr, if_pos (by omega), if_pos (by omega), W1.out, Int.toNat_natCast]
      · have hsi : stC n 2 i = n * i := by unfold stC; rw [if_pos rfl]
        rw [hsi] at hr s1 ⊢
        have HW := Aside0.mk (show wrap64 ((n : Int) * (i : Int)) = ((n * i : Nat) : Int) from by
          rw [← Int.natCast_mul]
          exact wrap_numJ (by omega))
        rw [if_pos (by omega), if_pos rfl, HW.out, if_pos (by omega), if_pos (by omega), if_pos hr, if_pos (by omega), if_pos (by omega), W1.out, Int.toNat_natCast]
    · obtain ⟨b, b1, b2⟩ := ih (i + 1) met q (by omega) hb (fun y hy => by
        obtain ⟨j, hj, e2⟩ := hmet y hy
        exact ⟨j, by omega, e2⟩) (fun j hj hrj => by
        by_cases h : j = i
        · subst h; exact absurd hrj hr
        · exact hs j (by omega) hrj)
      refine ⟨b, b1, Ev.step (fun k => ?_) b2⟩
      simp only [spec_l06Joins.l0]
      rcases hp with rfl | rfl
      · have hsi : stC n 1 i = i := by unfold stC; rw [if_neg (by omega)]
        rw [hsi] at hr s1
        rw [if_pos (by omega), if_neg (by omega), if_pos (by omega), if_pos (by omega), if_neg hr, W1.out]
      · have hsi : stC n 2 i = n * i := by unfold stC; rw [if_pos rfl]
        rw [hsi] at hr s1
        have HW := Aside0.mk (show wrap64 ((n : Int) * (i : Int)) = ((n * i : Nat) : Int) from by
          rw [← Int.natCast_mul]
          exact wrap_numJ (by omega))
        rw [if_pos (by omega), if_pos rfl, HW.out, if_pos (by omega), if_pos (by omega), if_neg hr, W1.out]
theorem specJoins_ev {n : Nat} {l : List Int} (h1 : 1 ≤ n) (h8 : n ≤ 8) (hl : l.length = n * n) {p : Int} (hp : p = 1 ∨ p = 2) : ∃ b, (b = true ↔ JoinP n l p) ∧ Ev (fun k => spec_l06Joins.f k n l p) b := by
  have h64 : n * n ≤ 64 := Nat.mul_le_mul h8 h8
  obtain ⟨b, b1, b2⟩ := joins_l0 h1 h8 hl hp n 0 _ _ (by omega) (BInv.empty n l p) (fun y hy => by
    rw [List.getD_eq_getElem?_getD, List.getElem?_replicate] at hy
    split at hy <;> simp at hy) (fun j hj => by omega)
  refine ⟨b, b1, Ev.congr (fun k => ?_) b2⟩
  unfold spec_l06Joins.f
  have hw : wrap64 ((n : Int) * (n : Int)) = ((n * n : Nat) : Int) := by
    rw [← Int.natCast_mul]
    exact wrap_numJ (by omega)
  rw [hw, if_pos (by omega), Int.toNat_natCast, if_pos (by omega)]
  rfl
theorem specJoiner_ev {n : Nat} {l : List Int} (h1 : 1 ≤ n) (h8 : n ≤ 8) (hl : l.length = n * n) : ∃ j, IsJ n l j ∧ Ev (fun k => spec_l06Joiner.f k n l) j := by
  obtain ⟨b1, j1, e1⟩ := specJoins_ev h1 h8 hl (p := 1) (.inl rfl)
  obtain ⟨b2, j2, e2⟩ := specJoins_ev h1 h8 hl (p := 2) (.inr rfl)
  have w1 : wrap64 (1 + 1) = 2 := by unfold wrap64; omega
  have w2 : wrap64 (2 + 1) = 3 := by unfold wrap64; omega
  unfold spec_l06Joiner.f
  cases b1 with
  | true =>
    refine ⟨1, .inl ⟨rfl, j1.1 rfl⟩, Ev.step (f := fun k => (spec_l06Joins.f k n l 1).bind fun t => if t = true then some 1 else spec_l06Joiner.l0 k n l 2) (fun k => ?_) (Ev.bind e1 (Ev.congr (f := fun _ => some 1) (fun k => by rw [if_pos rfl]) (Ev.now _)))⟩
    simp only [spec_l06Joiner.l0]
    rw [if_pos (by decide), w1]
  | false =>
    have n1 : ¬ JoinP n l 1 := fun h => by have := j1.2 h; simp at this
    have first : ∀ v, Ev (fun k => spec_l06Joiner.l0 k n l 2) v → Ev (fun k => spec_l06Joiner.l0 k n l 1) v := fun v hv => by
      refine Ev.step (f := fun k => (spec_l06Joins.f k n l 1).bind fun t => if t = true then some 1 else spec_l06Joiner.l0 k n l 2) (fun k => ?_) (Ev.bind e1 (Ev.congr (fun k => by rw [if_neg (by simp)]) hv))
      simp only [spec_l06Joiner.l0]
      rw [if_pos (by decide), w1]
    cases b2 with
    | true =>
      refine ⟨2, .inr (.inl ⟨rfl, n1, j2.1 rfl⟩), first 2 (Ev.step (f := fun k => (spec_l06Joins.f k n l 2).bind fun t => if t = true then some 2 else spec_l06Joiner.l0 k n l 3) (fun k => ?_) (Ev.bind e2 (Ev.congr (f := fun _ => some 2) (fun k => by rw [if_pos rfl]) (Ev.now _))))⟩
      simp only [spec_l06Joiner.l0]
      rw [if_pos (by decide), w2]
    | false =>
      refine ⟨0, .inr (.inr ⟨rfl, n1, fun h => by have := j2.2 h; simp at this⟩), first 0 (Ev.step (f := fun k => (spec_l06Joins.f k n l 2).bind fun t => if t = true then some 2 else spec_l06Joiner.l0 k n l 3) (fun k => ?_) (Ev.bind e2 (Ev.congr (fun k => by rw [if_neg (by simp)]) (Ev.step (f := fun _ => some 0) (fun k => ?_) (Ev.now _)))))⟩
      · simp only [spec_l06Joiner.l0]
        rw [if_pos (by decide), w2]
      · simp only [spec_l06Joiner.l0]
        rw [if_neg (by decide)]
/-- Who joins, as a function: what both sides say. -/
theorem joiner_fun : ∃ J : Nat → List Int → Int, ∀ (n : Nat) (l : List Int), isHexV (n : Int) l = true → IsJ n l (J n l) ∧ Ev (fun k => impl_Hex_joiner.f k n l) (J n l) ∧ Ev (fun k => spec_l06Joiner.f k n l) (J n l) := by
  have h : ∀ (n : Nat) (l : List Int), ∃ j : Int, isHexV (n : Int) l = true → IsJ n l j ∧ Ev (fun k => impl_Hex_joiner.f k n l) j ∧ Ev (fun k => spec_l06Joiner.f k n l) j := fun n l => by
    by_cases hv : isHexV (n : Int) l = true
    · obtain ⟨m, e, h1, h8, hl⟩ := hex_natJ hv
      have e : n = m := by omega
      subst e
      obtain ⟨j, a, b⟩ := implJoiner_ev hv h1 h8 hl
      obtain ⟨j', a', b'⟩ := specJoiner_ev (l := l) h1 h8 hl
      have := a.unique a'
      subst this
      exact ⟨j, fun _ => ⟨a, b, b'⟩⟩
    · exact ⟨0, fun h => absurd h hv⟩
  exact ⟨fun n l => Classical.choose (h n l), fun n l hv => Classical.choose_spec (h n l) hv⟩
-- Dead cells, plain. chosenTo isHexV isHexV_cells IsJ bit_nat shl_nat u64_nat i64_nat bitv_nat rd_get wrap_next inW_bool (for 8 10)
theorem chosen_pair (p : Int → Bool) : ∀ n : Nat, (chosenTo p n).Pairwise (· < ·) ∧ ∀ x ∈ chosenTo p n, 0 ≤ x ∧ x < (n : Int) ∧ p x = true
  | 0 => ⟨List.Pairwise.nil, fun x hx => absurd hx (by simp [chosenTo])⟩
  | n + 1 => by
    obtain ⟨h1, h2⟩ := chosen_pair p n
    have hs : chosenTo p (n + 1) = if p n then chosenTo p n ++ [(n : Int)] else chosenTo p n := rfl
    rw [hs]
    by_cases hp : p n = true
    · rw [if_pos hp]
      refine ⟨List.pairwise_append.2 ⟨h1, List.pairwise_singleton _ _, fun a ha b hb => ?_⟩, fun x hx => ?_⟩
      · rw [List.mem_singleton] at hb
        subst hb
        exact (h2 a ha).2.1
      · rcases List.mem_append.1 hx with hx | hx
        · obtain ⟨a, b, c⟩ := h2 x hx
          exact ⟨a, by omega, c⟩
        · rw [List.mem_singleton] at hx
          subst hx
          exact ⟨by omega, by omega, hp⟩
    · rw [if_neg hp]
      exact ⟨h1, fun x hx => by obtain ⟨a, b, c⟩ := h2 x hx; exact ⟨a, by omega, c⟩⟩
/-- The empty cells. -/
def emptyL (l : List Int) : List Int := chosenTo (fun c => rd l c == 0) l.length
def bitC (code k : Nat) : Int := if code.testBit k = true then 2 else 1
/-- A board with the empty cells given away by bits. -/
def fillTo (E : List Int) (code : Nat) (l : List Int) : Nat → List Int
  | 0 => l
  | k + 1 => (fillTo E code l k).set (rd E (k : Int)).toNat (bitC code k)
theorem fillTo_len (E : List Int) (code : Nat) (l : List Int) : ∀ k, (fillTo E code l k).length = l.length
  | 0 => rfl
  | k + 1 => by rw [fillTo, List.length_set, fillTo_len E code l k]
theorem hex_set {n : Nat} {l : List Int} (hv : isHexV (n : Int) l = true) (i : Nat) {v : Int} (h : v = 0 ∨ v = 1 ∨ v = 2) : isHexV (n : Int) (l.set i v) = true := by
  unfold isHexV at hv ⊢
  simp only [Bool.and_eq_true, Bool.not_eq_true'] at hv ⊢
  refine ⟨⟨hv.1.1, by rw [List.length_set]; exact hv.1.2⟩, ?_⟩
  rw [List.any_eq_false] at hv ⊢
  intro x hx
  rcases List.mem_or_eq_of_mem_set hx with h2 | h2
  · exact hv.2 x h2
  · subst h2
    rcases h with rfl | rfl | rfl <;> decide
theorem fillTo_hex {n : Nat} {l : List Int} (hv : isHexV (n : Int) l = true) (E : List Int) (code : Nat) : ∀ k, isHexV (n : Int) (fillTo E code l k) = true
  | 0 => hv
  | k + 1 => hex_set (fillTo_hex hv E code k) _ (by unfold bitC; split <;> omega)
/-- Another owner of one cell. -/
theorem fillTo_other (E : List Int) (l : List Int) {i : Nat} (c c' : Nat) (hc : ∀ k, k ≠ i → c'.testBit k = c.testBit k) : ∀ k, k ≤ i → fillTo E c' l k = fillTo E c l k
  | 0, _ => rfl
  | k + 1, hk => by
    rw [fillTo, fillTo, fillTo_other E l c c' hc k (by omega)]
    unfold bitC
    rw [hc k (by omega)]
theorem fillTo_set (E : List Int) (hE : E.Pairwise (· < ·)) (h0 : ∀ x ∈ E, 0 ≤ x) (l : List Int) {i : Nat} (hi : i < E.length) (c c' : Nat) (hc : ∀ k, k ≠ i → c'.testBit k = c.testBit k) : ∀ k, i < k → k ≤ E.length → fillTo E c' l k = (fillTo E c l k).set (rd E (i : Int)).toNat (bitC c' i)
  | 0, h, _ => by omega
  | k + 1, h, hk => by
    by_cases e : k = i
    · subst e
      rw [fillTo, fillTo, fillTo_other E l c c' hc k (Nat.le_refl _), List.set_set]
    · rw [fillTo, fillTo, fillTo_set E hE h0 l hi c c' hc k (by omega) (by omega)]
      have hb : bitC c' k = bitC c k := by unfold bitC; rw [hc k e]
      rw [hb, List.set_comm]
      have hlt := List.pairwise_iff_getElem.1 hE i k hi (by omega) (by omega)
      rw [rd_get E i hi, rd_get E k (by omega)]
      have := h0 E[i] (List.getElem_mem hi)
      omega
theorem xor_bit (c i k : Nat) : (c ^^^ 2 ^ i).testBit k = if k = i then !c.testBit k else c.testBit k := by
  rw [Nat.testBit_xor, Nat.testBit_two_pow]
  by_cases h : k = i
  · subst h; simp
  · rw [if_neg h, decide_eq_false (fun e => h e.symm)]; simp
theorem xor_lt {c i m : Nat} (hc : c < 2 ^ m) (hi : i < m) : c ^^^ 2 ^ i < 2 ^ m := Nat.xor_lt_two_pow hc (Nat.pow_lt_pow_right (by omega) hi)
theorem xor_xor (c i : Nat) : c ^^^ 2 ^ i ^^^ 2 ^ i = c := by rw [Nat.xor_assoc, Nat.xor_self, Nat.xor_zero]
theorem fill_flip (E : List Int) (hE : E.Pairwise (· < ·)) (h0 : ∀ x ∈ E, 0 ≤ x) (l : List Int) {i : Nat} (hi : i < E.length) {c : Nat} (hb : c.testBit i = false) : (fillTo E c l E.length).set (rd E (i : Int)).toNat 2 = fillTo E (c ^^^ 2 ^ i) l E.length := by
  have := fillTo_set E hE h0 l hi c (c ^^^ 2 ^ i) (fun k hk => by rw [xor_bit, if_neg hk]) E.length hi (Nat.le_refl _)
  rw [this]
  unfold bitC
  rw [xor_bit, if_pos rfl, hb]
  rfl
theorem bits_xor_nat (a b : Nat) (ha : a < 4611686018427387904) (hb : b < 4611686018427387904) : Go.bits .xor .i64 (a : Int) (b : Int) = ((a ^^^ b : Nat) : Int) := by
  have hx : a ^^^ b < 2 ^ 62 := Nat.xor_lt_two_pow (by omega) (by omega)
  show IntKind.i64.wrap ((BitVec.ofInt 64 (a : Int) ^^^ BitVec.ofInt 64 (b : Int)).toNat : Int) = _
  rw [BitVec.toNat_xor, bitv_nat a (by omega), bitv_nat b (by omega), i64_nat _ (by omega)]
theorem bit_val (code k : Nat) (hc : code < 9223372036854775808) (hk : k ≤ 64) : wrap64 (1 + Go.bits .and .i64 (shr .i64 (code : Int) (k : Int)) 1) = bitC code k := by
  rw [bit_nat code k hc hk]
  unfold bitC
  cases code.testBit k <;> simp [wrap64]
/-- All filled boards are joined by the same player, whoever has the cell i. -/
def DeadAll (J : Nat → Int) (m i : Nat) : Bool := decide (∀ c, c < 2 ^ m → J c = J (c ^^^ 2 ^ i))
def DeadS (J : Nat → Int) (i c d : Nat) : Prop := ∀ c', c ≤ c' → c' < c + d → c'.testBit i = false → J c' = J (c' ^^^ 2 ^ i)
theorem deadS_all (J : Nat → Int) {m i : Nat} (hi : i < m) : DeadAll J m i = true ↔ DeadS J i 0 (2 ^ m) := by
  unfold DeadAll DeadS
  rw [decide_eq_true_iff]
  constructor
  · exact fun h c _ hc _ => h c (by omega)
  · intro h c hc
    cases hb : c.testBit i with
    | false => exact h c (by omega) (by omega) hb
    | true =>
      have := h (c ^^^ 2 ^ i) (by omega) (by have := xor_lt hc hi; omega) (by rw [xor_bit, if_pos rfl, hb]; rfl)
      rw [xor_xor] at this
      exact this.symm
def deadTo (E : List Int) (A : Nat → Bool) : Nat → List Int
  | 0 => []
  | i + 1 => if A i = true then deadTo E A i ++ [rd E (i : Int)] else deadTo E A i
theorem deadTo_len (E : List Int) (A : Nat → Bool) : ∀ i, (deadTo E A i).length ≤ i
  | 0 => Nat.le_refl _
  | i + 1 => by
    have := deadTo_len E A i
    unfold deadTo
    split
    · rw [List.length_append, List.length_singleton]; omega
    · omega
theorem pow9 {m : Nat} (hm : m ≤ 9) : 2 ^ m ≤ 512 := Nat.le_trans (Nat.pow_le_pow_right (by omega) hm) (by simp)
theorem rdE {l E : List Int} (hE0 : ∀ x ∈ E, 0 ≤ x ∧ x < (l.length : Int)) {i : Nat} (hi : i < E.length) : ∃ e : Nat, rd E (i : Int) = (e : Int) ∧ e < l.length := by
  have := hE0 E[i] (List.getElem_mem hi)
  rw [rd_get E i hi]
  exact ⟨E[i].toNat, by omega, by omega⟩
theorem specDead_l2 {n : Nat} {l E : List Int} (hE : E.Pairwise (· < ·)) (hE0 : ∀ x ∈ E, 0 ≤ x ∧ x < (l.length : Int)) (hm : E.length ≤ 9) (hl : l.length ≤ 64) (out : List Int) {i c : Nat} (hi : i < E.length) (hc : c < 2 ^ E.length) (a b : Int) (v : List Int × Int)
    (e1 : Ev (fun k => spec_l06Joiner.f k n (fillTo E c l E.length)) a) (e2 : Ev (fun k => spec_l06Joiner.f k n ((fillTo E c l E.length).set (rd E (i : Int)).toNat 2)) b)
    (hn : Ev (fun k => spec_DeadCells.l1 k E out i (a == b) ((c + 1 : Nat) : Int) n l) v) : ∀ (d j : Nat), j + d = E.length → Ev (fun k => spec_DeadCells.l2 k E out i c (fillTo E c l j) j n l) v := by
  have hp := pow9 hm
  intro d
  induction d with
  | zero =>
    intro j hj
    have e : j = E.length := by omega
    subst e
    obtain ⟨e, he, hel⟩ := rdE hE0 hi
    have hfl := fillTo_len E c l E.length
    have W1 := Aside0.mk (show wrap64 ((c : Int) + 1) = ((c + 1 : Nat) : Int) from wrap_next hc (by omega))
    rw [he, Int.toNat_natCast] at e2
    refine Ev.step (f := fun k => (spec_l06Joiner.f k n (fillTo E c l E.length)).bind fun t => (spec_l06Joiner.f k n ((fillTo E c l E.length).set e 2)).bind fun t2 => spec_DeadCells.l1 k E out i (t == t2) ((c + 1 : Nat) : Int) n l) (fun k => ?_) (Ev.bind e1 (Ev.bind e2 hn))
    simp only [spec_DeadCells.l2]
    rw [if_neg (by omega), he, Int.toNat_natCast, W1.out]
    refine congrArg (Option.bind _) (funext fun t => ?_)
    rw [if_pos (by omega), if_pos (by omega), if_pos (by omega), if_pos (by omega)]
  | succ d ih =>
    intro j hj
    have h := ih (j + 1) (by omega)
    obtain ⟨e, he, hel⟩ := rdE hE0 (show j < E.length by omega)
    have hfl := fillTo_len E c l j
    have W1 := Aside0.mk (show wrap64 ((j : Int) + 1) = ((j + 1 : Nat) : Int) from wrap_next (show j < E.length by omega) (by omega))
    have HB := Aside0.mk (bit_val c j (by omega) (by omega))
    have HU := Aside0.mk (u64_nat j (by omega))
    refine Ev.step (fun k => ?_) h
    simp only [spec_DeadCells.l2, fillTo]
    rw [if_pos (by omega), HU.out, HB.out, W1.out, he, if_pos (by omega), if_pos (by omega), if_pos (by omega), if_pos (by omega)]
theorem specDead_l1 {n : Nat} {l E : List Int} (hE : E.Pairwise (· < ·)) (hE0 : ∀ x ∈ E, 0 ≤ x ∧ x < (l.length : Int)) (hm : E.length ≤ 9) (hl : l.length ≤ 64) (J : Nat → Int) (hJ : ∀ c : Nat, c < 2 ^ E.length → Ev (fun k => spec_l06Joiner.f k n (fillTo E c l E.length)) (J c)) (hown : ∀ x : List Int, x.length ≤ 64 → spec_l01Own.f x = some x) (out : List Int) (ho : out.length ≤ 1000) {i : Nat} (hi : i < E.length) (v : List Int × Int) : ∀ (d c : Nat), c + d = 2 ^ E.length →
    (DeadS J i c d → Ev (fun k => spec_DeadCells.l0 k E (out ++ [rd E (i : Int)]) ((i + 1 : Nat) : Int) n l) v) → (¬ DeadS J i c d → Ev (fun k => spec_DeadCells.l0 k E out ((i + 1 : Nat) : Int) n l) v) → Ev (fun k => spec_DeadCells.l1 k E out i true c n l) v := by
  have hp := pow9 hm
  have HS := Aside0.mk (shl_nat E.length (by omega))
  have HU := Aside0.mk (u64_nat E.length (by omega))
  have HUi := Aside0.mk (u64_nat i (by omega))
  have W1 := Aside0.mk (show wrap64 ((i : Int) + 1) = ((i + 1 : Nat) : Int) from wrap_next hi (by omega))
  have dead : ∀ c : Nat, c ≤ 2 ^ E.length → Ev (fun k => spec_DeadCells.l0 k E out ((i + 1 : Nat) : Int) n l) v → Ev (fun k => spec_DeadCells.l1 k E out i false c n l) v := fun c hc h => by
    refine Ev.step (f := fun k => spec_DeadCells.j2 k E out i false c false n l) (fun k => ?_) (Ev.step (fun k => ?_) h)
    · simp only [spec_DeadCells.l1]
      rw [HU.out, HS.out, if_pos (by omega)]
      split <;> rfl
    · simp only [spec_DeadCells.j2]
      rw [if_neg (by simp), if_neg (by simp), W1.out]
  intro d
  induction d with
  | zero =>
    intro c hc h1 _
    have h := h1 (fun c' a b => by omega)
    refine Ev.step (f := fun k => spec_DeadCells.j2 k E out i true c false n l) (fun k => ?_) (Ev.step (fun k => ?_) h)
    · simp only [spec_DeadCells.l1]
      rw [HU.out, HS.out, if_pos (by omega), if_neg (by omega)]
    · simp only [spec_DeadCells.j2]
      rw [if_neg (by simp), if_pos (by simp), if_pos (by omega), if_pos (by omega), if_pos (by omega), W1.out]
  | succ d ih =>
    intro c hc h1 h2
    have hcl : c < 2 ^ E.length := by omega
    have WC := Aside0.mk (show wrap64 ((c : Int) + 1) = ((c + 1 : Nat) : Int) from wrap_next hcl (by omega))
    have go : ∀ w, Ev (fun k => spec_DeadCells.j2 k E out i true c true n l) w → Ev (fun k => spec_DeadCells.l1 k E out i true c n l) w := fun w h => Ev.step (fun k => by
      simp only [spec_DeadCells.l1]
      rw [HU.out, HS.out, if_pos (by omega), if_pos (by omega)]) h
    have HBt := Aside0.mk (bit_nat c i (by omega) (by omega))
    cases hb : c.testBit i with
    | true =>
      have h := ih (c + 1) (by omega) (fun h => h1 (fun c' a b hb' => by
        by_cases e : c' = c
        · subst e; rw [hb] at hb'; cases hb'
        · exact h c' (by omega) (by omega) hb')) (fun h => h2 (fun h' => h (fun c' a b => h' c' (by omega) (by omega))))
      refine go v (Ev.step (fun k => ?_) h)
      simp only [spec_DeadCells.j2]
      rw [if_pos (by simp), HUi.out, if_pos (by omega), HBt.out, hb, if_pos rfl, if_pos rfl, WC.out]
    | false =>
      have e1 := hJ c hcl
      have e2 := hJ (c ^^^ 2 ^ i) (xor_lt hcl hi)
      rw [← fill_flip E hE (fun x hx => (hE0 x hx).1) l hi hb] at e2
      have fin : Ev (fun k => spec_DeadCells.l1 k E out i (J c == J (c ^^^ 2 ^ i)) ((c + 1 : Nat) : Int) n l) v := by
        by_cases hj : J c = J (c ^^^ 2 ^ i)
        · rw [beq_iff_eq.2 hj]
          exact ih (c + 1) (by omega) (fun h => h1 (fun c' a b hb' => by
            by_cases e : c' = c
            · subst e; exact hj
            · exact h c' (by omega) (by omega) hb')) (fun h => h2 (fun h' => h (fun c' a b => h' c' (by omega) (by omega))))
        · rw [beq_eq_false_iff_ne.2 hj]
          exact dead (c + 1) (by omega) (h2 (fun h => hj (h c (by omega) (by omega) hb)))
      have h := specDead_l2 hE hE0 hm hl out hi hcl (J c) (J (c ^^^ 2 ^ i)) v e1 e2 fin E.length 0 (by omega)
      refine go v (Ev.step (f := fun k => (spec_l01Own.f l).bind fun t => spec_DeadCells.l2 k E out i c t 0 n l) (fun k => ?_) ?_)
      · simp only [spec_DeadCells.j2]
        rw [if_pos (by simp), HUi.out, if_pos (by omega), HBt.out, hb, if_neg (by simp)]
      · rw [hown l hl]
        exact h
theorem specDead_l0 {n : Nat} {l E : List Int} (hE : E.Pairwise (· < ·)) (hE0 : ∀ x ∈ E, 0 ≤ x ∧ x < (l.length : Int)) (hm : E.length ≤ 9) (hl : l.length ≤ 64) (J : Nat → Int) (hJ : ∀ c : Nat, c < 2 ^ E.length → Ev (fun k => spec_l06Joiner.f k n (fillTo E c l E.length)) (J c)) (hown : ∀ x : List Int, x.length ≤ 64 → spec_l01Own.f x = some x) : ∀ (d i : Nat), i + d = E.length → Ev (fun k => spec_DeadCells.l0 k E (deadTo E (DeadAll J E.length) i) i n l) (deadTo E (DeadAll J E.length) E.length, 0) := by
  intro d
  induction d with
  | zero =>
    intro i hi
    have e : i = E.length := by omega
    subst e
    refine Ev.step (f := fun _ => some _) (fun k => ?_) (Ev.now _)
    simp only [spec_DeadCells.l0]
    rw [if_neg (by omega)]
  | succ d ih =>
    intro i hi
    have hil : i < E.length := by omega
    have h := ih (i + 1) (by omega)
    have hol := deadTo_len E (DeadAll J E.length) i
    rw [deadTo] at h
    have h1 := specDead_l1 hE hE0 hm hl J hJ hown (deadTo E (DeadAll J E.length) i) (by omega) hil (deadTo E (DeadAll J E.length) E.length, 0) (2 ^ E.length) 0 (by omega) (fun hd => by rw [if_pos ((deadS_all J hil).2 hd)] at h; exact h) (fun hd => by rw [if_neg (fun e => hd ((deadS_all J hil).1 e))] at h; exact h)
    refine Ev.step (fun k => ?_) h1
    simp only [spec_DeadCells.l0]
    rw [if_pos (by omega)]
    rfl
theorem implDead_l1 {n : Nat} {l E : List Int} (hE : E.Pairwise (· < ·)) (hE0 : ∀ x ∈ E, 0 ≤ x ∧ x < (l.length : Int)) (hm : E.length ≤ 9) (hl : l.length ≤ 64) (js : List Int) (hjs : js.length ≤ 1000) {c : Nat} (hc : c < 2 ^ E.length) (S : Int) (a : Int) (v : List Int × Int) (e1 : Ev (fun k => impl_Hex_joiner.f k n (fillTo E c l E.length)) a)
    (hn : Ev (fun k => impl_DeadCells.l0 k E (js ++ [a]) S ((c + 1 : Nat) : Int) n l) v) : ∀ (d j : Nat), j + d = E.length → Ev (fun k => impl_DeadCells.l1 k E js c S c E.length j n l n (fillTo E c l j)) v := by
  have hp := pow9 hm
  intro d
  induction d with
  | zero =>
    intro j hj
    have e : j = E.length := by omega
    subst e
    have W1 := Aside0.mk (show wrap64 ((c : Int) + 1) = ((c + 1 : Nat) : Int) from wrap_next hc (by omega))
    refine Ev.step (f := fun k => (impl_Hex_joiner.f k n (fillTo E c l E.length)).bind fun t => if js.length < 17592186044416 then impl_DeadCells.l0 k E (js ++ [t]) S ((c + 1 : Nat) : Int) n l else none) (fun k => ?_) (Ev.bind e1 (Ev.congr (fun k => by rw [if_pos (by omega)]) hn))
    simp only [impl_DeadCells.l1]
    rw [if_neg (by omega), W1.out]
  | succ d ih =>
    intro j hj
    have h := ih (j + 1) (by omega)
    obtain ⟨e, he, hel⟩ := rdE hE0 (show j < E.length by omega)
    have hfl := fillTo_len E c l j
    have W1 := Aside0.mk (show wrap64 ((j : Int) + 1) = ((j + 1 : Nat) : Int) from wrap_next (show j < E.length by omega) (by omega))
    have HB := Aside0.mk (bit_val c j (by omega) (by omega))
    refine Ev.step (fun k => ?_) h
    simp only [impl_DeadCells.l1, fillTo]
    rw [if_pos (by omega), HB.out, W1.out, he, if_pos (by omega), if_pos (by omega), if_pos (by omega), if_pos (by omega)]
/-- The dead test over the joiners. -/
theorem implDead_l3 {l E : List Int} (hE : E.Pairwise (· < ·)) (hE0 : ∀ x ∈ E, 0 ≤ x ∧ x < (l.length : Int)) (hm : E.length ≤ 9) (hl : l.length ≤ 64) (J : Nat → Int) (js : List Int) (hjl : js.length = 2 ^ E.length) (hj : ∀ c : Nat, c < 2 ^ E.length → rd js (c : Int) = J c) (out : List Int) (ho : out.length ≤ 1000) {i : Nat} (hi : i < E.length) (v : List Int × Int) : ∀ (d c : Nat) (b : Bool), c + d = 2 ^ E.length → (b = true ↔ ∀ c', c' < c → J c' = J (c' ^^^ 2 ^ i)) →
    (DeadAll J E.length i = true → Ev (fun k => impl_DeadCells.l2 k js (out ++ [rd E (i : Int)]) E E.length ((i + 1 : Nat) : Int)) v) → (¬ DeadAll J E.length i = true → Ev (fun k => impl_DeadCells.l2 k js out E E.length ((i + 1 : Nat) : Int)) v) →
    Ev (fun k => impl_DeadCells.l3 k js out i (rd E (i : Int)) b E E.length i js js.length c) v := by
  have hp := pow9 hm
  have W1 := Aside0.mk (show wrap64 ((i : Int) + 1) = ((i + 1 : Nat) : Int) from wrap_next hi (by omega))
  have HS := Aside0.mk (shl_nat i (by omega))
  intro d
  induction d with
  | zero =>
    intro c b hc hb h1 h2
    have e : c = 2 ^ E.length := by omega
    subst e
    have hd : b = true ↔ DeadAll J E.length i = true := by
      rw [hb]
      unfold DeadAll
      rw [decide_eq_true_iff]
    cases b with
    | true =>
      refine Ev.step (fun k => ?_) (h1 (hd.1 rfl))
      simp only [impl_DeadCells.l3]
      rw [if_neg (by omega), if_pos (by simp), if_pos (by omega), W1.out]
    | false =>
      refine Ev.step (fun k => ?_) (h2 (fun h => by have := hd.2 h; simp at this))
      simp only [impl_DeadCells.l3]
      rw [if_neg (by omega), if_neg (by simp), W1.out]
  | succ d ih =>
    intro c b hc hb h1 h2
    have hcl : c < 2 ^ E.length := by omega
    have hxl := xor_lt hcl hi
    have hpi : 2 ^ i < 4611686018427387904 := by
      have : 2 ^ i ≤ 2 ^ E.length := Nat.pow_le_pow_right (by omega) (by omega)
      omega
    have WC := Aside0.mk (show wrap64 ((c : Int) + 1) = ((c + 1 : Nat) : Int) from wrap_next hcl (by omega))
    have HX := Aside0.mk (bits_xor_nat c (2 ^ i) (by omega) hpi)
    cases b with
    | true =>
      have h := ih (c + 1) (J c == J (c ^^^ 2 ^ i)) (by omega) (by
        rw [beq_iff_eq]
        constructor
        · intro e c' hc'
          by_cases e2 : c' = c
          · subst e2; exact e
          · exact hb.1 rfl c' (by omega)
        · exact fun h => h c (by omega)) h1 h2
      refine Ev.step (fun k => ?_) h
      simp only [impl_DeadCells.l3]
      rw [if_pos (by omega), if_pos (by omega), if_pos (by omega), if_pos (by simp), if_pos (by omega), HS.out, HX.out, if_pos (by omega), if_pos (by omega), hj c hcl, hj _ hxl, WC.out]
    | false =>
      have h := ih (c + 1) false (by omega) ⟨fun h => by simp at h, fun h => hb.2 (fun c' hc' => h c' (by omega))⟩ h1 h2
      refine Ev.step (fun k => ?_) h
      simp only [impl_DeadCells.l3]
      rw [if_pos (by omega), if_pos (by omega), if_pos (by omega), if_neg (by simp), WC.out]
theorem implDead_l2 {l E : List Int} (hE : E.Pairwise (· < ·)) (hE0 : ∀ x ∈ E, 0 ≤ x ∧ x < (l.length : Int)) (hm : E.length ≤ 9) (hl : l.length ≤ 64) (J : Nat → Int) (js : List Int) (hjl : js.length = 2 ^ E.length) (hj : ∀ c : Nat, c < 2 ^ E.length → rd js (c : Int) = J c) : ∀ (d i : Nat), i + d = E.length → Ev (fun k => impl_DeadCells.l2 k js (deadTo E (DeadAll J E.length) i) E E.length i) (deadTo E (DeadAll J E.length) E.length, 0) := by
  intro d
  induction d with
  | zero =>
    intro i hi
    have e : i = E.length := by omega
    subst e
    refine Ev.step (f := fun _ => some _) (fun k => ?_) (Ev.now _)
    simp only [impl_DeadCells.l2]
    rw [if_neg (by omega)]
  | succ d ih =>
    intro i hi
    have hil : i < E.length := by omega
    have h := ih (i + 1) (by omega)
    have hol := deadTo_len E (DeadAll J E.length) i
    rw [deadTo] at h
    have h1 := implDead_l3 hE hE0 hm hl J js hjl hj (deadTo E (DeadAll J E.length) i) (by omega) hil (deadTo E (DeadAll J E.length) E.length, 0) (2 ^ E.length) 0 true (by omega) ⟨fun _ c' hc' => by omega, fun _ => rfl⟩ (fun hd => by rw [if_pos hd] at h; exact h) (fun hd => by rw [if_neg hd] at h; exact h)
    refine Ev.step (fun k => ?_) h1
    simp only [impl_DeadCells.l2]
    rw [if_pos (by omega), if_pos (by omega), if_pos (by omega)]
    rfl
theorem implDead_l0 {n : Nat} {l E : List Int} (hE : E.Pairwise (· < ·)) (hE0 : ∀ x ∈ E, 0 ≤ x ∧ x < (l.length : Int)) (hm : E.length ≤ 9) (hl : l.length ≤ 64) (J : Nat → Int) (hJ : ∀ c : Nat, c < 2 ^ E.length → Ev (fun k => impl_Hex_joiner.f k n (fillTo E c l E.length)) (J c)) (hcl : slices_Clone_int64_int64.f l = some l) : ∀ (d c : Nat) (js : List Int), c + d = 2 ^ E.length → js.length = c → (∀ c', c' < c → rd js (c' : Int) = J c') → Ev (fun k => impl_DeadCells.l0 k E js ((2 ^ E.length : Nat) : Int) c n l) (deadTo E (DeadAll J E.length) E.length, 0) := by
  have hp := pow9 hm
  intro d
  induction d with
  | zero =>
    intro c js hc hjl hj
    have e : c = 2 ^ E.length := by omega
    subst e
    have h := implDead_l2 hE hE0 hm hl J js hjl hj E.length 0 (by omega)
    refine Ev.step (fun k => ?_) h
    simp only [impl_DeadCells.l0]
    rw [if_neg (by omega)]
    rfl
  | succ d ih =>
    intro c js hc hjl hj
    have hlt : c < 2 ^ E.length := by omega
    have h := ih (c + 1) (js ++ [J c]) (by omega) (by rw [List.length_append, List.length_singleton, hjl]) (fun c' hc' => by
      have hl2 : c' < (js ++ [J c]).length := by rw [List.length_append, List.length_singleton]; omega
      rw [rd_get _ c' hl2]
      by_cases e : c' = c
      · subst e
        rw [List.getElem_append_right (by omega)]
        simp [hjl]
      · rw [List.getElem_append_left (by omega), ← rd_get js c' (by omega)]
        exact hj c' (by omega))
    have h1 := implDead_l1 hE hE0 hm hl js (by omega) hlt ((2 ^ E.length : Nat) : Int) (J c) _ (hJ c hlt) h E.length 0 (by omega)
    refine Ev.step (fun k => ?_) h1
    simp only [impl_DeadCells.l0]
    rw [if_pos (by omega), hcl, Option.bind_some]
    rfl
-- The empty cells, on the reference's side. emptyL chosenTo rd_get wrap_next (for 49 52 50)
theorem chosen_mono (p : Int → Bool) {i : Nat} : ∀ n, i ≤ n → (chosenTo p i).length ≤ (chosenTo p n).length
  | 0, h => by have : i = 0 := by omega
               subst this; exact Nat.le_refl _
  | n + 1, h => by
    by_cases e : i = n + 1
    · subst e; exact Nat.le_refl _
    · have := chosen_mono p n (show i ≤ n by omega)
      have hs : chosenTo p (n + 1) = if p n then chosenTo p n ++ [(n : Int)] else chosenTo p n := rfl
      rw [hs]
      split
      · rw [List.length_append]; omega
      · exact this
theorem three_small {m : Nat} (h : m ≤ 9) : 3 ^ m ≤ 19683 := Nat.le_trans (Nat.pow_le_pow_right (by omega) h) (by simp)
theorem three_wrap {a : Nat} (h : a ≤ 19683) : wrap64 ((a : Int) * 3) = ((a * 3 : Nat) : Int) := by unfold wrap64; omega
theorem specEmpty_ev (p : Int) (l : List Int) (hl : l.length ≤ 64) (hm : (emptyL l).length ≤ 9) : Ev (fun k => spec_l06Empty.f k p l) (emptyL l, List.replicate (3 ^ (emptyL l).length) 0) := by
  unfold spec_l06Empty.f
  have key : ∀ (d i : Nat), i + d = l.length → Ev (fun k => spec_l06Empty.l0 k (chosenTo (fun c => rd l c == 0) i) ((3 ^ (chosenTo (fun c => rd l c == 0) i).length : Nat) : Int) i p l) (emptyL l, List.replicate (3 ^ (emptyL l).length) 0) := by
    intro d
    induction d with
    | zero =>
      intro i hi
      have e : i = l.length := by omega
      subst e
      have h3 := three_small hm
      refine Ev.step (f := fun _ => some (emptyL l, List.replicate (3 ^ (emptyL l).length) 0)) (fun k => ?_) (Ev.now _)
      simp only [spec_l06Empty.l0]
      have he : (chosenTo (fun c => rd l c == 0) l.length) = emptyL l := rfl
      rw [he]
      generalize 3 ^ (emptyL l).length = w at h3 ⊢
      rw [if_neg (by omega), if_pos (by omega), if_pos (by omega), Int.toNat_natCast]
    | succ d ih =>
      intro i hi
      have hlt : i < l.length := by omega
      have W1 := Aside0.mk (show wrap64 ((i : Int) + 1) = ((i + 1 : Nat) : Int) from wrap_next hlt (by omega))
      have h := ih (i + 1) (by omega)
      have hs : chosenTo (fun c => rd l c == 0) (i + 1) = if (rd l (i : Int) == 0) = true then chosenTo (fun c => rd l c == 0) i ++ [(i : Int)] else chosenTo (fun c => rd l c == 0) i := rfl
      have hml : (chosenTo (fun c => rd l c == 0) i).length ≤ 9 := Nat.le_trans (chosen_mono _ l.length (by omega)) hm
      rw [hs] at h
      refine Ev.step (fun k => ?_) h
      simp only [spec_l06Empty.l0]
      rw [if_pos (by omega), if_pos (by omega), W1.out]
      by_cases hz : rd l (i : Int) = 0
      · have hb : (rd l (i : Int) == 0) = true := beq_iff_eq.2 hz
        have HW := Aside0.mk (three_wrap (three_small hml))
        rw [if_pos hz, if_pos (by omega), HW.out]
        simp only [hb, if_true, List.length_append, List.length_singleton]
        rw [Nat.pow_succ]
      · have hb : (rd l (i : Int) == 0) = false := beq_eq_false_iff_ne.2 hz
        rw [if_neg hz]
        simp only [hb, Bool.false_eq_true, if_false]
  exact key l.length 0 (by omega)
theorem firstDead_ev (a b : Bool) : Ev (fun k => impl_first.f k [⟨a, 1⟩, ⟨b, 3⟩]) (if a = true then (if b = true then 0 else 3) else 1) := by
  refine ⟨4, fun k hk => ?_⟩
  obtain ⟨k', rfl⟩ : ∃ k', k = k' + 4 := ⟨k - 4, by omega⟩
  have w1 : wrap64 1 = 1 := by unfold wrap64; omega
  have w2 : wrap64 2 = 2 := by unfold wrap64; omega
  have r0 : ∀ u v : S73, rd_T73 [u, v] 0 = u := fun _ _ => rfl
  have r1 : ∀ u v : S73, rd_T73 [u, v] 1 = v := fun _ _ => rfl
  cases a <;> cases b <;> simp [impl_first.f, impl_first.l0, w1, w2, r0, r1]
-- needs: 41 LibHexIs (boards, in plain words)
theorem chosenTo_count (l : List Int) (v : Int) : ∀ k, k ≤ l.length → (chosenTo (fun c => rd l c == v) k).length = (l.take k).count v
  | 0, _ => by simp [chosenTo]
  | k + 1, h => by
    have ih := chosenTo_count l v k (by omega)
    rw [List.take_succ_eq_append_getElem (by omega), List.count_append, ← ih]
    have hs : chosenTo (fun c => rd l c == v) (k + 1) = if (rd l (k : Int) == v) = true then chosenTo (fun c => rd l c == v) k ++ [(k : Int)] else chosenTo (fun c => rd l c == v) k := rfl
    rw [hs, rd_get l k (by omega)]
    by_cases e : l[k] = v
    · simp [e]
    · simp [e]
theorem chosenTo_all (l : List Int) (v : Int) : (chosenTo (fun c => rd l c == v) l.length).length = l.count v := by
  rw [chosenTo_count l v _ (Nat.le_refl _), List.take_length]
-- What the verifier writes into results, and finds there again.
def countUp : Int → Nat → List Int
  | _, 0 => []
  | m, n + 1 => m :: countUp (m + 1) n
theorem countUp_len : ∀ (n : Nat) (m : Int), (countUp m n).length = n
  | 0, _ => rfl
  | n + 1, m => by simp [countUp, countUp_len n]
theorem countUp_get : ∀ (n : Nat) (m : Int) (i : Nat) (h : i < (countUp m n).length), (countUp m n)[i] = m + i
  | 0, m, i, h => by simp [countUp] at h
  | n + 1, m, 0, h => by simp [countUp]
  | n + 1, m, i + 1, h => by
    have := countUp_get n (m + 1) i (by simpa [countUp] using h)
    simp only [countUp, List.getElem_cons_succ]
    rw [this]; omega
theorem mark_l0 (m0 : Int) (h0 : 0 ≤ m0) : ∀ (d i : Nat) (x : List Int), i + d = x.length → m0 + x.length ≤ 4611686018427387904 → (∀ (j : Nat) (hj : j < x.length), j < i → x[j] = m0 + j) →
    Ev (fun k => laws_markInt64S.l0 k x (m0 + i) i) (m0 + x.length, countUp m0 x.length) := by
  intro d
  induction d with
  | zero =>
    intro i x hi hb hx
    have e : x = countUp m0 x.length := by
      apply List.ext_getElem
      · rw [countUp_len]
      · intro j h1 h2
        rw [hx j h1 (by omega), countUp_get]
    refine Ev.step (f := fun _ => some (m0 + x.length, countUp m0 x.length)) (fun k => ?_) (Ev.now _)
    simp only [laws_markInt64S.l0]
    rw [if_neg (by omega), ← e]
    have : i = x.length := by omega
    rw [this]
  | succ d ih =>
    intro i x hi hb hx
    have hlt : i < x.length := by omega
    have := ih (i + 1) (x.set i (m0 + i)) (by simp; omega) (by simpa using hb) (fun j hj hji => by
      rw [List.getElem_set]
      split
      · rename_i e; rw [e]
      · rename_i e; exact hx j (by simpa using hj) (by omega))
    rw [List.length_set] at this
    refine Ev.step (fun k => ?_) this
    have w1 : wrap64 (m0 + i + 1) = m0 + ((i + 1 : Nat) : Int) := by unfold wrap64; omega
    have w2 : wrap64 ((i : Int) + 1) = ((i + 1 : Nat) : Int) := by unfold wrap64; omega
    simp only [laws_markInt64S.l0]
    rw [if_pos (by omega), if_pos (by omega), w1, w2, Int.toNat_natCast]
theorem mark_ev (m : Int) (h0 : 0 ≤ m) (x : List Int) (hb : m + x.length ≤ 4611686018427387904) : Ev (fun k => laws_markInt64S.f k x m) (m + x.length, countUp m x.length) := by
  have := mark_l0 m h0 x.length 0 x (by omega) hb (fun j _ h => by omega)
  refine Ev.congr (fun k => ?_) this
  unfold laws_markInt64S.f
  simp
theorem held_l0 (m0 : Int) (h0 : 0 ≤ m0) (x : List Int) (hb : m0 + x.length ≤ 4611686018427387904) (hx : ∀ (j : Nat) (hj : j < x.length), x[j] = m0 + j) : ∀ (d i : Nat), i + d = x.length →
    Ev (fun k => laws_heldInt64S.l0 k x (m0 + i) i) (m0 + x.length) := by
  intro d
  induction d with
  | zero =>
    intro i hi
    refine Ev.step (f := fun _ => some (m0 + x.length)) (fun k => ?_) (Ev.now _)
    simp only [laws_heldInt64S.l0]
    rw [if_neg (by omega)]
    have : i = x.length := by omega
    rw [this]
  | succ d ih =>
    intro i hi
    have hlt : i < x.length := by omega
    refine Ev.step (fun k => ?_) (ih (i + 1) (by omega))
    have w1 : wrap64 (m0 + i + 1) = m0 + ((i + 1 : Nat) : Int) := by unfold wrap64; omega
    have w2 : wrap64 ((i : Int) + 1) = ((i + 1 : Nat) : Int) := by unfold wrap64; omega
    simp only [laws_heldInt64S.l0]
    rw [if_pos (by omega), if_pos (by omega), rd_get x i hlt, hx i hlt, if_pos rfl, w1, w2]
theorem held_ev (m : Int) (h0 : 0 ≤ m) (n : Nat) (hb : m + n ≤ 4611686018427387904) : Ev (fun k => laws_heldInt64S.f k (countUp m n) m) (m + n) := by
  have := held_l0 m h0 (countUp m n) (by rw [countUp_len]; exact hb) (fun j hj => countUp_get n m j hj) n 0 (by rw [countUp_len]; omega)
  rw [countUp_len] at this
  refine Ev.congr (fun k => ?_) this
  unfold laws_heldInt64S.f
  simp
-- The reference's count of a board. isHexV_cells hex_small (for 48)
def moverV (l : List Int) : Int := if l.count 1 = l.count 2 then 1 else if l.count 1 = l.count 2 + 1 then 2 else 0
theorem l06Mover_l0 (p : Int) (l : List Int) (hl : l.length ≤ 1000000) (hx : ∀ x ∈ l, x = 0 ∨ x = 1 ∨ x = 2) : ∀ (d i : Nat), i + d = l.length →
    Ev (fun k => spec_l06Mover.l0 k [((l.take i).count 0 : Int), ((l.take i).count 1 : Int), ((l.take i).count 2 : Int)] i p l) (moverV l, (l.count 0 : Int)) := by
  intro d
  induction d with
  | zero =>
    intro i hi
    have e : l.take i = l := List.take_of_length_le (by omega)
    rw [e]
    have b1 := List.count_le_length (a := (1 : Int)) (l := l)
    have b2 := List.count_le_length (a := (2 : Int)) (l := l)
    refine Ev.step (f := fun _ => some _) (fun k => ?_) (Ev.now _)
    simp only [spec_l06Mover.l0]
    rw [if_neg (by omega), if_pos (by simp), if_pos (by simp)]
    have r0 : rd [(l.count 0 : Int), (l.count 1 : Int), (l.count 2 : Int)] 0 = (l.count 0 : Int) := rfl
    have r1 : rd [(l.count 0 : Int), (l.count 1 : Int), (l.count 2 : Int)] 1 = (l.count 1 : Int) := rfl
    have r2 : rd [(l.count 0 : Int), (l.count 1 : Int), (l.count 2 : Int)] 2 = (l.count 2 : Int) := rfl
    have ew : wrap64 ((l.count 1 : Int) - (l.count 2 : Int)) = (l.count 1 : Int) - (l.count 2 : Int) := by unfold wrap64; omega
    rw [r0, r1, r2, ew]
    unfold moverV
    by_cases h1 : l.count 1 = l.count 2
    · rw [if_pos h1, if_pos (by omega), if_pos (by simp)]
    · rw [if_neg h1, if_neg (by omega)]
      by_cases h2 : l.count 1 = l.count 2 + 1
      · rw [if_pos h2, if_pos (by omega), if_pos (by simp)]
      · rw [if_neg h2, if_neg (by omega), if_pos (by simp)]
  | succ d ih =>
    intro i hi
    have hlt : i < l.length := by omega
    have ih1 := ih (i + 1) (by omega)
    refine Ev.step (fun k => ?_) ih1
    have b (v : Int) : (l.take i).count v ≤ l.length := Nat.le_trans List.count_le_length (by simp; omega)
    have b0 := b 0; have b1 := b 1; have b2 := b 2
    simp only [spec_l06Mover.l0]
    rw [if_pos (by omega), if_pos (by omega), rd_get l i hlt, wrap_next hlt (by omega)]
    rw [List.take_succ_eq_append_getElem hlt, List.count_append, List.count_append, List.count_append]
    have hr0 (a b c : Int) : rd [a, b, c] 0 = a := rfl
    have hr1 (a b c : Int) : rd [a, b, c] 1 = b := rfl
    have hr2 (a b c : Int) : rd [a, b, c] 2 = c := rfl
    have ew (a : Nat) (h : a ≤ l.length) : wrap64 ((a : Int) + 1) = ((a + 1 : Nat) : Int) := by unfold wrap64; omega
    rcases hx l[i] (List.getElem_mem hlt) with e | e | e
    · rw [e, if_pos (by omega), if_pos (by simp), hr0, ew _ b0]
      simp
    · rw [e, if_pos (by omega), if_pos (by simp), hr1, ew _ b1]
      simp
    · rw [e, if_pos (by omega), if_pos (by simp), hr2, ew _ b2]
      simp
theorem l06Mover_ev {p : Int} {l : List Int} (h : isHexV p l = true) : Ev (fun k => spec_l06Mover.f k p l) (moverV l, (l.count 0 : Int)) := by
  have := l06Mover_l0 p l (by have := hex_small h; omega) (isHexV_cells h).2.2.2 l.length 0 (by omega)
  exact this
/-- The one pure statement of laws_FnExactDeadCells. -/
def laws_FnExactDeadCells.Pure : Prop := ∀ (a0_0 : Int) (l0_1 : List Int), (Lit.int .i64 a0_0).wf = true → (l0_1.length ≤ maxLen ∧ ∀ y1_ ∈ l0_1, (Lit.int .i64 y1_).wf = true) → ∃ k, laws_FnExactDeadCells.f k a0_0 l0_1 = some true

end Go.Proofs.Ytbmiojnkfgcfoaa.F
