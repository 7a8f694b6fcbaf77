-- written by the session's program xp.py over the kit's print program, and by hand; texts joined by pack.py
import Derived.Test.YtcjeccohlmmfoaaKFnExactFirstDouble4
namespace Go.Proofs.Ytcjeccohlmmfoaa.F
open Go.RowKit Go.Proofs.YtcjeccohlmmfoaaW.PrintWords Go.Proofs.YtcjeccohlmmfoaaW.PrintLast Go.Proofs.YtcjeccohlmmfoaaW.PrintMore
attribute [local go_sem] max2_int min2_int max_two min_two max_three min_three max_four min_four   -- for this text's walks alone
set_option linter.unusedVariables false
set_option linter.unusedSimpArgs false

/-! ### laws_FnExactFirstDouble: function 7 -/
mutual
def laws_FnExactFirstDouble.j0 : Nat → List Int → Int → List Int → Int → Bool → Int → List (List Int) → Int → List (List Int) → Option (Bool)
 | 0, _, _, _, _, _, _, _, _, _ => none
 | k + 1, x4, x5, x7, x8, x40, x315000, x315001, x329000, x329001 => if x40 = true then (some false) else ((laws_toNet.f k x315000 x315001).bind fun bt334 => ((laws_eqNet.f k x329000 x329001 bt334.1 bt334.2).bind fun t338 => (if t338 = true then ((laws_markNet.f k x329000 x329001 1).bind fun bt339 => (if bt339.1 < 0 then (laws_FnExactFirstDouble.j1 k x4 x5 x7 true x315000 x315001) else ((laws_eqInt64S.f k x7 x4).bind fun t341 => (if t341 = true then (laws_FnExactFirstDouble.j1 k x4 x5 x7 (x8 != x5) x315000 x315001) else (laws_FnExactFirstDouble.j1 k x4 x5 x7 true x315000 x315001))))) else (some false))))
def laws_FnExactFirstDouble.j1 : Nat → List Int → Int → List Int → Bool → Int → List (List Int) → Option (Bool)
 | 0, _, _, _, _, _, _ => none
 | k + 1, x4, x5, x7, x61, x315000, x315001 => if x61 = true then (some false) else ((laws_markInt64S.f k x7 1).bind fun bt342 => ((laws_heldInt64S.f k bt342.2 1).bind fun t344 => (if t344 < 0 then (some false) else (if t344 = bt342.1 then ((laws_toNet.f k x315000 x315001).bind fun bt345 => ((impl_FirstDouble.f k bt345.1 bt345.2).bind fun bt349 => ((laws_eqInt64S.f k bt349.1 x4).bind fun t353 => (if t353 = true then (laws_FnExactFirstDouble.j2 k bt342.2 bt342.1 (bt349.2 != x5)) else (laws_FnExactFirstDouble.j2 k bt342.2 bt342.1 true))))) else (some false)))))
def laws_FnExactFirstDouble.j2 : Nat → List Int → Int → Bool → Option (Bool)
 | 0, _, _, _ => none
 | k + 1, x7, x10, x87 => if x87 = true then (some false) else ((laws_heldInt64S.f k x7 1).bind fun t354 => (if t354 < 0 then (some false) else (if t354 = x10 then (some true) else (some false))))
end
def laws_FnExactFirstDouble.f (k : Nat) (a0_0 : Int) (l0_1 : List (List Int)) : Option (Bool) := (laws_szNet.f k a0_0 l0_1 1048576).bind fun t315 => (if t315 < 0 then (some true) else ((laws_toNet.f k a0_0 l0_1).bind fun bt316 => ((spec_FirstDouble.f k bt316.1 bt316.2).bind fun bt320 => ((laws_toNet.f k a0_0 l0_1).bind fun bt324 => ((impl_FirstDouble.f k bt324.1 bt324.2).bind fun bt329 => ((laws_eqInt64S.f k bt329.1 bt320.1).bind fun t333 => (if t333 = true then (laws_FnExactFirstDouble.j0 k bt320.1 bt320.2 bt329.1 bt329.2 (bt329.2 != bt320.2) a0_0 l0_1 bt324.1 bt324.2) else (laws_FnExactFirstDouble.j0 k bt320.1 bt320.2 bt329.1 bt329.2 true a0_0 l0_1 bt324.1 bt324.2))))))))
theorem laws_FnExactFirstDouble.mono_l : ∀ k, (∀ y0 y1 y2 y3 y4 y5 y6 y7 y8, LeO (laws_FnExactFirstDouble.j0 k y0 y1 y2 y3 y4 y5 y6 y7 y8) (laws_FnExactFirstDouble.j0 (k + 1) y0 y1 y2 y3 y4 y5 y6 y7 y8)) ∧ (∀ y0 y1 y2 y3 y4 y5, LeO (laws_FnExactFirstDouble.j1 k y0 y1 y2 y3 y4 y5) (laws_FnExactFirstDouble.j1 (k + 1) y0 y1 y2 y3 y4 y5)) ∧ (∀ y0 y1 y2, LeO (laws_FnExactFirstDouble.j2 k y0 y1 y2) (laws_FnExactFirstDouble.j2 (k + 1) y0 y1 y2))
 | 0 => ⟨fun _ _ _ _ _ _ _ _ _ r h => by simp [laws_FnExactFirstDouble.j0] at h, fun _ _ _ _ _ _ r h => by simp [laws_FnExactFirstDouble.j1] at h, fun _ _ _ r h => by simp [laws_FnExactFirstDouble.j2] at h⟩
 | k + 1 => by
  obtain ⟨ih0, ih1, ih2⟩ := laws_FnExactFirstDouble.mono_l k
  refine ⟨?_, ?_, ?_⟩
  ·intro y0 y1 y2 y3 y4 y5 y6 y7 y8
   unfold laws_FnExactFirstDouble.j0
   repeat' first
   | (with_reducible exact ih0 _ _ _ _ _ _ _ _ _)
   | (with_reducible exact ih1 _ _ _ _ _ _)
   | (with_reducible exact ih2 _ _ _)
   | (with_reducible exact impl_FirstDouble.mono _ _ _)
   | (with_reducible exact laws_eqInt64S.mono _ _ _)
   | (with_reducible exact laws_eqNet.mono _ _ _ _ _)
   | (with_reducible exact laws_heldInt64S.mono _ _ _)
   | (with_reducible exact laws_markInt64S.mono _ _ _)
   | (with_reducible exact laws_markNet.mono _ _ _ _)
   | (with_reducible exact laws_szNet.mono _ _ _ _)
   | (with_reducible exact laws_toNet.mono _ _ _)
   | (with_reducible exact spec_FirstDouble.mono _ _ _)
   | (with_reducible exact LeO.refl _)
   | (with_reducible exact LeO.none _)
   | (with_reducible refine LeO.ite ?_ ?_)
   | (with_reducible refine LeO.bind ?_ (fun _ => ?_))
   | exact ih0 _ _ _ _ _ _ _ _ _
   | exact ih1 _ _ _ _ _ _
   | exact ih2 _ _ _
   | exact impl_FirstDouble.mono _ _ _
   | exact laws_eqInt64S.mono _ _ _
   | exact laws_eqNet.mono _ _ _ _ _
   | exact laws_heldInt64S.mono _ _ _
   | exact laws_markInt64S.mono _ _ _
   | exact laws_markNet.mono _ _ _ _
   | exact laws_szNet.mono _ _ _ _
   | exact laws_toNet.mono _ _ _
   | exact spec_FirstDouble.mono _ _ _
   | exact LeO.none _
   | refine LeO.ite ?_ ?_
   | refine LeO.bind ?_ (fun _ => ?_)
  ·intro y0 y1 y2 y3 y4 y5
   unfold laws_FnExactFirstDouble.j1
   repeat' first
   | (with_reducible exact ih0 _ _ _ _ _ _ _ _ _)
   | (with_reducible exact ih1 _ _ _ _ _ _)
   | (with_reducible exact ih2 _ _ _)
   | (with_reducible exact impl_FirstDouble.mono _ _ _)
   | (with_reducible exact laws_eqInt64S.mono _ _ _)
   | (with_reducible exact laws_eqNet.mono _ _ _ _ _)
   | (with_reducible exact laws_heldInt64S.mono _ _ _)
   | (with_reducible exact laws_markInt64S.mono _ _ _)
   | (with_reducible exact laws_markNet.mono _ _ _ _)
   | (with_reducible exact laws_szNet.mono _ _ _ _)
   | (with_reducible exact laws_toNet.mono _ _ _)
   | (with_reducible exact spec_FirstDouble.mono _ _ _)
   | (with_reducible exact LeO.refl _)
   | (with_reducible exact LeO.none _)
   | (with_reducible refine LeO.ite ?_ ?_)
   | (with_reducible refine LeO.bind ?_ (fun _ => ?_))
   | exact ih0 _ _ _ _ _ _ _ _ _
   | exact ih1 _ _ _ _ _ _
   | exact ih2 _ _ _
   | exact impl_FirstDouble.mono _ _ _
   | exact laws_eqInt64S.mono _ _ _
   | exact laws_eqNet.mono _ _ _ _ _
   | exact laws_heldInt64S.mono _ _ _
   | exact laws_markInt64S.mono _ _ _
   | exact laws_markNet.mono _ _ _ _
   | exact laws_szNet.mono _ _ _ _
   | exact laws_toNet.mono _ _ _
   | exact spec_FirstDouble.mono _ _ _
   | exact LeO.none _
   | refine LeO.ite ?_ ?_
   | refine LeO.bind ?_ (fun _ => ?_)
  ·intro y0 y1 y2
   unfold laws_FnExactFirstDouble.j2
   repeat' first
   | (with_reducible exact ih0 _ _ _ _ _ _ _ _ _)
   | (with_reducible exact ih1 _ _ _ _ _ _)
   | (with_reducible exact ih2 _ _ _)
   | (with_reducible exact impl_FirstDouble.mono _ _ _)
   | (with_reducible exact laws_eqInt64S.mono _ _ _)
   | (with_reducible exact laws_eqNet.mono _ _ _ _ _)
   | (with_reducible exact laws_heldInt64S.mono _ _ _)
   | (with_reducible exact laws_markInt64S.mono _ _ _)
   | (with_reducible exact laws_markNet.mono _ _ _ _)
   | (with_reducible exact laws_szNet.mono _ _ _ _)
   | (with_reducible exact laws_toNet.mono _ _ _)
   | (with_reducible exact spec_FirstDouble.mono _ _ _)
   | (with_reducible exact LeO.refl _)
   | (with_reducible exact LeO.none _)
   | (with_reducible refine LeO.ite ?_ ?_)
   | (with_reducible refine LeO.bind ?_ (fun _ => ?_))
   | exact ih0 _ _ _ _ _ _ _ _ _
   | exact ih1 _ _ _ _ _ _
   | exact ih2 _ _ _
   | exact impl_FirstDouble.mono _ _ _
   | exact laws_eqInt64S.mono _ _ _
   | exact laws_eqNet.mono _ _ _ _ _
   | exact laws_heldInt64S.mono _ _ _
   | exact laws_markInt64S.mono _ _ _
   | exact laws_markNet.mono _ _ _ _
   | exact laws_szNet.mono _ _ _ _
   | exact laws_toNet.mono _ _ _
   | exact spec_FirstDouble.mono _ _ _
   | exact LeO.none _
   | refine LeO.ite ?_ ?_
   | refine LeO.bind ?_ (fun _ => ?_)
theorem laws_FnExactFirstDouble.mono : ∀ a0 a1 k, LeO (laws_FnExactFirstDouble.f k a0 a1) (laws_FnExactFirstDouble.f (k + 1) a0 a1) := by
 intro a0 a1 k
 obtain ⟨ih0, ih1, ih2⟩ := laws_FnExactFirstDouble.mono_l k
 unfold laws_FnExactFirstDouble.f
 repeat' first
   | (with_reducible exact ih0 _ _ _ _ _ _ _ _ _)
   | (with_reducible exact ih1 _ _ _ _ _ _)
   | (with_reducible exact ih2 _ _ _)
   | (with_reducible exact impl_FirstDouble.mono _ _ _)
   | (with_reducible exact laws_eqInt64S.mono _ _ _)
   | (with_reducible exact laws_eqNet.mono _ _ _ _ _)
   | (with_reducible exact laws_heldInt64S.mono _ _ _)
   | (with_reducible exact laws_markInt64S.mono _ _ _)
   | (with_reducible exact laws_markNet.mono _ _ _ _)
   | (with_reducible exact laws_szNet.mono _ _ _ _)
   | (with_reducible exact laws_toNet.mono _ _ _)
   | (with_reducible exact spec_FirstDouble.mono _ _ _)
   | (with_reducible exact LeO.refl _)
   | (with_reducible exact LeO.none _)
   | (with_reducible refine LeO.ite ?_ ?_)
   | (with_reducible refine LeO.bind ?_ (fun _ => ?_))
   | exact ih0 _ _ _ _ _ _ _ _ _
   | exact ih1 _ _ _ _ _ _
   | exact ih2 _ _ _
   | exact impl_FirstDouble.mono _ _ _
   | exact laws_eqInt64S.mono _ _ _
   | exact laws_eqNet.mono _ _ _ _ _
   | exact laws_heldInt64S.mono _ _ _
   | exact laws_markInt64S.mono _ _ _
   | exact laws_markNet.mono _ _ _ _
   | exact laws_szNet.mono _ _ _ _
   | exact laws_toNet.mono _ _ _
   | exact spec_FirstDouble.mono _ _ _
   | exact LeO.none _
   | refine LeO.ite ?_ ?_
   | refine LeO.bind ?_ (fun _ => ?_)
set_option maxHeartbeats 8000000 in
set_option maxRecDepth 100000 in
theorem laws_FnExactFirstDouble.calls (k : Nat) (a0_0 : Int) (A0_1 : Option Addr) (c0_1 : Nat) (l0_1 : List (List Int)) (r : Bool) (w : World) (hr0_1 : Kd.C (Kd.slice 2 (Kd.int .i64)) w A0_1 l0_1.length l0_1) (hc0_1 : l0_1.length ≤ c0_1) (h : laws_FnExactFirstDouble.f k a0_0 l0_1 = some r) :
  Calls Try.prog 7 #[.agg #[.int .i64 a0_0, .slice A0_1 l0_1.length c0_1]] w fun e w' => e = .returned (.bool r) ∧ Below w.heap.size w w' := by
 have hu30 := Try.underlying30
 have hu33 := Try.underlying33
 have HR0_1 := Aside0.mk hr0_1
 have HC0_1 := Aside0.mk hc0_1
 clear hr0_1 hc0_1
 have HB := Aside0.mk (Below.refl w.heap.size w)
 have H : ((laws_szNet.f k a0_0 l0_1 1048576).bind fun t315 => (if t315 < 0 then (some true) else ((laws_toNet.f k a0_0 l0_1).bind fun bt316 => ((spec_FirstDouble.f k bt316.1 bt316.2).bind fun bt320 => ((laws_toNet.f k a0_0 l0_1).bind fun bt324 => ((impl_FirstDouble.f k bt324.1 bt324.2).bind fun bt329 => ((laws_eqInt64S.f k bt329.1 bt320.1).bind fun t333 => (if t333 = true then (laws_FnExactFirstDouble.j0 k bt320.1 bt320.2 bt329.1 bt329.2 (bt329.2 != bt320.2) a0_0 l0_1 bt324.1 bt324.2) else (laws_FnExactFirstDouble.j0 k bt320.1 bt320.2 bt329.1 bt329.2 true a0_0 l0_1 bt324.1 bt324.2))))))))) = some r := h
 clear h
 replace H := Option.bind_eq_some_iff.mp H
 obtain ⟨t315, A20, H⟩ := H
 replace H : (if t315 < 0 then (some true) else ((laws_toNet.f k a0_0 l0_1).bind fun bt316 => ((spec_FirstDouble.f k bt316.1 bt316.2).bind fun bt320 => ((laws_toNet.f k a0_0 l0_1).bind fun bt324 => ((impl_FirstDouble.f k bt324.1 bt324.2).bind fun bt329 => ((laws_eqInt64S.f k bt329.1 bt320.1).bind fun t333 => (if t333 = true then (laws_FnExactFirstDouble.j0 k bt320.1 bt320.2 bt329.1 bt329.2 (bt329.2 != bt320.2) a0_0 l0_1 bt324.1 bt324.2) else (laws_FnExactFirstDouble.j0 k bt320.1 bt320.2 bt329.1 bt329.2 true a0_0 l0_1 bt324.1 bt324.2)))))))) = some r := H
 have A2 := Aside0.mk A20
 clear A20
 by_cases c3 : t315 < 0
 ·rw [if_pos c3] at H
  have c3b0 : decide (t315 < 0) = true := decide_eq_true c3
  clear c3
  obtain rfl := Option.some.inj H
  go_enter Try.func7, Try.ntmps7
  go_wp2_with (first | ((with_reducible refine gate_dst (N := 1) rfl ?_); refine box_event ?hg (N := 1) ?hd (cs := #[.int .i64 a0_0, .slice A0_1 l0_1.length c0_1]) (t := 30) ?hr ?_; (case hd => rfl); (case hg => rfl); (case hr => first | (go_simp; done) | (go_simp; rfl)); intro gb314 hg w4 hbox hb; have n0_ := Aside0.mk (below_step (by repeat (first | (with_reducible first | exact HB.out | apply below_alloc | apply pw_below_drewN | apply below_drew1) | exact HB.out)) hb); have n1_ := Aside0.mk (hbox); have n2_ := Aside0.mk ((by rw [hg]; exact (below_size (by repeat (first | (with_reducible first | exact HB.out | apply below_alloc | apply pw_below_drewN | apply below_drew1) | exact HB.out))) : w.heap.size ≤ gb314)); have n3_ := Aside0.mk ((by rw [hg]; exact (below_size (by repeat (first | (with_reducible first | exact HB.out | apply below_alloc | apply pw_below_drewN | apply below_drew1) | exact HB.out))) : w.heap.size ≤ gb314)); clear HB; have HB := n0_; have BK314 := n1_; have GW314 := n2_; have GE314 := n3_; clear n0_ n1_ n2_ n3_; clear hb hbox hg; have hcz5_0 : w4.cell? ⟨gb314, 0, none⟩ = some (.int .i64 a0_0) := (blk_cell BK314.out 0).trans rfl; have hcz5_1 : w4.cell? ⟨gb314, 1, none⟩ = some (.slice A0_1 l0_1.length c0_1) := (blk_cell BK314.out 1).trans rfl; have hfz5_0 := blk_frozen BK314.out 0; have hfz5_1 := blk_frozen BK314.out 1) | ((with_reducible refine gate_callee (f := 16) rfl ?_); refine goesL_ (some 16) rfl rfl Try.func16 (by kernel_rfl) rfl #[.agg #[.int .i64 a0_0, .slice A0_1 l0_1.length c0_1], .int .i64 1048576] rfl (by (try simp only [List.map_toArray, List.map_cons, List.map_nil]); first | done | rfl | (simp only [List.length_drop, List.length_take]; rfl)) ?_; (with_reducible refine (laws_szNet.calls k a0_0 _ _ l0_1 1048576 t315 _ ?side1 ?side2 A2.out).mono ?_); (case side1 => repeat (first | exact (Kd.C_below HR0_1.out HB.out) | (with_reducible refine Kd.C_alloc ?_ _) | (with_reducible refine Kd.C_drewN ?_ _) | (with_reducible refine Kd.C_drew ?_))); (case side2 => exact HC0_1.out); rintro e w6 ⟨rfl, hb⟩; refine ⟨_, rfl, ?_⟩; have n0_ := Aside0.mk (blk_below (g := gb314) (o := .cells #[.int .i64 a0_0, .slice A0_1 l0_1.length c0_1] 30 (0, 0)) (by (with_reducible repeat (first | refine blk_drewN ?_ _ | refine blk_drew ?_ | refine blk_alloc ?_ _)); exact BK314.out) hb); have n1_ := Aside0.mk (below_step (by repeat (first | (with_reducible first | exact HB.out | apply below_alloc | apply pw_below_drewN | apply below_drew1 | refine below_set ?_ GE314.out) | exact HB.out)) hb); clear BK314; clear HB; have BK314 := n0_; have HB := n1_; clear n0_ n1_; (try clear hb); (try clear hb2); (try clear hk); (try clear hi)))
  go_ret
  exact ⟨by first | rfl | (simp [errW_none, errW_some] <;> rfl) | (simp [*, errW_none, errW_some] <;> rfl), by repeat (first | (with_reducible first | exact HB.out | apply below_alloc | apply pw_below_drewN | apply below_drew1 | refine below_set ?_ GE314.out) | exact HB.out)⟩
 ·rw [if_neg c3] at H
  have c3b0 : decide (t315 < 0) = false := decide_eq_false c3
  clear c3
  replace H := Option.bind_eq_some_iff.mp H
  obtain ⟨⟨t316, t317⟩, A70, H⟩ := H
  replace H : ((spec_FirstDouble.f k t316 t317).bind fun bt320 => ((laws_toNet.f k a0_0 l0_1).bind fun bt324 => ((impl_FirstDouble.f k bt324.1 bt324.2).bind fun bt329 => ((laws_eqInt64S.f k bt329.1 bt320.1).bind fun t333 => (if t333 = true then (laws_FnExactFirstDouble.j0 k bt320.1 bt320.2 bt329.1 bt329.2 (bt329.2 != bt320.2) a0_0 l0_1 bt324.1 bt324.2) else (laws_FnExactFirstDouble.j0 k bt320.1 bt320.2 bt329.1 bt329.2 true a0_0 l0_1 bt324.1 bt324.2)))))) = some r := H
  have A7 := Aside0.mk A70
  clear A70
  replace H := Option.bind_eq_some_iff.mp H
  obtain ⟨⟨t320, t323⟩, A80, H⟩ := H
  replace H : ((laws_toNet.f k a0_0 l0_1).bind fun bt324 => ((impl_FirstDouble.f k bt324.1 bt324.2).bind fun bt329 => ((laws_eqInt64S.f k bt329.1 t320).bind fun t333 => (if t333 = true then (laws_FnExactFirstDouble.j0 k t320 t323 bt329.1 bt329.2 (bt329.2 != t323) a0_0 l0_1 bt324.1 bt324.2) else (laws_FnExactFirstDouble.j0 k t320 t323 bt329.1 bt329.2 true a0_0 l0_1 bt324.1 bt324.2))))) = some r := H
  have A8 := Aside0.mk A80
  clear A80
  replace H := Option.bind_eq_some_iff.mp H
  obtain ⟨⟨t324, t325⟩, A90, H⟩ := H
  replace H : ((impl_FirstDouble.f k t324 t325).bind fun bt329 => ((laws_eqInt64S.f k bt329.1 t320).bind fun t333 => (if t333 = true then (laws_FnExactFirstDouble.j0 k t320 t323 bt329.1 bt329.2 (bt329.2 != t323) a0_0 l0_1 t324 t325) else (laws_FnExactFirstDouble.j0 k t320 t323 bt329.1 bt329.2 true a0_0 l0_1 t324 t325)))) = some r := H
  have A9 := Aside0.mk A90
  clear A90
  replace H := Option.bind_eq_some_iff.mp H
  obtain ⟨⟨t329, t332⟩, A100, H⟩ := H
  replace H : ((laws_eqInt64S.f k t329 t320).bind fun t333 => (if t333 = true then (laws_FnExactFirstDouble.j0 k t320 t323 t329 t332 (t332 != t323) a0_0 l0_1 t324 t325) else (laws_FnExactFirstDouble.j0 k t320 t323 t329 t332 true a0_0 l0_1 t324 t325))) = some r := H
  have A10 := Aside0.mk A100
  clear A100
  have HC11 := Aside0.mk H
  clear H
  go_enter Try.func7, Try.ntmps7
  go_upto_region 8 with (first | ((with_reducible refine gate_dst (N := 1) rfl ?_); refine box_event ?hg (N := 1) ?hd (cs := #[.int .i64 a0_0, .slice A0_1 l0_1.length c0_1]) (t := 30) ?hr ?_; (case hd => rfl); (case hg => rfl); (case hr => first | (go_simp; done) | (go_simp; rfl)); intro gb314 hg w12 hbox hb; have n0_ := Aside0.mk (below_step (by repeat (first | (with_reducible first | exact HB.out | apply below_alloc | apply pw_below_drewN | apply below_drew1) | exact HB.out)) hb); have n1_ := Aside0.mk (hbox); have n2_ := Aside0.mk ((by rw [hg]; exact (below_size (by repeat (first | (with_reducible first | exact HB.out | apply below_alloc | apply pw_below_drewN | apply below_drew1) | exact HB.out))) : w.heap.size ≤ gb314)); have n3_ := Aside0.mk ((by rw [hg]; exact (below_size (by repeat (first | (with_reducible first | exact HB.out | apply below_alloc | apply pw_below_drewN | apply below_drew1) | exact HB.out))) : w.heap.size ≤ gb314)); clear HB; have HB := n0_; have BK314 := n1_; have GW314 := n2_; have GE314 := n3_; clear n0_ n1_ n2_ n3_; clear hb hbox hg; have hcz13_0 : w12.cell? ⟨gb314, 0, none⟩ = some (.int .i64 a0_0) := (blk_cell BK314.out 0).trans rfl; have hcz13_1 : w12.cell? ⟨gb314, 1, none⟩ = some (.slice A0_1 l0_1.length c0_1) := (blk_cell BK314.out 1).trans rfl; have hfz13_0 := blk_frozen BK314.out 0; have hfz13_1 := blk_frozen BK314.out 1) | ((with_reducible refine gate_callee (f := 16) rfl ?_); refine goesL_ (some 16) rfl rfl Try.func16 (by kernel_rfl) rfl #[.agg #[.int .i64 a0_0, .slice A0_1 l0_1.length c0_1], .int .i64 1048576] rfl (by (try simp only [List.map_toArray, List.map_cons, List.map_nil]); first | done | rfl | (simp only [List.length_drop, List.length_take]; rfl)) ?_; (with_reducible refine (laws_szNet.calls k a0_0 _ _ l0_1 1048576 t315 _ ?side1 ?side2 A2.out).mono ?_); (case side1 => repeat (first | exact (Kd.C_below HR0_1.out HB.out) | (with_reducible refine Kd.C_alloc ?_ _) | (with_reducible refine Kd.C_drewN ?_ _) | (with_reducible refine Kd.C_drew ?_))); (case side2 => exact HC0_1.out); rintro e w14 ⟨rfl, hb⟩; refine ⟨_, rfl, ?_⟩; have n0_ := Aside0.mk (blk_below (g := gb314) (o := .cells #[.int .i64 a0_0, .slice A0_1 l0_1.length c0_1] 30 (0, 0)) (by (with_reducible repeat (first | refine blk_drewN ?_ _ | refine blk_drew ?_ | refine blk_alloc ?_ _)); exact BK314.out) hb); have n1_ := Aside0.mk (below_step (by repeat (first | (with_reducible first | exact HB.out | apply below_alloc | apply pw_below_drewN | apply below_drew1 | refine below_set ?_ GE314.out) | exact HB.out)) hb); clear BK314; clear HB; have BK314 := n0_; have HB := n1_; clear n0_ n1_; (try clear hb); (try clear hb2); (try clear hk); (try clear hi); have hcz15_0 : w14.cell? ⟨gb314, 0, none⟩ = some (.int .i64 a0_0) := (blk_cell BK314.out 0).trans rfl; have hcz15_1 : w14.cell? ⟨gb314, 1, none⟩ = some (.slice A0_1 l0_1.length c0_1) := (blk_cell BK314.out 1).trans rfl; have hfz15_0 := blk_frozen BK314.out 0; have hfz15_1 := blk_frozen BK314.out 1) | ((with_reducible refine gate_callee (f := 18) rfl ?_); refine goesL_ (some 21) rfl rfl Try.func18 (by kernel_rfl) rfl #[.agg #[.int .i64 a0_0, .slice A0_1 l0_1.length c0_1]] rfl (by (try simp only [List.map_toArray, List.map_cons, List.map_nil]); first | done | rfl | (simp only [List.length_drop, List.length_take]; rfl)) ?_; (with_reducible refine (laws_toNet.calls k a0_0 _ _ l0_1 t316 t317 _ ?side1 ?side2 A7.out).mono ?_); (case side1 => repeat (first | exact (Kd.C_below HR0_1.out HB.out) | (with_reducible refine Kd.C_alloc ?_ _) | (with_reducible refine Kd.C_drewN ?_ _) | (with_reducible refine Kd.C_drew ?_))); (case side2 => exact HC0_1.out); rintro e w16 ⟨v318, rfl, ho0, hb⟩; refine ⟨_, rfl, ?_⟩; have n0_ := Aside0.mk (Kd.S_lower ho0 (below_size (by repeat (first | (with_reducible first | exact HB.out | apply below_alloc | apply pw_below_drewN | apply below_drew1 | refine below_set ?_ GE314.out) | exact HB.out)))); have n1_ := Aside0.mk (blk_below (g := gb314) (o := .cells #[.int .i64 a0_0, .slice A0_1 l0_1.length c0_1] 30 (0, 0)) (by (with_reducible repeat (first | refine blk_drewN ?_ _ | refine blk_drew ?_ | refine blk_alloc ?_ _)); exact BK314.out) hb); have n2_ := Aside0.mk (below_step (by repeat (first | (with_reducible first | exact HB.out | apply below_alloc | apply pw_below_drewN | apply below_drew1 | refine below_set ?_ GE314.out) | exact HB.out)) hb); clear BK314; clear HB; have HO319 := n0_; have BK314 := n1_; have HB := n2_; clear n0_ n1_ n2_; (try clear hb); (try clear hb2); (try clear hk); (try clear hi); (try clear ho0); obtain ⟨Ao17, co17, eo17⟩ := Kd.S_slice HO319.out; subst eo17) | ((with_reducible refine gate_callee (f := 23) rfl ?_); refine goesL_ (some 22) rfl rfl Try.func23 (by kernel_rfl) rfl #[.agg #[.int .i64 t316, .slice Ao17 t317.length co17]] rfl (by (try simp only [List.map_toArray, List.map_cons, List.map_nil]); first | done | rfl | (simp only [List.length_drop, List.length_take]; rfl)) ?_; (with_reducible refine (spec_FirstDouble.calls k t316 _ _ t317 t320 t323 _ ?side1 ?side2 A8.out).mono ?_); (case side1 => repeat (first | exact (Kd.S_reads' HO319.out).2.2 | (with_reducible refine Kd.C_alloc ?_ _) | (with_reducible refine Kd.C_drewN ?_ _) | (with_reducible refine Kd.C_drew ?_))); (case side2 => exact (Kd.S_reads' HO319.out).2.1); rintro e w18 ⟨v321, rfl, ho0, hb⟩; refine ⟨_, rfl, ?_⟩; have n0_ := Aside0.mk (Kd.S_elder' (by (with_reducible repeat (first | apply Kd.S_alloc | apply Kd.S_drewN | apply Kd.S_drew)); exact HO319.out) (Kd.R_base ho0) hb); have n1_ := Aside0.mk (Kd.R_lower ho0 (below_size (by repeat (first | (with_reducible first | exact HB.out | apply below_alloc | apply pw_below_drewN | apply below_drew1 | refine below_set ?_ GE314.out) | exact HB.out)))); have n2_ := Aside0.mk (blk_below (g := gb314) (o := .cells #[.int .i64 a0_0, .slice A0_1 l0_1.length c0_1] 30 (0, 0)) (by (with_reducible repeat (first | refine blk_drewN ?_ _ | refine blk_drew ?_ | refine blk_alloc ?_ _)); exact BK314.out) hb); have n3_ := Aside0.mk (below_step (by repeat (first | (with_reducible first | exact HB.out | apply below_alloc | apply pw_below_drewN | apply below_drew1 | refine below_set ?_ GE314.out) | exact HB.out)) hb); clear HO319; clear BK314; clear HB; have HO319 := n0_; have HO322 := n1_; have BK314 := n2_; have HB := n3_; clear n0_ n1_ n2_ n3_; (try clear hb); (try clear hb2); (try clear hk); (try clear hi); (try clear ho0); have hcz19_0 : w18.cell? ⟨gb314, 0, none⟩ = some (.int .i64 a0_0) := (blk_cell BK314.out 0).trans rfl; have hcz19_1 : w18.cell? ⟨gb314, 1, none⟩ = some (.slice A0_1 l0_1.length c0_1) := (blk_cell BK314.out 1).trans rfl; have hfz19_0 := blk_frozen BK314.out 0; have hfz19_1 := blk_frozen BK314.out 1) | ((with_reducible refine gate_callee (f := 18) rfl ?_); refine goesL_ (some 26) rfl rfl Try.func18 (by kernel_rfl) rfl #[.agg #[.int .i64 a0_0, .slice A0_1 l0_1.length c0_1]] rfl (by (try simp only [List.map_toArray, List.map_cons, List.map_nil]); first | done | rfl | (simp only [List.length_drop, List.length_take]; rfl)) ?_; (with_reducible refine (laws_toNet.calls k a0_0 _ _ l0_1 t324 t325 _ ?side1 ?side2 A9.out).mono ?_); (case side1 => repeat (first | exact (Kd.C_below HR0_1.out HB.out) | (with_reducible refine Kd.C_alloc ?_ _) | (with_reducible refine Kd.C_drewN ?_ _) | (with_reducible refine Kd.C_drew ?_))); (case side2 => exact HC0_1.out); rintro e w20 ⟨v326, rfl, ho0, hb⟩; refine ⟨_, rfl, ?_⟩; have n0_ := Aside0.mk (Kd.S_elder' (by (with_reducible repeat (first | apply Kd.S_alloc | apply Kd.S_drewN | apply Kd.S_drew)); exact HO319.out) (Kd.S_base ho0) hb); have n1_ := Aside0.mk (Kd.R_below (by (with_reducible repeat (first | apply Kd.R_alloc | apply Kd.R_drewN | apply Kd.R_drew)); exact HO322.out) hb); have n2_ := Aside0.mk (Kd.S_lower (Kd.S_new' (Kd.S_new' ho0 (Kd.S_lt (by (with_reducible repeat (first | apply Kd.S_alloc | apply Kd.S_drewN | apply Kd.S_drew)); exact HO319.out))) (Kd.R_lt (by (with_reducible repeat (first | apply Kd.R_alloc | apply Kd.R_drewN | apply Kd.R_drew)); exact HO322.out))) (below_size (by repeat (first | (with_reducible first | exact HB.out | apply below_alloc | apply pw_below_drewN | apply below_drew1 | refine below_set ?_ GE314.out) | exact HB.out)))); have n3_ := Aside0.mk (blk_below (g := gb314) (o := .cells #[.int .i64 a0_0, .slice A0_1 l0_1.length c0_1] 30 (0, 0)) (by (with_reducible repeat (first | refine blk_drewN ?_ _ | refine blk_drew ?_ | refine blk_alloc ?_ _)); exact BK314.out) hb); have n4_ := Aside0.mk (below_step (by repeat (first | (with_reducible first | exact HB.out | apply below_alloc | apply pw_below_drewN | apply below_drew1 | refine below_set ?_ GE314.out) | exact HB.out)) hb); clear HO319; clear HO322; clear BK314; clear HB; have HO319 := n0_; have HO322 := n1_; have HO327 := n2_; have BK314 := n3_; have HB := n4_; clear n0_ n1_ n2_ n3_ n4_; (try clear hb); (try clear hb2); (try clear hk); (try clear hi); (try clear ho0)) | ((with_reducible refine gate_dst (N := 6) rfl ?_); refine box_event ?hg (N := 6) ?hd (cs := #[.int .i64 0, .slice none 0 0]) (t := 33) ?hr ?_; (case hd => rfl); (case hg => rfl); (case hr => first | (go_simp; done) | (go_simp; rfl)); intro gb328 hg w21 hbox hb; have n0_ := Aside0.mk (Kd.S_below (by (with_reducible repeat (first | apply Kd.S_alloc | apply Kd.S_drewN | apply Kd.S_drew)); exact HO319.out) hb); have n1_ := Aside0.mk (Kd.R_below (by (with_reducible repeat (first | apply Kd.R_alloc | apply Kd.R_drewN | apply Kd.R_drew)); exact HO322.out) hb); have n2_ := Aside0.mk (Kd.S_below (by (with_reducible repeat (first | apply Kd.S_alloc | apply Kd.S_drewN | apply Kd.S_drew)); exact HO327.out) hb); have n3_ := Aside0.mk (blk_below (g := gb314) (o := .cells #[.int .i64 a0_0, .slice A0_1 l0_1.length c0_1] 30 (0, 0)) (by (with_reducible repeat (first | refine blk_drewN ?_ _ | refine blk_drew ?_ | refine blk_alloc ?_ _)); exact BK314.out) hb); have n4_ := Aside0.mk (below_step (by repeat (first | (with_reducible first | exact HB.out | apply below_alloc | apply pw_below_drewN | apply below_drew1 | refine below_set ?_ GE314.out) | exact HB.out)) hb); have n5_ := Aside0.mk (hbox); have n6_ := Aside0.mk ((by rw [hg]; exact (below_size (by repeat (first | (with_reducible first | exact HB.out | apply below_alloc | apply pw_below_drewN | apply below_drew1 | refine below_set ?_ GE314.out) | exact HB.out))) : w.heap.size ≤ gb328)); have n7_ := Aside0.mk ((by rw [hg]; exact (below_size (by repeat (first | (with_reducible first | exact HB.out | apply below_alloc | apply pw_below_drewN | apply below_drew1 | refine below_set ?_ GE314.out) | exact HB.out))) : w.heap.size ≤ gb328)); have n8_ := Aside0.mk ((by rw [hg]; exact Nat.ne_of_lt (blk_lt (g := gb314) (o := .cells #[.int .i64 a0_0, .slice A0_1 l0_1.length c0_1] 30 (0, 0)) (by (with_reducible repeat (first | refine blk_drewN ?_ _ | refine blk_drew ?_ | refine blk_alloc ?_ _)); exact BK314.out)) : gb314 ≠ gb328)); have n9_ := Aside0.mk ((by rw [hg]; exact Nat.ne_of_gt (blk_lt (g := gb314) (o := .cells #[.int .i64 a0_0, .slice A0_1 l0_1.length c0_1] 30 (0, 0)) (by (with_reducible repeat (first | refine blk_drewN ?_ _ | refine blk_drew ?_ | refine blk_alloc ?_ _)); exact BK314.out)) : gb328 ≠ gb314)); clear HO319; clear HO322; clear HO327; clear BK314; clear HB; have HO319 := n0_; have HO322 := n1_; have HO327 := n2_; have BK314 := n3_; have HB := n4_; have BK328 := n5_; have GW328 := n6_; have GE328 := n7_; have NB314_328 := n8_; have NB328_314 := n9_; clear n0_ n1_ n2_ n3_ n4_ n5_ n6_ n7_ n8_ n9_; clear hb hbox hg; have hnb22 := NB328_314.out; have hnc22 := NB314_328.out; have hcz23_0 : w21.cell? ⟨gb328, 0, none⟩ = some (.int .i64 0) := (blk_cell BK328.out 0).trans rfl; have hcz23_1 : w21.cell? ⟨gb328, 1, none⟩ = some (.slice none 0 0) := (blk_cell BK328.out 1).trans rfl; have hfz23_0 := blk_frozen BK328.out 0; have hfz23_1 := blk_frozen BK328.out 1; obtain ⟨Ao24, co24, eo24⟩ := Kd.S_slice HO327.out; subst eo24) | ((with_reducible refine gate_callee (f := 24) rfl ?_); refine goesL_ (some 29) rfl rfl Try.func24 (by kernel_rfl) rfl #[.agg #[.int .i64 t324, .slice Ao24 t325.length co24]] rfl (by (try simp only [List.map_toArray, List.map_cons, List.map_nil]); first | done | rfl | (simp only [List.length_drop, List.length_take]; rfl)) ?_; (with_reducible refine (impl_FirstDouble.calls k t324 _ _ t325 t329 t332 _ ?side1 ?side2 A10.out).mono ?_); (case side1 => refine (Kd.S_reads' (e := 22) (base := w.heap.size) (ok := fun k_ => ((True ∧ some k_ ≠ (.slice Ao17 t317.length co17 : Value).ownBlock) ∧ some k_ ≠ (v321 : Value).ownBlock)) (n := t325.length) (c := co24) ?_).2.2; exact (by (with_reducible repeat (first | apply Kd.S_alloc | apply Kd.S_drewN | apply Kd.S_drew)); exact (Kd.S_mono (Kd.S_far (p := ⟨gb328, 1, none⟩) (Kd.S_far (p := ⟨gb328, 0, none⟩) (Kd.S_types HO327.out BK328.out (by decide)) (fun _ hk => hk.2) (.int .i64 t324)) (fun _ hk => hk.2) (.slice Ao24 t325.length co24)) (fun _ h_ => h_.1)))); (case side2 => exact (Kd.S_reads' HO327.out).2.1); rintro e w25 ⟨v330, rfl, ho0, hb⟩; refine ⟨_, rfl, ?_⟩; have n0_ := Aside0.mk (Kd.S_elder' (by (with_reducible repeat (first | apply Kd.S_alloc | apply Kd.S_drewN | apply Kd.S_drew)); exact (Kd.S_mono (Kd.S_far (p := ⟨gb328, 1, none⟩) (Kd.S_far (p := ⟨gb328, 0, none⟩) (Kd.S_types HO319.out BK328.out (by decide)) (fun _ hk => hk.2) (.int .i64 t324)) (fun _ hk => hk.2) (.slice Ao24 t325.length co24)) (fun _ h_ => h_.1))) (Kd.R_base ho0) hb); have n1_ := Aside0.mk (Kd.R_elder' (by (with_reducible repeat (first | apply Kd.R_alloc | apply Kd.R_drewN | apply Kd.R_drew)); exact (Kd.R_mono (Kd.R_far (p := ⟨gb328, 1, none⟩) (Kd.R_far (p := ⟨gb328, 0, none⟩) (Kd.R_types HO322.out BK328.out (by decide)) (fun _ hk => hk.2) (.int .i64 t324)) (fun _ hk => hk.2) (.slice Ao24 t325.length co24)) (fun _ h_ => h_.1))) (Kd.R_base ho0) hb); have n2_ := Aside0.mk (Kd.S_elder' (by (with_reducible repeat (first | apply Kd.S_alloc | apply Kd.S_drewN | apply Kd.S_drew)); exact (Kd.S_mono (Kd.S_far (p := ⟨gb328, 1, none⟩) (Kd.S_far (p := ⟨gb328, 0, none⟩) (Kd.S_types HO327.out BK328.out (by decide)) (fun _ hk => hk.2) (.int .i64 t324)) (fun _ hk => hk.2) (.slice Ao24 t325.length co24)) (fun _ h_ => h_.1))) (Kd.R_base ho0) hb); have n3_ := Aside0.mk (Kd.R_lower (Kd.R_new' ho0 (Kd.R_lt (by (with_reducible repeat (first | apply Kd.R_alloc | apply Kd.R_drewN | apply Kd.R_drew)); exact (Kd.R_mono (Kd.R_far (p := ⟨gb328, 1, none⟩) (Kd.R_far (p := ⟨gb328, 0, none⟩) (Kd.R_types HO322.out BK328.out (by decide)) (fun _ hk => hk.2) (.int .i64 t324)) (fun _ hk => hk.2) (.slice Ao24 t325.length co24)) (fun _ h_ => h_.1))))) (below_size (by repeat (first | (with_reducible first | exact HB.out | apply below_alloc | apply pw_below_drewN | apply below_drew1 | refine below_set ?_ GE314.out | refine below_set ?_ GE328.out) | exact HB.out)))); have n4_ := Aside0.mk (blk_below (g := gb314) (o := .cells #[.int .i64 a0_0, .slice A0_1 l0_1.length c0_1] 30 (0, 0)) (by (with_reducible repeat (first | refine blk_drewN ?_ _ | refine blk_drew ?_ | refine blk_alloc ?_ _)); refine blk_far ?_ NB314_328.out _; (with_reducible repeat (first | refine blk_drewN ?_ _ | refine blk_drew ?_ | refine blk_alloc ?_ _)); refine blk_far ?_ NB314_328.out _; (with_reducible repeat (first | refine blk_drewN ?_ _ | refine blk_drew ?_ | refine blk_alloc ?_ _)); exact BK314.out) hb); have n5_ := Aside0.mk (blk_below (g := gb328) (o := .cells #[.int .i64 t324, .slice Ao24 t325.length co24] 33 (0, 0)) (by (with_reducible repeat (first | refine blk_drewN ?_ _ | refine blk_drew ?_ | refine blk_alloc ?_ _)); refine blk_put (cs := #[.int .i64 t324, .slice none 0 0]) ?_ 1 _ rfl; (with_reducible repeat (first | refine blk_drewN ?_ _ | refine blk_drew ?_ | refine blk_alloc ?_ _)); refine blk_put (cs := #[.int .i64 0, .slice none 0 0]) ?_ 0 _ rfl; (with_reducible repeat (first | refine blk_drewN ?_ _ | refine blk_drew ?_ | refine blk_alloc ?_ _)); exact BK328.out) hb); have n6_ := Aside0.mk (below_step (by repeat (first | (with_reducible first | exact HB.out | apply below_alloc | apply pw_below_drewN | apply below_drew1 | refine below_set ?_ GE314.out | refine below_set ?_ GE328.out) | exact HB.out)) hb); clear HO319; clear HO322; clear HO327; clear BK314; clear BK328; clear HB; have HO319 := n0_; have HO322 := n1_; have HO327 := n2_; have HO331 := n3_; have BK314 := n4_; have BK328 := n5_; have HB := n6_; clear n0_ n1_ n2_ n3_ n4_ n5_ n6_; (try clear hb); (try clear hb2); (try clear hk); (try clear hi); (try clear ho0)))
  (try simp only [Act.put, List.setIfInBounds_toArray, List.set_cons_zero, List.set_cons_succ])
  go_cut [40] (fun v40 wc => ∃ (kq : Nat) (x40_10 : Bool), v40 = .bool x40_10 ∧ Aside0 (laws_FnExactFirstDouble.j0 kq t320 t323 t329 t332 x40_10 a0_0 l0_1 t324 t325 = some r) ∧ Aside0 (kq ≤ k) ∧ Aside0 (Kd.R (Kd.int .i64) 2 wc w.heap.size (fun k_ => some k_ ≠ (v330 : Value).ownBlock) v321 t320) ∧ Aside0 (Kd.R (Kd.int .i64) 2 wc w.heap.size (fun k_ => some k_ ≠ (v321 : Value).ownBlock) v330 t329) ∧ Aside0 (Kd.S (Kd.slice 2 (Kd.int .i64)) 22 wc w.heap.size (fun k_ => some k_ ≠ (v321 : Value).ownBlock ∧ some k_ ≠ (v330 : Value).ownBlock) (.slice Ao24 t325.length co24) t325) ∧ Aside0 (wc.heap[gb314]? = some (.cells #[.int .i64 a0_0, (.slice A0_1 l0_1.length c0_1)] 30 (0, 0))) ∧ Aside0 (wc.heap[gb328]? = some (.cells #[.int .i64 t324, (.slice Ao24 t325.length co24)] 33 (0, 0))) ∧ Aside0 (Below w.heap.size w wc))
  case first =>
   have H := HC11.out
   clear HC11
   replace H := Option.bind_eq_some_iff.mp H
   obtain ⟨t333, A260, H⟩ := H
   replace H : (if t333 = true then (laws_FnExactFirstDouble.j0 k t320 t323 t329 t332 (t332 != t323) a0_0 l0_1 t324 t325) else (laws_FnExactFirstDouble.j0 k t320 t323 t329 t332 true a0_0 l0_1 t324 t325)) = some r := H
   have A26 := Aside0.mk A260
   clear A260
   by_cases c27 : t333 = true
   ·subst c27
    have H1 : (laws_FnExactFirstDouble.j0 k t320 t323 t329 t332 (t332 != t323) a0_0 l0_1 t324 t325) = some r := by rw [if_pos rfl] at H; exact H
    clear H
    have H := H1
    clear H1
    have H' := Aside0.mk H
    clear H
    obtain ⟨Ao28, co28, eo28⟩ := Kd.R_slice HO331.out
    subst eo28
    obtain ⟨Ao29, co29, eo29⟩ := Kd.R_slice HO322.out
    subst eo29
    go_wp2_with (first | ((with_reducible refine gate_callee (f := 13) rfl ?_); refine goesL_ (some 34) rfl rfl Try.func13 (by kernel_rfl) rfl #[.slice Ao28 t329.length co28, .slice Ao29 t320.length co29] rfl (by (try simp only [List.map_toArray, List.map_cons, List.map_nil]); first | done | rfl | (simp only [List.length_drop, List.length_take]; rfl)) ?_; (with_reducible refine (laws_eqInt64S.calls k _ _ t329 _ _ t320 true _ ?side1 ?side2 ?side3 ?side4 A26.out).mono ?_); (case side1 => repeat (first | exact (Kd.R_reads' HO331.out).2.2 | (with_reducible refine Kd.C_alloc ?_ _) | (with_reducible refine Kd.C_drewN ?_ _) | (with_reducible refine Kd.C_drew ?_))); (case side2 => exact (Kd.R_reads' HO331.out).2.1); (case side3 => repeat (first | exact (Kd.R_reads' HO322.out).2.2 | (with_reducible refine Kd.C_alloc ?_ _) | (with_reducible refine Kd.C_drewN ?_ _) | (with_reducible refine Kd.C_drew ?_))); (case side4 => exact (Kd.R_reads' HO322.out).2.1); rintro e w' ⟨rfl, ⟨nd, rfl⟩⟩; refine ⟨_, rfl, ?_⟩))
    go_meet
    case rel => exact ⟨_, ((t332 != t323)), (by first | rfl | (simp; done) | (simp [*]; done)), H', ⟨by first | omega | exact Nat.le_refl _⟩, ⟨by (with_reducible repeat (first | apply Kd.R_alloc | apply Kd.R_drewN | apply Kd.R_drew)); exact Kd.R_mono HO322.out (fun _ hk => hk.2)⟩, ⟨by (with_reducible repeat (first | apply Kd.R_alloc | apply Kd.R_drewN | apply Kd.R_drew)); exact Kd.R_mono HO331.out (fun _ hk => hk.2)⟩, ⟨by (with_reducible repeat (first | apply Kd.S_alloc | apply Kd.S_drewN | apply Kd.S_drew)); exact Kd.S_mono HO327.out (fun _ hk => ⟨hk.1.2, hk.2⟩)⟩, ⟨by (with_reducible repeat (first | refine blk_drewN ?_ _ | refine blk_drew ?_ | refine blk_alloc ?_ _)); exact BK314.out⟩, ⟨by (with_reducible repeat (first | refine blk_drewN ?_ _ | refine blk_drew ?_ | refine blk_alloc ?_ _)); exact BK328.out⟩, ⟨by repeat (first | (with_reducible first | exact HB.out | apply below_alloc | apply pw_below_drewN | apply below_drew1 | refine below_set ?_ GE314.out | refine below_set ?_ GE328.out) | exact HB.out)⟩⟩
   ·replace c27 := Bool.eq_false_iff.mpr c27
    subst c27
    have H1 : (laws_FnExactFirstDouble.j0 k t320 t323 t329 t332 true a0_0 l0_1 t324 t325) = some r := by rw [if_neg (show ¬ (false = true) by decide)] at H; exact H
    clear H
    have H := H1
    clear H1
    have H' := Aside0.mk H
    clear H
    obtain ⟨Ao30, co30, eo30⟩ := Kd.R_slice HO331.out
    subst eo30
    obtain ⟨Ao31, co31, eo31⟩ := Kd.R_slice HO322.out
    subst eo31
    go_wp2_with (first | ((with_reducible refine gate_callee (f := 13) rfl ?_); refine goesL_ (some 34) rfl rfl Try.func13 (by kernel_rfl) rfl #[.slice Ao30 t329.length co30, .slice Ao31 t320.length co31] rfl (by (try simp only [List.map_toArray, List.map_cons, List.map_nil]); first | done | rfl | (simp only [List.length_drop, List.length_take]; rfl)) ?_; (with_reducible refine (laws_eqInt64S.calls k _ _ t329 _ _ t320 false _ ?side1 ?side2 ?side3 ?side4 A26.out).mono ?_); (case side1 => repeat (first | exact (Kd.R_reads' HO331.out).2.2 | (with_reducible refine Kd.C_alloc ?_ _) | (with_reducible refine Kd.C_drewN ?_ _) | (with_reducible refine Kd.C_drew ?_))); (case side2 => exact (Kd.R_reads' HO331.out).2.1); (case side3 => repeat (first | exact (Kd.R_reads' HO322.out).2.2 | (with_reducible refine Kd.C_alloc ?_ _) | (with_reducible refine Kd.C_drewN ?_ _) | (with_reducible refine Kd.C_drew ?_))); (case side4 => exact (Kd.R_reads' HO322.out).2.1); rintro e w' ⟨rfl, ⟨nd, rfl⟩⟩; refine ⟨_, rfl, ?_⟩))
    go_meet
    case rel => exact ⟨_, (true), (by first | rfl | (simp; done) | (simp [*]; done)), H', ⟨by first | omega | exact Nat.le_refl _⟩, ⟨by (with_reducible repeat (first | apply Kd.R_alloc | apply Kd.R_drewN | apply Kd.R_drew)); exact Kd.R_mono HO322.out (fun _ hk => hk.2)⟩, ⟨by (with_reducible repeat (first | apply Kd.R_alloc | apply Kd.R_drewN | apply Kd.R_drew)); exact Kd.R_mono HO331.out (fun _ hk => hk.2)⟩, ⟨by (with_reducible repeat (first | apply Kd.S_alloc | apply Kd.S_drewN | apply Kd.S_drew)); exact Kd.S_mono HO327.out (fun _ hk => ⟨hk.1.2, hk.2⟩)⟩, ⟨by (with_reducible repeat (first | refine blk_drewN ?_ _ | refine blk_drew ?_ | refine blk_alloc ?_ _)); exact BK314.out⟩, ⟨by (with_reducible repeat (first | refine blk_drewN ?_ _ | refine blk_drew ?_ | refine blk_alloc ?_ _)); exact BK328.out⟩, ⟨by repeat (first | (with_reducible first | exact HB.out | apply below_alloc | apply pw_below_drewN | apply below_drew1 | refine below_set ?_ GE314.out | refine below_set ?_ GE328.out) | exact HB.out)⟩⟩
  case rest =>
   clear HC11
   try clear c1
   try clear c2
   try clear p2
   try clear c3
   try clear c3b0
   try clear c7
   try clear c13
   try clear c16
   try clear c18
   try clear c22
   try clear c23
   try clear c24
   try clear c27
   try clear hcz13_0
   try clear hcz13_1
   try clear hcz15_0
   try clear hcz15_1
   try clear hcz19_0
   try clear hcz19_1
   try clear hcz23_0
   try clear hcz23_1
   try clear hcz5_0
   try clear hcz5_1
   try clear hfz13_0
   try clear hfz13_1
   try clear hfz15_0
   try clear hfz15_1
   try clear hfz19_0
   try clear hfz19_1
   try clear hfz23_0
   try clear hfz23_1
   try clear hfz5_0
   try clear hfz5_1
   obtain ⟨kq, x40_10, rfl, HA, HJ10, HO_4, HO_7, HO_329001, BK314, BK328, HB⟩ := hcut
   cases kq with
   | zero => exact absurd HA.out (by simp [laws_FnExactFirstDouble.j0])
   | succ kj10 =>
    have H := HA.out
    clear HA
    simp only [laws_FnExactFirstDouble.j0] at H
    by_cases c32 : x40_10 = true
    ·subst c32
     have H1 : (some false) = some r := by rw [if_pos rfl] at H; exact H
     clear H
     have H := H1
     clear H1
     obtain rfl := Option.some.inj H
     go_wp2
     go_ret
     exact ⟨by first | rfl | (simp [errW_none, errW_some] <;> rfl) | (simp [*, errW_none, errW_some] <;> rfl), by repeat (first | (with_reducible first | exact HB.out | apply below_alloc | apply pw_below_drewN | apply below_drew1 | refine below_set ?_ GE314.out | refine below_set ?_ GE328.out) | exact HB.out)⟩
    ·replace c32 := Bool.eq_false_iff.mpr c32
     subst c32
     have H1 : ((laws_toNet.f kj10 a0_0 l0_1).bind fun bt334 => ((laws_eqNet.f kj10 t324 t325 bt334.1 bt334.2).bind fun t338 => (if t338 = true then ((laws_markNet.f kj10 t324 t325 1).bind fun bt339 => (if bt339.1 < 0 then (laws_FnExactFirstDouble.j1 kj10 t320 t323 t329 true a0_0 l0_1) else ((laws_eqInt64S.f kj10 t329 t320).bind fun t341 => (if t341 = true then (laws_FnExactFirstDouble.j1 kj10 t320 t323 t329 (t332 != t323) a0_0 l0_1) else (laws_FnExactFirstDouble.j1 kj10 t320 t323 t329 true a0_0 l0_1))))) else (some false)))) = some r := by rw [if_neg (show ¬ (false = true) by decide)] at H; exact H
     clear H
     have H := H1
     clear H1
     replace H := Option.bind_eq_some_iff.mp H
     obtain ⟨⟨t334, t335⟩, A330, H⟩ := H
     replace H : ((laws_eqNet.f kj10 t324 t325 t334 t335).bind fun t338 => (if t338 = true then ((laws_markNet.f kj10 t324 t325 1).bind fun bt339 => (if bt339.1 < 0 then (laws_FnExactFirstDouble.j1 kj10 t320 t323 t329 true a0_0 l0_1) else ((laws_eqInt64S.f kj10 t329 t320).bind fun t341 => (if t341 = true then (laws_FnExactFirstDouble.j1 kj10 t320 t323 t329 (t332 != t323) a0_0 l0_1) else (laws_FnExactFirstDouble.j1 kj10 t320 t323 t329 true a0_0 l0_1))))) else (some false))) = some r := H
     have A33 := Aside0.mk A330
     clear A330
     replace H := Option.bind_eq_some_iff.mp H
     obtain ⟨t338, A340, H⟩ := H
     replace H : (if t338 = true then ((laws_markNet.f kj10 t324 t325 1).bind fun bt339 => (if bt339.1 < 0 then (laws_FnExactFirstDouble.j1 kj10 t320 t323 t329 true a0_0 l0_1) else ((laws_eqInt64S.f kj10 t329 t320).bind fun t341 => (if t341 = true then (laws_FnExactFirstDouble.j1 kj10 t320 t323 t329 (t332 != t323) a0_0 l0_1) else (laws_FnExactFirstDouble.j1 kj10 t320 t323 t329 true a0_0 l0_1))))) else (some false)) = some r := H
     have A34 := Aside0.mk A340
     clear A340
     by_cases c35 : t338 = true
     ·subst c35
      have H1 : ((laws_markNet.f kj10 t324 t325 1).bind fun bt339 => (if bt339.1 < 0 then (laws_FnExactFirstDouble.j1 kj10 t320 t323 t329 true a0_0 l0_1) else ((laws_eqInt64S.f kj10 t329 t320).bind fun t341 => (if t341 = true then (laws_FnExactFirstDouble.j1 kj10 t320 t323 t329 (t332 != t323) a0_0 l0_1) else (laws_FnExactFirstDouble.j1 kj10 t320 t323 t329 true a0_0 l0_1))))) = some r := by rw [if_pos rfl] at H; exact H
      clear H
      have H := H1
      clear H1
      replace H := Option.bind_eq_some_iff.mp H
      obtain ⟨⟨t339, t340⟩, A360, H⟩ := H
      replace H : (if t339 < 0 then (laws_FnExactFirstDouble.j1 kj10 t320 t323 t329 true a0_0 l0_1) else ((laws_eqInt64S.f kj10 t329 t320).bind fun t341 => (if t341 = true then (laws_FnExactFirstDouble.j1 kj10 t320 t323 t329 (t332 != t323) a0_0 l0_1) else (laws_FnExactFirstDouble.j1 kj10 t320 t323 t329 true a0_0 l0_1)))) = some r := H
      have A36 := Aside0.mk A360
      clear A360
      have HC37 := Aside0.mk H
      clear H
      try go_wp2
      have n0_ := Aside0.mk (Kd.R_drew HO_4.out)
      have n1_ := Aside0.mk (Kd.R_drew HO_7.out)
      have n2_ := Aside0.mk (Kd.S_drew HO_329001.out)
      have n3_ := Aside0.mk (blk_drew BK314.out)
      have n4_ := Aside0.mk (blk_drew BK328.out)
      have n5_ := Aside0.mk (below_drew1 HB.out)
      clear HO_4
      clear HO_7
      clear HO_329001
      clear BK314
      clear BK328
      clear HB
      have HO_4 := n0_
      have HO_7 := n1_
      have HO_329001 := n2_
      have BK314 := n3_
      have BK328 := n4_
      have HB := n5_
      clear n0_ n1_ n2_ n3_ n4_ n5_
      refine start_ (n := 5) (S := fun w' => w'.cell? ⟨gb328, 0, none⟩ = some (.int .i64 t324) ∧ w'.cell? ⟨gb328, 1, none⟩ = some (.slice Ao24 t325.length co24) ∧ w'.cell? ⟨gb314, 0, none⟩ = some (.int .i64 a0_0) ∧ w'.cell? ⟨gb314, 1, none⟩ = some (.slice A0_1 l0_1.length c0_1)) (ds := []) #[false, false, false, false, false] (by kernel_rfl) rfl rfl ⟨(blk_cell BK328.out 0).trans rfl, (blk_cell BK328.out 1).trans rfl, (blk_cell BK314.out 0).trans rfl, (blk_cell BK314.out 1).trans rfl⟩ (fun hHeld => ?_)
      generalize wc.drew = w38 at HO_4 HO_7 HO_329001 BK314 BK328 HB hHeld ⊢
      refine take_ (i := 0) (N := some 41) (v := ?_) (a' := ?_) #[true, false, false, false, false] rfl rfl (by kernel_rfl) (fun _ _ _ h => h) (Or.inl ⟨by rfl, ?_⟩) hHeld ?_ ?_
      rotate_left
      ·rintro w' ⟨s0, s1, s2, s3⟩
       go_simp
       with_reducible rfl
      rotate_left
      ·simp only [Act.put, List.setIfInBounds_toArray, List.set_cons_zero, List.set_cons_succ, i64_w, i32_w]
       rfl
      refine take_ (i := 1) (N := some 42) (v := ?_) (a' := ?_) #[true, true, false, false, false] rfl rfl (by kernel_rfl) (fun _ _ _ h => h) (Or.inl ⟨by rfl, ?_⟩) hHeld ?_ ?_
      rotate_left
      ·rintro w' ⟨s0, s1, s2, s3⟩
       go_simp
       with_reducible rfl
      rotate_left
      ·simp only [Act.put, List.setIfInBounds_toArray, List.set_cons_zero, List.set_cons_succ, i64_w, i32_w]
       rfl
      refine one_ (i := 2) (N := some 43) #[true, true, true, false, false] rfl rfl (by kernel_rfl) (by decide) (fun K hK => ?_)
      refine goes_ Try.func18 (by kernel_rfl) rfl #[.agg #[.int .i64 a0_0, .slice A0_1 l0_1.length c0_1]] (by rfl) rfl rfl (by (try simp only [List.map_toArray, List.map_cons, List.map_nil]); first | done | rfl | (simp only [List.length_drop, List.length_take]; rfl)) ?_
      with_reducible refine (laws_toNet.calls kj10 a0_0 _ _ l0_1 t334 t335 _ ?side1 ?side2 A33.out).mono ?_
      (case side1 => repeat (first | exact (Kd.C_below HR0_1.out HB.out) | (with_reducible refine Kd.C_alloc ?_ _) | (with_reducible refine Kd.C_drewN ?_ _) | (with_reducible refine Kd.C_drew ?_)))
      (case side2 => exact HC0_1.out)
      rintro e w39 ⟨v336, rfl, ho0, hb⟩
      refine ⟨_, rfl, ?_⟩
      have n0_ := Aside0.mk (Kd.R_below (by (with_reducible repeat (first | apply Kd.R_alloc | apply Kd.R_drewN | apply Kd.R_drew)); exact HO_4.out) hb)
      have n1_ := Aside0.mk (Kd.R_below (by (with_reducible repeat (first | apply Kd.R_alloc | apply Kd.R_drewN | apply Kd.R_drew)); exact HO_7.out) hb)
      have n2_ := Aside0.mk (Kd.S_elder' (by (with_reducible repeat (first | apply Kd.S_alloc | apply Kd.S_drewN | apply Kd.S_drew)); exact HO_329001.out) (Kd.S_base ho0) hb)
      have n3_ := Aside0.mk (Kd.S_lower (Kd.S_new' (Kd.S_new' (Kd.S_new' ho0 (Kd.R_lt (by (with_reducible repeat (first | apply Kd.R_alloc | apply Kd.R_drewN | apply Kd.R_drew)); exact HO_4.out))) (Kd.R_lt (by (with_reducible repeat (first | apply Kd.R_alloc | apply Kd.R_drewN | apply Kd.R_drew)); exact HO_7.out))) (Kd.S_lt (by (with_reducible repeat (first | apply Kd.S_alloc | apply Kd.S_drewN | apply Kd.S_drew)); exact HO_329001.out))) (below_size (by repeat (first | (with_reducible first | exact HB.out | apply below_alloc | apply pw_below_drewN | apply below_drew1 | refine below_set ?_ GE314.out | refine below_set ?_ GE328.out) | exact HB.out))))
      have n4_ := Aside0.mk (blk_below (g := gb314) (o := .cells #[.int .i64 a0_0, .slice A0_1 l0_1.length c0_1] 30 (0, 0)) (by (with_reducible repeat (first | refine blk_drewN ?_ _ | refine blk_drew ?_ | refine blk_alloc ?_ _)); exact BK314.out) hb)
      have n5_ := Aside0.mk (blk_below (g := gb328) (o := .cells #[.int .i64 t324, .slice Ao24 t325.length co24] 33 (0, 0)) (by (with_reducible repeat (first | refine blk_drewN ?_ _ | refine blk_drew ?_ | refine blk_alloc ?_ _)); exact BK328.out) hb)
      have n6_ := Aside0.mk (below_step (by repeat (first | (with_reducible first | exact HB.out | apply below_alloc | apply pw_below_drewN | apply below_drew1 | refine below_set ?_ GE314.out | refine below_set ?_ GE328.out) | exact HB.out)) hb)
      clear HO_4
      clear HO_7
      clear HO_329001
      clear BK314
      clear BK328
      clear HB
      have HO_4 := n0_
      have HO_7 := n1_
      have HO_329001 := n2_
      have HO337 := n3_
      have BK314 := n4_
      have BK328 := n5_
      have HB := n6_
      clear n0_ n1_ n2_ n3_ n4_ n5_ n6_
      (try clear hb)
      (try clear hb2)
      (try clear hk)
      (try clear hi)
      (try clear ho0)
      obtain ⟨Ao40, co40, eo40⟩ := Kd.S_slice HO337.out
      (first | subst eo40 | (injection eo40 with f1_ f2_ f3_; have f4_ := f1_.symm; have f5_ := f3_.symm; clear f1_ f2_ f3_; subst f4_; subst f5_))
      refine hK.out _ _ ⟨(blk_cell BK328.out 0).trans rfl, (blk_cell BK328.out 1).trans rfl, (blk_cell BK314.out 0).trans rfl, (blk_cell BK314.out 1).trans rfl⟩ (fun hHeld => ?_)
      clear hK K
      refine norm_ (a' := ?_) ?_ ?_
      rotate_left
      ·show Act.put _ (some 43) _ = _
       simp only [Act.put, List.setIfInBounds_toArray, List.set_cons_zero, List.set_cons_succ, i64_w, i32_w]
       rfl
      refine one_ (i := 3) (N := some 44) #[true, true, true, true, false] rfl rfl (by kernel_rfl) (by decide) (fun K hK => ?_)
      refine goes_ Try.func20 (by kernel_rfl) rfl #[.agg #[.int .i64 t324, .slice Ao24 t325.length co24], .agg #[.int .i64 t334, .slice Ao40 t335.length co40]] (by rfl) rfl rfl (by (try simp only [List.map_toArray, List.map_cons, List.map_nil]); first | done | rfl | (simp only [List.length_drop, List.length_take]; rfl)) ?_
      with_reducible refine (laws_eqNet.calls kj10 t324 _ _ t325 t334 _ _ t335 true _ ?side1 ?side2 ?side3 ?side4 A34.out).mono ?_
      (case side1 => repeat (first | exact (Kd.S_reads' HO_329001.out).2.2 | (with_reducible refine Kd.C_alloc ?_ _) | (with_reducible refine Kd.C_drewN ?_ _) | (with_reducible refine Kd.C_drew ?_)))
      (case side2 => exact (Kd.S_reads' HO_329001.out).2.1)
      (case side3 => repeat (first | exact (Kd.S_reads' HO337.out).2.2 | (with_reducible refine Kd.C_alloc ?_ _) | (with_reducible refine Kd.C_drewN ?_ _) | (with_reducible refine Kd.C_drew ?_)))
      (case side4 => exact (Kd.S_reads' HO337.out).2.1)
      rintro e w41 ⟨rfl, hb⟩
      refine ⟨_, rfl, ?_⟩
      have n0_ := Aside0.mk (Kd.R_below (by (with_reducible repeat (first | apply Kd.R_alloc | apply Kd.R_drewN | apply Kd.R_drew)); exact HO_4.out) hb)
      have n1_ := Aside0.mk (Kd.R_below (by (with_reducible repeat (first | apply Kd.R_alloc | apply Kd.R_drewN | apply Kd.R_drew)); exact HO_7.out) hb)
      have n2_ := Aside0.mk (Kd.S_below (by (with_reducible repeat (first | apply Kd.S_alloc | apply Kd.S_drewN | apply Kd.S_drew)); exact HO_329001.out) hb)
      have n3_ := Aside0.mk (Kd.S_below (by (with_reducible repeat (first | apply Kd.S_alloc | apply Kd.S_drewN | apply Kd.S_drew)); exact HO337.out) hb)
      have n4_ := Aside0.mk (blk_below (g := gb314) (o := .cells #[.int .i64 a0_0, .slice A0_1 l0_1.length c0_1] 30 (0, 0)) (by (with_reducible repeat (first | refine blk_drewN ?_ _ | refine blk_drew ?_ | refine blk_alloc ?_ _)); exact BK314.out) hb)
      have n5_ := Aside0.mk (blk_below (g := gb328) (o := .cells #[.int .i64 t324, .slice Ao24 t325.length co24] 33 (0, 0)) (by (with_reducible repeat (first | refine blk_drewN ?_ _ | refine blk_drew ?_ | refine blk_alloc ?_ _)); exact BK328.out) hb)
      have n6_ := Aside0.mk (below_step (by repeat (first | (with_reducible first | exact HB.out | apply below_alloc | apply pw_below_drewN | apply below_drew1 | refine below_set ?_ GE314.out | refine below_set ?_ GE328.out) | exact HB.out)) hb)
      clear HO_4
      clear HO_7
      clear HO_329001
      clear HO337
      clear BK314
      clear BK328
      clear HB
      have HO_4 := n0_
      have HO_7 := n1_
      have HO_329001 := n2_
      have HO337 := n3_
      have BK314 := n4_
      have BK328 := n5_
      have HB := n6_
      clear n0_ n1_ n2_ n3_ n4_ n5_ n6_
      (try clear hb)
      (try clear hb2)
      (try clear hk)
      (try clear hi)
      refine hK.out _ _ ⟨(blk_cell BK328.out 0).trans rfl, (blk_cell BK328.out 1).trans rfl, (blk_cell BK314.out 0).trans rfl, (blk_cell BK314.out 1).trans rfl⟩ (fun hHeld => ?_)
      clear hK K
      refine norm_ (a' := ?_) ?_ ?_
      rotate_left
      ·show Act.put _ (some 44) _ = _
       simp only [Act.put, List.setIfInBounds_toArray, List.set_cons_zero, List.set_cons_succ, i64_w, i32_w]
       rfl
      refine pure_ (i := 4) (N := some 45) (v := ?_) (a' := ?_) #[true, true, true, true, true] rfl rfl (by kernel_rfl) (fun _ _ _ h => h) (Or.inl ⟨by rfl, ?_⟩) ?_ ?_
      rotate_left
      ·intro w'
       go_simp
       with_reducible rfl
      rotate_left
      ·simp only [Act.put, List.setIfInBounds_toArray, List.set_cons_zero, List.set_cons_succ, i64_w, i32_w]
       rfl
      refine done_ (by kernel_rfl) ?_
      have hnb42 := NB328_314.out
      have hnc42 := NB314_328.out
      have hcz43_0 : w41.cell? ⟨gb328, 0, none⟩ = some (.int .i64 t324) := (blk_cell BK328.out 0).trans rfl
      have hcz43_1 : w41.cell? ⟨gb328, 1, none⟩ = some (.slice Ao24 t325.length co24) := (blk_cell BK328.out 1).trans rfl
      have hfz43_0 := blk_frozen BK328.out 0
      have hfz43_1 := blk_frozen BK328.out 1
      go_upto_region 14 with (first | ((with_reducible refine gate_callee (f := 25) rfl ?_); refine goesL_ (some 48) rfl rfl Try.func25 (by kernel_rfl) rfl #[.agg #[.int .i64 t324, .slice Ao24 t325.length co24], .int .i64 1] rfl (by (try simp only [List.map_toArray, List.map_cons, List.map_nil]); first | done | rfl | (simp only [List.length_drop, List.length_take]; rfl)) ?_; (with_reducible refine (laws_markNet.calls kj10 t324 (fun k_ => ownS (Kd.slice 2 (Kd.int .i64)) 22 w41 (fun k_ => ((some k_ ≠ (v321 : Value).ownBlock ∧ some k_ ≠ (v330 : Value).ownBlock) ∧ some k_ ≠ (.slice Ao40 t335.length co40 : Value).ownBlock)) k_) (.slice Ao24 t325.length co24) t325 1 t339 t340 w _ ?side1 ?side2 A36.out).mono ?_); (case side1 => repeat (first | (with_reducible first | exact HB.out | apply below_alloc | apply pw_below_drewN | apply below_drew1 | refine below_set ?_ GE314.out | refine below_set ?_ GE328.out) | exact HB.out)); (case side2 => exact S_ownS (HO_329001.out)); rintro e w44 ⟨rfl, hy0, hb, hkp⟩; refine ⟨_, rfl, ?_⟩; have n0_ := Aside0.mk (Kd.R_mono (ok' := fun k_ => some k_ ≠ (v330 : Value).ownBlock) (Kd.R_keptB ((Kd.R_mono (ok' := fun k_ => some k_ ≠ (v330 : Value).ownBlock ∧ ¬ ownS (Kd.slice 2 (Kd.int .i64)) 22 w41 (fun k_ => ((some k_ ≠ (v321 : Value).ownBlock ∧ some k_ ≠ (v330 : Value).ownBlock) ∧ some k_ ≠ (.slice Ao40 t335.length co40 : Value).ownBlock)) k_) (Kd.R_tight2 rfl HO_4.out) (fun k_ hk => ⟨hk.2, fun hp_ => (hp_.1.1.1) hk.1⟩))) hkp (fun k_ hk_ hs_ => (hk_.2) hs_)) (fun k_ hk_ => hk_.1.1)); have n1_ := Aside0.mk (Kd.R_mono (ok' := fun k_ => some k_ ≠ (v321 : Value).ownBlock) (Kd.R_keptB ((Kd.R_mono (ok' := fun k_ => some k_ ≠ (v321 : Value).ownBlock ∧ ¬ ownS (Kd.slice 2 (Kd.int .i64)) 22 w41 (fun k_ => ((some k_ ≠ (v321 : Value).ownBlock ∧ some k_ ≠ (v330 : Value).ownBlock) ∧ some k_ ≠ (.slice Ao40 t335.length co40 : Value).ownBlock)) k_) (Kd.R_tight2 rfl HO_7.out) (fun k_ hk => ⟨hk.2, fun hp_ => (hp_.1.1.2) hk.1⟩))) hkp (fun k_ hk_ hs_ => (hk_.2) hs_)) (fun k_ hk_ => hk_.1.1)); have n2_ := Aside0.mk (Kd.S_mono hy0 (fun _ h_ => h_.1)); have n3_ := Aside0.mk (blk_kept (by (with_reducible repeat (first | refine blk_drewN ?_ _ | refine blk_drew ?_ | refine blk_alloc ?_ _)); exact BK314.out) hkp (fun hs_ => (fun e_ => ownS_not e_ BK314.out (by decide)) hs_)); have n4_ := Aside0.mk (blk_kept (by (with_reducible repeat (first | refine blk_drewN ?_ _ | refine blk_drew ?_ | refine blk_alloc ?_ _)); exact BK328.out) hkp (fun hs_ => (fun e_ => ownS_not e_ BK328.out (by decide)) hs_)); have n5_ := Aside0.mk (hb); clear HO_4; clear HO_7; clear HO_329001; clear BK314; clear BK328; clear HB; clear HO337; have HO_4 := n0_; have HO_7 := n1_; have HO_329001 := n2_; have BK314 := n3_; have BK328 := n4_; have HB := n5_; clear n0_ n1_ n2_ n3_ n4_ n5_; (try clear hb); (try clear hkp); (try clear hy0)))
      (try simp only [Act.put, List.setIfInBounds_toArray, List.set_cons_zero, List.set_cons_succ])
      go_cut [61] (fun v61 wc => ∃ (kq : Nat) (x61_36 : Bool), v61 = .bool x61_36 ∧ Aside0 (laws_FnExactFirstDouble.j1 kq t320 t323 t329 x61_36 a0_0 l0_1 = some r) ∧ Aside0 (kq ≤ kj10) ∧ Aside0 (Kd.R (Kd.int .i64) 2 wc w.heap.size (fun k_ => some k_ ≠ (v330 : Value).ownBlock) v321 t320) ∧ Aside0 (Kd.R (Kd.int .i64) 2 wc w.heap.size (fun k_ => some k_ ≠ (v321 : Value).ownBlock) v330 t329) ∧ Aside0 (Kd.S (Kd.slice 2 (Kd.int .i64)) 22 wc w.heap.size (fun k_ => some k_ ≠ (v321 : Value).ownBlock ∧ some k_ ≠ (v330 : Value).ownBlock) (.slice Ao24 t325.length co24) t340) ∧ Aside0 (wc.heap[gb314]? = some (.cells #[.int .i64 a0_0, (.slice A0_1 l0_1.length c0_1)] 30 (0, 0))) ∧ Aside0 (wc.heap[gb328]? = some (.cells #[.int .i64 t324, (.slice Ao24 t325.length co24)] 33 (0, 0))) ∧ Aside0 (Below w.heap.size w wc))
      case first =>
       have H := HC37.out
       clear HC37
       by_cases c45 : t339 < 0
       ·rw [if_pos c45] at H
        have c45b0 : decide (t339 < 0) = true := decide_eq_true c45
        clear c45
        (first | rw [c45b0] | (simp only [i64_w, i32_w]; rw [c45b0]) | skip)
        have H' := Aside0.mk H
        clear H
        go_wp2
        go_meet
        case rel => exact ⟨_, (true), (by first | rfl | (simp; done) | (simp [*]; done)), H', ⟨by have := HJ10.out; first | omega | exact Nat.le_refl _⟩, ⟨by (with_reducible repeat (first | apply Kd.R_alloc | apply Kd.R_drewN | apply Kd.R_drew)); exact HO_4.out⟩, ⟨by (with_reducible repeat (first | apply Kd.R_alloc | apply Kd.R_drewN | apply Kd.R_drew)); exact HO_7.out⟩, ⟨by (with_reducible repeat (first | apply Kd.S_alloc | apply Kd.S_drewN | apply Kd.S_drew)); exact Kd.S_mono HO_329001.out (fun _ hk => ⟨hk.1.1, hk.1.2⟩)⟩, ⟨by (with_reducible repeat (first | refine blk_drewN ?_ _ | refine blk_drew ?_ | refine blk_alloc ?_ _)); exact BK314.out⟩, ⟨by (with_reducible repeat (first | refine blk_drewN ?_ _ | refine blk_drew ?_ | refine blk_alloc ?_ _)); exact BK328.out⟩, ⟨by repeat (first | (with_reducible first | exact HB.out | apply below_alloc | apply pw_below_drewN | apply below_drew1 | refine below_set ?_ GE314.out | refine below_set ?_ GE328.out) | exact HB.out)⟩⟩
       ·rw [if_neg c45] at H
        have c45b0 : decide (t339 < 0) = false := decide_eq_false c45
        clear c45
        (first | rw [c45b0] | (simp only [i64_w, i32_w]; rw [c45b0]) | skip)
        replace H := Option.bind_eq_some_iff.mp H
        obtain ⟨t341, A460, H⟩ := H
        replace H : (if t341 = true then (laws_FnExactFirstDouble.j1 kj10 t320 t323 t329 (t332 != t323) a0_0 l0_1) else (laws_FnExactFirstDouble.j1 kj10 t320 t323 t329 true a0_0 l0_1)) = some r := H
        have A46 := Aside0.mk A460
        clear A460
        by_cases c47 : t341 = true
        ·subst c47
         have H1 : (laws_FnExactFirstDouble.j1 kj10 t320 t323 t329 (t332 != t323) a0_0 l0_1) = some r := by rw [if_pos rfl] at H; exact H
         clear H
         have H := H1
         clear H1
         have H' := Aside0.mk H
         clear H
         obtain ⟨Ao48, co48, eo48⟩ := Kd.R_slice HO_7.out
         subst eo48
         obtain ⟨Ao49, co49, eo49⟩ := Kd.R_slice HO_4.out
         subst eo49
         go_wp2_with (first | (go_at_call 13; (with_reducible refine (laws_eqInt64S.calls kj10 _ _ t329 _ _ t320 true _ ?side1 ?side2 ?side3 ?side4 A46.out).mono ?_); (case side1 => repeat (first | exact (Kd.R_reads' HO_7.out).2.2 | (with_reducible refine Kd.C_alloc ?_ _) | (with_reducible refine Kd.C_drewN ?_ _) | (with_reducible refine Kd.C_drew ?_))); (case side2 => exact (Kd.R_reads' HO_7.out).2.1); (case side3 => repeat (first | exact (Kd.R_reads' HO_4.out).2.2 | (with_reducible refine Kd.C_alloc ?_ _) | (with_reducible refine Kd.C_drewN ?_ _) | (with_reducible refine Kd.C_drew ?_))); (case side4 => exact (Kd.R_reads' HO_4.out).2.1); rintro e w' ⟨rfl, ⟨nd, rfl⟩⟩))
         go_meet
         case rel => exact ⟨_, ((t332 != t323)), (by first | rfl | (simp; done) | (simp [*]; done)), H', ⟨by have := HJ10.out; first | omega | exact Nat.le_refl _⟩, ⟨by (with_reducible repeat (first | apply Kd.R_alloc | apply Kd.R_drewN | apply Kd.R_drew)); exact HO_4.out⟩, ⟨by (with_reducible repeat (first | apply Kd.R_alloc | apply Kd.R_drewN | apply Kd.R_drew)); exact HO_7.out⟩, ⟨by (with_reducible repeat (first | apply Kd.S_alloc | apply Kd.S_drewN | apply Kd.S_drew)); exact Kd.S_mono HO_329001.out (fun _ hk => ⟨hk.1.1, hk.1.2⟩)⟩, ⟨by (with_reducible repeat (first | refine blk_drewN ?_ _ | refine blk_drew ?_ | refine blk_alloc ?_ _)); exact BK314.out⟩, ⟨by (with_reducible repeat (first | refine blk_drewN ?_ _ | refine blk_drew ?_ | refine blk_alloc ?_ _)); exact BK328.out⟩, ⟨by repeat (first | (with_reducible first | exact HB.out | apply below_alloc | apply pw_below_drewN | apply below_drew1 | refine below_set ?_ GE314.out | refine below_set ?_ GE328.out) | exact HB.out)⟩⟩
        ·replace c47 := Bool.eq_false_iff.mpr c47
         subst c47
         have H1 : (laws_FnExactFirstDouble.j1 kj10 t320 t323 t329 true a0_0 l0_1) = some r := by rw [if_neg (show ¬ (false = true) by decide)] at H; exact H
         clear H
         have H := H1
         clear H1
         have H' := Aside0.mk H
         clear H
         obtain ⟨Ao50, co50, eo50⟩ := Kd.R_slice HO_7.out
         subst eo50
         obtain ⟨Ao51, co51, eo51⟩ := Kd.R_slice HO_4.out
         subst eo51
         go_wp2_with (first | (go_at_call 13; (with_reducible refine (laws_eqInt64S.calls kj10 _ _ t329 _ _ t320 false _ ?side1 ?side2 ?side3 ?side4 A46.out).mono ?_); (case side1 => repeat (first | exact (Kd.R_reads' HO_7.out).2.2 | (with_reducible refine Kd.C_alloc ?_ _) | (with_reducible refine Kd.C_drewN ?_ _) | (with_reducible refine Kd.C_drew ?_))); (case side2 => exact (Kd.R_reads' HO_7.out).2.1); (case side3 => repeat (first | exact (Kd.R_reads' HO_4.out).2.2 | (with_reducible refine Kd.C_alloc ?_ _) | (with_reducible refine Kd.C_drewN ?_ _) | (with_reducible refine Kd.C_drew ?_))); (case side4 => exact (Kd.R_reads' HO_4.out).2.1); rintro e w' ⟨rfl, ⟨nd, rfl⟩⟩))
         go_meet
         case rel => exact ⟨_, (true), (by first | rfl | (simp; done) | (simp [*]; done)), H', ⟨by have := HJ10.out; first | omega | exact Nat.le_refl _⟩, ⟨by (with_reducible repeat (first | apply Kd.R_alloc | apply Kd.R_drewN | apply Kd.R_drew)); exact HO_4.out⟩, ⟨by (with_reducible repeat (first | apply Kd.R_alloc | apply Kd.R_drewN | apply Kd.R_drew)); exact HO_7.out⟩, ⟨by (with_reducible repeat (first | apply Kd.S_alloc | apply Kd.S_drewN | apply Kd.S_drew)); exact Kd.S_mono HO_329001.out (fun _ hk => ⟨hk.1.1, hk.1.2⟩)⟩, ⟨by (with_reducible repeat (first | refine blk_drewN ?_ _ | refine blk_drew ?_ | refine blk_alloc ?_ _)); exact BK314.out⟩, ⟨by (with_reducible repeat (first | refine blk_drewN ?_ _ | refine blk_drew ?_ | refine blk_alloc ?_ _)); exact BK328.out⟩, ⟨by repeat (first | (with_reducible first | exact HB.out | apply below_alloc | apply pw_below_drewN | apply below_drew1 | refine below_set ?_ GE314.out | refine below_set ?_ GE328.out) | exact HB.out)⟩⟩
      case rest =>
       clear HC37
       try clear c1
       try clear c2
       try clear p2
       try clear c3
       try clear c3b0
       try clear c4
       try clear c7
       try clear c13
       try clear c16
       try clear c18
       try clear c20
       try clear c22
       try clear c23
       try clear c24
       try clear c25
       try clear c27
       try clear c32
       try clear c35
       try clear c42
       try clear c45
       try clear c45b0
       try clear c47
       try clear hcz13_0
       try clear hcz13_1
       try clear hcz15_0
       try clear hcz15_1
       try clear hcz19_0
       try clear hcz19_1
       try clear hcz23_0
       try clear hcz23_1
       try clear hcz43_0
       try clear hcz43_1
       try clear hcz5_0
       try clear hcz5_1
       try clear hfz13_0
       try clear hfz13_1
       try clear hfz15_0
       try clear hfz15_1
       try clear hfz19_0
       try clear hfz19_1
       try clear hfz23_0
       try clear hfz23_1
       try clear hfz43_0
       try clear hfz43_1
       try clear hfz5_0
       try clear hfz5_1
       try clear p2
       obtain ⟨kq, x61_36, rfl, HA, HJ36, HO_4, HO_7, HO_329001, BK314, BK328, HB⟩ := hcut
       have hl329001_36 := (Kd.S_reads' HO_329001.out).1
       rw [hl329001_36] at HO_329001
       (try simp only [hl329001_36])
       (try simp only [hl329001_36] at BK314)
       (try simp only [hl329001_36] at BK328)
       (try simp only [hl329001_36] at HO_4)
       (try simp only [hl329001_36] at HO_7)
       cases kq with
       | zero => exact absurd HA.out (by simp [laws_FnExactFirstDouble.j1])
       | succ kj36 =>
        have H := HA.out
        clear HA
        simp only [laws_FnExactFirstDouble.j1] at H
        by_cases c52 : x61_36 = true
        ·subst c52
         have H1 : (some false) = some r := by rw [if_pos rfl] at H; exact H
         clear H
         have H := H1
         clear H1
         obtain rfl := Option.some.inj H
         go_wp2
         go_ret
         exact ⟨by first | rfl | (simp [errW_none, errW_some] <;> rfl) | (simp [*, errW_none, errW_some] <;> rfl), by repeat (first | (with_reducible first | exact HB.out | apply below_alloc | apply pw_below_drewN | apply below_drew1 | refine below_set ?_ GE314.out | refine below_set ?_ GE328.out) | exact HB.out)⟩
        ·replace c52 := Bool.eq_false_iff.mpr c52
         subst c52
         have H1 : ((laws_markInt64S.f kj36 t329 1).bind fun bt342 => ((laws_heldInt64S.f kj36 bt342.2 1).bind fun t344 => (if t344 < 0 then (some false) else (if t344 = bt342.1 then ((laws_toNet.f kj36 a0_0 l0_1).bind fun bt345 => ((impl_FirstDouble.f kj36 bt345.1 bt345.2).bind fun bt349 => ((laws_eqInt64S.f kj36 bt349.1 t320).bind fun t353 => (if t353 = true then (laws_FnExactFirstDouble.j2 kj36 bt342.2 bt342.1 (bt349.2 != t323)) else (laws_FnExactFirstDouble.j2 kj36 bt342.2 bt342.1 true))))) else (some false))))) = some r := by rw [if_neg (show ¬ (false = true) by decide)] at H; exact H
         clear H
         have H := H1
         clear H1
         replace H := Option.bind_eq_some_iff.mp H
         obtain ⟨⟨t342, t343⟩, A530, H⟩ := H
         replace H : ((laws_heldInt64S.f kj36 t343 1).bind fun t344 => (if t344 < 0 then (some false) else (if t344 = t342 then ((laws_toNet.f kj36 a0_0 l0_1).bind fun bt345 => ((impl_FirstDouble.f kj36 bt345.1 bt345.2).bind fun bt349 => ((laws_eqInt64S.f kj36 bt349.1 t320).bind fun t353 => (if t353 = true then (laws_FnExactFirstDouble.j2 kj36 t343 t342 (bt349.2 != t323)) else (laws_FnExactFirstDouble.j2 kj36 t343 t342 true))))) else (some false)))) = some r := H
         have A53 := Aside0.mk A530
         clear A530
         replace H := Option.bind_eq_some_iff.mp H
         obtain ⟨t344, A540, H⟩ := H
         replace H : (if t344 < 0 then (some false) else (if t344 = t342 then ((laws_toNet.f kj36 a0_0 l0_1).bind fun bt345 => ((impl_FirstDouble.f kj36 bt345.1 bt345.2).bind fun bt349 => ((laws_eqInt64S.f kj36 bt349.1 t320).bind fun t353 => (if t353 = true then (laws_FnExactFirstDouble.j2 kj36 t343 t342 (bt349.2 != t323)) else (laws_FnExactFirstDouble.j2 kj36 t343 t342 true))))) else (some false))) = some r := H
         have A54 := Aside0.mk A540
         clear A540
         by_cases c55 : t344 < 0
         ·rw [if_pos c55] at H
          have c55b0 : decide (t344 < 0) = true := decide_eq_true c55
          clear c55
          obtain rfl := Option.some.inj H
          obtain ⟨Ao56, co56, eo56⟩ := Kd.R_slice HO_7.out
          subst eo56
          go_wp2_with (first | ((with_reducible refine gate_callee (f := 26) rfl ?_); refine goesL_ (some 64) rfl rfl Try.func26 (by kernel_rfl) rfl #[.slice Ao56 t329.length co56, .int .i64 1] rfl (by (try simp only [List.map_toArray, List.map_cons, List.map_nil]); first | done | rfl | (simp only [List.length_drop, List.length_take]; rfl)) ?_; (with_reducible refine (laws_markInt64S.calls kj36 (fun k_ => some k_ = (.slice Ao56 t329.length co56 : Value).ownBlock) (.slice Ao56 t329.length co56) t329 1 t342 t343 w _ ?side1 ?side2 A53.out).mono ?_); (case side1 => repeat (first | (with_reducible first | exact HB.out | apply below_alloc | apply pw_below_drewN | apply below_drew1 | refine below_set ?_ GE314.out | refine below_set ?_ GE328.out) | exact HB.out)); (case side2 => exact Kd.R_tight rfl HO_7.out); rintro e w57 ⟨rfl, hy0, hb, hkp⟩; refine ⟨_, rfl, ?_⟩; have n0_ := Aside0.mk (Kd.R_mono (ok' := fun k_ => some k_ ≠ (.slice Ao56 t329.length co56 : Value).ownBlock) (Kd.R_keptB (HO_4.out) hkp (fun k_ hk_ hs_ => (hk_) hs_)) (fun k_ hk_ => hk_.1)); have n1_ := Aside0.mk (Kd.R_reok rfl hy0 (fun k_ e_ => HO_7.out.1 k_ e_)); have n2_ := Aside0.mk (Kd.S_mono (ok' := fun k_ => some k_ ≠ (v321 : Value).ownBlock ∧ some k_ ≠ (.slice Ao56 t329.length co56 : Value).ownBlock) (Kd.S_keptB (HO_329001.out) hkp (fun k_ hk_ hs_ => (hk_.2) hs_)) (fun k_ hk_ => ⟨hk_.1.1, hk_.1.2⟩)); have n3_ := Aside0.mk (blk_kept (by (with_reducible repeat (first | refine blk_drewN ?_ _ | refine blk_drew ?_ | refine blk_alloc ?_ _)); exact BK314.out) hkp (fun hs_ => (fun e_ => (Kd.R_ne HO_7.out BK314.out (by decide)) e_) hs_)); have n4_ := Aside0.mk (blk_kept (by (with_reducible repeat (first | refine blk_drewN ?_ _ | refine blk_drew ?_ | refine blk_alloc ?_ _)); exact BK328.out) hkp (fun hs_ => (fun e_ => (Kd.R_ne HO_7.out BK328.out (by decide)) e_) hs_)); have n5_ := Aside0.mk (hb); clear HO_4; clear HO_7; clear HO_329001; clear BK314; clear BK328; clear HB; have HO_4 := n0_; have HO_7 := n1_; have HO_329001 := n2_; have BK314 := n3_; have BK328 := n4_; have HB := n5_; clear n0_ n1_ n2_ n3_ n4_ n5_; (try clear hb); (try clear hkp); (try clear hy0)) | ((with_reducible refine gate_callee (f := 27) rfl ?_); refine goesL_ (some 67) rfl rfl Try.func27 (by kernel_rfl) rfl #[.slice Ao56 t343.length co56, .int .i64 1] rfl (by (try simp only [List.map_toArray, List.map_cons, List.map_nil]); first | done | (rw [show t343.length = t329.length from (Kd.R_reads' HO_7.out).1.symm] <;> rfl) | rfl | (simp only [List.length_drop, List.length_take]; rfl)) ?_; (with_reducible refine (laws_heldInt64S.calls kj36 _ _ t343 1 t344 _ ?side1 ?side2 A54.out).mono ?_); (case side1 => repeat (first | exact (Kd.R_reads' HO_7.out).2.2 | (with_reducible refine Kd.C_alloc ?_ _) | (with_reducible refine Kd.C_drewN ?_ _) | (with_reducible refine Kd.C_drew ?_))); (case side2 => rw [show t343.length = t329.length from (Kd.R_reads' HO_7.out).1.symm]; exact (Kd.R_reads' HO_7.out).2.1); rintro e w' ⟨rfl, ⟨nd, rfl⟩⟩; refine ⟨_, rfl, ?_⟩))
          go_ret
          exact ⟨by first | rfl | (simp [errW_none, errW_some] <;> rfl) | (simp [*, errW_none, errW_some] <;> rfl), by repeat (first | (with_reducible first | exact HB.out | apply below_alloc | apply pw_below_drewN | apply below_drew1 | refine below_set ?_ GE314.out | refine below_set ?_ GE328.out) | exact HB.out)⟩
         ·rw [if_neg c55] at H
          have c55b0 : decide (t344 < 0) = false := decide_eq_false c55
          clear c55
          by_cases c58 : t344 = t342
          ·rw [if_pos c58] at H
           have c58b0 : (t344 == t342) = true := beq_iff_eq.mpr c58
           have c58b1 : (t344 != t342) = false := bne_eq_false_iff_eq.mpr c58
           clear c58
           replace H := Option.bind_eq_some_iff.mp H
           obtain ⟨⟨t345, t346⟩, A590, H⟩ := H
           replace H : ((impl_FirstDouble.f kj36 t345 t346).bind fun bt349 => ((laws_eqInt64S.f kj36 bt349.1 t320).bind fun t353 => (if t353 = true then (laws_FnExactFirstDouble.j2 kj36 t343 t342 (bt349.2 != t323)) else (laws_FnExactFirstDouble.j2 kj36 t343 t342 true)))) = some r := H
           have A59 := Aside0.mk A590
           clear A590
           replace H := Option.bind_eq_some_iff.mp H
           obtain ⟨⟨t349, t352⟩, A600, H⟩ := H
           replace H : ((laws_eqInt64S.f kj36 t349 t320).bind fun t353 => (if t353 = true then (laws_FnExactFirstDouble.j2 kj36 t343 t342 (t352 != t323)) else (laws_FnExactFirstDouble.j2 kj36 t343 t342 true))) = some r := H
           have A60 := Aside0.mk A600
           clear A600
           have HC61 := Aside0.mk H
           clear H
           obtain ⟨Ao62, co62, eo62⟩ := Kd.R_slice HO_7.out
           subst eo62
           go_upto_region 25 with (first | ((with_reducible refine gate_callee (f := 26) rfl ?_); refine goesL_ (some 64) rfl rfl Try.func26 (by kernel_rfl) rfl #[.slice Ao62 t329.length co62, .int .i64 1] rfl (by (try simp only [List.map_toArray, List.map_cons, List.map_nil]); first | done | rfl | (simp only [List.length_drop, List.length_take]; rfl)) ?_; (with_reducible refine (laws_markInt64S.calls kj36 (fun k_ => some k_ = (.slice Ao62 t329.length co62 : Value).ownBlock) (.slice Ao62 t329.length co62) t329 1 t342 t343 w _ ?side1 ?side2 A53.out).mono ?_); (case side1 => repeat (first | (with_reducible first | exact HB.out | apply below_alloc | apply pw_below_drewN | apply below_drew1 | refine below_set ?_ GE314.out | refine below_set ?_ GE328.out) | exact HB.out)); (case side2 => exact Kd.R_tight rfl HO_7.out); rintro e w63 ⟨rfl, hy0, hb, hkp⟩; refine ⟨_, rfl, ?_⟩; have n0_ := Aside0.mk (Kd.R_mono (ok' := fun k_ => some k_ ≠ (.slice Ao62 t329.length co62 : Value).ownBlock) (Kd.R_keptB (HO_4.out) hkp (fun k_ hk_ hs_ => (hk_) hs_)) (fun k_ hk_ => hk_.1)); have n1_ := Aside0.mk (Kd.R_reok rfl hy0 (fun k_ e_ => HO_7.out.1 k_ e_)); have n2_ := Aside0.mk (Kd.S_mono (ok' := fun k_ => some k_ ≠ (v321 : Value).ownBlock ∧ some k_ ≠ (.slice Ao62 t329.length co62 : Value).ownBlock) (Kd.S_keptB (HO_329001.out) hkp (fun k_ hk_ hs_ => (hk_.2) hs_)) (fun k_ hk_ => ⟨hk_.1.1, hk_.1.2⟩)); have n3_ := Aside0.mk (blk_kept (by (with_reducible repeat (first | refine blk_drewN ?_ _ | refine blk_drew ?_ | refine blk_alloc ?_ _)); exact BK314.out) hkp (fun hs_ => (fun e_ => (Kd.R_ne HO_7.out BK314.out (by decide)) e_) hs_)); have n4_ := Aside0.mk (blk_kept (by (with_reducible repeat (first | refine blk_drewN ?_ _ | refine blk_drew ?_ | refine blk_alloc ?_ _)); exact BK328.out) hkp (fun hs_ => (fun e_ => (Kd.R_ne HO_7.out BK328.out (by decide)) e_) hs_)); have n5_ := Aside0.mk (hb); clear HO_4; clear HO_7; clear HO_329001; clear BK314; clear BK328; clear HB; have HO_4 := n0_; have HO_7 := n1_; have HO_329001 := n2_; have BK314 := n3_; have BK328 := n4_; have HB := n5_; clear n0_ n1_ n2_ n3_ n4_ n5_; (try clear hb); (try clear hkp); (try clear hy0)) | ((with_reducible refine gate_callee (f := 27) rfl ?_); refine goesL_ (some 67) rfl rfl Try.func27 (by kernel_rfl) rfl #[.slice Ao62 t343.length co62, .int .i64 1] rfl (by (try simp only [List.map_toArray, List.map_cons, List.map_nil]); first | done | (rw [show t343.length = t329.length from (Kd.R_reads' HO_7.out).1.symm] <;> rfl) | rfl | (simp only [List.length_drop, List.length_take]; rfl)) ?_; (with_reducible refine (laws_heldInt64S.calls kj36 _ _ t343 1 t344 _ ?side1 ?side2 A54.out).mono ?_); (case side1 => repeat (first | exact (Kd.R_reads' HO_7.out).2.2 | (with_reducible refine Kd.C_alloc ?_ _) | (with_reducible refine Kd.C_drewN ?_ _) | (with_reducible refine Kd.C_drew ?_))); (case side2 => rw [show t343.length = t329.length from (Kd.R_reads' HO_7.out).1.symm]; exact (Kd.R_reads' HO_7.out).2.1); rintro e w' ⟨rfl, ⟨nd, rfl⟩⟩; refine ⟨_, rfl, ?_⟩; have hnb64 := NB314_328.out; have hnc64 := NB328_314.out; have hcz65_0 : w63.cell? ⟨gb314, 0, none⟩ = some (.int .i64 a0_0) := (blk_cell BK314.out 0).trans rfl; have hcz65_1 : w63.cell? ⟨gb314, 1, none⟩ = some (.slice A0_1 l0_1.length c0_1) := (blk_cell BK314.out 1).trans rfl; have hfz65_0 := blk_frozen BK314.out 0; have hfz65_1 := blk_frozen BK314.out 1) | ((with_reducible refine gate_callee (f := 18) rfl ?_); refine goesL_ (some 75) rfl rfl Try.func18 (by kernel_rfl) rfl #[.agg #[.int .i64 a0_0, .slice A0_1 l0_1.length c0_1]] rfl (by (try simp only [List.map_toArray, List.map_cons, List.map_nil]); first | done | rfl | (simp only [List.length_drop, List.length_take]; rfl)) ?_; (with_reducible refine (laws_toNet.calls kj36 a0_0 _ _ l0_1 t345 t346 _ ?side1 ?side2 A59.out).mono ?_); (case side1 => repeat (first | exact (Kd.C_below HR0_1.out (by repeat (first | (with_reducible first | exact HB.out | apply below_alloc | apply pw_below_drewN | apply below_drew1 | refine below_set ?_ GE314.out | refine below_set ?_ GE328.out) | exact HB.out))) | (with_reducible refine Kd.C_alloc ?_ _) | (with_reducible refine Kd.C_drewN ?_ _) | (with_reducible refine Kd.C_drew ?_))); (case side2 => exact HC0_1.out); rintro e w66 ⟨v347, rfl, ho0, hb⟩; refine ⟨_, rfl, ?_⟩; have n0_ := Aside0.mk (Kd.R_below (by (with_reducible repeat (first | apply Kd.R_alloc | apply Kd.R_drewN | apply Kd.R_drew)); exact HO_4.out) hb); have n1_ := Aside0.mk (Kd.R_below (by (with_reducible repeat (first | apply Kd.R_alloc | apply Kd.R_drewN | apply Kd.R_drew)); exact HO_7.out) hb); have n2_ := Aside0.mk (Kd.S_elder' (by (with_reducible repeat (first | apply Kd.S_alloc | apply Kd.S_drewN | apply Kd.S_drew)); exact HO_329001.out) (Kd.S_base ho0) hb); have n3_ := Aside0.mk (Kd.S_lower (Kd.S_new' (Kd.S_new' (Kd.S_new' ho0 (Kd.R_lt (by (with_reducible repeat (first | apply Kd.R_alloc | apply Kd.R_drewN | apply Kd.R_drew)); exact HO_4.out))) (Kd.R_lt (by (with_reducible repeat (first | apply Kd.R_alloc | apply Kd.R_drewN | apply Kd.R_drew)); exact HO_7.out))) (Kd.S_lt (by (with_reducible repeat (first | apply Kd.S_alloc | apply Kd.S_drewN | apply Kd.S_drew)); exact HO_329001.out))) (below_size (by repeat (first | (with_reducible first | exact HB.out | apply below_alloc | apply pw_below_drewN | apply below_drew1 | refine below_set ?_ GE314.out | refine below_set ?_ GE328.out) | exact HB.out)))); have n4_ := Aside0.mk (blk_below (g := gb314) (o := .cells #[.int .i64 a0_0, .slice A0_1 l0_1.length c0_1] 30 (0, 0)) (by (with_reducible repeat (first | refine blk_drewN ?_ _ | refine blk_drew ?_ | refine blk_alloc ?_ _)); exact BK314.out) hb); have n5_ := Aside0.mk (blk_below (g := gb328) (o := .cells #[.int .i64 t324, .slice Ao24 t340.length co24] 33 (0, 0)) (by (with_reducible repeat (first | refine blk_drewN ?_ _ | refine blk_drew ?_ | refine blk_alloc ?_ _)); exact BK328.out) hb); have n6_ := Aside0.mk (below_step (by repeat (first | (with_reducible first | exact HB.out | apply below_alloc | apply pw_below_drewN | apply below_drew1 | refine below_set ?_ GE314.out | refine below_set ?_ GE328.out) | exact HB.out)) hb); clear HO_4; clear HO_7; clear HO_329001; clear BK314; clear BK328; clear HB; have HO_4 := n0_; have HO_7 := n1_; have HO_329001 := n2_; have HO348 := n3_; have BK314 := n4_; have BK328 := n5_; have HB := n6_; clear n0_ n1_ n2_ n3_ n4_ n5_ n6_; (try clear hb); (try clear hb2); (try clear hk); (try clear hi); (try clear ho0); obtain ⟨Ao67, co67, eo67⟩ := Kd.S_slice HO348.out; subst eo67) | ((with_reducible refine gate_callee (f := 24) rfl ?_); refine goesL_ (some 76) rfl rfl Try.func24 (by kernel_rfl) rfl #[.agg #[.int .i64 t345, .slice Ao67 t346.length co67]] rfl (by (try simp only [List.map_toArray, List.map_cons, List.map_nil]); first | done | rfl | (simp only [List.length_drop, List.length_take]; rfl)) ?_; (with_reducible refine (impl_FirstDouble.calls kj36 t345 _ _ t346 t349 t352 _ ?side1 ?side2 A60.out).mono ?_); (case side1 => repeat (first | exact (Kd.S_reads' HO348.out).2.2 | (with_reducible refine Kd.C_alloc ?_ _) | (with_reducible refine Kd.C_drewN ?_ _) | (with_reducible refine Kd.C_drew ?_))); (case side2 => exact (Kd.S_reads' HO348.out).2.1); rintro e w68 ⟨v350, rfl, ho0, hb⟩; refine ⟨_, rfl, ?_⟩; have n0_ := Aside0.mk (Kd.R_elder' (by (with_reducible repeat (first | apply Kd.R_alloc | apply Kd.R_drewN | apply Kd.R_drew)); exact HO_4.out) (Kd.R_base ho0) hb); have n1_ := Aside0.mk (Kd.R_elder' (by (with_reducible repeat (first | apply Kd.R_alloc | apply Kd.R_drewN | apply Kd.R_drew)); exact HO_7.out) (Kd.R_base ho0) hb); have n2_ := Aside0.mk (Kd.S_elder' (by (with_reducible repeat (first | apply Kd.S_alloc | apply Kd.S_drewN | apply Kd.S_drew)); exact HO_329001.out) (Kd.R_base ho0) hb); have n3_ := Aside0.mk (Kd.S_elder' (by (with_reducible repeat (first | apply Kd.S_alloc | apply Kd.S_drewN | apply Kd.S_drew)); exact HO348.out) (Kd.R_base ho0) hb); have n4_ := Aside0.mk (Kd.R_lower (Kd.R_new' (Kd.R_new' ho0 (Kd.R_lt (by (with_reducible repeat (first | apply Kd.R_alloc | apply Kd.R_drewN | apply Kd.R_drew)); exact HO_4.out))) (Kd.R_lt (by (with_reducible repeat (first | apply Kd.R_alloc | apply Kd.R_drewN | apply Kd.R_drew)); exact HO_7.out))) (below_size (by repeat (first | (with_reducible first | exact HB.out | apply below_alloc | apply pw_below_drewN | apply below_drew1 | refine below_set ?_ GE314.out | refine below_set ?_ GE328.out) | exact HB.out)))); have n5_ := Aside0.mk (blk_below (g := gb314) (o := .cells #[.int .i64 a0_0, .slice A0_1 l0_1.length c0_1] 30 (0, 0)) (by (with_reducible repeat (first | refine blk_drewN ?_ _ | refine blk_drew ?_ | refine blk_alloc ?_ _)); exact BK314.out) hb); have n6_ := Aside0.mk (blk_below (g := gb328) (o := .cells #[.int .i64 t324, .slice Ao24 t340.length co24] 33 (0, 0)) (by (with_reducible repeat (first | refine blk_drewN ?_ _ | refine blk_drew ?_ | refine blk_alloc ?_ _)); exact BK328.out) hb); have n7_ := Aside0.mk (below_step (by repeat (first | (with_reducible first | exact HB.out | apply below_alloc | apply pw_below_drewN | apply below_drew1 | refine below_set ?_ GE314.out | refine below_set ?_ GE328.out) | exact HB.out)) hb); clear HO_4; clear HO_7; clear HO_329001; clear HO348; clear BK314; clear BK328; clear HB; have HO_4 := n0_; have HO_7 := n1_; have HO_329001 := n2_; have HO348 := n3_; have HO351 := n4_; have BK314 := n5_; have BK328 := n6_; have HB := n7_; clear n0_ n1_ n2_ n3_ n4_ n5_ n6_ n7_; (try clear hb); (try clear hb2); (try clear hk); (try clear hi); (try clear ho0)))
           (try simp only [Act.put, List.setIfInBounds_toArray, List.set_cons_zero, List.set_cons_succ])
           go_cut [87] (fun v87 wc => ∃ (kq : Nat) (x87_60 : Bool), v87 = .bool x87_60 ∧ Aside0 (laws_FnExactFirstDouble.j2 kq t343 t342 x87_60 = some r) ∧ Aside0 (kq ≤ kj36) ∧ Aside0 (Kd.R (Kd.int .i64) 2 wc w.heap.size (fun _ => True) (.slice Ao62 t329.length co62) t343) ∧ Aside0 (Kd.S (Kd.slice 2 (Kd.int .i64)) 22 wc w.heap.size (fun k_ => some k_ ≠ ((.slice Ao62 t329.length co62) : Value).ownBlock) (.slice Ao24 t340.length co24) t340) ∧ Aside0 (wc.heap[gb314]? = some (.cells #[.int .i64 a0_0, (.slice A0_1 l0_1.length c0_1)] 30 (0, 0))) ∧ Aside0 (wc.heap[gb328]? = some (.cells #[.int .i64 t324, (.slice Ao24 t340.length co24)] 33 (0, 0))) ∧ Aside0 (Below w.heap.size w wc))
           case first =>
            have H := HC61.out
            clear HC61
            replace H := Option.bind_eq_some_iff.mp H
            obtain ⟨t353, A690, H⟩ := H
            replace H : (if t353 = true then (laws_FnExactFirstDouble.j2 kj36 t343 t342 (t352 != t323)) else (laws_FnExactFirstDouble.j2 kj36 t343 t342 true)) = some r := H
            have A69 := Aside0.mk A690
            clear A690
            by_cases c70 : t353 = true
            ·subst c70
             have H1 : (laws_FnExactFirstDouble.j2 kj36 t343 t342 (t352 != t323)) = some r := by rw [if_pos rfl] at H; exact H
             clear H
             have H := H1
             clear H1
             have H' := Aside0.mk H
             clear H
             obtain ⟨Ao71, co71, eo71⟩ := Kd.R_slice HO351.out
             subst eo71
             obtain ⟨Ao72, co72, eo72⟩ := Kd.R_slice HO_4.out
             subst eo72
             go_wp2_with (first | ((with_reducible refine gate_callee (f := 13) rfl ?_); refine goesL_ (some 81) rfl rfl Try.func13 (by kernel_rfl) rfl #[.slice Ao71 t349.length co71, .slice Ao72 t320.length co72] rfl (by (try simp only [List.map_toArray, List.map_cons, List.map_nil]); first | done | rfl | (simp only [List.length_drop, List.length_take]; rfl)) ?_; (with_reducible refine (laws_eqInt64S.calls kj36 _ _ t349 _ _ t320 true _ ?side1 ?side2 ?side3 ?side4 A69.out).mono ?_); (case side1 => repeat (first | exact (Kd.R_reads' HO351.out).2.2 | (with_reducible refine Kd.C_alloc ?_ _) | (with_reducible refine Kd.C_drewN ?_ _) | (with_reducible refine Kd.C_drew ?_))); (case side2 => exact (Kd.R_reads' HO351.out).2.1); (case side3 => repeat (first | exact (Kd.R_reads' HO_4.out).2.2 | (with_reducible refine Kd.C_alloc ?_ _) | (with_reducible refine Kd.C_drewN ?_ _) | (with_reducible refine Kd.C_drew ?_))); (case side4 => exact (Kd.R_reads' HO_4.out).2.1); rintro e w' ⟨rfl, ⟨nd, rfl⟩⟩; refine ⟨_, rfl, ?_⟩))
             go_meet
             case rel => exact ⟨_, ((t352 != t323)), (by first | rfl | (simp; done) | (simp [*]; done)), H', ⟨by have := HJ10.out; have := HJ36.out; first | omega | exact Nat.le_refl _⟩, ⟨by (try simp only [hl329001_36]); (with_reducible repeat (first | apply Kd.R_alloc | apply Kd.R_drewN | apply Kd.R_drew)); exact Kd.R_mono HO_7.out (fun _ hk => trivial)⟩, ⟨by (try simp only [hl329001_36]); (with_reducible repeat (first | apply Kd.S_alloc | apply Kd.S_drewN | apply Kd.S_drew)); exact Kd.S_mono HO_329001.out (fun _ hk => hk.1.1.2)⟩, ⟨by (try simp only [hl329001_36]); (with_reducible repeat (first | refine blk_drewN ?_ _ | refine blk_drew ?_ | refine blk_alloc ?_ _)); exact BK314.out⟩, ⟨by (try simp only [hl329001_36]); (with_reducible repeat (first | refine blk_drewN ?_ _ | refine blk_drew ?_ | refine blk_alloc ?_ _)); exact BK328.out⟩, ⟨by repeat (first | (with_reducible first | exact HB.out | apply below_alloc | apply pw_below_drewN | apply below_drew1 | refine below_set ?_ GE314.out | refine below_set ?_ GE328.out) | exact HB.out)⟩⟩
            ·replace c70 := Bool.eq_false_iff.mpr c70
             subst c70
             have H1 : (laws_FnExactFirstDouble.j2 kj36 t343 t342 true) = some r := by rw [if_neg (show ¬ (false = true) by decide)] at H; exact H
             clear H
             have H := H1
             clear H1
             have H' := Aside0.mk H
             clear H
             obtain ⟨Ao73, co73, eo73⟩ := Kd.R_slice HO351.out
             subst eo73
             obtain ⟨Ao74, co74, eo74⟩ := Kd.R_slice HO_4.out
             subst eo74
             go_wp2_with (first | ((with_reducible refine gate_callee (f := 13) rfl ?_); refine goesL_ (some 81) rfl rfl Try.func13 (by kernel_rfl) rfl #[.slice Ao73 t349.length co73, .slice Ao74 t320.length co74] rfl (by (try simp only [List.map_toArray, List.map_cons, List.map_nil]); first | done | rfl | (simp only [List.length_drop, List.length_take]; rfl)) ?_; (with_reducible refine (laws_eqInt64S.calls kj36 _ _ t349 _ _ t320 false _ ?side1 ?side2 ?side3 ?side4 A69.out).mono ?_); (case side1 => repeat (first | exact (Kd.R_reads' HO351.out).2.2 | (with_reducible refine Kd.C_alloc ?_ _) | (with_reducible refine Kd.C_drewN ?_ _) | (with_reducible refine Kd.C_drew ?_))); (case side2 => exact (Kd.R_reads' HO351.out).2.1); (case side3 => repeat (first | exact (Kd.R_reads' HO_4.out).2.2 | (with_reducible refine Kd.C_alloc ?_ _) | (with_reducible refine Kd.C_drewN ?_ _) | (with_reducible refine Kd.C_drew ?_))); (case side4 => exact (Kd.R_reads' HO_4.out).2.1); rintro e w' ⟨rfl, ⟨nd, rfl⟩⟩; refine ⟨_, rfl, ?_⟩))
             go_meet
             case rel => exact ⟨_, (true), (by first | rfl | (simp; done) | (simp [*]; done)), H', ⟨by have := HJ10.out; have := HJ36.out; first | omega | exact Nat.le_refl _⟩, ⟨by (try simp only [hl329001_36]); (with_reducible repeat (first | apply Kd.R_alloc | apply Kd.R_drewN | apply Kd.R_drew)); exact Kd.R_mono HO_7.out (fun _ hk => trivial)⟩, ⟨by (try simp only [hl329001_36]); (with_reducible repeat (first | apply Kd.S_alloc | apply Kd.S_drewN | apply Kd.S_drew)); exact Kd.S_mono HO_329001.out (fun _ hk => hk.1.1.2)⟩, ⟨by (try simp only [hl329001_36]); (with_reducible repeat (first | refine blk_drewN ?_ _ | refine blk_drew ?_ | refine blk_alloc ?_ _)); exact BK314.out⟩, ⟨by (try simp only [hl329001_36]); (with_reducible repeat (first | refine blk_drewN ?_ _ | refine blk_drew ?_ | refine blk_alloc ?_ _)); exact BK328.out⟩, ⟨by repeat (first | (with_reducible first | exact HB.out | apply below_alloc | apply pw_below_drewN | apply below_drew1 | refine below_set ?_ GE314.out | refine below_set ?_ GE328.out) | exact HB.out)⟩⟩
           case rest =>
            clear HC61
            try clear c1
            try clear c2
            try clear p2
            try clear c3
            try clear c3b0
            try clear c4
            try clear c5
            try clear c6
            try clear c7
            try clear c13
            try clear c16
            try clear c18
            try clear c20
            try clear c22
            try clear c23
            try clear c24
            try clear c25
            try clear c26
            try clear c27
            try clear c32
            try clear c35
            try clear c42
            try clear c45
            try clear c45b0
            try clear c47
            try clear c52
            try clear c55
            try clear c55b0
            try clear c58
            try clear c58b0
            try clear c58b1
            try clear c64
            try clear c70
            try clear hcz13_0
            try clear hcz13_1
            try clear hcz15_0
            try clear hcz15_1
            try clear hcz19_0
            try clear hcz19_1
            try clear hcz23_0
            try clear hcz23_1
            try clear hcz43_0
            try clear hcz43_1
            try clear hcz5_0
            try clear hcz5_1
            try clear hcz65_0
            try clear hcz65_1
            try clear hfz13_0
            try clear hfz13_1
            try clear hfz15_0
            try clear hfz15_1
            try clear hfz19_0
            try clear hfz19_1
            try clear hfz23_0
            try clear hfz23_1
            try clear hfz43_0
            try clear hfz43_1
            try clear hfz5_0
            try clear hfz5_1
            try clear hfz65_0
            try clear hfz65_1
            try clear p2
            obtain ⟨kq, x87_60, rfl, HA, HJ60, HO_7, HO_329001, BK314, BK328, HB⟩ := hcut
            have hl7_60 := (Kd.R_reads' HO_7.out).1
            rw [hl7_60] at HO_7
            (try simp only [hl7_60])
            (try simp only [hl7_60] at BK314)
            (try simp only [hl7_60] at BK328)
            (try simp only [hl7_60] at HO_329001)
            cases kq with
            | zero => exact absurd HA.out (by simp [laws_FnExactFirstDouble.j2])
            | succ kj60 =>
             have H := HA.out
             clear HA
             simp only [laws_FnExactFirstDouble.j2] at H
             by_cases c75 : x87_60 = true
             ·subst c75
              have H1 : (some false) = some r := by rw [if_pos rfl] at H; exact H
              clear H
              have H := H1
              clear H1
              obtain rfl := Option.some.inj H
              go_wp2
              go_ret
              exact ⟨by first | rfl | (simp [errW_none, errW_some] <;> rfl) | (simp [*, errW_none, errW_some] <;> rfl), by repeat (first | (with_reducible first | exact HB.out | apply below_alloc | apply pw_below_drewN | apply below_drew1 | refine below_set ?_ GE314.out | refine below_set ?_ GE328.out) | exact HB.out)⟩
             ·replace c75 := Bool.eq_false_iff.mpr c75
              subst c75
              have H1 : ((laws_heldInt64S.f kj60 t343 1).bind fun t354 => (if t354 < 0 then (some false) else (if t354 = t342 then (some true) else (some false)))) = some r := by rw [if_neg (show ¬ (false = true) by decide)] at H; exact H
              clear H
              have H := H1
              clear H1
              replace H := Option.bind_eq_some_iff.mp H
              obtain ⟨t354, A760, H⟩ := H
              replace H : (if t354 < 0 then (some false) else (if t354 = t342 then (some true) else (some false))) = some r := H
              have A76 := Aside0.mk A760
              clear A760
              by_cases c77 : t354 < 0
              ·rw [if_pos c77] at H
               have c77b0 : decide (t354 < 0) = true := decide_eq_true c77
               clear c77
               obtain rfl := Option.some.inj H
               go_wp2_with (first | ((with_reducible refine gate_callee (f := 27) rfl ?_); refine goesL_ (some 90) rfl rfl Try.func27 (by kernel_rfl) rfl #[.slice Ao62 t343.length co62, .int .i64 1] rfl (by (try simp only [List.map_toArray, List.map_cons, List.map_nil]); first | done | rfl | (simp only [List.length_drop, List.length_take]; rfl)) ?_; (with_reducible refine (laws_heldInt64S.calls kj60 _ _ t343 1 t354 _ ?side1 ?side2 A76.out).mono ?_); (case side1 => repeat (first | exact (Kd.R_reads' HO_7.out).2.2 | (with_reducible refine Kd.C_alloc ?_ _) | (with_reducible refine Kd.C_drewN ?_ _) | (with_reducible refine Kd.C_drew ?_))); (case side2 => exact (Kd.R_reads' HO_7.out).2.1); rintro e w' ⟨rfl, ⟨nd, rfl⟩⟩; refine ⟨_, rfl, ?_⟩))
               go_ret
               exact ⟨by first | rfl | (simp [errW_none, errW_some] <;> rfl) | (simp [*, errW_none, errW_some] <;> rfl), by repeat (first | (with_reducible first | exact HB.out | apply below_alloc | apply pw_below_drewN | apply below_drew1 | refine below_set ?_ GE314.out | refine below_set ?_ GE328.out) | exact HB.out)⟩
              ·rw [if_neg c77] at H
               have c77b0 : decide (t354 < 0) = false := decide_eq_false c77
               clear c77
               by_cases c78 : t354 = t342
               ·rw [if_pos c78] at H
                have c78b0 : (t354 == t342) = true := beq_iff_eq.mpr c78
                have c78b1 : (t354 != t342) = false := bne_eq_false_iff_eq.mpr c78
                clear c78
                obtain rfl := Option.some.inj H
                go_wp2_with (first | ((with_reducible refine gate_callee (f := 27) rfl ?_); refine goesL_ (some 90) rfl rfl Try.func27 (by kernel_rfl) rfl #[.slice Ao62 t343.length co62, .int .i64 1] rfl (by (try simp only [List.map_toArray, List.map_cons, List.map_nil]); first | done | rfl | (simp only [List.length_drop, List.length_take]; rfl)) ?_; (with_reducible refine (laws_heldInt64S.calls kj60 _ _ t343 1 t354 _ ?side1 ?side2 A76.out).mono ?_); (case side1 => repeat (first | exact (Kd.R_reads' HO_7.out).2.2 | (with_reducible refine Kd.C_alloc ?_ _) | (with_reducible refine Kd.C_drewN ?_ _) | (with_reducible refine Kd.C_drew ?_))); (case side2 => exact (Kd.R_reads' HO_7.out).2.1); rintro e w' ⟨rfl, ⟨nd, rfl⟩⟩; refine ⟨_, rfl, ?_⟩))
                go_ret
                exact ⟨by first | rfl | (simp [errW_none, errW_some] <;> rfl) | (simp [*, errW_none, errW_some] <;> rfl), by repeat (first | (with_reducible first | exact HB.out | apply below_alloc | apply pw_below_drewN | apply below_drew1 | refine below_set ?_ GE314.out | refine below_set ?_ GE328.out) | exact HB.out)⟩
               ·rw [if_neg c78] at H
                have c78b0 : (t354 == t342) = false := beq_eq_false_iff_ne.mpr c78
                have c78b1 : (t354 != t342) = true := bne_iff_ne.mpr c78
                obtain rfl := Option.some.inj H
                go_wp2_with (first | ((with_reducible refine gate_callee (f := 27) rfl ?_); refine goesL_ (some 90) rfl rfl Try.func27 (by kernel_rfl) rfl #[.slice Ao62 t343.length co62, .int .i64 1] rfl (by (try simp only [List.map_toArray, List.map_cons, List.map_nil]); first | done | rfl | (simp only [List.length_drop, List.length_take]; rfl)) ?_; (with_reducible refine (laws_heldInt64S.calls kj60 _ _ t343 1 t354 _ ?side1 ?side2 A76.out).mono ?_); (case side1 => repeat (first | exact (Kd.R_reads' HO_7.out).2.2 | (with_reducible refine Kd.C_alloc ?_ _) | (with_reducible refine Kd.C_drewN ?_ _) | (with_reducible refine Kd.C_drew ?_))); (case side2 => exact (Kd.R_reads' HO_7.out).2.1); rintro e w' ⟨rfl, ⟨nd, rfl⟩⟩; refine ⟨_, rfl, ?_⟩))
                go_ret
                exact ⟨by first | rfl | (simp [errW_none, errW_some] <;> rfl) | (simp [*, errW_none, errW_some] <;> rfl), by repeat (first | (with_reducible first | exact HB.out | apply below_alloc | apply pw_below_drewN | apply below_drew1 | refine below_set ?_ GE314.out | refine below_set ?_ GE328.out) | exact HB.out)⟩
          ·rw [if_neg c58] at H
           have c58b0 : (t344 == t342) = false := beq_eq_false_iff_ne.mpr c58
           have c58b1 : (t344 != t342) = true := bne_iff_ne.mpr c58
           obtain rfl := Option.some.inj H
           obtain ⟨Ao79, co79, eo79⟩ := Kd.R_slice HO_7.out
           subst eo79
           go_wp2_with (first | ((with_reducible refine gate_callee (f := 26) rfl ?_); refine goesL_ (some 64) rfl rfl Try.func26 (by kernel_rfl) rfl #[.slice Ao79 t329.length co79, .int .i64 1] rfl (by (try simp only [List.map_toArray, List.map_cons, List.map_nil]); first | done | rfl | (simp only [List.length_drop, List.length_take]; rfl)) ?_; (with_reducible refine (laws_markInt64S.calls kj36 (fun k_ => some k_ = (.slice Ao79 t329.length co79 : Value).ownBlock) (.slice Ao79 t329.length co79) t329 1 t342 t343 w _ ?side1 ?side2 A53.out).mono ?_); (case side1 => repeat (first | (with_reducible first | exact HB.out | apply below_alloc | apply pw_below_drewN | apply below_drew1 | refine below_set ?_ GE314.out | refine below_set ?_ GE328.out) | exact HB.out)); (case side2 => exact Kd.R_tight rfl HO_7.out); rintro e w80 ⟨rfl, hy0, hb, hkp⟩; refine ⟨_, rfl, ?_⟩; have n0_ := Aside0.mk (Kd.R_mono (ok' := fun k_ => some k_ ≠ (.slice Ao79 t329.length co79 : Value).ownBlock) (Kd.R_keptB (HO_4.out) hkp (fun k_ hk_ hs_ => (hk_) hs_)) (fun k_ hk_ => hk_.1)); have n1_ := Aside0.mk (Kd.R_reok rfl hy0 (fun k_ e_ => HO_7.out.1 k_ e_)); have n2_ := Aside0.mk (Kd.S_mono (ok' := fun k_ => some k_ ≠ (v321 : Value).ownBlock ∧ some k_ ≠ (.slice Ao79 t329.length co79 : Value).ownBlock) (Kd.S_keptB (HO_329001.out) hkp (fun k_ hk_ hs_ => (hk_.2) hs_)) (fun k_ hk_ => ⟨hk_.1.1, hk_.1.2⟩)); have n3_ := Aside0.mk (blk_kept (by (with_reducible repeat (first | refine blk_drewN ?_ _ | refine blk_drew ?_ | refine blk_alloc ?_ _)); exact BK314.out) hkp (fun hs_ => (fun e_ => (Kd.R_ne HO_7.out BK314.out (by decide)) e_) hs_)); have n4_ := Aside0.mk (blk_kept (by (with_reducible repeat (first | refine blk_drewN ?_ _ | refine blk_drew ?_ | refine blk_alloc ?_ _)); exact BK328.out) hkp (fun hs_ => (fun e_ => (Kd.R_ne HO_7.out BK328.out (by decide)) e_) hs_)); have n5_ := Aside0.mk (hb); clear HO_4; clear HO_7; clear HO_329001; clear BK314; clear BK328; clear HB; have HO_4 := n0_; have HO_7 := n1_; have HO_329001 := n2_; have BK314 := n3_; have BK328 := n4_; have HB := n5_; clear n0_ n1_ n2_ n3_ n4_ n5_; (try clear hb); (try clear hkp); (try clear hy0)) | ((with_reducible refine gate_callee (f := 27) rfl ?_); refine goesL_ (some 67) rfl rfl Try.func27 (by kernel_rfl) rfl #[.slice Ao79 t343.length co79, .int .i64 1] rfl (by (try simp only [List.map_toArray, List.map_cons, List.map_nil]); first | done | (rw [show t343.length = t329.length from (Kd.R_reads' HO_7.out).1.symm] <;> rfl) | rfl | (simp only [List.length_drop, List.length_take]; rfl)) ?_; (with_reducible refine (laws_heldInt64S.calls kj36 _ _ t343 1 t344 _ ?side1 ?side2 A54.out).mono ?_); (case side1 => repeat (first | exact (Kd.R_reads' HO_7.out).2.2 | (with_reducible refine Kd.C_alloc ?_ _) | (with_reducible refine Kd.C_drewN ?_ _) | (with_reducible refine Kd.C_drew ?_))); (case side2 => rw [show t343.length = t329.length from (Kd.R_reads' HO_7.out).1.symm]; exact (Kd.R_reads' HO_7.out).2.1); rintro e w' ⟨rfl, ⟨nd, rfl⟩⟩; refine ⟨_, rfl, ?_⟩))
           go_ret
           exact ⟨by first | rfl | (simp [errW_none, errW_some] <;> rfl) | (simp [*, errW_none, errW_some] <;> rfl), by repeat (first | (with_reducible first | exact HB.out | apply below_alloc | apply pw_below_drewN | apply below_drew1 | refine below_set ?_ GE314.out | refine below_set ?_ GE328.out) | exact HB.out)⟩
     ·replace c35 := Bool.eq_false_iff.mpr c35
      subst c35
      have H1 : (some false) = some r := by rw [if_neg (show ¬ (false = true) by decide)] at H; exact H
      clear H
      have H := H1
      clear H1
      obtain rfl := Option.some.inj H
      try go_wp2
      have n0_ := Aside0.mk (Kd.R_drew HO_4.out)
      have n1_ := Aside0.mk (Kd.R_drew HO_7.out)
      have n2_ := Aside0.mk (Kd.S_drew HO_329001.out)
      have n3_ := Aside0.mk (blk_drew BK314.out)
      have n4_ := Aside0.mk (blk_drew BK328.out)
      have n5_ := Aside0.mk (below_drew1 HB.out)
      clear HO_4
      clear HO_7
      clear HO_329001
      clear BK314
      clear BK328
      clear HB
      have HO_4 := n0_
      have HO_7 := n1_
      have HO_329001 := n2_
      have BK314 := n3_
      have BK328 := n4_
      have HB := n5_
      clear n0_ n1_ n2_ n3_ n4_ n5_
      refine start_ (n := 5) (S := fun w' => w'.cell? ⟨gb328, 0, none⟩ = some (.int .i64 t324) ∧ w'.cell? ⟨gb328, 1, none⟩ = some (.slice Ao24 t325.length co24) ∧ w'.cell? ⟨gb314, 0, none⟩ = some (.int .i64 a0_0) ∧ w'.cell? ⟨gb314, 1, none⟩ = some (.slice A0_1 l0_1.length c0_1)) (ds := []) #[false, false, false, false, false] (by kernel_rfl) rfl rfl ⟨(blk_cell BK328.out 0).trans rfl, (blk_cell BK328.out 1).trans rfl, (blk_cell BK314.out 0).trans rfl, (blk_cell BK314.out 1).trans rfl⟩ (fun hHeld => ?_)
      generalize wc.drew = w81 at HO_4 HO_7 HO_329001 BK314 BK328 HB hHeld ⊢
      refine take_ (i := 0) (N := some 41) (v := ?_) (a' := ?_) #[true, false, false, false, false] rfl rfl (by kernel_rfl) (fun _ _ _ h => h) (Or.inl ⟨by rfl, ?_⟩) hHeld ?_ ?_
      rotate_left
      ·rintro w' ⟨s0, s1, s2, s3⟩
       go_simp
       with_reducible rfl
      rotate_left
      ·simp only [Act.put, List.setIfInBounds_toArray, List.set_cons_zero, List.set_cons_succ, i64_w, i32_w]
       rfl
      refine take_ (i := 1) (N := some 42) (v := ?_) (a' := ?_) #[true, true, false, false, false] rfl rfl (by kernel_rfl) (fun _ _ _ h => h) (Or.inl ⟨by rfl, ?_⟩) hHeld ?_ ?_
      rotate_left
      ·rintro w' ⟨s0, s1, s2, s3⟩
       go_simp
       with_reducible rfl
      rotate_left
      ·simp only [Act.put, List.setIfInBounds_toArray, List.set_cons_zero, List.set_cons_succ, i64_w, i32_w]
       rfl
      refine one_ (i := 2) (N := some 43) #[true, true, true, false, false] rfl rfl (by kernel_rfl) (by decide) (fun K hK => ?_)
      refine goes_ Try.func18 (by kernel_rfl) rfl #[.agg #[.int .i64 a0_0, .slice A0_1 l0_1.length c0_1]] (by rfl) rfl rfl (by (try simp only [List.map_toArray, List.map_cons, List.map_nil]); first | done | rfl | (simp only [List.length_drop, List.length_take]; rfl)) ?_
      with_reducible refine (laws_toNet.calls kj10 a0_0 _ _ l0_1 t334 t335 _ ?side1 ?side2 A33.out).mono ?_
      (case side1 => repeat (first | exact (Kd.C_below HR0_1.out HB.out) | (with_reducible refine Kd.C_alloc ?_ _) | (with_reducible refine Kd.C_drewN ?_ _) | (with_reducible refine Kd.C_drew ?_)))
      (case side2 => exact HC0_1.out)
      rintro e w82 ⟨v336, rfl, ho0, hb⟩
      refine ⟨_, rfl, ?_⟩
      have n0_ := Aside0.mk (Kd.R_below (by (with_reducible repeat (first | apply Kd.R_alloc | apply Kd.R_drewN | apply Kd.R_drew)); exact HO_4.out) hb)
      have n1_ := Aside0.mk (Kd.R_below (by (with_reducible repeat (first | apply Kd.R_alloc | apply Kd.R_drewN | apply Kd.R_drew)); exact HO_7.out) hb)
      have n2_ := Aside0.mk (Kd.S_elder' (by (with_reducible repeat (first | apply Kd.S_alloc | apply Kd.S_drewN | apply Kd.S_drew)); exact HO_329001.out) (Kd.S_base ho0) hb)
      have n3_ := Aside0.mk (Kd.S_lower (Kd.S_new' (Kd.S_new' (Kd.S_new' ho0 (Kd.R_lt (by (with_reducible repeat (first | apply Kd.R_alloc | apply Kd.R_drewN | apply Kd.R_drew)); exact HO_4.out))) (Kd.R_lt (by (with_reducible repeat (first | apply Kd.R_alloc | apply Kd.R_drewN | apply Kd.R_drew)); exact HO_7.out))) (Kd.S_lt (by (with_reducible repeat (first | apply Kd.S_alloc | apply Kd.S_drewN | apply Kd.S_drew)); exact HO_329001.out))) (below_size (by repeat (first | (with_reducible first | exact HB.out | apply below_alloc | apply pw_below_drewN | apply below_drew1 | refine below_set ?_ GE314.out | refine below_set ?_ GE328.out) | exact HB.out))))
      have n4_ := Aside0.mk (blk_below (g := gb314) (o := .cells #[.int .i64 a0_0, .slice A0_1 l0_1.length c0_1] 30 (0, 0)) (by (with_reducible repeat (first | refine blk_drewN ?_ _ | refine blk_drew ?_ | refine blk_alloc ?_ _)); exact BK314.out) hb)
      have n5_ := Aside0.mk (blk_below (g := gb328) (o := .cells #[.int .i64 t324, .slice Ao24 t325.length co24] 33 (0, 0)) (by (with_reducible repeat (first | refine blk_drewN ?_ _ | refine blk_drew ?_ | refine blk_alloc ?_ _)); exact BK328.out) hb)
      have n6_ := Aside0.mk (below_step (by repeat (first | (with_reducible first | exact HB.out | apply below_alloc | apply pw_below_drewN | apply below_drew1 | refine below_set ?_ GE314.out | refine below_set ?_ GE328.out) | exact HB.out)) hb)
      clear HO_4
      clear HO_7
      clear HO_329001
      clear BK314
      clear BK328
      clear HB
      have HO_4 := n0_
      have HO_7 := n1_
      have HO_329001 := n2_
      have HO337 := n3_
      have BK314 := n4_
      have BK328 := n5_
      have HB := n6_
      clear n0_ n1_ n2_ n3_ n4_ n5_ n6_
      (try clear hb)
      (try clear hb2)
      (try clear hk)
      (try clear hi)
      (try clear ho0)
      obtain ⟨Ao83, co83, eo83⟩ := Kd.S_slice HO337.out
      (first | subst eo83 | (injection eo83 with f1_ f2_ f3_; have f4_ := f1_.symm; have f5_ := f3_.symm; clear f1_ f2_ f3_; subst f4_; subst f5_))
      refine hK.out _ _ ⟨(blk_cell BK328.out 0).trans rfl, (blk_cell BK328.out 1).trans rfl, (blk_cell BK314.out 0).trans rfl, (blk_cell BK314.out 1).trans rfl⟩ (fun hHeld => ?_)
      clear hK K
      refine norm_ (a' := ?_) ?_ ?_
      rotate_left
      ·show Act.put _ (some 43) _ = _
       simp only [Act.put, List.setIfInBounds_toArray, List.set_cons_zero, List.set_cons_succ, i64_w, i32_w]
       rfl
      refine one_ (i := 3) (N := some 44) #[true, true, true, true, false] rfl rfl (by kernel_rfl) (by decide) (fun K hK => ?_)
      refine goes_ Try.func20 (by kernel_rfl) rfl #[.agg #[.int .i64 t324, .slice Ao24 t325.length co24], .agg #[.int .i64 t334, .slice Ao83 t335.length co83]] (by rfl) rfl rfl (by (try simp only [List.map_toArray, List.map_cons, List.map_nil]); first | done | rfl | (simp only [List.length_drop, List.length_take]; rfl)) ?_
      with_reducible refine (laws_eqNet.calls kj10 t324 _ _ t325 t334 _ _ t335 false _ ?side1 ?side2 ?side3 ?side4 A34.out).mono ?_
      (case side1 => repeat (first | exact (Kd.S_reads' HO_329001.out).2.2 | (with_reducible refine Kd.C_alloc ?_ _) | (with_reducible refine Kd.C_drewN ?_ _) | (with_reducible refine Kd.C_drew ?_)))
      (case side2 => exact (Kd.S_reads' HO_329001.out).2.1)
      (case side3 => repeat (first | exact (Kd.S_reads' HO337.out).2.2 | (with_reducible refine Kd.C_alloc ?_ _) | (with_reducible refine Kd.C_drewN ?_ _) | (with_reducible refine Kd.C_drew ?_)))
      (case side4 => exact (Kd.S_reads' HO337.out).2.1)
      rintro e w84 ⟨rfl, hb⟩
      refine ⟨_, rfl, ?_⟩
      have n0_ := Aside0.mk (Kd.R_below (by (with_reducible repeat (first | apply Kd.R_alloc | apply Kd.R_drewN | apply Kd.R_drew)); exact HO_4.out) hb)
      have n1_ := Aside0.mk (Kd.R_below (by (with_reducible repeat (first | apply Kd.R_alloc | apply Kd.R_drewN | apply Kd.R_drew)); exact HO_7.out) hb)
      have n2_ := Aside0.mk (Kd.S_below (by (with_reducible repeat (first | apply Kd.S_alloc | apply Kd.S_drewN | apply Kd.S_drew)); exact HO_329001.out) hb)
      have n3_ := Aside0.mk (Kd.S_below (by (with_reducible repeat (first | apply Kd.S_alloc | apply Kd.S_drewN | apply Kd.S_drew)); exact HO337.out) hb)
      have n4_ := Aside0.mk (blk_below (g := gb314) (o := .cells #[.int .i64 a0_0, .slice A0_1 l0_1.length c0_1] 30 (0, 0)) (by (with_reducible repeat (first | refine blk_drewN ?_ _ | refine blk_drew ?_ | refine blk_alloc ?_ _)); exact BK314.out) hb)
      have n5_ := Aside0.mk (blk_below (g := gb328) (o := .cells #[.int .i64 t324, .slice Ao24 t325.length co24] 33 (0, 0)) (by (with_reducible repeat (first | refine blk_drewN ?_ _ | refine blk_drew ?_ | refine blk_alloc ?_ _)); exact BK328.out) hb)
      have n6_ := Aside0.mk (below_step (by repeat (first | (with_reducible first | exact HB.out | apply below_alloc | apply pw_below_drewN | apply below_drew1 | refine below_set ?_ GE314.out | refine below_set ?_ GE328.out) | exact HB.out)) hb)
      clear HO_4
      clear HO_7
      clear HO_329001
      clear HO337
      clear BK314
      clear BK328
      clear HB
      have HO_4 := n0_
      have HO_7 := n1_
      have HO_329001 := n2_
      have HO337 := n3_
      have BK314 := n4_
      have BK328 := n5_
      have HB := n6_
      clear n0_ n1_ n2_ n3_ n4_ n5_ n6_
      (try clear hb)
      (try clear hb2)
      (try clear hk)
      (try clear hi)
      refine hK.out _ _ ⟨(blk_cell BK328.out 0).trans rfl, (blk_cell BK328.out 1).trans rfl, (blk_cell BK314.out 0).trans rfl, (blk_cell BK314.out 1).trans rfl⟩ (fun hHeld => ?_)
      clear hK K
      refine norm_ (a' := ?_) ?_ ?_
      rotate_left
      ·show Act.put _ (some 44) _ = _
       simp only [Act.put, List.setIfInBounds_toArray, List.set_cons_zero, List.set_cons_succ, i64_w, i32_w]
       rfl
      refine pure_ (i := 4) (N := some 45) (v := ?_) (a' := ?_) #[true, true, true, true, true] rfl rfl (by kernel_rfl) (fun _ _ _ h => h) (Or.inl ⟨by rfl, ?_⟩) ?_ ?_
      rotate_left
      ·intro w'
       go_simp
       with_reducible rfl
      rotate_left
      ·simp only [Act.put, List.setIfInBounds_toArray, List.set_cons_zero, List.set_cons_succ, i64_w, i32_w]
       rfl
      refine done_ (by kernel_rfl) ?_
      try go_wp2
      go_ret
      exact ⟨by first | rfl | (simp [errW_none, errW_some] <;> rfl) | (simp [*, errW_none, errW_some] <;> rfl), by repeat (first | (with_reducible first | exact HB.out | apply below_alloc | apply pw_below_drewN | apply below_drew1 | refine below_set ?_ GE314.out | refine below_set ?_ GE328.out) | exact HB.out)⟩
-- The program's 'reached' computes the least closed set.
theorem and_own (m a b : Nat) : m &&& (2 ^ a ||| 2 ^ b) = 0 ↔ (m.testBit a = false ∧ m.testBit b = false) := by
  constructor
  · intro h
    have h1 : (m &&& (2 ^ a ||| 2 ^ b)).testBit a = false := by rw [h]; simp
    have h2 : (m &&& (2 ^ a ||| 2 ^ b)).testBit b = false := by rw [h]; simp
    rw [Nat.testBit_and, Nat.testBit_or, Nat.testBit_two_pow, Nat.testBit_two_pow] at h1 h2
    constructor
    · simpa using h1
    · simpa using h2
  · rintro ⟨h1, h2⟩
    apply Nat.eq_of_testBit_eq
    intro x
    rw [Nat.testBit_and, Nat.testBit_or, Nat.testBit_two_pow, Nat.testBit_two_pow, Nat.zero_testBit]
    by_cases ha : a = x
    · subst ha; simp [h1]
    · by_cases hb : b = x
      · subst hb; simp [h2]
      · simp [ha, hb]
theorem stepI (acc : Int → Bool) (l : List (List Int)) (m m' a b i k : Nat) (hm' : m' < 256) (ha : a < 8) (hb : b < 8) (hlt : i < l.length) (he : rd_L1 l i = [(a : Int), (b : Int)]) :
    impl_Net_reached.l1 (k + 1) acc l m m' i = if acc (i : Int) = true then (if m'.testBit a = false ∧ m'.testBit b = false then impl_Net_reached.l1 k acc l m m' (i + 1) else impl_Net_reached.l1 k acc l m (((m' ||| 2 ^ a) ||| 2 ^ b : Nat) : Int) (i + 1)) else impl_Net_reached.l1 k acc l m m' (i + 1) := by
  have hao := and_own m' a b
  have t1 := two_lt ha
  have t2 := two_lt hb
  have t3 := or_lt t1 t2
  have r0 : rd [(a : Int), (b : Int)] 0 = (a : Int) := rfl
  have r1 : rd [(a : Int), (b : Int)] 1 = (b : Int) := rfl
  have s1 := shl_nat a (by omega)
  have s2 := shl_nat b (by omega)
  have asc := Nat.or_assoc m' (2 ^ a) (2 ^ b)
  generalize (2 ^ a : Nat) = pa at *
  generalize (2 ^ b : Nat) = pb at *
  have o1 := bits_or_nat pa pb (by omega) (by omega)
  have o2 := bits_or_nat m' (pa ||| pb) (by omega) (by omega)
  have o3 := bits_and_nat m' (pa ||| pb) (by omega) (by omega)
  rw [asc]
  simp only [impl_Net_reached.l1]
  unfold netOwn
  rw [if_pos hlt, he, r0, r1, s1, s2, o1, o2, o3]
  have e : (((m' &&& (pa ||| pb) : Nat) : Int) = 0) = (m'.testBit a = false ∧ m'.testBit b = false) := by
    rw [← hao]; exact propext (by omega)
  simp only [e]
theorem reachI_out (acc : Int → Bool) (l : List (List Int)) (hl : NetEdges l) (f : Nat) : ∀ (n m : Nat), 256 - m ≤ n → m.testBit f = true → Under (fun i => acc (i : Int)) l f m → m < 256 →
    ∃ c : Nat, Ev (fun k => impl_Net_reached.l1 k acc l m m 0) (c : Int) ∧ LeastSet (fun i => acc (i : Int)) l f c := by
  intro n
  induction n with
  | zero => intro m h _ _ h2; omega
  | succ n ih =>
    intro m hn hf hu hm
    have pass : ∀ (d i : Nat), i + d = l.length → ∀ (m' : Nat), m'.testBit f = true → Under (fun i => acc (i : Int)) l f m' → m' < 256 → m ≤ m' → (m' = m → ∀ j : Nat, j < i → acc (j : Int) = true → m.testBit (ea l j) = m.testBit (eb l j)) →
        ∃ c : Nat, Ev (fun k => impl_Net_reached.l1 k acc l m m' i) (c : Int) ∧ LeastSet (fun i => acc (i : Int)) l f c := by
      intro d
      induction d with
      | zero =>
        intro i hi m' hf' hu' hm' hle h0
        have st : ∀ k, impl_Net_reached.l1 (k + 1) acc l m m' i = impl_Net_reached.l0 k acc l m m' := fun k => by
          simp only [impl_Net_reached.l1]; rw [if_neg (by omega)]
        by_cases e : m' = m
        · have hc := h0 e
          subst e
          refine ⟨m', Ev.step st (Ev.step (f := fun _ => some _) (fun k => ?_) (Ev.now _)), hm', hf', fun j hj ha => hc j (by omega) ha, hu'⟩
          simp only [impl_Net_reached.l0]; rw [if_pos trivial]
        · obtain ⟨c, hc, hL⟩ := ih m' (by omega) hf' hu' hm'
          refine ⟨c, Ev.step st (Ev.step (fun k => ?_) hc), hL⟩
          simp only [impl_Net_reached.l0]; rw [if_neg (by omega)]
      | succ d ihd =>
        intro i hi m' hf' hu' hm' hle h0
        have hlt : i < l.length := by omega
        obtain ⟨he, ha, hb⟩ := edge_at hl hlt
        have step := fun k => stepI acc l m m' (ea l i) (eb l i) i k hm' ha hb hlt he
        by_cases hA : acc (i : Int) = true
        · by_cases hq : m'.testBit (ea l i) = false ∧ m'.testBit (eb l i) = false
          · obtain ⟨c, hc, hL⟩ := ihd (i + 1) (by omega) m' hf' hu' hm' hle (fun hm0 j hj hsj => by
              by_cases hji : j < i
              · exact h0 hm0 j hji hsj
              · obtain rfl : j = i := by omega
                rw [← hm0, hq.1, hq.2])
            exact ⟨c, Ev.step (fun k => by rw [step k, if_pos hA, if_pos hq]) hc, hL⟩
          · have hor : m'.testBit (ea l i) = true ∨ m'.testBit (eb l i) = true := by
              cases h3 : m'.testBit (ea l i) <;> cases h4 : m'.testBit (eb l i) <;> simp_all
            have hge := or2_le m' (ea l i) (eb l i)
            obtain ⟨c, hc, hL⟩ := ihd (i + 1) (by omega) ((m' ||| 2 ^ ea l i) ||| 2 ^ eb l i) (bit_mono_or m' (ea l i) (eb l i) f hf') (under_or hu' hlt hA hor) (or_lt (or_lt hm' (two_lt ha)) (two_lt hb)) (by omega) (fun hm0 j hj hsj => by
              have e : m' = m := by omega
              by_cases hji : j < i
              · exact h0 e j hji hsj
              · obtain rfl : j = i := by omega
                have h1 := bit_or2 m' (ea l j) (eb l j) (ea l j)
                have h2 := bit_or2 m' (ea l j) (eb l j) (eb l j)
                rw [hm0] at h1 h2
                rw [h1, h2]; simp)
            exact ⟨c, Ev.step (fun k => by rw [step k, if_pos hA, if_neg hq]) hc, hL⟩
        · obtain ⟨c, hc, hL⟩ := ihd (i + 1) (by omega) m' hf' hu' hm' hle (fun hm0 j hj hsj => by
              by_cases hji : j < i
              · exact h0 hm0 j hji hsj
              · obtain rfl : j = i := by omega
                exact absurd hsj hA)
          exact ⟨c, Ev.step (fun k => by rw [step k, if_neg hA]) hc, hL⟩
    obtain ⟨c, hc, hL⟩ := pass l.length 0 (by omega) m hf hu hm (Nat.le_refl _) (fun _ j hj => by omega)
    exact ⟨c, hc, hL⟩
theorem under_one (A : Nat → Bool) (l : List (List Int)) (f : Nat) : Under A l f (2 ^ f) := by
  intro M hM _ x hx
  rw [Nat.testBit_two_pow] at hx
  simp only [decide_eq_true_eq] at hx
  rw [← hx]; exact hM
theorem reachI_ev (acc : Int → Bool) (l : List (List Int)) (hl : NetEdges l) (f : Nat) (hf : f < 8) :
    ∃ c : Nat, Ev (fun k => impl_Net_reached.l0 k acc l 0 (shl .i64 1 (f : Int))) (c : Int) ∧ LeastSet (fun i => acc (i : Int)) l f c := by
  rw [shl_nat f (by omega)]
  have h2 := two_lt hf
  have hp : 0 < 2 ^ f := Nat.two_pow_pos f
  obtain ⟨c, hc, hL⟩ := reachI_out acc l hl f 256 (2 ^ f) (by omega) (by simp) (under_one _ l f) h2
  refine ⟨c, Ev.step (fun k => ?_) hc, hL⟩
  generalize (2 ^ f : Nat) = pf at *
  simp only [impl_Net_reached.l0]; rw [if_neg (by omega)]
theorem reachS_ev (p : Int) (l : List (List Int)) (hl : NetEdges l) (s f : Nat) (hs : s < 4611686018427387904) (hf : f < 8) :
    ∃ c : Nat, Ev (fun k => spec_l10Reached.f k p l s f) (c : Int) ∧ LeastSet (fun i => s.testBit i) l f c := by
  have h2 := two_lt hf
  obtain ⟨c, hc, hL⟩ := reachS_out p l hl s f hs 256 (2 ^ f) (Nat.sub_le _ _) (by simp) (under_one _ l f) h2
  refine ⟨c, Ev.congr (fun k => ?_) hc, hL⟩
  unfold spec_l10Reached.f
  rw [u64_nat f (by omega), if_pos (by omega), shl_nat f (by omega)]
-- areDouble and l10Double say the same.
/-- There is a part of the edges which joins a set's points, and so does what is left. -/
def Halves (l : List (List Int)) (s f p : Nat) : Prop := LeastSet (fun i => insideV l s i && p.testBit i) l f s ∧ LeastSet (fun i => insideV l s i && !p.testBit i) l f s
theorem nodeIn_nat (s i : Nat) (hs : s < 9223372036854775808) (h : i ≤ 64) : nodeIn (s : Int) (i : Int) = s.testBit i := by
  unfold nodeIn
  rw [bit_nat s i hs h]
  cases s.testBit i <;> simp
theorem inside_nat {l : List (List Int)} (hl : NetEdges l) (s i : Nat) (hs : s < 256) (hi : i < l.length) : insideV l (s : Int) (i : Int) = (s.testBit (ea l i) && s.testBit (eb l i)) := by
  obtain ⟨he, ha, hb⟩ := edge_at hl hi
  unfold insideV
  have r0 : rd [(ea l i : Int), (eb l i : Int)] 0 = (ea l i : Int) := rfl
  have r1 : rd [(ea l i : Int), (eb l i : Int)] 1 = (eb l i : Int) := rfl
  rw [he, r0, r1, nodeIn_nat _ _ (by omega) (by omega), nodeIn_nat _ _ (by omega) (by omega)]
theorem part_nat1 {l : List (List Int)} (s p i : Nat) (hp : p < 9223372036854775808) (hi : i ≤ 64) : partIn 1 l (s : Int) (p : Int) (i : Int) = (insideV l s i && p.testBit i) := by
  unfold partIn
  rw [bit_nat p i hp hi]
  cases p.testBit i <;> simp
theorem part_nat0 {l : List (List Int)} (s p i : Nat) (hp : p < 9223372036854775808) (hi : i ≤ 64) : partIn 0 l (s : Int) (p : Int) (i : Int) = (insideV l s i && !p.testBit i) := by
  unfold partIn
  rw [bit_nat p i hp hi]
  cases p.testBit i <;> simp
open Classical in
/-- The answer. -/
noncomputable def doubleV (l : List (List Int)) (s f : Nat) : Nat → Nat → Bool
  | _, 0 => false
  | p, d + 1 => decide (Halves l s f p) || doubleV l s f (p + 1) d
theorem two_pow_le {n : Nat} (h : n ≤ 10) : 2 ^ n ≤ 1024 := by
  have : 2 ^ n ≤ 2 ^ 10 := Nat.pow_le_pow_right (by omega) h
  omega
theorem implDouble_l0 (l : List (List Int)) (hl : NetEdges l) (s f : Nat) (hs : s < 256) (hf : f < 8) (N : Nat) (hN : N ≤ 1024) (hNN : shl .i64 1 (l.length : Int) = (N : Int)) : ∀ (d p : Nat), p + d = N → Ev (fun k => impl_Net_areDouble.l0 k l s f p) (doubleV l s f p d) := by
  classical
  intro d
  induction d with
  | zero =>
    intro p hp
    refine Ev.step (f := fun _ => some _) (fun k => ?_) (Ev.now _)
    simp only [impl_Net_areDouble.l0]
    rw [hNN, if_neg (by omega)]; rfl
  | succ d ih =>
    intro p hp
    have ih1 := ih (p + 1) (by omega)
    have wn : wrap64 ((p : Int) + 1) = ((p + 1 : Nat) : Int) := by unfold wrap64; omega
    have hlen := hl.1
    obtain ⟨c1, e1, L1⟩ := reachI_ev (partIn 1 l s p) l hl f hf
    obtain ⟨c2, e2, L2⟩ := reachI_ev (partIn 0 l s p) l hl f hf
    replace L1 := L1.congr (B := fun i => insideV l s i && p.testBit i) (fun i hi => part_nat1 s p i (by omega) (by omega))
    replace L2 := L2.congr (B := fun i => insideV l s i && !p.testBit i) (fun i hi => part_nat0 s p i (by omega) (by omega))
    have hd : doubleV l s f p (d + 1) = (decide (Halves l s f p) || doubleV l s f (p + 1) d) := rfl
    rw [hd]
    refine Ev.step (f := fun k => (impl_Net_reached.l0 k (partIn 1 l s p) l 0 (shl .i64 1 (f : Int))).bind fun one => if one = (s : Int) then ((impl_Net_reached.l0 k (partIn 0 l s p) l 0 (shl .i64 1 (f : Int))).bind fun two => if two = (s : Int) then some true else impl_Net_areDouble.l0 k l s f ((p + 1 : Nat) : Int)) else impl_Net_areDouble.l0 k l s f ((p + 1 : Nat) : Int)) (fun k => ?_) ?_
    · simp only [impl_Net_areDouble.l0]
      rw [hNN, if_pos (by omega), wn]
    · refine Ev.bind e1 ?_
      by_cases h1 : c1 = s
      · subst h1
        refine Ev.congr (fun k => by rw [if_pos rfl]) (Ev.bind e2 ?_)
        by_cases h2 : c2 = c1
        · subst h2
          rw [decide_eq_true (show Halves l c2 f p from ⟨L1, L2⟩)]
          exact Ev.congr (f := fun _ => some _) (fun k => by rw [if_pos rfl]; simp) (Ev.now _)
        · rw [decide_eq_false (fun h : Halves l c1 f p => h2 (L2.eq h.2))]
          exact Ev.congr (fun k => by rw [if_neg (by omega)]) (by simpa using ih1)
      · rw [decide_eq_false (fun h : Halves l s f p => h1 (L1.eq h.1))]
        exact Ev.congr (fun k => by rw [if_neg (by omega)]) (by simpa using ih1)
theorem doubleV_iff (l : List (List Int)) (s f : Nat) : ∀ (d p : Nat), doubleV l s f p d = true ↔ ∃ q, p ≤ q ∧ q < p + d ∧ Halves l s f q
  | 0, p => by simp [doubleV]; intro q h1 h2; omega
  | d + 1, p => by
    classical
    have ih := doubleV_iff l s f d (p + 1)
    have hd : doubleV l s f p (d + 1) = (@decide (Halves l s f p) (Classical.propDecidable _) || doubleV l s f (p + 1) d) := rfl
    rw [hd, Bool.or_eq_true, ih]
    constructor
    · rintro (h | ⟨q, h1, h2, h3⟩)
      · exact ⟨p, Nat.le_refl _, by omega, by simpa using h⟩
      · exact ⟨q, by omega, by omega, h3⟩
    · rintro ⟨q, h1, h2, h3⟩
      by_cases e : q = p
      · subst e; exact .inl (by simp [h3])
      · exact .inr ⟨q, by omega, by omega, h3⟩
-- The reference's l10Double.
theorem specDouble_l2 (p0 : Int) (l : List (List Int)) (hl : NetEdges l) (s f ins : Nat) (hs : s < 256) (hf : f < 8) (hi : ins < 1024) (N : Nat) (hN : N ≤ 1024) (hNN : shl .i64 1 (l.length : Int) = (N : Int)) : ∀ (d p : Nat), p + d = N →
    ∃ b, Ev (fun k => spec_l10Double.l2 k s f ins p p0 l) b ∧ (b = true ↔ ∃ q, p ≤ q ∧ q < p + d ∧ butNat q ins = 0 ∧ LeastSet (fun i => q.testBit i) l f s ∧ LeastSet (fun i => (butNat ins q).testBit i) l f s) := by
  intro d
  induction d with
  | zero =>
    intro p hp
    refine ⟨false, Ev.step (f := fun _ => some _) (fun k => ?_) (Ev.now _), by simp; omega⟩
    simp only [spec_l10Double.l2]
    have hlen := hl.1
    rw [u64_nat l.length (by omega), if_pos (by omega), hNN, if_neg (by omega)]
  | succ d ih =>
    intro p hp
    obtain ⟨b, hb, hbb⟩ := ih (p + 1) (by omega)
    have wn : wrap64 ((p : Int) + 1) = ((p + 1 : Nat) : Int) := by unfold wrap64; omega
    have hlen := hl.1
    have o1 := bits_but_nat p ins (by omega) (by omega)
    have o2 := bits_but_nat ins p (by omega) (by omega)
    have hle := butNat_lt ins p (by omega) (by omega)
    obtain ⟨c1, e1, L1⟩ := reachS_ev p0 l hl p f (by omega) hf
    obtain ⟨c2, e2, L2⟩ := reachS_ev p0 l hl (butNat ins p) f (by omega) hf
    have go : ∀ {v : Bool} {F : Nat → Option Bool}, Ev (fun k => if ((butNat p ins : Nat) : Int) = 0 then ((spec_l10Reached.f k p0 l p f).bind fun t230 => (if t230 = (s : Int) then ((spec_l10Reached.f k p0 l ((butNat ins p : Nat) : Int) f).bind fun t231 => (if t231 = (s : Int) then (some true) else (spec_l10Double.l2 k s f ins ((p + 1 : Nat) : Int) p0 l))) else (spec_l10Double.l2 k s f ins ((p + 1 : Nat) : Int) p0 l))) else (spec_l10Double.l2 k s f ins ((p + 1 : Nat) : Int) p0 l)) v → Ev (fun k => spec_l10Double.l2 k s f ins p p0 l) v := fun {v F} h => Ev.step (fun k => by
      simp only [spec_l10Double.l2]
      rw [u64_nat l.length (by omega), if_pos (by omega), hNN, if_pos (by omega), o1, o2, wn]) h
    have later : ∀ P : Prop, (b = true ↔ ∃ q, p + 1 ≤ q ∧ q < p + 1 + d ∧ butNat q ins = 0 ∧ LeastSet (fun i => q.testBit i) l f s ∧ LeastSet (fun i => (butNat ins q).testBit i) l f s) → ¬ (butNat p ins = 0 ∧ LeastSet (fun i => p.testBit i) l f s ∧ LeastSet (fun i => (butNat ins p).testBit i) l f s) → (b = true ↔ ∃ q, p ≤ q ∧ q < p + (d + 1) ∧ butNat q ins = 0 ∧ LeastSet (fun i => q.testBit i) l f s ∧ LeastSet (fun i => (butNat ins q).testBit i) l f s) := by
      intro _ h hn
      rw [h]
      constructor
      · rintro ⟨q, h1, h2, h3⟩; exact ⟨q, by omega, by omega, h3⟩
      · rintro ⟨q, h1, h2, h3⟩
        by_cases e : q = p
        · subst e; exact absurd h3 hn
        · exact ⟨q, by omega, by omega, h3⟩
    by_cases h0 : butNat p ins = 0
    · by_cases h1 : c1 = s
      · by_cases h2 : c2 = s
        · subst h1
          refine ⟨true, go (F := fun _ => none) (Ev.congr (fun k => by rw [if_pos (by omega)]) (Ev.bind e1 (Ev.congr (fun k => by rw [if_pos rfl]) (Ev.bind e2 (Ev.congr (f := fun _ => some true) (fun k => by rw [if_pos (by omega)]) (Ev.now _)))))), ?_⟩
          simp only [true_iff]
          exact ⟨p, Nat.le_refl _, by omega, h0, L1, by rw [h2] at L2; exact L2⟩
        · exact ⟨b, go (F := fun _ => none) (Ev.congr (fun k => by rw [if_pos (by omega)]) (Ev.bind e1 (Ev.congr (fun k => by rw [if_pos (by omega)]) (Ev.bind e2 (Ev.congr (fun k => by rw [if_neg (by omega)]) hb))))), later True hbb (fun h => h2 (L2.eq h.2.2))⟩
      · exact ⟨b, go (F := fun _ => none) (Ev.congr (fun k => by rw [if_pos (by omega)]) (Ev.bind e1 (Ev.congr (fun k => by rw [if_neg (by omega)]) hb))), later True hbb (fun h => h1 (L1.eq h.2.1))⟩
    · exact ⟨b, go (F := fun _ => none) (Ev.congr (fun k => by rw [if_neg (by omega)]) hb), later True hbb (fun h => h0 h.1)⟩
-- The reference's l10Double, from its start; and the two are one.
theorem specDouble_l1 (p0 : Int) (l : List (List Int)) (hl : NetEdges l) (s f : Nat) (hs : s < 256) (b : Bool) (ins : Nat) (hins : ins < 1024) (hbit : ∀ j, ins.testBit j = (decide (j < l.length) && insideV l s j)) (h2 : Ev (fun k => spec_l10Double.l2 k s f ins 0 p0 l) b) : ∀ (d i : Nat), i + d = l.length → ∀ m : Nat, m < 1024 → (∀ j, m.testBit j = (decide (j < i) && insideV l s j)) →
    Ev (fun k => spec_l10Double.l1 k s f m i p0 l) b := by
  intro d
  induction d with
  | zero =>
    intro i hi m hm hb
    have e : m = ins := by
      apply Nat.eq_of_testBit_eq
      intro x
      rw [hb, hbit, show i = l.length by omega]
    subst e
    refine Ev.step (fun k => ?_) h2
    simp only [spec_l10Double.l1]
    rw [if_neg (by omega)]
  | succ d ih =>
    intro i hi m hm hb
    have hlt : i < l.length := by omega
    have hlen := hl.1
    obtain ⟨he, ha, hbb⟩ := edge_at hl hlt
    have hin := inside_nat hl s i hs hlt
    have wn : wrap64 ((i : Int) + 1) = ((i + 1 : Nat) : Int) := by unfold wrap64; omega
    have r0 : rd [(ea l i : Int), (eb l i : Int)] 0 = (ea l i : Int) := rfl
    have r1 : rd [(ea l i : Int), (eb l i : Int)] 1 = (eb l i : Int) := rfl
    have b1 := bit_nat s (ea l i) (by omega) (by omega)
    have b2 := bit_nat s (eb l i) (by omega) (by omega)
    have s1 := shl_nat i (by omega)
    have hpi : 2 ^ i < 1024 := by
      have : 2 ^ i < 2 ^ 10 := Nat.pow_lt_pow_right (by omega) (by omega)
      omega
    have hor : m ||| 2 ^ i < 1024 := by
      have := Nat.or_lt_two_pow (n := 10) (x := m) (y := 2 ^ i) (by omega) (by omega)
      omega
    have o1 := bits_or_nat m (2 ^ i) (by omega) (by omega)
    have u0 := u64_nat (ea l i) (by omega)
    have u1 := u64_nat (eb l i) (by omega)
    have u2 := u64_nat i (by omega)
    have l0 : (0 : Int) < (([(ea l i : Int), (eb l i : Int)] : List Int).length : Int) := by simp
    have l1 : (1 : Int) < (([(ea l i : Int), (eb l i : Int)] : List Int).length : Int) := by simp
    have n0 : (0 : Int) ≤ (ea l i : Int) := by omega
    have n1 : (0 : Int) ≤ (eb l i : Int) := by omega
    have n2 : (0 : Int) ≤ (i : Int) := by omega
    have n3 : (i : Int) < (l.length : Int) := by omega
    have stay : insideV l s i = false → ∀ j, m.testBit j = (decide (j < i + 1) && insideV l s j) := fun h j => by
      rw [hb j]
      by_cases e : j = i
      · subst e; rw [h]; simp
      · rw [show decide (j < i + 1) = decide (j < i) by rw [decide_eq_decide]; omega]
    have st0 : ∀ k, spec_l10Double.l1 (k + 1) s f m i p0 l = if (if s.testBit (ea l i) = true then (1 : Int) else 0) = 1 then (if (if s.testBit (eb l i) = true then (1 : Int) else 0) = 1 then spec_l10Double.l1 k s f ((m ||| 2 ^ i : Nat) : Int) ((i + 1 : Nat) : Int) p0 l else spec_l10Double.l1 k s f m ((i + 1 : Nat) : Int) p0 l) else spec_l10Double.l1 k s f m ((i + 1 : Nat) : Int) p0 l := fun k => by
      generalize (2 ^ i : Nat) = pi at *
      simp only [spec_l10Double.l1]
      rw [if_pos n3, if_pos n2, he, if_pos l0, r0, u0, if_pos n0, b1, if_pos l1, r1, u1, if_pos n1, b2, u2, if_pos n2, s1, o1, wn]
    by_cases hA : s.testBit (ea l i) = true
    · by_cases hB : s.testBit (eb l i) = true
      · rw [hA, hB] at hin
        refine Ev.step (fun k => by rw [st0 k, if_pos (by rw [if_pos hA]), if_pos (by rw [if_pos hB])]) (ih (i + 1) (by omega) (m ||| 2 ^ i) hor (fun j => ?_))
        rw [Nat.testBit_or, hb j, Nat.testBit_two_pow]
        by_cases e : j = i
        · subst e; rw [hin]; simp
        · rw [show decide (j < i + 1) = decide (j < i) by rw [decide_eq_decide]; omega, show decide (i = j) = false by simp; omega, Bool.or_false]
      · refine Ev.step (fun k => by rw [st0 k, if_pos (by rw [if_pos hA]), if_neg (by rw [if_neg hB]; omega)]) (ih (i + 1) (by omega) m hm (stay (by rw [hin]; simp [hB])))
    · refine Ev.step (fun k => by rw [st0 k, if_neg (by rw [if_neg hA]; omega)]) (ih (i + 1) (by omega) m hm (stay (by rw [hin]; simp [hA])))
theorem specDouble_l0 (p0 : Int) (l : List (List Int)) (s f : Nat) (hs : s < 256) (hf : f < 8) (h1 : s.testBit f = true) (h0 : ∀ j, j < f → s.testBit j = false) (b : Bool) (h2 : Ev (fun k => spec_l10Double.l1 k s f 0 0 p0 l) b) : ∀ (d i : Nat), i + d = f → Ev (fun k => spec_l10Double.l0 k s i 0 p0 l) b := by
  intro d
  induction d with
  | zero =>
    intro i hi
    have e : i = f := by omega
    subst e
    have b1 := bit_nat s i (by omega) (by omega)
    rw [if_pos h1] at b1
    refine Ev.step (fun k => ?_) h2
    simp only [spec_l10Double.l0]
    rw [u64_nat i (by omega), if_pos (by omega), b1, if_neg (by omega)]
  | succ d ih =>
    intro i hi
    have b1 := bit_nat s i (by omega) (by omega)
    rw [if_neg (by rw [h0 i (by omega)]; simp)] at b1
    have wn : wrap64 ((i : Int) + 1) = ((i + 1 : Nat) : Int) := by unfold wrap64; omega
    refine Ev.step (fun k => ?_) (ih (i + 1) (by omega))
    simp only [spec_l10Double.l0]
    rw [u64_nat i (by omega), if_pos (by omega), b1, if_pos rfl, wn]
/-- The set of the inner edges, by bits. -/
def insBits (l : List (List Int)) (s : Nat) : Nat → Nat
  | 0 => 0
  | i + 1 => if insideV l s i = true then insBits l s i ||| 2 ^ i else insBits l s i
theorem insBits_bit (l : List (List Int)) (s : Nat) : ∀ i j, (insBits l s i).testBit j = (decide (j < i) && insideV l s j)
  | 0, j => by simp [insBits]
  | i + 1, j => by
    have ih := insBits_bit l s i j
    unfold insBits
    by_cases h : insideV l s i = true
    · rw [if_pos h, Nat.testBit_or, Nat.testBit_two_pow, ih]
      by_cases e : j = i
      · subst e; simp [h]
      · rw [show decide (j < i + 1) = decide (j < i) by rw [decide_eq_decide]; omega, show decide (i = j) = false by simp; omega, Bool.or_false]
    · rw [if_neg h, ih]
      by_cases e : j = i
      · subst e; simp [h]
      · rw [show decide (j < i + 1) = decide (j < i) by rw [decide_eq_decide]; omega]
theorem insBits_lt (l : List (List Int)) (s : Nat) : ∀ i, i ≤ 10 → insBits l s i < 1024
  | 0, _ => by simp [insBits]
  | i + 1, h => by
    have ih := insBits_lt l s i (by omega)
    unfold insBits
    by_cases h1 : insideV l s i = true
    · rw [if_pos h1]
      have hpi : 2 ^ i < 2 ^ 10 := Nat.pow_lt_pow_right (by omega) (by omega)
      have := Nat.or_lt_two_pow (n := 10) (x := insBits l s i) (y := 2 ^ i) (by omega) (by omega)
      omega
    · rw [if_neg h1]; exact ih
-- The two answers are one.
theorem halves_same {l : List (List Int)} (hl : NetEdges l) (s f : Nat) (N : Nat) (hN : N = 2 ^ l.length) :
    (∃ q, 0 ≤ q ∧ q < 0 + N ∧ Halves l s f q) ↔ (∃ q, 0 ≤ q ∧ q < 0 + N ∧ butNat q (insBits l s l.length) = 0 ∧ LeastSet (fun i => q.testBit i) l f s ∧ LeastSet (fun i => (butNat (insBits l s l.length) q).testBit i) l f s) := by
  have hlen := hl.1
  have hN2 : N ≤ 1024 := by rw [hN]; exact two_pow_le hlen
  have hi := insBits_lt l s l.length hlen
  have hb := insBits_bit l s l.length
  generalize insBits l s l.length = ins at *
  constructor
  · rintro ⟨q, _, hq, h1, h2⟩
    have hlt : q &&& ins < N := Nat.lt_of_le_of_lt Nat.and_le_left (by omega)
    refine ⟨q &&& ins, Nat.zero_le _, by omega, ?_, ?_, ?_⟩
    · apply Nat.eq_of_testBit_eq
      intro x
      rw [butNat_bit _ _ _ (by omega) (by omega), Nat.testBit_and, Nat.zero_testBit]
      cases q.testBit x <;> cases ins.testBit x <;> rfl
    · refine h1.congr (fun i hi => ?_)
      rw [Nat.testBit_and, hb i, decide_eq_true hi, Bool.true_and, Bool.and_comm]
    · refine h2.congr (fun i hi => ?_)
      rw [butNat_bit _ _ _ (by omega) (by omega), Nat.testBit_and, hb i, decide_eq_true hi, Bool.true_and]
      cases insideV l s i <;> cases q.testBit i <;> rfl
  · rintro ⟨q, _, hq, h0, h1, h2⟩
    have hz : ∀ x, (q.testBit x && !ins.testBit x) = false := fun x => by
      rw [← butNat_bit q ins x (by omega) (by omega), h0, Nat.zero_testBit]
    refine ⟨q, Nat.zero_le _, hq, ?_, ?_⟩
    · refine h1.congr (fun i hi => ?_)
      have := hz i
      rw [hb i, decide_eq_true hi, Bool.true_and] at this
      cases h3 : q.testBit i <;> cases h4 : insideV l s i <;> simp_all
    · refine h2.congr (fun i hi => ?_)
      rw [butNat_bit _ _ _ (by omega) (by omega), hb i, decide_eq_true hi, Bool.true_and]
/-- For every set of points that holds one, both say the same. -/
theorem double_ev (p0 : Int) (l : List (List Int)) (hl : NetEdges l) (s : Nat) (hs : s < 256) (h0 : s ≠ 0) : ∃ b, Ev (fun k => spec_l10Double.f k p0 l s) b ∧ Ev (fun k => impl_Net_areDouble.f k p0 l s) b := by
  have hlen := hl.1
  -- the least point
  have hex : ∃ f, f < 8 ∧ s.testBit f = true ∧ ∀ j, j < f → s.testBit j = false := by
    have : ∃ i, s.testBit i = true := Nat.exists_testBit_of_ne_zero h0
    obtain ⟨i, hi⟩ := this
    have key : ∀ n, (∃ j, j < n ∧ s.testBit j = true) → ∃ f, s.testBit f = true ∧ ∀ j, j < f → s.testBit j = false := by
      intro n
      induction n with
      | zero => rintro ⟨j, hj, _⟩; omega
      | succ n ih =>
        rintro ⟨j, hj, hj2⟩
        by_cases h : ∃ j, j < n ∧ s.testBit j = true
        · exact ih h
        · refine ⟨n, ?_, fun x hx => ?_⟩
          · by_cases e : j = n
            · subst e; exact hj2
            · exact absurd ⟨j, by omega, hj2⟩ h
          · cases hx2 : s.testBit x
            · rfl
            · exact absurd ⟨x, hx, hx2⟩ h
    obtain ⟨f, h1, h2⟩ := key (i + 1) ⟨i, by omega, hi⟩
    refine ⟨f, ?_, h1, h2⟩
    by_cases hf : f < 8
    · exact hf
    · have : s.testBit f = false := Nat.testBit_lt_two_pow (Nat.lt_of_lt_of_le hs (by have : 2 ^ 8 ≤ 2 ^ f := Nat.pow_le_pow_right (by omega) (by omega); omega))
      rw [this] at h1; simp at h1
  obtain ⟨f, hf, h1, h2⟩ := hex
  have hNN := shl_nat l.length (by omega)
  have hN := two_pow_le hlen
  obtain ⟨b, hb, hbb⟩ := specDouble_l2 p0 l hl s f (insBits l s l.length) hs hf (insBits_lt l s _ hlen) (2 ^ l.length) hN hNN (2 ^ l.length) 0 (by omega)
  have hd := doubleV_iff l s f (2 ^ l.length) 0
  have he : b = doubleV l s f 0 (2 ^ l.length) := by
    rw [Bool.eq_iff_iff, hbb, hd, halves_same hl s f _ rfl]
  refine ⟨b, ?_, ?_⟩
  · exact specDouble_l0 p0 l s f hs hf h1 h2 b (specDouble_l1 p0 l hl s f hs b _ (insBits_lt l s _ hlen) (insBits_bit l s _) hb l.length 0 (by omega) 0 (by omega) (fun j => by simp)) f 0 (by omega)
  · rw [he]
    have := implDouble_l0 l hl s f hs hf (2 ^ l.length) hN hNN (2 ^ l.length) 0 (by omega)
    have hok : l.all edgeOk = true := by
      rw [List.all_eq_true]
      intro e hem
      obtain ⟨a, b', rfl, _, _⟩ := hl.2 e hem
      have r0 : rd [(a : Int), (b' : Int)] 0 = (a : Int) := rfl
      have r1 : rd [(a : Int), (b' : Int)] 1 = (b' : Int) := rfl
      simp [edgeOk, r0, r1]
    have hc : ∀ k, k ≤ 16 → f < k → ∃ r, chosenTo (nodeIn s) k = (f : Int) :: r := by
      intro k
      induction k with
      | zero => intro _ h; omega
      | succ k ih =>
        intro hk hfk
        have hsx : chosenTo (nodeIn s) (k + 1) = if nodeIn s k then chosenTo (nodeIn s) k ++ [(k : Int)] else chosenTo (nodeIn s) k := rfl
        rw [hsx, nodeIn_nat s k (by omega) (by omega)]
        by_cases e : k = f
        · subst e
          have he0 : ∀ m, m ≤ k → chosenTo (nodeIn s) m = [] := by
            intro m
            induction m with
            | zero => intro _; rfl
            | succ m ihm =>
              intro hm
              have hsm : chosenTo (nodeIn s) (m + 1) = if nodeIn s m then chosenTo (nodeIn s) m ++ [(m : Int)] else chosenTo (nodeIn s) m := rfl
              rw [hsm, nodeIn_nat s m (by omega) (by omega), h2 m (by omega)]
              simpa using ihm (by omega)
          rw [if_pos h1, he0 k (Nat.le_refl _)]
          exact ⟨[], rfl⟩
        · obtain ⟨r, hr⟩ := ih (by omega) (by omega)
          by_cases hx : s.testBit k = true
          · rw [if_pos hx, hr]; exact ⟨r ++ [(k : Int)], rfl⟩
          · rw [if_neg hx]; exact ⟨r, hr⟩
    obtain ⟨r, hr⟩ := hc 16 (Nat.le_refl _) (by omega)
    refine Ev.congr (fun k => ?_) this
    unfold impl_Net_areDouble.f
    rw [if_pos hok, hr]; rfl
-- FirstDouble: the least list, in plain words.
theorem cmpL_anti : ∀ x y : List Int, (cmpL x y < 0 ↔ 0 < cmpL y x) ∧ (cmpL x y = 0 → x = y) := by
  intro x
  induction x with
  | nil => intro y; cases y <;> simp [cmpL]
  | cons a x ih =>
    intro y
    cases y with
    | nil => simp [cmpL]
    | cons b y =>
      simp only [cmpL]
      by_cases h1 : a < b
      · have : ¬ b < a := by omega
        simp [h1, this]
      · by_cases h2 : b < a
        · simp [h1, h2]
        · have e : a = b := by omega
          subst e
          rw [if_neg h1, if_neg h1, if_neg h1, if_neg h1]
          refine ⟨(ih y).1, fun h => by rw [(ih y).2 h]⟩
theorem cmpL_trans : ∀ x y z : List Int, cmpL x y < 0 → cmpL y z < 0 → cmpL x z < 0 := by
  intro x
  induction x with
  | nil =>
    intro y z h1 h2
    cases z with
    | nil => cases y <;> simp [cmpL] at h1 h2
    | cons c z => simp [cmpL]
  | cons a x ih =>
    intro y z h1 h2
    cases y with
    | nil => simp [cmpL] at h1
    | cons b y =>
      cases z with
      | nil => simp [cmpL] at h2
      | cons c z =>
        simp only [cmpL] at h1 h2 ⊢
        by_cases e1 : a < b
        · by_cases e2 : b < c
          · rw [if_pos (by omega)]; omega
          · by_cases e3 : c < b
            · rw [if_neg e2, if_pos e3] at h2; omega
            · rw [if_pos (by omega)]; omega
        · by_cases e3 : b < a
          · rw [if_neg e1, if_pos e3] at h1; omega
          · rw [if_neg e1, if_neg e3] at h1
            have e : a = b := by omega
            subst e
            by_cases e2 : a < c
            · rw [if_pos e2]; omega
            · by_cases e4 : c < a
              · rw [if_neg e2, if_pos e4] at h2; omega
              · rw [if_neg e2, if_neg e4] at h2 ⊢
                exact ih y z h1 h2
theorem cmpL_pre : ∀ p x y : List Int, cmpL (p ++ x) (p ++ y) = cmpL x y
  | [], _, _ => rfl
  | a :: p, x, y => by
    show (if a < a then -1 else if a < a then 1 else cmpL (p ++ x) (p ++ y)) = _
    rw [if_neg (by omega), if_neg (by omega)]
    exact cmpL_pre p x y
/-- The order of the answers. -/
def lessL (x y : List Int) : Prop := x.length < y.length ∨ x.length = y.length ∧ cmpL x y < 0
theorem lessL_trans {x y z : List Int} (h1 : lessL x y) (h2 : lessL y z) : lessL x z := by
  rcases h1 with h1 | ⟨h1, c1⟩ <;> rcases h2 with h2 | ⟨h2, c2⟩
  · exact .inl (by omega)
  · exact .inl (by omega)
  · exact .inl (by omega)
  · exact .inr ⟨by omega, cmpL_trans _ _ _ c1 c2⟩
theorem lessL_tri {x y : List Int} (h1 : ¬ lessL x y) (h2 : ¬ lessL y x) : x = y := by
  have e : x.length = y.length := by
    by_cases a : x.length < y.length
    · exact absurd (.inl a) h1
    · by_cases b : y.length < x.length
      · exact absurd (.inl b) h2
      · omega
  have c1 : ¬ cmpL x y < 0 := fun h => h1 (.inr ⟨e, h⟩)
  have c2 : ¬ cmpL y x < 0 := fun h => h2 (.inr ⟨e.symm, h⟩)
  have := (cmpL_anti y x).1
  exact (cmpL_anti x y).2 (by omega)
/-- Rising from a number on. -/
def Asc : Int → List Int → Prop
  | _, [] => True
  | lo, a :: r => lo ≤ a ∧ Asc (a + 1) r
theorem asc_le : ∀ (l : List Int) (lo : Int), Asc lo l → ∀ z ∈ l, lo ≤ z
  | [], _, _, _, h => by cases h
  | a :: r, lo, h, z, hz => by
    rcases List.mem_cons.1 hz with rfl | hz
    · exact h.1
    · have := asc_le r _ h.2 z hz
      have := h.1
      omega
theorem asc_ext : ∀ (x y : List Int) (lo : Int), Asc lo x → Asc lo y → (∀ z, z ∈ x ↔ z ∈ y) → x = y
  | [], [], _, _, _, _ => rfl
  | [], b :: y, _, _, _, h => by have := (h b).2 (by simp); cases this
  | a :: x, [], _, _, _, h => by have := (h a).1 (by simp); cases this
  | a :: x, b :: y, lo, hx, hy, h => by
    have e : a = b := by
      have h1 := (h a).1 (by simp)
      have h2 := (h b).2 (by simp)
      rcases List.mem_cons.1 h1 with h1 | h1
      · exact h1
      · rcases List.mem_cons.1 h2 with h2 | h2
        · exact h2.symm
        · have := asc_le y _ hy.2 a h1
          have := asc_le x _ hx.2 b h2
          omega
    subst e
    rw [asc_ext x y (a + 1) hx.2 hy.2 (fun z => ?_)]
    have hz := h z
    constructor
    · intro hm
      have := asc_le x _ hx.2 z hm
      rcases List.mem_cons.1 (hz.1 (List.mem_cons_of_mem _ hm)) with e | e
      · omega
      · exact e
    · intro hm
      have := asc_le y _ hy.2 z hm
      rcases List.mem_cons.1 (hz.2 (List.mem_cons_of_mem _ hm)) with e | e
      · omega
      · exact e
theorem asc_snoc : ∀ (l : List Int) (lo b : Int), Asc lo l → (∀ z ∈ l, z < b) → lo ≤ b → Asc lo (l ++ [b])
  | [], _, _, _, _, h => ⟨h, trivial⟩
  | a :: r, lo, b, h, hz, hb => ⟨h.1, asc_snoc r _ b h.2 (fun z hm => hz z (List.mem_cons_of_mem _ hm)) (by have := hz a (by simp); omega)⟩
theorem chosen_iff (p : Int → Bool) : ∀ (k : Nat) (x : Int), x ∈ chosenTo p k ↔ 0 ≤ x ∧ x < k ∧ p x = true
  | 0, x => by simp [chosenTo]; omega
  | k + 1, x => by
    have hs : chosenTo p (k + 1) = if p k then chosenTo p k ++ [(k : Int)] else chosenTo p k := rfl
    rw [hs]
    have ih := chosen_iff p k x
    by_cases hp : p (k : Int) = true
    · rw [if_pos hp, List.mem_append, ih]
      constructor
      · rintro (h | h)
        · exact ⟨h.1, by omega, h.2.2⟩
        · rw [List.mem_singleton] at h; subst h; exact ⟨by omega, by omega, hp⟩
      · rintro ⟨h1, h2, h3⟩
        by_cases e : x = k
        · exact .inr (by rw [e]; simp)
        · exact .inl ⟨h1, by omega, h3⟩
    · rw [if_neg hp, ih]
      constructor
      · rintro ⟨h1, h2, h3⟩; exact ⟨h1, by omega, h3⟩
      · rintro ⟨h1, h2, h3⟩
        by_cases e : x = k
        · rw [e] at h3; exact absurd h3 hp
        · exact ⟨h1, by omega, h3⟩
theorem chosen_asc (p : Int → Bool) : ∀ k : Nat, Asc 0 (chosenTo p k)
  | 0 => trivial
  | k + 1 => by
    have hs : chosenTo p (k + 1) = if p k then chosenTo p k ++ [(k : Int)] else chosenTo p k := rfl
    rw [hs]
    split
    · exact asc_snoc _ _ _ (chosen_asc p k) (fun z hz => ((chosen_iff p k z).1 hz).2.1) (by omega)
    · exact chosen_asc p k
theorem ptsSet_app : ∀ (x y : List Int) (m : Nat), ptsSet m (x ++ y) = ptsSet (ptsSet m x) y
  | [], _, _ => rfl
  | a :: x, y, m => ptsSet_app x y _
theorem pts_bit : ∀ (l : List Int) (m i : Nat), (∀ x ∈ l, 0 ≤ x) → ((ptsSet m l).testBit i = true ↔ m.testBit i = true ∨ (i : Int) ∈ l)
  | [], m, i, _ => by simp [ptsSet]
  | a :: l, m, i, h => by
    have ih := pts_bit l (m ||| 2 ^ a.toNat) i (fun x hx => h x (List.mem_cons_of_mem _ hx))
    have ha := h a (by simp)
    show (ptsSet (m ||| 2 ^ a.toNat) l).testBit i = true ↔ _
    rw [ih, Nat.testBit_or, Nat.testBit_two_pow, List.mem_cons, Bool.or_eq_true, decide_eq_true_eq]
    have : a.toNat = i ↔ (i : Int) = a := by omega
    rw [this, or_assoc]
/-- k numbers more, rising, from f on, below P. -/
def Ext (P : Nat) : Nat → Nat → List Int → Prop
  | 0, _, t => t = []
  | k + 1, f, t => ∃ (a : Nat) (r : List Int), t = (a : Int) :: r ∧ f ≤ a ∧ a < P ∧ Ext P k (a + 1) r
theorem ext_asc {P : Nat} : ∀ (k f : Nat) (t : List Int), Ext P k f t → Asc f t ∧ t.length = k ∧ ∀ z ∈ t, z < P
  | 0, _, t, h => by
    have h : t = [] := h
    subst h
    exact ⟨trivial, rfl, fun z hz => by cases hz⟩
  | k + 1, f, t, h => by
    obtain ⟨a, r, rfl, h1, h2, h3⟩ := h
    obtain ⟨i1, i2, i3⟩ := ext_asc k (a + 1) r h3
    have i1 : Asc ((a : Int) + 1) r := i1
    refine ⟨⟨by omega, i1⟩, by simp [i2], fun z hz => ?_⟩
    rcases List.mem_cons.1 hz with rfl | hz
    · omega
    · exact i3 z hz
theorem asc_extd {P : Nat} : ∀ (t : List Int) (f : Nat), Asc f t → (∀ z ∈ t, z < P) → Ext P t.length f t
  | [], _, _, _ => rfl
  | a :: r, f, h, hz => by
    have h0 := h.1
    have hP := hz a (by simp)
    refine ⟨a.toNat, r, by rw [Int.toNat_of_nonneg (by omega)], by omega, by omega, asc_extd r _ ?_ (fun z hm => hz z (List.mem_cons_of_mem _ hm))⟩
    have e : ((a.toNat + 1 : Nat) : Int) = a + 1 := by omega
    rw [e]
    exact h.2
def nodesN (u : Nat) : List Int := chosenTo (nodeIn (u : Int)) 16
theorem nodesN_iff (u : Nat) (hu : u < 256) (z : Int) : z ∈ nodesN u ↔ 0 ≤ z ∧ z < 16 ∧ u.testBit z.toNat = true := by
  unfold nodesN
  rw [chosen_iff]
  constructor
  · rintro ⟨h1, h2, h3⟩
    have e : z = ((z.toNat : Nat) : Int) := by omega
    rw [e, nodeIn_nat u z.toNat (by omega) (by omega)] at h3
    exact ⟨h1, h2, h3⟩
  · rintro ⟨h1, h2, h3⟩
    refine ⟨h1, h2, ?_⟩
    have e : z = ((z.toNat : Nat) : Int) := by omega
    rw [e, nodeIn_nat u z.toNat (by omega) (by omega)]
    exact h3
theorem high_bit (u P i : Nat) (hu : u < 2 ^ P) (h : P ≤ i) : u.testBit i = false :=
  Nat.testBit_lt_two_pow (Nat.lt_of_lt_of_le hu (Nat.pow_le_pow_right (by omega) h))
theorem three_iff (u : Nat) : u &&& 3 = 3 ↔ u.testBit 0 = true ∧ u.testBit 1 = true := by
  constructor
  · intro h
    have h0 : (u &&& 3).testBit 0 = true := by rw [h]; rfl
    have h1 : (u &&& 3).testBit 1 = true := by rw [h]; rfl
    rw [Nat.testBit_and, Bool.and_eq_true] at h0 h1
    exact ⟨h0.1, h1.1⟩
  · rintro ⟨h0, h1⟩
    apply Nat.eq_of_testBit_eq
    intro i
    rw [Nat.testBit_and]
    by_cases e0 : i = 0
    · subst e0; rw [h0]; rfl
    · by_cases e1 : i = 1
      · subst e1; rw [h1]; rfl
      · have : (3 : Nat).testBit i = false := high_bit 3 2 i (by omega) (by omega)
        rw [this, Bool.and_false]
/-- A list as the search builds it is the list of its own set. -/
theorem list_set {P k : Nat} (hP : 2 ≤ P) (hP8 : P ≤ 8) {t : List Int} (h : Ext P k 2 t) : ptsSet 0 (0 :: 1 :: t) < 2 ^ P ∧ ptsSet 0 (0 :: 1 :: t) &&& 3 = 3 ∧ nodesN (ptsSet 0 (0 :: 1 :: t)) = 0 :: 1 :: t := by
  obtain ⟨h1, h2, h3⟩ := ext_asc k 2 t h
  have h1 : Asc 2 t := h1
  have hge := asc_le t _ h1
  have hpos : ∀ x ∈ (0 :: 1 :: t : List Int), 0 ≤ x := by
    intro x hx
    rcases List.mem_cons.1 hx with rfl | hx
    · omega
    · rcases List.mem_cons.1 hx with rfl | hx
      · omega
      · have := hge x hx; omega
  have hlt : ∀ x ∈ (0 :: 1 :: t : List Int), x < P := by
    intro x hx
    rcases List.mem_cons.1 hx with rfl | hx
    · omega
    · rcases List.mem_cons.1 hx with rfl | hx
      · omega
      · exact h3 x hx
  have hb := fun i => pts_bit (0 :: 1 :: t) 0 i hpos
  generalize ptsSet 0 (0 :: 1 :: t) = u at hb ⊢
  have hb : ∀ i : Nat, u.testBit i = true ↔ (i : Int) ∈ (0 :: 1 :: t : List Int) := fun i => by
    rw [hb i]; simp
  have hu : u < 2 ^ P := Nat.lt_pow_two_of_testBit u (fun i hi => by
    cases e : u.testBit i
    · rfl
    · have := hlt _ ((hb i).1 e); omega)
  have h256 : u < 256 := by
    have : 2 ^ P ≤ 2 ^ 8 := Nat.pow_le_pow_right (by omega) hP8
    omega
  refine ⟨hu, (three_iff u).2 ⟨(hb 0).2 (by simp), (hb 1).2 (by simp)⟩, ?_⟩
  refine asc_ext _ _ 0 (chosen_asc _ _) ⟨by omega, ⟨by omega, h1⟩⟩ (fun z => ?_)
  rw [nodesN_iff u h256 z]
  constructor
  · rintro ⟨a, b, c⟩
    have := (hb z.toNat).1 c
    rwa [Int.toNat_of_nonneg a] at this
  · intro hz
    have p0 := hpos z hz
    have p1 := hlt z hz
    refine ⟨p0, by omega, (hb z.toNat).2 ?_⟩
    rwa [Int.toNat_of_nonneg p0]
/-- A set that holds the first two points, as a list. -/
theorem set_list {P : Nat} (hP8 : P ≤ 8) {u : Nat} (hu : u < 2 ^ P) (h3 : u &&& 3 = 3) : ∃ t, nodesN u = 0 :: 1 :: t ∧ Ext P t.length 2 t ∧ ptsSet 0 (nodesN u) = u := by
  have h256 : u < 256 := by
    have : 2 ^ P ≤ 2 ^ 8 := Nat.pow_le_pow_right (by omega) hP8
    omega
  have hm := nodesN_iff u h256
  have ha : Asc 0 (nodesN u) := chosen_asc _ _
  obtain ⟨t0, t1⟩ := (three_iff u).1 h3
  have hset : ptsSet 0 (nodesN u) = u := by
    apply Nat.eq_of_testBit_eq
    intro i
    rw [Bool.eq_iff_iff, pts_bit _ 0 i (fun x hx => ((hm x).1 hx).1), hm]
    constructor
    · rintro (h | h)
      · simp at h
      · have := h.2.2
        rwa [Int.toNat_natCast] at this
    · intro h
      refine .inr ⟨by omega, ?_, by rwa [Int.toNat_natCast]⟩
      by_cases e : i < 16
      · omega
      · rw [high_bit u P i hu (by omega)] at h; cases h
  have m0 : (0 : Int) ∈ nodesN u := (hm 0).2 ⟨by omega, by omega, t0⟩
  have m1 : (1 : Int) ∈ nodesN u := (hm 1).2 ⟨by omega, by omega, t1⟩
  have hltP : ∀ z ∈ nodesN u, z < P := by
    intro z hz
    obtain ⟨a, b, c⟩ := (hm z).1 hz
    by_cases e : z < P
    · exact e
    · rw [high_bit u P z.toNat hu (by omega)] at c; cases c
  generalize nodesN u = l at *
  match l, ha, m0, m1, hltP with
  | [], _, m0, _, _ => cases m0
  | [a], ha, m0, m1, _ =>
    have e0 := List.mem_singleton.1 m0
    have e1 := List.mem_singleton.1 m1
    omega
  | a :: b :: t, ha, m0, m1, hltP =>
    obtain ⟨a1, a2, a3⟩ := ha
    have hge := asc_le t _ a3
    have ea : a = 0 := by
      rcases List.mem_cons.1 m0 with e | m0
      · exact e.symm
      · rcases List.mem_cons.1 m0 with e | m0
        · omega
        · have := hge 0 m0; omega
    have eb : b = 1 := by
      rcases List.mem_cons.1 m1 with e | m1
      · omega
      · rcases List.mem_cons.1 m1 with e | m1
        · exact e.symm
        · have := hge 1 m1; omega
    subst ea eb
    exact ⟨t, rfl, asc_extd t 2 a3 (fun z hz => hltP z (List.mem_cons_of_mem _ (List.mem_cons_of_mem _ hz))), hset⟩
/-- The best list of the sets below a bound. -/
def BestTo (D : Nat → Bool) (s : Nat) (best : List Int) : Prop := (best = [] ∧ ∀ u, u < s → u &&& 3 = 3 → D u = false) ∨ ∃ u, u < s ∧ u &&& 3 = 3 ∧ D u = true ∧ best = nodesN u ∧ ∀ v, v < s → v &&& 3 = 3 → D v = true → ¬ lessL (nodesN v) best
/-- The reference's answers at k points more. -/
def FirstAt (D : Nat → Bool) (P k : Nat) (r : Option (List Int)) : Prop := match r with
  | none => ∀ t, Ext P k 2 t → D (ptsSet 0 (0 :: 1 :: t)) = false
  | some l => ∃ t, l = 0 :: 1 :: t ∧ Ext P k 2 t ∧ D (ptsSet 0 (0 :: 1 :: t)) = true ∧ ∀ t', Ext P k 2 t' → D (ptsSet 0 (0 :: 1 :: t')) = true → ¬ cmpL t' t < 0
theorem best_none {D : Nat → Bool} {P : Nat} (hP : 2 ≤ P) (hP8 : P ≤ 8) {best : List Int} (h : BestTo D (2 ^ P) best) (hn : ∀ k, k + 2 ≤ P → FirstAt D P k none) : best = [] := by
  rcases h with ⟨h, _⟩ | ⟨u, hu, h3, hD, hb, _⟩
  · exact h
  · obtain ⟨t, e1, e2, e3⟩ := set_list hP8 hu h3
    have hk : t.length + 2 ≤ P := by
      obtain ⟨a1, _, a3⟩ := ext_asc _ _ _ e2
      have key : ∀ (l : List Int) (f : Nat), Asc f l → (∀ z ∈ l, z < P) → f ≤ P → l.length + f ≤ P := by
        intro l
        induction l with
        | nil => intro f _ _ h; simpa using h
        | cons a l ih =>
          intro f h1 h2 _
          have h0 := h1.1
          have hP := h2 a (by simp)
          have e : ((a.toNat + 1 : Nat) : Int) = a + 1 := by omega
          have := ih (a.toNat + 1) (by rw [e]; exact h1.2) (fun z hz => h2 z (List.mem_cons_of_mem _ hz)) (by omega)
          simp only [List.length_cons]
          omega
      exact key t 2 a1 a3 hP
    have := hn t.length hk t e2
    rw [e1] at e3
    rw [e3, hD] at this
    cases this
theorem best_some {D : Nat → Bool} {P : Nat} (hP : 2 ≤ P) (hP8 : P ≤ 8) {best l : List Int} {k : Nat} (h : BestTo D (2 ^ P) best) (hn : ∀ j, j < k → FirstAt D P j none) (hs : FirstAt D P k (some l)) : best = l ∧ l ≠ [] := by
  obtain ⟨t, rfl, s1, s2, s3⟩ := hs
  obtain ⟨l1, l2, l3⟩ := list_set hP hP8 s1
  refine ⟨?_, by simp⟩
  rcases h with ⟨_, h⟩ | ⟨u, hu, h3, hD, hb, hmin⟩
  · rw [h _ l1 l2] at s2; cases s2
  · obtain ⟨t', e1, e2, e3⟩ := set_list hP8 hu h3
    have m1 := hmin _ l1 l2 s2
    rw [l3] at m1
    rw [e1] at hb e3
    subst hb
    have hlen : t.length = k := (ext_asc _ _ _ s1).2.1
    refine lessL_tri ?_ m1
    rintro (h | ⟨h, hc⟩)
    · simp only [List.length_cons] at h
      have := hn t'.length (by omega) t' e2
      rw [e3, hD] at this
      cases this
    · simp only [List.length_cons] at h
      have h' : t'.length = k := by omega
      rw [h'] at e2
      refine s3 t' e2 (by rw [e3]; exact hD) ?_
      have := cmpL_pre [0, 1] t' t
      simp only [List.cons_append, List.nil_append] at this
      rwa [this] at hc
-- FirstDouble: the reference's search and the program's.
theorem ptsSet_three (t : List Int) : ptsSet 0 (0 :: 1 :: t) = ptsSet 3 t := rfl
theorem ext_weak {P n f : Nat} {t : List Int} (h : Ext P (n + 1) (f + 1) t) : Ext P (n + 1) f t := by
  obtain ⟨a, r, h1, h2, h3, h4⟩ := h
  exact ⟨a, r, h1, by omega, h3, h4⟩
/-- What one search says. -/
def Says (D : Nat → Bool) (P n f set : Nat) (list : List Int) (r : List Int × Bool) : Prop :=
  (r.2 = true → ∃ t, r.1 = list ++ t ∧ Ext P n f t ∧ D (ptsSet set t) = true ∧ ∀ t', Ext P n f t' → D (ptsSet set t') = true → ¬ cmpL t' t < 0) ∧ (r.2 = false → ∀ t, Ext P n f t → D (ptsSet set t) = false)
theorem choose_step (p : Int) (l : List (List Int)) (f n set set2 pw : Nat) (list : List Int) (hf : (f : Int) < p) (hf8 : f < 8) (hlen : list.length + (n + 1) ≤ 100) (sh : shl .i64 1 (f : Int) = (pw : Int)) (o1 : Go.bits .or .i64 (set : Int) (pw : Int) = (set2 : Int)) (k : Nat) :
    spec_l10Choose.l0 (k + 1) list set ((n + 1 : Nat) : Int) f p l = (spec_l10Choose.f k p l (list ++ [(f : Int)]) (set2 : Int) ((f + 1 : Nat) : Int) n).bind fun bt => if bt.2 = true then some (bt.1, true) else spec_l10Choose.l0 k list set ((n + 1 : Nat) : Int) ((f + 1 : Nat) : Int) p l := by
  have u1 := u64_nat f (by omega)
  have w1 : wrap64 ((f : Int) + 1) = ((f + 1 : Nat) : Int) := by unfold wrap64; omega
  have w2 : wrap64 (((n + 1 : Nat) : Int) - 1) = (n : Int) := by unfold wrap64; omega
  have own : spec_l01Own.f list = some list := by
    unfold spec_l01Own.f
    simp only [Option.bind_some, List.nil_append]
    rw [if_pos (by simp; omega)]
  simp only [spec_l10Choose.l0]
  rw [if_pos hf, own]
  simp only [Option.bind_some]
  rw [if_pos (by simp; omega), u1, if_pos (by omega), sh, o1, w1, w2]
theorem choose_ev (p : Int) (l : List (List Int)) (D : Nat → Bool) (hD : ∀ s : Nat, s < 256 → s ≠ 0 → Ev (fun k => spec_l10Double.f k p l s) (D s)) (P : Nat) (hP : p = P) (hP8 : P ≤ 8) :
    ∀ (n f set : Nat) (list : List Int), set < 256 → set ≠ 0 → f ≤ P → list.length + n ≤ 100 → ∃ r, Ev (fun k => spec_l10Choose.f k p l list set f n) r ∧ Says D P n f set list r := by
  intro n
  induction n with
  | zero =>
    intro f set list h1 h2 _ _
    refine ⟨(list, D set), ?_, fun h => ⟨[], by simp, rfl, h, fun t' ht _ => ?_⟩, fun h t ht => ?_⟩
    · refine Ev.step (f := fun k => (spec_l10Double.f k p l set).bind fun t289 => some (list, t289)) (fun k => ?_) (Ev.bind (hD set h1 h2) (Ev.now _))
      simp only [spec_l10Choose.f]
      rw [if_pos (by omega)]
    · have ht : t' = [] := ht
      subst ht
      simp [cmpL]
    · have ht : t = [] := ht
      subst ht
      exact h
  | succ n ih =>
    have key : ∀ (d f set : Nat) (list : List Int), f + d = P → set < 256 → set ≠ 0 → list.length + (n + 1) ≤ 100 → ∃ r, Ev (fun k => spec_l10Choose.l0 k list set ((n + 1 : Nat) : Int) f p l) r ∧ Says D P (n + 1) f set list r := by
      intro d
      induction d with
      | zero =>
        intro f set list hf _ _ _
        refine ⟨([], false), ?_, fun h => (by cases h), fun _ t ht => ?_⟩
        · refine Ev.step (f := fun _ => some ([], false)) (fun k => ?_) (Ev.now _)
          simp only [spec_l10Choose.l0]
          rw [if_neg (by omega)]
        · obtain ⟨a, r, _, h2, h3, _⟩ := ht
          omega
      | succ d ihd =>
        intro f set list hf h1 h2 h3
        obtain ⟨pw, hpw⟩ : ∃ pw : Nat, pw = 2 ^ f := ⟨_, rfl⟩
        have t2 : pw < 256 := by rw [hpw]; exact two_lt (by omega)
        have sh : shl .i64 1 (f : Int) = (pw : Int) := by rw [hpw]; exact shl_nat f (by omega)
        have hpts : ∀ t : List Int, ptsSet set ((f : Int) :: t) = ptsSet (set ||| pw) t := fun t => by
          show ptsSet (set ||| 2 ^ ((f : Int)).toNat) t = _
          rw [Int.toNat_natCast, hpw]
        clear hpw
        have hor := or_lt h1 t2
        have hle := (Nat.left_le_or : set ≤ set ||| pw)
        have o1 := bits_or_nat set pw (by omega) (by omega)
        generalize set ||| pw = set2 at *
        have hne : set2 ≠ 0 := by omega
        obtain ⟨r1, e1, s1t, s1f⟩ := ih (f + 1) set2 (list ++ [(f : Int)]) hor hne (by omega) (by simp; omega)
        obtain ⟨r2, e2, s2t, s2f⟩ := ihd (f + 1) set list (by omega) h1 h2 h3
        have hstep := choose_step p l f n set set2 pw list (by omega) (by omega) (by omega) sh o1
        cases hr : r1.2 with
        | true =>
          obtain ⟨t, h4, h5, h6, h7⟩ := s1t hr
          refine ⟨(r1.1, true), ?_, fun _ => ⟨(f : Int) :: t, by simp [h4], ⟨f, t, rfl, Nat.le_refl _, by omega, h5⟩, by rw [hpts]; exact h6, fun t' ht' hDt => ?_⟩, fun h => by cases h⟩
          · refine Ev.step hstep (Ev.bind e1 ?_)
            exact Ev.congr (f := fun _ => some (r1.1, true)) (fun k => by rw [if_pos hr]) (Ev.now _)
          · obtain ⟨a, r, rfl, g1, g2, g3⟩ := ht'
            by_cases ea : a = f
            · subst ea
              rw [hpts] at hDt
              have := h7 r g3 hDt
              show ¬ (if (a : Int) < a then -1 else if (a : Int) < a then 1 else cmpL r t) < 0
              rw [if_neg (by omega), if_neg (by omega)]
              exact this
            · show ¬ (if (a : Int) < f then -1 else if (f : Int) < a then 1 else cmpL r t) < 0
              rw [if_neg (by omega), if_pos (by omega)]
              omega
        | false =>
          refine ⟨r2, ?_, fun h => ?_, fun h t ht => ?_⟩
          · refine Ev.step hstep (Ev.bind e1 ?_)
            exact Ev.congr (fun k => by rw [if_neg (by rw [hr]; simp)]) e2
          · obtain ⟨t, h4, h5, h6, h7⟩ := s2t h
            refine ⟨t, h4, ext_weak h5, h6, fun t' ht' hDt => ?_⟩
            obtain ⟨a, r, rfl, g1, g2, g3⟩ := ht'
            by_cases ea : a = f
            · subst ea
              rw [hpts, s1f hr r g3] at hDt
              cases hDt
            · exact h7 _ ⟨a, r, rfl, by omega, g2, g3⟩ hDt
          · obtain ⟨a, r, rfl, g1, g2, g3⟩ := ht
            by_cases ea : a = f
            · subst ea
              rw [hpts]
              exact s1f hr r g3
            · exact s2f h _ ⟨a, r, rfl, by omega, g2, g3⟩
    intro f set list h1 h2 h3 h4
    obtain ⟨r, e, s⟩ := key (P - f) f set list (by omega) h1 h2 h4
    refine ⟨r, Ev.step (fun k => ?_) e, s⟩
    simp only [spec_l10Choose.f]
    rw [if_neg (by omega)]
/-- The answer of both. -/
def firstAns : Option (List Int) → List Int × Int
  | none => ([], 4)
  | some l => (l, 0)
theorem specFirst_l0 (p : Int) (l : List (List Int)) (D : Nat → Bool) (hD : ∀ s : Nat, s < 256 → s ≠ 0 → Ev (fun k => spec_l10Double.f k p l s) (D s)) (P : Nat) (hP : p = P) (hP2 : 2 ≤ P) (hP8 : P ≤ 8) :
    ∀ (d n : Nat), n + d + 1 = P → (∀ j, j < n → FirstAt D P j none) → ∃ r : Option (List Int), Ev (fun k => spec_FirstDouble.l0 k n p l) (firstAns r) ∧ ((r = none ∧ ∀ j, j + 2 ≤ P → FirstAt D P j none) ∨ ∃ x m, r = some x ∧ FirstAt D P m (some x) ∧ ∀ j, j < m → FirstAt D P j none) := by
  have wp : wrap64 (p - 2) = p - 2 := by unfold wrap64; omega
  intro d
  induction d with
  | zero =>
    intro n hn hj
    refine ⟨none, ?_, .inl ⟨rfl, fun j h => hj j (by omega)⟩⟩
    refine Ev.step (f := fun _ => some (([] : List Int), (4 : Int))) (fun k => ?_) (Ev.now _)
    simp only [spec_FirstDouble.l0]
    rw [wp, if_neg (by omega)]
  | succ d ih =>
    intro n hn hj
    obtain ⟨⟨x, b⟩, e, st, sf⟩ := choose_ev p l D hD P hP hP8 n 2 3 [0, 1] (by omega) (by omega) hP2 (by simp; omega)
    have w1 : wrap64 ((n : Int) + 1) = ((n + 1 : Nat) : Int) := by unfold wrap64; omega
    have hstep : ∀ k, spec_FirstDouble.l0 (k + 1) n p l = (spec_l10Choose.f k p l [0, 1] ((3 : Nat) : Int) ((2 : Nat) : Int) n).bind fun bt => if bt.2 = true then some (bt.1, 0) else spec_FirstDouble.l0 k ((n + 1 : Nat) : Int) p l := by
      intro k
      simp only [spec_FirstDouble.l0]
      rw [wp, if_pos (by omega), w1]
      rfl
    cases b with
    | true =>
      obtain ⟨t, h1, h2, h3, h4⟩ := st rfl
      have h1 : x = 0 :: 1 :: t := h1
      clear st sf
      subst h1
      refine ⟨some (0 :: 1 :: t), ?_, .inr ⟨_, n, rfl, ⟨t, rfl, h2, by rw [ptsSet_three]; exact h3, fun t' ht' hd => h4 t' ht' (by rw [← ptsSet_three]; exact hd)⟩, hj⟩⟩
      refine Ev.step hstep (Ev.bind e ?_)
      exact Ev.congr (f := fun _ => some _) (fun k => by rw [if_pos rfl]; rfl) (Ev.now _)
    | false =>
      have hn0 : FirstAt D P n none := fun t ht => by rw [ptsSet_three]; exact sf rfl t ht
      obtain ⟨r, e2, h⟩ := ih (n + 1) (by omega) (fun j hjn => by
        by_cases e : j = n
        · subst e; exact hn0
        · exact hj j (by omega))
      refine ⟨r, Ev.step hstep (Ev.bind e (Ev.congr (fun k => by rw [if_neg (by simp)]) e2)), h⟩
theorem better_iff (x y : List Int) : betterV x y = true ↔ y = [] ∨ lessL x y := by
  unfold betterV lessL
  simp
theorem implFirst_l0 (p : Int) (l : List (List Int)) (D : Nat → Bool) (hD : ∀ s : Nat, s < 256 → s ≠ 0 → Ev (fun k => impl_Net_areDouble.f k p l s) (D s)) (P : Nat) (hP : p = P) (hP8 : P ≤ 8) (N : Nat) (hN : N = 2 ^ P) :
    ∀ (d s : Nat) (best : List Int), s + d = N → BestTo D s best → ∃ b', BestTo D N b' ∧ Ev (fun k => impl_FirstDouble.l0 k p l best s) (if b' = [] then ([], 4) else (b', 0)) := by
  have hN256 : N ≤ 256 := by
    have : 2 ^ P ≤ 2 ^ 8 := Nat.pow_le_pow_right (by omega) hP8
    omega
  have hsh : shl .i64 1 p = (N : Int) := by rw [hP, shl_nat P (by omega), hN]
  intro d
  induction d with
  | zero =>
    intro s best hs hb
    have : s = N := by omega
    subst this
    refine ⟨best, hb, ?_⟩
    refine Ev.step (f := fun _ => some (if best = [] then ([], 4) else (best, 0))) (fun k => ?_) (Ev.now _)
    simp only [impl_FirstDouble.l0]
    rw [hsh, if_neg (by omega)]
    split <;> rfl
  | succ d ih =>
    intro s best hs hb
    have ba := bits_and_nat s 3 (by omega) (by omega)
    have w1 : wrap64 ((s : Int) + 1) = ((s + 1 : Nat) : Int) := by unfold wrap64; omega
    have hstep : ∀ k, impl_FirstDouble.l0 (k + 1) p l best s = if s &&& 3 = 3 then (if betterV (nodesN s) best = true then (impl_Net_areDouble.f k p l s).bind fun t => (if t = true then (if nodesN s = [] then none else impl_FirstDouble.l0 k p l (nodesN s) ((s + 1 : Nat) : Int)) else impl_FirstDouble.l0 k p l best ((s + 1 : Nat) : Int)) else impl_FirstDouble.l0 k p l best ((s + 1 : Nat) : Int)) else impl_FirstDouble.l0 k p l best ((s + 1 : Nat) : Int) := by
      intro k
      simp only [impl_FirstDouble.l0]
      rw [hsh, if_pos (by omega), w1, show ((3 : Int)) = ((3 : Nat) : Int) from rfl, ba]
      by_cases h3 : s &&& 3 = 3
      · rw [if_pos (by rw [h3]), if_pos h3]; rfl
      · rw [if_neg (by omega), if_neg h3]
    by_cases h3 : s &&& 3 = 3
    · have hs0 : s ≠ 0 := fun e => by subst e; simp at h3
      by_cases hbt : betterV (nodesN s) best = true
      · cases hDs : D s with
        | true =>
          obtain ⟨t, ht, _, _⟩ := set_list hP8 (u := s) (by omega) h3
          have hne : nodesN s ≠ [] := by rw [ht]; simp
          have hb' : BestTo D (s + 1) (nodesN s) := by
            refine .inr ⟨s, by omega, h3, hDs, rfl, fun v hv hv3 hvD => ?_⟩
            by_cases ev : v = s
            · subst ev
              rintro (h | ⟨_, h⟩)
              · omega
              · have := (cmpL_anti (nodesN v) (nodesN v)).1; omega
            · intro hless
              rcases hb with ⟨_, hb⟩ | ⟨u, hu, hu3, huD, hub, hmin⟩
              · rw [hb v (by omega) hv3] at hvD; cases hvD
              · refine hmin v (by omega) hv3 hvD ?_
                rcases (better_iff _ _).1 hbt with e | e
                · obtain ⟨t2, ht2, _, _⟩ := set_list hP8 (u := u) (by omega) hu3
                  rw [hub, ht2] at e; cases e
                · exact lessL_trans hless e
          obtain ⟨b', g1, g2⟩ := ih (s + 1) _ (by omega) hb'
          refine ⟨b', g1, Ev.step hstep (Ev.congr (fun k => by rw [if_pos h3, if_pos hbt]) (Ev.bind (hD s (by omega) hs0) ?_))⟩
          rw [hDs]
          exact Ev.congr (fun k => by rw [if_pos rfl, if_neg hne]) g2
        | false =>
          have hb' : BestTo D (s + 1) best := by
            rcases hb with ⟨e, hb⟩ | ⟨u, hu, hu3, huD, hub, hmin⟩
            · refine .inl ⟨e, fun v hv hv3 => ?_⟩
              by_cases ev : v = s
              · subst ev; exact hDs
              · exact hb v (by omega) hv3
            · refine .inr ⟨u, by omega, hu3, huD, hub, fun v hv hv3 hvD => ?_⟩
              by_cases ev : v = s
              · subst ev; rw [hDs] at hvD; cases hvD
              · exact hmin v (by omega) hv3 hvD
          obtain ⟨b', g1, g2⟩ := ih (s + 1) _ (by omega) hb'
          refine ⟨b', g1, Ev.step hstep (Ev.congr (fun k => by rw [if_pos h3, if_pos hbt]) (Ev.bind (hD s (by omega) hs0) ?_))⟩
          rw [hDs]
          exact Ev.congr (fun k => by rw [if_neg (by simp)]) g2
      · have hnb : best ≠ [] ∧ ¬ lessL (nodesN s) best := by
          constructor
          · intro e; exact hbt ((better_iff _ _).2 (.inl e))
          · intro e; exact hbt ((better_iff _ _).2 (.inr e))
        have hb' : BestTo D (s + 1) best := by
          rcases hb with ⟨e, hb⟩ | ⟨u, hu, hu3, huD, hub, hmin⟩
          · exact absurd e hnb.1
          · refine .inr ⟨u, by omega, hu3, huD, hub, fun v hv hv3 hvD => ?_⟩
            by_cases ev : v = s
            · subst ev; exact hnb.2
            · exact hmin v (by omega) hv3 hvD
        obtain ⟨b', g1, g2⟩ := ih (s + 1) _ (by omega) hb'
        exact ⟨b', g1, Ev.step hstep (Ev.congr (fun k => by rw [if_pos h3, if_neg hbt]) g2)⟩
    · have hb' : BestTo D (s + 1) best := by
        rcases hb with ⟨e, hb⟩ | ⟨u, hu, hu3, huD, hub, hmin⟩
        · refine .inl ⟨e, fun v hv hv3 => ?_⟩
          by_cases ev : v = s
          · subst ev; exact absurd hv3 h3
          · exact hb v (by omega) hv3
        · refine .inr ⟨u, by omega, hu3, huD, hub, fun v hv hv3 hvD => ?_⟩
          by_cases ev : v = s
          · subst ev; exact absurd hv3 h3
          · exact hmin v (by omega) hv3 hvD
      obtain ⟨b', g1, g2⟩ := ih (s + 1) _ (by omega) hb'
      exact ⟨b', g1, Ev.step hstep (Ev.congr (fun k => by rw [if_neg h3]) g2)⟩
/-- Both find the same. -/
theorem first_both (p : Int) (l : List (List Int)) (hl : l.length ≤ 9223372036854775807) : ∃ r : List Int × Int, r.1.length ≤ 4611686018427387000 ∧ Ev (fun k => spec_FirstDouble.f k p l) r ∧ Ev (fun k => impl_FirstDouble.f k p l) r := by
  classical
  by_cases h : isNetV p l = true
  · obtain ⟨hE, hp2, hp8⟩ := netEdges h
    have hex : ∀ s : Nat, ∃ b : Bool, s < 256 → s ≠ 0 → Ev (fun k => spec_l10Double.f k p l s) b ∧ Ev (fun k => impl_Net_areDouble.f k p l s) b := by
      intro s
      by_cases hs : s < 256 ∧ s ≠ 0
      · obtain ⟨b, e1, e2⟩ := double_ev p l hE s hs.1 hs.2
        exact ⟨b, fun _ _ => ⟨e1, e2⟩⟩
      · exact ⟨true, fun a b => absurd ⟨a, b⟩ hs⟩
    obtain ⟨D, hD⟩ := Classical.axiomOfChoice hex
    obtain ⟨P, rfl⟩ : ∃ P : Nat, p = P := ⟨p.toNat, by omega⟩
    have hP2 : 2 ≤ P := by omega
    have hP8 : P ≤ 8 := by omega
    obtain ⟨r, e1, hr⟩ := specFirst_l0 P l D (fun s a b => (hD s a b).1) P rfl hP2 hP8 (P - 1) 0 (by omega) (fun j hj => by omega)
    obtain ⟨b', hb, e2⟩ := implFirst_l0 P l D (fun s a b => (hD s a b).2) P rfl hP8 (2 ^ P) rfl (2 ^ P) 0 [] (by omega) (.inl ⟨rfl, fun v hv => by omega⟩)
    have ea : firstAns r = (if b' = [] then ([], 4) else (b', 0)) ∧ b'.length ≤ 16 := by
      have hlen : b'.length ≤ 16 := by
        rcases hb with ⟨e, _⟩ | ⟨u, _, _, _, e, _⟩
        · rw [e]; simp
        · rw [e]; exact chosenTo_le _ 16
      refine ⟨?_, hlen⟩
      rcases hr with ⟨rfl, hn⟩ | ⟨x, m, rfl, h1, h2⟩
      · rw [if_pos (best_none hP2 hP8 hb hn)]; rfl
      · obtain ⟨e, hne⟩ := best_some hP2 hP8 hb h2 h1
        rw [e, if_neg hne]; rfl
    refine ⟨firstAns r, ?_, ?_, ?_⟩
    · rw [ea.1]
      have := ea.2
      split
      · simp
      · show b'.length ≤ _; omega
    · unfold spec_FirstDouble.f
      refine Ev.bind (l10Is_ev P l hl) (Ev.congr (fun k => by rw [if_pos h]) ?_)
      exact e1
    · rw [ea.1]
      unfold impl_FirstDouble.f
      exact Ev.congr (fun k => by rw [if_pos h]; rfl) e2
  · refine ⟨([], 1), by simp, ?_, ?_⟩
    · unfold spec_FirstDouble.f
      refine Ev.bind (l10Is_ev p l hl) ?_
      exact Ev.congr (f := fun _ => some _) (fun k => by rw [if_neg h]) (Ev.now _)
    · unfold impl_FirstDouble.f
      exact Ev.congr (f := fun _ => some _) (fun k => by rw [if_neg h]) (Ev.now _)
-- What the verifier writes into results, and finds there again.
def countUp : Int → Nat → List Int
  | _, 0 => []
  | m, n + 1 => m :: countUp (m + 1) n
theorem countUp_len : ∀ (n : Nat) (m : Int), (countUp m n).length = n
  | 0, _ => rfl
  | n + 1, m => by simp [countUp, countUp_len n]
theorem countUp_get : ∀ (n : Nat) (m : Int) (i : Nat) (h : i < (countUp m n).length), (countUp m n)[i] = m + i
  | 0, m, i, h => by simp [countUp] at h
  | n + 1, m, 0, h => by simp [countUp]
  | n + 1, m, i + 1, h => by
    have := countUp_get n (m + 1) i (by simpa [countUp] using h)
    simp only [countUp, List.getElem_cons_succ]
    rw [this]; omega
theorem mark_l0 (m0 : Int) (h0 : 0 ≤ m0) : ∀ (d i : Nat) (x : List Int), i + d = x.length → m0 + x.length ≤ 4611686018427387904 → (∀ (j : Nat) (hj : j < x.length), j < i → x[j] = m0 + j) →
    Ev (fun k => laws_markInt64S.l0 k x (m0 + i) i) (m0 + x.length, countUp m0 x.length) := by
  intro d
  induction d with
  | zero =>
    intro i x hi hb hx
    have e : x = countUp m0 x.length := by
      apply List.ext_getElem
      · rw [countUp_len]
      · intro j h1 h2
        rw [hx j h1 (by omega), countUp_get]
    refine Ev.step (f := fun _ => some (m0 + x.length, countUp m0 x.length)) (fun k => ?_) (Ev.now _)
    simp only [laws_markInt64S.l0]
    rw [if_neg (by omega), ← e]
    have : i = x.length := by omega
    rw [this]
  | succ d ih =>
    intro i x hi hb hx
    have hlt : i < x.length := by omega
    have := ih (i + 1) (x.set i (m0 + i)) (by simp; omega) (by simpa using hb) (fun j hj hji => by
      rw [List.getElem_set]
      split
      · rename_i e; rw [e]
      · rename_i e; exact hx j (by simpa using hj) (by omega))
    rw [List.length_set] at this
    refine Ev.step (fun k => ?_) this
    have w1 : wrap64 (m0 + i + 1) = m0 + ((i + 1 : Nat) : Int) := by unfold wrap64; omega
    have w2 : wrap64 ((i : Int) + 1) = ((i + 1 : Nat) : Int) := by unfold wrap64; omega
    simp only [laws_markInt64S.l0]
    rw [if_pos (by omega), if_pos (by omega), w1, w2, Int.toNat_natCast]
theorem mark_ev (m : Int) (h0 : 0 ≤ m) (x : List Int) (hb : m + x.length ≤ 4611686018427387904) : Ev (fun k => laws_markInt64S.f k x m) (m + x.length, countUp m x.length) := by
  have := mark_l0 m h0 x.length 0 x (by omega) hb (fun j _ h => by omega)
  refine Ev.congr (fun k => ?_) this
  unfold laws_markInt64S.f
  simp
theorem held_l0 (m0 : Int) (h0 : 0 ≤ m0) (x : List Int) (hb : m0 + x.length ≤ 4611686018427387904) (hx : ∀ (j : Nat) (hj : j < x.length), x[j] = m0 + j) : ∀ (d i : Nat), i + d = x.length →
    Ev (fun k => laws_heldInt64S.l0 k x (m0 + i) i) (m0 + x.length) := by
  intro d
  induction d with
  | zero =>
    intro i hi
    refine Ev.step (f := fun _ => some (m0 + x.length)) (fun k => ?_) (Ev.now _)
    simp only [laws_heldInt64S.l0]
    rw [if_neg (by omega)]
    have : i = x.length := by omega
    rw [this]
  | succ d ih =>
    intro i hi
    have hlt : i < x.length := by omega
    refine Ev.step (fun k => ?_) (ih (i + 1) (by omega))
    have w1 : wrap64 (m0 + i + 1) = m0 + ((i + 1 : Nat) : Int) := by unfold wrap64; omega
    have w2 : wrap64 ((i : Int) + 1) = ((i + 1 : Nat) : Int) := by unfold wrap64; omega
    simp only [laws_heldInt64S.l0]
    rw [if_pos (by omega), if_pos (by omega), rd_get x i hlt, hx i hlt, if_pos rfl, w1, w2]
theorem held_ev (m : Int) (h0 : 0 ≤ m) (n : Nat) (hb : m + n ≤ 4611686018427387904) : Ev (fun k => laws_heldInt64S.f k (countUp m n) m) (m + n) := by
  have := held_l0 m h0 (countUp m n) (by rw [countUp_len]; exact hb) (fun j hj => countUp_get n m j hj) n 0 (by rw [countUp_len]; omega)
  rw [countUp_len] at this
  refine Ev.congr (fun k => ?_) this
  unfold laws_heldInt64S.f
  simp
-- The same, for rows of rows.
def countUpSS : Int → List (List Int) → List (List Int)
  | _, [] => []
  | m, x :: r => countUp m x.length :: countUpSS (m + x.length) r
theorem countUpSS_len : ∀ (l : List (List Int)) (m : Int), (countUpSS m l).length = l.length
  | [], _ => rfl
  | x :: r, m => by simp [countUpSS, countUpSS_len r]
theorem markSS_l0 (tot : Int) (hb : tot ≤ 4611686018427387904) : ∀ (r pre : List (List Int)) (m : Int), 0 ≤ m → m + sumLen r = tot → (pre ++ r).length ≤ 4611686018427387904 →
    Ev (fun k => laws_markInt64SS.l0 k (pre ++ r) m (pre.length : Nat)) (tot, pre ++ countUpSS m r) := by
  intro r
  induction r with
  | nil =>
    intro pre m h0 ht hl
    refine Ev.step (f := fun _ => some (tot, pre ++ [])) (fun k => ?_) (Ev.now _)
    simp only [laws_markInt64SS.l0]
    have e : m = tot := by simpa [sumLen] using ht
    rw [if_neg (by simp), e]
  | cons x r ih =>
    intro pre m h0 ht hl
    have hs : sumLen (x :: r) = x.length + sumLen r := rfl
    have hn := sumLen_nonneg r
    have hm := mark_ev m h0 x (by omega)
    have := ih (pre ++ [countUp m x.length]) (m + x.length) (by omega) (by omega) (by simpa using hl)
    have e1 : pre ++ [countUp m x.length] ++ r = (pre ++ x :: r).set pre.length (countUp m x.length) := by simp
    have e2 : pre ++ [countUp m x.length] ++ countUpSS (m + x.length) r = pre ++ countUpSS m (x :: r) := by simp [countUpSS]
    rw [e1, e2] at this
    have hlen : (pre ++ x :: r).length = pre.length + r.length + 1 := by simp; omega
    have w2 : wrap64 ((pre.length : Int) + 1) = (((pre ++ [countUp m x.length]).length : Nat) : Int) := by rw [List.length_append]; unfold wrap64; simp; omega
    refine Ev.step (f := fun k => (laws_markInt64S.f k x m).bind fun r_ => laws_markInt64SS.l0 k ((pre ++ x :: r).set pre.length r_.2) r_.1 (((pre ++ [countUp m x.length]).length : Nat) : Int)) (fun k => ?_) (Ev.bind hm this)
    simp only [laws_markInt64SS.l0]
    rw [if_pos (by omega), if_pos (by omega), Int.toNat_natCast, w2]
    have : (pre ++ x :: r).getD pre.length [] = x := by simp
    rw [this]
theorem markSS_ev (m : Int) (h0 : 0 ≤ m) (l : List (List Int)) (hb : m + sumLen l ≤ 4611686018427387904) (hl : l.length ≤ 4611686018427387904) : Ev (fun k => laws_markInt64SS.f k l m) (m + sumLen l, countUpSS m l) := by
  have := markSS_l0 (m + sumLen l) hb l [] m h0 rfl (by simpa using hl)
  exact this
theorem sumLen_bound : ∀ (l : List (List Int)), (∀ x ∈ l, x.length ≤ 1048576) → sumLen l ≤ l.length * 1048576
  | [], _ => by simp [sumLen]
  | x :: r, h => by
    have h1 := h x (by simp)
    have h2 := sumLen_bound r (fun y hy => h y (List.mem_cons_of_mem _ hy))
    have hs : sumLen (x :: r) = x.length + sumLen r := rfl
    rw [hs, List.length_cons]
    omega
/-- The one pure statement of laws_FnExactFirstDouble. -/
def laws_FnExactFirstDouble.Pure : Prop := ∀ (a0_0 : Int) (l0_1 : List (List Int)), (Lit.int .i64 a0_0).wf = true → (l0_1.length ≤ maxLen ∧ ∀ y6_ ∈ l0_1, (y6_.length ≤ maxLen ∧ ∀ y7_ ∈ y6_, (Lit.int .i64 y7_).wf = true)) → ∃ k, laws_FnExactFirstDouble.f k a0_0 l0_1 = some true
/-- A type's readings as data are values of a kind: what an argument of that type is, whatever it holds. -/
def Rdb {α : Type} (P : Program) (t : TypeId) (d : Kd α) (wf : α → Prop) : Prop :=
  ∀ (H : Type) (enc : TypeId × Value → H) (w : World) (base : Nat) (spare : Nat → Bool) (held : Bool) (fuel : Nat) (cs : List Value) (x : DataW H × List MemPlace),
    DataW.trod enc P w base spare held fuel t cs = some x → ∃ a : α, d.K w a cs ∧ wf a
theorem Rdb.int {P : Program} {t : TypeId} {k : IntKind} (ht : P.underlying t = some (.int k)) : Rdb P t (Kd.int k) (fun n => (Lit.int k n).wf = true) := by
  intro H enc w base spare held fuel cs x h
  obtain ⟨n, rfl, _, hw⟩ := DataW.trod_int ht h
  exact ⟨n, rfl, hw⟩
theorem Rdb.bool {P : Program} {t : TypeId} (ht : P.underlying t = some .bool) : Rdb P t Kd.bool (fun _ => True) := by
  intro H enc w base spare held fuel cs x h
  obtain ⟨n, rfl, _⟩ := DataW.trod_bool ht h
  exact ⟨n, rfl, trivial⟩
theorem Rdb.string {P : Program} {t : TypeId} (ht : P.underlying t = some .string) : Rdb P t Kd.string (fun s => s.size ≤ maxLen) := by
  intro H enc w base spare held fuel cs x h
  obtain ⟨s, rfl, _, hs⟩ := DataW.trod_string ht h
  exact ⟨s, rfl, hs⟩
theorem list_choose {α β : Type} {R : Nat → α → β → Prop} : ∀ (n : Nat) (xs : List α), xs.length = n → (∀ i x, xs[i]? = some x → ∃ y, R i x y) → ∃ ys : List β, ys.length = n ∧ ∀ i x y, xs[i]? = some x → ys[i]? = some y → R i x y := by
  intro n xs
  induction xs generalizing n R with
  | nil =>
    intro hl _
    exact ⟨[], by simpa using hl, by intro i x y h; simp at h⟩
  | cons x xs ih =>
    intro hl h
    obtain ⟨y, hy⟩ := h 0 x rfl
    obtain ⟨ys, h1, h2⟩ := ih (R := fun i a b => R (i + 1) a b) (n - 1) (by simp at hl; omega) (fun i a hi => h (i + 1) a (by simpa using hi))
    refine ⟨y :: ys, by simp at hl ⊢; omega, fun i a b ha hb => ?_⟩
    cases i with
    | zero =>
      simp at ha hb
      subst ha hb
      exact hy
    | succ i => exact h2 i a b (by simpa using ha) (by simpa using hb)
theorem Rdb.slice {α : Type} {P : Program} {t e : TypeId} {d : Kd α} {wf : α → Prop} (ht : P.underlying t = some (.slice e)) (hc : P.cellsOf e = d.sz) (h1 : 0 < d.sz) (r : Rdb P e d wf) :
    Rdb P t (Kd.slice e d) (fun l => l.length ≤ maxLen ∧ ∀ x ∈ l, wf x) := by
  intro H enc w base spare held fuel cs x h
  rcases DataW.trod_slice ht h with ⟨rfl, _⟩ | ⟨a, len, cap, elems, rest, n, _, rfl, _, hb, hl, hm, hlen, hel, _, _⟩
  · exact ⟨[], ⟨none, 0, rfl, by simp, Kd.C_nil _ _⟩, by simp, by simp⟩
  · have each : ∀ i (y : DataW H × List MemPlace), elems[i]? = some y → ∃ b : α, ∃ c, w.cells? base (a.add (i * P.cellsOf e)) (P.cellsOf e) = some c ∧ d.K w b c ∧ wf b := by
      intro i y hy
      have hi : i < len := by have := (List.getElem?_eq_some_iff.1 hy).1; omega
      have h2 := hel i hi
      rw [hy, Option.bind_eq_some_iff] at h2
      obtain ⟨c, hcs, htr⟩ := h2
      obtain ⟨b, hK, hw⟩ := r H enc w base spare held n c y htr
      exact ⟨b, c, hcs, hK, hw⟩
    obtain ⟨xs, hx1, hx2⟩ := list_choose (R := fun i _ (b : α) => ∃ c, w.cells? base (a.add (i * P.cellsOf e)) (P.cellsOf e) = some c ∧ d.K w b c ∧ wf b) len elems hlen each
    have get : ∀ i b, xs[i]? = some b → ∃ c, w.cells? base (a.add (i * P.cellsOf e)) (P.cellsOf e) = some c ∧ d.K w b c ∧ wf b := by
      intro i b hb'
      have hi : i < elems.length := by have := (List.getElem?_eq_some_iff.1 hb').1; omega
      exact hx2 i _ b (List.getElem?_eq_getElem hi) hb'
    refine ⟨xs, ⟨some a, cap, by rw [hx1], by omega, ?_⟩, by omega, fun b hb' => ?_⟩
    · refine ⟨rfl, by rw [hx1]; unfold maxLen at hm; omega, fun hp => ⟨a, rfl, fun j b hj => ?_⟩⟩
      obtain ⟨c, hcs, hK, _⟩ := get j b hj
      obtain ⟨_, hcl, hcell⟩ := World.cells?_some hcs
      refine ⟨c, by rw [hcl, hc], hK, fun i u hu => ?_⟩
      have hi : i < P.cellsOf e := by have := (List.getElem?_eq_some_iff.1 hu).1; omega
      have := hcell i hi
      rw [hu] at this
      rw [Addr.add_add] at this
      rw [← hc]
      exact this
    · obtain ⟨i, hi⟩ := List.mem_iff_getElem?.1 hb'
      obtain ⟨_, _, _, hw⟩ := get i b hi
      exact hw
theorem take_all {α : Type} {cs : List α} {n : Nat} (h : cs.length = n) : cs.take n = cs := by rw [← h, List.take_length]
theorem Rdb.struct1 {α : Type} {P : Program} {t : TypeId} {f0 : Field} {d0 : Kd α} {w0 : α → Prop} (ht : P.underlying t = some (.struct #[f0])) (o0 : f0.offset = 0) (c0 : P.cellsOf f0.type = P.cellsOf t) (r0 : Rdb P f0.type d0 w0) : Rdb P t d0 w0 := by
  intro H enc w base spare held fuel cs x h
  obtain ⟨y0, n, _, hl, h0⟩ := ChangeShapes.trod_struct1 ht h
  rw [o0, List.drop_zero, c0, take_all hl] at h0
  exact r0 H enc w base spare held n cs y0 h0
theorem Rdb.struct2 {α β : Type} {P : Program} {t : TypeId} {f0 f1 : Field} {d0 : Kd α} {d1 : Kd β} {w0 : α → Prop} {w1 : β → Prop} (ht : P.underlying t = some (.struct #[f0, f1])) (o0 : f0.offset = 0) (o1 : f1.offset = P.cellsOf f0.type) (cT : P.cellsOf t = P.cellsOf f0.type + P.cellsOf f1.type)
    (r0 : Rdb P f0.type d0 w0) (r1 : Rdb P f1.type d1 w1) : Rdb P t (Kd.pair d0 d1) (fun x => w0 x.1 ∧ w1 x.2) := by
  intro H enc w base spare held fuel cs x h
  obtain ⟨y0, y1, n, _, hl, h0, h1⟩ := ChangeShapes.trod_struct2 ht h
  rw [o0, List.drop_zero] at h0
  rw [o1, List.take_of_length_le (by rw [List.length_drop, hl, cT]; omega)] at h1
  obtain ⟨a, hK0, hw0⟩ := r0 H enc w base spare held n _ y0 h0
  obtain ⟨b, hK1, hw1⟩ := r1 H enc w base spare held n _ y1 h1
  exact ⟨(a, b), ⟨_, _, (List.take_append_drop _ _).symm, hK0, hK1⟩, hw0, hw1⟩
theorem Rdb.struct3 {α β γ : Type} {P : Program} {t : TypeId} {f0 f1 f2 : Field} {d0 : Kd α} {d1 : Kd β} {d2 : Kd γ} {w0 : α → Prop} {w1 : β → Prop} {w2 : γ → Prop} (ht : P.underlying t = some (.struct #[f0, f1, f2])) (o0 : f0.offset = 0) (o1 : f1.offset = P.cellsOf f0.type)
    (o2 : f2.offset = P.cellsOf f0.type + P.cellsOf f1.type) (cT : P.cellsOf t = P.cellsOf f0.type + P.cellsOf f1.type + P.cellsOf f2.type)
    (r0 : Rdb P f0.type d0 w0) (r1 : Rdb P f1.type d1 w1) (r2 : Rdb P f2.type d2 w2) : Rdb P t (Kd.pair d0 (Kd.pair d1 d2)) (fun x => w0 x.1 ∧ w1 x.2.1 ∧ w2 x.2.2) := by
  intro H enc w base spare held fuel cs x h
  obtain ⟨xs, n, _, _, hl, hxl, hf⟩ := DataW.trod_struct ht h
  match xs, hxl with
  | [y0, y1, y2], _ =>
    have h0 : DataW.trod enc P w base spare held n f0.type ((cs.drop f0.offset).take (P.cellsOf f0.type)) = some y0 := by simpa using hf 0 f0 rfl
    have h1 : DataW.trod enc P w base spare held n f1.type ((cs.drop f1.offset).take (P.cellsOf f1.type)) = some y1 := by simpa using hf 1 f1 rfl
    have h2 : DataW.trod enc P w base spare held n f2.type ((cs.drop f2.offset).take (P.cellsOf f2.type)) = some y2 := by simpa using hf 2 f2 rfl
    rw [o0, List.drop_zero] at h0
    rw [o1] at h1
    rw [o2, List.take_of_length_le (by rw [List.length_drop, hl, cT]; omega)] at h2
    obtain ⟨a, hK0, hw0⟩ := r0 H enc w base spare held n _ y0 h0
    obtain ⟨b, hK1, hw1⟩ := r1 H enc w base spare held n _ y1 h1
    obtain ⟨c, hK2, hw2⟩ := r2 H enc w base spare held n _ y2 h2
    refine ⟨(a, b, c), ⟨_, _, (List.take_append_drop (P.cellsOf f0.type) cs).symm, hK0, _, _, ?_, hK1, hK2⟩, hw0, hw1, hw2⟩
    rw [← List.drop_drop, List.take_append_drop]
theorem Rdb.iso {α β : Type} {P : Program} {t : TypeId} {d : Kd α} {wf : α → Prop} (r : Rdb P t d wf) (f : β → α) (g : α → β) (hfg : ∀ a, f (g a) = a) : Rdb P t (Kd.iso d f) (fun b => wf (f b)) := by
  intro H enc w base spare held fuel cs x h
  obtain ⟨a, hK, hw⟩ := r H enc w base spare held fuel cs x h
  exact ⟨g a, by show d.K w (f (g a)) cs; rw [hfg]; exact hK, by show wf (f (g a)); rw [hfg]; exact hw⟩
theorem Rdb.of {α : Type} {P : Program} {t : TypeId} {d : Kd α} {wf : α → Prop} (r : Rdb P t d wf) {H : Type} {enc : TypeId × Value → H} {w : World} {base : Nat} {spare : Nat → Bool} {held : Bool} {v : Value} {x : DataW H} {ps : List MemPlace}
    (h : DataW.Trod enc P w base spare held t v x ps) : ∃ a : α, d.K w a v.cells.toList ∧ wf a := by
  obtain ⟨fuel, hf⟩ := h
  exact r H enc w base spare held fuel _ _ hf

end Go.Proofs.Ytcjeccohlmmfoaa.F
