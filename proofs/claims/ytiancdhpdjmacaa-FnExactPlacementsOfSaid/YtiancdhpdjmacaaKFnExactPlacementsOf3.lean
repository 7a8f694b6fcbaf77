-- written by the session's program xp.py over the kit's print program, and by hand; texts joined by pack.py
import Derived.Test.YtiancdhpdjmacaaKFnExactPlacementsOf2
namespace Go.Proofs.Ytiancdhpdjmacaa.F
open Go.RowKit Go.Proofs.YtiancdhpdjmacaaW.PrintWords Go.Proofs.YtiancdhpdjmacaaW.PrintLast Go.Proofs.YtiancdhpdjmacaaW.PrintMore
attribute [local go_sem] max2_int min2_int max_two min_two max_three min_three max_four min_four   -- for this text's walks alone
set_option linter.unusedVariables false
set_option linter.unusedSimpArgs false

/-! ### laws_FnExactPlacementsOf: function 3 -/
mutual
def laws_FnExactPlacementsOf.j0 : Nat → Int → List Int → Int → List Int → Int → Bool → Int → Int → List Int → Int → Int → List Int → Option (Bool)
 | 0, _, _, _, _, _, _, _, _, _, _, _, _ => none
 | k + 1, x1, x6, x7, x9, x10, x44, x349000, x349001, x349002, x365000, x365001, x365002 => if x44 = true then (some false) else ((laws_toSea.f k x349000 x349001 x349002).bind fun bt370 => ((laws_eqSea.f k x365000 x365001 x365002 bt370.1 bt370.2.1 bt370.2.2).bind fun t375 => (if t375 = true then ((laws_markSea.f k x365000 x365001 x365002 1).bind fun bt376 => (if bt376.1 < 0 then (laws_FnExactPlacementsOf.j1 k x1 x6 x7 x9 true x349000 x349001 x349002) else ((laws_eqInt64S.f k x9 x6).bind fun t378 => (if t378 = true then (laws_FnExactPlacementsOf.j1 k x1 x6 x7 x9 (x10 != x7) x349000 x349001 x349002) else (laws_FnExactPlacementsOf.j1 k x1 x6 x7 x9 true x349000 x349001 x349002))))) else (some false))))
def laws_FnExactPlacementsOf.j1 : Nat → Int → List Int → Int → List Int → Bool → Int → Int → List Int → Option (Bool)
 | 0, _, _, _, _, _, _, _, _ => none
 | k + 1, x1, x6, x7, x9, x65, x349000, x349001, x349002 => if x65 = true then (some false) else ((laws_markInt64S.f k x9 1).bind fun bt379 => ((laws_heldInt64S.f k bt379.2 1).bind fun t381 => (if t381 < 0 then (some false) else (if t381 = bt379.1 then ((laws_toSea.f k x349000 x349001 x349002).bind fun bt382 => ((impl_PlacementsOf.f k bt382.1 bt382.2.1 bt382.2.2 x1).bind fun bt387 => ((laws_eqInt64S.f k bt387.1 x6).bind fun t391 => (if t391 = true then (laws_FnExactPlacementsOf.j2 k bt379.2 bt379.1 (bt387.2 != x7)) else (laws_FnExactPlacementsOf.j2 k bt379.2 bt379.1 true))))) else (some false)))))
def laws_FnExactPlacementsOf.j2 : Nat → List Int → Int → Bool → Option (Bool)
 | 0, _, _, _ => none
 | k + 1, x9, x12, x92 => if x92 = true then (some false) else ((laws_heldInt64S.f k x9 1).bind fun t392 => (if t392 < 0 then (some false) else (if t392 = x12 then (some true) else (some false))))
end
def laws_FnExactPlacementsOf.f (k : Nat) (a0_0 : Int) (a0_1 : Int) (l0_2 : List Int) (a1 : Int) : Option (Bool) := (laws_szSea.f a0_0 a0_1 l0_2 1048576).bind fun t349 => (if t349 < 0 then (some true) else ((laws_toSea.f k a0_0 a0_1 l0_2).bind fun bt350 => ((spec_PlacementsOf.f k bt350.1 bt350.2.1 bt350.2.2 a1).bind fun bt355 => ((laws_toSea.f k a0_0 a0_1 l0_2).bind fun bt359 => ((impl_PlacementsOf.f k bt359.1 bt359.2.1 bt359.2.2 a1).bind fun bt365 => ((laws_eqInt64S.f k bt365.1 bt355.1).bind fun t369 => (if t369 = true then (laws_FnExactPlacementsOf.j0 k a1 bt355.1 bt355.2 bt365.1 bt365.2 (bt365.2 != bt355.2) a0_0 a0_1 l0_2 bt359.1 bt359.2.1 bt359.2.2) else (laws_FnExactPlacementsOf.j0 k a1 bt355.1 bt355.2 bt365.1 bt365.2 true a0_0 a0_1 l0_2 bt359.1 bt359.2.1 bt359.2.2))))))))
theorem laws_FnExactPlacementsOf.mono_l : ∀ k, (∀ y0 y1 y2 y3 y4 y5 y6 y7 y8 y9 y10 y11, LeO (laws_FnExactPlacementsOf.j0 k y0 y1 y2 y3 y4 y5 y6 y7 y8 y9 y10 y11) (laws_FnExactPlacementsOf.j0 (k + 1) y0 y1 y2 y3 y4 y5 y6 y7 y8 y9 y10 y11)) ∧ (∀ y0 y1 y2 y3 y4 y5 y6 y7, LeO (laws_FnExactPlacementsOf.j1 k y0 y1 y2 y3 y4 y5 y6 y7) (laws_FnExactPlacementsOf.j1 (k + 1) y0 y1 y2 y3 y4 y5 y6 y7)) ∧ (∀ y0 y1 y2, LeO (laws_FnExactPlacementsOf.j2 k y0 y1 y2) (laws_FnExactPlacementsOf.j2 (k + 1) y0 y1 y2))
 | 0 => ⟨fun _ _ _ _ _ _ _ _ _ _ _ _ r h => by simp [laws_FnExactPlacementsOf.j0] at h, fun _ _ _ _ _ _ _ _ r h => by simp [laws_FnExactPlacementsOf.j1] at h, fun _ _ _ r h => by simp [laws_FnExactPlacementsOf.j2] at h⟩
 | k + 1 => by
  obtain ⟨ih0, ih1, ih2⟩ := laws_FnExactPlacementsOf.mono_l k
  refine ⟨?_, ?_, ?_⟩
  ·intro y0 y1 y2 y3 y4 y5 y6 y7 y8 y9 y10 y11
   unfold laws_FnExactPlacementsOf.j0
   repeat' first
   | (with_reducible exact ih0 _ _ _ _ _ _ _ _ _ _ _ _)
   | (with_reducible exact ih1 _ _ _ _ _ _ _ _)
   | (with_reducible exact ih2 _ _ _)
   | (with_reducible exact impl_PlacementsOf.mono _ _ _ _ _)
   | (with_reducible exact laws_eqInt64S.mono _ _ _)
   | (with_reducible exact laws_eqSea.mono _ _ _ _ _ _ _)
   | (with_reducible exact laws_heldInt64S.mono _ _ _)
   | (with_reducible exact laws_markInt64S.mono _ _ _)
   | (with_reducible exact laws_markSea.mono _ _ _ _ _)
   | (with_reducible exact laws_toSea.mono _ _ _ _)
   | (with_reducible exact spec_PlacementsOf.mono _ _ _ _ _)
   | (with_reducible exact LeO.refl _)
   | (with_reducible exact LeO.none _)
   | (with_reducible refine LeO.ite ?_ ?_)
   | (with_reducible refine LeO.bind ?_ (fun _ => ?_))
   | exact ih0 _ _ _ _ _ _ _ _ _ _ _ _
   | exact ih1 _ _ _ _ _ _ _ _
   | exact ih2 _ _ _
   | exact impl_PlacementsOf.mono _ _ _ _ _
   | exact laws_eqInt64S.mono _ _ _
   | exact laws_eqSea.mono _ _ _ _ _ _ _
   | exact laws_heldInt64S.mono _ _ _
   | exact laws_markInt64S.mono _ _ _
   | exact laws_markSea.mono _ _ _ _ _
   | exact laws_toSea.mono _ _ _ _
   | exact spec_PlacementsOf.mono _ _ _ _ _
   | exact LeO.none _
   | refine LeO.ite ?_ ?_
   | refine LeO.bind ?_ (fun _ => ?_)
  ·intro y0 y1 y2 y3 y4 y5 y6 y7
   unfold laws_FnExactPlacementsOf.j1
   repeat' first
   | (with_reducible exact ih0 _ _ _ _ _ _ _ _ _ _ _ _)
   | (with_reducible exact ih1 _ _ _ _ _ _ _ _)
   | (with_reducible exact ih2 _ _ _)
   | (with_reducible exact impl_PlacementsOf.mono _ _ _ _ _)
   | (with_reducible exact laws_eqInt64S.mono _ _ _)
   | (with_reducible exact laws_eqSea.mono _ _ _ _ _ _ _)
   | (with_reducible exact laws_heldInt64S.mono _ _ _)
   | (with_reducible exact laws_markInt64S.mono _ _ _)
   | (with_reducible exact laws_markSea.mono _ _ _ _ _)
   | (with_reducible exact laws_toSea.mono _ _ _ _)
   | (with_reducible exact spec_PlacementsOf.mono _ _ _ _ _)
   | (with_reducible exact LeO.refl _)
   | (with_reducible exact LeO.none _)
   | (with_reducible refine LeO.ite ?_ ?_)
   | (with_reducible refine LeO.bind ?_ (fun _ => ?_))
   | exact ih0 _ _ _ _ _ _ _ _ _ _ _ _
   | exact ih1 _ _ _ _ _ _ _ _
   | exact ih2 _ _ _
   | exact impl_PlacementsOf.mono _ _ _ _ _
   | exact laws_eqInt64S.mono _ _ _
   | exact laws_eqSea.mono _ _ _ _ _ _ _
   | exact laws_heldInt64S.mono _ _ _
   | exact laws_markInt64S.mono _ _ _
   | exact laws_markSea.mono _ _ _ _ _
   | exact laws_toSea.mono _ _ _ _
   | exact spec_PlacementsOf.mono _ _ _ _ _
   | exact LeO.none _
   | refine LeO.ite ?_ ?_
   | refine LeO.bind ?_ (fun _ => ?_)
  ·intro y0 y1 y2
   unfold laws_FnExactPlacementsOf.j2
   repeat' first
   | (with_reducible exact ih0 _ _ _ _ _ _ _ _ _ _ _ _)
   | (with_reducible exact ih1 _ _ _ _ _ _ _ _)
   | (with_reducible exact ih2 _ _ _)
   | (with_reducible exact impl_PlacementsOf.mono _ _ _ _ _)
   | (with_reducible exact laws_eqInt64S.mono _ _ _)
   | (with_reducible exact laws_eqSea.mono _ _ _ _ _ _ _)
   | (with_reducible exact laws_heldInt64S.mono _ _ _)
   | (with_reducible exact laws_markInt64S.mono _ _ _)
   | (with_reducible exact laws_markSea.mono _ _ _ _ _)
   | (with_reducible exact laws_toSea.mono _ _ _ _)
   | (with_reducible exact spec_PlacementsOf.mono _ _ _ _ _)
   | (with_reducible exact LeO.refl _)
   | (with_reducible exact LeO.none _)
   | (with_reducible refine LeO.ite ?_ ?_)
   | (with_reducible refine LeO.bind ?_ (fun _ => ?_))
   | exact ih0 _ _ _ _ _ _ _ _ _ _ _ _
   | exact ih1 _ _ _ _ _ _ _ _
   | exact ih2 _ _ _
   | exact impl_PlacementsOf.mono _ _ _ _ _
   | exact laws_eqInt64S.mono _ _ _
   | exact laws_eqSea.mono _ _ _ _ _ _ _
   | exact laws_heldInt64S.mono _ _ _
   | exact laws_markInt64S.mono _ _ _
   | exact laws_markSea.mono _ _ _ _ _
   | exact laws_toSea.mono _ _ _ _
   | exact spec_PlacementsOf.mono _ _ _ _ _
   | exact LeO.none _
   | refine LeO.ite ?_ ?_
   | refine LeO.bind ?_ (fun _ => ?_)
theorem laws_FnExactPlacementsOf.mono : ∀ a0 a1 a2 a3 k, LeO (laws_FnExactPlacementsOf.f k a0 a1 a2 a3) (laws_FnExactPlacementsOf.f (k + 1) a0 a1 a2 a3) := by
 intro a0 a1 a2 a3 k
 obtain ⟨ih0, ih1, ih2⟩ := laws_FnExactPlacementsOf.mono_l k
 unfold laws_FnExactPlacementsOf.f
 repeat' first
   | (with_reducible exact ih0 _ _ _ _ _ _ _ _ _ _ _ _)
   | (with_reducible exact ih1 _ _ _ _ _ _ _ _)
   | (with_reducible exact ih2 _ _ _)
   | (with_reducible exact impl_PlacementsOf.mono _ _ _ _ _)
   | (with_reducible exact laws_eqInt64S.mono _ _ _)
   | (with_reducible exact laws_eqSea.mono _ _ _ _ _ _ _)
   | (with_reducible exact laws_heldInt64S.mono _ _ _)
   | (with_reducible exact laws_markInt64S.mono _ _ _)
   | (with_reducible exact laws_markSea.mono _ _ _ _ _)
   | (with_reducible exact laws_toSea.mono _ _ _ _)
   | (with_reducible exact spec_PlacementsOf.mono _ _ _ _ _)
   | (with_reducible exact LeO.refl _)
   | (with_reducible exact LeO.none _)
   | (with_reducible refine LeO.ite ?_ ?_)
   | (with_reducible refine LeO.bind ?_ (fun _ => ?_))
   | exact ih0 _ _ _ _ _ _ _ _ _ _ _ _
   | exact ih1 _ _ _ _ _ _ _ _
   | exact ih2 _ _ _
   | exact impl_PlacementsOf.mono _ _ _ _ _
   | exact laws_eqInt64S.mono _ _ _
   | exact laws_eqSea.mono _ _ _ _ _ _ _
   | exact laws_heldInt64S.mono _ _ _
   | exact laws_markInt64S.mono _ _ _
   | exact laws_markSea.mono _ _ _ _ _
   | exact laws_toSea.mono _ _ _ _
   | exact spec_PlacementsOf.mono _ _ _ _ _
   | exact LeO.none _
   | refine LeO.ite ?_ ?_
   | refine LeO.bind ?_ (fun _ => ?_)
set_option maxHeartbeats 8000000 in
set_option maxRecDepth 100000 in
theorem laws_FnExactPlacementsOf.calls (k : Nat) (a0_0 : Int) (a0_1 : Int) (A0_2 : Option Addr) (c0_2 : Nat) (l0_2 : List Int) (a1 : Int) (r : Bool) (w : World) (hr0_2 : Kd.C (Kd.int .i64) w A0_2 l0_2.length l0_2) (hc0_2 : l0_2.length ≤ c0_2) (h : laws_FnExactPlacementsOf.f k a0_0 a0_1 l0_2 a1 = some true) :
  Calls Try.prog 3 #[.agg #[.int .i64 a0_0, .int .i64 a0_1, .slice A0_2 l0_2.length c0_2], .int .i64 a1] w fun e w' => e = .returned (.bool true) ∧ Below w.heap.size w w' := by
 have hu24 := Try.underlying24
 have hu28 := Try.underlying28
 have HR0_2 := Aside0.mk hr0_2
 have HC0_2 := Aside0.mk hc0_2
 clear hr0_2 hc0_2
 have HB := Aside0.mk (Below.refl w.heap.size w)
 have H : ((laws_szSea.f a0_0 a0_1 l0_2 1048576).bind fun t349 => (if t349 < 0 then (some true) else ((laws_toSea.f k a0_0 a0_1 l0_2).bind fun bt350 => ((spec_PlacementsOf.f k bt350.1 bt350.2.1 bt350.2.2 a1).bind fun bt355 => ((laws_toSea.f k a0_0 a0_1 l0_2).bind fun bt359 => ((impl_PlacementsOf.f k bt359.1 bt359.2.1 bt359.2.2 a1).bind fun bt365 => ((laws_eqInt64S.f k bt365.1 bt355.1).bind fun t369 => (if t369 = true then (laws_FnExactPlacementsOf.j0 k a1 bt355.1 bt355.2 bt365.1 bt365.2 (bt365.2 != bt355.2) a0_0 a0_1 l0_2 bt359.1 bt359.2.1 bt359.2.2) else (laws_FnExactPlacementsOf.j0 k a1 bt355.1 bt355.2 bt365.1 bt365.2 true a0_0 a0_1 l0_2 bt359.1 bt359.2.1 bt359.2.2))))))))) = some true := h
 clear h
 replace H := Option.bind_eq_some_iff.mp H
 obtain ⟨t349, A30, H⟩ := H
 replace H : (if t349 < 0 then (some true) else ((laws_toSea.f k a0_0 a0_1 l0_2).bind fun bt350 => ((spec_PlacementsOf.f k bt350.1 bt350.2.1 bt350.2.2 a1).bind fun bt355 => ((laws_toSea.f k a0_0 a0_1 l0_2).bind fun bt359 => ((impl_PlacementsOf.f k bt359.1 bt359.2.1 bt359.2.2 a1).bind fun bt365 => ((laws_eqInt64S.f k bt365.1 bt355.1).bind fun t369 => (if t369 = true then (laws_FnExactPlacementsOf.j0 k a1 bt355.1 bt355.2 bt365.1 bt365.2 (bt365.2 != bt355.2) a0_0 a0_1 l0_2 bt359.1 bt359.2.1 bt359.2.2) else (laws_FnExactPlacementsOf.j0 k a1 bt355.1 bt355.2 bt365.1 bt365.2 true a0_0 a0_1 l0_2 bt359.1 bt359.2.1 bt359.2.2)))))))) = some true := H
 have A3 := Aside0.mk A30
 clear A30
 by_cases c4 : t349 < 0
 ·rw [if_pos c4] at H
  have c4b0 : decide (t349 < 0) = true := decide_eq_true c4
  clear c4
  clear H
  go_enter Try.func3, Try.ntmps3
  go_wp2_with (first | ((with_reducible refine gate_dst (N := 2) rfl ?_); refine box_event ?hg (N := 2) ?hd (cs := #[.int .i64 a0_0, .int .i64 a0_1, .slice A0_2 l0_2.length c0_2]) (t := 24) ?hr ?_; (case hd => rfl); (case hg => rfl); (case hr => first | (go_simp; done) | (go_simp; rfl)); intro gb348 hg w5 hbox hb; have n0_ := Aside0.mk (below_step (by repeat (first | (with_reducible first | exact HB.out | apply below_alloc | apply pw_below_drewN | apply below_drew1) | exact HB.out)) hb); have n1_ := Aside0.mk (hbox); have n2_ := Aside0.mk ((by rw [hg]; exact (below_size (by repeat (first | (with_reducible first | exact HB.out | apply below_alloc | apply pw_below_drewN | apply below_drew1) | exact HB.out))) : w.heap.size ≤ gb348)); have n3_ := Aside0.mk ((by rw [hg]; exact (below_size (by repeat (first | (with_reducible first | exact HB.out | apply below_alloc | apply pw_below_drewN | apply below_drew1) | exact HB.out))) : w.heap.size ≤ gb348)); clear HB; have HB := n0_; have BK348 := n1_; have GW348 := n2_; have GE348 := n3_; clear n0_ n1_ n2_ n3_; clear hb hbox hg; have hcz6_0 : w5.cell? ⟨gb348, 0, none⟩ = some (.int .i64 a0_0) := (blk_cell BK348.out 0).trans rfl; have hcz6_1 : w5.cell? ⟨gb348, 1, none⟩ = some (.int .i64 a0_1) := (blk_cell BK348.out 1).trans rfl; have hcz6_2 : w5.cell? ⟨gb348, 2, none⟩ = some (.slice A0_2 l0_2.length c0_2) := (blk_cell BK348.out 2).trans rfl; have hfz6_0 := blk_frozen BK348.out 0; have hfz6_1 := blk_frozen BK348.out 1; have hfz6_2 := blk_frozen BK348.out 2) | ((with_reducible refine gate_callee (f := 15) rfl ?_); refine goesL_ (some 18) rfl rfl Try.func15 (by kernel_rfl) rfl #[.agg #[.int .i64 a0_0, .int .i64 a0_1, .slice A0_2 l0_2.length c0_2], .int .i64 1048576] rfl (by (try simp only [List.map_toArray, List.map_cons, List.map_nil]); first | done | rfl | (simp only [List.length_drop, List.length_take]; rfl)) ?_; (with_reducible refine (laws_szSea.calls a0_0 a0_1 _ _ l0_2 1048576 t349 _ ?side1 ?side2 A3.out).mono ?_); (case side1 => repeat (first | exact (Kd.C_below HR0_2.out HB.out) | (with_reducible refine Kd.C_alloc ?_ _) | (with_reducible refine Kd.C_drewN ?_ _) | (with_reducible refine Kd.C_drew ?_))); (case side2 => exact HC0_2.out); rintro e w7 ⟨rfl, hb⟩; refine ⟨_, rfl, ?_⟩; have n0_ := Aside0.mk (blk_below (g := gb348) (o := .cells #[.int .i64 a0_0, .int .i64 a0_1, .slice A0_2 l0_2.length c0_2] 24 (0, 0)) (by (with_reducible repeat (first | refine blk_drewN ?_ _ | refine blk_drew ?_ | refine blk_alloc ?_ _)); exact BK348.out) hb); have n1_ := Aside0.mk (below_step (by repeat (first | (with_reducible first | exact HB.out | apply below_alloc | apply pw_below_drewN | apply below_drew1 | refine below_set ?_ GE348.out) | exact HB.out)) hb); clear BK348; clear HB; have BK348 := n0_; have HB := n1_; clear n0_ n1_; (try clear hb); (try clear hb2); (try clear hk); (try clear hi)))
  go_ret
  exact ⟨by first | rfl | (simp [errW_none, errW_some] <;> rfl) | (simp [*, errW_none, errW_some] <;> rfl), by repeat (first | (with_reducible first | exact HB.out | apply below_alloc | apply pw_below_drewN | apply below_drew1 | refine below_set ?_ GE348.out) | exact HB.out)⟩
 ·rw [if_neg c4] at H
  have c4b0 : decide (t349 < 0) = false := decide_eq_false c4
  clear c4
  replace H := Option.bind_eq_some_iff.mp H
  obtain ⟨⟨t350, t351, t352⟩, A80, H⟩ := H
  replace H : ((spec_PlacementsOf.f k t350 t351 t352 a1).bind fun bt355 => ((laws_toSea.f k a0_0 a0_1 l0_2).bind fun bt359 => ((impl_PlacementsOf.f k bt359.1 bt359.2.1 bt359.2.2 a1).bind fun bt365 => ((laws_eqInt64S.f k bt365.1 bt355.1).bind fun t369 => (if t369 = true then (laws_FnExactPlacementsOf.j0 k a1 bt355.1 bt355.2 bt365.1 bt365.2 (bt365.2 != bt355.2) a0_0 a0_1 l0_2 bt359.1 bt359.2.1 bt359.2.2) else (laws_FnExactPlacementsOf.j0 k a1 bt355.1 bt355.2 bt365.1 bt365.2 true a0_0 a0_1 l0_2 bt359.1 bt359.2.1 bt359.2.2)))))) = some true := H
  have A8 := Aside0.mk A80
  clear A80
  replace H := Option.bind_eq_some_iff.mp H
  obtain ⟨⟨t355, t358⟩, A90, H⟩ := H
  replace H : ((laws_toSea.f k a0_0 a0_1 l0_2).bind fun bt359 => ((impl_PlacementsOf.f k bt359.1 bt359.2.1 bt359.2.2 a1).bind fun bt365 => ((laws_eqInt64S.f k bt365.1 t355).bind fun t369 => (if t369 = true then (laws_FnExactPlacementsOf.j0 k a1 t355 t358 bt365.1 bt365.2 (bt365.2 != t358) a0_0 a0_1 l0_2 bt359.1 bt359.2.1 bt359.2.2) else (laws_FnExactPlacementsOf.j0 k a1 t355 t358 bt365.1 bt365.2 true a0_0 a0_1 l0_2 bt359.1 bt359.2.1 bt359.2.2))))) = some true := H
  have A9 := Aside0.mk A90
  clear A90
  replace H := Option.bind_eq_some_iff.mp H
  obtain ⟨⟨t359, t360, t361⟩, A100, H⟩ := H
  replace H : ((impl_PlacementsOf.f k t359 t360 t361 a1).bind fun bt365 => ((laws_eqInt64S.f k bt365.1 t355).bind fun t369 => (if t369 = true then (laws_FnExactPlacementsOf.j0 k a1 t355 t358 bt365.1 bt365.2 (bt365.2 != t358) a0_0 a0_1 l0_2 t359 t360 t361) else (laws_FnExactPlacementsOf.j0 k a1 t355 t358 bt365.1 bt365.2 true a0_0 a0_1 l0_2 t359 t360 t361)))) = some true := H
  have A10 := Aside0.mk A100
  clear A100
  replace H := Option.bind_eq_some_iff.mp H
  obtain ⟨⟨t365, t368⟩, A110, H⟩ := H
  replace H : ((laws_eqInt64S.f k t365 t355).bind fun t369 => (if t369 = true then (laws_FnExactPlacementsOf.j0 k a1 t355 t358 t365 t368 (t368 != t358) a0_0 a0_1 l0_2 t359 t360 t361) else (laws_FnExactPlacementsOf.j0 k a1 t355 t358 t365 t368 true a0_0 a0_1 l0_2 t359 t360 t361))) = some true := H
  have A11 := Aside0.mk A110
  clear A110
  have HC12 := Aside0.mk H
  clear H
  go_enter Try.func3, Try.ntmps3
  go_upto_region 8 with (first | ((with_reducible refine gate_dst (N := 2) rfl ?_); refine box_event ?hg (N := 2) ?hd (cs := #[.int .i64 a0_0, .int .i64 a0_1, .slice A0_2 l0_2.length c0_2]) (t := 24) ?hr ?_; (case hd => rfl); (case hg => rfl); (case hr => first | (go_simp; done) | (go_simp; rfl)); intro gb348 hg w13 hbox hb; have n0_ := Aside0.mk (below_step (by repeat (first | (with_reducible first | exact HB.out | apply below_alloc | apply pw_below_drewN | apply below_drew1) | exact HB.out)) hb); have n1_ := Aside0.mk (hbox); have n2_ := Aside0.mk ((by rw [hg]; exact (below_size (by repeat (first | (with_reducible first | exact HB.out | apply below_alloc | apply pw_below_drewN | apply below_drew1) | exact HB.out))) : w.heap.size ≤ gb348)); have n3_ := Aside0.mk ((by rw [hg]; exact (below_size (by repeat (first | (with_reducible first | exact HB.out | apply below_alloc | apply pw_below_drewN | apply below_drew1) | exact HB.out))) : w.heap.size ≤ gb348)); clear HB; have HB := n0_; have BK348 := n1_; have GW348 := n2_; have GE348 := n3_; clear n0_ n1_ n2_ n3_; clear hb hbox hg; have hcz14_0 : w13.cell? ⟨gb348, 0, none⟩ = some (.int .i64 a0_0) := (blk_cell BK348.out 0).trans rfl; have hcz14_1 : w13.cell? ⟨gb348, 1, none⟩ = some (.int .i64 a0_1) := (blk_cell BK348.out 1).trans rfl; have hcz14_2 : w13.cell? ⟨gb348, 2, none⟩ = some (.slice A0_2 l0_2.length c0_2) := (blk_cell BK348.out 2).trans rfl; have hfz14_0 := blk_frozen BK348.out 0; have hfz14_1 := blk_frozen BK348.out 1; have hfz14_2 := blk_frozen BK348.out 2) | ((with_reducible refine gate_callee (f := 15) rfl ?_); refine goesL_ (some 18) rfl rfl Try.func15 (by kernel_rfl) rfl #[.agg #[.int .i64 a0_0, .int .i64 a0_1, .slice A0_2 l0_2.length c0_2], .int .i64 1048576] rfl (by (try simp only [List.map_toArray, List.map_cons, List.map_nil]); first | done | rfl | (simp only [List.length_drop, List.length_take]; rfl)) ?_; (with_reducible refine (laws_szSea.calls a0_0 a0_1 _ _ l0_2 1048576 t349 _ ?side1 ?side2 A3.out).mono ?_); (case side1 => repeat (first | exact (Kd.C_below HR0_2.out HB.out) | (with_reducible refine Kd.C_alloc ?_ _) | (with_reducible refine Kd.C_drewN ?_ _) | (with_reducible refine Kd.C_drew ?_))); (case side2 => exact HC0_2.out); rintro e w15 ⟨rfl, hb⟩; refine ⟨_, rfl, ?_⟩; have n0_ := Aside0.mk (blk_below (g := gb348) (o := .cells #[.int .i64 a0_0, .int .i64 a0_1, .slice A0_2 l0_2.length c0_2] 24 (0, 0)) (by (with_reducible repeat (first | refine blk_drewN ?_ _ | refine blk_drew ?_ | refine blk_alloc ?_ _)); exact BK348.out) hb); have n1_ := Aside0.mk (below_step (by repeat (first | (with_reducible first | exact HB.out | apply below_alloc | apply pw_below_drewN | apply below_drew1 | refine below_set ?_ GE348.out) | exact HB.out)) hb); clear BK348; clear HB; have BK348 := n0_; have HB := n1_; clear n0_ n1_; (try clear hb); (try clear hb2); (try clear hk); (try clear hi); have hcz16_0 : w15.cell? ⟨gb348, 0, none⟩ = some (.int .i64 a0_0) := (blk_cell BK348.out 0).trans rfl; have hcz16_1 : w15.cell? ⟨gb348, 1, none⟩ = some (.int .i64 a0_1) := (blk_cell BK348.out 1).trans rfl; have hcz16_2 : w15.cell? ⟨gb348, 2, none⟩ = some (.slice A0_2 l0_2.length c0_2) := (blk_cell BK348.out 2).trans rfl; have hfz16_0 := blk_frozen BK348.out 0; have hfz16_1 := blk_frozen BK348.out 1; have hfz16_2 := blk_frozen BK348.out 2) | ((with_reducible refine gate_callee (f := 17) rfl ?_); refine goesL_ (some 23) rfl rfl Try.func17 (by kernel_rfl) rfl #[.agg #[.int .i64 a0_0, .int .i64 a0_1, .slice A0_2 l0_2.length c0_2]] rfl (by (try simp only [List.map_toArray, List.map_cons, List.map_nil]); first | done | rfl | (simp only [List.length_drop, List.length_take]; rfl)) ?_; (with_reducible refine (laws_toSea.calls k a0_0 a0_1 _ _ l0_2 t350 t351 t352 _ ?side1 ?side2 A8.out).mono ?_); (case side1 => repeat (first | exact (Kd.C_below HR0_2.out HB.out) | (with_reducible refine Kd.C_alloc ?_ _) | (with_reducible refine Kd.C_drewN ?_ _) | (with_reducible refine Kd.C_drew ?_))); (case side2 => exact HC0_2.out); rintro e w17 ⟨v353, rfl, ho0, hb⟩; refine ⟨_, rfl, ?_⟩; have n0_ := Aside0.mk (Kd.R_lower ho0 (below_size (by repeat (first | (with_reducible first | exact HB.out | apply below_alloc | apply pw_below_drewN | apply below_drew1 | refine below_set ?_ GE348.out) | exact HB.out)))); have n1_ := Aside0.mk (blk_below (g := gb348) (o := .cells #[.int .i64 a0_0, .int .i64 a0_1, .slice A0_2 l0_2.length c0_2] 24 (0, 0)) (by (with_reducible repeat (first | refine blk_drewN ?_ _ | refine blk_drew ?_ | refine blk_alloc ?_ _)); exact BK348.out) hb); have n2_ := Aside0.mk (below_step (by repeat (first | (with_reducible first | exact HB.out | apply below_alloc | apply pw_below_drewN | apply below_drew1 | refine below_set ?_ GE348.out) | exact HB.out)) hb); clear BK348; clear HB; have HO354 := n0_; have BK348 := n1_; have HB := n2_; clear n0_ n1_ n2_; (try clear hb); (try clear hb2); (try clear hk); (try clear hi); (try clear ho0); obtain ⟨Ao18, co18, eo18⟩ := Kd.R_slice HO354.out; subst eo18) | ((with_reducible refine gate_callee (f := 16) rfl ?_); refine goesL_ (some 25) rfl rfl Try.func16 (by kernel_rfl) rfl #[.agg #[.int .i64 t350, .int .i64 t351, .slice Ao18 t352.length co18], .int .i64 a1] rfl (by (try simp only [List.map_toArray, List.map_cons, List.map_nil]); first | done | rfl | (simp only [List.length_drop, List.length_take]; rfl)) ?_; (with_reducible refine (spec_PlacementsOf.calls k t350 t351 _ _ t352 a1 t355 t358 _ ?side1 ?side2 A9.out).mono ?_); (case side1 => repeat (first | exact (Kd.R_reads' HO354.out).2.2 | (with_reducible refine Kd.C_alloc ?_ _) | (with_reducible refine Kd.C_drewN ?_ _) | (with_reducible refine Kd.C_drew ?_))); (case side2 => exact (Kd.R_reads' HO354.out).2.1); rintro e w19 ⟨v356, rfl, ho0, hb⟩; refine ⟨_, rfl, ?_⟩; have n0_ := Aside0.mk (Kd.R_elder' (by (with_reducible repeat (first | apply Kd.R_alloc | apply Kd.R_drewN | apply Kd.R_drew)); exact HO354.out) (Kd.R_base ho0) hb); have n1_ := Aside0.mk (Kd.R_lower (Kd.R_new' ho0 (Kd.R_lt (by (with_reducible repeat (first | apply Kd.R_alloc | apply Kd.R_drewN | apply Kd.R_drew)); exact HO354.out))) (below_size (by repeat (first | (with_reducible first | exact HB.out | apply below_alloc | apply pw_below_drewN | apply below_drew1 | refine below_set ?_ GE348.out) | exact HB.out)))); have n2_ := Aside0.mk (blk_below (g := gb348) (o := .cells #[.int .i64 a0_0, .int .i64 a0_1, .slice A0_2 l0_2.length c0_2] 24 (0, 0)) (by (with_reducible repeat (first | refine blk_drewN ?_ _ | refine blk_drew ?_ | refine blk_alloc ?_ _)); exact BK348.out) hb); have n3_ := Aside0.mk (below_step (by repeat (first | (with_reducible first | exact HB.out | apply below_alloc | apply pw_below_drewN | apply below_drew1 | refine below_set ?_ GE348.out) | exact HB.out)) hb); clear HO354; clear BK348; clear HB; have HO354 := n0_; have HO357 := n1_; have BK348 := n2_; have HB := n3_; clear n0_ n1_ n2_ n3_; (try clear hb); (try clear hb2); (try clear hk); (try clear hi); (try clear ho0); have hcz20_0 : w19.cell? ⟨gb348, 0, none⟩ = some (.int .i64 a0_0) := (blk_cell BK348.out 0).trans rfl; have hcz20_1 : w19.cell? ⟨gb348, 1, none⟩ = some (.int .i64 a0_1) := (blk_cell BK348.out 1).trans rfl; have hcz20_2 : w19.cell? ⟨gb348, 2, none⟩ = some (.slice A0_2 l0_2.length c0_2) := (blk_cell BK348.out 2).trans rfl; have hfz20_0 := blk_frozen BK348.out 0; have hfz20_1 := blk_frozen BK348.out 1; have hfz20_2 := blk_frozen BK348.out 2) | ((with_reducible refine gate_callee (f := 17) rfl ?_); refine goesL_ (some 29) rfl rfl Try.func17 (by kernel_rfl) rfl #[.agg #[.int .i64 a0_0, .int .i64 a0_1, .slice A0_2 l0_2.length c0_2]] rfl (by (try simp only [List.map_toArray, List.map_cons, List.map_nil]); first | done | rfl | (simp only [List.length_drop, List.length_take]; rfl)) ?_; (with_reducible refine (laws_toSea.calls k a0_0 a0_1 _ _ l0_2 t359 t360 t361 _ ?side1 ?side2 A10.out).mono ?_); (case side1 => repeat (first | exact (Kd.C_below HR0_2.out HB.out) | (with_reducible refine Kd.C_alloc ?_ _) | (with_reducible refine Kd.C_drewN ?_ _) | (with_reducible refine Kd.C_drew ?_))); (case side2 => exact HC0_2.out); rintro e w21 ⟨v362, rfl, ho0, hb⟩; refine ⟨_, rfl, ?_⟩; have n0_ := Aside0.mk (Kd.R_elder' (by (with_reducible repeat (first | apply Kd.R_alloc | apply Kd.R_drewN | apply Kd.R_drew)); exact HO354.out) (Kd.R_base ho0) hb); have n1_ := Aside0.mk (Kd.R_elder' (by (with_reducible repeat (first | apply Kd.R_alloc | apply Kd.R_drewN | apply Kd.R_drew)); exact HO357.out) (Kd.R_base ho0) hb); have n2_ := Aside0.mk (Kd.R_lower (Kd.R_new' (Kd.R_new' ho0 (Kd.R_lt (by (with_reducible repeat (first | apply Kd.R_alloc | apply Kd.R_drewN | apply Kd.R_drew)); exact HO354.out))) (Kd.R_lt (by (with_reducible repeat (first | apply Kd.R_alloc | apply Kd.R_drewN | apply Kd.R_drew)); exact HO357.out))) (below_size (by repeat (first | (with_reducible first | exact HB.out | apply below_alloc | apply pw_below_drewN | apply below_drew1 | refine below_set ?_ GE348.out) | exact HB.out)))); have n3_ := Aside0.mk (blk_below (g := gb348) (o := .cells #[.int .i64 a0_0, .int .i64 a0_1, .slice A0_2 l0_2.length c0_2] 24 (0, 0)) (by (with_reducible repeat (first | refine blk_drewN ?_ _ | refine blk_drew ?_ | refine blk_alloc ?_ _)); exact BK348.out) hb); have n4_ := Aside0.mk (below_step (by repeat (first | (with_reducible first | exact HB.out | apply below_alloc | apply pw_below_drewN | apply below_drew1 | refine below_set ?_ GE348.out) | exact HB.out)) hb); clear HO354; clear HO357; clear BK348; clear HB; have HO354 := n0_; have HO357 := n1_; have HO363 := n2_; have BK348 := n3_; have HB := n4_; clear n0_ n1_ n2_ n3_ n4_; (try clear hb); (try clear hb2); (try clear hk); (try clear hi); (try clear ho0)) | ((with_reducible refine gate_dst (N := 8) rfl ?_); refine box_event ?hg (N := 8) ?hd (cs := #[.int .i64 0, .int .i64 0, .slice none 0 0]) (t := 28) ?hr ?_; (case hd => rfl); (case hg => rfl); (case hr => first | (go_simp; done) | (go_simp; rfl)); intro gb364 hg w22 hbox hb; have n0_ := Aside0.mk (Kd.R_below (by (with_reducible repeat (first | apply Kd.R_alloc | apply Kd.R_drewN | apply Kd.R_drew)); exact HO354.out) hb); have n1_ := Aside0.mk (Kd.R_below (by (with_reducible repeat (first | apply Kd.R_alloc | apply Kd.R_drewN | apply Kd.R_drew)); exact HO357.out) hb); have n2_ := Aside0.mk (Kd.R_below (by (with_reducible repeat (first | apply Kd.R_alloc | apply Kd.R_drewN | apply Kd.R_drew)); exact HO363.out) hb); have n3_ := Aside0.mk (blk_below (g := gb348) (o := .cells #[.int .i64 a0_0, .int .i64 a0_1, .slice A0_2 l0_2.length c0_2] 24 (0, 0)) (by (with_reducible repeat (first | refine blk_drewN ?_ _ | refine blk_drew ?_ | refine blk_alloc ?_ _)); exact BK348.out) hb); have n4_ := Aside0.mk (below_step (by repeat (first | (with_reducible first | exact HB.out | apply below_alloc | apply pw_below_drewN | apply below_drew1 | refine below_set ?_ GE348.out) | exact HB.out)) hb); have n5_ := Aside0.mk (hbox); have n6_ := Aside0.mk ((by rw [hg]; exact (below_size (by repeat (first | (with_reducible first | exact HB.out | apply below_alloc | apply pw_below_drewN | apply below_drew1 | refine below_set ?_ GE348.out) | exact HB.out))) : w.heap.size ≤ gb364)); have n7_ := Aside0.mk ((by rw [hg]; exact (below_size (by repeat (first | (with_reducible first | exact HB.out | apply below_alloc | apply pw_below_drewN | apply below_drew1 | refine below_set ?_ GE348.out) | exact HB.out))) : w.heap.size ≤ gb364)); have n8_ := Aside0.mk ((by rw [hg]; exact Nat.ne_of_lt (blk_lt (g := gb348) (o := .cells #[.int .i64 a0_0, .int .i64 a0_1, .slice A0_2 l0_2.length c0_2] 24 (0, 0)) (by (with_reducible repeat (first | refine blk_drewN ?_ _ | refine blk_drew ?_ | refine blk_alloc ?_ _)); exact BK348.out)) : gb348 ≠ gb364)); have n9_ := Aside0.mk ((by rw [hg]; exact Nat.ne_of_gt (blk_lt (g := gb348) (o := .cells #[.int .i64 a0_0, .int .i64 a0_1, .slice A0_2 l0_2.length c0_2] 24 (0, 0)) (by (with_reducible repeat (first | refine blk_drewN ?_ _ | refine blk_drew ?_ | refine blk_alloc ?_ _)); exact BK348.out)) : gb364 ≠ gb348)); clear HO354; clear HO357; clear HO363; clear BK348; clear HB; have HO354 := n0_; have HO357 := n1_; have HO363 := n2_; have BK348 := n3_; have HB := n4_; have BK364 := n5_; have GW364 := n6_; have GE364 := n7_; have NB348_364 := n8_; have NB364_348 := n9_; clear n0_ n1_ n2_ n3_ n4_ n5_ n6_ n7_ n8_ n9_; clear hb hbox hg; have hnb23 := NB364_348.out; have hnc23 := NB348_364.out; have hcz24_0 : w22.cell? ⟨gb364, 0, none⟩ = some (.int .i64 0) := (blk_cell BK364.out 0).trans rfl; have hcz24_1 : w22.cell? ⟨gb364, 1, none⟩ = some (.int .i64 0) := (blk_cell BK364.out 1).trans rfl; have hcz24_2 : w22.cell? ⟨gb364, 2, none⟩ = some (.slice none 0 0) := (blk_cell BK364.out 2).trans rfl; have hfz24_0 := blk_frozen BK364.out 0; have hfz24_1 := blk_frozen BK364.out 1; have hfz24_2 := blk_frozen BK364.out 2; obtain ⟨Ao25, co25, eo25⟩ := Kd.R_slice HO363.out; subst eo25) | ((with_reducible refine gate_callee (f := 18) rfl ?_); refine goesL_ (some 33) rfl rfl Try.func18 (by kernel_rfl) rfl #[.agg #[.int .i64 t359, .int .i64 t360, .slice Ao25 t361.length co25], .int .i64 a1] rfl (by (try simp only [List.map_toArray, List.map_cons, List.map_nil]); first | done | rfl | (simp only [List.length_drop, List.length_take]; rfl)) ?_; (with_reducible refine (impl_PlacementsOf.calls k t359 t360 _ _ t361 a1 t365 t368 _ ?side1 ?side2 A11.out).mono ?_); (case side1 => refine (Kd.R_reads' (e := 2) (base := w.heap.size) (ok := fun k_ => ((True ∧ some k_ ≠ (.slice Ao18 t352.length co18 : Value).ownBlock) ∧ some k_ ≠ (v356 : Value).ownBlock)) (n := t361.length) (c := co25) ?_).2.2; exact (by (with_reducible repeat (first | apply Kd.R_alloc | apply Kd.R_drewN | apply Kd.R_drew)); exact (Kd.R_mono (Kd.R_far (p := ⟨gb364, 2, none⟩) (Kd.R_far (p := ⟨gb364, 1, none⟩) (Kd.R_far (p := ⟨gb364, 0, none⟩) (Kd.R_types HO363.out BK364.out (by decide)) (fun _ hk => hk.2) (.int .i64 t359)) (fun _ hk => hk.2) (.int .i64 t360)) (fun _ hk => hk.2) (.slice Ao25 t361.length co25)) (fun _ h_ => h_.1)))); (case side2 => exact (Kd.R_reads' HO363.out).2.1); rintro e w26 ⟨v366, rfl, ho0, hb⟩; refine ⟨_, rfl, ?_⟩; have n0_ := Aside0.mk (Kd.R_elder' (by (with_reducible repeat (first | apply Kd.R_alloc | apply Kd.R_drewN | apply Kd.R_drew)); exact (Kd.R_mono (Kd.R_far (p := ⟨gb364, 2, none⟩) (Kd.R_far (p := ⟨gb364, 1, none⟩) (Kd.R_far (p := ⟨gb364, 0, none⟩) (Kd.R_types HO354.out BK364.out (by decide)) (fun _ hk => hk.2) (.int .i64 t359)) (fun _ hk => hk.2) (.int .i64 t360)) (fun _ hk => hk.2) (.slice Ao25 t361.length co25)) (fun _ h_ => h_.1))) (Kd.R_base ho0) hb); have n1_ := Aside0.mk (Kd.R_elder' (by (with_reducible repeat (first | apply Kd.R_alloc | apply Kd.R_drewN | apply Kd.R_drew)); exact (Kd.R_mono (Kd.R_far (p := ⟨gb364, 2, none⟩) (Kd.R_far (p := ⟨gb364, 1, none⟩) (Kd.R_far (p := ⟨gb364, 0, none⟩) (Kd.R_types HO357.out BK364.out (by decide)) (fun _ hk => hk.2) (.int .i64 t359)) (fun _ hk => hk.2) (.int .i64 t360)) (fun _ hk => hk.2) (.slice Ao25 t361.length co25)) (fun _ h_ => h_.1))) (Kd.R_base ho0) hb); have n2_ := Aside0.mk (Kd.R_elder' (by (with_reducible repeat (first | apply Kd.R_alloc | apply Kd.R_drewN | apply Kd.R_drew)); exact (Kd.R_mono (Kd.R_far (p := ⟨gb364, 2, none⟩) (Kd.R_far (p := ⟨gb364, 1, none⟩) (Kd.R_far (p := ⟨gb364, 0, none⟩) (Kd.R_types HO363.out BK364.out (by decide)) (fun _ hk => hk.2) (.int .i64 t359)) (fun _ hk => hk.2) (.int .i64 t360)) (fun _ hk => hk.2) (.slice Ao25 t361.length co25)) (fun _ h_ => h_.1))) (Kd.R_base ho0) hb); have n3_ := Aside0.mk (Kd.R_lower (Kd.R_new' (Kd.R_new' (Kd.R_new' ho0 (Kd.R_lt (by (with_reducible repeat (first | apply Kd.R_alloc | apply Kd.R_drewN | apply Kd.R_drew)); exact (Kd.R_mono (Kd.R_far (p := ⟨gb364, 2, none⟩) (Kd.R_far (p := ⟨gb364, 1, none⟩) (Kd.R_far (p := ⟨gb364, 0, none⟩) (Kd.R_types HO354.out BK364.out (by decide)) (fun _ hk => hk.2) (.int .i64 t359)) (fun _ hk => hk.2) (.int .i64 t360)) (fun _ hk => hk.2) (.slice Ao25 t361.length co25)) (fun _ h_ => h_.1))))) (Kd.R_lt (by (with_reducible repeat (first | apply Kd.R_alloc | apply Kd.R_drewN | apply Kd.R_drew)); exact (Kd.R_mono (Kd.R_far (p := ⟨gb364, 2, none⟩) (Kd.R_far (p := ⟨gb364, 1, none⟩) (Kd.R_far (p := ⟨gb364, 0, none⟩) (Kd.R_types HO357.out BK364.out (by decide)) (fun _ hk => hk.2) (.int .i64 t359)) (fun _ hk => hk.2) (.int .i64 t360)) (fun _ hk => hk.2) (.slice Ao25 t361.length co25)) (fun _ h_ => h_.1))))) (Kd.R_lt (by (with_reducible repeat (first | apply Kd.R_alloc | apply Kd.R_drewN | apply Kd.R_drew)); exact (Kd.R_mono (Kd.R_far (p := ⟨gb364, 2, none⟩) (Kd.R_far (p := ⟨gb364, 1, none⟩) (Kd.R_far (p := ⟨gb364, 0, none⟩) (Kd.R_types HO363.out BK364.out (by decide)) (fun _ hk => hk.2) (.int .i64 t359)) (fun _ hk => hk.2) (.int .i64 t360)) (fun _ hk => hk.2) (.slice Ao25 t361.length co25)) (fun _ h_ => h_.1))))) (below_size (by repeat (first | (with_reducible first | exact HB.out | apply below_alloc | apply pw_below_drewN | apply below_drew1 | refine below_set ?_ GE348.out | refine below_set ?_ GE364.out) | exact HB.out)))); have n4_ := Aside0.mk (blk_below (g := gb348) (o := .cells #[.int .i64 a0_0, .int .i64 a0_1, .slice A0_2 l0_2.length c0_2] 24 (0, 0)) (by (with_reducible repeat (first | refine blk_drewN ?_ _ | refine blk_drew ?_ | refine blk_alloc ?_ _)); refine blk_far ?_ NB348_364.out _; (with_reducible repeat (first | refine blk_drewN ?_ _ | refine blk_drew ?_ | refine blk_alloc ?_ _)); refine blk_far ?_ NB348_364.out _; (with_reducible repeat (first | refine blk_drewN ?_ _ | refine blk_drew ?_ | refine blk_alloc ?_ _)); refine blk_far ?_ NB348_364.out _; (with_reducible repeat (first | refine blk_drewN ?_ _ | refine blk_drew ?_ | refine blk_alloc ?_ _)); exact BK348.out) hb); have n5_ := Aside0.mk (blk_below (g := gb364) (o := .cells #[.int .i64 t359, .int .i64 t360, .slice Ao25 t361.length co25] 28 (0, 0)) (by (with_reducible repeat (first | refine blk_drewN ?_ _ | refine blk_drew ?_ | refine blk_alloc ?_ _)); refine blk_put (cs := #[.int .i64 t359, .int .i64 t360, .slice none 0 0]) ?_ 2 _ rfl; (with_reducible repeat (first | refine blk_drewN ?_ _ | refine blk_drew ?_ | refine blk_alloc ?_ _)); refine blk_put (cs := #[.int .i64 t359, .int .i64 0, .slice none 0 0]) ?_ 1 _ rfl; (with_reducible repeat (first | refine blk_drewN ?_ _ | refine blk_drew ?_ | refine blk_alloc ?_ _)); refine blk_put (cs := #[.int .i64 0, .int .i64 0, .slice none 0 0]) ?_ 0 _ rfl; (with_reducible repeat (first | refine blk_drewN ?_ _ | refine blk_drew ?_ | refine blk_alloc ?_ _)); exact BK364.out) hb); have n6_ := Aside0.mk (below_step (by repeat (first | (with_reducible first | exact HB.out | apply below_alloc | apply pw_below_drewN | apply below_drew1 | refine below_set ?_ GE348.out | refine below_set ?_ GE364.out) | exact HB.out)) hb); clear HO354; clear HO357; clear HO363; clear BK348; clear BK364; clear HB; have HO354 := n0_; have HO357 := n1_; have HO363 := n2_; have HO367 := n3_; have BK348 := n4_; have BK364 := n5_; have HB := n6_; clear n0_ n1_ n2_ n3_ n4_ n5_ n6_; (try clear hb); (try clear hb2); (try clear hk); (try clear hi); (try clear ho0)))
  (try simp only [Act.put, List.setIfInBounds_toArray, List.set_cons_zero, List.set_cons_succ])
  go_cut [44] (fun v44 wc => ∃ (kq : Nat) (x44_11 : Bool), v44 = .bool x44_11 ∧ Aside0 (laws_FnExactPlacementsOf.j0 kq a1 t355 t358 t365 t368 x44_11 a0_0 a0_1 l0_2 t359 t360 t361 = some true) ∧ Aside0 (kq ≤ k) ∧ Aside0 (Kd.R (Kd.int .i64) 2 wc w.heap.size (fun k_ => some k_ ≠ (v366 : Value).ownBlock ∧ some k_ ≠ ((.slice Ao25 t361.length co25) : Value).ownBlock) v356 t355) ∧ Aside0 (Kd.R (Kd.int .i64) 2 wc w.heap.size (fun k_ => some k_ ≠ (v356 : Value).ownBlock ∧ some k_ ≠ ((.slice Ao25 t361.length co25) : Value).ownBlock) v366 t365) ∧ Aside0 (Kd.R (Kd.int .i64) 2 wc w.heap.size (fun k_ => some k_ ≠ (v356 : Value).ownBlock ∧ some k_ ≠ (v366 : Value).ownBlock) (.slice Ao25 t361.length co25) t361) ∧ Aside0 (wc.heap[gb348]? = some (.cells #[.int .i64 a0_0, .int .i64 a0_1, (.slice A0_2 l0_2.length c0_2)] 24 (0, 0))) ∧ Aside0 (wc.heap[gb364]? = some (.cells #[.int .i64 t359, .int .i64 t360, (.slice Ao25 t361.length co25)] 28 (0, 0))) ∧ Aside0 (Below w.heap.size w wc))
  case first =>
   have H := HC12.out
   clear HC12
   replace H := Option.bind_eq_some_iff.mp H
   obtain ⟨t369, A270, H⟩ := H
   replace H : (if t369 = true then (laws_FnExactPlacementsOf.j0 k a1 t355 t358 t365 t368 (t368 != t358) a0_0 a0_1 l0_2 t359 t360 t361) else (laws_FnExactPlacementsOf.j0 k a1 t355 t358 t365 t368 true a0_0 a0_1 l0_2 t359 t360 t361)) = some true := H
   have A27 := Aside0.mk A270
   clear A270
   by_cases c28 : t369 = true
   ·subst c28
    have H1 : (laws_FnExactPlacementsOf.j0 k a1 t355 t358 t365 t368 (t368 != t358) a0_0 a0_1 l0_2 t359 t360 t361) = some true := by rw [if_pos rfl] at H; exact H
    clear H
    have H := H1
    clear H1
    have H' := Aside0.mk H
    clear H
    obtain ⟨Ao29, co29, eo29⟩ := Kd.R_slice HO367.out
    subst eo29
    obtain ⟨Ao30, co30, eo30⟩ := Kd.R_slice HO357.out
    subst eo30
    go_wp2_with (first | ((with_reducible refine gate_callee (f := 19) rfl ?_); refine goesL_ (some 38) rfl rfl Try.func19 (by kernel_rfl) rfl #[.slice Ao29 t365.length co29, .slice Ao30 t355.length co30] rfl (by (try simp only [List.map_toArray, List.map_cons, List.map_nil]); first | done | rfl | (simp only [List.length_drop, List.length_take]; rfl)) ?_; (with_reducible refine (laws_eqInt64S.calls k _ _ t365 _ _ t355 true _ ?side1 ?side2 ?side3 ?side4 A27.out).mono ?_); (case side1 => repeat (first | exact (Kd.R_reads' HO367.out).2.2 | (with_reducible refine Kd.C_alloc ?_ _) | (with_reducible refine Kd.C_drewN ?_ _) | (with_reducible refine Kd.C_drew ?_))); (case side2 => exact (Kd.R_reads' HO367.out).2.1); (case side3 => repeat (first | exact (Kd.R_reads' HO357.out).2.2 | (with_reducible refine Kd.C_alloc ?_ _) | (with_reducible refine Kd.C_drewN ?_ _) | (with_reducible refine Kd.C_drew ?_))); (case side4 => exact (Kd.R_reads' HO357.out).2.1); rintro e w' ⟨rfl, ⟨nd, rfl⟩⟩; refine ⟨_, rfl, ?_⟩))
    go_meet
    case rel => exact ⟨_, ((t368 != t358)), (by first | rfl | (simp; done) | (simp [*]; done)), H', ⟨by first | omega | exact Nat.le_refl _⟩, ⟨by (with_reducible repeat (first | apply Kd.R_alloc | apply Kd.R_drewN | apply Kd.R_drew)); exact Kd.R_mono HO357.out (fun _ hk => ⟨hk.2, hk.1.2⟩)⟩, ⟨by (with_reducible repeat (first | apply Kd.R_alloc | apply Kd.R_drewN | apply Kd.R_drew)); exact Kd.R_mono HO367.out (fun _ hk => ⟨hk.1.2, hk.2⟩)⟩, ⟨by (with_reducible repeat (first | apply Kd.R_alloc | apply Kd.R_drewN | apply Kd.R_drew)); exact Kd.R_mono HO363.out (fun _ hk => ⟨hk.1.2, hk.2⟩)⟩, ⟨by (with_reducible repeat (first | refine blk_drewN ?_ _ | refine blk_drew ?_ | refine blk_alloc ?_ _)); exact BK348.out⟩, ⟨by (with_reducible repeat (first | refine blk_drewN ?_ _ | refine blk_drew ?_ | refine blk_alloc ?_ _)); exact BK364.out⟩, ⟨by repeat (first | (with_reducible first | exact HB.out | apply below_alloc | apply pw_below_drewN | apply below_drew1 | refine below_set ?_ GE348.out | refine below_set ?_ GE364.out) | exact HB.out)⟩⟩
   ·replace c28 := Bool.eq_false_iff.mpr c28
    subst c28
    have H1 : (laws_FnExactPlacementsOf.j0 k a1 t355 t358 t365 t368 true a0_0 a0_1 l0_2 t359 t360 t361) = some true := by rw [if_neg (show ¬ (false = true) by decide)] at H; exact H
    clear H
    have H := H1
    clear H1
    have H' := Aside0.mk H
    clear H
    obtain ⟨Ao31, co31, eo31⟩ := Kd.R_slice HO367.out
    subst eo31
    obtain ⟨Ao32, co32, eo32⟩ := Kd.R_slice HO357.out
    subst eo32
    go_wp2_with (first | ((with_reducible refine gate_callee (f := 19) rfl ?_); refine goesL_ (some 38) rfl rfl Try.func19 (by kernel_rfl) rfl #[.slice Ao31 t365.length co31, .slice Ao32 t355.length co32] rfl (by (try simp only [List.map_toArray, List.map_cons, List.map_nil]); first | done | rfl | (simp only [List.length_drop, List.length_take]; rfl)) ?_; (with_reducible refine (laws_eqInt64S.calls k _ _ t365 _ _ t355 false _ ?side1 ?side2 ?side3 ?side4 A27.out).mono ?_); (case side1 => repeat (first | exact (Kd.R_reads' HO367.out).2.2 | (with_reducible refine Kd.C_alloc ?_ _) | (with_reducible refine Kd.C_drewN ?_ _) | (with_reducible refine Kd.C_drew ?_))); (case side2 => exact (Kd.R_reads' HO367.out).2.1); (case side3 => repeat (first | exact (Kd.R_reads' HO357.out).2.2 | (with_reducible refine Kd.C_alloc ?_ _) | (with_reducible refine Kd.C_drewN ?_ _) | (with_reducible refine Kd.C_drew ?_))); (case side4 => exact (Kd.R_reads' HO357.out).2.1); rintro e w' ⟨rfl, ⟨nd, rfl⟩⟩; refine ⟨_, rfl, ?_⟩))
    go_meet
    case rel => exact ⟨_, (true), (by first | rfl | (simp; done) | (simp [*]; done)), H', ⟨by first | omega | exact Nat.le_refl _⟩, ⟨by (with_reducible repeat (first | apply Kd.R_alloc | apply Kd.R_drewN | apply Kd.R_drew)); exact Kd.R_mono HO357.out (fun _ hk => ⟨hk.2, hk.1.2⟩)⟩, ⟨by (with_reducible repeat (first | apply Kd.R_alloc | apply Kd.R_drewN | apply Kd.R_drew)); exact Kd.R_mono HO367.out (fun _ hk => ⟨hk.1.2, hk.2⟩)⟩, ⟨by (with_reducible repeat (first | apply Kd.R_alloc | apply Kd.R_drewN | apply Kd.R_drew)); exact Kd.R_mono HO363.out (fun _ hk => ⟨hk.1.2, hk.2⟩)⟩, ⟨by (with_reducible repeat (first | refine blk_drewN ?_ _ | refine blk_drew ?_ | refine blk_alloc ?_ _)); exact BK348.out⟩, ⟨by (with_reducible repeat (first | refine blk_drewN ?_ _ | refine blk_drew ?_ | refine blk_alloc ?_ _)); exact BK364.out⟩, ⟨by repeat (first | (with_reducible first | exact HB.out | apply below_alloc | apply pw_below_drewN | apply below_drew1 | refine below_set ?_ GE348.out | refine below_set ?_ GE364.out) | exact HB.out)⟩⟩
  case rest =>
   clear HC12
   try clear c1
   try clear c2
   try clear p2
   try clear c3
   try clear c4
   try clear c4b0
   try clear c15
   try clear c16
   try clear c17
   try clear c18
   try clear c19
   try clear c23
   try clear c28
   try clear hcz14_0
   try clear hcz14_1
   try clear hcz14_2
   try clear hcz16_0
   try clear hcz16_1
   try clear hcz16_2
   try clear hcz20_0
   try clear hcz20_1
   try clear hcz20_2
   try clear hcz24_0
   try clear hcz24_1
   try clear hcz24_2
   try clear hcz6_0
   try clear hcz6_1
   try clear hcz6_2
   try clear hfz14_0
   try clear hfz14_1
   try clear hfz14_2
   try clear hfz16_0
   try clear hfz16_1
   try clear hfz16_2
   try clear hfz20_0
   try clear hfz20_1
   try clear hfz20_2
   try clear hfz24_0
   try clear hfz24_1
   try clear hfz24_2
   try clear hfz6_0
   try clear hfz6_1
   try clear hfz6_2
   obtain ⟨kq, x44_11, rfl, HA, HJ11, HO_6, HO_9, HO_365002, BK348, BK364, HB⟩ := hcut
   cases kq with
   | zero => exact absurd HA.out (by simp [laws_FnExactPlacementsOf.j0])
   | succ kj11 =>
    have H := HA.out
    clear HA
    simp only [laws_FnExactPlacementsOf.j0] at H
    by_cases c33 : x44_11 = true
    ·subst c33
     have H1 : (some false) = some true := by rw [if_pos rfl] at H; exact H
     clear H
     have H := H1
     clear H1
     exact absurd H (by simp)
    ·replace c33 := Bool.eq_false_iff.mpr c33
     subst c33
     have H1 : ((laws_toSea.f kj11 a0_0 a0_1 l0_2).bind fun bt370 => ((laws_eqSea.f kj11 t359 t360 t361 bt370.1 bt370.2.1 bt370.2.2).bind fun t375 => (if t375 = true then ((laws_markSea.f kj11 t359 t360 t361 1).bind fun bt376 => (if bt376.1 < 0 then (laws_FnExactPlacementsOf.j1 kj11 a1 t355 t358 t365 true a0_0 a0_1 l0_2) else ((laws_eqInt64S.f kj11 t365 t355).bind fun t378 => (if t378 = true then (laws_FnExactPlacementsOf.j1 kj11 a1 t355 t358 t365 (t368 != t358) a0_0 a0_1 l0_2) else (laws_FnExactPlacementsOf.j1 kj11 a1 t355 t358 t365 true a0_0 a0_1 l0_2))))) else (some false)))) = some true := by rw [if_neg (show ¬ (false = true) by decide)] at H; exact H
     clear H
     have H := H1
     clear H1
     replace H := Option.bind_eq_some_iff.mp H
     obtain ⟨⟨t370, t371, t372⟩, A340, H⟩ := H
     replace H : ((laws_eqSea.f kj11 t359 t360 t361 t370 t371 t372).bind fun t375 => (if t375 = true then ((laws_markSea.f kj11 t359 t360 t361 1).bind fun bt376 => (if bt376.1 < 0 then (laws_FnExactPlacementsOf.j1 kj11 a1 t355 t358 t365 true a0_0 a0_1 l0_2) else ((laws_eqInt64S.f kj11 t365 t355).bind fun t378 => (if t378 = true then (laws_FnExactPlacementsOf.j1 kj11 a1 t355 t358 t365 (t368 != t358) a0_0 a0_1 l0_2) else (laws_FnExactPlacementsOf.j1 kj11 a1 t355 t358 t365 true a0_0 a0_1 l0_2))))) else (some false))) = some true := H
     have A34 := Aside0.mk A340
     clear A340
     replace H := Option.bind_eq_some_iff.mp H
     obtain ⟨t375, A350, H⟩ := H
     replace H : (if t375 = true then ((laws_markSea.f kj11 t359 t360 t361 1).bind fun bt376 => (if bt376.1 < 0 then (laws_FnExactPlacementsOf.j1 kj11 a1 t355 t358 t365 true a0_0 a0_1 l0_2) else ((laws_eqInt64S.f kj11 t365 t355).bind fun t378 => (if t378 = true then (laws_FnExactPlacementsOf.j1 kj11 a1 t355 t358 t365 (t368 != t358) a0_0 a0_1 l0_2) else (laws_FnExactPlacementsOf.j1 kj11 a1 t355 t358 t365 true a0_0 a0_1 l0_2))))) else (some false)) = some true := H
     have A35 := Aside0.mk A350
     clear A350
     by_cases c36 : t375 = true
     ·subst c36
      have H1 : ((laws_markSea.f kj11 t359 t360 t361 1).bind fun bt376 => (if bt376.1 < 0 then (laws_FnExactPlacementsOf.j1 kj11 a1 t355 t358 t365 true a0_0 a0_1 l0_2) else ((laws_eqInt64S.f kj11 t365 t355).bind fun t378 => (if t378 = true then (laws_FnExactPlacementsOf.j1 kj11 a1 t355 t358 t365 (t368 != t358) a0_0 a0_1 l0_2) else (laws_FnExactPlacementsOf.j1 kj11 a1 t355 t358 t365 true a0_0 a0_1 l0_2))))) = some true := by rw [if_pos rfl] at H; exact H
      clear H
      have H := H1
      clear H1
      replace H := Option.bind_eq_some_iff.mp H
      obtain ⟨⟨t376, t377⟩, A370, H⟩ := H
      replace H : (if t376 < 0 then (laws_FnExactPlacementsOf.j1 kj11 a1 t355 t358 t365 true a0_0 a0_1 l0_2) else ((laws_eqInt64S.f kj11 t365 t355).bind fun t378 => (if t378 = true then (laws_FnExactPlacementsOf.j1 kj11 a1 t355 t358 t365 (t368 != t358) a0_0 a0_1 l0_2) else (laws_FnExactPlacementsOf.j1 kj11 a1 t355 t358 t365 true a0_0 a0_1 l0_2)))) = some true := H
      have A37 := Aside0.mk A370
      clear A370
      have HC38 := Aside0.mk H
      clear H
      try go_wp2
      have n0_ := Aside0.mk (Kd.R_drew HO_6.out)
      have n1_ := Aside0.mk (Kd.R_drew HO_9.out)
      have n2_ := Aside0.mk (Kd.R_drew HO_365002.out)
      have n3_ := Aside0.mk (blk_drew BK348.out)
      have n4_ := Aside0.mk (blk_drew BK364.out)
      have n5_ := Aside0.mk (below_drew1 HB.out)
      clear HO_6
      clear HO_9
      clear HO_365002
      clear BK348
      clear BK364
      clear HB
      have HO_6 := n0_
      have HO_9 := n1_
      have HO_365002 := n2_
      have BK348 := n3_
      have BK364 := n4_
      have HB := n5_
      clear n0_ n1_ n2_ n3_ n4_ n5_
      refine start_ (n := 5) (S := fun w' => w'.cell? ⟨gb364, 0, none⟩ = some (.int .i64 t359) ∧ w'.cell? ⟨gb364, 1, none⟩ = some (.int .i64 t360) ∧ w'.cell? ⟨gb364, 2, none⟩ = some (.slice Ao25 t361.length co25) ∧ w'.cell? ⟨gb348, 0, none⟩ = some (.int .i64 a0_0) ∧ w'.cell? ⟨gb348, 1, none⟩ = some (.int .i64 a0_1) ∧ w'.cell? ⟨gb348, 2, none⟩ = some (.slice A0_2 l0_2.length c0_2)) (ds := []) #[false, false, false, false, false] (by kernel_rfl) rfl rfl ⟨(blk_cell BK364.out 0).trans rfl, (blk_cell BK364.out 1).trans rfl, (blk_cell BK364.out 2).trans rfl, (blk_cell BK348.out 0).trans rfl, (blk_cell BK348.out 1).trans rfl, (blk_cell BK348.out 2).trans rfl⟩ (fun hHeld => ?_)
      generalize wc.drew = w39 at HO_6 HO_9 HO_365002 BK348 BK364 HB hHeld ⊢
      refine take_ (i := 0) (N := some 45) (v := ?_) (a' := ?_) #[true, false, false, false, false] rfl rfl (by kernel_rfl) (fun _ _ _ h => h) (Or.inl ⟨by rfl, ?_⟩) hHeld ?_ ?_
      rotate_left
      ·rintro w' ⟨s0, s1, s2, s3, s4, s5⟩
       go_simp
       with_reducible rfl
      rotate_left
      ·simp only [Act.put, List.setIfInBounds_toArray, List.set_cons_zero, List.set_cons_succ, i64_w, i32_w]
       rfl
      refine take_ (i := 1) (N := some 46) (v := ?_) (a' := ?_) #[true, true, false, false, false] rfl rfl (by kernel_rfl) (fun _ _ _ h => h) (Or.inl ⟨by rfl, ?_⟩) hHeld ?_ ?_
      rotate_left
      ·rintro w' ⟨s0, s1, s2, s3, s4, s5⟩
       go_simp
       with_reducible rfl
      rotate_left
      ·simp only [Act.put, List.setIfInBounds_toArray, List.set_cons_zero, List.set_cons_succ, i64_w, i32_w]
       rfl
      refine one_ (i := 2) (N := some 47) #[true, true, true, false, false] rfl rfl (by kernel_rfl) (by decide) (fun K hK => ?_)
      refine goes_ Try.func17 (by kernel_rfl) rfl #[.agg #[.int .i64 a0_0, .int .i64 a0_1, .slice A0_2 l0_2.length c0_2]] (by rfl) rfl rfl (by (try simp only [List.map_toArray, List.map_cons, List.map_nil]); first | done | rfl | (simp only [List.length_drop, List.length_take]; rfl)) ?_
      with_reducible refine (laws_toSea.calls kj11 a0_0 a0_1 _ _ l0_2 t370 t371 t372 _ ?side1 ?side2 A34.out).mono ?_
      (case side1 => repeat (first | exact (Kd.C_below HR0_2.out HB.out) | (with_reducible refine Kd.C_alloc ?_ _) | (with_reducible refine Kd.C_drewN ?_ _) | (with_reducible refine Kd.C_drew ?_)))
      (case side2 => exact HC0_2.out)
      rintro e w40 ⟨v373, rfl, ho0, hb⟩
      refine ⟨_, rfl, ?_⟩
      have n0_ := Aside0.mk (Kd.R_elder' (by (with_reducible repeat (first | apply Kd.R_alloc | apply Kd.R_drewN | apply Kd.R_drew)); exact HO_6.out) (Kd.R_base ho0) hb)
      have n1_ := Aside0.mk (Kd.R_elder' (by (with_reducible repeat (first | apply Kd.R_alloc | apply Kd.R_drewN | apply Kd.R_drew)); exact HO_9.out) (Kd.R_base ho0) hb)
      have n2_ := Aside0.mk (Kd.R_elder' (by (with_reducible repeat (first | apply Kd.R_alloc | apply Kd.R_drewN | apply Kd.R_drew)); exact HO_365002.out) (Kd.R_base ho0) hb)
      have n3_ := Aside0.mk (Kd.R_lower (Kd.R_new' (Kd.R_new' (Kd.R_new' ho0 (Kd.R_lt (by (with_reducible repeat (first | apply Kd.R_alloc | apply Kd.R_drewN | apply Kd.R_drew)); exact HO_6.out))) (Kd.R_lt (by (with_reducible repeat (first | apply Kd.R_alloc | apply Kd.R_drewN | apply Kd.R_drew)); exact HO_9.out))) (Kd.R_lt (by (with_reducible repeat (first | apply Kd.R_alloc | apply Kd.R_drewN | apply Kd.R_drew)); exact HO_365002.out))) (below_size (by repeat (first | (with_reducible first | exact HB.out | apply below_alloc | apply pw_below_drewN | apply below_drew1 | refine below_set ?_ GE348.out | refine below_set ?_ GE364.out) | exact HB.out))))
      have n4_ := Aside0.mk (blk_below (g := gb348) (o := .cells #[.int .i64 a0_0, .int .i64 a0_1, .slice A0_2 l0_2.length c0_2] 24 (0, 0)) (by (with_reducible repeat (first | refine blk_drewN ?_ _ | refine blk_drew ?_ | refine blk_alloc ?_ _)); exact BK348.out) hb)
      have n5_ := Aside0.mk (blk_below (g := gb364) (o := .cells #[.int .i64 t359, .int .i64 t360, .slice Ao25 t361.length co25] 28 (0, 0)) (by (with_reducible repeat (first | refine blk_drewN ?_ _ | refine blk_drew ?_ | refine blk_alloc ?_ _)); exact BK364.out) hb)
      have n6_ := Aside0.mk (below_step (by repeat (first | (with_reducible first | exact HB.out | apply below_alloc | apply pw_below_drewN | apply below_drew1 | refine below_set ?_ GE348.out | refine below_set ?_ GE364.out) | exact HB.out)) hb)
      clear HO_6
      clear HO_9
      clear HO_365002
      clear BK348
      clear BK364
      clear HB
      have HO_6 := n0_
      have HO_9 := n1_
      have HO_365002 := n2_
      have HO374 := n3_
      have BK348 := n4_
      have BK364 := n5_
      have HB := n6_
      clear n0_ n1_ n2_ n3_ n4_ n5_ n6_
      (try clear hb)
      (try clear hb2)
      (try clear hk)
      (try clear hi)
      (try clear ho0)
      obtain ⟨Ao41, co41, eo41⟩ := Kd.R_slice HO374.out
      (first | subst eo41 | (injection eo41 with f1_ f2_ f3_; have f4_ := f1_.symm; have f5_ := f3_.symm; clear f1_ f2_ f3_; subst f4_; subst f5_))
      refine hK.out _ _ ⟨(blk_cell BK364.out 0).trans rfl, (blk_cell BK364.out 1).trans rfl, (blk_cell BK364.out 2).trans rfl, (blk_cell BK348.out 0).trans rfl, (blk_cell BK348.out 1).trans rfl, (blk_cell BK348.out 2).trans rfl⟩ (fun hHeld => ?_)
      clear hK K
      refine norm_ (a' := ?_) ?_ ?_
      rotate_left
      ·show Act.put _ (some 47) _ = _
       simp only [Act.put, List.setIfInBounds_toArray, List.set_cons_zero, List.set_cons_succ, i64_w, i32_w]
       rfl
      refine one_ (i := 3) (N := some 48) #[true, true, true, true, false] rfl rfl (by kernel_rfl) (by decide) (fun K hK => ?_)
      refine goes_ Try.func20 (by kernel_rfl) rfl #[.agg #[.int .i64 t359, .int .i64 t360, .slice Ao25 t361.length co25], .agg #[.int .i64 t370, .int .i64 t371, .slice Ao41 t372.length co41]] (by rfl) rfl rfl (by (try simp only [List.map_toArray, List.map_cons, List.map_nil]); first | done | rfl | (simp only [List.length_drop, List.length_take]; rfl)) ?_
      with_reducible refine (laws_eqSea.calls kj11 t359 t360 _ _ t361 t370 t371 _ _ t372 true _ ?side1 ?side2 ?side3 ?side4 A35.out).mono ?_
      (case side1 => repeat (first | exact (Kd.R_reads' HO_365002.out).2.2 | (with_reducible refine Kd.C_alloc ?_ _) | (with_reducible refine Kd.C_drewN ?_ _) | (with_reducible refine Kd.C_drew ?_)))
      (case side2 => exact (Kd.R_reads' HO_365002.out).2.1)
      (case side3 => repeat (first | exact (Kd.R_reads' HO374.out).2.2 | (with_reducible refine Kd.C_alloc ?_ _) | (with_reducible refine Kd.C_drewN ?_ _) | (with_reducible refine Kd.C_drew ?_)))
      (case side4 => exact (Kd.R_reads' HO374.out).2.1)
      rintro e w42 ⟨rfl, hb⟩
      refine ⟨_, rfl, ?_⟩
      have n0_ := Aside0.mk (Kd.R_below (by (with_reducible repeat (first | apply Kd.R_alloc | apply Kd.R_drewN | apply Kd.R_drew)); exact HO_6.out) hb)
      have n1_ := Aside0.mk (Kd.R_below (by (with_reducible repeat (first | apply Kd.R_alloc | apply Kd.R_drewN | apply Kd.R_drew)); exact HO_9.out) hb)
      have n2_ := Aside0.mk (Kd.R_below (by (with_reducible repeat (first | apply Kd.R_alloc | apply Kd.R_drewN | apply Kd.R_drew)); exact HO_365002.out) hb)
      have n3_ := Aside0.mk (Kd.R_below (by (with_reducible repeat (first | apply Kd.R_alloc | apply Kd.R_drewN | apply Kd.R_drew)); exact HO374.out) hb)
      have n4_ := Aside0.mk (blk_below (g := gb348) (o := .cells #[.int .i64 a0_0, .int .i64 a0_1, .slice A0_2 l0_2.length c0_2] 24 (0, 0)) (by (with_reducible repeat (first | refine blk_drewN ?_ _ | refine blk_drew ?_ | refine blk_alloc ?_ _)); exact BK348.out) hb)
      have n5_ := Aside0.mk (blk_below (g := gb364) (o := .cells #[.int .i64 t359, .int .i64 t360, .slice Ao25 t361.length co25] 28 (0, 0)) (by (with_reducible repeat (first | refine blk_drewN ?_ _ | refine blk_drew ?_ | refine blk_alloc ?_ _)); exact BK364.out) hb)
      have n6_ := Aside0.mk (below_step (by repeat (first | (with_reducible first | exact HB.out | apply below_alloc | apply pw_below_drewN | apply below_drew1 | refine below_set ?_ GE348.out | refine below_set ?_ GE364.out) | exact HB.out)) hb)
      clear HO_6
      clear HO_9
      clear HO_365002
      clear HO374
      clear BK348
      clear BK364
      clear HB
      have HO_6 := n0_
      have HO_9 := n1_
      have HO_365002 := n2_
      have HO374 := n3_
      have BK348 := n4_
      have BK364 := n5_
      have HB := n6_
      clear n0_ n1_ n2_ n3_ n4_ n5_ n6_
      (try clear hb)
      (try clear hb2)
      (try clear hk)
      (try clear hi)
      refine hK.out _ _ ⟨(blk_cell BK364.out 0).trans rfl, (blk_cell BK364.out 1).trans rfl, (blk_cell BK364.out 2).trans rfl, (blk_cell BK348.out 0).trans rfl, (blk_cell BK348.out 1).trans rfl, (blk_cell BK348.out 2).trans rfl⟩ (fun hHeld => ?_)
      clear hK K
      refine norm_ (a' := ?_) ?_ ?_
      rotate_left
      ·show Act.put _ (some 48) _ = _
       simp only [Act.put, List.setIfInBounds_toArray, List.set_cons_zero, List.set_cons_succ, i64_w, i32_w]
       rfl
      refine pure_ (i := 4) (N := some 49) (v := ?_) (a' := ?_) #[true, true, true, true, true] rfl rfl (by kernel_rfl) (fun _ _ _ h => h) (Or.inl ⟨by rfl, ?_⟩) ?_ ?_
      rotate_left
      ·intro w'
       go_simp
       with_reducible rfl
      rotate_left
      ·simp only [Act.put, List.setIfInBounds_toArray, List.set_cons_zero, List.set_cons_succ, i64_w, i32_w]
       rfl
      refine done_ (by kernel_rfl) ?_
      have hnb43 := NB364_348.out
      have hnc43 := NB348_364.out
      have hcz44_0 : w42.cell? ⟨gb364, 0, none⟩ = some (.int .i64 t359) := (blk_cell BK364.out 0).trans rfl
      have hcz44_1 : w42.cell? ⟨gb364, 1, none⟩ = some (.int .i64 t360) := (blk_cell BK364.out 1).trans rfl
      have hcz44_2 : w42.cell? ⟨gb364, 2, none⟩ = some (.slice Ao25 t361.length co25) := (blk_cell BK364.out 2).trans rfl
      have hfz44_0 := blk_frozen BK364.out 0
      have hfz44_1 := blk_frozen BK364.out 1
      have hfz44_2 := blk_frozen BK364.out 2
      go_upto_region 14 with (first | ((with_reducible refine gate_callee (f := 21) rfl ?_); refine goesL_ (some 52) rfl rfl Try.func21 (by kernel_rfl) rfl #[.agg #[.int .i64 t359, .int .i64 t360, .slice Ao25 t361.length co25], .int .i64 1] rfl (by (try simp only [List.map_toArray, List.map_cons, List.map_nil]); first | done | rfl | (simp only [List.length_drop, List.length_take]; rfl)) ?_; (with_reducible refine (laws_markSea.calls kj11 t359 t360 (fun k_ => some k_ = (.slice Ao25 t361.length co25 : Value).ownBlock) (.slice Ao25 t361.length co25) t361 1 t376 t377 w _ ?side1 ?side2 A37.out).mono ?_); (case side1 => repeat (first | (with_reducible first | exact HB.out | apply below_alloc | apply pw_below_drewN | apply below_drew1 | refine below_set ?_ GE348.out | refine below_set ?_ GE364.out) | exact HB.out)); (case side2 => exact Kd.R_tight rfl HO_365002.out); rintro e w45 ⟨rfl, hy0, hb, hkp⟩; refine ⟨_, rfl, ?_⟩; have n0_ := Aside0.mk (Kd.R_mono (ok' := fun k_ => some k_ ≠ (v366 : Value).ownBlock ∧ some k_ ≠ (.slice Ao25 t361.length co25 : Value).ownBlock ∧ some k_ ≠ (.slice Ao41 t372.length co41 : Value).ownBlock) (Kd.R_keptB (HO_6.out) hkp (fun k_ hk_ hs_ => (hk_.1.2) hs_)) (fun k_ hk_ => ⟨hk_.1.1.1, hk_.1.1.2, hk_.1.2⟩)); have n1_ := Aside0.mk (Kd.R_mono (ok' := fun k_ => some k_ ≠ (v356 : Value).ownBlock ∧ some k_ ≠ (.slice Ao25 t361.length co25 : Value).ownBlock ∧ some k_ ≠ (.slice Ao41 t372.length co41 : Value).ownBlock) (Kd.R_keptB (HO_9.out) hkp (fun k_ hk_ hs_ => (hk_.1.2) hs_)) (fun k_ hk_ => ⟨hk_.1.1.1, hk_.1.1.2, hk_.1.2⟩)); have n2_ := Aside0.mk (Kd.R_reok rfl hy0 (fun k_ e_ => HO_365002.out.1 k_ e_)); have n3_ := Aside0.mk (blk_kept (by (with_reducible repeat (first | refine blk_drewN ?_ _ | refine blk_drew ?_ | refine blk_alloc ?_ _)); exact BK348.out) hkp (fun hs_ => (fun e_ => (Kd.R_ne HO_365002.out BK348.out (by decide)) e_) hs_)); have n4_ := Aside0.mk (blk_kept (by (with_reducible repeat (first | refine blk_drewN ?_ _ | refine blk_drew ?_ | refine blk_alloc ?_ _)); exact BK364.out) hkp (fun hs_ => (fun e_ => (Kd.R_ne HO_365002.out BK364.out (by decide)) e_) hs_)); have n5_ := Aside0.mk (Kd.R_mono (ok' := fun k_ => some k_ ≠ (v356 : Value).ownBlock ∧ some k_ ≠ (v366 : Value).ownBlock ∧ some k_ ≠ (.slice Ao25 t361.length co25 : Value).ownBlock) (Kd.R_keptB (HO374.out) hkp (fun k_ hk_ hs_ => (hk_.2) hs_)) (fun k_ hk_ => ⟨hk_.1.1.1.2, hk_.1.1.2, hk_.1.2⟩)); have n6_ := Aside0.mk (hb); clear HO_6; clear HO_9; clear HO_365002; clear BK348; clear BK364; clear HO374; clear HB; have HO_6 := n0_; have HO_9 := n1_; have HO_365002 := n2_; have BK348 := n3_; have BK364 := n4_; have HO374 := n5_; have HB := n6_; clear n0_ n1_ n2_ n3_ n4_ n5_ n6_; (try clear hb); (try clear hkp); (try clear hy0)))
      (try simp only [Act.put, List.setIfInBounds_toArray, List.set_cons_zero, List.set_cons_succ])
      go_cut [65] (fun v65 wc => ∃ (kq : Nat) (x65_37 : Bool), v65 = .bool x65_37 ∧ Aside0 (laws_FnExactPlacementsOf.j1 kq a1 t355 t358 t365 x65_37 a0_0 a0_1 l0_2 = some true) ∧ Aside0 (kq ≤ kj11) ∧ Aside0 (Kd.R (Kd.int .i64) 2 wc w.heap.size (fun k_ => some k_ ≠ (v366 : Value).ownBlock ∧ some k_ ≠ ((.slice Ao25 t361.length co25) : Value).ownBlock) v356 t355) ∧ Aside0 (Kd.R (Kd.int .i64) 2 wc w.heap.size (fun k_ => some k_ ≠ (v356 : Value).ownBlock ∧ some k_ ≠ ((.slice Ao25 t361.length co25) : Value).ownBlock) v366 t365) ∧ Aside0 (Kd.R (Kd.int .i64) 2 wc w.heap.size (fun k_ => some k_ ≠ (v356 : Value).ownBlock ∧ some k_ ≠ (v366 : Value).ownBlock) (.slice Ao25 t361.length co25) t377) ∧ Aside0 (wc.heap[gb348]? = some (.cells #[.int .i64 a0_0, .int .i64 a0_1, (.slice A0_2 l0_2.length c0_2)] 24 (0, 0))) ∧ Aside0 (wc.heap[gb364]? = some (.cells #[.int .i64 t359, .int .i64 t360, (.slice Ao25 t361.length co25)] 28 (0, 0))) ∧ Aside0 (Below w.heap.size w wc))
      case first =>
       have H := HC38.out
       clear HC38
       by_cases c46 : t376 < 0
       ·rw [if_pos c46] at H
        have c46b0 : decide (t376 < 0) = true := decide_eq_true c46
        clear c46
        (first | rw [c46b0] | (simp only [i64_w, i32_w]; rw [c46b0]) | skip)
        have H' := Aside0.mk H
        clear H
        go_wp2
        go_meet
        case rel => exact ⟨_, (true), (by first | rfl | (simp; done) | (simp [*]; done)), H', ⟨by have := HJ11.out; first | omega | exact Nat.le_refl _⟩, ⟨by (with_reducible repeat (first | apply Kd.R_alloc | apply Kd.R_drewN | apply Kd.R_drew)); exact Kd.R_mono HO_6.out (fun _ hk => ⟨hk.1, hk.2.1⟩)⟩, ⟨by (with_reducible repeat (first | apply Kd.R_alloc | apply Kd.R_drewN | apply Kd.R_drew)); exact Kd.R_mono HO_9.out (fun _ hk => ⟨hk.1, hk.2.1⟩)⟩, ⟨by (with_reducible repeat (first | apply Kd.R_alloc | apply Kd.R_drewN | apply Kd.R_drew)); exact Kd.R_mono HO_365002.out (fun _ hk => ⟨hk.1.1, hk.1.2⟩)⟩, ⟨by (with_reducible repeat (first | refine blk_drewN ?_ _ | refine blk_drew ?_ | refine blk_alloc ?_ _)); exact BK348.out⟩, ⟨by (with_reducible repeat (first | refine blk_drewN ?_ _ | refine blk_drew ?_ | refine blk_alloc ?_ _)); exact BK364.out⟩, ⟨by repeat (first | (with_reducible first | exact HB.out | apply below_alloc | apply pw_below_drewN | apply below_drew1 | refine below_set ?_ GE348.out | refine below_set ?_ GE364.out) | exact HB.out)⟩⟩
       ·rw [if_neg c46] at H
        have c46b0 : decide (t376 < 0) = false := decide_eq_false c46
        clear c46
        (first | rw [c46b0] | (simp only [i64_w, i32_w]; rw [c46b0]) | skip)
        replace H := Option.bind_eq_some_iff.mp H
        obtain ⟨t378, A470, H⟩ := H
        replace H : (if t378 = true then (laws_FnExactPlacementsOf.j1 kj11 a1 t355 t358 t365 (t368 != t358) a0_0 a0_1 l0_2) else (laws_FnExactPlacementsOf.j1 kj11 a1 t355 t358 t365 true a0_0 a0_1 l0_2)) = some true := H
        have A47 := Aside0.mk A470
        clear A470
        by_cases c48 : t378 = true
        ·subst c48
         have H1 : (laws_FnExactPlacementsOf.j1 kj11 a1 t355 t358 t365 (t368 != t358) a0_0 a0_1 l0_2) = some true := by rw [if_pos rfl] at H; exact H
         clear H
         have H := H1
         clear H1
         have H' := Aside0.mk H
         clear H
         obtain ⟨Ao49, co49, eo49⟩ := Kd.R_slice HO_9.out
         subst eo49
         obtain ⟨Ao50, co50, eo50⟩ := Kd.R_slice HO_6.out
         subst eo50
         go_wp2_with (first | (go_at_call 19; (with_reducible refine (laws_eqInt64S.calls kj11 _ _ t365 _ _ t355 true _ ?side1 ?side2 ?side3 ?side4 A47.out).mono ?_); (case side1 => repeat (first | exact (Kd.R_reads' HO_9.out).2.2 | (with_reducible refine Kd.C_alloc ?_ _) | (with_reducible refine Kd.C_drewN ?_ _) | (with_reducible refine Kd.C_drew ?_))); (case side2 => exact (Kd.R_reads' HO_9.out).2.1); (case side3 => repeat (first | exact (Kd.R_reads' HO_6.out).2.2 | (with_reducible refine Kd.C_alloc ?_ _) | (with_reducible refine Kd.C_drewN ?_ _) | (with_reducible refine Kd.C_drew ?_))); (case side4 => exact (Kd.R_reads' HO_6.out).2.1); rintro e w' ⟨rfl, ⟨nd, rfl⟩⟩))
         go_meet
         case rel => exact ⟨_, ((t368 != t358)), (by first | rfl | (simp; done) | (simp [*]; done)), H', ⟨by have := HJ11.out; first | omega | exact Nat.le_refl _⟩, ⟨by (with_reducible repeat (first | apply Kd.R_alloc | apply Kd.R_drewN | apply Kd.R_drew)); exact Kd.R_mono HO_6.out (fun _ hk => ⟨hk.1, hk.2.1⟩)⟩, ⟨by (with_reducible repeat (first | apply Kd.R_alloc | apply Kd.R_drewN | apply Kd.R_drew)); exact Kd.R_mono HO_9.out (fun _ hk => ⟨hk.1, hk.2.1⟩)⟩, ⟨by (with_reducible repeat (first | apply Kd.R_alloc | apply Kd.R_drewN | apply Kd.R_drew)); exact Kd.R_mono HO_365002.out (fun _ hk => ⟨hk.1.1, hk.1.2⟩)⟩, ⟨by (with_reducible repeat (first | refine blk_drewN ?_ _ | refine blk_drew ?_ | refine blk_alloc ?_ _)); exact BK348.out⟩, ⟨by (with_reducible repeat (first | refine blk_drewN ?_ _ | refine blk_drew ?_ | refine blk_alloc ?_ _)); exact BK364.out⟩, ⟨by repeat (first | (with_reducible first | exact HB.out | apply below_alloc | apply pw_below_drewN | apply below_drew1 | refine below_set ?_ GE348.out | refine below_set ?_ GE364.out) | exact HB.out)⟩⟩
        ·replace c48 := Bool.eq_false_iff.mpr c48
         subst c48
         have H1 : (laws_FnExactPlacementsOf.j1 kj11 a1 t355 t358 t365 true a0_0 a0_1 l0_2) = some true := by rw [if_neg (show ¬ (false = true) by decide)] at H; exact H
         clear H
         have H := H1
         clear H1
         have H' := Aside0.mk H
         clear H
         obtain ⟨Ao51, co51, eo51⟩ := Kd.R_slice HO_9.out
         subst eo51
         obtain ⟨Ao52, co52, eo52⟩ := Kd.R_slice HO_6.out
         subst eo52
         go_wp2_with (first | (go_at_call 19; (with_reducible refine (laws_eqInt64S.calls kj11 _ _ t365 _ _ t355 false _ ?side1 ?side2 ?side3 ?side4 A47.out).mono ?_); (case side1 => repeat (first | exact (Kd.R_reads' HO_9.out).2.2 | (with_reducible refine Kd.C_alloc ?_ _) | (with_reducible refine Kd.C_drewN ?_ _) | (with_reducible refine Kd.C_drew ?_))); (case side2 => exact (Kd.R_reads' HO_9.out).2.1); (case side3 => repeat (first | exact (Kd.R_reads' HO_6.out).2.2 | (with_reducible refine Kd.C_alloc ?_ _) | (with_reducible refine Kd.C_drewN ?_ _) | (with_reducible refine Kd.C_drew ?_))); (case side4 => exact (Kd.R_reads' HO_6.out).2.1); rintro e w' ⟨rfl, ⟨nd, rfl⟩⟩))
         go_meet
         case rel => exact ⟨_, (true), (by first | rfl | (simp; done) | (simp [*]; done)), H', ⟨by have := HJ11.out; first | omega | exact Nat.le_refl _⟩, ⟨by (with_reducible repeat (first | apply Kd.R_alloc | apply Kd.R_drewN | apply Kd.R_drew)); exact Kd.R_mono HO_6.out (fun _ hk => ⟨hk.1, hk.2.1⟩)⟩, ⟨by (with_reducible repeat (first | apply Kd.R_alloc | apply Kd.R_drewN | apply Kd.R_drew)); exact Kd.R_mono HO_9.out (fun _ hk => ⟨hk.1, hk.2.1⟩)⟩, ⟨by (with_reducible repeat (first | apply Kd.R_alloc | apply Kd.R_drewN | apply Kd.R_drew)); exact Kd.R_mono HO_365002.out (fun _ hk => ⟨hk.1.1, hk.1.2⟩)⟩, ⟨by (with_reducible repeat (first | refine blk_drewN ?_ _ | refine blk_drew ?_ | refine blk_alloc ?_ _)); exact BK348.out⟩, ⟨by (with_reducible repeat (first | refine blk_drewN ?_ _ | refine blk_drew ?_ | refine blk_alloc ?_ _)); exact BK364.out⟩, ⟨by repeat (first | (with_reducible first | exact HB.out | apply below_alloc | apply pw_below_drewN | apply below_drew1 | refine below_set ?_ GE348.out | refine below_set ?_ GE364.out) | exact HB.out)⟩⟩
      case rest =>
       clear HC38
       try clear c1
       try clear c2
       try clear p2
       try clear c3
       try clear c4
       try clear c4b0
       try clear c15
       try clear c16
       try clear c17
       try clear c18
       try clear c19
       try clear c20
       try clear c21
       try clear c23
       try clear c28
       try clear c33
       try clear c36
       try clear c43
       try clear c46
       try clear c46b0
       try clear c48
       try clear hcz14_0
       try clear hcz14_1
       try clear hcz14_2
       try clear hcz16_0
       try clear hcz16_1
       try clear hcz16_2
       try clear hcz20_0
       try clear hcz20_1
       try clear hcz20_2
       try clear hcz24_0
       try clear hcz24_1
       try clear hcz24_2
       try clear hcz44_0
       try clear hcz44_1
       try clear hcz44_2
       try clear hcz6_0
       try clear hcz6_1
       try clear hcz6_2
       try clear hfz14_0
       try clear hfz14_1
       try clear hfz14_2
       try clear hfz16_0
       try clear hfz16_1
       try clear hfz16_2
       try clear hfz20_0
       try clear hfz20_1
       try clear hfz20_2
       try clear hfz24_0
       try clear hfz24_1
       try clear hfz24_2
       try clear hfz44_0
       try clear hfz44_1
       try clear hfz44_2
       try clear hfz6_0
       try clear hfz6_1
       try clear hfz6_2
       try clear p2
       obtain ⟨kq, x65_37, rfl, HA, HJ37, HO_6, HO_9, HO_365002, BK348, BK364, HB⟩ := hcut
       have hl365002_37 := (Kd.R_reads' HO_365002.out).1
       rw [hl365002_37] at HO_365002
       (try simp only [hl365002_37])
       (try simp only [hl365002_37] at BK348)
       (try simp only [hl365002_37] at BK364)
       (try simp only [hl365002_37] at HO_6)
       (try simp only [hl365002_37] at HO_9)
       cases kq with
       | zero => exact absurd HA.out (by simp [laws_FnExactPlacementsOf.j1])
       | succ kj37 =>
        have H := HA.out
        clear HA
        simp only [laws_FnExactPlacementsOf.j1] at H
        by_cases c53 : x65_37 = true
        ·subst c53
         have H1 : (some false) = some true := by rw [if_pos rfl] at H; exact H
         clear H
         have H := H1
         clear H1
         exact absurd H (by simp)
        ·replace c53 := Bool.eq_false_iff.mpr c53
         subst c53
         have H1 : ((laws_markInt64S.f kj37 t365 1).bind fun bt379 => ((laws_heldInt64S.f kj37 bt379.2 1).bind fun t381 => (if t381 < 0 then (some false) else (if t381 = bt379.1 then ((laws_toSea.f kj37 a0_0 a0_1 l0_2).bind fun bt382 => ((impl_PlacementsOf.f kj37 bt382.1 bt382.2.1 bt382.2.2 a1).bind fun bt387 => ((laws_eqInt64S.f kj37 bt387.1 t355).bind fun t391 => (if t391 = true then (laws_FnExactPlacementsOf.j2 kj37 bt379.2 bt379.1 (bt387.2 != t358)) else (laws_FnExactPlacementsOf.j2 kj37 bt379.2 bt379.1 true))))) else (some false))))) = some true := by rw [if_neg (show ¬ (false = true) by decide)] at H; exact H
         clear H
         have H := H1
         clear H1
         replace H := Option.bind_eq_some_iff.mp H
         obtain ⟨⟨t379, t380⟩, A540, H⟩ := H
         replace H : ((laws_heldInt64S.f kj37 t380 1).bind fun t381 => (if t381 < 0 then (some false) else (if t381 = t379 then ((laws_toSea.f kj37 a0_0 a0_1 l0_2).bind fun bt382 => ((impl_PlacementsOf.f kj37 bt382.1 bt382.2.1 bt382.2.2 a1).bind fun bt387 => ((laws_eqInt64S.f kj37 bt387.1 t355).bind fun t391 => (if t391 = true then (laws_FnExactPlacementsOf.j2 kj37 t380 t379 (bt387.2 != t358)) else (laws_FnExactPlacementsOf.j2 kj37 t380 t379 true))))) else (some false)))) = some true := H
         have A54 := Aside0.mk A540
         clear A540
         replace H := Option.bind_eq_some_iff.mp H
         obtain ⟨t381, A550, H⟩ := H
         replace H : (if t381 < 0 then (some false) else (if t381 = t379 then ((laws_toSea.f kj37 a0_0 a0_1 l0_2).bind fun bt382 => ((impl_PlacementsOf.f kj37 bt382.1 bt382.2.1 bt382.2.2 a1).bind fun bt387 => ((laws_eqInt64S.f kj37 bt387.1 t355).bind fun t391 => (if t391 = true then (laws_FnExactPlacementsOf.j2 kj37 t380 t379 (bt387.2 != t358)) else (laws_FnExactPlacementsOf.j2 kj37 t380 t379 true))))) else (some false))) = some true := H
         have A55 := Aside0.mk A550
         clear A550
         by_cases c56 : t381 < 0
         ·rw [if_pos c56] at H
          have c56b0 : decide (t381 < 0) = true := decide_eq_true c56
          clear c56
          exact absurd H (by simp)
         ·rw [if_neg c56] at H
          have c56b0 : decide (t381 < 0) = false := decide_eq_false c56
          clear c56
          by_cases c59 : t381 = t379
          ·rw [if_pos c59] at H
           have c59b0 : (t381 == t379) = true := beq_iff_eq.mpr c59
           have c59b1 : (t381 != t379) = false := bne_eq_false_iff_eq.mpr c59
           clear c59
           replace H := Option.bind_eq_some_iff.mp H
           obtain ⟨⟨t382, t383, t384⟩, A600, H⟩ := H
           replace H : ((impl_PlacementsOf.f kj37 t382 t383 t384 a1).bind fun bt387 => ((laws_eqInt64S.f kj37 bt387.1 t355).bind fun t391 => (if t391 = true then (laws_FnExactPlacementsOf.j2 kj37 t380 t379 (bt387.2 != t358)) else (laws_FnExactPlacementsOf.j2 kj37 t380 t379 true)))) = some true := H
           have A60 := Aside0.mk A600
           clear A600
           replace H := Option.bind_eq_some_iff.mp H
           obtain ⟨⟨t387, t390⟩, A610, H⟩ := H
           replace H : ((laws_eqInt64S.f kj37 t387 t355).bind fun t391 => (if t391 = true then (laws_FnExactPlacementsOf.j2 kj37 t380 t379 (t390 != t358)) else (laws_FnExactPlacementsOf.j2 kj37 t380 t379 true))) = some true := H
           have A61 := Aside0.mk A610
           clear A610
           have HC62 := Aside0.mk H
           clear H
           obtain ⟨Ao63, co63, eo63⟩ := Kd.R_slice HO_9.out
           subst eo63
           go_upto_region 25 with (first | ((with_reducible refine gate_callee (f := 22) rfl ?_); refine goesL_ (some 68) rfl rfl Try.func22 (by kernel_rfl) rfl #[.slice Ao63 t365.length co63, .int .i64 1] rfl (by (try simp only [List.map_toArray, List.map_cons, List.map_nil]); first | done | rfl | (simp only [List.length_drop, List.length_take]; rfl)) ?_; (with_reducible refine (laws_markInt64S.calls kj37 (fun k_ => some k_ = (.slice Ao63 t365.length co63 : Value).ownBlock) (.slice Ao63 t365.length co63) t365 1 t379 t380 w _ ?side1 ?side2 A54.out).mono ?_); (case side1 => repeat (first | (with_reducible first | exact HB.out | apply below_alloc | apply pw_below_drewN | apply below_drew1 | refine below_set ?_ GE348.out | refine below_set ?_ GE364.out) | exact HB.out)); (case side2 => exact Kd.R_tight rfl HO_9.out); rintro e w64 ⟨rfl, hy0, hb, hkp⟩; refine ⟨_, rfl, ?_⟩; have n0_ := Aside0.mk (Kd.R_mono (ok' := fun k_ => some k_ ≠ (.slice Ao63 t365.length co63 : Value).ownBlock ∧ some k_ ≠ (.slice Ao25 t377.length co25 : Value).ownBlock) (Kd.R_keptB (HO_6.out) hkp (fun k_ hk_ hs_ => (hk_.1) hs_)) (fun k_ hk_ => ⟨hk_.1.1, hk_.1.2⟩)); have n1_ := Aside0.mk (Kd.R_reok rfl hy0 (fun k_ e_ => HO_9.out.1 k_ e_)); have n2_ := Aside0.mk (Kd.R_mono (ok' := fun k_ => some k_ ≠ (v356 : Value).ownBlock ∧ some k_ ≠ (.slice Ao63 t365.length co63 : Value).ownBlock) (Kd.R_keptB (HO_365002.out) hkp (fun k_ hk_ hs_ => (hk_.2) hs_)) (fun k_ hk_ => ⟨hk_.1.1, hk_.1.2⟩)); have n3_ := Aside0.mk (blk_kept (by (with_reducible repeat (first | refine blk_drewN ?_ _ | refine blk_drew ?_ | refine blk_alloc ?_ _)); exact BK348.out) hkp (fun hs_ => (fun e_ => (Kd.R_ne HO_9.out BK348.out (by decide)) e_) hs_)); have n4_ := Aside0.mk (blk_kept (by (with_reducible repeat (first | refine blk_drewN ?_ _ | refine blk_drew ?_ | refine blk_alloc ?_ _)); exact BK364.out) hkp (fun hs_ => (fun e_ => (Kd.R_ne HO_9.out BK364.out (by decide)) e_) hs_)); have n5_ := Aside0.mk (hb); clear HO_6; clear HO_9; clear HO_365002; clear BK348; clear BK364; clear HB; have HO_6 := n0_; have HO_9 := n1_; have HO_365002 := n2_; have BK348 := n3_; have BK364 := n4_; have HB := n5_; clear n0_ n1_ n2_ n3_ n4_ n5_; (try clear hb); (try clear hkp); (try clear hy0)) | ((with_reducible refine gate_callee (f := 23) rfl ?_); refine goesL_ (some 71) rfl rfl Try.func23 (by kernel_rfl) rfl #[.slice Ao63 t380.length co63, .int .i64 1] rfl (by (try simp only [List.map_toArray, List.map_cons, List.map_nil]); first | done | (rw [show t380.length = t365.length from (Kd.R_reads' HO_9.out).1.symm] <;> rfl) | rfl | (simp only [List.length_drop, List.length_take]; rfl)) ?_; (with_reducible refine (laws_heldInt64S.calls kj37 _ _ t380 1 t381 _ ?side1 ?side2 A55.out).mono ?_); (case side1 => repeat (first | exact (Kd.R_reads' HO_9.out).2.2 | (with_reducible refine Kd.C_alloc ?_ _) | (with_reducible refine Kd.C_drewN ?_ _) | (with_reducible refine Kd.C_drew ?_))); (case side2 => rw [show t380.length = t365.length from (Kd.R_reads' HO_9.out).1.symm]; exact (Kd.R_reads' HO_9.out).2.1); rintro e w' ⟨rfl, ⟨nd, rfl⟩⟩; refine ⟨_, rfl, ?_⟩; have hnb65 := NB348_364.out; have hnc65 := NB364_348.out; have hcz66_0 : w64.cell? ⟨gb348, 0, none⟩ = some (.int .i64 a0_0) := (blk_cell BK348.out 0).trans rfl; have hcz66_1 : w64.cell? ⟨gb348, 1, none⟩ = some (.int .i64 a0_1) := (blk_cell BK348.out 1).trans rfl; have hcz66_2 : w64.cell? ⟨gb348, 2, none⟩ = some (.slice A0_2 l0_2.length c0_2) := (blk_cell BK348.out 2).trans rfl; have hfz66_0 := blk_frozen BK348.out 0; have hfz66_1 := blk_frozen BK348.out 1; have hfz66_2 := blk_frozen BK348.out 2) | ((with_reducible refine gate_callee (f := 17) rfl ?_); refine goesL_ (some 79) rfl rfl Try.func17 (by kernel_rfl) rfl #[.agg #[.int .i64 a0_0, .int .i64 a0_1, .slice A0_2 l0_2.length c0_2]] rfl (by (try simp only [List.map_toArray, List.map_cons, List.map_nil]); first | done | rfl | (simp only [List.length_drop, List.length_take]; rfl)) ?_; (with_reducible refine (laws_toSea.calls kj37 a0_0 a0_1 _ _ l0_2 t382 t383 t384 _ ?side1 ?side2 A60.out).mono ?_); (case side1 => repeat (first | exact (Kd.C_below HR0_2.out (by repeat (first | (with_reducible first | exact HB.out | apply below_alloc | apply pw_below_drewN | apply below_drew1 | refine below_set ?_ GE348.out | refine below_set ?_ GE364.out) | exact HB.out))) | (with_reducible refine Kd.C_alloc ?_ _) | (with_reducible refine Kd.C_drewN ?_ _) | (with_reducible refine Kd.C_drew ?_))); (case side2 => exact HC0_2.out); rintro e w67 ⟨v385, rfl, ho0, hb⟩; refine ⟨_, rfl, ?_⟩; have n0_ := Aside0.mk (Kd.R_elder' (by (with_reducible repeat (first | apply Kd.R_alloc | apply Kd.R_drewN | apply Kd.R_drew)); exact HO_6.out) (Kd.R_base ho0) hb); have n1_ := Aside0.mk (Kd.R_elder' (by (with_reducible repeat (first | apply Kd.R_alloc | apply Kd.R_drewN | apply Kd.R_drew)); exact HO_9.out) (Kd.R_base ho0) hb); have n2_ := Aside0.mk (Kd.R_elder' (by (with_reducible repeat (first | apply Kd.R_alloc | apply Kd.R_drewN | apply Kd.R_drew)); exact HO_365002.out) (Kd.R_base ho0) hb); have n3_ := Aside0.mk (Kd.R_lower (Kd.R_new' (Kd.R_new' (Kd.R_new' ho0 (Kd.R_lt (by (with_reducible repeat (first | apply Kd.R_alloc | apply Kd.R_drewN | apply Kd.R_drew)); exact HO_6.out))) (Kd.R_lt (by (with_reducible repeat (first | apply Kd.R_alloc | apply Kd.R_drewN | apply Kd.R_drew)); exact HO_9.out))) (Kd.R_lt (by (with_reducible repeat (first | apply Kd.R_alloc | apply Kd.R_drewN | apply Kd.R_drew)); exact HO_365002.out))) (below_size (by repeat (first | (with_reducible first | exact HB.out | apply below_alloc | apply pw_below_drewN | apply below_drew1 | refine below_set ?_ GE348.out | refine below_set ?_ GE364.out) | exact HB.out)))); have n4_ := Aside0.mk (blk_below (g := gb348) (o := .cells #[.int .i64 a0_0, .int .i64 a0_1, .slice A0_2 l0_2.length c0_2] 24 (0, 0)) (by (with_reducible repeat (first | refine blk_drewN ?_ _ | refine blk_drew ?_ | refine blk_alloc ?_ _)); exact BK348.out) hb); have n5_ := Aside0.mk (blk_below (g := gb364) (o := .cells #[.int .i64 t359, .int .i64 t360, .slice Ao25 t377.length co25] 28 (0, 0)) (by (with_reducible repeat (first | refine blk_drewN ?_ _ | refine blk_drew ?_ | refine blk_alloc ?_ _)); exact BK364.out) hb); have n6_ := Aside0.mk (below_step (by repeat (first | (with_reducible first | exact HB.out | apply below_alloc | apply pw_below_drewN | apply below_drew1 | refine below_set ?_ GE348.out | refine below_set ?_ GE364.out) | exact HB.out)) hb); clear HO_6; clear HO_9; clear HO_365002; clear BK348; clear BK364; clear HB; have HO_6 := n0_; have HO_9 := n1_; have HO_365002 := n2_; have HO386 := n3_; have BK348 := n4_; have BK364 := n5_; have HB := n6_; clear n0_ n1_ n2_ n3_ n4_ n5_ n6_; (try clear hb); (try clear hb2); (try clear hk); (try clear hi); (try clear ho0); obtain ⟨Ao68, co68, eo68⟩ := Kd.R_slice HO386.out; subst eo68) | ((with_reducible refine gate_callee (f := 18) rfl ?_); refine goesL_ (some 81) rfl rfl Try.func18 (by kernel_rfl) rfl #[.agg #[.int .i64 t382, .int .i64 t383, .slice Ao68 t384.length co68], .int .i64 a1] rfl (by (try simp only [List.map_toArray, List.map_cons, List.map_nil]); first | done | rfl | (simp only [List.length_drop, List.length_take]; rfl)) ?_; (with_reducible refine (impl_PlacementsOf.calls kj37 t382 t383 _ _ t384 a1 t387 t390 _ ?side1 ?side2 A61.out).mono ?_); (case side1 => repeat (first | exact (Kd.R_reads' HO386.out).2.2 | (with_reducible refine Kd.C_alloc ?_ _) | (with_reducible refine Kd.C_drewN ?_ _) | (with_reducible refine Kd.C_drew ?_))); (case side2 => exact (Kd.R_reads' HO386.out).2.1); rintro e w69 ⟨v388, rfl, ho0, hb⟩; refine ⟨_, rfl, ?_⟩; have n0_ := Aside0.mk (Kd.R_elder' (by (with_reducible repeat (first | apply Kd.R_alloc | apply Kd.R_drewN | apply Kd.R_drew)); exact HO_6.out) (Kd.R_base ho0) hb); have n1_ := Aside0.mk (Kd.R_elder' (by (with_reducible repeat (first | apply Kd.R_alloc | apply Kd.R_drewN | apply Kd.R_drew)); exact HO_9.out) (Kd.R_base ho0) hb); have n2_ := Aside0.mk (Kd.R_elder' (by (with_reducible repeat (first | apply Kd.R_alloc | apply Kd.R_drewN | apply Kd.R_drew)); exact HO_365002.out) (Kd.R_base ho0) hb); have n3_ := Aside0.mk (Kd.R_elder' (by (with_reducible repeat (first | apply Kd.R_alloc | apply Kd.R_drewN | apply Kd.R_drew)); exact HO386.out) (Kd.R_base ho0) hb); have n4_ := Aside0.mk (Kd.R_lower (Kd.R_new' (Kd.R_new' (Kd.R_new' (Kd.R_new' ho0 (Kd.R_lt (by (with_reducible repeat (first | apply Kd.R_alloc | apply Kd.R_drewN | apply Kd.R_drew)); exact HO_6.out))) (Kd.R_lt (by (with_reducible repeat (first | apply Kd.R_alloc | apply Kd.R_drewN | apply Kd.R_drew)); exact HO_9.out))) (Kd.R_lt (by (with_reducible repeat (first | apply Kd.R_alloc | apply Kd.R_drewN | apply Kd.R_drew)); exact HO_365002.out))) (Kd.R_lt (by (with_reducible repeat (first | apply Kd.R_alloc | apply Kd.R_drewN | apply Kd.R_drew)); exact HO386.out))) (below_size (by repeat (first | (with_reducible first | exact HB.out | apply below_alloc | apply pw_below_drewN | apply below_drew1 | refine below_set ?_ GE348.out | refine below_set ?_ GE364.out) | exact HB.out)))); have n5_ := Aside0.mk (blk_below (g := gb348) (o := .cells #[.int .i64 a0_0, .int .i64 a0_1, .slice A0_2 l0_2.length c0_2] 24 (0, 0)) (by (with_reducible repeat (first | refine blk_drewN ?_ _ | refine blk_drew ?_ | refine blk_alloc ?_ _)); exact BK348.out) hb); have n6_ := Aside0.mk (blk_below (g := gb364) (o := .cells #[.int .i64 t359, .int .i64 t360, .slice Ao25 t377.length co25] 28 (0, 0)) (by (with_reducible repeat (first | refine blk_drewN ?_ _ | refine blk_drew ?_ | refine blk_alloc ?_ _)); exact BK364.out) hb); have n7_ := Aside0.mk (below_step (by repeat (first | (with_reducible first | exact HB.out | apply below_alloc | apply pw_below_drewN | apply below_drew1 | refine below_set ?_ GE348.out | refine below_set ?_ GE364.out) | exact HB.out)) hb); clear HO_6; clear HO_9; clear HO_365002; clear HO386; clear BK348; clear BK364; clear HB; have HO_6 := n0_; have HO_9 := n1_; have HO_365002 := n2_; have HO386 := n3_; have HO389 := n4_; have BK348 := n5_; have BK364 := n6_; have HB := n7_; clear n0_ n1_ n2_ n3_ n4_ n5_ n6_ n7_; (try clear hb); (try clear hb2); (try clear hk); (try clear hi); (try clear ho0)))
           (try simp only [Act.put, List.setIfInBounds_toArray, List.set_cons_zero, List.set_cons_succ])
           go_cut [92] (fun v92 wc => ∃ (kq : Nat) (x92_61 : Bool), v92 = .bool x92_61 ∧ Aside0 (laws_FnExactPlacementsOf.j2 kq t380 t379 x92_61 = some true) ∧ Aside0 (kq ≤ kj37) ∧ Aside0 (Kd.R (Kd.int .i64) 2 wc w.heap.size (fun k_ => some k_ ≠ ((.slice Ao25 t377.length co25) : Value).ownBlock) (.slice Ao63 t365.length co63) t380) ∧ Aside0 (Kd.R (Kd.int .i64) 2 wc w.heap.size (fun k_ => some k_ ≠ ((.slice Ao63 t365.length co63) : Value).ownBlock) (.slice Ao25 t377.length co25) t377) ∧ Aside0 (wc.heap[gb348]? = some (.cells #[.int .i64 a0_0, .int .i64 a0_1, (.slice A0_2 l0_2.length c0_2)] 24 (0, 0))) ∧ Aside0 (wc.heap[gb364]? = some (.cells #[.int .i64 t359, .int .i64 t360, (.slice Ao25 t377.length co25)] 28 (0, 0))) ∧ Aside0 (Below w.heap.size w wc))
           case first =>
            have H := HC62.out
            clear HC62
            replace H := Option.bind_eq_some_iff.mp H
            obtain ⟨t391, A700, H⟩ := H
            replace H : (if t391 = true then (laws_FnExactPlacementsOf.j2 kj37 t380 t379 (t390 != t358)) else (laws_FnExactPlacementsOf.j2 kj37 t380 t379 true)) = some true := H
            have A70 := Aside0.mk A700
            clear A700
            by_cases c71 : t391 = true
            ·subst c71
             have H1 : (laws_FnExactPlacementsOf.j2 kj37 t380 t379 (t390 != t358)) = some true := by rw [if_pos rfl] at H; exact H
             clear H
             have H := H1
             clear H1
             have H' := Aside0.mk H
             clear H
             obtain ⟨Ao72, co72, eo72⟩ := Kd.R_slice HO389.out
             subst eo72
             obtain ⟨Ao73, co73, eo73⟩ := Kd.R_slice HO_6.out
             subst eo73
             go_wp2_with (first | ((with_reducible refine gate_callee (f := 19) rfl ?_); refine goesL_ (some 86) rfl rfl Try.func19 (by kernel_rfl) rfl #[.slice Ao72 t387.length co72, .slice Ao73 t355.length co73] rfl (by (try simp only [List.map_toArray, List.map_cons, List.map_nil]); first | done | rfl | (simp only [List.length_drop, List.length_take]; rfl)) ?_; (with_reducible refine (laws_eqInt64S.calls kj37 _ _ t387 _ _ t355 true _ ?side1 ?side2 ?side3 ?side4 A70.out).mono ?_); (case side1 => repeat (first | exact (Kd.R_reads' HO389.out).2.2 | (with_reducible refine Kd.C_alloc ?_ _) | (with_reducible refine Kd.C_drewN ?_ _) | (with_reducible refine Kd.C_drew ?_))); (case side2 => exact (Kd.R_reads' HO389.out).2.1); (case side3 => repeat (first | exact (Kd.R_reads' HO_6.out).2.2 | (with_reducible refine Kd.C_alloc ?_ _) | (with_reducible refine Kd.C_drewN ?_ _) | (with_reducible refine Kd.C_drew ?_))); (case side4 => exact (Kd.R_reads' HO_6.out).2.1); rintro e w' ⟨rfl, ⟨nd, rfl⟩⟩; refine ⟨_, rfl, ?_⟩))
             go_meet
             case rel => exact ⟨_, ((t390 != t358)), (by first | rfl | (simp; done) | (simp [*]; done)), H', ⟨by have := HJ11.out; have := HJ37.out; first | omega | exact Nat.le_refl _⟩, ⟨by (try simp only [hl365002_37]); (with_reducible repeat (first | apply Kd.R_alloc | apply Kd.R_drewN | apply Kd.R_drew)); exact Kd.R_mono HO_9.out (fun _ hk => hk.1.1.2)⟩, ⟨by (try simp only [hl365002_37]); (with_reducible repeat (first | apply Kd.R_alloc | apply Kd.R_drewN | apply Kd.R_drew)); exact Kd.R_mono HO_365002.out (fun _ hk => hk.1.1.2)⟩, ⟨by (try simp only [hl365002_37]); (with_reducible repeat (first | refine blk_drewN ?_ _ | refine blk_drew ?_ | refine blk_alloc ?_ _)); exact BK348.out⟩, ⟨by (try simp only [hl365002_37]); (with_reducible repeat (first | refine blk_drewN ?_ _ | refine blk_drew ?_ | refine blk_alloc ?_ _)); exact BK364.out⟩, ⟨by repeat (first | (with_reducible first | exact HB.out | apply below_alloc | apply pw_below_drewN | apply below_drew1 | refine below_set ?_ GE348.out | refine below_set ?_ GE364.out) | exact HB.out)⟩⟩
            ·replace c71 := Bool.eq_false_iff.mpr c71
             subst c71
             have H1 : (laws_FnExactPlacementsOf.j2 kj37 t380 t379 true) = some true := by rw [if_neg (show ¬ (false = true) by decide)] at H; exact H
             clear H
             have H := H1
             clear H1
             have H' := Aside0.mk H
             clear H
             obtain ⟨Ao74, co74, eo74⟩ := Kd.R_slice HO389.out
             subst eo74
             obtain ⟨Ao75, co75, eo75⟩ := Kd.R_slice HO_6.out
             subst eo75
             go_wp2_with (first | ((with_reducible refine gate_callee (f := 19) rfl ?_); refine goesL_ (some 86) rfl rfl Try.func19 (by kernel_rfl) rfl #[.slice Ao74 t387.length co74, .slice Ao75 t355.length co75] rfl (by (try simp only [List.map_toArray, List.map_cons, List.map_nil]); first | done | rfl | (simp only [List.length_drop, List.length_take]; rfl)) ?_; (with_reducible refine (laws_eqInt64S.calls kj37 _ _ t387 _ _ t355 false _ ?side1 ?side2 ?side3 ?side4 A70.out).mono ?_); (case side1 => repeat (first | exact (Kd.R_reads' HO389.out).2.2 | (with_reducible refine Kd.C_alloc ?_ _) | (with_reducible refine Kd.C_drewN ?_ _) | (with_reducible refine Kd.C_drew ?_))); (case side2 => exact (Kd.R_reads' HO389.out).2.1); (case side3 => repeat (first | exact (Kd.R_reads' HO_6.out).2.2 | (with_reducible refine Kd.C_alloc ?_ _) | (with_reducible refine Kd.C_drewN ?_ _) | (with_reducible refine Kd.C_drew ?_))); (case side4 => exact (Kd.R_reads' HO_6.out).2.1); rintro e w' ⟨rfl, ⟨nd, rfl⟩⟩; refine ⟨_, rfl, ?_⟩))
             go_meet
             case rel => exact ⟨_, (true), (by first | rfl | (simp; done) | (simp [*]; done)), H', ⟨by have := HJ11.out; have := HJ37.out; first | omega | exact Nat.le_refl _⟩, ⟨by (try simp only [hl365002_37]); (with_reducible repeat (first | apply Kd.R_alloc | apply Kd.R_drewN | apply Kd.R_drew)); exact Kd.R_mono HO_9.out (fun _ hk => hk.1.1.2)⟩, ⟨by (try simp only [hl365002_37]); (with_reducible repeat (first | apply Kd.R_alloc | apply Kd.R_drewN | apply Kd.R_drew)); exact Kd.R_mono HO_365002.out (fun _ hk => hk.1.1.2)⟩, ⟨by (try simp only [hl365002_37]); (with_reducible repeat (first | refine blk_drewN ?_ _ | refine blk_drew ?_ | refine blk_alloc ?_ _)); exact BK348.out⟩, ⟨by (try simp only [hl365002_37]); (with_reducible repeat (first | refine blk_drewN ?_ _ | refine blk_drew ?_ | refine blk_alloc ?_ _)); exact BK364.out⟩, ⟨by repeat (first | (with_reducible first | exact HB.out | apply below_alloc | apply pw_below_drewN | apply below_drew1 | refine below_set ?_ GE348.out | refine below_set ?_ GE364.out) | exact HB.out)⟩⟩
           case rest =>
            clear HC62
            try clear c1
            try clear c2
            try clear p2
            try clear c3
            try clear c4
            try clear c4b0
            try clear c5
            try clear c6
            try clear c7
            try clear c15
            try clear c16
            try clear c17
            try clear c18
            try clear c19
            try clear c20
            try clear c21
            try clear c22
            try clear c23
            try clear c28
            try clear c33
            try clear c36
            try clear c43
            try clear c46
            try clear c46b0
            try clear c48
            try clear c53
            try clear c56
            try clear c56b0
            try clear c59
            try clear c59b0
            try clear c59b1
            try clear c65
            try clear c71
            try clear hcz14_0
            try clear hcz14_1
            try clear hcz14_2
            try clear hcz16_0
            try clear hcz16_1
            try clear hcz16_2
            try clear hcz20_0
            try clear hcz20_1
            try clear hcz20_2
            try clear hcz24_0
            try clear hcz24_1
            try clear hcz24_2
            try clear hcz44_0
            try clear hcz44_1
            try clear hcz44_2
            try clear hcz66_0
            try clear hcz66_1
            try clear hcz66_2
            try clear hcz6_0
            try clear hcz6_1
            try clear hcz6_2
            try clear hfz14_0
            try clear hfz14_1
            try clear hfz14_2
            try clear hfz16_0
            try clear hfz16_1
            try clear hfz16_2
            try clear hfz20_0
            try clear hfz20_1
            try clear hfz20_2
            try clear hfz24_0
            try clear hfz24_1
            try clear hfz24_2
            try clear hfz44_0
            try clear hfz44_1
            try clear hfz44_2
            try clear hfz66_0
            try clear hfz66_1
            try clear hfz66_2
            try clear hfz6_0
            try clear hfz6_1
            try clear hfz6_2
            try clear p2
            obtain ⟨kq, x92_61, rfl, HA, HJ61, HO_9, HO_365002, BK348, BK364, HB⟩ := hcut
            have hl9_61 := (Kd.R_reads' HO_9.out).1
            rw [hl9_61] at HO_9
            (try simp only [hl9_61])
            (try simp only [hl9_61] at BK348)
            (try simp only [hl9_61] at BK364)
            (try simp only [hl9_61] at HO_365002)
            cases kq with
            | zero => exact absurd HA.out (by simp [laws_FnExactPlacementsOf.j2])
            | succ kj61 =>
             have H := HA.out
             clear HA
             simp only [laws_FnExactPlacementsOf.j2] at H
             by_cases c76 : x92_61 = true
             ·subst c76
              have H1 : (some false) = some true := by rw [if_pos rfl] at H; exact H
              clear H
              have H := H1
              clear H1
              exact absurd H (by simp)
             ·replace c76 := Bool.eq_false_iff.mpr c76
              subst c76
              have H1 : ((laws_heldInt64S.f kj61 t380 1).bind fun t392 => (if t392 < 0 then (some false) else (if t392 = t379 then (some true) else (some false)))) = some true := by rw [if_neg (show ¬ (false = true) by decide)] at H; exact H
              clear H
              have H := H1
              clear H1
              replace H := Option.bind_eq_some_iff.mp H
              obtain ⟨t392, A770, H⟩ := H
              replace H : (if t392 < 0 then (some false) else (if t392 = t379 then (some true) else (some false))) = some true := H
              have A77 := Aside0.mk A770
              clear A770
              by_cases c78 : t392 < 0
              ·rw [if_pos c78] at H
               have c78b0 : decide (t392 < 0) = true := decide_eq_true c78
               clear c78
               exact absurd H (by simp)
              ·rw [if_neg c78] at H
               have c78b0 : decide (t392 < 0) = false := decide_eq_false c78
               clear c78
               by_cases c79 : t392 = t379
               ·rw [if_pos c79] at H
                have c79b0 : (t392 == t379) = true := beq_iff_eq.mpr c79
                have c79b1 : (t392 != t379) = false := bne_eq_false_iff_eq.mpr c79
                clear c79
                clear H
                go_wp2_with (first | ((with_reducible refine gate_callee (f := 23) rfl ?_); refine goesL_ (some 95) rfl rfl Try.func23 (by kernel_rfl) rfl #[.slice Ao63 t380.length co63, .int .i64 1] rfl (by (try simp only [List.map_toArray, List.map_cons, List.map_nil]); first | done | rfl | (simp only [List.length_drop, List.length_take]; rfl)) ?_; (with_reducible refine (laws_heldInt64S.calls kj61 _ _ t380 1 t392 _ ?side1 ?side2 A77.out).mono ?_); (case side1 => repeat (first | exact (Kd.R_reads' HO_9.out).2.2 | (with_reducible refine Kd.C_alloc ?_ _) | (with_reducible refine Kd.C_drewN ?_ _) | (with_reducible refine Kd.C_drew ?_))); (case side2 => exact (Kd.R_reads' HO_9.out).2.1); rintro e w' ⟨rfl, ⟨nd, rfl⟩⟩; refine ⟨_, rfl, ?_⟩))
                go_ret
                exact ⟨by first | rfl | (simp [errW_none, errW_some] <;> rfl) | (simp [*, errW_none, errW_some] <;> rfl), by repeat (first | (with_reducible first | exact HB.out | apply below_alloc | apply pw_below_drewN | apply below_drew1 | refine below_set ?_ GE348.out | refine below_set ?_ GE364.out) | exact HB.out)⟩
               ·rw [if_neg c79] at H
                have c79b0 : (t392 == t379) = false := beq_eq_false_iff_ne.mpr c79
                have c79b1 : (t392 != t379) = true := bne_iff_ne.mpr c79
                exact absurd H (by simp)
          ·rw [if_neg c59] at H
           have c59b0 : (t381 == t379) = false := beq_eq_false_iff_ne.mpr c59
           have c59b1 : (t381 != t379) = true := bne_iff_ne.mpr c59
           exact absurd H (by simp)
     ·replace c36 := Bool.eq_false_iff.mpr c36
      subst c36
      have H1 : (some false) = some true := by rw [if_neg (show ¬ (false = true) by decide)] at H; exact H
      clear H
      have H := H1
      clear H1
      exact absurd H (by simp)
-- 'first' of two checks.
theorem first_ev (a b : Bool) : Ev (fun k => impl_first.f k [⟨a, 1⟩, ⟨b, 2⟩]) (if a = true then (if b = true then 0 else 2) else 1) := by
  refine ⟨4, fun k hk => ?_⟩
  obtain ⟨k', rfl⟩ : ∃ k', k = k' + 4 := ⟨k - 4, by omega⟩
  have w1 : wrap64 1 = 1 := by unfold wrap64; omega
  have w2 : wrap64 2 = 2 := by unfold wrap64; omega
  have r0 : ∀ u v : S70, rd_T70 [u, v] 0 = u := fun _ _ => rfl
  have r1 : ∀ u v : S70, rd_T70 [u, v] 1 = v := fun _ _ => rfl
  cases a <;> cases b <;> simp [impl_first.f, impl_first.l0, w1, w2, r0, r1]
/-- Plain facts on the verifier's helpers: copies are copies, and a list is equal to itself. -/
theorem wrap_next {i : Nat} {n : Nat} (h : i < n) (hn : n ≤ 9223372036854775807) : wrap64 ((i : Int) + 1) = ((i + 1 : Nat) : Int) := by
  unfold wrap64; omega
theorem rd_nat (l : List Int) (i : Nat) : rd l (i : Int) = l.getD i 0 := rfl
theorem rd_get (l : List Int) (i : Nat) (h : i < l.length) : rd l (i : Int) = l[i] := by
  rw [rd_nat, List.getD_eq_getElem?_getD, List.getElem?_eq_getElem h]; rfl
theorem take_set_next {α : Type} (x y : List α) (i : Nat) (h : i < x.length) (hl : y.length = x.length) (ht : y.take i = x.take i) : (y.set i x[i]).take (i + 1) = x.take (i + 1) := by
  rw [List.take_succ_eq_append_getElem h, List.take_succ_eq_append_getElem (by simpa [hl] using h)]
  congr 1
  · rw [List.take_set_of_le (Nat.le_refl i)]; exact ht
  · simp
theorem toInt64S_l0 (x : List Int) (hx : x.length ≤ 35184372088832) : ∀ (d i : Nat) (y : List Int), i + d = x.length → y.length = x.length → y.take i = x.take i → Ev (fun k => laws_toInt64S.l0 k x y i) x := by
  intro d
  induction d with
  | zero =>
    intro i y hi hl ht
    refine Ev.step (f := fun _ => some x) (fun k => ?_) (Ev.now _)
    simp only [laws_toInt64S.l0]
    rw [if_neg (by omega)]
    have : i = x.length := by omega
    rw [this, List.take_of_length_le (by omega), List.take_of_length_le (by omega)] at ht
    rw [ht]
  | succ d ih =>
    intro i y hi hl ht
    have hlt : i < x.length := by omega
    refine Ev.step (f := fun k => laws_toInt64S.l0 k x (y.set i x[i]) ((i + 1 : Nat) : Int)) (fun k => ?_) (ih (i + 1) _ (by omega) (by simpa using hl) (take_set_next x y i hlt hl ht))
    simp only [laws_toInt64S.l0]
    rw [if_pos (by omega), if_pos (by omega), if_pos (by omega), wrap_next hlt (by omega), rd_get x i hlt, Int.toNat_natCast]
theorem toInt64S_ev (x : List Int) (hx : x.length ≤ 35184372088832) : Ev (fun k => laws_toInt64S.f k x) x := by
  refine Ev.congr (f := fun k => laws_toInt64S.l0 k x (List.replicate x.length 0) ((0 : Nat) : Int)) (fun k => ?_) (toInt64S_l0 x hx x.length 0 _ (by omega) (by simp) (by simp))
  unfold laws_toInt64S.f
  rw [if_pos (by omega), if_pos (by omega), Int.toNat_natCast]; rfl
theorem eqInt64S_l0 (x y : List Int) (hl : x.length = y.length) (hx : x.length ≤ 9223372036854775807) : ∀ (d i : Nat), i + d = x.length → x.take i = y.take i → Ev (fun k => laws_eqInt64S.l0 k x y i) (decide (x = y)) := by
  intro d
  induction d with
  | zero =>
    intro i hi ht
    refine Ev.step (f := fun _ => some (decide (x = y))) (fun k => ?_) (Ev.now _)
    simp only [laws_eqInt64S.l0]
    rw [if_neg (by omega)]
    have : i = x.length := by omega
    rw [this, List.take_of_length_le (by omega), List.take_of_length_le (by omega)] at ht
    simp [ht]
  | succ d ih =>
    intro i hi ht
    have hlt : i < x.length := by omega
    by_cases he : x[i] = y[i]
    · refine Ev.step (f := fun k => laws_eqInt64S.l0 k x y ((i + 1 : Nat) : Int)) (fun k => ?_) (ih (i + 1) (by omega) ?_)
      · simp only [laws_eqInt64S.l0]
        rw [if_pos (by omega), if_pos (by omega), if_pos (by omega), wrap_next hlt (by omega), rd_get x i hlt, rd_get y i (by omega), if_pos he]
      · rw [List.take_succ_eq_append_getElem hlt, List.take_succ_eq_append_getElem (by omega), ht, he]
    · refine Ev.step (f := fun _ => some (decide (x = y))) (fun k => ?_) (Ev.now _)
      simp only [laws_eqInt64S.l0]
      rw [if_pos (by omega), if_pos (by omega), if_pos (by omega), rd_get x i hlt, rd_get y i (by omega), if_neg he]
      have : x ≠ y := fun h => he (by subst h; rfl)
      simp [this]
theorem eqInt64S_ev (x y : List Int) (hx : x.length ≤ 9223372036854775807) : Ev (fun k => laws_eqInt64S.f k x y) (decide (x = y)) := by
  by_cases h : x.length = y.length
  · refine Ev.congr (f := fun k => laws_eqInt64S.l0 k x y ((0 : Nat) : Int)) (fun k => ?_) (eqInt64S_l0 x y h hx x.length 0 (by omega) (by simp))
    unfold laws_eqInt64S.f
    rw [if_pos (by omega)]; rfl
  · refine Ev.congr (f := fun _ => some (decide (x = y))) (fun k => ?_) (Ev.now _)
    unfold laws_eqInt64S.f
    rw [if_neg (by omega)]
    have : x ≠ y := fun e => h (by rw [e])
    simp [this]
theorem eqInt64S_self (x : List Int) (hx : x.length ≤ 9223372036854775807) : Ev (fun k => laws_eqInt64S.f k x x) true := by
  have := eqInt64S_ev x x hx
  simpa using this
/-- The reference's 'in' is the program's 'within'. -/
theorem in_inW (n a b : Int) : spec_l01In.f n a b = some (inW n a b) := by
  unfold spec_l01In.f inW
  by_cases h : a ≤ n <;> simp [h]
-- What the verifier writes into results, and finds there again.
def countUp : Int → Nat → List Int
  | _, 0 => []
  | m, n + 1 => m :: countUp (m + 1) n
theorem countUp_len : ∀ (n : Nat) (m : Int), (countUp m n).length = n
  | 0, _ => rfl
  | n + 1, m => by simp [countUp, countUp_len n]
theorem countUp_get : ∀ (n : Nat) (m : Int) (i : Nat) (h : i < (countUp m n).length), (countUp m n)[i] = m + i
  | 0, m, i, h => by simp [countUp] at h
  | n + 1, m, 0, h => by simp [countUp]
  | n + 1, m, i + 1, h => by
    have := countUp_get n (m + 1) i (by simpa [countUp] using h)
    simp only [countUp, List.getElem_cons_succ]
    rw [this]; omega
theorem mark_l0 (m0 : Int) (h0 : 0 ≤ m0) : ∀ (d i : Nat) (x : List Int), i + d = x.length → m0 + x.length ≤ 4611686018427387904 → (∀ (j : Nat) (hj : j < x.length), j < i → x[j] = m0 + j) →
    Ev (fun k => laws_markInt64S.l0 k x (m0 + i) i) (m0 + x.length, countUp m0 x.length) := by
  intro d
  induction d with
  | zero =>
    intro i x hi hb hx
    have e : x = countUp m0 x.length := by
      apply List.ext_getElem
      · rw [countUp_len]
      · intro j h1 h2
        rw [hx j h1 (by omega), countUp_get]
    refine Ev.step (f := fun _ => some (m0 + x.length, countUp m0 x.length)) (fun k => ?_) (Ev.now _)
    simp only [laws_markInt64S.l0]
    rw [if_neg (by omega), ← e]
    have : i = x.length := by omega
    rw [this]
  | succ d ih =>
    intro i x hi hb hx
    have hlt : i < x.length := by omega
    have := ih (i + 1) (x.set i (m0 + i)) (by simp; omega) (by simpa using hb) (fun j hj hji => by
      rw [List.getElem_set]
      split
      · rename_i e; rw [e]
      · rename_i e; exact hx j (by simpa using hj) (by omega))
    rw [List.length_set] at this
    refine Ev.step (fun k => ?_) this
    have w1 : wrap64 (m0 + i + 1) = m0 + ((i + 1 : Nat) : Int) := by unfold wrap64; omega
    have w2 : wrap64 ((i : Int) + 1) = ((i + 1 : Nat) : Int) := by unfold wrap64; omega
    simp only [laws_markInt64S.l0]
    rw [if_pos (by omega), if_pos (by omega), w1, w2, Int.toNat_natCast]
theorem mark_ev (m : Int) (h0 : 0 ≤ m) (x : List Int) (hb : m + x.length ≤ 4611686018427387904) : Ev (fun k => laws_markInt64S.f k x m) (m + x.length, countUp m x.length) := by
  have := mark_l0 m h0 x.length 0 x (by omega) hb (fun j _ h => by omega)
  refine Ev.congr (fun k => ?_) this
  unfold laws_markInt64S.f
  simp
theorem held_l0 (m0 : Int) (h0 : 0 ≤ m0) (x : List Int) (hb : m0 + x.length ≤ 4611686018427387904) (hx : ∀ (j : Nat) (hj : j < x.length), x[j] = m0 + j) : ∀ (d i : Nat), i + d = x.length →
    Ev (fun k => laws_heldInt64S.l0 k x (m0 + i) i) (m0 + x.length) := by
  intro d
  induction d with
  | zero =>
    intro i hi
    refine Ev.step (f := fun _ => some (m0 + x.length)) (fun k => ?_) (Ev.now _)
    simp only [laws_heldInt64S.l0]
    rw [if_neg (by omega)]
    have : i = x.length := by omega
    rw [this]
  | succ d ih =>
    intro i hi
    have hlt : i < x.length := by omega
    refine Ev.step (fun k => ?_) (ih (i + 1) (by omega))
    have w1 : wrap64 (m0 + i + 1) = m0 + ((i + 1 : Nat) : Int) := by unfold wrap64; omega
    have w2 : wrap64 ((i : Int) + 1) = ((i + 1 : Nat) : Int) := by unfold wrap64; omega
    simp only [laws_heldInt64S.l0]
    rw [if_pos (by omega), if_pos (by omega), rd_get x i hlt, hx i hlt, if_pos rfl, w1, w2]
theorem held_ev (m : Int) (h0 : 0 ≤ m) (n : Nat) (hb : m + n ≤ 4611686018427387904) : Ev (fun k => laws_heldInt64S.f k (countUp m n) m) (m + n) := by
  have := held_l0 m h0 (countUp m n) (by rw [countUp_len]; exact hb) (fun j hj => countUp_get n m j hj) n 0 (by rw [countUp_len]; omega)
  rw [countUp_len] at this
  refine Ev.congr (fun k => ?_) this
  unfold laws_heldInt64S.f
  simp
-- Placements: the reference's list is the ascending list of all placements.
theorem asc_raise : ∀ (l : List Int) (lo lo' : Int), Asc lo l → (∀ z ∈ l, lo' ≤ z) → Asc lo' l
  | [], _, _, _, _ => trivial
  | a :: _, _, _, h, hz => ⟨hz a (List.mem_cons_self ..), h.2⟩
theorem asc_insert : ∀ (l1 l2 : List Int) (lo x : Int), Asc lo (l1 ++ l2) → (∀ z ∈ l1, z < x) → (∀ z ∈ l2, x < z) → lo ≤ x → Asc lo (l1 ++ [x] ++ l2)
  | [], l2, lo, x, h, _, h2, hx => ⟨hx, asc_raise l2 lo (x + 1) h (fun z hz => by have := h2 z hz; omega)⟩
  | a :: r, l2, lo, x, h, h1, h2, hx => ⟨h.1, asc_insert r l2 (a + 1) x h.2 (fun z hz => h1 z (List.mem_cons_of_mem _ hz)) h2 (by have := h1 a (List.mem_cons_self ..); omega)⟩
theorem asc_lt : ∀ (l : List Int) (lo : Int), Asc lo l → ∀ (i j : Nat) (hi : i < l.length) (hj : j < l.length), i < j → l[i] < l[j]
  | a :: r, lo, h, i, j + 1, hi, hj, hij => by
    cases i with
    | zero =>
      have := asc_le r (a + 1) h.2 (r[j]'(by simpa using hj)) (List.getElem_mem _)
      simp only [List.getElem_cons_zero, List.getElem_cons_succ]
      omega
    | succ i =>
      simp only [List.getElem_cons_succ]
      exact asc_lt r (a + 1) h.2 i j (by simpa using hi) (by simpa using hj) (by omega)
theorem own_val (l : List Int) (h : l.length ≤ 1000000) : spec_l01Own.f l = some l := by
  unfold spec_l01Own.f
  simp only [Option.bind_some, List.nil_append]
  rw [if_pos (by simp; omega)]
/-- The reference's insertion: one number more, still ascending. -/
def PutOf (lo : Int) (l : List Int) (x : Int) (r : List Int) : Prop := Asc lo r ∧ r.length ≤ l.length + 1 ∧ ∀ z, z ∈ r ↔ z ∈ l ∨ z = x
theorem put_mid (lo : Int) (l : List Int) (x : Int) (n : Nat) (h : Asc lo l) (hx : lo ≤ x) (hn : n ≤ l.length) (h1 : ∀ i (hi : i < l.length), i < n → l[i] < x) (h2 : ∀ i (hi : i < l.length), n ≤ i → x < l[i]) : PutOf lo l x (l.take n ++ [x] ++ l.drop n) := by
  refine ⟨asc_insert _ _ _ _ (by rw [List.take_append_drop]; exact h) (fun z hz => ?_) (fun z hz => ?_) hx, by simp; omega, fun z => ?_⟩
  · obtain ⟨i, hi, rfl⟩ := List.mem_iff_getElem.1 hz
    rw [List.getElem_take]
    rw [List.length_take] at hi
    exact h1 i (by omega) (by omega)
  · obtain ⟨i, hi, rfl⟩ := List.mem_iff_getElem.1 hz
    rw [List.getElem_drop]
    rw [List.length_drop] at hi
    exact h2 (n + i) (by omega) (by omega)
  · have := List.take_append_drop n l
    constructor
    · intro hz
      rcases List.mem_append.1 hz with hz | hz
      · rcases List.mem_append.1 hz with hz | hz
        · exact .inl (List.mem_of_mem_take hz)
        · exact .inr (List.mem_singleton.1 hz)
      · exact .inl (List.mem_of_mem_drop hz)
    · rintro (hz | rfl)
      · rw [← this] at hz
        rcases List.mem_append.1 hz with hz | hz
        · exact List.mem_append_left _ (List.mem_append_left _ hz)
        · exact List.mem_append_right _ hz
      · exact List.mem_append_left _ (List.mem_append_right _ (List.mem_singleton.2 rfl))
theorem put_l0 (lo : Int) (l : List Int) (x : Int) (h : Asc lo l) (hx : lo ≤ x) (hl : l.length ≤ 100000) : ∀ n, n ≤ l.length → (∀ i (hi : i < l.length), n ≤ i → x < l[i]) →
    ∃ r, Ev (fun k => spec_l01Put.l0 k l x (n : Int)) r ∧ PutOf lo l x r := by
  intro n
  induction n with
  | zero =>
    intro _ h2
    refine ⟨_, ?_, put_mid lo l x 0 h hx (by omega) (fun i _ hi => by omega) h2⟩
    refine Ev.step (f := fun _ => some _) (fun k => ?_) (Ev.now _)
    simp only [spec_l01Put.l0]
    rw [if_neg (by omega), if_pos (by omega), if_pos (by omega), own_val _ (by rw [List.length_take]; omega)]
    simp only [Option.bind_some]
    rw [if_pos (by simp), if_pos (by simp; omega)]
    rfl
  | succ m ih =>
    intro hm h2
    have hml : m < l.length := by omega
    have hw : wrap64 (((m + 1 : Nat) : Int) - 1) = (m : Int) := by unfold wrap64; omega
    have hrd : rd l (m : Int) = l[m] := rd_get l m hml
    by_cases hgt : l[m] > x
    · obtain ⟨r, h3, h4⟩ := ih (by omega) (fun i hi hmi => by
        by_cases e : i = m
        · subst e; exact hgt
        · exact h2 i hi (by omega))
      refine ⟨r, Ev.step (fun k => ?_) h3, h4⟩
      simp only [spec_l01Put.l0]
      rw [if_pos (by omega), hw, if_pos (by omega), if_pos (by omega), hrd, if_pos hgt]
    · by_cases he : l[m] = x
      · refine ⟨l, ?_, h, by omega, fun z => ⟨.inl, ?_⟩⟩
        · refine Ev.step (f := fun _ => some l) (fun k => ?_) (Ev.now _)
          simp only [spec_l01Put.l0]
          rw [if_pos (by omega), hw, if_pos (by omega), if_pos (by omega), hrd, if_neg hgt, if_pos he]
        · rintro (hz | rfl)
          · exact hz
          · rw [← he]; exact List.getElem_mem _
      · refine ⟨_, ?_, put_mid lo l x (m + 1) h hx (by omega) (fun i hi him => ?_) h2⟩
        · refine Ev.step (f := fun _ => some _) (fun k => ?_) (Ev.now _)
          simp only [spec_l01Put.l0]
          rw [if_pos (by omega), hw, if_pos (by omega), if_pos (by omega), hrd, if_neg hgt, if_neg he, if_pos (by omega), if_pos (by omega), Int.toNat_natCast, own_val _ (by rw [List.length_take]; omega)]
          simp only [Option.bind_some]
          rw [if_pos (by simp; omega), if_pos (by simp; omega)]
        · by_cases e : i = m
          · subst e; omega
          · have := asc_lt l lo h i m hi hml (by omega)
            omega
theorem put_ev (lo : Int) (l : List Int) (x : Int) (h : Asc lo l) (hx : lo ≤ x) (hl : l.length ≤ 100000) : ∃ r, Ev (fun k => spec_l01Put.f k l x) r ∧ PutOf lo l x r := by
  unfold spec_l01Put.f
  exact put_l0 lo l x h hx hl l.length (Nat.le_refl _) (fun i hi h1 => by omega)
/-- The reference's bits of a row and of a column. -/
theorem place_l2 {W H n y x : Nat} (hW : 1 ≤ W ∧ W ≤ 5) (hH : H ≤ 5) (hn : 1 ≤ n ∧ n ≤ 5) (hy : y < H) (hx : x < W) (xs ships : List Int) (v : List Int)
    (hfin : Ev (fun k => if (wrap64 ((x : Int) + (n : Int))) ≤ (W : Int) then ((spec_l01Put.f k xs ((rowN (W * y + x) 1 n : Nat) : Int)).bind fun t157 => (if (wrap64 ((y : Int) + (n : Int))) ≤ (H : Int) then ((spec_l01Put.f k t157 ((rowN (W * y + x) W n : Nat) : Int)).bind fun t160 => (spec_l09Placements.l1 k n t160 y (wrap64 ((x : Int) + 1)) W H ships)) else (spec_l09Placements.l1 k n t157 y (wrap64 ((x : Int) + 1)) W H ships))) else (if (wrap64 ((y : Int) + (n : Int))) ≤ (H : Int) then ((spec_l01Put.f k xs ((rowN (W * y + x) W n : Nat) : Int)).bind fun t163 => (spec_l09Placements.l1 k n t163 y (wrap64 ((x : Int) + 1)) W H ships)) else (spec_l09Placements.l1 k n xs y (wrap64 ((x : Int) + 1)) W H ships))) v) :
    ∀ d i : Nat, i + d = n → Ev (fun k => spec_l09Placements.l2 k n xs y x ((rowN (W * y + x) 1 i : Nat) : Int) ((rowN (W * y + x) W i : Nat) : Int) i W H ships) v := by
  intro d
  induction d with
  | zero =>
    intro i hi
    have e : i = n := by omega
    subst e
    refine Ev.step (fun k => ?_) hfin
    simp only [spec_l09Placements.l2]
    rw [if_neg (by omega)]
  | succ d ih =>
    intro i hi
    have hWy : W * y ≤ 5 * 4 := Nat.mul_le_mul hW.2 (by omega)
    have hiW : i * W ≤ 4 * 5 := Nat.mul_le_mul (by omega) hW.2
    obtain ⟨p, hp⟩ : ∃ p, W * y = p := ⟨_, rfl⟩
    obtain ⟨q, hq⟩ : ∃ q, i * W = q := ⟨_, rfl⟩
    have hpb : p ≤ 20 := by omega
    have hqb : q ≤ 20 := by omega
    have hxb : x ≤ 5 := by omega
    have hyb : y ≤ 5 := by omega
    have hib : i ≤ 5 := by omega
    have hin : (i : Int) < (n : Int) := by omega
    have b0 : p + x ≤ 1000 := by omega
    have b1 : p + q ≤ 1000 := by omega
    have b2 : y + i ≤ 1000 := by omega
    have b3 : p + x + i ≤ 1000 := by omega
    have b4 : p ≤ 1000 := by omega
    have b5 : x ≤ 1000 := by omega
    have b6 : i ≤ 1000 := by omega
    have b7 : y ≤ 1000 := by omega
    have u1 := u64_nat (p + x + i) (by omega)
    have u2 := u64_nat (p + x + q) (by omega)
    have s1 := shl_nat (p + x + i) (by omega)
    have s2 := shl_nat (p + x + q) (by omega)
    have b60 : ∀ a, a < 60 → 2 ^ a < 9223372036854775808 := fun a ha => Nat.lt_of_lt_of_le (Nat.pow_lt_pow_right (by omega) ha) pow60_le
    have r1 : rowN (p + x) 1 i < 9223372036854775808 := Nat.lt_of_lt_of_le (rowN_lt (p + x) 1 i 60 (fun a ha => by omega)) pow60_le
    have r2 : rowN (p + x) W i < 9223372036854775808 := Nat.lt_of_lt_of_le (rowN_lt (p + x) W i 60 (fun a ha => by
      have : a * W ≤ 4 * 5 := Nat.mul_le_mul (by omega) hW.2
      omega)) pow60_le
    have o1 : Go.bits .or .i64 ((rowN (p + x) 1 i : Nat) : Int) ((2 ^ (p + x + i) : Nat) : Int) = ((rowN (p + x) 1 (i + 1) : Nat) : Int) := by
      rw [bits_or_nat _ _ r1 (b60 _ (by omega))]
      show _ = ((rowN (p + x) 1 i ||| 2 ^ (p + x + i * 1) : Nat) : Int)
      rw [Nat.mul_one]
    have o2 : Go.bits .or .i64 ((rowN (p + x) W i : Nat) : Int) ((2 ^ (p + x + q) : Nat) : Int) = ((rowN (p + x) W (i + 1) : Nat) : Int) := by
      rw [bits_or_nat _ _ r2 (b60 _ (by omega))]
      show _ = ((rowN (p + x) W i ||| 2 ^ (p + x + i * W) : Nat) : Int)
      rw [hq]
    have ih1 := ih (i + 1) (by omega)
    rw [hp] at ih1 ⊢
    have ex : p + q + x = p + x + q := by omega
    have hyw : y * W = p := (Nat.mul_comm y W).trans hp
    have e1 : wrap64 ((y : Int) * (W : Int)) = (p : Int) := wrap_mul hyw b4
    have e2 : wrap64 (wrap64 ((p : Int) + (x : Int)) + (i : Int)) = ((p + x + i : Nat) : Int) := by rw [wrap_add b4 b5]; exact wrap_add b0 b6
    have e3 : wrap64 ((y : Int) + (i : Int)) = ((y + i : Nat) : Int) := wrap_add b7 b6
    have e4 : wrap64 (((y + i : Nat) : Int) * (W : Int)) = ((p + q : Nat) : Int) := wrap_mul (by rw [Nat.add_mul, Nat.mul_comm y W, hp, hq]) b1
    have e5 : wrap64 (((p + q : Nat) : Int) + (x : Int)) = ((p + x + q : Nat) : Int) := by rw [← ex]; exact wrap_add b1 b5
    have e6 : wrap64 ((i : Int) + 1) = ((i + 1 : Nat) : Int) := wrap_one b6
    refine Ev.step (fun k => ?_) ih1
    simp only [spec_l09Placements.l2]
    rw [if_pos hin, e1, e2, e3, e4, e5, u1, u2, if_pos (Int.natCast_nonneg _), if_pos (Int.natCast_nonneg _), s1, s2, o1, o2, e6]
/-- What has been found when all cells before a cell have been looked at. -/
def PlInv (W H n c : Nat) (xs : List Int) : Prop := Asc 0 xs ∧ xs.length ≤ 2 * c ∧ ∀ z, z ∈ xs ↔ z ∈ placeTo W H n c
theorem pl_done {W H n : Nat} {xs : List Int} (hW : 1 ≤ W ∧ W ≤ 5) (hH : H ≤ 5) (hn : 1 ≤ n) (h : PlInv W H n (W * H) xs) : xs = placesOf W H n := by
  have hp := placesOf_asc hW.1 hW.2 hH hn
  exact asc_ext _ _ 0 h.1 hp.1 (fun z => by rw [h.2.2, hp.2])
theorem place_l1 {W H n y : Nat} (hW : 1 ≤ W ∧ W ≤ 5) (hH : H ≤ 5) (hn : 1 ≤ n ∧ n ≤ 5) (hy : y < H) (ships : List Int)
    (hnext : ∀ xs, PlInv W H n (W * (y + 1)) xs → Ev (fun k => spec_l09Placements.l0 k n xs ((y + 1 : Nat) : Int) W H ships) (placesOf W H n)) :
    ∀ (d x : Nat) (xs : List Int), x + d = W → PlInv W H n (W * y + x) xs → Ev (fun k => spec_l09Placements.l1 k n xs y x W H ships) (placesOf W H n) := by
  intro d
  induction d with
  | zero =>
    intro x xs hx hI
    have e : x = W := by omega
    subst e
    have := hnext xs (by rw [Nat.mul_add, Nat.mul_one]; exact hI)
    refine Ev.step (fun k => ?_) this
    simp only [spec_l09Placements.l1]
    rw [if_neg (by omega), wrap_one (a := y) (by omega)]
  | succ d ih =>
    intro x xs hx hI
    have hxW : x < W := by omega
    have hc : W * y + x < W * H := by
      have : W * (y + 1) ≤ W * H := Nat.mul_le_mul_left W hy
      rw [Nat.mul_add, Nat.mul_one] at this
      omega
    have hcs : W * H ≤ 25 := place_small_ hW.2 hH
    have hmod : (W * y + x) % W = x := by rw [Nat.mul_add_mod, Nat.mod_eq_of_lt hxW]
    have hdiv : (W * y + x) / W = y := by rw [Nat.mul_add_div (by omega), Nat.div_eq_of_lt hxW, Nat.add_zero]
    have hat : ∀ z, z ∈ placeTo W H n (W * y + x + 1) ↔ z ∈ placeTo W H n (W * y + x) ∨ ((x + n ≤ W ∧ z = ((rowN (W * y + x) 1 n : Nat) : Int)) ∨ (y + n ≤ H ∧ z = ((rowN (W * y + x) W n : Nat) : Int))) := by
      intro z
      show z ∈ placeTo W H n (W * y + x) ++ placeAt W H n (W * y + x) ↔ _
      rw [List.mem_append]
      unfold placeAt
      rw [hmod, hdiv, List.mem_append]
      by_cases h1 : x + n ≤ W <;> by_cases h2 : y + n ≤ H <;> simp [h1, h2]
    obtain ⟨hA, hL, hM⟩ := hI
    have bx : x ≤ 1000 := by omega
    have by_ : y ≤ 1000 := by omega
    have bn : n ≤ 1000 := by omega
    have hw1 := Aside0.mk (wrap_add bx bn)
    have hw2 := Aside0.mk (wrap_add by_ bn)
    have hw3 := Aside0.mk (wrap_one bx)
    have z0 : ∀ a b m : Nat, (0 : Int) ≤ ((rowN a b m : Nat) : Int) := fun _ _ _ => Int.natCast_nonneg _
    have hnxt : ∀ ys, PlInv W H n (W * y + x + 1) ys → Ev (fun k => spec_l09Placements.l1 k n ys y (wrap64 ((x : Int) + 1)) W H ships) (placesOf W H n) := fun ys h => by
      rw [hw3.out]; exact ih (x + 1) ys (by omega) h
    refine Ev.step (fun k => ?_) (place_l2 hW hH hn hy hxW xs ships (placesOf W H n) ?_ n 0 (by omega))
    · simp only [spec_l09Placements.l1]
      rw [if_pos (by omega)]
      rfl
    · rw [hw1.out, hw2.out]
      by_cases h1 : x + n ≤ W
      · obtain ⟨r1, p1, p1a, p1l, p1m⟩ := put_ev 0 xs _ hA (z0 (W * y + x) 1 n) (by omega)
        by_cases h2 : y + n ≤ H
        · obtain ⟨r2, p2, p2a, p2l, p2m⟩ := put_ev 0 r1 _ p1a (z0 (W * y + x) W n) (by omega)
          refine Ev.congr (fun k => by rw [if_pos (by omega)]) (Ev.bind p1 (Ev.congr (fun k => by rw [if_pos (by omega)]) (Ev.bind p2 (hnxt r2 ⟨p2a, by omega, fun z => ?_⟩))))
          rw [p2m, p1m, hM, hat]; simp [h1, h2, or_assoc]
        · refine Ev.congr (fun k => by rw [if_pos (by omega)]) (Ev.bind p1 (Ev.congr (fun k => by rw [if_neg (by omega)]) (hnxt r1 ⟨p1a, by omega, fun z => ?_⟩)))
          rw [p1m, hM, hat]; simp [h1, h2]
      · by_cases h2 : y + n ≤ H
        · obtain ⟨r2, p2, p2a, p2l, p2m⟩ := put_ev 0 xs _ hA (z0 (W * y + x) W n) (by omega)
          refine Ev.congr (fun k => by rw [if_neg (by omega), if_pos (by omega)]) (Ev.bind p2 (hnxt r2 ⟨p2a, by omega, fun z => ?_⟩))
          rw [p2m, hM, hat]; simp [h1, h2]
        · refine Ev.congr (fun k => by rw [if_neg (by omega), if_neg (by omega)]) (hnxt xs ⟨hA, by omega, fun z => ?_⟩)
          rw [hM, hat]; simp [h1, h2]
theorem place_l0 {W H n : Nat} (hW : 1 ≤ W ∧ W ≤ 5) (hH : H ≤ 5) (hn : 1 ≤ n ∧ n ≤ 5) (ships : List Int) :
    ∀ (d y : Nat) (xs : List Int), y + d = H → PlInv W H n (W * y) xs → Ev (fun k => spec_l09Placements.l0 k n xs y W H ships) (placesOf W H n) := by
  intro d
  induction d with
  | zero =>
    intro y xs hy hI
    have e : y = H := by omega
    subst e
    obtain rfl := pl_done hW hH hn.1 hI
    refine Ev.step (f := fun _ => some (placesOf W y n)) (fun k => ?_) (Ev.now _)
    simp only [spec_l09Placements.l0]
    rw [if_neg (by omega)]
  | succ d ih =>
    intro y xs hy hI
    refine Ev.step (fun k => ?_) (place_l1 hW hH hn (by omega) ships (fun ys h => ih (y + 1) ys (by omega) h) W 0 xs (by omega) (by rw [Nat.add_zero]; exact hI))
    simp only [spec_l09Placements.l0]
    rw [if_pos (by omega)]
    rfl
theorem specPlacements_ev {W H n : Nat} (hW : 1 ≤ W ∧ W ≤ 5) (hH : H ≤ 5) (hn : 1 ≤ n ∧ n ≤ 5) (ships : List Int) : Ev (fun k => spec_l09Placements.f k W H ships n) (placesOf W H n) := by
  unfold spec_l09Placements.f
  exact place_l0 hW hH hn ships H 0 [] (by omega) ⟨trivial, by simp, fun z => by simp [placeTo]⟩
/-- The verifier's count of a list. -/
theorem szInt64S_val (l : List Int) (a : Int) (hl : l.length ≤ maxLen) (h0 : 0 ≤ a) (h1 : a ≤ 1048576) : laws_szInt64S.f l a = some (if a < l.length then -1 else a - l.length) := by
  unfold maxLen at hl
  have e : wrap64 (a - (l.length : Int)) = a - l.length := by unfold wrap64; omega
  unfold laws_szInt64S.f
  rw [e]
  by_cases h : a < l.length
  · rw [if_pos h, if_pos (by omega)]
  · rw [if_neg h, if_neg (by omega)]
/-- Seas: the ships, one after the other. -/
def shipsFrom (l : List Int) : Nat → Nat → Bool
  | _, 0 => true
  | i, d + 1 => inW (rd l i) 1 5 && !(decide (0 < i) && decide (rd l i > rd l ((i : Int) - 1))) && shipsFrom l (i + 1) d
def seaV (w h : Int) (l : List Int) : Bool := inW w 1 5 && inW h 1 5 && inW l.length 1 3 && shipsFrom l 0 l.length
theorem wrap_prev {i : Nat} (h0 : 0 < i) (hn : i ≤ 9223372036854775807) : wrap64 ((i : Int) - 1) = (i : Int) - 1 := by
  unfold wrap64; omega
theorem l09Is_l0 (w h : Int) (l : List Int) (hl : l.length ≤ 9223372036854775807) : ∀ (d i : Nat), i + d = l.length → Ev (fun k => spec_l09Is.l0 k i w h l) (shipsFrom l i d) := by
  intro d
  induction d with
  | zero =>
    intro i hi
    refine Ev.step (f := fun _ => some _) (fun k => ?_) (Ev.now _)
    simp only [spec_l09Is.l0]
    rw [if_neg (by omega)]; rfl
  | succ d ih =>
    intro i hi
    have hlt : i < l.length := by omega
    unfold shipsFrom
    cases he : inW (rd l i) 1 5 with
    | false =>
      refine Ev.step (f := fun _ => some _) (fun k => ?_) (Ev.now _)
      simp only [spec_l09Is.l0]
      rw [if_pos (by omega), if_pos (by omega), in_inW, he]; simp
    | true =>
      have ih1 := ih (i + 1) (by omega)
      by_cases h0 : 0 < i
      · by_cases h1 : rd l i > rd l ((i : Int) - 1)
        · rw [decide_eq_true h0, decide_eq_true h1]
          refine Ev.step (f := fun _ => some _) (fun k => ?_) (Ev.now _)
          simp only [spec_l09Is.l0]
          rw [if_pos (by omega), if_pos (by omega), in_inW, he, Option.bind_some, if_pos rfl, if_pos (by omega), wrap_prev h0 (by omega), if_pos (by omega), if_pos (by omega), if_pos h1]; rfl
        · rw [decide_eq_true h0, decide_eq_false h1]
          refine Ev.step (f := fun k => spec_l09Is.l0 k ((i + 1 : Nat) : Int) w h l) (fun k => ?_) (by simpa using ih1)
          simp only [spec_l09Is.l0]
          rw [if_pos (by omega), if_pos (by omega), in_inW, he, Option.bind_some, if_pos rfl, if_pos (by omega), wrap_prev h0 (by omega), if_pos (by omega), if_pos (by omega), if_neg h1, wrap_next hlt hl]
      · rw [decide_eq_false h0]
        refine Ev.step (f := fun k => spec_l09Is.l0 k ((i + 1 : Nat) : Int) w h l) (fun k => ?_) (by simpa using ih1)
        simp only [spec_l09Is.l0]
        rw [if_pos (by omega), if_pos (by omega), in_inW, he, Option.bind_some, if_pos rfl, if_neg (by omega), wrap_next hlt hl]
theorem implIsSea_l0 (w h : Int) (l : List Int) (hl : l.length ≤ 9223372036854775807) : ∀ (d i : Nat), i + d = l.length → Ev (fun k => impl_IsSea.l0 k l l.length i w h l) (shipsFrom l i d) := by
  intro d
  induction d with
  | zero =>
    intro i hi
    refine Ev.step (f := fun _ => some _) (fun k => ?_) (Ev.now _)
    simp only [impl_IsSea.l0]
    rw [if_neg (by omega)]; rfl
  | succ d ih =>
    intro i hi
    have hlt : i < l.length := by omega
    unfold shipsFrom
    cases he : inW (rd l i) 1 5 with
    | false =>
      refine Ev.step (f := fun _ => some _) (fun k => ?_) (Ev.now _)
      simp only [impl_IsSea.l0]
      rw [if_pos (by omega), if_pos (by omega), if_pos (by omega), within_inW, he]; simp
    | true =>
      have ih1 := ih (i + 1) (by omega)
      by_cases h0 : 0 < i
      · by_cases h1 : rd l i > rd l ((i : Int) - 1)
        · rw [decide_eq_true h0, decide_eq_true h1]
          refine Ev.step (f := fun _ => some _) (fun k => ?_) (Ev.now _)
          simp only [impl_IsSea.l0]
          rw [if_pos (by omega), if_pos (by omega), if_pos (by omega), within_inW, he, Option.bind_some, if_pos rfl, if_pos (by omega), wrap_prev h0 (by omega), if_pos (by omega), if_pos (by omega), if_pos h1]; rfl
        · rw [decide_eq_true h0, decide_eq_false h1]
          refine Ev.step (f := fun k => impl_IsSea.l0 k l l.length ((i + 1 : Nat) : Int) w h l) (fun k => ?_) (by simpa using ih1)
          simp only [impl_IsSea.l0]
          rw [if_pos (by omega), if_pos (by omega), if_pos (by omega), within_inW, he, Option.bind_some, if_pos rfl, if_pos (by omega), wrap_prev h0 (by omega), if_pos (by omega), if_pos (by omega), if_neg h1, wrap_next hlt hl]
      · rw [decide_eq_false h0]
        refine Ev.step (f := fun k => impl_IsSea.l0 k l l.length ((i + 1 : Nat) : Int) w h l) (fun k => ?_) (by simpa using ih1)
        simp only [impl_IsSea.l0]
        rw [if_pos (by omega), if_pos (by omega), if_pos (by omega), within_inW, he, Option.bind_some, if_pos rfl, if_neg (by omega), wrap_next hlt hl]
theorem l09Is_ev (w h : Int) (l : List Int) (hl : l.length ≤ 9223372036854775807) : Ev (fun k => spec_l09Is.f k w h l) (seaV w h l) := by
  unfold spec_l09Is.f seaV
  rw [in_inW, in_inW, in_inW]
  have hj : Ev (fun k => spec_l09Is.j0 k true w h l) false := Ev.step (f := fun _ => some false) (fun k => by simp only [spec_l09Is.j0]; rw [if_pos trivial]) (Ev.now _)
  cases inW w 1 5 with
  | false => exact Ev.congr (fun k => by rw [Option.bind_some, if_neg (by simp)]) hj
  | true =>
    cases inW h 1 5 with
    | false => exact Ev.congr (fun k => by rw [Option.bind_some, if_pos rfl, Option.bind_some, if_neg (by simp)]) hj
    | true =>
      cases inW l.length 1 3 with
      | false => exact Ev.congr (fun k => by rw [Option.bind_some, if_pos rfl, Option.bind_some, if_pos rfl, Option.bind_some]; rfl) hj
      | true =>
        have := l09Is_l0 w h l hl l.length 0 (by omega)
        refine Ev.congr (f := fun k => spec_l09Is.j0 k false w h l) (fun k => by rw [Option.bind_some, if_pos rfl, Option.bind_some, if_pos rfl, Option.bind_some]; rfl) (Ev.step (fun k => ?_) this)
        simp only [spec_l09Is.j0]
        rw [if_neg (by simp)]; rfl
theorem implIsSea_ev (w h : Int) (l : List Int) (hl : l.length ≤ 9223372036854775807) : Ev (fun k => impl_IsSea.f k w h l) (seaV w h l) := by
  unfold impl_IsSea.f seaV
  have hs : impl_size_int64.f l = some (l.length : Int) := rfl
  rw [within_inW, within_inW, hs]
  have hj : Ev (fun k => impl_IsSea.j0 k true w h l) false := Ev.step (f := fun _ => some false) (fun k => by simp only [impl_IsSea.j0]; rw [if_pos trivial]) (Ev.now _)
  cases inW w 1 5 with
  | false => exact Ev.congr (fun k => by rw [Option.bind_some, if_neg (by simp)]) hj
  | true =>
    cases inW h 1 5 with
    | false => exact Ev.congr (fun k => by rw [Option.bind_some, if_pos rfl, Option.bind_some, if_neg (by simp)]) hj
    | true =>
      cases h3 : inW l.length 1 3 with
      | false => exact Ev.congr (fun k => by rw [Option.bind_some, if_pos rfl, Option.bind_some, if_pos rfl, Option.bind_some, within_inW, h3, Option.bind_some]; rfl) hj
      | true =>
        have := implIsSea_l0 w h l hl l.length 0 (by omega)
        refine Ev.congr (f := fun k => impl_IsSea.j0 k false w h l) (fun k => by rw [Option.bind_some, if_pos rfl, Option.bind_some, if_pos rfl, Option.bind_some, within_inW, h3, Option.bind_some]; rfl) (Ev.step (fun k => ?_) this)
        simp only [impl_IsSea.j0]
        rw [if_neg (by simp)]; rfl
/-- The verifier's helpers on seas. -/
theorem szSea_ev (w h : Int) (l : List Int) (hl : l.length ≤ maxLen) : ∃ v, laws_szSea.f w h l 1048576 = some v ∧ (v = -1 ∨ 0 ≤ v ∧ l.length ≤ 1048576) := by
  unfold laws_szSea.f
  rw [szInt64S_val l 1048576 hl (by omega) (by omega), Option.bind_some]
  by_cases h : (1048576 : Int) < l.length
  · rw [if_pos h]; exact ⟨-1, rfl, .inl rfl⟩
  · rw [if_neg h, if_neg (by omega)]; exact ⟨_, rfl, .inr ⟨by omega, by omega⟩⟩
theorem toSea_ev (w h : Int) (l : List Int) (hl : l.length ≤ 1048576) : Ev (fun k => laws_toSea.f k w h l) (w, h, l) := by
  unfold laws_toSea.f
  exact Ev.bind (toInt64S_ev l (by omega)) (Ev.now _)
theorem eqSea_self (w h : Int) (l : List Int) (hl : l.length ≤ 1048576) : Ev (fun k => laws_eqSea.f k w h l w h l) true := by
  unfold laws_eqSea.f
  refine Ev.congr (fun k => by rw [if_pos rfl, if_pos rfl]) (Ev.bind (eqInt64S_self l (by omega)) (Ev.congr (fun k => by rw [if_pos rfl]) (Ev.now _)))
-- The verifier's marks over a sea.
theorem markSea_ev (w h : Int) (l : List Int) (hl : l.length ≤ 1048576) : Ev (fun k => laws_markSea.f k w h l 1) (1 + l.length, countUp 1 l.length) := by
  unfold laws_markSea.f
  exact Ev.bind (mark_ev 1 (by omega) l (by omega)) (Ev.now _)
theorem seaV_nat {w h : Int} {l : List Int} (hs : seaV w h l = true) : (∃ wn : Nat, w = wn ∧ 1 ≤ wn ∧ wn ≤ 5) ∧ (∃ hn : Nat, h = hn ∧ 1 ≤ hn ∧ hn ≤ 5) ∧ 1 ≤ l.length ∧ l.length ≤ 3 := by
  unfold seaV at hs
  simp only [Bool.and_eq_true] at hs
  obtain ⟨⟨⟨h1, h2⟩, h3⟩, _⟩ := hs
  unfold inW at h1 h2 h3
  simp only [Bool.and_eq_true, decide_eq_true_eq] at h1 h2 h3
  exact ⟨⟨w.toNat, by omega, by omega, by omega⟩, ⟨h.toNat, by omega, by omega, by omega⟩, by omega, by omega⟩
theorem inW_five {a : Int} (h : inW a 1 5 = true) : ∃ n : Nat, a = (n : Int) ∧ 1 ≤ n ∧ n ≤ 5 := by
  unfold inW at h
  simp only [Bool.and_eq_true, decide_eq_true_eq] at h
  exact ⟨a.toNat, by omega, by omega, by omega⟩
theorem inW_of {n : Nat} (h1 : 1 ≤ n) (h5 : n ≤ 5) : inW (n : Int) 1 5 = true := by
  unfold inW
  rw [decide_eq_true (by omega), decide_eq_true (by omega)]; rfl
theorem placesOf_len {w h n : Nat} (hw : w ≤ 5) (hh : h ≤ 5) : (placesOf w h n).length ≤ 100 := by
  unfold placesOf ascOf
  refine Nat.le_trans (Go.Lib.compact_length_le _) ?_
  rw [List.length_mergeSort]
  have h1 := placeTo_len w h n (w * h)
  have h2 := place_small_ hw hh
  omega
/-- The one pure statement of laws_FnExactPlacementsOf. -/
def laws_FnExactPlacementsOf.Pure : Prop := ∀ (a0_0 : Int) (a0_1 : Int) (l0_2 : List Int) (a1 : Int), (Lit.int .i64 a0_0).wf = true → (Lit.int .i64 a0_1).wf = true → (l0_2.length ≤ maxLen ∧ ∀ y1_ ∈ l0_2, (Lit.int .i64 y1_).wf = true) → (Lit.int .i64 a1).wf = true → ∃ k, laws_FnExactPlacementsOf.f k a0_0 a0_1 l0_2 a1 = some true
/-- A type's readings as data are values of a kind: what an argument of that type is, whatever it holds. -/
def Rdb {α : Type} (P : Program) (t : TypeId) (d : Kd α) (wf : α → Prop) : Prop :=
  ∀ (H : Type) (enc : TypeId × Value → H) (w : World) (base : Nat) (spare : Nat → Bool) (held : Bool) (fuel : Nat) (cs : List Value) (x : DataW H × List MemPlace),
    DataW.trod enc P w base spare held fuel t cs = some x → ∃ a : α, d.K w a cs ∧ wf a
theorem Rdb.int {P : Program} {t : TypeId} {k : IntKind} (ht : P.underlying t = some (.int k)) : Rdb P t (Kd.int k) (fun n => (Lit.int k n).wf = true) := by
  intro H enc w base spare held fuel cs x h
  obtain ⟨n, rfl, _, hw⟩ := DataW.trod_int ht h
  exact ⟨n, rfl, hw⟩
theorem Rdb.bool {P : Program} {t : TypeId} (ht : P.underlying t = some .bool) : Rdb P t Kd.bool (fun _ => True) := by
  intro H enc w base spare held fuel cs x h
  obtain ⟨n, rfl, _⟩ := DataW.trod_bool ht h
  exact ⟨n, rfl, trivial⟩
theorem Rdb.string {P : Program} {t : TypeId} (ht : P.underlying t = some .string) : Rdb P t Kd.string (fun s => s.size ≤ maxLen) := by
  intro H enc w base spare held fuel cs x h
  obtain ⟨s, rfl, _, hs⟩ := DataW.trod_string ht h
  exact ⟨s, rfl, hs⟩
theorem list_choose {α β : Type} {R : Nat → α → β → Prop} : ∀ (n : Nat) (xs : List α), xs.length = n → (∀ i x, xs[i]? = some x → ∃ y, R i x y) → ∃ ys : List β, ys.length = n ∧ ∀ i x y, xs[i]? = some x → ys[i]? = some y → R i x y := by
  intro n xs
  induction xs generalizing n R with
  | nil =>
    intro hl _
    exact ⟨[], by simpa using hl, by intro i x y h; simp at h⟩
  | cons x xs ih =>
    intro hl h
    obtain ⟨y, hy⟩ := h 0 x rfl
    obtain ⟨ys, h1, h2⟩ := ih (R := fun i a b => R (i + 1) a b) (n - 1) (by simp at hl; omega) (fun i a hi => h (i + 1) a (by simpa using hi))
    refine ⟨y :: ys, by simp at hl ⊢; omega, fun i a b ha hb => ?_⟩
    cases i with
    | zero =>
      simp at ha hb
      subst ha hb
      exact hy
    | succ i => exact h2 i a b (by simpa using ha) (by simpa using hb)
theorem Rdb.slice {α : Type} {P : Program} {t e : TypeId} {d : Kd α} {wf : α → Prop} (ht : P.underlying t = some (.slice e)) (hc : P.cellsOf e = d.sz) (h1 : 0 < d.sz) (r : Rdb P e d wf) :
    Rdb P t (Kd.slice e d) (fun l => l.length ≤ maxLen ∧ ∀ x ∈ l, wf x) := by
  intro H enc w base spare held fuel cs x h
  rcases DataW.trod_slice ht h with ⟨rfl, _⟩ | ⟨a, len, cap, elems, rest, n, _, rfl, _, hb, hl, hm, hlen, hel, _, _⟩
  · exact ⟨[], ⟨none, 0, rfl, by simp, Kd.C_nil _ _⟩, by simp, by simp⟩
  · have each : ∀ i (y : DataW H × List MemPlace), elems[i]? = some y → ∃ b : α, ∃ c, w.cells? base (a.add (i * P.cellsOf e)) (P.cellsOf e) = some c ∧ d.K w b c ∧ wf b := by
      intro i y hy
      have hi : i < len := by have := (List.getElem?_eq_some_iff.1 hy).1; omega
      have h2 := hel i hi
      rw [hy, Option.bind_eq_some_iff] at h2
      obtain ⟨c, hcs, htr⟩ := h2
      obtain ⟨b, hK, hw⟩ := r H enc w base spare held n c y htr
      exact ⟨b, c, hcs, hK, hw⟩
    obtain ⟨xs, hx1, hx2⟩ := list_choose (R := fun i _ (b : α) => ∃ c, w.cells? base (a.add (i * P.cellsOf e)) (P.cellsOf e) = some c ∧ d.K w b c ∧ wf b) len elems hlen each
    have get : ∀ i b, xs[i]? = some b → ∃ c, w.cells? base (a.add (i * P.cellsOf e)) (P.cellsOf e) = some c ∧ d.K w b c ∧ wf b := by
      intro i b hb'
      have hi : i < elems.length := by have := (List.getElem?_eq_some_iff.1 hb').1; omega
      exact hx2 i _ b (List.getElem?_eq_getElem hi) hb'
    refine ⟨xs, ⟨some a, cap, by rw [hx1], by omega, ?_⟩, by omega, fun b hb' => ?_⟩
    · refine ⟨rfl, by rw [hx1]; unfold maxLen at hm; omega, fun hp => ⟨a, rfl, fun j b hj => ?_⟩⟩
      obtain ⟨c, hcs, hK, _⟩ := get j b hj
      obtain ⟨_, hcl, hcell⟩ := World.cells?_some hcs
      refine ⟨c, by rw [hcl, hc], hK, fun i u hu => ?_⟩
      have hi : i < P.cellsOf e := by have := (List.getElem?_eq_some_iff.1 hu).1; omega
      have := hcell i hi
      rw [hu] at this
      rw [Addr.add_add] at this
      rw [← hc]
      exact this
    · obtain ⟨i, hi⟩ := List.mem_iff_getElem?.1 hb'
      obtain ⟨_, _, _, hw⟩ := get i b hi
      exact hw
theorem take_all {α : Type} {cs : List α} {n : Nat} (h : cs.length = n) : cs.take n = cs := by rw [← h, List.take_length]
theorem Rdb.struct1 {α : Type} {P : Program} {t : TypeId} {f0 : Field} {d0 : Kd α} {w0 : α → Prop} (ht : P.underlying t = some (.struct #[f0])) (o0 : f0.offset = 0) (c0 : P.cellsOf f0.type = P.cellsOf t) (r0 : Rdb P f0.type d0 w0) : Rdb P t d0 w0 := by
  intro H enc w base spare held fuel cs x h
  obtain ⟨y0, n, _, hl, h0⟩ := ChangeShapes.trod_struct1 ht h
  rw [o0, List.drop_zero, c0, take_all hl] at h0
  exact r0 H enc w base spare held n cs y0 h0
theorem Rdb.struct2 {α β : Type} {P : Program} {t : TypeId} {f0 f1 : Field} {d0 : Kd α} {d1 : Kd β} {w0 : α → Prop} {w1 : β → Prop} (ht : P.underlying t = some (.struct #[f0, f1])) (o0 : f0.offset = 0) (o1 : f1.offset = P.cellsOf f0.type) (cT : P.cellsOf t = P.cellsOf f0.type + P.cellsOf f1.type)
    (r0 : Rdb P f0.type d0 w0) (r1 : Rdb P f1.type d1 w1) : Rdb P t (Kd.pair d0 d1) (fun x => w0 x.1 ∧ w1 x.2) := by
  intro H enc w base spare held fuel cs x h
  obtain ⟨y0, y1, n, _, hl, h0, h1⟩ := ChangeShapes.trod_struct2 ht h
  rw [o0, List.drop_zero] at h0
  rw [o1, List.take_of_length_le (by rw [List.length_drop, hl, cT]; omega)] at h1
  obtain ⟨a, hK0, hw0⟩ := r0 H enc w base spare held n _ y0 h0
  obtain ⟨b, hK1, hw1⟩ := r1 H enc w base spare held n _ y1 h1
  exact ⟨(a, b), ⟨_, _, (List.take_append_drop _ _).symm, hK0, hK1⟩, hw0, hw1⟩
theorem Rdb.struct3 {α β γ : Type} {P : Program} {t : TypeId} {f0 f1 f2 : Field} {d0 : Kd α} {d1 : Kd β} {d2 : Kd γ} {w0 : α → Prop} {w1 : β → Prop} {w2 : γ → Prop} (ht : P.underlying t = some (.struct #[f0, f1, f2])) (o0 : f0.offset = 0) (o1 : f1.offset = P.cellsOf f0.type)
    (o2 : f2.offset = P.cellsOf f0.type + P.cellsOf f1.type) (cT : P.cellsOf t = P.cellsOf f0.type + P.cellsOf f1.type + P.cellsOf f2.type)
    (r0 : Rdb P f0.type d0 w0) (r1 : Rdb P f1.type d1 w1) (r2 : Rdb P f2.type d2 w2) : Rdb P t (Kd.pair d0 (Kd.pair d1 d2)) (fun x => w0 x.1 ∧ w1 x.2.1 ∧ w2 x.2.2) := by
  intro H enc w base spare held fuel cs x h
  obtain ⟨xs, n, _, _, hl, hxl, hf⟩ := DataW.trod_struct ht h
  match xs, hxl with
  | [y0, y1, y2], _ =>
    have h0 : DataW.trod enc P w base spare held n f0.type ((cs.drop f0.offset).take (P.cellsOf f0.type)) = some y0 := by simpa using hf 0 f0 rfl
    have h1 : DataW.trod enc P w base spare held n f1.type ((cs.drop f1.offset).take (P.cellsOf f1.type)) = some y1 := by simpa using hf 1 f1 rfl
    have h2 : DataW.trod enc P w base spare held n f2.type ((cs.drop f2.offset).take (P.cellsOf f2.type)) = some y2 := by simpa using hf 2 f2 rfl
    rw [o0, List.drop_zero] at h0
    rw [o1] at h1
    rw [o2, List.take_of_length_le (by rw [List.length_drop, hl, cT]; omega)] at h2
    obtain ⟨a, hK0, hw0⟩ := r0 H enc w base spare held n _ y0 h0
    obtain ⟨b, hK1, hw1⟩ := r1 H enc w base spare held n _ y1 h1
    obtain ⟨c, hK2, hw2⟩ := r2 H enc w base spare held n _ y2 h2
    refine ⟨(a, b, c), ⟨_, _, (List.take_append_drop (P.cellsOf f0.type) cs).symm, hK0, _, _, ?_, hK1, hK2⟩, hw0, hw1, hw2⟩
    rw [← List.drop_drop, List.take_append_drop]
theorem Rdb.iso {α β : Type} {P : Program} {t : TypeId} {d : Kd α} {wf : α → Prop} (r : Rdb P t d wf) (f : β → α) (g : α → β) (hfg : ∀ a, f (g a) = a) : Rdb P t (Kd.iso d f) (fun b => wf (f b)) := by
  intro H enc w base spare held fuel cs x h
  obtain ⟨a, hK, hw⟩ := r H enc w base spare held fuel cs x h
  exact ⟨g a, by show d.K w (f (g a)) cs; rw [hfg]; exact hK, by show wf (f (g a)); rw [hfg]; exact hw⟩
theorem Rdb.of {α : Type} {P : Program} {t : TypeId} {d : Kd α} {wf : α → Prop} (r : Rdb P t d wf) {H : Type} {enc : TypeId × Value → H} {w : World} {base : Nat} {spare : Nat → Bool} {held : Bool} {v : Value} {x : DataW H} {ps : List MemPlace}
    (h : DataW.Trod enc P w base spare held t v x ps) : ∃ a : α, d.K w a v.cells.toList ∧ wf a := by
  obtain ⟨fuel, hf⟩ := h
  exact r H enc w base spare held fuel _ _ hf

end Go.Proofs.Ytiancdhpdjmacaa.F
