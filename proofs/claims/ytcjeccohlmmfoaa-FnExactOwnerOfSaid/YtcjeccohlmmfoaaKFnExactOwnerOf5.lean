-- written by the session's program xp.py over the kit's print program, and by hand; texts joined by pack.py
import Derived.Test.YtcjeccohlmmfoaaKFnExactOwnerOf4
namespace Go.Proofs.Ytcjeccohlmmfoaa.F
open Go.RowKit Go.Proofs.YtcjeccohlmmfoaaW.PrintWords Go.Proofs.YtcjeccohlmmfoaaW.PrintLast Go.Proofs.YtcjeccohlmmfoaaW.PrintMore
attribute [local go_sem] max2_int min2_int max_two min_two max_three min_three max_four min_four   -- for this text's walks alone
set_option linter.unusedVariables false
set_option linter.unusedSimpArgs false

/-! ### laws_FnExactOwnerOf: function 8 -/
def laws_FnExactOwnerOf.j0 : Nat → Bool → Int → List (List Int) → Int → List (List Int) → Option (Bool)
 | 0, _, _, _, _, _ => none
 | k + 1, x34, x387000, x387001, x399000, x399001 => if x34 = true then (some false) else ((laws_toNet.f k x387000 x387001).bind fun bt401 => ((laws_eqNet.f k x399000 x399001 bt401.1 bt401.2).bind fun t405 => (if t405 = true then (some true) else (some false))))
def laws_FnExactOwnerOf.f (k : Nat) (a0_0 : Int) (l0_1 : List (List Int)) : Option (Bool) := (laws_szNet.f k a0_0 l0_1 1048576).bind fun t387 => (if t387 < 0 then (some true) else ((laws_toNet.f k a0_0 l0_1).bind fun bt388 => ((spec_OwnerOf.f k bt388.1 bt388.2).bind fun bt392 => ((laws_toNet.f k a0_0 l0_1).bind fun bt394 => ((impl_OwnerOf.f bt394.1 bt394.2).bind fun bt399 => (if bt399.1 = bt392.1 then (laws_FnExactOwnerOf.j0 k (bt399.2 != bt392.2) a0_0 l0_1 bt394.1 bt394.2) else (laws_FnExactOwnerOf.j0 k true a0_0 l0_1 bt394.1 bt394.2)))))))
theorem laws_FnExactOwnerOf.mono_l : ∀ k, (∀ y0 y1 y2 y3 y4, LeO (laws_FnExactOwnerOf.j0 k y0 y1 y2 y3 y4) (laws_FnExactOwnerOf.j0 (k + 1) y0 y1 y2 y3 y4))
 | 0 => fun _ _ _ _ _ r h => by simp [laws_FnExactOwnerOf.j0] at h
 | k + 1 => by
  have ih0 := laws_FnExactOwnerOf.mono_l k
  ·intro y0 y1 y2 y3 y4
   unfold laws_FnExactOwnerOf.j0
   repeat' first
   | (with_reducible exact ih0 _ _ _ _ _)
   | (with_reducible exact laws_eqNet.mono _ _ _ _ _)
   | (with_reducible exact laws_szNet.mono _ _ _ _)
   | (with_reducible exact laws_toNet.mono _ _ _)
   | (with_reducible exact spec_OwnerOf.mono _ _ _)
   | (with_reducible exact LeO.refl _)
   | (with_reducible exact LeO.none _)
   | (with_reducible refine LeO.ite ?_ ?_)
   | (with_reducible refine LeO.bind ?_ (fun _ => ?_))
   | exact ih0 _ _ _ _ _
   | exact laws_eqNet.mono _ _ _ _ _
   | exact laws_szNet.mono _ _ _ _
   | exact laws_toNet.mono _ _ _
   | exact spec_OwnerOf.mono _ _ _
   | exact LeO.none _
   | refine LeO.ite ?_ ?_
   | refine LeO.bind ?_ (fun _ => ?_)
theorem laws_FnExactOwnerOf.mono : ∀ a0 a1 k, LeO (laws_FnExactOwnerOf.f k a0 a1) (laws_FnExactOwnerOf.f (k + 1) a0 a1) := by
 intro a0 a1 k
 have ih0 := laws_FnExactOwnerOf.mono_l k
 unfold laws_FnExactOwnerOf.f
 repeat' first
   | (with_reducible exact ih0 _ _ _ _ _)
   | (with_reducible exact laws_eqNet.mono _ _ _ _ _)
   | (with_reducible exact laws_szNet.mono _ _ _ _)
   | (with_reducible exact laws_toNet.mono _ _ _)
   | (with_reducible exact spec_OwnerOf.mono _ _ _)
   | (with_reducible exact LeO.refl _)
   | (with_reducible exact LeO.none _)
   | (with_reducible refine LeO.ite ?_ ?_)
   | (with_reducible refine LeO.bind ?_ (fun _ => ?_))
   | exact ih0 _ _ _ _ _
   | exact laws_eqNet.mono _ _ _ _ _
   | exact laws_szNet.mono _ _ _ _
   | exact laws_toNet.mono _ _ _
   | exact spec_OwnerOf.mono _ _ _
   | exact LeO.none _
   | refine LeO.ite ?_ ?_
   | refine LeO.bind ?_ (fun _ => ?_)
set_option maxHeartbeats 8000000 in
set_option maxRecDepth 100000 in
theorem laws_FnExactOwnerOf.calls (k : Nat) (a0_0 : Int) (A0_1 : Option Addr) (c0_1 : Nat) (l0_1 : List (List Int)) (r : Bool) (w : World) (hr0_1 : Kd.C (Kd.slice 2 (Kd.int .i64)) w A0_1 l0_1.length l0_1) (hc0_1 : l0_1.length ≤ c0_1) (h : laws_FnExactOwnerOf.f k a0_0 l0_1 = some true) :
  Calls Try.prog 8 #[.agg #[.int .i64 a0_0, .slice A0_1 l0_1.length c0_1]] w fun e w' => e = .returned (.bool true) ∧ Below w.heap.size w w' := by
 have hu30 := Try.underlying30
 have hu33 := Try.underlying33
 have HR0_1 := Aside0.mk hr0_1
 have HC0_1 := Aside0.mk hc0_1
 clear hr0_1 hc0_1
 have HB := Aside0.mk (Below.refl w.heap.size w)
 have H : ((laws_szNet.f k a0_0 l0_1 1048576).bind fun t387 => (if t387 < 0 then (some true) else ((laws_toNet.f k a0_0 l0_1).bind fun bt388 => ((spec_OwnerOf.f k bt388.1 bt388.2).bind fun bt392 => ((laws_toNet.f k a0_0 l0_1).bind fun bt394 => ((impl_OwnerOf.f bt394.1 bt394.2).bind fun bt399 => (if bt399.1 = bt392.1 then (laws_FnExactOwnerOf.j0 k (bt399.2 != bt392.2) a0_0 l0_1 bt394.1 bt394.2) else (laws_FnExactOwnerOf.j0 k true a0_0 l0_1 bt394.1 bt394.2)))))))) = some true := h
 clear h
 replace H := Option.bind_eq_some_iff.mp H
 obtain ⟨t387, A20, H⟩ := H
 replace H : (if t387 < 0 then (some true) else ((laws_toNet.f k a0_0 l0_1).bind fun bt388 => ((spec_OwnerOf.f k bt388.1 bt388.2).bind fun bt392 => ((laws_toNet.f k a0_0 l0_1).bind fun bt394 => ((impl_OwnerOf.f bt394.1 bt394.2).bind fun bt399 => (if bt399.1 = bt392.1 then (laws_FnExactOwnerOf.j0 k (bt399.2 != bt392.2) a0_0 l0_1 bt394.1 bt394.2) else (laws_FnExactOwnerOf.j0 k true a0_0 l0_1 bt394.1 bt394.2))))))) = some true := H
 have A2 := Aside0.mk A20
 clear A20
 by_cases c3 : t387 < 0
 ·rw [if_pos c3] at H
  have c3b0 : decide (t387 < 0) = true := decide_eq_true c3
  clear c3
  clear H
  go_enter Try.func8, Try.ntmps8
  go_wp2_with (first | ((with_reducible refine gate_dst (N := 1) rfl ?_); refine box_event ?hg (N := 1) ?hd (cs := #[.int .i64 a0_0, .slice A0_1 l0_1.length c0_1]) (t := 30) ?hr ?_; (case hd => rfl); (case hg => rfl); (case hr => first | (go_simp; done) | (go_simp; rfl)); intro gb386 hg w4 hbox hb; have n0_ := Aside0.mk (below_step (by repeat (first | (with_reducible first | exact HB.out | apply below_alloc | apply pw_below_drewN | apply below_drew1) | exact HB.out)) hb); have n1_ := Aside0.mk (hbox); have n2_ := Aside0.mk ((by rw [hg]; exact (below_size (by repeat (first | (with_reducible first | exact HB.out | apply below_alloc | apply pw_below_drewN | apply below_drew1) | exact HB.out))) : w.heap.size ≤ gb386)); have n3_ := Aside0.mk ((by rw [hg]; exact (below_size (by repeat (first | (with_reducible first | exact HB.out | apply below_alloc | apply pw_below_drewN | apply below_drew1) | exact HB.out))) : w.heap.size ≤ gb386)); clear HB; have HB := n0_; have BK386 := n1_; have GW386 := n2_; have GE386 := n3_; clear n0_ n1_ n2_ n3_; clear hb hbox hg; have hcz5_0 : w4.cell? ⟨gb386, 0, none⟩ = some (.int .i64 a0_0) := (blk_cell BK386.out 0).trans rfl; have hcz5_1 : w4.cell? ⟨gb386, 1, none⟩ = some (.slice A0_1 l0_1.length c0_1) := (blk_cell BK386.out 1).trans rfl; have hfz5_0 := blk_frozen BK386.out 0; have hfz5_1 := blk_frozen BK386.out 1) | ((with_reducible refine gate_callee (f := 16) rfl ?_); refine goesL_ (some 11) rfl rfl Try.func16 (by kernel_rfl) rfl #[.agg #[.int .i64 a0_0, .slice A0_1 l0_1.length c0_1], .int .i64 1048576] rfl (by (try simp only [List.map_toArray, List.map_cons, List.map_nil]); first | done | rfl | (simp only [List.length_drop, List.length_take]; rfl)) ?_; (with_reducible refine (laws_szNet.calls k a0_0 _ _ l0_1 1048576 t387 _ ?side1 ?side2 A2.out).mono ?_); (case side1 => repeat (first | exact (Kd.C_below HR0_1.out HB.out) | (with_reducible refine Kd.C_alloc ?_ _) | (with_reducible refine Kd.C_drewN ?_ _) | (with_reducible refine Kd.C_drew ?_))); (case side2 => exact HC0_1.out); rintro e w6 ⟨rfl, hb⟩; refine ⟨_, rfl, ?_⟩; have n0_ := Aside0.mk (blk_below (g := gb386) (o := .cells #[.int .i64 a0_0, .slice A0_1 l0_1.length c0_1] 30 (0, 0)) (by (with_reducible repeat (first | refine blk_drewN ?_ _ | refine blk_drew ?_ | refine blk_alloc ?_ _)); exact BK386.out) hb); have n1_ := Aside0.mk (below_step (by repeat (first | (with_reducible first | exact HB.out | apply below_alloc | apply pw_below_drewN | apply below_drew1 | refine below_set ?_ GE386.out) | exact HB.out)) hb); clear BK386; clear HB; have BK386 := n0_; have HB := n1_; clear n0_ n1_; (try clear hb); (try clear hb2); (try clear hk); (try clear hi)))
  go_ret
  exact ⟨by first | rfl | (simp [errW_none, errW_some] <;> rfl) | (simp [*, errW_none, errW_some] <;> rfl), by repeat (first | (with_reducible first | exact HB.out | apply below_alloc | apply pw_below_drewN | apply below_drew1 | refine below_set ?_ GE386.out) | exact HB.out)⟩
 ·rw [if_neg c3] at H
  have c3b0 : decide (t387 < 0) = false := decide_eq_false c3
  clear c3
  replace H := Option.bind_eq_some_iff.mp H
  obtain ⟨⟨t388, t389⟩, A70, H⟩ := H
  replace H : ((spec_OwnerOf.f k t388 t389).bind fun bt392 => ((laws_toNet.f k a0_0 l0_1).bind fun bt394 => ((impl_OwnerOf.f bt394.1 bt394.2).bind fun bt399 => (if bt399.1 = bt392.1 then (laws_FnExactOwnerOf.j0 k (bt399.2 != bt392.2) a0_0 l0_1 bt394.1 bt394.2) else (laws_FnExactOwnerOf.j0 k true a0_0 l0_1 bt394.1 bt394.2))))) = some true := H
  have A7 := Aside0.mk A70
  clear A70
  replace H := Option.bind_eq_some_iff.mp H
  obtain ⟨⟨t392, t393⟩, A80, H⟩ := H
  replace H : ((laws_toNet.f k a0_0 l0_1).bind fun bt394 => ((impl_OwnerOf.f bt394.1 bt394.2).bind fun bt399 => (if bt399.1 = t392 then (laws_FnExactOwnerOf.j0 k (bt399.2 != t393) a0_0 l0_1 bt394.1 bt394.2) else (laws_FnExactOwnerOf.j0 k true a0_0 l0_1 bt394.1 bt394.2)))) = some true := H
  have A8 := Aside0.mk A80
  clear A80
  replace H := Option.bind_eq_some_iff.mp H
  obtain ⟨⟨t394, t395⟩, A90, H⟩ := H
  replace H : ((impl_OwnerOf.f t394 t395).bind fun bt399 => (if bt399.1 = t392 then (laws_FnExactOwnerOf.j0 k (bt399.2 != t393) a0_0 l0_1 t394 t395) else (laws_FnExactOwnerOf.j0 k true a0_0 l0_1 t394 t395))) = some true := H
  have A9 := Aside0.mk A90
  clear A90
  replace H := Option.bind_eq_some_iff.mp H
  obtain ⟨⟨t399, t400⟩, A100, H⟩ := H
  replace H : (if t399 = t392 then (laws_FnExactOwnerOf.j0 k (t400 != t393) a0_0 l0_1 t394 t395) else (laws_FnExactOwnerOf.j0 k true a0_0 l0_1 t394 t395)) = some true := H
  have A10 := Aside0.mk A100
  clear A100
  have HC11 := Aside0.mk H
  clear H
  go_enter Try.func8, Try.ntmps8
  go_upto_region 8 with (first | ((with_reducible refine gate_dst (N := 1) rfl ?_); refine box_event ?hg (N := 1) ?hd (cs := #[.int .i64 a0_0, .slice A0_1 l0_1.length c0_1]) (t := 30) ?hr ?_; (case hd => rfl); (case hg => rfl); (case hr => first | (go_simp; done) | (go_simp; rfl)); intro gb386 hg w12 hbox hb; have n0_ := Aside0.mk (below_step (by repeat (first | (with_reducible first | exact HB.out | apply below_alloc | apply pw_below_drewN | apply below_drew1) | exact HB.out)) hb); have n1_ := Aside0.mk (hbox); have n2_ := Aside0.mk ((by rw [hg]; exact (below_size (by repeat (first | (with_reducible first | exact HB.out | apply below_alloc | apply pw_below_drewN | apply below_drew1) | exact HB.out))) : w.heap.size ≤ gb386)); have n3_ := Aside0.mk ((by rw [hg]; exact (below_size (by repeat (first | (with_reducible first | exact HB.out | apply below_alloc | apply pw_below_drewN | apply below_drew1) | exact HB.out))) : w.heap.size ≤ gb386)); clear HB; have HB := n0_; have BK386 := n1_; have GW386 := n2_; have GE386 := n3_; clear n0_ n1_ n2_ n3_; clear hb hbox hg; have hcz13_0 : w12.cell? ⟨gb386, 0, none⟩ = some (.int .i64 a0_0) := (blk_cell BK386.out 0).trans rfl; have hcz13_1 : w12.cell? ⟨gb386, 1, none⟩ = some (.slice A0_1 l0_1.length c0_1) := (blk_cell BK386.out 1).trans rfl; have hfz13_0 := blk_frozen BK386.out 0; have hfz13_1 := blk_frozen BK386.out 1) | ((with_reducible refine gate_callee (f := 16) rfl ?_); refine goesL_ (some 11) rfl rfl Try.func16 (by kernel_rfl) rfl #[.agg #[.int .i64 a0_0, .slice A0_1 l0_1.length c0_1], .int .i64 1048576] rfl (by (try simp only [List.map_toArray, List.map_cons, List.map_nil]); first | done | rfl | (simp only [List.length_drop, List.length_take]; rfl)) ?_; (with_reducible refine (laws_szNet.calls k a0_0 _ _ l0_1 1048576 t387 _ ?side1 ?side2 A2.out).mono ?_); (case side1 => repeat (first | exact (Kd.C_below HR0_1.out HB.out) | (with_reducible refine Kd.C_alloc ?_ _) | (with_reducible refine Kd.C_drewN ?_ _) | (with_reducible refine Kd.C_drew ?_))); (case side2 => exact HC0_1.out); rintro e w14 ⟨rfl, hb⟩; refine ⟨_, rfl, ?_⟩; have n0_ := Aside0.mk (blk_below (g := gb386) (o := .cells #[.int .i64 a0_0, .slice A0_1 l0_1.length c0_1] 30 (0, 0)) (by (with_reducible repeat (first | refine blk_drewN ?_ _ | refine blk_drew ?_ | refine blk_alloc ?_ _)); exact BK386.out) hb); have n1_ := Aside0.mk (below_step (by repeat (first | (with_reducible first | exact HB.out | apply below_alloc | apply pw_below_drewN | apply below_drew1 | refine below_set ?_ GE386.out) | exact HB.out)) hb); clear BK386; clear HB; have BK386 := n0_; have HB := n1_; clear n0_ n1_; (try clear hb); (try clear hb2); (try clear hk); (try clear hi); have hcz15_0 : w14.cell? ⟨gb386, 0, none⟩ = some (.int .i64 a0_0) := (blk_cell BK386.out 0).trans rfl; have hcz15_1 : w14.cell? ⟨gb386, 1, none⟩ = some (.slice A0_1 l0_1.length c0_1) := (blk_cell BK386.out 1).trans rfl; have hfz15_0 := blk_frozen BK386.out 0; have hfz15_1 := blk_frozen BK386.out 1) | ((with_reducible refine gate_callee (f := 18) rfl ?_); refine goesL_ (some 16) rfl rfl Try.func18 (by kernel_rfl) rfl #[.agg #[.int .i64 a0_0, .slice A0_1 l0_1.length c0_1]] rfl (by (try simp only [List.map_toArray, List.map_cons, List.map_nil]); first | done | rfl | (simp only [List.length_drop, List.length_take]; rfl)) ?_; (with_reducible refine (laws_toNet.calls k a0_0 _ _ l0_1 t388 t389 _ ?side1 ?side2 A7.out).mono ?_); (case side1 => repeat (first | exact (Kd.C_below HR0_1.out HB.out) | (with_reducible refine Kd.C_alloc ?_ _) | (with_reducible refine Kd.C_drewN ?_ _) | (with_reducible refine Kd.C_drew ?_))); (case side2 => exact HC0_1.out); rintro e w16 ⟨v390, rfl, ho0, hb⟩; refine ⟨_, rfl, ?_⟩; have n0_ := Aside0.mk (Kd.S_lower ho0 (below_size (by repeat (first | (with_reducible first | exact HB.out | apply below_alloc | apply pw_below_drewN | apply below_drew1 | refine below_set ?_ GE386.out) | exact HB.out)))); have n1_ := Aside0.mk (blk_below (g := gb386) (o := .cells #[.int .i64 a0_0, .slice A0_1 l0_1.length c0_1] 30 (0, 0)) (by (with_reducible repeat (first | refine blk_drewN ?_ _ | refine blk_drew ?_ | refine blk_alloc ?_ _)); exact BK386.out) hb); have n2_ := Aside0.mk (below_step (by repeat (first | (with_reducible first | exact HB.out | apply below_alloc | apply pw_below_drewN | apply below_drew1 | refine below_set ?_ GE386.out) | exact HB.out)) hb); clear BK386; clear HB; have HO391 := n0_; have BK386 := n1_; have HB := n2_; clear n0_ n1_ n2_; (try clear hb); (try clear hb2); (try clear hk); (try clear hi); (try clear ho0); obtain ⟨Ao17, co17, eo17⟩ := Kd.S_slice HO391.out; subst eo17) | ((with_reducible refine gate_callee (f := 28) rfl ?_); refine goesL_ (some 17) rfl rfl Try.func28 (by kernel_rfl) rfl #[.agg #[.int .i64 t388, .slice Ao17 t389.length co17]] rfl (by (try simp only [List.map_toArray, List.map_cons, List.map_nil]); first | done | rfl | (simp only [List.length_drop, List.length_take]; rfl)) ?_; (with_reducible refine (spec_OwnerOf.calls k t388 _ _ t389 t392 t393 _ ?side1 ?side2 A8.out).mono ?_); (case side1 => repeat (first | exact (Kd.S_reads' HO391.out).2.2 | (with_reducible refine Kd.C_alloc ?_ _) | (with_reducible refine Kd.C_drewN ?_ _) | (with_reducible refine Kd.C_drew ?_))); (case side2 => exact (Kd.S_reads' HO391.out).2.1); rintro e w18 ⟨rfl, hb⟩; refine ⟨_, rfl, ?_⟩; have n0_ := Aside0.mk (Kd.S_below (by (with_reducible repeat (first | apply Kd.S_alloc | apply Kd.S_drewN | apply Kd.S_drew)); exact HO391.out) hb); have n1_ := Aside0.mk (blk_below (g := gb386) (o := .cells #[.int .i64 a0_0, .slice A0_1 l0_1.length c0_1] 30 (0, 0)) (by (with_reducible repeat (first | refine blk_drewN ?_ _ | refine blk_drew ?_ | refine blk_alloc ?_ _)); exact BK386.out) hb); have n2_ := Aside0.mk (below_step (by repeat (first | (with_reducible first | exact HB.out | apply below_alloc | apply pw_below_drewN | apply below_drew1 | refine below_set ?_ GE386.out) | exact HB.out)) hb); clear HO391; clear BK386; clear HB; have HO391 := n0_; have BK386 := n1_; have HB := n2_; clear n0_ n1_ n2_; (try clear hb); (try clear hb2); (try clear hk); (try clear hi); have hcz19_0 : w18.cell? ⟨gb386, 0, none⟩ = some (.int .i64 a0_0) := (blk_cell BK386.out 0).trans rfl; have hcz19_1 : w18.cell? ⟨gb386, 1, none⟩ = some (.slice A0_1 l0_1.length c0_1) := (blk_cell BK386.out 1).trans rfl; have hfz19_0 := blk_frozen BK386.out 0; have hfz19_1 := blk_frozen BK386.out 1) | ((with_reducible refine gate_callee (f := 18) rfl ?_); refine goesL_ (some 21) rfl rfl Try.func18 (by kernel_rfl) rfl #[.agg #[.int .i64 a0_0, .slice A0_1 l0_1.length c0_1]] rfl (by (try simp only [List.map_toArray, List.map_cons, List.map_nil]); first | done | rfl | (simp only [List.length_drop, List.length_take]; rfl)) ?_; (with_reducible refine (laws_toNet.calls k a0_0 _ _ l0_1 t394 t395 _ ?side1 ?side2 A9.out).mono ?_); (case side1 => repeat (first | exact (Kd.C_below HR0_1.out HB.out) | (with_reducible refine Kd.C_alloc ?_ _) | (with_reducible refine Kd.C_drewN ?_ _) | (with_reducible refine Kd.C_drew ?_))); (case side2 => exact HC0_1.out); rintro e w20 ⟨v396, rfl, ho0, hb⟩; refine ⟨_, rfl, ?_⟩; obtain ⟨nq21, hi⟩ := nq_of hb; have n0_ := Aside0.mk (Kd.S_elder' (S_ltN (by (with_reducible repeat (first | apply Kd.S_alloc | apply Kd.S_drewN | apply Kd.S_drew)); exact HO391.out) hi) (Kd.S_base ho0) hb); have n1_ := Aside0.mk (Kd.S_lower (Kd.S_new' (S_geN ho0 hi) (Kd.S_lt (by (with_reducible repeat (first | apply Kd.S_alloc | apply Kd.S_drewN | apply Kd.S_drew)); exact HO391.out))) (below_size (by repeat (first | (with_reducible first | exact HB.out | apply below_alloc | apply pw_below_drewN | apply below_drew1 | refine below_set ?_ GE386.out) | exact HB.out)))); have n2_ := Aside0.mk (blk_below (g := gb386) (o := .cells #[.int .i64 a0_0, .slice A0_1 l0_1.length c0_1] 30 (0, 0)) (by (with_reducible repeat (first | refine blk_drewN ?_ _ | refine blk_drew ?_ | refine blk_alloc ?_ _)); exact BK386.out) hb); have n3_ := Aside0.mk (below_step (by repeat (first | (with_reducible first | exact HB.out | apply below_alloc | apply pw_below_drewN | apply below_drew1 | refine below_set ?_ GE386.out) | exact HB.out)) hb); clear HO391; clear BK386; clear HB; have HO391 := n0_; have HO397 := n1_; have BK386 := n2_; have HB := n3_; clear n0_ n1_ n2_ n3_; (try clear hb); (try clear hb2); (try clear hk); (try clear hi); (try clear ho0)) | ((with_reducible refine gate_dst (N := 6) rfl ?_); refine box_event ?hg (N := 6) ?hd (cs := #[.int .i64 0, .slice none 0 0]) (t := 33) ?hr ?_; (case hd => rfl); (case hg => rfl); (case hr => first | (go_simp; done) | (go_simp; rfl)); intro gb398 hg w22 hbox hb; have n0_ := Aside0.mk (Kd.S_below (by (with_reducible repeat (first | apply Kd.S_alloc | apply Kd.S_drewN | apply Kd.S_drew)); exact HO391.out) hb); have n1_ := Aside0.mk (Kd.S_below (by (with_reducible repeat (first | apply Kd.S_alloc | apply Kd.S_drewN | apply Kd.S_drew)); exact HO397.out) hb); have n2_ := Aside0.mk (blk_below (g := gb386) (o := .cells #[.int .i64 a0_0, .slice A0_1 l0_1.length c0_1] 30 (0, 0)) (by (with_reducible repeat (first | refine blk_drewN ?_ _ | refine blk_drew ?_ | refine blk_alloc ?_ _)); exact BK386.out) hb); have n3_ := Aside0.mk (below_step (by repeat (first | (with_reducible first | exact HB.out | apply below_alloc | apply pw_below_drewN | apply below_drew1 | refine below_set ?_ GE386.out) | exact HB.out)) hb); have n4_ := Aside0.mk (hbox); have n5_ := Aside0.mk ((by rw [hg]; exact (below_size (by repeat (first | (with_reducible first | exact HB.out | apply below_alloc | apply pw_below_drewN | apply below_drew1 | refine below_set ?_ GE386.out) | exact HB.out))) : w.heap.size ≤ gb398)); have n6_ := Aside0.mk ((by rw [hg]; exact (below_size (by repeat (first | (with_reducible first | exact HB.out | apply below_alloc | apply pw_below_drewN | apply below_drew1 | refine below_set ?_ GE386.out) | exact HB.out))) : w.heap.size ≤ gb398)); have n7_ := Aside0.mk ((by rw [hg]; exact Nat.ne_of_lt (blk_lt (g := gb386) (o := .cells #[.int .i64 a0_0, .slice A0_1 l0_1.length c0_1] 30 (0, 0)) (by (with_reducible repeat (first | refine blk_drewN ?_ _ | refine blk_drew ?_ | refine blk_alloc ?_ _)); exact BK386.out)) : gb386 ≠ gb398)); have n8_ := Aside0.mk ((by rw [hg]; exact Nat.ne_of_gt (blk_lt (g := gb386) (o := .cells #[.int .i64 a0_0, .slice A0_1 l0_1.length c0_1] 30 (0, 0)) (by (with_reducible repeat (first | refine blk_drewN ?_ _ | refine blk_drew ?_ | refine blk_alloc ?_ _)); exact BK386.out)) : gb398 ≠ gb386)); clear HO391; clear HO397; clear BK386; clear HB; have HO391 := n0_; have HO397 := n1_; have BK386 := n2_; have HB := n3_; have BK398 := n4_; have GW398 := n5_; have GE398 := n6_; have NB386_398 := n7_; have NB398_386 := n8_; clear n0_ n1_ n2_ n3_ n4_ n5_ n6_ n7_ n8_; clear hb hbox hg; have hnb23 := NB398_386.out; have hnc23 := NB386_398.out; have hcz24_0 : w22.cell? ⟨gb398, 0, none⟩ = some (.int .i64 0) := (blk_cell BK398.out 0).trans rfl; have hcz24_1 : w22.cell? ⟨gb398, 1, none⟩ = some (.slice none 0 0) := (blk_cell BK398.out 1).trans rfl; have hfz24_0 := blk_frozen BK398.out 0; have hfz24_1 := blk_frozen BK398.out 1; obtain ⟨Ao25, co25, eo25⟩ := Kd.S_slice HO397.out; subst eo25) | ((with_reducible refine gate_callee (f := 29) rfl ?_); refine goesL_ (some 24) rfl rfl Try.func29 (by kernel_rfl) rfl #[.agg #[.int .i64 t394, .slice Ao25 t395.length co25]] rfl (by (try simp only [List.map_toArray, List.map_cons, List.map_nil]); first | done | rfl | (simp only [List.length_drop, List.length_take]; rfl)) ?_; (with_reducible refine (impl_OwnerOf.calls t394 _ _ t395 t399 t400 _ ?side1 ?side2 A10.out).mono ?_); (case side1 => refine (Kd.S_reads' (e := 22) (base := w.heap.size) (ok := fun k_ => ((True ∧ nq21 ≤ k_) ∧ some k_ ≠ (.slice Ao17 t389.length co17 : Value).ownBlock)) (n := t395.length) (c := co25) ?_).2.2; exact (by (with_reducible repeat (first | apply Kd.S_alloc | apply Kd.S_drewN | apply Kd.S_drew)); exact (Kd.S_mono (Kd.S_far (p := ⟨gb398, 1, none⟩) (Kd.S_far (p := ⟨gb398, 0, none⟩) (Kd.S_types HO397.out BK398.out (by decide)) (fun _ hk => hk.2) (.int .i64 t394)) (fun _ hk => hk.2) (.slice Ao25 t395.length co25)) (fun _ h_ => h_.1)))); (case side2 => exact (Kd.S_reads' HO397.out).2.1); rintro e w26 ⟨rfl, hb⟩; refine ⟨_, rfl, ?_⟩; have n0_ := Aside0.mk (Kd.S_below (by (with_reducible repeat (first | apply Kd.S_alloc | apply Kd.S_drewN | apply Kd.S_drew)); exact (Kd.S_mono (Kd.S_far (p := ⟨gb398, 1, none⟩) (Kd.S_far (p := ⟨gb398, 0, none⟩) (Kd.S_types HO391.out BK398.out (by decide)) (fun _ hk => hk.2) (.int .i64 t394)) (fun _ hk => hk.2) (.slice Ao25 t395.length co25)) (fun _ h_ => h_.1))) hb); have n1_ := Aside0.mk (Kd.S_below (by (with_reducible repeat (first | apply Kd.S_alloc | apply Kd.S_drewN | apply Kd.S_drew)); exact (Kd.S_mono (Kd.S_far (p := ⟨gb398, 1, none⟩) (Kd.S_far (p := ⟨gb398, 0, none⟩) (Kd.S_types HO397.out BK398.out (by decide)) (fun _ hk => hk.2) (.int .i64 t394)) (fun _ hk => hk.2) (.slice Ao25 t395.length co25)) (fun _ h_ => h_.1))) hb); have n2_ := Aside0.mk (blk_below (g := gb386) (o := .cells #[.int .i64 a0_0, .slice A0_1 l0_1.length c0_1] 30 (0, 0)) (by (with_reducible repeat (first | refine blk_drewN ?_ _ | refine blk_drew ?_ | refine blk_alloc ?_ _)); refine blk_far ?_ NB386_398.out _; (with_reducible repeat (first | refine blk_drewN ?_ _ | refine blk_drew ?_ | refine blk_alloc ?_ _)); refine blk_far ?_ NB386_398.out _; (with_reducible repeat (first | refine blk_drewN ?_ _ | refine blk_drew ?_ | refine blk_alloc ?_ _)); exact BK386.out) hb); have n3_ := Aside0.mk (blk_below (g := gb398) (o := .cells #[.int .i64 t394, .slice Ao25 t395.length co25] 33 (0, 0)) (by (with_reducible repeat (first | refine blk_drewN ?_ _ | refine blk_drew ?_ | refine blk_alloc ?_ _)); refine blk_put (cs := #[.int .i64 t394, .slice none 0 0]) ?_ 1 _ rfl; (with_reducible repeat (first | refine blk_drewN ?_ _ | refine blk_drew ?_ | refine blk_alloc ?_ _)); refine blk_put (cs := #[.int .i64 0, .slice none 0 0]) ?_ 0 _ rfl; (with_reducible repeat (first | refine blk_drewN ?_ _ | refine blk_drew ?_ | refine blk_alloc ?_ _)); exact BK398.out) hb); have n4_ := Aside0.mk (below_step (by repeat (first | (with_reducible first | exact HB.out | apply below_alloc | apply pw_below_drewN | apply below_drew1 | refine below_set ?_ GE386.out | refine below_set ?_ GE398.out) | exact HB.out)) hb); clear HO391; clear HO397; clear BK386; clear BK398; clear HB; have HO391 := n0_; have HO397 := n1_; have BK386 := n2_; have BK398 := n3_; have HB := n4_; clear n0_ n1_ n2_ n3_ n4_; (try clear hb); (try clear hb2); (try clear hk); (try clear hi)))
  (try simp only [Act.put, List.setIfInBounds_toArray, List.set_cons_zero, List.set_cons_succ])
  go_cut [34] (fun v34 wc => ∃ (kq : Nat) (x34_10 : Bool), v34 = .bool x34_10 ∧ Aside0 (laws_FnExactOwnerOf.j0 kq x34_10 a0_0 l0_1 t394 t395 = some true) ∧ Aside0 (kq ≤ k) ∧ Aside0 (Kd.S (Kd.slice 2 (Kd.int .i64)) 22 wc w.heap.size (fun k_ => nq21 ≤ k_) (.slice Ao25 t395.length co25) t395) ∧ Aside0 (wc.heap[gb386]? = some (.cells #[.int .i64 a0_0, (.slice A0_1 l0_1.length c0_1)] 30 (0, 0))) ∧ Aside0 (wc.heap[gb398]? = some (.cells #[.int .i64 t394, (.slice Ao25 t395.length co25)] 33 (0, 0))) ∧ Aside0 (Below w.heap.size w wc))
  case first =>
   have H := HC11.out
   clear HC11
   by_cases c27 : t399 = t392
   ·rw [if_pos c27] at H
    have c27b0 : (t399 == t392) = true := beq_iff_eq.mpr c27
    have c27b1 : (t399 != t392) = false := bne_eq_false_iff_eq.mpr c27
    clear c27
    (first | rw [c27b0] | (simp only [i64_w, i32_w]; rw [c27b0]) | skip)
    have H' := Aside0.mk H
    clear H
    go_wp2
    go_meet
    case rel => exact ⟨_, ((t400 != t393)), (by first | rfl | (simp; done) | (simp [*]; done)), H', ⟨by first | omega | exact Nat.le_refl _⟩, ⟨by (with_reducible repeat (first | apply Kd.S_alloc | apply Kd.S_drewN | apply Kd.S_drew)); exact Kd.S_mono HO397.out (fun _ hk => hk.1.2)⟩, ⟨by (with_reducible repeat (first | refine blk_drewN ?_ _ | refine blk_drew ?_ | refine blk_alloc ?_ _)); exact BK386.out⟩, ⟨by (with_reducible repeat (first | refine blk_drewN ?_ _ | refine blk_drew ?_ | refine blk_alloc ?_ _)); exact BK398.out⟩, ⟨by repeat (first | (with_reducible first | exact HB.out | apply below_alloc | apply pw_below_drewN | apply below_drew1 | refine below_set ?_ GE386.out | refine below_set ?_ GE398.out) | exact HB.out)⟩⟩
   ·rw [if_neg c27] at H
    have c27b0 : (t399 == t392) = false := beq_eq_false_iff_ne.mpr c27
    have c27b1 : (t399 != t392) = true := bne_iff_ne.mpr c27
    (first | rw [c27b0] | (simp only [i64_w, i32_w]; rw [c27b0]) | skip)
    have H' := Aside0.mk H
    clear H
    go_wp2
    go_meet
    case rel => exact ⟨_, (true), (by first | rfl | (simp; done) | (simp [*]; done)), H', ⟨by first | omega | exact Nat.le_refl _⟩, ⟨by (with_reducible repeat (first | apply Kd.S_alloc | apply Kd.S_drewN | apply Kd.S_drew)); exact Kd.S_mono HO397.out (fun _ hk => hk.1.2)⟩, ⟨by (with_reducible repeat (first | refine blk_drewN ?_ _ | refine blk_drew ?_ | refine blk_alloc ?_ _)); exact BK386.out⟩, ⟨by (with_reducible repeat (first | refine blk_drewN ?_ _ | refine blk_drew ?_ | refine blk_alloc ?_ _)); exact BK398.out⟩, ⟨by repeat (first | (with_reducible first | exact HB.out | apply below_alloc | apply pw_below_drewN | apply below_drew1 | refine below_set ?_ GE386.out | refine below_set ?_ GE398.out) | exact HB.out)⟩⟩
  case rest =>
   clear HC11
   try clear c1
   try clear c2
   try clear p2
   try clear q2
   try clear c3
   try clear c3b0
   try clear c8
   try clear c16
   try clear c18
   try clear q21
   try clear c23
   try clear c27
   try clear c27b0
   try clear c27b1
   try clear hcz13_0
   try clear hcz13_1
   try clear hcz15_0
   try clear hcz15_1
   try clear hcz19_0
   try clear hcz19_1
   try clear hcz24_0
   try clear hcz24_1
   try clear hcz5_0
   try clear hcz5_1
   try clear hfz13_0
   try clear hfz13_1
   try clear hfz15_0
   try clear hfz15_1
   try clear hfz19_0
   try clear hfz19_1
   try clear hfz24_0
   try clear hfz24_1
   try clear hfz5_0
   try clear hfz5_1
   obtain ⟨kq, x34_10, rfl, HA, HJ10, HO_399001, BK386, BK398, HB⟩ := hcut
   cases kq with
   | zero => exact absurd HA.out (by simp [laws_FnExactOwnerOf.j0])
   | succ kj10 =>
    have H := HA.out
    clear HA
    simp only [laws_FnExactOwnerOf.j0] at H
    by_cases c28 : x34_10 = true
    ·subst c28
     have H1 : (some false) = some true := by rw [if_pos rfl] at H; exact H
     clear H
     have H := H1
     clear H1
     exact absurd H (by simp)
    ·replace c28 := Bool.eq_false_iff.mpr c28
     subst c28
     have H1 : ((laws_toNet.f kj10 a0_0 l0_1).bind fun bt401 => ((laws_eqNet.f kj10 t394 t395 bt401.1 bt401.2).bind fun t405 => (if t405 = true then (some true) else (some false)))) = some true := by rw [if_neg (show ¬ (false = true) by decide)] at H; exact H
     clear H
     have H := H1
     clear H1
     replace H := Option.bind_eq_some_iff.mp H
     obtain ⟨⟨t401, t402⟩, A290, H⟩ := H
     replace H : ((laws_eqNet.f kj10 t394 t395 t401 t402).bind fun t405 => (if t405 = true then (some true) else (some false))) = some true := H
     have A29 := Aside0.mk A290
     clear A290
     replace H := Option.bind_eq_some_iff.mp H
     obtain ⟨t405, A300, H⟩ := H
     replace H : (if t405 = true then (some true) else (some false)) = some true := H
     have A30 := Aside0.mk A300
     clear A300
     by_cases c31 : t405 = true
     ·subst c31
      have H1 : (some true) = some true := rfl
      clear H
      have H := H1
      clear H1
      clear H
      try go_wp2
      have n0_ := Aside0.mk (Kd.S_drew HO_399001.out)
      have n1_ := Aside0.mk (blk_drew BK386.out)
      have n2_ := Aside0.mk (blk_drew BK398.out)
      have n3_ := Aside0.mk (below_drew1 HB.out)
      clear HO_399001
      clear BK386
      clear BK398
      clear HB
      have HO_399001 := n0_
      have BK386 := n1_
      have BK398 := n2_
      have HB := n3_
      clear n0_ n1_ n2_ n3_
      refine start_ (n := 5) (S := fun w' => w'.cell? ⟨gb398, 0, none⟩ = some (.int .i64 t394) ∧ w'.cell? ⟨gb398, 1, none⟩ = some (.slice Ao25 t395.length co25) ∧ w'.cell? ⟨gb386, 0, none⟩ = some (.int .i64 a0_0) ∧ w'.cell? ⟨gb386, 1, none⟩ = some (.slice A0_1 l0_1.length c0_1)) (ds := []) #[false, false, false, false, false] (by kernel_rfl) rfl rfl ⟨(blk_cell BK398.out 0).trans rfl, (blk_cell BK398.out 1).trans rfl, (blk_cell BK386.out 0).trans rfl, (blk_cell BK386.out 1).trans rfl⟩ (fun hHeld => ?_)
      generalize wc.drew = w32 at HO_399001 BK386 BK398 HB hHeld ⊢
      refine take_ (i := 0) (N := some 35) (v := ?_) (a' := ?_) #[true, false, false, false, false] rfl rfl (by kernel_rfl) (fun _ _ _ h => h) (Or.inl ⟨by rfl, ?_⟩) hHeld ?_ ?_
      rotate_left
      ·rintro w' ⟨s0, s1, s2, s3⟩
       go_simp
       with_reducible rfl
      rotate_left
      ·simp only [Act.put, List.setIfInBounds_toArray, List.set_cons_zero, List.set_cons_succ, i64_w, i32_w]
       rfl
      refine take_ (i := 1) (N := some 36) (v := ?_) (a' := ?_) #[true, true, false, false, false] rfl rfl (by kernel_rfl) (fun _ _ _ h => h) (Or.inl ⟨by rfl, ?_⟩) hHeld ?_ ?_
      rotate_left
      ·rintro w' ⟨s0, s1, s2, s3⟩
       go_simp
       with_reducible rfl
      rotate_left
      ·simp only [Act.put, List.setIfInBounds_toArray, List.set_cons_zero, List.set_cons_succ, i64_w, i32_w]
       rfl
      refine one_ (i := 2) (N := some 37) #[true, true, true, false, false] rfl rfl (by kernel_rfl) (by decide) (fun K hK => ?_)
      refine goes_ Try.func18 (by kernel_rfl) rfl #[.agg #[.int .i64 a0_0, .slice A0_1 l0_1.length c0_1]] (by rfl) rfl rfl (by (try simp only [List.map_toArray, List.map_cons, List.map_nil]); first | done | rfl | (simp only [List.length_drop, List.length_take]; rfl)) ?_
      with_reducible refine (laws_toNet.calls kj10 a0_0 _ _ l0_1 t401 t402 _ ?side1 ?side2 A29.out).mono ?_
      (case side1 => repeat (first | exact (Kd.C_below HR0_1.out HB.out) | (with_reducible refine Kd.C_alloc ?_ _) | (with_reducible refine Kd.C_drewN ?_ _) | (with_reducible refine Kd.C_drew ?_)))
      (case side2 => exact HC0_1.out)
      rintro e w33 ⟨v403, rfl, ho0, hb⟩
      refine ⟨_, rfl, ?_⟩
      have n0_ := Aside0.mk (Kd.S_elder' (by (with_reducible repeat (first | apply Kd.S_alloc | apply Kd.S_drewN | apply Kd.S_drew)); exact HO_399001.out) (Kd.S_base ho0) hb)
      have n1_ := Aside0.mk (Kd.S_lower (Kd.S_new' ho0 (Kd.S_lt (by (with_reducible repeat (first | apply Kd.S_alloc | apply Kd.S_drewN | apply Kd.S_drew)); exact HO_399001.out))) (below_size (by repeat (first | (with_reducible first | exact HB.out | apply below_alloc | apply pw_below_drewN | apply below_drew1 | refine below_set ?_ GE386.out | refine below_set ?_ GE398.out) | exact HB.out))))
      have n2_ := Aside0.mk (blk_below (g := gb386) (o := .cells #[.int .i64 a0_0, .slice A0_1 l0_1.length c0_1] 30 (0, 0)) (by (with_reducible repeat (first | refine blk_drewN ?_ _ | refine blk_drew ?_ | refine blk_alloc ?_ _)); exact BK386.out) hb)
      have n3_ := Aside0.mk (blk_below (g := gb398) (o := .cells #[.int .i64 t394, .slice Ao25 t395.length co25] 33 (0, 0)) (by (with_reducible repeat (first | refine blk_drewN ?_ _ | refine blk_drew ?_ | refine blk_alloc ?_ _)); exact BK398.out) hb)
      have n4_ := Aside0.mk (below_step (by repeat (first | (with_reducible first | exact HB.out | apply below_alloc | apply pw_below_drewN | apply below_drew1 | refine below_set ?_ GE386.out | refine below_set ?_ GE398.out) | exact HB.out)) hb)
      clear HO_399001
      clear BK386
      clear BK398
      clear HB
      have HO_399001 := n0_
      have HO404 := n1_
      have BK386 := n2_
      have BK398 := n3_
      have HB := n4_
      clear n0_ n1_ n2_ n3_ n4_
      (try clear hb)
      (try clear hb2)
      (try clear hk)
      (try clear hi)
      (try clear ho0)
      obtain ⟨Ao34, co34, eo34⟩ := Kd.S_slice HO404.out
      (first | subst eo34 | (injection eo34 with f1_ f2_ f3_; have f4_ := f1_.symm; have f5_ := f3_.symm; clear f1_ f2_ f3_; subst f4_; subst f5_))
      refine hK.out _ _ ⟨(blk_cell BK398.out 0).trans rfl, (blk_cell BK398.out 1).trans rfl, (blk_cell BK386.out 0).trans rfl, (blk_cell BK386.out 1).trans rfl⟩ (fun hHeld => ?_)
      clear hK K
      refine norm_ (a' := ?_) ?_ ?_
      rotate_left
      ·show Act.put _ (some 37) _ = _
       simp only [Act.put, List.setIfInBounds_toArray, List.set_cons_zero, List.set_cons_succ, i64_w, i32_w]
       rfl
      refine one_ (i := 3) (N := some 38) #[true, true, true, true, false] rfl rfl (by kernel_rfl) (by decide) (fun K hK => ?_)
      refine goes_ Try.func20 (by kernel_rfl) rfl #[.agg #[.int .i64 t394, .slice Ao25 t395.length co25], .agg #[.int .i64 t401, .slice Ao34 t402.length co34]] (by rfl) rfl rfl (by (try simp only [List.map_toArray, List.map_cons, List.map_nil]); first | done | rfl | (simp only [List.length_drop, List.length_take]; rfl)) ?_
      with_reducible refine (laws_eqNet.calls kj10 t394 _ _ t395 t401 _ _ t402 true _ ?side1 ?side2 ?side3 ?side4 A30.out).mono ?_
      (case side1 => repeat (first | exact (Kd.S_reads' HO_399001.out).2.2 | (with_reducible refine Kd.C_alloc ?_ _) | (with_reducible refine Kd.C_drewN ?_ _) | (with_reducible refine Kd.C_drew ?_)))
      (case side2 => exact (Kd.S_reads' HO_399001.out).2.1)
      (case side3 => repeat (first | exact (Kd.S_reads' HO404.out).2.2 | (with_reducible refine Kd.C_alloc ?_ _) | (with_reducible refine Kd.C_drewN ?_ _) | (with_reducible refine Kd.C_drew ?_)))
      (case side4 => exact (Kd.S_reads' HO404.out).2.1)
      rintro e w35 ⟨rfl, hb⟩
      refine ⟨_, rfl, ?_⟩
      have n0_ := Aside0.mk (Kd.S_below (by (with_reducible repeat (first | apply Kd.S_alloc | apply Kd.S_drewN | apply Kd.S_drew)); exact HO_399001.out) hb)
      have n1_ := Aside0.mk (Kd.S_below (by (with_reducible repeat (first | apply Kd.S_alloc | apply Kd.S_drewN | apply Kd.S_drew)); exact HO404.out) hb)
      have n2_ := Aside0.mk (blk_below (g := gb386) (o := .cells #[.int .i64 a0_0, .slice A0_1 l0_1.length c0_1] 30 (0, 0)) (by (with_reducible repeat (first | refine blk_drewN ?_ _ | refine blk_drew ?_ | refine blk_alloc ?_ _)); exact BK386.out) hb)
      have n3_ := Aside0.mk (blk_below (g := gb398) (o := .cells #[.int .i64 t394, .slice Ao25 t395.length co25] 33 (0, 0)) (by (with_reducible repeat (first | refine blk_drewN ?_ _ | refine blk_drew ?_ | refine blk_alloc ?_ _)); exact BK398.out) hb)
      have n4_ := Aside0.mk (below_step (by repeat (first | (with_reducible first | exact HB.out | apply below_alloc | apply pw_below_drewN | apply below_drew1 | refine below_set ?_ GE386.out | refine below_set ?_ GE398.out) | exact HB.out)) hb)
      clear HO_399001
      clear HO404
      clear BK386
      clear BK398
      clear HB
      have HO_399001 := n0_
      have HO404 := n1_
      have BK386 := n2_
      have BK398 := n3_
      have HB := n4_
      clear n0_ n1_ n2_ n3_ n4_
      (try clear hb)
      (try clear hb2)
      (try clear hk)
      (try clear hi)
      refine hK.out _ _ ⟨(blk_cell BK398.out 0).trans rfl, (blk_cell BK398.out 1).trans rfl, (blk_cell BK386.out 0).trans rfl, (blk_cell BK386.out 1).trans rfl⟩ (fun hHeld => ?_)
      clear hK K
      refine norm_ (a' := ?_) ?_ ?_
      rotate_left
      ·show Act.put _ (some 38) _ = _
       simp only [Act.put, List.setIfInBounds_toArray, List.set_cons_zero, List.set_cons_succ, i64_w, i32_w]
       rfl
      refine pure_ (i := 4) (N := some 39) (v := ?_) (a' := ?_) #[true, true, true, true, true] rfl rfl (by kernel_rfl) (fun _ _ _ h => h) (Or.inl ⟨by rfl, ?_⟩) ?_ ?_
      rotate_left
      ·intro w'
       go_simp
       with_reducible rfl
      rotate_left
      ·simp only [Act.put, List.setIfInBounds_toArray, List.set_cons_zero, List.set_cons_succ, i64_w, i32_w]
       rfl
      refine done_ (by kernel_rfl) ?_
      try go_wp2
      go_ret
      exact ⟨by first | rfl | (simp [errW_none, errW_some] <;> rfl) | (simp [*, errW_none, errW_some] <;> rfl), by repeat (first | (with_reducible first | exact HB.out | apply below_alloc | apply pw_below_drewN | apply below_drew1 | refine below_set ?_ GE386.out | refine below_set ?_ GE398.out) | exact HB.out)⟩
     ·replace c31 := Bool.eq_false_iff.mpr c31
      subst c31
      have H1 : (some false) = some true := by rw [if_neg (show ¬ (false = true) by decide)] at H; exact H
      clear H
      have H := H1
      clear H1
      exact absurd H (by simp)
-- needs: 70 (short never minds a better state, nor to move)
def ValidS (s : ByteArray) : Prop := ∀ i : Nat, i < s.size → bt s (i : Int) = 46 ∨ bt s (i : Int) = 115 ∨ bt s (i : Int) = 99
def LeS (s t : ByteArray) : Prop := s.size = t.size ∧ ∀ i : Nat, i < s.size → (bt s (i : Int) = 115 → bt t (i : Int) = 115) ∧ (bt t (i : Int) = 99 → bt s (i : Int) = 99)
theorem LeS.refl (s : ByteArray) : LeS s s := ⟨rfl, fun _ _ => ⟨id, id⟩⟩
theorem LeS.trans {s t u : ByteArray} (h : LeS s t) (k : LeS t u) : LeS s u :=
  ⟨h.1.trans k.1, fun i hi => ⟨fun e => (k.2 i (by have := h.1; omega)).1 ((h.2 i hi).1 e), fun e => (h.2 i hi).2 ((k.2 i (by have := h.1; omega)).2 e)⟩⟩
theorem mem_freeV {s : ByteArray} {x : Int} : x ∈ freeV s ↔ ∃ j : Nat, x = (j : Int) ∧ j < s.size ∧ bt s (j : Int) = 46 := by
  unfold freeV
  rw [mem_chosenTo]
  constructor
  · rintro ⟨h0, h1, h2⟩
    refine ⟨x.toNat, by omega, by omega, ?_⟩
    have e : ((x.toNat : Nat) : Int) = x := by omega
    rw [e]; exact beq_iff_eq.1 h2
  · rintro ⟨j, rfl, hj, h⟩
    exact ⟨by omega, by omega, beq_iff_eq.2 h⟩
theorem validS_after {s : ByteArray} (h : ValidS s) (j : Nat) (b : Bool) (hj : j < s.size) : ValidS (afterV s j b) := by
  intro i hi
  rw [afterV_size s j b hj] at hi
  rw [afterV_bt s j b hj i hi]
  split
  · cases b <;> simp
  · exact h i hi
theorem leS_both {s t : ByteArray} (h : LeS s t) (j : Nat) (b : Bool) (hj : j < s.size) : LeS (afterV s j b) (afterV t j b) := by
  have ht : j < t.size := by have := h.1; omega
  refine ⟨by rw [afterV_size s j b hj, afterV_size t j b ht, h.1], fun i hi => ?_⟩
  rw [afterV_size s j b hj] at hi
  rw [afterV_bt s j b hj i hi, afterV_bt t j b ht i (by have := h.1; omega)]
  split
  · exact ⟨id, id⟩
  · exact h.2 i hi
/-- A cut is worse for short, a kept edge is better. -/
theorem leS_cut {s : ByteArray} (j : Nat) (hj : j < s.size) (hf : bt s (j : Int) = 46) : LeS (afterV s j false) s := by
  refine ⟨afterV_size s j false hj, fun i hi => ?_⟩
  rw [afterV_size s j false hj] at hi
  rw [afterV_bt s j false hj i hi]
  split
  · rename_i e; subst e; rw [hf]; simp
  · exact ⟨id, id⟩
theorem leS_keep {s : ByteArray} (j : Nat) (hj : j < s.size) (hf : bt s (j : Int) = 46) : LeS s (afterV s j true) := by
  refine ⟨(afterV_size s j true hj).symm, fun i hi => ?_⟩
  rw [afterV_bt s j true hj i hi]
  split
  · rename_i e; subst e; rw [hf]; simp
  · exact ⟨id, id⟩
theorem leS_keepL {s t : ByteArray} (h : LeS s t) (j : Nat) (hj : j < s.size) (hk : bt t (j : Int) = 115) : LeS (afterV s j true) t := by
  refine ⟨(afterV_size s j true hj).trans h.1, fun i hi => ?_⟩
  rw [afterV_size s j true hj] at hi
  rw [afterV_bt s j true hj i hi]
  split
  · rename_i e; subst e; rw [hk]; simp
  · exact h.2 i hi
theorem leS_cutR {s t : ByteArray} (h : LeS s t) (j : Nat) (hj : j < t.size) (hk : bt s (j : Int) = 99) : LeS s (afterV t j false) := by
  refine ⟨h.1.trans (afterV_size t j false hj).symm, fun i hi => ?_⟩
  rw [afterV_bt t j false hj i (by have := h.1; omega)]
  split
  · rename_i e; subst e; rw [hk]; simp
  · exact h.2 i hi
theorem reachN_mono {l : List (List Int)} (hl : NetEdges l) {A B : Nat → Bool} (f : Nat) (hf : f < 8) (h : ∀ i, i < l.length → A i = true → B i = true) (x : Nat) (hx : (reachN A l f).testBit x = true) : (reachN B l f).testBit x = true := by
  obtain ⟨_, _, _, h4⟩ := reachN_is hl A f hf
  obtain ⟨_, k2, k3, _⟩ := reachN_is hl B f hf
  exact h4 _ k2 (fun i hi hA => k3 i hi (h i hi hA)) x hx
theorem ov_one {l : List (List Int)} (hl : NetEdges l) {s t : ByteArray} (hs : s.size = l.length) (h : LeS s t) (h1 : ovV l s = 1) : ovV l t = 1 := by
  unfold ovV at h1 ⊢
  by_cases c : (reachN (fun i => bt s (i : Int) == 115) l 0).testBit 1 = true
  · rw [if_pos (reachN_mono hl 0 (by omega) (fun i hi e => by
      have := (h.2 i (by omega)).1 (beq_iff_eq.1 e)
      exact beq_iff_eq.2 this) 1 c)]
  · rw [if_neg c] at h1
    split at h1 <;> omega
theorem ov_two {l : List (List Int)} (hl : NetEdges l) {s t : ByteArray} (hs : s.size = l.length) (h : LeS s t) (h2 : ovV l t = 2) : ovV l s = 2 := by
  by_cases c1 : ovV l s = 1
  · have := ov_one hl hs h c1; omega
  unfold ovV at h2 c1 ⊢
  by_cases c : (reachN (fun i => bt s (i : Int) == 115) l 0).testBit 1 = true
  · rw [if_pos c] at c1; omega
  · rw [if_neg c]
    by_cases d : (reachN (fun i => bt s (i : Int) != 99) l 0).testBit 1 = true
    · have := reachN_mono hl 0 (by omega) (A := fun i => bt s (i : Int) != 99) (B := fun i => bt t (i : Int) != 99) (fun i hi e => by
        have e1 : bt s (i : Int) ≠ 99 := bne_iff_ne.1 e
        exact bne_iff_ne.2 (fun e2 => e1 ((h.2 i (by omega)).2 e2))) 1 d
      rw [if_pos this] at h2
      split at h2 <;> omega
    · rw [if_neg d]
theorem free_ex {l : List (List Int)} {s : ByteArray} (hs : s.size = l.length) (hl : NetEdges l) (hv : ValidS s) (h : ovV l s = 0) : ∃ j : Nat, j < s.size ∧ bt s (j : Int) = 46 := by
  by_cases e : ∃ j : Nat, j < s.size ∧ bt s (j : Int) = 46
  · exact e
  exfalso
  have same : ∀ i, i < l.length → (bt s (i : Int) == 115) = (bt s (i : Int) != 99) := fun i hi => by
    rcases hv i (by omega) with h | h | h
    · exact absurd ⟨i, by omega, h⟩ e
    · rw [h]; rfl
    · rw [h]; rfl
  have er : reachN (fun i => bt s (i : Int) == 115) l 0 = reachN (fun i => bt s (i : Int) != 99) l 0 :=
    reachN_eq ((reachN_is hl (fun i => bt s (i : Int) != 99) 0 (by omega)).congr fun i hi => (same i hi).symm)
  unfold ovV at h
  rw [er] at h
  split at h <;> omega
theorem win_short {l : List (List Int)} {s : ByteArray} : netWin l s true = 1 ↔ (ovV l s = 1 ∨ (ovV l s = 0 ∧ ∃ j : Nat, j < s.size ∧ bt s (j : Int) = 46 ∧ netWin l (afterV s j true) false = 1)) := by
  rw [netWin_eq]
  by_cases h : ovV l s = 0
  · rw [if_pos h]
    have ho : ownV true = 1 := rfl
    rw [ho]
    by_cases ha : (freeV s).any (fun k => netWin l (afterV s k true) (!true) == 1) = true
    · rw [if_pos ha]
      obtain ⟨x, hx, hw⟩ := List.any_eq_true.1 ha
      obtain ⟨j, rfl, hj, hf⟩ := mem_freeV.1 hx
      exact ⟨fun _ => .inr ⟨h, j, hj, hf, beq_iff_eq.1 hw⟩, fun _ => rfl⟩
    · rw [if_neg ha]
      constructor
      · intro e; omega
      · rintro (e | ⟨_, j, hj, hf, hw⟩)
        · omega
        · exact absurd (List.any_eq_true (p := fun k => netWin l (afterV s k true) (!true) == 1) |>.2 ⟨(j : Int), mem_freeV.2 ⟨j, rfl, hj, hf⟩, beq_iff_eq.2 hw⟩) ha
  · rw [if_neg h]
    constructor
    · exact fun e => .inl e
    · rintro (e | ⟨e, _⟩)
      · exact e
      · exact absurd e h
theorem win_cut {l : List (List Int)} {s : ByteArray} : netWin l s false = 1 ↔ (ovV l s = 1 ∨ (ovV l s = 0 ∧ ∀ j : Nat, j < s.size → bt s (j : Int) = 46 → netWin l (afterV s j false) true = 1)) := by
  rw [netWin_eq]
  by_cases h : ovV l s = 0
  · rw [if_pos h]
    have ho : ownV false = 2 := rfl
    rw [ho]
    by_cases ha : (freeV s).any (fun k => netWin l (afterV s k false) (!false) == 2) = true
    · rw [if_pos ha]
      obtain ⟨x, hx, hw⟩ := List.any_eq_true.1 ha
      obtain ⟨j, rfl, hj, hf⟩ := mem_freeV.1 hx
      constructor
      · intro e; omega
      · rintro (e | ⟨_, e⟩)
        · omega
        · have h1 := e j hj hf
          have h2 := beq_iff_eq.1 hw
          rw [show (!false) = true from rfl] at h2
          omega
    · rw [if_neg ha]
      refine ⟨fun _ => .inr ⟨h, fun j hj hf => ?_⟩, fun _ => rfl⟩
      have hr := netWin_range l (afterV s j false) true
      have hp := netWin_pos l (afterV s j false) true
      by_cases e : netWin l (afterV s j false) true = 2
      · exact absurd (List.any_eq_true (p := fun k => netWin l (afterV s k false) (!false) == 2) |>.2 ⟨(j : Int), mem_freeV.2 ⟨j, rfl, hj, hf⟩, beq_iff_eq.2 e⟩) ha
      · omega
  · rw [if_neg h]
    constructor
    · exact fun e => .inl e
    · rintro (e | ⟨e, _⟩)
      · exact e
      · exact absurd e h
theorem win_mono {l : List (List Int)} (hl : NetEdges l) : ∀ (m : Nat) (s t : ByteArray) (b : Bool), (freeV s).length + (freeV t).length ≤ m → s.size = l.length → ValidS s → ValidS t → LeS s t → netWin l s b = 1 → netWin l t b = 1 := by
  intro m
  induction m with
  | zero =>
    intro s t b hm hs hvs hvt hle hw
    have e0 : ∀ u : ByteArray, (freeV u).length = 0 → u.size = l.length → ValidS u → ovV l u ≠ 0 := fun u hu hsz hv h0 => by
      obtain ⟨j, hj, hf⟩ := free_ex hsz hl hv h0
      have : (j : Int) ∈ freeV u := mem_freeV.2 ⟨j, rfl, hj, hf⟩
      rw [List.length_eq_zero_iff.1 hu] at this
      simp at this
    have h1 : ovV l s = 1 := by
      cases b
      · rcases win_cut.1 hw with e | ⟨e, _⟩
        · exact e
        · exact absurd e (e0 s (by omega) hs hvs)
      · rcases win_short.1 hw with e | ⟨e, _⟩
        · exact e
        · exact absurd e (e0 s (by omega) hs hvs)
    have h2 := ov_one hl hs hle h1
    cases b
    · exact win_cut.2 (.inl h2)
    · exact win_short.2 (.inl h2)
  | succ m ih =>
    intro s t b hm hs hvs hvt hle hw
    have ht : t.size = l.length := hle.1.symm.trans hs
    have hro := ovV_range l t
    have dec : ∀ (u : ByteArray) (j : Nat) (b : Bool), j < u.size → bt u (j : Int) = 46 → (freeV (afterV u j b)).length < (freeV u).length := fun u j b hj hf => free_less u j b (mem_freeV.2 ⟨j, rfl, hj, hf⟩)
    cases b with
    | true =>
      rcases win_short.1 hw with e | ⟨e0, j, hj, hf, hwj⟩
      · exact win_short.2 (.inl (ov_one hl hs hle e))
      · by_cases t1 : ovV l t = 1
        · exact win_short.2 (.inl t1)
        have t2 : ovV l t ≠ 2 := fun e => by have := ov_two hl hs hle e; omega
        have t0 : ovV l t = 0 := by omega
        refine win_short.2 (.inr ⟨t0, ?_⟩)
        have hjt : j < t.size := by have := hle.1; omega
        have d1 := dec s j true hj hf
        rcases hvt j hjt with f | f | f
        · have d2 := dec t j true hjt f
          exact ⟨j, hjt, f, ih _ _ false (by omega) ((afterV_size s j true hj).trans hs) (validS_after hvs j true hj) (validS_after hvt j true hjt) (leS_both hle j true hj) hwj⟩
        · obtain ⟨i, hi, fi⟩ := free_ex ht hl hvt t0
          have d2 := dec t i true hi fi
          exact ⟨i, hi, fi, ih _ _ false (by omega) ((afterV_size s j true hj).trans hs) (validS_after hvs j true hj) (validS_after hvt i true hi) ((leS_keepL hle j hj f).trans (leS_keep i hi fi)) hwj⟩
        · have := (hle.2 j hj).2 f
          omega
    | false =>
      rcases win_cut.1 hw with e | ⟨e0, hall⟩
      · exact win_cut.2 (.inl (ov_one hl hs hle e))
      · by_cases t1 : ovV l t = 1
        · exact win_cut.2 (.inl t1)
        have t2 : ovV l t ≠ 2 := fun e => by have := ov_two hl hs hle e; omega
        have t0 : ovV l t = 0 := by omega
        refine win_cut.2 (.inr ⟨t0, fun j hjt f => ?_⟩)
        have hj : j < s.size := by have := hle.1; omega
        have d2 := dec t j false hjt f
        rcases hvs j hj with g | g | g
        · have d1 := dec s j false hj g
          exact ih _ _ true (by omega) ((afterV_size s j false hj).trans hs) (validS_after hvs j false hj) (validS_after hvt j false hjt) (leS_both hle j false hj) (hall j hj g)
        · have := (hle.2 j hj).1 g
          omega
        · obtain ⟨i, hi, fi⟩ := free_ex hs hl hvs e0
          have d1 := dec s i false hi fi
          exact ih _ _ true (by omega) ((afterV_size s i false hi).trans hs) (validS_after hvs i false hi) (validS_after hvt j false hjt) ((leS_cut i hi fi).trans (leS_cutR hle j hjt g)) (hall i hi fi)
/-- Who wins as the second one wins as the first one. -/
theorem win_first {l : List (List Int)} (hl : NetEdges l) (s : ByteArray) (hs : s.size = l.length) (hv : ValidS s) (h : netWin l s false = 1) : netWin l s true = 1 := by
  rcases win_cut.1 h with e | ⟨e0, hall⟩
  · exact win_short.2 (.inl e)
  · refine win_short.2 (.inr ⟨e0, ?_⟩)
    obtain ⟨j, hj, f⟩ := free_ex hs hl hv e0
    have hc := hall j hj f
    have hss := (afterV_size s j false hj).trans hs
    rcases win_short.1 hc with e | ⟨_, i, hi, fi, hw⟩
    · refine ⟨j, hj, f, win_cut.2 (.inl (ov_one hl hss ((leS_cut j hj f).trans (leS_keep j hj f)) e))⟩
    · rw [afterV_size s j false hj] at hi
      have hfi : bt s (i : Int) = 46 := by
        rw [afterV_bt s j false hj i hi] at fi
        split at fi
        · simp at fi
        · exact fi
      refine ⟨i, hi, hfi, win_mono hl _ _ _ false (Nat.le_refl _) ?_ (validS_after (validS_after hv j false hj) i true (by rw [afterV_size s j false hj]; exact hi)) (validS_after hv i true hi) (leS_both (leS_cut j hj f) i true (by rw [afterV_size s j false hj]; exact hi)) hw⟩
      rw [afterV_size _ i true (by rw [afterV_size s j false hj]; exact hi), afterV_size s j false hj, hs]
-- The reference's winner: sets by bits, what is known by numbers.
def bitsN (p : Nat → Bool) : Nat → Nat
  | 0 => 0
  | i + 1 => if p i = true then bitsN p i ||| 2 ^ i else bitsN p i
theorem bitsN_bit (p : Nat → Bool) : ∀ n j, (bitsN p n).testBit j = (decide (j < n) && p j)
  | 0, j => by simp [bitsN]
  | n + 1, j => by
    have ih := bitsN_bit p n j
    unfold bitsN
    by_cases h : p n = true
    · rw [if_pos h, Nat.testBit_or, ih, Nat.testBit_two_pow]
      by_cases e : n = j
      · subst e; simp [h]
      · by_cases hlt : j < n
        · simp [hlt, e, Nat.lt_succ_of_lt hlt]
        · have : ¬ j < n + 1 := by omega
          simp [hlt, e, this]
    · rw [if_neg h, ih]
      by_cases e : n = j
      · subst e; simp [h]
      · by_cases hlt : j < n
        · simp [hlt, Nat.lt_succ_of_lt hlt]
        · have : ¬ j < n + 1 := by omega
          simp [hlt, this]
theorem bitsN_lt (p : Nat → Bool) : ∀ n, bitsN p n < 2 ^ n
  | 0 => by simp [bitsN]
  | n + 1 => by
    have ih := bitsN_lt p n
    have e : 2 ^ (n + 1) = 2 ^ n * 2 := Nat.pow_succ 2 n
    unfold bitsN
    split
    · exact Nat.or_lt_two_pow (by omega) (by rw [e]; have := Nat.two_pow_pos n; omega)
    · omega
theorem bitsN_congr {p q : Nat → Bool} {n : Nat} (h : ∀ i, i < n → p i = q i) : bitsN p n = bitsN q n := by
  apply Nat.eq_of_testBit_eq
  intro j
  rw [bitsN_bit, bitsN_bit]
  by_cases hj : j < n
  · rw [h j hj]
  · simp [hj]
def keptS (s : ByteArray) : Nat := bitsN (fun i => bt s (i : Int) == 115) s.size
def outS (s : ByteArray) : Nat := bitsN (fun i => bt s (i : Int) == 99) s.size
def numS (s : ByteArray) (b : Bool) : Nat := (keptS s * 2 ^ s.size + outS s) * 2 + (if b then 0 else 1)
theorem keptS_after (s : ByteArray) (j : Nat) (b : Bool) (hj : j < s.size) (hf : bt s (j : Int) = 46) : keptS (afterV s j b) = if b then keptS s ||| 2 ^ j else keptS s := by
  unfold keptS
  rw [afterV_size s j b hj]
  apply Nat.eq_of_testBit_eq
  intro x
  rw [bitsN_bit]
  cases b with
  | true =>
    rw [if_pos rfl, Nat.testBit_or, bitsN_bit, Nat.testBit_two_pow]
    by_cases hx : x < s.size
    · rw [afterV_bt s j true hj x hx]
      by_cases e : x = j
      · subst e; simp [hx]
      · rw [if_neg e]; simp [hx, Ne.symm e]
    · have : j ≠ x := by omega
      simp [hx, this]
  | false =>
    rw [if_neg (by simp), bitsN_bit]
    by_cases hx : x < s.size
    · rw [afterV_bt s j false hj x hx]
      by_cases e : x = j
      · subst e; simp [hx, hf]
      · rw [if_neg e]
    · simp [hx]
theorem outS_after (s : ByteArray) (j : Nat) (b : Bool) (hj : j < s.size) (hf : bt s (j : Int) = 46) : outS (afterV s j b) = if b then outS s else outS s ||| 2 ^ j := by
  unfold outS
  rw [afterV_size s j b hj]
  apply Nat.eq_of_testBit_eq
  intro x
  rw [bitsN_bit]
  cases b with
  | false =>
    rw [if_neg (by simp), Nat.testBit_or, bitsN_bit, Nat.testBit_two_pow]
    by_cases hx : x < s.size
    · rw [afterV_bt s j false hj x hx]
      by_cases e : x = j
      · subst e; simp [hx]
      · rw [if_neg e]; simp [hx, Ne.symm e]
    · have : j ≠ x := by omega
      simp [hx, this]
  | true =>
    rw [if_pos rfl, bitsN_bit]
    by_cases hx : x < s.size
    · rw [afterV_bt s j true hj x hx]
      by_cases e : x = j
      · subst e; simp [hx, hf]
      · rw [if_neg e]
    · simp [hx]
theorem state_ext {s t : ByteArray} (hs : s.size = t.size) (h : ∀ i : Nat, i < s.size → bt s (i : Int) = bt t (i : Int)) : s = t := by
  apply ByteArray.ext
  apply Array.ext
  · simpa using hs
  · intro i h1 h2
    have h1' : i < s.size := by simpa using h1
    have h2' : i < t.size := by simpa using h2
    have e := h i h1'
    rw [bt_get s i h1', bt_get t i h2'] at e
    have e2 : (s[i]'h1').toNat = (t[i]'h2').toNat := by omega
    exact UInt8.toNat_inj.1 e2
theorem numS_inj {s t : ByteArray} {b c : Bool} (hs : s.size = t.size) (hvs : ValidS s) (hvt : ValidS t) (h : numS s b = numS t c) : s = t ∧ b = c := by
  unfold numS at h
  have hb : b = c := by cases b <;> cases c <;> simp at h <;> first | rfl | omega
  subst hb
  have hx : keptS s * 2 ^ s.size + outS s = keptS t * 2 ^ t.size + outS t := by omega
  have o1 := bitsN_lt (fun i => bt s (i : Int) == 99) s.size
  have o2 := bitsN_lt (fun i => bt t (i : Int) == 99) t.size
  have hp : 0 < 2 ^ s.size := Nat.two_pow_pos _
  have ho : outS s = outS t := by
    have e1 : (keptS s * 2 ^ s.size + outS s) % 2 ^ s.size = outS s := by rw [Nat.mul_comm, Nat.mul_add_mod]; exact Nat.mod_eq_of_lt o1
    have e2 : (keptS t * 2 ^ t.size + outS t) % 2 ^ t.size = outS t := by rw [Nat.mul_comm, Nat.mul_add_mod]; exact Nat.mod_eq_of_lt o2
    rw [← e1, ← e2, hx, hs]
  have hk : keptS s = keptS t := by
    rw [ho, ← hs] at hx
    exact Nat.eq_of_mul_eq_mul_right hp (by omega)
  refine ⟨state_ext hs fun i hi => ?_, rfl⟩
  have k1 := congrArg (fun m => Nat.testBit m i) hk
  have k2 := congrArg (fun m => Nat.testBit m i) ho
  simp only [keptS, outS, bitsN_bit, hi, show i < t.size from by omega, decide_true, Bool.true_and] at k1 k2
  rcases hvs i hi with e | e | e <;> rcases hvt i (by omega) with f | f | f <;> rw [e, f] at k1 k2 ⊢ <;> simp at k1 k2
theorem bitN_and (m : Nat) (hm : m < 9223372036854775808) : (Go.bits .and .i64 ((m : Int) / 2) 1 = 1) ↔ m.testBit 1 = true := by
  have e : ((m : Int) / 2) = shr .i64 (m : Int) ((1 : Nat) : Int) := by simp [shr, IntKind.bits]
  rw [e, bit_nat m 1 hm (by omega)]
  split <;> simp_all
theorem specOver_ev (p : Int) (l : List (List Int)) (hl : NetEdges l) (s : ByteArray) (hs : s.size = l.length) : Ev (fun k => spec_l10Over.f k p l (keptS s : Nat) (outS s : Nat)) (ovV l s) := by
  have hn := hl.1
  have two : ∀ n, n ≤ 10 → 2 ^ n ≤ 1024 := fun n h => Nat.pow_le_pow_right (by omega) h
  have hk : keptS s < 1024 := Nat.lt_of_lt_of_le (bitsN_lt _ _) (two _ (by omega))
  have ho : outS s < 1024 := Nat.lt_of_lt_of_le (bitsN_lt _ _) (two _ (by omega))
  have hw : IntKind.u64.wrap ((l.length : Nat) : Int) = (l.length : Int) := u64_nat _ (by omega)
  obtain ⟨c1, e1, L1⟩ := reachS_ev p l hl (keptS s) 0 (by omega) (by omega)
  have h2 := two l.length hn
  have hpos := Nat.two_pow_pos l.length
  have eall : Go.bits .andNot .i64 (wrap64 ((shl .i64 1 (l.length : Int)) - 1)) ((outS s : Nat) : Int) = ((butNat (2 ^ l.length - 1) (outS s) : Nat) : Int) := by
    rw [shl_nat _ (by omega)]
    have : wrap64 (((2 ^ l.length : Nat) : Int) - 1) = ((2 ^ l.length - 1 : Nat) : Int) := by
      generalize 2 ^ l.length = z at *
      unfold wrap64; omega
    rw [this, bits_but_nat _ _ (by omega) (by omega)]
  have hbut := butNat_lt (2 ^ l.length - 1) (outS s) (by omega) (by omega)
  obtain ⟨c2, e2, L2⟩ := reachS_ev p l hl (butNat (2 ^ l.length - 1) (outS s)) 0 (by omega) (by omega)
  have r1 : c1 = reachN (fun i => bt s (i : Int) == 115) l 0 := reachN_of hl (by omega) (L1.congr fun i hi => by
    simp only [keptS, bitsN_bit, show i < s.size from by omega, decide_true, Bool.true_and])
  have r2 : c2 = reachN (fun i => bt s (i : Int) != 99) l 0 := reachN_of hl (by omega) (L2.congr fun i hi => by
    show (butNat (2 ^ l.length - 1) (outS s)).testBit i = _
    rw [butNat_bit _ _ _ (by omega) (by omega), Nat.testBit_two_pow_sub_one]
    simp only [outS, bitsN_bit, hi, show i < s.size from by omega, decide_true, Bool.true_and]
    rfl)
  unfold spec_l10Over.f
  rw [hw]
  refine Ev.congr (fun k => by rw [if_pos (by omega)]) (Ev.bind (by simpa using e1) ?_)
  have hov : ovV l s = (if c1.testBit 1 = true then 1 else if c2.testBit 1 = true then 0 else 2) := by unfold ovV; rw [r1, r2]
  rw [hov]
  by_cases d1 : c1.testBit 1 = true
  · simp only [d1, if_true]
    exact Ev.congr (f := fun _ => some 1) (fun k => by rw [if_pos ((bitN_and c1 (by have := L1.1; omega)).2 d1)]) (Ev.now _)
  · simp only [d1, if_false]
    refine Ev.congr (fun k => by rw [if_neg (fun h => d1 ((bitN_and c1 (by have := L1.1; omega)).1 h))]) ?_
    rw [eall]
    refine Ev.bind (by simpa using e2) ?_
    have hz : (Go.bits .and .i64 ((c2 : Int) / 2) 1 = 0) ↔ ¬ c2.testBit 1 = true := by
      have e : ((c2 : Int) / 2) = shr .i64 (c2 : Int) ((1 : Nat) : Int) := by simp [shr, IntKind.bits]
      rw [e, bit_nat c2 1 (by have := L2.1; omega) (by omega)]
      split <;> simp_all
    by_cases d2 : c2.testBit 1 = true
    · exact Ev.congr (f := fun _ => some 0) (fun k => by rw [if_neg (fun h => hz.1 h d2)]) (Ev.congr (fun k => by simp [d2]) (Ev.now _))
    · exact Ev.congr (f := fun _ => some 2) (fun k => by rw [if_pos (hz.2 d2)]) (Ev.congr (fun k => by simp [d2]) (Ev.now _))
-- The reference's winner is the winner.
def KOk (l : List (List Int)) (known : List Int) : Prop := ∀ s b, s.size = l.length → ValidS s → known.getD (numS s b) 0 = 0 ∨ known.getD (numS s b) 0 = netWin l s b
theorem getD_set_sameI (l : List Int) (i : Nat) (a : Int) (h : i < l.length) : (l.set i a).getD i 0 = a := by
  rw [List.getD_eq_getElem?_getD, List.getElem?_set_self (by simpa using h)]; rfl
theorem getD_set_neI (l : List Int) (i j : Nat) (a : Int) (h : i ≠ j) : (l.set i a).getD j 0 = l.getD j 0 := by
  rw [List.getD_eq_getElem?_getD, List.getD_eq_getElem?_getD, List.getElem?_set_ne h]
theorem KOk.put {l : List (List Int)} {known : List Int} (h : KOk l known) {s : ByteArray} {b : Bool} (hs : s.size = l.length) (hv : ValidS s) : KOk l (known.set (numS s b) (netWin l s b)) := by
  intro t c ht hvt
  by_cases e : numS s b = numS t c
  · obtain ⟨rfl, rfl⟩ := numS_inj (hs.trans ht.symm) hv hvt e
    by_cases hl : numS s b < known.length
    · exact .inr (getD_set_sameI _ _ _ hl)
    · rw [List.set_eq_of_length_le (by omega)]; exact h s b hs hv
  · rw [getD_set_neI _ _ _ _ e]; exact h t c ht hvt
theorem numS_lt (s : ByteArray) (b : Bool) : numS s b < 2 * (2 ^ s.size * 2 ^ s.size) := by
  have h1 : keptS s < 2 ^ s.size := bitsN_lt _ _
  have h2 : outS s < 2 ^ s.size := bitsN_lt _ _
  unfold numS
  generalize keptS s = K at *
  generalize outS s = O at *
  generalize 2 ^ s.size = B at *
  have : (K + 1) * B ≤ B * B := Nat.mul_le_mul_right B h1
  have e : (K + 1) * B = K * B + B := Nat.succ_mul K B
  split <;> omega
theorem shlN (K n : Nat) (hn : n ≤ 10) (hK : K < 1024) : shl .i64 (K : Int) (n : Int) = ((K * 2 ^ n : Nat) : Int) := by
  have h2 : 2 ^ n ≤ 1024 := Nat.pow_le_pow_right (by omega) hn
  have hm : K * 2 ^ n ≤ 1024 * 1024 := Nat.mul_le_mul (by omega) h2
  unfold shl
  have e : min ((n : Int).toNat) IntKind.i64.bits = n := by
    have : IntKind.i64.bits = 64 := rfl
    omega
  rw [e]
  have e2 : (K : Int) * 2 ^ n = ((K * 2 ^ n : Nat) : Int) := by push_cast; rfl
  rw [e2, i64_nat _ (by omega)]
theorem num_val (s : ByteArray) (b : Bool) (hs : s.size ≤ 10) : wrap64 ((wrap64 ((wrap64 ((Go.bits .or .i64 (shl .i64 ((keptS s : Nat) : Int) (s.size : Int)) ((outS s : Nat) : Int)) * 2)) + ownV b)) - 1) = (numS s b : Int) := by
  have h2 : 2 ^ s.size ≤ 1024 := Nat.pow_le_pow_right (by omega) hs
  have h1 : keptS s < 2 ^ s.size := bitsN_lt _ _
  have h3 : outS s < 2 ^ s.size := bitsN_lt _ _
  have hm : keptS s * 2 ^ s.size ≤ 1024 * 1024 := Nat.mul_le_mul (by omega) h2
  rw [shlN _ _ hs (by omega), bits_or_nat _ _ (by omega) (by omega)]
  have e : keptS s * 2 ^ s.size ||| outS s = keptS s * 2 ^ s.size + outS s := by
    rw [Nat.mul_comm]; exact (Nat.two_pow_add_eq_or_of_lt h3 _).symm
  rw [e]
  unfold numS
  generalize keptS s * 2 ^ s.size = X at *
  generalize outS s = O at *
  cases b
  · show wrap64 (wrap64 (wrap64 (((X + O : Nat) : Int) * 2) + 2) - 1) = _
    unfold wrap64; simp; omega
  · show wrap64 (wrap64 (wrap64 (((X + O : Nat) : Int) * 2) + 1) - 1) = _
    unfold wrap64; simp; omega
theorem win_yes {l : List (List Int)} {s : ByteArray} {b : Bool} (h0 : ovV l s = 0) {j : Nat} (hj : j < s.size) (hf : bt s (j : Int) = 46) (h : netWin l (afterV s j b) (!b) = ownV b) : netWin l s b = ownV b := by
  rw [netWin_eq, if_pos h0, if_pos]
  exact List.any_eq_true.2 ⟨(j : Int), mem_freeV.2 ⟨j, rfl, hj, hf⟩, beq_iff_eq.2 h⟩
theorem win_no {l : List (List Int)} {s : ByteArray} {b : Bool} (h0 : ovV l s = 0) (h : ∀ j : Nat, j < s.size → bt s (j : Int) = 46 → netWin l (afterV s j b) (!b) ≠ ownV b) : netWin l s b = 3 - ownV b := by
  rw [netWin_eq, if_pos h0, if_neg]
  intro ha
  obtain ⟨x, hx, hw⟩ := List.any_eq_true.1 ha
  obtain ⟨j, rfl, hj, hf⟩ := mem_freeV.1 hx
  exact h j hj hf (beq_iff_eq.1 hw)
theorem specWin_ev (p : Int) (l : List (List Int)) (hl : NetEdges l) : ∀ (d : Nat) (s : ByteArray) (b : Bool) (known : List Int), (freeV s).length < d → s.size = l.length → ValidS s → KOk l known → known.length = 2 * (2 ^ l.length * 2 ^ l.length) →
    ∃ known' : List Int, Ev (fun k => spec_l10Winner.f k p l (keptS s : Nat) (outS s : Nat) (ownV b) known) (netWin l s b, known') ∧ KOk l known' ∧ known'.length = known.length := by
  intro d
  induction d with
  | zero => intro s b known hd; omega
  | succ d ih =>
    intro s b known hd hs hv hk hlen
    have hn := hl.1
    have hu : IntKind.u64.wrap ((l.length : Nat) : Int) = (s.size : Int) := by rw [u64_nat _ (by omega), hs]
    have hnum := num_val s b (by omega)
    have hlt := numS_lt s b
    rw [hs] at hlt
    have hor := ownV_range b
    have hK : keptS s < 1024 := Nat.lt_of_lt_of_le (bitsN_lt _ _) (Nat.pow_le_pow_right (by omega) (by omega : s.size ≤ 10))
    have hO : outS s < 1024 := Nat.lt_of_lt_of_le (bitsN_lt _ _) (Nat.pow_le_pow_right (by omega) (by omega : s.size ≤ 10))
    by_cases hp : known.getD (numS s b) 0 > 0
    · refine ⟨known, ?_, hk, rfl⟩
      have e : known.getD (numS s b) 0 = netWin l s b := by
        rcases hk s b hs hv with e | e
        · omega
        · exact e
      refine Ev.step (f := fun _ => some (netWin l s b, known)) (fun k => ?_) (Ev.now _)
      simp only [spec_l10Winner.f]
      rw [hu, hnum, if_pos (by omega), if_pos (by omega), if_pos (by rw [hlen]; omega), rd_nat, if_pos hp, e]
    · have loop : ovV l s = 0 → ∀ (e i : Nat) (w : Int) (kn : List Int), i + e = s.size → KOk l kn → kn.length = known.length → ((w = ownV b ∧ netWin l s b = ownV b) ∨ (w = 3 - ownV b ∧ ∀ j : Nat, j < i → bt s (j : Int) = 46 → netWin l (afterV s j b) (!b) ≠ ownV b)) →
          ∃ kn' : List Int, Ev (fun k => spec_l10Winner.l0 k (keptS s : Nat) (outS s : Nat) (ownV b) kn (s.size : Int) (numS s b : Int) w (i : Int) p l) (netWin l s b, kn') ∧ KOk l kn' ∧ kn'.length = known.length := by
        intro h0 e
        have fin : ∀ (kn : List Int) (i : Nat), KOk l kn → kn.length = known.length → ∀ w : Int, w = netWin l s b → Ev (fun k => spec_l10Winner.j1 k (keptS s : Nat) (outS s : Nat) (ownV b) kn (s.size : Int) (numS s b : Int) w (i : Int) false p l) (netWin l s b, kn.set (numS s b) (netWin l s b)) ∧ KOk l (kn.set (numS s b) (netWin l s b)) ∧ (kn.set (numS s b) (netWin l s b)).length = known.length := by
          intro kn i hkn hkl w hw
          refine ⟨Ev.step (f := fun _ => some (netWin l s b, kn.set (numS s b) (netWin l s b))) (fun k => ?_) (Ev.now _), hkn.put hs hv, by simpa using hkl⟩
          simp only [spec_l10Winner.j1]
          rw [if_neg (by simp), if_pos (by omega), if_pos (by rw [hkl, hlen]; omega), hw, Int.toNat_natCast]
        induction e with
        | zero =>
          intro i w kn hi hkn hkl hw
          have ew : w = netWin l s b := by
            rcases hw with ⟨rfl, h⟩ | ⟨rfl, h⟩
            · exact h.symm
            · exact (win_no h0 fun j hj hf => h j (by omega) hf).symm
          obtain ⟨f1, f2, f3⟩ := fin kn i hkn hkl w ew
          refine ⟨_, Ev.step (fun k => ?_) f1, f2, f3⟩
          simp only [spec_l10Winner.l0]
          rw [if_neg (by omega)]
        | succ e ihe =>
          intro i w kn hi hkn hkl hw
          have hlt2 : i < s.size := by omega
          rcases hw with ⟨rfl, h⟩ | ⟨rfl, h⟩
          · obtain ⟨f1, f2, f3⟩ := fin kn i hkn hkl _ h.symm
            refine ⟨_, Ev.step (fun k => ?_) f1, f2, f3⟩
            simp only [spec_l10Winner.l0]
            rw [if_pos (by omega)]
            have : (ownV b != ownV b) = false := by simp
            rw [this]
          · have hne : (3 - ownV b != ownV b) = true := bne_iff_ne.2 (by omega)
            have hui : IntKind.u64.wrap ((i : Int) + 1) = ((i + 1 : Nat) : Int) := by
              have := u64_nat (i + 1) (by omega)
              rw [← this]; rfl
            have hbit : Go.bits .and .i64 (shr .i64 (Go.bits .or .i64 ((keptS s : Nat) : Int) ((outS s : Nat) : Int)) (i : Int)) 1 = if bt s (i : Int) = 46 then 0 else 1 := by
              rw [bits_or_nat _ _ (by omega) (by omega)]
              have hor2 : keptS s ||| outS s < 1024 := Nat.or_lt_two_pow (n := 10) hK hO
              rw [bit_nat _ _ (by omega) (by omega), Nat.testBit_or]
              simp only [keptS, outS, bitsN_bit, hlt2, decide_true, Bool.true_and]
              rcases hv i hlt2 with f | f | f <;> rw [f] <;> simp
            have hsh : shl .i64 1 (i : Int) = ((2 ^ i : Nat) : Int) := shl_nat i (by omega)
            have h2i : 2 ^ i ≤ 1024 := Nat.pow_le_pow_right (by omega) (by omega : i ≤ 10)
            by_cases hf : bt s (i : Int) = 46
            · rw [if_pos hf] at hbit
              have hfl := free_less s (i : Int) b (mem_freeV.2 ⟨i, rfl, hlt2, hf⟩)
              obtain ⟨kn1, e1, k1, l1⟩ := ih (afterV s i b) (!b) kn (by omega) ((afterV_size s i b hlt2).trans hs) (validS_after hv i b hlt2) hkn (hkl.trans hlen)
              rw [keptS_after s i b hlt2 hf, outS_after s i b hlt2 hf] at e1
              have more : ∀ (w2 : Int), (w2 = if netWin l (afterV s i b) (!b) = ownV b then ownV b else 3 - ownV b) → ∃ kn' : List Int, Ev (fun k => spec_l10Winner.l0 k (keptS s : Nat) (outS s : Nat) (ownV b) kn1 (s.size : Int) (numS s b : Int) w2 ((i + 1 : Nat) : Int) p l) (netWin l s b, kn') ∧ KOk l kn' ∧ kn'.length = known.length := by
                intro w2 hw2
                refine ihe (i + 1) w2 kn1 (by omega) k1 (l1.trans hkl) ?_
                by_cases hw3 : netWin l (afterV s i b) (!b) = ownV b
                · rw [if_pos hw3] at hw2
                  exact .inl ⟨hw2, win_yes h0 hlt2 hf hw3⟩
                · rw [if_neg hw3] at hw2
                  refine .inr ⟨hw2, fun j hj hfj => ?_⟩
                  by_cases ej : j = i
                  · subst ej; exact hw3
                  · exact h j (by omega) hfj
              obtain ⟨kn2, e2, k2, l2⟩ := more _ rfl
              refine ⟨kn2, ?_, k2, l2⟩
              refine Ev.step (f := fun k => spec_l10Winner.j1 k (keptS s : Nat) (outS s : Nat) (ownV b) kn (s.size : Int) (numS s b : Int) (3 - ownV b) (i : Int) true p l) (fun k => ?_) ?_
              · simp only [spec_l10Winner.l0]
                rw [if_pos (by omega), hne]
              cases b with
              | true =>
                have ho1 : ownV true = 1 := rfl
                have ho2 : ownV (!true) = 2 := rfl
                rw [ho1] at e2 ⊢
                rw [ho1] at hor
                rw [ho2] at e1
                simp only [if_true] at e1
                refine Ev.step (f := fun k => (spec_l10Winner.f k p l (Go.bits .or .i64 ((keptS s : Nat) : Int) (shl .i64 1 (i : Int))) ((outS s : Nat) : Int) 2 kn).bind fun bt367 => (if bt367.1 = 1 then (spec_l10Winner.l0 k (keptS s : Nat) (outS s : Nat) 1 bt367.2 (s.size : Int) (numS s true : Int) 1 ((i + 1 : Nat) : Int) p l) else (spec_l10Winner.l0 k (keptS s : Nat) (outS s : Nat) 1 bt367.2 (s.size : Int) (numS s true : Int) (3 - 1) ((i + 1 : Nat) : Int) p l))) (fun k => ?_) ?_
                · simp only [spec_l10Winner.j1, if_true]
                  rw [if_pos (by omega), hbit, if_neg (by omega), hui]
                · rw [hsh, bits_or_nat _ _ (by omega) (by omega)]
                  refine Ev.bind e1 ?_
                  by_cases hw3 : netWin l (afterV s i true) (!true) = 1
                  · rw [if_pos hw3] at e2
                    exact Ev.congr (fun k => by simp only [hw3, if_true]) e2
                  · rw [if_neg hw3] at e2
                    exact Ev.congr (fun k => by simp only [hw3, if_false]) e2
              | false =>
                have ho1 : ownV false = 2 := rfl
                have ho2 : ownV (!false) = 1 := rfl
                rw [ho1] at e2 ⊢
                rw [ho1] at hor
                rw [ho2] at e1
                simp only [Bool.false_eq_true, if_false] at e1
                refine Ev.step (f := fun k => (spec_l10Winner.f k p l ((keptS s : Nat) : Int) (Go.bits .or .i64 ((outS s : Nat) : Int) (shl .i64 1 (i : Int))) 1 kn).bind fun bt369 => (if bt369.1 = 2 then (spec_l10Winner.l0 k (keptS s : Nat) (outS s : Nat) 2 bt369.2 (s.size : Int) (numS s false : Int) 2 ((i + 1 : Nat) : Int) p l) else (spec_l10Winner.l0 k (keptS s : Nat) (outS s : Nat) 2 bt369.2 (s.size : Int) (numS s false : Int) (3 - 2) ((i + 1 : Nat) : Int) p l))) (fun k => ?_) ?_
                · simp only [spec_l10Winner.j1, if_true]
                  rw [if_pos (by omega), hbit, if_neg (by omega), if_neg (by omega), hui]
                · rw [hsh, bits_or_nat _ _ (by omega) (by omega)]
                  refine Ev.bind e1 ?_
                  by_cases hw3 : netWin l (afterV s i false) (!false) = 2
                  · rw [if_pos hw3] at e2
                    exact Ev.congr (fun k => by simp only [hw3, if_true]) e2
                  · rw [if_neg hw3] at e2
                    exact Ev.congr (fun k => by simp only [hw3, if_false]) e2
            · rw [if_neg hf] at hbit
              obtain ⟨kn2, e2, k2, l2⟩ := ihe (i + 1) (3 - ownV b) kn (by omega) hkn hkl (.inr ⟨rfl, fun j hj hfj => by
                by_cases ej : j = i
                · subst ej; exact absurd hfj hf
                · exact h j (by omega) hfj⟩)
              refine ⟨kn2, ?_, k2, l2⟩
              refine Ev.step (f := fun k => spec_l10Winner.j1 k (keptS s : Nat) (outS s : Nat) (ownV b) kn (s.size : Int) (numS s b : Int) (3 - ownV b) (i : Int) true p l) (fun k => ?_) (Ev.step (fun k => ?_) e2)
              · simp only [spec_l10Winner.l0]
                rw [if_pos (by omega), hne]
              · simp only [spec_l10Winner.j1, if_true]
                rw [if_pos (by omega), hbit, if_pos rfl, hui]
      have head : ∀ (F : Nat → Option (Int × List Int)) (r : Int × List Int), Ev F r → (∀ k, F k = (spec_l10Over.f k p l (keptS s : Nat) (outS s : Nat)).bind fun t365 => (if t365 = 0 then (spec_l10Winner.l0 k (keptS s : Nat) (outS s : Nat) (ownV b) known (s.size : Int) (numS s b : Int) (3 - ownV b) ((0 : Nat) : Int) p l) else (some (t365, (known.set (numS s b) t365))))) → Ev (fun k => spec_l10Winner.f k p l (keptS s : Nat) (outS s : Nat) (ownV b) known) r := by
        intro F r hF hE
        refine Ev.step (f := F) (fun k => ?_) hF
        rw [hE]
        have hw3 : wrap64 (3 - ownV b) = 3 - ownV b := by unfold wrap64; omega
        simp only [spec_l10Winner.f]
        rw [hu, hnum, if_pos (by omega), if_pos (by omega), if_pos (by rw [hlen]; omega), rd_nat, if_neg hp, hw3, Int.toNat_natCast]
        rfl
      by_cases h0 : ovV l s = 0
      · obtain ⟨kn, e1, k1, l1⟩ := loop h0 s.size 0 (3 - ownV b) known (by omega) hk rfl (.inr ⟨rfl, fun j hj => by omega⟩)
        refine ⟨kn, ?_, k1, l1⟩
        refine head _ _ (Ev.bind (specOver_ev p l hl s hs) (f := fun k t365 => if t365 = 0 then (spec_l10Winner.l0 k (keptS s : Nat) (outS s : Nat) (ownV b) known (s.size : Int) (numS s b : Int) (3 - ownV b) ((0 : Nat) : Int) p l) else (some (t365, (known.set (numS s b) t365)))) ?_) (fun k => rfl)
        exact Ev.congr (fun k => by rw [if_pos h0]) e1
      · have ew : netWin l s b = ovV l s := by rw [netWin_eq, if_neg h0]
        refine ⟨known.set (numS s b) (netWin l s b), ?_, hk.put hs hv, by simp⟩
        refine head _ _ (Ev.bind (specOver_ev p l hl s hs) (f := fun k t365 => if t365 = 0 then (spec_l10Winner.l0 k (keptS s : Nat) (outS s : Nat) (ownV b) known (s.size : Int) (numS s b : Int) (3 - ownV b) ((0 : Nat) : Int) p l) else (some (t365, (known.set (numS s b) t365)))) ?_) (fun k => rfl)
        exact Ev.congr (f := fun _ => some (netWin l s b, known.set (numS s b) (netWin l s b))) (fun k => by rw [if_neg h0, ew]) (Ev.now _)
/-- The one pure statement of laws_FnExactOwnerOf. -/
def laws_FnExactOwnerOf.Pure : Prop := ∀ (a0_0 : Int) (l0_1 : List (List Int)), (Lit.int .i64 a0_0).wf = true → (l0_1.length ≤ maxLen ∧ ∀ y8_ ∈ l0_1, (y8_.length ≤ maxLen ∧ ∀ y9_ ∈ y8_, (Lit.int .i64 y9_).wf = true)) → ∃ k, laws_FnExactOwnerOf.f k a0_0 l0_1 = some true
/-- A type's readings as data are values of a kind: what an argument of that type is, whatever it holds. -/
def Rdb {α : Type} (P : Program) (t : TypeId) (d : Kd α) (wf : α → Prop) : Prop :=
  ∀ (H : Type) (enc : TypeId × Value → H) (w : World) (base : Nat) (spare : Nat → Bool) (held : Bool) (fuel : Nat) (cs : List Value) (x : DataW H × List MemPlace),
    DataW.trod enc P w base spare held fuel t cs = some x → ∃ a : α, d.K w a cs ∧ wf a
theorem Rdb.int {P : Program} {t : TypeId} {k : IntKind} (ht : P.underlying t = some (.int k)) : Rdb P t (Kd.int k) (fun n => (Lit.int k n).wf = true) := by
  intro H enc w base spare held fuel cs x h
  obtain ⟨n, rfl, _, hw⟩ := DataW.trod_int ht h
  exact ⟨n, rfl, hw⟩
theorem Rdb.bool {P : Program} {t : TypeId} (ht : P.underlying t = some .bool) : Rdb P t Kd.bool (fun _ => True) := by
  intro H enc w base spare held fuel cs x h
  obtain ⟨n, rfl, _⟩ := DataW.trod_bool ht h
  exact ⟨n, rfl, trivial⟩
theorem Rdb.string {P : Program} {t : TypeId} (ht : P.underlying t = some .string) : Rdb P t Kd.string (fun s => s.size ≤ maxLen) := by
  intro H enc w base spare held fuel cs x h
  obtain ⟨s, rfl, _, hs⟩ := DataW.trod_string ht h
  exact ⟨s, rfl, hs⟩
theorem list_choose {α β : Type} {R : Nat → α → β → Prop} : ∀ (n : Nat) (xs : List α), xs.length = n → (∀ i x, xs[i]? = some x → ∃ y, R i x y) → ∃ ys : List β, ys.length = n ∧ ∀ i x y, xs[i]? = some x → ys[i]? = some y → R i x y := by
  intro n xs
  induction xs generalizing n R with
  | nil =>
    intro hl _
    exact ⟨[], by simpa using hl, by intro i x y h; simp at h⟩
  | cons x xs ih =>
    intro hl h
    obtain ⟨y, hy⟩ := h 0 x rfl
    obtain ⟨ys, h1, h2⟩ := ih (R := fun i a b => R (i + 1) a b) (n - 1) (by simp at hl; omega) (fun i a hi => h (i + 1) a (by simpa using hi))
    refine ⟨y :: ys, by simp at hl ⊢; omega, fun i a b ha hb => ?_⟩
    cases i with
    | zero =>
      simp at ha hb
      subst ha hb
      exact hy
    | succ i => exact h2 i a b (by simpa using ha) (by simpa using hb)
theorem Rdb.slice {α : Type} {P : Program} {t e : TypeId} {d : Kd α} {wf : α → Prop} (ht : P.underlying t = some (.slice e)) (hc : P.cellsOf e = d.sz) (h1 : 0 < d.sz) (r : Rdb P e d wf) :
    Rdb P t (Kd.slice e d) (fun l => l.length ≤ maxLen ∧ ∀ x ∈ l, wf x) := by
  intro H enc w base spare held fuel cs x h
  rcases DataW.trod_slice ht h with ⟨rfl, _⟩ | ⟨a, len, cap, elems, rest, n, _, rfl, _, hb, hl, hm, hlen, hel, _, _⟩
  · exact ⟨[], ⟨none, 0, rfl, by simp, Kd.C_nil _ _⟩, by simp, by simp⟩
  · have each : ∀ i (y : DataW H × List MemPlace), elems[i]? = some y → ∃ b : α, ∃ c, w.cells? base (a.add (i * P.cellsOf e)) (P.cellsOf e) = some c ∧ d.K w b c ∧ wf b := by
      intro i y hy
      have hi : i < len := by have := (List.getElem?_eq_some_iff.1 hy).1; omega
      have h2 := hel i hi
      rw [hy, Option.bind_eq_some_iff] at h2
      obtain ⟨c, hcs, htr⟩ := h2
      obtain ⟨b, hK, hw⟩ := r H enc w base spare held n c y htr
      exact ⟨b, c, hcs, hK, hw⟩
    obtain ⟨xs, hx1, hx2⟩ := list_choose (R := fun i _ (b : α) => ∃ c, w.cells? base (a.add (i * P.cellsOf e)) (P.cellsOf e) = some c ∧ d.K w b c ∧ wf b) len elems hlen each
    have get : ∀ i b, xs[i]? = some b → ∃ c, w.cells? base (a.add (i * P.cellsOf e)) (P.cellsOf e) = some c ∧ d.K w b c ∧ wf b := by
      intro i b hb'
      have hi : i < elems.length := by have := (List.getElem?_eq_some_iff.1 hb').1; omega
      exact hx2 i _ b (List.getElem?_eq_getElem hi) hb'
    refine ⟨xs, ⟨some a, cap, by rw [hx1], by omega, ?_⟩, by omega, fun b hb' => ?_⟩
    · refine ⟨rfl, by rw [hx1]; unfold maxLen at hm; omega, fun hp => ⟨a, rfl, fun j b hj => ?_⟩⟩
      obtain ⟨c, hcs, hK, _⟩ := get j b hj
      obtain ⟨_, hcl, hcell⟩ := World.cells?_some hcs
      refine ⟨c, by rw [hcl, hc], hK, fun i u hu => ?_⟩
      have hi : i < P.cellsOf e := by have := (List.getElem?_eq_some_iff.1 hu).1; omega
      have := hcell i hi
      rw [hu] at this
      rw [Addr.add_add] at this
      rw [← hc]
      exact this
    · obtain ⟨i, hi⟩ := List.mem_iff_getElem?.1 hb'
      obtain ⟨_, _, _, hw⟩ := get i b hi
      exact hw
theorem take_all {α : Type} {cs : List α} {n : Nat} (h : cs.length = n) : cs.take n = cs := by rw [← h, List.take_length]
theorem Rdb.struct1 {α : Type} {P : Program} {t : TypeId} {f0 : Field} {d0 : Kd α} {w0 : α → Prop} (ht : P.underlying t = some (.struct #[f0])) (o0 : f0.offset = 0) (c0 : P.cellsOf f0.type = P.cellsOf t) (r0 : Rdb P f0.type d0 w0) : Rdb P t d0 w0 := by
  intro H enc w base spare held fuel cs x h
  obtain ⟨y0, n, _, hl, h0⟩ := ChangeShapes.trod_struct1 ht h
  rw [o0, List.drop_zero, c0, take_all hl] at h0
  exact r0 H enc w base spare held n cs y0 h0
theorem Rdb.struct2 {α β : Type} {P : Program} {t : TypeId} {f0 f1 : Field} {d0 : Kd α} {d1 : Kd β} {w0 : α → Prop} {w1 : β → Prop} (ht : P.underlying t = some (.struct #[f0, f1])) (o0 : f0.offset = 0) (o1 : f1.offset = P.cellsOf f0.type) (cT : P.cellsOf t = P.cellsOf f0.type + P.cellsOf f1.type)
    (r0 : Rdb P f0.type d0 w0) (r1 : Rdb P f1.type d1 w1) : Rdb P t (Kd.pair d0 d1) (fun x => w0 x.1 ∧ w1 x.2) := by
  intro H enc w base spare held fuel cs x h
  obtain ⟨y0, y1, n, _, hl, h0, h1⟩ := ChangeShapes.trod_struct2 ht h
  rw [o0, List.drop_zero] at h0
  rw [o1, List.take_of_length_le (by rw [List.length_drop, hl, cT]; omega)] at h1
  obtain ⟨a, hK0, hw0⟩ := r0 H enc w base spare held n _ y0 h0
  obtain ⟨b, hK1, hw1⟩ := r1 H enc w base spare held n _ y1 h1
  exact ⟨(a, b), ⟨_, _, (List.take_append_drop _ _).symm, hK0, hK1⟩, hw0, hw1⟩
theorem Rdb.struct3 {α β γ : Type} {P : Program} {t : TypeId} {f0 f1 f2 : Field} {d0 : Kd α} {d1 : Kd β} {d2 : Kd γ} {w0 : α → Prop} {w1 : β → Prop} {w2 : γ → Prop} (ht : P.underlying t = some (.struct #[f0, f1, f2])) (o0 : f0.offset = 0) (o1 : f1.offset = P.cellsOf f0.type)
    (o2 : f2.offset = P.cellsOf f0.type + P.cellsOf f1.type) (cT : P.cellsOf t = P.cellsOf f0.type + P.cellsOf f1.type + P.cellsOf f2.type)
    (r0 : Rdb P f0.type d0 w0) (r1 : Rdb P f1.type d1 w1) (r2 : Rdb P f2.type d2 w2) : Rdb P t (Kd.pair d0 (Kd.pair d1 d2)) (fun x => w0 x.1 ∧ w1 x.2.1 ∧ w2 x.2.2) := by
  intro H enc w base spare held fuel cs x h
  obtain ⟨xs, n, _, _, hl, hxl, hf⟩ := DataW.trod_struct ht h
  match xs, hxl with
  | [y0, y1, y2], _ =>
    have h0 : DataW.trod enc P w base spare held n f0.type ((cs.drop f0.offset).take (P.cellsOf f0.type)) = some y0 := by simpa using hf 0 f0 rfl
    have h1 : DataW.trod enc P w base spare held n f1.type ((cs.drop f1.offset).take (P.cellsOf f1.type)) = some y1 := by simpa using hf 1 f1 rfl
    have h2 : DataW.trod enc P w base spare held n f2.type ((cs.drop f2.offset).take (P.cellsOf f2.type)) = some y2 := by simpa using hf 2 f2 rfl
    rw [o0, List.drop_zero] at h0
    rw [o1] at h1
    rw [o2, List.take_of_length_le (by rw [List.length_drop, hl, cT]; omega)] at h2
    obtain ⟨a, hK0, hw0⟩ := r0 H enc w base spare held n _ y0 h0
    obtain ⟨b, hK1, hw1⟩ := r1 H enc w base spare held n _ y1 h1
    obtain ⟨c, hK2, hw2⟩ := r2 H enc w base spare held n _ y2 h2
    refine ⟨(a, b, c), ⟨_, _, (List.take_append_drop (P.cellsOf f0.type) cs).symm, hK0, _, _, ?_, hK1, hK2⟩, hw0, hw1, hw2⟩
    rw [← List.drop_drop, List.take_append_drop]
theorem Rdb.iso {α β : Type} {P : Program} {t : TypeId} {d : Kd α} {wf : α → Prop} (r : Rdb P t d wf) (f : β → α) (g : α → β) (hfg : ∀ a, f (g a) = a) : Rdb P t (Kd.iso d f) (fun b => wf (f b)) := by
  intro H enc w base spare held fuel cs x h
  obtain ⟨a, hK, hw⟩ := r H enc w base spare held fuel cs x h
  exact ⟨g a, by show d.K w (f (g a)) cs; rw [hfg]; exact hK, by show wf (f (g a)); rw [hfg]; exact hw⟩
theorem Rdb.of {α : Type} {P : Program} {t : TypeId} {d : Kd α} {wf : α → Prop} (r : Rdb P t d wf) {H : Type} {enc : TypeId × Value → H} {w : World} {base : Nat} {spare : Nat → Bool} {held : Bool} {v : Value} {x : DataW H} {ps : List MemPlace}
    (h : DataW.Trod enc P w base spare held t v x ps) : ∃ a : α, d.K w a v.cells.toList ∧ wf a := by
  obtain ⟨fuel, hf⟩ := h
  exact r H enc w base spare held fuel _ _ hf

end Go.Proofs.Ytcjeccohlmmfoaa.F
