-- written by the session's program xp.py over the kit's print program, and by hand; texts joined by pack.py
import Derived.Test.YtcjeccohlmmfoaaDoorKFnExactStateOver2
namespace Go.Proofs.YtcjeccohlmmfoaaDoor.F
open Go.RowKit Go.Proofs.YtcjeccohlmmfoaaDoorW.PrintWords Go.Proofs.YtcjeccohlmmfoaaDoorW.PrintLast Go.Proofs.YtcjeccohlmmfoaaDoorW.PrintMore
attribute [local go_sem] max2_int min2_int max_two min_two max_three min_three max_four min_four   -- for this text's walks alone
set_option linter.unusedVariables false
set_option linter.unusedSimpArgs false

/-! ### laws_eqNet: function 13 -/
def laws_eqNet.f (k : Nat) (a0_0 : Int) (l0_1 : List (List Int)) (a1_0 : Int) (l1_1 : List (List Int)) : Option (Bool) := if a0_0 = a1_0 then ((laws_eqInt64SS.f k l0_1 l1_1).bind fun t199 => (if t199 = true then (some true) else (some false))) else (some false)
theorem laws_eqNet.mono : ∀ a0 a1 a2 a3 k, LeO (laws_eqNet.f k a0 a1 a2 a3) (laws_eqNet.f (k + 1) a0 a1 a2 a3) := by
 intro a0 a1 a2 a3 k
 unfold laws_eqNet.f
 repeat' first
   | (with_reducible exact laws_eqInt64SS.mono _ _ _)
   | (with_reducible exact LeO.refl _)
   | (with_reducible exact LeO.none _)
   | (with_reducible refine LeO.ite ?_ ?_)
   | (with_reducible refine LeO.bind ?_ (fun _ => ?_))
   | exact laws_eqInt64SS.mono _ _ _
   | exact LeO.none _
   | refine LeO.ite ?_ ?_
   | refine LeO.bind ?_ (fun _ => ?_)
set_option maxHeartbeats 8000000 in
set_option maxRecDepth 100000 in
theorem laws_eqNet.calls (k : Nat) (a0_0 : Int) (A0_1 : Option Addr) (c0_1 : Nat) (l0_1 : List (List Int)) (a1_0 : Int) (A1_1 : Option Addr) (c1_1 : Nat) (l1_1 : List (List Int)) (r : Bool) (w : World) (hr0_1 : Kd.C (Kd.slice 2 (Kd.int .i64)) w A0_1 l0_1.length l0_1) (hc0_1 : l0_1.length ≤ c0_1) (hr1_1 : Kd.C (Kd.slice 2 (Kd.int .i64)) w A1_1 l1_1.length l1_1) (hc1_1 : l1_1.length ≤ c1_1) (h : laws_eqNet.f k a0_0 l0_1 a1_0 l1_1 = some r) :
  Calls Tryd.prog 13 #[.agg #[.int .i64 a0_0, .slice A0_1 l0_1.length c0_1], .agg #[.int .i64 a1_0, .slice A1_1 l1_1.length c1_1]] w fun e w' => e = .returned (.bool r) ∧ Below w.heap.size w w' := by
 have hu28 := Tryd.underlying28
 have HR0_1 := Aside0.mk hr0_1
 have HC0_1 := Aside0.mk hc0_1
 clear hr0_1 hc0_1
 have HR1_1 := Aside0.mk hr1_1
 have HC1_1 := Aside0.mk hc1_1
 clear hr1_1 hc1_1
 have HB := Aside0.mk (Below.refl w.heap.size w)
 have H : (if a0_0 = a1_0 then ((laws_eqInt64SS.f k l0_1 l1_1).bind fun t199 => (if t199 = true then (some true) else (some false))) else (some false)) = some r := h
 clear h
 by_cases c3 : a0_0 = a1_0
 ·rw [if_pos c3] at H
  have c3b0 : (a0_0 == a1_0) = true := beq_iff_eq.mpr c3
  have c3b1 : (a0_0 != a1_0) = false := bne_eq_false_iff_eq.mpr c3
  clear c3
  replace H := Option.bind_eq_some_iff.mp H
  obtain ⟨t199, A40, H⟩ := H
  replace H : (if t199 = true then (some true) else (some false)) = some r := H
  have A4 := Aside0.mk A40
  clear A40
  by_cases c5 : t199 = true
  ·subst c5
   have H1 : (some true) = some r := by rw [if_pos rfl] at H; exact H
   clear H
   have H := H1
   clear H1
   obtain rfl := Option.some.inj H
   go_enter Tryd.func13, Tryd.ntmps13
   go_wp2_with (first | ((with_reducible refine gate_dst (N := 2) rfl ?_); refine box_event ?hg (N := 2) ?hd (cs := #[.int .i64 a0_0, .slice A0_1 l0_1.length c0_1]) (t := 28) ?hr ?_; (case hd => rfl); (case hg => rfl); (case hr => first | (go_simp; done) | (go_simp; rfl)); intro gb197 hg w6 hbox hb; have n0_ := Aside0.mk (below_step (by repeat (first | (with_reducible first | exact HB.out | apply below_alloc | apply pw_below_drewN | apply below_drew1) | exact HB.out)) hb); have n1_ := Aside0.mk (hbox); have n2_ := Aside0.mk ((by rw [hg]; exact (below_size (by repeat (first | (with_reducible first | exact HB.out | apply below_alloc | apply pw_below_drewN | apply below_drew1) | exact HB.out))) : w.heap.size ≤ gb197)); have n3_ := Aside0.mk ((by rw [hg]; exact (below_size (by repeat (first | (with_reducible first | exact HB.out | apply below_alloc | apply pw_below_drewN | apply below_drew1) | exact HB.out))) : w.heap.size ≤ gb197)); clear HB; have HB := n0_; have BK197 := n1_; have GW197 := n2_; have GE197 := n3_; clear n0_ n1_ n2_ n3_; clear hb hbox hg) | ((with_reducible refine gate_dst (N := 3) rfl ?_); refine box_event ?hg (N := 3) ?hd (cs := #[.int .i64 a1_0, .slice A1_1 l1_1.length c1_1]) (t := 28) ?hr ?_; (case hd => rfl); (case hg => rfl); (case hr => first | (go_simp; done) | (go_simp; rfl)); intro gb198 hg w7 hbox hb; have n0_ := Aside0.mk (blk_below (g := gb197) (o := .cells #[.int .i64 a0_0, .slice A0_1 l0_1.length c0_1] 28 (0, 0)) (by (with_reducible repeat (first | refine blk_drewN ?_ _ | refine blk_drew ?_ | refine blk_alloc ?_ _)); exact BK197.out) hb); have n1_ := Aside0.mk (below_step (by repeat (first | (with_reducible first | exact HB.out | apply below_alloc | apply pw_below_drewN | apply below_drew1 | refine below_set ?_ GE197.out) | exact HB.out)) hb); have n2_ := Aside0.mk (hbox); have n3_ := Aside0.mk ((by rw [hg]; exact (below_size (by repeat (first | (with_reducible first | exact HB.out | apply below_alloc | apply pw_below_drewN | apply below_drew1 | refine below_set ?_ GE197.out) | exact HB.out))) : w.heap.size ≤ gb198)); have n4_ := Aside0.mk ((by rw [hg]; exact (below_size (by repeat (first | (with_reducible first | exact HB.out | apply below_alloc | apply pw_below_drewN | apply below_drew1 | refine below_set ?_ GE197.out) | exact HB.out))) : w.heap.size ≤ gb198)); have n5_ := Aside0.mk ((by rw [hg]; exact Nat.ne_of_lt (blk_lt (g := gb197) (o := .cells #[.int .i64 a0_0, .slice A0_1 l0_1.length c0_1] 28 (0, 0)) (by (with_reducible repeat (first | refine blk_drewN ?_ _ | refine blk_drew ?_ | refine blk_alloc ?_ _)); exact BK197.out)) : gb197 ≠ gb198)); have n6_ := Aside0.mk ((by rw [hg]; exact Nat.ne_of_gt (blk_lt (g := gb197) (o := .cells #[.int .i64 a0_0, .slice A0_1 l0_1.length c0_1] 28 (0, 0)) (by (with_reducible repeat (first | refine blk_drewN ?_ _ | refine blk_drew ?_ | refine blk_alloc ?_ _)); exact BK197.out)) : gb198 ≠ gb197)); clear BK197; clear HB; have BK197 := n0_; have HB := n1_; have BK198 := n2_; have GW198 := n3_; have GE198 := n4_; have NB197_198 := n5_; have NB198_197 := n6_; clear n0_ n1_ n2_ n3_ n4_ n5_ n6_; clear hb hbox hg; have hnb8 := NB197_198.out; have hnc8 := NB198_197.out; have hcz9_0 : w7.cell? ⟨gb197, 0, none⟩ = some (.int .i64 a0_0) := (blk_cell BK197.out 0).trans rfl; have hcz9_1 : w7.cell? ⟨gb197, 1, none⟩ = some (.slice A0_1 l0_1.length c0_1) := (blk_cell BK197.out 1).trans rfl; have hfz9_0 := blk_frozen BK197.out 0; have hfz9_1 := blk_frozen BK197.out 1; have hcz10_0 : w7.cell? ⟨gb198, 0, none⟩ = some (.int .i64 a1_0) := (blk_cell BK198.out 0).trans rfl; have hcz10_1 : w7.cell? ⟨gb198, 1, none⟩ = some (.slice A1_1 l1_1.length c1_1) := (blk_cell BK198.out 1).trans rfl; have hfz10_0 := blk_frozen BK198.out 0; have hfz10_1 := blk_frozen BK198.out 1) | ((with_reducible refine gate_callee (f := 37) rfl ?_); refine goesL_ (some 14) rfl rfl Tryd.func37 (by kernel_rfl) rfl #[.slice A0_1 l0_1.length c0_1, .slice A1_1 l1_1.length c1_1] rfl (by (try simp only [List.map_toArray, List.map_cons, List.map_nil]); first | done | rfl | (simp only [List.length_drop, List.length_take]; rfl)) ?_; (with_reducible refine (laws_eqInt64SS.calls k _ _ l0_1 _ _ l1_1 true _ ?side1 ?side2 ?side3 ?side4 A4.out).mono ?_); (case side1 => repeat (first | exact (Kd.C_below HR0_1.out HB.out) | (with_reducible refine Kd.C_alloc ?_ _) | (with_reducible refine Kd.C_drewN ?_ _) | (with_reducible refine Kd.C_drew ?_))); (case side2 => exact HC0_1.out); (case side3 => repeat (first | exact (Kd.C_below HR1_1.out HB.out) | (with_reducible refine Kd.C_alloc ?_ _) | (with_reducible refine Kd.C_drewN ?_ _) | (with_reducible refine Kd.C_drew ?_))); (case side4 => exact HC1_1.out); rintro e w' ⟨rfl, ⟨nd, rfl⟩⟩; refine ⟨_, rfl, ?_⟩))
   go_ret
   exact ⟨by first | rfl | (simp [errW_none, errW_some] <;> rfl) | (simp [*, errW_none, errW_some] <;> rfl), by repeat (first | (with_reducible first | exact HB.out | apply below_alloc | apply pw_below_drewN | apply below_drew1 | refine below_set ?_ GE197.out | refine below_set ?_ GE198.out) | exact HB.out)⟩
  ·replace c5 := Bool.eq_false_iff.mpr c5
   subst c5
   have H1 : (some false) = some r := by rw [if_neg (show ¬ (false = true) by decide)] at H; exact H
   clear H
   have H := H1
   clear H1
   obtain rfl := Option.some.inj H
   go_enter Tryd.func13, Tryd.ntmps13
   go_wp2_with (first | ((with_reducible refine gate_dst (N := 2) rfl ?_); refine box_event ?hg (N := 2) ?hd (cs := #[.int .i64 a0_0, .slice A0_1 l0_1.length c0_1]) (t := 28) ?hr ?_; (case hd => rfl); (case hg => rfl); (case hr => first | (go_simp; done) | (go_simp; rfl)); intro gb197 hg w11 hbox hb; have n0_ := Aside0.mk (below_step (by repeat (first | (with_reducible first | exact HB.out | apply below_alloc | apply pw_below_drewN | apply below_drew1) | exact HB.out)) hb); have n1_ := Aside0.mk (hbox); have n2_ := Aside0.mk ((by rw [hg]; exact (below_size (by repeat (first | (with_reducible first | exact HB.out | apply below_alloc | apply pw_below_drewN | apply below_drew1) | exact HB.out))) : w.heap.size ≤ gb197)); have n3_ := Aside0.mk ((by rw [hg]; exact (below_size (by repeat (first | (with_reducible first | exact HB.out | apply below_alloc | apply pw_below_drewN | apply below_drew1) | exact HB.out))) : w.heap.size ≤ gb197)); clear HB; have HB := n0_; have BK197 := n1_; have GW197 := n2_; have GE197 := n3_; clear n0_ n1_ n2_ n3_; clear hb hbox hg) | ((with_reducible refine gate_dst (N := 3) rfl ?_); refine box_event ?hg (N := 3) ?hd (cs := #[.int .i64 a1_0, .slice A1_1 l1_1.length c1_1]) (t := 28) ?hr ?_; (case hd => rfl); (case hg => rfl); (case hr => first | (go_simp; done) | (go_simp; rfl)); intro gb198 hg w12 hbox hb; have n0_ := Aside0.mk (blk_below (g := gb197) (o := .cells #[.int .i64 a0_0, .slice A0_1 l0_1.length c0_1] 28 (0, 0)) (by (with_reducible repeat (first | refine blk_drewN ?_ _ | refine blk_drew ?_ | refine blk_alloc ?_ _)); exact BK197.out) hb); have n1_ := Aside0.mk (below_step (by repeat (first | (with_reducible first | exact HB.out | apply below_alloc | apply pw_below_drewN | apply below_drew1 | refine below_set ?_ GE197.out) | exact HB.out)) hb); have n2_ := Aside0.mk (hbox); have n3_ := Aside0.mk ((by rw [hg]; exact (below_size (by repeat (first | (with_reducible first | exact HB.out | apply below_alloc | apply pw_below_drewN | apply below_drew1 | refine below_set ?_ GE197.out) | exact HB.out))) : w.heap.size ≤ gb198)); have n4_ := Aside0.mk ((by rw [hg]; exact (below_size (by repeat (first | (with_reducible first | exact HB.out | apply below_alloc | apply pw_below_drewN | apply below_drew1 | refine below_set ?_ GE197.out) | exact HB.out))) : w.heap.size ≤ gb198)); have n5_ := Aside0.mk ((by rw [hg]; exact Nat.ne_of_lt (blk_lt (g := gb197) (o := .cells #[.int .i64 a0_0, .slice A0_1 l0_1.length c0_1] 28 (0, 0)) (by (with_reducible repeat (first | refine blk_drewN ?_ _ | refine blk_drew ?_ | refine blk_alloc ?_ _)); exact BK197.out)) : gb197 ≠ gb198)); have n6_ := Aside0.mk ((by rw [hg]; exact Nat.ne_of_gt (blk_lt (g := gb197) (o := .cells #[.int .i64 a0_0, .slice A0_1 l0_1.length c0_1] 28 (0, 0)) (by (with_reducible repeat (first | refine blk_drewN ?_ _ | refine blk_drew ?_ | refine blk_alloc ?_ _)); exact BK197.out)) : gb198 ≠ gb197)); clear BK197; clear HB; have BK197 := n0_; have HB := n1_; have BK198 := n2_; have GW198 := n3_; have GE198 := n4_; have NB197_198 := n5_; have NB198_197 := n6_; clear n0_ n1_ n2_ n3_ n4_ n5_ n6_; clear hb hbox hg; have hnb13 := NB197_198.out; have hnc13 := NB198_197.out; have hcz14_0 : w12.cell? ⟨gb197, 0, none⟩ = some (.int .i64 a0_0) := (blk_cell BK197.out 0).trans rfl; have hcz14_1 : w12.cell? ⟨gb197, 1, none⟩ = some (.slice A0_1 l0_1.length c0_1) := (blk_cell BK197.out 1).trans rfl; have hfz14_0 := blk_frozen BK197.out 0; have hfz14_1 := blk_frozen BK197.out 1; have hcz15_0 : w12.cell? ⟨gb198, 0, none⟩ = some (.int .i64 a1_0) := (blk_cell BK198.out 0).trans rfl; have hcz15_1 : w12.cell? ⟨gb198, 1, none⟩ = some (.slice A1_1 l1_1.length c1_1) := (blk_cell BK198.out 1).trans rfl; have hfz15_0 := blk_frozen BK198.out 0; have hfz15_1 := blk_frozen BK198.out 1) | ((with_reducible refine gate_callee (f := 37) rfl ?_); refine goesL_ (some 14) rfl rfl Tryd.func37 (by kernel_rfl) rfl #[.slice A0_1 l0_1.length c0_1, .slice A1_1 l1_1.length c1_1] rfl (by (try simp only [List.map_toArray, List.map_cons, List.map_nil]); first | done | rfl | (simp only [List.length_drop, List.length_take]; rfl)) ?_; (with_reducible refine (laws_eqInt64SS.calls k _ _ l0_1 _ _ l1_1 false _ ?side1 ?side2 ?side3 ?side4 A4.out).mono ?_); (case side1 => repeat (first | exact (Kd.C_below HR0_1.out HB.out) | (with_reducible refine Kd.C_alloc ?_ _) | (with_reducible refine Kd.C_drewN ?_ _) | (with_reducible refine Kd.C_drew ?_))); (case side2 => exact HC0_1.out); (case side3 => repeat (first | exact (Kd.C_below HR1_1.out HB.out) | (with_reducible refine Kd.C_alloc ?_ _) | (with_reducible refine Kd.C_drewN ?_ _) | (with_reducible refine Kd.C_drew ?_))); (case side4 => exact HC1_1.out); rintro e w' ⟨rfl, ⟨nd, rfl⟩⟩; refine ⟨_, rfl, ?_⟩))
   go_ret
   exact ⟨by first | rfl | (simp [errW_none, errW_some] <;> rfl) | (simp [*, errW_none, errW_some] <;> rfl), by repeat (first | (with_reducible first | exact HB.out | apply below_alloc | apply pw_below_drewN | apply below_drew1 | refine below_set ?_ GE197.out | refine below_set ?_ GE198.out) | exact HB.out)⟩
 ·rw [if_neg c3] at H
  have c3b0 : (a0_0 == a1_0) = false := beq_eq_false_iff_ne.mpr c3
  have c3b1 : (a0_0 != a1_0) = true := bne_iff_ne.mpr c3
  obtain rfl := Option.some.inj H
  go_enter Tryd.func13, Tryd.ntmps13
  go_wp2_with (first | ((with_reducible refine gate_dst (N := 2) rfl ?_); refine box_event ?hg (N := 2) ?hd (cs := #[.int .i64 a0_0, .slice A0_1 l0_1.length c0_1]) (t := 28) ?hr ?_; (case hd => rfl); (case hg => rfl); (case hr => first | (go_simp; done) | (go_simp; rfl)); intro gb197 hg w16 hbox hb; have n0_ := Aside0.mk (below_step (by repeat (first | (with_reducible first | exact HB.out | apply below_alloc | apply pw_below_drewN | apply below_drew1) | exact HB.out)) hb); have n1_ := Aside0.mk (hbox); have n2_ := Aside0.mk ((by rw [hg]; exact (below_size (by repeat (first | (with_reducible first | exact HB.out | apply below_alloc | apply pw_below_drewN | apply below_drew1) | exact HB.out))) : w.heap.size ≤ gb197)); have n3_ := Aside0.mk ((by rw [hg]; exact (below_size (by repeat (first | (with_reducible first | exact HB.out | apply below_alloc | apply pw_below_drewN | apply below_drew1) | exact HB.out))) : w.heap.size ≤ gb197)); clear HB; have HB := n0_; have BK197 := n1_; have GW197 := n2_; have GE197 := n3_; clear n0_ n1_ n2_ n3_; clear hb hbox hg) | ((with_reducible refine gate_dst (N := 3) rfl ?_); refine box_event ?hg (N := 3) ?hd (cs := #[.int .i64 a1_0, .slice A1_1 l1_1.length c1_1]) (t := 28) ?hr ?_; (case hd => rfl); (case hg => rfl); (case hr => first | (go_simp; done) | (go_simp; rfl)); intro gb198 hg w17 hbox hb; have n0_ := Aside0.mk (blk_below (g := gb197) (o := .cells #[.int .i64 a0_0, .slice A0_1 l0_1.length c0_1] 28 (0, 0)) (by (with_reducible repeat (first | refine blk_drewN ?_ _ | refine blk_drew ?_ | refine blk_alloc ?_ _)); exact BK197.out) hb); have n1_ := Aside0.mk (below_step (by repeat (first | (with_reducible first | exact HB.out | apply below_alloc | apply pw_below_drewN | apply below_drew1 | refine below_set ?_ GE197.out) | exact HB.out)) hb); have n2_ := Aside0.mk (hbox); have n3_ := Aside0.mk ((by rw [hg]; exact (below_size (by repeat (first | (with_reducible first | exact HB.out | apply below_alloc | apply pw_below_drewN | apply below_drew1 | refine below_set ?_ GE197.out) | exact HB.out))) : w.heap.size ≤ gb198)); have n4_ := Aside0.mk ((by rw [hg]; exact (below_size (by repeat (first | (with_reducible first | exact HB.out | apply below_alloc | apply pw_below_drewN | apply below_drew1 | refine below_set ?_ GE197.out) | exact HB.out))) : w.heap.size ≤ gb198)); have n5_ := Aside0.mk ((by rw [hg]; exact Nat.ne_of_lt (blk_lt (g := gb197) (o := .cells #[.int .i64 a0_0, .slice A0_1 l0_1.length c0_1] 28 (0, 0)) (by (with_reducible repeat (first | refine blk_drewN ?_ _ | refine blk_drew ?_ | refine blk_alloc ?_ _)); exact BK197.out)) : gb197 ≠ gb198)); have n6_ := Aside0.mk ((by rw [hg]; exact Nat.ne_of_gt (blk_lt (g := gb197) (o := .cells #[.int .i64 a0_0, .slice A0_1 l0_1.length c0_1] 28 (0, 0)) (by (with_reducible repeat (first | refine blk_drewN ?_ _ | refine blk_drew ?_ | refine blk_alloc ?_ _)); exact BK197.out)) : gb198 ≠ gb197)); clear BK197; clear HB; have BK197 := n0_; have HB := n1_; have BK198 := n2_; have GW198 := n3_; have GE198 := n4_; have NB197_198 := n5_; have NB198_197 := n6_; clear n0_ n1_ n2_ n3_ n4_ n5_ n6_; clear hb hbox hg; have hnb18 := NB197_198.out; have hnc18 := NB198_197.out; have hcz19_0 : w17.cell? ⟨gb197, 0, none⟩ = some (.int .i64 a0_0) := (blk_cell BK197.out 0).trans rfl; have hcz19_1 : w17.cell? ⟨gb197, 1, none⟩ = some (.slice A0_1 l0_1.length c0_1) := (blk_cell BK197.out 1).trans rfl; have hfz19_0 := blk_frozen BK197.out 0; have hfz19_1 := blk_frozen BK197.out 1; have hcz20_0 : w17.cell? ⟨gb198, 0, none⟩ = some (.int .i64 a1_0) := (blk_cell BK198.out 0).trans rfl; have hcz20_1 : w17.cell? ⟨gb198, 1, none⟩ = some (.slice A1_1 l1_1.length c1_1) := (blk_cell BK198.out 1).trans rfl; have hfz20_0 := blk_frozen BK198.out 0; have hfz20_1 := blk_frozen BK198.out 1))
  go_ret
  exact ⟨by first | rfl | (simp [errW_none, errW_some] <;> rfl) | (simp [*, errW_none, errW_some] <;> rfl), by repeat (first | (with_reducible first | exact HB.out | apply below_alloc | apply pw_below_drewN | apply below_drew1 | refine below_set ?_ GE197.out | refine below_set ?_ GE198.out) | exact HB.out)⟩
/-! ### laws_szInt64S: function 55 -/
def laws_szInt64S.f (l0 : List Int) (a1 : Int) : Option (Int) := if (wrap64 (a1 - (l0.length : Int))) < 0 then (some (-1)) else (some (wrap64 (a1 - (l0.length : Int))))
set_option maxHeartbeats 8000000 in
set_option maxRecDepth 100000 in
theorem laws_szInt64S.calls (A0 : Option Addr) (c0 : Nat) (l0 : List Int) (a1 : Int) (r : Int) (w : World) (hr0 : Kd.C (Kd.int .i64) w A0 l0.length l0) (hc0 : l0.length ≤ c0) (h : laws_szInt64S.f l0 a1 = some r) :
  Calls Tryd.prog 55 #[.slice A0 l0.length c0, .int .i64 a1] w fun e w' => e = .returned (.int .i64 r) ∧ Drawn0 w w' := by
 have HR0 := Aside0.mk hr0
 have HC0 := Aside0.mk hc0
 clear hr0 hc0
 have H : (if (wrap64 (a1 - (l0.length : Int))) < 0 then (some (-1)) else (some (wrap64 (a1 - (l0.length : Int))))) = some r := h
 clear h
 by_cases c3 : (wrap64 (a1 - (l0.length : Int))) < 0
 ·rw [if_pos c3] at H
  have c3b0 : decide ((wrap64 (a1 - (l0.length : Int))) < 0) = true := decide_eq_true c3
  clear c3
  obtain rfl := Option.some.inj H
  go_enter Tryd.func55, Tryd.ntmps55
  go_wp2
  go_ret
  exact ⟨by first | rfl | (simp; done) | (simp [*]; done), by repeat (first | exact Drawn0.refl _ | apply Drawn0.step)⟩
 ·rw [if_neg c3] at H
  have c3b0 : decide ((wrap64 (a1 - (l0.length : Int))) < 0) = false := decide_eq_false c3
  clear c3
  obtain rfl := Option.some.inj H
  go_enter Tryd.func55, Tryd.ntmps55
  go_wp2
  go_ret
  exact ⟨by first | rfl | (simp; done) | (simp [*]; done), by repeat (first | exact Drawn0.refl _ | apply Drawn0.step)⟩
/-! ### laws_szInt64SS: function 30 -/
def laws_szInt64SS.l0 : Nat → List (List Int) → Int → Int → Option (Int)
 | 0, _, _, _ => none
 | k + 1, x0, x1, x5 => if x5 < (x0.length : Int) then (if 0 ≤ x5 then ((laws_szInt64S.f (rd_L1 x0 x5) x1).bind fun t102 => (if t102 < 0 then (some (-1)) else (laws_szInt64SS.l0 k x0 t102 (wrap64 (x5 + 1))))) else (none)) else (some x1)
def laws_szInt64SS.f (k : Nat) (l0 : List (List Int)) (a1 : Int) : Option (Int) := if (wrap64 (a1 - (l0.length : Int))) < 0 then (some (-1)) else (laws_szInt64SS.l0 k l0 (wrap64 (a1 - (l0.length : Int))) 0)
theorem laws_szInt64SS.mono_l : ∀ k, (∀ y0 y1 y2, LeO (laws_szInt64SS.l0 k y0 y1 y2) (laws_szInt64SS.l0 (k + 1) y0 y1 y2))
 | 0 => fun _ _ _ r h => by simp [laws_szInt64SS.l0] at h
 | k + 1 => by
  have ih0 := laws_szInt64SS.mono_l k
  ·intro y0 y1 y2
   unfold laws_szInt64SS.l0
   repeat' first
   | (with_reducible exact ih0 _ _ _)
   | (with_reducible exact LeO.refl _)
   | (with_reducible exact LeO.none _)
   | (with_reducible refine LeO.ite ?_ ?_)
   | (with_reducible refine LeO.bind ?_ (fun _ => ?_))
   | exact ih0 _ _ _
   | exact LeO.none _
   | refine LeO.ite ?_ ?_
   | refine LeO.bind ?_ (fun _ => ?_)
theorem laws_szInt64SS.mono : ∀ a0 a1 k, LeO (laws_szInt64SS.f k a0 a1) (laws_szInt64SS.f (k + 1) a0 a1) := by
 intro a0 a1 k
 have ih0 := laws_szInt64SS.mono_l k
 unfold laws_szInt64SS.f
 repeat' first
   | (with_reducible exact ih0 _ _ _)
   | (with_reducible exact LeO.refl _)
   | (with_reducible exact LeO.none _)
   | (with_reducible refine LeO.ite ?_ ?_)
   | (with_reducible refine LeO.bind ?_ (fun _ => ?_))
   | exact ih0 _ _ _
   | exact LeO.none _
   | refine LeO.ite ?_ ?_
   | refine LeO.bind ?_ (fun _ => ?_)
set_option maxHeartbeats 8000000 in
set_option maxRecDepth 100000 in
theorem laws_szInt64SS.calls (k : Nat) (A0 : Option Addr) (c0 : Nat) (l0 : List (List Int)) (a1 : Int) (r : Int) (w : World) (hr0 : Kd.C (Kd.slice 2 (Kd.int .i64)) w A0 l0.length l0) (hc0 : l0.length ≤ c0) (h : laws_szInt64SS.f k l0 a1 = some r) :
  Calls Tryd.prog 30 #[.slice A0 l0.length c0, .int .i64 a1] w fun e w' => e = .returned (.int .i64 r) ∧ Drawn0 w w' := by
 have HR0 := Aside0.mk hr0
 have HC0 := Aside0.mk hc0
 clear hr0 hc0
 have H : (if (wrap64 (a1 - (l0.length : Int))) < 0 then (some (-1)) else (laws_szInt64SS.l0 k l0 (wrap64 (a1 - (l0.length : Int))) 0)) = some r := h
 clear h
 by_cases c3 : (wrap64 (a1 - (l0.length : Int))) < 0
 ·rw [if_pos c3] at H
  have c3b0 : decide ((wrap64 (a1 - (l0.length : Int))) < 0) = true := decide_eq_true c3
  clear c3
  obtain rfl := Option.some.inj H
  go_enter Tryd.func30, Tryd.ntmps30
  go_wp2
  go_ret
  exact ⟨by first | rfl | (simp; done) | (simp [*]; done), by repeat (first | exact Drawn0.refl _ | apply Drawn0.step)⟩
 ·rw [if_neg c3] at H
  have c3b0 : decide ((wrap64 (a1 - (l0.length : Int))) < 0) = false := decide_eq_false c3
  clear c3
  have H' := Aside0.mk H
  clear H
  go_enter Tryd.func30, Tryd.ntmps30
  go_wp2
  go_loopg [1, 5] k (fun kq v1 v5 w' => ∃ (x1_1 : Int) (x5_1 : Int), v1 = .int .i64 x1_1 ∧ v5 = .int .i64 x5_1 ∧ Aside0 (laws_szInt64SS.l0 kq l0 x1_1 x5_1 = some r) ∧ Aside0 (kq ≤ k) ∧ Drawn0 w w')
  case atStart => exact ⟨(wrap64 (a1 - (l0.length : Int))), (0), (by first | rfl | (simp; done) | (simp [*]; done)), (by first | rfl | (simp; done) | (simp [*]; done)), H', ⟨Nat.le_refl _⟩, by repeat (first | exact Drawn0.refl _ | apply Drawn0.step)⟩
  case round =>
   clear H'
   try clear p2
   try clear c3
   try clear c3b0
   obtain ⟨x1_1, x5_1, rfl, rfl, HA, HK1, ⟨m1, rfl⟩⟩ := hrel
   cases gk with
   | zero => exact absurd HA.out (by simp [laws_szInt64SS.l0])
   | succ k1 =>
    have H := HA.out
    clear HA
    simp only [laws_szInt64SS.l0] at H
    by_cases c4 : x5_1 < (l0.length : Int)
    ·rw [if_pos c4] at H
     have c4b0 : decide (x5_1 < (l0.length : Int)) = true := decide_eq_true c4
     clear c4
     by_cases c5 : 0 ≤ x5_1
     ·rw [if_pos c5] at H
      have c5b0 : decide (0 ≤ x5_1) = true := decide_eq_true c5
      clear c5
      replace H := Option.bind_eq_some_iff.mp H
      obtain ⟨t102, A60, H⟩ := H
      replace H : (if t102 < 0 then (some (-1)) else (laws_szInt64SS.l0 k1 l0 t102 (wrap64 (x5_1 + 1)))) = some r := H
      have A6 := Aside0.mk A60
      clear A60
      by_cases c7 : t102 < 0
      ·rw [if_pos c7] at H
       have c7b0 : decide (t102 < 0) = true := decide_eq_true c7
       clear c7
       obtain rfl := Option.some.inj H
       have p101 : 0 ≤ (x5_1 : Int) := of_decide_eq_true (by first | (with_reducible assumption) | assumption)
       have q101 : x5_1 < (l0.length : Int) := of_decide_eq_true (by first | (with_reducible assumption) | assumption)
       obtain ⟨ad101, A101_0, c101_0, e101, hx101_0, hl101_0, hi101_0⟩ := at_L1 HR0.out x5_1 p101 q101
       cases e101
       have HR101_0 := Aside0.mk hi101_0
       have HC101_0 := Aside0.mk hl101_0
       clear hi101_0 hl101_0
       replace p101 := eq_true p101
       replace q101 := eq_true q101
       go_wp2_with (first | ((with_reducible refine gate_callee (f := 55) rfl ?_); refine goesL_ (some 23) rfl rfl Tryd.func55 (by kernel_rfl) rfl #[.slice A101_0 (rd_L1 l0 x5_1).length c101_0, .int .i64 x1_1] rfl (by (try simp only [List.map_toArray, List.map_cons, List.map_nil]); first | done | rfl | (simp only [List.length_drop, List.length_take]; rfl)) ?_; (with_reducible refine (laws_szInt64S.calls _ _ (rd_L1 l0 x5_1) x1_1 t102 _ ?side1 ?side2 A6.out).mono ?_); (case side1 => repeat (first | exact HR101_0.out | (with_reducible refine Kd.C_alloc ?_ _) | (with_reducible refine Kd.C_drewN ?_ _) | (with_reducible refine Kd.C_drew ?_))); (case side2 => exact HC101_0.out); rintro e w' ⟨rfl, ⟨nd, rfl⟩⟩; refine ⟨_, rfl, ?_⟩))
       go_ret
       exact ⟨by first | rfl | (simp; done) | (simp [*]; done), by repeat (first | exact Drawn0.refl _ | apply Drawn0.step)⟩
      ·rw [if_neg c7] at H
       have c7b0 : decide (t102 < 0) = false := decide_eq_false c7
       clear c7
       have H' := Aside0.mk H
       clear H
       have p101 : 0 ≤ (x5_1 : Int) := of_decide_eq_true (by first | (with_reducible assumption) | assumption)
       have q101 : x5_1 < (l0.length : Int) := of_decide_eq_true (by first | (with_reducible assumption) | assumption)
       obtain ⟨ad101, A101_0, c101_0, e101, hx101_0, hl101_0, hi101_0⟩ := at_L1 HR0.out x5_1 p101 q101
       cases e101
       have HR101_0 := Aside0.mk hi101_0
       have HC101_0 := Aside0.mk hl101_0
       clear hi101_0 hl101_0
       replace p101 := eq_true p101
       replace q101 := eq_true q101
       go_wp2_with (first | ((with_reducible refine gate_callee (f := 55) rfl ?_); refine goesL_ (some 23) rfl rfl Tryd.func55 (by kernel_rfl) rfl #[.slice A101_0 (rd_L1 l0 x5_1).length c101_0, .int .i64 x1_1] rfl (by (try simp only [List.map_toArray, List.map_cons, List.map_nil]); first | done | rfl | (simp only [List.length_drop, List.length_take]; rfl)) ?_; (with_reducible refine (laws_szInt64S.calls _ _ (rd_L1 l0 x5_1) x1_1 t102 _ ?side1 ?side2 A6.out).mono ?_); (case side1 => repeat (first | exact HR101_0.out | (with_reducible refine Kd.C_alloc ?_ _) | (with_reducible refine Kd.C_drewN ?_ _) | (with_reducible refine Kd.C_drew ?_))); (case side2 => exact HC101_0.out); rintro e w' ⟨rfl, ⟨nd, rfl⟩⟩; refine ⟨_, rfl, ?_⟩))
       go_roundg k1
       case measure => have := HK1.out; omega
       case rel => exact ⟨(t102), (wrap64 (x5_1 + 1)), (by first | rfl | (simp; done) | (simp [*]; done)), (by first | rfl | (simp; done) | (simp [*]; done)), H', ⟨by have := HK1.out; omega⟩, by repeat (first | exact Drawn0.refl _ | apply Drawn0.step)⟩
     ·rw [if_neg c5] at H
      exact absurd H (by simp)
    ·rw [if_neg c4] at H
     have c4b0 : decide (x5_1 < (l0.length : Int)) = false := decide_eq_false c4
     clear c4
     obtain rfl := Option.some.inj H
     go_wp2
     go_ret
     exact ⟨by first | rfl | (simp; done) | (simp [*]; done), by repeat (first | exact Drawn0.refl _ | apply Drawn0.step)⟩
/-! ### laws_szNet: function 9 -/
def laws_szNet.f (k : Nat) (a0_0 : Int) (l0_1 : List (List Int)) (a1 : Int) : Option (Int) := (laws_szInt64SS.f k l0_1 a1).bind fun t104 => (if t104 < 0 then (some (-1)) else (some t104))
theorem laws_szNet.mono : ∀ a0 a1 a2 k, LeO (laws_szNet.f k a0 a1 a2) (laws_szNet.f (k + 1) a0 a1 a2) := by
 intro a0 a1 a2 k
 unfold laws_szNet.f
 repeat' first
   | (with_reducible exact laws_szInt64SS.mono _ _ _)
   | (with_reducible exact LeO.refl _)
   | (with_reducible exact LeO.none _)
   | (with_reducible refine LeO.ite ?_ ?_)
   | (with_reducible refine LeO.bind ?_ (fun _ => ?_))
   | exact laws_szInt64SS.mono _ _ _
   | exact LeO.none _
   | refine LeO.ite ?_ ?_
   | refine LeO.bind ?_ (fun _ => ?_)
set_option maxHeartbeats 8000000 in
set_option maxRecDepth 100000 in
theorem laws_szNet.calls (k : Nat) (a0_0 : Int) (A0_1 : Option Addr) (c0_1 : Nat) (l0_1 : List (List Int)) (a1 : Int) (r : Int) (w : World) (hr0_1 : Kd.C (Kd.slice 2 (Kd.int .i64)) w A0_1 l0_1.length l0_1) (hc0_1 : l0_1.length ≤ c0_1) (h : laws_szNet.f k a0_0 l0_1 a1 = some r) :
  Calls Tryd.prog 9 #[.agg #[.int .i64 a0_0, .slice A0_1 l0_1.length c0_1], .int .i64 a1] w fun e w' => e = .returned (.int .i64 r) ∧ Below w.heap.size w w' := by
 have hu24 := Tryd.underlying24
 have HR0_1 := Aside0.mk hr0_1
 have HC0_1 := Aside0.mk hc0_1
 clear hr0_1 hc0_1
 have HB := Aside0.mk (Below.refl w.heap.size w)
 have H : ((laws_szInt64SS.f k l0_1 a1).bind fun t104 => (if t104 < 0 then (some (-1)) else (some t104))) = some r := h
 clear h
 replace H := Option.bind_eq_some_iff.mp H
 obtain ⟨t104, A30, H⟩ := H
 replace H : (if t104 < 0 then (some (-1)) else (some t104)) = some r := H
 have A3 := Aside0.mk A30
 clear A30
 by_cases c4 : t104 < 0
 ·rw [if_pos c4] at H
  have c4b0 : decide (t104 < 0) = true := decide_eq_true c4
  clear c4
  obtain rfl := Option.some.inj H
  go_enter Tryd.func9, Tryd.ntmps9
  go_wp2_with (first | ((with_reducible refine gate_dst (N := 2) rfl ?_); refine box_event ?hg (N := 2) ?hd (cs := #[.int .i64 a0_0, .slice A0_1 l0_1.length c0_1]) (t := 24) ?hr ?_; (case hd => rfl); (case hg => rfl); (case hr => first | (go_simp; done) | (go_simp; rfl)); intro gb103 hg w5 hbox hb; have n0_ := Aside0.mk (below_step (by repeat (first | (with_reducible first | exact HB.out | apply below_alloc | apply pw_below_drewN | apply below_drew1) | exact HB.out)) hb); have n1_ := Aside0.mk (hbox); have n2_ := Aside0.mk ((by rw [hg]; exact (below_size (by repeat (first | (with_reducible first | exact HB.out | apply below_alloc | apply pw_below_drewN | apply below_drew1) | exact HB.out))) : w.heap.size ≤ gb103)); have n3_ := Aside0.mk ((by rw [hg]; exact (below_size (by repeat (first | (with_reducible first | exact HB.out | apply below_alloc | apply pw_below_drewN | apply below_drew1) | exact HB.out))) : w.heap.size ≤ gb103)); clear HB; have HB := n0_; have BK103 := n1_; have GW103 := n2_; have GE103 := n3_; clear n0_ n1_ n2_ n3_; clear hb hbox hg; have hcz6_0 : w5.cell? ⟨gb103, 0, none⟩ = some (.int .i64 a0_0) := (blk_cell BK103.out 0).trans rfl; have hcz6_1 : w5.cell? ⟨gb103, 1, none⟩ = some (.slice A0_1 l0_1.length c0_1) := (blk_cell BK103.out 1).trans rfl; have hfz6_0 := blk_frozen BK103.out 0; have hfz6_1 := blk_frozen BK103.out 1) | ((with_reducible refine gate_callee (f := 30) rfl ?_); refine goesL_ (some 8) rfl rfl Tryd.func30 (by kernel_rfl) rfl #[.slice A0_1 l0_1.length c0_1, .int .i64 a1] rfl (by (try simp only [List.map_toArray, List.map_cons, List.map_nil]); first | done | rfl | (simp only [List.length_drop, List.length_take]; rfl)) ?_; (with_reducible refine (laws_szInt64SS.calls k _ _ l0_1 a1 t104 _ ?side1 ?side2 A3.out).mono ?_); (case side1 => repeat (first | exact (Kd.C_below HR0_1.out HB.out) | (with_reducible refine Kd.C_alloc ?_ _) | (with_reducible refine Kd.C_drewN ?_ _) | (with_reducible refine Kd.C_drew ?_))); (case side2 => exact HC0_1.out); rintro e w' ⟨rfl, ⟨nd, rfl⟩⟩; refine ⟨_, rfl, ?_⟩))
  go_ret
  exact ⟨by first | rfl | (simp [errW_none, errW_some] <;> rfl) | (simp [*, errW_none, errW_some] <;> rfl), by repeat (first | (with_reducible first | exact HB.out | apply below_alloc | apply pw_below_drewN | apply below_drew1 | refine below_set ?_ GE103.out) | exact HB.out)⟩
 ·rw [if_neg c4] at H
  have c4b0 : decide (t104 < 0) = false := decide_eq_false c4
  clear c4
  obtain rfl := Option.some.inj H
  go_enter Tryd.func9, Tryd.ntmps9
  go_wp2_with (first | ((with_reducible refine gate_dst (N := 2) rfl ?_); refine box_event ?hg (N := 2) ?hd (cs := #[.int .i64 a0_0, .slice A0_1 l0_1.length c0_1]) (t := 24) ?hr ?_; (case hd => rfl); (case hg => rfl); (case hr => first | (go_simp; done) | (go_simp; rfl)); intro gb103 hg w7 hbox hb; have n0_ := Aside0.mk (below_step (by repeat (first | (with_reducible first | exact HB.out | apply below_alloc | apply pw_below_drewN | apply below_drew1) | exact HB.out)) hb); have n1_ := Aside0.mk (hbox); have n2_ := Aside0.mk ((by rw [hg]; exact (below_size (by repeat (first | (with_reducible first | exact HB.out | apply below_alloc | apply pw_below_drewN | apply below_drew1) | exact HB.out))) : w.heap.size ≤ gb103)); have n3_ := Aside0.mk ((by rw [hg]; exact (below_size (by repeat (first | (with_reducible first | exact HB.out | apply below_alloc | apply pw_below_drewN | apply below_drew1) | exact HB.out))) : w.heap.size ≤ gb103)); clear HB; have HB := n0_; have BK103 := n1_; have GW103 := n2_; have GE103 := n3_; clear n0_ n1_ n2_ n3_; clear hb hbox hg; have hcz8_0 : w7.cell? ⟨gb103, 0, none⟩ = some (.int .i64 a0_0) := (blk_cell BK103.out 0).trans rfl; have hcz8_1 : w7.cell? ⟨gb103, 1, none⟩ = some (.slice A0_1 l0_1.length c0_1) := (blk_cell BK103.out 1).trans rfl; have hfz8_0 := blk_frozen BK103.out 0; have hfz8_1 := blk_frozen BK103.out 1) | ((with_reducible refine gate_callee (f := 30) rfl ?_); refine goesL_ (some 8) rfl rfl Tryd.func30 (by kernel_rfl) rfl #[.slice A0_1 l0_1.length c0_1, .int .i64 a1] rfl (by (try simp only [List.map_toArray, List.map_cons, List.map_nil]); first | done | rfl | (simp only [List.length_drop, List.length_take]; rfl)) ?_; (with_reducible refine (laws_szInt64SS.calls k _ _ l0_1 a1 t104 _ ?side1 ?side2 A3.out).mono ?_); (case side1 => repeat (first | exact (Kd.C_below HR0_1.out HB.out) | (with_reducible refine Kd.C_alloc ?_ _) | (with_reducible refine Kd.C_drewN ?_ _) | (with_reducible refine Kd.C_drew ?_))); (case side2 => exact HC0_1.out); rintro e w' ⟨rfl, ⟨nd, rfl⟩⟩; refine ⟨_, rfl, ?_⟩))
  go_ret
  exact ⟨by first | rfl | (simp [errW_none, errW_some] <;> rfl) | (simp [*, errW_none, errW_some] <;> rfl), by repeat (first | (with_reducible first | exact HB.out | apply below_alloc | apply pw_below_drewN | apply below_drew1 | refine below_set ?_ GE103.out) | exact HB.out)⟩
/-- The verifier's count of a list. -/
theorem szInt64S_val (l : List Int) (a : Int) (hl : l.length ≤ maxLen) (h0 : 0 ≤ a) (h1 : a ≤ 1048576) : laws_szInt64S.f l a = some (if a < l.length then -1 else a - l.length) := by
  unfold maxLen at hl
  have e : wrap64 (a - (l.length : Int)) = a - l.length := by unfold wrap64; omega
  unfold laws_szInt64S.f
  rw [e]
  by_cases h : a < l.length
  · rw [if_pos h, if_pos (by omega)]
  · rw [if_neg h, if_neg (by omega)]
/-- The verifier's helpers on lists of lists: sizes, copies, equality. -/
theorem rdL_get (l : List (List Int)) (i : Nat) (h : i < l.length) : rd_L1 l (i : Int) = l[i] := by
  show l.getD ((i : Int)).toNat [] = l[i]
  rw [Int.toNat_natCast, List.getD_eq_getElem?_getD, List.getElem?_eq_getElem h]; rfl
def sumLen : List (List Int) → Int
  | [] => 0
  | x :: r => x.length + sumLen r
theorem sumLen_nonneg : ∀ l : List (List Int), 0 ≤ sumLen l
  | [] => by simp [sumLen]
  | x :: r => by have := sumLen_nonneg r; unfold sumLen; omega
theorem sumLen_mem : ∀ (l : List (List Int)) (x : List Int), x ∈ l → (x.length : Int) ≤ sumLen l
  | [], x, h => by simp at h
  | y :: r, x, h => by
    have h0 := sumLen_nonneg r
    unfold sumLen
    rcases List.mem_cons.1 h with rfl | h
    · omega
    · have := sumLen_mem r x h; omega
theorem szInt64SS_l0 (l : List (List Int)) (hl : l.length ≤ maxLen) (hx : ∀ x ∈ l, x.length ≤ maxLen) : ∀ (d i : Nat) (a : Int), i + d = l.length → 0 ≤ a → a ≤ 1048576 → Ev (fun k => laws_szInt64SS.l0 k l a i) (if a < sumLen (l.drop i) then -1 else a - sumLen (l.drop i)) := by
  intro d
  induction d with
  | zero =>
    intro i a hi h0 h1
    refine Ev.step (f := fun _ => some _) (fun k => ?_) (Ev.now _)
    simp only [laws_szInt64SS.l0]
    rw [if_neg (by omega), List.drop_of_length_le (by omega), sumLen, if_neg (by omega)]
    congr 1; omega
  | succ d ih =>
    intro i a hi h0 h1
    have hlt : i < l.length := by omega
    have hn := sumLen_nonneg (l.drop (i + 1))
    rw [List.drop_eq_getElem_cons hlt, sumLen]
    have hxl := hx _ (List.getElem_mem hlt)
    by_cases h : a < l[i].length
    · refine Ev.step (f := fun _ => some _) (fun k => ?_) (Ev.now _)
      simp only [laws_szInt64SS.l0]
      rw [if_pos (by omega), if_pos (by omega), rdL_get l i hlt, szInt64S_val _ a hxl h0 h1, if_pos h, Option.bind_some, if_pos (by omega), if_pos (by omega)]
    · have := ih (i + 1) (a - l[i].length) (by omega) (by omega) (by omega)
      have e : (if a - (l[i].length : Int) < sumLen (l.drop (i + 1)) then (-1 : Int) else a - (l[i].length : Int) - sumLen (l.drop (i + 1))) = if a < (l[i].length : Int) + sumLen (l.drop (i + 1)) then -1 else a - ((l[i].length : Int) + sumLen (l.drop (i + 1))) := by
        by_cases h2 : a < (l[i].length : Int) + sumLen (l.drop (i + 1))
        · rw [if_pos h2, if_pos (by omega)]
        · rw [if_neg h2, if_neg (by omega)]; omega
      rw [e] at this
      refine Ev.step (fun k => ?_) this
      simp only [laws_szInt64SS.l0]
      rw [if_pos (by omega), if_pos (by omega), rdL_get l i hlt, szInt64S_val _ a hxl h0 h1, if_neg h, Option.bind_some, if_neg (by omega), wrap_next hlt (by unfold maxLen at hl; omega)]
/-- The size that is left: -1, or the lists are short. -/
theorem szInt64SS_ev (l : List (List Int)) (hl : l.length ≤ maxLen) (hx : ∀ x ∈ l, x.length ≤ maxLen) (a : Int) (h0 : 0 ≤ a) (h1 : a ≤ 1048576) :
    ∃ v, Ev (fun k => laws_szInt64SS.f k l a) v ∧ (v = -1 ∨ 0 ≤ v ∧ v ≤ a ∧ (l.length : Int) ≤ a ∧ (∀ x ∈ l, (x.length : Int) ≤ a) ∧ v = a - l.length - sumLen l) := by
  have e : wrap64 (a - (l.length : Int)) = a - l.length := by unfold maxLen at hl; unfold wrap64; omega
  by_cases h : a < l.length
  · exact ⟨-1, Ev.congr (fun k => by unfold laws_szInt64SS.f; rw [e, if_pos (by omega)]) (Ev.now _), .inl rfl⟩
  · have := szInt64SS_l0 l hl hx l.length 0 (a - l.length) (by omega) (by omega) (by omega)
    rw [List.drop_zero] at this
    refine ⟨_, Ev.congr (fun k => ?_) this, ?_⟩
    · unfold laws_szInt64SS.f; rw [e, if_neg (by omega)]; rfl
    · have hn := sumLen_nonneg l
      by_cases h2 : a - (l.length : Int) < sumLen l
      · left; rw [if_pos h2]
      · right
        rw [if_neg h2]
        refine ⟨by omega, by omega, by omega, fun x hm => ?_, rfl⟩
        have := sumLen_mem l x hm
        omega
theorem toInt64SS_l0 (l : List (List Int)) (hl : l.length ≤ 1048576) (hx : ∀ x ∈ l, x.length ≤ 1048576) : ∀ (d i : Nat) (y : List (List Int)), i + d = l.length → y.length = l.length → y.take i = l.take i → Ev (fun k => laws_toInt64SS.l0 k l y i) l := by
  intro d
  induction d with
  | zero =>
    intro i y hi hyl ht
    refine Ev.step (f := fun _ => some l) (fun k => ?_) (Ev.now _)
    simp only [laws_toInt64SS.l0]
    rw [if_neg (by omega)]
    have : i = l.length := by omega
    rw [this, List.take_of_length_le (by omega), List.take_of_length_le (by omega)] at ht
    rw [ht]
  | succ d ih =>
    intro i y hi hyl ht
    have hlt : i < l.length := by omega
    have hb := hx _ (List.getElem_mem hlt)
    refine Ev.step (f := fun k => (laws_toInt64S.f k l[i]).bind fun t => laws_toInt64SS.l0 k l (y.set i t) ((i + 1 : Nat) : Int)) (fun k => ?_) (Ev.bind (toInt64S_ev l[i] (by omega)) (ih (i + 1) _ (by omega) (by simpa using hyl) (take_set_next l y i hlt hyl ht)))
    simp only [laws_toInt64SS.l0]
    rw [if_pos (by omega), if_pos (by omega), rdL_get l i hlt, wrap_next hlt (by omega), Int.toNat_natCast]
    refine congrArg _ (funext fun t => ?_)
    rw [if_pos (by omega)]
theorem toInt64SS_ev (l : List (List Int)) (hl : l.length ≤ 1048576) (hx : ∀ x ∈ l, x.length ≤ 1048576) : Ev (fun k => laws_toInt64SS.f k l) l := by
  refine Ev.congr (f := fun k => laws_toInt64SS.l0 k l (List.replicate l.length []) ((0 : Nat) : Int)) (fun k => ?_) (toInt64SS_l0 l hl hx l.length 0 _ (by omega) (by simp) (by simp))
  unfold laws_toInt64SS.f
  rw [if_pos (by omega), if_pos (by omega), Int.toNat_natCast]; rfl
theorem eqInt64SS_l0 (x y : List (List Int)) (hl : x.length = y.length) (hx : x.length ≤ 9223372036854775807) (hb : ∀ z ∈ x, z.length ≤ 9223372036854775807) : ∀ (d i : Nat), i + d = x.length → x.take i = y.take i → Ev (fun k => laws_eqInt64SS.l0 k x y i) (decide (x = y)) := by
  intro d
  induction d with
  | zero =>
    intro i hi ht
    refine Ev.step (f := fun _ => some (decide (x = y))) (fun k => ?_) (Ev.now _)
    simp only [laws_eqInt64SS.l0]
    rw [if_neg (by omega)]
    have : i = x.length := by omega
    rw [this, List.take_of_length_le (by omega), List.take_of_length_le (by omega)] at ht
    simp [ht]
  | succ d ih =>
    intro i hi ht
    have hlt : i < x.length := by omega
    have hz := eqInt64S_ev x[i] (y[i]'(by omega)) (hb _ (List.getElem_mem hlt))
    by_cases he : x[i] = y[i]'(by omega)
    · rw [decide_eq_true he] at hz
      refine Ev.step (f := fun k => (laws_eqInt64S.f k x[i] (y[i]'(by omega))).bind fun t => if t = true then laws_eqInt64SS.l0 k x y ((i + 1 : Nat) : Int) else some false) (fun k => ?_) (Ev.bind hz (Ev.congr (fun k => by rw [if_pos rfl]) (ih (i + 1) (by omega) ?_)))
      · simp only [laws_eqInt64SS.l0]
        rw [if_pos (by omega), if_pos (by omega), if_pos (by omega), wrap_next hlt (by omega), rdL_get x i hlt, rdL_get y i (by omega)]
      · rw [List.take_succ_eq_append_getElem hlt, List.take_succ_eq_append_getElem (by omega), ht, he]
    · rw [decide_eq_false he] at hz
      have hne : x ≠ y := fun h => he (by subst h; rfl)
      rw [decide_eq_false hne]
      refine Ev.step (f := fun k => (laws_eqInt64S.f k x[i] (y[i]'(by omega))).bind fun t => if t = true then laws_eqInt64SS.l0 k x y ((i + 1 : Nat) : Int) else some false) (fun k => ?_) (Ev.bind hz (Ev.congr (fun k => by rw [if_neg (by simp)]) (Ev.now _)))
      simp only [laws_eqInt64SS.l0]
      rw [if_pos (by omega), if_pos (by omega), if_pos (by omega), wrap_next hlt (by omega), rdL_get x i hlt, rdL_get y i (by omega)]
theorem eqInt64SS_ev (x y : List (List Int)) (hx : x.length ≤ 9223372036854775807) (hb : ∀ z ∈ x, z.length ≤ 9223372036854775807) : Ev (fun k => laws_eqInt64SS.f k x y) (decide (x = y)) := by
  by_cases h : x.length = y.length
  · refine Ev.congr (f := fun k => laws_eqInt64SS.l0 k x y ((0 : Nat) : Int)) (fun k => ?_) (eqInt64SS_l0 x y h hx hb x.length 0 (by omega) (by simp))
    unfold laws_eqInt64SS.f
    rw [if_pos (by omega)]; rfl
  · refine Ev.congr (f := fun _ => some (decide (x = y))) (fun k => ?_) (Ev.now _)
    unfold laws_eqInt64SS.f
    rw [if_neg (by omega)]
    have : x ≠ y := fun e => h (by rw [e])
    simp [this]
theorem eqInt64SS_self (x : List (List Int)) (hx : x.length ≤ 9223372036854775807) (hb : ∀ z ∈ x, z.length ≤ 9223372036854775807) : Ev (fun k => laws_eqInt64SS.f k x x) true := by
  have := eqInt64SS_ev x x hx hb
  simpa using this
/-- The reference's 'in' is the program's 'within'. -/
theorem in_inW (n a b : Int) : spec_l01In.f n a b = some (inW n a b) := by
  unfold spec_l01In.f inW
  by_cases h : a ≤ n <;> simp [h]
/-- The reference's test of nets is the program's. -/
theorem rd_two0 (a b : Int) : rd [a, b] 0 = a := rfl
theorem rd_two1 (a b : Int) : rd [a, b] 1 = b := rfl
theorem len_two {e : List Int} (h : e.length = 2) : ∃ a b, e = [a, b] := by
  match e, h with
  | [a, b], _ => exact ⟨a, b, rfl⟩
theorem rising_two (a b lo ub : Int) : rising [a, b] lo ub = (inW a lo ub && (inW b lo ub && !decide (b ≤ a))) := by
  simp [rising, risingFrom]
theorem cmp_two (a b c d : Int) : cmpL [a, b] [c, d] < 0 ↔ a < c ∨ a = c ∧ b < d := by
  simp only [cmpL]
  by_cases h1 : a < c
  · simp [h1]
  · by_cases h2 : c < a
    · simp [h1, h2]; omega
    · have : a = c := by omega
      subst this
      by_cases h3 : b < d
      · simp [h3]
      · by_cases h4 : d < b <;> simp [h3, h4]
theorem edge_good {p : Int} {e : List Int} (h : edgeBad p e = false) : ∃ a b, e = [a, b] ∧ inW a 0 (wrap64 (p - 1)) = true ∧ inW b 0 (wrap64 (p - 1)) = true ∧ ¬ b ≤ a := by
  unfold edgeBad at h
  simp only [Bool.or_eq_false_iff, Bool.not_eq_false', decide_eq_true_eq] at h
  obtain ⟨a, b, rfl⟩ := len_two h.1
  rw [rising_two] at h
  simp only [Bool.and_eq_true, Bool.not_eq_true', decide_eq_false_iff_not] at h
  exact ⟨a, b, rfl, h.2.1, h.2.2.1, h.2.2.2⟩
theorem l10Is_l0 (p : Int) (l : List (List Int)) (hl : l.length ≤ 9223372036854775807) : ∀ (d i : Nat), i + d = l.length → (∀ e ∈ l.take i, edgeBad p e = false) →
    Ev (fun k => spec_l10Is.l0 k i p l) (!(l.drop i).any (edgeBad p) && sortedBy cmpL (l.drop (i - 1))) := by
  intro d
  induction d with
  | zero =>
    intro i hi hg
    refine Ev.step (f := fun _ => some _) (fun k => ?_) (Ev.now _)
    simp only [spec_l10Is.l0]
    rw [if_neg (by omega), List.drop_of_length_le (by omega)]
    have : sortedBy cmpL (l.drop (i - 1)) = true := by
      by_cases h0 : i = 0
      · have : l = [] := List.eq_nil_of_length_eq_zero (by omega)
        subst this; simp [sortedBy]
      · rw [List.drop_eq_getElem_cons (by omega), List.drop_of_length_le (by omega)]; rfl
    rw [this]; rfl
  | succ d ih =>
    intro i hi hg
    have hlt : i < l.length := by omega
    have e1 : l.drop i = l[i] :: l.drop (i + 1) := List.drop_eq_getElem_cons hlt
    have hany : (l.drop i).any (edgeBad p) = (edgeBad p l[i] || (l.drop (i + 1)).any (edgeBad p)) := by rw [e1]; rfl
    rw [hany]
    by_cases hb : edgeBad p l[i] = true
    · -- not an edge
      rw [hb]
      refine Ev.congr (g := fun k => spec_l10Is.l0 k i p l) (f := fun k => spec_l10Is.l0 k i p l) (fun _ => rfl) ?_
      show Ev _ (!(true || _) && _)
      simp only [Bool.true_or, Bool.not_true, Bool.false_and]
      have hj : Ev (fun k => spec_l10Is.j2 k i l[i] true p l) false := Ev.step (f := fun _ => some false) (fun k => by simp only [spec_l10Is.j2]; rw [if_pos trivial]) (Ev.now _)
      refine Ev.step (f := fun k => spec_l10Is.j2 k i l[i] true p l) (fun k => ?_) hj
      simp only [spec_l10Is.l0]
      rw [if_pos (by omega), if_pos (by omega), rdL_get l i hlt]
      by_cases h2 : l[i].length = 2
      · obtain ⟨a, b, hab⟩ := len_two h2
        rw [hab] at hb ⊢
        rw [if_pos (by simp), if_pos (by simp), rd_two0, in_inW, Option.bind_some]
        by_cases ha : inW a 0 (wrap64 (p - 1)) = true
        · rw [if_pos ha, if_pos (by simp), rd_two1, in_inW, Option.bind_some]
          by_cases hb' : inW b 0 (wrap64 (p - 1)) = true
          · rw [if_pos hb']
            have : decide (a ≥ b) = true := by
              unfold edgeBad at hb
              rw [rising_two, ha, hb'] at hb
              simpa using hb
            rw [this]
          · rw [if_neg hb']
        · rw [if_neg ha]
      · rw [if_neg (by omega)]
    · have hb' : edgeBad p l[i] = false := by simpa using hb
      obtain ⟨a, b, hab, ha, hbb, hlt2⟩ := edge_good hb'
      have hg' : ∀ e ∈ l.take (i + 1), edgeBad p e = false := by
        intro e he
        rw [List.take_succ_eq_append_getElem hlt] at he
        rcases List.mem_append.1 he with h | h
        · exact hg e h
        · rw [List.mem_singleton.1 h]; exact hb'
      have ih1 := ih (i + 1) (by omega) hg'
      rw [Nat.add_sub_cancel] at ih1
      rw [hb', Bool.false_or]
      -- to the second test
      have step : ∀ v, Ev (fun k => spec_l10Is.j2 k i [a, b] false p l) v → Ev (fun k => spec_l10Is.l0 k i p l) v := by
        intro v hv
        refine Ev.step (f := fun k => spec_l10Is.j2 k i [a, b] false p l) (fun k => ?_) hv
        simp only [spec_l10Is.l0]
        rw [if_pos (by omega), if_pos (by omega), rdL_get l i hlt, hab, if_pos (by simp), if_pos (by simp), rd_two0, rd_two1, in_inW, in_inW, ha, hbb, Option.bind_some, if_pos rfl, if_pos (by simp), Option.bind_some, if_pos rfl, decide_eq_false (by omega)]
      refine step _ ?_
      by_cases h0 : i = 0
      · subst h0
        refine Ev.step (fun k => ?_) ih1
        simp only [spec_l10Is.j2]
        rw [if_neg (by simp), if_neg (by omega), wrap_next hlt hl]
      · have hp : i - 1 < l.length := by omega
        have hpm : l[i - 1] ∈ l.take i := by
          rw [List.mem_take_iff_getElem]
          exact ⟨i - 1, by omega, rfl⟩
        obtain ⟨c, d', hcd, _, _, _⟩ := edge_good (hg _ hpm)
        have ew : wrap64 ((i : Int) - 1) = ((i - 1 : Nat) : Int) := by unfold wrap64; omega
        have e2 : l.drop (i - 1) = [c, d'] :: [a, b] :: l.drop (i + 1) := by
          rw [List.drop_eq_getElem_cons hp, hcd, show i - 1 + 1 = i by omega, e1, hab]
        rw [e2]
        rw [e1, hab] at ih1
        have es : sortedBy cmpL ([c, d'] :: [a, b] :: l.drop (i + 1)) = (!decide (cmpL [a, b] [c, d'] < 0) && sortedBy cmpL ([a, b] :: l.drop (i + 1))) := rfl
        rw [es]
        by_cases h1 : c > a
        · have : cmpL [a, b] [c, d'] < 0 := (cmp_two a b c d').2 (.inl h1)
          rw [decide_eq_true this]
          simp only [Bool.not_true, Bool.false_and, Bool.and_false]
          refine Ev.step (f := fun _ => some false) (fun k => ?_) (Ev.now _)
          simp only [spec_l10Is.j2]
          rw [if_neg (by simp), if_pos (by omega), ew, if_pos (by omega), if_pos (by omega), rdL_get l (i - 1) hp, hcd, if_pos (by simp), if_pos (by simp), rd_two0, rd_two0, if_pos h1]
        · by_cases h2 : c = a
          · by_cases h3 : d' > b
            · have : cmpL [a, b] [c, d'] < 0 := (cmp_two a b c d').2 (.inr ⟨h2.symm, h3⟩)
              rw [decide_eq_true this]
              simp only [Bool.not_true, Bool.false_and, Bool.and_false]
              refine Ev.step (f := fun _ => some false) (fun k => ?_) (Ev.now _)
              simp only [spec_l10Is.j2]
              rw [if_neg (by simp), if_pos (by omega), ew, if_pos (by omega), if_pos (by omega), rdL_get l (i - 1) hp, hcd, if_pos (by simp), if_pos (by simp), rd_two0, rd_two0, if_neg h1, if_pos h2, if_pos (by simp), if_pos (by simp), rd_two1, rd_two1, if_pos h3]
            · have : ¬ cmpL [a, b] [c, d'] < 0 := fun h => by
                rcases (cmp_two a b c d').1 h with h | h <;> omega
              rw [decide_eq_false this]
              refine Ev.step (fun k => ?_) ih1
              simp only [spec_l10Is.j2]
              rw [if_neg (by simp), if_pos (by omega), ew, if_pos (by omega), if_pos (by omega), rdL_get l (i - 1) hp, hcd, if_pos (by simp), if_pos (by simp), rd_two0, rd_two0, if_neg h1, if_pos h2, if_pos (by simp), if_pos (by simp), rd_two1, rd_two1, if_neg h3, wrap_next hlt hl]
          · have : ¬ cmpL [a, b] [c, d'] < 0 := fun h => by
              rcases (cmp_two a b c d').1 h with h | h <;> omega
            rw [decide_eq_false this]
            refine Ev.step (fun k => ?_) ih1
            simp only [spec_l10Is.j2]
            rw [if_neg (by simp), if_pos (by omega), ew, if_pos (by omega), if_pos (by omega), rdL_get l (i - 1) hp, hcd, if_pos (by simp), if_pos (by simp), rd_two0, rd_two0, if_neg h1, if_neg h2, wrap_next hlt hl]
theorem l10Is_ev (p : Int) (l : List (List Int)) (hl : l.length ≤ 9223372036854775807) : Ev (fun k => spec_l10Is.f k p l) (isNetV p l) := by
  unfold spec_l10Is.f isNetV
  rw [in_inW]
  have hj : Ev (fun k => spec_l10Is.j0 k true p l) false := Ev.step (f := fun _ => some false) (fun k => by simp only [spec_l10Is.j0]; rw [if_pos trivial]) (Ev.now _)
  by_cases h1 : inW p 2 8 = true
  · rw [h1]
    by_cases h2 : (l.length : Int) > 10
    · rw [decide_eq_true h2]
      exact Ev.congr (fun k => by rw [Option.bind_some, if_pos rfl]) hj
    · rw [decide_eq_false h2]
      have := l10Is_l0 p l hl l.length 0 (by omega) (by simp)
      rw [List.drop_zero] at this
      refine Ev.congr (f := fun k => spec_l10Is.j0 k false p l) (fun k => by rw [Option.bind_some, if_pos rfl]) (Ev.step (fun k => ?_) this)
      simp only [spec_l10Is.j0]
      rw [if_neg (by simp)]; rfl
  · have h1' : inW p 2 8 = false := by simpa using h1
    rw [h1']
    exact Ev.congr (fun k => by rw [Option.bind_some, if_neg (by simp)]) hj
/-- The verifier's helpers on nets. -/
theorem szNet_ev (p : Int) (l : List (List Int)) (hl : l.length ≤ maxLen ∧ ∀ x ∈ l, x.length ≤ maxLen ∧ ∀ y ∈ x, (Lit.int .i64 y).wf = true) :
    ∃ v, Ev (fun k => laws_szNet.f k p l 1048576) v ∧ (v = -1 ∨ 0 ≤ v ∧ l.length ≤ 1048576 ∧ ∀ x ∈ l, x.length ≤ 1048576) := by
  obtain ⟨v, hv, h⟩ := szInt64SS_ev l hl.1 (fun x hx => (hl.2 x hx).1) 1048576 (by omega) (by omega)
  unfold laws_szNet.f
  rcases h with rfl | ⟨h0, _, h1, h2, _⟩
  · exact ⟨-1, Ev.bind hv (Ev.congr (fun k => by rw [if_pos (by omega)]) (Ev.now _)), .inl rfl⟩
  · exact ⟨v, Ev.bind hv (Ev.congr (fun k => by rw [if_neg (by omega)]) (Ev.now _)), .inr ⟨h0, by omega, fun x hx => by have := h2 x hx; omega⟩⟩
theorem toNet_ev (p : Int) (l : List (List Int)) (hl : l.length ≤ 1048576) (hx : ∀ x ∈ l, x.length ≤ 1048576) : Ev (fun k => laws_toNet.f k p l) (p, l) := by
  unfold laws_toNet.f
  exact Ev.bind (toInt64SS_ev l hl hx) (Ev.now _)
theorem eqNet_self (p : Int) (l : List (List Int)) (hl : l.length ≤ 1048576) (hx : ∀ x ∈ l, x.length ≤ 1048576) : Ev (fun k => laws_eqNet.f k p l p l) true := by
  unfold laws_eqNet.f
  refine Ev.congr (fun k => by rw [if_pos rfl]) (Ev.bind (eqInt64SS_self l (by omega) (fun z hz => by have := hx z hz; omega)) (Ev.congr (fun k => by rw [if_pos rfl]) (Ev.now _)))
-- What the program's 'reached' and the reference's 'l10Reached' compute: the least set of points that holds one point and is closed under the accepted edges.
def NetEdges (l : List (List Int)) : Prop := l.length ≤ 10 ∧ ∀ e ∈ l, ∃ a b : Nat, e = [(a : Int), (b : Int)] ∧ a < 8 ∧ b < 8
def ea (l : List (List Int)) (i : Nat) : Nat := (rd (rd_L1 l i) 0).toNat
def eb (l : List (List Int)) (i : Nat) : Nat := (rd (rd_L1 l i) 1).toNat
theorem edge_at {l : List (List Int)} (h : NetEdges l) {i : Nat} (hi : i < l.length) : rd_L1 l i = [(ea l i : Int), (eb l i : Int)] ∧ ea l i < 8 ∧ eb l i < 8 := by
  have e : rd_L1 l (i : Int) = l[i] := by
    show l.getD ((i : Int)).toNat [] = l[i]
    rw [Int.toNat_natCast, List.getD_eq_getElem?_getD, List.getElem?_eq_getElem hi]; rfl
  obtain ⟨a, b, hab, ha, hb⟩ := h.2 l[i] (List.getElem_mem hi)
  unfold ea eb
  rw [e, hab]
  have h0 : rd [(a : Int), (b : Int)] 0 = (a : Int) := rfl
  have h1 : rd [(a : Int), (b : Int)] 1 = (b : Int) := rfl
  rw [h0, h1, Int.toNat_natCast, Int.toNat_natCast]
  exact ⟨rfl, ha, hb⟩
def ClosedUnder (A : Nat → Bool) (l : List (List Int)) (m : Nat) : Prop := ∀ i, i < l.length → A i = true → m.testBit (ea l i) = m.testBit (eb l i)
def Under (A : Nat → Bool) (l : List (List Int)) (f m : Nat) : Prop := ∀ M : Nat, M.testBit f = true → ClosedUnder A l M → ∀ x, m.testBit x = true → M.testBit x = true
def LeastSet (A : Nat → Bool) (l : List (List Int)) (f c : Nat) : Prop := c < 256 ∧ c.testBit f = true ∧ ClosedUnder A l c ∧ Under A l f c
theorem LeastSet.eq {A : Nat → Bool} {l : List (List Int)} {f c d : Nat} (h : LeastSet A l f c) (k : LeastSet A l f d) : c = d := by
  apply Nat.eq_of_testBit_eq
  intro x
  rw [Bool.eq_iff_iff]
  exact ⟨h.2.2.2 d k.2.1 k.2.2.1 x, k.2.2.2 c h.2.1 h.2.2.1 x⟩
theorem LeastSet.congr {A B : Nat → Bool} {l : List (List Int)} {f c : Nat} (h : LeastSet A l f c) (e : ∀ i, i < l.length → A i = B i) : LeastSet B l f c := by
  refine ⟨h.1, h.2.1, fun i hi hb => h.2.2.1 i hi (by rw [e i hi]; exact hb), fun M h1 h2 => h.2.2.2 M h1 (fun i hi ha => h2 i hi (by rw [← e i hi]; exact ha))⟩
theorem two_lt {a : Nat} (h : a < 8) : 2 ^ a < 256 := by
  have : 2 ^ a < 2 ^ 8 := Nat.pow_lt_pow_right (by omega) h
  omega
theorem or_lt {m a : Nat} (hm : m < 256) (ha : a < 256) : m ||| a < 256 := by
  have := Nat.or_lt_two_pow (n := 8) (x := m) (y := a) (by omega) (by omega)
  omega
theorem bit_or2 (m a b x : Nat) : ((m ||| 2 ^ a) ||| 2 ^ b).testBit x = (m.testBit x || decide (a = x) || decide (b = x)) := by
  rw [Nat.testBit_or, Nat.testBit_or, Nat.testBit_two_pow, Nat.testBit_two_pow]
theorem under_or {A : Nat → Bool} {l : List (List Int)} {f m i : Nat} (h : Under A l f m) (hi : i < l.length) (hA : A i = true) (hm : m.testBit (ea l i) = true ∨ m.testBit (eb l i) = true) : Under A l f ((m ||| 2 ^ ea l i) ||| 2 ^ eb l i) := by
  intro M hM hC x hx
  rw [bit_or2] at hx
  have hc := hC i hi hA
  have hu := h M hM hC
  simp only [Bool.or_eq_true, decide_eq_true_eq] at hx
  rcases hx with (hx | rfl) | rfl
  · exact hu x hx
  · rcases hm with hm | hm
    · exact hu _ hm
    · rw [hc]; exact hu _ hm
  · rcases hm with hm | hm
    · rw [← hc]; exact hu _ hm
    · exact hu _ hm
theorem or2_le (m a b : Nat) : m ≤ (m ||| 2 ^ a) ||| 2 ^ b := Nat.le_trans Nat.left_le_or Nat.left_le_or
theorem or2_ne {m a b : Nat} (h : m.testBit a ≠ m.testBit b) : m < (m ||| 2 ^ a) ||| 2 ^ b := by
  refine Nat.lt_of_le_of_ne (or2_le m a b) fun e => h ?_
  have h1 := bit_or2 m a b a
  have h2 := bit_or2 m a b b
  rw [← e] at h1 h2
  rw [h1, h2]; simp
theorem bit_mono_or (m a b f : Nat) (h : m.testBit f = true) : ((m ||| 2 ^ a) ||| 2 ^ b).testBit f = true := by rw [bit_or2, h]; rfl
theorem stepS (p : Int) (l : List (List Int)) (s m' a b i : Nat) (more : Bool) (k : Nat) (hs : s < 4611686018427387904) (hm' : m' < 256) (ha : a < 8) (hb : b < 8) (hlt : i < l.length) (hlen : l.length ≤ 10) (he : rd_L1 l i = [(a : Int), (b : Int)]) :
    spec_l10Reached.l1 (k + 1) s m' more i p l = if s.testBit i = true then (if m'.testBit a = m'.testBit b then spec_l10Reached.l1 k s m' more ((i + 1 : Nat) : Int) p l else spec_l10Reached.l1 k s (((m' ||| 2 ^ a) ||| 2 ^ b : Nat) : Int) true ((i + 1 : Nat) : Int) p l) else spec_l10Reached.l1 k s m' more ((i + 1 : Nat) : Int) p l := by
  have t1 := two_lt ha
  have t2 := two_lt hb
  have t3 := or_lt hm' t1
  have wn : wrap64 ((i : Int) + 1) = ((i + 1 : Nat) : Int) := by unfold wrap64; omega
  have r0 : rd [(a : Int), (b : Int)] 0 = (a : Int) := rfl
  have r1 : rd [(a : Int), (b : Int)] 1 = (b : Int) := rfl
  have b0 := bit_nat s i (by omega) (by omega)
  have b1 := bit_nat m' a (by omega) (by omega)
  have b2 := bit_nat m' b (by omega) (by omega)
  have s1 := shl_nat a (by omega)
  have s2 := shl_nat b (by omega)
  have o1 := bits_or_nat m' (2 ^ a) (by omega) (by omega)
  have o2 := bits_or_nat (m' ||| 2 ^ a) (2 ^ b) (by omega) (by omega)
  have u0 := u64_nat a (by omega)
  have u1 := u64_nat b (by omega)
  have u2 := u64_nat i (by omega)
  have n0 : (0 : Int) ≤ (a : Int) := by omega
  have n1 : (0 : Int) ≤ (b : Int) := by omega
  have n2 : (0 : Int) ≤ (i : Int) := by omega
  have n3 : (i : Int) < (l.length : Int) := by omega
  have l0 : (0 : Int) < (([(a : Int), (b : Int)] : List Int).length : Int) := by simp
  have l1 : (1 : Int) < (([(a : Int), (b : Int)] : List Int).length : Int) := by simp
  generalize (2 ^ a : Nat) = pa at *
  generalize (2 ^ b : Nat) = pb at *
  simp only [spec_l10Reached.l1]
  rw [if_pos n3, if_pos n2, he, if_pos l0, r0, u0, if_pos n0, if_pos l1]
  rw [r1, u1, if_pos n1, u2, if_pos n2]
  rw [b0, b1, b2, s1, s2, o1, o2, wn]
  cases s.testBit i <;> cases m'.testBit a <;> cases m'.testBit b <;> simp
theorem reachS_out (p : Int) (l : List (List Int)) (hl : NetEdges l) (s f : Nat) (hs : s < 4611686018427387904) : ∀ (n m : Nat), 256 - m ≤ n → m.testBit f = true → Under (fun i => s.testBit i) l f m → m < 256 →
    ∃ c : Nat, Ev (fun k => spec_l10Reached.l0 k s m true p l) (c : Int) ∧ LeastSet (fun i => s.testBit i) l f c := by
  intro n
  induction n with
  | zero => intro m h _ _ h2; omega
  | succ n ih =>
    intro m hn hf hu hm
    have pass : ∀ (d i : Nat), i + d = l.length → ∀ (m' : Nat) (more : Bool), m'.testBit f = true → Under (fun i => s.testBit i) l f m' → m' < 256 → (more = false → m' = m ∧ ∀ j, j < i → s.testBit j = true → m.testBit (ea l j) = m.testBit (eb l j)) → (more = true → m < m') →
        ∃ c : Nat, Ev (fun k => spec_l10Reached.l1 k s m' more i p l) (c : Int) ∧ LeastSet (fun i => s.testBit i) l f c := by
      intro d
      induction d with
      | zero =>
        intro i hi m' more hf' hu' hm' h0 h1
        have st : ∀ k, spec_l10Reached.l1 (k + 1) s m' more i p l = spec_l10Reached.l0 k s m' more p l := fun k => by
          simp only [spec_l10Reached.l1]; rw [if_neg (by omega)]
        cases more with
        | false =>
          obtain ⟨rfl, hc⟩ := h0 rfl
          refine ⟨m', Ev.step st (Ev.step (f := fun _ => some _) (fun k => ?_) (Ev.now _)), hm', hf', fun j hj ha => hc j (by omega) ha, hu'⟩
          simp only [spec_l10Reached.l0]; rw [if_neg (by simp)]
        | true =>
          have hlt := h1 rfl
          obtain ⟨c, hc, hL⟩ := ih m' (by omega) hf' hu' hm'
          exact ⟨c, Ev.step st hc, hL⟩
      | succ d ihd =>
        intro i hi m' more hf' hu' hm' h0 h1
        have hlt : i < l.length := by omega
        obtain ⟨he, ha, hb⟩ := edge_at hl hlt
        have step := fun k => stepS p l s m' (ea l i) (eb l i) i more k hs hm' ha hb hlt hl.1 he
        by_cases hA : s.testBit i = true
        · by_cases hq : m'.testBit (ea l i) = m'.testBit (eb l i)
          · obtain ⟨c, hc, hL⟩ := ihd (i + 1) (by omega) m' more hf' hu' hm' (fun hm0 => ⟨(h0 hm0).1, fun j hj hsj => by
              by_cases hji : j < i
              · exact (h0 hm0).2 j hji hsj
              · obtain rfl : j = i := by omega
                rw [← (h0 hm0).1]; exact hq⟩) h1
            exact ⟨c, Ev.step (fun k => by rw [step k, if_pos hA, if_pos hq]) hc, hL⟩
          · have hor : m'.testBit (ea l i) = true ∨ m'.testBit (eb l i) = true := by
              cases h3 : m'.testBit (ea l i) <;> cases h4 : m'.testBit (eb l i) <;> simp_all
            have hne := or2_ne hq
            have hle : m ≤ m' := by
              cases more with
              | false => rw [(h0 rfl).1]; exact Nat.le_refl _
              | true => exact Nat.le_of_lt (h1 rfl)
            obtain ⟨c, hc, hL⟩ := ihd (i + 1) (by omega) _ true (bit_mono_or m' (ea l i) (eb l i) f hf') (under_or hu' hlt hA hor) (or_lt (or_lt hm' (two_lt ha)) (two_lt hb)) (fun h => by simp at h) (fun _ => by omega)
            exact ⟨c, Ev.step (fun k => by rw [step k, if_pos hA, if_neg hq]) hc, hL⟩
        · obtain ⟨c, hc, hL⟩ := ihd (i + 1) (by omega) m' more hf' hu' hm' (fun hm0 => ⟨(h0 hm0).1, fun j hj hsj => by
              by_cases hji : j < i
              · exact (h0 hm0).2 j hji hsj
              · obtain rfl : j = i := by omega
                exact absurd hsj hA⟩) h1
          exact ⟨c, Ev.step (fun k => by rw [step k, if_neg hA]) hc, hL⟩
    obtain ⟨c, hc, hL⟩ := pass l.length 0 (by omega) m false hf hu hm (fun _ => ⟨rfl, fun j hj => by omega⟩) (fun h => by simp at h)
    refine ⟨c, Ev.step (fun k => ?_) hc, hL⟩
    simp only [spec_l10Reached.l0]; rw [if_pos trivial]; rfl
-- A net's edges.
theorem netEdges {p : Int} {l : List (List Int)} (h : isNetV p l = true) : NetEdges l ∧ 2 ≤ p ∧ p ≤ 8 := by
  unfold isNetV at h
  simp only [Bool.and_eq_true, Bool.not_eq_true', decide_eq_false_iff_not] at h
  obtain ⟨⟨⟨h1, h2⟩, h3⟩, _⟩ := h
  unfold inW at h1
  simp only [Bool.and_eq_true, decide_eq_true_eq] at h1
  refine ⟨⟨by omega, fun e he => ?_⟩, h1.1, h1.2⟩
  have hb : edgeBad p e = false := by
    have := List.any_eq_false.1 h3 e he
    simpa using this
  obtain ⟨a, b, rfl, ha, hb2, _⟩ := edge_good hb
  unfold inW at ha hb2
  simp only [Bool.and_eq_true, decide_eq_true_eq] at ha hb2
  have e : wrap64 (p - 1) = p - 1 := by unfold wrap64; omega
  rw [e] at ha hb2
  refine ⟨a.toNat, b.toNat, ?_, by omega, by omega⟩
  rw [Int.toNat_of_nonneg ha.1, Int.toNat_of_nonneg hb2.1]
/-! ### impl_chosen: function 70 -/
-- EXTERNAL: by hand
def chosenTo (p : Int → Bool) : Nat → List Int
  | 0 => []
  | k + 1 => if p (k : Int) then chosenTo p k ++ [(k : Int)] else chosenTo p k
theorem chosenTo_le (p : Int → Bool) : ∀ k, (chosenTo p k).length ≤ k
  | 0 => Nat.le_refl _
  | k + 1 => by
    have := chosenTo_le p k
    unfold chosenTo
    split
    · simp; omega
    · omega
set_option maxHeartbeats 4000000 in
set_option maxRecDepth 100000 in
theorem impl_chosen.calls (g : Nat) (lb : Array Value) (q : Int → Prop) (p : Int → Bool) (eg : ∀ args w, (callFunc g args).run Tryd.prog w = .ok (.enter g args) w)
    (n : Int) (w : World) (hp : PredK Tryd.prog g lb (Kd.int .i64) q p w) (hq : ∀ x, 0 ≤ x → x < n → q x) (hn : n ≤ 17592186044416) :
    Calls Tryd.prog 70 #[.int .i64 n, .func (.func g) #[] lb] w fun e w' => ∃ v0_ : Value, e = .returned v0_ ∧ Kd.R (Kd.int .i64) 2 w' w.heap.size (fun _ => True) v0_ (chosenTo p n.toNat) ∧ Below w.heap.size w w' := by
  have HP := Aside0.mk hp
  have HQ := Aside0.mk hq
  have HB0 := Aside0.mk (Below.refl w.heap.size w)
  clear hp hq
  go_enter Tryd.func70, Tryd.ntmps70
  go_wp2_with (first | ((with_reducible refine gate_dst (N := 7) rfl ?_); refine Kd.R_lit (Kd.int .i64) _ 2 ?hg (N := 7) ?hd (xs := ([] : List Int)) (inner := []) (ok := fun _ => True) (okp := fun _ => True) ?hr ?hp (fun _ hk => hk) trivial (Below.refl _ _) (Nat.le_refl _) (by simp) ?_; (case hd => rfl); (case hg => rfl); (case hr => first | (go_simp; done) | (go_simp; rfl)); (case hp => exact (Reps.none _ _)); intro v0 w0 ho hb hg_ hnew_; have HO0 := Aside0.mk ho; have HBl := Aside0.mk hb; clear hg_ hnew_ ho hb))
  go_loopg [5, 9] n.toNat (fun gg s5 s9 wr => ∃ kk : Nat, (kk : Int) ≤ max n 0 ∧ n.toNat - kk ≤ gg ∧ s9 = .int .i64 kk ∧ Aside0 (Kd.R (Kd.int .i64) 2 wr w.heap.size (fun _ => True) s5 (chosenTo p kk)) ∧ Aside0 (Below w.heap.size w wr))
  case atStart => exact ⟨0, by omega, by omega, rfl, ⟨HO0.out⟩, ⟨HBl.out⟩⟩
  case round =>
    obtain ⟨kk, hkk, hg, rfl, HO, HB⟩ := hrel
    clear HO0 HBl
    by_cases hlt : (kk : Int) < n
    · have hcall := HP.out wr kk (.int .i64 kk) (HQ.out _ (by omega) hlt) rfl HB.out
      have HL := Aside0.mk (chosenTo_le p kk)
      have hs : chosenTo p (kk + 1) = if p kk then chosenTo p kk ++ [(kk : Int)] else chosenTo p kk := rfl
      generalize p kk = b at hcall hs
      generalize chosenTo p kk = xs at HO HL hs
      have HS := Aside0.mk hs
      clear hs
      cases b with
      | true =>
        go_wp2_with (first | (go_at_fn g; refine hcall.mono ?_; rintro e w1 ⟨rfl, hb⟩; have HO1 := Aside0.mk (Kd.R_below HO.out hb); have HB1 := Aside0.mk (below_step HB.out hb); clear hb) | ((with_reducible refine gate_builtin (b := .append) (xs := #[.tmp 15, .tmp 17]) rfl ?_); at_builtin; refine Kd.R_append (Kd.int .i64) (w0 := w) w.heap.size rfl (.tmp 15) (.tmp 17) 38 2 (.int .i64 0) 8 rfl Tryd.underlying38 info2 rfl (by decide) (by omega) u5 xs (kk : Int) [.int .i64 kk] (fun _ => True) (fun _ => False) rfl rfl ?aP (fun _ hk => hk.elim) ?aF ?aO ?aB ?aS ?aL ?_; (case aP => exact rfl); (case aF => exact (fun _ _ => trivial)); (case aO => exact HO1.out); (case aB => exact HB1.out); (case aS => exact below_size HB1.out); (case aL => have := HL.out; omega); intro v2 w2 ho hb hg hat; have HO2 := Aside0.mk ho; have HB2 := Aside0.mk hb; clear ho hb hg hat))
        go_roundg (n.toNat - (kk + 1))
        case measure => omega
        case rel => exact ⟨kk + 1, by omega, by omega, by go_num, ⟨by rw [HS.out]; exact HO2.out⟩, ⟨HB2.out⟩⟩
      | false =>
        go_wp2_with (go_at_fn g; refine hcall.mono ?_; rintro e w1 ⟨rfl, hb⟩; have HO1 := Aside0.mk (Kd.R_below HO.out hb); have HB1 := Aside0.mk (below_step HB.out hb); clear hb)
        go_roundg (n.toNat - (kk + 1))
        case measure => omega
        case rel => exact ⟨kk + 1, by omega, by omega, by go_num, ⟨by rw [HS.out]; exact HO1.out⟩, ⟨HB1.out⟩⟩
    · have : kk = n.toNat := by omega
      subst this
      go_wp2
      go_ret
      exact ⟨_, rfl, HO.out, HB.out⟩
-- The program's 'reached' computes the least closed set.
theorem and_own (m a b : Nat) : m &&& (2 ^ a ||| 2 ^ b) = 0 ↔ (m.testBit a = false ∧ m.testBit b = false) := by
  constructor
  · intro h
    have h1 : (m &&& (2 ^ a ||| 2 ^ b)).testBit a = false := by rw [h]; simp
    have h2 : (m &&& (2 ^ a ||| 2 ^ b)).testBit b = false := by rw [h]; simp
    rw [Nat.testBit_and, Nat.testBit_or, Nat.testBit_two_pow, Nat.testBit_two_pow] at h1 h2
    constructor
    · simpa using h1
    · simpa using h2
  · rintro ⟨h1, h2⟩
    apply Nat.eq_of_testBit_eq
    intro x
    rw [Nat.testBit_and, Nat.testBit_or, Nat.testBit_two_pow, Nat.testBit_two_pow, Nat.zero_testBit]
    by_cases ha : a = x
    · subst ha; simp [h1]
    · by_cases hb : b = x
      · subst hb; simp [h2]
      · simp [ha, hb]
theorem stepI (acc : Int → Bool) (l : List (List Int)) (m m' a b i k : Nat) (hm' : m' < 256) (ha : a < 8) (hb : b < 8) (hlt : i < l.length) (he : rd_L1 l i = [(a : Int), (b : Int)]) :
    impl_Net_reached.l1 (k + 1) acc l m m' i = if acc (i : Int) = true then (if m'.testBit a = false ∧ m'.testBit b = false then impl_Net_reached.l1 k acc l m m' (i + 1) else impl_Net_reached.l1 k acc l m (((m' ||| 2 ^ a) ||| 2 ^ b : Nat) : Int) (i + 1)) else impl_Net_reached.l1 k acc l m m' (i + 1) := by
  have hao := and_own m' a b
  have t1 := two_lt ha
  have t2 := two_lt hb
  have t3 := or_lt t1 t2
  have r0 : rd [(a : Int), (b : Int)] 0 = (a : Int) := rfl
  have r1 : rd [(a : Int), (b : Int)] 1 = (b : Int) := rfl
  have s1 := shl_nat a (by omega)
  have s2 := shl_nat b (by omega)
  have asc := Nat.or_assoc m' (2 ^ a) (2 ^ b)
  generalize (2 ^ a : Nat) = pa at *
  generalize (2 ^ b : Nat) = pb at *
  have o1 := bits_or_nat pa pb (by omega) (by omega)
  have o2 := bits_or_nat m' (pa ||| pb) (by omega) (by omega)
  have o3 := bits_and_nat m' (pa ||| pb) (by omega) (by omega)
  rw [asc]
  simp only [impl_Net_reached.l1]
  unfold netOwn
  rw [if_pos hlt, he, r0, r1, s1, s2, o1, o2, o3]
  have e : (((m' &&& (pa ||| pb) : Nat) : Int) = 0) = (m'.testBit a = false ∧ m'.testBit b = false) := by
    rw [← hao]; exact propext (by omega)
  simp only [e]
theorem reachI_out (acc : Int → Bool) (l : List (List Int)) (hl : NetEdges l) (f : Nat) : ∀ (n m : Nat), 256 - m ≤ n → m.testBit f = true → Under (fun i => acc (i : Int)) l f m → m < 256 →
    ∃ c : Nat, Ev (fun k => impl_Net_reached.l1 k acc l m m 0) (c : Int) ∧ LeastSet (fun i => acc (i : Int)) l f c := by
  intro n
  induction n with
  | zero => intro m h _ _ h2; omega
  | succ n ih =>
    intro m hn hf hu hm
    have pass : ∀ (d i : Nat), i + d = l.length → ∀ (m' : Nat), m'.testBit f = true → Under (fun i => acc (i : Int)) l f m' → m' < 256 → m ≤ m' → (m' = m → ∀ j : Nat, j < i → acc (j : Int) = true → m.testBit (ea l j) = m.testBit (eb l j)) →
        ∃ c : Nat, Ev (fun k => impl_Net_reached.l1 k acc l m m' i) (c : Int) ∧ LeastSet (fun i => acc (i : Int)) l f c := by
      intro d
      induction d with
      | zero =>
        intro i hi m' hf' hu' hm' hle h0
        have st : ∀ k, impl_Net_reached.l1 (k + 1) acc l m m' i = impl_Net_reached.l0 k acc l m m' := fun k => by
          simp only [impl_Net_reached.l1]; rw [if_neg (by omega)]
        by_cases e : m' = m
        · have hc := h0 e
          subst e
          refine ⟨m', Ev.step st (Ev.step (f := fun _ => some _) (fun k => ?_) (Ev.now _)), hm', hf', fun j hj ha => hc j (by omega) ha, hu'⟩
          simp only [impl_Net_reached.l0]; rw [if_pos trivial]
        · obtain ⟨c, hc, hL⟩ := ih m' (by omega) hf' hu' hm'
          refine ⟨c, Ev.step st (Ev.step (fun k => ?_) hc), hL⟩
          simp only [impl_Net_reached.l0]; rw [if_neg (by omega)]
      | succ d ihd =>
        intro i hi m' hf' hu' hm' hle h0
        have hlt : i < l.length := by omega
        obtain ⟨he, ha, hb⟩ := edge_at hl hlt
        have step := fun k => stepI acc l m m' (ea l i) (eb l i) i k hm' ha hb hlt he
        by_cases hA : acc (i : Int) = true
        · by_cases hq : m'.testBit (ea l i) = false ∧ m'.testBit (eb l i) = false
          · obtain ⟨c, hc, hL⟩ := ihd (i + 1) (by omega) m' hf' hu' hm' hle (fun hm0 j hj hsj => by
              by_cases hji : j < i
              · exact h0 hm0 j hji hsj
              · obtain rfl : j = i := by omega
                rw [← hm0, hq.1, hq.2])
            exact ⟨c, Ev.step (fun k => by rw [step k, if_pos hA, if_pos hq]) hc, hL⟩
          · have hor : m'.testBit (ea l i) = true ∨ m'.testBit (eb l i) = true := by
              cases h3 : m'.testBit (ea l i) <;> cases h4 : m'.testBit (eb l i) <;> simp_all
            have hge := or2_le m' (ea l i) (eb l i)
            obtain ⟨c, hc, hL⟩ := ihd (i + 1) (by omega) ((m' ||| 2 ^ ea l i) ||| 2 ^ eb l i) (bit_mono_or m' (ea l i) (eb l i) f hf') (under_or hu' hlt hA hor) (or_lt (or_lt hm' (two_lt ha)) (two_lt hb)) (by omega) (fun hm0 j hj hsj => by
              have e : m' = m := by omega
              by_cases hji : j < i
              · exact h0 e j hji hsj
              · obtain rfl : j = i := by omega
                have h1 := bit_or2 m' (ea l j) (eb l j) (ea l j)
                have h2 := bit_or2 m' (ea l j) (eb l j) (eb l j)
                rw [hm0] at h1 h2
                rw [h1, h2]; simp)
            exact ⟨c, Ev.step (fun k => by rw [step k, if_pos hA, if_neg hq]) hc, hL⟩
        · obtain ⟨c, hc, hL⟩ := ihd (i + 1) (by omega) m' hf' hu' hm' hle (fun hm0 j hj hsj => by
              by_cases hji : j < i
              · exact h0 hm0 j hji hsj
              · obtain rfl : j = i := by omega
                exact absurd hsj hA)
          exact ⟨c, Ev.step (fun k => by rw [step k, if_neg hA]) hc, hL⟩
    obtain ⟨c, hc, hL⟩ := pass l.length 0 (by omega) m hf hu hm (Nat.le_refl _) (fun _ j hj => by omega)
    exact ⟨c, hc, hL⟩
theorem under_one (A : Nat → Bool) (l : List (List Int)) (f : Nat) : Under A l f (2 ^ f) := by
  intro M hM _ x hx
  rw [Nat.testBit_two_pow] at hx
  simp only [decide_eq_true_eq] at hx
  rw [← hx]; exact hM
theorem reachI_ev (acc : Int → Bool) (l : List (List Int)) (hl : NetEdges l) (f : Nat) (hf : f < 8) :
    ∃ c : Nat, Ev (fun k => impl_Net_reached.l0 k acc l 0 (shl .i64 1 (f : Int))) (c : Int) ∧ LeastSet (fun i => acc (i : Int)) l f c := by
  rw [shl_nat f (by omega)]
  have h2 := two_lt hf
  have hp : 0 < 2 ^ f := Nat.two_pow_pos f
  obtain ⟨c, hc, hL⟩ := reachI_out acc l hl f 256 (2 ^ f) (by omega) (by simp) (under_one _ l f) h2
  refine ⟨c, Ev.step (fun k => ?_) hc, hL⟩
  generalize (2 ^ f : Nat) = pf at *
  simp only [impl_Net_reached.l0]; rw [if_neg (by omega)]
theorem reachS_ev (p : Int) (l : List (List Int)) (hl : NetEdges l) (s f : Nat) (hs : s < 4611686018427387904) (hf : f < 8) :
    ∃ c : Nat, Ev (fun k => spec_l10Reached.f k p l s f) (c : Int) ∧ LeastSet (fun i => s.testBit i) l f c := by
  have h2 := two_lt hf
  obtain ⟨c, hc, hL⟩ := reachS_out p l hl s f hs 256 (2 ^ f) (Nat.sub_le _ _) (by simp) (under_one _ l f) h2
  refine ⟨c, Ev.congr (fun k => ?_) hc, hL⟩
  unfold spec_l10Reached.f
  rw [u64_nat f (by omega), if_pos (by omega), shl_nat f (by omega)]
-- needs: 61 (who wins a state, in plain words)
/-- A set that holds a point and is closed under the accepted edges. -/
def goodSet (A : Nat → Bool) (l : List (List Int)) (f M : Nat) : Bool := M.testBit f && (List.range l.length).all fun i => !A i || (M.testBit (ea l i) == M.testBit (eb l i))
theorem goodSet_iff (A : Nat → Bool) (l : List (List Int)) (f M : Nat) : goodSet A l f M = true ↔ (M.testBit f = true ∧ ClosedUnder A l M) := by
  unfold goodSet ClosedUnder
  rw [Bool.and_eq_true, List.all_eq_true]
  refine and_congr_right fun _ => ⟨fun h i hi hA => ?_, fun h i hi => ?_⟩
  · have := h i (List.mem_range.2 hi)
    rw [hA] at this
    simpa using this
  · cases hA : A i
    · rfl
    · simpa using h i (List.mem_range.1 hi) hA
/-- The least closed set: what all closed sets share. -/
def reachN (A : Nat → Bool) (l : List (List Int)) (f : Nat) : Nat := (List.range 256).foldl (fun acc M => if goodSet A l f M = true then acc &&& M else acc) 255
theorem fold_and_bit (g : Nat → Bool) (x : Nat) : ∀ (L : List Nat) (acc : Nat), (L.foldl (fun acc M => if g M = true then acc &&& M else acc) acc).testBit x = (acc.testBit x && L.all fun M => !g M || M.testBit x)
  | [], acc => by simp
  | M :: L, acc => by
    rw [List.foldl_cons, fold_and_bit g x L, List.all_cons]
    by_cases h : g M = true
    · rw [if_pos h, Nat.testBit_and, h]; simp [Bool.and_assoc]
    · rw [if_neg h, Bool.eq_false_iff.2 h]; simp
theorem reachN_eq {A : Nat → Bool} {l : List (List Int)} {f c : Nat} (h : LeastSet A l f c) : reachN A l f = c := by
  obtain ⟨h1, h2, h3, h4⟩ := h
  apply Nat.eq_of_testBit_eq
  intro x
  unfold reachN
  rw [fold_and_bit]
  cases hx : c.testBit x with
  | true =>
    have hx8 : x < 8 := by
      rcases Nat.lt_or_ge x 8 with h | h
      · exact h
      · have : c < 2 ^ x := Nat.lt_of_lt_of_le h1 (Nat.pow_le_pow_right (by omega) h : 2 ^ 8 ≤ 2 ^ x)
        rw [Nat.testBit_lt_two_pow this] at hx
        cases hx
    have e : (255 : Nat).testBit x = true := by
      have : x = 0 ∨ x = 1 ∨ x = 2 ∨ x = 3 ∨ x = 4 ∨ x = 5 ∨ x = 6 ∨ x = 7 := by omega
      rcases this with rfl | rfl | rfl | rfl | rfl | rfl | rfl | rfl <;> decide
    rw [e, Bool.true_and, List.all_eq_true]
    intro M hM
    cases hg : goodSet A l f M with
    | false => rfl
    | true =>
      obtain ⟨g1, g2⟩ := (goodSet_iff A l f M).1 hg
      simp [h4 M g1 g2 x hx]
  | false =>
    rw [Bool.and_eq_false_iff]
    right
    rw [List.all_eq_false]
    refine ⟨c, List.mem_range.2 h1, ?_⟩
    rw [(goodSet_iff A l f c).2 ⟨h2, h3⟩, hx]; simp
theorem reachN_is {l : List (List Int)} (hl : NetEdges l) (A : Nat → Bool) (f : Nat) (hf : f < 8) : LeastSet A l f (reachN A l f) := by
  have h : ∃ c, LeastSet A l f c := by
    obtain ⟨c, _, hc⟩ := reachI_ev (fun x => A x.toNat) l hl f hf
    exact ⟨c, hc.congr (fun i _ => by simp)⟩
  obtain ⟨c, hc⟩ := h
  rw [reachN_eq hc]; exact hc
theorem reachN_of {l : List (List Int)} (hl : NetEdges l) {A : Nat → Bool} {f c : Nat} (hf : f < 8) (h : LeastSet A l f c) : c = reachN A l f := h.eq (reachN_is hl A f hf)
theorem reachI_N (acc : Int → Bool) (l : List (List Int)) (hl : NetEdges l) (f : Nat) (hf : f < 8) :
    Ev (fun k => impl_Net_reached.l0 k acc l 0 (shl .i64 1 (f : Int))) (reachN (fun i => acc (i : Int)) l f : Int) := by
  obtain ⟨c, hc, hL⟩ := reachI_ev acc l hl f hf
  rw [← reachN_of hl hf hL]
  exact hc
/-- Who has won a state: 1 short, 2 cut, 0 none. -/
def ovV (l : List (List Int)) (s : ByteArray) : Int :=
  if (reachN (fun i => bt s (i : Int) == 115) l 0).testBit 1 = true then 1 else if (reachN (fun i => bt s (i : Int) != 99) l 0).testBit 1 = true then 0 else 2
def signV (b : Bool) : ByteArray := if b then ⟨#[115]⟩ else ⟨#[99]⟩
def afterV (s : ByteArray) (k : Int) (b : Bool) : ByteArray := s.extract 0 k.toNat ++ signV b ++ s.extract (k + 1).toNat s.size
def freeV (s : ByteArray) : List Int := chosenTo (fun k => bt s k == 46) s.size
def ownV (b : Bool) : Int := if b then 1 else 2
def netWinN (l : List (List Int)) : Nat → ByteArray → Bool → Int
  | 0, _, _ => 0
  | n + 1, s, b => if ovV l s = 0 then (if (freeV s).any (fun k => netWinN l n (afterV s k b) (!b) == ownV b) = true then ownV b else 3 - ownV b) else ovV l s
theorem mem_chosenTo {p : Int → Bool} : ∀ {n : Nat} {x : Int}, x ∈ chosenTo p n ↔ (0 ≤ x ∧ x < (n : Int) ∧ p x = true)
  | 0, x => by simp [chosenTo]; omega
  | n + 1, x => by
    have ih := mem_chosenTo (p := p) (n := n) (x := x)
    show x ∈ (if p n then chosenTo p n ++ [(n : Int)] else chosenTo p n) ↔ _
    by_cases h : p n = true
    · rw [if_pos h, List.mem_append, ih, List.mem_singleton]
      constructor
      · rintro (⟨h0, h1, h2⟩ | rfl)
        · exact ⟨h0, by omega, h2⟩
        · exact ⟨by omega, by omega, h⟩
      · rintro ⟨h0, h1, h2⟩
        by_cases e : x = n
        · exact .inr e
        · exact .inl ⟨h0, by omega, h2⟩
    · rw [if_neg h, ih]
      constructor
      · rintro ⟨h0, h1, h2⟩; exact ⟨h0, by omega, h2⟩
      · rintro ⟨h0, h1, h2⟩
        refine ⟨h0, ?_, h2⟩
        by_cases e : x = n
        · subst e; exact absurd h2 h
        · omega
theorem bt_get (s : ByteArray) (i : Nat) (h : i < s.size) : bt s (i : Int) = ((s[i]'h).toNat : Int) := by
  unfold bt
  rw [dif_pos (by simpa using h)]
  simp
theorem signV_size (b : Bool) : (signV b).size = 1 := by cases b <;> rfl
theorem afterV_size (s : ByteArray) (k : Nat) (b : Bool) (h : k < s.size) : (afterV s k b).size = s.size := by
  unfold afterV
  rw [ByteArray.size_append, ByteArray.size_append, ByteArray.size_extract, ByteArray.size_extract, signV_size]
  omega
theorem bt_data (s : ByteArray) (i : Nat) (h : i < s.size) : bt s (i : Int) = ((s.data.toList[i]'(by simpa using h)).toNat : Int) := by
  rw [bt_get s i h]; rfl
theorem afterV_list (s : ByteArray) (k : Nat) (b : Bool) : (afterV s k b).data.toList = s.data.toList.take k ++ (signV b).data.toList ++ s.data.toList.drop (k + 1) := by
  unfold afterV
  have e : ((k : Int) + 1).toNat = k + 1 := by omega
  rw [e, Int.toNat_natCast]
  simp [ByteArray.data_append, ByteArray.data_extract, Array.toList_extract, List.extract]
  rw [List.take_of_length_le (by simp)]
theorem afterV_bt (s : ByteArray) (k : Nat) (b : Bool) (h : k < s.size) (i : Nat) (hi : i < s.size) : bt (afterV s k b) (i : Int) = if i = k then (if b then 115 else 99) else bt s (i : Int) := by
  have hs := afterV_size s k b h
  have hl := afterV_list s k b
  have hsz : s.data.toList.length = s.size := by simp
  rw [bt_data _ i (by omega), bt_data s i hi]
  have hg : (signV b).data.toList = [if b then 115 else 99] := by cases b <;> rfl
  rw [hg] at hl
  have hget : (afterV s k b).data.toList[i]'(by have : (afterV s k b).data.toList.length = (afterV s k b).size := by simp
                                                omega) = (s.data.toList.take k ++ [if b then 115 else 99] ++ s.data.toList.drop (k + 1))[i]'(by rw [← hl]; have : (afterV s k b).data.toList.length = (afterV s k b).size := by simp
                                                                                                                                                omega) := by
    congr 1
  rw [hget]
  by_cases e : i = k
  · subst e
    rw [if_pos rfl, List.getElem_append_left (by simp; omega), List.getElem_append_right (by simp; omega)]
    cases b <;> simp
  · rw [if_neg e]
    rcases Nat.lt_or_ge i k with hlt | hge
    · rw [List.getElem_append_left (by simp; omega), List.getElem_append_left (by simp; omega), List.getElem_take]
    · rw [List.getElem_append_right (by simp; omega), List.getElem_drop]
      have e2 : k + 1 + (i - (s.data.toList.take k ++ [if b = true then 115 else 99]).length) = i := by
        rw [List.length_append, List.length_take, List.length_singleton, hsz]; omega
      simp only [e2]
theorem chosenTo_congr {p q : Int → Bool} : ∀ {n : Nat}, (∀ i : Nat, i < n → p i = q i) → chosenTo p n = chosenTo q n
  | 0, _ => rfl
  | n + 1, h => by
    show (if p n then chosenTo p n ++ [(n : Int)] else chosenTo p n) = (if q n then chosenTo q n ++ [(n : Int)] else chosenTo q n)
    rw [chosenTo_congr (fun i hi => h i (by omega)), h n (by omega)]
theorem chosenTo_less {p q : Int → Bool} (k : Nat) (hpk : p k = true) (hqk : q k = false) : ∀ {n : Nat}, (∀ i : Nat, i < n → i ≠ k → q i = p i) → k < n → (chosenTo q n).length < (chosenTo p n).length
  | 0, _, h => by omega
  | n + 1, he, h => by
    show (if q n then chosenTo q n ++ [(n : Int)] else chosenTo q n).length < (if p n then chosenTo p n ++ [(n : Int)] else chosenTo p n).length
    by_cases e : k = n
    · subst e
      rw [if_pos hpk, hqk, if_neg (by simp), chosenTo_congr (p := q) (q := p) (fun i hi => he i (by omega) (by omega))]
      simp
    · have ih := chosenTo_less k hpk hqk (n := n) (fun i hi hk => he i (by omega) hk) (by omega)
      rw [he n (by omega) (by omega)]
      by_cases c : p n = true
      · rw [if_pos c, if_pos c]; simpa using ih
      · rw [if_neg c, if_neg c]; exact ih
/-- A move fills an open edge. -/
theorem free_less (s : ByteArray) (k : Int) (b : Bool) (hk : k ∈ freeV s) : (freeV (afterV s k b)).length < (freeV s).length := by
  obtain ⟨h0, h1, h2⟩ := mem_chosenTo.1 hk
  obtain ⟨j, rfl⟩ : ∃ j : Nat, k = (j : Int) := ⟨k.toNat, by omega⟩
  have hj : j < s.size := by omega
  unfold freeV
  rw [afterV_size s j b hj]
  refine chosenTo_less (p := fun k => bt s k == 46) (q := fun k => bt (afterV s j b) k == 46) j h2 ?_ ?_ hj
  · show (bt (afterV s j b) (j : Int) == 46) = false
    rw [afterV_bt s j b hj j hj, if_pos rfl]; cases b <;> rfl
  · intro i hi hne
    show (bt (afterV s j b) (i : Int) == 46) = (bt s (i : Int) == 46)
    rw [afterV_bt s j b hj i hi, if_neg hne]
theorem any_congr_mem {α : Type} {l : List α} {p q : α → Bool} (h : ∀ x ∈ l, p x = q x) : l.any p = l.any q := by
  induction l with
  | nil => rfl
  | cons a l ih =>
    rw [List.any_cons, List.any_cons, h a (by simp), ih (fun x hx => h x (by simp [hx]))]
theorem netWinN_more (l : List (List Int)) : ∀ (n m : Nat) (s : ByteArray) (b : Bool), (freeV s).length < n → (freeV s).length < m → netWinN l n s b = netWinN l m s b
  | 0, _, _, _, h, _ => by omega
  | _, 0, _, _, _, h => by omega
  | n + 1, m + 1, s, b, h1, h2 => by
    unfold netWinN
    have e : (freeV s).any (fun k => netWinN l n (afterV s k b) (!b) == ownV b) = (freeV s).any (fun k => netWinN l m (afterV s k b) (!b) == ownV b) :=
      any_congr_mem fun k hk => by
        have := free_less s k b hk
        rw [netWinN_more l n m _ _ (by omega) (by omega)]
    rw [e]
def netWin (l : List (List Int)) (s : ByteArray) (b : Bool) : Int := netWinN l ((freeV s).length + 1) s b
/-- The winner, by what follows. -/
theorem netWin_eq (l : List (List Int)) (s : ByteArray) (b : Bool) : netWin l s b = if ovV l s = 0 then (if (freeV s).any (fun k => netWin l (afterV s k b) (!b) == ownV b) = true then ownV b else 3 - ownV b) else ovV l s := by
  show netWinN l ((freeV s).length + 1) s b = _
  rw [netWinN]
  have e : (freeV s).any (fun k => netWinN l (freeV s).length (afterV s k b) (!b) == ownV b) = (freeV s).any (fun k => netWin l (afterV s k b) (!b) == ownV b) :=
    any_congr_mem fun k hk => by
      have := free_less s k b hk
      rw [netWinN_more l _ ((freeV (afterV s k b)).length + 1) _ _ this (by omega)]; rfl
  rw [e]
theorem ovV_range (l : List (List Int)) (s : ByteArray) : 0 ≤ ovV l s ∧ ovV l s ≤ 2 := by
  unfold ovV
  split
  · omega
  · split <;> omega
theorem ownV_range (b : Bool) : 1 ≤ ownV b ∧ ownV b ≤ 2 := by cases b <;> decide
theorem netWin_range (l : List (List Int)) (s : ByteArray) (b : Bool) : 0 ≤ netWin l s b ∧ netWin l s b ≤ 2 := by
  have := ovV_range l s
  have := ownV_range b
  rw [netWin_eq]; split
  · split <;> omega
  · omega
theorem netWin_pos (l : List (List Int)) (s : ByteArray) (b : Bool) : 1 ≤ netWin l s b := by
  have := ovV_range l s
  have := ownV_range b
  rw [netWin_eq]; split
  · split <;> omega
  · omega
theorem net_edges_ok {l : List (List Int)} (h : NetEdges l) : ∀ e ∈ l, e.length = 2 ∧ 0 ≤ rd e 0 ∧ 0 ≤ rd e 1 := by
  intro e he
  obtain ⟨a, b, rfl, _, _⟩ := h.2 e he
  exact ⟨rfl, by show (0 : Int) ≤ (a : Int); omega, by show (0 : Int) ≤ (b : Int); omega⟩
/-! ### impl_Net_over: function 36 -/
-- EXTERNAL: by hand
-- impl_Net_reached impl_IsNet
def impl_Net_over.f (a0_0 : Int) (l0_1 : List (List Int)) (a1 : ByteArray) : Option Int := if isNetV a0_0 l0_1 = true ∧ a1.size = l0_1.length then some (ovV l0_1 a1) else none
set_option maxHeartbeats 2000000 in
set_option maxRecDepth 100000 in
theorem overPred1 (g : Nat)  (s : ByteArray) (w : World) (hbox : w.heap[g]? = some (.cells #[.string s] 9 (0, 0))) :
    PredD Tryd.prog 62 #[.pointer (some ⟨g, 0, none⟩)] (Kd.int .i64) (fun x => 0 ≤ x ∧ x < (s.size : Int)) (fun x => bt s x == 115) w := by
  intro W x v hq hK hb
  obtain ⟨h0, h1⟩ := hq
  obtain rfl : v = .int .i64 x := by simpa [Kd.int, Kd.scalar] using hK
  show Calls Tryd.prog 62 #[.int .i64 x, .pointer (some ⟨g, 0, none⟩)] W _
  have hc0 : W.cell? ⟨g, 0, none⟩ = some (.string s) := (blk_cell (blk_below hbox hb) 0).trans rfl
  have hx := bt_at s x
  have p := eq_true h0
  have q := eq_true h1
  clear hbox hb hK h0 h1
  go_enter Tryd.func62, Tryd.ntmps62
  go_wp2
  go_ret
  exact ⟨rfl, Drawn0.refl _⟩
set_option maxHeartbeats 2000000 in
set_option maxRecDepth 100000 in
theorem overPred2 (g : Nat)  (s : ByteArray) (w : World) (hbox : w.heap[g]? = some (.cells #[.string s] 9 (0, 0))) :
    PredD Tryd.prog 63 #[.pointer (some ⟨g, 0, none⟩)] (Kd.int .i64) (fun x => 0 ≤ x ∧ x < (s.size : Int)) (fun x => bt s x != 99) w := by
  intro W x v hq hK hb
  obtain ⟨h0, h1⟩ := hq
  obtain rfl : v = .int .i64 x := by simpa [Kd.int, Kd.scalar] using hK
  show Calls Tryd.prog 63 #[.int .i64 x, .pointer (some ⟨g, 0, none⟩)] W _
  have hc0 : W.cell? ⟨g, 0, none⟩ = some (.string s) := (blk_cell (blk_below hbox hb) 0).trans rfl
  have hx := bt_at s x
  have p := eq_true h0
  have q := eq_true h1
  clear hbox hb hK h0 h1
  go_enter Tryd.func63, Tryd.ntmps63
  go_wp2
  go_ret
  exact ⟨rfl, Drawn0.refl _⟩

theorem and_two (c : Nat) (h : c < 256) : Go.bits .and .i64 (c : Int) 2 = if c.testBit 1 = true then 2 else 0 := by
  have := bits_and_nat c 2 (by omega) (by omega)
  rw [show ((2 : Nat) : Int) = 2 from rfl] at this
  rw [this]
  have e : c &&& 2 = if c.testBit 1 = true then 2 else 0 := by
    apply Nat.eq_of_testBit_eq
    intro i
    rw [Nat.testBit_and, show (2 : Nat) = 2 ^ 1 from rfl, Nat.testBit_two_pow]
    by_cases hi : 1 = i
    · subst hi; cases hb : c.testBit 1
      · simp
      · rw [if_pos rfl]; rfl
    · cases hb : c.testBit 1
      · simp [hi]
      · rw [if_pos rfl, show (2 : Nat) = 2 ^ 1 from rfl, Nat.testBit_two_pow]; simp [hi]
  rw [e]; split <;> rfl
set_option maxHeartbeats 4000000 in
set_option maxRecDepth 100000 in
theorem impl_Net_over.calls (a0_0 : Int) (A0_1 : Option Addr) (c0_1 : Nat) (l0_1 : List (List Int)) (a1 : ByteArray) (r : Int) (w : World) (hr0_1 : Kd.C (Kd.slice 2 (Kd.int .i64)) w A0_1 l0_1.length l0_1) (hc0_1 : l0_1.length ≤ c0_1) (h : impl_Net_over.f a0_0 l0_1 a1 = some r) :
    Calls Tryd.prog 36 #[.agg #[.int .i64 a0_0, .slice A0_1 l0_1.length c0_1], .string a1] w fun e w' => e = .returned (.int .i64 r) ∧ Below w.heap.size w w' := by
  unfold impl_Net_over.f at h
  by_cases hv : isNetV a0_0 l0_1 = true ∧ a1.size = l0_1.length
  case neg => rw [if_neg hv] at h; cases h
  rw [if_pos hv] at h
  obtain rfl := Option.some.inj h
  clear h
  obtain ⟨hv, hsz⟩ := hv
  have hE := (netEdges hv).1
  have eg1 : ∀ args w, (callFunc 62 args).run Tryd.prog w = .ok (.enter 62 args) w := enters_of Tryd.func62 (by kernel_rfl) rfl
  have eg2 : ∀ args w, (callFunc 63 args).run Tryd.prog w = .ok (.enter 63 args) w := enters_of Tryd.func63 (by kernel_rfl) rfl
  have HB := Aside0.mk (Below.refl w.heap.size w)
  have HR := Aside0.mk hr0_1
  have HC0 := Aside0.mk hc0_1
  have HE := Aside0.mk (net_edges_ok hE)
  have hu := Tryd.underlying28
  obtain ⟨k1, hk1⟩ := (reachI_N (fun x => bt a1 x == 115) l0_1 hE 0 (by omega)).rounds
  obtain ⟨k2, hk2⟩ := (reachI_N (fun x => bt a1 x != 99) l0_1 hE 0 (by omega)).rounds
  have P1 := fun (W : World) (g : Nat) (hb : W.heap[g]? = some (.cells #[.string a1] 9 (0, 0))) => overPred1 g a1 W hb
  have P2 := fun (W : World) (g : Nat) (hb : W.heap[g]? = some (.cells #[.string a1] 9 (0, 0))) => overPred2 g a1 W hb
  rw [hsz] at P1 P2
  unfold ovV
  have b1 := (reachN_is hE (fun i => bt a1 (i : Int) == 115) 0 (by omega)).1
  have b2 := (reachN_is hE (fun i => bt a1 (i : Int) != 99) 0 (by omega)).1
  generalize reachN (fun i => bt a1 (i : Int) == 115) l0_1 0 = n1 at *
  generalize reachN (fun i => bt a1 (i : Int) != 99) l0_1 0 = n2 at *
  have t1 := and_two n1 b1
  have t2 := and_two n2 b2
  generalize n1.testBit 1 = q1 at t1 ⊢
  generalize n2.testBit 1 = q2 at t2 ⊢
  obtain ⟨r1, e1⟩ : ∃ r : Int, r = n1 := ⟨_, rfl⟩
  obtain ⟨r2, e2⟩ : ∃ r : Int, r = n2 := ⟨_, rfl⟩
  rw [← e1] at hk1 t1
  rw [← e2] at hk2 t2
  have HR1_ := Aside0.mk hk1
  have HR2_ := Aside0.mk hk2
  have tok1 : True := trivial
  have tok2 : True := trivial
  clear hv hsz hE hr0_1 hc0_1 hk1 hk2 b1 b2 e1 e2 n1 n2
  cases q1 with
  | true =>
    have z1 : (Go.bits .and .i64 r1 2 != 0) = true := by rw [t1]; rfl
    clear t1 t2
    go_enter Tryd.func36, Tryd.ntmps36
    go_wp2_with (first | ((with_reducible refine gate_dst (N := 2) rfl ?_); refine box_event ?hg (N := 2) ?hd (cs := #[.int .i64 a0_0, .slice A0_1 l0_1.length c0_1]) (t := 28) ?hr ?_; (case hd => rfl); (case hg => rfl); (case hr => first | (go_simp; done) | (go_simp; rfl)); intro g2 hg_ w_ hbox hb; have HX2 := Aside0.mk hbox; have HG2 := Aside0.mk (show w.heap.size ≤ g2 by have := below_size HB.out; omega); clear hbox hg_; have nHB_ := Aside0.mk (below_step HB.out hb); clear HB hb; have HB := nHB_; clear nHB_; have hc20 := (blk_cell HX2.out 0).trans rfl; have hc21 := (blk_cell HX2.out 1).trans rfl) | ((with_reducible refine gate_dst (N := 3) rfl ?_); refine box_event ?hg (N := 3) ?hd (cs := #[.string a1]) (t := 9) ?hr ?_; (case hd => rfl); (case hg => rfl); (case hr => first | (go_simp; done) | (go_simp; rfl)); intro g3 hg_ w_ hbox hb; have HX3 := Aside0.mk hbox; have HG3 := Aside0.mk (show w.heap.size ≤ g3 ∧ g2 ≠ g3 by have := below_size HB.out; have := blk_lt HX2.out; omega); (try clear hc20); (try clear hc21); clear hbox hg_; have nHB_ := Aside0.mk (below_step HB.out hb); have nHX2_ := Aside0.mk (blk_below HX2.out hb); clear HB HX2 hb; have HB := nHB_; have HX2 := nHX2_; clear nHB_ nHX2_; have hc20 := (blk_cell HX2.out 0).trans rfl; have hc21 := (blk_cell HX2.out 1).trans rfl; have hc30 := (blk_cell HX3.out 0).trans rfl) | (go_at_call 61; have _t := tok1; refine (impl_Net_reached.calls 62 #[.pointer (some ⟨g3, 0, none⟩)] _ eg1 k1 a0_0 A0_1 c0_1 l0_1 0 r1 _ (PredD.toK (P1 _ _ HX3.out)) (Kd.C_below HR.out HB.out) HC0.out HE.out (by omega) HR1_.out).mono ?_; rintro e w_ ⟨rfl, hb⟩; (try clear hc20); (try clear hc21); (try clear hc30); have nHB_ := Aside0.mk (below_step HB.out hb); have nHX2_ := Aside0.mk (blk_below HX2.out hb); have nHX3_ := Aside0.mk (blk_below HX3.out hb); clear HB HX2 HX3 hb; have HB := nHB_; have HX2 := nHX2_; have HX3 := nHX3_; clear nHB_ nHX2_ nHX3_; have hc20 := (blk_cell HX2.out 0).trans rfl; have hc21 := (blk_cell HX2.out 1).trans rfl; have hc30 := (blk_cell HX3.out 0).trans rfl; (try clear tok1)))
    go_ret
    exact ⟨rfl, HB.out⟩
  | false =>
    have z1 : (Go.bits .and .i64 r1 2 != 0) = false := by rw [t1]; rfl
    cases q2 with
    | true =>
      have z2 : (Go.bits .and .i64 r2 2 == 0) = false := by rw [t2]; rfl
      clear t1 t2
      go_enter Tryd.func36, Tryd.ntmps36
      go_wp2_with (first | ((with_reducible refine gate_dst (N := 2) rfl ?_); refine box_event ?hg (N := 2) ?hd (cs := #[.int .i64 a0_0, .slice A0_1 l0_1.length c0_1]) (t := 28) ?hr ?_; (case hd => rfl); (case hg => rfl); (case hr => first | (go_simp; done) | (go_simp; rfl)); intro g2 hg_ w_ hbox hb; have HX2 := Aside0.mk hbox; have HG2 := Aside0.mk (show w.heap.size ≤ g2 by have := below_size HB.out; omega); clear hbox hg_; have nHB_ := Aside0.mk (below_step HB.out hb); clear HB hb; have HB := nHB_; clear nHB_; have hc20 := (blk_cell HX2.out 0).trans rfl; have hc21 := (blk_cell HX2.out 1).trans rfl) | ((with_reducible refine gate_dst (N := 3) rfl ?_); refine box_event ?hg (N := 3) ?hd (cs := #[.string a1]) (t := 9) ?hr ?_; (case hd => rfl); (case hg => rfl); (case hr => first | (go_simp; done) | (go_simp; rfl)); intro g3 hg_ w_ hbox hb; have HX3 := Aside0.mk hbox; have HG3 := Aside0.mk (show w.heap.size ≤ g3 ∧ g2 ≠ g3 by have := below_size HB.out; have := blk_lt HX2.out; omega); (try clear hc20); (try clear hc21); clear hbox hg_; have nHB_ := Aside0.mk (below_step HB.out hb); have nHX2_ := Aside0.mk (blk_below HX2.out hb); clear HB HX2 hb; have HB := nHB_; have HX2 := nHX2_; clear nHB_ nHX2_; have hc20 := (blk_cell HX2.out 0).trans rfl; have hc21 := (blk_cell HX2.out 1).trans rfl; have hc30 := (blk_cell HX3.out 0).trans rfl) | (go_at_call 61; have _t := tok1; refine (impl_Net_reached.calls 62 #[.pointer (some ⟨g3, 0, none⟩)] _ eg1 k1 a0_0 A0_1 c0_1 l0_1 0 r1 _ (PredD.toK (P1 _ _ HX3.out)) (Kd.C_below HR.out HB.out) HC0.out HE.out (by omega) HR1_.out).mono ?_; rintro e w_ ⟨rfl, hb⟩; (try clear hc20); (try clear hc21); (try clear hc30); have nHB_ := Aside0.mk (below_step HB.out hb); have nHX2_ := Aside0.mk (blk_below HX2.out hb); have nHX3_ := Aside0.mk (blk_below HX3.out hb); clear HB HX2 HX3 hb; have HB := nHB_; have HX2 := nHX2_; have HX3 := nHX3_; clear nHB_ nHX2_ nHX3_; have hc20 := (blk_cell HX2.out 0).trans rfl; have hc21 := (blk_cell HX2.out 1).trans rfl; have hc30 := (blk_cell HX3.out 0).trans rfl; (try clear tok1)) | (go_at_call 61; have _t := tok2; refine (impl_Net_reached.calls 63 #[.pointer (some ⟨g3, 0, none⟩)] _ eg2 k2 a0_0 A0_1 c0_1 l0_1 0 r2 _ (PredD.toK (P2 _ _ HX3.out)) (Kd.C_below HR.out HB.out) HC0.out HE.out (by omega) HR2_.out).mono ?_; rintro e w_ ⟨rfl, hb⟩; (try clear hc20); (try clear hc21); (try clear hc30); have nHB_ := Aside0.mk (below_step HB.out hb); have nHX2_ := Aside0.mk (blk_below HX2.out hb); have nHX3_ := Aside0.mk (blk_below HX3.out hb); clear HB HX2 HX3 hb; have HB := nHB_; have HX2 := nHX2_; have HX3 := nHX3_; clear nHB_ nHX2_ nHX3_; have hc20 := (blk_cell HX2.out 0).trans rfl; have hc21 := (blk_cell HX2.out 1).trans rfl; have hc30 := (blk_cell HX3.out 0).trans rfl; (try clear tok2)))
      go_ret
      exact ⟨rfl, HB.out⟩
    | false =>
      have z2 : (Go.bits .and .i64 r2 2 == 0) = true := by rw [t2]; rfl
      clear t1 t2
      go_enter Tryd.func36, Tryd.ntmps36
      go_wp2_with (first | ((with_reducible refine gate_dst (N := 2) rfl ?_); refine box_event ?hg (N := 2) ?hd (cs := #[.int .i64 a0_0, .slice A0_1 l0_1.length c0_1]) (t := 28) ?hr ?_; (case hd => rfl); (case hg => rfl); (case hr => first | (go_simp; done) | (go_simp; rfl)); intro g2 hg_ w_ hbox hb; have HX2 := Aside0.mk hbox; have HG2 := Aside0.mk (show w.heap.size ≤ g2 by have := below_size HB.out; omega); clear hbox hg_; have nHB_ := Aside0.mk (below_step HB.out hb); clear HB hb; have HB := nHB_; clear nHB_; have hc20 := (blk_cell HX2.out 0).trans rfl; have hc21 := (blk_cell HX2.out 1).trans rfl) | ((with_reducible refine gate_dst (N := 3) rfl ?_); refine box_event ?hg (N := 3) ?hd (cs := #[.string a1]) (t := 9) ?hr ?_; (case hd => rfl); (case hg => rfl); (case hr => first | (go_simp; done) | (go_simp; rfl)); intro g3 hg_ w_ hbox hb; have HX3 := Aside0.mk hbox; have HG3 := Aside0.mk (show w.heap.size ≤ g3 ∧ g2 ≠ g3 by have := below_size HB.out; have := blk_lt HX2.out; omega); (try clear hc20); (try clear hc21); clear hbox hg_; have nHB_ := Aside0.mk (below_step HB.out hb); have nHX2_ := Aside0.mk (blk_below HX2.out hb); clear HB HX2 hb; have HB := nHB_; have HX2 := nHX2_; clear nHB_ nHX2_; have hc20 := (blk_cell HX2.out 0).trans rfl; have hc21 := (blk_cell HX2.out 1).trans rfl; have hc30 := (blk_cell HX3.out 0).trans rfl) | (go_at_call 61; have _t := tok1; refine (impl_Net_reached.calls 62 #[.pointer (some ⟨g3, 0, none⟩)] _ eg1 k1 a0_0 A0_1 c0_1 l0_1 0 r1 _ (PredD.toK (P1 _ _ HX3.out)) (Kd.C_below HR.out HB.out) HC0.out HE.out (by omega) HR1_.out).mono ?_; rintro e w_ ⟨rfl, hb⟩; (try clear hc20); (try clear hc21); (try clear hc30); have nHB_ := Aside0.mk (below_step HB.out hb); have nHX2_ := Aside0.mk (blk_below HX2.out hb); have nHX3_ := Aside0.mk (blk_below HX3.out hb); clear HB HX2 HX3 hb; have HB := nHB_; have HX2 := nHX2_; have HX3 := nHX3_; clear nHB_ nHX2_ nHX3_; have hc20 := (blk_cell HX2.out 0).trans rfl; have hc21 := (blk_cell HX2.out 1).trans rfl; have hc30 := (blk_cell HX3.out 0).trans rfl; (try clear tok1)) | (go_at_call 61; have _t := tok2; refine (impl_Net_reached.calls 63 #[.pointer (some ⟨g3, 0, none⟩)] _ eg2 k2 a0_0 A0_1 c0_1 l0_1 0 r2 _ (PredD.toK (P2 _ _ HX3.out)) (Kd.C_below HR.out HB.out) HC0.out HE.out (by omega) HR2_.out).mono ?_; rintro e w_ ⟨rfl, hb⟩; (try clear hc20); (try clear hc21); (try clear hc30); have nHB_ := Aside0.mk (below_step HB.out hb); have nHX2_ := Aside0.mk (blk_below HX2.out hb); have nHX3_ := Aside0.mk (blk_below HX3.out hb); clear HB HX2 HX3 hb; have HB := nHB_; have HX2 := nHX2_; have HX3 := nHX3_; clear nHB_ nHX2_ nHX3_; have hc20 := (blk_cell HX2.out 0).trans rfl; have hc21 := (blk_cell HX2.out 1).trans rfl; have hc30 := (blk_cell HX3.out 0).trans rfl; (try clear tok2)))
      go_ret
      exact ⟨rfl, HB.out⟩
/-! ### impl_StateOver: function 12 -/
def impl_StateOver.f (k : Nat) (a0_0 : Int) (l0_1 : List (List Int)) (a1 : ByteArray) : Option (Int × Int) := (impl_stateOfCode.f k a0_0 l0_1 a1).bind fun t190 => (if t190 = 0 then ((impl_Net_over.f a0_0 l0_1 a1).bind fun t191 => (some (t191, 0))) else (some (0, t190)))
theorem impl_StateOver.mono : ∀ a0 a1 a2 k, LeO (impl_StateOver.f k a0 a1 a2) (impl_StateOver.f (k + 1) a0 a1 a2) := by
 intro a0 a1 a2 k
 unfold impl_StateOver.f
 repeat' first
   | (with_reducible exact impl_stateOfCode.mono _ _ _ _)
   | (with_reducible exact LeO.refl _)
   | (with_reducible exact LeO.none _)
   | (with_reducible refine LeO.ite ?_ ?_)
   | (with_reducible refine LeO.bind ?_ (fun _ => ?_))
   | exact impl_stateOfCode.mono _ _ _ _
   | exact LeO.none _
   | refine LeO.ite ?_ ?_
   | refine LeO.bind ?_ (fun _ => ?_)
set_option maxHeartbeats 8000000 in
set_option maxRecDepth 100000 in
theorem impl_StateOver.calls (k : Nat) (a0_0 : Int) (A0_1 : Option Addr) (c0_1 : Nat) (l0_1 : List (List Int)) (a1 : ByteArray) (r1 : Int) (r2 : Int) (w : World) (hr0_1 : Kd.C (Kd.slice 2 (Kd.int .i64)) w A0_1 l0_1.length l0_1) (hc0_1 : l0_1.length ≤ c0_1) (h : impl_StateOver.f k a0_0 l0_1 a1 = some (r1, r2)) :
  Calls Tryd.prog 12 #[.agg #[.int .i64 a0_0, .slice A0_1 l0_1.length c0_1], .string a1] w fun e w' => e = .returned (.tuple #[.int .i64 r1, .int .i64 r2]) ∧ Below w.heap.size w w' := by
 have hu28 := Tryd.underlying28
 have HR0_1 := Aside0.mk hr0_1
 have HC0_1 := Aside0.mk hc0_1
 clear hr0_1 hc0_1
 have HB := Aside0.mk (Below.refl w.heap.size w)
 have H : ((impl_stateOfCode.f k a0_0 l0_1 a1).bind fun t190 => (if t190 = 0 then ((impl_Net_over.f a0_0 l0_1 a1).bind fun t191 => (some (t191, 0))) else (some (0, t190)))) = some (r1, r2) := h
 clear h
 replace H := Option.bind_eq_some_iff.mp H
 obtain ⟨t190, A30, H⟩ := H
 replace H : (if t190 = 0 then ((impl_Net_over.f a0_0 l0_1 a1).bind fun t191 => (some (t191, 0))) else (some (0, t190))) = some (r1, r2) := H
 have A3 := Aside0.mk A30
 clear A30
 by_cases c4 : t190 = 0
 ·rw [if_pos c4] at H
  have c4b0 : (t190 == 0) = true := beq_iff_eq.mpr c4
  have c4b1 : (t190 != 0) = false := bne_eq_false_iff_eq.mpr c4
  clear c4
  replace H := Option.bind_eq_some_iff.mp H
  obtain ⟨t191, A50, H⟩ := H
  replace H : (some (t191, 0)) = some (r1, r2) := H
  have A5 := Aside0.mk A50
  clear A50
  simp only [Option.some.injEq, Prod.mk.injEq] at H
  obtain ⟨rfl, rfl⟩ := H
  go_enter Tryd.func12, Tryd.ntmps12
  go_wp2_with (first | ((with_reducible refine gate_dst (N := 2) rfl ?_); refine box_event ?hg (N := 2) ?hd (cs := #[.int .i64 a0_0, .slice A0_1 l0_1.length c0_1]) (t := 28) ?hr ?_; (case hd => rfl); (case hg => rfl); (case hr => first | (go_simp; done) | (go_simp; rfl)); intro gb189 hg w6 hbox hb; have n0_ := Aside0.mk (below_step (by repeat (first | (with_reducible first | exact HB.out | apply below_alloc | apply pw_below_drewN | apply below_drew1) | exact HB.out)) hb); have n1_ := Aside0.mk (hbox); have n2_ := Aside0.mk ((by rw [hg]; exact (below_size (by repeat (first | (with_reducible first | exact HB.out | apply below_alloc | apply pw_below_drewN | apply below_drew1) | exact HB.out))) : w.heap.size ≤ gb189)); have n3_ := Aside0.mk ((by rw [hg]; exact (below_size (by repeat (first | (with_reducible first | exact HB.out | apply below_alloc | apply pw_below_drewN | apply below_drew1) | exact HB.out))) : w.heap.size ≤ gb189)); clear HB; have HB := n0_; have BK189 := n1_; have GW189 := n2_; have GE189 := n3_; clear n0_ n1_ n2_ n3_; clear hb hbox hg; have hcz7_0 : w6.cell? ⟨gb189, 0, none⟩ = some (.int .i64 a0_0) := (blk_cell BK189.out 0).trans rfl; have hcz7_1 : w6.cell? ⟨gb189, 1, none⟩ = some (.slice A0_1 l0_1.length c0_1) := (blk_cell BK189.out 1).trans rfl; have hfz7_0 := blk_frozen BK189.out 0; have hfz7_1 := blk_frozen BK189.out 1) | ((with_reducible refine gate_callee (f := 35) rfl ?_); refine goesL_ (some 9) rfl rfl Tryd.func35 (by kernel_rfl) rfl #[.agg #[.int .i64 a0_0, .slice A0_1 l0_1.length c0_1], .string a1] rfl (by (try simp only [List.map_toArray, List.map_cons, List.map_nil]); first | done | rfl | (simp only [List.length_drop, List.length_take]; rfl)) ?_; (with_reducible refine (impl_stateOfCode.calls k a0_0 _ _ l0_1 a1 t190 _ ?side1 ?side2 A3.out).mono ?_); (case side1 => repeat (first | exact (Kd.C_below HR0_1.out HB.out) | (with_reducible refine Kd.C_alloc ?_ _) | (with_reducible refine Kd.C_drewN ?_ _) | (with_reducible refine Kd.C_drew ?_))); (case side2 => exact HC0_1.out); rintro e w8 ⟨rfl, hb⟩; refine ⟨_, rfl, ?_⟩; have n0_ := Aside0.mk (blk_below (g := gb189) (o := .cells #[.int .i64 a0_0, .slice A0_1 l0_1.length c0_1] 28 (0, 0)) (by (with_reducible repeat (first | refine blk_drewN ?_ _ | refine blk_drew ?_ | refine blk_alloc ?_ _)); exact BK189.out) hb); have n1_ := Aside0.mk (below_step (by repeat (first | (with_reducible first | exact HB.out | apply below_alloc | apply pw_below_drewN | apply below_drew1 | refine below_set ?_ GE189.out) | exact HB.out)) hb); clear BK189; clear HB; have BK189 := n0_; have HB := n1_; clear n0_ n1_; (try clear hb); (try clear hb2); (try clear hk); (try clear hi); have hcz9_0 : w8.cell? ⟨gb189, 0, none⟩ = some (.int .i64 a0_0) := (blk_cell BK189.out 0).trans rfl; have hcz9_1 : w8.cell? ⟨gb189, 1, none⟩ = some (.slice A0_1 l0_1.length c0_1) := (blk_cell BK189.out 1).trans rfl; have hfz9_0 := blk_frozen BK189.out 0; have hfz9_1 := blk_frozen BK189.out 1) | ((with_reducible refine gate_callee (f := 36) rfl ?_); refine goesL_ (some 15) rfl rfl Tryd.func36 (by kernel_rfl) rfl #[.agg #[.int .i64 a0_0, .slice A0_1 l0_1.length c0_1], .string a1] rfl (by (try simp only [List.map_toArray, List.map_cons, List.map_nil]); first | done | rfl | (simp only [List.length_drop, List.length_take]; rfl)) ?_; (with_reducible refine (impl_Net_over.calls a0_0 _ _ l0_1 a1 t191 _ ?side1 ?side2 A5.out).mono ?_); (case side1 => repeat (first | exact (Kd.C_below HR0_1.out HB.out) | (with_reducible refine Kd.C_alloc ?_ _) | (with_reducible refine Kd.C_drewN ?_ _) | (with_reducible refine Kd.C_drew ?_))); (case side2 => exact HC0_1.out); rintro e w10 ⟨rfl, hb⟩; refine ⟨_, rfl, ?_⟩; have n0_ := Aside0.mk (blk_below (g := gb189) (o := .cells #[.int .i64 a0_0, .slice A0_1 l0_1.length c0_1] 28 (0, 0)) (by (with_reducible repeat (first | refine blk_drewN ?_ _ | refine blk_drew ?_ | refine blk_alloc ?_ _)); exact BK189.out) hb); have n1_ := Aside0.mk (below_step (by repeat (first | (with_reducible first | exact HB.out | apply below_alloc | apply pw_below_drewN | apply below_drew1 | refine below_set ?_ GE189.out) | exact HB.out)) hb); clear BK189; clear HB; have BK189 := n0_; have HB := n1_; clear n0_ n1_; (try clear hb); (try clear hb2); (try clear hk); (try clear hi)))
  go_ret2
  exact ⟨by first | rfl | (simp [errW_none, errW_some] <;> rfl) | (simp [*, errW_none, errW_some] <;> rfl), by repeat (first | (with_reducible first | exact HB.out | apply below_alloc | apply pw_below_drewN | apply below_drew1 | refine below_set ?_ GE189.out) | exact HB.out)⟩
 ·rw [if_neg c4] at H
  have c4b0 : (t190 == 0) = false := beq_eq_false_iff_ne.mpr c4
  have c4b1 : (t190 != 0) = true := bne_iff_ne.mpr c4
  simp only [Option.some.injEq, Prod.mk.injEq] at H
  obtain ⟨rfl, rfl⟩ := H
  go_enter Tryd.func12, Tryd.ntmps12
  go_wp2_with (first | ((with_reducible refine gate_dst (N := 2) rfl ?_); refine box_event ?hg (N := 2) ?hd (cs := #[.int .i64 a0_0, .slice A0_1 l0_1.length c0_1]) (t := 28) ?hr ?_; (case hd => rfl); (case hg => rfl); (case hr => first | (go_simp; done) | (go_simp; rfl)); intro gb189 hg w11 hbox hb; have n0_ := Aside0.mk (below_step (by repeat (first | (with_reducible first | exact HB.out | apply below_alloc | apply pw_below_drewN | apply below_drew1) | exact HB.out)) hb); have n1_ := Aside0.mk (hbox); have n2_ := Aside0.mk ((by rw [hg]; exact (below_size (by repeat (first | (with_reducible first | exact HB.out | apply below_alloc | apply pw_below_drewN | apply below_drew1) | exact HB.out))) : w.heap.size ≤ gb189)); have n3_ := Aside0.mk ((by rw [hg]; exact (below_size (by repeat (first | (with_reducible first | exact HB.out | apply below_alloc | apply pw_below_drewN | apply below_drew1) | exact HB.out))) : w.heap.size ≤ gb189)); clear HB; have HB := n0_; have BK189 := n1_; have GW189 := n2_; have GE189 := n3_; clear n0_ n1_ n2_ n3_; clear hb hbox hg; have hcz12_0 : w11.cell? ⟨gb189, 0, none⟩ = some (.int .i64 a0_0) := (blk_cell BK189.out 0).trans rfl; have hcz12_1 : w11.cell? ⟨gb189, 1, none⟩ = some (.slice A0_1 l0_1.length c0_1) := (blk_cell BK189.out 1).trans rfl; have hfz12_0 := blk_frozen BK189.out 0; have hfz12_1 := blk_frozen BK189.out 1) | ((with_reducible refine gate_callee (f := 35) rfl ?_); refine goesL_ (some 9) rfl rfl Tryd.func35 (by kernel_rfl) rfl #[.agg #[.int .i64 a0_0, .slice A0_1 l0_1.length c0_1], .string a1] rfl (by (try simp only [List.map_toArray, List.map_cons, List.map_nil]); first | done | rfl | (simp only [List.length_drop, List.length_take]; rfl)) ?_; (with_reducible refine (impl_stateOfCode.calls k a0_0 _ _ l0_1 a1 t190 _ ?side1 ?side2 A3.out).mono ?_); (case side1 => repeat (first | exact (Kd.C_below HR0_1.out HB.out) | (with_reducible refine Kd.C_alloc ?_ _) | (with_reducible refine Kd.C_drewN ?_ _) | (with_reducible refine Kd.C_drew ?_))); (case side2 => exact HC0_1.out); rintro e w13 ⟨rfl, hb⟩; refine ⟨_, rfl, ?_⟩; have n0_ := Aside0.mk (blk_below (g := gb189) (o := .cells #[.int .i64 a0_0, .slice A0_1 l0_1.length c0_1] 28 (0, 0)) (by (with_reducible repeat (first | refine blk_drewN ?_ _ | refine blk_drew ?_ | refine blk_alloc ?_ _)); exact BK189.out) hb); have n1_ := Aside0.mk (below_step (by repeat (first | (with_reducible first | exact HB.out | apply below_alloc | apply pw_below_drewN | apply below_drew1 | refine below_set ?_ GE189.out) | exact HB.out)) hb); clear BK189; clear HB; have BK189 := n0_; have HB := n1_; clear n0_ n1_; (try clear hb); (try clear hb2); (try clear hk); (try clear hi)))
  go_ret2
  exact ⟨by first | rfl | (simp [errW_none, errW_some] <;> rfl) | (simp [*, errW_none, errW_some] <;> rfl), by repeat (first | (with_reducible first | exact HB.out | apply below_alloc | apply pw_below_drewN | apply below_drew1 | refine below_set ?_ GE189.out) | exact HB.out)⟩
-- Rows of rows of whole numbers that are handed to what writes them.
/-- The blocks that a row of rows (elements of type e) may lead to. -/
def ownS {α : Type} (d : Kd α) (e : Nat) (w : World) (ok : Nat → Prop) (k : Nat) : Prop := ok k ∧ k < w.heap.size ∧ ∃ q, q ∈ e :: d.E ∧ ∃ cells, w.heap[k]? = some (.cells cells q (0, 0))
theorem S_ownS {α : Type} {d : Kd α} {e base : Nat} {w : World} {ok : Nat → Prop} {v : Value} {xs : List α} (h : Kd.S d e w base ok v xs) : Kd.S d e w base (ownS d e w ok) v xs := Kd.S_mono (Kd.S_bound h) (fun _ hk => ⟨hk.1, hk.2.2.1, hk.2.2.2⟩)
theorem ownS_not {α : Type} {d : Kd α} {e k t : Nat} {w : World} {ok : Nat → Prop} {cs : Array Value} {fr : Nat × Nat} (h : ownS d e w ok k) (hb : w.heap[k]? = some (.cells cs t fr)) (ht : ∀ q, q ∈ e :: d.E → q ≠ t) : False := by
  obtain ⟨_, _, q, hq, cells, hc⟩ := h
  rw [hb] at hc
  injection hc with hc
  injection hc with _ hc
  exact ht q hq hc.symm
theorem ownS_typed {α : Type} {d : Kd α} {e k t : Nat} {w : World} {ok : Nat → Prop} {v : Value} (h : ownS d e w ok k) (hty : ∀ j, v.ownBlock = some j → ∃ cells, w.heap[j]? = some (.cells cells t (0, 0))) (ht : ∀ q, q ∈ e :: d.E → q ≠ t) : some k ≠ v.ownBlock := by
  intro e_
  obtain ⟨cells, hc⟩ := hty k e_.symm
  exact ownS_not h hc ht
theorem S_ltN {α : Type} {d : Kd α} {e base n : Nat} {w : World} {ok : Nat → Prop} {v : Value} {xs : List α} (h : Kd.S d e w base ok v xs) (hn : n = w.heap.size) : Kd.S d e w base (fun k => ok k ∧ k < n) v xs := Kd.S_mono (Kd.S_bound h) (fun _ hk => ⟨hk.1, by rw [hn]; exact hk.2.2.1⟩)
theorem S_geN {α : Type} {d : Kd α} {e n base : Nat} {w : World} {ok : Nat → Prop} {v : Value} {xs : List α} (h : Kd.S d e w base ok v xs) (hn : n = base) : Kd.S d e w base (fun k => ok k ∧ n ≤ k) v xs := Kd.S_mono (Kd.S_bound h) (fun _ hk => ⟨hk.1, by rw [hn]; exact hk.2.1⟩)
/-- Row i of a row of rows, lent to what writes it. -/
theorem S_lend_row {T e base g n cap : Nat} {W : World} {ok : Nat → Prop} {xs : List (List Int)} {i : Int} (h : Kd.S (Kd.slice T (Kd.int .i64)) e W base ok (.slice (some ⟨g, 0, none⟩) n cap) xs) (h0 : 0 ≤ i) (h1 : i < n) :
    ∃ (oki : Nat → Prop) (u : Value), Kd.R (Kd.int .i64) T W base oki u (xs.getD i.toNat []) ∧ W.cell? ⟨g, i.toNat, none⟩ = some u ∧ W.frozen? ⟨g, i.toNat, none⟩ = false ∧ (∀ k, oki k → ok k) ∧
      ∀ {W1 : World} {ok1 : Nat → Prop} {x' : List Int}, Kept W W1 oki → Kd.R (Kd.int .i64) T W1 base ok1 u x' → Kd.S (Kd.slice T (Kd.int .i64)) e W1 base ok (.slice (some ⟨g, 0, none⟩) n cap) (xs.set i.toNat x') := by
  obtain ⟨oki, c, hcl, hM, hcc, hfr, hoki, hH⟩ := Kd.S_elem h [] i h0 h1
  obtain ⟨u, rfl, hR⟩ := hM
  have hz : (Kd.slice T (Kd.int .i64)).sz = 1 := rfl
  refine ⟨oki, u, hR, ?_, ?_, fun k hk => (hoki k hk).1, fun hk h1 => ?_⟩
  · have := hcc 0 u rfl
    rw [hz, Nat.mul_one, Nat.add_zero] at this
    exact this
  · have := hfr 0
    rw [hz, Nat.mul_one, Nat.add_zero] at this
    exact this
  · exact Kd.H_back (Kd.H_step hH (fun k ho hn hlt => hk.2 k hlt hn)) (Kd.M_row (Kd.R_reok rfl h1 (fun k e_ => hR.1 k e_))) (fun _ hk => hk)
theorem nq_of {W w1 : World} (_hb : Below W.heap.size W w1) : ∃ n : Nat, n = W.heap.size := ⟨_, rfl⟩
/-! ### laws_FnExactStateOver: function 3 -/
def laws_FnExactStateOver.j0 : Nat → Bool → Int → List (List Int) → Int → List (List Int) → Option (Bool)
 | 0, _, _, _, _, _ => none
 | k + 1, x41, x201000, x201001, x213000, x213001 => if x41 = true then (some false) else ((laws_toNet.f k x201000 x201001).bind fun bt215 => ((laws_eqNet.f k x213000 x213001 bt215.1 bt215.2).bind fun t219 => (if t219 = true then (some true) else (some false))))
def laws_FnExactStateOver.f (k : Nat) (a0_0 : Int) (l0_1 : List (List Int)) (a1 : ByteArray) : Option (Bool) := if (a1.size : Int) > 1048576 then (some true) else ((laws_szNet.f k a0_0 l0_1 1048576).bind fun t201 => (if t201 < 0 then (some true) else ((laws_toNet.f k a0_0 l0_1).bind fun bt202 => ((spec_StateOver.f k bt202.1 bt202.2 a1).bind fun bt206 => ((laws_toNet.f k a0_0 l0_1).bind fun bt208 => ((impl_StateOver.f k bt208.1 bt208.2 a1).bind fun bt213 => (if bt213.1 = bt206.1 then (laws_FnExactStateOver.j0 k (bt213.2 != bt206.2) a0_0 l0_1 bt208.1 bt208.2) else (laws_FnExactStateOver.j0 k true a0_0 l0_1 bt208.1 bt208.2))))))))
theorem laws_FnExactStateOver.mono_l : ∀ k, (∀ y0 y1 y2 y3 y4, LeO (laws_FnExactStateOver.j0 k y0 y1 y2 y3 y4) (laws_FnExactStateOver.j0 (k + 1) y0 y1 y2 y3 y4))
 | 0 => fun _ _ _ _ _ r h => by simp [laws_FnExactStateOver.j0] at h
 | k + 1 => by
  have ih0 := laws_FnExactStateOver.mono_l k
  ·intro y0 y1 y2 y3 y4
   unfold laws_FnExactStateOver.j0
   repeat' first
   | (with_reducible exact ih0 _ _ _ _ _)
   | (with_reducible exact impl_StateOver.mono _ _ _ _)
   | (with_reducible exact laws_eqNet.mono _ _ _ _ _)
   | (with_reducible exact laws_szNet.mono _ _ _ _)
   | (with_reducible exact laws_toNet.mono _ _ _)
   | (with_reducible exact spec_StateOver.mono _ _ _ _)
   | (with_reducible exact LeO.refl _)
   | (with_reducible exact LeO.none _)
   | (with_reducible refine LeO.ite ?_ ?_)
   | (with_reducible refine LeO.bind ?_ (fun _ => ?_))
   | exact ih0 _ _ _ _ _
   | exact impl_StateOver.mono _ _ _ _
   | exact laws_eqNet.mono _ _ _ _ _
   | exact laws_szNet.mono _ _ _ _
   | exact laws_toNet.mono _ _ _
   | exact spec_StateOver.mono _ _ _ _
   | exact LeO.none _
   | refine LeO.ite ?_ ?_
   | refine LeO.bind ?_ (fun _ => ?_)
theorem laws_FnExactStateOver.mono : ∀ a0 a1 a2 k, LeO (laws_FnExactStateOver.f k a0 a1 a2) (laws_FnExactStateOver.f (k + 1) a0 a1 a2) := by
 intro a0 a1 a2 k
 have ih0 := laws_FnExactStateOver.mono_l k
 unfold laws_FnExactStateOver.f
 repeat' first
   | (with_reducible exact ih0 _ _ _ _ _)
   | (with_reducible exact impl_StateOver.mono _ _ _ _)
   | (with_reducible exact laws_eqNet.mono _ _ _ _ _)
   | (with_reducible exact laws_szNet.mono _ _ _ _)
   | (with_reducible exact laws_toNet.mono _ _ _)
   | (with_reducible exact spec_StateOver.mono _ _ _ _)
   | (with_reducible exact LeO.refl _)
   | (with_reducible exact LeO.none _)
   | (with_reducible refine LeO.ite ?_ ?_)
   | (with_reducible refine LeO.bind ?_ (fun _ => ?_))
   | exact ih0 _ _ _ _ _
   | exact impl_StateOver.mono _ _ _ _
   | exact laws_eqNet.mono _ _ _ _ _
   | exact laws_szNet.mono _ _ _ _
   | exact laws_toNet.mono _ _ _
   | exact spec_StateOver.mono _ _ _ _
   | exact LeO.none _
   | refine LeO.ite ?_ ?_
   | refine LeO.bind ?_ (fun _ => ?_)
set_option maxHeartbeats 8000000 in
set_option maxRecDepth 100000 in
theorem laws_FnExactStateOver.calls (k : Nat) (a0_0 : Int) (A0_1 : Option Addr) (c0_1 : Nat) (l0_1 : List (List Int)) (a1 : ByteArray) (r : Bool) (w : World) (hr0_1 : Kd.C (Kd.slice 2 (Kd.int .i64)) w A0_1 l0_1.length l0_1) (hc0_1 : l0_1.length ≤ c0_1) (h : laws_FnExactStateOver.f k a0_0 l0_1 a1 = some true) :
  Calls Tryd.prog 3 #[.agg #[.int .i64 a0_0, .slice A0_1 l0_1.length c0_1], .string a1] w fun e w' => e = .returned (.bool true) ∧ Below w.heap.size w w' := by
 have hu24 := Tryd.underlying24
 have hu28 := Tryd.underlying28
 have HR0_1 := Aside0.mk hr0_1
 have HC0_1 := Aside0.mk hc0_1
 clear hr0_1 hc0_1
 have HB := Aside0.mk (Below.refl w.heap.size w)
 have H : (if (a1.size : Int) > 1048576 then (some true) else ((laws_szNet.f k a0_0 l0_1 1048576).bind fun t201 => (if t201 < 0 then (some true) else ((laws_toNet.f k a0_0 l0_1).bind fun bt202 => ((spec_StateOver.f k bt202.1 bt202.2 a1).bind fun bt206 => ((laws_toNet.f k a0_0 l0_1).bind fun bt208 => ((impl_StateOver.f k bt208.1 bt208.2 a1).bind fun bt213 => (if bt213.1 = bt206.1 then (laws_FnExactStateOver.j0 k (bt213.2 != bt206.2) a0_0 l0_1 bt208.1 bt208.2) else (laws_FnExactStateOver.j0 k true a0_0 l0_1 bt208.1 bt208.2))))))))) = some true := h
 clear h
 by_cases c3 : (a1.size : Int) > 1048576
 ·rw [if_pos c3] at H
  have c3b0 : decide (1048576 < (a1.size : Int)) = true := decide_eq_true c3
  have c3b1 : decide (1048576 < a1.size) = true := decide_eq_true (by omega)
  clear c3
  clear H
  go_enter Tryd.func3, Tryd.ntmps3
  go_wp2_with (first | ((with_reducible refine gate_dst (N := 2) rfl ?_); refine box_event ?hg (N := 2) ?hd (cs := #[.int .i64 a0_0, .slice A0_1 l0_1.length c0_1]) (t := 24) ?hr ?_; (case hd => rfl); (case hg => rfl); (case hr => first | (go_simp; done) | (go_simp; rfl)); intro gb200 hg w4 hbox hb; have n0_ := Aside0.mk (below_step (by repeat (first | (with_reducible first | exact HB.out | apply below_alloc | apply pw_below_drewN | apply below_drew1) | exact HB.out)) hb); have n1_ := Aside0.mk (hbox); have n2_ := Aside0.mk ((by rw [hg]; exact (below_size (by repeat (first | (with_reducible first | exact HB.out | apply below_alloc | apply pw_below_drewN | apply below_drew1) | exact HB.out))) : w.heap.size ≤ gb200)); have n3_ := Aside0.mk ((by rw [hg]; exact (below_size (by repeat (first | (with_reducible first | exact HB.out | apply below_alloc | apply pw_below_drewN | apply below_drew1) | exact HB.out))) : w.heap.size ≤ gb200)); clear HB; have HB := n0_; have BK200 := n1_; have GW200 := n2_; have GE200 := n3_; clear n0_ n1_ n2_ n3_; clear hb hbox hg))
  go_ret
  exact ⟨by first | rfl | (simp [errW_none, errW_some] <;> rfl) | (simp [*, errW_none, errW_some] <;> rfl), by repeat (first | (with_reducible first | exact HB.out | apply below_alloc | apply pw_below_drewN | apply below_drew1 | refine below_set ?_ GE200.out) | exact HB.out)⟩
 ·rw [if_neg c3] at H
  have c3b0 : decide (1048576 < (a1.size : Int)) = false := decide_eq_false c3
  have c3b1 : decide (1048576 < a1.size) = false := decide_eq_false (by omega)
  clear c3
  replace H := Option.bind_eq_some_iff.mp H
  obtain ⟨t201, A50, H⟩ := H
  replace H : (if t201 < 0 then (some true) else ((laws_toNet.f k a0_0 l0_1).bind fun bt202 => ((spec_StateOver.f k bt202.1 bt202.2 a1).bind fun bt206 => ((laws_toNet.f k a0_0 l0_1).bind fun bt208 => ((impl_StateOver.f k bt208.1 bt208.2 a1).bind fun bt213 => (if bt213.1 = bt206.1 then (laws_FnExactStateOver.j0 k (bt213.2 != bt206.2) a0_0 l0_1 bt208.1 bt208.2) else (laws_FnExactStateOver.j0 k true a0_0 l0_1 bt208.1 bt208.2))))))) = some true := H
  have A5 := Aside0.mk A50
  clear A50
  by_cases c6 : t201 < 0
  ·rw [if_pos c6] at H
   have c6b0 : decide (t201 < 0) = true := decide_eq_true c6
   clear c6
   clear H
   go_enter Tryd.func3, Tryd.ntmps3
   go_wp2_with (first | ((with_reducible refine gate_dst (N := 2) rfl ?_); refine box_event ?hg (N := 2) ?hd (cs := #[.int .i64 a0_0, .slice A0_1 l0_1.length c0_1]) (t := 24) ?hr ?_; (case hd => rfl); (case hg => rfl); (case hr => first | (go_simp; done) | (go_simp; rfl)); intro gb200 hg w7 hbox hb; have n0_ := Aside0.mk (below_step (by repeat (first | (with_reducible first | exact HB.out | apply below_alloc | apply pw_below_drewN | apply below_drew1) | exact HB.out)) hb); have n1_ := Aside0.mk (hbox); have n2_ := Aside0.mk ((by rw [hg]; exact (below_size (by repeat (first | (with_reducible first | exact HB.out | apply below_alloc | apply pw_below_drewN | apply below_drew1) | exact HB.out))) : w.heap.size ≤ gb200)); have n3_ := Aside0.mk ((by rw [hg]; exact (below_size (by repeat (first | (with_reducible first | exact HB.out | apply below_alloc | apply pw_below_drewN | apply below_drew1) | exact HB.out))) : w.heap.size ≤ gb200)); clear HB; have HB := n0_; have BK200 := n1_; have GW200 := n2_; have GE200 := n3_; clear n0_ n1_ n2_ n3_; clear hb hbox hg; have hcz8_0 : w7.cell? ⟨gb200, 0, none⟩ = some (.int .i64 a0_0) := (blk_cell BK200.out 0).trans rfl; have hcz8_1 : w7.cell? ⟨gb200, 1, none⟩ = some (.slice A0_1 l0_1.length c0_1) := (blk_cell BK200.out 1).trans rfl; have hfz8_0 := blk_frozen BK200.out 0; have hfz8_1 := blk_frozen BK200.out 1) | ((with_reducible refine gate_callee (f := 9) rfl ?_); refine goesL_ (some 16) rfl rfl Tryd.func9 (by kernel_rfl) rfl #[.agg #[.int .i64 a0_0, .slice A0_1 l0_1.length c0_1], .int .i64 1048576] rfl (by (try simp only [List.map_toArray, List.map_cons, List.map_nil]); first | done | rfl | (simp only [List.length_drop, List.length_take]; rfl)) ?_; (with_reducible refine (laws_szNet.calls k a0_0 _ _ l0_1 1048576 t201 _ ?side1 ?side2 A5.out).mono ?_); (case side1 => repeat (first | exact (Kd.C_below HR0_1.out HB.out) | (with_reducible refine Kd.C_alloc ?_ _) | (with_reducible refine Kd.C_drewN ?_ _) | (with_reducible refine Kd.C_drew ?_))); (case side2 => exact HC0_1.out); rintro e w9 ⟨rfl, hb⟩; refine ⟨_, rfl, ?_⟩; have n0_ := Aside0.mk (blk_below (g := gb200) (o := .cells #[.int .i64 a0_0, .slice A0_1 l0_1.length c0_1] 24 (0, 0)) (by (with_reducible repeat (first | refine blk_drewN ?_ _ | refine blk_drew ?_ | refine blk_alloc ?_ _)); exact BK200.out) hb); have n1_ := Aside0.mk (below_step (by repeat (first | (with_reducible first | exact HB.out | apply below_alloc | apply pw_below_drewN | apply below_drew1 | refine below_set ?_ GE200.out) | exact HB.out)) hb); clear BK200; clear HB; have BK200 := n0_; have HB := n1_; clear n0_ n1_; (try clear hb); (try clear hb2); (try clear hk); (try clear hi)))
   go_ret
   exact ⟨by first | rfl | (simp [errW_none, errW_some] <;> rfl) | (simp [*, errW_none, errW_some] <;> rfl), by repeat (first | (with_reducible first | exact HB.out | apply below_alloc | apply pw_below_drewN | apply below_drew1 | refine below_set ?_ GE200.out) | exact HB.out)⟩
  ·rw [if_neg c6] at H
   have c6b0 : decide (t201 < 0) = false := decide_eq_false c6
   clear c6
   replace H := Option.bind_eq_some_iff.mp H
   obtain ⟨⟨t202, t203⟩, A100, H⟩ := H
   replace H : ((spec_StateOver.f k t202 t203 a1).bind fun bt206 => ((laws_toNet.f k a0_0 l0_1).bind fun bt208 => ((impl_StateOver.f k bt208.1 bt208.2 a1).bind fun bt213 => (if bt213.1 = bt206.1 then (laws_FnExactStateOver.j0 k (bt213.2 != bt206.2) a0_0 l0_1 bt208.1 bt208.2) else (laws_FnExactStateOver.j0 k true a0_0 l0_1 bt208.1 bt208.2))))) = some true := H
   have A10 := Aside0.mk A100
   clear A100
   replace H := Option.bind_eq_some_iff.mp H
   obtain ⟨⟨t206, t207⟩, A110, H⟩ := H
   replace H : ((laws_toNet.f k a0_0 l0_1).bind fun bt208 => ((impl_StateOver.f k bt208.1 bt208.2 a1).bind fun bt213 => (if bt213.1 = t206 then (laws_FnExactStateOver.j0 k (bt213.2 != t207) a0_0 l0_1 bt208.1 bt208.2) else (laws_FnExactStateOver.j0 k true a0_0 l0_1 bt208.1 bt208.2)))) = some true := H
   have A11 := Aside0.mk A110
   clear A110
   replace H := Option.bind_eq_some_iff.mp H
   obtain ⟨⟨t208, t209⟩, A120, H⟩ := H
   replace H : ((impl_StateOver.f k t208 t209 a1).bind fun bt213 => (if bt213.1 = t206 then (laws_FnExactStateOver.j0 k (bt213.2 != t207) a0_0 l0_1 t208 t209) else (laws_FnExactStateOver.j0 k true a0_0 l0_1 t208 t209))) = some true := H
   have A12 := Aside0.mk A120
   clear A120
   replace H := Option.bind_eq_some_iff.mp H
   obtain ⟨⟨t213, t214⟩, A130, H⟩ := H
   replace H : (if t213 = t206 then (laws_FnExactStateOver.j0 k (t214 != t207) a0_0 l0_1 t208 t209) else (laws_FnExactStateOver.j0 k true a0_0 l0_1 t208 t209)) = some true := H
   have A13 := Aside0.mk A130
   clear A130
   have HC14 := Aside0.mk H
   clear H
   go_enter Tryd.func3, Tryd.ntmps3
   go_upto_region 10 with (first | ((with_reducible refine gate_dst (N := 2) rfl ?_); refine box_event ?hg (N := 2) ?hd (cs := #[.int .i64 a0_0, .slice A0_1 l0_1.length c0_1]) (t := 24) ?hr ?_; (case hd => rfl); (case hg => rfl); (case hr => first | (go_simp; done) | (go_simp; rfl)); intro gb200 hg w15 hbox hb; have n0_ := Aside0.mk (below_step (by repeat (first | (with_reducible first | exact HB.out | apply below_alloc | apply pw_below_drewN | apply below_drew1) | exact HB.out)) hb); have n1_ := Aside0.mk (hbox); have n2_ := Aside0.mk ((by rw [hg]; exact (below_size (by repeat (first | (with_reducible first | exact HB.out | apply below_alloc | apply pw_below_drewN | apply below_drew1) | exact HB.out))) : w.heap.size ≤ gb200)); have n3_ := Aside0.mk ((by rw [hg]; exact (below_size (by repeat (first | (with_reducible first | exact HB.out | apply below_alloc | apply pw_below_drewN | apply below_drew1) | exact HB.out))) : w.heap.size ≤ gb200)); clear HB; have HB := n0_; have BK200 := n1_; have GW200 := n2_; have GE200 := n3_; clear n0_ n1_ n2_ n3_; clear hb hbox hg; have hcz16_0 : w15.cell? ⟨gb200, 0, none⟩ = some (.int .i64 a0_0) := (blk_cell BK200.out 0).trans rfl; have hcz16_1 : w15.cell? ⟨gb200, 1, none⟩ = some (.slice A0_1 l0_1.length c0_1) := (blk_cell BK200.out 1).trans rfl; have hfz16_0 := blk_frozen BK200.out 0; have hfz16_1 := blk_frozen BK200.out 1) | ((with_reducible refine gate_callee (f := 9) rfl ?_); refine goesL_ (some 16) rfl rfl Tryd.func9 (by kernel_rfl) rfl #[.agg #[.int .i64 a0_0, .slice A0_1 l0_1.length c0_1], .int .i64 1048576] rfl (by (try simp only [List.map_toArray, List.map_cons, List.map_nil]); first | done | rfl | (simp only [List.length_drop, List.length_take]; rfl)) ?_; (with_reducible refine (laws_szNet.calls k a0_0 _ _ l0_1 1048576 t201 _ ?side1 ?side2 A5.out).mono ?_); (case side1 => repeat (first | exact (Kd.C_below HR0_1.out HB.out) | (with_reducible refine Kd.C_alloc ?_ _) | (with_reducible refine Kd.C_drewN ?_ _) | (with_reducible refine Kd.C_drew ?_))); (case side2 => exact HC0_1.out); rintro e w17 ⟨rfl, hb⟩; refine ⟨_, rfl, ?_⟩; have n0_ := Aside0.mk (blk_below (g := gb200) (o := .cells #[.int .i64 a0_0, .slice A0_1 l0_1.length c0_1] 24 (0, 0)) (by (with_reducible repeat (first | refine blk_drewN ?_ _ | refine blk_drew ?_ | refine blk_alloc ?_ _)); exact BK200.out) hb); have n1_ := Aside0.mk (below_step (by repeat (first | (with_reducible first | exact HB.out | apply below_alloc | apply pw_below_drewN | apply below_drew1 | refine below_set ?_ GE200.out) | exact HB.out)) hb); clear BK200; clear HB; have BK200 := n0_; have HB := n1_; clear n0_ n1_; (try clear hb); (try clear hb2); (try clear hk); (try clear hi); have hcz18_0 : w17.cell? ⟨gb200, 0, none⟩ = some (.int .i64 a0_0) := (blk_cell BK200.out 0).trans rfl; have hcz18_1 : w17.cell? ⟨gb200, 1, none⟩ = some (.slice A0_1 l0_1.length c0_1) := (blk_cell BK200.out 1).trans rfl; have hfz18_0 := blk_frozen BK200.out 0; have hfz18_1 := blk_frozen BK200.out 1) | ((with_reducible refine gate_callee (f := 11) rfl ?_); refine goesL_ (some 21) rfl rfl Tryd.func11 (by kernel_rfl) rfl #[.agg #[.int .i64 a0_0, .slice A0_1 l0_1.length c0_1]] rfl (by (try simp only [List.map_toArray, List.map_cons, List.map_nil]); first | done | rfl | (simp only [List.length_drop, List.length_take]; rfl)) ?_; (with_reducible refine (laws_toNet.calls k a0_0 _ _ l0_1 t202 t203 _ ?side1 ?side2 A10.out).mono ?_); (case side1 => repeat (first | exact (Kd.C_below HR0_1.out HB.out) | (with_reducible refine Kd.C_alloc ?_ _) | (with_reducible refine Kd.C_drewN ?_ _) | (with_reducible refine Kd.C_drew ?_))); (case side2 => exact HC0_1.out); rintro e w19 ⟨v204, rfl, ho0, hb⟩; refine ⟨_, rfl, ?_⟩; have n0_ := Aside0.mk (Kd.S_lower ho0 (below_size (by repeat (first | (with_reducible first | exact HB.out | apply below_alloc | apply pw_below_drewN | apply below_drew1 | refine below_set ?_ GE200.out) | exact HB.out)))); have n1_ := Aside0.mk (blk_below (g := gb200) (o := .cells #[.int .i64 a0_0, .slice A0_1 l0_1.length c0_1] 24 (0, 0)) (by (with_reducible repeat (first | refine blk_drewN ?_ _ | refine blk_drew ?_ | refine blk_alloc ?_ _)); exact BK200.out) hb); have n2_ := Aside0.mk (below_step (by repeat (first | (with_reducible first | exact HB.out | apply below_alloc | apply pw_below_drewN | apply below_drew1 | refine below_set ?_ GE200.out) | exact HB.out)) hb); clear BK200; clear HB; have HO205 := n0_; have BK200 := n1_; have HB := n2_; clear n0_ n1_ n2_; (try clear hb); (try clear hb2); (try clear hk); (try clear hi); (try clear ho0); obtain ⟨Ao20, co20, eo20⟩ := Kd.S_slice HO205.out; subst eo20) | ((with_reducible refine gate_callee (f := 10) rfl ?_); refine goesL_ (some 23) rfl rfl Tryd.func10 (by kernel_rfl) rfl #[.agg #[.int .i64 t202, .slice Ao20 t203.length co20], .string a1] rfl (by (try simp only [List.map_toArray, List.map_cons, List.map_nil]); first | done | rfl | (simp only [List.length_drop, List.length_take]; rfl)) ?_; (with_reducible refine (spec_StateOver.calls k t202 _ _ t203 a1 t206 t207 _ ?side1 ?side2 A11.out).mono ?_); (case side1 => repeat (first | exact (Kd.S_reads' HO205.out).2.2 | (with_reducible refine Kd.C_alloc ?_ _) | (with_reducible refine Kd.C_drewN ?_ _) | (with_reducible refine Kd.C_drew ?_))); (case side2 => exact (Kd.S_reads' HO205.out).2.1); rintro e w21 ⟨rfl, hb⟩; refine ⟨_, rfl, ?_⟩; have n0_ := Aside0.mk (Kd.S_below (by (with_reducible repeat (first | apply Kd.S_alloc | apply Kd.S_drewN | apply Kd.S_drew)); exact HO205.out) hb); have n1_ := Aside0.mk (blk_below (g := gb200) (o := .cells #[.int .i64 a0_0, .slice A0_1 l0_1.length c0_1] 24 (0, 0)) (by (with_reducible repeat (first | refine blk_drewN ?_ _ | refine blk_drew ?_ | refine blk_alloc ?_ _)); exact BK200.out) hb); have n2_ := Aside0.mk (below_step (by repeat (first | (with_reducible first | exact HB.out | apply below_alloc | apply pw_below_drewN | apply below_drew1 | refine below_set ?_ GE200.out) | exact HB.out)) hb); clear HO205; clear BK200; clear HB; have HO205 := n0_; have BK200 := n1_; have HB := n2_; clear n0_ n1_ n2_; (try clear hb); (try clear hb2); (try clear hk); (try clear hi); have hcz22_0 : w21.cell? ⟨gb200, 0, none⟩ = some (.int .i64 a0_0) := (blk_cell BK200.out 0).trans rfl; have hcz22_1 : w21.cell? ⟨gb200, 1, none⟩ = some (.slice A0_1 l0_1.length c0_1) := (blk_cell BK200.out 1).trans rfl; have hfz22_0 := blk_frozen BK200.out 0; have hfz22_1 := blk_frozen BK200.out 1) | ((with_reducible refine gate_callee (f := 11) rfl ?_); refine goesL_ (some 27) rfl rfl Tryd.func11 (by kernel_rfl) rfl #[.agg #[.int .i64 a0_0, .slice A0_1 l0_1.length c0_1]] rfl (by (try simp only [List.map_toArray, List.map_cons, List.map_nil]); first | done | rfl | (simp only [List.length_drop, List.length_take]; rfl)) ?_; (with_reducible refine (laws_toNet.calls k a0_0 _ _ l0_1 t208 t209 _ ?side1 ?side2 A12.out).mono ?_); (case side1 => repeat (first | exact (Kd.C_below HR0_1.out HB.out) | (with_reducible refine Kd.C_alloc ?_ _) | (with_reducible refine Kd.C_drewN ?_ _) | (with_reducible refine Kd.C_drew ?_))); (case side2 => exact HC0_1.out); rintro e w23 ⟨v210, rfl, ho0, hb⟩; refine ⟨_, rfl, ?_⟩; obtain ⟨nq24, hi⟩ := nq_of hb; have n0_ := Aside0.mk (Kd.S_elder' (S_ltN (by (with_reducible repeat (first | apply Kd.S_alloc | apply Kd.S_drewN | apply Kd.S_drew)); exact HO205.out) hi) (Kd.S_base ho0) hb); have n1_ := Aside0.mk (Kd.S_lower (Kd.S_new' (S_geN ho0 hi) (Kd.S_lt (by (with_reducible repeat (first | apply Kd.S_alloc | apply Kd.S_drewN | apply Kd.S_drew)); exact HO205.out))) (below_size (by repeat (first | (with_reducible first | exact HB.out | apply below_alloc | apply pw_below_drewN | apply below_drew1 | refine below_set ?_ GE200.out) | exact HB.out)))); have n2_ := Aside0.mk (blk_below (g := gb200) (o := .cells #[.int .i64 a0_0, .slice A0_1 l0_1.length c0_1] 24 (0, 0)) (by (with_reducible repeat (first | refine blk_drewN ?_ _ | refine blk_drew ?_ | refine blk_alloc ?_ _)); exact BK200.out) hb); have n3_ := Aside0.mk (below_step (by repeat (first | (with_reducible first | exact HB.out | apply below_alloc | apply pw_below_drewN | apply below_drew1 | refine below_set ?_ GE200.out) | exact HB.out)) hb); clear HO205; clear BK200; clear HB; have HO205 := n0_; have HO211 := n1_; have BK200 := n2_; have HB := n3_; clear n0_ n1_ n2_ n3_; (try clear hb); (try clear hb2); (try clear hk); (try clear hi); (try clear ho0)) | ((with_reducible refine gate_dst (N := 8) rfl ?_); refine box_event ?hg (N := 8) ?hd (cs := #[.int .i64 0, .slice none 0 0]) (t := 28) ?hr ?_; (case hd => rfl); (case hg => rfl); (case hr => first | (go_simp; done) | (go_simp; rfl)); intro gb212 hg w25 hbox hb; have n0_ := Aside0.mk (Kd.S_below (by (with_reducible repeat (first | apply Kd.S_alloc | apply Kd.S_drewN | apply Kd.S_drew)); exact HO205.out) hb); have n1_ := Aside0.mk (Kd.S_below (by (with_reducible repeat (first | apply Kd.S_alloc | apply Kd.S_drewN | apply Kd.S_drew)); exact HO211.out) hb); have n2_ := Aside0.mk (blk_below (g := gb200) (o := .cells #[.int .i64 a0_0, .slice A0_1 l0_1.length c0_1] 24 (0, 0)) (by (with_reducible repeat (first | refine blk_drewN ?_ _ | refine blk_drew ?_ | refine blk_alloc ?_ _)); exact BK200.out) hb); have n3_ := Aside0.mk (below_step (by repeat (first | (with_reducible first | exact HB.out | apply below_alloc | apply pw_below_drewN | apply below_drew1 | refine below_set ?_ GE200.out) | exact HB.out)) hb); have n4_ := Aside0.mk (hbox); have n5_ := Aside0.mk ((by rw [hg]; exact (below_size (by repeat (first | (with_reducible first | exact HB.out | apply below_alloc | apply pw_below_drewN | apply below_drew1 | refine below_set ?_ GE200.out) | exact HB.out))) : w.heap.size ≤ gb212)); have n6_ := Aside0.mk ((by rw [hg]; exact (below_size (by repeat (first | (with_reducible first | exact HB.out | apply below_alloc | apply pw_below_drewN | apply below_drew1 | refine below_set ?_ GE200.out) | exact HB.out))) : w.heap.size ≤ gb212)); have n7_ := Aside0.mk ((by rw [hg]; exact Nat.ne_of_lt (blk_lt (g := gb200) (o := .cells #[.int .i64 a0_0, .slice A0_1 l0_1.length c0_1] 24 (0, 0)) (by (with_reducible repeat (first | refine blk_drewN ?_ _ | refine blk_drew ?_ | refine blk_alloc ?_ _)); exact BK200.out)) : gb200 ≠ gb212)); have n8_ := Aside0.mk ((by rw [hg]; exact Nat.ne_of_gt (blk_lt (g := gb200) (o := .cells #[.int .i64 a0_0, .slice A0_1 l0_1.length c0_1] 24 (0, 0)) (by (with_reducible repeat (first | refine blk_drewN ?_ _ | refine blk_drew ?_ | refine blk_alloc ?_ _)); exact BK200.out)) : gb212 ≠ gb200)); clear HO205; clear HO211; clear BK200; clear HB; have HO205 := n0_; have HO211 := n1_; have BK200 := n2_; have HB := n3_; have BK212 := n4_; have GW212 := n5_; have GE212 := n6_; have NB200_212 := n7_; have NB212_200 := n8_; clear n0_ n1_ n2_ n3_ n4_ n5_ n6_ n7_ n8_; clear hb hbox hg; have hnb26 := NB212_200.out; have hnc26 := NB200_212.out; have hcz27_0 : w25.cell? ⟨gb212, 0, none⟩ = some (.int .i64 0) := (blk_cell BK212.out 0).trans rfl; have hcz27_1 : w25.cell? ⟨gb212, 1, none⟩ = some (.slice none 0 0) := (blk_cell BK212.out 1).trans rfl; have hfz27_0 := blk_frozen BK212.out 0; have hfz27_1 := blk_frozen BK212.out 1; obtain ⟨Ao28, co28, eo28⟩ := Kd.S_slice HO211.out; subst eo28) | ((with_reducible refine gate_callee (f := 12) rfl ?_); refine goesL_ (some 31) rfl rfl Tryd.func12 (by kernel_rfl) rfl #[.agg #[.int .i64 t208, .slice Ao28 t209.length co28], .string a1] rfl (by (try simp only [List.map_toArray, List.map_cons, List.map_nil]); first | done | rfl | (simp only [List.length_drop, List.length_take]; rfl)) ?_; (with_reducible refine (impl_StateOver.calls k t208 _ _ t209 a1 t213 t214 _ ?side1 ?side2 A13.out).mono ?_); (case side1 => refine (Kd.S_reads' (e := 38) (base := w.heap.size) (ok := fun k_ => ((True ∧ nq24 ≤ k_) ∧ some k_ ≠ (.slice Ao20 t203.length co20 : Value).ownBlock)) (n := t209.length) (c := co28) ?_).2.2; exact (by (with_reducible repeat (first | apply Kd.S_alloc | apply Kd.S_drewN | apply Kd.S_drew)); exact (Kd.S_mono (Kd.S_far (p := ⟨gb212, 1, none⟩) (Kd.S_far (p := ⟨gb212, 0, none⟩) (Kd.S_types HO211.out BK212.out (by decide)) (fun _ hk => hk.2) (.int .i64 t208)) (fun _ hk => hk.2) (.slice Ao28 t209.length co28)) (fun _ h_ => h_.1)))); (case side2 => exact (Kd.S_reads' HO211.out).2.1); rintro e w29 ⟨rfl, hb⟩; refine ⟨_, rfl, ?_⟩; have n0_ := Aside0.mk (Kd.S_below (by (with_reducible repeat (first | apply Kd.S_alloc | apply Kd.S_drewN | apply Kd.S_drew)); exact (Kd.S_mono (Kd.S_far (p := ⟨gb212, 1, none⟩) (Kd.S_far (p := ⟨gb212, 0, none⟩) (Kd.S_types HO205.out BK212.out (by decide)) (fun _ hk => hk.2) (.int .i64 t208)) (fun _ hk => hk.2) (.slice Ao28 t209.length co28)) (fun _ h_ => h_.1))) hb); have n1_ := Aside0.mk (Kd.S_below (by (with_reducible repeat (first | apply Kd.S_alloc | apply Kd.S_drewN | apply Kd.S_drew)); exact (Kd.S_mono (Kd.S_far (p := ⟨gb212, 1, none⟩) (Kd.S_far (p := ⟨gb212, 0, none⟩) (Kd.S_types HO211.out BK212.out (by decide)) (fun _ hk => hk.2) (.int .i64 t208)) (fun _ hk => hk.2) (.slice Ao28 t209.length co28)) (fun _ h_ => h_.1))) hb); have n2_ := Aside0.mk (blk_below (g := gb200) (o := .cells #[.int .i64 a0_0, .slice A0_1 l0_1.length c0_1] 24 (0, 0)) (by (with_reducible repeat (first | refine blk_drewN ?_ _ | refine blk_drew ?_ | refine blk_alloc ?_ _)); refine blk_far ?_ NB200_212.out _; (with_reducible repeat (first | refine blk_drewN ?_ _ | refine blk_drew ?_ | refine blk_alloc ?_ _)); refine blk_far ?_ NB200_212.out _; (with_reducible repeat (first | refine blk_drewN ?_ _ | refine blk_drew ?_ | refine blk_alloc ?_ _)); exact BK200.out) hb); have n3_ := Aside0.mk (blk_below (g := gb212) (o := .cells #[.int .i64 t208, .slice Ao28 t209.length co28] 28 (0, 0)) (by (with_reducible repeat (first | refine blk_drewN ?_ _ | refine blk_drew ?_ | refine blk_alloc ?_ _)); refine blk_put (cs := #[.int .i64 t208, .slice none 0 0]) ?_ 1 _ rfl; (with_reducible repeat (first | refine blk_drewN ?_ _ | refine blk_drew ?_ | refine blk_alloc ?_ _)); refine blk_put (cs := #[.int .i64 0, .slice none 0 0]) ?_ 0 _ rfl; (with_reducible repeat (first | refine blk_drewN ?_ _ | refine blk_drew ?_ | refine blk_alloc ?_ _)); exact BK212.out) hb); have n4_ := Aside0.mk (below_step (by repeat (first | (with_reducible first | exact HB.out | apply below_alloc | apply pw_below_drewN | apply below_drew1 | refine below_set ?_ GE200.out | refine below_set ?_ GE212.out) | exact HB.out)) hb); clear HO205; clear HO211; clear BK200; clear BK212; clear HB; have HO205 := n0_; have HO211 := n1_; have BK200 := n2_; have BK212 := n3_; have HB := n4_; clear n0_ n1_ n2_ n3_ n4_; (try clear hb); (try clear hb2); (try clear hk); (try clear hi)))
   (try simp only [Act.put, List.setIfInBounds_toArray, List.set_cons_zero, List.set_cons_succ])
   go_cut [41] (fun v41 wc => ∃ (kq : Nat) (x41_13 : Bool), v41 = .bool x41_13 ∧ Aside0 (laws_FnExactStateOver.j0 kq x41_13 a0_0 l0_1 t208 t209 = some true) ∧ Aside0 (kq ≤ k) ∧ Aside0 (Kd.S (Kd.slice 2 (Kd.int .i64)) 38 wc w.heap.size (fun k_ => nq24 ≤ k_) (.slice Ao28 t209.length co28) t209) ∧ Aside0 (wc.heap[gb200]? = some (.cells #[.int .i64 a0_0, (.slice A0_1 l0_1.length c0_1)] 24 (0, 0))) ∧ Aside0 (wc.heap[gb212]? = some (.cells #[.int .i64 t208, (.slice Ao28 t209.length co28)] 28 (0, 0))) ∧ Aside0 (Below w.heap.size w wc))
   case first =>
    have H := HC14.out
    clear HC14
    by_cases c30 : t213 = t206
    ·rw [if_pos c30] at H
     have c30b0 : (t213 == t206) = true := beq_iff_eq.mpr c30
     have c30b1 : (t213 != t206) = false := bne_eq_false_iff_eq.mpr c30
     clear c30
     (first | rw [c30b0] | (simp only [i64_w, i32_w]; rw [c30b0]) | skip)
     have H' := Aside0.mk H
     clear H
     go_wp2
     go_meet
     case rel => exact ⟨_, ((t214 != t207)), (by first | rfl | (simp; done) | (simp [*]; done)), H', ⟨by first | omega | exact Nat.le_refl _⟩, ⟨by (with_reducible repeat (first | apply Kd.S_alloc | apply Kd.S_drewN | apply Kd.S_drew)); exact Kd.S_mono HO211.out (fun _ hk => hk.1.2)⟩, ⟨by (with_reducible repeat (first | refine blk_drewN ?_ _ | refine blk_drew ?_ | refine blk_alloc ?_ _)); exact BK200.out⟩, ⟨by (with_reducible repeat (first | refine blk_drewN ?_ _ | refine blk_drew ?_ | refine blk_alloc ?_ _)); exact BK212.out⟩, ⟨by repeat (first | (with_reducible first | exact HB.out | apply below_alloc | apply pw_below_drewN | apply below_drew1 | refine below_set ?_ GE200.out | refine below_set ?_ GE212.out) | exact HB.out)⟩⟩
    ·rw [if_neg c30] at H
     have c30b0 : (t213 == t206) = false := beq_eq_false_iff_ne.mpr c30
     have c30b1 : (t213 != t206) = true := bne_iff_ne.mpr c30
     (first | rw [c30b0] | (simp only [i64_w, i32_w]; rw [c30b0]) | skip)
     have H' := Aside0.mk H
     clear H
     go_wp2
     go_meet
     case rel => exact ⟨_, (true), (by first | rfl | (simp; done) | (simp [*]; done)), H', ⟨by first | omega | exact Nat.le_refl _⟩, ⟨by (with_reducible repeat (first | apply Kd.S_alloc | apply Kd.S_drewN | apply Kd.S_drew)); exact Kd.S_mono HO211.out (fun _ hk => hk.1.2)⟩, ⟨by (with_reducible repeat (first | refine blk_drewN ?_ _ | refine blk_drew ?_ | refine blk_alloc ?_ _)); exact BK200.out⟩, ⟨by (with_reducible repeat (first | refine blk_drewN ?_ _ | refine blk_drew ?_ | refine blk_alloc ?_ _)); exact BK212.out⟩, ⟨by repeat (first | (with_reducible first | exact HB.out | apply below_alloc | apply pw_below_drewN | apply below_drew1 | refine below_set ?_ GE200.out | refine below_set ?_ GE212.out) | exact HB.out)⟩⟩
   case rest =>
    clear HC14
    try clear c1
    try clear c2
    try clear p2
    try clear q2
    try clear c3
    try clear c3b0
    try clear c3b1
    try clear c6
    try clear c6b0
    try clear c9
    try clear c10
    try clear c11
    try clear c12
    try clear q24
    try clear c26
    try clear c30
    try clear c30b0
    try clear c30b1
    try clear hcz16_0
    try clear hcz16_1
    try clear hcz18_0
    try clear hcz18_1
    try clear hcz22_0
    try clear hcz22_1
    try clear hcz27_0
    try clear hcz27_1
    try clear hcz8_0
    try clear hcz8_1
    try clear hfz16_0
    try clear hfz16_1
    try clear hfz18_0
    try clear hfz18_1
    try clear hfz22_0
    try clear hfz22_1
    try clear hfz27_0
    try clear hfz27_1
    try clear hfz8_0
    try clear hfz8_1
    obtain ⟨kq, x41_13, rfl, HA, HJ13, HO_213001, BK200, BK212, HB⟩ := hcut
    cases kq with
    | zero => exact absurd HA.out (by simp [laws_FnExactStateOver.j0])
    | succ kj13 =>
     have H := HA.out
     clear HA
     simp only [laws_FnExactStateOver.j0] at H
     by_cases c31 : x41_13 = true
     ·subst c31
      have H1 : (some false) = some true := by rw [if_pos rfl] at H; exact H
      clear H
      have H := H1
      clear H1
      exact absurd H (by simp)
     ·replace c31 := Bool.eq_false_iff.mpr c31
      subst c31
      have H1 : ((laws_toNet.f kj13 a0_0 l0_1).bind fun bt215 => ((laws_eqNet.f kj13 t208 t209 bt215.1 bt215.2).bind fun t219 => (if t219 = true then (some true) else (some false)))) = some true := by rw [if_neg (show ¬ (false = true) by decide)] at H; exact H
      clear H
      have H := H1
      clear H1
      replace H := Option.bind_eq_some_iff.mp H
      obtain ⟨⟨t215, t216⟩, A320, H⟩ := H
      replace H : ((laws_eqNet.f kj13 t208 t209 t215 t216).bind fun t219 => (if t219 = true then (some true) else (some false))) = some true := H
      have A32 := Aside0.mk A320
      clear A320
      replace H := Option.bind_eq_some_iff.mp H
      obtain ⟨t219, A330, H⟩ := H
      replace H : (if t219 = true then (some true) else (some false)) = some true := H
      have A33 := Aside0.mk A330
      clear A330
      by_cases c34 : t219 = true
      ·subst c34
       have H1 : (some true) = some true := rfl
       clear H
       have H := H1
       clear H1
       clear H
       try go_wp2
       have n0_ := Aside0.mk (Kd.S_drew HO_213001.out)
       have n1_ := Aside0.mk (blk_drew BK200.out)
       have n2_ := Aside0.mk (blk_drew BK212.out)
       have n3_ := Aside0.mk (below_drew1 HB.out)
       clear HO_213001
       clear BK200
       clear BK212
       clear HB
       have HO_213001 := n0_
       have BK200 := n1_
       have BK212 := n2_
       have HB := n3_
       clear n0_ n1_ n2_ n3_
       refine start_ (n := 5) (S := fun w' => w'.cell? ⟨gb212, 0, none⟩ = some (.int .i64 t208) ∧ w'.cell? ⟨gb212, 1, none⟩ = some (.slice Ao28 t209.length co28) ∧ w'.cell? ⟨gb200, 0, none⟩ = some (.int .i64 a0_0) ∧ w'.cell? ⟨gb200, 1, none⟩ = some (.slice A0_1 l0_1.length c0_1)) (ds := []) #[false, false, false, false, false] (by kernel_rfl) rfl rfl ⟨(blk_cell BK212.out 0).trans rfl, (blk_cell BK212.out 1).trans rfl, (blk_cell BK200.out 0).trans rfl, (blk_cell BK200.out 1).trans rfl⟩ (fun hHeld => ?_)
       generalize wc.drew = w35 at HO_213001 BK200 BK212 HB hHeld ⊢
       refine take_ (i := 0) (N := some 42) (v := ?_) (a' := ?_) #[true, false, false, false, false] rfl rfl (by kernel_rfl) (fun _ _ _ h => h) (Or.inl ⟨by rfl, ?_⟩) hHeld ?_ ?_
       rotate_left
       ·rintro w' ⟨s0, s1, s2, s3⟩
        go_simp
        with_reducible rfl
       rotate_left
       ·simp only [Act.put, List.setIfInBounds_toArray, List.set_cons_zero, List.set_cons_succ, i64_w, i32_w]
        rfl
       refine take_ (i := 1) (N := some 43) (v := ?_) (a' := ?_) #[true, true, false, false, false] rfl rfl (by kernel_rfl) (fun _ _ _ h => h) (Or.inl ⟨by rfl, ?_⟩) hHeld ?_ ?_
       rotate_left
       ·rintro w' ⟨s0, s1, s2, s3⟩
        go_simp
        with_reducible rfl
       rotate_left
       ·simp only [Act.put, List.setIfInBounds_toArray, List.set_cons_zero, List.set_cons_succ, i64_w, i32_w]
        rfl
       refine one_ (i := 2) (N := some 44) #[true, true, true, false, false] rfl rfl (by kernel_rfl) (by decide) (fun K hK => ?_)
       refine goes_ Tryd.func11 (by kernel_rfl) rfl #[.agg #[.int .i64 a0_0, .slice A0_1 l0_1.length c0_1]] (by rfl) rfl rfl (by (try simp only [List.map_toArray, List.map_cons, List.map_nil]); first | done | rfl | (simp only [List.length_drop, List.length_take]; rfl)) ?_
       with_reducible refine (laws_toNet.calls kj13 a0_0 _ _ l0_1 t215 t216 _ ?side1 ?side2 A32.out).mono ?_
       (case side1 => repeat (first | exact (Kd.C_below HR0_1.out HB.out) | (with_reducible refine Kd.C_alloc ?_ _) | (with_reducible refine Kd.C_drewN ?_ _) | (with_reducible refine Kd.C_drew ?_)))
       (case side2 => exact HC0_1.out)
       rintro e w36 ⟨v217, rfl, ho0, hb⟩
       refine ⟨_, rfl, ?_⟩
       have n0_ := Aside0.mk (Kd.S_elder' (by (with_reducible repeat (first | apply Kd.S_alloc | apply Kd.S_drewN | apply Kd.S_drew)); exact HO_213001.out) (Kd.S_base ho0) hb)
       have n1_ := Aside0.mk (Kd.S_lower (Kd.S_new' ho0 (Kd.S_lt (by (with_reducible repeat (first | apply Kd.S_alloc | apply Kd.S_drewN | apply Kd.S_drew)); exact HO_213001.out))) (below_size (by repeat (first | (with_reducible first | exact HB.out | apply below_alloc | apply pw_below_drewN | apply below_drew1 | refine below_set ?_ GE200.out | refine below_set ?_ GE212.out) | exact HB.out))))
       have n2_ := Aside0.mk (blk_below (g := gb200) (o := .cells #[.int .i64 a0_0, .slice A0_1 l0_1.length c0_1] 24 (0, 0)) (by (with_reducible repeat (first | refine blk_drewN ?_ _ | refine blk_drew ?_ | refine blk_alloc ?_ _)); exact BK200.out) hb)
       have n3_ := Aside0.mk (blk_below (g := gb212) (o := .cells #[.int .i64 t208, .slice Ao28 t209.length co28] 28 (0, 0)) (by (with_reducible repeat (first | refine blk_drewN ?_ _ | refine blk_drew ?_ | refine blk_alloc ?_ _)); exact BK212.out) hb)
       have n4_ := Aside0.mk (below_step (by repeat (first | (with_reducible first | exact HB.out | apply below_alloc | apply pw_below_drewN | apply below_drew1 | refine below_set ?_ GE200.out | refine below_set ?_ GE212.out) | exact HB.out)) hb)
       clear HO_213001
       clear BK200
       clear BK212
       clear HB
       have HO_213001 := n0_
       have HO218 := n1_
       have BK200 := n2_
       have BK212 := n3_
       have HB := n4_
       clear n0_ n1_ n2_ n3_ n4_
       (try clear hb)
       (try clear hb2)
       (try clear hk)
       (try clear hi)
       (try clear ho0)
       obtain ⟨Ao37, co37, eo37⟩ := Kd.S_slice HO218.out
       (first | subst eo37 | (injection eo37 with f1_ f2_ f3_; have f4_ := f1_.symm; have f5_ := f3_.symm; clear f1_ f2_ f3_; subst f4_; subst f5_))
       refine hK.out _ _ ⟨(blk_cell BK212.out 0).trans rfl, (blk_cell BK212.out 1).trans rfl, (blk_cell BK200.out 0).trans rfl, (blk_cell BK200.out 1).trans rfl⟩ (fun hHeld => ?_)
       clear hK K
       refine norm_ (a' := ?_) ?_ ?_
       rotate_left
       ·show Act.put _ (some 44) _ = _
        simp only [Act.put, List.setIfInBounds_toArray, List.set_cons_zero, List.set_cons_succ, i64_w, i32_w]
        rfl
       refine one_ (i := 3) (N := some 45) #[true, true, true, true, false] rfl rfl (by kernel_rfl) (by decide) (fun K hK => ?_)
       refine goes_ Tryd.func13 (by kernel_rfl) rfl #[.agg #[.int .i64 t208, .slice Ao28 t209.length co28], .agg #[.int .i64 t215, .slice Ao37 t216.length co37]] (by rfl) rfl rfl (by (try simp only [List.map_toArray, List.map_cons, List.map_nil]); first | done | rfl | (simp only [List.length_drop, List.length_take]; rfl)) ?_
       with_reducible refine (laws_eqNet.calls kj13 t208 _ _ t209 t215 _ _ t216 true _ ?side1 ?side2 ?side3 ?side4 A33.out).mono ?_
       (case side1 => repeat (first | exact (Kd.S_reads' HO_213001.out).2.2 | (with_reducible refine Kd.C_alloc ?_ _) | (with_reducible refine Kd.C_drewN ?_ _) | (with_reducible refine Kd.C_drew ?_)))
       (case side2 => exact (Kd.S_reads' HO_213001.out).2.1)
       (case side3 => repeat (first | exact (Kd.S_reads' HO218.out).2.2 | (with_reducible refine Kd.C_alloc ?_ _) | (with_reducible refine Kd.C_drewN ?_ _) | (with_reducible refine Kd.C_drew ?_)))
       (case side4 => exact (Kd.S_reads' HO218.out).2.1)
       rintro e w38 ⟨rfl, hb⟩
       refine ⟨_, rfl, ?_⟩
       have n0_ := Aside0.mk (Kd.S_below (by (with_reducible repeat (first | apply Kd.S_alloc | apply Kd.S_drewN | apply Kd.S_drew)); exact HO_213001.out) hb)
       have n1_ := Aside0.mk (Kd.S_below (by (with_reducible repeat (first | apply Kd.S_alloc | apply Kd.S_drewN | apply Kd.S_drew)); exact HO218.out) hb)
       have n2_ := Aside0.mk (blk_below (g := gb200) (o := .cells #[.int .i64 a0_0, .slice A0_1 l0_1.length c0_1] 24 (0, 0)) (by (with_reducible repeat (first | refine blk_drewN ?_ _ | refine blk_drew ?_ | refine blk_alloc ?_ _)); exact BK200.out) hb)
       have n3_ := Aside0.mk (blk_below (g := gb212) (o := .cells #[.int .i64 t208, .slice Ao28 t209.length co28] 28 (0, 0)) (by (with_reducible repeat (first | refine blk_drewN ?_ _ | refine blk_drew ?_ | refine blk_alloc ?_ _)); exact BK212.out) hb)
       have n4_ := Aside0.mk (below_step (by repeat (first | (with_reducible first | exact HB.out | apply below_alloc | apply pw_below_drewN | apply below_drew1 | refine below_set ?_ GE200.out | refine below_set ?_ GE212.out) | exact HB.out)) hb)
       clear HO_213001
       clear HO218
       clear BK200
       clear BK212
       clear HB
       have HO_213001 := n0_
       have HO218 := n1_
       have BK200 := n2_
       have BK212 := n3_
       have HB := n4_
       clear n0_ n1_ n2_ n3_ n4_
       (try clear hb)
       (try clear hb2)
       (try clear hk)
       (try clear hi)
       refine hK.out _ _ ⟨(blk_cell BK212.out 0).trans rfl, (blk_cell BK212.out 1).trans rfl, (blk_cell BK200.out 0).trans rfl, (blk_cell BK200.out 1).trans rfl⟩ (fun hHeld => ?_)
       clear hK K
       refine norm_ (a' := ?_) ?_ ?_
       rotate_left
       ·show Act.put _ (some 45) _ = _
        simp only [Act.put, List.setIfInBounds_toArray, List.set_cons_zero, List.set_cons_succ, i64_w, i32_w]
        rfl
       refine pure_ (i := 4) (N := some 46) (v := ?_) (a' := ?_) #[true, true, true, true, true] rfl rfl (by kernel_rfl) (fun _ _ _ h => h) (Or.inl ⟨by rfl, ?_⟩) ?_ ?_
       rotate_left
       ·intro w'
        go_simp
        with_reducible rfl
       rotate_left
       ·simp only [Act.put, List.setIfInBounds_toArray, List.set_cons_zero, List.set_cons_succ, i64_w, i32_w]
        rfl
       refine done_ (by kernel_rfl) ?_
       try go_wp2
       go_ret
       exact ⟨by first | rfl | (simp [errW_none, errW_some] <;> rfl) | (simp [*, errW_none, errW_some] <;> rfl), by repeat (first | (with_reducible first | exact HB.out | apply below_alloc | apply pw_below_drewN | apply below_drew1 | refine below_set ?_ GE200.out | refine below_set ?_ GE212.out) | exact HB.out)⟩
      ·replace c34 := Bool.eq_false_iff.mpr c34
       subst c34
       have H1 : (some false) = some true := by rw [if_neg (show ¬ (false = true) by decide)] at H; exact H
       clear H
       have H := H1
       clear H1
       exact absurd H (by simp)
-- 'first' of two checks.
theorem first_ev (a b : Bool) : Ev (fun k => impl_first.f k [⟨a, 1⟩, ⟨b, 2⟩]) (if a = true then (if b = true then 0 else 2) else 1) := by
  refine ⟨4, fun k hk => ?_⟩
  obtain ⟨k', rfl⟩ : ∃ k', k = k' + 4 := ⟨k - 4, by omega⟩
  have w1 : wrap64 1 = 1 := by unfold wrap64; omega
  have w2 : wrap64 2 = 2 := by unfold wrap64; omega
  have r0 : ∀ u v : S71, rd_T71 [u, v] 0 = u := fun _ _ => rfl
  have r1 : ∀ u v : S71, rd_T71 [u, v] 1 = v := fun _ _ => rfl
  cases a <;> cases b <;> simp [impl_first.f, impl_first.l0, w1, w2, r0, r1]
-- needs: 61 (short never minds a better state, nor to move)
def ValidS (s : ByteArray) : Prop := ∀ i : Nat, i < s.size → bt s (i : Int) = 46 ∨ bt s (i : Int) = 115 ∨ bt s (i : Int) = 99
def LeS (s t : ByteArray) : Prop := s.size = t.size ∧ ∀ i : Nat, i < s.size → (bt s (i : Int) = 115 → bt t (i : Int) = 115) ∧ (bt t (i : Int) = 99 → bt s (i : Int) = 99)
theorem LeS.refl (s : ByteArray) : LeS s s := ⟨rfl, fun _ _ => ⟨id, id⟩⟩
theorem LeS.trans {s t u : ByteArray} (h : LeS s t) (k : LeS t u) : LeS s u :=
  ⟨h.1.trans k.1, fun i hi => ⟨fun e => (k.2 i (by have := h.1; omega)).1 ((h.2 i hi).1 e), fun e => (h.2 i hi).2 ((k.2 i (by have := h.1; omega)).2 e)⟩⟩
theorem mem_freeV {s : ByteArray} {x : Int} : x ∈ freeV s ↔ ∃ j : Nat, x = (j : Int) ∧ j < s.size ∧ bt s (j : Int) = 46 := by
  unfold freeV
  rw [mem_chosenTo]
  constructor
  · rintro ⟨h0, h1, h2⟩
    refine ⟨x.toNat, by omega, by omega, ?_⟩
    have e : ((x.toNat : Nat) : Int) = x := by omega
    rw [e]; exact beq_iff_eq.1 h2
  · rintro ⟨j, rfl, hj, h⟩
    exact ⟨by omega, by omega, beq_iff_eq.2 h⟩
theorem validS_after {s : ByteArray} (h : ValidS s) (j : Nat) (b : Bool) (hj : j < s.size) : ValidS (afterV s j b) := by
  intro i hi
  rw [afterV_size s j b hj] at hi
  rw [afterV_bt s j b hj i hi]
  split
  · cases b <;> simp
  · exact h i hi
theorem leS_both {s t : ByteArray} (h : LeS s t) (j : Nat) (b : Bool) (hj : j < s.size) : LeS (afterV s j b) (afterV t j b) := by
  have ht : j < t.size := by have := h.1; omega
  refine ⟨by rw [afterV_size s j b hj, afterV_size t j b ht, h.1], fun i hi => ?_⟩
  rw [afterV_size s j b hj] at hi
  rw [afterV_bt s j b hj i hi, afterV_bt t j b ht i (by have := h.1; omega)]
  split
  · exact ⟨id, id⟩
  · exact h.2 i hi
/-- A cut is worse for short, a kept edge is better. -/
theorem leS_cut {s : ByteArray} (j : Nat) (hj : j < s.size) (hf : bt s (j : Int) = 46) : LeS (afterV s j false) s := by
  refine ⟨afterV_size s j false hj, fun i hi => ?_⟩
  rw [afterV_size s j false hj] at hi
  rw [afterV_bt s j false hj i hi]
  split
  · rename_i e; subst e; rw [hf]; simp
  · exact ⟨id, id⟩
theorem leS_keep {s : ByteArray} (j : Nat) (hj : j < s.size) (hf : bt s (j : Int) = 46) : LeS s (afterV s j true) := by
  refine ⟨(afterV_size s j true hj).symm, fun i hi => ?_⟩
  rw [afterV_bt s j true hj i hi]
  split
  · rename_i e; subst e; rw [hf]; simp
  · exact ⟨id, id⟩
theorem leS_keepL {s t : ByteArray} (h : LeS s t) (j : Nat) (hj : j < s.size) (hk : bt t (j : Int) = 115) : LeS (afterV s j true) t := by
  refine ⟨(afterV_size s j true hj).trans h.1, fun i hi => ?_⟩
  rw [afterV_size s j true hj] at hi
  rw [afterV_bt s j true hj i hi]
  split
  · rename_i e; subst e; rw [hk]; simp
  · exact h.2 i hi
theorem leS_cutR {s t : ByteArray} (h : LeS s t) (j : Nat) (hj : j < t.size) (hk : bt s (j : Int) = 99) : LeS s (afterV t j false) := by
  refine ⟨h.1.trans (afterV_size t j false hj).symm, fun i hi => ?_⟩
  rw [afterV_bt t j false hj i (by have := h.1; omega)]
  split
  · rename_i e; subst e; rw [hk]; simp
  · exact h.2 i hi
theorem reachN_mono {l : List (List Int)} (hl : NetEdges l) {A B : Nat → Bool} (f : Nat) (hf : f < 8) (h : ∀ i, i < l.length → A i = true → B i = true) (x : Nat) (hx : (reachN A l f).testBit x = true) : (reachN B l f).testBit x = true := by
  obtain ⟨_, _, _, h4⟩ := reachN_is hl A f hf
  obtain ⟨_, k2, k3, _⟩ := reachN_is hl B f hf
  exact h4 _ k2 (fun i hi hA => k3 i hi (h i hi hA)) x hx
theorem ov_one {l : List (List Int)} (hl : NetEdges l) {s t : ByteArray} (hs : s.size = l.length) (h : LeS s t) (h1 : ovV l s = 1) : ovV l t = 1 := by
  unfold ovV at h1 ⊢
  by_cases c : (reachN (fun i => bt s (i : Int) == 115) l 0).testBit 1 = true
  · rw [if_pos (reachN_mono hl 0 (by omega) (fun i hi e => by
      have := (h.2 i (by omega)).1 (beq_iff_eq.1 e)
      exact beq_iff_eq.2 this) 1 c)]
  · rw [if_neg c] at h1
    split at h1 <;> omega
theorem ov_two {l : List (List Int)} (hl : NetEdges l) {s t : ByteArray} (hs : s.size = l.length) (h : LeS s t) (h2 : ovV l t = 2) : ovV l s = 2 := by
  by_cases c1 : ovV l s = 1
  · have := ov_one hl hs h c1; omega
  unfold ovV at h2 c1 ⊢
  by_cases c : (reachN (fun i => bt s (i : Int) == 115) l 0).testBit 1 = true
  · rw [if_pos c] at c1; omega
  · rw [if_neg c]
    by_cases d : (reachN (fun i => bt s (i : Int) != 99) l 0).testBit 1 = true
    · have := reachN_mono hl 0 (by omega) (A := fun i => bt s (i : Int) != 99) (B := fun i => bt t (i : Int) != 99) (fun i hi e => by
        have e1 : bt s (i : Int) ≠ 99 := bne_iff_ne.1 e
        exact bne_iff_ne.2 (fun e2 => e1 ((h.2 i (by omega)).2 e2))) 1 d
      rw [if_pos this] at h2
      split at h2 <;> omega
    · rw [if_neg d]
theorem free_ex {l : List (List Int)} {s : ByteArray} (hs : s.size = l.length) (hl : NetEdges l) (hv : ValidS s) (h : ovV l s = 0) : ∃ j : Nat, j < s.size ∧ bt s (j : Int) = 46 := by
  by_cases e : ∃ j : Nat, j < s.size ∧ bt s (j : Int) = 46
  · exact e
  exfalso
  have same : ∀ i, i < l.length → (bt s (i : Int) == 115) = (bt s (i : Int) != 99) := fun i hi => by
    rcases hv i (by omega) with h | h | h
    · exact absurd ⟨i, by omega, h⟩ e
    · rw [h]; rfl
    · rw [h]; rfl
  have er : reachN (fun i => bt s (i : Int) == 115) l 0 = reachN (fun i => bt s (i : Int) != 99) l 0 :=
    reachN_eq ((reachN_is hl (fun i => bt s (i : Int) != 99) 0 (by omega)).congr fun i hi => (same i hi).symm)
  unfold ovV at h
  rw [er] at h
  split at h <;> omega
theorem win_short {l : List (List Int)} {s : ByteArray} : netWin l s true = 1 ↔ (ovV l s = 1 ∨ (ovV l s = 0 ∧ ∃ j : Nat, j < s.size ∧ bt s (j : Int) = 46 ∧ netWin l (afterV s j true) false = 1)) := by
  rw [netWin_eq]
  by_cases h : ovV l s = 0
  · rw [if_pos h]
    have ho : ownV true = 1 := rfl
    rw [ho]
    by_cases ha : (freeV s).any (fun k => netWin l (afterV s k true) (!true) == 1) = true
    · rw [if_pos ha]
      obtain ⟨x, hx, hw⟩ := List.any_eq_true.1 ha
      obtain ⟨j, rfl, hj, hf⟩ := mem_freeV.1 hx
      exact ⟨fun _ => .inr ⟨h, j, hj, hf, beq_iff_eq.1 hw⟩, fun _ => rfl⟩
    · rw [if_neg ha]
      constructor
      · intro e; omega
      · rintro (e | ⟨_, j, hj, hf, hw⟩)
        · omega
        · exact absurd (List.any_eq_true (p := fun k => netWin l (afterV s k true) (!true) == 1) |>.2 ⟨(j : Int), mem_freeV.2 ⟨j, rfl, hj, hf⟩, beq_iff_eq.2 hw⟩) ha
  · rw [if_neg h]
    constructor
    · exact fun e => .inl e
    · rintro (e | ⟨e, _⟩)
      · exact e
      · exact absurd e h
theorem win_cut {l : List (List Int)} {s : ByteArray} : netWin l s false = 1 ↔ (ovV l s = 1 ∨ (ovV l s = 0 ∧ ∀ j : Nat, j < s.size → bt s (j : Int) = 46 → netWin l (afterV s j false) true = 1)) := by
  rw [netWin_eq]
  by_cases h : ovV l s = 0
  · rw [if_pos h]
    have ho : ownV false = 2 := rfl
    rw [ho]
    by_cases ha : (freeV s).any (fun k => netWin l (afterV s k false) (!false) == 2) = true
    · rw [if_pos ha]
      obtain ⟨x, hx, hw⟩ := List.any_eq_true.1 ha
      obtain ⟨j, rfl, hj, hf⟩ := mem_freeV.1 hx
      constructor
      · intro e; omega
      · rintro (e | ⟨_, e⟩)
        · omega
        · have h1 := e j hj hf
          have h2 := beq_iff_eq.1 hw
          rw [show (!false) = true from rfl] at h2
          omega
    · rw [if_neg ha]
      refine ⟨fun _ => .inr ⟨h, fun j hj hf => ?_⟩, fun _ => rfl⟩
      have hr := netWin_range l (afterV s j false) true
      have hp := netWin_pos l (afterV s j false) true
      by_cases e : netWin l (afterV s j false) true = 2
      · exact absurd (List.any_eq_true (p := fun k => netWin l (afterV s k false) (!false) == 2) |>.2 ⟨(j : Int), mem_freeV.2 ⟨j, rfl, hj, hf⟩, beq_iff_eq.2 e⟩) ha
      · omega
  · rw [if_neg h]
    constructor
    · exact fun e => .inl e
    · rintro (e | ⟨e, _⟩)
      · exact e
      · exact absurd e h
theorem win_mono {l : List (List Int)} (hl : NetEdges l) : ∀ (m : Nat) (s t : ByteArray) (b : Bool), (freeV s).length + (freeV t).length ≤ m → s.size = l.length → ValidS s → ValidS t → LeS s t → netWin l s b = 1 → netWin l t b = 1 := by
  intro m
  induction m with
  | zero =>
    intro s t b hm hs hvs hvt hle hw
    have e0 : ∀ u : ByteArray, (freeV u).length = 0 → u.size = l.length → ValidS u → ovV l u ≠ 0 := fun u hu hsz hv h0 => by
      obtain ⟨j, hj, hf⟩ := free_ex hsz hl hv h0
      have : (j : Int) ∈ freeV u := mem_freeV.2 ⟨j, rfl, hj, hf⟩
      rw [List.length_eq_zero_iff.1 hu] at this
      simp at this
    have h1 : ovV l s = 1 := by
      cases b
      · rcases win_cut.1 hw with e | ⟨e, _⟩
        · exact e
        · exact absurd e (e0 s (by omega) hs hvs)
      · rcases win_short.1 hw with e | ⟨e, _⟩
        · exact e
        · exact absurd e (e0 s (by omega) hs hvs)
    have h2 := ov_one hl hs hle h1
    cases b
    · exact win_cut.2 (.inl h2)
    · exact win_short.2 (.inl h2)
  | succ m ih =>
    intro s t b hm hs hvs hvt hle hw
    have ht : t.size = l.length := hle.1.symm.trans hs
    have hro := ovV_range l t
    have dec : ∀ (u : ByteArray) (j : Nat) (b : Bool), j < u.size → bt u (j : Int) = 46 → (freeV (afterV u j b)).length < (freeV u).length := fun u j b hj hf => free_less u j b (mem_freeV.2 ⟨j, rfl, hj, hf⟩)
    cases b with
    | true =>
      rcases win_short.1 hw with e | ⟨e0, j, hj, hf, hwj⟩
      · exact win_short.2 (.inl (ov_one hl hs hle e))
      · by_cases t1 : ovV l t = 1
        · exact win_short.2 (.inl t1)
        have t2 : ovV l t ≠ 2 := fun e => by have := ov_two hl hs hle e; omega
        have t0 : ovV l t = 0 := by omega
        refine win_short.2 (.inr ⟨t0, ?_⟩)
        have hjt : j < t.size := by have := hle.1; omega
        have d1 := dec s j true hj hf
        rcases hvt j hjt with f | f | f
        · have d2 := dec t j true hjt f
          exact ⟨j, hjt, f, ih _ _ false (by omega) ((afterV_size s j true hj).trans hs) (validS_after hvs j true hj) (validS_after hvt j true hjt) (leS_both hle j true hj) hwj⟩
        · obtain ⟨i, hi, fi⟩ := free_ex ht hl hvt t0
          have d2 := dec t i true hi fi
          exact ⟨i, hi, fi, ih _ _ false (by omega) ((afterV_size s j true hj).trans hs) (validS_after hvs j true hj) (validS_after hvt i true hi) ((leS_keepL hle j hj f).trans (leS_keep i hi fi)) hwj⟩
        · have := (hle.2 j hj).2 f
          omega
    | false =>
      rcases win_cut.1 hw with e | ⟨e0, hall⟩
      · exact win_cut.2 (.inl (ov_one hl hs hle e))
      · by_cases t1 : ovV l t = 1
        · exact win_cut.2 (.inl t1)
        have t2 : ovV l t ≠ 2 := fun e => by have := ov_two hl hs hle e; omega
        have t0 : ovV l t = 0 := by omega
        refine win_cut.2 (.inr ⟨t0, fun j hjt f => ?_⟩)
        have hj : j < s.size := by have := hle.1; omega
        have d2 := dec t j false hjt f
        rcases hvs j hj with g | g | g
        · have d1 := dec s j false hj g
          exact ih _ _ true (by omega) ((afterV_size s j false hj).trans hs) (validS_after hvs j false hj) (validS_after hvt j false hjt) (leS_both hle j false hj) (hall j hj g)
        · have := (hle.2 j hj).1 g
          omega
        · obtain ⟨i, hi, fi⟩ := free_ex hs hl hvs e0
          have d1 := dec s i false hi fi
          exact ih _ _ true (by omega) ((afterV_size s i false hi).trans hs) (validS_after hvs i false hi) (validS_after hvt j false hjt) ((leS_cut i hi fi).trans (leS_cutR hle j hjt g)) (hall i hi fi)
/-- Who wins as the second one wins as the first one. -/
theorem win_first {l : List (List Int)} (hl : NetEdges l) (s : ByteArray) (hs : s.size = l.length) (hv : ValidS s) (h : netWin l s false = 1) : netWin l s true = 1 := by
  rcases win_cut.1 h with e | ⟨e0, hall⟩
  · exact win_short.2 (.inl e)
  · refine win_short.2 (.inr ⟨e0, ?_⟩)
    obtain ⟨j, hj, f⟩ := free_ex hs hl hv e0
    have hc := hall j hj f
    have hss := (afterV_size s j false hj).trans hs
    rcases win_short.1 hc with e | ⟨_, i, hi, fi, hw⟩
    · refine ⟨j, hj, f, win_cut.2 (.inl (ov_one hl hss ((leS_cut j hj f).trans (leS_keep j hj f)) e))⟩
    · rw [afterV_size s j false hj] at hi
      have hfi : bt s (i : Int) = 46 := by
        rw [afterV_bt s j false hj i hi] at fi
        split at fi
        · simp at fi
        · exact fi
      refine ⟨i, hi, hfi, win_mono hl _ _ _ false (Nat.le_refl _) ?_ (validS_after (validS_after hv j false hj) i true (by rw [afterV_size s j false hj]; exact hi)) (validS_after hv i true hi) (leS_both (leS_cut j hj f) i true (by rw [afterV_size s j false hj]; exact hi)) hw⟩
      rw [afterV_size _ i true (by rw [afterV_size s j false hj]; exact hi), afterV_size s j false hj, hs]
-- The reference's winner: sets by bits, what is known by numbers.
def bitsN (p : Nat → Bool) : Nat → Nat
  | 0 => 0
  | i + 1 => if p i = true then bitsN p i ||| 2 ^ i else bitsN p i
theorem bitsN_bit (p : Nat → Bool) : ∀ n j, (bitsN p n).testBit j = (decide (j < n) && p j)
  | 0, j => by simp [bitsN]
  | n + 1, j => by
    have ih := bitsN_bit p n j
    unfold bitsN
    by_cases h : p n = true
    · rw [if_pos h, Nat.testBit_or, ih, Nat.testBit_two_pow]
      by_cases e : n = j
      · subst e; simp [h]
      · by_cases hlt : j < n
        · simp [hlt, e, Nat.lt_succ_of_lt hlt]
        · have : ¬ j < n + 1 := by omega
          simp [hlt, e, this]
    · rw [if_neg h, ih]
      by_cases e : n = j
      · subst e; simp [h]
      · by_cases hlt : j < n
        · simp [hlt, Nat.lt_succ_of_lt hlt]
        · have : ¬ j < n + 1 := by omega
          simp [hlt, this]
theorem bitsN_lt (p : Nat → Bool) : ∀ n, bitsN p n < 2 ^ n
  | 0 => by simp [bitsN]
  | n + 1 => by
    have ih := bitsN_lt p n
    have e : 2 ^ (n + 1) = 2 ^ n * 2 := Nat.pow_succ 2 n
    unfold bitsN
    split
    · exact Nat.or_lt_two_pow (by omega) (by rw [e]; have := Nat.two_pow_pos n; omega)
    · omega
theorem bitsN_congr {p q : Nat → Bool} {n : Nat} (h : ∀ i, i < n → p i = q i) : bitsN p n = bitsN q n := by
  apply Nat.eq_of_testBit_eq
  intro j
  rw [bitsN_bit, bitsN_bit]
  by_cases hj : j < n
  · rw [h j hj]
  · simp [hj]
def keptS (s : ByteArray) : Nat := bitsN (fun i => bt s (i : Int) == 115) s.size
def outS (s : ByteArray) : Nat := bitsN (fun i => bt s (i : Int) == 99) s.size
def numS (s : ByteArray) (b : Bool) : Nat := (keptS s * 2 ^ s.size + outS s) * 2 + (if b then 0 else 1)
theorem keptS_after (s : ByteArray) (j : Nat) (b : Bool) (hj : j < s.size) (hf : bt s (j : Int) = 46) : keptS (afterV s j b) = if b then keptS s ||| 2 ^ j else keptS s := by
  unfold keptS
  rw [afterV_size s j b hj]
  apply Nat.eq_of_testBit_eq
  intro x
  rw [bitsN_bit]
  cases b with
  | true =>
    rw [if_pos rfl, Nat.testBit_or, bitsN_bit, Nat.testBit_two_pow]
    by_cases hx : x < s.size
    · rw [afterV_bt s j true hj x hx]
      by_cases e : x = j
      · subst e; simp [hx]
      · rw [if_neg e]; simp [hx, Ne.symm e]
    · have : j ≠ x := by omega
      simp [hx, this]
  | false =>
    rw [if_neg (by simp), bitsN_bit]
    by_cases hx : x < s.size
    · rw [afterV_bt s j false hj x hx]
      by_cases e : x = j
      · subst e; simp [hx, hf]
      · rw [if_neg e]
    · simp [hx]
theorem outS_after (s : ByteArray) (j : Nat) (b : Bool) (hj : j < s.size) (hf : bt s (j : Int) = 46) : outS (afterV s j b) = if b then outS s else outS s ||| 2 ^ j := by
  unfold outS
  rw [afterV_size s j b hj]
  apply Nat.eq_of_testBit_eq
  intro x
  rw [bitsN_bit]
  cases b with
  | false =>
    rw [if_neg (by simp), Nat.testBit_or, bitsN_bit, Nat.testBit_two_pow]
    by_cases hx : x < s.size
    · rw [afterV_bt s j false hj x hx]
      by_cases e : x = j
      · subst e; simp [hx]
      · rw [if_neg e]; simp [hx, Ne.symm e]
    · have : j ≠ x := by omega
      simp [hx, this]
  | true =>
    rw [if_pos rfl, bitsN_bit]
    by_cases hx : x < s.size
    · rw [afterV_bt s j true hj x hx]
      by_cases e : x = j
      · subst e; simp [hx, hf]
      · rw [if_neg e]
    · simp [hx]
theorem state_ext {s t : ByteArray} (hs : s.size = t.size) (h : ∀ i : Nat, i < s.size → bt s (i : Int) = bt t (i : Int)) : s = t := by
  apply ByteArray.ext
  apply Array.ext
  · simpa using hs
  · intro i h1 h2
    have h1' : i < s.size := by simpa using h1
    have h2' : i < t.size := by simpa using h2
    have e := h i h1'
    rw [bt_get s i h1', bt_get t i h2'] at e
    have e2 : (s[i]'h1').toNat = (t[i]'h2').toNat := by omega
    exact UInt8.toNat_inj.1 e2
theorem numS_inj {s t : ByteArray} {b c : Bool} (hs : s.size = t.size) (hvs : ValidS s) (hvt : ValidS t) (h : numS s b = numS t c) : s = t ∧ b = c := by
  unfold numS at h
  have hb : b = c := by cases b <;> cases c <;> simp at h <;> first | rfl | omega
  subst hb
  have hx : keptS s * 2 ^ s.size + outS s = keptS t * 2 ^ t.size + outS t := by omega
  have o1 := bitsN_lt (fun i => bt s (i : Int) == 99) s.size
  have o2 := bitsN_lt (fun i => bt t (i : Int) == 99) t.size
  have hp : 0 < 2 ^ s.size := Nat.two_pow_pos _
  have ho : outS s = outS t := by
    have e1 : (keptS s * 2 ^ s.size + outS s) % 2 ^ s.size = outS s := by rw [Nat.mul_comm, Nat.mul_add_mod]; exact Nat.mod_eq_of_lt o1
    have e2 : (keptS t * 2 ^ t.size + outS t) % 2 ^ t.size = outS t := by rw [Nat.mul_comm, Nat.mul_add_mod]; exact Nat.mod_eq_of_lt o2
    rw [← e1, ← e2, hx, hs]
  have hk : keptS s = keptS t := by
    rw [ho, ← hs] at hx
    exact Nat.eq_of_mul_eq_mul_right hp (by omega)
  refine ⟨state_ext hs fun i hi => ?_, rfl⟩
  have k1 := congrArg (fun m => Nat.testBit m i) hk
  have k2 := congrArg (fun m => Nat.testBit m i) ho
  simp only [keptS, outS, bitsN_bit, hi, show i < t.size from by omega, decide_true, Bool.true_and] at k1 k2
  rcases hvs i hi with e | e | e <;> rcases hvt i (by omega) with f | f | f <;> rw [e, f] at k1 k2 ⊢ <;> simp at k1 k2
theorem bitN_and (m : Nat) (hm : m < 9223372036854775808) : (Go.bits .and .i64 ((m : Int) / 2) 1 = 1) ↔ m.testBit 1 = true := by
  have e : ((m : Int) / 2) = shr .i64 (m : Int) ((1 : Nat) : Int) := by simp [shr, IntKind.bits]
  rw [e, bit_nat m 1 hm (by omega)]
  split <;> simp_all
theorem specOver_ev (p : Int) (l : List (List Int)) (hl : NetEdges l) (s : ByteArray) (hs : s.size = l.length) : Ev (fun k => spec_l10Over.f k p l (keptS s : Nat) (outS s : Nat)) (ovV l s) := by
  have hn := hl.1
  have two : ∀ n, n ≤ 10 → 2 ^ n ≤ 1024 := fun n h => Nat.pow_le_pow_right (by omega) h
  have hk : keptS s < 1024 := Nat.lt_of_lt_of_le (bitsN_lt _ _) (two _ (by omega))
  have ho : outS s < 1024 := Nat.lt_of_lt_of_le (bitsN_lt _ _) (two _ (by omega))
  have hw : IntKind.u64.wrap ((l.length : Nat) : Int) = (l.length : Int) := u64_nat _ (by omega)
  obtain ⟨c1, e1, L1⟩ := reachS_ev p l hl (keptS s) 0 (by omega) (by omega)
  have h2 := two l.length hn
  have hpos := Nat.two_pow_pos l.length
  have eall : Go.bits .andNot .i64 (wrap64 ((shl .i64 1 (l.length : Int)) - 1)) ((outS s : Nat) : Int) = ((butNat (2 ^ l.length - 1) (outS s) : Nat) : Int) := by
    rw [shl_nat _ (by omega)]
    have : wrap64 (((2 ^ l.length : Nat) : Int) - 1) = ((2 ^ l.length - 1 : Nat) : Int) := by
      generalize 2 ^ l.length = z at *
      unfold wrap64; omega
    rw [this, bits_but_nat _ _ (by omega) (by omega)]
  have hbut := butNat_lt (2 ^ l.length - 1) (outS s) (by omega) (by omega)
  obtain ⟨c2, e2, L2⟩ := reachS_ev p l hl (butNat (2 ^ l.length - 1) (outS s)) 0 (by omega) (by omega)
  have r1 : c1 = reachN (fun i => bt s (i : Int) == 115) l 0 := reachN_of hl (by omega) (L1.congr fun i hi => by
    simp only [keptS, bitsN_bit, show i < s.size from by omega, decide_true, Bool.true_and])
  have r2 : c2 = reachN (fun i => bt s (i : Int) != 99) l 0 := reachN_of hl (by omega) (L2.congr fun i hi => by
    show (butNat (2 ^ l.length - 1) (outS s)).testBit i = _
    rw [butNat_bit _ _ _ (by omega) (by omega), Nat.testBit_two_pow_sub_one]
    simp only [outS, bitsN_bit, hi, show i < s.size from by omega, decide_true, Bool.true_and]
    rfl)
  unfold spec_l10Over.f
  rw [hw]
  refine Ev.congr (fun k => by rw [if_pos (by omega)]) (Ev.bind (by simpa using e1) ?_)
  have hov : ovV l s = (if c1.testBit 1 = true then 1 else if c2.testBit 1 = true then 0 else 2) := by unfold ovV; rw [r1, r2]
  rw [hov]
  by_cases d1 : c1.testBit 1 = true
  · simp only [d1, if_true]
    exact Ev.congr (f := fun _ => some 1) (fun k => by rw [if_pos ((bitN_and c1 (by have := L1.1; omega)).2 d1)]) (Ev.now _)
  · simp only [d1, if_false]
    refine Ev.congr (fun k => by rw [if_neg (fun h => d1 ((bitN_and c1 (by have := L1.1; omega)).1 h))]) ?_
    rw [eall]
    refine Ev.bind (by simpa using e2) ?_
    have hz : (Go.bits .and .i64 ((c2 : Int) / 2) 1 = 0) ↔ ¬ c2.testBit 1 = true := by
      have e : ((c2 : Int) / 2) = shr .i64 (c2 : Int) ((1 : Nat) : Int) := by simp [shr, IntKind.bits]
      rw [e, bit_nat c2 1 (by have := L2.1; omega) (by omega)]
      split <;> simp_all
    by_cases d2 : c2.testBit 1 = true
    · exact Ev.congr (f := fun _ => some 0) (fun k => by rw [if_neg (fun h => hz.1 h d2)]) (Ev.congr (fun k => by simp [d2]) (Ev.now _))
    · exact Ev.congr (f := fun _ => some 2) (fun k => by rw [if_pos (hz.2 d2)]) (Ev.congr (fun k => by simp [d2]) (Ev.now _))
-- needs: 35 (the codes of a net and a state)
def charOk (b : UInt8) : Bool := b == 46 || b == 115 || b == 99
def stOk (l : List (List Int)) (s : ByteArray) : Bool := decide (s.size = l.length) && s.data.toList.all charOk
def stCode (p : Int) (l : List (List Int)) (s : ByteArray) : Int := if isNetV p l = true then (if stOk l s = true then 0 else 2) else 1
theorem dropWhile_nil {α : Type} (p : α → Bool) : ∀ (l : List α), l.dropWhile p = [] ↔ l.all p = true
  | [] => by simp
  | a :: l => by
    rw [List.dropWhile_cons, List.all_cons]
    cases h : p a
    · simp
    · simpa using dropWhile_nil p l
theorem all_dropWhile {α : Type} (p : α → Bool) : ∀ (l : List α), (l.dropWhile p).all p = true → l.all p = true
  | [], h => h
  | a :: l, h => by
    rw [List.dropWhile_cons] at h
    cases hp : p a
    · rw [hp] at h; simpa using h
    · rw [hp, if_pos rfl] at h
      rw [List.all_cons, hp, all_dropWhile p l h]; rfl
theorem trimS_nil (l cs : List UInt8) : Lib.trimS l cs = [] ↔ l.all (cs.contains ·) = true := by
  unfold Lib.trimS Lib.trimLeftS Lib.trimRightS
  rw [dropWhile_nil, List.all_reverse]
  constructor
  · intro h
    have := all_dropWhile _ _ h
    rwa [List.all_reverse] at this
  · intro h
    have h2 : l.reverse.all (cs.contains ·) = true := by rwa [List.all_reverse]
    rw [(dropWhile_nil _ _).2 h2]; rfl
theorem trim_ok (s : ByteArray) (hs : s.size ≤ 9223372036854775807) : ∃ t, strings_Trim.f s (⟨#[46, 115, 99]⟩ : ByteArray) = some t ∧ (t.toList == ([] : List UInt8)) = s.data.toList.all charOk := by
  refine ⟨trimV s ⟨#[46, 115, 99]⟩, ?_, ?_⟩
  · unfold strings_Trim.f
    rw [if_pos ⟨hs, by decide, by decide⟩]
  · have e : (trimV s ⟨#[46, 115, 99]⟩).toList = Lib.trimS s.data.toList [46, 115, 99] := by
      unfold trimV
      rw [Go.ByteArray.toList_eq]
    have ec : (fun b : UInt8 => ([46, 115, 99] : List UInt8).contains b) = charOk := by
      funext b; rw [Bool.eq_iff_iff]; simp [charOk, or_assoc]
    rw [e, Bool.eq_iff_iff, beq_iff_eq, trimS_nil, ec]
theorem implCode_ev (p : Int) (l : List (List Int)) (s : ByteArray) (hs : s.size ≤ 9223372036854775807) : Ev (fun k => impl_stateOfCode.f k p l s) (stCode p l s) := by
  have hf := fun b => first_ev (isNetV p l) b
  have hi : ∀ x y, impl_IsNet.f x y = some (isNetV x y) := fun _ _ => rfl
  unfold impl_stateOfCode.f stCode stOk
  by_cases h : s.size = l.length
  · obtain ⟨t, ht, hb⟩ := trim_ok s hs
    refine Ev.congr (f := fun k => impl_first.f k [⟨isNetV p l, 1⟩, ⟨s.data.toList.all charOk, 2⟩]) (fun k => ?_) ?_
    · rw [if_pos (by omega), ht]
      simp only [Option.bind_some, hi, hb]
      cases impl_first.f k [⟨isNetV p l, 1⟩, ⟨s.data.toList.all charOk, 2⟩] <;> rfl
    · rw [decide_eq_true h, Bool.true_and]; exact hf _
  · refine Ev.congr (f := fun k => impl_first.f k [⟨isNetV p l, 1⟩, ⟨false, 2⟩]) (fun k => ?_) ?_
    · rw [if_neg (by omega)]
      simp only [Option.bind_some, hi]
      cases impl_first.f k [⟨isNetV p l, 1⟩, ⟨false, 2⟩] <;> rfl
    · rw [decide_eq_false h, Bool.false_and]; exact hf false
theorem char_bt (s : ByteArray) (i : Nat) (h : i < s.size) : charOk (s.data.toList[i]'(by simpa using h)) = true ↔ (bt s (i : Int) = 46 ∨ bt s (i : Int) = 115 ∨ bt s (i : Int) = 99) := by
  rw [bt_data s i h]
  generalize s.data.toList[i]'(by simpa using h) = b
  have e : ∀ c : Nat, c < 256 → (((b.toNat : Int) = (c : Int)) ↔ b = UInt8.ofNat c) := fun c hc => by
    constructor
    · intro h
      apply UInt8.toNat_inj.1
      rw [UInt8.toNat_ofNat']
      omega
    · rintro rfl
      rw [UInt8.toNat_ofNat']
      omega
  unfold charOk
  rw [Bool.or_eq_true, Bool.or_eq_true, beq_iff_eq, beq_iff_eq, beq_iff_eq]
  have h1 := e 46 (by omega)
  have h2 := e 115 (by omega)
  have h3 := e 99 (by omega)
  constructor
  · rintro ((h | h) | h)
    · exact .inl (h1.2 h)
    · exact .inr (.inl (h2.2 h))
    · exact .inr (.inr (h3.2 h))
  · rintro (h | h | h)
    · exact .inl (.inl (h1.1 h))
    · exact .inl (.inr (h2.1 h))
    · exact .inr (h3.1 h)
theorem stOk_iff (l : List (List Int)) (s : ByteArray) : stOk l s = true ↔ (s.size = l.length ∧ ValidS s) := by
  unfold stOk
  rw [Bool.and_eq_true, decide_eq_true_iff, List.all_eq_true]
  refine and_congr_right fun _ => ⟨fun h i hi => ?_, fun h b hb => ?_⟩
  · exact (char_bt s i hi).1 (h _ (List.getElem_mem _))
  · obtain ⟨i, hi, rfl⟩ := List.getElem_of_mem hb
    have hi' : i < s.size := by simpa using hi
    exact (char_bt s i hi').2 (h i hi')
/-- The sets of a state, walked up to i. -/
theorem setsL_ev (s : ByteArray) (hn : s.size ≤ 10) : ∀ (d i : Nat), i + d = s.size → (∀ j : Nat, j < i → bt s (j : Int) = 46 ∨ bt s (j : Int) = 115 ∨ bt s (j : Int) = 99) →
    Ev (fun k => spec_l10Sets.l0 k s (bitsN (fun j => bt s (j : Int) == 115) i : Nat) (bitsN (fun j => bt s (j : Int) == 99) i : Nat) (i : Int)) (if s.data.toList.all charOk = true then ((keptS s : Int), (outS s : Int), true) else (0, 0, false)) := by
  intro d
  induction d with
  | zero =>
    intro i hi hv
    obtain rfl : i = s.size := by omega
    have ha : s.data.toList.all charOk = true := List.all_eq_true.2 fun b hb => by
      obtain ⟨j, hj, rfl⟩ := List.getElem_of_mem hb
      have hj' : j < s.size := by simpa using hj
      exact (char_bt s j hj').2 (hv j hj')
    refine Ev.step (f := fun _ => some ((keptS s : Int), (outS s : Int), true)) (fun k => ?_) (Ev.congr (fun k => by rw [if_pos ha]) (Ev.now _))
    simp only [spec_l10Sets.l0]
    rw [if_neg (by omega)]; rfl
  | succ d ih =>
    intro i hi hv
    have hlt : i < s.size := by omega
    have hu : IntKind.u64.wrap (i : Int) = (i : Int) := u64_nat i (by omega)
    have hw : wrap64 ((i : Int) + 1) = ((i + 1 : Nat) : Int) := by unfold wrap64; omega
    have hsh : shl .i64 1 (i : Int) = ((2 ^ i : Nat) : Int) := shl_nat i (by omega)
    have h2i : 2 ^ i ≤ 1024 := Nat.pow_le_pow_right (by omega) (by omega : i ≤ 10)
    have k1 : bitsN (fun j => bt s (j : Int) == 115) i < 1024 := Nat.lt_of_lt_of_le (bitsN_lt _ _) h2i
    have k2 : bitsN (fun j => bt s (j : Int) == 99) i < 1024 := Nat.lt_of_lt_of_le (bitsN_lt _ _) h2i
    by_cases h1 : bt s (i : Int) = 115
    · have := ih (i + 1) (by omega) (fun j hj => by
        by_cases e : j = i
        · subst e; exact .inr (.inl h1)
        · exact hv j (by omega))
      rw [show bitsN (fun j => bt s (j : Int) == 115) (i + 1) = bitsN (fun j => bt s (j : Int) == 115) i ||| 2 ^ i from by rw [bitsN, if_pos (by rw [h1]; rfl)], show bitsN (fun j => bt s (j : Int) == 99) (i + 1) = bitsN (fun j => bt s (j : Int) == 99) i from by rw [bitsN, if_neg (by rw [h1]; decide)]] at this
      refine Ev.step (fun k => ?_) this
      simp only [spec_l10Sets.l0]
      rw [if_pos (by omega), if_pos (by omega), if_pos h1, hu, if_pos (by omega), hsh, bits_or_nat _ _ (by omega) (by omega), hw]
    · by_cases h2 : bt s (i : Int) = 99
      · have := ih (i + 1) (by omega) (fun j hj => by
          by_cases e : j = i
          · subst e; exact .inr (.inr h2)
          · exact hv j (by omega))
        rw [show bitsN (fun j => bt s (j : Int) == 115) (i + 1) = bitsN (fun j => bt s (j : Int) == 115) i from by rw [bitsN, if_neg (by rw [h2]; decide)], show bitsN (fun j => bt s (j : Int) == 99) (i + 1) = bitsN (fun j => bt s (j : Int) == 99) i ||| 2 ^ i from by rw [bitsN, if_pos (by rw [h2]; rfl)]] at this
        refine Ev.step (fun k => ?_) this
        simp only [spec_l10Sets.l0]
        rw [if_pos (by omega), if_pos (by omega), if_neg h1, if_pos h2, hu, if_pos (by omega), hsh, bits_or_nat _ _ (by omega) (by omega), hw]
      · by_cases h3 : bt s (i : Int) = 46
        · have := ih (i + 1) (by omega) (fun j hj => by
            by_cases e : j = i
            · subst e; exact .inl h3
            · exact hv j (by omega))
          rw [show bitsN (fun j => bt s (j : Int) == 115) (i + 1) = bitsN (fun j => bt s (j : Int) == 115) i from by rw [bitsN, if_neg (by rw [h3]; decide)], show bitsN (fun j => bt s (j : Int) == 99) (i + 1) = bitsN (fun j => bt s (j : Int) == 99) i from by rw [bitsN, if_neg (by rw [h3]; decide)]] at this
          refine Ev.step (fun k => ?_) this
          simp only [spec_l10Sets.l0]
          rw [if_pos (by omega), if_pos (by omega), if_neg h1, if_neg h2, if_pos h3, hw]
        · have hna : ¬ s.data.toList.all charOk = true := fun ha => by
            have := (char_bt s i hlt).1 (List.all_eq_true.1 ha _ (List.getElem_mem _))
            omega
          refine Ev.step (f := fun _ => some (0, 0, false)) (fun k => ?_) (Ev.congr (fun k => by rw [if_neg hna]) (Ev.now _))
          simp only [spec_l10Sets.l0]
          rw [if_pos (by omega), if_pos (by omega), if_neg h1, if_neg h2, if_neg h3]
theorem specSets_ev (p : Int) (l : List (List Int)) (s : ByteArray) (hl : l.length ≤ 10) : Ev (fun k => spec_l10Sets.f k p l s) (if stOk l s = true then ((keptS s : Int), (outS s : Int), true) else (0, 0, false)) := by
  unfold spec_l10Sets.f stOk
  by_cases h : s.size = l.length
  · have := setsL_ev s (by omega) s.size 0 (by omega) (fun j hj => by omega)
    refine Ev.congr (fun k => by rw [if_pos (by omega)]) (Ev.congr (fun k => rfl) ?_)
    rw [decide_eq_true h, Bool.true_and]
    exact this
  · rw [decide_eq_false h, Bool.false_and, if_neg (by simp)]
    exact Ev.congr (f := fun _ => some (0, 0, false)) (fun k => by rw [if_neg (by omega)]) (Ev.now _)
theorem specCode_ev (p : Int) (l : List (List Int)) (s : ByteArray) (hl : l.length ≤ 9223372036854775807) : Ev (fun k => spec_l10Code.f k p l s) (stCode p l s) := by
  unfold spec_l10Code.f stCode
  refine Ev.bind (l10Is_ev p l hl) ?_
  by_cases h : isNetV p l = true
  · rw [if_pos h]
    refine Ev.congr (fun k => by rw [if_pos h]) (Ev.bind (specSets_ev p l s (netEdges h).1.1) ?_)
    by_cases h2 : stOk l s = true
    · exact Ev.congr (f := fun _ => some 0) (fun k => by simp [h2]) (Ev.congr (fun k => by rw [if_pos h2]) (Ev.now _))
    · exact Ev.congr (f := fun _ => some 2) (fun k => by simp [h2]) (Ev.congr (fun k => by rw [if_neg h2]) (Ev.now _))
  · rw [if_neg h]
    exact Ev.congr (f := fun _ => some 1) (fun k => by rw [if_neg h]) (Ev.now _)
theorem stCode_zero {p : Int} {l : List (List Int)} {s : ByteArray} (h : stCode p l s = 0) : isNetV p l = true ∧ stOk l s = true := by
  unfold stCode at h
  by_cases h1 : isNetV p l = true
  · rw [if_pos h1] at h
    by_cases h2 : stOk l s = true
    · exact ⟨h1, h2⟩
    · rw [if_neg h2] at h; omega
  · rw [if_neg h1] at h; omega
/-- The one pure statement of laws_FnExactStateOver. -/
def laws_FnExactStateOver.Pure : Prop := ∀ (a0_0 : Int) (l0_1 : List (List Int)) (a1 : ByteArray), (Lit.int .i64 a0_0).wf = true → (l0_1.length ≤ maxLen ∧ ∀ y1_ ∈ l0_1, (y1_.length ≤ maxLen ∧ ∀ y2_ ∈ y1_, (Lit.int .i64 y2_).wf = true)) → a1.size ≤ maxLen → ∃ k, laws_FnExactStateOver.f k a0_0 l0_1 a1 = some true
/-- A type's readings as data are values of a kind: what an argument of that type is, whatever it holds. -/
def Rdb {α : Type} (P : Program) (t : TypeId) (d : Kd α) (wf : α → Prop) : Prop :=
  ∀ (H : Type) (enc : TypeId × Value → H) (w : World) (base : Nat) (spare : Nat → Bool) (held : Bool) (fuel : Nat) (cs : List Value) (x : DataW H × List MemPlace),
    DataW.trod enc P w base spare held fuel t cs = some x → ∃ a : α, d.K w a cs ∧ wf a
theorem Rdb.int {P : Program} {t : TypeId} {k : IntKind} (ht : P.underlying t = some (.int k)) : Rdb P t (Kd.int k) (fun n => (Lit.int k n).wf = true) := by
  intro H enc w base spare held fuel cs x h
  obtain ⟨n, rfl, _, hw⟩ := DataW.trod_int ht h
  exact ⟨n, rfl, hw⟩
theorem Rdb.bool {P : Program} {t : TypeId} (ht : P.underlying t = some .bool) : Rdb P t Kd.bool (fun _ => True) := by
  intro H enc w base spare held fuel cs x h
  obtain ⟨n, rfl, _⟩ := DataW.trod_bool ht h
  exact ⟨n, rfl, trivial⟩
theorem Rdb.string {P : Program} {t : TypeId} (ht : P.underlying t = some .string) : Rdb P t Kd.string (fun s => s.size ≤ maxLen) := by
  intro H enc w base spare held fuel cs x h
  obtain ⟨s, rfl, _, hs⟩ := DataW.trod_string ht h
  exact ⟨s, rfl, hs⟩
theorem list_choose {α β : Type} {R : Nat → α → β → Prop} : ∀ (n : Nat) (xs : List α), xs.length = n → (∀ i x, xs[i]? = some x → ∃ y, R i x y) → ∃ ys : List β, ys.length = n ∧ ∀ i x y, xs[i]? = some x → ys[i]? = some y → R i x y := by
  intro n xs
  induction xs generalizing n R with
  | nil =>
    intro hl _
    exact ⟨[], by simpa using hl, by intro i x y h; simp at h⟩
  | cons x xs ih =>
    intro hl h
    obtain ⟨y, hy⟩ := h 0 x rfl
    obtain ⟨ys, h1, h2⟩ := ih (R := fun i a b => R (i + 1) a b) (n - 1) (by simp at hl; omega) (fun i a hi => h (i + 1) a (by simpa using hi))
    refine ⟨y :: ys, by simp at hl ⊢; omega, fun i a b ha hb => ?_⟩
    cases i with
    | zero =>
      simp at ha hb
      subst ha hb
      exact hy
    | succ i => exact h2 i a b (by simpa using ha) (by simpa using hb)
theorem Rdb.slice {α : Type} {P : Program} {t e : TypeId} {d : Kd α} {wf : α → Prop} (ht : P.underlying t = some (.slice e)) (hc : P.cellsOf e = d.sz) (h1 : 0 < d.sz) (r : Rdb P e d wf) :
    Rdb P t (Kd.slice e d) (fun l => l.length ≤ maxLen ∧ ∀ x ∈ l, wf x) := by
  intro H enc w base spare held fuel cs x h
  rcases DataW.trod_slice ht h with ⟨rfl, _⟩ | ⟨a, len, cap, elems, rest, n, _, rfl, _, hb, hl, hm, hlen, hel, _, _⟩
  · exact ⟨[], ⟨none, 0, rfl, by simp, Kd.C_nil _ _⟩, by simp, by simp⟩
  · have each : ∀ i (y : DataW H × List MemPlace), elems[i]? = some y → ∃ b : α, ∃ c, w.cells? base (a.add (i * P.cellsOf e)) (P.cellsOf e) = some c ∧ d.K w b c ∧ wf b := by
      intro i y hy
      have hi : i < len := by have := (List.getElem?_eq_some_iff.1 hy).1; omega
      have h2 := hel i hi
      rw [hy, Option.bind_eq_some_iff] at h2
      obtain ⟨c, hcs, htr⟩ := h2
      obtain ⟨b, hK, hw⟩ := r H enc w base spare held n c y htr
      exact ⟨b, c, hcs, hK, hw⟩
    obtain ⟨xs, hx1, hx2⟩ := list_choose (R := fun i _ (b : α) => ∃ c, w.cells? base (a.add (i * P.cellsOf e)) (P.cellsOf e) = some c ∧ d.K w b c ∧ wf b) len elems hlen each
    have get : ∀ i b, xs[i]? = some b → ∃ c, w.cells? base (a.add (i * P.cellsOf e)) (P.cellsOf e) = some c ∧ d.K w b c ∧ wf b := by
      intro i b hb'
      have hi : i < elems.length := by have := (List.getElem?_eq_some_iff.1 hb').1; omega
      exact hx2 i _ b (List.getElem?_eq_getElem hi) hb'
    refine ⟨xs, ⟨some a, cap, by rw [hx1], by omega, ?_⟩, by omega, fun b hb' => ?_⟩
    · refine ⟨rfl, by rw [hx1]; unfold maxLen at hm; omega, fun hp => ⟨a, rfl, fun j b hj => ?_⟩⟩
      obtain ⟨c, hcs, hK, _⟩ := get j b hj
      obtain ⟨_, hcl, hcell⟩ := World.cells?_some hcs
      refine ⟨c, by rw [hcl, hc], hK, fun i u hu => ?_⟩
      have hi : i < P.cellsOf e := by have := (List.getElem?_eq_some_iff.1 hu).1; omega
      have := hcell i hi
      rw [hu] at this
      rw [Addr.add_add] at this
      rw [← hc]
      exact this
    · obtain ⟨i, hi⟩ := List.mem_iff_getElem?.1 hb'
      obtain ⟨_, _, _, hw⟩ := get i b hi
      exact hw
theorem take_all {α : Type} {cs : List α} {n : Nat} (h : cs.length = n) : cs.take n = cs := by rw [← h, List.take_length]
theorem Rdb.struct1 {α : Type} {P : Program} {t : TypeId} {f0 : Field} {d0 : Kd α} {w0 : α → Prop} (ht : P.underlying t = some (.struct #[f0])) (o0 : f0.offset = 0) (c0 : P.cellsOf f0.type = P.cellsOf t) (r0 : Rdb P f0.type d0 w0) : Rdb P t d0 w0 := by
  intro H enc w base spare held fuel cs x h
  obtain ⟨y0, n, _, hl, h0⟩ := ChangeShapes.trod_struct1 ht h
  rw [o0, List.drop_zero, c0, take_all hl] at h0
  exact r0 H enc w base spare held n cs y0 h0
theorem Rdb.struct2 {α β : Type} {P : Program} {t : TypeId} {f0 f1 : Field} {d0 : Kd α} {d1 : Kd β} {w0 : α → Prop} {w1 : β → Prop} (ht : P.underlying t = some (.struct #[f0, f1])) (o0 : f0.offset = 0) (o1 : f1.offset = P.cellsOf f0.type) (cT : P.cellsOf t = P.cellsOf f0.type + P.cellsOf f1.type)
    (r0 : Rdb P f0.type d0 w0) (r1 : Rdb P f1.type d1 w1) : Rdb P t (Kd.pair d0 d1) (fun x => w0 x.1 ∧ w1 x.2) := by
  intro H enc w base spare held fuel cs x h
  obtain ⟨y0, y1, n, _, hl, h0, h1⟩ := ChangeShapes.trod_struct2 ht h
  rw [o0, List.drop_zero] at h0
  rw [o1, List.take_of_length_le (by rw [List.length_drop, hl, cT]; omega)] at h1
  obtain ⟨a, hK0, hw0⟩ := r0 H enc w base spare held n _ y0 h0
  obtain ⟨b, hK1, hw1⟩ := r1 H enc w base spare held n _ y1 h1
  exact ⟨(a, b), ⟨_, _, (List.take_append_drop _ _).symm, hK0, hK1⟩, hw0, hw1⟩
theorem Rdb.struct3 {α β γ : Type} {P : Program} {t : TypeId} {f0 f1 f2 : Field} {d0 : Kd α} {d1 : Kd β} {d2 : Kd γ} {w0 : α → Prop} {w1 : β → Prop} {w2 : γ → Prop} (ht : P.underlying t = some (.struct #[f0, f1, f2])) (o0 : f0.offset = 0) (o1 : f1.offset = P.cellsOf f0.type)
    (o2 : f2.offset = P.cellsOf f0.type + P.cellsOf f1.type) (cT : P.cellsOf t = P.cellsOf f0.type + P.cellsOf f1.type + P.cellsOf f2.type)
    (r0 : Rdb P f0.type d0 w0) (r1 : Rdb P f1.type d1 w1) (r2 : Rdb P f2.type d2 w2) : Rdb P t (Kd.pair d0 (Kd.pair d1 d2)) (fun x => w0 x.1 ∧ w1 x.2.1 ∧ w2 x.2.2) := by
  intro H enc w base spare held fuel cs x h
  obtain ⟨xs, n, _, _, hl, hxl, hf⟩ := DataW.trod_struct ht h
  match xs, hxl with
  | [y0, y1, y2], _ =>
    have h0 : DataW.trod enc P w base spare held n f0.type ((cs.drop f0.offset).take (P.cellsOf f0.type)) = some y0 := by simpa using hf 0 f0 rfl
    have h1 : DataW.trod enc P w base spare held n f1.type ((cs.drop f1.offset).take (P.cellsOf f1.type)) = some y1 := by simpa using hf 1 f1 rfl
    have h2 : DataW.trod enc P w base spare held n f2.type ((cs.drop f2.offset).take (P.cellsOf f2.type)) = some y2 := by simpa using hf 2 f2 rfl
    rw [o0, List.drop_zero] at h0
    rw [o1] at h1
    rw [o2, List.take_of_length_le (by rw [List.length_drop, hl, cT]; omega)] at h2
    obtain ⟨a, hK0, hw0⟩ := r0 H enc w base spare held n _ y0 h0
    obtain ⟨b, hK1, hw1⟩ := r1 H enc w base spare held n _ y1 h1
    obtain ⟨c, hK2, hw2⟩ := r2 H enc w base spare held n _ y2 h2
    refine ⟨(a, b, c), ⟨_, _, (List.take_append_drop (P.cellsOf f0.type) cs).symm, hK0, _, _, ?_, hK1, hK2⟩, hw0, hw1, hw2⟩
    rw [← List.drop_drop, List.take_append_drop]
theorem Rdb.iso {α β : Type} {P : Program} {t : TypeId} {d : Kd α} {wf : α → Prop} (r : Rdb P t d wf) (f : β → α) (g : α → β) (hfg : ∀ a, f (g a) = a) : Rdb P t (Kd.iso d f) (fun b => wf (f b)) := by
  intro H enc w base spare held fuel cs x h
  obtain ⟨a, hK, hw⟩ := r H enc w base spare held fuel cs x h
  exact ⟨g a, by show d.K w (f (g a)) cs; rw [hfg]; exact hK, by show wf (f (g a)); rw [hfg]; exact hw⟩
theorem Rdb.of {α : Type} {P : Program} {t : TypeId} {d : Kd α} {wf : α → Prop} (r : Rdb P t d wf) {H : Type} {enc : TypeId × Value → H} {w : World} {base : Nat} {spare : Nat → Bool} {held : Bool} {v : Value} {x : DataW H} {ps : List MemPlace}
    (h : DataW.Trod enc P w base spare held t v x ps) : ∃ a : α, d.K w a v.cells.toList ∧ wf a := by
  obtain ⟨fuel, hf⟩ := h
  exact r H enc w base spare held fuel _ _ hf

end Go.Proofs.YtcjeccohlmmfoaaDoor.F
