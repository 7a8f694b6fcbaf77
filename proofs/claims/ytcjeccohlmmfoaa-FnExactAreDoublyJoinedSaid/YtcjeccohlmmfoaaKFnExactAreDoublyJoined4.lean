-- written by the session's program xp.py over the kit's print program, and by hand; texts joined by pack.py
import Derived.Test.YtcjeccohlmmfoaaKFnExactAreDoublyJoined3
namespace Go.Proofs.Ytcjeccohlmmfoaa.F
open Go.RowKit Go.Proofs.YtcjeccohlmmfoaaW.PrintWords Go.Proofs.YtcjeccohlmmfoaaW.PrintLast Go.Proofs.YtcjeccohlmmfoaaW.PrintMore
attribute [local go_sem] max2_int min2_int max_two min_two max_three min_three max_four min_four   -- for this text's walks alone
set_option linter.unusedVariables false
set_option linter.unusedSimpArgs false

/-! ### laws_FnExactAreDoublyJoined: function 6 -/
def laws_FnExactAreDoublyJoined.j0 : Nat → List Int → List Int → Bool → Int → List (List Int) → Int → List (List Int) → Option (Bool)
 | 0, _, _, _, _, _, _, _ => none
 | k + 1, x1, x9, x45, x253000, x253001, x268000, x268001 => if x45 = true then (some false) else ((laws_toNet.f k x253000 x253001).bind fun bt273 => ((laws_eqNet.f k x268000 x268001 bt273.1 bt273.2).bind fun t277 => (if t277 = true then ((laws_toInt64S.f k x1).bind fun t278 => ((laws_eqInt64S.f k x9 t278).bind fun t281 => (if t281 = true then (some true) else (some false)))) else (some false))))
def laws_FnExactAreDoublyJoined.f (k : Nat) (a0_0 : Int) (l0_1 : List (List Int)) (l1 : List Int) : Option (Bool) := if (l1.length : Int) > 1048576 then (some true) else ((laws_szNet.f k a0_0 l0_1 1048576).bind fun t253 => (if t253 < 0 then (some true) else ((laws_toNet.f k a0_0 l0_1).bind fun bt254 => ((laws_toInt64S.f k l1).bind fun t258 => ((spec_AreDoublyJoined.f k bt254.1 bt254.2 t258).bind fun bt261 => ((laws_toNet.f k a0_0 l0_1).bind fun bt263 => ((laws_toInt64S.f k l1).bind fun t268 => ((impl_AreDoublyJoined.f k bt263.1 bt263.2 t268).bind fun bt271 => (if (bt271.1 != bt261.1) = true then (laws_FnExactAreDoublyJoined.j0 k l1 t268 true a0_0 l0_1 bt263.1 bt263.2) else (laws_FnExactAreDoublyJoined.j0 k l1 t268 (bt271.2 != bt261.2) a0_0 l0_1 bt263.1 bt263.2))))))))))
theorem laws_FnExactAreDoublyJoined.mono_l : ∀ k, (∀ y0 y1 y2 y3 y4 y5 y6, LeO (laws_FnExactAreDoublyJoined.j0 k y0 y1 y2 y3 y4 y5 y6) (laws_FnExactAreDoublyJoined.j0 (k + 1) y0 y1 y2 y3 y4 y5 y6))
 | 0 => fun _ _ _ _ _ _ _ r h => by simp [laws_FnExactAreDoublyJoined.j0] at h
 | k + 1 => by
  have ih0 := laws_FnExactAreDoublyJoined.mono_l k
  ·intro y0 y1 y2 y3 y4 y5 y6
   unfold laws_FnExactAreDoublyJoined.j0
   repeat' first
   | (with_reducible exact ih0 _ _ _ _ _ _ _)
   | (with_reducible exact impl_AreDoublyJoined.mono _ _ _ _)
   | (with_reducible exact laws_eqInt64S.mono _ _ _)
   | (with_reducible exact laws_eqNet.mono _ _ _ _ _)
   | (with_reducible exact laws_szNet.mono _ _ _ _)
   | (with_reducible exact laws_toInt64S.mono _ _)
   | (with_reducible exact laws_toNet.mono _ _ _)
   | (with_reducible exact spec_AreDoublyJoined.mono _ _ _ _)
   | (with_reducible exact LeO.refl _)
   | (with_reducible exact LeO.none _)
   | (with_reducible refine LeO.ite ?_ ?_)
   | (with_reducible refine LeO.bind ?_ (fun _ => ?_))
   | exact ih0 _ _ _ _ _ _ _
   | exact impl_AreDoublyJoined.mono _ _ _ _
   | exact laws_eqInt64S.mono _ _ _
   | exact laws_eqNet.mono _ _ _ _ _
   | exact laws_szNet.mono _ _ _ _
   | exact laws_toInt64S.mono _ _
   | exact laws_toNet.mono _ _ _
   | exact spec_AreDoublyJoined.mono _ _ _ _
   | exact LeO.none _
   | refine LeO.ite ?_ ?_
   | refine LeO.bind ?_ (fun _ => ?_)
theorem laws_FnExactAreDoublyJoined.mono : ∀ a0 a1 a2 k, LeO (laws_FnExactAreDoublyJoined.f k a0 a1 a2) (laws_FnExactAreDoublyJoined.f (k + 1) a0 a1 a2) := by
 intro a0 a1 a2 k
 have ih0 := laws_FnExactAreDoublyJoined.mono_l k
 unfold laws_FnExactAreDoublyJoined.f
 repeat' first
   | (with_reducible exact ih0 _ _ _ _ _ _ _)
   | (with_reducible exact impl_AreDoublyJoined.mono _ _ _ _)
   | (with_reducible exact laws_eqInt64S.mono _ _ _)
   | (with_reducible exact laws_eqNet.mono _ _ _ _ _)
   | (with_reducible exact laws_szNet.mono _ _ _ _)
   | (with_reducible exact laws_toInt64S.mono _ _)
   | (with_reducible exact laws_toNet.mono _ _ _)
   | (with_reducible exact spec_AreDoublyJoined.mono _ _ _ _)
   | (with_reducible exact LeO.refl _)
   | (with_reducible exact LeO.none _)
   | (with_reducible refine LeO.ite ?_ ?_)
   | (with_reducible refine LeO.bind ?_ (fun _ => ?_))
   | exact ih0 _ _ _ _ _ _ _
   | exact impl_AreDoublyJoined.mono _ _ _ _
   | exact laws_eqInt64S.mono _ _ _
   | exact laws_eqNet.mono _ _ _ _ _
   | exact laws_szNet.mono _ _ _ _
   | exact laws_toInt64S.mono _ _
   | exact laws_toNet.mono _ _ _
   | exact spec_AreDoublyJoined.mono _ _ _ _
   | exact LeO.none _
   | refine LeO.ite ?_ ?_
   | refine LeO.bind ?_ (fun _ => ?_)
set_option maxHeartbeats 8000000 in
set_option maxRecDepth 100000 in
theorem laws_FnExactAreDoublyJoined.calls (k : Nat) (a0_0 : Int) (A0_1 : Option Addr) (c0_1 : Nat) (l0_1 : List (List Int)) (A1 : Option Addr) (c1 : Nat) (l1 : List Int) (r : Bool) (w : World) (hr0_1 : Kd.C (Kd.slice 2 (Kd.int .i64)) w A0_1 l0_1.length l0_1) (hc0_1 : l0_1.length ≤ c0_1) (hr1 : Kd.C (Kd.int .i64) w A1 l1.length l1) (hc1 : l1.length ≤ c1) (h : laws_FnExactAreDoublyJoined.f k a0_0 l0_1 l1 = some r) :
  Calls Try.prog 6 #[.agg #[.int .i64 a0_0, .slice A0_1 l0_1.length c0_1], .slice A1 l1.length c1] w fun e w' => e = .returned (.bool r) ∧ Below w.heap.size w w' := by
 have hu30 := Try.underlying30
 have hu33 := Try.underlying33
 have HR0_1 := Aside0.mk hr0_1
 have HC0_1 := Aside0.mk hc0_1
 clear hr0_1 hc0_1
 have HR1 := Aside0.mk hr1
 have HC1 := Aside0.mk hc1
 clear hr1 hc1
 have HB := Aside0.mk (Below.refl w.heap.size w)
 have H : (if (l1.length : Int) > 1048576 then (some true) else ((laws_szNet.f k a0_0 l0_1 1048576).bind fun t253 => (if t253 < 0 then (some true) else ((laws_toNet.f k a0_0 l0_1).bind fun bt254 => ((laws_toInt64S.f k l1).bind fun t258 => ((spec_AreDoublyJoined.f k bt254.1 bt254.2 t258).bind fun bt261 => ((laws_toNet.f k a0_0 l0_1).bind fun bt263 => ((laws_toInt64S.f k l1).bind fun t268 => ((impl_AreDoublyJoined.f k bt263.1 bt263.2 t268).bind fun bt271 => (if (bt271.1 != bt261.1) = true then (laws_FnExactAreDoublyJoined.j0 k l1 t268 true a0_0 l0_1 bt263.1 bt263.2) else (laws_FnExactAreDoublyJoined.j0 k l1 t268 (bt271.2 != bt261.2) a0_0 l0_1 bt263.1 bt263.2))))))))))) = some r := h
 clear h
 by_cases c3 : (l1.length : Int) > 1048576
 ·rw [if_pos c3] at H
  have c3b0 : decide (1048576 < (l1.length : Int)) = true := decide_eq_true c3
  have c3b1 : decide (1048576 < l1.length) = true := decide_eq_true (by omega)
  clear c3
  obtain rfl := Option.some.inj H
  go_enter Try.func6, Try.ntmps6
  go_wp2_with (first | ((with_reducible refine gate_dst (N := 2) rfl ?_); refine box_event ?hg (N := 2) ?hd (cs := #[.int .i64 a0_0, .slice A0_1 l0_1.length c0_1]) (t := 30) ?hr ?_; (case hd => rfl); (case hg => rfl); (case hr => first | (go_simp; done) | (go_simp; rfl)); intro gb252 hg w4 hbox hb; have n0_ := Aside0.mk (below_step (by repeat (first | (with_reducible first | exact HB.out | apply below_alloc | apply pw_below_drewN | apply below_drew1) | exact HB.out)) hb); have n1_ := Aside0.mk (hbox); have n2_ := Aside0.mk ((by rw [hg]; exact (below_size (by repeat (first | (with_reducible first | exact HB.out | apply below_alloc | apply pw_below_drewN | apply below_drew1) | exact HB.out))) : w.heap.size ≤ gb252)); have n3_ := Aside0.mk ((by rw [hg]; exact (below_size (by repeat (first | (with_reducible first | exact HB.out | apply below_alloc | apply pw_below_drewN | apply below_drew1) | exact HB.out))) : w.heap.size ≤ gb252)); clear HB; have HB := n0_; have BK252 := n1_; have GW252 := n2_; have GE252 := n3_; clear n0_ n1_ n2_ n3_; clear hb hbox hg))
  go_ret
  exact ⟨by first | rfl | (simp [errW_none, errW_some] <;> rfl) | (simp [*, errW_none, errW_some] <;> rfl), by repeat (first | (with_reducible first | exact HB.out | apply below_alloc | apply pw_below_drewN | apply below_drew1 | refine below_set ?_ GE252.out) | exact HB.out)⟩
 ·rw [if_neg c3] at H
  have c3b0 : decide (1048576 < (l1.length : Int)) = false := decide_eq_false c3
  have c3b1 : decide (1048576 < l1.length) = false := decide_eq_false (by omega)
  clear c3
  replace H := Option.bind_eq_some_iff.mp H
  obtain ⟨t253, A50, H⟩ := H
  replace H : (if t253 < 0 then (some true) else ((laws_toNet.f k a0_0 l0_1).bind fun bt254 => ((laws_toInt64S.f k l1).bind fun t258 => ((spec_AreDoublyJoined.f k bt254.1 bt254.2 t258).bind fun bt261 => ((laws_toNet.f k a0_0 l0_1).bind fun bt263 => ((laws_toInt64S.f k l1).bind fun t268 => ((impl_AreDoublyJoined.f k bt263.1 bt263.2 t268).bind fun bt271 => (if (bt271.1 != bt261.1) = true then (laws_FnExactAreDoublyJoined.j0 k l1 t268 true a0_0 l0_1 bt263.1 bt263.2) else (laws_FnExactAreDoublyJoined.j0 k l1 t268 (bt271.2 != bt261.2) a0_0 l0_1 bt263.1 bt263.2))))))))) = some r := H
  have A5 := Aside0.mk A50
  clear A50
  by_cases c6 : t253 < 0
  ·rw [if_pos c6] at H
   have c6b0 : decide (t253 < 0) = true := decide_eq_true c6
   clear c6
   obtain rfl := Option.some.inj H
   go_enter Try.func6, Try.ntmps6
   go_wp2_with (first | ((with_reducible refine gate_dst (N := 2) rfl ?_); refine box_event ?hg (N := 2) ?hd (cs := #[.int .i64 a0_0, .slice A0_1 l0_1.length c0_1]) (t := 30) ?hr ?_; (case hd => rfl); (case hg => rfl); (case hr => first | (go_simp; done) | (go_simp; rfl)); intro gb252 hg w7 hbox hb; have n0_ := Aside0.mk (below_step (by repeat (first | (with_reducible first | exact HB.out | apply below_alloc | apply pw_below_drewN | apply below_drew1) | exact HB.out)) hb); have n1_ := Aside0.mk (hbox); have n2_ := Aside0.mk ((by rw [hg]; exact (below_size (by repeat (first | (with_reducible first | exact HB.out | apply below_alloc | apply pw_below_drewN | apply below_drew1) | exact HB.out))) : w.heap.size ≤ gb252)); have n3_ := Aside0.mk ((by rw [hg]; exact (below_size (by repeat (first | (with_reducible first | exact HB.out | apply below_alloc | apply pw_below_drewN | apply below_drew1) | exact HB.out))) : w.heap.size ≤ gb252)); clear HB; have HB := n0_; have BK252 := n1_; have GW252 := n2_; have GE252 := n3_; clear n0_ n1_ n2_ n3_; clear hb hbox hg; have hcz8_0 : w7.cell? ⟨gb252, 0, none⟩ = some (.int .i64 a0_0) := (blk_cell BK252.out 0).trans rfl; have hcz8_1 : w7.cell? ⟨gb252, 1, none⟩ = some (.slice A0_1 l0_1.length c0_1) := (blk_cell BK252.out 1).trans rfl; have hfz8_0 := blk_frozen BK252.out 0; have hfz8_1 := blk_frozen BK252.out 1) | ((with_reducible refine gate_callee (f := 16) rfl ?_); refine goesL_ (some 17) rfl rfl Try.func16 (by kernel_rfl) rfl #[.agg #[.int .i64 a0_0, .slice A0_1 l0_1.length c0_1], .int .i64 1048576] rfl (by (try simp only [List.map_toArray, List.map_cons, List.map_nil]); first | done | rfl | (simp only [List.length_drop, List.length_take]; rfl)) ?_; (with_reducible refine (laws_szNet.calls k a0_0 _ _ l0_1 1048576 t253 _ ?side1 ?side2 A5.out).mono ?_); (case side1 => repeat (first | exact (Kd.C_below HR0_1.out HB.out) | (with_reducible refine Kd.C_alloc ?_ _) | (with_reducible refine Kd.C_drewN ?_ _) | (with_reducible refine Kd.C_drew ?_))); (case side2 => exact HC0_1.out); rintro e w9 ⟨rfl, hb⟩; refine ⟨_, rfl, ?_⟩; have n0_ := Aside0.mk (blk_below (g := gb252) (o := .cells #[.int .i64 a0_0, .slice A0_1 l0_1.length c0_1] 30 (0, 0)) (by (with_reducible repeat (first | refine blk_drewN ?_ _ | refine blk_drew ?_ | refine blk_alloc ?_ _)); exact BK252.out) hb); have n1_ := Aside0.mk (below_step (by repeat (first | (with_reducible first | exact HB.out | apply below_alloc | apply pw_below_drewN | apply below_drew1 | refine below_set ?_ GE252.out) | exact HB.out)) hb); clear BK252; clear HB; have BK252 := n0_; have HB := n1_; clear n0_ n1_; (try clear hb); (try clear hb2); (try clear hk); (try clear hi)))
   go_ret
   exact ⟨by first | rfl | (simp [errW_none, errW_some] <;> rfl) | (simp [*, errW_none, errW_some] <;> rfl), by repeat (first | (with_reducible first | exact HB.out | apply below_alloc | apply pw_below_drewN | apply below_drew1 | refine below_set ?_ GE252.out) | exact HB.out)⟩
  ·rw [if_neg c6] at H
   have c6b0 : decide (t253 < 0) = false := decide_eq_false c6
   clear c6
   replace H := Option.bind_eq_some_iff.mp H
   obtain ⟨⟨t254, t255⟩, A100, H⟩ := H
   replace H : ((laws_toInt64S.f k l1).bind fun t258 => ((spec_AreDoublyJoined.f k t254 t255 t258).bind fun bt261 => ((laws_toNet.f k a0_0 l0_1).bind fun bt263 => ((laws_toInt64S.f k l1).bind fun t268 => ((impl_AreDoublyJoined.f k bt263.1 bt263.2 t268).bind fun bt271 => (if (bt271.1 != bt261.1) = true then (laws_FnExactAreDoublyJoined.j0 k l1 t268 true a0_0 l0_1 bt263.1 bt263.2) else (laws_FnExactAreDoublyJoined.j0 k l1 t268 (bt271.2 != bt261.2) a0_0 l0_1 bt263.1 bt263.2))))))) = some r := H
   have A10 := Aside0.mk A100
   clear A100
   replace H := Option.bind_eq_some_iff.mp H
   obtain ⟨t258, A110, H⟩ := H
   replace H : ((spec_AreDoublyJoined.f k t254 t255 t258).bind fun bt261 => ((laws_toNet.f k a0_0 l0_1).bind fun bt263 => ((laws_toInt64S.f k l1).bind fun t268 => ((impl_AreDoublyJoined.f k bt263.1 bt263.2 t268).bind fun bt271 => (if (bt271.1 != bt261.1) = true then (laws_FnExactAreDoublyJoined.j0 k l1 t268 true a0_0 l0_1 bt263.1 bt263.2) else (laws_FnExactAreDoublyJoined.j0 k l1 t268 (bt271.2 != bt261.2) a0_0 l0_1 bt263.1 bt263.2)))))) = some r := H
   have A11 := Aside0.mk A110
   clear A110
   replace H := Option.bind_eq_some_iff.mp H
   obtain ⟨⟨t261, t262⟩, A120, H⟩ := H
   replace H : ((laws_toNet.f k a0_0 l0_1).bind fun bt263 => ((laws_toInt64S.f k l1).bind fun t268 => ((impl_AreDoublyJoined.f k bt263.1 bt263.2 t268).bind fun bt271 => (if (bt271.1 != t261) = true then (laws_FnExactAreDoublyJoined.j0 k l1 t268 true a0_0 l0_1 bt263.1 bt263.2) else (laws_FnExactAreDoublyJoined.j0 k l1 t268 (bt271.2 != t262) a0_0 l0_1 bt263.1 bt263.2))))) = some r := H
   have A12 := Aside0.mk A120
   clear A120
   replace H := Option.bind_eq_some_iff.mp H
   obtain ⟨⟨t263, t264⟩, A130, H⟩ := H
   replace H : ((laws_toInt64S.f k l1).bind fun t268 => ((impl_AreDoublyJoined.f k t263 t264 t268).bind fun bt271 => (if (bt271.1 != t261) = true then (laws_FnExactAreDoublyJoined.j0 k l1 t268 true a0_0 l0_1 t263 t264) else (laws_FnExactAreDoublyJoined.j0 k l1 t268 (bt271.2 != t262) a0_0 l0_1 t263 t264)))) = some r := H
   have A13 := Aside0.mk A130
   clear A130
   replace H := Option.bind_eq_some_iff.mp H
   obtain ⟨t268, A140, H⟩ := H
   replace H : ((impl_AreDoublyJoined.f k t263 t264 t268).bind fun bt271 => (if (bt271.1 != t261) = true then (laws_FnExactAreDoublyJoined.j0 k l1 t268 true a0_0 l0_1 t263 t264) else (laws_FnExactAreDoublyJoined.j0 k l1 t268 (bt271.2 != t262) a0_0 l0_1 t263 t264))) = some r := H
   have A14 := Aside0.mk A140
   clear A140
   replace H := Option.bind_eq_some_iff.mp H
   obtain ⟨⟨t271, t272⟩, A150, H⟩ := H
   replace H : (if (t271 != t261) = true then (laws_FnExactAreDoublyJoined.j0 k l1 t268 true a0_0 l0_1 t263 t264) else (laws_FnExactAreDoublyJoined.j0 k l1 t268 (t272 != t262) a0_0 l0_1 t263 t264)) = some r := H
   have A15 := Aside0.mk A150
   clear A150
   have HC16 := Aside0.mk H
   clear H
   go_enter Try.func6, Try.ntmps6
   go_upto_region 11 with (first | ((with_reducible refine gate_dst (N := 2) rfl ?_); refine box_event ?hg (N := 2) ?hd (cs := #[.int .i64 a0_0, .slice A0_1 l0_1.length c0_1]) (t := 30) ?hr ?_; (case hd => rfl); (case hg => rfl); (case hr => first | (go_simp; done) | (go_simp; rfl)); intro gb252 hg w17 hbox hb; have n0_ := Aside0.mk (below_step (by repeat (first | (with_reducible first | exact HB.out | apply below_alloc | apply pw_below_drewN | apply below_drew1) | exact HB.out)) hb); have n1_ := Aside0.mk (hbox); have n2_ := Aside0.mk ((by rw [hg]; exact (below_size (by repeat (first | (with_reducible first | exact HB.out | apply below_alloc | apply pw_below_drewN | apply below_drew1) | exact HB.out))) : w.heap.size ≤ gb252)); have n3_ := Aside0.mk ((by rw [hg]; exact (below_size (by repeat (first | (with_reducible first | exact HB.out | apply below_alloc | apply pw_below_drewN | apply below_drew1) | exact HB.out))) : w.heap.size ≤ gb252)); clear HB; have HB := n0_; have BK252 := n1_; have GW252 := n2_; have GE252 := n3_; clear n0_ n1_ n2_ n3_; clear hb hbox hg; have hcz18_0 : w17.cell? ⟨gb252, 0, none⟩ = some (.int .i64 a0_0) := (blk_cell BK252.out 0).trans rfl; have hcz18_1 : w17.cell? ⟨gb252, 1, none⟩ = some (.slice A0_1 l0_1.length c0_1) := (blk_cell BK252.out 1).trans rfl; have hfz18_0 := blk_frozen BK252.out 0; have hfz18_1 := blk_frozen BK252.out 1) | ((with_reducible refine gate_callee (f := 16) rfl ?_); refine goesL_ (some 17) rfl rfl Try.func16 (by kernel_rfl) rfl #[.agg #[.int .i64 a0_0, .slice A0_1 l0_1.length c0_1], .int .i64 1048576] rfl (by (try simp only [List.map_toArray, List.map_cons, List.map_nil]); first | done | rfl | (simp only [List.length_drop, List.length_take]; rfl)) ?_; (with_reducible refine (laws_szNet.calls k a0_0 _ _ l0_1 1048576 t253 _ ?side1 ?side2 A5.out).mono ?_); (case side1 => repeat (first | exact (Kd.C_below HR0_1.out HB.out) | (with_reducible refine Kd.C_alloc ?_ _) | (with_reducible refine Kd.C_drewN ?_ _) | (with_reducible refine Kd.C_drew ?_))); (case side2 => exact HC0_1.out); rintro e w19 ⟨rfl, hb⟩; refine ⟨_, rfl, ?_⟩; have n0_ := Aside0.mk (blk_below (g := gb252) (o := .cells #[.int .i64 a0_0, .slice A0_1 l0_1.length c0_1] 30 (0, 0)) (by (with_reducible repeat (first | refine blk_drewN ?_ _ | refine blk_drew ?_ | refine blk_alloc ?_ _)); exact BK252.out) hb); have n1_ := Aside0.mk (below_step (by repeat (first | (with_reducible first | exact HB.out | apply below_alloc | apply pw_below_drewN | apply below_drew1 | refine below_set ?_ GE252.out) | exact HB.out)) hb); clear BK252; clear HB; have BK252 := n0_; have HB := n1_; clear n0_ n1_; (try clear hb); (try clear hb2); (try clear hk); (try clear hi); have hcz20_0 : w19.cell? ⟨gb252, 0, none⟩ = some (.int .i64 a0_0) := (blk_cell BK252.out 0).trans rfl; have hcz20_1 : w19.cell? ⟨gb252, 1, none⟩ = some (.slice A0_1 l0_1.length c0_1) := (blk_cell BK252.out 1).trans rfl; have hfz20_0 := blk_frozen BK252.out 0; have hfz20_1 := blk_frozen BK252.out 1) | ((with_reducible refine gate_callee (f := 18) rfl ?_); refine goesL_ (some 22) rfl rfl Try.func18 (by kernel_rfl) rfl #[.agg #[.int .i64 a0_0, .slice A0_1 l0_1.length c0_1]] rfl (by (try simp only [List.map_toArray, List.map_cons, List.map_nil]); first | done | rfl | (simp only [List.length_drop, List.length_take]; rfl)) ?_; (with_reducible refine (laws_toNet.calls k a0_0 _ _ l0_1 t254 t255 _ ?side1 ?side2 A10.out).mono ?_); (case side1 => repeat (first | exact (Kd.C_below HR0_1.out HB.out) | (with_reducible refine Kd.C_alloc ?_ _) | (with_reducible refine Kd.C_drewN ?_ _) | (with_reducible refine Kd.C_drew ?_))); (case side2 => exact HC0_1.out); rintro e w21 ⟨v256, rfl, ho0, hb⟩; refine ⟨_, rfl, ?_⟩; have n0_ := Aside0.mk (Kd.S_lower ho0 (below_size (by repeat (first | (with_reducible first | exact HB.out | apply below_alloc | apply pw_below_drewN | apply below_drew1 | refine below_set ?_ GE252.out) | exact HB.out)))); have n1_ := Aside0.mk (blk_below (g := gb252) (o := .cells #[.int .i64 a0_0, .slice A0_1 l0_1.length c0_1] 30 (0, 0)) (by (with_reducible repeat (first | refine blk_drewN ?_ _ | refine blk_drew ?_ | refine blk_alloc ?_ _)); exact BK252.out) hb); have n2_ := Aside0.mk (below_step (by repeat (first | (with_reducible first | exact HB.out | apply below_alloc | apply pw_below_drewN | apply below_drew1 | refine below_set ?_ GE252.out) | exact HB.out)) hb); clear BK252; clear HB; have HO257 := n0_; have BK252 := n1_; have HB := n2_; clear n0_ n1_ n2_; (try clear hb); (try clear hb2); (try clear hk); (try clear hi); (try clear ho0)) | ((with_reducible refine gate_callee (f := 11) rfl ?_); refine goesL_ (some 24) rfl rfl Try.func11 (by kernel_rfl) rfl #[.slice A1 l1.length c1] rfl (by (try simp only [List.map_toArray, List.map_cons, List.map_nil]); first | done | rfl | (simp only [List.length_drop, List.length_take]; rfl)) ?_; (with_reducible refine (laws_toInt64S.calls k _ _ l1 t258 _ ?side1 ?side2 A11.out).mono ?_); (case side1 => repeat (first | exact (Kd.C_below HR1.out HB.out) | (with_reducible refine Kd.C_alloc ?_ _) | (with_reducible refine Kd.C_drewN ?_ _) | (with_reducible refine Kd.C_drew ?_))); (case side2 => exact HC1.out); rintro e w22 ⟨v259, rfl, ho0, hb⟩; refine ⟨_, rfl, ?_⟩; have n0_ := Aside0.mk (Kd.S_elder' (by (with_reducible repeat (first | apply Kd.S_alloc | apply Kd.S_drewN | apply Kd.S_drew)); exact HO257.out) (Kd.R_base ho0) hb); have n1_ := Aside0.mk (Kd.R_lower ho0 (below_size (by repeat (first | (with_reducible first | exact HB.out | apply below_alloc | apply pw_below_drewN | apply below_drew1 | refine below_set ?_ GE252.out) | exact HB.out)))); have n2_ := Aside0.mk (blk_below (g := gb252) (o := .cells #[.int .i64 a0_0, .slice A0_1 l0_1.length c0_1] 30 (0, 0)) (by (with_reducible repeat (first | refine blk_drewN ?_ _ | refine blk_drew ?_ | refine blk_alloc ?_ _)); exact BK252.out) hb); have n3_ := Aside0.mk (below_step (by repeat (first | (with_reducible first | exact HB.out | apply below_alloc | apply pw_below_drewN | apply below_drew1 | refine below_set ?_ GE252.out) | exact HB.out)) hb); clear HO257; clear BK252; clear HB; have HO257 := n0_; have HO260 := n1_; have BK252 := n2_; have HB := n3_; clear n0_ n1_ n2_ n3_; (try clear hb); (try clear hb2); (try clear hk); (try clear hi); (try clear ho0); obtain ⟨Ao23, co23, eo23⟩ := Kd.S_slice HO257.out; subst eo23; obtain ⟨Ao24, co24, eo24⟩ := Kd.R_slice HO260.out; subst eo24) | ((with_reducible refine gate_callee (f := 21) rfl ?_); refine goesL_ (some 25) rfl rfl Try.func21 (by kernel_rfl) rfl #[.agg #[.int .i64 t254, .slice Ao23 t255.length co23], .slice Ao24 t258.length co24] rfl (by (try simp only [List.map_toArray, List.map_cons, List.map_nil]); first | done | rfl | (simp only [List.length_drop, List.length_take]; rfl)) ?_; (with_reducible refine (spec_AreDoublyJoined.calls k t254 _ _ t255 _ _ t258 t261 t262 _ ?side1 ?side2 ?side3 ?side4 A12.out).mono ?_); (case side1 => repeat (first | exact (Kd.S_reads' HO257.out).2.2 | (with_reducible refine Kd.C_alloc ?_ _) | (with_reducible refine Kd.C_drewN ?_ _) | (with_reducible refine Kd.C_drew ?_))); (case side2 => exact (Kd.S_reads' HO257.out).2.1); (case side3 => repeat (first | exact (Kd.R_reads' HO260.out).2.2 | (with_reducible refine Kd.C_alloc ?_ _) | (with_reducible refine Kd.C_drewN ?_ _) | (with_reducible refine Kd.C_drew ?_))); (case side4 => exact (Kd.R_reads' HO260.out).2.1); rintro e w25 ⟨rfl, hb⟩; refine ⟨_, rfl, ?_⟩; have n0_ := Aside0.mk (Kd.S_below (by (with_reducible repeat (first | apply Kd.S_alloc | apply Kd.S_drewN | apply Kd.S_drew)); exact HO257.out) hb); have n1_ := Aside0.mk (Kd.R_below (by (with_reducible repeat (first | apply Kd.R_alloc | apply Kd.R_drewN | apply Kd.R_drew)); exact HO260.out) hb); have n2_ := Aside0.mk (blk_below (g := gb252) (o := .cells #[.int .i64 a0_0, .slice A0_1 l0_1.length c0_1] 30 (0, 0)) (by (with_reducible repeat (first | refine blk_drewN ?_ _ | refine blk_drew ?_ | refine blk_alloc ?_ _)); exact BK252.out) hb); have n3_ := Aside0.mk (below_step (by repeat (first | (with_reducible first | exact HB.out | apply below_alloc | apply pw_below_drewN | apply below_drew1 | refine below_set ?_ GE252.out) | exact HB.out)) hb); clear HO257; clear HO260; clear BK252; clear HB; have HO257 := n0_; have HO260 := n1_; have BK252 := n2_; have HB := n3_; clear n0_ n1_ n2_ n3_; (try clear hb); (try clear hb2); (try clear hk); (try clear hi); have hcz26_0 : w25.cell? ⟨gb252, 0, none⟩ = some (.int .i64 a0_0) := (blk_cell BK252.out 0).trans rfl; have hcz26_1 : w25.cell? ⟨gb252, 1, none⟩ = some (.slice A0_1 l0_1.length c0_1) := (blk_cell BK252.out 1).trans rfl; have hfz26_0 := blk_frozen BK252.out 0; have hfz26_1 := blk_frozen BK252.out 1) | ((with_reducible refine gate_callee (f := 18) rfl ?_); refine goesL_ (some 29) rfl rfl Try.func18 (by kernel_rfl) rfl #[.agg #[.int .i64 a0_0, .slice A0_1 l0_1.length c0_1]] rfl (by (try simp only [List.map_toArray, List.map_cons, List.map_nil]); first | done | rfl | (simp only [List.length_drop, List.length_take]; rfl)) ?_; (with_reducible refine (laws_toNet.calls k a0_0 _ _ l0_1 t263 t264 _ ?side1 ?side2 A13.out).mono ?_); (case side1 => repeat (first | exact (Kd.C_below HR0_1.out HB.out) | (with_reducible refine Kd.C_alloc ?_ _) | (with_reducible refine Kd.C_drewN ?_ _) | (with_reducible refine Kd.C_drew ?_))); (case side2 => exact HC0_1.out); rintro e w27 ⟨v265, rfl, ho0, hb⟩; refine ⟨_, rfl, ?_⟩; have n0_ := Aside0.mk (Kd.S_elder' (by (with_reducible repeat (first | apply Kd.S_alloc | apply Kd.S_drewN | apply Kd.S_drew)); exact HO257.out) (Kd.S_base ho0) hb); have n1_ := Aside0.mk (Kd.R_below (by (with_reducible repeat (first | apply Kd.R_alloc | apply Kd.R_drewN | apply Kd.R_drew)); exact HO260.out) hb); have n2_ := Aside0.mk (Kd.S_lower (Kd.S_new' (Kd.S_new' ho0 (Kd.S_lt (by (with_reducible repeat (first | apply Kd.S_alloc | apply Kd.S_drewN | apply Kd.S_drew)); exact HO257.out))) (Kd.R_lt (by (with_reducible repeat (first | apply Kd.R_alloc | apply Kd.R_drewN | apply Kd.R_drew)); exact HO260.out))) (below_size (by repeat (first | (with_reducible first | exact HB.out | apply below_alloc | apply pw_below_drewN | apply below_drew1 | refine below_set ?_ GE252.out) | exact HB.out)))); have n3_ := Aside0.mk (blk_below (g := gb252) (o := .cells #[.int .i64 a0_0, .slice A0_1 l0_1.length c0_1] 30 (0, 0)) (by (with_reducible repeat (first | refine blk_drewN ?_ _ | refine blk_drew ?_ | refine blk_alloc ?_ _)); exact BK252.out) hb); have n4_ := Aside0.mk (below_step (by repeat (first | (with_reducible first | exact HB.out | apply below_alloc | apply pw_below_drewN | apply below_drew1 | refine below_set ?_ GE252.out) | exact HB.out)) hb); clear HO257; clear HO260; clear BK252; clear HB; have HO257 := n0_; have HO260 := n1_; have HO266 := n2_; have BK252 := n3_; have HB := n4_; clear n0_ n1_ n2_ n3_ n4_; (try clear hb); (try clear hb2); (try clear hk); (try clear hi); (try clear ho0)) | ((with_reducible refine gate_dst (N := 8) rfl ?_); refine box_event ?hg (N := 8) ?hd (cs := #[.int .i64 0, .slice none 0 0]) (t := 33) ?hr ?_; (case hd => rfl); (case hg => rfl); (case hr => first | (go_simp; done) | (go_simp; rfl)); intro gb267 hg w28 hbox hb; have n0_ := Aside0.mk (Kd.S_below (by (with_reducible repeat (first | apply Kd.S_alloc | apply Kd.S_drewN | apply Kd.S_drew)); exact HO257.out) hb); have n1_ := Aside0.mk (Kd.R_below (by (with_reducible repeat (first | apply Kd.R_alloc | apply Kd.R_drewN | apply Kd.R_drew)); exact HO260.out) hb); have n2_ := Aside0.mk (Kd.S_below (by (with_reducible repeat (first | apply Kd.S_alloc | apply Kd.S_drewN | apply Kd.S_drew)); exact HO266.out) hb); have n3_ := Aside0.mk (blk_below (g := gb252) (o := .cells #[.int .i64 a0_0, .slice A0_1 l0_1.length c0_1] 30 (0, 0)) (by (with_reducible repeat (first | refine blk_drewN ?_ _ | refine blk_drew ?_ | refine blk_alloc ?_ _)); exact BK252.out) hb); have n4_ := Aside0.mk (below_step (by repeat (first | (with_reducible first | exact HB.out | apply below_alloc | apply pw_below_drewN | apply below_drew1 | refine below_set ?_ GE252.out) | exact HB.out)) hb); have n5_ := Aside0.mk (hbox); have n6_ := Aside0.mk ((by rw [hg]; exact (below_size (by repeat (first | (with_reducible first | exact HB.out | apply below_alloc | apply pw_below_drewN | apply below_drew1 | refine below_set ?_ GE252.out) | exact HB.out))) : w.heap.size ≤ gb267)); have n7_ := Aside0.mk ((by rw [hg]; exact (below_size (by repeat (first | (with_reducible first | exact HB.out | apply below_alloc | apply pw_below_drewN | apply below_drew1 | refine below_set ?_ GE252.out) | exact HB.out))) : w.heap.size ≤ gb267)); have n8_ := Aside0.mk ((by rw [hg]; exact Nat.ne_of_lt (blk_lt (g := gb252) (o := .cells #[.int .i64 a0_0, .slice A0_1 l0_1.length c0_1] 30 (0, 0)) (by (with_reducible repeat (first | refine blk_drewN ?_ _ | refine blk_drew ?_ | refine blk_alloc ?_ _)); exact BK252.out)) : gb252 ≠ gb267)); have n9_ := Aside0.mk ((by rw [hg]; exact Nat.ne_of_gt (blk_lt (g := gb252) (o := .cells #[.int .i64 a0_0, .slice A0_1 l0_1.length c0_1] 30 (0, 0)) (by (with_reducible repeat (first | refine blk_drewN ?_ _ | refine blk_drew ?_ | refine blk_alloc ?_ _)); exact BK252.out)) : gb267 ≠ gb252)); clear HO257; clear HO260; clear HO266; clear BK252; clear HB; have HO257 := n0_; have HO260 := n1_; have HO266 := n2_; have BK252 := n3_; have HB := n4_; have BK267 := n5_; have GW267 := n6_; have GE267 := n7_; have NB252_267 := n8_; have NB267_252 := n9_; clear n0_ n1_ n2_ n3_ n4_ n5_ n6_ n7_ n8_ n9_; clear hb hbox hg; have hnb29 := NB267_252.out; have hnc29 := NB252_267.out; have hcz30_0 : w28.cell? ⟨gb267, 0, none⟩ = some (.int .i64 0) := (blk_cell BK267.out 0).trans rfl; have hcz30_1 : w28.cell? ⟨gb267, 1, none⟩ = some (.slice none 0 0) := (blk_cell BK267.out 1).trans rfl; have hfz30_0 := blk_frozen BK267.out 0; have hfz30_1 := blk_frozen BK267.out 1; obtain ⟨Ao31, co31, eo31⟩ := Kd.S_slice HO266.out; subst eo31) | ((with_reducible refine gate_callee (f := 11) rfl ?_); refine goesL_ (some 31) rfl rfl Try.func11 (by kernel_rfl) rfl #[.slice A1 l1.length c1] rfl (by (try simp only [List.map_toArray, List.map_cons, List.map_nil]); first | done | rfl | (simp only [List.length_drop, List.length_take]; rfl)) ?_; (with_reducible refine (laws_toInt64S.calls k _ _ l1 t268 _ ?side1 ?side2 A14.out).mono ?_); (case side1 => exact Kd.C_below HR1.out (by repeat (first | (with_reducible first | exact HB.out | apply below_alloc | apply pw_below_drewN | apply below_drew1 | refine below_set ?_ GE252.out | refine below_set ?_ GE267.out) | exact HB.out))); (case side2 => exact HC1.out); rintro e w32 ⟨v269, rfl, ho0, hb⟩; refine ⟨_, rfl, ?_⟩; have n0_ := Aside0.mk (Kd.S_elder' (by (with_reducible repeat (first | apply Kd.S_alloc | apply Kd.S_drewN | apply Kd.S_drew)); exact (Kd.S_mono (Kd.S_far (p := ⟨gb267, 1, none⟩) (Kd.S_far (p := ⟨gb267, 0, none⟩) (Kd.S_types HO257.out BK267.out (by decide)) (fun _ hk => hk.2) (.int .i64 t263)) (fun _ hk => hk.2) (.slice Ao31 t264.length co31)) (fun _ h_ => h_.1))) (Kd.R_base ho0) hb); have n1_ := Aside0.mk (Kd.R_elder' (by (with_reducible repeat (first | apply Kd.R_alloc | apply Kd.R_drewN | apply Kd.R_drew)); exact (Kd.R_mono (Kd.R_far (p := ⟨gb267, 1, none⟩) (Kd.R_far (p := ⟨gb267, 0, none⟩) (Kd.R_types HO260.out BK267.out (by decide)) (fun _ hk => hk.2) (.int .i64 t263)) (fun _ hk => hk.2) (.slice Ao31 t264.length co31)) (fun _ h_ => h_.1))) (Kd.R_base ho0) hb); have n2_ := Aside0.mk (Kd.S_elder' (by (with_reducible repeat (first | apply Kd.S_alloc | apply Kd.S_drewN | apply Kd.S_drew)); exact (Kd.S_mono (Kd.S_far (p := ⟨gb267, 1, none⟩) (Kd.S_far (p := ⟨gb267, 0, none⟩) (Kd.S_types HO266.out BK267.out (by decide)) (fun _ hk => hk.2) (.int .i64 t263)) (fun _ hk => hk.2) (.slice Ao31 t264.length co31)) (fun _ h_ => h_.1))) (Kd.R_base ho0) hb); have n3_ := Aside0.mk (Kd.R_lower (Kd.R_new' ho0 (Kd.R_lt (by (with_reducible repeat (first | apply Kd.R_alloc | apply Kd.R_drewN | apply Kd.R_drew)); exact (Kd.R_mono (Kd.R_far (p := ⟨gb267, 1, none⟩) (Kd.R_far (p := ⟨gb267, 0, none⟩) (Kd.R_types HO260.out BK267.out (by decide)) (fun _ hk => hk.2) (.int .i64 t263)) (fun _ hk => hk.2) (.slice Ao31 t264.length co31)) (fun _ h_ => h_.1))))) (below_size (by repeat (first | (with_reducible first | exact HB.out | apply below_alloc | apply pw_below_drewN | apply below_drew1 | refine below_set ?_ GE252.out | refine below_set ?_ GE267.out) | exact HB.out)))); have n4_ := Aside0.mk (blk_below (g := gb252) (o := .cells #[.int .i64 a0_0, .slice A0_1 l0_1.length c0_1] 30 (0, 0)) (by (with_reducible repeat (first | refine blk_drewN ?_ _ | refine blk_drew ?_ | refine blk_alloc ?_ _)); refine blk_far ?_ NB252_267.out _; (with_reducible repeat (first | refine blk_drewN ?_ _ | refine blk_drew ?_ | refine blk_alloc ?_ _)); refine blk_far ?_ NB252_267.out _; (with_reducible repeat (first | refine blk_drewN ?_ _ | refine blk_drew ?_ | refine blk_alloc ?_ _)); exact BK252.out) hb); have n5_ := Aside0.mk (blk_below (g := gb267) (o := .cells #[.int .i64 t263, .slice Ao31 t264.length co31] 33 (0, 0)) (by (with_reducible repeat (first | refine blk_drewN ?_ _ | refine blk_drew ?_ | refine blk_alloc ?_ _)); refine blk_put (cs := #[.int .i64 t263, .slice none 0 0]) ?_ 1 _ rfl; (with_reducible repeat (first | refine blk_drewN ?_ _ | refine blk_drew ?_ | refine blk_alloc ?_ _)); refine blk_put (cs := #[.int .i64 0, .slice none 0 0]) ?_ 0 _ rfl; (with_reducible repeat (first | refine blk_drewN ?_ _ | refine blk_drew ?_ | refine blk_alloc ?_ _)); exact BK267.out) hb); have n6_ := Aside0.mk (below_step (by repeat (first | (with_reducible first | exact HB.out | apply below_alloc | apply pw_below_drewN | apply below_drew1 | refine below_set ?_ GE252.out | refine below_set ?_ GE267.out) | exact HB.out)) hb); clear HO257; clear HO260; clear HO266; clear BK252; clear BK267; clear HB; have HO257 := n0_; have HO260 := n1_; have HO266 := n2_; have HO270 := n3_; have BK252 := n4_; have BK267 := n5_; have HB := n6_; clear n0_ n1_ n2_ n3_ n4_ n5_ n6_; (try clear hb); (try clear hb2); (try clear hk); (try clear hi); (try clear ho0); have hcz33_0 : w32.cell? ⟨gb267, 0, none⟩ = some (.int .i64 t263) := (blk_cell BK267.out 0).trans rfl; have hcz33_1 : w32.cell? ⟨gb267, 1, none⟩ = some (.slice Ao31 t264.length co31) := (blk_cell BK267.out 1).trans rfl; have hfz33_0 := blk_frozen BK267.out 0; have hfz33_1 := blk_frozen BK267.out 1; obtain ⟨Ao34, co34, eo34⟩ := Kd.R_slice HO270.out; subst eo34) | ((with_reducible refine gate_callee (f := 22) rfl ?_); refine goesL_ (some 35) rfl rfl Try.func22 (by kernel_rfl) rfl #[.agg #[.int .i64 t263, .slice Ao31 t264.length co31], .slice Ao34 t268.length co34] rfl (by (try simp only [List.map_toArray, List.map_cons, List.map_nil]); first | done | rfl | (simp only [List.length_drop, List.length_take]; rfl)) ?_; (with_reducible refine (impl_AreDoublyJoined.calls k t263 _ _ t264 _ _ t268 t271 t272 _ ?side1 ?side2 ?side3 ?side4 A15.out).mono ?_); (case side1 => repeat (first | exact (Kd.S_reads' HO266.out).2.2 | (with_reducible refine Kd.C_alloc ?_ _) | (with_reducible refine Kd.C_drewN ?_ _) | (with_reducible refine Kd.C_drew ?_))); (case side2 => exact (Kd.S_reads' HO266.out).2.1); (case side3 => repeat (first | exact (Kd.R_reads' HO270.out).2.2 | (with_reducible refine Kd.C_alloc ?_ _) | (with_reducible refine Kd.C_drewN ?_ _) | (with_reducible refine Kd.C_drew ?_))); (case side4 => exact (Kd.R_reads' HO270.out).2.1); rintro e w35 ⟨rfl, hb⟩; refine ⟨_, rfl, ?_⟩; have n0_ := Aside0.mk (Kd.S_below (by (with_reducible repeat (first | apply Kd.S_alloc | apply Kd.S_drewN | apply Kd.S_drew)); exact HO257.out) hb); have n1_ := Aside0.mk (Kd.R_below (by (with_reducible repeat (first | apply Kd.R_alloc | apply Kd.R_drewN | apply Kd.R_drew)); exact HO260.out) hb); have n2_ := Aside0.mk (Kd.S_below (by (with_reducible repeat (first | apply Kd.S_alloc | apply Kd.S_drewN | apply Kd.S_drew)); exact HO266.out) hb); have n3_ := Aside0.mk (Kd.R_below (by (with_reducible repeat (first | apply Kd.R_alloc | apply Kd.R_drewN | apply Kd.R_drew)); exact HO270.out) hb); have n4_ := Aside0.mk (blk_below (g := gb252) (o := .cells #[.int .i64 a0_0, .slice A0_1 l0_1.length c0_1] 30 (0, 0)) (by (with_reducible repeat (first | refine blk_drewN ?_ _ | refine blk_drew ?_ | refine blk_alloc ?_ _)); exact BK252.out) hb); have n5_ := Aside0.mk (blk_below (g := gb267) (o := .cells #[.int .i64 t263, .slice Ao31 t264.length co31] 33 (0, 0)) (by (with_reducible repeat (first | refine blk_drewN ?_ _ | refine blk_drew ?_ | refine blk_alloc ?_ _)); exact BK267.out) hb); have n6_ := Aside0.mk (below_step (by repeat (first | (with_reducible first | exact HB.out | apply below_alloc | apply pw_below_drewN | apply below_drew1 | refine below_set ?_ GE252.out | refine below_set ?_ GE267.out) | exact HB.out)) hb); clear HO257; clear HO260; clear HO266; clear HO270; clear BK252; clear BK267; clear HB; have HO257 := n0_; have HO260 := n1_; have HO266 := n2_; have HO270 := n3_; have BK252 := n4_; have BK267 := n5_; have HB := n6_; clear n0_ n1_ n2_ n3_ n4_ n5_ n6_; (try clear hb); (try clear hb2); (try clear hk); (try clear hi)))
   (try simp only [Act.put, List.setIfInBounds_toArray, List.set_cons_zero, List.set_cons_succ])
   go_cut [45] (fun v45 wc => ∃ (kq : Nat) (x45_15 : Bool), v45 = .bool x45_15 ∧ Aside0 (laws_FnExactAreDoublyJoined.j0 kq l1 t268 x45_15 a0_0 l0_1 t263 t264 = some r) ∧ Aside0 (kq ≤ k) ∧ Aside0 (Kd.R (Kd.int .i64) 2 wc w.heap.size (fun _ => True) (.slice Ao34 t268.length co34) t268) ∧ Aside0 (Kd.S (Kd.slice 2 (Kd.int .i64)) 22 wc w.heap.size (fun k_ => some k_ ≠ ((.slice Ao34 t268.length co34) : Value).ownBlock) (.slice Ao31 t264.length co31) t264) ∧ Aside0 (wc.heap[gb252]? = some (.cells #[.int .i64 a0_0, (.slice A0_1 l0_1.length c0_1)] 30 (0, 0))) ∧ Aside0 (wc.heap[gb267]? = some (.cells #[.int .i64 t263, (.slice Ao31 t264.length co31)] 33 (0, 0))) ∧ Aside0 (Below w.heap.size w wc))
   case first =>
    have H := HC16.out
    clear HC16
    by_cases c36 : (t271 != t261) = true
    ·rw [if_pos c36] at H
     have c36b0 : (t271 != t261) = true := c36
     (try (have c36b1 : decide (t271 = t261) = false := by simpa using c36))
     (try (have c36b2 : (t271 == t261) = false := by simpa using c36))
     (try (have c36b3 : ¬ (t271 = t261) := by simpa using c36))
     clear c36
     (first | rw [c36b0] | (simp only [i64_w, i32_w]; rw [c36b0]) | skip)
     have H' := Aside0.mk H
     clear H
     go_wp2
     go_meet
     case rel => exact ⟨_, (true), (by first | rfl | (simp; done) | (simp [*]; done)), H', ⟨by first | omega | exact Nat.le_refl _⟩, ⟨by (with_reducible repeat (first | apply Kd.R_alloc | apply Kd.R_drewN | apply Kd.R_drew)); exact Kd.R_mono HO270.out (fun _ hk => trivial)⟩, ⟨by (with_reducible repeat (first | apply Kd.S_alloc | apply Kd.S_drewN | apply Kd.S_drew)); exact Kd.S_mono HO266.out (fun _ hk => hk.2)⟩, ⟨by (with_reducible repeat (first | refine blk_drewN ?_ _ | refine blk_drew ?_ | refine blk_alloc ?_ _)); exact BK252.out⟩, ⟨by (with_reducible repeat (first | refine blk_drewN ?_ _ | refine blk_drew ?_ | refine blk_alloc ?_ _)); exact BK267.out⟩, ⟨by repeat (first | (with_reducible first | exact HB.out | apply below_alloc | apply pw_below_drewN | apply below_drew1 | refine below_set ?_ GE252.out | refine below_set ?_ GE267.out) | exact HB.out)⟩⟩
    ·rw [if_neg c36] at H
     have c36b0 : (t271 != t261) = false := by simpa using c36
     (try (have c36b1 : decide (t271 = t261) = true := by simpa using c36))
     (try (have c36b2 : (t271 == t261) = true := by simpa using c36))
     clear c36
     (first | rw [c36b0] | (simp only [i64_w, i32_w]; rw [c36b0]) | skip)
     have H' := Aside0.mk H
     clear H
     go_wp2
     go_meet
     case rel => exact ⟨_, ((t272 != t262)), (by first | rfl | (simp; done) | (simp [*]; done)), H', ⟨by first | omega | exact Nat.le_refl _⟩, ⟨by (with_reducible repeat (first | apply Kd.R_alloc | apply Kd.R_drewN | apply Kd.R_drew)); exact Kd.R_mono HO270.out (fun _ hk => trivial)⟩, ⟨by (with_reducible repeat (first | apply Kd.S_alloc | apply Kd.S_drewN | apply Kd.S_drew)); exact Kd.S_mono HO266.out (fun _ hk => hk.2)⟩, ⟨by (with_reducible repeat (first | refine blk_drewN ?_ _ | refine blk_drew ?_ | refine blk_alloc ?_ _)); exact BK252.out⟩, ⟨by (with_reducible repeat (first | refine blk_drewN ?_ _ | refine blk_drew ?_ | refine blk_alloc ?_ _)); exact BK267.out⟩, ⟨by repeat (first | (with_reducible first | exact HB.out | apply below_alloc | apply pw_below_drewN | apply below_drew1 | refine below_set ?_ GE252.out | refine below_set ?_ GE267.out) | exact HB.out)⟩⟩
   case rest =>
    clear HC16
    try clear c1
    try clear c2
    try clear p2
    try clear c3
    try clear c3b0
    try clear c3b1
    try clear c6
    try clear c6b0
    try clear c11
    try clear c16
    try clear c18
    try clear c21
    try clear c22
    try clear c29
    try clear c36
    try clear c36b0
    try clear c36b1
    try clear c36b2
    try clear hcz18_0
    try clear hcz18_1
    try clear hcz20_0
    try clear hcz20_1
    try clear hcz26_0
    try clear hcz26_1
    try clear hcz30_0
    try clear hcz30_1
    try clear hcz33_0
    try clear hcz33_1
    try clear hcz8_0
    try clear hcz8_1
    try clear hfz18_0
    try clear hfz18_1
    try clear hfz20_0
    try clear hfz20_1
    try clear hfz26_0
    try clear hfz26_1
    try clear hfz30_0
    try clear hfz30_1
    try clear hfz33_0
    try clear hfz33_1
    try clear hfz8_0
    try clear hfz8_1
    obtain ⟨kq, x45_15, rfl, HA, HJ15, HO_9, HO_268001, BK252, BK267, HB⟩ := hcut
    cases kq with
    | zero => exact absurd HA.out (by simp [laws_FnExactAreDoublyJoined.j0])
    | succ kj15 =>
     have H := HA.out
     clear HA
     simp only [laws_FnExactAreDoublyJoined.j0] at H
     by_cases c37 : x45_15 = true
     ·subst c37
      have H1 : (some false) = some r := by rw [if_pos rfl] at H; exact H
      clear H
      have H := H1
      clear H1
      obtain rfl := Option.some.inj H
      go_wp2
      go_ret
      exact ⟨by first | rfl | (simp [errW_none, errW_some] <;> rfl) | (simp [*, errW_none, errW_some] <;> rfl), by repeat (first | (with_reducible first | exact HB.out | apply below_alloc | apply pw_below_drewN | apply below_drew1 | refine below_set ?_ GE252.out | refine below_set ?_ GE267.out) | exact HB.out)⟩
     ·replace c37 := Bool.eq_false_iff.mpr c37
      subst c37
      have H1 : ((laws_toNet.f kj15 a0_0 l0_1).bind fun bt273 => ((laws_eqNet.f kj15 t263 t264 bt273.1 bt273.2).bind fun t277 => (if t277 = true then ((laws_toInt64S.f kj15 l1).bind fun t278 => ((laws_eqInt64S.f kj15 t268 t278).bind fun t281 => (if t281 = true then (some true) else (some false)))) else (some false)))) = some r := by rw [if_neg (show ¬ (false = true) by decide)] at H; exact H
      clear H
      have H := H1
      clear H1
      replace H := Option.bind_eq_some_iff.mp H
      obtain ⟨⟨t273, t274⟩, A380, H⟩ := H
      replace H : ((laws_eqNet.f kj15 t263 t264 t273 t274).bind fun t277 => (if t277 = true then ((laws_toInt64S.f kj15 l1).bind fun t278 => ((laws_eqInt64S.f kj15 t268 t278).bind fun t281 => (if t281 = true then (some true) else (some false)))) else (some false))) = some r := H
      have A38 := Aside0.mk A380
      clear A380
      replace H := Option.bind_eq_some_iff.mp H
      obtain ⟨t277, A390, H⟩ := H
      replace H : (if t277 = true then ((laws_toInt64S.f kj15 l1).bind fun t278 => ((laws_eqInt64S.f kj15 t268 t278).bind fun t281 => (if t281 = true then (some true) else (some false)))) else (some false)) = some r := H
      have A39 := Aside0.mk A390
      clear A390
      by_cases c40 : t277 = true
      ·subst c40
       have H1 : ((laws_toInt64S.f kj15 l1).bind fun t278 => ((laws_eqInt64S.f kj15 t268 t278).bind fun t281 => (if t281 = true then (some true) else (some false)))) = some r := by rw [if_pos rfl] at H; exact H
       clear H
       have H := H1
       clear H1
       replace H := Option.bind_eq_some_iff.mp H
       obtain ⟨t278, A410, H⟩ := H
       replace H : ((laws_eqInt64S.f kj15 t268 t278).bind fun t281 => (if t281 = true then (some true) else (some false))) = some r := H
       have A41 := Aside0.mk A410
       clear A410
       replace H := Option.bind_eq_some_iff.mp H
       obtain ⟨t281, A420, H⟩ := H
       replace H : (if t281 = true then (some true) else (some false)) = some r := H
       have A42 := Aside0.mk A420
       clear A420
       by_cases c43 : t281 = true
       ·subst c43
        have H1 : (some true) = some r := by rw [if_pos rfl] at H; exact H
        clear H
        have H := H1
        clear H1
        obtain rfl := Option.some.inj H
        try go_wp2
        have n0_ := Aside0.mk (Kd.R_drew HO_9.out)
        have n1_ := Aside0.mk (Kd.S_drew HO_268001.out)
        have n2_ := Aside0.mk (blk_drew BK252.out)
        have n3_ := Aside0.mk (blk_drew BK267.out)
        have n4_ := Aside0.mk (below_drew1 HB.out)
        clear HO_9
        clear HO_268001
        clear BK252
        clear BK267
        clear HB
        have HO_9 := n0_
        have HO_268001 := n1_
        have BK252 := n2_
        have BK267 := n3_
        have HB := n4_
        clear n0_ n1_ n2_ n3_ n4_
        refine start_ (n := 5) (S := fun w' => w'.cell? ⟨gb267, 0, none⟩ = some (.int .i64 t263) ∧ w'.cell? ⟨gb267, 1, none⟩ = some (.slice Ao31 t264.length co31) ∧ w'.cell? ⟨gb252, 0, none⟩ = some (.int .i64 a0_0) ∧ w'.cell? ⟨gb252, 1, none⟩ = some (.slice A0_1 l0_1.length c0_1)) (ds := []) #[false, false, false, false, false] (by kernel_rfl) rfl rfl ⟨(blk_cell BK267.out 0).trans rfl, (blk_cell BK267.out 1).trans rfl, (blk_cell BK252.out 0).trans rfl, (blk_cell BK252.out 1).trans rfl⟩ (fun hHeld => ?_)
        generalize wc.drew = w44 at HO_9 HO_268001 BK252 BK267 HB hHeld ⊢
        refine take_ (i := 0) (N := some 46) (v := ?_) (a' := ?_) #[true, false, false, false, false] rfl rfl (by kernel_rfl) (fun _ _ _ h => h) (Or.inl ⟨by rfl, ?_⟩) hHeld ?_ ?_
        rotate_left
        ·rintro w' ⟨s0, s1, s2, s3⟩
         go_simp
         with_reducible rfl
        rotate_left
        ·simp only [Act.put, List.setIfInBounds_toArray, List.set_cons_zero, List.set_cons_succ, i64_w, i32_w]
         rfl
        refine take_ (i := 1) (N := some 47) (v := ?_) (a' := ?_) #[true, true, false, false, false] rfl rfl (by kernel_rfl) (fun _ _ _ h => h) (Or.inl ⟨by rfl, ?_⟩) hHeld ?_ ?_
        rotate_left
        ·rintro w' ⟨s0, s1, s2, s3⟩
         go_simp
         with_reducible rfl
        rotate_left
        ·simp only [Act.put, List.setIfInBounds_toArray, List.set_cons_zero, List.set_cons_succ, i64_w, i32_w]
         rfl
        refine one_ (i := 2) (N := some 48) #[true, true, true, false, false] rfl rfl (by kernel_rfl) (by decide) (fun K hK => ?_)
        refine goes_ Try.func18 (by kernel_rfl) rfl #[.agg #[.int .i64 a0_0, .slice A0_1 l0_1.length c0_1]] (by rfl) rfl rfl (by (try simp only [List.map_toArray, List.map_cons, List.map_nil]); first | done | rfl | (simp only [List.length_drop, List.length_take]; rfl)) ?_
        with_reducible refine (laws_toNet.calls kj15 a0_0 _ _ l0_1 t273 t274 _ ?side1 ?side2 A38.out).mono ?_
        (case side1 => repeat (first | exact (Kd.C_below HR0_1.out HB.out) | (with_reducible refine Kd.C_alloc ?_ _) | (with_reducible refine Kd.C_drewN ?_ _) | (with_reducible refine Kd.C_drew ?_)))
        (case side2 => exact HC0_1.out)
        rintro e w45 ⟨v275, rfl, ho0, hb⟩
        refine ⟨_, rfl, ?_⟩
        have n0_ := Aside0.mk (Kd.R_below (by (with_reducible repeat (first | apply Kd.R_alloc | apply Kd.R_drewN | apply Kd.R_drew)); exact HO_9.out) hb)
        have n1_ := Aside0.mk (Kd.S_elder' (by (with_reducible repeat (first | apply Kd.S_alloc | apply Kd.S_drewN | apply Kd.S_drew)); exact HO_268001.out) (Kd.S_base ho0) hb)
        have n2_ := Aside0.mk (Kd.S_lower (Kd.S_new' (Kd.S_new' ho0 (Kd.R_lt (by (with_reducible repeat (first | apply Kd.R_alloc | apply Kd.R_drewN | apply Kd.R_drew)); exact HO_9.out))) (Kd.S_lt (by (with_reducible repeat (first | apply Kd.S_alloc | apply Kd.S_drewN | apply Kd.S_drew)); exact HO_268001.out))) (below_size (by repeat (first | (with_reducible first | exact HB.out | apply below_alloc | apply pw_below_drewN | apply below_drew1 | refine below_set ?_ GE252.out | refine below_set ?_ GE267.out) | exact HB.out))))
        have n3_ := Aside0.mk (blk_below (g := gb252) (o := .cells #[.int .i64 a0_0, .slice A0_1 l0_1.length c0_1] 30 (0, 0)) (by (with_reducible repeat (first | refine blk_drewN ?_ _ | refine blk_drew ?_ | refine blk_alloc ?_ _)); exact BK252.out) hb)
        have n4_ := Aside0.mk (blk_below (g := gb267) (o := .cells #[.int .i64 t263, .slice Ao31 t264.length co31] 33 (0, 0)) (by (with_reducible repeat (first | refine blk_drewN ?_ _ | refine blk_drew ?_ | refine blk_alloc ?_ _)); exact BK267.out) hb)
        have n5_ := Aside0.mk (below_step (by repeat (first | (with_reducible first | exact HB.out | apply below_alloc | apply pw_below_drewN | apply below_drew1 | refine below_set ?_ GE252.out | refine below_set ?_ GE267.out) | exact HB.out)) hb)
        clear HO_9
        clear HO_268001
        clear BK252
        clear BK267
        clear HB
        have HO_9 := n0_
        have HO_268001 := n1_
        have HO276 := n2_
        have BK252 := n3_
        have BK267 := n4_
        have HB := n5_
        clear n0_ n1_ n2_ n3_ n4_ n5_
        (try clear hb)
        (try clear hb2)
        (try clear hk)
        (try clear hi)
        (try clear ho0)
        obtain ⟨Ao46, co46, eo46⟩ := Kd.S_slice HO276.out
        (first | subst eo46 | (injection eo46 with f1_ f2_ f3_; have f4_ := f1_.symm; have f5_ := f3_.symm; clear f1_ f2_ f3_; subst f4_; subst f5_))
        refine hK.out _ _ ⟨(blk_cell BK267.out 0).trans rfl, (blk_cell BK267.out 1).trans rfl, (blk_cell BK252.out 0).trans rfl, (blk_cell BK252.out 1).trans rfl⟩ (fun hHeld => ?_)
        clear hK K
        refine norm_ (a' := ?_) ?_ ?_
        rotate_left
        ·show Act.put _ (some 48) _ = _
         simp only [Act.put, List.setIfInBounds_toArray, List.set_cons_zero, List.set_cons_succ, i64_w, i32_w]
         rfl
        refine one_ (i := 3) (N := some 49) #[true, true, true, true, false] rfl rfl (by kernel_rfl) (by decide) (fun K hK => ?_)
        refine goes_ Try.func20 (by kernel_rfl) rfl #[.agg #[.int .i64 t263, .slice Ao31 t264.length co31], .agg #[.int .i64 t273, .slice Ao46 t274.length co46]] (by rfl) rfl rfl (by (try simp only [List.map_toArray, List.map_cons, List.map_nil]); first | done | rfl | (simp only [List.length_drop, List.length_take]; rfl)) ?_
        with_reducible refine (laws_eqNet.calls kj15 t263 _ _ t264 t273 _ _ t274 true _ ?side1 ?side2 ?side3 ?side4 A39.out).mono ?_
        (case side1 => repeat (first | exact (Kd.S_reads' HO_268001.out).2.2 | (with_reducible refine Kd.C_alloc ?_ _) | (with_reducible refine Kd.C_drewN ?_ _) | (with_reducible refine Kd.C_drew ?_)))
        (case side2 => exact (Kd.S_reads' HO_268001.out).2.1)
        (case side3 => repeat (first | exact (Kd.S_reads' HO276.out).2.2 | (with_reducible refine Kd.C_alloc ?_ _) | (with_reducible refine Kd.C_drewN ?_ _) | (with_reducible refine Kd.C_drew ?_)))
        (case side4 => exact (Kd.S_reads' HO276.out).2.1)
        rintro e w47 ⟨rfl, hb⟩
        refine ⟨_, rfl, ?_⟩
        have n0_ := Aside0.mk (Kd.R_below (by (with_reducible repeat (first | apply Kd.R_alloc | apply Kd.R_drewN | apply Kd.R_drew)); exact HO_9.out) hb)
        have n1_ := Aside0.mk (Kd.S_below (by (with_reducible repeat (first | apply Kd.S_alloc | apply Kd.S_drewN | apply Kd.S_drew)); exact HO_268001.out) hb)
        have n2_ := Aside0.mk (Kd.S_below (by (with_reducible repeat (first | apply Kd.S_alloc | apply Kd.S_drewN | apply Kd.S_drew)); exact HO276.out) hb)
        have n3_ := Aside0.mk (blk_below (g := gb252) (o := .cells #[.int .i64 a0_0, .slice A0_1 l0_1.length c0_1] 30 (0, 0)) (by (with_reducible repeat (first | refine blk_drewN ?_ _ | refine blk_drew ?_ | refine blk_alloc ?_ _)); exact BK252.out) hb)
        have n4_ := Aside0.mk (blk_below (g := gb267) (o := .cells #[.int .i64 t263, .slice Ao31 t264.length co31] 33 (0, 0)) (by (with_reducible repeat (first | refine blk_drewN ?_ _ | refine blk_drew ?_ | refine blk_alloc ?_ _)); exact BK267.out) hb)
        have n5_ := Aside0.mk (below_step (by repeat (first | (with_reducible first | exact HB.out | apply below_alloc | apply pw_below_drewN | apply below_drew1 | refine below_set ?_ GE252.out | refine below_set ?_ GE267.out) | exact HB.out)) hb)
        clear HO_9
        clear HO_268001
        clear HO276
        clear BK252
        clear BK267
        clear HB
        have HO_9 := n0_
        have HO_268001 := n1_
        have HO276 := n2_
        have BK252 := n3_
        have BK267 := n4_
        have HB := n5_
        clear n0_ n1_ n2_ n3_ n4_ n5_
        (try clear hb)
        (try clear hb2)
        (try clear hk)
        (try clear hi)
        refine hK.out _ _ ⟨(blk_cell BK267.out 0).trans rfl, (blk_cell BK267.out 1).trans rfl, (blk_cell BK252.out 0).trans rfl, (blk_cell BK252.out 1).trans rfl⟩ (fun hHeld => ?_)
        clear hK K
        refine norm_ (a' := ?_) ?_ ?_
        rotate_left
        ·show Act.put _ (some 49) _ = _
         simp only [Act.put, List.setIfInBounds_toArray, List.set_cons_zero, List.set_cons_succ, i64_w, i32_w]
         rfl
        refine pure_ (i := 4) (N := some 50) (v := ?_) (a' := ?_) #[true, true, true, true, true] rfl rfl (by kernel_rfl) (fun _ _ _ h => h) (Or.inl ⟨by rfl, ?_⟩) ?_ ?_
        rotate_left
        ·intro w'
         go_simp
         with_reducible rfl
        rotate_left
        ·simp only [Act.put, List.setIfInBounds_toArray, List.set_cons_zero, List.set_cons_succ, i64_w, i32_w]
         rfl
        refine done_ (by kernel_rfl) ?_
        try go_wp2_with (first | ((with_reducible refine gate_callee (f := 11) rfl ?_); refine goesL_ (some 53) rfl rfl Try.func11 (by kernel_rfl) rfl #[.slice A1 l1.length c1] rfl (by (try simp only [List.map_toArray, List.map_cons, List.map_nil]); first | done | rfl | (simp only [List.length_drop, List.length_take]; rfl)) ?_; (with_reducible refine (laws_toInt64S.calls kj15 _ _ l1 t278 _ ?side1 ?side2 A41.out).mono ?_); (case side1 => repeat (first | exact (Kd.C_below HR1.out HB.out) | (with_reducible refine Kd.C_alloc ?_ _) | (with_reducible refine Kd.C_drewN ?_ _) | (with_reducible refine Kd.C_drew ?_))); (case side2 => exact HC1.out); rintro e w48 ⟨v279, rfl, ho0, hb⟩; refine ⟨_, rfl, ?_⟩; have n0_ := Aside0.mk (Kd.R_elder' (by (with_reducible repeat (first | apply Kd.R_alloc | apply Kd.R_drewN | apply Kd.R_drew)); exact HO_9.out) (Kd.R_base ho0) hb); have n1_ := Aside0.mk (Kd.S_elder' (by (with_reducible repeat (first | apply Kd.S_alloc | apply Kd.S_drewN | apply Kd.S_drew)); exact HO_268001.out) (Kd.R_base ho0) hb); have n2_ := Aside0.mk (Kd.S_elder' (by (with_reducible repeat (first | apply Kd.S_alloc | apply Kd.S_drewN | apply Kd.S_drew)); exact HO276.out) (Kd.R_base ho0) hb); have n3_ := Aside0.mk (Kd.R_lower (Kd.R_new' ho0 (Kd.R_lt (by (with_reducible repeat (first | apply Kd.R_alloc | apply Kd.R_drewN | apply Kd.R_drew)); exact HO_9.out))) (below_size (by repeat (first | (with_reducible first | exact HB.out | apply below_alloc | apply pw_below_drewN | apply below_drew1 | refine below_set ?_ GE252.out | refine below_set ?_ GE267.out) | exact HB.out)))); have n4_ := Aside0.mk (blk_below (g := gb252) (o := .cells #[.int .i64 a0_0, .slice A0_1 l0_1.length c0_1] 30 (0, 0)) (by (with_reducible repeat (first | refine blk_drewN ?_ _ | refine blk_drew ?_ | refine blk_alloc ?_ _)); exact BK252.out) hb); have n5_ := Aside0.mk (blk_below (g := gb267) (o := .cells #[.int .i64 t263, .slice Ao31 t264.length co31] 33 (0, 0)) (by (with_reducible repeat (first | refine blk_drewN ?_ _ | refine blk_drew ?_ | refine blk_alloc ?_ _)); exact BK267.out) hb); have n6_ := Aside0.mk (below_step (by repeat (first | (with_reducible first | exact HB.out | apply below_alloc | apply pw_below_drewN | apply below_drew1 | refine below_set ?_ GE252.out | refine below_set ?_ GE267.out) | exact HB.out)) hb); clear HO_9; clear HO_268001; clear HO276; clear BK252; clear BK267; clear HB; have HO_9 := n0_; have HO_268001 := n1_; have HO276 := n2_; have HO280 := n3_; have BK252 := n4_; have BK267 := n5_; have HB := n6_; clear n0_ n1_ n2_ n3_ n4_ n5_ n6_; (try clear hb); (try clear hb2); (try clear hk); (try clear hi); (try clear ho0); obtain ⟨Ao49, co49, eo49⟩ := Kd.R_slice HO280.out; subst eo49) | ((with_reducible refine gate_callee (f := 13) rfl ?_); refine goesL_ (some 54) rfl rfl Try.func13 (by kernel_rfl) rfl #[.slice Ao34 t268.length co34, .slice Ao49 t278.length co49] rfl (by (try simp only [List.map_toArray, List.map_cons, List.map_nil]); first | done | rfl | (simp only [List.length_drop, List.length_take]; rfl)) ?_; (with_reducible refine (laws_eqInt64S.calls kj15 _ _ t268 _ _ t278 true _ ?side1 ?side2 ?side3 ?side4 A42.out).mono ?_); (case side1 => repeat (first | exact (Kd.R_reads' HO_9.out).2.2 | (with_reducible refine Kd.C_alloc ?_ _) | (with_reducible refine Kd.C_drewN ?_ _) | (with_reducible refine Kd.C_drew ?_))); (case side2 => exact (Kd.R_reads' HO_9.out).2.1); (case side3 => repeat (first | exact (Kd.R_reads' HO280.out).2.2 | (with_reducible refine Kd.C_alloc ?_ _) | (with_reducible refine Kd.C_drewN ?_ _) | (with_reducible refine Kd.C_drew ?_))); (case side4 => exact (Kd.R_reads' HO280.out).2.1); rintro e w' ⟨rfl, ⟨nd, rfl⟩⟩; refine ⟨_, rfl, ?_⟩))
        go_ret
        exact ⟨by first | rfl | (simp [errW_none, errW_some] <;> rfl) | (simp [*, errW_none, errW_some] <;> rfl), by repeat (first | (with_reducible first | exact HB.out | apply below_alloc | apply pw_below_drewN | apply below_drew1 | refine below_set ?_ GE252.out | refine below_set ?_ GE267.out) | exact HB.out)⟩
       ·replace c43 := Bool.eq_false_iff.mpr c43
        subst c43
        have H1 : (some false) = some r := by rw [if_neg (show ¬ (false = true) by decide)] at H; exact H
        clear H
        have H := H1
        clear H1
        obtain rfl := Option.some.inj H
        try go_wp2
        have n0_ := Aside0.mk (Kd.R_drew HO_9.out)
        have n1_ := Aside0.mk (Kd.S_drew HO_268001.out)
        have n2_ := Aside0.mk (blk_drew BK252.out)
        have n3_ := Aside0.mk (blk_drew BK267.out)
        have n4_ := Aside0.mk (below_drew1 HB.out)
        clear HO_9
        clear HO_268001
        clear BK252
        clear BK267
        clear HB
        have HO_9 := n0_
        have HO_268001 := n1_
        have BK252 := n2_
        have BK267 := n3_
        have HB := n4_
        clear n0_ n1_ n2_ n3_ n4_
        refine start_ (n := 5) (S := fun w' => w'.cell? ⟨gb267, 0, none⟩ = some (.int .i64 t263) ∧ w'.cell? ⟨gb267, 1, none⟩ = some (.slice Ao31 t264.length co31) ∧ w'.cell? ⟨gb252, 0, none⟩ = some (.int .i64 a0_0) ∧ w'.cell? ⟨gb252, 1, none⟩ = some (.slice A0_1 l0_1.length c0_1)) (ds := []) #[false, false, false, false, false] (by kernel_rfl) rfl rfl ⟨(blk_cell BK267.out 0).trans rfl, (blk_cell BK267.out 1).trans rfl, (blk_cell BK252.out 0).trans rfl, (blk_cell BK252.out 1).trans rfl⟩ (fun hHeld => ?_)
        generalize wc.drew = w50 at HO_9 HO_268001 BK252 BK267 HB hHeld ⊢
        refine take_ (i := 0) (N := some 46) (v := ?_) (a' := ?_) #[true, false, false, false, false] rfl rfl (by kernel_rfl) (fun _ _ _ h => h) (Or.inl ⟨by rfl, ?_⟩) hHeld ?_ ?_
        rotate_left
        ·rintro w' ⟨s0, s1, s2, s3⟩
         go_simp
         with_reducible rfl
        rotate_left
        ·simp only [Act.put, List.setIfInBounds_toArray, List.set_cons_zero, List.set_cons_succ, i64_w, i32_w]
         rfl
        refine take_ (i := 1) (N := some 47) (v := ?_) (a' := ?_) #[true, true, false, false, false] rfl rfl (by kernel_rfl) (fun _ _ _ h => h) (Or.inl ⟨by rfl, ?_⟩) hHeld ?_ ?_
        rotate_left
        ·rintro w' ⟨s0, s1, s2, s3⟩
         go_simp
         with_reducible rfl
        rotate_left
        ·simp only [Act.put, List.setIfInBounds_toArray, List.set_cons_zero, List.set_cons_succ, i64_w, i32_w]
         rfl
        refine one_ (i := 2) (N := some 48) #[true, true, true, false, false] rfl rfl (by kernel_rfl) (by decide) (fun K hK => ?_)
        refine goes_ Try.func18 (by kernel_rfl) rfl #[.agg #[.int .i64 a0_0, .slice A0_1 l0_1.length c0_1]] (by rfl) rfl rfl (by (try simp only [List.map_toArray, List.map_cons, List.map_nil]); first | done | rfl | (simp only [List.length_drop, List.length_take]; rfl)) ?_
        with_reducible refine (laws_toNet.calls kj15 a0_0 _ _ l0_1 t273 t274 _ ?side1 ?side2 A38.out).mono ?_
        (case side1 => repeat (first | exact (Kd.C_below HR0_1.out HB.out) | (with_reducible refine Kd.C_alloc ?_ _) | (with_reducible refine Kd.C_drewN ?_ _) | (with_reducible refine Kd.C_drew ?_)))
        (case side2 => exact HC0_1.out)
        rintro e w51 ⟨v275, rfl, ho0, hb⟩
        refine ⟨_, rfl, ?_⟩
        have n0_ := Aside0.mk (Kd.R_below (by (with_reducible repeat (first | apply Kd.R_alloc | apply Kd.R_drewN | apply Kd.R_drew)); exact HO_9.out) hb)
        have n1_ := Aside0.mk (Kd.S_elder' (by (with_reducible repeat (first | apply Kd.S_alloc | apply Kd.S_drewN | apply Kd.S_drew)); exact HO_268001.out) (Kd.S_base ho0) hb)
        have n2_ := Aside0.mk (Kd.S_lower (Kd.S_new' (Kd.S_new' ho0 (Kd.R_lt (by (with_reducible repeat (first | apply Kd.R_alloc | apply Kd.R_drewN | apply Kd.R_drew)); exact HO_9.out))) (Kd.S_lt (by (with_reducible repeat (first | apply Kd.S_alloc | apply Kd.S_drewN | apply Kd.S_drew)); exact HO_268001.out))) (below_size (by repeat (first | (with_reducible first | exact HB.out | apply below_alloc | apply pw_below_drewN | apply below_drew1 | refine below_set ?_ GE252.out | refine below_set ?_ GE267.out) | exact HB.out))))
        have n3_ := Aside0.mk (blk_below (g := gb252) (o := .cells #[.int .i64 a0_0, .slice A0_1 l0_1.length c0_1] 30 (0, 0)) (by (with_reducible repeat (first | refine blk_drewN ?_ _ | refine blk_drew ?_ | refine blk_alloc ?_ _)); exact BK252.out) hb)
        have n4_ := Aside0.mk (blk_below (g := gb267) (o := .cells #[.int .i64 t263, .slice Ao31 t264.length co31] 33 (0, 0)) (by (with_reducible repeat (first | refine blk_drewN ?_ _ | refine blk_drew ?_ | refine blk_alloc ?_ _)); exact BK267.out) hb)
        have n5_ := Aside0.mk (below_step (by repeat (first | (with_reducible first | exact HB.out | apply below_alloc | apply pw_below_drewN | apply below_drew1 | refine below_set ?_ GE252.out | refine below_set ?_ GE267.out) | exact HB.out)) hb)
        clear HO_9
        clear HO_268001
        clear BK252
        clear BK267
        clear HB
        have HO_9 := n0_
        have HO_268001 := n1_
        have HO276 := n2_
        have BK252 := n3_
        have BK267 := n4_
        have HB := n5_
        clear n0_ n1_ n2_ n3_ n4_ n5_
        (try clear hb)
        (try clear hb2)
        (try clear hk)
        (try clear hi)
        (try clear ho0)
        obtain ⟨Ao52, co52, eo52⟩ := Kd.S_slice HO276.out
        (first | subst eo52 | (injection eo52 with f1_ f2_ f3_; have f4_ := f1_.symm; have f5_ := f3_.symm; clear f1_ f2_ f3_; subst f4_; subst f5_))
        refine hK.out _ _ ⟨(blk_cell BK267.out 0).trans rfl, (blk_cell BK267.out 1).trans rfl, (blk_cell BK252.out 0).trans rfl, (blk_cell BK252.out 1).trans rfl⟩ (fun hHeld => ?_)
        clear hK K
        refine norm_ (a' := ?_) ?_ ?_
        rotate_left
        ·show Act.put _ (some 48) _ = _
         simp only [Act.put, List.setIfInBounds_toArray, List.set_cons_zero, List.set_cons_succ, i64_w, i32_w]
         rfl
        refine one_ (i := 3) (N := some 49) #[true, true, true, true, false] rfl rfl (by kernel_rfl) (by decide) (fun K hK => ?_)
        refine goes_ Try.func20 (by kernel_rfl) rfl #[.agg #[.int .i64 t263, .slice Ao31 t264.length co31], .agg #[.int .i64 t273, .slice Ao52 t274.length co52]] (by rfl) rfl rfl (by (try simp only [List.map_toArray, List.map_cons, List.map_nil]); first | done | rfl | (simp only [List.length_drop, List.length_take]; rfl)) ?_
        with_reducible refine (laws_eqNet.calls kj15 t263 _ _ t264 t273 _ _ t274 true _ ?side1 ?side2 ?side3 ?side4 A39.out).mono ?_
        (case side1 => repeat (first | exact (Kd.S_reads' HO_268001.out).2.2 | (with_reducible refine Kd.C_alloc ?_ _) | (with_reducible refine Kd.C_drewN ?_ _) | (with_reducible refine Kd.C_drew ?_)))
        (case side2 => exact (Kd.S_reads' HO_268001.out).2.1)
        (case side3 => repeat (first | exact (Kd.S_reads' HO276.out).2.2 | (with_reducible refine Kd.C_alloc ?_ _) | (with_reducible refine Kd.C_drewN ?_ _) | (with_reducible refine Kd.C_drew ?_)))
        (case side4 => exact (Kd.S_reads' HO276.out).2.1)
        rintro e w53 ⟨rfl, hb⟩
        refine ⟨_, rfl, ?_⟩
        have n0_ := Aside0.mk (Kd.R_below (by (with_reducible repeat (first | apply Kd.R_alloc | apply Kd.R_drewN | apply Kd.R_drew)); exact HO_9.out) hb)
        have n1_ := Aside0.mk (Kd.S_below (by (with_reducible repeat (first | apply Kd.S_alloc | apply Kd.S_drewN | apply Kd.S_drew)); exact HO_268001.out) hb)
        have n2_ := Aside0.mk (Kd.S_below (by (with_reducible repeat (first | apply Kd.S_alloc | apply Kd.S_drewN | apply Kd.S_drew)); exact HO276.out) hb)
        have n3_ := Aside0.mk (blk_below (g := gb252) (o := .cells #[.int .i64 a0_0, .slice A0_1 l0_1.length c0_1] 30 (0, 0)) (by (with_reducible repeat (first | refine blk_drewN ?_ _ | refine blk_drew ?_ | refine blk_alloc ?_ _)); exact BK252.out) hb)
        have n4_ := Aside0.mk (blk_below (g := gb267) (o := .cells #[.int .i64 t263, .slice Ao31 t264.length co31] 33 (0, 0)) (by (with_reducible repeat (first | refine blk_drewN ?_ _ | refine blk_drew ?_ | refine blk_alloc ?_ _)); exact BK267.out) hb)
        have n5_ := Aside0.mk (below_step (by repeat (first | (with_reducible first | exact HB.out | apply below_alloc | apply pw_below_drewN | apply below_drew1 | refine below_set ?_ GE252.out | refine below_set ?_ GE267.out) | exact HB.out)) hb)
        clear HO_9
        clear HO_268001
        clear HO276
        clear BK252
        clear BK267
        clear HB
        have HO_9 := n0_
        have HO_268001 := n1_
        have HO276 := n2_
        have BK252 := n3_
        have BK267 := n4_
        have HB := n5_
        clear n0_ n1_ n2_ n3_ n4_ n5_
        (try clear hb)
        (try clear hb2)
        (try clear hk)
        (try clear hi)
        refine hK.out _ _ ⟨(blk_cell BK267.out 0).trans rfl, (blk_cell BK267.out 1).trans rfl, (blk_cell BK252.out 0).trans rfl, (blk_cell BK252.out 1).trans rfl⟩ (fun hHeld => ?_)
        clear hK K
        refine norm_ (a' := ?_) ?_ ?_
        rotate_left
        ·show Act.put _ (some 49) _ = _
         simp only [Act.put, List.setIfInBounds_toArray, List.set_cons_zero, List.set_cons_succ, i64_w, i32_w]
         rfl
        refine pure_ (i := 4) (N := some 50) (v := ?_) (a' := ?_) #[true, true, true, true, true] rfl rfl (by kernel_rfl) (fun _ _ _ h => h) (Or.inl ⟨by rfl, ?_⟩) ?_ ?_
        rotate_left
        ·intro w'
         go_simp
         with_reducible rfl
        rotate_left
        ·simp only [Act.put, List.setIfInBounds_toArray, List.set_cons_zero, List.set_cons_succ, i64_w, i32_w]
         rfl
        refine done_ (by kernel_rfl) ?_
        try go_wp2_with (first | ((with_reducible refine gate_callee (f := 11) rfl ?_); refine goesL_ (some 53) rfl rfl Try.func11 (by kernel_rfl) rfl #[.slice A1 l1.length c1] rfl (by (try simp only [List.map_toArray, List.map_cons, List.map_nil]); first | done | rfl | (simp only [List.length_drop, List.length_take]; rfl)) ?_; (with_reducible refine (laws_toInt64S.calls kj15 _ _ l1 t278 _ ?side1 ?side2 A41.out).mono ?_); (case side1 => repeat (first | exact (Kd.C_below HR1.out HB.out) | (with_reducible refine Kd.C_alloc ?_ _) | (with_reducible refine Kd.C_drewN ?_ _) | (with_reducible refine Kd.C_drew ?_))); (case side2 => exact HC1.out); rintro e w54 ⟨v279, rfl, ho0, hb⟩; refine ⟨_, rfl, ?_⟩; have n0_ := Aside0.mk (Kd.R_elder' (by (with_reducible repeat (first | apply Kd.R_alloc | apply Kd.R_drewN | apply Kd.R_drew)); exact HO_9.out) (Kd.R_base ho0) hb); have n1_ := Aside0.mk (Kd.S_elder' (by (with_reducible repeat (first | apply Kd.S_alloc | apply Kd.S_drewN | apply Kd.S_drew)); exact HO_268001.out) (Kd.R_base ho0) hb); have n2_ := Aside0.mk (Kd.S_elder' (by (with_reducible repeat (first | apply Kd.S_alloc | apply Kd.S_drewN | apply Kd.S_drew)); exact HO276.out) (Kd.R_base ho0) hb); have n3_ := Aside0.mk (Kd.R_lower (Kd.R_new' ho0 (Kd.R_lt (by (with_reducible repeat (first | apply Kd.R_alloc | apply Kd.R_drewN | apply Kd.R_drew)); exact HO_9.out))) (below_size (by repeat (first | (with_reducible first | exact HB.out | apply below_alloc | apply pw_below_drewN | apply below_drew1 | refine below_set ?_ GE252.out | refine below_set ?_ GE267.out) | exact HB.out)))); have n4_ := Aside0.mk (blk_below (g := gb252) (o := .cells #[.int .i64 a0_0, .slice A0_1 l0_1.length c0_1] 30 (0, 0)) (by (with_reducible repeat (first | refine blk_drewN ?_ _ | refine blk_drew ?_ | refine blk_alloc ?_ _)); exact BK252.out) hb); have n5_ := Aside0.mk (blk_below (g := gb267) (o := .cells #[.int .i64 t263, .slice Ao31 t264.length co31] 33 (0, 0)) (by (with_reducible repeat (first | refine blk_drewN ?_ _ | refine blk_drew ?_ | refine blk_alloc ?_ _)); exact BK267.out) hb); have n6_ := Aside0.mk (below_step (by repeat (first | (with_reducible first | exact HB.out | apply below_alloc | apply pw_below_drewN | apply below_drew1 | refine below_set ?_ GE252.out | refine below_set ?_ GE267.out) | exact HB.out)) hb); clear HO_9; clear HO_268001; clear HO276; clear BK252; clear BK267; clear HB; have HO_9 := n0_; have HO_268001 := n1_; have HO276 := n2_; have HO280 := n3_; have BK252 := n4_; have BK267 := n5_; have HB := n6_; clear n0_ n1_ n2_ n3_ n4_ n5_ n6_; (try clear hb); (try clear hb2); (try clear hk); (try clear hi); (try clear ho0); obtain ⟨Ao55, co55, eo55⟩ := Kd.R_slice HO280.out; subst eo55) | ((with_reducible refine gate_callee (f := 13) rfl ?_); refine goesL_ (some 54) rfl rfl Try.func13 (by kernel_rfl) rfl #[.slice Ao34 t268.length co34, .slice Ao55 t278.length co55] rfl (by (try simp only [List.map_toArray, List.map_cons, List.map_nil]); first | done | rfl | (simp only [List.length_drop, List.length_take]; rfl)) ?_; (with_reducible refine (laws_eqInt64S.calls kj15 _ _ t268 _ _ t278 false _ ?side1 ?side2 ?side3 ?side4 A42.out).mono ?_); (case side1 => repeat (first | exact (Kd.R_reads' HO_9.out).2.2 | (with_reducible refine Kd.C_alloc ?_ _) | (with_reducible refine Kd.C_drewN ?_ _) | (with_reducible refine Kd.C_drew ?_))); (case side2 => exact (Kd.R_reads' HO_9.out).2.1); (case side3 => repeat (first | exact (Kd.R_reads' HO280.out).2.2 | (with_reducible refine Kd.C_alloc ?_ _) | (with_reducible refine Kd.C_drewN ?_ _) | (with_reducible refine Kd.C_drew ?_))); (case side4 => exact (Kd.R_reads' HO280.out).2.1); rintro e w' ⟨rfl, ⟨nd, rfl⟩⟩; refine ⟨_, rfl, ?_⟩))
        go_ret
        exact ⟨by first | rfl | (simp [errW_none, errW_some] <;> rfl) | (simp [*, errW_none, errW_some] <;> rfl), by repeat (first | (with_reducible first | exact HB.out | apply below_alloc | apply pw_below_drewN | apply below_drew1 | refine below_set ?_ GE252.out | refine below_set ?_ GE267.out) | exact HB.out)⟩
      ·replace c40 := Bool.eq_false_iff.mpr c40
       subst c40
       have H1 : (some false) = some r := by rw [if_neg (show ¬ (false = true) by decide)] at H; exact H
       clear H
       have H := H1
       clear H1
       obtain rfl := Option.some.inj H
       try go_wp2
       have n0_ := Aside0.mk (Kd.R_drew HO_9.out)
       have n1_ := Aside0.mk (Kd.S_drew HO_268001.out)
       have n2_ := Aside0.mk (blk_drew BK252.out)
       have n3_ := Aside0.mk (blk_drew BK267.out)
       have n4_ := Aside0.mk (below_drew1 HB.out)
       clear HO_9
       clear HO_268001
       clear BK252
       clear BK267
       clear HB
       have HO_9 := n0_
       have HO_268001 := n1_
       have BK252 := n2_
       have BK267 := n3_
       have HB := n4_
       clear n0_ n1_ n2_ n3_ n4_
       refine start_ (n := 5) (S := fun w' => w'.cell? ⟨gb267, 0, none⟩ = some (.int .i64 t263) ∧ w'.cell? ⟨gb267, 1, none⟩ = some (.slice Ao31 t264.length co31) ∧ w'.cell? ⟨gb252, 0, none⟩ = some (.int .i64 a0_0) ∧ w'.cell? ⟨gb252, 1, none⟩ = some (.slice A0_1 l0_1.length c0_1)) (ds := []) #[false, false, false, false, false] (by kernel_rfl) rfl rfl ⟨(blk_cell BK267.out 0).trans rfl, (blk_cell BK267.out 1).trans rfl, (blk_cell BK252.out 0).trans rfl, (blk_cell BK252.out 1).trans rfl⟩ (fun hHeld => ?_)
       generalize wc.drew = w56 at HO_9 HO_268001 BK252 BK267 HB hHeld ⊢
       refine take_ (i := 0) (N := some 46) (v := ?_) (a' := ?_) #[true, false, false, false, false] rfl rfl (by kernel_rfl) (fun _ _ _ h => h) (Or.inl ⟨by rfl, ?_⟩) hHeld ?_ ?_
       rotate_left
       ·rintro w' ⟨s0, s1, s2, s3⟩
        go_simp
        with_reducible rfl
       rotate_left
       ·simp only [Act.put, List.setIfInBounds_toArray, List.set_cons_zero, List.set_cons_succ, i64_w, i32_w]
        rfl
       refine take_ (i := 1) (N := some 47) (v := ?_) (a' := ?_) #[true, true, false, false, false] rfl rfl (by kernel_rfl) (fun _ _ _ h => h) (Or.inl ⟨by rfl, ?_⟩) hHeld ?_ ?_
       rotate_left
       ·rintro w' ⟨s0, s1, s2, s3⟩
        go_simp
        with_reducible rfl
       rotate_left
       ·simp only [Act.put, List.setIfInBounds_toArray, List.set_cons_zero, List.set_cons_succ, i64_w, i32_w]
        rfl
       refine one_ (i := 2) (N := some 48) #[true, true, true, false, false] rfl rfl (by kernel_rfl) (by decide) (fun K hK => ?_)
       refine goes_ Try.func18 (by kernel_rfl) rfl #[.agg #[.int .i64 a0_0, .slice A0_1 l0_1.length c0_1]] (by rfl) rfl rfl (by (try simp only [List.map_toArray, List.map_cons, List.map_nil]); first | done | rfl | (simp only [List.length_drop, List.length_take]; rfl)) ?_
       with_reducible refine (laws_toNet.calls kj15 a0_0 _ _ l0_1 t273 t274 _ ?side1 ?side2 A38.out).mono ?_
       (case side1 => repeat (first | exact (Kd.C_below HR0_1.out HB.out) | (with_reducible refine Kd.C_alloc ?_ _) | (with_reducible refine Kd.C_drewN ?_ _) | (with_reducible refine Kd.C_drew ?_)))
       (case side2 => exact HC0_1.out)
       rintro e w57 ⟨v275, rfl, ho0, hb⟩
       refine ⟨_, rfl, ?_⟩
       have n0_ := Aside0.mk (Kd.R_below (by (with_reducible repeat (first | apply Kd.R_alloc | apply Kd.R_drewN | apply Kd.R_drew)); exact HO_9.out) hb)
       have n1_ := Aside0.mk (Kd.S_elder' (by (with_reducible repeat (first | apply Kd.S_alloc | apply Kd.S_drewN | apply Kd.S_drew)); exact HO_268001.out) (Kd.S_base ho0) hb)
       have n2_ := Aside0.mk (Kd.S_lower (Kd.S_new' (Kd.S_new' ho0 (Kd.R_lt (by (with_reducible repeat (first | apply Kd.R_alloc | apply Kd.R_drewN | apply Kd.R_drew)); exact HO_9.out))) (Kd.S_lt (by (with_reducible repeat (first | apply Kd.S_alloc | apply Kd.S_drewN | apply Kd.S_drew)); exact HO_268001.out))) (below_size (by repeat (first | (with_reducible first | exact HB.out | apply below_alloc | apply pw_below_drewN | apply below_drew1 | refine below_set ?_ GE252.out | refine below_set ?_ GE267.out) | exact HB.out))))
       have n3_ := Aside0.mk (blk_below (g := gb252) (o := .cells #[.int .i64 a0_0, .slice A0_1 l0_1.length c0_1] 30 (0, 0)) (by (with_reducible repeat (first | refine blk_drewN ?_ _ | refine blk_drew ?_ | refine blk_alloc ?_ _)); exact BK252.out) hb)
       have n4_ := Aside0.mk (blk_below (g := gb267) (o := .cells #[.int .i64 t263, .slice Ao31 t264.length co31] 33 (0, 0)) (by (with_reducible repeat (first | refine blk_drewN ?_ _ | refine blk_drew ?_ | refine blk_alloc ?_ _)); exact BK267.out) hb)
       have n5_ := Aside0.mk (below_step (by repeat (first | (with_reducible first | exact HB.out | apply below_alloc | apply pw_below_drewN | apply below_drew1 | refine below_set ?_ GE252.out | refine below_set ?_ GE267.out) | exact HB.out)) hb)
       clear HO_9
       clear HO_268001
       clear BK252
       clear BK267
       clear HB
       have HO_9 := n0_
       have HO_268001 := n1_
       have HO276 := n2_
       have BK252 := n3_
       have BK267 := n4_
       have HB := n5_
       clear n0_ n1_ n2_ n3_ n4_ n5_
       (try clear hb)
       (try clear hb2)
       (try clear hk)
       (try clear hi)
       (try clear ho0)
       obtain ⟨Ao58, co58, eo58⟩ := Kd.S_slice HO276.out
       (first | subst eo58 | (injection eo58 with f1_ f2_ f3_; have f4_ := f1_.symm; have f5_ := f3_.symm; clear f1_ f2_ f3_; subst f4_; subst f5_))
       refine hK.out _ _ ⟨(blk_cell BK267.out 0).trans rfl, (blk_cell BK267.out 1).trans rfl, (blk_cell BK252.out 0).trans rfl, (blk_cell BK252.out 1).trans rfl⟩ (fun hHeld => ?_)
       clear hK K
       refine norm_ (a' := ?_) ?_ ?_
       rotate_left
       ·show Act.put _ (some 48) _ = _
        simp only [Act.put, List.setIfInBounds_toArray, List.set_cons_zero, List.set_cons_succ, i64_w, i32_w]
        rfl
       refine one_ (i := 3) (N := some 49) #[true, true, true, true, false] rfl rfl (by kernel_rfl) (by decide) (fun K hK => ?_)
       refine goes_ Try.func20 (by kernel_rfl) rfl #[.agg #[.int .i64 t263, .slice Ao31 t264.length co31], .agg #[.int .i64 t273, .slice Ao58 t274.length co58]] (by rfl) rfl rfl (by (try simp only [List.map_toArray, List.map_cons, List.map_nil]); first | done | rfl | (simp only [List.length_drop, List.length_take]; rfl)) ?_
       with_reducible refine (laws_eqNet.calls kj15 t263 _ _ t264 t273 _ _ t274 false _ ?side1 ?side2 ?side3 ?side4 A39.out).mono ?_
       (case side1 => repeat (first | exact (Kd.S_reads' HO_268001.out).2.2 | (with_reducible refine Kd.C_alloc ?_ _) | (with_reducible refine Kd.C_drewN ?_ _) | (with_reducible refine Kd.C_drew ?_)))
       (case side2 => exact (Kd.S_reads' HO_268001.out).2.1)
       (case side3 => repeat (first | exact (Kd.S_reads' HO276.out).2.2 | (with_reducible refine Kd.C_alloc ?_ _) | (with_reducible refine Kd.C_drewN ?_ _) | (with_reducible refine Kd.C_drew ?_)))
       (case side4 => exact (Kd.S_reads' HO276.out).2.1)
       rintro e w59 ⟨rfl, hb⟩
       refine ⟨_, rfl, ?_⟩
       have n0_ := Aside0.mk (Kd.R_below (by (with_reducible repeat (first | apply Kd.R_alloc | apply Kd.R_drewN | apply Kd.R_drew)); exact HO_9.out) hb)
       have n1_ := Aside0.mk (Kd.S_below (by (with_reducible repeat (first | apply Kd.S_alloc | apply Kd.S_drewN | apply Kd.S_drew)); exact HO_268001.out) hb)
       have n2_ := Aside0.mk (Kd.S_below (by (with_reducible repeat (first | apply Kd.S_alloc | apply Kd.S_drewN | apply Kd.S_drew)); exact HO276.out) hb)
       have n3_ := Aside0.mk (blk_below (g := gb252) (o := .cells #[.int .i64 a0_0, .slice A0_1 l0_1.length c0_1] 30 (0, 0)) (by (with_reducible repeat (first | refine blk_drewN ?_ _ | refine blk_drew ?_ | refine blk_alloc ?_ _)); exact BK252.out) hb)
       have n4_ := Aside0.mk (blk_below (g := gb267) (o := .cells #[.int .i64 t263, .slice Ao31 t264.length co31] 33 (0, 0)) (by (with_reducible repeat (first | refine blk_drewN ?_ _ | refine blk_drew ?_ | refine blk_alloc ?_ _)); exact BK267.out) hb)
       have n5_ := Aside0.mk (below_step (by repeat (first | (with_reducible first | exact HB.out | apply below_alloc | apply pw_below_drewN | apply below_drew1 | refine below_set ?_ GE252.out | refine below_set ?_ GE267.out) | exact HB.out)) hb)
       clear HO_9
       clear HO_268001
       clear HO276
       clear BK252
       clear BK267
       clear HB
       have HO_9 := n0_
       have HO_268001 := n1_
       have HO276 := n2_
       have BK252 := n3_
       have BK267 := n4_
       have HB := n5_
       clear n0_ n1_ n2_ n3_ n4_ n5_
       (try clear hb)
       (try clear hb2)
       (try clear hk)
       (try clear hi)
       refine hK.out _ _ ⟨(blk_cell BK267.out 0).trans rfl, (blk_cell BK267.out 1).trans rfl, (blk_cell BK252.out 0).trans rfl, (blk_cell BK252.out 1).trans rfl⟩ (fun hHeld => ?_)
       clear hK K
       refine norm_ (a' := ?_) ?_ ?_
       rotate_left
       ·show Act.put _ (some 49) _ = _
        simp only [Act.put, List.setIfInBounds_toArray, List.set_cons_zero, List.set_cons_succ, i64_w, i32_w]
        rfl
       refine pure_ (i := 4) (N := some 50) (v := ?_) (a' := ?_) #[true, true, true, true, true] rfl rfl (by kernel_rfl) (fun _ _ _ h => h) (Or.inl ⟨by rfl, ?_⟩) ?_ ?_
       rotate_left
       ·intro w'
        go_simp
        with_reducible rfl
       rotate_left
       ·simp only [Act.put, List.setIfInBounds_toArray, List.set_cons_zero, List.set_cons_succ, i64_w, i32_w]
        rfl
       refine done_ (by kernel_rfl) ?_
       try go_wp2
       go_ret
       exact ⟨by first | rfl | (simp [errW_none, errW_some] <;> rfl) | (simp [*, errW_none, errW_some] <;> rfl), by repeat (first | (with_reducible first | exact HB.out | apply below_alloc | apply pw_below_drewN | apply below_drew1 | refine below_set ?_ GE252.out | refine below_set ?_ GE267.out) | exact HB.out)⟩
-- Bits of whole numbers that are not less than 0.
theorem bitv_nat (a : Nat) (ha : a < 9223372036854775808) : (BitVec.ofInt 64 (a : Int)).toNat = a := by
  rw [BitVec.ofInt_natCast, BitVec.toNat_ofNat]; exact Nat.mod_eq_of_lt (by omega)
theorem i64_nat (n : Nat) (h : n < 9223372036854775808) : IntKind.i64.wrap (n : Int) = (n : Int) := by
  rw [i64_w]; unfold wrap64; omega
theorem bits_and_nat (a b : Nat) (ha : a < 9223372036854775808) (hb : b < 9223372036854775808) : Go.bits .and .i64 (a : Int) (b : Int) = ((a &&& b : Nat) : Int) := by
  have hx : a &&& b < 2 ^ 63 := Nat.and_lt_two_pow _ (by omega)
  show IntKind.i64.wrap ((BitVec.ofInt 64 (a : Int) &&& BitVec.ofInt 64 (b : Int)).toNat : Int) = _
  rw [BitVec.toNat_and, bitv_nat a ha, bitv_nat b hb, i64_nat _ (by omega)]
theorem bits_or_nat (a b : Nat) (ha : a < 9223372036854775808) (hb : b < 9223372036854775808) : Go.bits .or .i64 (a : Int) (b : Int) = ((a ||| b : Nat) : Int) := by
  have hx : a ||| b < 2 ^ 63 := Nat.or_lt_two_pow (by omega) (by omega)
  show IntKind.i64.wrap ((BitVec.ofInt 64 (a : Int) ||| BitVec.ofInt 64 (b : Int)).toNat : Int) = _
  rw [BitVec.toNat_or, bitv_nat a ha, bitv_nat b hb, i64_nat _ (by omega)]
/-- What a has and b has not. -/
def butNat (a b : Nat) : Nat := (BitVec.ofInt 64 (a : Int) &&& ~~~ BitVec.ofInt 64 (b : Int)).toNat
theorem butNat_bit (a b i : Nat) (ha : a < 9223372036854775808) (hb : b < 9223372036854775808) : (butNat a b).testBit i = (a.testBit i && !b.testBit i) := by
  unfold butNat
  rw [← BitVec.getLsbD, BitVec.getLsbD_and, BitVec.getLsbD_not, BitVec.getLsbD, BitVec.getLsbD, bitv_nat a ha, bitv_nat b hb]
  by_cases h : i < 64
  · simp [h]
  · have : a.testBit i = false := Nat.testBit_lt_two_pow (Nat.lt_of_lt_of_le ha (by have : 2 ^ 63 ≤ 2 ^ i := Nat.pow_le_pow_right (by omega) (by omega); omega))
    simp [h, this]
theorem butNat_lt (a b : Nat) (ha : a < 9223372036854775808) (hb : b < 9223372036854775808) : butNat a b ≤ a := by
  unfold butNat
  rw [BitVec.toNat_and, bitv_nat a ha]
  exact Nat.and_le_left
theorem bits_but_nat (a b : Nat) (ha : a < 9223372036854775808) (hb : b < 9223372036854775808) : Go.bits .andNot .i64 (a : Int) (b : Int) = ((butNat a b : Nat) : Int) := by
  show IntKind.i64.wrap ((BitVec.ofInt 64 (a : Int) &&& ~~~ BitVec.ofInt 64 (b : Int)).toNat : Int) = _
  have := butNat_lt a b ha hb
  unfold butNat at this ⊢
  rw [i64_nat _ (by omega)]
theorem shl_nat (i : Nat) (h : i < 63) : shl .i64 1 (i : Int) = ((2 ^ i : Nat) : Int) := by
  unfold shl
  have h1 : min ((i : Int)).toNat IntKind.i64.bits = i := by rw [Int.toNat_natCast]; show min i 64 = i; omega
  rw [h1, Int.one_mul]
  have h2 : (2 : Nat) ^ i < 9223372036854775808 := by
    have : (2 : Nat) ^ i < 2 ^ 63 := Nat.pow_lt_pow_right (by omega) h
    omega
  have h3 : ((2 : Int) ^ i) = ((2 ^ i : Nat) : Int) := by simp
  rw [h3, i64_nat _ h2]
theorem shr_nat (m i : Nat) (h : i ≤ 64) : shr .i64 (m : Int) (i : Int) = ((m >>> i : Nat) : Int) := by
  unfold shr
  have h1 : min ((i : Int)).toNat IntKind.i64.bits = i := by rw [Int.toNat_natCast]; show min i 64 = i; omega
  rw [h1, Nat.shiftRight_eq_div_pow]
  simp
/-- One bit read. -/
theorem bit_nat (m i : Nat) (hm : m < 9223372036854775808) (h : i ≤ 64) : Go.bits .and .i64 (shr .i64 (m : Int) (i : Int)) 1 = if m.testBit i = true then 1 else 0 := by
  rw [shr_nat m i h]
  have hs : m >>> i ≤ m := Nat.shiftRight_le m i
  have := bits_and_nat (m >>> i) 1 (by omega) (by omega)
  rw [show ((1 : Int)) = ((1 : Nat) : Int) from rfl, this]
  unfold Nat.testBit
  rw [Nat.and_comm 1]
  rw [Nat.and_one_is_mod]
  rcases Nat.mod_two_eq_zero_or_one (m >>> i) with e | e <;> rw [e] <;> simp
theorem u64_nat (i : Nat) (h : i < 9223372036854775808) : IntKind.u64.wrap (i : Int) = (i : Int) := by
  show (i : Int) % 18446744073709551616 = i
  omega
-- What the program's 'reached' and the reference's 'l10Reached' compute: the least set of points that holds one point and is closed under the accepted edges.
def NetEdges (l : List (List Int)) : Prop := l.length ≤ 10 ∧ ∀ e ∈ l, ∃ a b : Nat, e = [(a : Int), (b : Int)] ∧ a < 8 ∧ b < 8
def ea (l : List (List Int)) (i : Nat) : Nat := (rd (rd_L1 l i) 0).toNat
def eb (l : List (List Int)) (i : Nat) : Nat := (rd (rd_L1 l i) 1).toNat
theorem edge_at {l : List (List Int)} (h : NetEdges l) {i : Nat} (hi : i < l.length) : rd_L1 l i = [(ea l i : Int), (eb l i : Int)] ∧ ea l i < 8 ∧ eb l i < 8 := by
  have e : rd_L1 l (i : Int) = l[i] := by
    show l.getD ((i : Int)).toNat [] = l[i]
    rw [Int.toNat_natCast, List.getD_eq_getElem?_getD, List.getElem?_eq_getElem hi]; rfl
  obtain ⟨a, b, hab, ha, hb⟩ := h.2 l[i] (List.getElem_mem hi)
  unfold ea eb
  rw [e, hab]
  have h0 : rd [(a : Int), (b : Int)] 0 = (a : Int) := rfl
  have h1 : rd [(a : Int), (b : Int)] 1 = (b : Int) := rfl
  rw [h0, h1, Int.toNat_natCast, Int.toNat_natCast]
  exact ⟨rfl, ha, hb⟩
def ClosedUnder (A : Nat → Bool) (l : List (List Int)) (m : Nat) : Prop := ∀ i, i < l.length → A i = true → m.testBit (ea l i) = m.testBit (eb l i)
def Under (A : Nat → Bool) (l : List (List Int)) (f m : Nat) : Prop := ∀ M : Nat, M.testBit f = true → ClosedUnder A l M → ∀ x, m.testBit x = true → M.testBit x = true
def LeastSet (A : Nat → Bool) (l : List (List Int)) (f c : Nat) : Prop := c < 256 ∧ c.testBit f = true ∧ ClosedUnder A l c ∧ Under A l f c
theorem LeastSet.eq {A : Nat → Bool} {l : List (List Int)} {f c d : Nat} (h : LeastSet A l f c) (k : LeastSet A l f d) : c = d := by
  apply Nat.eq_of_testBit_eq
  intro x
  rw [Bool.eq_iff_iff]
  exact ⟨h.2.2.2 d k.2.1 k.2.2.1 x, k.2.2.2 c h.2.1 h.2.2.1 x⟩
theorem LeastSet.congr {A B : Nat → Bool} {l : List (List Int)} {f c : Nat} (h : LeastSet A l f c) (e : ∀ i, i < l.length → A i = B i) : LeastSet B l f c := by
  refine ⟨h.1, h.2.1, fun i hi hb => h.2.2.1 i hi (by rw [e i hi]; exact hb), fun M h1 h2 => h.2.2.2 M h1 (fun i hi ha => h2 i hi (by rw [← e i hi]; exact ha))⟩
theorem two_lt {a : Nat} (h : a < 8) : 2 ^ a < 256 := by
  have : 2 ^ a < 2 ^ 8 := Nat.pow_lt_pow_right (by omega) h
  omega
theorem or_lt {m a : Nat} (hm : m < 256) (ha : a < 256) : m ||| a < 256 := by
  have := Nat.or_lt_two_pow (n := 8) (x := m) (y := a) (by omega) (by omega)
  omega
theorem bit_or2 (m a b x : Nat) : ((m ||| 2 ^ a) ||| 2 ^ b).testBit x = (m.testBit x || decide (a = x) || decide (b = x)) := by
  rw [Nat.testBit_or, Nat.testBit_or, Nat.testBit_two_pow, Nat.testBit_two_pow]
theorem under_or {A : Nat → Bool} {l : List (List Int)} {f m i : Nat} (h : Under A l f m) (hi : i < l.length) (hA : A i = true) (hm : m.testBit (ea l i) = true ∨ m.testBit (eb l i) = true) : Under A l f ((m ||| 2 ^ ea l i) ||| 2 ^ eb l i) := by
  intro M hM hC x hx
  rw [bit_or2] at hx
  have hc := hC i hi hA
  have hu := h M hM hC
  simp only [Bool.or_eq_true, decide_eq_true_eq] at hx
  rcases hx with (hx | rfl) | rfl
  · exact hu x hx
  · rcases hm with hm | hm
    · exact hu _ hm
    · rw [hc]; exact hu _ hm
  · rcases hm with hm | hm
    · rw [← hc]; exact hu _ hm
    · exact hu _ hm
theorem or2_le (m a b : Nat) : m ≤ (m ||| 2 ^ a) ||| 2 ^ b := Nat.le_trans Nat.left_le_or Nat.left_le_or
theorem or2_ne {m a b : Nat} (h : m.testBit a ≠ m.testBit b) : m < (m ||| 2 ^ a) ||| 2 ^ b := by
  refine Nat.lt_of_le_of_ne (or2_le m a b) fun e => h ?_
  have h1 := bit_or2 m a b a
  have h2 := bit_or2 m a b b
  rw [← e] at h1 h2
  rw [h1, h2]; simp
theorem bit_mono_or (m a b f : Nat) (h : m.testBit f = true) : ((m ||| 2 ^ a) ||| 2 ^ b).testBit f = true := by rw [bit_or2, h]; rfl
theorem stepS (p : Int) (l : List (List Int)) (s m' a b i : Nat) (more : Bool) (k : Nat) (hs : s < 4611686018427387904) (hm' : m' < 256) (ha : a < 8) (hb : b < 8) (hlt : i < l.length) (hlen : l.length ≤ 10) (he : rd_L1 l i = [(a : Int), (b : Int)]) :
    spec_l10Reached.l1 (k + 1) s m' more i p l = if s.testBit i = true then (if m'.testBit a = m'.testBit b then spec_l10Reached.l1 k s m' more ((i + 1 : Nat) : Int) p l else spec_l10Reached.l1 k s (((m' ||| 2 ^ a) ||| 2 ^ b : Nat) : Int) true ((i + 1 : Nat) : Int) p l) else spec_l10Reached.l1 k s m' more ((i + 1 : Nat) : Int) p l := by
  have t1 := two_lt ha
  have t2 := two_lt hb
  have t3 := or_lt hm' t1
  have wn : wrap64 ((i : Int) + 1) = ((i + 1 : Nat) : Int) := by unfold wrap64; omega
  have r0 : rd [(a : Int), (b : Int)] 0 = (a : Int) := rfl
  have r1 : rd [(a : Int), (b : Int)] 1 = (b : Int) := rfl
  have b0 := bit_nat s i (by omega) (by omega)
  have b1 := bit_nat m' a (by omega) (by omega)
  have b2 := bit_nat m' b (by omega) (by omega)
  have s1 := shl_nat a (by omega)
  have s2 := shl_nat b (by omega)
  have o1 := bits_or_nat m' (2 ^ a) (by omega) (by omega)
  have o2 := bits_or_nat (m' ||| 2 ^ a) (2 ^ b) (by omega) (by omega)
  have u0 := u64_nat a (by omega)
  have u1 := u64_nat b (by omega)
  have u2 := u64_nat i (by omega)
  have n0 : (0 : Int) ≤ (a : Int) := by omega
  have n1 : (0 : Int) ≤ (b : Int) := by omega
  have n2 : (0 : Int) ≤ (i : Int) := by omega
  have n3 : (i : Int) < (l.length : Int) := by omega
  have l0 : (0 : Int) < (([(a : Int), (b : Int)] : List Int).length : Int) := by simp
  have l1 : (1 : Int) < (([(a : Int), (b : Int)] : List Int).length : Int) := by simp
  generalize (2 ^ a : Nat) = pa at *
  generalize (2 ^ b : Nat) = pb at *
  simp only [spec_l10Reached.l1]
  rw [if_pos n3, if_pos n2, he, if_pos l0, r0, u0, if_pos n0, if_pos l1]
  rw [r1, u1, if_pos n1, u2, if_pos n2]
  rw [b0, b1, b2, s1, s2, o1, o2, wn]
  cases s.testBit i <;> cases m'.testBit a <;> cases m'.testBit b <;> simp
theorem reachS_out (p : Int) (l : List (List Int)) (hl : NetEdges l) (s f : Nat) (hs : s < 4611686018427387904) : ∀ (n m : Nat), 256 - m ≤ n → m.testBit f = true → Under (fun i => s.testBit i) l f m → m < 256 →
    ∃ c : Nat, Ev (fun k => spec_l10Reached.l0 k s m true p l) (c : Int) ∧ LeastSet (fun i => s.testBit i) l f c := by
  intro n
  induction n with
  | zero => intro m h _ _ h2; omega
  | succ n ih =>
    intro m hn hf hu hm
    have pass : ∀ (d i : Nat), i + d = l.length → ∀ (m' : Nat) (more : Bool), m'.testBit f = true → Under (fun i => s.testBit i) l f m' → m' < 256 → (more = false → m' = m ∧ ∀ j, j < i → s.testBit j = true → m.testBit (ea l j) = m.testBit (eb l j)) → (more = true → m < m') →
        ∃ c : Nat, Ev (fun k => spec_l10Reached.l1 k s m' more i p l) (c : Int) ∧ LeastSet (fun i => s.testBit i) l f c := by
      intro d
      induction d with
      | zero =>
        intro i hi m' more hf' hu' hm' h0 h1
        have st : ∀ k, spec_l10Reached.l1 (k + 1) s m' more i p l = spec_l10Reached.l0 k s m' more p l := fun k => by
          simp only [spec_l10Reached.l1]; rw [if_neg (by omega)]
        cases more with
        | false =>
          obtain ⟨rfl, hc⟩ := h0 rfl
          refine ⟨m', Ev.step st (Ev.step (f := fun _ => some _) (fun k => ?_) (Ev.now _)), hm', hf', fun j hj ha => hc j (by omega) ha, hu'⟩
          simp only [spec_l10Reached.l0]; rw [if_neg (by simp)]
        | true =>
          have hlt := h1 rfl
          obtain ⟨c, hc, hL⟩ := ih m' (by omega) hf' hu' hm'
          exact ⟨c, Ev.step st hc, hL⟩
      | succ d ihd =>
        intro i hi m' more hf' hu' hm' h0 h1
        have hlt : i < l.length := by omega
        obtain ⟨he, ha, hb⟩ := edge_at hl hlt
        have step := fun k => stepS p l s m' (ea l i) (eb l i) i more k hs hm' ha hb hlt hl.1 he
        by_cases hA : s.testBit i = true
        · by_cases hq : m'.testBit (ea l i) = m'.testBit (eb l i)
          · obtain ⟨c, hc, hL⟩ := ihd (i + 1) (by omega) m' more hf' hu' hm' (fun hm0 => ⟨(h0 hm0).1, fun j hj hsj => by
              by_cases hji : j < i
              · exact (h0 hm0).2 j hji hsj
              · obtain rfl : j = i := by omega
                rw [← (h0 hm0).1]; exact hq⟩) h1
            exact ⟨c, Ev.step (fun k => by rw [step k, if_pos hA, if_pos hq]) hc, hL⟩
          · have hor : m'.testBit (ea l i) = true ∨ m'.testBit (eb l i) = true := by
              cases h3 : m'.testBit (ea l i) <;> cases h4 : m'.testBit (eb l i) <;> simp_all
            have hne := or2_ne hq
            have hle : m ≤ m' := by
              cases more with
              | false => rw [(h0 rfl).1]; exact Nat.le_refl _
              | true => exact Nat.le_of_lt (h1 rfl)
            obtain ⟨c, hc, hL⟩ := ihd (i + 1) (by omega) _ true (bit_mono_or m' (ea l i) (eb l i) f hf') (under_or hu' hlt hA hor) (or_lt (or_lt hm' (two_lt ha)) (two_lt hb)) (fun h => by simp at h) (fun _ => by omega)
            exact ⟨c, Ev.step (fun k => by rw [step k, if_pos hA, if_neg hq]) hc, hL⟩
        · obtain ⟨c, hc, hL⟩ := ihd (i + 1) (by omega) m' more hf' hu' hm' (fun hm0 => ⟨(h0 hm0).1, fun j hj hsj => by
              by_cases hji : j < i
              · exact (h0 hm0).2 j hji hsj
              · obtain rfl : j = i := by omega
                exact absurd hsj hA⟩) h1
          exact ⟨c, Ev.step (fun k => by rw [step k, if_neg hA]) hc, hL⟩
    obtain ⟨c, hc, hL⟩ := pass l.length 0 (by omega) m false hf hu hm (fun _ => ⟨rfl, fun j hj => by omega⟩) (fun h => by simp at h)
    refine ⟨c, Ev.step (fun k => ?_) hc, hL⟩
    simp only [spec_l10Reached.l0]; rw [if_pos trivial]; rfl
-- The program's 'reached' computes the least closed set.
theorem and_own (m a b : Nat) : m &&& (2 ^ a ||| 2 ^ b) = 0 ↔ (m.testBit a = false ∧ m.testBit b = false) := by
  constructor
  · intro h
    have h1 : (m &&& (2 ^ a ||| 2 ^ b)).testBit a = false := by rw [h]; simp
    have h2 : (m &&& (2 ^ a ||| 2 ^ b)).testBit b = false := by rw [h]; simp
    rw [Nat.testBit_and, Nat.testBit_or, Nat.testBit_two_pow, Nat.testBit_two_pow] at h1 h2
    constructor
    · simpa using h1
    · simpa using h2
  · rintro ⟨h1, h2⟩
    apply Nat.eq_of_testBit_eq
    intro x
    rw [Nat.testBit_and, Nat.testBit_or, Nat.testBit_two_pow, Nat.testBit_two_pow, Nat.zero_testBit]
    by_cases ha : a = x
    · subst ha; simp [h1]
    · by_cases hb : b = x
      · subst hb; simp [h2]
      · simp [ha, hb]
theorem stepI (acc : Int → Bool) (l : List (List Int)) (m m' a b i k : Nat) (hm' : m' < 256) (ha : a < 8) (hb : b < 8) (hlt : i < l.length) (he : rd_L1 l i = [(a : Int), (b : Int)]) :
    impl_Net_reached.l1 (k + 1) acc l m m' i = if acc (i : Int) = true then (if m'.testBit a = false ∧ m'.testBit b = false then impl_Net_reached.l1 k acc l m m' (i + 1) else impl_Net_reached.l1 k acc l m (((m' ||| 2 ^ a) ||| 2 ^ b : Nat) : Int) (i + 1)) else impl_Net_reached.l1 k acc l m m' (i + 1) := by
  have hao := and_own m' a b
  have t1 := two_lt ha
  have t2 := two_lt hb
  have t3 := or_lt t1 t2
  have r0 : rd [(a : Int), (b : Int)] 0 = (a : Int) := rfl
  have r1 : rd [(a : Int), (b : Int)] 1 = (b : Int) := rfl
  have s1 := shl_nat a (by omega)
  have s2 := shl_nat b (by omega)
  have asc := Nat.or_assoc m' (2 ^ a) (2 ^ b)
  generalize (2 ^ a : Nat) = pa at *
  generalize (2 ^ b : Nat) = pb at *
  have o1 := bits_or_nat pa pb (by omega) (by omega)
  have o2 := bits_or_nat m' (pa ||| pb) (by omega) (by omega)
  have o3 := bits_and_nat m' (pa ||| pb) (by omega) (by omega)
  rw [asc]
  simp only [impl_Net_reached.l1]
  unfold netOwn
  rw [if_pos hlt, he, r0, r1, s1, s2, o1, o2, o3]
  have e : (((m' &&& (pa ||| pb) : Nat) : Int) = 0) = (m'.testBit a = false ∧ m'.testBit b = false) := by
    rw [← hao]; exact propext (by omega)
  simp only [e]
theorem reachI_out (acc : Int → Bool) (l : List (List Int)) (hl : NetEdges l) (f : Nat) : ∀ (n m : Nat), 256 - m ≤ n → m.testBit f = true → Under (fun i => acc (i : Int)) l f m → m < 256 →
    ∃ c : Nat, Ev (fun k => impl_Net_reached.l1 k acc l m m 0) (c : Int) ∧ LeastSet (fun i => acc (i : Int)) l f c := by
  intro n
  induction n with
  | zero => intro m h _ _ h2; omega
  | succ n ih =>
    intro m hn hf hu hm
    have pass : ∀ (d i : Nat), i + d = l.length → ∀ (m' : Nat), m'.testBit f = true → Under (fun i => acc (i : Int)) l f m' → m' < 256 → m ≤ m' → (m' = m → ∀ j : Nat, j < i → acc (j : Int) = true → m.testBit (ea l j) = m.testBit (eb l j)) →
        ∃ c : Nat, Ev (fun k => impl_Net_reached.l1 k acc l m m' i) (c : Int) ∧ LeastSet (fun i => acc (i : Int)) l f c := by
      intro d
      induction d with
      | zero =>
        intro i hi m' hf' hu' hm' hle h0
        have st : ∀ k, impl_Net_reached.l1 (k + 1) acc l m m' i = impl_Net_reached.l0 k acc l m m' := fun k => by
          simp only [impl_Net_reached.l1]; rw [if_neg (by omega)]
        by_cases e : m' = m
        · have hc := h0 e
          subst e
          refine ⟨m', Ev.step st (Ev.step (f := fun _ => some _) (fun k => ?_) (Ev.now _)), hm', hf', fun j hj ha => hc j (by omega) ha, hu'⟩
          simp only [impl_Net_reached.l0]; rw [if_pos trivial]
        · obtain ⟨c, hc, hL⟩ := ih m' (by omega) hf' hu' hm'
          refine ⟨c, Ev.step st (Ev.step (fun k => ?_) hc), hL⟩
          simp only [impl_Net_reached.l0]; rw [if_neg (by omega)]
      | succ d ihd =>
        intro i hi m' hf' hu' hm' hle h0
        have hlt : i < l.length := by omega
        obtain ⟨he, ha, hb⟩ := edge_at hl hlt
        have step := fun k => stepI acc l m m' (ea l i) (eb l i) i k hm' ha hb hlt he
        by_cases hA : acc (i : Int) = true
        · by_cases hq : m'.testBit (ea l i) = false ∧ m'.testBit (eb l i) = false
          · obtain ⟨c, hc, hL⟩ := ihd (i + 1) (by omega) m' hf' hu' hm' hle (fun hm0 j hj hsj => by
              by_cases hji : j < i
              · exact h0 hm0 j hji hsj
              · obtain rfl : j = i := by omega
                rw [← hm0, hq.1, hq.2])
            exact ⟨c, Ev.step (fun k => by rw [step k, if_pos hA, if_pos hq]) hc, hL⟩
          · have hor : m'.testBit (ea l i) = true ∨ m'.testBit (eb l i) = true := by
              cases h3 : m'.testBit (ea l i) <;> cases h4 : m'.testBit (eb l i) <;> simp_all
            have hge := or2_le m' (ea l i) (eb l i)
            obtain ⟨c, hc, hL⟩ := ihd (i + 1) (by omega) ((m' ||| 2 ^ ea l i) ||| 2 ^ eb l i) (bit_mono_or m' (ea l i) (eb l i) f hf') (under_or hu' hlt hA hor) (or_lt (or_lt hm' (two_lt ha)) (two_lt hb)) (by omega) (fun hm0 j hj hsj => by
              have e : m' = m := by omega
              by_cases hji : j < i
              · exact h0 e j hji hsj
              · obtain rfl : j = i := by omega
                have h1 := bit_or2 m' (ea l j) (eb l j) (ea l j)
                have h2 := bit_or2 m' (ea l j) (eb l j) (eb l j)
                rw [hm0] at h1 h2
                rw [h1, h2]; simp)
            exact ⟨c, Ev.step (fun k => by rw [step k, if_pos hA, if_neg hq]) hc, hL⟩
        · obtain ⟨c, hc, hL⟩ := ihd (i + 1) (by omega) m' hf' hu' hm' hle (fun hm0 j hj hsj => by
              by_cases hji : j < i
              · exact h0 hm0 j hji hsj
              · obtain rfl : j = i := by omega
                exact absurd hsj hA)
          exact ⟨c, Ev.step (fun k => by rw [step k, if_neg hA]) hc, hL⟩
    obtain ⟨c, hc, hL⟩ := pass l.length 0 (by omega) m hf hu hm (Nat.le_refl _) (fun _ j hj => by omega)
    exact ⟨c, hc, hL⟩
theorem under_one (A : Nat → Bool) (l : List (List Int)) (f : Nat) : Under A l f (2 ^ f) := by
  intro M hM _ x hx
  rw [Nat.testBit_two_pow] at hx
  simp only [decide_eq_true_eq] at hx
  rw [← hx]; exact hM
theorem reachI_ev (acc : Int → Bool) (l : List (List Int)) (hl : NetEdges l) (f : Nat) (hf : f < 8) :
    ∃ c : Nat, Ev (fun k => impl_Net_reached.l0 k acc l 0 (shl .i64 1 (f : Int))) (c : Int) ∧ LeastSet (fun i => acc (i : Int)) l f c := by
  rw [shl_nat f (by omega)]
  have h2 := two_lt hf
  have hp : 0 < 2 ^ f := Nat.two_pow_pos f
  obtain ⟨c, hc, hL⟩ := reachI_out acc l hl f 256 (2 ^ f) (by omega) (by simp) (under_one _ l f) h2
  refine ⟨c, Ev.step (fun k => ?_) hc, hL⟩
  generalize (2 ^ f : Nat) = pf at *
  simp only [impl_Net_reached.l0]; rw [if_neg (by omega)]
theorem reachS_ev (p : Int) (l : List (List Int)) (hl : NetEdges l) (s f : Nat) (hs : s < 4611686018427387904) (hf : f < 8) :
    ∃ c : Nat, Ev (fun k => spec_l10Reached.f k p l s f) (c : Int) ∧ LeastSet (fun i => s.testBit i) l f c := by
  have h2 := two_lt hf
  obtain ⟨c, hc, hL⟩ := reachS_out p l hl s f hs 256 (2 ^ f) (Nat.sub_le _ _) (by simp) (under_one _ l f) h2
  refine ⟨c, Ev.congr (fun k => ?_) hc, hL⟩
  unfold spec_l10Reached.f
  rw [u64_nat f (by omega), if_pos (by omega), shl_nat f (by omega)]
-- areDouble and l10Double say the same.
/-- There is a part of the edges which joins a set's points, and so does what is left. -/
def Halves (l : List (List Int)) (s f p : Nat) : Prop := LeastSet (fun i => insideV l s i && p.testBit i) l f s ∧ LeastSet (fun i => insideV l s i && !p.testBit i) l f s
theorem nodeIn_nat (s i : Nat) (hs : s < 9223372036854775808) (h : i ≤ 64) : nodeIn (s : Int) (i : Int) = s.testBit i := by
  unfold nodeIn
  rw [bit_nat s i hs h]
  cases s.testBit i <;> simp
theorem inside_nat {l : List (List Int)} (hl : NetEdges l) (s i : Nat) (hs : s < 256) (hi : i < l.length) : insideV l (s : Int) (i : Int) = (s.testBit (ea l i) && s.testBit (eb l i)) := by
  obtain ⟨he, ha, hb⟩ := edge_at hl hi
  unfold insideV
  have r0 : rd [(ea l i : Int), (eb l i : Int)] 0 = (ea l i : Int) := rfl
  have r1 : rd [(ea l i : Int), (eb l i : Int)] 1 = (eb l i : Int) := rfl
  rw [he, r0, r1, nodeIn_nat _ _ (by omega) (by omega), nodeIn_nat _ _ (by omega) (by omega)]
theorem part_nat1 {l : List (List Int)} (s p i : Nat) (hp : p < 9223372036854775808) (hi : i ≤ 64) : partIn 1 l (s : Int) (p : Int) (i : Int) = (insideV l s i && p.testBit i) := by
  unfold partIn
  rw [bit_nat p i hp hi]
  cases p.testBit i <;> simp
theorem part_nat0 {l : List (List Int)} (s p i : Nat) (hp : p < 9223372036854775808) (hi : i ≤ 64) : partIn 0 l (s : Int) (p : Int) (i : Int) = (insideV l s i && !p.testBit i) := by
  unfold partIn
  rw [bit_nat p i hp hi]
  cases p.testBit i <;> simp
open Classical in
/-- The answer. -/
noncomputable def doubleV (l : List (List Int)) (s f : Nat) : Nat → Nat → Bool
  | _, 0 => false
  | p, d + 1 => decide (Halves l s f p) || doubleV l s f (p + 1) d
theorem two_pow_le {n : Nat} (h : n ≤ 10) : 2 ^ n ≤ 1024 := by
  have : 2 ^ n ≤ 2 ^ 10 := Nat.pow_le_pow_right (by omega) h
  omega
theorem implDouble_l0 (l : List (List Int)) (hl : NetEdges l) (s f : Nat) (hs : s < 256) (hf : f < 8) (N : Nat) (hN : N ≤ 1024) (hNN : shl .i64 1 (l.length : Int) = (N : Int)) : ∀ (d p : Nat), p + d = N → Ev (fun k => impl_Net_areDouble.l0 k l s f p) (doubleV l s f p d) := by
  classical
  intro d
  induction d with
  | zero =>
    intro p hp
    refine Ev.step (f := fun _ => some _) (fun k => ?_) (Ev.now _)
    simp only [impl_Net_areDouble.l0]
    rw [hNN, if_neg (by omega)]; rfl
  | succ d ih =>
    intro p hp
    have ih1 := ih (p + 1) (by omega)
    have wn : wrap64 ((p : Int) + 1) = ((p + 1 : Nat) : Int) := by unfold wrap64; omega
    have hlen := hl.1
    obtain ⟨c1, e1, L1⟩ := reachI_ev (partIn 1 l s p) l hl f hf
    obtain ⟨c2, e2, L2⟩ := reachI_ev (partIn 0 l s p) l hl f hf
    replace L1 := L1.congr (B := fun i => insideV l s i && p.testBit i) (fun i hi => part_nat1 s p i (by omega) (by omega))
    replace L2 := L2.congr (B := fun i => insideV l s i && !p.testBit i) (fun i hi => part_nat0 s p i (by omega) (by omega))
    have hd : doubleV l s f p (d + 1) = (decide (Halves l s f p) || doubleV l s f (p + 1) d) := rfl
    rw [hd]
    refine Ev.step (f := fun k => (impl_Net_reached.l0 k (partIn 1 l s p) l 0 (shl .i64 1 (f : Int))).bind fun one => if one = (s : Int) then ((impl_Net_reached.l0 k (partIn 0 l s p) l 0 (shl .i64 1 (f : Int))).bind fun two => if two = (s : Int) then some true else impl_Net_areDouble.l0 k l s f ((p + 1 : Nat) : Int)) else impl_Net_areDouble.l0 k l s f ((p + 1 : Nat) : Int)) (fun k => ?_) ?_
    · simp only [impl_Net_areDouble.l0]
      rw [hNN, if_pos (by omega), wn]
    · refine Ev.bind e1 ?_
      by_cases h1 : c1 = s
      · subst h1
        refine Ev.congr (fun k => by rw [if_pos rfl]) (Ev.bind e2 ?_)
        by_cases h2 : c2 = c1
        · subst h2
          rw [decide_eq_true (show Halves l c2 f p from ⟨L1, L2⟩)]
          exact Ev.congr (f := fun _ => some _) (fun k => by rw [if_pos rfl]; simp) (Ev.now _)
        · rw [decide_eq_false (fun h : Halves l c1 f p => h2 (L2.eq h.2))]
          exact Ev.congr (fun k => by rw [if_neg (by omega)]) (by simpa using ih1)
      · rw [decide_eq_false (fun h : Halves l s f p => h1 (L1.eq h.1))]
        exact Ev.congr (fun k => by rw [if_neg (by omega)]) (by simpa using ih1)
theorem doubleV_iff (l : List (List Int)) (s f : Nat) : ∀ (d p : Nat), doubleV l s f p d = true ↔ ∃ q, p ≤ q ∧ q < p + d ∧ Halves l s f q
  | 0, p => by simp [doubleV]; intro q h1 h2; omega
  | d + 1, p => by
    classical
    have ih := doubleV_iff l s f d (p + 1)
    have hd : doubleV l s f p (d + 1) = (@decide (Halves l s f p) (Classical.propDecidable _) || doubleV l s f (p + 1) d) := rfl
    rw [hd, Bool.or_eq_true, ih]
    constructor
    · rintro (h | ⟨q, h1, h2, h3⟩)
      · exact ⟨p, Nat.le_refl _, by omega, by simpa using h⟩
      · exact ⟨q, by omega, by omega, h3⟩
    · rintro ⟨q, h1, h2, h3⟩
      by_cases e : q = p
      · subst e; exact .inl (by simp [h3])
      · exact .inr ⟨q, by omega, by omega, h3⟩
-- The reference's l10Double.
theorem specDouble_l2 (p0 : Int) (l : List (List Int)) (hl : NetEdges l) (s f ins : Nat) (hs : s < 256) (hf : f < 8) (hi : ins < 1024) (N : Nat) (hN : N ≤ 1024) (hNN : shl .i64 1 (l.length : Int) = (N : Int)) : ∀ (d p : Nat), p + d = N →
    ∃ b, Ev (fun k => spec_l10Double.l2 k s f ins p p0 l) b ∧ (b = true ↔ ∃ q, p ≤ q ∧ q < p + d ∧ butNat q ins = 0 ∧ LeastSet (fun i => q.testBit i) l f s ∧ LeastSet (fun i => (butNat ins q).testBit i) l f s) := by
  intro d
  induction d with
  | zero =>
    intro p hp
    refine ⟨false, Ev.step (f := fun _ => some _) (fun k => ?_) (Ev.now _), by simp; omega⟩
    simp only [spec_l10Double.l2]
    have hlen := hl.1
    rw [u64_nat l.length (by omega), if_pos (by omega), hNN, if_neg (by omega)]
  | succ d ih =>
    intro p hp
    obtain ⟨b, hb, hbb⟩ := ih (p + 1) (by omega)
    have wn : wrap64 ((p : Int) + 1) = ((p + 1 : Nat) : Int) := by unfold wrap64; omega
    have hlen := hl.1
    have o1 := bits_but_nat p ins (by omega) (by omega)
    have o2 := bits_but_nat ins p (by omega) (by omega)
    have hle := butNat_lt ins p (by omega) (by omega)
    obtain ⟨c1, e1, L1⟩ := reachS_ev p0 l hl p f (by omega) hf
    obtain ⟨c2, e2, L2⟩ := reachS_ev p0 l hl (butNat ins p) f (by omega) hf
    have go : ∀ {v : Bool} {F : Nat → Option Bool}, Ev (fun k => if ((butNat p ins : Nat) : Int) = 0 then ((spec_l10Reached.f k p0 l p f).bind fun t230 => (if t230 = (s : Int) then ((spec_l10Reached.f k p0 l ((butNat ins p : Nat) : Int) f).bind fun t231 => (if t231 = (s : Int) then (some true) else (spec_l10Double.l2 k s f ins ((p + 1 : Nat) : Int) p0 l))) else (spec_l10Double.l2 k s f ins ((p + 1 : Nat) : Int) p0 l))) else (spec_l10Double.l2 k s f ins ((p + 1 : Nat) : Int) p0 l)) v → Ev (fun k => spec_l10Double.l2 k s f ins p p0 l) v := fun {v F} h => Ev.step (fun k => by
      simp only [spec_l10Double.l2]
      rw [u64_nat l.length (by omega), if_pos (by omega), hNN, if_pos (by omega), o1, o2, wn]) h
    have later : ∀ P : Prop, (b = true ↔ ∃ q, p + 1 ≤ q ∧ q < p + 1 + d ∧ butNat q ins = 0 ∧ LeastSet (fun i => q.testBit i) l f s ∧ LeastSet (fun i => (butNat ins q).testBit i) l f s) → ¬ (butNat p ins = 0 ∧ LeastSet (fun i => p.testBit i) l f s ∧ LeastSet (fun i => (butNat ins p).testBit i) l f s) → (b = true ↔ ∃ q, p ≤ q ∧ q < p + (d + 1) ∧ butNat q ins = 0 ∧ LeastSet (fun i => q.testBit i) l f s ∧ LeastSet (fun i => (butNat ins q).testBit i) l f s) := by
      intro _ h hn
      rw [h]
      constructor
      · rintro ⟨q, h1, h2, h3⟩; exact ⟨q, by omega, by omega, h3⟩
      · rintro ⟨q, h1, h2, h3⟩
        by_cases e : q = p
        · subst e; exact absurd h3 hn
        · exact ⟨q, by omega, by omega, h3⟩
    by_cases h0 : butNat p ins = 0
    · by_cases h1 : c1 = s
      · by_cases h2 : c2 = s
        · subst h1
          refine ⟨true, go (F := fun _ => none) (Ev.congr (fun k => by rw [if_pos (by omega)]) (Ev.bind e1 (Ev.congr (fun k => by rw [if_pos rfl]) (Ev.bind e2 (Ev.congr (f := fun _ => some true) (fun k => by rw [if_pos (by omega)]) (Ev.now _)))))), ?_⟩
          simp only [true_iff]
          exact ⟨p, Nat.le_refl _, by omega, h0, L1, by rw [h2] at L2; exact L2⟩
        · exact ⟨b, go (F := fun _ => none) (Ev.congr (fun k => by rw [if_pos (by omega)]) (Ev.bind e1 (Ev.congr (fun k => by rw [if_pos (by omega)]) (Ev.bind e2 (Ev.congr (fun k => by rw [if_neg (by omega)]) hb))))), later True hbb (fun h => h2 (L2.eq h.2.2))⟩
      · exact ⟨b, go (F := fun _ => none) (Ev.congr (fun k => by rw [if_pos (by omega)]) (Ev.bind e1 (Ev.congr (fun k => by rw [if_neg (by omega)]) hb))), later True hbb (fun h => h1 (L1.eq h.2.1))⟩
    · exact ⟨b, go (F := fun _ => none) (Ev.congr (fun k => by rw [if_neg (by omega)]) hb), later True hbb (fun h => h0 h.1)⟩
-- The reference's l10Double, from its start; and the two are one.
theorem specDouble_l1 (p0 : Int) (l : List (List Int)) (hl : NetEdges l) (s f : Nat) (hs : s < 256) (b : Bool) (ins : Nat) (hins : ins < 1024) (hbit : ∀ j, ins.testBit j = (decide (j < l.length) && insideV l s j)) (h2 : Ev (fun k => spec_l10Double.l2 k s f ins 0 p0 l) b) : ∀ (d i : Nat), i + d = l.length → ∀ m : Nat, m < 1024 → (∀ j, m.testBit j = (decide (j < i) && insideV l s j)) →
    Ev (fun k => spec_l10Double.l1 k s f m i p0 l) b := by
  intro d
  induction d with
  | zero =>
    intro i hi m hm hb
    have e : m = ins := by
      apply Nat.eq_of_testBit_eq
      intro x
      rw [hb, hbit, show i = l.length by omega]
    subst e
    refine Ev.step (fun k => ?_) h2
    simp only [spec_l10Double.l1]
    rw [if_neg (by omega)]
  | succ d ih =>
    intro i hi m hm hb
    have hlt : i < l.length := by omega
    have hlen := hl.1
    obtain ⟨he, ha, hbb⟩ := edge_at hl hlt
    have hin := inside_nat hl s i hs hlt
    have wn : wrap64 ((i : Int) + 1) = ((i + 1 : Nat) : Int) := by unfold wrap64; omega
    have r0 : rd [(ea l i : Int), (eb l i : Int)] 0 = (ea l i : Int) := rfl
    have r1 : rd [(ea l i : Int), (eb l i : Int)] 1 = (eb l i : Int) := rfl
    have b1 := bit_nat s (ea l i) (by omega) (by omega)
    have b2 := bit_nat s (eb l i) (by omega) (by omega)
    have s1 := shl_nat i (by omega)
    have hpi : 2 ^ i < 1024 := by
      have : 2 ^ i < 2 ^ 10 := Nat.pow_lt_pow_right (by omega) (by omega)
      omega
    have hor : m ||| 2 ^ i < 1024 := by
      have := Nat.or_lt_two_pow (n := 10) (x := m) (y := 2 ^ i) (by omega) (by omega)
      omega
    have o1 := bits_or_nat m (2 ^ i) (by omega) (by omega)
    have u0 := u64_nat (ea l i) (by omega)
    have u1 := u64_nat (eb l i) (by omega)
    have u2 := u64_nat i (by omega)
    have l0 : (0 : Int) < (([(ea l i : Int), (eb l i : Int)] : List Int).length : Int) := by simp
    have l1 : (1 : Int) < (([(ea l i : Int), (eb l i : Int)] : List Int).length : Int) := by simp
    have n0 : (0 : Int) ≤ (ea l i : Int) := by omega
    have n1 : (0 : Int) ≤ (eb l i : Int) := by omega
    have n2 : (0 : Int) ≤ (i : Int) := by omega
    have n3 : (i : Int) < (l.length : Int) := by omega
    have stay : insideV l s i = false → ∀ j, m.testBit j = (decide (j < i + 1) && insideV l s j) := fun h j => by
      rw [hb j]
      by_cases e : j = i
      · subst e; rw [h]; simp
      · rw [show decide (j < i + 1) = decide (j < i) by rw [decide_eq_decide]; omega]
    have st0 : ∀ k, spec_l10Double.l1 (k + 1) s f m i p0 l = if (if s.testBit (ea l i) = true then (1 : Int) else 0) = 1 then (if (if s.testBit (eb l i) = true then (1 : Int) else 0) = 1 then spec_l10Double.l1 k s f ((m ||| 2 ^ i : Nat) : Int) ((i + 1 : Nat) : Int) p0 l else spec_l10Double.l1 k s f m ((i + 1 : Nat) : Int) p0 l) else spec_l10Double.l1 k s f m ((i + 1 : Nat) : Int) p0 l := fun k => by
      generalize (2 ^ i : Nat) = pi at *
      simp only [spec_l10Double.l1]
      rw [if_pos n3, if_pos n2, he, if_pos l0, r0, u0, if_pos n0, b1, if_pos l1, r1, u1, if_pos n1, b2, u2, if_pos n2, s1, o1, wn]
    by_cases hA : s.testBit (ea l i) = true
    · by_cases hB : s.testBit (eb l i) = true
      · rw [hA, hB] at hin
        refine Ev.step (fun k => by rw [st0 k, if_pos (by rw [if_pos hA]), if_pos (by rw [if_pos hB])]) (ih (i + 1) (by omega) (m ||| 2 ^ i) hor (fun j => ?_))
        rw [Nat.testBit_or, hb j, Nat.testBit_two_pow]
        by_cases e : j = i
        · subst e; rw [hin]; simp
        · rw [show decide (j < i + 1) = decide (j < i) by rw [decide_eq_decide]; omega, show decide (i = j) = false by simp; omega, Bool.or_false]
      · refine Ev.step (fun k => by rw [st0 k, if_pos (by rw [if_pos hA]), if_neg (by rw [if_neg hB]; omega)]) (ih (i + 1) (by omega) m hm (stay (by rw [hin]; simp [hB])))
    · refine Ev.step (fun k => by rw [st0 k, if_neg (by rw [if_neg hA]; omega)]) (ih (i + 1) (by omega) m hm (stay (by rw [hin]; simp [hA])))
theorem specDouble_l0 (p0 : Int) (l : List (List Int)) (s f : Nat) (hs : s < 256) (hf : f < 8) (h1 : s.testBit f = true) (h0 : ∀ j, j < f → s.testBit j = false) (b : Bool) (h2 : Ev (fun k => spec_l10Double.l1 k s f 0 0 p0 l) b) : ∀ (d i : Nat), i + d = f → Ev (fun k => spec_l10Double.l0 k s i 0 p0 l) b := by
  intro d
  induction d with
  | zero =>
    intro i hi
    have e : i = f := by omega
    subst e
    have b1 := bit_nat s i (by omega) (by omega)
    rw [if_pos h1] at b1
    refine Ev.step (fun k => ?_) h2
    simp only [spec_l10Double.l0]
    rw [u64_nat i (by omega), if_pos (by omega), b1, if_neg (by omega)]
  | succ d ih =>
    intro i hi
    have b1 := bit_nat s i (by omega) (by omega)
    rw [if_neg (by rw [h0 i (by omega)]; simp)] at b1
    have wn : wrap64 ((i : Int) + 1) = ((i + 1 : Nat) : Int) := by unfold wrap64; omega
    refine Ev.step (fun k => ?_) (ih (i + 1) (by omega))
    simp only [spec_l10Double.l0]
    rw [u64_nat i (by omega), if_pos (by omega), b1, if_pos rfl, wn]
/-- The set of the inner edges, by bits. -/
def insBits (l : List (List Int)) (s : Nat) : Nat → Nat
  | 0 => 0
  | i + 1 => if insideV l s i = true then insBits l s i ||| 2 ^ i else insBits l s i
theorem insBits_bit (l : List (List Int)) (s : Nat) : ∀ i j, (insBits l s i).testBit j = (decide (j < i) && insideV l s j)
  | 0, j => by simp [insBits]
  | i + 1, j => by
    have ih := insBits_bit l s i j
    unfold insBits
    by_cases h : insideV l s i = true
    · rw [if_pos h, Nat.testBit_or, Nat.testBit_two_pow, ih]
      by_cases e : j = i
      · subst e; simp [h]
      · rw [show decide (j < i + 1) = decide (j < i) by rw [decide_eq_decide]; omega, show decide (i = j) = false by simp; omega, Bool.or_false]
    · rw [if_neg h, ih]
      by_cases e : j = i
      · subst e; simp [h]
      · rw [show decide (j < i + 1) = decide (j < i) by rw [decide_eq_decide]; omega]
theorem insBits_lt (l : List (List Int)) (s : Nat) : ∀ i, i ≤ 10 → insBits l s i < 1024
  | 0, _ => by simp [insBits]
  | i + 1, h => by
    have ih := insBits_lt l s i (by omega)
    unfold insBits
    by_cases h1 : insideV l s i = true
    · rw [if_pos h1]
      have hpi : 2 ^ i < 2 ^ 10 := Nat.pow_lt_pow_right (by omega) (by omega)
      have := Nat.or_lt_two_pow (n := 10) (x := insBits l s i) (y := 2 ^ i) (by omega) (by omega)
      omega
    · rw [if_neg h1]; exact ih
-- The two answers are one.
theorem halves_same {l : List (List Int)} (hl : NetEdges l) (s f : Nat) (N : Nat) (hN : N = 2 ^ l.length) :
    (∃ q, 0 ≤ q ∧ q < 0 + N ∧ Halves l s f q) ↔ (∃ q, 0 ≤ q ∧ q < 0 + N ∧ butNat q (insBits l s l.length) = 0 ∧ LeastSet (fun i => q.testBit i) l f s ∧ LeastSet (fun i => (butNat (insBits l s l.length) q).testBit i) l f s) := by
  have hlen := hl.1
  have hN2 : N ≤ 1024 := by rw [hN]; exact two_pow_le hlen
  have hi := insBits_lt l s l.length hlen
  have hb := insBits_bit l s l.length
  generalize insBits l s l.length = ins at *
  constructor
  · rintro ⟨q, _, hq, h1, h2⟩
    have hlt : q &&& ins < N := Nat.lt_of_le_of_lt Nat.and_le_left (by omega)
    refine ⟨q &&& ins, Nat.zero_le _, by omega, ?_, ?_, ?_⟩
    · apply Nat.eq_of_testBit_eq
      intro x
      rw [butNat_bit _ _ _ (by omega) (by omega), Nat.testBit_and, Nat.zero_testBit]
      cases q.testBit x <;> cases ins.testBit x <;> rfl
    · refine h1.congr (fun i hi => ?_)
      rw [Nat.testBit_and, hb i, decide_eq_true hi, Bool.true_and, Bool.and_comm]
    · refine h2.congr (fun i hi => ?_)
      rw [butNat_bit _ _ _ (by omega) (by omega), Nat.testBit_and, hb i, decide_eq_true hi, Bool.true_and]
      cases insideV l s i <;> cases q.testBit i <;> rfl
  · rintro ⟨q, _, hq, h0, h1, h2⟩
    have hz : ∀ x, (q.testBit x && !ins.testBit x) = false := fun x => by
      rw [← butNat_bit q ins x (by omega) (by omega), h0, Nat.zero_testBit]
    refine ⟨q, Nat.zero_le _, hq, ?_, ?_⟩
    · refine h1.congr (fun i hi => ?_)
      have := hz i
      rw [hb i, decide_eq_true hi, Bool.true_and] at this
      cases h3 : q.testBit i <;> cases h4 : insideV l s i <;> simp_all
    · refine h2.congr (fun i hi => ?_)
      rw [butNat_bit _ _ _ (by omega) (by omega), hb i, decide_eq_true hi, Bool.true_and]
/-- For every set of points that holds one, both say the same. -/
theorem double_ev (p0 : Int) (l : List (List Int)) (hl : NetEdges l) (s : Nat) (hs : s < 256) (h0 : s ≠ 0) : ∃ b, Ev (fun k => spec_l10Double.f k p0 l s) b ∧ Ev (fun k => impl_Net_areDouble.f k p0 l s) b := by
  have hlen := hl.1
  -- the least point
  have hex : ∃ f, f < 8 ∧ s.testBit f = true ∧ ∀ j, j < f → s.testBit j = false := by
    have : ∃ i, s.testBit i = true := Nat.exists_testBit_of_ne_zero h0
    obtain ⟨i, hi⟩ := this
    have key : ∀ n, (∃ j, j < n ∧ s.testBit j = true) → ∃ f, s.testBit f = true ∧ ∀ j, j < f → s.testBit j = false := by
      intro n
      induction n with
      | zero => rintro ⟨j, hj, _⟩; omega
      | succ n ih =>
        rintro ⟨j, hj, hj2⟩
        by_cases h : ∃ j, j < n ∧ s.testBit j = true
        · exact ih h
        · refine ⟨n, ?_, fun x hx => ?_⟩
          · by_cases e : j = n
            · subst e; exact hj2
            · exact absurd ⟨j, by omega, hj2⟩ h
          · cases hx2 : s.testBit x
            · rfl
            · exact absurd ⟨x, hx, hx2⟩ h
    obtain ⟨f, h1, h2⟩ := key (i + 1) ⟨i, by omega, hi⟩
    refine ⟨f, ?_, h1, h2⟩
    by_cases hf : f < 8
    · exact hf
    · have : s.testBit f = false := Nat.testBit_lt_two_pow (Nat.lt_of_lt_of_le hs (by have : 2 ^ 8 ≤ 2 ^ f := Nat.pow_le_pow_right (by omega) (by omega); omega))
      rw [this] at h1; simp at h1
  obtain ⟨f, hf, h1, h2⟩ := hex
  have hNN := shl_nat l.length (by omega)
  have hN := two_pow_le hlen
  obtain ⟨b, hb, hbb⟩ := specDouble_l2 p0 l hl s f (insBits l s l.length) hs hf (insBits_lt l s _ hlen) (2 ^ l.length) hN hNN (2 ^ l.length) 0 (by omega)
  have hd := doubleV_iff l s f (2 ^ l.length) 0
  have he : b = doubleV l s f 0 (2 ^ l.length) := by
    rw [Bool.eq_iff_iff, hbb, hd, halves_same hl s f _ rfl]
  refine ⟨b, ?_, ?_⟩
  · exact specDouble_l0 p0 l s f hs hf h1 h2 b (specDouble_l1 p0 l hl s f hs b _ (insBits_lt l s _ hlen) (insBits_bit l s _) hb l.length 0 (by omega) 0 (by omega) (fun j => by simp)) f 0 (by omega)
  · rw [he]
    have := implDouble_l0 l hl s f hs hf (2 ^ l.length) hN hNN (2 ^ l.length) 0 (by omega)
    have hok : l.all edgeOk = true := by
      rw [List.all_eq_true]
      intro e hem
      obtain ⟨a, b', rfl, _, _⟩ := hl.2 e hem
      have r0 : rd [(a : Int), (b' : Int)] 0 = (a : Int) := rfl
      have r1 : rd [(a : Int), (b' : Int)] 1 = (b' : Int) := rfl
      simp [edgeOk, r0, r1]
    have hc : ∀ k, k ≤ 16 → f < k → ∃ r, chosenTo (nodeIn s) k = (f : Int) :: r := by
      intro k
      induction k with
      | zero => intro _ h; omega
      | succ k ih =>
        intro hk hfk
        have hsx : chosenTo (nodeIn s) (k + 1) = if nodeIn s k then chosenTo (nodeIn s) k ++ [(k : Int)] else chosenTo (nodeIn s) k := rfl
        rw [hsx, nodeIn_nat s k (by omega) (by omega)]
        by_cases e : k = f
        · subst e
          have he0 : ∀ m, m ≤ k → chosenTo (nodeIn s) m = [] := by
            intro m
            induction m with
            | zero => intro _; rfl
            | succ m ihm =>
              intro hm
              have hsm : chosenTo (nodeIn s) (m + 1) = if nodeIn s m then chosenTo (nodeIn s) m ++ [(m : Int)] else chosenTo (nodeIn s) m := rfl
              rw [hsm, nodeIn_nat s m (by omega) (by omega), h2 m (by omega)]
              simpa using ihm (by omega)
          rw [if_pos h1, he0 k (Nat.le_refl _)]
          exact ⟨[], rfl⟩
        · obtain ⟨r, hr⟩ := ih (by omega) (by omega)
          by_cases hx : s.testBit k = true
          · rw [if_pos hx, hr]; exact ⟨r ++ [(k : Int)], rfl⟩
          · rw [if_neg hx]; exact ⟨r, hr⟩
    obtain ⟨r, hr⟩ := hc 16 (Nat.le_refl _) (by omega)
    refine Ev.congr (fun k => ?_) this
    unfold impl_Net_areDouble.f
    rw [if_pos hok, hr]; rfl
/-- The reference's 'in' is the program's 'within'. -/
theorem in_inW (n a b : Int) : spec_l01In.f n a b = some (inW n a b) := by
  unfold spec_l01In.f inW
  by_cases h : a ≤ n <;> simp [h]
/-! ### spec_IsNet: function 17 -/
def spec_IsNet.f (k : Nat) (a0_0 : Int) (l0_1 : List (List Int)) : Option (Bool) := (spec_l10Is.f k a0_0 l0_1).bind fun t169 => (some t169)
theorem spec_IsNet.mono : ∀ a0 a1 k, LeO (spec_IsNet.f k a0 a1) (spec_IsNet.f (k + 1) a0 a1) := by
 intro a0 a1 k
 unfold spec_IsNet.f
 repeat' first
   | (with_reducible exact spec_l10Is.mono _ _ _)
   | (with_reducible exact LeO.refl _)
   | (with_reducible exact LeO.none _)
   | (with_reducible refine LeO.ite ?_ ?_)
   | (with_reducible refine LeO.bind ?_ (fun _ => ?_))
   | exact spec_l10Is.mono _ _ _
   | exact LeO.none _
   | refine LeO.ite ?_ ?_
   | refine LeO.bind ?_ (fun _ => ?_)
set_option maxHeartbeats 8000000 in
set_option maxRecDepth 100000 in
theorem spec_IsNet.calls (k : Nat) (a0_0 : Int) (A0_1 : Option Addr) (c0_1 : Nat) (l0_1 : List (List Int)) (r : Bool) (w : World) (hr0_1 : Kd.C (Kd.slice 2 (Kd.int .i64)) w A0_1 l0_1.length l0_1) (hc0_1 : l0_1.length ≤ c0_1) (h : spec_IsNet.f k a0_0 l0_1 = some r) :
  Calls Try.prog 17 #[.agg #[.int .i64 a0_0, .slice A0_1 l0_1.length c0_1]] w fun e w' => e = .returned (.bool r) ∧ Below w.heap.size w w' := by
 have hu33 := Try.underlying33
 have HR0_1 := Aside0.mk hr0_1
 have HC0_1 := Aside0.mk hc0_1
 clear hr0_1 hc0_1
 have HB := Aside0.mk (Below.refl w.heap.size w)
 have H : ((spec_l10Is.f k a0_0 l0_1).bind fun t169 => (some t169)) = some r := h
 clear h
 replace H := Option.bind_eq_some_iff.mp H
 obtain ⟨t169, A20, H⟩ := H
 replace H : (some t169) = some r := H
 have A2 := Aside0.mk A20
 clear A20
 obtain rfl := Option.some.inj H
 go_enter Try.func17, Try.ntmps17
 go_wp2_with (first | ((with_reducible refine gate_dst (N := 1) rfl ?_); refine box_event ?hg (N := 1) ?hd (cs := #[.int .i64 a0_0, .slice A0_1 l0_1.length c0_1]) (t := 33) ?hr ?_; (case hd => rfl); (case hg => rfl); (case hr => first | (go_simp; done) | (go_simp; rfl)); intro gb168 hg w3 hbox hb; have n0_ := Aside0.mk (below_step (by repeat (first | (with_reducible first | exact HB.out | apply below_alloc | apply pw_below_drewN | apply below_drew1) | exact HB.out)) hb); have n1_ := Aside0.mk (hbox); have n2_ := Aside0.mk ((by rw [hg]; exact (below_size (by repeat (first | (with_reducible first | exact HB.out | apply below_alloc | apply pw_below_drewN | apply below_drew1) | exact HB.out))) : w.heap.size ≤ gb168)); have n3_ := Aside0.mk ((by rw [hg]; exact (below_size (by repeat (first | (with_reducible first | exact HB.out | apply below_alloc | apply pw_below_drewN | apply below_drew1) | exact HB.out))) : w.heap.size ≤ gb168)); clear HB; have HB := n0_; have BK168 := n1_; have GW168 := n2_; have GE168 := n3_; clear n0_ n1_ n2_ n3_; clear hb hbox hg; have hcz4_0 : w3.cell? ⟨gb168, 0, none⟩ = some (.int .i64 a0_0) := (blk_cell BK168.out 0).trans rfl; have hcz4_1 : w3.cell? ⟨gb168, 1, none⟩ = some (.slice A0_1 l0_1.length c0_1) := (blk_cell BK168.out 1).trans rfl; have hfz4_0 := blk_frozen BK168.out 0; have hfz4_1 := blk_frozen BK168.out 1) | ((with_reducible refine gate_callee (f := 41) rfl ?_); refine goesL_ (some 4) rfl rfl Try.func41 (by kernel_rfl) rfl #[.agg #[.int .i64 a0_0, .slice A0_1 l0_1.length c0_1]] rfl (by (try simp only [List.map_toArray, List.map_cons, List.map_nil]); first | done | rfl | (simp only [List.length_drop, List.length_take]; rfl)) ?_; (with_reducible refine (spec_l10Is.calls k a0_0 _ _ l0_1 t169 _ ?side1 ?side2 A2.out).mono ?_); (case side1 => repeat (first | exact (Kd.C_below HR0_1.out HB.out) | (with_reducible refine Kd.C_alloc ?_ _) | (with_reducible refine Kd.C_drewN ?_ _) | (with_reducible refine Kd.C_drew ?_))); (case side2 => exact HC0_1.out); rintro e w5 ⟨rfl, hb⟩; refine ⟨_, rfl, ?_⟩; have n0_ := Aside0.mk (blk_below (g := gb168) (o := .cells #[.int .i64 a0_0, .slice A0_1 l0_1.length c0_1] 33 (0, 0)) (by (with_reducible repeat (first | refine blk_drewN ?_ _ | refine blk_drew ?_ | refine blk_alloc ?_ _)); exact BK168.out) hb); have n1_ := Aside0.mk (below_step (by repeat (first | (with_reducible first | exact HB.out | apply below_alloc | apply pw_below_drewN | apply below_drew1 | refine below_set ?_ GE168.out) | exact HB.out)) hb); clear BK168; clear HB; have BK168 := n0_; have HB := n1_; clear n0_ n1_; (try clear hb); (try clear hb2); (try clear hk); (try clear hi)))
 go_ret
 exact ⟨by first | rfl | (simp [errW_none, errW_some] <;> rfl) | (simp [*, errW_none, errW_some] <;> rfl), by repeat (first | (with_reducible first | exact HB.out | apply below_alloc | apply pw_below_drewN | apply below_drew1 | refine below_set ?_ GE168.out) | exact HB.out)⟩
/-- The verifier's count of a list. -/
theorem szInt64S_val (l : List Int) (a : Int) (hl : l.length ≤ maxLen) (h0 : 0 ≤ a) (h1 : a ≤ 1048576) : laws_szInt64S.f l a = some (if a < l.length then -1 else a - l.length) := by
  unfold maxLen at hl
  have e : wrap64 (a - (l.length : Int)) = a - l.length := by unfold wrap64; omega
  unfold laws_szInt64S.f
  rw [e]
  by_cases h : a < l.length
  · rw [if_pos h, if_pos (by omega)]
  · rw [if_neg h, if_neg (by omega)]
/-- The verifier's helpers on lists of lists: sizes, copies, equality. -/
theorem rdL_get (l : List (List Int)) (i : Nat) (h : i < l.length) : rd_L1 l (i : Int) = l[i] := by
  show l.getD ((i : Int)).toNat [] = l[i]
  rw [Int.toNat_natCast, List.getD_eq_getElem?_getD, List.getElem?_eq_getElem h]; rfl
def sumLen : List (List Int) → Int
  | [] => 0
  | x :: r => x.length + sumLen r
theorem sumLen_nonneg : ∀ l : List (List Int), 0 ≤ sumLen l
  | [] => by simp [sumLen]
  | x :: r => by have := sumLen_nonneg r; unfold sumLen; omega
theorem sumLen_mem : ∀ (l : List (List Int)) (x : List Int), x ∈ l → (x.length : Int) ≤ sumLen l
  | [], x, h => by simp at h
  | y :: r, x, h => by
    have h0 := sumLen_nonneg r
    unfold sumLen
    rcases List.mem_cons.1 h with rfl | h
    · omega
    · have := sumLen_mem r x h; omega
theorem szInt64SS_l0 (l : List (List Int)) (hl : l.length ≤ maxLen) (hx : ∀ x ∈ l, x.length ≤ maxLen) : ∀ (d i : Nat) (a : Int), i + d = l.length → 0 ≤ a → a ≤ 1048576 → Ev (fun k => laws_szInt64SS.l0 k l a i) (if a < sumLen (l.drop i) then -1 else a - sumLen (l.drop i)) := by
  intro d
  induction d with
  | zero =>
    intro i a hi h0 h1
    refine Ev.step (f := fun _ => some _) (fun k => ?_) (Ev.now _)
    simp only [laws_szInt64SS.l0]
    rw [if_neg (by omega), List.drop_of_length_le (by omega), sumLen, if_neg (by omega)]
    congr 1; omega
  | succ d ih =>
    intro i a hi h0 h1
    have hlt : i < l.length := by omega
    have hn := sumLen_nonneg (l.drop (i + 1))
    rw [List.drop_eq_getElem_cons hlt, sumLen]
    have hxl := hx _ (List.getElem_mem hlt)
    by_cases h : a < l[i].length
    · refine Ev.step (f := fun _ => some _) (fun k => ?_) (Ev.now _)
      simp only [laws_szInt64SS.l0]
      rw [if_pos (by omega), if_pos (by omega), rdL_get l i hlt, szInt64S_val _ a hxl h0 h1, if_pos h, Option.bind_some, if_pos (by omega), if_pos (by omega)]
    · have := ih (i + 1) (a - l[i].length) (by omega) (by omega) (by omega)
      have e : (if a - (l[i].length : Int) < sumLen (l.drop (i + 1)) then (-1 : Int) else a - (l[i].length : Int) - sumLen (l.drop (i + 1))) = if a < (l[i].length : Int) + sumLen (l.drop (i + 1)) then -1 else a - ((l[i].length : Int) + sumLen (l.drop (i + 1))) := by
        by_cases h2 : a < (l[i].length : Int) + sumLen (l.drop (i + 1))
        · rw [if_pos h2, if_pos (by omega)]
        · rw [if_neg h2, if_neg (by omega)]; omega
      rw [e] at this
      refine Ev.step (fun k => ?_) this
      simp only [laws_szInt64SS.l0]
      rw [if_pos (by omega), if_pos (by omega), rdL_get l i hlt, szInt64S_val _ a hxl h0 h1, if_neg h, Option.bind_some, if_neg (by omega), wrap_next hlt (by unfold maxLen at hl; omega)]
/-- The size that is left: -1, or the lists are short. -/
theorem szInt64SS_ev (l : List (List Int)) (hl : l.length ≤ maxLen) (hx : ∀ x ∈ l, x.length ≤ maxLen) (a : Int) (h0 : 0 ≤ a) (h1 : a ≤ 1048576) :
    ∃ v, Ev (fun k => laws_szInt64SS.f k l a) v ∧ (v = -1 ∨ 0 ≤ v ∧ v ≤ a ∧ (l.length : Int) ≤ a ∧ (∀ x ∈ l, (x.length : Int) ≤ a) ∧ v = a - l.length - sumLen l) := by
  have e : wrap64 (a - (l.length : Int)) = a - l.length := by unfold maxLen at hl; unfold wrap64; omega
  by_cases h : a < l.length
  · exact ⟨-1, Ev.congr (fun k => by unfold laws_szInt64SS.f; rw [e, if_pos (by omega)]) (Ev.now _), .inl rfl⟩
  · have := szInt64SS_l0 l hl hx l.length 0 (a - l.length) (by omega) (by omega) (by omega)
    rw [List.drop_zero] at this
    refine ⟨_, Ev.congr (fun k => ?_) this, ?_⟩
    · unfold laws_szInt64SS.f; rw [e, if_neg (by omega)]; rfl
    · have hn := sumLen_nonneg l
      by_cases h2 : a - (l.length : Int) < sumLen l
      · left; rw [if_pos h2]
      · right
        rw [if_neg h2]
        refine ⟨by omega, by omega, by omega, fun x hm => ?_, rfl⟩
        have := sumLen_mem l x hm
        omega
theorem toInt64SS_l0 (l : List (List Int)) (hl : l.length ≤ 1048576) (hx : ∀ x ∈ l, x.length ≤ 1048576) : ∀ (d i : Nat) (y : List (List Int)), i + d = l.length → y.length = l.length → y.take i = l.take i → Ev (fun k => laws_toInt64SS.l0 k l y i) l := by
  intro d
  induction d with
  | zero =>
    intro i y hi hyl ht
    refine Ev.step (f := fun _ => some l) (fun k => ?_) (Ev.now _)
    simp only [laws_toInt64SS.l0]
    rw [if_neg (by omega)]
    have : i = l.length := by omega
    rw [this, List.take_of_length_le (by omega), List.take_of_length_le (by omega)] at ht
    rw [ht]
  | succ d ih =>
    intro i y hi hyl ht
    have hlt : i < l.length := by omega
    have hb := hx _ (List.getElem_mem hlt)
    refine Ev.step (f := fun k => (laws_toInt64S.f k l[i]).bind fun t => laws_toInt64SS.l0 k l (y.set i t) ((i + 1 : Nat) : Int)) (fun k => ?_) (Ev.bind (toInt64S_ev l[i] (by omega)) (ih (i + 1) _ (by omega) (by simpa using hyl) (take_set_next l y i hlt hyl ht)))
    simp only [laws_toInt64SS.l0]
    rw [if_pos (by omega), if_pos (by omega), rdL_get l i hlt, wrap_next hlt (by omega), Int.toNat_natCast]
    refine congrArg _ (funext fun t => ?_)
    rw [if_pos (by omega)]
theorem toInt64SS_ev (l : List (List Int)) (hl : l.length ≤ 1048576) (hx : ∀ x ∈ l, x.length ≤ 1048576) : Ev (fun k => laws_toInt64SS.f k l) l := by
  refine Ev.congr (f := fun k => laws_toInt64SS.l0 k l (List.replicate l.length []) ((0 : Nat) : Int)) (fun k => ?_) (toInt64SS_l0 l hl hx l.length 0 _ (by omega) (by simp) (by simp))
  unfold laws_toInt64SS.f
  rw [if_pos (by omega), if_pos (by omega), Int.toNat_natCast]; rfl
theorem eqInt64SS_l0 (x y : List (List Int)) (hl : x.length = y.length) (hx : x.length ≤ 9223372036854775807) (hb : ∀ z ∈ x, z.length ≤ 9223372036854775807) : ∀ (d i : Nat), i + d = x.length → x.take i = y.take i → Ev (fun k => laws_eqInt64SS.l0 k x y i) (decide (x = y)) := by
  intro d
  induction d with
  | zero =>
    intro i hi ht
    refine Ev.step (f := fun _ => some (decide (x = y))) (fun k => ?_) (Ev.now _)
    simp only [laws_eqInt64SS.l0]
    rw [if_neg (by omega)]
    have : i = x.length := by omega
    rw [this, List.take_of_length_le (by omega), List.take_of_length_le (by omega)] at ht
    simp [ht]
  | succ d ih =>
    intro i hi ht
    have hlt : i < x.length := by omega
    have hz := eqInt64S_ev x[i] (y[i]'(by omega)) (hb _ (List.getElem_mem hlt))
    by_cases he : x[i] = y[i]'(by omega)
    · rw [decide_eq_true he] at hz
      refine Ev.step (f := fun k => (laws_eqInt64S.f k x[i] (y[i]'(by omega))).bind fun t => if t = true then laws_eqInt64SS.l0 k x y ((i + 1 : Nat) : Int) else some false) (fun k => ?_) (Ev.bind hz (Ev.congr (fun k => by rw [if_pos rfl]) (ih (i + 1) (by omega) ?_)))
      · simp only [laws_eqInt64SS.l0]
        rw [if_pos (by omega), if_pos (by omega), if_pos (by omega), wrap_next hlt (by omega), rdL_get x i hlt, rdL_get y i (by omega)]
      · rw [List.take_succ_eq_append_getElem hlt, List.take_succ_eq_append_getElem (by omega), ht, he]
    · rw [decide_eq_false he] at hz
      have hne : x ≠ y := fun h => he (by subst h; rfl)
      rw [decide_eq_false hne]
      refine Ev.step (f := fun k => (laws_eqInt64S.f k x[i] (y[i]'(by omega))).bind fun t => if t = true then laws_eqInt64SS.l0 k x y ((i + 1 : Nat) : Int) else some false) (fun k => ?_) (Ev.bind hz (Ev.congr (fun k => by rw [if_neg (by simp)]) (Ev.now _)))
      simp only [laws_eqInt64SS.l0]
      rw [if_pos (by omega), if_pos (by omega), if_pos (by omega), wrap_next hlt (by omega), rdL_get x i hlt, rdL_get y i (by omega)]
theorem eqInt64SS_ev (x y : List (List Int)) (hx : x.length ≤ 9223372036854775807) (hb : ∀ z ∈ x, z.length ≤ 9223372036854775807) : Ev (fun k => laws_eqInt64SS.f k x y) (decide (x = y)) := by
  by_cases h : x.length = y.length
  · refine Ev.congr (f := fun k => laws_eqInt64SS.l0 k x y ((0 : Nat) : Int)) (fun k => ?_) (eqInt64SS_l0 x y h hx hb x.length 0 (by omega) (by simp))
    unfold laws_eqInt64SS.f
    rw [if_pos (by omega)]; rfl
  · refine Ev.congr (f := fun _ => some (decide (x = y))) (fun k => ?_) (Ev.now _)
    unfold laws_eqInt64SS.f
    rw [if_neg (by omega)]
    have : x ≠ y := fun e => h (by rw [e])
    simp [this]
theorem eqInt64SS_self (x : List (List Int)) (hx : x.length ≤ 9223372036854775807) (hb : ∀ z ∈ x, z.length ≤ 9223372036854775807) : Ev (fun k => laws_eqInt64SS.f k x x) true := by
  have := eqInt64SS_ev x x hx hb
  simpa using this
/-- The reference's test of nets is the program's. -/
theorem rd_two0 (a b : Int) : rd [a, b] 0 = a := rfl
theorem rd_two1 (a b : Int) : rd [a, b] 1 = b := rfl
theorem len_two {e : List Int} (h : e.length = 2) : ∃ a b, e = [a, b] := by
  match e, h with
  | [a, b], _ => exact ⟨a, b, rfl⟩
theorem rising_two (a b lo ub : Int) : rising [a, b] lo ub = (inW a lo ub && (inW b lo ub && !decide (b ≤ a))) := by
  simp [rising, risingFrom]
theorem cmp_two (a b c d : Int) : cmpL [a, b] [c, d] < 0 ↔ a < c ∨ a = c ∧ b < d := by
  simp only [cmpL]
  by_cases h1 : a < c
  · simp [h1]
  · by_cases h2 : c < a
    · simp [h1, h2]; omega
    · have : a = c := by omega
      subst this
      by_cases h3 : b < d
      · simp [h3]
      · by_cases h4 : d < b <;> simp [h3, h4]
theorem edge_good {p : Int} {e : List Int} (h : edgeBad p e = false) : ∃ a b, e = [a, b] ∧ inW a 0 (wrap64 (p - 1)) = true ∧ inW b 0 (wrap64 (p - 1)) = true ∧ ¬ b ≤ a := by
  unfold edgeBad at h
  simp only [Bool.or_eq_false_iff, Bool.not_eq_false', decide_eq_true_eq] at h
  obtain ⟨a, b, rfl⟩ := len_two h.1
  rw [rising_two] at h
  simp only [Bool.and_eq_true, Bool.not_eq_true', decide_eq_false_iff_not] at h
  exact ⟨a, b, rfl, h.2.1, h.2.2.1, h.2.2.2⟩
theorem l10Is_l0 (p : Int) (l : List (List Int)) (hl : l.length ≤ 9223372036854775807) : ∀ (d i : Nat), i + d = l.length → (∀ e ∈ l.take i, edgeBad p e = false) →
    Ev (fun k => spec_l10Is.l0 k i p l) (!(l.drop i).any (edgeBad p) && sortedBy cmpL (l.drop (i - 1))) := by
  intro d
  induction d with
  | zero =>
    intro i hi hg
    refine Ev.step (f := fun _ => some _) (fun k => ?_) (Ev.now _)
    simp only [spec_l10Is.l0]
    rw [if_neg (by omega), List.drop_of_length_le (by omega)]
    have : sortedBy cmpL (l.drop (i - 1)) = true := by
      by_cases h0 : i = 0
      · have : l = [] := List.eq_nil_of_length_eq_zero (by omega)
        subst this; simp [sortedBy]
      · rw [List.drop_eq_getElem_cons (by omega), List.drop_of_length_le (by omega)]; rfl
    rw [this]; rfl
  | succ d ih =>
    intro i hi hg
    have hlt : i < l.length := by omega
    have e1 : l.drop i = l[i] :: l.drop (i + 1) := List.drop_eq_getElem_cons hlt
    have hany : (l.drop i).any (edgeBad p) = (edgeBad p l[i] || (l.drop (i + 1)).any (edgeBad p)) := by rw [e1]; rfl
    rw [hany]
    by_cases hb : edgeBad p l[i] = true
    · -- not an edge
      rw [hb]
      refine Ev.congr (g := fun k => spec_l10Is.l0 k i p l) (f := fun k => spec_l10Is.l0 k i p l) (fun _ => rfl) ?_
      show Ev _ (!(true || _) && _)
      simp only [Bool.true_or, Bool.not_true, Bool.false_and]
      have hj : Ev (fun k => spec_l10Is.j2 k i l[i] true p l) false := Ev.step (f := fun _ => some false) (fun k => by simp only [spec_l10Is.j2]; rw [if_pos trivial]) (Ev.now _)
      refine Ev.step (f := fun k => spec_l10Is.j2 k i l[i] true p l) (fun k => ?_) hj
      simp only [spec_l10Is.l0]
      rw [if_pos (by omega), if_pos (by omega), rdL_get l i hlt]
      by_cases h2 : l[i].length = 2
      · obtain ⟨a, b, hab⟩ := len_two h2
        rw [hab] at hb ⊢
        rw [if_pos (by simp), if_pos (by simp), rd_two0, in_inW, Option.bind_some]
        by_cases ha : inW a 0 (wrap64 (p - 1)) = true
        · rw [if_pos ha, if_pos (by simp), rd_two1, in_inW, Option.bind_some]
          by_cases hb' : inW b 0 (wrap64 (p - 1)) = true
          · rw [if_pos hb']
            have : decide (a ≥ b) = true := by
              unfold edgeBad at hb
              rw [rising_two, ha, hb'] at hb
              simpa using hb
            rw [this]
          · rw [if_neg hb']
        · rw [if_neg ha]
      · rw [if_neg (by omega)]
    · have hb' : edgeBad p l[i] = false := by simpa using hb
      obtain ⟨a, b, hab, ha, hbb, hlt2⟩ := edge_good hb'
      have hg' : ∀ e ∈ l.take (i + 1), edgeBad p e = false := by
        intro e he
        rw [List.take_succ_eq_append_getElem hlt] at he
        rcases List.mem_append.1 he with h | h
        · exact hg e h
        · rw [List.mem_singleton.1 h]; exact hb'
      have ih1 := ih (i + 1) (by omega) hg'
      rw [Nat.add_sub_cancel] at ih1
      rw [hb', Bool.false_or]
      -- to the second test
      have step : ∀ v, Ev (fun k => spec_l10Is.j2 k i [a, b] false p l) v → Ev (fun k => spec_l10Is.l0 k i p l) v := by
        intro v hv
        refine Ev.step (f := fun k => spec_l10Is.j2 k i [a, b] false p l) (fun k => ?_) hv
        simp only [spec_l10Is.l0]
        rw [if_pos (by omega), if_pos (by omega), rdL_get l i hlt, hab, if_pos (by simp), if_pos (by simp), rd_two0, rd_two1, in_inW, in_inW, ha, hbb, Option.bind_some, if_pos rfl, if_pos (by simp), Option.bind_some, if_pos rfl, decide_eq_false (by omega)]
      refine step _ ?_
      by_cases h0 : i = 0
      · subst h0
        refine Ev.step (fun k => ?_) ih1
        simp only [spec_l10Is.j2]
        rw [if_neg (by simp), if_neg (by omega), wrap_next hlt hl]
      · have hp : i - 1 < l.length := by omega
        have hpm : l[i - 1] ∈ l.take i := by
          rw [List.mem_take_iff_getElem]
          exact ⟨i - 1, by omega, rfl⟩
        obtain ⟨c, d', hcd, _, _, _⟩ := edge_good (hg _ hpm)
        have ew : wrap64 ((i : Int) - 1) = ((i - 1 : Nat) : Int) := by unfold wrap64; omega
        have e2 : l.drop (i - 1) = [c, d'] :: [a, b] :: l.drop (i + 1) := by
          rw [List.drop_eq_getElem_cons hp, hcd, show i - 1 + 1 = i by omega, e1, hab]
        rw [e2]
        rw [e1, hab] at ih1
        have es : sortedBy cmpL ([c, d'] :: [a, b] :: l.drop (i + 1)) = (!decide (cmpL [a, b] [c, d'] < 0) && sortedBy cmpL ([a, b] :: l.drop (i + 1))) := rfl
        rw [es]
        by_cases h1 : c > a
        · have : cmpL [a, b] [c, d'] < 0 := (cmp_two a b c d').2 (.inl h1)
          rw [decide_eq_true this]
          simp only [Bool.not_true, Bool.false_and, Bool.and_false]
          refine Ev.step (f := fun _ => some false) (fun k => ?_) (Ev.now _)
          simp only [spec_l10Is.j2]
          rw [if_neg (by simp), if_pos (by omega), ew, if_pos (by omega), if_pos (by omega), rdL_get l (i - 1) hp, hcd, if_pos (by simp), if_pos (by simp), rd_two0, rd_two0, if_pos h1]
        · by_cases h2 : c = a
          · by_cases h3 : d' > b
            · have : cmpL [a, b] [c, d'] < 0 := (cmp_two a b c d').2 (.inr ⟨h2.symm, h3⟩)
              rw [decide_eq_true this]
              simp only [Bool.not_true, Bool.false_and, Bool.and_false]
              refine Ev.step (f := fun _ => some false) (fun k => ?_) (Ev.now _)
              simp only [spec_l10Is.j2]
              rw [if_neg (by simp), if_pos (by omega), ew, if_pos (by omega), if_pos (by omega), rdL_get l (i - 1) hp, hcd, if_pos (by simp), if_pos (by simp), rd_two0, rd_two0, if_neg h1, if_pos h2, if_pos (by simp), if_pos (by simp), rd_two1, rd_two1, if_pos h3]
            · have : ¬ cmpL [a, b] [c, d'] < 0 := fun h => by
                rcases (cmp_two a b c d').1 h with h | h <;> omega
              rw [decide_eq_false this]
              refine Ev.step (fun k => ?_) ih1
              simp only [spec_l10Is.j2]
              rw [if_neg (by simp), if_pos (by omega), ew, if_pos (by omega), if_pos (by omega), rdL_get l (i - 1) hp, hcd, if_pos (by simp), if_pos (by simp), rd_two0, rd_two0, if_neg h1, if_pos h2, if_pos (by simp), if_pos (by simp), rd_two1, rd_two1, if_neg h3, wrap_next hlt hl]
          · have : ¬ cmpL [a, b] [c, d'] < 0 := fun h => by
              rcases (cmp_two a b c d').1 h with h | h <;> omega
            rw [decide_eq_false this]
            refine Ev.step (fun k => ?_) ih1
            simp only [spec_l10Is.j2]
            rw [if_neg (by simp), if_pos (by omega), ew, if_pos (by omega), if_pos (by omega), rdL_get l (i - 1) hp, hcd, if_pos (by simp), if_pos (by simp), rd_two0, rd_two0, if_neg h1, if_neg h2, wrap_next hlt hl]
theorem l10Is_ev (p : Int) (l : List (List Int)) (hl : l.length ≤ 9223372036854775807) : Ev (fun k => spec_l10Is.f k p l) (isNetV p l) := by
  unfold spec_l10Is.f isNetV
  rw [in_inW]
  have hj : Ev (fun k => spec_l10Is.j0 k true p l) false := Ev.step (f := fun _ => some false) (fun k => by simp only [spec_l10Is.j0]; rw [if_pos trivial]) (Ev.now _)
  by_cases h1 : inW p 2 8 = true
  · rw [h1]
    by_cases h2 : (l.length : Int) > 10
    · rw [decide_eq_true h2]
      exact Ev.congr (fun k => by rw [Option.bind_some, if_pos rfl]) hj
    · rw [decide_eq_false h2]
      have := l10Is_l0 p l hl l.length 0 (by omega) (by simp)
      rw [List.drop_zero] at this
      refine Ev.congr (f := fun k => spec_l10Is.j0 k false p l) (fun k => by rw [Option.bind_some, if_pos rfl]) (Ev.step (fun k => ?_) this)
      simp only [spec_l10Is.j0]
      rw [if_neg (by simp)]; rfl
  · have h1' : inW p 2 8 = false := by simpa using h1
    rw [h1']
    exact Ev.congr (fun k => by rw [Option.bind_some, if_neg (by simp)]) hj
theorem specIsNet_ev (p : Int) (l : List (List Int)) (hl : l.length ≤ 9223372036854775807) : Ev (fun k => spec_IsNet.f k p l) (isNetV p l) := by
  unfold spec_IsNet.f
  exact Ev.bind (l10Is_ev p l hl) (Ev.now _)
/-- The verifier's helpers on nets. -/
theorem szNet_ev (p : Int) (l : List (List Int)) (hl : l.length ≤ maxLen ∧ ∀ x ∈ l, x.length ≤ maxLen ∧ ∀ y ∈ x, (Lit.int .i64 y).wf = true) :
    ∃ v, Ev (fun k => laws_szNet.f k p l 1048576) v ∧ (v = -1 ∨ 0 ≤ v ∧ l.length ≤ 1048576 ∧ ∀ x ∈ l, x.length ≤ 1048576) := by
  obtain ⟨v, hv, h⟩ := szInt64SS_ev l hl.1 (fun x hx => (hl.2 x hx).1) 1048576 (by omega) (by omega)
  unfold laws_szNet.f
  rcases h with rfl | ⟨h0, _, h1, h2, _⟩
  · exact ⟨-1, Ev.bind hv (Ev.congr (fun k => by rw [if_pos (by omega)]) (Ev.now _)), .inl rfl⟩
  · exact ⟨v, Ev.bind hv (Ev.congr (fun k => by rw [if_neg (by omega)]) (Ev.now _)), .inr ⟨h0, by omega, fun x hx => by have := h2 x hx; omega⟩⟩
theorem toNet_ev (p : Int) (l : List (List Int)) (hl : l.length ≤ 1048576) (hx : ∀ x ∈ l, x.length ≤ 1048576) : Ev (fun k => laws_toNet.f k p l) (p, l) := by
  unfold laws_toNet.f
  exact Ev.bind (toInt64SS_ev l hl hx) (Ev.now _)
theorem eqNet_self (p : Int) (l : List (List Int)) (hl : l.length ≤ 1048576) (hx : ∀ x ∈ l, x.length ≤ 1048576) : Ev (fun k => laws_eqNet.f k p l p l) true := by
  unfold laws_eqNet.f
  refine Ev.congr (fun k => by rw [if_pos rfl]) (Ev.bind (eqInt64SS_self l (by omega) (fun z hz => by have := hx z hz; omega)) (Ev.congr (fun k => by rw [if_pos rfl]) (Ev.now _)))
-- AreDoublyJoined: the points as a set, the checks.
theorem netEdges {p : Int} {l : List (List Int)} (h : isNetV p l = true) : NetEdges l ∧ 2 ≤ p ∧ p ≤ 8 := by
  unfold isNetV at h
  simp only [Bool.and_eq_true, Bool.not_eq_true', decide_eq_false_iff_not] at h
  obtain ⟨⟨⟨h1, h2⟩, h3⟩, _⟩ := h
  unfold inW at h1
  simp only [Bool.and_eq_true, decide_eq_true_eq] at h1
  refine ⟨⟨by omega, fun e he => ?_⟩, h1.1, h1.2⟩
  have hb : edgeBad p e = false := by
    have := List.any_eq_false.1 h3 e he
    simpa using this
  obtain ⟨a, b, rfl, ha, hb2, _⟩ := edge_good hb
  unfold inW at ha hb2
  simp only [Bool.and_eq_true, decide_eq_true_eq] at ha hb2
  have e : wrap64 (p - 1) = p - 1 := by unfold wrap64; omega
  rw [e] at ha hb2
  refine ⟨a.toNat, b.toNat, ?_, by omega, by omega⟩
  rw [Int.toNat_of_nonneg ha.1, Int.toNat_of_nonneg hb2.1]
def ptsSet : Nat → List Int → Nat
  | m, [] => m
  | m, x :: r => ptsSet (m ||| 2 ^ x.toNat) r
theorem ptsSet_lt : ∀ (l : List Int) (m : Nat), m < 256 → (∀ x ∈ l, 0 ≤ x ∧ x < 8) → ptsSet m l < 256
  | [], m, h, _ => h
  | x :: r, m, h, hx => ptsSet_lt r _ (or_lt h (two_lt (by have := hx x (by simp); omega))) (fun y hy => hx y (by simp [hy]))
theorem ptsSet_le : ∀ (l : List Int) (m : Nat), m ≤ ptsSet m l
  | [], _ => Nat.le_refl _
  | x :: r, m => Nat.le_trans Nat.left_le_or (ptsSet_le r _)
theorem ptsSet_pos (x : Int) (r : List Int) : ptsSet 0 (x :: r) ≠ 0 := by
  have h := ptsSet_le r (0 ||| 2 ^ x.toNat)
  have h2 : (0 ||| 2 ^ x.toNat) ≠ 0 := by rw [Nat.zero_or]; exact Nat.ne_of_gt (Nat.two_pow_pos _)
  show ptsSet (0 ||| 2 ^ x.toNat) r ≠ 0
  generalize (0 ||| 2 ^ x.toNat) = q at *
  omega
theorem rising_in (lo hi : Int) : ∀ (l : List Int) (q : Option Int), risingFrom lo hi q l = true → ∀ x ∈ l, inW x lo hi = true
  | [], _, _, x, hx => by simp at hx
  | y :: r, none, h, x, hx => by
    unfold risingFrom at h
    simp only [Bool.and_eq_true] at h
    rcases List.mem_cons.1 hx with rfl | hx
    · exact h.1
    · exact rising_in lo hi r _ h.2 x hx
  | y :: r, some q, h, x, hx => by
    unfold risingFrom at h
    simp only [Bool.and_eq_true] at h
    rcases List.mem_cons.1 hx with rfl | hx
    · exact h.1.1
    · exact rising_in lo hi r _ h.2 x hx
theorem impl_or (p : Int) (l : List (List Int)) (x : List Int) (hx : x.length ≤ 9223372036854775807) (hin : ∀ y ∈ x, 0 ≤ y ∧ y < 8) (b : Bool) (hb : Ev (fun k => impl_Net_areDouble.f k p l (ptsSet 0 x : Nat)) b) : ∀ (d i m : Nat), i + d = x.length → m < 256 → ptsSet m (x.drop i) = ptsSet 0 x →
    Ev (fun k => impl_AreDoublyJoined.l0 k m x x.length i p l) (b, 0) := by
  intro d
  induction d with
  | zero =>
    intro i m hi hm hs
    rw [List.drop_eq_nil_of_le (by omega)] at hs
    have e : m = ptsSet 0 x := hs
    refine Ev.step (f := fun k => (impl_Net_areDouble.f k p l m).bind fun t251 => some (t251, 0)) (fun k => ?_) ?_
    · simp only [impl_AreDoublyJoined.l0]; rw [if_neg (by omega)]
    · rw [e]; exact Ev.bind hb (Ev.now _)
  | succ d ih =>
    intro i m hi hm hs
    have hlt : i < x.length := by omega
    have hy := hin x[i] (List.getElem_mem hlt)
    rw [List.drop_eq_getElem_cons hlt] at hs
    have t := two_lt (a := x[i].toNat) (by omega)
    have s1 := shl_nat x[i].toNat (by omega)
    rw [Int.toNat_of_nonneg hy.1] at s1
    have o1 := bits_or_nat m (2 ^ x[i].toNat) (by omega) (by omega)
    have wn := wrap_next hlt hx
    refine Ev.step (fun k => ?_) (ih (i + 1) (m ||| 2 ^ x[i].toNat) (by omega) (or_lt hm t) hs)
    generalize (2 ^ x[i].toNat : Nat) = pp at *
    simp only [impl_AreDoublyJoined.l0]
    rw [if_pos (by omega), if_pos (by omega), if_pos (by omega), rd_get x i hlt, if_pos hy.1, s1, o1, wn]
theorem spec_or (p : Int) (hp : 2 ≤ p ∧ p ≤ 8) (l : List (List Int)) (x : List Int) (hx : x.length ≤ 9223372036854775807) (b : Bool) (hb : (∀ y ∈ x, 0 ≤ y ∧ y < 8) → ptsSet 0 x ≠ 0 → Ev (fun k => spec_l10Double.f k p l (ptsSet 0 x : Nat)) b) : ∀ (d i m : Nat), i + d = x.length → m < 256 → ptsSet m (x.drop i) = ptsSet 0 x → (∀ y ∈ x.take i, 0 ≤ y ∧ y < 8) →
    Ev (fun k => spec_AreDoublyJoined.l0 k x m i p l) (if risingFrom 0 (wrap64 (p - 1)) (lastOf x i) (x.drop i) = true then (if ptsSet 0 x = 0 then (false, 2) else (b, 0)) else (false, 2)) := by
  have ep : wrap64 (p - 1) = p - 1 := by unfold wrap64; omega
  intro d
  induction d with
  | zero =>
    intro i m hi hm hs ht
    rw [List.take_of_length_le (by omega)] at ht
    rw [List.drop_eq_nil_of_le (by omega)] at hs ⊢
    have e : m = ptsSet 0 x := hs
    have hr : risingFrom 0 (wrap64 (p - 1)) (lastOf x i) [] = true := by cases lastOf x i <;> rfl
    rw [if_pos hr]
    by_cases h0 : ptsSet 0 x = 0
    · rw [if_pos h0]
      refine Ev.step (f := fun _ => some _) (fun k => ?_) (Ev.now _)
      simp only [spec_AreDoublyJoined.l0]; rw [if_neg (by omega), if_pos (by omega)]
    · rw [if_neg h0]
      refine Ev.step (f := fun k => (spec_l10Double.f k p l m).bind fun t240 => some (t240, 0)) (fun k => ?_) ?_
      · simp only [spec_AreDoublyJoined.l0]; rw [if_neg (by omega), if_neg (by omega)]
      · rw [e]; exact Ev.bind (hb ht h0) (Ev.now _)
  | succ d ih =>
    intro i m hi hm hs ht
    have hlt : i < x.length := by omega
    rw [List.drop_eq_getElem_cons hlt] at hs ⊢
    have wn := wrap_next hlt hx
    by_cases hin : inW x[i] 0 (wrap64 (p - 1)) = true
    · have hy : 0 ≤ x[i] ∧ x[i] < 8 := by
        unfold inW at hin
        simp only [Bool.and_eq_true, decide_eq_true_eq] at hin
        omega
      have t := two_lt (a := x[i].toNat) (by omega)
      have s1 := shl_nat x[i].toNat (by omega)
      rw [Int.toNat_of_nonneg hy.1] at s1
      have u1 := u64_nat x[i].toNat (by omega)
      rw [Int.toNat_of_nonneg hy.1] at u1
      have o1 := bits_or_nat m (2 ^ x[i].toNat) (by omega) (by omega)
      have ht' : ∀ y ∈ x.take (i + 1), 0 ≤ y ∧ y < 8 := by
        rw [List.take_succ_eq_append_getElem hlt]
        intro y hy2
        rcases List.mem_append.1 hy2 with h | h
        · exact ht y h
        · rw [List.mem_singleton.1 h]; exact hy
      have ih1 := ih (i + 1) (m ||| 2 ^ x[i].toNat) (by omega) (or_lt hm t) hs ht'
      have hl1 : lastOf x (i + 1) = some x[i] := by
        unfold lastOf
        rw [if_neg (by omega), Nat.add_sub_cancel, List.getD_eq_getElem?_getD, List.getElem?_eq_getElem hlt]; rfl
      rw [hl1] at ih1
      by_cases h0 : i = 0
      · subst h0
        have hr : risingFrom 0 (wrap64 (p - 1)) (lastOf x 0) (x[0] :: x.drop (0 + 1)) = risingFrom 0 (wrap64 (p - 1)) (some x[0]) (x.drop (0 + 1)) := by
          show (inW x[0] 0 (wrap64 (p - 1)) && _) = _
          rw [hin, Bool.true_and]
        rw [hr]
        refine Ev.step (fun k => ?_) ih1
        generalize (2 ^ x[0].toNat : Nat) = pp at *
        simp only [spec_AreDoublyJoined.l0]
        rw [if_pos (by omega), if_pos (by omega), rd_get x 0 hlt, in_inW, hin, Option.bind_some, if_pos rfl, if_neg (by omega), u1, if_pos hy.1, s1, o1, wn]
      · have hpl : i - 1 < x.length := by omega
        have ew : wrap64 ((i : Int) - 1) = ((i - 1 : Nat) : Int) := by unfold wrap64; omega
        have hl0 : lastOf x i = some x[i - 1] := by
          unfold lastOf
          rw [if_neg h0, List.getD_eq_getElem?_getD, List.getElem?_eq_getElem hpl]; rfl
        have hr : risingFrom 0 (wrap64 (p - 1)) (lastOf x i) (x[i] :: x.drop (i + 1)) = (!decide (x[i] ≤ x[i - 1]) && risingFrom 0 (wrap64 (p - 1)) (some x[i]) (x.drop (i + 1))) := by
          rw [hl0]
          show (inW x[i] 0 (wrap64 (p - 1)) && _ && _) = _
          rw [hin, Bool.true_and]
        rw [hr]
        by_cases hc : x[i - 1] ≥ x[i]
        · rw [decide_eq_true (show x[i] ≤ x[i - 1] from hc)]
          refine Ev.step (f := fun _ => some (false, 2)) (fun k => ?_) (by simpa using Ev.now _)
          simp only [spec_AreDoublyJoined.l0]
          rw [if_pos (by omega), if_pos (by omega), rd_get x i hlt, in_inW, hin, Option.bind_some, if_pos rfl, if_pos (by omega), ew, if_pos (by omega), if_pos (by omega), rd_get x (i - 1) hpl, if_pos hc]
        · rw [decide_eq_false (show ¬ x[i] ≤ x[i - 1] from hc)]
          rw [Bool.not_false, Bool.true_and]
          refine Ev.step (fun k => ?_) ih1
          generalize (2 ^ x[i].toNat : Nat) = pp at *
          simp only [spec_AreDoublyJoined.l0]
          rw [if_pos (by omega), if_pos (by omega), rd_get x i hlt, in_inW, hin, Option.bind_some, if_pos rfl, if_pos (by omega), ew, if_pos (by omega), if_pos (by omega), rd_get x (i - 1) hpl, if_neg hc, u1, if_pos hy.1, s1, o1, wn]
    · have hr : risingFrom 0 (wrap64 (p - 1)) (lastOf x i) (x[i] :: x.drop (i + 1)) = false := by
        have hin' : inW x[i] 0 (wrap64 (p - 1)) = false := by simpa using hin
        cases lastOf x i with
        | none => show (inW x[i] 0 (wrap64 (p - 1)) && _) = _; rw [hin']; rfl
        | some q => show (inW x[i] 0 (wrap64 (p - 1)) && _ && _) = _; rw [hin']; rfl
      rw [hr]
      refine Ev.step (f := fun _ => some (false, 2)) (fun k => ?_) (by simpa using Ev.now _)
      simp only [spec_AreDoublyJoined.l0]
      rw [if_pos (by omega), if_pos (by omega), rd_get x i hlt, in_inW, Option.bind_some, if_neg hin]
/-- The one pure statement of laws_FnExactAreDoublyJoined. -/
def laws_FnExactAreDoublyJoined.Pure : Prop := ∀ (a0_0 : Int) (l0_1 : List (List Int)) (l1 : List Int), (Lit.int .i64 a0_0).wf = true → (l0_1.length ≤ maxLen ∧ ∀ y3_ ∈ l0_1, (y3_.length ≤ maxLen ∧ ∀ y4_ ∈ y3_, (Lit.int .i64 y4_).wf = true)) → (l1.length ≤ maxLen ∧ ∀ y5_ ∈ l1, (Lit.int .i64 y5_).wf = true) → ∃ k, laws_FnExactAreDoublyJoined.f k a0_0 l0_1 l1 = some true
/-- A type's readings as data are values of a kind: what an argument of that type is, whatever it holds. -/
def Rdb {α : Type} (P : Program) (t : TypeId) (d : Kd α) (wf : α → Prop) : Prop :=
  ∀ (H : Type) (enc : TypeId × Value → H) (w : World) (base : Nat) (spare : Nat → Bool) (held : Bool) (fuel : Nat) (cs : List Value) (x : DataW H × List MemPlace),
    DataW.trod enc P w base spare held fuel t cs = some x → ∃ a : α, d.K w a cs ∧ wf a
theorem Rdb.int {P : Program} {t : TypeId} {k : IntKind} (ht : P.underlying t = some (.int k)) : Rdb P t (Kd.int k) (fun n => (Lit.int k n).wf = true) := by
  intro H enc w base spare held fuel cs x h
  obtain ⟨n, rfl, _, hw⟩ := DataW.trod_int ht h
  exact ⟨n, rfl, hw⟩
theorem Rdb.bool {P : Program} {t : TypeId} (ht : P.underlying t = some .bool) : Rdb P t Kd.bool (fun _ => True) := by
  intro H enc w base spare held fuel cs x h
  obtain ⟨n, rfl, _⟩ := DataW.trod_bool ht h
  exact ⟨n, rfl, trivial⟩
theorem Rdb.string {P : Program} {t : TypeId} (ht : P.underlying t = some .string) : Rdb P t Kd.string (fun s => s.size ≤ maxLen) := by
  intro H enc w base spare held fuel cs x h
  obtain ⟨s, rfl, _, hs⟩ := DataW.trod_string ht h
  exact ⟨s, rfl, hs⟩
theorem list_choose {α β : Type} {R : Nat → α → β → Prop} : ∀ (n : Nat) (xs : List α), xs.length = n → (∀ i x, xs[i]? = some x → ∃ y, R i x y) → ∃ ys : List β, ys.length = n ∧ ∀ i x y, xs[i]? = some x → ys[i]? = some y → R i x y := by
  intro n xs
  induction xs generalizing n R with
  | nil =>
    intro hl _
    exact ⟨[], by simpa using hl, by intro i x y h; simp at h⟩
  | cons x xs ih =>
    intro hl h
    obtain ⟨y, hy⟩ := h 0 x rfl
    obtain ⟨ys, h1, h2⟩ := ih (R := fun i a b => R (i + 1) a b) (n - 1) (by simp at hl; omega) (fun i a hi => h (i + 1) a (by simpa using hi))
    refine ⟨y :: ys, by simp at hl ⊢; omega, fun i a b ha hb => ?_⟩
    cases i with
    | zero =>
      simp at ha hb
      subst ha hb
      exact hy
    | succ i => exact h2 i a b (by simpa using ha) (by simpa using hb)
theorem Rdb.slice {α : Type} {P : Program} {t e : TypeId} {d : Kd α} {wf : α → Prop} (ht : P.underlying t = some (.slice e)) (hc : P.cellsOf e = d.sz) (h1 : 0 < d.sz) (r : Rdb P e d wf) :
    Rdb P t (Kd.slice e d) (fun l => l.length ≤ maxLen ∧ ∀ x ∈ l, wf x) := by
  intro H enc w base spare held fuel cs x h
  rcases DataW.trod_slice ht h with ⟨rfl, _⟩ | ⟨a, len, cap, elems, rest, n, _, rfl, _, hb, hl, hm, hlen, hel, _, _⟩
  · exact ⟨[], ⟨none, 0, rfl, by simp, Kd.C_nil _ _⟩, by simp, by simp⟩
  · have each : ∀ i (y : DataW H × List MemPlace), elems[i]? = some y → ∃ b : α, ∃ c, w.cells? base (a.add (i * P.cellsOf e)) (P.cellsOf e) = some c ∧ d.K w b c ∧ wf b := by
      intro i y hy
      have hi : i < len := by have := (List.getElem?_eq_some_iff.1 hy).1; omega
      have h2 := hel i hi
      rw [hy, Option.bind_eq_some_iff] at h2
      obtain ⟨c, hcs, htr⟩ := h2
      obtain ⟨b, hK, hw⟩ := r H enc w base spare held n c y htr
      exact ⟨b, c, hcs, hK, hw⟩
    obtain ⟨xs, hx1, hx2⟩ := list_choose (R := fun i _ (b : α) => ∃ c, w.cells? base (a.add (i * P.cellsOf e)) (P.cellsOf e) = some c ∧ d.K w b c ∧ wf b) len elems hlen each
    have get : ∀ i b, xs[i]? = some b → ∃ c, w.cells? base (a.add (i * P.cellsOf e)) (P.cellsOf e) = some c ∧ d.K w b c ∧ wf b := by
      intro i b hb'
      have hi : i < elems.length := by have := (List.getElem?_eq_some_iff.1 hb').1; omega
      exact hx2 i _ b (List.getElem?_eq_getElem hi) hb'
    refine ⟨xs, ⟨some a, cap, by rw [hx1], by omega, ?_⟩, by omega, fun b hb' => ?_⟩
    · refine ⟨rfl, by rw [hx1]; unfold maxLen at hm; omega, fun hp => ⟨a, rfl, fun j b hj => ?_⟩⟩
      obtain ⟨c, hcs, hK, _⟩ := get j b hj
      obtain ⟨_, hcl, hcell⟩ := World.cells?_some hcs
      refine ⟨c, by rw [hcl, hc], hK, fun i u hu => ?_⟩
      have hi : i < P.cellsOf e := by have := (List.getElem?_eq_some_iff.1 hu).1; omega
      have := hcell i hi
      rw [hu] at this
      rw [Addr.add_add] at this
      rw [← hc]
      exact this
    · obtain ⟨i, hi⟩ := List.mem_iff_getElem?.1 hb'
      obtain ⟨_, _, _, hw⟩ := get i b hi
      exact hw
theorem take_all {α : Type} {cs : List α} {n : Nat} (h : cs.length = n) : cs.take n = cs := by rw [← h, List.take_length]
theorem Rdb.struct1 {α : Type} {P : Program} {t : TypeId} {f0 : Field} {d0 : Kd α} {w0 : α → Prop} (ht : P.underlying t = some (.struct #[f0])) (o0 : f0.offset = 0) (c0 : P.cellsOf f0.type = P.cellsOf t) (r0 : Rdb P f0.type d0 w0) : Rdb P t d0 w0 := by
  intro H enc w base spare held fuel cs x h
  obtain ⟨y0, n, _, hl, h0⟩ := ChangeShapes.trod_struct1 ht h
  rw [o0, List.drop_zero, c0, take_all hl] at h0
  exact r0 H enc w base spare held n cs y0 h0
theorem Rdb.struct2 {α β : Type} {P : Program} {t : TypeId} {f0 f1 : Field} {d0 : Kd α} {d1 : Kd β} {w0 : α → Prop} {w1 : β → Prop} (ht : P.underlying t = some (.struct #[f0, f1])) (o0 : f0.offset = 0) (o1 : f1.offset = P.cellsOf f0.type) (cT : P.cellsOf t = P.cellsOf f0.type + P.cellsOf f1.type)
    (r0 : Rdb P f0.type d0 w0) (r1 : Rdb P f1.type d1 w1) : Rdb P t (Kd.pair d0 d1) (fun x => w0 x.1 ∧ w1 x.2) := by
  intro H enc w base spare held fuel cs x h
  obtain ⟨y0, y1, n, _, hl, h0, h1⟩ := ChangeShapes.trod_struct2 ht h
  rw [o0, List.drop_zero] at h0
  rw [o1, List.take_of_length_le (by rw [List.length_drop, hl, cT]; omega)] at h1
  obtain ⟨a, hK0, hw0⟩ := r0 H enc w base spare held n _ y0 h0
  obtain ⟨b, hK1, hw1⟩ := r1 H enc w base spare held n _ y1 h1
  exact ⟨(a, b), ⟨_, _, (List.take_append_drop _ _).symm, hK0, hK1⟩, hw0, hw1⟩
theorem Rdb.struct3 {α β γ : Type} {P : Program} {t : TypeId} {f0 f1 f2 : Field} {d0 : Kd α} {d1 : Kd β} {d2 : Kd γ} {w0 : α → Prop} {w1 : β → Prop} {w2 : γ → Prop} (ht : P.underlying t = some (.struct #[f0, f1, f2])) (o0 : f0.offset = 0) (o1 : f1.offset = P.cellsOf f0.type)
    (o2 : f2.offset = P.cellsOf f0.type + P.cellsOf f1.type) (cT : P.cellsOf t = P.cellsOf f0.type + P.cellsOf f1.type + P.cellsOf f2.type)
    (r0 : Rdb P f0.type d0 w0) (r1 : Rdb P f1.type d1 w1) (r2 : Rdb P f2.type d2 w2) : Rdb P t (Kd.pair d0 (Kd.pair d1 d2)) (fun x => w0 x.1 ∧ w1 x.2.1 ∧ w2 x.2.2) := by
  intro H enc w base spare held fuel cs x h
  obtain ⟨xs, n, _, _, hl, hxl, hf⟩ := DataW.trod_struct ht h
  match xs, hxl with
  | [y0, y1, y2], _ =>
    have h0 : DataW.trod enc P w base spare held n f0.type ((cs.drop f0.offset).take (P.cellsOf f0.type)) = some y0 := by simpa using hf 0 f0 rfl
    have h1 : DataW.trod enc P w base spare held n f1.type ((cs.drop f1.offset).take (P.cellsOf f1.type)) = some y1 := by simpa using hf 1 f1 rfl
    have h2 : DataW.trod enc P w base spare held n f2.type ((cs.drop f2.offset).take (P.cellsOf f2.type)) = some y2 := by simpa using hf 2 f2 rfl
    rw [o0, List.drop_zero] at h0
    rw [o1] at h1
    rw [o2, List.take_of_length_le (by rw [List.length_drop, hl, cT]; omega)] at h2
    obtain ⟨a, hK0, hw0⟩ := r0 H enc w base spare held n _ y0 h0
    obtain ⟨b, hK1, hw1⟩ := r1 H enc w base spare held n _ y1 h1
    obtain ⟨c, hK2, hw2⟩ := r2 H enc w base spare held n _ y2 h2
    refine ⟨(a, b, c), ⟨_, _, (List.take_append_drop (P.cellsOf f0.type) cs).symm, hK0, _, _, ?_, hK1, hK2⟩, hw0, hw1, hw2⟩
    rw [← List.drop_drop, List.take_append_drop]
theorem Rdb.iso {α β : Type} {P : Program} {t : TypeId} {d : Kd α} {wf : α → Prop} (r : Rdb P t d wf) (f : β → α) (g : α → β) (hfg : ∀ a, f (g a) = a) : Rdb P t (Kd.iso d f) (fun b => wf (f b)) := by
  intro H enc w base spare held fuel cs x h
  obtain ⟨a, hK, hw⟩ := r H enc w base spare held fuel cs x h
  exact ⟨g a, by show d.K w (f (g a)) cs; rw [hfg]; exact hK, by show wf (f (g a)); rw [hfg]; exact hw⟩
theorem Rdb.of {α : Type} {P : Program} {t : TypeId} {d : Kd α} {wf : α → Prop} (r : Rdb P t d wf) {H : Type} {enc : TypeId × Value → H} {w : World} {base : Nat} {spare : Nat → Bool} {held : Bool} {v : Value} {x : DataW H} {ps : List MemPlace}
    (h : DataW.Trod enc P w base spare held t v x ps) : ∃ a : α, d.K w a v.cells.toList ∧ wf a := by
  obtain ⟨fuel, hf⟩ := h
  exact r H enc w base spare held fuel _ _ hf

end Go.Proofs.Ytcjeccohlmmfoaa.F
