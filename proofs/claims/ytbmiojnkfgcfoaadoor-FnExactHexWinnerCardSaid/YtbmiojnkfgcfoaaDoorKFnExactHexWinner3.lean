-- written by the session's program xp.py over the kit's print program, and by hand; texts joined by pack.py
import Derived.Test.YtbmiojnkfgcfoaaDoorKFnExactHexWinner2
namespace Go.Proofs.YtbmiojnkfgcfoaaDoor.F
open Go.RowKit Go.Proofs.YtbmiojnkfgcfoaaDoorW.PrintWords Go.Proofs.YtbmiojnkfgcfoaaDoorW.PrintLast Go.Proofs.YtbmiojnkfgcfoaaDoorW.PrintMore
attribute [local go_sem] max2_int min2_int max_two min_two max_three min_three max_four min_four   -- for this text's walks alone
set_option linter.unusedVariables false
set_option linter.unusedSimpArgs false

/-! ### impl_HexMover: function 20 -/
def impl_HexMover.f (a0_0 : Int) (l0_1 : List Int) : Option (Int × Int) := (impl_IsHex.f a0_0 l0_1).bind fun t231 => (if t231 = true then ((impl_Hex_mover.f a0_0 l0_1).bind fun bt232 => (if bt232.2 = true then (some (bt232.1, 0)) else (some (0, 5)))) else (some (0, 1)))
set_option maxHeartbeats 8000000 in
set_option maxRecDepth 100000 in
theorem impl_HexMover.calls (a0_0 : Int) (A0_1 : Option Addr) (c0_1 : Nat) (l0_1 : List Int) (r1 : Int) (r2 : Int) (w : World) (hr0_1 : Kd.C (Kd.int .i64) w A0_1 l0_1.length l0_1) (hc0_1 : l0_1.length ≤ c0_1) (h : impl_HexMover.f a0_0 l0_1 = some (r1, r2)) :
  Calls Tryd.prog 20 #[.agg #[.int .i64 a0_0, .slice A0_1 l0_1.length c0_1]] w fun e w' => e = .returned (.tuple #[.int .i64 r1, .int .i64 r2]) ∧ Below w.heap.size w w' := by
 have hu28 := Tryd.underlying28
 have HR0_1 := Aside0.mk hr0_1
 have HC0_1 := Aside0.mk hc0_1
 clear hr0_1 hc0_1
 have HB := Aside0.mk (Below.refl w.heap.size w)
 have H : ((impl_IsHex.f a0_0 l0_1).bind fun t231 => (if t231 = true then ((impl_Hex_mover.f a0_0 l0_1).bind fun bt232 => (if bt232.2 = true then (some (bt232.1, 0)) else (some (0, 5)))) else (some (0, 1)))) = some (r1, r2) := h
 clear h
 replace H := Option.bind_eq_some_iff.mp H
 obtain ⟨t231, A20, H⟩ := H
 replace H : (if t231 = true then ((impl_Hex_mover.f a0_0 l0_1).bind fun bt232 => (if bt232.2 = true then (some (bt232.1, 0)) else (some (0, 5)))) else (some (0, 1))) = some (r1, r2) := H
 have A2 := Aside0.mk A20
 clear A20
 by_cases c3 : t231 = true
 ·subst c3
  have H1 : ((impl_Hex_mover.f a0_0 l0_1).bind fun bt232 => (if bt232.2 = true then (some (bt232.1, 0)) else (some (0, 5)))) = some (r1, r2) := by rw [if_pos rfl] at H; exact H
  clear H
  have H := H1
  clear H1
  replace H := Option.bind_eq_some_iff.mp H
  obtain ⟨⟨t232, t233⟩, A40, H⟩ := H
  replace H : (if t233 = true then (some (t232, 0)) else (some (0, 5))) = some (r1, r2) := H
  have A4 := Aside0.mk A40
  clear A40
  by_cases c5 : t233 = true
  ·subst c5
   have H1 : (some (t232, 0)) = some (r1, r2) := by rw [if_pos rfl] at H; exact H
   clear H
   have H := H1
   clear H1
   simp only [Option.some.injEq, Prod.mk.injEq] at H
   obtain ⟨rfl, rfl⟩ := H
   go_enter Tryd.func20, Tryd.ntmps20
   go_wp2_with (first | ((with_reducible refine gate_dst (N := 1) rfl ?_); refine box_event ?hg (N := 1) ?hd (cs := #[.int .i64 a0_0, .slice A0_1 l0_1.length c0_1]) (t := 28) ?hr ?_; (case hd => rfl); (case hg => rfl); (case hr => first | (go_simp; done) | (go_simp; rfl)); intro gb230 hg w6 hbox hb; have n0_ := Aside0.mk (below_step hb_ hb); have n1_ := Aside0.mk (hbox); have n2_ := Aside0.mk ((by rw [hg]; exact (below_size hb_) : w.heap.size ≤ gb230)); have n3_ := Aside0.mk ((by rw [hg]; exact (below_size hb_) : w.heap.size ≤ gb230)); clear HB; have HB := n0_; have BK230 := n1_; have GW230 := n2_; have GE230 := n3_; clear n0_ n1_ n2_ n3_; clear hb hbox hg; have hcz7_0 : w6.cell? ⟨gb230, 0, none⟩ = some (.int .i64 a0_0) := (blk_cell BK230.out 0).trans rfl; have hcz7_1 : w6.cell? ⟨gb230, 1, none⟩ = some (.slice A0_1 l0_1.length c0_1) := (blk_cell BK230.out 1).trans rfl; have hfz7_0 := blk_frozen BK230.out 0; have hfz7_1 := blk_frozen BK230.out 1) | ((with_reducible refine gate_callee (f := 44) rfl ?_); refine goesA_ (some 7) rfl rfl Tryd.func44 (by kernel_rfl) rfl #[.agg #[.int .i64 a0_0, .slice A0_1 l0_1.length c0_1]] rfl ?_; (with_reducible refine (impl_IsHex.calls a0_0 _ _ l0_1 true _ ?side1 ?side2 A2.out).mono ?_); (case side1 => repeat (first | exact (Kd.C_below HR0_1.out HB.out) | (with_reducible refine Kd.C_alloc ?_ _) | (with_reducible refine Kd.C_drewN ?_ _) | (with_reducible refine Kd.C_drew ?_))); (case side2 => exact HC0_1.out); rintro e w8 ⟨rfl, hb⟩; refine ⟨_, rfl, ?_⟩; have n0_ := Aside0.mk (blk_below (g := gb230) (o := .cells #[.int .i64 a0_0, .slice A0_1 l0_1.length c0_1] 28 (0, 0)) (by (with_reducible repeat (first | refine blk_drewN ?_ _ | refine blk_drew ?_ | refine blk_alloc ?_ _)); exact BK230.out) hb); have n1_ := Aside0.mk (below_step (by repeat (first | (with_reducible first | exact HB.out | apply below_alloc | apply pw_below_drewN | apply below_drew1 | refine below_set ?_ GE230.out) | exact HB.out)) hb); clear BK230; clear HB; have BK230 := n0_; have HB := n1_; clear n0_ n1_; (try clear hb); (try clear hb2); (try clear hk); (try clear hi); have hcz9_0 : w8.cell? ⟨gb230, 0, none⟩ = some (.int .i64 a0_0) := (blk_cell BK230.out 0).trans rfl; have hcz9_1 : w8.cell? ⟨gb230, 1, none⟩ = some (.slice A0_1 l0_1.length c0_1) := (blk_cell BK230.out 1).trans rfl; have hfz9_0 := blk_frozen BK230.out 0; have hfz9_1 := blk_frozen BK230.out 1) | ((with_reducible refine gate_callee (f := 38) rfl ?_); refine goesA_ (some 11) rfl rfl Tryd.func38 (by kernel_rfl) rfl #[.agg #[.int .i64 a0_0, .slice A0_1 l0_1.length c0_1]] rfl ?_; (with_reducible refine (impl_Hex_mover.calls a0_0 _ _ l0_1 t232 true _ ?side1 ?side2 A4.out).mono ?_); (case side1 => repeat (first | exact (Kd.C_below HR0_1.out HB.out) | (with_reducible refine Kd.C_alloc ?_ _) | (with_reducible refine Kd.C_drewN ?_ _) | (with_reducible refine Kd.C_drew ?_))); (case side2 => exact HC0_1.out); rintro e w10 ⟨rfl, hb⟩; refine ⟨_, rfl, ?_⟩; have n0_ := Aside0.mk (blk_below (g := gb230) (o := .cells #[.int .i64 a0_0, .slice A0_1 l0_1.length c0_1] 28 (0, 0)) (by (with_reducible repeat (first | refine blk_drewN ?_ _ | refine blk_drew ?_ | refine blk_alloc ?_ _)); exact BK230.out) hb); have n1_ := Aside0.mk (below_step (by repeat (first | (with_reducible first | exact HB.out | apply below_alloc | apply pw_below_drewN | apply below_drew1 | refine below_set ?_ GE230.out) | exact HB.out)) hb); clear BK230; clear HB; have BK230 := n0_; have HB := n1_; clear n0_ n1_; (try clear hb); (try clear hb2); (try clear hk); (try clear hi)))
   go_ret2
   exact ⟨by first | rfl | (simp [errW_none, errW_some] <;> rfl) | (simp [*, errW_none, errW_some] <;> rfl), by repeat (first | (with_reducible first | exact HB.out | apply below_alloc | apply pw_below_drewN | apply below_drew1 | refine below_set ?_ GE230.out) | exact HB.out)⟩
  ·replace c5 := Bool.eq_false_iff.mpr c5
   subst c5
   have H1 : (some (0, 5)) = some (r1, r2) := by rw [if_neg (show ¬ (false = true) by decide)] at H; exact H
   clear H
   have H := H1
   clear H1
   simp only [Option.some.injEq, Prod.mk.injEq] at H
   obtain ⟨rfl, rfl⟩ := H
   go_enter Tryd.func20, Tryd.ntmps20
   go_wp2_with (first | ((with_reducible refine gate_dst (N := 1) rfl ?_); refine box_event ?hg (N := 1) ?hd (cs := #[.int .i64 a0_0, .slice A0_1 l0_1.length c0_1]) (t := 28) ?hr ?_; (case hd => rfl); (case hg => rfl); (case hr => first | (go_simp; done) | (go_simp; rfl)); intro gb230 hg w11 hbox hb; have n0_ := Aside0.mk (below_step hb_ hb); have n1_ := Aside0.mk (hbox); have n2_ := Aside0.mk ((by rw [hg]; exact (below_size hb_) : w.heap.size ≤ gb230)); have n3_ := Aside0.mk ((by rw [hg]; exact (below_size hb_) : w.heap.size ≤ gb230)); clear HB; have HB := n0_; have BK230 := n1_; have GW230 := n2_; have GE230 := n3_; clear n0_ n1_ n2_ n3_; clear hb hbox hg; have hcz12_0 : w11.cell? ⟨gb230, 0, none⟩ = some (.int .i64 a0_0) := (blk_cell BK230.out 0).trans rfl; have hcz12_1 : w11.cell? ⟨gb230, 1, none⟩ = some (.slice A0_1 l0_1.length c0_1) := (blk_cell BK230.out 1).trans rfl; have hfz12_0 := blk_frozen BK230.out 0; have hfz12_1 := blk_frozen BK230.out 1) | ((with_reducible refine gate_callee (f := 44) rfl ?_); refine goesA_ (some 7) rfl rfl Tryd.func44 (by kernel_rfl) rfl #[.agg #[.int .i64 a0_0, .slice A0_1 l0_1.length c0_1]] rfl ?_; (with_reducible refine (impl_IsHex.calls a0_0 _ _ l0_1 true _ ?side1 ?side2 A2.out).mono ?_); (case side1 => repeat (first | exact (Kd.C_below HR0_1.out HB.out) | (with_reducible refine Kd.C_alloc ?_ _) | (with_reducible refine Kd.C_drewN ?_ _) | (with_reducible refine Kd.C_drew ?_))); (case side2 => exact HC0_1.out); rintro e w13 ⟨rfl, hb⟩; refine ⟨_, rfl, ?_⟩; have n0_ := Aside0.mk (blk_below (g := gb230) (o := .cells #[.int .i64 a0_0, .slice A0_1 l0_1.length c0_1] 28 (0, 0)) (by (with_reducible repeat (first | refine blk_drewN ?_ _ | refine blk_drew ?_ | refine blk_alloc ?_ _)); exact BK230.out) hb); have n1_ := Aside0.mk (below_step (by repeat (first | (with_reducible first | exact HB.out | apply below_alloc | apply pw_below_drewN | apply below_drew1 | refine below_set ?_ GE230.out) | exact HB.out)) hb); clear BK230; clear HB; have BK230 := n0_; have HB := n1_; clear n0_ n1_; (try clear hb); (try clear hb2); (try clear hk); (try clear hi); have hcz14_0 : w13.cell? ⟨gb230, 0, none⟩ = some (.int .i64 a0_0) := (blk_cell BK230.out 0).trans rfl; have hcz14_1 : w13.cell? ⟨gb230, 1, none⟩ = some (.slice A0_1 l0_1.length c0_1) := (blk_cell BK230.out 1).trans rfl; have hfz14_0 := blk_frozen BK230.out 0; have hfz14_1 := blk_frozen BK230.out 1) | ((with_reducible refine gate_callee (f := 38) rfl ?_); refine goesA_ (some 11) rfl rfl Tryd.func38 (by kernel_rfl) rfl #[.agg #[.int .i64 a0_0, .slice A0_1 l0_1.length c0_1]] rfl ?_; (with_reducible refine (impl_Hex_mover.calls a0_0 _ _ l0_1 t232 false _ ?side1 ?side2 A4.out).mono ?_); (case side1 => repeat (first | exact (Kd.C_below HR0_1.out HB.out) | (with_reducible refine Kd.C_alloc ?_ _) | (with_reducible refine Kd.C_drewN ?_ _) | (with_reducible refine Kd.C_drew ?_))); (case side2 => exact HC0_1.out); rintro e w15 ⟨rfl, hb⟩; refine ⟨_, rfl, ?_⟩; have n0_ := Aside0.mk (blk_below (g := gb230) (o := .cells #[.int .i64 a0_0, .slice A0_1 l0_1.length c0_1] 28 (0, 0)) (by (with_reducible repeat (first | refine blk_drewN ?_ _ | refine blk_drew ?_ | refine blk_alloc ?_ _)); exact BK230.out) hb); have n1_ := Aside0.mk (below_step (by repeat (first | (with_reducible first | exact HB.out | apply below_alloc | apply pw_below_drewN | apply below_drew1 | refine below_set ?_ GE230.out) | exact HB.out)) hb); clear BK230; clear HB; have BK230 := n0_; have HB := n1_; clear n0_ n1_; (try clear hb); (try clear hb2); (try clear hk); (try clear hi)))
   go_ret2
   exact ⟨by first | rfl | (simp [errW_none, errW_some] <;> rfl) | (simp [*, errW_none, errW_some] <;> rfl), by repeat (first | (with_reducible first | exact HB.out | apply below_alloc | apply pw_below_drewN | apply below_drew1 | refine below_set ?_ GE230.out) | exact HB.out)⟩
 ·replace c3 := Bool.eq_false_iff.mpr c3
  subst c3
  have H1 : (some (0, 1)) = some (r1, r2) := by rw [if_neg (show ¬ (false = true) by decide)] at H; exact H
  clear H
  have H := H1
  clear H1
  simp only [Option.some.injEq, Prod.mk.injEq] at H
  obtain ⟨rfl, rfl⟩ := H
  go_enter Tryd.func20, Tryd.ntmps20
  go_wp2_with (first | ((with_reducible refine gate_dst (N := 1) rfl ?_); refine box_event ?hg (N := 1) ?hd (cs := #[.int .i64 a0_0, .slice A0_1 l0_1.length c0_1]) (t := 28) ?hr ?_; (case hd => rfl); (case hg => rfl); (case hr => first | (go_simp; done) | (go_simp; rfl)); intro gb230 hg w16 hbox hb; have n0_ := Aside0.mk (below_step hb_ hb); have n1_ := Aside0.mk (hbox); have n2_ := Aside0.mk ((by rw [hg]; exact (below_size hb_) : w.heap.size ≤ gb230)); have n3_ := Aside0.mk ((by rw [hg]; exact (below_size hb_) : w.heap.size ≤ gb230)); clear HB; have HB := n0_; have BK230 := n1_; have GW230 := n2_; have GE230 := n3_; clear n0_ n1_ n2_ n3_; clear hb hbox hg; have hcz17_0 : w16.cell? ⟨gb230, 0, none⟩ = some (.int .i64 a0_0) := (blk_cell BK230.out 0).trans rfl; have hcz17_1 : w16.cell? ⟨gb230, 1, none⟩ = some (.slice A0_1 l0_1.length c0_1) := (blk_cell BK230.out 1).trans rfl; have hfz17_0 := blk_frozen BK230.out 0; have hfz17_1 := blk_frozen BK230.out 1) | ((with_reducible refine gate_callee (f := 44) rfl ?_); refine goesA_ (some 7) rfl rfl Tryd.func44 (by kernel_rfl) rfl #[.agg #[.int .i64 a0_0, .slice A0_1 l0_1.length c0_1]] rfl ?_; (with_reducible refine (impl_IsHex.calls a0_0 _ _ l0_1 false _ ?side1 ?side2 A2.out).mono ?_); (case side1 => repeat (first | exact (Kd.C_below HR0_1.out HB.out) | (with_reducible refine Kd.C_alloc ?_ _) | (with_reducible refine Kd.C_drewN ?_ _) | (with_reducible refine Kd.C_drew ?_))); (case side2 => exact HC0_1.out); rintro e w18 ⟨rfl, hb⟩; refine ⟨_, rfl, ?_⟩; have n0_ := Aside0.mk (blk_below (g := gb230) (o := .cells #[.int .i64 a0_0, .slice A0_1 l0_1.length c0_1] 28 (0, 0)) (by (with_reducible repeat (first | refine blk_drewN ?_ _ | refine blk_drew ?_ | refine blk_alloc ?_ _)); exact BK230.out) hb); have n1_ := Aside0.mk (below_step (by repeat (first | (with_reducible first | exact HB.out | apply below_alloc | apply pw_below_drewN | apply below_drew1 | refine below_set ?_ GE230.out) | exact HB.out)) hb); clear BK230; clear HB; have BK230 := n0_; have HB := n1_; clear n0_ n1_; (try clear hb); (try clear hb2); (try clear hk); (try clear hi)))
  go_ret2
  exact ⟨by first | rfl | (simp [errW_none, errW_some] <;> rfl) | (simp [*, errW_none, errW_some] <;> rfl), by repeat (first | (with_reducible first | exact HB.out | apply below_alloc | apply pw_below_drewN | apply below_drew1 | refine below_set ?_ GE230.out) | exact HB.out)⟩
/-! ### impl_hexCode: function 35 -/
def impl_hexCode.f (a0_0 : Int) (l0_1 : List Int) : Option (Int) := (impl_HexMover.f a0_0 l0_1).bind fun bt235 => (if bt235.2 = 0 then ((impl_Hex_cells.f a0_0 l0_1 0).bind fun t237 => (if (t237.length : Int) > 9 then (some 3) else (some bt235.2))) else (some bt235.2))
set_option maxHeartbeats 8000000 in
set_option maxRecDepth 100000 in
theorem impl_hexCode.calls (a0_0 : Int) (A0_1 : Option Addr) (c0_1 : Nat) (l0_1 : List Int) (r : Int) (w : World) (hr0_1 : Kd.C (Kd.int .i64) w A0_1 l0_1.length l0_1) (hc0_1 : l0_1.length ≤ c0_1) (h : impl_hexCode.f a0_0 l0_1 = some r) :
  Calls Tryd.prog 35 #[.agg #[.int .i64 a0_0, .slice A0_1 l0_1.length c0_1]] w fun e w' => e = .returned (.int .i64 r) ∧ Below w.heap.size w w' := by
 have hu28 := Tryd.underlying28
 have HR0_1 := Aside0.mk hr0_1
 have HC0_1 := Aside0.mk hc0_1
 clear hr0_1 hc0_1
 have HB := Aside0.mk (Below.refl w.heap.size w)
 have H : ((impl_HexMover.f a0_0 l0_1).bind fun bt235 => (if bt235.2 = 0 then ((impl_Hex_cells.f a0_0 l0_1 0).bind fun t237 => (if (t237.length : Int) > 9 then (some 3) else (some bt235.2))) else (some bt235.2))) = some r := h
 clear h
 replace H := Option.bind_eq_some_iff.mp H
 obtain ⟨⟨t235, t236⟩, A20, H⟩ := H
 replace H : (if t236 = 0 then ((impl_Hex_cells.f a0_0 l0_1 0).bind fun t237 => (if (t237.length : Int) > 9 then (some 3) else (some t236))) else (some t236)) = some r := H
 have A2 := Aside0.mk A20
 clear A20
 by_cases c3 : t236 = 0
 ·rw [if_pos c3] at H
  have c3b0 : (t236 == 0) = true := beq_iff_eq.mpr c3
  have c3b1 : (t236 != 0) = false := bne_eq_false_iff_eq.mpr c3
  clear c3
  replace H := Option.bind_eq_some_iff.mp H
  obtain ⟨t237, A40, H⟩ := H
  replace H : (if (t237.length : Int) > 9 then (some 3) else (some t236)) = some r := H
  have A4 := Aside0.mk A40
  clear A40
  by_cases c5 : (t237.length : Int) > 9
  ·rw [if_pos c5] at H
   have c5b0 : decide (9 < (t237.length : Int)) = true := decide_eq_true c5
   have c5b1 : decide (9 < t237.length) = true := decide_eq_true (by omega)
   clear c5
   obtain rfl := Option.some.inj H
   go_enter Tryd.func35, Tryd.ntmps35
   go_wp2_with (first | ((with_reducible refine gate_dst (N := 1) rfl ?_); (try (refine gate_guard (by rfl) ?_; dsimp only)); refine box_event ?hg (N := 1) ?hd (cs := #[.int .i64 a0_0, .slice A0_1 l0_1.length c0_1]) (t := 28) ?hr ?_; (case hd => rfl); (case hg => rfl); (case hr => first | (go_simp; done) | (go_simp; rfl)); intro gb234 hg w6 hbox hb; have n0_ := Aside0.mk (below_step hb_ hb); have n1_ := Aside0.mk (hbox); have n2_ := Aside0.mk ((by rw [hg]; exact (below_size hb_) : w.heap.size ≤ gb234)); have n3_ := Aside0.mk ((by rw [hg]; exact (below_size hb_) : w.heap.size ≤ gb234)); clear HB; have HB := n0_; have BK234 := n1_; have GW234 := n2_; have GE234 := n3_; clear n0_ n1_ n2_ n3_; clear hb hbox hg; have hcz7_0 : w6.cell? ⟨gb234, 0, none⟩ = some (.int .i64 a0_0) := (blk_cell BK234.out 0).trans rfl; have hcz7_1 : w6.cell? ⟨gb234, 1, none⟩ = some (.slice A0_1 l0_1.length c0_1) := (blk_cell BK234.out 1).trans rfl; have hfz7_0 := blk_frozen BK234.out 0; have hfz7_1 := blk_frozen BK234.out 1) | ((with_reducible refine gate_callee (f := 20) rfl ?_); refine goesA_ (some 7) rfl rfl Tryd.func20 (by kernel_rfl) rfl #[.agg #[.int .i64 a0_0, .slice A0_1 l0_1.length c0_1]] rfl ?_; (with_reducible refine (impl_HexMover.calls a0_0 _ _ l0_1 t235 t236 _ ?side1 ?side2 A2.out).mono ?_); (case side1 => repeat (first | exact (Kd.C_below HR0_1.out HB.out) | (with_reducible refine Kd.C_alloc ?_ _) | (with_reducible refine Kd.C_drewN ?_ _) | (with_reducible refine Kd.C_drew ?_))); (case side2 => exact HC0_1.out); rintro e w8 ⟨rfl, hb⟩; refine ⟨_, rfl, ?_⟩; have n0_ := Aside0.mk (blk_below (g := gb234) (o := .cells #[.int .i64 a0_0, .slice A0_1 l0_1.length c0_1] 28 (0, 0)) (by (with_reducible repeat (first | refine blk_drewN ?_ _ | refine blk_drew ?_ | refine blk_alloc ?_ _)); exact BK234.out) hb); have n1_ := Aside0.mk (below_step (by repeat (first | (with_reducible first | exact HB.out | apply below_alloc | apply pw_below_drewN | apply below_drew1 | refine below_set ?_ GE234.out) | exact HB.out)) hb); clear BK234; clear HB; have BK234 := n0_; have HB := n1_; clear n0_ n1_; (try clear hb); (try clear hb2); (try clear hk); (try clear hi); have hcz9_0 : w8.cell? ⟨gb234, 0, none⟩ = some (.int .i64 a0_0) := (blk_cell BK234.out 0).trans rfl; have hcz9_1 : w8.cell? ⟨gb234, 1, none⟩ = some (.slice A0_1 l0_1.length c0_1) := (blk_cell BK234.out 1).trans rfl; have hfz9_0 := blk_frozen BK234.out 0; have hfz9_1 := blk_frozen BK234.out 1) | (go_at_call 40; (with_reducible refine (impl_Hex_cells.calls a0_0 _ _ l0_1 0 t237 _ ?side1 ?side2 A4.out).mono ?_); (case side1 => repeat (first | exact (Kd.C_below HR0_1.out HB.out) | (with_reducible refine Kd.C_alloc ?_ _) | (with_reducible refine Kd.C_drewN ?_ _) | (with_reducible refine Kd.C_drew ?_))); (case side2 => exact HC0_1.out); rintro e w10 ⟨v238, rfl, ho0, hb⟩; have n0_ := Aside0.mk (Kd.R_lower ho0 (below_size (by repeat (first | (with_reducible first | exact HB.out | apply below_alloc | apply pw_below_drewN | apply below_drew1 | refine below_set ?_ GE234.out) | exact HB.out)))); have n1_ := Aside0.mk (blk_below (g := gb234) (o := .cells #[.int .i64 a0_0, .slice A0_1 l0_1.length c0_1] 28 (0, 0)) (by (with_reducible repeat (first | refine blk_drewN ?_ _ | refine blk_drew ?_ | refine blk_alloc ?_ _)); exact BK234.out) hb); have n2_ := Aside0.mk (below_step (by repeat (first | (with_reducible first | exact HB.out | apply below_alloc | apply pw_below_drewN | apply below_drew1 | refine below_set ?_ GE234.out) | exact HB.out)) hb); clear BK234; clear HB; have HO239 := n0_; have BK234 := n1_; have HB := n2_; clear n0_ n1_ n2_; (try clear hb); (try clear hb2); (try clear hk); (try clear hi); (try clear ho0); obtain ⟨Ao11, co11, eo11⟩ := Kd.R_slice HO239.out; subst eo11))
   go_ret
   exact ⟨by first | rfl | (simp [errW_none, errW_some] <;> rfl) | (simp [*, errW_none, errW_some] <;> rfl), by repeat (first | (with_reducible first | exact HB.out | apply below_alloc | apply pw_below_drewN | apply below_drew1 | refine below_set ?_ GE234.out) | exact HB.out)⟩
  ·rw [if_neg c5] at H
   have c5b0 : decide (9 < (t237.length : Int)) = false := decide_eq_false c5
   have c5b1 : decide (9 < t237.length) = false := decide_eq_false (by omega)
   clear c5
   obtain rfl := Option.some.inj H
   go_enter Tryd.func35, Tryd.ntmps35
   go_wp2_with (first | ((with_reducible refine gate_dst (N := 1) rfl ?_); (try (refine gate_guard (by rfl) ?_; dsimp only)); refine box_event ?hg (N := 1) ?hd (cs := #[.int .i64 a0_0, .slice A0_1 l0_1.length c0_1]) (t := 28) ?hr ?_; (case hd => rfl); (case hg => rfl); (case hr => first | (go_simp; done) | (go_simp; rfl)); intro gb234 hg w12 hbox hb; have n0_ := Aside0.mk (below_step hb_ hb); have n1_ := Aside0.mk (hbox); have n2_ := Aside0.mk ((by rw [hg]; exact (below_size hb_) : w.heap.size ≤ gb234)); have n3_ := Aside0.mk ((by rw [hg]; exact (below_size hb_) : w.heap.size ≤ gb234)); clear HB; have HB := n0_; have BK234 := n1_; have GW234 := n2_; have GE234 := n3_; clear n0_ n1_ n2_ n3_; clear hb hbox hg; have hcz13_0 : w12.cell? ⟨gb234, 0, none⟩ = some (.int .i64 a0_0) := (blk_cell BK234.out 0).trans rfl; have hcz13_1 : w12.cell? ⟨gb234, 1, none⟩ = some (.slice A0_1 l0_1.length c0_1) := (blk_cell BK234.out 1).trans rfl; have hfz13_0 := blk_frozen BK234.out 0; have hfz13_1 := blk_frozen BK234.out 1) | ((with_reducible refine gate_callee (f := 20) rfl ?_); refine goesA_ (some 7) rfl rfl Tryd.func20 (by kernel_rfl) rfl #[.agg #[.int .i64 a0_0, .slice A0_1 l0_1.length c0_1]] rfl ?_; (with_reducible refine (impl_HexMover.calls a0_0 _ _ l0_1 t235 t236 _ ?side1 ?side2 A2.out).mono ?_); (case side1 => repeat (first | exact (Kd.C_below HR0_1.out HB.out) | (with_reducible refine Kd.C_alloc ?_ _) | (with_reducible refine Kd.C_drewN ?_ _) | (with_reducible refine Kd.C_drew ?_))); (case side2 => exact HC0_1.out); rintro e w14 ⟨rfl, hb⟩; refine ⟨_, rfl, ?_⟩; have n0_ := Aside0.mk (blk_below (g := gb234) (o := .cells #[.int .i64 a0_0, .slice A0_1 l0_1.length c0_1] 28 (0, 0)) (by (with_reducible repeat (first | refine blk_drewN ?_ _ | refine blk_drew ?_ | refine blk_alloc ?_ _)); exact BK234.out) hb); have n1_ := Aside0.mk (below_step (by repeat (first | (with_reducible first | exact HB.out | apply below_alloc | apply pw_below_drewN | apply below_drew1 | refine below_set ?_ GE234.out) | exact HB.out)) hb); clear BK234; clear HB; have BK234 := n0_; have HB := n1_; clear n0_ n1_; (try clear hb); (try clear hb2); (try clear hk); (try clear hi); have hcz15_0 : w14.cell? ⟨gb234, 0, none⟩ = some (.int .i64 a0_0) := (blk_cell BK234.out 0).trans rfl; have hcz15_1 : w14.cell? ⟨gb234, 1, none⟩ = some (.slice A0_1 l0_1.length c0_1) := (blk_cell BK234.out 1).trans rfl; have hfz15_0 := blk_frozen BK234.out 0; have hfz15_1 := blk_frozen BK234.out 1) | (go_at_call 40; (with_reducible refine (impl_Hex_cells.calls a0_0 _ _ l0_1 0 t237 _ ?side1 ?side2 A4.out).mono ?_); (case side1 => repeat (first | exact (Kd.C_below HR0_1.out HB.out) | (with_reducible refine Kd.C_alloc ?_ _) | (with_reducible refine Kd.C_drewN ?_ _) | (with_reducible refine Kd.C_drew ?_))); (case side2 => exact HC0_1.out); rintro e w16 ⟨v238, rfl, ho0, hb⟩; have n0_ := Aside0.mk (Kd.R_lower ho0 (below_size (by repeat (first | (with_reducible first | exact HB.out | apply below_alloc | apply pw_below_drewN | apply below_drew1 | refine below_set ?_ GE234.out) | exact HB.out)))); have n1_ := Aside0.mk (blk_below (g := gb234) (o := .cells #[.int .i64 a0_0, .slice A0_1 l0_1.length c0_1] 28 (0, 0)) (by (with_reducible repeat (first | refine blk_drewN ?_ _ | refine blk_drew ?_ | refine blk_alloc ?_ _)); exact BK234.out) hb); have n2_ := Aside0.mk (below_step (by repeat (first | (with_reducible first | exact HB.out | apply below_alloc | apply pw_below_drewN | apply below_drew1 | refine below_set ?_ GE234.out) | exact HB.out)) hb); clear BK234; clear HB; have HO239 := n0_; have BK234 := n1_; have HB := n2_; clear n0_ n1_ n2_; (try clear hb); (try clear hb2); (try clear hk); (try clear hi); (try clear ho0); obtain ⟨Ao17, co17, eo17⟩ := Kd.R_slice HO239.out; subst eo17))
   go_ret
   exact ⟨by first | rfl | (simp [errW_none, errW_some] <;> rfl) | (simp [*, errW_none, errW_some] <;> rfl), by repeat (first | (with_reducible first | exact HB.out | apply below_alloc | apply pw_below_drewN | apply below_drew1 | refine below_set ?_ GE234.out) | exact HB.out)⟩
 ·rw [if_neg c3] at H
  have c3b0 : (t236 == 0) = false := beq_eq_false_iff_ne.mpr c3
  have c3b1 : (t236 != 0) = true := bne_iff_ne.mpr c3
  obtain rfl := Option.some.inj H
  go_enter Tryd.func35, Tryd.ntmps35
  go_wp2_with (first | ((with_reducible refine gate_dst (N := 1) rfl ?_); (try (refine gate_guard (by rfl) ?_; dsimp only)); refine box_event ?hg (N := 1) ?hd (cs := #[.int .i64 a0_0, .slice A0_1 l0_1.length c0_1]) (t := 28) ?hr ?_; (case hd => rfl); (case hg => rfl); (case hr => first | (go_simp; done) | (go_simp; rfl)); intro gb234 hg w18 hbox hb; have n0_ := Aside0.mk (below_step hb_ hb); have n1_ := Aside0.mk (hbox); have n2_ := Aside0.mk ((by rw [hg]; exact (below_size hb_) : w.heap.size ≤ gb234)); have n3_ := Aside0.mk ((by rw [hg]; exact (below_size hb_) : w.heap.size ≤ gb234)); clear HB; have HB := n0_; have BK234 := n1_; have GW234 := n2_; have GE234 := n3_; clear n0_ n1_ n2_ n3_; clear hb hbox hg; have hcz19_0 : w18.cell? ⟨gb234, 0, none⟩ = some (.int .i64 a0_0) := (blk_cell BK234.out 0).trans rfl; have hcz19_1 : w18.cell? ⟨gb234, 1, none⟩ = some (.slice A0_1 l0_1.length c0_1) := (blk_cell BK234.out 1).trans rfl; have hfz19_0 := blk_frozen BK234.out 0; have hfz19_1 := blk_frozen BK234.out 1) | ((with_reducible refine gate_callee (f := 20) rfl ?_); refine goesA_ (some 7) rfl rfl Tryd.func20 (by kernel_rfl) rfl #[.agg #[.int .i64 a0_0, .slice A0_1 l0_1.length c0_1]] rfl ?_; (with_reducible refine (impl_HexMover.calls a0_0 _ _ l0_1 t235 t236 _ ?side1 ?side2 A2.out).mono ?_); (case side1 => repeat (first | exact (Kd.C_below HR0_1.out HB.out) | (with_reducible refine Kd.C_alloc ?_ _) | (with_reducible refine Kd.C_drewN ?_ _) | (with_reducible refine Kd.C_drew ?_))); (case side2 => exact HC0_1.out); rintro e w20 ⟨rfl, hb⟩; refine ⟨_, rfl, ?_⟩; have n0_ := Aside0.mk (blk_below (g := gb234) (o := .cells #[.int .i64 a0_0, .slice A0_1 l0_1.length c0_1] 28 (0, 0)) (by (with_reducible repeat (first | refine blk_drewN ?_ _ | refine blk_drew ?_ | refine blk_alloc ?_ _)); exact BK234.out) hb); have n1_ := Aside0.mk (below_step (by repeat (first | (with_reducible first | exact HB.out | apply below_alloc | apply pw_below_drewN | apply below_drew1 | refine below_set ?_ GE234.out) | exact HB.out)) hb); clear BK234; clear HB; have BK234 := n0_; have HB := n1_; clear n0_ n1_; (try clear hb); (try clear hb2); (try clear hk); (try clear hi)))
  go_ret
  exact ⟨by first | rfl | (simp [errW_none, errW_some] <;> rfl) | (simp [*, errW_none, errW_some] <;> rfl), by repeat (first | (with_reducible first | exact HB.out | apply below_alloc | apply pw_below_drewN | apply below_drew1 | refine below_set ?_ GE234.out) | exact HB.out)⟩
/-! ### slices_Clone_int64_int64: function 48 -/
-- EXTERNAL: by hand
def slices_Clone_int64_int64.f (l0 : List Int) : Option (List Int) := if l0.length ≤ 17592186044416 then some l0 else none
set_option maxHeartbeats 2000000 in
set_option maxRecDepth 100000 in
theorem slices_Clone_int64_int64.calls (A0 : Option Addr) (c0 : Nat) (l0 : List Int) (r : List Int) (w : World) (hr0 : Kd.C (Kd.int .i64) w A0 l0.length l0) (hc0 : l0.length ≤ c0) (h : slices_Clone_int64_int64.f l0 = some r) :
    Calls Tryd.prog 48 #[.slice A0 l0.length c0] w fun e w' => ∃ v0_ : Value, e = .returned v0_ ∧ Kd.R (Kd.int .i64) 2 w' w.heap.size (fun _ => True) v0_ r ∧ Below w.heap.size w w' := by
  unfold slices_Clone_int64_int64.f at h
  by_cases hl : l0.length ≤ 17592186044416
  · rw [if_pos hl] at h
    obtain rfl := Option.some.inj h
    clear h
    have HB := Aside0.mk (Below.refl w.heap.size w)
    have HR := Aside0.mk hr0
    clear hr0
    cases A0 with
    | none =>
      have h0 : l0.length = 0 := by
        rcases Nat.eq_zero_or_pos l0.length with h | h
        · exact h
        · obtain ⟨ad, _, e, _⟩ := Kd.C_get HR.out 0 0 (by omega) (by omega)
          cases e
      have hl0 : l0 = [] := List.eq_nil_of_length_eq_zero h0
      subst hl0
      have hE := fun W => Lib.run_eql_slice_nil (P := Tryd.prog) W 22 2 none 0 c0 0 0 Tryd.underlying22
      go_enter Tryd.func48, Tryd.ntmps48
      go_wp2_with fail
      go_ret
      exact ⟨_, rfl, Kd.R_nil _ _ _ _ _, HB.out⟩
    | some ad =>
      obtain ⟨n, hn⟩ : ∃ n, n = l0.length := ⟨_, rfl⟩
      rw [← hn] at HR hc0 hl ⊢
      have HN := Aside0.mk hn
      have HL := Aside0.mk hl
      clear hn hl
      go_enter Tryd.func48, Tryd.ntmps48
      have hE := fun W => Lib.run_eql_slice_nil (P := Tryd.prog) W 22 2 (some ad) n c0 0 0 Tryd.underlying22
      go_wp2_with (first | ((with_reducible refine gate_dst (N := 5) rfl ?_); refine Kd.R_lit (Kd.int .i64) _ 2 ?hg (N := 5) ?hd (xs := ([] : List Int)) (inner := []) (ok := fun _ => True) (okp := fun _ => True) ?hr ?hp (fun _ hk => hk) trivial (Below.refl _ _) (Nat.le_refl _) (by simp) ?_; (case hd => rfl); (case hg => rfl); (case hr => first | (go_simp; done) | (go_simp; rfl)); (case hp => exact Reps.none _ _); intro v1 w1 ho hb hg_ hnew_; clear hg_ hnew_; obtain ⟨A5, c5, e5⟩ := Kd.R_slice ho; subst e5; have n1_ := Aside0.mk ho; have n2_ := Aside0.mk hb; clear ho hb) | ((with_reducible refine gate_builtin (b := .append) (xs := #[.tmp 5, .tmp 6]) rfl ?_); at_builtin; refine Kd.R_append_row (Value.int .i64) (0 : Int) (w0 := w) w.heap.size rfl (.tmp 5) (.tmp 6) 22 2 (.int .i64 0) 8 rfl Tryd.underlying22 info2 rfl (by omega) _ [] l0 (some ad) n c0 (fun _ => True) rfl rfl (fun _ _ => trivial) n1_.out (Kd.C_below HR.out n2_.out) n2_.out (below_size n2_.out) ?hl ?_; (case hl => have := HL.out; rw [List.length_nil]; omega); intro v3 w3 ho hb hg hat; rw [List.nil_append] at ho; have n3_ := Aside0.mk ho; have n4_ := Aside0.mk hb; clear ho hb hg hat))
      go_ret
      exact ⟨_, rfl, n3_.out, n4_.out⟩
  · rw [if_neg hl] at h
    cases h
/-! ### impl_Hex_with: function 42 -/
def impl_Hex_with.f (a0_0 : Int) (l0_1 : List Int) (a1 : Int) (a2 : Int) : Option (Int × List Int) := (slices_Clone_int64_int64.f l0_1).bind fun t242 => (if 0 ≤ a1 then (if a1 < (t242.length : Int) then (some (a0_0, (t242.set (a1 : Int).toNat a2))) else (none)) else (none))
set_option maxHeartbeats 8000000 in
set_option maxRecDepth 100000 in
theorem impl_Hex_with.calls (a0_0 : Int) (A0_1 : Option Addr) (c0_1 : Nat) (l0_1 : List Int) (a1 : Int) (a2 : Int) (r1 : Int) (r2 : List Int) (w : World) (hr0_1 : Kd.C (Kd.int .i64) w A0_1 l0_1.length l0_1) (hc0_1 : l0_1.length ≤ c0_1) (h : impl_Hex_with.f a0_0 l0_1 a1 a2 = some (r1, r2)) :
  Calls Tryd.prog 42 #[.agg #[.int .i64 a0_0, .slice A0_1 l0_1.length c0_1], .int .i64 a1, .int .i64 a2] w fun e w' => ∃ v1_ : Value, e = .returned (.agg #[.int .i64 r1, v1_]) ∧ Kd.R (Kd.int .i64) 2 w' w.heap.size (fun _ => True) v1_ r2 ∧ Below w.heap.size w w' := by
 have hu28 := Tryd.underlying28
 have HR0_1 := Aside0.mk hr0_1
 have HC0_1 := Aside0.mk hc0_1
 clear hr0_1 hc0_1
 have HB := Aside0.mk (Below.refl w.heap.size w)
 have H : ((slices_Clone_int64_int64.f l0_1).bind fun t242 => (if 0 ≤ a1 then (if a1 < (t242.length : Int) then (some (a0_0, (t242.set (a1 : Int).toNat a2))) else (none)) else (none))) = some (r1, r2) := h
 clear h
 replace H := Option.bind_eq_some_iff.mp H
 obtain ⟨t242, A40, H⟩ := H
 replace H : (if 0 ≤ a1 then (if a1 < (t242.length : Int) then (some (a0_0, (t242.set (a1 : Int).toNat a2))) else (none)) else (none)) = some (r1, r2) := H
 have A4 := Aside0.mk A40
 clear A40
 by_cases c5 : 0 ≤ a1
 ·rw [if_pos c5] at H
  have c5b0 : decide (0 ≤ a1) = true := decide_eq_true c5
  clear c5
  by_cases c6 : a1 < (t242.length : Int)
  ·rw [if_pos c6] at H
   have c6b0 : decide (a1 < (t242.length : Int)) = true := decide_eq_true c6
   clear c6
   obtain ⟨y245, hy245⟩ : ∃ y_ : List Int, y_ = (t242.set (a1 : Int).toNat a2) := ⟨_, rfl⟩
   replace H : (some (a0_0, y245)) = some (r1, r2) := by first | (rw [hy245]; with_reducible exact H) | (have H2_ := (Option.bind_some _ _).symm.trans H; rw [hy245]; with_reducible exact H2_) | (have H2_ := (Option.bind_some _ _).symm.trans H; with_reducible exact H2_) | with_reducible exact H | (rw [hy245]; exact H) | exact H
   have Ny245 := Aside0.mk hy245
   clear hy245
   simp only [Option.some.injEq, Prod.mk.injEq] at H
   obtain ⟨rfl, rfl⟩ := H
   go_enter Tryd.func42, Tryd.ntmps42
   go_wp2_with (first | ((with_reducible refine gate_dst (N := 3) rfl ?_); refine box_event ?hg (N := 3) ?hd (cs := #[.int .i64 a0_0, .slice A0_1 l0_1.length c0_1]) (t := 28) ?hr ?_; (case hd => rfl); (case hg => rfl); (case hr => first | (go_simp; done) | (go_simp; rfl)); intro gb240 hg w8 hbox hb; have n0_ := Aside0.mk (below_step hb_ hb); have n1_ := Aside0.mk (hbox); have n2_ := Aside0.mk ((by rw [hg]; exact (below_size hb_) : w.heap.size ≤ gb240)); have n3_ := Aside0.mk ((by rw [hg]; exact (below_size hb_) : w.heap.size ≤ gb240)); clear HB; have HB := n0_; have BK240 := n1_; have GW240 := n2_; have GE240 := n3_; clear n0_ n1_ n2_ n3_; clear hb hbox hg) | ((with_reducible refine gate_dst (N := 6) rfl ?_); refine box_event ?hg (N := 6) ?hd (cs := #[.int .i64 0, .slice none 0 0]) (t := 28) ?hr ?_; (case hd => rfl); (case hg => rfl); (case hr => first | (go_simp; done) | (go_simp; rfl)); intro gb241 hg w9 hbox hb; have n0_ := Aside0.mk (blk_below (g := gb240) (o := .cells #[.int .i64 a0_0, .slice A0_1 l0_1.length c0_1] 28 (0, 0)) (by (with_reducible repeat (first | refine blk_drewN ?_ _ | refine blk_drew ?_ | refine blk_alloc ?_ _)); exact BK240.out) hb); have n1_ := Aside0.mk (below_step (by repeat (first | (with_reducible first | exact HB.out | apply below_alloc | apply pw_below_drewN | apply below_drew1 | refine below_set ?_ GE240.out) | exact HB.out)) hb); have n2_ := Aside0.mk (hbox); have n3_ := Aside0.mk ((by rw [hg]; exact (below_size (by repeat (first | (with_reducible first | exact HB.out | apply below_alloc | apply pw_below_drewN | apply below_drew1 | refine below_set ?_ GE240.out) | exact HB.out))) : w.heap.size ≤ gb241)); have n4_ := Aside0.mk ((by rw [hg]; exact (below_size (by repeat (first | (with_reducible first | exact HB.out | apply below_alloc | apply pw_below_drewN | apply below_drew1 | refine below_set ?_ GE240.out) | exact HB.out))) : w.heap.size ≤ gb241)); have n5_ := Aside0.mk ((by rw [hg]; exact Nat.ne_of_lt (blk_lt (g := gb240) (o := .cells #[.int .i64 a0_0, .slice A0_1 l0_1.length c0_1] 28 (0, 0)) (by (with_reducible repeat (first | refine blk_drewN ?_ _ | refine blk_drew ?_ | refine blk_alloc ?_ _)); exact BK240.out)) : gb240 ≠ gb241)); have n6_ := Aside0.mk ((by rw [hg]; exact Nat.ne_of_gt (blk_lt (g := gb240) (o := .cells #[.int .i64 a0_0, .slice A0_1 l0_1.length c0_1] 28 (0, 0)) (by (with_reducible repeat (first | refine blk_drewN ?_ _ | refine blk_drew ?_ | refine blk_alloc ?_ _)); exact BK240.out)) : gb241 ≠ gb240)); clear BK240; clear HB; have BK240 := n0_; have HB := n1_; have BK241 := n2_; have GW241 := n3_; have GE241 := n4_; have NB240_241 := n5_; have NB241_240 := n6_; clear n0_ n1_ n2_ n3_ n4_ n5_ n6_; clear hb hbox hg; have hnb10 := NB240_241.out; have hnc10 := NB241_240.out; have hcz11_0 : w9.cell? ⟨gb240, 0, none⟩ = some (.int .i64 a0_0) := (blk_cell BK240.out 0).trans rfl; have hcz11_1 : w9.cell? ⟨gb240, 1, none⟩ = some (.slice A0_1 l0_1.length c0_1) := (blk_cell BK240.out 1).trans rfl; have hfz11_0 := blk_frozen BK240.out 0; have hfz11_1 := blk_frozen BK240.out 1) | ((with_reducible refine gate_callee (f := 48) rfl ?_); refine goesA_ (some 10) rfl rfl Tryd.func48 (by kernel_rfl) rfl #[.slice A0_1 l0_1.length c0_1] rfl ?_; (with_reducible refine (slices_Clone_int64_int64.calls _ _ l0_1 t242 _ ?side1 ?side2 A4.out).mono ?_); (case side1 => repeat (first | exact (Kd.C_below HR0_1.out HB.out) | (with_reducible refine Kd.C_alloc ?_ _) | (with_reducible refine Kd.C_drewN ?_ _) | (with_reducible refine Kd.C_drew ?_))); (case side2 => exact HC0_1.out); rintro e w12 ⟨v243, rfl, ho0, hb⟩; refine ⟨_, rfl, ?_⟩; have n0_ := Aside0.mk (Kd.R_lower ho0 (below_size (by repeat (first | (with_reducible first | exact HB.out | apply below_alloc | apply pw_below_drewN | apply below_drew1 | refine below_set ?_ GE240.out | refine below_set ?_ GE241.out) | exact HB.out)))); have n1_ := Aside0.mk (blk_below (g := gb240) (o := .cells #[.int .i64 a0_0, .slice A0_1 l0_1.length c0_1] 28 (0, 0)) (by (with_reducible repeat (first | refine blk_drewN ?_ _ | refine blk_drew ?_ | refine blk_alloc ?_ _)); exact BK240.out) hb); have n2_ := Aside0.mk (blk_below (g := gb241) (o := .cells #[.int .i64 0, .slice none 0 0] 28 (0, 0)) (by (with_reducible repeat (first | refine blk_drewN ?_ _ | refine blk_drew ?_ | refine blk_alloc ?_ _)); exact BK241.out) hb); have n3_ := Aside0.mk (below_step (by repeat (first | (with_reducible first | exact HB.out | apply below_alloc | apply pw_below_drewN | apply below_drew1 | refine below_set ?_ GE240.out | refine below_set ?_ GE241.out) | exact HB.out)) hb); clear BK240; clear BK241; clear HB; have HO244 := n0_; have BK240 := n1_; have BK241 := n2_; have HB := n3_; clear n0_ n1_ n2_ n3_; (try clear hb); (try clear hb2); (try clear hk); (try clear hi); (try clear ho0); have p7 : 0 ≤ (a1 : Int) := oda; have q7 : (a1 : Int) < ((t242.length : Int) : Int) := oda; obtain ⟨go7, co7, eo7, gb7, gl7, cl7, HG7⟩ := Kd.R_form HO244.out (by omega); (first | cases eo7 | (injection eo7 with ea_ en_ ec_; (first | subst ea_ | (injection ea_ with ea_; subst ea_)); subst ec_; clear en_)); have GB7 := Aside0.mk gb7; have GG7 := Aside0.mk HG7; clear gb7 gl7 HG7; obtain ⟨hx7_0, hf7_0⟩ := Kd.R_celln 0 HO244.out (a1 : Int) p7 q7; replace p7 := eq_true p7; replace q7 := eq_true q7; obtain ⟨hy13_, hz13_⟩ := Kd.R_celln 0 HO244.out (a1 : Int) (oda) (oda); have HP13 := Kd.R_putg HO244.out (a1 : Int) a2) | ((with_reducible refine gate_store (t := 2) (p := 14) rfl ?_); refine store_event (t := 2) (p := 14) (v := ?vo_w14) (w1 := (w12.setCell ⟨go7, (a1 : Int).toNat, none⟩ (.int .i64 a2))) ?hg ?ho ?hn ?hr ?_; (case ho => rfl); (case hg => rfl); (case hn => rfl); (case hr => first | (go_simp; done) | (go_simp; rfl)); intro w14 hw; have hg : w12.grownBy w14 (some go7) := (by rw [hw]; exact HP13.2); have hp_ : Kd.R (Kd.int .i64) 2 w14 w.heap.size (fun _ => True) (.slice (some ⟨go7, 0, none⟩) t242.length co7) y245 := (by rw [hw, Ny245.out]; exact HP13.1); clear HP13; have n0_ := Aside0.mk (blk_grown (g := gb240) (o := .cells #[.int .i64 a0_0, .slice A0_1 l0_1.length c0_1] 28 (0, 0)) (by (with_reducible repeat (first | refine blk_drewN ?_ _ | refine blk_drew ?_ | refine blk_alloc ?_ _)); exact BK240.out) hg (Kd.R_ne HO244.out BK240.out (by decide))); have n1_ := Aside0.mk (blk_grown (g := gb241) (o := .cells #[.int .i64 0, .slice none 0 0] 28 (0, 0)) (by (with_reducible repeat (first | refine blk_drewN ?_ _ | refine blk_drew ?_ | refine blk_alloc ?_ _)); exact BK241.out) hg (Kd.R_ne HO244.out BK241.out (by decide))); have n2_ := Aside0.mk (hp_); have n3_ := Aside0.mk ((by rw [hw]; exact below_set (HB.out) GB7.out : Below w.heap.size w w14)); clear BK240; clear BK241; clear HO244; clear HB; have BK240 := n0_; have BK241 := n1_; have HO244 := n2_; have HB := n3_; clear n0_ n1_ n2_ n3_; clear hg hw hp_; have hcz15_0 : w14.cell? ⟨gb240, 0, none⟩ = some (.int .i64 a0_0) := (blk_cell BK240.out 0).trans rfl; have hcz15_1 : w14.cell? ⟨gb240, 1, none⟩ = some (.slice A0_1 l0_1.length c0_1) := (blk_cell BK240.out 1).trans rfl; have hfz15_0 := blk_frozen BK240.out 0; have hfz15_1 := blk_frozen BK240.out 1; have hcz16_0 : w14.cell? ⟨gb241, 0, none⟩ = some (.int .i64 0) := (blk_cell BK241.out 0).trans rfl; have hcz16_1 : w14.cell? ⟨gb241, 1, none⟩ = some (.slice none 0 0) := (blk_cell BK241.out 1).trans rfl; have hfz16_0 := blk_frozen BK241.out 0; have hfz16_1 := blk_frozen BK241.out 1))
   refine bodyPost_ret (results_cell_row rfl _ _ gb241 28 #[.int .i64 a0_0, .slice (some ⟨go7, 0, none⟩) t242.length co7] (0, 0) _ rfl (by (with_reducible repeat (first | refine blk_drewN ?_ _ | refine blk_drew ?_ | refine blk_alloc ?_ _)); refine blk_put (cs := #[.int .i64 a0_0, .slice none 0 0]) ?_ 1 _ rfl; (with_reducible repeat (first | refine blk_drewN ?_ _ | refine blk_drew ?_ | refine blk_alloc ?_ _)); refine blk_put (cs := #[.int .i64 0, .slice none 0 0]) ?_ 0 _ rfl; (with_reducible repeat (first | refine blk_drewN ?_ _ | refine blk_drew ?_ | refine blk_alloc ?_ _)); exact BK241.out) Tryd.underlying28 rfl (by kernel_rfl)) rfl ?_
   exact ⟨_, by first | rfl | (simp [errW_none, errW_some] <;> rfl) | (simp [*, errW_none, errW_some] <;> rfl), by (with_reducible repeat (first | apply Kd.R_alloc | apply Kd.R_drewN | apply Kd.R_drew)); exact Kd.R_mono (Kd.R_far (p := ⟨gb241, 1, none⟩) (Kd.R_far (p := ⟨gb241, 0, none⟩) (Kd.R_types HO244.out BK241.out (by decide)) (fun _ hk => hk.2) (.int .i64 a0_0)) (fun _ hk => hk.2) (.slice (some ⟨go7, 0, none⟩) t242.length co7)) (fun _ hk => trivial), by repeat (first | (with_reducible first | exact HB.out | apply below_alloc | apply pw_below_drewN | apply below_drew1 | refine below_set ?_ GE240.out | refine below_set ?_ GE241.out) | exact HB.out)⟩
  ·rw [if_neg c6] at H
   exact absurd H (by simp)
 ·rw [if_neg c5] at H
  exact absurd H (by simp)
/-! ### impl_bit: function 73 -/
def impl_bit.f (a0 : Bool) : Option (Int) := if a0 = true then (some 1) else (some 0)
set_option maxHeartbeats 8000000 in
set_option maxRecDepth 100000 in
theorem impl_bit.calls (a0 : Bool) (r : Int) (w : World) (h : impl_bit.f a0 = some r) :
  Calls Tryd.prog 73 #[.bool a0] w fun e w' => e = .returned (.int .i64 r) ∧ Drawn0 w w' := by
 have H : (if a0 = true then (some 1) else (some 0)) = some r := h
 clear h
 by_cases c2 : a0 = true
 ·subst c2
  have H1 : (some 1) = some r := by rw [if_pos rfl] at H; exact H
  clear H
  have H := H1
  clear H1
  obtain rfl := Option.some.inj H
  go_enter Tryd.func73, Tryd.ntmps73
  go_wp2
  go_ret
  exact ⟨by first | rfl | (simp; done) | (simp [*]; done), by repeat (first | exact Drawn0.refl _ | apply Drawn0.step)⟩
 ·replace c2 := Bool.eq_false_iff.mpr c2
  subst c2
  have H1 : (some 0) = some r := by rw [if_neg (show ¬ (false = true) by decide)] at H; exact H
  clear H
  have H := H1
  clear H1
  obtain rfl := Option.some.inj H
  go_enter Tryd.func73, Tryd.ntmps73
  go_wp2
  go_ret
  exact ⟨by first | rfl | (simp; done) | (simp [*]; done), by repeat (first | exact Drawn0.refl _ | apply Drawn0.step)⟩
/-! ### impl_Hex_line: function 78 -/
def impl_Hex_line.f (a0_0 : Int) (l0_1 : List Int) (a1 : Int) (a2 : Int) : Option (Int) := if a1 = 1 then (if a0_0 = 0 then (none) else (some (wrap64 (Int.tdiv a2 a0_0)))) else (if a0_0 = 0 then (none) else (some (Int.tmod a2 a0_0)))
set_option maxHeartbeats 8000000 in
set_option maxRecDepth 100000 in
theorem impl_Hex_line.calls (a0_0 : Int) (A0_1 : Option Addr) (c0_1 : Nat) (l0_1 : List Int) (a1 : Int) (a2 : Int) (r : Int) (w : World) (hr0_1 : Kd.C (Kd.int .i64) w A0_1 l0_1.length l0_1) (hc0_1 : l0_1.length ≤ c0_1) (h : impl_Hex_line.f a0_0 l0_1 a1 a2 = some r) :
  Calls Tryd.prog 78 #[.agg #[.int .i64 a0_0, .slice A0_1 l0_1.length c0_1], .int .i64 a1, .int .i64 a2] w fun e w' => e = .returned (.int .i64 r) ∧ Below w.heap.size w w' := by
 have hu28 := Tryd.underlying28
 have HR0_1 := Aside0.mk hr0_1
 have HC0_1 := Aside0.mk hc0_1
 clear hr0_1 hc0_1
 have HB := Aside0.mk (Below.refl w.heap.size w)
 have H : (if a1 = 1 then (if a0_0 = 0 then (none) else (some (wrap64 (Int.tdiv a2 a0_0)))) else (if a0_0 = 0 then (none) else (some (Int.tmod a2 a0_0)))) = some r := h
 clear h
 by_cases c4 : a1 = 1
 ·rw [if_pos c4] at H
  have c4b0 : (a1 == 1) = true := beq_iff_eq.mpr c4
  have c4b1 : (a1 != 1) = false := bne_eq_false_iff_eq.mpr c4
  clear c4
  by_cases c5 : a0_0 = 0
  ·rw [if_pos c5] at H
   exact absurd H (by simp)
  ·rw [if_neg c5] at H
   have c5b0 : (a0_0 == 0) = false := beq_eq_false_iff_ne.mpr c5
   have c5b1 : (a0_0 != 0) = true := bne_iff_ne.mpr c5
   obtain rfl := Option.some.inj H
   go_enter Tryd.func78, Tryd.ntmps78
   go_wp2_with (first | ((with_reducible refine gate_dst (N := 3) rfl ?_); refine box_event ?hg (N := 3) ?hd (cs := #[.int .i64 a0_0, .slice A0_1 l0_1.length c0_1]) (t := 28) ?hr ?_; (case hd => rfl); (case hg => rfl); (case hr => first | (go_simp; done) | (go_simp; rfl)); intro gb246 hg w6 hbox hb; have n0_ := Aside0.mk (below_step hb_ hb); have n1_ := Aside0.mk (hbox); have n2_ := Aside0.mk ((by rw [hg]; exact (below_size hb_) : w.heap.size ≤ gb246)); have n3_ := Aside0.mk ((by rw [hg]; exact (below_size hb_) : w.heap.size ≤ gb246)); clear HB; have HB := n0_; have BK246 := n1_; have GW246 := n2_; have GE246 := n3_; clear n0_ n1_ n2_ n3_; clear hb hbox hg; have hcz7_0 : w6.cell? ⟨gb246, 0, none⟩ = some (.int .i64 a0_0) := (blk_cell BK246.out 0).trans rfl; have hcz7_1 : w6.cell? ⟨gb246, 1, none⟩ = some (.slice A0_1 l0_1.length c0_1) := (blk_cell BK246.out 1).trans rfl; have hfz7_0 := blk_frozen BK246.out 0; have hfz7_1 := blk_frozen BK246.out 1))
   go_ret
   exact ⟨by first | rfl | (simp [errW_none, errW_some] <;> rfl) | (simp [*, errW_none, errW_some] <;> rfl), by repeat (first | (with_reducible first | exact HB.out | apply below_alloc | apply pw_below_drewN | apply below_drew1 | refine below_set ?_ GE246.out) | exact HB.out)⟩
 ·rw [if_neg c4] at H
  have c4b0 : (a1 == 1) = false := beq_eq_false_iff_ne.mpr c4
  have c4b1 : (a1 != 1) = true := bne_iff_ne.mpr c4
  by_cases c8 : a0_0 = 0
  ·rw [if_pos c8] at H
   exact absurd H (by simp)
  ·rw [if_neg c8] at H
   have c8b0 : (a0_0 == 0) = false := beq_eq_false_iff_ne.mpr c8
   have c8b1 : (a0_0 != 0) = true := bne_iff_ne.mpr c8
   obtain rfl := Option.some.inj H
   go_enter Tryd.func78, Tryd.ntmps78
   go_wp2_with (first | ((with_reducible refine gate_dst (N := 3) rfl ?_); refine box_event ?hg (N := 3) ?hd (cs := #[.int .i64 a0_0, .slice A0_1 l0_1.length c0_1]) (t := 28) ?hr ?_; (case hd => rfl); (case hg => rfl); (case hr => first | (go_simp; done) | (go_simp; rfl)); intro gb246 hg w9 hbox hb; have n0_ := Aside0.mk (below_step hb_ hb); have n1_ := Aside0.mk (hbox); have n2_ := Aside0.mk ((by rw [hg]; exact (below_size hb_) : w.heap.size ≤ gb246)); have n3_ := Aside0.mk ((by rw [hg]; exact (below_size hb_) : w.heap.size ≤ gb246)); clear HB; have HB := n0_; have BK246 := n1_; have GW246 := n2_; have GE246 := n3_; clear n0_ n1_ n2_ n3_; clear hb hbox hg; have hcz10_0 : w9.cell? ⟨gb246, 0, none⟩ = some (.int .i64 a0_0) := (blk_cell BK246.out 0).trans rfl; have hcz10_1 : w9.cell? ⟨gb246, 1, none⟩ = some (.slice A0_1 l0_1.length c0_1) := (blk_cell BK246.out 1).trans rfl; have hfz10_0 := blk_frozen BK246.out 0; have hfz10_1 := blk_frozen BK246.out 1))
   go_ret
   exact ⟨by first | rfl | (simp [errW_none, errW_some] <;> rfl) | (simp [*, errW_none, errW_some] <;> rfl), by repeat (first | (with_reducible first | exact HB.out | apply below_alloc | apply pw_below_drewN | apply below_drew1 | refine below_set ?_ GE246.out) | exact HB.out)⟩
-- A literal as a block of its own, and stores into blocks that are new.
section
variable {P : Program} {ops : Array Oper} {rest : List Oper} {o : Oper} {a : Act} {Q : Exit → Act → World → Prop}
theorem lit_event {W : World} (hgd : o.guard = none) {N : Tmp} (_hd : o.dst = some N) {cs : Array Value} {t : TypeId} {n : Nat}
    (hrun : (execOp a.eval o).run P W = .ok (.value (.slice (some ⟨W.heap.size, 0, none⟩) n n)) (W.alloc (.cells cs t (0, 0))))
    (h : ∀ g, g = W.heap.size → ∀ w1, w1.heap[g]? = some (.cells cs t (0, 0)) → Below W.heap.size W w1 → wpList P ops Q rest (a.put o.dst (.slice (some ⟨g, 0, none⟩) n n)) w1) : wpList P ops Q (o :: rest) a W :=
  Kd.event_run hgd hrun (h _ rfl _ (blk_new W _) (below_alloc (Below.refl _ _) _))
end
theorem arr_below {B : Nat} {w W : World} (h : Below B w W) {g : Nat} (hg : B ≤ g) (i : Nat) (u : Value) : Below B w (W.setCell ⟨g, i, none⟩ u) :=
  h.trans ⟨rfl, rfl, rfl, by simp [World.setCell], fun k hk => Below.heap_setCell W ⟨g, i, none⟩ u k (by show k ≠ g; omega)⟩
theorem run_store_func {P : Program} {w : World} {a : Addr} {m : Mode} (f : Fn) (t b : Array Value) : (store a (.func f t b) m).run P w = stored P w a (.func f t b) m := run_store P w a _ m rfl
/-! ### impl_near: function 79 -/
-- EXTERNAL: by hand
def nearDirs : List (Int × Int) := [(-1, 0), (-1, 1), (0, -1), (0, 1), (1, -1), (1, 0)]
def nearOk (n r c : Int) (d : Int × Int) : Bool := inW (wrap64 (r + d.1)) 0 (wrap64 (n - 1)) && inW (wrap64 (c + d.2)) 0 (wrap64 (n - 1))
def nearOne (n r c : Int) (d : Int × Int) : Int := wrap64 (wrap64 (wrap64 (wrap64 (r + d.1) * n) + c) + d.2)
def nearTo (n r c : Int) (l : List (Int × Int)) : List Int := (l.filter (nearOk n r c)).map (nearOne n r c)
def nearV (n cell : Int) : List Int := nearTo n (wrap64 (Int.tdiv cell n)) (Int.tmod cell n) nearDirs
def impl_near.f (a0 a1 : Int) : Option (List Int) := if a0 = 0 then none else some (nearV a0 a1)
theorem nearTo_step (n r c : Int) (k : Nat) (h : k < nearDirs.length) : nearTo n r c (nearDirs.take (k + 1)) = if nearOk n r c nearDirs[k] = true then nearTo n r c (nearDirs.take k) ++ [nearOne n r c nearDirs[k]] else nearTo n r c (nearDirs.take k) := by
  rw [List.take_succ_eq_append_getElem h]
  unfold nearTo
  rw [List.filter_append, List.map_append]
  cases e : nearOk n r c nearDirs[k] <;> simp [e]
theorem nearTo_le (n r c : Int) (l : List (Int × Int)) : (nearTo n r c l).length ≤ l.length := by
  unfold nearTo
  rw [List.length_map]
  exact List.length_filter_le _ _
def impl_near.T1 : Bool × List (List Nat × List Nat) := (true, [([], []), ([], []), ([0, 1], [0, 1]), ([], []), ([], []), ([3, 4], [3, 4]), ([], []), ([2, 0, 1, 2], [2]), ([5, 7, 0, 1, 2, 3, 4, 5, 7], [5]), ([6, 8, 0, 1, 2, 3, 4, 5, 6, 7, 8], [6])])
def impl_near.B1 : List Nat := [0, 0, 3, 0, 0, 24, 0, 7, 191, 511]
theorem impl_near.tab1 : rtab .any (opsOf Tryd.f79 1) = impl_near.T1 := by kernel_rfl
theorem impl_near.bits1 : waitsOk impl_near.T1.2 impl_near.B1 = true := by kernel_rfl
set_option maxHeartbeats 1600000 in
set_option maxRecDepth 100000 in
theorem impl_near.calls (a0 : Int) (a1 : Int) (r : List Int) (w : World) (h : impl_near.f a0 a1 = some r) :
    Calls Tryd.prog 79 #[.int .i64 a0, .int .i64 a1] w fun e w' => ∃ v0_ : Value, e = .returned v0_ ∧ Kd.R (Kd.int .i64) 2 w' w.heap.size (fun _ => True) v0_ r ∧ Below w.heap.size w w' := by
  have HB := Aside0.mk (Below.refl w.heap.size w)
  have c3 : a0 ≠ 0 := fun e => by unfold impl_near.f at h; rw [if_pos e] at h; simp at h
  unfold impl_near.f at h
  rw [if_neg c3] at h
  obtain rfl := Option.some.inj h
  clear h
  unfold nearV
  generalize hrr : wrap64 (Int.tdiv a1 a0) = rr
  generalize hcc : Int.tmod a1 a0 = cc
  have c3b0 : (a0 == 0) = false := beq_eq_false_iff_ne.mpr c3
  have c3b1 : (a0 != 0) = true := bne_iff_ne.mpr c3
  have hu := Tryd.underlying102
  have hcells : Tryd.prog.cellsOf 102 = 2 := by kernel_rfl
  go_enter Tryd.func79, Tryd.ntmps79
  try go_wp2
  have n0_ := Aside0.mk (below_drew1 HB.out)
  clear HB
  have HB := n0_
  clear n0_
  refine start_ (n := 10) (S := fun w' => True) (ds := []) #[false, false, false, false, false, false, false, false, false, false] (by kernel_rfl) rfl rfl trivial (fun hHeld => ?_); refine with_tabW impl_near.tab1 impl_near.bits1 (fun HT_ HW_ => ?_)
  generalize w.drew = w4 at HB hHeld ⊢
  refine pure_ (i := 0) (N := some 10) (v := ?_) (a' := ?_) (flg_ 10 1) rfl rfl (any_of HT_.out (by kernel_rfl)) (fun _ _ _ h => h) (Or.inl ⟨by rfl, ?_⟩) ?_ ?_
  rotate_left
  · intro w'
    go_simp
    with_reducible rfl
  rotate_left
  · simp only [Act.put, sz_, s0_, s1_, i64_w, i32_w]
    rfl
  refine pure_ (i := 1) (N := some 11) (v := ?_) (a' := ?_) (flg_ 10 3) rfl rfl (any_of HT_.out (by kernel_rfl)) (fun _ _ _ h => h) (Or.inl ⟨by rfl, ?_⟩) ?_ ?_
  rotate_left
  · intro w'
    go_simp
    with_reducible rfl
  rotate_left
  · simp only [Act.put, sz_, s0_, s1_, i64_w, i32_w]
    rfl
  refine pure_ (i := 2) (N := some 12) (v := ?_) (a' := ?_) (flg_ 10 7) rfl rfl (any_of HT_.out (by kernel_rfl)) (fun _ _ _ h => h) (Or.inl ⟨by rfl, ?_⟩) ?_ ?_
  rotate_left
  · intro w'
    go_simp
    with_reducible rfl
  rotate_left
  · simp only [Act.put, sz_, s0_, s1_, i64_w, i32_w]
    rfl
  refine pure_ (i := 3) (N := some 13) (v := ?_) (a' := ?_) (flg_ 10 15) rfl rfl (any_of HT_.out (by kernel_rfl)) (fun _ _ _ h => h) (Or.inl ⟨by rfl, ?_⟩) ?_ ?_
  rotate_left
  · intro w'
    go_simp
    with_reducible rfl
  rotate_left
  · simp only [Act.put, sz_, s0_, s1_, i64_w, i32_w]
    rfl
  refine pure_ (i := 4) (N := some 14) (v := ?_) (a' := ?_) (flg_ 10 31) rfl rfl (any_of HT_.out (by kernel_rfl)) (fun _ _ _ h => h) (Or.inl ⟨by rfl, ?_⟩) ?_ ?_
  rotate_left
  · intro w'
    go_simp
    with_reducible rfl
  rotate_left
  · simp only [Act.put, sz_, s0_, s1_, i64_w, i32_w]
    rfl
  refine pure_ (i := 5) (N := some 15) (v := ?_) (a' := ?_) (flg_ 10 63) rfl rfl (any_of HT_.out (by kernel_rfl)) (fun _ _ _ h => h) (Or.inl ⟨by rfl, ?_⟩) ?_ ?_
  rotate_left
  · intro w'
    go_simp
    with_reducible rfl
  rotate_left
  · simp only [Act.put, sz_, s0_, s1_, i64_w, i32_w]
    rfl
  refine pure_ (i := 7) (N := some 5) (v := ?_) (a' := ?_) (flg_ 10 191) rfl rfl (any_of HT_.out (by kernel_rfl)) (fun _ _ _ h => h) (Or.inl ⟨by rfl, ?_⟩) ?_ ?_
  rotate_left
  · intro w'
    go_simp
    with_reducible rfl
  rotate_left
  · simp only [Act.put, sz_, s0_, s1_, i64_w, i32_w]
    rfl
  refine pure_ (i := 8) (N := some 6) (v := ?_) (a' := ?_) (flg_ 10 447) rfl rfl (any_of HT_.out (by kernel_rfl)) (fun _ _ _ h => h) (Or.inl ⟨by rfl, ?_⟩) ?_ ?_
  rotate_left
  · intro w'
    go_simp
    with_reducible rfl
  rotate_left
  · simp only [Act.put, sz_, s0_, s1_, i64_w, i32_w]
    rfl
  refine one_ (i := 6) (N := some 16) (flg_ 10 511) rfl rfl (one_of HT_.out (by kernel_rfl)) (by decide) (fun K hK => ?_)
  refine Kd.R_lit_step (Kd.int .i64) _ 2 ?hg (N := 16) ?hd (xs := ([] : List Int)) (inner := []) (ok := fun _ => True) (okp := fun _ => True) ?hr ?hp (fun _ hk => hk) trivial (Below.refl _ _) (Nat.le_refl _) (by simp) ?_; (case hd => rfl); (case hg => rfl); (case hr => first | (go_simp; done) | (go_simp; rfl)); (case hp => exact (Reps.none _ _))
  intro v0 w5 ho hb hg_ hnew_
  clear hg_ hnew_
  have HO0 := Aside0.mk (Kd.R_lower ho (below_size HB.out))
  have n1_ := Aside0.mk (below_step HB.out hb)
  clear HB hb ho
  have HB := n1_
  clear n1_
  refine hK.out _ _ trivial (fun hHeld => ?_)
  clear hK K
  refine norm_ (a' := ?_) ?_ ?_
  rotate_left
  · show Act.put _ (some 16) _ = _
    simp only [Act.put, sz_, s0_, s1_, i64_w, i32_w]
    rfl
  refine pure_ (i := 9) (N := some 7) (v := ?_) (a' := ?_) (flg_ 10 1023) rfl rfl (any_of HT_.out (by kernel_rfl)) (fun _ _ _ h => h) (Or.inl ⟨by rfl, ?_⟩) ?_ ?_
  rotate_left
  · intro w'
    go_simp
    with_reducible rfl
  rotate_left
  · simp only [Act.put, sz_, s0_, s1_, i64_w, i32_w]
    rfl
  refine done_ (done_of HT_.out (by kernel_rfl)) ?_
  (try rw [hrr]); (try rw [hcc])
  have HS0 := Aside0.mk (below_size HB.out)
  go_wp2_with (first | ((with_reducible refine gate_dst (N := 23) rfl ?_); refine lit_event ?hg (N := 23) ?hd (cs := #[.int .i64 (-1), .int .i64 (0), .int .i64 (-1), .int .i64 (1), .int .i64 (0), .int .i64 (-1), .int .i64 (0), .int .i64 (1), .int .i64 (1), .int .i64 (-1), .int .i64 (1), .int .i64 (0)]) (t := 102) (n := 6) ?hr ?_; (case hd => rfl); (case hg => rfl); (case hr => first | (go_simp; done) | (go_simp; rfl)); intro g1 hg1 w6 hbox hb; have HX := Aside0.mk hbox; have HO1 := Aside0.mk (Kd.R_below (Kd.R_elderB HO0.out g1 (by omega)) hb); have HB1 := Aside0.mk (below_step HB.out hb); have HG := Aside0.mk (show w.heap.size ≤ g1 by have := HS0.out; omega); clear hb hbox hg1))
  go_loopg [7, 25] 6 (fun gg s7 s25 wr => ∃ kk : Nat, kk ≤ 6 ∧ 6 - kk ≤ gg ∧ s25 = .int .i64 kk ∧ Aside0 (Kd.R (Kd.int .i64) 2 wr w.heap.size (fun k => True ∧ k ≠ g1) s7 (nearTo a0 rr cc (nearDirs.take kk))) ∧ Aside0 (wr.heap[g1]? = some (.cells #[.int .i64 (-1), .int .i64 (0), .int .i64 (-1), .int .i64 (1), .int .i64 (0), .int .i64 (-1), .int .i64 (0), .int .i64 (1), .int .i64 (1), .int .i64 (-1), .int .i64 (1), .int .i64 (0)] 102 (0, 0))) ∧ Aside0 (Below w.heap.size w wr))
  case atStart => exact ⟨0, by omega, by omega, rfl, ⟨HO1.out⟩, ⟨HX.out⟩, ⟨HB1.out⟩⟩
  case round =>
    obtain ⟨kk, hkk, hgg, rfl, HO, HX, HB⟩ := hrel
    clear HO0 HO1 HB1 HS0
    by_cases hlt : kk < 6
    · have hltz : (kk : Int) < 6 := by omega
      have hc0 : wr.cell? ⟨g1, kk * 2, none⟩ = some (.int .i64 (nearDirs[kk]'hlt).1) := (blk_cell HX.out _).trans (by rcases kk with _ | _ | _ | _ | _ | _ | _ <;> first | rfl | omega)
      have hc1 : wr.cell? ⟨g1, kk * 2 + 1, none⟩ = some (.int .i64 (nearDirs[kk]'hlt).2) := (blk_cell HX.out _).trans (by rcases kk with _ | _ | _ | _ | _ | _ | _ <;> first | rfl | omega)
      have HN := Aside0.mk (nearTo_step a0 rr cc kk hlt)
      generalize nearDirs[kk]'hlt = d at hc0 hc1 HN
      obtain ⟨dy, dx⟩ := d
      have HL := Aside0.mk (Nat.le_trans (nearTo_le a0 rr cc (nearDirs.take kk)) (by rw [List.length_take]; exact Nat.min_le_left _ _ : (nearDirs.take kk).length ≤ kk))
      have HWY := fun W => within_run (wrap64 (rr + dy)) 0 (wrap64 (a0 - 1)) W
      have HWX := fun W => within_run (wrap64 (cc + dx)) 0 (wrap64 (a0 - 1)) W
      have HNo := Aside0.mk (show nearOk a0 rr cc (dy, dx) = (inW (wrap64 (rr + dy)) 0 (wrap64 (a0 - 1)) && inW (wrap64 (cc + dx)) 0 (wrap64 (a0 - 1))) from rfl)
      generalize nearTo a0 rr cc (nearDirs.take kk) = xs at HO HN HL
      generalize inW (wrap64 (rr + dy)) 0 (wrap64 (a0 - 1)) = by_ at HWY HNo
      generalize inW (wrap64 (cc + dx)) 0 (wrap64 (a0 - 1)) = bx_ at HWX HNo
      cases by_ with
      | false =>
        have HE := Aside0.mk (show nearTo a0 rr cc (nearDirs.take (kk + 1)) = xs by rw [HN.out, if_neg (by rw [HNo.out]; simp)])
        clear HWX HN HNo
        go_wp2_with (first | ((with_reducible refine gate_dst (N := 9) rfl ?_); refine box_event ?hg (N := 9) ?hd (cs := #[.int .i64 0, .int .i64 0]) (t := 102) ?hr ?_; (case hd => rfl); (case hg => rfl); (case hr => first | (go_simp; done) | (go_simp; rfl)); intro g9 hg9 w7 hbox hb; have hd0 : w7.cell? ⟨g9, 0, none⟩ = some (.int .i64 0) := (blk_cell hbox 0).trans rfl; have hd1 : w7.cell? ⟨g9, 1, none⟩ = some (.int .i64 0) := (blk_cell hbox 1).trans rfl; have hf0 : w7.frozen? ⟨g9, 0, none⟩ = false := blk_frozen hbox 0; have hf1 : (w7.setCell ⟨g9, 0, none⟩ (.int .i64 dy)).frozen? ⟨g9, 1, none⟩ = false := blk_frozen (blk_set hbox 0 _) 1; have HY0 := Aside0.mk hbox; have HX7 := Aside0.mk (blk_below HX.out hb); have HO7 := Aside0.mk (Kd.R_below (Kd.R_elderB HO.out g9 (by omega)) hb); have HG9 := Aside0.mk (show w.heap.size ≤ g9 by have := below_size HB.out; omega); have HG19 := Aside0.mk (show g1 ≠ g9 by have := blk_lt HX.out; omega); have HB7 := Aside0.mk (below_step HB.out hb); clear hb hbox hg9 hc0 hc1) | ((with_reducible refine gate_store (t := 102) (p := 9) rfl ?_); refine store_event (t := 102) (p := 9) (v := .tmp 28) (w1 := ((w7.setCell ⟨g9, 0, none⟩ (.int .i64 dy)).setCell ⟨g9, 1, none⟩ (.int .i64 dx))) ?hg ?ho ?hn ?hr ?_; (case ho => rfl); (case hg => rfl); (case hn => rfl); (case hr => first | (go_simp; done) | (go_simp; rfl)); intro w8 hw8; have HY := Aside0.mk (show w8.heap[g9]? = some (.cells #[.int .i64 dy, .int .i64 dx] 102 (0, 0)) by rw [hw8]; exact blk_put (blk_put HY0.out 0 _ rfl) 1 _ rfl); have t1_ := blk_far (p := ⟨g9, 1, none⟩) (blk_far (p := ⟨g9, 0, none⟩) HX7.out HG19.out (.int .i64 dy)) HG19.out (.int .i64 dx); rw [← hw8] at t1_; have HX8 := Aside0.mk t1_; clear t1_; have t1_ := Kd.R_far (p := ⟨g9, 1, none⟩) (Kd.R_far (p := ⟨g9, 0, none⟩) HO7.out (fun _ hk => hk.2) (.int .i64 dy)) (fun _ hk => hk.2) (.int .i64 dx); rw [← hw8] at t1_; have HO8 := Aside0.mk t1_; clear t1_; have HB8 := Aside0.mk (show Below w.heap.size w w8 by rw [hw8]; exact arr_below (arr_below HB7.out HG9.out _ _) HG9.out _ _); have hc2 : w8.cell? ⟨g9, 0, none⟩ = some (.int .i64 dy) := (blk_cell HY.out 0).trans rfl; have hc3 : w8.cell? ⟨g9, 1, none⟩ = some (.int .i64 dx) := (blk_cell HY.out 1).trans rfl; clear hw8 hd0 hd1 hf0 hf1) | (go_at_call 66; (with_reducible refine (HWY _).mono ?_); rintro e w9 ⟨rfl, ⟨nd9, rfl⟩⟩))
        go_roundg (6 - (kk + 1))
        case measure => omega
        case rel => exact ⟨kk + 1, by omega, by omega, by go_num, ⟨by rw [HE.out]; exact Kd.R_drewN (Kd.R_mono HO8.out (fun _ hk => hk.1)) _⟩, ⟨blk_drewN HX8.out _⟩, ⟨pw_below_drewN HB8.out _⟩⟩
      | true =>
        cases bx_ with
        | false =>
          have HE := Aside0.mk (show nearTo a0 rr cc (nearDirs.take (kk + 1)) = xs by rw [HN.out, if_neg (by rw [HNo.out]; simp)])
          clear HN HNo
          go_wp2_with (first | ((with_reducible refine gate_dst (N := 9) rfl ?_); refine box_event ?hg (N := 9) ?hd (cs := #[.int .i64 0, .int .i64 0]) (t := 102) ?hr ?_; (case hd => rfl); (case hg => rfl); (case hr => first | (go_simp; done) | (go_simp; rfl)); intro g9 hg9 w7 hbox hb; have hd0 : w7.cell? ⟨g9, 0, none⟩ = some (.int .i64 0) := (blk_cell hbox 0).trans rfl; have hd1 : w7.cell? ⟨g9, 1, none⟩ = some (.int .i64 0) := (blk_cell hbox 1).trans rfl; have hf0 : w7.frozen? ⟨g9, 0, none⟩ = false := blk_frozen hbox 0; have hf1 : (w7.setCell ⟨g9, 0, none⟩ (.int .i64 dy)).frozen? ⟨g9, 1, none⟩ = false := blk_frozen (blk_set hbox 0 _) 1; have HY0 := Aside0.mk hbox; have HX7 := Aside0.mk (blk_below HX.out hb); have HO7 := Aside0.mk (Kd.R_below (Kd.R_elderB HO.out g9 (by omega)) hb); have HG9 := Aside0.mk (show w.heap.size ≤ g9 by have := below_size HB.out; omega); have HG19 := Aside0.mk (show g1 ≠ g9 by have := blk_lt HX.out; omega); have HB7 := Aside0.mk (below_step HB.out hb); clear hb hbox hg9 hc0 hc1) | ((with_reducible refine gate_store (t := 102) (p := 9) rfl ?_); refine store_event (t := 102) (p := 9) (v := .tmp 28) (w1 := ((w7.setCell ⟨g9, 0, none⟩ (.int .i64 dy)).setCell ⟨g9, 1, none⟩ (.int .i64 dx))) ?hg ?ho ?hn ?hr ?_; (case ho => rfl); (case hg => rfl); (case hn => rfl); (case hr => first | (go_simp; done) | (go_simp; rfl)); intro w8 hw8; have HY := Aside0.mk (show w8.heap[g9]? = some (.cells #[.int .i64 dy, .int .i64 dx] 102 (0, 0)) by rw [hw8]; exact blk_put (blk_put HY0.out 0 _ rfl) 1 _ rfl); have t1_ := blk_far (p := ⟨g9, 1, none⟩) (blk_far (p := ⟨g9, 0, none⟩) HX7.out HG19.out (.int .i64 dy)) HG19.out (.int .i64 dx); rw [← hw8] at t1_; have HX8 := Aside0.mk t1_; clear t1_; have t1_ := Kd.R_far (p := ⟨g9, 1, none⟩) (Kd.R_far (p := ⟨g9, 0, none⟩) HO7.out (fun _ hk => hk.2) (.int .i64 dy)) (fun _ hk => hk.2) (.int .i64 dx); rw [← hw8] at t1_; have HO8 := Aside0.mk t1_; clear t1_; have HB8 := Aside0.mk (show Below w.heap.size w w8 by rw [hw8]; exact arr_below (arr_below HB7.out HG9.out _ _) HG9.out _ _); have hc2 : w8.cell? ⟨g9, 0, none⟩ = some (.int .i64 dy) := (blk_cell HY.out 0).trans rfl; have hc3 : w8.cell? ⟨g9, 1, none⟩ = some (.int .i64 dx) := (blk_cell HY.out 1).trans rfl; clear hw8 hd0 hd1 hf0 hf1) | (go_at_call 66; (with_reducible refine (HWY _).mono ?_); rintro e w9 ⟨rfl, ⟨nd9, rfl⟩⟩) | (go_at_call 66; (with_reducible refine (HWX _).mono ?_); rintro e w10 ⟨rfl, ⟨nd10, rfl⟩⟩))
          go_roundg (6 - (kk + 1))
          case measure => omega
          case rel => exact ⟨kk + 1, by omega, by omega, by go_num, ⟨by rw [HE.out]; exact Kd.R_drewN (Kd.R_mono HO8.out (fun _ hk => hk.1)) _⟩, ⟨blk_drewN HX8.out _⟩, ⟨pw_below_drewN HB8.out _⟩⟩
        | true =>
          have HE := Aside0.mk (show nearTo a0 rr cc (nearDirs.take (kk + 1)) = xs ++ [(wrap64 (wrap64 (wrap64 (wrap64 (rr + dy) * a0) + cc) + dx))] by rw [HN.out, if_pos (by rw [HNo.out]; simp)]; rfl)
          clear HN HNo
          go_wp2_with (first | ((with_reducible refine gate_dst (N := 9) rfl ?_); refine box_event ?hg (N := 9) ?hd (cs := #[.int .i64 0, .int .i64 0]) (t := 102) ?hr ?_; (case hd => rfl); (case hg => rfl); (case hr => first | (go_simp; done) | (go_simp; rfl)); intro g9 hg9 w7 hbox hb; have hd0 : w7.cell? ⟨g9, 0, none⟩ = some (.int .i64 0) := (blk_cell hbox 0).trans rfl; have hd1 : w7.cell? ⟨g9, 1, none⟩ = some (.int .i64 0) := (blk_cell hbox 1).trans rfl; have hf0 : w7.frozen? ⟨g9, 0, none⟩ = false := blk_frozen hbox 0; have hf1 : (w7.setCell ⟨g9, 0, none⟩ (.int .i64 dy)).frozen? ⟨g9, 1, none⟩ = false := blk_frozen (blk_set hbox 0 _) 1; have HY0 := Aside0.mk hbox; have HX7 := Aside0.mk (blk_below HX.out hb); have HO7 := Aside0.mk (Kd.R_below (Kd.R_elderB HO.out g9 (by omega)) hb); have HG9 := Aside0.mk (show w.heap.size ≤ g9 by have := below_size HB.out; omega); have HG19 := Aside0.mk (show g1 ≠ g9 by have := blk_lt HX.out; omega); have HB7 := Aside0.mk (below_step HB.out hb); clear hb hbox hg9 hc0 hc1) | ((with_reducible refine gate_store (t := 102) (p := 9) rfl ?_); refine store_event (t := 102) (p := 9) (v := .tmp 28) (w1 := ((w7.setCell ⟨g9, 0, none⟩ (.int .i64 dy)).setCell ⟨g9, 1, none⟩ (.int .i64 dx))) ?hg ?ho ?hn ?hr ?_; (case ho => rfl); (case hg => rfl); (case hn => rfl); (case hr => first | (go_simp; done) | (go_simp; rfl)); intro w8 hw8; have HY := Aside0.mk (show w8.heap[g9]? = some (.cells #[.int .i64 dy, .int .i64 dx] 102 (0, 0)) by rw [hw8]; exact blk_put (blk_put HY0.out 0 _ rfl) 1 _ rfl); have t1_ := blk_far (p := ⟨g9, 1, none⟩) (blk_far (p := ⟨g9, 0, none⟩) HX7.out HG19.out (.int .i64 dy)) HG19.out (.int .i64 dx); rw [← hw8] at t1_; have HX8 := Aside0.mk t1_; clear t1_; have t1_ := Kd.R_far (p := ⟨g9, 1, none⟩) (Kd.R_far (p := ⟨g9, 0, none⟩) HO7.out (fun _ hk => hk.2) (.int .i64 dy)) (fun _ hk => hk.2) (.int .i64 dx); rw [← hw8] at t1_; have HO8 := Aside0.mk t1_; clear t1_; have HB8 := Aside0.mk (show Below w.heap.size w w8 by rw [hw8]; exact arr_below (arr_below HB7.out HG9.out _ _) HG9.out _ _); have hc2 : w8.cell? ⟨g9, 0, none⟩ = some (.int .i64 dy) := (blk_cell HY.out 0).trans rfl; have hc3 : w8.cell? ⟨g9, 1, none⟩ = some (.int .i64 dx) := (blk_cell HY.out 1).trans rfl; clear hw8 hd0 hd1 hf0 hf1) | (go_at_call 66; (with_reducible refine (HWY _).mono ?_); rintro e w9 ⟨rfl, ⟨nd9, rfl⟩⟩) | (go_at_call 66; (with_reducible refine (HWX _).mono ?_); rintro e w10 ⟨rfl, ⟨nd10, rfl⟩⟩) | ((with_reducible refine gate_builtin (b := .append) (xs := #[.tmp 45, .tmp 57]) rfl ?_); at_builtin; refine Kd.R_append (Kd.int .i64) (w0 := w) w.heap.size rfl (.tmp 45) (.tmp 57) 22 2 (.int .i64 0) 8 rfl Tryd.underlying22 info2 rfl (by decide) (by omega) u7 xs (wrap64 (wrap64 (wrap64 (wrap64 (rr + dy) * a0) + cc) + dx)) [.int .i64 (wrap64 (wrap64 (wrap64 (wrap64 (rr + dy) * a0) + cc) + dx))] (fun k => k ≠ g1) (fun _ => False) rfl rfl ?aP (fun _ hk => hk.elim) ?aF ?aO ?aB ?aS ?aL ?_; (case aP => exact rfl); (case aF => exact fun k hk => by have := blk_lt HX8.out; have hk' : w8.heap.size ≤ k := hk; omega); (case aO => exact Kd.R_mono (Kd.R_drewN HO8.out _) (fun _ hk => hk.1.2)); (case aB => exact pw_below_drewN HB8.out _); (case aS => exact below_size (pw_below_drewN HB8.out _)); (case aL => have := HL.out; omega); intro v2 w11 ho hb hg hat; have HO11 := Aside0.mk ho; have HB11 := Aside0.mk hb; have HX11 := Aside0.mk (blk_grown (blk_drewN HX8.out (nd9 + nd10)) hg (fun e => (HO8.out.1 g1 e.symm).1.2 rfl)); clear ho hb hg hat))
          go_roundg (6 - (kk + 1))
          case measure => omega
          case rel => exact ⟨kk + 1, by omega, by omega, by go_num, ⟨by rw [HE.out]; exact Kd.R_mono HO11.out (fun _ hk => ⟨trivial, hk⟩)⟩, ⟨HX11.out⟩, ⟨HB11.out⟩⟩
    · have : kk = 6 := by omega
      subst this
      go_wp2
      go_ret
      exact ⟨u7, rfl, Kd.R_mono HO.out (fun _ _ => trivial), HB.out⟩
-- needs: 79 (how far cells are: a map from cells to numbers, and what it says as a list)
def FarIs (D : DataW Unit) (far : List (Option Int)) : Prop :=
  Go.Maps.Tidy D ∧ Go.Maps.size D ≤ (far.filter Option.isSome).length ∧ (∀ x : Int, Go.Maps.has D (.int .i64 x) = (decide (0 ≤ x) && (far.getD x.toNat none).isSome)) ∧ ∀ (x : Int) (c : Int), 0 ≤ x → far.getD x.toNat none = some c → ∀ z, D.atKey (.int .i64 x) z = .lit (.int .i64 c)
theorem getD_rep_none {α : Type} : ∀ (n i : Nat), (List.replicate n (none : Option α)).getD i none = none := fun n i => by
  rw [List.getD_eq_getElem?_getD, List.getElem?_replicate]; split <;> rfl
theorem FarIs.empty (n : Nat) : FarIs (.map []) (List.replicate n none) := by
  refine ⟨Go.Maps.tidy_empty, Nat.zero_le _, fun x => ?_, fun x c _ h => ?_⟩
  · rw [getD_rep_none]; simp [Go.Maps.has]
  · rw [getD_rep_none] at h; cases h
theorem getD_set_same {α : Type} (l : List α) (i : Nat) (a d : α) (h : i < l.length) : (l.set i a).getD i d = a := by
  rw [List.getD_eq_getElem?_getD, List.getElem?_set_self (by simpa using h)]; rfl
theorem getD_set_ne {α : Type} (l : List α) (i j : Nat) (a d : α) (h : i ≠ j) : (l.set i a).getD j d = l.getD j d := by
  rw [List.getD_eq_getElem?_getD, List.getD_eq_getElem?_getD, List.getElem?_set_ne h]
theorem count_set : ∀ (far : List (Option Int)) (i : Nat) (c : Int), i < far.length → ((far.set i (some c)).filter Option.isSome).length = if (far.getD i none).isSome = true then (far.filter Option.isSome).length else (far.filter Option.isSome).length + 1
  | [], i, c, h => by simp at h
  | a :: r, 0, c, _ => by
    cases a with
    | none => simp [List.getD_eq_getElem?_getD]
    | some v => simp [List.getD_eq_getElem?_getD]
  | a :: r, i + 1, c, h => by
    have ih := count_set r i c (by simpa using h)
    have e : (a :: r).getD (i + 1) none = r.getD i none := by simp [List.getD_eq_getElem?_getD]
    rw [List.set_cons_succ, e]
    cases a with
    | none => simpa using ih
    | some v =>
      simp only [List.filter_cons, Option.isSome_some, if_true, List.length_cons]
      rw [ih]; split <;> rfl
theorem FarIs.put {D : DataW Unit} {far : List (Option Int)} (h : FarIs D far) {x : Int} (c : Int) (h0 : 0 ≤ x) (h1 : x < far.length) : FarIs (D.put (.int .i64 x) (.lit (.int .i64 c))) (far.set x.toNat (some c)) := by
  obtain ⟨ht, hs, hh, ha⟩ := h
  have hx : x.toNat < far.length := by omega
  refine ⟨ht.put (k := .int .i64 x) (by exact trivial) _, ?_, fun y => ?_, fun y d hy hd z => ?_⟩
  · rw [Go.Maps.size_put ht, count_set far x.toNat c hx, hh x, decide_eq_true h0, Bool.true_and]
    split <;> omega
  · by_cases e : y = x
    · subst e
      rw [Go.Maps.has_put_same ht.isMap (k := .int .i64 y) (by exact trivial), getD_set_same _ _ _ _ hx, decide_eq_true h0]; rfl
    · rw [Go.Maps.has_put_other (fun e2 => e (by injection e2)), hh y]
      by_cases hy : 0 ≤ y
      · rw [getD_set_ne _ _ _ _ _ (by omega)]
      · rw [decide_eq_false hy, Bool.false_and, Bool.false_and]
  · by_cases e : y = x
    · subst e
      rw [getD_set_same _ _ _ _ hx] at hd
      cases hd
      exact Go.Maps.atKey_put_same ht.isMap (k := .int .i64 y) (by exact trivial) _ _
    · rw [getD_set_ne _ _ _ _ _ (by omega)] at hd
      rw [Go.Maps.atKey_put_other (fun e2 => e (by injection e2))]
      exact ha y d hy hd z
theorem FarIs.count {D : DataW Unit} {far : List (Option Int)} (h : FarIs D far) : Go.Maps.size D ≤ far.length := Nat.le_trans h.2.1 (List.length_filter_le _ _)
/-- A map of the call's own has just the entries that it reads as. -/
theorem ownsMap_tight {H : Type} {P : Program} {w : World} {k : TypeId} {R : Value → Option (DataW H × List MemPlace)} {b n : Nat} {D : DataW H} (h : w.ownsMap P k R b n D) : w.ownsMap P k R b (Go.Maps.size D) D := by
  obtain ⟨es, clock, hb, F, hs, hD⟩ := h
  refine ⟨es, clock, hb, F, ?_, hD⟩
  rw [hD]
  simp [Go.Maps.size, Go.length_sorted]
section
variable {P : Program} {ops : Array Oper} {rest : List Oper} {o : Oper} {a : Act} {Q : Exit → Act → World → Prop}
/-- A map that is made. -/
theorem map_event {W : World} (hgd : o.guard = none) {N : Tmp} (_hd : o.dst = some N) (k : TypeId) (R : Value → Option (DataW Unit × List MemPlace))
    (hrun : (execOp a.eval o).run P W = .ok (.value (.map (some W.heap.size))) (W.alloc (.map #[] 0)))
    (h : ∀ g, g = W.heap.size → ∀ w1, w1.ownsMap P k R g 0 (.map []) → Below W.heap.size W w1 → wpList P ops Q rest (a.put o.dst (.map (some g))) w1) : wpList P ops Q (o :: rest) a W :=
  Kd.event_run hgd hrun (h _ rfl _ (World.ownsMap_made _ _ _ _) (below_alloc (Below.refl _ _) _))
end
/-! ### what is reckoned -/
def costV (l : List Int) (c : Int) : Int := if rd l c = 0 then 1 else 0
theorem costV_small (l : List Int) (c : Int) : 0 ≤ costV l c ∧ costV l c ≤ 1 := by
  unfold costV
  split <;> omega
def openV (l : List Int) (p c : Int) : Bool := rd l c == 0 || rd l c == p
def lineV (s p c : Int) : Int := if p = 1 then wrap64 (Int.tdiv c s) else Int.tmod c s
def farInit (s : Int) (l : List Int) (p : Int) (i : Nat) : List (Option Int) := (List.range l.length).map fun (c : Nat) => if (decide (c < i) && (lineV s p (c : Int) == 0) && openV l p (c : Int)) = true then some (costV l (c : Int)) else none
/-- One neighbour of a cell that is n far. -/
def betterV (l : List Int) (p n : Int) (far : List (Option Int)) (x : Int) : Bool :=
  openV l p x && (match far.getD x.toNat none with | none => true | some m => decide (wrap64 (n + costV l x) < m))
def farStep (l : List Int) (p n : Int) : List Int → List (Option Int) → Bool → List (Option Int) × Bool
  | [], far, ch => (far, ch)
  | x :: r, far, ch => if betterV l p n far x = true then farStep l p n r (far.set x.toNat (some (wrap64 (n + costV l x)))) true else farStep l p n r far ch
def farRound (s : Int) (l : List Int) (p : Int) : Nat → Nat → List (Option Int) → Bool → List (Option Int) × Bool
  | 0, _, far, ch => (far, ch)
  | d + 1, c, far, ch => match far.getD c none with
    | none => farRound s l p d (c + 1) far ch
    | some n => farRound s l p d (c + 1) (farStep l p n (nearV s (c : Int)) far ch).1 (farStep l p n (nearV s (c : Int)) far ch).2
def farLoop (s : Int) (l : List Int) (p : Int) : Nat → Bool → List (Option Int) → Option (List (Option Int))
  | 0, _, _ => none
  | k + 1, ch, far => if ch = true then farLoop s l p k (farRound s l p l.length 0 far false).2 (farRound s l p l.length 0 far false).1 else some far
/-- The least of what is on the last line, -1 for none. -/
def IsBest (s p : Int) (n : Nat) (far : List (Option Int)) (gone : Int → Bool) (b : Int) : Prop :=
  (b = -1 ∧ ∀ (x c : Int), 0 ≤ x → x < n → gone x = true → far.getD x.toNat none = some c → lineV s p x ≠ s - 1) ∨
  (0 ≤ b ∧ (∃ x : Int, 0 ≤ x ∧ x < n ∧ gone x = true ∧ far.getD x.toNat none = some b ∧ lineV s p x = s - 1) ∧ ∀ (x c : Int), 0 ≤ x → x < n → gone x = true → far.getD x.toNat none = some c → lineV s p x = s - 1 → b ≤ c)
theorem IsBest.unique {s p : Int} {n : Nat} {far : List (Option Int)} {b b' : Int} (h : IsBest s p n far (fun _ => true) b) (h' : IsBest s p n far (fun _ => true) b') : b = b' := by
  rcases h with ⟨rfl, h⟩ | ⟨h0, ⟨x, hx, hn, _, hf, hl⟩, hm⟩
  · rcases h' with ⟨rfl, _⟩ | ⟨_, ⟨x', hx', hn', _, hf', hl'⟩, _⟩
    · rfl
    · exact absurd hl' (h x' _ hx' hn' rfl hf')
  · rcases h' with ⟨rfl, h'⟩ | ⟨h0', ⟨x', hx', hn', _, hf', hl'⟩, hm'⟩
    · exact absurd hl (h' x _ hx hn rfl hf)
    · have := hm x' _ hx' hn' rfl hf' hl'
      have := hm' x _ hx hn rfl hf hl
      omega
theorem wf_num_ {n : Int} (h : 0 ≤ n ∧ n ≤ 4611686018427387904) : (Lit.int .i64 n).wf = true := by
  have h2 := wrap64_wf n
  rwa [show wrap64 n = n by unfold wrap64; omega] at h2
/-- Plain facts on the verifier's helpers: copies are copies, and a list is equal to itself. -/
theorem wrap_next {i : Nat} {n : Nat} (h : i < n) (hn : n ≤ 9223372036854775807) : wrap64 ((i : Int) + 1) = ((i + 1 : Nat) : Int) := by
  unfold wrap64; omega
theorem rd_nat (l : List Int) (i : Nat) : rd l (i : Int) = l.getD i 0 := rfl
theorem rd_get (l : List Int) (i : Nat) (h : i < l.length) : rd l (i : Int) = l[i] := by
  rw [rd_nat, List.getD_eq_getElem?_getD, List.getElem?_eq_getElem h]; rfl
theorem take_set_next {α : Type} (x y : List α) (i : Nat) (h : i < x.length) (hl : y.length = x.length) (ht : y.take i = x.take i) : (y.set i x[i]).take (i + 1) = x.take (i + 1) := by
  rw [List.take_succ_eq_append_getElem h, List.take_succ_eq_append_getElem (by simpa [hl] using h)]
  congr 1
  · rw [List.take_set_of_le (Nat.le_refl i)]; exact ht
  · simp
theorem toInt64S_l0 (x : List Int) (hx : x.length ≤ 35184372088832) : ∀ (d i : Nat) (y : List Int), i + d = x.length → y.length = x.length → y.take i = x.take i → Ev (fun k => laws_toInt64S.l0 k x y i) x := by
  intro d
  induction d with
  | zero =>
    intro i y hi hl ht
    refine Ev.step (f := fun _ => some x) (fun k => ?_) (Ev.now _)
    simp only [laws_toInt64S.l0]
    rw [if_neg (by omega)]
    have : i = x.length := by omega
    rw [this, List.take_of_length_le (by omega), List.take_of_length_le (by omega)] at ht
    rw [ht]
  | succ d ih =>
    intro i y hi hl ht
    have hlt : i < x.length := by omega
    refine Ev.step (f := fun k => laws_toInt64S.l0 k x (y.set i x[i]) ((i + 1 : Nat) : Int)) (fun k => ?_) (ih (i + 1) _ (by omega) (by simpa using hl) (take_set_next x y i hlt hl ht))
    simp only [laws_toInt64S.l0]
    rw [if_pos (by omega), if_pos (by omega), if_pos (by omega), wrap_next hlt (by omega), rd_get x i hlt, Int.toNat_natCast]
theorem toInt64S_ev (x : List Int) (hx : x.length ≤ 35184372088832) : Ev (fun k => laws_toInt64S.f k x) x := by
  refine Ev.congr (f := fun k => laws_toInt64S.l0 k x (List.replicate x.length 0) ((0 : Nat) : Int)) (fun k => ?_) (toInt64S_l0 x hx x.length 0 _ (by omega) (by simp) (by simp))
  unfold laws_toInt64S.f
  rw [if_pos (by omega), if_pos (by omega), Int.toNat_natCast]; rfl
theorem eqInt64S_l0 (x y : List Int) (hl : x.length = y.length) (hx : x.length ≤ 9223372036854775807) : ∀ (d i : Nat), i + d = x.length → x.take i = y.take i → Ev (fun k => laws_eqInt64S.l0 k x y i) (decide (x = y)) := by
  intro d
  induction d with
  | zero =>
    intro i hi ht
    refine Ev.step (f := fun _ => some (decide (x = y))) (fun k => ?_) (Ev.now _)
    simp only [laws_eqInt64S.l0]
    rw [if_neg (by omega)]
    have : i = x.length := by omega
    rw [this, List.take_of_length_le (by omega), List.take_of_length_le (by omega)] at ht
    simp [ht]
  | succ d ih =>
    intro i hi ht
    have hlt : i < x.length := by omega
    by_cases he : x[i] = y[i]
    · refine Ev.step (f := fun k => laws_eqInt64S.l0 k x y ((i + 1 : Nat) : Int)) (fun k => ?_) (ih (i + 1) (by omega) ?_)
      · simp only [laws_eqInt64S.l0]
        rw [if_pos (by omega), if_pos (by omega), if_pos (by omega), wrap_next hlt (by omega), rd_get x i hlt, rd_get y i (by omega), if_pos he]
      · rw [List.take_succ_eq_append_getElem hlt, List.take_succ_eq_append_getElem (by omega), ht, he]
    · refine Ev.step (f := fun _ => some (decide (x = y))) (fun k => ?_) (Ev.now _)
      simp only [laws_eqInt64S.l0]
      rw [if_pos (by omega), if_pos (by omega), if_pos (by omega), rd_get x i hlt, rd_get y i (by omega), if_neg he]
      have : x ≠ y := fun h => he (by subst h; rfl)
      simp [this]
theorem eqInt64S_ev (x y : List Int) (hx : x.length ≤ 9223372036854775807) : Ev (fun k => laws_eqInt64S.f k x y) (decide (x = y)) := by
  by_cases h : x.length = y.length
  · refine Ev.congr (f := fun k => laws_eqInt64S.l0 k x y ((0 : Nat) : Int)) (fun k => ?_) (eqInt64S_l0 x y h hx x.length 0 (by omega) (by simp))
    unfold laws_eqInt64S.f
    rw [if_pos (by omega)]; rfl
  · refine Ev.congr (f := fun _ => some (decide (x = y))) (fun k => ?_) (Ev.now _)
    unfold laws_eqInt64S.f
    rw [if_neg (by omega)]
    have : x ≠ y := fun e => h (by rw [e])
    simp [this]
theorem eqInt64S_self (x : List Int) (hx : x.length ≤ 9223372036854775807) : Ev (fun k => laws_eqInt64S.f k x x) true := by
  have := eqInt64S_ev x x hx
  simpa using this
/-- The reference's 'in' is the program's 'within'. -/
theorem in_inW (n a b : Int) : spec_l01In.f n a b = some (inW n a b) := by
  unfold spec_l01In.f inW
  by_cases h : a ≤ n <;> simp [h]
/-- The verifier's count of a list. -/
theorem szInt64S_val (l : List Int) (a : Int) (hl : l.length ≤ maxLen) (h0 : 0 ≤ a) (h1 : a ≤ 1048576) : laws_szInt64S.f l a = some (if a < l.length then -1 else a - l.length) := by
  unfold maxLen at hl
  have e : wrap64 (a - (l.length : Int)) = a - l.length := by unfold wrap64; omega
  unfold laws_szInt64S.f
  rw [e]
  by_cases h : a < l.length
  · rw [if_pos h, if_pos (by omega)]
  · rw [if_neg h, if_neg (by omega)]
-- needs: 44 (boards, in plain words)
theorem inW_bool (n a b : Int) : inW n a b = true ↔ a ≤ n ∧ n ≤ b := by simp [inW]
theorem l06Is_l0 (p : Int) (l : List Int) (hl : l.length ≤ 9223372036854775807) : ∀ (d i : Nat), i + d = l.length → Ev (fun k => spec_l06Is.l0 k i p l) (!(l.drop i).any (fun c => !inW c 0 2)) := by
  intro d
  induction d with
  | zero =>
    intro i hi
    refine Ev.step (f := fun _ => some _) (fun k => ?_) (Ev.now _)
    simp only [spec_l06Is.l0]
    rw [if_neg (by omega), List.drop_eq_nil_of_le (by omega)]; rfl
  | succ d ih =>
    intro i hi
    have hlt : i < l.length := by omega
    rw [List.drop_eq_getElem_cons hlt, List.any_cons]
    by_cases he : inW l[i] 0 2 = true
    · rw [he]
      simp only [Bool.not_true, Bool.false_or]
      refine Ev.step (f := fun k => spec_l06Is.l0 k ((i + 1 : Nat) : Int) p l) (fun k => ?_) (ih (i + 1) (by omega))
      simp only [spec_l06Is.l0]
      rw [if_pos (by omega), if_pos (by omega), wrap_next hlt hl, rd_get l i hlt, in_inW, he]; rfl
    · refine Ev.step (f := fun _ => some _) (fun k => ?_) (Ev.now _)
      simp only [spec_l06Is.l0]
      rw [if_pos (by omega), if_pos (by omega), rd_get l i hlt, in_inW]
      simp [he]
theorem l06Is_ev (p : Int) (l : List Int) (hl : l.length ≤ 9223372036854775807) : Ev (fun k => spec_l06Is.f k p l) (isHexV p l) := by
  unfold spec_l06Is.f isHexV
  rw [in_inW]
  have hj : Ev (fun k => spec_l06Is.j0 k true p l) false := Ev.step (f := fun _ => some false) (fun k => by simp only [spec_l06Is.j0]; rw [if_pos trivial]) (Ev.now _)
  by_cases h1 : inW p 1 8 = true
  · rw [h1]
    by_cases h2 : (l.length : Int) = wrap64 (p * p)
    · have h3 : ((l.length : Int) == wrap64 (p * p)) = true := by simpa using h2
      have h4 : ((l.length : Int) != wrap64 (p * p)) = false := by simpa using h2
      rw [h3, h4]
      have := l06Is_l0 p l hl l.length 0 (by omega)
      rw [List.drop_zero] at this
      refine Ev.congr (f := fun k => spec_l06Is.j0 k false p l) (fun k => by rw [Option.bind_some, if_pos rfl]) (Ev.step (fun k => ?_) this)
      simp only [spec_l06Is.j0]
      rw [if_neg (by simp)]; rfl
    · have h3 : ((l.length : Int) == wrap64 (p * p)) = false := by simpa using h2
      have h4 : ((l.length : Int) != wrap64 (p * p)) = true := by simpa using h2
      rw [h3, h4]
      exact Ev.congr (fun k => by rw [Option.bind_some, if_pos rfl]) hj
  · have h1' : inW p 1 8 = false := by simpa using h1
    rw [h1']
    exact Ev.congr (fun k => by rw [Option.bind_some, if_neg (by simp)]) hj
theorem isHexV_cells {p : Int} {l : List Int} (h : isHexV p l = true) : 1 ≤ p ∧ p ≤ 8 ∧ (l.length : Int) = p * p ∧ ∀ x ∈ l, x = 0 ∨ x = 1 ∨ x = 2 := by
  unfold isHexV at h
  simp only [Bool.and_eq_true, beq_iff_eq, Bool.not_eq_true', List.any_eq_false, Bool.not_eq_true, Bool.not_eq_false'] at h
  obtain ⟨⟨h1, h2⟩, h3⟩ := h
  obtain ⟨ha, hb⟩ := (inW_bool _ _ _).1 h1
  have : p * p = 1 ∨ p * p = 4 ∨ p * p = 9 ∨ p * p = 16 ∨ p * p = 25 ∨ p * p = 36 ∨ p * p = 49 ∨ p * p = 64 := by
    have : p = 1 ∨ p = 2 ∨ p = 3 ∨ p = 4 ∨ p = 5 ∨ p = 6 ∨ p = 7 ∨ p = 8 := by omega
    rcases this with rfl | rfl | rfl | rfl | rfl | rfl | rfl | rfl <;> simp
  refine ⟨ha, hb, ?_, fun x hx => ?_⟩
  · rw [h2]; unfold wrap64; omega
  · have := (inW_bool _ _ _).1 (by simpa using h3 x hx)
    omega
theorem hex_small {p : Int} {l : List Int} (h : isHexV p l = true) : l.length ≤ 64 := by
  obtain ⟨h1, h2, h3, _⟩ := isHexV_cells h
  have : p = 1 ∨ p = 2 ∨ p = 3 ∨ p = 4 ∨ p = 5 ∨ p = 6 ∨ p = 7 ∨ p = 8 := by omega
  rcases this with rfl | rfl | rfl | rfl | rfl | rfl | rfl | rfl <;> omega
/-- The mover of a board by the numbers of cells, 0 for none. -/
theorem szHex_ev (p : Int) (l : List Int) (hl : l.length ≤ maxLen) : ∃ v, laws_szHex.f p l 1048576 = some v ∧ (v = -1 ∨ 0 ≤ v ∧ l.length ≤ 1048576) := by
  unfold laws_szHex.f
  rw [szInt64S_val l 1048576 hl (by omega) (by omega), Option.bind_some]
  by_cases h : (1048576 : Int) < l.length
  · rw [if_pos h]; exact ⟨-1, rfl, .inl rfl⟩
  · rw [if_neg h, if_neg (by omega)]; exact ⟨_, rfl, .inr ⟨by omega, by omega⟩⟩
theorem toHex_ev (p : Int) (l : List Int) (hl : l.length ≤ 1048576) : Ev (fun k => laws_toHex.f k p l) (p, l) := by
  unfold laws_toHex.f
  exact Ev.bind (toInt64S_ev l (by omega)) (Ev.now _)
theorem eqHex_self (p : Int) (l : List Int) (hl : l.length ≤ 1048576) : Ev (fun k => laws_eqHex.f k p l p l) true := by
  unfold laws_eqHex.f
  refine Ev.congr (fun k => by rw [if_pos rfl]) (Ev.bind (eqInt64S_self l (by omega)) (Ev.congr (fun k => by rw [if_pos rfl]) (Ev.now _)))
-- The neighbours: the reference's list is the program's, its cells lie on the board, none twice.
theorem nearV_good : ∀ n : Fin 9, ∀ a : Fin 64, 1 ≤ n.val → a.val < n.val * n.val → (nearV (n.val : Int) (a.val : Int)).Nodup ∧ ∀ x ∈ nearV (n.val : Int) (a.val : Int), 0 ≤ x ∧ x < ((n.val * n.val : Nat) : Int) := by decide +kernel
theorem nearV_ok {n a : Nat} (h1 : 1 ≤ n) (h8 : n ≤ 8) (ha : a < n * n) : (nearV n a).Nodup ∧ ∀ x ∈ nearV n a, 0 ≤ x ∧ x < ((n * n : Nat) : Int) := by
  have h64 : n * n ≤ 64 := Nat.mul_le_mul h8 h8
  exact nearV_good ⟨n, by omega⟩ ⟨a, by omega⟩ h1 ha
theorem nearOne_same (n r c dy dx : Int) (h1 : 1 ≤ n) (h8 : n ≤ 8) (hr : 0 ≤ r ∧ r ≤ 64) (hc : 0 ≤ c ∧ c ≤ 8) (hy : -1 ≤ dy ∧ dy ≤ 1) (hx : -1 ≤ dx ∧ dx ≤ 1) :
    wrap64 ((wrap64 (n * (wrap64 (r + dy)))) + (wrap64 (c + dx))) = nearOne n r c (dy, dx) := by
  unfold nearOne
  have hn : n = 1 ∨ n = 2 ∨ n = 3 ∨ n = 4 ∨ n = 5 ∨ n = 6 ∨ n = 7 ∨ n = 8 := by omega
  rcases hn with rfl | rfl | rfl | rfl | rfl | rfl | rfl | rfl <;> (show _ = wrap64 (wrap64 (wrap64 (wrap64 (r + dy) * _) + c) + dx); unfold wrap64; omega)
theorem nearDirs_small : ∀ e ∈ nearDirs, (-1 ≤ e.1 ∧ e.1 ≤ 1) ∧ (-1 ≤ e.2 ∧ e.2 ≤ 1) := by decide
theorem specNear_l0 (n r c : Int) (h1 : 1 ≤ n) (h8 : n ≤ 8) (hr : 0 ≤ r ∧ r ≤ 64) (hc : 0 ≤ c ∧ c ≤ 8) : ∀ (d i : Nat), i + d = 6 → Ev (fun k => spec_l06Near.l0 k n r c (nearTo n r c (nearDirs.take i)) i) (nearTo n r c nearDirs) := by
  intro d
  induction d with
  | zero =>
    intro i hi
    refine Ev.step (f := fun _ => some (nearTo n r c nearDirs)) (fun k => ?_) (Ev.now _)
    simp only [spec_l06Near.l0]
    rw [if_neg (by omega), List.take_of_length_le (by show 6 ≤ i; omega)]
  | succ d ih =>
    intro i hi
    have hlt : i < nearDirs.length := by show i < 6; omega
    have hs := nearTo_step n r c i hlt
    have hy : rd [(-1), (-1), 0, 0, 1, 1] (i : Int) = (nearDirs[i]).1 := by rcases i with _ | _ | _ | _ | _ | _ | i <;> first | rfl | (exfalso; omega)
    have hx : rd [0, 1, (-1), 1, (-1), 0] (i : Int) = (nearDirs[i]).2 := by rcases i with _ | _ | _ | _ | _ | _ | i <;> first | rfl | (exfalso; omega)
    have hb := nearDirs_small _ (List.getElem_mem hlt)
    have hone := nearOne_same n r c (nearDirs[i]).1 (nearDirs[i]).2 h1 h8 hr hc hb.1 hb.2
    have hlen : (nearTo n r c (nearDirs.take i)).length ≤ 6 := Nat.le_trans (by unfold nearTo; rw [List.length_map]; exact List.length_filter_le _ _) (by rw [List.length_take]; exact Nat.le_trans (Nat.min_le_right _ _) (Nat.le_refl 6))
    have hih := ih (i + 1) (by omega)
    rw [hs] at hih
    have w2 : wrap64 ((i : Int) + 1) = ((i + 1 : Nat) : Int) := by unfold wrap64; omega
    generalize nearDirs[i] = e at *
    obtain ⟨dy, dx⟩ := e
    have hok : nearOk n r c (dy, dx) = (inW (wrap64 (r + dy)) 0 (wrap64 (n - 1)) && inW (wrap64 (c + dx)) 0 (wrap64 (n - 1))) := rfl
    generalize nearTo n r c (nearDirs.take i) = xs at *
    refine Ev.step (fun k => ?_) hih
    simp only [spec_l06Near.l0, Option.bind_some]
    rw [if_pos (by omega), if_pos (by omega), if_pos (by simp; omega), if_pos (by simp; omega), hy, hx, in_inW, in_inW]
    simp only [Option.bind_some]
    rw [w2, hok]
    cases h2 : inW (wrap64 (r + dy)) 0 (wrap64 (n - 1)) with
    | false => simp
    | true =>
      cases h3 : inW (wrap64 (c + dx)) 0 (wrap64 (n - 1)) with
      | false => simp
      | true =>
        simp only [if_true, Bool.and_self]
        rw [if_pos (by omega), hone]
theorem specNear_ev {n a : Nat} (h1 : 1 ≤ n) (h8 : n ≤ 8) (ha : a < n * n) : Ev (fun k => spec_l06Near.f k (n : Int) (a : Int)) (nearV n a) := by
  have h64 : n * n ≤ 64 := Nat.mul_le_mul h8 h8
  have hd : Int.tdiv (a : Int) (n : Int) = ((a / n : Nat) : Int) := rfl
  have hm : Int.tmod (a : Int) (n : Int) = ((a % n : Nat) : Int) := rfl
  have hq : a / n ≤ 64 := Nat.le_trans (Nat.div_le_self a n) (by omega)
  have hr : a % n < n := Nat.mod_lt _ (by omega)
  unfold spec_l06Near.f nearV
  refine Ev.congr (fun k => by rw [if_neg (by omega)]) ?_
  rw [hd, hm]
  generalize a / n = q at *
  generalize a % n = r at *
  have hw : wrap64 (q : Int) = (q : Int) := by unfold wrap64; omega
  rw [hw]
  exact specNear_l0 n _ _ (by omega) (by omega) ⟨by omega, by omega⟩ ⟨by omega, by omega⟩ 6 0 (by omega)
/-! ### impl_Hex_need: function 70 -/
-- EXTERNAL: by hand
-- impl_Hex_line impl_size_int64 impl_near impl_bit nearV_ok isHexV_cells wrap_next
def needBest (s : Int) (p : Int) : List (Option Int) → Nat → Int → Int
  | [], _, b => b
  | none :: r, c, b => needBest s p r (c + 1) b
  | some n :: r, c, b => needBest s p r (c + 1) (if lineV s p (c : Int) = s - 1 ∧ (b < 0 ∨ n < b) then n else b)
def impl_Hex_need.f (k : Nat) (s : Int) (l : List Int) (p : Int) : Option Int :=
  if isHexV s l = true then (farLoop s l p k true (farInit s l p l.length)).bind fun far => if (∀ o ∈ far, ∀ c, o = some c → 0 ≤ c ∧ c ≤ 4611686018427387904) then some (needBest s p far 0 (-1)) else none else none
theorem line_val {s : Int} (l : List Int) (p c : Int) (hs : s ≠ 0) : impl_Hex_line.f s l p c = some (lineV s p c) := by
  unfold impl_Hex_line.f lineV
  by_cases h : p = 1
  · rw [if_pos h, if_neg hs, if_pos h]
  · rw [if_neg h, if_neg hs, if_neg h]
set_option maxHeartbeats 2000000 in
set_option maxRecDepth 100000 in
theorem needCost (g2 : Nat) (s : Int) (A : Option Addr) (c : Nat) (l : List Int) (W : World) (h2 : W.heap[g2]? = some (.cells #[.int .i64 s, .slice A l.length c] 28 (0, 0))) (hr : Kd.C (Kd.int .i64) W A l.length l) (x : Int) (h0 : 0 ≤ x) (h1 : x < (l.length : Int)) :
    Calls Tryd.prog 76 #[.int .i64 x, .pointer (some ⟨g2, 0, none⟩)] W fun e w' => e = .returned (.int .i64 (costV l x)) ∧ Drawn0 W w' := by
  have hu := Tryd.underlying28
  have hc1 : W.cell? ⟨g2, 1, none⟩ = some (.slice A l.length c) := (blk_cell h2 1).trans rfl
  obtain ⟨ad, rfl, hx⟩ := Kd.at_int hr x h0 h1
  have p := eq_true h0
  have q := eq_true h1
  have HV := fun W => impl_bit.calls (rd l x == 0) (costV l x) W (by unfold impl_bit.f costV; by_cases h : rd l x = 0 <;> simp [h])
  clear h2 hr
  go_enter Tryd.func76, Tryd.ntmps76
  go_wp2_with (go_at_call 73; refine (HV _).mono ?_; rintro e w' ⟨rfl, hd⟩)
  go_ret
  exact ⟨rfl, hd⟩
set_option maxHeartbeats 2000000 in
set_option maxRecDepth 100000 in
theorem needOpen (g2 g3 : Nat) (s : Int) (A : Option Addr) (c : Nat) (l : List Int) (pl : Int) (W : World) (h2 : W.heap[g2]? = some (.cells #[.int .i64 s, .slice A l.length c] 28 (0, 0))) (h3 : W.heap[g3]? = some (.cells #[.int .i64 pl] 2 (0, 0))) (hr : Kd.C (Kd.int .i64) W A l.length l) (x : Int) (h0 : 0 ≤ x) (h1 : x < (l.length : Int)) :
    Calls Tryd.prog 77 #[.int .i64 x, .pointer (some ⟨g2, 0, none⟩), .pointer (some ⟨g3, 0, none⟩)] W fun e w' => e = .returned (.bool (openV l pl x)) ∧ Drawn0 W w' := by
  have hu := Tryd.underlying28
  have hc1 : W.cell? ⟨g2, 1, none⟩ = some (.slice A l.length c) := (blk_cell h2 1).trans rfl
  have hc3 : W.cell? ⟨g3, 0, none⟩ = some (.int .i64 pl) := (blk_cell h3 0).trans rfl
  obtain ⟨ad, rfl, hx⟩ := Kd.at_int hr x h0 h1
  have p := eq_true h0
  have q := eq_true h1
  clear h2 h3 hr
  unfold openV
  generalize rd l x = y at hx ⊢
  cases hy : (y == 0) with
  | true =>
    go_enter Tryd.func77, Tryd.ntmps77
    go_wp2_with fail
    go_quiet (fail)
    go_wp2_with fail
    go_ret
    exact ⟨by simp, ⟨_, rfl⟩⟩
  | false =>
    go_enter Tryd.func77, Tryd.ntmps77
    go_wp2_with fail
    go_quiet (fail)
    go_wp2_with fail
    go_ret
    exact ⟨by simp, ⟨_, rfl⟩⟩

theorem farInit_len (s : Int) (l : List Int) (p : Int) (i : Nat) : (farInit s l p i).length = l.length := by simp [farInit]
theorem farInit_zero (s : Int) (l : List Int) (p : Int) : farInit s l p 0 = List.replicate l.length none := by
  apply List.ext_getElem (by simp [farInit])
  intro i h1 h2
  simp [farInit]
theorem farInit_step (s : Int) (l : List Int) (p : Int) (i : Nat) (h : i < l.length) : farInit s l p (i + 1) = if ((lineV s p (i : Int) == 0) && openV l p (i : Int)) = true then (farInit s l p i).set i (some (costV l (i : Int))) else farInit s l p i := by
  apply List.ext_getElem (by split <;> simp [farInit])
  intro j h1 h2
  have hj : j < l.length := by simpa [farInit] using h1
  have e : ∀ q, (farInit s l p q)[j]'(by simpa [farInit] using hj) = if (decide (j < q) && (lineV s p (j : Int) == 0) && openV l p (j : Int)) = true then some (costV l (j : Int)) else none := fun q => by simp [farInit]
  rw [e]
  by_cases c : ((lineV s p (i : Int) == 0) && openV l p (i : Int)) = true
  · simp only [if_pos c]
    rw [List.getElem_set]
    by_cases hij : i = j
    · subst hij
      rw [if_pos rfl, decide_eq_true (by omega), Bool.true_and, if_pos c]
    · rw [if_neg hij, e]
      by_cases hlt : j < i
      · rw [decide_eq_true (by omega), decide_eq_true hlt]
      · rw [decide_eq_false (by omega), decide_eq_false hlt]
  · simp only [if_neg c]
    rw [e]
    by_cases hij : i = j
    · subst hij
      rw [decide_eq_true (by omega), decide_eq_false (Nat.lt_irrefl _), Bool.true_and, if_neg c]; simp
    · by_cases hlt : j < i
      · rw [decide_eq_true (by omega), decide_eq_true hlt]
      · rw [decide_eq_false (by omega), decide_eq_false hlt]
theorem farStep_len (l : List Int) (p n : Int) : ∀ (r : List Int) (far : List (Option Int)) (ch : Bool), (farStep l p n r far ch).1.length = far.length
  | [], _, _ => rfl
  | x :: r, far, ch => by
    unfold farStep
    split
    · rw [farStep_len l p n r]; simp
    · rw [farStep_len l p n r]
theorem farRound_len (s : Int) (l : List Int) (p : Int) : ∀ (d c : Nat) (far : List (Option Int)) (ch : Bool), (farRound s l p d c far ch).1.length = far.length
  | 0, _, _, _ => rfl
  | d + 1, c, far, ch => by
    unfold farRound
    split
    · exact farRound_len s l p d _ _ _
    · rw [farRound_len s l p d, farStep_len]
theorem mem_getD_ {far : List (Option Int)} {i : Nat} {c : Int} (h : far.getD i none = some c) : some c ∈ far := by
  by_cases hi : i < far.length
  · rw [List.getD_eq_getElem?_getD, List.getElem?_eq_getElem hi] at h
    have h : far[i] = some c := h
    rw [← h]
    exact List.getElem_mem hi
  · rw [List.getD_eq_getElem?_getD, List.getElem?_eq_none (by omega)] at h; cases h
def need_T31 : Bool × List (List Nat × List Nat) := (true, [([], []), ([], []), ([], []), ([0, 1, 2], [0, 1, 2]), ([], []), ([4], [4]), ([5], [5]), ([3, 6], [3, 6]), ([7, 3], [7]), ([8], [8]), ([9, 8], [8, 9]), ([10, 8, 8], [8, 10]), ([11], [11]), ([11], [11]), ([12, 13, 11], [11, 12, 13]), ([11, 14, 8], [8, 11, 14]), ([8, 15], [8, 15])])
def need_B31 : List Nat := [0, 0, 0, 7, 0, 16, 48, 127, 255, 511, 1023, 2047, 4095, 4095, 16383, 32767, 65535]
theorem need_tab31 : rtab .any (opsOf Tryd.f70 31) = need_T31 := by kernel_rfl
theorem need_bits31 : waitsOk need_T31.2 need_B31 = true := by kernel_rfl
theorem farRound_at (s : Int) (l : List Int) (p : Int) {i : Nat} (hi : i < l.length) (far : List (Option Int)) (ch : Bool) : farRound s l p (l.length - i) i far ch = match far.getD i none with
    | none => farRound s l p (l.length - (i + 1)) (i + 1) far ch
    | some n => farRound s l p (l.length - (i + 1)) (i + 1) (farStep l p n (nearV s (i : Int)) far ch).1 (farStep l p n (nearV s (i : Int)) far ch).2 := by
  have e : l.length - i = (l.length - (i + 1)) + 1 := by omega
  rw [e]
  rfl
theorem near_in_ {s : Int} {l : List Int} (hs : 1 ≤ s ∧ s ≤ 8) (hl : (l.length : Int) = s * s) {i : Nat} (hi : i < l.length) : (nearV s (i : Int)).length ≤ 100 ∧ ∀ z ∈ nearV s (i : Int), 0 ≤ z ∧ z < (l.length : Int) := by
  obtain ⟨n, rfl⟩ : ∃ n : Nat, s = (n : Int) := ⟨s.toNat, by omega⟩
  have hl2 : l.length = n * n := by
    have : ((n * n : Nat) : Int) = (n : Int) * (n : Int) := Int.natCast_mul n n
    omega
  have h := nearV_ok (n := n) (a := i) (by omega) (by omega) (by omega)
  have hle : (nearV (n : Int) (i : Int)).length ≤ 6 := nearTo_le _ _ _ _
  refine ⟨by omega, fun z hz => ?_⟩
  have := h.2 z hz
  omega
theorem FarIs.look {D : DataW Unit} {far : List (Option Int)} (h : FarIs D far) (x : Int) (h0 : 0 ≤ x) : Go.Maps.has D (.int .i64 x) = (far.getD x.toNat none).isSome := by
  rw [h.2.2.1 x, decide_eq_true h0, Bool.true_and]
theorem FarIs.val {D : DataW Unit} {far : List (Option Int)} (h : FarIs D far) {x m c : Int} (h0 : 0 ≤ x) (hm : far.getD x.toNat none = some m) (hat : D.atKey (.int .i64 x) (.lit (.int .i64 0)) = .lit (.int .i64 c)) : c = m := by
  rw [h.2.2.2 x m h0 hm] at hat
  injection hat with e
  injection e with _ e
  exact e.symm
theorem FarIs.entry {D : DataW Unit} {far : List (Option Int)} (h : FarIs D far) {x c : Int} (hat : ∀ zd, D.atKey (.int .i64 x) zd = .lit (.int .i64 c)) : 0 ≤ x ∧ x < far.length ∧ far.getD x.toNat none = some c := by
  have hh := Go.Maps.has_true_of_atKey hat
  rw [h.2.2.1 x] at hh
  have h0 : 0 ≤ x := by
    by_cases e : 0 ≤ x
    · exact e
    · rw [decide_eq_false e] at hh; cases hh
  rw [decide_eq_true h0, Bool.true_and] at hh
  obtain ⟨m, hm⟩ := Option.isSome_iff_exists.1 hh
  have e := h.val h0 hm (hat _)
  refine ⟨h0, ?_, by rw [hm, e]⟩
  by_cases hl : x < far.length
  · exact hl
  · rw [List.getD_eq_getElem?_getD, List.getElem?_eq_none (by omega)] at hm
    cases hm
theorem best_start {s p : Int} {n : Nat} {D : DataW Unit} {far : List (Option Int)} (h : FarIs D far) : IsBest s p n far (fun x => !Go.Maps.has D (.int .i64 x)) (-1) := by
  refine .inl ⟨rfl, fun x c h0 hn hg hf => ?_⟩
  have hg : (!Go.Maps.has D (.int .i64 x)) = true := hg
  rw [h.look x h0, hf] at hg
  cases hg
theorem key_same (x y : Int) : (Lit.int .i64 y).sameKey (.int .i64 x) = decide (y = x) := by
  by_cases h : y = x
  · subst h; simp [Lit.sameKey]
  · rw [Go.Maps.sameKey_ne (fun e => h (by injection e)), decide_eq_false h]
theorem best_step {s p : Int} {n : Nat} {far : List (Option Int)} {left : Lit → Bool} {b x c : Int} (hb : IsBest s p n far (fun y => !left (.int .i64 y)) b) (h0 : 0 ≤ x) (hn : x < n) (hf : far.getD x.toNat none = some c) (hc : 0 ≤ c) :
    IsBest s p n far (fun y => !(left (.int .i64 y) && !(Lit.int .i64 y).sameKey (.int .i64 x))) (if lineV s p x = s - 1 ∧ (b < 0 ∨ c < b) then c else b) := by
  have hg : ∀ y, (!(left (.int .i64 y) && !(Lit.int .i64 y).sameKey (.int .i64 x))) = true ↔ ((!left (.int .i64 y)) = true ∨ y = x) := fun y => by
    rw [key_same]; cases left (.int .i64 y) <;> simp
  by_cases hl : lineV s p x = s - 1
  · rcases hb with ⟨rfl, hb⟩ | ⟨hb0, ⟨z, hz0, hzn, hzg, hzf, hzl⟩, hm⟩
    · rw [if_pos ⟨hl, .inl (by omega)⟩]
      refine .inr ⟨hc, ⟨x, h0, hn, (hg x).2 (.inr rfl), hf, hl⟩, fun y d y0 yn yg yf yl => ?_⟩
      rcases (hg y).1 yg with h | h
      · exact absurd yl (hb y d y0 yn h yf)
      · subst h; rw [hf] at yf; cases yf; exact Int.le_refl _
    · by_cases hlt : c < b
      · rw [if_pos ⟨hl, .inr hlt⟩]
        refine .inr ⟨hc, ⟨x, h0, hn, (hg x).2 (.inr rfl), hf, hl⟩, fun y d y0 yn yg yf yl => ?_⟩
        rcases (hg y).1 yg with h | h
        · have := hm y d y0 yn h yf yl; omega
        · subst h; rw [hf] at yf; cases yf; exact Int.le_refl _
      · rw [if_neg (fun h => by rcases h.2 with h | h <;> omega)]
        refine .inr ⟨hb0, ⟨z, hz0, hzn, (hg z).2 (.inl hzg), hzf, hzl⟩, fun y d y0 yn yg yf yl => ?_⟩
        rcases (hg y).1 yg with h | h
        · exact hm y d y0 yn h yf yl
        · subst h; rw [hf] at yf; cases yf; omega
  · rw [if_neg (fun h => hl h.1)]
    rcases hb with ⟨rfl, hb⟩ | ⟨hb0, ⟨z, hz0, hzn, hzg, hzf, hzl⟩, hm⟩
    · refine .inl ⟨rfl, fun y d y0 yn yg yf => ?_⟩
      rcases (hg y).1 yg with h | h
      · exact hb y d y0 yn h yf
      · subst h; exact hl
    · refine .inr ⟨hb0, ⟨z, hz0, hzn, (hg z).2 (.inl hzg), hzf, hzl⟩, fun y d y0 yn yg yf yl => ?_⟩
      rcases (hg y).1 yg with h | h
      · exact hm y d y0 yn h yf yl
      · subst h; exact absurd yl hl
theorem needBest_is (s p : Int) (far : List (Option Int)) (hpos : ∀ o ∈ far, ∀ c, o = some c → 0 ≤ c) : ∀ (r : List (Option Int)) (i : Nat) (b : Int), far.drop i = r → i ≤ far.length → IsBest s p far.length far (fun y => decide (y < i)) b → IsBest s p far.length far (fun _ => true) (needBest s p r i b)
  | [], i, b, hd, hi, h => by
    have hl : i = far.length := by
      have := congrArg List.length hd
      rw [List.length_drop, List.length_nil] at this
      omega
    rw [needBest]
    rcases h with ⟨rfl, h⟩ | ⟨h0, ⟨z, hz0, hzn, _, hzf, hzl⟩, hm⟩
    · exact .inl ⟨rfl, fun x c x0 xn _ xf => h x c x0 xn (decide_eq_true (by omega)) xf⟩
    · exact .inr ⟨h0, ⟨z, hz0, hzn, rfl, hzf, hzl⟩, fun x c x0 xn _ xf xl => hm x c x0 xn (decide_eq_true (by omega)) xf xl⟩
  | o :: r, i, b, hd, hi, h => by
    have hlt : i < far.length := by
      have := congrArg List.length hd
      rw [List.length_drop, List.length_cons] at this
      omega
    rw [List.drop_eq_getElem_cons hlt] at hd
    injection hd with ho hr
    have hgi : far.getD i none = o := by rw [List.getD_eq_getElem?_getD, List.getElem?_eq_getElem hlt, ← ho]; rfl
    have hg : ∀ y : Int, decide (y < ((i + 1 : Nat) : Int)) = true ↔ (decide (y < (i : Int)) = true ∨ y = i) := fun y => by
      rw [decide_eq_true_iff, decide_eq_true_iff]; omega
    cases o with
    | none =>
      rw [needBest]
      refine needBest_is s p far hpos r (i + 1) b hr hlt ?_
      rcases h with ⟨rfl, h⟩ | ⟨h0, ⟨z, hz0, hzn, hzg, hzf, hzl⟩, hm⟩
      · refine .inl ⟨rfl, fun x c x0 xn xg xf => ?_⟩
        rcases (hg x).1 xg with e | e
        · exact h x c x0 xn e xf
        · subst e; rw [Int.toNat_natCast, hgi] at xf; cases xf
      · refine .inr ⟨h0, ⟨z, hz0, hzn, (hg z).2 (.inl hzg), hzf, hzl⟩, fun x c x0 xn xg xf xl => ?_⟩
        rcases (hg x).1 xg with e | e
        · exact hm x c x0 xn e xf xl
        · subst e; rw [Int.toNat_natCast, hgi] at xf; cases xf
    | some n =>
      rw [needBest]
      have hn0 : 0 ≤ n := hpos (some n) (by rw [← ho]; exact List.getElem_mem hlt) n rfl
      refine needBest_is s p far hpos r (i + 1) _ hr hlt ?_
      have := best_step (s := s) (p := p) (n := far.length) (far := far) (left := fun z => match z with | .int _ y => !decide (y < (i : Int)) | _ => false) (b := b) (x := (i : Int)) (c := n) (by simpa using h) (by omega) (by omega) (by rw [Int.toNat_natCast]; exact hgi) hn0
      have e : (fun y : Int => !((match (Lit.int .i64 y) with | .int _ y => !decide (y < (i : Int)) | _ => false) && !(Lit.int .i64 y).sameKey (.int .i64 (i : Int)))) = fun y => decide (y < ((i + 1 : Nat) : Int)) := by
        funext y
        rw [key_same, Bool.eq_iff_iff, hg y]
        by_cases h1 : y < (i : Int)
        · simp [h1]
        · by_cases h2 : y = (i : Int)
          · simp [h2]
          · simp [h1, h2]
      rw [e] at this
      exact this

set_option maxHeartbeats 8000000 in
set_option maxRecDepth 100000 in
theorem impl_Hex_need.calls (k : Nat) (a0_0 : Int) (A0_1 : Option Addr) (c0_1 : Nat) (l0_1 : List Int) (a1 : Int) (r : Int) (w : World) (hr0_1 : Kd.C (Kd.int .i64) w A0_1 l0_1.length l0_1) (hc0_1 : l0_1.length ≤ c0_1) (h : impl_Hex_need.f k a0_0 l0_1 a1 = some r) :
    Calls Tryd.prog 70 #[.agg #[.int .i64 a0_0, .slice A0_1 l0_1.length c0_1], .int .i64 a1] w fun e w' => e = .returned (.int .i64 r) ∧ Below w.heap.size w w' := by
  unfold impl_Hex_need.f at h
  by_cases hv : isHexV a0_0 l0_1 = true
  case neg => rw [if_neg hv] at h; cases h
  rw [if_pos hv] at h
  obtain ⟨far0, hfar, h⟩ := Option.bind_eq_some_iff.mp h
  by_cases hpos : ∀ o ∈ far0, ∀ c, o = some c → 0 ≤ c ∧ c ≤ 4611686018427387904
  case neg => rw [if_neg hpos] at h; cases h
  rw [if_pos hpos] at h
  obtain rfl := Option.some.inj h
  clear h
  obtain ⟨hs1, hs8, hlen, _⟩ := isHexV_cells hv
  have HS := Aside0.mk (show 1 ≤ a0_0 ∧ a0_0 ≤ 8 from ⟨hs1, hs8⟩)
  have HSQ := Aside0.mk hlen
  have HL64 := Aside0.mk (hex_small hv)
  have HFAR := Aside0.mk hfar
  have HPOS := Aside0.mk hpos
  have HR := Aside0.mk hr0_1
  have HC0 := Aside0.mk hc0_1
  have HB0 := Aside0.mk (Below.refl w.heap.size w)
  have hu := Tryd.underlying28
  have law : Go.Maps.Keyed Tryd.prog 2 := Go.Maps.int_keyed Tryd.underlying2
  have zeroE : ∀ W : World, (zeroValue 2).run Tryd.prog W = .ok (.int .i64 0) W := fun W => by kernel_rfl
  have hmm := @run_makeMap Tryd.prog
  have HLINE := fun (W : World) (x : Int) (hC : Kd.C (Kd.int .i64) W A0_1 l0_1.length l0_1) => impl_Hex_line.calls a0_0 A0_1 c0_1 l0_1 a1 x (lineV a0_0 a1 x) W hC HC0.out (line_val l0_1 a1 x (by have := HS.out; omega))
  clear hs1 hs8 hlen hfar hpos hr0_1 hc0_1 hv
  go_enter Tryd.func70, Tryd.ntmps70
  go_wp2_with (first | ((with_reducible refine gate_dst (N := 2) rfl ?_); refine box_event ?hg (N := 2) ?hd (cs := #[.int .i64 a0_0, .slice A0_1 l0_1.length c0_1]) (t := 28) ?hr ?_; (case hd => rfl); (case hg => rfl); (case hr => first | (go_simp; done) | (go_simp; rfl)); intro g2 hg2 w1 hbox hb; have HG2 := Aside0.mk (show w.heap.size ≤ g2 by omega); have HX2 := Aside0.mk hbox; have HB := Aside0.mk (below_step HB0.out hb); clear hbox hb hg2 HB0) | ((with_reducible refine gate_dst (N := 3) rfl ?_); refine box_event ?hg (N := 3) ?hd (cs := #[.int .i64 a1]) (t := 2) ?hr ?_; (case hd => rfl); (case hg => rfl); (case hr => first | (go_simp; done) | (go_simp; rfl)); intro g3 hg3 w2 hbox hb; have HG3 := Aside0.mk (show w.heap.size ≤ g3 ∧ g2 < g3 by have := below_size HB.out; have := blk_lt HX2.out; omega); have HX3 := Aside0.mk hbox; have nHX2_ := Aside0.mk (blk_below HX2.out hb); have nHB_ := Aside0.mk (below_step HB.out hb); clear HX2 HB hb; have HX2 := nHX2_; have HB := nHB_; clear nHX2_ nHB_; clear hbox hg3) | ((with_reducible refine gate_dst (N := 22) rfl ?_); refine map_event ?hg (N := 22) ?hd 2 (plainElem Tryd.prog 2) ?hr ?_; (case hd => rfl); (case hg => rfl); (case hr => first | (go_simp; done) | (go_simp; rfl)); intro gm hgm wm hown hb; have HG := Aside0.mk (show g2 ≠ gm ∧ g3 ≠ gm ∧ w.heap.size ≤ gm by have := below_size HB.out; have := blk_lt HX2.out; have := blk_lt HX3.out; omega); have HM := Aside0.mk (hown.mono (Nat.zero_le 64)); have nHX2_ := Aside0.mk (blk_below HX2.out hb); have nHX3_ := Aside0.mk (blk_below HX3.out hb); have nHB_ := Aside0.mk (below_step HB.out hb); clear HX2 HX3 HB hb; have HX2 := nHX2_; have HX3 := nHX3_; have HB := nHB_; clear nHX2_ nHX3_ nHB_; clear hown hgm; have hc20 := (blk_cell HX2.out 0).trans rfl; have hc21 := (blk_cell HX2.out 1).trans rfl; have hc30 := (blk_cell HX3.out 0).trans rfl) | (go_at_call 62; refine (size_run A0_1 c0_1 l0_1 _ (Kd.C_below HR.out HB.out) HC0.out).mono ?_; rintro e w_ ⟨rfl, hd⟩; have hb := hd.below; clear hd; (try clear hc20 hc21 hc30); have nHM_ := Aside0.mk (HM.out.kept (grown_of_below hb none) (by simp)); have nHX2_ := Aside0.mk (blk_below HX2.out hb); have nHX3_ := Aside0.mk (blk_below HX3.out hb); have nHB_ := Aside0.mk (below_step HB.out hb); clear HM HX2 HX3 HB hb; have HM := nHM_; have HX2 := nHX2_; have HX3 := nHX3_; have HB := nHB_; clear nHM_ nHX2_ nHX3_ nHB_; have hc20 := (blk_cell HX2.out 0).trans rfl; have hc21 := (blk_cell HX2.out 1).trans rfl; have hc30 := (blk_cell HX3.out 0).trans rfl))
  have HD0 := Aside0.mk (FarIs.empty l0_1.length)
  rw [← farInit_zero a0_0 l0_1 a1] at HD0
  (try clear hc20 hc21 hc30)
  go_loopg [26] l0_1.length (fun gg s26 wr => ∃ (i : Nat) (D : DataW Unit), i ≤ l0_1.length ∧ l0_1.length - i ≤ gg ∧ s26 = .int .i64 i ∧ Aside0 (FarIs D (farInit a0_0 l0_1 a1 i)) ∧ Aside0 (wr.ownsMap Tryd.prog 2 (plainElem Tryd.prog 2) gm 64 D) ∧ Aside0 (wr.heap[g2]? = some (.cells #[.int .i64 a0_0, .slice A0_1 l0_1.length c0_1] 28 (0, 0))) ∧ Aside0 (wr.heap[g3]? = some (.cells #[.int .i64 a1] 2 (0, 0))) ∧ Aside0 (Below w.heap.size w wr))
  case atStart => exact ⟨0, _, Nat.zero_le _, Nat.le_refl _, rfl, HD0, HM, HX2, HX3, HB⟩
  case round =>
    clear HD0 HM HX2 HX3 HB
    obtain ⟨i, D, hi, hgi, rfl, HD, HM, HX2, HX3, HB⟩ := hrel
    have hc20 := (blk_cell HX2.out 0).trans rfl; have hc21 := (blk_cell HX2.out 1).trans rfl; have hc30 := (blk_cell HX3.out 0).trans rfl
    by_cases hlt : i < l0_1.length
    · have q1 := decide_eq_true (show (i : Int) < (l0_1.length : Int) by omega)
      have q2 := decide_eq_true hlt
      have h0 : (0 : Int) ≤ (i : Int) := by omega
      have h1 : (i : Int) < (l0_1.length : Int) := by omega
      have HI := Aside0.mk (And.intro h0 h1)
      have HFS := Aside0.mk (farInit_step a0_0 l0_1 a1 i hlt)
      have HFL := Aside0.mk (show (farInit a0_0 l0_1 a1 i).length ≤ 64 by rw [farInit_len]; exact HL64.out)
      have HFN := Aside0.mk (show ((i : Int)).toNat < (farInit a0_0 l0_1 a1 i).length by rw [farInit_len, Int.toNat_natCast]; exact hlt)
      have HJm := Aside0.mk (show l0_1.length - (i + 1) < gk by omega)
      have HJr := Aside0.mk (show i + 1 ≤ l0_1.length by omega)
      have HJs := Aside0.mk (show wrap64 ((i : Int) + 1) = ((i + 1 : Nat) : Int) from wrap_next hlt (by have := HL64.out; omega))
      clear hi hgi hlt h0 h1
      cases hl0 : (lineV a0_0 a1 (i : Int) == 0) with
      | false =>
        have HNX := Aside0.mk (show farInit a0_0 l0_1 a1 (i + 1) = farInit a0_0 l0_1 a1 i by rw [HFS.out, if_neg (by rw [hl0]; simp)])
        go_wp2_with (first | (go_at_call 78; refine (HLINE _ (i : Int) (Kd.C_below HR.out HB.out)).mono ?_; rintro e w_ ⟨rfl, hb⟩; (try clear hc20 hc21 hc30); have nHM_ := Aside0.mk (HM.out.kept (grown_of_below hb none) (by simp)); have nHX2_ := Aside0.mk (blk_below HX2.out hb); have nHX3_ := Aside0.mk (blk_below HX3.out hb); have nHB_ := Aside0.mk (below_step HB.out hb); clear HM HX2 HX3 HB hb; have HM := nHM_; have HX2 := nHX2_; have HX3 := nHX3_; have HB := nHB_; clear nHM_ nHX2_ nHX3_ nHB_; have hc20 := (blk_cell HX2.out 0).trans rfl; have hc21 := (blk_cell HX2.out 1).trans rfl; have hc30 := (blk_cell HX3.out 0).trans rfl))
        go_roundg (l0_1.length - (i + 1))
        case measure => exact HJm.out
        case rel => exact ⟨i + 1, D, HJr.out, Nat.le_refl _, (by first | rfl | exact congrArg (Value.int .i64) HJs.out), ⟨by rw [HNX.out]; exact HD.out⟩, HM, HX2, HX3, HB⟩
      | true =>
        cases ho : openV l0_1 a1 (i : Int) with
        | false =>
          have HNX := Aside0.mk (show farInit a0_0 l0_1 a1 (i + 1) = farInit a0_0 l0_1 a1 i by rw [HFS.out, if_neg (by rw [ho]; simp)])
          go_wp2_with (first | (go_at_call 78; refine (HLINE _ (i : Int) (Kd.C_below HR.out HB.out)).mono ?_; rintro e w_ ⟨rfl, hb⟩; (try clear hc20 hc21 hc30); have nHM_ := Aside0.mk (HM.out.kept (grown_of_below hb none) (by simp)); have nHX2_ := Aside0.mk (blk_below HX2.out hb); have nHX3_ := Aside0.mk (blk_below HX3.out hb); have nHB_ := Aside0.mk (below_step HB.out hb); clear HM HX2 HX3 HB hb; have HM := nHM_; have HX2 := nHX2_; have HX3 := nHX3_; have HB := nHB_; clear nHM_ nHX2_ nHX3_ nHB_; have hc20 := (blk_cell HX2.out 0).trans rfl; have hc21 := (blk_cell HX2.out 1).trans rfl; have hc30 := (blk_cell HX3.out 0).trans rfl) | (go_at_call 77; refine (needOpen g2 g3 a0_0 A0_1 c0_1 l0_1 a1 _ HX2.out HX3.out (Kd.C_below HR.out HB.out) (i : Int) HI.out.1 HI.out.2).mono ?_; rintro e w_ ⟨rfl, hd⟩; have hb := hd.below; clear hd; (try clear hc20 hc21 hc30); have nHM_ := Aside0.mk (HM.out.kept (grown_of_below hb none) (by simp)); have nHX2_ := Aside0.mk (blk_below HX2.out hb); have nHX3_ := Aside0.mk (blk_below HX3.out hb); have nHB_ := Aside0.mk (below_step HB.out hb); clear HM HX2 HX3 HB hb; have HM := nHM_; have HX2 := nHX2_; have HX3 := nHX3_; have HB := nHB_; clear nHM_ nHX2_ nHX3_ nHB_; have hc20 := (blk_cell HX2.out 0).trans rfl; have hc21 := (blk_cell HX2.out 1).trans rfl; have hc30 := (blk_cell HX3.out 0).trans rfl))
          go_roundg (l0_1.length - (i + 1))
          case measure => exact HJm.out
          case rel => exact ⟨i + 1, D, HJr.out, Nat.le_refl _, (by first | rfl | exact congrArg (Value.int .i64) HJs.out), ⟨by rw [HNX.out]; exact HD.out⟩, HM, HX2, HX3, HB⟩
        | true =>
          have HNX := Aside0.mk (show farInit a0_0 l0_1 a1 (i + 1) = (farInit a0_0 l0_1 a1 i).set ((i : Int)).toNat (some (costV l0_1 (i : Int))) by rw [HFS.out, if_pos (by rw [hl0, ho]; rfl), Int.toNat_natCast])
          go_wp2_with (first | (go_at_call 78; refine (HLINE _ (i : Int) (Kd.C_below HR.out HB.out)).mono ?_; rintro e w_ ⟨rfl, hb⟩; (try clear hc20 hc21 hc30); have nHM_ := Aside0.mk (HM.out.kept (grown_of_below hb none) (by simp)); have nHX2_ := Aside0.mk (blk_below HX2.out hb); have nHX3_ := Aside0.mk (blk_below HX3.out hb); have nHB_ := Aside0.mk (below_step HB.out hb); clear HM HX2 HX3 HB hb; have HM := nHM_; have HX2 := nHX2_; have HX3 := nHX3_; have HB := nHB_; clear nHM_ nHX2_ nHX3_ nHB_; have hc20 := (blk_cell HX2.out 0).trans rfl; have hc21 := (blk_cell HX2.out 1).trans rfl; have hc30 := (blk_cell HX3.out 0).trans rfl) | (go_at_call 77; refine (needOpen g2 g3 a0_0 A0_1 c0_1 l0_1 a1 _ HX2.out HX3.out (Kd.C_below HR.out HB.out) (i : Int) HI.out.1 HI.out.2).mono ?_; rintro e w_ ⟨rfl, hd⟩; have hb := hd.below; clear hd; (try clear hc20 hc21 hc30); have nHM_ := Aside0.mk (HM.out.kept (grown_of_below hb none) (by simp)); have nHX2_ := Aside0.mk (blk_below HX2.out hb); have nHX3_ := Aside0.mk (blk_below HX3.out hb); have nHB_ := Aside0.mk (below_step HB.out hb); clear HM HX2 HX3 HB hb; have HM := nHM_; have HX2 := nHX2_; have HX3 := nHX3_; have HB := nHB_; clear nHM_ nHX2_ nHX3_ nHB_; have hc20 := (blk_cell HX2.out 0).trans rfl; have hc21 := (blk_cell HX2.out 1).trans rfl; have hc30 := (blk_cell HX3.out 0).trans rfl) | (go_at_call 76; refine (needCost g2 a0_0 A0_1 c0_1 l0_1 _ HX2.out (Kd.C_below HR.out HB.out) (i : Int) HI.out.1 HI.out.2).mono ?_; rintro e w_ ⟨rfl, hd⟩; have hb := hd.below; clear hd; (try clear hc20 hc21 hc30); have nHM_ := Aside0.mk (HM.out.kept (grown_of_below hb none) (by simp)); have nHX2_ := Aside0.mk (blk_below HX2.out hb); have nHX3_ := Aside0.mk (blk_below HX3.out hb); have nHB_ := Aside0.mk (below_step HB.out hb); clear HM HX2 HX3 HB hb; have HM := nHM_; have HX2 := nHX2_; have HX3 := nHX3_; have HB := nHB_; clear nHM_ nHX2_ nHX3_ nHB_; have hc20 := (blk_cell HX2.out 0).trans rfl; have hc21 := (blk_cell HX2.out 1).trans rfl; have hc30 := (blk_cell HX3.out 0).trans rfl) | (at_mapUpdate; refine wpList_mapUpdate_own _ rfl _ _ _ 88 rfl 2 2 law Tryd.underlying88 _ gm 64 _ rfl HM.out (by unfold maxLen; omega) _ _ _ rfl rfl (Go.Maps.keyOf_int_mk Tryd.underlying2 (wf_num_ (by have := HI.out; have := HL64.out; omega))) _ [] (plainElem_int Tryd.underlying2 (wf_num_ (by have := costV_small l0_1 (i : Int); omega))) ?_; intro wu hown1 hg1; have nF_ := Aside0.mk (FarIs.put HD.out (costV l0_1 (i : Int)) HI.out.1 (by rw [farInit_len]; exact HI.out.2)); have nM_ := Aside0.mk ((ownsMap_tight hown1).mono (Nat.le_trans (FarIs.count nF_.out) (by simp only [List.length_set]; exact HFL.out))); have n2_ := Aside0.mk (blk_grown HX2.out hg1 (by have := HG.out; intro e_; injection e_; omega)); have n3_ := Aside0.mk (blk_grown HX3.out hg1 (by have := HG.out; intro e_; injection e_; omega)); have nB_ := Aside0.mk (HB.out.grown hg1 (below_size HB.out) (fun j hj => by cases hj; exact HG.out.2.2)); skip; (try clear hc20 hc21 hc30); clear HM HX2 HX3 HB hown1 hg1 HD; have HM := nM_; have HX2 := n2_; have HX3 := n3_; have HB := nB_; have HD := nF_; clear nM_ n2_ n3_ nB_ nF_; have hc20 := (blk_cell HX2.out 0).trans rfl; have hc21 := (blk_cell HX2.out 1).trans rfl; have hc30 := (blk_cell HX3.out 0).trans rfl))
          trace_state
          go_roundg (l0_1.length - (i + 1))
          case measure => exact HJm.out
          case rel => exact ⟨i + 1, _, HJr.out, Nat.le_refl _, (by first | rfl | exact congrArg (Value.int .i64) HJs.out), ⟨by rw [HNX.out]; exact HD.out⟩, HM, HX2, HX3, HB⟩
    · have hie : i = l0_1.length := by omega
      subst hie
      have q1 := decide_eq_false (show ¬ (l0_1.length : Int) < (l0_1.length : Int) by omega)
      clear hi hgi hlt
      have HD2 := Aside0.mk (show ∃ D, FarIs D (farInit a0_0 l0_1 a1 l0_1.length) ∧ wr.ownsMap Tryd.prog 2 (plainElem Tryd.prog 2) gm 64 D from ⟨D, HD.out, HM.out⟩)
      have HK0 := Aside0.mk (Nat.le_refl k)
      generalize hf0 : farInit a0_0 l0_1 a1 l0_1.length = fr0 at HFAR HD2
      have HFL0 := Aside0.mk (show fr0.length = l0_1.length by rw [← hf0, farInit_len])
      clear hf0 HD HM
      go_wp2_with fail
      (try clear hc20 hc21 hc30)
      go_loopg [9] k (fun gg s9 wr => ∃ (kf : Nat) (ch : Bool) (far : List (Option Int)), kf ≤ gg ∧ s9 = .bool ch ∧ Aside0 (farLoop a0_0 l0_1 a1 kf ch far = some far0) ∧ Aside0 (far.length = l0_1.length) ∧ Aside0 (∃ D, FarIs D far ∧ wr.ownsMap Tryd.prog 2 (plainElem Tryd.prog 2) gm 64 D) ∧ Aside0 (wr.heap[g2]? = some (.cells #[.int .i64 a0_0, .slice A0_1 l0_1.length c0_1] 28 (0, 0))) ∧ Aside0 (wr.heap[g3]? = some (.cells #[.int .i64 a1] 2 (0, 0))) ∧ Aside0 (Below w.heap.size w wr))
      case atStart => exact ⟨k, true, fr0, Nat.le_refl _, rfl, HFAR, HFL0, HD2, HX2, HX3, HB⟩
      case round =>
        clear HD2 HX2 HX3 HB HFAR HFL0 HK0
        obtain ⟨kf, ch, far, hkf, rfl, HFK, HFLn, HDD, HX2, HX3, HB⟩ := hrel
        have hc20 := (blk_cell HX2.out 0).trans rfl; have hc21 := (blk_cell HX2.out 1).trans rfl; have hc30 := (blk_cell HX3.out 0).trans rfl
        cases ch with
        | true =>
          obtain ⟨k1, rfl⟩ : ∃ k1, kf = k1 + 1 := by
            cases kf with
            | zero => have := HFK.out; simp [farLoop] at this
            | succ k1 => exact ⟨k1, rfl⟩
          have hfk := HFK.out
          rw [farLoop, if_pos rfl] at hfk
          obtain ⟨⟨farR, chR⟩, hRR⟩ : ∃ R, farRound a0_0 l0_1 a1 l0_1.length 0 far false = R := ⟨_, rfl⟩
          rw [hRR] at hfk
          have HFK1 := Aside0.mk (show farLoop a0_0 l0_1 a1 k1 chR farR = some far0 from hfk)
          have HRR := Aside0.mk hRR
          have HKF := Aside0.mk hkf
          have HFR := Aside0.mk (show farR.length = l0_1.length by have := farRound_len a0_0 l0_1 a1 l0_1.length 0 far false; rw [HRR.out] at this; exact this.trans HFLn.out)
          clear hfk hRR hkf HFK
          obtain ⟨⟨D, HD, HM⟩⟩ := HDD
          have HD := Aside0.mk HD
          have HM := Aside0.mk HM
          go_wp2_with (first | (go_at_call 62; refine (size_run A0_1 c0_1 l0_1 _ (Kd.C_below HR.out HB.out) HC0.out).mono ?_; rintro e w_ ⟨rfl, hd⟩; have hb := hd.below; clear hd; (try clear hc20 hc21 hc30); have nHM_ := Aside0.mk (HM.out.kept (grown_of_below hb none) (by simp)); have nHX2_ := Aside0.mk (blk_below HX2.out hb); have nHX3_ := Aside0.mk (blk_below HX3.out hb); have nHB_ := Aside0.mk (below_step HB.out hb); clear HM HX2 HX3 HB hb; have HM := nHM_; have HX2 := nHX2_; have HX3 := nHX3_; have HB := nHB_; clear nHM_ nHX2_ nHX3_ nHB_; have hc20 := (blk_cell HX2.out 0).trans rfl; have hc21 := (blk_cell HX2.out 1).trans rfl; have hc30 := (blk_cell HX3.out 0).trans rfl))
          (try clear hc20 hc21 hc30)
          go_loopg [9, 49] l0_1.length (fun gg s9 s49 wr => ∃ (i : Nat) (far1 : List (Option Int)) (ch1 : Bool), i ≤ l0_1.length ∧ l0_1.length - i ≤ gg ∧ s49 = .int .i64 i ∧ s9 = .bool ch1 ∧ Aside0 (farRound a0_0 l0_1 a1 (l0_1.length - i) i far1 ch1 = (farR, chR)) ∧ Aside0 (far1.length = l0_1.length) ∧ Aside0 (∃ D, FarIs D far1 ∧ wr.ownsMap Tryd.prog 2 (plainElem Tryd.prog 2) gm 64 D) ∧ Aside0 (wr.heap[g2]? = some (.cells #[.int .i64 a0_0, .slice A0_1 l0_1.length c0_1] 28 (0, 0))) ∧ Aside0 (wr.heap[g3]? = some (.cells #[.int .i64 a1] 2 (0, 0))) ∧ Aside0 (Below w.heap.size w wr))
          case atStart => exact ⟨0, far, false, Nat.zero_le _, Nat.le_refl _, rfl, rfl, ⟨by rw [Nat.sub_zero]; exact HRR.out⟩, HFLn, ⟨D, HD.out, HM.out⟩, HX2, HX3, HB⟩
          case round =>
            clear HD HM HX2 HX3 HB HRR HFLn
            obtain ⟨i, far1, ch1, hi, hgi, rfl, rfl, HRR, HFLn, HDD, HX2, HX3, HB⟩ := hrel
            obtain ⟨⟨D, HD, HM⟩⟩ := HDD
            have HD := Aside0.mk HD
            have HM := Aside0.mk HM
            have hc20 := (blk_cell HX2.out 0).trans rfl; have hc21 := (blk_cell HX2.out 1).trans rfl; have hc30 := (blk_cell HX3.out 0).trans rfl
            by_cases hlt : i < l0_1.length
            · have q1 := decide_eq_true (show (i : Int) < (l0_1.length : Int) by omega)
              have q2 := decide_eq_true hlt
              have HI := Aside0.mk (show (0 : Int) ≤ (i : Int) ∧ (i : Int) < (l0_1.length : Int) by omega)
              have HIN := Aside0.mk hlt
              have HJm := Aside0.mk (show l0_1.length - (i + 1) < gk by omega)
              have HJr := Aside0.mk (show i + 1 ≤ l0_1.length by omega)
              have HJs := Aside0.mk (show wrap64 ((i : Int) + 1) = ((i + 1 : Nat) : Int) from wrap_next hlt (by have := HL64.out; omega))
              have HKL := Aside0.mk (Go.Maps.keyOf_int_mk (P := Tryd.prog) Tryd.underlying2 (wf_num_ (n := (i : Int)) (by have := HL64.out; omega)))
              have hrr := HRR.out
              rw [farRound_at a0_0 l0_1 a1 hlt] at hrr
              have HLK := Aside0.mk (HD.out.look (i : Int) (by omega))
              clear hi hgi hlt HRR
              cases hg : far1.getD i none with
              | none =>
                rw [hg] at hrr
                have HRR := Aside0.mk (show farRound a0_0 l0_1 a1 (l0_1.length - (i + 1)) (i + 1) far1 ch1 = (farR, chR) from hrr)
                have HHAS := Aside0.mk (show Go.Maps.has D (.int .i64 (i : Int)) = false by rw [HLK.out, Int.toNat_natCast, hg]; rfl)
                clear hrr hg HLK
                go_wp2_with (first | (at_lookup; refine wpList_lookup_own_ok_int _ rfl _ _ 88 rfl 2 2 .i64 law Tryd.underlying88 Tryd.underlying2 (zeroE _) gm 64 D rfl HM.out _ _ rfl HKL.out ?_; intro c1 hat hwc; clear hat hwc; rw [HHAS.out]))
                go_roundg (l0_1.length - (i + 1))
                case measure => exact HJm.out
                case rel => exact ⟨i + 1, far1, ch1, HJr.out, Nat.le_refl _, (by first | rfl | exact congrArg (Value.int .i64) HJs.out), rfl, HRR, HFLn, ⟨D, HD.out, HM.out⟩, HX2, HX3, HB⟩
              | some n =>
                rw [hg] at hrr
                obtain ⟨⟨S1, S2⟩, hS⟩ : ∃ S, farStep l0_1 a1 n (nearV a0_0 (i : Int)) far1 ch1 = S := ⟨_, rfl⟩
                have hrr : farRound a0_0 l0_1 a1 (l0_1.length - (i + 1)) (i + 1) (farStep l0_1 a1 n (nearV a0_0 (i : Int)) far1 ch1).1 (farStep l0_1 a1 n (nearV a0_0 (i : Int)) far1 ch1).2 = (farR, chR) := hrr
                rw [hS] at hrr
                have HRR := Aside0.mk (show farRound a0_0 l0_1 a1 (l0_1.length - (i + 1)) (i + 1) S1 S2 = (farR, chR) from hrr)
                have HSL := Aside0.mk (show S1.length = l0_1.length by have := farStep_len l0_1 a1 n (nearV a0_0 (i : Int)) far1 ch1; rw [hS] at this; exact this.trans HFLn.out)
                have HSS := Aside0.mk hS
                have HHAS := Aside0.mk (show Go.Maps.has D (.int .i64 (i : Int)) = true by rw [HLK.out, Int.toNat_natCast, hg]; rfl)
                have HVAL := Aside0.mk (fun (c : Int) (hat : D.atKey (.int .i64 (i : Int)) (.lit (.int .i64 0)) = .lit (.int .i64 c)) => HD.out.val (x := (i : Int)) (m := n) (by omega) (by rw [Int.toNat_natCast]; exact hg) hat)
                have HNF := Aside0.mk (show impl_near.f a0_0 (i : Int) = some (nearV a0_0 (i : Int)) by unfold impl_near.f; rw [if_neg (by have := HS.out; omega)])
                have HNEAR := Aside0.mk (near_in_ HS.out HSQ.out HIN.out)
                generalize nearV a0_0 (i : Int) = ys at HNF HSS HNEAR
                have HYL := Aside0.mk (show ys.length ≤ 100 from HNEAR.out.1)
                clear hrr hg HLK hS
                go_wp2_with (first | (at_lookup; refine wpList_lookup_own_ok_int _ rfl _ _ 88 rfl 2 2 .i64 law Tryd.underlying88 Tryd.underlying2 (zeroE _) gm 64 D rfl HM.out _ _ rfl HKL.out ?_; intro c1 hat hwc; obtain rfl := (HVAL.out c1 hat).symm; clear hat hwc; rw [HHAS.out]) | (go_at_call 79; refine (impl_near.calls a0_0 (i : Int) ys _ HNF.out).mono ?_; rintro e w_ ⟨v63, rfl, ho, hb⟩; obtain ⟨A63, c63, e63⟩ := Kd.R_slice ho; subst e63; have HN := Aside0.mk (Kd.R_lower (Kd.R_mono (ok' := fun k => k ≠ gm) (Kd.R_bound ho) (fun k hk => by have := hk.2.1; have := HM.out.lt; omega)) (below_size HB.out)); clear ho; (try clear hc20 hc21 hc30); have nHM_ := Aside0.mk (HM.out.kept (grown_of_below hb none) (by simp)); have nHX2_ := Aside0.mk (blk_below HX2.out hb); have nHX3_ := Aside0.mk (blk_below HX3.out hb); have nHB_ := Aside0.mk (below_step HB.out hb); clear HM HX2 HX3 HB hb; have HM := nHM_; have HX2 := nHX2_; have HX3 := nHX3_; have HB := nHB_; clear nHM_ nHX2_ nHX3_ nHB_; have hc20 := (blk_cell HX2.out 0).trans rfl; have hc21 := (blk_cell HX2.out 1).trans rfl; have hc30 := (blk_cell HX3.out 0).trans rfl))
                (try clear hc20 hc21 hc30)
                go_loopg [9, 65] ys.length (fun gg s9 s65 wr => ∃ (j : Nat) (far2 : List (Option Int)) (ch2 : Bool), j ≤ ys.length ∧ ys.length - j ≤ gg ∧ s65 = .int .i64 j ∧ s9 = .bool ch2 ∧ Aside0 (farStep l0_1 a1 n (ys.drop j) far2 ch2 = (S1, S2)) ∧ Aside0 (far2.length = l0_1.length) ∧ Aside0 (∃ D, FarIs D far2 ∧ wr.ownsMap Tryd.prog 2 (plainElem Tryd.prog 2) gm 64 D) ∧ Aside0 (wr.heap[g2]? = some (.cells #[.int .i64 a0_0, .slice A0_1 l0_1.length c0_1] 28 (0, 0))) ∧ Aside0 (wr.heap[g3]? = some (.cells #[.int .i64 a1] 2 (0, 0))) ∧ Aside0 (Kd.R (Kd.int .i64) 2 wr w.heap.size (fun k => k ≠ gm) (.slice A63 ys.length c63) ys) ∧ Aside0 (Below w.heap.size w wr))
                case atStart => exact ⟨0, far1, ch1, Nat.zero_le _, Nat.le_refl _, rfl, rfl, HSS, HFLn, ⟨D, HD.out, HM.out⟩, HX2, HX3, HN, HB⟩
                case round =>
                  clear HD HM HX2 HX3 HB HN HSS HFLn
                  obtain ⟨j, far2, ch2, hj, hgj, rfl, rfl, HSS, HFLn, HDD, HX2, HX3, HN, HB⟩ := hrel
                  obtain ⟨⟨D, HD, HM⟩⟩ := HDD
                  have HD := Aside0.mk HD
                  have HM := Aside0.mk HM
                  have hc20 := (blk_cell HX2.out 0).trans rfl; have hc21 := (blk_cell HX2.out 1).trans rfl; have hc30 := (blk_cell HX3.out 0).trans rfl
                  by_cases hlt : j < ys.length
                  · have hss := HSS.out
                    rw [List.drop_eq_getElem_cons hlt, farStep] at hss
                    obtain ⟨adz, ez, hxz⟩ := Kd.at_int (Kd.R_reads' HN.out).2.2 (j : Int) (by omega) (by omega)
                    subst ez
                    rw [Int.toNat_natCast, rd_get ys j hlt] at hxz
                    have hzb := HNEAR.out.2 ys[j] (List.getElem_mem hlt)
                    generalize ys[j] = z at hss hxz hzb
                    have HZ := Aside0.mk hzb
                    have q3 := decide_eq_true (show (j : Int) < (ys.length : Int) by omega)
                    have q4 := decide_eq_true hlt
                    have q5 := eq_true (show (j : Int) < (ys.length : Int) by omega)
                    have q6 := eq_true (show (0 : Int) ≤ (j : Int) by omega)
                    have q7 := eq_true hlt
                    have HLm := Aside0.mk (show ys.length - (j + 1) < gk by omega)
                    have HLr := Aside0.mk (show j + 1 ≤ ys.length by omega)
                    have HLs := Aside0.mk (show wrap64 ((j : Int) + 1) = ((j + 1 : Nat) : Int) from wrap_next hlt (by have := HYL.out; omega))
                    have HKL := Aside0.mk (Go.Maps.keyOf_int_mk (P := Tryd.prog) Tryd.underlying2 (wf_num_ (n := z) (by have := HL64.out; omega)))
                    have HFL := Aside0.mk (show far2.length ≤ 64 by rw [HFLn.out]; exact HL64.out)
                    have HLK := Aside0.mk (HD.out.look z hzb.1)
                    clear hj hgj hlt hzb HSS
                    cases ho : openV l0_1 a1 z with
                    | false =>
                      have HSS := Aside0.mk (show farStep l0_1 a1 n (ys.drop (j + 1)) far2 ch2 = (S1, S2) by rw [← hss, if_neg (by unfold betterV; rw [ho]; simp)])
                      obtain ⟨bm, hbm⟩ : ∃ bm, Go.Maps.has D (.int .i64 z) = bm := ⟨_, rfl⟩
                      have HHAS := Aside0.mk hbm
                      clear hss hbm HLK
                      go_wp2_with (first | (at_lookup; refine wpList_lookup_own_ok_int _ rfl _ _ 88 rfl 2 2 .i64 law Tryd.underlying88 Tryd.underlying2 (zeroE _) gm 64 D rfl HM.out _ _ rfl HKL.out ?_; intro c1 hat hwc; clear hat hwc; rw [HHAS.out]) | (go_at_call 77; refine (needOpen g2 g3 a0_0 A0_1 c0_1 l0_1 a1 _ HX2.out HX3.out (Kd.C_below HR.out HB.out) z HZ.out.1 HZ.out.2).mono ?_; rintro e w_ ⟨rfl, hd⟩; have hb := hd.below; clear hd; (try clear hc20 hc21 hc30); have nHM_ := Aside0.mk (HM.out.kept (grown_of_below hb none) (by simp)); have nHX2_ := Aside0.mk (blk_below HX2.out hb); have nHX3_ := Aside0.mk (blk_below HX3.out hb); have nHB_ := Aside0.mk (below_step HB.out hb); have nHN_ := Aside0.mk (Kd.R_below HN.out hb); clear HM HX2 HX3 HB HN hb; have HM := nHM_; have HX2 := nHX2_; have HX3 := nHX3_; have HB := nHB_; have HN := nHN_; clear nHM_ nHX2_ nHX3_ nHB_ nHN_; have hc20 := (blk_cell HX2.out 0).trans rfl; have hc21 := (blk_cell HX2.out 1).trans rfl; have hc30 := (blk_cell HX3.out 0).trans rfl))
                      go_roundg (ys.length - (j + 1))
                      case measure => exact HLm.out
                      case rel => exact ⟨j + 1, far2, ch2, HLr.out, Nat.le_refl _, (by first | rfl | exact congrArg (Value.int .i64) HLs.out), rfl, HSS, HFLn, ⟨D, HD.out, HM.out⟩, HX2, HX3, HN, HB⟩
                    | true =>
                      cases hm : far2.getD z.toNat none with
                      | none =>
                        have HSS := Aside0.mk (show farStep l0_1 a1 n (ys.drop (j + 1)) (far2.set z.toNat (some (wrap64 (n + costV l0_1 z)))) true = (S1, S2) by rw [← hss, if_pos (by unfold betterV; rw [ho, hm]; rfl)])
                        have HHAS := Aside0.mk (show Go.Maps.has D (.int .i64 z) = false by rw [HLK.out, hm]; rfl)
                        clear hss hm HLK
                        go_wp2_with (first | (at_lookup; refine wpList_lookup_own_ok_int _ rfl _ _ 88 rfl 2 2 .i64 law Tryd.underlying88 Tryd.underlying2 (zeroE _) gm 64 D rfl HM.out _ _ rfl HKL.out ?_; intro c1 hat hwc; clear hat hwc; rw [HHAS.out]) | (go_at_call 77; refine (needOpen g2 g3 a0_0 A0_1 c0_1 l0_1 a1 _ HX2.out HX3.out (Kd.C_below HR.out HB.out) z HZ.out.1 HZ.out.2).mono ?_; rintro e w_ ⟨rfl, hd⟩; have hb := hd.below; clear hd; (try clear hc20 hc21 hc30); have nHM_ := Aside0.mk (HM.out.kept (grown_of_below hb none) (by simp)); have nHX2_ := Aside0.mk (blk_below HX2.out hb); have nHX3_ := Aside0.mk (blk_below HX3.out hb); have nHB_ := Aside0.mk (below_step HB.out hb); have nHN_ := Aside0.mk (Kd.R_below HN.out hb); clear HM HX2 HX3 HB HN hb; have HM := nHM_; have HX2 := nHX2_; have HX3 := nHX3_; have HB := nHB_; have HN := nHN_; clear nHM_ nHX2_ nHX3_ nHB_ nHN_; have hc20 := (blk_cell HX2.out 0).trans rfl; have hc21 := (blk_cell HX2.out 1).trans rfl; have hc30 := (blk_cell HX3.out 0).trans rfl) | (go_at_call 76; refine (needCost g2 a0_0 A0_1 c0_1 l0_1 _ HX2.out (Kd.C_below HR.out HB.out) z HZ.out.1 HZ.out.2).mono ?_; rintro e w_ ⟨rfl, hd⟩; have hb := hd.below; clear hd; (try clear hc20 hc21 hc30); have nHM_ := Aside0.mk (HM.out.kept (grown_of_below hb none) (by simp)); have nHX2_ := Aside0.mk (blk_below HX2.out hb); have nHX3_ := Aside0.mk (blk_below HX3.out hb); have nHB_ := Aside0.mk (below_step HB.out hb); have nHN_ := Aside0.mk (Kd.R_below HN.out hb); clear HM HX2 HX3 HB HN hb; have HM := nHM_; have HX2 := nHX2_; have HX3 := nHX3_; have HB := nHB_; have HN := nHN_; clear nHM_ nHX2_ nHX3_ nHB_ nHN_; have hc20 := (blk_cell HX2.out 0).trans rfl; have hc21 := (blk_cell HX2.out 1).trans rfl; have hc30 := (blk_cell HX3.out 0).trans rfl) | (at_mapUpdate; refine wpList_mapUpdate_own _ rfl _ _ _ 88 rfl 2 2 law Tryd.underlying88 _ gm 64 _ rfl HM.out (by unfold maxLen; omega) _ _ _ rfl rfl (Go.Maps.keyOf_int_mk Tryd.underlying2 (wf_num_ (by have := HZ.out; have := HL64.out; omega))) _ [] (plainElem_int Tryd.underlying2 (wrap64_wf _)) ?_; intro wu hown1 hg1; have nF_ := Aside0.mk (FarIs.put HD.out (wrap64 (n + costV l0_1 z)) HZ.out.1 (by rw [HFLn.out]; exact HZ.out.2)); have nM_ := Aside0.mk ((ownsMap_tight hown1).mono (Nat.le_trans (FarIs.count nF_.out) (by simp only [List.length_set]; exact HFL.out))); have n2_ := Aside0.mk (blk_grown HX2.out hg1 (by have := HG.out; intro e_; injection e_; omega)); have n3_ := Aside0.mk (blk_grown HX3.out hg1 (by have := HG.out; intro e_; injection e_; omega)); have nB_ := Aside0.mk (HB.out.grown hg1 (below_size HB.out) (fun j hj => by cases hj; exact HG.out.2.2)); have nN_ := Aside0.mk (Kd.R_grown HN.out hg1 (fun k hk e_ => hk (by injection e_))); clear HN; have HN := nN_; clear nN_; (try clear hc20 hc21 hc30); clear HM HX2 HX3 HB hown1 hg1 HD; have HM := nM_; have HX2 := n2_; have HX3 := n3_; have HB := nB_; have HD := nF_; clear nM_ n2_ n3_ nB_ nF_; have hc20 := (blk_cell HX2.out 0).trans rfl; have hc21 := (blk_cell HX2.out 1).trans rfl; have hc30 := (blk_cell HX3.out 0).trans rfl))
                        go_roundg (ys.length - (j + 1))
                        case measure => exact HLm.out
                        case rel => exact ⟨j + 1, _, true, HLr.out, Nat.le_refl _, (by first | rfl | exact congrArg (Value.int .i64) HLs.out), rfl, HSS, ⟨by rw [List.length_set]; exact HFLn.out⟩, ⟨_, HD.out, HM.out⟩, HX2, HX3, HN, HB⟩
                      | some m =>
                        have HHAS := Aside0.mk (show Go.Maps.has D (.int .i64 z) = true by rw [HLK.out, hm]; rfl)
                        have HVAL := Aside0.mk (fun (c : Int) (hat : D.atKey (.int .i64 z) (.lit (.int .i64 0)) = .lit (.int .i64 c)) => HD.out.val (x := z) (m := m) HZ.out.1 hm hat)
                        by_cases hb : wrap64 (n + costV l0_1 z) < m
                        · have HSS := Aside0.mk (show farStep l0_1 a1 n (ys.drop (j + 1)) (far2.set z.toNat (some (wrap64 (n + costV l0_1 z)))) true = (S1, S2) by rw [← hss, if_pos (by unfold betterV; rw [ho, hm]; show (true && decide (wrap64 (n + costV l0_1 z) < m)) = true; rw [decide_eq_true hb]; rfl)])
                          have q8 := decide_eq_true hb
                          clear hss hm HLK hb
                          go_wp2_with (first | (at_lookup; refine wpList_lookup_own_ok_int _ rfl _ _ 88 rfl 2 2 .i64 law Tryd.underlying88 Tryd.underlying2 (zeroE _) gm 64 D rfl HM.out _ _ rfl HKL.out ?_; intro c1 hat hwc; obtain rfl := (HVAL.out c1 hat).symm; clear hat hwc; rw [HHAS.out]) | (go_at_call 77; refine (needOpen g2 g3 a0_0 A0_1 c0_1 l0_1 a1 _ HX2.out HX3.out (Kd.C_below HR.out HB.out) z HZ.out.1 HZ.out.2).mono ?_; rintro e w_ ⟨rfl, hd⟩; have hb := hd.below; clear hd; (try clear hc20 hc21 hc30); have nHM_ := Aside0.mk (HM.out.kept (grown_of_below hb none) (by simp)); have nHX2_ := Aside0.mk (blk_below HX2.out hb); have nHX3_ := Aside0.mk (blk_below HX3.out hb); have nHB_ := Aside0.mk (below_step HB.out hb); have nHN_ := Aside0.mk (Kd.R_below HN.out hb); clear HM HX2 HX3 HB HN hb; have HM := nHM_; have HX2 := nHX2_; have HX3 := nHX3_; have HB := nHB_; have HN := nHN_; clear nHM_ nHX2_ nHX3_ nHB_ nHN_; have hc20 := (blk_cell HX2.out 0).trans rfl; have hc21 := (blk_cell HX2.out 1).trans rfl; have hc30 := (blk_cell HX3.out 0).trans rfl) | (go_at_call 76; refine (needCost g2 a0_0 A0_1 c0_1 l0_1 _ HX2.out (Kd.C_below HR.out HB.out) z HZ.out.1 HZ.out.2).mono ?_; rintro e w_ ⟨rfl, hd⟩; have hb := hd.below; clear hd; (try clear hc20 hc21 hc30); have nHM_ := Aside0.mk (HM.out.kept (grown_of_below hb none) (by simp)); have nHX2_ := Aside0.mk (blk_below HX2.out hb); have nHX3_ := Aside0.mk (blk_below HX3.out hb); have nHB_ := Aside0.mk (below_step HB.out hb); have nHN_ := Aside0.mk (Kd.R_below HN.out hb); clear HM HX2 HX3 HB HN hb; have HM := nHM_; have HX2 := nHX2_; have HX3 := nHX3_; have HB := nHB_; have HN := nHN_; clear nHM_ nHX2_ nHX3_ nHB_ nHN_; have hc20 := (blk_cell HX2.out 0).trans rfl; have hc21 := (blk_cell HX2.out 1).trans rfl; have hc30 := (blk_cell HX3.out 0).trans rfl) | (at_mapUpdate; refine wpList_mapUpdate_own _ rfl _ _ _ 88 rfl 2 2 law Tryd.underlying88 _ gm 64 _ rfl HM.out (by unfold maxLen; omega) _ _ _ rfl rfl (Go.Maps.keyOf_int_mk Tryd.underlying2 (wf_num_ (by have := HZ.out; have := HL64.out; omega))) _ [] (plainElem_int Tryd.underlying2 (wrap64_wf _)) ?_; intro wu hown1 hg1; have nF_ := Aside0.mk (FarIs.put HD.out (wrap64 (n + costV l0_1 z)) HZ.out.1 (by rw [HFLn.out]; exact HZ.out.2)); have nM_ := Aside0.mk ((ownsMap_tight hown1).mono (Nat.le_trans (FarIs.count nF_.out) (by simp only [List.length_set]; exact HFL.out))); have n2_ := Aside0.mk (blk_grown HX2.out hg1 (by have := HG.out; intro e_; injection e_; omega)); have n3_ := Aside0.mk (blk_grown HX3.out hg1 (by have := HG.out; intro e_; injection e_; omega)); have nB_ := Aside0.mk (HB.out.grown hg1 (below_size HB.out) (fun j hj => by cases hj; exact HG.out.2.2)); have nN_ := Aside0.mk (Kd.R_grown HN.out hg1 (fun k hk e_ => hk (by injection e_))); clear HN; have HN := nN_; clear nN_; (try clear hc20 hc21 hc30); clear HM HX2 HX3 HB hown1 hg1 HD; have HM := nM_; have HX2 := n2_; have HX3 := n3_; have HB := nB_; have HD := nF_; clear nM_ n2_ n3_ nB_ nF_; have hc20 := (blk_cell HX2.out 0).trans rfl; have hc21 := (blk_cell HX2.out 1).trans rfl; have hc30 := (blk_cell HX3.out 0).trans rfl))
                          go_roundg (ys.length - (j + 1))
                          case measure => exact HLm.out
                          case rel => exact ⟨j + 1, _, true, HLr.out, Nat.le_refl _, (by first | rfl | exact congrArg (Value.int .i64) HLs.out), rfl, HSS, ⟨by rw [List.length_set]; exact HFLn.out⟩, ⟨_, HD.out, HM.out⟩, HX2, HX3, HN, HB⟩
                        · have HSS := Aside0.mk (show farStep l0_1 a1 n (ys.drop (j + 1)) far2 ch2 = (S1, S2) by rw [← hss, if_neg (by unfold betterV; rw [ho, hm]; show ¬ (true && decide (wrap64 (n + costV l0_1 z) < m)) = true; rw [decide_eq_false hb]; simp)])
                          have q8 := decide_eq_false hb
                          clear hss hm HLK hb
                          go_wp2_with (first | (at_lookup; refine wpList_lookup_own_ok_int _ rfl _ _ 88 rfl 2 2 .i64 law Tryd.underlying88 Tryd.underlying2 (zeroE _) gm 64 D rfl HM.out _ _ rfl HKL.out ?_; intro c1 hat hwc; obtain rfl := (HVAL.out c1 hat).symm; clear hat hwc; rw [HHAS.out]) | (go_at_call 77; refine (needOpen g2 g3 a0_0 A0_1 c0_1 l0_1 a1 _ HX2.out HX3.out (Kd.C_below HR.out HB.out) z HZ.out.1 HZ.out.2).mono ?_; rintro e w_ ⟨rfl, hd⟩; have hb := hd.below; clear hd; (try clear hc20 hc21 hc30); have nHM_ := Aside0.mk (HM.out.kept (grown_of_below hb none) (by simp)); have nHX2_ := Aside0.mk (blk_below HX2.out hb); have nHX3_ := Aside0.mk (blk_below HX3.out hb); have nHB_ := Aside0.mk (below_step HB.out hb); have nHN_ := Aside0.mk (Kd.R_below HN.out hb); clear HM HX2 HX3 HB HN hb; have HM := nHM_; have HX2 := nHX2_; have HX3 := nHX3_; have HB := nHB_; have HN := nHN_; clear nHM_ nHX2_ nHX3_ nHB_ nHN_; have hc20 := (blk_cell HX2.out 0).trans rfl; have hc21 := (blk_cell HX2.out 1).trans rfl; have hc30 := (blk_cell HX3.out 0).trans rfl) | (go_at_call 76; refine (needCost g2 a0_0 A0_1 c0_1 l0_1 _ HX2.out (Kd.C_below HR.out HB.out) z HZ.out.1 HZ.out.2).mono ?_; rintro e w_ ⟨rfl, hd⟩; have hb := hd.below; clear hd; (try clear hc20 hc21 hc30); have nHM_ := Aside0.mk (HM.out.kept (grown_of_below hb none) (by simp)); have nHX2_ := Aside0.mk (blk_below HX2.out hb); have nHX3_ := Aside0.mk (blk_below HX3.out hb); have nHB_ := Aside0.mk (below_step HB.out hb); have nHN_ := Aside0.mk (Kd.R_below HN.out hb); clear HM HX2 HX3 HB HN hb; have HM := nHM_; have HX2 := nHX2_; have HX3 := nHX3_; have HB := nHB_; have HN := nHN_; clear nHM_ nHX2_ nHX3_ nHB_ nHN_; have hc20 := (blk_cell HX2.out 0).trans rfl; have hc21 := (blk_cell HX2.out 1).trans rfl; have hc30 := (blk_cell HX3.out 0).trans rfl))
                          go_roundg (ys.length - (j + 1))
                          case measure => exact HLm.out
                          case rel => exact ⟨j + 1, far2, ch2, HLr.out, Nat.le_refl _, (by first | rfl | exact congrArg (Value.int .i64) HLs.out), rfl, HSS, HFLn, ⟨D, HD.out, HM.out⟩, HX2, HX3, HN, HB⟩
                  · have hje : j = ys.length := by omega
                    subst hje
                    have q3 := decide_eq_false (show ¬ (ys.length : Int) < (ys.length : Int) by omega)
                    have hend := HSS.out
                    rw [List.drop_eq_nil_of_le (Nat.le_refl _), farStep] at hend
                    injection hend with e1 e2
                    subst e1
                    subst e2
                    clear hj hgj hlt
                    go_wp2_with fail
                    go_roundg (l0_1.length - (i + 1))
                    case measure => exact HJm.out
                    case rel => exact ⟨i + 1, _, _, HJr.out, Nat.le_refl _, (by first | rfl | exact congrArg (Value.int .i64) HJs.out), rfl, HRR, HSL, ⟨D, HD.out, HM.out⟩, HX2, HX3, HB⟩
            · have hie : i = l0_1.length := by omega
              subst hie
              have q1 := decide_eq_false (show ¬ (l0_1.length : Int) < (l0_1.length : Int) by omega)
              have hend := HRR.out
              rw [Nat.sub_self, farRound] at hend
              injection hend with e1 e2
              subst e1
              subst e2
              clear hi hgi hlt
              go_wp2_with fail
              go_roundg k1
              case measure => have := HKF.out; omega
              case rel => exact ⟨k1, _, _, Nat.le_refl _, rfl, HFK1, HFR, ⟨D, HD.out, HM.out⟩, HX2, HX3, HB⟩
        | false =>
          have hend := HFK.out
          have hend : far = far0 := by
            cases kf with
            | zero => simp [farLoop] at hend
            | succ k1 => rw [farLoop, if_neg (by simp)] at hend; exact Option.some.inj hend
          subst hend
          obtain ⟨⟨D, HD, HM⟩⟩ := HDD
          have HD := Aside0.mk HD
          have HM := Aside0.mk HM
          clear hkf HFK
          have HBS := Aside0.mk (best_start (s := a0_0) (p := a1) (n := far.length) HD.out)
          have HCT := Aside0.mk HD.out.count
          go_wp2_with (first | (at_range; refine wpList_range_own _ rfl _ 88 rfl 2 2 law Tryd.underlying88 _ gm 64 D rfl HM.out ?_; intro w0_ hrg0 hg0 hs0))
          go_frame
          have HGr := Aside0.mk (show g2 < wr.heap.size ∧ g3 < wr.heap.size ∧ w.heap.size ≤ wr.heap.size by have := blk_lt HX2.out; have := blk_lt HX3.out; have := below_size HB.out; omega)
          have n2_ := Aside0.mk (blk_grown HX2.out hg0 (by simp))
          have n3_ := Aside0.mk (blk_grown HX3.out hg0 (by simp))
          have nB_ := Aside0.mk (HB.out.grown hg0 (below_size HB.out) (fun j hj => by cases hj))
          have HRG := Aside0.mk hrg0
          (try clear hc20 hc21 hc30)
          clear HX2 HX3 HB HM hrg0 hg0 hs0
          generalize wr.heap.size = r_ at HGr HRG ⊢
          go_loopg [17] far.length (fun gg s17 wr => ∃ (left : Lit → Bool) (cnt : Nat) (b : Int), cnt ≤ gg ∧ s17 = .int .i64 b ∧ Aside0 (IsBest a0_0 a1 far.length far (fun x => !left (.int .i64 x)) b) ∧ Aside0 (wr.ranges Tryd.prog 2 (plainElem Tryd.prog 2) gm r_ 64 D left cnt) ∧ Aside0 (wr.heap[g2]? = some (.cells #[.int .i64 a0_0, .slice A0_1 l0_1.length c0_1] 28 (0, 0))) ∧ Aside0 (wr.heap[g3]? = some (.cells #[.int .i64 a1] 2 (0, 0))) ∧ Aside0 (Below w.heap.size w wr))
          case atStart => exact ⟨_, _, -1, HCT.out, rfl, HBS, HRG, n2_, n3_, nB_⟩
          case round =>
            clear HBS HCT HRG n2_ n3_ nB_
            obtain ⟨left, cnt, b, hcn, rfl, HBS, HRG, HX2, HX3, HB⟩ := hrel
            go_wp2_with (first | (at_next; refine wpList_next_ranges_ii _ rfl _ rfl 2 2 .i64 .i64 law Tryd.underlying2 Tryd.underlying2 gm r_ 64 D left cnt rfl HRG.out ?_ ?_))
            · intro hc0 hl0
              have HV := Aside0.mk (show needBest a0_0 a1 far 0 (-1) = b from by
                have h_ := HBS.out
                have e_ : (fun x : Int => !left (.int .i64 x)) = fun _ => true := by funext x; rw [hl0]; rfl
                rw [e_] at h_
                exact (needBest_is a0_0 a1 far (fun o ho c hc => (HPOS.out o ho c hc).1) far 0 (-1) rfl (Nat.zero_le _) (.inl ⟨rfl, fun x c h1 _ hg _ => by simp at hg; omega⟩)).unique h_)
              have hv := HV.out
              subst hv
              clear HV
              go_wp2_with fail
              go_ret
              exact ⟨rfl, HB.out⟩
            · intro x c w1 cnt1 hwx hwc hlx hat hrg1 hlt hg1 hs1 hen
              obtain ⟨hx0, hxl, hxf⟩ := HD.out.entry hat
              have HBN := Aside0.mk (best_step HBS.out hx0 (by omega) hxf (HPOS.out (some c) (mem_getD_ hxf) c rfl).1)
              have n2_ := Aside0.mk (blk_grown HX2.out hg1 (by have := HGr.out; intro e_; injection e_; omega))
              have n3_ := Aside0.mk (blk_grown HX3.out hg1 (by have := HGr.out; intro e_; injection e_; omega))
              have nB_ := Aside0.mk (HB.out.grown hg1 (below_size HB.out) (fun j hj => by cases hj; exact HGr.out.2.2))
              have HCN := Aside0.mk (show cnt1 < gk by omega)
              have HSW := Aside0.mk (show wrap64 (a0_0 - 1) = a0_0 - 1 by have := HS.out; unfold wrap64; omega)
              clear HX2 HX3 HB HRG HBS hg1 hs1 hat hlx hwx hwc hlt hcn hx0 hxl hxf
              have HX2 := n2_
              have HX3 := n3_
              have HB := nB_
              have HRG := Aside0.mk hrg1
              clear n2_ n3_ nB_ hrg1
              have hc20 := (blk_cell HX2.out 0).trans rfl; have hc21 := (blk_cell HX2.out 1).trans rfl; have hc30 := (blk_cell HX3.out 0).trans rfl
              cases hl : (lineV a0_0 a1 x == wrap64 (a0_0 - 1)) with
              | false =>
                have HBE := Aside0.mk (show IsBest a0_0 a1 far.length far (fun y => !(left (.int .i64 y) && !(Lit.int .i64 y).sameKey (.int .i64 x))) b by have h_ := HBN.out; rw [if_neg (fun h => by have := beq_eq_false_iff_ne.1 hl; rw [HSW.out] at this; exact this h.1)] at h_; exact h_)
                go_wp2_with fail
                have d2_ := Aside0.mk (blk_drew HX2.out)
                have d3_ := Aside0.mk (blk_drew HX3.out)
                have dR_ := Aside0.mk (HRG.out.kept (grown_of_below (below_drew1 (Below.refl _ w1)) none) (by simp) (by simp))
                have dB_ := Aside0.mk (below_drew1 HB.out)
                clear HX2 HX3 HRG HB hc20 hc21 hc30 hen HBN
                refine start_ (n := 17) (S := fun w' => w'.cell? ⟨g2, 0, none⟩ = some (.int .i64 a0_0) ∧ w'.cell? ⟨g2, 1, none⟩ = some (.slice A0_1 l0_1.length c0_1) ∧ w'.cell? ⟨g3, 0, none⟩ = some (.int .i64 a1)) (ds := []) #[false, false, false, false, false, false, false, false, false, false, false, false, false, false, false, false, false] (by kernel_rfl) rfl rfl ⟨(blk_cell d2_.out 0).trans rfl, (blk_cell d2_.out 1).trans rfl, (blk_cell d3_.out 0).trans rfl⟩ (fun hHeld => ?_)
                refine with_tabW need_tab31 need_bits31 (fun HT_ HW_ => ?_)
                generalize hq_ : w1.drew = wd_ at d2_ d3_ dR_ dB_ hHeld ⊢
                clear hq_
                refine take_ (i := 0) (N := some 107) (v := ?_) (a' := ?_) (flg_ 17 1) rfl rfl (take_ofW HT_.out HW_.out (by kernel_rfl)) (fun _ _ _ h => h) (Or.inl ⟨by rfl, ?_⟩) hHeld ?_ ?_
                rotate_left
                · rintro w' ⟨s0_, s1_, s2_⟩
                  go_simp
                  with_reducible rfl
                rotate_left
                · simp only [Act.put, sz_, s0_, s1_, i64_w, i32_w]
                  rfl
                refine take_ (i := 1) (N := some 108) (v := ?_) (a' := ?_) (flg_ 17 3) rfl rfl (take_ofW HT_.out HW_.out (by kernel_rfl)) (fun _ _ _ h => h) (Or.inl ⟨by rfl, ?_⟩) hHeld ?_ ?_
                rotate_left
                · rintro w' ⟨s0_, s1_, s2_⟩
                  go_simp
                  with_reducible rfl
                rotate_left
                · simp only [Act.put, sz_, s0_, s1_, i64_w, i32_w]
                  rfl
                refine pure_ (i := 2) (N := some 109) (v := ?_) (a' := ?_) (flg_ 17 7) rfl rfl (any_of HT_.out (by kernel_rfl)) (fun _ _ _ h => h) (Or.inl ⟨by rfl, ?_⟩) ?_ ?_
                rotate_left
                · intro w'
                  go_simp
                  with_reducible rfl
                rotate_left
                · simp only [Act.put, sz_, s0_, s1_, i64_w, i32_w]
                  rfl
                refine pure_ (i := 4) (N := some 111) (v := ?_) (a' := ?_) (flg_ 17 23) rfl rfl (any_of HT_.out (by kernel_rfl)) (fun _ _ _ h => h) (Or.inl ⟨by rfl, ?_⟩) ?_ ?_
                rotate_left
                · intro w'
                  go_simp
                  with_reducible rfl
                rotate_left
                · simp only [Act.put, sz_, s0_, s1_, i64_w, i32_w]
                  rfl
                refine take_ (i := 5) (N := some 112) (v := ?_) (a' := ?_) (flg_ 17 55) rfl rfl (take_ofW HT_.out HW_.out (by kernel_rfl)) (fun _ _ _ h => h) (Or.inl ⟨by rfl, ?_⟩) hHeld ?_ ?_
                rotate_left
                · rintro w' ⟨s0_, s1_, s2_⟩
                  go_simp
                  with_reducible rfl
                rotate_left
                · simp only [Act.put, sz_, s0_, s1_, i64_w, i32_w]
                  rfl
                refine pure_ (i := 6) (N := some 113) (v := ?_) (a' := ?_) (flg_ 17 119) rfl rfl (any_of HT_.out (by kernel_rfl)) (fun _ _ _ h => h) (Or.inl ⟨by rfl, ?_⟩) ?_ ?_
                rotate_left
                · intro w'
                  go_simp
                  with_reducible rfl
                rotate_left
                · simp only [Act.put, sz_, s0_, s1_, i64_w, i32_w]
                  rfl
                refine one_ (i := 3) (N := some 110) (flg_ 17 127) rfl rfl (one_of HT_.out (by kernel_rfl)) (by decide) (fun K hK => ?_)
                refine goes_ Tryd.func78 (by kernel_rfl) rfl #[.agg #[.int .i64 a0_0, .slice A0_1 l0_1.length c0_1], .int .i64 a1, .int .i64 x] (by rfl) rfl rfl (by (try simp only [List.map_toArray, List.map_cons, List.map_nil]); first | done | rfl) ?_
                refine (HLINE _ x (Kd.C_below HR.out dB_.out)).mono ?_
                rintro e wa_ ⟨rfl, hb⟩
                refine ⟨_, rfl, ?_⟩
                have HX2 := Aside0.mk (blk_below d2_.out hb)
                have HX3 := Aside0.mk (blk_below d3_.out hb)
                have HRG := Aside0.mk (dR_.out.kept (grown_of_below hb none) (by simp) (by simp))
                have HB := Aside0.mk (below_step dB_.out hb)
                clear hb d2_ d3_ dR_ dB_
                refine hK.out _ _ ⟨(blk_cell HX2.out 0).trans rfl, (blk_cell HX2.out 1).trans rfl, (blk_cell HX3.out 0).trans rfl⟩ (fun hHeld => ?_)
                clear hK K
                refine norm_ (a' := ?_) ?_ ?_
                rotate_left
                · show Act.put _ (some 110) _ = _
                  simp only [Act.put, sz_, s0_, s1_, i64_w, i32_w]
                  rfl
                refine pure_ (i := 7) (N := some 114) (v := ?_) (a' := ?_) (flg_ 17 255) rfl rfl (any_of HT_.out (by kernel_rfl)) (fun _ _ _ h => h) (Or.inl ⟨by rfl, ?_⟩) ?_ ?_
                rotate_left
                · intro w'
                  go_simp
                  with_reducible rfl
                rotate_left
                · simp only [Act.put, sz_, s0_, s1_, i64_w, i32_w]
                  rfl
                refine pure_ (i := 8) (N := some 115) (v := ?_) (a' := ?_) (flg_ 17 511) rfl rfl (any_of HT_.out (by kernel_rfl)) (fun _ _ _ h => h) (Or.inl ⟨by rfl, ?_⟩) ?_ ?_
                rotate_left
                · intro w'
                  go_simp
                  with_reducible rfl
                rotate_left
                · simp only [Act.put, sz_, s0_, s1_, i64_w, i32_w]
                  rfl
                refine pure_ (i := 9) (N := some 116) (v := undef) (a' := ?_) (flg_ 17 1023) rfl rfl (any_of HT_.out (by kernel_rfl)) (fun _ _ _ h => h) (Or.inr ⟨by rfl, rfl⟩) ?_ ?_
                rotate_left
                · simp only [Act.put, sz_, s0_, s1_, i64_w, i32_w]
                  rfl
                refine pure_ (i := 10) (N := some 117) (v := undef) (a' := ?_) (flg_ 17 2047) rfl rfl (any_of HT_.out (by kernel_rfl)) (fun _ _ _ h => h) (Or.inr ⟨by rfl, rfl⟩) ?_ ?_
                rotate_left
                · simp only [Act.put, sz_, s0_, s1_, i64_w, i32_w]
                  rfl
                refine pure_ (i := 11) (N := some 118) (v := undef) (a' := ?_) (flg_ 17 4095) rfl rfl (any_of HT_.out (by kernel_rfl)) (fun _ _ _ h => h) (Or.inr ⟨by rfl, rfl⟩) ?_ ?_
                rotate_left
                · simp only [Act.put, sz_, s0_, s1_, i64_w, i32_w]
                  rfl
                refine pure_ (i := 12) (N := some 119) (v := undef) (a' := ?_) (flg_ 17 8191) rfl rfl (any_of HT_.out (by kernel_rfl)) (fun _ _ _ h => h) (Or.inr ⟨by rfl, rfl⟩) ?_ ?_
                rotate_left
                · simp only [Act.put, sz_, s0_, s1_, i64_w, i32_w]
                  rfl
                refine pure_ (i := 13) (N := some 120) (v := undef) (a' := ?_) (flg_ 17 16383) rfl rfl (any_of HT_.out (by kernel_rfl)) (fun _ _ _ h => h) (Or.inr ⟨by rfl, rfl⟩) ?_ ?_
                rotate_left
                · simp only [Act.put, sz_, s0_, s1_, i64_w, i32_w]
                  rfl
                refine pure_ (i := 14) (N := some 121) (v := undef) (a' := ?_) (flg_ 17 32767) rfl rfl (any_of HT_.out (by kernel_rfl)) (fun _ _ _ h => h) (Or.inr ⟨by rfl, rfl⟩) ?_ ?_
                rotate_left
                · simp only [Act.put, sz_, s0_, s1_, i64_w, i32_w]
                  rfl
                refine pure_ (i := 15) (N := some 122) (v := undef) (a' := ?_) (flg_ 17 65535) rfl rfl (any_of HT_.out (by kernel_rfl)) (fun _ _ _ h => h) (Or.inr ⟨by rfl, rfl⟩) ?_ ?_
                rotate_left
                · simp only [Act.put, sz_, s0_, s1_, i64_w, i32_w]
                  rfl
                refine pure_ (i := 16) (N := some 123) (v := ?_) (a' := ?_) (flg_ 17 131071) rfl rfl (any_of HT_.out (by kernel_rfl)) (fun _ _ _ h => h) (Or.inl ⟨by rfl, ?_⟩) ?_ ?_
                rotate_left
                · intro w'
                  go_simp
                  with_reducible rfl
                rotate_left
                · simp only [Act.put, sz_, s0_, s1_, i64_w, i32_w]
                  rfl
                refine done_ (done_of HT_.out (by kernel_rfl)) ?_
                go_wp2_with fail
                go_roundg cnt1
                case measure => exact HCN.out
                case rel => exact ⟨_, cnt1, b, Nat.le_refl _, rfl, HBE, HRG, HX2, HX3, HB⟩
              | true =>
                have hle := beq_iff_eq.1 hl
                rw [HSW.out] at hle
                by_cases hb0 : b < 0
                · have HBE := Aside0.mk (show IsBest a0_0 a1 far.length far (fun y => !(left (.int .i64 y) && !(Lit.int .i64 y).sameKey (.int .i64 x))) c by have h_ := HBN.out; rw [if_pos ⟨hle, .inl hb0⟩] at h_; exact h_)
                  have q1 := decide_eq_true hb0
                  clear hle hb0
                  go_wp2_with fail
                  have d2_ := Aside0.mk (blk_drew HX2.out)
                  have d3_ := Aside0.mk (blk_drew HX3.out)
                  have dR_ := Aside0.mk (HRG.out.kept (grown_of_below (below_drew1 (Below.refl _ w1)) none) (by simp) (by simp))
                  have dB_ := Aside0.mk (below_drew1 HB.out)
                  clear HX2 HX3 HRG HB hc20 hc21 hc30 hen HBN
                  refine start_ (n := 17) (S := fun w' => w'.cell? ⟨g2, 0, none⟩ = some (.int .i64 a0_0) ∧ w'.cell? ⟨g2, 1, none⟩ = some (.slice A0_1 l0_1.length c0_1) ∧ w'.cell? ⟨g3, 0, none⟩ = some (.int .i64 a1)) (ds := []) #[false, false, false, false, false, false, false, false, false, false, false, false, false, false, false, false, false] (by kernel_rfl) rfl rfl ⟨(blk_cell d2_.out 0).trans rfl, (blk_cell d2_.out 1).trans rfl, (blk_cell d3_.out 0).trans rfl⟩ (fun hHeld => ?_)
                  refine with_tabW need_tab31 need_bits31 (fun HT_ HW_ => ?_)
                  generalize hq_ : w1.drew = wd_ at d2_ d3_ dR_ dB_ hHeld ⊢
                  clear hq_
                  refine take_ (i := 0) (N := some 107) (v := ?_) (a' := ?_) (flg_ 17 1) rfl rfl (take_ofW HT_.out HW_.out (by kernel_rfl)) (fun _ _ _ h => h) (Or.inl ⟨by rfl, ?_⟩) hHeld ?_ ?_
                  rotate_left
                  · rintro w' ⟨s0_, s1_, s2_⟩
                    go_simp
                    with_reducible rfl
                  rotate_left
                  · simp only [Act.put, sz_, s0_, s1_, i64_w, i32_w]
                    rfl
                  refine take_ (i := 1) (N := some 108) (v := ?_) (a' := ?_) (flg_ 17 3) rfl rfl (take_ofW HT_.out HW_.out (by kernel_rfl)) (fun _ _ _ h => h) (Or.inl ⟨by rfl, ?_⟩) hHeld ?_ ?_
                  rotate_left
                  · rintro w' ⟨s0_, s1_, s2_⟩
                    go_simp
                    with_reducible rfl
                  rotate_left
                  · simp only [Act.put, sz_, s0_, s1_, i64_w, i32_w]
                    rfl
                  refine pure_ (i := 2) (N := some 109) (v := ?_) (a' := ?_) (flg_ 17 7) rfl rfl (any_of HT_.out (by kernel_rfl)) (fun _ _ _ h => h) (Or.inl ⟨by rfl, ?_⟩) ?_ ?_
                  rotate_left
                  · intro w'
                    go_simp
                    with_reducible rfl
                  rotate_left
                  · simp only [Act.put, sz_, s0_, s1_, i64_w, i32_w]
                    rfl
                  refine pure_ (i := 4) (N := some 111) (v := ?_) (a' := ?_) (flg_ 17 23) rfl rfl (any_of HT_.out (by kernel_rfl)) (fun _ _ _ h => h) (Or.inl ⟨by rfl, ?_⟩) ?_ ?_
                  rotate_left
                  · intro w'
                    go_simp
                    with_reducible rfl
                  rotate_left
                  · simp only [Act.put, sz_, s0_, s1_, i64_w, i32_w]
                    rfl
                  refine take_ (i := 5) (N := some 112) (v := ?_) (a' := ?_) (flg_ 17 55) rfl rfl (take_ofW HT_.out HW_.out (by kernel_rfl)) (fun _ _ _ h => h) (Or.inl ⟨by rfl, ?_⟩) hHeld ?_ ?_
                  rotate_left
                  · rintro w' ⟨s0_, s1_, s2_⟩
                    go_simp
                    with_reducible rfl
                  rotate_left
                  · simp only [Act.put, sz_, s0_, s1_, i64_w, i32_w]
                    rfl
                  refine pure_ (i := 6) (N := some 113) (v := ?_) (a' := ?_) (flg_ 17 119) rfl rfl (any_of HT_.out (by kernel_rfl)) (fun _ _ _ h => h) (Or.inl ⟨by rfl, ?_⟩) ?_ ?_
                  rotate_left
                  · intro w'
                    go_simp
                    with_reducible rfl
                  rotate_left
                  · simp only [Act.put, sz_, s0_, s1_, i64_w, i32_w]
                    rfl
                  refine one_ (i := 3) (N := some 110) (flg_ 17 127) rfl rfl (one_of HT_.out (by kernel_rfl)) (by decide) (fun K hK => ?_)
                  refine goes_ Tryd.func78 (by kernel_rfl) rfl #[.agg #[.int .i64 a0_0, .slice A0_1 l0_1.length c0_1], .int .i64 a1, .int .i64 x] (by rfl) rfl rfl (by (try simp only [List.map_toArray, List.map_cons, List.map_nil]); first | done | rfl) ?_
                  refine (HLINE _ x (Kd.C_below HR.out dB_.out)).mono ?_
                  rintro e wa_ ⟨rfl, hb⟩
                  refine ⟨_, rfl, ?_⟩
                  have HX2 := Aside0.mk (blk_below d2_.out hb)
                  have HX3 := Aside0.mk (blk_below d3_.out hb)
                  have HRG := Aside0.mk (dR_.out.kept (grown_of_below hb none) (by simp) (by simp))
                  have HB := Aside0.mk (below_step dB_.out hb)
                  clear hb d2_ d3_ dR_ dB_
                  refine hK.out _ _ ⟨(blk_cell HX2.out 0).trans rfl, (blk_cell HX2.out 1).trans rfl, (blk_cell HX3.out 0).trans rfl⟩ (fun hHeld => ?_)
                  clear hK K
                  refine norm_ (a' := ?_) ?_ ?_
                  rotate_left
                  · show Act.put _ (some 110) _ = _
                    simp only [Act.put, sz_, s0_, s1_, i64_w, i32_w]
                    rfl
                  refine pure_ (i := 7) (N := some 114) (v := ?_) (a' := ?_) (flg_ 17 255) rfl rfl (any_of HT_.out (by kernel_rfl)) (fun _ _ _ h => h) (Or.inl ⟨by rfl, ?_⟩) ?_ ?_
                  rotate_left
                  · intro w'
                    go_simp
                    with_reducible rfl
                  rotate_left
                  · simp only [Act.put, sz_, s0_, s1_, i64_w, i32_w]
                    rfl
                  refine pure_ (i := 8) (N := some 115) (v := ?_) (a' := ?_) (flg_ 17 511) rfl rfl (any_of HT_.out (by kernel_rfl)) (fun _ _ _ h => h) (Or.inl ⟨by rfl, ?_⟩) ?_ ?_
                  rotate_left
                  · intro w'
                    go_simp
                    with_reducible rfl
                  rotate_left
                  · simp only [Act.put, sz_, s0_, s1_, i64_w, i32_w]
                    rfl
                  refine pure_ (i := 9) (N := some 116) (v := ?_) (a' := ?_) (flg_ 17 1023) rfl rfl (any_of HT_.out (by kernel_rfl)) (fun _ _ _ h => h) (Or.inl ⟨by rfl, ?_⟩) ?_ ?_
                  rotate_left
                  · intro w'
                    go_simp
                    with_reducible rfl
                  rotate_left
                  · simp only [Act.put, sz_, s0_, s1_, i64_w, i32_w]
                    rfl
                  refine pure_ (i := 10) (N := some 117) (v := ?_) (a' := ?_) (flg_ 17 2047) rfl rfl (any_of HT_.out (by kernel_rfl)) (fun _ _ _ h => h) (Or.inl ⟨by rfl, ?_⟩) ?_ ?_
                  rotate_left
                  · intro w'
                    go_simp
                    with_reducible rfl
                  rotate_left
                  · simp only [Act.put, sz_, s0_, s1_, i64_w, i32_w]
                    rfl
                  refine pure_ (i := 11) (N := some 118) (v := ?_) (a' := ?_) (flg_ 17 4095) rfl rfl (any_of HT_.out (by kernel_rfl)) (fun _ _ _ h => h) (Or.inl ⟨by rfl, ?_⟩) ?_ ?_
                  rotate_left
                  · intro w'
                    go_simp
                    with_reducible rfl
                  rotate_left
                  · simp only [Act.put, sz_, s0_, s1_, i64_w, i32_w]
                    rfl
                  refine pure_ (i := 12) (N := some 119) (v := undef) (a' := ?_) (flg_ 17 8191) rfl rfl (any_of HT_.out (by kernel_rfl)) (fun _ _ _ h => h) (Or.inr ⟨by rfl, rfl⟩) ?_ ?_
                  rotate_left
                  · simp only [Act.put, sz_, s0_, s1_, i64_w, i32_w]
                    rfl
                  refine pure_ (i := 13) (N := some 120) (v := undef) (a' := ?_) (flg_ 17 16383) rfl rfl (any_of HT_.out (by kernel_rfl)) (fun _ _ _ h => h) (Or.inr ⟨by rfl, rfl⟩) ?_ ?_
                  rotate_left
                  · simp only [Act.put, sz_, s0_, s1_, i64_w, i32_w]
                    rfl
                  refine pure_ (i := 14) (N := some 121) (v := undef) (a' := ?_) (flg_ 17 32767) rfl rfl (any_of HT_.out (by kernel_rfl)) (fun _ _ _ h => h) (Or.inr ⟨by rfl, rfl⟩) ?_ ?_
                  rotate_left
                  · simp only [Act.put, sz_, s0_, s1_, i64_w, i32_w]
                    rfl
                  refine pure_ (i := 15) (N := some 122) (v := ?_) (a' := ?_) (flg_ 17 65535) rfl rfl (any_of HT_.out (by kernel_rfl)) (fun _ _ _ h => h) (Or.inl ⟨by rfl, ?_⟩) ?_ ?_
                  rotate_left
                  · intro w'
                    go_simp
                    with_reducible rfl
                  rotate_left
                  · simp only [Act.put, sz_, s0_, s1_, i64_w, i32_w]
                    rfl
                  refine pure_ (i := 16) (N := some 123) (v := ?_) (a' := ?_) (flg_ 17 131071) rfl rfl (any_of HT_.out (by kernel_rfl)) (fun _ _ _ h => h) (Or.inl ⟨by rfl, ?_⟩) ?_ ?_
                  rotate_left
                  · intro w'
                    go_simp
                    with_reducible rfl
                  rotate_left
                  · simp only [Act.put, sz_, s0_, s1_, i64_w, i32_w]
                    rfl
                  refine done_ (done_of HT_.out (by kernel_rfl)) ?_
                  go_wp2_with fail
                  go_roundg cnt1
                  case measure => exact HCN.out
                  case rel => exact ⟨_, cnt1, c, Nat.le_refl _, rfl, HBE, HRG, HX2, HX3, HB⟩
                · by_cases hcb : c < b
                  · have HBE := Aside0.mk (show IsBest a0_0 a1 far.length far (fun y => !(left (.int .i64 y) && !(Lit.int .i64 y).sameKey (.int .i64 x))) c by have h_ := HBN.out; rw [if_pos ⟨hle, .inr hcb⟩] at h_; exact h_)
                    have q1 := decide_eq_false hb0
                    have q2 := decide_eq_true hcb
                    clear hle hb0 hcb
                    go_wp2_with fail
                    have d2_ := Aside0.mk (blk_drew HX2.out)
                    have d3_ := Aside0.mk (blk_drew HX3.out)
                    have dR_ := Aside0.mk (HRG.out.kept (grown_of_below (below_drew1 (Below.refl _ w1)) none) (by simp) (by simp))
                    have dB_ := Aside0.mk (below_drew1 HB.out)
                    clear HX2 HX3 HRG HB hc20 hc21 hc30 hen HBN
                    refine start_ (n := 17) (S := fun w' => w'.cell? ⟨g2, 0, none⟩ = some (.int .i64 a0_0) ∧ w'.cell? ⟨g2, 1, none⟩ = some (.slice A0_1 l0_1.length c0_1) ∧ w'.cell? ⟨g3, 0, none⟩ = some (.int .i64 a1)) (ds := []) #[false, false, false, false, false, false, false, false, false, false, false, false, false, false, false, false, false] (by kernel_rfl) rfl rfl ⟨(blk_cell d2_.out 0).trans rfl, (blk_cell d2_.out 1).trans rfl, (blk_cell d3_.out 0).trans rfl⟩ (fun hHeld => ?_)
                    refine with_tabW need_tab31 need_bits31 (fun HT_ HW_ => ?_)
                    generalize hq_ : w1.drew = wd_ at d2_ d3_ dR_ dB_ hHeld ⊢
                    clear hq_
                    refine take_ (i := 0) (N := some 107) (v := ?_) (a' := ?_) (flg_ 17 1) rfl rfl (take_ofW HT_.out HW_.out (by kernel_rfl)) (fun _ _ _ h => h) (Or.inl ⟨by rfl, ?_⟩) hHeld ?_ ?_
                    rotate_left
                    · rintro w' ⟨s0_, s1_, s2_⟩
                      go_simp
                      with_reducible rfl
                    rotate_left
                    · simp only [Act.put, sz_, s0_, s1_, i64_w, i32_w]
                      rfl
                    refine take_ (i := 1) (N := some 108) (v := ?_) (a' := ?_) (flg_ 17 3) rfl rfl (take_ofW HT_.out HW_.out (by kernel_rfl)) (fun _ _ _ h => h) (Or.inl ⟨by rfl, ?_⟩) hHeld ?_ ?_
                    rotate_left
                    · rintro w' ⟨s0_, s1_, s2_⟩
                      go_simp
                      with_reducible rfl
                    rotate_left
                    · simp only [Act.put, sz_, s0_, s1_, i64_w, i32_w]
                      rfl
                    refine pure_ (i := 2) (N := some 109) (v := ?_) (a' := ?_) (flg_ 17 7) rfl rfl (any_of HT_.out (by kernel_rfl)) (fun _ _ _ h => h) (Or.inl ⟨by rfl, ?_⟩) ?_ ?_
                    rotate_left
                    · intro w'
                      go_simp
                      with_reducible rfl
                    rotate_left
                    · simp only [Act.put, sz_, s0_, s1_, i64_w, i32_w]
                      rfl
                    refine pure_ (i := 4) (N := some 111) (v := ?_) (a' := ?_) (flg_ 17 23) rfl rfl (any_of HT_.out (by kernel_rfl)) (fun _ _ _ h => h) (Or.inl ⟨by rfl, ?_⟩) ?_ ?_
                    rotate_left
                    · intro w'
                      go_simp
                      with_reducible rfl
                    rotate_left
                    · simp only [Act.put, sz_, s0_, s1_, i64_w, i32_w]
                      rfl
                    refine take_ (i := 5) (N := some 112) (v := ?_) (a' := ?_) (flg_ 17 55) rfl rfl (take_ofW HT_.out HW_.out (by kernel_rfl)) (fun _ _ _ h => h) (Or.inl ⟨by rfl, ?_⟩) hHeld ?_ ?_
                    rotate_left
                    · rintro w' ⟨s0_, s1_, s2_⟩
                      go_simp
                      with_reducible rfl
                    rotate_left
                    · simp only [Act.put, sz_, s0_, s1_, i64_w, i32_w]
                      rfl
                    refine pure_ (i := 6) (N := some 113) (v := ?_) (a' := ?_) (flg_ 17 119) rfl rfl (any_of HT_.out (by kernel_rfl)) (fun _ _ _ h => h) (Or.inl ⟨by rfl, ?_⟩) ?_ ?_
                    rotate_left
                    · intro w'
                      go_simp
                      with_reducible rfl
                    rotate_left
                    · simp only [Act.put, sz_, s0_, s1_, i64_w, i32_w]
                      rfl
                    refine one_ (i := 3) (N := some 110) (flg_ 17 127) rfl rfl (one_of HT_.out (by kernel_rfl)) (by decide) (fun K hK => ?_)
                    refine goes_ Tryd.func78 (by kernel_rfl) rfl #[.agg #[.int .i64 a0_0, .slice A0_1 l0_1.length c0_1], .int .i64 a1, .int .i64 x] (by rfl) rfl rfl (by (try simp only [List.map_toArray, List.map_cons, List.map_nil]); first | done | rfl) ?_
                    refine (HLINE _ x (Kd.C_below HR.out dB_.out)).mono ?_
                    rintro e wa_ ⟨rfl, hb⟩
                    refine ⟨_, rfl, ?_⟩
                    have HX2 := Aside0.mk (blk_below d2_.out hb)
                    have HX3 := Aside0.mk (blk_below d3_.out hb)
                    have HRG := Aside0.mk (dR_.out.kept (grown_of_below hb none) (by simp) (by simp))
                    have HB := Aside0.mk (below_step dB_.out hb)
                    clear hb d2_ d3_ dR_ dB_
                    refine hK.out _ _ ⟨(blk_cell HX2.out 0).trans rfl, (blk_cell HX2.out 1).trans rfl, (blk_cell HX3.out 0).trans rfl⟩ (fun hHeld => ?_)
                    clear hK K
                    refine norm_ (a' := ?_) ?_ ?_
                    rotate_left
                    · show Act.put _ (some 110) _ = _
                      simp only [Act.put, sz_, s0_, s1_, i64_w, i32_w]
                      rfl
                    refine pure_ (i := 7) (N := some 114) (v := ?_) (a' := ?_) (flg_ 17 255) rfl rfl (any_of HT_.out (by kernel_rfl)) (fun _ _ _ h => h) (Or.inl ⟨by rfl, ?_⟩) ?_ ?_
                    rotate_left
                    · intro w'
                      go_simp
                      with_reducible rfl
                    rotate_left
                    · simp only [Act.put, sz_, s0_, s1_, i64_w, i32_w]
                      rfl
                    refine pure_ (i := 8) (N := some 115) (v := ?_) (a' := ?_) (flg_ 17 511) rfl rfl (any_of HT_.out (by kernel_rfl)) (fun _ _ _ h => h) (Or.inl ⟨by rfl, ?_⟩) ?_ ?_
                    rotate_left
                    · intro w'
                      go_simp
                      with_reducible rfl
                    rotate_left
                    · simp only [Act.put, sz_, s0_, s1_, i64_w, i32_w]
                      rfl
                    refine pure_ (i := 9) (N := some 116) (v := ?_) (a' := ?_) (flg_ 17 1023) rfl rfl (any_of HT_.out (by kernel_rfl)) (fun _ _ _ h => h) (Or.inl ⟨by rfl, ?_⟩) ?_ ?_
                    rotate_left
                    · intro w'
                      go_simp
                      with_reducible rfl
                    rotate_left
                    · simp only [Act.put, sz_, s0_, s1_, i64_w, i32_w]
                      rfl
                    refine pure_ (i := 10) (N := some 117) (v := ?_) (a' := ?_) (flg_ 17 2047) rfl rfl (any_of HT_.out (by kernel_rfl)) (fun _ _ _ h => h) (Or.inl ⟨by rfl, ?_⟩) ?_ ?_
                    rotate_left
                    · intro w'
                      go_simp
                      with_reducible rfl
                    rotate_left
                    · simp only [Act.put, sz_, s0_, s1_, i64_w, i32_w]
                      rfl
                    refine pure_ (i := 11) (N := some 118) (v := ?_) (a' := ?_) (flg_ 17 4095) rfl rfl (any_of HT_.out (by kernel_rfl)) (fun _ _ _ h => h) (Or.inl ⟨by rfl, ?_⟩) ?_ ?_
                    rotate_left
                    · intro w'
                      go_simp
                      with_reducible rfl
                    rotate_left
                    · simp only [Act.put, sz_, s0_, s1_, i64_w, i32_w]
                      rfl
                    refine pure_ (i := 12) (N := some 119) (v := ?_) (a' := ?_) (flg_ 17 8191) rfl rfl (any_of HT_.out (by kernel_rfl)) (fun _ _ _ h => h) (Or.inl ⟨by rfl, ?_⟩) ?_ ?_
                    rotate_left
                    · intro w'
                      go_simp
                      with_reducible rfl
                    rotate_left
                    · simp only [Act.put, sz_, s0_, s1_, i64_w, i32_w]
                      rfl
                    refine pure_ (i := 13) (N := some 120) (v := ?_) (a' := ?_) (flg_ 17 16383) rfl rfl (any_of HT_.out (by kernel_rfl)) (fun _ _ _ h => h) (Or.inl ⟨by rfl, ?_⟩) ?_ ?_
                    rotate_left
                    · intro w'
                      go_simp
                      with_reducible rfl
                    rotate_left
                    · simp only [Act.put, sz_, s0_, s1_, i64_w, i32_w]
                      rfl
                    refine pure_ (i := 14) (N := some 121) (v := ?_) (a' := ?_) (flg_ 17 32767) rfl rfl (any_of HT_.out (by kernel_rfl)) (fun _ _ _ h => h) (Or.inl ⟨by rfl, ?_⟩) ?_ ?_
                    rotate_left
                    · intro w'
                      go_simp
                      with_reducible rfl
                    rotate_left
                    · simp only [Act.put, sz_, s0_, s1_, i64_w, i32_w]
                      rfl
                    refine pure_ (i := 15) (N := some 122) (v := ?_) (a' := ?_) (flg_ 17 65535) rfl rfl (any_of HT_.out (by kernel_rfl)) (fun _ _ _ h => h) (Or.inl ⟨by rfl, ?_⟩) ?_ ?_
                    rotate_left
                    · intro w'
                      go_simp
                      with_reducible rfl
                    rotate_left
                    · simp only [Act.put, sz_, s0_, s1_, i64_w, i32_w]
                      rfl
                    refine pure_ (i := 16) (N := some 123) (v := ?_) (a' := ?_) (flg_ 17 131071) rfl rfl (any_of HT_.out (by kernel_rfl)) (fun _ _ _ h => h) (Or.inl ⟨by rfl, ?_⟩) ?_ ?_
                    rotate_left
                    · intro w'
                      go_simp
                      with_reducible rfl
                    rotate_left
                    · simp only [Act.put, sz_, s0_, s1_, i64_w, i32_w]
                      rfl
                    refine done_ (done_of HT_.out (by kernel_rfl)) ?_
                    go_wp2_with fail
                    go_roundg cnt1
                    case measure => exact HCN.out
                    case rel => exact ⟨_, cnt1, c, Nat.le_refl _, rfl, HBE, HRG, HX2, HX3, HB⟩
                  · have HBE := Aside0.mk (show IsBest a0_0 a1 far.length far (fun y => !(left (.int .i64 y) && !(Lit.int .i64 y).sameKey (.int .i64 x))) b by have h_ := HBN.out; rw [if_neg (fun h => by rcases h.2 with h | h; exact hb0 h; exact hcb h)] at h_; exact h_)
                    have q1 := decide_eq_false hb0
                    have q2 := decide_eq_false hcb
                    clear hle hb0 hcb
                    go_wp2_with fail
                    have d2_ := Aside0.mk (blk_drew HX2.out)
                    have d3_ := Aside0.mk (blk_drew HX3.out)
                    have dR_ := Aside0.mk (HRG.out.kept (grown_of_below (below_drew1 (Below.refl _ w1)) none) (by simp) (by simp))
                    have dB_ := Aside0.mk (below_drew1 HB.out)
                    clear HX2 HX3 HRG HB hc20 hc21 hc30 hen HBN
                    refine start_ (n := 17) (S := fun w' => w'.cell? ⟨g2, 0, none⟩ = some (.int .i64 a0_0) ∧ w'.cell? ⟨g2, 1, none⟩ = some (.slice A0_1 l0_1.length c0_1) ∧ w'.cell? ⟨g3, 0, none⟩ = some (.int .i64 a1)) (ds := []) #[false, false, false, false, false, false, false, false, false, false, false, false, false, false, false, false, false] (by kernel_rfl) rfl rfl ⟨(blk_cell d2_.out 0).trans rfl, (blk_cell d2_.out 1).trans rfl, (blk_cell d3_.out 0).trans rfl⟩ (fun hHeld => ?_)
                    refine with_tabW need_tab31 need_bits31 (fun HT_ HW_ => ?_)
                    generalize hq_ : w1.drew = wd_ at d2_ d3_ dR_ dB_ hHeld ⊢
                    clear hq_
                    refine take_ (i := 0) (N := some 107) (v := ?_) (a' := ?_) (flg_ 17 1) rfl rfl (take_ofW HT_.out HW_.out (by kernel_rfl)) (fun _ _ _ h => h) (Or.inl ⟨by rfl, ?_⟩) hHeld ?_ ?_
                    rotate_left
                    · rintro w' ⟨s0_, s1_, s2_⟩
                      go_simp
                      with_reducible rfl
                    rotate_left
                    · simp only [Act.put, sz_, s0_, s1_, i64_w, i32_w]
                      rfl
                    refine take_ (i := 1) (N := some 108) (v := ?_) (a' := ?_) (flg_ 17 3) rfl rfl (take_ofW HT_.out HW_.out (by kernel_rfl)) (fun _ _ _ h => h) (Or.inl ⟨by rfl, ?_⟩) hHeld ?_ ?_
                    rotate_left
                    · rintro w' ⟨s0_, s1_, s2_⟩
                      go_simp
                      with_reducible rfl
                    rotate_left
                    · simp only [Act.put, sz_, s0_, s1_, i64_w, i32_w]
                      rfl
                    refine pure_ (i := 2) (N := some 109) (v := ?_) (a' := ?_) (flg_ 17 7) rfl rfl (any_of HT_.out (by kernel_rfl)) (fun _ _ _ h => h) (Or.inl ⟨by rfl, ?_⟩) ?_ ?_
                    rotate_left
                    · intro w'
                      go_simp
                      with_reducible rfl
                    rotate_left
                    · simp only [Act.put, sz_, s0_, s1_, i64_w, i32_w]
                      rfl
                    refine pure_ (i := 4) (N := some 111) (v := ?_) (a' := ?_) (flg_ 17 23) rfl rfl (any_of HT_.out (by kernel_rfl)) (fun _ _ _ h => h) (Or.inl ⟨by rfl, ?_⟩) ?_ ?_
                    rotate_left
                    · intro w'
                      go_simp
                      with_reducible rfl
                    rotate_left
                    · simp only [Act.put, sz_, s0_, s1_, i64_w, i32_w]
                      rfl
                    refine take_ (i := 5) (N := some 112) (v := ?_) (a' := ?_) (flg_ 17 55) rfl rfl (take_ofW HT_.out HW_.out (by kernel_rfl)) (fun _ _ _ h => h) (Or.inl ⟨by rfl, ?_⟩) hHeld ?_ ?_
                    rotate_left
                    · rintro w' ⟨s0_, s1_, s2_⟩
                      go_simp
                      with_reducible rfl
                    rotate_left
                    · simp only [Act.put, sz_, s0_, s1_, i64_w, i32_w]
                      rfl
                    refine pure_ (i := 6) (N := some 113) (v := ?_) (a' := ?_) (flg_ 17 119) rfl rfl (any_of HT_.out (by kernel_rfl)) (fun _ _ _ h => h) (Or.inl ⟨by rfl, ?_⟩) ?_ ?_
                    rotate_left
                    · intro w'
                      go_simp
                      with_reducible rfl
                    rotate_left
                    · simp only [Act.put, sz_, s0_, s1_, i64_w, i32_w]
                      rfl
                    refine one_ (i := 3) (N := some 110) (flg_ 17 127) rfl rfl (one_of HT_.out (by kernel_rfl)) (by decide) (fun K hK => ?_)
                    refine goes_ Tryd.func78 (by kernel_rfl) rfl #[.agg #[.int .i64 a0_0, .slice A0_1 l0_1.length c0_1], .int .i64 a1, .int .i64 x] (by rfl) rfl rfl (by (try simp only [List.map_toArray, List.map_cons, List.map_nil]); first | done | rfl) ?_
                    refine (HLINE _ x (Kd.C_below HR.out dB_.out)).mono ?_
                    rintro e wa_ ⟨rfl, hb⟩
                    refine ⟨_, rfl, ?_⟩
                    have HX2 := Aside0.mk (blk_below d2_.out hb)
                    have HX3 := Aside0.mk (blk_below d3_.out hb)
                    have HRG := Aside0.mk (dR_.out.kept (grown_of_below hb none) (by simp) (by simp))
                    have HB := Aside0.mk (below_step dB_.out hb)
                    clear hb d2_ d3_ dR_ dB_
                    refine hK.out _ _ ⟨(blk_cell HX2.out 0).trans rfl, (blk_cell HX2.out 1).trans rfl, (blk_cell HX3.out 0).trans rfl⟩ (fun hHeld => ?_)
                    clear hK K
                    refine norm_ (a' := ?_) ?_ ?_
                    rotate_left
                    · show Act.put _ (some 110) _ = _
                      simp only [Act.put, sz_, s0_, s1_, i64_w, i32_w]
                      rfl
                    refine pure_ (i := 7) (N := some 114) (v := ?_) (a' := ?_) (flg_ 17 255) rfl rfl (any_of HT_.out (by kernel_rfl)) (fun _ _ _ h => h) (Or.inl ⟨by rfl, ?_⟩) ?_ ?_
                    rotate_left
                    · intro w'
                      go_simp
                      with_reducible rfl
                    rotate_left
                    · simp only [Act.put, sz_, s0_, s1_, i64_w, i32_w]
                      rfl
                    refine pure_ (i := 8) (N := some 115) (v := ?_) (a' := ?_) (flg_ 17 511) rfl rfl (any_of HT_.out (by kernel_rfl)) (fun _ _ _ h => h) (Or.inl ⟨by rfl, ?_⟩) ?_ ?_
                    rotate_left
                    · intro w'
                      go_simp
                      with_reducible rfl
                    rotate_left
                    · simp only [Act.put, sz_, s0_, s1_, i64_w, i32_w]
                      rfl
                    refine pure_ (i := 9) (N := some 116) (v := ?_) (a' := ?_) (flg_ 17 1023) rfl rfl (any_of HT_.out (by kernel_rfl)) (fun _ _ _ h => h) (Or.inl ⟨by rfl, ?_⟩) ?_ ?_
                    rotate_left
                    · intro w'
                      go_simp
                      with_reducible rfl
                    rotate_left
                    · simp only [Act.put, sz_, s0_, s1_, i64_w, i32_w]
                      rfl
                    refine pure_ (i := 10) (N := some 117) (v := ?_) (a' := ?_) (flg_ 17 2047) rfl rfl (any_of HT_.out (by kernel_rfl)) (fun _ _ _ h => h) (Or.inl ⟨by rfl, ?_⟩) ?_ ?_
                    rotate_left
                    · intro w'
                      go_simp
                      with_reducible rfl
                    rotate_left
                    · simp only [Act.put, sz_, s0_, s1_, i64_w, i32_w]
                      rfl
                    refine pure_ (i := 11) (N := some 118) (v := ?_) (a' := ?_) (flg_ 17 4095) rfl rfl (any_of HT_.out (by kernel_rfl)) (fun _ _ _ h => h) (Or.inl ⟨by rfl, ?_⟩) ?_ ?_
                    rotate_left
                    · intro w'
                      go_simp
                      with_reducible rfl
                    rotate_left
                    · simp only [Act.put, sz_, s0_, s1_, i64_w, i32_w]
                      rfl
                    refine pure_ (i := 12) (N := some 119) (v := ?_) (a' := ?_) (flg_ 17 8191) rfl rfl (any_of HT_.out (by kernel_rfl)) (fun _ _ _ h => h) (Or.inl ⟨by rfl, ?_⟩) ?_ ?_
                    rotate_left
                    · intro w'
                      go_simp
                      with_reducible rfl
                    rotate_left
                    · simp only [Act.put, sz_, s0_, s1_, i64_w, i32_w]
                      rfl
                    refine pure_ (i := 13) (N := some 120) (v := ?_) (a' := ?_) (flg_ 17 16383) rfl rfl (any_of HT_.out (by kernel_rfl)) (fun _ _ _ h => h) (Or.inl ⟨by rfl, ?_⟩) ?_ ?_
                    rotate_left
                    · intro w'
                      go_simp
                      with_reducible rfl
                    rotate_left
                    · simp only [Act.put, sz_, s0_, s1_, i64_w, i32_w]
                      rfl
                    refine pure_ (i := 14) (N := some 121) (v := ?_) (a' := ?_) (flg_ 17 32767) rfl rfl (any_of HT_.out (by kernel_rfl)) (fun _ _ _ h => h) (Or.inl ⟨by rfl, ?_⟩) ?_ ?_
                    rotate_left
                    · intro w'
                      go_simp
                      with_reducible rfl
                    rotate_left
                    · simp only [Act.put, sz_, s0_, s1_, i64_w, i32_w]
                      rfl
                    refine pure_ (i := 15) (N := some 122) (v := ?_) (a' := ?_) (flg_ 17 65535) rfl rfl (any_of HT_.out (by kernel_rfl)) (fun _ _ _ h => h) (Or.inl ⟨by rfl, ?_⟩) ?_ ?_
                    rotate_left
                    · intro w'
                      go_simp
                      with_reducible rfl
                    rotate_left
                    · simp only [Act.put, sz_, s0_, s1_, i64_w, i32_w]
                      rfl
                    refine pure_ (i := 16) (N := some 123) (v := ?_) (a' := ?_) (flg_ 17 131071) rfl rfl (any_of HT_.out (by kernel_rfl)) (fun _ _ _ h => h) (Or.inl ⟨by rfl, ?_⟩) ?_ ?_
                    rotate_left
                    · intro w'
                      go_simp
                      with_reducible rfl
                    rotate_left
                    · simp only [Act.put, sz_, s0_, s1_, i64_w, i32_w]
                      rfl
                    refine done_ (done_of HT_.out (by kernel_rfl)) ?_
                    go_wp2_with fail
                    go_roundg cnt1
                    case measure => exact HCN.out
                    case rel => exact ⟨_, cnt1, b, Nat.le_refl _, rfl, HBE, HRG, HX2, HX3, HB⟩
/-! ### impl_Hex_joiner: function 49 -/
def impl_Hex_joiner.l0 : Nat → List Int → Int → Int → Int → List Int → Option (Int)
 | 0, _, _, _, _, _ => none
 | k + 1, x5, x6, x7, x248000, x248001 => if x7 < x6 then (if 0 ≤ x7 then (if x7 < (x5.length : Int) then ((impl_Hex_need.f k x248000 x248001 (rd x5 x7)).bind fun t252 => (if t252 = 0 then (some (rd x5 x7)) else (impl_Hex_joiner.l0 k x5 x6 (wrap64 (x7 + 1)) x248000 x248001))) else (none)) else (none)) else (some 0)
def impl_Hex_joiner.f (k : Nat) (a0_0 : Int) (l0_1 : List Int) : Option (Int) := (some (([1, 2] : List Int) : List Int)).bind fun y248 => (impl_Hex_joiner.l0 k y248 (y248.length : Int) 0 a0_0 l0_1)
set_option maxHeartbeats 8000000 in
set_option maxRecDepth 100000 in
theorem impl_Hex_joiner.calls (k : Nat) (a0_0 : Int) (A0_1 : Option Addr) (c0_1 : Nat) (l0_1 : List Int) (r : Int) (w : World) (hr0_1 : Kd.C (Kd.int .i64) w A0_1 l0_1.length l0_1) (hc0_1 : l0_1.length ≤ c0_1) (h : impl_Hex_joiner.f k a0_0 l0_1 = some r) :
  Calls Tryd.prog 49 #[.agg #[.int .i64 a0_0, .slice A0_1 l0_1.length c0_1]] w fun e w' => e = .returned (.int .i64 r) ∧ Below w.heap.size w w' := by
 have hu28 := Tryd.underlying28
 have HR0_1 := Aside0.mk hr0_1
 have HC0_1 := Aside0.mk hc0_1
 clear hr0_1 hc0_1
 have HB := Aside0.mk (Below.refl w.heap.size w)
 have H : ((some (([1, 2] : List Int) : List Int)).bind fun y248 => (impl_Hex_joiner.l0 k y248 (y248.length : Int) 0 a0_0 l0_1)) = some r := h
 clear h
 obtain ⟨y248, hy248⟩ : ∃ y_ : List Int, y_ = (([1, 2] : List Int)) := ⟨_, rfl⟩
 replace H : (impl_Hex_joiner.l0 k y248 (y248.length : Int) 0 a0_0 l0_1) = some r := by first | (rw [hy248]; with_reducible exact H) | (have H2_ := (Option.bind_some _ _).symm.trans H; rw [hy248]; with_reducible exact H2_) | (have H2_ := (Option.bind_some _ _).symm.trans H; with_reducible exact H2_) | with_reducible exact H | (rw [hy248]; exact H) | exact H
 have Ny248 := Aside0.mk hy248
 clear hy248
 have H' := Aside0.mk H
 clear H
 go_enter Tryd.func49, Tryd.ntmps49
 go_wp2_with (first | ((with_reducible refine gate_dst (N := 1) rfl ?_); refine box_event ?hg (N := 1) ?hd (cs := #[.int .i64 a0_0, .slice A0_1 l0_1.length c0_1]) (t := 28) ?hr ?_; (case hd => rfl); (case hg => rfl); (case hr => first | (go_simp; done) | (go_simp; rfl)); intro gb247 hg w2 hbox hb; have n0_ := Aside0.mk (below_step hb_ hb); have n1_ := Aside0.mk (hbox); have n2_ := Aside0.mk ((by rw [hg]; exact (below_size hb_) : w.heap.size ≤ gb247)); have n3_ := Aside0.mk ((by rw [hg]; exact (below_size hb_) : w.heap.size ≤ gb247)); clear HB; have HB := n0_; have BK247 := n1_; have GW247 := n2_; have GE247 := n3_; clear n0_ n1_ n2_ n3_; clear hb hbox hg) | ((with_reducible refine gate_dst (N := 5) rfl ?_); refine Kd.R_lit (Kd.int .i64) _ 2 ?hg (N := 5) ?hd (xs := ([1, 2] : List Int)) (inner := [.int .i64 1, .int .i64 2]) (ok := fun _ => True) (okp := fun _ => True) ?hr ?hp (fun _ hk => hk) trivial (Below.refl _ _) (Nat.le_refl _) (by simp) ?_; (case hd => rfl); (case hg => rfl); (case hr => first | (go_simp; done) | (go_simp; rfl)); (case hp => exact (Reps.one (show Kd.M (Kd.int .i64) _ _ _ 1 [.int .i64 1] from rfl) (Reps.one (show Kd.M (Kd.int .i64) _ _ _ 2 [.int .i64 2] from rfl) (Reps.none _ _)))); intro v249 w3 ho4 hb hg_ hnew_; clear hg_ hnew_; (first | rw [← Ny248.out] at ho4 | (simp only [Int.reduceToNat] at ho4; rw [← Ny248.out] at ho4)); have n0_ := Aside0.mk (Kd.R_lower ho4 (below_size (by repeat (first | (with_reducible first | exact HB.out | apply below_alloc | apply pw_below_drewN | apply below_drew1 | refine below_set ?_ GE247.out) | exact HB.out)))); have n1_ := Aside0.mk (blk_below (g := gb247) (o := .cells #[.int .i64 a0_0, .slice A0_1 l0_1.length c0_1] 28 (0, 0)) (by (with_reducible repeat (first | refine blk_drewN ?_ _ | refine blk_drew ?_ | refine blk_alloc ?_ _)); exact BK247.out) hb); have n2_ := Aside0.mk (below_step (by repeat (first | (with_reducible first | exact HB.out | apply below_alloc | apply pw_below_drewN | apply below_drew1 | refine below_set ?_ GE247.out) | exact HB.out)) hb); clear BK247; clear HB; have HO250 := n0_; have BK247 := n1_; have HB := n2_; clear n0_ n1_ n2_; clear hb ho4; obtain ⟨Ao5, co5, eo5⟩ := Kd.R_slice HO250.out; subst eo5))
 go_loopg [7] k (fun kq v7 w' => ∃ (x7_1 : Int), v7 = .int .i64 x7_1 ∧ Aside0 (impl_Hex_joiner.l0 kq y248 (y248.length : Int) x7_1 a0_0 l0_1 = some r) ∧ Aside0 (kq ≤ k) ∧ Aside0 (Kd.R (Kd.int .i64) 2 w' w.heap.size (fun _ => True) (.slice Ao5 y248.length co5) y248) ∧ Aside0 (w'.heap[gb247]? = some (.cells #[.int .i64 a0_0, (.slice A0_1 l0_1.length c0_1)] 28 (0, 0))) ∧ Aside0 (Below w.heap.size w w'))
 case atStart => exact ⟨(0), (by first | rfl | (simp; done) | (simp [*]; done)), H', ⟨Nat.le_refl _⟩, ⟨by (with_reducible repeat (first | apply Kd.R_alloc | apply Kd.R_drewN | apply Kd.R_drew)); exact HO250.out⟩, ⟨by (with_reducible repeat (first | refine blk_drewN ?_ _ | refine blk_drew ?_ | refine blk_alloc ?_ _)); exact BK247.out⟩, ⟨by repeat (first | (with_reducible first | exact HB.out | apply below_alloc | apply pw_below_drewN | apply below_drew1 | refine below_set ?_ GE247.out) | exact HB.out)⟩⟩
 case round =>
  clear H'
  (try clear p2); (try clear c4)
  obtain ⟨x7_1, rfl, HA, HK1, HO_5, BK247, HB⟩ := hrel
  cases gk with
  | zero => exact absurd HA.out (by simp [impl_Hex_joiner.l0])
  | succ k1 =>
   have H := HA.out
   clear HA
   simp only [impl_Hex_joiner.l0] at H
   by_cases c6 : x7_1 < (y248.length : Int)
   ·rw [if_pos c6] at H
    have c6b0 : decide (x7_1 < (y248.length : Int)) = true := decide_eq_true c6
    clear c6
    by_cases c7 : 0 ≤ x7_1
    ·rw [if_pos c7] at H
     have c7b0 : decide (0 ≤ x7_1) = true := decide_eq_true c7
     clear c7
     by_cases c8 : x7_1 < (y248.length : Int)
     ·rw [if_pos c8] at H
      have c8b0 : decide (x7_1 < (y248.length : Int)) = true := decide_eq_true c8
      clear c8
      replace H := Option.bind_eq_some_iff.mp H
      obtain ⟨t252, A90, H⟩ := H
      replace H : (if t252 = 0 then (some (rd y248 x7_1)) else (impl_Hex_joiner.l0 k1 y248 (y248.length : Int) (wrap64 (x7_1 + 1)) a0_0 l0_1)) = some r := H
      have A9 := Aside0.mk A90
      clear A90
      by_cases c10 : t252 = 0
      ·rw [if_pos c10] at H
       have c10b0 : (t252 == 0) = true := beq_iff_eq.mpr c10
       have c10b1 : (t252 != 0) = false := bne_eq_false_iff_eq.mpr c10
       clear c10
       obtain rfl := Option.some.inj H
       have p251 : 0 ≤ (x7_1 : Int) := oda
       have q251 : x7_1 < (y248.length : Int) := oda
       obtain ⟨ad251, e251, hx251_0⟩ := Kd.at_int (Kd.R_reads' HO_5.out).2.2 x7_1 p251 q251
       cases e251
       replace p251 := eq_true p251
       replace q251 := eq_true q251
       have hcz11_0 : wr.cell? ⟨gb247, 0, none⟩ = some (.int .i64 a0_0) := (blk_cell BK247.out 0).trans rfl
       have hcz11_1 : wr.cell? ⟨gb247, 1, none⟩ = some (.slice A0_1 l0_1.length c0_1) := (blk_cell BK247.out 1).trans rfl
       have hfz11_0 := blk_frozen BK247.out 0
       have hfz11_1 := blk_frozen BK247.out 1
       go_wp2_with (first | ((with_reducible refine gate_callee (f := 70) rfl ?_); refine goesA_ (some 13) rfl rfl Tryd.func70 (by kernel_rfl) rfl #[.agg #[.int .i64 a0_0, .slice A0_1 l0_1.length c0_1], .int .i64 (rd y248 x7_1)] rfl ?_; (with_reducible refine (impl_Hex_need.calls k1 a0_0 _ _ l0_1 (rd y248 x7_1) t252 _ ?side1 ?side2 A9.out).mono ?_); (case side1 => repeat (first | exact (Kd.C_below HR0_1.out HB.out) | (with_reducible refine Kd.C_alloc ?_ _) | (with_reducible refine Kd.C_drewN ?_ _) | (with_reducible refine Kd.C_drew ?_))); (case side2 => exact HC0_1.out); rintro e w12 ⟨rfl, hb⟩; refine ⟨_, rfl, ?_⟩; have n0_ := Aside0.mk (Kd.R_below (by (with_reducible repeat (first | apply Kd.R_alloc | apply Kd.R_drewN | apply Kd.R_drew)); exact HO_5.out) hb); have n1_ := Aside0.mk (blk_below (g := gb247) (o := .cells #[.int .i64 a0_0, .slice A0_1 l0_1.length c0_1] 28 (0, 0)) (by (with_reducible repeat (first | refine blk_drewN ?_ _ | refine blk_drew ?_ | refine blk_alloc ?_ _)); exact BK247.out) hb); have n2_ := Aside0.mk (below_step (by repeat (first | (with_reducible first | exact HB.out | apply below_alloc | apply pw_below_drewN | apply below_drew1 | refine below_set ?_ GE247.out) | exact HB.out)) hb); clear HO_5; clear BK247; clear HB; have HO_5 := n0_; have BK247 := n1_; have HB := n2_; clear n0_ n1_ n2_; (try clear hb); (try clear hb2); (try clear hk); (try clear hi)))
       go_ret
       exact ⟨by first | rfl | (simp [errW_none, errW_some] <;> rfl) | (simp [*, errW_none, errW_some] <;> rfl), by repeat (first | (with_reducible first | exact HB.out | apply below_alloc | apply pw_below_drewN | apply below_drew1 | refine below_set ?_ GE247.out) | exact HB.out)⟩
      ·rw [if_neg c10] at H
       have c10b0 : (t252 == 0) = false := beq_eq_false_iff_ne.mpr c10
       have c10b1 : (t252 != 0) = true := bne_iff_ne.mpr c10
       have H' := Aside0.mk H
       clear H
       have p251 : 0 ≤ (x7_1 : Int) := oda
       have q251 : x7_1 < (y248.length : Int) := oda
       obtain ⟨ad251, e251, hx251_0⟩ := Kd.at_int (Kd.R_reads' HO_5.out).2.2 x7_1 p251 q251
       cases e251
       replace p251 := eq_true p251
       replace q251 := eq_true q251
       have hcz13_0 : wr.cell? ⟨gb247, 0, none⟩ = some (.int .i64 a0_0) := (blk_cell BK247.out 0).trans rfl
       have hcz13_1 : wr.cell? ⟨gb247, 1, none⟩ = some (.slice A0_1 l0_1.length c0_1) := (blk_cell BK247.out 1).trans rfl
       have hfz13_0 := blk_frozen BK247.out 0
       have hfz13_1 := blk_frozen BK247.out 1
       go_wp2_with (first | ((with_reducible refine gate_callee (f := 70) rfl ?_); refine goesA_ (some 13) rfl rfl Tryd.func70 (by kernel_rfl) rfl #[.agg #[.int .i64 a0_0, .slice A0_1 l0_1.length c0_1], .int .i64 (rd y248 x7_1)] rfl ?_; (with_reducible refine (impl_Hex_need.calls k1 a0_0 _ _ l0_1 (rd y248 x7_1) t252 _ ?side1 ?side2 A9.out).mono ?_); (case side1 => repeat (first | exact (Kd.C_below HR0_1.out HB.out) | (with_reducible refine Kd.C_alloc ?_ _) | (with_reducible refine Kd.C_drewN ?_ _) | (with_reducible refine Kd.C_drew ?_))); (case side2 => exact HC0_1.out); rintro e w14 ⟨rfl, hb⟩; refine ⟨_, rfl, ?_⟩; have n0_ := Aside0.mk (Kd.R_below (by (with_reducible repeat (first | apply Kd.R_alloc | apply Kd.R_drewN | apply Kd.R_drew)); exact HO_5.out) hb); have n1_ := Aside0.mk (blk_below (g := gb247) (o := .cells #[.int .i64 a0_0, .slice A0_1 l0_1.length c0_1] 28 (0, 0)) (by (with_reducible repeat (first | refine blk_drewN ?_ _ | refine blk_drew ?_ | refine blk_alloc ?_ _)); exact BK247.out) hb); have n2_ := Aside0.mk (below_step (by repeat (first | (with_reducible first | exact HB.out | apply below_alloc | apply pw_below_drewN | apply below_drew1 | refine below_set ?_ GE247.out) | exact HB.out)) hb); clear HO_5; clear BK247; clear HB; have HO_5 := n0_; have BK247 := n1_; have HB := n2_; clear n0_ n1_ n2_; (try clear hb); (try clear hb2); (try clear hk); (try clear hi)))
       go_roundg k1
       case measure => have := HK1.out; omega
       case rel => exact ⟨(wrap64 (x7_1 + 1)), (by first | rfl | (simp; done) | (simp [*]; done)), H', ⟨by have := HK1.out; omega⟩, ⟨by (with_reducible repeat (first | apply Kd.R_alloc | apply Kd.R_drewN | apply Kd.R_drew)); exact HO_5.out⟩, ⟨by (with_reducible repeat (first | refine blk_drewN ?_ _ | refine blk_drew ?_ | refine blk_alloc ?_ _)); exact BK247.out⟩, ⟨by repeat (first | (with_reducible first | exact HB.out | apply below_alloc | apply pw_below_drewN | apply below_drew1 | refine below_set ?_ GE247.out) | exact HB.out)⟩⟩
     ·rw [if_neg c8] at H
      exact absurd H (by simp)
    ·rw [if_neg c7] at H
     exact absurd H (by simp)
   ·rw [if_neg c6] at H
    have c6b0 : decide (x7_1 < (y248.length : Int)) = false := decide_eq_false c6
    clear c6
    obtain rfl := Option.some.inj H
    go_wp2
    go_ret
    exact ⟨by first | rfl | (simp [errW_none, errW_some] <;> rfl) | (simp [*, errW_none, errW_some] <;> rfl), by repeat (first | (with_reducible first | exact HB.out | apply below_alloc | apply pw_below_drewN | apply below_drew1 | refine below_set ?_ GE247.out) | exact HB.out)⟩

end Go.Proofs.YtbmiojnkfgcfoaaDoor.F
