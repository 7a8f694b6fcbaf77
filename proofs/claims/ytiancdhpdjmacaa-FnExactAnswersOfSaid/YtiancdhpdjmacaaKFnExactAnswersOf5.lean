-- written by the session's program xp.py over the kit's print program, and by hand; texts joined by pack.py
import Derived.Test.YtiancdhpdjmacaaKFnExactAnswersOf4
namespace Go.Proofs.Ytiancdhpdjmacaa.F
open Go.RowKit Go.Proofs.YtiancdhpdjmacaaW.PrintWords Go.Proofs.YtiancdhpdjmacaaW.PrintLast Go.Proofs.YtiancdhpdjmacaaW.PrintMore
attribute [local go_sem] max2_int min2_int max_two min_two max_three min_three max_four min_four   -- for this text's walks alone
set_option linter.unusedVariables false
set_option linter.unusedSimpArgs false

/-! ### laws_FnExactAnswersOf: function 8 -/
mutual
def laws_FnExactAnswersOf.j0 : Nat → List Int → List Int → List Int → Int → List Int → List Int → List Int → Int → Bool → Int → Int → List Int → Int → Int → List Int → Option (Bool)
 | 0, _, _, _, _, _, _, _, _, _, _, _, _, _, _, _ => none
 | k + 1, x1, x2, x8, x9, x11, x12, x13, x14, x62, x672000, x672001, x672002, x694000, x694001, x694002 => if x62 = true then (some false) else ((laws_toSea.f k x672000 x672001 x672002).bind fun bt705 => ((laws_eqSea.f k x694000 x694001 x694002 bt705.1 bt705.2.1 bt705.2.2).bind fun t710 => (if t710 = true then ((laws_toInt64S.f k x1).bind fun t711 => ((laws_eqInt64S.f k x11 t711).bind fun t714 => (if t714 = true then ((laws_toInt64S.f k x2).bind fun t715 => ((laws_eqInt64S.f k x12 t715).bind fun t718 => (if t718 = true then ((laws_markSea.f k x694000 x694001 x694002 1).bind fun bt719 => ((laws_markInt64S.f k x11 bt719.1).bind fun bt721 => ((laws_markInt64S.f k x12 bt721.1).bind fun bt723 => (if bt723.1 < 0 then (laws_FnExactAnswersOf.j1 k x1 x2 x8 x9 x13 true x672000 x672001 x672002) else ((laws_eqInt64S.f k x13 x8).bind fun t725 => (if t725 = true then (laws_FnExactAnswersOf.j1 k x1 x2 x8 x9 x13 (x14 != x9) x672000 x672001 x672002) else (laws_FnExactAnswersOf.j1 k x1 x2 x8 x9 x13 true x672000 x672001 x672002))))))) else (some false)))) else (some false)))) else (some false))))
def laws_FnExactAnswersOf.j1 : Nat → List Int → List Int → List Int → Int → List Int → Bool → Int → Int → List Int → Option (Bool)
 | 0, _, _, _, _, _, _, _, _, _ => none
 | k + 1, x1, x2, x8, x9, x13, x99, x672000, x672001, x672002 => if x99 = true then (some false) else ((laws_markInt64S.f k x13 1).bind fun bt726 => ((laws_heldInt64S.f k bt726.2 1).bind fun t728 => (if t728 < 0 then (some false) else (if t728 = bt726.1 then ((laws_toSea.f k x672000 x672001 x672002).bind fun bt729 => ((laws_toInt64S.f k x1).bind fun t734 => ((laws_toInt64S.f k x2).bind fun t737 => ((impl_AnswersOf.f k bt729.1 bt729.2.1 bt729.2.2 t734 t737).bind fun bt740 => ((laws_eqInt64S.f k bt740.1 x8).bind fun t744 => (if t744 = true then (laws_FnExactAnswersOf.j2 k bt726.2 bt726.1 (bt740.2 != x9)) else (laws_FnExactAnswersOf.j2 k bt726.2 bt726.1 true))))))) else (some false)))))
def laws_FnExactAnswersOf.j2 : Nat → List Int → Int → Bool → Option (Bool)
 | 0, _, _, _ => none
 | k + 1, x13, x16, x129 => if x129 = true then (some false) else ((laws_heldInt64S.f k x13 1).bind fun t745 => (if t745 < 0 then (some false) else (if t745 = x16 then (some true) else (some false))))
end
def laws_FnExactAnswersOf.f (k : Nat) (a0_0 : Int) (a0_1 : Int) (l0_2 : List Int) (l1 : List Int) (l2 : List Int) : Option (Bool) := if (l1.length : Int) > 1048576 then (some true) else (if (l2.length : Int) > 1048576 then (some true) else ((laws_szSea.f a0_0 a0_1 l0_2 1048576).bind fun t672 => (if t672 < 0 then (some true) else ((laws_toSea.f k a0_0 a0_1 l0_2).bind fun bt673 => ((laws_toInt64S.f k l1).bind fun t678 => ((laws_toInt64S.f k l2).bind fun t681 => ((spec_AnswersOf.f k bt673.1 bt673.2.1 bt673.2.2 t678 t681).bind fun bt684 => ((laws_toSea.f k a0_0 a0_1 l0_2).bind fun bt688 => ((laws_toInt64S.f k l1).bind fun t694 => ((laws_toInt64S.f k l2).bind fun t697 => ((impl_AnswersOf.f k bt688.1 bt688.2.1 bt688.2.2 t694 t697).bind fun bt700 => ((laws_eqInt64S.f k bt700.1 bt684.1).bind fun t704 => (if t704 = true then (laws_FnExactAnswersOf.j0 k l1 l2 bt684.1 bt684.2 t694 t697 bt700.1 bt700.2 (bt700.2 != bt684.2) a0_0 a0_1 l0_2 bt688.1 bt688.2.1 bt688.2.2) else (laws_FnExactAnswersOf.j0 k l1 l2 bt684.1 bt684.2 t694 t697 bt700.1 bt700.2 true a0_0 a0_1 l0_2 bt688.1 bt688.2.1 bt688.2.2))))))))))))))
set_option maxHeartbeats 8000000 in
set_option maxRecDepth 100000 in
theorem laws_FnExactAnswersOf.calls (k : Nat) (a0_0 : Int) (a0_1 : Int) (A0_2 : Option Addr) (c0_2 : Nat) (l0_2 : List Int) (A1 : Option Addr) (c1 : Nat) (l1 : List Int) (A2 : Option Addr) (c2 : Nat) (l2 : List Int) (r : Bool) (w : World) (hr0_2 : Kd.C (Kd.int .i64) w A0_2 l0_2.length l0_2) (hc0_2 : l0_2.length ≤ c0_2) (hr1 : Kd.C (Kd.int .i64) w A1 l1.length l1) (hc1 : l1.length ≤ c1) (hr2 : Kd.C (Kd.int .i64) w A2 l2.length l2) (hc2 : l2.length ≤ c2) (h : laws_FnExactAnswersOf.f k a0_0 a0_1 l0_2 l1 l2 = some true) :
  Calls Try.prog 8 #[.agg #[.int .i64 a0_0, .int .i64 a0_1, .slice A0_2 l0_2.length c0_2], .slice A1 l1.length c1, .slice A2 l2.length c2] w fun e w' => e = .returned (.bool true) ∧ Below w.heap.size w w' := by
 have hu24 := Try.underlying24
 have hu28 := Try.underlying28
 have HR0_2 := Aside0.mk hr0_2
 have HC0_2 := Aside0.mk hc0_2
 clear hr0_2 hc0_2
 have HR1 := Aside0.mk hr1
 have HC1 := Aside0.mk hc1
 clear hr1 hc1
 have HR2 := Aside0.mk hr2
 have HC2 := Aside0.mk hc2
 clear hr2 hc2
 have HB := Aside0.mk (Below.refl w.heap.size w)
 have H : (if (l1.length : Int) > 1048576 then (some true) else (if (l2.length : Int) > 1048576 then (some true) else ((laws_szSea.f a0_0 a0_1 l0_2 1048576).bind fun t672 => (if t672 < 0 then (some true) else ((laws_toSea.f k a0_0 a0_1 l0_2).bind fun bt673 => ((laws_toInt64S.f k l1).bind fun t678 => ((laws_toInt64S.f k l2).bind fun t681 => ((spec_AnswersOf.f k bt673.1 bt673.2.1 bt673.2.2 t678 t681).bind fun bt684 => ((laws_toSea.f k a0_0 a0_1 l0_2).bind fun bt688 => ((laws_toInt64S.f k l1).bind fun t694 => ((laws_toInt64S.f k l2).bind fun t697 => ((impl_AnswersOf.f k bt688.1 bt688.2.1 bt688.2.2 t694 t697).bind fun bt700 => ((laws_eqInt64S.f k bt700.1 bt684.1).bind fun t704 => (if t704 = true then (laws_FnExactAnswersOf.j0 k l1 l2 bt684.1 bt684.2 t694 t697 bt700.1 bt700.2 (bt700.2 != bt684.2) a0_0 a0_1 l0_2 bt688.1 bt688.2.1 bt688.2.2) else (laws_FnExactAnswersOf.j0 k l1 l2 bt684.1 bt684.2 t694 t697 bt700.1 bt700.2 true a0_0 a0_1 l0_2 bt688.1 bt688.2.1 bt688.2.2))))))))))))))) = some true := h
 clear h
 by_cases c4 : (l1.length : Int) > 1048576
 ·rw [if_pos c4] at H
  have c4b0 : decide (1048576 < (l1.length : Int)) = true := decide_eq_true c4
  have c4b1 : decide (1048576 < l1.length) = true := decide_eq_true (by omega)
  clear c4
  clear H
  go_enter Try.func8, Try.ntmps8
  go_wp2_with (first | ((with_reducible refine gate_dst (N := 3) rfl ?_); refine box_event ?hg (N := 3) ?hd (cs := #[.int .i64 a0_0, .int .i64 a0_1, .slice A0_2 l0_2.length c0_2]) (t := 24) ?hr ?_; (case hd => rfl); (case hg => rfl); (case hr => first | (go_simp; done) | (go_simp; rfl)); intro gb671 hg w5 hbox hb; have n0_ := Aside0.mk (below_step hb_ hb); have n1_ := Aside0.mk (hbox); have n2_ := Aside0.mk ((by rw [hg]; exact (below_size hb_) : w.heap.size ≤ gb671)); have n3_ := Aside0.mk ((by rw [hg]; exact (below_size hb_) : w.heap.size ≤ gb671)); clear HB; have HB := n0_; have BK671 := n1_; have GW671 := n2_; have GE671 := n3_; clear n0_ n1_ n2_ n3_; clear hb hbox hg))
  go_ret
  exact ⟨by first | rfl | (simp [errW_none, errW_some] <;> rfl) | (simp [*, errW_none, errW_some] <;> rfl), by repeat (first | (with_reducible first | exact HB.out | apply below_alloc | apply pw_below_drewN | apply below_drew1 | refine below_set ?_ GE671.out) | exact HB.out)⟩
 ·rw [if_neg c4] at H
  have c4b0 : decide (1048576 < (l1.length : Int)) = false := decide_eq_false c4
  have c4b1 : decide (1048576 < l1.length) = false := decide_eq_false (by omega)
  clear c4
  by_cases c6 : (l2.length : Int) > 1048576
  ·rw [if_pos c6] at H
   have c6b0 : decide (1048576 < (l2.length : Int)) = true := decide_eq_true c6
   have c6b1 : decide (1048576 < l2.length) = true := decide_eq_true (by omega)
   clear c6
   clear H
   go_enter Try.func8, Try.ntmps8
   go_wp2_with (first | ((with_reducible refine gate_dst (N := 3) rfl ?_); refine box_event ?hg (N := 3) ?hd (cs := #[.int .i64 a0_0, .int .i64 a0_1, .slice A0_2 l0_2.length c0_2]) (t := 24) ?hr ?_; (case hd => rfl); (case hg => rfl); (case hr => first | (go_simp; done) | (go_simp; rfl)); intro gb671 hg w7 hbox hb; have n0_ := Aside0.mk (below_step hb_ hb); have n1_ := Aside0.mk (hbox); have n2_ := Aside0.mk ((by rw [hg]; exact (below_size hb_) : w.heap.size ≤ gb671)); have n3_ := Aside0.mk ((by rw [hg]; exact (below_size hb_) : w.heap.size ≤ gb671)); clear HB; have HB := n0_; have BK671 := n1_; have GW671 := n2_; have GE671 := n3_; clear n0_ n1_ n2_ n3_; clear hb hbox hg))
   go_ret
   exact ⟨by first | rfl | (simp [errW_none, errW_some] <;> rfl) | (simp [*, errW_none, errW_some] <;> rfl), by repeat (first | (with_reducible first | exact HB.out | apply below_alloc | apply pw_below_drewN | apply below_drew1 | refine below_set ?_ GE671.out) | exact HB.out)⟩
  ·rw [if_neg c6] at H
   have c6b0 : decide (1048576 < (l2.length : Int)) = false := decide_eq_false c6
   have c6b1 : decide (1048576 < l2.length) = false := decide_eq_false (by omega)
   clear c6
   replace H := Option.bind_eq_some_iff.mp H
   obtain ⟨t672, A80, H⟩ := H
   replace H : (if t672 < 0 then (some true) else ((laws_toSea.f k a0_0 a0_1 l0_2).bind fun bt673 => ((laws_toInt64S.f k l1).bind fun t678 => ((laws_toInt64S.f k l2).bind fun t681 => ((spec_AnswersOf.f k bt673.1 bt673.2.1 bt673.2.2 t678 t681).bind fun bt684 => ((laws_toSea.f k a0_0 a0_1 l0_2).bind fun bt688 => ((laws_toInt64S.f k l1).bind fun t694 => ((laws_toInt64S.f k l2).bind fun t697 => ((impl_AnswersOf.f k bt688.1 bt688.2.1 bt688.2.2 t694 t697).bind fun bt700 => ((laws_eqInt64S.f k bt700.1 bt684.1).bind fun t704 => (if t704 = true then (laws_FnExactAnswersOf.j0 k l1 l2 bt684.1 bt684.2 t694 t697 bt700.1 bt700.2 (bt700.2 != bt684.2) a0_0 a0_1 l0_2 bt688.1 bt688.2.1 bt688.2.2) else (laws_FnExactAnswersOf.j0 k l1 l2 bt684.1 bt684.2 t694 t697 bt700.1 bt700.2 true a0_0 a0_1 l0_2 bt688.1 bt688.2.1 bt688.2.2)))))))))))) = some true := H
   have A8 := Aside0.mk A80
   clear A80
   by_cases c9 : t672 < 0
   ·rw [if_pos c9] at H
    have c9b0 : decide (t672 < 0) = true := decide_eq_true c9
    clear c9
    clear H
    go_enter Try.func8, Try.ntmps8
    go_wp2_with (first | ((with_reducible refine gate_dst (N := 3) rfl ?_); refine box_event ?hg (N := 3) ?hd (cs := #[.int .i64 a0_0, .int .i64 a0_1, .slice A0_2 l0_2.length c0_2]) (t := 24) ?hr ?_; (case hd => rfl); (case hg => rfl); (case hr => first | (go_simp; done) | (go_simp; rfl)); intro gb671 hg w10 hbox hb; have n0_ := Aside0.mk (below_step hb_ hb); have n1_ := Aside0.mk (hbox); have n2_ := Aside0.mk ((by rw [hg]; exact (below_size hb_) : w.heap.size ≤ gb671)); have n3_ := Aside0.mk ((by rw [hg]; exact (below_size hb_) : w.heap.size ≤ gb671)); clear HB; have HB := n0_; have BK671 := n1_; have GW671 := n2_; have GE671 := n3_; clear n0_ n1_ n2_ n3_; clear hb hbox hg; have hcz11_0 : w10.cell? ⟨gb671, 0, none⟩ = some (.int .i64 a0_0) := (blk_cell BK671.out 0).trans rfl; have hcz11_1 : w10.cell? ⟨gb671, 1, none⟩ = some (.int .i64 a0_1) := (blk_cell BK671.out 1).trans rfl; have hcz11_2 : w10.cell? ⟨gb671, 2, none⟩ = some (.slice A0_2 l0_2.length c0_2) := (blk_cell BK671.out 2).trans rfl; have hfz11_0 := blk_frozen BK671.out 0; have hfz11_1 := blk_frozen BK671.out 1; have hfz11_2 := blk_frozen BK671.out 2) | ((with_reducible refine gate_callee (f := 15) rfl ?_); refine goesA_ (some 28) rfl rfl Try.func15 (by kernel_rfl) rfl #[.agg #[.int .i64 a0_0, .int .i64 a0_1, .slice A0_2 l0_2.length c0_2], .int .i64 1048576] rfl ?_; (with_reducible refine (laws_szSea.calls a0_0 a0_1 _ _ l0_2 1048576 t672 _ ?side1 ?side2 A8.out).mono ?_); (case side1 => repeat (first | exact (Kd.C_below HR0_2.out HB.out) | (with_reducible refine Kd.C_alloc ?_ _) | (with_reducible refine Kd.C_drewN ?_ _) | (with_reducible refine Kd.C_drew ?_))); (case side2 => exact HC0_2.out); rintro e w12 ⟨rfl, hb⟩; refine ⟨_, rfl, ?_⟩; have n0_ := Aside0.mk (blk_below (g := gb671) (o := .cells #[.int .i64 a0_0, .int .i64 a0_1, .slice A0_2 l0_2.length c0_2] 24 (0, 0)) (by (with_reducible repeat (first | refine blk_drewN ?_ _ | refine blk_drew ?_ | refine blk_alloc ?_ _)); exact BK671.out) hb); have n1_ := Aside0.mk (below_step (by repeat (first | (with_reducible first | exact HB.out | apply below_alloc | apply pw_below_drewN | apply below_drew1 | refine below_set ?_ GE671.out) | exact HB.out)) hb); clear BK671; clear HB; have BK671 := n0_; have HB := n1_; clear n0_ n1_; (try clear hb); (try clear hb2); (try clear hk); (try clear hi)))
    go_ret
    exact ⟨by first | rfl | (simp [errW_none, errW_some] <;> rfl) | (simp [*, errW_none, errW_some] <;> rfl), by repeat (first | (with_reducible first | exact HB.out | apply below_alloc | apply pw_below_drewN | apply below_drew1 | refine below_set ?_ GE671.out) | exact HB.out)⟩
   ·rw [if_neg c9] at H
    have c9b0 : decide (t672 < 0) = false := decide_eq_false c9
    clear c9
    replace H := Option.bind_eq_some_iff.mp H
    obtain ⟨⟨t673, t674, t675⟩, A130, H⟩ := H
    replace H : ((laws_toInt64S.f k l1).bind fun t678 => ((laws_toInt64S.f k l2).bind fun t681 => ((spec_AnswersOf.f k t673 t674 t675 t678 t681).bind fun bt684 => ((laws_toSea.f k a0_0 a0_1 l0_2).bind fun bt688 => ((laws_toInt64S.f k l1).bind fun t694 => ((laws_toInt64S.f k l2).bind fun t697 => ((impl_AnswersOf.f k bt688.1 bt688.2.1 bt688.2.2 t694 t697).bind fun bt700 => ((laws_eqInt64S.f k bt700.1 bt684.1).bind fun t704 => (if t704 = true then (laws_FnExactAnswersOf.j0 k l1 l2 bt684.1 bt684.2 t694 t697 bt700.1 bt700.2 (bt700.2 != bt684.2) a0_0 a0_1 l0_2 bt688.1 bt688.2.1 bt688.2.2) else (laws_FnExactAnswersOf.j0 k l1 l2 bt684.1 bt684.2 t694 t697 bt700.1 bt700.2 true a0_0 a0_1 l0_2 bt688.1 bt688.2.1 bt688.2.2)))))))))) = some true := H
    have A13 := Aside0.mk A130
    clear A130
    replace H := Option.bind_eq_some_iff.mp H
    obtain ⟨t678, A140, H⟩ := H
    replace H : ((laws_toInt64S.f k l2).bind fun t681 => ((spec_AnswersOf.f k t673 t674 t675 t678 t681).bind fun bt684 => ((laws_toSea.f k a0_0 a0_1 l0_2).bind fun bt688 => ((laws_toInt64S.f k l1).bind fun t694 => ((laws_toInt64S.f k l2).bind fun t697 => ((impl_AnswersOf.f k bt688.1 bt688.2.1 bt688.2.2 t694 t697).bind fun bt700 => ((laws_eqInt64S.f k bt700.1 bt684.1).bind fun t704 => (if t704 = true then (laws_FnExactAnswersOf.j0 k l1 l2 bt684.1 bt684.2 t694 t697 bt700.1 bt700.2 (bt700.2 != bt684.2) a0_0 a0_1 l0_2 bt688.1 bt688.2.1 bt688.2.2) else (laws_FnExactAnswersOf.j0 k l1 l2 bt684.1 bt684.2 t694 t697 bt700.1 bt700.2 true a0_0 a0_1 l0_2 bt688.1 bt688.2.1 bt688.2.2))))))))) = some true := H
    have A14 := Aside0.mk A140
    clear A140
    replace H := Option.bind_eq_some_iff.mp H
    obtain ⟨t681, A150, H⟩ := H
    replace H : ((spec_AnswersOf.f k t673 t674 t675 t678 t681).bind fun bt684 => ((laws_toSea.f k a0_0 a0_1 l0_2).bind fun bt688 => ((laws_toInt64S.f k l1).bind fun t694 => ((laws_toInt64S.f k l2).bind fun t697 => ((impl_AnswersOf.f k bt688.1 bt688.2.1 bt688.2.2 t694 t697).bind fun bt700 => ((laws_eqInt64S.f k bt700.1 bt684.1).bind fun t704 => (if t704 = true then (laws_FnExactAnswersOf.j0 k l1 l2 bt684.1 bt684.2 t694 t697 bt700.1 bt700.2 (bt700.2 != bt684.2) a0_0 a0_1 l0_2 bt688.1 bt688.2.1 bt688.2.2) else (laws_FnExactAnswersOf.j0 k l1 l2 bt684.1 bt684.2 t694 t697 bt700.1 bt700.2 true a0_0 a0_1 l0_2 bt688.1 bt688.2.1 bt688.2.2)))))))) = some true := H
    have A15 := Aside0.mk A150
    clear A150
    replace H := Option.bind_eq_some_iff.mp H
    obtain ⟨⟨t684, t687⟩, A160, H⟩ := H
    replace H : ((laws_toSea.f k a0_0 a0_1 l0_2).bind fun bt688 => ((laws_toInt64S.f k l1).bind fun t694 => ((laws_toInt64S.f k l2).bind fun t697 => ((impl_AnswersOf.f k bt688.1 bt688.2.1 bt688.2.2 t694 t697).bind fun bt700 => ((laws_eqInt64S.f k bt700.1 t684).bind fun t704 => (if t704 = true then (laws_FnExactAnswersOf.j0 k l1 l2 t684 t687 t694 t697 bt700.1 bt700.2 (bt700.2 != t687) a0_0 a0_1 l0_2 bt688.1 bt688.2.1 bt688.2.2) else (laws_FnExactAnswersOf.j0 k l1 l2 t684 t687 t694 t697 bt700.1 bt700.2 true a0_0 a0_1 l0_2 bt688.1 bt688.2.1 bt688.2.2))))))) = some true := H
    have A16 := Aside0.mk A160
    clear A160
    replace H := Option.bind_eq_some_iff.mp H
    obtain ⟨⟨t688, t689, t690⟩, A170, H⟩ := H
    replace H : ((laws_toInt64S.f k l1).bind fun t694 => ((laws_toInt64S.f k l2).bind fun t697 => ((impl_AnswersOf.f k t688 t689 t690 t694 t697).bind fun bt700 => ((laws_eqInt64S.f k bt700.1 t684).bind fun t704 => (if t704 = true then (laws_FnExactAnswersOf.j0 k l1 l2 t684 t687 t694 t697 bt700.1 bt700.2 (bt700.2 != t687) a0_0 a0_1 l0_2 t688 t689 t690) else (laws_FnExactAnswersOf.j0 k l1 l2 t684 t687 t694 t697 bt700.1 bt700.2 true a0_0 a0_1 l0_2 t688 t689 t690)))))) = some true := H
    have A17 := Aside0.mk A170
    clear A170
    replace H := Option.bind_eq_some_iff.mp H
    obtain ⟨t694, A180, H⟩ := H
    replace H : ((laws_toInt64S.f k l2).bind fun t697 => ((impl_AnswersOf.f k t688 t689 t690 t694 t697).bind fun bt700 => ((laws_eqInt64S.f k bt700.1 t684).bind fun t704 => (if t704 = true then (laws_FnExactAnswersOf.j0 k l1 l2 t684 t687 t694 t697 bt700.1 bt700.2 (bt700.2 != t687) a0_0 a0_1 l0_2 t688 t689 t690) else (laws_FnExactAnswersOf.j0 k l1 l2 t684 t687 t694 t697 bt700.1 bt700.2 true a0_0 a0_1 l0_2 t688 t689 t690))))) = some true := H
    have A18 := Aside0.mk A180
    clear A180
    replace H := Option.bind_eq_some_iff.mp H
    obtain ⟨t697, A190, H⟩ := H
    replace H : ((impl_AnswersOf.f k t688 t689 t690 t694 t697).bind fun bt700 => ((laws_eqInt64S.f k bt700.1 t684).bind fun t704 => (if t704 = true then (laws_FnExactAnswersOf.j0 k l1 l2 t684 t687 t694 t697 bt700.1 bt700.2 (bt700.2 != t687) a0_0 a0_1 l0_2 t688 t689 t690) else (laws_FnExactAnswersOf.j0 k l1 l2 t684 t687 t694 t697 bt700.1 bt700.2 true a0_0 a0_1 l0_2 t688 t689 t690)))) = some true := H
    have A19 := Aside0.mk A190
    clear A190
    replace H := Option.bind_eq_some_iff.mp H
    obtain ⟨⟨t700, t703⟩, A200, H⟩ := H
    replace H : ((laws_eqInt64S.f k t700 t684).bind fun t704 => (if t704 = true then (laws_FnExactAnswersOf.j0 k l1 l2 t684 t687 t694 t697 t700 t703 (t703 != t687) a0_0 a0_1 l0_2 t688 t689 t690) else (laws_FnExactAnswersOf.j0 k l1 l2 t684 t687 t694 t697 t700 t703 true a0_0 a0_1 l0_2 t688 t689 t690))) = some true := H
    have A20 := Aside0.mk A200
    clear A200
    have HC21 := Aside0.mk H
    clear H
    go_enter Try.func8, Try.ntmps8
    go_upto_region 14 with (first | ((with_reducible refine gate_dst (N := 3) rfl ?_); refine box_event ?hg (N := 3) ?hd (cs := #[.int .i64 a0_0, .int .i64 a0_1, .slice A0_2 l0_2.length c0_2]) (t := 24) ?hr ?_; (case hd => rfl); (case hg => rfl); (case hr => first | (go_simp; done) | (go_simp; rfl)); intro gb671 hg w22 hbox hb; have n0_ := Aside0.mk (below_step hb_ hb); have n1_ := Aside0.mk (hbox); have n2_ := Aside0.mk ((by rw [hg]; exact (below_size hb_) : w.heap.size ≤ gb671)); have n3_ := Aside0.mk ((by rw [hg]; exact (below_size hb_) : w.heap.size ≤ gb671)); clear HB; have HB := n0_; have BK671 := n1_; have GW671 := n2_; have GE671 := n3_; clear n0_ n1_ n2_ n3_; clear hb hbox hg; have hcz23_0 : w22.cell? ⟨gb671, 0, none⟩ = some (.int .i64 a0_0) := (blk_cell BK671.out 0).trans rfl; have hcz23_1 : w22.cell? ⟨gb671, 1, none⟩ = some (.int .i64 a0_1) := (blk_cell BK671.out 1).trans rfl; have hcz23_2 : w22.cell? ⟨gb671, 2, none⟩ = some (.slice A0_2 l0_2.length c0_2) := (blk_cell BK671.out 2).trans rfl; have hfz23_0 := blk_frozen BK671.out 0; have hfz23_1 := blk_frozen BK671.out 1; have hfz23_2 := blk_frozen BK671.out 2) | ((with_reducible refine gate_callee (f := 15) rfl ?_); refine goesA_ (some 28) rfl rfl Try.func15 (by kernel_rfl) rfl #[.agg #[.int .i64 a0_0, .int .i64 a0_1, .slice A0_2 l0_2.length c0_2], .int .i64 1048576] rfl ?_; (with_reducible refine (laws_szSea.calls a0_0 a0_1 _ _ l0_2 1048576 t672 _ ?side1 ?side2 A8.out).mono ?_); (case side1 => repeat (first | exact (Kd.C_below HR0_2.out HB.out) | (with_reducible refine Kd.C_alloc ?_ _) | (with_reducible refine Kd.C_drewN ?_ _) | (with_reducible refine Kd.C_drew ?_))); (case side2 => exact HC0_2.out); rintro e w24 ⟨rfl, hb⟩; refine ⟨_, rfl, ?_⟩; have n0_ := Aside0.mk (blk_below (g := gb671) (o := .cells #[.int .i64 a0_0, .int .i64 a0_1, .slice A0_2 l0_2.length c0_2] 24 (0, 0)) (by (with_reducible repeat (first | refine blk_drewN ?_ _ | refine blk_drew ?_ | refine blk_alloc ?_ _)); exact BK671.out) hb); have n1_ := Aside0.mk (below_step (by repeat (first | (with_reducible first | exact HB.out | apply below_alloc | apply pw_below_drewN | apply below_drew1 | refine below_set ?_ GE671.out) | exact HB.out)) hb); clear BK671; clear HB; have BK671 := n0_; have HB := n1_; clear n0_ n1_; (try clear hb); (try clear hb2); (try clear hk); (try clear hi); have hcz25_0 : w24.cell? ⟨gb671, 0, none⟩ = some (.int .i64 a0_0) := (blk_cell BK671.out 0).trans rfl; have hcz25_1 : w24.cell? ⟨gb671, 1, none⟩ = some (.int .i64 a0_1) := (blk_cell BK671.out 1).trans rfl; have hcz25_2 : w24.cell? ⟨gb671, 2, none⟩ = some (.slice A0_2 l0_2.length c0_2) := (blk_cell BK671.out 2).trans rfl; have hfz25_0 := blk_frozen BK671.out 0; have hfz25_1 := blk_frozen BK671.out 1; have hfz25_2 := blk_frozen BK671.out 2) | ((with_reducible refine gate_callee (f := 17) rfl ?_); refine goesA_ (some 33) rfl rfl Try.func17 (by kernel_rfl) rfl #[.agg #[.int .i64 a0_0, .int .i64 a0_1, .slice A0_2 l0_2.length c0_2]] rfl ?_; (with_reducible refine (laws_toSea.calls k a0_0 a0_1 _ _ l0_2 t673 t674 t675 _ ?side1 ?side2 A13.out).mono ?_); (case side1 => repeat (first | exact (Kd.C_below HR0_2.out HB.out) | (with_reducible refine Kd.C_alloc ?_ _) | (with_reducible refine Kd.C_drewN ?_ _) | (with_reducible refine Kd.C_drew ?_))); (case side2 => exact HC0_2.out); rintro e w26 ⟨v676, rfl, ho0, hb⟩; refine ⟨_, rfl, ?_⟩; have n0_ := Aside0.mk (Kd.R_lower ho0 (below_size (by repeat (first | (with_reducible first | exact HB.out | apply below_alloc | apply pw_below_drewN | apply below_drew1 | refine below_set ?_ GE671.out) | exact HB.out)))); have n1_ := Aside0.mk (blk_below (g := gb671) (o := .cells #[.int .i64 a0_0, .int .i64 a0_1, .slice A0_2 l0_2.length c0_2] 24 (0, 0)) (by (with_reducible repeat (first | refine blk_drewN ?_ _ | refine blk_drew ?_ | refine blk_alloc ?_ _)); exact BK671.out) hb); have n2_ := Aside0.mk (below_step (by repeat (first | (with_reducible first | exact HB.out | apply below_alloc | apply pw_below_drewN | apply below_drew1 | refine below_set ?_ GE671.out) | exact HB.out)) hb); clear BK671; clear HB; have HO677 := n0_; have BK671 := n1_; have HB := n2_; clear n0_ n1_ n2_; (try clear hb); (try clear hb2); (try clear hk); (try clear hi); (try clear ho0)) | ((with_reducible refine gate_callee (f := 25) rfl ?_); refine goesA_ (some 35) rfl rfl Try.func25 (by kernel_rfl) rfl #[.slice A1 l1.length c1] rfl ?_; (with_reducible refine (laws_toInt64S.calls k _ _ l1 t678 _ ?side1 ?side2 A14.out).mono ?_); (case side1 => repeat (first | exact (Kd.C_below HR1.out HB.out) | (with_reducible refine Kd.C_alloc ?_ _) | (with_reducible refine Kd.C_drewN ?_ _) | (with_reducible refine Kd.C_drew ?_))); (case side2 => exact HC1.out); rintro e w27 ⟨v679, rfl, ho0, hb⟩; refine ⟨_, rfl, ?_⟩; have n0_ := Aside0.mk (Kd.R_elder' (by (with_reducible repeat (first | apply Kd.R_alloc | apply Kd.R_drewN | apply Kd.R_drew)); exact HO677.out) (Kd.R_base ho0) hb); have n1_ := Aside0.mk (Kd.R_lower (Kd.R_new' ho0 (Kd.R_lt (by (with_reducible repeat (first | apply Kd.R_alloc | apply Kd.R_drewN | apply Kd.R_drew)); exact HO677.out))) (below_size (by repeat (first | (with_reducible first | exact HB.out | apply below_alloc | apply pw_below_drewN | apply below_drew1 | refine below_set ?_ GE671.out) | exact HB.out)))); have n2_ := Aside0.mk (blk_below (g := gb671) (o := .cells #[.int .i64 a0_0, .int .i64 a0_1, .slice A0_2 l0_2.length c0_2] 24 (0, 0)) (by (with_reducible repeat (first | refine blk_drewN ?_ _ | refine blk_drew ?_ | refine blk_alloc ?_ _)); exact BK671.out) hb); have n3_ := Aside0.mk (below_step (by repeat (first | (with_reducible first | exact HB.out | apply below_alloc | apply pw_below_drewN | apply below_drew1 | refine below_set ?_ GE671.out) | exact HB.out)) hb); clear HO677; clear BK671; clear HB; have HO677 := n0_; have HO680 := n1_; have BK671 := n2_; have HB := n3_; clear n0_ n1_ n2_ n3_; (try clear hb); (try clear hb2); (try clear hk); (try clear hi); (try clear ho0)) | ((with_reducible refine gate_callee (f := 25) rfl ?_); refine goesA_ (some 37) rfl rfl Try.func25 (by kernel_rfl) rfl #[.slice A2 l2.length c2] rfl ?_; (with_reducible refine (laws_toInt64S.calls k _ _ l2 t681 _ ?side1 ?side2 A15.out).mono ?_); (case side1 => repeat (first | exact (Kd.C_below HR2.out HB.out) | (with_reducible refine Kd.C_alloc ?_ _) | (with_reducible refine Kd.C_drewN ?_ _) | (with_reducible refine Kd.C_drew ?_))); (case side2 => exact HC2.out); rintro e w28 ⟨v682, rfl, ho0, hb⟩; refine ⟨_, rfl, ?_⟩; have n0_ := Aside0.mk (Kd.R_elder' (by (with_reducible repeat (first | apply Kd.R_alloc | apply Kd.R_drewN | apply Kd.R_drew)); exact HO677.out) (Kd.R_base ho0) hb); have n1_ := Aside0.mk (Kd.R_elder' (by (with_reducible repeat (first | apply Kd.R_alloc | apply Kd.R_drewN | apply Kd.R_drew)); exact HO680.out) (Kd.R_base ho0) hb); have n2_ := Aside0.mk (Kd.R_lower (Kd.R_new' (Kd.R_new' ho0 (Kd.R_lt (by (with_reducible repeat (first | apply Kd.R_alloc | apply Kd.R_drewN | apply Kd.R_drew)); exact HO677.out))) (Kd.R_lt (by (with_reducible repeat (first | apply Kd.R_alloc | apply Kd.R_drewN | apply Kd.R_drew)); exact HO680.out))) (below_size (by repeat (first | (with_reducible first | exact HB.out | apply below_alloc | apply pw_below_drewN | apply below_drew1 | refine below_set ?_ GE671.out) | exact HB.out)))); have n3_ := Aside0.mk (blk_below (g := gb671) (o := .cells #[.int .i64 a0_0, .int .i64 a0_1, .slice A0_2 l0_2.length c0_2] 24 (0, 0)) (by (with_reducible repeat (first | refine blk_drewN ?_ _ | refine blk_drew ?_ | refine blk_alloc ?_ _)); exact BK671.out) hb); have n4_ := Aside0.mk (below_step (by repeat (first | (with_reducible first | exact HB.out | apply below_alloc | apply pw_below_drewN | apply below_drew1 | refine below_set ?_ GE671.out) | exact HB.out)) hb); clear HO677; clear HO680; clear BK671; clear HB; have HO677 := n0_; have HO680 := n1_; have HO683 := n2_; have BK671 := n3_; have HB := n4_; clear n0_ n1_ n2_ n3_ n4_; (try clear hb); (try clear hb2); (try clear hk); (try clear hi); (try clear ho0); obtain ⟨Ao29, co29, eo29⟩ := Kd.R_slice HO677.out; subst eo29; obtain ⟨Ao30, co30, eo30⟩ := Kd.R_slice HO680.out; subst eo30; obtain ⟨Ao31, co31, eo31⟩ := Kd.R_slice HO683.out; subst eo31) | ((with_reducible refine gate_callee (f := 36) rfl ?_); refine goesA_ (some 38) rfl rfl Try.func36 (by kernel_rfl) rfl #[.agg #[.int .i64 t673, .int .i64 t674, .slice Ao29 t675.length co29], .slice Ao30 t678.length co30, .slice Ao31 t681.length co31] rfl ?_; (with_reducible refine (spec_AnswersOf.calls k t673 t674 _ _ t675 _ _ t678 _ _ t681 t684 t687 _ ?side1 ?side2 ?side3 ?side4 ?side5 ?side6 A16.out).mono ?_); (case side1 => repeat (first | exact (Kd.R_reads' HO677.out).2.2 | (with_reducible refine Kd.C_alloc ?_ _) | (with_reducible refine Kd.C_drewN ?_ _) | (with_reducible refine Kd.C_drew ?_))); (case side2 => exact (Kd.R_reads' HO677.out).2.1); (case side3 => repeat (first | exact (Kd.R_reads' HO680.out).2.2 | (with_reducible refine Kd.C_alloc ?_ _) | (with_reducible refine Kd.C_drewN ?_ _) | (with_reducible refine Kd.C_drew ?_))); (case side4 => exact (Kd.R_reads' HO680.out).2.1); (case side5 => repeat (first | exact (Kd.R_reads' HO683.out).2.2 | (with_reducible refine Kd.C_alloc ?_ _) | (with_reducible refine Kd.C_drewN ?_ _) | (with_reducible refine Kd.C_drew ?_))); (case side6 => exact (Kd.R_reads' HO683.out).2.1); rintro e w32 ⟨v685, rfl, ho0, hb⟩; refine ⟨_, rfl, ?_⟩; have n0_ := Aside0.mk (Kd.R_elder' (by (with_reducible repeat (first | apply Kd.R_alloc | apply Kd.R_drewN | apply Kd.R_drew)); exact HO677.out) (Kd.R_base ho0) hb); have n1_ := Aside0.mk (Kd.R_elder' (by (with_reducible repeat (first | apply Kd.R_alloc | apply Kd.R_drewN | apply Kd.R_drew)); exact HO680.out) (Kd.R_base ho0) hb); have n2_ := Aside0.mk (Kd.R_elder' (by (with_reducible repeat (first | apply Kd.R_alloc | apply Kd.R_drewN | apply Kd.R_drew)); exact HO683.out) (Kd.R_base ho0) hb); have n3_ := Aside0.mk (Kd.R_lower (Kd.R_new' (Kd.R_new' (Kd.R_new' ho0 (Kd.R_lt (by (with_reducible repeat (first | apply Kd.R_alloc | apply Kd.R_drewN | apply Kd.R_drew)); exact HO677.out))) (Kd.R_lt (by (with_reducible repeat (first | apply Kd.R_alloc | apply Kd.R_drewN | apply Kd.R_drew)); exact HO680.out))) (Kd.R_lt (by (with_reducible repeat (first | apply Kd.R_alloc | apply Kd.R_drewN | apply Kd.R_drew)); exact HO683.out))) (below_size (by repeat (first | (with_reducible first | exact HB.out | apply below_alloc | apply pw_below_drewN | apply below_drew1 | refine below_set ?_ GE671.out) | exact HB.out)))); have n4_ := Aside0.mk (blk_below (g := gb671) (o := .cells #[.int .i64 a0_0, .int .i64 a0_1, .slice A0_2 l0_2.length c0_2] 24 (0, 0)) (by (with_reducible repeat (first | refine blk_drewN ?_ _ | refine blk_drew ?_ | refine blk_alloc ?_ _)); exact BK671.out) hb); have n5_ := Aside0.mk (below_step (by repeat (first | (with_reducible first | exact HB.out | apply below_alloc | apply pw_below_drewN | apply below_drew1 | refine below_set ?_ GE671.out) | exact HB.out)) hb); clear HO677; clear HO680; clear HO683; clear BK671; clear HB; have HO677 := n0_; have HO680 := n1_; have HO683 := n2_; have HO686 := n3_; have BK671 := n4_; have HB := n5_; clear n0_ n1_ n2_ n3_ n4_ n5_; (try clear hb); (try clear hb2); (try clear hk); (try clear hi); (try clear ho0); have hcz33_0 : w32.cell? ⟨gb671, 0, none⟩ = some (.int .i64 a0_0) := (blk_cell BK671.out 0).trans rfl; have hcz33_1 : w32.cell? ⟨gb671, 1, none⟩ = some (.int .i64 a0_1) := (blk_cell BK671.out 1).trans rfl; have hcz33_2 : w32.cell? ⟨gb671, 2, none⟩ = some (.slice A0_2 l0_2.length c0_2) := (blk_cell BK671.out 2).trans rfl; have hfz33_0 := blk_frozen BK671.out 0; have hfz33_1 := blk_frozen BK671.out 1; have hfz33_2 := blk_frozen BK671.out 2) | ((with_reducible refine gate_callee (f := 17) rfl ?_); refine goesA_ (some 42) rfl rfl Try.func17 (by kernel_rfl) rfl #[.agg #[.int .i64 a0_0, .int .i64 a0_1, .slice A0_2 l0_2.length c0_2]] rfl ?_; (with_reducible refine (laws_toSea.calls k a0_0 a0_1 _ _ l0_2 t688 t689 t690 _ ?side1 ?side2 A17.out).mono ?_); (case side1 => repeat (first | exact (Kd.C_below HR0_2.out HB.out) | (with_reducible refine Kd.C_alloc ?_ _) | (with_reducible refine Kd.C_drewN ?_ _) | (with_reducible refine Kd.C_drew ?_))); (case side2 => exact HC0_2.out); rintro e w34 ⟨v691, rfl, ho0, hb⟩; refine ⟨_, rfl, ?_⟩; have n0_ := Aside0.mk (Kd.R_elder' (by (with_reducible repeat (first | apply Kd.R_alloc | apply Kd.R_drewN | apply Kd.R_drew)); exact HO677.out) (Kd.R_base ho0) hb); have n1_ := Aside0.mk (Kd.R_elder' (by (with_reducible repeat (first | apply Kd.R_alloc | apply Kd.R_drewN | apply Kd.R_drew)); exact HO680.out) (Kd.R_base ho0) hb); have n2_ := Aside0.mk (Kd.R_elder' (by (with_reducible repeat (first | apply Kd.R_alloc | apply Kd.R_drewN | apply Kd.R_drew)); exact HO683.out) (Kd.R_base ho0) hb); have n3_ := Aside0.mk (Kd.R_elder' (by (with_reducible repeat (first | apply Kd.R_alloc | apply Kd.R_drewN | apply Kd.R_drew)); exact HO686.out) (Kd.R_base ho0) hb); have n4_ := Aside0.mk (Kd.R_lower (Kd.R_new' (Kd.R_new' (Kd.R_new' (Kd.R_new' ho0 (Kd.R_lt (by (with_reducible repeat (first | apply Kd.R_alloc | apply Kd.R_drewN | apply Kd.R_drew)); exact HO677.out))) (Kd.R_lt (by (with_reducible repeat (first | apply Kd.R_alloc | apply Kd.R_drewN | apply Kd.R_drew)); exact HO680.out))) (Kd.R_lt (by (with_reducible repeat (first | apply Kd.R_alloc | apply Kd.R_drewN | apply Kd.R_drew)); exact HO683.out))) (Kd.R_lt (by (with_reducible repeat (first | apply Kd.R_alloc | apply Kd.R_drewN | apply Kd.R_drew)); exact HO686.out))) (below_size (by repeat (first | (with_reducible first | exact HB.out | apply below_alloc | apply pw_below_drewN | apply below_drew1 | refine below_set ?_ GE671.out) | exact HB.out)))); have n5_ := Aside0.mk (blk_below (g := gb671) (o := .cells #[.int .i64 a0_0, .int .i64 a0_1, .slice A0_2 l0_2.length c0_2] 24 (0, 0)) (by (with_reducible repeat (first | refine blk_drewN ?_ _ | refine blk_drew ?_ | refine blk_alloc ?_ _)); exact BK671.out) hb); have n6_ := Aside0.mk (below_step (by repeat (first | (with_reducible first | exact HB.out | apply below_alloc | apply pw_below_drewN | apply below_drew1 | refine below_set ?_ GE671.out) | exact HB.out)) hb); clear HO677; clear HO680; clear HO683; clear HO686; clear BK671; clear HB; have HO677 := n0_; have HO680 := n1_; have HO683 := n2_; have HO686 := n3_; have HO692 := n4_; have BK671 := n5_; have HB := n6_; clear n0_ n1_ n2_ n3_ n4_ n5_ n6_; (try clear hb); (try clear hb2); (try clear hk); (try clear hi); (try clear ho0)) | ((with_reducible refine gate_dst (N := 10) rfl ?_); refine box_event ?hg (N := 10) ?hd (cs := #[.int .i64 0, .int .i64 0, .slice none 0 0]) (t := 28) ?hr ?_; (case hd => rfl); (case hg => rfl); (case hr => first | (go_simp; done) | (go_simp; rfl)); intro gb693 hg w35 hbox hb; have n0_ := Aside0.mk (Kd.R_below (by (with_reducible repeat (first | apply Kd.R_alloc | apply Kd.R_drewN | apply Kd.R_drew)); exact HO677.out) hb); have n1_ := Aside0.mk (Kd.R_below (by (with_reducible repeat (first | apply Kd.R_alloc | apply Kd.R_drewN | apply Kd.R_drew)); exact HO680.out) hb); have n2_ := Aside0.mk (Kd.R_below (by (with_reducible repeat (first | apply Kd.R_alloc | apply Kd.R_drewN | apply Kd.R_drew)); exact HO683.out) hb); have n3_ := Aside0.mk (Kd.R_below (by (with_reducible repeat (first | apply Kd.R_alloc | apply Kd.R_drewN | apply Kd.R_drew)); exact HO686.out) hb); have n4_ := Aside0.mk (Kd.R_below (by (with_reducible repeat (first | apply Kd.R_alloc | apply Kd.R_drewN | apply Kd.R_drew)); exact HO692.out) hb); have n5_ := Aside0.mk (blk_below (g := gb671) (o := .cells #[.int .i64 a0_0, .int .i64 a0_1, .slice A0_2 l0_2.length c0_2] 24 (0, 0)) (by (with_reducible repeat (first | refine blk_drewN ?_ _ | refine blk_drew ?_ | refine blk_alloc ?_ _)); exact BK671.out) hb); have n6_ := Aside0.mk (below_step (by repeat (first | (with_reducible first | exact HB.out | apply below_alloc | apply pw_below_drewN | apply below_drew1 | refine below_set ?_ GE671.out) | exact HB.out)) hb); have n7_ := Aside0.mk (hbox); have n8_ := Aside0.mk ((by rw [hg]; exact (below_size (by repeat (first | (with_reducible first | exact HB.out | apply below_alloc | apply pw_below_drewN | apply below_drew1 | refine below_set ?_ GE671.out) | exact HB.out))) : w.heap.size ≤ gb693)); have n9_ := Aside0.mk ((by rw [hg]; exact (below_size (by repeat (first | (with_reducible first | exact HB.out | apply below_alloc | apply pw_below_drewN | apply below_drew1 | refine below_set ?_ GE671.out) | exact HB.out))) : w.heap.size ≤ gb693)); have n10_ := Aside0.mk ((by rw [hg]; exact Nat.ne_of_lt (blk_lt (g := gb671) (o := .cells #[.int .i64 a0_0, .int .i64 a0_1, .slice A0_2 l0_2.length c0_2] 24 (0, 0)) (by (with_reducible repeat (first | refine blk_drewN ?_ _ | refine blk_drew ?_ | refine blk_alloc ?_ _)); exact BK671.out)) : gb671 ≠ gb693)); have n11_ := Aside0.mk ((by rw [hg]; exact Nat.ne_of_gt (blk_lt (g := gb671) (o := .cells #[.int .i64 a0_0, .int .i64 a0_1, .slice A0_2 l0_2.length c0_2] 24 (0, 0)) (by (with_reducible repeat (first | refine blk_drewN ?_ _ | refine blk_drew ?_ | refine blk_alloc ?_ _)); exact BK671.out)) : gb693 ≠ gb671)); clear HO677; clear HO680; clear HO683; clear HO686; clear HO692; clear BK671; clear HB; have HO677 := n0_; have HO680 := n1_; have HO683 := n2_; have HO686 := n3_; have HO692 := n4_; have BK671 := n5_; have HB := n6_; have BK693 := n7_; have GW693 := n8_; have GE693 := n9_; have NB671_693 := n10_; have NB693_671 := n11_; clear n0_ n1_ n2_ n3_ n4_ n5_ n6_ n7_ n8_ n9_ n10_ n11_; clear hb hbox hg; have hnb36 := NB693_671.out; have hnc36 := NB671_693.out; have hcz37_0 : w35.cell? ⟨gb693, 0, none⟩ = some (.int .i64 0) := (blk_cell BK693.out 0).trans rfl; have hcz37_1 : w35.cell? ⟨gb693, 1, none⟩ = some (.int .i64 0) := (blk_cell BK693.out 1).trans rfl; have hcz37_2 : w35.cell? ⟨gb693, 2, none⟩ = some (.slice none 0 0) := (blk_cell BK693.out 2).trans rfl; have hfz37_0 := blk_frozen BK693.out 0; have hfz37_1 := blk_frozen BK693.out 1; have hfz37_2 := blk_frozen BK693.out 2; obtain ⟨Ao38, co38, eo38⟩ := Kd.R_slice HO692.out; subst eo38) | ((with_reducible refine gate_callee (f := 25) rfl ?_); refine goesA_ (some 44) rfl rfl Try.func25 (by kernel_rfl) rfl #[.slice A1 l1.length c1] rfl ?_; (with_reducible refine (laws_toInt64S.calls k _ _ l1 t694 _ ?side1 ?side2 A18.out).mono ?_); (case side1 => exact Kd.C_below HR1.out (by repeat (first | (with_reducible first | exact HB.out | apply below_alloc | apply pw_below_drewN | apply below_drew1 | refine below_set ?_ GE671.out | refine below_set ?_ GE693.out) | exact HB.out))); (case side2 => exact HC1.out); rintro e w39 ⟨v695, rfl, ho0, hb⟩; refine ⟨_, rfl, ?_⟩; have n0_ := Aside0.mk (Kd.R_elder' (by (with_reducible repeat (first | apply Kd.R_alloc | apply Kd.R_drewN | apply Kd.R_drew)); exact (Kd.R_mono (Kd.R_far (p := ⟨gb693, 2, none⟩) (Kd.R_far (p := ⟨gb693, 1, none⟩) (Kd.R_far (p := ⟨gb693, 0, none⟩) (Kd.R_types HO677.out BK693.out (by decide)) (fun _ hk => hk.2) (.int .i64 t688)) (fun _ hk => hk.2) (.int .i64 t689)) (fun _ hk => hk.2) (.slice Ao38 t690.length co38)) (fun _ h_ => h_.1))) (Kd.R_base ho0) hb); have n1_ := Aside0.mk (Kd.R_elder' (by (with_reducible repeat (first | apply Kd.R_alloc | apply Kd.R_drewN | apply Kd.R_drew)); exact (Kd.R_mono (Kd.R_far (p := ⟨gb693, 2, none⟩) (Kd.R_far (p := ⟨gb693, 1, none⟩) (Kd.R_far (p := ⟨gb693, 0, none⟩) (Kd.R_types HO680.out BK693.out (by decide)) (fun _ hk => hk.2) (.int .i64 t688)) (fun _ hk => hk.2) (.int .i64 t689)) (fun _ hk => hk.2) (.slice Ao38 t690.length co38)) (fun _ h_ => h_.1))) (Kd.R_base ho0) hb); have n2_ := Aside0.mk (Kd.R_elder' (by (with_reducible repeat (first | apply Kd.R_alloc | apply Kd.R_drewN | apply Kd.R_drew)); exact (Kd.R_mono (Kd.R_far (p := ⟨gb693, 2, none⟩) (Kd.R_far (p := ⟨gb693, 1, none⟩) (Kd.R_far (p := ⟨gb693, 0, none⟩) (Kd.R_types HO683.out BK693.out (by decide)) (fun _ hk => hk.2) (.int .i64 t688)) (fun _ hk => hk.2) (.int .i64 t689)) (fun _ hk => hk.2) (.slice Ao38 t690.length co38)) (fun _ h_ => h_.1))) (Kd.R_base ho0) hb); have n3_ := Aside0.mk (Kd.R_elder' (by (with_reducible repeat (first | apply Kd.R_alloc | apply Kd.R_drewN | apply Kd.R_drew)); exact (Kd.R_mono (Kd.R_far (p := ⟨gb693, 2, none⟩) (Kd.R_far (p := ⟨gb693, 1, none⟩) (Kd.R_far (p := ⟨gb693, 0, none⟩) (Kd.R_types HO686.out BK693.out (by decide)) (fun _ hk => hk.2) (.int .i64 t688)) (fun _ hk => hk.2) (.int .i64 t689)) (fun _ hk => hk.2) (.slice Ao38 t690.length co38)) (fun _ h_ => h_.1))) (Kd.R_base ho0) hb); have n4_ := Aside0.mk (Kd.R_elder' (by (with_reducible repeat (first | apply Kd.R_alloc | apply Kd.R_drewN | apply Kd.R_drew)); exact (Kd.R_mono (Kd.R_far (p := ⟨gb693, 2, none⟩) (Kd.R_far (p := ⟨gb693, 1, none⟩) (Kd.R_far (p := ⟨gb693, 0, none⟩) (Kd.R_types HO692.out BK693.out (by decide)) (fun _ hk => hk.2) (.int .i64 t688)) (fun _ hk => hk.2) (.int .i64 t689)) (fun _ hk => hk.2) (.slice Ao38 t690.length co38)) (fun _ h_ => h_.1))) (Kd.R_base ho0) hb); have n5_ := Aside0.mk (Kd.R_lower (Kd.R_new' (Kd.R_new' (Kd.R_new' (Kd.R_new' (Kd.R_new' ho0 (Kd.R_lt (by (with_reducible repeat (first | apply Kd.R_alloc | apply Kd.R_drewN | apply Kd.R_drew)); exact (Kd.R_mono (Kd.R_far (p := ⟨gb693, 2, none⟩) (Kd.R_far (p := ⟨gb693, 1, none⟩) (Kd.R_far (p := ⟨gb693, 0, none⟩) (Kd.R_types HO677.out BK693.out (by decide)) (fun _ hk => hk.2) (.int .i64 t688)) (fun _ hk => hk.2) (.int .i64 t689)) (fun _ hk => hk.2) (.slice Ao38 t690.length co38)) (fun _ h_ => h_.1))))) (Kd.R_lt (by (with_reducible repeat (first | apply Kd.R_alloc | apply Kd.R_drewN | apply Kd.R_drew)); exact (Kd.R_mono (Kd.R_far (p := ⟨gb693, 2, none⟩) (Kd.R_far (p := ⟨gb693, 1, none⟩) (Kd.R_far (p := ⟨gb693, 0, none⟩) (Kd.R_types HO680.out BK693.out (by decide)) (fun _ hk => hk.2) (.int .i64 t688)) (fun _ hk => hk.2) (.int .i64 t689)) (fun _ hk => hk.2) (.slice Ao38 t690.length co38)) (fun _ h_ => h_.1))))) (Kd.R_lt (by (with_reducible repeat (first | apply Kd.R_alloc | apply Kd.R_drewN | apply Kd.R_drew)); exact (Kd.R_mono (Kd.R_far (p := ⟨gb693, 2, none⟩) (Kd.R_far (p := ⟨gb693, 1, none⟩) (Kd.R_far (p := ⟨gb693, 0, none⟩) (Kd.R_types HO683.out BK693.out (by decide)) (fun _ hk => hk.2) (.int .i64 t688)) (fun _ hk => hk.2) (.int .i64 t689)) (fun _ hk => hk.2) (.slice Ao38 t690.length co38)) (fun _ h_ => h_.1))))) (Kd.R_lt (by (with_reducible repeat (first | apply Kd.R_alloc | apply Kd.R_drewN | apply Kd.R_drew)); exact (Kd.R_mono (Kd.R_far (p := ⟨gb693, 2, none⟩) (Kd.R_far (p := ⟨gb693, 1, none⟩) (Kd.R_far (p := ⟨gb693, 0, none⟩) (Kd.R_types HO686.out BK693.out (by decide)) (fun _ hk => hk.2) (.int .i64 t688)) (fun _ hk => hk.2) (.int .i64 t689)) (fun _ hk => hk.2) (.slice Ao38 t690.length co38)) (fun _ h_ => h_.1))))) (Kd.R_lt (by (with_reducible repeat (first | apply Kd.R_alloc | apply Kd.R_drewN | apply Kd.R_drew)); exact (Kd.R_mono (Kd.R_far (p := ⟨gb693, 2, none⟩) (Kd.R_far (p := ⟨gb693, 1, none⟩) (Kd.R_far (p := ⟨gb693, 0, none⟩) (Kd.R_types HO692.out BK693.out (by decide)) (fun _ hk => hk.2) (.int .i64 t688)) (fun _ hk => hk.2) (.int .i64 t689)) (fun _ hk => hk.2) (.slice Ao38 t690.length co38)) (fun _ h_ => h_.1))))) (below_size (by repeat (first | (with_reducible first | exact HB.out | apply below_alloc | apply pw_below_drewN | apply below_drew1 | refine below_set ?_ GE671.out | refine below_set ?_ GE693.out) | exact HB.out)))); have n6_ := Aside0.mk (blk_below (g := gb671) (o := .cells #[.int .i64 a0_0, .int .i64 a0_1, .slice A0_2 l0_2.length c0_2] 24 (0, 0)) (by (with_reducible repeat (first | refine blk_drewN ?_ _ | refine blk_drew ?_ | refine blk_alloc ?_ _)); refine blk_far ?_ NB671_693.out _; (with_reducible repeat (first | refine blk_drewN ?_ _ | refine blk_drew ?_ | refine blk_alloc ?_ _)); refine blk_far ?_ NB671_693.out _; (with_reducible repeat (first | refine blk_drewN ?_ _ | refine blk_drew ?_ | refine blk_alloc ?_ _)); refine blk_far ?_ NB671_693.out _; (with_reducible repeat (first | refine blk_drewN ?_ _ | refine blk_drew ?_ | refine blk_alloc ?_ _)); exact BK671.out) hb); have n7_ := Aside0.mk (blk_below (g := gb693) (o := .cells #[.int .i64 t688, .int .i64 t689, .slice Ao38 t690.length co38] 28 (0, 0)) (by (with_reducible repeat (first | refine blk_drewN ?_ _ | refine blk_drew ?_ | refine blk_alloc ?_ _)); refine blk_put (cs := #[.int .i64 t688, .int .i64 t689, .slice none 0 0]) ?_ 2 _ rfl; (with_reducible repeat (first | refine blk_drewN ?_ _ | refine blk_drew ?_ | refine blk_alloc ?_ _)); refine blk_put (cs := #[.int .i64 t688, .int .i64 0, .slice none 0 0]) ?_ 1 _ rfl; (with_reducible repeat (first | refine blk_drewN ?_ _ | refine blk_drew ?_ | refine blk_alloc ?_ _)); refine blk_put (cs := #[.int .i64 0, .int .i64 0, .slice none 0 0]) ?_ 0 _ rfl; (with_reducible repeat (first | refine blk_drewN ?_ _ | refine blk_drew ?_ | refine blk_alloc ?_ _)); exact BK693.out) hb); have n8_ := Aside0.mk (below_step (by repeat (first | (with_reducible first | exact HB.out | apply below_alloc | apply pw_below_drewN | apply below_drew1 | refine below_set ?_ GE671.out | refine below_set ?_ GE693.out) | exact HB.out)) hb); clear HO677; clear HO680; clear HO683; clear HO686; clear HO692; clear BK671; clear BK693; clear HB; have HO677 := n0_; have HO680 := n1_; have HO683 := n2_; have HO686 := n3_; have HO692 := n4_; have HO696 := n5_; have BK671 := n6_; have BK693 := n7_; have HB := n8_; clear n0_ n1_ n2_ n3_ n4_ n5_ n6_ n7_ n8_; (try clear hb); (try clear hb2); (try clear hk); (try clear hi); (try clear ho0)) | ((with_reducible refine gate_callee (f := 25) rfl ?_); refine goesA_ (some 46) rfl rfl Try.func25 (by kernel_rfl) rfl #[.slice A2 l2.length c2] rfl ?_; (with_reducible refine (laws_toInt64S.calls k _ _ l2 t697 _ ?side1 ?side2 A19.out).mono ?_); (case side1 => repeat (first | exact (Kd.C_below HR2.out HB.out) | (with_reducible refine Kd.C_alloc ?_ _) | (with_reducible refine Kd.C_drewN ?_ _) | (with_reducible refine Kd.C_drew ?_))); (case side2 => exact HC2.out); rintro e w40 ⟨v698, rfl, ho0, hb⟩; refine ⟨_, rfl, ?_⟩; have n0_ := Aside0.mk (Kd.R_elder' (by (with_reducible repeat (first | apply Kd.R_alloc | apply Kd.R_drewN | apply Kd.R_drew)); exact HO677.out) (Kd.R_base ho0) hb); have n1_ := Aside0.mk (Kd.R_elder' (by (with_reducible repeat (first | apply Kd.R_alloc | apply Kd.R_drewN | apply Kd.R_drew)); exact HO680.out) (Kd.R_base ho0) hb); have n2_ := Aside0.mk (Kd.R_elder' (by (with_reducible repeat (first | apply Kd.R_alloc | apply Kd.R_drewN | apply Kd.R_drew)); exact HO683.out) (Kd.R_base ho0) hb); have n3_ := Aside0.mk (Kd.R_elder' (by (with_reducible repeat (first | apply Kd.R_alloc | apply Kd.R_drewN | apply Kd.R_drew)); exact HO686.out) (Kd.R_base ho0) hb); have n4_ := Aside0.mk (Kd.R_elder' (by (with_reducible repeat (first | apply Kd.R_alloc | apply Kd.R_drewN | apply Kd.R_drew)); exact HO692.out) (Kd.R_base ho0) hb); have n5_ := Aside0.mk (Kd.R_elder' (by (with_reducible repeat (first | apply Kd.R_alloc | apply Kd.R_drewN | apply Kd.R_drew)); exact HO696.out) (Kd.R_base ho0) hb); have n6_ := Aside0.mk (Kd.R_lower (Kd.R_new' (Kd.R_new' (Kd.R_new' (Kd.R_new' (Kd.R_new' (Kd.R_new' ho0 (Kd.R_lt (by (with_reducible repeat (first | apply Kd.R_alloc | apply Kd.R_drewN | apply Kd.R_drew)); exact HO677.out))) (Kd.R_lt (by (with_reducible repeat (first | apply Kd.R_alloc | apply Kd.R_drewN | apply Kd.R_drew)); exact HO680.out))) (Kd.R_lt (by (with_reducible repeat (first | apply Kd.R_alloc | apply Kd.R_drewN | apply Kd.R_drew)); exact HO683.out))) (Kd.R_lt (by (with_reducible repeat (first | apply Kd.R_alloc | apply Kd.R_drewN | apply Kd.R_drew)); exact HO686.out))) (Kd.R_lt (by (with_reducible repeat (first | apply Kd.R_alloc | apply Kd.R_drewN | apply Kd.R_drew)); exact HO692.out))) (Kd.R_lt (by (with_reducible repeat (first | apply Kd.R_alloc | apply Kd.R_drewN | apply Kd.R_drew)); exact HO696.out))) (below_size (by repeat (first | (with_reducible first | exact HB.out | apply below_alloc | apply pw_below_drewN | apply below_drew1 | refine below_set ?_ GE671.out | refine below_set ?_ GE693.out) | exact HB.out)))); have n7_ := Aside0.mk (blk_below (g := gb671) (o := .cells #[.int .i64 a0_0, .int .i64 a0_1, .slice A0_2 l0_2.length c0_2] 24 (0, 0)) (by (with_reducible repeat (first | refine blk_drewN ?_ _ | refine blk_drew ?_ | refine blk_alloc ?_ _)); exact BK671.out) hb); have n8_ := Aside0.mk (blk_below (g := gb693) (o := .cells #[.int .i64 t688, .int .i64 t689, .slice Ao38 t690.length co38] 28 (0, 0)) (by (with_reducible repeat (first | refine blk_drewN ?_ _ | refine blk_drew ?_ | refine blk_alloc ?_ _)); exact BK693.out) hb); have n9_ := Aside0.mk (below_step (by repeat (first | (with_reducible first | exact HB.out | apply below_alloc | apply pw_below_drewN | apply below_drew1 | refine below_set ?_ GE671.out | refine below_set ?_ GE693.out) | exact HB.out)) hb); clear HO677; clear HO680; clear HO683; clear HO686; clear HO692; clear HO696; clear BK671; clear BK693; clear HB; have HO677 := n0_; have HO680 := n1_; have HO683 := n2_; have HO686 := n3_; have HO692 := n4_; have HO696 := n5_; have HO699 := n6_; have BK671 := n7_; have BK693 := n8_; have HB := n9_; clear n0_ n1_ n2_ n3_ n4_ n5_ n6_ n7_ n8_ n9_; (try clear hb); (try clear hb2); (try clear hk); (try clear hi); (try clear ho0); have hcz41_0 : w40.cell? ⟨gb693, 0, none⟩ = some (.int .i64 t688) := (blk_cell BK693.out 0).trans rfl; have hcz41_1 : w40.cell? ⟨gb693, 1, none⟩ = some (.int .i64 t689) := (blk_cell BK693.out 1).trans rfl; have hcz41_2 : w40.cell? ⟨gb693, 2, none⟩ = some (.slice Ao38 t690.length co38) := (blk_cell BK693.out 2).trans rfl; have hfz41_0 := blk_frozen BK693.out 0; have hfz41_1 := blk_frozen BK693.out 1; have hfz41_2 := blk_frozen BK693.out 2; obtain ⟨Ao42, co42, eo42⟩ := Kd.R_slice HO696.out; subst eo42; obtain ⟨Ao43, co43, eo43⟩ := Kd.R_slice HO699.out; subst eo43) | ((with_reducible refine gate_callee (f := 37) rfl ?_); refine goesA_ (some 51) rfl rfl Try.func37 (by kernel_rfl) rfl #[.agg #[.int .i64 t688, .int .i64 t689, .slice Ao38 t690.length co38], .slice Ao42 t694.length co42, .slice Ao43 t697.length co43] rfl ?_; (with_reducible refine (impl_AnswersOf.calls k t688 t689 _ _ t690 _ _ t694 _ _ t697 t700 t703 _ ?side1 ?side2 ?side3 ?side4 ?side5 ?side6 A20.out).mono ?_); (case side1 => repeat (first | exact (Kd.R_reads' HO692.out).2.2 | (with_reducible refine Kd.C_alloc ?_ _) | (with_reducible refine Kd.C_drewN ?_ _) | (with_reducible refine Kd.C_drew ?_))); (case side2 => exact (Kd.R_reads' HO692.out).2.1); (case side3 => repeat (first | exact (Kd.R_reads' HO696.out).2.2 | (with_reducible refine Kd.C_alloc ?_ _) | (with_reducible refine Kd.C_drewN ?_ _) | (with_reducible refine Kd.C_drew ?_))); (case side4 => exact (Kd.R_reads' HO696.out).2.1); (case side5 => repeat (first | exact (Kd.R_reads' HO699.out).2.2 | (with_reducible refine Kd.C_alloc ?_ _) | (with_reducible refine Kd.C_drewN ?_ _) | (with_reducible refine Kd.C_drew ?_))); (case side6 => exact (Kd.R_reads' HO699.out).2.1); rintro e w44 ⟨v701, rfl, ho0, hb⟩; refine ⟨_, rfl, ?_⟩; have n0_ := Aside0.mk (Kd.R_elder' (by (with_reducible repeat (first | apply Kd.R_alloc | apply Kd.R_drewN | apply Kd.R_drew)); exact HO677.out) (Kd.R_base ho0) hb); have n1_ := Aside0.mk (Kd.R_elder' (by (with_reducible repeat (first | apply Kd.R_alloc | apply Kd.R_drewN | apply Kd.R_drew)); exact HO680.out) (Kd.R_base ho0) hb); have n2_ := Aside0.mk (Kd.R_elder' (by (with_reducible repeat (first | apply Kd.R_alloc | apply Kd.R_drewN | apply Kd.R_drew)); exact HO683.out) (Kd.R_base ho0) hb); have n3_ := Aside0.mk (Kd.R_elder' (by (with_reducible repeat (first | apply Kd.R_alloc | apply Kd.R_drewN | apply Kd.R_drew)); exact HO686.out) (Kd.R_base ho0) hb); have n4_ := Aside0.mk (Kd.R_elder' (by (with_reducible repeat (first | apply Kd.R_alloc | apply Kd.R_drewN | apply Kd.R_drew)); exact HO692.out) (Kd.R_base ho0) hb); have n5_ := Aside0.mk (Kd.R_elder' (by (with_reducible repeat (first | apply Kd.R_alloc | apply Kd.R_drewN | apply Kd.R_drew)); exact HO696.out) (Kd.R_base ho0) hb); have n6_ := Aside0.mk (Kd.R_elder' (by (with_reducible repeat (first | apply Kd.R_alloc | apply Kd.R_drewN | apply Kd.R_drew)); exact HO699.out) (Kd.R_base ho0) hb); have n7_ := Aside0.mk (Kd.R_lower (Kd.R_new' (Kd.R_new' (Kd.R_new' (Kd.R_new' (Kd.R_new' (Kd.R_new' (Kd.R_new' ho0 (Kd.R_lt (by (with_reducible repeat (first | apply Kd.R_alloc | apply Kd.R_drewN | apply Kd.R_drew)); exact HO677.out))) (Kd.R_lt (by (with_reducible repeat (first | apply Kd.R_alloc | apply Kd.R_drewN | apply Kd.R_drew)); exact HO680.out))) (Kd.R_lt (by (with_reducible repeat (first | apply Kd.R_alloc | apply Kd.R_drewN | apply Kd.R_drew)); exact HO683.out))) (Kd.R_lt (by (with_reducible repeat (first | apply Kd.R_alloc | apply Kd.R_drewN | apply Kd.R_drew)); exact HO686.out))) (Kd.R_lt (by (with_reducible repeat (first | apply Kd.R_alloc | apply Kd.R_drewN | apply Kd.R_drew)); exact HO692.out))) (Kd.R_lt (by (with_reducible repeat (first | apply Kd.R_alloc | apply Kd.R_drewN | apply Kd.R_drew)); exact HO696.out))) (Kd.R_lt (by (with_reducible repeat (first | apply Kd.R_alloc | apply Kd.R_drewN | apply Kd.R_drew)); exact HO699.out))) (below_size (by repeat (first | (with_reducible first | exact HB.out | apply below_alloc | apply pw_below_drewN | apply below_drew1 | refine below_set ?_ GE671.out | refine below_set ?_ GE693.out) | exact HB.out)))); have n8_ := Aside0.mk (blk_below (g := gb671) (o := .cells #[.int .i64 a0_0, .int .i64 a0_1, .slice A0_2 l0_2.length c0_2] 24 (0, 0)) (by (with_reducible repeat (first | refine blk_drewN ?_ _ | refine blk_drew ?_ | refine blk_alloc ?_ _)); exact BK671.out) hb); have n9_ := Aside0.mk (blk_below (g := gb693) (o := .cells #[.int .i64 t688, .int .i64 t689, .slice Ao38 t690.length co38] 28 (0, 0)) (by (with_reducible repeat (first | refine blk_drewN ?_ _ | refine blk_drew ?_ | refine blk_alloc ?_ _)); exact BK693.out) hb); have n10_ := Aside0.mk (below_step (by repeat (first | (with_reducible first | exact HB.out | apply below_alloc | apply pw_below_drewN | apply below_drew1 | refine below_set ?_ GE671.out | refine below_set ?_ GE693.out) | exact HB.out)) hb); clear HO677; clear HO680; clear HO683; clear HO686; clear HO692; clear HO696; clear HO699; clear BK671; clear BK693; clear HB; have HO677 := n0_; have HO680 := n1_; have HO683 := n2_; have HO686 := n3_; have HO692 := n4_; have HO696 := n5_; have HO699 := n6_; have HO702 := n7_; have BK671 := n8_; have BK693 := n9_; have HB := n10_; clear n0_ n1_ n2_ n3_ n4_ n5_ n6_ n7_ n8_ n9_ n10_; (try clear hb); (try clear hb2); (try clear hk); (try clear hi); (try clear ho0)))
    (try simp only [Act.put, List.setIfInBounds_toArray, List.set_cons_zero, List.set_cons_succ])
    go_cut [62] (fun v62 wc => ∃ (kq : Nat) (x62_20 : Bool), v62 = .bool x62_20 ∧ Aside0 (laws_FnExactAnswersOf.j0 kq l1 l2 t684 t687 t694 t697 t700 t703 x62_20 a0_0 a0_1 l0_2 t688 t689 t690 = some true) ∧ Aside0 (kq ≤ k) ∧ Aside0 (Kd.R (Kd.int .i64) 2 wc w.heap.size (fun k_ => some k_ ≠ ((.slice Ao42 t694.length co42) : Value).ownBlock ∧ some k_ ≠ ((.slice Ao43 t697.length co43) : Value).ownBlock ∧ some k_ ≠ (v701 : Value).ownBlock ∧ some k_ ≠ ((.slice Ao38 t690.length co38) : Value).ownBlock) v685 t684) ∧ Aside0 (Kd.R (Kd.int .i64) 2 wc w.heap.size (fun k_ => some k_ ≠ (v685 : Value).ownBlock ∧ some k_ ≠ ((.slice Ao43 t697.length co43) : Value).ownBlock ∧ some k_ ≠ (v701 : Value).ownBlock ∧ some k_ ≠ ((.slice Ao38 t690.length co38) : Value).ownBlock) (.slice Ao42 t694.length co42) t694) ∧ Aside0 (Kd.R (Kd.int .i64) 2 wc w.heap.size (fun k_ => some k_ ≠ (v685 : Value).ownBlock ∧ some k_ ≠ ((.slice Ao42 t694.length co42) : Value).ownBlock ∧ some k_ ≠ (v701 : Value).ownBlock ∧ some k_ ≠ ((.slice Ao38 t690.length co38) : Value).ownBlock) (.slice Ao43 t697.length co43) t697) ∧ Aside0 (Kd.R (Kd.int .i64) 2 wc w.heap.size (fun k_ => some k_ ≠ (v685 : Value).ownBlock ∧ some k_ ≠ ((.slice Ao42 t694.length co42) : Value).ownBlock ∧ some k_ ≠ ((.slice Ao43 t697.length co43) : Value).ownBlock ∧ some k_ ≠ ((.slice Ao38 t690.length co38) : Value).ownBlock) v701 t700) ∧ Aside0 (Kd.R (Kd.int .i64) 2 wc w.heap.size (fun k_ => some k_ ≠ (v685 : Value).ownBlock ∧ some k_ ≠ ((.slice Ao42 t694.length co42) : Value).ownBlock ∧ some k_ ≠ ((.slice Ao43 t697.length co43) : Value).ownBlock ∧ some k_ ≠ (v701 : Value).ownBlock) (.slice Ao38 t690.length co38) t690) ∧ Aside0 (wc.heap[gb671]? = some (.cells #[.int .i64 a0_0, .int .i64 a0_1, (.slice A0_2 l0_2.length c0_2)] 24 (0, 0))) ∧ Aside0 (wc.heap[gb693]? = some (.cells #[.int .i64 t688, .int .i64 t689, (.slice Ao38 t690.length co38)] 28 (0, 0))) ∧ Aside0 (Below w.heap.size w wc))
    case first =>
     have H := HC21.out
     clear HC21
     replace H := Option.bind_eq_some_iff.mp H
     obtain ⟨t704, A450, H⟩ := H
     replace H : (if t704 = true then (laws_FnExactAnswersOf.j0 k l1 l2 t684 t687 t694 t697 t700 t703 (t703 != t687) a0_0 a0_1 l0_2 t688 t689 t690) else (laws_FnExactAnswersOf.j0 k l1 l2 t684 t687 t694 t697 t700 t703 true a0_0 a0_1 l0_2 t688 t689 t690)) = some true := H
     have A45 := Aside0.mk A450
     clear A450
     by_cases c46 : t704 = true
     ·subst c46
      have H1 : (laws_FnExactAnswersOf.j0 k l1 l2 t684 t687 t694 t697 t700 t703 (t703 != t687) a0_0 a0_1 l0_2 t688 t689 t690) = some true := by rw [if_pos rfl] at H; exact H
      clear H
      have H := H1
      clear H1
      have H' := Aside0.mk H
      clear H
      obtain ⟨Ao47, co47, eo47⟩ := Kd.R_slice HO702.out
      subst eo47
      obtain ⟨Ao48, co48, eo48⟩ := Kd.R_slice HO686.out
      subst eo48
      go_wp2_with (first | ((with_reducible refine gate_callee (f := 19) rfl ?_); refine goesA_ (some 56) rfl rfl Try.func19 (by kernel_rfl) rfl #[.slice Ao47 t700.length co47, .slice Ao48 t684.length co48] rfl ?_; (with_reducible refine (laws_eqInt64S.calls k _ _ t700 _ _ t684 true _ ?side1 ?side2 ?side3 ?side4 A45.out).mono ?_); (case side1 => repeat (first | exact (Kd.R_reads' HO702.out).2.2 | (with_reducible refine Kd.C_alloc ?_ _) | (with_reducible refine Kd.C_drewN ?_ _) | (with_reducible refine Kd.C_drew ?_))); (case side2 => exact (Kd.R_reads' HO702.out).2.1); (case side3 => repeat (first | exact (Kd.R_reads' HO686.out).2.2 | (with_reducible refine Kd.C_alloc ?_ _) | (with_reducible refine Kd.C_drewN ?_ _) | (with_reducible refine Kd.C_drew ?_))); (case side4 => exact (Kd.R_reads' HO686.out).2.1); rintro e w' ⟨rfl, ⟨nd, rfl⟩⟩; refine ⟨_, rfl, ?_⟩))
      go_meet
      case rel => exact ⟨_, ((t703 != t687)), (by first | rfl | (simp; done) | (simp [*]; done)), H', ⟨by first | omega | exact Nat.le_refl _⟩, ⟨by (with_reducible repeat (first | apply Kd.R_alloc | apply Kd.R_drewN | apply Kd.R_drew)); exact Kd.R_mono HO686.out (fun _ hk => ⟨hk.1.1.2, ⟨hk.1.2, ⟨hk.2, hk.1.1.1.2⟩⟩⟩)⟩, ⟨by (with_reducible repeat (first | apply Kd.R_alloc | apply Kd.R_drewN | apply Kd.R_drew)); exact Kd.R_mono HO696.out (fun _ hk => ⟨hk.1.1.1.2, ⟨hk.1.2, ⟨hk.2, hk.1.1.2⟩⟩⟩)⟩, ⟨by (with_reducible repeat (first | apply Kd.R_alloc | apply Kd.R_drewN | apply Kd.R_drew)); exact Kd.R_mono HO699.out (fun _ hk => ⟨hk.1.1.1.2, ⟨hk.1.2, ⟨hk.2, hk.1.1.2⟩⟩⟩)⟩, ⟨by (with_reducible repeat (first | apply Kd.R_alloc | apply Kd.R_drewN | apply Kd.R_drew)); exact Kd.R_mono HO702.out (fun _ hk => ⟨hk.1.1.1.2, ⟨hk.1.2, ⟨hk.2, hk.1.1.2⟩⟩⟩)⟩, ⟨by (with_reducible repeat (first | apply Kd.R_alloc | apply Kd.R_drewN | apply Kd.R_drew)); exact Kd.R_mono HO692.out (fun _ hk => ⟨hk.1.1.1.2, ⟨hk.1.1.2, ⟨hk.1.2, hk.2⟩⟩⟩)⟩, ⟨by (with_reducible repeat (first | refine blk_drewN ?_ _ | refine blk_drew ?_ | refine blk_alloc ?_ _)); exact BK671.out⟩, ⟨by (with_reducible repeat (first | refine blk_drewN ?_ _ | refine blk_drew ?_ | refine blk_alloc ?_ _)); exact BK693.out⟩, ⟨by repeat (first | (with_reducible first | exact HB.out | apply below_alloc | apply pw_below_drewN | apply below_drew1 | refine below_set ?_ GE671.out | refine below_set ?_ GE693.out) | exact HB.out)⟩⟩
     ·replace c46 := Bool.eq_false_iff.mpr c46
      subst c46
      have H1 : (laws_FnExactAnswersOf.j0 k l1 l2 t684 t687 t694 t697 t700 t703 true a0_0 a0_1 l0_2 t688 t689 t690) = some true := by rw [if_neg (show ¬ (false = true) by decide)] at H; exact H
      clear H
      have H := H1
      clear H1
      have H' := Aside0.mk H
      clear H
      obtain ⟨Ao49, co49, eo49⟩ := Kd.R_slice HO702.out
      subst eo49
      obtain ⟨Ao50, co50, eo50⟩ := Kd.R_slice HO686.out
      subst eo50
      go_wp2_with (first | ((with_reducible refine gate_callee (f := 19) rfl ?_); refine goesA_ (some 56) rfl rfl Try.func19 (by kernel_rfl) rfl #[.slice Ao49 t700.length co49, .slice Ao50 t684.length co50] rfl ?_; (with_reducible refine (laws_eqInt64S.calls k _ _ t700 _ _ t684 false _ ?side1 ?side2 ?side3 ?side4 A45.out).mono ?_); (case side1 => repeat (first | exact (Kd.R_reads' HO702.out).2.2 | (with_reducible refine Kd.C_alloc ?_ _) | (with_reducible refine Kd.C_drewN ?_ _) | (with_reducible refine Kd.C_drew ?_))); (case side2 => exact (Kd.R_reads' HO702.out).2.1); (case side3 => repeat (first | exact (Kd.R_reads' HO686.out).2.2 | (with_reducible refine Kd.C_alloc ?_ _) | (with_reducible refine Kd.C_drewN ?_ _) | (with_reducible refine Kd.C_drew ?_))); (case side4 => exact (Kd.R_reads' HO686.out).2.1); rintro e w' ⟨rfl, ⟨nd, rfl⟩⟩; refine ⟨_, rfl, ?_⟩))
      go_meet
      case rel => exact ⟨_, (true), (by first | rfl | (simp; done) | (simp [*]; done)), H', ⟨by first | omega | exact Nat.le_refl _⟩, ⟨by (with_reducible repeat (first | apply Kd.R_alloc | apply Kd.R_drewN | apply Kd.R_drew)); exact Kd.R_mono HO686.out (fun _ hk => ⟨hk.1.1.2, ⟨hk.1.2, ⟨hk.2, hk.1.1.1.2⟩⟩⟩)⟩, ⟨by (with_reducible repeat (first | apply Kd.R_alloc | apply Kd.R_drewN | apply Kd.R_drew)); exact Kd.R_mono HO696.out (fun _ hk => ⟨hk.1.1.1.2, ⟨hk.1.2, ⟨hk.2, hk.1.1.2⟩⟩⟩)⟩, ⟨by (with_reducible repeat (first | apply Kd.R_alloc | apply Kd.R_drewN | apply Kd.R_drew)); exact Kd.R_mono HO699.out (fun _ hk => ⟨hk.1.1.1.2, ⟨hk.1.2, ⟨hk.2, hk.1.1.2⟩⟩⟩)⟩, ⟨by (with_reducible repeat (first | apply Kd.R_alloc | apply Kd.R_drewN | apply Kd.R_drew)); exact Kd.R_mono HO702.out (fun _ hk => ⟨hk.1.1.1.2, ⟨hk.1.2, ⟨hk.2, hk.1.1.2⟩⟩⟩)⟩, ⟨by (with_reducible repeat (first | apply Kd.R_alloc | apply Kd.R_drewN | apply Kd.R_drew)); exact Kd.R_mono HO692.out (fun _ hk => ⟨hk.1.1.1.2, ⟨hk.1.1.2, ⟨hk.1.2, hk.2⟩⟩⟩)⟩, ⟨by (with_reducible repeat (first | refine blk_drewN ?_ _ | refine blk_drew ?_ | refine blk_alloc ?_ _)); exact BK671.out⟩, ⟨by (with_reducible repeat (first | refine blk_drewN ?_ _ | refine blk_drew ?_ | refine blk_alloc ?_ _)); exact BK693.out⟩, ⟨by repeat (first | (with_reducible first | exact HB.out | apply below_alloc | apply pw_below_drewN | apply below_drew1 | refine below_set ?_ GE671.out | refine below_set ?_ GE693.out) | exact HB.out)⟩⟩
    case rest =>
     clear HC21
     (try clear c1); (try clear c2); (try clear p2); (try clear c3); (try clear c4); (try clear c4b0); (try clear c4b1); (try clear c6); (try clear c6b0); (try clear c6b1); (try clear c8); (try clear c9); (try clear c9b0); (try clear c15); (try clear c17); (try clear c19); (try clear c25); (try clear c36); (try clear c37); (try clear c46); (try clear hcz11_0); (try clear hcz11_1); (try clear hcz11_2); (try clear hcz23_0); (try clear hcz23_1); (try clear hcz23_2); (try clear hcz25_0); (try clear hcz25_1); (try clear hcz25_2); (try clear hcz33_0); (try clear hcz33_1); (try clear hcz33_2); (try clear hcz37_0); (try clear hcz37_1); (try clear hcz37_2); (try clear hcz41_0); (try clear hcz41_1); (try clear hcz41_2); (try clear hfz11_0); (try clear hfz11_1); (try clear hfz11_2); (try clear hfz23_0); (try clear hfz23_1); (try clear hfz23_2); (try clear hfz25_0); (try clear hfz25_1); (try clear hfz25_2); (try clear hfz33_0); (try clear hfz33_1); (try clear hfz33_2); (try clear hfz37_0); (try clear hfz37_1); (try clear hfz37_2); (try clear hfz41_0); (try clear hfz41_1); (try clear hfz41_2)
     obtain ⟨kq, x62_20, rfl, HA, HJ20, HO_8, HO_11, HO_12, HO_13, HO_694002, BK671, BK693, HB⟩ := hcut
     cases kq with
     | zero => exact absurd HA.out (by simp [laws_FnExactAnswersOf.j0])
     | succ kj20 =>
      have H := HA.out
      clear HA
      simp only [laws_FnExactAnswersOf.j0] at H
      by_cases c51 : x62_20 = true
      ·subst c51
       have H1 : (some false) = some true := by rw [if_pos rfl] at H; exact H
       clear H
       have H := H1
       clear H1
       exact absurd H (by simp)
      ·replace c51 := Bool.eq_false_iff.mpr c51
       subst c51
       have H1 : ((laws_toSea.f kj20 a0_0 a0_1 l0_2).bind fun bt705 => ((laws_eqSea.f kj20 t688 t689 t690 bt705.1 bt705.2.1 bt705.2.2).bind fun t710 => (if t710 = true then ((laws_toInt64S.f kj20 l1).bind fun t711 => ((laws_eqInt64S.f kj20 t694 t711).bind fun t714 => (if t714 = true then ((laws_toInt64S.f kj20 l2).bind fun t715 => ((laws_eqInt64S.f kj20 t697 t715).bind fun t718 => (if t718 = true then ((laws_markSea.f kj20 t688 t689 t690 1).bind fun bt719 => ((laws_markInt64S.f kj20 t694 bt719.1).bind fun bt721 => ((laws_markInt64S.f kj20 t697 bt721.1).bind fun bt723 => (if bt723.1 < 0 then (laws_FnExactAnswersOf.j1 kj20 l1 l2 t684 t687 t700 true a0_0 a0_1 l0_2) else ((laws_eqInt64S.f kj20 t700 t684).bind fun t725 => (if t725 = true then (laws_FnExactAnswersOf.j1 kj20 l1 l2 t684 t687 t700 (t703 != t687) a0_0 a0_1 l0_2) else (laws_FnExactAnswersOf.j1 kj20 l1 l2 t684 t687 t700 true a0_0 a0_1 l0_2))))))) else (some false)))) else (some false)))) else (some false)))) = some true := by rw [if_neg (show ¬ (false = true) by decide)] at H; exact H
       clear H
       have H := H1
       clear H1
       replace H := Option.bind_eq_some_iff.mp H
       obtain ⟨⟨t705, t706, t707⟩, A520, H⟩ := H
       replace H : ((laws_eqSea.f kj20 t688 t689 t690 t705 t706 t707).bind fun t710 => (if t710 = true then ((laws_toInt64S.f kj20 l1).bind fun t711 => ((laws_eqInt64S.f kj20 t694 t711).bind fun t714 => (if t714 = true then ((laws_toInt64S.f kj20 l2).bind fun t715 => ((laws_eqInt64S.f kj20 t697 t715).bind fun t718 => (if t718 = true then ((laws_markSea.f kj20 t688 t689 t690 1).bind fun bt719 => ((laws_markInt64S.f kj20 t694 bt719.1).bind fun bt721 => ((laws_markInt64S.f kj20 t697 bt721.1).bind fun bt723 => (if bt723.1 < 0 then (laws_FnExactAnswersOf.j1 kj20 l1 l2 t684 t687 t700 true a0_0 a0_1 l0_2) else ((laws_eqInt64S.f kj20 t700 t684).bind fun t725 => (if t725 = true then (laws_FnExactAnswersOf.j1 kj20 l1 l2 t684 t687 t700 (t703 != t687) a0_0 a0_1 l0_2) else (laws_FnExactAnswersOf.j1 kj20 l1 l2 t684 t687 t700 true a0_0 a0_1 l0_2))))))) else (some false)))) else (some false)))) else (some false))) = some true := H
       have A52 := Aside0.mk A520
       clear A520
       replace H := Option.bind_eq_some_iff.mp H
       obtain ⟨t710, A530, H⟩ := H
       replace H : (if t710 = true then ((laws_toInt64S.f kj20 l1).bind fun t711 => ((laws_eqInt64S.f kj20 t694 t711).bind fun t714 => (if t714 = true then ((laws_toInt64S.f kj20 l2).bind fun t715 => ((laws_eqInt64S.f kj20 t697 t715).bind fun t718 => (if t718 = true then ((laws_markSea.f kj20 t688 t689 t690 1).bind fun bt719 => ((laws_markInt64S.f kj20 t694 bt719.1).bind fun bt721 => ((laws_markInt64S.f kj20 t697 bt721.1).bind fun bt723 => (if bt723.1 < 0 then (laws_FnExactAnswersOf.j1 kj20 l1 l2 t684 t687 t700 true a0_0 a0_1 l0_2) else ((laws_eqInt64S.f kj20 t700 t684).bind fun t725 => (if t725 = true then (laws_FnExactAnswersOf.j1 kj20 l1 l2 t684 t687 t700 (t703 != t687) a0_0 a0_1 l0_2) else (laws_FnExactAnswersOf.j1 kj20 l1 l2 t684 t687 t700 true a0_0 a0_1 l0_2))))))) else (some false)))) else (some false)))) else (some false)) = some true := H
       have A53 := Aside0.mk A530
       clear A530
       by_cases c54 : t710 = true
       ·subst c54
        have H1 : ((laws_toInt64S.f kj20 l1).bind fun t711 => ((laws_eqInt64S.f kj20 t694 t711).bind fun t714 => (if t714 = true then ((laws_toInt64S.f kj20 l2).bind fun t715 => ((laws_eqInt64S.f kj20 t697 t715).bind fun t718 => (if t718 = true then ((laws_markSea.f kj20 t688 t689 t690 1).bind fun bt719 => ((laws_markInt64S.f kj20 t694 bt719.1).bind fun bt721 => ((laws_markInt64S.f kj20 t697 bt721.1).bind fun bt723 => (if bt723.1 < 0 then (laws_FnExactAnswersOf.j1 kj20 l1 l2 t684 t687 t700 true a0_0 a0_1 l0_2) else ((laws_eqInt64S.f kj20 t700 t684).bind fun t725 => (if t725 = true then (laws_FnExactAnswersOf.j1 kj20 l1 l2 t684 t687 t700 (t703 != t687) a0_0 a0_1 l0_2) else (laws_FnExactAnswersOf.j1 kj20 l1 l2 t684 t687 t700 true a0_0 a0_1 l0_2))))))) else (some false)))) else (some false)))) = some true := by rw [if_pos rfl] at H; exact H
        clear H
        have H := H1
        clear H1
        replace H := Option.bind_eq_some_iff.mp H
        obtain ⟨t711, A550, H⟩ := H
        replace H : ((laws_eqInt64S.f kj20 t694 t711).bind fun t714 => (if t714 = true then ((laws_toInt64S.f kj20 l2).bind fun t715 => ((laws_eqInt64S.f kj20 t697 t715).bind fun t718 => (if t718 = true then ((laws_markSea.f kj20 t688 t689 t690 1).bind fun bt719 => ((laws_markInt64S.f kj20 t694 bt719.1).bind fun bt721 => ((laws_markInt64S.f kj20 t697 bt721.1).bind fun bt723 => (if bt723.1 < 0 then (laws_FnExactAnswersOf.j1 kj20 l1 l2 t684 t687 t700 true a0_0 a0_1 l0_2) else ((laws_eqInt64S.f kj20 t700 t684).bind fun t725 => (if t725 = true then (laws_FnExactAnswersOf.j1 kj20 l1 l2 t684 t687 t700 (t703 != t687) a0_0 a0_1 l0_2) else (laws_FnExactAnswersOf.j1 kj20 l1 l2 t684 t687 t700 true a0_0 a0_1 l0_2))))))) else (some false)))) else (some false))) = some true := H
        have A55 := Aside0.mk A550
        clear A550
        replace H := Option.bind_eq_some_iff.mp H
        obtain ⟨t714, A560, H⟩ := H
        replace H : (if t714 = true then ((laws_toInt64S.f kj20 l2).bind fun t715 => ((laws_eqInt64S.f kj20 t697 t715).bind fun t718 => (if t718 = true then ((laws_markSea.f kj20 t688 t689 t690 1).bind fun bt719 => ((laws_markInt64S.f kj20 t694 bt719.1).bind fun bt721 => ((laws_markInt64S.f kj20 t697 bt721.1).bind fun bt723 => (if bt723.1 < 0 then (laws_FnExactAnswersOf.j1 kj20 l1 l2 t684 t687 t700 true a0_0 a0_1 l0_2) else ((laws_eqInt64S.f kj20 t700 t684).bind fun t725 => (if t725 = true then (laws_FnExactAnswersOf.j1 kj20 l1 l2 t684 t687 t700 (t703 != t687) a0_0 a0_1 l0_2) else (laws_FnExactAnswersOf.j1 kj20 l1 l2 t684 t687 t700 true a0_0 a0_1 l0_2))))))) else (some false)))) else (some false)) = some true := H
        have A56 := Aside0.mk A560
        clear A560
        by_cases c57 : t714 = true
        ·subst c57
         have H1 : ((laws_toInt64S.f kj20 l2).bind fun t715 => ((laws_eqInt64S.f kj20 t697 t715).bind fun t718 => (if t718 = true then ((laws_markSea.f kj20 t688 t689 t690 1).bind fun bt719 => ((laws_markInt64S.f kj20 t694 bt719.1).bind fun bt721 => ((laws_markInt64S.f kj20 t697 bt721.1).bind fun bt723 => (if bt723.1 < 0 then (laws_FnExactAnswersOf.j1 kj20 l1 l2 t684 t687 t700 true a0_0 a0_1 l0_2) else ((laws_eqInt64S.f kj20 t700 t684).bind fun t725 => (if t725 = true then (laws_FnExactAnswersOf.j1 kj20 l1 l2 t684 t687 t700 (t703 != t687) a0_0 a0_1 l0_2) else (laws_FnExactAnswersOf.j1 kj20 l1 l2 t684 t687 t700 true a0_0 a0_1 l0_2))))))) else (some false)))) = some true := by rw [if_pos rfl] at H; exact H
         clear H
         have H := H1
         clear H1
         replace H := Option.bind_eq_some_iff.mp H
         obtain ⟨t715, A580, H⟩ := H
         replace H : ((laws_eqInt64S.f kj20 t697 t715).bind fun t718 => (if t718 = true then ((laws_markSea.f kj20 t688 t689 t690 1).bind fun bt719 => ((laws_markInt64S.f kj20 t694 bt719.1).bind fun bt721 => ((laws_markInt64S.f kj20 t697 bt721.1).bind fun bt723 => (if bt723.1 < 0 then (laws_FnExactAnswersOf.j1 kj20 l1 l2 t684 t687 t700 true a0_0 a0_1 l0_2) else ((laws_eqInt64S.f kj20 t700 t684).bind fun t725 => (if t725 = true then (laws_FnExactAnswersOf.j1 kj20 l1 l2 t684 t687 t700 (t703 != t687) a0_0 a0_1 l0_2) else (laws_FnExactAnswersOf.j1 kj20 l1 l2 t684 t687 t700 true a0_0 a0_1 l0_2))))))) else (some false))) = some true := H
         have A58 := Aside0.mk A580
         clear A580
         replace H := Option.bind_eq_some_iff.mp H
         obtain ⟨t718, A590, H⟩ := H
         replace H : (if t718 = true then ((laws_markSea.f kj20 t688 t689 t690 1).bind fun bt719 => ((laws_markInt64S.f kj20 t694 bt719.1).bind fun bt721 => ((laws_markInt64S.f kj20 t697 bt721.1).bind fun bt723 => (if bt723.1 < 0 then (laws_FnExactAnswersOf.j1 kj20 l1 l2 t684 t687 t700 true a0_0 a0_1 l0_2) else ((laws_eqInt64S.f kj20 t700 t684).bind fun t725 => (if t725 = true then (laws_FnExactAnswersOf.j1 kj20 l1 l2 t684 t687 t700 (t703 != t687) a0_0 a0_1 l0_2) else (laws_FnExactAnswersOf.j1 kj20 l1 l2 t684 t687 t700 true a0_0 a0_1 l0_2))))))) else (some false)) = some true := H
         have A59 := Aside0.mk A590
         clear A590
         by_cases c60 : t718 = true
         ·subst c60
          have H1 : ((laws_markSea.f kj20 t688 t689 t690 1).bind fun bt719 => ((laws_markInt64S.f kj20 t694 bt719.1).bind fun bt721 => ((laws_markInt64S.f kj20 t697 bt721.1).bind fun bt723 => (if bt723.1 < 0 then (laws_FnExactAnswersOf.j1 kj20 l1 l2 t684 t687 t700 true a0_0 a0_1 l0_2) else ((laws_eqInt64S.f kj20 t700 t684).bind fun t725 => (if t725 = true then (laws_FnExactAnswersOf.j1 kj20 l1 l2 t684 t687 t700 (t703 != t687) a0_0 a0_1 l0_2) else (laws_FnExactAnswersOf.j1 kj20 l1 l2 t684 t687 t700 true a0_0 a0_1 l0_2))))))) = some true := by rw [if_pos rfl] at H; exact H
          clear H
          have H := H1
          clear H1
          replace H := Option.bind_eq_some_iff.mp H
          obtain ⟨⟨t719, t720⟩, A610, H⟩ := H
          replace H : ((laws_markInt64S.f kj20 t694 t719).bind fun bt721 => ((laws_markInt64S.f kj20 t697 bt721.1).bind fun bt723 => (if bt723.1 < 0 then (laws_FnExactAnswersOf.j1 kj20 l1 l2 t684 t687 t700 true a0_0 a0_1 l0_2) else ((laws_eqInt64S.f kj20 t700 t684).bind fun t725 => (if t725 = true then (laws_FnExactAnswersOf.j1 kj20 l1 l2 t684 t687 t700 (t703 != t687) a0_0 a0_1 l0_2) else (laws_FnExactAnswersOf.j1 kj20 l1 l2 t684 t687 t700 true a0_0 a0_1 l0_2)))))) = some true := H
          have A61 := Aside0.mk A610
          clear A610
          replace H := Option.bind_eq_some_iff.mp H
          obtain ⟨⟨t721, t722⟩, A620, H⟩ := H
          replace H : ((laws_markInt64S.f kj20 t697 t721).bind fun bt723 => (if bt723.1 < 0 then (laws_FnExactAnswersOf.j1 kj20 l1 l2 t684 t687 t700 true a0_0 a0_1 l0_2) else ((laws_eqInt64S.f kj20 t700 t684).bind fun t725 => (if t725 = true then (laws_FnExactAnswersOf.j1 kj20 l1 l2 t684 t687 t700 (t703 != t687) a0_0 a0_1 l0_2) else (laws_FnExactAnswersOf.j1 kj20 l1 l2 t684 t687 t700 true a0_0 a0_1 l0_2))))) = some true := H
          have A62 := Aside0.mk A620
          clear A620
          replace H := Option.bind_eq_some_iff.mp H
          obtain ⟨⟨t723, t724⟩, A630, H⟩ := H
          replace H : (if t723 < 0 then (laws_FnExactAnswersOf.j1 kj20 l1 l2 t684 t687 t700 true a0_0 a0_1 l0_2) else ((laws_eqInt64S.f kj20 t700 t684).bind fun t725 => (if t725 = true then (laws_FnExactAnswersOf.j1 kj20 l1 l2 t684 t687 t700 (t703 != t687) a0_0 a0_1 l0_2) else (laws_FnExactAnswersOf.j1 kj20 l1 l2 t684 t687 t700 true a0_0 a0_1 l0_2)))) = some true := H
          have A63 := Aside0.mk A630
          clear A630
          have HC64 := Aside0.mk H
          clear H
          try go_wp2
          have n0_ := Aside0.mk (Kd.R_drew HO_8.out)
          have n1_ := Aside0.mk (Kd.R_drew HO_11.out)
          have n2_ := Aside0.mk (Kd.R_drew HO_12.out)
          have n3_ := Aside0.mk (Kd.R_drew HO_13.out)
          have n4_ := Aside0.mk (Kd.R_drew HO_694002.out)
          have n5_ := Aside0.mk (blk_drew BK671.out)
          have n6_ := Aside0.mk (blk_drew BK693.out)
          have n7_ := Aside0.mk (below_drew1 HB.out)
          clear HO_8
          clear HO_11
          clear HO_12
          clear HO_13
          clear HO_694002
          clear BK671
          clear BK693
          clear HB
          have HO_8 := n0_
          have HO_11 := n1_
          have HO_12 := n2_
          have HO_13 := n3_
          have HO_694002 := n4_
          have BK671 := n5_
          have BK693 := n6_
          have HB := n7_
          clear n0_ n1_ n2_ n3_ n4_ n5_ n6_ n7_
          refine start_ (n := 5) (S := fun w' => w'.cell? ⟨gb693, 0, none⟩ = some (.int .i64 t688) ∧ w'.cell? ⟨gb693, 1, none⟩ = some (.int .i64 t689) ∧ w'.cell? ⟨gb693, 2, none⟩ = some (.slice Ao38 t690.length co38) ∧ w'.cell? ⟨gb671, 0, none⟩ = some (.int .i64 a0_0) ∧ w'.cell? ⟨gb671, 1, none⟩ = some (.int .i64 a0_1) ∧ w'.cell? ⟨gb671, 2, none⟩ = some (.slice A0_2 l0_2.length c0_2)) (ds := []) #[false, false, false, false, false] (by kernel_rfl) rfl rfl ⟨(blk_cell BK693.out 0).trans rfl, (blk_cell BK693.out 1).trans rfl, (blk_cell BK693.out 2).trans rfl, (blk_cell BK671.out 0).trans rfl, (blk_cell BK671.out 1).trans rfl, (blk_cell BK671.out 2).trans rfl⟩ (fun hHeld => ?_)
          generalize wc.drew = w65 at HO_8 HO_11 HO_12 HO_13 HO_694002 BK671 BK693 HB hHeld ⊢
          refine take_ (i := 0) (N := some 63) (v := ?_) (a' := ?_) #[true, false, false, false, false] rfl rfl (by kernel_rfl) (fun _ _ _ h => h) (Or.inl ⟨by rfl, ?_⟩) hHeld ?_ ?_
          rotate_left; (· (rintro w' ⟨s0, s1, s2, s3, s4, s5⟩; go_simp; with_reducible rfl)); rotate_left; (· (simp only [Act.put, sz_, s0_, s1_, i64_w, i32_w]; rfl))
          refine take_ (i := 1) (N := some 64) (v := ?_) (a' := ?_) #[true, true, false, false, false] rfl rfl (by kernel_rfl) (fun _ _ _ h => h) (Or.inl ⟨by rfl, ?_⟩) hHeld ?_ ?_
          rotate_left; (· (rintro w' ⟨s0, s1, s2, s3, s4, s5⟩; go_simp; with_reducible rfl)); rotate_left; (· (simp only [Act.put, sz_, s0_, s1_, i64_w, i32_w]; rfl))
          refine one_ (i := 2) (N := some 65) #[true, true, true, false, false] rfl rfl (by kernel_rfl) (by decide) (fun K hK => ?_)
          refine goes_ Try.func17 (by kernel_rfl) rfl #[.agg #[.int .i64 a0_0, .int .i64 a0_1, .slice A0_2 l0_2.length c0_2]] (by rfl) rfl rfl (by (try simp only [List.map_toArray, List.map_cons, List.map_nil]); first | done | rfl | (simp only [List.length_drop, List.length_take]; rfl)) ?_
          with_reducible refine (laws_toSea.calls kj20 a0_0 a0_1 _ _ l0_2 t705 t706 t707 _ ?side1 ?side2 A52.out).mono ?_
          (case side1 => repeat (first | exact (Kd.C_below HR0_2.out HB.out) | (with_reducible refine Kd.C_alloc ?_ _) | (with_reducible refine Kd.C_drewN ?_ _) | (with_reducible refine Kd.C_drew ?_)))
          (case side2 => exact HC0_2.out)
          rintro e w66 ⟨v708, rfl, ho0, hb⟩
          refine ⟨_, rfl, ?_⟩
          have n0_ := Aside0.mk (Kd.R_elder' (by (with_reducible repeat (first | apply Kd.R_alloc | apply Kd.R_drewN | apply Kd.R_drew)); exact HO_8.out) (Kd.R_base ho0) hb)
          have n1_ := Aside0.mk (Kd.R_elder' (by (with_reducible repeat (first | apply Kd.R_alloc | apply Kd.R_drewN | apply Kd.R_drew)); exact HO_11.out) (Kd.R_base ho0) hb)
          have n2_ := Aside0.mk (Kd.R_elder' (by (with_reducible repeat (first | apply Kd.R_alloc | apply Kd.R_drewN | apply Kd.R_drew)); exact HO_12.out) (Kd.R_base ho0) hb)
          have n3_ := Aside0.mk (Kd.R_elder' (by (with_reducible repeat (first | apply Kd.R_alloc | apply Kd.R_drewN | apply Kd.R_drew)); exact HO_13.out) (Kd.R_base ho0) hb)
          have n4_ := Aside0.mk (Kd.R_elder' (by (with_reducible repeat (first | apply Kd.R_alloc | apply Kd.R_drewN | apply Kd.R_drew)); exact HO_694002.out) (Kd.R_base ho0) hb)
          have n5_ := Aside0.mk (Kd.R_lower (Kd.R_new' (Kd.R_new' (Kd.R_new' (Kd.R_new' (Kd.R_new' ho0 (Kd.R_lt (by (with_reducible repeat (first | apply Kd.R_alloc | apply Kd.R_drewN | apply Kd.R_drew)); exact HO_8.out))) (Kd.R_lt (by (with_reducible repeat (first | apply Kd.R_alloc | apply Kd.R_drewN | apply Kd.R_drew)); exact HO_11.out))) (Kd.R_lt (by (with_reducible repeat (first | apply Kd.R_alloc | apply Kd.R_drewN | apply Kd.R_drew)); exact HO_12.out))) (Kd.R_lt (by (with_reducible repeat (first | apply Kd.R_alloc | apply Kd.R_drewN | apply Kd.R_drew)); exact HO_13.out))) (Kd.R_lt (by (with_reducible repeat (first | apply Kd.R_alloc | apply Kd.R_drewN | apply Kd.R_drew)); exact HO_694002.out))) (below_size (by repeat (first | (with_reducible first | exact HB.out | apply below_alloc | apply pw_below_drewN | apply below_drew1 | refine below_set ?_ GE671.out | refine below_set ?_ GE693.out) | exact HB.out))))
          have n6_ := Aside0.mk (blk_below (g := gb671) (o := .cells #[.int .i64 a0_0, .int .i64 a0_1, .slice A0_2 l0_2.length c0_2] 24 (0, 0)) (by (with_reducible repeat (first | refine blk_drewN ?_ _ | refine blk_drew ?_ | refine blk_alloc ?_ _)); exact BK671.out) hb)
          have n7_ := Aside0.mk (blk_below (g := gb693) (o := .cells #[.int .i64 t688, .int .i64 t689, .slice Ao38 t690.length co38] 28 (0, 0)) (by (with_reducible repeat (first | refine blk_drewN ?_ _ | refine blk_drew ?_ | refine blk_alloc ?_ _)); exact BK693.out) hb)
          have n8_ := Aside0.mk (below_step (by repeat (first | (with_reducible first | exact HB.out | apply below_alloc | apply pw_below_drewN | apply below_drew1 | refine below_set ?_ GE671.out | refine below_set ?_ GE693.out) | exact HB.out)) hb)
          clear HO_8
          clear HO_11
          clear HO_12
          clear HO_13
          clear HO_694002
          clear BK671
          clear BK693
          clear HB
          have HO_8 := n0_
          have HO_11 := n1_
          have HO_12 := n2_
          have HO_13 := n3_
          have HO_694002 := n4_
          have HO709 := n5_
          have BK671 := n6_
          have BK693 := n7_
          have HB := n8_
          clear n0_ n1_ n2_ n3_ n4_ n5_ n6_ n7_ n8_
          (try clear hb)
          (try clear hb2)
          (try clear hk)
          (try clear hi)
          (try clear ho0)
          obtain ⟨Ao67, co67, eo67⟩ := Kd.R_slice HO709.out
          (first | subst eo67 | (injection eo67 with f1_ f2_ f3_; have f4_ := f1_.symm; have f5_ := f3_.symm; clear f1_ f2_ f3_; subst f4_; subst f5_))
          refine hK.out _ _ ⟨(blk_cell BK693.out 0).trans rfl, (blk_cell BK693.out 1).trans rfl, (blk_cell BK693.out 2).trans rfl, (blk_cell BK671.out 0).trans rfl, (blk_cell BK671.out 1).trans rfl, (blk_cell BK671.out 2).trans rfl⟩ (fun hHeld => ?_)
          clear hK K
          refine norm_ (a' := ?_) ?_ ?_
          rotate_left
          ·show Act.put _ (some 65) _ = _
           simp only [Act.put, sz_, s0_, s1_, i64_w, i32_w]
           rfl
          refine one_ (i := 3) (N := some 66) #[true, true, true, true, false] rfl rfl (by kernel_rfl) (by decide) (fun K hK => ?_)
          refine goes_ Try.func20 (by kernel_rfl) rfl #[.agg #[.int .i64 t688, .int .i64 t689, .slice Ao38 t690.length co38], .agg #[.int .i64 t705, .int .i64 t706, .slice Ao67 t707.length co67]] (by rfl) rfl rfl (by (try simp only [List.map_toArray, List.map_cons, List.map_nil]); first | done | rfl | (simp only [List.length_drop, List.length_take]; rfl)) ?_
          with_reducible refine (laws_eqSea.calls kj20 t688 t689 _ _ t690 t705 t706 _ _ t707 true _ ?side1 ?side2 ?side3 ?side4 A53.out).mono ?_
          (case side1 => repeat (first | exact (Kd.R_reads' HO_694002.out).2.2 | (with_reducible refine Kd.C_alloc ?_ _) | (with_reducible refine Kd.C_drewN ?_ _) | (with_reducible refine Kd.C_drew ?_)))
          (case side2 => exact (Kd.R_reads' HO_694002.out).2.1)
          (case side3 => repeat (first | exact (Kd.R_reads' HO709.out).2.2 | (with_reducible refine Kd.C_alloc ?_ _) | (with_reducible refine Kd.C_drewN ?_ _) | (with_reducible refine Kd.C_drew ?_)))
          (case side4 => exact (Kd.R_reads' HO709.out).2.1)
          rintro e w68 ⟨rfl, hb⟩
          refine ⟨_, rfl, ?_⟩
          have n0_ := Aside0.mk (Kd.R_below (by (with_reducible repeat (first | apply Kd.R_alloc | apply Kd.R_drewN | apply Kd.R_drew)); exact HO_8.out) hb)
          have n1_ := Aside0.mk (Kd.R_below (by (with_reducible repeat (first | apply Kd.R_alloc | apply Kd.R_drewN | apply Kd.R_drew)); exact HO_11.out) hb)
          have n2_ := Aside0.mk (Kd.R_below (by (with_reducible repeat (first | apply Kd.R_alloc | apply Kd.R_drewN | apply Kd.R_drew)); exact HO_12.out) hb)
          have n3_ := Aside0.mk (Kd.R_below (by (with_reducible repeat (first | apply Kd.R_alloc | apply Kd.R_drewN | apply Kd.R_drew)); exact HO_13.out) hb)
          have n4_ := Aside0.mk (Kd.R_below (by (with_reducible repeat (first | apply Kd.R_alloc | apply Kd.R_drewN | apply Kd.R_drew)); exact HO_694002.out) hb)
          have n5_ := Aside0.mk (Kd.R_below (by (with_reducible repeat (first | apply Kd.R_alloc | apply Kd.R_drewN | apply Kd.R_drew)); exact HO709.out) hb)
          have n6_ := Aside0.mk (blk_below (g := gb671) (o := .cells #[.int .i64 a0_0, .int .i64 a0_1, .slice A0_2 l0_2.length c0_2] 24 (0, 0)) (by (with_reducible repeat (first | refine blk_drewN ?_ _ | refine blk_drew ?_ | refine blk_alloc ?_ _)); exact BK671.out) hb)
          have n7_ := Aside0.mk (blk_below (g := gb693) (o := .cells #[.int .i64 t688, .int .i64 t689, .slice Ao38 t690.length co38] 28 (0, 0)) (by (with_reducible repeat (first | refine blk_drewN ?_ _ | refine blk_drew ?_ | refine blk_alloc ?_ _)); exact BK693.out) hb)
          have n8_ := Aside0.mk (below_step (by repeat (first | (with_reducible first | exact HB.out | apply below_alloc | apply pw_below_drewN | apply below_drew1 | refine below_set ?_ GE671.out | refine below_set ?_ GE693.out) | exact HB.out)) hb)
          clear HO_8
          clear HO_11
          clear HO_12
          clear HO_13
          clear HO_694002
          clear HO709
          clear BK671
          clear BK693
          clear HB
          have HO_8 := n0_
          have HO_11 := n1_
          have HO_12 := n2_
          have HO_13 := n3_
          have HO_694002 := n4_
          have HO709 := n5_
          have BK671 := n6_
          have BK693 := n7_
          have HB := n8_
          clear n0_ n1_ n2_ n3_ n4_ n5_ n6_ n7_ n8_
          (try clear hb)
          (try clear hb2)
          (try clear hk)
          (try clear hi)
          refine hK.out _ _ ⟨(blk_cell BK693.out 0).trans rfl, (blk_cell BK693.out 1).trans rfl, (blk_cell BK693.out 2).trans rfl, (blk_cell BK671.out 0).trans rfl, (blk_cell BK671.out 1).trans rfl, (blk_cell BK671.out 2).trans rfl⟩ (fun hHeld => ?_)
          clear hK K
          refine norm_ (a' := ?_) ?_ ?_
          rotate_left
          ·show Act.put _ (some 66) _ = _
           simp only [Act.put, sz_, s0_, s1_, i64_w, i32_w]
           rfl
          refine pure_ (i := 4) (N := some 67) (v := ?_) (a' := ?_) #[true, true, true, true, true] rfl rfl (by kernel_rfl) (fun _ _ _ h => h) (Or.inl ⟨by rfl, ?_⟩) ?_ ?_
          rotate_left; (· (intro w'; go_simp; with_reducible rfl)); rotate_left; (· (simp only [Act.put, sz_, s0_, s1_, i64_w, i32_w]; rfl))
          refine done_ (by kernel_rfl) ?_
          go_upto_region 26 with (first | ((with_reducible refine gate_callee (f := 25) rfl ?_); refine goesA_ (some 70) rfl rfl Try.func25 (by kernel_rfl) rfl #[.slice A1 l1.length c1] rfl ?_; (with_reducible refine (laws_toInt64S.calls kj20 _ _ l1 t711 _ ?side1 ?side2 A55.out).mono ?_); (case side1 => repeat (first | exact (Kd.C_below HR1.out HB.out) | (with_reducible refine Kd.C_alloc ?_ _) | (with_reducible refine Kd.C_drewN ?_ _) | (with_reducible refine Kd.C_drew ?_))); (case side2 => exact HC1.out); rintro e w69 ⟨v712, rfl, ho0, hb⟩; refine ⟨_, rfl, ?_⟩; have n0_ := Aside0.mk (Kd.R_elder' (by (with_reducible repeat (first | apply Kd.R_alloc | apply Kd.R_drewN | apply Kd.R_drew)); exact HO_8.out) (Kd.R_base ho0) hb); have n1_ := Aside0.mk (Kd.R_elder' (by (with_reducible repeat (first | apply Kd.R_alloc | apply Kd.R_drewN | apply Kd.R_drew)); exact HO_11.out) (Kd.R_base ho0) hb); have n2_ := Aside0.mk (Kd.R_elder' (by (with_reducible repeat (first | apply Kd.R_alloc | apply Kd.R_drewN | apply Kd.R_drew)); exact HO_12.out) (Kd.R_base ho0) hb); have n3_ := Aside0.mk (Kd.R_elder' (by (with_reducible repeat (first | apply Kd.R_alloc | apply Kd.R_drewN | apply Kd.R_drew)); exact HO_13.out) (Kd.R_base ho0) hb); have n4_ := Aside0.mk (Kd.R_elder' (by (with_reducible repeat (first | apply Kd.R_alloc | apply Kd.R_drewN | apply Kd.R_drew)); exact HO_694002.out) (Kd.R_base ho0) hb); have n5_ := Aside0.mk (Kd.R_elder' (by (with_reducible repeat (first | apply Kd.R_alloc | apply Kd.R_drewN | apply Kd.R_drew)); exact HO709.out) (Kd.R_base ho0) hb); have n6_ := Aside0.mk (Kd.R_lower (Kd.R_new' (Kd.R_new' (Kd.R_new' (Kd.R_new' (Kd.R_new' (Kd.R_new' ho0 (Kd.R_lt (by (with_reducible repeat (first | apply Kd.R_alloc | apply Kd.R_drewN | apply Kd.R_drew)); exact HO_8.out))) (Kd.R_lt (by (with_reducible repeat (first | apply Kd.R_alloc | apply Kd.R_drewN | apply Kd.R_drew)); exact HO_11.out))) (Kd.R_lt (by (with_reducible repeat (first | apply Kd.R_alloc | apply Kd.R_drewN | apply Kd.R_drew)); exact HO_12.out))) (Kd.R_lt (by (with_reducible repeat (first | apply Kd.R_alloc | apply Kd.R_drewN | apply Kd.R_drew)); exact HO_13.out))) (Kd.R_lt (by (with_reducible repeat (first | apply Kd.R_alloc | apply Kd.R_drewN | apply Kd.R_drew)); exact HO_694002.out))) (Kd.R_lt (by (with_reducible repeat (first | apply Kd.R_alloc | apply Kd.R_drewN | apply Kd.R_drew)); exact HO709.out))) (below_size (by repeat (first | (with_reducible first | exact HB.out | apply below_alloc | apply pw_below_drewN | apply below_drew1 | refine below_set ?_ GE671.out | refine below_set ?_ GE693.out) | exact HB.out)))); have n7_ := Aside0.mk (blk_below (g := gb671) (o := .cells #[.int .i64 a0_0, .int .i64 a0_1, .slice A0_2 l0_2.length c0_2] 24 (0, 0)) (by (with_reducible repeat (first | refine blk_drewN ?_ _ | refine blk_drew ?_ | refine blk_alloc ?_ _)); exact BK671.out) hb); have n8_ := Aside0.mk (blk_below (g := gb693) (o := .cells #[.int .i64 t688, .int .i64 t689, .slice Ao38 t690.length co38] 28 (0, 0)) (by (with_reducible repeat (first | refine blk_drewN ?_ _ | refine blk_drew ?_ | refine blk_alloc ?_ _)); exact BK693.out) hb); have n9_ := Aside0.mk (below_step (by repeat (first | (with_reducible first | exact HB.out | apply below_alloc | apply pw_below_drewN | apply below_drew1 | refine below_set ?_ GE671.out | refine below_set ?_ GE693.out) | exact HB.out)) hb); clear HO_8; clear HO_11; clear HO_12; clear HO_13; clear HO_694002; clear HO709; clear BK671; clear BK693; clear HB; have HO_8 := n0_; have HO_11 := n1_; have HO_12 := n2_; have HO_13 := n3_; have HO_694002 := n4_; have HO709 := n5_; have HO713 := n6_; have BK671 := n7_; have BK693 := n8_; have HB := n9_; clear n0_ n1_ n2_ n3_ n4_ n5_ n6_ n7_ n8_ n9_; (try clear hb); (try clear hb2); (try clear hk); (try clear hi); (try clear ho0); obtain ⟨Ao70, co70, eo70⟩ := Kd.R_slice HO713.out; subst eo70) | ((with_reducible refine gate_callee (f := 19) rfl ?_); refine goesA_ (some 71) rfl rfl Try.func19 (by kernel_rfl) rfl #[.slice Ao42 t694.length co42, .slice Ao70 t711.length co70] rfl ?_; (with_reducible refine (laws_eqInt64S.calls kj20 _ _ t694 _ _ t711 true _ ?side1 ?side2 ?side3 ?side4 A56.out).mono ?_); (case side1 => repeat (first | exact (Kd.R_reads' HO_11.out).2.2 | (with_reducible refine Kd.C_alloc ?_ _) | (with_reducible refine Kd.C_drewN ?_ _) | (with_reducible refine Kd.C_drew ?_))); (case side2 => exact (Kd.R_reads' HO_11.out).2.1); (case side3 => repeat (first | exact (Kd.R_reads' HO713.out).2.2 | (with_reducible refine Kd.C_alloc ?_ _) | (with_reducible refine Kd.C_drewN ?_ _) | (with_reducible refine Kd.C_drew ?_))); (case side4 => exact (Kd.R_reads' HO713.out).2.1); rintro e w' ⟨rfl, ⟨nd, rfl⟩⟩; refine ⟨_, rfl, ?_⟩) | ((with_reducible refine gate_callee (f := 25) rfl ?_); refine goesA_ (some 75) rfl rfl Try.func25 (by kernel_rfl) rfl #[.slice A2 l2.length c2] rfl ?_; (with_reducible refine (laws_toInt64S.calls kj20 _ _ l2 t715 _ ?side1 ?side2 A58.out).mono ?_); (case side1 => repeat (first | exact (Kd.C_below HR2.out (by repeat (first | (with_reducible first | exact HB.out | apply below_alloc | apply pw_below_drewN | apply below_drew1 | refine below_set ?_ GE671.out | refine below_set ?_ GE693.out) | exact HB.out))) | (with_reducible refine Kd.C_alloc ?_ _) | (with_reducible refine Kd.C_drewN ?_ _) | (with_reducible refine Kd.C_drew ?_))); (case side2 => exact HC2.out); rintro e w71 ⟨v716, rfl, ho0, hb⟩; refine ⟨_, rfl, ?_⟩; have n0_ := Aside0.mk (Kd.R_elder' (by (with_reducible repeat (first | apply Kd.R_alloc | apply Kd.R_drewN | apply Kd.R_drew)); exact HO_8.out) (Kd.R_base ho0) hb); have n1_ := Aside0.mk (Kd.R_elder' (by (with_reducible repeat (first | apply Kd.R_alloc | apply Kd.R_drewN | apply Kd.R_drew)); exact HO_11.out) (Kd.R_base ho0) hb); have n2_ := Aside0.mk (Kd.R_elder' (by (with_reducible repeat (first | apply Kd.R_alloc | apply Kd.R_drewN | apply Kd.R_drew)); exact HO_12.out) (Kd.R_base ho0) hb); have n3_ := Aside0.mk (Kd.R_elder' (by (with_reducible repeat (first | apply Kd.R_alloc | apply Kd.R_drewN | apply Kd.R_drew)); exact HO_13.out) (Kd.R_base ho0) hb); have n4_ := Aside0.mk (Kd.R_elder' (by (with_reducible repeat (first | apply Kd.R_alloc | apply Kd.R_drewN | apply Kd.R_drew)); exact HO_694002.out) (Kd.R_base ho0) hb); have n5_ := Aside0.mk (Kd.R_elder' (by (with_reducible repeat (first | apply Kd.R_alloc | apply Kd.R_drewN | apply Kd.R_drew)); exact HO709.out) (Kd.R_base ho0) hb); have n6_ := Aside0.mk (Kd.R_elder' (by (with_reducible repeat (first | apply Kd.R_alloc | apply Kd.R_drewN | apply Kd.R_drew)); exact HO713.out) (Kd.R_base ho0) hb); have n7_ := Aside0.mk (Kd.R_lower (Kd.R_new' (Kd.R_new' (Kd.R_new' (Kd.R_new' (Kd.R_new' (Kd.R_new' (Kd.R_new' ho0 (Kd.R_lt (by (with_reducible repeat (first | apply Kd.R_alloc | apply Kd.R_drewN | apply Kd.R_drew)); exact HO_8.out))) (Kd.R_lt (by (with_reducible repeat (first | apply Kd.R_alloc | apply Kd.R_drewN | apply Kd.R_drew)); exact HO_11.out))) (Kd.R_lt (by (with_reducible repeat (first | apply Kd.R_alloc | apply Kd.R_drewN | apply Kd.R_drew)); exact HO_12.out))) (Kd.R_lt (by (with_reducible repeat (first | apply Kd.R_alloc | apply Kd.R_drewN | apply Kd.R_drew)); exact HO_13.out))) (Kd.R_lt (by (with_reducible repeat (first | apply Kd.R_alloc | apply Kd.R_drewN | apply Kd.R_drew)); exact HO_694002.out))) (Kd.R_lt (by (with_reducible repeat (first | apply Kd.R_alloc | apply Kd.R_drewN | apply Kd.R_drew)); exact HO709.out))) (Kd.R_lt (by (with_reducible repeat (first | apply Kd.R_alloc | apply Kd.R_drewN | apply Kd.R_drew)); exact HO713.out))) (below_size (by repeat (first | (with_reducible first | exact HB.out | apply below_alloc | apply pw_below_drewN | apply below_drew1 | refine below_set ?_ GE671.out | refine below_set ?_ GE693.out) | exact HB.out)))); have n8_ := Aside0.mk (blk_below (g := gb671) (o := .cells #[.int .i64 a0_0, .int .i64 a0_1, .slice A0_2 l0_2.length c0_2] 24 (0, 0)) (by (with_reducible repeat (first | refine blk_drewN ?_ _ | refine blk_drew ?_ | refine blk_alloc ?_ _)); exact BK671.out) hb); have n9_ := Aside0.mk (blk_below (g := gb693) (o := .cells #[.int .i64 t688, .int .i64 t689, .slice Ao38 t690.length co38] 28 (0, 0)) (by (with_reducible repeat (first | refine blk_drewN ?_ _ | refine blk_drew ?_ | refine blk_alloc ?_ _)); exact BK693.out) hb); have n10_ := Aside0.mk (below_step (by repeat (first | (with_reducible first | exact HB.out | apply below_alloc | apply pw_below_drewN | apply below_drew1 | refine below_set ?_ GE671.out | refine below_set ?_ GE693.out) | exact HB.out)) hb); clear HO_8; clear HO_11; clear HO_12; clear HO_13; clear HO_694002; clear HO709; clear HO713; clear BK671; clear BK693; clear HB; have HO_8 := n0_; have HO_11 := n1_; have HO_12 := n2_; have HO_13 := n3_; have HO_694002 := n4_; have HO709 := n5_; have HO713 := n6_; have HO717 := n7_; have BK671 := n8_; have BK693 := n9_; have HB := n10_; clear n0_ n1_ n2_ n3_ n4_ n5_ n6_ n7_ n8_ n9_ n10_; (try clear hb); (try clear hb2); (try clear hk); (try clear hi); (try clear ho0); obtain ⟨Ao72, co72, eo72⟩ := Kd.R_slice HO717.out; subst eo72) | ((with_reducible refine gate_callee (f := 19) rfl ?_); refine goesA_ (some 76) rfl rfl Try.func19 (by kernel_rfl) rfl #[.slice Ao43 t697.length co43, .slice Ao72 t715.length co72] rfl ?_; (with_reducible refine (laws_eqInt64S.calls kj20 _ _ t697 _ _ t715 true _ ?side1 ?side2 ?side3 ?side4 A59.out).mono ?_); (case side1 => repeat (first | exact (Kd.R_reads' HO_12.out).2.2 | (with_reducible refine Kd.C_alloc ?_ _) | (with_reducible refine Kd.C_drewN ?_ _) | (with_reducible refine Kd.C_drew ?_))); (case side2 => exact (Kd.R_reads' HO_12.out).2.1); (case side3 => repeat (first | exact (Kd.R_reads' HO717.out).2.2 | (with_reducible refine Kd.C_alloc ?_ _) | (with_reducible refine Kd.C_drewN ?_ _) | (with_reducible refine Kd.C_drew ?_))); (case side4 => exact (Kd.R_reads' HO717.out).2.1); rintro e w' ⟨rfl, ⟨nd, rfl⟩⟩; refine ⟨_, rfl, ?_⟩; have hnb73 := NB693_671.out; have hnc73 := NB671_693.out; have hcz74_0 : w71.cell? ⟨gb693, 0, none⟩ = some (.int .i64 t688) := (blk_cell BK693.out 0).trans rfl; have hcz74_1 : w71.cell? ⟨gb693, 1, none⟩ = some (.int .i64 t689) := (blk_cell BK693.out 1).trans rfl; have hcz74_2 : w71.cell? ⟨gb693, 2, none⟩ = some (.slice Ao38 t690.length co38) := (blk_cell BK693.out 2).trans rfl; have hfz74_0 := blk_frozen BK693.out 0; have hfz74_1 := blk_frozen BK693.out 1; have hfz74_2 := blk_frozen BK693.out 2) | ((with_reducible refine gate_callee (f := 21) rfl ?_); refine goesA_ (some 80) rfl rfl Try.func21 (by kernel_rfl) rfl #[.agg #[.int .i64 t688, .int .i64 t689, .slice Ao38 t690.length co38], .int .i64 1] rfl ?_; (with_reducible refine (laws_markSea.calls kj20 t688 t689 (fun k_ => some k_ = (.slice Ao38 t690.length co38 : Value).ownBlock) (.slice Ao38 t690.length co38) t690 1 t719 t720 w _ ?side1 ?side2 A61.out).mono ?_); (case side1 => repeat (first | (with_reducible first | exact HB.out | apply below_alloc | apply pw_below_drewN | apply below_drew1 | refine below_set ?_ GE671.out | refine below_set ?_ GE693.out) | exact HB.out)); (case side2 => exact Kd.R_tight rfl HO_694002.out); rintro e w75 ⟨rfl, hy0, hb, hkp⟩; refine ⟨_, rfl, ?_⟩; have n0_ := Aside0.mk (Kd.R_mono (ok' := fun k_ => some k_ ≠ (.slice Ao42 t694.length co42 : Value).ownBlock ∧ some k_ ≠ (.slice Ao43 t697.length co43 : Value).ownBlock ∧ some k_ ≠ (v701 : Value).ownBlock ∧ some k_ ≠ (.slice Ao38 t690.length co38 : Value).ownBlock ∧ some k_ ≠ (.slice Ao67 t707.length co67 : Value).ownBlock ∧ some k_ ≠ (.slice Ao70 t711.length co70 : Value).ownBlock ∧ some k_ ≠ (.slice Ao72 t715.length co72 : Value).ownBlock) (Kd.R_keptB (HO_8.out) hkp (fun k_ hk_ hs_ => (hk_.1.1.1.2.2.2) hs_)) (fun k_ hk_ => ⟨hk_.1.1.1.1.1, hk_.1.1.1.1.2.1, hk_.1.1.1.1.2.2.1, hk_.1.1.1.1.2.2.2, hk_.1.1.1.2, hk_.1.1.2, hk_.1.2⟩)); have n1_ := Aside0.mk (Kd.R_mono (ok' := fun k_ => some k_ ≠ (v685 : Value).ownBlock ∧ some k_ ≠ (.slice Ao43 t697.length co43 : Value).ownBlock ∧ some k_ ≠ (v701 : Value).ownBlock ∧ some k_ ≠ (.slice Ao38 t690.length co38 : Value).ownBlock ∧ some k_ ≠ (.slice Ao67 t707.length co67 : Value).ownBlock ∧ some k_ ≠ (.slice Ao70 t711.length co70 : Value).ownBlock ∧ some k_ ≠ (.slice Ao72 t715.length co72 : Value).ownBlock) (Kd.R_keptB (HO_11.out) hkp (fun k_ hk_ hs_ => (hk_.1.1.1.2.2.2) hs_)) (fun k_ hk_ => ⟨hk_.1.1.1.1.1, hk_.1.1.1.1.2.1, hk_.1.1.1.1.2.2.1, hk_.1.1.1.1.2.2.2, hk_.1.1.1.2, hk_.1.1.2, hk_.1.2⟩)); have n2_ := Aside0.mk (Kd.R_mono (ok' := fun k_ => some k_ ≠ (v685 : Value).ownBlock ∧ some k_ ≠ (.slice Ao42 t694.length co42 : Value).ownBlock ∧ some k_ ≠ (v701 : Value).ownBlock ∧ some k_ ≠ (.slice Ao38 t690.length co38 : Value).ownBlock ∧ some k_ ≠ (.slice Ao67 t707.length co67 : Value).ownBlock ∧ some k_ ≠ (.slice Ao70 t711.length co70 : Value).ownBlock ∧ some k_ ≠ (.slice Ao72 t715.length co72 : Value).ownBlock) (Kd.R_keptB (HO_12.out) hkp (fun k_ hk_ hs_ => (hk_.1.1.1.2.2.2) hs_)) (fun k_ hk_ => ⟨hk_.1.1.1.1.1, hk_.1.1.1.1.2.1, hk_.1.1.1.1.2.2.1, hk_.1.1.1.1.2.2.2, hk_.1.1.1.2, hk_.1.1.2, hk_.1.2⟩)); have n3_ := Aside0.mk (Kd.R_mono (ok' := fun k_ => some k_ ≠ (v685 : Value).ownBlock ∧ some k_ ≠ (.slice Ao42 t694.length co42 : Value).ownBlock ∧ some k_ ≠ (.slice Ao43 t697.length co43 : Value).ownBlock ∧ some k_ ≠ (.slice Ao38 t690.length co38 : Value).ownBlock ∧ some k_ ≠ (.slice Ao67 t707.length co67 : Value).ownBlock ∧ some k_ ≠ (.slice Ao70 t711.length co70 : Value).ownBlock ∧ some k_ ≠ (.slice Ao72 t715.length co72 : Value).ownBlock) (Kd.R_keptB (HO_13.out) hkp (fun k_ hk_ hs_ => (hk_.1.1.1.2.2.2) hs_)) (fun k_ hk_ => ⟨hk_.1.1.1.1.1, hk_.1.1.1.1.2.1, hk_.1.1.1.1.2.2.1, hk_.1.1.1.1.2.2.2, hk_.1.1.1.2, hk_.1.1.2, hk_.1.2⟩)); have n4_ := Aside0.mk (Kd.R_reok rfl hy0 (fun k_ e_ => HO_694002.out.1 k_ e_)); have n5_ := Aside0.mk (blk_kept (by (with_reducible repeat (first | refine blk_drewN ?_ _ | refine blk_drew ?_ | refine blk_alloc ?_ _)); exact BK671.out) hkp (fun hs_ => (fun e_ => (Kd.R_ne HO_694002.out BK671.out (by decide)) e_) hs_)); have n6_ := Aside0.mk (blk_kept (by (with_reducible repeat (first | refine blk_drewN ?_ _ | refine blk_drew ?_ | refine blk_alloc ?_ _)); exact BK693.out) hkp (fun hs_ => (fun e_ => (Kd.R_ne HO_694002.out BK693.out (by decide)) e_) hs_)); have n7_ := Aside0.mk (Kd.R_mono (ok' := fun k_ => some k_ ≠ (v685 : Value).ownBlock ∧ some k_ ≠ (.slice Ao42 t694.length co42 : Value).ownBlock ∧ some k_ ≠ (.slice Ao43 t697.length co43 : Value).ownBlock ∧ some k_ ≠ (v701 : Value).ownBlock ∧ some k_ ≠ (.slice Ao38 t690.length co38 : Value).ownBlock ∧ some k_ ≠ (.slice Ao70 t711.length co70 : Value).ownBlock ∧ some k_ ≠ (.slice Ao72 t715.length co72 : Value).ownBlock) (Kd.R_keptB (HO709.out) hkp (fun k_ hk_ hs_ => (hk_.1.1.2) hs_)) (fun k_ hk_ => ⟨hk_.1.1.1.1.1.1.1.2, hk_.1.1.1.1.1.1.2, hk_.1.1.1.1.1.2, hk_.1.1.1.1.2, hk_.1.1.1.2, hk_.1.1.2, hk_.1.2⟩)); have n8_ := Aside0.mk (Kd.R_mono (ok' := fun k_ => some k_ ≠ (v685 : Value).ownBlock ∧ some k_ ≠ (.slice Ao42 t694.length co42 : Value).ownBlock ∧ some k_ ≠ (.slice Ao43 t697.length co43 : Value).ownBlock ∧ some k_ ≠ (v701 : Value).ownBlock ∧ some k_ ≠ (.slice Ao38 t690.length co38 : Value).ownBlock ∧ some k_ ≠ (.slice Ao67 t707.length co67 : Value).ownBlock ∧ some k_ ≠ (.slice Ao72 t715.length co72 : Value).ownBlock) (Kd.R_keptB (HO713.out) hkp (fun k_ hk_ hs_ => (hk_.1.1.2) hs_)) (fun k_ hk_ => ⟨hk_.1.1.1.1.1.1.1.2, hk_.1.1.1.1.1.1.2, hk_.1.1.1.1.1.2, hk_.1.1.1.1.2, hk_.1.1.1.2, hk_.1.1.2, hk_.1.2⟩)); have n9_ := Aside0.mk (Kd.R_mono (ok' := fun k_ => some k_ ≠ (v685 : Value).ownBlock ∧ some k_ ≠ (.slice Ao42 t694.length co42 : Value).ownBlock ∧ some k_ ≠ (.slice Ao43 t697.length co43 : Value).ownBlock ∧ some k_ ≠ (v701 : Value).ownBlock ∧ some k_ ≠ (.slice Ao38 t690.length co38 : Value).ownBlock ∧ some k_ ≠ (.slice Ao67 t707.length co67 : Value).ownBlock ∧ some k_ ≠ (.slice Ao70 t711.length co70 : Value).ownBlock) (Kd.R_keptB (HO717.out) hkp (fun k_ hk_ hs_ => (hk_.1.1.2) hs_)) (fun k_ hk_ => ⟨hk_.1.1.1.1.1.1.1.2, hk_.1.1.1.1.1.1.2, hk_.1.1.1.1.1.2, hk_.1.1.1.1.2, hk_.1.1.1.2, hk_.1.1.2, hk_.1.2⟩)); have n10_ := Aside0.mk (hb); clear HO_8; clear HO_11; clear HO_12; clear HO_13; clear HO_694002; clear BK671; clear BK693; clear HO709; clear HO713; clear HO717; clear HB; have HO_8 := n0_; have HO_11 := n1_; have HO_12 := n2_; have HO_13 := n3_; have HO_694002 := n4_; have BK671 := n5_; have BK693 := n6_; have HO709 := n7_; have HO713 := n8_; have HO717 := n9_; have HB := n10_; clear n0_ n1_ n2_ n3_ n4_ n5_ n6_ n7_ n8_ n9_ n10_; (try clear hb); (try clear hkp); (try clear hy0)) | ((with_reducible refine gate_callee (f := 22) rfl ?_); refine goesA_ (some 83) rfl rfl Try.func22 (by kernel_rfl) rfl #[.slice Ao42 t694.length co42, .int .i64 t719] rfl ?_; (with_reducible refine (laws_markInt64S.calls kj20 (fun k_ => some k_ = (.slice Ao42 t694.length co42 : Value).ownBlock) (.slice Ao42 t694.length co42) t694 t719 t721 t722 w _ ?side1 ?side2 A62.out).mono ?_); (case side1 => repeat (first | (with_reducible first | exact HB.out | apply below_alloc | apply pw_below_drewN | apply below_drew1 | refine below_set ?_ GE671.out | refine below_set ?_ GE693.out) | exact HB.out)); (case side2 => exact Kd.R_tight rfl HO_11.out); rintro e w76 ⟨rfl, hy0, hb, hkp⟩; refine ⟨_, rfl, ?_⟩; have n0_ := Aside0.mk (Kd.R_mono (ok' := fun k_ => some k_ ≠ (.slice Ao42 t694.length co42 : Value).ownBlock ∧ some k_ ≠ (.slice Ao43 t697.length co43 : Value).ownBlock ∧ some k_ ≠ (v701 : Value).ownBlock ∧ some k_ ≠ (.slice Ao38 t690.length co38 : Value).ownBlock ∧ some k_ ≠ (.slice Ao67 t707.length co67 : Value).ownBlock ∧ some k_ ≠ (.slice Ao70 t711.length co70 : Value).ownBlock ∧ some k_ ≠ (.slice Ao72 t715.length co72 : Value).ownBlock) (Kd.R_keptB (HO_8.out) hkp (fun k_ hk_ hs_ => (hk_.1) hs_)) (fun k_ hk_ => ⟨hk_.1.1, hk_.1.2.1, hk_.1.2.2.1, hk_.1.2.2.2.1, hk_.1.2.2.2.2.1, hk_.1.2.2.2.2.2.1, hk_.1.2.2.2.2.2.2⟩)); have n1_ := Aside0.mk (Kd.R_reok rfl hy0 (fun k_ e_ => HO_11.out.1 k_ e_)); have n2_ := Aside0.mk (Kd.R_mono (ok' := fun k_ => some k_ ≠ (v685 : Value).ownBlock ∧ some k_ ≠ (.slice Ao42 t694.length co42 : Value).ownBlock ∧ some k_ ≠ (v701 : Value).ownBlock ∧ some k_ ≠ (.slice Ao38 t690.length co38 : Value).ownBlock ∧ some k_ ≠ (.slice Ao67 t707.length co67 : Value).ownBlock ∧ some k_ ≠ (.slice Ao70 t711.length co70 : Value).ownBlock ∧ some k_ ≠ (.slice Ao72 t715.length co72 : Value).ownBlock) (Kd.R_keptB (HO_12.out) hkp (fun k_ hk_ hs_ => (hk_.2.1) hs_)) (fun k_ hk_ => ⟨hk_.1.1, hk_.1.2.1, hk_.1.2.2.1, hk_.1.2.2.2.1, hk_.1.2.2.2.2.1, hk_.1.2.2.2.2.2.1, hk_.1.2.2.2.2.2.2⟩)); have n3_ := Aside0.mk (Kd.R_mono (ok' := fun k_ => some k_ ≠ (v685 : Value).ownBlock ∧ some k_ ≠ (.slice Ao42 t694.length co42 : Value).ownBlock ∧ some k_ ≠ (.slice Ao43 t697.length co43 : Value).ownBlock ∧ some k_ ≠ (.slice Ao38 t690.length co38 : Value).ownBlock ∧ some k_ ≠ (.slice Ao67 t707.length co67 : Value).ownBlock ∧ some k_ ≠ (.slice Ao70 t711.length co70 : Value).ownBlock ∧ some k_ ≠ (.slice Ao72 t715.length co72 : Value).ownBlock) (Kd.R_keptB (HO_13.out) hkp (fun k_ hk_ hs_ => (hk_.2.1) hs_)) (fun k_ hk_ => ⟨hk_.1.1, hk_.1.2.1, hk_.1.2.2.1, hk_.1.2.2.2.1, hk_.1.2.2.2.2.1, hk_.1.2.2.2.2.2.1, hk_.1.2.2.2.2.2.2⟩)); have n4_ := Aside0.mk (Kd.R_mono (ok' := fun k_ => some k_ ≠ (v685 : Value).ownBlock ∧ some k_ ≠ (.slice Ao42 t694.length co42 : Value).ownBlock ∧ some k_ ≠ (.slice Ao43 t697.length co43 : Value).ownBlock ∧ some k_ ≠ (v701 : Value).ownBlock ∧ some k_ ≠ (.slice Ao67 t707.length co67 : Value).ownBlock ∧ some k_ ≠ (.slice Ao70 t711.length co70 : Value).ownBlock ∧ some k_ ≠ (.slice Ao72 t715.length co72 : Value).ownBlock) (Kd.R_keptB (HO_694002.out) hkp (fun k_ hk_ hs_ => (hk_.1.1.1.2.1) hs_)) (fun k_ hk_ => ⟨hk_.1.1.1.1.1, hk_.1.1.1.1.2.1, hk_.1.1.1.1.2.2.1, hk_.1.1.1.1.2.2.2, hk_.1.1.1.2, hk_.1.1.2, hk_.1.2⟩)); have n5_ := Aside0.mk (blk_kept (by (with_reducible repeat (first | refine blk_drewN ?_ _ | refine blk_drew ?_ | refine blk_alloc ?_ _)); exact BK671.out) hkp (fun hs_ => (fun e_ => (Kd.R_ne HO_11.out BK671.out (by decide)) e_) hs_)); have n6_ := Aside0.mk (blk_kept (by (with_reducible repeat (first | refine blk_drewN ?_ _ | refine blk_drew ?_ | refine blk_alloc ?_ _)); exact BK693.out) hkp (fun hs_ => (fun e_ => (Kd.R_ne HO_11.out BK693.out (by decide)) e_) hs_)); have n7_ := Aside0.mk (Kd.R_mono (ok' := fun k_ => some k_ ≠ (v685 : Value).ownBlock ∧ some k_ ≠ (.slice Ao42 t694.length co42 : Value).ownBlock ∧ some k_ ≠ (.slice Ao43 t697.length co43 : Value).ownBlock ∧ some k_ ≠ (v701 : Value).ownBlock ∧ some k_ ≠ (.slice Ao38 t690.length co38 : Value).ownBlock ∧ some k_ ≠ (.slice Ao70 t711.length co70 : Value).ownBlock ∧ some k_ ≠ (.slice Ao72 t715.length co72 : Value).ownBlock) (Kd.R_keptB (HO709.out) hkp (fun k_ hk_ hs_ => (hk_.2.1) hs_)) (fun k_ hk_ => ⟨hk_.1.1, hk_.1.2.1, hk_.1.2.2.1, hk_.1.2.2.2.1, hk_.1.2.2.2.2.1, hk_.1.2.2.2.2.2.1, hk_.1.2.2.2.2.2.2⟩)); have n8_ := Aside0.mk (Kd.R_mono (ok' := fun k_ => some k_ ≠ (v685 : Value).ownBlock ∧ some k_ ≠ (.slice Ao42 t694.length co42 : Value).ownBlock ∧ some k_ ≠ (.slice Ao43 t697.length co43 : Value).ownBlock ∧ some k_ ≠ (v701 : Value).ownBlock ∧ some k_ ≠ (.slice Ao38 t690.length co38 : Value).ownBlock ∧ some k_ ≠ (.slice Ao67 t707.length co67 : Value).ownBlock ∧ some k_ ≠ (.slice Ao72 t715.length co72 : Value).ownBlock) (Kd.R_keptB (HO713.out) hkp (fun k_ hk_ hs_ => (hk_.2.1) hs_)) (fun k_ hk_ => ⟨hk_.1.1, hk_.1.2.1, hk_.1.2.2.1, hk_.1.2.2.2.1, hk_.1.2.2.2.2.1, hk_.1.2.2.2.2.2.1, hk_.1.2.2.2.2.2.2⟩)); have n9_ := Aside0.mk (Kd.R_mono (ok' := fun k_ => some k_ ≠ (v685 : Value).ownBlock ∧ some k_ ≠ (.slice Ao42 t694.length co42 : Value).ownBlock ∧ some k_ ≠ (.slice Ao43 t697.length co43 : Value).ownBlock ∧ some k_ ≠ (v701 : Value).ownBlock ∧ some k_ ≠ (.slice Ao38 t690.length co38 : Value).ownBlock ∧ some k_ ≠ (.slice Ao67 t707.length co67 : Value).ownBlock ∧ some k_ ≠ (.slice Ao70 t711.length co70 : Value).ownBlock) (Kd.R_keptB (HO717.out) hkp (fun k_ hk_ hs_ => (hk_.2.1) hs_)) (fun k_ hk_ => ⟨hk_.1.1, hk_.1.2.1, hk_.1.2.2.1, hk_.1.2.2.2.1, hk_.1.2.2.2.2.1, hk_.1.2.2.2.2.2.1, hk_.1.2.2.2.2.2.2⟩)); have n10_ := Aside0.mk (hb); clear HO_8; clear HO_11; clear HO_12; clear HO_13; clear HO_694002; clear BK671; clear BK693; clear HO709; clear HO713; clear HO717; clear HB; have HO_8 := n0_; have HO_11 := n1_; have HO_12 := n2_; have HO_13 := n3_; have HO_694002 := n4_; have BK671 := n5_; have BK693 := n6_; have HO709 := n7_; have HO713 := n8_; have HO717 := n9_; have HB := n10_; clear n0_ n1_ n2_ n3_ n4_ n5_ n6_ n7_ n8_ n9_ n10_; (try clear hb); (try clear hkp); (try clear hy0)) | ((with_reducible refine gate_callee (f := 22) rfl ?_); refine goesA_ (some 86) rfl rfl Try.func22 (by kernel_rfl) rfl #[.slice Ao43 t697.length co43, .int .i64 t721] rfl ?_; (with_reducible refine (laws_markInt64S.calls kj20 (fun k_ => some k_ = (.slice Ao43 t697.length co43 : Value).ownBlock) (.slice Ao43 t697.length co43) t697 t721 t723 t724 w _ ?side1 ?side2 A63.out).mono ?_); (case side1 => repeat (first | (with_reducible first | exact HB.out | apply below_alloc | apply pw_below_drewN | apply below_drew1 | refine below_set ?_ GE671.out | refine below_set ?_ GE693.out) | exact HB.out)); (case side2 => exact Kd.R_tight rfl HO_12.out); rintro e w77 ⟨rfl, hy0, hb, hkp⟩; refine ⟨_, rfl, ?_⟩; have n0_ := Aside0.mk (Kd.R_mono (ok' := fun k_ => some k_ ≠ (.slice Ao42 t694.length co42 : Value).ownBlock ∧ some k_ ≠ (.slice Ao43 t697.length co43 : Value).ownBlock ∧ some k_ ≠ (v701 : Value).ownBlock ∧ some k_ ≠ (.slice Ao38 t690.length co38 : Value).ownBlock ∧ some k_ ≠ (.slice Ao67 t707.length co67 : Value).ownBlock ∧ some k_ ≠ (.slice Ao70 t711.length co70 : Value).ownBlock ∧ some k_ ≠ (.slice Ao72 t715.length co72 : Value).ownBlock) (Kd.R_keptB (HO_8.out) hkp (fun k_ hk_ hs_ => (hk_.2.1) hs_)) (fun k_ hk_ => ⟨hk_.1.1, hk_.1.2.1, hk_.1.2.2.1, hk_.1.2.2.2.1, hk_.1.2.2.2.2.1, hk_.1.2.2.2.2.2.1, hk_.1.2.2.2.2.2.2⟩)); have n1_ := Aside0.mk (Kd.R_mono (ok' := fun k_ => some k_ ≠ (v685 : Value).ownBlock ∧ some k_ ≠ (.slice Ao43 t697.length co43 : Value).ownBlock ∧ some k_ ≠ (v701 : Value).ownBlock ∧ some k_ ≠ (.slice Ao38 t690.length co38 : Value).ownBlock ∧ some k_ ≠ (.slice Ao67 t707.length co67 : Value).ownBlock ∧ some k_ ≠ (.slice Ao70 t711.length co70 : Value).ownBlock ∧ some k_ ≠ (.slice Ao72 t715.length co72 : Value).ownBlock) (Kd.R_keptB (HO_11.out) hkp (fun k_ hk_ hs_ => (hk_.2.1) hs_)) (fun k_ hk_ => ⟨hk_.1.1, hk_.1.2.1, hk_.1.2.2.1, hk_.1.2.2.2.1, hk_.1.2.2.2.2.1, hk_.1.2.2.2.2.2.1, hk_.1.2.2.2.2.2.2⟩)); have n2_ := Aside0.mk (Kd.R_reok rfl hy0 (fun k_ e_ => HO_12.out.1 k_ e_)); have n3_ := Aside0.mk (Kd.R_mono (ok' := fun k_ => some k_ ≠ (v685 : Value).ownBlock ∧ some k_ ≠ (.slice Ao42 t694.length co42 : Value).ownBlock ∧ some k_ ≠ (.slice Ao43 t697.length co43 : Value).ownBlock ∧ some k_ ≠ (.slice Ao38 t690.length co38 : Value).ownBlock ∧ some k_ ≠ (.slice Ao67 t707.length co67 : Value).ownBlock ∧ some k_ ≠ (.slice Ao70 t711.length co70 : Value).ownBlock ∧ some k_ ≠ (.slice Ao72 t715.length co72 : Value).ownBlock) (Kd.R_keptB (HO_13.out) hkp (fun k_ hk_ hs_ => (hk_.2.2.1) hs_)) (fun k_ hk_ => ⟨hk_.1.1, hk_.1.2.1, hk_.1.2.2.1, hk_.1.2.2.2.1, hk_.1.2.2.2.2.1, hk_.1.2.2.2.2.2.1, hk_.1.2.2.2.2.2.2⟩)); have n4_ := Aside0.mk (Kd.R_mono (ok' := fun k_ => some k_ ≠ (v685 : Value).ownBlock ∧ some k_ ≠ (.slice Ao42 t694.length co42 : Value).ownBlock ∧ some k_ ≠ (.slice Ao43 t697.length co43 : Value).ownBlock ∧ some k_ ≠ (v701 : Value).ownBlock ∧ some k_ ≠ (.slice Ao67 t707.length co67 : Value).ownBlock ∧ some k_ ≠ (.slice Ao70 t711.length co70 : Value).ownBlock ∧ some k_ ≠ (.slice Ao72 t715.length co72 : Value).ownBlock) (Kd.R_keptB (HO_694002.out) hkp (fun k_ hk_ hs_ => (hk_.2.2.1) hs_)) (fun k_ hk_ => ⟨hk_.1.1, hk_.1.2.1, hk_.1.2.2.1, hk_.1.2.2.2.1, hk_.1.2.2.2.2.1, hk_.1.2.2.2.2.2.1, hk_.1.2.2.2.2.2.2⟩)); have n5_ := Aside0.mk (blk_kept (by (with_reducible repeat (first | refine blk_drewN ?_ _ | refine blk_drew ?_ | refine blk_alloc ?_ _)); exact BK671.out) hkp (fun hs_ => (fun e_ => (Kd.R_ne HO_12.out BK671.out (by decide)) e_) hs_)); have n6_ := Aside0.mk (blk_kept (by (with_reducible repeat (first | refine blk_drewN ?_ _ | refine blk_drew ?_ | refine blk_alloc ?_ _)); exact BK693.out) hkp (fun hs_ => (fun e_ => (Kd.R_ne HO_12.out BK693.out (by decide)) e_) hs_)); have n7_ := Aside0.mk (Kd.R_mono (ok' := fun k_ => some k_ ≠ (v685 : Value).ownBlock ∧ some k_ ≠ (.slice Ao42 t694.length co42 : Value).ownBlock ∧ some k_ ≠ (.slice Ao43 t697.length co43 : Value).ownBlock ∧ some k_ ≠ (v701 : Value).ownBlock ∧ some k_ ≠ (.slice Ao38 t690.length co38 : Value).ownBlock ∧ some k_ ≠ (.slice Ao70 t711.length co70 : Value).ownBlock ∧ some k_ ≠ (.slice Ao72 t715.length co72 : Value).ownBlock) (Kd.R_keptB (HO709.out) hkp (fun k_ hk_ hs_ => (hk_.2.2.1) hs_)) (fun k_ hk_ => ⟨hk_.1.1, hk_.1.2.1, hk_.1.2.2.1, hk_.1.2.2.2.1, hk_.1.2.2.2.2.1, hk_.1.2.2.2.2.2.1, hk_.1.2.2.2.2.2.2⟩)); have n8_ := Aside0.mk (Kd.R_mono (ok' := fun k_ => some k_ ≠ (v685 : Value).ownBlock ∧ some k_ ≠ (.slice Ao42 t694.length co42 : Value).ownBlock ∧ some k_ ≠ (.slice Ao43 t697.length co43 : Value).ownBlock ∧ some k_ ≠ (v701 : Value).ownBlock ∧ some k_ ≠ (.slice Ao38 t690.length co38 : Value).ownBlock ∧ some k_ ≠ (.slice Ao67 t707.length co67 : Value).ownBlock ∧ some k_ ≠ (.slice Ao72 t715.length co72 : Value).ownBlock) (Kd.R_keptB (HO713.out) hkp (fun k_ hk_ hs_ => (hk_.2.2.1) hs_)) (fun k_ hk_ => ⟨hk_.1.1, hk_.1.2.1, hk_.1.2.2.1, hk_.1.2.2.2.1, hk_.1.2.2.2.2.1, hk_.1.2.2.2.2.2.1, hk_.1.2.2.2.2.2.2⟩)); have n9_ := Aside0.mk (Kd.R_mono (ok' := fun k_ => some k_ ≠ (v685 : Value).ownBlock ∧ some k_ ≠ (.slice Ao42 t694.length co42 : Value).ownBlock ∧ some k_ ≠ (.slice Ao43 t697.length co43 : Value).ownBlock ∧ some k_ ≠ (v701 : Value).ownBlock ∧ some k_ ≠ (.slice Ao38 t690.length co38 : Value).ownBlock ∧ some k_ ≠ (.slice Ao67 t707.length co67 : Value).ownBlock ∧ some k_ ≠ (.slice Ao70 t711.length co70 : Value).ownBlock) (Kd.R_keptB (HO717.out) hkp (fun k_ hk_ hs_ => (hk_.2.2.1) hs_)) (fun k_ hk_ => ⟨hk_.1.1, hk_.1.2.1, hk_.1.2.2.1, hk_.1.2.2.2.1, hk_.1.2.2.2.2.1, hk_.1.2.2.2.2.2.1, hk_.1.2.2.2.2.2.2⟩)); have n10_ := Aside0.mk (hb); clear HO_8; clear HO_11; clear HO_12; clear HO_13; clear HO_694002; clear BK671; clear BK693; clear HO709; clear HO713; clear HO717; clear HB; have HO_8 := n0_; have HO_11 := n1_; have HO_12 := n2_; have HO_13 := n3_; have HO_694002 := n4_; have BK671 := n5_; have BK693 := n6_; have HO709 := n7_; have HO713 := n8_; have HO717 := n9_; have HB := n10_; clear n0_ n1_ n2_ n3_ n4_ n5_ n6_ n7_ n8_ n9_ n10_; (try clear hb); (try clear hkp); (try clear hy0)))
          (try simp only [Act.put, List.setIfInBounds_toArray, List.set_cons_zero, List.set_cons_succ])
          go_cut [99] (fun v99 wc => ∃ (kq : Nat) (x99_63 : Bool), v99 = .bool x99_63 ∧ Aside0 (laws_FnExactAnswersOf.j1 kq l1 l2 t684 t687 t700 x99_63 a0_0 a0_1 l0_2 = some true) ∧ Aside0 (kq ≤ kj20) ∧ Aside0 (Kd.R (Kd.int .i64) 2 wc w.heap.size (fun k_ => some k_ ≠ (v701 : Value).ownBlock ∧ some k_ ≠ ((.slice Ao38 t690.length co38) : Value).ownBlock) v685 t684) ∧ Aside0 (Kd.R (Kd.int .i64) 2 wc w.heap.size (fun k_ => some k_ ≠ (v685 : Value).ownBlock ∧ some k_ ≠ ((.slice Ao38 t690.length co38) : Value).ownBlock) v701 t700) ∧ Aside0 (Kd.R (Kd.int .i64) 2 wc w.heap.size (fun k_ => some k_ ≠ (v685 : Value).ownBlock ∧ some k_ ≠ (v701 : Value).ownBlock) (.slice Ao38 t690.length co38) t720) ∧ Aside0 (wc.heap[gb671]? = some (.cells #[.int .i64 a0_0, .int .i64 a0_1, (.slice A0_2 l0_2.length c0_2)] 24 (0, 0))) ∧ Aside0 (wc.heap[gb693]? = some (.cells #[.int .i64 t688, .int .i64 t689, (.slice Ao38 t690.length co38)] 28 (0, 0))) ∧ Aside0 (Below w.heap.size w wc))
          case first =>
           have H := HC64.out
           clear HC64
           by_cases c78 : t723 < 0
           ·rw [if_pos c78] at H
            have c78b0 : decide (t723 < 0) = true := decide_eq_true c78
            clear c78
            (first | rw [c78b0] | (simp only [i64_w, i32_w]; rw [c78b0]) | skip)
            have H' := Aside0.mk H
            clear H
            go_wp2
            go_meet
            case rel => exact ⟨_, (true), (by first | rfl | (simp; done) | (simp [*]; done)), H', ⟨by have := HJ20.out; first | omega | exact Nat.le_refl _⟩, ⟨by (with_reducible repeat (first | apply Kd.R_alloc | apply Kd.R_drewN | apply Kd.R_drew)); exact Kd.R_mono HO_8.out (fun _ hk => ⟨hk.2.2.1, hk.2.2.2.1⟩)⟩, ⟨by (with_reducible repeat (first | apply Kd.R_alloc | apply Kd.R_drewN | apply Kd.R_drew)); exact Kd.R_mono HO_13.out (fun _ hk => ⟨hk.1, hk.2.2.2.1⟩)⟩, ⟨by (with_reducible repeat (first | apply Kd.R_alloc | apply Kd.R_drewN | apply Kd.R_drew)); exact Kd.R_mono HO_694002.out (fun _ hk => ⟨hk.1, hk.2.2.2.1⟩)⟩, ⟨by (with_reducible repeat (first | refine blk_drewN ?_ _ | refine blk_drew ?_ | refine blk_alloc ?_ _)); exact BK671.out⟩, ⟨by (with_reducible repeat (first | refine blk_drewN ?_ _ | refine blk_drew ?_ | refine blk_alloc ?_ _)); exact BK693.out⟩, ⟨by repeat (first | (with_reducible first | exact HB.out | apply below_alloc | apply pw_below_drewN | apply below_drew1 | refine below_set ?_ GE671.out | refine below_set ?_ GE693.out) | exact HB.out)⟩⟩
           ·rw [if_neg c78] at H
            have c78b0 : decide (t723 < 0) = false := decide_eq_false c78
            clear c78
            (first | rw [c78b0] | (simp only [i64_w, i32_w]; rw [c78b0]) | skip)
            replace H := Option.bind_eq_some_iff.mp H
            obtain ⟨t725, A790, H⟩ := H
            replace H : (if t725 = true then (laws_FnExactAnswersOf.j1 kj20 l1 l2 t684 t687 t700 (t703 != t687) a0_0 a0_1 l0_2) else (laws_FnExactAnswersOf.j1 kj20 l1 l2 t684 t687 t700 true a0_0 a0_1 l0_2)) = some true := H
            have A79 := Aside0.mk A790
            clear A790
            by_cases c80 : t725 = true
            ·subst c80
             have H1 : (laws_FnExactAnswersOf.j1 kj20 l1 l2 t684 t687 t700 (t703 != t687) a0_0 a0_1 l0_2) = some true := by rw [if_pos rfl] at H; exact H
             clear H
             have H := H1
             clear H1
             have H' := Aside0.mk H
             clear H
             obtain ⟨Ao81, co81, eo81⟩ := Kd.R_slice HO_13.out
             subst eo81
             obtain ⟨Ao82, co82, eo82⟩ := Kd.R_slice HO_8.out
             subst eo82
             go_wp2_with (first | (go_at_call 19; (with_reducible refine (laws_eqInt64S.calls kj20 _ _ t700 _ _ t684 true _ ?side1 ?side2 ?side3 ?side4 A79.out).mono ?_); (case side1 => repeat (first | exact (Kd.R_reads' HO_13.out).2.2 | (with_reducible refine Kd.C_alloc ?_ _) | (with_reducible refine Kd.C_drewN ?_ _) | (with_reducible refine Kd.C_drew ?_))); (case side2 => exact (Kd.R_reads' HO_13.out).2.1); (case side3 => repeat (first | exact (Kd.R_reads' HO_8.out).2.2 | (with_reducible refine Kd.C_alloc ?_ _) | (with_reducible refine Kd.C_drewN ?_ _) | (with_reducible refine Kd.C_drew ?_))); (case side4 => exact (Kd.R_reads' HO_8.out).2.1); rintro e w' ⟨rfl, ⟨nd, rfl⟩⟩))
             go_meet
             case rel => exact ⟨_, ((t703 != t687)), (by first | rfl | (simp; done) | (simp [*]; done)), H', ⟨by have := HJ20.out; first | omega | exact Nat.le_refl _⟩, ⟨by (with_reducible repeat (first | apply Kd.R_alloc | apply Kd.R_drewN | apply Kd.R_drew)); exact Kd.R_mono HO_8.out (fun _ hk => ⟨hk.2.2.1, hk.2.2.2.1⟩)⟩, ⟨by (with_reducible repeat (first | apply Kd.R_alloc | apply Kd.R_drewN | apply Kd.R_drew)); exact Kd.R_mono HO_13.out (fun _ hk => ⟨hk.1, hk.2.2.2.1⟩)⟩, ⟨by (with_reducible repeat (first | apply Kd.R_alloc | apply Kd.R_drewN | apply Kd.R_drew)); exact Kd.R_mono HO_694002.out (fun _ hk => ⟨hk.1, hk.2.2.2.1⟩)⟩, ⟨by (with_reducible repeat (first | refine blk_drewN ?_ _ | refine blk_drew ?_ | refine blk_alloc ?_ _)); exact BK671.out⟩, ⟨by (with_reducible repeat (first | refine blk_drewN ?_ _ | refine blk_drew ?_ | refine blk_alloc ?_ _)); exact BK693.out⟩, ⟨by repeat (first | (with_reducible first | exact HB.out | apply below_alloc | apply pw_below_drewN | apply below_drew1 | refine below_set ?_ GE671.out | refine below_set ?_ GE693.out) | exact HB.out)⟩⟩
            ·replace c80 := Bool.eq_false_iff.mpr c80
             subst c80
             have H1 : (laws_FnExactAnswersOf.j1 kj20 l1 l2 t684 t687 t700 true a0_0 a0_1 l0_2) = some true := by rw [if_neg (show ¬ (false = true) by decide)] at H; exact H
             clear H
             have H := H1
             clear H1
             have H' := Aside0.mk H
             clear H
             obtain ⟨Ao83, co83, eo83⟩ := Kd.R_slice HO_13.out
             subst eo83
             obtain ⟨Ao84, co84, eo84⟩ := Kd.R_slice HO_8.out
             subst eo84
             go_wp2_with (first | (go_at_call 19; (with_reducible refine (laws_eqInt64S.calls kj20 _ _ t700 _ _ t684 false _ ?side1 ?side2 ?side3 ?side4 A79.out).mono ?_); (case side1 => repeat (first | exact (Kd.R_reads' HO_13.out).2.2 | (with_reducible refine Kd.C_alloc ?_ _) | (with_reducible refine Kd.C_drewN ?_ _) | (with_reducible refine Kd.C_drew ?_))); (case side2 => exact (Kd.R_reads' HO_13.out).2.1); (case side3 => repeat (first | exact (Kd.R_reads' HO_8.out).2.2 | (with_reducible refine Kd.C_alloc ?_ _) | (with_reducible refine Kd.C_drewN ?_ _) | (with_reducible refine Kd.C_drew ?_))); (case side4 => exact (Kd.R_reads' HO_8.out).2.1); rintro e w' ⟨rfl, ⟨nd, rfl⟩⟩))
             go_meet
             case rel => exact ⟨_, (true), (by first | rfl | (simp; done) | (simp [*]; done)), H', ⟨by have := HJ20.out; first | omega | exact Nat.le_refl _⟩, ⟨by (with_reducible repeat (first | apply Kd.R_alloc | apply Kd.R_drewN | apply Kd.R_drew)); exact Kd.R_mono HO_8.out (fun _ hk => ⟨hk.2.2.1, hk.2.2.2.1⟩)⟩, ⟨by (with_reducible repeat (first | apply Kd.R_alloc | apply Kd.R_drewN | apply Kd.R_drew)); exact Kd.R_mono HO_13.out (fun _ hk => ⟨hk.1, hk.2.2.2.1⟩)⟩, ⟨by (with_reducible repeat (first | apply Kd.R_alloc | apply Kd.R_drewN | apply Kd.R_drew)); exact Kd.R_mono HO_694002.out (fun _ hk => ⟨hk.1, hk.2.2.2.1⟩)⟩, ⟨by (with_reducible repeat (first | refine blk_drewN ?_ _ | refine blk_drew ?_ | refine blk_alloc ?_ _)); exact BK671.out⟩, ⟨by (with_reducible repeat (first | refine blk_drewN ?_ _ | refine blk_drew ?_ | refine blk_alloc ?_ _)); exact BK693.out⟩, ⟨by repeat (first | (with_reducible first | exact HB.out | apply below_alloc | apply pw_below_drewN | apply below_drew1 | refine below_set ?_ GE671.out | refine below_set ?_ GE693.out) | exact HB.out)⟩⟩
          case rest =>
           clear HC64
           (try clear c1); (try clear c2); (try clear p2); (try clear c3); (try clear c4); (try clear c4b0); (try clear c4b1); (try clear c5); (try clear c6); (try clear c6b0); (try clear c6b1); (try clear c7); (try clear c8); (try clear c9); (try clear c9b0); (try clear c15); (try clear c17); (try clear c19); (try clear c20); (try clear c21); (try clear c22); (try clear c25); (try clear c36); (try clear c37); (try clear c46); (try clear c51); (try clear c54); (try clear c57); (try clear c60); (try clear c73); (try clear c78); (try clear c78b0); (try clear c80); (try clear hcz11_0); (try clear hcz11_1); (try clear hcz11_2); (try clear hcz23_0); (try clear hcz23_1); (try clear hcz23_2); (try clear hcz25_0); (try clear hcz25_1); (try clear hcz25_2); (try clear hcz33_0); (try clear hcz33_1); (try clear hcz33_2); (try clear hcz37_0); (try clear hcz37_1); (try clear hcz37_2); (try clear hcz41_0); (try clear hcz41_1); (try clear hcz41_2); (try clear hcz74_0); (try clear hcz74_1); (try clear hcz74_2); (try clear hfz11_0); (try clear hfz11_1); (try clear hfz11_2); (try clear hfz23_0); (try clear hfz23_1); (try clear hfz23_2); (try clear hfz25_0); (try clear hfz25_1); (try clear hfz25_2); (try clear hfz33_0); (try clear hfz33_1); (try clear hfz33_2); (try clear hfz37_0); (try clear hfz37_1); (try clear hfz37_2); (try clear hfz41_0); (try clear hfz41_1); (try clear hfz41_2); (try clear hfz74_0); (try clear hfz74_1); (try clear hfz74_2); (try clear p2)
           obtain ⟨kq, x99_63, rfl, HA, HJ63, HO_8, HO_13, HO_694002, BK671, BK693, HB⟩ := hcut
           have hl694002_63 := (Kd.R_reads' HO_694002.out).1
           rw [hl694002_63] at HO_694002
           (try simp only [hl694002_63])
           (try simp only [hl694002_63] at BK671)
           (try simp only [hl694002_63] at BK693)
           (try simp only [hl694002_63] at HO_8)
           (try simp only [hl694002_63] at HO_13)
           cases kq with
           | zero => exact absurd HA.out (by simp [laws_FnExactAnswersOf.j1])
           | succ kj63 =>
            have H := HA.out
            clear HA
            simp only [laws_FnExactAnswersOf.j1] at H
            by_cases c85 : x99_63 = true
            ·subst c85
             have H1 : (some false) = some true := by rw [if_pos rfl] at H; exact H
             clear H
             have H := H1
             clear H1
             exact absurd H (by simp)
            ·replace c85 := Bool.eq_false_iff.mpr c85
             subst c85
             have H1 : ((laws_markInt64S.f kj63 t700 1).bind fun bt726 => ((laws_heldInt64S.f kj63 bt726.2 1).bind fun t728 => (if t728 < 0 then (some false) else (if t728 = bt726.1 then ((laws_toSea.f kj63 a0_0 a0_1 l0_2).bind fun bt729 => ((laws_toInt64S.f kj63 l1).bind fun t734 => ((laws_toInt64S.f kj63 l2).bind fun t737 => ((impl_AnswersOf.f kj63 bt729.1 bt729.2.1 bt729.2.2 t734 t737).bind fun bt740 => ((laws_eqInt64S.f kj63 bt740.1 t684).bind fun t744 => (if t744 = true then (laws_FnExactAnswersOf.j2 kj63 bt726.2 bt726.1 (bt740.2 != t687)) else (laws_FnExactAnswersOf.j2 kj63 bt726.2 bt726.1 true))))))) else (some false))))) = some true := by rw [if_neg (show ¬ (false = true) by decide)] at H; exact H
             clear H
             have H := H1
             clear H1
             replace H := Option.bind_eq_some_iff.mp H
             obtain ⟨⟨t726, t727⟩, A860, H⟩ := H
             replace H : ((laws_heldInt64S.f kj63 t727 1).bind fun t728 => (if t728 < 0 then (some false) else (if t728 = t726 then ((laws_toSea.f kj63 a0_0 a0_1 l0_2).bind fun bt729 => ((laws_toInt64S.f kj63 l1).bind fun t734 => ((laws_toInt64S.f kj63 l2).bind fun t737 => ((impl_AnswersOf.f kj63 bt729.1 bt729.2.1 bt729.2.2 t734 t737).bind fun bt740 => ((laws_eqInt64S.f kj63 bt740.1 t684).bind fun t744 => (if t744 = true then (laws_FnExactAnswersOf.j2 kj63 t727 t726 (bt740.2 != t687)) else (laws_FnExactAnswersOf.j2 kj63 t727 t726 true))))))) else (some false)))) = some true := H
             have A86 := Aside0.mk A860
             clear A860
             replace H := Option.bind_eq_some_iff.mp H
             obtain ⟨t728, A870, H⟩ := H
             replace H : (if t728 < 0 then (some false) else (if t728 = t726 then ((laws_toSea.f kj63 a0_0 a0_1 l0_2).bind fun bt729 => ((laws_toInt64S.f kj63 l1).bind fun t734 => ((laws_toInt64S.f kj63 l2).bind fun t737 => ((impl_AnswersOf.f kj63 bt729.1 bt729.2.1 bt729.2.2 t734 t737).bind fun bt740 => ((laws_eqInt64S.f kj63 bt740.1 t684).bind fun t744 => (if t744 = true then (laws_FnExactAnswersOf.j2 kj63 t727 t726 (bt740.2 != t687)) else (laws_FnExactAnswersOf.j2 kj63 t727 t726 true))))))) else (some false))) = some true := H
             have A87 := Aside0.mk A870
             clear A870
             by_cases c88 : t728 < 0
             ·rw [if_pos c88] at H
              have c88b0 : decide (t728 < 0) = true := decide_eq_true c88
              clear c88
              exact absurd H (by simp)
             ·rw [if_neg c88] at H
              have c88b0 : decide (t728 < 0) = false := decide_eq_false c88
              clear c88
              by_cases c91 : t728 = t726
              ·rw [if_pos c91] at H
               have c91b0 : (t728 == t726) = true := beq_iff_eq.mpr c91
               have c91b1 : (t728 != t726) = false := bne_eq_false_iff_eq.mpr c91
               clear c91
               replace H := Option.bind_eq_some_iff.mp H
               obtain ⟨⟨t729, t730, t731⟩, A920, H⟩ := H
               replace H : ((laws_toInt64S.f kj63 l1).bind fun t734 => ((laws_toInt64S.f kj63 l2).bind fun t737 => ((impl_AnswersOf.f kj63 t729 t730 t731 t734 t737).bind fun bt740 => ((laws_eqInt64S.f kj63 bt740.1 t684).bind fun t744 => (if t744 = true then (laws_FnExactAnswersOf.j2 kj63 t727 t726 (bt740.2 != t687)) else (laws_FnExactAnswersOf.j2 kj63 t727 t726 true)))))) = some true := H
               have A92 := Aside0.mk A920
               clear A920
               replace H := Option.bind_eq_some_iff.mp H
               obtain ⟨t734, A930, H⟩ := H
               replace H : ((laws_toInt64S.f kj63 l2).bind fun t737 => ((impl_AnswersOf.f kj63 t729 t730 t731 t734 t737).bind fun bt740 => ((laws_eqInt64S.f kj63 bt740.1 t684).bind fun t744 => (if t744 = true then (laws_FnExactAnswersOf.j2 kj63 t727 t726 (bt740.2 != t687)) else (laws_FnExactAnswersOf.j2 kj63 t727 t726 true))))) = some true := H
               have A93 := Aside0.mk A930
               clear A930
               replace H := Option.bind_eq_some_iff.mp H
               obtain ⟨t737, A940, H⟩ := H
               replace H : ((impl_AnswersOf.f kj63 t729 t730 t731 t734 t737).bind fun bt740 => ((laws_eqInt64S.f kj63 bt740.1 t684).bind fun t744 => (if t744 = true then (laws_FnExactAnswersOf.j2 kj63 t727 t726 (bt740.2 != t687)) else (laws_FnExactAnswersOf.j2 kj63 t727 t726 true)))) = some true := H
               have A94 := Aside0.mk A940
               clear A940
               replace H := Option.bind_eq_some_iff.mp H
               obtain ⟨⟨t740, t743⟩, A950, H⟩ := H
               replace H : ((laws_eqInt64S.f kj63 t740 t684).bind fun t744 => (if t744 = true then (laws_FnExactAnswersOf.j2 kj63 t727 t726 (t743 != t687)) else (laws_FnExactAnswersOf.j2 kj63 t727 t726 true))) = some true := H
               have A95 := Aside0.mk A950
               clear A950
               have HC96 := Aside0.mk H
               clear H
               obtain ⟨Ao97, co97, eo97⟩ := Kd.R_slice HO_13.out
               subst eo97
               go_upto_region 37 with (first | ((with_reducible refine gate_callee (f := 22) rfl ?_); refine goesA_ (some 102) rfl rfl Try.func22 (by kernel_rfl) rfl #[.slice Ao97 t700.length co97, .int .i64 1] rfl ?_; (with_reducible refine (laws_markInt64S.calls kj63 (fun k_ => some k_ = (.slice Ao97 t700.length co97 : Value).ownBlock) (.slice Ao97 t700.length co97) t700 1 t726 t727 w _ ?side1 ?side2 A86.out).mono ?_); (case side1 => repeat (first | (with_reducible first | exact HB.out | apply below_alloc | apply pw_below_drewN | apply below_drew1 | refine below_set ?_ GE671.out | refine below_set ?_ GE693.out) | exact HB.out)); (case side2 => exact Kd.R_tight rfl HO_13.out); rintro e w98 ⟨rfl, hy0, hb, hkp⟩; refine ⟨_, rfl, ?_⟩; have n0_ := Aside0.mk (Kd.R_mono (ok' := fun k_ => some k_ ≠ (.slice Ao97 t700.length co97 : Value).ownBlock ∧ some k_ ≠ (.slice Ao38 t720.length co38 : Value).ownBlock) (Kd.R_keptB (HO_8.out) hkp (fun k_ hk_ hs_ => (hk_.1) hs_)) (fun k_ hk_ => ⟨hk_.1.1, hk_.1.2⟩)); have n1_ := Aside0.mk (Kd.R_reok rfl hy0 (fun k_ e_ => HO_13.out.1 k_ e_)); have n2_ := Aside0.mk (Kd.R_mono (ok' := fun k_ => some k_ ≠ (v685 : Value).ownBlock ∧ some k_ ≠ (.slice Ao97 t700.length co97 : Value).ownBlock) (Kd.R_keptB (HO_694002.out) hkp (fun k_ hk_ hs_ => (hk_.2) hs_)) (fun k_ hk_ => ⟨hk_.1.1, hk_.1.2⟩)); have n3_ := Aside0.mk (blk_kept (by (with_reducible repeat (first | refine blk_drewN ?_ _ | refine blk_drew ?_ | refine blk_alloc ?_ _)); exact BK671.out) hkp (fun hs_ => (fun e_ => (Kd.R_ne HO_13.out BK671.out (by decide)) e_) hs_)); have n4_ := Aside0.mk (blk_kept (by (with_reducible repeat (first | refine blk_drewN ?_ _ | refine blk_drew ?_ | refine blk_alloc ?_ _)); exact BK693.out) hkp (fun hs_ => (fun e_ => (Kd.R_ne HO_13.out BK693.out (by decide)) e_) hs_)); have n5_ := Aside0.mk (hb); clear HO_8; clear HO_13; clear HO_694002; clear BK671; clear BK693; clear HB; have HO_8 := n0_; have HO_13 := n1_; have HO_694002 := n2_; have BK671 := n3_; have BK693 := n4_; have HB := n5_; clear n0_ n1_ n2_ n3_ n4_ n5_; (try clear hb); (try clear hkp); (try clear hy0)) | ((with_reducible refine gate_callee (f := 23) rfl ?_); refine goesL_ (some 105) rfl rfl Try.func23 (by kernel_rfl) rfl #[.slice Ao97 t727.length co97, .int .i64 1] rfl (by (try simp only [List.map_toArray, List.map_cons, List.map_nil]); first | done | (rw [show t727.length = t700.length from (Kd.R_reads' HO_13.out).1.symm] <;> rfl) | rfl | (simp only [List.length_drop, List.length_take]; rfl)) ?_; (with_reducible refine (laws_heldInt64S.calls kj63 _ _ t727 1 t728 _ ?side1 ?side2 A87.out).mono ?_); (case side1 => repeat (first | exact (Kd.R_reads' HO_13.out).2.2 | (with_reducible refine Kd.C_alloc ?_ _) | (with_reducible refine Kd.C_drewN ?_ _) | (with_reducible refine Kd.C_drew ?_))); (case side2 => rw [show t727.length = t700.length from (Kd.R_reads' HO_13.out).1.symm]; exact (Kd.R_reads' HO_13.out).2.1); rintro e w' ⟨rfl, ⟨nd, rfl⟩⟩; refine ⟨_, rfl, ?_⟩; have hnb99 := NB671_693.out; have hnc99 := NB693_671.out; have hcz100_0 : w98.cell? ⟨gb671, 0, none⟩ = some (.int .i64 a0_0) := (blk_cell BK671.out 0).trans rfl; have hcz100_1 : w98.cell? ⟨gb671, 1, none⟩ = some (.int .i64 a0_1) := (blk_cell BK671.out 1).trans rfl; have hcz100_2 : w98.cell? ⟨gb671, 2, none⟩ = some (.slice A0_2 l0_2.length c0_2) := (blk_cell BK671.out 2).trans rfl; have hfz100_0 := blk_frozen BK671.out 0; have hfz100_1 := blk_frozen BK671.out 1; have hfz100_2 := blk_frozen BK671.out 2) | ((with_reducible refine gate_callee (f := 17) rfl ?_); refine goesA_ (some 113) rfl rfl Try.func17 (by kernel_rfl) rfl #[.agg #[.int .i64 a0_0, .int .i64 a0_1, .slice A0_2 l0_2.length c0_2]] rfl ?_; (with_reducible refine (laws_toSea.calls kj63 a0_0 a0_1 _ _ l0_2 t729 t730 t731 _ ?side1 ?side2 A92.out).mono ?_); (case side1 => repeat (first | exact (Kd.C_below HR0_2.out (by repeat (first | (with_reducible first | exact HB.out | apply below_alloc | apply pw_below_drewN | apply below_drew1 | refine below_set ?_ GE671.out | refine below_set ?_ GE693.out) | exact HB.out))) | (with_reducible refine Kd.C_alloc ?_ _) | (with_reducible refine Kd.C_drewN ?_ _) | (with_reducible refine Kd.C_drew ?_))); (case side2 => exact HC0_2.out); rintro e w101 ⟨v732, rfl, ho0, hb⟩; refine ⟨_, rfl, ?_⟩; have n0_ := Aside0.mk (Kd.R_elder' (by (with_reducible repeat (first | apply Kd.R_alloc | apply Kd.R_drewN | apply Kd.R_drew)); exact HO_8.out) (Kd.R_base ho0) hb); have n1_ := Aside0.mk (Kd.R_elder' (by (with_reducible repeat (first | apply Kd.R_alloc | apply Kd.R_drewN | apply Kd.R_drew)); exact HO_13.out) (Kd.R_base ho0) hb); have n2_ := Aside0.mk (Kd.R_elder' (by (with_reducible repeat (first | apply Kd.R_alloc | apply Kd.R_drewN | apply Kd.R_drew)); exact HO_694002.out) (Kd.R_base ho0) hb); have n3_ := Aside0.mk (Kd.R_lower (Kd.R_new' (Kd.R_new' (Kd.R_new' ho0 (Kd.R_lt (by (with_reducible repeat (first | apply Kd.R_alloc | apply Kd.R_drewN | apply Kd.R_drew)); exact HO_8.out))) (Kd.R_lt (by (with_reducible repeat (first | apply Kd.R_alloc | apply Kd.R_drewN | apply Kd.R_drew)); exact HO_13.out))) (Kd.R_lt (by (with_reducible repeat (first | apply Kd.R_alloc | apply Kd.R_drewN | apply Kd.R_drew)); exact HO_694002.out))) (below_size (by repeat (first | (with_reducible first | exact HB.out | apply below_alloc | apply pw_below_drewN | apply below_drew1 | refine below_set ?_ GE671.out | refine below_set ?_ GE693.out) | exact HB.out)))); have n4_ := Aside0.mk (blk_below (g := gb671) (o := .cells #[.int .i64 a0_0, .int .i64 a0_1, .slice A0_2 l0_2.length c0_2] 24 (0, 0)) (by (with_reducible repeat (first | refine blk_drewN ?_ _ | refine blk_drew ?_ | refine blk_alloc ?_ _)); exact BK671.out) hb); have n5_ := Aside0.mk (blk_below (g := gb693) (o := .cells #[.int .i64 t688, .int .i64 t689, .slice Ao38 t720.length co38] 28 (0, 0)) (by (with_reducible repeat (first | refine blk_drewN ?_ _ | refine blk_drew ?_ | refine blk_alloc ?_ _)); exact BK693.out) hb); have n6_ := Aside0.mk (below_step (by repeat (first | (with_reducible first | exact HB.out | apply below_alloc | apply pw_below_drewN | apply below_drew1 | refine below_set ?_ GE671.out | refine below_set ?_ GE693.out) | exact HB.out)) hb); clear HO_8; clear HO_13; clear HO_694002; clear BK671; clear BK693; clear HB; have HO_8 := n0_; have HO_13 := n1_; have HO_694002 := n2_; have HO733 := n3_; have BK671 := n4_; have BK693 := n5_; have HB := n6_; clear n0_ n1_ n2_ n3_ n4_ n5_ n6_; (try clear hb); (try clear hb2); (try clear hk); (try clear hi); (try clear ho0)) | ((with_reducible refine gate_callee (f := 25) rfl ?_); refine goesA_ (some 115) rfl rfl Try.func25 (by kernel_rfl) rfl #[.slice A1 l1.length c1] rfl ?_; (with_reducible refine (laws_toInt64S.calls kj63 _ _ l1 t734 _ ?side1 ?side2 A93.out).mono ?_); (case side1 => repeat (first | exact (Kd.C_below HR1.out HB.out) | (with_reducible refine Kd.C_alloc ?_ _) | (with_reducible refine Kd.C_drewN ?_ _) | (with_reducible refine Kd.C_drew ?_))); (case side2 => exact HC1.out); rintro e w102 ⟨v735, rfl, ho0, hb⟩; refine ⟨_, rfl, ?_⟩; have n0_ := Aside0.mk (Kd.R_elder' (by (with_reducible repeat (first | apply Kd.R_alloc | apply Kd.R_drewN | apply Kd.R_drew)); exact HO_8.out) (Kd.R_base ho0) hb); have n1_ := Aside0.mk (Kd.R_elder' (by (with_reducible repeat (first | apply Kd.R_alloc | apply Kd.R_drewN | apply Kd.R_drew)); exact HO_13.out) (Kd.R_base ho0) hb); have n2_ := Aside0.mk (Kd.R_elder' (by (with_reducible repeat (first | apply Kd.R_alloc | apply Kd.R_drewN | apply Kd.R_drew)); exact HO_694002.out) (Kd.R_base ho0) hb); have n3_ := Aside0.mk (Kd.R_elder' (by (with_reducible repeat (first | apply Kd.R_alloc | apply Kd.R_drewN | apply Kd.R_drew)); exact HO733.out) (Kd.R_base ho0) hb); have n4_ := Aside0.mk (Kd.R_lower (Kd.R_new' (Kd.R_new' (Kd.R_new' (Kd.R_new' ho0 (Kd.R_lt (by (with_reducible repeat (first | apply Kd.R_alloc | apply Kd.R_drewN | apply Kd.R_drew)); exact HO_8.out))) (Kd.R_lt (by (with_reducible repeat (first | apply Kd.R_alloc | apply Kd.R_drewN | apply Kd.R_drew)); exact HO_13.out))) (Kd.R_lt (by (with_reducible repeat (first | apply Kd.R_alloc | apply Kd.R_drewN | apply Kd.R_drew)); exact HO_694002.out))) (Kd.R_lt (by (with_reducible repeat (first | apply Kd.R_alloc | apply Kd.R_drewN | apply Kd.R_drew)); exact HO733.out))) (below_size (by repeat (first | (with_reducible first | exact HB.out | apply below_alloc | apply pw_below_drewN | apply below_drew1 | refine below_set ?_ GE671.out | refine below_set ?_ GE693.out) | exact HB.out)))); have n5_ := Aside0.mk (blk_below (g := gb671) (o := .cells #[.int .i64 a0_0, .int .i64 a0_1, .slice A0_2 l0_2.length c0_2] 24 (0, 0)) (by (with_reducible repeat (first | refine blk_drewN ?_ _ | refine blk_drew ?_ | refine blk_alloc ?_ _)); exact BK671.out) hb); have n6_ := Aside0.mk (blk_below (g := gb693) (o := .cells #[.int .i64 t688, .int .i64 t689, .slice Ao38 t720.length co38] 28 (0, 0)) (by (with_reducible repeat (first | refine blk_drewN ?_ _ | refine blk_drew ?_ | refine blk_alloc ?_ _)); exact BK693.out) hb); have n7_ := Aside0.mk (below_step (by repeat (first | (with_reducible first | exact HB.out | apply below_alloc | apply pw_below_drewN | apply below_drew1 | refine below_set ?_ GE671.out | refine below_set ?_ GE693.out) | exact HB.out)) hb); clear HO_8; clear HO_13; clear HO_694002; clear HO733; clear BK671; clear BK693; clear HB; have HO_8 := n0_; have HO_13 := n1_; have HO_694002 := n2_; have HO733 := n3_; have HO736 := n4_; have BK671 := n5_; have BK693 := n6_; have HB := n7_; clear n0_ n1_ n2_ n3_ n4_ n5_ n6_ n7_; (try clear hb); (try clear hb2); (try clear hk); (try clear hi); (try clear ho0)) | ((with_reducible refine gate_callee (f := 25) rfl ?_); refine goesA_ (some 117) rfl rfl Try.func25 (by kernel_rfl) rfl #[.slice A2 l2.length c2] rfl ?_; (with_reducible refine (laws_toInt64S.calls kj63 _ _ l2 t737 _ ?side1 ?side2 A94.out).mono ?_); (case side1 => repeat (first | exact (Kd.C_below HR2.out HB.out) | (with_reducible refine Kd.C_alloc ?_ _) | (with_reducible refine Kd.C_drewN ?_ _) | (with_reducible refine Kd.C_drew ?_))); (case side2 => exact HC2.out); rintro e w103 ⟨v738, rfl, ho0, hb⟩; refine ⟨_, rfl, ?_⟩; have n0_ := Aside0.mk (Kd.R_elder' (by (with_reducible repeat (first | apply Kd.R_alloc | apply Kd.R_drewN | apply Kd.R_drew)); exact HO_8.out) (Kd.R_base ho0) hb); have n1_ := Aside0.mk (Kd.R_elder' (by (with_reducible repeat (first | apply Kd.R_alloc | apply Kd.R_drewN | apply Kd.R_drew)); exact HO_13.out) (Kd.R_base ho0) hb); have n2_ := Aside0.mk (Kd.R_elder' (by (with_reducible repeat (first | apply Kd.R_alloc | apply Kd.R_drewN | apply Kd.R_drew)); exact HO_694002.out) (Kd.R_base ho0) hb); have n3_ := Aside0.mk (Kd.R_elder' (by (with_reducible repeat (first | apply Kd.R_alloc | apply Kd.R_drewN | apply Kd.R_drew)); exact HO733.out) (Kd.R_base ho0) hb); have n4_ := Aside0.mk (Kd.R_elder' (by (with_reducible repeat (first | apply Kd.R_alloc | apply Kd.R_drewN | apply Kd.R_drew)); exact HO736.out) (Kd.R_base ho0) hb); have n5_ := Aside0.mk (Kd.R_lower (Kd.R_new' (Kd.R_new' (Kd.R_new' (Kd.R_new' (Kd.R_new' ho0 (Kd.R_lt (by (with_reducible repeat (first | apply Kd.R_alloc | apply Kd.R_drewN | apply Kd.R_drew)); exact HO_8.out))) (Kd.R_lt (by (with_reducible repeat (first | apply Kd.R_alloc | apply Kd.R_drewN | apply Kd.R_drew)); exact HO_13.out))) (Kd.R_lt (by (with_reducible repeat (first | apply Kd.R_alloc | apply Kd.R_drewN | apply Kd.R_drew)); exact HO_694002.out))) (Kd.R_lt (by (with_reducible repeat (first | apply Kd.R_alloc | apply Kd.R_drewN | apply Kd.R_drew)); exact HO733.out))) (Kd.R_lt (by (with_reducible repeat (first | apply Kd.R_alloc | apply Kd.R_drewN | apply Kd.R_drew)); exact HO736.out))) (below_size (by repeat (first | (with_reducible first | exact HB.out | apply below_alloc | apply pw_below_drewN | apply below_drew1 | refine below_set ?_ GE671.out | refine below_set ?_ GE693.out) | exact HB.out)))); have n6_ := Aside0.mk (blk_below (g := gb671) (o := .cells #[.int .i64 a0_0, .int .i64 a0_1, .slice A0_2 l0_2.length c0_2] 24 (0, 0)) (by (with_reducible repeat (first | refine blk_drewN ?_ _ | refine blk_drew ?_ | refine blk_alloc ?_ _)); exact BK671.out) hb); have n7_ := Aside0.mk (blk_below (g := gb693) (o := .cells #[.int .i64 t688, .int .i64 t689, .slice Ao38 t720.length co38] 28 (0, 0)) (by (with_reducible repeat (first | refine blk_drewN ?_ _ | refine blk_drew ?_ | refine blk_alloc ?_ _)); exact BK693.out) hb); have n8_ := Aside0.mk (below_step (by repeat (first | (with_reducible first | exact HB.out | apply below_alloc | apply pw_below_drewN | apply below_drew1 | refine below_set ?_ GE671.out | refine below_set ?_ GE693.out) | exact HB.out)) hb); clear HO_8; clear HO_13; clear HO_694002; clear HO733; clear HO736; clear BK671; clear BK693; clear HB; have HO_8 := n0_; have HO_13 := n1_; have HO_694002 := n2_; have HO733 := n3_; have HO736 := n4_; have HO739 := n5_; have BK671 := n6_; have BK693 := n7_; have HB := n8_; clear n0_ n1_ n2_ n3_ n4_ n5_ n6_ n7_ n8_; (try clear hb); (try clear hb2); (try clear hk); (try clear hi); (try clear ho0); obtain ⟨Ao104, co104, eo104⟩ := Kd.R_slice HO733.out; subst eo104; obtain ⟨Ao105, co105, eo105⟩ := Kd.R_slice HO736.out; subst eo105; obtain ⟨Ao106, co106, eo106⟩ := Kd.R_slice HO739.out; subst eo106) | ((with_reducible refine gate_callee (f := 37) rfl ?_); refine goesA_ (some 118) rfl rfl Try.func37 (by kernel_rfl) rfl #[.agg #[.int .i64 t729, .int .i64 t730, .slice Ao104 t731.length co104], .slice Ao105 t734.length co105, .slice Ao106 t737.length co106] rfl ?_; (with_reducible refine (impl_AnswersOf.calls kj63 t729 t730 _ _ t731 _ _ t734 _ _ t737 t740 t743 _ ?side1 ?side2 ?side3 ?side4 ?side5 ?side6 A95.out).mono ?_); (case side1 => repeat (first | exact (Kd.R_reads' HO733.out).2.2 | (with_reducible refine Kd.C_alloc ?_ _) | (with_reducible refine Kd.C_drewN ?_ _) | (with_reducible refine Kd.C_drew ?_))); (case side2 => exact (Kd.R_reads' HO733.out).2.1); (case side3 => repeat (first | exact (Kd.R_reads' HO736.out).2.2 | (with_reducible refine Kd.C_alloc ?_ _) | (with_reducible refine Kd.C_drewN ?_ _) | (with_reducible refine Kd.C_drew ?_))); (case side4 => exact (Kd.R_reads' HO736.out).2.1); (case side5 => repeat (first | exact (Kd.R_reads' HO739.out).2.2 | (with_reducible refine Kd.C_alloc ?_ _) | (with_reducible refine Kd.C_drewN ?_ _) | (with_reducible refine Kd.C_drew ?_))); (case side6 => exact (Kd.R_reads' HO739.out).2.1); rintro e w107 ⟨v741, rfl, ho0, hb⟩; refine ⟨_, rfl, ?_⟩; have n0_ := Aside0.mk (Kd.R_elder' (by (with_reducible repeat (first | apply Kd.R_alloc | apply Kd.R_drewN | apply Kd.R_drew)); exact HO_8.out) (Kd.R_base ho0) hb); have n1_ := Aside0.mk (Kd.R_elder' (by (with_reducible repeat (first | apply Kd.R_alloc | apply Kd.R_drewN | apply Kd.R_drew)); exact HO_13.out) (Kd.R_base ho0) hb); have n2_ := Aside0.mk (Kd.R_elder' (by (with_reducible repeat (first | apply Kd.R_alloc | apply Kd.R_drewN | apply Kd.R_drew)); exact HO_694002.out) (Kd.R_base ho0) hb); have n3_ := Aside0.mk (Kd.R_elder' (by (with_reducible repeat (first | apply Kd.R_alloc | apply Kd.R_drewN | apply Kd.R_drew)); exact HO733.out) (Kd.R_base ho0) hb); have n4_ := Aside0.mk (Kd.R_elder' (by (with_reducible repeat (first | apply Kd.R_alloc | apply Kd.R_drewN | apply Kd.R_drew)); exact HO736.out) (Kd.R_base ho0) hb); have n5_ := Aside0.mk (Kd.R_elder' (by (with_reducible repeat (first | apply Kd.R_alloc | apply Kd.R_drewN | apply Kd.R_drew)); exact HO739.out) (Kd.R_base ho0) hb); have n6_ := Aside0.mk (Kd.R_lower (Kd.R_new' (Kd.R_new' (Kd.R_new' (Kd.R_new' (Kd.R_new' (Kd.R_new' ho0 (Kd.R_lt (by (with_reducible repeat (first | apply Kd.R_alloc | apply Kd.R_drewN | apply Kd.R_drew)); exact HO_8.out))) (Kd.R_lt (by (with_reducible repeat (first | apply Kd.R_alloc | apply Kd.R_drewN | apply Kd.R_drew)); exact HO_13.out))) (Kd.R_lt (by (with_reducible repeat (first | apply Kd.R_alloc | apply Kd.R_drewN | apply Kd.R_drew)); exact HO_694002.out))) (Kd.R_lt (by (with_reducible repeat (first | apply Kd.R_alloc | apply Kd.R_drewN | apply Kd.R_drew)); exact HO733.out))) (Kd.R_lt (by (with_reducible repeat (first | apply Kd.R_alloc | apply Kd.R_drewN | apply Kd.R_drew)); exact HO736.out))) (Kd.R_lt (by (with_reducible repeat (first | apply Kd.R_alloc | apply Kd.R_drewN | apply Kd.R_drew)); exact HO739.out))) (below_size (by repeat (first | (with_reducible first | exact HB.out | apply below_alloc | apply pw_below_drewN | apply below_drew1 | refine below_set ?_ GE671.out | refine below_set ?_ GE693.out) | exact HB.out)))); have n7_ := Aside0.mk (blk_below (g := gb671) (o := .cells #[.int .i64 a0_0, .int .i64 a0_1, .slice A0_2 l0_2.length c0_2] 24 (0, 0)) (by (with_reducible repeat (first | refine blk_drewN ?_ _ | refine blk_drew ?_ | refine blk_alloc ?_ _)); exact BK671.out) hb); have n8_ := Aside0.mk (blk_below (g := gb693) (o := .cells #[.int .i64 t688, .int .i64 t689, .slice Ao38 t720.length co38] 28 (0, 0)) (by (with_reducible repeat (first | refine blk_drewN ?_ _ | refine blk_drew ?_ | refine blk_alloc ?_ _)); exact BK693.out) hb); have n9_ := Aside0.mk (below_step (by repeat (first | (with_reducible first | exact HB.out | apply below_alloc | apply pw_below_drewN | apply below_drew1 | refine below_set ?_ GE671.out | refine below_set ?_ GE693.out) | exact HB.out)) hb); clear HO_8; clear HO_13; clear HO_694002; clear HO733; clear HO736; clear HO739; clear BK671; clear BK693; clear HB; have HO_8 := n0_; have HO_13 := n1_; have HO_694002 := n2_; have HO733 := n3_; have HO736 := n4_; have HO739 := n5_; have HO742 := n6_; have BK671 := n7_; have BK693 := n8_; have HB := n9_; clear n0_ n1_ n2_ n3_ n4_ n5_ n6_ n7_ n8_ n9_; (try clear hb); (try clear hb2); (try clear hk); (try clear hi); (try clear ho0)))
               (try simp only [Act.put, List.setIfInBounds_toArray, List.set_cons_zero, List.set_cons_succ])
               go_cut [129] (fun v129 wc => ∃ (kq : Nat) (x129_95 : Bool), v129 = .bool x129_95 ∧ Aside0 (laws_FnExactAnswersOf.j2 kq t727 t726 x129_95 = some true) ∧ Aside0 (kq ≤ kj63) ∧ Aside0 (Kd.R (Kd.int .i64) 2 wc w.heap.size (fun k_ => some k_ ≠ ((.slice Ao38 t720.length co38) : Value).ownBlock) (.slice Ao97 t700.length co97) t727) ∧ Aside0 (Kd.R (Kd.int .i64) 2 wc w.heap.size (fun k_ => some k_ ≠ ((.slice Ao97 t700.length co97) : Value).ownBlock) (.slice Ao38 t720.length co38) t720) ∧ Aside0 (wc.heap[gb671]? = some (.cells #[.int .i64 a0_0, .int .i64 a0_1, (.slice A0_2 l0_2.length c0_2)] 24 (0, 0))) ∧ Aside0 (wc.heap[gb693]? = some (.cells #[.int .i64 t688, .int .i64 t689, (.slice Ao38 t720.length co38)] 28 (0, 0))) ∧ Aside0 (Below w.heap.size w wc))
               case first =>
                have H := HC96.out
                clear HC96
                replace H := Option.bind_eq_some_iff.mp H
                obtain ⟨t744, A1080, H⟩ := H
                replace H : (if t744 = true then (laws_FnExactAnswersOf.j2 kj63 t727 t726 (t743 != t687)) else (laws_FnExactAnswersOf.j2 kj63 t727 t726 true)) = some true := H
                have A108 := Aside0.mk A1080
                clear A1080
                by_cases c109 : t744 = true
                ·subst c109
                 have H1 : (laws_FnExactAnswersOf.j2 kj63 t727 t726 (t743 != t687)) = some true := by rw [if_pos rfl] at H; exact H
                 clear H
                 have H := H1
                 clear H1
                 have H' := Aside0.mk H
                 clear H
                 obtain ⟨Ao110, co110, eo110⟩ := Kd.R_slice HO742.out
                 subst eo110
                 obtain ⟨Ao111, co111, eo111⟩ := Kd.R_slice HO_8.out
                 subst eo111
                 go_wp2_with (first | ((with_reducible refine gate_callee (f := 19) rfl ?_); refine goesA_ (some 123) rfl rfl Try.func19 (by kernel_rfl) rfl #[.slice Ao110 t740.length co110, .slice Ao111 t684.length co111] rfl ?_; (with_reducible refine (laws_eqInt64S.calls kj63 _ _ t740 _ _ t684 true _ ?side1 ?side2 ?side3 ?side4 A108.out).mono ?_); (case side1 => repeat (first | exact (Kd.R_reads' HO742.out).2.2 | (with_reducible refine Kd.C_alloc ?_ _) | (with_reducible refine Kd.C_drewN ?_ _) | (with_reducible refine Kd.C_drew ?_))); (case side2 => exact (Kd.R_reads' HO742.out).2.1); (case side3 => repeat (first | exact (Kd.R_reads' HO_8.out).2.2 | (with_reducible refine Kd.C_alloc ?_ _) | (with_reducible refine Kd.C_drewN ?_ _) | (with_reducible refine Kd.C_drew ?_))); (case side4 => exact (Kd.R_reads' HO_8.out).2.1); rintro e w' ⟨rfl, ⟨nd, rfl⟩⟩; refine ⟨_, rfl, ?_⟩))
                 go_meet
                 case rel => exact ⟨_, ((t743 != t687)), (by first | rfl | (simp; done) | (simp [*]; done)), H', ⟨by have := HJ20.out; have := HJ63.out; first | omega | exact Nat.le_refl _⟩, ⟨by (try simp only [hl694002_63]); (with_reducible repeat (first | apply Kd.R_alloc | apply Kd.R_drewN | apply Kd.R_drew)); exact Kd.R_mono HO_13.out (fun _ hk => hk.1.1.1.1.2)⟩, ⟨by (try simp only [hl694002_63]); (with_reducible repeat (first | apply Kd.R_alloc | apply Kd.R_drewN | apply Kd.R_drew)); exact Kd.R_mono HO_694002.out (fun _ hk => hk.1.1.1.1.2)⟩, ⟨by (try simp only [hl694002_63]); (with_reducible repeat (first | refine blk_drewN ?_ _ | refine blk_drew ?_ | refine blk_alloc ?_ _)); exact BK671.out⟩, ⟨by (try simp only [hl694002_63]); (with_reducible repeat (first | refine blk_drewN ?_ _ | refine blk_drew ?_ | refine blk_alloc ?_ _)); exact BK693.out⟩, ⟨by repeat (first | (with_reducible first | exact HB.out | apply below_alloc | apply pw_below_drewN | apply below_drew1 | refine below_set ?_ GE671.out | refine below_set ?_ GE693.out) | exact HB.out)⟩⟩
                ·replace c109 := Bool.eq_false_iff.mpr c109
                 subst c109
                 have H1 : (laws_FnExactAnswersOf.j2 kj63 t727 t726 true) = some true := by rw [if_neg (show ¬ (false = true) by decide)] at H; exact H
                 clear H
                 have H := H1
                 clear H1
                 have H' := Aside0.mk H
                 clear H
                 obtain ⟨Ao112, co112, eo112⟩ := Kd.R_slice HO742.out
                 subst eo112
                 obtain ⟨Ao113, co113, eo113⟩ := Kd.R_slice HO_8.out
                 subst eo113
                 go_wp2_with (first | ((with_reducible refine gate_callee (f := 19) rfl ?_); refine goesA_ (some 123) rfl rfl Try.func19 (by kernel_rfl) rfl #[.slice Ao112 t740.length co112, .slice Ao113 t684.length co113] rfl ?_; (with_reducible refine (laws_eqInt64S.calls kj63 _ _ t740 _ _ t684 false _ ?side1 ?side2 ?side3 ?side4 A108.out).mono ?_); (case side1 => repeat (first | exact (Kd.R_reads' HO742.out).2.2 | (with_reducible refine Kd.C_alloc ?_ _) | (with_reducible refine Kd.C_drewN ?_ _) | (with_reducible refine Kd.C_drew ?_))); (case side2 => exact (Kd.R_reads' HO742.out).2.1); (case side3 => repeat (first | exact (Kd.R_reads' HO_8.out).2.2 | (with_reducible refine Kd.C_alloc ?_ _) | (with_reducible refine Kd.C_drewN ?_ _) | (with_reducible refine Kd.C_drew ?_))); (case side4 => exact (Kd.R_reads' HO_8.out).2.1); rintro e w' ⟨rfl, ⟨nd, rfl⟩⟩; refine ⟨_, rfl, ?_⟩))
                 go_meet
                 case rel => exact ⟨_, (true), (by first | rfl | (simp; done) | (simp [*]; done)), H', ⟨by have := HJ20.out; have := HJ63.out; first | omega | exact Nat.le_refl _⟩, ⟨by (try simp only [hl694002_63]); (with_reducible repeat (first | apply Kd.R_alloc | apply Kd.R_drewN | apply Kd.R_drew)); exact Kd.R_mono HO_13.out (fun _ hk => hk.1.1.1.1.2)⟩, ⟨by (try simp only [hl694002_63]); (with_reducible repeat (first | apply Kd.R_alloc | apply Kd.R_drewN | apply Kd.R_drew)); exact Kd.R_mono HO_694002.out (fun _ hk => hk.1.1.1.1.2)⟩, ⟨by (try simp only [hl694002_63]); (with_reducible repeat (first | refine blk_drewN ?_ _ | refine blk_drew ?_ | refine blk_alloc ?_ _)); exact BK671.out⟩, ⟨by (try simp only [hl694002_63]); (with_reducible repeat (first | refine blk_drewN ?_ _ | refine blk_drew ?_ | refine blk_alloc ?_ _)); exact BK693.out⟩, ⟨by repeat (first | (with_reducible first | exact HB.out | apply below_alloc | apply pw_below_drewN | apply below_drew1 | refine below_set ?_ GE671.out | refine below_set ?_ GE693.out) | exact HB.out)⟩⟩
               case rest =>
                clear HC96
                (try clear c1); (try clear c2); (try clear p2); (try clear c3); (try clear c4); (try clear c4b0); (try clear c4b1); (try clear c5); (try clear c6); (try clear c6b0); (try clear c6b1); (try clear c7); (try clear c8); (try clear c9); (try clear c9b0); (try clear c10); (try clear c15); (try clear c17); (try clear c19); (try clear c20); (try clear c21); (try clear c22); (try clear c23); (try clear c25); (try clear c36); (try clear c37); (try clear c46); (try clear c51); (try clear c54); (try clear c57); (try clear c60); (try clear c73); (try clear c78); (try clear c78b0); (try clear c80); (try clear c85); (try clear c88); (try clear c88b0); (try clear c91); (try clear c91b0); (try clear c91b1); (try clear c99); (try clear c109); (try clear hcz100_0); (try clear hcz100_1); (try clear hcz100_2); (try clear hcz11_0); (try clear hcz11_1); (try clear hcz11_2); (try clear hcz23_0); (try clear hcz23_1); (try clear hcz23_2); (try clear hcz25_0); (try clear hcz25_1); (try clear hcz25_2); (try clear hcz33_0); (try clear hcz33_1); (try clear hcz33_2); (try clear hcz37_0); (try clear hcz37_1); (try clear hcz37_2); (try clear hcz41_0); (try clear hcz41_1); (try clear hcz41_2); (try clear hcz74_0); (try clear hcz74_1); (try clear hcz74_2); (try clear hfz100_0); (try clear hfz100_1); (try clear hfz100_2); (try clear hfz11_0); (try clear hfz11_1); (try clear hfz11_2); (try clear hfz23_0); (try clear hfz23_1); (try clear hfz23_2); (try clear hfz25_0); (try clear hfz25_1); (try clear hfz25_2); (try clear hfz33_0); (try clear hfz33_1); (try clear hfz33_2); (try clear hfz37_0); (try clear hfz37_1); (try clear hfz37_2); (try clear hfz41_0); (try clear hfz41_1); (try clear hfz41_2); (try clear hfz74_0); (try clear hfz74_1); (try clear hfz74_2); (try clear p2)
                obtain ⟨kq, x129_95, rfl, HA, HJ95, HO_13, HO_694002, BK671, BK693, HB⟩ := hcut
                have hl13_95 := (Kd.R_reads' HO_13.out).1
                rw [hl13_95] at HO_13
                (try simp only [hl13_95])
                (try simp only [hl13_95] at BK671)
                (try simp only [hl13_95] at BK693)
                (try simp only [hl13_95] at HO_694002)
                cases kq with
                | zero => exact absurd HA.out (by simp [laws_FnExactAnswersOf.j2])
                | succ kj95 =>
                 have H := HA.out
                 clear HA
                 simp only [laws_FnExactAnswersOf.j2] at H
                 by_cases c114 : x129_95 = true
                 ·subst c114
                  have H1 : (some false) = some true := by rw [if_pos rfl] at H; exact H
                  clear H
                  have H := H1
                  clear H1
                  exact absurd H (by simp)
                 ·replace c114 := Bool.eq_false_iff.mpr c114
                  subst c114
                  have H1 : ((laws_heldInt64S.f kj95 t727 1).bind fun t745 => (if t745 < 0 then (some false) else (if t745 = t726 then (some true) else (some false)))) = some true := by rw [if_neg (show ¬ (false = true) by decide)] at H; exact H
                  clear H
                  have H := H1
                  clear H1
                  replace H := Option.bind_eq_some_iff.mp H
                  obtain ⟨t745, A1150, H⟩ := H
                  replace H : (if t745 < 0 then (some false) else (if t745 = t726 then (some true) else (some false))) = some true := H
                  have A115 := Aside0.mk A1150
                  clear A1150
                  by_cases c116 : t745 < 0
                  ·rw [if_pos c116] at H
                   have c116b0 : decide (t745 < 0) = true := decide_eq_true c116
                   clear c116
                   exact absurd H (by simp)
                  ·rw [if_neg c116] at H
                   have c116b0 : decide (t745 < 0) = false := decide_eq_false c116
                   clear c116
                   by_cases c117 : t745 = t726
                   ·rw [if_pos c117] at H
                    have c117b0 : (t745 == t726) = true := beq_iff_eq.mpr c117
                    have c117b1 : (t745 != t726) = false := bne_eq_false_iff_eq.mpr c117
                    clear c117
                    clear H
                    go_wp2_with (first | ((with_reducible refine gate_callee (f := 23) rfl ?_); refine goesA_ (some 132) rfl rfl Try.func23 (by kernel_rfl) rfl #[.slice Ao97 t727.length co97, .int .i64 1] rfl ?_; (with_reducible refine (laws_heldInt64S.calls kj95 _ _ t727 1 t745 _ ?side1 ?side2 A115.out).mono ?_); (case side1 => repeat (first | exact (Kd.R_reads' HO_13.out).2.2 | (with_reducible refine Kd.C_alloc ?_ _) | (with_reducible refine Kd.C_drewN ?_ _) | (with_reducible refine Kd.C_drew ?_))); (case side2 => exact (Kd.R_reads' HO_13.out).2.1); rintro e w' ⟨rfl, ⟨nd, rfl⟩⟩; refine ⟨_, rfl, ?_⟩))
                    go_ret
                    exact ⟨by first | rfl | (simp [errW_none, errW_some] <;> rfl) | (simp [*, errW_none, errW_some] <;> rfl), by repeat (first | (with_reducible first | exact HB.out | apply below_alloc | apply pw_below_drewN | apply below_drew1 | refine below_set ?_ GE671.out | refine below_set ?_ GE693.out) | exact HB.out)⟩
                   ·rw [if_neg c117] at H
                    have c117b0 : (t745 == t726) = false := beq_eq_false_iff_ne.mpr c117
                    have c117b1 : (t745 != t726) = true := bne_iff_ne.mpr c117
                    exact absurd H (by simp)
              ·rw [if_neg c91] at H
               have c91b0 : (t728 == t726) = false := beq_eq_false_iff_ne.mpr c91
               have c91b1 : (t728 != t726) = true := bne_iff_ne.mpr c91
               exact absurd H (by simp)
         ·replace c60 := Bool.eq_false_iff.mpr c60
          subst c60
          have H1 : (some false) = some true := by rw [if_neg (show ¬ (false = true) by decide)] at H; exact H
          clear H
          have H := H1
          clear H1
          exact absurd H (by simp)
        ·replace c57 := Bool.eq_false_iff.mpr c57
         subst c57
         have H1 : (some false) = some true := by rw [if_neg (show ¬ (false = true) by decide)] at H; exact H
         clear H
         have H := H1
         clear H1
         exact absurd H (by simp)
       ·replace c54 := Bool.eq_false_iff.mpr c54
        subst c54
        have H1 : (some false) = some true := by rw [if_neg (show ¬ (false = true) by decide)] at H; exact H
        clear H
        have H := H1
        clear H1
        exact absurd H (by simp)
-- slices.Contains of numbers: what the list says.
theorem index_l0 (x : List Int) (a : Int) (hx : x.length ≤ 9223372036854775807) : ∀ (d i : Nat), i + d = x.length → Ev (fun k => slices_Index_int64_int64.l0 k x a x.length i) (idxK (fun y => a == y) (x.drop i) i) := by
  intro d
  induction d with
  | zero =>
    intro i hi
    refine Ev.step (f := fun _ => some (-1)) (fun k => ?_) (by rw [List.drop_of_length_le (by omega)]; exact Ev.now _)
    simp only [slices_Index_int64_int64.l0]
    rw [if_neg (by omega)]
  | succ d ih =>
    intro i hi
    have hlt : i < x.length := by omega
    rw [idxK_drop _ x i hlt]
    by_cases h : a = x[i]
    · rw [if_pos (by simp [h])]
      refine Ev.step (f := fun _ => some (i : Int)) (fun k => ?_) (Ev.now _)
      simp only [slices_Index_int64_int64.l0]
      rw [if_pos (by omega), if_pos (by omega), if_pos (by omega), rd_get x i hlt, if_pos h]
    · rw [if_neg (by simp [h])]
      refine Ev.step (fun k => ?_) (ih (i + 1) (by omega))
      simp only [slices_Index_int64_int64.l0]
      rw [if_pos (by omega), if_pos (by omega), if_pos (by omega), rd_get x i hlt, if_neg h, wrap_next hlt (by omega)]
theorem contains_any (x : List Int) (a : Int) : (x.any fun y => a == y) = x.contains a := by
  induction x with
  | nil => rfl
  | cons b r ih => rw [List.any_cons, List.contains_cons, ih]
theorem contains_ev (x : List Int) (a : Int) (hx : x.length ≤ 9223372036854775807) : Ev (fun k => slices_Contains_int64_int64.f k x a) (x.contains a) := by
  unfold slices_Contains_int64_int64.f slices_Index_int64_int64.f
  have := index_l0 x a hx x.length 0 (by omega)
  refine Ev.bind this ?_
  rw [List.drop_zero, ← contains_any, ← idxK_any]
  exact Ev.congr (f := fun _ => some _) (fun k => by congr) (Ev.now _)
-- Placements: the reference's list is the ascending list of all placements.
theorem asc_raise : ∀ (l : List Int) (lo lo' : Int), Asc lo l → (∀ z ∈ l, lo' ≤ z) → Asc lo' l
  | [], _, _, _, _ => trivial
  | a :: _, _, _, h, hz => ⟨hz a (List.mem_cons_self ..), h.2⟩
theorem asc_insert : ∀ (l1 l2 : List Int) (lo x : Int), Asc lo (l1 ++ l2) → (∀ z ∈ l1, z < x) → (∀ z ∈ l2, x < z) → lo ≤ x → Asc lo (l1 ++ [x] ++ l2)
  | [], l2, lo, x, h, _, h2, hx => ⟨hx, asc_raise l2 lo (x + 1) h (fun z hz => by have := h2 z hz; omega)⟩
  | a :: r, l2, lo, x, h, h1, h2, hx => ⟨h.1, asc_insert r l2 (a + 1) x h.2 (fun z hz => h1 z (List.mem_cons_of_mem _ hz)) h2 (by have := h1 a (List.mem_cons_self ..); omega)⟩
theorem asc_lt : ∀ (l : List Int) (lo : Int), Asc lo l → ∀ (i j : Nat) (hi : i < l.length) (hj : j < l.length), i < j → l[i] < l[j]
  | a :: r, lo, h, i, j + 1, hi, hj, hij => by
    cases i with
    | zero =>
      have := asc_le r (a + 1) h.2 (r[j]'(by simpa using hj)) (List.getElem_mem _)
      simp only [List.getElem_cons_zero, List.getElem_cons_succ]
      omega
    | succ i =>
      simp only [List.getElem_cons_succ]
      exact asc_lt r (a + 1) h.2 i j (by simpa using hi) (by simpa using hj) (by omega)
theorem own_val (l : List Int) (h : l.length ≤ 1000000) : spec_l01Own.f l = some l := by
  unfold spec_l01Own.f
  simp only [Option.bind_some, List.nil_append]
  rw [if_pos (by simp; omega)]
/-- The reference's insertion: one number more, still ascending. -/
def PutOf (lo : Int) (l : List Int) (x : Int) (r : List Int) : Prop := Asc lo r ∧ r.length ≤ l.length + 1 ∧ ∀ z, z ∈ r ↔ z ∈ l ∨ z = x
theorem put_mid (lo : Int) (l : List Int) (x : Int) (n : Nat) (h : Asc lo l) (hx : lo ≤ x) (hn : n ≤ l.length) (h1 : ∀ i (hi : i < l.length), i < n → l[i] < x) (h2 : ∀ i (hi : i < l.length), n ≤ i → x < l[i]) : PutOf lo l x (l.take n ++ [x] ++ l.drop n) := by
  refine ⟨asc_insert _ _ _ _ (by rw [List.take_append_drop]; exact h) (fun z hz => ?_) (fun z hz => ?_) hx, by simp; omega, fun z => ?_⟩
  · obtain ⟨i, hi, rfl⟩ := List.mem_iff_getElem.1 hz
    rw [List.getElem_take]
    rw [List.length_take] at hi
    exact h1 i (by omega) (by omega)
  · obtain ⟨i, hi, rfl⟩ := List.mem_iff_getElem.1 hz
    rw [List.getElem_drop]
    rw [List.length_drop] at hi
    exact h2 (n + i) (by omega) (by omega)
  · have := List.take_append_drop n l
    constructor
    · intro hz
      rcases List.mem_append.1 hz with hz | hz
      · rcases List.mem_append.1 hz with hz | hz
        · exact .inl (List.mem_of_mem_take hz)
        · exact .inr (List.mem_singleton.1 hz)
      · exact .inl (List.mem_of_mem_drop hz)
    · rintro (hz | rfl)
      · rw [← this] at hz
        rcases List.mem_append.1 hz with hz | hz
        · exact List.mem_append_left _ (List.mem_append_left _ hz)
        · exact List.mem_append_right _ hz
      · exact List.mem_append_left _ (List.mem_append_right _ (List.mem_singleton.2 rfl))
theorem put_l0 (lo : Int) (l : List Int) (x : Int) (h : Asc lo l) (hx : lo ≤ x) (hl : l.length ≤ 100000) : ∀ n, n ≤ l.length → (∀ i (hi : i < l.length), n ≤ i → x < l[i]) →
    ∃ r, Ev (fun k => spec_l01Put.l0 k l x (n : Int)) r ∧ PutOf lo l x r := by
  intro n
  induction n with
  | zero =>
    intro _ h2
    refine ⟨_, ?_, put_mid lo l x 0 h hx (by omega) (fun i _ hi => by omega) h2⟩
    refine Ev.step (f := fun _ => some _) (fun k => ?_) (Ev.now _)
    simp only [spec_l01Put.l0]
    rw [if_neg (by omega), if_pos (by omega), if_pos (by omega), own_val _ (by rw [List.length_take]; omega)]
    simp only [Option.bind_some]
    rw [if_pos (by simp), if_pos (by simp; omega)]
    rfl
  | succ m ih =>
    intro hm h2
    have hml : m < l.length := by omega
    have hw : wrap64 (((m + 1 : Nat) : Int) - 1) = (m : Int) := by unfold wrap64; omega
    have hrd : rd l (m : Int) = l[m] := rd_get l m hml
    by_cases hgt : l[m] > x
    · obtain ⟨r, h3, h4⟩ := ih (by omega) (fun i hi hmi => by
        by_cases e : i = m
        · subst e; exact hgt
        · exact h2 i hi (by omega))
      refine ⟨r, Ev.step (fun k => ?_) h3, h4⟩
      simp only [spec_l01Put.l0]
      rw [if_pos (by omega), hw, if_pos (by omega), if_pos (by omega), hrd, if_pos hgt]
    · by_cases he : l[m] = x
      · refine ⟨l, ?_, h, by omega, fun z => ⟨.inl, ?_⟩⟩
        · refine Ev.step (f := fun _ => some l) (fun k => ?_) (Ev.now _)
          simp only [spec_l01Put.l0]
          rw [if_pos (by omega), hw, if_pos (by omega), if_pos (by omega), hrd, if_neg hgt, if_pos he]
        · rintro (hz | rfl)
          · exact hz
          · rw [← he]; exact List.getElem_mem _
      · refine ⟨_, ?_, put_mid lo l x (m + 1) h hx (by omega) (fun i hi him => ?_) h2⟩
        · refine Ev.step (f := fun _ => some _) (fun k => ?_) (Ev.now _)
          simp only [spec_l01Put.l0]
          rw [if_pos (by omega), hw, if_pos (by omega), if_pos (by omega), hrd, if_neg hgt, if_neg he, if_pos (by omega), if_pos (by omega), Int.toNat_natCast, own_val _ (by rw [List.length_take]; omega)]
          simp only [Option.bind_some]
          rw [if_pos (by simp; omega), if_pos (by simp; omega)]
        · by_cases e : i = m
          · subst e; omega
          · have := asc_lt l lo h i m hi hml (by omega)
            omega
theorem put_ev (lo : Int) (l : List Int) (x : Int) (h : Asc lo l) (hx : lo ≤ x) (hl : l.length ≤ 100000) : ∃ r, Ev (fun k => spec_l01Put.f k l x) r ∧ PutOf lo l x r := by
  unfold spec_l01Put.f
  exact put_l0 lo l x h hx hl l.length (Nat.le_refl _) (fun i hi h1 => by omega)
/-- The reference's bits of a row and of a column. -/
theorem place_l2 {W H n y x : Nat} (hW : 1 ≤ W ∧ W ≤ 5) (hH : H ≤ 5) (hn : 1 ≤ n ∧ n ≤ 5) (hy : y < H) (hx : x < W) (xs ships : List Int) (v : List Int)
    (hfin : Ev (fun k => if (wrap64 ((x : Int) + (n : Int))) ≤ (W : Int) then ((spec_l01Put.f k xs ((rowN (W * y + x) 1 n : Nat) : Int)).bind fun t157 => (if (wrap64 ((y : Int) + (n : Int))) ≤ (H : Int) then ((spec_l01Put.f k t157 ((rowN (W * y + x) W n : Nat) : Int)).bind fun t160 => (spec_l09Placements.l1 k n t160 y (wrap64 ((x : Int) + 1)) W H ships)) else (spec_l09Placements.l1 k n t157 y (wrap64 ((x : Int) + 1)) W H ships))) else (if (wrap64 ((y : Int) + (n : Int))) ≤ (H : Int) then ((spec_l01Put.f k xs ((rowN (W * y + x) W n : Nat) : Int)).bind fun t163 => (spec_l09Placements.l1 k n t163 y (wrap64 ((x : Int) + 1)) W H ships)) else (spec_l09Placements.l1 k n xs y (wrap64 ((x : Int) + 1)) W H ships))) v) :
    ∀ d i : Nat, i + d = n → Ev (fun k => spec_l09Placements.l2 k n xs y x ((rowN (W * y + x) 1 i : Nat) : Int) ((rowN (W * y + x) W i : Nat) : Int) i W H ships) v := by
  intro d
  induction d with
  | zero =>
    intro i hi
    have e : i = n := by omega
    subst e
    refine Ev.step (fun k => ?_) hfin
    simp only [spec_l09Placements.l2]
    rw [if_neg (by omega)]
  | succ d ih =>
    intro i hi
    have hWy : W * y ≤ 5 * 4 := Nat.mul_le_mul hW.2 (by omega)
    have hiW : i * W ≤ 4 * 5 := Nat.mul_le_mul (by omega) hW.2
    obtain ⟨p, hp⟩ : ∃ p, W * y = p := ⟨_, rfl⟩
    obtain ⟨q, hq⟩ : ∃ q, i * W = q := ⟨_, rfl⟩
    have hpb : p ≤ 20 := by omega
    have hqb : q ≤ 20 := by omega
    have hxb : x ≤ 5 := by omega
    have hyb : y ≤ 5 := by omega
    have hib : i ≤ 5 := by omega
    have hin : (i : Int) < (n : Int) := by omega
    have b0 : p + x ≤ 1000 := by omega
    have b1 : p + q ≤ 1000 := by omega
    have b2 : y + i ≤ 1000 := by omega
    have b3 : p + x + i ≤ 1000 := by omega
    have b4 : p ≤ 1000 := by omega
    have b5 : x ≤ 1000 := by omega
    have b6 : i ≤ 1000 := by omega
    have b7 : y ≤ 1000 := by omega
    have u1 := u64_nat (p + x + i) (by omega)
    have u2 := u64_nat (p + x + q) (by omega)
    have s1 := shl_nat (p + x + i) (by omega)
    have s2 := shl_nat (p + x + q) (by omega)
    have b60 : ∀ a, a < 60 → 2 ^ a < 9223372036854775808 := fun a ha => Nat.lt_of_lt_of_le (Nat.pow_lt_pow_right (by omega) ha) pow60_le
    have r1 : rowN (p + x) 1 i < 9223372036854775808 := Nat.lt_of_lt_of_le (rowN_lt (p + x) 1 i 60 (fun a ha => by omega)) pow60_le
    have r2 : rowN (p + x) W i < 9223372036854775808 := Nat.lt_of_lt_of_le (rowN_lt (p + x) W i 60 (fun a ha => by
      have : a * W ≤ 4 * 5 := Nat.mul_le_mul (by omega) hW.2
      omega)) pow60_le
    have o1 : Go.bits .or .i64 ((rowN (p + x) 1 i : Nat) : Int) ((2 ^ (p + x + i) : Nat) : Int) = ((rowN (p + x) 1 (i + 1) : Nat) : Int) := by
      rw [bits_or_nat _ _ r1 (b60 _ (by omega))]
      show _ = ((rowN (p + x) 1 i ||| 2 ^ (p + x + i * 1) : Nat) : Int)
      rw [Nat.mul_one]
    have o2 : Go.bits .or .i64 ((rowN (p + x) W i : Nat) : Int) ((2 ^ (p + x + q) : Nat) : Int) = ((rowN (p + x) W (i + 1) : Nat) : Int) := by
      rw [bits_or_nat _ _ r2 (b60 _ (by omega))]
      show _ = ((rowN (p + x) W i ||| 2 ^ (p + x + i * W) : Nat) : Int)
      rw [hq]
    have ih1 := ih (i + 1) (by omega)
    rw [hp] at ih1 ⊢
    have ex : p + q + x = p + x + q := by omega
    have hyw : y * W = p := (Nat.mul_comm y W).trans hp
    have e1 : wrap64 ((y : Int) * (W : Int)) = (p : Int) := wrap_mul hyw b4
    have e2 : wrap64 (wrap64 ((p : Int) + (x : Int)) + (i : Int)) = ((p + x + i : Nat) : Int) := by rw [wrap_add b4 b5]; exact wrap_add b0 b6
    have e3 : wrap64 ((y : Int) + (i : Int)) = ((y + i : Nat) : Int) := wrap_add b7 b6
    have e4 : wrap64 (((y + i : Nat) : Int) * (W : Int)) = ((p + q : Nat) : Int) := wrap_mul (by rw [Nat.add_mul, Nat.mul_comm y W, hp, hq]) b1
    have e5 : wrap64 (((p + q : Nat) : Int) + (x : Int)) = ((p + x + q : Nat) : Int) := by rw [← ex]; exact wrap_add b1 b5
    have e6 : wrap64 ((i : Int) + 1) = ((i + 1 : Nat) : Int) := wrap_one b6
    refine Ev.step (fun k => ?_) ih1
    simp only [spec_l09Placements.l2]
    rw [if_pos hin, e1, e2, e3, e4, e5, u1, u2, if_pos (Int.natCast_nonneg _), if_pos (Int.natCast_nonneg _), s1, s2, o1, o2, e6]
/-- What has been found when all cells before a cell have been looked at. -/
def PlInv (W H n c : Nat) (xs : List Int) : Prop := Asc 0 xs ∧ xs.length ≤ 2 * c ∧ ∀ z, z ∈ xs ↔ z ∈ placeTo W H n c
theorem pl_done {W H n : Nat} {xs : List Int} (hW : 1 ≤ W ∧ W ≤ 5) (hH : H ≤ 5) (hn : 1 ≤ n) (h : PlInv W H n (W * H) xs) : xs = placesOf W H n := by
  have hp := placesOf_asc hW.1 hW.2 hH hn
  exact asc_ext _ _ 0 h.1 hp.1 (fun z => by rw [h.2.2, hp.2])
theorem place_l1 {W H n y : Nat} (hW : 1 ≤ W ∧ W ≤ 5) (hH : H ≤ 5) (hn : 1 ≤ n ∧ n ≤ 5) (hy : y < H) (ships : List Int)
    (hnext : ∀ xs, PlInv W H n (W * (y + 1)) xs → Ev (fun k => spec_l09Placements.l0 k n xs ((y + 1 : Nat) : Int) W H ships) (placesOf W H n)) :
    ∀ (d x : Nat) (xs : List Int), x + d = W → PlInv W H n (W * y + x) xs → Ev (fun k => spec_l09Placements.l1 k n xs y x W H ships) (placesOf W H n) := by
  intro d
  induction d with
  | zero =>
    intro x xs hx hI
    have e : x = W := by omega
    subst e
    have := hnext xs (by rw [Nat.mul_add, Nat.mul_one]; exact hI)
    refine Ev.step (fun k => ?_) this
    simp only [spec_l09Placements.l1]
    rw [if_neg (by omega), wrap_one (a := y) (by omega)]
  | succ d ih =>
    intro x xs hx hI
    have hxW : x < W := by omega
    have hc : W * y + x < W * H := by
      have : W * (y + 1) ≤ W * H := Nat.mul_le_mul_left W hy
      rw [Nat.mul_add, Nat.mul_one] at this
      omega
    have hcs : W * H ≤ 25 := place_small_ hW.2 hH
    have hmod : (W * y + x) % W = x := by rw [Nat.mul_add_mod, Nat.mod_eq_of_lt hxW]
    have hdiv : (W * y + x) / W = y := by rw [Nat.mul_add_div (by omega), Nat.div_eq_of_lt hxW, Nat.add_zero]
    have hat : ∀ z, z ∈ placeTo W H n (W * y + x + 1) ↔ z ∈ placeTo W H n (W * y + x) ∨ ((x + n ≤ W ∧ z = ((rowN (W * y + x) 1 n : Nat) : Int)) ∨ (y + n ≤ H ∧ z = ((rowN (W * y + x) W n : Nat) : Int))) := by
      intro z
      show z ∈ placeTo W H n (W * y + x) ++ placeAt W H n (W * y + x) ↔ _
      rw [List.mem_append]
      unfold placeAt
      rw [hmod, hdiv, List.mem_append]
      by_cases h1 : x + n ≤ W <;> by_cases h2 : y + n ≤ H <;> simp [h1, h2]
    obtain ⟨hA, hL, hM⟩ := hI
    have bx : x ≤ 1000 := by omega
    have by_ : y ≤ 1000 := by omega
    have bn : n ≤ 1000 := by omega
    have hw1 := Aside0.mk (wrap_add bx bn)
    have hw2 := Aside0.mk (wrap_add by_ bn)
    have hw3 := Aside0.mk (wrap_one bx)
    have z0 : ∀ a b m : Nat, (0 : Int) ≤ ((rowN a b m : Nat) : Int) := fun _ _ _ => Int.natCast_nonneg _
    have hnxt : ∀ ys, PlInv W H n (W * y + x + 1) ys → Ev (fun k => spec_l09Placements.l1 k n ys y (wrap64 ((x : Int) + 1)) W H ships) (placesOf W H n) := fun ys h => by
      rw [hw3.out]; exact ih (x + 1) ys (by omega) h
    refine Ev.step (fun k => ?_) (place_l2 hW hH hn hy hxW xs ships (placesOf W H n) ?_ n 0 (by omega))
    · simp only [spec_l09Placements.l1]
      rw [if_pos (by omega)]
      rfl
    · rw [hw1.out, hw2.out]
      by_cases h1 : x + n ≤ W
      · obtain ⟨r1, p1, p1a, p1l, p1m⟩ := put_ev 0 xs _ hA (z0 (W * y + x) 1 n) (by omega)
        by_cases h2 : y + n ≤ H
        · obtain ⟨r2, p2, p2a, p2l, p2m⟩ := put_ev 0 r1 _ p1a (z0 (W * y + x) W n) (by omega)
          refine Ev.congr (fun k => by rw [if_pos (by omega)]) (Ev.bind p1 (Ev.congr (fun k => by rw [if_pos (by omega)]) (Ev.bind p2 (hnxt r2 ⟨p2a, by omega, fun z => ?_⟩))))
          rw [p2m, p1m, hM, hat]; simp [h1, h2, or_assoc]
        · refine Ev.congr (fun k => by rw [if_pos (by omega)]) (Ev.bind p1 (Ev.congr (fun k => by rw [if_neg (by omega)]) (hnxt r1 ⟨p1a, by omega, fun z => ?_⟩)))
          rw [p1m, hM, hat]; simp [h1, h2]
      · by_cases h2 : y + n ≤ H
        · obtain ⟨r2, p2, p2a, p2l, p2m⟩ := put_ev 0 xs _ hA (z0 (W * y + x) W n) (by omega)
          refine Ev.congr (fun k => by rw [if_neg (by omega), if_pos (by omega)]) (Ev.bind p2 (hnxt r2 ⟨p2a, by omega, fun z => ?_⟩))
          rw [p2m, hM, hat]; simp [h1, h2]
        · refine Ev.congr (fun k => by rw [if_neg (by omega), if_neg (by omega)]) (hnxt xs ⟨hA, by omega, fun z => ?_⟩)
          rw [hM, hat]; simp [h1, h2]
theorem place_l0 {W H n : Nat} (hW : 1 ≤ W ∧ W ≤ 5) (hH : H ≤ 5) (hn : 1 ≤ n ∧ n ≤ 5) (ships : List Int) :
    ∀ (d y : Nat) (xs : List Int), y + d = H → PlInv W H n (W * y) xs → Ev (fun k => spec_l09Placements.l0 k n xs y W H ships) (placesOf W H n) := by
  intro d
  induction d with
  | zero =>
    intro y xs hy hI
    have e : y = H := by omega
    subst e
    obtain rfl := pl_done hW hH hn.1 hI
    refine Ev.step (f := fun _ => some (placesOf W y n)) (fun k => ?_) (Ev.now _)
    simp only [spec_l09Placements.l0]
    rw [if_neg (by omega)]
  | succ d ih =>
    intro y xs hy hI
    refine Ev.step (fun k => ?_) (place_l1 hW hH hn (by omega) ships (fun ys h => ih (y + 1) ys (by omega) h) W 0 xs (by omega) (by rw [Nat.add_zero]; exact hI))
    simp only [spec_l09Placements.l0]
    rw [if_pos (by omega)]
    rfl
theorem specPlacements_ev {W H n : Nat} (hW : 1 ≤ W ∧ W ≤ 5) (hH : H ≤ 5) (hn : 1 ≤ n ∧ n ≤ 5) (ships : List Int) : Ev (fun k => spec_l09Placements.f k W H ships n) (placesOf W H n) := by
  unfold spec_l09Placements.f
  exact place_l0 hW hH hn ships H 0 [] (by omega) ⟨trivial, by simp, fun z => by simp [placeTo]⟩
/-- The reference's 'in' is the program's 'within'. -/
theorem in_inW (n a b : Int) : spec_l01In.f n a b = some (inW n a b) := by
  unfold spec_l01In.f inW
  by_cases h : a ≤ n <;> simp [h]
/-- The verifier's count of a list. -/
theorem szInt64S_val (l : List Int) (a : Int) (hl : l.length ≤ maxLen) (h0 : 0 ≤ a) (h1 : a ≤ 1048576) : laws_szInt64S.f l a = some (if a < l.length then -1 else a - l.length) := by
  unfold maxLen at hl
  have e : wrap64 (a - (l.length : Int)) = a - l.length := by unfold wrap64; omega
  unfold laws_szInt64S.f
  rw [e]
  by_cases h : a < l.length
  · rw [if_pos h, if_pos (by omega)]
  · rw [if_neg h, if_neg (by omega)]
/-- Seas: the ships, one after the other. -/
def shipsFrom (l : List Int) : Nat → Nat → Bool
  | _, 0 => true
  | i, d + 1 => inW (rd l i) 1 5 && !(decide (0 < i) && decide (rd l i > rd l ((i : Int) - 1))) && shipsFrom l (i + 1) d
def seaV (w h : Int) (l : List Int) : Bool := inW w 1 5 && inW h 1 5 && inW l.length 1 3 && shipsFrom l 0 l.length
theorem wrap_prev {i : Nat} (h0 : 0 < i) (hn : i ≤ 9223372036854775807) : wrap64 ((i : Int) - 1) = (i : Int) - 1 := by
  unfold wrap64; omega
theorem l09Is_l0 (w h : Int) (l : List Int) (hl : l.length ≤ 9223372036854775807) : ∀ (d i : Nat), i + d = l.length → Ev (fun k => spec_l09Is.l0 k i w h l) (shipsFrom l i d) := by
  intro d
  induction d with
  | zero =>
    intro i hi
    refine Ev.step (f := fun _ => some _) (fun k => ?_) (Ev.now _)
    simp only [spec_l09Is.l0]
    rw [if_neg (by omega)]; rfl
  | succ d ih =>
    intro i hi
    have hlt : i < l.length := by omega
    unfold shipsFrom
    cases he : inW (rd l i) 1 5 with
    | false =>
      refine Ev.step (f := fun _ => some _) (fun k => ?_) (Ev.now _)
      simp only [spec_l09Is.l0]
      rw [if_pos (by omega), if_pos (by omega), in_inW, he]; simp
    | true =>
      have ih1 := ih (i + 1) (by omega)
      by_cases h0 : 0 < i
      · by_cases h1 : rd l i > rd l ((i : Int) - 1)
        · rw [decide_eq_true h0, decide_eq_true h1]
          refine Ev.step (f := fun _ => some _) (fun k => ?_) (Ev.now _)
          simp only [spec_l09Is.l0]
          rw [if_pos (by omega), if_pos (by omega), in_inW, he, Option.bind_some, if_pos rfl, if_pos (by omega), wrap_prev h0 (by omega), if_pos (by omega), if_pos (by omega), if_pos h1]; rfl
        · rw [decide_eq_true h0, decide_eq_false h1]
          refine Ev.step (f := fun k => spec_l09Is.l0 k ((i + 1 : Nat) : Int) w h l) (fun k => ?_) (by simpa using ih1)
          simp only [spec_l09Is.l0]
          rw [if_pos (by omega), if_pos (by omega), in_inW, he, Option.bind_some, if_pos rfl, if_pos (by omega), wrap_prev h0 (by omega), if_pos (by omega), if_pos (by omega), if_neg h1, wrap_next hlt hl]
      · rw [decide_eq_false h0]
        refine Ev.step (f := fun k => spec_l09Is.l0 k ((i + 1 : Nat) : Int) w h l) (fun k => ?_) (by simpa using ih1)
        simp only [spec_l09Is.l0]
        rw [if_pos (by omega), if_pos (by omega), in_inW, he, Option.bind_some, if_pos rfl, if_neg (by omega), wrap_next hlt hl]
theorem implIsSea_l0 (w h : Int) (l : List Int) (hl : l.length ≤ 9223372036854775807) : ∀ (d i : Nat), i + d = l.length → Ev (fun k => impl_IsSea.l0 k l l.length i w h l) (shipsFrom l i d) := by
  intro d
  induction d with
  | zero =>
    intro i hi
    refine Ev.step (f := fun _ => some _) (fun k => ?_) (Ev.now _)
    simp only [impl_IsSea.l0]
    rw [if_neg (by omega)]; rfl
  | succ d ih =>
    intro i hi
    have hlt : i < l.length := by omega
    unfold shipsFrom
    cases he : inW (rd l i) 1 5 with
    | false =>
      refine Ev.step (f := fun _ => some _) (fun k => ?_) (Ev.now _)
      simp only [impl_IsSea.l0]
      rw [if_pos (by omega), if_pos (by omega), if_pos (by omega), within_inW, he]; simp
    | true =>
      have ih1 := ih (i + 1) (by omega)
      by_cases h0 : 0 < i
      · by_cases h1 : rd l i > rd l ((i : Int) - 1)
        · rw [decide_eq_true h0, decide_eq_true h1]
          refine Ev.step (f := fun _ => some _) (fun k => ?_) (Ev.now _)
          simp only [impl_IsSea.l0]
          rw [if_pos (by omega), if_pos (by omega), if_pos (by omega), within_inW, he, Option.bind_some, if_pos rfl, if_pos (by omega), wrap_prev h0 (by omega), if_pos (by omega), if_pos (by omega), if_pos h1]; rfl
        · rw [decide_eq_true h0, decide_eq_false h1]
          refine Ev.step (f := fun k => impl_IsSea.l0 k l l.length ((i + 1 : Nat) : Int) w h l) (fun k => ?_) (by simpa using ih1)
          simp only [impl_IsSea.l0]
          rw [if_pos (by omega), if_pos (by omega), if_pos (by omega), within_inW, he, Option.bind_some, if_pos rfl, if_pos (by omega), wrap_prev h0 (by omega), if_pos (by omega), if_pos (by omega), if_neg h1, wrap_next hlt hl]
      · rw [decide_eq_false h0]
        refine Ev.step (f := fun k => impl_IsSea.l0 k l l.length ((i + 1 : Nat) : Int) w h l) (fun k => ?_) (by simpa using ih1)
        simp only [impl_IsSea.l0]
        rw [if_pos (by omega), if_pos (by omega), if_pos (by omega), within_inW, he, Option.bind_some, if_pos rfl, if_neg (by omega), wrap_next hlt hl]
theorem l09Is_ev (w h : Int) (l : List Int) (hl : l.length ≤ 9223372036854775807) : Ev (fun k => spec_l09Is.f k w h l) (seaV w h l) := by
  unfold spec_l09Is.f seaV
  rw [in_inW, in_inW, in_inW]
  have hj : Ev (fun k => spec_l09Is.j0 k true w h l) false := Ev.step (f := fun _ => some false) (fun k => by simp only [spec_l09Is.j0]; rw [if_pos trivial]) (Ev.now _)
  cases inW w 1 5 with
  | false => exact Ev.congr (fun k => by rw [Option.bind_some, if_neg (by simp)]) hj
  | true =>
    cases inW h 1 5 with
    | false => exact Ev.congr (fun k => by rw [Option.bind_some, if_pos rfl, Option.bind_some, if_neg (by simp)]) hj
    | true =>
      cases inW l.length 1 3 with
      | false => exact Ev.congr (fun k => by rw [Option.bind_some, if_pos rfl, Option.bind_some, if_pos rfl, Option.bind_some]; rfl) hj
      | true =>
        have := l09Is_l0 w h l hl l.length 0 (by omega)
        refine Ev.congr (f := fun k => spec_l09Is.j0 k false w h l) (fun k => by rw [Option.bind_some, if_pos rfl, Option.bind_some, if_pos rfl, Option.bind_some]; rfl) (Ev.step (fun k => ?_) this)
        simp only [spec_l09Is.j0]
        rw [if_neg (by simp)]; rfl
theorem implIsSea_ev (w h : Int) (l : List Int) (hl : l.length ≤ 9223372036854775807) : Ev (fun k => impl_IsSea.f k w h l) (seaV w h l) := by
  unfold impl_IsSea.f seaV
  have hs : impl_size_int64.f l = some (l.length : Int) := rfl
  rw [within_inW, within_inW, hs]
  have hj : Ev (fun k => impl_IsSea.j0 k true w h l) false := Ev.step (f := fun _ => some false) (fun k => by simp only [impl_IsSea.j0]; rw [if_pos trivial]) (Ev.now _)
  cases inW w 1 5 with
  | false => exact Ev.congr (fun k => by rw [Option.bind_some, if_neg (by simp)]) hj
  | true =>
    cases inW h 1 5 with
    | false => exact Ev.congr (fun k => by rw [Option.bind_some, if_pos rfl, Option.bind_some, if_neg (by simp)]) hj
    | true =>
      cases h3 : inW l.length 1 3 with
      | false => exact Ev.congr (fun k => by rw [Option.bind_some, if_pos rfl, Option.bind_some, if_pos rfl, Option.bind_some, within_inW, h3, Option.bind_some]; rfl) hj
      | true =>
        have := implIsSea_l0 w h l hl l.length 0 (by omega)
        refine Ev.congr (f := fun k => impl_IsSea.j0 k false w h l) (fun k => by rw [Option.bind_some, if_pos rfl, Option.bind_some, if_pos rfl, Option.bind_some, within_inW, h3, Option.bind_some]; rfl) (Ev.step (fun k => ?_) this)
        simp only [impl_IsSea.j0]
        rw [if_neg (by simp)]; rfl
/-- The verifier's helpers on seas. -/
theorem szSea_ev (w h : Int) (l : List Int) (hl : l.length ≤ maxLen) : ∃ v, laws_szSea.f w h l 1048576 = some v ∧ (v = -1 ∨ 0 ≤ v ∧ l.length ≤ 1048576) := by
  unfold laws_szSea.f
  rw [szInt64S_val l 1048576 hl (by omega) (by omega), Option.bind_some]
  by_cases h : (1048576 : Int) < l.length
  · rw [if_pos h]; exact ⟨-1, rfl, .inl rfl⟩
  · rw [if_neg h, if_neg (by omega)]; exact ⟨_, rfl, .inr ⟨by omega, by omega⟩⟩
theorem toSea_ev (w h : Int) (l : List Int) (hl : l.length ≤ 1048576) : Ev (fun k => laws_toSea.f k w h l) (w, h, l) := by
  unfold laws_toSea.f
  exact Ev.bind (toInt64S_ev l (by omega)) (Ev.now _)
theorem eqSea_self (w h : Int) (l : List Int) (hl : l.length ≤ 1048576) : Ev (fun k => laws_eqSea.f k w h l w h l) true := by
  unfold laws_eqSea.f
  refine Ev.congr (fun k => by rw [if_pos rfl, if_pos rfl]) (Ev.bind (eqInt64S_self l (by omega)) (Ev.congr (fun k => by rw [if_pos rfl]) (Ev.now _)))
-- What the verifier writes into results, and finds there again.
def countUp : Int → Nat → List Int
  | _, 0 => []
  | m, n + 1 => m :: countUp (m + 1) n
theorem countUp_len : ∀ (n : Nat) (m : Int), (countUp m n).length = n
  | 0, _ => rfl
  | n + 1, m => by simp [countUp, countUp_len n]
theorem countUp_get : ∀ (n : Nat) (m : Int) (i : Nat) (h : i < (countUp m n).length), (countUp m n)[i] = m + i
  | 0, m, i, h => by simp [countUp] at h
  | n + 1, m, 0, h => by simp [countUp]
  | n + 1, m, i + 1, h => by
    have := countUp_get n (m + 1) i (by simpa [countUp] using h)
    simp only [countUp, List.getElem_cons_succ]
    rw [this]; omega
theorem mark_l0 (m0 : Int) (h0 : 0 ≤ m0) : ∀ (d i : Nat) (x : List Int), i + d = x.length → m0 + x.length ≤ 4611686018427387904 → (∀ (j : Nat) (hj : j < x.length), j < i → x[j] = m0 + j) →
    Ev (fun k => laws_markInt64S.l0 k x (m0 + i) i) (m0 + x.length, countUp m0 x.length) := by
  intro d
  induction d with
  | zero =>
    intro i x hi hb hx
    have e : x = countUp m0 x.length := by
      apply List.ext_getElem
      · rw [countUp_len]
      · intro j h1 h2
        rw [hx j h1 (by omega), countUp_get]
    refine Ev.step (f := fun _ => some (m0 + x.length, countUp m0 x.length)) (fun k => ?_) (Ev.now _)
    simp only [laws_markInt64S.l0]
    rw [if_neg (by omega), ← e]
    have : i = x.length := by omega
    rw [this]
  | succ d ih =>
    intro i x hi hb hx
    have hlt : i < x.length := by omega
    have := ih (i + 1) (x.set i (m0 + i)) (by simp; omega) (by simpa using hb) (fun j hj hji => by
      rw [List.getElem_set]
      split
      · rename_i e; rw [e]
      · rename_i e; exact hx j (by simpa using hj) (by omega))
    rw [List.length_set] at this
    refine Ev.step (fun k => ?_) this
    have w1 : wrap64 (m0 + i + 1) = m0 + ((i + 1 : Nat) : Int) := by unfold wrap64; omega
    have w2 : wrap64 ((i : Int) + 1) = ((i + 1 : Nat) : Int) := by unfold wrap64; omega
    simp only [laws_markInt64S.l0]
    rw [if_pos (by omega), if_pos (by omega), w1, w2, Int.toNat_natCast]
theorem mark_ev (m : Int) (h0 : 0 ≤ m) (x : List Int) (hb : m + x.length ≤ 4611686018427387904) : Ev (fun k => laws_markInt64S.f k x m) (m + x.length, countUp m x.length) := by
  have := mark_l0 m h0 x.length 0 x (by omega) hb (fun j _ h => by omega)
  refine Ev.congr (fun k => ?_) this
  unfold laws_markInt64S.f
  simp
theorem held_l0 (m0 : Int) (h0 : 0 ≤ m0) (x : List Int) (hb : m0 + x.length ≤ 4611686018427387904) (hx : ∀ (j : Nat) (hj : j < x.length), x[j] = m0 + j) : ∀ (d i : Nat), i + d = x.length →
    Ev (fun k => laws_heldInt64S.l0 k x (m0 + i) i) (m0 + x.length) := by
  intro d
  induction d with
  | zero =>
    intro i hi
    refine Ev.step (f := fun _ => some (m0 + x.length)) (fun k => ?_) (Ev.now _)
    simp only [laws_heldInt64S.l0]
    rw [if_neg (by omega)]
    have : i = x.length := by omega
    rw [this]
  | succ d ih =>
    intro i hi
    have hlt : i < x.length := by omega
    refine Ev.step (fun k => ?_) (ih (i + 1) (by omega))
    have w1 : wrap64 (m0 + i + 1) = m0 + ((i + 1 : Nat) : Int) := by unfold wrap64; omega
    have w2 : wrap64 ((i : Int) + 1) = ((i + 1 : Nat) : Int) := by unfold wrap64; omega
    simp only [laws_heldInt64S.l0]
    rw [if_pos (by omega), if_pos (by omega), rd_get x i hlt, hx i hlt, if_pos rfl, w1, w2]
theorem held_ev (m : Int) (h0 : 0 ≤ m) (n : Nat) (hb : m + n ≤ 4611686018427387904) : Ev (fun k => laws_heldInt64S.f k (countUp m n) m) (m + n) := by
  have := held_l0 m h0 (countUp m n) (by rw [countUp_len]; exact hb) (fun j hj => countUp_get n m j hj) n 0 (by rw [countUp_len]; omega)
  rw [countUp_len] at this
  refine Ev.congr (fun k => ?_) this
  unfold laws_heldInt64S.f
  simp
-- The verifier's marks over a sea.
theorem markSea_ev (w h : Int) (l : List Int) (hl : l.length ≤ 1048576) : Ev (fun k => laws_markSea.f k w h l 1) (1 + l.length, countUp 1 l.length) := by
  unfold laws_markSea.f
  exact Ev.bind (mark_ev 1 (by omega) l (by omega)) (Ev.now _)
theorem seaV_nat {w h : Int} {l : List Int} (hs : seaV w h l = true) : (∃ wn : Nat, w = wn ∧ 1 ≤ wn ∧ wn ≤ 5) ∧ (∃ hn : Nat, h = hn ∧ 1 ≤ hn ∧ hn ≤ 5) ∧ 1 ≤ l.length ∧ l.length ≤ 3 := by
  unfold seaV at hs
  simp only [Bool.and_eq_true] at hs
  obtain ⟨⟨⟨h1, h2⟩, h3⟩, _⟩ := hs
  unfold inW at h1 h2 h3
  simp only [Bool.and_eq_true, decide_eq_true_eq] at h1 h2 h3
  exact ⟨⟨w.toNat, by omega, by omega, by omega⟩, ⟨h.toNat, by omega, by omega, by omega⟩, by omega, by omega⟩
theorem inW_five {a : Int} (h : inW a 1 5 = true) : ∃ n : Nat, a = (n : Int) ∧ 1 ≤ n ∧ n ≤ 5 := by
  unfold inW at h
  simp only [Bool.and_eq_true, decide_eq_true_eq] at h
  exact ⟨a.toNat, by omega, by omega, by omega⟩
theorem inW_of {n : Nat} (h1 : 1 ≤ n) (h5 : n ≤ 5) : inW (n : Int) 1 5 = true := by
  unfold inW
  rw [decide_eq_true (by omega), decide_eq_true (by omega)]; rfl
theorem placesOf_len {w h n : Nat} (hw : w ≤ 5) (hh : h ≤ 5) : (placesOf w h n).length ≤ 100 := by
  unfold placesOf ascOf
  refine Nat.le_trans (Go.Lib.compact_length_le _) ?_
  rw [List.length_mergeSort]
  have h1 := placeTo_len w h n (w * h)
  have h2 := place_small_ hw hh
  omega

end Go.Proofs.Ytiancdhpdjmacaa.F
