-- written by the session's program xp.py over the kit's print program, and by hand; texts joined by pack.py
import Derived.Test.YthmfpdkemkjpkaaKFnExactHuntFleet7
namespace Go.Proofs.Ythmfpdkemkjpkaa.F
open Go.RowKit Go.Proofs.YthmfpdkemkjpkaaW.PrintWords Go.Proofs.YthmfpdkemkjpkaaW.PrintLast Go.Proofs.YthmfpdkemkjpkaaW.PrintMore
attribute [local go_sem] max2_int min2_int max_two min_two max_three min_three max_four min_four   -- for this text's walks alone
set_option linter.unusedVariables false
set_option linter.unusedSimpArgs false

mutual
def laws_FnExactHuntFleet.j0 : Nat → List Int → List Int → Int → List Int → List Int → Int → Bool → Int → Int → List Int → Int → Int → List Int → Option (Bool)
 | 0, _, _, _, _, _, _, _, _, _, _, _, _, _ => none
 | k + 1, x1, x6, x7, x9, x10, x11, x51, x451000, x451001, x451002, x470000, x470001, x470002 => if x51 = true then (some false) else ((laws_toSea.f k x451000 x451001 x451002).bind fun bt478 => ((laws_eqSea.f k x470000 x470001 x470002 bt478.1 bt478.2.1 bt478.2.2).bind fun t483 => (if t483 = true then ((laws_toInt64S.f k x1).bind fun t484 => ((laws_eqInt64S.f k x9 t484).bind fun t487 => (if t487 = true then ((laws_markSea.f k x470000 x470001 x470002 1).bind fun bt488 => ((laws_markInt64S.f k x9 bt488.1).bind fun bt490 => (if bt490.1 < 0 then (laws_FnExactHuntFleet.j1 k x1 x6 x7 x10 true x451000 x451001 x451002) else ((laws_eqInt64S.f k x10 x6).bind fun t492 => (if t492 = true then (laws_FnExactHuntFleet.j1 k x1 x6 x7 x10 (x11 != x7) x451000 x451001 x451002) else (laws_FnExactHuntFleet.j1 k x1 x6 x7 x10 true x451000 x451001 x451002)))))) else (some false)))) else (some false))))
def laws_FnExactHuntFleet.j1 : Nat → List Int → List Int → Int → List Int → Bool → Int → Int → List Int → Option (Bool)
 | 0, _, _, _, _, _, _, _, _ => none
 | k + 1, x1, x6, x7, x10, x80, x451000, x451001, x451002 => if x80 = true then (some false) else ((laws_markInt64S.f k x10 1).bind fun bt493 => ((laws_heldInt64S.f k bt493.2 1).bind fun t495 => (if t495 < 0 then (some false) else (if t495 = bt493.1 then ((laws_toSea.f k x451000 x451001 x451002).bind fun bt496 => ((laws_toInt64S.f k x1).bind fun t501 => ((impl_HuntFleet.f k bt496.1 bt496.2.1 bt496.2.2 t501).bind fun bt504 => ((laws_eqInt64S.f k bt504.1 x6).bind fun t508 => (if t508 = true then (laws_FnExactHuntFleet.j2 k bt493.2 bt493.1 (bt504.2 != x7)) else (laws_FnExactHuntFleet.j2 k bt493.2 bt493.1 true)))))) else (some false)))))
def laws_FnExactHuntFleet.j2 : Nat → List Int → Int → Bool → Option (Bool)
 | 0, _, _, _ => none
 | k + 1, x10, x13, x108 => if x108 = true then (some false) else ((laws_heldInt64S.f k x10 1).bind fun t509 => (if t509 < 0 then (some false) else (if t509 = x13 then (some true) else (some false))))
end
def laws_FnExactHuntFleet.f (k : Nat) (a0_0 : Int) (a0_1 : Int) (l0_2 : List Int) (l1 : List Int) : Option (Bool) := if (l1.length : Int) > 1048576 then (some true) else ((laws_szSea.f a0_0 a0_1 l0_2 1048576).bind fun t451 => (if t451 < 0 then (some true) else ((laws_toSea.f k a0_0 a0_1 l0_2).bind fun bt452 => ((laws_toInt64S.f k l1).bind fun t457 => ((spec_HuntFleet.f k bt452.1 bt452.2.1 bt452.2.2 t457).bind fun bt460 => ((laws_toSea.f k a0_0 a0_1 l0_2).bind fun bt464 => ((laws_toInt64S.f k l1).bind fun t470 => ((impl_HuntFleet.f k bt464.1 bt464.2.1 bt464.2.2 t470).bind fun bt473 => ((laws_eqInt64S.f k bt473.1 bt460.1).bind fun t477 => (if t477 = true then (laws_FnExactHuntFleet.j0 k l1 bt460.1 bt460.2 t470 bt473.1 bt473.2 (bt473.2 != bt460.2) a0_0 a0_1 l0_2 bt464.1 bt464.2.1 bt464.2.2) else (laws_FnExactHuntFleet.j0 k l1 bt460.1 bt460.2 t470 bt473.1 bt473.2 true a0_0 a0_1 l0_2 bt464.1 bt464.2.1 bt464.2.2)))))))))))
set_option maxHeartbeats 8000000 in
set_option maxRecDepth 100000 in
theorem laws_FnExactHuntFleet.calls (k : Nat) (a0_0 : Int) (a0_1 : Int) (A0_2 : Option Addr) (c0_2 : Nat) (l0_2 : List Int) (A1 : Option Addr) (c1 : Nat) (l1 : List Int) (r : Bool) (w : World) (hr0_2 : Kd.C (Kd.int .i64) w A0_2 l0_2.length l0_2) (hc0_2 : l0_2.length ≤ c0_2) (hr1 : Kd.C (Kd.int .i64) w A1 l1.length l1) (hc1 : l1.length ≤ c1) (h : laws_FnExactHuntFleet.f k a0_0 a0_1 l0_2 l1 = some true) :
  Calls Try.prog 3 #[.agg #[.int .i64 a0_0, .int .i64 a0_1, .slice A0_2 l0_2.length c0_2], .slice A1 l1.length c1] w fun e w' => e = .returned (.bool true) ∧ Below w.heap.size w w' := by
 have hu24 := Try.underlying24
 have hu28 := Try.underlying28
 have HR0_2 := Aside0.mk hr0_2
 have HC0_2 := Aside0.mk hc0_2
 clear hr0_2 hc0_2
 have HR1 := Aside0.mk hr1
 have HC1 := Aside0.mk hc1
 clear hr1 hc1
 have HB := Aside0.mk (Below.refl w.heap.size w)
 have H : (if (l1.length : Int) > 1048576 then (some true) else ((laws_szSea.f a0_0 a0_1 l0_2 1048576).bind fun t451 => (if t451 < 0 then (some true) else ((laws_toSea.f k a0_0 a0_1 l0_2).bind fun bt452 => ((laws_toInt64S.f k l1).bind fun t457 => ((spec_HuntFleet.f k bt452.1 bt452.2.1 bt452.2.2 t457).bind fun bt460 => ((laws_toSea.f k a0_0 a0_1 l0_2).bind fun bt464 => ((laws_toInt64S.f k l1).bind fun t470 => ((impl_HuntFleet.f k bt464.1 bt464.2.1 bt464.2.2 t470).bind fun bt473 => ((laws_eqInt64S.f k bt473.1 bt460.1).bind fun t477 => (if t477 = true then (laws_FnExactHuntFleet.j0 k l1 bt460.1 bt460.2 t470 bt473.1 bt473.2 (bt473.2 != bt460.2) a0_0 a0_1 l0_2 bt464.1 bt464.2.1 bt464.2.2) else (laws_FnExactHuntFleet.j0 k l1 bt460.1 bt460.2 t470 bt473.1 bt473.2 true a0_0 a0_1 l0_2 bt464.1 bt464.2.1 bt464.2.2)))))))))))) = some true := h
 clear h
 by_cases c3 : (l1.length : Int) > 1048576
 ·rw [if_pos c3] at H
  have c3b0 : decide (1048576 < (l1.length : Int)) = true := decide_eq_true c3
  have c3b1 : decide (1048576 < l1.length) = true := decide_eq_true (by omega)
  clear c3
  clear H
  go_enter Try.func3, Try.ntmps3
  go_wp2_with (first | ((with_reducible refine gate_dst (N := 2) rfl ?_); refine box_event ?hg (N := 2) ?hd (cs := #[.int .i64 a0_0, .int .i64 a0_1, .slice A0_2 l0_2.length c0_2]) (t := 24) ?hr ?_; (case hd => rfl); (case hg => rfl); (case hr => first | (go_simp; done) | (go_simp; rfl)); intro gb450 hg w4 hbox hb; have n0_ := Aside0.mk (bp_ hb_ hb); have n1_ := Aside0.mk (hbox); have n2_ := Aside0.mk ((by rw [hg]; exact (bz_ hb_) : w.heap.size ≤ gb450)); have n3_ := Aside0.mk ((by rw [hg]; exact (bz_ hb_) : w.heap.size ≤ gb450)); clear HB; have HB := n0_; have BK450 := n1_; have GW450 := n2_; have GE450 := n3_; clear n0_ n1_ n2_ n3_; clear hb hbox hg))
  go_ret
  exact ⟨by first | rfl | (simp [errW_none, errW_some] <;> rfl) | (simp [*, errW_none, errW_some] <;> rfl), by repeat (first | (with_reducible first | exact HB.out | apply ba_ | apply pbN_ | apply bd1_ | refine bs_ ?_ GE450.out) | exact HB.out)⟩
 ·rw [if_neg c3] at H
  have c3b0 : decide (1048576 < (l1.length : Int)) = false := decide_eq_false c3
  have c3b1 : decide (1048576 < l1.length) = false := decide_eq_false (by omega)
  clear c3
  replace H := Option.bind_eq_some_iff.mp H
  obtain ⟨t451, A50, H⟩ := H
  replace H : (if t451 < 0 then (some true) else ((laws_toSea.f k a0_0 a0_1 l0_2).bind fun bt452 => ((laws_toInt64S.f k l1).bind fun t457 => ((spec_HuntFleet.f k bt452.1 bt452.2.1 bt452.2.2 t457).bind fun bt460 => ((laws_toSea.f k a0_0 a0_1 l0_2).bind fun bt464 => ((laws_toInt64S.f k l1).bind fun t470 => ((impl_HuntFleet.f k bt464.1 bt464.2.1 bt464.2.2 t470).bind fun bt473 => ((laws_eqInt64S.f k bt473.1 bt460.1).bind fun t477 => (if t477 = true then (laws_FnExactHuntFleet.j0 k l1 bt460.1 bt460.2 t470 bt473.1 bt473.2 (bt473.2 != bt460.2) a0_0 a0_1 l0_2 bt464.1 bt464.2.1 bt464.2.2) else (laws_FnExactHuntFleet.j0 k l1 bt460.1 bt460.2 t470 bt473.1 bt473.2 true a0_0 a0_1 l0_2 bt464.1 bt464.2.1 bt464.2.2)))))))))) = some true := H
  have A5 := Aside0.mk A50
  clear A50
  by_cases c6 : t451 < 0
  ·rw [if_pos c6] at H
   have c6b0 : decide (t451 < 0) = true := decide_eq_true c6
   clear c6
   clear H
   go_enter Try.func3, Try.ntmps3
   go_wp2_with (first | ((with_reducible refine gate_dst (N := 2) rfl ?_); refine box_event ?hg (N := 2) ?hd (cs := #[.int .i64 a0_0, .int .i64 a0_1, .slice A0_2 l0_2.length c0_2]) (t := 24) ?hr ?_; (case hd => rfl); (case hg => rfl); (case hr => first | (go_simp; done) | (go_simp; rfl)); intro gb450 hg w7 hbox hb; have n0_ := Aside0.mk (bp_ hb_ hb); have n1_ := Aside0.mk (hbox); have n2_ := Aside0.mk ((by rw [hg]; exact (bz_ hb_) : w.heap.size ≤ gb450)); have n3_ := Aside0.mk ((by rw [hg]; exact (bz_ hb_) : w.heap.size ≤ gb450)); clear HB; have HB := n0_; have BK450 := n1_; have GW450 := n2_; have GE450 := n3_; clear n0_ n1_ n2_ n3_; clear hb hbox hg; have hcz8_0 : w7.cell? ⟨gb450, 0, none⟩ = some (.int .i64 a0_0) := (bc_ BK450.out 0).trans rfl; have hcz8_1 : w7.cell? ⟨gb450, 1, none⟩ = some (.int .i64 a0_1) := (bc_ BK450.out 1).trans rfl; have hcz8_2 : w7.cell? ⟨gb450, 2, none⟩ = some (.slice A0_2 l0_2.length c0_2) := (bc_ BK450.out 2).trans rfl; have hfz8_0 := bf_ BK450.out 0; have hfz8_1 := bf_ BK450.out 1; have hfz8_2 := bf_ BK450.out 2) | ((with_reducible refine gate_callee (f := 4) rfl ?_); refine goesA_ (some 22) rfl rfl Try.func4 (by kernel_rfl) rfl #[.agg #[.int .i64 a0_0, .int .i64 a0_1, .slice A0_2 l0_2.length c0_2], .int .i64 1048576] rfl ?_; (with_reducible refine (laws_szSea.calls a0_0 a0_1 _ _ l0_2 1048576 t451 _ ?side1 ?side2 A5.out).mono ?_); (case side1 => repeat (first | exact (Kd.C_below HR0_2.out HB.out) | (with_reducible refine Kd.C_alloc ?_ _) | (with_reducible refine Kd.C_drewN ?_ _) | (with_reducible refine Kd.C_drew ?_))); (case side2 => exact HC0_2.out); rintro e w9 ⟨rfl, hb⟩; refine ⟨_, rfl, ?_⟩; have n0_ := Aside0.mk (bb_ (g := gb450) (o := .cells #[.int .i64 a0_0, .int .i64 a0_1, .slice A0_2 l0_2.length c0_2] 24 (0, 0)) (by (with_reducible repeat (first | refine bN_ ?_ _ | refine bkd_ ?_ | refine bka_ ?_ _)); exact BK450.out) hb); have n1_ := Aside0.mk (bp_ (by repeat (first | (with_reducible first | exact HB.out | apply ba_ | apply pbN_ | apply bd1_ | refine bs_ ?_ GE450.out) | exact HB.out)) hb); clear BK450; clear HB; have BK450 := n0_; have HB := n1_; clear n0_ n1_; (try clear hb); (try clear hb2); (try clear hk); (try clear hi)))
   go_ret
   exact ⟨by first | rfl | (simp [errW_none, errW_some] <;> rfl) | (simp [*, errW_none, errW_some] <;> rfl), by repeat (first | (with_reducible first | exact HB.out | apply ba_ | apply pbN_ | apply bd1_ | refine bs_ ?_ GE450.out) | exact HB.out)⟩
  ·rw [if_neg c6] at H
   have c6b0 : decide (t451 < 0) = false := decide_eq_false c6
   clear c6
   replace H := Option.bind_eq_some_iff.mp H
   obtain ⟨⟨t452, t453, t454⟩, A100, H⟩ := H
   replace H : ((laws_toInt64S.f k l1).bind fun t457 => ((spec_HuntFleet.f k t452 t453 t454 t457).bind fun bt460 => ((laws_toSea.f k a0_0 a0_1 l0_2).bind fun bt464 => ((laws_toInt64S.f k l1).bind fun t470 => ((impl_HuntFleet.f k bt464.1 bt464.2.1 bt464.2.2 t470).bind fun bt473 => ((laws_eqInt64S.f k bt473.1 bt460.1).bind fun t477 => (if t477 = true then (laws_FnExactHuntFleet.j0 k l1 bt460.1 bt460.2 t470 bt473.1 bt473.2 (bt473.2 != bt460.2) a0_0 a0_1 l0_2 bt464.1 bt464.2.1 bt464.2.2) else (laws_FnExactHuntFleet.j0 k l1 bt460.1 bt460.2 t470 bt473.1 bt473.2 true a0_0 a0_1 l0_2 bt464.1 bt464.2.1 bt464.2.2)))))))) = some true := H
   have A10 := Aside0.mk A100
   clear A100
   replace H := Option.bind_eq_some_iff.mp H
   obtain ⟨t457, A110, H⟩ := H
   replace H : ((spec_HuntFleet.f k t452 t453 t454 t457).bind fun bt460 => ((laws_toSea.f k a0_0 a0_1 l0_2).bind fun bt464 => ((laws_toInt64S.f k l1).bind fun t470 => ((impl_HuntFleet.f k bt464.1 bt464.2.1 bt464.2.2 t470).bind fun bt473 => ((laws_eqInt64S.f k bt473.1 bt460.1).bind fun t477 => (if t477 = true then (laws_FnExactHuntFleet.j0 k l1 bt460.1 bt460.2 t470 bt473.1 bt473.2 (bt473.2 != bt460.2) a0_0 a0_1 l0_2 bt464.1 bt464.2.1 bt464.2.2) else (laws_FnExactHuntFleet.j0 k l1 bt460.1 bt460.2 t470 bt473.1 bt473.2 true a0_0 a0_1 l0_2 bt464.1 bt464.2.1 bt464.2.2))))))) = some true := H
   have A11 := Aside0.mk A110
   clear A110
   replace H := Option.bind_eq_some_iff.mp H
   obtain ⟨⟨t460, t463⟩, A120, H⟩ := H
   replace H : ((laws_toSea.f k a0_0 a0_1 l0_2).bind fun bt464 => ((laws_toInt64S.f k l1).bind fun t470 => ((impl_HuntFleet.f k bt464.1 bt464.2.1 bt464.2.2 t470).bind fun bt473 => ((laws_eqInt64S.f k bt473.1 t460).bind fun t477 => (if t477 = true then (laws_FnExactHuntFleet.j0 k l1 t460 t463 t470 bt473.1 bt473.2 (bt473.2 != t463) a0_0 a0_1 l0_2 bt464.1 bt464.2.1 bt464.2.2) else (laws_FnExactHuntFleet.j0 k l1 t460 t463 t470 bt473.1 bt473.2 true a0_0 a0_1 l0_2 bt464.1 bt464.2.1 bt464.2.2)))))) = some true := H
   have A12 := Aside0.mk A120
   clear A120
   replace H := Option.bind_eq_some_iff.mp H
   obtain ⟨⟨t464, t465, t466⟩, A130, H⟩ := H
   replace H : ((laws_toInt64S.f k l1).bind fun t470 => ((impl_HuntFleet.f k t464 t465 t466 t470).bind fun bt473 => ((laws_eqInt64S.f k bt473.1 t460).bind fun t477 => (if t477 = true then (laws_FnExactHuntFleet.j0 k l1 t460 t463 t470 bt473.1 bt473.2 (bt473.2 != t463) a0_0 a0_1 l0_2 t464 t465 t466) else (laws_FnExactHuntFleet.j0 k l1 t460 t463 t470 bt473.1 bt473.2 true a0_0 a0_1 l0_2 t464 t465 t466))))) = some true := H
   have A13 := Aside0.mk A130
   clear A130
   replace H := Option.bind_eq_some_iff.mp H
   obtain ⟨t470, A140, H⟩ := H
   replace H : ((impl_HuntFleet.f k t464 t465 t466 t470).bind fun bt473 => ((laws_eqInt64S.f k bt473.1 t460).bind fun t477 => (if t477 = true then (laws_FnExactHuntFleet.j0 k l1 t460 t463 t470 bt473.1 bt473.2 (bt473.2 != t463) a0_0 a0_1 l0_2 t464 t465 t466) else (laws_FnExactHuntFleet.j0 k l1 t460 t463 t470 bt473.1 bt473.2 true a0_0 a0_1 l0_2 t464 t465 t466)))) = some true := H
   have A14 := Aside0.mk A140
   clear A140
   replace H := Option.bind_eq_some_iff.mp H
   obtain ⟨⟨t473, t476⟩, A150, H⟩ := H
   replace H : ((laws_eqInt64S.f k t473 t460).bind fun t477 => (if t477 = true then (laws_FnExactHuntFleet.j0 k l1 t460 t463 t470 t473 t476 (t476 != t463) a0_0 a0_1 l0_2 t464 t465 t466) else (laws_FnExactHuntFleet.j0 k l1 t460 t463 t470 t473 t476 true a0_0 a0_1 l0_2 t464 t465 t466))) = some true := H
   have A15 := Aside0.mk A150
   clear A150
   have HC16 := Aside0.mk H
   clear H
   go_enter Try.func3, Try.ntmps3
   go_upto_region 11 with (first | ((with_reducible refine gate_dst (N := 2) rfl ?_); refine box_event ?hg (N := 2) ?hd (cs := #[.int .i64 a0_0, .int .i64 a0_1, .slice A0_2 l0_2.length c0_2]) (t := 24) ?hr ?_; (case hd => rfl); (case hg => rfl); (case hr => first | (go_simp; done) | (go_simp; rfl)); intro gb450 hg w17 hbox hb; have n0_ := Aside0.mk (bp_ hb_ hb); have n1_ := Aside0.mk (hbox); have n2_ := Aside0.mk ((by rw [hg]; exact (bz_ hb_) : w.heap.size ≤ gb450)); have n3_ := Aside0.mk ((by rw [hg]; exact (bz_ hb_) : w.heap.size ≤ gb450)); clear HB; have HB := n0_; have BK450 := n1_; have GW450 := n2_; have GE450 := n3_; clear n0_ n1_ n2_ n3_; clear hb hbox hg; have hcz18_0 : w17.cell? ⟨gb450, 0, none⟩ = some (.int .i64 a0_0) := (bc_ BK450.out 0).trans rfl; have hcz18_1 : w17.cell? ⟨gb450, 1, none⟩ = some (.int .i64 a0_1) := (bc_ BK450.out 1).trans rfl; have hcz18_2 : w17.cell? ⟨gb450, 2, none⟩ = some (.slice A0_2 l0_2.length c0_2) := (bc_ BK450.out 2).trans rfl; have hfz18_0 := bf_ BK450.out 0; have hfz18_1 := bf_ BK450.out 1; have hfz18_2 := bf_ BK450.out 2) | ((with_reducible refine gate_callee (f := 4) rfl ?_); refine goesA_ (some 22) rfl rfl Try.func4 (by kernel_rfl) rfl #[.agg #[.int .i64 a0_0, .int .i64 a0_1, .slice A0_2 l0_2.length c0_2], .int .i64 1048576] rfl ?_; (with_reducible refine (laws_szSea.calls a0_0 a0_1 _ _ l0_2 1048576 t451 _ ?side1 ?side2 A5.out).mono ?_); (case side1 => repeat (first | exact (Kd.C_below HR0_2.out HB.out) | (with_reducible refine Kd.C_alloc ?_ _) | (with_reducible refine Kd.C_drewN ?_ _) | (with_reducible refine Kd.C_drew ?_))); (case side2 => exact HC0_2.out); rintro e w19 ⟨rfl, hb⟩; refine ⟨_, rfl, ?_⟩; have n0_ := Aside0.mk (bb_ (g := gb450) (o := .cells #[.int .i64 a0_0, .int .i64 a0_1, .slice A0_2 l0_2.length c0_2] 24 (0, 0)) (by (with_reducible repeat (first | refine bN_ ?_ _ | refine bkd_ ?_ | refine bka_ ?_ _)); exact BK450.out) hb); have n1_ := Aside0.mk (bp_ (by repeat (first | (with_reducible first | exact HB.out | apply ba_ | apply pbN_ | apply bd1_ | refine bs_ ?_ GE450.out) | exact HB.out)) hb); clear BK450; clear HB; have BK450 := n0_; have HB := n1_; clear n0_ n1_; (try clear hb); (try clear hb2); (try clear hk); (try clear hi); have hcz20_0 : w19.cell? ⟨gb450, 0, none⟩ = some (.int .i64 a0_0) := (bc_ BK450.out 0).trans rfl; have hcz20_1 : w19.cell? ⟨gb450, 1, none⟩ = some (.int .i64 a0_1) := (bc_ BK450.out 1).trans rfl; have hcz20_2 : w19.cell? ⟨gb450, 2, none⟩ = some (.slice A0_2 l0_2.length c0_2) := (bc_ BK450.out 2).trans rfl; have hfz20_0 := bf_ BK450.out 0; have hfz20_1 := bf_ BK450.out 1; have hfz20_2 := bf_ BK450.out 2) | ((with_reducible refine gate_callee (f := 6) rfl ?_); refine goesA_ (some 27) rfl rfl Try.func6 (by kernel_rfl) rfl #[.agg #[.int .i64 a0_0, .int .i64 a0_1, .slice A0_2 l0_2.length c0_2]] rfl ?_; (with_reducible refine (laws_toSea.calls k a0_0 a0_1 _ _ l0_2 t452 t453 t454 _ ?side1 ?side2 A10.out).mono ?_); (case side1 => repeat (first | exact (Kd.C_below HR0_2.out HB.out) | (with_reducible refine Kd.C_alloc ?_ _) | (with_reducible refine Kd.C_drewN ?_ _) | (with_reducible refine Kd.C_drew ?_))); (case side2 => exact HC0_2.out); rintro e w21 ⟨v455, rfl, ho0, hb⟩; refine ⟨_, rfl, ?_⟩; have n0_ := Aside0.mk (Kd.R_lower ho0 (bz_ (by repeat (first | (with_reducible first | exact HB.out | apply ba_ | apply pbN_ | apply bd1_ | refine bs_ ?_ GE450.out) | exact HB.out)))); have n1_ := Aside0.mk (bb_ (g := gb450) (o := .cells #[.int .i64 a0_0, .int .i64 a0_1, .slice A0_2 l0_2.length c0_2] 24 (0, 0)) (by (with_reducible repeat (first | refine bN_ ?_ _ | refine bkd_ ?_ | refine bka_ ?_ _)); exact BK450.out) hb); have n2_ := Aside0.mk (bp_ (by repeat (first | (with_reducible first | exact HB.out | apply ba_ | apply pbN_ | apply bd1_ | refine bs_ ?_ GE450.out) | exact HB.out)) hb); clear BK450; clear HB; have HO456 := n0_; have BK450 := n1_; have HB := n2_; clear n0_ n1_ n2_; (try clear hb); (try clear hb2); (try clear hk); (try clear hi); (try clear ho0)) | ((with_reducible refine gate_callee (f := 7) rfl ?_); refine goesA_ (some 29) rfl rfl Try.func7 (by kernel_rfl) rfl #[.slice A1 l1.length c1] rfl ?_; (with_reducible refine (laws_toInt64S.calls k _ _ l1 t457 _ ?side1 ?side2 A11.out).mono ?_); (case side1 => repeat (first | exact (Kd.C_below HR1.out HB.out) | (with_reducible refine Kd.C_alloc ?_ _) | (with_reducible refine Kd.C_drewN ?_ _) | (with_reducible refine Kd.C_drew ?_))); (case side2 => exact HC1.out); rintro e w22 ⟨v458, rfl, ho0, hb⟩; refine ⟨_, rfl, ?_⟩; have n0_ := Aside0.mk (Kd.R_elder' (by (with_reducible repeat (first | apply Kd.R_alloc | apply Kd.R_drewN | apply Kd.R_drew)); exact HO456.out) (Kd.R_base ho0) hb); have n1_ := Aside0.mk (Kd.R_lower (Kd.R_new' ho0 (Kd.R_lt (by (with_reducible repeat (first | apply Kd.R_alloc | apply Kd.R_drewN | apply Kd.R_drew)); exact HO456.out))) (bz_ (by repeat (first | (with_reducible first | exact HB.out | apply ba_ | apply pbN_ | apply bd1_ | refine bs_ ?_ GE450.out) | exact HB.out)))); have n2_ := Aside0.mk (bb_ (g := gb450) (o := .cells #[.int .i64 a0_0, .int .i64 a0_1, .slice A0_2 l0_2.length c0_2] 24 (0, 0)) (by (with_reducible repeat (first | refine bN_ ?_ _ | refine bkd_ ?_ | refine bka_ ?_ _)); exact BK450.out) hb); have n3_ := Aside0.mk (bp_ (by repeat (first | (with_reducible first | exact HB.out | apply ba_ | apply pbN_ | apply bd1_ | refine bs_ ?_ GE450.out) | exact HB.out)) hb); clear HO456; clear BK450; clear HB; have HO456 := n0_; have HO459 := n1_; have BK450 := n2_; have HB := n3_; clear n0_ n1_ n2_ n3_; (try clear hb); (try clear hb2); (try clear hk); (try clear hi); (try clear ho0); obtain ⟨Ao23, co23, eo23⟩ := Kd.R_slice HO456.out; subst eo23; obtain ⟨Ao24, co24, eo24⟩ := Kd.R_slice HO459.out; subst eo24) | ((with_reducible refine gate_callee (f := 5) rfl ?_); refine goesA_ (some 30) rfl rfl Try.func5 (by kernel_rfl) rfl #[.agg #[.int .i64 t452, .int .i64 t453, .slice Ao23 t454.length co23], .slice Ao24 t457.length co24] rfl ?_; (with_reducible refine (spec_HuntFleet.calls k t452 t453 _ _ t454 _ _ t457 t460 t463 _ ?side1 ?side2 ?side3 ?side4 A12.out).mono ?_); (case side1 => repeat (first | exact (Kd.R_reads' HO456.out).2.2 | (with_reducible refine Kd.C_alloc ?_ _) | (with_reducible refine Kd.C_drewN ?_ _) | (with_reducible refine Kd.C_drew ?_))); (case side2 => exact (Kd.R_reads' HO456.out).2.1); (case side3 => repeat (first | exact (Kd.R_reads' HO459.out).2.2 | (with_reducible refine Kd.C_alloc ?_ _) | (with_reducible refine Kd.C_drewN ?_ _) | (with_reducible refine Kd.C_drew ?_))); (case side4 => exact (Kd.R_reads' HO459.out).2.1); rintro e w25 ⟨v461, rfl, ho0, hb⟩; refine ⟨_, rfl, ?_⟩; have n0_ := Aside0.mk (Kd.R_elder' (by (with_reducible repeat (first | apply Kd.R_alloc | apply Kd.R_drewN | apply Kd.R_drew)); exact HO456.out) (Kd.R_base ho0) hb); have n1_ := Aside0.mk (Kd.R_elder' (by (with_reducible repeat (first | apply Kd.R_alloc | apply Kd.R_drewN | apply Kd.R_drew)); exact HO459.out) (Kd.R_base ho0) hb); have n2_ := Aside0.mk (Kd.R_lower (Kd.R_new' (Kd.R_new' ho0 (Kd.R_lt (by (with_reducible repeat (first | apply Kd.R_alloc | apply Kd.R_drewN | apply Kd.R_drew)); exact HO456.out))) (Kd.R_lt (by (with_reducible repeat (first | apply Kd.R_alloc | apply Kd.R_drewN | apply Kd.R_drew)); exact HO459.out))) (bz_ (by repeat (first | (with_reducible first | exact HB.out | apply ba_ | apply pbN_ | apply bd1_ | refine bs_ ?_ GE450.out) | exact HB.out)))); have n3_ := Aside0.mk (bb_ (g := gb450) (o := .cells #[.int .i64 a0_0, .int .i64 a0_1, .slice A0_2 l0_2.length c0_2] 24 (0, 0)) (by (with_reducible repeat (first | refine bN_ ?_ _ | refine bkd_ ?_ | refine bka_ ?_ _)); exact BK450.out) hb); have n4_ := Aside0.mk (bp_ (by repeat (first | (with_reducible first | exact HB.out | apply ba_ | apply pbN_ | apply bd1_ | refine bs_ ?_ GE450.out) | exact HB.out)) hb); clear HO456; clear HO459; clear BK450; clear HB; have HO456 := n0_; have HO459 := n1_; have HO462 := n2_; have BK450 := n3_; have HB := n4_; clear n0_ n1_ n2_ n3_ n4_; (try clear hb); (try clear hb2); (try clear hk); (try clear hi); (try clear ho0); have hcz26_0 : w25.cell? ⟨gb450, 0, none⟩ = some (.int .i64 a0_0) := (bc_ BK450.out 0).trans rfl; have hcz26_1 : w25.cell? ⟨gb450, 1, none⟩ = some (.int .i64 a0_1) := (bc_ BK450.out 1).trans rfl; have hcz26_2 : w25.cell? ⟨gb450, 2, none⟩ = some (.slice A0_2 l0_2.length c0_2) := (bc_ BK450.out 2).trans rfl; have hfz26_0 := bf_ BK450.out 0; have hfz26_1 := bf_ BK450.out 1; have hfz26_2 := bf_ BK450.out 2) | ((with_reducible refine gate_callee (f := 6) rfl ?_); refine goesA_ (some 34) rfl rfl Try.func6 (by kernel_rfl) rfl #[.agg #[.int .i64 a0_0, .int .i64 a0_1, .slice A0_2 l0_2.length c0_2]] rfl ?_; (with_reducible refine (laws_toSea.calls k a0_0 a0_1 _ _ l0_2 t464 t465 t466 _ ?side1 ?side2 A13.out).mono ?_); (case side1 => repeat (first | exact (Kd.C_below HR0_2.out HB.out) | (with_reducible refine Kd.C_alloc ?_ _) | (with_reducible refine Kd.C_drewN ?_ _) | (with_reducible refine Kd.C_drew ?_))); (case side2 => exact HC0_2.out); rintro e w27 ⟨v467, rfl, ho0, hb⟩; refine ⟨_, rfl, ?_⟩; have n0_ := Aside0.mk (Kd.R_elder' (by (with_reducible repeat (first | apply Kd.R_alloc | apply Kd.R_drewN | apply Kd.R_drew)); exact HO456.out) (Kd.R_base ho0) hb); have n1_ := Aside0.mk (Kd.R_elder' (by (with_reducible repeat (first | apply Kd.R_alloc | apply Kd.R_drewN | apply Kd.R_drew)); exact HO459.out) (Kd.R_base ho0) hb); have n2_ := Aside0.mk (Kd.R_elder' (by (with_reducible repeat (first | apply Kd.R_alloc | apply Kd.R_drewN | apply Kd.R_drew)); exact HO462.out) (Kd.R_base ho0) hb); have n3_ := Aside0.mk (Kd.R_lower (Kd.R_new' (Kd.R_new' (Kd.R_new' ho0 (Kd.R_lt (by (with_reducible repeat (first | apply Kd.R_alloc | apply Kd.R_drewN | apply Kd.R_drew)); exact HO456.out))) (Kd.R_lt (by (with_reducible repeat (first | apply Kd.R_alloc | apply Kd.R_drewN | apply Kd.R_drew)); exact HO459.out))) (Kd.R_lt (by (with_reducible repeat (first | apply Kd.R_alloc | apply Kd.R_drewN | apply Kd.R_drew)); exact HO462.out))) (bz_ (by repeat (first | (with_reducible first | exact HB.out | apply ba_ | apply pbN_ | apply bd1_ | refine bs_ ?_ GE450.out) | exact HB.out)))); have n4_ := Aside0.mk (bb_ (g := gb450) (o := .cells #[.int .i64 a0_0, .int .i64 a0_1, .slice A0_2 l0_2.length c0_2] 24 (0, 0)) (by (with_reducible repeat (first | refine bN_ ?_ _ | refine bkd_ ?_ | refine bka_ ?_ _)); exact BK450.out) hb); have n5_ := Aside0.mk (bp_ (by repeat (first | (with_reducible first | exact HB.out | apply ba_ | apply pbN_ | apply bd1_ | refine bs_ ?_ GE450.out) | exact HB.out)) hb); clear HO456; clear HO459; clear HO462; clear BK450; clear HB; have HO456 := n0_; have HO459 := n1_; have HO462 := n2_; have HO468 := n3_; have BK450 := n4_; have HB := n5_; clear n0_ n1_ n2_ n3_ n4_ n5_; (try clear hb); (try clear hb2); (try clear hk); (try clear hi); (try clear ho0)) | ((with_reducible refine gate_dst (N := 8) rfl ?_); refine box_event ?hg (N := 8) ?hd (cs := #[.int .i64 0, .int .i64 0, .slice none 0 0]) (t := 28) ?hr ?_; (case hd => rfl); (case hg => rfl); (case hr => first | (go_simp; done) | (go_simp; rfl)); intro gb469 hg w28 hbox hb; have n0_ := Aside0.mk (Kd.R_below (by (with_reducible repeat (first | apply Kd.R_alloc | apply Kd.R_drewN | apply Kd.R_drew)); exact HO456.out) hb); have n1_ := Aside0.mk (Kd.R_below (by (with_reducible repeat (first | apply Kd.R_alloc | apply Kd.R_drewN | apply Kd.R_drew)); exact HO459.out) hb); have n2_ := Aside0.mk (Kd.R_below (by (with_reducible repeat (first | apply Kd.R_alloc | apply Kd.R_drewN | apply Kd.R_drew)); exact HO462.out) hb); have n3_ := Aside0.mk (Kd.R_below (by (with_reducible repeat (first | apply Kd.R_alloc | apply Kd.R_drewN | apply Kd.R_drew)); exact HO468.out) hb); have n4_ := Aside0.mk (bb_ (g := gb450) (o := .cells #[.int .i64 a0_0, .int .i64 a0_1, .slice A0_2 l0_2.length c0_2] 24 (0, 0)) (by (with_reducible repeat (first | refine bN_ ?_ _ | refine bkd_ ?_ | refine bka_ ?_ _)); exact BK450.out) hb); have n5_ := Aside0.mk (bp_ (by repeat (first | (with_reducible first | exact HB.out | apply ba_ | apply pbN_ | apply bd1_ | refine bs_ ?_ GE450.out) | exact HB.out)) hb); have n6_ := Aside0.mk (hbox); have n7_ := Aside0.mk ((by rw [hg]; exact (bz_ (by repeat (first | (with_reducible first | exact HB.out | apply ba_ | apply pbN_ | apply bd1_ | refine bs_ ?_ GE450.out) | exact HB.out))) : w.heap.size ≤ gb469)); have n8_ := Aside0.mk ((by rw [hg]; exact (bz_ (by repeat (first | (with_reducible first | exact HB.out | apply ba_ | apply pbN_ | apply bd1_ | refine bs_ ?_ GE450.out) | exact HB.out))) : w.heap.size ≤ gb469)); have n9_ := Aside0.mk ((by rw [hg]; exact Nat.ne_of_lt (blk_lt (g := gb450) (o := .cells #[.int .i64 a0_0, .int .i64 a0_1, .slice A0_2 l0_2.length c0_2] 24 (0, 0)) (by (with_reducible repeat (first | refine bN_ ?_ _ | refine bkd_ ?_ | refine bka_ ?_ _)); exact BK450.out)) : gb450 ≠ gb469)); have n10_ := Aside0.mk ((by rw [hg]; exact Nat.ne_of_gt (blk_lt (g := gb450) (o := .cells #[.int .i64 a0_0, .int .i64 a0_1, .slice A0_2 l0_2.length c0_2] 24 (0, 0)) (by (with_reducible repeat (first | refine bN_ ?_ _ | refine bkd_ ?_ | refine bka_ ?_ _)); exact BK450.out)) : gb469 ≠ gb450)); clear HO456; clear HO459; clear HO462; clear HO468; clear BK450; clear HB; have HO456 := n0_; have HO459 := n1_; have HO462 := n2_; have HO468 := n3_; have BK450 := n4_; have HB := n5_; have BK469 := n6_; have GW469 := n7_; have GE469 := n8_; have NB450_469 := n9_; have NB469_450 := n10_; clear n0_ n1_ n2_ n3_ n4_ n5_ n6_ n7_ n8_ n9_ n10_; clear hb hbox hg; have hnb29 := NB469_450.out; have hnc29 := NB450_469.out; have hcz30_0 : w28.cell? ⟨gb469, 0, none⟩ = some (.int .i64 0) := (bc_ BK469.out 0).trans rfl; have hcz30_1 : w28.cell? ⟨gb469, 1, none⟩ = some (.int .i64 0) := (bc_ BK469.out 1).trans rfl; have hcz30_2 : w28.cell? ⟨gb469, 2, none⟩ = some (.slice none 0 0) := (bc_ BK469.out 2).trans rfl; have hfz30_0 := bf_ BK469.out 0; have hfz30_1 := bf_ BK469.out 1; have hfz30_2 := bf_ BK469.out 2; obtain ⟨Ao31, co31, eo31⟩ := Kd.R_slice HO468.out; subst eo31) | ((with_reducible refine gate_callee (f := 7) rfl ?_); refine goesA_ (some 36) rfl rfl Try.func7 (by kernel_rfl) rfl #[.slice A1 l1.length c1] rfl ?_; (with_reducible refine (laws_toInt64S.calls k _ _ l1 t470 _ ?side1 ?side2 A14.out).mono ?_); (case side1 => exact Kd.C_below HR1.out (by repeat (first | (with_reducible first | exact HB.out | apply ba_ | apply pbN_ | apply bd1_ | refine bs_ ?_ GE450.out | refine bs_ ?_ GE469.out) | exact HB.out))); (case side2 => exact HC1.out); rintro e w32 ⟨v471, rfl, ho0, hb⟩; refine ⟨_, rfl, ?_⟩; have n0_ := Aside0.mk (Kd.R_elder' (by (with_reducible repeat (first | apply Kd.R_alloc | apply Kd.R_drewN | apply Kd.R_drew)); exact (Kd.R_mono (Kd.R_far (p := ⟨gb469, 2, none⟩) (Kd.R_far (p := ⟨gb469, 1, none⟩) (Kd.R_far (p := ⟨gb469, 0, none⟩) (Kd.R_types HO456.out BK469.out (by decide)) (fun _ hk => hk.2) (.int .i64 t464)) (fun _ hk => hk.2) (.int .i64 t465)) (fun _ hk => hk.2) (.slice Ao31 t466.length co31)) (fun _ h_ => h_.1))) (Kd.R_base ho0) hb); have n1_ := Aside0.mk (Kd.R_elder' (by (with_reducible repeat (first | apply Kd.R_alloc | apply Kd.R_drewN | apply Kd.R_drew)); exact (Kd.R_mono (Kd.R_far (p := ⟨gb469, 2, none⟩) (Kd.R_far (p := ⟨gb469, 1, none⟩) (Kd.R_far (p := ⟨gb469, 0, none⟩) (Kd.R_types HO459.out BK469.out (by decide)) (fun _ hk => hk.2) (.int .i64 t464)) (fun _ hk => hk.2) (.int .i64 t465)) (fun _ hk => hk.2) (.slice Ao31 t466.length co31)) (fun _ h_ => h_.1))) (Kd.R_base ho0) hb); have n2_ := Aside0.mk (Kd.R_elder' (by (with_reducible repeat (first | apply Kd.R_alloc | apply Kd.R_drewN | apply Kd.R_drew)); exact (Kd.R_mono (Kd.R_far (p := ⟨gb469, 2, none⟩) (Kd.R_far (p := ⟨gb469, 1, none⟩) (Kd.R_far (p := ⟨gb469, 0, none⟩) (Kd.R_types HO462.out BK469.out (by decide)) (fun _ hk => hk.2) (.int .i64 t464)) (fun _ hk => hk.2) (.int .i64 t465)) (fun _ hk => hk.2) (.slice Ao31 t466.length co31)) (fun _ h_ => h_.1))) (Kd.R_base ho0) hb); have n3_ := Aside0.mk (Kd.R_elder' (by (with_reducible repeat (first | apply Kd.R_alloc | apply Kd.R_drewN | apply Kd.R_drew)); exact (Kd.R_mono (Kd.R_far (p := ⟨gb469, 2, none⟩) (Kd.R_far (p := ⟨gb469, 1, none⟩) (Kd.R_far (p := ⟨gb469, 0, none⟩) (Kd.R_types HO468.out BK469.out (by decide)) (fun _ hk => hk.2) (.int .i64 t464)) (fun _ hk => hk.2) (.int .i64 t465)) (fun _ hk => hk.2) (.slice Ao31 t466.length co31)) (fun _ h_ => h_.1))) (Kd.R_base ho0) hb); have n4_ := Aside0.mk (Kd.R_lower (Kd.R_new' (Kd.R_new' (Kd.R_new' (Kd.R_new' ho0 (Kd.R_lt (by (with_reducible repeat (first | apply Kd.R_alloc | apply Kd.R_drewN | apply Kd.R_drew)); exact (Kd.R_mono (Kd.R_far (p := ⟨gb469, 2, none⟩) (Kd.R_far (p := ⟨gb469, 1, none⟩) (Kd.R_far (p := ⟨gb469, 0, none⟩) (Kd.R_types HO456.out BK469.out (by decide)) (fun _ hk => hk.2) (.int .i64 t464)) (fun _ hk => hk.2) (.int .i64 t465)) (fun _ hk => hk.2) (.slice Ao31 t466.length co31)) (fun _ h_ => h_.1))))) (Kd.R_lt (by (with_reducible repeat (first | apply Kd.R_alloc | apply Kd.R_drewN | apply Kd.R_drew)); exact (Kd.R_mono (Kd.R_far (p := ⟨gb469, 2, none⟩) (Kd.R_far (p := ⟨gb469, 1, none⟩) (Kd.R_far (p := ⟨gb469, 0, none⟩) (Kd.R_types HO459.out BK469.out (by decide)) (fun _ hk => hk.2) (.int .i64 t464)) (fun _ hk => hk.2) (.int .i64 t465)) (fun _ hk => hk.2) (.slice Ao31 t466.length co31)) (fun _ h_ => h_.1))))) (Kd.R_lt (by (with_reducible repeat (first | apply Kd.R_alloc | apply Kd.R_drewN | apply Kd.R_drew)); exact (Kd.R_mono (Kd.R_far (p := ⟨gb469, 2, none⟩) (Kd.R_far (p := ⟨gb469, 1, none⟩) (Kd.R_far (p := ⟨gb469, 0, none⟩) (Kd.R_types HO462.out BK469.out (by decide)) (fun _ hk => hk.2) (.int .i64 t464)) (fun _ hk => hk.2) (.int .i64 t465)) (fun _ hk => hk.2) (.slice Ao31 t466.length co31)) (fun _ h_ => h_.1))))) (Kd.R_lt (by (with_reducible repeat (first | apply Kd.R_alloc | apply Kd.R_drewN | apply Kd.R_drew)); exact (Kd.R_mono (Kd.R_far (p := ⟨gb469, 2, none⟩) (Kd.R_far (p := ⟨gb469, 1, none⟩) (Kd.R_far (p := ⟨gb469, 0, none⟩) (Kd.R_types HO468.out BK469.out (by decide)) (fun _ hk => hk.2) (.int .i64 t464)) (fun _ hk => hk.2) (.int .i64 t465)) (fun _ hk => hk.2) (.slice Ao31 t466.length co31)) (fun _ h_ => h_.1))))) (bz_ (by repeat (first | (with_reducible first | exact HB.out | apply ba_ | apply pbN_ | apply bd1_ | refine bs_ ?_ GE450.out | refine bs_ ?_ GE469.out) | exact HB.out)))); have n5_ := Aside0.mk (bb_ (g := gb450) (o := .cells #[.int .i64 a0_0, .int .i64 a0_1, .slice A0_2 l0_2.length c0_2] 24 (0, 0)) (by (with_reducible repeat (first | refine bN_ ?_ _ | refine bkd_ ?_ | refine bka_ ?_ _)); refine blk_far ?_ NB450_469.out _; (with_reducible repeat (first | refine bN_ ?_ _ | refine bkd_ ?_ | refine bka_ ?_ _)); refine blk_far ?_ NB450_469.out _; (with_reducible repeat (first | refine bN_ ?_ _ | refine bkd_ ?_ | refine bka_ ?_ _)); refine blk_far ?_ NB450_469.out _; (with_reducible repeat (first | refine bN_ ?_ _ | refine bkd_ ?_ | refine bka_ ?_ _)); exact BK450.out) hb); have n6_ := Aside0.mk (bb_ (g := gb469) (o := .cells #[.int .i64 t464, .int .i64 t465, .slice Ao31 t466.length co31] 28 (0, 0)) (by (with_reducible repeat (first | refine bN_ ?_ _ | refine bkd_ ?_ | refine bka_ ?_ _)); refine blk_put (cs := #[.int .i64 t464, .int .i64 t465, .slice none 0 0]) ?_ 2 _ rfl; (with_reducible repeat (first | refine bN_ ?_ _ | refine bkd_ ?_ | refine bka_ ?_ _)); refine blk_put (cs := #[.int .i64 t464, .int .i64 0, .slice none 0 0]) ?_ 1 _ rfl; (with_reducible repeat (first | refine bN_ ?_ _ | refine bkd_ ?_ | refine bka_ ?_ _)); refine blk_put (cs := #[.int .i64 0, .int .i64 0, .slice none 0 0]) ?_ 0 _ rfl; (with_reducible repeat (first | refine bN_ ?_ _ | refine bkd_ ?_ | refine bka_ ?_ _)); exact BK469.out) hb); have n7_ := Aside0.mk (bp_ (by repeat (first | (with_reducible first | exact HB.out | apply ba_ | apply pbN_ | apply bd1_ | refine bs_ ?_ GE450.out | refine bs_ ?_ GE469.out) | exact HB.out)) hb); clear HO456; clear HO459; clear HO462; clear HO468; clear BK450; clear BK469; clear HB; have HO456 := n0_; have HO459 := n1_; have HO462 := n2_; have HO468 := n3_; have HO472 := n4_; have BK450 := n5_; have BK469 := n6_; have HB := n7_; clear n0_ n1_ n2_ n3_ n4_ n5_ n6_ n7_; (try clear hb); (try clear hb2); (try clear hk); (try clear hi); (try clear ho0); have hcz33_0 : w32.cell? ⟨gb469, 0, none⟩ = some (.int .i64 t464) := (bc_ BK469.out 0).trans rfl; have hcz33_1 : w32.cell? ⟨gb469, 1, none⟩ = some (.int .i64 t465) := (bc_ BK469.out 1).trans rfl; have hcz33_2 : w32.cell? ⟨gb469, 2, none⟩ = some (.slice Ao31 t466.length co31) := (bc_ BK469.out 2).trans rfl; have hfz33_0 := bf_ BK469.out 0; have hfz33_1 := bf_ BK469.out 1; have hfz33_2 := bf_ BK469.out 2; obtain ⟨Ao34, co34, eo34⟩ := Kd.R_slice HO472.out; subst eo34) | ((with_reducible refine gate_callee (f := 8) rfl ?_); refine goesA_ (some 40) rfl rfl Try.func8 (by kernel_rfl) rfl #[.agg #[.int .i64 t464, .int .i64 t465, .slice Ao31 t466.length co31], .slice Ao34 t470.length co34] rfl ?_; (with_reducible refine (impl_HuntFleet.calls k t464 t465 _ _ t466 _ _ t470 t473 t476 _ ?side1 ?side2 ?side3 ?side4 A15.out).mono ?_); (case side1 => repeat (first | exact (Kd.R_reads' HO468.out).2.2 | (with_reducible refine Kd.C_alloc ?_ _) | (with_reducible refine Kd.C_drewN ?_ _) | (with_reducible refine Kd.C_drew ?_))); (case side2 => exact (Kd.R_reads' HO468.out).2.1); (case side3 => repeat (first | exact (Kd.R_reads' HO472.out).2.2 | (with_reducible refine Kd.C_alloc ?_ _) | (with_reducible refine Kd.C_drewN ?_ _) | (with_reducible refine Kd.C_drew ?_))); (case side4 => exact (Kd.R_reads' HO472.out).2.1); rintro e w35 ⟨v474, rfl, ho0, hb⟩; refine ⟨_, rfl, ?_⟩; have n0_ := Aside0.mk (Kd.R_elder' (by (with_reducible repeat (first | apply Kd.R_alloc | apply Kd.R_drewN | apply Kd.R_drew)); exact HO456.out) (Kd.R_base ho0) hb); have n1_ := Aside0.mk (Kd.R_elder' (by (with_reducible repeat (first | apply Kd.R_alloc | apply Kd.R_drewN | apply Kd.R_drew)); exact HO459.out) (Kd.R_base ho0) hb); have n2_ := Aside0.mk (Kd.R_elder' (by (with_reducible repeat (first | apply Kd.R_alloc | apply Kd.R_drewN | apply Kd.R_drew)); exact HO462.out) (Kd.R_base ho0) hb); have n3_ := Aside0.mk (Kd.R_elder' (by (with_reducible repeat (first | apply Kd.R_alloc | apply Kd.R_drewN | apply Kd.R_drew)); exact HO468.out) (Kd.R_base ho0) hb); have n4_ := Aside0.mk (Kd.R_elder' (by (with_reducible repeat (first | apply Kd.R_alloc | apply Kd.R_drewN | apply Kd.R_drew)); exact HO472.out) (Kd.R_base ho0) hb); have n5_ := Aside0.mk (Kd.R_lower (Kd.R_new' (Kd.R_new' (Kd.R_new' (Kd.R_new' (Kd.R_new' ho0 (Kd.R_lt (by (with_reducible repeat (first | apply Kd.R_alloc | apply Kd.R_drewN | apply Kd.R_drew)); exact HO456.out))) (Kd.R_lt (by (with_reducible repeat (first | apply Kd.R_alloc | apply Kd.R_drewN | apply Kd.R_drew)); exact HO459.out))) (Kd.R_lt (by (with_reducible repeat (first | apply Kd.R_alloc | apply Kd.R_drewN | apply Kd.R_drew)); exact HO462.out))) (Kd.R_lt (by (with_reducible repeat (first | apply Kd.R_alloc | apply Kd.R_drewN | apply Kd.R_drew)); exact HO468.out))) (Kd.R_lt (by (with_reducible repeat (first | apply Kd.R_alloc | apply Kd.R_drewN | apply Kd.R_drew)); exact HO472.out))) (bz_ (by repeat (first | (with_reducible first | exact HB.out | apply ba_ | apply pbN_ | apply bd1_ | refine bs_ ?_ GE450.out | refine bs_ ?_ GE469.out) | exact HB.out)))); have n6_ := Aside0.mk (bb_ (g := gb450) (o := .cells #[.int .i64 a0_0, .int .i64 a0_1, .slice A0_2 l0_2.length c0_2] 24 (0, 0)) (by (with_reducible repeat (first | refine bN_ ?_ _ | refine bkd_ ?_ | refine bka_ ?_ _)); exact BK450.out) hb); have n7_ := Aside0.mk (bb_ (g := gb469) (o := .cells #[.int .i64 t464, .int .i64 t465, .slice Ao31 t466.length co31] 28 (0, 0)) (by (with_reducible repeat (first | refine bN_ ?_ _ | refine bkd_ ?_ | refine bka_ ?_ _)); exact BK469.out) hb); have n8_ := Aside0.mk (bp_ (by repeat (first | (with_reducible first | exact HB.out | apply ba_ | apply pbN_ | apply bd1_ | refine bs_ ?_ GE450.out | refine bs_ ?_ GE469.out) | exact HB.out)) hb); clear HO456; clear HO459; clear HO462; clear HO468; clear HO472; clear BK450; clear BK469; clear HB; have HO456 := n0_; have HO459 := n1_; have HO462 := n2_; have HO468 := n3_; have HO472 := n4_; have HO475 := n5_; have BK450 := n6_; have BK469 := n7_; have HB := n8_; clear n0_ n1_ n2_ n3_ n4_ n5_ n6_ n7_ n8_; (try clear hb); (try clear hb2); (try clear hk); (try clear hi); (try clear ho0)))
   (try simp only [Act.put, List.setIfInBounds_toArray, List.set_cons_zero, List.set_cons_succ])
   go_cut [51] (fun v51 wc => ∃ (kq : Nat) (x51_15 : Bool), v51 = .bool x51_15 ∧ Aside0 (laws_FnExactHuntFleet.j0 kq l1 t460 t463 t470 t473 t476 x51_15 a0_0 a0_1 l0_2 t464 t465 t466 = some true) ∧ Aside0 (kq ≤ k) ∧ Aside0 (Kd.R (Kd.int .i64) 2 wc w.heap.size (fun k_ => some k_ ≠ ((.slice Ao34 t470.length co34) : Value).ownBlock ∧ some k_ ≠ (v474 : Value).ownBlock ∧ some k_ ≠ ((.slice Ao31 t466.length co31) : Value).ownBlock) v461 t460) ∧ Aside0 (Kd.R (Kd.int .i64) 2 wc w.heap.size (fun k_ => some k_ ≠ (v461 : Value).ownBlock ∧ some k_ ≠ (v474 : Value).ownBlock ∧ some k_ ≠ ((.slice Ao31 t466.length co31) : Value).ownBlock) (.slice Ao34 t470.length co34) t470) ∧ Aside0 (Kd.R (Kd.int .i64) 2 wc w.heap.size (fun k_ => some k_ ≠ (v461 : Value).ownBlock ∧ some k_ ≠ ((.slice Ao34 t470.length co34) : Value).ownBlock ∧ some k_ ≠ ((.slice Ao31 t466.length co31) : Value).ownBlock) v474 t473) ∧ Aside0 (Kd.R (Kd.int .i64) 2 wc w.heap.size (fun k_ => some k_ ≠ (v461 : Value).ownBlock ∧ some k_ ≠ ((.slice Ao34 t470.length co34) : Value).ownBlock ∧ some k_ ≠ (v474 : Value).ownBlock) (.slice Ao31 t466.length co31) t466) ∧ Aside0 (wc.heap[gb450]? = some (.cells #[.int .i64 a0_0, .int .i64 a0_1, (.slice A0_2 l0_2.length c0_2)] 24 (0, 0))) ∧ Aside0 (wc.heap[gb469]? = some (.cells #[.int .i64 t464, .int .i64 t465, (.slice Ao31 t466.length co31)] 28 (0, 0))) ∧ Aside0 (Below w.heap.size w wc))
   case first =>
    have H := HC16.out
    clear HC16
    replace H := Option.bind_eq_some_iff.mp H
    obtain ⟨t477, A360, H⟩ := H
    replace H : (if t477 = true then (laws_FnExactHuntFleet.j0 k l1 t460 t463 t470 t473 t476 (t476 != t463) a0_0 a0_1 l0_2 t464 t465 t466) else (laws_FnExactHuntFleet.j0 k l1 t460 t463 t470 t473 t476 true a0_0 a0_1 l0_2 t464 t465 t466)) = some true := H
    have A36 := Aside0.mk A360
    clear A360
    by_cases c37 : t477 = true
    ·subst c37
     have H1 : (laws_FnExactHuntFleet.j0 k l1 t460 t463 t470 t473 t476 (t476 != t463) a0_0 a0_1 l0_2 t464 t465 t466) = some true := by rw [if_pos rfl] at H; exact H
     clear H
     have H := H1
     clear H1
     have H' := Aside0.mk H
     clear H
     obtain ⟨Ao38, co38, eo38⟩ := Kd.R_slice HO475.out
     subst eo38
     obtain ⟨Ao39, co39, eo39⟩ := Kd.R_slice HO462.out
     subst eo39
     go_wp2_with (first | ((with_reducible refine gate_callee (f := 9) rfl ?_); refine goesA_ (some 45) rfl rfl Try.func9 (by kernel_rfl) rfl #[.slice Ao38 t473.length co38, .slice Ao39 t460.length co39] rfl ?_; (with_reducible refine (laws_eqInt64S.calls k _ _ t473 _ _ t460 true _ ?side1 ?side2 ?side3 ?side4 A36.out).mono ?_); (case side1 => repeat (first | exact (Kd.R_reads' HO475.out).2.2 | (with_reducible refine Kd.C_alloc ?_ _) | (with_reducible refine Kd.C_drewN ?_ _) | (with_reducible refine Kd.C_drew ?_))); (case side2 => exact (Kd.R_reads' HO475.out).2.1); (case side3 => repeat (first | exact (Kd.R_reads' HO462.out).2.2 | (with_reducible refine Kd.C_alloc ?_ _) | (with_reducible refine Kd.C_drewN ?_ _) | (with_reducible refine Kd.C_drew ?_))); (case side4 => exact (Kd.R_reads' HO462.out).2.1); rintro e w' ⟨rfl, ⟨nd, rfl⟩⟩; refine ⟨_, rfl, ?_⟩))
     go_meet
     case rel => exact ⟨_, ((t476 != t463)), (by first | rfl | (simp; done) | (simp [*]; done)), H', ⟨by first | omega | exact Nat.le_refl _⟩, ⟨by (with_reducible repeat (first | apply Kd.R_alloc | apply Kd.R_drewN | apply Kd.R_drew)); exact Kd.R_mono HO462.out (fun _ hk => ⟨hk.1.2, ⟨hk.2, hk.1.1.2⟩⟩)⟩, ⟨by (with_reducible repeat (first | apply Kd.R_alloc | apply Kd.R_drewN | apply Kd.R_drew)); exact Kd.R_mono HO472.out (fun _ hk => ⟨hk.1.1.2, ⟨hk.2, hk.1.2⟩⟩)⟩, ⟨by (with_reducible repeat (first | apply Kd.R_alloc | apply Kd.R_drewN | apply Kd.R_drew)); exact Kd.R_mono HO475.out (fun _ hk => ⟨hk.1.1.2, ⟨hk.2, hk.1.2⟩⟩)⟩, ⟨by (with_reducible repeat (first | apply Kd.R_alloc | apply Kd.R_drewN | apply Kd.R_drew)); exact Kd.R_mono HO468.out (fun _ hk => ⟨hk.1.1.2, ⟨hk.1.2, hk.2⟩⟩)⟩, ⟨by (with_reducible repeat (first | refine bN_ ?_ _ | refine bkd_ ?_ | refine bka_ ?_ _)); exact BK450.out⟩, ⟨by (with_reducible repeat (first | refine bN_ ?_ _ | refine bkd_ ?_ | refine bka_ ?_ _)); exact BK469.out⟩, ⟨by repeat (first | (with_reducible first | exact HB.out | apply ba_ | apply pbN_ | apply bd1_ | refine bs_ ?_ GE450.out | refine bs_ ?_ GE469.out) | exact HB.out)⟩⟩
    ·replace c37 := Bool.eq_false_iff.mpr c37
     subst c37
     have H1 : (laws_FnExactHuntFleet.j0 k l1 t460 t463 t470 t473 t476 true a0_0 a0_1 l0_2 t464 t465 t466) = some true := by rw [if_neg (show ¬ (false = true) by decide)] at H; exact H
     clear H
     have H := H1
     clear H1
     have H' := Aside0.mk H
     clear H
     obtain ⟨Ao40, co40, eo40⟩ := Kd.R_slice HO475.out
     subst eo40
     obtain ⟨Ao41, co41, eo41⟩ := Kd.R_slice HO462.out
     subst eo41
     go_wp2_with (first | ((with_reducible refine gate_callee (f := 9) rfl ?_); refine goesA_ (some 45) rfl rfl Try.func9 (by kernel_rfl) rfl #[.slice Ao40 t473.length co40, .slice Ao41 t460.length co41] rfl ?_; (with_reducible refine (laws_eqInt64S.calls k _ _ t473 _ _ t460 false _ ?side1 ?side2 ?side3 ?side4 A36.out).mono ?_); (case side1 => repeat (first | exact (Kd.R_reads' HO475.out).2.2 | (with_reducible refine Kd.C_alloc ?_ _) | (with_reducible refine Kd.C_drewN ?_ _) | (with_reducible refine Kd.C_drew ?_))); (case side2 => exact (Kd.R_reads' HO475.out).2.1); (case side3 => repeat (first | exact (Kd.R_reads' HO462.out).2.2 | (with_reducible refine Kd.C_alloc ?_ _) | (with_reducible refine Kd.C_drewN ?_ _) | (with_reducible refine Kd.C_drew ?_))); (case side4 => exact (Kd.R_reads' HO462.out).2.1); rintro e w' ⟨rfl, ⟨nd, rfl⟩⟩; refine ⟨_, rfl, ?_⟩))
     go_meet
     case rel => exact ⟨_, (true), (by first | rfl | (simp; done) | (simp [*]; done)), H', ⟨by first | omega | exact Nat.le_refl _⟩, ⟨by (with_reducible repeat (first | apply Kd.R_alloc | apply Kd.R_drewN | apply Kd.R_drew)); exact Kd.R_mono HO462.out (fun _ hk => ⟨hk.1.2, ⟨hk.2, hk.1.1.2⟩⟩)⟩, ⟨by (with_reducible repeat (first | apply Kd.R_alloc | apply Kd.R_drewN | apply Kd.R_drew)); exact Kd.R_mono HO472.out (fun _ hk => ⟨hk.1.1.2, ⟨hk.2, hk.1.2⟩⟩)⟩, ⟨by (with_reducible repeat (first | apply Kd.R_alloc | apply Kd.R_drewN | apply Kd.R_drew)); exact Kd.R_mono HO475.out (fun _ hk => ⟨hk.1.1.2, ⟨hk.2, hk.1.2⟩⟩)⟩, ⟨by (with_reducible repeat (first | apply Kd.R_alloc | apply Kd.R_drewN | apply Kd.R_drew)); exact Kd.R_mono HO468.out (fun _ hk => ⟨hk.1.1.2, ⟨hk.1.2, hk.2⟩⟩)⟩, ⟨by (with_reducible repeat (first | refine bN_ ?_ _ | refine bkd_ ?_ | refine bka_ ?_ _)); exact BK450.out⟩, ⟨by (with_reducible repeat (first | refine bN_ ?_ _ | refine bkd_ ?_ | refine bka_ ?_ _)); exact BK469.out⟩, ⟨by repeat (first | (with_reducible first | exact HB.out | apply ba_ | apply pbN_ | apply bd1_ | refine bs_ ?_ GE450.out | refine bs_ ?_ GE469.out) | exact HB.out)⟩⟩
   case rest =>
    clear HC16
    (try clear c1); (try clear c2); (try clear p2); (try clear c3); (try clear c3b0); (try clear c3b1); (try clear c4); (try clear c5); (try clear c6); (try clear c6b0); (try clear c7); (try clear c8); (try clear c9); (try clear c29); (try clear c37); (try clear hcz18_0); (try clear hcz18_1); (try clear hcz18_2); (try clear hcz20_0); (try clear hcz20_1); (try clear hcz20_2); (try clear hcz26_0); (try clear hcz26_1); (try clear hcz26_2); (try clear hcz30_0); (try clear hcz30_1); (try clear hcz30_2); (try clear hcz33_0); (try clear hcz33_1); (try clear hcz33_2); (try clear hcz8_0); (try clear hcz8_1); (try clear hcz8_2); (try clear hfz18_0); (try clear hfz18_1); (try clear hfz18_2); (try clear hfz20_0); (try clear hfz20_1); (try clear hfz20_2); (try clear hfz26_0); (try clear hfz26_1); (try clear hfz26_2); (try clear hfz30_0); (try clear hfz30_1); (try clear hfz30_2); (try clear hfz33_0); (try clear hfz33_1); (try clear hfz33_2); (try clear hfz8_0); (try clear hfz8_1); (try clear hfz8_2)
    obtain ⟨kq, x51_15, rfl, HA, HJ15, HO_6, HO_9, HO_10, HO_470002, BK450, BK469, HB⟩ := hcut
    cases kq with
    | zero => exact absurd HA.out (by simp [laws_FnExactHuntFleet.j0])
    | succ kj15 =>
     have H := HA.out
     clear HA
     simp only [laws_FnExactHuntFleet.j0] at H
     by_cases c42 : x51_15 = true
     ·subst c42
      have H1 : (some false) = some true := by rw [if_pos rfl] at H; exact H
      clear H
      have H := H1
      clear H1
      exact absurd H (by simp)
     ·replace c42 := Bool.eq_false_iff.mpr c42
      subst c42
      have H1 : ((laws_toSea.f kj15 a0_0 a0_1 l0_2).bind fun bt478 => ((laws_eqSea.f kj15 t464 t465 t466 bt478.1 bt478.2.1 bt478.2.2).bind fun t483 => (if t483 = true then ((laws_toInt64S.f kj15 l1).bind fun t484 => ((laws_eqInt64S.f kj15 t470 t484).bind fun t487 => (if t487 = true then ((laws_markSea.f kj15 t464 t465 t466 1).bind fun bt488 => ((laws_markInt64S.f kj15 t470 bt488.1).bind fun bt490 => (if bt490.1 < 0 then (laws_FnExactHuntFleet.j1 kj15 l1 t460 t463 t473 true a0_0 a0_1 l0_2) else ((laws_eqInt64S.f kj15 t473 t460).bind fun t492 => (if t492 = true then (laws_FnExactHuntFleet.j1 kj15 l1 t460 t463 t473 (t476 != t463) a0_0 a0_1 l0_2) else (laws_FnExactHuntFleet.j1 kj15 l1 t460 t463 t473 true a0_0 a0_1 l0_2)))))) else (some false)))) else (some false)))) = some true := by rw [if_neg (show ¬ (false = true) by decide)] at H; exact H
      clear H
      have H := H1
      clear H1
      replace H := Option.bind_eq_some_iff.mp H
      obtain ⟨⟨t478, t479, t480⟩, A430, H⟩ := H
      replace H : ((laws_eqSea.f kj15 t464 t465 t466 t478 t479 t480).bind fun t483 => (if t483 = true then ((laws_toInt64S.f kj15 l1).bind fun t484 => ((laws_eqInt64S.f kj15 t470 t484).bind fun t487 => (if t487 = true then ((laws_markSea.f kj15 t464 t465 t466 1).bind fun bt488 => ((laws_markInt64S.f kj15 t470 bt488.1).bind fun bt490 => (if bt490.1 < 0 then (laws_FnExactHuntFleet.j1 kj15 l1 t460 t463 t473 true a0_0 a0_1 l0_2) else ((laws_eqInt64S.f kj15 t473 t460).bind fun t492 => (if t492 = true then (laws_FnExactHuntFleet.j1 kj15 l1 t460 t463 t473 (t476 != t463) a0_0 a0_1 l0_2) else (laws_FnExactHuntFleet.j1 kj15 l1 t460 t463 t473 true a0_0 a0_1 l0_2)))))) else (some false)))) else (some false))) = some true := H
      have A43 := Aside0.mk A430
      clear A430
      replace H := Option.bind_eq_some_iff.mp H
      obtain ⟨t483, A440, H⟩ := H
      replace H : (if t483 = true then ((laws_toInt64S.f kj15 l1).bind fun t484 => ((laws_eqInt64S.f kj15 t470 t484).bind fun t487 => (if t487 = true then ((laws_markSea.f kj15 t464 t465 t466 1).bind fun bt488 => ((laws_markInt64S.f kj15 t470 bt488.1).bind fun bt490 => (if bt490.1 < 0 then (laws_FnExactHuntFleet.j1 kj15 l1 t460 t463 t473 true a0_0 a0_1 l0_2) else ((laws_eqInt64S.f kj15 t473 t460).bind fun t492 => (if t492 = true then (laws_FnExactHuntFleet.j1 kj15 l1 t460 t463 t473 (t476 != t463) a0_0 a0_1 l0_2) else (laws_FnExactHuntFleet.j1 kj15 l1 t460 t463 t473 true a0_0 a0_1 l0_2)))))) else (some false)))) else (some false)) = some true := H
      have A44 := Aside0.mk A440
      clear A440
      by_cases c45 : t483 = true
      ·subst c45
       have H1 : ((laws_toInt64S.f kj15 l1).bind fun t484 => ((laws_eqInt64S.f kj15 t470 t484).bind fun t487 => (if t487 = true then ((laws_markSea.f kj15 t464 t465 t466 1).bind fun bt488 => ((laws_markInt64S.f kj15 t470 bt488.1).bind fun bt490 => (if bt490.1 < 0 then (laws_FnExactHuntFleet.j1 kj15 l1 t460 t463 t473 true a0_0 a0_1 l0_2) else ((laws_eqInt64S.f kj15 t473 t460).bind fun t492 => (if t492 = true then (laws_FnExactHuntFleet.j1 kj15 l1 t460 t463 t473 (t476 != t463) a0_0 a0_1 l0_2) else (laws_FnExactHuntFleet.j1 kj15 l1 t460 t463 t473 true a0_0 a0_1 l0_2)))))) else (some false)))) = some true := by rw [if_pos rfl] at H; exact H
       clear H
       have H := H1
       clear H1
       replace H := Option.bind_eq_some_iff.mp H
       obtain ⟨t484, A460, H⟩ := H
       replace H : ((laws_eqInt64S.f kj15 t470 t484).bind fun t487 => (if t487 = true then ((laws_markSea.f kj15 t464 t465 t466 1).bind fun bt488 => ((laws_markInt64S.f kj15 t470 bt488.1).bind fun bt490 => (if bt490.1 < 0 then (laws_FnExactHuntFleet.j1 kj15 l1 t460 t463 t473 true a0_0 a0_1 l0_2) else ((laws_eqInt64S.f kj15 t473 t460).bind fun t492 => (if t492 = true then (laws_FnExactHuntFleet.j1 kj15 l1 t460 t463 t473 (t476 != t463) a0_0 a0_1 l0_2) else (laws_FnExactHuntFleet.j1 kj15 l1 t460 t463 t473 true a0_0 a0_1 l0_2)))))) else (some false))) = some true := H
       have A46 := Aside0.mk A460
       clear A460
       replace H := Option.bind_eq_some_iff.mp H
       obtain ⟨t487, A470, H⟩ := H
       replace H : (if t487 = true then ((laws_markSea.f kj15 t464 t465 t466 1).bind fun bt488 => ((laws_markInt64S.f kj15 t470 bt488.1).bind fun bt490 => (if bt490.1 < 0 then (laws_FnExactHuntFleet.j1 kj15 l1 t460 t463 t473 true a0_0 a0_1 l0_2) else ((laws_eqInt64S.f kj15 t473 t460).bind fun t492 => (if t492 = true then (laws_FnExactHuntFleet.j1 kj15 l1 t460 t463 t473 (t476 != t463) a0_0 a0_1 l0_2) else (laws_FnExactHuntFleet.j1 kj15 l1 t460 t463 t473 true a0_0 a0_1 l0_2)))))) else (some false)) = some true := H
       have A47 := Aside0.mk A470
       clear A470
       by_cases c48 : t487 = true
       ·subst c48
        have H1 : ((laws_markSea.f kj15 t464 t465 t466 1).bind fun bt488 => ((laws_markInt64S.f kj15 t470 bt488.1).bind fun bt490 => (if bt490.1 < 0 then (laws_FnExactHuntFleet.j1 kj15 l1 t460 t463 t473 true a0_0 a0_1 l0_2) else ((laws_eqInt64S.f kj15 t473 t460).bind fun t492 => (if t492 = true then (laws_FnExactHuntFleet.j1 kj15 l1 t460 t463 t473 (t476 != t463) a0_0 a0_1 l0_2) else (laws_FnExactHuntFleet.j1 kj15 l1 t460 t463 t473 true a0_0 a0_1 l0_2)))))) = some true := by rw [if_pos rfl] at H; exact H
        clear H
        have H := H1
        clear H1
        replace H := Option.bind_eq_some_iff.mp H
        obtain ⟨⟨t488, t489⟩, A490, H⟩ := H
        replace H : ((laws_markInt64S.f kj15 t470 t488).bind fun bt490 => (if bt490.1 < 0 then (laws_FnExactHuntFleet.j1 kj15 l1 t460 t463 t473 true a0_0 a0_1 l0_2) else ((laws_eqInt64S.f kj15 t473 t460).bind fun t492 => (if t492 = true then (laws_FnExactHuntFleet.j1 kj15 l1 t460 t463 t473 (t476 != t463) a0_0 a0_1 l0_2) else (laws_FnExactHuntFleet.j1 kj15 l1 t460 t463 t473 true a0_0 a0_1 l0_2))))) = some true := H
        have A49 := Aside0.mk A490
        clear A490
        replace H := Option.bind_eq_some_iff.mp H
        obtain ⟨⟨t490, t491⟩, A500, H⟩ := H
        replace H : (if t490 < 0 then (laws_FnExactHuntFleet.j1 kj15 l1 t460 t463 t473 true a0_0 a0_1 l0_2) else ((laws_eqInt64S.f kj15 t473 t460).bind fun t492 => (if t492 = true then (laws_FnExactHuntFleet.j1 kj15 l1 t460 t463 t473 (t476 != t463) a0_0 a0_1 l0_2) else (laws_FnExactHuntFleet.j1 kj15 l1 t460 t463 t473 true a0_0 a0_1 l0_2)))) = some true := H
        have A50 := Aside0.mk A500
        clear A500
        have HC51 := Aside0.mk H
        clear H
        try go_wp2
        have n0_ := Aside0.mk (Kd.R_drew HO_6.out)
        have n1_ := Aside0.mk (Kd.R_drew HO_9.out)
        have n2_ := Aside0.mk (Kd.R_drew HO_10.out)
        have n3_ := Aside0.mk (Kd.R_drew HO_470002.out)
        have n4_ := Aside0.mk (bkd_ BK450.out)
        have n5_ := Aside0.mk (bkd_ BK469.out)
        have n6_ := Aside0.mk (bd1_ HB.out)
        clear HO_6
        clear HO_9
        clear HO_10
        clear HO_470002
        clear BK450
        clear BK469
        clear HB
        have HO_6 := n0_
        have HO_9 := n1_
        have HO_10 := n2_
        have HO_470002 := n3_
        have BK450 := n4_
        have BK469 := n5_
        have HB := n6_
        clear n0_ n1_ n2_ n3_ n4_ n5_ n6_
        refine start_ (n := 5) (S := fun w' => w'.cell? ⟨gb469, 0, none⟩ = some (.int .i64 t464) ∧ w'.cell? ⟨gb469, 1, none⟩ = some (.int .i64 t465) ∧ w'.cell? ⟨gb469, 2, none⟩ = some (.slice Ao31 t466.length co31) ∧ w'.cell? ⟨gb450, 0, none⟩ = some (.int .i64 a0_0) ∧ w'.cell? ⟨gb450, 1, none⟩ = some (.int .i64 a0_1) ∧ w'.cell? ⟨gb450, 2, none⟩ = some (.slice A0_2 l0_2.length c0_2)) (ds := []) #[false, false, false, false, false] (by kernel_rfl) rfl rfl ⟨(bc_ BK469.out 0).trans rfl, (bc_ BK469.out 1).trans rfl, (bc_ BK469.out 2).trans rfl, (bc_ BK450.out 0).trans rfl, (bc_ BK450.out 1).trans rfl, (bc_ BK450.out 2).trans rfl⟩ (fun hHeld => ?_)
        generalize wc.drew = w52 at HO_6 HO_9 HO_10 HO_470002 BK450 BK469 HB hHeld ⊢
        refine take_ (i := 0) (N := some 52) (v := ?_) (a' := ?_) #[true, false, false, false, false] rfl rfl (by kernel_rfl) (fun _ _ _ h => h) (Or.inl ⟨by rfl, ?_⟩) hHeld ?_ ?_
        rotate_left; (· (rintro w' ⟨s0, s1, s2, s3, s4, s5⟩; go_simp; with_reducible rfl)); rotate_left; (· (simp only [Act.put, sz_, s0_, s1_, i64_w, i32_w]; rfl))
        refine take_ (i := 1) (N := some 53) (v := ?_) (a' := ?_) #[true, true, false, false, false] rfl rfl (by kernel_rfl) (fun _ _ _ h => h) (Or.inl ⟨by rfl, ?_⟩) hHeld ?_ ?_
        rotate_left; (· (rintro w' ⟨s0, s1, s2, s3, s4, s5⟩; go_simp; with_reducible rfl)); rotate_left; (· (simp only [Act.put, sz_, s0_, s1_, i64_w, i32_w]; rfl))
        refine one_ (i := 2) (N := some 54) #[true, true, true, false, false] rfl rfl (by kernel_rfl) (by decide) (fun K hK => ?_)
        refine goes_ Try.func6 (by kernel_rfl) rfl #[.agg #[.int .i64 a0_0, .int .i64 a0_1, .slice A0_2 l0_2.length c0_2]] (by rfl) rfl rfl (by (try simp only [List.map_toArray, List.map_cons, List.map_nil]); first | done | rfl | (simp only [List.length_drop, List.length_take]; rfl)) ?_
        with_reducible refine (laws_toSea.calls kj15 a0_0 a0_1 _ _ l0_2 t478 t479 t480 _ ?side1 ?side2 A43.out).mono ?_
        (case side1 => repeat (first | exact (Kd.C_below HR0_2.out HB.out) | (with_reducible refine Kd.C_alloc ?_ _) | (with_reducible refine Kd.C_drewN ?_ _) | (with_reducible refine Kd.C_drew ?_)))
        (case side2 => exact HC0_2.out)
        rintro e w53 ⟨v481, rfl, ho0, hb⟩
        refine ⟨_, rfl, ?_⟩
        have n0_ := Aside0.mk (Kd.R_elder' (by (with_reducible repeat (first | apply Kd.R_alloc | apply Kd.R_drewN | apply Kd.R_drew)); exact HO_6.out) (Kd.R_base ho0) hb)
        have n1_ := Aside0.mk (Kd.R_elder' (by (with_reducible repeat (first | apply Kd.R_alloc | apply Kd.R_drewN | apply Kd.R_drew)); exact HO_9.out) (Kd.R_base ho0) hb)
        have n2_ := Aside0.mk (Kd.R_elder' (by (with_reducible repeat (first | apply Kd.R_alloc | apply Kd.R_drewN | apply Kd.R_drew)); exact HO_10.out) (Kd.R_base ho0) hb)
        have n3_ := Aside0.mk (Kd.R_elder' (by (with_reducible repeat (first | apply Kd.R_alloc | apply Kd.R_drewN | apply Kd.R_drew)); exact HO_470002.out) (Kd.R_base ho0) hb)
        have n4_ := Aside0.mk (Kd.R_lower (Kd.R_new' (Kd.R_new' (Kd.R_new' (Kd.R_new' ho0 (Kd.R_lt (by (with_reducible repeat (first | apply Kd.R_alloc | apply Kd.R_drewN | apply Kd.R_drew)); exact HO_6.out))) (Kd.R_lt (by (with_reducible repeat (first | apply Kd.R_alloc | apply Kd.R_drewN | apply Kd.R_drew)); exact HO_9.out))) (Kd.R_lt (by (with_reducible repeat (first | apply Kd.R_alloc | apply Kd.R_drewN | apply Kd.R_drew)); exact HO_10.out))) (Kd.R_lt (by (with_reducible repeat (first | apply Kd.R_alloc | apply Kd.R_drewN | apply Kd.R_drew)); exact HO_470002.out))) (bz_ (by repeat (first | (with_reducible first | exact HB.out | apply ba_ | apply pbN_ | apply bd1_ | refine bs_ ?_ GE450.out | refine bs_ ?_ GE469.out) | exact HB.out))))
        have n5_ := Aside0.mk (bb_ (g := gb450) (o := .cells #[.int .i64 a0_0, .int .i64 a0_1, .slice A0_2 l0_2.length c0_2] 24 (0, 0)) (by (with_reducible repeat (first | refine bN_ ?_ _ | refine bkd_ ?_ | refine bka_ ?_ _)); exact BK450.out) hb)
        have n6_ := Aside0.mk (bb_ (g := gb469) (o := .cells #[.int .i64 t464, .int .i64 t465, .slice Ao31 t466.length co31] 28 (0, 0)) (by (with_reducible repeat (first | refine bN_ ?_ _ | refine bkd_ ?_ | refine bka_ ?_ _)); exact BK469.out) hb)
        have n7_ := Aside0.mk (bp_ (by repeat (first | (with_reducible first | exact HB.out | apply ba_ | apply pbN_ | apply bd1_ | refine bs_ ?_ GE450.out | refine bs_ ?_ GE469.out) | exact HB.out)) hb)
        clear HO_6
        clear HO_9
        clear HO_10
        clear HO_470002
        clear BK450
        clear BK469
        clear HB
        have HO_6 := n0_
        have HO_9 := n1_
        have HO_10 := n2_
        have HO_470002 := n3_
        have HO482 := n4_
        have BK450 := n5_
        have BK469 := n6_
        have HB := n7_
        clear n0_ n1_ n2_ n3_ n4_ n5_ n6_ n7_
        (try clear hb)
        (try clear hb2)
        (try clear hk)
        (try clear hi)
        (try clear ho0)
        obtain ⟨Ao54, co54, eo54⟩ := Kd.R_slice HO482.out
        (first | subst eo54 | (injection eo54 with f1_ f2_ f3_; have f4_ := f1_.symm; have f5_ := f3_.symm; clear f1_ f2_ f3_; subst f4_; subst f5_))
        refine hK.out _ _ ⟨(bc_ BK469.out 0).trans rfl, (bc_ BK469.out 1).trans rfl, (bc_ BK469.out 2).trans rfl, (bc_ BK450.out 0).trans rfl, (bc_ BK450.out 1).trans rfl, (bc_ BK450.out 2).trans rfl⟩ (fun hHeld => ?_)
        clear hK K
        refine norm_ (a' := ?_) ?_ ?_
        rotate_left
        ·show Act.put _ (some 54) _ = _
         simp only [Act.put, sz_, s0_, s1_, i64_w, i32_w]
         rfl
        refine one_ (i := 3) (N := some 55) #[true, true, true, true, false] rfl rfl (by kernel_rfl) (by decide) (fun K hK => ?_)
        refine goes_ Try.func10 (by kernel_rfl) rfl #[.agg #[.int .i64 t464, .int .i64 t465, .slice Ao31 t466.length co31], .agg #[.int .i64 t478, .int .i64 t479, .slice Ao54 t480.length co54]] (by rfl) rfl rfl (by (try simp only [List.map_toArray, List.map_cons, List.map_nil]); first | done | rfl | (simp only [List.length_drop, List.length_take]; rfl)) ?_
        with_reducible refine (laws_eqSea.calls kj15 t464 t465 _ _ t466 t478 t479 _ _ t480 true _ ?side1 ?side2 ?side3 ?side4 A44.out).mono ?_
        (case side1 => repeat (first | exact (Kd.R_reads' HO_470002.out).2.2 | (with_reducible refine Kd.C_alloc ?_ _) | (with_reducible refine Kd.C_drewN ?_ _) | (with_reducible refine Kd.C_drew ?_)))
        (case side2 => exact (Kd.R_reads' HO_470002.out).2.1)
        (case side3 => repeat (first | exact (Kd.R_reads' HO482.out).2.2 | (with_reducible refine Kd.C_alloc ?_ _) | (with_reducible refine Kd.C_drewN ?_ _) | (with_reducible refine Kd.C_drew ?_)))
        (case side4 => exact (Kd.R_reads' HO482.out).2.1)
        rintro e w55 ⟨rfl, hb⟩
        refine ⟨_, rfl, ?_⟩
        have n0_ := Aside0.mk (Kd.R_below (by (with_reducible repeat (first | apply Kd.R_alloc | apply Kd.R_drewN | apply Kd.R_drew)); exact HO_6.out) hb)
        have n1_ := Aside0.mk (Kd.R_below (by (with_reducible repeat (first | apply Kd.R_alloc | apply Kd.R_drewN | apply Kd.R_drew)); exact HO_9.out) hb)
        have n2_ := Aside0.mk (Kd.R_below (by (with_reducible repeat (first | apply Kd.R_alloc | apply Kd.R_drewN | apply Kd.R_drew)); exact HO_10.out) hb)
        have n3_ := Aside0.mk (Kd.R_below (by (with_reducible repeat (first | apply Kd.R_alloc | apply Kd.R_drewN | apply Kd.R_drew)); exact HO_470002.out) hb)
        have n4_ := Aside0.mk (Kd.R_below (by (with_reducible repeat (first | apply Kd.R_alloc | apply Kd.R_drewN | apply Kd.R_drew)); exact HO482.out) hb)
        have n5_ := Aside0.mk (bb_ (g := gb450) (o := .cells #[.int .i64 a0_0, .int .i64 a0_1, .slice A0_2 l0_2.length c0_2] 24 (0, 0)) (by (with_reducible repeat (first | refine bN_ ?_ _ | refine bkd_ ?_ | refine bka_ ?_ _)); exact BK450.out) hb)
        have n6_ := Aside0.mk (bb_ (g := gb469) (o := .cells #[.int .i64 t464, .int .i64 t465, .slice Ao31 t466.length co31] 28 (0, 0)) (by (with_reducible repeat (first | refine bN_ ?_ _ | refine bkd_ ?_ | refine bka_ ?_ _)); exact BK469.out) hb)
        have n7_ := Aside0.mk (bp_ (by repeat (first | (with_reducible first | exact HB.out | apply ba_ | apply pbN_ | apply bd1_ | refine bs_ ?_ GE450.out | refine bs_ ?_ GE469.out) | exact HB.out)) hb)
        clear HO_6
        clear HO_9
        clear HO_10
        clear HO_470002
        clear HO482
        clear BK450
        clear BK469
        clear HB
        have HO_6 := n0_
        have HO_9 := n1_
        have HO_10 := n2_
        have HO_470002 := n3_
        have HO482 := n4_
        have BK450 := n5_
        have BK469 := n6_
        have HB := n7_
        clear n0_ n1_ n2_ n3_ n4_ n5_ n6_ n7_
        (try clear hb)
        (try clear hb2)
        (try clear hk)
        (try clear hi)
        refine hK.out _ _ ⟨(bc_ BK469.out 0).trans rfl, (bc_ BK469.out 1).trans rfl, (bc_ BK469.out 2).trans rfl, (bc_ BK450.out 0).trans rfl, (bc_ BK450.out 1).trans rfl, (bc_ BK450.out 2).trans rfl⟩ (fun hHeld => ?_)
        clear hK K
        refine norm_ (a' := ?_) ?_ ?_
        rotate_left
        ·show Act.put _ (some 55) _ = _
         simp only [Act.put, sz_, s0_, s1_, i64_w, i32_w]
         rfl
        refine pure_ (i := 4) (N := some 56) (v := ?_) (a' := ?_) #[true, true, true, true, true] rfl rfl (by kernel_rfl) (fun _ _ _ h => h) (Or.inl ⟨by rfl, ?_⟩) ?_ ?_
        rotate_left; (· (intro w'; go_simp; with_reducible rfl)); rotate_left; (· (simp only [Act.put, sz_, s0_, s1_, i64_w, i32_w]; rfl))
        refine done_ (by kernel_rfl) ?_
        go_upto_region 20 with (first | ((with_reducible refine gate_callee (f := 7) rfl ?_); refine goesA_ (some 59) rfl rfl Try.func7 (by kernel_rfl) rfl #[.slice A1 l1.length c1] rfl ?_; (with_reducible refine (laws_toInt64S.calls kj15 _ _ l1 t484 _ ?side1 ?side2 A46.out).mono ?_); (case side1 => repeat (first | exact (Kd.C_below HR1.out HB.out) | (with_reducible refine Kd.C_alloc ?_ _) | (with_reducible refine Kd.C_drewN ?_ _) | (with_reducible refine Kd.C_drew ?_))); (case side2 => exact HC1.out); rintro e w56 ⟨v485, rfl, ho0, hb⟩; refine ⟨_, rfl, ?_⟩; have n0_ := Aside0.mk (Kd.R_elder' (by (with_reducible repeat (first | apply Kd.R_alloc | apply Kd.R_drewN | apply Kd.R_drew)); exact HO_6.out) (Kd.R_base ho0) hb); have n1_ := Aside0.mk (Kd.R_elder' (by (with_reducible repeat (first | apply Kd.R_alloc | apply Kd.R_drewN | apply Kd.R_drew)); exact HO_9.out) (Kd.R_base ho0) hb); have n2_ := Aside0.mk (Kd.R_elder' (by (with_reducible repeat (first | apply Kd.R_alloc | apply Kd.R_drewN | apply Kd.R_drew)); exact HO_10.out) (Kd.R_base ho0) hb); have n3_ := Aside0.mk (Kd.R_elder' (by (with_reducible repeat (first | apply Kd.R_alloc | apply Kd.R_drewN | apply Kd.R_drew)); exact HO_470002.out) (Kd.R_base ho0) hb); have n4_ := Aside0.mk (Kd.R_elder' (by (with_reducible repeat (first | apply Kd.R_alloc | apply Kd.R_drewN | apply Kd.R_drew)); exact HO482.out) (Kd.R_base ho0) hb); have n5_ := Aside0.mk (Kd.R_lower (Kd.R_new' (Kd.R_new' (Kd.R_new' (Kd.R_new' (Kd.R_new' ho0 (Kd.R_lt (by (with_reducible repeat (first | apply Kd.R_alloc | apply Kd.R_drewN | apply Kd.R_drew)); exact HO_6.out))) (Kd.R_lt (by (with_reducible repeat (first | apply Kd.R_alloc | apply Kd.R_drewN | apply Kd.R_drew)); exact HO_9.out))) (Kd.R_lt (by (with_reducible repeat (first | apply Kd.R_alloc | apply Kd.R_drewN | apply Kd.R_drew)); exact HO_10.out))) (Kd.R_lt (by (with_reducible repeat (first | apply Kd.R_alloc | apply Kd.R_drewN | apply Kd.R_drew)); exact HO_470002.out))) (Kd.R_lt (by (with_reducible repeat (first | apply Kd.R_alloc | apply Kd.R_drewN | apply Kd.R_drew)); exact HO482.out))) (bz_ (by repeat (first | (with_reducible first | exact HB.out | apply ba_ | apply pbN_ | apply bd1_ | refine bs_ ?_ GE450.out | refine bs_ ?_ GE469.out) | exact HB.out)))); have n6_ := Aside0.mk (bb_ (g := gb450) (o := .cells #[.int .i64 a0_0, .int .i64 a0_1, .slice A0_2 l0_2.length c0_2] 24 (0, 0)) (by (with_reducible repeat (first | refine bN_ ?_ _ | refine bkd_ ?_ | refine bka_ ?_ _)); exact BK450.out) hb); have n7_ := Aside0.mk (bb_ (g := gb469) (o := .cells #[.int .i64 t464, .int .i64 t465, .slice Ao31 t466.length co31] 28 (0, 0)) (by (with_reducible repeat (first | refine bN_ ?_ _ | refine bkd_ ?_ | refine bka_ ?_ _)); exact BK469.out) hb); have n8_ := Aside0.mk (bp_ (by repeat (first | (with_reducible first | exact HB.out | apply ba_ | apply pbN_ | apply bd1_ | refine bs_ ?_ GE450.out | refine bs_ ?_ GE469.out) | exact HB.out)) hb); clear HO_6; clear HO_9; clear HO_10; clear HO_470002; clear HO482; clear BK450; clear BK469; clear HB; have HO_6 := n0_; have HO_9 := n1_; have HO_10 := n2_; have HO_470002 := n3_; have HO482 := n4_; have HO486 := n5_; have BK450 := n6_; have BK469 := n7_; have HB := n8_; clear n0_ n1_ n2_ n3_ n4_ n5_ n6_ n7_ n8_; (try clear hb); (try clear hb2); (try clear hk); (try clear hi); (try clear ho0); obtain ⟨Ao57, co57, eo57⟩ := Kd.R_slice HO486.out; subst eo57) | ((with_reducible refine gate_callee (f := 9) rfl ?_); refine goesA_ (some 60) rfl rfl Try.func9 (by kernel_rfl) rfl #[.slice Ao34 t470.length co34, .slice Ao57 t484.length co57] rfl ?_; (with_reducible refine (laws_eqInt64S.calls kj15 _ _ t470 _ _ t484 true _ ?side1 ?side2 ?side3 ?side4 A47.out).mono ?_); (case side1 => repeat (first | exact (Kd.R_reads' HO_9.out).2.2 | (with_reducible refine Kd.C_alloc ?_ _) | (with_reducible refine Kd.C_drewN ?_ _) | (with_reducible refine Kd.C_drew ?_))); (case side2 => exact (Kd.R_reads' HO_9.out).2.1); (case side3 => repeat (first | exact (Kd.R_reads' HO486.out).2.2 | (with_reducible refine Kd.C_alloc ?_ _) | (with_reducible refine Kd.C_drewN ?_ _) | (with_reducible refine Kd.C_drew ?_))); (case side4 => exact (Kd.R_reads' HO486.out).2.1); rintro e w' ⟨rfl, ⟨nd, rfl⟩⟩; refine ⟨_, rfl, ?_⟩; have hnb58 := NB469_450.out; have hnc58 := NB450_469.out; have hcz59_0 : w56.cell? ⟨gb469, 0, none⟩ = some (.int .i64 t464) := (bc_ BK469.out 0).trans rfl; have hcz59_1 : w56.cell? ⟨gb469, 1, none⟩ = some (.int .i64 t465) := (bc_ BK469.out 1).trans rfl; have hcz59_2 : w56.cell? ⟨gb469, 2, none⟩ = some (.slice Ao31 t466.length co31) := (bc_ BK469.out 2).trans rfl; have hfz59_0 := bf_ BK469.out 0; have hfz59_1 := bf_ BK469.out 1; have hfz59_2 := bf_ BK469.out 2) | ((with_reducible refine gate_callee (f := 11) rfl ?_); refine goesA_ (some 64) rfl rfl Try.func11 (by kernel_rfl) rfl #[.agg #[.int .i64 t464, .int .i64 t465, .slice Ao31 t466.length co31], .int .i64 1] rfl ?_; (with_reducible refine (laws_markSea.calls kj15 t464 t465 (fun k_ => some k_ = (.slice Ao31 t466.length co31 : Value).ownBlock) (.slice Ao31 t466.length co31) t466 1 t488 t489 w _ ?side1 ?side2 A49.out).mono ?_); (case side1 => repeat (first | (with_reducible first | exact HB.out | apply ba_ | apply pbN_ | apply bd1_ | refine bs_ ?_ GE450.out | refine bs_ ?_ GE469.out) | exact HB.out)); (case side2 => exact Kd.R_tight rfl HO_470002.out); rintro e w60 ⟨rfl, hy0, hb, hkp⟩; refine ⟨_, rfl, ?_⟩; have n0_ := Aside0.mk (Kd.R_mono (ok' := fun k_ => some k_ ≠ (.slice Ao34 t470.length co34 : Value).ownBlock ∧ some k_ ≠ (v474 : Value).ownBlock ∧ some k_ ≠ (.slice Ao31 t466.length co31 : Value).ownBlock ∧ some k_ ≠ (.slice Ao54 t480.length co54 : Value).ownBlock ∧ some k_ ≠ (.slice Ao57 t484.length co57 : Value).ownBlock) (Kd.R_keptB (HO_6.out) hkp (fun k_ hk_ hs_ => (hk_.1.1.2.2) hs_)) (fun k_ hk_ => ⟨hk_.1.1.1.1, hk_.1.1.1.2.1, hk_.1.1.1.2.2, hk_.1.1.2, hk_.1.2⟩)); have n1_ := Aside0.mk (Kd.R_mono (ok' := fun k_ => some k_ ≠ (v461 : Value).ownBlock ∧ some k_ ≠ (v474 : Value).ownBlock ∧ some k_ ≠ (.slice Ao31 t466.length co31 : Value).ownBlock ∧ some k_ ≠ (.slice Ao54 t480.length co54 : Value).ownBlock ∧ some k_ ≠ (.slice Ao57 t484.length co57 : Value).ownBlock) (Kd.R_keptB (HO_9.out) hkp (fun k_ hk_ hs_ => (hk_.1.1.2.2) hs_)) (fun k_ hk_ => ⟨hk_.1.1.1.1, hk_.1.1.1.2.1, hk_.1.1.1.2.2, hk_.1.1.2, hk_.1.2⟩)); have n2_ := Aside0.mk (Kd.R_mono (ok' := fun k_ => some k_ ≠ (v461 : Value).ownBlock ∧ some k_ ≠ (.slice Ao34 t470.length co34 : Value).ownBlock ∧ some k_ ≠ (.slice Ao31 t466.length co31 : Value).ownBlock ∧ some k_ ≠ (.slice Ao54 t480.length co54 : Value).ownBlock ∧ some k_ ≠ (.slice Ao57 t484.length co57 : Value).ownBlock) (Kd.R_keptB (HO_10.out) hkp (fun k_ hk_ hs_ => (hk_.1.1.2.2) hs_)) (fun k_ hk_ => ⟨hk_.1.1.1.1, hk_.1.1.1.2.1, hk_.1.1.1.2.2, hk_.1.1.2, hk_.1.2⟩)); have n3_ := Aside0.mk (Kd.R_reok rfl hy0 (fun k_ e_ => HO_470002.out.1 k_ e_)); have n4_ := Aside0.mk (blk_kept (by (with_reducible repeat (first | refine bN_ ?_ _ | refine bkd_ ?_ | refine bka_ ?_ _)); exact BK450.out) hkp (fun hs_ => (fun e_ => (Kd.R_ne HO_470002.out BK450.out (by decide)) e_) hs_)); have n5_ := Aside0.mk (blk_kept (by (with_reducible repeat (first | refine bN_ ?_ _ | refine bkd_ ?_ | refine bka_ ?_ _)); exact BK469.out) hkp (fun hs_ => (fun e_ => (Kd.R_ne HO_470002.out BK469.out (by decide)) e_) hs_)); have n6_ := Aside0.mk (Kd.R_mono (ok' := fun k_ => some k_ ≠ (v461 : Value).ownBlock ∧ some k_ ≠ (.slice Ao34 t470.length co34 : Value).ownBlock ∧ some k_ ≠ (v474 : Value).ownBlock ∧ some k_ ≠ (.slice Ao31 t466.length co31 : Value).ownBlock ∧ some k_ ≠ (.slice Ao57 t484.length co57 : Value).ownBlock) (Kd.R_keptB (HO482.out) hkp (fun k_ hk_ hs_ => (hk_.1.2) hs_)) (fun k_ hk_ => ⟨hk_.1.1.1.1.1.2, hk_.1.1.1.1.2, hk_.1.1.1.2, hk_.1.1.2, hk_.1.2⟩)); have n7_ := Aside0.mk (Kd.R_mono (ok' := fun k_ => some k_ ≠ (v461 : Value).ownBlock ∧ some k_ ≠ (.slice Ao34 t470.length co34 : Value).ownBlock ∧ some k_ ≠ (v474 : Value).ownBlock ∧ some k_ ≠ (.slice Ao31 t466.length co31 : Value).ownBlock ∧ some k_ ≠ (.slice Ao54 t480.length co54 : Value).ownBlock) (Kd.R_keptB (HO486.out) hkp (fun k_ hk_ hs_ => (hk_.1.2) hs_)) (fun k_ hk_ => ⟨hk_.1.1.1.1.1.2, hk_.1.1.1.1.2, hk_.1.1.1.2, hk_.1.1.2, hk_.1.2⟩)); have n8_ := Aside0.mk (hb); clear HO_6; clear HO_9; clear HO_10; clear HO_470002; clear BK450; clear BK469; clear HO482; clear HO486; clear HB; have HO_6 := n0_; have HO_9 := n1_; have HO_10 := n2_; have HO_470002 := n3_; have BK450 := n4_; have BK469 := n5_; have HO482 := n6_; have HO486 := n7_; have HB := n8_; clear n0_ n1_ n2_ n3_ n4_ n5_ n6_ n7_ n8_; (try clear hb); (try clear hkp); (try clear hy0)) | ((with_reducible refine gate_callee (f := 12) rfl ?_); refine goesA_ (some 67) rfl rfl Try.func12 (by kernel_rfl) rfl #[.slice Ao34 t470.length co34, .int .i64 t488] rfl ?_; (with_reducible refine (laws_markInt64S.calls kj15 (fun k_ => some k_ = (.slice Ao34 t470.length co34 : Value).ownBlock) (.slice Ao34 t470.length co34) t470 t488 t490 t491 w _ ?side1 ?side2 A50.out).mono ?_); (case side1 => repeat (first | (with_reducible first | exact HB.out | apply ba_ | apply pbN_ | apply bd1_ | refine bs_ ?_ GE450.out | refine bs_ ?_ GE469.out) | exact HB.out)); (case side2 => exact Kd.R_tight rfl HO_9.out); rintro e w61 ⟨rfl, hy0, hb, hkp⟩; refine ⟨_, rfl, ?_⟩; have n0_ := Aside0.mk (Kd.R_mono (ok' := fun k_ => some k_ ≠ (.slice Ao34 t470.length co34 : Value).ownBlock ∧ some k_ ≠ (v474 : Value).ownBlock ∧ some k_ ≠ (.slice Ao31 t466.length co31 : Value).ownBlock ∧ some k_ ≠ (.slice Ao54 t480.length co54 : Value).ownBlock ∧ some k_ ≠ (.slice Ao57 t484.length co57 : Value).ownBlock) (Kd.R_keptB (HO_6.out) hkp (fun k_ hk_ hs_ => (hk_.1) hs_)) (fun k_ hk_ => ⟨hk_.1.1, hk_.1.2.1, hk_.1.2.2.1, hk_.1.2.2.2.1, hk_.1.2.2.2.2⟩)); have n1_ := Aside0.mk (Kd.R_reok rfl hy0 (fun k_ e_ => HO_9.out.1 k_ e_)); have n2_ := Aside0.mk (Kd.R_mono (ok' := fun k_ => some k_ ≠ (v461 : Value).ownBlock ∧ some k_ ≠ (.slice Ao34 t470.length co34 : Value).ownBlock ∧ some k_ ≠ (.slice Ao31 t466.length co31 : Value).ownBlock ∧ some k_ ≠ (.slice Ao54 t480.length co54 : Value).ownBlock ∧ some k_ ≠ (.slice Ao57 t484.length co57 : Value).ownBlock) (Kd.R_keptB (HO_10.out) hkp (fun k_ hk_ hs_ => (hk_.2.1) hs_)) (fun k_ hk_ => ⟨hk_.1.1, hk_.1.2.1, hk_.1.2.2.1, hk_.1.2.2.2.1, hk_.1.2.2.2.2⟩)); have n3_ := Aside0.mk (Kd.R_mono (ok' := fun k_ => some k_ ≠ (v461 : Value).ownBlock ∧ some k_ ≠ (.slice Ao34 t470.length co34 : Value).ownBlock ∧ some k_ ≠ (v474 : Value).ownBlock ∧ some k_ ≠ (.slice Ao54 t480.length co54 : Value).ownBlock ∧ some k_ ≠ (.slice Ao57 t484.length co57 : Value).ownBlock) (Kd.R_keptB (HO_470002.out) hkp (fun k_ hk_ hs_ => (hk_.1.1.2.1) hs_)) (fun k_ hk_ => ⟨hk_.1.1.1.1, hk_.1.1.1.2.1, hk_.1.1.1.2.2, hk_.1.1.2, hk_.1.2⟩)); have n4_ := Aside0.mk (blk_kept (by (with_reducible repeat (first | refine bN_ ?_ _ | refine bkd_ ?_ | refine bka_ ?_ _)); exact BK450.out) hkp (fun hs_ => (fun e_ => (Kd.R_ne HO_9.out BK450.out (by decide)) e_) hs_)); have n5_ := Aside0.mk (blk_kept (by (with_reducible repeat (first | refine bN_ ?_ _ | refine bkd_ ?_ | refine bka_ ?_ _)); exact BK469.out) hkp (fun hs_ => (fun e_ => (Kd.R_ne HO_9.out BK469.out (by decide)) e_) hs_)); have n6_ := Aside0.mk (Kd.R_mono (ok' := fun k_ => some k_ ≠ (v461 : Value).ownBlock ∧ some k_ ≠ (.slice Ao34 t470.length co34 : Value).ownBlock ∧ some k_ ≠ (v474 : Value).ownBlock ∧ some k_ ≠ (.slice Ao31 t466.length co31 : Value).ownBlock ∧ some k_ ≠ (.slice Ao57 t484.length co57 : Value).ownBlock) (Kd.R_keptB (HO482.out) hkp (fun k_ hk_ hs_ => (hk_.2.1) hs_)) (fun k_ hk_ => ⟨hk_.1.1, hk_.1.2.1, hk_.1.2.2.1, hk_.1.2.2.2.1, hk_.1.2.2.2.2⟩)); have n7_ := Aside0.mk (Kd.R_mono (ok' := fun k_ => some k_ ≠ (v461 : Value).ownBlock ∧ some k_ ≠ (.slice Ao34 t470.length co34 : Value).ownBlock ∧ some k_ ≠ (v474 : Value).ownBlock ∧ some k_ ≠ (.slice Ao31 t466.length co31 : Value).ownBlock ∧ some k_ ≠ (.slice Ao54 t480.length co54 : Value).ownBlock) (Kd.R_keptB (HO486.out) hkp (fun k_ hk_ hs_ => (hk_.2.1) hs_)) (fun k_ hk_ => ⟨hk_.1.1, hk_.1.2.1, hk_.1.2.2.1, hk_.1.2.2.2.1, hk_.1.2.2.2.2⟩)); have n8_ := Aside0.mk (hb); clear HO_6; clear HO_9; clear HO_10; clear HO_470002; clear BK450; clear BK469; clear HO482; clear HO486; clear HB; have HO_6 := n0_; have HO_9 := n1_; have HO_10 := n2_; have HO_470002 := n3_; have BK450 := n4_; have BK469 := n5_; have HO482 := n6_; have HO486 := n7_; have HB := n8_; clear n0_ n1_ n2_ n3_ n4_ n5_ n6_ n7_ n8_; (try clear hb); (try clear hkp); (try clear hy0)))
        (try simp only [Act.put, List.setIfInBounds_toArray, List.set_cons_zero, List.set_cons_succ])
        go_cut [80] (fun v80 wc => ∃ (kq : Nat) (x80_50 : Bool), v80 = .bool x80_50 ∧ Aside0 (laws_FnExactHuntFleet.j1 kq l1 t460 t463 t473 x80_50 a0_0 a0_1 l0_2 = some true) ∧ Aside0 (kq ≤ kj15) ∧ Aside0 (Kd.R (Kd.int .i64) 2 wc w.heap.size (fun k_ => some k_ ≠ (v474 : Value).ownBlock ∧ some k_ ≠ ((.slice Ao31 t466.length co31) : Value).ownBlock) v461 t460) ∧ Aside0 (Kd.R (Kd.int .i64) 2 wc w.heap.size (fun k_ => some k_ ≠ (v461 : Value).ownBlock ∧ some k_ ≠ ((.slice Ao31 t466.length co31) : Value).ownBlock) v474 t473) ∧ Aside0 (Kd.R (Kd.int .i64) 2 wc w.heap.size (fun k_ => some k_ ≠ (v461 : Value).ownBlock ∧ some k_ ≠ (v474 : Value).ownBlock) (.slice Ao31 t466.length co31) t489) ∧ Aside0 (wc.heap[gb450]? = some (.cells #[.int .i64 a0_0, .int .i64 a0_1, (.slice A0_2 l0_2.length c0_2)] 24 (0, 0))) ∧ Aside0 (wc.heap[gb469]? = some (.cells #[.int .i64 t464, .int .i64 t465, (.slice Ao31 t466.length co31)] 28 (0, 0))) ∧ Aside0 (Below w.heap.size w wc))
        case first =>
         have H := HC51.out
         clear HC51
         by_cases c62 : t490 < 0
         ·rw [if_pos c62] at H
          have c62b0 : decide (t490 < 0) = true := decide_eq_true c62
          clear c62
          (first | rw [c62b0] | (simp only [i64_w, i32_w]; rw [c62b0]) | skip)
          have H' := Aside0.mk H
          clear H
          go_wp2
          go_meet
          case rel => exact ⟨_, (true), (by first | rfl | (simp; done) | (simp [*]; done)), H', ⟨by have := HJ15.out; first | omega | exact Nat.le_refl _⟩, ⟨by (with_reducible repeat (first | apply Kd.R_alloc | apply Kd.R_drewN | apply Kd.R_drew)); exact Kd.R_mono HO_6.out (fun _ hk => ⟨hk.2.1, hk.2.2.1⟩)⟩, ⟨by (with_reducible repeat (first | apply Kd.R_alloc | apply Kd.R_drewN | apply Kd.R_drew)); exact Kd.R_mono HO_10.out (fun _ hk => ⟨hk.1, hk.2.2.1⟩)⟩, ⟨by (with_reducible repeat (first | apply Kd.R_alloc | apply Kd.R_drewN | apply Kd.R_drew)); exact Kd.R_mono HO_470002.out (fun _ hk => ⟨hk.1, hk.2.2.1⟩)⟩, ⟨by (with_reducible repeat (first | refine bN_ ?_ _ | refine bkd_ ?_ | refine bka_ ?_ _)); exact BK450.out⟩, ⟨by (with_reducible repeat (first | refine bN_ ?_ _ | refine bkd_ ?_ | refine bka_ ?_ _)); exact BK469.out⟩, ⟨by repeat (first | (with_reducible first | exact HB.out | apply ba_ | apply pbN_ | apply bd1_ | refine bs_ ?_ GE450.out | refine bs_ ?_ GE469.out) | exact HB.out)⟩⟩
         ·rw [if_neg c62] at H
          have c62b0 : decide (t490 < 0) = false := decide_eq_false c62
          clear c62
          (first | rw [c62b0] | (simp only [i64_w, i32_w]; rw [c62b0]) | skip)
          replace H := Option.bind_eq_some_iff.mp H
          obtain ⟨t492, A630, H⟩ := H
          replace H : (if t492 = true then (laws_FnExactHuntFleet.j1 kj15 l1 t460 t463 t473 (t476 != t463) a0_0 a0_1 l0_2) else (laws_FnExactHuntFleet.j1 kj15 l1 t460 t463 t473 true a0_0 a0_1 l0_2)) = some true := H
          have A63 := Aside0.mk A630
          clear A630
          by_cases c64 : t492 = true
          ·subst c64
           have H1 : (laws_FnExactHuntFleet.j1 kj15 l1 t460 t463 t473 (t476 != t463) a0_0 a0_1 l0_2) = some true := by rw [if_pos rfl] at H; exact H
           clear H
           have H := H1
           clear H1
           have H' := Aside0.mk H
           clear H
           obtain ⟨Ao65, co65, eo65⟩ := Kd.R_slice HO_10.out
           subst eo65
           obtain ⟨Ao66, co66, eo66⟩ := Kd.R_slice HO_6.out
           subst eo66
           go_wp2_with (first | (go_at_call 9; (with_reducible refine (laws_eqInt64S.calls kj15 _ _ t473 _ _ t460 true _ ?side1 ?side2 ?side3 ?side4 A63.out).mono ?_); (case side1 => repeat (first | exact (Kd.R_reads' HO_10.out).2.2 | (with_reducible refine Kd.C_alloc ?_ _) | (with_reducible refine Kd.C_drewN ?_ _) | (with_reducible refine Kd.C_drew ?_))); (case side2 => exact (Kd.R_reads' HO_10.out).2.1); (case side3 => repeat (first | exact (Kd.R_reads' HO_6.out).2.2 | (with_reducible refine Kd.C_alloc ?_ _) | (with_reducible refine Kd.C_drewN ?_ _) | (with_reducible refine Kd.C_drew ?_))); (case side4 => exact (Kd.R_reads' HO_6.out).2.1); rintro e w' ⟨rfl, ⟨nd, rfl⟩⟩))
           go_meet
           case rel => exact ⟨_, ((t476 != t463)), (by first | rfl | (simp; done) | (simp [*]; done)), H', ⟨by have := HJ15.out; first | omega | exact Nat.le_refl _⟩, ⟨by (with_reducible repeat (first | apply Kd.R_alloc | apply Kd.R_drewN | apply Kd.R_drew)); exact Kd.R_mono HO_6.out (fun _ hk => ⟨hk.2.1, hk.2.2.1⟩)⟩, ⟨by (with_reducible repeat (first | apply Kd.R_alloc | apply Kd.R_drewN | apply Kd.R_drew)); exact Kd.R_mono HO_10.out (fun _ hk => ⟨hk.1, hk.2.2.1⟩)⟩, ⟨by (with_reducible repeat (first | apply Kd.R_alloc | apply Kd.R_drewN | apply Kd.R_drew)); exact Kd.R_mono HO_470002.out (fun _ hk => ⟨hk.1, hk.2.2.1⟩)⟩, ⟨by (with_reducible repeat (first | refine bN_ ?_ _ | refine bkd_ ?_ | refine bka_ ?_ _)); exact BK450.out⟩, ⟨by (with_reducible repeat (first | refine bN_ ?_ _ | refine bkd_ ?_ | refine bka_ ?_ _)); exact BK469.out⟩, ⟨by repeat (first | (with_reducible first | exact HB.out | apply ba_ | apply pbN_ | apply bd1_ | refine bs_ ?_ GE450.out | refine bs_ ?_ GE469.out) | exact HB.out)⟩⟩
          ·replace c64 := Bool.eq_false_iff.mpr c64
           subst c64
           have H1 : (laws_FnExactHuntFleet.j1 kj15 l1 t460 t463 t473 true a0_0 a0_1 l0_2) = some true := by rw [if_neg (show ¬ (false = true) by decide)] at H; exact H
           clear H
           have H := H1
           clear H1
           have H' := Aside0.mk H
           clear H
           obtain ⟨Ao67, co67, eo67⟩ := Kd.R_slice HO_10.out
           subst eo67
           obtain ⟨Ao68, co68, eo68⟩ := Kd.R_slice HO_6.out
           subst eo68
           go_wp2_with (first | (go_at_call 9; (with_reducible refine (laws_eqInt64S.calls kj15 _ _ t473 _ _ t460 false _ ?side1 ?side2 ?side3 ?side4 A63.out).mono ?_); (case side1 => repeat (first | exact (Kd.R_reads' HO_10.out).2.2 | (with_reducible refine Kd.C_alloc ?_ _) | (with_reducible refine Kd.C_drewN ?_ _) | (with_reducible refine Kd.C_drew ?_))); (case side2 => exact (Kd.R_reads' HO_10.out).2.1); (case side3 => repeat (first | exact (Kd.R_reads' HO_6.out).2.2 | (with_reducible refine Kd.C_alloc ?_ _) | (with_reducible refine Kd.C_drewN ?_ _) | (with_reducible refine Kd.C_drew ?_))); (case side4 => exact (Kd.R_reads' HO_6.out).2.1); rintro e w' ⟨rfl, ⟨nd, rfl⟩⟩))
           go_meet
           case rel => exact ⟨_, (true), (by first | rfl | (simp; done) | (simp [*]; done)), H', ⟨by have := HJ15.out; first | omega | exact Nat.le_refl _⟩, ⟨by (with_reducible repeat (first | apply Kd.R_alloc | apply Kd.R_drewN | apply Kd.R_drew)); exact Kd.R_mono HO_6.out (fun _ hk => ⟨hk.2.1, hk.2.2.1⟩)⟩, ⟨by (with_reducible repeat (first | apply Kd.R_alloc | apply Kd.R_drewN | apply Kd.R_drew)); exact Kd.R_mono HO_10.out (fun _ hk => ⟨hk.1, hk.2.2.1⟩)⟩, ⟨by (with_reducible repeat (first | apply Kd.R_alloc | apply Kd.R_drewN | apply Kd.R_drew)); exact Kd.R_mono HO_470002.out (fun _ hk => ⟨hk.1, hk.2.2.1⟩)⟩, ⟨by (with_reducible repeat (first | refine bN_ ?_ _ | refine bkd_ ?_ | refine bka_ ?_ _)); exact BK450.out⟩, ⟨by (with_reducible repeat (first | refine bN_ ?_ _ | refine bkd_ ?_ | refine bka_ ?_ _)); exact BK469.out⟩, ⟨by repeat (first | (with_reducible first | exact HB.out | apply ba_ | apply pbN_ | apply bd1_ | refine bs_ ?_ GE450.out | refine bs_ ?_ GE469.out) | exact HB.out)⟩⟩
        case rest =>
         clear HC51
         (try clear c1); (try clear c2); (try clear p2); (try clear c3); (try clear c3b0); (try clear c3b1); (try clear c4); (try clear c5); (try clear c6); (try clear c6b0); (try clear c7); (try clear c8); (try clear c9); (try clear c10); (try clear c11); (try clear c12); (try clear c29); (try clear c37); (try clear c42); (try clear c45); (try clear c48); (try clear c58); (try clear c62); (try clear c62b0); (try clear c64); (try clear hcz18_0); (try clear hcz18_1); (try clear hcz18_2); (try clear hcz20_0); (try clear hcz20_1); (try clear hcz20_2); (try clear hcz26_0); (try clear hcz26_1); (try clear hcz26_2); (try clear hcz30_0); (try clear hcz30_1); (try clear hcz30_2); (try clear hcz33_0); (try clear hcz33_1); (try clear hcz33_2); (try clear hcz59_0); (try clear hcz59_1); (try clear hcz59_2); (try clear hcz8_0); (try clear hcz8_1); (try clear hcz8_2); (try clear hfz18_0); (try clear hfz18_1); (try clear hfz18_2); (try clear hfz20_0); (try clear hfz20_1); (try clear hfz20_2); (try clear hfz26_0); (try clear hfz26_1); (try clear hfz26_2); (try clear hfz30_0); (try clear hfz30_1); (try clear hfz30_2); (try clear hfz33_0); (try clear hfz33_1); (try clear hfz33_2); (try clear hfz59_0); (try clear hfz59_1); (try clear hfz59_2); (try clear hfz8_0); (try clear hfz8_1); (try clear hfz8_2); (try clear p2)
         obtain ⟨kq, x80_50, rfl, HA, HJ50, HO_6, HO_10, HO_470002, BK450, BK469, HB⟩ := hcut
         have hl470002_50 := (Kd.R_reads' HO_470002.out).1
         rw [hl470002_50] at HO_470002
         (try simp only [hl470002_50])
         (try simp only [hl470002_50] at BK450)
         (try simp only [hl470002_50] at BK469)
         (try simp only [hl470002_50] at HO_6)
         (try simp only [hl470002_50] at HO_10)
         cases kq with
         | zero => exact absurd HA.out (by simp [laws_FnExactHuntFleet.j1])
         | succ kj50 =>
          have H := HA.out
          clear HA
          simp only [laws_FnExactHuntFleet.j1] at H
          by_cases c69 : x80_50 = true
          ·subst c69
           have H1 : (some false) = some true := by rw [if_pos rfl] at H; exact H
           clear H
           have H := H1
           clear H1
           exact absurd H (by simp)
          ·replace c69 := Bool.eq_false_iff.mpr c69
           subst c69
           have H1 : ((laws_markInt64S.f kj50 t473 1).bind fun bt493 => ((laws_heldInt64S.f kj50 bt493.2 1).bind fun t495 => (if t495 < 0 then (some false) else (if t495 = bt493.1 then ((laws_toSea.f kj50 a0_0 a0_1 l0_2).bind fun bt496 => ((laws_toInt64S.f kj50 l1).bind fun t501 => ((impl_HuntFleet.f kj50 bt496.1 bt496.2.1 bt496.2.2 t501).bind fun bt504 => ((laws_eqInt64S.f kj50 bt504.1 t460).bind fun t508 => (if t508 = true then (laws_FnExactHuntFleet.j2 kj50 bt493.2 bt493.1 (bt504.2 != t463)) else (laws_FnExactHuntFleet.j2 kj50 bt493.2 bt493.1 true)))))) else (some false))))) = some true := by rw [if_neg (show ¬ (false = true) by decide)] at H; exact H
           clear H
           have H := H1
           clear H1
           replace H := Option.bind_eq_some_iff.mp H
           obtain ⟨⟨t493, t494⟩, A700, H⟩ := H
           replace H : ((laws_heldInt64S.f kj50 t494 1).bind fun t495 => (if t495 < 0 then (some false) else (if t495 = t493 then ((laws_toSea.f kj50 a0_0 a0_1 l0_2).bind fun bt496 => ((laws_toInt64S.f kj50 l1).bind fun t501 => ((impl_HuntFleet.f kj50 bt496.1 bt496.2.1 bt496.2.2 t501).bind fun bt504 => ((laws_eqInt64S.f kj50 bt504.1 t460).bind fun t508 => (if t508 = true then (laws_FnExactHuntFleet.j2 kj50 t494 t493 (bt504.2 != t463)) else (laws_FnExactHuntFleet.j2 kj50 t494 t493 true)))))) else (some false)))) = some true := H
           have A70 := Aside0.mk A700
           clear A700
           replace H := Option.bind_eq_some_iff.mp H
           obtain ⟨t495, A710, H⟩ := H
           replace H : (if t495 < 0 then (some false) else (if t495 = t493 then ((laws_toSea.f kj50 a0_0 a0_1 l0_2).bind fun bt496 => ((laws_toInt64S.f kj50 l1).bind fun t501 => ((impl_HuntFleet.f kj50 bt496.1 bt496.2.1 bt496.2.2 t501).bind fun bt504 => ((laws_eqInt64S.f kj50 bt504.1 t460).bind fun t508 => (if t508 = true then (laws_FnExactHuntFleet.j2 kj50 t494 t493 (bt504.2 != t463)) else (laws_FnExactHuntFleet.j2 kj50 t494 t493 true)))))) else (some false))) = some true := H
           have A71 := Aside0.mk A710
           clear A710
           by_cases c72 : t495 < 0
           ·rw [if_pos c72] at H
            have c72b0 : decide (t495 < 0) = true := decide_eq_true c72
            clear c72
            exact absurd H (by simp)
           ·rw [if_neg c72] at H
            have c72b0 : decide (t495 < 0) = false := decide_eq_false c72
            clear c72
            by_cases c75 : t495 = t493
            ·rw [if_pos c75] at H
             have c75b0 : (t495 == t493) = true := beq_iff_eq.mpr c75
             have c75b1 : (t495 != t493) = false := bne_eq_false_iff_eq.mpr c75
             clear c75
             replace H := Option.bind_eq_some_iff.mp H
             obtain ⟨⟨t496, t497, t498⟩, A760, H⟩ := H
             replace H : ((laws_toInt64S.f kj50 l1).bind fun t501 => ((impl_HuntFleet.f kj50 t496 t497 t498 t501).bind fun bt504 => ((laws_eqInt64S.f kj50 bt504.1 t460).bind fun t508 => (if t508 = true then (laws_FnExactHuntFleet.j2 kj50 t494 t493 (bt504.2 != t463)) else (laws_FnExactHuntFleet.j2 kj50 t494 t493 true))))) = some true := H
             have A76 := Aside0.mk A760
             clear A760
             replace H := Option.bind_eq_some_iff.mp H
             obtain ⟨t501, A770, H⟩ := H
             replace H : ((impl_HuntFleet.f kj50 t496 t497 t498 t501).bind fun bt504 => ((laws_eqInt64S.f kj50 bt504.1 t460).bind fun t508 => (if t508 = true then (laws_FnExactHuntFleet.j2 kj50 t494 t493 (bt504.2 != t463)) else (laws_FnExactHuntFleet.j2 kj50 t494 t493 true)))) = some true := H
             have A77 := Aside0.mk A770
             clear A770
             replace H := Option.bind_eq_some_iff.mp H
             obtain ⟨⟨t504, t507⟩, A780, H⟩ := H
             replace H : ((laws_eqInt64S.f kj50 t504 t460).bind fun t508 => (if t508 = true then (laws_FnExactHuntFleet.j2 kj50 t494 t493 (t507 != t463)) else (laws_FnExactHuntFleet.j2 kj50 t494 t493 true))) = some true := H
             have A78 := Aside0.mk A780
             clear A780
             have HC79 := Aside0.mk H
             clear H
             obtain ⟨Ao80, co80, eo80⟩ := Kd.R_slice HO_10.out
             subst eo80
             go_upto_region 31 with (first | ((with_reducible refine gate_callee (f := 12) rfl ?_); refine goesA_ (some 83) rfl rfl Try.func12 (by kernel_rfl) rfl #[.slice Ao80 t473.length co80, .int .i64 1] rfl ?_; (with_reducible refine (laws_markInt64S.calls kj50 (fun k_ => some k_ = (.slice Ao80 t473.length co80 : Value).ownBlock) (.slice Ao80 t473.length co80) t473 1 t493 t494 w _ ?side1 ?side2 A70.out).mono ?_); (case side1 => repeat (first | (with_reducible first | exact HB.out | apply ba_ | apply pbN_ | apply bd1_ | refine bs_ ?_ GE450.out | refine bs_ ?_ GE469.out) | exact HB.out)); (case side2 => exact Kd.R_tight rfl HO_10.out); rintro e w81 ⟨rfl, hy0, hb, hkp⟩; refine ⟨_, rfl, ?_⟩; have n0_ := Aside0.mk (Kd.R_mono (ok' := fun k_ => some k_ ≠ (.slice Ao80 t473.length co80 : Value).ownBlock ∧ some k_ ≠ (.slice Ao31 t489.length co31 : Value).ownBlock) (Kd.R_keptB (HO_6.out) hkp (fun k_ hk_ hs_ => (hk_.1) hs_)) (fun k_ hk_ => ⟨hk_.1.1, hk_.1.2⟩)); have n1_ := Aside0.mk (Kd.R_reok rfl hy0 (fun k_ e_ => HO_10.out.1 k_ e_)); have n2_ := Aside0.mk (Kd.R_mono (ok' := fun k_ => some k_ ≠ (v461 : Value).ownBlock ∧ some k_ ≠ (.slice Ao80 t473.length co80 : Value).ownBlock) (Kd.R_keptB (HO_470002.out) hkp (fun k_ hk_ hs_ => (hk_.2) hs_)) (fun k_ hk_ => ⟨hk_.1.1, hk_.1.2⟩)); have n3_ := Aside0.mk (blk_kept (by (with_reducible repeat (first | refine bN_ ?_ _ | refine bkd_ ?_ | refine bka_ ?_ _)); exact BK450.out) hkp (fun hs_ => (fun e_ => (Kd.R_ne HO_10.out BK450.out (by decide)) e_) hs_)); have n4_ := Aside0.mk (blk_kept (by (with_reducible repeat (first | refine bN_ ?_ _ | refine bkd_ ?_ | refine bka_ ?_ _)); exact BK469.out) hkp (fun hs_ => (fun e_ => (Kd.R_ne HO_10.out BK469.out (by decide)) e_) hs_)); have n5_ := Aside0.mk (hb); clear HO_6; clear HO_10; clear HO_470002; clear BK450; clear BK469; clear HB; have HO_6 := n0_; have HO_10 := n1_; have HO_470002 := n2_; have BK450 := n3_; have BK469 := n4_; have HB := n5_; clear n0_ n1_ n2_ n3_ n4_ n5_; (try clear hb); (try clear hkp); (try clear hy0)) | ((with_reducible refine gate_callee (f := 13) rfl ?_); refine goesL_ (some 86) rfl rfl Try.func13 (by kernel_rfl) rfl #[.slice Ao80 t494.length co80, .int .i64 1] rfl (by (try simp only [List.map_toArray, List.map_cons, List.map_nil]); first | done | (rw [show t494.length = t473.length from (Kd.R_reads' HO_10.out).1.symm] <;> rfl) | rfl | (simp only [List.length_drop, List.length_take]; rfl)) ?_; (with_reducible refine (laws_heldInt64S.calls kj50 _ _ t494 1 t495 _ ?side1 ?side2 A71.out).mono ?_); (case side1 => repeat (first | exact (Kd.R_reads' HO_10.out).2.2 | (with_reducible refine Kd.C_alloc ?_ _) | (with_reducible refine Kd.C_drewN ?_ _) | (with_reducible refine Kd.C_drew ?_))); (case side2 => rw [show t494.length = t473.length from (Kd.R_reads' HO_10.out).1.symm]; exact (Kd.R_reads' HO_10.out).2.1); rintro e w' ⟨rfl, ⟨nd, rfl⟩⟩; refine ⟨_, rfl, ?_⟩; have hnb82 := NB450_469.out; have hnc82 := NB469_450.out; have hcz83_0 : w81.cell? ⟨gb450, 0, none⟩ = some (.int .i64 a0_0) := (bc_ BK450.out 0).trans rfl; have hcz83_1 : w81.cell? ⟨gb450, 1, none⟩ = some (.int .i64 a0_1) := (bc_ BK450.out 1).trans rfl; have hcz83_2 : w81.cell? ⟨gb450, 2, none⟩ = some (.slice A0_2 l0_2.length c0_2) := (bc_ BK450.out 2).trans rfl; have hfz83_0 := bf_ BK450.out 0; have hfz83_1 := bf_ BK450.out 1; have hfz83_2 := bf_ BK450.out 2) | ((with_reducible refine gate_callee (f := 6) rfl ?_); refine goesA_ (some 94) rfl rfl Try.func6 (by kernel_rfl) rfl #[.agg #[.int .i64 a0_0, .int .i64 a0_1, .slice A0_2 l0_2.length c0_2]] rfl ?_; (with_reducible refine (laws_toSea.calls kj50 a0_0 a0_1 _ _ l0_2 t496 t497 t498 _ ?side1 ?side2 A76.out).mono ?_); (case side1 => repeat (first | exact (Kd.C_below HR0_2.out (by repeat (first | (with_reducible first | exact HB.out | apply ba_ | apply pbN_ | apply bd1_ | refine bs_ ?_ GE450.out | refine bs_ ?_ GE469.out) | exact HB.out))) | (with_reducible refine Kd.C_alloc ?_ _) | (with_reducible refine Kd.C_drewN ?_ _) | (with_reducible refine Kd.C_drew ?_))); (case side2 => exact HC0_2.out); rintro e w84 ⟨v499, rfl, ho0, hb⟩; refine ⟨_, rfl, ?_⟩; have n0_ := Aside0.mk (Kd.R_elder' (by (with_reducible repeat (first | apply Kd.R_alloc | apply Kd.R_drewN | apply Kd.R_drew)); exact HO_6.out) (Kd.R_base ho0) hb); have n1_ := Aside0.mk (Kd.R_elder' (by (with_reducible repeat (first | apply Kd.R_alloc | apply Kd.R_drewN | apply Kd.R_drew)); exact HO_10.out) (Kd.R_base ho0) hb); have n2_ := Aside0.mk (Kd.R_elder' (by (with_reducible repeat (first | apply Kd.R_alloc | apply Kd.R_drewN | apply Kd.R_drew)); exact HO_470002.out) (Kd.R_base ho0) hb); have n3_ := Aside0.mk (Kd.R_lower (Kd.R_new' (Kd.R_new' (Kd.R_new' ho0 (Kd.R_lt (by (with_reducible repeat (first | apply Kd.R_alloc | apply Kd.R_drewN | apply Kd.R_drew)); exact HO_6.out))) (Kd.R_lt (by (with_reducible repeat (first | apply Kd.R_alloc | apply Kd.R_drewN | apply Kd.R_drew)); exact HO_10.out))) (Kd.R_lt (by (with_reducible repeat (first | apply Kd.R_alloc | apply Kd.R_drewN | apply Kd.R_drew)); exact HO_470002.out))) (bz_ (by repeat (first | (with_reducible first | exact HB.out | apply ba_ | apply pbN_ | apply bd1_ | refine bs_ ?_ GE450.out | refine bs_ ?_ GE469.out) | exact HB.out)))); have n4_ := Aside0.mk (bb_ (g := gb450) (o := .cells #[.int .i64 a0_0, .int .i64 a0_1, .slice A0_2 l0_2.length c0_2] 24 (0, 0)) (by (with_reducible repeat (first | refine bN_ ?_ _ | refine bkd_ ?_ | refine bka_ ?_ _)); exact BK450.out) hb); have n5_ := Aside0.mk (bb_ (g := gb469) (o := .cells #[.int .i64 t464, .int .i64 t465, .slice Ao31 t489.length co31] 28 (0, 0)) (by (with_reducible repeat (first | refine bN_ ?_ _ | refine bkd_ ?_ | refine bka_ ?_ _)); exact BK469.out) hb); have n6_ := Aside0.mk (bp_ (by repeat (first | (with_reducible first | exact HB.out | apply ba_ | apply pbN_ | apply bd1_ | refine bs_ ?_ GE450.out | refine bs_ ?_ GE469.out) | exact HB.out)) hb); clear HO_6; clear HO_10; clear HO_470002; clear BK450; clear BK469; clear HB; have HO_6 := n0_; have HO_10 := n1_; have HO_470002 := n2_; have HO500 := n3_; have BK450 := n4_; have BK469 := n5_; have HB := n6_; clear n0_ n1_ n2_ n3_ n4_ n5_ n6_; (try clear hb); (try clear hb2); (try clear hk); (try clear hi); (try clear ho0)) | ((with_reducible refine gate_callee (f := 7) rfl ?_); refine goesA_ (some 96) rfl rfl Try.func7 (by kernel_rfl) rfl #[.slice A1 l1.length c1] rfl ?_; (with_reducible refine (laws_toInt64S.calls kj50 _ _ l1 t501 _ ?side1 ?side2 A77.out).mono ?_); (case side1 => repeat (first | exact (Kd.C_below HR1.out HB.out) | (with_reducible refine Kd.C_alloc ?_ _) | (with_reducible refine Kd.C_drewN ?_ _) | (with_reducible refine Kd.C_drew ?_))); (case side2 => exact HC1.out); rintro e w85 ⟨v502, rfl, ho0, hb⟩; refine ⟨_, rfl, ?_⟩; have n0_ := Aside0.mk (Kd.R_elder' (by (with_reducible repeat (first | apply Kd.R_alloc | apply Kd.R_drewN | apply Kd.R_drew)); exact HO_6.out) (Kd.R_base ho0) hb); have n1_ := Aside0.mk (Kd.R_elder' (by (with_reducible repeat (first | apply Kd.R_alloc | apply Kd.R_drewN | apply Kd.R_drew)); exact HO_10.out) (Kd.R_base ho0) hb); have n2_ := Aside0.mk (Kd.R_elder' (by (with_reducible repeat (first | apply Kd.R_alloc | apply Kd.R_drewN | apply Kd.R_drew)); exact HO_470002.out) (Kd.R_base ho0) hb); have n3_ := Aside0.mk (Kd.R_elder' (by (with_reducible repeat (first | apply Kd.R_alloc | apply Kd.R_drewN | apply Kd.R_drew)); exact HO500.out) (Kd.R_base ho0) hb); have n4_ := Aside0.mk (Kd.R_lower (Kd.R_new' (Kd.R_new' (Kd.R_new' (Kd.R_new' ho0 (Kd.R_lt (by (with_reducible repeat (first | apply Kd.R_alloc | apply Kd.R_drewN | apply Kd.R_drew)); exact HO_6.out))) (Kd.R_lt (by (with_reducible repeat (first | apply Kd.R_alloc | apply Kd.R_drewN | apply Kd.R_drew)); exact HO_10.out))) (Kd.R_lt (by (with_reducible repeat (first | apply Kd.R_alloc | apply Kd.R_drewN | apply Kd.R_drew)); exact HO_470002.out))) (Kd.R_lt (by (with_reducible repeat (first | apply Kd.R_alloc | apply Kd.R_drewN | apply Kd.R_drew)); exact HO500.out))) (bz_ (by repeat (first | (with_reducible first | exact HB.out | apply ba_ | apply pbN_ | apply bd1_ | refine bs_ ?_ GE450.out | refine bs_ ?_ GE469.out) | exact HB.out)))); have n5_ := Aside0.mk (bb_ (g := gb450) (o := .cells #[.int .i64 a0_0, .int .i64 a0_1, .slice A0_2 l0_2.length c0_2] 24 (0, 0)) (by (with_reducible repeat (first | refine bN_ ?_ _ | refine bkd_ ?_ | refine bka_ ?_ _)); exact BK450.out) hb); have n6_ := Aside0.mk (bb_ (g := gb469) (o := .cells #[.int .i64 t464, .int .i64 t465, .slice Ao31 t489.length co31] 28 (0, 0)) (by (with_reducible repeat (first | refine bN_ ?_ _ | refine bkd_ ?_ | refine bka_ ?_ _)); exact BK469.out) hb); have n7_ := Aside0.mk (bp_ (by repeat (first | (with_reducible first | exact HB.out | apply ba_ | apply pbN_ | apply bd1_ | refine bs_ ?_ GE450.out | refine bs_ ?_ GE469.out) | exact HB.out)) hb); clear HO_6; clear HO_10; clear HO_470002; clear HO500; clear BK450; clear BK469; clear HB; have HO_6 := n0_; have HO_10 := n1_; have HO_470002 := n2_; have HO500 := n3_; have HO503 := n4_; have BK450 := n5_; have BK469 := n6_; have HB := n7_; clear n0_ n1_ n2_ n3_ n4_ n5_ n6_ n7_; (try clear hb); (try clear hb2); (try clear hk); (try clear hi); (try clear ho0); obtain ⟨Ao86, co86, eo86⟩ := Kd.R_slice HO500.out; subst eo86; obtain ⟨Ao87, co87, eo87⟩ := Kd.R_slice HO503.out; subst eo87) | ((with_reducible refine gate_callee (f := 8) rfl ?_); refine goesA_ (some 97) rfl rfl Try.func8 (by kernel_rfl) rfl #[.agg #[.int .i64 t496, .int .i64 t497, .slice Ao86 t498.length co86], .slice Ao87 t501.length co87] rfl ?_; (with_reducible refine (impl_HuntFleet.calls kj50 t496 t497 _ _ t498 _ _ t501 t504 t507 _ ?side1 ?side2 ?side3 ?side4 A78.out).mono ?_); (case side1 => repeat (first | exact (Kd.R_reads' HO500.out).2.2 | (with_reducible refine Kd.C_alloc ?_ _) | (with_reducible refine Kd.C_drewN ?_ _) | (with_reducible refine Kd.C_drew ?_))); (case side2 => exact (Kd.R_reads' HO500.out).2.1); (case side3 => repeat (first | exact (Kd.R_reads' HO503.out).2.2 | (with_reducible refine Kd.C_alloc ?_ _) | (with_reducible refine Kd.C_drewN ?_ _) | (with_reducible refine Kd.C_drew ?_))); (case side4 => exact (Kd.R_reads' HO503.out).2.1); rintro e w88 ⟨v505, rfl, ho0, hb⟩; refine ⟨_, rfl, ?_⟩; have n0_ := Aside0.mk (Kd.R_elder' (by (with_reducible repeat (first | apply Kd.R_alloc | apply Kd.R_drewN | apply Kd.R_drew)); exact HO_6.out) (Kd.R_base ho0) hb); have n1_ := Aside0.mk (Kd.R_elder' (by (with_reducible repeat (first | apply Kd.R_alloc | apply Kd.R_drewN | apply Kd.R_drew)); exact HO_10.out) (Kd.R_base ho0) hb); have n2_ := Aside0.mk (Kd.R_elder' (by (with_reducible repeat (first | apply Kd.R_alloc | apply Kd.R_drewN | apply Kd.R_drew)); exact HO_470002.out) (Kd.R_base ho0) hb); have n3_ := Aside0.mk (Kd.R_elder' (by (with_reducible repeat (first | apply Kd.R_alloc | apply Kd.R_drewN | apply Kd.R_drew)); exact HO500.out) (Kd.R_base ho0) hb); have n4_ := Aside0.mk (Kd.R_elder' (by (with_reducible repeat (first | apply Kd.R_alloc | apply Kd.R_drewN | apply Kd.R_drew)); exact HO503.out) (Kd.R_base ho0) hb); have n5_ := Aside0.mk (Kd.R_lower (Kd.R_new' (Kd.R_new' (Kd.R_new' (Kd.R_new' (Kd.R_new' ho0 (Kd.R_lt (by (with_reducible repeat (first | apply Kd.R_alloc | apply Kd.R_drewN | apply Kd.R_drew)); exact HO_6.out))) (Kd.R_lt (by (with_reducible repeat (first | apply Kd.R_alloc | apply Kd.R_drewN | apply Kd.R_drew)); exact HO_10.out))) (Kd.R_lt (by (with_reducible repeat (first | apply Kd.R_alloc | apply Kd.R_drewN | apply Kd.R_drew)); exact HO_470002.out))) (Kd.R_lt (by (with_reducible repeat (first | apply Kd.R_alloc | apply Kd.R_drewN | apply Kd.R_drew)); exact HO500.out))) (Kd.R_lt (by (with_reducible repeat (first | apply Kd.R_alloc | apply Kd.R_drewN | apply Kd.R_drew)); exact HO503.out))) (bz_ (by repeat (first | (with_reducible first | exact HB.out | apply ba_ | apply pbN_ | apply bd1_ | refine bs_ ?_ GE450.out | refine bs_ ?_ GE469.out) | exact HB.out)))); have n6_ := Aside0.mk (bb_ (g := gb450) (o := .cells #[.int .i64 a0_0, .int .i64 a0_1, .slice A0_2 l0_2.length c0_2] 24 (0, 0)) (by (with_reducible repeat (first | refine bN_ ?_ _ | refine bkd_ ?_ | refine bka_ ?_ _)); exact BK450.out) hb); have n7_ := Aside0.mk (bb_ (g := gb469) (o := .cells #[.int .i64 t464, .int .i64 t465, .slice Ao31 t489.length co31] 28 (0, 0)) (by (with_reducible repeat (first | refine bN_ ?_ _ | refine bkd_ ?_ | refine bka_ ?_ _)); exact BK469.out) hb); have n8_ := Aside0.mk (bp_ (by repeat (first | (with_reducible first | exact HB.out | apply ba_ | apply pbN_ | apply bd1_ | refine bs_ ?_ GE450.out | refine bs_ ?_ GE469.out) | exact HB.out)) hb); clear HO_6; clear HO_10; clear HO_470002; clear HO500; clear HO503; clear BK450; clear BK469; clear HB; have HO_6 := n0_; have HO_10 := n1_; have HO_470002 := n2_; have HO500 := n3_; have HO503 := n4_; have HO506 := n5_; have BK450 := n6_; have BK469 := n7_; have HB := n8_; clear n0_ n1_ n2_ n3_ n4_ n5_ n6_ n7_ n8_; (try clear hb); (try clear hb2); (try clear hk); (try clear hi); (try clear ho0)))
             (try simp only [Act.put, List.setIfInBounds_toArray, List.set_cons_zero, List.set_cons_succ])
             go_cut [108] (fun v108 wc => ∃ (kq : Nat) (x108_78 : Bool), v108 = .bool x108_78 ∧ Aside0 (laws_FnExactHuntFleet.j2 kq t494 t493 x108_78 = some true) ∧ Aside0 (kq ≤ kj50) ∧ Aside0 (Kd.R (Kd.int .i64) 2 wc w.heap.size (fun k_ => some k_ ≠ ((.slice Ao31 t489.length co31) : Value).ownBlock) (.slice Ao80 t473.length co80) t494) ∧ Aside0 (Kd.R (Kd.int .i64) 2 wc w.heap.size (fun k_ => some k_ ≠ ((.slice Ao80 t473.length co80) : Value).ownBlock) (.slice Ao31 t489.length co31) t489) ∧ Aside0 (wc.heap[gb450]? = some (.cells #[.int .i64 a0_0, .int .i64 a0_1, (.slice A0_2 l0_2.length c0_2)] 24 (0, 0))) ∧ Aside0 (wc.heap[gb469]? = some (.cells #[.int .i64 t464, .int .i64 t465, (.slice Ao31 t489.length co31)] 28 (0, 0))) ∧ Aside0 (Below w.heap.size w wc))
             case first =>
              have H := HC79.out
              clear HC79
              replace H := Option.bind_eq_some_iff.mp H
              obtain ⟨t508, A890, H⟩ := H
              replace H : (if t508 = true then (laws_FnExactHuntFleet.j2 kj50 t494 t493 (t507 != t463)) else (laws_FnExactHuntFleet.j2 kj50 t494 t493 true)) = some true := H
              have A89 := Aside0.mk A890
              clear A890
              by_cases c90 : t508 = true
              ·subst c90
               have H1 : (laws_FnExactHuntFleet.j2 kj50 t494 t493 (t507 != t463)) = some true := by rw [if_pos rfl] at H; exact H
               clear H
               have H := H1
               clear H1
               have H' := Aside0.mk H
               clear H
               obtain ⟨Ao91, co91, eo91⟩ := Kd.R_slice HO506.out
               subst eo91
               obtain ⟨Ao92, co92, eo92⟩ := Kd.R_slice HO_6.out
               subst eo92
               go_wp2_with (first | ((with_reducible refine gate_callee (f := 9) rfl ?_); refine goesA_ (some 102) rfl rfl Try.func9 (by kernel_rfl) rfl #[.slice Ao91 t504.length co91, .slice Ao92 t460.length co92] rfl ?_; (with_reducible refine (laws_eqInt64S.calls kj50 _ _ t504 _ _ t460 true _ ?side1 ?side2 ?side3 ?side4 A89.out).mono ?_); (case side1 => repeat (first | exact (Kd.R_reads' HO506.out).2.2 | (with_reducible refine Kd.C_alloc ?_ _) | (with_reducible refine Kd.C_drewN ?_ _) | (with_reducible refine Kd.C_drew ?_))); (case side2 => exact (Kd.R_reads' HO506.out).2.1); (case side3 => repeat (first | exact (Kd.R_reads' HO_6.out).2.2 | (with_reducible refine Kd.C_alloc ?_ _) | (with_reducible refine Kd.C_drewN ?_ _) | (with_reducible refine Kd.C_drew ?_))); (case side4 => exact (Kd.R_reads' HO_6.out).2.1); rintro e w' ⟨rfl, ⟨nd, rfl⟩⟩; refine ⟨_, rfl, ?_⟩))
               go_meet
               case rel => exact ⟨_, ((t507 != t463)), (by first | rfl | (simp; done) | (simp [*]; done)), H', ⟨by have := HJ15.out; have := HJ50.out; first | omega | exact Nat.le_refl _⟩, ⟨by (try simp only [hl470002_50]); (with_reducible repeat (first | apply Kd.R_alloc | apply Kd.R_drewN | apply Kd.R_drew)); exact Kd.R_mono HO_10.out (fun _ hk => hk.1.1.1.2)⟩, ⟨by (try simp only [hl470002_50]); (with_reducible repeat (first | apply Kd.R_alloc | apply Kd.R_drewN | apply Kd.R_drew)); exact Kd.R_mono HO_470002.out (fun _ hk => hk.1.1.1.2)⟩, ⟨by (try simp only [hl470002_50]); (with_reducible repeat (first | refine bN_ ?_ _ | refine bkd_ ?_ | refine bka_ ?_ _)); exact BK450.out⟩, ⟨by (try simp only [hl470002_50]); (with_reducible repeat (first | refine bN_ ?_ _ | refine bkd_ ?_ | refine bka_ ?_ _)); exact BK469.out⟩, ⟨by repeat (first | (with_reducible first | exact HB.out | apply ba_ | apply pbN_ | apply bd1_ | refine bs_ ?_ GE450.out | refine bs_ ?_ GE469.out) | exact HB.out)⟩⟩
              ·replace c90 := Bool.eq_false_iff.mpr c90
               subst c90
               have H1 : (laws_FnExactHuntFleet.j2 kj50 t494 t493 true) = some true := by rw [if_neg (show ¬ (false = true) by decide)] at H; exact H
               clear H
               have H := H1
               clear H1
               have H' := Aside0.mk H
               clear H
               obtain ⟨Ao93, co93, eo93⟩ := Kd.R_slice HO506.out
               subst eo93
               obtain ⟨Ao94, co94, eo94⟩ := Kd.R_slice HO_6.out
               subst eo94
               go_wp2_with (first | ((with_reducible refine gate_callee (f := 9) rfl ?_); refine goesA_ (some 102) rfl rfl Try.func9 (by kernel_rfl) rfl #[.slice Ao93 t504.length co93, .slice Ao94 t460.length co94] rfl ?_; (with_reducible refine (laws_eqInt64S.calls kj50 _ _ t504 _ _ t460 false _ ?side1 ?side2 ?side3 ?side4 A89.out).mono ?_); (case side1 => repeat (first | exact (Kd.R_reads' HO506.out).2.2 | (with_reducible refine Kd.C_alloc ?_ _) | (with_reducible refine Kd.C_drewN ?_ _) | (with_reducible refine Kd.C_drew ?_))); (case side2 => exact (Kd.R_reads' HO506.out).2.1); (case side3 => repeat (first | exact (Kd.R_reads' HO_6.out).2.2 | (with_reducible refine Kd.C_alloc ?_ _) | (with_reducible refine Kd.C_drewN ?_ _) | (with_reducible refine Kd.C_drew ?_))); (case side4 => exact (Kd.R_reads' HO_6.out).2.1); rintro e w' ⟨rfl, ⟨nd, rfl⟩⟩; refine ⟨_, rfl, ?_⟩))
               go_meet
               case rel => exact ⟨_, (true), (by first | rfl | (simp; done) | (simp [*]; done)), H', ⟨by have := HJ15.out; have := HJ50.out; first | omega | exact Nat.le_refl _⟩, ⟨by (try simp only [hl470002_50]); (with_reducible repeat (first | apply Kd.R_alloc | apply Kd.R_drewN | apply Kd.R_drew)); exact Kd.R_mono HO_10.out (fun _ hk => hk.1.1.1.2)⟩, ⟨by (try simp only [hl470002_50]); (with_reducible repeat (first | apply Kd.R_alloc | apply Kd.R_drewN | apply Kd.R_drew)); exact Kd.R_mono HO_470002.out (fun _ hk => hk.1.1.1.2)⟩, ⟨by (try simp only [hl470002_50]); (with_reducible repeat (first | refine bN_ ?_ _ | refine bkd_ ?_ | refine bka_ ?_ _)); exact BK450.out⟩, ⟨by (try simp only [hl470002_50]); (with_reducible repeat (first | refine bN_ ?_ _ | refine bkd_ ?_ | refine bka_ ?_ _)); exact BK469.out⟩, ⟨by repeat (first | (with_reducible first | exact HB.out | apply ba_ | apply pbN_ | apply bd1_ | refine bs_ ?_ GE450.out | refine bs_ ?_ GE469.out) | exact HB.out)⟩⟩
             case rest =>
              clear HC79
              (try clear c1); (try clear c2); (try clear p2); (try clear c3); (try clear c3b0); (try clear c3b1); (try clear c4); (try clear c5); (try clear c6); (try clear c6b0); (try clear c7); (try clear c8); (try clear c9); (try clear c10); (try clear c11); (try clear c12); (try clear c13); (try clear c29); (try clear c37); (try clear c42); (try clear c45); (try clear c48); (try clear c58); (try clear c62); (try clear c62b0); (try clear c64); (try clear c69); (try clear c72); (try clear c72b0); (try clear c75); (try clear c75b0); (try clear c75b1); (try clear c82); (try clear c90); (try clear hcz18_0); (try clear hcz18_1); (try clear hcz18_2); (try clear hcz20_0); (try clear hcz20_1); (try clear hcz20_2); (try clear hcz26_0); (try clear hcz26_1); (try clear hcz26_2); (try clear hcz30_0); (try clear hcz30_1); (try clear hcz30_2); (try clear hcz33_0); (try clear hcz33_1); (try clear hcz33_2); (try clear hcz59_0); (try clear hcz59_1); (try clear hcz59_2); (try clear hcz83_0); (try clear hcz83_1); (try clear hcz83_2); (try clear hcz8_0); (try clear hcz8_1); (try clear hcz8_2); (try clear hfz18_0); (try clear hfz18_1); (try clear hfz18_2); (try clear hfz20_0); (try clear hfz20_1); (try clear hfz20_2); (try clear hfz26_0); (try clear hfz26_1); (try clear hfz26_2); (try clear hfz30_0); (try clear hfz30_1); (try clear hfz30_2); (try clear hfz33_0); (try clear hfz33_1); (try clear hfz33_2); (try clear hfz59_0); (try clear hfz59_1); (try clear hfz59_2); (try clear hfz83_0); (try clear hfz83_1); (try clear hfz83_2); (try clear hfz8_0); (try clear hfz8_1); (try clear hfz8_2); (try clear p2)
              obtain ⟨kq, x108_78, rfl, HA, HJ78, HO_10, HO_470002, BK450, BK469, HB⟩ := hcut
              have hl10_78 := (Kd.R_reads' HO_10.out).1
              rw [hl10_78] at HO_10
              (try simp only [hl10_78])
              (try simp only [hl10_78] at BK450)
              (try simp only [hl10_78] at BK469)
              (try simp only [hl10_78] at HO_470002)
              cases kq with
              | zero => exact absurd HA.out (by simp [laws_FnExactHuntFleet.j2])
              | succ kj78 =>
               have H := HA.out
               clear HA
               simp only [laws_FnExactHuntFleet.j2] at H
               by_cases c95 : x108_78 = true
               ·subst c95
                have H1 : (some false) = some true := by rw [if_pos rfl] at H; exact H
                clear H
                have H := H1
                clear H1
                exact absurd H (by simp)
               ·replace c95 := Bool.eq_false_iff.mpr c95
                subst c95
                have H1 : ((laws_heldInt64S.f kj78 t494 1).bind fun t509 => (if t509 < 0 then (some false) else (if t509 = t493 then (some true) else (some false)))) = some true := by rw [if_neg (show ¬ (false = true) by decide)] at H; exact H
                clear H
                have H := H1
                clear H1
                replace H := Option.bind_eq_some_iff.mp H
                obtain ⟨t509, A960, H⟩ := H
                replace H : (if t509 < 0 then (some false) else (if t509 = t493 then (some true) else (some false))) = some true := H
                have A96 := Aside0.mk A960
                clear A960
                by_cases c97 : t509 < 0
                ·rw [if_pos c97] at H
                 have c97b0 : decide (t509 < 0) = true := decide_eq_true c97
                 clear c97
                 exact absurd H (by simp)
                ·rw [if_neg c97] at H
                 have c97b0 : decide (t509 < 0) = false := decide_eq_false c97
                 clear c97
                 by_cases c98 : t509 = t493
                 ·rw [if_pos c98] at H
                  have c98b0 : (t509 == t493) = true := beq_iff_eq.mpr c98
                  have c98b1 : (t509 != t493) = false := bne_eq_false_iff_eq.mpr c98
                  clear c98
                  clear H
                  go_wp2_with (first | ((with_reducible refine gate_callee (f := 13) rfl ?_); refine goesA_ (some 111) rfl rfl Try.func13 (by kernel_rfl) rfl #[.slice Ao80 t494.length co80, .int .i64 1] rfl ?_; (with_reducible refine (laws_heldInt64S.calls kj78 _ _ t494 1 t509 _ ?side1 ?side2 A96.out).mono ?_); (case side1 => repeat (first | exact (Kd.R_reads' HO_10.out).2.2 | (with_reducible refine Kd.C_alloc ?_ _) | (with_reducible refine Kd.C_drewN ?_ _) | (with_reducible refine Kd.C_drew ?_))); (case side2 => exact (Kd.R_reads' HO_10.out).2.1); rintro e w' ⟨rfl, ⟨nd, rfl⟩⟩; refine ⟨_, rfl, ?_⟩))
                  go_ret
                  exact ⟨by first | rfl | (simp [errW_none, errW_some] <;> rfl) | (simp [*, errW_none, errW_some] <;> rfl), by repeat (first | (with_reducible first | exact HB.out | apply ba_ | apply pbN_ | apply bd1_ | refine bs_ ?_ GE450.out | refine bs_ ?_ GE469.out) | exact HB.out)⟩
                 ·rw [if_neg c98] at H
                  have c98b0 : (t509 == t493) = false := beq_eq_false_iff_ne.mpr c98
                  have c98b1 : (t509 != t493) = true := bne_iff_ne.mpr c98
                  exact absurd H (by simp)
            ·rw [if_neg c75] at H
             have c75b0 : (t495 == t493) = false := beq_eq_false_iff_ne.mpr c75
             have c75b1 : (t495 != t493) = true := bne_iff_ne.mpr c75
             exact absurd H (by simp)
       ·replace c48 := Bool.eq_false_iff.mpr c48
        subst c48
        have H1 : (some false) = some true := by rw [if_neg (show ¬ (false = true) by decide)] at H; exact H
        clear H
        have H := H1
        clear H1
        exact absurd H (by simp)
      ·replace c45 := Bool.eq_false_iff.mpr c45
       subst c45
       have H1 : (some false) = some true := by rw [if_neg (show ¬ (false = true) by decide)] at H; exact H
       clear H
       have H := H1
       clear H1
       exact absurd H (by simp)
theorem fold_most (ok : Int → Bool) (F : Int → Int → List (List Int)) (G : Int → List (List Int)) (m : Int) (hm : 0 ≤ m) (hF : ∀ own rest, 0 ≤ rest → (((G own).length : Int) ≤ rest → F own rest = G own) ∧ (rest < ((G own).length : Int) → rest ≤ ((F own rest).length : Int))) :
  ∀ (P : List Int) (out : List (List Int)), ((((out ++ P.flatMap fun own => if ok own = true then G own else []).length : Nat) : Int) ≤ m → P.foldl (goStep m ok F) out = out ++ P.flatMap fun own => if ok own = true then G own else []) ∧ (m < (((out ++ P.flatMap fun own => if ok own = true then G own else []).length : Nat) : Int) → m ≤ ((P.foldl (goStep m ok F) out).length : Int))
 | [], out => by
  simp only [List.flatMap_nil, List.append_nil, List.foldl_nil]
  exact ⟨fun _ => trivial, fun h => by omega⟩
 | x :: P, out => by
  rw [List.foldl_cons, List.flatMap_cons]
  by_cases hlt : (out.length : Int) < m
  ·by_cases hx : ok x = true
   ·rw [if_pos hx]
    have e : goStep m ok F out x = out ++ F x (m - (out.length : Int)) := by
     unfold goStep
     rw [if_pos (.inr hlt), if_pos hx, if_neg (by omega)]
    rw [e]
    obtain ⟨f1, f2⟩ := hF x (m - (out.length : Int)) (by omega)
    by_cases ha : ((G x).length : Int) ≤ m - (out.length : Int)
    ·rw [f1 ha, ← List.append_assoc]
     exact fold_most ok F G m hm hF P (out ++ G x)
    ·have h2 := f2 (by omega)
     have hl : m ≤ ((out ++ F x (m - (out.length : Int))).length : Int) := by rw [List.length_append]; omega
     rw [fold_stuck m ok F (by omega) P _ hl]
     refine ⟨fun h => ?_, fun _ => hl⟩
     rw [List.length_append, List.length_append] at h
     omega
   ·rw [if_neg hx, List.nil_append]
    have e : goStep m ok F out x = out := by
     unfold goStep
     rw [if_pos (.inr hlt), if_neg hx]
    rw [e]
    exact fold_most ok F G m hm hF P out
  ·have e : goStep m ok F out x = out := by
    unfold goStep
    rw [if_neg (by omega)]
   rw [e, fold_stuck m ok F (by omega) P out (by omega)]
   refine ⟨fun h => ?_, fun _ => by omega⟩
   generalize hr : ((if ok x = true then G x else []) ++ P.flatMap fun own => if ok own = true then G own else []) = r at h ⊢
   rw [List.length_append] at h
   have : r = [] := List.eq_nil_of_length_eq_zero (by omega)
   rw [this, List.append_nil]
theorem goV_most {W H : Nat} (ships : List Int) (T : List S45) : ∀ (d : Nat) (list : List Int) (used m : Int), 0 ≤ m → (((goV W H ships T d list used (-1)).length : Int) ≤ m → goV W H ships T d list used m = goV W H ships T d list used (-1)) ∧ (m < ((goV W H ships T d list used (-1)).length : Int) → m ≤ ((goV W H ships T d list used m).length : Int))
 | 0, list, used, m, hm => ⟨fun _ => rfl, fun h => by unfold goV at h ⊢; split at h <;> simp at h ⊢ <;> omega⟩
 | d + 1, list, used, m, hm => by
  have e : goV W H ships T (d + 1) list used (-1) = [] ++ (placeOf W H ships list.length).flatMap fun own => if goOk ships list own used = true then goV W H ships T d (list ++ [own]) (Go.bits .or .i64 used own) (-1) else [] := by
   show (placeOf W H ships list.length).foldl (goStep (-1) _ _) [] = _
   rw [foldl_all _ _ (-1) (by omega)]
  rw [e]
  exact fold_most _ _ (fun own => goV W H ships T d (list ++ [own]) (Go.bits .or .i64 used own) (-1)) m hm (fun own rest hr => goV_most ships T d (list ++ [own]) _ rest hr) _ []
theorem goFleets_most {w h : Int} {l : List Int} (hs : seaV w h l = true) : ((fleetsOf w h l).length ≤ 300 → goFleets w h l [] 301 = fleetsOf w h l) ∧ (¬ (fleetsOf w h l).length ≤ 300 → 300 < (goFleets w h l [] 301).length) := by
 have e := goFleets_none hs
 unfold goFleets at e ⊢
 obtain ⟨h1, h2⟩ := goV_most (W := w.toNat) (H := h.toNat) l [] l.length [] 0 301 (by omega)
 rw [e] at h1 h2
 refine ⟨fun hl => h1 (by omega), fun hl => ?_⟩
 by_cases h3 : (fleetsOf w h l).length = 301
 ·rw [h1 (by omega)]; omega
 ·have := h2 (by omega); omega
theorem openB_rd {N c : Nat} (T : List S45) (h : c < N) : rdOf false (openB N T) (c : Int) = !(T.any fun x => x.f0 == (c : Int)) := by
 unfold rdOf
 rw [Int.toNat_natCast, List.getD_eq_getElem?_getD, List.getElem?_eq_getElem (by rw [openB_len]; exact h), Option.getD_some]
 simp [openB]
theorem chosenTo_none (p : Int → Bool) (h : ∀ c, p c = false) : ∀ n, chosenTo p n = []
 | 0 => rfl
 | n + 1 => by
  show (if p (n : Int) = true then chosenTo p n ++ [(n : Int)] else chosenTo p n) = []
  rw [h, if_neg (by simp), chosenTo_none p h n]
theorem bestCh_in {N : Nat} (list : List Int) (p : Int → Bool) {c : Nat} (hc : c ≤ N) : -1 ≤ (chosenTo p c).foldl (bestStep list) (-1) ∧ (chosenTo p c).foldl (bestStep list) (-1) < (N : Int) := by
 have := bestTo_in (N := N) list (chosenTo p c) (fun x hx => by have := (chosen_iff _ _ _).1 hx; omega) _ (Nat.le_refl _)
 rwa [List.take_length] at this
theorem best_ev {N : Nat} (hN : N ≤ 25) (list : List Int) (hl : list.length = N) (T : List S45) (tot : Int) : Ev (fun k => spec_l09Best.l0 k list tot (openB N T) (-1) 0) (bestV list (openV N T fun _ => decide (tot > 0))) := by
 have hlen := openB_len N T
 by_cases ht : tot > 0
 ·obtain ⟨p, hp⟩ : ∃ p : Int → Bool, p = fun c => !(T.any fun x => x.f0 == c) := ⟨_, rfl⟩
  have hv : openV N T (fun _ => decide (tot > 0)) = chosenTo p N := by
   unfold openV
   rw [hp]
   congr 1
   funext c
   rw [decide_eq_true ht, Bool.true_and]
  rw [hv]
  have key : ∀ (d c : Nat), c + d = N → Ev (fun k => spec_l09Best.l0 k list tot (openB N T) ((chosenTo p c).foldl (bestStep list) (-1)) c) ((chosenTo p N).foldl (bestStep list) (-1)) := by
   intro d
   induction d with
   | zero =>
    intro c hc
    have e : c = N := by omega
    subst e
    refine Ev.step (f := fun k => spec_l09Best.j1 k list tot (openB c T) ((chosenTo p c).foldl (bestStep list) (-1)) c false) (fun k => ?_) (Ev.step (f := fun _ => some _) (fun k => ?_) (Ev.now _))
    ·simp only [spec_l09Best.l0]
     rw [if_neg (by rw [hlen]; omega)]
    ·simp only [spec_l09Best.j1]
     rw [if_neg (by simp)]
   | succ d ih =>
    intro c hc
    have hcN : c < N := by omega
    have c1 : (c : Int) < ((openB N T).length : Int) := by rw [hlen]; omega
    have c2 : (0 : Int) ≤ (c : Int) := by omega
    have c3 : (c : Int) < (list.length : Int) := by omega
    have hw := wrap_one (a := c) (by omega)
    have hb := bestCh_in (N := N) list p (c := c) (by omega)
    have hs : chosenTo p (c + 1) = if p (c : Int) = true then chosenTo p c ++ [(c : Int)] else chosenTo p c := rfl
    have ih1 := ih (c + 1) (by omega)
    rw [hs] at ih1
    have ho := openB_rd T hcN
    have hpc : p (c : Int) = !(T.any fun x => x.f0 == (c : Int)) := by rw [hp]
    rw [← hpc] at ho
    generalize hB : (chosenTo p c).foldl (bestStep list) (-1) = b at hb ⊢
    refine Ev.step (f := fun k => spec_l09Best.j1 k list tot (openB N T) b c true) (fun k => ?_) ?_
    ·simp only [spec_l09Best.l0]
     rw [if_pos c1, decide_eq_true ht]
    ·cases hpv : p (c : Int) with
     | false =>
      rw [hpv] at ho ih1
      rw [if_neg (by simp), hB] at ih1
      refine Ev.step (fun k => ?_) ih1
      simp only [spec_l09Best.j1]
      rw [if_pos trivial, if_pos c2, if_pos c1, ho, if_neg (by simp), hw]
     | true =>
      rw [hpv] at ho ih1
      rw [if_pos rfl, List.foldl_append, List.foldl_cons, List.foldl_nil, hB] at ih1
      unfold bestStep at ih1
      refine Ev.step (fun k => ?_) ih1
      simp only [spec_l09Best.j1]
      rw [if_pos trivial, if_pos c2, if_pos c1, ho, if_pos rfl, hw]
      by_cases h0 : b < 0
      ·rw [if_pos h0, if_pos (.inl h0)]
      ·rw [if_neg h0, if_pos c3, if_pos (by omega), if_pos (by omega)]
       by_cases h1 : rd list (c : Int) > rd list b
       ·rw [if_pos h1, if_pos (.inr h1)]
       ·rw [if_neg h1, if_neg (by rintro (h | h); exact h0 h; exact h1 h)]
  exact key N 0 (by omega)
 ·have hv : openV N T (fun _ => decide (tot > 0)) = [] := chosenTo_none _ (fun c => by rw [decide_eq_false ht]; rfl) N
  rw [hv]
  refine Ev.step (f := fun k => spec_l09Best.j1 k list tot (openB N T) (-1) 0 false) (fun k => ?_) (Ev.step (f := fun _ => some (-1)) (fun k => ?_) (Ev.now _))
  ·simp only [spec_l09Best.l0]
   rw [decide_eq_false ht]
   split <;> rfl
  ·simp only [spec_l09Best.j1]
   rw [if_neg (by simp)]
theorem fleet_mem_from {W H : Nat} {ships fl : List Int} : ∀ (d i : Nat), i + d = fl.length → fleetFrom W H ships fl i d = true → fl ∈ fleetsFrom W H ships d (fl.take i)
 | 0, i, hd, _ => by
  have e : i = fl.length := by omega
  subst e
  rw [List.take_length]
  simp [fleetsFrom]
 | d + 1, i, hd, h => by
  have hi : i < fl.length := by omega
  unfold fleetFrom at h
  simp only [Bool.and_eq_true] at h
  obtain ⟨⟨h1, h2⟩, h3⟩ := h
  have ih := fleet_mem_from d (i + 1) (by omega) h3
  rw [List.take_succ_eq_append_getElem hi] at ih
  rw [rd_get fl i hi] at h1 h2
  unfold fleetsFrom
  have hl : (fl.take i).length = i := by rw [List.length_take]; omega
  refine List.mem_flatMap.2 ⟨fl[i], ?_, by rw [if_pos h2]; exact ih⟩
  unfold placeOf
  rw [hl]
  exact List.contains_iff_mem.1 h1
theorem fleet_listed {W H : Nat} {ships fl : List Int} (hv : fleetV W H ships fl = true) : fl ∈ fleetsFrom W H ships ships.length [] := by
 unfold fleetV at hv
 simp only [Bool.and_eq_true, decide_eq_true_eq] at hv
 have := fleet_mem_from fl.length 0 (by omega) hv.2
 rw [List.take_zero, hv.1] at this
 exact this
def setTo (s : Int) (S : List S45) : Int := S.foldl (fun a x => Go.bits .or .i64 a (shl .i64 1 x.f0)) s
theorem agFrom_snoc (fl : List Int) : ∀ (S : List S45) (s : Int) (x : S45), agFrom fl s (S ++ [x]) = (agFrom fl s S && decide (ansFrom fl x.f0 (Go.bits .or .i64 (setTo s S) (shl .i64 1 x.f0)) 0 fl.length = x.f1))
 | [], s, x => by
  show (decide _ && true) = (true && decide _)
  rw [Bool.and_true, Bool.true_and]
  rfl
 | y :: S, s, x => by
  rw [List.cons_append]
  unfold agFrom
  rw [agFrom_snoc fl S _ x, Bool.and_assoc]
  rfl
theorem setTo_snoc (s : Int) (S : List S45) (x : S45) : setTo s (S ++ [x]) = Go.bits .or .i64 (setTo s S) (shl .i64 1 x.f0) := by simp [setTo]
theorem bestFold_mem (list : List Int) : ∀ (cs : List Int) (b : Int), cs.foldl (bestStep list) b ∈ b :: cs
 | [], b => by simp
 | c :: r, b => by
  rw [List.foldl_cons]
  have h := bestFold_mem list r (bestStep list b c)
  rcases List.mem_cons.1 h with h | h
  ·rw [h]
   unfold bestStep
   split <;> simp
  ·exact List.mem_cons_of_mem _ (List.mem_cons_of_mem _ h)
theorem bestV_mem (list : List Int) {cs : List Int} (h : cs ≠ []) : bestV list cs ∈ cs := by
 cases cs with
 | nil => exact absurd rfl h
 | cons c r =>
  unfold bestV
  rw [List.foldl_cons, show bestStep list (-1) c = c from by unfold bestStep; rw [if_pos (.inl (by omega))]]
  exact bestFold_mem list r c
def Shots (N set : Nat) (S : List S45) : Prop := set < 33554432 ∧ (∀ c : Nat, set.testBit c = true ↔ ∃ x ∈ S, x.f0 = (c : Int)) ∧ ∀ x ∈ S, 0 ≤ x.f0 ∧ x.f0 < (N : Int)
theorem shots_none (N : Nat) : Shots N 0 [] := ⟨by omega, fun c => by simp, fun x hx => by cases hx⟩
theorem shots_next {N set : Nat} {S : List S45} (h : Shots N set S) (hN : N ≤ 25) {c : Nat} (hc : c < N) (a : Int) : Go.bits .or .i64 (set : Int) (shl .i64 1 (c : Int)) = ((set ||| 2 ^ c : Nat) : Int) ∧ Shots N (set ||| 2 ^ c) (S ++ [⟨(c : Int), a⟩]) := by
 obtain ⟨h1, h2, h3⟩ := h
 have hp : 2 ^ c < 33554432 := Nat.lt_of_lt_of_le (Nat.pow_lt_pow_right (by omega) (show c < 25 by omega)) (by simp)
 refine ⟨by rw [shl_nat c (by omega), bits_or_nat set (2 ^ c) (Nat.lt_of_lt_of_le h1 pow25_le) (Nat.lt_of_lt_of_le hp pow25_le)], Nat.or_lt_two_pow (n := 25) h1 hp, fun q => ?_, fun x hx => ?_⟩
 ·rw [Nat.testBit_or, Bool.or_eq_true, h2 q, Nat.testBit_two_pow]
  simp only [List.mem_append, List.mem_singleton, decide_eq_true_eq]
  constructor
  ·rintro (⟨x, hx, e⟩ | e)
   ·exact ⟨x, .inl hx, e⟩
   ·exact ⟨_, .inr rfl, by simp [e]⟩
  ·rintro ⟨x, hx | rfl, e⟩
   ·exact .inl ⟨x, hx, e⟩
   ·exact .inr (by have e2 : (c : Int) = (q : Int) := e; omega)
 ·rcases List.mem_append.1 hx with hx | hx
  ·exact h3 x hx
  ·rw [List.mem_singleton.1 hx]
   simp only []
   omega
def leftOf (N set : Nat) : Nat := ((List.range N).filter fun c => !set.testBit c).length
theorem filter_le {P Q : Nat → Bool} (h : ∀ q, P q = true → Q q = true) : ∀ l : List Nat, (l.filter P).length ≤ (l.filter Q).length
 | [] => by simp
 | a :: r => by
  have ih := filter_le h r
  rw [List.filter_cons, List.filter_cons]
  by_cases ha : P a = true
  ·rw [if_pos ha, if_pos (h a ha)]; simpa using ih
  ·rw [if_neg ha]
   split
   ·rw [List.length_cons]; omega
   ·exact ih
theorem filter_lt {P Q : Nat → Bool} (h : ∀ q, P q = true → Q q = true) {c : Nat} (h1 : P c = false) (h2 : Q c = true) : ∀ l : List Nat, c ∈ l → (l.filter P).length < (l.filter Q).length
 | [], hm => by cases hm
 | a :: r, hm => by
  have hle := filter_le h r
  rw [List.filter_cons, List.filter_cons]
  by_cases e : a = c
  ·subst e
   rw [if_neg (by rw [h1]; simp), if_pos h2, List.length_cons]
   omega
  ·have ih := filter_lt h h1 h2 r (by
    rcases List.mem_cons.1 hm with hm | hm
    ·exact absurd hm.symm e
    ·exact hm)
   by_cases ha : P a = true
   ·rw [if_pos ha, if_pos (h a ha), List.length_cons, List.length_cons]; omega
   ·rw [if_neg ha]
    split
    ·rw [List.length_cons]; omega
    ·exact ih
theorem left_next {N set c : Nat} (hc : c < N) (hb : set.testBit c = false) : leftOf N (set ||| 2 ^ c) < leftOf N set := by
 unfold leftOf
 refine filter_lt (fun q hq => ?_) (c := c) ?_ ?_ _ (List.mem_range.2 hc)
 ·rw [Nat.testBit_or] at hq
  cases h : set.testBit q with
  | false => rfl
  | true => rw [h] at hq; simp at hq
 ·rw [Nat.testBit_or, Nat.testBit_two_pow]; simp
 ·rw [hb]; rfl
theorem open_some {N set V : Nat} {S : List S45} (h : Shots N set S) (hN : N ≤ 25) (hV : V < 2 ^ N) (hne : Go.bits .andNot .i64 (V : Int) (set : Int) ≠ 0) {tot : Int} (ht : tot > 0) : openV N S (fun _ => decide (tot > 0)) ≠ [] := by
 have h25 : 2 ^ N ≤ 33554432 := Nat.le_trans (Nat.pow_le_pow_right (by omega) hN) (by simp)
 have hVl : V < 9223372036854775808 := Nat.lt_of_lt_of_le hV (Nat.le_trans h25 pow25_le)
 have hSl : set < 9223372036854775808 := Nat.lt_of_lt_of_le h.1 pow25_le
 rw [bits_but_nat V set hVl hSl] at hne
 have hn : butNat V set ≠ 0 := fun e => hne (by rw [e]; rfl)
 obtain ⟨c, hc⟩ := Nat.exists_testBit_of_ne_zero hn
 rw [butNat_bit V set c hVl hSl, Bool.and_eq_true] at hc
 have hcN : c < N := by
  refine Nat.lt_of_not_le (fun hle => ?_)
  rw [Nat.testBit_lt_two_pow (Nat.lt_of_lt_of_le hV (Nat.pow_le_pow_right (by omega) hle))] at hc
  exact absurd hc.1 (by simp)
 intro he
 have hm : (c : Int) ∈ openV N S (fun _ => decide (tot > 0)) := by
  unfold openV
  rw [chosen_iff]
  refine ⟨by omega, by omega, ?_⟩
  rw [decide_eq_true ht, Bool.true_and]
  have : ¬ ∃ x ∈ S, x.f0 = (c : Int) := fun hx => by
   have := (h.2.1 c).2 hx
   simp [this] at hc
  simp only [Bool.not_eq_true', List.any_eq_false, beq_iff_eq]
  exact fun x hx e => this ⟨x, hx, e⟩
 rw [he] at hm
 cases hm
theorem open_new {N set : Nat} {S : List S45} (h : Shots N set S) {acc : Int → Bool} {x : Int} (hx : x ∈ openV N S acc) : ∃ c : Nat, x = (c : Int) ∧ c < N ∧ set.testBit c = false := by
 unfold openV at hx
 obtain ⟨h0, h1, h2⟩ := (chosen_iff _ _ _).1 hx
 obtain ⟨c, rfl⟩ : ∃ c : Nat, x = (c : Int) := ⟨x.toNat, by omega⟩
 refine ⟨c, rfl, by omega, ?_⟩
 simp only [Bool.and_eq_true, Bool.not_eq_true'] at h2
 cases hb : set.testBit c with
 | false => rfl
 | true =>
  obtain ⟨y, hy, e⟩ := (h.2.1 c).1 hb
  have := List.any_eq_false.1 h2.2 y hy
  rw [e] at this
  simp at this
theorem hunt_best {w h : Int} {l : List Int} (hs : seaV w h l = true) {T : List S45} (hT : T.length ≤ 1048576) (hb : ∀ x ∈ T, 0 ≤ x.f0 ∧ x.f0 < ((w.toNat * h.toNat : Nat) : Int)) :
  Ev (fun k => spec_l09Best.f k w h l T) (bestV (sharesV (w.toNat * h.toNat) (agreeing (fleetsOf w h l) T)) (openV (w.toNat * h.toNat) T fun _ => decide (((agreeing (fleetsOf w h l) T).length : Int) > 0))) ∧
  impl_Sea_best.f w h l T = some (bestV (sharesV (w.toNat * h.toNat) (agreeing (fleetsOf w h l) T)) (openV (w.toNat * h.toNat) T fun _ => decide (((agreeing (fleetsOf w h l) T).length : Int) > 0))) := by
 have hN : w.toNat * h.toNat ≤ 25 := by
  obtain ⟨⟨wn, rfl, hw1, hw5⟩, ⟨hn', rfl, hh1, hh5⟩, _, h3⟩ := seaV_nat hs
  simp only [Int.toNat_natCast]
  exact place_small_ hw5 hh5
 have hi : shotsIn T = true := by
  refine List.all_eq_true.2 (fun x hx => ?_)
  have := hb x hx
  simp only [Bool.and_eq_true, decide_eq_true_eq]
  omega
 have hbl : shotsBelow (w.toNat * h.toNat) T = true := by
  refine List.all_eq_true.2 (fun x hx => ?_)
  have := hb x hx
  simp only [Bool.and_eq_true, decide_eq_true_eq]
  omega
 have hbi : impl_Sea_best.f w h l T = (impl_Sea_shares.f w h l T).bind fun s => some (bestV s.2 (openV (w.toNat * h.toNat) T fun _ => decide (s.1 > 0))) := rfl
 have hbs : ∀ k, spec_l09Best.f k w h l T = (spec_l09Shares.f w h l T).bind fun s => (spec_l09Open.f w h l T).bind fun o => spec_l09Best.l0 k s.1 s.2 o (-1) 0 := fun _ => rfl
 have hsh : impl_Sea_shares.f w h l T = some (((agreeing (fleetsOf w h l) T).length : Int), sharesV (w.toNat * h.toNat) (agreeing (fleetsOf w h l) T)) := by
  unfold impl_Sea_shares.f
  rw [if_pos ⟨hs, hi, hT⟩]
 have hss : spec_l09Shares.f w h l T = some (sharesV (w.toNat * h.toNat) (agreeing (fleetsOf w h l) T), ((agreeing (fleetsOf w h l) T).length : Int)) := by
  unfold spec_l09Shares.f
  rw [if_pos ⟨hs, hi, hT⟩]
 have hop : spec_l09Open.f w h l T = some (openB (w.toNat * h.toNat) T) := by
  unfold spec_l09Open.f
  rw [if_pos ⟨hs, hbl, hT⟩]
 have hll := sharesV_len (w.toNat * h.toNat) (agreeing (fleetsOf w h l) T)
 generalize w.toNat * h.toNat = N at *
 generalize sharesV N (agreeing (fleetsOf w h l) T) = list at *
 generalize ((agreeing (fleetsOf w h l) T).length : Int) = tot at *
 rw [hsh, Option.bind_some] at hbi
 exact ⟨Ev.congr (fun k => by rw [hbs k, hss, Option.bind_some, hop, Option.bind_some]) (best_ev hN list hll T tot), hbi⟩
theorem hunt_ends {w h : Int} {l fl : List Int} (hs : seaV w h l = true) (hfl : fl ∈ fleetsOf w h l) {V : Nat} (hV : V < 2 ^ (w.toNat * h.toNat)) (hN : w.toNat * h.toNat ≤ 25) (F G : Nat → List S45 → Int → List Int → Option (List Int × Int))
  (hF0 : ∀ (S : List S45) (set : Int) (out : List Int), Go.bits .andNot .i64 (V : Int) set = 0 → Ev (fun k => F k S set out) (out, 0))
  (hG0 : ∀ (S : List S45) (set : Int) (out : List Int), Go.bits .andNot .i64 (V : Int) set = 0 → Ev (fun k => G k S set out) (out, 0))
  (hF1 : ∀ (S : List S45) (set : Nat) (out : List Int) (c : Nat) (r : List Int × Int), S.length ≤ 25 → out.length = S.length → Go.bits .andNot .i64 (V : Int) (set : Int) ≠ 0 → c < 25 → Ev (fun k => spec_l09Best.f k w h l S) (c : Int) → Go.bits .or .i64 (set : Int) (shl .i64 1 (c : Int)) = ((set ||| 2 ^ c : Nat) : Int) →
   Ev (fun k => F k (S ++ [⟨(c : Int), ansFrom fl (c : Int) ((set ||| 2 ^ c : Nat) : Int) 0 fl.length⟩]) ((set ||| 2 ^ c : Nat) : Int) (out ++ [(c : Int)])) r → Ev (fun k => F k S (set : Int) out) r)
  (hG1 : ∀ (S : List S45) (set : Nat) (out : List Int) (c : Nat) (r : List Int × Int), S.length ≤ 25 → out.length = S.length → Go.bits .andNot .i64 (V : Int) (set : Int) ≠ 0 → c < 25 → impl_Sea_best.f w h l S = some (c : Int) → Go.bits .or .i64 (set : Int) (shl .i64 1 (c : Int)) = ((set ||| 2 ^ c : Nat) : Int) →
   Ev (fun k => G k (S ++ [⟨(c : Int), ansFrom fl (c : Int) ((set ||| 2 ^ c : Nat) : Int) 0 fl.length⟩]) ((set ||| 2 ^ c : Nat) : Int) (out ++ [(c : Int)])) r → Ev (fun k => G k S (set : Int) out) r) :
  ∀ (m set : Nat) (S : List S45) (out : List Int), leftOf (w.toNat * h.toNat) set ≤ m → Shots (w.toNat * h.toNat) set S → agFrom fl 0 S = true → setTo 0 S = (set : Int) → S.length + leftOf (w.toNat * h.toNat) set ≤ 25 → out.length = S.length →
   ∃ o : List Int, o.length ≤ 25 ∧ Ev (fun k => F k S (set : Int) out) (o, 0) ∧ Ev (fun k => G k S (set : Int) out) (o, 0) := by
 intro m
 induction m with
 | zero =>
  intro set S out hm hS hag hst hlen hout
  by_cases hz : Go.bits .andNot .i64 (V : Int) (set : Int) = 0
  ·exact ⟨out, by omega, hF0 S set out hz, hG0 S set out hz⟩
  ·exfalso
   have hne := open_some hS hN hV hz (tot := 1) (by omega)
   obtain ⟨x, hx⟩ := List.exists_mem_of_ne_nil _ hne
   obtain ⟨c, rfl, hc, hb⟩ := open_new hS hx
   have := left_next hc hb
   omega
 | succ m ih =>
  intro set S out hm hS hag hst hlen hout
  by_cases hz : Go.bits .andNot .i64 (V : Int) (set : Int) = 0
  ·exact ⟨out, by omega, hF0 S set out hz, hG0 S set out hz⟩
  ·have htot : ((agreeing (fleetsOf w h l) S).length : Int) > 0 := by
    have hmem : fl ∈ agreeing (fleetsOf w h l) S := List.mem_filter.2 ⟨hfl, hag⟩
    have := List.length_pos_of_mem hmem
    omega
   have hne := open_some hS hN hV hz htot
   obtain ⟨eb, ib⟩ := hunt_best hs (T := S) (by omega) hS.2.2
   have hin := bestV_mem (sharesV (w.toNat * h.toNat) (agreeing (fleetsOf w h l) S)) hne
   obtain ⟨c, ec, hc, hb⟩ := open_new hS hin
   rw [ec] at eb ib
   obtain ⟨hor, hS2⟩ := shots_next hS hN hc (ansFrom fl (c : Int) ((set ||| 2 ^ c : Nat) : Int) 0 fl.length)
   have hln := left_next hc hb
   have hag2 : agFrom fl 0 (S ++ [⟨(c : Int), ansFrom fl (c : Int) ((set ||| 2 ^ c : Nat) : Int) 0 fl.length⟩]) = true := by
    rw [agFrom_snoc, hag, Bool.true_and, hst, decide_eq_true_eq]
    simp only [hor]
   have hst2 : setTo 0 (S ++ [⟨(c : Int), ansFrom fl (c : Int) ((set ||| 2 ^ c : Nat) : Int) 0 fl.length⟩]) = ((set ||| 2 ^ c : Nat) : Int) := by
    rw [setTo_snoc, hst]
    simp only [hor]
   obtain ⟨o, ho, h1, h2⟩ := ih (set ||| 2 ^ c) (S ++ [⟨(c : Int), ansFrom fl (c : Int) ((set ||| 2 ^ c : Nat) : Int) 0 fl.length⟩]) (out ++ [(c : Int)]) (by omega) hS2 hag2 hst2 (by rw [List.length_append, List.length_singleton]; omega) (by rw [List.length_append, List.length_append, hout]; rfl)
   exact ⟨o, ho, hF1 S set out c _ (by omega) hout hz (by omega) eb hor h1, hG1 S set out c _ (by omega) hout hz (by omega) ib hor h2⟩
theorem leftOf_le (N set : Nat) : leftOf N set ≤ N := by
 unfold leftOf
 exact Nat.le_trans (List.length_filter_le _ _) (by rw [List.length_range]; exact Nat.le_refl _)
theorem implList_ev {w h : Int} {l : List Int} (hs : seaV w h l = true) (hl : l.length ≤ 1048576) : Ev (fun k => impl_FleetList.f k w h l) (if (fleetsOf w h l).length ≤ 300 then (fleetsOf w h l, 0) else ([], 3)) := by
 have e2 := implIsSea_ev w h l (by omega)
 unfold impl_FleetList.f
 rw [hs] at e2
 have ec : Ev (fun k => impl_CountFleets.f k w h l) (((fleetsOf w h l).length : Int), 0) := by
  unfold impl_CountFleets.f
  exact Ev.bind e2 (Ev.congr (fun k => by rw [if_pos rfl, if_pos hs]) (Ev.now _))
 by_cases hn : (fleetsOf w h l).length ≤ 300
 ·rw [if_pos hn]
  refine Ev.bind ec (Ev.congr (f := fun _ => some (fleetsOf w h l, 0)) (fun k => ?_) (Ev.now _))
  rw [if_pos rfl, if_neg (by simp only []; omega), if_pos hs]
 ·rw [if_neg hn]
  refine Ev.bind ec (Ev.congr (f := fun _ => some ([], 3)) (fun k => ?_) (Ev.now _))
  rw [if_pos rfl, if_pos (by simp only []; omega)]
def laws_FnExactHuntFleet.Pure : Prop := ∀ (a0_0 : Int) (a0_1 : Int) (l0_2 : List Int) (l1 : List Int), (Lit.int .i64 a0_0).wf = true → (Lit.int .i64 a0_1).wf = true → (l0_2.length ≤ maxLen ∧ ∀ y1_ ∈ l0_2, (Lit.int .i64 y1_).wf = true) → (l1.length ≤ maxLen ∧ ∀ y2_ ∈ l1, (Lit.int .i64 y2_).wf = true) → ∃ k, laws_FnExactHuntFleet.f k a0_0 a0_1 l0_2 l1 = some true
def Rdb {α : Type} (P : Program) (t : TypeId) (d : Kd α) (wf : α → Prop) : Prop :=
 ∀ (H : Type) (enc : TypeId × Value → H) (w : World) (base : Nat) (spare : Nat → Bool) (held : Bool) (fuel : Nat) (cs : List Value) (x : DataW H × List MemPlace),
  DataW.trod enc P w base spare held fuel t cs = some x → ∃ a : α, d.K w a cs ∧ wf a
theorem Rdb.int {P : Program} {t : TypeId} {k : IntKind} (ht : P.underlying t = some (.int k)) : Rdb P t (Kd.int k) (fun n => (Lit.int k n).wf = true) := by
 intro H enc w base spare held fuel cs x h
 obtain ⟨n, rfl, _, hw⟩ := DataW.trod_int ht h
 exact ⟨n, rfl, hw⟩
theorem Rdb.bool {P : Program} {t : TypeId} (ht : P.underlying t = some .bool) : Rdb P t Kd.bool (fun _ => True) := by
 intro H enc w base spare held fuel cs x h
 obtain ⟨n, rfl, _⟩ := DataW.trod_bool ht h
 exact ⟨n, rfl, trivial⟩
theorem Rdb.string {P : Program} {t : TypeId} (ht : P.underlying t = some .string) : Rdb P t Kd.string (fun s => s.size ≤ maxLen) := by
 intro H enc w base spare held fuel cs x h
 obtain ⟨s, rfl, _, hs⟩ := DataW.trod_string ht h
 exact ⟨s, rfl, hs⟩
theorem list_choose {α β : Type} {R : Nat → α → β → Prop} : ∀ (n : Nat) (xs : List α), xs.length = n → (∀ i x, xs[i]? = some x → ∃ y, R i x y) → ∃ ys : List β, ys.length = n ∧ ∀ i x y, xs[i]? = some x → ys[i]? = some y → R i x y := by
 intro n xs
 induction xs generalizing n R with
 | nil =>
  intro hl _
  exact ⟨[], by simpa using hl, by intro i x y h; simp at h⟩
 | cons x xs ih =>
  intro hl h
  obtain ⟨y, hy⟩ := h 0 x rfl
  obtain ⟨ys, h1, h2⟩ := ih (R := fun i a b => R (i + 1) a b) (n - 1) (by simp at hl; omega) (fun i a hi => h (i + 1) a (by simpa using hi))
  refine ⟨y :: ys, by simp at hl ⊢; omega, fun i a b ha hb => ?_⟩
  cases i with
  | zero =>
   simp at ha hb
   subst ha hb
   exact hy
  | succ i => exact h2 i a b (by simpa using ha) (by simpa using hb)
theorem Rdb.slice {α : Type} {P : Program} {t e : TypeId} {d : Kd α} {wf : α → Prop} (ht : P.underlying t = some (.slice e)) (hc : P.cellsOf e = d.sz) (h1 : 0 < d.sz) (r : Rdb P e d wf) :
  Rdb P t (Kd.slice e d) (fun l => l.length ≤ maxLen ∧ ∀ x ∈ l, wf x) := by
 intro H enc w base spare held fuel cs x h
 rcases DataW.trod_slice ht h with ⟨rfl, _⟩ | ⟨a, len, cap, elems, rest, n, _, rfl, _, hb, hl, hm, hlen, hel, _, _⟩
 ·exact ⟨[], ⟨none, 0, rfl, by simp, Kd.C_nil _ _⟩, by simp, by simp⟩
 ·have each : ∀ i (y : DataW H × List MemPlace), elems[i]? = some y → ∃ b : α, ∃ c, w.cells? base (a.add (i * P.cellsOf e)) (P.cellsOf e) = some c ∧ d.K w b c ∧ wf b := by
   intro i y hy
   have hi : i < len := by have := (List.getElem?_eq_some_iff.1 hy).1; omega
   have h2 := hel i hi
   rw [hy, Option.bind_eq_some_iff] at h2
   obtain ⟨c, hcs, htr⟩ := h2
   obtain ⟨b, hK, hw⟩ := r H enc w base spare held n c y htr
   exact ⟨b, c, hcs, hK, hw⟩
  obtain ⟨xs, hx1, hx2⟩ := list_choose (R := fun i _ (b : α) => ∃ c, w.cells? base (a.add (i * P.cellsOf e)) (P.cellsOf e) = some c ∧ d.K w b c ∧ wf b) len elems hlen each
  have get : ∀ i b, xs[i]? = some b → ∃ c, w.cells? base (a.add (i * P.cellsOf e)) (P.cellsOf e) = some c ∧ d.K w b c ∧ wf b := by
   intro i b hb'
   have hi : i < elems.length := by have := (List.getElem?_eq_some_iff.1 hb').1; omega
   exact hx2 i _ b (List.getElem?_eq_getElem hi) hb'
  refine ⟨xs, ⟨some a, cap, by rw [hx1], by omega, ?_⟩, by omega, fun b hb' => ?_⟩
  ·refine ⟨rfl, by rw [hx1]; unfold maxLen at hm; omega, fun hp => ⟨a, rfl, fun j b hj => ?_⟩⟩
   obtain ⟨c, hcs, hK, _⟩ := get j b hj
   obtain ⟨_, hcl, hcell⟩ := World.cells?_some hcs
   refine ⟨c, by rw [hcl, hc], hK, fun i u hu => ?_⟩
   have hi : i < P.cellsOf e := by have := (List.getElem?_eq_some_iff.1 hu).1; omega
   have := hcell i hi
   rw [hu] at this
   rw [Addr.add_add] at this
   rw [← hc]
   exact this
  ·obtain ⟨i, hi⟩ := List.mem_iff_getElem?.1 hb'
   obtain ⟨_, _, _, hw⟩ := get i b hi
   exact hw
theorem Rdb.struct3 {α β γ : Type} {P : Program} {t : TypeId} {f0 f1 f2 : Field} {d0 : Kd α} {d1 : Kd β} {d2 : Kd γ} {w0 : α → Prop} {w1 : β → Prop} {w2 : γ → Prop} (ht : P.underlying t = some (.struct #[f0, f1, f2])) (o0 : f0.offset = 0) (o1 : f1.offset = P.cellsOf f0.type)
  (o2 : f2.offset = P.cellsOf f0.type + P.cellsOf f1.type) (cT : P.cellsOf t = P.cellsOf f0.type + P.cellsOf f1.type + P.cellsOf f2.type)
  (r0 : Rdb P f0.type d0 w0) (r1 : Rdb P f1.type d1 w1) (r2 : Rdb P f2.type d2 w2) : Rdb P t (Kd.pair d0 (Kd.pair d1 d2)) (fun x => w0 x.1 ∧ w1 x.2.1 ∧ w2 x.2.2) := by
 intro H enc w base spare held fuel cs x h
 obtain ⟨xs, n, _, _, hl, hxl, hf⟩ := DataW.trod_struct ht h
 match xs, hxl with
 | [y0, y1, y2], _ =>
  have h0 : DataW.trod enc P w base spare held n f0.type ((cs.drop f0.offset).take (P.cellsOf f0.type)) = some y0 := by simpa using hf 0 f0 rfl
  have h1 : DataW.trod enc P w base spare held n f1.type ((cs.drop f1.offset).take (P.cellsOf f1.type)) = some y1 := by simpa using hf 1 f1 rfl
  have h2 : DataW.trod enc P w base spare held n f2.type ((cs.drop f2.offset).take (P.cellsOf f2.type)) = some y2 := by simpa using hf 2 f2 rfl
  rw [o0, List.drop_zero] at h0
  rw [o1] at h1
  rw [o2, List.take_of_length_le (by rw [List.length_drop, hl, cT]; omega)] at h2
  obtain ⟨a, hK0, hw0⟩ := r0 H enc w base spare held n _ y0 h0
  obtain ⟨b, hK1, hw1⟩ := r1 H enc w base spare held n _ y1 h1
  obtain ⟨c, hK2, hw2⟩ := r2 H enc w base spare held n _ y2 h2
  refine ⟨(a, b, c), ⟨_, _, (List.take_append_drop (P.cellsOf f0.type) cs).symm, hK0, _, _, ?_, hK1, hK2⟩, hw0, hw1, hw2⟩
  rw [← List.drop_drop, List.take_append_drop]
theorem Rdb.iso {α β : Type} {P : Program} {t : TypeId} {d : Kd α} {wf : α → Prop} (r : Rdb P t d wf) (f : β → α) (g : α → β) (hfg : ∀ a, f (g a) = a) : Rdb P t (Kd.iso d f) (fun b => wf (f b)) := by
 intro H enc w base spare held fuel cs x h
 obtain ⟨a, hK, hw⟩ := r H enc w base spare held fuel cs x h
 exact ⟨g a, by show d.K w (f (g a)) cs; rw [hfg]; exact hK, by show wf (f (g a)); rw [hfg]; exact hw⟩
theorem Rdb.of {α : Type} {P : Program} {t : TypeId} {d : Kd α} {wf : α → Prop} (r : Rdb P t d wf) {H : Type} {enc : TypeId × Value → H} {w : World} {base : Nat} {spare : Nat → Bool} {held : Bool} {v : Value} {x : DataW H} {ps : List MemPlace}
  (h : DataW.Trod enc P w base spare held t v x ps) : ∃ a : α, d.K w a v.cells.toList ∧ wf a := by
 obtain ⟨fuel, hf⟩ := h
 exact r H enc w base spare held fuel _ _ hf

end Go.Proofs.Ythmfpdkemkjpkaa.F
