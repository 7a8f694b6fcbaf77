-- written by the session's program xp.py over the kit's print program, and by hand; texts joined by pack.py
import Derived.Test.YtiancdhpdjmacaaKFnExactBestCell5
namespace Go.Proofs.Ytiancdhpdjmacaa.F
open Go.RowKit Go.Proofs.YtiancdhpdjmacaaW.PrintWords Go.Proofs.YtiancdhpdjmacaaW.PrintLast Go.Proofs.YtiancdhpdjmacaaW.PrintMore
attribute [local go_sem] max2_int min2_int max_two min_two max_three min_three max_four min_four   -- for this text's walks alone
set_option linter.unusedVariables false
set_option linter.unusedSimpArgs false

/-! ### laws_FnExactBestCell: function 13 -/
def laws_FnExactBestCell.j0 : Nat → List (S95) → List (S93) → Bool → Int → Int → List Int → Int → Int → List Int → Option (Bool)
 | 0, _, _, _, _, _, _, _, _, _ => none
 | k + 1, x1, x9, x47, x975000, x975001, x975002, x993000, x993001, x993002 => if x47 = true then (some false) else ((laws_toSea.f k x975000 x975001 x975002).bind fun bt998 => ((laws_eqSea.f k x993000 x993001 x993002 bt998.1 bt998.2.1 bt998.2.2).bind fun t1003 => (if t1003 = true then ((laws_toShotS.f k x1).bind fun t1004 => ((laws_eqShotS.f k x9 t1004).bind fun t1007 => (if t1007 = true then (some true) else (some false)))) else (some false))))
def laws_FnExactBestCell.f (k : Nat) (a0_0 : Int) (a0_1 : Int) (l0_2 : List Int) (l1 : List (S95)) : Option (Bool) := (laws_szSea.f a0_0 a0_1 l0_2 1048576).bind fun t975 => (if t975 < 0 then (some true) else ((laws_szShotS.f l1 t975).bind fun t976 => (if t976 < 0 then (some true) else ((laws_toSea.f k a0_0 a0_1 l0_2).bind fun bt977 => ((laws_toShotS.f k l1).bind fun t982 => ((spec_BestCell.f k bt977.1 bt977.2.1 bt977.2.2 t982).bind fun bt985 => ((laws_toSea.f k a0_0 a0_1 l0_2).bind fun bt987 => ((laws_toShotS.f k l1).bind fun t993 => ((impl_BestCell.f k bt987.1 bt987.2.1 bt987.2.2 t993).bind fun bt996 => (if bt996.1 = bt985.1 then (laws_FnExactBestCell.j0 k l1 t993 (bt996.2 != bt985.2) a0_0 a0_1 l0_2 bt987.1 bt987.2.1 bt987.2.2) else (laws_FnExactBestCell.j0 k l1 t993 true a0_0 a0_1 l0_2 bt987.1 bt987.2.1 bt987.2.2)))))))))))
set_option maxHeartbeats 8000000 in
set_option maxRecDepth 100000 in
theorem laws_FnExactBestCell.calls (k : Nat) (a0_0 : Int) (a0_1 : Int) (A0_2 : Option Addr) (c0_2 : Nat) (l0_2 : List Int) (A1 : Option Addr) (c1 : Nat) (l1 : List (S95)) (r : Bool) (w : World) (hr0_2 : Kd.C (Kd.int .i64) w A0_2 l0_2.length l0_2) (hc0_2 : l0_2.length ≤ c0_2) (hr1 : Kd.C k95 w A1 l1.length l1) (hc1 : l1.length ≤ c1) (h : laws_FnExactBestCell.f k a0_0 a0_1 l0_2 l1 = some true) :
  Calls Try.prog 13 #[.agg #[.int .i64 a0_0, .int .i64 a0_1, .slice A0_2 l0_2.length c0_2], .slice A1 l1.length c1] w fun e w' => e = .returned (.bool true) ∧ Below w.heap.size w w' := by
 have hu24 := Try.underlying24
 have hu28 := Try.underlying28
 have HR0_2 := Aside0.mk hr0_2
 have HC0_2 := Aside0.mk hc0_2
 clear hr0_2 hc0_2
 have HR1 := Aside0.mk hr1
 have HC1 := Aside0.mk hc1
 clear hr1 hc1
 have HB := Aside0.mk (Below.refl w.heap.size w)
 have H : ((laws_szSea.f a0_0 a0_1 l0_2 1048576).bind fun t975 => (if t975 < 0 then (some true) else ((laws_szShotS.f l1 t975).bind fun t976 => (if t976 < 0 then (some true) else ((laws_toSea.f k a0_0 a0_1 l0_2).bind fun bt977 => ((laws_toShotS.f k l1).bind fun t982 => ((spec_BestCell.f k bt977.1 bt977.2.1 bt977.2.2 t982).bind fun bt985 => ((laws_toSea.f k a0_0 a0_1 l0_2).bind fun bt987 => ((laws_toShotS.f k l1).bind fun t993 => ((impl_BestCell.f k bt987.1 bt987.2.1 bt987.2.2 t993).bind fun bt996 => (if bt996.1 = bt985.1 then (laws_FnExactBestCell.j0 k l1 t993 (bt996.2 != bt985.2) a0_0 a0_1 l0_2 bt987.1 bt987.2.1 bt987.2.2) else (laws_FnExactBestCell.j0 k l1 t993 true a0_0 a0_1 l0_2 bt987.1 bt987.2.1 bt987.2.2)))))))))))) = some true := h
 clear h
 replace H := Option.bind_eq_some_iff.mp H
 obtain ⟨t975, A30, H⟩ := H
 replace H : (if t975 < 0 then (some true) else ((laws_szShotS.f l1 t975).bind fun t976 => (if t976 < 0 then (some true) else ((laws_toSea.f k a0_0 a0_1 l0_2).bind fun bt977 => ((laws_toShotS.f k l1).bind fun t982 => ((spec_BestCell.f k bt977.1 bt977.2.1 bt977.2.2 t982).bind fun bt985 => ((laws_toSea.f k a0_0 a0_1 l0_2).bind fun bt987 => ((laws_toShotS.f k l1).bind fun t993 => ((impl_BestCell.f k bt987.1 bt987.2.1 bt987.2.2 t993).bind fun bt996 => (if bt996.1 = bt985.1 then (laws_FnExactBestCell.j0 k l1 t993 (bt996.2 != bt985.2) a0_0 a0_1 l0_2 bt987.1 bt987.2.1 bt987.2.2) else (laws_FnExactBestCell.j0 k l1 t993 true a0_0 a0_1 l0_2 bt987.1 bt987.2.1 bt987.2.2))))))))))) = some true := H
 have A3 := Aside0.mk A30
 clear A30
 by_cases c4 : t975 < 0
 ·rw [if_pos c4] at H
  have c4b0 : decide (t975 < 0) = true := decide_eq_true c4
  clear c4
  clear H
  go_enter Try.func13, Try.ntmps13
  go_wp2_with (first | ((with_reducible refine gate_dst (N := 2) rfl ?_); refine box_event ?hg (N := 2) ?hd (cs := #[.int .i64 a0_0, .int .i64 a0_1, .slice A0_2 l0_2.length c0_2]) (t := 24) ?hr ?_; (case hd => rfl); (case hg => rfl); (case hr => first | (go_simp; done) | (go_simp; rfl)); intro gb974 hg w5 hbox hb; have n0_ := Aside0.mk (below_step hb_ hb); have n1_ := Aside0.mk (hbox); have n2_ := Aside0.mk ((by rw [hg]; exact (below_size hb_) : w.heap.size ≤ gb974)); have n3_ := Aside0.mk ((by rw [hg]; exact (below_size hb_) : w.heap.size ≤ gb974)); clear HB; have HB := n0_; have BK974 := n1_; have GW974 := n2_; have GE974 := n3_; clear n0_ n1_ n2_ n3_; clear hb hbox hg; have hcz6_0 : w5.cell? ⟨gb974, 0, none⟩ = some (.int .i64 a0_0) := (blk_cell BK974.out 0).trans rfl; have hcz6_1 : w5.cell? ⟨gb974, 1, none⟩ = some (.int .i64 a0_1) := (blk_cell BK974.out 1).trans rfl; have hcz6_2 : w5.cell? ⟨gb974, 2, none⟩ = some (.slice A0_2 l0_2.length c0_2) := (blk_cell BK974.out 2).trans rfl; have hfz6_0 := blk_frozen BK974.out 0; have hfz6_1 := blk_frozen BK974.out 1; have hfz6_2 := blk_frozen BK974.out 2) | ((with_reducible refine gate_callee (f := 15) rfl ?_); refine goesA_ (some 14) rfl rfl Try.func15 (by kernel_rfl) rfl #[.agg #[.int .i64 a0_0, .int .i64 a0_1, .slice A0_2 l0_2.length c0_2], .int .i64 1048576] rfl ?_; (with_reducible refine (laws_szSea.calls a0_0 a0_1 _ _ l0_2 1048576 t975 _ ?side1 ?side2 A3.out).mono ?_); (case side1 => repeat (first | exact (Kd.C_below HR0_2.out HB.out) | (with_reducible refine Kd.C_alloc ?_ _) | (with_reducible refine Kd.C_drewN ?_ _) | (with_reducible refine Kd.C_drew ?_))); (case side2 => exact HC0_2.out); rintro e w7 ⟨rfl, hb⟩; refine ⟨_, rfl, ?_⟩; have n0_ := Aside0.mk (blk_below (g := gb974) (o := .cells #[.int .i64 a0_0, .int .i64 a0_1, .slice A0_2 l0_2.length c0_2] 24 (0, 0)) (by (with_reducible repeat (first | refine blk_drewN ?_ _ | refine blk_drew ?_ | refine blk_alloc ?_ _)); exact BK974.out) hb); have n1_ := Aside0.mk (below_step (by repeat (first | (with_reducible first | exact HB.out | apply below_alloc | apply pw_below_drewN | apply below_drew1 | refine below_set ?_ GE974.out) | exact HB.out)) hb); clear BK974; clear HB; have BK974 := n0_; have HB := n1_; clear n0_ n1_; (try clear hb); (try clear hb2); (try clear hk); (try clear hi)))
  go_ret
  exact ⟨by first | rfl | (simp [errW_none, errW_some] <;> rfl) | (simp [*, errW_none, errW_some] <;> rfl), by repeat (first | (with_reducible first | exact HB.out | apply below_alloc | apply pw_below_drewN | apply below_drew1 | refine below_set ?_ GE974.out) | exact HB.out)⟩
 ·rw [if_neg c4] at H
  have c4b0 : decide (t975 < 0) = false := decide_eq_false c4
  clear c4
  replace H := Option.bind_eq_some_iff.mp H
  obtain ⟨t976, A80, H⟩ := H
  replace H : (if t976 < 0 then (some true) else ((laws_toSea.f k a0_0 a0_1 l0_2).bind fun bt977 => ((laws_toShotS.f k l1).bind fun t982 => ((spec_BestCell.f k bt977.1 bt977.2.1 bt977.2.2 t982).bind fun bt985 => ((laws_toSea.f k a0_0 a0_1 l0_2).bind fun bt987 => ((laws_toShotS.f k l1).bind fun t993 => ((impl_BestCell.f k bt987.1 bt987.2.1 bt987.2.2 t993).bind fun bt996 => (if bt996.1 = bt985.1 then (laws_FnExactBestCell.j0 k l1 t993 (bt996.2 != bt985.2) a0_0 a0_1 l0_2 bt987.1 bt987.2.1 bt987.2.2) else (laws_FnExactBestCell.j0 k l1 t993 true a0_0 a0_1 l0_2 bt987.1 bt987.2.1 bt987.2.2))))))))) = some true := H
  have A8 := Aside0.mk A80
  clear A80
  by_cases c9 : t976 < 0
  ·rw [if_pos c9] at H
   have c9b0 : decide (t976 < 0) = true := decide_eq_true c9
   clear c9
   clear H
   go_enter Try.func13, Try.ntmps13
   go_wp2_with (first | ((with_reducible refine gate_dst (N := 2) rfl ?_); refine box_event ?hg (N := 2) ?hd (cs := #[.int .i64 a0_0, .int .i64 a0_1, .slice A0_2 l0_2.length c0_2]) (t := 24) ?hr ?_; (case hd => rfl); (case hg => rfl); (case hr => first | (go_simp; done) | (go_simp; rfl)); intro gb974 hg w10 hbox hb; have n0_ := Aside0.mk (below_step hb_ hb); have n1_ := Aside0.mk (hbox); have n2_ := Aside0.mk ((by rw [hg]; exact (below_size hb_) : w.heap.size ≤ gb974)); have n3_ := Aside0.mk ((by rw [hg]; exact (below_size hb_) : w.heap.size ≤ gb974)); clear HB; have HB := n0_; have BK974 := n1_; have GW974 := n2_; have GE974 := n3_; clear n0_ n1_ n2_ n3_; clear hb hbox hg; have hcz11_0 : w10.cell? ⟨gb974, 0, none⟩ = some (.int .i64 a0_0) := (blk_cell BK974.out 0).trans rfl; have hcz11_1 : w10.cell? ⟨gb974, 1, none⟩ = some (.int .i64 a0_1) := (blk_cell BK974.out 1).trans rfl; have hcz11_2 : w10.cell? ⟨gb974, 2, none⟩ = some (.slice A0_2 l0_2.length c0_2) := (blk_cell BK974.out 2).trans rfl; have hfz11_0 := blk_frozen BK974.out 0; have hfz11_1 := blk_frozen BK974.out 1; have hfz11_2 := blk_frozen BK974.out 2) | ((with_reducible refine gate_callee (f := 15) rfl ?_); refine goesA_ (some 14) rfl rfl Try.func15 (by kernel_rfl) rfl #[.agg #[.int .i64 a0_0, .int .i64 a0_1, .slice A0_2 l0_2.length c0_2], .int .i64 1048576] rfl ?_; (with_reducible refine (laws_szSea.calls a0_0 a0_1 _ _ l0_2 1048576 t975 _ ?side1 ?side2 A3.out).mono ?_); (case side1 => repeat (first | exact (Kd.C_below HR0_2.out HB.out) | (with_reducible refine Kd.C_alloc ?_ _) | (with_reducible refine Kd.C_drewN ?_ _) | (with_reducible refine Kd.C_drew ?_))); (case side2 => exact HC0_2.out); rintro e w12 ⟨rfl, hb⟩; refine ⟨_, rfl, ?_⟩; have n0_ := Aside0.mk (blk_below (g := gb974) (o := .cells #[.int .i64 a0_0, .int .i64 a0_1, .slice A0_2 l0_2.length c0_2] 24 (0, 0)) (by (with_reducible repeat (first | refine blk_drewN ?_ _ | refine blk_drew ?_ | refine blk_alloc ?_ _)); exact BK974.out) hb); have n1_ := Aside0.mk (below_step (by repeat (first | (with_reducible first | exact HB.out | apply below_alloc | apply pw_below_drewN | apply below_drew1 | refine below_set ?_ GE974.out) | exact HB.out)) hb); clear BK974; clear HB; have BK974 := n0_; have HB := n1_; clear n0_ n1_; (try clear hb); (try clear hb2); (try clear hk); (try clear hi)) | ((with_reducible refine gate_callee (f := 40) rfl ?_); refine goesA_ (some 19) rfl rfl Try.func40 (by kernel_rfl) rfl #[.slice A1 l1.length c1, .int .i64 t975] rfl ?_; (with_reducible refine (laws_szShotS.calls _ _ l1 t975 t976 _ ?side1 ?side2 A8.out).mono ?_); (case side1 => repeat (first | exact (Kd.C_below HR1.out HB.out) | (with_reducible refine Kd.C_alloc ?_ _) | (with_reducible refine Kd.C_drewN ?_ _) | (with_reducible refine Kd.C_drew ?_))); (case side2 => exact HC1.out); rintro e w' ⟨rfl, ⟨nd, rfl⟩⟩; refine ⟨_, rfl, ?_⟩))
   go_ret
   exact ⟨by first | rfl | (simp [errW_none, errW_some] <;> rfl) | (simp [*, errW_none, errW_some] <;> rfl), by repeat (first | (with_reducible first | exact HB.out | apply below_alloc | apply pw_below_drewN | apply below_drew1 | refine below_set ?_ GE974.out) | exact HB.out)⟩
  ·rw [if_neg c9] at H
   have c9b0 : decide (t976 < 0) = false := decide_eq_false c9
   clear c9
   replace H := Option.bind_eq_some_iff.mp H
   obtain ⟨⟨t977, t978, t979⟩, A130, H⟩ := H
   replace H : ((laws_toShotS.f k l1).bind fun t982 => ((spec_BestCell.f k t977 t978 t979 t982).bind fun bt985 => ((laws_toSea.f k a0_0 a0_1 l0_2).bind fun bt987 => ((laws_toShotS.f k l1).bind fun t993 => ((impl_BestCell.f k bt987.1 bt987.2.1 bt987.2.2 t993).bind fun bt996 => (if bt996.1 = bt985.1 then (laws_FnExactBestCell.j0 k l1 t993 (bt996.2 != bt985.2) a0_0 a0_1 l0_2 bt987.1 bt987.2.1 bt987.2.2) else (laws_FnExactBestCell.j0 k l1 t993 true a0_0 a0_1 l0_2 bt987.1 bt987.2.1 bt987.2.2))))))) = some true := H
   have A13 := Aside0.mk A130
   clear A130
   replace H := Option.bind_eq_some_iff.mp H
   obtain ⟨t982, A140, H⟩ := H
   replace H : ((spec_BestCell.f k t977 t978 t979 t982).bind fun bt985 => ((laws_toSea.f k a0_0 a0_1 l0_2).bind fun bt987 => ((laws_toShotS.f k l1).bind fun t993 => ((impl_BestCell.f k bt987.1 bt987.2.1 bt987.2.2 t993).bind fun bt996 => (if bt996.1 = bt985.1 then (laws_FnExactBestCell.j0 k l1 t993 (bt996.2 != bt985.2) a0_0 a0_1 l0_2 bt987.1 bt987.2.1 bt987.2.2) else (laws_FnExactBestCell.j0 k l1 t993 true a0_0 a0_1 l0_2 bt987.1 bt987.2.1 bt987.2.2)))))) = some true := H
   have A14 := Aside0.mk A140
   clear A140
   replace H := Option.bind_eq_some_iff.mp H
   obtain ⟨⟨t985, t986⟩, A150, H⟩ := H
   replace H : ((laws_toSea.f k a0_0 a0_1 l0_2).bind fun bt987 => ((laws_toShotS.f k l1).bind fun t993 => ((impl_BestCell.f k bt987.1 bt987.2.1 bt987.2.2 t993).bind fun bt996 => (if bt996.1 = t985 then (laws_FnExactBestCell.j0 k l1 t993 (bt996.2 != t986) a0_0 a0_1 l0_2 bt987.1 bt987.2.1 bt987.2.2) else (laws_FnExactBestCell.j0 k l1 t993 true a0_0 a0_1 l0_2 bt987.1 bt987.2.1 bt987.2.2))))) = some true := H
   have A15 := Aside0.mk A150
   clear A150
   replace H := Option.bind_eq_some_iff.mp H
   obtain ⟨⟨t987, t988, t989⟩, A160, H⟩ := H
   replace H : ((laws_toShotS.f k l1).bind fun t993 => ((impl_BestCell.f k t987 t988 t989 t993).bind fun bt996 => (if bt996.1 = t985 then (laws_FnExactBestCell.j0 k l1 t993 (bt996.2 != t986) a0_0 a0_1 l0_2 t987 t988 t989) else (laws_FnExactBestCell.j0 k l1 t993 true a0_0 a0_1 l0_2 t987 t988 t989)))) = some true := H
   have A16 := Aside0.mk A160
   clear A160
   replace H := Option.bind_eq_some_iff.mp H
   obtain ⟨t993, A170, H⟩ := H
   replace H : ((impl_BestCell.f k t987 t988 t989 t993).bind fun bt996 => (if bt996.1 = t985 then (laws_FnExactBestCell.j0 k l1 t993 (bt996.2 != t986) a0_0 a0_1 l0_2 t987 t988 t989) else (laws_FnExactBestCell.j0 k l1 t993 true a0_0 a0_1 l0_2 t987 t988 t989))) = some true := H
   have A17 := Aside0.mk A170
   clear A170
   replace H := Option.bind_eq_some_iff.mp H
   obtain ⟨⟨t996, t997⟩, A180, H⟩ := H
   replace H : (if t996 = t985 then (laws_FnExactBestCell.j0 k l1 t993 (t997 != t986) a0_0 a0_1 l0_2 t987 t988 t989) else (laws_FnExactBestCell.j0 k l1 t993 true a0_0 a0_1 l0_2 t987 t988 t989)) = some true := H
   have A18 := Aside0.mk A180
   clear A180
   have HC19 := Aside0.mk H
   clear H
   go_enter Try.func13, Try.ntmps13
   go_upto_region 12 with (first | ((with_reducible refine gate_dst (N := 2) rfl ?_); refine box_event ?hg (N := 2) ?hd (cs := #[.int .i64 a0_0, .int .i64 a0_1, .slice A0_2 l0_2.length c0_2]) (t := 24) ?hr ?_; (case hd => rfl); (case hg => rfl); (case hr => first | (go_simp; done) | (go_simp; rfl)); intro gb974 hg w20 hbox hb; have n0_ := Aside0.mk (below_step hb_ hb); have n1_ := Aside0.mk (hbox); have n2_ := Aside0.mk ((by rw [hg]; exact (below_size hb_) : w.heap.size ≤ gb974)); have n3_ := Aside0.mk ((by rw [hg]; exact (below_size hb_) : w.heap.size ≤ gb974)); clear HB; have HB := n0_; have BK974 := n1_; have GW974 := n2_; have GE974 := n3_; clear n0_ n1_ n2_ n3_; clear hb hbox hg; have hcz21_0 : w20.cell? ⟨gb974, 0, none⟩ = some (.int .i64 a0_0) := (blk_cell BK974.out 0).trans rfl; have hcz21_1 : w20.cell? ⟨gb974, 1, none⟩ = some (.int .i64 a0_1) := (blk_cell BK974.out 1).trans rfl; have hcz21_2 : w20.cell? ⟨gb974, 2, none⟩ = some (.slice A0_2 l0_2.length c0_2) := (blk_cell BK974.out 2).trans rfl; have hfz21_0 := blk_frozen BK974.out 0; have hfz21_1 := blk_frozen BK974.out 1; have hfz21_2 := blk_frozen BK974.out 2) | ((with_reducible refine gate_callee (f := 15) rfl ?_); refine goesA_ (some 14) rfl rfl Try.func15 (by kernel_rfl) rfl #[.agg #[.int .i64 a0_0, .int .i64 a0_1, .slice A0_2 l0_2.length c0_2], .int .i64 1048576] rfl ?_; (with_reducible refine (laws_szSea.calls a0_0 a0_1 _ _ l0_2 1048576 t975 _ ?side1 ?side2 A3.out).mono ?_); (case side1 => repeat (first | exact (Kd.C_below HR0_2.out HB.out) | (with_reducible refine Kd.C_alloc ?_ _) | (with_reducible refine Kd.C_drewN ?_ _) | (with_reducible refine Kd.C_drew ?_))); (case side2 => exact HC0_2.out); rintro e w22 ⟨rfl, hb⟩; refine ⟨_, rfl, ?_⟩; have n0_ := Aside0.mk (blk_below (g := gb974) (o := .cells #[.int .i64 a0_0, .int .i64 a0_1, .slice A0_2 l0_2.length c0_2] 24 (0, 0)) (by (with_reducible repeat (first | refine blk_drewN ?_ _ | refine blk_drew ?_ | refine blk_alloc ?_ _)); exact BK974.out) hb); have n1_ := Aside0.mk (below_step (by repeat (first | (with_reducible first | exact HB.out | apply below_alloc | apply pw_below_drewN | apply below_drew1 | refine below_set ?_ GE974.out) | exact HB.out)) hb); clear BK974; clear HB; have BK974 := n0_; have HB := n1_; clear n0_ n1_; (try clear hb); (try clear hb2); (try clear hk); (try clear hi)) | ((with_reducible refine gate_callee (f := 40) rfl ?_); refine goesA_ (some 19) rfl rfl Try.func40 (by kernel_rfl) rfl #[.slice A1 l1.length c1, .int .i64 t975] rfl ?_; (with_reducible refine (laws_szShotS.calls _ _ l1 t975 t976 _ ?side1 ?side2 A8.out).mono ?_); (case side1 => repeat (first | exact (Kd.C_below HR1.out HB.out) | (with_reducible refine Kd.C_alloc ?_ _) | (with_reducible refine Kd.C_drewN ?_ _) | (with_reducible refine Kd.C_drew ?_))); (case side2 => exact HC1.out); rintro e w' ⟨rfl, ⟨nd, rfl⟩⟩; refine ⟨_, rfl, ?_⟩; (try (rw [drewN_self w22]; generalize hq_ : World.drewN w22 _ = w22; have n0_ : Aside0 (w22.heap[gb974]? = some (.cells #[.int .i64 a0_0, .int .i64 a0_1, .slice A0_2 l0_2.length c0_2] 24 (0, 0))) := ⟨by rw [← hq_]; exact (by (with_reducible repeat (first | refine blk_drewN ?_ _ | refine blk_drew ?_ | refine blk_alloc ?_ _)); exact BK974.out)⟩; have n1_ : Aside0 (Below w.heap.size w w22) := ⟨by rw [← hq_]; exact (by repeat (first | (with_reducible first | exact HB.out | apply below_alloc | apply pw_below_drewN | apply below_drew1 | refine below_set ?_ GE974.out) | exact HB.out))⟩; clear BK974 HB hq_; have BK974 := n0_; have HB := n1_; clear n0_ n1_)); have hcz23_0 : w22.cell? ⟨gb974, 0, none⟩ = some (.int .i64 a0_0) := (blk_cell BK974.out 0).trans rfl; have hcz23_1 : w22.cell? ⟨gb974, 1, none⟩ = some (.int .i64 a0_1) := (blk_cell BK974.out 1).trans rfl; have hcz23_2 : w22.cell? ⟨gb974, 2, none⟩ = some (.slice A0_2 l0_2.length c0_2) := (blk_cell BK974.out 2).trans rfl; have hfz23_0 := blk_frozen BK974.out 0; have hfz23_1 := blk_frozen BK974.out 1; have hfz23_2 := blk_frozen BK974.out 2) | ((with_reducible refine gate_callee (f := 17) rfl ?_); refine goesA_ (some 24) rfl rfl Try.func17 (by kernel_rfl) rfl #[.agg #[.int .i64 a0_0, .int .i64 a0_1, .slice A0_2 l0_2.length c0_2]] rfl ?_; (with_reducible refine (laws_toSea.calls k a0_0 a0_1 _ _ l0_2 t977 t978 t979 _ ?side1 ?side2 A13.out).mono ?_); (case side1 => repeat (first | exact (Kd.C_below HR0_2.out HB.out) | (with_reducible refine Kd.C_alloc ?_ _) | (with_reducible refine Kd.C_drewN ?_ _) | (with_reducible refine Kd.C_drew ?_))); (case side2 => exact HC0_2.out); rintro e w24 ⟨v980, rfl, ho0, hb⟩; refine ⟨_, rfl, ?_⟩; have n0_ := Aside0.mk (Kd.R_lower ho0 (below_size (by repeat (first | (with_reducible first | exact HB.out | apply below_alloc | apply pw_below_drewN | apply below_drew1 | refine below_set ?_ GE974.out) | exact HB.out)))); have n1_ := Aside0.mk (blk_below (g := gb974) (o := .cells #[.int .i64 a0_0, .int .i64 a0_1, .slice A0_2 l0_2.length c0_2] 24 (0, 0)) (by (with_reducible repeat (first | refine blk_drewN ?_ _ | refine blk_drew ?_ | refine blk_alloc ?_ _)); exact BK974.out) hb); have n2_ := Aside0.mk (below_step (by repeat (first | (with_reducible first | exact HB.out | apply below_alloc | apply pw_below_drewN | apply below_drew1 | refine below_set ?_ GE974.out) | exact HB.out)) hb); clear BK974; clear HB; have HO981 := n0_; have BK974 := n1_; have HB := n2_; clear n0_ n1_ n2_; (try clear hb); (try clear hb2); (try clear hk); (try clear hi); (try clear ho0)) | ((with_reducible refine gate_callee (f := 42) rfl ?_); refine goesA_ (some 26) rfl rfl Try.func42 (by kernel_rfl) rfl #[.slice A1 l1.length c1] rfl ?_; (with_reducible refine (laws_toShotS.calls k _ _ l1 t982 _ ?side1 ?side2 A14.out).mono ?_); (case side1 => repeat (first | exact (Kd.C_below HR1.out HB.out) | (with_reducible refine Kd.C_alloc ?_ _) | (with_reducible refine Kd.C_drewN ?_ _) | (with_reducible refine Kd.C_drew ?_))); (case side2 => exact HC1.out); rintro e w25 ⟨v983, rfl, ho0, hb⟩; refine ⟨_, rfl, ?_⟩; have n0_ := Aside0.mk (Kd.R_below (by (with_reducible repeat (first | apply Kd.R_alloc | apply Kd.R_drewN | apply Kd.R_drew)); exact HO981.out) hb); have n1_ := Aside0.mk (Kd.R_lower ho0 (below_size (by repeat (first | (with_reducible first | exact HB.out | apply below_alloc | apply pw_below_drewN | apply below_drew1 | refine below_set ?_ GE974.out) | exact HB.out)))); have n2_ := Aside0.mk (blk_below (g := gb974) (o := .cells #[.int .i64 a0_0, .int .i64 a0_1, .slice A0_2 l0_2.length c0_2] 24 (0, 0)) (by (with_reducible repeat (first | refine blk_drewN ?_ _ | refine blk_drew ?_ | refine blk_alloc ?_ _)); exact BK974.out) hb); have n3_ := Aside0.mk (below_step (by repeat (first | (with_reducible first | exact HB.out | apply below_alloc | apply pw_below_drewN | apply below_drew1 | refine below_set ?_ GE974.out) | exact HB.out)) hb); clear HO981; clear BK974; clear HB; have HO981 := n0_; have HO984 := n1_; have BK974 := n2_; have HB := n3_; clear n0_ n1_ n2_ n3_; (try clear hb); (try clear hb2); (try clear hk); (try clear hi); (try clear ho0); obtain ⟨Ao26, co26, eo26⟩ := Kd.R_slice HO981.out; subst eo26; obtain ⟨Ao27, co27, eo27⟩ := Kd.R_slice HO984.out; subst eo27) | ((with_reducible refine gate_callee (f := 50) rfl ?_); refine goesA_ (some 27) rfl rfl Try.func50 (by kernel_rfl) rfl #[.agg #[.int .i64 t977, .int .i64 t978, .slice Ao26 t979.length co26], .slice Ao27 t982.length co27] rfl ?_; (with_reducible refine (spec_BestCell.calls k t977 t978 _ _ t979 _ _ t982 t985 t986 _ ?side1 ?side2 ?side3 ?side4 A15.out).mono ?_); (case side1 => repeat (first | exact (Kd.R_reads' HO981.out).2.2 | (with_reducible refine Kd.C_alloc ?_ _) | (with_reducible refine Kd.C_drewN ?_ _) | (with_reducible refine Kd.C_drew ?_))); (case side2 => exact (Kd.R_reads' HO981.out).2.1); (case side3 => repeat (first | exact (Kd.R_reads' HO984.out).2.2 | (with_reducible refine Kd.C_alloc ?_ _) | (with_reducible refine Kd.C_drewN ?_ _) | (with_reducible refine Kd.C_drew ?_))); (case side4 => exact (Kd.R_reads' HO984.out).2.1); rintro e w28 ⟨rfl, hb⟩; refine ⟨_, rfl, ?_⟩; have n0_ := Aside0.mk (Kd.R_below (by (with_reducible repeat (first | apply Kd.R_alloc | apply Kd.R_drewN | apply Kd.R_drew)); exact HO981.out) hb); have n1_ := Aside0.mk (Kd.R_below (by (with_reducible repeat (first | apply Kd.R_alloc | apply Kd.R_drewN | apply Kd.R_drew)); exact HO984.out) hb); have n2_ := Aside0.mk (blk_below (g := gb974) (o := .cells #[.int .i64 a0_0, .int .i64 a0_1, .slice A0_2 l0_2.length c0_2] 24 (0, 0)) (by (with_reducible repeat (first | refine blk_drewN ?_ _ | refine blk_drew ?_ | refine blk_alloc ?_ _)); exact BK974.out) hb); have n3_ := Aside0.mk (below_step (by repeat (first | (with_reducible first | exact HB.out | apply below_alloc | apply pw_below_drewN | apply below_drew1 | refine below_set ?_ GE974.out) | exact HB.out)) hb); clear HO981; clear HO984; clear BK974; clear HB; have HO981 := n0_; have HO984 := n1_; have BK974 := n2_; have HB := n3_; clear n0_ n1_ n2_ n3_; (try clear hb); (try clear hb2); (try clear hk); (try clear hi); have hcz29_0 : w28.cell? ⟨gb974, 0, none⟩ = some (.int .i64 a0_0) := (blk_cell BK974.out 0).trans rfl; have hcz29_1 : w28.cell? ⟨gb974, 1, none⟩ = some (.int .i64 a0_1) := (blk_cell BK974.out 1).trans rfl; have hcz29_2 : w28.cell? ⟨gb974, 2, none⟩ = some (.slice A0_2 l0_2.length c0_2) := (blk_cell BK974.out 2).trans rfl; have hfz29_0 := blk_frozen BK974.out 0; have hfz29_1 := blk_frozen BK974.out 1; have hfz29_2 := blk_frozen BK974.out 2) | ((with_reducible refine gate_callee (f := 17) rfl ?_); refine goesA_ (some 31) rfl rfl Try.func17 (by kernel_rfl) rfl #[.agg #[.int .i64 a0_0, .int .i64 a0_1, .slice A0_2 l0_2.length c0_2]] rfl ?_; (with_reducible refine (laws_toSea.calls k a0_0 a0_1 _ _ l0_2 t987 t988 t989 _ ?side1 ?side2 A16.out).mono ?_); (case side1 => repeat (first | exact (Kd.C_below HR0_2.out HB.out) | (with_reducible refine Kd.C_alloc ?_ _) | (with_reducible refine Kd.C_drewN ?_ _) | (with_reducible refine Kd.C_drew ?_))); (case side2 => exact HC0_2.out); rintro e w30 ⟨v990, rfl, ho0, hb⟩; refine ⟨_, rfl, ?_⟩; have n0_ := Aside0.mk (Kd.R_elder' (by (with_reducible repeat (first | apply Kd.R_alloc | apply Kd.R_drewN | apply Kd.R_drew)); exact HO981.out) (Kd.R_base ho0) hb); have n1_ := Aside0.mk (Kd.R_below (by (with_reducible repeat (first | apply Kd.R_alloc | apply Kd.R_drewN | apply Kd.R_drew)); exact HO984.out) hb); have n2_ := Aside0.mk (Kd.R_lower (Kd.R_new' ho0 (Kd.R_lt (by (with_reducible repeat (first | apply Kd.R_alloc | apply Kd.R_drewN | apply Kd.R_drew)); exact HO981.out))) (below_size (by repeat (first | (with_reducible first | exact HB.out | apply below_alloc | apply pw_below_drewN | apply below_drew1 | refine below_set ?_ GE974.out) | exact HB.out)))); have n3_ := Aside0.mk (blk_below (g := gb974) (o := .cells #[.int .i64 a0_0, .int .i64 a0_1, .slice A0_2 l0_2.length c0_2] 24 (0, 0)) (by (with_reducible repeat (first | refine blk_drewN ?_ _ | refine blk_drew ?_ | refine blk_alloc ?_ _)); exact BK974.out) hb); have n4_ := Aside0.mk (below_step (by repeat (first | (with_reducible first | exact HB.out | apply below_alloc | apply pw_below_drewN | apply below_drew1 | refine below_set ?_ GE974.out) | exact HB.out)) hb); clear HO981; clear HO984; clear BK974; clear HB; have HO981 := n0_; have HO984 := n1_; have HO991 := n2_; have BK974 := n3_; have HB := n4_; clear n0_ n1_ n2_ n3_ n4_; (try clear hb); (try clear hb2); (try clear hk); (try clear hi); (try clear ho0)) | ((with_reducible refine gate_dst (N := 8) rfl ?_); refine box_event ?hg (N := 8) ?hd (cs := #[.int .i64 0, .int .i64 0, .slice none 0 0]) (t := 28) ?hr ?_; (case hd => rfl); (case hg => rfl); (case hr => first | (go_simp; done) | (go_simp; rfl)); intro gb992 hg w31 hbox hb; have n0_ := Aside0.mk (Kd.R_below (by (with_reducible repeat (first | apply Kd.R_alloc | apply Kd.R_drewN | apply Kd.R_drew)); exact HO981.out) hb); have n1_ := Aside0.mk (Kd.R_below (by (with_reducible repeat (first | apply Kd.R_alloc | apply Kd.R_drewN | apply Kd.R_drew)); exact HO984.out) hb); have n2_ := Aside0.mk (Kd.R_below (by (with_reducible repeat (first | apply Kd.R_alloc | apply Kd.R_drewN | apply Kd.R_drew)); exact HO991.out) hb); have n3_ := Aside0.mk (blk_below (g := gb974) (o := .cells #[.int .i64 a0_0, .int .i64 a0_1, .slice A0_2 l0_2.length c0_2] 24 (0, 0)) (by (with_reducible repeat (first | refine blk_drewN ?_ _ | refine blk_drew ?_ | refine blk_alloc ?_ _)); exact BK974.out) hb); have n4_ := Aside0.mk (below_step (by repeat (first | (with_reducible first | exact HB.out | apply below_alloc | apply pw_below_drewN | apply below_drew1 | refine below_set ?_ GE974.out) | exact HB.out)) hb); have n5_ := Aside0.mk (hbox); have n6_ := Aside0.mk ((by rw [hg]; exact (below_size (by repeat (first | (with_reducible first | exact HB.out | apply below_alloc | apply pw_below_drewN | apply below_drew1 | refine below_set ?_ GE974.out) | exact HB.out))) : w.heap.size ≤ gb992)); have n7_ := Aside0.mk ((by rw [hg]; exact (below_size (by repeat (first | (with_reducible first | exact HB.out | apply below_alloc | apply pw_below_drewN | apply below_drew1 | refine below_set ?_ GE974.out) | exact HB.out))) : w.heap.size ≤ gb992)); have n8_ := Aside0.mk ((by rw [hg]; exact Nat.ne_of_lt (blk_lt (g := gb974) (o := .cells #[.int .i64 a0_0, .int .i64 a0_1, .slice A0_2 l0_2.length c0_2] 24 (0, 0)) (by (with_reducible repeat (first | refine blk_drewN ?_ _ | refine blk_drew ?_ | refine blk_alloc ?_ _)); exact BK974.out)) : gb974 ≠ gb992)); have n9_ := Aside0.mk ((by rw [hg]; exact Nat.ne_of_gt (blk_lt (g := gb974) (o := .cells #[.int .i64 a0_0, .int .i64 a0_1, .slice A0_2 l0_2.length c0_2] 24 (0, 0)) (by (with_reducible repeat (first | refine blk_drewN ?_ _ | refine blk_drew ?_ | refine blk_alloc ?_ _)); exact BK974.out)) : gb992 ≠ gb974)); clear HO981; clear HO984; clear HO991; clear BK974; clear HB; have HO981 := n0_; have HO984 := n1_; have HO991 := n2_; have BK974 := n3_; have HB := n4_; have BK992 := n5_; have GW992 := n6_; have GE992 := n7_; have NB974_992 := n8_; have NB992_974 := n9_; clear n0_ n1_ n2_ n3_ n4_ n5_ n6_ n7_ n8_ n9_; clear hb hbox hg; have hnb32 := NB992_974.out; have hnc32 := NB974_992.out; have hcz33_0 : w31.cell? ⟨gb992, 0, none⟩ = some (.int .i64 0) := (blk_cell BK992.out 0).trans rfl; have hcz33_1 : w31.cell? ⟨gb992, 1, none⟩ = some (.int .i64 0) := (blk_cell BK992.out 1).trans rfl; have hcz33_2 : w31.cell? ⟨gb992, 2, none⟩ = some (.slice none 0 0) := (blk_cell BK992.out 2).trans rfl; have hfz33_0 := blk_frozen BK992.out 0; have hfz33_1 := blk_frozen BK992.out 1; have hfz33_2 := blk_frozen BK992.out 2; obtain ⟨Ao34, co34, eo34⟩ := Kd.R_slice HO991.out; subst eo34) | ((with_reducible refine gate_callee (f := 42) rfl ?_); refine goesA_ (some 33) rfl rfl Try.func42 (by kernel_rfl) rfl #[.slice A1 l1.length c1] rfl ?_; (with_reducible refine (laws_toShotS.calls k _ _ l1 t993 _ ?side1 ?side2 A17.out).mono ?_); (case side1 => exact Kd.C_below HR1.out (by repeat (first | (with_reducible first | exact HB.out | apply below_alloc | apply pw_below_drewN | apply below_drew1 | refine below_set ?_ GE974.out | refine below_set ?_ GE992.out) | exact HB.out))); (case side2 => exact HC1.out); rintro e w35 ⟨v994, rfl, ho0, hb⟩; refine ⟨_, rfl, ?_⟩; have n0_ := Aside0.mk (Kd.R_below (by (with_reducible repeat (first | apply Kd.R_alloc | apply Kd.R_drewN | apply Kd.R_drew)); exact (Kd.R_mono (Kd.R_far (p := ⟨gb992, 2, none⟩) (Kd.R_far (p := ⟨gb992, 1, none⟩) (Kd.R_far (p := ⟨gb992, 0, none⟩) (Kd.R_types HO981.out BK992.out (by decide)) (fun _ hk => hk.2) (.int .i64 t987)) (fun _ hk => hk.2) (.int .i64 t988)) (fun _ hk => hk.2) (.slice Ao34 t989.length co34)) (fun _ h_ => h_.1))) hb); have n1_ := Aside0.mk (Kd.R_elder' (by (with_reducible repeat (first | apply Kd.R_alloc | apply Kd.R_drewN | apply Kd.R_drew)); exact (Kd.R_mono (Kd.R_far (p := ⟨gb992, 2, none⟩) (Kd.R_far (p := ⟨gb992, 1, none⟩) (Kd.R_far (p := ⟨gb992, 0, none⟩) (Kd.R_types HO984.out BK992.out (by decide)) (fun _ hk => hk.2) (.int .i64 t987)) (fun _ hk => hk.2) (.int .i64 t988)) (fun _ hk => hk.2) (.slice Ao34 t989.length co34)) (fun _ h_ => h_.1))) (Kd.R_base ho0) hb); have n2_ := Aside0.mk (Kd.R_below (by (with_reducible repeat (first | apply Kd.R_alloc | apply Kd.R_drewN | apply Kd.R_drew)); exact (Kd.R_mono (Kd.R_far (p := ⟨gb992, 2, none⟩) (Kd.R_far (p := ⟨gb992, 1, none⟩) (Kd.R_far (p := ⟨gb992, 0, none⟩) (Kd.R_types HO991.out BK992.out (by decide)) (fun _ hk => hk.2) (.int .i64 t987)) (fun _ hk => hk.2) (.int .i64 t988)) (fun _ hk => hk.2) (.slice Ao34 t989.length co34)) (fun _ h_ => h_.1))) hb); have n3_ := Aside0.mk (Kd.R_lower (Kd.R_new' ho0 (Kd.R_lt (by (with_reducible repeat (first | apply Kd.R_alloc | apply Kd.R_drewN | apply Kd.R_drew)); exact (Kd.R_mono (Kd.R_far (p := ⟨gb992, 2, none⟩) (Kd.R_far (p := ⟨gb992, 1, none⟩) (Kd.R_far (p := ⟨gb992, 0, none⟩) (Kd.R_types HO984.out BK992.out (by decide)) (fun _ hk => hk.2) (.int .i64 t987)) (fun _ hk => hk.2) (.int .i64 t988)) (fun _ hk => hk.2) (.slice Ao34 t989.length co34)) (fun _ h_ => h_.1))))) (below_size (by repeat (first | (with_reducible first | exact HB.out | apply below_alloc | apply pw_below_drewN | apply below_drew1 | refine below_set ?_ GE974.out | refine below_set ?_ GE992.out) | exact HB.out)))); have n4_ := Aside0.mk (blk_below (g := gb974) (o := .cells #[.int .i64 a0_0, .int .i64 a0_1, .slice A0_2 l0_2.length c0_2] 24 (0, 0)) (by (with_reducible repeat (first | refine blk_drewN ?_ _ | refine blk_drew ?_ | refine blk_alloc ?_ _)); refine blk_far ?_ NB974_992.out _; (with_reducible repeat (first | refine blk_drewN ?_ _ | refine blk_drew ?_ | refine blk_alloc ?_ _)); refine blk_far ?_ NB974_992.out _; (with_reducible repeat (first | refine blk_drewN ?_ _ | refine blk_drew ?_ | refine blk_alloc ?_ _)); refine blk_far ?_ NB974_992.out _; (with_reducible repeat (first | refine blk_drewN ?_ _ | refine blk_drew ?_ | refine blk_alloc ?_ _)); exact BK974.out) hb); have n5_ := Aside0.mk (blk_below (g := gb992) (o := .cells #[.int .i64 t987, .int .i64 t988, .slice Ao34 t989.length co34] 28 (0, 0)) (by (with_reducible repeat (first | refine blk_drewN ?_ _ | refine blk_drew ?_ | refine blk_alloc ?_ _)); refine blk_put (cs := #[.int .i64 t987, .int .i64 t988, .slice none 0 0]) ?_ 2 _ rfl; (with_reducible repeat (first | refine blk_drewN ?_ _ | refine blk_drew ?_ | refine blk_alloc ?_ _)); refine blk_put (cs := #[.int .i64 t987, .int .i64 0, .slice none 0 0]) ?_ 1 _ rfl; (with_reducible repeat (first | refine blk_drewN ?_ _ | refine blk_drew ?_ | refine blk_alloc ?_ _)); refine blk_put (cs := #[.int .i64 0, .int .i64 0, .slice none 0 0]) ?_ 0 _ rfl; (with_reducible repeat (first | refine blk_drewN ?_ _ | refine blk_drew ?_ | refine blk_alloc ?_ _)); exact BK992.out) hb); have n6_ := Aside0.mk (below_step (by repeat (first | (with_reducible first | exact HB.out | apply below_alloc | apply pw_below_drewN | apply below_drew1 | refine below_set ?_ GE974.out | refine below_set ?_ GE992.out) | exact HB.out)) hb); clear HO981; clear HO984; clear HO991; clear BK974; clear BK992; clear HB; have HO981 := n0_; have HO984 := n1_; have HO991 := n2_; have HO995 := n3_; have BK974 := n4_; have BK992 := n5_; have HB := n6_; clear n0_ n1_ n2_ n3_ n4_ n5_ n6_; (try clear hb); (try clear hb2); (try clear hk); (try clear hi); (try clear ho0); have hcz36_0 : w35.cell? ⟨gb992, 0, none⟩ = some (.int .i64 t987) := (blk_cell BK992.out 0).trans rfl; have hcz36_1 : w35.cell? ⟨gb992, 1, none⟩ = some (.int .i64 t988) := (blk_cell BK992.out 1).trans rfl; have hcz36_2 : w35.cell? ⟨gb992, 2, none⟩ = some (.slice Ao34 t989.length co34) := (blk_cell BK992.out 2).trans rfl; have hfz36_0 := blk_frozen BK992.out 0; have hfz36_1 := blk_frozen BK992.out 1; have hfz36_2 := blk_frozen BK992.out 2; obtain ⟨Ao37, co37, eo37⟩ := Kd.R_slice HO995.out; subst eo37) | ((with_reducible refine gate_callee (f := 51) rfl ?_); refine goesA_ (some 37) rfl rfl Try.func51 (by kernel_rfl) rfl #[.agg #[.int .i64 t987, .int .i64 t988, .slice Ao34 t989.length co34], .slice Ao37 t993.length co37] rfl ?_; (with_reducible refine (impl_BestCell.calls k t987 t988 _ _ t989 _ _ t993 t996 t997 _ ?side1 ?side2 ?side3 ?side4 A18.out).mono ?_); (case side1 => repeat (first | exact (Kd.R_reads' HO991.out).2.2 | (with_reducible refine Kd.C_alloc ?_ _) | (with_reducible refine Kd.C_drewN ?_ _) | (with_reducible refine Kd.C_drew ?_))); (case side2 => exact (Kd.R_reads' HO991.out).2.1); (case side3 => repeat (first | exact (Kd.R_reads' HO995.out).2.2 | (with_reducible refine Kd.C_alloc ?_ _) | (with_reducible refine Kd.C_drewN ?_ _) | (with_reducible refine Kd.C_drew ?_))); (case side4 => exact (Kd.R_reads' HO995.out).2.1); rintro e w38 ⟨rfl, hb⟩; refine ⟨_, rfl, ?_⟩; have n0_ := Aside0.mk (Kd.R_below (by (with_reducible repeat (first | apply Kd.R_alloc | apply Kd.R_drewN | apply Kd.R_drew)); exact HO981.out) hb); have n1_ := Aside0.mk (Kd.R_below (by (with_reducible repeat (first | apply Kd.R_alloc | apply Kd.R_drewN | apply Kd.R_drew)); exact HO984.out) hb); have n2_ := Aside0.mk (Kd.R_below (by (with_reducible repeat (first | apply Kd.R_alloc | apply Kd.R_drewN | apply Kd.R_drew)); exact HO991.out) hb); have n3_ := Aside0.mk (Kd.R_below (by (with_reducible repeat (first | apply Kd.R_alloc | apply Kd.R_drewN | apply Kd.R_drew)); exact HO995.out) hb); have n4_ := Aside0.mk (blk_below (g := gb974) (o := .cells #[.int .i64 a0_0, .int .i64 a0_1, .slice A0_2 l0_2.length c0_2] 24 (0, 0)) (by (with_reducible repeat (first | refine blk_drewN ?_ _ | refine blk_drew ?_ | refine blk_alloc ?_ _)); exact BK974.out) hb); have n5_ := Aside0.mk (blk_below (g := gb992) (o := .cells #[.int .i64 t987, .int .i64 t988, .slice Ao34 t989.length co34] 28 (0, 0)) (by (with_reducible repeat (first | refine blk_drewN ?_ _ | refine blk_drew ?_ | refine blk_alloc ?_ _)); exact BK992.out) hb); have n6_ := Aside0.mk (below_step (by repeat (first | (with_reducible first | exact HB.out | apply below_alloc | apply pw_below_drewN | apply below_drew1 | refine below_set ?_ GE974.out | refine below_set ?_ GE992.out) | exact HB.out)) hb); clear HO981; clear HO984; clear HO991; clear HO995; clear BK974; clear BK992; clear HB; have HO981 := n0_; have HO984 := n1_; have HO991 := n2_; have HO995 := n3_; have BK974 := n4_; have BK992 := n5_; have HB := n6_; clear n0_ n1_ n2_ n3_ n4_ n5_ n6_; (try clear hb); (try clear hb2); (try clear hk); (try clear hi)))
   (try simp only [Act.put, List.setIfInBounds_toArray, List.set_cons_zero, List.set_cons_succ])
   go_cut [47] (fun v47 wc => ∃ (kq : Nat) (x47_18 : Bool), v47 = .bool x47_18 ∧ Aside0 (laws_FnExactBestCell.j0 kq l1 t993 x47_18 a0_0 a0_1 l0_2 t987 t988 t989 = some true) ∧ Aside0 (kq ≤ k) ∧ Aside0 (Kd.R k93 93 wc w.heap.size (fun _ => True) (.slice Ao37 t993.length co37) t993) ∧ Aside0 (Kd.R (Kd.int .i64) 2 wc w.heap.size (fun _ => True) (.slice Ao34 t989.length co34) t989) ∧ Aside0 (wc.heap[gb974]? = some (.cells #[.int .i64 a0_0, .int .i64 a0_1, (.slice A0_2 l0_2.length c0_2)] 24 (0, 0))) ∧ Aside0 (wc.heap[gb992]? = some (.cells #[.int .i64 t987, .int .i64 t988, (.slice Ao34 t989.length co34)] 28 (0, 0))) ∧ Aside0 (Below w.heap.size w wc))
   case first =>
    have H := HC19.out
    clear HC19
    by_cases c39 : t996 = t985
    ·rw [if_pos c39] at H
     have c39b0 : (t996 == t985) = true := beq_iff_eq.mpr c39
     have c39b1 : (t996 != t985) = false := bne_eq_false_iff_eq.mpr c39
     clear c39
     (first | rw [c39b0] | (simp only [i64_w, i32_w]; rw [c39b0]) | skip)
     have H' := Aside0.mk H
     clear H
     go_wp2
     go_meet
     case rel => exact ⟨_, ((t997 != t986)), (by first | rfl | (simp; done) | (simp [*]; done)), H', ⟨by first | omega | exact Nat.le_refl _⟩, ⟨by (with_reducible repeat (first | apply Kd.R_alloc | apply Kd.R_drewN | apply Kd.R_drew)); exact Kd.R_mono HO995.out (fun _ hk => trivial)⟩, ⟨by (with_reducible repeat (first | apply Kd.R_alloc | apply Kd.R_drewN | apply Kd.R_drew)); exact Kd.R_mono HO991.out (fun _ hk => trivial)⟩, ⟨by (with_reducible repeat (first | refine blk_drewN ?_ _ | refine blk_drew ?_ | refine blk_alloc ?_ _)); exact BK974.out⟩, ⟨by (with_reducible repeat (first | refine blk_drewN ?_ _ | refine blk_drew ?_ | refine blk_alloc ?_ _)); exact BK992.out⟩, ⟨by repeat (first | (with_reducible first | exact HB.out | apply below_alloc | apply pw_below_drewN | apply below_drew1 | refine below_set ?_ GE974.out | refine below_set ?_ GE992.out) | exact HB.out)⟩⟩
    ·rw [if_neg c39] at H
     have c39b0 : (t996 == t985) = false := beq_eq_false_iff_ne.mpr c39
     have c39b1 : (t996 != t985) = true := bne_iff_ne.mpr c39
     (first | rw [c39b0] | (simp only [i64_w, i32_w]; rw [c39b0]) | skip)
     have H' := Aside0.mk H
     clear H
     go_wp2
     go_meet
     case rel => exact ⟨_, (true), (by first | rfl | (simp; done) | (simp [*]; done)), H', ⟨by first | omega | exact Nat.le_refl _⟩, ⟨by (with_reducible repeat (first | apply Kd.R_alloc | apply Kd.R_drewN | apply Kd.R_drew)); exact Kd.R_mono HO995.out (fun _ hk => trivial)⟩, ⟨by (with_reducible repeat (first | apply Kd.R_alloc | apply Kd.R_drewN | apply Kd.R_drew)); exact Kd.R_mono HO991.out (fun _ hk => trivial)⟩, ⟨by (with_reducible repeat (first | refine blk_drewN ?_ _ | refine blk_drew ?_ | refine blk_alloc ?_ _)); exact BK974.out⟩, ⟨by (with_reducible repeat (first | refine blk_drewN ?_ _ | refine blk_drew ?_ | refine blk_alloc ?_ _)); exact BK992.out⟩, ⟨by repeat (first | (with_reducible first | exact HB.out | apply below_alloc | apply pw_below_drewN | apply below_drew1 | refine below_set ?_ GE974.out | refine below_set ?_ GE992.out) | exact HB.out)⟩⟩
   case rest =>
    clear HC19
    (try clear c1); (try clear p2); (try clear c3); (try clear c4); (try clear c4b0); (try clear c5); (try clear c9); (try clear c9b0); (try clear c13); (try clear c15); (try clear c17); (try clear c32); (try clear c39); (try clear c39b0); (try clear c39b1); (try clear hcz11_0); (try clear hcz11_1); (try clear hcz11_2); (try clear hcz21_0); (try clear hcz21_1); (try clear hcz21_2); (try clear hcz23_0); (try clear hcz23_1); (try clear hcz23_2); (try clear hcz29_0); (try clear hcz29_1); (try clear hcz29_2); (try clear hcz33_0); (try clear hcz33_1); (try clear hcz33_2); (try clear hcz36_0); (try clear hcz36_1); (try clear hcz36_2); (try clear hcz6_0); (try clear hcz6_1); (try clear hcz6_2); (try clear hfz11_0); (try clear hfz11_1); (try clear hfz11_2); (try clear hfz21_0); (try clear hfz21_1); (try clear hfz21_2); (try clear hfz23_0); (try clear hfz23_1); (try clear hfz23_2); (try clear hfz29_0); (try clear hfz29_1); (try clear hfz29_2); (try clear hfz33_0); (try clear hfz33_1); (try clear hfz33_2); (try clear hfz36_0); (try clear hfz36_1); (try clear hfz36_2); (try clear hfz6_0); (try clear hfz6_1); (try clear hfz6_2)
    obtain ⟨kq, x47_18, rfl, HA, HJ18, HO_9, HO_993002, BK974, BK992, HB⟩ := hcut
    cases kq with
    | zero => exact absurd HA.out (by simp [laws_FnExactBestCell.j0])
    | succ kj18 =>
     have H := HA.out
     clear HA
     simp only [laws_FnExactBestCell.j0] at H
     by_cases c40 : x47_18 = true
     ·subst c40
      have H1 : (some false) = some true := by rw [if_pos rfl] at H; exact H
      clear H
      have H := H1
      clear H1
      exact absurd H (by simp)
     ·replace c40 := Bool.eq_false_iff.mpr c40
      subst c40
      have H1 : ((laws_toSea.f kj18 a0_0 a0_1 l0_2).bind fun bt998 => ((laws_eqSea.f kj18 t987 t988 t989 bt998.1 bt998.2.1 bt998.2.2).bind fun t1003 => (if t1003 = true then ((laws_toShotS.f kj18 l1).bind fun t1004 => ((laws_eqShotS.f kj18 t993 t1004).bind fun t1007 => (if t1007 = true then (some true) else (some false)))) else (some false)))) = some true := by rw [if_neg (show ¬ (false = true) by decide)] at H; exact H
      clear H
      have H := H1
      clear H1
      replace H := Option.bind_eq_some_iff.mp H
      obtain ⟨⟨t998, t999, t1000⟩, A410, H⟩ := H
      replace H : ((laws_eqSea.f kj18 t987 t988 t989 t998 t999 t1000).bind fun t1003 => (if t1003 = true then ((laws_toShotS.f kj18 l1).bind fun t1004 => ((laws_eqShotS.f kj18 t993 t1004).bind fun t1007 => (if t1007 = true then (some true) else (some false)))) else (some false))) = some true := H
      have A41 := Aside0.mk A410
      clear A410
      replace H := Option.bind_eq_some_iff.mp H
      obtain ⟨t1003, A420, H⟩ := H
      replace H : (if t1003 = true then ((laws_toShotS.f kj18 l1).bind fun t1004 => ((laws_eqShotS.f kj18 t993 t1004).bind fun t1007 => (if t1007 = true then (some true) else (some false)))) else (some false)) = some true := H
      have A42 := Aside0.mk A420
      clear A420
      by_cases c43 : t1003 = true
      ·subst c43
       have H1 : ((laws_toShotS.f kj18 l1).bind fun t1004 => ((laws_eqShotS.f kj18 t993 t1004).bind fun t1007 => (if t1007 = true then (some true) else (some false)))) = some true := by rw [if_pos rfl] at H; exact H
       clear H
       have H := H1
       clear H1
       replace H := Option.bind_eq_some_iff.mp H
       obtain ⟨t1004, A440, H⟩ := H
       replace H : ((laws_eqShotS.f kj18 t993 t1004).bind fun t1007 => (if t1007 = true then (some true) else (some false))) = some true := H
       have A44 := Aside0.mk A440
       clear A440
       replace H := Option.bind_eq_some_iff.mp H
       obtain ⟨t1007, A450, H⟩ := H
       replace H : (if t1007 = true then (some true) else (some false)) = some true := H
       have A45 := Aside0.mk A450
       clear A450
       by_cases c46 : t1007 = true
       ·subst c46
        have H1 : (some true) = some true := rfl
        clear H
        have H := H1
        clear H1
        clear H
        try go_wp2
        have n0_ := Aside0.mk (Kd.R_drew HO_9.out)
        have n1_ := Aside0.mk (Kd.R_drew HO_993002.out)
        have n2_ := Aside0.mk (blk_drew BK974.out)
        have n3_ := Aside0.mk (blk_drew BK992.out)
        have n4_ := Aside0.mk (below_drew1 HB.out)
        clear HO_9
        clear HO_993002
        clear BK974
        clear BK992
        clear HB
        have HO_9 := n0_
        have HO_993002 := n1_
        have BK974 := n2_
        have BK992 := n3_
        have HB := n4_
        clear n0_ n1_ n2_ n3_ n4_
        refine start_ (n := 5) (S := fun w' => w'.cell? ⟨gb992, 0, none⟩ = some (.int .i64 t987) ∧ w'.cell? ⟨gb992, 1, none⟩ = some (.int .i64 t988) ∧ w'.cell? ⟨gb992, 2, none⟩ = some (.slice Ao34 t989.length co34) ∧ w'.cell? ⟨gb974, 0, none⟩ = some (.int .i64 a0_0) ∧ w'.cell? ⟨gb974, 1, none⟩ = some (.int .i64 a0_1) ∧ w'.cell? ⟨gb974, 2, none⟩ = some (.slice A0_2 l0_2.length c0_2)) (ds := []) #[false, false, false, false, false] (by kernel_rfl) rfl rfl ⟨(blk_cell BK992.out 0).trans rfl, (blk_cell BK992.out 1).trans rfl, (blk_cell BK992.out 2).trans rfl, (blk_cell BK974.out 0).trans rfl, (blk_cell BK974.out 1).trans rfl, (blk_cell BK974.out 2).trans rfl⟩ (fun hHeld => ?_)
        generalize wc.drew = w47 at HO_9 HO_993002 BK974 BK992 HB hHeld ⊢
        refine take_ (i := 0) (N := some 48) (v := ?_) (a' := ?_) #[true, false, false, false, false] rfl rfl (by kernel_rfl) (fun _ _ _ h => h) (Or.inl ⟨by rfl, ?_⟩) hHeld ?_ ?_
        rotate_left; (· (rintro w' ⟨s0, s1, s2, s3, s4, s5⟩; go_simp; with_reducible rfl)); rotate_left; (· (simp only [Act.put, sz_, s0_, s1_, i64_w, i32_w]; rfl))
        refine take_ (i := 1) (N := some 49) (v := ?_) (a' := ?_) #[true, true, false, false, false] rfl rfl (by kernel_rfl) (fun _ _ _ h => h) (Or.inl ⟨by rfl, ?_⟩) hHeld ?_ ?_
        rotate_left; (· (rintro w' ⟨s0, s1, s2, s3, s4, s5⟩; go_simp; with_reducible rfl)); rotate_left; (· (simp only [Act.put, sz_, s0_, s1_, i64_w, i32_w]; rfl))
        refine one_ (i := 2) (N := some 50) #[true, true, true, false, false] rfl rfl (by kernel_rfl) (by decide) (fun K hK => ?_)
        refine goes_ Try.func17 (by kernel_rfl) rfl #[.agg #[.int .i64 a0_0, .int .i64 a0_1, .slice A0_2 l0_2.length c0_2]] (by rfl) rfl rfl (by (try simp only [List.map_toArray, List.map_cons, List.map_nil]); first | done | rfl | (simp only [List.length_drop, List.length_take]; rfl)) ?_
        with_reducible refine (laws_toSea.calls kj18 a0_0 a0_1 _ _ l0_2 t998 t999 t1000 _ ?side1 ?side2 A41.out).mono ?_
        (case side1 => repeat (first | exact (Kd.C_below HR0_2.out HB.out) | (with_reducible refine Kd.C_alloc ?_ _) | (with_reducible refine Kd.C_drewN ?_ _) | (with_reducible refine Kd.C_drew ?_)))
        (case side2 => exact HC0_2.out)
        rintro e w48 ⟨v1001, rfl, ho0, hb⟩
        refine ⟨_, rfl, ?_⟩
        have n0_ := Aside0.mk (Kd.R_below (by (with_reducible repeat (first | apply Kd.R_alloc | apply Kd.R_drewN | apply Kd.R_drew)); exact HO_9.out) hb)
        have n1_ := Aside0.mk (Kd.R_elder' (by (with_reducible repeat (first | apply Kd.R_alloc | apply Kd.R_drewN | apply Kd.R_drew)); exact HO_993002.out) (Kd.R_base ho0) hb)
        have n2_ := Aside0.mk (Kd.R_lower (Kd.R_new' ho0 (Kd.R_lt (by (with_reducible repeat (first | apply Kd.R_alloc | apply Kd.R_drewN | apply Kd.R_drew)); exact HO_993002.out))) (below_size (by repeat (first | (with_reducible first | exact HB.out | apply below_alloc | apply pw_below_drewN | apply below_drew1 | refine below_set ?_ GE974.out | refine below_set ?_ GE992.out) | exact HB.out))))
        have n3_ := Aside0.mk (blk_below (g := gb974) (o := .cells #[.int .i64 a0_0, .int .i64 a0_1, .slice A0_2 l0_2.length c0_2] 24 (0, 0)) (by (with_reducible repeat (first | refine blk_drewN ?_ _ | refine blk_drew ?_ | refine blk_alloc ?_ _)); exact BK974.out) hb)
        have n4_ := Aside0.mk (blk_below (g := gb992) (o := .cells #[.int .i64 t987, .int .i64 t988, .slice Ao34 t989.length co34] 28 (0, 0)) (by (with_reducible repeat (first | refine blk_drewN ?_ _ | refine blk_drew ?_ | refine blk_alloc ?_ _)); exact BK992.out) hb)
        have n5_ := Aside0.mk (below_step (by repeat (first | (with_reducible first | exact HB.out | apply below_alloc | apply pw_below_drewN | apply below_drew1 | refine below_set ?_ GE974.out | refine below_set ?_ GE992.out) | exact HB.out)) hb)
        clear HO_9
        clear HO_993002
        clear BK974
        clear BK992
        clear HB
        have HO_9 := n0_
        have HO_993002 := n1_
        have HO1002 := n2_
        have BK974 := n3_
        have BK992 := n4_
        have HB := n5_
        clear n0_ n1_ n2_ n3_ n4_ n5_
        (try clear hb)
        (try clear hb2)
        (try clear hk)
        (try clear hi)
        (try clear ho0)
        obtain ⟨Ao49, co49, eo49⟩ := Kd.R_slice HO1002.out
        (first | subst eo49 | (injection eo49 with f1_ f2_ f3_; have f4_ := f1_.symm; have f5_ := f3_.symm; clear f1_ f2_ f3_; subst f4_; subst f5_))
        refine hK.out _ _ ⟨(blk_cell BK992.out 0).trans rfl, (blk_cell BK992.out 1).trans rfl, (blk_cell BK992.out 2).trans rfl, (blk_cell BK974.out 0).trans rfl, (blk_cell BK974.out 1).trans rfl, (blk_cell BK974.out 2).trans rfl⟩ (fun hHeld => ?_)
        clear hK K
        refine norm_ (a' := ?_) ?_ ?_
        rotate_left
        ·show Act.put _ (some 50) _ = _
         simp only [Act.put, sz_, s0_, s1_, i64_w, i32_w]
         rfl
        refine one_ (i := 3) (N := some 51) #[true, true, true, true, false] rfl rfl (by kernel_rfl) (by decide) (fun K hK => ?_)
        refine goes_ Try.func20 (by kernel_rfl) rfl #[.agg #[.int .i64 t987, .int .i64 t988, .slice Ao34 t989.length co34], .agg #[.int .i64 t998, .int .i64 t999, .slice Ao49 t1000.length co49]] (by rfl) rfl rfl (by (try simp only [List.map_toArray, List.map_cons, List.map_nil]); first | done | rfl | (simp only [List.length_drop, List.length_take]; rfl)) ?_
        with_reducible refine (laws_eqSea.calls kj18 t987 t988 _ _ t989 t998 t999 _ _ t1000 true _ ?side1 ?side2 ?side3 ?side4 A42.out).mono ?_
        (case side1 => repeat (first | exact (Kd.R_reads' HO_993002.out).2.2 | (with_reducible refine Kd.C_alloc ?_ _) | (with_reducible refine Kd.C_drewN ?_ _) | (with_reducible refine Kd.C_drew ?_)))
        (case side2 => exact (Kd.R_reads' HO_993002.out).2.1)
        (case side3 => repeat (first | exact (Kd.R_reads' HO1002.out).2.2 | (with_reducible refine Kd.C_alloc ?_ _) | (with_reducible refine Kd.C_drewN ?_ _) | (with_reducible refine Kd.C_drew ?_)))
        (case side4 => exact (Kd.R_reads' HO1002.out).2.1)
        rintro e w50 ⟨rfl, hb⟩
        refine ⟨_, rfl, ?_⟩
        have n0_ := Aside0.mk (Kd.R_below (by (with_reducible repeat (first | apply Kd.R_alloc | apply Kd.R_drewN | apply Kd.R_drew)); exact HO_9.out) hb)
        have n1_ := Aside0.mk (Kd.R_below (by (with_reducible repeat (first | apply Kd.R_alloc | apply Kd.R_drewN | apply Kd.R_drew)); exact HO_993002.out) hb)
        have n2_ := Aside0.mk (Kd.R_below (by (with_reducible repeat (first | apply Kd.R_alloc | apply Kd.R_drewN | apply Kd.R_drew)); exact HO1002.out) hb)
        have n3_ := Aside0.mk (blk_below (g := gb974) (o := .cells #[.int .i64 a0_0, .int .i64 a0_1, .slice A0_2 l0_2.length c0_2] 24 (0, 0)) (by (with_reducible repeat (first | refine blk_drewN ?_ _ | refine blk_drew ?_ | refine blk_alloc ?_ _)); exact BK974.out) hb)
        have n4_ := Aside0.mk (blk_below (g := gb992) (o := .cells #[.int .i64 t987, .int .i64 t988, .slice Ao34 t989.length co34] 28 (0, 0)) (by (with_reducible repeat (first | refine blk_drewN ?_ _ | refine blk_drew ?_ | refine blk_alloc ?_ _)); exact BK992.out) hb)
        have n5_ := Aside0.mk (below_step (by repeat (first | (with_reducible first | exact HB.out | apply below_alloc | apply pw_below_drewN | apply below_drew1 | refine below_set ?_ GE974.out | refine below_set ?_ GE992.out) | exact HB.out)) hb)
        clear HO_9
        clear HO_993002
        clear HO1002
        clear BK974
        clear BK992
        clear HB
        have HO_9 := n0_
        have HO_993002 := n1_
        have HO1002 := n2_
        have BK974 := n3_
        have BK992 := n4_
        have HB := n5_
        clear n0_ n1_ n2_ n3_ n4_ n5_
        (try clear hb)
        (try clear hb2)
        (try clear hk)
        (try clear hi)
        refine hK.out _ _ ⟨(blk_cell BK992.out 0).trans rfl, (blk_cell BK992.out 1).trans rfl, (blk_cell BK992.out 2).trans rfl, (blk_cell BK974.out 0).trans rfl, (blk_cell BK974.out 1).trans rfl, (blk_cell BK974.out 2).trans rfl⟩ (fun hHeld => ?_)
        clear hK K
        refine norm_ (a' := ?_) ?_ ?_
        rotate_left
        ·show Act.put _ (some 51) _ = _
         simp only [Act.put, sz_, s0_, s1_, i64_w, i32_w]
         rfl
        refine pure_ (i := 4) (N := some 52) (v := ?_) (a' := ?_) #[true, true, true, true, true] rfl rfl (by kernel_rfl) (fun _ _ _ h => h) (Or.inl ⟨by rfl, ?_⟩) ?_ ?_
        rotate_left; (· (intro w'; go_simp; with_reducible rfl)); rotate_left; (· (simp only [Act.put, sz_, s0_, s1_, i64_w, i32_w]; rfl))
        refine done_ (by kernel_rfl) ?_
        try go_wp2_with (first | ((with_reducible refine gate_callee (f := 42) rfl ?_); refine goesA_ (some 55) rfl rfl Try.func42 (by kernel_rfl) rfl #[.slice A1 l1.length c1] rfl ?_; (with_reducible refine (laws_toShotS.calls kj18 _ _ l1 t1004 _ ?side1 ?side2 A44.out).mono ?_); (case side1 => repeat (first | exact (Kd.C_below HR1.out HB.out) | (with_reducible refine Kd.C_alloc ?_ _) | (with_reducible refine Kd.C_drewN ?_ _) | (with_reducible refine Kd.C_drew ?_))); (case side2 => exact HC1.out); rintro e w51 ⟨v1005, rfl, ho0, hb⟩; refine ⟨_, rfl, ?_⟩; have n0_ := Aside0.mk (Kd.R_elder' (by (with_reducible repeat (first | apply Kd.R_alloc | apply Kd.R_drewN | apply Kd.R_drew)); exact HO_9.out) (Kd.R_base ho0) hb); have n1_ := Aside0.mk (Kd.R_below (by (with_reducible repeat (first | apply Kd.R_alloc | apply Kd.R_drewN | apply Kd.R_drew)); exact HO_993002.out) hb); have n2_ := Aside0.mk (Kd.R_below (by (with_reducible repeat (first | apply Kd.R_alloc | apply Kd.R_drewN | apply Kd.R_drew)); exact HO1002.out) hb); have n3_ := Aside0.mk (Kd.R_lower (Kd.R_new' ho0 (Kd.R_lt (by (with_reducible repeat (first | apply Kd.R_alloc | apply Kd.R_drewN | apply Kd.R_drew)); exact HO_9.out))) (below_size (by repeat (first | (with_reducible first | exact HB.out | apply below_alloc | apply pw_below_drewN | apply below_drew1 | refine below_set ?_ GE974.out | refine below_set ?_ GE992.out) | exact HB.out)))); have n4_ := Aside0.mk (blk_below (g := gb974) (o := .cells #[.int .i64 a0_0, .int .i64 a0_1, .slice A0_2 l0_2.length c0_2] 24 (0, 0)) (by (with_reducible repeat (first | refine blk_drewN ?_ _ | refine blk_drew ?_ | refine blk_alloc ?_ _)); exact BK974.out) hb); have n5_ := Aside0.mk (blk_below (g := gb992) (o := .cells #[.int .i64 t987, .int .i64 t988, .slice Ao34 t989.length co34] 28 (0, 0)) (by (with_reducible repeat (first | refine blk_drewN ?_ _ | refine blk_drew ?_ | refine blk_alloc ?_ _)); exact BK992.out) hb); have n6_ := Aside0.mk (below_step (by repeat (first | (with_reducible first | exact HB.out | apply below_alloc | apply pw_below_drewN | apply below_drew1 | refine below_set ?_ GE974.out | refine below_set ?_ GE992.out) | exact HB.out)) hb); clear HO_9; clear HO_993002; clear HO1002; clear BK974; clear BK992; clear HB; have HO_9 := n0_; have HO_993002 := n1_; have HO1002 := n2_; have HO1006 := n3_; have BK974 := n4_; have BK992 := n5_; have HB := n6_; clear n0_ n1_ n2_ n3_ n4_ n5_ n6_; (try clear hb); (try clear hb2); (try clear hk); (try clear hi); (try clear ho0); obtain ⟨Ao52, co52, eo52⟩ := Kd.R_slice HO1006.out; subst eo52) | ((with_reducible refine gate_callee (f := 44) rfl ?_); refine goesA_ (some 56) rfl rfl Try.func44 (by kernel_rfl) rfl #[.slice Ao37 t993.length co37, .slice Ao52 t1004.length co52] rfl ?_; (with_reducible refine (laws_eqShotS.calls kj18 _ _ t993 _ _ t1004 true _ ?side1 ?side2 ?side3 ?side4 A45.out).mono ?_); (case side1 => repeat (first | exact (Kd.R_reads' HO_9.out).2.2 | (with_reducible refine Kd.C_alloc ?_ _) | (with_reducible refine Kd.C_drewN ?_ _) | (with_reducible refine Kd.C_drew ?_))); (case side2 => exact (Kd.R_reads' HO_9.out).2.1); (case side3 => repeat (first | exact (Kd.R_reads' HO1006.out).2.2 | (with_reducible refine Kd.C_alloc ?_ _) | (with_reducible refine Kd.C_drewN ?_ _) | (with_reducible refine Kd.C_drew ?_))); (case side4 => exact (Kd.R_reads' HO1006.out).2.1); rintro e w53 ⟨rfl, hb⟩; refine ⟨_, rfl, ?_⟩; have n0_ := Aside0.mk (Kd.R_below (by (with_reducible repeat (first | apply Kd.R_alloc | apply Kd.R_drewN | apply Kd.R_drew)); exact HO_9.out) hb); have n1_ := Aside0.mk (Kd.R_below (by (with_reducible repeat (first | apply Kd.R_alloc | apply Kd.R_drewN | apply Kd.R_drew)); exact HO_993002.out) hb); have n2_ := Aside0.mk (Kd.R_below (by (with_reducible repeat (first | apply Kd.R_alloc | apply Kd.R_drewN | apply Kd.R_drew)); exact HO1002.out) hb); have n3_ := Aside0.mk (Kd.R_below (by (with_reducible repeat (first | apply Kd.R_alloc | apply Kd.R_drewN | apply Kd.R_drew)); exact HO1006.out) hb); have n4_ := Aside0.mk (blk_below (g := gb974) (o := .cells #[.int .i64 a0_0, .int .i64 a0_1, .slice A0_2 l0_2.length c0_2] 24 (0, 0)) (by (with_reducible repeat (first | refine blk_drewN ?_ _ | refine blk_drew ?_ | refine blk_alloc ?_ _)); exact BK974.out) hb); have n5_ := Aside0.mk (blk_below (g := gb992) (o := .cells #[.int .i64 t987, .int .i64 t988, .slice Ao34 t989.length co34] 28 (0, 0)) (by (with_reducible repeat (first | refine blk_drewN ?_ _ | refine blk_drew ?_ | refine blk_alloc ?_ _)); exact BK992.out) hb); have n6_ := Aside0.mk (below_step (by repeat (first | (with_reducible first | exact HB.out | apply below_alloc | apply pw_below_drewN | apply below_drew1 | refine below_set ?_ GE974.out | refine below_set ?_ GE992.out) | exact HB.out)) hb); clear HO_9; clear HO_993002; clear HO1002; clear HO1006; clear BK974; clear BK992; clear HB; have HO_9 := n0_; have HO_993002 := n1_; have HO1002 := n2_; have HO1006 := n3_; have BK974 := n4_; have BK992 := n5_; have HB := n6_; clear n0_ n1_ n2_ n3_ n4_ n5_ n6_; (try clear hb); (try clear hb2); (try clear hk); (try clear hi)))
        go_ret
        exact ⟨by first | rfl | (simp [errW_none, errW_some] <;> rfl) | (simp [*, errW_none, errW_some] <;> rfl), by repeat (first | (with_reducible first | exact HB.out | apply below_alloc | apply pw_below_drewN | apply below_drew1 | refine below_set ?_ GE974.out | refine below_set ?_ GE992.out) | exact HB.out)⟩
       ·replace c46 := Bool.eq_false_iff.mpr c46
        subst c46
        have H1 : (some false) = some true := by rw [if_neg (show ¬ (false = true) by decide)] at H; exact H
        clear H
        have H := H1
        clear H1
        exact absurd H (by simp)
      ·replace c43 := Bool.eq_false_iff.mpr c43
       subst c43
       have H1 : (some false) = some true := by rw [if_neg (show ¬ (false = true) by decide)] at H; exact H
       clear H
       have H := H1
       clear H1
       exact absurd H (by simp)
-- The reference's best cell. (for 92 93)
-- bestV openV openB bestStep bestTo_in chosen_iff
theorem openB_rd {N c : Nat} (T : List S93) (h : c < N) : rdOf false (openB N T) (c : Int) = !(T.any fun x => x.f0 == (c : Int)) := by
  unfold rdOf
  rw [Int.toNat_natCast, List.getD_eq_getElem?_getD, List.getElem?_eq_getElem (by rw [openB_len]; exact h), Option.getD_some]
  simp [openB]
theorem chosenTo_none (p : Int → Bool) (h : ∀ c, p c = false) : ∀ n, chosenTo p n = []
  | 0 => rfl
  | n + 1 => by
    show (if p (n : Int) = true then chosenTo p n ++ [(n : Int)] else chosenTo p n) = []
    rw [h, if_neg (by simp), chosenTo_none p h n]
theorem bestCh_in {N : Nat} (list : List Int) (p : Int → Bool) {c : Nat} (hc : c ≤ N) : -1 ≤ (chosenTo p c).foldl (bestStep list) (-1) ∧ (chosenTo p c).foldl (bestStep list) (-1) < (N : Int) := by
  have := bestTo_in (N := N) list (chosenTo p c) (fun x hx => by have := (chosen_iff _ _ _).1 hx; omega) _ (Nat.le_refl _)
  rwa [List.take_length] at this
theorem best_ev {N : Nat} (hN : N ≤ 25) (list : List Int) (hl : list.length = N) (T : List S93) (tot : Int) : Ev (fun k => spec_l09Best.l0 k list tot (openB N T) (-1) 0) (bestV list (openV N T fun _ => decide (tot > 0))) := by
  have hlen := openB_len N T
  by_cases ht : tot > 0
  · obtain ⟨p, hp⟩ : ∃ p : Int → Bool, p = fun c => !(T.any fun x => x.f0 == c) := ⟨_, rfl⟩
    have hv : openV N T (fun _ => decide (tot > 0)) = chosenTo p N := by
      unfold openV
      rw [hp]
      congr 1
      funext c
      rw [decide_eq_true ht, Bool.true_and]
    rw [hv]
    have key : ∀ (d c : Nat), c + d = N → Ev (fun k => spec_l09Best.l0 k list tot (openB N T) ((chosenTo p c).foldl (bestStep list) (-1)) c) ((chosenTo p N).foldl (bestStep list) (-1)) := by
      intro d
      induction d with
      | zero =>
        intro c hc
        have e : c = N := by omega
        subst e
        refine Ev.step (f := fun k => spec_l09Best.j1 k list tot (openB c T) ((chosenTo p c).foldl (bestStep list) (-1)) c false) (fun k => ?_) (Ev.step (f := fun _ => some _) (fun k => ?_) (Ev.now _))
        · simp only [spec_l09Best.l0]
          rw [if_neg (by rw [hlen]; omega)]
        · simp only [spec_l09Best.j1]
          rw [if_neg (by simp)]
      | succ d ih =>
        intro c hc
        have hcN : c < N := by omega
        have c1 : (c : Int) < ((openB N T).length : Int) := by rw [hlen]; omega
        have c2 : (0 : Int) ≤ (c : Int) := by omega
        have c3 : (c : Int) < (list.length : Int) := by omega
        have hw := wrap_one (a := c) (by omega)
        have hb := bestCh_in (N := N) list p (c := c) (by omega)
        have hs : chosenTo p (c + 1) = if p (c : Int) = true then chosenTo p c ++ [(c : Int)] else chosenTo p c := rfl
        have ih1 := ih (c + 1) (by omega)
        rw [hs] at ih1
        have ho := openB_rd T hcN
        have hpc : p (c : Int) = !(T.any fun x => x.f0 == (c : Int)) := by rw [hp]
        rw [← hpc] at ho
        generalize hB : (chosenTo p c).foldl (bestStep list) (-1) = b at hb ⊢
        refine Ev.step (f := fun k => spec_l09Best.j1 k list tot (openB N T) b c true) (fun k => ?_) ?_
        · simp only [spec_l09Best.l0]
          rw [if_pos c1, decide_eq_true ht]
        · cases hpv : p (c : Int) with
          | false =>
            rw [hpv] at ho ih1
            rw [if_neg (by simp), hB] at ih1
            refine Ev.step (fun k => ?_) ih1
            simp only [spec_l09Best.j1]
            rw [if_pos trivial, if_pos c2, if_pos c1, ho, if_neg (by simp), hw]
          | true =>
            rw [hpv] at ho ih1
            rw [if_pos rfl, List.foldl_append, List.foldl_cons, List.foldl_nil, hB] at ih1
            unfold bestStep at ih1
            refine Ev.step (fun k => ?_) ih1
            simp only [spec_l09Best.j1]
            rw [if_pos trivial, if_pos c2, if_pos c1, ho, if_pos rfl, hw]
            by_cases h0 : b < 0
            · rw [if_pos h0, if_pos (.inl h0)]
            · rw [if_neg h0, if_pos c3, if_pos (by omega), if_pos (by omega)]
              by_cases h1 : rd list (c : Int) > rd list b
              · rw [if_pos h1, if_pos (.inr h1)]
              · rw [if_neg h1, if_neg (by rintro (h | h); exact h0 h; exact h1 h)]
    exact key N 0 (by omega)
  · have hv : openV N T (fun _ => decide (tot > 0)) = [] := chosenTo_none _ (fun c => by rw [decide_eq_false ht]; rfl) N
    rw [hv]
    refine Ev.step (f := fun k => spec_l09Best.j1 k list tot (openB N T) (-1) 0 false) (fun k => ?_) (Ev.step (f := fun _ => some (-1)) (fun k => ?_) (Ev.now _))
    · simp only [spec_l09Best.l0]
      rw [decide_eq_false ht]
      split <;> rfl
    · simp only [spec_l09Best.j1]
      rw [if_neg (by simp)]
theorem shotsOk_below {w h : Int} {l : List Int} {T : List S93} (hs : seaV w h l = true) (hk : shotsOk (w.toNat * h.toNat) T = true) : shotsBelow (w.toNat * h.toNat) T = true := by
  unfold shotsOk at hk
  simp only [Bool.and_eq_true] at hk
  have hin := ((diffL_iff _ _ 0).1 hk.2).1
  refine List.all_eq_true.2 (fun x hx => ?_)
  have := hin x.f0 (List.mem_map.2 ⟨x, hx, rfl⟩)
  simp only [Bool.and_eq_true, decide_eq_true_eq]
  omega
-- The code of a sea and shots. (for 89 83)
-- specShots_ev implShots_ev first_one shotsIn diffL_iff
def shotsV (w h : Int) (l : List Int) (T : List S93) : Int := if seaV w h l = true then (if shotsOk (w.toNat * h.toNat) T = true then 0 else 2) else 1
theorem specShotsCode_ev (w h : Int) (l : List Int) (T : List S93) (hl : l.length ≤ 1048576) (hT : T.length ≤ 1048576) : Ev (fun k => spec_l09Shots.f k w h l T) (shotsV w h l T) := by
  have e1 := l09Is_ev w h l (by omega)
  unfold spec_l09Shots.f shotsV
  cases hs : seaV w h l with
  | false =>
    rw [hs] at e1
    rw [if_neg (by simp)]
    exact Ev.bind e1 (Ev.congr (fun k => by rw [if_neg (by simp)]) (Ev.now _))
  | true =>
    rw [hs] at e1
    obtain ⟨⟨wn, rfl, hw1, hw5⟩, ⟨hn', rfl, hh1, hh5⟩, _, h3⟩ := seaV_nat hs
    simp only [Int.toNat_natCast]
    rw [if_pos trivial]
    exact Ev.bind e1 (Ev.congr (fun k => by rw [if_pos rfl]) (specShots_ev rfl (place_small_ hw5 hh5) l T hT))
theorem implShotsCode_ev (w h : Int) (l : List Int) (T : List S93) (hl : l.length ≤ 1048576) (hT : T.length ≤ 1048576) : Ev (fun k => impl_shotsCode.f k w h l T) (shotsV w h l T) := by
  have e1 := implIsSea_ev w h l (by omega)
  unfold impl_shotsCode.f shotsV
  cases hs : seaV w h l with
  | false =>
    rw [hs] at e1
    rw [if_neg (by simp)]
    exact Ev.bind e1 (Ev.congr (fun k => by rw [if_neg (by simp)]) (Ev.now _))
  | true =>
    rw [hs] at e1
    obtain ⟨⟨wn, rfl, hw1, hw5⟩, ⟨hn', rfl, hh1, hh5⟩, _, h3⟩ := seaV_nat hs
    simp only [Int.toNat_natCast]
    rw [if_pos trivial]
    refine Ev.bind e1 (Ev.congr (fun k => by rw [if_pos rfl]) (Ev.bind (implShots_ev rfl (place_small_ hw5 hh5) l T hT) ?_))
    exact Ev.bind (first_one (shotsOk (wn * hn') T)) (Ev.now _)
theorem shotsV_zero {w h : Int} {l : List Int} {T : List S93} (hz : shotsV w h l T = 0) : seaV w h l = true ∧ shotsOk (w.toNat * h.toNat) T = true ∧ shotsIn T = true := by
  unfold shotsV at hz
  by_cases hs : seaV w h l = true
  · rw [if_pos hs] at hz
    by_cases hk : shotsOk (w.toNat * h.toNat) T = true
    · refine ⟨hs, hk, ?_⟩
      obtain ⟨⟨wn, rfl, hw1, hw5⟩, ⟨hn', rfl, hh1, hh5⟩, _, h3⟩ := seaV_nat hs
      unfold shotsOk at hk
      simp only [Bool.and_eq_true, Int.toNat_natCast] at hk
      have hin := ((diffL_iff _ _ 0).1 hk.2).1
      have h25 := place_small_ hw5 hh5
      refine List.all_eq_true.2 (fun x hx => ?_)
      have := hin x.f0 (List.mem_map.2 ⟨x, hx, rfl⟩)
      simp only [Bool.and_eq_true, decide_eq_true_eq]
      omega
    · rw [if_neg hk] at hz
      cases hz
  · rw [if_neg hs] at hz
    cases hz
/-- The one pure statement of laws_FnExactBestCell. -/
def laws_FnExactBestCell.Pure : Prop := ∀ (a0_0 : Int) (a0_1 : Int) (l0_2 : List Int) (l1 : List (S95)), (Lit.int .i64 a0_0).wf = true → (Lit.int .i64 a0_1).wf = true → (l0_2.length ≤ maxLen ∧ ∀ y17_ ∈ l0_2, (Lit.int .i64 y17_).wf = true) → (l1.length ≤ maxLen ∧ ∀ y18_ ∈ l1, ((Lit.int .i64 y18_.f0).wf = true ∧ (Lit.int .i64 y18_.f1).wf = true)) → ∃ k, laws_FnExactBestCell.f k a0_0 a0_1 l0_2 l1 = some true
/-- A type's readings as data are values of a kind: what an argument of that type is, whatever it holds. -/
def Rdb {α : Type} (P : Program) (t : TypeId) (d : Kd α) (wf : α → Prop) : Prop :=
  ∀ (H : Type) (enc : TypeId × Value → H) (w : World) (base : Nat) (spare : Nat → Bool) (held : Bool) (fuel : Nat) (cs : List Value) (x : DataW H × List MemPlace),
    DataW.trod enc P w base spare held fuel t cs = some x → ∃ a : α, d.K w a cs ∧ wf a
theorem Rdb.int {P : Program} {t : TypeId} {k : IntKind} (ht : P.underlying t = some (.int k)) : Rdb P t (Kd.int k) (fun n => (Lit.int k n).wf = true) := by
  intro H enc w base spare held fuel cs x h
  obtain ⟨n, rfl, _, hw⟩ := DataW.trod_int ht h
  exact ⟨n, rfl, hw⟩
theorem Rdb.bool {P : Program} {t : TypeId} (ht : P.underlying t = some .bool) : Rdb P t Kd.bool (fun _ => True) := by
  intro H enc w base spare held fuel cs x h
  obtain ⟨n, rfl, _⟩ := DataW.trod_bool ht h
  exact ⟨n, rfl, trivial⟩
theorem Rdb.string {P : Program} {t : TypeId} (ht : P.underlying t = some .string) : Rdb P t Kd.string (fun s => s.size ≤ maxLen) := by
  intro H enc w base spare held fuel cs x h
  obtain ⟨s, rfl, _, hs⟩ := DataW.trod_string ht h
  exact ⟨s, rfl, hs⟩
theorem list_choose {α β : Type} {R : Nat → α → β → Prop} : ∀ (n : Nat) (xs : List α), xs.length = n → (∀ i x, xs[i]? = some x → ∃ y, R i x y) → ∃ ys : List β, ys.length = n ∧ ∀ i x y, xs[i]? = some x → ys[i]? = some y → R i x y := by
  intro n xs
  induction xs generalizing n R with
  | nil =>
    intro hl _
    exact ⟨[], by simpa using hl, by intro i x y h; simp at h⟩
  | cons x xs ih =>
    intro hl h
    obtain ⟨y, hy⟩ := h 0 x rfl
    obtain ⟨ys, h1, h2⟩ := ih (R := fun i a b => R (i + 1) a b) (n - 1) (by simp at hl; omega) (fun i a hi => h (i + 1) a (by simpa using hi))
    refine ⟨y :: ys, by simp at hl ⊢; omega, fun i a b ha hb => ?_⟩
    cases i with
    | zero =>
      simp at ha hb
      subst ha hb
      exact hy
    | succ i => exact h2 i a b (by simpa using ha) (by simpa using hb)
theorem Rdb.slice {α : Type} {P : Program} {t e : TypeId} {d : Kd α} {wf : α → Prop} (ht : P.underlying t = some (.slice e)) (hc : P.cellsOf e = d.sz) (h1 : 0 < d.sz) (r : Rdb P e d wf) :
    Rdb P t (Kd.slice e d) (fun l => l.length ≤ maxLen ∧ ∀ x ∈ l, wf x) := by
  intro H enc w base spare held fuel cs x h
  rcases DataW.trod_slice ht h with ⟨rfl, _⟩ | ⟨a, len, cap, elems, rest, n, _, rfl, _, hb, hl, hm, hlen, hel, _, _⟩
  · exact ⟨[], ⟨none, 0, rfl, by simp, Kd.C_nil _ _⟩, by simp, by simp⟩
  · have each : ∀ i (y : DataW H × List MemPlace), elems[i]? = some y → ∃ b : α, ∃ c, w.cells? base (a.add (i * P.cellsOf e)) (P.cellsOf e) = some c ∧ d.K w b c ∧ wf b := by
      intro i y hy
      have hi : i < len := by have := (List.getElem?_eq_some_iff.1 hy).1; omega
      have h2 := hel i hi
      rw [hy, Option.bind_eq_some_iff] at h2
      obtain ⟨c, hcs, htr⟩ := h2
      obtain ⟨b, hK, hw⟩ := r H enc w base spare held n c y htr
      exact ⟨b, c, hcs, hK, hw⟩
    obtain ⟨xs, hx1, hx2⟩ := list_choose (R := fun i _ (b : α) => ∃ c, w.cells? base (a.add (i * P.cellsOf e)) (P.cellsOf e) = some c ∧ d.K w b c ∧ wf b) len elems hlen each
    have get : ∀ i b, xs[i]? = some b → ∃ c, w.cells? base (a.add (i * P.cellsOf e)) (P.cellsOf e) = some c ∧ d.K w b c ∧ wf b := by
      intro i b hb'
      have hi : i < elems.length := by have := (List.getElem?_eq_some_iff.1 hb').1; omega
      exact hx2 i _ b (List.getElem?_eq_getElem hi) hb'
    refine ⟨xs, ⟨some a, cap, by rw [hx1], by omega, ?_⟩, by omega, fun b hb' => ?_⟩
    · refine ⟨rfl, by rw [hx1]; unfold maxLen at hm; omega, fun hp => ⟨a, rfl, fun j b hj => ?_⟩⟩
      obtain ⟨c, hcs, hK, _⟩ := get j b hj
      obtain ⟨_, hcl, hcell⟩ := World.cells?_some hcs
      refine ⟨c, by rw [hcl, hc], hK, fun i u hu => ?_⟩
      have hi : i < P.cellsOf e := by have := (List.getElem?_eq_some_iff.1 hu).1; omega
      have := hcell i hi
      rw [hu] at this
      rw [Addr.add_add] at this
      rw [← hc]
      exact this
    · obtain ⟨i, hi⟩ := List.mem_iff_getElem?.1 hb'
      obtain ⟨_, _, _, hw⟩ := get i b hi
      exact hw
theorem Rdb.struct2 {α β : Type} {P : Program} {t : TypeId} {f0 f1 : Field} {d0 : Kd α} {d1 : Kd β} {w0 : α → Prop} {w1 : β → Prop} (ht : P.underlying t = some (.struct #[f0, f1])) (o0 : f0.offset = 0) (o1 : f1.offset = P.cellsOf f0.type) (cT : P.cellsOf t = P.cellsOf f0.type + P.cellsOf f1.type)
    (r0 : Rdb P f0.type d0 w0) (r1 : Rdb P f1.type d1 w1) : Rdb P t (Kd.pair d0 d1) (fun x => w0 x.1 ∧ w1 x.2) := by
  intro H enc w base spare held fuel cs x h
  obtain ⟨y0, y1, n, _, hl, h0, h1⟩ := ChangeShapes.trod_struct2 ht h
  rw [o0, List.drop_zero] at h0
  rw [o1, List.take_of_length_le (by rw [List.length_drop, hl, cT]; omega)] at h1
  obtain ⟨a, hK0, hw0⟩ := r0 H enc w base spare held n _ y0 h0
  obtain ⟨b, hK1, hw1⟩ := r1 H enc w base spare held n _ y1 h1
  exact ⟨(a, b), ⟨_, _, (List.take_append_drop _ _).symm, hK0, hK1⟩, hw0, hw1⟩
theorem Rdb.struct3 {α β γ : Type} {P : Program} {t : TypeId} {f0 f1 f2 : Field} {d0 : Kd α} {d1 : Kd β} {d2 : Kd γ} {w0 : α → Prop} {w1 : β → Prop} {w2 : γ → Prop} (ht : P.underlying t = some (.struct #[f0, f1, f2])) (o0 : f0.offset = 0) (o1 : f1.offset = P.cellsOf f0.type)
    (o2 : f2.offset = P.cellsOf f0.type + P.cellsOf f1.type) (cT : P.cellsOf t = P.cellsOf f0.type + P.cellsOf f1.type + P.cellsOf f2.type)
    (r0 : Rdb P f0.type d0 w0) (r1 : Rdb P f1.type d1 w1) (r2 : Rdb P f2.type d2 w2) : Rdb P t (Kd.pair d0 (Kd.pair d1 d2)) (fun x => w0 x.1 ∧ w1 x.2.1 ∧ w2 x.2.2) := by
  intro H enc w base spare held fuel cs x h
  obtain ⟨xs, n, _, _, hl, hxl, hf⟩ := DataW.trod_struct ht h
  match xs, hxl with
  | [y0, y1, y2], _ =>
    have h0 : DataW.trod enc P w base spare held n f0.type ((cs.drop f0.offset).take (P.cellsOf f0.type)) = some y0 := by simpa using hf 0 f0 rfl
    have h1 : DataW.trod enc P w base spare held n f1.type ((cs.drop f1.offset).take (P.cellsOf f1.type)) = some y1 := by simpa using hf 1 f1 rfl
    have h2 : DataW.trod enc P w base spare held n f2.type ((cs.drop f2.offset).take (P.cellsOf f2.type)) = some y2 := by simpa using hf 2 f2 rfl
    rw [o0, List.drop_zero] at h0
    rw [o1] at h1
    rw [o2, List.take_of_length_le (by rw [List.length_drop, hl, cT]; omega)] at h2
    obtain ⟨a, hK0, hw0⟩ := r0 H enc w base spare held n _ y0 h0
    obtain ⟨b, hK1, hw1⟩ := r1 H enc w base spare held n _ y1 h1
    obtain ⟨c, hK2, hw2⟩ := r2 H enc w base spare held n _ y2 h2
    refine ⟨(a, b, c), ⟨_, _, (List.take_append_drop (P.cellsOf f0.type) cs).symm, hK0, _, _, ?_, hK1, hK2⟩, hw0, hw1, hw2⟩
    rw [← List.drop_drop, List.take_append_drop]
theorem Rdb.iso {α β : Type} {P : Program} {t : TypeId} {d : Kd α} {wf : α → Prop} (r : Rdb P t d wf) (f : β → α) (g : α → β) (hfg : ∀ a, f (g a) = a) : Rdb P t (Kd.iso d f) (fun b => wf (f b)) := by
  intro H enc w base spare held fuel cs x h
  obtain ⟨a, hK, hw⟩ := r H enc w base spare held fuel cs x h
  exact ⟨g a, by show d.K w (f (g a)) cs; rw [hfg]; exact hK, by show wf (f (g a)); rw [hfg]; exact hw⟩
theorem Rdb.of {α : Type} {P : Program} {t : TypeId} {d : Kd α} {wf : α → Prop} (r : Rdb P t d wf) {H : Type} {enc : TypeId × Value → H} {w : World} {base : Nat} {spare : Nat → Bool} {held : Bool} {v : Value} {x : DataW H} {ps : List MemPlace}
    (h : DataW.Trod enc P w base spare held t v x ps) : ∃ a : α, d.K w a v.cells.toList ∧ wf a := by
  obtain ⟨fuel, hf⟩ := h
  exact r H enc w base spare held fuel _ _ hf

end Go.Proofs.Ytiancdhpdjmacaa.F
