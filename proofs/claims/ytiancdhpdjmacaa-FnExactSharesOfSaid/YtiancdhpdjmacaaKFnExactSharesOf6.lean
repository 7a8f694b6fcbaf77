-- written by the session's program xp.py over the kit's print program, and by hand; texts joined by pack.py
import Derived.Test.YtiancdhpdjmacaaKFnExactSharesOf5
namespace Go.Proofs.Ytiancdhpdjmacaa.F
open Go.RowKit Go.Proofs.YtiancdhpdjmacaaW.PrintWords Go.Proofs.YtiancdhpdjmacaaW.PrintLast Go.Proofs.YtiancdhpdjmacaaW.PrintMore
attribute [local go_sem] max2_int min2_int max_two min_two max_three min_three max_four min_four   -- for this text's walks alone
set_option linter.unusedVariables false
set_option linter.unusedSimpArgs false

/-! ### laws_FnExactSharesOf: function 12 -/
mutual
def laws_FnExactSharesOf.j0 : Nat → List (S95) → List Int → Int → List (S93) → List Int → Int → Bool → Int → Int → List Int → Int → Int → List Int → Option (Bool)
 | 0, _, _, _, _, _, _, _, _, _, _, _, _, _ => none
 | k + 1, x1, x6, x7, x9, x10, x11, x53, x897000, x897001, x897002, x917000, x917001, x917002 => if x53 = true then (some false) else ((laws_toSea.f k x897000 x897001 x897002).bind fun bt925 => ((laws_eqSea.f k x917000 x917001 x917002 bt925.1 bt925.2.1 bt925.2.2).bind fun t930 => (if t930 = true then ((laws_toShotS.f k x1).bind fun t931 => ((laws_eqShotS.f k x9 t931).bind fun t934 => (if t934 = true then ((laws_markSea.f k x917000 x917001 x917002 1).bind fun bt935 => ((laws_markShotS.f k x9 bt935.1).bind fun bt937 => (if bt937.1 < 0 then (laws_FnExactSharesOf.j1 k x1 x6 x7 x10 true x897000 x897001 x897002) else ((laws_eqInt64S.f k x10 x6).bind fun t939 => (if t939 = true then (laws_FnExactSharesOf.j1 k x1 x6 x7 x10 (x11 != x7) x897000 x897001 x897002) else (laws_FnExactSharesOf.j1 k x1 x6 x7 x10 true x897000 x897001 x897002)))))) else (some false)))) else (some false))))
def laws_FnExactSharesOf.j1 : Nat → List (S95) → List Int → Int → List Int → Bool → Int → Int → List Int → Option (Bool)
 | 0, _, _, _, _, _, _, _, _ => none
 | k + 1, x1, x6, x7, x10, x82, x897000, x897001, x897002 => if x82 = true then (some false) else ((laws_markInt64S.f k x10 1).bind fun bt940 => ((laws_heldInt64S.f k bt940.2 1).bind fun t942 => (if t942 < 0 then (some false) else (if t942 = bt940.1 then ((laws_toSea.f k x897000 x897001 x897002).bind fun bt943 => ((laws_toShotS.f k x1).bind fun t948 => ((impl_SharesOf.f k bt943.1 bt943.2.1 bt943.2.2 t948).bind fun bt951 => ((laws_eqInt64S.f k bt951.1 x6).bind fun t955 => (if t955 = true then (laws_FnExactSharesOf.j2 k bt940.2 bt940.1 (bt951.2 != x7)) else (laws_FnExactSharesOf.j2 k bt940.2 bt940.1 true)))))) else (some false)))))
def laws_FnExactSharesOf.j2 : Nat → List Int → Int → Bool → Option (Bool)
 | 0, _, _, _ => none
 | k + 1, x10, x13, x110 => if x110 = true then (some false) else ((laws_heldInt64S.f k x10 1).bind fun t956 => (if t956 < 0 then (some false) else (if t956 = x13 then (some true) else (some false))))
end
def laws_FnExactSharesOf.f (k : Nat) (a0_0 : Int) (a0_1 : Int) (l0_2 : List Int) (l1 : List (S95)) : Option (Bool) := (laws_szSea.f a0_0 a0_1 l0_2 1048576).bind fun t897 => (if t897 < 0 then (some true) else ((laws_szShotS.f l1 t897).bind fun t898 => (if t898 < 0 then (some true) else ((laws_toSea.f k a0_0 a0_1 l0_2).bind fun bt899 => ((laws_toShotS.f k l1).bind fun t904 => ((spec_SharesOf.f k bt899.1 bt899.2.1 bt899.2.2 t904).bind fun bt907 => ((laws_toSea.f k a0_0 a0_1 l0_2).bind fun bt911 => ((laws_toShotS.f k l1).bind fun t917 => ((impl_SharesOf.f k bt911.1 bt911.2.1 bt911.2.2 t917).bind fun bt920 => ((laws_eqInt64S.f k bt920.1 bt907.1).bind fun t924 => (if t924 = true then (laws_FnExactSharesOf.j0 k l1 bt907.1 bt907.2 t917 bt920.1 bt920.2 (bt920.2 != bt907.2) a0_0 a0_1 l0_2 bt911.1 bt911.2.1 bt911.2.2) else (laws_FnExactSharesOf.j0 k l1 bt907.1 bt907.2 t917 bt920.1 bt920.2 true a0_0 a0_1 l0_2 bt911.1 bt911.2.1 bt911.2.2))))))))))))
set_option maxHeartbeats 8000000 in
set_option maxRecDepth 100000 in
theorem laws_FnExactSharesOf.calls (k : Nat) (a0_0 : Int) (a0_1 : Int) (A0_2 : Option Addr) (c0_2 : Nat) (l0_2 : List Int) (A1 : Option Addr) (c1 : Nat) (l1 : List (S95)) (r : Bool) (w : World) (hr0_2 : Kd.C (Kd.int .i64) w A0_2 l0_2.length l0_2) (hc0_2 : l0_2.length ≤ c0_2) (hr1 : Kd.C k95 w A1 l1.length l1) (hc1 : l1.length ≤ c1) (h : laws_FnExactSharesOf.f k a0_0 a0_1 l0_2 l1 = some true) :
  Calls Try.prog 12 #[.agg #[.int .i64 a0_0, .int .i64 a0_1, .slice A0_2 l0_2.length c0_2], .slice A1 l1.length c1] w fun e w' => e = .returned (.bool true) ∧ Below w.heap.size w w' := by
 have hu24 := Try.underlying24
 have hu28 := Try.underlying28
 have HR0_2 := Aside0.mk hr0_2
 have HC0_2 := Aside0.mk hc0_2
 clear hr0_2 hc0_2
 have HR1 := Aside0.mk hr1
 have HC1 := Aside0.mk hc1
 clear hr1 hc1
 have HB := Aside0.mk (Below.refl w.heap.size w)
 have H : ((laws_szSea.f a0_0 a0_1 l0_2 1048576).bind fun t897 => (if t897 < 0 then (some true) else ((laws_szShotS.f l1 t897).bind fun t898 => (if t898 < 0 then (some true) else ((laws_toSea.f k a0_0 a0_1 l0_2).bind fun bt899 => ((laws_toShotS.f k l1).bind fun t904 => ((spec_SharesOf.f k bt899.1 bt899.2.1 bt899.2.2 t904).bind fun bt907 => ((laws_toSea.f k a0_0 a0_1 l0_2).bind fun bt911 => ((laws_toShotS.f k l1).bind fun t917 => ((impl_SharesOf.f k bt911.1 bt911.2.1 bt911.2.2 t917).bind fun bt920 => ((laws_eqInt64S.f k bt920.1 bt907.1).bind fun t924 => (if t924 = true then (laws_FnExactSharesOf.j0 k l1 bt907.1 bt907.2 t917 bt920.1 bt920.2 (bt920.2 != bt907.2) a0_0 a0_1 l0_2 bt911.1 bt911.2.1 bt911.2.2) else (laws_FnExactSharesOf.j0 k l1 bt907.1 bt907.2 t917 bt920.1 bt920.2 true a0_0 a0_1 l0_2 bt911.1 bt911.2.1 bt911.2.2))))))))))))) = some true := h
 clear h
 replace H := Option.bind_eq_some_iff.mp H
 obtain ⟨t897, A30, H⟩ := H
 replace H : (if t897 < 0 then (some true) else ((laws_szShotS.f l1 t897).bind fun t898 => (if t898 < 0 then (some true) else ((laws_toSea.f k a0_0 a0_1 l0_2).bind fun bt899 => ((laws_toShotS.f k l1).bind fun t904 => ((spec_SharesOf.f k bt899.1 bt899.2.1 bt899.2.2 t904).bind fun bt907 => ((laws_toSea.f k a0_0 a0_1 l0_2).bind fun bt911 => ((laws_toShotS.f k l1).bind fun t917 => ((impl_SharesOf.f k bt911.1 bt911.2.1 bt911.2.2 t917).bind fun bt920 => ((laws_eqInt64S.f k bt920.1 bt907.1).bind fun t924 => (if t924 = true then (laws_FnExactSharesOf.j0 k l1 bt907.1 bt907.2 t917 bt920.1 bt920.2 (bt920.2 != bt907.2) a0_0 a0_1 l0_2 bt911.1 bt911.2.1 bt911.2.2) else (laws_FnExactSharesOf.j0 k l1 bt907.1 bt907.2 t917 bt920.1 bt920.2 true a0_0 a0_1 l0_2 bt911.1 bt911.2.1 bt911.2.2)))))))))))) = some true := H
 have A3 := Aside0.mk A30
 clear A30
 by_cases c4 : t897 < 0
 ·rw [if_pos c4] at H
  have c4b0 : decide (t897 < 0) = true := decide_eq_true c4
  clear c4
  clear H
  go_enter Try.func12, Try.ntmps12
  go_wp2_with (first | ((with_reducible refine gate_dst (N := 2) rfl ?_); refine box_event ?hg (N := 2) ?hd (cs := #[.int .i64 a0_0, .int .i64 a0_1, .slice A0_2 l0_2.length c0_2]) (t := 24) ?hr ?_; (case hd => rfl); (case hg => rfl); (case hr => first | (go_simp; done) | (go_simp; rfl)); intro gb896 hg w5 hbox hb; have n0_ := Aside0.mk (below_step hb_ hb); have n1_ := Aside0.mk (hbox); have n2_ := Aside0.mk ((by rw [hg]; exact (below_size hb_) : w.heap.size ≤ gb896)); have n3_ := Aside0.mk ((by rw [hg]; exact (below_size hb_) : w.heap.size ≤ gb896)); clear HB; have HB := n0_; have BK896 := n1_; have GW896 := n2_; have GE896 := n3_; clear n0_ n1_ n2_ n3_; clear hb hbox hg; have hcz6_0 : w5.cell? ⟨gb896, 0, none⟩ = some (.int .i64 a0_0) := (blk_cell BK896.out 0).trans rfl; have hcz6_1 : w5.cell? ⟨gb896, 1, none⟩ = some (.int .i64 a0_1) := (blk_cell BK896.out 1).trans rfl; have hcz6_2 : w5.cell? ⟨gb896, 2, none⟩ = some (.slice A0_2 l0_2.length c0_2) := (blk_cell BK896.out 2).trans rfl; have hfz6_0 := blk_frozen BK896.out 0; have hfz6_1 := blk_frozen BK896.out 1; have hfz6_2 := blk_frozen BK896.out 2) | ((with_reducible refine gate_callee (f := 15) rfl ?_); refine goesA_ (some 19) rfl rfl Try.func15 (by kernel_rfl) rfl #[.agg #[.int .i64 a0_0, .int .i64 a0_1, .slice A0_2 l0_2.length c0_2], .int .i64 1048576] rfl ?_; (with_reducible refine (laws_szSea.calls a0_0 a0_1 _ _ l0_2 1048576 t897 _ ?side1 ?side2 A3.out).mono ?_); (case side1 => repeat (first | exact (Kd.C_below HR0_2.out HB.out) | (with_reducible refine Kd.C_alloc ?_ _) | (with_reducible refine Kd.C_drewN ?_ _) | (with_reducible refine Kd.C_drew ?_))); (case side2 => exact HC0_2.out); rintro e w7 ⟨rfl, hb⟩; refine ⟨_, rfl, ?_⟩; have n0_ := Aside0.mk (blk_below (g := gb896) (o := .cells #[.int .i64 a0_0, .int .i64 a0_1, .slice A0_2 l0_2.length c0_2] 24 (0, 0)) (by (with_reducible repeat (first | refine blk_drewN ?_ _ | refine blk_drew ?_ | refine blk_alloc ?_ _)); exact BK896.out) hb); have n1_ := Aside0.mk (below_step (by repeat (first | (with_reducible first | exact HB.out | apply below_alloc | apply pw_below_drewN | apply below_drew1 | refine below_set ?_ GE896.out) | exact HB.out)) hb); clear BK896; clear HB; have BK896 := n0_; have HB := n1_; clear n0_ n1_; (try clear hb); (try clear hb2); (try clear hk); (try clear hi)))
  go_ret
  exact ⟨by first | rfl | (simp [errW_none, errW_some] <;> rfl) | (simp [*, errW_none, errW_some] <;> rfl), by repeat (first | (with_reducible first | exact HB.out | apply below_alloc | apply pw_below_drewN | apply below_drew1 | refine below_set ?_ GE896.out) | exact HB.out)⟩
 ·rw [if_neg c4] at H
  have c4b0 : decide (t897 < 0) = false := decide_eq_false c4
  clear c4
  replace H := Option.bind_eq_some_iff.mp H
  obtain ⟨t898, A80, H⟩ := H
  replace H : (if t898 < 0 then (some true) else ((laws_toSea.f k a0_0 a0_1 l0_2).bind fun bt899 => ((laws_toShotS.f k l1).bind fun t904 => ((spec_SharesOf.f k bt899.1 bt899.2.1 bt899.2.2 t904).bind fun bt907 => ((laws_toSea.f k a0_0 a0_1 l0_2).bind fun bt911 => ((laws_toShotS.f k l1).bind fun t917 => ((impl_SharesOf.f k bt911.1 bt911.2.1 bt911.2.2 t917).bind fun bt920 => ((laws_eqInt64S.f k bt920.1 bt907.1).bind fun t924 => (if t924 = true then (laws_FnExactSharesOf.j0 k l1 bt907.1 bt907.2 t917 bt920.1 bt920.2 (bt920.2 != bt907.2) a0_0 a0_1 l0_2 bt911.1 bt911.2.1 bt911.2.2) else (laws_FnExactSharesOf.j0 k l1 bt907.1 bt907.2 t917 bt920.1 bt920.2 true a0_0 a0_1 l0_2 bt911.1 bt911.2.1 bt911.2.2)))))))))) = some true := H
  have A8 := Aside0.mk A80
  clear A80
  by_cases c9 : t898 < 0
  ·rw [if_pos c9] at H
   have c9b0 : decide (t898 < 0) = true := decide_eq_true c9
   clear c9
   clear H
   go_enter Try.func12, Try.ntmps12
   go_wp2_with (first | ((with_reducible refine gate_dst (N := 2) rfl ?_); refine box_event ?hg (N := 2) ?hd (cs := #[.int .i64 a0_0, .int .i64 a0_1, .slice A0_2 l0_2.length c0_2]) (t := 24) ?hr ?_; (case hd => rfl); (case hg => rfl); (case hr => first | (go_simp; done) | (go_simp; rfl)); intro gb896 hg w10 hbox hb; have n0_ := Aside0.mk (below_step hb_ hb); have n1_ := Aside0.mk (hbox); have n2_ := Aside0.mk ((by rw [hg]; exact (below_size hb_) : w.heap.size ≤ gb896)); have n3_ := Aside0.mk ((by rw [hg]; exact (below_size hb_) : w.heap.size ≤ gb896)); clear HB; have HB := n0_; have BK896 := n1_; have GW896 := n2_; have GE896 := n3_; clear n0_ n1_ n2_ n3_; clear hb hbox hg; have hcz11_0 : w10.cell? ⟨gb896, 0, none⟩ = some (.int .i64 a0_0) := (blk_cell BK896.out 0).trans rfl; have hcz11_1 : w10.cell? ⟨gb896, 1, none⟩ = some (.int .i64 a0_1) := (blk_cell BK896.out 1).trans rfl; have hcz11_2 : w10.cell? ⟨gb896, 2, none⟩ = some (.slice A0_2 l0_2.length c0_2) := (blk_cell BK896.out 2).trans rfl; have hfz11_0 := blk_frozen BK896.out 0; have hfz11_1 := blk_frozen BK896.out 1; have hfz11_2 := blk_frozen BK896.out 2) | ((with_reducible refine gate_callee (f := 15) rfl ?_); refine goesA_ (some 19) rfl rfl Try.func15 (by kernel_rfl) rfl #[.agg #[.int .i64 a0_0, .int .i64 a0_1, .slice A0_2 l0_2.length c0_2], .int .i64 1048576] rfl ?_; (with_reducible refine (laws_szSea.calls a0_0 a0_1 _ _ l0_2 1048576 t897 _ ?side1 ?side2 A3.out).mono ?_); (case side1 => repeat (first | exact (Kd.C_below HR0_2.out HB.out) | (with_reducible refine Kd.C_alloc ?_ _) | (with_reducible refine Kd.C_drewN ?_ _) | (with_reducible refine Kd.C_drew ?_))); (case side2 => exact HC0_2.out); rintro e w12 ⟨rfl, hb⟩; refine ⟨_, rfl, ?_⟩; have n0_ := Aside0.mk (blk_below (g := gb896) (o := .cells #[.int .i64 a0_0, .int .i64 a0_1, .slice A0_2 l0_2.length c0_2] 24 (0, 0)) (by (with_reducible repeat (first | refine blk_drewN ?_ _ | refine blk_drew ?_ | refine blk_alloc ?_ _)); exact BK896.out) hb); have n1_ := Aside0.mk (below_step (by repeat (first | (with_reducible first | exact HB.out | apply below_alloc | apply pw_below_drewN | apply below_drew1 | refine below_set ?_ GE896.out) | exact HB.out)) hb); clear BK896; clear HB; have BK896 := n0_; have HB := n1_; clear n0_ n1_; (try clear hb); (try clear hb2); (try clear hk); (try clear hi)) | ((with_reducible refine gate_callee (f := 40) rfl ?_); refine goesA_ (some 24) rfl rfl Try.func40 (by kernel_rfl) rfl #[.slice A1 l1.length c1, .int .i64 t897] rfl ?_; (with_reducible refine (laws_szShotS.calls _ _ l1 t897 t898 _ ?side1 ?side2 A8.out).mono ?_); (case side1 => repeat (first | exact (Kd.C_below HR1.out HB.out) | (with_reducible refine Kd.C_alloc ?_ _) | (with_reducible refine Kd.C_drewN ?_ _) | (with_reducible refine Kd.C_drew ?_))); (case side2 => exact HC1.out); rintro e w' ⟨rfl, ⟨nd, rfl⟩⟩; refine ⟨_, rfl, ?_⟩))
   go_ret
   exact ⟨by first | rfl | (simp [errW_none, errW_some] <;> rfl) | (simp [*, errW_none, errW_some] <;> rfl), by repeat (first | (with_reducible first | exact HB.out | apply below_alloc | apply pw_below_drewN | apply below_drew1 | refine below_set ?_ GE896.out) | exact HB.out)⟩
  ·rw [if_neg c9] at H
   have c9b0 : decide (t898 < 0) = false := decide_eq_false c9
   clear c9
   replace H := Option.bind_eq_some_iff.mp H
   obtain ⟨⟨t899, t900, t901⟩, A130, H⟩ := H
   replace H : ((laws_toShotS.f k l1).bind fun t904 => ((spec_SharesOf.f k t899 t900 t901 t904).bind fun bt907 => ((laws_toSea.f k a0_0 a0_1 l0_2).bind fun bt911 => ((laws_toShotS.f k l1).bind fun t917 => ((impl_SharesOf.f k bt911.1 bt911.2.1 bt911.2.2 t917).bind fun bt920 => ((laws_eqInt64S.f k bt920.1 bt907.1).bind fun t924 => (if t924 = true then (laws_FnExactSharesOf.j0 k l1 bt907.1 bt907.2 t917 bt920.1 bt920.2 (bt920.2 != bt907.2) a0_0 a0_1 l0_2 bt911.1 bt911.2.1 bt911.2.2) else (laws_FnExactSharesOf.j0 k l1 bt907.1 bt907.2 t917 bt920.1 bt920.2 true a0_0 a0_1 l0_2 bt911.1 bt911.2.1 bt911.2.2)))))))) = some true := H
   have A13 := Aside0.mk A130
   clear A130
   replace H := Option.bind_eq_some_iff.mp H
   obtain ⟨t904, A140, H⟩ := H
   replace H : ((spec_SharesOf.f k t899 t900 t901 t904).bind fun bt907 => ((laws_toSea.f k a0_0 a0_1 l0_2).bind fun bt911 => ((laws_toShotS.f k l1).bind fun t917 => ((impl_SharesOf.f k bt911.1 bt911.2.1 bt911.2.2 t917).bind fun bt920 => ((laws_eqInt64S.f k bt920.1 bt907.1).bind fun t924 => (if t924 = true then (laws_FnExactSharesOf.j0 k l1 bt907.1 bt907.2 t917 bt920.1 bt920.2 (bt920.2 != bt907.2) a0_0 a0_1 l0_2 bt911.1 bt911.2.1 bt911.2.2) else (laws_FnExactSharesOf.j0 k l1 bt907.1 bt907.2 t917 bt920.1 bt920.2 true a0_0 a0_1 l0_2 bt911.1 bt911.2.1 bt911.2.2))))))) = some true := H
   have A14 := Aside0.mk A140
   clear A140
   replace H := Option.bind_eq_some_iff.mp H
   obtain ⟨⟨t907, t910⟩, A150, H⟩ := H
   replace H : ((laws_toSea.f k a0_0 a0_1 l0_2).bind fun bt911 => ((laws_toShotS.f k l1).bind fun t917 => ((impl_SharesOf.f k bt911.1 bt911.2.1 bt911.2.2 t917).bind fun bt920 => ((laws_eqInt64S.f k bt920.1 t907).bind fun t924 => (if t924 = true then (laws_FnExactSharesOf.j0 k l1 t907 t910 t917 bt920.1 bt920.2 (bt920.2 != t910) a0_0 a0_1 l0_2 bt911.1 bt911.2.1 bt911.2.2) else (laws_FnExactSharesOf.j0 k l1 t907 t910 t917 bt920.1 bt920.2 true a0_0 a0_1 l0_2 bt911.1 bt911.2.1 bt911.2.2)))))) = some true := H
   have A15 := Aside0.mk A150
   clear A150
   replace H := Option.bind_eq_some_iff.mp H
   obtain ⟨⟨t911, t912, t913⟩, A160, H⟩ := H
   replace H : ((laws_toShotS.f k l1).bind fun t917 => ((impl_SharesOf.f k t911 t912 t913 t917).bind fun bt920 => ((laws_eqInt64S.f k bt920.1 t907).bind fun t924 => (if t924 = true then (laws_FnExactSharesOf.j0 k l1 t907 t910 t917 bt920.1 bt920.2 (bt920.2 != t910) a0_0 a0_1 l0_2 t911 t912 t913) else (laws_FnExactSharesOf.j0 k l1 t907 t910 t917 bt920.1 bt920.2 true a0_0 a0_1 l0_2 t911 t912 t913))))) = some true := H
   have A16 := Aside0.mk A160
   clear A160
   replace H := Option.bind_eq_some_iff.mp H
   obtain ⟨t917, A170, H⟩ := H
   replace H : ((impl_SharesOf.f k t911 t912 t913 t917).bind fun bt920 => ((laws_eqInt64S.f k bt920.1 t907).bind fun t924 => (if t924 = true then (laws_FnExactSharesOf.j0 k l1 t907 t910 t917 bt920.1 bt920.2 (bt920.2 != t910) a0_0 a0_1 l0_2 t911 t912 t913) else (laws_FnExactSharesOf.j0 k l1 t907 t910 t917 bt920.1 bt920.2 true a0_0 a0_1 l0_2 t911 t912 t913)))) = some true := H
   have A17 := Aside0.mk A170
   clear A170
   replace H := Option.bind_eq_some_iff.mp H
   obtain ⟨⟨t920, t923⟩, A180, H⟩ := H
   replace H : ((laws_eqInt64S.f k t920 t907).bind fun t924 => (if t924 = true then (laws_FnExactSharesOf.j0 k l1 t907 t910 t917 t920 t923 (t923 != t910) a0_0 a0_1 l0_2 t911 t912 t913) else (laws_FnExactSharesOf.j0 k l1 t907 t910 t917 t920 t923 true a0_0 a0_1 l0_2 t911 t912 t913))) = some true := H
   have A18 := Aside0.mk A180
   clear A180
   have HC19 := Aside0.mk H
   clear H
   go_enter Try.func12, Try.ntmps12
   go_upto_region 12 with (first | ((with_reducible refine gate_dst (N := 2) rfl ?_); refine box_event ?hg (N := 2) ?hd (cs := #[.int .i64 a0_0, .int .i64 a0_1, .slice A0_2 l0_2.length c0_2]) (t := 24) ?hr ?_; (case hd => rfl); (case hg => rfl); (case hr => first | (go_simp; done) | (go_simp; rfl)); intro gb896 hg w20 hbox hb; have n0_ := Aside0.mk (below_step hb_ hb); have n1_ := Aside0.mk (hbox); have n2_ := Aside0.mk ((by rw [hg]; exact (below_size hb_) : w.heap.size ≤ gb896)); have n3_ := Aside0.mk ((by rw [hg]; exact (below_size hb_) : w.heap.size ≤ gb896)); clear HB; have HB := n0_; have BK896 := n1_; have GW896 := n2_; have GE896 := n3_; clear n0_ n1_ n2_ n3_; clear hb hbox hg; have hcz21_0 : w20.cell? ⟨gb896, 0, none⟩ = some (.int .i64 a0_0) := (blk_cell BK896.out 0).trans rfl; have hcz21_1 : w20.cell? ⟨gb896, 1, none⟩ = some (.int .i64 a0_1) := (blk_cell BK896.out 1).trans rfl; have hcz21_2 : w20.cell? ⟨gb896, 2, none⟩ = some (.slice A0_2 l0_2.length c0_2) := (blk_cell BK896.out 2).trans rfl; have hfz21_0 := blk_frozen BK896.out 0; have hfz21_1 := blk_frozen BK896.out 1; have hfz21_2 := blk_frozen BK896.out 2) | ((with_reducible refine gate_callee (f := 15) rfl ?_); refine goesA_ (some 19) rfl rfl Try.func15 (by kernel_rfl) rfl #[.agg #[.int .i64 a0_0, .int .i64 a0_1, .slice A0_2 l0_2.length c0_2], .int .i64 1048576] rfl ?_; (with_reducible refine (laws_szSea.calls a0_0 a0_1 _ _ l0_2 1048576 t897 _ ?side1 ?side2 A3.out).mono ?_); (case side1 => repeat (first | exact (Kd.C_below HR0_2.out HB.out) | (with_reducible refine Kd.C_alloc ?_ _) | (with_reducible refine Kd.C_drewN ?_ _) | (with_reducible refine Kd.C_drew ?_))); (case side2 => exact HC0_2.out); rintro e w22 ⟨rfl, hb⟩; refine ⟨_, rfl, ?_⟩; have n0_ := Aside0.mk (blk_below (g := gb896) (o := .cells #[.int .i64 a0_0, .int .i64 a0_1, .slice A0_2 l0_2.length c0_2] 24 (0, 0)) (by (with_reducible repeat (first | refine blk_drewN ?_ _ | refine blk_drew ?_ | refine blk_alloc ?_ _)); exact BK896.out) hb); have n1_ := Aside0.mk (below_step (by repeat (first | (with_reducible first | exact HB.out | apply below_alloc | apply pw_below_drewN | apply below_drew1 | refine below_set ?_ GE896.out) | exact HB.out)) hb); clear BK896; clear HB; have BK896 := n0_; have HB := n1_; clear n0_ n1_; (try clear hb); (try clear hb2); (try clear hk); (try clear hi)) | ((with_reducible refine gate_callee (f := 40) rfl ?_); refine goesA_ (some 24) rfl rfl Try.func40 (by kernel_rfl) rfl #[.slice A1 l1.length c1, .int .i64 t897] rfl ?_; (with_reducible refine (laws_szShotS.calls _ _ l1 t897 t898 _ ?side1 ?side2 A8.out).mono ?_); (case side1 => repeat (first | exact (Kd.C_below HR1.out HB.out) | (with_reducible refine Kd.C_alloc ?_ _) | (with_reducible refine Kd.C_drewN ?_ _) | (with_reducible refine Kd.C_drew ?_))); (case side2 => exact HC1.out); rintro e w' ⟨rfl, ⟨nd, rfl⟩⟩; refine ⟨_, rfl, ?_⟩; (try (rw [drewN_self w22]; generalize hq_ : World.drewN w22 _ = w22; have n0_ : Aside0 (w22.heap[gb896]? = some (.cells #[.int .i64 a0_0, .int .i64 a0_1, .slice A0_2 l0_2.length c0_2] 24 (0, 0))) := ⟨by rw [← hq_]; exact (by (with_reducible repeat (first | refine blk_drewN ?_ _ | refine blk_drew ?_ | refine blk_alloc ?_ _)); exact BK896.out)⟩; have n1_ : Aside0 (Below w.heap.size w w22) := ⟨by rw [← hq_]; exact (by repeat (first | (with_reducible first | exact HB.out | apply below_alloc | apply pw_below_drewN | apply below_drew1 | refine below_set ?_ GE896.out) | exact HB.out))⟩; clear BK896 HB hq_; have BK896 := n0_; have HB := n1_; clear n0_ n1_)); have hcz23_0 : w22.cell? ⟨gb896, 0, none⟩ = some (.int .i64 a0_0) := (blk_cell BK896.out 0).trans rfl; have hcz23_1 : w22.cell? ⟨gb896, 1, none⟩ = some (.int .i64 a0_1) := (blk_cell BK896.out 1).trans rfl; have hcz23_2 : w22.cell? ⟨gb896, 2, none⟩ = some (.slice A0_2 l0_2.length c0_2) := (blk_cell BK896.out 2).trans rfl; have hfz23_0 := blk_frozen BK896.out 0; have hfz23_1 := blk_frozen BK896.out 1; have hfz23_2 := blk_frozen BK896.out 2) | ((with_reducible refine gate_callee (f := 17) rfl ?_); refine goesA_ (some 29) rfl rfl Try.func17 (by kernel_rfl) rfl #[.agg #[.int .i64 a0_0, .int .i64 a0_1, .slice A0_2 l0_2.length c0_2]] rfl ?_; (with_reducible refine (laws_toSea.calls k a0_0 a0_1 _ _ l0_2 t899 t900 t901 _ ?side1 ?side2 A13.out).mono ?_); (case side1 => repeat (first | exact (Kd.C_below HR0_2.out HB.out) | (with_reducible refine Kd.C_alloc ?_ _) | (with_reducible refine Kd.C_drewN ?_ _) | (with_reducible refine Kd.C_drew ?_))); (case side2 => exact HC0_2.out); rintro e w24 ⟨v902, rfl, ho0, hb⟩; refine ⟨_, rfl, ?_⟩; have n0_ := Aside0.mk (Kd.R_lower ho0 (below_size (by repeat (first | (with_reducible first | exact HB.out | apply below_alloc | apply pw_below_drewN | apply below_drew1 | refine below_set ?_ GE896.out) | exact HB.out)))); have n1_ := Aside0.mk (blk_below (g := gb896) (o := .cells #[.int .i64 a0_0, .int .i64 a0_1, .slice A0_2 l0_2.length c0_2] 24 (0, 0)) (by (with_reducible repeat (first | refine blk_drewN ?_ _ | refine blk_drew ?_ | refine blk_alloc ?_ _)); exact BK896.out) hb); have n2_ := Aside0.mk (below_step (by repeat (first | (with_reducible first | exact HB.out | apply below_alloc | apply pw_below_drewN | apply below_drew1 | refine below_set ?_ GE896.out) | exact HB.out)) hb); clear BK896; clear HB; have HO903 := n0_; have BK896 := n1_; have HB := n2_; clear n0_ n1_ n2_; (try clear hb); (try clear hb2); (try clear hk); (try clear hi); (try clear ho0)) | ((with_reducible refine gate_callee (f := 42) rfl ?_); refine goesA_ (some 31) rfl rfl Try.func42 (by kernel_rfl) rfl #[.slice A1 l1.length c1] rfl ?_; (with_reducible refine (laws_toShotS.calls k _ _ l1 t904 _ ?side1 ?side2 A14.out).mono ?_); (case side1 => repeat (first | exact (Kd.C_below HR1.out HB.out) | (with_reducible refine Kd.C_alloc ?_ _) | (with_reducible refine Kd.C_drewN ?_ _) | (with_reducible refine Kd.C_drew ?_))); (case side2 => exact HC1.out); rintro e w25 ⟨v905, rfl, ho0, hb⟩; refine ⟨_, rfl, ?_⟩; have n0_ := Aside0.mk (Kd.R_below (by (with_reducible repeat (first | apply Kd.R_alloc | apply Kd.R_drewN | apply Kd.R_drew)); exact HO903.out) hb); have n1_ := Aside0.mk (Kd.R_lower ho0 (below_size (by repeat (first | (with_reducible first | exact HB.out | apply below_alloc | apply pw_below_drewN | apply below_drew1 | refine below_set ?_ GE896.out) | exact HB.out)))); have n2_ := Aside0.mk (blk_below (g := gb896) (o := .cells #[.int .i64 a0_0, .int .i64 a0_1, .slice A0_2 l0_2.length c0_2] 24 (0, 0)) (by (with_reducible repeat (first | refine blk_drewN ?_ _ | refine blk_drew ?_ | refine blk_alloc ?_ _)); exact BK896.out) hb); have n3_ := Aside0.mk (below_step (by repeat (first | (with_reducible first | exact HB.out | apply below_alloc | apply pw_below_drewN | apply below_drew1 | refine below_set ?_ GE896.out) | exact HB.out)) hb); clear HO903; clear BK896; clear HB; have HO903 := n0_; have HO906 := n1_; have BK896 := n2_; have HB := n3_; clear n0_ n1_ n2_ n3_; (try clear hb); (try clear hb2); (try clear hk); (try clear hi); (try clear ho0); obtain ⟨Ao26, co26, eo26⟩ := Kd.R_slice HO903.out; subst eo26; obtain ⟨Ao27, co27, eo27⟩ := Kd.R_slice HO906.out; subst eo27) | ((with_reducible refine gate_callee (f := 47) rfl ?_); refine goesA_ (some 32) rfl rfl Try.func47 (by kernel_rfl) rfl #[.agg #[.int .i64 t899, .int .i64 t900, .slice Ao26 t901.length co26], .slice Ao27 t904.length co27] rfl ?_; (with_reducible refine (spec_SharesOf.calls k t899 t900 _ _ t901 _ _ t904 t907 t910 _ ?side1 ?side2 ?side3 ?side4 A15.out).mono ?_); (case side1 => repeat (first | exact (Kd.R_reads' HO903.out).2.2 | (with_reducible refine Kd.C_alloc ?_ _) | (with_reducible refine Kd.C_drewN ?_ _) | (with_reducible refine Kd.C_drew ?_))); (case side2 => exact (Kd.R_reads' HO903.out).2.1); (case side3 => repeat (first | exact (Kd.R_reads' HO906.out).2.2 | (with_reducible refine Kd.C_alloc ?_ _) | (with_reducible refine Kd.C_drewN ?_ _) | (with_reducible refine Kd.C_drew ?_))); (case side4 => exact (Kd.R_reads' HO906.out).2.1); rintro e w28 ⟨v908, rfl, ho0, hb⟩; refine ⟨_, rfl, ?_⟩; have n0_ := Aside0.mk (Kd.R_elder' (by (with_reducible repeat (first | apply Kd.R_alloc | apply Kd.R_drewN | apply Kd.R_drew)); exact HO903.out) (Kd.R_base ho0) hb); have n1_ := Aside0.mk (Kd.R_below (by (with_reducible repeat (first | apply Kd.R_alloc | apply Kd.R_drewN | apply Kd.R_drew)); exact HO906.out) hb); have n2_ := Aside0.mk (Kd.R_lower (Kd.R_new' ho0 (Kd.R_lt (by (with_reducible repeat (first | apply Kd.R_alloc | apply Kd.R_drewN | apply Kd.R_drew)); exact HO903.out))) (below_size (by repeat (first | (with_reducible first | exact HB.out | apply below_alloc | apply pw_below_drewN | apply below_drew1 | refine below_set ?_ GE896.out) | exact HB.out)))); have n3_ := Aside0.mk (blk_below (g := gb896) (o := .cells #[.int .i64 a0_0, .int .i64 a0_1, .slice A0_2 l0_2.length c0_2] 24 (0, 0)) (by (with_reducible repeat (first | refine blk_drewN ?_ _ | refine blk_drew ?_ | refine blk_alloc ?_ _)); exact BK896.out) hb); have n4_ := Aside0.mk (below_step (by repeat (first | (with_reducible first | exact HB.out | apply below_alloc | apply pw_below_drewN | apply below_drew1 | refine below_set ?_ GE896.out) | exact HB.out)) hb); clear HO903; clear HO906; clear BK896; clear HB; have HO903 := n0_; have HO906 := n1_; have HO909 := n2_; have BK896 := n3_; have HB := n4_; clear n0_ n1_ n2_ n3_ n4_; (try clear hb); (try clear hb2); (try clear hk); (try clear hi); (try clear ho0); have hcz29_0 : w28.cell? ⟨gb896, 0, none⟩ = some (.int .i64 a0_0) := (blk_cell BK896.out 0).trans rfl; have hcz29_1 : w28.cell? ⟨gb896, 1, none⟩ = some (.int .i64 a0_1) := (blk_cell BK896.out 1).trans rfl; have hcz29_2 : w28.cell? ⟨gb896, 2, none⟩ = some (.slice A0_2 l0_2.length c0_2) := (blk_cell BK896.out 2).trans rfl; have hfz29_0 := blk_frozen BK896.out 0; have hfz29_1 := blk_frozen BK896.out 1; have hfz29_2 := blk_frozen BK896.out 2) | ((with_reducible refine gate_callee (f := 17) rfl ?_); refine goesA_ (some 36) rfl rfl Try.func17 (by kernel_rfl) rfl #[.agg #[.int .i64 a0_0, .int .i64 a0_1, .slice A0_2 l0_2.length c0_2]] rfl ?_; (with_reducible refine (laws_toSea.calls k a0_0 a0_1 _ _ l0_2 t911 t912 t913 _ ?side1 ?side2 A16.out).mono ?_); (case side1 => repeat (first | exact (Kd.C_below HR0_2.out HB.out) | (with_reducible refine Kd.C_alloc ?_ _) | (with_reducible refine Kd.C_drewN ?_ _) | (with_reducible refine Kd.C_drew ?_))); (case side2 => exact HC0_2.out); rintro e w30 ⟨v914, rfl, ho0, hb⟩; refine ⟨_, rfl, ?_⟩; have n0_ := Aside0.mk (Kd.R_elder' (by (with_reducible repeat (first | apply Kd.R_alloc | apply Kd.R_drewN | apply Kd.R_drew)); exact HO903.out) (Kd.R_base ho0) hb); have n1_ := Aside0.mk (Kd.R_below (by (with_reducible repeat (first | apply Kd.R_alloc | apply Kd.R_drewN | apply Kd.R_drew)); exact HO906.out) hb); have n2_ := Aside0.mk (Kd.R_elder' (by (with_reducible repeat (first | apply Kd.R_alloc | apply Kd.R_drewN | apply Kd.R_drew)); exact HO909.out) (Kd.R_base ho0) hb); have n3_ := Aside0.mk (Kd.R_lower (Kd.R_new' (Kd.R_new' ho0 (Kd.R_lt (by (with_reducible repeat (first | apply Kd.R_alloc | apply Kd.R_drewN | apply Kd.R_drew)); exact HO903.out))) (Kd.R_lt (by (with_reducible repeat (first | apply Kd.R_alloc | apply Kd.R_drewN | apply Kd.R_drew)); exact HO909.out))) (below_size (by repeat (first | (with_reducible first | exact HB.out | apply below_alloc | apply pw_below_drewN | apply below_drew1 | refine below_set ?_ GE896.out) | exact HB.out)))); have n4_ := Aside0.mk (blk_below (g := gb896) (o := .cells #[.int .i64 a0_0, .int .i64 a0_1, .slice A0_2 l0_2.length c0_2] 24 (0, 0)) (by (with_reducible repeat (first | refine blk_drewN ?_ _ | refine blk_drew ?_ | refine blk_alloc ?_ _)); exact BK896.out) hb); have n5_ := Aside0.mk (below_step (by repeat (first | (with_reducible first | exact HB.out | apply below_alloc | apply pw_below_drewN | apply below_drew1 | refine below_set ?_ GE896.out) | exact HB.out)) hb); clear HO903; clear HO906; clear HO909; clear BK896; clear HB; have HO903 := n0_; have HO906 := n1_; have HO909 := n2_; have HO915 := n3_; have BK896 := n4_; have HB := n5_; clear n0_ n1_ n2_ n3_ n4_ n5_; (try clear hb); (try clear hb2); (try clear hk); (try clear hi); (try clear ho0)) | ((with_reducible refine gate_dst (N := 8) rfl ?_); refine box_event ?hg (N := 8) ?hd (cs := #[.int .i64 0, .int .i64 0, .slice none 0 0]) (t := 28) ?hr ?_; (case hd => rfl); (case hg => rfl); (case hr => first | (go_simp; done) | (go_simp; rfl)); intro gb916 hg w31 hbox hb; have n0_ := Aside0.mk (Kd.R_below (by (with_reducible repeat (first | apply Kd.R_alloc | apply Kd.R_drewN | apply Kd.R_drew)); exact HO903.out) hb); have n1_ := Aside0.mk (Kd.R_below (by (with_reducible repeat (first | apply Kd.R_alloc | apply Kd.R_drewN | apply Kd.R_drew)); exact HO906.out) hb); have n2_ := Aside0.mk (Kd.R_below (by (with_reducible repeat (first | apply Kd.R_alloc | apply Kd.R_drewN | apply Kd.R_drew)); exact HO909.out) hb); have n3_ := Aside0.mk (Kd.R_below (by (with_reducible repeat (first | apply Kd.R_alloc | apply Kd.R_drewN | apply Kd.R_drew)); exact HO915.out) hb); have n4_ := Aside0.mk (blk_below (g := gb896) (o := .cells #[.int .i64 a0_0, .int .i64 a0_1, .slice A0_2 l0_2.length c0_2] 24 (0, 0)) (by (with_reducible repeat (first | refine blk_drewN ?_ _ | refine blk_drew ?_ | refine blk_alloc ?_ _)); exact BK896.out) hb); have n5_ := Aside0.mk (below_step (by repeat (first | (with_reducible first | exact HB.out | apply below_alloc | apply pw_below_drewN | apply below_drew1 | refine below_set ?_ GE896.out) | exact HB.out)) hb); have n6_ := Aside0.mk (hbox); have n7_ := Aside0.mk ((by rw [hg]; exact (below_size (by repeat (first | (with_reducible first | exact HB.out | apply below_alloc | apply pw_below_drewN | apply below_drew1 | refine below_set ?_ GE896.out) | exact HB.out))) : w.heap.size ≤ gb916)); have n8_ := Aside0.mk ((by rw [hg]; exact (below_size (by repeat (first | (with_reducible first | exact HB.out | apply below_alloc | apply pw_below_drewN | apply below_drew1 | refine below_set ?_ GE896.out) | exact HB.out))) : w.heap.size ≤ gb916)); have n9_ := Aside0.mk ((by rw [hg]; exact Nat.ne_of_lt (blk_lt (g := gb896) (o := .cells #[.int .i64 a0_0, .int .i64 a0_1, .slice A0_2 l0_2.length c0_2] 24 (0, 0)) (by (with_reducible repeat (first | refine blk_drewN ?_ _ | refine blk_drew ?_ | refine blk_alloc ?_ _)); exact BK896.out)) : gb896 ≠ gb916)); have n10_ := Aside0.mk ((by rw [hg]; exact Nat.ne_of_gt (blk_lt (g := gb896) (o := .cells #[.int .i64 a0_0, .int .i64 a0_1, .slice A0_2 l0_2.length c0_2] 24 (0, 0)) (by (with_reducible repeat (first | refine blk_drewN ?_ _ | refine blk_drew ?_ | refine blk_alloc ?_ _)); exact BK896.out)) : gb916 ≠ gb896)); clear HO903; clear HO906; clear HO909; clear HO915; clear BK896; clear HB; have HO903 := n0_; have HO906 := n1_; have HO909 := n2_; have HO915 := n3_; have BK896 := n4_; have HB := n5_; have BK916 := n6_; have GW916 := n7_; have GE916 := n8_; have NB896_916 := n9_; have NB916_896 := n10_; clear n0_ n1_ n2_ n3_ n4_ n5_ n6_ n7_ n8_ n9_ n10_; clear hb hbox hg; have hnb32 := NB916_896.out; have hnc32 := NB896_916.out; have hcz33_0 : w31.cell? ⟨gb916, 0, none⟩ = some (.int .i64 0) := (blk_cell BK916.out 0).trans rfl; have hcz33_1 : w31.cell? ⟨gb916, 1, none⟩ = some (.int .i64 0) := (blk_cell BK916.out 1).trans rfl; have hcz33_2 : w31.cell? ⟨gb916, 2, none⟩ = some (.slice none 0 0) := (blk_cell BK916.out 2).trans rfl; have hfz33_0 := blk_frozen BK916.out 0; have hfz33_1 := blk_frozen BK916.out 1; have hfz33_2 := blk_frozen BK916.out 2; obtain ⟨Ao34, co34, eo34⟩ := Kd.R_slice HO915.out; subst eo34) | ((with_reducible refine gate_callee (f := 42) rfl ?_); refine goesA_ (some 38) rfl rfl Try.func42 (by kernel_rfl) rfl #[.slice A1 l1.length c1] rfl ?_; (with_reducible refine (laws_toShotS.calls k _ _ l1 t917 _ ?side1 ?side2 A17.out).mono ?_); (case side1 => exact Kd.C_below HR1.out (by repeat (first | (with_reducible first | exact HB.out | apply below_alloc | apply pw_below_drewN | apply below_drew1 | refine below_set ?_ GE896.out | refine below_set ?_ GE916.out) | exact HB.out))); (case side2 => exact HC1.out); rintro e w35 ⟨v918, rfl, ho0, hb⟩; refine ⟨_, rfl, ?_⟩; have n0_ := Aside0.mk (Kd.R_below (by (with_reducible repeat (first | apply Kd.R_alloc | apply Kd.R_drewN | apply Kd.R_drew)); exact (Kd.R_mono (Kd.R_far (p := ⟨gb916, 2, none⟩) (Kd.R_far (p := ⟨gb916, 1, none⟩) (Kd.R_far (p := ⟨gb916, 0, none⟩) (Kd.R_types HO903.out BK916.out (by decide)) (fun _ hk => hk.2) (.int .i64 t911)) (fun _ hk => hk.2) (.int .i64 t912)) (fun _ hk => hk.2) (.slice Ao34 t913.length co34)) (fun _ h_ => h_.1))) hb); have n1_ := Aside0.mk (Kd.R_elder' (by (with_reducible repeat (first | apply Kd.R_alloc | apply Kd.R_drewN | apply Kd.R_drew)); exact (Kd.R_mono (Kd.R_far (p := ⟨gb916, 2, none⟩) (Kd.R_far (p := ⟨gb916, 1, none⟩) (Kd.R_far (p := ⟨gb916, 0, none⟩) (Kd.R_types HO906.out BK916.out (by decide)) (fun _ hk => hk.2) (.int .i64 t911)) (fun _ hk => hk.2) (.int .i64 t912)) (fun _ hk => hk.2) (.slice Ao34 t913.length co34)) (fun _ h_ => h_.1))) (Kd.R_base ho0) hb); have n2_ := Aside0.mk (Kd.R_below (by (with_reducible repeat (first | apply Kd.R_alloc | apply Kd.R_drewN | apply Kd.R_drew)); exact (Kd.R_mono (Kd.R_far (p := ⟨gb916, 2, none⟩) (Kd.R_far (p := ⟨gb916, 1, none⟩) (Kd.R_far (p := ⟨gb916, 0, none⟩) (Kd.R_types HO909.out BK916.out (by decide)) (fun _ hk => hk.2) (.int .i64 t911)) (fun _ hk => hk.2) (.int .i64 t912)) (fun _ hk => hk.2) (.slice Ao34 t913.length co34)) (fun _ h_ => h_.1))) hb); have n3_ := Aside0.mk (Kd.R_below (by (with_reducible repeat (first | apply Kd.R_alloc | apply Kd.R_drewN | apply Kd.R_drew)); exact (Kd.R_mono (Kd.R_far (p := ⟨gb916, 2, none⟩) (Kd.R_far (p := ⟨gb916, 1, none⟩) (Kd.R_far (p := ⟨gb916, 0, none⟩) (Kd.R_types HO915.out BK916.out (by decide)) (fun _ hk => hk.2) (.int .i64 t911)) (fun _ hk => hk.2) (.int .i64 t912)) (fun _ hk => hk.2) (.slice Ao34 t913.length co34)) (fun _ h_ => h_.1))) hb); have n4_ := Aside0.mk (Kd.R_lower (Kd.R_new' ho0 (Kd.R_lt (by (with_reducible repeat (first | apply Kd.R_alloc | apply Kd.R_drewN | apply Kd.R_drew)); exact (Kd.R_mono (Kd.R_far (p := ⟨gb916, 2, none⟩) (Kd.R_far (p := ⟨gb916, 1, none⟩) (Kd.R_far (p := ⟨gb916, 0, none⟩) (Kd.R_types HO906.out BK916.out (by decide)) (fun _ hk => hk.2) (.int .i64 t911)) (fun _ hk => hk.2) (.int .i64 t912)) (fun _ hk => hk.2) (.slice Ao34 t913.length co34)) (fun _ h_ => h_.1))))) (below_size (by repeat (first | (with_reducible first | exact HB.out | apply below_alloc | apply pw_below_drewN | apply below_drew1 | refine below_set ?_ GE896.out | refine below_set ?_ GE916.out) | exact HB.out)))); have n5_ := Aside0.mk (blk_below (g := gb896) (o := .cells #[.int .i64 a0_0, .int .i64 a0_1, .slice A0_2 l0_2.length c0_2] 24 (0, 0)) (by (with_reducible repeat (first | refine blk_drewN ?_ _ | refine blk_drew ?_ | refine blk_alloc ?_ _)); refine blk_far ?_ NB896_916.out _; (with_reducible repeat (first | refine blk_drewN ?_ _ | refine blk_drew ?_ | refine blk_alloc ?_ _)); refine blk_far ?_ NB896_916.out _; (with_reducible repeat (first | refine blk_drewN ?_ _ | refine blk_drew ?_ | refine blk_alloc ?_ _)); refine blk_far ?_ NB896_916.out _; (with_reducible repeat (first | refine blk_drewN ?_ _ | refine blk_drew ?_ | refine blk_alloc ?_ _)); exact BK896.out) hb); have n6_ := Aside0.mk (blk_below (g := gb916) (o := .cells #[.int .i64 t911, .int .i64 t912, .slice Ao34 t913.length co34] 28 (0, 0)) (by (with_reducible repeat (first | refine blk_drewN ?_ _ | refine blk_drew ?_ | refine blk_alloc ?_ _)); refine blk_put (cs := #[.int .i64 t911, .int .i64 t912, .slice none 0 0]) ?_ 2 _ rfl; (with_reducible repeat (first | refine blk_drewN ?_ _ | refine blk_drew ?_ | refine blk_alloc ?_ _)); refine blk_put (cs := #[.int .i64 t911, .int .i64 0, .slice none 0 0]) ?_ 1 _ rfl; (with_reducible repeat (first | refine blk_drewN ?_ _ | refine blk_drew ?_ | refine blk_alloc ?_ _)); refine blk_put (cs := #[.int .i64 0, .int .i64 0, .slice none 0 0]) ?_ 0 _ rfl; (with_reducible repeat (first | refine blk_drewN ?_ _ | refine blk_drew ?_ | refine blk_alloc ?_ _)); exact BK916.out) hb); have n7_ := Aside0.mk (below_step (by repeat (first | (with_reducible first | exact HB.out | apply below_alloc | apply pw_below_drewN | apply below_drew1 | refine below_set ?_ GE896.out | refine below_set ?_ GE916.out) | exact HB.out)) hb); clear HO903; clear HO906; clear HO909; clear HO915; clear BK896; clear BK916; clear HB; have HO903 := n0_; have HO906 := n1_; have HO909 := n2_; have HO915 := n3_; have HO919 := n4_; have BK896 := n5_; have BK916 := n6_; have HB := n7_; clear n0_ n1_ n2_ n3_ n4_ n5_ n6_ n7_; (try clear hb); (try clear hb2); (try clear hk); (try clear hi); (try clear ho0); have hcz36_0 : w35.cell? ⟨gb916, 0, none⟩ = some (.int .i64 t911) := (blk_cell BK916.out 0).trans rfl; have hcz36_1 : w35.cell? ⟨gb916, 1, none⟩ = some (.int .i64 t912) := (blk_cell BK916.out 1).trans rfl; have hcz36_2 : w35.cell? ⟨gb916, 2, none⟩ = some (.slice Ao34 t913.length co34) := (blk_cell BK916.out 2).trans rfl; have hfz36_0 := blk_frozen BK916.out 0; have hfz36_1 := blk_frozen BK916.out 1; have hfz36_2 := blk_frozen BK916.out 2; obtain ⟨Ao37, co37, eo37⟩ := Kd.R_slice HO919.out; subst eo37) | ((with_reducible refine gate_callee (f := 48) rfl ?_); refine goesA_ (some 42) rfl rfl Try.func48 (by kernel_rfl) rfl #[.agg #[.int .i64 t911, .int .i64 t912, .slice Ao34 t913.length co34], .slice Ao37 t917.length co37] rfl ?_; (with_reducible refine (impl_SharesOf.calls k t911 t912 _ _ t913 _ _ t917 t920 t923 _ ?side1 ?side2 ?side3 ?side4 A18.out).mono ?_); (case side1 => repeat (first | exact (Kd.R_reads' HO915.out).2.2 | (with_reducible refine Kd.C_alloc ?_ _) | (with_reducible refine Kd.C_drewN ?_ _) | (with_reducible refine Kd.C_drew ?_))); (case side2 => exact (Kd.R_reads' HO915.out).2.1); (case side3 => repeat (first | exact (Kd.R_reads' HO919.out).2.2 | (with_reducible refine Kd.C_alloc ?_ _) | (with_reducible refine Kd.C_drewN ?_ _) | (with_reducible refine Kd.C_drew ?_))); (case side4 => exact (Kd.R_reads' HO919.out).2.1); rintro e w38 ⟨v921, rfl, ho0, hb⟩; refine ⟨_, rfl, ?_⟩; have n0_ := Aside0.mk (Kd.R_elder' (by (with_reducible repeat (first | apply Kd.R_alloc | apply Kd.R_drewN | apply Kd.R_drew)); exact HO903.out) (Kd.R_base ho0) hb); have n1_ := Aside0.mk (Kd.R_below (by (with_reducible repeat (first | apply Kd.R_alloc | apply Kd.R_drewN | apply Kd.R_drew)); exact HO906.out) hb); have n2_ := Aside0.mk (Kd.R_elder' (by (with_reducible repeat (first | apply Kd.R_alloc | apply Kd.R_drewN | apply Kd.R_drew)); exact HO909.out) (Kd.R_base ho0) hb); have n3_ := Aside0.mk (Kd.R_elder' (by (with_reducible repeat (first | apply Kd.R_alloc | apply Kd.R_drewN | apply Kd.R_drew)); exact HO915.out) (Kd.R_base ho0) hb); have n4_ := Aside0.mk (Kd.R_below (by (with_reducible repeat (first | apply Kd.R_alloc | apply Kd.R_drewN | apply Kd.R_drew)); exact HO919.out) hb); have n5_ := Aside0.mk (Kd.R_lower (Kd.R_new' (Kd.R_new' (Kd.R_new' ho0 (Kd.R_lt (by (with_reducible repeat (first | apply Kd.R_alloc | apply Kd.R_drewN | apply Kd.R_drew)); exact HO903.out))) (Kd.R_lt (by (with_reducible repeat (first | apply Kd.R_alloc | apply Kd.R_drewN | apply Kd.R_drew)); exact HO909.out))) (Kd.R_lt (by (with_reducible repeat (first | apply Kd.R_alloc | apply Kd.R_drewN | apply Kd.R_drew)); exact HO915.out))) (below_size (by repeat (first | (with_reducible first | exact HB.out | apply below_alloc | apply pw_below_drewN | apply below_drew1 | refine below_set ?_ GE896.out | refine below_set ?_ GE916.out) | exact HB.out)))); have n6_ := Aside0.mk (blk_below (g := gb896) (o := .cells #[.int .i64 a0_0, .int .i64 a0_1, .slice A0_2 l0_2.length c0_2] 24 (0, 0)) (by (with_reducible repeat (first | refine blk_drewN ?_ _ | refine blk_drew ?_ | refine blk_alloc ?_ _)); exact BK896.out) hb); have n7_ := Aside0.mk (blk_below (g := gb916) (o := .cells #[.int .i64 t911, .int .i64 t912, .slice Ao34 t913.length co34] 28 (0, 0)) (by (with_reducible repeat (first | refine blk_drewN ?_ _ | refine blk_drew ?_ | refine blk_alloc ?_ _)); exact BK916.out) hb); have n8_ := Aside0.mk (below_step (by repeat (first | (with_reducible first | exact HB.out | apply below_alloc | apply pw_below_drewN | apply below_drew1 | refine below_set ?_ GE896.out | refine below_set ?_ GE916.out) | exact HB.out)) hb); clear HO903; clear HO906; clear HO909; clear HO915; clear HO919; clear BK896; clear BK916; clear HB; have HO903 := n0_; have HO906 := n1_; have HO909 := n2_; have HO915 := n3_; have HO919 := n4_; have HO922 := n5_; have BK896 := n6_; have BK916 := n7_; have HB := n8_; clear n0_ n1_ n2_ n3_ n4_ n5_ n6_ n7_ n8_; (try clear hb); (try clear hb2); (try clear hk); (try clear hi); (try clear ho0)))
   (try simp only [Act.put, List.setIfInBounds_toArray, List.set_cons_zero, List.set_cons_succ])
   go_cut [53] (fun v53 wc => ∃ (kq : Nat) (x53_18 : Bool), v53 = .bool x53_18 ∧ Aside0 (laws_FnExactSharesOf.j0 kq l1 t907 t910 t917 t920 t923 x53_18 a0_0 a0_1 l0_2 t911 t912 t913 = some true) ∧ Aside0 (kq ≤ k) ∧ Aside0 (Kd.R (Kd.int .i64) 2 wc w.heap.size (fun k_ => some k_ ≠ (v921 : Value).ownBlock ∧ some k_ ≠ ((.slice Ao34 t913.length co34) : Value).ownBlock) v908 t907) ∧ Aside0 (Kd.R k93 93 wc w.heap.size (fun _ => True) (.slice Ao37 t917.length co37) t917) ∧ Aside0 (Kd.R (Kd.int .i64) 2 wc w.heap.size (fun k_ => some k_ ≠ (v908 : Value).ownBlock ∧ some k_ ≠ ((.slice Ao34 t913.length co34) : Value).ownBlock) v921 t920) ∧ Aside0 (Kd.R (Kd.int .i64) 2 wc w.heap.size (fun k_ => some k_ ≠ (v908 : Value).ownBlock ∧ some k_ ≠ (v921 : Value).ownBlock) (.slice Ao34 t913.length co34) t913) ∧ Aside0 (wc.heap[gb896]? = some (.cells #[.int .i64 a0_0, .int .i64 a0_1, (.slice A0_2 l0_2.length c0_2)] 24 (0, 0))) ∧ Aside0 (wc.heap[gb916]? = some (.cells #[.int .i64 t911, .int .i64 t912, (.slice Ao34 t913.length co34)] 28 (0, 0))) ∧ Aside0 (Below w.heap.size w wc))
   case first =>
    have H := HC19.out
    clear HC19
    replace H := Option.bind_eq_some_iff.mp H
    obtain ⟨t924, A390, H⟩ := H
    replace H : (if t924 = true then (laws_FnExactSharesOf.j0 k l1 t907 t910 t917 t920 t923 (t923 != t910) a0_0 a0_1 l0_2 t911 t912 t913) else (laws_FnExactSharesOf.j0 k l1 t907 t910 t917 t920 t923 true a0_0 a0_1 l0_2 t911 t912 t913)) = some true := H
    have A39 := Aside0.mk A390
    clear A390
    by_cases c40 : t924 = true
    ·subst c40
     have H1 : (laws_FnExactSharesOf.j0 k l1 t907 t910 t917 t920 t923 (t923 != t910) a0_0 a0_1 l0_2 t911 t912 t913) = some true := by rw [if_pos rfl] at H; exact H
     clear H
     have H := H1
     clear H1
     have H' := Aside0.mk H
     clear H
     obtain ⟨Ao41, co41, eo41⟩ := Kd.R_slice HO922.out
     subst eo41
     obtain ⟨Ao42, co42, eo42⟩ := Kd.R_slice HO909.out
     subst eo42
     go_wp2_with (first | ((with_reducible refine gate_callee (f := 19) rfl ?_); refine goesA_ (some 47) rfl rfl Try.func19 (by kernel_rfl) rfl #[.slice Ao41 t920.length co41, .slice Ao42 t907.length co42] rfl ?_; (with_reducible refine (laws_eqInt64S.calls k _ _ t920 _ _ t907 true _ ?side1 ?side2 ?side3 ?side4 A39.out).mono ?_); (case side1 => repeat (first | exact (Kd.R_reads' HO922.out).2.2 | (with_reducible refine Kd.C_alloc ?_ _) | (with_reducible refine Kd.C_drewN ?_ _) | (with_reducible refine Kd.C_drew ?_))); (case side2 => exact (Kd.R_reads' HO922.out).2.1); (case side3 => repeat (first | exact (Kd.R_reads' HO909.out).2.2 | (with_reducible refine Kd.C_alloc ?_ _) | (with_reducible refine Kd.C_drewN ?_ _) | (with_reducible refine Kd.C_drew ?_))); (case side4 => exact (Kd.R_reads' HO909.out).2.1); rintro e w' ⟨rfl, ⟨nd, rfl⟩⟩; refine ⟨_, rfl, ?_⟩))
     go_meet
     case rel => exact ⟨_, ((t923 != t910)), (by first | rfl | (simp; done) | (simp [*]; done)), H', ⟨by first | omega | exact Nat.le_refl _⟩, ⟨by (with_reducible repeat (first | apply Kd.R_alloc | apply Kd.R_drewN | apply Kd.R_drew)); exact Kd.R_mono HO909.out (fun _ hk => ⟨hk.2, hk.1.2⟩)⟩, ⟨by (with_reducible repeat (first | apply Kd.R_alloc | apply Kd.R_drewN | apply Kd.R_drew)); exact Kd.R_mono HO919.out (fun _ hk => trivial)⟩, ⟨by (with_reducible repeat (first | apply Kd.R_alloc | apply Kd.R_drewN | apply Kd.R_drew)); exact Kd.R_mono HO922.out (fun _ hk => ⟨hk.1.2, hk.2⟩)⟩, ⟨by (with_reducible repeat (first | apply Kd.R_alloc | apply Kd.R_drewN | apply Kd.R_drew)); exact Kd.R_mono HO915.out (fun _ hk => ⟨hk.1.2, hk.2⟩)⟩, ⟨by (with_reducible repeat (first | refine blk_drewN ?_ _ | refine blk_drew ?_ | refine blk_alloc ?_ _)); exact BK896.out⟩, ⟨by (with_reducible repeat (first | refine blk_drewN ?_ _ | refine blk_drew ?_ | refine blk_alloc ?_ _)); exact BK916.out⟩, ⟨by repeat (first | (with_reducible first | exact HB.out | apply below_alloc | apply pw_below_drewN | apply below_drew1 | refine below_set ?_ GE896.out | refine below_set ?_ GE916.out) | exact HB.out)⟩⟩
    ·replace c40 := Bool.eq_false_iff.mpr c40
     subst c40
     have H1 : (laws_FnExactSharesOf.j0 k l1 t907 t910 t917 t920 t923 true a0_0 a0_1 l0_2 t911 t912 t913) = some true := by rw [if_neg (show ¬ (false = true) by decide)] at H; exact H
     clear H
     have H := H1
     clear H1
     have H' := Aside0.mk H
     clear H
     obtain ⟨Ao43, co43, eo43⟩ := Kd.R_slice HO922.out
     subst eo43
     obtain ⟨Ao44, co44, eo44⟩ := Kd.R_slice HO909.out
     subst eo44
     go_wp2_with (first | ((with_reducible refine gate_callee (f := 19) rfl ?_); refine goesA_ (some 47) rfl rfl Try.func19 (by kernel_rfl) rfl #[.slice Ao43 t920.length co43, .slice Ao44 t907.length co44] rfl ?_; (with_reducible refine (laws_eqInt64S.calls k _ _ t920 _ _ t907 false _ ?side1 ?side2 ?side3 ?side4 A39.out).mono ?_); (case side1 => repeat (first | exact (Kd.R_reads' HO922.out).2.2 | (with_reducible refine Kd.C_alloc ?_ _) | (with_reducible refine Kd.C_drewN ?_ _) | (with_reducible refine Kd.C_drew ?_))); (case side2 => exact (Kd.R_reads' HO922.out).2.1); (case side3 => repeat (first | exact (Kd.R_reads' HO909.out).2.2 | (with_reducible refine Kd.C_alloc ?_ _) | (with_reducible refine Kd.C_drewN ?_ _) | (with_reducible refine Kd.C_drew ?_))); (case side4 => exact (Kd.R_reads' HO909.out).2.1); rintro e w' ⟨rfl, ⟨nd, rfl⟩⟩; refine ⟨_, rfl, ?_⟩))
     go_meet
     case rel => exact ⟨_, (true), (by first | rfl | (simp; done) | (simp [*]; done)), H', ⟨by first | omega | exact Nat.le_refl _⟩, ⟨by (with_reducible repeat (first | apply Kd.R_alloc | apply Kd.R_drewN | apply Kd.R_drew)); exact Kd.R_mono HO909.out (fun _ hk => ⟨hk.2, hk.1.2⟩)⟩, ⟨by (with_reducible repeat (first | apply Kd.R_alloc | apply Kd.R_drewN | apply Kd.R_drew)); exact Kd.R_mono HO919.out (fun _ hk => trivial)⟩, ⟨by (with_reducible repeat (first | apply Kd.R_alloc | apply Kd.R_drewN | apply Kd.R_drew)); exact Kd.R_mono HO922.out (fun _ hk => ⟨hk.1.2, hk.2⟩)⟩, ⟨by (with_reducible repeat (first | apply Kd.R_alloc | apply Kd.R_drewN | apply Kd.R_drew)); exact Kd.R_mono HO915.out (fun _ hk => ⟨hk.1.2, hk.2⟩)⟩, ⟨by (with_reducible repeat (first | refine blk_drewN ?_ _ | refine blk_drew ?_ | refine blk_alloc ?_ _)); exact BK896.out⟩, ⟨by (with_reducible repeat (first | refine blk_drewN ?_ _ | refine blk_drew ?_ | refine blk_alloc ?_ _)); exact BK916.out⟩, ⟨by repeat (first | (with_reducible first | exact HB.out | apply below_alloc | apply pw_below_drewN | apply below_drew1 | refine below_set ?_ GE896.out | refine below_set ?_ GE916.out) | exact HB.out)⟩⟩
   case rest =>
    clear HC19
    (try clear c1); (try clear p2); (try clear c3); (try clear c4); (try clear c4b0); (try clear c9); (try clear c9b0); (try clear c12); (try clear c15); (try clear c17); (try clear c19); (try clear c32); (try clear c40); (try clear c42); (try clear hcz11_0); (try clear hcz11_1); (try clear hcz11_2); (try clear hcz21_0); (try clear hcz21_1); (try clear hcz21_2); (try clear hcz23_0); (try clear hcz23_1); (try clear hcz23_2); (try clear hcz29_0); (try clear hcz29_1); (try clear hcz29_2); (try clear hcz33_0); (try clear hcz33_1); (try clear hcz33_2); (try clear hcz36_0); (try clear hcz36_1); (try clear hcz36_2); (try clear hcz6_0); (try clear hcz6_1); (try clear hcz6_2); (try clear hfz11_0); (try clear hfz11_1); (try clear hfz11_2); (try clear hfz21_0); (try clear hfz21_1); (try clear hfz21_2); (try clear hfz23_0); (try clear hfz23_1); (try clear hfz23_2); (try clear hfz29_0); (try clear hfz29_1); (try clear hfz29_2); (try clear hfz33_0); (try clear hfz33_1); (try clear hfz33_2); (try clear hfz36_0); (try clear hfz36_1); (try clear hfz36_2); (try clear hfz6_0); (try clear hfz6_1); (try clear hfz6_2)
    obtain ⟨kq, x53_18, rfl, HA, HJ18, HO_6, HO_9, HO_10, HO_917002, BK896, BK916, HB⟩ := hcut
    cases kq with
    | zero => exact absurd HA.out (by simp [laws_FnExactSharesOf.j0])
    | succ kj18 =>
     have H := HA.out
     clear HA
     simp only [laws_FnExactSharesOf.j0] at H
     by_cases c45 : x53_18 = true
     ·subst c45
      have H1 : (some false) = some true := by rw [if_pos rfl] at H; exact H
      clear H
      have H := H1
      clear H1
      exact absurd H (by simp)
     ·replace c45 := Bool.eq_false_iff.mpr c45
      subst c45
      have H1 : ((laws_toSea.f kj18 a0_0 a0_1 l0_2).bind fun bt925 => ((laws_eqSea.f kj18 t911 t912 t913 bt925.1 bt925.2.1 bt925.2.2).bind fun t930 => (if t930 = true then ((laws_toShotS.f kj18 l1).bind fun t931 => ((laws_eqShotS.f kj18 t917 t931).bind fun t934 => (if t934 = true then ((laws_markSea.f kj18 t911 t912 t913 1).bind fun bt935 => ((laws_markShotS.f kj18 t917 bt935.1).bind fun bt937 => (if bt937.1 < 0 then (laws_FnExactSharesOf.j1 kj18 l1 t907 t910 t920 true a0_0 a0_1 l0_2) else ((laws_eqInt64S.f kj18 t920 t907).bind fun t939 => (if t939 = true then (laws_FnExactSharesOf.j1 kj18 l1 t907 t910 t920 (t923 != t910) a0_0 a0_1 l0_2) else (laws_FnExactSharesOf.j1 kj18 l1 t907 t910 t920 true a0_0 a0_1 l0_2)))))) else (some false)))) else (some false)))) = some true := by rw [if_neg (show ¬ (false = true) by decide)] at H; exact H
      clear H
      have H := H1
      clear H1
      replace H := Option.bind_eq_some_iff.mp H
      obtain ⟨⟨t925, t926, t927⟩, A460, H⟩ := H
      replace H : ((laws_eqSea.f kj18 t911 t912 t913 t925 t926 t927).bind fun t930 => (if t930 = true then ((laws_toShotS.f kj18 l1).bind fun t931 => ((laws_eqShotS.f kj18 t917 t931).bind fun t934 => (if t934 = true then ((laws_markSea.f kj18 t911 t912 t913 1).bind fun bt935 => ((laws_markShotS.f kj18 t917 bt935.1).bind fun bt937 => (if bt937.1 < 0 then (laws_FnExactSharesOf.j1 kj18 l1 t907 t910 t920 true a0_0 a0_1 l0_2) else ((laws_eqInt64S.f kj18 t920 t907).bind fun t939 => (if t939 = true then (laws_FnExactSharesOf.j1 kj18 l1 t907 t910 t920 (t923 != t910) a0_0 a0_1 l0_2) else (laws_FnExactSharesOf.j1 kj18 l1 t907 t910 t920 true a0_0 a0_1 l0_2)))))) else (some false)))) else (some false))) = some true := H
      have A46 := Aside0.mk A460
      clear A460
      replace H := Option.bind_eq_some_iff.mp H
      obtain ⟨t930, A470, H⟩ := H
      replace H : (if t930 = true then ((laws_toShotS.f kj18 l1).bind fun t931 => ((laws_eqShotS.f kj18 t917 t931).bind fun t934 => (if t934 = true then ((laws_markSea.f kj18 t911 t912 t913 1).bind fun bt935 => ((laws_markShotS.f kj18 t917 bt935.1).bind fun bt937 => (if bt937.1 < 0 then (laws_FnExactSharesOf.j1 kj18 l1 t907 t910 t920 true a0_0 a0_1 l0_2) else ((laws_eqInt64S.f kj18 t920 t907).bind fun t939 => (if t939 = true then (laws_FnExactSharesOf.j1 kj18 l1 t907 t910 t920 (t923 != t910) a0_0 a0_1 l0_2) else (laws_FnExactSharesOf.j1 kj18 l1 t907 t910 t920 true a0_0 a0_1 l0_2)))))) else (some false)))) else (some false)) = some true := H
      have A47 := Aside0.mk A470
      clear A470
      by_cases c48 : t930 = true
      ·subst c48
       have H1 : ((laws_toShotS.f kj18 l1).bind fun t931 => ((laws_eqShotS.f kj18 t917 t931).bind fun t934 => (if t934 = true then ((laws_markSea.f kj18 t911 t912 t913 1).bind fun bt935 => ((laws_markShotS.f kj18 t917 bt935.1).bind fun bt937 => (if bt937.1 < 0 then (laws_FnExactSharesOf.j1 kj18 l1 t907 t910 t920 true a0_0 a0_1 l0_2) else ((laws_eqInt64S.f kj18 t920 t907).bind fun t939 => (if t939 = true then (laws_FnExactSharesOf.j1 kj18 l1 t907 t910 t920 (t923 != t910) a0_0 a0_1 l0_2) else (laws_FnExactSharesOf.j1 kj18 l1 t907 t910 t920 true a0_0 a0_1 l0_2)))))) else (some false)))) = some true := by rw [if_pos rfl] at H; exact H
       clear H
       have H := H1
       clear H1
       replace H := Option.bind_eq_some_iff.mp H
       obtain ⟨t931, A490, H⟩ := H
       replace H : ((laws_eqShotS.f kj18 t917 t931).bind fun t934 => (if t934 = true then ((laws_markSea.f kj18 t911 t912 t913 1).bind fun bt935 => ((laws_markShotS.f kj18 t917 bt935.1).bind fun bt937 => (if bt937.1 < 0 then (laws_FnExactSharesOf.j1 kj18 l1 t907 t910 t920 true a0_0 a0_1 l0_2) else ((laws_eqInt64S.f kj18 t920 t907).bind fun t939 => (if t939 = true then (laws_FnExactSharesOf.j1 kj18 l1 t907 t910 t920 (t923 != t910) a0_0 a0_1 l0_2) else (laws_FnExactSharesOf.j1 kj18 l1 t907 t910 t920 true a0_0 a0_1 l0_2)))))) else (some false))) = some true := H
       have A49 := Aside0.mk A490
       clear A490
       replace H := Option.bind_eq_some_iff.mp H
       obtain ⟨t934, A500, H⟩ := H
       replace H : (if t934 = true then ((laws_markSea.f kj18 t911 t912 t913 1).bind fun bt935 => ((laws_markShotS.f kj18 t917 bt935.1).bind fun bt937 => (if bt937.1 < 0 then (laws_FnExactSharesOf.j1 kj18 l1 t907 t910 t920 true a0_0 a0_1 l0_2) else ((laws_eqInt64S.f kj18 t920 t907).bind fun t939 => (if t939 = true then (laws_FnExactSharesOf.j1 kj18 l1 t907 t910 t920 (t923 != t910) a0_0 a0_1 l0_2) else (laws_FnExactSharesOf.j1 kj18 l1 t907 t910 t920 true a0_0 a0_1 l0_2)))))) else (some false)) = some true := H
       have A50 := Aside0.mk A500
       clear A500
       by_cases c51 : t934 = true
       ·subst c51
        have H1 : ((laws_markSea.f kj18 t911 t912 t913 1).bind fun bt935 => ((laws_markShotS.f kj18 t917 bt935.1).bind fun bt937 => (if bt937.1 < 0 then (laws_FnExactSharesOf.j1 kj18 l1 t907 t910 t920 true a0_0 a0_1 l0_2) else ((laws_eqInt64S.f kj18 t920 t907).bind fun t939 => (if t939 = true then (laws_FnExactSharesOf.j1 kj18 l1 t907 t910 t920 (t923 != t910) a0_0 a0_1 l0_2) else (laws_FnExactSharesOf.j1 kj18 l1 t907 t910 t920 true a0_0 a0_1 l0_2)))))) = some true := by rw [if_pos rfl] at H; exact H
        clear H
        have H := H1
        clear H1
        replace H := Option.bind_eq_some_iff.mp H
        obtain ⟨⟨t935, t936⟩, A520, H⟩ := H
        replace H : ((laws_markShotS.f kj18 t917 t935).bind fun bt937 => (if bt937.1 < 0 then (laws_FnExactSharesOf.j1 kj18 l1 t907 t910 t920 true a0_0 a0_1 l0_2) else ((laws_eqInt64S.f kj18 t920 t907).bind fun t939 => (if t939 = true then (laws_FnExactSharesOf.j1 kj18 l1 t907 t910 t920 (t923 != t910) a0_0 a0_1 l0_2) else (laws_FnExactSharesOf.j1 kj18 l1 t907 t910 t920 true a0_0 a0_1 l0_2))))) = some true := H
        have A52 := Aside0.mk A520
        clear A520
        replace H := Option.bind_eq_some_iff.mp H
        obtain ⟨⟨t937, t938⟩, A530, H⟩ := H
        replace H : (if t937 < 0 then (laws_FnExactSharesOf.j1 kj18 l1 t907 t910 t920 true a0_0 a0_1 l0_2) else ((laws_eqInt64S.f kj18 t920 t907).bind fun t939 => (if t939 = true then (laws_FnExactSharesOf.j1 kj18 l1 t907 t910 t920 (t923 != t910) a0_0 a0_1 l0_2) else (laws_FnExactSharesOf.j1 kj18 l1 t907 t910 t920 true a0_0 a0_1 l0_2)))) = some true := H
        have A53 := Aside0.mk A530
        clear A530
        have HC54 := Aside0.mk H
        clear H
        try go_wp2
        have n0_ := Aside0.mk (Kd.R_drew HO_6.out)
        have n1_ := Aside0.mk (Kd.R_drew HO_9.out)
        have n2_ := Aside0.mk (Kd.R_drew HO_10.out)
        have n3_ := Aside0.mk (Kd.R_drew HO_917002.out)
        have n4_ := Aside0.mk (blk_drew BK896.out)
        have n5_ := Aside0.mk (blk_drew BK916.out)
        have n6_ := Aside0.mk (below_drew1 HB.out)
        clear HO_6
        clear HO_9
        clear HO_10
        clear HO_917002
        clear BK896
        clear BK916
        clear HB
        have HO_6 := n0_
        have HO_9 := n1_
        have HO_10 := n2_
        have HO_917002 := n3_
        have BK896 := n4_
        have BK916 := n5_
        have HB := n6_
        clear n0_ n1_ n2_ n3_ n4_ n5_ n6_
        refine start_ (n := 5) (S := fun w' => w'.cell? ⟨gb916, 0, none⟩ = some (.int .i64 t911) ∧ w'.cell? ⟨gb916, 1, none⟩ = some (.int .i64 t912) ∧ w'.cell? ⟨gb916, 2, none⟩ = some (.slice Ao34 t913.length co34) ∧ w'.cell? ⟨gb896, 0, none⟩ = some (.int .i64 a0_0) ∧ w'.cell? ⟨gb896, 1, none⟩ = some (.int .i64 a0_1) ∧ w'.cell? ⟨gb896, 2, none⟩ = some (.slice A0_2 l0_2.length c0_2)) (ds := []) #[false, false, false, false, false] (by kernel_rfl) rfl rfl ⟨(blk_cell BK916.out 0).trans rfl, (blk_cell BK916.out 1).trans rfl, (blk_cell BK916.out 2).trans rfl, (blk_cell BK896.out 0).trans rfl, (blk_cell BK896.out 1).trans rfl, (blk_cell BK896.out 2).trans rfl⟩ (fun hHeld => ?_)
        generalize wc.drew = w55 at HO_6 HO_9 HO_10 HO_917002 BK896 BK916 HB hHeld ⊢
        refine take_ (i := 0) (N := some 54) (v := ?_) (a' := ?_) #[true, false, false, false, false] rfl rfl (by kernel_rfl) (fun _ _ _ h => h) (Or.inl ⟨by rfl, ?_⟩) hHeld ?_ ?_
        rotate_left; (· (rintro w' ⟨s0, s1, s2, s3, s4, s5⟩; go_simp; with_reducible rfl)); rotate_left; (· (simp only [Act.put, sz_, s0_, s1_, i64_w, i32_w]; rfl))
        refine take_ (i := 1) (N := some 55) (v := ?_) (a' := ?_) #[true, true, false, false, false] rfl rfl (by kernel_rfl) (fun _ _ _ h => h) (Or.inl ⟨by rfl, ?_⟩) hHeld ?_ ?_
        rotate_left; (· (rintro w' ⟨s0, s1, s2, s3, s4, s5⟩; go_simp; with_reducible rfl)); rotate_left; (· (simp only [Act.put, sz_, s0_, s1_, i64_w, i32_w]; rfl))
        refine one_ (i := 2) (N := some 56) #[true, true, true, false, false] rfl rfl (by kernel_rfl) (by decide) (fun K hK => ?_)
        refine goes_ Try.func17 (by kernel_rfl) rfl #[.agg #[.int .i64 a0_0, .int .i64 a0_1, .slice A0_2 l0_2.length c0_2]] (by rfl) rfl rfl (by (try simp only [List.map_toArray, List.map_cons, List.map_nil]); first | done | rfl | (simp only [List.length_drop, List.length_take]; rfl)) ?_
        with_reducible refine (laws_toSea.calls kj18 a0_0 a0_1 _ _ l0_2 t925 t926 t927 _ ?side1 ?side2 A46.out).mono ?_
        (case side1 => repeat (first | exact (Kd.C_below HR0_2.out HB.out) | (with_reducible refine Kd.C_alloc ?_ _) | (with_reducible refine Kd.C_drewN ?_ _) | (with_reducible refine Kd.C_drew ?_)))
        (case side2 => exact HC0_2.out)
        rintro e w56 ⟨v928, rfl, ho0, hb⟩
        refine ⟨_, rfl, ?_⟩
        have n0_ := Aside0.mk (Kd.R_elder' (by (with_reducible repeat (first | apply Kd.R_alloc | apply Kd.R_drewN | apply Kd.R_drew)); exact HO_6.out) (Kd.R_base ho0) hb)
        have n1_ := Aside0.mk (Kd.R_below (by (with_reducible repeat (first | apply Kd.R_alloc | apply Kd.R_drewN | apply Kd.R_drew)); exact HO_9.out) hb)
        have n2_ := Aside0.mk (Kd.R_elder' (by (with_reducible repeat (first | apply Kd.R_alloc | apply Kd.R_drewN | apply Kd.R_drew)); exact HO_10.out) (Kd.R_base ho0) hb)
        have n3_ := Aside0.mk (Kd.R_elder' (by (with_reducible repeat (first | apply Kd.R_alloc | apply Kd.R_drewN | apply Kd.R_drew)); exact HO_917002.out) (Kd.R_base ho0) hb)
        have n4_ := Aside0.mk (Kd.R_lower (Kd.R_new' (Kd.R_new' (Kd.R_new' ho0 (Kd.R_lt (by (with_reducible repeat (first | apply Kd.R_alloc | apply Kd.R_drewN | apply Kd.R_drew)); exact HO_6.out))) (Kd.R_lt (by (with_reducible repeat (first | apply Kd.R_alloc | apply Kd.R_drewN | apply Kd.R_drew)); exact HO_10.out))) (Kd.R_lt (by (with_reducible repeat (first | apply Kd.R_alloc | apply Kd.R_drewN | apply Kd.R_drew)); exact HO_917002.out))) (below_size (by repeat (first | (with_reducible first | exact HB.out | apply below_alloc | apply pw_below_drewN | apply below_drew1 | refine below_set ?_ GE896.out | refine below_set ?_ GE916.out) | exact HB.out))))
        have n5_ := Aside0.mk (blk_below (g := gb896) (o := .cells #[.int .i64 a0_0, .int .i64 a0_1, .slice A0_2 l0_2.length c0_2] 24 (0, 0)) (by (with_reducible repeat (first | refine blk_drewN ?_ _ | refine blk_drew ?_ | refine blk_alloc ?_ _)); exact BK896.out) hb)
        have n6_ := Aside0.mk (blk_below (g := gb916) (o := .cells #[.int .i64 t911, .int .i64 t912, .slice Ao34 t913.length co34] 28 (0, 0)) (by (with_reducible repeat (first | refine blk_drewN ?_ _ | refine blk_drew ?_ | refine blk_alloc ?_ _)); exact BK916.out) hb)
        have n7_ := Aside0.mk (below_step (by repeat (first | (with_reducible first | exact HB.out | apply below_alloc | apply pw_below_drewN | apply below_drew1 | refine below_set ?_ GE896.out | refine below_set ?_ GE916.out) | exact HB.out)) hb)
        clear HO_6
        clear HO_9
        clear HO_10
        clear HO_917002
        clear BK896
        clear BK916
        clear HB
        have HO_6 := n0_
        have HO_9 := n1_
        have HO_10 := n2_
        have HO_917002 := n3_
        have HO929 := n4_
        have BK896 := n5_
        have BK916 := n6_
        have HB := n7_
        clear n0_ n1_ n2_ n3_ n4_ n5_ n6_ n7_
        (try clear hb)
        (try clear hb2)
        (try clear hk)
        (try clear hi)
        (try clear ho0)
        obtain ⟨Ao57, co57, eo57⟩ := Kd.R_slice HO929.out
        (first | subst eo57 | (injection eo57 with f1_ f2_ f3_; have f4_ := f1_.symm; have f5_ := f3_.symm; clear f1_ f2_ f3_; subst f4_; subst f5_))
        refine hK.out _ _ ⟨(blk_cell BK916.out 0).trans rfl, (blk_cell BK916.out 1).trans rfl, (blk_cell BK916.out 2).trans rfl, (blk_cell BK896.out 0).trans rfl, (blk_cell BK896.out 1).trans rfl, (blk_cell BK896.out 2).trans rfl⟩ (fun hHeld => ?_)
        clear hK K
        refine norm_ (a' := ?_) ?_ ?_
        rotate_left
        ·show Act.put _ (some 56) _ = _
         simp only [Act.put, sz_, s0_, s1_, i64_w, i32_w]
         rfl
        refine one_ (i := 3) (N := some 57) #[true, true, true, true, false] rfl rfl (by kernel_rfl) (by decide) (fun K hK => ?_)
        refine goes_ Try.func20 (by kernel_rfl) rfl #[.agg #[.int .i64 t911, .int .i64 t912, .slice Ao34 t913.length co34], .agg #[.int .i64 t925, .int .i64 t926, .slice Ao57 t927.length co57]] (by rfl) rfl rfl (by (try simp only [List.map_toArray, List.map_cons, List.map_nil]); first | done | rfl | (simp only [List.length_drop, List.length_take]; rfl)) ?_
        with_reducible refine (laws_eqSea.calls kj18 t911 t912 _ _ t913 t925 t926 _ _ t927 true _ ?side1 ?side2 ?side3 ?side4 A47.out).mono ?_
        (case side1 => repeat (first | exact (Kd.R_reads' HO_917002.out).2.2 | (with_reducible refine Kd.C_alloc ?_ _) | (with_reducible refine Kd.C_drewN ?_ _) | (with_reducible refine Kd.C_drew ?_)))
        (case side2 => exact (Kd.R_reads' HO_917002.out).2.1)
        (case side3 => repeat (first | exact (Kd.R_reads' HO929.out).2.2 | (with_reducible refine Kd.C_alloc ?_ _) | (with_reducible refine Kd.C_drewN ?_ _) | (with_reducible refine Kd.C_drew ?_)))
        (case side4 => exact (Kd.R_reads' HO929.out).2.1)
        rintro e w58 ⟨rfl, hb⟩
        refine ⟨_, rfl, ?_⟩
        have n0_ := Aside0.mk (Kd.R_below (by (with_reducible repeat (first | apply Kd.R_alloc | apply Kd.R_drewN | apply Kd.R_drew)); exact HO_6.out) hb)
        have n1_ := Aside0.mk (Kd.R_below (by (with_reducible repeat (first | apply Kd.R_alloc | apply Kd.R_drewN | apply Kd.R_drew)); exact HO_9.out) hb)
        have n2_ := Aside0.mk (Kd.R_below (by (with_reducible repeat (first | apply Kd.R_alloc | apply Kd.R_drewN | apply Kd.R_drew)); exact HO_10.out) hb)
        have n3_ := Aside0.mk (Kd.R_below (by (with_reducible repeat (first | apply Kd.R_alloc | apply Kd.R_drewN | apply Kd.R_drew)); exact HO_917002.out) hb)
        have n4_ := Aside0.mk (Kd.R_below (by (with_reducible repeat (first | apply Kd.R_alloc | apply Kd.R_drewN | apply Kd.R_drew)); exact HO929.out) hb)
        have n5_ := Aside0.mk (blk_below (g := gb896) (o := .cells #[.int .i64 a0_0, .int .i64 a0_1, .slice A0_2 l0_2.length c0_2] 24 (0, 0)) (by (with_reducible repeat (first | refine blk_drewN ?_ _ | refine blk_drew ?_ | refine blk_alloc ?_ _)); exact BK896.out) hb)
        have n6_ := Aside0.mk (blk_below (g := gb916) (o := .cells #[.int .i64 t911, .int .i64 t912, .slice Ao34 t913.length co34] 28 (0, 0)) (by (with_reducible repeat (first | refine blk_drewN ?_ _ | refine blk_drew ?_ | refine blk_alloc ?_ _)); exact BK916.out) hb)
        have n7_ := Aside0.mk (below_step (by repeat (first | (with_reducible first | exact HB.out | apply below_alloc | apply pw_below_drewN | apply below_drew1 | refine below_set ?_ GE896.out | refine below_set ?_ GE916.out) | exact HB.out)) hb)
        clear HO_6
        clear HO_9
        clear HO_10
        clear HO_917002
        clear HO929
        clear BK896
        clear BK916
        clear HB
        have HO_6 := n0_
        have HO_9 := n1_
        have HO_10 := n2_
        have HO_917002 := n3_
        have HO929 := n4_
        have BK896 := n5_
        have BK916 := n6_
        have HB := n7_
        clear n0_ n1_ n2_ n3_ n4_ n5_ n6_ n7_
        (try clear hb)
        (try clear hb2)
        (try clear hk)
        (try clear hi)
        refine hK.out _ _ ⟨(blk_cell BK916.out 0).trans rfl, (blk_cell BK916.out 1).trans rfl, (blk_cell BK916.out 2).trans rfl, (blk_cell BK896.out 0).trans rfl, (blk_cell BK896.out 1).trans rfl, (blk_cell BK896.out 2).trans rfl⟩ (fun hHeld => ?_)
        clear hK K
        refine norm_ (a' := ?_) ?_ ?_
        rotate_left
        ·show Act.put _ (some 57) _ = _
         simp only [Act.put, sz_, s0_, s1_, i64_w, i32_w]
         rfl
        refine pure_ (i := 4) (N := some 58) (v := ?_) (a' := ?_) #[true, true, true, true, true] rfl rfl (by kernel_rfl) (fun _ _ _ h => h) (Or.inl ⟨by rfl, ?_⟩) ?_ ?_
        rotate_left; (· (intro w'; go_simp; with_reducible rfl)); rotate_left; (· (simp only [Act.put, sz_, s0_, s1_, i64_w, i32_w]; rfl))
        refine done_ (by kernel_rfl) ?_
        go_upto_region 21 with (first | ((with_reducible refine gate_callee (f := 42) rfl ?_); refine goesA_ (some 61) rfl rfl Try.func42 (by kernel_rfl) rfl #[.slice A1 l1.length c1] rfl ?_; (with_reducible refine (laws_toShotS.calls kj18 _ _ l1 t931 _ ?side1 ?side2 A49.out).mono ?_); (case side1 => repeat (first | exact (Kd.C_below HR1.out HB.out) | (with_reducible refine Kd.C_alloc ?_ _) | (with_reducible refine Kd.C_drewN ?_ _) | (with_reducible refine Kd.C_drew ?_))); (case side2 => exact HC1.out); rintro e w59 ⟨v932, rfl, ho0, hb⟩; refine ⟨_, rfl, ?_⟩; have n0_ := Aside0.mk (Kd.R_below (by (with_reducible repeat (first | apply Kd.R_alloc | apply Kd.R_drewN | apply Kd.R_drew)); exact HO_6.out) hb); have n1_ := Aside0.mk (Kd.R_elder' (by (with_reducible repeat (first | apply Kd.R_alloc | apply Kd.R_drewN | apply Kd.R_drew)); exact HO_9.out) (Kd.R_base ho0) hb); have n2_ := Aside0.mk (Kd.R_below (by (with_reducible repeat (first | apply Kd.R_alloc | apply Kd.R_drewN | apply Kd.R_drew)); exact HO_10.out) hb); have n3_ := Aside0.mk (Kd.R_below (by (with_reducible repeat (first | apply Kd.R_alloc | apply Kd.R_drewN | apply Kd.R_drew)); exact HO_917002.out) hb); have n4_ := Aside0.mk (Kd.R_below (by (with_reducible repeat (first | apply Kd.R_alloc | apply Kd.R_drewN | apply Kd.R_drew)); exact HO929.out) hb); have n5_ := Aside0.mk (Kd.R_lower (Kd.R_new' ho0 (Kd.R_lt (by (with_reducible repeat (first | apply Kd.R_alloc | apply Kd.R_drewN | apply Kd.R_drew)); exact HO_9.out))) (below_size (by repeat (first | (with_reducible first | exact HB.out | apply below_alloc | apply pw_below_drewN | apply below_drew1 | refine below_set ?_ GE896.out | refine below_set ?_ GE916.out) | exact HB.out)))); have n6_ := Aside0.mk (blk_below (g := gb896) (o := .cells #[.int .i64 a0_0, .int .i64 a0_1, .slice A0_2 l0_2.length c0_2] 24 (0, 0)) (by (with_reducible repeat (first | refine blk_drewN ?_ _ | refine blk_drew ?_ | refine blk_alloc ?_ _)); exact BK896.out) hb); have n7_ := Aside0.mk (blk_below (g := gb916) (o := .cells #[.int .i64 t911, .int .i64 t912, .slice Ao34 t913.length co34] 28 (0, 0)) (by (with_reducible repeat (first | refine blk_drewN ?_ _ | refine blk_drew ?_ | refine blk_alloc ?_ _)); exact BK916.out) hb); have n8_ := Aside0.mk (below_step (by repeat (first | (with_reducible first | exact HB.out | apply below_alloc | apply pw_below_drewN | apply below_drew1 | refine below_set ?_ GE896.out | refine below_set ?_ GE916.out) | exact HB.out)) hb); clear HO_6; clear HO_9; clear HO_10; clear HO_917002; clear HO929; clear BK896; clear BK916; clear HB; have HO_6 := n0_; have HO_9 := n1_; have HO_10 := n2_; have HO_917002 := n3_; have HO929 := n4_; have HO933 := n5_; have BK896 := n6_; have BK916 := n7_; have HB := n8_; clear n0_ n1_ n2_ n3_ n4_ n5_ n6_ n7_ n8_; (try clear hb); (try clear hb2); (try clear hk); (try clear hi); (try clear ho0); obtain ⟨Ao60, co60, eo60⟩ := Kd.R_slice HO933.out; subst eo60) | ((with_reducible refine gate_callee (f := 44) rfl ?_); refine goesA_ (some 62) rfl rfl Try.func44 (by kernel_rfl) rfl #[.slice Ao37 t917.length co37, .slice Ao60 t931.length co60] rfl ?_; (with_reducible refine (laws_eqShotS.calls kj18 _ _ t917 _ _ t931 true _ ?side1 ?side2 ?side3 ?side4 A50.out).mono ?_); (case side1 => repeat (first | exact (Kd.R_reads' HO_9.out).2.2 | (with_reducible refine Kd.C_alloc ?_ _) | (with_reducible refine Kd.C_drewN ?_ _) | (with_reducible refine Kd.C_drew ?_))); (case side2 => exact (Kd.R_reads' HO_9.out).2.1); (case side3 => repeat (first | exact (Kd.R_reads' HO933.out).2.2 | (with_reducible refine Kd.C_alloc ?_ _) | (with_reducible refine Kd.C_drewN ?_ _) | (with_reducible refine Kd.C_drew ?_))); (case side4 => exact (Kd.R_reads' HO933.out).2.1); rintro e w61 ⟨rfl, hb⟩; refine ⟨_, rfl, ?_⟩; have n0_ := Aside0.mk (Kd.R_below (by (with_reducible repeat (first | apply Kd.R_alloc | apply Kd.R_drewN | apply Kd.R_drew)); exact HO_6.out) hb); have n1_ := Aside0.mk (Kd.R_below (by (with_reducible repeat (first | apply Kd.R_alloc | apply Kd.R_drewN | apply Kd.R_drew)); exact HO_9.out) hb); have n2_ := Aside0.mk (Kd.R_below (by (with_reducible repeat (first | apply Kd.R_alloc | apply Kd.R_drewN | apply Kd.R_drew)); exact HO_10.out) hb); have n3_ := Aside0.mk (Kd.R_below (by (with_reducible repeat (first | apply Kd.R_alloc | apply Kd.R_drewN | apply Kd.R_drew)); exact HO_917002.out) hb); have n4_ := Aside0.mk (Kd.R_below (by (with_reducible repeat (first | apply Kd.R_alloc | apply Kd.R_drewN | apply Kd.R_drew)); exact HO929.out) hb); have n5_ := Aside0.mk (Kd.R_below (by (with_reducible repeat (first | apply Kd.R_alloc | apply Kd.R_drewN | apply Kd.R_drew)); exact HO933.out) hb); have n6_ := Aside0.mk (blk_below (g := gb896) (o := .cells #[.int .i64 a0_0, .int .i64 a0_1, .slice A0_2 l0_2.length c0_2] 24 (0, 0)) (by (with_reducible repeat (first | refine blk_drewN ?_ _ | refine blk_drew ?_ | refine blk_alloc ?_ _)); exact BK896.out) hb); have n7_ := Aside0.mk (blk_below (g := gb916) (o := .cells #[.int .i64 t911, .int .i64 t912, .slice Ao34 t913.length co34] 28 (0, 0)) (by (with_reducible repeat (first | refine blk_drewN ?_ _ | refine blk_drew ?_ | refine blk_alloc ?_ _)); exact BK916.out) hb); have n8_ := Aside0.mk (below_step (by repeat (first | (with_reducible first | exact HB.out | apply below_alloc | apply pw_below_drewN | apply below_drew1 | refine below_set ?_ GE896.out | refine below_set ?_ GE916.out) | exact HB.out)) hb); clear HO_6; clear HO_9; clear HO_10; clear HO_917002; clear HO929; clear HO933; clear BK896; clear BK916; clear HB; have HO_6 := n0_; have HO_9 := n1_; have HO_10 := n2_; have HO_917002 := n3_; have HO929 := n4_; have HO933 := n5_; have BK896 := n6_; have BK916 := n7_; have HB := n8_; clear n0_ n1_ n2_ n3_ n4_ n5_ n6_ n7_ n8_; (try clear hb); (try clear hb2); (try clear hk); (try clear hi); have hnb62 := NB916_896.out; have hnc62 := NB896_916.out; have hcz63_0 : w61.cell? ⟨gb916, 0, none⟩ = some (.int .i64 t911) := (blk_cell BK916.out 0).trans rfl; have hcz63_1 : w61.cell? ⟨gb916, 1, none⟩ = some (.int .i64 t912) := (blk_cell BK916.out 1).trans rfl; have hcz63_2 : w61.cell? ⟨gb916, 2, none⟩ = some (.slice Ao34 t913.length co34) := (blk_cell BK916.out 2).trans rfl; have hfz63_0 := blk_frozen BK916.out 0; have hfz63_1 := blk_frozen BK916.out 1; have hfz63_2 := blk_frozen BK916.out 2) | ((with_reducible refine gate_callee (f := 21) rfl ?_); refine goesA_ (some 66) rfl rfl Try.func21 (by kernel_rfl) rfl #[.agg #[.int .i64 t911, .int .i64 t912, .slice Ao34 t913.length co34], .int .i64 1] rfl ?_; (with_reducible refine (laws_markSea.calls kj18 t911 t912 (fun k_ => some k_ = (.slice Ao34 t913.length co34 : Value).ownBlock) (.slice Ao34 t913.length co34) t913 1 t935 t936 w _ ?side1 ?side2 A52.out).mono ?_); (case side1 => repeat (first | (with_reducible first | exact HB.out | apply below_alloc | apply pw_below_drewN | apply below_drew1 | refine below_set ?_ GE896.out | refine below_set ?_ GE916.out) | exact HB.out)); (case side2 => exact Kd.R_tight rfl HO_917002.out); rintro e w64 ⟨rfl, hy0, hb, hkp⟩; refine ⟨_, rfl, ?_⟩; have n0_ := Aside0.mk (Kd.R_mono (ok' := fun k_ => some k_ ≠ (v921 : Value).ownBlock ∧ some k_ ≠ (.slice Ao34 t913.length co34 : Value).ownBlock ∧ some k_ ≠ (.slice Ao57 t927.length co57 : Value).ownBlock) (Kd.R_keptB (HO_6.out) hkp (fun k_ hk_ hs_ => (hk_.1.2) hs_)) (fun k_ hk_ => ⟨hk_.1.1.1, hk_.1.1.2, hk_.1.2⟩)); have n1_ := Aside0.mk (Kd.R_mono (ok' := fun k_ => some k_ ≠ (.slice Ao60 t931.length co60 : Value).ownBlock) (Kd.R_keptB ((Kd.R_apart' HO_9.out (Kd.R_typed HO_917002.out) (by decide))) hkp (fun k_ hk_ hs_ => (hk_.2) hs_)) (fun k_ hk_ => hk_.1.1.2)); have n2_ := Aside0.mk (Kd.R_mono (ok' := fun k_ => some k_ ≠ (v908 : Value).ownBlock ∧ some k_ ≠ (.slice Ao34 t913.length co34 : Value).ownBlock ∧ some k_ ≠ (.slice Ao57 t927.length co57 : Value).ownBlock) (Kd.R_keptB (HO_10.out) hkp (fun k_ hk_ hs_ => (hk_.1.2) hs_)) (fun k_ hk_ => ⟨hk_.1.1.1, hk_.1.1.2, hk_.1.2⟩)); have n3_ := Aside0.mk (Kd.R_reok rfl hy0 (fun k_ e_ => HO_917002.out.1 k_ e_)); have n4_ := Aside0.mk (blk_kept (by (with_reducible repeat (first | refine blk_drewN ?_ _ | refine blk_drew ?_ | refine blk_alloc ?_ _)); exact BK896.out) hkp (fun hs_ => (fun e_ => (Kd.R_ne HO_917002.out BK896.out (by decide)) e_) hs_)); have n5_ := Aside0.mk (blk_kept (by (with_reducible repeat (first | refine blk_drewN ?_ _ | refine blk_drew ?_ | refine blk_alloc ?_ _)); exact BK916.out) hkp (fun hs_ => (fun e_ => (Kd.R_ne HO_917002.out BK916.out (by decide)) e_) hs_)); have n6_ := Aside0.mk (Kd.R_mono (ok' := fun k_ => some k_ ≠ (v908 : Value).ownBlock ∧ some k_ ≠ (v921 : Value).ownBlock ∧ some k_ ≠ (.slice Ao34 t913.length co34 : Value).ownBlock) (Kd.R_keptB (HO929.out) hkp (fun k_ hk_ hs_ => (hk_.2) hs_)) (fun k_ hk_ => ⟨hk_.1.1.1.2, hk_.1.1.2, hk_.1.2⟩)); have n7_ := Aside0.mk (Kd.R_mono (ok' := fun k_ => some k_ ≠ (.slice Ao37 t917.length co37 : Value).ownBlock) (Kd.R_keptB ((Kd.R_apart' HO933.out (Kd.R_typed HO_917002.out) (by decide))) hkp (fun k_ hk_ hs_ => (hk_.2) hs_)) (fun k_ hk_ => hk_.1.1.2)); have n8_ := Aside0.mk (hb); clear HO_6; clear HO_9; clear HO_10; clear HO_917002; clear BK896; clear BK916; clear HO929; clear HO933; clear HB; have HO_6 := n0_; have HO_9 := n1_; have HO_10 := n2_; have HO_917002 := n3_; have BK896 := n4_; have BK916 := n5_; have HO929 := n6_; have HO933 := n7_; have HB := n8_; clear n0_ n1_ n2_ n3_ n4_ n5_ n6_ n7_ n8_; (try clear hb); (try clear hkp); (try clear hy0)) | ((with_reducible refine gate_callee (f := 49) rfl ?_); refine goesA_ (some 69) rfl rfl Try.func49 (by kernel_rfl) rfl #[.slice Ao37 t917.length co37, .int .i64 t935] rfl ?_; (with_reducible refine (laws_markShotS.calls kj18 (fun k_ => some k_ = (.slice Ao37 t917.length co37 : Value).ownBlock) (.slice Ao37 t917.length co37) t917 t935 t937 t938 w _ ?side1 ?side2 A53.out).mono ?_); (case side1 => repeat (first | (with_reducible first | exact HB.out | apply below_alloc | apply pw_below_drewN | apply below_drew1 | refine below_set ?_ GE896.out | refine below_set ?_ GE916.out) | exact HB.out)); (case side2 => exact Kd.R_tight rfl HO_9.out); rintro e w65 ⟨rfl, hy0, hb, hkp⟩; refine ⟨_, rfl, ?_⟩; have n0_ := Aside0.mk (Kd.R_mono (ok' := fun k_ => some k_ ≠ (v921 : Value).ownBlock ∧ some k_ ≠ (.slice Ao34 t913.length co34 : Value).ownBlock ∧ some k_ ≠ (.slice Ao57 t927.length co57 : Value).ownBlock) (Kd.R_keptB ((Kd.R_apart' HO_6.out (Kd.R_typed HO_9.out) (by decide))) hkp (fun k_ hk_ hs_ => (hk_.2) hs_)) (fun k_ hk_ => ⟨hk_.1.1.1, hk_.1.1.2.1, hk_.1.1.2.2⟩)); have n1_ := Aside0.mk (Kd.R_reok rfl hy0 (fun k_ e_ => HO_9.out.1 k_ e_)); have n2_ := Aside0.mk (Kd.R_mono (ok' := fun k_ => some k_ ≠ (v908 : Value).ownBlock ∧ some k_ ≠ (.slice Ao34 t913.length co34 : Value).ownBlock ∧ some k_ ≠ (.slice Ao57 t927.length co57 : Value).ownBlock) (Kd.R_keptB ((Kd.R_apart' HO_10.out (Kd.R_typed HO_9.out) (by decide))) hkp (fun k_ hk_ hs_ => (hk_.2) hs_)) (fun k_ hk_ => ⟨hk_.1.1.1, hk_.1.1.2.1, hk_.1.1.2.2⟩)); have n3_ := Aside0.mk (Kd.R_mono (ok' := fun k_ => some k_ ≠ (v908 : Value).ownBlock ∧ some k_ ≠ (v921 : Value).ownBlock ∧ some k_ ≠ (.slice Ao57 t927.length co57 : Value).ownBlock) (Kd.R_keptB ((Kd.R_apart' HO_917002.out (Kd.R_typed HO_9.out) (by decide))) hkp (fun k_ hk_ hs_ => (hk_.2) hs_)) (fun k_ hk_ => ⟨hk_.1.1.1.1, hk_.1.1.1.2, hk_.1.1.2⟩)); have n4_ := Aside0.mk (blk_kept (by (with_reducible repeat (first | refine blk_drewN ?_ _ | refine blk_drew ?_ | refine blk_alloc ?_ _)); exact BK896.out) hkp (fun hs_ => (fun e_ => (Kd.R_ne HO_9.out BK896.out (by decide)) e_) hs_)); have n5_ := Aside0.mk (blk_kept (by (with_reducible repeat (first | refine blk_drewN ?_ _ | refine blk_drew ?_ | refine blk_alloc ?_ _)); exact BK916.out) hkp (fun hs_ => (fun e_ => (Kd.R_ne HO_9.out BK916.out (by decide)) e_) hs_)); have n6_ := Aside0.mk (Kd.R_mono (ok' := fun k_ => some k_ ≠ (v908 : Value).ownBlock ∧ some k_ ≠ (v921 : Value).ownBlock ∧ some k_ ≠ (.slice Ao34 t913.length co34 : Value).ownBlock) (Kd.R_keptB ((Kd.R_apart' HO929.out (Kd.R_typed HO_9.out) (by decide))) hkp (fun k_ hk_ hs_ => (hk_.2) hs_)) (fun k_ hk_ => ⟨hk_.1.1.1, hk_.1.1.2.1, hk_.1.1.2.2⟩)); have n7_ := Aside0.mk (Kd.R_mono (ok' := fun k_ => some k_ ≠ (.slice Ao37 t917.length co37 : Value).ownBlock) (Kd.R_keptB (HO933.out) hkp (fun k_ hk_ hs_ => (hk_) hs_)) (fun k_ hk_ => hk_.1)); have n8_ := Aside0.mk (hb); clear HO_6; clear HO_9; clear HO_10; clear HO_917002; clear BK896; clear BK916; clear HO929; clear HO933; clear HB; have HO_6 := n0_; have HO_9 := n1_; have HO_10 := n2_; have HO_917002 := n3_; have BK896 := n4_; have BK916 := n5_; have HO929 := n6_; have HO933 := n7_; have HB := n8_; clear n0_ n1_ n2_ n3_ n4_ n5_ n6_ n7_ n8_; (try clear hb); (try clear hkp); (try clear hy0)))
        (try simp only [Act.put, List.setIfInBounds_toArray, List.set_cons_zero, List.set_cons_succ])
        go_cut [82] (fun v82 wc => ∃ (kq : Nat) (x82_53 : Bool), v82 = .bool x82_53 ∧ Aside0 (laws_FnExactSharesOf.j1 kq l1 t907 t910 t920 x82_53 a0_0 a0_1 l0_2 = some true) ∧ Aside0 (kq ≤ kj18) ∧ Aside0 (Kd.R (Kd.int .i64) 2 wc w.heap.size (fun k_ => some k_ ≠ (v921 : Value).ownBlock ∧ some k_ ≠ ((.slice Ao34 t913.length co34) : Value).ownBlock) v908 t907) ∧ Aside0 (Kd.R (Kd.int .i64) 2 wc w.heap.size (fun k_ => some k_ ≠ (v908 : Value).ownBlock ∧ some k_ ≠ ((.slice Ao34 t913.length co34) : Value).ownBlock) v921 t920) ∧ Aside0 (Kd.R (Kd.int .i64) 2 wc w.heap.size (fun k_ => some k_ ≠ (v908 : Value).ownBlock ∧ some k_ ≠ (v921 : Value).ownBlock) (.slice Ao34 t913.length co34) t936) ∧ Aside0 (wc.heap[gb896]? = some (.cells #[.int .i64 a0_0, .int .i64 a0_1, (.slice A0_2 l0_2.length c0_2)] 24 (0, 0))) ∧ Aside0 (wc.heap[gb916]? = some (.cells #[.int .i64 t911, .int .i64 t912, (.slice Ao34 t913.length co34)] 28 (0, 0))) ∧ Aside0 (Below w.heap.size w wc))
        case first =>
         have H := HC54.out
         clear HC54
         by_cases c66 : t937 < 0
         ·rw [if_pos c66] at H
          have c66b0 : decide (t937 < 0) = true := decide_eq_true c66
          clear c66
          (first | rw [c66b0] | (simp only [i64_w, i32_w]; rw [c66b0]) | skip)
          have H' := Aside0.mk H
          clear H
          go_wp2
          go_meet
          case rel => exact ⟨_, (true), (by first | rfl | (simp; done) | (simp [*]; done)), H', ⟨by have := HJ18.out; first | omega | exact Nat.le_refl _⟩, ⟨by (with_reducible repeat (first | apply Kd.R_alloc | apply Kd.R_drewN | apply Kd.R_drew)); exact Kd.R_mono HO_6.out (fun _ hk => ⟨hk.1, hk.2.1⟩)⟩, ⟨by (with_reducible repeat (first | apply Kd.R_alloc | apply Kd.R_drewN | apply Kd.R_drew)); exact Kd.R_mono HO_10.out (fun _ hk => ⟨hk.1, hk.2.1⟩)⟩, ⟨by (with_reducible repeat (first | apply Kd.R_alloc | apply Kd.R_drewN | apply Kd.R_drew)); exact Kd.R_mono HO_917002.out (fun _ hk => ⟨hk.1, hk.2.1⟩)⟩, ⟨by (with_reducible repeat (first | refine blk_drewN ?_ _ | refine blk_drew ?_ | refine blk_alloc ?_ _)); exact BK896.out⟩, ⟨by (with_reducible repeat (first | refine blk_drewN ?_ _ | refine blk_drew ?_ | refine blk_alloc ?_ _)); exact BK916.out⟩, ⟨by repeat (first | (with_reducible first | exact HB.out | apply below_alloc | apply pw_below_drewN | apply below_drew1 | refine below_set ?_ GE896.out | refine below_set ?_ GE916.out) | exact HB.out)⟩⟩
         ·rw [if_neg c66] at H
          have c66b0 : decide (t937 < 0) = false := decide_eq_false c66
          clear c66
          (first | rw [c66b0] | (simp only [i64_w, i32_w]; rw [c66b0]) | skip)
          replace H := Option.bind_eq_some_iff.mp H
          obtain ⟨t939, A670, H⟩ := H
          replace H : (if t939 = true then (laws_FnExactSharesOf.j1 kj18 l1 t907 t910 t920 (t923 != t910) a0_0 a0_1 l0_2) else (laws_FnExactSharesOf.j1 kj18 l1 t907 t910 t920 true a0_0 a0_1 l0_2)) = some true := H
          have A67 := Aside0.mk A670
          clear A670
          by_cases c68 : t939 = true
          ·subst c68
           have H1 : (laws_FnExactSharesOf.j1 kj18 l1 t907 t910 t920 (t923 != t910) a0_0 a0_1 l0_2) = some true := by rw [if_pos rfl] at H; exact H
           clear H
           have H := H1
           clear H1
           have H' := Aside0.mk H
           clear H
           obtain ⟨Ao69, co69, eo69⟩ := Kd.R_slice HO_10.out
           subst eo69
           obtain ⟨Ao70, co70, eo70⟩ := Kd.R_slice HO_6.out
           subst eo70
           go_wp2_with (first | (go_at_call 19; (with_reducible refine (laws_eqInt64S.calls kj18 _ _ t920 _ _ t907 true _ ?side1 ?side2 ?side3 ?side4 A67.out).mono ?_); (case side1 => repeat (first | exact (Kd.R_reads' HO_10.out).2.2 | (with_reducible refine Kd.C_alloc ?_ _) | (with_reducible refine Kd.C_drewN ?_ _) | (with_reducible refine Kd.C_drew ?_))); (case side2 => exact (Kd.R_reads' HO_10.out).2.1); (case side3 => repeat (first | exact (Kd.R_reads' HO_6.out).2.2 | (with_reducible refine Kd.C_alloc ?_ _) | (with_reducible refine Kd.C_drewN ?_ _) | (with_reducible refine Kd.C_drew ?_))); (case side4 => exact (Kd.R_reads' HO_6.out).2.1); rintro e w' ⟨rfl, ⟨nd, rfl⟩⟩))
           go_meet
           case rel => exact ⟨_, ((t923 != t910)), (by first | rfl | (simp; done) | (simp [*]; done)), H', ⟨by have := HJ18.out; first | omega | exact Nat.le_refl _⟩, ⟨by (with_reducible repeat (first | apply Kd.R_alloc | apply Kd.R_drewN | apply Kd.R_drew)); exact Kd.R_mono HO_6.out (fun _ hk => ⟨hk.1, hk.2.1⟩)⟩, ⟨by (with_reducible repeat (first | apply Kd.R_alloc | apply Kd.R_drewN | apply Kd.R_drew)); exact Kd.R_mono HO_10.out (fun _ hk => ⟨hk.1, hk.2.1⟩)⟩, ⟨by (with_reducible repeat (first | apply Kd.R_alloc | apply Kd.R_drewN | apply Kd.R_drew)); exact Kd.R_mono HO_917002.out (fun _ hk => ⟨hk.1, hk.2.1⟩)⟩, ⟨by (with_reducible repeat (first | refine blk_drewN ?_ _ | refine blk_drew ?_ | refine blk_alloc ?_ _)); exact BK896.out⟩, ⟨by (with_reducible repeat (first | refine blk_drewN ?_ _ | refine blk_drew ?_ | refine blk_alloc ?_ _)); exact BK916.out⟩, ⟨by repeat (first | (with_reducible first | exact HB.out | apply below_alloc | apply pw_below_drewN | apply below_drew1 | refine below_set ?_ GE896.out | refine below_set ?_ GE916.out) | exact HB.out)⟩⟩
          ·replace c68 := Bool.eq_false_iff.mpr c68
           subst c68
           have H1 : (laws_FnExactSharesOf.j1 kj18 l1 t907 t910 t920 true a0_0 a0_1 l0_2) = some true := by rw [if_neg (show ¬ (false = true) by decide)] at H; exact H
           clear H
           have H := H1
           clear H1
           have H' := Aside0.mk H
           clear H
           obtain ⟨Ao71, co71, eo71⟩ := Kd.R_slice HO_10.out
           subst eo71
           obtain ⟨Ao72, co72, eo72⟩ := Kd.R_slice HO_6.out
           subst eo72
           go_wp2_with (first | (go_at_call 19; (with_reducible refine (laws_eqInt64S.calls kj18 _ _ t920 _ _ t907 false _ ?side1 ?side2 ?side3 ?side4 A67.out).mono ?_); (case side1 => repeat (first | exact (Kd.R_reads' HO_10.out).2.2 | (with_reducible refine Kd.C_alloc ?_ _) | (with_reducible refine Kd.C_drewN ?_ _) | (with_reducible refine Kd.C_drew ?_))); (case side2 => exact (Kd.R_reads' HO_10.out).2.1); (case side3 => repeat (first | exact (Kd.R_reads' HO_6.out).2.2 | (with_reducible refine Kd.C_alloc ?_ _) | (with_reducible refine Kd.C_drewN ?_ _) | (with_reducible refine Kd.C_drew ?_))); (case side4 => exact (Kd.R_reads' HO_6.out).2.1); rintro e w' ⟨rfl, ⟨nd, rfl⟩⟩))
           go_meet
           case rel => exact ⟨_, (true), (by first | rfl | (simp; done) | (simp [*]; done)), H', ⟨by have := HJ18.out; first | omega | exact Nat.le_refl _⟩, ⟨by (with_reducible repeat (first | apply Kd.R_alloc | apply Kd.R_drewN | apply Kd.R_drew)); exact Kd.R_mono HO_6.out (fun _ hk => ⟨hk.1, hk.2.1⟩)⟩, ⟨by (with_reducible repeat (first | apply Kd.R_alloc | apply Kd.R_drewN | apply Kd.R_drew)); exact Kd.R_mono HO_10.out (fun _ hk => ⟨hk.1, hk.2.1⟩)⟩, ⟨by (with_reducible repeat (first | apply Kd.R_alloc | apply Kd.R_drewN | apply Kd.R_drew)); exact Kd.R_mono HO_917002.out (fun _ hk => ⟨hk.1, hk.2.1⟩)⟩, ⟨by (with_reducible repeat (first | refine blk_drewN ?_ _ | refine blk_drew ?_ | refine blk_alloc ?_ _)); exact BK896.out⟩, ⟨by (with_reducible repeat (first | refine blk_drewN ?_ _ | refine blk_drew ?_ | refine blk_alloc ?_ _)); exact BK916.out⟩, ⟨by repeat (first | (with_reducible first | exact HB.out | apply below_alloc | apply pw_below_drewN | apply below_drew1 | refine below_set ?_ GE896.out | refine below_set ?_ GE916.out) | exact HB.out)⟩⟩
        case rest =>
         clear HC54
         (try clear c1); (try clear c2); (try clear p2); (try clear c3); (try clear c4); (try clear c4b0); (try clear c5); (try clear c6); (try clear c9); (try clear c9b0); (try clear c12); (try clear c15); (try clear c17); (try clear c19); (try clear c20); (try clear c21); (try clear c32); (try clear c40); (try clear c42); (try clear c44); (try clear c45); (try clear c47); (try clear c48); (try clear c49); (try clear c51); (try clear c62); (try clear c66); (try clear c66b0); (try clear c68); (try clear hcz11_0); (try clear hcz11_1); (try clear hcz11_2); (try clear hcz21_0); (try clear hcz21_1); (try clear hcz21_2); (try clear hcz23_0); (try clear hcz23_1); (try clear hcz23_2); (try clear hcz29_0); (try clear hcz29_1); (try clear hcz29_2); (try clear hcz33_0); (try clear hcz33_1); (try clear hcz33_2); (try clear hcz36_0); (try clear hcz36_1); (try clear hcz36_2); (try clear hcz63_0); (try clear hcz63_1); (try clear hcz63_2); (try clear hcz6_0); (try clear hcz6_1); (try clear hcz6_2); (try clear hfz11_0); (try clear hfz11_1); (try clear hfz11_2); (try clear hfz21_0); (try clear hfz21_1); (try clear hfz21_2); (try clear hfz23_0); (try clear hfz23_1); (try clear hfz23_2); (try clear hfz29_0); (try clear hfz29_1); (try clear hfz29_2); (try clear hfz33_0); (try clear hfz33_1); (try clear hfz33_2); (try clear hfz36_0); (try clear hfz36_1); (try clear hfz36_2); (try clear hfz63_0); (try clear hfz63_1); (try clear hfz63_2); (try clear hfz6_0); (try clear hfz6_1); (try clear hfz6_2); (try clear p2)
         obtain ⟨kq, x82_53, rfl, HA, HJ53, HO_6, HO_10, HO_917002, BK896, BK916, HB⟩ := hcut
         have hl917002_53 := (Kd.R_reads' HO_917002.out).1
         rw [hl917002_53] at HO_917002
         (try simp only [hl917002_53])
         (try simp only [hl917002_53] at BK896)
         (try simp only [hl917002_53] at BK916)
         (try simp only [hl917002_53] at HO_6)
         (try simp only [hl917002_53] at HO_10)
         cases kq with
         | zero => exact absurd HA.out (by simp [laws_FnExactSharesOf.j1])
         | succ kj53 =>
          have H := HA.out
          clear HA
          simp only [laws_FnExactSharesOf.j1] at H
          by_cases c73 : x82_53 = true
          ·subst c73
           have H1 : (some false) = some true := by rw [if_pos rfl] at H; exact H
           clear H
           have H := H1
           clear H1
           exact absurd H (by simp)
          ·replace c73 := Bool.eq_false_iff.mpr c73
           subst c73
           have H1 : ((laws_markInt64S.f kj53 t920 1).bind fun bt940 => ((laws_heldInt64S.f kj53 bt940.2 1).bind fun t942 => (if t942 < 0 then (some false) else (if t942 = bt940.1 then ((laws_toSea.f kj53 a0_0 a0_1 l0_2).bind fun bt943 => ((laws_toShotS.f kj53 l1).bind fun t948 => ((impl_SharesOf.f kj53 bt943.1 bt943.2.1 bt943.2.2 t948).bind fun bt951 => ((laws_eqInt64S.f kj53 bt951.1 t907).bind fun t955 => (if t955 = true then (laws_FnExactSharesOf.j2 kj53 bt940.2 bt940.1 (bt951.2 != t910)) else (laws_FnExactSharesOf.j2 kj53 bt940.2 bt940.1 true)))))) else (some false))))) = some true := by rw [if_neg (show ¬ (false = true) by decide)] at H; exact H
           clear H
           have H := H1
           clear H1
           replace H := Option.bind_eq_some_iff.mp H
           obtain ⟨⟨t940, t941⟩, A740, H⟩ := H
           replace H : ((laws_heldInt64S.f kj53 t941 1).bind fun t942 => (if t942 < 0 then (some false) else (if t942 = t940 then ((laws_toSea.f kj53 a0_0 a0_1 l0_2).bind fun bt943 => ((laws_toShotS.f kj53 l1).bind fun t948 => ((impl_SharesOf.f kj53 bt943.1 bt943.2.1 bt943.2.2 t948).bind fun bt951 => ((laws_eqInt64S.f kj53 bt951.1 t907).bind fun t955 => (if t955 = true then (laws_FnExactSharesOf.j2 kj53 t941 t940 (bt951.2 != t910)) else (laws_FnExactSharesOf.j2 kj53 t941 t940 true)))))) else (some false)))) = some true := H
           have A74 := Aside0.mk A740
           clear A740
           replace H := Option.bind_eq_some_iff.mp H
           obtain ⟨t942, A750, H⟩ := H
           replace H : (if t942 < 0 then (some false) else (if t942 = t940 then ((laws_toSea.f kj53 a0_0 a0_1 l0_2).bind fun bt943 => ((laws_toShotS.f kj53 l1).bind fun t948 => ((impl_SharesOf.f kj53 bt943.1 bt943.2.1 bt943.2.2 t948).bind fun bt951 => ((laws_eqInt64S.f kj53 bt951.1 t907).bind fun t955 => (if t955 = true then (laws_FnExactSharesOf.j2 kj53 t941 t940 (bt951.2 != t910)) else (laws_FnExactSharesOf.j2 kj53 t941 t940 true)))))) else (some false))) = some true := H
           have A75 := Aside0.mk A750
           clear A750
           by_cases c76 : t942 < 0
           ·rw [if_pos c76] at H
            have c76b0 : decide (t942 < 0) = true := decide_eq_true c76
            clear c76
            exact absurd H (by simp)
           ·rw [if_neg c76] at H
            have c76b0 : decide (t942 < 0) = false := decide_eq_false c76
            clear c76
            by_cases c79 : t942 = t940
            ·rw [if_pos c79] at H
             have c79b0 : (t942 == t940) = true := beq_iff_eq.mpr c79
             have c79b1 : (t942 != t940) = false := bne_eq_false_iff_eq.mpr c79
             clear c79
             replace H := Option.bind_eq_some_iff.mp H
             obtain ⟨⟨t943, t944, t945⟩, A800, H⟩ := H
             replace H : ((laws_toShotS.f kj53 l1).bind fun t948 => ((impl_SharesOf.f kj53 t943 t944 t945 t948).bind fun bt951 => ((laws_eqInt64S.f kj53 bt951.1 t907).bind fun t955 => (if t955 = true then (laws_FnExactSharesOf.j2 kj53 t941 t940 (bt951.2 != t910)) else (laws_FnExactSharesOf.j2 kj53 t941 t940 true))))) = some true := H
             have A80 := Aside0.mk A800
             clear A800
             replace H := Option.bind_eq_some_iff.mp H
             obtain ⟨t948, A810, H⟩ := H
             replace H : ((impl_SharesOf.f kj53 t943 t944 t945 t948).bind fun bt951 => ((laws_eqInt64S.f kj53 bt951.1 t907).bind fun t955 => (if t955 = true then (laws_FnExactSharesOf.j2 kj53 t941 t940 (bt951.2 != t910)) else (laws_FnExactSharesOf.j2 kj53 t941 t940 true)))) = some true := H
             have A81 := Aside0.mk A810
             clear A810
             replace H := Option.bind_eq_some_iff.mp H
             obtain ⟨⟨t951, t954⟩, A820, H⟩ := H
             replace H : ((laws_eqInt64S.f kj53 t951 t907).bind fun t955 => (if t955 = true then (laws_FnExactSharesOf.j2 kj53 t941 t940 (t954 != t910)) else (laws_FnExactSharesOf.j2 kj53 t941 t940 true))) = some true := H
             have A82 := Aside0.mk A820
             clear A820
             have HC83 := Aside0.mk H
             clear H
             obtain ⟨Ao84, co84, eo84⟩ := Kd.R_slice HO_10.out
             subst eo84
             go_upto_region 32 with (first | ((with_reducible refine gate_callee (f := 22) rfl ?_); refine goesA_ (some 85) rfl rfl Try.func22 (by kernel_rfl) rfl #[.slice Ao84 t920.length co84, .int .i64 1] rfl ?_; (with_reducible refine (laws_markInt64S.calls kj53 (fun k_ => some k_ = (.slice Ao84 t920.length co84 : Value).ownBlock) (.slice Ao84 t920.length co84) t920 1 t940 t941 w _ ?side1 ?side2 A74.out).mono ?_); (case side1 => repeat (first | (with_reducible first | exact HB.out | apply below_alloc | apply pw_below_drewN | apply below_drew1 | refine below_set ?_ GE896.out | refine below_set ?_ GE916.out) | exact HB.out)); (case side2 => exact Kd.R_tight rfl HO_10.out); rintro e w85 ⟨rfl, hy0, hb, hkp⟩; refine ⟨_, rfl, ?_⟩; have n0_ := Aside0.mk (Kd.R_mono (ok' := fun k_ => some k_ ≠ (.slice Ao84 t920.length co84 : Value).ownBlock ∧ some k_ ≠ (.slice Ao34 t936.length co34 : Value).ownBlock) (Kd.R_keptB (HO_6.out) hkp (fun k_ hk_ hs_ => (hk_.1) hs_)) (fun k_ hk_ => ⟨hk_.1.1, hk_.1.2⟩)); have n1_ := Aside0.mk (Kd.R_reok rfl hy0 (fun k_ e_ => HO_10.out.1 k_ e_)); have n2_ := Aside0.mk (Kd.R_mono (ok' := fun k_ => some k_ ≠ (v908 : Value).ownBlock ∧ some k_ ≠ (.slice Ao84 t920.length co84 : Value).ownBlock) (Kd.R_keptB (HO_917002.out) hkp (fun k_ hk_ hs_ => (hk_.2) hs_)) (fun k_ hk_ => ⟨hk_.1.1, hk_.1.2⟩)); have n3_ := Aside0.mk (blk_kept (by (with_reducible repeat (first | refine blk_drewN ?_ _ | refine blk_drew ?_ | refine blk_alloc ?_ _)); exact BK896.out) hkp (fun hs_ => (fun e_ => (Kd.R_ne HO_10.out BK896.out (by decide)) e_) hs_)); have n4_ := Aside0.mk (blk_kept (by (with_reducible repeat (first | refine blk_drewN ?_ _ | refine blk_drew ?_ | refine blk_alloc ?_ _)); exact BK916.out) hkp (fun hs_ => (fun e_ => (Kd.R_ne HO_10.out BK916.out (by decide)) e_) hs_)); have n5_ := Aside0.mk (hb); clear HO_6; clear HO_10; clear HO_917002; clear BK896; clear BK916; clear HB; have HO_6 := n0_; have HO_10 := n1_; have HO_917002 := n2_; have BK896 := n3_; have BK916 := n4_; have HB := n5_; clear n0_ n1_ n2_ n3_ n4_ n5_; (try clear hb); (try clear hkp); (try clear hy0)) | ((with_reducible refine gate_callee (f := 23) rfl ?_); refine goesL_ (some 88) rfl rfl Try.func23 (by kernel_rfl) rfl #[.slice Ao84 t941.length co84, .int .i64 1] rfl (by (try simp only [List.map_toArray, List.map_cons, List.map_nil]); first | done | (rw [show t941.length = t920.length from (Kd.R_reads' HO_10.out).1.symm] <;> rfl) | rfl | (simp only [List.length_drop, List.length_take]; rfl)) ?_; (with_reducible refine (laws_heldInt64S.calls kj53 _ _ t941 1 t942 _ ?side1 ?side2 A75.out).mono ?_); (case side1 => repeat (first | exact (Kd.R_reads' HO_10.out).2.2 | (with_reducible refine Kd.C_alloc ?_ _) | (with_reducible refine Kd.C_drewN ?_ _) | (with_reducible refine Kd.C_drew ?_))); (case side2 => rw [show t941.length = t920.length from (Kd.R_reads' HO_10.out).1.symm]; exact (Kd.R_reads' HO_10.out).2.1); rintro e w' ⟨rfl, ⟨nd, rfl⟩⟩; refine ⟨_, rfl, ?_⟩; have hnb86 := NB896_916.out; have hnc86 := NB916_896.out; have hcz87_0 : w85.cell? ⟨gb896, 0, none⟩ = some (.int .i64 a0_0) := (blk_cell BK896.out 0).trans rfl; have hcz87_1 : w85.cell? ⟨gb896, 1, none⟩ = some (.int .i64 a0_1) := (blk_cell BK896.out 1).trans rfl; have hcz87_2 : w85.cell? ⟨gb896, 2, none⟩ = some (.slice A0_2 l0_2.length c0_2) := (blk_cell BK896.out 2).trans rfl; have hfz87_0 := blk_frozen BK896.out 0; have hfz87_1 := blk_frozen BK896.out 1; have hfz87_2 := blk_frozen BK896.out 2) | ((with_reducible refine gate_callee (f := 17) rfl ?_); refine goesA_ (some 96) rfl rfl Try.func17 (by kernel_rfl) rfl #[.agg #[.int .i64 a0_0, .int .i64 a0_1, .slice A0_2 l0_2.length c0_2]] rfl ?_; (with_reducible refine (laws_toSea.calls kj53 a0_0 a0_1 _ _ l0_2 t943 t944 t945 _ ?side1 ?side2 A80.out).mono ?_); (case side1 => repeat (first | exact (Kd.C_below HR0_2.out (by repeat (first | (with_reducible first | exact HB.out | apply below_alloc | apply pw_below_drewN | apply below_drew1 | refine below_set ?_ GE896.out | refine below_set ?_ GE916.out) | exact HB.out))) | (with_reducible refine Kd.C_alloc ?_ _) | (with_reducible refine Kd.C_drewN ?_ _) | (with_reducible refine Kd.C_drew ?_))); (case side2 => exact HC0_2.out); rintro e w88 ⟨v946, rfl, ho0, hb⟩; refine ⟨_, rfl, ?_⟩; have n0_ := Aside0.mk (Kd.R_elder' (by (with_reducible repeat (first | apply Kd.R_alloc | apply Kd.R_drewN | apply Kd.R_drew)); exact HO_6.out) (Kd.R_base ho0) hb); have n1_ := Aside0.mk (Kd.R_elder' (by (with_reducible repeat (first | apply Kd.R_alloc | apply Kd.R_drewN | apply Kd.R_drew)); exact HO_10.out) (Kd.R_base ho0) hb); have n2_ := Aside0.mk (Kd.R_elder' (by (with_reducible repeat (first | apply Kd.R_alloc | apply Kd.R_drewN | apply Kd.R_drew)); exact HO_917002.out) (Kd.R_base ho0) hb); have n3_ := Aside0.mk (Kd.R_lower (Kd.R_new' (Kd.R_new' (Kd.R_new' ho0 (Kd.R_lt (by (with_reducible repeat (first | apply Kd.R_alloc | apply Kd.R_drewN | apply Kd.R_drew)); exact HO_6.out))) (Kd.R_lt (by (with_reducible repeat (first | apply Kd.R_alloc | apply Kd.R_drewN | apply Kd.R_drew)); exact HO_10.out))) (Kd.R_lt (by (with_reducible repeat (first | apply Kd.R_alloc | apply Kd.R_drewN | apply Kd.R_drew)); exact HO_917002.out))) (below_size (by repeat (first | (with_reducible first | exact HB.out | apply below_alloc | apply pw_below_drewN | apply below_drew1 | refine below_set ?_ GE896.out | refine below_set ?_ GE916.out) | exact HB.out)))); have n4_ := Aside0.mk (blk_below (g := gb896) (o := .cells #[.int .i64 a0_0, .int .i64 a0_1, .slice A0_2 l0_2.length c0_2] 24 (0, 0)) (by (with_reducible repeat (first | refine blk_drewN ?_ _ | refine blk_drew ?_ | refine blk_alloc ?_ _)); exact BK896.out) hb); have n5_ := Aside0.mk (blk_below (g := gb916) (o := .cells #[.int .i64 t911, .int .i64 t912, .slice Ao34 t936.length co34] 28 (0, 0)) (by (with_reducible repeat (first | refine blk_drewN ?_ _ | refine blk_drew ?_ | refine blk_alloc ?_ _)); exact BK916.out) hb); have n6_ := Aside0.mk (below_step (by repeat (first | (with_reducible first | exact HB.out | apply below_alloc | apply pw_below_drewN | apply below_drew1 | refine below_set ?_ GE896.out | refine below_set ?_ GE916.out) | exact HB.out)) hb); clear HO_6; clear HO_10; clear HO_917002; clear BK896; clear BK916; clear HB; have HO_6 := n0_; have HO_10 := n1_; have HO_917002 := n2_; have HO947 := n3_; have BK896 := n4_; have BK916 := n5_; have HB := n6_; clear n0_ n1_ n2_ n3_ n4_ n5_ n6_; (try clear hb); (try clear hb2); (try clear hk); (try clear hi); (try clear ho0)) | ((with_reducible refine gate_callee (f := 42) rfl ?_); refine goesA_ (some 98) rfl rfl Try.func42 (by kernel_rfl) rfl #[.slice A1 l1.length c1] rfl ?_; (with_reducible refine (laws_toShotS.calls kj53 _ _ l1 t948 _ ?side1 ?side2 A81.out).mono ?_); (case side1 => repeat (first | exact (Kd.C_below HR1.out HB.out) | (with_reducible refine Kd.C_alloc ?_ _) | (with_reducible refine Kd.C_drewN ?_ _) | (with_reducible refine Kd.C_drew ?_))); (case side2 => exact HC1.out); rintro e w89 ⟨v949, rfl, ho0, hb⟩; refine ⟨_, rfl, ?_⟩; have n0_ := Aside0.mk (Kd.R_below (by (with_reducible repeat (first | apply Kd.R_alloc | apply Kd.R_drewN | apply Kd.R_drew)); exact HO_6.out) hb); have n1_ := Aside0.mk (Kd.R_below (by (with_reducible repeat (first | apply Kd.R_alloc | apply Kd.R_drewN | apply Kd.R_drew)); exact HO_10.out) hb); have n2_ := Aside0.mk (Kd.R_below (by (with_reducible repeat (first | apply Kd.R_alloc | apply Kd.R_drewN | apply Kd.R_drew)); exact HO_917002.out) hb); have n3_ := Aside0.mk (Kd.R_below (by (with_reducible repeat (first | apply Kd.R_alloc | apply Kd.R_drewN | apply Kd.R_drew)); exact HO947.out) hb); have n4_ := Aside0.mk (Kd.R_lower ho0 (below_size (by repeat (first | (with_reducible first | exact HB.out | apply below_alloc | apply pw_below_drewN | apply below_drew1 | refine below_set ?_ GE896.out | refine below_set ?_ GE916.out) | exact HB.out)))); have n5_ := Aside0.mk (blk_below (g := gb896) (o := .cells #[.int .i64 a0_0, .int .i64 a0_1, .slice A0_2 l0_2.length c0_2] 24 (0, 0)) (by (with_reducible repeat (first | refine blk_drewN ?_ _ | refine blk_drew ?_ | refine blk_alloc ?_ _)); exact BK896.out) hb); have n6_ := Aside0.mk (blk_below (g := gb916) (o := .cells #[.int .i64 t911, .int .i64 t912, .slice Ao34 t936.length co34] 28 (0, 0)) (by (with_reducible repeat (first | refine blk_drewN ?_ _ | refine blk_drew ?_ | refine blk_alloc ?_ _)); exact BK916.out) hb); have n7_ := Aside0.mk (below_step (by repeat (first | (with_reducible first | exact HB.out | apply below_alloc | apply pw_below_drewN | apply below_drew1 | refine below_set ?_ GE896.out | refine below_set ?_ GE916.out) | exact HB.out)) hb); clear HO_6; clear HO_10; clear HO_917002; clear HO947; clear BK896; clear BK916; clear HB; have HO_6 := n0_; have HO_10 := n1_; have HO_917002 := n2_; have HO947 := n3_; have HO950 := n4_; have BK896 := n5_; have BK916 := n6_; have HB := n7_; clear n0_ n1_ n2_ n3_ n4_ n5_ n6_ n7_; (try clear hb); (try clear hb2); (try clear hk); (try clear hi); (try clear ho0); obtain ⟨Ao90, co90, eo90⟩ := Kd.R_slice HO947.out; subst eo90; obtain ⟨Ao91, co91, eo91⟩ := Kd.R_slice HO950.out; subst eo91) | ((with_reducible refine gate_callee (f := 48) rfl ?_); refine goesA_ (some 99) rfl rfl Try.func48 (by kernel_rfl) rfl #[.agg #[.int .i64 t943, .int .i64 t944, .slice Ao90 t945.length co90], .slice Ao91 t948.length co91] rfl ?_; (with_reducible refine (impl_SharesOf.calls kj53 t943 t944 _ _ t945 _ _ t948 t951 t954 _ ?side1 ?side2 ?side3 ?side4 A82.out).mono ?_); (case side1 => repeat (first | exact (Kd.R_reads' HO947.out).2.2 | (with_reducible refine Kd.C_alloc ?_ _) | (with_reducible refine Kd.C_drewN ?_ _) | (with_reducible refine Kd.C_drew ?_))); (case side2 => exact (Kd.R_reads' HO947.out).2.1); (case side3 => repeat (first | exact (Kd.R_reads' HO950.out).2.2 | (with_reducible refine Kd.C_alloc ?_ _) | (with_reducible refine Kd.C_drewN ?_ _) | (with_reducible refine Kd.C_drew ?_))); (case side4 => exact (Kd.R_reads' HO950.out).2.1); rintro e w92 ⟨v952, rfl, ho0, hb⟩; refine ⟨_, rfl, ?_⟩; have n0_ := Aside0.mk (Kd.R_elder' (by (with_reducible repeat (first | apply Kd.R_alloc | apply Kd.R_drewN | apply Kd.R_drew)); exact HO_6.out) (Kd.R_base ho0) hb); have n1_ := Aside0.mk (Kd.R_elder' (by (with_reducible repeat (first | apply Kd.R_alloc | apply Kd.R_drewN | apply Kd.R_drew)); exact HO_10.out) (Kd.R_base ho0) hb); have n2_ := Aside0.mk (Kd.R_elder' (by (with_reducible repeat (first | apply Kd.R_alloc | apply Kd.R_drewN | apply Kd.R_drew)); exact HO_917002.out) (Kd.R_base ho0) hb); have n3_ := Aside0.mk (Kd.R_elder' (by (with_reducible repeat (first | apply Kd.R_alloc | apply Kd.R_drewN | apply Kd.R_drew)); exact HO947.out) (Kd.R_base ho0) hb); have n4_ := Aside0.mk (Kd.R_below (by (with_reducible repeat (first | apply Kd.R_alloc | apply Kd.R_drewN | apply Kd.R_drew)); exact HO950.out) hb); have n5_ := Aside0.mk (Kd.R_lower (Kd.R_new' (Kd.R_new' (Kd.R_new' (Kd.R_new' ho0 (Kd.R_lt (by (with_reducible repeat (first | apply Kd.R_alloc | apply Kd.R_drewN | apply Kd.R_drew)); exact HO_6.out))) (Kd.R_lt (by (with_reducible repeat (first | apply Kd.R_alloc | apply Kd.R_drewN | apply Kd.R_drew)); exact HO_10.out))) (Kd.R_lt (by (with_reducible repeat (first | apply Kd.R_alloc | apply Kd.R_drewN | apply Kd.R_drew)); exact HO_917002.out))) (Kd.R_lt (by (with_reducible repeat (first | apply Kd.R_alloc | apply Kd.R_drewN | apply Kd.R_drew)); exact HO947.out))) (below_size (by repeat (first | (with_reducible first | exact HB.out | apply below_alloc | apply pw_below_drewN | apply below_drew1 | refine below_set ?_ GE896.out | refine below_set ?_ GE916.out) | exact HB.out)))); have n6_ := Aside0.mk (blk_below (g := gb896) (o := .cells #[.int .i64 a0_0, .int .i64 a0_1, .slice A0_2 l0_2.length c0_2] 24 (0, 0)) (by (with_reducible repeat (first | refine blk_drewN ?_ _ | refine blk_drew ?_ | refine blk_alloc ?_ _)); exact BK896.out) hb); have n7_ := Aside0.mk (blk_below (g := gb916) (o := .cells #[.int .i64 t911, .int .i64 t912, .slice Ao34 t936.length co34] 28 (0, 0)) (by (with_reducible repeat (first | refine blk_drewN ?_ _ | refine blk_drew ?_ | refine blk_alloc ?_ _)); exact BK916.out) hb); have n8_ := Aside0.mk (below_step (by repeat (first | (with_reducible first | exact HB.out | apply below_alloc | apply pw_below_drewN | apply below_drew1 | refine below_set ?_ GE896.out | refine below_set ?_ GE916.out) | exact HB.out)) hb); clear HO_6; clear HO_10; clear HO_917002; clear HO947; clear HO950; clear BK896; clear BK916; clear HB; have HO_6 := n0_; have HO_10 := n1_; have HO_917002 := n2_; have HO947 := n3_; have HO950 := n4_; have HO953 := n5_; have BK896 := n6_; have BK916 := n7_; have HB := n8_; clear n0_ n1_ n2_ n3_ n4_ n5_ n6_ n7_ n8_; (try clear hb); (try clear hb2); (try clear hk); (try clear hi); (try clear ho0)))
             (try simp only [Act.put, List.setIfInBounds_toArray, List.set_cons_zero, List.set_cons_succ])
             go_cut [110] (fun v110 wc => ∃ (kq : Nat) (x110_82 : Bool), v110 = .bool x110_82 ∧ Aside0 (laws_FnExactSharesOf.j2 kq t941 t940 x110_82 = some true) ∧ Aside0 (kq ≤ kj53) ∧ Aside0 (Kd.R (Kd.int .i64) 2 wc w.heap.size (fun k_ => some k_ ≠ ((.slice Ao34 t936.length co34) : Value).ownBlock) (.slice Ao84 t920.length co84) t941) ∧ Aside0 (Kd.R (Kd.int .i64) 2 wc w.heap.size (fun k_ => some k_ ≠ ((.slice Ao84 t920.length co84) : Value).ownBlock) (.slice Ao34 t936.length co34) t936) ∧ Aside0 (wc.heap[gb896]? = some (.cells #[.int .i64 a0_0, .int .i64 a0_1, (.slice A0_2 l0_2.length c0_2)] 24 (0, 0))) ∧ Aside0 (wc.heap[gb916]? = some (.cells #[.int .i64 t911, .int .i64 t912, (.slice Ao34 t936.length co34)] 28 (0, 0))) ∧ Aside0 (Below w.heap.size w wc))
             case first =>
              have H := HC83.out
              clear HC83
              replace H := Option.bind_eq_some_iff.mp H
              obtain ⟨t955, A930, H⟩ := H
              replace H : (if t955 = true then (laws_FnExactSharesOf.j2 kj53 t941 t940 (t954 != t910)) else (laws_FnExactSharesOf.j2 kj53 t941 t940 true)) = some true := H
              have A93 := Aside0.mk A930
              clear A930
              by_cases c94 : t955 = true
              ·subst c94
               have H1 : (laws_FnExactSharesOf.j2 kj53 t941 t940 (t954 != t910)) = some true := by rw [if_pos rfl] at H; exact H
               clear H
               have H := H1
               clear H1
               have H' := Aside0.mk H
               clear H
               obtain ⟨Ao95, co95, eo95⟩ := Kd.R_slice HO953.out
               subst eo95
               obtain ⟨Ao96, co96, eo96⟩ := Kd.R_slice HO_6.out
               subst eo96
               go_wp2_with (first | ((with_reducible refine gate_callee (f := 19) rfl ?_); refine goesA_ (some 104) rfl rfl Try.func19 (by kernel_rfl) rfl #[.slice Ao95 t951.length co95, .slice Ao96 t907.length co96] rfl ?_; (with_reducible refine (laws_eqInt64S.calls kj53 _ _ t951 _ _ t907 true _ ?side1 ?side2 ?side3 ?side4 A93.out).mono ?_); (case side1 => repeat (first | exact (Kd.R_reads' HO953.out).2.2 | (with_reducible refine Kd.C_alloc ?_ _) | (with_reducible refine Kd.C_drewN ?_ _) | (with_reducible refine Kd.C_drew ?_))); (case side2 => exact (Kd.R_reads' HO953.out).2.1); (case side3 => repeat (first | exact (Kd.R_reads' HO_6.out).2.2 | (with_reducible refine Kd.C_alloc ?_ _) | (with_reducible refine Kd.C_drewN ?_ _) | (with_reducible refine Kd.C_drew ?_))); (case side4 => exact (Kd.R_reads' HO_6.out).2.1); rintro e w' ⟨rfl, ⟨nd, rfl⟩⟩; refine ⟨_, rfl, ?_⟩))
               go_meet
               case rel => exact ⟨_, ((t954 != t910)), (by first | rfl | (simp; done) | (simp [*]; done)), H', ⟨by have := HJ18.out; have := HJ53.out; first | omega | exact Nat.le_refl _⟩, ⟨by (try simp only [hl917002_53]); (with_reducible repeat (first | apply Kd.R_alloc | apply Kd.R_drewN | apply Kd.R_drew)); exact Kd.R_mono HO_10.out (fun _ hk => hk.1.1.2)⟩, ⟨by (try simp only [hl917002_53]); (with_reducible repeat (first | apply Kd.R_alloc | apply Kd.R_drewN | apply Kd.R_drew)); exact Kd.R_mono HO_917002.out (fun _ hk => hk.1.1.2)⟩, ⟨by (try simp only [hl917002_53]); (with_reducible repeat (first | refine blk_drewN ?_ _ | refine blk_drew ?_ | refine blk_alloc ?_ _)); exact BK896.out⟩, ⟨by (try simp only [hl917002_53]); (with_reducible repeat (first | refine blk_drewN ?_ _ | refine blk_drew ?_ | refine blk_alloc ?_ _)); exact BK916.out⟩, ⟨by repeat (first | (with_reducible first | exact HB.out | apply below_alloc | apply pw_below_drewN | apply below_drew1 | refine below_set ?_ GE896.out | refine below_set ?_ GE916.out) | exact HB.out)⟩⟩
              ·replace c94 := Bool.eq_false_iff.mpr c94
               subst c94
               have H1 : (laws_FnExactSharesOf.j2 kj53 t941 t940 true) = some true := by rw [if_neg (show ¬ (false = true) by decide)] at H; exact H
               clear H
               have H := H1
               clear H1
               have H' := Aside0.mk H
               clear H
               obtain ⟨Ao97, co97, eo97⟩ := Kd.R_slice HO953.out
               subst eo97
               obtain ⟨Ao98, co98, eo98⟩ := Kd.R_slice HO_6.out
               subst eo98
               go_wp2_with (first | ((with_reducible refine gate_callee (f := 19) rfl ?_); refine goesA_ (some 104) rfl rfl Try.func19 (by kernel_rfl) rfl #[.slice Ao97 t951.length co97, .slice Ao98 t907.length co98] rfl ?_; (with_reducible refine (laws_eqInt64S.calls kj53 _ _ t951 _ _ t907 false _ ?side1 ?side2 ?side3 ?side4 A93.out).mono ?_); (case side1 => repeat (first | exact (Kd.R_reads' HO953.out).2.2 | (with_reducible refine Kd.C_alloc ?_ _) | (with_reducible refine Kd.C_drewN ?_ _) | (with_reducible refine Kd.C_drew ?_))); (case side2 => exact (Kd.R_reads' HO953.out).2.1); (case side3 => repeat (first | exact (Kd.R_reads' HO_6.out).2.2 | (with_reducible refine Kd.C_alloc ?_ _) | (with_reducible refine Kd.C_drewN ?_ _) | (with_reducible refine Kd.C_drew ?_))); (case side4 => exact (Kd.R_reads' HO_6.out).2.1); rintro e w' ⟨rfl, ⟨nd, rfl⟩⟩; refine ⟨_, rfl, ?_⟩))
               go_meet
               case rel => exact ⟨_, (true), (by first | rfl | (simp; done) | (simp [*]; done)), H', ⟨by have := HJ18.out; have := HJ53.out; first | omega | exact Nat.le_refl _⟩, ⟨by (try simp only [hl917002_53]); (with_reducible repeat (first | apply Kd.R_alloc | apply Kd.R_drewN | apply Kd.R_drew)); exact Kd.R_mono HO_10.out (fun _ hk => hk.1.1.2)⟩, ⟨by (try simp only [hl917002_53]); (with_reducible repeat (first | apply Kd.R_alloc | apply Kd.R_drewN | apply Kd.R_drew)); exact Kd.R_mono HO_917002.out (fun _ hk => hk.1.1.2)⟩, ⟨by (try simp only [hl917002_53]); (with_reducible repeat (first | refine blk_drewN ?_ _ | refine blk_drew ?_ | refine blk_alloc ?_ _)); exact BK896.out⟩, ⟨by (try simp only [hl917002_53]); (with_reducible repeat (first | refine blk_drewN ?_ _ | refine blk_drew ?_ | refine blk_alloc ?_ _)); exact BK916.out⟩, ⟨by repeat (first | (with_reducible first | exact HB.out | apply below_alloc | apply pw_below_drewN | apply below_drew1 | refine below_set ?_ GE896.out | refine below_set ?_ GE916.out) | exact HB.out)⟩⟩
             case rest =>
              clear HC83
              (try clear c1); (try clear c2); (try clear p2); (try clear c3); (try clear c4); (try clear c4b0); (try clear c5); (try clear c6); (try clear c7); (try clear c8); (try clear c9); (try clear c9b0); (try clear c12); (try clear c15); (try clear c17); (try clear c19); (try clear c20); (try clear c21); (try clear c22); (try clear c23); (try clear c32); (try clear c40); (try clear c42); (try clear c44); (try clear c45); (try clear c47); (try clear c48); (try clear c49); (try clear c51); (try clear c62); (try clear c66); (try clear c66b0); (try clear c68); (try clear c73); (try clear c76); (try clear c76b0); (try clear c79); (try clear c79b0); (try clear c79b1); (try clear c86); (try clear c94); (try clear hcz11_0); (try clear hcz11_1); (try clear hcz11_2); (try clear hcz21_0); (try clear hcz21_1); (try clear hcz21_2); (try clear hcz23_0); (try clear hcz23_1); (try clear hcz23_2); (try clear hcz29_0); (try clear hcz29_1); (try clear hcz29_2); (try clear hcz33_0); (try clear hcz33_1); (try clear hcz33_2); (try clear hcz36_0); (try clear hcz36_1); (try clear hcz36_2); (try clear hcz63_0); (try clear hcz63_1); (try clear hcz63_2); (try clear hcz6_0); (try clear hcz6_1); (try clear hcz6_2); (try clear hcz87_0); (try clear hcz87_1); (try clear hcz87_2); (try clear hfz11_0); (try clear hfz11_1); (try clear hfz11_2); (try clear hfz21_0); (try clear hfz21_1); (try clear hfz21_2); (try clear hfz23_0); (try clear hfz23_1); (try clear hfz23_2); (try clear hfz29_0); (try clear hfz29_1); (try clear hfz29_2); (try clear hfz33_0); (try clear hfz33_1); (try clear hfz33_2); (try clear hfz36_0); (try clear hfz36_1); (try clear hfz36_2); (try clear hfz63_0); (try clear hfz63_1); (try clear hfz63_2); (try clear hfz6_0); (try clear hfz6_1); (try clear hfz6_2); (try clear hfz87_0); (try clear hfz87_1); (try clear hfz87_2); (try clear p2)
              obtain ⟨kq, x110_82, rfl, HA, HJ82, HO_10, HO_917002, BK896, BK916, HB⟩ := hcut
              have hl10_82 := (Kd.R_reads' HO_10.out).1
              rw [hl10_82] at HO_10
              (try simp only [hl10_82])
              (try simp only [hl10_82] at BK896)
              (try simp only [hl10_82] at BK916)
              (try simp only [hl10_82] at HO_917002)
              cases kq with
              | zero => exact absurd HA.out (by simp [laws_FnExactSharesOf.j2])
              | succ kj82 =>
               have H := HA.out
               clear HA
               simp only [laws_FnExactSharesOf.j2] at H
               by_cases c99 : x110_82 = true
               ·subst c99
                have H1 : (some false) = some true := by rw [if_pos rfl] at H; exact H
                clear H
                have H := H1
                clear H1
                exact absurd H (by simp)
               ·replace c99 := Bool.eq_false_iff.mpr c99
                subst c99
                have H1 : ((laws_heldInt64S.f kj82 t941 1).bind fun t956 => (if t956 < 0 then (some false) else (if t956 = t940 then (some true) else (some false)))) = some true := by rw [if_neg (show ¬ (false = true) by decide)] at H; exact H
                clear H
                have H := H1
                clear H1
                replace H := Option.bind_eq_some_iff.mp H
                obtain ⟨t956, A1000, H⟩ := H
                replace H : (if t956 < 0 then (some false) else (if t956 = t940 then (some true) else (some false))) = some true := H
                have A100 := Aside0.mk A1000
                clear A1000
                by_cases c101 : t956 < 0
                ·rw [if_pos c101] at H
                 have c101b0 : decide (t956 < 0) = true := decide_eq_true c101
                 clear c101
                 exact absurd H (by simp)
                ·rw [if_neg c101] at H
                 have c101b0 : decide (t956 < 0) = false := decide_eq_false c101
                 clear c101
                 by_cases c102 : t956 = t940
                 ·rw [if_pos c102] at H
                  have c102b0 : (t956 == t940) = true := beq_iff_eq.mpr c102
                  have c102b1 : (t956 != t940) = false := bne_eq_false_iff_eq.mpr c102
                  clear c102
                  clear H
                  go_wp2_with (first | ((with_reducible refine gate_callee (f := 23) rfl ?_); refine goesA_ (some 113) rfl rfl Try.func23 (by kernel_rfl) rfl #[.slice Ao84 t941.length co84, .int .i64 1] rfl ?_; (with_reducible refine (laws_heldInt64S.calls kj82 _ _ t941 1 t956 _ ?side1 ?side2 A100.out).mono ?_); (case side1 => repeat (first | exact (Kd.R_reads' HO_10.out).2.2 | (with_reducible refine Kd.C_alloc ?_ _) | (with_reducible refine Kd.C_drewN ?_ _) | (with_reducible refine Kd.C_drew ?_))); (case side2 => exact (Kd.R_reads' HO_10.out).2.1); rintro e w' ⟨rfl, ⟨nd, rfl⟩⟩; refine ⟨_, rfl, ?_⟩))
                  go_ret
                  exact ⟨by first | rfl | (simp [errW_none, errW_some] <;> rfl) | (simp [*, errW_none, errW_some] <;> rfl), by repeat (first | (with_reducible first | exact HB.out | apply below_alloc | apply pw_below_drewN | apply below_drew1 | refine below_set ?_ GE896.out | refine below_set ?_ GE916.out) | exact HB.out)⟩
                 ·rw [if_neg c102] at H
                  have c102b0 : (t956 == t940) = false := beq_eq_false_iff_ne.mpr c102
                  have c102b1 : (t956 != t940) = true := bne_iff_ne.mpr c102
                  exact absurd H (by simp)
            ·rw [if_neg c79] at H
             have c79b0 : (t942 == t940) = false := beq_eq_false_iff_ne.mpr c79
             have c79b1 : (t942 != t940) = true := bne_iff_ne.mpr c79
             exact absurd H (by simp)
       ·replace c51 := Bool.eq_false_iff.mpr c51
        subst c51
        have H1 : (some false) = some true := by rw [if_neg (show ¬ (false = true) by decide)] at H; exact H
        clear H
        have H := H1
        clear H1
        exact absurd H (by simp)
      ·replace c48 := Bool.eq_false_iff.mpr c48
       subst c48
       have H1 : (some false) = some true := by rw [if_neg (show ¬ (false = true) by decide)] at H; exact H
       clear H
       have H := H1
       clear H1
       exact absurd H (by simp)
-- Marking shots ends. (for 49)
theorem markShotS_ev (T : List S93) (hT : T.length ≤ 1048576) (m : Int) (h0 : 0 ≤ m) (hm : m ≤ 10000000) : ∃ r : Int × List S93, Ev (fun k => laws_markShotS.f k T m) r ∧ 0 ≤ r.1 := by
  have key : ∀ (d i : Nat) (x : List S93) (m : Int), i + d = x.length → x.length ≤ 1048576 → 0 ≤ m → m + 2 * (d : Int) ≤ 100000000 → ∃ r : Int × List S93, Ev (fun k => laws_markShotS.l0 k x m i) r ∧ 0 ≤ r.1 := by
    intro d
    induction d with
    | zero =>
      intro i x m hi hx h0 _
      refine ⟨(m, x), Ev.step (f := fun _ => some (m, x)) (fun k => ?_) (Ev.now _), h0⟩
      simp only [laws_markShotS.l0]
      rw [if_neg (by omega)]
    | succ d ih =>
      intro i x m hi hx h0 hb
      obtain ⟨r, hr, hr0⟩ := ih (i + 1) ((x.set i ⟨m, (rd_T93 x (i : Int)).f1⟩).set i ⟨(rd_T93 (x.set i ⟨m, (rd_T93 x (i : Int)).f1⟩) (i : Int)).f0, m + 1⟩) (m + 2) (by simp; omega) (by simpa using hx) (by omega) (by omega)
      refine ⟨r, Ev.step (fun k => ?_) hr, hr0⟩
      have w1 : wrap64 (m + 1) = m + 1 := by unfold wrap64; omega
      have w2 : wrap64 (m + 1 + 1) = m + 2 := by unfold wrap64; omega
      have w3 : wrap64 ((i : Int) + 1) = ((i + 1 : Nat) : Int) := by unfold wrap64; omega
      simp only [laws_markShotS.l0]
      rw [if_pos (by omega), if_pos (by omega), Option.bind_some, w1, w2, w3, Int.toNat_natCast]
  obtain ⟨r, hr, h⟩ := key T.length 0 T m (by omega) hT h0 (by omega)
  exact ⟨r, hr, h⟩
-- The code of a sea and shots. (for 89 83)
-- specShots_ev implShots_ev first_one shotsIn diffL_iff
def shotsV (w h : Int) (l : List Int) (T : List S93) : Int := if seaV w h l = true then (if shotsOk (w.toNat * h.toNat) T = true then 0 else 2) else 1
theorem specShotsCode_ev (w h : Int) (l : List Int) (T : List S93) (hl : l.length ≤ 1048576) (hT : T.length ≤ 1048576) : Ev (fun k => spec_l09Shots.f k w h l T) (shotsV w h l T) := by
  have e1 := l09Is_ev w h l (by omega)
  unfold spec_l09Shots.f shotsV
  cases hs : seaV w h l with
  | false =>
    rw [hs] at e1
    rw [if_neg (by simp)]
    exact Ev.bind e1 (Ev.congr (fun k => by rw [if_neg (by simp)]) (Ev.now _))
  | true =>
    rw [hs] at e1
    obtain ⟨⟨wn, rfl, hw1, hw5⟩, ⟨hn', rfl, hh1, hh5⟩, _, h3⟩ := seaV_nat hs
    simp only [Int.toNat_natCast]
    rw [if_pos trivial]
    exact Ev.bind e1 (Ev.congr (fun k => by rw [if_pos rfl]) (specShots_ev rfl (place_small_ hw5 hh5) l T hT))
theorem implShotsCode_ev (w h : Int) (l : List Int) (T : List S93) (hl : l.length ≤ 1048576) (hT : T.length ≤ 1048576) : Ev (fun k => impl_shotsCode.f k w h l T) (shotsV w h l T) := by
  have e1 := implIsSea_ev w h l (by omega)
  unfold impl_shotsCode.f shotsV
  cases hs : seaV w h l with
  | false =>
    rw [hs] at e1
    rw [if_neg (by simp)]
    exact Ev.bind e1 (Ev.congr (fun k => by rw [if_neg (by simp)]) (Ev.now _))
  | true =>
    rw [hs] at e1
    obtain ⟨⟨wn, rfl, hw1, hw5⟩, ⟨hn', rfl, hh1, hh5⟩, _, h3⟩ := seaV_nat hs
    simp only [Int.toNat_natCast]
    rw [if_pos trivial]
    refine Ev.bind e1 (Ev.congr (fun k => by rw [if_pos rfl]) (Ev.bind (implShots_ev rfl (place_small_ hw5 hh5) l T hT) ?_))
    exact Ev.bind (first_one (shotsOk (wn * hn') T)) (Ev.now _)
theorem shotsV_zero {w h : Int} {l : List Int} {T : List S93} (hz : shotsV w h l T = 0) : seaV w h l = true ∧ shotsOk (w.toNat * h.toNat) T = true ∧ shotsIn T = true := by
  unfold shotsV at hz
  by_cases hs : seaV w h l = true
  · rw [if_pos hs] at hz
    by_cases hk : shotsOk (w.toNat * h.toNat) T = true
    · refine ⟨hs, hk, ?_⟩
      obtain ⟨⟨wn, rfl, hw1, hw5⟩, ⟨hn', rfl, hh1, hh5⟩, _, h3⟩ := seaV_nat hs
      unfold shotsOk at hk
      simp only [Bool.and_eq_true, Int.toNat_natCast] at hk
      have hin := ((diffL_iff _ _ 0).1 hk.2).1
      have h25 := place_small_ hw5 hh5
      refine List.all_eq_true.2 (fun x hx => ?_)
      have := hin x.f0 (List.mem_map.2 ⟨x, hx, rfl⟩)
      simp only [Bool.and_eq_true, decide_eq_true_eq]
      omega
    · rw [if_neg hk] at hz
      cases hz
  · rw [if_neg hs] at hz
    cases hz
/-- The one pure statement of laws_FnExactSharesOf. -/
def laws_FnExactSharesOf.Pure : Prop := ∀ (a0_0 : Int) (a0_1 : Int) (l0_2 : List Int) (l1 : List (S95)), (Lit.int .i64 a0_0).wf = true → (Lit.int .i64 a0_1).wf = true → (l0_2.length ≤ maxLen ∧ ∀ y15_ ∈ l0_2, (Lit.int .i64 y15_).wf = true) → (l1.length ≤ maxLen ∧ ∀ y16_ ∈ l1, ((Lit.int .i64 y16_.f0).wf = true ∧ (Lit.int .i64 y16_.f1).wf = true)) → ∃ k, laws_FnExactSharesOf.f k a0_0 a0_1 l0_2 l1 = some true
/-- A type's readings as data are values of a kind: what an argument of that type is, whatever it holds. -/
def Rdb {α : Type} (P : Program) (t : TypeId) (d : Kd α) (wf : α → Prop) : Prop :=
  ∀ (H : Type) (enc : TypeId × Value → H) (w : World) (base : Nat) (spare : Nat → Bool) (held : Bool) (fuel : Nat) (cs : List Value) (x : DataW H × List MemPlace),
    DataW.trod enc P w base spare held fuel t cs = some x → ∃ a : α, d.K w a cs ∧ wf a
theorem Rdb.int {P : Program} {t : TypeId} {k : IntKind} (ht : P.underlying t = some (.int k)) : Rdb P t (Kd.int k) (fun n => (Lit.int k n).wf = true) := by
  intro H enc w base spare held fuel cs x h
  obtain ⟨n, rfl, _, hw⟩ := DataW.trod_int ht h
  exact ⟨n, rfl, hw⟩
theorem Rdb.bool {P : Program} {t : TypeId} (ht : P.underlying t = some .bool) : Rdb P t Kd.bool (fun _ => True) := by
  intro H enc w base spare held fuel cs x h
  obtain ⟨n, rfl, _⟩ := DataW.trod_bool ht h
  exact ⟨n, rfl, trivial⟩
theorem Rdb.string {P : Program} {t : TypeId} (ht : P.underlying t = some .string) : Rdb P t Kd.string (fun s => s.size ≤ maxLen) := by
  intro H enc w base spare held fuel cs x h
  obtain ⟨s, rfl, _, hs⟩ := DataW.trod_string ht h
  exact ⟨s, rfl, hs⟩
theorem list_choose {α β : Type} {R : Nat → α → β → Prop} : ∀ (n : Nat) (xs : List α), xs.length = n → (∀ i x, xs[i]? = some x → ∃ y, R i x y) → ∃ ys : List β, ys.length = n ∧ ∀ i x y, xs[i]? = some x → ys[i]? = some y → R i x y := by
  intro n xs
  induction xs generalizing n R with
  | nil =>
    intro hl _
    exact ⟨[], by simpa using hl, by intro i x y h; simp at h⟩
  | cons x xs ih =>
    intro hl h
    obtain ⟨y, hy⟩ := h 0 x rfl
    obtain ⟨ys, h1, h2⟩ := ih (R := fun i a b => R (i + 1) a b) (n - 1) (by simp at hl; omega) (fun i a hi => h (i + 1) a (by simpa using hi))
    refine ⟨y :: ys, by simp at hl ⊢; omega, fun i a b ha hb => ?_⟩
    cases i with
    | zero =>
      simp at ha hb
      subst ha hb
      exact hy
    | succ i => exact h2 i a b (by simpa using ha) (by simpa using hb)
theorem Rdb.slice {α : Type} {P : Program} {t e : TypeId} {d : Kd α} {wf : α → Prop} (ht : P.underlying t = some (.slice e)) (hc : P.cellsOf e = d.sz) (h1 : 0 < d.sz) (r : Rdb P e d wf) :
    Rdb P t (Kd.slice e d) (fun l => l.length ≤ maxLen ∧ ∀ x ∈ l, wf x) := by
  intro H enc w base spare held fuel cs x h
  rcases DataW.trod_slice ht h with ⟨rfl, _⟩ | ⟨a, len, cap, elems, rest, n, _, rfl, _, hb, hl, hm, hlen, hel, _, _⟩
  · exact ⟨[], ⟨none, 0, rfl, by simp, Kd.C_nil _ _⟩, by simp, by simp⟩
  · have each : ∀ i (y : DataW H × List MemPlace), elems[i]? = some y → ∃ b : α, ∃ c, w.cells? base (a.add (i * P.cellsOf e)) (P.cellsOf e) = some c ∧ d.K w b c ∧ wf b := by
      intro i y hy
      have hi : i < len := by have := (List.getElem?_eq_some_iff.1 hy).1; omega
      have h2 := hel i hi
      rw [hy, Option.bind_eq_some_iff] at h2
      obtain ⟨c, hcs, htr⟩ := h2
      obtain ⟨b, hK, hw⟩ := r H enc w base spare held n c y htr
      exact ⟨b, c, hcs, hK, hw⟩
    obtain ⟨xs, hx1, hx2⟩ := list_choose (R := fun i _ (b : α) => ∃ c, w.cells? base (a.add (i * P.cellsOf e)) (P.cellsOf e) = some c ∧ d.K w b c ∧ wf b) len elems hlen each
    have get : ∀ i b, xs[i]? = some b → ∃ c, w.cells? base (a.add (i * P.cellsOf e)) (P.cellsOf e) = some c ∧ d.K w b c ∧ wf b := by
      intro i b hb'
      have hi : i < elems.length := by have := (List.getElem?_eq_some_iff.1 hb').1; omega
      exact hx2 i _ b (List.getElem?_eq_getElem hi) hb'
    refine ⟨xs, ⟨some a, cap, by rw [hx1], by omega, ?_⟩, by omega, fun b hb' => ?_⟩
    · refine ⟨rfl, by rw [hx1]; unfold maxLen at hm; omega, fun hp => ⟨a, rfl, fun j b hj => ?_⟩⟩
      obtain ⟨c, hcs, hK, _⟩ := get j b hj
      obtain ⟨_, hcl, hcell⟩ := World.cells?_some hcs
      refine ⟨c, by rw [hcl, hc], hK, fun i u hu => ?_⟩
      have hi : i < P.cellsOf e := by have := (List.getElem?_eq_some_iff.1 hu).1; omega
      have := hcell i hi
      rw [hu] at this
      rw [Addr.add_add] at this
      rw [← hc]
      exact this
    · obtain ⟨i, hi⟩ := List.mem_iff_getElem?.1 hb'
      obtain ⟨_, _, _, hw⟩ := get i b hi
      exact hw
theorem Rdb.struct2 {α β : Type} {P : Program} {t : TypeId} {f0 f1 : Field} {d0 : Kd α} {d1 : Kd β} {w0 : α → Prop} {w1 : β → Prop} (ht : P.underlying t = some (.struct #[f0, f1])) (o0 : f0.offset = 0) (o1 : f1.offset = P.cellsOf f0.type) (cT : P.cellsOf t = P.cellsOf f0.type + P.cellsOf f1.type)
    (r0 : Rdb P f0.type d0 w0) (r1 : Rdb P f1.type d1 w1) : Rdb P t (Kd.pair d0 d1) (fun x => w0 x.1 ∧ w1 x.2) := by
  intro H enc w base spare held fuel cs x h
  obtain ⟨y0, y1, n, _, hl, h0, h1⟩ := ChangeShapes.trod_struct2 ht h
  rw [o0, List.drop_zero] at h0
  rw [o1, List.take_of_length_le (by rw [List.length_drop, hl, cT]; omega)] at h1
  obtain ⟨a, hK0, hw0⟩ := r0 H enc w base spare held n _ y0 h0
  obtain ⟨b, hK1, hw1⟩ := r1 H enc w base spare held n _ y1 h1
  exact ⟨(a, b), ⟨_, _, (List.take_append_drop _ _).symm, hK0, hK1⟩, hw0, hw1⟩
theorem Rdb.struct3 {α β γ : Type} {P : Program} {t : TypeId} {f0 f1 f2 : Field} {d0 : Kd α} {d1 : Kd β} {d2 : Kd γ} {w0 : α → Prop} {w1 : β → Prop} {w2 : γ → Prop} (ht : P.underlying t = some (.struct #[f0, f1, f2])) (o0 : f0.offset = 0) (o1 : f1.offset = P.cellsOf f0.type)
    (o2 : f2.offset = P.cellsOf f0.type + P.cellsOf f1.type) (cT : P.cellsOf t = P.cellsOf f0.type + P.cellsOf f1.type + P.cellsOf f2.type)
    (r0 : Rdb P f0.type d0 w0) (r1 : Rdb P f1.type d1 w1) (r2 : Rdb P f2.type d2 w2) : Rdb P t (Kd.pair d0 (Kd.pair d1 d2)) (fun x => w0 x.1 ∧ w1 x.2.1 ∧ w2 x.2.2) := by
  intro H enc w base spare held fuel cs x h
  obtain ⟨xs, n, _, _, hl, hxl, hf⟩ := DataW.trod_struct ht h
  match xs, hxl with
  | [y0, y1, y2], _ =>
    have h0 : DataW.trod enc P w base spare held n f0.type ((cs.drop f0.offset).take (P.cellsOf f0.type)) = some y0 := by simpa using hf 0 f0 rfl
    have h1 : DataW.trod enc P w base spare held n f1.type ((cs.drop f1.offset).take (P.cellsOf f1.type)) = some y1 := by simpa using hf 1 f1 rfl
    have h2 : DataW.trod enc P w base spare held n f2.type ((cs.drop f2.offset).take (P.cellsOf f2.type)) = some y2 := by simpa using hf 2 f2 rfl
    rw [o0, List.drop_zero] at h0
    rw [o1] at h1
    rw [o2, List.take_of_length_le (by rw [List.length_drop, hl, cT]; omega)] at h2
    obtain ⟨a, hK0, hw0⟩ := r0 H enc w base spare held n _ y0 h0
    obtain ⟨b, hK1, hw1⟩ := r1 H enc w base spare held n _ y1 h1
    obtain ⟨c, hK2, hw2⟩ := r2 H enc w base spare held n _ y2 h2
    refine ⟨(a, b, c), ⟨_, _, (List.take_append_drop (P.cellsOf f0.type) cs).symm, hK0, _, _, ?_, hK1, hK2⟩, hw0, hw1, hw2⟩
    rw [← List.drop_drop, List.take_append_drop]
theorem Rdb.iso {α β : Type} {P : Program} {t : TypeId} {d : Kd α} {wf : α → Prop} (r : Rdb P t d wf) (f : β → α) (g : α → β) (hfg : ∀ a, f (g a) = a) : Rdb P t (Kd.iso d f) (fun b => wf (f b)) := by
  intro H enc w base spare held fuel cs x h
  obtain ⟨a, hK, hw⟩ := r H enc w base spare held fuel cs x h
  exact ⟨g a, by show d.K w (f (g a)) cs; rw [hfg]; exact hK, by show wf (f (g a)); rw [hfg]; exact hw⟩
theorem Rdb.of {α : Type} {P : Program} {t : TypeId} {d : Kd α} {wf : α → Prop} (r : Rdb P t d wf) {H : Type} {enc : TypeId × Value → H} {w : World} {base : Nat} {spare : Nat → Bool} {held : Bool} {v : Value} {x : DataW H} {ps : List MemPlace}
    (h : DataW.Trod enc P w base spare held t v x ps) : ∃ a : α, d.K w a v.cells.toList ∧ wf a := by
  obtain ⟨fuel, hf⟩ := h
  exact r H enc w base spare held fuel _ _ hf

end Go.Proofs.Ytiancdhpdjmacaa.F
