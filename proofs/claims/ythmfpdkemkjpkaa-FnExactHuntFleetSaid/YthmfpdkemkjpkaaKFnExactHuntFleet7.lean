-- written by the session's program xp.py over the kit's print program, and by hand; texts joined by pack.py
import Derived.Test.YthmfpdkemkjpkaaKFnExactHuntFleet6
namespace Go.Proofs.Ythmfpdkemkjpkaa.F
open Go.RowKit Go.Proofs.YthmfpdkemkjpkaaW.PrintWords Go.Proofs.YthmfpdkemkjpkaaW.PrintLast Go.Proofs.YthmfpdkemkjpkaaW.PrintMore
attribute [local go_sem] max2_int min2_int max_two min_two max_three min_three max_four min_four   -- for this text's walks alone
set_option linter.unusedVariables false
set_option linter.unusedSimpArgs false

def spec_HuntFleet.l0 : Nat → List Int → List Int → List (S45) → Int → Int → Int → List Int → Option (List Int × Int)
 | 0, _, _, _, _, _, _, _ => none
 | k + 1, x1, x7, x8, x9, x209000, x209001, x209002 => (spec_l09Set.f k x1).bind fun t222 => (if (Go.bits .andNot .i64 t222 x9) = 0 then (some (x7, 0)) else ((spec_l09Best.f k x209000 x209001 x209002 x8).bind fun t223 => (if 0 ≤ (IntKind.u64.wrap (t223)) then ((spec_l09Answer.f k x1 t223 (Go.bits .or .i64 x9 (shl .i64 1 (IntKind.u64.wrap (t223))))).bind fun t224 => (if x8.length < 8796093022208 then (if x7.length < 17592186044416 then (spec_HuntFleet.l0 k x1 (x7 ++ [t223]) (x8 ++ [(⟨t223, t224⟩ : S45)]) (Go.bits .or .i64 x9 (shl .i64 1 (IntKind.u64.wrap (t223)))) x209000 x209001 x209002) else (none)) else (none))) else (none))))
def spec_HuntFleet.f (k : Nat) (a0_0 : Int) (a0_1 : Int) (l0_2 : List Int) (l1 : List Int) : Option (List Int × Int) := (spec_l09Code.f k a0_0 a0_1 l0_2 l1).bind fun t209 => (if t209 = 0 then ((spec_l09Go.f a0_0 a0_1 l0_2 (([] : List Int)) 0 ([] : List (S45)) 301).bind fun t213 => (if (t213.length : Int) > 300 then (some (([] : List Int), 3)) else (spec_HuntFleet.l0 k l1 (([] : List Int)) (([] : List (S45))) 0 a0_0 a0_1 l0_2))) else (some (([] : List Int), t209)))
set_option maxHeartbeats 8000000 in
set_option maxRecDepth 100000 in
theorem spec_HuntFleet.calls (k : Nat) (a0_0 : Int) (a0_1 : Int) (A0_2 : Option Addr) (c0_2 : Nat) (l0_2 : List Int) (A1 : Option Addr) (c1 : Nat) (l1 : List Int) (r1 : List Int) (r2 : Int) (w : World) (hr0_2 : Kd.C (Kd.int .i64) w A0_2 l0_2.length l0_2) (hc0_2 : l0_2.length ≤ c0_2) (hr1 : Kd.C (Kd.int .i64) w A1 l1.length l1) (hc1 : l1.length ≤ c1) (h : spec_HuntFleet.f k a0_0 a0_1 l0_2 l1 = some (r1, r2)) :
  Calls Try.prog 5 #[.agg #[.int .i64 a0_0, .int .i64 a0_1, .slice A0_2 l0_2.length c0_2], .slice A1 l1.length c1] w fun e w' => ∃ v0_ : Value, e = .returned (.tuple #[v0_, .int .i64 r2]) ∧ Kd.R (Kd.int .i64) 2 w' w.heap.size (fun _ => True) v0_ r1 ∧ Below w.heap.size w w' := by
 have hu28 := Try.underlying28
 have hu45 := Try.underlying45
 have HR0_2 := Aside0.mk hr0_2
 have HC0_2 := Aside0.mk hc0_2
 clear hr0_2 hc0_2
 have HR1 := Aside0.mk hr1
 have HC1 := Aside0.mk hc1
 clear hr1 hc1
 have HB := Aside0.mk (Below.refl w.heap.size w)
 have H : ((spec_l09Code.f k a0_0 a0_1 l0_2 l1).bind fun t209 => (if t209 = 0 then ((spec_l09Go.f a0_0 a0_1 l0_2 (([] : List Int)) 0 ([] : List (S45)) 301).bind fun t213 => (if (t213.length : Int) > 300 then (some (([] : List Int), 3)) else (spec_HuntFleet.l0 k l1 (([] : List Int)) (([] : List (S45))) 0 a0_0 a0_1 l0_2))) else (some (([] : List Int), t209)))) = some (r1, r2) := h
 clear h
 replace H := Option.bind_eq_some_iff.mp H
 obtain ⟨t209, A30, H⟩ := H
 replace H : (if t209 = 0 then ((spec_l09Go.f a0_0 a0_1 l0_2 (([] : List Int)) 0 ([] : List (S45)) 301).bind fun t213 => (if (t213.length : Int) > 300 then (some (([] : List Int), 3)) else (spec_HuntFleet.l0 k l1 (([] : List Int)) (([] : List (S45))) 0 a0_0 a0_1 l0_2))) else (some (([] : List Int), t209))) = some (r1, r2) := H
 have A3 := Aside0.mk A30
 clear A30
 by_cases c4 : t209 = 0
 ·rw [if_pos c4] at H
  have c4b0 : (t209 == 0) = true := beq_iff_eq.mpr c4
  have c4b1 : (t209 != 0) = false := bne_eq_false_iff_eq.mpr c4
  clear c4
  obtain ⟨y210, hy210⟩ : ∃ y_ : List Int, y_ = (([] : List Int)) := ⟨_, rfl⟩
  replace H : ((spec_l09Go.f a0_0 a0_1 l0_2 y210 0 ([] : List (S45)) 301).bind fun t213 => (if (t213.length : Int) > 300 then (some (([] : List Int), 3)) else (spec_HuntFleet.l0 k l1 (([] : List Int)) (([] : List (S45))) 0 a0_0 a0_1 l0_2))) = some (r1, r2) := by first | (rw [hy210]; with_reducible exact H) | (have H2_ := (Option.bind_some _ _).symm.trans H; rw [hy210]; with_reducible exact H2_) | (have H2_ := (Option.bind_some _ _).symm.trans H; with_reducible exact H2_) | with_reducible exact H | (rw [hy210]; exact H) | exact H
  have Ny210 := Aside0.mk hy210
  clear hy210
  replace H := Option.bind_eq_some_iff.mp H
  obtain ⟨t213, A50, H⟩ := H
  replace H : (if (t213.length : Int) > 300 then (some (([] : List Int), 3)) else (spec_HuntFleet.l0 k l1 (([] : List Int)) (([] : List (S45))) 0 a0_0 a0_1 l0_2)) = some (r1, r2) := H
  have A5 := Aside0.mk A50
  clear A50
  by_cases c6 : (t213.length : Int) > 300
  ·rw [if_pos c6] at H
   have c6b0 : decide (300 < (t213.length : Int)) = true := decide_eq_true c6
   have c6b1 : decide (300 < t213.length) = true := decide_eq_true (by omega)
   clear c6
   simp only [Option.some.injEq, Prod.mk.injEq] at H
   obtain ⟨rfl, rfl⟩ := H
   go_enter Try.func5, Try.ntmps5
   go_wp2_with (first | ((with_reducible refine gate_dst (N := 2) rfl ?_); refine box_event ?hg (N := 2) ?hd (cs := #[.int .i64 a0_0, .int .i64 a0_1, .slice A0_2 l0_2.length c0_2]) (t := 28) ?hr ?_; (case hd => rfl); (case hg => rfl); (case hr => first | (go_simp; done) | (go_simp; rfl)); intro gb208 hg w7 hbox hb; have n0_ := Aside0.mk (bp_ hb_ hb); have n1_ := Aside0.mk (hbox); have n2_ := Aside0.mk ((by rw [hg]; exact (bz_ hb_) : w.heap.size ≤ gb208)); have n3_ := Aside0.mk ((by rw [hg]; exact (bz_ hb_) : w.heap.size ≤ gb208)); clear HB; have HB := n0_; have BK208 := n1_; have GW208 := n2_; have GE208 := n3_; clear n0_ n1_ n2_ n3_; clear hb hbox hg; have hcz8_0 : w7.cell? ⟨gb208, 0, none⟩ = some (.int .i64 a0_0) := (bc_ BK208.out 0).trans rfl; have hcz8_1 : w7.cell? ⟨gb208, 1, none⟩ = some (.int .i64 a0_1) := (bc_ BK208.out 1).trans rfl; have hcz8_2 : w7.cell? ⟨gb208, 2, none⟩ = some (.slice A0_2 l0_2.length c0_2) := (bc_ BK208.out 2).trans rfl; have hfz8_0 := bf_ BK208.out 0; have hfz8_1 := bf_ BK208.out 1; have hfz8_2 := bf_ BK208.out 2) | ((with_reducible refine gate_callee (f := 15) rfl ?_); refine goesA_ (some 13) rfl rfl Try.func15 (by kernel_rfl) rfl #[.agg #[.int .i64 a0_0, .int .i64 a0_1, .slice A0_2 l0_2.length c0_2], .slice A1 l1.length c1] rfl ?_; (with_reducible refine (spec_l09Code.calls k a0_0 a0_1 _ _ l0_2 _ _ l1 t209 _ ?side1 ?side2 ?side3 ?side4 A3.out).mono ?_); (case side1 => repeat (first | exact (Kd.C_below HR0_2.out HB.out) | (with_reducible refine Kd.C_alloc ?_ _) | (with_reducible refine Kd.C_drewN ?_ _) | (with_reducible refine Kd.C_drew ?_))); (case side2 => exact HC0_2.out); (case side3 => repeat (first | exact (Kd.C_below HR1.out HB.out) | (with_reducible refine Kd.C_alloc ?_ _) | (with_reducible refine Kd.C_drewN ?_ _) | (with_reducible refine Kd.C_drew ?_))); (case side4 => exact HC1.out); rintro e w9 ⟨rfl, hb⟩; refine ⟨_, rfl, ?_⟩; have n0_ := Aside0.mk (bb_ (g := gb208) (o := .cells #[.int .i64 a0_0, .int .i64 a0_1, .slice A0_2 l0_2.length c0_2] 28 (0, 0)) (by (with_reducible repeat (first | refine bN_ ?_ _ | refine bkd_ ?_ | refine bka_ ?_ _)); exact BK208.out) hb); have n1_ := Aside0.mk (bp_ (by repeat (first | (with_reducible first | exact HB.out | apply ba_ | apply pbN_ | apply bd1_ | refine bs_ ?_ GE208.out) | exact HB.out)) hb); clear BK208; clear HB; have BK208 := n0_; have HB := n1_; clear n0_ n1_; (try clear hb); (try clear hb2); (try clear hk); (try clear hi); have hcz10_0 : w9.cell? ⟨gb208, 0, none⟩ = some (.int .i64 a0_0) := (bc_ BK208.out 0).trans rfl; have hcz10_1 : w9.cell? ⟨gb208, 1, none⟩ = some (.int .i64 a0_1) := (bc_ BK208.out 1).trans rfl; have hcz10_2 : w9.cell? ⟨gb208, 2, none⟩ = some (.slice A0_2 l0_2.length c0_2) := (bc_ BK208.out 2).trans rfl; have hfz10_0 := bf_ BK208.out 0; have hfz10_1 := bf_ BK208.out 1; have hfz10_2 := bf_ BK208.out 2) | ((with_reducible refine gate_dst (N := 18) rfl ?_); refine Kd.R_lit (Kd.int .i64) _ 2 ?hg (N := 18) ?hd (xs := ([] : List Int)) (inner := []) (ok := fun _ => True) (okp := fun _ => True) ?hr ?hp (fun _ hk => hk) trivial (Below.refl _ _) (Nat.le_refl _) (by simp) ?_; (case hd => rfl); (case hg => rfl); (case hr => first | (go_simp; done) | (go_simp; rfl)); (case hp => exact (Reps.none _ _)); intro v211 w11 ho12 hb hg_ hnew_; clear hg_ hnew_; (first | rw [← Ny210.out] at ho12 | (simp only [Int.reduceToNat] at ho12; rw [← Ny210.out] at ho12)); have n0_ := Aside0.mk (Kd.R_lower ho12 (bz_ (by repeat (first | (with_reducible first | exact HB.out | apply ba_ | apply pbN_ | apply bd1_ | refine bs_ ?_ GE208.out) | exact HB.out)))); have n1_ := Aside0.mk (bb_ (g := gb208) (o := .cells #[.int .i64 a0_0, .int .i64 a0_1, .slice A0_2 l0_2.length c0_2] 28 (0, 0)) (by (with_reducible repeat (first | refine bN_ ?_ _ | refine bkd_ ?_ | refine bka_ ?_ _)); exact BK208.out) hb); have n2_ := Aside0.mk (bp_ (by repeat (first | (with_reducible first | exact HB.out | apply ba_ | apply pbN_ | apply bd1_ | refine bs_ ?_ GE208.out) | exact HB.out)) hb); clear BK208; clear HB; have HO212 := n0_; have BK208 := n1_; have HB := n2_; clear n0_ n1_ n2_; clear hb ho12; obtain ⟨Ao13, co13, eo13⟩ := Kd.R_slice HO212.out; subst eo13) | ((with_reducible refine gate_callee (f := 16) rfl ?_); refine goesA_ (some 19) rfl rfl Try.func16 (by kernel_rfl) rfl #[.agg #[.int .i64 a0_0, .int .i64 a0_1, .slice A0_2 l0_2.length c0_2], .slice Ao13 y210.length co13, .int .i64 0, .slice none 0 0, .int .i64 301] rfl ?_; (refine (spec_l09Go.calls a0_0 a0_1 _ _ l0_2 _ _ y210 0 _ _ ([] : List (S45)) 301 t213 _ ?side1 ?side2 ?side3 ?side4 ?side5 ?side6 A5.out).mono ?_); (case side1 => repeat (first | exact (Kd.C_below HR0_2.out HB.out) | (with_reducible refine Kd.C_alloc ?_ _) | (with_reducible refine Kd.C_drewN ?_ _) | (with_reducible refine Kd.C_drew ?_))); (case side2 => exact HC0_2.out); (case side3 => repeat (first | exact (Kd.R_reads' HO212.out).2.2 | (with_reducible refine Kd.C_alloc ?_ _) | (with_reducible refine Kd.C_drewN ?_ _) | (with_reducible refine Kd.C_drew ?_))); (case side4 => exact (Kd.R_reads' HO212.out).2.1); (case side5 => exact Kd.C_nil _ _); (case side6 => exact Nat.le_refl _); rintro e w14 ⟨v214, rfl, ho0, hb⟩; refine ⟨_, rfl, ?_⟩; have n0_ := Aside0.mk (Kd.R_below (by (with_reducible repeat (first | apply Kd.R_alloc | apply Kd.R_drewN | apply Kd.R_drew)); exact HO212.out) hb); have n1_ := Aside0.mk (Kd.V_lower (Kd.V_mono (ok' := fun k_ => some k_ ≠ (.slice Ao13 y210.length co13 : Value).ownBlock ∧ k_ ≠ gb208) ho0 (fun k_ hk_ => ⟨(Kd.fresh' (Kd.R_lt (by (with_reducible repeat (first | apply Kd.R_alloc | apply Kd.R_drewN | apply Kd.R_drew)); exact HO212.out)) k_ hk_), (Kd.freshB (g := gb208) (o := .cells #[.int .i64 a0_0, .int .i64 a0_1, .slice A0_2 l0_2.length c0_2] 28 (0, 0)) (by (with_reducible repeat (first | refine bN_ ?_ _ | refine bkd_ ?_ | refine bka_ ?_ _)); exact BK208.out) k_ hk_)⟩)) (bz_ (by repeat (first | (with_reducible first | exact HB.out | apply ba_ | apply pbN_ | apply bd1_ | refine bs_ ?_ GE208.out) | exact HB.out)))); have n2_ := Aside0.mk (bb_ (g := gb208) (o := .cells #[.int .i64 a0_0, .int .i64 a0_1, .slice A0_2 l0_2.length c0_2] 28 (0, 0)) (by (with_reducible repeat (first | refine bN_ ?_ _ | refine bkd_ ?_ | refine bka_ ?_ _)); exact BK208.out) hb); have n3_ := Aside0.mk (bp_ (by repeat (first | (with_reducible first | exact HB.out | apply ba_ | apply pbN_ | apply bd1_ | refine bs_ ?_ GE208.out) | exact HB.out)) hb); clear HO212; clear BK208; clear HB; have HO212 := n0_; have HO215 := n1_; have BK208 := n2_; have HB := n3_; clear n0_ n1_ n2_ n3_; (try clear hb); (try clear hb2); (try clear hk); (try clear hi); (try clear ho0); obtain ⟨Ao15, co15, eo15⟩ := Kd.V_slice HO215.out; subst eo15))
   go_ret2
   exact ⟨_, by first | rfl | (simp [errW_none, errW_some] <;> rfl) | (simp [*, errW_none, errW_some] <;> rfl), by first | exact Kd.R_nil _ _ _ _ _ | exact Kd.N_nil _ _ _ _ _ | exact Kd.V_nil _ _ _ _ _ | exact Kd.Q_nil _ _ _ _ _ | exact Kd.S_nil _ _ _ _ _, by repeat (first | (with_reducible first | exact HB.out | apply ba_ | apply pbN_ | apply bd1_ | refine bs_ ?_ GE208.out) | exact HB.out)⟩
  ·rw [if_neg c6] at H
   have c6b0 : decide (300 < (t213.length : Int)) = false := decide_eq_false c6
   have c6b1 : decide (300 < t213.length) = false := decide_eq_false (by omega)
   clear c6
   obtain ⟨y216, hy216⟩ : ∃ y_ : List Int, y_ = (([] : List Int)) := ⟨_, rfl⟩
   replace H : (spec_HuntFleet.l0 k l1 y216 (([] : List (S45))) 0 a0_0 a0_1 l0_2) = some (r1, r2) := by first | (rw [hy216]; with_reducible exact H) | (have H2_ := (Option.bind_some _ _).symm.trans H; rw [hy216]; with_reducible exact H2_) | (have H2_ := (Option.bind_some _ _).symm.trans H; with_reducible exact H2_) | with_reducible exact H | (rw [hy216]; exact H) | exact H
   have Ny216 := Aside0.mk hy216
   clear hy216
   obtain ⟨y219, hy219⟩ : ∃ y_ : List (S45), y_ = (([] : List (S45))) := ⟨_, rfl⟩
   replace H : (spec_HuntFleet.l0 k l1 y216 y219 0 a0_0 a0_1 l0_2) = some (r1, r2) := by first | (rw [hy219]; with_reducible exact H) | (have H2_ := (Option.bind_some _ _).symm.trans H; rw [hy219]; with_reducible exact H2_) | (have H2_ := (Option.bind_some _ _).symm.trans H; with_reducible exact H2_) | with_reducible exact H | (rw [hy219]; exact H) | exact H
   have Ny219 := Aside0.mk hy219
   clear hy219
   have H' := Aside0.mk H
   clear H
   go_enter Try.func5, Try.ntmps5
   go_wp2_with (first | ((with_reducible refine gate_dst (N := 2) rfl ?_); refine box_event ?hg (N := 2) ?hd (cs := #[.int .i64 a0_0, .int .i64 a0_1, .slice A0_2 l0_2.length c0_2]) (t := 28) ?hr ?_; (case hd => rfl); (case hg => rfl); (case hr => first | (go_simp; done) | (go_simp; rfl)); intro gb208 hg w16 hbox hb; have n0_ := Aside0.mk (bp_ hb_ hb); have n1_ := Aside0.mk (hbox); have n2_ := Aside0.mk ((by rw [hg]; exact (bz_ hb_) : w.heap.size ≤ gb208)); have n3_ := Aside0.mk ((by rw [hg]; exact (bz_ hb_) : w.heap.size ≤ gb208)); clear HB; have HB := n0_; have BK208 := n1_; have GW208 := n2_; have GE208 := n3_; clear n0_ n1_ n2_ n3_; clear hb hbox hg; have hcz17_0 : w16.cell? ⟨gb208, 0, none⟩ = some (.int .i64 a0_0) := (bc_ BK208.out 0).trans rfl; have hcz17_1 : w16.cell? ⟨gb208, 1, none⟩ = some (.int .i64 a0_1) := (bc_ BK208.out 1).trans rfl; have hcz17_2 : w16.cell? ⟨gb208, 2, none⟩ = some (.slice A0_2 l0_2.length c0_2) := (bc_ BK208.out 2).trans rfl; have hfz17_0 := bf_ BK208.out 0; have hfz17_1 := bf_ BK208.out 1; have hfz17_2 := bf_ BK208.out 2) | ((with_reducible refine gate_callee (f := 15) rfl ?_); refine goesA_ (some 13) rfl rfl Try.func15 (by kernel_rfl) rfl #[.agg #[.int .i64 a0_0, .int .i64 a0_1, .slice A0_2 l0_2.length c0_2], .slice A1 l1.length c1] rfl ?_; (with_reducible refine (spec_l09Code.calls k a0_0 a0_1 _ _ l0_2 _ _ l1 t209 _ ?side1 ?side2 ?side3 ?side4 A3.out).mono ?_); (case side1 => repeat (first | exact (Kd.C_below HR0_2.out HB.out) | (with_reducible refine Kd.C_alloc ?_ _) | (with_reducible refine Kd.C_drewN ?_ _) | (with_reducible refine Kd.C_drew ?_))); (case side2 => exact HC0_2.out); (case side3 => repeat (first | exact (Kd.C_below HR1.out HB.out) | (with_reducible refine Kd.C_alloc ?_ _) | (with_reducible refine Kd.C_drewN ?_ _) | (with_reducible refine Kd.C_drew ?_))); (case side4 => exact HC1.out); rintro e w18 ⟨rfl, hb⟩; refine ⟨_, rfl, ?_⟩; have n0_ := Aside0.mk (bb_ (g := gb208) (o := .cells #[.int .i64 a0_0, .int .i64 a0_1, .slice A0_2 l0_2.length c0_2] 28 (0, 0)) (by (with_reducible repeat (first | refine bN_ ?_ _ | refine bkd_ ?_ | refine bka_ ?_ _)); exact BK208.out) hb); have n1_ := Aside0.mk (bp_ (by repeat (first | (with_reducible first | exact HB.out | apply ba_ | apply pbN_ | apply bd1_ | refine bs_ ?_ GE208.out) | exact HB.out)) hb); clear BK208; clear HB; have BK208 := n0_; have HB := n1_; clear n0_ n1_; (try clear hb); (try clear hb2); (try clear hk); (try clear hi); have hcz19_0 : w18.cell? ⟨gb208, 0, none⟩ = some (.int .i64 a0_0) := (bc_ BK208.out 0).trans rfl; have hcz19_1 : w18.cell? ⟨gb208, 1, none⟩ = some (.int .i64 a0_1) := (bc_ BK208.out 1).trans rfl; have hcz19_2 : w18.cell? ⟨gb208, 2, none⟩ = some (.slice A0_2 l0_2.length c0_2) := (bc_ BK208.out 2).trans rfl; have hfz19_0 := bf_ BK208.out 0; have hfz19_1 := bf_ BK208.out 1; have hfz19_2 := bf_ BK208.out 2) | ((with_reducible refine gate_dst (N := 18) rfl ?_); refine Kd.R_lit (Kd.int .i64) _ 2 ?hg (N := 18) ?hd (xs := ([] : List Int)) (inner := []) (ok := fun _ => True) (okp := fun _ => True) ?hr ?hp (fun _ hk => hk) trivial (Below.refl _ _) (Nat.le_refl _) (by simp) ?_; (case hd => rfl); (case hg => rfl); (case hr => first | (go_simp; done) | (go_simp; rfl)); (case hp => exact (Reps.none _ _)); intro v211 w20 ho21 hb hg_ hnew_; clear hg_ hnew_; (first | rw [← Ny210.out] at ho21 | (simp only [Int.reduceToNat] at ho21; rw [← Ny210.out] at ho21)); have n0_ := Aside0.mk (Kd.R_lower ho21 (bz_ (by repeat (first | (with_reducible first | exact HB.out | apply ba_ | apply pbN_ | apply bd1_ | refine bs_ ?_ GE208.out) | exact HB.out)))); have n1_ := Aside0.mk (bb_ (g := gb208) (o := .cells #[.int .i64 a0_0, .int .i64 a0_1, .slice A0_2 l0_2.length c0_2] 28 (0, 0)) (by (with_reducible repeat (first | refine bN_ ?_ _ | refine bkd_ ?_ | refine bka_ ?_ _)); exact BK208.out) hb); have n2_ := Aside0.mk (bp_ (by repeat (first | (with_reducible first | exact HB.out | apply ba_ | apply pbN_ | apply bd1_ | refine bs_ ?_ GE208.out) | exact HB.out)) hb); clear BK208; clear HB; have HO212 := n0_; have BK208 := n1_; have HB := n2_; clear n0_ n1_ n2_; clear hb ho21; obtain ⟨Ao22, co22, eo22⟩ := Kd.R_slice HO212.out; subst eo22) | ((with_reducible refine gate_callee (f := 16) rfl ?_); refine goesA_ (some 19) rfl rfl Try.func16 (by kernel_rfl) rfl #[.agg #[.int .i64 a0_0, .int .i64 a0_1, .slice A0_2 l0_2.length c0_2], .slice Ao22 y210.length co22, .int .i64 0, .slice none 0 0, .int .i64 301] rfl ?_; (refine (spec_l09Go.calls a0_0 a0_1 _ _ l0_2 _ _ y210 0 _ _ ([] : List (S45)) 301 t213 _ ?side1 ?side2 ?side3 ?side4 ?side5 ?side6 A5.out).mono ?_); (case side1 => repeat (first | exact (Kd.C_below HR0_2.out HB.out) | (with_reducible refine Kd.C_alloc ?_ _) | (with_reducible refine Kd.C_drewN ?_ _) | (with_reducible refine Kd.C_drew ?_))); (case side2 => exact HC0_2.out); (case side3 => repeat (first | exact (Kd.R_reads' HO212.out).2.2 | (with_reducible refine Kd.C_alloc ?_ _) | (with_reducible refine Kd.C_drewN ?_ _) | (with_reducible refine Kd.C_drew ?_))); (case side4 => exact (Kd.R_reads' HO212.out).2.1); (case side5 => exact Kd.C_nil _ _); (case side6 => exact Nat.le_refl _); rintro e w23 ⟨v214, rfl, ho0, hb⟩; refine ⟨_, rfl, ?_⟩; have n0_ := Aside0.mk (Kd.R_below (by (with_reducible repeat (first | apply Kd.R_alloc | apply Kd.R_drewN | apply Kd.R_drew)); exact HO212.out) hb); have n1_ := Aside0.mk (Kd.V_lower (Kd.V_mono (ok' := fun k_ => some k_ ≠ (.slice Ao22 y210.length co22 : Value).ownBlock ∧ k_ ≠ gb208) ho0 (fun k_ hk_ => ⟨(Kd.fresh' (Kd.R_lt (by (with_reducible repeat (first | apply Kd.R_alloc | apply Kd.R_drewN | apply Kd.R_drew)); exact HO212.out)) k_ hk_), (Kd.freshB (g := gb208) (o := .cells #[.int .i64 a0_0, .int .i64 a0_1, .slice A0_2 l0_2.length c0_2] 28 (0, 0)) (by (with_reducible repeat (first | refine bN_ ?_ _ | refine bkd_ ?_ | refine bka_ ?_ _)); exact BK208.out) k_ hk_)⟩)) (bz_ (by repeat (first | (with_reducible first | exact HB.out | apply ba_ | apply pbN_ | apply bd1_ | refine bs_ ?_ GE208.out) | exact HB.out)))); have n2_ := Aside0.mk (bb_ (g := gb208) (o := .cells #[.int .i64 a0_0, .int .i64 a0_1, .slice A0_2 l0_2.length c0_2] 28 (0, 0)) (by (with_reducible repeat (first | refine bN_ ?_ _ | refine bkd_ ?_ | refine bka_ ?_ _)); exact BK208.out) hb); have n3_ := Aside0.mk (bp_ (by repeat (first | (with_reducible first | exact HB.out | apply ba_ | apply pbN_ | apply bd1_ | refine bs_ ?_ GE208.out) | exact HB.out)) hb); clear HO212; clear BK208; clear HB; have HO212 := n0_; have HO215 := n1_; have BK208 := n2_; have HB := n3_; clear n0_ n1_ n2_ n3_; (try clear hb); (try clear hb2); (try clear hk); (try clear hi); (try clear ho0); obtain ⟨Ao24, co24, eo24⟩ := Kd.V_slice HO215.out; subst eo24) | ((with_reducible refine gate_dst (N := 22) rfl ?_); refine Kd.R_lit (Kd.int .i64) _ 2 ?hg (N := 22) ?hd (xs := ([] : List Int)) (inner := []) (ok := fun _ => True) (okp := fun _ => True) ?hr ?hp (fun _ hk => hk) trivial (Below.refl _ _) (Nat.le_refl _) (by simp) ?_; (case hd => rfl); (case hg => rfl); (case hr => first | (go_simp; done) | (go_simp; rfl)); (case hp => exact (Reps.none _ _)); intro v217 w25 ho26 hb hg_ hnew_; clear hg_ hnew_; (first | rw [← Ny216.out] at ho26 | (simp only [Int.reduceToNat] at ho26; rw [← Ny216.out] at ho26)); have n0_ := Aside0.mk (Kd.R_elder' (by (with_reducible repeat (first | apply Kd.R_alloc | apply Kd.R_drewN | apply Kd.R_drew)); exact HO212.out) (Kd.R_base ho26) hb); have n1_ := Aside0.mk (Kd.V_elder' (by (with_reducible repeat (first | apply Kd.V_alloc | apply Kd.V_drewN | apply Kd.V_drew)); exact HO215.out) (Kd.R_base ho26) hb); have n2_ := Aside0.mk (Kd.R_lower (Kd.R_new' ho26 (Kd.R_lt (by (with_reducible repeat (first | apply Kd.R_alloc | apply Kd.R_drewN | apply Kd.R_drew)); exact HO212.out))) (bz_ (by repeat (first | (with_reducible first | exact HB.out | apply ba_ | apply pbN_ | apply bd1_ | refine bs_ ?_ GE208.out) | exact HB.out)))); have n3_ := Aside0.mk (bb_ (g := gb208) (o := .cells #[.int .i64 a0_0, .int .i64 a0_1, .slice A0_2 l0_2.length c0_2] 28 (0, 0)) (by (with_reducible repeat (first | refine bN_ ?_ _ | refine bkd_ ?_ | refine bka_ ?_ _)); exact BK208.out) hb); have n4_ := Aside0.mk (bp_ (by repeat (first | (with_reducible first | exact HB.out | apply ba_ | apply pbN_ | apply bd1_ | refine bs_ ?_ GE208.out) | exact HB.out)) hb); clear HO212; clear HO215; clear BK208; clear HB; have HO212 := n0_; have HO215 := n1_; have HO218 := n2_; have BK208 := n3_; have HB := n4_; clear n0_ n1_ n2_ n3_ n4_; clear hb ho26) | ((with_reducible refine gate_dst (N := 23) rfl ?_); refine Kd.R_lit k45 _ 45 ?hg (N := 23) ?hd (xs := ([] : List (S45))) (inner := []) (ok := fun _ => True) (okp := fun _ => True) ?hr ?hp (fun _ hk => hk) trivial (Below.refl _ _) (Nat.le_refl _) (by simp) ?_; (case hd => rfl); (case hg => rfl); (case hr => first | (go_simp; done) | (go_simp; rfl)); (case hp => exact (Reps.none _ _)); intro v220 w27 ho28 hb hg_ hnew_; clear hg_ hnew_; (first | rw [← Ny219.out] at ho28 | (simp only [Int.reduceToNat] at ho28; rw [← Ny219.out] at ho28)); have n0_ := Aside0.mk (Kd.R_below (by (with_reducible repeat (first | apply Kd.R_alloc | apply Kd.R_drewN | apply Kd.R_drew)); exact HO212.out) hb); have n1_ := Aside0.mk (Kd.V_elder' (by (with_reducible repeat (first | apply Kd.V_alloc | apply Kd.V_drewN | apply Kd.V_drew)); exact HO215.out) (Kd.R_base ho28) hb); have n2_ := Aside0.mk (Kd.R_below (by (with_reducible repeat (first | apply Kd.R_alloc | apply Kd.R_drewN | apply Kd.R_drew)); exact HO218.out) hb); have n3_ := Aside0.mk (Kd.R_lower ho28 (bz_ (by repeat (first | (with_reducible first | exact HB.out | apply ba_ | apply pbN_ | apply bd1_ | refine bs_ ?_ GE208.out) | exact HB.out)))); have n4_ := Aside0.mk (bb_ (g := gb208) (o := .cells #[.int .i64 a0_0, .int .i64 a0_1, .slice A0_2 l0_2.length c0_2] 28 (0, 0)) (by (with_reducible repeat (first | refine bN_ ?_ _ | refine bkd_ ?_ | refine bka_ ?_ _)); exact BK208.out) hb); have n5_ := Aside0.mk (bp_ (by repeat (first | (with_reducible first | exact HB.out | apply ba_ | apply pbN_ | apply bd1_ | refine bs_ ?_ GE208.out) | exact HB.out)) hb); clear HO212; clear HO215; clear HO218; clear BK208; clear HB; have HO212 := n0_; have HO215 := n1_; have HO218 := n2_; have HO221 := n3_; have BK208 := n4_; have HB := n5_; clear n0_ n1_ n2_ n3_ n4_ n5_; clear hb ho28))
   go_loopg [7, 8, 9] k (fun kq v7 v8 v9 w' => ∃ (x7_1 : List Int) (x8_1 : List (S45)) (x9_1 : Int), v9 = .int .i64 x9_1 ∧ Aside0 (spec_HuntFleet.l0 kq l1 x7_1 x8_1 x9_1 a0_0 a0_1 l0_2 = some (r1, r2)) ∧ Aside0 (kq ≤ k) ∧ Aside0 (Kd.R (Kd.int .i64) 2 w' w.heap.size (fun _ => True) v7 x7_1) ∧ Aside0 (Kd.R k45 45 w' w.heap.size (fun _ => True) v8 x8_1) ∧ Aside0 (w'.heap[gb208]? = some (.cells #[.int .i64 a0_0, .int .i64 a0_1, (.slice A0_2 l0_2.length c0_2)] 28 (0, 0))) ∧ Aside0 (Below w.heap.size w w'))
   case atStart => exact ⟨(y216), (y219), (0), (by first | rfl | (simp; done) | (simp [*]; done)), H', ⟨Nat.le_refl _⟩, ⟨by (with_reducible repeat (first | apply Kd.R_alloc | apply Kd.R_drewN | apply Kd.R_drew)); exact Kd.R_mono HO218.out (fun _ hk => trivial)⟩, ⟨by (with_reducible repeat (first | apply Kd.R_alloc | apply Kd.R_drewN | apply Kd.R_drew)); exact HO221.out⟩, ⟨by (with_reducible repeat (first | refine bN_ ?_ _ | refine bkd_ ?_ | refine bka_ ?_ _)); exact BK208.out⟩, ⟨by repeat (first | (with_reducible first | exact HB.out | apply ba_ | apply pbN_ | apply bd1_ | refine bs_ ?_ GE208.out) | exact HB.out)⟩⟩
   case round =>
    clear H'
    (try clear c1); (try clear p2); (try clear c4); (try clear c4b0); (try clear c4b1); (try clear c5); (try clear c6); (try clear c6b0); (try clear c6b1); (try clear c15); (try clear c16); (try clear hcz10_0); (try clear hcz10_1); (try clear hcz10_2); (try clear hcz17_0); (try clear hcz17_1); (try clear hcz17_2); (try clear hcz19_0); (try clear hcz19_1); (try clear hcz19_2); (try clear hcz8_0); (try clear hcz8_1); (try clear hcz8_2); (try clear hfz10_0); (try clear hfz10_1); (try clear hfz10_2); (try clear hfz17_0); (try clear hfz17_1); (try clear hfz17_2); (try clear hfz19_0); (try clear hfz19_1); (try clear hfz19_2); (try clear hfz8_0); (try clear hfz8_1); (try clear hfz8_2)
    obtain ⟨x7_1, x8_1, x9_1, rfl, HA, HK1, HO_7, HO_8, BK208, HB⟩ := hrel
    cases gk with
    | zero => exact absurd HA.out (by simp [spec_HuntFleet.l0])
    | succ k1 =>
     have H := HA.out
     clear HA
     simp only [spec_HuntFleet.l0] at H
     replace H := Option.bind_eq_some_iff.mp H
     obtain ⟨t222, A290, H⟩ := H
     replace H : (if (Go.bits .andNot .i64 t222 x9_1) = 0 then (some (x7_1, 0)) else ((spec_l09Best.f k1 a0_0 a0_1 l0_2 x8_1).bind fun t223 => (if 0 ≤ (IntKind.u64.wrap (t223)) then ((spec_l09Answer.f k1 l1 t223 (Go.bits .or .i64 x9_1 (shl .i64 1 (IntKind.u64.wrap (t223))))).bind fun t224 => (if x8_1.length < 8796093022208 then (if x7_1.length < 17592186044416 then (spec_HuntFleet.l0 k1 l1 (x7_1 ++ [t223]) (x8_1 ++ [(⟨t223, t224⟩ : S45)]) (Go.bits .or .i64 x9_1 (shl .i64 1 (IntKind.u64.wrap (t223)))) a0_0 a0_1 l0_2) else (none)) else (none))) else (none)))) = some (r1, r2) := H
     have A29 := Aside0.mk A290
     clear A290
     by_cases c30 : (Go.bits .andNot .i64 t222 x9_1) = 0
     ·rw [if_pos c30] at H
      have c30b0 : ((Go.bits .andNot .i64 t222 x9_1) == 0) = true := beq_iff_eq.mpr c30
      have c30b1 : ((Go.bits .andNot .i64 t222 x9_1) != 0) = false := bne_eq_false_iff_eq.mpr c30
      clear c30
      simp only [Option.some.injEq, Prod.mk.injEq] at H
      obtain ⟨rfl, rfl⟩ := H
      go_wp2_with (first | ((with_reducible refine gate_callee (f := 17) rfl ?_); refine goesA_ (some 25) rfl rfl Try.func17 (by kernel_rfl) rfl #[.slice A1 l1.length c1] rfl ?_; (with_reducible refine (spec_l09Set.calls k1 _ _ l1 t222 _ ?side1 ?side2 A29.out).mono ?_); (case side1 => repeat (first | exact (Kd.C_below HR1.out HB.out) | (with_reducible refine Kd.C_alloc ?_ _) | (with_reducible refine Kd.C_drewN ?_ _) | (with_reducible refine Kd.C_drew ?_))); (case side2 => exact HC1.out); rintro e w' ⟨rfl, ⟨nd, rfl⟩⟩; refine ⟨_, rfl, ?_⟩))
      go_ret2
      exact ⟨_, by first | rfl | (simp [errW_none, errW_some] <;> rfl) | (simp [*, errW_none, errW_some] <;> rfl), by (with_reducible repeat (first | apply Kd.R_alloc | apply Kd.R_drewN | apply Kd.R_drew)); exact HO_7.out, by repeat (first | (with_reducible first | exact HB.out | apply ba_ | apply pbN_ | apply bd1_ | refine bs_ ?_ GE208.out) | exact HB.out)⟩
     ·rw [if_neg c30] at H
      have c30b0 : ((Go.bits .andNot .i64 t222 x9_1) == 0) = false := beq_eq_false_iff_ne.mpr c30
      have c30b1 : ((Go.bits .andNot .i64 t222 x9_1) != 0) = true := bne_iff_ne.mpr c30
      replace H := Option.bind_eq_some_iff.mp H
      obtain ⟨t223, A310, H⟩ := H
      replace H : (if 0 ≤ (IntKind.u64.wrap (t223)) then ((spec_l09Answer.f k1 l1 t223 (Go.bits .or .i64 x9_1 (shl .i64 1 (IntKind.u64.wrap (t223))))).bind fun t224 => (if x8_1.length < 8796093022208 then (if x7_1.length < 17592186044416 then (spec_HuntFleet.l0 k1 l1 (x7_1 ++ [t223]) (x8_1 ++ [(⟨t223, t224⟩ : S45)]) (Go.bits .or .i64 x9_1 (shl .i64 1 (IntKind.u64.wrap (t223)))) a0_0 a0_1 l0_2) else (none)) else (none))) else (none)) = some (r1, r2) := H
      have A31 := Aside0.mk A310
      clear A310
      obtain ⟨ji32, hji32⟩ : ∃ j_ : Int, (IntKind.u64.wrap (t223)) = j_ := ⟨_, rfl⟩
      replace H : (if 0 ≤ (ji32) then ((spec_l09Answer.f k1 l1 t223 (Go.bits .or .i64 x9_1 (shl .i64 1 (ji32)))).bind fun t224 => (if x8_1.length < 8796093022208 then (if x7_1.length < 17592186044416 then (spec_HuntFleet.l0 k1 l1 (x7_1 ++ [t223]) (x8_1 ++ [(⟨t223, t224⟩ : S45)]) (Go.bits .or .i64 x9_1 (shl .i64 1 (ji32))) a0_0 a0_1 l0_2) else (none)) else (none))) else (none)) = some (r1, r2) := by first | (rw [hji32] at H; exact H) | (simp only [hji32] at H ⊢; exact H)
      (try rw [hji32] at A29)
      (try rw [hji32] at A31)
      by_cases c33 : 0 ≤ (ji32)
      ·rw [if_pos c33] at H
       have c33b0 := eq_true c33
       have c33b1 : decide (0 ≤ (ji32)) = true := decide_eq_true c33
       clear c33
       obtain ⟨ji34, hji34⟩ : ∃ j_ : Int, (shl .i64 1 (ji32)) = j_ := ⟨_, rfl⟩
       replace H : ((spec_l09Answer.f k1 l1 t223 (Go.bits .or .i64 x9_1 (ji34))).bind fun t224 => (if x8_1.length < 8796093022208 then (if x7_1.length < 17592186044416 then (spec_HuntFleet.l0 k1 l1 (x7_1 ++ [t223]) (x8_1 ++ [(⟨t223, t224⟩ : S45)]) (Go.bits .or .i64 x9_1 (ji34)) a0_0 a0_1 l0_2) else (none)) else (none))) = some (r1, r2) := by first | (rw [hji34] at H; exact H) | (simp only [hji34] at H ⊢; exact H)
       (try rw [hji34] at A29)
       (try rw [hji34] at A31)
       have hji34_ : (IntKind.i64.wrap (1 * 2 ^ min (ji32).toNat 64)) = ji34 := hji34
       have hji34z : (ji32) ≤ 64 → (IntKind.i64.wrap (1 * 2 ^ (ji32).toNat)) = ji34 := shl_small hji34
       have hji34u : (IntKind.i64.wrap (2 ^ min (ji32).toNat 64)) = ji34 := by have h_ := hji34_; rw [Int.one_mul] at h_; exact h_
       have hji34v : (ji32) ≤ 64 → (IntKind.i64.wrap (2 ^ (ji32).toNat)) = ji34 := fun hle_ => by have h_ := hji34z hle_; rw [Int.one_mul] at h_; exact h_
       have hji34y : (wrap64 (1 * 2 ^ min (ji32).toNat 64)) = ji34 := (i64_w _).symm.trans hji34_
       have hji34x : (ji32) ≤ 64 → (wrap64 (1 * 2 ^ (ji32).toNat)) = ji34 := fun h_ => (i64_w _).symm.trans (hji34z h_)
       replace H := Option.bind_eq_some_iff.mp H
       obtain ⟨t224, A350, H⟩ := H
       replace H : (if x8_1.length < 8796093022208 then (if x7_1.length < 17592186044416 then (spec_HuntFleet.l0 k1 l1 (x7_1 ++ [t223]) (x8_1 ++ [(⟨t223, t224⟩ : S45)]) (Go.bits .or .i64 x9_1 (ji34)) a0_0 a0_1 l0_2) else (none)) else (none)) = some (r1, r2) := H
       have A35 := Aside0.mk A350
       clear A350
       by_cases c36 : x8_1.length < 8796093022208
       ·rw [if_pos c36] at H
        have LMc36 := Aside0.mk c36
        clear c36
        obtain ⟨y225, hy225⟩ : ∃ y_ : List (S45), y_ = (x8_1 ++ [(⟨t223, t224⟩ : S45)]) := ⟨_, rfl⟩
        replace H : (if x7_1.length < 17592186044416 then (spec_HuntFleet.l0 k1 l1 (x7_1 ++ [t223]) y225 (Go.bits .or .i64 x9_1 (ji34)) a0_0 a0_1 l0_2) else (none)) = some (r1, r2) := by first | (rw [hy225]; with_reducible exact H) | (have H2_ := (Option.bind_some _ _).symm.trans H; rw [hy225]; with_reducible exact H2_) | (have H2_ := (Option.bind_some _ _).symm.trans H; with_reducible exact H2_) | with_reducible exact H | (rw [hy225]; exact H) | exact H
        have Ny225 := Aside0.mk hy225
        clear hy225
        by_cases c37 : x7_1.length < 17592186044416
        ·rw [if_pos c37] at H
         have LMc37 := Aside0.mk c37
         clear c37
         obtain ⟨y228, hy228⟩ : ∃ y_ : List Int, y_ = (x7_1 ++ [t223]) := ⟨_, rfl⟩
         replace H : (spec_HuntFleet.l0 k1 l1 y228 y225 (Go.bits .or .i64 x9_1 (ji34)) a0_0 a0_1 l0_2) = some (r1, r2) := by first | (rw [hy228]; with_reducible exact H) | (have H2_ := (Option.bind_some _ _).symm.trans H; rw [hy228]; with_reducible exact H2_) | (have H2_ := (Option.bind_some _ _).symm.trans H; with_reducible exact H2_) | with_reducible exact H | (rw [hy228]; exact H) | exact H
         have Ny228 := Aside0.mk hy228
         clear hy228
         have H' := Aside0.mk H
         clear H
         go_wp2_with (first | ((with_reducible refine gate_callee (f := 17) rfl ?_); refine goesA_ (some 25) rfl rfl Try.func17 (by kernel_rfl) rfl #[.slice A1 l1.length c1] rfl ?_; (with_reducible refine (spec_l09Set.calls k1 _ _ l1 t222 _ ?side1 ?side2 A29.out).mono ?_); (case side1 => repeat (first | exact (Kd.C_below HR1.out HB.out) | (with_reducible refine Kd.C_alloc ?_ _) | (with_reducible refine Kd.C_drewN ?_ _) | (with_reducible refine Kd.C_drew ?_))); (case side2 => exact HC1.out); rintro e w' ⟨rfl, ⟨nd, rfl⟩⟩; refine ⟨_, rfl, ?_⟩; have hcz38_0 : wr.cell? ⟨gb208, 0, none⟩ = some (.int .i64 a0_0) := (bc_ BK208.out 0).trans rfl; have hcz38_1 : wr.cell? ⟨gb208, 1, none⟩ = some (.int .i64 a0_1) := (bc_ BK208.out 1).trans rfl; have hcz38_2 : wr.cell? ⟨gb208, 2, none⟩ = some (.slice A0_2 l0_2.length c0_2) := (bc_ BK208.out 2).trans rfl; have hfz38_0 := bf_ BK208.out 0; have hfz38_1 := bf_ BK208.out 1; have hfz38_2 := bf_ BK208.out 2; obtain ⟨Ao39, co39, eo39⟩ := Kd.R_slice HO_8.out; subst eo39) | ((with_reducible refine gate_callee (f := 18) rfl ?_); refine goesA_ (some 31) rfl rfl Try.func18 (by kernel_rfl) rfl #[.agg #[.int .i64 a0_0, .int .i64 a0_1, .slice A0_2 l0_2.length c0_2], .slice Ao39 x8_1.length co39] rfl ?_; (with_reducible refine (spec_l09Best.calls k1 a0_0 a0_1 _ _ l0_2 _ _ x8_1 t223 _ ?side1 ?side2 ?side3 ?side4 A31.out).mono ?_); (case side1 => repeat (first | exact (Kd.C_below HR0_2.out (by repeat (first | (with_reducible first | exact HB.out | apply ba_ | apply pbN_ | apply bd1_ | refine bs_ ?_ GE208.out) | exact HB.out))) | (with_reducible refine Kd.C_alloc ?_ _) | (with_reducible refine Kd.C_drewN ?_ _) | (with_reducible refine Kd.C_drew ?_))); (case side2 => exact HC0_2.out); (case side3 => repeat (first | exact (Kd.R_reads' HO_8.out).2.2 | (with_reducible refine Kd.C_alloc ?_ _) | (with_reducible refine Kd.C_drewN ?_ _) | (with_reducible refine Kd.C_drew ?_))); (case side4 => exact (Kd.R_reads' HO_8.out).2.1); rintro e w40 ⟨rfl, hb⟩; refine ⟨_, rfl, ?_⟩; have n0_ := Aside0.mk (Kd.R_below (by (with_reducible repeat (first | apply Kd.R_alloc | apply Kd.R_drewN | apply Kd.R_drew)); exact HO_7.out) hb); have n1_ := Aside0.mk (Kd.R_below (by (with_reducible repeat (first | apply Kd.R_alloc | apply Kd.R_drewN | apply Kd.R_drew)); exact HO_8.out) hb); have n2_ := Aside0.mk (bb_ (g := gb208) (o := .cells #[.int .i64 a0_0, .int .i64 a0_1, .slice A0_2 l0_2.length c0_2] 28 (0, 0)) (by (with_reducible repeat (first | refine bN_ ?_ _ | refine bkd_ ?_ | refine bka_ ?_ _)); exact BK208.out) hb); have n3_ := Aside0.mk (bp_ (by repeat (first | (with_reducible first | exact HB.out | apply ba_ | apply pbN_ | apply bd1_ | refine bs_ ?_ GE208.out) | exact HB.out)) hb); clear HO_7; clear HO_8; clear BK208; clear HB; have HO_7 := n0_; have HO_8 := n1_; have BK208 := n2_; have HB := n3_; clear n0_ n1_ n2_ n3_; (try clear hb); (try clear hb2); (try clear hk); (try clear hi)) | ((with_reducible refine gate_callee (f := 19) rfl ?_); refine goesL_ (some 42) rfl rfl Try.func19 (by kernel_rfl) rfl #[.slice A1 l1.length c1, .int .i64 t223, .int .i64 (Go.bits .or .i64 x9_1 (ji34))] rfl (by (try simp only [List.map_toArray, List.map_cons, List.map_nil]); first | done | (simp only [hji34]; rfl) | rfl | (simp only [List.length_drop, List.length_take]; rfl)) ?_; (with_reducible refine (spec_l09Answer.calls k1 _ _ l1 t223 (Go.bits .or .i64 x9_1 (ji34)) t224 _ ?side1 ?side2 A35.out).mono ?_); (case side1 => repeat (first | exact (Kd.C_below HR1.out HB.out) | (with_reducible refine Kd.C_alloc ?_ _) | (with_reducible refine Kd.C_drewN ?_ _) | (with_reducible refine Kd.C_drew ?_))); (case side2 => exact HC1.out); rintro e w' ⟨rfl, ⟨nd, rfl⟩⟩; refine ⟨_, rfl, ?_⟩) | ((with_reducible refine gate_builtin (b := .append) (xs := #[.tmp 37, .tmp 44]) rfl ?_); at_builtin; refine Kd.R_append k45 (w0 := w) w.heap.size rfl (.tmp 37) (.tmp 44) 39 45 (.agg #[(.int .i64 0), (.int .i64 0)]) 16 rfl Try.underlying39 info45 rfl (by decide) (by omega) (.slice Ao39 x8_1.length co39) x8_1 (⟨t223, t224⟩ : S45) [.int .i64 t223, .int .i64 t224] (fun _ => True) (fun _ => False) rfl rfl ?aP (fun _ hk => hk.elim) ?aF ?aO ?aB ?aS ?aL ?_; (case aP => exact k45_mkM _ _ _ (⟨t223, t224⟩ : S45)); (case aB => exact (by repeat (first | (with_reducible first | exact HB.out | apply ba_ | apply pbN_ | apply bd1_ | refine bs_ ?_ GE208.out) | exact HB.out))); (case aF => exact (fun _ _ => trivial)); (case aO => exact (by (with_reducible repeat (first | apply Kd.R_alloc | apply Kd.R_drewN | apply Kd.R_drew)); exact HO_8.out)); (case aS => exact (bz_ (by repeat (first | (with_reducible first | exact HB.out | apply ba_ | apply pbN_ | apply bd1_ | refine bs_ ?_ GE208.out) | exact HB.out)))); (case aL => have := LMc36.out; omega); intro v226 w41 ho hb hg hat; rw [← Ny225.out] at ho; have n0_ := Aside0.mk (Kd.R_over' (by (with_reducible repeat (first | apply Kd.R_alloc | apply Kd.R_drewN | apply Kd.R_drew)); exact HO_7.out) (Kd.R_typed (by (with_reducible repeat (first | apply Kd.R_alloc | apply Kd.R_drewN | apply Kd.R_drew)); exact HO_8.out)) (by decide) hg); have n1_ := Aside0.mk (blk_grown (g := gb208) (o := .cells #[.int .i64 a0_0, .int .i64 a0_1, .slice A0_2 l0_2.length c0_2] 28 (0, 0)) (by (with_reducible repeat (first | refine bN_ ?_ _ | refine bkd_ ?_ | refine bka_ ?_ _)); exact BK208.out) hg (Kd.R_ne HO_8.out BK208.out (by decide))); have n2_ := Aside0.mk (hb); have n3_ := Aside0.mk (ho); clear HO_7; clear BK208; clear HB; clear HO_8; have HO_7 := n0_; have BK208 := n1_; have HB := n2_; have HO227 := n3_; clear n0_ n1_ n2_ n3_; clear ho hb hg hat) | ((with_reducible refine gate_builtin (b := .append) (xs := #[.tmp 46, .tmp 48]) rfl ?_); at_builtin; refine Kd.R_append (Kd.int .i64) (w0 := w) w.heap.size rfl (.tmp 46) (.tmp 48) 22 2 (.int .i64 0) 8 rfl Try.underlying22 info2 rfl (by decide) (by omega) u7 x7_1 t223 [.int .i64 t223] (fun _ => True) (fun _ => False) rfl rfl ?aP (fun _ hk => hk.elim) ?aF ?aO ?aB ?aS ?aL ?_; (case aP => exact rfl); (case aB => exact (by repeat (first | (with_reducible first | exact HB.out | apply ba_ | apply pbN_ | apply bd1_ | refine bs_ ?_ GE208.out) | exact HB.out))); (case aF => exact (fun _ _ => trivial)); (case aO => exact (by (with_reducible repeat (first | apply Kd.R_alloc | apply Kd.R_drewN | apply Kd.R_drew)); exact HO_7.out)); (case aS => exact (bz_ (by repeat (first | (with_reducible first | exact HB.out | apply ba_ | apply pbN_ | apply bd1_ | refine bs_ ?_ GE208.out) | exact HB.out)))); (case aL => have := LMc37.out; omega); intro v229 w42 ho hb hg hat; rw [← Ny228.out] at ho; have n0_ := Aside0.mk (blk_grown (g := gb208) (o := .cells #[.int .i64 a0_0, .int .i64 a0_1, .slice A0_2 l0_2.length c0_2] 28 (0, 0)) (by (with_reducible repeat (first | refine bN_ ?_ _ | refine bkd_ ?_ | refine bka_ ?_ _)); exact BK208.out) hg (Kd.R_ne HO_7.out BK208.out (by decide))); have n1_ := Aside0.mk (Kd.R_over' (by (with_reducible repeat (first | apply Kd.R_alloc | apply Kd.R_drewN | apply Kd.R_drew)); exact HO227.out) (Kd.R_typed (by (with_reducible repeat (first | apply Kd.R_alloc | apply Kd.R_drewN | apply Kd.R_drew)); exact HO_7.out)) (by decide) hg); have n2_ := Aside0.mk (hb); have n3_ := Aside0.mk (ho); clear BK208; clear HO227; clear HB; clear HO_7; have BK208 := n0_; have HO227 := n1_; have HB := n2_; have HO230 := n3_; clear n0_ n1_ n2_ n3_; clear ho hb hg hat))
         go_roundg k1
         case measure => have := HK1.out; omega
         case rel => exact ⟨(y228), (y225), (Go.bits .or .i64 x9_1 (ji34)), (by first | rfl | (simp; done) | (simp only [← hji34] <;> (first | rfl | simp)) | (simp [*]; done)), H', ⟨by have := HK1.out; omega⟩, ⟨by (with_reducible repeat (first | apply Kd.R_alloc | apply Kd.R_drewN | apply Kd.R_drew)); exact HO230.out⟩, ⟨by (with_reducible repeat (first | apply Kd.R_alloc | apply Kd.R_drewN | apply Kd.R_drew)); exact HO227.out⟩, ⟨by (with_reducible repeat (first | refine bN_ ?_ _ | refine bkd_ ?_ | refine bka_ ?_ _)); exact BK208.out⟩, ⟨by repeat (first | (with_reducible first | exact HB.out | apply ba_ | apply pbN_ | apply bd1_ | refine bs_ ?_ GE208.out) | exact HB.out)⟩⟩
        ·rw [if_neg c37] at H
         exact absurd H (by simp)
       ·rw [if_neg c36] at H
        exact absurd H (by simp)
      ·rw [if_neg c33] at H
       exact absurd H (by simp)
 ·rw [if_neg c4] at H
  have c4b0 : (t209 == 0) = false := beq_eq_false_iff_ne.mpr c4
  have c4b1 : (t209 != 0) = true := bne_iff_ne.mpr c4
  simp only [Option.some.injEq, Prod.mk.injEq] at H
  obtain ⟨rfl, rfl⟩ := H
  go_enter Try.func5, Try.ntmps5
  go_wp2_with (first | ((with_reducible refine gate_dst (N := 2) rfl ?_); refine box_event ?hg (N := 2) ?hd (cs := #[.int .i64 a0_0, .int .i64 a0_1, .slice A0_2 l0_2.length c0_2]) (t := 28) ?hr ?_; (case hd => rfl); (case hg => rfl); (case hr => first | (go_simp; done) | (go_simp; rfl)); intro gb208 hg w43 hbox hb; have n0_ := Aside0.mk (bp_ hb_ hb); have n1_ := Aside0.mk (hbox); have n2_ := Aside0.mk ((by rw [hg]; exact (bz_ hb_) : w.heap.size ≤ gb208)); have n3_ := Aside0.mk ((by rw [hg]; exact (bz_ hb_) : w.heap.size ≤ gb208)); clear HB; have HB := n0_; have BK208 := n1_; have GW208 := n2_; have GE208 := n3_; clear n0_ n1_ n2_ n3_; clear hb hbox hg; have hcz44_0 : w43.cell? ⟨gb208, 0, none⟩ = some (.int .i64 a0_0) := (bc_ BK208.out 0).trans rfl; have hcz44_1 : w43.cell? ⟨gb208, 1, none⟩ = some (.int .i64 a0_1) := (bc_ BK208.out 1).trans rfl; have hcz44_2 : w43.cell? ⟨gb208, 2, none⟩ = some (.slice A0_2 l0_2.length c0_2) := (bc_ BK208.out 2).trans rfl; have hfz44_0 := bf_ BK208.out 0; have hfz44_1 := bf_ BK208.out 1; have hfz44_2 := bf_ BK208.out 2) | ((with_reducible refine gate_callee (f := 15) rfl ?_); refine goesA_ (some 13) rfl rfl Try.func15 (by kernel_rfl) rfl #[.agg #[.int .i64 a0_0, .int .i64 a0_1, .slice A0_2 l0_2.length c0_2], .slice A1 l1.length c1] rfl ?_; (with_reducible refine (spec_l09Code.calls k a0_0 a0_1 _ _ l0_2 _ _ l1 t209 _ ?side1 ?side2 ?side3 ?side4 A3.out).mono ?_); (case side1 => repeat (first | exact (Kd.C_below HR0_2.out HB.out) | (with_reducible refine Kd.C_alloc ?_ _) | (with_reducible refine Kd.C_drewN ?_ _) | (with_reducible refine Kd.C_drew ?_))); (case side2 => exact HC0_2.out); (case side3 => repeat (first | exact (Kd.C_below HR1.out HB.out) | (with_reducible refine Kd.C_alloc ?_ _) | (with_reducible refine Kd.C_drewN ?_ _) | (with_reducible refine Kd.C_drew ?_))); (case side4 => exact HC1.out); rintro e w45 ⟨rfl, hb⟩; refine ⟨_, rfl, ?_⟩; have n0_ := Aside0.mk (bb_ (g := gb208) (o := .cells #[.int .i64 a0_0, .int .i64 a0_1, .slice A0_2 l0_2.length c0_2] 28 (0, 0)) (by (with_reducible repeat (first | refine bN_ ?_ _ | refine bkd_ ?_ | refine bka_ ?_ _)); exact BK208.out) hb); have n1_ := Aside0.mk (bp_ (by repeat (first | (with_reducible first | exact HB.out | apply ba_ | apply pbN_ | apply bd1_ | refine bs_ ?_ GE208.out) | exact HB.out)) hb); clear BK208; clear HB; have BK208 := n0_; have HB := n1_; clear n0_ n1_; (try clear hb); (try clear hb2); (try clear hk); (try clear hi)))
  go_ret2
  exact ⟨_, by first | rfl | (simp [errW_none, errW_some] <;> rfl) | (simp [*, errW_none, errW_some] <;> rfl), by first | exact Kd.R_nil _ _ _ _ _ | exact Kd.N_nil _ _ _ _ _ | exact Kd.V_nil _ _ _ _ _ | exact Kd.Q_nil _ _ _ _ _ | exact Kd.S_nil _ _ _ _ _, by repeat (first | (with_reducible first | exact HB.out | apply ba_ | apply pbN_ | apply bd1_ | refine bs_ ?_ GE208.out) | exact HB.out)⟩
set_option maxHeartbeats 4000000 in
set_option maxRecDepth 100000 in
theorem list_call (w0 : World) (g6 c cu : Nat) (A Au : Option Addr) (rows : List (List Int)) (list : List Int) (P : Nat → Prop) (W : World) (hlen : (rows.length + 1) * 24 ≤ 140737488355328) (hX : W.heap[g6]? = some (.cells #[.slice Au rows.length cu] 37 (0, 0))) (hS : Kd.S (Kd.slice 2 (Kd.int .i64)) 22 W w0.heap.size P (.slice Au rows.length cu) rows) (hA : Kd.R (Kd.int .i64) 2 W w0.heap.size (fun _ => True) (.slice A list.length c) list)
  (hnP : ∀ k, some k = (Value.slice A list.length c).ownBlock → ¬ P k) (hB : Below w0.heap.size w0 W) (hg6 : w0.heap.size ≤ g6) (hP6 : ¬ P g6) :
  Calls Try.prog 38 #[.slice A list.length c, .pointer (some ⟨g6, 0, none⟩)] W fun e w' => e = .returned (.tuple #[]) ∧ ∃ A6 c6, w'.heap[g6]? = some (.cells #[.slice A6 (rows ++ [list]).length c6] 37 (0, 0)) ∧ Kd.S (Kd.slice 2 (Kd.int .i64)) 22 w' w0.heap.size (fun k => ((P k ∨ some k = (Value.slice A list.length c).ownBlock ∨ W.heap.size ≤ k) ∧ k ≠ g6) ∧ k < w'.heap.size) (.slice A6 (rows ++ [list]).length c6) (rows ++ [list]) ∧ Below w0.heap.size w0 w' ∧ FrameX (fun k => some k = (Value.slice A list.length c).ownBlock) (fun k => k = g6 ∨ P k) (fun k => k = g6 ∨ ((P k ∨ some k = (Value.slice A list.length c).ownBlock ∨ W.heap.size ≤ k) ∧ k ≠ g6) ∧ k < w'.heap.size) W w' := by
 have hx := (bc_ hX 0).trans rfl
 have HNP := Aside0.mk hnP
 have HLen := Aside0.mk hlen
 have HG6 := Aside0.mk hg6
 have HOWN := Aside0.mk (fun k (hk : (Value.slice Au rows.length cu).ownBlock = some k) => show P k from (Kd.S_R hS).1 k hk)
 clear hnP hlen hg6
 obtain ⟨rows2, hr2⟩ : ∃ r, rows ++ [list] = r := ⟨_, rfl⟩
 rw [hr2]
 have HR2 := Aside0.mk hr2
 clear hr2
 have HS := Aside0.mk hS
 have HA := Aside0.mk hA
 have HX := Aside0.mk hX
 have HB := Aside0.mk hB
 clear hS hA hX hB
 go_enter Try.func38, Try.ntmps38
 go_wp2_with (first | ((with_reducible refine gate_builtin (b := .append) (xs := #[.tmp 3, .tmp 5]) rfl ?_); at_builtin; refine Kd.S_append (Kd.slice 2 (Kd.int .i64)) (w0 := w0) w0.heap.size rfl (.tmp 3) (.tmp 5) 37 22 (.slice none 0 0) 24 rfl Try.underlying37 info22 rfl (by decide) (by omega) (.slice Au rows.length cu) rows list [.slice A list.length c] (fun k => P k ∨ some k = (Value.slice A list.length c).ownBlock ∨ W.heap.size ≤ k) (fun k_ => some k_ = (.slice A list.length c : Value).ownBlock) rfl rfl ?aP ?aQ ?aF ?aO ?aB ?aS ?aL ?_; (case aP => exact Kd.M_row (Kd.R_mono (Kd.R_tight rfl HA.out) (fun _ h_ => h_))); (case aQ => exact fun k_ e_ => ⟨.inr (.inl e_), fun e2_ => HNP.out k_ e_ (HOWN.out k_ e2_.symm)⟩); (case aF => exact fun k_ hk_ => .inr (.inr hk_)); (case aO => exact Kd.S_mono HS.out (fun k hk => ⟨.inl hk, fun e_ => HNP.out k e_ hk⟩)); (case aB => exact HB.out); (case aS => exact bz_ HB.out); (case aL => exact HLen.out); intro v6 w2 ho hb hg hat; rw [HR2.out] at ho; obtain ⟨A6, c6, e6⟩ := Kd.S_slice ho; subst e6; have HS2 := Aside0.mk ho; have HB2 := Aside0.mk hb; have HX2 := Aside0.mk (blk_grown HX.out hg (Kd.S_ne HS.out HX.out (by decide))); have HG := Aside0.mk hg; clear ho hb hg hat hx; have hx6 := (bc_ HX2.out 0).trans rfl; have hf6 := bf_ HX2.out 0) | ((with_reducible refine gate_store (t := 37) (p := 1) rfl ?_); refine store_event (t := 37) (p := 1) (v := .tmp 6) (w1 := (w2.setCell ⟨g6, 0, none⟩ (.slice A6 rows2.length c6))) ?hg ?ho ?hn ?hr ?_; (case ho => rfl); (case hg => rfl); (case hn => rfl); (case hr => first | (go_simp; done) | (go_simp; rfl)); intro w3 hw3; have HW3 := Aside0.mk hw3; clear hw3 hx6 hf6))
 go_end0
 have hs6 := Kd.S_far (p := ⟨g6, 0, none⟩) (Kd.S_types HS2.out HX2.out (by decide)) (fun _ hk => hk.2) (.slice A6 rows2.length c6)
 have hw := HW3.out
 have hsz : w3.heap.size = w2.heap.size := by rw [hw]; simp [World.setCell]
 have hgs : W.heap.size ≤ w2.heap.size := HG.out.size
 rw [← hw] at hs6
 refine ⟨rfl, A6, c6, by rw [hw]; exact blk_put HX2.out 0 _ rfl, Kd.S_mono (Kd.S_bound hs6) (fun k hk => ⟨hk.1, hk.2.2.1⟩), by rw [hw]; exact bs_ HB2.out HG6.out, by rw [hw]; exact HB2.out.os.trans HB.out.os.symm, by rw [hw]; exact HB2.out.tape.trans HB.out.tape.symm, by rw [hw]; exact HB2.out.output.trans HB.out.output.symm, by omega, fun k hk hn => ?_, fun k hk => ?_⟩
 ·rw [hw, Below.heap_setCell w2 ⟨g6, 0, none⟩ _ k (fun e => hn (.inl e))]
  exact HG.out.block k hk (fun e => hn (.inr (HOWN.out k e.symm)))
 ·rcases hk with rfl | ⟨⟨hk | hk | hk, _⟩, _⟩
  ·exact .inl (.inl rfl)
  ·exact .inl (.inr hk)
  ·exact .inr (.inr hk)
  ·exact .inr (.inl hk)
def ListI (w0 : World) (g6 : Nat) (fleets : List (List Int)) (i : Nat) (M : Nat → Prop) (W : World) : Prop :=
 ∃ (P : Nat → Prop) (Au : Option Addr) (cu : Nat), M = (fun k => k = g6 ∨ P k) ∧ (∀ k, P k → k < W.heap.size ∧ k ≠ g6) ∧ W.heap[g6]? = some (.cells #[.slice Au (fleets.take i).length cu] 37 (0, 0)) ∧ Kd.S (Kd.slice 2 (Kd.int .i64)) 22 W w0.heap.size P (.slice Au (fleets.take i).length cu) (fleets.take i) ∧ Below w0.heap.size w0 W
theorem list_ok {w0 : World} {g6 : Nat} {fleets : List (List Int)} (hf : fleets.length ≤ 1000000) (hne : ∀ fl ∈ fleets, 0 < fl.length) (hg6 : w0.heap.size ≤ g6) : EachOk w0.heap.size 38 #[.pointer (some ⟨g6, 0, none⟩)] fleets (ListI w0 g6 fleets) where
 stay := fun i M W W' h hb => by
  obtain ⟨P, Au, cu, hM, hP, hX, hS, hB⟩ := h
  exact ⟨P, Au, cu, hM, fun k hk => ⟨Nat.lt_of_lt_of_le (hP k hk).1 hb.size, (hP k hk).2⟩, bb_ hX hb, Kd.S_below hS hb, bp_ hB hb⟩
 own := fun i M W h k hk => by
  obtain ⟨P, Au, cu, hM, hP, hX, _, _⟩ := h
  rw [hM] at hk
  rcases hk with rfl | hk
  ·exact blk_lt hX
  ·exact (hP k hk).1
 call := fun i M W A c list h hl hcl hlc hR => by
  obtain ⟨P, Au, cu, hM, hP, hX, hS, hB⟩ := h
  obtain ⟨hi, he⟩ := List.getElem?_eq_some_iff.1 hl
  have h0 := hne list (by rw [← he]; exact List.getElem_mem hi)
  have hnP : ∀ k, some k = (Value.slice A list.length c).ownBlock → ¬ P k := fun k hk hPk => by
   cases A with
   | none => simp [Value.ownBlock] at hk
   | some a =>
    have e : k = a.block := by simpa [Value.ownBlock] using hk
    subst e
    exact (hcl.2 h0 a rfl).2 (by rw [hM]; exact .inr hPk)
  have hlen : ((fleets.take i).length + 1) * 24 ≤ 140737488355328 := by rw [List.length_take]; omega
  refine (list_call w0 g6 c cu A Au (fleets.take i) list P W hlen hX hS hR hnP hB hg6 (fun h => (hP g6 h).2 rfl)).mono ?_
  rintro e w' ⟨rfl, A6, c6, h1, h2, h3, h4⟩
  have et : fleets.take i ++ [list] = fleets.take (i + 1) := by rw [List.take_succ_eq_append_getElem hi, he]
  rw [et] at h1 h2
  rw [hM]
  exact ⟨rfl, _, ⟨_, A6, c6, rfl, fun k hk => ⟨hk.2, hk.1.2⟩, h1, h2, h3⟩, h4⟩
theorem list_each (W0 H0 : Nat) (ships : List Int) (A2 : Option Addr) (c2 : Nat) (hw : 1 ≤ W0 ∧ W0 ≤ 5) (hh : 1 ≤ H0 ∧ H0 ≤ 5) (hsz : 1 ≤ ships.length ∧ ships.length ≤ 3) (hsin : ∀ j : Nat, j < ships.length → inW (rd ships (j : Int)) 1 5 = true) (hsc : ships.length ≤ c2)
  {w W : World} {g6 : Nat} {A6 : Option Addr} {c6 : Nat} {ok : Nat → Prop} (hg6 : w.heap.size ≤ g6) (hR : Kd.C (Kd.int .i64) w A2 ships.length ships) (hX : W.heap[g6]? = some (.cells #[.slice A6 0 c6] 37 (0, 0))) (hS : Kd.S (Kd.slice 2 (Kd.int .i64)) 22 W w.heap.size (fun k => ok k ∧ k ≠ g6) (.slice A6 0 c6) []) (hB : Below w.heap.size w W) :
  Calls Try.prog 37 #[.agg #[.int .i64 (W0 : Int), .int .i64 (H0 : Int), .slice A2 ships.length c2], .func (.func 38) #[] #[.pointer (some ⟨g6, 0, none⟩)]] W fun e w' => e = .returned (.tuple #[]) ∧ ∃ A7 c7, w'.heap[g6]? = some (.cells #[.slice A7 (fleetsFrom W0 H0 ships ships.length []).length c7] 37 (0, 0)) ∧ Kd.S (Kd.slice 2 (Kd.int .i64)) 22 w' w.heap.size (fun _ => True) (.slice A7 (fleetsFrom W0 H0 ships ships.length []).length c7) (fleetsFrom W0 H0 ships ships.length []) ∧ Below w.heap.size w w' := by
 have eg67 : ∀ args w, (callFunc 38 args).run Try.prog w = .ok (.enter 38 args) w := enters_of Try.func38 (by kernel_rfl) rfl
 have hpl : ∀ j, (placeOf W0 H0 ships j).length ≤ 100 := fun j => placeOf_len hw.2 hh.2 ships j
 have hfl : (fleetsFrom W0 H0 ships ships.length []).length ≤ 1000000 := by
  refine Nat.le_trans (fleets_len W0 H0 ships hpl ships.length []) ?_
  exact Nat.le_trans (Nat.pow_le_pow_right (by omega) hsz.2) (by simp)
 have hne : ∀ fl ∈ fleetsFrom W0 H0 ships ships.length [], 0 < fl.length := fun fl h => by
  have := (fleets_in ships.length [] InPl.nil (by simp) fl h).2
  omega
 have hS2 := Kd.S_bound hS
 have hMb : ∀ k, (k = g6 ∨ ((ok k ∧ k ≠ g6) ∧ w.heap.size ≤ k ∧ k < W.heap.size ∧ ∃ q, q ∈ 22 :: (Kd.slice 2 (Kd.int .i64)).E ∧ ∃ cells, W.heap[k]? = some (.cells cells q (0, 0)))) → w.heap.size ≤ k := fun k hk => by
  rcases hk with rfl | hk
  ·exact hg6
  ·exact hk.2.1
 have hclr : Clear (fun k => k = g6 ∨ ((ok k ∧ k ≠ g6) ∧ w.heap.size ≤ k ∧ k < W.heap.size ∧ ∃ q, q ∈ 22 :: (Kd.slice 2 (Kd.int .i64)).E ∧ ∃ cells, W.heap[k]? = some (.cells cells q (0, 0)))) W A2 ships := by
  refine ⟨Kd.C_below hR hB, fun h0 a ha => ?_⟩
  subst ha
  obtain ⟨b, e, hcb⟩ := Kd.at_int hR 0 (by omega) (by omega)
  injection e with e
  subst e
  have h1 := World.block_lt_of_cell? _ _ hcb
  rw [add_block] at h1
  exact ⟨Nat.lt_of_lt_of_le h1 hB.size, fun h => by have := hMb _ h; omega⟩
 refine (impl_Sea_eachFleet.does W0 H0 ships A2 c2 38 #[.pointer (some ⟨g6, 0, none⟩)] (ListI w g6 (fleetsFrom W0 H0 ships ships.length [])) w.heap.size eg67 (list_ok hfl hne hg6) hw hh hsz hsin hsc hpl W hB.size _ ⟨_, A6, c6, rfl, fun k hk => ⟨hk.2.2.1, hk.1.2⟩, hX, hS2, hB⟩ hclr).mono ?_
 rintro e w' ⟨rfl, M', ⟨P, Au, cu, _, _, h1, h2, h3⟩, _⟩
 rw [List.take_length] at h1 h2
 exact ⟨rfl, Au, cu, h1, Kd.S_mono h2 (fun _ _ => trivial), h3⟩
def impl_FleetList.f (k : Nat) (a0_0 a0_1 : Int) (l0_2 : List Int) : Option (List (List Int) × Int) := (impl_CountFleets.f k a0_0 a0_1 l0_2).bind fun r => if r.2 = 0 then (if r.1 > 300 then some ([], 3) else (if seaV a0_0 a0_1 l0_2 = true then some (fleetsOf a0_0 a0_1 l0_2, 0) else none)) else some ([], r.2)
set_option maxHeartbeats 4000000 in
set_option maxRecDepth 100000 in
theorem impl_FleetList.calls (k : Nat) (a0_0 a0_1 : Int) (A0_2 : Option Addr) (c0_2 : Nat) (l0_2 : List Int) (r1 : List (List Int)) (r2 : Int) (w : World) (hr0_2 : Kd.C (Kd.int .i64) w A0_2 l0_2.length l0_2) (hc0_2 : l0_2.length ≤ c0_2) (h : impl_FleetList.f k a0_0 a0_1 l0_2 = some (r1, r2)) :
  Calls Try.prog 21 #[.agg #[.int .i64 a0_0, .int .i64 a0_1, .slice A0_2 l0_2.length c0_2]] w fun e w' => ∃ v0_ : Value, e = .returned (.tuple #[v0_, .int .i64 r2]) ∧ Kd.S (Kd.slice 2 (Kd.int .i64)) 22 w' w.heap.size (fun _ => True) v0_ r1 ∧ Below w.heap.size w w' := by
 unfold impl_FleetList.f at h
 obtain ⟨⟨n, cd⟩, hb0, h⟩ := Option.bind_eq_some_iff.1 h
 have HCf := Aside0.mk hb0
 have HR := Aside0.mk hr0_2
 have HC := Aside0.mk hc0_2
 have hu28 := Try.underlying28
 clear hr0_2 hc0_2 hb0
 by_cases hc : cd = 0
 ·rw [if_pos hc] at h
  have e1 : (cd == 0) = true := beq_iff_eq.mpr hc
  have e2 : (cd != 0) = false := bne_eq_false_iff_eq.mpr hc
  by_cases hn : n > 300
  ·rw [if_pos hn] at h
   simp only [Option.some.injEq, Prod.mk.injEq] at h
   obtain ⟨rfl, rfl⟩ := h
   have e3 := decide_eq_true hn
   have e4 := decide_eq_true (show 300 < n from hn)
   clear hc hn
   go_enter Try.func21, Try.ntmps21
   go_wp2_with (first | ((with_reducible refine gate_dst (N := 1) rfl ?_); refine box_event ?hg (N := 1) ?hd (cs := #[.int .i64 a0_0, .int .i64 a0_1, .slice A0_2 l0_2.length c0_2]) (t := 28) ?hr ?_; (case hd => rfl); (case hg => rfl); (case hr => first | (go_simp; done) | (go_simp; rfl)); intro g1 hg1 w1 hbox hb; have HX := Aside0.mk hbox; have HB := Aside0.mk hb; clear hbox hb hg1; have hs0 := (bc_ HX.out 0).trans rfl; have hs1 := (bc_ HX.out 1).trans rfl; have hs2 := (bc_ HX.out 2).trans rfl) | (go_at_call 36; refine (impl_CountFleets.calls k a0_0 a0_1 A0_2 c0_2 l0_2 _ _ _ (Kd.C_below HR.out HB.out) HC.out HCf.out).mono ?_; rintro e w2 ⟨rfl, hb⟩; (try clear hs0); (try clear hs1); (try clear hs2); have n_ := Aside0.mk (bb_ HX.out hb); clear HX; have HX := n_; clear n_; have n_ := Aside0.mk (bp_ HB.out hb); clear HB; have HB := n_; clear n_; clear hb; have hs0 := (bc_ HX.out 0).trans rfl; have hs1 := (bc_ HX.out 1).trans rfl; have hs2 := (bc_ HX.out 2).trans rfl))
   (try go_quiet (fail))
   (try go_wp2_with fail)
   go_ret2
   exact ⟨_, rfl, Kd.S_nil _ _ _ _ _, HB.out⟩
  ·rw [if_neg hn] at h
   split at h
   case isFalse => cases h
   rename_i hs
   simp only [Option.some.injEq, Prod.mk.injEq] at h
   obtain ⟨hr1, rfl⟩ := h
   obtain ⟨⟨W0, rfl, hw1, hw5⟩, ⟨H0, rfl, hh1, hh5⟩, hs1, hs3⟩ := seaV_nat hs
   have HW := Aside0.mk (And.intro hw1 hw5)
   have HH := Aside0.mk (And.intro hh1 hh5)
   have HSz := Aside0.mk (And.intro hs1 hs3)
   have HSI := Aside0.mk (sea_ships hs)
   unfold fleetsOf at hr1
   simp only [Int.toNat_natCast] at hr1
   have HFl := Aside0.mk hr1
   have e3 := decide_eq_false hn
   have e4 := decide_eq_false (show ¬ 300 < n from hn)
   clear hs hw1 hw5 hh1 hh5 hs1 hs3 hr1 hc hn
   go_enter Try.func21, Try.ntmps21
   go_wp2_with (first | ((with_reducible refine gate_dst (N := 1) rfl ?_); refine box_event ?hg (N := 1) ?hd (cs := #[.int .i64 (W0 : Int), .int .i64 (H0 : Int), .slice A0_2 l0_2.length c0_2]) (t := 28) ?hr ?_; (case hd => rfl); (case hg => rfl); (case hr => first | (go_simp; done) | (go_simp; rfl)); intro g1 hg1 w1 hbox hb; have HX := Aside0.mk hbox; have HB := Aside0.mk hb; clear hbox hb hg1; have hs0 := (bc_ HX.out 0).trans rfl; have hs1 := (bc_ HX.out 1).trans rfl; have hs2 := (bc_ HX.out 2).trans rfl) | (go_at_call 36; refine (impl_CountFleets.calls k (W0 : Int) (H0 : Int) A0_2 c0_2 l0_2 _ _ _ (Kd.C_below HR.out HB.out) HC.out HCf.out).mono ?_; rintro e w2 ⟨rfl, hb⟩; (try clear hs0); (try clear hs1); (try clear hs2); have n_ := Aside0.mk (bb_ HX.out hb); clear HX; have HX := n_; clear n_; have n_ := Aside0.mk (bp_ HB.out hb); clear HB; have HB := n_; clear n_; clear hb; have hs0 := (bc_ HX.out 0).trans rfl; have hs1 := (bc_ HX.out 1).trans rfl; have hs2 := (bc_ HX.out 2).trans rfl) | ((with_reducible refine gate_dst (N := 21) rfl ?_); refine Kd.S_lit (Kd.slice 2 (Kd.int .i64)) _ 22 ?hg (N := 21) ?hd (xs := ([] : List (List Int))) (inner := []) (ok := fun _ => True) (okp := fun _ => True) ?hr ?hp (fun _ hk => hk) trivial (Below.refl _ _) (Nat.le_refl _) (by simp) ?_; (case hd => rfl); (case hg => rfl); (case hr => first | (go_simp; done) | (go_simp; rfl)); (case hp => exact (Reps.none _ _)); intro v21 w3 ho hb hg_ hnew_; clear hg_ hnew_; obtain ⟨A6, c6, e6⟩ := Kd.S_slice ho; subst e6; rw [show (([] : List (List Int)).length) = 0 from rfl] at ho; have HS := Aside0.mk (Kd.S_lower ho (bz_ HB.out)); clear ho; (try clear hs0); (try clear hs1); (try clear hs2); have n_ := Aside0.mk (bb_ HX.out hb); clear HX; have HX := n_; clear n_; have n_ := Aside0.mk (bp_ HB.out hb); clear HB; have HB := n_; clear n_; clear hb; have hs0 := (bc_ HX.out 0).trans rfl; have hs1 := (bc_ HX.out 1).trans rfl; have hs2 := (bc_ HX.out 2).trans rfl) | ((with_reducible refine gate_dst (N := 6) rfl ?_); refine box_event ?hg (N := 6) ?hd (cs := #[.slice none 0 0]) (t := 37) ?hr ?_; (case hd => rfl); (case hg => rfl); (case hr => first | (go_simp; done) | (go_simp; rfl)); intro g6 hg6 w4 hbox hb; have HY := Aside0.mk hbox; have HG6 := Aside0.mk (show w.heap.size ≤ g6 ∧ g1 ≠ g6 by have := bz_ HB.out; have := blk_lt HX.out; omega); have n_ := Aside0.mk (Kd.S_below (Kd.S_elderB HS.out g6 (by omega)) hb); clear HS; have HS := n_; clear n_; (try clear hs0); (try clear hs1); (try clear hs2); have n_ := Aside0.mk (bb_ HX.out hb); clear HX; have HX := n_; clear n_; have n_ := Aside0.mk (bp_ HB.out hb); clear HB; have HB := n_; clear n_; clear hb hbox hg6; have hs0 := (bc_ HX.out 0).trans rfl; have hs1 := (bc_ HX.out 1).trans rfl; have hs2 := (bc_ HX.out 2).trans rfl; have hz6 := (bc_ HY.out 0).trans rfl; have hfz6 := bf_ HY.out 0) | ((with_reducible refine gate_store (t := 37) (p := 6) rfl ?_); refine store_event (t := 37) (p := 6) (v := .tmp 21) (w1 := (w4.setCell ⟨g6, 0, none⟩ (.slice A6 0 c6))) ?hg ?ho ?hn ?hr ?_; (case ho => rfl); (case hg => rfl); (case hn => rfl); (case hr => first | (go_simp; done) | (go_simp; rfl)); intro w5 hw5; have tX_ := blk_far (p := ⟨g6, 0, none⟩) HX.out HG6.out.2 (.slice A6 0 c6); have tY_ := blk_put HY.out 0 (.slice A6 0 c6) rfl; have tS_ := Kd.S_far (p := ⟨g6, 0, none⟩) HS.out (fun _ hk => hk.2) (.slice A6 0 c6); have tB_ : Below w.heap.size w (w4.setCell ⟨g6, 0, none⟩ (.slice A6 0 c6)) := bs_ HB.out HG6.out.1; rw [← hw5] at tX_ tY_ tS_ tB_; clear hz6 hfz6; (try clear hs0); (try clear hs1); (try clear hs2); clear HX HY HS HB; have HX := Aside0.mk tX_; have HY := Aside0.mk tY_; have HS := Aside0.mk tS_; have HB := Aside0.mk tB_; clear hw5 tX_ tY_ tS_ tB_; have hs0 := (bc_ HX.out 0).trans rfl; have hs1 := (bc_ HX.out 1).trans rfl; have hs2 := (bc_ HX.out 2).trans rfl) | (go_at_call 37; refine (list_each W0 H0 l0_2 A0_2 c0_2 HW.out HH.out HSz.out HSI.out HC.out HG6.out.1 HR.out HY.out HS.out HB.out).mono ?_; rintro e w6 ⟨rfl, A7, c7, h1, h2, h3⟩; rw [HFl.out] at h1 h2; (try clear hs0); (try clear hs1); (try clear hs2); clear HX HY HS HB; have HY := Aside0.mk h1; have HS := Aside0.mk h2; have HB := Aside0.mk h3; clear h1 h2 h3; have hn6 := (bc_ HY.out 0).trans rfl))
   go_ret2
   exact ⟨_, rfl, HS.out, HB.out⟩
 ·rw [if_neg hc] at h
  simp only [Option.some.injEq, Prod.mk.injEq] at h
  obtain ⟨rfl, rfl⟩ := h
  have e1 : (cd == 0) = false := beq_eq_false_iff_ne.mpr hc
  have e2 : (cd != 0) = true := bne_iff_ne.mpr hc
  clear hc
  go_enter Try.func21, Try.ntmps21
  go_wp2_with (first | ((with_reducible refine gate_dst (N := 1) rfl ?_); refine box_event ?hg (N := 1) ?hd (cs := #[.int .i64 a0_0, .int .i64 a0_1, .slice A0_2 l0_2.length c0_2]) (t := 28) ?hr ?_; (case hd => rfl); (case hg => rfl); (case hr => first | (go_simp; done) | (go_simp; rfl)); intro g1 hg1 w1 hbox hb; have HX := Aside0.mk hbox; have HB := Aside0.mk hb; clear hbox hb hg1; have hs0 := (bc_ HX.out 0).trans rfl; have hs1 := (bc_ HX.out 1).trans rfl; have hs2 := (bc_ HX.out 2).trans rfl) | (go_at_call 36; refine (impl_CountFleets.calls k a0_0 a0_1 A0_2 c0_2 l0_2 _ _ _ (Kd.C_below HR.out HB.out) HC.out HCf.out).mono ?_; rintro e w2 ⟨rfl, hb⟩; (try clear hs0); (try clear hs1); (try clear hs2); have n_ := Aside0.mk (bb_ HX.out hb); clear HX; have HX := n_; clear n_; have n_ := Aside0.mk (bp_ HB.out hb); clear HB; have HB := n_; clear n_; clear hb; have hs0 := (bc_ HX.out 0).trans rfl; have hs1 := (bc_ HX.out 1).trans rfl; have hs2 := (bc_ HX.out 2).trans rfl))
  (try go_quiet (fail))
  (try go_wp2_with fail)
  go_ret2
  exact ⟨_, rfl, Kd.S_nil _ _ _ _ _, HB.out⟩
mutual
def impl_HuntFleet.j0 : Nat → List Int → Int → Int → Int → List Int → Option (List Int × Int)
 | 0, _, _, _, _, _ => none
 | k + 1, x1, x6, x420000, x420001, x420002 => if x6 = 0 then (impl_HuntFleet.l0 k x1 (([] : List Int)) (([] : List (S45))) 0 x420000 x420001 x420002) else (some (([] : List Int), x6))
def impl_HuntFleet.l0 : Nat → List Int → List Int → List (S45) → Int → Int → Int → List Int → Option (List Int × Int)
 | 0, _, _, _, _, _, _, _ => none
 | k + 1, x1, x7, x8, x9, x420000, x420001, x420002 => (impl_whole.f k x1).bind fun t431 => (if (Go.bits .andNot .i64 t431 x9) = 0 then (some (x7, 0)) else ((impl_Sea_best.f x420000 x420001 x420002 x8).bind fun t432 => (if x7.length < 17592186044416 then ((impl_answer.f k x1 x9 t432).bind fun t436 => (if x8.length < 8796093022208 then (if 0 ≤ t432 then (impl_HuntFleet.l0 k x1 (x7 ++ [t432]) (x8 ++ [(⟨t432, t436⟩ : S45)]) (Go.bits .or .i64 x9 (shl .i64 1 t432)) x420000 x420001 x420002) else (none)) else (none))) else (none))))
end
def impl_HuntFleet.f (k : Nat) (a0_0 : Int) (a0_1 : Int) (l0_2 : List Int) (l1 : List Int) : Option (List Int × Int) := (impl_fleetCode.f k a0_0 a0_1 l0_2 l1 ([] : List Int)).bind fun t420 => (if t420 = 0 then ((impl_FleetList.f k a0_0 a0_1 l0_2).bind fun bt421 => (impl_HuntFleet.j0 k l1 bt421.2 a0_0 a0_1 l0_2)) else (impl_HuntFleet.j0 k l1 t420 a0_0 a0_1 l0_2))
set_option maxHeartbeats 8000000 in
set_option maxRecDepth 100000 in
theorem impl_HuntFleet.calls (k : Nat) (a0_0 : Int) (a0_1 : Int) (A0_2 : Option Addr) (c0_2 : Nat) (l0_2 : List Int) (A1 : Option Addr) (c1 : Nat) (l1 : List Int) (r1 : List Int) (r2 : Int) (w : World) (hr0_2 : Kd.C (Kd.int .i64) w A0_2 l0_2.length l0_2) (hc0_2 : l0_2.length ≤ c0_2) (hr1 : Kd.C (Kd.int .i64) w A1 l1.length l1) (hc1 : l1.length ≤ c1) (h : impl_HuntFleet.f k a0_0 a0_1 l0_2 l1 = some (r1, r2)) :
  Calls Try.prog 8 #[.agg #[.int .i64 a0_0, .int .i64 a0_1, .slice A0_2 l0_2.length c0_2], .slice A1 l1.length c1] w fun e w' => ∃ v0_ : Value, e = .returned (.tuple #[v0_, .int .i64 r2]) ∧ Kd.R (Kd.int .i64) 2 w' w.heap.size (fun _ => True) v0_ r1 ∧ Below w.heap.size w w' := by
 have hu28 := Try.underlying28
 have hu45 := Try.underlying45
 have HR0_2 := Aside0.mk hr0_2
 have HC0_2 := Aside0.mk hc0_2
 clear hr0_2 hc0_2
 have HR1 := Aside0.mk hr1
 have HC1 := Aside0.mk hc1
 clear hr1 hc1
 have HB := Aside0.mk (Below.refl w.heap.size w)
 have H : ((impl_fleetCode.f k a0_0 a0_1 l0_2 l1 ([] : List Int)).bind fun t420 => (if t420 = 0 then ((impl_FleetList.f k a0_0 a0_1 l0_2).bind fun bt421 => (impl_HuntFleet.j0 k l1 bt421.2 a0_0 a0_1 l0_2)) else (impl_HuntFleet.j0 k l1 t420 a0_0 a0_1 l0_2))) = some (r1, r2) := h
 clear h
 replace H := Option.bind_eq_some_iff.mp H
 obtain ⟨t420, A30, H⟩ := H
 replace H : (if t420 = 0 then ((impl_FleetList.f k a0_0 a0_1 l0_2).bind fun bt421 => (impl_HuntFleet.j0 k l1 bt421.2 a0_0 a0_1 l0_2)) else (impl_HuntFleet.j0 k l1 t420 a0_0 a0_1 l0_2)) = some (r1, r2) := H
 have A3 := Aside0.mk A30
 clear A30
 have HC4 := Aside0.mk H
 clear H
 go_enter Try.func8, Try.ntmps8
 go_upto_if 15 with (first | ((with_reducible refine gate_dst (N := 2) rfl ?_); refine box_event ?hg (N := 2) ?hd (cs := #[.int .i64 a0_0, .int .i64 a0_1, .slice A0_2 l0_2.length c0_2]) (t := 28) ?hr ?_; (case hd => rfl); (case hg => rfl); (case hr => first | (go_simp; done) | (go_simp; rfl)); intro gb419 hg w5 hbox hb; have n0_ := Aside0.mk (bp_ hb_ hb); have n1_ := Aside0.mk (hbox); have n2_ := Aside0.mk ((by rw [hg]; exact (bz_ hb_) : w.heap.size ≤ gb419)); have n3_ := Aside0.mk ((by rw [hg]; exact (bz_ hb_) : w.heap.size ≤ gb419)); clear HB; have HB := n0_; have BK419 := n1_; have GW419 := n2_; have GE419 := n3_; clear n0_ n1_ n2_ n3_; clear hb hbox hg; have hcz6_0 : w5.cell? ⟨gb419, 0, none⟩ = some (.int .i64 a0_0) := (bc_ BK419.out 0).trans rfl; have hcz6_1 : w5.cell? ⟨gb419, 1, none⟩ = some (.int .i64 a0_1) := (bc_ BK419.out 1).trans rfl; have hcz6_2 : w5.cell? ⟨gb419, 2, none⟩ = some (.slice A0_2 l0_2.length c0_2) := (bc_ BK419.out 2).trans rfl; have hfz6_0 := bf_ BK419.out 0; have hfz6_1 := bf_ BK419.out 1; have hfz6_2 := bf_ BK419.out 2) | ((with_reducible refine gate_callee (f := 20) rfl ?_); refine goesA_ (some 13) rfl rfl Try.func20 (by kernel_rfl) rfl #[.agg #[.int .i64 a0_0, .int .i64 a0_1, .slice A0_2 l0_2.length c0_2], .slice A1 l1.length c1, .slice none 0 0] rfl ?_; (refine (impl_fleetCode.calls k a0_0 a0_1 _ _ l0_2 _ _ l1 _ _ ([] : List Int) t420 _ ?side1 ?side2 ?side3 ?side4 ?side5 ?side6 A3.out).mono ?_); (case side1 => repeat (first | exact (Kd.C_below HR0_2.out HB.out) | (with_reducible refine Kd.C_alloc ?_ _) | (with_reducible refine Kd.C_drewN ?_ _) | (with_reducible refine Kd.C_drew ?_))); (case side2 => exact HC0_2.out); (case side3 => repeat (first | exact (Kd.C_below HR1.out HB.out) | (with_reducible refine Kd.C_alloc ?_ _) | (with_reducible refine Kd.C_drewN ?_ _) | (with_reducible refine Kd.C_drew ?_))); (case side4 => exact HC1.out); (case side5 => exact Kd.C_nil _ _); (case side6 => exact Nat.le_refl _); rintro e w7 ⟨rfl, hb⟩; refine ⟨_, rfl, ?_⟩; have n0_ := Aside0.mk (bb_ (g := gb419) (o := .cells #[.int .i64 a0_0, .int .i64 a0_1, .slice A0_2 l0_2.length c0_2] 28 (0, 0)) (by (with_reducible repeat (first | refine bN_ ?_ _ | refine bkd_ ?_ | refine bka_ ?_ _)); exact BK419.out) hb); have n1_ := Aside0.mk (bp_ (by repeat (first | (with_reducible first | exact HB.out | apply ba_ | apply pbN_ | apply bd1_ | refine bs_ ?_ GE419.out) | exact HB.out)) hb); clear BK419; clear HB; have BK419 := n0_; have HB := n1_; clear n0_ n1_; (try clear hb); (try clear hb2); (try clear hk); (try clear hi)))
 (try simp only [Act.put, List.setIfInBounds_toArray, List.set_cons_zero, List.set_cons_succ])
 go_cut [6] (fun v6 wc => ∃ (kq : Nat) (x6_3 : Int), v6 = .int .i64 x6_3 ∧ Aside0 (impl_HuntFleet.j0 kq l1 x6_3 a0_0 a0_1 l0_2 = some (r1, r2)) ∧ Aside0 (kq ≤ k) ∧ Aside0 (wc.heap[gb419]? = some (.cells #[.int .i64 a0_0, .int .i64 a0_1, (.slice A0_2 l0_2.length c0_2)] 28 (0, 0))) ∧ Aside0 (Below w.heap.size w wc))
 case first =>
  have H := HC4.out
  clear HC4
  by_cases c8 : t420 = 0
  ·rw [if_pos c8] at H
   have c8b0 : (t420 == 0) = true := beq_iff_eq.mpr c8
   have c8b1 : (t420 != 0) = false := bne_eq_false_iff_eq.mpr c8
   clear c8
   (first | rw [c8b0] | (simp only [i64_w, i32_w]; rw [c8b0]) | skip)
   replace H := Option.bind_eq_some_iff.mp H
   obtain ⟨⟨t421, t424⟩, A90, H⟩ := H
   replace H : (impl_HuntFleet.j0 k l1 t424 a0_0 a0_1 l0_2) = some (r1, r2) := H
   have A9 := Aside0.mk A90
   clear A90
   have H' := Aside0.mk H
   clear H
   have hcz10_0 : w7.cell? ⟨gb419, 0, none⟩ = some (.int .i64 a0_0) := (bc_ BK419.out 0).trans rfl
   have hcz10_1 : w7.cell? ⟨gb419, 1, none⟩ = some (.int .i64 a0_1) := (bc_ BK419.out 1).trans rfl
   have hcz10_2 : w7.cell? ⟨gb419, 2, none⟩ = some (.slice A0_2 l0_2.length c0_2) := (bc_ BK419.out 2).trans rfl
   have hfz10_0 := bf_ BK419.out 0
   have hfz10_1 := bf_ BK419.out 1
   have hfz10_2 := bf_ BK419.out 2
   go_wp2_with (first | ((with_reducible refine gate_callee (f := 21) rfl ?_); refine goesA_ (some 18) rfl rfl Try.func21 (by kernel_rfl) rfl #[.agg #[.int .i64 a0_0, .int .i64 a0_1, .slice A0_2 l0_2.length c0_2]] rfl ?_; (with_reducible refine (impl_FleetList.calls k a0_0 a0_1 _ _ l0_2 t421 t424 _ ?side1 ?side2 A9.out).mono ?_); (case side1 => repeat (first | exact (Kd.C_below HR0_2.out HB.out) | (with_reducible refine Kd.C_alloc ?_ _) | (with_reducible refine Kd.C_drewN ?_ _) | (with_reducible refine Kd.C_drew ?_))); (case side2 => exact HC0_2.out); rintro e w11 ⟨v422, rfl, ho0, hb⟩; refine ⟨_, rfl, ?_⟩; have n0_ := Aside0.mk (Kd.S_lower ho0 (bz_ (by repeat (first | (with_reducible first | exact HB.out | apply ba_ | apply pbN_ | apply bd1_ | refine bs_ ?_ GE419.out) | exact HB.out)))); have n1_ := Aside0.mk (bb_ (g := gb419) (o := .cells #[.int .i64 a0_0, .int .i64 a0_1, .slice A0_2 l0_2.length c0_2] 28 (0, 0)) (by (with_reducible repeat (first | refine bN_ ?_ _ | refine bkd_ ?_ | refine bka_ ?_ _)); exact BK419.out) hb); have n2_ := Aside0.mk (bp_ (by repeat (first | (with_reducible first | exact HB.out | apply ba_ | apply pbN_ | apply bd1_ | refine bs_ ?_ GE419.out) | exact HB.out)) hb); clear BK419; clear HB; have HO423 := n0_; have BK419 := n1_; have HB := n2_; clear n0_ n1_ n2_; (try clear hb); (try clear hb2); (try clear hk); (try clear hi); (try clear ho0)))
   go_meet
   case rel => exact ⟨_, (t424), (by first | rfl | (simp; done) | (simp [*]; done)), H', ⟨by first | omega | exact Nat.le_refl _⟩, ⟨by (with_reducible repeat (first | refine bN_ ?_ _ | refine bkd_ ?_ | refine bka_ ?_ _)); exact BK419.out⟩, ⟨by repeat (first | (with_reducible first | exact HB.out | apply ba_ | apply pbN_ | apply bd1_ | refine bs_ ?_ GE419.out) | exact HB.out)⟩⟩
  ·rw [if_neg c8] at H
   have c8b0 : (t420 == 0) = false := beq_eq_false_iff_ne.mpr c8
   have c8b1 : (t420 != 0) = true := bne_iff_ne.mpr c8
   (first | rw [c8b0] | (simp only [i64_w, i32_w]; rw [c8b0]) | skip)
   have H' := Aside0.mk H
   clear H
   go_wp2
   go_meet
   case rel => exact ⟨_, (t420), (by first | rfl | (simp; done) | (simp [*]; done)), H', ⟨by first | omega | exact Nat.le_refl _⟩, ⟨by (with_reducible repeat (first | refine bN_ ?_ _ | refine bkd_ ?_ | refine bka_ ?_ _)); exact BK419.out⟩, ⟨by repeat (first | (with_reducible first | exact HB.out | apply ba_ | apply pbN_ | apply bd1_ | refine bs_ ?_ GE419.out) | exact HB.out)⟩⟩
 case rest =>
  clear HC4
  (try clear c1); (try clear c2); (try clear p2); (try clear c8); (try clear c8b0); (try clear c8b1); (try clear hcz10_0); (try clear hcz10_1); (try clear hcz10_2); (try clear hcz6_0); (try clear hcz6_1); (try clear hcz6_2); (try clear hfz10_0); (try clear hfz10_1); (try clear hfz10_2); (try clear hfz6_0); (try clear hfz6_1); (try clear hfz6_2)
  obtain ⟨kq, x6_3, rfl, HA, HJ3, BK419, HB⟩ := hcut
  cases kq with
  | zero => exact absurd HA.out (by simp [impl_HuntFleet.j0])
  | succ kj3 =>
   have H := HA.out
   clear HA
   simp only [impl_HuntFleet.j0] at H
   by_cases c12 : x6_3 = 0
   ·rw [if_pos c12] at H
    have c12b0 : (x6_3 == 0) = true := beq_iff_eq.mpr c12
    have c12b1 : (x6_3 != 0) = false := bne_eq_false_iff_eq.mpr c12
    clear c12
    obtain ⟨y425, hy425⟩ : ∃ y_ : List Int, y_ = (([] : List Int)) := ⟨_, rfl⟩
    replace H : (impl_HuntFleet.l0 kj3 l1 y425 (([] : List (S45))) 0 a0_0 a0_1 l0_2) = some (r1, r2) := by first | (rw [hy425]; with_reducible exact H) | (have H2_ := (Option.bind_some _ _).symm.trans H; rw [hy425]; with_reducible exact H2_) | (have H2_ := (Option.bind_some _ _).symm.trans H; with_reducible exact H2_) | with_reducible exact H | (rw [hy425]; exact H) | exact H
    have Ny425 := Aside0.mk hy425
    clear hy425
    obtain ⟨y428, hy428⟩ : ∃ y_ : List (S45), y_ = (([] : List (S45))) := ⟨_, rfl⟩
    replace H : (impl_HuntFleet.l0 kj3 l1 y425 y428 0 a0_0 a0_1 l0_2) = some (r1, r2) := by first | (rw [hy428]; with_reducible exact H) | (have H2_ := (Option.bind_some _ _).symm.trans H; rw [hy428]; with_reducible exact H2_) | (have H2_ := (Option.bind_some _ _).symm.trans H; with_reducible exact H2_) | with_reducible exact H | (rw [hy428]; exact H) | exact H
    have Ny428 := Aside0.mk hy428
    clear hy428
    have H' := Aside0.mk H
    clear H
    go_wp2_with (first | ((with_reducible refine gate_dst (N := 24) rfl ?_); refine Kd.R_lit (Kd.int .i64) _ 2 ?hg (N := 24) ?hd (xs := ([] : List Int)) (inner := []) (ok := fun _ => True) (okp := fun _ => True) ?hr ?hp (fun _ hk => hk) trivial (Below.refl _ _) (Nat.le_refl _) (by simp) ?_; (case hd => rfl); (case hg => rfl); (case hr => first | (go_simp; done) | (go_simp; rfl)); (case hp => exact (Reps.none _ _)); intro v426 w13 ho14 hb hg_ hnew_; clear hg_ hnew_; (first | rw [← Ny425.out] at ho14 | (simp only [Int.reduceToNat] at ho14; rw [← Ny425.out] at ho14)); have n0_ := Aside0.mk (Kd.R_lower ho14 (bz_ (by repeat (first | (with_reducible first | exact HB.out | apply ba_ | apply pbN_ | apply bd1_ | refine bs_ ?_ GE419.out) | exact HB.out)))); have n1_ := Aside0.mk (bb_ (g := gb419) (o := .cells #[.int .i64 a0_0, .int .i64 a0_1, .slice A0_2 l0_2.length c0_2] 28 (0, 0)) (by (with_reducible repeat (first | refine bN_ ?_ _ | refine bkd_ ?_ | refine bka_ ?_ _)); exact BK419.out) hb); have n2_ := Aside0.mk (bp_ (by repeat (first | (with_reducible first | exact HB.out | apply ba_ | apply pbN_ | apply bd1_ | refine bs_ ?_ GE419.out) | exact HB.out)) hb); clear BK419; clear HB; have HO427 := n0_; have BK419 := n1_; have HB := n2_; clear n0_ n1_ n2_; clear hb ho14) | ((with_reducible refine gate_dst (N := 25) rfl ?_); refine Kd.R_lit k45 _ 45 ?hg (N := 25) ?hd (xs := ([] : List (S45))) (inner := []) (ok := fun _ => True) (okp := fun _ => True) ?hr ?hp (fun _ hk => hk) trivial (Below.refl _ _) (Nat.le_refl _) (by simp) ?_; (case hd => rfl); (case hg => rfl); (case hr => first | (go_simp; done) | (go_simp; rfl)); (case hp => exact (Reps.none _ _)); intro v429 w15 ho16 hb hg_ hnew_; clear hg_ hnew_; (first | rw [← Ny428.out] at ho16 | (simp only [Int.reduceToNat] at ho16; rw [← Ny428.out] at ho16)); have n0_ := Aside0.mk (Kd.R_below (by (with_reducible repeat (first | apply Kd.R_alloc | apply Kd.R_drewN | apply Kd.R_drew)); exact HO427.out) hb); have n1_ := Aside0.mk (Kd.R_lower ho16 (bz_ (by repeat (first | (with_reducible first | exact HB.out | apply ba_ | apply pbN_ | apply bd1_ | refine bs_ ?_ GE419.out) | exact HB.out)))); have n2_ := Aside0.mk (bb_ (g := gb419) (o := .cells #[.int .i64 a0_0, .int .i64 a0_1, .slice A0_2 l0_2.length c0_2] 28 (0, 0)) (by (with_reducible repeat (first | refine bN_ ?_ _ | refine bkd_ ?_ | refine bka_ ?_ _)); exact BK419.out) hb); have n3_ := Aside0.mk (bp_ (by repeat (first | (with_reducible first | exact HB.out | apply ba_ | apply pbN_ | apply bd1_ | refine bs_ ?_ GE419.out) | exact HB.out)) hb); clear HO427; clear BK419; clear HB; have HO427 := n0_; have HO430 := n1_; have BK419 := n2_; have HB := n3_; clear n0_ n1_ n2_ n3_; clear hb ho16))
    go_loopg [7, 8, 9] kj3 (fun kq v7 v8 v9 w' => ∃ (x7_2 : List Int) (x8_2 : List (S45)) (x9_2 : Int), v9 = .int .i64 x9_2 ∧ Aside0 (impl_HuntFleet.l0 kq l1 x7_2 x8_2 x9_2 a0_0 a0_1 l0_2 = some (r1, r2)) ∧ Aside0 (kq ≤ kj3) ∧ Aside0 (Kd.R (Kd.int .i64) 2 w' w.heap.size (fun _ => True) v7 x7_2) ∧ Aside0 (Kd.R k45 45 w' w.heap.size (fun _ => True) v8 x8_2) ∧ Aside0 (w'.heap[gb419]? = some (.cells #[.int .i64 a0_0, .int .i64 a0_1, (.slice A0_2 l0_2.length c0_2)] 28 (0, 0))) ∧ Aside0 (Below w.heap.size w w'))
    case atStart => exact ⟨(y425), (y428), (0), (by first | rfl | (simp; done) | (simp [*]; done)), H', ⟨Nat.le_refl _⟩, ⟨by (with_reducible repeat (first | apply Kd.R_alloc | apply Kd.R_drewN | apply Kd.R_drew)); exact HO427.out⟩, ⟨by (with_reducible repeat (first | apply Kd.R_alloc | apply Kd.R_drewN | apply Kd.R_drew)); exact HO430.out⟩, ⟨by (with_reducible repeat (first | refine bN_ ?_ _ | refine bkd_ ?_ | refine bka_ ?_ _)); exact BK419.out⟩, ⟨by repeat (first | (with_reducible first | exact HB.out | apply ba_ | apply pbN_ | apply bd1_ | refine bs_ ?_ GE419.out) | exact HB.out)⟩⟩
    case round =>
     clear H'
     (try clear c1); (try clear c2); (try clear p2); (try clear c8); (try clear c8b0); (try clear c8b1); (try clear c12); (try clear c12b0); (try clear c12b1); (try clear hcz10_0); (try clear hcz10_1); (try clear hcz10_2); (try clear hcz6_0); (try clear hcz6_1); (try clear hcz6_2); (try clear hfz10_0); (try clear hfz10_1); (try clear hfz10_2); (try clear hfz6_0); (try clear hfz6_1); (try clear hfz6_2); (try clear p2)
     obtain ⟨x7_2, x8_2, x9_2, rfl, HA, HK2, HO_7, HO_8, BK419, HB⟩ := hrel
     cases gk with
     | zero => exact absurd HA.out (by simp [impl_HuntFleet.l0])
     | succ k2 =>
      have H := HA.out
      clear HA
      simp only [impl_HuntFleet.l0] at H
      replace H := Option.bind_eq_some_iff.mp H
      obtain ⟨t431, A170, H⟩ := H
      replace H : (if (Go.bits .andNot .i64 t431 x9_2) = 0 then (some (x7_2, 0)) else ((impl_Sea_best.f a0_0 a0_1 l0_2 x8_2).bind fun t432 => (if x7_2.length < 17592186044416 then ((impl_answer.f k2 l1 x9_2 t432).bind fun t436 => (if x8_2.length < 8796093022208 then (if 0 ≤ t432 then (impl_HuntFleet.l0 k2 l1 (x7_2 ++ [t432]) (x8_2 ++ [(⟨t432, t436⟩ : S45)]) (Go.bits .or .i64 x9_2 (shl .i64 1 t432)) a0_0 a0_1 l0_2) else (none)) else (none))) else (none)))) = some (r1, r2) := H
      have A17 := Aside0.mk A170
      clear A170
      by_cases c18 : (Go.bits .andNot .i64 t431 x9_2) = 0
      ·rw [if_pos c18] at H
       have c18b0 : ((Go.bits .andNot .i64 t431 x9_2) == 0) = true := beq_iff_eq.mpr c18
       have c18b1 : ((Go.bits .andNot .i64 t431 x9_2) != 0) = false := bne_eq_false_iff_eq.mpr c18
       clear c18
       simp only [Option.some.injEq, Prod.mk.injEq] at H
       obtain ⟨rfl, rfl⟩ := H
       go_wp2_with (first | ((with_reducible refine gate_callee (f := 22) rfl ?_); refine goesA_ (some 27) rfl rfl Try.func22 (by kernel_rfl) rfl #[.slice A1 l1.length c1] rfl ?_; (with_reducible refine (impl_whole.calls k2 _ _ l1 t431 _ ?side1 ?side2 A17.out).mono ?_); (case side1 => repeat (first | exact (Kd.C_below HR1.out HB.out) | (with_reducible refine Kd.C_alloc ?_ _) | (with_reducible refine Kd.C_drewN ?_ _) | (with_reducible refine Kd.C_drew ?_))); (case side2 => exact HC1.out); rintro e w' ⟨rfl, ⟨nd, rfl⟩⟩; refine ⟨_, rfl, ?_⟩))
       go_ret2
       exact ⟨_, by first | rfl | (simp [errW_none, errW_some] <;> rfl) | (simp [*, errW_none, errW_some] <;> rfl), by (with_reducible repeat (first | apply Kd.R_alloc | apply Kd.R_drewN | apply Kd.R_drew)); exact HO_7.out, by repeat (first | (with_reducible first | exact HB.out | apply ba_ | apply pbN_ | apply bd1_ | refine bs_ ?_ GE419.out) | exact HB.out)⟩
      ·rw [if_neg c18] at H
       have c18b0 : ((Go.bits .andNot .i64 t431 x9_2) == 0) = false := beq_eq_false_iff_ne.mpr c18
       have c18b1 : ((Go.bits .andNot .i64 t431 x9_2) != 0) = true := bne_iff_ne.mpr c18
       replace H := Option.bind_eq_some_iff.mp H
       obtain ⟨t432, A190, H⟩ := H
       replace H : (if x7_2.length < 17592186044416 then ((impl_answer.f k2 l1 x9_2 t432).bind fun t436 => (if x8_2.length < 8796093022208 then (if 0 ≤ t432 then (impl_HuntFleet.l0 k2 l1 (x7_2 ++ [t432]) (x8_2 ++ [(⟨t432, t436⟩ : S45)]) (Go.bits .or .i64 x9_2 (shl .i64 1 t432)) a0_0 a0_1 l0_2) else (none)) else (none))) else (none)) = some (r1, r2) := H
       have A19 := Aside0.mk A190
       clear A190
       by_cases c20 : x7_2.length < 17592186044416
       ·rw [if_pos c20] at H
        have LMc20 := Aside0.mk c20
        clear c20
        obtain ⟨y433, hy433⟩ : ∃ y_ : List Int, y_ = (x7_2 ++ [t432]) := ⟨_, rfl⟩
        replace H : ((impl_answer.f k2 l1 x9_2 t432).bind fun t436 => (if x8_2.length < 8796093022208 then (if 0 ≤ t432 then (impl_HuntFleet.l0 k2 l1 y433 (x8_2 ++ [(⟨t432, t436⟩ : S45)]) (Go.bits .or .i64 x9_2 (shl .i64 1 t432)) a0_0 a0_1 l0_2) else (none)) else (none))) = some (r1, r2) := by first | (rw [hy433]; with_reducible exact H) | (have H2_ := (Option.bind_some _ _).symm.trans H; rw [hy433]; with_reducible exact H2_) | (have H2_ := (Option.bind_some _ _).symm.trans H; with_reducible exact H2_) | with_reducible exact H | (rw [hy433]; exact H) | exact H
        have Ny433 := Aside0.mk hy433
        clear hy433
        replace H := Option.bind_eq_some_iff.mp H
        obtain ⟨t436, A210, H⟩ := H
        replace H : (if x8_2.length < 8796093022208 then (if 0 ≤ t432 then (impl_HuntFleet.l0 k2 l1 y433 (x8_2 ++ [(⟨t432, t436⟩ : S45)]) (Go.bits .or .i64 x9_2 (shl .i64 1 t432)) a0_0 a0_1 l0_2) else (none)) else (none)) = some (r1, r2) := H
        have A21 := Aside0.mk A210
        clear A210
        by_cases c22 : x8_2.length < 8796093022208
        ·rw [if_pos c22] at H
         have LMc22 := Aside0.mk c22
         clear c22
         obtain ⟨y437, hy437⟩ : ∃ y_ : List (S45), y_ = (x8_2 ++ [(⟨t432, t436⟩ : S45)]) := ⟨_, rfl⟩
         replace H : (if 0 ≤ t432 then (impl_HuntFleet.l0 k2 l1 y433 y437 (Go.bits .or .i64 x9_2 (shl .i64 1 t432)) a0_0 a0_1 l0_2) else (none)) = some (r1, r2) := by first | (rw [hy437]; with_reducible exact H) | (have H2_ := (Option.bind_some _ _).symm.trans H; rw [hy437]; with_reducible exact H2_) | (have H2_ := (Option.bind_some _ _).symm.trans H; with_reducible exact H2_) | with_reducible exact H | (rw [hy437]; exact H) | exact H
         have Ny437 := Aside0.mk hy437
         clear hy437
         by_cases c23 : 0 ≤ t432
         ·rw [if_pos c23] at H
          have c23b0 := eq_true c23
          have c23b1 : decide (0 ≤ t432) = true := decide_eq_true c23
          clear c23
          obtain ⟨ji24, hji24⟩ : ∃ j_ : Int, (shl .i64 1 t432) = j_ := ⟨_, rfl⟩
          replace H : (impl_HuntFleet.l0 k2 l1 y433 y437 (Go.bits .or .i64 x9_2 (ji24)) a0_0 a0_1 l0_2) = some (r1, r2) := by first | (rw [hji24] at H; exact H) | (simp only [hji24] at H ⊢; exact H)
          (try rw [hji24] at A17)
          (try rw [hji24] at A19)
          (try rw [hji24] at A21)
          have hji24_ : (IntKind.i64.wrap (1 * 2 ^ min t432.toNat 64)) = ji24 := hji24
          have hji24z : t432 ≤ 64 → (IntKind.i64.wrap (1 * 2 ^ t432.toNat)) = ji24 := shl_small hji24
          have hji24u : (IntKind.i64.wrap (2 ^ min t432.toNat 64)) = ji24 := by have h_ := hji24_; rw [Int.one_mul] at h_; exact h_
          have hji24v : t432 ≤ 64 → (IntKind.i64.wrap (2 ^ t432.toNat)) = ji24 := fun hle_ => by have h_ := hji24z hle_; rw [Int.one_mul] at h_; exact h_
          have hji24y : (wrap64 (1 * 2 ^ min t432.toNat 64)) = ji24 := (i64_w _).symm.trans hji24_
          have hji24x : t432 ≤ 64 → (wrap64 (1 * 2 ^ t432.toNat)) = ji24 := fun h_ => (i64_w _).symm.trans (hji24z h_)
          have H' := Aside0.mk H
          clear H
          go_wp2_with (first | ((with_reducible refine gate_callee (f := 22) rfl ?_); refine goesA_ (some 27) rfl rfl Try.func22 (by kernel_rfl) rfl #[.slice A1 l1.length c1] rfl ?_; (with_reducible refine (impl_whole.calls k2 _ _ l1 t431 _ ?side1 ?side2 A17.out).mono ?_); (case side1 => repeat (first | exact (Kd.C_below HR1.out HB.out) | (with_reducible refine Kd.C_alloc ?_ _) | (with_reducible refine Kd.C_drewN ?_ _) | (with_reducible refine Kd.C_drew ?_))); (case side2 => exact HC1.out); rintro e w' ⟨rfl, ⟨nd, rfl⟩⟩; refine ⟨_, rfl, ?_⟩; have hcz25_0 : wr.cell? ⟨gb419, 0, none⟩ = some (.int .i64 a0_0) := (bc_ BK419.out 0).trans rfl; have hcz25_1 : wr.cell? ⟨gb419, 1, none⟩ = some (.int .i64 a0_1) := (bc_ BK419.out 1).trans rfl; have hcz25_2 : wr.cell? ⟨gb419, 2, none⟩ = some (.slice A0_2 l0_2.length c0_2) := (bc_ BK419.out 2).trans rfl; have hfz25_0 := bf_ BK419.out 0; have hfz25_1 := bf_ BK419.out 1; have hfz25_2 := bf_ BK419.out 2; obtain ⟨Ao26, co26, eo26⟩ := Kd.R_slice HO_8.out; subst eo26) | ((with_reducible refine gate_callee (f := 23) rfl ?_); refine goesA_ (some 33) rfl rfl Try.func23 (by kernel_rfl) rfl #[.agg #[.int .i64 a0_0, .int .i64 a0_1, .slice A0_2 l0_2.length c0_2], .slice Ao26 x8_2.length co26] rfl ?_; (with_reducible refine (impl_Sea_best.calls a0_0 a0_1 _ _ l0_2 _ _ x8_2 t432 _ ?side1 ?side2 ?side3 ?side4 A19.out).mono ?_); (case side1 => repeat (first | exact (Kd.C_below HR0_2.out (by repeat (first | (with_reducible first | exact HB.out | apply ba_ | apply pbN_ | apply bd1_ | refine bs_ ?_ GE419.out) | exact HB.out))) | (with_reducible refine Kd.C_alloc ?_ _) | (with_reducible refine Kd.C_drewN ?_ _) | (with_reducible refine Kd.C_drew ?_))); (case side2 => exact HC0_2.out); (case side3 => repeat (first | exact (Kd.R_reads' HO_8.out).2.2 | (with_reducible refine Kd.C_alloc ?_ _) | (with_reducible refine Kd.C_drewN ?_ _) | (with_reducible refine Kd.C_drew ?_))); (case side4 => exact (Kd.R_reads' HO_8.out).2.1); rintro e w27 ⟨rfl, hb⟩; refine ⟨_, rfl, ?_⟩; have n0_ := Aside0.mk (Kd.R_below (by (with_reducible repeat (first | apply Kd.R_alloc | apply Kd.R_drewN | apply Kd.R_drew)); exact HO_7.out) hb); have n1_ := Aside0.mk (Kd.R_below (by (with_reducible repeat (first | apply Kd.R_alloc | apply Kd.R_drewN | apply Kd.R_drew)); exact HO_8.out) hb); have n2_ := Aside0.mk (bb_ (g := gb419) (o := .cells #[.int .i64 a0_0, .int .i64 a0_1, .slice A0_2 l0_2.length c0_2] 28 (0, 0)) (by (with_reducible repeat (first | refine bN_ ?_ _ | refine bkd_ ?_ | refine bka_ ?_ _)); exact BK419.out) hb); have n3_ := Aside0.mk (bp_ (by repeat (first | (with_reducible first | exact HB.out | apply ba_ | apply pbN_ | apply bd1_ | refine bs_ ?_ GE419.out) | exact HB.out)) hb); clear HO_7; clear HO_8; clear BK419; clear HB; have HO_7 := n0_; have HO_8 := n1_; have BK419 := n2_; have HB := n3_; clear n0_ n1_ n2_ n3_; (try clear hb); (try clear hb2); (try clear hk); (try clear hi)) | ((with_reducible refine gate_builtin (b := .append) (xs := #[.tmp 34, .tmp 36]) rfl ?_); at_builtin; refine Kd.R_append (Kd.int .i64) (w0 := w) w.heap.size rfl (.tmp 34) (.tmp 36) 22 2 (.int .i64 0) 8 rfl Try.underlying22 info2 rfl (by decide) (by omega) u7 x7_2 t432 [.int .i64 t432] (fun _ => True) (fun _ => False) rfl rfl ?aP (fun _ hk => hk.elim) ?aF ?aO ?aB ?aS ?aL ?_; (case aP => exact rfl); (case aB => exact (by repeat (first | (with_reducible first | exact HB.out | apply ba_ | apply pbN_ | apply bd1_ | refine bs_ ?_ GE419.out) | exact HB.out))); (case aF => exact (fun _ _ => trivial)); (case aO => exact (by (with_reducible repeat (first | apply Kd.R_alloc | apply Kd.R_drewN | apply Kd.R_drew)); exact HO_7.out)); (case aS => exact (bz_ (by repeat (first | (with_reducible first | exact HB.out | apply ba_ | apply pbN_ | apply bd1_ | refine bs_ ?_ GE419.out) | exact HB.out)))); (case aL => have := LMc20.out; omega); intro v434 w28 ho hb hg hat; rw [← Ny433.out] at ho; have n0_ := Aside0.mk (Kd.R_over' (by (with_reducible repeat (first | apply Kd.R_alloc | apply Kd.R_drewN | apply Kd.R_drew)); exact HO_8.out) (Kd.R_typed (by (with_reducible repeat (first | apply Kd.R_alloc | apply Kd.R_drewN | apply Kd.R_drew)); exact HO_7.out)) (by decide) hg); have n1_ := Aside0.mk (blk_grown (g := gb419) (o := .cells #[.int .i64 a0_0, .int .i64 a0_1, .slice A0_2 l0_2.length c0_2] 28 (0, 0)) (by (with_reducible repeat (first | refine bN_ ?_ _ | refine bkd_ ?_ | refine bka_ ?_ _)); exact BK419.out) hg (Kd.R_ne HO_7.out BK419.out (by decide))); have n2_ := Aside0.mk (hb); have n3_ := Aside0.mk (ho); clear HO_8; clear BK419; clear HB; clear HO_7; have HO_8 := n0_; have BK419 := n1_; have HB := n2_; have HO435 := n3_; clear n0_ n1_ n2_ n3_; clear ho hb hg hat) | ((with_reducible refine gate_callee (f := 24) rfl ?_); refine goesA_ (some 43) rfl rfl Try.func24 (by kernel_rfl) rfl #[.slice A1 l1.length c1, .int .i64 x9_2, .int .i64 t432] rfl ?_; (with_reducible refine (impl_answer.calls k2 _ _ l1 x9_2 t432 t436 _ ?side1 ?side2 A21.out).mono ?_); (case side1 => repeat (first | exact (Kd.C_below HR1.out HB.out) | (with_reducible refine Kd.C_alloc ?_ _) | (with_reducible refine Kd.C_drewN ?_ _) | (with_reducible refine Kd.C_drew ?_))); (case side2 => exact HC1.out); rintro e w' ⟨rfl, ⟨nd, rfl⟩⟩; refine ⟨_, rfl, ?_⟩) | ((with_reducible refine gate_builtin (b := .append) (xs := #[.tmp 38, .tmp 45]) rfl ?_); at_builtin; refine Kd.R_append k45 (w0 := w) w.heap.size rfl (.tmp 38) (.tmp 45) 39 45 (.agg #[(.int .i64 0), (.int .i64 0)]) 16 rfl Try.underlying39 info45 rfl (by decide) (by omega) (.slice Ao26 x8_2.length co26) x8_2 (⟨t432, t436⟩ : S45) [.int .i64 t432, .int .i64 t436] (fun _ => True) (fun _ => False) rfl rfl ?aP (fun _ hk => hk.elim) ?aF ?aO ?aB ?aS ?aL ?_; (case aP => exact k45_mkM _ _ _ (⟨t432, t436⟩ : S45)); (case aB => exact (by repeat (first | (with_reducible first | exact HB.out | apply ba_ | apply pbN_ | apply bd1_ | refine bs_ ?_ GE419.out) | exact HB.out))); (case aF => exact (fun _ _ => trivial)); (case aO => exact (by (with_reducible repeat (first | apply Kd.R_alloc | apply Kd.R_drewN | apply Kd.R_drew)); exact HO_8.out)); (case aS => exact (bz_ (by repeat (first | (with_reducible first | exact HB.out | apply ba_ | apply pbN_ | apply bd1_ | refine bs_ ?_ GE419.out) | exact HB.out)))); (case aL => have := LMc22.out; omega); intro v438 w29 ho hb hg hat; rw [← Ny437.out] at ho; have n0_ := Aside0.mk (blk_grown (g := gb419) (o := .cells #[.int .i64 a0_0, .int .i64 a0_1, .slice A0_2 l0_2.length c0_2] 28 (0, 0)) (by (with_reducible repeat (first | refine bN_ ?_ _ | refine bkd_ ?_ | refine bka_ ?_ _)); exact BK419.out) hg (Kd.R_ne HO_8.out BK419.out (by decide))); have n1_ := Aside0.mk (Kd.R_over' (by (with_reducible repeat (first | apply Kd.R_alloc | apply Kd.R_drewN | apply Kd.R_drew)); exact HO435.out) (Kd.R_typed (by (with_reducible repeat (first | apply Kd.R_alloc | apply Kd.R_drewN | apply Kd.R_drew)); exact HO_8.out)) (by decide) hg); have n2_ := Aside0.mk (hb); have n3_ := Aside0.mk (ho); clear BK419; clear HO435; clear HB; clear HO_8; have BK419 := n0_; have HO435 := n1_; have HB := n2_; have HO439 := n3_; clear n0_ n1_ n2_ n3_; clear ho hb hg hat))
          go_roundg k2
          case measure => have := HJ3.out; have := HK2.out; omega
          case rel => exact ⟨(y433), (y437), (Go.bits .or .i64 x9_2 (ji24)), (by first | rfl | (simp; done) | (simp only [← hji24] <;> (first | rfl | simp)) | (simp [*]; done)), H', ⟨by have := HJ3.out; have := HK2.out; omega⟩, ⟨by (with_reducible repeat (first | apply Kd.R_alloc | apply Kd.R_drewN | apply Kd.R_drew)); exact HO435.out⟩, ⟨by (with_reducible repeat (first | apply Kd.R_alloc | apply Kd.R_drewN | apply Kd.R_drew)); exact HO439.out⟩, ⟨by (with_reducible repeat (first | refine bN_ ?_ _ | refine bkd_ ?_ | refine bka_ ?_ _)); exact BK419.out⟩, ⟨by repeat (first | (with_reducible first | exact HB.out | apply ba_ | apply pbN_ | apply bd1_ | refine bs_ ?_ GE419.out) | exact HB.out)⟩⟩
         ·rw [if_neg c23] at H
          exact absurd H (by simp)
        ·rw [if_neg c22] at H
         exact absurd H (by simp)
       ·rw [if_neg c20] at H
        exact absurd H (by simp)
   ·rw [if_neg c12] at H
    have c12b0 : (x6_3 == 0) = false := beq_eq_false_iff_ne.mpr c12
    have c12b1 : (x6_3 != 0) = true := bne_iff_ne.mpr c12
    simp only [Option.some.injEq, Prod.mk.injEq] at H
    obtain ⟨rfl, rfl⟩ := H
    go_wp2
    go_ret2
    exact ⟨_, by first | rfl | (simp [errW_none, errW_some] <;> rfl) | (simp [*, errW_none, errW_some] <;> rfl), by first | exact Kd.R_nil _ _ _ _ _ | exact Kd.N_nil _ _ _ _ _ | exact Kd.V_nil _ _ _ _ _ | exact Kd.Q_nil _ _ _ _ _ | exact Kd.S_nil _ _ _ _ _, by repeat (first | (with_reducible first | exact HB.out | apply ba_ | apply pbN_ | apply bd1_ | refine bs_ ?_ GE419.out) | exact HB.out)⟩

end Go.Proofs.Ythmfpdkemkjpkaa.F
